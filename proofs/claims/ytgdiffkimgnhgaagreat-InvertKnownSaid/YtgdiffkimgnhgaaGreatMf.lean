/- The library, part 6: W24, W25, W26, SP9, W27, W30a, W31, W32, W33, W34, WB2, W35, W36, W37, W38, SP15, SP16, W39, SP17, W43a, W49, W50, W51, W52, W53, SP23, SP29, W54, W55, W143, W56, W57, W58, SP27, SP31, W70, AE75, SP58, SP59, SP60, SP61, SP82, W144, W145, AE51, AE52, AE54, SP36, W92, W59, SP20, SP38, SP70, SP71, AE62, W117, AE57, AE63, AE64, AE65, AE66, W118, W60. -/
import Derived.Test.YtgdiffkimgnhgaaGreatMe
import Derived.BigCall
import Derived.Test.YtgdiffkimgnhgaaGreatMd
import Derived.Lib.Bytealg
import Derived.Test.YtgdiffkimgnhgaaGreatMc
/- W24: leaftext.Apply, by the kit's own tactics. -/
namespace Bow
open Go Go.Proofs Go.RowKit

theorem pieces_flat (l : List PieceT) : ∀ x ∈ l.map pieceV, flatL x.cells = true := by
  intro x hx
  obtain ⟨p, _, rfl⟩ := List.mem_map.1 hx
  rfl

theorem c_right (l : List PieceT) (hl : l.length ≤ 1000000) (hpl : ∀ p ∈ l, p.put.length ≤ 1000000000) (v : Value) (w : World) (h : Rep w β0 [] (piecesV l) v) :
    Calls Tryz.prog 83 #[v] w fun e w' => e = .returned (.bool (rightP l)) ∧ Below w.heap.size w w' := by
  refine calls_of_pureQ (β := β0) (H := []) (w_Right l hl hpl) (fun x u w' β' H' hx hu => ?_) rfl rfl ?_
  · subst hx
    exact rep_bool (m := []) hu
  · intro j x u hj hu
    cases j with
    | zero => simp at hj hu; subst hj hu; exact h
    | succ j => simp at hj
theorem c_extent (l : List PieceT) (hl : l.length ≤ 4096) (hok : ∀ p ∈ l, p.Ok) (v : Value) (w : World) (h : Rep w β0 [] (piecesV l) v) :
    Calls Tryz.prog 109 #[v] w fun e w' => e = .returned (.int .i64 (extentP l)) ∧ Below w.heap.size w w' := by
  refine calls_of_pureQ (β := β0) (H := []) (w_extent l hl hok) (fun x u w' β' H' hx hu => ?_) rfl rfl ?_
  · subst hx
    exact rep_int (m := []) hu
  · intro j x u hj hu
    cases j with
    | zero => simp at hj hu; subst hj hu; exact h
    | succ j => simp at hj

theorem rep_below {w w' : World} {x : V} {v : Value} (h : Rep w β0 [] x v) (hb : Below w.heap.size w w') : Rep w' β0 [] x v := h.mono (Fr.of_below hb)

theorem ba_of (x : ByteArray) (y : List UInt8) (h : x.data.toList = y) : x = ⟨y.toArray⟩ := by
  obtain ⟨⟨l⟩⟩ := x
  subst h
  rfl
theorem hidU {p : Prop} (h : p) : Hid p := h

set_option maxHeartbeats 4000000 in
set_option maxRecDepth 1000000 in
theorem edit_walk (S : ByteArray) (l : List PieceT) (ht : S.size ≤ 1000000000) (hl : l.length ≤ 1000000) (hpl : ∀ p ∈ l, p.put.length ≤ 1000000000) (ao : Option Addr) (cap : Nat) (w : World) (hrep : Rep w β0 [] (piecesV l) (.slice ao l.length cap)) :
    Calls Tryz.prog 86 #[.string S, .slice ao l.length cap] w fun e w' => e = .returned (.tuple #[.string ⟨(applyE S.data.toList l).1.toArray⟩, .int .i64 (applyE S.data.toList l).2]) ∧ Below w.heap.size w w' := by
  go_enter Tryz.func86, Tryz.ntmps86
  have cR := c_right l hl hpl _ w hrep
  go_wp2_with (go_at_call 83; refine cR.mono ?_)
  rintro e w1 ⟨rfl, hb1⟩
  clear cR
  cases hr : rightP l with
  | false =>
    go_wp2
    go_ret2
    refine ⟨?_, hb1⟩
    unfold applyE
    rw [hr]
    rfl
  | true =>
    obtain ⟨r1, r2, r3⟩ := rightP_ok hr
    have cE := c_extent l r1 r2 _ w1 (rep_below hrep hb1)
    go_wp2_with (go_at_call 109; refine cE.mono ?_)
    rintro e w2 ⟨rfl, hb2⟩
    clear cE
    have hb12 : Below w.heap.size w w2 := hb1.trans (hb2.mono hb1.size)
    by_cases hx : (S.size : Int) < extentP l
    · go_wp2
      go_ret2
      refine ⟨?_, hb12⟩
      unfold applyE
      rw [hr, decide_eq_true (by simpa using hx)]
      rfl
    · go_wp2
      go_loopw [0, 21] (fun text i wr => ∃ (k : Nat) (T acc : List UInt8), k ≤ l.length ∧ text = .string ⟨T.toArray⟩ ∧ i = .int .i64 k ∧ Lib.IsBuilderF 126 5 w2.heap.size w2.heap.size (Lib.byteCells acc) wr ∧ Below w2.heap.size w2 wr ∧ acc ++ editP T (l.drop k) = editP S.data.toList l ∧ extentP (l.drop k) ≤ T.length ∧ acc.length + T.length + putsLen (l.drop k) ≤ S.data.toList.length + putsLen l) (fun _ i _ => l.length - (intOf i).toNat)
      case atStart =>
        refine ⟨0, S.data.toList, [], Nat.zero_le _, rfl, rfl, Lib.IsBuilderF.of (Lib.fresh_isBuilder _ _ w2), (Below.refl _ _).alloc (Nat.le_refl _) _, rfl, ?_, ?_⟩
        · simpa using hx
        · simp
      case round =>
        obtain ⟨k, T, acc, hk, rfl, rfl, hI, hbw, hacc, hext, hsz⟩ := hrel
        by_cases hlt : k < l.length
        · obtain ⟨a, cap', hv, hcap, hmax, hc⟩ := sl_cells (rep_below (rep_below hrep hb12) hbw)
          obtain ⟨e1, e2, e3⟩ : ao = a ∧ l.length = (l.map pieceV).length ∧ cap = cap' := by injection hv with e1 e2 e3; exact ⟨e1, e2, e3⟩
          obtain ⟨ad, rfl, hblk, hc⟩ := hc (by intro h; simp at h; subst h; simp at hlt)
          subst e1
          have hg : (l.map pieceV)[k]? = some (pieceV l[k]) := by simp [hlt]
          obtain ⟨u0, h0, q0⟩ := hc k _ 0 _ hg rfl
          obtain ⟨u1, h1, q1⟩ := hc k _ 1 _ hg rfl
          obtain ⟨u2, h2, q2⟩ := hc k _ 2 _ hg rfl
          cases rep_int (m := []) q0
          cases rep_int (m := []) q1
          obtain ⟨q2, hput⟩ := rep_str (m := []) q2
          subst q2
          rw [← add_add'] at h1 h2
          have h0 : wr.cell? (ad.add (k * 3)) = some (.int .i64 l[k].keep) := h0
          have h1 : wr.cell? ⟨(ad.add (k * 3)).block, (ad.add (k * 3)).off + 1, none⟩ = some (.int .i64 l[k].drop) := h1
          have h2 : wr.cell? ⟨(ad.add (k * 3)).block, (ad.add (k * 3)).off + 2, none⟩ = some (.string ⟨l[k].put.toArray⟩) := h2
          clear q0 q1 hc hg hcap hmax hv e2 e3
          have hd : l.drop k = l[k] :: l.drop (k + 1) := drop_cons hlt
          have hok := r2 l[k] (List.getElem_mem hlt)
          have k0 := hok.k0; have k1 := hok.k1; have d0 := hok.d0; have d1 := hok.d1
          have hen : 0 ≤ extentP (l.drop (k + 1)) := extentP_nonneg fun q hq => r2 q (List.mem_of_mem_drop hq)
          rw [hd, extentP_cons] at hext
          have hpt : putsLen (l[k] :: l.drop (k + 1)) = l[k].put.length + putsLen (l.drop (k + 1)) := rfl
          rw [hd, hpt] at hsz
          rw [hd] at hacc
          have hacc := hidU hacc
          have hN := hidU hsz
          clear hsz
          obtain ⟨p, hp⟩ : ∃ p, l[k] = p := ⟨_, rfl⟩
          simp only [hp] at *
          have hsT : (⟨T.toArray⟩ : ByteArray).size = T.length := by simp [ByteArray.size]
          have hI1 := Lib.IsBuilderF.alloc hI (.cells #[.int .i64 p.keep, .int .i64 p.drop, .string ⟨p.put.toArray⟩] 43)
          have hw1 : Below w2.heap.size w2 (wr.alloc (.cells #[.int .i64 p.keep, .int .i64 p.drop, .string ⟨p.put.toArray⟩] 43)) := hbw.alloc hbw.size _
          have hbl : w2.heap.size < wr.heap.size := by
            have : ∀ q, Lib.BuilderAtF 126 5 w2.heap.size w2.heap.size q (Lib.byteCells acc) wr → w2.heap.size < wr.heap.size := by
              rintro q ⟨_, v, hbk, _⟩
              exact (Array.getElem?_eq_some_iff.1 hbk).1
            rcases hI with h | h
            · exact this _ h
            · exact this _ h
          have hbox : (wr.alloc (.cells #[.int .i64 p.keep, .int .i64 p.drop, .string ⟨p.put.toArray⟩] 43)).heap[wr.heap.size]? = some (.cells #[.int .i64 p.keep, .int .i64 p.drop, .string ⟨p.put.toArray⟩] 43 (0, 0)) := heap_alloc_new wr _
          have hne : ∀ (c : Array Value) (fz : Nat × Nat), (Obj.cells #[.int .i64 p.keep, .int .i64 p.drop, .string ⟨p.put.toArray⟩] 43 (0, 0)) ≠ Obj.cells c 5 fz := fun c fz h => by
            injection h with h1 h2 h3
            exact absurd h2 (by decide)
          have hne := hidU hne
          have hI1 := hidU hI1
          have hN2 := hN.out
          have hx1 : (ByteArray.extract ⟨T.toArray⟩ 0 p.keep.toNat).data.toList = T.take p.keep.toNat := by rw [Lib.extract_data]; simp
          have hx1s : (ByteArray.extract ⟨T.toArray⟩ 0 p.keep.toNat).size = p.keep.toNat := by
            rw [Lib.size_eq, hx1, List.length_take]
            omega
          have hsz' : S.data.toList.length + putsLen l ≤ 1000000000 + 1048576 := by rw [← Lib.size_eq]; omega
          have hsz'' : acc.length + (T.length + (p.put.length + putsLen (l.drop (k + 1)))) ≤ 1000000000 + 1048576 := by omega
          have hsz'' := hidU hsz''
          clear hN2 hsz'
          go_wp2_with fail
          refine (b_WriteString w2.heap.size w2.heap.size _ _ _ hI1.out (by rw [Lib.byteCells_length, hx1s]; have := hsz''.out; omega) (Nat.le_trans (Nat.le_of_lt hbl) (by simp))).mono ?_
          rintro e W1 ⟨rfl, hA1, b1, q1⟩
          have hbox1 := q1 _ _ hbox (by simp; omega) hne.out
          have c2 : W1.cell? ⟨wr.heap.size, 2, none⟩ = some (.string ⟨p.put.toArray⟩) := by rw [Lib.cell_of_heap hbox1]; rfl
          have hsz1 : w2.heap.size ≤ W1.heap.size := Nat.le_trans hw1.size b1.size
          have hA1 : Lib.IsBuilderF 126 5 w2.heap.size w2.heap.size _ W1 := .inr hA1
          have hA1 := hidU hA1
          have hbox1 := hidU hbox1
          have hq : Below w2.heap.size w2 W1 := hw1.trans b1
          clear b1 q1 hw1 hbox
          go_wp2_with fail
          refine (b_WriteString w2.heap.size w2.heap.size _ _ _ hA1.out (by rw [List.length_append, Lib.byteCells_length, Lib.strCells_eq, Lib.byteCells_length, hx1, List.length_take, Lib.size_eq]; have := hsz''.out; simp only []; omega) hsz1).mono ?_
          rintro e W2 ⟨rfl, hA2, b2, q2⟩
          have hbox2 := q2 _ _ hbox1.out (by simp; omega) hne.out
          have c3 : W2.cell? ⟨wr.heap.size, 0, none⟩ = some (.int .i64 p.keep) := by rw [Lib.cell_of_heap hbox2]; rfl
          have c4 : W2.cell? ⟨wr.heap.size, 1, none⟩ = some (.int .i64 p.drop) := by rw [Lib.cell_of_heap hbox2]; rfl
          have hA2 : Lib.IsBuilderF 126 5 w2.heap.size w2.heap.size _ W2 := .inr hA2
          have hA2 := hidU hA2
          have hq2 : Below w2.heap.size w2 W2 := hq.trans b2
          clear b2 q2 hbox2 c2
          go_wp2_with fail
          refine ⟨⟨k + 1, T.drop (p.keep + p.drop).toNat, acc ++ T.take p.keep.toNat ++ p.put, hlt, ?_, rfl, ?_, hq2, ?_, ?_, ?_⟩, ?_⟩
          · congr 1
            refine ba_of _ _ ?_
            rw [Lib.extract_data]
            exact List.take_of_length_le (by simp)
          · have := hA2.out
            rw [Lib.strCells_eq, Lib.strCells_eq, hx1, ← Lib.byteCells_append, ← Lib.byteCells_append] at this
            exact this
          · rw [← hacc.out]
            show _ = acc ++ editP T (p :: l.drop (k + 1))
            rw [editP]
            simp only [List.append_assoc]
          · rw [List.length_drop]
            omega
          · have := hN.out
            simp only [List.length_append, List.length_take, List.length_drop]
            omega
          · show l.length - (k + 1 : Int).toNat < l.length - (k : Int).toNat
            omega
        · have hke : k = l.length := by omega
          have hd : l.drop k = [] := List.drop_eq_nil_of_le (by omega)
          rw [hd] at hacc hsz hext
          have hacc : acc ++ T = editP S.data.toList l := hacc
          have hsz : acc.length + T.length + 0 ≤ S.data.toList.length + putsLen l := hsz
          have hS : S.data.toList.length ≤ 1000000000 := by rw [← Lib.size_eq]; omega
          have hI := hidU hI
          have hacc := hidU hacc
          have hN : Hid (acc.length + T.length ≤ 1000000000 + 1048576) := hidU (by omega)
          clear hsz hext hS
          go_wp2_with fail
          refine (b_WriteString w2.heap.size w2.heap.size _ _ _ hI.out (by rw [Lib.byteCells_length, Lib.size_eq]; have := hN.out; simp only []; omega) hbw.size).mono ?_
          rintro e W1 ⟨rfl, hA1, b1, q1⟩
          have hq : Below w2.heap.size w2 W1 := hbw.trans b1
          have hA1 : Lib.IsBuilderF 126 5 w2.heap.size w2.heap.size _ W1 := .inr hA1
          rw [Lib.strCells_eq, ← Lib.byteCells_append] at hA1
          have hA1 := hidU hA1
          clear b1 q1
          go_wp2_with fail
          refine (b_String w2.heap.size w2.heap.size _ _ hA1.out hq.size).mono ?_
          rintro e W2 ⟨rfl, _, b2, _⟩
          have hq2 : Below w2.heap.size w2 W2 := hq.trans b2
          clear b2
          go_wp2
          go_ret2
          refine ⟨?_, hb12.trans (hq2.mono hb12.size)⟩
          have : applyE S.data.toList l = (editP S.data.toList l, 0) := by
            unfold applyE
            rw [hr, decide_eq_false (by rw [← Lib.size_eq]; simpa using hx)]
            rfl
          rw [this, ← hacc.out]
          rfl

theorem editP_length : ∀ (t : List UInt8) (l : List PieceT), (∀ p ∈ l, p.Ok) → (editP t l).length ≤ t.length + putsLen l
  | t, [], _ => Nat.le_refl _
  | t, p :: l, h => by
    have ih := editP_length (t.drop (p.keep + p.drop).toNat) l fun q hq => h q (List.mem_cons_of_mem _ hq)
    have hp := h p List.mem_cons_self
    have := hp.k0
    have := hp.d0
    have e : putsLen (p :: l) = p.put.length + putsLen l := rfl
    rw [editP, e]
    rw [List.length_drop] at ih
    simp only [List.length_append, List.length_take]
    omega
theorem applyE_len (t : List UInt8) (l : List PieceT) : (applyE t l).1.length ≤ t.length + 1048576 := by
  unfold applyE
  cases hr : rightP l with
  | false => simp
  | true =>
    obtain ⟨r1, r2, r3⟩ := rightP_ok hr
    cases decide ((t.length : Int) < extentP l) with
    | false =>
      have := editP_length t l r2
      simp only [Bool.not_true, cond_false]
      omega
    | true => simp

theorem w_edit (t : List UInt8) (l : List PieceT) (ht : t.length ≤ 1000000000) (hl : l.length ≤ 1000000) (hpl : ∀ p ∈ l, p.put.length ≤ 1000000000) :
    Pure Tryz.prog 86 [.str t, piecesV l] (fun x => x = strE (applyE t l)) := by
  refine pure_of_calls ?_ rfl fun w β H vals hv hr => ?_
  · exact ⟨_, Tryz.func86, rfl, rfl⟩
  · obtain ⟨v0, v1, rfl⟩ : ∃ v0 v1, vals = #[v0, v1] := by
      obtain ⟨l⟩ := vals
      match l, hv with
      | [v0, v1], _ => exact ⟨v0, v1, rfl⟩
    have h0 := hr 0 _ v0 rfl rfl
    have h1 := hr 1 _ v1 rfl rfl
    obtain ⟨rfl, _⟩ := rep_str (m := []) h0
    have h1 := Rep.flat_sl (pieces_flat l) h1
    obtain ⟨a, cap, rfl, _⟩ := sl_cells h1
    have e : (l.map pieceV).length = l.length := by simp
    rw [e] at h1 ⊢
    refine (edit_walk ⟨t.toArray⟩ l (by simpa [ByteArray.size] using ht) hl hpl a cap w h1).mono ?_
    rintro e w' ⟨rfl, hb⟩
    have hm := applyE_len t l
    have hS : (⟨t.toArray⟩ : ByteArray).data.toList = t := rfl
    rw [hS]
    refine ⟨hb, strE (applyE t l), _, rfl, rfl, rfl, .tup _ _ rfl fun j c v hc hv => ?_⟩
    match j, hc, hv with
    | 0, hc, hv =>
      simp at hc hv
      subst hc hv
      exact .str _ (by unfold maxLen; omega)
    | 1, hc, hv =>
      simp at hc hv
      subst hc hv
      exact .int _ _
    | j + 2, hc, hv => simp at hc
end Bow
/- W25: which operations are valid. -/
namespace Bow
open Go Go.Proofs

theorem text_le_weight (t : Tree) : t.text.length < t.weight := by have := weight_eq t; omega
set_option maxRecDepth 100000 in
theorem w_valid (t : Tree) (o : OpT) (ht : t.weight ≤ 1000000) (ho : o.Ok) : Pure Tryz.prog 60 [nodeV t, opV o] (fun x => x = .int .i64 (validE t o)) := by
  have hp := ho.lt.path
  have hto := ho.lt.to
  have hpc := ho.lt.pieces
  have hpl := ho.each
  refine pure_fn 300 Tryz.func60 rfl rfl rfl fun B => ?_
  show CallThen _ _ _ _ _ _
  refine call_pure (w_At t o.path hp) rfl ?_
  rintro x rfl
  cases hat : atT t o.path with
  | none =>
    repeat' first
      | (refine ⟨fun _ => go 300 ?_, fun _ => go 300 ?_⟩)
      | (refine ⟨trivial, rfl, rfl, rfl, ?_⟩)
      | fail
    all_goals (show V.int _ _ = _; simp_all [validE]; done)
  | some x =>
    have hxw := atT_weight hat
    have hxt := text_le_weight x
    repeat' first
      | (refine ⟨fun _ => go 300 ?_, fun _ => go 300 ?_⟩)
      | (show CallThen _ _ _ _ _ _; refine call_pure (w_into x o.at_) rfl ?_; rintro z rfl)
      | (show CallThen _ _ _ _ _ _; refine call_pure (w_pathWithin o.path o.to hp) rfl ?_; rintro z rfl)
      | (show CallThen _ _ _ _ _ _; refine call_pure (w_edit x.text o.pieces (by omega) (by omega) hpl) rfl ?_; rintro z rfl)
      | (show CallThen _ _ _ _ _ _; refine call_pure (w_At t o.to hto) rfl ?_; rintro z rfl; cases hat2 : atT t o.to with
          | none => exact ⟨trivial, rfl, rfl, rfl, (by show V.int _ _ = _; simp_all [validE])⟩
          | some y =>
            show CallThen _ _ _ _ _ _
            refine call_pure (w_into y o.at_) rfl ?_
            rintro z rfl
            exact ⟨trivial, rfl, rfl, rfl, (by show V.int _ _ = _; simp_all [validE])⟩)
      | (refine ⟨trivial, rfl, rfl, rfl, ?_⟩)
      | fail
    all_goals (show V.int _ _ = _; simp_all [validE])

set_option maxRecDepth 100000 in
theorem w_Valid (t : Tree) (o : OpT) (ht : t.weight ≤ 1000000) (ho : o.Ok) : Pure Tryz.prog 31 [nodeV t, opV o] (fun x => x = .int .i64 (ValidE t o)) := by
  refine pure_fn 300 Tryz.func31 rfl rfl rfl fun B => ?_
  show CallThen _ _ _ _ _ _
  refine call_pure (w_RightT t ht) rfl ?_
  rintro x rfl
  refine ⟨fun g1 => go 300 ?_, fun g1 => go 300 ?_⟩
  · exact ⟨trivial, rfl, rfl, rfl, by unfold ValidE; rw [g1]; rfl⟩
  show CallThen _ _ _ _ _ _
  refine call_pure (w_Formed o ho.lt ho.each) rfl ?_
  rintro x rfl
  refine ⟨fun g2 => go 300 ?_, fun g2 => go 300 ?_⟩
  · exact ⟨trivial, rfl, rfl, rfl, by unfold ValidE; rw [g1, g2]; rfl⟩
  show CallThen _ _ _ _ _ _
  refine call_pure (w_valid t o ht ho) rfl ?_
  rintro x rfl
  exact ⟨trivial, rfl, rfl, rfl, by unfold ValidE; rw [g1, g2]; rfl⟩

set_option maxHeartbeats 4000000 in
set_option maxRecDepth 100000 in
theorem w_refValid (t : Tree) (o : OpT) (ht : t.weight ≤ 1000000) (ho : o.Ok) : Pure Tryz.prog 33 [nodeV t, opV o] (fun x => x = .int .i64 (ValidE t o)) := by
  have hp := ho.lt.path
  have hto := ho.lt.to
  have hpc := ho.lt.pieces
  have hpl := ho.each
  refine pure_fn 300 Tryz.func33 rfl rfl rfl fun B => ?_
  show CallThen _ _ _ _ _ _
  refine call_pure (w_refRightT t ht) rfl ?_
  rintro x rfl
  refine ⟨fun g1 => go 300 ?_, fun g1 => go 300 ?_⟩
  · exact ⟨trivial, rfl, rfl, rfl, by unfold ValidE; rw [g1]; rfl⟩
  show CallThen _ _ _ _ _ _
  refine call_pure (w_refFormed o ho.lt ho.each) rfl ?_
  rintro x rfl
  refine ⟨fun g2 => go 300 ?_, fun g2 => go 300 ?_⟩
  · exact ⟨trivial, rfl, rfl, rfl, by unfold ValidE; rw [g1, g2]; rfl⟩
  have hV : ValidE t o = validE t o := by unfold ValidE; rw [g1, g2]; rfl
  rw [hV]
  clear hV g1 g2
  repeat' first
    | (refine ⟨fun _ => go 300 ?_, fun _ => go 300 ?_⟩)
    | (show CallThen _ _ _ _ _ _; refine call_pure (w_refAt t o.path hp) rfl ?_; rintro z rfl; cases hat : atT t o.path with
        | none => exact ⟨trivial, rfl, rfl, rfl, (by show V.int _ _ = _; simp_all [validE])⟩
        | some x =>
          have hxw := atT_weight hat
          have hxt := text_le_weight x
          repeat' first
            | (refine ⟨fun _ => go 300 ?_, fun _ => go 300 ?_⟩)
            | (show CallThen _ _ _ _ _ _; refine call_pure (w_refInto x o.at_) rfl ?_; rintro z rfl)
            | (show CallThen _ _ _ _ _ _; refine call_pure (w_refWithin o.path o.to hp) rfl ?_; rintro z rfl)
            | (show CallThen _ _ _ _ _ _; refine call_pure (w_refEdit x.text o.pieces (by omega) (by omega) hpl) rfl ?_; rintro z rfl)
            | (show CallThen _ _ _ _ _ _; refine call_pure (w_refAt t o.to hto) rfl ?_; rintro z rfl; cases hat2 : atT t o.to with
                | none => exact ⟨trivial, rfl, rfl, rfl, (by show V.int _ _ = _; simp_all [validE])⟩
                | some y =>
                  show CallThen _ _ _ _ _ _
                  refine call_pure (w_refInto y o.at_) rfl ?_
                  rintro z rfl
                  exact ⟨trivial, rfl, rfl, rfl, (by show V.int _ _ = _; simp_all [validE])⟩)
            | (refine ⟨trivial, rfl, rfl, rfl, ?_⟩)
            | fail
          all_goals (show V.int _ _ = _; simp_all [validE]))
    | (refine ⟨trivial, rfl, rfl, rfl, ?_⟩)
    | fail
  all_goals (show V.int _ _ = _; simp_all [validE])
end Bow
/- W26: what becomes of a tree. -/
namespace Bow
open Go Go.Proofs

theorem w_apply2 (o : OpT) (y : Tree) : Fun Tryz.prog 102 [some (.box (nodeV y).cells)] [.ptr (.loc 0) 0, .iptr (opV o).cells 0] (fun _ T => T = [some (.box (nodeV (relabelT o.label y)).cells)]) := by
  refine fun_fn 100 Tryz.func102 rfl rfl rfl fun imps B hi => ?_
  obtain ⟨r, rfl⟩ := List.length_eq_one_iff.1 hi
  refine ⟨trivial, rfl, rfl, ?_⟩
  cases y
  rfl
set_option maxRecDepth 100000 in
theorem w_apply3 (o : OpT) (y : Tree) (ho : o.Ok) (hy : y.weight ≤ 1000000) : Fun Tryz.prog 103 [some (.box (nodeV y).cells)] [.ptr (.loc 0) 0, .iptr (opV o).cells 0] (fun _ T => T = [some (.box (nodeV (retextT o.pieces y)).cells)]) := by
  refine fun_fn 100 Tryz.func103 rfl rfl rfl fun imps B hi => ?_
  obtain ⟨r, rfl⟩ := List.length_eq_one_iff.1 hi
  have := text_le_weight y
  show Goes _ _ _ _
  refine goes_drawX [] 100 ⟨_, w_edit y.text o.pieces (by omega) ho.lt.pieces ho.each, rfl, ?_⟩
  refine ⟨by kernel_rfl, ?_⟩
  refine ⟨trivial, rfl, rfl, ?_⟩
  cases y
  rfl
/-- What an operation's walk asks: it is formed, and valid on the tree; and what it makes of it. -/
inductive Does (t : Tree) (o : OpT) : Tree → Prop
  | ins (y) (hk : o.kind = 1) (hy : atT t o.path = some y) (h0 : 0 ≤ o.at_) (h1 : o.at_ ≤ y.subs.length) : Does t o (changeT (insT o.at_ (freshT o)) t o.path)
  | del (x) (hk : o.kind = 2) (hne : o.path ≠ []) (hx : atT t o.path = some x) : Does t o (changeT (delT (lastP o.path)) t o.path.dropLast)
  | mov (x z) (hk : o.kind = 3) (hne : o.path ≠ []) (hx : atT t o.path = some x) (hw : within o.path o.to = false) (hz : atT t o.to = some z) (h0 : 0 ≤ o.at_) (h1 : o.at_ ≤ z.subs.length) : Does t o (moveT x t o)
  | lab (y) (hk : o.kind = 5) (hy : atT t o.path = some y) : Does t o (changeT (relabelT o.label) t o.path)
  | edt (y) (hk : o.kind = 6) (hy : atT t o.path = some y) : Does t o (changeT (retextT o.pieces) t o.path)

theorem wk_fresh (o : OpT) : Wk (.agg [.int .u64 o.id, .bool o.leaf, .str o.label, .nilsl, .str [], .nilsl]) (nodeV (freshT o)) :=
  Wk.agg ⟨.refl _, .refl _, .refl _, Wk.nil 2, .refl _, Wk.nil 6, trivial⟩

set_option maxHeartbeats 1000000 in
set_option maxRecDepth 100000 in
theorem w_apply_k (t : Tree) (o : OpT) (m : Tree) (ht : t.weight ≤ 900000) (ho : o.Ok) (hto : o.kind = 3 → ∀ x ∈ o.to, inI x) (h : Does t o m) : Pure Tryz.prog 75 [nodeV t, opV o] (fun x => x = nodeV m) := by
  have hp := ho.lt.path
  have hpt := ho.lt.to
  refine pure_fn 300 Tryz.func75 rfl rfl rfl fun B => ?_
  cases h with
  | ins y hk hy h0 h1 =>
    refine ⟨fun g1 => go 300 ?_, fun g1 => absurd hk (ne_of g1)⟩
    show CallThen _ _ _ _ _ _
    refine call_pure (pure_args (w_insert t (freshT o) y o.path o.at_ hp ht hy h0 h1) ⟨.refl _, .refl _, .refl _, wk_fresh o, trivial⟩ rfl rfl) rfl ?_
    rintro z rfl
    exact ⟨trivial, rfl, rfl, rfl, rfl⟩
  | del x hk hne hx =>
    obtain ⟨y, y1, y2, y3, y4⟩ := at_parent hne hx
    refine ⟨fun g1 => absurd (hk.symm.trans (eq_of g1)) (by decide), fun g1 => go 300 ?_⟩
    refine ⟨fun g1 => go 300 ?_, fun g1 => absurd hk (ne_of g1)⟩
    show CallThen _ _ _ _ _ _
    refine call_pure (w_remove t y o.path hp hne ht y1 y2 y3) rfl ?_
    rintro z rfl
    exact ⟨trivial, rfl, rfl, rfl, by rw [lastP_eq]; rfl⟩
  | mov x z hk hne hx hw hz h0 h1 =>
    obtain ⟨y, y1, y2, y3, y4⟩ := at_parent hne hx
    refine ⟨fun g1 => absurd (hk.symm.trans (eq_of g1)) (by decide), fun g1 => go 300 ?_⟩
    refine ⟨fun g1 => absurd (hk.symm.trans (eq_of g1)) (by decide), fun g1 => go 300 ?_⟩
    refine ⟨fun g1 => go 300 ?_, fun g1 => absurd hk (ne_of g1)⟩
    show CallThen _ _ _ _ _ _
    refine call_pure (w_At t o.path hp) rfl ?_
    rintro _ rfl
    rw [hx]
    have hzl := subs_le_weight z
    have hzw := atT_weight hz
    show CallThen _ _ _ _ _ _
    refine call_pure (w_landing o.path o.to o.at_ hp hpt hne ⟨by omega, by omega⟩ (hto hk) y2) rfl ?_
    rintro _ rfl
    show Goes _ _ _ _
    have hlast := lastP_eq hne
    have hw' : within (o.path.dropLast ++ [lastP o.path]) o.to = false := by rw [← hlast, List.dropLast_concat_getLast]; exact hw
    obtain ⟨z', z1, z2, z3⟩ := land_at (by rw [← hlast]; exact y2) h0 o.path.dropLast o.to t y z y1 (by rw [← hlast]; exact y3) hw' hz h1
    have hmw := change_weight (del_weight (lastP o.path)) o.path.dropLast t
    have hrem := w_remove t y o.path hp hne ht y1 y2 y3
    have hins := w_insert (changeT (delT (lastP o.path)) t o.path.dropLast) x z' (landT o.path.dropLast (lastP o.path) o.to o.at_).1 (landT o.path.dropLast (lastP o.path) o.to o.at_).2 (by rw [land_len]; exact hpt) (by omega) z1 z2 z3
    rw [← hlast] at hins
    refine goes_drawX [] 300 ⟨_, hrem, rfl, _, hins, rfl, ?_⟩
    refine ⟨by kernel_rfl, ?_⟩
    refine ⟨trivial, rfl, rfl, rfl, ?_⟩
    unfold moveT
    rw [← hlast]
    rfl
  | lab y hk hy =>
    refine ⟨fun g1 => absurd (hk.symm.trans (eq_of g1)) (by decide), fun g1 => go 300 ?_⟩
    refine ⟨fun g1 => absurd (hk.symm.trans (eq_of g1)) (by decide), fun g1 => go 300 ?_⟩
    refine ⟨fun g1 => absurd (hk.symm.trans (eq_of g1)) (by decide), fun g1 => go 300 ?_⟩
    refine ⟨fun g1 => absurd (hk.symm.trans (eq_of g1)) (by decide), fun g1 => go 300 ?_⟩
    refine ⟨fun g1 => go 300 ?_, fun g1 => absurd hk (ne_of g1)⟩
    show CallThen _ _ _ _ _ _
    refine call_freeze 1 rfl rfl ?_
    refine call_pure (w_change1 102 (opV o).cells (relabelT o.label) y (w_apply2 o y) o.path t hp (by omega) hy) rfl ?_
    rintro z rfl
    exact ⟨trivial, rfl, rfl, rfl, rfl⟩
  | edt y hk hy =>
    have hyw := atT_weight hy
    refine ⟨fun g1 => absurd (hk.symm.trans (eq_of g1)) (by decide), fun g1 => go 300 ?_⟩
    refine ⟨fun g1 => absurd (hk.symm.trans (eq_of g1)) (by decide), fun g1 => go 300 ?_⟩
    refine ⟨fun g1 => absurd (hk.symm.trans (eq_of g1)) (by decide), fun g1 => go 300 ?_⟩
    refine ⟨fun g1 => absurd (hk.symm.trans (eq_of g1)) (by decide), fun g1 => go 300 ?_⟩
    refine ⟨fun g1 => absurd (hk.symm.trans (eq_of g1)) (by decide), fun g1 => go 300 ?_⟩
    show CallThen _ _ _ _ _ _
    refine call_freeze 1 rfl rfl ?_
    refine call_pure (w_change1 103 (opV o).cells (retextT o.pieces) y (w_apply3 o y ho (by omega)) o.path t hp (by omega) hy) rfl ?_
    rintro z rfl
    exact ⟨trivial, rfl, rfl, rfl, rfl⟩
/-! ### Apply -/
def ApplyV (r : Tree × Int) : V := .tup [nodeV r.1, .int .i64 r.2]
set_option maxRecDepth 100000 in
theorem w_Apply_bad (t : Tree) (o : OpT) (ht : t.weight ≤ 1000000) (ho : o.Ok) (h : ValidE t o ≠ 0) : Pure Tryz.prog 50 [nodeV t, opV o] (fun x => x = ApplyV (zeroT [], ValidE t o)) := by
  refine pure_wk (pure_fn 300 Tryz.func50 rfl rfl rfl fun B => ?_)
  show CallThen _ _ _ _ _ _
  refine call_pure (w_Valid t o ht ho) rfl ?_
  rintro x rfl
  refine ⟨fun g1 => go 300 ?_, fun g1 => absurd (eq_of' g1) h⟩
  exact ⟨trivial, rfl, rfl, rfl, ApplyV (zeroT [], ValidE t o), Wk.tup ⟨wk_zero (ss := []) (Wk.nil 6), .refl _, trivial⟩, rfl, rfl⟩
set_option maxRecDepth 100000 in
theorem w_Apply_ok (t : Tree) (o : OpT) (m : Tree) (ht : t.weight ≤ 1000000) (ho : o.Ok) (h : ValidE t o = 0) (hm : Pure Tryz.prog 75 [nodeV t, opV o] (fun x => x = nodeV m)) : Pure Tryz.prog 50 [nodeV t, opV o] (fun x => x = ApplyV (m, 0)) := by
  refine pure_fn 300 Tryz.func50 rfl rfl rfl fun B => ?_
  show CallThen _ _ _ _ _ _
  refine call_pure (w_Valid t o ht ho) rfl ?_
  rintro x rfl
  refine ⟨fun g1 => absurd h (ne_of' g1), fun g1 => go 300 ?_⟩
  show CallThen _ _ _ _ _ _
  refine call_pure hm rfl ?_
  rintro x rfl
  exact ⟨trivial, rfl, rfl, rfl, rfl⟩
end Bow
/- SP9: trees that are the same, in plain Lean. -/
namespace Bow
open Go

mutual
def sameT (ids : Bool) : Tree → Tree → Bool
  | .mk i l b a t ss, u => (!ids || decide (i = u.id)) && ((l == u.leaf) && (decide (b = u.label) && (decide (t = u.text) && (decide (a = u.attrs) && sameTs ids ss u.subs))))
def sameTs (ids : Bool) : List Tree → List Tree → Bool
  | [], [] => true
  | s :: ss, u :: us => sameT ids s u && sameTs ids ss us
  | _, _ => false
end
theorem sameT_eq (ids : Bool) (t u : Tree) : sameT ids t u = ((!ids || decide (t.id = u.id)) && ((t.leaf == u.leaf) && (decide (t.label = u.label) && (decide (t.text = u.text) && (decide (t.attrs = u.attrs) && sameTs ids t.subs u.subs))))) := by
  cases t
  rw [sameT]
  rfl
theorem sameTs_len {ids : Bool} : ∀ {ss us : List Tree}, sameTs ids ss us = true → ss.length = us.length
  | [], [], _ => rfl
  | [], _ :: _, h => by simp [sameTs] at h
  | _ :: _, [], h => by simp [sameTs] at h
  | s :: ss, u :: us, h => by
    rw [sameTs, Bool.and_eq_true] at h
    simp [sameTs_len h.2]
theorem sameTs_at {ids : Bool} {ss us : List Tree} {i : Nat} (h1 : i < ss.length) (h2 : i < us.length) : sameTs ids (ss.drop i) (us.drop i) = (sameT ids ss[i] us[i] && sameTs ids (ss.drop (i + 1)) (us.drop (i + 1))) := by
  rw [List.drop_eq_getElem_cons h1, List.drop_eq_getElem_cons h2, sameTs]
end Bow
/- W27: trees that are the same. -/
namespace Bow
open Go Go.Proofs

end Bow
/- W30a: Light, just so. -/
namespace Bow
open Go Go.Proofs

def lightB (o : OpT) (top : Nat) : Bool := decide (o.path.length ≤ top) && decide (o.to.length ≤ top) && decide (o.label.length ≤ top) && decide (o.key.length ≤ top) && decide (o.value.length ≤ top) && decide (o.pieces.length ≤ top) && decide (putsLen o.pieces ≤ top)
theorem lightB_iff (o : OpT) (top : Nat) : lightB o top = true ↔ o.Lt top ∧ putsLen o.pieces ≤ top := by
  unfold lightB
  simp only [Bool.and_eq_true, decide_eq_true_eq]
  constructor
  · rintro ⟨⟨⟨⟨⟨⟨h1, h2⟩, h3⟩, h4⟩, h5⟩, h6⟩, h7⟩
    exact ⟨⟨h1, h2, h3, h4, h5, h6⟩, h7⟩
  · rintro ⟨⟨h1, h2, h3, h4, h5, h6⟩, h7⟩
    exact ⟨⟨⟨⟨⟨⟨h1, h2⟩, h3⟩, h4⟩, h5⟩, h6⟩, h7⟩
theorem Lt_mono {o : OpT} {a b : Nat} (h : o.Lt a) (hab : a ≤ b) : o.Lt b := by
  have := h.path; have := h.to; have := h.label; have := h.key; have := h.value; have := h.pieces
  exact ⟨by omega, by omega, by omega, by omega, by omega, by omega⟩
theorem light_ok {o : OpT} {top : Nat} (h : lightB o top = true) (ht : top ≤ 1000000) : o.Ok := by
  obtain ⟨h1, h2⟩ := (lightB_iff o top).1 h
  exact ⟨Lt_mono h1 ht, by omega⟩

set_option maxRecDepth 100000 in
/-- Light: within the bound, the lengths and what is put. -/
theorem w_LightX (o : OpT) (top : Nat) (ht : top ≤ 1000000) : Pure Tryz.prog 14 [opV o, .int .i64 top] (fun x => x = .bool (lightB o top)) := by
  have bad : ¬ (o.Lt top ∧ putsLen o.pieces ≤ top) → ∃ y, Wk .ff y ∧ y.pureB = true ∧ y = .bool (lightB o top) := fun h => leaf_ff (Bool.eq_false_iff.2 fun h' => h ((lightB_iff o top).1 h'))
  refine pure_wk (pure_fn 300 Tryz.func14 rfl rfl rfl fun B => ?_)
  refine ⟨fun g1 => go 300 ?_, fun g1 => go 300 ?_⟩
  · exact ⟨trivial, rfl, rfl, rfl, bad fun ⟨h, _⟩ => by have := lt_of g1; have := h.path; have := h.to; have := h.label; have := h.key; have := h.value; have := h.pieces; simp only [List.length_map] at *; omega⟩
  refine ⟨fun g2 => go 300 ?_, fun g2 => go 300 ?_⟩
  · exact ⟨trivial, rfl, rfl, rfl, bad fun ⟨h, _⟩ => by have := lt_of g2; have := h.path; have := h.to; have := h.label; have := h.key; have := h.value; have := h.pieces; simp only [List.length_map] at *; omega⟩
  refine ⟨fun g3 => go 300 ?_, fun g3 => go 300 ?_⟩
  · exact ⟨trivial, rfl, rfl, rfl, bad fun ⟨h, _⟩ => by have := lt_of g3; have := h.path; have := h.to; have := h.label; have := h.key; have := h.value; have := h.pieces; simp only [List.length_map] at *; omega⟩
  refine ⟨fun g4 => go 300 ?_, fun g4 => go 300 ?_⟩
  · exact ⟨trivial, rfl, rfl, rfl, bad fun ⟨h, _⟩ => by have := lt_of g4; have := h.path; have := h.to; have := h.label; have := h.key; have := h.value; have := h.pieces; simp only [List.length_map] at *; omega⟩
  refine ⟨fun g5 => go 300 ?_, fun g5 => go 300 ?_⟩
  · exact ⟨trivial, rfl, rfl, rfl, bad fun ⟨h, _⟩ => by have := lt_of g5; have := h.path; have := h.to; have := h.label; have := h.key; have := h.value; have := h.pieces; simp only [List.length_map] at *; omega⟩
  refine ⟨fun g6 => go 300 ?_, fun g6 => go 300 ?_⟩
  · exact ⟨trivial, rfl, rfl, rfl, bad fun ⟨h, _⟩ => by have := lt_of g6; have := h.path; have := h.to; have := h.label; have := h.key; have := h.value; have := h.pieces; simp only [List.length_map] at *; omega⟩
  have g1 := not_lt_of g1
  have g2 := not_lt_of g2
  have g3 := not_lt_of g3
  have g4 := not_lt_of g4
  have g5 := not_lt_of g5
  have g6 := not_lt_of g6
  simp only [List.length_map] at g1 g2 g6
  have hlt : o.Lt top := ⟨by omega, by omega, by omega, by omega, by omega, by omega⟩
  show Goes _ _ _ _
  refine goes_iter (ι := Nat × Nat) (fun i => i.1 ≤ o.pieces.length ∧ i.2 ≤ top ∧ putsLen o.pieces = i.2 + putsLen (o.pieces.drop i.1)) (fun i => o.pieces.length - i.1) (fun i => [(6, .int .i64 i.1), (5, .int .i64 i.2), (1, .int .i64 top), (2, .ptr (.loc 0) 0)]) (fun _ => [some (.box (opV o).cells)]) (0, 0) 200 (fun _ => rfl) (fun _ => rfl) ⟨⟨Nat.zero_le _, Nat.zero_le _, by simp⟩, ?_, ?_⟩ ?_
  · exact ⟨⟨rfl, rfl⟩, ⟨rfl, rfl⟩, ⟨rfl, rfl⟩, ⟨rfl, rfl⟩, trivial⟩
  · exact ⟨⟨rfl, rfl⟩, trivial⟩
  · rintro ⟨i, n⟩ ⟨h1, h3, h2⟩ next
    simp only at h1 h2 h3
    refine ⟨fun hlt => go 200 ?_, fun hge => go 200 ?_⟩
    · have hi : i < o.pieces.length := by simpa using hlt
      have hx : (o.pieces.map pieceV)[i]? = some (pieceV o.pieces[i]) := by simp [hi]
      rw [drop_cons hi] at h2
      have h2 : putsLen o.pieces = n + ((o.pieces[i]).put.length + putsLen (o.pieces.drop (i + 1))) := h2
      refine ⟨Int.natCast_nonneg i, _, hx, ?_⟩
      refine ⟨by constructor <;> omega, ?_⟩
      refine ⟨fun g7 => go 200 ?_, fun g7 => go 200 ?_⟩
      · exact ⟨trivial, rfl, rfl, rfl, bad fun ⟨h, _⟩ => by have := lt_of g7; have := h.path; have := h.to; have := h.label; have := h.key; have := h.value; have := h.pieces; simp only [List.length_map] at *; omega⟩
      have g7 := not_lt_of g7
      refine ⟨Int.natCast_nonneg i, _, hx, ?_⟩
      refine ⟨by constructor <;> omega, ?_⟩
      refine ⟨by constructor <;> omega, ?_⟩
      show Goes _ _ _ _
      refine next (i + 1, n + (o.pieces[i]).put.length) _ _ ⟨⟨hi, by simp only; omega, by simp only; omega⟩, ?_, ⟨⟨rfl, rfl⟩, ⟨rfl, rfl⟩, ⟨rfl, rfl⟩, ⟨rfl, rfl⟩, trivial⟩, ⟨⟨rfl, rfl⟩, trivial⟩⟩
      simp only; omega
    · have hi : o.pieces.length ≤ i := by simpa using hge
      rw [List.drop_eq_nil_of_le hi] at h2
      have h2 : putsLen o.pieces = n + 0 := h2
      exact ⟨trivial, rfl, rfl, rfl, leaf_tt ((lightB_iff o top).2 ⟨hlt, by omega⟩)⟩


end Bow
/- W31: the reference's Put, put, drop, change. -/
namespace Bow
open Go Go.Proofs

theorem w_CopiedQ (xs : List V) (hl : xs.length ≤ 1000000) : Fun Tryz.prog 34 [] [.sl 1 xs] (fun x T => x = .osl (.loc 0) 0 0 xs.length ∧ T = [some (.vec 0 1 xs)]) := by
  refine fun_fn 100 Tryz.func34 rfl rfl rfl fun imps B hi => ?_
  have : imps = [] := List.length_eq_zero_iff.1 hi
  subst this
  refine ⟨Nat.le_trans (Nat.mul_le_mul_right _ hl) (by decide), ?_⟩
  exact ⟨trivial, rfl, rfl, rfl, rfl⟩

set_option maxRecDepth 100000 in
theorem w_refPut (x : Tree) : ∀ (p : List Int) (t y : Tree), p.length ≤ 1000000 → t.weight ≤ 1000000 → atT t p = some y → Pure Tryz.prog 72 [nodeV t, pathV p, nodeV x] (fun r => r = .tup [nodeV (changeT (fun _ => x) t p), .tt])
  | [], t, y, _, _, _ => by
    refine pure_fn 300 Tryz.func72 rfl rfl rfl fun B => ?_
    refine ⟨fun g => go 300 ?_, fun g => absurd rfl (ne_of g)⟩
    exact ⟨trivial, rfl, rfl, rfl, rfl⟩
  | i :: p, t, y, hp, ht, hy => by
    rw [atT] at hy
    cases hs : subT t i with
    | none => rw [hs] at hy; cases hy
    | some s =>
    rw [hs] at hy
    simp only at hy
    obtain ⟨hi, hsi, hm⟩ := subT_some hs
    have hil := lt_of_get hsi
    have hsw := weight_sub hm
    have ih := w_refPut x p s y (by simp at hp; omega) (by omega) hy
    refine pure_fn 300 Tryz.func72 rfl rfl rfl fun B => ?_
    refine ⟨fun g => absurd (eq_of g) (by simp; omega), fun g => go 300 ?_⟩
    show Goes _ _ _ _
    refine goes_drawX [] 300 ?_
    refine ⟨Int.le_refl 0, _, rfl, ⟨fun q1 => absurd (lt_of q1) (by omega), fun q1 => ⟨Int.le_refl 0, _, rfl, ?_⟩⟩⟩
    refine ⟨by kernel_rfl, ?_⟩
    refine ⟨fun q2 => absurd (le_of q2) (by simp [subV_eq]; omega), fun q2 => go 300 ?_⟩
    show Goes _ _ _ _
    have hx : t.subV[i.toNat]? = some (nodeV s) := subV_at hsi
    have hil' : i < (t.subV.length : Int) := by rw [subV_len]; omega
    have e : V.sl 1 ((((i :: p).map intV).drop (Int.toNat 1)).take (((((i :: p).map intV).length : Nat) : Int).toNat - Int.toNat 1)) = pathV p := by
      unfold pathV
      rw [List.take_of_length_le (by simp)]
      rfl
    refine goes_drawX [] 300 ⟨Int.le_refl 0, _, rfl, hi, _, hx, by decide, by simp; omega, by omega, .tup [nodeV (changeT (fun _ => x) s p), .tt], ?_, rfl, ?_⟩
    · unfold pathV at e ih
      rw [e]
      exact ih
    refine ⟨by kernel_rfl, ?_⟩
    refine ⟨by kernel_rfl, ?_⟩
    have hsl := subs_le_weight t
    refine ⟨room_of (by rw [subV_len]; omega) (by decide), ?_⟩
    show Goes _ _ _ _
    have hx0 : t.subV[0 + i.toNat]? = some (nodeV s) := by rw [Nat.zero_add]; exact hx
    refine goes_drawX [] 1 ⟨Int.le_refl 0, _, rfl, rfl, hi, hil', rfl, _, hx0, ?_⟩
    refine ⟨by kernel_rfl, ?_⟩
    show Goes _ _ _ _
    refine goes_fzSlot 10 4 rfl rfl (by simp) ?_
    refine go 300 ?_
    refine ⟨trivial, rfl, rfl, rfl, ?_⟩
    rw [changeT, hs]
    simp only
    rw [withSubs_V, ← subV_set, Nat.zero_add]
    rfl
end Bow
/- W32: the reference's put, drop, change, Without. -/
namespace Bow
open Go Go.Proofs

theorem row_ins (t x : Tree) (at_ : Int) : (t.subV.take (at_.toNat - Int.toNat 0 : Nat)).drop 0 ++ [nodeV x] ++ (t.subV.drop at_.toNat).take ((t.subV.length : Int).toNat - at_.toNat) = (t.subs.take at_.toNat ++ x :: t.subs.drop at_.toNat).map nodeV := by
  rw [subV_eq, List.take_of_length_le (l := List.drop _ _) (by simp)]
  simp
theorem row_del (t : Tree) (at_ : Int) (h0 : 0 ≤ at_) : (t.subV.take (at_.toNat - Int.toNat 0 : Nat)).drop 0 ++ (t.subV.drop (at_ + 1).toNat).take ((t.subV.length : Int).toNat - (at_ + 1).toNat) = (t.subs.take at_.toNat ++ t.subs.drop (at_.toNat + 1)).map nodeV := by
  have e : (at_ + 1).toNat = at_.toNat + 1 := by omega
  rw [subV_eq, List.take_of_length_le (l := List.drop _ _) (by simp), e]
  simp

set_option maxRecDepth 100000 in
theorem w_refputs (t x : Tree) (at_ : Int) (ht : t.weight ≤ 1000000) (h0 : 0 ≤ at_) (h1 : at_ ≤ t.subs.length) : Pure Tryz.prog 43 [nodeV t, .int .i64 at_, nodeV x] (fun r => r = nodeV (insT at_ x t)) := by
  have hsl := subs_le_weight t
  have hl : t.subV.length = t.subs.length := subV_len t
  refine pure_fn 300 Tryz.func43 rfl rfl rfl fun B => ?_
  refine ⟨by decide, h0, by rw [hl]; exact h1, room_of (by simp; omega) (by decide), ?_⟩
  refine ⟨⟨rfl, trivial⟩, ?_⟩
  refine ⟨rfl, rfl, rfl, rfl, room_of (by simp; omega) (by decide), ?_⟩
  refine ⟨h0, by rw [hl]; exact h1, Int.le_refl _, rfl, ?_, room_of (by simp; omega) (by decide), ?_⟩
  · simp
  refine ⟨trivial, rfl, rfl, rfl, by simp only [List.length_append], rfl, ?_⟩
  rw [insT, withSubs_V, ← row_ins]
  rfl

set_option maxRecDepth 100000 in
theorem w_refdrop (t : Tree) (at_ : Int) (ht : t.weight ≤ 1000000) (h0 : 0 ≤ at_) (h1 : at_ < t.subs.length) : Pure Tryz.prog 73 [nodeV t, .int .i64 at_] (fun r => r = nodeV (delT at_ t)) := by
  have hsl := subs_le_weight t
  have hl : t.subV.length = t.subs.length := subV_len t
  refine pure_fn 300 Tryz.func73 rfl rfl rfl fun B => ?_
  refine ⟨by decide, h0, by rw [hl]; omega, room_of (by simp; omega) (by decide), ?_⟩
  refine ⟨⟨by omega, by omega⟩, by omega, by rw [hl]; omega, Int.le_refl _, rfl, by simp, room_of (by simp; omega) (by decide), ?_⟩
  refine ⟨trivial, rfl, rfl, rfl, by simp [List.length_append], rfl, ?_⟩
  rw [delT, withSubs_V, ← row_del _ _ h0]
  rfl

set_option maxRecDepth 100000 in
theorem w_refchange (t x y : Tree) (p : List Int) (hp : p.length ≤ 1000000) (ht : t.weight ≤ 1000000) (hy : atT t p = some y) : Pure Tryz.prog 42 [nodeV t, pathV p, nodeV x] (fun r => r = nodeV (changeT (fun _ => x) t p)) := by
  refine pure_fn 300 Tryz.func42 rfl rfl rfl fun B => ?_
  show CallThen _ _ _ _ _ _
  refine call_pure (w_refPut x p t y hp ht hy) rfl ?_
  rintro z rfl
  exact ⟨trivial, rfl, rfl, rfl, rfl⟩

theorem change_const {F : Tree → Tree} {y : Tree} : ∀ {p : List Int} {t : Tree}, atT t p = some y → changeT (fun _ => F y) t p = changeT F t p
  | [], t, h => by
    rw [atT] at h
    injection h with h
    subst h
    rfl
  | i :: p, t, h => by
    rw [atT] at h
    cases hs : subT t i with
    | none => rw [hs] at h; cases h
    | some s =>
      rw [hs] at h
      rw [changeT, changeT, hs]
      simp only
      rw [change_const (p := p) h]

set_option maxRecDepth 100000 in
theorem w_refWithout (t x : Tree) (p : List Int) (hp : p.length ≤ 1000000) (hne : p ≠ []) (ht : t.weight ≤ 1000000) (hx : atT t p = some x) : Pure Tryz.prog 44 [nodeV t, pathV p] (fun r => r = nodeV (withoutT t p)) := by
  obtain ⟨y, y1, y2, y3, y4⟩ := at_parent hne hx
  have hlen : 0 < p.length := List.length_pos_iff.2 hne
  have hyw := atT_weight y1
  refine pure_fn 300 Tryz.func44 rfl rfl rfl fun B => ?_
  refine ⟨by constructor <;> simp <;> omega, by decide, by simp; omega, by simp; omega, ?_⟩
  have e : (List.take ((((p.map intV).length : Int) - 1).toNat - Int.toNat 0) (List.drop (Int.toNat 0) (p.map intV))) = p.dropLast.map intV := by
    rw [List.dropLast_eq_take, List.map_take]
    simp
  show CallThen _ _ _ _ _ _
  rw [e]
  refine call_pure (w_refAt t p.dropLast (by simp; omega)) rfl ?_
  rintro z rfl
  rw [y1]
  show Goes _ _ _ _
  have hg : (p.map intV)[(((p.map intV).length : Int) - 1).toNat]? = some (intV (lastP p)) := by
    have e1 : (((p.map intV).length : Int) - 1).toNat = p.length - 1 := by simp
    rw [e1, List.getElem?_map, ← List.getLast?_eq_getElem?, List.getLast?_eq_some_getLast hne, lastP_eq hne]
    rfl
  have hlast := lastP_eq hne
  refine goes_drawX [] 300 ⟨⟨by simp; omega, by simp; omega⟩, by simp; omega, _, hg, _, w_refdrop y (lastP p) (by omega) (by omega) (by omega), rfl, _, w_refchange t (delT (lastP p) y) y p.dropLast (by simp; omega) ht y1, rfl, ?_⟩
  refine ⟨by kernel_rfl, ?_⟩
  refine ⟨trivial, rfl, rfl, rfl, ?_⟩
  rw [change_const (F := delT (lastP p)) y1]
  rfl
end Bow
/- W33: the reference's attr. -/
namespace Bow
open Go Go.Proofs

theorem withAttrs_V (t : Tree) (a : AttrL) : nodeV (t.withAttrs a) = .agg [.int .u64 t.id, .bool t.leaf, .str t.label, .sl 2 (a.map attrV), .str t.text, .sl 6 t.subV] := by
  cases t
  rfl
theorem attrs_le_weight (t : Tree) : t.attrs.length ≤ t.weight := by rw [weight_eq]; omega

set_option maxHeartbeats 1000000 in
set_option maxRecDepth 100000 in
theorem w_refattr (t : Tree) (o : OpT) (ht : t.weight ≤ 400000) : Pure Tryz.prog 46 [nodeV t, opV o] (fun r => r = nodeV (t.withAttrs (refA o o.gone t.attrs))) := by
  have hal := attrs_le_weight t
  refine pure_fn 300 Tryz.func46 rfl rfl rfl fun B => ?_
  show Goes _ _ _ _
  refine goes_own 5 2 rfl ?_
  refine goes_iter (ι := Nat × Bool × Nat × Nat × List V) (fun i => i.1 ≤ t.attrs.length ∧ ∃ acc : AttrL, i.2.2.2.2 = acc.map attrV ∧ i.2.2.2.1 = acc.length ∧ acc.length ≤ 2 * i.1 ∧ acc ++ refA o i.2.1 (t.attrs.drop i.1) = refA o o.gone t.attrs) (fun i => t.attrs.length - i.1)
    (fun i => [(7, .int .i64 i.1), (6, .bool i.2.1), (5, .osl (.loc 3) i.2.2.1 0 i.2.2.2.1), (2, .ptr (.loc 0) 0), (3, .ptr (.loc 1) 0), (4, .ptr (.loc 2) 0)])
    (fun i => [some (.box (nodeV t).cells), some (.box (opV o).cells), some (.box (zeroV .nilsl).cells), some (.vec i.2.2.1 2 i.2.2.2.2)]) (0, o.gone, 0, 0, []) 300 (fun _ => rfl) (fun _ => rfl) ⟨⟨Nat.zero_le _, [], rfl, rfl, Nat.le_refl _, rfl⟩, ?_, ?_⟩ ?_
  · exact ⟨⟨rfl, rfl⟩, ⟨rfl, rfl⟩, ⟨rfl, rfl⟩, ⟨rfl, rfl⟩, ⟨rfl, rfl⟩, ⟨rfl, rfl⟩, trivial⟩
  · exact ⟨⟨rfl, rfl⟩, ⟨rfl, rfl⟩, ⟨rfl, rfl⟩, ⟨rfl, rfl⟩, trivial⟩
  rintro ⟨i, d, g, n, xs⟩ ⟨k1, acc, rfl, rfl, k2, k3⟩ next
  simp only at k1 k2 k3
  refine ⟨fun hlt => go 300 ?_, fun hge => go 300 ?_⟩
  · have hi : i < t.attrs.length := by simpa using hlt
    have hx : (t.attrs.map attrV)[i]? = some (attrV t.attrs[i]) := by simp [hi]
    rw [drop_cons hi, refA] at k3
    show Goes _ _ _ _
    refine goes_drawX [] 300 ⟨fun q1 => ⟨Int.natCast_nonneg i, _, hx, ?_⟩, fun q1 => ?_⟩
    all_goals refine ⟨by kernel_rfl, ?_⟩
    · have hd : d = false := by simpa using q1
      subst hd
      refine ⟨fun q2 => go 300 ?_, fun q2 => go 300 ?_⟩
      · have hl : Op.bytesLess t.attrs[i].1 o.key = false := by simpa using q2
        rw [hl] at k3
        refine ⟨⟨rfl, trivial⟩, rfl, rfl, rfl, (by simp), room_of (by simp; omega) (by decide), ?_⟩
        show Goes _ _ _ _
        refine goes_drawX [] 300 ⟨Int.natCast_nonneg i, _, hx, ?_⟩
        refine ⟨by kernel_rfl, ?_⟩
        refine ⟨fun q3 => go 300 ?_, fun q3 => go 300 ?_⟩
        · have he : decide (t.attrs[i].1 = o.key) = false := by simpa using q3
          rw [he] at k3
          refine ⟨Int.natCast_nonneg i, _, hx, ⟨rfl, trivial⟩, rfl, rfl, rfl, (by simp), room_of (by simp; omega) (by decide), ?_⟩
          refine ⟨by constructor <;> omega, ?_⟩
          show Goes _ _ _ _
          refine goes_wkSlot 6 (v := .tt) (v' := .bool true) rfl rfl rfl Wk.tt ?_
          refine next (i + 1, true, _, _, _) _ _ ⟨⟨hi, acc ++ [(o.key, o.value)] ++ [t.attrs[i]], ?_, ?_, ?_, ?_⟩, ?_, ⟨⟨rfl, rfl⟩, ⟨rfl, rfl⟩, ⟨rfl, rfl⟩, ⟨rfl, rfl⟩, ⟨rfl, rfl⟩, ⟨rfl, rfl⟩, trivial⟩, ⟨⟨rfl, rfl⟩, ⟨rfl, rfl⟩, ⟨rfl, rfl⟩, ⟨rfl, rfl⟩, trivial⟩⟩
          · simp [attrV]
          · simp
          · simp; omega
          · simpa using k3
          · simp only; omega
        · have he : decide (t.attrs[i].1 = o.key) = true := by simpa using q3
          rw [he] at k3
          refine ⟨by constructor <;> omega, ?_⟩
          show Goes _ _ _ _
          refine goes_wkSlot 6 (v := .tt) (v' := .bool true) rfl rfl rfl Wk.tt ?_
          refine next (i + 1, true, _, _, _) _ _ ⟨⟨hi, acc ++ [(o.key, o.value)], ?_, ?_, ?_, ?_⟩, ?_, ⟨⟨rfl, rfl⟩, ⟨rfl, rfl⟩, ⟨rfl, rfl⟩, ⟨rfl, rfl⟩, ⟨rfl, rfl⟩, ⟨rfl, rfl⟩, trivial⟩, ⟨⟨rfl, rfl⟩, ⟨rfl, rfl⟩, ⟨rfl, rfl⟩, ⟨rfl, rfl⟩, trivial⟩⟩
          · simp [attrV]
          · simp
          · simp; omega
          · simpa using k3
          · simp only; omega
      · have hl : Op.bytesLess t.attrs[i].1 o.key = true := by simpa using q2
        rw [hl] at k3
        show Goes _ _ _ _
        refine goes_drawX [] 300 ⟨Int.natCast_nonneg i, _, hx, ?_⟩
        refine ⟨by kernel_rfl, ?_⟩
        refine ⟨fun q3 => go 300 ?_, fun q3 => go 300 ?_⟩
        · have he : decide (t.attrs[i].1 = o.key) = false := by simpa using q3
          rw [he] at k3
          refine ⟨Int.natCast_nonneg i, _, hx, ⟨rfl, trivial⟩, rfl, rfl, rfl, (by simp), room_of (by simp; omega) (by decide), ?_⟩
          refine ⟨by constructor <;> omega, ?_⟩
          show Goes _ _ _ _
          refine next (i + 1, false, bump g, (acc.map attrV).length + 1, acc.map attrV ++ [attrV t.attrs[i]]) _ _ ⟨⟨hi, acc ++ [t.attrs[i]], ?_, ?_, ?_, ?_⟩, ?_, ⟨⟨rfl, rfl⟩, ⟨rfl, rfl⟩, ⟨rfl, rfl⟩, ⟨rfl, rfl⟩, ⟨rfl, rfl⟩, ⟨rfl, rfl⟩, trivial⟩, ⟨⟨rfl, rfl⟩, ⟨rfl, rfl⟩, ⟨rfl, rfl⟩, ⟨rfl, rfl⟩, trivial⟩⟩
          · simp [attrV]
          · simp
          · simp; omega
          · simpa using k3
          · simp only; omega
        · have he : decide (t.attrs[i].1 = o.key) = true := by simpa using q3
          rw [he] at k3
          refine ⟨by constructor <;> omega, ?_⟩
          show Goes _ _ _ _
          refine next (i + 1, false, _, _, _) _ _ ⟨⟨hi, acc, ?_, ?_, ?_, ?_⟩, ?_, ⟨⟨rfl, rfl⟩, ⟨rfl, rfl⟩, ⟨rfl, rfl⟩, ⟨rfl, rfl⟩, ⟨rfl, rfl⟩, ⟨rfl, rfl⟩, trivial⟩, ⟨⟨rfl, rfl⟩, ⟨rfl, rfl⟩, ⟨rfl, rfl⟩, ⟨rfl, rfl⟩, trivial⟩⟩
          · simp
          · simp
          · simp; omega
          · simpa using k3
          · simp only; omega
    · have hd : d = true := by simpa using q1
      subst hd
      show Goes _ _ _ _
      refine goes_drawX [] 300 ⟨Int.natCast_nonneg i, _, hx, ?_⟩
      refine ⟨by kernel_rfl, ?_⟩
      refine ⟨fun q3 => go 300 ?_, fun q3 => go 300 ?_⟩
      · have he : decide (t.attrs[i].1 = o.key) = false := by simpa using q3
        rw [he] at k3
        refine ⟨Int.natCast_nonneg i, _, hx, ⟨rfl, trivial⟩, rfl, rfl, rfl, (by simp), room_of (by simp; omega) (by decide), ?_⟩
        refine ⟨by constructor <;> omega, ?_⟩
        show Goes _ _ _ _
        refine next (i + 1, true, bump g, (acc.map attrV).length + 1, acc.map attrV ++ [attrV t.attrs[i]]) _ _ ⟨⟨hi, acc ++ [t.attrs[i]], ?_, ?_, ?_, ?_⟩, ?_, ⟨⟨rfl, rfl⟩, ⟨rfl, rfl⟩, ⟨rfl, rfl⟩, ⟨rfl, rfl⟩, ⟨rfl, rfl⟩, ⟨rfl, rfl⟩, trivial⟩, ⟨⟨rfl, rfl⟩, ⟨rfl, rfl⟩, ⟨rfl, rfl⟩, ⟨rfl, rfl⟩, trivial⟩⟩
        · simp [attrV]
        · simp
        · simp; omega
        · simpa using k3
        · simp only; omega
      · have he : decide (t.attrs[i].1 = o.key) = true := by simpa using q3
        rw [he] at k3
        refine ⟨by constructor <;> omega, ?_⟩
        show Goes _ _ _ _
        refine next (i + 1, true, _, _, _) _ _ ⟨⟨hi, acc, ?_, ?_, ?_, ?_⟩, ?_, ⟨⟨rfl, rfl⟩, ⟨rfl, rfl⟩, ⟨rfl, rfl⟩, ⟨rfl, rfl⟩, ⟨rfl, rfl⟩, ⟨rfl, rfl⟩, trivial⟩, ⟨⟨rfl, rfl⟩, ⟨rfl, rfl⟩, ⟨rfl, rfl⟩, ⟨rfl, rfl⟩, trivial⟩⟩
        · simp
        · simp
        · simp; omega
        · simpa using k3
        · simp only; omega
  · have hi : i = t.attrs.length := by have : t.attrs.length ≤ i := by simpa using hge
                                       omega
    subst hi
    rw [List.drop_length, refA] at k3
    refine ⟨fun q1 => go 300 ?_, fun q1 => go 300 ?_⟩
    · have hd : d = false := by simpa using q1
      subst hd
      refine ⟨⟨rfl, trivial⟩, rfl, rfl, rfl, (by simp), room_of (by simp; omega) (by decide), ?_⟩
      refine ⟨trivial, rfl, rfl, rfl, (by simp), rfl, ?_⟩
      rw [withAttrs_V, ← k3]
      simp [attrV]
    · have hd : d = true := by simpa using q1
      subst hd
      refine ⟨trivial, rfl, rfl, rfl, (by simp), rfl, ?_⟩
      rw [withAttrs_V, ← k3]
      simp
end Bow
/- W34: the reference's move. -/
namespace Bow
open Go Go.Proofs

theorem pure_sl_cast {P : Program} {f : FuncId} {a : V} {sz : Nat} {q q' : List V} {Q : V → Prop} (h : Pure P f [a, .sl sz q'] Q) (e : q = q') : Pure P f [a, .sl sz q] Q := e ▸ h

set_option maxHeartbeats 1000000 in
set_option maxRecDepth 100000 in
theorem w_refmove (t x z : Tree) (o : OpT) (ht : t.weight ≤ 400000) (ho : o.Ok) (hfr : ∀ i ∈ o.path, inI (i + 1)) (hne : o.path ≠ []) (hx : atT t o.path = some x) (hw : within o.path o.to = false) (hz : atT t o.to = some z) (h0 : 0 ≤ o.at_) (h1 : o.at_ ≤ z.subs.length) :
    Pure Tryz.prog 45 [nodeV t, opV o] (fun r => r = nodeV (moveT x t o)) := by
  have hp := ho.lt.path
  have hpt := ho.lt.to
  have hxw := atT_weight hx
  have hzw := atT_weight hz
  have hmw := change_weight_add (F := insT o.at_ x) (n := x.weight) (ins_weight o.at_ x) o.to t
  obtain ⟨s', hs'⟩ := lift_at h0 x o.path o.to t x z hne hx hw hz h1
  have law := move_law h0 x o.path o.to t x z hne hx hw hz h1
  refine pure_fn 300 Tryz.func45 rfl rfl rfl fun B => ?_
  show CallThen _ _ _ _ _ _
  refine call_pure (w_refAt t o.path hp) rfl ?_
  rintro _ rfl
  rw [hx]
  show CallThen _ _ _ _ _ _
  refine call_pure (w_refAt t o.to hpt) rfl ?_
  rintro _ rfl
  rw [hz]
  show Goes _ _ _ _
  refine goes_drawX [] 300 ⟨_, w_refputs z x o.at_ (by omega) h0 h1, rfl, _, w_refchange t (insT o.at_ x z) z o.to hpt (by omega) hz, rfl, ?_⟩
  rw [change_const (F := insT o.at_ x) hz]
  refine ⟨by kernel_rfl, ?_⟩
  refine ⟨by kernel_rfl, ?_⟩
  show CallThen _ _ _ _ _ _
  refine call_sub [] (w_CopiedQ (o.path.map intV) (by simpa using hp)) rfl rfl trivial rfl rfl rfl ?_
  rintro r T1 ⟨rfl, rfl⟩
  refine ⟨rfl, ?_⟩
  show Goes _ _ _ _
  have hwith := w_refWithin o.to o.path hpt
  have hm : (changeT (insT o.at_ x) t o.to).weight ≤ 1000000 := by omega
  have hwo : Pure Tryz.prog 44 [nodeV (changeT (insT o.at_ x) t o.to), pathV (liftP o.to o.at_ o.path)] (fun r => r = nodeV (moveT x t o)) := by
    have := w_refWithout (changeT (insT o.at_ x) t o.to) s' (liftP o.to o.at_ o.path) (by rw [lift_len]; exact hp) (fun e => hne (List.length_eq_zero_iff.1 (by rw [← lift_len o.to o.at_ o.path, e]; rfl))) hm hs'
    rw [law] at this
    exact this
  have hsame : (decide (o.to.length < o.path.length) && (within o.to o.path && decide (o.at_ ≤ o.path.getD o.to.length 0))) = false → liftP o.to o.at_ o.path = o.path := fun h => by unfold liftP; rw [h]; rfl
  refine goes_drawX [] 300 ⟨rfl, fun q1 => ⟨rfl, rfl, _, hwith, rfl, ⟨fun q2 => ?_, fun q2 => ?_⟩⟩, fun q1 => ?_⟩
  · have hd : o.to.length < o.path.length := by have := lt_of q1; simp at this; omega
    have hg : (o.path.map intV)[0 + (((o.to.map intV).length : Nat) : Int).toNat]? = some (intV o.path[o.to.length]) := by simp [hd]
    have hgd : o.path.getD o.to.length 0 = o.path[o.to.length] := by simp [List.getD_eq_getElem?_getD, hd]
    have hb0 : (0 : Int) ≤ ((o.to.map intV).length : Nat) := Int.natCast_nonneg _
    have hb1 : (((o.to.map intV).length : Nat) : Int) < ((o.path.map intV).length : Nat) := by simp; omega
    refine ⟨rfl, hb0, hb1, rfl, _, hg, ?_⟩
    refine ⟨by kernel_rfl, ?_⟩
    refine ⟨fun q3 => go 300 ?_, fun q3 => go 300 ?_⟩
    · have hin := hfr _ (List.getElem_mem hd)
      refine ⟨rfl, hb0, hb1, rfl, _, hg, hin, rfl, hb0, hb1, rfl, _, hg, ?_⟩
      show CallThen _ _ _ _ _ _
      refine call_pure_frz ?_
      refine ⟨rfl, by simp, fun r => r = nodeV (moveT x t o), ?_, rfl, ?_⟩
      · refine pure_sl_cast (q' := (liftP o.to o.at_ o.path).map intV) hwo ?_
        have e : liftP o.to o.at_ o.path = o.path.set o.to.length (o.path[o.to.length] + 1) := by
          unfold liftP
          have q2 : within o.to o.path = true := by simpa using q2
          have q3 : o.at_ ≤ o.path[o.to.length] := le_of q3
          rw [hgd, decide_eq_true hd, q2, decide_eq_true q3]
          rfl
        rw [e, List.map_set]
        simp
        rfl
      · rintro r rfl
        exact ⟨trivial, rfl, rfl, rfl, rfl⟩
    · have e := hsame (by
        have q3 := not_le_of q3
        rw [hgd, decide_eq_false (by omega : ¬ o.at_ ≤ o.path[o.to.length])]
        simp)
      rw [e] at hwo
      show CallThen _ _ _ _ _ _
      refine call_pure_frz ?_
      refine ⟨rfl, rfl, fun r => r = nodeV (moveT x t o), hwo, rfl, ?_⟩
      rintro r rfl
      exact ⟨trivial, rfl, rfl, rfl, rfl⟩
  · have e := hsame (by
      have q2 : within o.to o.path = false := by simpa using q2
      rw [q2]
      simp)
    rw [e] at hwo
    refine ⟨by kernel_rfl, ?_⟩
    show CallThen _ _ _ _ _ _
    refine call_pure_frz ?_
    refine ⟨rfl, rfl, fun r => r = nodeV (moveT x t o), hwo, rfl, ?_⟩
    rintro r rfl
    exact ⟨trivial, rfl, rfl, rfl, rfl⟩
  · have e := hsame (by
      have q1 : ¬ o.to.length < o.path.length := by have := not_lt_of q1; simp at this; omega
      rw [decide_eq_false q1]
      rfl)
    rw [e] at hwo
    refine ⟨by kernel_rfl, ?_⟩
    show CallThen _ _ _ _ _ _
    refine call_pure_frz ?_
    refine ⟨rfl, rfl, fun r => r = nodeV (moveT x t o), hwo, rfl, ?_⟩
    rintro r rfl
    exact ⟨trivial, rfl, rfl, rfl, rfl⟩
end Bow
/- WB2: strings.Compare at this program: by the kit's own tactics. -/
namespace Bow
open Go Go.Proofs Go.RowKit Go.Shelf

set_option maxHeartbeats 1000000 in
set_option maxRecDepth 100000 in
theorem c_CompareString (a b : ByteArray) (w : World) :
    Calls Tryz.prog 126 #[.string a, .string b] w fun e w' => e = .returned (.int .i64 (Lib.compareBytes a.data.toList b.data.toList)) ∧ w' = w := by
  go_enter Tryz.func126, Tryz.ntmps126
  go_wp2
  rw [run_callFunc_extern Tryz.func129 (by kernel_rfl) (by kernel_rfl) (by kernel_rfl) (e := Extern.BytealgCompare.compare) (by kernel_rfl), Lib.run_compareString]
  simp only [Result.andThen]
  rw [Oper.upon_value]
  go_wp2
  go_ret
  exact ⟨rfl, rfl⟩
set_option maxHeartbeats 1000000 in
set_option maxRecDepth 100000 in
theorem c_Compare (a b : ByteArray) (w : World) :
    Calls Tryz.prog 120 #[.string a, .string b] w fun e w' => e = .returned (.int .i64 (Lib.compareBytes a.data.toList b.data.toList)) ∧ w' = w := by
  go_enter Tryz.func120, Tryz.ntmps120
  go_wp2_with (go_at_call 126; refine (c_CompareString _ _ _).mono ?_; rintro e w' ⟨rfl, rfl⟩)
  go_ret
  exact ⟨rfl, rfl⟩

theorem w_Compare (a b : List UInt8) : Pure Tryz.prog 120 [.str a, .str b] (fun x => x = .int .i64 (Lib.compareBytes a b)) := by
  refine pure_of_calls ⟨_, Tryz.func120, rfl, rfl⟩ rfl fun w β H vals hv hr => ?_
  obtain ⟨v0, v1, rfl⟩ : ∃ v0 v1, vals = #[v0, v1] := by
    obtain ⟨l⟩ := vals
    match l, hv with
    | [v0, v1], _ => exact ⟨v0, v1, rfl⟩
  obtain ⟨rfl, _⟩ := rep_str (m := []) (hr 0 _ v0 rfl rfl)
  obtain ⟨rfl, _⟩ := rep_str (m := []) (hr 1 _ v1 rfl rfl)
  refine (c_Compare ⟨a.toArray⟩ ⟨b.toArray⟩ w).mono ?_
  rintro e w' ⟨rfl, rfl⟩
  exact ⟨Below.refl _ _, .int .i64 (Lib.compareBytes a b), _, rfl, rfl, rfl, .int _ _⟩
end Bow
/- W35: the program's search for an attribute. -/
namespace Bow
open Go Go.Proofs

theorem w_cmpAttr (a : List UInt8 × List UInt8) (k : List UInt8) : Pure Tryz.prog 119 [attrV a, .str k] (fun x => x = .int .i64 (Lib.compareBytes a.1 k)) := by
  refine pure_fn 300 Tryz.func119 rfl rfl rfl fun B => ?_
  show CallThen _ _ _ _ _ _
  refine call_pure (w_Compare a.1 k) rfl ?_
  rintro x rfl
  exact ⟨trivial, rfl, rfl, rfl, rfl⟩

theorem half_eq (i j : Nat) (h : i + j ≤ 2000000) : IntKind.i64.wrap (IntKind.u64.wrap ((i : Int) + j) / 2 ^ min (1 : Int).toNat IntKind.u64.bits) = (((i + j) / 2 : Nat) : Int) := by
  have e : IntKind.u64.wrap ((i : Int) + j) = ((i + j : Nat) : Int) := by
    unfold IntKind.wrap
    simp [IntKind.signed, IntKind.bits]
    omega
  rw [e]
  unfold IntKind.wrap
  simp [IntKind.signed, IntKind.bits]
  omega

set_option maxRecDepth 100000 in
theorem w_search (l : AttrL) (k : List UInt8) (k0 : Option (List UInt8)) (hl : l.length ≤ 1000000) (hs : attrsOk k0 l = true) : Pure Tryz.prog 118 [.sl 2 (l.map attrV), .str k, .fn (.func 119) [] []] (fun x => x = .tup [.int .i64 (posK k l), .bool (hasK k l)]) := by
  have hpl := pos_le k l
  refine pure_wk (pure_fn 300 Tryz.func118 rfl rfl rfl fun B => ?_)
  show Goes _ _ _ _
  refine goes_while (ι := Nat × Nat) (κ := Unit) (fun i => i.1 ≤ posK k l ∧ posK k l ≤ i.2 ∧ i.2 ≤ l.length) (fun i => i.2 - i.1)
    (fun i => [(9, .int .i64 i.1), (10, .int .i64 i.2), (8, .int .i64 (l.map attrV).length), (0, .sl 2 (l.map attrV)), (1, .str k), (2, .fn (.func 119) [] [])]) (fun _ => []) (0, (l.map attrV).length) (fun _ => True)
    (fun _ => [(9, .int .i64 (posK k l)), (8, .int .i64 (l.map attrV).length), (0, .sl 2 (l.map attrV)), (1, .str k), (2, .fn (.func 119) [] [])]) (fun _ => []) 300 (fun _ => rfl) (fun _ => rfl) (fun _ => rfl) (fun _ => rfl) ⟨⟨Nat.zero_le _, by simpa using hpl, by simp⟩, ?_, trivial⟩ ?_ ?_
  · exact ⟨⟨rfl, rfl⟩, ⟨rfl, rfl⟩, ⟨rfl, rfl⟩, ⟨rfl, rfl⟩, ⟨rfl, rfl⟩, ⟨rfl, rfl⟩, trivial⟩
  · rintro ⟨⟩ _
    refine ⟨fun q1 => go 300 ?_, fun q1 => go 300 ?_⟩
    · have hp : posK k l < l.length := by have := lt_of q1; simp at this; omega
      have hx : (l.map attrV)[posK k l]? = some (attrV l[posK k l]) := by simp [hp]
      refine ⟨Int.natCast_nonneg _, _, hx, ?_⟩
      show CallThen _ _ _ _ _ _
      refine call_pure (w_cmpAttr l[posK k l] k) rfl ?_
      rintro x rfl
      refine ⟨trivial, rfl, rfl, rfl, _, Wk.refl _, rfl, ?_⟩
      have hgd : l.getD (posK k l) ([], []) = l[posK k l] := by simp [List.getD_eq_getElem?_getD, hp]
      have e : hasK k l = decide (Lib.compareBytes l[posK k l].1 k = 0) := by
        unfold hasK
        rw [decide_eq_true hp, Bool.true_and, hgd]
        exact decide_eq_decide.2 (cmp_zero _ _).symm
      rw [e]
    · have hp : ¬ posK k l < l.length := by have := not_lt_of q1; simp at this; omega
      refine ⟨trivial, rfl, rfl, rfl, .tup [.int .i64 (posK k l), .bool false], Wk.tup ⟨.refl _, Wk.ff, trivial⟩, rfl, ?_⟩
      have e : hasK k l = false := by unfold hasK; rw [decide_eq_false hp]; rfl
      rw [e]
  · rintro ⟨i, j⟩ ⟨k1, k2, k3⟩ next post
    simp only at k1 k2 k3
    refine ⟨fun hlt => go 300 ?_, fun hge => go 300 ?_⟩
    · have hij : i < j := by have := lt_of hlt; omega
      refine ⟨by constructor <;> simp only <;> omega, ?_⟩
      show Goes _ _ _ _
      refine goes_shr 2 rfl rfl rfl rfl rfl (by decide) ?_
      show Goes _ _ _ _
      refine goes_wkSlot 11 (v' := .int .i64 (((i + j) / 2 : Nat) : Int)) rfl rfl rfl (Wk.of_eq (congrArg (V.int .i64) (half_eq i j (by omega)))) ?_
      refine go 300 ?_
      obtain ⟨m, hm⟩ : ∃ m, (i + j) / 2 = m := ⟨_, rfl⟩
      have hml : m < l.length := by omega
      have hx : (l.map attrV)[m]? = some (attrV l[m]) := by simp [hml]
      rw [hm]
      refine ⟨Int.natCast_nonneg _, _, hx, ?_⟩
      show CallThen _ _ _ _ _ _
      refine call_pure (w_cmpAttr l[m] k) rfl ?_
      rintro x rfl
      have hpi := pos_iff k hs m hml
      refine ⟨fun q2 => go 300 ?_, fun q2 => go 300 ?_⟩
      · have q2 := hpi.1 ((cmp_less _ _).1 (lt_of q2))
        refine ⟨by constructor <;> omega, ?_⟩
        show Goes _ _ _ _
        refine next (m + 1, j) _ _ ⟨⟨q2, k2, k3⟩, by simp only; omega, ⟨⟨rfl, rfl⟩, ⟨rfl, rfl⟩, ⟨rfl, rfl⟩, ⟨rfl, rfl⟩, ⟨rfl, rfl⟩, ⟨rfl, rfl⟩, trivial⟩, trivial⟩
      · have q2 : ¬ m < posK k l := fun h => by
          have := (cmp_less _ _).2 (hpi.2 h)
          have := not_lt_of q2
          omega
        show Goes _ _ _ _
        refine next (i, m) _ _ ⟨⟨k1, by simp only; omega, by simp only; omega⟩, by simp only; omega, ⟨⟨rfl, rfl⟩, ⟨rfl, rfl⟩, ⟨rfl, rfl⟩, ⟨rfl, rfl⟩, ⟨rfl, rfl⟩, ⟨rfl, rfl⟩, trivial⟩, trivial⟩
    · have hij : i = posK k l := by have := not_lt_of hge; omega
      subst hij
      exact post () _ _ _ rfl ⟨trivial, ⟨⟨rfl, rfl⟩, ⟨rfl, rfl⟩, ⟨rfl, rfl⟩, ⟨rfl, rfl⟩, ⟨rfl, rfl⟩, trivial⟩, trivial⟩
end Bow
/- W36: the program's setAttr. -/
namespace Bow
open Go Go.Proofs

set_option maxHeartbeats 1000000 in
set_option maxRecDepth 100000 in
theorem w_setAttr (o : OpT) (y : Tree) (k0 : Option (List UInt8)) (hs : attrsOk k0 y.attrs = true) (hl : y.attrs.length ≤ 900000) : Fun Tryz.prog 101 [some (.box (nodeV y).cells)] [.ptr (.loc 0) 0, opV o] (fun _ T => T = [some (.box (nodeV (setAT o y)).cells)]) := by
  refine fun_keep 1 rfl (fun_fn 300 Tryz.func101 rfl rfl rfl fun imps B hi => ?_)
  obtain ⟨r, rfl⟩ := List.length_eq_one_iff.1 hi
  have hpl := pos_le o.key y.attrs
  have hpl' : ((posK o.key y.attrs : Nat) : Int) ≤ (y.attrs.map attrV).length := by simp; omega
  have hsr := w_search y.attrs o.key k0 (by omega) hs
  show Goes _ _ _ _
  refine goes_drawX [] 300 ⟨_, hsr, rfl, ?_⟩
  refine ⟨by kernel_rfl, ?_⟩
  refine ⟨fun q1 => go 300 ?_, fun q1 => go 300 ?_⟩
  · have q1 : hasK o.key y.attrs = true := by simpa using q1
    have hp : posK o.key y.attrs < y.attrs.length := by
      unfold hasK at q1
      simp only [Bool.and_eq_true, decide_eq_true_eq] at q1
      exact q1.1
    have hpl'' : ((posK o.key y.attrs : Nat) : Int) + 1 ≤ (y.attrs.map attrV).length := by simp; omega
    have hp0 : (0 : Int) ≤ ((posK o.key y.attrs : Nat) : Int) + 1 := by omega
    refine ⟨by constructor <;> omega, ?_⟩
    refine ⟨fun q2 => go 300 ?_, fun q2 => go 300 ?_⟩
    · have q2 : o.gone = false := by simpa using q2
      refine ⟨⟨rfl, trivial⟩, ?_⟩
      show Goes _ _ _ _
      have hc := w_ConcatAttr [(((y.attrs.map attrV).drop (Int.toNat 0)).take (((posK o.key y.attrs : Nat) : Int).toNat - Int.toNat 0)), [attrV (o.key, o.value)], (((y.attrs.map attrV).drop (((posK o.key y.attrs : Nat) : Int) + 1).toNat).take (((y.attrs.map attrV).length : Int).toNat - (((posK o.key y.attrs : Nat) : Int) + 1).toNat))] (by simp; omega) (by simp)
      refine goes_drawX [] 300 ⟨by decide, Int.natCast_nonneg _, hpl', hp0, hpl'', Int.le_refl _, ?_⟩
      refine ⟨by kernel_rfl, rfl, rfl, ⟨rfl, rfl, rfl, trivial⟩, rfl, rfl, rfl, _, hc, rfl, ?_⟩
      refine ⟨by kernel_rfl, ?_⟩
      refine ⟨trivial, rfl, rfl, [some (.box [.int .u64 y.id, .bool y.leaf, .str y.label, .sl 2 [(((y.attrs.map attrV).drop (Int.toNat 0)).take (((posK o.key y.attrs : Nat) : Int).toNat - Int.toNat 0)), [attrV (o.key, o.value)], (((y.attrs.map attrV).drop (((posK o.key y.attrs : Nat) : Int) + 1).toNat).take (((y.attrs.map attrV).length : Int).toNat - (((posK o.key y.attrs : Nat) : Int) + 1).toNat))].flatten, .str y.text, .sl 6 y.subV])], rfl, rfl, ⟨⟨rfl, rfl⟩, trivial⟩, ?_⟩
      have e : [(((y.attrs.map attrV).drop (Int.toNat 0)).take (((posK o.key y.attrs : Nat) : Int).toNat - Int.toNat 0)), [attrV (o.key, o.value)], (((y.attrs.map attrV).drop (((posK o.key y.attrs : Nat) : Int) + 1).toNat).take (((y.attrs.map attrV).length : Int).toNat - (((posK o.key y.attrs : Nat) : Int) + 1).toNat))].flatten = (setA o y.attrs).map attrV := by
        unfold setA midA
        rw [q1, q2]
        rw [List.take_of_length_le (l := List.drop (((posK o.key y.attrs : Nat) : Int) + 1).toNat (y.attrs.map attrV)) (by simp)]
        have e1 : (((posK o.key y.attrs : Nat) : Int) + 1).toNat = posK o.key y.attrs + 1 := by omega
        rw [e1]
        simp [List.map_take, List.map_drop]
      rw [e, setAT, withAttrs_V]
      rfl
    · have q2 : o.gone = true := by simpa using q2
      show Goes _ _ _ _
      have hc := w_ConcatAttr [(((y.attrs.map attrV).drop (Int.toNat 0)).take (((posK o.key y.attrs : Nat) : Int).toNat - Int.toNat 0)), [], (((y.attrs.map attrV).drop (((posK o.key y.attrs : Nat) : Int) + 1).toNat).take (((y.attrs.map attrV).length : Int).toNat - (((posK o.key y.attrs : Nat) : Int) + 1).toNat))] (by simp; omega) (by simp)
      have hc := pure_args (args' := [.sl 1 ([(((y.attrs.map attrV).drop (Int.toNat 0)).take (((posK o.key y.attrs : Nat) : Int).toNat - Int.toNat 0)), [], (((y.attrs.map attrV).drop (((posK o.key y.attrs : Nat) : Int) + 1).toNat).take (((y.attrs.map attrV).length : Int).toNat - (((posK o.key y.attrs : Nat) : Int) + 1).toNat))].map (V.sl 2))]) (args := [.sl 1 [.sl 2 (((y.attrs.map attrV).drop (Int.toNat 0)).take (((posK o.key y.attrs : Nat) : Int).toNat - Int.toNat 0)), .nilsl, .sl 2 (((y.attrs.map attrV).drop (((posK o.key y.attrs : Nat) : Int) + 1).toNat).take (((y.attrs.map attrV).length : Int).toNat - (((posK o.key y.attrs : Nat) : Int) + 1).toNat))]]) hc ⟨Wk.sl ⟨⟨⟨.refl _, trivial⟩, ⟨rfl, rfl⟩⟩, ⟨⟨Wk.nil 2, trivial⟩, ⟨rfl, rfl⟩⟩, ⟨⟨.refl _, trivial⟩, ⟨rfl, rfl⟩⟩, trivial⟩, trivial⟩ rfl rfl
      refine goes_drawX [] 300 ⟨by decide, Int.natCast_nonneg _, hpl', hp0, hpl'', Int.le_refl _, ?_⟩
      refine ⟨by kernel_rfl, ⟨rfl, rfl, rfl, trivial⟩, rfl, rfl, rfl, _, hc, rfl, ?_⟩
      refine ⟨by kernel_rfl, ?_⟩
      refine ⟨trivial, rfl, rfl, [some (.box [.int .u64 y.id, .bool y.leaf, .str y.label, .sl 2 [(((y.attrs.map attrV).drop (Int.toNat 0)).take (((posK o.key y.attrs : Nat) : Int).toNat - Int.toNat 0)), [], (((y.attrs.map attrV).drop (((posK o.key y.attrs : Nat) : Int) + 1).toNat).take (((y.attrs.map attrV).length : Int).toNat - (((posK o.key y.attrs : Nat) : Int) + 1).toNat))].flatten, .str y.text, .sl 6 y.subV])], rfl, rfl, ⟨⟨rfl, rfl⟩, trivial⟩, ?_⟩
      have e : [(((y.attrs.map attrV).drop (Int.toNat 0)).take (((posK o.key y.attrs : Nat) : Int).toNat - Int.toNat 0)), [], (((y.attrs.map attrV).drop (((posK o.key y.attrs : Nat) : Int) + 1).toNat).take (((y.attrs.map attrV).length : Int).toNat - (((posK o.key y.attrs : Nat) : Int) + 1).toNat))].flatten = (setA o y.attrs).map attrV := by
        unfold setA midA
        rw [q1, q2]
        rw [List.take_of_length_le (l := List.drop (((posK o.key y.attrs : Nat) : Int) + 1).toNat (y.attrs.map attrV)) (by simp)]
        have e1 : (((posK o.key y.attrs : Nat) : Int) + 1).toNat = posK o.key y.attrs + 1 := by omega
        rw [e1]
        simp [List.map_take, List.map_drop]
      rw [e, setAT, withAttrs_V]
      rfl
  · have q1 : hasK o.key y.attrs = false := by simpa using q1
    have hpl'' := hpl'
    have hp0 : (0 : Int) ≤ ((posK o.key y.attrs : Nat) : Int) := Int.natCast_nonneg _
    refine ⟨fun q2 => go 300 ?_, fun q2 => go 300 ?_⟩
    · have q2 : o.gone = false := by simpa using q2
      refine ⟨⟨rfl, trivial⟩, ?_⟩
      show Goes _ _ _ _
      have hc := w_ConcatAttr [(((y.attrs.map attrV).drop (Int.toNat 0)).take (((posK o.key y.attrs : Nat) : Int).toNat - Int.toNat 0)), [attrV (o.key, o.value)], (((y.attrs.map attrV).drop ((posK o.key y.attrs : Nat) : Int).toNat).take (((y.attrs.map attrV).length : Int).toNat - ((posK o.key y.attrs : Nat) : Int).toNat))] (by simp; omega) (by simp)
      refine goes_drawX [] 300 ⟨by decide, Int.natCast_nonneg _, hpl', hp0, hpl'', Int.le_refl _, ?_⟩
      refine ⟨by kernel_rfl, rfl, rfl, ⟨rfl, rfl, rfl, trivial⟩, rfl, rfl, rfl, _, hc, rfl, ?_⟩
      refine ⟨by kernel_rfl, ?_⟩
      refine ⟨trivial, rfl, rfl, [some (.box [.int .u64 y.id, .bool y.leaf, .str y.label, .sl 2 [(((y.attrs.map attrV).drop (Int.toNat 0)).take (((posK o.key y.attrs : Nat) : Int).toNat - Int.toNat 0)), [attrV (o.key, o.value)], (((y.attrs.map attrV).drop ((posK o.key y.attrs : Nat) : Int).toNat).take (((y.attrs.map attrV).length : Int).toNat - ((posK o.key y.attrs : Nat) : Int).toNat))].flatten, .str y.text, .sl 6 y.subV])], rfl, rfl, ⟨⟨rfl, rfl⟩, trivial⟩, ?_⟩
      have e : [(((y.attrs.map attrV).drop (Int.toNat 0)).take (((posK o.key y.attrs : Nat) : Int).toNat - Int.toNat 0)), [attrV (o.key, o.value)], (((y.attrs.map attrV).drop ((posK o.key y.attrs : Nat) : Int).toNat).take (((y.attrs.map attrV).length : Int).toNat - ((posK o.key y.attrs : Nat) : Int).toNat))].flatten = (setA o y.attrs).map attrV := by
        unfold setA midA
        rw [q1, q2]
        rw [List.take_of_length_le (l := List.drop ((posK o.key y.attrs : Nat) : Int).toNat (y.attrs.map attrV)) (by simp)]
        simp [List.map_take, List.map_drop]
      rw [e, setAT, withAttrs_V]
      rfl
    · have q2 : o.gone = true := by simpa using q2
      show Goes _ _ _ _
      have hc := w_ConcatAttr [(((y.attrs.map attrV).drop (Int.toNat 0)).take (((posK o.key y.attrs : Nat) : Int).toNat - Int.toNat 0)), [], (((y.attrs.map attrV).drop ((posK o.key y.attrs : Nat) : Int).toNat).take (((y.attrs.map attrV).length : Int).toNat - ((posK o.key y.attrs : Nat) : Int).toNat))] (by simp; omega) (by simp)
      have hc := pure_args (args' := [.sl 1 ([(((y.attrs.map attrV).drop (Int.toNat 0)).take (((posK o.key y.attrs : Nat) : Int).toNat - Int.toNat 0)), [], (((y.attrs.map attrV).drop ((posK o.key y.attrs : Nat) : Int).toNat).take (((y.attrs.map attrV).length : Int).toNat - ((posK o.key y.attrs : Nat) : Int).toNat))].map (V.sl 2))]) (args := [.sl 1 [.sl 2 (((y.attrs.map attrV).drop (Int.toNat 0)).take (((posK o.key y.attrs : Nat) : Int).toNat - Int.toNat 0)), .nilsl, .sl 2 (((y.attrs.map attrV).drop ((posK o.key y.attrs : Nat) : Int).toNat).take (((y.attrs.map attrV).length : Int).toNat - ((posK o.key y.attrs : Nat) : Int).toNat))]]) hc ⟨Wk.sl ⟨⟨⟨.refl _, trivial⟩, ⟨rfl, rfl⟩⟩, ⟨⟨Wk.nil 2, trivial⟩, ⟨rfl, rfl⟩⟩, ⟨⟨.refl _, trivial⟩, ⟨rfl, rfl⟩⟩, trivial⟩, trivial⟩ rfl rfl
      refine goes_drawX [] 300 ⟨by decide, Int.natCast_nonneg _, hpl', hp0, hpl'', Int.le_refl _, ?_⟩
      refine ⟨by kernel_rfl, ⟨rfl, rfl, rfl, trivial⟩, rfl, rfl, rfl, _, hc, rfl, ?_⟩
      refine ⟨by kernel_rfl, ?_⟩
      refine ⟨trivial, rfl, rfl, [some (.box [.int .u64 y.id, .bool y.leaf, .str y.label, .sl 2 [(((y.attrs.map attrV).drop (Int.toNat 0)).take (((posK o.key y.attrs : Nat) : Int).toNat - Int.toNat 0)), [], (((y.attrs.map attrV).drop ((posK o.key y.attrs : Nat) : Int).toNat).take (((y.attrs.map attrV).length : Int).toNat - ((posK o.key y.attrs : Nat) : Int).toNat))].flatten, .str y.text, .sl 6 y.subV])], rfl, rfl, ⟨⟨rfl, rfl⟩, trivial⟩, ?_⟩
      have e : [(((y.attrs.map attrV).drop (Int.toNat 0)).take (((posK o.key y.attrs : Nat) : Int).toNat - Int.toNat 0)), [], (((y.attrs.map attrV).drop ((posK o.key y.attrs : Nat) : Int).toNat).take (((y.attrs.map attrV).length : Int).toNat - ((posK o.key y.attrs : Nat) : Int).toNat))].flatten = (setA o y.attrs).map attrV := by
        unfold setA midA
        rw [q1, q2]
        rw [List.take_of_length_le (l := List.drop ((posK o.key y.attrs : Nat) : Int).toNat (y.attrs.map attrV)) (by simp)]
        simp
      rw [e, setAT, withAttrs_V]
      rfl
end Bow
/- W37: the program's apply, Apply. -/
namespace Bow
open Go Go.Proofs

theorem w_apply1 (o : OpT) (y : Tree) (k0 : Option (List UInt8)) (hs : attrsOk k0 y.attrs = true) (hl : y.attrs.length ≤ 900000) : Fun Tryz.prog 100 [some (.box (nodeV y).cells)] [.ptr (.loc 0) 0, .iptr (opV o).cells 0] (fun _ T => T = [some (.box (nodeV (setAT o y)).cells)]) := by
  refine fun_fn 100 Tryz.func100 rfl rfl rfl fun imps B hi => ?_
  obtain ⟨r, rfl⟩ := List.length_eq_one_iff.1 hi
  show CallThen _ _ _ _ _ _
  refine call_sub [0] (w_setAttr o y k0 hs hl) rfl rfl ⟨⟨rfl, rfl⟩, trivial⟩ rfl rfl rfl ?_
  rintro x T1 rfl
  refine ⟨rfl, ?_⟩
  exact ⟨trivial, rfl, rfl, rfl⟩

set_option maxRecDepth 100000 in
theorem w_apply_att (t y : Tree) (o : OpT) (ht : t.weight ≤ 900000) (ho : o.Ok) (hk : o.kind = 4) (hy : atT t o.path = some y) (hs : attrsOk none y.attrs = true) : Pure Tryz.prog 75 [nodeV t, opV o] (fun x => x = nodeV (changeT (setAT o) t o.path)) := by
  have hp := ho.lt.path
  have hyw := atT_weight hy
  have hya := attrs_le_weight y
  refine pure_fn 300 Tryz.func75 rfl rfl rfl fun B => ?_
  refine ⟨fun g1 => absurd (hk.symm.trans (eq_of g1)) (by decide), fun g1 => go 300 ?_⟩
  refine ⟨fun g1 => absurd (hk.symm.trans (eq_of g1)) (by decide), fun g1 => go 300 ?_⟩
  refine ⟨fun g1 => absurd (hk.symm.trans (eq_of g1)) (by decide), fun g1 => go 300 ?_⟩
  refine ⟨fun g1 => go 300 ?_, fun g1 => absurd hk (ne_of g1)⟩
  show CallThen _ _ _ _ _ _
  refine call_freeze 1 rfl rfl ?_
  refine call_pure (w_change1 100 (opV o).cells (setAT o) y (w_apply1 o y none hs (by omega)) o.path t hp (by omega) hy) rfl ?_
  rintro z rfl
  exact ⟨trivial, rfl, rfl, rfl, rfl⟩

theorem w_applyT (t : Tree) (o : OpT) (ht : t.weight ≤ 900000) (ho : o.Ok) (h : ValidE t o = 0) : Pure Tryz.prog 75 [nodeV t, opV o] (fun x => x = nodeV (applyT t o)) := by
  obtain ⟨hr, hf, _⟩ := valid_right h
  have hra : t.rightA = true := by
    unfold rightT at hr
    rw [Bool.and_eq_true] at hr
    exact hr.2
  have hto : o.kind = 3 → ∀ x ∈ o.to, inI x := fun hk x hx => by
    have := may_step (good_to hf hk) x hx
    constructor <;> omega
  cases good_of h with
  | ins y hk hy hl h0 h1 h2 =>
    have e : applyT t o = changeT (insT o.at_ (freshT o)) t o.path := by unfold applyT; rw [hk]; rfl
    rw [e]
    exact w_apply_k t o _ ht ho (fun h => absurd (hk.symm.trans h) (by decide)) (.ins y hk hy h0 h1)
  | del x hk hne hx =>
    have e : applyT t o = changeT (delT (lastP o.path)) t o.path.dropLast := by unfold applyT; rw [hk]; rfl
    rw [e]
    exact w_apply_k t o _ ht ho (fun h => absurd (hk.symm.trans h) (by decide)) (.del x hk hne hx)
  | mov x z hk hne hx hw hz hl h0 h1 =>
    have e : applyT t o = moveT x t o := by unfold applyT; rw [hk, hx]; rfl
    rw [e]
    exact w_apply_k t o _ ht ho (fun _ => hto hk) (.mov x z hk hne hx hw hz h0 h1)
  | att y hk hy h1 h2 =>
    have e : applyT t o = changeT (setAT o) t o.path := by unfold applyT; rw [hk]; rfl
    rw [e]
    exact w_apply_att t y o ht ho hk hy (right_attrs (right_at hra hy))
  | lab y hk hy h2 =>
    have e : applyT t o = changeT (relabelT o.label) t o.path := by unfold applyT; rw [hk]; rfl
    rw [e]
    exact w_apply_k t o _ ht ho (fun h => absurd (hk.symm.trans h) (by decide)) (.lab y hk hy)
  | edt y hk hy hl he =>
    have e : applyT t o = changeT (retextT o.pieces) t o.path := by unfold applyT; rw [hk]; rfl
    rw [e]
    exact w_apply_k t o _ ht ho (fun h => absurd (hk.symm.trans h) (by decide)) (.edt y hk hy)

theorem w_Apply (t : Tree) (o : OpT) (ht : t.weight ≤ 900000) (ho : o.Ok) : Pure Tryz.prog 50 [nodeV t, opV o] (fun x => x = ApplyV (applyR t o)) := by
  by_cases h : ValidE t o = 0
  · have e : applyR t o = (applyT t o, 0) := by unfold applyR; rw [decide_eq_true h]; rfl
    rw [e]
    exact w_Apply_ok t o _ (by omega) ho h (w_applyT t o ht ho h)
  · have e : applyR t o = (zeroT [], ValidE t o) := by unfold applyR; rw [decide_eq_false h]; rfl
    rw [e]
    exact w_Apply_bad t o (by omega) ho h
end Bow
/- W38: the reference's Apply. -/
namespace Bow
open Go Go.Proofs

set_option maxRecDepth 100000 in
theorem w_refApply_bad (t : Tree) (o : OpT) (ht : t.weight ≤ 1000000) (ho : o.Ok) (h : ValidE t o ≠ 0) : Pure Tryz.prog 20 [nodeV t, opV o] (fun x => x = ApplyV (zeroT [], ValidE t o)) := by
  refine pure_wk (pure_fn 300 Tryz.func20 rfl rfl rfl fun B => ?_)
  show CallThen _ _ _ _ _ _
  refine call_pure (w_refValid t o ht ho) rfl ?_
  rintro x rfl
  refine ⟨fun g1 => go 300 ?_, fun g1 => absurd (eq_of' g1) h⟩
  exact ⟨trivial, rfl, rfl, rfl, ApplyV (zeroT [], ValidE t o), Wk.tup ⟨wk_zero (ss := []) (Wk.nil 6), .refl _, trivial⟩, rfl, rfl⟩

set_option maxHeartbeats 1000000 in
set_option maxRecDepth 100000 in
theorem w_refApply_ok (t : Tree) (o : OpT) (ht : t.weight ≤ 400000) (ho : o.Ok) (h : ValidE t o = 0) : Pure Tryz.prog 20 [nodeV t, opV o] (fun x => x = ApplyV (applyT t o, 0)) := by
  obtain ⟨hr, hf, _⟩ := valid_right h
  have hra : t.rightA = true := by
    unfold rightT at hr
    rw [Bool.and_eq_true] at hr
    exact hr.2
  have hp := ho.lt.path
  have hpi := may_step (formed_path hf)
  refine pure_fn 300 Tryz.func20 rfl rfl rfl fun B => ?_
  show CallThen _ _ _ _ _ _
  refine call_pure (w_refValid t o (by omega) ho) rfl ?_
  rintro x rfl
  refine ⟨fun g1 => absurd h (ne_of' g1), fun g1 => go 300 ?_⟩
  show CallThen _ _ _ _ _ _
  refine call_pure (w_refAt t o.path hp) rfl ?_
  rintro _ rfl
  cases good_of h with
  | ins y hk hy hl h0 h1 h2 =>
    have e : applyT t o = changeT (insT o.at_ (freshT o)) t o.path := by unfold applyT; rw [hk]; rfl
    have hyw := atT_weight hy
    rw [hy]
    refine ⟨fun g1 => go 300 ?_, fun g1 => absurd hk (ne_of g1)⟩
    show Goes _ _ _ _
    have hput := pure_args (args := [nodeV y, .int .i64 o.at_, .agg [.int .u64 o.id, .bool o.leaf, .str o.label, .nilsl, .str [], .nilsl]]) (w_refputs y (freshT o) o.at_ (by omega) h0 h1) ⟨.refl _, .refl _, wk_fresh o, trivial⟩ rfl rfl
    refine goes_drawX [] 300 ⟨_, hput, rfl, _, w_refchange t (insT o.at_ (freshT o) y) y o.path hp (by omega) hy, rfl, ?_⟩
    refine ⟨by kernel_rfl, ?_⟩
    refine ⟨trivial, rfl, rfl, rfl, ?_⟩
    rw [change_const (F := insT o.at_ (freshT o)) hy, e]
    rfl
  | del x hk hne hx =>
    have e : applyT t o = withoutT t o.path := by unfold applyT; rw [hk]; rfl
    rw [hx]
    refine ⟨fun g1 => absurd (hk.symm.trans (eq_of g1)) (by decide), fun g1 => go 300 ?_⟩
    refine ⟨fun g1 => go 300 ?_, fun g1 => absurd hk (ne_of g1)⟩
    show CallThen _ _ _ _ _ _
    refine call_pure (w_refWithout t x o.path hp hne (by omega) hx) rfl ?_
    rintro z rfl
    exact ⟨trivial, rfl, rfl, rfl, by rw [e]; rfl⟩
  | mov x z hk hne hx hw hz hl h0 h1 =>
    have e : applyT t o = moveT x t o := by unfold applyT; rw [hk, hx]; rfl
    rw [hx]
    refine ⟨fun g1 => absurd (hk.symm.trans (eq_of g1)) (by decide), fun g1 => go 300 ?_⟩
    refine ⟨fun g1 => absurd (hk.symm.trans (eq_of g1)) (by decide), fun g1 => go 300 ?_⟩
    refine ⟨fun g1 => go 300 ?_, fun g1 => absurd hk (ne_of g1)⟩
    show CallThen _ _ _ _ _ _
    refine call_pure (w_refmove t x z o ht ho (fun i hi => by have := hpi i hi; constructor <;> omega) hne hx hw hz h0 h1) rfl ?_
    rintro r rfl
    exact ⟨trivial, rfl, rfl, rfl, by rw [e]; rfl⟩
  | att y hk hy h1 h2 =>
    have e : applyT t o = changeT (setAT o) t o.path := by unfold applyT; rw [hk]; rfl
    have hyw := atT_weight hy
    have ea : y.withAttrs (refA o o.gone y.attrs) = setAT o y := by rw [attr_law o (right_attrs (right_at hra hy))]; rfl
    rw [hy]
    refine ⟨fun g1 => absurd (hk.symm.trans (eq_of g1)) (by decide), fun g1 => go 300 ?_⟩
    refine ⟨fun g1 => absurd (hk.symm.trans (eq_of g1)) (by decide), fun g1 => go 300 ?_⟩
    refine ⟨fun g1 => absurd (hk.symm.trans (eq_of g1)) (by decide), fun g1 => go 300 ?_⟩
    refine ⟨fun g1 => go 300 ?_, fun g1 => absurd hk (ne_of g1)⟩
    show Goes _ _ _ _
    have hat := w_refattr y o (by omega)
    rw [ea] at hat
    refine goes_drawX [] 300 ⟨_, hat, rfl, _, w_refchange t (setAT o y) y o.path hp (by omega) hy, rfl, ?_⟩
    refine ⟨by kernel_rfl, ?_⟩
    refine ⟨trivial, rfl, rfl, rfl, ?_⟩
    rw [change_const (F := setAT o) hy, e]
    rfl
  | lab y hk hy h2 =>
    have e : applyT t o = changeT (relabelT o.label) t o.path := by unfold applyT; rw [hk]; rfl
    rw [hy]
    refine ⟨fun g1 => absurd (hk.symm.trans (eq_of g1)) (by decide), fun g1 => go 300 ?_⟩
    refine ⟨fun g1 => absurd (hk.symm.trans (eq_of g1)) (by decide), fun g1 => go 300 ?_⟩
    refine ⟨fun g1 => absurd (hk.symm.trans (eq_of g1)) (by decide), fun g1 => go 300 ?_⟩
    refine ⟨fun g1 => absurd (hk.symm.trans (eq_of g1)) (by decide), fun g1 => go 300 ?_⟩
    refine ⟨fun g1 => go 300 ?_, fun g1 => absurd hk (ne_of g1)⟩
    show CallThen _ _ _ _ _ _
    cases y with
    | mk i lf b a c ss =>
    refine call_pure (w_refchange t (relabelT o.label (.mk i lf b a c ss)) (.mk i lf b a c ss) o.path hp (by omega) hy) rfl ?_
    rintro r rfl
    refine ⟨trivial, rfl, rfl, rfl, ?_⟩
    rw [change_const (F := relabelT o.label) hy, e]
    rfl
  | edt y hk hy hl he =>
    have e : applyT t o = changeT (retextT o.pieces) t o.path := by unfold applyT; rw [hk]; rfl
    have hyw := atT_weight hy
    have htw := text_le_weight y
    rw [hy]
    refine ⟨fun g1 => absurd (hk.symm.trans (eq_of g1)) (by decide), fun g1 => go 300 ?_⟩
    refine ⟨fun g1 => absurd (hk.symm.trans (eq_of g1)) (by decide), fun g1 => go 300 ?_⟩
    refine ⟨fun g1 => absurd (hk.symm.trans (eq_of g1)) (by decide), fun g1 => go 300 ?_⟩
    refine ⟨fun g1 => absurd (hk.symm.trans (eq_of g1)) (by decide), fun g1 => go 300 ?_⟩
    refine ⟨fun g1 => absurd (hk.symm.trans (eq_of g1)) (by decide), fun g1 => go 300 ?_⟩
    show CallThen _ _ _ _ _ _
    refine call_pure (w_refEdit y.text o.pieces (by omega) ho.lt.pieces ho.each) rfl ?_
    rintro r rfl
    show CallThen _ _ _ _ _ _
    cases y with
    | mk i lf b a c ss =>
    refine call_pure (w_refchange t (retextT o.pieces (.mk i lf b a c ss)) (.mk i lf b a c ss) o.path hp (by omega) hy) rfl ?_
    rintro r rfl
    refine ⟨trivial, rfl, rfl, rfl, ?_⟩
    rw [change_const (F := retextT o.pieces) hy, e]
    rfl

theorem w_refApply (t : Tree) (o : OpT) (ht : t.weight ≤ 400000) (ho : o.Ok) : Pure Tryz.prog 20 [nodeV t, opV o] (fun x => x = ApplyV (applyR t o)) := by
  by_cases h : ValidE t o = 0
  · have e : applyR t o = (applyT t o, 0) := by unfold applyR; rw [decide_eq_true h]; rfl
    rw [e]
    exact w_refApply_ok t o ht ho h
  · have e : applyR t o = (zeroT [], ValidE t o) := by unfold applyR; rw [decide_eq_false h]; rfl
    rw [e]
    exact w_refApply_bad t o (by omega) ho h
end Bow
/- SP15: a tree that was right stays right, in plain Lean. -/
namespace Bow
open Go

theorem rightN_iff (t : Tree) : rightN t = true ↔ t.label.length ≤ 64 ∧ (t.leaf = true → t.subs = []) ∧ (t.leaf = false → t.text = []) ∧ attrsOk none t.attrs = true := by
  unfold rightN headOk
  constructor
  · intro h
    rw [Bool.and_eq_true, Bool.and_eq_true, Bool.and_eq_true] at h
    obtain ⟨⟨h1, h2, h3⟩, h4⟩ := h
    refine ⟨by simp at h1; omega, fun hl => ?_, fun hl => ?_, h4⟩
    · rw [hl] at h2
      cases hs : t.subs with
      | nil => rfl
      | cons a l => rw [hs] at h2; simp at h2
    · rw [hl] at h3
      simpa using h3
  · rintro ⟨h1, h2, h3, h4⟩
    rw [h4, decide_eq_false (by omega : ¬ (64 : Int) < t.label.length)]
    cases hl : t.leaf with
    | false => rw [h3 hl]; simp
    | true => rw [h2 hl]; simp
theorem rightN_subs (t : Tree) (ss : List Tree) (h : rightN t = true) (hl : t.leaf = true → ss = []) : rightN (t.withSubs ss) = true := by
  obtain ⟨h1, h2, h3, h4⟩ := (rightN_iff t).1 h
  refine (rightN_iff _).2 ?_
  obtain ⟨i, lf, b, a, c, us⟩ := t
  exact ⟨h1, hl, h3, h4⟩
theorem rightN_leaf {t : Tree} (h : rightN t = true) (hl : t.leaf = true) : t.subs = [] := ((rightN_iff t).1 h).2.1 hl
theorem rightA_N {t : Tree} (h : t.rightA = true) : rightN t = true := by
  rw [rightA_eq, Bool.and_eq_true] at h
  exact h.1
theorem rightA_subs {t : Tree} (h : t.rightA = true) : ∀ s ∈ t.subs, s.rightA = true := by
  rw [rightA_eq, Bool.and_eq_true, rightsA_all] at h
  exact List.all_eq_true.1 h.2
theorem rightA_mk {t : Tree} (h1 : rightN t = true) (h2 : ∀ s ∈ t.subs, s.rightA = true) : t.rightA = true := by
  rw [rightA_eq, h1, rightsA_all, Bool.true_and]
  exact List.all_eq_true.2 h2
theorem change_rightA {F : Tree → Tree} {y : Tree} : ∀ {p : List Int} {t : Tree}, t.rightA = true → atT t p = some y → (F y).rightA = true → (changeT F t p).rightA = true
  | [], t, _, h, hF => by
    rw [atT] at h
    injection h with h
    subst h
    exact hF
  | i :: p, t, ht, h, hF => by
    rw [atT] at h
    cases hs : subT t i with
    | none => rw [hs] at h; cases h
    | some s =>
      rw [hs] at h
      obtain ⟨h1, h2, h3⟩ := subT_some hs
      have ih := change_rightA (F := F) (p := p) (rightA_subs ht s h3) h hF
      rw [changeT, hs]
      simp only
      refine rightA_mk (rightN_subs t _ (rightA_N ht) fun hl => ?_) fun u hu => ?_
      · rw [rightN_leaf (rightA_N ht) hl] at h3
        cases h3
      · rw [withSubs_subs] at hu
        rcases List.mem_or_eq_of_mem_set hu with hu | rfl
        · exact rightA_subs ht u hu
        · exact ih
theorem ins_rightA (n : Int) {x y : Tree} (hy : y.rightA = true) (hl : y.leaf = false) (hx : x.rightA = true) : (insT n x y).rightA = true := by
  refine rightA_mk (rightN_subs y _ (rightA_N hy) fun h => by rw [hl] at h; cases h) fun u hu => ?_
  unfold insT at hu
  rw [withSubs_subs] at hu
  rcases List.mem_append.1 hu with hu | hu
  · exact rightA_subs hy u (List.mem_of_mem_take hu)
  · rcases List.mem_cons.1 hu with rfl | hu
    · exact hx
    · exact rightA_subs hy u (List.mem_of_mem_drop hu)
theorem del_rightA (n : Int) {y : Tree} (hy : y.rightA = true) : (delT n y).rightA = true := by
  refine rightA_mk (rightN_subs y _ (rightA_N hy) fun h => by rw [rightN_leaf (rightA_N hy) h]; simp) fun u hu => ?_
  unfold delT at hu
  rw [withSubs_subs] at hu
  rcases List.mem_append.1 hu with hu | hu
  · exact rightA_subs hy u (List.mem_of_mem_take hu)
  · exact rightA_subs hy u (List.mem_of_mem_drop hu)
theorem less_ord {k s : List UInt8} (h : Op.bytesLess k s = true) : ordOk (some k) s = true := by
  show (!leS s k) = true
  unfold leS
  rw [less_asymm h, decide_eq_false fun e => less_ne h e.symm]
  rfl
theorem ord_trans {k0 : Option (List UInt8)} {k s : List UInt8} (h1 : ordOk k0 k = true) (h2 : Op.bytesLess k s = true) : ordOk k0 s = true := by
  cases k0 with
  | none => rfl
  | some q => exact less_ord (less_trans (ordOk_less h1) h2)
theorem attrOk_mk {k0 : Option (List UInt8)} {a : List UInt8 × List UInt8} (h1 : keyOk a.1 = true) (h2 : a.2.length ≤ 256) (h3 : ordOk k0 a.1 = true) : attrOk k0 a = true := by
  unfold attrOk
  rw [h1, h3, decide_eq_true (by omega)]
  rfl
theorem attrOk_parts {k0 : Option (List UInt8)} {a : List UInt8 × List UInt8} (h : attrOk k0 a = true) : keyOk a.1 = true ∧ a.2.length ≤ 256 ∧ ordOk k0 a.1 = true := by
  unfold attrOk at h
  simp only [Bool.and_eq_true, decide_eq_true_eq] at h
  exact ⟨h.1, by omega, h.2.2⟩
theorem attrsOk_weak {k0 : Option (List UInt8)} {k : List UInt8} (h : ordOk k0 k = true) : ∀ {l : AttrL}, attrsOk (some k) l = true → attrsOk k0 l = true
  | [], _ => rfl
  | a :: l, hl => by
    rw [attrsOk, Bool.and_eq_true] at hl ⊢
    obtain ⟨h1, h2, h3⟩ := attrOk_parts hl.1
    exact ⟨attrOk_mk h1 h2 (ord_trans h (ordOk_less h3)), hl.2⟩
theorem refA_true_ok (o : OpT) : ∀ {l : AttrL} {k0 : Option (List UInt8)}, attrsOk k0 l = true → attrsOk k0 (refA o true l) = true
  | [], _, _ => rfl
  | a :: l, k0, h => by
    have ih := refA_true_ok o (attrsOk_tail h)
    rw [attrsOk, Bool.and_eq_true] at h
    obtain ⟨h1, h2, h3⟩ := attrOk_parts h.1
    rw [refA]
    simp only [Bool.not_true, Bool.false_and, cond_false, List.nil_append, Bool.true_or]
    cases decide (a.1 = o.key) with
    | true => exact attrsOk_weak h3 ih
    | false =>
      show attrsOk k0 (a :: refA o true l) = true
      rw [attrsOk, h.1, ih]
      rfl
theorem refA_false_ok (o : OpT) (hk : keyOk o.key = true) (hv : o.value.length ≤ 256) : ∀ {l : AttrL} {k0 : Option (List UInt8)}, attrsOk k0 l = true → ordOk k0 o.key = true → attrsOk k0 (refA o false l) = true
  | [], k0, _, ho => by
    show attrsOk k0 [(o.key, o.value)] = true
    rw [attrsOk, attrOk_mk hk hv ho]
    rfl
  | a :: l, k0, h, ho => by
    have ht := attrsOk_tail h
    rw [attrsOk, Bool.and_eq_true] at h
    obtain ⟨h1, h2, h3⟩ := attrOk_parts h.1
    rw [refA]
    cases ha : Op.bytesLess a.1 o.key with
    | true =>
      rw [decide_eq_false (less_ne ha)]
      show attrsOk k0 (a :: refA o false l) = true
      rw [attrsOk, h.1, refA_false_ok o hk hv ht (less_ord ha)]
      rfl
    | false =>
      by_cases he : a.1 = o.key
      · rw [decide_eq_true he]
        show attrsOk k0 ((o.key, o.value) :: refA o true l) = true
        rw [attrsOk, attrOk_mk hk hv ho]
        show attrsOk (some o.key) (refA o true l) = true
        rw [← he]
        exact refA_true_ok o ht
      · rw [decide_eq_false he]
        show attrsOk k0 ((o.key, o.value) :: a :: refA o true l) = true
        have hka : Op.bytesLess o.key a.1 = true := by
          cases hk' : Op.bytesLess o.key a.1 with
          | true => rfl
          | false => exact absurd (less_tri ha hk') he
        rw [attrsOk, attrOk_mk hk hv ho, attrsOk, attrOk_mk h1 h2 (less_ord hka)]
        exact refA_true_ok o ht
theorem withAttrs_rightA {y : Tree} {a : AttrL} (hy : y.rightA = true) (ha : attrsOk none a = true) : (y.withAttrs a).rightA = true := by
  have h1 := rightA_N hy
  have h2 := rightA_subs hy
  obtain ⟨q1, q2, q3, q4⟩ := (rightN_iff y).1 h1
  obtain ⟨i, lf, b, a', c, us⟩ := y
  exact rightA_mk ((rightN_iff _).2 ⟨q1, q2, q3, ha⟩) h2
theorem setAT_rightA {o : OpT} {y : Tree} (hy : y.rightA = true) (hk : keyOk o.key = true) (hv : o.gone = true ∨ o.value.length ≤ 256) : (setAT o y).rightA = true := by
  unfold setAT
  refine withAttrs_rightA hy ?_
  rw [← attr_law o (right_attrs hy)]
  cases hg : o.gone with
  | true => exact refA_true_ok o (right_attrs hy)
  | false => exact refA_false_ok o hk (hv.resolve_left (by rw [hg]; simp)) (right_attrs hy) rfl
theorem relabel_rightA {s : List UInt8} {y : Tree} (hy : y.rightA = true) (hs : s.length ≤ 64) : (relabelT s y).rightA = true := by
  have h1 := rightA_N hy
  have h2 := rightA_subs hy
  obtain ⟨q1, q2, q3, q4⟩ := (rightN_iff y).1 h1
  obtain ⟨i, lf, b, a', c, us⟩ := y
  exact rightA_mk ((rightN_iff _).2 ⟨hs, q2, q3, q4⟩) h2
theorem retext_rightA {l : List PieceT} {y : Tree} (hy : y.rightA = true) (hl : y.leaf = true) : (retextT l y).rightA = true := by
  have h1 := rightA_N hy
  have h2 := rightA_subs hy
  obtain ⟨q1, q2, q3, q4⟩ := (rightN_iff y).1 h1
  obtain ⟨i, lf, b, a', c, us⟩ := y
  exact rightA_mk ((rightN_iff _).2 ⟨q1, q2, fun h => absurd (h.symm.trans hl) (by simp), q4⟩) h2
theorem fresh_rightA {o : OpT} (h : o.label.length ≤ 64) : (freshT o).rightA = true := by
  exact rightA_mk ((rightN_iff _).2 ⟨h, fun _ => rfl, fun _ => rfl, rfl⟩) (fun s hs => by cases hs)
/-- Where a moved node lands. -/
theorem land_of {t x z : Tree} {fr to : List Int} {at_ : Int} (hne : fr ≠ []) (hx : atT t fr = some x) (hw : within fr to = false) (hz : atT t to = some z) (h0 : 0 ≤ at_) (h1 : at_ ≤ z.subs.length) :
    ∃ z', atT (withoutT t fr) (landT fr.dropLast (lastP fr) to at_).1 = some z' ∧ 0 ≤ (landT fr.dropLast (lastP fr) to at_).2 ∧ (landT fr.dropLast (lastP fr) to at_).2 ≤ z'.subs.length ∧ z'.leaf = z.leaf ∧ z'.id = z.id := by
  obtain ⟨y, y1, y2, y3, y4⟩ := at_parent hne hx
  have hlast := lastP_eq hne
  rw [hlast] at y2 y3 y4
  have hw' : within (fr.dropLast ++ [lastP fr]) to = false := by rw [← hlast, List.dropLast_concat_getLast]; exact hw
  exact land_at2 y2 h0 fr.dropLast to t y z y1 y3 hw' hz h1
theorem without_rightA {t x : Tree} {fr : List Int} (hne : fr ≠ []) (hx : atT t fr = some x) (ht : t.rightA = true) : (withoutT t fr).rightA = true := by
  obtain ⟨y, y1, y2, y3, y4⟩ := at_parent hne hx
  exact change_rightA ht y1 (del_rightA _ (right_at ht y1))
theorem change_leaf {F : Tree → Tree} (hF : ∀ y, (F y).leaf = y.leaf) : ∀ (p : List Int) (t : Tree), (changeT F t p).leaf = t.leaf
  | [], t => hF t
  | i :: p, t => by
    rw [changeT]
    cases subT t i with
    | none => rfl
    | some s => exact withSubs_leaf _ _
theorem rightT_parts {t : Tree} (h : rightT t = true) : t.leaf = false ∧ t.rightA = true := by
  unfold rightT at h
  simpa using h
theorem right_applyT {t : Tree} {o : OpT} (h : ValidE t o = 0) : rightT (applyT t o) = true := by
  obtain ⟨hr, hf, _⟩ := valid_right h
  obtain ⟨hl, hA⟩ := rightT_parts hr
  have hins : ∀ n x, ∀ y, (insT n x y).leaf = y.leaf := fun n x y => withSubs_leaf _ _
  have hdel : ∀ n, ∀ y, (delT n y).leaf = y.leaf := fun n y => withSubs_leaf _ _
  have key : (applyT t o).leaf = t.leaf ∧ (applyT t o).rightA = true := by
    cases good_of h with
    | ins y hk hy hl h0 h1 h2 =>
      have e : applyT t o = changeT (insT o.at_ (freshT o)) t o.path := by unfold applyT; rw [hk]; rfl
      rw [e]
      exact ⟨change_leaf (hins _ _) _ _, change_rightA hA hy (ins_rightA _ (right_at hA hy) hl (fresh_rightA h2))⟩
    | del x hk hne hx =>
      have e : applyT t o = withoutT t o.path := by unfold applyT; rw [hk]; rfl
      rw [e]
      exact ⟨change_leaf (hdel _) _ _, without_rightA hne hx hA⟩
    | mov x z hk hne hx hw hz hl h0 h1 =>
      have e : applyT t o = moveT x t o := by unfold applyT; rw [hk, hx]; rfl
      obtain ⟨z', k1, k2, k3, k4, k5⟩ := land_of hne hx hw hz h0 h1
      rw [e, moveT_eq]
      have hwA := without_rightA hne hx hA
      refine ⟨(change_leaf (hins _ _) _ _).trans (change_leaf (hdel _) _ _), change_rightA hwA k1 (ins_rightA _ (right_at hwA k1) (k4.trans hl) (right_at hA hx))⟩
    | att y hk hy h1 h2 =>
      have e : applyT t o = changeT (setAT o) t o.path := by unfold applyT; rw [hk]; rfl
      rw [e]
      exact ⟨change_leaf (fun y => by cases y; rfl) _ _, change_rightA hA hy (setAT_rightA (right_at hA hy) h1 h2)⟩
    | lab y hk hy h2 =>
      have e : applyT t o = changeT (relabelT o.label) t o.path := by unfold applyT; rw [hk]; rfl
      rw [e]
      exact ⟨change_leaf (fun y => by cases y; rfl) _ _, change_rightA hA hy (relabel_rightA (right_at hA hy) h2)⟩
    | edt y hk hy hl he =>
      have e : applyT t o = changeT (retextT o.pieces) t o.path := by unfold applyT; rw [hk]; rfl
      rw [e]
      exact ⟨change_leaf (fun y => by cases y; rfl) _ _, change_rightA hA hy (retext_rightA (right_at hA hy) hl)⟩
  unfold rightT
  rw [key.1, key.2, hl]
  rfl
end Bow
/- SP16: the identities of a tree, counted, in plain Lean. -/
namespace Bow
open Go

section
variable {m : List Int → Nat}
end
end Bow
/- W39: the reference's Same, IDs. -/
namespace Bow
open Go Go.Proofs

theorem attrs_take {α : Type} {xs ys : List α} {i : Nat} (h1 : i < xs.length) (h2 : i < ys.length) : (xs.drop i = ys.drop i) = (xs[i] = ys[i] ∧ xs.drop (i + 1) = ys.drop (i + 1)) := by
  rw [List.drop_eq_getElem_cons h1, List.drop_eq_getElem_cons h2, List.cons.injEq]

set_option maxRecDepth 100000 in
theorem w_refSameAttrs (xs ys : AttrL) (hl : xs.length ≤ 1000000) : Pure Tryz.prog 48 [.sl 2 (xs.map attrV), .sl 2 (ys.map attrV)] (fun x => x = .bool (decide (xs = ys))) := by
  refine pure_wk (pure_fn 300 Tryz.func48 rfl rfl rfl fun B => ?_)
  refine ⟨fun g1 => go 300 ?_, fun g1 => go 300 ?_⟩
  · have g1 := ne_of' g1
    exact ⟨trivial, rfl, rfl, rfl, leaf_ff (decide_eq_false fun e => g1 (by rw [e]))⟩
  have g1 : xs.length = ys.length := by have := eq_of' g1; simp at this; omega
  show Goes _ _ _ _
  refine goes_iter (ι := Nat) (fun i => i ≤ xs.length ∧ (xs.drop i = ys.drop i ↔ xs = ys)) (fun i => xs.length - i) (fun i => [(5, .int .i64 i), (0, .sl 2 (xs.map attrV)), (1, .sl 2 (ys.map attrV))]) (fun _ => []) 0 300 (fun _ => rfl) (fun _ => rfl) ⟨⟨Nat.zero_le _, by simp⟩, ⟨⟨rfl, rfl⟩, ⟨rfl, rfl⟩, ⟨rfl, rfl⟩, trivial⟩, trivial⟩ ?_
  rintro i ⟨k1, k2⟩ next
  refine ⟨fun hlt => go 300 ?_, fun hge => go 300 ?_⟩
  · have hi : i < xs.length := by simpa using hlt
    have hi' : i < ys.length := by omega
    have hx : (xs.map attrV)[i]? = some (attrV xs[i]) := by simp [hi]
    have hy : (ys.map attrV)[i]? = some (attrV ys[i]) := by simp [hi']
    rw [attrs_take hi hi'] at k2
    show Goes _ _ _ _
    refine goes_drawX [] 300 ⟨Int.natCast_nonneg i, _, hx, Int.natCast_nonneg i, _, hy, ?_⟩
    refine ⟨by kernel_rfl, ?_⟩
    refine ⟨by kernel_rfl, ?_⟩
    refine ⟨fun g2 => go 300 ?_, fun g2 => go 300 ?_⟩
    · refine ⟨trivial, rfl, rfl, rfl, leaf_ff (decide_eq_false fun e => ?_)⟩
      have := (k2.2 e).1
      rw [this] at g2
      simp at g2
    · refine ⟨by constructor <;> omega, ?_⟩
      have he : xs[i] = ys[i] := by
        simp at g2
        exact Prod.ext g2.1 g2.2
      exact next (i + 1) _ _ ⟨⟨hi, by rw [← k2]; exact ⟨fun h => ⟨he, h⟩, fun h => h.2⟩⟩, by omega, ⟨⟨rfl, rfl⟩, ⟨rfl, rfl⟩, ⟨rfl, rfl⟩, trivial⟩, trivial⟩
  · have hi : i = xs.length := by have : xs.length ≤ i := by simpa using hge
                                  omega
    subst hi
    refine ⟨trivial, rfl, rfl, rfl, leaf_tt (decide_eq_true (k2.1 ?_))⟩
    rw [List.drop_eq_nil_of_le (Nat.le_refl _), List.drop_eq_nil_of_le (by omega)]

set_option maxHeartbeats 1000000 in
set_option maxRecDepth 100000 in
theorem w_refSameT (t : Tree) : ∀ u : Tree, t.weight ≤ 1000000 → Pure Tryz.prog 23 [nodeV t, nodeV u] (fun x => x = .bool (sameT true t u)) := by
  induction t using Tree.ind with
  | _ t ih =>
  intro u ht
  have hsl := subs_le_weight t
  have hal := attrs_le_weight t
  have hA := w_refSameAttrs t.attrs u.attrs (by omega)
  have e := sameT_eq true t u
  refine pure_wk (pure_fn 300 Tryz.func23 rfl rfl rfl fun B => ?_)
  repeat' first
    | (refine ⟨fun _ => go 300 ?_, fun _ => go 300 ?_⟩)
    | (show CallThen _ _ _ _ _ _; refine call_pure hA rfl ?_; rintro z rfl)
    | (refine ⟨trivial, rfl, rfl, rfl, leaf_ff ?_⟩)
    | fail
  case h.refine_2.refine_2.refine_2.refine_2.refine_2.refine_2 g1 g2 g3 g4 g5 g6 =>
    have hlen : t.subs.length = u.subs.length := by have := eq_of' g6; rw [subV_len, subV_len] at this; omega
    have e' : sameT true t u = sameTs true t.subs u.subs := by
      rw [e]
      have g1 := eq_of' g1
      simp at g2 g3 g4 g5
      simp [g1, g2, g3, g4, g5]
    show Goes _ _ _ _
    refine goes_iter (ι := Nat) (fun i => i ≤ t.subs.length ∧ sameTs true (t.subs.drop i) (u.subs.drop i) = sameTs true t.subs u.subs) (fun i => t.subs.length - i) (fun i => [(5, .int .i64 i), (2, .ptr (.loc 0) 0), (3, .ptr (.loc 1) 0)]) (fun _ => [some (.box (nodeV t).cells), some (.box (nodeV u).cells)]) 0 300 (fun _ => rfl) (fun _ => rfl) ⟨⟨Nat.zero_le _, rfl⟩, ⟨⟨rfl, rfl⟩, ⟨rfl, rfl⟩, ⟨rfl, rfl⟩, trivial⟩, ⟨⟨rfl, rfl⟩, ⟨rfl, rfl⟩, trivial⟩⟩ ?_
    rintro i ⟨k1, k2⟩ next
    refine ⟨fun hlt => go 300 ?_, fun hge => go 300 ?_⟩
    · have hi : i < t.subs.length := by simpa [subV_eq] using hlt
      have hi' : i < u.subs.length := by omega
      have hx : t.subV[i]? = some (nodeV t.subs[i]) := by simp [subV_eq, hi]
      have hy : u.subV[i]? = some (nodeV u.subs[i]) := by simp [subV_eq, hi']
      have hws := weight_sub (List.getElem_mem hi)
      rw [sameTs_at hi hi'] at k2
      show Goes _ _ _ _
      refine goes_drawX [] 300 ⟨Int.natCast_nonneg i, _, hx, Int.natCast_nonneg i, _, hy, _, ih _ (List.getElem_mem hi) u.subs[i] (by omega), rfl, ?_⟩
      refine ⟨by kernel_rfl, ?_⟩
      refine ⟨fun g => go 300 ?_, fun g => go 300 ?_⟩
      · have g : sameT true t.subs[i] u.subs[i] = false := by simpa using g
        exact ⟨trivial, rfl, rfl, rfl, leaf_ff (by rw [e', ← k2, g]; rfl)⟩
      · have g : sameT true t.subs[i] u.subs[i] = true := by simpa using g
        rw [g, Bool.true_and] at k2
        refine ⟨by constructor <;> omega, ?_⟩
        exact next (i + 1) _ _ ⟨⟨hi, k2⟩, by omega, ⟨⟨rfl, rfl⟩, ⟨rfl, rfl⟩, ⟨rfl, rfl⟩, trivial⟩, ⟨⟨rfl, rfl⟩, ⟨rfl, rfl⟩, trivial⟩⟩
    · have hi : t.subs.length ≤ i := by simpa [subV_eq] using hge
      rw [List.drop_eq_nil_of_le hi, List.drop_eq_nil_of_le (by omega), sameTs] at k2
      exact ⟨trivial, rfl, rfl, rfl, leaf_tt (by rw [e', ← k2])⟩
  case h.refine_2.refine_2.refine_2.refine_2.refine_2.refine_1 g1 g2 g3 g4 g5 g6 =>
    have g6 := ne_of' g6
    rw [subV_len, subV_len] at g6
    cases h : sameT true t u with
    | false => rfl
    | true =>
      rw [e] at h
      simp only [Bool.and_eq_true] at h
      exact absurd (congrArg Nat.cast (sameTs_len h.2.2.2.2.2)) g6
  all_goals (rw [e]; simp_all)

end Bow
/- SP17: a list of operations, in plain Lean. -/
namespace Bow
open Go

def zeroT0 : Tree := .mk 0 false [] [] [] []
def allR : Tree → List OpT → Nat → Tree × Nat × Int
  | t, [], i => (t, i, 0)
  | t, o :: l, i => bif decide (ValidE t o = 0) then allR (applyT t o) l (i + 1) else (zeroT0, i, ValidE t o)
def AllR (t : Tree) (l : List OpT) : Tree × Nat × Int := bif rightT t then allR t l 0 else (zeroT0, 0, 2)
def costs : List OpT → Nat
  | [] => 0
  | o :: l => costO o + costs l
theorem valid_of_right {t : Tree} (h : rightT t = true) (o : OpT) : ValidE t o = bif !formedB o then 80 else validE t o := by
  unfold ValidE
  rw [h]
  rfl
end Bow
/- W43a: ApplyAll, the program's and the reference's. -/
namespace Bow
open Go Go.Proofs

def AllV (r : Tree × Nat × Int) : V := .tup [nodeV r.1, .int .i64 r.2.1, .int .i64 r.2.2]
theorem allZ (i : Nat) (e : Int) : ∃ y, Wk (.tup [zeroV .nilsl, .int .i64 i, .int .i64 e]) y ∧ y.pureB = true ∧ y = AllV (zeroT0, i, e) :=
  ⟨_, Wk.tup (ys := [nodeV zeroT0, .int .i64 i, .int .i64 e]) ⟨wk_zero (ss := []) (Wk.nil 6), .refl _, .refl _, trivial⟩, rfl, rfl⟩

set_option maxHeartbeats 1000000 in
set_option maxRecDepth 100000 in
theorem w_refApplyAll (t : Tree) (l : List OpT) (hw : t.weight + costs l ≤ 400000) (hl : l.length ≤ 1000000) (hok : ∀ o ∈ l, o.Ok) : Pure Tryz.prog 22 [nodeV t, opsV l] (fun x => x = AllV (AllR t l)) := by
  refine pure_wk (pure_fn 300 Tryz.func22 rfl rfl rfl fun B => ?_)
  show CallThen _ _ _ _ _ _
  refine call_pure (w_refRightT t (by omega)) rfl ?_
  rintro x rfl
  refine ⟨fun g => go 300 ?_, fun g => go 300 ?_⟩
  · have hr : rightT t = false := by simpa using g
    refine ⟨trivial, rfl, rfl, rfl, ?_⟩
    have e : AllR t l = (zeroT0, 0, 2) := by unfold AllR; rw [hr]; rfl
    rw [e]
    exact allZ 0 2
  have hr : rightT t = true := by simpa using g
  have e : AllR t l = allR t l 0 := by unfold AllR; rw [hr]; rfl
  rw [e]
  show Goes _ _ _ _
  refine goes_iter (ι := Nat × Tree) (fun i => i.1 ≤ l.length ∧ rightT i.2 = true ∧ i.2.weight + costs (l.drop i.1) ≤ 400000 ∧ allR i.2 (l.drop i.1) i.1 = allR t l 0) (fun i => l.length - i.1)
    (fun i => [(7, .int .i64 i.1), (1, opsV l), (2, .ptr (.loc 0) 0), (4, .ptr (.loc 1) 0)]) (fun i => [some (.box (nodeV i.2).cells), some (.box (zeroV .nilsl).cells)]) (0, t) 300 (fun _ => rfl) (fun _ => rfl) ⟨⟨Nat.zero_le _, hr, hw, rfl⟩, ⟨⟨rfl, rfl⟩, ⟨rfl, rfl⟩, ⟨rfl, rfl⟩, ⟨rfl, rfl⟩, trivial⟩, ⟨⟨rfl, rfl⟩, ⟨rfl, rfl⟩, trivial⟩⟩ ?_
  rintro ⟨i, u⟩ ⟨k1, k2, k3, k4⟩ next
  simp only at k1 k2 k3 k4
  refine ⟨fun hlt => go 300 ?_, fun hge => go 300 ?_⟩
  · have hi : i < l.length := by simpa using hlt
    have hx : (l.map opV)[i]? = some (opV l[i]) := by simp [hi]
    rw [List.drop_eq_getElem_cons hi, allR] at k4
    rw [List.drop_eq_getElem_cons hi, costs] at k3
    have hap := w_refApply u l[i] (by omega) (hok _ (List.getElem_mem hi))
    show Goes _ _ _ _
    refine goes_drawX [] 300 ⟨Int.natCast_nonneg i, _, hx, _, hap, rfl, ?_⟩
    refine ⟨by kernel_rfl, ?_⟩
    refine ⟨by kernel_rfl, ?_⟩
    by_cases hv : ValidE u l[i] = 0
    · have e : applyR u l[i] = (applyT u l[i], 0) := by unfold applyR; rw [decide_eq_true hv]; rfl
      rw [decide_eq_true hv] at k4
      have hwt := applyT_weight hv
      rw [e]
      refine ⟨fun g => absurd rfl (ne_of' g), fun _ => go 300 ?_⟩
      refine ⟨by constructor <;> omega, ?_⟩
      show Goes _ _ _ _
      exact next (i + 1, applyT u l[i]) _ _ ⟨⟨hi, right_applyT hv, by simp only; omega, k4⟩, by simp only; omega, ⟨⟨rfl, rfl⟩, ⟨rfl, rfl⟩, ⟨rfl, rfl⟩, ⟨rfl, rfl⟩, trivial⟩, ⟨⟨rfl, rfl⟩, ⟨rfl, rfl⟩, trivial⟩⟩
    · have e : applyR u l[i] = (zeroT [], ValidE u l[i]) := by unfold applyR; rw [decide_eq_false hv]; rfl
      rw [decide_eq_false hv] at k4
      rw [e]
      refine ⟨fun _ => go 300 ?_, fun g => absurd (eq_of' g) hv⟩
      refine ⟨trivial, rfl, rfl, rfl, ?_⟩
      rw [← k4]
      exact allZ i (ValidE u l[i])
  · have hi : i = l.length := by have := not_lt_of hge; simp at this; omega
    subst hi
    rw [List.drop_length, allR] at k4
    refine ⟨trivial, rfl, rfl, rfl, ?_⟩
    rw [← k4]
    exact ⟨_, Wk.refl _, rfl, by simp [AllV]; rfl⟩

set_option maxHeartbeats 1000000 in
set_option maxRecDepth 100000 in
theorem w_ApplyAll (t : Tree) (l : List OpT) (hw : t.weight + costs l ≤ 400000) (hl : l.length ≤ 1000000) (hok : ∀ o ∈ l, o.Ok) : Pure Tryz.prog 49 [nodeV t, opsV l] (fun x => x = AllV (AllR t l)) := by
  refine pure_wk (pure_fn 300 Tryz.func49 rfl rfl rfl fun B => ?_)
  show CallThen _ _ _ _ _ _
  refine call_pure (w_RightT t (by omega)) rfl ?_
  rintro x rfl
  refine ⟨fun g => go 300 ?_, fun g => go 300 ?_⟩
  · have hr : rightT t = false := by simpa using g
    refine ⟨trivial, rfl, rfl, rfl, ?_⟩
    have e : AllR t l = (zeroT0, 0, 2) := by unfold AllR; rw [hr]; rfl
    rw [e]
    exact allZ 0 2
  have hr : rightT t = true := by simpa using g
  have e : AllR t l = allR t l 0 := by unfold AllR; rw [hr]; rfl
  rw [e]
  show Goes _ _ _ _
  refine goes_iter (ι := Nat × Tree) (fun i => i.1 ≤ l.length ∧ rightT i.2 = true ∧ i.2.weight + costs (l.drop i.1) ≤ 400000 ∧ allR i.2 (l.drop i.1) i.1 = allR t l 0) (fun i => l.length - i.1)
    (fun i => [(16, .int .i64 i.1), (15, .int .i64 (l.map opV).length), (14, opsV l), (1, opsV l), (2, .ptr (.loc 0) 0), (4, .ptr (.loc 1) 0)]) (fun i => [some (.box (nodeV i.2).cells), some (.box (zeroV .nilsl).cells)]) (0, t) 300 (fun _ => rfl) (fun _ => rfl) ⟨⟨Nat.zero_le _, hr, hw, rfl⟩, ⟨⟨rfl, rfl⟩, ⟨rfl, rfl⟩, ⟨rfl, rfl⟩, ⟨rfl, rfl⟩, ⟨rfl, rfl⟩, ⟨rfl, rfl⟩, trivial⟩, ⟨⟨rfl, rfl⟩, ⟨rfl, rfl⟩, trivial⟩⟩ ?_
  rintro ⟨i, u⟩ ⟨k1, k2, k3, k4⟩ next
  simp only at k1 k2 k3 k4
  refine ⟨fun hlt => go 300 ?_, fun hge => go 300 ?_⟩
  · have hi : i < l.length := by simpa using hlt
    have hx : (l.map opV)[i]? = some (opV l[i]) := by simp [hi]
    have ho := hok _ (List.getElem_mem hi)
    have hvr := valid_of_right k2 l[i]
    rw [List.drop_eq_getElem_cons hi, allR] at k4
    rw [List.drop_eq_getElem_cons hi, costs] at k3
    refine ⟨Int.natCast_nonneg i, _, hx, ?_⟩
    show CallThen _ _ _ _ _ _
    refine call_pure (w_Formed l[i] ho.lt ho.each) rfl ?_
    rintro x rfl
    refine ⟨fun g => go 300 ?_, fun g => go 300 ?_⟩
    · rw [g] at hvr
      have hvr : ValidE u l[i] = validE u l[i] := hvr
      show CallThen _ _ _ _ _ _
      refine call_pure (w_valid u l[i] (by omega) ho) rfl ?_
      rintro x rfl
      rw [← hvr]
      by_cases hv : ValidE u l[i] = 0
      · rw [decide_eq_true hv] at k4
        have hwt := applyT_weight hv
        refine ⟨fun g => absurd hv (ne_of' g), fun _ => go 300 ?_⟩
        show CallThen _ _ _ _ _ _
        refine call_pure (w_applyT u l[i] (by omega) ho hv) rfl ?_
        rintro x rfl
        refine ⟨by constructor <;> omega, ?_⟩
        show Goes _ _ _ _
        exact next (i + 1, applyT u l[i]) _ _ ⟨⟨hi, right_applyT hv, by simp only; omega, k4⟩, by simp only; omega, ⟨⟨rfl, rfl⟩, ⟨rfl, rfl⟩, ⟨rfl, rfl⟩, ⟨rfl, rfl⟩, ⟨rfl, rfl⟩, ⟨rfl, rfl⟩, trivial⟩, ⟨⟨rfl, rfl⟩, ⟨rfl, rfl⟩, trivial⟩⟩
      · rw [decide_eq_false hv] at k4
        refine ⟨fun _ => go 300 ?_, fun g => absurd (eq_of' g) hv⟩
        refine ⟨trivial, rfl, rfl, rfl, ?_⟩
        rw [← k4]
        exact allZ i (ValidE u l[i])
    · rw [g] at hvr
      have hvr : ValidE u l[i] = 80 := hvr
      rw [hvr] at k4
      refine ⟨fun _ => go 300 ?_, fun g => absurd (eq_of' g) (by decide)⟩
      refine ⟨trivial, rfl, rfl, rfl, ?_⟩
      rw [← k4]
      exact allZ i 80
  · have hi : i = l.length := by have := not_lt_of hge; simp at this; omega
    subst hi
    rw [List.drop_length, allR] at k4
    refine ⟨trivial, rfl, rfl, rfl, ?_⟩
    rw [← k4]
    exact ⟨_, Wk.refl _, rfl, by simp [AllV]; rfl⟩

end Bow
/- W49: where nodes are behind an operation: shift.moves, of, number, land. -/
namespace Bow
open Go Go.Proofs

end Bow
/- W50: where a node is behind an operation: shift.Node. -/
namespace Bow
open Go Go.Proofs

end Bow
/- W51: shift.Node, all; Gap; Undo. -/
namespace Bow
open Go Go.Proofs

theorem may_len {p : List Int} (h : mayP p = true) : p.length ≤ 64 := by
  unfold mayP at h
  rw [Bool.and_eq_true] at h
  exact of_decide_eq_true h.1
theorem formed_gap {o : OpT} (hf : formedB o = true) (hk : o.kind = 1 ∨ o.kind = 3) : 0 ≤ o.at_ ∧ o.at_ ≤ 1048576 := by
  unfold formedB at hf
  rw [Bool.and_eq_true] at hf
  have hf2 := hf.2
  rcases hk with hk | hk
  · simp only [hk] at hf2
    have hf3 : (gapOk o.at_ && decide ((o.label.length : Int) ≤ 64)) = true := hf2
    unfold gapOk at hf3
    simp only [Bool.and_eq_true, decide_eq_true_eq] at hf3
    exact hf3.1
  · simp only [hk] at hf2
    have hf3 : (gapOk o.at_ && mayP o.to) = true := hf2
    unfold gapOk at hf3
    simp only [Bool.and_eq_true, decide_eq_true_eq] at hf3
    exact hf3.1

end Bow
/- W52: shift.Gap, Undo; square.sound, drop, shifted, won. -/
namespace Bow
open Go Go.Proofs

theorem wk_zeroOp : Wk (.agg [.int .u8 0, .nilsl, .int .i64 0, .nilsl, .int .u64 0, .ff, .str [], .str [], .str [], .ff, .nilsl]) (opV (noOp 0)) :=
  Wk.agg ⟨.refl _, Wk.nil 1, .refl _, Wk.nil 1, .refl _, Wk.ff, .refl _, .refl _, .refl _, Wk.ff, Wk.nil 3, trivial⟩

end Bow
/- W53: square.row (but for two edits), Behind, Both. -/
namespace Bow
open Go Go.Proofs

end Bow
/- SP23: bounds of two edits that go on alike, in plain Lean. -/
namespace Bow
open Go

end Bow
/- SP29: two edits of one leaf behind each other; what becomes of any operation behind any other one, in plain Lean. -/
namespace Bow
open Go

end Bow
/- W54: square.Behind, Both (but for two edits of one leaf). -/
namespace Bow
open Go Go.Proofs

end Bow
/- W55: leaftext's maker of a normal edit; norm. -/
namespace Bow
open Go Go.Proofs

def mkB (m : Mk) (g : Nat) : HObj := .box [.osl (.loc 1) g 0 m.l.length, .int .i64 m.keep]
def mkVec (m : Mk) (g : Nat) : HObj := .vec g 3 (m.l.map pieceV)
def mkT (m : Mk) (g : Nat) : Heap := [some (mkB m g), some (mkVec m g)]

theorem last_grown {m : Mk} (h : 0 < m.keep ∨ m.l.length = 0) : m.last = ⟨m.l ++ [⟨m.keep, 0, []⟩], 0⟩ := by
  unfold Mk.last
  have : (decide (0 < m.keep) || m.l.isEmpty) = true := by
    rcases h with h | h
    · simp [h]
    · have := List.length_eq_zero_iff.1 h
      simp [this]
  rw [this]
  rfl
theorem last_still {m : Mk} (h : ¬ 0 < m.keep) (h' : m.l.length ≠ 0) : m.last = m := by
  unfold Mk.last
  have : (decide (0 < m.keep) || m.l.isEmpty) = false := by
    have h2 : m.l ≠ [] := fun e => h' (by rw [e]; rfl)
    simp [h, h2]
  rw [this]
  rfl

set_option maxRecDepth 100000 in
theorem w_last (m : Mk) (g : Nat) (hok : m.Ok) (hw : m.w ≤ 1000000000000) : Fun Tryz.prog 124 (mkT m g) [.ptr (.loc 0) 0] (fun x T => ∃ g', x = .eptr (.loc 1) g' (m.last.l.length - 1) 0 ∧ T = mkT m.last g') := by
  have hlen : (m.l.length : Int) ≤ 1000000000000 := by
    have := sumW_len hok.l
    have := hok.k
    unfold Mk.w at hw
    omega
  refine fun_keep 2 rfl (fun_fn 300 Tryz.func124 rfl rfl rfl fun imps B hi => ?_)
  have hroom : room ((m.l.map pieceV).length + 1) 32 := by
    unfold room
    simp only [List.length_map]
    omega
  refine ⟨fun g1 => go 300 ?_, fun g1 => go 300 ?_⟩
  · have hl := last_grown (.inl (lt_of g1))
    show Goes _ _ _ _
    refine goes_drawX [] 300 ⟨rfl, ⟨rfl, trivial⟩, rfl, rfl, rfl, rfl, by simp, hroom, ?_⟩
    refine ⟨by kernel_rfl, ?_⟩
    show Goes _ _ _ _
    refine goes_drawX [] 300 ⟨rfl, ⟨?_, ?_⟩, rfl, ?_, ?_, ?_⟩
    · simp only [List.length_map, List.length_cons, List.length_nil]; omega
    · simp only [List.length_map, List.length_cons, List.length_nil]; omega
    · simp only [List.length_map, List.length_cons, List.length_nil]; omega
    · simp only [List.length_map, List.length_cons, List.length_nil]; omega
    refine ⟨by kernel_rfl, ?_⟩
    refine ⟨trivial, rfl, rfl, mkT m.last (bump g), rfl, rfl, ⟨⟨?_, rfl⟩, ⟨?_, rfl⟩, trivial⟩, bump g, ?_, rfl⟩
    · rw [hl]; simp [mkB]
    · rw [hl]; simp [mkVec, pieceV]
    · rw [hl]
      show V.eptr (Ref.loc 1) (bump g) _ 0 = _
      congr 1
      simp
  · refine ⟨rfl, ?_⟩
    refine ⟨fun g2 => go 300 ?_, fun g2 => go 300 ?_⟩
    · have hz := eq_of g2
      have hl := last_grown (m := m) (.inr (by omega))
      show Goes _ _ _ _
      refine goes_drawX [] 300 ⟨rfl, ⟨rfl, trivial⟩, rfl, rfl, rfl, rfl, by simp, hroom, ?_⟩
      refine ⟨by kernel_rfl, ?_⟩
      show Goes _ _ _ _
      refine goes_drawX [] 300 ⟨rfl, ⟨?_, ?_⟩, rfl, ?_, ?_, ?_⟩
      · simp only [List.length_map, List.length_cons, List.length_nil]; omega
      · simp only [List.length_map, List.length_cons, List.length_nil]; omega
      · simp only [List.length_map, List.length_cons, List.length_nil]; omega
      · simp only [List.length_map, List.length_cons, List.length_nil]; omega
      refine ⟨by kernel_rfl, ?_⟩
      refine ⟨trivial, rfl, rfl, mkT m.last (bump g), rfl, rfl, ⟨⟨?_, rfl⟩, ⟨?_, rfl⟩, trivial⟩, bump g, ?_, rfl⟩
      · rw [hl]; simp [mkB]
      · rw [hl]; simp [mkVec, pieceV]
      · rw [hl]
        show V.eptr (Ref.loc 1) (bump g) _ 0 = _
        congr 1
        simp
    · have hz := ne_of g2
      have hl := last_still (m := m) (Int.not_lt.2 (not_lt_of g1)) (by omega)
      show Goes _ _ _ _
      refine goes_drawX [] 300 ⟨rfl, ⟨by omega, by omega⟩, rfl, by omega, by omega, ?_⟩
      refine ⟨by kernel_rfl, ?_⟩
      refine ⟨trivial, rfl, rfl, mkT m.last g, rfl, rfl, ⟨⟨?_, rfl⟩, ⟨?_, rfl⟩, trivial⟩, g, ?_, rfl⟩
      · rw [hl]
      · rw [hl]
      · rw [hl]
        show V.eptr (Ref.loc 1) g _ 0 = _
        congr 1
        simp
theorem set_modL {f : PieceT → PieceT} {l : List PieceT} (h : l ≠ []) {x : V} (hx : x = pieceV (f (l[l.length - 1]'(by have := List.length_pos_iff.2 h; omega)))) : (l.map pieceV).set (l.length - 1) x = (modL f l).map pieceV := by
  rw [modL_set f l (by have := List.length_pos_iff.2 h; omega), List.map_set, hx]
theorem last_get {l : List PieceT} (h : l ≠ []) : (l.map pieceV)[l.length - 1]? = some (pieceV (l[l.length - 1]'(by have := List.length_pos_iff.2 h; omega))) := by
  have := List.length_pos_iff.2 h
  simp [show l.length - 1 < l.length by omega]

set_option maxRecDepth 100000 in
theorem w_mkPut (m : Mk) (g : Nat) (s : List UInt8) (hok : m.Ok) (hw : m.w ≤ 1000000000000) (hs : s.length ≤ 1000000000000) : Fun Tryz.prog 112 (mkT m g) [.ptr (.loc 0) 0, .str s] (fun x T => ∃ g', x = .tup [] ∧ T = mkT (m.put s) g') := by
  refine fun_keep 2 rfl (fun_fn 300 Tryz.func112 rfl rfl rfl fun imps B hi => ?_)
  refine ⟨fun g1 => go 300 ?_, fun g1 => go 300 ?_⟩
  · have hne : s.isEmpty = false := by
      have : s ≠ [] := by simpa using g1
      cases s with
      | nil => exact absurd rfl this
      | cons a s => rfl
    have e : m.put s = ⟨modL (fun p => { p with put := p.put ++ s }) m.last.l, m.last.keep⟩ := by unfold Mk.put; rw [hne]; rfl
    obtain ⟨lok, lw⟩ := Mk.last_ok hok
    have hlast := m.last_ne
    show CallThen _ _ _ _ _ _
    refine call_sub [0, 1] (w_last m g hok hw) rfl rfl ⟨⟨rfl, rfl⟩, ⟨rfl, rfl⟩, trivial⟩ rfl rfl rfl ?_
    rintro x T1 ⟨g', rfl, rfl⟩
    refine ⟨rfl, ?_⟩
    show Goes _ _ _ _
    refine goes_nilE 300 rfl rfl rfl rfl rfl ?_
    have hput : (m.last.l[m.last.l.length - 1]'(by have := List.length_pos_iff.2 hlast; omega)).put.length ≤ 1000000000001 := by
      have h1 := sumW_mem lok.l _ (List.getElem_mem (by have := List.length_pos_iff.2 hlast; omega : m.last.l.length - 1 < m.last.l.length))
      have h2 := lok.l _ (List.getElem_mem (by have := List.length_pos_iff.2 hlast; omega : m.last.l.length - 1 < m.last.l.length))
      have := h2.k
      have := h2.d
      have := lok.k
      unfold PieceT.w at h1
      unfold Mk.w at lw hw
      omega
    refine ⟨rfl, rfl, _, last_get hlast, ?_⟩
    refine ⟨by rw [List.length_append]; omega, ?_⟩
    show Goes _ _ _ _
    refine goes_nilE 300 rfl rfl rfl rfl rfl ?_
    refine ⟨rfl, rfl, _, last_get hlast, ?_⟩
    refine ⟨trivial, rfl, rfl, mkT (m.put s) g', rfl, rfl, ⟨⟨?_, rfl⟩, ⟨?_, rfl⟩, trivial⟩, g', rfl, rfl⟩
    · show some (mkB m.last g') = _
      rw [e]
      simp only [mkB, modL_len]
    · rw [e]
      exact congrArg (fun z => some (HObj.vec g' 3 z)) (set_modL (f := fun p => { p with put := p.put ++ s }) hlast rfl)
  · have hne : s = [] := by simpa using g1
    subst hne
    refine ⟨trivial, rfl, rfl, mkT m g, rfl, rfl, ⟨⟨rfl, rfl⟩, ⟨rfl, rfl⟩, trivial⟩, g, rfl, rfl⟩
set_option maxRecDepth 100000 in
theorem w_mkDrop (m : Mk) (g : Nat) (n : Int) (hok : m.Ok) (hw : m.w ≤ 1000000000000) (hs : n ≤ 1000000000000) : Fun Tryz.prog 113 (mkT m g) [.ptr (.loc 0) 0, .int .i64 n] (fun x T => ∃ g', x = .tup [] ∧ T = mkT (m.drop n) g') := by
  refine fun_keep 2 rfl (fun_fn 300 Tryz.func113 rfl rfl rfl fun imps B hi => ?_)
  refine ⟨fun g1 => go 300 ?_, fun g1 => go 300 ?_⟩
  · have hne : 0 < n := lt_of g1
    have e : m.drop n = ⟨modL (fun p => { p with drop := p.drop + n }) m.last.l, m.last.keep⟩ := by unfold Mk.drop; rw [decide_eq_true hne]; rfl
    obtain ⟨lok, lw⟩ := Mk.last_ok hok
    have hlast := m.last_ne
    show CallThen _ _ _ _ _ _
    refine call_sub [0, 1] (w_last m g hok hw) rfl rfl ⟨⟨rfl, rfl⟩, ⟨rfl, rfl⟩, trivial⟩ rfl rfl rfl ?_
    rintro x T1 ⟨g', rfl, rfl⟩
    refine ⟨rfl, ?_⟩
    show Goes _ _ _ _
    refine goes_nilE 300 rfl rfl rfl rfl rfl ?_
    have hput : 0 ≤ (m.last.l[m.last.l.length - 1]'(by have := List.length_pos_iff.2 hlast; omega)).drop ∧ (m.last.l[m.last.l.length - 1]'(by have := List.length_pos_iff.2 hlast; omega)).drop ≤ 1000000000001 := by
      have h1 := sumW_mem lok.l _ (List.getElem_mem (by have := List.length_pos_iff.2 hlast; omega : m.last.l.length - 1 < m.last.l.length))
      have h2 := lok.l _ (List.getElem_mem (by have := List.length_pos_iff.2 hlast; omega : m.last.l.length - 1 < m.last.l.length))
      have := h2.k
      have := h2.d
      have := lok.k
      unfold PieceT.w at h1
      unfold Mk.w at lw hw
      omega
    refine ⟨rfl, rfl, _, last_get hlast, ?_⟩
    refine ⟨by constructor <;> omega, ?_⟩
    show Goes _ _ _ _
    refine goes_nilE 300 rfl rfl rfl rfl rfl ?_
    refine ⟨rfl, rfl, _, last_get hlast, ?_⟩
    refine ⟨trivial, rfl, rfl, mkT (m.drop n) g', rfl, rfl, ⟨⟨?_, rfl⟩, ⟨?_, rfl⟩, trivial⟩, g', rfl, rfl⟩
    · show some (mkB m.last g') = _
      rw [e]
      simp only [mkB, modL_len]
    · rw [e]
      exact congrArg (fun z => some (HObj.vec g' 3 z)) (set_modL (f := fun p => { p with drop := p.drop + n }) hlast rfl)
  · have hne : ¬ 0 < n := Int.not_lt.2 (not_lt_of g1)
    have e : m.drop n = m := by unfold Mk.drop; rw [decide_eq_false hne]; rfl
    rw [e]
    refine ⟨trivial, rfl, rfl, mkT m g, rfl, rfl, ⟨⟨rfl, rfl⟩, ⟨rfl, rfl⟩, trivial⟩, g, rfl, rfl⟩

set_option maxRecDepth 100000 in
theorem w_mkPiece (m : Mk) (g : Nat) (p : PieceT) (hok : m.Ok) (hp : p.Nn) (hw : m.w + p.w ≤ 900000000000) : Fun Tryz.prog 91 (mkT m g) [.ptr (.loc 0) 0, pieceV p] (fun x T => ∃ g', x = .tup [] ∧ T = mkT (m.piece p) g') := by
  have p1 := hp.k
  have p2 := hp.d
  have m1 := hok.k
  have m2 := sumW_len hok.l
  have hw' := hw
  unfold PieceT.w Mk.w at hw'
  obtain ⟨a1, a2⟩ := Mk.kept_ok hok hp.k
  obtain ⟨b1, b2⟩ := Mk.put_ok (s := p.put) a1
  have hpw : p.w = p.keep + p.drop + p.put.length + 1 := rfl
  refine fun_keep 2 rfl (fun_fn 300 Tryz.func91 rfl rfl rfl fun imps B hi => ?_)
  show Goes _ _ _ _
  refine goes_drawX [] 300 ⟨⟨by omega, by omega⟩, ?_⟩
  refine ⟨by kernel_rfl, ?_⟩
  show CallThen _ _ _ _ _ _
  refine call_sub [0, 1] (w_mkPut (m.kept p.keep) g p.put a1 (by omega) (by omega)) rfl rfl ⟨⟨rfl, rfl⟩, ⟨rfl, rfl⟩, trivial⟩ rfl rfl rfl ?_
  rintro x T1 ⟨g1, rfl, rfl⟩
  refine ⟨rfl, ?_⟩
  show CallThen _ _ _ _ _ _
  refine call_sub [0, 1] (w_mkDrop ((m.kept p.keep).put p.put) g1 p.drop b1 (by omega) (by omega)) rfl rfl ⟨⟨rfl, rfl⟩, ⟨rfl, rfl⟩, trivial⟩ rfl rfl rfl ?_
  rintro x T1 ⟨g2, rfl, rfl⟩
  refine ⟨rfl, ?_⟩
  exact ⟨trivial, rfl, rfl, mkT (m.piece p) g2, rfl, rfl, ⟨⟨rfl, rfl⟩, ⟨rfl, rfl⟩, trivial⟩, g2, rfl, rfl⟩

theorem foldl_take_succ {l : List PieceT} {i : Nat} (hi : i < l.length) (m : Mk) : (l.take (i + 1)).foldl Mk.piece m = ((l.take i).foldl Mk.piece m).piece l[i] := by
  rw [List.take_succ_eq_append_getElem hi, List.foldl_append]
  rfl
theorem sumW_take (l : List PieceT) (i : Nat) (h : ∀ p ∈ l, p.Nn) : sumW (l.take i) ≤ sumW l := by
  have e := sumW_append (l.take i) (l.drop i)
  rw [List.take_append_drop] at e
  have := sumW_len (l := l.drop i) fun p hp => h p (List.mem_of_mem_drop hp)
  omega
set_option maxRecDepth 100000 in
theorem w_norm (l : List PieceT) (h : ∀ p ∈ l, p.Nn) (hw : sumW l ≤ 100000000000) (hl : l.length ≤ 100000000000) : Fun Tryz.prog 90 [] [piecesV l] (fun x T => ∃ g k, x = .osl (.loc 1) g 0 (normP l).length ∧ T = [some (.box [.osl (.loc 1) g 0 (normP l).length, .int .i64 k]), some (.vec g 3 ((normP l).map pieceV))]) := by
  refine fun_keep 2 rfl (fun_fn 300 Tryz.func90 rfl rfl rfl fun imps B hi => ?_)
  have : imps = [] := List.length_eq_zero_iff.1 hi
  subst this
  show Goes _ _ _ _
  refine goes_ownCell 0 0 3 rfl rfl ?_
  refine goes_iter (ι := Nat × Nat) (fun i => i.1 ≤ l.length) (fun i => l.length - i.1) (fun i => [(8, .int .i64 i.1), (7, .int .i64 l.length), (6, piecesV l), (3, .ptr (.loc 0) 0)]) (fun i => mkT ((l.take i.1).foldl Mk.piece Mk.nil) i.2) (0, 0) 300 (fun _ => rfl) (fun _ => rfl)
    ⟨Nat.zero_le _, ⟨⟨rfl, rfl⟩, ⟨?_, rfl⟩, ⟨rfl, rfl⟩, ⟨rfl, rfl⟩, trivial⟩, ⟨⟨rfl, rfl⟩, ⟨rfl, rfl⟩, trivial⟩⟩ ?_
  · show V.int _ _ = _
    simp
  rintro ⟨i, g⟩ k1 next
  simp only at k1
  refine ⟨fun hlt => go 300 ?_, fun hge => go 300 ?_⟩
  · have hi : i < l.length := by have := lt_of hlt; omega
    have hx : (l.map pieceV)[i]? = some (pieceV l[i]) := by simp [hi]
    have hm : l[i] ∈ l := List.getElem_mem hi
    obtain ⟨q1, q2⟩ := foldl_ok (l := l.take i) Mk.nil_ok fun p hp => h p (List.mem_of_mem_take hp)
    have q3 := sumW_take l i h
    have q4 := sumW_mem h _ hm
    have q5 : Mk.nil.w = 0 := rfl
    refine ⟨Int.natCast_nonneg i, _, hx, ?_⟩
    show CallThen _ _ _ _ _ _
    refine call_sub [0, 1] (w_mkPiece _ g l[i] q1 (h _ hm) (by omega)) rfl rfl ⟨⟨rfl, rfl⟩, ⟨rfl, rfl⟩, trivial⟩ rfl rfl rfl ?_
    rintro x T1 ⟨g1, rfl, rfl⟩
    refine ⟨rfl, ?_⟩
    refine ⟨by constructor <;> omega, ?_⟩
    show Goes _ _ _ _
    refine next (i + 1, g1) _ _ ⟨hi, by simp only; omega, ⟨⟨rfl, rfl⟩, ⟨rfl, rfl⟩, ⟨rfl, rfl⟩, ⟨rfl, rfl⟩, trivial⟩, ?_⟩
    rw [show (l.take (i + 1)).foldl Mk.piece Mk.nil = _ from foldl_take_succ hi Mk.nil]
    exact ⟨⟨rfl, rfl⟩, ⟨rfl, rfl⟩, trivial⟩
  · have hi : i = l.length := by have := not_lt_of hge; omega
    subst hi
    refine ⟨trivial, rfl, rfl, mkT (l.foldl Mk.piece Mk.nil) g, rfl, rfl, ⟨⟨?_, rfl⟩, ⟨?_, rfl⟩, trivial⟩, g, (l.foldl Mk.piece Mk.nil).keep, ?_, rfl⟩
    · show some (mkB ((l.take l.length).foldl Mk.piece Mk.nil) g) = _
      rw [List.take_length]
    · show some (mkVec ((l.take l.length).foldl Mk.piece Mk.nil) g) = _
      rw [List.take_length]
    · show V.osl (Ref.loc 1) g 0 ((l.take l.length).foldl Mk.piece Mk.nil).l.length = _
      rw [List.take_length]
      rfl
end Bow
/- W143: leaftext's maker, its rows' marks told. -/
namespace Bow
open Go Go.Proofs

def gLast (m : Mk) (g : Nat) : Nat := bif decide (0 < m.keep) || m.l.isEmpty then bump g else g
def gPut (s : List UInt8) (m : Mk) (g : Nat) : Nat := bif s.isEmpty then g else gLast m g
def gDrop (n : Int) (m : Mk) (g : Nat) : Nat := bif decide (0 < n) then gLast m g else g
def gPiece (m : Mk) (p : PieceT) (g : Nat) : Nat := gDrop p.drop ((m.kept p.keep).put p.put) (gPut p.put (m.kept p.keep) g)
theorem gLast_grown {m : Mk} {g : Nat} (h : 0 < m.keep ∨ m.l.length = 0) : gLast m g = bump g := by
  unfold gLast
  have : (decide (0 < m.keep) || m.l.isEmpty) = true := by
    rcases h with h | h
    · simp [h]
    · have := List.length_eq_zero_iff.1 h
      simp [this]
  rw [this]
  rfl
theorem gLast_still {m : Mk} {g : Nat} (h : ¬ 0 < m.keep) (h' : m.l.length ≠ 0) : gLast m g = g := by
  unfold gLast
  have : (decide (0 < m.keep) || m.l.isEmpty) = false := by
    have h2 : m.l ≠ [] := fun e => h' (by rw [e]; rfl)
    simp [h, h2]
  rw [this]
  rfl
set_option maxRecDepth 100000 in
theorem w_lastG (m : Mk) (g : Nat) (hok : m.Ok) (hw : m.w ≤ 1000000000000) : Fun Tryz.prog 124 (mkT m g) [.ptr (.loc 0) 0] (fun x T => x = .eptr (.loc 1) (gLast m g) (m.last.l.length - 1) 0 ∧ T = mkT m.last (gLast m g)) := by
  have hlen : (m.l.length : Int) ≤ 1000000000000 := by
    have := sumW_len hok.l
    have := hok.k
    unfold Mk.w at hw
    omega
  refine fun_keep 2 rfl (fun_fn 300 Tryz.func124 rfl rfl rfl fun imps B hi => ?_)
  have hroom : room ((m.l.map pieceV).length + 1) 32 := by
    unfold room
    simp only [List.length_map]
    omega
  refine ⟨fun g1 => go 300 ?_, fun g1 => go 300 ?_⟩
  · have hl := last_grown (.inl (lt_of g1))
    rw [gLast_grown (m := m) (.inl (lt_of g1))]
    show Goes _ _ _ _
    refine goes_drawX [] 300 ⟨rfl, ⟨rfl, trivial⟩, rfl, rfl, rfl, rfl, by simp, hroom, ?_⟩
    refine ⟨by kernel_rfl, ?_⟩
    show Goes _ _ _ _
    refine goes_drawX [] 300 ⟨rfl, ⟨?_, ?_⟩, rfl, ?_, ?_, ?_⟩
    · simp only [List.length_map, List.length_cons, List.length_nil]; omega
    · simp only [List.length_map, List.length_cons, List.length_nil]; omega
    · simp only [List.length_map, List.length_cons, List.length_nil]; omega
    · simp only [List.length_map, List.length_cons, List.length_nil]; omega
    refine ⟨by kernel_rfl, ?_⟩
    refine ⟨trivial, rfl, rfl, mkT m.last (bump g), rfl, rfl, ⟨⟨?_, rfl⟩, ⟨?_, rfl⟩, trivial⟩, ?_, rfl⟩
    · rw [hl]; simp [mkB]
    · rw [hl]; simp [mkVec, pieceV]
    · rw [hl]
      show V.eptr (Ref.loc 1) (bump g) _ 0 = _
      congr 1
      simp
  · refine ⟨rfl, ?_⟩
    refine ⟨fun g2 => go 300 ?_, fun g2 => go 300 ?_⟩
    · have hz := eq_of g2
      have hl := last_grown (m := m) (.inr (by omega))
      rw [gLast_grown (m := m) (.inr (by omega))]
      show Goes _ _ _ _
      refine goes_drawX [] 300 ⟨rfl, ⟨rfl, trivial⟩, rfl, rfl, rfl, rfl, by simp, hroom, ?_⟩
      refine ⟨by kernel_rfl, ?_⟩
      show Goes _ _ _ _
      refine goes_drawX [] 300 ⟨rfl, ⟨?_, ?_⟩, rfl, ?_, ?_, ?_⟩
      · simp only [List.length_map, List.length_cons, List.length_nil]; omega
      · simp only [List.length_map, List.length_cons, List.length_nil]; omega
      · simp only [List.length_map, List.length_cons, List.length_nil]; omega
      · simp only [List.length_map, List.length_cons, List.length_nil]; omega
      refine ⟨by kernel_rfl, ?_⟩
      refine ⟨trivial, rfl, rfl, mkT m.last (bump g), rfl, rfl, ⟨⟨?_, rfl⟩, ⟨?_, rfl⟩, trivial⟩, ?_, rfl⟩
      · rw [hl]; simp [mkB]
      · rw [hl]; simp [mkVec, pieceV]
      · rw [hl]
        show V.eptr (Ref.loc 1) (bump g) _ 0 = _
        congr 1
        simp
    · have hz := ne_of g2
      have hl := last_still (m := m) (Int.not_lt.2 (not_lt_of g1)) (by omega)
      rw [gLast_still (m := m) (Int.not_lt.2 (not_lt_of g1)) (by omega)]
      show Goes _ _ _ _
      refine goes_drawX [] 300 ⟨rfl, ⟨by omega, by omega⟩, rfl, by omega, by omega, ?_⟩
      refine ⟨by kernel_rfl, ?_⟩
      refine ⟨trivial, rfl, rfl, mkT m.last g, rfl, rfl, ⟨⟨?_, rfl⟩, ⟨?_, rfl⟩, trivial⟩, ?_, rfl⟩
      · rw [hl]
      · rw [hl]
      · rw [hl]
        show V.eptr (Ref.loc 1) g _ 0 = _
        congr 1
        simp
set_option maxRecDepth 100000 in
theorem w_mkPutG (m : Mk) (g : Nat) (s : List UInt8) (hok : m.Ok) (hw : m.w ≤ 1000000000000) (hs : s.length ≤ 1000000000000) : Fun Tryz.prog 112 (mkT m g) [.ptr (.loc 0) 0, .str s] (fun x T => x = .tup [] ∧ T = mkT (m.put s) (gPut s m g)) := by
  refine fun_keep 2 rfl (fun_fn 300 Tryz.func112 rfl rfl rfl fun imps B hi => ?_)
  refine ⟨fun g1 => go 300 ?_, fun g1 => go 300 ?_⟩
  · have hne : s.isEmpty = false := by
      have : s ≠ [] := by simpa using g1
      cases s with
      | nil => exact absurd rfl this
      | cons a s => rfl
    have eg : gPut s m g = gLast m g := by unfold gPut; rw [hne]; rfl
    rw [eg]
    have e : m.put s = ⟨modL (fun p => { p with put := p.put ++ s }) m.last.l, m.last.keep⟩ := by unfold Mk.put; rw [hne]; rfl
    obtain ⟨lok, lw⟩ := Mk.last_ok hok
    have hlast := m.last_ne
    show CallThen _ _ _ _ _ _
    refine call_sub [0, 1] (w_lastG m g hok hw) rfl rfl ⟨⟨rfl, rfl⟩, ⟨rfl, rfl⟩, trivial⟩ rfl rfl rfl ?_
    rintro x T1 ⟨rfl, rfl⟩
    refine ⟨rfl, ?_⟩
    show Goes _ _ _ _
    refine goes_nilE 300 rfl rfl rfl rfl rfl ?_
    have hput : (m.last.l[m.last.l.length - 1]'(by have := List.length_pos_iff.2 hlast; omega)).put.length ≤ 1000000000001 := by
      have h1 := sumW_mem lok.l _ (List.getElem_mem (by have := List.length_pos_iff.2 hlast; omega : m.last.l.length - 1 < m.last.l.length))
      have h2 := lok.l _ (List.getElem_mem (by have := List.length_pos_iff.2 hlast; omega : m.last.l.length - 1 < m.last.l.length))
      have := h2.k
      have := h2.d
      have := lok.k
      unfold PieceT.w at h1
      unfold Mk.w at lw hw
      omega
    refine ⟨rfl, rfl, _, last_get hlast, ?_⟩
    refine ⟨by rw [List.length_append]; omega, ?_⟩
    show Goes _ _ _ _
    refine goes_nilE 300 rfl rfl rfl rfl rfl ?_
    refine ⟨rfl, rfl, _, last_get hlast, ?_⟩
    refine ⟨trivial, rfl, rfl, mkT (m.put s) (gLast m g), rfl, rfl, ⟨⟨?_, rfl⟩, ⟨?_, rfl⟩, trivial⟩, rfl, rfl⟩
    · show some (mkB m.last (gLast m g)) = _
      rw [e]
      simp only [mkB, modL_len]
    · rw [e]
      exact congrArg (fun z => some (HObj.vec (gLast m g) 3 z)) (set_modL (f := fun p => { p with put := p.put ++ s }) hlast rfl)
  · have hne : s = [] := by simpa using g1
    subst hne
    refine ⟨trivial, rfl, rfl, mkT m g, rfl, rfl, ⟨⟨rfl, rfl⟩, ⟨rfl, rfl⟩, trivial⟩, rfl, rfl⟩
set_option maxRecDepth 100000 in
theorem w_mkDropG (m : Mk) (g : Nat) (n : Int) (hok : m.Ok) (hw : m.w ≤ 1000000000000) (hs : n ≤ 1000000000000) : Fun Tryz.prog 113 (mkT m g) [.ptr (.loc 0) 0, .int .i64 n] (fun x T => x = .tup [] ∧ T = mkT (m.drop n) (gDrop n m g)) := by
  refine fun_keep 2 rfl (fun_fn 300 Tryz.func113 rfl rfl rfl fun imps B hi => ?_)
  refine ⟨fun g1 => go 300 ?_, fun g1 => go 300 ?_⟩
  · have hne : 0 < n := lt_of g1
    have eg : gDrop n m g = gLast m g := by unfold gDrop; rw [decide_eq_true hne]; rfl
    rw [eg]
    have e : m.drop n = ⟨modL (fun p => { p with drop := p.drop + n }) m.last.l, m.last.keep⟩ := by unfold Mk.drop; rw [decide_eq_true hne]; rfl
    obtain ⟨lok, lw⟩ := Mk.last_ok hok
    have hlast := m.last_ne
    show CallThen _ _ _ _ _ _
    refine call_sub [0, 1] (w_lastG m g hok hw) rfl rfl ⟨⟨rfl, rfl⟩, ⟨rfl, rfl⟩, trivial⟩ rfl rfl rfl ?_
    rintro x T1 ⟨rfl, rfl⟩
    refine ⟨rfl, ?_⟩
    show Goes _ _ _ _
    refine goes_nilE 300 rfl rfl rfl rfl rfl ?_
    have hput : 0 ≤ (m.last.l[m.last.l.length - 1]'(by have := List.length_pos_iff.2 hlast; omega)).drop ∧ (m.last.l[m.last.l.length - 1]'(by have := List.length_pos_iff.2 hlast; omega)).drop ≤ 1000000000001 := by
      have h1 := sumW_mem lok.l _ (List.getElem_mem (by have := List.length_pos_iff.2 hlast; omega : m.last.l.length - 1 < m.last.l.length))
      have h2 := lok.l _ (List.getElem_mem (by have := List.length_pos_iff.2 hlast; omega : m.last.l.length - 1 < m.last.l.length))
      have := h2.k
      have := h2.d
      have := lok.k
      unfold PieceT.w at h1
      unfold Mk.w at lw hw
      omega
    refine ⟨rfl, rfl, _, last_get hlast, ?_⟩
    refine ⟨by constructor <;> omega, ?_⟩
    show Goes _ _ _ _
    refine goes_nilE 300 rfl rfl rfl rfl rfl ?_
    refine ⟨rfl, rfl, _, last_get hlast, ?_⟩
    refine ⟨trivial, rfl, rfl, mkT (m.drop n) (gLast m g), rfl, rfl, ⟨⟨?_, rfl⟩, ⟨?_, rfl⟩, trivial⟩, rfl, rfl⟩
    · show some (mkB m.last (gLast m g)) = _
      rw [e]
      simp only [mkB, modL_len]
    · rw [e]
      exact congrArg (fun z => some (HObj.vec (gLast m g) 3 z)) (set_modL (f := fun p => { p with drop := p.drop + n }) hlast rfl)
  · have hne : ¬ 0 < n := Int.not_lt.2 (not_lt_of g1)
    have e : m.drop n = m := by unfold Mk.drop; rw [decide_eq_false hne]; rfl
    have eg : gDrop n m g = g := by unfold gDrop; rw [decide_eq_false hne]; rfl
    rw [e, eg]
    refine ⟨trivial, rfl, rfl, mkT m g, rfl, rfl, ⟨⟨rfl, rfl⟩, ⟨rfl, rfl⟩, trivial⟩, rfl, rfl⟩

set_option maxRecDepth 100000 in
theorem w_mkPieceG (m : Mk) (g : Nat) (p : PieceT) (hok : m.Ok) (hp : p.Nn) (hw : m.w + p.w ≤ 900000000000) : Fun Tryz.prog 91 (mkT m g) [.ptr (.loc 0) 0, pieceV p] (fun x T => x = .tup [] ∧ T = mkT (m.piece p) (gPiece m p g)) := by
  have p1 := hp.k
  have p2 := hp.d
  have m1 := hok.k
  have m2 := sumW_len hok.l
  have hw' := hw
  unfold PieceT.w Mk.w at hw'
  obtain ⟨a1, a2⟩ := Mk.kept_ok hok hp.k
  obtain ⟨b1, b2⟩ := Mk.put_ok (s := p.put) a1
  have hpw : p.w = p.keep + p.drop + p.put.length + 1 := rfl
  refine fun_keep 2 rfl (fun_fn 300 Tryz.func91 rfl rfl rfl fun imps B hi => ?_)
  show Goes _ _ _ _
  refine goes_drawX [] 300 ⟨⟨by omega, by omega⟩, ?_⟩
  refine ⟨by kernel_rfl, ?_⟩
  show CallThen _ _ _ _ _ _
  refine call_sub [0, 1] (w_mkPutG (m.kept p.keep) g p.put a1 (by omega) (by omega)) rfl rfl ⟨⟨rfl, rfl⟩, ⟨rfl, rfl⟩, trivial⟩ rfl rfl rfl ?_
  rintro x T1 ⟨rfl, rfl⟩
  refine ⟨rfl, ?_⟩
  show CallThen _ _ _ _ _ _
  refine call_sub [0, 1] (w_mkDropG ((m.kept p.keep).put p.put) (gPut p.put (m.kept p.keep) g) p.drop b1 (by omega) (by omega)) rfl rfl ⟨⟨rfl, rfl⟩, ⟨rfl, rfl⟩, trivial⟩ rfl rfl rfl ?_
  rintro x T1 ⟨rfl, rfl⟩
  refine ⟨rfl, ?_⟩
  exact ⟨trivial, rfl, rfl, mkT (m.piece p) (gPiece m p g), rfl, rfl, ⟨⟨rfl, rfl⟩, ⟨rfl, rfl⟩, trivial⟩, rfl, rfl⟩
end Bow
/- W56: leaftext's rows. -/
namespace Bow
open Go Go.Proofs

end Bow
/- W57: leaftext's rows go on; what is done. -/
namespace Bow
open Go Go.Proofs

end Bow
/- W58: leaftext.Transform. -/
namespace Bow
open Go Go.Proofs

theorem mk_len {m : Mk} (hok : m.Ok) (hw : m.w ≤ 1000000000000) : m.l.length ≤ 1000000000000 ∧ ∀ p ∈ m.l, p.put.length ≤ 1000000000000 := by
  have h1 := sumW_len hok.l
  have h2 := hok.k
  unfold Mk.w at hw
  refine ⟨by omega, fun p hp => ?_⟩
  have h3 := sumW_mem hok.l p hp
  have h4 := (hok.l p hp).k
  have h5 := (hok.l p hp).d
  unfold PieceT.w at h3
  omega
set_option maxRecDepth 100000 in
theorem w_done (m : Mk) (g : Nat) (hok : m.Ok) (hw : m.w ≤ 1000000000000) : Fun Tryz.prog 92 (mkT m g) [.ptr (.loc 0) 0] (fun x T => x = .tup [.osl (.loc 1) g 0 m.l.length, .bool (rightP m.l)] ∧ T = mkT m g) := by
  obtain ⟨h1, h2⟩ := mk_len hok hw
  have cr := w_RightW m.l h1 h2
  refine fun_fn 300 Tryz.func92 rfl rfl rfl fun imps B hi => ?_
  show Goes _ _ _ _
  refine goes_drawX [] 300 ⟨rfl, by simp, _, cr, rfl, ?_⟩
  refine ⟨by kernel_rfl, ?_⟩
  exact ⟨trivial, rfl, rfl, rfl, rfl⟩

end Bow
/- SP27: two edits behind each other, place by place, in plain Lean: as leaftext goes, by runs, it is the same. -/
namespace Bow
open Go

/-! ### What a maker makes is normal -/
/-! ### A row that stands at a run -/
/-! ### Makers, byte by byte -/
theorem modL_modL (f g : PieceT → PieceT) : ∀ l : List PieceT, modL f (modL g l) = modL (fun p => f (g p)) l
  | [] => rfl
  | [p] => rfl
  | [p, q] => rfl
  | p :: q :: r :: l => by
    have ih := modL_modL f g (q :: r :: l)
    simp only [modL] at ih ⊢
    rw [ih]
theorem Mk.last_done (m : Mk) : ¬ 0 < m.last.keep ∧ m.last.l ≠ [] := by
  refine ⟨?_, m.last_ne⟩
  unfold Mk.last
  cases h : decide (0 < m.keep) || m.l.isEmpty with
  | true => simp
  | false =>
    rw [Bool.or_eq_false_iff] at h
    exact of_decide_eq_false h.1
theorem Mk.last_of {m : Mk} (h1 : ¬ 0 < m.keep) (h2 : m.l ≠ []) : m.last = m := by
  unfold Mk.last
  rw [decide_eq_false h1]
  cases h : m.l with
  | nil => exact absurd h h2
  | cons p l => rfl
theorem put_nil (m : Mk) : m.put [] = m := rfl
/-! ### Place by place -/
/-! ### An edit, place by place -/
/-! ### The document's answer -/
end Bow
/- SP31: the document's normal form and views, step by step, in plain Lean. -/
namespace Bow
open Go

theorem modL_snoc (f : PieceT → PieceT) : ∀ (l : List PieceT) (x : PieceT), modL f (l ++ [x]) = l ++ [f x]
  | [], _ => rfl
  | [_], _ => rfl
  | p :: q :: r, x => by
    have ih := modL_snoc f (q :: r) x
    rw [List.cons_append, List.cons_append, modL, ← List.cons_append, ih]
    rfl
theorem modL_ext {f g : PieceT → PieceT} (h : ∀ p, f p = g p) (l : List PieceT) : modL f l = modL g l := by
  rw [show f = g from funext h]
def addP (p q : PieceT) : PieceT := { q with put := q.put ++ p.put, drop := q.drop + p.drop }
theorem piece_some {m : Mk} {p : PieceT} (hd : 0 ≤ p.drop) (h0 : ¬ (p.put = [] ∧ p.drop = 0)) : m.piece p = ⟨modL (addP p) (m.kept p.keep).last.l, (m.kept p.keep).last.keep⟩ := by
  unfold Mk.piece
  generalize m.kept p.keep = K
  obtain ⟨d1, d2⟩ := K.last_done
  by_cases hp : p.put = []
  · have h1 : 0 < p.drop := by
      rcases Int.lt_or_eq_of_le hd with h | h
      · exact h
      · exact absurd ⟨hp, h.symm⟩ h0
    rw [hp, put_nil]
    unfold Mk.drop
    rw [decide_eq_true h1, cond_true]
    congr 1
    exact modL_ext (fun q => by unfold addP; rw [hp, List.append_nil]) _
  · have e : K.put p.put = ⟨modL (fun q => { q with put := q.put ++ p.put }) K.last.l, K.last.keep⟩ := by
      unfold Mk.put
      cases hq : p.put with
      | nil => exact absurd hq hp
      | cons a s => rfl
    rw [e]
    by_cases h1 : 0 < p.drop
    · unfold Mk.drop
      rw [decide_eq_true h1, cond_true]
      rw [Mk.last_of (m := ⟨modL (fun q => { q with put := q.put ++ p.put }) K.last.l, K.last.keep⟩) d1 (modL_ne d2)]
      simp only [modL_modL]
      rfl
    · have h2 : p.drop = 0 := by omega
      unfold Mk.drop
      rw [decide_eq_false h1, cond_false]
      congr 1
      exact modL_ext (fun q => by unfold addP; rw [h2, Int.add_zero]) _
theorem piece_skip {m : Mk} {p : PieceT} (h1 : p.put = []) (h2 : p.drop = 0) : m.piece p = ⟨m.l, m.keep + p.keep⟩ := by
  unfold Mk.piece
  rw [h1, put_nil]
  unfold Mk.drop
  rw [h2]
  rfl
theorem piece_merge {m : Mk} {p : PieceT} (hd : 0 ≤ p.drop) (h0 : ¬ (p.put = [] ∧ p.drop = 0)) (hk : m.keep + p.keep = 0) (hl : m.l ≠ []) : m.piece p = ⟨modL (addP p) m.l, 0⟩ := by
  rw [piece_some hd h0]
  have e : (m.kept p.keep).last = m.kept p.keep := Mk.last_of (by show ¬ 0 < m.keep + p.keep; omega) hl
  rw [e]
  show (⟨modL (addP p) m.l, m.keep + p.keep⟩ : Mk) = _
  rw [hk]
theorem piece_new {m : Mk} {p : PieceT} (hd : 0 ≤ p.drop) (h0 : ¬ (p.put = [] ∧ p.drop = 0)) (hk : 0 < m.keep + p.keep ∨ m.l = []) : m.piece p = ⟨m.l ++ [⟨m.keep + p.keep, p.drop, p.put⟩], 0⟩ := by
  rw [piece_some hd h0]
  have e : (m.kept p.keep).last = ⟨m.l ++ [⟨m.keep + p.keep, 0, []⟩], 0⟩ := by
    unfold Mk.last Mk.kept
    have : (decide (0 < m.keep + p.keep) || m.l.isEmpty) = true := by
      rcases hk with h | h
      · simp [h]
      · simp [h]
    simp only [this, cond_true]
  rw [e]
  simp only [modL_snoc, addP, List.nil_append, Int.zero_add]

/-! ### Views -/
/-! ### Places -/
end Bow
/- W70: the document's answer of chapter 5: norm, Extent, view, behind, Transform. -/
namespace Bow
open Go Go.Proofs

set_option maxRecDepth 100000 in
theorem w_refRightW (l : List PieceT) (hl : l.length ≤ 1000000000000) (hpl : ∀ p ∈ l, p.put.length ≤ 1000000000000) : Pure Tryz.prog 70 [piecesV l] (fun x => x = .bool (rightP l)) := by
  refine pure_wk (pure_fn 100 Tryz.func70 rfl rfl rfl fun B => ?_)
  refine ⟨fun g0 => go 200 ?_, fun g0 => go 200 ?_⟩
  · have g0 : 4096 < l.length := by have := lt_of g0; simp at this; omega
    exact ⟨trivial, rfl, rfl, rfl, leaf_ff (by unfold rightP; rw [decide_eq_false (by omega)]; rfl)⟩
  have g0 : l.length ≤ 4096 := by have := not_lt_of g0; simp at this; omega
  show Goes _ _ _ _
  refine goes_iter (ι := Nat × Nat) (fun i => i.1 ≤ l.length ∧ i.2 ≤ 1048576 ∧ rightP l = rightGo i.2 (l.drop i.1)) (fun i => l.length - i.1) (fun i => [(4, .int .i64 i.1), (0, piecesV l), (3, .int .i64 i.2)]) (fun _ => []) (0, 0) 200 (fun _ => rfl) (fun _ => rfl) ⟨⟨Nat.zero_le _, Nat.zero_le _, ?_⟩, ?_, ?_⟩ ?_
  · unfold rightP
    rw [decide_eq_true g0]
    rfl
  · exact ⟨⟨rfl, rfl⟩, ⟨rfl, rfl⟩, ⟨rfl, rfl⟩, trivial⟩
  · trivial
  · rintro ⟨i, n⟩ ⟨h1, h3, h2⟩ next
    simp only at h1 h2 h3
    refine ⟨fun hlt => go 200 ?_, fun hge => go 200 ?_⟩
    · have hi : i < l.length := by simpa using hlt
      have hx : (l.map pieceV)[i]? = some (pieceV l[i]) := by simp [hi]
      have hput := hpl l[i] (List.getElem_mem hi)
      rw [drop_cons hi] at h2
      refine ⟨Int.natCast_nonneg i, _, hx, ?_⟩
      refine ⟨fun g1 => go 200 ?_, fun g1 => go 200 ?_⟩
      · have g1 := lt_of g1
        exact ⟨trivial, rfl, rfl, rfl, leaf_ff (by rw [h2]; exact rightGo_bad (by omega))⟩
      have g1 := not_lt_of g1
      refine ⟨Int.natCast_nonneg i, _, hx, ?_⟩
      refine ⟨fun g2 => go 200 ?_, fun g2 => go 200 ?_⟩
      · have g2 := lt_of g2
        exact ⟨trivial, rfl, rfl, rfl, leaf_ff (by rw [h2]; exact rightGo_bad (by omega))⟩
      have g2 := not_lt_of g2
      refine ⟨Int.natCast_nonneg i, _, hx, ?_⟩
      refine ⟨fun g3 => go 200 ?_, fun g3 => go 200 ?_⟩
      · have g3 := lt_of g3
        exact ⟨trivial, rfl, rfl, rfl, leaf_ff (by rw [h2]; exact rightGo_bad (by omega))⟩
      have g3 := not_lt_of g3
      refine ⟨Int.natCast_nonneg i, _, hx, ?_⟩
      refine ⟨fun g4 => go 200 ?_, fun g4 => go 200 ?_⟩
      · have g4 := lt_of g4
        exact ⟨trivial, rfl, rfl, rfl, leaf_ff (by rw [h2]; exact rightGo_bad (by omega))⟩
      have g4 := not_lt_of g4
      refine ⟨Int.natCast_nonneg i, _, hx, ?_⟩
      refine ⟨by constructor <;> omega, ?_⟩
      refine ⟨fun g5 => go 200 ?_, fun g5 => go 200 ?_⟩
      · have g5 := lt_of g5
        exact ⟨trivial, rfl, rfl, rfl, leaf_ff (by rw [h2]; exact rightGo_bad (by omega))⟩
      have g5 := not_lt_of g5
      refine ⟨Int.natCast_nonneg i, _, hx, ?_⟩
      refine ⟨by constructor <;> omega, ?_⟩
      refine ⟨by constructor <;> omega, ?_⟩
      show Goes _ _ _ _
      refine next (i + 1, n + (l[i]).put.length) _ _ ⟨⟨hi, by simp only; omega, ?_⟩, ?_, ⟨⟨rfl, rfl⟩, ⟨rfl, rfl⟩, ⟨rfl, rfl⟩, trivial⟩, trivial⟩
      · rw [h2]
        exact rightGo_good (by omega) (by omega) (by omega) (by omega) (by omega)
      · simp only; omega
    · have hi : l.length ≤ i := by simpa using hge
      rw [List.drop_eq_nil_of_le hi] at h2
      exact ⟨trivial, rfl, rfl, rfl, leaf_tt h2⟩
/-! ### norm -/
def mkN (l : List PieceT) (i : Nat) : Mk := (l.take i).foldl Mk.piece Mk.nil
theorem mkN_succ {l : List PieceT} {i : Nat} (hi : i < l.length) : mkN l (i + 1) = (mkN l i).piece l[i] := by
  unfold mkN
  rw [List.take_succ_eq_append_getElem hi, List.foldl_append]
  rfl
theorem sumW_take' (l : List PieceT) (i : Nat) (h : ∀ p ∈ l, p.Nn) : sumW (l.take i) ≤ sumW l := by
  have e := sumW_append (l.take i) (l.drop i)
  rw [List.take_append_drop] at e
  have := sumW_len (l := l.drop i) fun p hp => h p (List.mem_of_mem_drop hp)
  omega
theorem piece_at {l : List PieceT} {i : Nat} (h : i < l.length) : (l.map pieceV)[i]? = some (pieceV l[i]) := by simp [h]
theorem lastP_at {l : List PieceT} (h : 0 < l.length) : (l.map pieceV)[0 + ((l.length : Int) - 1).toNat]? = some (pieceV (l[l.length - 1]'(by omega))) := by
  have : 0 + ((l.length : Int) - 1).toNat = l.length - 1 := by omega
  rw [this]
  simp [show l.length - 1 < l.length by omega]
theorem set_lastP {f : PieceT → PieceT} {l : List PieceT} (h : 0 < l.length) : (l.map pieceV).set (0 + ((l.length : Int) - 1).toNat) (pieceV (f (l[l.length - 1]'(by omega)))) = (modL f l).map pieceV := by
  have : 0 + ((l.length : Int) - 1).toNat = l.length - 1 := by omega
  rw [this, modL_set f l (by omega), List.map_set]
set_option pp.maxSteps 300 in
set_option maxHeartbeats 2000000 in
set_option maxRecDepth 100000 in
theorem w_ref5norm (l : List PieceT) (h : ∀ p ∈ l, p.Nn) (hw : sumW l ≤ 400000000000) : Pure Tryz.prog 69 [piecesV l] (fun x => x = piecesV (normP l)) := by
  have hlen := sumW_len h
  refine pure_wk (pure_fn 100 Tryz.func69 rfl rfl rfl fun B => ?_)
  show Goes _ _ _ _
  refine goes_own 3 3 rfl ?_
  refine goes_iter (ι := Nat × Nat) (fun i => i.1 ≤ l.length) (fun i => l.length - i.1) (fun i => [(5, .int .i64 i.1), (4, .int .i64 (mkN l i.1).keep), (3, .osl (.loc 0) i.2 0 (mkN l i.1).l.length), (0, piecesV l)]) (fun i => [some (.vec i.2 3 ((mkN l i.1).l.map pieceV))]) (0, 0) 100 (fun _ => rfl) (fun _ => rfl) ⟨Nat.zero_le _, ⟨⟨rfl, rfl⟩, ⟨rfl, rfl⟩, ⟨rfl, rfl⟩, ⟨rfl, rfl⟩, trivial⟩, ⟨⟨rfl, rfl⟩, trivial⟩⟩ ?_
  rintro ⟨i, g⟩ k1 next
  simp only at k1
  refine ⟨fun hlt => go 100 ?_, fun hge => go 100 ?_⟩
  · have hi : i < l.length := by have := lt_of hlt; simp at this; omega
    have hm : l[i] ∈ l := List.getElem_mem hi
    have hn := h _ hm
    obtain ⟨q1, q2⟩ := foldl_ok (l := l.take i) Mk.nil_ok fun p hp => h p (List.mem_of_mem_take hp)
    have q1 : (mkN l i).Ok := q1
    have q2 : (mkN l i).w ≤ Mk.nil.w + 2 * sumW (l.take i) := q2
    have s1 : (mkN l (i, g).fst).keep = (mkN l i).keep := rfl
    have s2 : (((mkN l (i, g).fst).l.length : Nat) : Int) = ((mkN l i).l.length : Nat) := rfl
    have q3 := sumW_take' l i h
    have q4 := sumW_mem h _ hm
    have e1 := mkN_succ hi
    have d1 := q1.k
    have d2 := sumW_len q1.l
    have d3 := hn.k
    have d4 := hn.d
    have d5 : Mk.nil.w = 0 := rfl
    have d6 : (mkN l i).w = (mkN l i).keep + sumW (mkN l i).l := rfl
    have d7 : l[i].w = l[i].keep + l[i].drop + l[i].put.length + 1 := rfl
    have hx := piece_at hi
    have hroom : room (((mkN l i).l.map pieceV).length + 1) 32 := by
      unfold room
      simp only [List.length_map]
      omega
    refine ⟨Int.natCast_nonneg i, _, hx, ?_⟩
    refine ⟨by constructor <;> omega, ?_⟩
    refine ⟨Int.natCast_nonneg i, _, hx, ?_⟩
    refine ⟨fun g1 => go 60 ?_, fun g1 => go 60 ?_⟩
    · have p0 : l[i].put = [] := of_decide_eq_true g1
      refine ⟨Int.natCast_nonneg i, _, hx, ?_⟩
      refine ⟨fun g2 => go 60 ?_, fun g2 => go 60 ?_⟩
      · have p1 : l[i].drop = 0 := eq_of g2
        have e2 : mkN l (i + 1) = ⟨(mkN l i).l, (mkN l i).keep + l[i].keep⟩ := by rw [e1]; exact piece_skip p0 p1
        refine ⟨by constructor <;> omega, ?_⟩
        show Goes _ _ _ _
        refine next (i + 1, g) _ _ ⟨hi, by simp only; omega, ?_, ?_⟩
        · rw [e2]
          exact ⟨⟨rfl, rfl⟩, ⟨rfl, rfl⟩, ⟨rfl, rfl⟩, ⟨rfl, rfl⟩, trivial⟩
        · rw [e2]
          exact ⟨⟨rfl, rfl⟩, trivial⟩
      · have p1 : l[i].drop ≠ 0 := ne_of g2
        have h0 : ¬ (l[i].put = [] ∧ l[i].drop = 0) := fun e => p1 e.2
        refine ⟨fun g3 => go 60 ?_, fun g3 => go 60 ?_⟩
        · have g3 := eq_of g3
          refine ⟨rfl, ?_⟩
          refine ⟨fun g4 => go 60 ?_, fun g4 => go 60 ?_⟩
          · have g4 := lt_of g4
            have hne : (mkN l i).l ≠ [] := fun e => by rw [e] at g4; simp at g4
            have e2 : mkN l (i + 1) = ⟨modL (addP l[i]) (mkN l i).l, 0⟩ := by rw [e1]; exact piece_merge d4 h0 g3 hne
            have hpos : 0 < (mkN l i).l.length := List.length_pos_iff.2 hne
            have hL := lastP_at hpos
            have hLm := sumW_mem q1.l _ (List.getElem_mem (by omega : (mkN l i).l.length - 1 < (mkN l i).l.length))
            have hLn := q1.l _ (List.getElem_mem (by omega : (mkN l i).l.length - 1 < (mkN l i).l.length))
            have hLk := hLn.k
            have hLd := hLn.d
            unfold PieceT.w at hLm
            refine ⟨rfl, ⟨by omega, by omega⟩, rfl, by omega, by omega, rfl, _, hL, ?_⟩
            show Goes _ _ _ _
            refine goes_drawX [] 60 ⟨Int.natCast_nonneg i, _, hx, by rw [List.length_append]; omega, ?_⟩
            refine ⟨by kernel_rfl, ?_⟩
            show Goes _ _ _ _
            refine goes_drawX [] 60 ⟨Int.natCast_nonneg i, _, hx, ⟨by omega, by omega⟩, ?_⟩
            refine ⟨by kernel_rfl, ?_⟩
            refine ⟨rfl, ⟨by omega, by omega⟩, rfl, by omega, by omega, rfl, _, hL, ?_⟩
            refine ⟨⟨by omega, by omega⟩, ?_⟩
            show Goes _ _ _ _
            have e3 := set_lastP (f := addP l[i]) hpos
            refine next (i + 1, g) _ _ ⟨hi, by simp only; omega, ⟨⟨rfl, rfl⟩, ⟨?_, rfl⟩, ⟨?_, rfl⟩, ⟨rfl, rfl⟩, trivial⟩, ⟨⟨?_, rfl⟩, trivial⟩⟩
            · show V.int .i64 ((mkN l i).keep + l[i].keep) = V.int .i64 (mkN l (i + 1)).keep
              rw [e2, g3]
            · show V.osl (.loc 0) g 0 (mkN l i).l.length = V.osl (.loc 0) g 0 (mkN l (i + 1)).l.length
              rw [e2]
              simp only [modL_len]
            · rw [e2]
              exact congrArg (fun z => some (HObj.vec g 3 z)) e3
          · have g4 := not_lt_of g4
            have hnil : (mkN l i).l = [] := List.length_eq_zero_iff.1 (by omega)
            have e2 : mkN l (i + 1) = ⟨(mkN l i).l ++ [⟨(mkN l i).keep + l[i].keep, l[i].drop, l[i].put⟩], 0⟩ := by rw [e1]; exact piece_new d4 h0 (.inr hnil)
            show Goes _ _ _ _
            refine goes_drawX [] 60 ⟨Int.natCast_nonneg i, _, hx, Int.natCast_nonneg i, _, hx, rfl, ⟨rfl, trivial⟩, rfl, rfl, rfl, rfl, by simp, hroom, ?_⟩
            refine ⟨by kernel_rfl, ?_⟩
            refine ⟨⟨by omega, by omega⟩, ?_⟩
            show Goes _ _ _ _
            refine next (i + 1, bump g) _ _ ⟨hi, by simp only; omega, ⟨⟨rfl, rfl⟩, ⟨?_, rfl⟩, ⟨?_, rfl⟩, ⟨rfl, rfl⟩, trivial⟩, ⟨⟨?_, rfl⟩, trivial⟩⟩
            · rw [e2]
              rfl
            · rw [e2]
              exact congrArg (V.osl (.loc 0) (bump g) 0) (by simp)
            · rw [e2]
              exact congrArg (fun z => some (HObj.vec (bump g) 3 z)) (by rw [List.map_append]; rfl)
        · have g3 := ne_of g3
          have e2 : mkN l (i + 1) = ⟨(mkN l i).l ++ [⟨(mkN l i).keep + l[i].keep, l[i].drop, l[i].put⟩], 0⟩ := by rw [e1]; exact piece_new d4 h0 (.inl (by omega))
          show Goes _ _ _ _
          refine goes_drawX [] 60 ⟨Int.natCast_nonneg i, _, hx, Int.natCast_nonneg i, _, hx, rfl, ⟨rfl, trivial⟩, rfl, rfl, rfl, rfl, by simp, hroom, ?_⟩
          refine ⟨by kernel_rfl, ?_⟩
          refine ⟨⟨by omega, by omega⟩, ?_⟩
          show Goes _ _ _ _
          refine next (i + 1, bump g) _ _ ⟨hi, by simp only; omega, ⟨⟨rfl, rfl⟩, ⟨?_, rfl⟩, ⟨?_, rfl⟩, ⟨rfl, rfl⟩, trivial⟩, ⟨⟨?_, rfl⟩, trivial⟩⟩
          · rw [e2]
            rfl
          · rw [e2]
            exact congrArg (V.osl (.loc 0) (bump g) 0) (by simp)
          · rw [e2]
            exact congrArg (fun z => some (HObj.vec (bump g) 3 z)) (by rw [List.map_append]; rfl)
    · have p0 : l[i].put ≠ [] := of_decide_eq_false g1
      have h0 : ¬ (l[i].put = [] ∧ l[i].drop = 0) := fun e => p0 e.1
      refine ⟨fun g3 => go 60 ?_, fun g3 => go 60 ?_⟩
      · have g3 := eq_of g3
        refine ⟨rfl, ?_⟩
        refine ⟨fun g4 => go 60 ?_, fun g4 => go 60 ?_⟩
        · have g4 := lt_of g4
          have hne : (mkN l i).l ≠ [] := fun e => by rw [e] at g4; simp at g4
          have e2 : mkN l (i + 1) = ⟨modL (addP l[i]) (mkN l i).l, 0⟩ := by rw [e1]; exact piece_merge d4 h0 g3 hne
          have hpos : 0 < (mkN l i).l.length := List.length_pos_iff.2 hne
          have hL := lastP_at hpos
          have hLm := sumW_mem q1.l _ (List.getElem_mem (by omega : (mkN l i).l.length - 1 < (mkN l i).l.length))
          have hLn := q1.l _ (List.getElem_mem (by omega : (mkN l i).l.length - 1 < (mkN l i).l.length))
          have hLk := hLn.k
          have hLd := hLn.d
          unfold PieceT.w at hLm
          refine ⟨rfl, ⟨by omega, by omega⟩, rfl, by omega, by omega, rfl, _, hL, ?_⟩
          show Goes _ _ _ _
          refine goes_drawX [] 60 ⟨Int.natCast_nonneg i, _, hx, by rw [List.length_append]; omega, ?_⟩
          refine ⟨by kernel_rfl, ?_⟩
          show Goes _ _ _ _
          refine goes_drawX [] 60 ⟨Int.natCast_nonneg i, _, hx, ⟨by omega, by omega⟩, ?_⟩
          refine ⟨by kernel_rfl, ?_⟩
          refine ⟨rfl, ⟨by omega, by omega⟩, rfl, by omega, by omega, rfl, _, hL, ?_⟩
          refine ⟨⟨by omega, by omega⟩, ?_⟩
          show Goes _ _ _ _
          have e3 := set_lastP (f := addP l[i]) hpos
          refine next (i + 1, g) _ _ ⟨hi, by simp only; omega, ⟨⟨rfl, rfl⟩, ⟨?_, rfl⟩, ⟨?_, rfl⟩, ⟨rfl, rfl⟩, trivial⟩, ⟨⟨?_, rfl⟩, trivial⟩⟩
          · show V.int .i64 ((mkN l i).keep + l[i].keep) = V.int .i64 (mkN l (i + 1)).keep
            rw [e2, g3]
          · show V.osl (.loc 0) g 0 (mkN l i).l.length = V.osl (.loc 0) g 0 (mkN l (i + 1)).l.length
            rw [e2]
            simp only [modL_len]
          · rw [e2]
            exact congrArg (fun z => some (HObj.vec g 3 z)) e3
        · have g4 := not_lt_of g4
          have hnil : (mkN l i).l = [] := List.length_eq_zero_iff.1 (by omega)
          have e2 : mkN l (i + 1) = ⟨(mkN l i).l ++ [⟨(mkN l i).keep + l[i].keep, l[i].drop, l[i].put⟩], 0⟩ := by rw [e1]; exact piece_new d4 h0 (.inr hnil)
          show Goes _ _ _ _
          refine goes_drawX [] 60 ⟨Int.natCast_nonneg i, _, hx, Int.natCast_nonneg i, _, hx, rfl, ⟨rfl, trivial⟩, rfl, rfl, rfl, rfl, by simp, hroom, ?_⟩
          refine ⟨by kernel_rfl, ?_⟩
          refine ⟨⟨by omega, by omega⟩, ?_⟩
          show Goes _ _ _ _
          refine next (i + 1, bump g) _ _ ⟨hi, by simp only; omega, ⟨⟨rfl, rfl⟩, ⟨?_, rfl⟩, ⟨?_, rfl⟩, ⟨rfl, rfl⟩, trivial⟩, ⟨⟨?_, rfl⟩, trivial⟩⟩
          · rw [e2]
            rfl
          · rw [e2]
            exact congrArg (V.osl (.loc 0) (bump g) 0) (by simp)
          · rw [e2]
            exact congrArg (fun z => some (HObj.vec (bump g) 3 z)) (by rw [List.map_append]; rfl)
      · have g3 := ne_of g3
        have e2 : mkN l (i + 1) = ⟨(mkN l i).l ++ [⟨(mkN l i).keep + l[i].keep, l[i].drop, l[i].put⟩], 0⟩ := by rw [e1]; exact piece_new d4 h0 (.inl (by omega))
        show Goes _ _ _ _
        refine goes_drawX [] 60 ⟨Int.natCast_nonneg i, _, hx, Int.natCast_nonneg i, _, hx, rfl, ⟨rfl, trivial⟩, rfl, rfl, rfl, rfl, by simp, hroom, ?_⟩
        refine ⟨by kernel_rfl, ?_⟩
        refine ⟨⟨by omega, by omega⟩, ?_⟩
        show Goes _ _ _ _
        refine next (i + 1, bump g) _ _ ⟨hi, by simp only; omega, ⟨⟨rfl, rfl⟩, ⟨?_, rfl⟩, ⟨?_, rfl⟩, ⟨rfl, rfl⟩, trivial⟩, ⟨⟨?_, rfl⟩, trivial⟩⟩
        · rw [e2]
          rfl
        · rw [e2]
          exact congrArg (V.osl (.loc 0) (bump g) 0) (by simp)
        · rw [e2]
          exact congrArg (fun z => some (HObj.vec (bump g) 3 z)) (by rw [List.map_append]; rfl)
  · have hi : i = l.length := by have := not_lt_of hge; simp at this; omega
    subst hi
    have e : (mkN l l.length).l = normP l := by unfold mkN normP; rw [List.take_length]
    refine ⟨trivial, rfl, rfl, rfl, by simp, rfl, piecesV (normP l), ?_, rfl, rfl⟩
    rw [← e]
    exact Wk.refl _

/-! ### Extent -/
/-! ### view -/
/-! ### behind -/
/-! ### Transform -/
theorem norm_big {l : List PieceT} (h : ∀ p ∈ l, p.Nn) (W : Int) (hw : 2 * sumW l ≤ W) : (∀ p ∈ normP l, p.Nn) ∧ sumW (normP l) ≤ W ∧ ((normP l).length : Int) ≤ W ∧ ∀ p ∈ normP l, (p.put.length : Int) ≤ W := by
  obtain ⟨q1, q2⟩ := foldl_ok (l := l) Mk.nil_ok h
  have d1 := q1.k
  have d5 : Mk.nil.w = 0 := rfl
  have d6 : (l.foldl Mk.piece Mk.nil).w = (l.foldl Mk.piece Mk.nil).keep + sumW (normP l) := rfl
  have d2 : ((normP l).length : Int) ≤ sumW (normP l) := sumW_len q1.l
  refine ⟨q1.l, by omega, by omega, fun p hp => ?_⟩
  have h1 := sumW_mem q1.l p hp
  have h2 := (q1.l p hp).k
  have h3 := (q1.l p hp).d
  unfold PieceT.w at h1
  have h1 : p.keep + p.drop + p.put.length + 1 ≤ sumW (normP l) := h1
  omega
end Bow
/- AE75: facts for regions that draw their order: a call that is handed two objects. -/
namespace Bow
open Go

section
variable {c : Cx} {ops : Array Oper} {i : Nat} {o : Oper} {E : Env} {T : Heap} {gs : List Tmp}
theorem fact_sub2 {f : Operand} {args : Array Operand} {ts : Array TypeId} {g : FuncId} {first cap args' : List V} {x : V} (k0 k1 : Nat) {a0 a1 b0 b1 : HObj} (hg : Guarded ops o E gs true) (ho : ops[i]? = some o)
    (hop : o.op = .call { callee := .value f, args := args, argTypes := ts }) (hf : opd E f = .fn (.func g) first cap) (h0 : T[k0]? = some (some (a0.ren [k0, k1]))) (h1 : T[k1]? = some (some (a1.ren [k0, k1])))
    (hnd : nodupB [k0, k1] = true) (hD : c.D.all (fun k => !memN [k0, k1] k) = true) (hs : (a0.scB 2 && a1.scB 2) = true)
    (hfun : Fun c.P g [some a0, some a1] args' (fun y T1 => y = x ∧ T1 = [some b0, some b1])) (ha : first ++ args.toList.map (opd E) ++ cap = V.renL [k0, k1] args') (hsc : V.scBL 2 args' = true) (hx : ∀ ρ, x.ren ρ = x) :
    Fact c ops i E T ⟨o.dst, gs ++ tmpsOf o.op.operands.toList, [k0, k1], x, [(k0, some (b0.ren [k0, k1])), (k1, some (b1.ren [k0, k1]))], none⟩ := by
  simp only [Bool.and_eq_true] at hs
  refine fact_call_then ho hg hop hf fun E' T' hl hT' => ?_
  have e0 := (hT' k0 (by simp)).trans h0
  have e1 := (hT' k1 (by simp)).trans h1
  have l0 := lt_of_get e0
  have l1 := lt_of_get e1
  rw [ha]
  refine call_sub [k0, k1] hfun hnd (by simp only [subB, Bool.and_true, Bool.and_eq_true, Nat.blt, Nat.ble_eq]; exact ⟨l0, l1⟩) ⟨⟨by rw [lget_eq]; exact e0, hs.1⟩, ⟨by rw [lget_eq]; exact e1, hs.2⟩, trivial⟩ rfl hsc hD ?_
  rintro y T1 ⟨rfl, rfl⟩
  refine ⟨rfl, ?_⟩
  rw [setAllK_eq]
  refine ⟨hx _, ?_⟩
  simp only [setAll, omap, subρ, lcount, Nat.sub_self, rangeFrom, List.append_nil, List.map_nil, app]
end
end Bow
/- SP58: a text, turned place by place by two. -/
namespace Bow
open Go

end Bow
/- SP59: an edit, done place by place. -/
namespace Bow
open Go

end Bow
/- SP60: an edit that is normal, done place by place. -/
namespace Bow
open Go

end Bow
/- SP61: an edit made normal does what it did; two edits of one text behind each other end in one text. -/
namespace Bow
open Go

/-! ### How far it goes -/
theorem extent_app (l r : List PieceT) : extentP (l ++ r) = extentP l + extentP r := by
  induction l with
  | nil => rw [List.nil_append]; show _ = 0 + _; omega
  | cons p l ih => rw [List.cons_append, extentP_cons, extentP_cons, ih]; omega
theorem piece_ext {m : Mk} {p : PieceT} (hm : m.Ok) (hp : p.Nn) : extentP (m.piece p).l + (m.piece p).keep = extentP m.l + m.keep + p.keep + p.drop := by
  have mk := hm.k
  have pk := hp.k
  have pd := hp.d
  have nil : extentP [] = 0 := rfl
  by_cases h0 : p.put = [] ∧ p.drop = 0
  · rw [piece_skip h0.1 h0.2]
    simp only
    omega
  · by_cases hk : 0 < m.keep + p.keep ∨ m.l = []
    · rw [piece_new pd h0 hk]
      simp only
      rw [extent_app, extentP_cons, nil]
      simp only
      omega
    · have hk0 : m.keep + p.keep = 0 := by
        have : ¬ 0 < m.keep + p.keep := fun c => hk (.inl c)
        omega
      have hl0 : m.l ≠ [] := fun c => hk (.inr c)
      rw [piece_merge pd h0 hk0 hl0]
      obtain ⟨l', q, hl⟩ : ∃ l' q, m.l = l' ++ [q] := ⟨m.l.dropLast, m.l.getLast hl0, (List.dropLast_concat_getLast hl0).symm⟩
      rw [hl, modL_snoc]
      simp only
      rw [extent_app, extent_app, extentP_cons, extentP_cons, nil]
      unfold addP
      simp only
      omega
theorem fold_ext : ∀ (l : List PieceT) (m : Mk), m.Ok → (∀ p ∈ l, p.Nn) → (l.foldl Mk.piece m).Ok ∧ extentP (l.foldl Mk.piece m).l + (l.foldl Mk.piece m).keep = extentP m.l + m.keep + extentP l
  | [], m, hm, _ => ⟨hm, by show _ = _ + (0 : Int); rw [List.foldl_nil]; omega⟩
  | p :: l, m, hm, hl => by
    have hp := hl p (by simp)
    have ih := fold_ext l (m.piece p) (Mk.piece_ok hm hp).1 fun q hq => hl q (by simp [hq])
    have e := piece_ext hm hp
    rw [List.foldl_cons, extentP_cons]
    exact ⟨ih.1, by rw [ih.2]; omega⟩
theorem norm_ext {l : List PieceT} (h : ∀ p ∈ l, p.Nn) : extentP (normP l) ≤ extentP l := by
  have e := fold_ext l Mk.nil Mk.nil_ok h
  have k := e.1.k
  have e := e.2
  have n1 : extentP Mk.nil.l = 0 := rfl
  have n2 : Mk.nil.keep = 0 := rfl
  unfold normP
  omega
/-! ### Two edits -/
theorem applyE_ok {t : List UInt8} {l : List PieceT} (h : (applyE t l).2 = 0) : rightP l = true ∧ extentP l ≤ t.length ∧ applyE t l = (editP t l, 0) := by
  unfold applyE at h ⊢
  cases hr : rightP l with
  | false => rw [hr] at h; cases h
  | true =>
    rw [hr] at h
    simp only [Bool.not_true, cond_false] at h ⊢
    by_cases c : (t.length : Int) < extentP l
    · rw [decide_eq_true c] at h; cases h
    · rw [decide_eq_false c]
      simp only [cond_false, true_and, and_true]
      omega
end Bow
/- SP82: what undoes an edit, in plain Lean. -/
namespace Bow
open Go

def invP (s : List UInt8) (p : PieceT) : PieceT := ⟨p.keep, p.put.length, (s.drop p.keep.toNat).take p.drop.toNat⟩
def invL : List UInt8 → List PieceT → List PieceT
  | _, [] => []
  | s, p :: l => invP s p :: invL ((s.drop p.keep.toNat).drop p.drop.toNat) l
def invS : List UInt8 → List PieceT → List UInt8
  | s, [] => s
  | s, p :: l => invS ((s.drop p.keep.toNat).drop p.drop.toNat) l
theorem invL_snoc (p : PieceT) : ∀ (l : List PieceT) (s : List UInt8), invL s (l ++ [p]) = invL s l ++ [invP (invS s l) p]
  | [], s => rfl
  | q :: l, s => by simp only [List.cons_append, invL, invS, invL_snoc p l]
theorem invS_snoc (p : PieceT) : ∀ (l : List PieceT) (s : List UInt8), invS s (l ++ [p]) = ((invS s l).drop p.keep.toNat).drop p.drop.toNat
  | [], s => rfl
  | q :: l, s => by simp only [List.cons_append, invS, invS_snoc p l]
theorem ext_nn : ∀ {l : List PieceT}, (∀ p ∈ l, p.Nn) → 0 ≤ extentP l
  | [], _ => Int.le_refl _
  | p :: l, h => by
    have h1 := (h p List.mem_cons_self).k
    have h2 := (h p List.mem_cons_self).d
    have := ext_nn fun q hq => h q (List.mem_cons_of_mem _ hq)
    rw [extentP_cons]
    omega
theorem invS_len : ∀ {l : List PieceT} {s : List UInt8}, (∀ p ∈ l, p.Nn) → extentP l ≤ s.length → ((invS s l).length : Int) = s.length - extentP l
  | [], s, _, _ => by simp [invS, extentP]
  | p :: l, s, h, he => by
    have h1 := (h p List.mem_cons_self).k
    have h2 := (h p List.mem_cons_self).d
    have h3 := ext_nn fun q hq => h q (List.mem_cons_of_mem _ hq)
    rw [extentP_cons] at he ⊢
    have hl : (((s.drop p.keep.toNat).drop p.drop.toNat).length : Int) = s.length - p.keep - p.drop := by
      rw [List.length_drop, List.length_drop]
      omega
    rw [invS, invS_len (fun q hq => h q (List.mem_cons_of_mem _ hq)) (by rw [hl]; omega), hl]
    omega
/-- The i-th piece fits in what is left. -/
theorem inv_fit {l : List PieceT} {s : List UInt8} {i : Nat} (h : ∀ p ∈ l, p.Nn) (he : extentP l ≤ s.length) (hi : i < l.length) : l[i].keep + l[i].drop ≤ (invS s (l.take i)).length ∧ ((invS s (l.take i)).length : Int) ≤ s.length ∧ l.take (i + 1) = l.take i ++ [l[i]] := by
  have e : l.take (i + 1) = l.take i ++ [l[i]] := List.take_succ_eq_append_getElem hi
  have e2 : extentP l = extentP (l.take (i + 1)) + extentP (l.drop (i + 1)) := by rw [← extent_app, List.take_append_drop]
  have n1 := ext_nn (l := l.drop (i + 1)) fun p hp => h p (List.mem_of_mem_drop hp)
  have n2 := ext_nn (l := l.take i) fun p hp => h p (List.mem_of_mem_take hp)
  rw [e, extent_app] at e2
  have e3 : extentP [l[i]] = l[i].keep + l[i].drop := by rw [extentP_cons]; simp [extentP]
  have hk := (h _ (List.getElem_mem hi)).k
  have hd := (h _ (List.getElem_mem hi)).d
  have hl := invS_len (l := l.take i) (s := s) (fun p hp => h p (List.mem_of_mem_take hp)) (by omega)
  exact ⟨by omega, by omega, e⟩
theorem invP_nn {s : List UInt8} {p : PieceT} (h : p.Nn) : (invP s p).Nn := ⟨h.k, Int.natCast_nonneg _⟩
theorem invL_nn : ∀ {l : List PieceT} {s : List UInt8}, (∀ p ∈ l, p.Nn) → ∀ p ∈ invL s l, p.Nn
  | [], _, _, p, hp => by cases hp
  | q :: l, s, h, p, hp => by
    rw [invL] at hp
    rcases List.mem_cons.1 hp with rfl | hp
    · exact invP_nn (h q List.mem_cons_self)
    · exact invL_nn (fun q hq => h q (List.mem_cons_of_mem _ hq)) p hp
theorem invP_w {s : List UInt8} {p : PieceT} (h : p.Nn) : (invP s p).w ≤ p.w := by
  have := h.d
  unfold PieceT.w invP
  simp only
  rw [List.length_take]
  omega
theorem invL_w : ∀ {l : List PieceT} {s : List UInt8}, (∀ p ∈ l, p.Nn) → sumW (invL s l) ≤ sumW l
  | [], _, _ => Int.le_refl _
  | q :: l, s, h => by
    have h1 := invP_w (s := s) (h q List.mem_cons_self)
    have h2 := invL_w (s := (s.drop q.keep.toNat).drop q.drop.toNat) fun q hq => h q (List.mem_cons_of_mem _ hq)
    rw [invL, sumW, sumW]
    omega
/-- What undoes an edit of a text. -/
def invE (t : List UInt8) (l : List PieceT) : List PieceT × Int :=
  bif (applyE t l).2 == 0 then (bif rightP (normP (invL t (normP l))) then (normP (invL t (normP l)), 0) else ([], 3)) else ([], (applyE t l).2)
end Bow
/- W144: what undoes an edit of a text: leaftext.Invert, bowerref05.Invert. -/
namespace Bow
open Go Go.Proofs

theorem w_normPure (l : List PieceT) (h : ∀ p ∈ l, p.Nn) (hw : sumW l ≤ 100000000000) (hl : l.length ≤ 100000000000) : Pure Tryz.prog 90 [piecesV l] (fun x => x = piecesV (normP l)) := by
  refine pure_of_fun ((w_norm l h hw hl).mono ?_)
  rintro x T ⟨g, k, rfl, rfl⟩
  refine ⟨rfl, by simp, ?_⟩
  refine ⟨rfl, ?_⟩
  show V.sl 3 _ = _
  simp [piecesV]

def invV (r : List PieceT × Int) : V := .tup [piecesV r.1, .int .i64 r.2]
set_option maxRecDepth 100000 in
theorem w_lInvert (t : List UInt8) (l : List PieceT) (ht : t.length ≤ 1000000000) (hl : l.length ≤ 1000000) (hpl : ∀ p ∈ l, p.put.length ≤ 1000000000) : Pure Tryz.prog 64 [.str t, piecesV l] (fun x => x = invV (invE t l)) := by
  refine pure_wk (pure_fn 100 Tryz.func64 rfl rfl rfl fun B => ?_)
  show CallThen _ _ _ _ _ _
  refine call_pure (w_edit t l ht hl hpl) rfl ?_
  rintro _ rfl
  refine ⟨fun g1 => go 100 ?_, fun g1 => go 100 ?_⟩
  · have g1 : (applyE t l).2 ≠ 0 := by simpa using g1
    have e : invE t l = ([], (applyE t l).2) := by
      unfold invE
      rw [show ((applyE t l).2 == 0) = false by simpa using g1]
      rfl
    rw [e]
    exact ⟨trivial, rfl, rfl, rfl, .tup [.sl 3 [], .int .i64 (applyE t l).2], Wk.tup ⟨Wk.nil 3, .refl _, trivial⟩, rfl, rfl⟩
  have g1 : (applyE t l).2 = 0 := by simpa using g1
  obtain ⟨r1, r2, _⟩ := applyE_ok g1
  obtain ⟨n1, n2⟩ := right_nn r1
  obtain ⟨m1, m2⟩ := norm_nn r1
  have m3 := norm_ext n1
  obtain ⟨q, hq⟩ : ∃ q, normP l = q := ⟨_, rfl⟩
  rw [hq] at m1 m2 m3
  have hfit : extentP q ≤ t.length := by omega
  have hql := sumW_len m1
  show CallThen _ _ _ _ _ _
  refine call_pure (w_normPure l n1 (by omega) (by omega)) rfl ?_
  rw [hq]
  rintro _ rfl
  show Goes _ _ _ _
  refine goes_ownCell 0 0 3 rfl rfl ?_
  refine goes_iter (ι := Nat × Nat) (fun i => i.1 ≤ q.length) (fun i => q.length - i.1) (fun i => [(24, .int .i64 i.1), (23, .int .i64 q.length), (22, piecesV q), (8, .ptr (.loc 0) 0), (0, .str (invS t (q.take i.1)))]) (fun i => mkT ((invL t (q.take i.1)).foldl Mk.piece Mk.nil) i.2) (0, 0) 100 (fun _ => rfl) (fun _ => rfl)
    ⟨Nat.zero_le _, ⟨⟨rfl, rfl⟩, ⟨?_, rfl⟩, ⟨rfl, rfl⟩, ⟨rfl, rfl⟩, ⟨rfl, rfl⟩, trivial⟩, ⟨⟨rfl, rfl⟩, ⟨rfl, rfl⟩, trivial⟩⟩ ?_
  · show V.int _ _ = _
    simp
  rintro ⟨i, g⟩ k1 next
  simp only at k1
  refine ⟨fun hlt => go 100 ?_, fun hge => go 100 ?_⟩
  · have hi : i < q.length := by have := lt_of hlt; omega
    have hx : (q.map pieceV)[i]? = some (pieceV q[i]) := by simp [hi]
    have hm : q[i] ∈ q := List.getElem_mem hi
    obtain ⟨f1, f2, f3⟩ := inv_fit m1 hfit hi
    have pn := m1 _ hm
    have pk := pn.k
    have pd := pn.d
    refine ⟨Int.natCast_nonneg i, _, hx, ?_⟩
    refine ⟨pk, by simp only; omega, ?_⟩
    refine ⟨Int.le_refl _, ?_⟩
    show Goes _ (.code (.region _ _ true) :: _) _ _
    have hsl : ((((invS t (q.take i)).drop q[i].keep.toNat).take ((invS t (q.take i)).length - q[i].keep.toNat)).drop (Int.toNat 0)).take (q[i].drop.toNat - Int.toNat 0) = (invP (invS t (q.take i)) q[i]).put := by
      have : ((invS t (q.take i)).drop q[i].keep.toNat).length = (invS t (q.take i)).length - q[i].keep.toNat := List.length_drop ..
      rw [← this, List.take_length]
      rfl
    obtain ⟨q1, q2⟩ := foldl_ok (l := invL t (q.take i)) Mk.nil_ok fun p hp => invL_nn (fun p hp => m1 p (List.mem_of_mem_take hp)) p hp
    have q3 := invL_w (l := q.take i) (s := t) fun p hp => m1 p (List.mem_of_mem_take hp)
    have q4 := sumW_take q i m1
    have q5 := sumW_mem m1 _ hm
    have q6 := invP_w (s := invS t (q.take i)) pn
    have q7 : Mk.nil.w = 0 := rfl
    refine goes_drawX [(10, false)] 100 ⟨by decide, pd, ?_, ?_⟩
    · simp only [List.length_take, List.length_drop]; omega
    refine ⟨[0, 1], .tup [], _, fun gs hg => fact_sub2 (a0 := mkB ((invL t (q.take i)).foldl Mk.piece Mk.nil) g) (a1 := mkVec ((invL t (q.take i)).foldl Mk.piece Mk.nil) g) (b0 := mkB (((invL t (q.take i)).foldl Mk.piece Mk.nil).piece (invP (invS t (q.take i)) q[i])) (gPiece ((invL t (q.take i)).foldl Mk.piece Mk.nil) (invP (invS t (q.take i)) q[i]) g)) (b1 := mkVec (((invL t (q.take i)).foldl Mk.piece Mk.nil).piece (invP (invS t (q.take i)) q[i])) (gPiece ((invL t (q.take i)).foldl Mk.piece Mk.nil) (invP (invS t (q.take i)) q[i]) g)) 0 1 hg rfl rfl rfl rfl rfl rfl rfl rfl (w_mkPieceG ((invL t (q.take i)).foldl Mk.piece Mk.nil) g (invP (invS t (q.take i)) q[i]) q1 (invP_nn pn) (by omega)) ?_ rfl (fun _ => rfl), trivial, ?_⟩
    · exact congrArg (fun z => [V.ptr (.loc 0) 0, .agg [.int .i64 q[i].keep, .int .i64 (q[i].put.length : Int), .str z]]) hsl
    refine ⟨by kernel_rfl, ?_⟩
    refine ⟨pd, ?_, ?_, ?_⟩
    · simp only [List.length_take, List.length_drop]; omega
    · simp only [List.length_take, List.length_drop]; omega
    refine ⟨by constructor <;> omega, ?_⟩
    show Goes _ _ _ _
    have hS : ((((invS t (q.take i)).drop q[i].keep.toNat).take ((invS t (q.take i)).length - q[i].keep.toNat)).drop q[i].drop.toNat).take ((((invS t (q.take i)).drop q[i].keep.toNat).take ((invS t (q.take i)).length - q[i].keep.toNat)).length - q[i].drop.toNat) = invS t (q.take (i + 1)) := by
      have h1 : ((invS t (q.take i)).drop q[i].keep.toNat).length = (invS t (q.take i)).length - q[i].keep.toNat := List.length_drop ..
      rw [← h1, List.take_length, ← List.length_drop, List.take_length, f3, invS_snoc]
    have hM : ((invL t (q.take (i + 1))).foldl Mk.piece Mk.nil) = ((invL t (q.take i)).foldl Mk.piece Mk.nil).piece (invP (invS t (q.take i)) q[i]) := by
      rw [f3, invL_snoc, List.foldl_append]
      rfl
    refine next (i + 1, gPiece ((invL t (q.take i)).foldl Mk.piece Mk.nil) (invP (invS t (q.take i)) q[i]) g) _ _ ⟨hi, by simp only; omega, ⟨⟨rfl, rfl⟩, ⟨rfl, rfl⟩, ⟨rfl, rfl⟩, ⟨rfl, rfl⟩, ⟨?_, rfl⟩, trivial⟩, ?_⟩
    · exact congrArg V.str hS
    · rw [hM]
      exact ⟨⟨rfl, rfl⟩, ⟨rfl, rfl⟩, trivial⟩
  · have hi : i = q.length := by have := not_lt_of hge; omega
    subst hi
    simp only [List.take_length]
    obtain ⟨q1, q2⟩ := foldl_ok (l := invL t q) Mk.nil_ok fun p hp => invL_nn m1 p hp
    have q3 := invL_w (s := t) m1
    have q7 : Mk.nil.w = 0 := rfl
    have hR : ((invL t q).foldl Mk.piece Mk.nil).l = normP (invL t (normP l)) := by rw [hq]; rfl
    show CallThen _ _ _ _ _ _
    refine call_sub [0, 1] (w_done ((invL t q).foldl Mk.piece Mk.nil) g q1 (by omega)) rfl rfl ⟨⟨rfl, rfl⟩, ⟨rfl, rfl⟩, trivial⟩ rfl rfl rfl ?_
    rintro x T1 ⟨rfl, rfl⟩
    refine ⟨rfl, ?_⟩
    rw [hR]
    refine ⟨fun g2 => go 100 ?_, fun g2 => go 100 ?_⟩
    · have g2 : rightP (normP (invL t (normP l))) = false := by simpa using g2
      have e : invE t l = ([], 3) := by
        unfold invE
        rw [g1, g2]
        rfl
      rw [e]
      exact ⟨trivial, rfl, rfl, rfl, .tup [.sl 3 [], .int .i64 3], Wk.tup ⟨Wk.nil 3, .refl _, trivial⟩, rfl, rfl⟩
    · have g2 : rightP (normP (invL t (normP l))) = true := by simpa using g2
      have e : invE t l = (normP (invL t (normP l)), 0) := by
        unfold invE
        rw [g1, g2]
        rfl
      rw [e]
      refine ⟨trivial, rfl, rfl, rfl, by simp [hR], ?_⟩
      exact ⟨rfl, .tup [piecesV (normP (invL t (normP l))), .int .i64 0], Wk.tup ⟨by rw [show piecesV (normP (invL t (normP l))) = .sl 3 (((invL t q).foldl Mk.piece Mk.nil).l.map pieceV) by rw [hR]; rfl]; exact .refl _, .refl _, trivial⟩, rfl, rfl⟩
end Bow
/- W145: what undoes an edit of a text, by the document: bowerref05.Invert. -/
namespace Bow
open Go Go.Proofs

/-- How far in the text i pieces reach. -/
theorem inv_at : ∀ {l : List PieceT} {s : List UInt8}, (∀ p ∈ l, p.Nn) → invS s l = s.drop (extentP l).toNat
  | [], s, _ => rfl
  | p :: l, s, h => by
    have h1 := (h p List.mem_cons_self).k
    have h2 := (h p List.mem_cons_self).d
    have h3 := ext_nn fun q hq => h q (List.mem_cons_of_mem _ hq)
    rw [invS, inv_at (fun q hq => h q (List.mem_cons_of_mem _ hq)), List.drop_drop, List.drop_drop, extentP_cons]
    congr 1
    omega
set_option maxRecDepth 100000 in
theorem w_refInvert (t : List UInt8) (l : List PieceT) (ht : t.length ≤ 1000000000) (hl : l.length ≤ 1000000) (hpl : ∀ p ∈ l, p.put.length ≤ 1000000000) : Pure Tryz.prog 39 [.str t, piecesV l] (fun x => x = invV (invE t l)) := by
  refine pure_wk (pure_fn 100 Tryz.func39 rfl rfl rfl fun B => ?_)
  show CallThen _ _ _ _ _ _
  refine call_pure (w_refEdit t l ht hl hpl) rfl ?_
  rintro _ rfl
  refine ⟨fun g1 => go 100 ?_, fun g1 => go 100 ?_⟩
  · have g1 : (applyE t l).2 ≠ 0 := by simpa using g1
    have e : invE t l = ([], (applyE t l).2) := by
      unfold invE
      rw [show ((applyE t l).2 == 0) = false by simpa using g1]
      rfl
    rw [e]
    exact ⟨trivial, rfl, rfl, rfl, .tup [.sl 3 [], .int .i64 (applyE t l).2], Wk.tup ⟨Wk.nil 3, .refl _, trivial⟩, rfl, rfl⟩
  have g1 : (applyE t l).2 = 0 := by simpa using g1
  obtain ⟨r1, r2, _⟩ := applyE_ok g1
  obtain ⟨n1, n2⟩ := right_nn r1
  obtain ⟨m1, m2⟩ := norm_nn r1
  have m3 := norm_ext n1
  obtain ⟨q, hq⟩ : ∃ q, normP l = q := ⟨_, rfl⟩
  rw [hq] at m1 m2 m3
  have hfit : extentP q ≤ t.length := by omega
  have hql := sumW_len m1
  show CallThen _ _ _ _ _ _
  refine call_pure (w_ref5norm l n1 (by omega)) rfl ?_
  rw [hq]
  rintro _ rfl
  show Goes _ _ _ _
  refine goes_own 8 3 rfl ?_
  refine goes_iter (ι := Nat × Nat) (fun i => i.1 ≤ q.length) (fun i => q.length - i.1) (fun i => [(10, .int .i64 i.1), (9, .int .i64 (extentP (q.take i.1))), (8, .osl (.loc 0) i.2 0 (invL t (q.take i.1)).length), (1, piecesV q), (0, .str t)]) (fun i => [some (.vec i.2 3 ((invL t (q.take i.1)).map pieceV))]) (0, 0) 100 (fun _ => rfl) (fun _ => rfl)
    ⟨Nat.zero_le _, ⟨⟨rfl, rfl⟩, ⟨rfl, rfl⟩, ⟨rfl, rfl⟩, ⟨rfl, rfl⟩, ⟨rfl, rfl⟩, trivial⟩, ⟨⟨rfl, rfl⟩, trivial⟩⟩ ?_
  rintro ⟨i, g⟩ k1 next
  simp only at k1
  refine ⟨fun hlt => go 100 ?_, fun hge => go 100 ?_⟩
  · have hi : i < q.length := by have := lt_of hlt; simp at this; omega
    have hx : (q.map pieceV)[i]? = some (pieceV q[i]) := by simp [hi]
    have hm : q[i] ∈ q := List.getElem_mem hi
    obtain ⟨f1, f2, f3⟩ := inv_fit m1 hfit hi
    have pn := m1 _ hm
    have pk := pn.k
    have pd := pn.d
    have pt : ∀ p ∈ q.take i, p.Nn := fun p hp => m1 p (List.mem_of_mem_take hp)
    have e0 := ext_nn pt
    have e1 := inv_at (s := t) pt
    have e2 := invS_len (s := t) pt (by have := ext_nn (l := q.drop i) fun p hp => m1 p (List.mem_of_mem_drop hp); have h := extent_app (q.take i) (q.drop i); rw [List.take_append_drop] at h; omega)
    refine ⟨Int.natCast_nonneg i, _, hx, ?_⟩
    have ov1 : -9223372036854775808 ≤ extentP (q.take i) + q[i].keep ∧ extentP (q.take i) + q[i].keep ≤ 9223372036854775807 := by constructor <;> omega
    refine ⟨ov1, ?_⟩
    show Goes _ (.code (.region _ _ true) :: _) _ _
    have ov2 : -9223372036854775808 ≤ extentP (q.take i) + q[i].keep + q[i].drop ∧ extentP (q.take i) + q[i].keep + q[i].drop ≤ 9223372036854775807 := by constructor <;> omega
    have a1 : 0 ≤ extentP (q.take i) + q[i].keep := by omega
    have a2 : extentP (q.take i) + q[i].keep ≤ extentP (q.take i) + q[i].keep + q[i].drop := by omega
    have a3 : extentP (q.take i) + q[i].keep + q[i].drop ≤ t.length := by omega
    refine goes_drawX [] 100 ?_
    refine ⟨Int.natCast_nonneg i, _, hx, ?_⟩
    refine ⟨Int.natCast_nonneg i, _, hx, ?_⟩
    refine ⟨ov2, ?_⟩
    refine ⟨a1, a2, a3, ?_⟩
    refine ⟨Int.natCast_nonneg i, _, hx, ?_⟩
    have hroom : room (((invL t (q.take i)).map pieceV).length + 1) 32 := by
      have := invL_w (s := t) pt
      have := sumW_len (invL_nn (s := t) pt)
      have := sumW_take q i m1
      unfold room
      simp only [List.length_map]
      omega
    refine ⟨rfl, ⟨rfl, trivial⟩, rfl, rfl, rfl, rfl, by simp, hroom, ?_⟩
    refine ⟨by kernel_rfl, ?_⟩
    refine ⟨Int.natCast_nonneg i, _, hx, ?_⟩
    refine ⟨ov2, ?_⟩
    refine ⟨by constructor <;> omega, ?_⟩
    show Goes _ _ _ _
    have hput : ((t.drop (extentP (q.take i) + q[i].keep).toNat).take ((extentP (q.take i) + q[i].keep + q[i].drop).toNat - (extentP (q.take i) + q[i].keep).toNat)) = (invP (invS t (q.take i)) q[i]).put := by
      show _ = ((invS t (q.take i)).drop q[i].keep.toNat).take q[i].drop.toNat
      rw [e1, List.drop_drop]
      congr 1
      · omega
      · congr 1
        omega
    have hel : V.agg [.int .i64 q[i].keep, .int .i64 (q[i].put.length : Int), .str ((t.drop (extentP (q.take i) + q[i].keep).toNat).take ((extentP (q.take i) + q[i].keep + q[i].drop).toNat - (extentP (q.take i) + q[i].keep).toNat))] = pieceV (invP (invS t (q.take i)) q[i]) :=
      congrArg (fun z => V.agg [.int .i64 q[i].keep, .int .i64 (q[i].put.length : Int), .str z]) hput
    have hL : invL t (q.take (i + 1)) = invL t (q.take i) ++ [invP (invS t (q.take i)) q[i]] := by rw [f3, invL_snoc]
    refine next (i + 1, bump g) _ _ ⟨hi, by simp only; omega, ⟨⟨rfl, rfl⟩, ⟨?_, rfl⟩, ⟨?_, rfl⟩, ⟨rfl, rfl⟩, ⟨rfl, rfl⟩, trivial⟩, ⟨⟨?_, rfl⟩, trivial⟩⟩
    · refine congrArg (V.int .i64) ?_
      simp only
      rw [f3, extent_app, extentP_cons]
      simp [extentP]
      omega
    · refine congrArg (V.osl (.loc 0) (bump g) 0) ?_
      simp only
      rw [hL]
      simp
    · refine congrArg (fun z => some (HObj.vec (bump g) 3 z)) ?_
      simp only
      rw [hL, List.map_append]
      exact congrArg (fun z => (invL t (q.take i)).map pieceV ++ [z]) hel
  · have hi : i = q.length := by have := not_lt_of hge; simp at this; omega
    subst hi
    simp only [List.take_length]
    have i1 := invL_nn (s := t) m1
    have i2 := invL_w (s := t) m1
    obtain ⟨j1, j2, j3, j4⟩ := norm_big i1 100000000000 (by omega)
    have hR : normP (invL t q) = normP (invL t (normP l)) := by rw [hq]
    show CallThen _ _ _ _ _ _
    refine call_pure_frz ?_
    refine ⟨rfl, by simp, _, w_ref5norm (invL t q) i1 (by omega), rfl, ?_⟩
    rintro x rfl
    rw [hR] at j1 j2 j3 j4 ⊢
    show CallThen _ _ _ _ _ _
    refine call_pure (w_refRightW (normP (invL t (normP l))) (by omega) (fun p hp => by have := j4 p hp; omega)) rfl ?_
    rintro x rfl
    refine ⟨fun g2 => go 100 ?_, fun g2 => go 100 ?_⟩
    · have g2 : rightP (normP (invL t (normP l))) = false := by simpa using g2
      have e : invE t l = ([], 3) := by
        unfold invE
        rw [g1, g2]
        rfl
      rw [e]
      exact ⟨trivial, rfl, rfl, rfl, .tup [.sl 3 [], .int .i64 3], Wk.tup ⟨Wk.nil 3, .refl _, trivial⟩, rfl, rfl⟩
    · have g2 : rightP (normP (invL t (normP l))) = true := by simpa using g2
      have e : invE t l = (normP (invL t (normP l)), 0) := by
        unfold invE
        rw [g1, g2]
        rfl
      rw [e]
      exact ⟨trivial, rfl, rfl, rfl, _, Wk.refl _, rfl, rfl⟩
end Bow
/- AE51: ranges over functions within functions that call yield: what the ranging sides hold, together. -/
namespace Bow
open Go

/-! ### What has been named speaks of no object of its own any more -/
/-- Objects that speak of one another alone, all there. -/
structure Shut (T : Heap) : Prop where
  live : ∀ (k : Nat) (o : Option HObj), T[k]? = some o → ∃ ob, o = some ob
  sc : ∀ (k : Nat) (o : HObj), T[k]? = some (some o) → o.sc T.length
theorem Out.shut {m : List Nat} {T : Heap} {B : Base} (h : Out m T B) : Shut T := by
  refine ⟨fun k o hk => ?_, fun k o hk => ?_⟩
  · have hkm : k < m.length := by have := lt_of_get hk; rw [h.len]; exact this
    obtain ⟨ob, e1, _⟩ := h.at_ k m[k] (List.getElem?_eq_getElem hkm)
    rw [e1] at hk
    injection hk with hk
    exact ⟨ob, hk.symm⟩
  · have hkm : k < m.length := by have := lt_of_get hk; rw [h.len]; exact this
    obtain ⟨ob, e1, _, e3⟩ := h.at_ k m[k] (List.getElem?_eq_getElem hkm)
    rw [e1] at hk
    injection hk with hk
    injection hk with hk
    subst hk
    rw [← h.len]
    exact e3
theorem Out.get {m : List Nat} {T : Heap} {B : Base} (h : Out m T B) {k r : Nat} {o : HObj} (hk : m[k]? = some r) (hT : T[k]? = some (some o)) : B r = some (o.conv m) := by
  obtain ⟨ob, e1, e2, _⟩ := h.at_ k r hk
  rw [e1] at hT
  injection hT with hT
  injection hT with hT
  subst hT
  exact e2
/-! ### Rounds under names -/
/-- A heap that speaks of its own objects alone, as it is reckoned. -/
def closedB (n : Nat) : Heap → Bool
  | [] => true
  | none :: _ => false
  | some o :: T => o.scB n && closedB n T
end Bow
/- AE52: a range over a function within a function that calls yield, whose body calls that yield with what it is given. -/
namespace Bow
open Go

end Bow
/- AE54: operations where the objects are not known one by one; functions that call yield and range over functions themselves. -/
namespace Bow
open Go

theorem opTo_of {c : Cx} {o : Op} {E : Env} {T T1 : Heap} {x : V} (h : evOp c o E T False fun u T' => u = x ∧ T' = T1) : OpTo c o E T x T1 := by
  rcases evOp_sound h with h | ⟨u, T', ⟨rfl, rfl⟩, k⟩
  · exact h.elim
  · exact k

section
variable {c : Cx} {E : Env} {T : Heap} {ops : Array Oper} {i : Nat} {rest : List Nat} {k : List Item} {o : Oper}
theorem goes_allocS {t : TypeId} {z : V} (n : Nat) (ho : lget ops.toList i = some o) (hg : o.guard = none) (hop : o.op = .alloc t) (hz : zeroOf c.P t = some z) (h1 : onesB z.cells = true)
    (h : putE c.nt o.dst (.ptr (.loc T.length) 0) E False fun E' => evp c n (.inRegion ops rest :: k) E' (T ++ [some (.box z.cells)])) : Goes c (.inRegion ops (i :: rest) :: k) E T := by
  refine goes_opTo n ho hg hop (opTo_of ?_) (fun cl h => by cases h) h
  simp only [evOp, hz, h1, cond_true, lnum_eq, lsnoc_eq]
  exact ⟨trivial, trivial⟩
theorem goes_loadS {t : TypeId} {x : Operand} {kk off : Nat} {cs : List V} {u : V} (n : Nat) (ho : lget ops.toList i = some o) (hg : o.guard = none) (hop : o.op = .load t x) (hx : opd E x = .ptr (.loc kk) off) (hT : T[kk]? = some (some (.box cs)))
    (hp : ∀ K : V → Prop, K u → partK c.P t cs off False K) (h : putE c.nt o.dst u E False fun E' => evp c n (.inRegion ops rest :: k) E' T) : Goes c (.inRegion ops (i :: rest) :: k) E T := by
  refine goes_opTo n ho hg hop (opTo_of ?_) (fun cl h => by cases h) h
  simp only [evOp, hx, loadK, lget_eq, hT]
  exact hp _ (by simp)
theorem goes_storeS {t : TypeId} {x y : Operand} {kk : Nat} {cs cs' : List V} {v : V} {ti : TypeInfo} (n : Nat) (ho : lget ops.toList i = some o) (hg : o.guard = none) (hop : o.op = .store t x y) (hx : opd E x = .ptr (.loc kk) 0) (hy : opd E y = v) (hT : T[kk]? = some (some (.box cs)))
    (ht : tyI c.P t = some ti) (h1 : (Nat.beq (lcount v.cells 0) ti.size && onesB v.cells) = true) (h2 : ∀ K : List V → Prop, K cs' → lover cs 0 v.cells False K)
    (h : putE c.nt o.dst (.tup []) E False fun E' => evp c n (.inRegion ops rest :: k) E' (T.set kk (some (.box cs')))) : Goes c (.inRegion ops (i :: rest) :: k) E T := by
  refine goes_opTo n ho hg hop (opTo_of ?_) (fun cl h => by cases h) h
  simp only [evOp, fv_eq, hx, hy, storeK, ht, lget_eq, hT, h1, cond_true, lset_eq]
  exact h2 _ (by simp)
end

theorem goes_forget {c : Cx} {todo : List Item} {E : Env} {T : Heap} (E' : Env) (hE : envIs T.length E E') (h : Goes c todo E' T) : Goes c todo E T := by
  refine goes_step fun w β H m a b cs hs _ _ _ => ?_
  have h1 := hs.forget (E' := E') (fun k => (envIs_lk hE k).1) (envIs_lk hE 0).2
  exact ⟨w, β, H, m, a, todo, ⟨E', T, c.B, c.D⟩, .refl _ _, h1, Fr.refl _ _ _, h⟩
/-- A loop at whose head there may be more objects, and more marks, from round to round. -/
theorem goes_growB {c : Cx} {body : Code} {k : List Item} {E : Env} {ι : Type} (Inv : ι → Base → List Nat → Prop) (μ : ι → Nat) (Eo : ι → Env) (To : ι → Heap) (i0 : ι) (h0 : Inv i0 c.B c.D ∧ envIs (To i0).length E (Eo i0))
    (step : ∀ i B D, Inv i B D → (∀ j B' D' E, Inv j B' D' ∧ μ j < μ i ∧ envIs (To j).length E (Eo j) → Goes { c with B := B', D := D' } (.inLoop body :: k) E (To j)) → Goes { c with B := B, D := D } (.code body :: .inLoop body :: k) (Eo i) (To i)) : Goes c (.code (.loop body) :: k) E (To i0) := by
  have key : ∀ (m : Nat) (i : ι) (B : Base) (D : List Nat), μ i = m → Inv i B D → Goes { c with B := B, D := D } (.code body :: .inLoop body :: k) (Eo i) (To i) := by
    intro m
    induction m using Nat.strongRecOn with
    | _ m ih =>
      intro i B D hm hinv
      exact step i B D hinv fun j B' D' E ⟨h1, h2, h3⟩ => goes_forget (c := { c with B := B', D := D' }) (Eo j) h3 (goes_still (fun b a cs w => stepR_inLoop) (ih (μ j) (by omega) j B' D' rfl h1))
  exact goes_forget (Eo i0) h0.2 (goes_still (fun b a cs w => stepR_loop) (key _ i0 c.B c.D rfl h0.1))

/-! ### Functions that call yield, and range over functions themselves -/
end Bow
/- SP36: a tree's nodes with the identities of their parents; the node of an identity. -/
namespace Bow
open Go

end Bow
/- W92: effects.kin: a range over a function within a function that calls yield. -/
namespace Bow
open Go Go.Proofs

theorem allLive_app : ∀ (A B : Heap), allLive (A ++ B) = (allLive A && allLive B)
  | [], B => by simp [allLive]
  | none :: A, B => by simp [allLive]
  | some o :: A, B => by rw [List.cons_append, allLive, allLive, allLive_app A B]
theorem closedB_app {n : Nat} : ∀ (A B : Heap), closedB n (A ++ B) = (closedB n A && closedB n B)
  | [], B => by simp [closedB]
  | none :: A, B => by simp [closedB]
  | some o :: A, B => by rw [List.cons_append, closedB, closedB, closedB_app A B, Bool.and_assoc]

theorem closedB_rHeap {c : Cx} {E : Env} {ps : Array Tmp} {assign body : Code} {pre : Heap} {st : LoopState} {pe : Option Code} {n : Nat} (h : closedB n pre = true) (hE : Env.scB n E = true) : closedB n (rHeap c E ps assign body pre st pe) = true := by
  unfold rHeap
  rw [closedB_app, closedB_app, h]
  simp [closedB, HObj.scB, hE]
theorem heapIs_pre {n : Nat} : ∀ {T : Heap} (T2 : Heap), closedB n T = true → heapIs n (T ++ T2) T
  | [], T2, _ => by cases T2 <;> trivial
  | none :: _, _, h => by cases h
  | some o :: T, T2, h => by
    simp only [closedB, Bool.and_eq_true] at h
    exact ⟨⟨rfl, h.1⟩, heapIs_pre T2 h.2⟩

end Bow
/- W59: leaftext.Transform, whole. -/
namespace Bow
open Go Go.Proofs

end Bow
/- SP20: a bare operation does what it did, in plain Lean. -/
namespace Bow
open Go

theorem kinds (o : OpT) : o.kind = 1 ∨ o.kind = 2 ∨ o.kind = 3 ∨ o.kind = 4 ∨ o.kind = 5 ∨ o.kind = 6 ∨ (o.kind ≠ 1 ∧ o.kind ≠ 2 ∧ o.kind ≠ 3 ∧ o.kind ≠ 4 ∧ o.kind ≠ 5 ∧ o.kind ≠ 6) := by omega
end Bow
/- SP38: what edits behind each other put in; what becomes of operations costs no more than they. -/
namespace Bow
open Go

/-! ### Costs -/
end Bow
/- SP70: two edits one behind the other, in plain Lean; that it ends; bounds. -/
namespace Bow
open Go

end Bow
/- SP71: lists made with fewer operations (simplify), in plain Lean. -/
namespace Bow
open Go

/-! ### What it costs -/
end Bow
/- AE62: facts for regions that draw their order: a call that writes one own row; a call that is lent own memory; own slices cut. -/
namespace Bow
open Go

section
variable {c : Cx} {ops : Array Oper} {i : Nat} {o : Oper} {E : Env} {T : Heap} {gs : List Tmp}
/-- .. it leaves an own row. -/
theorem fact_lendMake {f : Operand} {args : Array Operand} {ts : Array TypeId} {g : FuncId} {first cap ws : List V} {p sz : Nat} {xs : List V} (s : Nat) (tc : List Nat) (hg : Guarded ops o E gs true) (ho : ops[i]? = some o)
    (hop : o.op = .call { callee := .value f, args := args, argTypes := ts }) (hf : opd E f = .fn (.func g) first cap) (hd : T[p]? = some (some (.vec 0 0 []))) (hfun : Fun c.P g [] ws (fun x T1 => ∃ g0, x = .osl (.loc 0) g0 0 xs.length ∧ T1 = [some (.vec g0 sz xs)]))
    (hz : ∀ T' : Heap, (∀ k ∈ tc, T'[k]? = T[k]?) → LtL T' s (first ++ args.toList.map (opd E) ++ cap) ws) (hp : V.pureL ws = true) (hx : V.apartL [s] xs = true) :
    Fact c ops i E T ⟨o.dst, gs ++ tmpsOf o.op.operands.toList, p :: tc, .osl (.loc p) 2 0 xs.length, [(p, some (.vec 2 sz xs))], some p⟩ := by
  refine fact_call_thenMake ho hg hop hf hd fun E' T' hl hT' => ?_
  refine call_lendF s hfun (hz T' fun k hk => hT' k (List.mem_cons_of_mem _ hk)) hp ?_ ?_
  · rintro x T1 ⟨g0, rfl, rfl⟩
    exact ⟨rfl, by simp only [rowsB, hx, Bool.and_self]⟩
  · rintro x T1 ⟨g0, rfl, rfl⟩
    rw [catC_eq]
    exact ⟨g0, rfl, rfl⟩
end
end Bow
/- W117: leaftext's rows that are only read; Norm; two edits one behind the other. -/
namespace Bow
open Go Go.Proofs

end Bow
/- AE57: a pointer to memory that is only read, held against nil. -/
namespace Bow
open Go

section
variable {c : Cx} {ops : Array Oper} {i : Nat} {o : Oper} {rest : List Nat} {k : List Item} {E : Env} {T : Heap}
end
end Bow
/- AE63: what a function leaves, laid otherwise: nil as an own row, a row that takes over another one's block; a cut in a guarded place. -/
namespace Bow
open Go

section
variable {c : Cx} {E : Env} {T : Heap} {ops : Array Oper} {i : Nat} {rest : List Nat} {k : List Item} {o : Oper}
end
end Bow
/- AE64: a call that is handed objects: what stands behind it, said at once. -/
namespace Bow
open Go

end Bow
/- AE65: facts for regions that draw their order: a call that is handed three objects. -/
namespace Bow
open Go

section
variable {c : Cx} {ops : Array Oper} {i : Nat} {o : Oper} {E : Env} {T : Heap} {gs : List Tmp}
end
end Bow
/- AE66: what is left over of integers, where a word ahead says no. -/
namespace Bow
open Go

end Bow
/- W118: leaftext.Compose. -/
namespace Bow
open Go Go.Proofs

end Bow
/- W60: two edits of one leaf; square.Behind and Both, whole. -/
namespace Bow
open Go Go.Proofs

end Bow
