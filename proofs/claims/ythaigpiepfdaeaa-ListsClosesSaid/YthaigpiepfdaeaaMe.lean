/- The library, part 5: W32, W33, W34, WB2, W35, W36, W37, W38, SP15, SP16, W39, SP17, W43a, W49, W50, W51, W52, W53, W54, W55, W56, W57, W58, W59, W60, SP20, W48, W61, W62, W63, W64. -/
import Derived.Test.YthaigpiepfdaeaaMd
import Derived.Test.YthaigpiepfdaeaaMc
import Derived.Lib.Bytealg
/- W32: the reference's put, drop, change, Without. -/
namespace Bow
open Go Go.Proofs

theorem row_ins (t x : Tree) (at_ : Int) : (t.subV.take (at_.toNat - Int.toNat 0 : Nat)).drop 0 ++ [nodeV x] ++ (t.subV.drop at_.toNat).take ((t.subV.length : Int).toNat - at_.toNat) = (t.subs.take at_.toNat ++ x :: t.subs.drop at_.toNat).map nodeV := by
  rw [subV_eq, List.take_of_length_le (l := List.drop _ _) (by simp)]
  simp
theorem row_del (t : Tree) (at_ : Int) (h0 : 0 ≤ at_) : (t.subV.take (at_.toNat - Int.toNat 0 : Nat)).drop 0 ++ (t.subV.drop (at_ + 1).toNat).take ((t.subV.length : Int).toNat - (at_ + 1).toNat) = (t.subs.take at_.toNat ++ t.subs.drop (at_.toNat + 1)).map nodeV := by
  have e : (at_ + 1).toNat = at_.toNat + 1 := by omega
  rw [subV_eq, List.take_of_length_le (l := List.drop _ _) (by simp), e]
  simp

set_option maxRecDepth 100000 in
theorem w_refputs (t x : Tree) (at_ : Int) (ht : t.weight ≤ 1000000) (h0 : 0 ≤ at_) (h1 : at_ ≤ t.subs.length) : Pure Try.prog 59 [nodeV t, .int .i64 at_, nodeV x] (fun r => r = nodeV (insT at_ x t)) := by
  have hsl := subs_le_weight t
  have hl : t.subV.length = t.subs.length := subV_len t
  refine pure_fn 300 Try.func59 rfl rfl rfl fun B => ?_
  refine ⟨by decide, h0, by rw [hl]; exact h1, room_of (by simp; omega) (by decide), ?_⟩
  refine ⟨⟨rfl, trivial⟩, ?_⟩
  refine ⟨rfl, rfl, rfl, rfl, room_of (by simp; omega) (by decide), ?_⟩
  refine ⟨h0, by rw [hl]; exact h1, Int.le_refl _, rfl, ?_, room_of (by simp; omega) (by decide), ?_⟩
  · simp
  refine ⟨trivial, rfl, rfl, rfl, by simp only [List.length_append], rfl, ?_⟩
  rw [insT, withSubs_V, ← row_ins]
  rfl

set_option maxRecDepth 100000 in
theorem w_refdrop (t : Tree) (at_ : Int) (ht : t.weight ≤ 1000000) (h0 : 0 ≤ at_) (h1 : at_ < t.subs.length) : Pure Try.prog 92 [nodeV t, .int .i64 at_] (fun r => r = nodeV (delT at_ t)) := by
  have hsl := subs_le_weight t
  have hl : t.subV.length = t.subs.length := subV_len t
  refine pure_fn 300 Try.func92 rfl rfl rfl fun B => ?_
  refine ⟨by decide, h0, by rw [hl]; omega, room_of (by simp; omega) (by decide), ?_⟩
  refine ⟨⟨by omega, by omega⟩, by omega, by rw [hl]; omega, Int.le_refl _, rfl, by simp, room_of (by simp; omega) (by decide), ?_⟩
  refine ⟨trivial, rfl, rfl, rfl, by simp [List.length_append], rfl, ?_⟩
  rw [delT, withSubs_V, ← row_del _ _ h0]
  rfl

set_option maxRecDepth 100000 in
theorem w_refchange (t x y : Tree) (p : List Int) (hp : p.length ≤ 1000000) (ht : t.weight ≤ 1000000) (hy : atT t p = some y) : Pure Try.prog 58 [nodeV t, pathV p, nodeV x] (fun r => r = nodeV (changeT (fun _ => x) t p)) := by
  refine pure_fn 300 Try.func58 rfl rfl rfl fun B => ?_
  show CallThen _ _ _ _ _ _
  refine call_pure (w_refPut x p t y hp ht hy) rfl ?_
  rintro z rfl
  exact ⟨trivial, rfl, rfl, rfl, rfl⟩

theorem change_const {F : Tree → Tree} {y : Tree} : ∀ {p : List Int} {t : Tree}, atT t p = some y → changeT (fun _ => F y) t p = changeT F t p
  | [], t, h => by
    rw [atT] at h
    injection h with h
    subst h
    rfl
  | i :: p, t, h => by
    rw [atT] at h
    cases hs : subT t i with
    | none => rw [hs] at h; cases h
    | some s =>
      rw [hs] at h
      rw [changeT, changeT, hs]
      simp only
      rw [change_const (p := p) h]

set_option maxRecDepth 100000 in
theorem w_refWithout (t x : Tree) (p : List Int) (hp : p.length ≤ 1000000) (hne : p ≠ []) (ht : t.weight ≤ 1000000) (hx : atT t p = some x) : Pure Try.prog 60 [nodeV t, pathV p] (fun r => r = nodeV (withoutT t p)) := by
  obtain ⟨y, y1, y2, y3, y4⟩ := at_parent hne hx
  have hlen : 0 < p.length := List.length_pos_iff.2 hne
  have hyw := atT_weight y1
  refine pure_fn 300 Try.func60 rfl rfl rfl fun B => ?_
  refine ⟨by constructor <;> simp <;> omega, by decide, by simp; omega, by simp; omega, ?_⟩
  have e : (List.take ((((p.map intV).length : Int) - 1).toNat - Int.toNat 0) (List.drop (Int.toNat 0) (p.map intV))) = p.dropLast.map intV := by
    rw [List.dropLast_eq_take, List.map_take]
    simp
  show CallThen _ _ _ _ _ _
  rw [e]
  refine call_pure (w_refAt t p.dropLast (by simp; omega)) rfl ?_
  rintro z rfl
  rw [y1]
  show Goes _ _ _ _
  have hg : (p.map intV)[(((p.map intV).length : Int) - 1).toNat]? = some (intV (lastP p)) := by
    have e1 : (((p.map intV).length : Int) - 1).toNat = p.length - 1 := by simp
    rw [e1, List.getElem?_map, ← List.getLast?_eq_getElem?, List.getLast?_eq_some_getLast hne, lastP_eq hne]
    rfl
  have hlast := lastP_eq hne
  refine goes_draw 300 ⟨⟨by simp; omega, by simp; omega⟩, by simp; omega, _, hg, _, w_refdrop y (lastP p) (by omega) (by omega) (by omega), rfl, _, w_refchange t (delT (lastP p) y) y p.dropLast (by simp; omega) ht y1, rfl, ?_⟩
  refine ⟨by kernel_rfl, ?_⟩
  refine ⟨trivial, rfl, rfl, rfl, ?_⟩
  rw [change_const (F := delT (lastP p)) y1]
  rfl
end Bow
/- W33: the reference's attr. -/
namespace Bow
open Go Go.Proofs

theorem withAttrs_V (t : Tree) (a : AttrL) : nodeV (t.withAttrs a) = .agg [.int .u64 t.id, .bool t.leaf, .str t.label, .sl 2 (a.map attrV), .str t.text, .sl 6 t.subV] := by
  cases t
  rfl
theorem attrs_le_weight (t : Tree) : t.attrs.length ≤ t.weight := by rw [weight_eq]; omega

set_option maxHeartbeats 1000000 in
set_option maxRecDepth 100000 in
theorem w_refattr (t : Tree) (o : OpT) (ht : t.weight ≤ 400000) : Pure Try.prog 62 [nodeV t, opV o] (fun r => r = nodeV (t.withAttrs (refA o o.gone t.attrs))) := by
  have hal := attrs_le_weight t
  refine pure_fn 300 Try.func62 rfl rfl rfl fun B => ?_
  show Goes _ _ _ _
  refine goes_own 5 2 rfl ?_
  refine goes_iter (ι := Nat × Bool × Nat × Nat × List V) (fun i => i.1 ≤ t.attrs.length ∧ ∃ acc : AttrL, i.2.2.2.2 = acc.map attrV ∧ i.2.2.2.1 = acc.length ∧ acc.length ≤ 2 * i.1 ∧ acc ++ refA o i.2.1 (t.attrs.drop i.1) = refA o o.gone t.attrs) (fun i => t.attrs.length - i.1)
    (fun i => [(7, .int .i64 i.1), (6, .bool i.2.1), (5, .osl (.loc 3) i.2.2.1 0 i.2.2.2.1), (2, .ptr (.loc 0) 0), (3, .ptr (.loc 1) 0), (4, .ptr (.loc 2) 0)])
    (fun i => [some (.box (nodeV t).cells), some (.box (opV o).cells), some (.box (zeroV .nilsl).cells), some (.vec i.2.2.1 2 i.2.2.2.2)]) (0, o.gone, 0, 0, []) 300 (fun _ => rfl) (fun _ => rfl) ⟨⟨Nat.zero_le _, [], rfl, rfl, Nat.le_refl _, rfl⟩, ?_, ?_⟩ ?_
  · exact ⟨⟨rfl, rfl⟩, ⟨rfl, rfl⟩, ⟨rfl, rfl⟩, ⟨rfl, rfl⟩, ⟨rfl, rfl⟩, ⟨rfl, rfl⟩, trivial⟩
  · exact ⟨⟨rfl, rfl⟩, ⟨rfl, rfl⟩, ⟨rfl, rfl⟩, ⟨rfl, rfl⟩, trivial⟩
  rintro ⟨i, d, g, n, xs⟩ ⟨k1, acc, rfl, rfl, k2, k3⟩ next
  simp only at k1 k2 k3
  refine ⟨fun hlt => go 300 ?_, fun hge => go 300 ?_⟩
  · have hi : i < t.attrs.length := by simpa using hlt
    have hx : (t.attrs.map attrV)[i]? = some (attrV t.attrs[i]) := by simp [hi]
    rw [drop_cons hi, refA] at k3
    show Goes _ _ _ _
    refine goes_draw 300 ⟨fun q1 => ⟨Int.natCast_nonneg i, _, hx, ?_⟩, fun q1 => ?_⟩
    all_goals refine ⟨by kernel_rfl, ?_⟩
    · have hd : d = false := by simpa using q1
      subst hd
      refine ⟨fun q2 => go 300 ?_, fun q2 => go 300 ?_⟩
      · have hl : Op.bytesLess t.attrs[i].1 o.key = false := by simpa using q2
        rw [hl] at k3
        refine ⟨⟨rfl, trivial⟩, rfl, rfl, rfl, (by simp), room_of (by simp; omega) (by decide), ?_⟩
        show Goes _ _ _ _
        refine goes_draw 300 ⟨Int.natCast_nonneg i, _, hx, ?_⟩
        refine ⟨by kernel_rfl, ?_⟩
        refine ⟨fun q3 => go 300 ?_, fun q3 => go 300 ?_⟩
        · have he : decide (t.attrs[i].1 = o.key) = false := by simpa using q3
          rw [he] at k3
          refine ⟨Int.natCast_nonneg i, _, hx, ⟨rfl, trivial⟩, rfl, rfl, rfl, (by simp), room_of (by simp; omega) (by decide), ?_⟩
          refine ⟨by constructor <;> omega, ?_⟩
          show Goes _ _ _ _
          refine goes_wkSlot 6 (v := .tt) (v' := .bool true) rfl rfl rfl Wk.tt ?_
          refine next (i + 1, true, _, _, _) _ _ ⟨⟨hi, acc ++ [(o.key, o.value)] ++ [t.attrs[i]], ?_, ?_, ?_, ?_⟩, ?_, ⟨⟨rfl, rfl⟩, ⟨rfl, rfl⟩, ⟨rfl, rfl⟩, ⟨rfl, rfl⟩, ⟨rfl, rfl⟩, ⟨rfl, rfl⟩, trivial⟩, ⟨⟨rfl, rfl⟩, ⟨rfl, rfl⟩, ⟨rfl, rfl⟩, ⟨rfl, rfl⟩, trivial⟩⟩
          · simp [attrV]
          · simp
          · simp; omega
          · simpa using k3
          · simp only; omega
        · have he : decide (t.attrs[i].1 = o.key) = true := by simpa using q3
          rw [he] at k3
          refine ⟨by constructor <;> omega, ?_⟩
          show Goes _ _ _ _
          refine goes_wkSlot 6 (v := .tt) (v' := .bool true) rfl rfl rfl Wk.tt ?_
          refine next (i + 1, true, _, _, _) _ _ ⟨⟨hi, acc ++ [(o.key, o.value)], ?_, ?_, ?_, ?_⟩, ?_, ⟨⟨rfl, rfl⟩, ⟨rfl, rfl⟩, ⟨rfl, rfl⟩, ⟨rfl, rfl⟩, ⟨rfl, rfl⟩, ⟨rfl, rfl⟩, trivial⟩, ⟨⟨rfl, rfl⟩, ⟨rfl, rfl⟩, ⟨rfl, rfl⟩, ⟨rfl, rfl⟩, trivial⟩⟩
          · simp [attrV]
          · simp
          · simp; omega
          · simpa using k3
          · simp only; omega
      · have hl : Op.bytesLess t.attrs[i].1 o.key = true := by simpa using q2
        rw [hl] at k3
        show Goes _ _ _ _
        refine goes_draw 300 ⟨Int.natCast_nonneg i, _, hx, ?_⟩
        refine ⟨by kernel_rfl, ?_⟩
        refine ⟨fun q3 => go 300 ?_, fun q3 => go 300 ?_⟩
        · have he : decide (t.attrs[i].1 = o.key) = false := by simpa using q3
          rw [he] at k3
          refine ⟨Int.natCast_nonneg i, _, hx, ⟨rfl, trivial⟩, rfl, rfl, rfl, (by simp), room_of (by simp; omega) (by decide), ?_⟩
          refine ⟨by constructor <;> omega, ?_⟩
          show Goes _ _ _ _
          refine next (i + 1, false, bump g, (acc.map attrV).length + 1, acc.map attrV ++ [attrV t.attrs[i]]) _ _ ⟨⟨hi, acc ++ [t.attrs[i]], ?_, ?_, ?_, ?_⟩, ?_, ⟨⟨rfl, rfl⟩, ⟨rfl, rfl⟩, ⟨rfl, rfl⟩, ⟨rfl, rfl⟩, ⟨rfl, rfl⟩, ⟨rfl, rfl⟩, trivial⟩, ⟨⟨rfl, rfl⟩, ⟨rfl, rfl⟩, ⟨rfl, rfl⟩, ⟨rfl, rfl⟩, trivial⟩⟩
          · simp [attrV]
          · simp
          · simp; omega
          · simpa using k3
          · simp only; omega
        · have he : decide (t.attrs[i].1 = o.key) = true := by simpa using q3
          rw [he] at k3
          refine ⟨by constructor <;> omega, ?_⟩
          show Goes _ _ _ _
          refine next (i + 1, false, _, _, _) _ _ ⟨⟨hi, acc, ?_, ?_, ?_, ?_⟩, ?_, ⟨⟨rfl, rfl⟩, ⟨rfl, rfl⟩, ⟨rfl, rfl⟩, ⟨rfl, rfl⟩, ⟨rfl, rfl⟩, ⟨rfl, rfl⟩, trivial⟩, ⟨⟨rfl, rfl⟩, ⟨rfl, rfl⟩, ⟨rfl, rfl⟩, ⟨rfl, rfl⟩, trivial⟩⟩
          · simp
          · simp
          · simp; omega
          · simpa using k3
          · simp only; omega
    · have hd : d = true := by simpa using q1
      subst hd
      show Goes _ _ _ _
      refine goes_draw 300 ⟨Int.natCast_nonneg i, _, hx, ?_⟩
      refine ⟨by kernel_rfl, ?_⟩
      refine ⟨fun q3 => go 300 ?_, fun q3 => go 300 ?_⟩
      · have he : decide (t.attrs[i].1 = o.key) = false := by simpa using q3
        rw [he] at k3
        refine ⟨Int.natCast_nonneg i, _, hx, ⟨rfl, trivial⟩, rfl, rfl, rfl, (by simp), room_of (by simp; omega) (by decide), ?_⟩
        refine ⟨by constructor <;> omega, ?_⟩
        show Goes _ _ _ _
        refine next (i + 1, true, bump g, (acc.map attrV).length + 1, acc.map attrV ++ [attrV t.attrs[i]]) _ _ ⟨⟨hi, acc ++ [t.attrs[i]], ?_, ?_, ?_, ?_⟩, ?_, ⟨⟨rfl, rfl⟩, ⟨rfl, rfl⟩, ⟨rfl, rfl⟩, ⟨rfl, rfl⟩, ⟨rfl, rfl⟩, ⟨rfl, rfl⟩, trivial⟩, ⟨⟨rfl, rfl⟩, ⟨rfl, rfl⟩, ⟨rfl, rfl⟩, ⟨rfl, rfl⟩, trivial⟩⟩
        · simp [attrV]
        · simp
        · simp; omega
        · simpa using k3
        · simp only; omega
      · have he : decide (t.attrs[i].1 = o.key) = true := by simpa using q3
        rw [he] at k3
        refine ⟨by constructor <;> omega, ?_⟩
        show Goes _ _ _ _
        refine next (i + 1, true, _, _, _) _ _ ⟨⟨hi, acc, ?_, ?_, ?_, ?_⟩, ?_, ⟨⟨rfl, rfl⟩, ⟨rfl, rfl⟩, ⟨rfl, rfl⟩, ⟨rfl, rfl⟩, ⟨rfl, rfl⟩, ⟨rfl, rfl⟩, trivial⟩, ⟨⟨rfl, rfl⟩, ⟨rfl, rfl⟩, ⟨rfl, rfl⟩, ⟨rfl, rfl⟩, trivial⟩⟩
        · simp
        · simp
        · simp; omega
        · simpa using k3
        · simp only; omega
  · have hi : i = t.attrs.length := by have : t.attrs.length ≤ i := by simpa using hge
                                       omega
    subst hi
    rw [List.drop_length, refA] at k3
    refine ⟨fun q1 => go 300 ?_, fun q1 => go 300 ?_⟩
    · have hd : d = false := by simpa using q1
      subst hd
      refine ⟨⟨rfl, trivial⟩, rfl, rfl, rfl, (by simp), room_of (by simp; omega) (by decide), ?_⟩
      refine ⟨trivial, rfl, rfl, rfl, (by simp), rfl, ?_⟩
      rw [withAttrs_V, ← k3]
      simp [attrV]
    · have hd : d = true := by simpa using q1
      subst hd
      refine ⟨trivial, rfl, rfl, rfl, (by simp), rfl, ?_⟩
      rw [withAttrs_V, ← k3]
      simp
end Bow
/- W34: the reference's move. -/
namespace Bow
open Go Go.Proofs

theorem pure_sl_cast {P : Program} {f : FuncId} {a : V} {sz : Nat} {q q' : List V} {Q : V → Prop} (h : Pure P f [a, .sl sz q'] Q) (e : q = q') : Pure P f [a, .sl sz q] Q := e ▸ h

set_option maxHeartbeats 1000000 in
set_option maxRecDepth 100000 in
theorem w_refmove (t x z : Tree) (o : OpT) (ht : t.weight ≤ 400000) (ho : o.Ok) (hfr : ∀ i ∈ o.path, inI (i + 1)) (hne : o.path ≠ []) (hx : atT t o.path = some x) (hw : within o.path o.to = false) (hz : atT t o.to = some z) (h0 : 0 ≤ o.at_) (h1 : o.at_ ≤ z.subs.length) :
    Pure Try.prog 61 [nodeV t, opV o] (fun r => r = nodeV (moveT x t o)) := by
  have hp := ho.lt.path
  have hpt := ho.lt.to
  have hxw := atT_weight hx
  have hzw := atT_weight hz
  have hmw := change_weight_add (F := insT o.at_ x) (n := x.weight) (ins_weight o.at_ x) o.to t
  obtain ⟨s', hs'⟩ := lift_at h0 x o.path o.to t x z hne hx hw hz h1
  have law := move_law h0 x o.path o.to t x z hne hx hw hz h1
  refine pure_fn 300 Try.func61 rfl rfl rfl fun B => ?_
  show CallThen _ _ _ _ _ _
  refine call_pure (w_refAt t o.path hp) rfl ?_
  rintro _ rfl
  rw [hx]
  show CallThen _ _ _ _ _ _
  refine call_pure (w_refAt t o.to hpt) rfl ?_
  rintro _ rfl
  rw [hz]
  show Goes _ _ _ _
  refine goes_draw 300 ⟨_, w_refputs z x o.at_ (by omega) h0 h1, rfl, _, w_refchange t (insT o.at_ x z) z o.to hpt (by omega) hz, rfl, ?_⟩
  rw [change_const (F := insT o.at_ x) hz]
  refine ⟨by kernel_rfl, ?_⟩
  refine ⟨by kernel_rfl, ?_⟩
  show CallThen _ _ _ _ _ _
  refine call_sub [] (w_CopiedQ (o.path.map intV) (by simpa using hp)) rfl rfl trivial rfl rfl rfl ?_
  rintro r T1 ⟨rfl, rfl⟩
  refine ⟨rfl, ?_⟩
  show Goes _ _ _ _
  have hwith := w_refWithin o.to o.path hpt
  have hm : (changeT (insT o.at_ x) t o.to).weight ≤ 1000000 := by omega
  have hwo : Pure Try.prog 60 [nodeV (changeT (insT o.at_ x) t o.to), pathV (liftP o.to o.at_ o.path)] (fun r => r = nodeV (moveT x t o)) := by
    have := w_refWithout (changeT (insT o.at_ x) t o.to) s' (liftP o.to o.at_ o.path) (by rw [lift_len]; exact hp) (fun e => hne (List.length_eq_zero_iff.1 (by rw [← lift_len o.to o.at_ o.path, e]; rfl))) hm hs'
    rw [law] at this
    exact this
  have hsame : (decide (o.to.length < o.path.length) && (within o.to o.path && decide (o.at_ ≤ o.path.getD o.to.length 0))) = false → liftP o.to o.at_ o.path = o.path := fun h => by unfold liftP; rw [h]; rfl
  refine goes_draw 300 ⟨rfl, fun q1 => ⟨rfl, rfl, _, hwith, rfl, ⟨fun q2 => ?_, fun q2 => ?_⟩⟩, fun q1 => ?_⟩
  · have hd : o.to.length < o.path.length := by have := lt_of q1; simp at this; omega
    have hg : (o.path.map intV)[0 + (((o.to.map intV).length : Nat) : Int).toNat]? = some (intV o.path[o.to.length]) := by simp [hd]
    have hgd : o.path.getD o.to.length 0 = o.path[o.to.length] := by simp [List.getD_eq_getElem?_getD, hd]
    have hb0 : (0 : Int) ≤ ((o.to.map intV).length : Nat) := Int.natCast_nonneg _
    have hb1 : (((o.to.map intV).length : Nat) : Int) < ((o.path.map intV).length : Nat) := by simp; omega
    refine ⟨rfl, hb0, hb1, rfl, _, hg, ?_⟩
    refine ⟨by kernel_rfl, ?_⟩
    refine ⟨fun q3 => go 300 ?_, fun q3 => go 300 ?_⟩
    · have hin := hfr _ (List.getElem_mem hd)
      refine ⟨rfl, hb0, hb1, rfl, _, hg, hin, rfl, hb0, hb1, rfl, _, hg, ?_⟩
      show CallThen _ _ _ _ _ _
      refine call_pure_frz ?_
      refine ⟨rfl, by simp, fun r => r = nodeV (moveT x t o), ?_, rfl, ?_⟩
      · refine pure_sl_cast (q' := (liftP o.to o.at_ o.path).map intV) hwo ?_
        have e : liftP o.to o.at_ o.path = o.path.set o.to.length (o.path[o.to.length] + 1) := by
          unfold liftP
          have q2 : within o.to o.path = true := by simpa using q2
          have q3 : o.at_ ≤ o.path[o.to.length] := le_of q3
          rw [hgd, decide_eq_true hd, q2, decide_eq_true q3]
          rfl
        rw [e, List.map_set]
        simp
        rfl
      · rintro r rfl
        exact ⟨trivial, rfl, rfl, rfl, rfl⟩
    · have e := hsame (by
        have q3 := not_le_of q3
        rw [hgd, decide_eq_false (by omega : ¬ o.at_ ≤ o.path[o.to.length])]
        simp)
      rw [e] at hwo
      show CallThen _ _ _ _ _ _
      refine call_pure_frz ?_
      refine ⟨rfl, rfl, fun r => r = nodeV (moveT x t o), hwo, rfl, ?_⟩
      rintro r rfl
      exact ⟨trivial, rfl, rfl, rfl, rfl⟩
  · have e := hsame (by
      have q2 : within o.to o.path = false := by simpa using q2
      rw [q2]
      simp)
    rw [e] at hwo
    refine ⟨by kernel_rfl, ?_⟩
    show CallThen _ _ _ _ _ _
    refine call_pure_frz ?_
    refine ⟨rfl, rfl, fun r => r = nodeV (moveT x t o), hwo, rfl, ?_⟩
    rintro r rfl
    exact ⟨trivial, rfl, rfl, rfl, rfl⟩
  · have e := hsame (by
      have q1 : ¬ o.to.length < o.path.length := by have := not_lt_of q1; simp at this; omega
      rw [decide_eq_false q1]
      rfl)
    rw [e] at hwo
    refine ⟨by kernel_rfl, ?_⟩
    show CallThen _ _ _ _ _ _
    refine call_pure_frz ?_
    refine ⟨rfl, rfl, fun r => r = nodeV (moveT x t o), hwo, rfl, ?_⟩
    rintro r rfl
    exact ⟨trivial, rfl, rfl, rfl, rfl⟩
end Bow
/- WB2: strings.Compare at this program: by the kit's own tactics. -/
namespace Bow
open Go Go.Proofs Go.RowKit Go.Shelf

end Bow
/- W35: the program's search for an attribute. -/
namespace Bow
open Go Go.Proofs

end Bow
/- W36: the program's setAttr. -/
namespace Bow
open Go Go.Proofs

end Bow
/- W37: the program's apply, Apply. -/
namespace Bow
open Go Go.Proofs

end Bow
/- W38: the reference's Apply. -/
namespace Bow
open Go Go.Proofs

set_option maxRecDepth 100000 in
theorem w_refApply_bad (t : Tree) (o : OpT) (ht : t.weight ≤ 1000000) (ho : o.Ok) (h : ValidE t o ≠ 0) : Pure Try.prog 34 [nodeV t, opV o] (fun x => x = ApplyV (zeroT [], ValidE t o)) := by
  refine pure_wk (pure_fn 300 Try.func34 rfl rfl rfl fun B => ?_)
  show CallThen _ _ _ _ _ _
  refine call_pure (w_refValid t o ht ho) rfl ?_
  rintro x rfl
  refine ⟨fun g1 => go 300 ?_, fun g1 => absurd (eq_of' g1) h⟩
  exact ⟨trivial, rfl, rfl, rfl, ApplyV (zeroT [], ValidE t o), Wk.tup ⟨wk_zero (ss := []) (Wk.nil 6), .refl _, trivial⟩, rfl, rfl⟩

set_option maxHeartbeats 1000000 in
set_option maxRecDepth 100000 in
theorem w_refApply_ok (t : Tree) (o : OpT) (ht : t.weight ≤ 400000) (ho : o.Ok) (h : ValidE t o = 0) : Pure Try.prog 34 [nodeV t, opV o] (fun x => x = ApplyV (applyT t o, 0)) := by
  obtain ⟨hr, hf, _⟩ := valid_right h
  have hra : t.rightA = true := by
    unfold rightT at hr
    rw [Bool.and_eq_true] at hr
    exact hr.2
  have hp := ho.lt.path
  have hpi := may_step (formed_path hf)
  refine pure_fn 300 Try.func34 rfl rfl rfl fun B => ?_
  show CallThen _ _ _ _ _ _
  refine call_pure (w_refValid t o (by omega) ho) rfl ?_
  rintro x rfl
  refine ⟨fun g1 => absurd h (ne_of' g1), fun g1 => go 300 ?_⟩
  show CallThen _ _ _ _ _ _
  refine call_pure (w_refAt t o.path hp) rfl ?_
  rintro _ rfl
  cases good_of h with
  | ins y hk hy hl h0 h1 h2 =>
    have e : applyT t o = changeT (insT o.at_ (freshT o)) t o.path := by unfold applyT; rw [hk]; rfl
    have hyw := atT_weight hy
    rw [hy]
    refine ⟨fun g1 => go 300 ?_, fun g1 => absurd hk (ne_of g1)⟩
    show Goes _ _ _ _
    have hput := pure_args (args := [nodeV y, .int .i64 o.at_, .agg [.int .u64 o.id, .bool o.leaf, .str o.label, .nilsl, .str [], .nilsl]]) (w_refputs y (freshT o) o.at_ (by omega) h0 h1) ⟨.refl _, .refl _, wk_fresh o, trivial⟩ rfl rfl
    refine goes_draw 300 ⟨_, hput, rfl, _, w_refchange t (insT o.at_ (freshT o) y) y o.path hp (by omega) hy, rfl, ?_⟩
    refine ⟨by kernel_rfl, ?_⟩
    refine ⟨trivial, rfl, rfl, rfl, ?_⟩
    rw [change_const (F := insT o.at_ (freshT o)) hy, e]
    rfl
  | del x hk hne hx =>
    have e : applyT t o = withoutT t o.path := by unfold applyT; rw [hk]; rfl
    rw [hx]
    refine ⟨fun g1 => absurd (hk.symm.trans (eq_of g1)) (by decide), fun g1 => go 300 ?_⟩
    refine ⟨fun g1 => go 300 ?_, fun g1 => absurd hk (ne_of g1)⟩
    show CallThen _ _ _ _ _ _
    refine call_pure (w_refWithout t x o.path hp hne (by omega) hx) rfl ?_
    rintro z rfl
    exact ⟨trivial, rfl, rfl, rfl, by rw [e]; rfl⟩
  | mov x z hk hne hx hw hz hl h0 h1 =>
    have e : applyT t o = moveT x t o := by unfold applyT; rw [hk, hx]; rfl
    rw [hx]
    refine ⟨fun g1 => absurd (hk.symm.trans (eq_of g1)) (by decide), fun g1 => go 300 ?_⟩
    refine ⟨fun g1 => absurd (hk.symm.trans (eq_of g1)) (by decide), fun g1 => go 300 ?_⟩
    refine ⟨fun g1 => go 300 ?_, fun g1 => absurd hk (ne_of g1)⟩
    show CallThen _ _ _ _ _ _
    refine call_pure (w_refmove t x z o ht ho (fun i hi => by have := hpi i hi; constructor <;> omega) hne hx hw hz h0 h1) rfl ?_
    rintro r rfl
    exact ⟨trivial, rfl, rfl, rfl, by rw [e]; rfl⟩
  | att y hk hy h1 h2 =>
    have e : applyT t o = changeT (setAT o) t o.path := by unfold applyT; rw [hk]; rfl
    have hyw := atT_weight hy
    have ea : y.withAttrs (refA o o.gone y.attrs) = setAT o y := by rw [attr_law o (right_attrs (right_at hra hy))]; rfl
    rw [hy]
    refine ⟨fun g1 => absurd (hk.symm.trans (eq_of g1)) (by decide), fun g1 => go 300 ?_⟩
    refine ⟨fun g1 => absurd (hk.symm.trans (eq_of g1)) (by decide), fun g1 => go 300 ?_⟩
    refine ⟨fun g1 => absurd (hk.symm.trans (eq_of g1)) (by decide), fun g1 => go 300 ?_⟩
    refine ⟨fun g1 => go 300 ?_, fun g1 => absurd hk (ne_of g1)⟩
    show Goes _ _ _ _
    have hat := w_refattr y o (by omega)
    rw [ea] at hat
    refine goes_draw 300 ⟨_, hat, rfl, _, w_refchange t (setAT o y) y o.path hp (by omega) hy, rfl, ?_⟩
    refine ⟨by kernel_rfl, ?_⟩
    refine ⟨trivial, rfl, rfl, rfl, ?_⟩
    rw [change_const (F := setAT o) hy, e]
    rfl
  | lab y hk hy h2 =>
    have e : applyT t o = changeT (relabelT o.label) t o.path := by unfold applyT; rw [hk]; rfl
    rw [hy]
    refine ⟨fun g1 => absurd (hk.symm.trans (eq_of g1)) (by decide), fun g1 => go 300 ?_⟩
    refine ⟨fun g1 => absurd (hk.symm.trans (eq_of g1)) (by decide), fun g1 => go 300 ?_⟩
    refine ⟨fun g1 => absurd (hk.symm.trans (eq_of g1)) (by decide), fun g1 => go 300 ?_⟩
    refine ⟨fun g1 => absurd (hk.symm.trans (eq_of g1)) (by decide), fun g1 => go 300 ?_⟩
    refine ⟨fun g1 => go 300 ?_, fun g1 => absurd hk (ne_of g1)⟩
    show CallThen _ _ _ _ _ _
    cases y with
    | mk i lf b a c ss =>
    refine call_pure (w_refchange t (relabelT o.label (.mk i lf b a c ss)) (.mk i lf b a c ss) o.path hp (by omega) hy) rfl ?_
    rintro r rfl
    refine ⟨trivial, rfl, rfl, rfl, ?_⟩
    rw [change_const (F := relabelT o.label) hy, e]
    rfl
  | edt y hk hy hl he =>
    have e : applyT t o = changeT (retextT o.pieces) t o.path := by unfold applyT; rw [hk]; rfl
    have hyw := atT_weight hy
    have htw := text_le_weight y
    rw [hy]
    refine ⟨fun g1 => absurd (hk.symm.trans (eq_of g1)) (by decide), fun g1 => go 300 ?_⟩
    refine ⟨fun g1 => absurd (hk.symm.trans (eq_of g1)) (by decide), fun g1 => go 300 ?_⟩
    refine ⟨fun g1 => absurd (hk.symm.trans (eq_of g1)) (by decide), fun g1 => go 300 ?_⟩
    refine ⟨fun g1 => absurd (hk.symm.trans (eq_of g1)) (by decide), fun g1 => go 300 ?_⟩
    refine ⟨fun g1 => absurd (hk.symm.trans (eq_of g1)) (by decide), fun g1 => go 300 ?_⟩
    show CallThen _ _ _ _ _ _
    refine call_pure (w_refEdit y.text o.pieces (by omega) ho.lt.pieces ho.each) rfl ?_
    rintro r rfl
    show CallThen _ _ _ _ _ _
    cases y with
    | mk i lf b a c ss =>
    refine call_pure (w_refchange t (retextT o.pieces (.mk i lf b a c ss)) (.mk i lf b a c ss) o.path hp (by omega) hy) rfl ?_
    rintro r rfl
    refine ⟨trivial, rfl, rfl, rfl, ?_⟩
    rw [change_const (F := retextT o.pieces) hy, e]
    rfl

theorem w_refApply (t : Tree) (o : OpT) (ht : t.weight ≤ 400000) (ho : o.Ok) : Pure Try.prog 34 [nodeV t, opV o] (fun x => x = ApplyV (applyR t o)) := by
  by_cases h : ValidE t o = 0
  · have e : applyR t o = (applyT t o, 0) := by unfold applyR; rw [decide_eq_true h]; rfl
    rw [e]
    exact w_refApply_ok t o ht ho h
  · have e : applyR t o = (zeroT [], ValidE t o) := by unfold applyR; rw [decide_eq_false h]; rfl
    rw [e]
    exact w_refApply_bad t o (by omega) ho h
end Bow
/- SP15: a tree that was right stays right, in plain Lean. -/
namespace Bow
open Go

theorem rightN_iff (t : Tree) : rightN t = true ↔ t.label.length ≤ 64 ∧ (t.leaf = true → t.subs = []) ∧ (t.leaf = false → t.text = []) ∧ attrsOk none t.attrs = true := by
  unfold rightN headOk
  constructor
  · intro h
    rw [Bool.and_eq_true, Bool.and_eq_true, Bool.and_eq_true] at h
    obtain ⟨⟨h1, h2, h3⟩, h4⟩ := h
    refine ⟨by simp at h1; omega, fun hl => ?_, fun hl => ?_, h4⟩
    · rw [hl] at h2
      cases hs : t.subs with
      | nil => rfl
      | cons a l => rw [hs] at h2; simp at h2
    · rw [hl] at h3
      simpa using h3
  · rintro ⟨h1, h2, h3, h4⟩
    rw [h4, decide_eq_false (by omega : ¬ (64 : Int) < t.label.length)]
    cases hl : t.leaf with
    | false => rw [h3 hl]; simp
    | true => rw [h2 hl]; simp
theorem rightN_subs (t : Tree) (ss : List Tree) (h : rightN t = true) (hl : t.leaf = true → ss = []) : rightN (t.withSubs ss) = true := by
  obtain ⟨h1, h2, h3, h4⟩ := (rightN_iff t).1 h
  refine (rightN_iff _).2 ?_
  obtain ⟨i, lf, b, a, c, us⟩ := t
  exact ⟨h1, hl, h3, h4⟩
theorem rightN_leaf {t : Tree} (h : rightN t = true) (hl : t.leaf = true) : t.subs = [] := ((rightN_iff t).1 h).2.1 hl
theorem rightA_N {t : Tree} (h : t.rightA = true) : rightN t = true := by
  rw [rightA_eq, Bool.and_eq_true] at h
  exact h.1
theorem rightA_subs {t : Tree} (h : t.rightA = true) : ∀ s ∈ t.subs, s.rightA = true := by
  rw [rightA_eq, Bool.and_eq_true, rightsA_all] at h
  exact List.all_eq_true.1 h.2
theorem rightA_mk {t : Tree} (h1 : rightN t = true) (h2 : ∀ s ∈ t.subs, s.rightA = true) : t.rightA = true := by
  rw [rightA_eq, h1, rightsA_all, Bool.true_and]
  exact List.all_eq_true.2 h2
theorem change_rightA {F : Tree → Tree} {y : Tree} : ∀ {p : List Int} {t : Tree}, t.rightA = true → atT t p = some y → (F y).rightA = true → (changeT F t p).rightA = true
  | [], t, _, h, hF => by
    rw [atT] at h
    injection h with h
    subst h
    exact hF
  | i :: p, t, ht, h, hF => by
    rw [atT] at h
    cases hs : subT t i with
    | none => rw [hs] at h; cases h
    | some s =>
      rw [hs] at h
      obtain ⟨h1, h2, h3⟩ := subT_some hs
      have ih := change_rightA (F := F) (p := p) (rightA_subs ht s h3) h hF
      rw [changeT, hs]
      simp only
      refine rightA_mk (rightN_subs t _ (rightA_N ht) fun hl => ?_) fun u hu => ?_
      · rw [rightN_leaf (rightA_N ht) hl] at h3
        cases h3
      · rw [withSubs_subs] at hu
        rcases List.mem_or_eq_of_mem_set hu with hu | rfl
        · exact rightA_subs ht u hu
        · exact ih
theorem ins_rightA (n : Int) {x y : Tree} (hy : y.rightA = true) (hl : y.leaf = false) (hx : x.rightA = true) : (insT n x y).rightA = true := by
  refine rightA_mk (rightN_subs y _ (rightA_N hy) fun h => by rw [hl] at h; cases h) fun u hu => ?_
  unfold insT at hu
  rw [withSubs_subs] at hu
  rcases List.mem_append.1 hu with hu | hu
  · exact rightA_subs hy u (List.mem_of_mem_take hu)
  · rcases List.mem_cons.1 hu with rfl | hu
    · exact hx
    · exact rightA_subs hy u (List.mem_of_mem_drop hu)
theorem del_rightA (n : Int) {y : Tree} (hy : y.rightA = true) : (delT n y).rightA = true := by
  refine rightA_mk (rightN_subs y _ (rightA_N hy) fun h => by rw [rightN_leaf (rightA_N hy) h]; simp) fun u hu => ?_
  unfold delT at hu
  rw [withSubs_subs] at hu
  rcases List.mem_append.1 hu with hu | hu
  · exact rightA_subs hy u (List.mem_of_mem_take hu)
  · exact rightA_subs hy u (List.mem_of_mem_drop hu)
theorem less_ord {k s : List UInt8} (h : Op.bytesLess k s = true) : ordOk (some k) s = true := by
  show (!leS s k) = true
  unfold leS
  rw [less_asymm h, decide_eq_false fun e => less_ne h e.symm]
  rfl
theorem ord_trans {k0 : Option (List UInt8)} {k s : List UInt8} (h1 : ordOk k0 k = true) (h2 : Op.bytesLess k s = true) : ordOk k0 s = true := by
  cases k0 with
  | none => rfl
  | some q => exact less_ord (less_trans (ordOk_less h1) h2)
theorem attrOk_mk {k0 : Option (List UInt8)} {a : List UInt8 × List UInt8} (h1 : keyOk a.1 = true) (h2 : a.2.length ≤ 256) (h3 : ordOk k0 a.1 = true) : attrOk k0 a = true := by
  unfold attrOk
  rw [h1, h3, decide_eq_true (by omega)]
  rfl
theorem attrOk_parts {k0 : Option (List UInt8)} {a : List UInt8 × List UInt8} (h : attrOk k0 a = true) : keyOk a.1 = true ∧ a.2.length ≤ 256 ∧ ordOk k0 a.1 = true := by
  unfold attrOk at h
  simp only [Bool.and_eq_true, decide_eq_true_eq] at h
  exact ⟨h.1, by omega, h.2.2⟩
theorem attrsOk_weak {k0 : Option (List UInt8)} {k : List UInt8} (h : ordOk k0 k = true) : ∀ {l : AttrL}, attrsOk (some k) l = true → attrsOk k0 l = true
  | [], _ => rfl
  | a :: l, hl => by
    rw [attrsOk, Bool.and_eq_true] at hl ⊢
    obtain ⟨h1, h2, h3⟩ := attrOk_parts hl.1
    exact ⟨attrOk_mk h1 h2 (ord_trans h (ordOk_less h3)), hl.2⟩
theorem refA_true_ok (o : OpT) : ∀ {l : AttrL} {k0 : Option (List UInt8)}, attrsOk k0 l = true → attrsOk k0 (refA o true l) = true
  | [], _, _ => rfl
  | a :: l, k0, h => by
    have ih := refA_true_ok o (attrsOk_tail h)
    rw [attrsOk, Bool.and_eq_true] at h
    obtain ⟨h1, h2, h3⟩ := attrOk_parts h.1
    rw [refA]
    simp only [Bool.not_true, Bool.false_and, cond_false, List.nil_append, Bool.true_or]
    cases decide (a.1 = o.key) with
    | true => exact attrsOk_weak h3 ih
    | false =>
      show attrsOk k0 (a :: refA o true l) = true
      rw [attrsOk, h.1, ih]
      rfl
theorem refA_false_ok (o : OpT) (hk : keyOk o.key = true) (hv : o.value.length ≤ 256) : ∀ {l : AttrL} {k0 : Option (List UInt8)}, attrsOk k0 l = true → ordOk k0 o.key = true → attrsOk k0 (refA o false l) = true
  | [], k0, _, ho => by
    show attrsOk k0 [(o.key, o.value)] = true
    rw [attrsOk, attrOk_mk hk hv ho]
    rfl
  | a :: l, k0, h, ho => by
    have ht := attrsOk_tail h
    rw [attrsOk, Bool.and_eq_true] at h
    obtain ⟨h1, h2, h3⟩ := attrOk_parts h.1
    rw [refA]
    cases ha : Op.bytesLess a.1 o.key with
    | true =>
      rw [decide_eq_false (less_ne ha)]
      show attrsOk k0 (a :: refA o false l) = true
      rw [attrsOk, h.1, refA_false_ok o hk hv ht (less_ord ha)]
      rfl
    | false =>
      by_cases he : a.1 = o.key
      · rw [decide_eq_true he]
        show attrsOk k0 ((o.key, o.value) :: refA o true l) = true
        rw [attrsOk, attrOk_mk hk hv ho]
        show attrsOk (some o.key) (refA o true l) = true
        rw [← he]
        exact refA_true_ok o ht
      · rw [decide_eq_false he]
        show attrsOk k0 ((o.key, o.value) :: a :: refA o true l) = true
        have hka : Op.bytesLess o.key a.1 = true := by
          cases hk' : Op.bytesLess o.key a.1 with
          | true => rfl
          | false => exact absurd (less_tri ha hk') he
        rw [attrsOk, attrOk_mk hk hv ho, attrsOk, attrOk_mk h1 h2 (less_ord hka)]
        exact refA_true_ok o ht
theorem withAttrs_rightA {y : Tree} {a : AttrL} (hy : y.rightA = true) (ha : attrsOk none a = true) : (y.withAttrs a).rightA = true := by
  have h1 := rightA_N hy
  have h2 := rightA_subs hy
  obtain ⟨q1, q2, q3, q4⟩ := (rightN_iff y).1 h1
  obtain ⟨i, lf, b, a', c, us⟩ := y
  exact rightA_mk ((rightN_iff _).2 ⟨q1, q2, q3, ha⟩) h2
theorem setAT_rightA {o : OpT} {y : Tree} (hy : y.rightA = true) (hk : keyOk o.key = true) (hv : o.gone = true ∨ o.value.length ≤ 256) : (setAT o y).rightA = true := by
  unfold setAT
  refine withAttrs_rightA hy ?_
  rw [← attr_law o (right_attrs hy)]
  cases hg : o.gone with
  | true => exact refA_true_ok o (right_attrs hy)
  | false => exact refA_false_ok o hk (hv.resolve_left (by rw [hg]; simp)) (right_attrs hy) rfl
theorem relabel_rightA {s : List UInt8} {y : Tree} (hy : y.rightA = true) (hs : s.length ≤ 64) : (relabelT s y).rightA = true := by
  have h1 := rightA_N hy
  have h2 := rightA_subs hy
  obtain ⟨q1, q2, q3, q4⟩ := (rightN_iff y).1 h1
  obtain ⟨i, lf, b, a', c, us⟩ := y
  exact rightA_mk ((rightN_iff _).2 ⟨hs, q2, q3, q4⟩) h2
theorem retext_rightA {l : List PieceT} {y : Tree} (hy : y.rightA = true) (hl : y.leaf = true) : (retextT l y).rightA = true := by
  have h1 := rightA_N hy
  have h2 := rightA_subs hy
  obtain ⟨q1, q2, q3, q4⟩ := (rightN_iff y).1 h1
  obtain ⟨i, lf, b, a', c, us⟩ := y
  exact rightA_mk ((rightN_iff _).2 ⟨q1, q2, fun h => absurd (h.symm.trans hl) (by simp), q4⟩) h2
theorem fresh_rightA {o : OpT} (h : o.label.length ≤ 64) : (freshT o).rightA = true := by
  exact rightA_mk ((rightN_iff _).2 ⟨h, fun _ => rfl, fun _ => rfl, rfl⟩) (fun s hs => by cases hs)
/-- Where a moved node lands. -/
theorem land_of {t x z : Tree} {fr to : List Int} {at_ : Int} (hne : fr ≠ []) (hx : atT t fr = some x) (hw : within fr to = false) (hz : atT t to = some z) (h0 : 0 ≤ at_) (h1 : at_ ≤ z.subs.length) :
    ∃ z', atT (withoutT t fr) (landT fr.dropLast (lastP fr) to at_).1 = some z' ∧ 0 ≤ (landT fr.dropLast (lastP fr) to at_).2 ∧ (landT fr.dropLast (lastP fr) to at_).2 ≤ z'.subs.length ∧ z'.leaf = z.leaf ∧ z'.id = z.id := by
  obtain ⟨y, y1, y2, y3, y4⟩ := at_parent hne hx
  have hlast := lastP_eq hne
  rw [hlast] at y2 y3 y4
  have hw' : within (fr.dropLast ++ [lastP fr]) to = false := by rw [← hlast, List.dropLast_concat_getLast]; exact hw
  exact land_at2 y2 h0 fr.dropLast to t y z y1 y3 hw' hz h1
theorem without_rightA {t x : Tree} {fr : List Int} (hne : fr ≠ []) (hx : atT t fr = some x) (ht : t.rightA = true) : (withoutT t fr).rightA = true := by
  obtain ⟨y, y1, y2, y3, y4⟩ := at_parent hne hx
  exact change_rightA ht y1 (del_rightA _ (right_at ht y1))
theorem change_leaf {F : Tree → Tree} (hF : ∀ y, (F y).leaf = y.leaf) : ∀ (p : List Int) (t : Tree), (changeT F t p).leaf = t.leaf
  | [], t => hF t
  | i :: p, t => by
    rw [changeT]
    cases subT t i with
    | none => rfl
    | some s => exact withSubs_leaf _ _
theorem rightT_parts {t : Tree} (h : rightT t = true) : t.leaf = false ∧ t.rightA = true := by
  unfold rightT at h
  simpa using h
theorem right_applyT {t : Tree} {o : OpT} (h : ValidE t o = 0) : rightT (applyT t o) = true := by
  obtain ⟨hr, hf, _⟩ := valid_right h
  obtain ⟨hl, hA⟩ := rightT_parts hr
  have hins : ∀ n x, ∀ y, (insT n x y).leaf = y.leaf := fun n x y => withSubs_leaf _ _
  have hdel : ∀ n, ∀ y, (delT n y).leaf = y.leaf := fun n y => withSubs_leaf _ _
  have key : (applyT t o).leaf = t.leaf ∧ (applyT t o).rightA = true := by
    cases good_of h with
    | ins y hk hy hl h0 h1 h2 =>
      have e : applyT t o = changeT (insT o.at_ (freshT o)) t o.path := by unfold applyT; rw [hk]; rfl
      rw [e]
      exact ⟨change_leaf (hins _ _) _ _, change_rightA hA hy (ins_rightA _ (right_at hA hy) hl (fresh_rightA h2))⟩
    | del x hk hne hx =>
      have e : applyT t o = withoutT t o.path := by unfold applyT; rw [hk]; rfl
      rw [e]
      exact ⟨change_leaf (hdel _) _ _, without_rightA hne hx hA⟩
    | mov x z hk hne hx hw hz hl h0 h1 =>
      have e : applyT t o = moveT x t o := by unfold applyT; rw [hk, hx]; rfl
      obtain ⟨z', k1, k2, k3, k4, k5⟩ := land_of hne hx hw hz h0 h1
      rw [e, moveT_eq]
      have hwA := without_rightA hne hx hA
      refine ⟨(change_leaf (hins _ _) _ _).trans (change_leaf (hdel _) _ _), change_rightA hwA k1 (ins_rightA _ (right_at hwA k1) (k4.trans hl) (right_at hA hx))⟩
    | att y hk hy h1 h2 =>
      have e : applyT t o = changeT (setAT o) t o.path := by unfold applyT; rw [hk]; rfl
      rw [e]
      exact ⟨change_leaf (fun y => by cases y; rfl) _ _, change_rightA hA hy (setAT_rightA (right_at hA hy) h1 h2)⟩
    | lab y hk hy h2 =>
      have e : applyT t o = changeT (relabelT o.label) t o.path := by unfold applyT; rw [hk]; rfl
      rw [e]
      exact ⟨change_leaf (fun y => by cases y; rfl) _ _, change_rightA hA hy (relabel_rightA (right_at hA hy) h2)⟩
    | edt y hk hy hl he =>
      have e : applyT t o = changeT (retextT o.pieces) t o.path := by unfold applyT; rw [hk]; rfl
      rw [e]
      exact ⟨change_leaf (fun y => by cases y; rfl) _ _, change_rightA hA hy (retext_rightA (right_at hA hy) hl)⟩
  unfold rightT
  rw [key.1, key.2, hl]
  rfl
end Bow
/- SP16: the identities of a tree, counted, in plain Lean. -/
namespace Bow
open Go

mutual
def idsT : Tree → List Int
  | .mk i _ _ _ _ ss => i :: idsTs ss
def idsTs : List Tree → List Int
  | [] => []
  | s :: ss => idsT s ++ idsTs ss
end
theorem idsT_eq (t : Tree) : idsT t = t.id :: idsTs t.subs := by cases t; rw [idsT]; rfl
theorem idsTs_append : ∀ a b : List Tree, idsTs (a ++ b) = idsTs a ++ idsTs b
  | [], b => by rw [idsTs]; rfl
  | x :: a, b => by rw [List.cons_append, idsTs, idsTs, idsTs_append a b, List.append_assoc]
/-- A measure of rows that adds up. -/
def Adds (m : List Int → Nat) : Prop := ∀ a b, m (a ++ b) = m a + m b
section
variable {m : List Int → Nat}
theorem Adds.nil (h : Adds m) : m [] = 0 := by have := h [] []; simp at this; omega
theorem Adds.tree (h : Adds m) (t : Tree) : m (idsT t) = m [t.id] + m (idsTs t.subs) := by rw [idsT_eq, ← h]; rfl
theorem Adds.subs (h : Adds m) (t : Tree) (ss : List Tree) : m (idsT (t.withSubs ss)) + m (idsTs t.subs) = m (idsT t) + m (idsTs ss) := by
  rw [h.tree, h.tree t, withSubs_id, withSubs_subs]
  omega
theorem Adds.set (h : Adds m) {s u : Tree} : ∀ {l : List Tree} {i : Nat}, l[i]? = some s → m (idsTs (l.set i u)) + m (idsT s) = m (idsTs l) + m (idsT u)
  | [], i, q => by simp at q
  | x :: l, 0, q => by
    simp at q
    subst q
    rw [List.set_cons_zero, idsTs, idsTs, h, h]
    omega
  | x :: l, i + 1, q => by
    simp at q
    have := h.set (u := u) (l := l) q
    rw [List.set_cons_succ, idsTs, idsTs, h, h]
    omega
theorem Adds.change (h : Adds m) {F : Tree → Tree} {y : Tree} : ∀ {p : List Int} {t : Tree}, atT t p = some y → m (idsT (changeT F t p)) + m (idsT y) = m (idsT t) + m (idsT (F y))
  | [], t, q => by
    rw [atT] at q
    injection q with q
    subst q
    rw [changeT]
    omega
  | i :: p, t, q => by
    rw [atT] at q
    cases hs : subT t i with
    | none => rw [hs] at q; cases q
    | some s =>
      rw [hs] at q
      have ih := h.change (F := F) (p := p) q
      rw [changeT, hs]
      simp only
      have h1 := h.set (u := changeT F s p) (subT_some hs).2.1
      have h2 := h.subs t (t.subs.set i.toNat (changeT F s p))
      omega
theorem Adds.ins (h : Adds m) (n : Int) (x y : Tree) : m (idsT (insT n x y)) = m (idsT y) + m (idsT x) := by
  have h1 := h.subs y (y.subs.take n.toNat ++ x :: y.subs.drop n.toNat)
  have h2 : m (idsTs (y.subs.take n.toNat ++ x :: y.subs.drop n.toNat)) = m (idsTs y.subs) + m (idsT x) := by
    conv => rhs; rw [← List.take_append_drop n.toNat y.subs]
    rw [idsTs_append, idsTs_append, idsTs, h, h, h]
    omega
  unfold insT
  omega
theorem Adds.del (h : Adds m) {y x : Tree} {i : Int} (q : y.subs[i.toNat]? = some x) : m (idsT (delT i y)) + m (idsT x) = m (idsT y) := by
  have h1 := h.subs y (y.subs.take i.toNat ++ y.subs.drop (i.toNat + 1))
  have h2 : m (idsTs (y.subs.take i.toNat ++ y.subs.drop (i.toNat + 1))) + m (idsT x) = m (idsTs y.subs) := by
    have hl := lt_of_get q
    conv => rhs; rw [← List.take_append_drop i.toNat y.subs]
    rw [idsTs_append, idsTs_append, List.drop_eq_getElem_cons hl, idsTs, h, h, h]
    have : y.subs[i.toNat] = x := by rw [List.getElem?_eq_getElem hl] at q; injection q
    rw [this]
    omega
  unfold delT
  omega
theorem Adds.without (h : Adds m) {t x : Tree} {p : List Int} (hne : p ≠ []) (hx : atT t p = some x) : m (idsT (withoutT t p)) + m (idsT x) = m (idsT t) := by
  obtain ⟨y, y1, y2, y3, y4⟩ := at_parent hne hx
  rw [lastP_eq hne] at y4
  have h1 := h.change (F := delT (lastP p)) y1
  have h2 := h.del y4
  unfold withoutT
  omega
theorem Adds.same (h : Adds m) {F : Tree → Tree} {y t : Tree} {p : List Int} (hF : ∀ y, idsT (F y) = idsT y) (hy : atT t p = some y) : m (idsT (changeT F t p)) = m (idsT t) := by
  have := h.change (F := F) hy
  rw [hF] at this
  omega
theorem ids_fresh (o : OpT) : idsT (freshT o) = [o.id] := by rw [idsT_eq]; rfl
/-- What an operation takes away. -/
def goneT (t : Tree) (o : OpT) : List Int := bif decide (o.kind = 2) then (match atT t o.path with | some x => idsT x | none => []) else []
def moreT (o : OpT) : List Int := bif decide (o.kind = 1) then [o.id] else []
theorem Adds.apply (h : Adds m) {t : Tree} {o : OpT} (hv : ValidE t o = 0) : m (idsT (applyT t o)) + m (goneT t o) = m (idsT t) + m (moreT o) := by
  have h0 := h.nil
  cases good_of hv with
  | ins y hk hy hl h0 h1 h2 =>
    have e : applyT t o = changeT (insT o.at_ (freshT o)) t o.path := by unfold applyT; rw [hk]; rfl
    have e1 : goneT t o = [] := by unfold goneT; rw [hk]; rfl
    have e2 : moreT o = [o.id] := by unfold moreT; rw [hk]; rfl
    have q1 := h.change (F := insT o.at_ (freshT o)) hy
    have q2 := h.ins o.at_ (freshT o) y
    rw [ids_fresh] at q2
    rw [e, e1, e2]
    omega
  | del x hk hne hx =>
    have e : applyT t o = withoutT t o.path := by unfold applyT; rw [hk]; rfl
    have e1 : goneT t o = idsT x := by unfold goneT; rw [hk, hx]; rfl
    have e2 : moreT o = [] := by unfold moreT; rw [hk]; rfl
    have q1 := h.without hne hx
    rw [e, e1, e2]
    omega
  | mov x z hk hne hx hw hz hl h0 h1 =>
    have e : applyT t o = moveT x t o := by unfold applyT; rw [hk, hx]; rfl
    have e1 : goneT t o = [] := by unfold goneT; rw [hk]; rfl
    have e2 : moreT o = [] := by unfold moreT; rw [hk]; rfl
    obtain ⟨z', k1, k2, k3, k4, k5⟩ := land_of hne hx hw hz h0 h1
    have q1 := h.without hne hx
    have q2 := h.change (F := insT (landT o.path.dropLast (lastP o.path) o.to o.at_).2 x) k1
    have q3 := h.ins (landT o.path.dropLast (lastP o.path) o.to o.at_).2 x z'
    rw [e, e1, e2, moveT_eq]
    omega
  | att y hk hy h1 h2 =>
    have e : applyT t o = changeT (setAT o) t o.path := by unfold applyT; rw [hk]; rfl
    have e1 : goneT t o = [] := by unfold goneT; rw [hk]; rfl
    have e2 : moreT o = [] := by unfold moreT; rw [hk]; rfl
    rw [e, e1, e2, h.same (fun y => by cases y; rfl) hy]
  | lab y hk hy h2 =>
    have e : applyT t o = changeT (relabelT o.label) t o.path := by unfold applyT; rw [hk]; rfl
    have e1 : goneT t o = [] := by unfold goneT; rw [hk]; rfl
    have e2 : moreT o = [] := by unfold moreT; rw [hk]; rfl
    rw [e, e1, e2, h.same (fun y => by cases y; rfl) hy]
  | edt y hk hy hl he =>
    have e : applyT t o = changeT (retextT o.pieces) t o.path := by unfold applyT; rw [hk]; rfl
    have e1 : goneT t o = [] := by unfold goneT; rw [hk]; rfl
    have e2 : moreT o = [] := by unfold moreT; rw [hk]; rfl
    rw [e, e1, e2, h.same (fun y => by cases y; rfl) hy]
end
end Bow
/- W39: the reference's Same, IDs. -/
namespace Bow
open Go Go.Proofs

theorem attrs_take {α : Type} {xs ys : List α} {i : Nat} (h1 : i < xs.length) (h2 : i < ys.length) : (xs.drop i = ys.drop i) = (xs[i] = ys[i] ∧ xs.drop (i + 1) = ys.drop (i + 1)) := by
  rw [List.drop_eq_getElem_cons h1, List.drop_eq_getElem_cons h2, List.cons.injEq]

set_option maxRecDepth 100000 in
theorem w_refSameAttrs (xs ys : AttrL) (hl : xs.length ≤ 1000000) : Pure Try.prog 37 [.sl 2 (xs.map attrV), .sl 2 (ys.map attrV)] (fun x => x = .bool (decide (xs = ys))) := by
  refine pure_wk (pure_fn 300 Try.func37 rfl rfl rfl fun B => ?_)
  refine ⟨fun g1 => go 300 ?_, fun g1 => go 300 ?_⟩
  · have g1 := ne_of' g1
    exact ⟨trivial, rfl, rfl, rfl, leaf_ff (decide_eq_false fun e => g1 (by rw [e]))⟩
  have g1 : xs.length = ys.length := by have := eq_of' g1; simp at this; omega
  show Goes _ _ _ _
  refine goes_iter (ι := Nat) (fun i => i ≤ xs.length ∧ (xs.drop i = ys.drop i ↔ xs = ys)) (fun i => xs.length - i) (fun i => [(5, .int .i64 i), (0, .sl 2 (xs.map attrV)), (1, .sl 2 (ys.map attrV))]) (fun _ => []) 0 300 (fun _ => rfl) (fun _ => rfl) ⟨⟨Nat.zero_le _, by simp⟩, ⟨⟨rfl, rfl⟩, ⟨rfl, rfl⟩, ⟨rfl, rfl⟩, trivial⟩, trivial⟩ ?_
  rintro i ⟨k1, k2⟩ next
  refine ⟨fun hlt => go 300 ?_, fun hge => go 300 ?_⟩
  · have hi : i < xs.length := by simpa using hlt
    have hi' : i < ys.length := by omega
    have hx : (xs.map attrV)[i]? = some (attrV xs[i]) := by simp [hi]
    have hy : (ys.map attrV)[i]? = some (attrV ys[i]) := by simp [hi']
    rw [attrs_take hi hi'] at k2
    show Goes _ _ _ _
    refine goes_draw 300 ⟨Int.natCast_nonneg i, _, hx, Int.natCast_nonneg i, _, hy, ?_⟩
    refine ⟨by kernel_rfl, ?_⟩
    refine ⟨by kernel_rfl, ?_⟩
    refine ⟨fun g2 => go 300 ?_, fun g2 => go 300 ?_⟩
    · refine ⟨trivial, rfl, rfl, rfl, leaf_ff (decide_eq_false fun e => ?_)⟩
      have := (k2.2 e).1
      rw [this] at g2
      simp at g2
    · refine ⟨by constructor <;> omega, ?_⟩
      have he : xs[i] = ys[i] := by
        simp at g2
        exact Prod.ext g2.1 g2.2
      exact next (i + 1) _ _ ⟨⟨hi, by rw [← k2]; exact ⟨fun h => ⟨he, h⟩, fun h => h.2⟩⟩, by omega, ⟨⟨rfl, rfl⟩, ⟨rfl, rfl⟩, ⟨rfl, rfl⟩, trivial⟩, trivial⟩
  · have hi : i = xs.length := by have : xs.length ≤ i := by simpa using hge
                                  omega
    subst hi
    refine ⟨trivial, rfl, rfl, rfl, leaf_tt (decide_eq_true (k2.1 ?_))⟩
    rw [List.drop_eq_nil_of_le (Nat.le_refl _), List.drop_eq_nil_of_le (by omega)]

set_option maxHeartbeats 1000000 in
set_option maxRecDepth 100000 in
theorem w_refSameT (t : Tree) : ∀ u : Tree, t.weight ≤ 1000000 → Pure Try.prog 20 [nodeV t, nodeV u] (fun x => x = .bool (sameT true t u)) := by
  induction t using Tree.ind with
  | _ t ih =>
  intro u ht
  have hsl := subs_le_weight t
  have hal := attrs_le_weight t
  have hA := w_refSameAttrs t.attrs u.attrs (by omega)
  have e := sameT_eq true t u
  refine pure_wk (pure_fn 300 Try.func20 rfl rfl rfl fun B => ?_)
  repeat' first
    | (refine ⟨fun _ => go 300 ?_, fun _ => go 300 ?_⟩)
    | (show CallThen _ _ _ _ _ _; refine call_pure hA rfl ?_; rintro z rfl)
    | (refine ⟨trivial, rfl, rfl, rfl, leaf_ff ?_⟩)
    | fail
  case h.refine_2.refine_2.refine_2.refine_2.refine_2.refine_2 g1 g2 g3 g4 g5 g6 =>
    have hlen : t.subs.length = u.subs.length := by have := eq_of' g6; rw [subV_len, subV_len] at this; omega
    have e' : sameT true t u = sameTs true t.subs u.subs := by
      rw [e]
      have g1 := eq_of' g1
      simp at g2 g3 g4 g5
      simp [g1, g2, g3, g4, g5]
    show Goes _ _ _ _
    refine goes_iter (ι := Nat) (fun i => i ≤ t.subs.length ∧ sameTs true (t.subs.drop i) (u.subs.drop i) = sameTs true t.subs u.subs) (fun i => t.subs.length - i) (fun i => [(5, .int .i64 i), (2, .ptr (.loc 0) 0), (3, .ptr (.loc 1) 0)]) (fun _ => [some (.box (nodeV t).cells), some (.box (nodeV u).cells)]) 0 300 (fun _ => rfl) (fun _ => rfl) ⟨⟨Nat.zero_le _, rfl⟩, ⟨⟨rfl, rfl⟩, ⟨rfl, rfl⟩, ⟨rfl, rfl⟩, trivial⟩, ⟨⟨rfl, rfl⟩, ⟨rfl, rfl⟩, trivial⟩⟩ ?_
    rintro i ⟨k1, k2⟩ next
    refine ⟨fun hlt => go 300 ?_, fun hge => go 300 ?_⟩
    · have hi : i < t.subs.length := by simpa [subV_eq] using hlt
      have hi' : i < u.subs.length := by omega
      have hx : t.subV[i]? = some (nodeV t.subs[i]) := by simp [subV_eq, hi]
      have hy : u.subV[i]? = some (nodeV u.subs[i]) := by simp [subV_eq, hi']
      have hws := weight_sub (List.getElem_mem hi)
      rw [sameTs_at hi hi'] at k2
      show Goes _ _ _ _
      refine goes_draw 300 ⟨Int.natCast_nonneg i, _, hx, Int.natCast_nonneg i, _, hy, _, ih _ (List.getElem_mem hi) u.subs[i] (by omega), rfl, ?_⟩
      refine ⟨by kernel_rfl, ?_⟩
      refine ⟨fun g => go 300 ?_, fun g => go 300 ?_⟩
      · have g : sameT true t.subs[i] u.subs[i] = false := by simpa using g
        exact ⟨trivial, rfl, rfl, rfl, leaf_ff (by rw [e', ← k2, g]; rfl)⟩
      · have g : sameT true t.subs[i] u.subs[i] = true := by simpa using g
        rw [g, Bool.true_and] at k2
        refine ⟨by constructor <;> omega, ?_⟩
        exact next (i + 1) _ _ ⟨⟨hi, k2⟩, by omega, ⟨⟨rfl, rfl⟩, ⟨rfl, rfl⟩, ⟨rfl, rfl⟩, trivial⟩, ⟨⟨rfl, rfl⟩, ⟨rfl, rfl⟩, trivial⟩⟩
    · have hi : t.subs.length ≤ i := by simpa [subV_eq] using hge
      rw [List.drop_eq_nil_of_le hi, List.drop_eq_nil_of_le (by omega), sameTs] at k2
      exact ⟨trivial, rfl, rfl, rfl, leaf_tt (by rw [e', ← k2])⟩
  case h.refine_2.refine_2.refine_2.refine_2.refine_2.refine_1 g1 g2 g3 g4 g5 g6 =>
    have g6 := ne_of' g6
    rw [subV_len, subV_len] at g6
    cases h : sameT true t u with
    | false => rfl
    | true =>
      rw [e] at h
      simp only [Bool.and_eq_true] at h
      exact absurd (congrArg Nat.cast (sameTs_len h.2.2.2.2.2)) g6
  all_goals (rw [e]; simp_all)

end Bow
/- SP17: a list of operations, in plain Lean. -/
namespace Bow
open Go

def zeroT0 : Tree := .mk 0 false [] [] [] []
def allR : Tree → List OpT → Nat → Tree × Nat × Int
  | t, [], i => (t, i, 0)
  | t, o :: l, i => bif decide (ValidE t o = 0) then allR (applyT t o) l (i + 1) else (zeroT0, i, ValidE t o)
def AllR (t : Tree) (l : List OpT) : Tree × Nat × Int := bif rightT t then allR t l 0 else (zeroT0, 0, 2)
def costs : List OpT → Nat
  | [] => 0
  | o :: l => costO o + costs l
theorem zero_weight : zeroT0.weight = 1 := by
  have := weight_eq zeroT0
  simp [attrLen, weights, Tree.label, Tree.text, Tree.attrs, Tree.subs, zeroT0] at this
  exact this
theorem weight_pos (t : Tree) : 1 ≤ t.weight := by rw [weight_eq]; omega
theorem allR_weight : ∀ (l : List OpT) (t : Tree) (i : Nat), (allR t l i).1.weight ≤ t.weight + costs l
  | [], t, i => by rw [allR, costs]; simp
  | o :: l, t, i => by
    rw [allR, costs]
    by_cases h : ValidE t o = 0
    · rw [decide_eq_true h]
      have := allR_weight l (applyT t o) (i + 1)
      have := applyT_weight h
      simp only [cond_true]
      omega
    · rw [decide_eq_false h]
      have := zero_weight
      have := weight_pos t
      simp only [cond_false]
      omega
theorem AllR_weight (t : Tree) (l : List OpT) : (AllR t l).1.weight ≤ t.weight + costs l := by
  unfold AllR
  cases rightT t with
  | true => exact allR_weight l t 0
  | false =>
    have := zero_weight
    have := weight_pos t
    simp only [cond_false]
    omega
theorem costs_le {n k : Nat} : ∀ {l : List OpT}, l.length ≤ k → (∀ o ∈ l, costO o ≤ n) → costs l ≤ k * n
  | [], _, _ => Nat.zero_le _
  | o :: l, hk, h => by
    obtain ⟨k', rfl⟩ : ∃ k', k = k' + 1 := ⟨k - 1, by simp at hk; omega⟩
    have := costs_le (n := n) (k := k') (l := l) (by simpa using hk) fun o' ho => h o' (List.mem_cons_of_mem _ ho)
    have := h o List.mem_cons_self
    rw [costs, Nat.succ_mul]
    omega
end Bow
/- W43a: ApplyAll, the program's and the reference's. -/
namespace Bow
open Go Go.Proofs

def AllV (r : Tree × Nat × Int) : V := .tup [nodeV r.1, .int .i64 r.2.1, .int .i64 r.2.2]
theorem allZ (i : Nat) (e : Int) : ∃ y, Wk (.tup [zeroV .nilsl, .int .i64 i, .int .i64 e]) y ∧ y.pureB = true ∧ y = AllV (zeroT0, i, e) :=
  ⟨_, Wk.tup (ys := [nodeV zeroT0, .int .i64 i, .int .i64 e]) ⟨wk_zero (ss := []) (Wk.nil 6), .refl _, .refl _, trivial⟩, rfl, rfl⟩

set_option maxHeartbeats 1000000 in
set_option maxRecDepth 100000 in
theorem w_refApplyAll (t : Tree) (l : List OpT) (hw : t.weight + costs l ≤ 400000) (hl : l.length ≤ 1000000) (hok : ∀ o ∈ l, o.Ok) : Pure Try.prog 18 [nodeV t, opsV l] (fun x => x = AllV (AllR t l)) := by
  refine pure_wk (pure_fn 300 Try.func18 rfl rfl rfl fun B => ?_)
  show CallThen _ _ _ _ _ _
  refine call_pure (w_refRightT t (by omega)) rfl ?_
  rintro x rfl
  refine ⟨fun g => go 300 ?_, fun g => go 300 ?_⟩
  · have hr : rightT t = false := by simpa using g
    refine ⟨trivial, rfl, rfl, rfl, ?_⟩
    have e : AllR t l = (zeroT0, 0, 2) := by unfold AllR; rw [hr]; rfl
    rw [e]
    exact allZ 0 2
  have hr : rightT t = true := by simpa using g
  have e : AllR t l = allR t l 0 := by unfold AllR; rw [hr]; rfl
  rw [e]
  show Goes _ _ _ _
  refine goes_iter (ι := Nat × Tree) (fun i => i.1 ≤ l.length ∧ rightT i.2 = true ∧ i.2.weight + costs (l.drop i.1) ≤ 400000 ∧ allR i.2 (l.drop i.1) i.1 = allR t l 0) (fun i => l.length - i.1)
    (fun i => [(7, .int .i64 i.1), (1, opsV l), (2, .ptr (.loc 0) 0), (4, .ptr (.loc 1) 0)]) (fun i => [some (.box (nodeV i.2).cells), some (.box (zeroV .nilsl).cells)]) (0, t) 300 (fun _ => rfl) (fun _ => rfl) ⟨⟨Nat.zero_le _, hr, hw, rfl⟩, ⟨⟨rfl, rfl⟩, ⟨rfl, rfl⟩, ⟨rfl, rfl⟩, ⟨rfl, rfl⟩, trivial⟩, ⟨⟨rfl, rfl⟩, ⟨rfl, rfl⟩, trivial⟩⟩ ?_
  rintro ⟨i, u⟩ ⟨k1, k2, k3, k4⟩ next
  simp only at k1 k2 k3 k4
  refine ⟨fun hlt => go 300 ?_, fun hge => go 300 ?_⟩
  · have hi : i < l.length := by simpa using hlt
    have hx : (l.map opV)[i]? = some (opV l[i]) := by simp [hi]
    rw [List.drop_eq_getElem_cons hi, allR] at k4
    rw [List.drop_eq_getElem_cons hi, costs] at k3
    have hap := w_refApply u l[i] (by omega) (hok _ (List.getElem_mem hi))
    show Goes _ _ _ _
    refine goes_draw 300 ⟨Int.natCast_nonneg i, _, hx, _, hap, rfl, ?_⟩
    refine ⟨by kernel_rfl, ?_⟩
    refine ⟨by kernel_rfl, ?_⟩
    by_cases hv : ValidE u l[i] = 0
    · have e : applyR u l[i] = (applyT u l[i], 0) := by unfold applyR; rw [decide_eq_true hv]; rfl
      rw [decide_eq_true hv] at k4
      have hwt := applyT_weight hv
      rw [e]
      refine ⟨fun g => absurd rfl (ne_of' g), fun _ => go 300 ?_⟩
      refine ⟨by constructor <;> omega, ?_⟩
      show Goes _ _ _ _
      exact next (i + 1, applyT u l[i]) _ _ ⟨⟨hi, right_applyT hv, by simp only; omega, k4⟩, by simp only; omega, ⟨⟨rfl, rfl⟩, ⟨rfl, rfl⟩, ⟨rfl, rfl⟩, ⟨rfl, rfl⟩, trivial⟩, ⟨⟨rfl, rfl⟩, ⟨rfl, rfl⟩, trivial⟩⟩
    · have e : applyR u l[i] = (zeroT [], ValidE u l[i]) := by unfold applyR; rw [decide_eq_false hv]; rfl
      rw [decide_eq_false hv] at k4
      rw [e]
      refine ⟨fun _ => go 300 ?_, fun g => absurd (eq_of' g) hv⟩
      refine ⟨trivial, rfl, rfl, rfl, ?_⟩
      rw [← k4]
      exact allZ i (ValidE u l[i])
  · have hi : i = l.length := by have := not_lt_of hge; simp at this; omega
    subst hi
    rw [List.drop_length, allR] at k4
    refine ⟨trivial, rfl, rfl, rfl, ?_⟩
    rw [← k4]
    exact ⟨_, Wk.refl _, rfl, by simp [AllV]; rfl⟩

end Bow
/- W49: where nodes are behind an operation: shift.moves, of, number, land. -/
namespace Bow
open Go Go.Proofs

set_option maxRecDepth 100000 in
theorem w_moves (o : OpT) (ho : o.Ok) : Pure Try.prog 121 [opV o] (fun x => x = .bool (movesO o)) := by
  refine pure_wk (pure_fn 300 Try.func121 rfl rfl rfl fun B => ?_)
  show CallThen _ _ _ _ _ _
  refine call_pure (w_Formed o ho.lt ho.each) rfl ?_
  rintro x rfl
  have hW := w_pathWithin o.path o.to ho.lt.path
  repeat' first
    | (refine ⟨fun _ => go 300 ?_, fun _ => go 300 ?_⟩)
    | (show CallThen _ _ _ _ _ _; refine call_pure hW rfl ?_; rintro z rfl)
    | (refine ⟨trivial, rfl, rfl, rfl, leaf_tt ?_⟩)
    | (refine ⟨trivial, rfl, rfl, rfl, leaf_ff ?_⟩)
    | (refine ⟨trivial, rfl, rfl, rfl, leaf_b ?_⟩)
    | fail
  all_goals (clear hW; simp_all [movesO])

theorem moves_ne {o : OpT} (h : movesO o = true) : o.kind ≠ 1 → o.path ≠ [] := fun hk e => by
  unfold movesO at h
  rw [e, decide_eq_false hk] at h
  simp at h
theorem leaf_i {n m : Int} (h : n = m) : V.int .i64 n = V.int .i64 m := by rw [h]
def chgV (c : Chg) : V := .agg [.bool c.takes, .bool c.puts, pathV c.frm, pathV c.to, .int .i64 c.at_, .int .i64 c.gap]
set_option maxRecDepth 100000 in
theorem w_chgOf (o : OpT) (ho : o.Ok) (hne : o.kind ≠ 1 → o.path ≠ []) : Pure Try.prog 122 [opV o] (fun x => x = chgV (chgO o)) := by
  refine pure_wk (pure_fn 300 Try.func122 rfl rfl rfl fun B => ?_)
  refine ⟨fun g1 => go 300 ?_, fun g1 => go 300 ?_⟩
  · have hk : o.kind = 1 := eq_of g1
    refine ⟨fun q => absurd hk (ne_of' q), fun _ => go 300 ?_⟩
    have e : chgO o = ⟨!decide (o.kind = 1), !decide (o.kind = 2), [], o.path, 0, o.at_⟩ := by unfold chgO; simp [hk]
    rw [e]
    exact ⟨trivial, rfl, rfl, rfl, chgV ⟨!decide (o.kind = 1), !decide (o.kind = 2), [], o.path, 0, o.at_⟩, Wk.agg ⟨.refl _, .refl _, Wk.nil 1, .refl _, .refl _, .refl _, trivial⟩, rfl, rfl⟩
  · have hk : o.kind ≠ 1 := ne_of g1
    refine ⟨fun _ => go 300 ?_, fun q => absurd (eq_of' q) hk⟩
    show CallThen _ _ _ _ _ _
    refine call_pure (w_Parent o.path ho.lt.path (hne hk)) rfl ?_
    rintro x rfl
    have e : chgO o = ⟨!decide (o.kind = 1), !decide (o.kind = 2), o.path.dropLast, o.to, o.path.getLast (hne hk), o.at_⟩ := by unfold chgO; rw [lastP_eq]; simp [hk]
    rw [e]
    exact ⟨trivial, rfl, rfl, rfl, _, Wk.refl _, rfl, rfl⟩

set_option maxRecDepth 100000 in
theorem w_number (c : Chg) (p : List Int) (k : Int) (hp : p.length ≤ 1000000) (hk : -1 ≤ k ∧ k ≤ 10000000) : Pure Try.prog 124 [chgV c, pathV p, .int .i64 k] (fun x => x = .int .i64 (c.number p k)) := by
  refine pure_fn 300 Try.func124 rfl rfl rfl fun B => ?_
  have h1 := w_pathSame p c.frm hp
  have h2 := w_pathSame p c.to hp
  repeat' first
    | (refine ⟨fun _ => go 300 ?_, fun _ => go 300 ?_⟩)
    | (show CallThen _ _ _ _ _ _; refine call_pure h1 rfl ?_; rintro z rfl)
    | (show CallThen _ _ _ _ _ _; refine call_pure h2 rfl ?_; rintro z rfl)
    | (refine ⟨trivial, rfl, rfl, rfl, leaf_i ?_⟩)
    | (refine ⟨by constructor <;> omega, ?_⟩)
    | fail
  all_goals (unfold Chg.number; try simp_all)
  all_goals (first | (simp [show ¬ (c.gap ≤ k) by omega, show ¬ (c.at_ < k) by omega]; done) | (simp [show ¬ (c.gap ≤ k) by omega]; done) | (simp [show ¬ (c.at_ < k) by omega]; done))

set_option maxRecDepth 100000 in
theorem w_land (c : Chg) (hp : c.frm.length ≤ 1000000) (hk : -1 ≤ c.gap ∧ c.gap ≤ 10000000) : Pure Try.prog 123 [chgV c] (fun x => x = .int .i64 c.land) := by
  refine pure_fn 300 Try.func123 rfl rfl rfl fun B => ?_
  have h1 := w_pathSame c.frm c.to hp
  repeat' first
    | (refine ⟨fun _ => go 300 ?_, fun _ => go 300 ?_⟩)
    | (show CallThen _ _ _ _ _ _; refine call_pure h1 rfl ?_; rintro z rfl)
    | (refine ⟨trivial, rfl, rfl, rfl, leaf_i ?_⟩)
    | (refine ⟨by constructor <;> omega, ?_⟩)
    | fail
  all_goals (unfold Chg.land; try simp_all)
  all_goals (simp [show ¬ (c.at_ < c.gap) by omega]; done)
end Bow
/- W50: where a node is behind an operation: shift.Node. -/
namespace Bow
open Go Go.Proofs

/-- What Node hands back: nil; or own memory, ahead of it the boxes that it made. -/
def NodeS (o : OpT) (q : List Int) (x : V) (T : Heap) : Prop :=
  (q = [] ∧ x = .tup [.nilsl, .tt] ∧ T = [some (.box (opV o).cells)]) ∨ (∃ g, x = .tup [.osl (.loc 1) g 0 q.length, .tt] ∧ T = [some (.box (opV o).cells), some (.vec g 1 (q.map intV))])
def NodeM (o : OpT) (q : List Int) (x : V) (T : Heap) : Prop :=
  ∃ g, x = .tup [.osl (.loc 2) g 0 q.length, .tt] ∧ T = [some (.box (opV o).cells), some (.box (chgV (chgO o)).cells), some (.vec g 1 (q.map intV))]
theorem nums_snoc (c : Chg) : ∀ (p q : List Int) (k : Int), c.nums q (p ++ [k]) = c.nums q p ++ [c.number (q ++ p) k]
  | [], q, k => by simp [Chg.nums]
  | x :: p, q, k => by
    rw [List.cons_append, Chg.nums, nums_snoc c p, Chg.nums]
    simp
theorem nums_len (c : Chg) : ∀ (p q : List Int), (c.nums q p).length = p.length
  | [], _ => rfl
  | x :: p, q => by rw [Chg.nums, List.length_cons, nums_len c p, List.length_cons]
theorem nums_take (c : Chg) {p : List Int} {i : Nat} (h : i < p.length) : c.nums [] (p.take (i + 1)) = c.nums [] (p.take i) ++ [c.number (p.take i) p[i]] := by
  rw [List.take_succ_eq_append_getElem h, nums_snoc]
  simp

set_option maxRecDepth 100000 in
/-- Where nothing moves. -/
theorem w_NodeStay (o : OpT) (p : List Int) (ho : o.Ok) (hp : p.length ≤ 1000000) (hm : movesO o = false) :
    Fun Try.prog 115 [] [opV o, pathV p] (NodeS o p) := by
  refine fun_fn 300 Try.func115 rfl rfl rfl fun imps B hi => ?_
  have : imps = [] := List.length_eq_zero_iff.1 hi
  subst this
  show CallThen _ _ _ _ _ _
  refine call_pure (w_moves o ho) rfl ?_
  rintro x rfl
  refine ⟨fun g1 => go 300 ?_, fun g1 => absurd hm (by simpa using g1)⟩
  show CallThen _ _ _ _ _ _
  refine call_sub [] (w_CloneInt (p.map intV) (by simpa using hp)) rfl rfl trivial rfl rfl rfl ?_
  rintro x T1 (⟨e, rfl, rfl⟩ | ⟨rfl, rfl⟩)
  · refine ⟨rfl, ?_⟩
    refine ⟨trivial, rfl, rfl, .inl ⟨by simpa using e, rfl, rfl⟩⟩
  · refine ⟨rfl, ?_⟩
    refine ⟨trivial, rfl, rfl, .inr ⟨2, by simp [resV]; rfl, rfl⟩⟩

set_option maxHeartbeats 2000000 in
set_option maxRecDepth 100000 in
/-- Of a node that is not taken. -/
theorem w_Node0 (o : OpT) (p : List Int) (ho : o.Ok) (hp : p.length ≤ 1000000) (hpb : ∀ i ∈ p, 0 ≤ i ∧ i ≤ 1048576) (hm : movesO o = true) (hb : ((chgO o).takes && within o.path p) = false) :
    Fun Try.prog 115 [] [opV o, pathV p] (NodeM o ((chgO o).nums [] p)) := by
  refine fun_fn 300 Try.func115 rfl rfl rfl fun imps B hi => ?_
  have : imps = [] := List.length_eq_zero_iff.1 hi
  subst this
  show CallThen _ _ _ _ _ _
  refine call_pure (w_moves o ho) rfl ?_
  rintro x rfl
  refine ⟨fun g1 => absurd hm (by simpa using g1), fun g1 => go 300 ?_⟩
  have hne : o.kind ≠ 1 → o.path ≠ [] := moves_ne hm
  unfold NodeM
  show CallThen _ _ _ _ _ _
  refine call_pure (w_chgOf o ho hne) rfl ?_
  rintro x rfl
  obtain ⟨c, hc⟩ : ∃ c, chgO o = c := ⟨_, rfl⟩
  rw [hc] at hb ⊢
  rcases Bool.eq_false_or_eq_true c.takes with ht | ht
  · rw [ht, Bool.true_and] at hb
    refine ⟨fun _ => go 300 ?_, fun q => absurd (ht.symm.trans q) (by decide)⟩
    show CallThen _ _ _ _ _ _
    refine call_pure (w_pathWithin o.path p ho.lt.path) rfl ?_
    rintro x rfl
    refine ⟨fun q => absurd (hb.symm.trans q) (by decide), fun _ => go 300 ?_⟩
    show Goes _ _ _ _
    refine goes_own 7 1 rfl ?_
    refine goes_while (ι := Nat × Nat × Nat × List V) (κ := Nat × Nat × List V) (fun i => i.1 ≤ p.length ∧ i.2.2.2 = (c.nums [] (p.take i.1)).map intV ∧ i.2.2.1 = i.1) (fun i => p.length - i.1)
      (fun i => [(9, .int .i64 i.1), (8, .int .i64 0), (7, .osl (.loc 2) i.2.1 0 i.2.2.1), (6, .ptr (.loc 1) 0), (1, pathV p), (2, .ptr (.loc 0) 0)]) (fun i => [some (.box (opV o).cells), some (.box (chgV c).cells), some (.vec i.2.1 1 i.2.2.2)]) (0, 0, 0, [])
      (fun k => k.2.1 = p.length ∧ k.2.2 = (c.nums [] p).map intV) (fun k => [(7, .osl (.loc 2) k.1 0 k.2.1)]) (fun k => [some (.box (opV o).cells), some (.box (chgV c).cells), some (.vec k.1 1 k.2.2)]) 300 (fun _ => rfl) (fun _ => rfl) (fun _ => rfl) (fun _ => rfl) ⟨⟨Nat.zero_le _, rfl, rfl⟩, ⟨⟨rfl, rfl⟩, ⟨rfl, rfl⟩, ⟨rfl, rfl⟩, ⟨rfl, rfl⟩, ⟨rfl, rfl⟩, ⟨rfl, rfl⟩, trivial⟩, ⟨⟨rfl, rfl⟩, ⟨rfl, rfl⟩, ⟨rfl, rfl⟩, trivial⟩⟩ ?_ ?_
    · rintro ⟨g, n, xs⟩ ⟨j1, j2⟩
      simp only at j1 j2
      subst j1 j2
      refine ⟨trivial, rfl, rfl, g, ?_, rfl⟩
      simp [resV, nums_len]
    · rintro ⟨i, g, n, xs⟩ ⟨j1, j2, j3⟩ next post
      simp only at j1 j2 j3
      subst j2
      replace j3 := j3.symm
      subst j3
      refine ⟨fun hlt => go 300 ?_, fun hge => go 300 ?_⟩
      · have hi : i < p.length := by simpa using hlt
        have hx : (p.map intV)[i]? = some (intV p[i]) := by simp [hi]
        have hbd := hpb _ (List.getElem_mem hi)
        have hnum := w_number c (p.take i) p[i] (by simp; omega) ⟨by omega, by omega⟩
        have et : V.sl 1 (((p.map intV).drop (Int.toNat 0)).take (((i : Nat) : Int).toNat - Int.toNat 0)) = pathV (p.take i) := by
          unfold pathV
          simp
        refine ⟨fun q => absurd (lt_of q) (by omega), fun _ => go 300 ?_⟩
        show Goes _ _ _ _
        refine goes_draw 300 ?_
        refine ⟨by decide, Int.natCast_nonneg i, Int.ofNat_le.2 (by simpa using j1), ?_⟩
        refine ⟨Int.natCast_nonneg i, _, hx, ?_⟩
        have hnum' := hnum
        rw [← et] at hnum'
        refine ⟨_, hnum', rfl, ?_⟩
        have hcl : (c.nums [] (p.take i)).length = i := by rw [nums_len]; simp; omega
        refine ⟨rfl, ⟨rfl, trivial⟩, ?_⟩
        refine ⟨rfl, rfl, rfl, rfl, by simp [hcl], room_of (by simp [hcl]; omega) (by decide), ?_⟩
        refine ⟨by kernel_rfl, ?_⟩
        try refine ⟨by kernel_rfl, ?_⟩
        refine ⟨⟨by omega, by omega⟩, ?_⟩
        refine next (i + 1, bump g, i + 1, (c.nums [] (p.take i)).map intV ++ [intV (c.number (p.take i) p[i])]) _ _ ⟨⟨hi, ?_, rfl⟩, ?_, ?_, ?_⟩
        · simp only
          rw [nums_take c hi, List.map_append]
          rfl
        · simp only; omega
        · refine ⟨⟨rfl, rfl⟩, ⟨rfl, rfl⟩, ⟨?_, rfl⟩, ⟨rfl, rfl⟩, ⟨rfl, rfl⟩, ⟨rfl, rfl⟩, trivial⟩
          simp [hcl]
          rfl
        · refine ⟨⟨rfl, rfl⟩, ⟨rfl, rfl⟩, ⟨?_, rfl⟩, trivial⟩
          rfl
      · have hi : i = p.length := by have : p.length ≤ i := by simpa using hge
                                     omega
        subst hi
        rw [List.take_length]
        exact post (g, _, _) _ _ _ rfl ⟨⟨rfl, rfl⟩, ⟨⟨rfl, rfl⟩, trivial⟩, ⟨⟨rfl, rfl⟩, ⟨rfl, rfl⟩, ⟨rfl, rfl⟩, trivial⟩⟩
  · refine ⟨fun q => absurd (ht.symm.trans q) (by decide), fun _ => go 300 ?_⟩
    show Goes _ _ _ _
    refine goes_own 7 1 rfl ?_
    refine goes_while (ι := Nat × Nat × Nat × List V) (κ := Nat × Nat × List V) (fun i => i.1 ≤ p.length ∧ i.2.2.2 = (c.nums [] (p.take i.1)).map intV ∧ i.2.2.1 = i.1) (fun i => p.length - i.1)
      (fun i => [(9, .int .i64 i.1), (8, .int .i64 0), (7, .osl (.loc 2) i.2.1 0 i.2.2.1), (6, .ptr (.loc 1) 0), (1, pathV p), (2, .ptr (.loc 0) 0)]) (fun i => [some (.box (opV o).cells), some (.box (chgV c).cells), some (.vec i.2.1 1 i.2.2.2)]) (0, 0, 0, [])
      (fun k => k.2.1 = p.length ∧ k.2.2 = (c.nums [] p).map intV) (fun k => [(7, .osl (.loc 2) k.1 0 k.2.1)]) (fun k => [some (.box (opV o).cells), some (.box (chgV c).cells), some (.vec k.1 1 k.2.2)]) 300 (fun _ => rfl) (fun _ => rfl) (fun _ => rfl) (fun _ => rfl) ⟨⟨Nat.zero_le _, rfl, rfl⟩, ⟨⟨rfl, rfl⟩, ⟨rfl, rfl⟩, ⟨rfl, rfl⟩, ⟨rfl, rfl⟩, ⟨rfl, rfl⟩, ⟨rfl, rfl⟩, trivial⟩, ⟨⟨rfl, rfl⟩, ⟨rfl, rfl⟩, ⟨rfl, rfl⟩, trivial⟩⟩ ?_ ?_
    · rintro ⟨g, n, xs⟩ ⟨j1, j2⟩
      simp only at j1 j2
      subst j1 j2
      refine ⟨trivial, rfl, rfl, g, ?_, rfl⟩
      simp [resV, nums_len]
    · rintro ⟨i, g, n, xs⟩ ⟨j1, j2, j3⟩ next post
      simp only at j1 j2 j3
      subst j2
      replace j3 := j3.symm
      subst j3
      refine ⟨fun hlt => go 300 ?_, fun hge => go 300 ?_⟩
      · have hi : i < p.length := by simpa using hlt
        have hx : (p.map intV)[i]? = some (intV p[i]) := by simp [hi]
        have hbd := hpb _ (List.getElem_mem hi)
        have hnum := w_number c (p.take i) p[i] (by simp; omega) ⟨by omega, by omega⟩
        have et : V.sl 1 (((p.map intV).drop (Int.toNat 0)).take (((i : Nat) : Int).toNat - Int.toNat 0)) = pathV (p.take i) := by
          unfold pathV
          simp
        refine ⟨fun q => absurd (lt_of q) (by omega), fun _ => go 300 ?_⟩
        show Goes _ _ _ _
        refine goes_draw 300 ?_
        refine ⟨by decide, Int.natCast_nonneg i, Int.ofNat_le.2 (by simpa using j1), ?_⟩
        refine ⟨Int.natCast_nonneg i, _, hx, ?_⟩
        have hnum' := hnum
        rw [← et] at hnum'
        refine ⟨_, hnum', rfl, ?_⟩
        have hcl : (c.nums [] (p.take i)).length = i := by rw [nums_len]; simp; omega
        refine ⟨rfl, ⟨rfl, trivial⟩, ?_⟩
        refine ⟨rfl, rfl, rfl, rfl, by simp [hcl], room_of (by simp [hcl]; omega) (by decide), ?_⟩
        refine ⟨by kernel_rfl, ?_⟩
        try refine ⟨by kernel_rfl, ?_⟩
        refine ⟨⟨by omega, by omega⟩, ?_⟩
        refine next (i + 1, bump g, i + 1, (c.nums [] (p.take i)).map intV ++ [intV (c.number (p.take i) p[i])]) _ _ ⟨⟨hi, ?_, rfl⟩, ?_, ?_, ?_⟩
        · simp only
          rw [nums_take c hi, List.map_append]
          rfl
        · simp only; omega
        · refine ⟨⟨rfl, rfl⟩, ⟨rfl, rfl⟩, ⟨?_, rfl⟩, ⟨rfl, rfl⟩, ⟨rfl, rfl⟩, ⟨rfl, rfl⟩, trivial⟩
          simp [hcl]
          rfl
        · refine ⟨⟨rfl, rfl⟩, ⟨rfl, rfl⟩, ⟨?_, rfl⟩, trivial⟩
          rfl
      · have hi : i = p.length := by have : p.length ≤ i := by simpa using hge
                                     omega
        subst hi
        rw [List.take_length]
        exact post (g, _, _) _ _ _ rfl ⟨⟨rfl, rfl⟩, ⟨⟨rfl, rfl⟩, trivial⟩, ⟨⟨rfl, rfl⟩, ⟨rfl, rfl⟩, ⟨rfl, rfl⟩, trivial⟩⟩
end Bow
/- W51: shift.Node, all; Gap; Undo. -/
namespace Bow
open Go Go.Proofs

theorem moves_parts {o : OpT} (h : movesO o = true) : formedB o = true ∧ (o.kind = 1 ∨ (o.kind = 2 ∧ o.path ≠ []) ∨ (o.kind = 3 ∧ o.path ≠ [] ∧ within o.path o.to = false)) := by
  have hne := moves_ne h
  unfold movesO at h
  rw [Bool.and_eq_true] at h
  refine ⟨h.1, ?_⟩
  have h2 := h.2
  by_cases k1 : o.kind = 1
  · exact .inl k1
  · by_cases k2 : o.kind = 2
    · exact .inr (.inl ⟨k2, hne k1⟩)
    · rw [decide_eq_false k1, decide_eq_false k2] at h2
      by_cases k3 : o.kind = 3
      · rw [decide_eq_true k3] at h2
        simp only [cond_false, cond_true, Bool.and_eq_true, Bool.not_eq_true'] at h2
        exact .inr (.inr ⟨k3, hne k1, h2.2⟩)
      · rw [decide_eq_false k3] at h2
        cases h2
theorem may_len {p : List Int} (h : mayP p = true) : p.length ≤ 64 := by
  unfold mayP at h
  rw [Bool.and_eq_true] at h
  exact of_decide_eq_true h.1
theorem formed_gap {o : OpT} (hf : formedB o = true) (hk : o.kind = 1 ∨ o.kind = 3) : 0 ≤ o.at_ ∧ o.at_ ≤ 1048576 := by
  unfold formedB at hf
  rw [Bool.and_eq_true] at hf
  have hf2 := hf.2
  rcases hk with hk | hk
  · simp only [hk] at hf2
    have hf3 : (gapOk o.at_ && decide ((o.label.length : Int) ≤ 64)) = true := hf2
    unfold gapOk at hf3
    simp only [Bool.and_eq_true, decide_eq_true_eq] at hf3
    exact hf3.1
  · simp only [hk] at hf2
    have hf3 : (gapOk o.at_ && mayP o.to) = true := hf2
    unfold gapOk at hf3
    simp only [Bool.and_eq_true, decide_eq_true_eq] at hf3
    exact hf3.1

def nodeRV : Option (List Int) → V
  | none => .tup [pathV [], .ff]
  | some q => .tup [pathV q, .tt]

set_option maxHeartbeats 4000000 in
set_option maxRecDepth 100000 in
/-- Of a node that is taken. -/
theorem w_NodeT (o : OpT) (p : List Int) (ho : o.Ok) (hp : p.length ≤ 1000) (_hpb : ∀ i ∈ p, 0 ≤ i ∧ i ≤ 1048576) (hm : movesO o = true) (hb : ((chgO o).takes && within o.path p) = true) :
    Pure Try.prog 115 [opV o, pathV p] (fun x => x = nodeRV (nodeP o p)) := by
  simp only [Bool.and_eq_true] at hb
  obtain ⟨ht, hwi⟩ := hb
  obtain ⟨hf, hkk⟩ := moves_parts hm
  have hpl := may_step (formed_path hf)
  have hwl := within_len hwi
  refine pure_wk (pure_fn 300 Try.func115 rfl rfl rfl fun B => ?_)
  show CallThen _ _ _ _ _ _
  refine call_pure (w_moves o ho) rfl ?_
  rintro x rfl
  refine ⟨fun g1 => absurd hm (by simpa using g1), fun g1 => go 300 ?_⟩
  show CallThen _ _ _ _ _ _
  refine call_pure (w_chgOf o ho (moves_ne hm)) rfl ?_
  rintro x rfl
  refine ⟨fun _ => go 300 ?_, fun q => absurd (ht.symm.trans q) (by decide)⟩
  show CallThen _ _ _ _ _ _
  refine call_pure (w_pathWithin o.path p ho.lt.path) rfl ?_
  rintro x rfl
  refine ⟨fun _ => go 300 ?_, fun q => absurd (hwi.symm.trans q) (by decide)⟩
  rcases Bool.eq_false_or_eq_true (chgO o).puts with hq | hq
  case inr =>
    have e : nodeP o p = none := by unfold nodeP; rw [hm, ht, hwi, hq]; rfl
    rw [e]
    refine ⟨fun _ => go 300 ?_, fun q => absurd q (by rw [hq]; simp)⟩
    exact ⟨trivial, rfl, rfl, rfl, nodeRV none, Wk.tup ⟨Wk.nil 1, .refl _, trivial⟩, rfl, rfl⟩
  have e : nodeP o p = some ((chgO o).nums [] o.to ++ [(chgO o).land] ++ p.drop o.path.length) := by unfold nodeP; rw [hm, ht, hwi, hq]; rfl
  rw [e]
  refine ⟨fun q => absurd q (by rw [hq]; simp), fun _ => go 300 ?_⟩
  have hk3 : o.kind = 3 ∧ o.path ≠ [] ∧ within o.path o.to = false := by
    rcases hkk with k | ⟨k, _⟩ | h
    · unfold chgO at ht; simp [k] at ht
    · unfold chgO at hq; simp [k] at hq
    · exact h
  obtain ⟨hk3, hne, hwt⟩ := hk3
  have htl := may_step (good_to hf hk3)
  have htn : o.to.length ≤ 64 := may_len (good_to hf hk3)
  have hgap := formed_gap hf (.inr hk3)
  have hrec := w_Node0 o o.to ho (by omega) htl hm (by rw [hwt]; simp)
  have hpos : 0 < o.path.length := List.length_pos_iff.2 hne
  have hcf : (chgO o).frm.length ≤ 1000000 := by unfold chgO; simp [hk3]; have := ho.lt.path; omega
  have hcg : (chgO o).gap = o.at_ := rfl
  have hland := w_land (chgO o) hcf ⟨by rw [hcg]; omega, by rw [hcg]; omega⟩
  unfold NodeM at hrec
  obtain ⟨c, hc⟩ : ∃ c, chgO o = c := ⟨_, rfl⟩
  rw [hc] at hrec hland ⊢
  show CallThen _ _ _ _ _ _
  refine call_sub [] hrec rfl rfl trivial rfl rfl rfl ?_
  rintro x T1 ⟨G, rfl, rfl⟩
  refine ⟨rfl, ?_⟩
  show CallThen _ _ _ _ _ _
  refine call_pure hland rfl ?_
  rintro x rfl
  refine ⟨⟨rfl, trivial⟩, rfl, rfl, rfl, by simp, room_of (by simp [nums_len]; omega) (by decide), ?_⟩
  show Goes _ _ _ _
  refine goes_while (ι := Nat × Nat × Nat × List V) (κ := Nat × Nat × List V) (fun i => o.path.length ≤ i.1 ∧ i.1 ≤ p.length ∧ ∃ acc : List Int, i.2.2.2 = acc.map intV ∧ i.2.2.1 = acc.length ∧ acc.length ≤ 1000 + i.1 ∧ acc ++ p.drop i.1 = c.nums [] o.to ++ [c.land] ++ p.drop o.path.length) (fun i => p.length - i.1)
    (fun i => [(9, .int .i64 i.1), (8, .int .i64 (o.path.map intV).length), (7, .osl (.loc 4) i.2.1 0 i.2.2.1), (6, .ptr (.loc 1) 0), (1, pathV p), (2, .ptr (.loc 0) 0)]) (fun i => [some (.box (opV o).cells), some (.box (chgV c).cells), some (.box (opV o).cells), some (.box (chgV c).cells), some (.vec i.2.1 1 i.2.2.2)]) ((o.path.map intV).length, bump G, _, _)
    (fun k => ∃ acc : List Int, k.2.2 = acc.map intV ∧ k.2.1 = acc.length ∧ acc = c.nums [] o.to ++ [c.land] ++ p.drop o.path.length) (fun k => [(7, .osl (.loc 4) k.1 0 k.2.1)]) (fun k => [some (.box (opV o).cells), some (.box (chgV c).cells), some (.box (opV o).cells), some (.box (chgV c).cells), some (.vec k.1 1 k.2.2)]) 300 (fun _ => rfl) (fun _ => rfl) (fun _ => rfl) (fun _ => rfl) ⟨⟨by simp, by simpa using hwl, c.nums [] o.to ++ [c.land], by simp [intV], by simp, by simp [nums_len]; omega, by simp⟩, ⟨⟨rfl, rfl⟩, ⟨rfl, rfl⟩, ⟨rfl, rfl⟩, ⟨rfl, rfl⟩, ⟨rfl, rfl⟩, ⟨rfl, rfl⟩, trivial⟩, ⟨⟨rfl, rfl⟩, ⟨rfl, rfl⟩, ⟨rfl, rfl⟩, ⟨rfl, rfl⟩, ⟨rfl, rfl⟩, trivial⟩⟩ ?_ ?_
  · rintro ⟨g, n, xs⟩ ⟨acc, h1, h2, h3⟩
    simp only at h1 h2 h3
    subst h1 h2 h3
    exact ⟨trivial, rfl, rfl, rfl, by simp, rfl, nodeRV (some _), Wk.refl _, rfl, rfl⟩
  · rintro ⟨i, g, n, xs⟩ ⟨j0, j1, acc, j4, j5, j2, j3⟩ next post
    simp only at j0 j1 j2 j3 j4 j5
    subst j4
    subst j5
    refine ⟨fun hlt => go 300 ?_, fun hge => go 300 ?_⟩
    · have hi : i < p.length := by simpa using hlt
      have hx : (p.map intV)[i]? = some (intV p[i]) := by simp [hi]
      rw [List.drop_eq_getElem_cons hi] at j3
      refine ⟨fun _ => go 300 ?_, fun q => absurd (not_lt_of q) (by simp; omega)⟩
      refine ⟨Int.natCast_nonneg i, _, hx, ⟨rfl, trivial⟩, rfl, rfl, rfl, by simp, room_of (by simp; omega) (by decide), ?_⟩
      refine ⟨by constructor <;> omega, ?_⟩
      show Goes _ _ _ _
      refine next (i + 1, bump g, _, _) _ _ ⟨⟨by simp only; omega, hi, acc ++ [p[i]], ?_, ?_, ?_, ?_⟩, ?_, ⟨⟨rfl, rfl⟩, ⟨rfl, rfl⟩, ⟨rfl, rfl⟩, ⟨rfl, rfl⟩, ⟨rfl, rfl⟩, ⟨rfl, rfl⟩, trivial⟩, ⟨⟨rfl, rfl⟩, ⟨rfl, rfl⟩, ⟨rfl, rfl⟩, ⟨rfl, rfl⟩, ⟨rfl, rfl⟩, trivial⟩⟩
      · simp [intV]
      · simp
      · simp; omega
      · rw [← j3]; simp
      · simp only; omega
    · have hi : i = p.length := by have : p.length ≤ i := by simpa using hge
                                   omega
      subst hi
      rw [List.drop_length, List.append_nil] at j3
      exact post (g, _, _) _ _ _ rfl ⟨⟨acc, rfl, rfl, j3⟩, ⟨⟨rfl, rfl⟩, trivial⟩, ⟨⟨rfl, rfl⟩, ⟨rfl, rfl⟩, ⟨rfl, rfl⟩, ⟨rfl, rfl⟩, ⟨rfl, rfl⟩, trivial⟩⟩

theorem w_Node (o : OpT) (p : List Int) (ho : o.Ok) (hp : p.length ≤ 1000) (hpb : ∀ i ∈ p, 0 ≤ i ∧ i ≤ 1048576) : Pure Try.prog 115 [opV o, pathV p] (fun x => x = nodeRV (nodeP o p)) := by
  rcases Bool.eq_false_or_eq_true (movesO o) with hm | hm
  · rcases Bool.eq_false_or_eq_true ((chgO o).takes && within o.path p) with hb | hb
    · exact w_NodeT o p ho hp hpb hm hb
    · have e : nodeP o p = some ((chgO o).nums [] p) := by unfold nodeP; simp only [hm, hb]; rfl
      rw [e]
      refine pure_wk (pure_of_fun (Fun.mono (w_Node0 o p ho (by omega) hpb hm hb) fun x T h => ?_))
      obtain ⟨g, rfl, rfl⟩ := h
      exact ⟨rfl, by simp, rfl, nodeRV (some _), Wk.refl _, rfl, rfl⟩
  · have e : nodeP o p = some p := by unfold nodeP; rw [hm]; rfl
    rw [e]
    refine pure_wk (pure_of_fun (Fun.mono (w_NodeStay o p ho (by omega) hm) fun x T h => ?_))
    rcases h with ⟨rfl, rfl, rfl⟩ | ⟨g, rfl, rfl⟩
    · exact ⟨rfl, nodeRV (some []), Wk.tup ⟨Wk.nil 1, .refl _, trivial⟩, rfl, rfl⟩
    · exact ⟨rfl, by simp, rfl, nodeRV (some _), Wk.refl _, rfl, rfl⟩
end Bow
/- W52: shift.Gap, Undo; square.sound, drop, shifted, won. -/
namespace Bow
open Go Go.Proofs

def gapV (r : List Int × Int × Bool) : V := .tup [pathV r.1, .int .i64 r.2.1, .bool r.2.2]
theorem gap_leaf {q : List Int} {n : Int} {r : List Int × Int × Bool} (h : r = (q, n, true)) : ∃ y, Wk (.tup [pathV q, .int .i64 n, .tt]) y ∧ y.pureB = true ∧ y = gapV r := by
  subst h
  exact ⟨gapV (q, n, true), Wk.tup ⟨.refl _, .refl _, Wk.tt, trivial⟩, rfl, rfl⟩

set_option maxHeartbeats 4000000 in
set_option maxRecDepth 100000 in
theorem w_Gap (a : OpT) (p : List Int) (at_ : Int) (first : Bool) (ho : a.Ok) (hp : p.length ≤ 1000) (hpb : ∀ i ∈ p, 0 ≤ i ∧ i ≤ 1048576) (hat : 0 ≤ at_ ∧ at_ ≤ 10000000) :
    Pure Try.prog 132 [opV a, pathV p, .int .i64 at_, .bool first] (fun x => x = gapV (gapP a p at_ first)) := by
  refine pure_wk (pure_fn 300 Try.func132 rfl rfl rfl fun B => ?_)
  show CallThen _ _ _ _ _ _
  refine call_pure (w_Node a p ho hp hpb) rfl ?_
  rintro x rfl
  have hmv := w_moves a ho
  cases hn : nodeP a p with
  | none =>
    have e : gapP a p at_ first = ([], 0, false) := by unfold gapP; rw [hn]
    rw [e]
    exact ⟨trivial, rfl, rfl, rfl, gapV ([], 0, false), Wk.tup ⟨.refl _, .refl _, Wk.ff, trivial⟩, rfl, rfl⟩
  | some q =>
    show CallThen _ _ _ _ _ _
    refine call_pure hmv rfl ?_
    rintro x rfl
    refine ⟨fun g1 => go 300 ?_, fun g1 => go 300 ?_⟩
    · have hm : movesO a = false := by simpa using g1
      refine ⟨trivial, rfl, rfl, rfl, gap_leaf ?_⟩
      unfold gapP
      rw [hn, hm]
      rfl
    have hm : movesO a = true := by simpa using g1
    show CallThen _ _ _ _ _ _
    refine call_pure (w_chgOf a ho (moves_ne hm)) rfl ?_
    rintro x rfl
    have e : gapP a p at_ first = (q, (bif (chgO a).takes && (decide ((chgO a).at_ < at_) && decide (p = (chgO a).frm)) then at_ - 1 else at_) + (bif (chgO a).puts && (decide (p = (chgO a).to) && (decide ((chgO a).gap < at_) || (decide (at_ = (chgO a).gap) && !first))) then 1 else 0), true) := by
      unfold gapP
      rw [hn, hm]
      rfl
    rw [e]
    obtain ⟨c, hc⟩ : ∃ c, chgO a = c := ⟨_, rfl⟩
    rw [hc]
    have h1 := w_pathSame p c.frm (by omega)
    have h2 := w_pathSame p c.to (by omega)
    repeat' first
      | (refine ⟨fun _ => go 300 ?_, fun _ => go 300 ?_⟩)
      | (show CallThen _ _ _ _ _ _; refine call_pure h1 rfl ?_; rintro z rfl)
      | (show CallThen _ _ _ _ _ _; refine call_pure h2 rfl ?_; rintro z rfl)
      | (refine ⟨trivial, rfl, rfl, rfl, gap_leaf ?_⟩)
      | (refine ⟨by constructor <;> omega, ?_⟩)
      | fail
    all_goals (clear hmv h1 h2 e; simp_all)
    all_goals ((try simp only [Bool.cond_decide]); (repeat' split) <;> first | omega | (simp_all; done) | skip)
    all_goals (first | (simp [show ¬ (c.at_ < at_) by omega]; done) | (simp [show ¬ (c.at_ < c.gap) by omega]; done) | (simp [show ¬ (c.at_ < at_) by omega, show ¬ (c.gap < at_) by omega]; done))

theorem wk_zeroOp : Wk (.agg [.int .u8 0, .nilsl, .int .i64 0, .nilsl, .int .u64 0, .ff, .str [], .str [], .str [], .ff, .nilsl]) (opV (noOp 0)) :=
  Wk.agg ⟨.refl _, Wk.nil 1, .refl _, Wk.nil 1, .refl _, Wk.ff, .refl _, .refl _, .refl _, Wk.ff, Wk.nil 3, trivial⟩

set_option maxRecDepth 100000 in
theorem w_sound (o : OpT) (ho : o.Ok) : Pure Try.prog 110 [opV o] (fun x => x = .bool (soundO o)) := by
  refine pure_wk (pure_fn 300 Try.func110 rfl rfl rfl fun B => ?_)
  show CallThen _ _ _ _ _ _
  refine call_pure (w_Formed o ho.lt ho.each) rfl ?_
  rintro x rfl
  have hW := w_pathWithin o.path o.to ho.lt.path
  repeat' first
    | (refine ⟨fun _ => go 300 ?_, fun _ => go 300 ?_⟩)
    | (show CallThen _ _ _ _ _ _; refine call_pure hW rfl ?_; rintro z rfl)
    | (refine ⟨trivial, rfl, rfl, rfl, leaf_tt ?_⟩)
    | (refine ⟨trivial, rfl, rfl, rfl, leaf_ff ?_⟩)
    | (refine ⟨trivial, rfl, rfl, rfl, leaf_b ?_⟩)
    | fail
  all_goals (unfold soundO; simp_all)

theorem w_drop (p : List Int) : Pure Try.prog 116 [pathV p] (fun x => x = opV (dropO p)) := by
  refine pure_wk (pure_fn 300 Try.func116 rfl rfl rfl fun B => ?_)
  exact ⟨trivial, rfl, rfl, rfl, opV (dropO p), Wk.agg ⟨.refl _, .refl _, .refl _, Wk.nil 1, .refl _, Wk.ff, .refl _, .refl _, .refl _, Wk.ff, Wk.nil 3, trivial⟩, rfl, rfl⟩

set_option maxRecDepth 100000 in
theorem w_won (b a : OpT) (ha : a.Ok) : Pure Try.prog 117 [opV b, opV a] (fun x => x = .bool (wonO b a)) := by
  refine pure_wk (pure_fn 300 Try.func117 rfl rfl rfl fun B => ?_)
  have h1 := w_pathSame a.path b.path ha.lt.path
  repeat' first
    | (refine ⟨fun _ => go 300 ?_, fun _ => go 300 ?_⟩)
    | (show CallThen _ _ _ _ _ _; refine call_pure h1 rfl ?_; rintro z rfl)
    | (refine ⟨trivial, rfl, rfl, rfl, leaf_tt ?_⟩)
    | (refine ⟨trivial, rfl, rfl, rfl, leaf_ff ?_⟩)
    | (refine ⟨trivial, rfl, rfl, rfl, leaf_b ?_⟩)
    | fail
  all_goals (unfold wonO; simp_all)

/-- The path behind, of a node that is there. -/
theorem nodeRV_get {r : Option (List Int)} : ∃ b : V, nodeRV r = .tup [pathV (r.getD []), b] ∧ (b = .tt ∨ b = .ff) := by
  cases r with
  | none => exact ⟨.ff, rfl, .inr rfl⟩
  | some q => exact ⟨.tt, rfl, .inl rfl⟩

set_option maxHeartbeats 4000000 in
set_option maxRecDepth 100000 in
theorem w_shifted (b a : OpT) (prior : Bool) (ha : a.Ok) (_hb : b.Ok) (hf : formedB b = true) :
    Pure Try.prog 120 [opV b, opV a, .bool prior] (fun x => x = opV (shiftedO b a prior)) := by
  have hpl := may_len (formed_path hf)
  have hps := may_step (formed_path hf)
  refine pure_fn 300 Try.func120 rfl rfl rfl fun B => ?_
  show CallThen _ _ _ _ _ _
  refine call_pure (w_Node a b.path ha (by omega) hps) rfl ?_
  rintro x rfl
  obtain ⟨v, e, hv⟩ := nodeRV_get (r := nodeP a b.path)
  rw [e]
  rcases hv with rfl | rfl
  all_goals
    refine ⟨fun g1 => go 300 ?_, fun g1 => go 300 ?_⟩
    · have hk : b.kind = 1 := eq_of g1
      have hg := formed_gap hf (.inl hk)
      show CallThen _ _ _ _ _ _
      refine call_pure (w_Gap a b.path b.at_ prior ha (by omega) hps ⟨by omega, by omega⟩) rfl ?_
      rintro x rfl
      refine ⟨trivial, rfl, rfl, rfl, ?_⟩
      unfold shiftedO
      rw [decide_eq_true hk]
      rfl
    have hk1 : b.kind ≠ 1 := ne_of g1
    refine ⟨fun g2 => go 300 ?_, fun g2 => go 300 ?_⟩
    · have hk : b.kind = 3 := eq_of g2
      have hg := formed_gap hf (.inr hk)
      have htl := may_len (good_to hf hk)
      have hts := may_step (good_to hf hk)
      show CallThen _ _ _ _ _ _
      refine call_pure (w_Gap a b.to b.at_ prior ha (by omega) hts ⟨by omega, by omega⟩) rfl ?_
      rintro x rfl
      refine ⟨trivial, rfl, rfl, rfl, ?_⟩
      unfold shiftedO
      rw [decide_eq_false hk1, decide_eq_true hk]
      rfl
    · have hk3 : b.kind ≠ 3 := ne_of g2
      refine ⟨trivial, rfl, rfl, rfl, ?_⟩
      unfold shiftedO
      rw [decide_eq_false hk1, decide_eq_false hk3]
      rfl

set_option maxHeartbeats 4000000 in
set_option maxRecDepth 100000 in
theorem w_UndoM (o : OpT) (ho : o.Ok) : Pure Try.prog 119 [opV o] (fun x => x = opV (undoO o)) := by
  refine pure_wk (pure_fn 300 Try.func119 rfl rfl rfl fun B => ?_)
  have z : undoO o = noOp 0 → ∃ y, Wk (.agg [.int .u8 0, .nilsl, .int .i64 0, .nilsl, .int .u64 0, .ff, .str [], .str [], .str [], .ff, .nilsl]) y ∧ y.pureB = true ∧ y = opV (undoO o) := fun h => ⟨opV (noOp 0), wk_zeroOp, rfl, by rw [h]⟩
  refine ⟨fun g1 => go 300 ?_, fun g1 => go 300 ?_⟩
  · have hk : o.kind ≠ 3 := ne_of' g1
    exact ⟨trivial, rfl, rfl, rfl, z (by unfold undoO; rw [decide_eq_false hk]; rfl)⟩
  have hk : o.kind = 3 := eq_of' g1
  show CallThen _ _ _ _ _ _
  refine call_pure (w_moves o ho) rfl ?_
  rintro x rfl
  refine ⟨fun g2 => go 300 ?_, fun g2 => go 300 ?_⟩
  · have hm : movesO o = false := by simpa using g2
    exact ⟨trivial, rfl, rfl, rfl, z (by unfold undoO; rw [hm]; simp)⟩
  have hm : movesO o = true := by simpa using g2
  obtain ⟨hf, hkk⟩ := moves_parts hm
  have hpl := may_len (formed_path hf)
  have hps := may_step (formed_path hf)
  have hfrm : (chgO o).frm = o.path.dropLast := by unfold chgO; simp [hk]
  have hfs : ∀ i ∈ (chgO o).frm, 0 ≤ i ∧ i ≤ 1048576 := fun i hi => hps i (by rw [hfrm] at hi; exact List.dropLast_subset _ hi)
  have hfl : (chgO o).frm.length ≤ 1000 := by rw [hfrm]; simp; omega
  have hgap := formed_gap hf (.inr hk)
  have hne := moves_ne hm (by rw [hk]; decide)
  have hat : 0 ≤ (chgO o).at_ ∧ (chgO o).at_ ≤ 1048576 := by
    have : (chgO o).at_ = lastP o.path := by unfold chgO; simp [hk]
    rw [this, ← lastP_eq hne]
    exact hps _ (List.getLast_mem hne)
  have hcg : (chgO o).gap = o.at_ := rfl
  have hland := w_land (chgO o) (by omega) ⟨by rw [hcg]; omega, by rw [hcg]; omega⟩
  show CallThen _ _ _ _ _ _
  refine call_pure (w_chgOf o ho (moves_ne hm)) rfl ?_
  rintro x rfl
  show CallThen _ _ _ _ _ _
  refine call_pure (w_Node o o.path ho (by omega) hps) rfl ?_
  rintro x rfl
  obtain ⟨v, e, hv⟩ := nodeRV_get (r := nodeP o o.path)
  rw [e]
  have fin : ∀ n : Int, n = (chgO o).at_ + (bif decide ((chgO o).frm = (chgO o).to) && decide ((chgO o).land < (chgO o).at_) then 1 else 0) →
      ∃ y, Wk (.agg [.int .u8 3, pathV ((nodeP o o.path).getD []), .int .i64 n, pathV ((nodeP o (chgO o).frm).getD []), .int .u64 0, .ff, .str [], .str [], .str [], .ff, .nilsl]) y ∧ y.pureB = true ∧ y = opV (undoO o) := fun n hn =>
    ⟨opV (undoO o), by
      have : undoO o = { noOp 3 with path := (nodeP o o.path).getD [], to := (nodeP o (chgO o).frm).getD [], at_ := n } := by unfold undoO; rw [decide_eq_true hk, hm, hn]; rfl
      rw [this]
      exact Wk.agg ⟨.refl _, .refl _, .refl _, .refl _, .refl _, Wk.ff, .refl _, .refl _, .refl _, Wk.ff, Wk.nil 3, trivial⟩, rfl, rfl⟩
  rcases hv with rfl | rfl
  all_goals
    show CallThen _ _ _ _ _ _
    refine call_pure (w_Node o (chgO o).frm ho hfl hfs) rfl ?_
    rintro x rfl
    obtain ⟨v2, e2, hv2⟩ := nodeRV_get (r := nodeP o (chgO o).frm)
    rw [e2]
    rcases hv2 with rfl | rfl
    all_goals
      show CallThen _ _ _ _ _ _
      refine call_pure (w_pathSame (chgO o).frm (chgO o).to (by omega)) rfl ?_
      rintro x rfl
      refine ⟨fun q1 => go 300 ?_, fun q1 => go 300 ?_⟩
      · show CallThen _ _ _ _ _ _
        refine call_pure hland rfl ?_
        rintro x rfl
        refine ⟨fun q2 => go 300 ?_, fun q2 => go 300 ?_⟩
        · refine ⟨by constructor <;> omega, ?_⟩
          exact ⟨trivial, rfl, rfl, rfl, fin _ (by rw [q1, q2]; rfl)⟩
        · exact ⟨trivial, rfl, rfl, rfl, fin _ (by rw [q1, q2]; simp)⟩
      · exact ⟨trivial, rfl, rfl, rfl, fin _ (by rw [q1]; simp)⟩
end Bow
/- W53: square.row (but for two edits), Behind, Both. -/
namespace Bow
open Go Go.Proofs

theorem nodeP_len (o : OpT) (p : List Int) : ((nodeP o p).getD []).length ≤ p.length + o.to.length + 1 := by
  unfold nodeP
  cases movesO o with
  | false => simp; omega
  | true =>
    cases (chgO o).takes && within o.path p with
    | false => simp [nums_len]; omega
    | true =>
      cases (chgO o).puts with
      | false => simp
      | true => simp [nums_len]; omega
theorem gapP_len (o : OpT) (p : List Int) (n : Int) (f : Bool) : (gapP o p n f).1.length ≤ p.length + o.to.length + 1 := by
  have h := nodeP_len o p
  unfold gapP
  cases hn : nodeP o p with
  | none => simp
  | some q =>
    rw [hn] at h
    simp only [Option.getD_some] at h
    cases movesO o <;> simpa using h
theorem drop_ok {p : List Int} (h : p.length ≤ 1000000) : (dropO p).Ok := ⟨⟨h, Nat.zero_le _, Nat.zero_le _, Nat.zero_le _, Nat.zero_le _, Nat.zero_le _⟩, Nat.zero_le _⟩
theorem shifted_ok {b a : OpT} {prior : Bool} (_ha : a.Ok) (hb : b.Ok) (hp : b.path.length ≤ 1000) (ht : b.to.length ≤ 1000) (hat : a.to.length ≤ 1000) : (shiftedO b a prior).Ok := by
  have h1 := nodeP_len a b.path
  have h2 := gapP_len a b.to b.at_ prior
  unfold shiftedO
  cases decide (b.kind = 1) with
  | true => exact ⟨⟨by show ((nodeP a b.path).getD []).length ≤ _; omega, hb.lt.to, hb.lt.label, hb.lt.key, hb.lt.value, hb.lt.pieces⟩, hb.puts⟩
  | false =>
    cases decide (b.kind = 3) with
    | true => exact ⟨⟨by show ((nodeP a b.path).getD []).length ≤ _; omega, by show (gapP a b.to b.at_ prior).1.length ≤ _; omega, hb.lt.label, hb.lt.key, hb.lt.value, hb.lt.pieces⟩, hb.puts⟩
    | false => exact ⟨⟨by show ((nodeP a b.path).getD []).length ≤ _; omega, hb.lt.to, hb.lt.label, hb.lt.key, hb.lt.value, hb.lt.pieces⟩, hb.puts⟩

theorem number_steps {c : Chg} (h : 0 ≤ c.at_) {p : List Int} {k : Int} (hk : 0 ≤ k ∧ k ≤ 1048575) : 0 ≤ c.number p k ∧ c.number p k ≤ 1048576 := by
  unfold Chg.number
  by_cases h1 : c.at_ < k
  · cases c.takes <;> cases c.puts <;> cases decide (p = c.frm) <;> cases decide (c.gap ≤ k) <;> cases decide (p = c.to) <;> simp [h1] <;> omega
  · cases c.takes <;> cases c.puts <;> cases decide (p = c.frm) <;> cases decide (c.gap ≤ k) <;> cases decide (p = c.to) <;> simp [h1] <;> omega
theorem nums_steps {c : Chg} (h : 0 ≤ c.at_) : ∀ (p q : List Int), (∀ i ∈ p, 0 ≤ i ∧ i ≤ 1048575) → ∀ i ∈ c.nums q p, 0 ≤ i ∧ i ≤ 1048576
  | [], _, _, i, hi => by cases hi
  | k :: p, q, hp, i, hi => by
    rw [Chg.nums] at hi
    rcases List.mem_cons.1 hi with rfl | hi
    · exact number_steps h (hp k List.mem_cons_self)
    · exact nums_steps h p _ (fun j hj => hp j (List.mem_cons_of_mem _ hj)) i hi
theorem may_strict {p : List Int} (h : mayP p = true) : ∀ i ∈ p, 0 ≤ i ∧ i ≤ 1048575 := by
  unfold mayP at h
  rw [Bool.and_eq_true] at h
  intro i hi
  have := List.all_eq_true.1 h.2 i hi
  unfold stepOk at this
  simp only [Bool.and_eq_true, decide_eq_true_eq] at this
  omega
theorem chg_at {o : OpT} (h : movesO o = true) : 0 ≤ (chgO o).at_ := by
  obtain ⟨hf, hkk⟩ := moves_parts h
  have hne := moves_ne h
  by_cases k1 : o.kind = 1
  · unfold chgO; simp [k1]
  · have : (chgO o).at_ = lastP o.path := by unfold chgO; simp [k1]
    rw [this, ← lastP_eq (hne k1)]
    exact (may_step (formed_path hf) _ (List.getLast_mem (hne k1))).1
theorem node_steps {a : OpT} {p : List Int} (hp : ∀ i ∈ p, 0 ≤ i ∧ i ≤ 1048575) : ∀ i ∈ (nodeP a p).getD [], 0 ≤ i ∧ i ≤ 1048576 := by
  intro i hi
  unfold nodeP at hi
  cases hm : movesO a with
  | false =>
    rw [hm] at hi
    have := hp i hi
    omega
  | true =>
    rw [hm] at hi
    have hat := chg_at hm
    obtain ⟨hf, hkk⟩ := moves_parts hm
    cases ht : (chgO a).takes && within a.path p with
    | false =>
      rw [ht] at hi
      exact nums_steps hat p [] hp i hi
    | true =>
      rw [ht] at hi
      cases hq : (chgO a).puts with
      | false => rw [hq] at hi; cases hi
      | true =>
        rw [hq] at hi
        rw [Bool.and_eq_true] at ht
        have hk3 : a.kind = 3 := by
          rcases hkk with k | ⟨k, _⟩ | h
          · have := ht.1; unfold chgO at this; simp [k] at this
          · unfold chgO at hq; simp [k] at hq
          · exact h.1
        have hts := may_strict (good_to hf hk3)
        have hgap := formed_gap hf (.inr hk3)
        have hi : i ∈ (chgO a).nums [] a.to ++ [(chgO a).land] ++ p.drop a.path.length := hi
        rcases List.mem_append.1 hi with hi | hi
        · rcases List.mem_append.1 hi with hi | hi
          · exact nums_steps hat a.to [] hts i hi
          · rw [List.mem_singleton] at hi
            have e : (chgO a).gap = a.at_ := rfl
            rw [hi]
            unfold Chg.land
            by_cases h1 : (chgO a).at_ < (chgO a).gap
            · cases decide ((chgO a).frm = (chgO a).to) <;> simp [h1] <;> omega
            · simp [h1]; omega
        · have := hp i (List.mem_of_mem_drop hi)
          omega
/-- The path behind, and some truth value. -/
theorem w_NodeB (o : OpT) (p : List Int) (ho : o.Ok) (hp : p.length ≤ 1000) (hpb : ∀ i ∈ p, 0 ≤ i ∧ i ≤ 1048576) : Pure Try.prog 115 [opV o, pathV p] (fun x => ∃ q b, (nodeP o p).getD [] = q ∧ x = .tup [pathV q, .bool b]) := by
  refine pure_wk ((w_Node o p ho hp hpb).mono fun x h => ?_)
  subst h
  cases nodeP o p with
  | none => exact ⟨.tup [pathV [], .bool false], Wk.tup ⟨.refl _, Wk.ff, trivial⟩, rfl, [], false, rfl, rfl⟩
  | some q => exact ⟨.tup [pathV q, .bool true], Wk.tup ⟨.refl _, Wk.tt, trivial⟩, rfl, q, true, rfl, rfl⟩

/-- What row hands back: nil, or own memory; ahead of it the boxes that it made. -/
def RowQ (b a : OpT) (l : List OpT) (x : V) (T : Heap) : Prop :=
  (l = [] ∧ x = .tup [.nilsl, .int .i64 0] ∧ T = [some (.box (opV b).cells), some (.box (opV a).cells)]) ∨
  (∃ g, x = .tup [.osl (.loc 2) g 0 l.length, .int .i64 0] ∧ T = [some (.box (opV b).cells), some (.box (opV a).cells), some (.vec g 11 (l.map opV))])

set_option maxHeartbeats 8000000 in
set_option maxRecDepth 100000 in
theorem w_row (b a : OpT) (prior : Bool) (ha : a.Ok) (hb : b.Ok) (sa : soundO a = true) (sb : soundO b = true) (he : bothEdit b a = false) (hto : a.to.length ≤ 1000 ∧ b.to.length ≤ 1000) :
    Fun Try.prog 111 [] [opV b, opV a, .bool prior] (RowQ b a (rowO b a prior)) := by
  have fa : formedB a = true := by unfold soundO at sa; rw [Bool.and_eq_true] at sa; exact sa.1
  have fb : formedB b = true := by unfold soundO at sb; rw [Bool.and_eq_true] at sb; exact sb.1
  have pa := may_len (formed_path fa)
  have pb := may_len (formed_path fb)
  have qa := may_step (formed_path fa)
  have qb := may_step (formed_path fb)
  have hnb := nodeP_len a b.path
  have hna := nodeP_len a a.path
  refine fun_fn 300 Try.func111 rfl rfl rfl fun imps B hi => ?_
  have : imps = [] := List.length_eq_zero_iff.1 hi
  subst this
  have leafN : rowO b a prior = [] → RowQ b a (rowO b a prior) (.tup [.nilsl, .int .i64 0]) [some (.box (opV b).cells), some (.box (opV a).cells)] := fun h1 => .inl ⟨h1, rfl, rfl⟩
  have leaf1 : ∀ {g : Nat} (o : OpT), rowO b a prior = [o] → RowQ b a (rowO b a prior) (.tup [.osl (.loc 2) g 0 1, .int .i64 0]) [some (.box (opV b).cells), some (.box (opV a).cells), some (.vec g 11 [opV o])] := fun o h1 => .inr ⟨_, by rw [h1]; rfl, by rw [h1]; rfl⟩
  have leaf2 : ∀ {g : Nat} (o o' : OpT), rowO b a prior = [o, o'] → RowQ b a (rowO b a prior) (.tup [.osl (.loc 2) g 0 2, .int .i64 0]) [some (.box (opV b).cells), some (.box (opV a).cells), some (.vec g 11 [opV o, opV o'])] := fun o o' h1 => .inr ⟨_, by rw [h1]; rfl, by rw [h1]; rfl⟩
  have hsh := w_shifted b a prior ha hb fb
  have c1 := w_pathWithin a.path b.path (by omega)
  have c2 := w_pathWithin a.path b.to (by omega)
  have c3 := w_pathWithin b.path a.path (by omega)
  have c4 := w_pathWithin b.path a.to (by omega)
  have c5 := w_pathSame b.path a.path (by omega)
  have c6 := w_pathSame a.path b.path (by omega)
  refine ⟨fun g1 => go 300 ?_, fun g1 => go 300 ?_⟩
  · have k1 : a.kind = 2 := eq_of g1
    show CallThen _ _ _ _ _ _
    refine call_pure c1 rfl ?_
    rintro x rfl
    refine ⟨fun g2 => go 300 ?_, fun g2 => go 300 ?_⟩
    · exact ⟨trivial, rfl, rfl, leafN (by unfold rowO; rw [decide_eq_true k1, g2]; rfl)⟩
    refine ⟨fun g3 => go 300 ?_, fun g3 => go 300 ?_⟩
    · have k3 : b.kind = 3 := eq_of g3
      show CallThen _ _ _ _ _ _
      refine call_pure c2 rfl ?_
      rintro x rfl
      refine ⟨fun g4 => go 300 ?_, fun g4 => go 300 ?_⟩
      · show CallThen _ _ _ _ _ _
        refine call_pure (w_NodeB a b.path ha (by omega) qb) rfl ?_
        rintro x ⟨q1, v, hq1, rfl⟩
        show CallThen _ _ _ _ _ _
        refine call_pure (w_drop q1) rfl ?_
        rintro x rfl
        refine ⟨⟨rfl, trivial⟩, ?_⟩
        exact ⟨trivial, rfl, rfl, leaf1 (dropO q1) (by unfold rowO; rw [decide_eq_true k1, g2, decide_eq_true k3, g4, hq1]; rfl)⟩
      · show CallThen _ _ _ _ _ _
        refine call_pure hsh rfl ?_
        rintro x rfl
        refine ⟨⟨rfl, trivial⟩, ?_⟩
        exact ⟨trivial, rfl, rfl, leaf1 (shiftedO b a prior) (by unfold rowO; rw [decide_eq_true k1, g2, decide_eq_true k3, g4]; rfl)⟩
    · have k3 : b.kind ≠ 3 := ne_of g3
      show CallThen _ _ _ _ _ _
      refine call_pure hsh rfl ?_
      rintro x rfl
      refine ⟨⟨rfl, trivial⟩, ?_⟩
      exact ⟨trivial, rfl, rfl, leaf1 (shiftedO b a prior) (by unfold rowO; rw [decide_eq_true k1, g2, decide_eq_false k3]; rfl)⟩
  have k1 : a.kind ≠ 2 := ne_of g1
  show CallThen _ _ _ _ _ _
  refine call_pure (w_won b a ha) rfl ?_
  rintro x rfl
  refine ⟨fun g2 => go 300 ?_, fun g2 => go 300 ?_⟩
  · refine ⟨fun g3 => go 300 ?_, fun g3 => go 300 ?_⟩
    · have g3 : prior = false := by simpa using g3
      exact ⟨trivial, rfl, rfl, leafN (by unfold rowO; rw [decide_eq_false k1, g2, g3]; rfl)⟩
    · have g3 : prior = true := by simpa using g3
      show CallThen _ _ _ _ _ _
      refine call_pure hsh rfl ?_
      rintro x rfl
      refine ⟨⟨rfl, trivial⟩, ?_⟩
      exact ⟨trivial, rfl, rfl, leaf1 (shiftedO b a prior) (by unfold rowO; rw [decide_eq_false k1, g2]; rw [g3]; rfl)⟩
  refine ⟨fun g3 => go 300 ?_, fun g3 => go 300 ?_⟩
  · have k3 : a.kind ≠ 3 := ne_of' g3
    have er : rowO b a prior = [shiftedO b a prior] := by unfold rowO; rw [decide_eq_false k1, g2, decide_eq_false k3]; rfl
    refine ⟨fun g4 => go 300 ?_, fun g4 => go 300 ?_⟩
    · refine ⟨fun g5 => go 300 ?_, fun g5 => go 300 ?_⟩
      · show CallThen _ _ _ _ _ _
        refine call_pure c6 rfl ?_
        rintro x rfl
        refine ⟨fun g6 => ?_, fun g6 => go 300 ?_⟩
        · exfalso
          unfold bothEdit at he
          rw [g4, g5, g6] at he
          cases he
        · show CallThen _ _ _ _ _ _
          refine call_pure hsh rfl ?_
          rintro x rfl
          refine ⟨⟨rfl, trivial⟩, ?_⟩
          exact ⟨trivial, rfl, rfl, leaf1 (shiftedO b a prior) er⟩
      · show CallThen _ _ _ _ _ _
        refine call_pure hsh rfl ?_
        rintro x rfl
        refine ⟨⟨rfl, trivial⟩, ?_⟩
        exact ⟨trivial, rfl, rfl, leaf1 (shiftedO b a prior) er⟩
    · show CallThen _ _ _ _ _ _
      refine call_pure hsh rfl ?_
      rintro x rfl
      refine ⟨⟨rfl, trivial⟩, ?_⟩
      exact ⟨trivial, rfl, rfl, leaf1 (shiftedO b a prior) er⟩
  have k3 : a.kind = 3 := eq_of' g3
  refine ⟨fun g4 => go 300 ?_, fun g4 => go 300 ?_⟩
  · have k4 : b.kind = 2 := eq_of g4
    show CallThen _ _ _ _ _ _
    refine call_pure c3 rfl ?_
    rintro x rfl
    refine ⟨fun g5 => go 300 ?_, fun g5 => go 300 ?_⟩
    case refine_2 =>
      have er : rowO b a prior = [shiftedO b a prior] := by unfold rowO; rw [decide_eq_false k1, g2, decide_eq_true k3, decide_eq_true k4, g5]; rfl
      show CallThen _ _ _ _ _ _
      refine call_pure hsh rfl ?_
      rintro x rfl
      refine ⟨⟨rfl, trivial⟩, ?_⟩
      exact ⟨trivial, rfl, rfl, leaf1 (shiftedO b a prior) er⟩
    show CallThen _ _ _ _ _ _
    refine call_pure c5 rfl ?_
    rintro x rfl
    refine ⟨fun g6 => go 300 ?_, fun g6 => go 300 ?_⟩
    case refine_2 =>
      have g6 : decide (b.path = a.path) = true := by simpa using g6
      have er : rowO b a prior = [shiftedO b a prior] := by unfold rowO; rw [decide_eq_false k1, g2, decide_eq_true k3, decide_eq_true k4, g5, g6]; rfl
      show CallThen _ _ _ _ _ _
      refine call_pure hsh rfl ?_
      rintro x rfl
      refine ⟨⟨rfl, trivial⟩, ?_⟩
      exact ⟨trivial, rfl, rfl, leaf1 (shiftedO b a prior) er⟩
    have g6 : decide (b.path = a.path) = false := by simpa using g6
    show CallThen _ _ _ _ _ _
    refine call_pure c4 rfl ?_
    rintro x rfl
    refine ⟨fun g7 => go 300 ?_, fun g7 => go 300 ?_⟩
    case refine_2 =>
      have g7 : within b.path a.to = true := by simpa using g7
      have er : rowO b a prior = [shiftedO b a prior] := by unfold rowO; rw [decide_eq_false k1, g2, decide_eq_true k3, decide_eq_true k4, g5, g6, g7]; rfl
      show CallThen _ _ _ _ _ _
      refine call_pure hsh rfl ?_
      rintro x rfl
      refine ⟨⟨rfl, trivial⟩, ?_⟩
      exact ⟨trivial, rfl, rfl, leaf1 (shiftedO b a prior) er⟩
    have g7 : within b.path a.to = false := by simpa using g7
    have er : rowO b a prior = [dropO ((nodeP a a.path).getD []), dropO ((nodeP (dropO ((nodeP a a.path).getD [])) ((nodeP a b.path).getD [])).getD [])] := by unfold rowO; rw [decide_eq_false k1, g2, decide_eq_true k3, decide_eq_true k4, g5, g6, g7]; rfl
    have hqs := node_steps (a := a) (p := b.path) (may_strict (formed_path fb))
    show CallThen _ _ _ _ _ _
    refine call_pure (w_NodeB a a.path ha (by omega) qa) rfl ?_
    rintro x ⟨p1, v1, hp1, rfl⟩
    show CallThen _ _ _ _ _ _
    refine call_pure (w_NodeB a b.path ha (by omega) qb) rfl ?_
    rintro x ⟨q1, v2, hq1, rfl⟩
    rw [hp1, hq1] at er
    rw [hq1] at hqs hnb
    rw [hp1] at hna
    show CallThen _ _ _ _ _ _
    refine call_pure (w_drop p1) rfl ?_
    rintro x rfl
    show CallThen _ _ _ _ _ _
    have hat64 := may_len (good_to fa k3)
    refine call_pure (w_NodeB (dropO p1) q1 (drop_ok (by omega)) (by omega) hqs) rfl ?_
    rintro x ⟨q2, v3, hq2, rfl⟩
    rw [hq2] at er
    show CallThen _ _ _ _ _ _
    refine call_pure (w_drop p1) rfl ?_
    rintro x rfl
    show CallThen _ _ _ _ _ _
    refine call_pure (w_drop q2) rfl ?_
    rintro x rfl
    refine ⟨⟨rfl, rfl, trivial⟩, ?_⟩
    exact ⟨trivial, rfl, rfl, leaf2 _ _ er⟩
  have k4 : b.kind ≠ 2 := ne_of g4
  refine ⟨fun g5 => go 300 ?_, fun g5 => go 300 ?_⟩
  · have k5 : b.kind = 3 := eq_of g5
    show CallThen _ _ _ _ _ _
    refine call_pure c4 rfl ?_
    rintro x rfl
    refine ⟨fun g6 => go 300 ?_, fun g6 => go 300 ?_⟩
    case refine_2 =>
      have er : rowO b a prior = [shiftedO b a prior] := by unfold rowO; rw [decide_eq_false k1, g2, decide_eq_true k3, decide_eq_false k4, decide_eq_true k5, g6]; rfl
      show CallThen _ _ _ _ _ _
      refine call_pure hsh rfl ?_
      rintro x rfl
      refine ⟨⟨rfl, trivial⟩, ?_⟩
      exact ⟨trivial, rfl, rfl, leaf1 (shiftedO b a prior) er⟩
    show CallThen _ _ _ _ _ _
    refine call_pure c2 rfl ?_
    rintro x rfl
    refine ⟨fun g7 => go 300 ?_, fun g7 => go 300 ?_⟩
    case refine_2 =>
      have er : rowO b a prior = [shiftedO b a prior] := by unfold rowO; rw [decide_eq_false k1, g2, decide_eq_true k3, decide_eq_false k4, decide_eq_true k5, g6, g7]; rfl
      show CallThen _ _ _ _ _ _
      refine call_pure hsh rfl ?_
      rintro x rfl
      refine ⟨⟨rfl, trivial⟩, ?_⟩
      exact ⟨trivial, rfl, rfl, leaf1 (shiftedO b a prior) er⟩
    refine ⟨fun g8 => go 300 ?_, fun g8 => go 300 ?_⟩
    · have g8 : prior = false := by simpa using g8
      exact ⟨trivial, rfl, rfl, leafN (by unfold rowO; rw [decide_eq_false k1, g2, decide_eq_true k3, decide_eq_false k4, decide_eq_true k5, g6, g7, g8]; rfl)⟩
    · have g8 : prior = true := by simpa using g8
      show Goes _ _ _ _
      refine goes_draw 300 ⟨_, w_UndoM a ha, rfl, rfl, ⟨rfl, rfl, trivial⟩, ?_⟩
      refine ⟨by kernel_rfl, ?_⟩
      refine ⟨by kernel_rfl, ?_⟩
      exact ⟨trivial, rfl, rfl, leaf2 (undoO a) b (by unfold rowO; rw [decide_eq_false k1, g2, decide_eq_true k3, decide_eq_false k4, decide_eq_true k5, g6, g7]; rw [g8]; rfl)⟩
  · have k5 : b.kind ≠ 3 := ne_of g5
    have er : rowO b a prior = [shiftedO b a prior] := by unfold rowO; rw [decide_eq_false k1, g2, decide_eq_true k3, decide_eq_false k4, decide_eq_false k5]; rfl
    show CallThen _ _ _ _ _ _
    refine call_pure hsh rfl ?_
    rintro x rfl
    refine ⟨⟨rfl, trivial⟩, ?_⟩
    exact ⟨trivial, rfl, rfl, leaf1 (shiftedO b a prior) er⟩
end Bow
/- W54: square.Behind, Both (but for two edits of one leaf). -/
namespace Bow
open Go Go.Proofs

theorem undo_ok {a : OpT} (h1 : a.path.length ≤ 1000) (h2 : a.to.length ≤ 1000) : (undoO a).Ok := by
  unfold undoO
  cases decide (a.kind = 3) && movesO a with
  | false => exact ⟨⟨Nat.zero_le _, Nat.zero_le _, Nat.zero_le _, Nat.zero_le _, Nat.zero_le _, Nat.zero_le _⟩, Nat.zero_le _⟩
  | true =>
    have q1 := nodeP_len a a.path
    have q2 := nodeP_len a (chgO a).frm
    have q3 : (chgO a).frm.length ≤ a.path.length := by
      unfold chgO
      cases decide (a.kind = 1) <;> simp
    exact ⟨⟨by show ((nodeP a a.path).getD []).length ≤ _; omega, by show ((nodeP a (chgO a).frm).getD []).length ≤ _; omega, Nat.zero_le _, Nat.zero_le _, Nat.zero_le _, Nat.zero_le _⟩, Nat.zero_le _⟩
theorem row_mem {b a o : OpT} {prior : Bool} (h : o ∈ rowO b a prior) : o = shiftedO b a prior ∨ o = dropO ((nodeP a b.path).getD []) ∨ o = dropO ((nodeP a a.path).getD []) ∨
    o = dropO ((nodeP (dropO ((nodeP a a.path).getD [])) ((nodeP a b.path).getD [])).getD []) ∨ o = undoO a ∨ o = b := by
  unfold rowO at h
  have one : ∀ {x : OpT}, o ∈ [x] → o = x := fun h => List.mem_singleton.1 h
  cases h1 : decide (a.kind = 2) with
  | true =>
    rw [h1] at h
    cases h2 : within a.path b.path with
    | true => rw [h2] at h; cases h
    | false =>
      rw [h2] at h
      cases h3 : decide (b.kind = 3) && within a.path b.to with
      | true => rw [h3] at h; exact .inr (.inl (one h))
      | false => rw [h3] at h; exact .inl (one h)
  | false =>
    rw [h1] at h
    cases h2 : wonO b a with
    | true =>
      rw [h2] at h
      cases prior with
      | true => exact .inl (one h)
      | false => cases h
    | false =>
      rw [h2] at h
      cases h3 : decide (a.kind = 3) with
      | false => rw [h3] at h; exact .inl (one h)
      | true =>
        rw [h3] at h
        cases h4 : decide (b.kind = 2) with
        | true =>
          rw [h4] at h
          cases h5 : within b.path a.path && (!decide (b.path = a.path) && !within b.path a.to) with
          | true =>
            rw [h5] at h
            rcases List.mem_cons.1 h with h | h
            · exact .inr (.inr (.inl h))
            · exact .inr (.inr (.inr (.inl (one h))))
          | false => rw [h5] at h; exact .inl (one h)
        | false =>
          rw [h4] at h
          cases h5 : decide (b.kind = 3) && (within b.path a.to && within a.path b.to) with
          | true =>
            rw [h5] at h
            cases prior with
            | true =>
              rcases List.mem_cons.1 h with h | h
              · exact .inr (.inr (.inr (.inr (.inl h))))
              · exact .inr (.inr (.inr (.inr (.inr (one h)))))
            | false => cases h
          | false => rw [h5] at h; exact .inl (one h)
theorem row_ok {b a : OpT} {prior : Bool} (ha : a.Ok) (hb : b.Ok) (pa : a.path.length ≤ 1000) (pb : b.path.length ≤ 1000) (ta : a.to.length ≤ 1000) (tb : b.to.length ≤ 1000) : ∀ o ∈ rowO b a prior, o.Ok := by
  have hs := shifted_ok (prior := prior) ha hb pb tb ta
  have hu := undo_ok pa ta
  have q1 := nodeP_len a b.path
  have q2 := nodeP_len a a.path
  have q3 := nodeP_len (dropO ((nodeP a a.path).getD [])) ((nodeP a b.path).getD [])
  have q4 : (dropO ((nodeP a a.path).getD [])).to.length = 0 := rfl
  have d1 := drop_ok (p := (nodeP a b.path).getD []) (by omega)
  have d2 := drop_ok (p := (nodeP a a.path).getD []) (by omega)
  have d3 := drop_ok (p := (nodeP (dropO ((nodeP a a.path).getD [])) ((nodeP a b.path).getD [])).getD []) (by omega)
  intro o ho
  rcases row_mem ho with rfl | rfl | rfl | rfl | rfl | rfl <;> assumption

theorem set_step {l : List OpT} {i : Nat} (hi : i < l.length) : (((l.take i).map bareO ++ l.drop i).map opV).set (0 + ((i : Nat) : Int).toNat) (opV (bareO l[i])) = ((l.take (i + 1)).map bareO ++ l.drop (i + 1)).map opV := by
  rw [List.drop_eq_getElem_cons hi, List.take_succ_eq_append_getElem hi, List.map_append, List.map_append, List.map_append, List.map_append, Nat.zero_add, show ((i : Nat) : Int).toNat = i from rfl]
  rw [List.set_append_right _ _ (by simp; omega)]
  have : i - (List.map opV (List.map bareO (List.take i l))).length = 0 := by simp; omega
  rw [this, List.map_cons, List.set_cons_zero]
  simp
def BehV (r : List OpT × Int) : V := .tup [opsV r.1, .int .i64 r.2]
theorem behZ (e : Int) : ∃ y, Wk (.tup [.nilsl, .int .i64 e]) y ∧ y.pureB = true ∧ y = BehV ([], e) := ⟨BehV ([], e), Wk.tup ⟨Wk.nil 11, .refl _, trivial⟩, rfl, rfl⟩

set_option maxHeartbeats 4000000 in
set_option maxRecDepth 100000 in
theorem w_Behind (b a : OpT) (prior : Bool) (ha : a.Ok) (hb : b.Ok) (he : bothEdit b a = false) (hto : a.to.length ≤ 1000 ∧ b.to.length ≤ 1000) :
    Pure Try.prog 99 [opV b, opV a, .bool prior] (fun x => x = BehV (behindO b a prior)) := by
  refine pure_wk (pure_fn 300 Try.func99 rfl rfl rfl fun B => ?_)
  show CallThen _ _ _ _ _ _
  refine call_pure (w_sound a ha) rfl ?_
  rintro x rfl
  refine ⟨fun g1 => go 300 ?_, fun g1 => go 300 ?_⟩
  · have g1 : soundO a = false := by simpa using g1
    have e : behindO b a prior = ([], 80) := by unfold behindO; rw [g1]; rfl
    rw [e]
    exact ⟨trivial, rfl, rfl, rfl, behZ 80⟩
  have sa : soundO a = true := by simpa using g1
  show CallThen _ _ _ _ _ _
  refine call_pure (w_sound b hb) rfl ?_
  rintro x rfl
  refine ⟨fun g2 => go 300 ?_, fun g2 => go 300 ?_⟩
  · have g2 : soundO b = false := by simpa using g2
    have e : behindO b a prior = ([], 80) := by unfold behindO; rw [sa, g2]; rfl
    rw [e]
    exact ⟨trivial, rfl, rfl, rfl, behZ 80⟩
  have sb : soundO b = true := by simpa using g2
  have fa : formedB a = true := by unfold soundO at sa; rw [Bool.and_eq_true] at sa; exact sa.1
  have fb : formedB b = true := by unfold soundO at sb; rw [Bool.and_eq_true] at sb; exact sb.1
  have pa := may_len (formed_path fa)
  have pb := may_len (formed_path fb)
  have hrow := w_row b a prior ha hb sa sb he hto
  have hrok := row_ok (prior := prior) ha hb (by omega) (by omega) hto.1 hto.2
  have e : behindO b a prior = bif (rowO b a prior).all formedB then ((rowO b a prior).map bareO, 0) else ([], 3) := by unfold behindO; rw [sa, sb]; rfl
  rw [e]
  obtain ⟨l, hl⟩ : ∃ l, rowO b a prior = l := ⟨_, rfl⟩
  have hlen : l.length ≤ 2 := by rw [← hl]; exact row_len b a prior
  rw [hl] at hrow hrok ⊢
  show CallThen _ _ _ _ _ _
  refine call_sub [] hrow rfl rfl trivial rfl rfl rfl ?_
  rintro x T1 (⟨rfl, rfl, rfl⟩ | ⟨G, rfl, rfl⟩)
  · refine ⟨rfl, ?_⟩
    refine ⟨fun q => absurd rfl (ne_of' q), fun _ => go 300 ?_⟩
    show Goes _ _ _ _
    refine goes_loop ?_
    refine go 300 ?_
    refine ⟨fun q => absurd (lt_of q) (by decide), fun _ => go 300 ?_⟩
    exact ⟨trivial, rfl, rfl, rfl, behZ 0⟩
  · refine ⟨rfl, ?_⟩
    refine ⟨fun q => absurd rfl (ne_of' q), fun _ => go 300 ?_⟩
    refine ⟨rfl, ?_⟩
    show Goes _ _ _ _
    refine goes_iter (ι := Nat) (fun i => i ≤ l.length ∧ (l.take i).all formedB = true) (fun i => l.length - i) (fun i => [(31, .int .i64 i), (30, .int .i64 l.length), (29, .osl (.loc 4) G 0 l.length), (8, .osl (.loc 4) G 0 l.length)])
      (fun i => [some (.box (opV b).cells), some (.box (opV a).cells), some (.box (opV b).cells), some (.box (opV a).cells), some (.vec G 11 (((l.take i).map bareO ++ l.drop i).map opV))]) 0 300 (fun _ => rfl) (fun _ => rfl) ⟨⟨Nat.zero_le _, by simp⟩, ⟨⟨rfl, rfl⟩, ⟨rfl, rfl⟩, ⟨rfl, rfl⟩, ⟨rfl, rfl⟩, trivial⟩, ⟨⟨rfl, rfl⟩, ⟨rfl, rfl⟩, ⟨rfl, rfl⟩, ⟨rfl, rfl⟩, ⟨rfl, rfl⟩, trivial⟩⟩ ?_
    rintro i ⟨k1, k2⟩ next
    refine ⟨fun hlt => go 300 ?_, fun hge => go 300 ?_⟩
    · have hi : i < l.length := by have := lt_of hlt; omega
      have hx : ((((l.take i).map bareO ++ l.drop i).map opV))[0 + ((i : Nat) : Int).toNat]? = some (opV l[i]) := by
        simp [List.getElem?_append_right, hi, Nat.min_eq_left (Nat.le_of_lt hi)]
      have hok := hrok l[i] (List.getElem_mem hi)
      refine ⟨rfl, Int.natCast_nonneg i, by omega, rfl, _, hx, ?_⟩
      show CallThen _ _ _ _ _ _
      refine call_pure (w_Formed l[i] hok.lt hok.each) rfl ?_
      rintro x rfl
      refine ⟨fun g3 => go 300 ?_, fun g3 => go 300 ?_⟩
      · have g3 : formedB l[i] = false := by simpa using g3
        have e : l.all formedB = false := List.all_eq_false.2 ⟨l[i], List.getElem_mem hi, by simpa using g3⟩
        rw [e]
        exact ⟨trivial, rfl, rfl, rfl, behZ 3⟩
      have g3 : formedB l[i] = true := by simpa using g3
      show CallThen _ _ _ _ _ _
      refine call_pure (w_Bare l[i] hok.lt) rfl ?_
      rintro x rfl
      refine ⟨rfl, Int.natCast_nonneg i, by omega, rfl, _, hx, ?_⟩
      refine ⟨by constructor <;> omega, ?_⟩
      show Goes _ _ _ _
      refine next (i + 1) _ _ ⟨⟨hi, ?_⟩, by omega, ⟨⟨rfl, rfl⟩, ⟨rfl, rfl⟩, ⟨rfl, rfl⟩, ⟨rfl, rfl⟩, trivial⟩, ⟨⟨rfl, rfl⟩, ⟨rfl, rfl⟩, ⟨rfl, rfl⟩, ⟨rfl, rfl⟩, ⟨?_, rfl⟩, trivial⟩⟩
      · rw [List.take_succ_eq_append_getElem hi, List.all_append, k2]
        simp [g3]
      · show some (HObj.vec G 11 (((((l.take i).map bareO ++ l.drop i).map opV)).set (0 + ((i : Nat) : Int).toNat) (opV (bareO l[i])))) = _
        rw [set_step hi]
    · have hi : i = l.length := by have := not_lt_of hge; omega
      subst hi
      rw [List.take_length] at k2
      rw [k2]
      refine ⟨trivial, rfl, rfl, rfl, by simp, rfl, ?_⟩
      refine ⟨BehV (l.map bareO, 0), ?_, rfl, rfl⟩
      simp [BehV, opsV]
      exact Wk.refl _

def BothV (r : List OpT × List OpT × Int) : V := .tup [opsV r.1, opsV r.2.1, .int .i64 r.2.2]
theorem bothZ (e : Int) : ∃ y, Wk (.tup [.nilsl, .nilsl, .int .i64 e]) y ∧ y.pureB = true ∧ y = BothV ([], [], e) := ⟨BothV ([], [], e), Wk.tup ⟨Wk.nil 11, Wk.nil 11, .refl _, trivial⟩, rfl, rfl⟩
end Bow
/- W55: leaftext's maker of a normal edit; norm. -/
namespace Bow
open Go Go.Proofs

def mkB (m : Mk) (g : Nat) : HObj := .box [.osl (.loc 1) g 0 m.l.length, .int .i64 m.keep]
def mkVec (m : Mk) (g : Nat) : HObj := .vec g 3 (m.l.map pieceV)
def mkT (m : Mk) (g : Nat) : Heap := [some (mkB m g), some (mkVec m g)]

theorem last_grown {m : Mk} (h : 0 < m.keep ∨ m.l.length = 0) : m.last = ⟨m.l ++ [⟨m.keep, 0, []⟩], 0⟩ := by
  unfold Mk.last
  have : (decide (0 < m.keep) || m.l.isEmpty) = true := by
    rcases h with h | h
    · simp [h]
    · have := List.length_eq_zero_iff.1 h
      simp [this]
  rw [this]
  rfl
theorem last_still {m : Mk} (h : ¬ 0 < m.keep) (h' : m.l.length ≠ 0) : m.last = m := by
  unfold Mk.last
  have : (decide (0 < m.keep) || m.l.isEmpty) = false := by
    have h2 : m.l ≠ [] := fun e => h' (by rw [e]; rfl)
    simp [h, h2]
  rw [this]
  rfl

set_option maxRecDepth 100000 in
theorem w_last (m : Mk) (g : Nat) (hok : m.Ok) (hw : m.w ≤ 1000000000000) : Fun Try.prog 134 (mkT m g) [.ptr (.loc 0) 0] (fun x T => ∃ g', x = .eptr (.loc 1) g' (m.last.l.length - 1) 0 ∧ T = mkT m.last g') := by
  have hlen : (m.l.length : Int) ≤ 1000000000000 := by
    have := sumW_len hok.l
    have := hok.k
    unfold Mk.w at hw
    omega
  refine fun_keep 2 rfl (fun_fn 300 Try.func134 rfl rfl rfl fun imps B hi => ?_)
  have hroom : room ((m.l.map pieceV).length + 1) 32 := by
    unfold room
    simp only [List.length_map]
    omega
  refine ⟨fun g1 => go 300 ?_, fun g1 => go 300 ?_⟩
  · have hl := last_grown (.inl (lt_of g1))
    show Goes _ _ _ _
    refine goes_draw 300 ⟨rfl, ⟨rfl, trivial⟩, rfl, rfl, rfl, rfl, by simp, hroom, ?_⟩
    refine ⟨by kernel_rfl, ?_⟩
    show Goes _ _ _ _
    refine goes_draw 300 ⟨rfl, ⟨?_, ?_⟩, rfl, ?_, ?_, ?_⟩
    · simp only [List.length_map, List.length_cons, List.length_nil]; omega
    · simp only [List.length_map, List.length_cons, List.length_nil]; omega
    · simp only [List.length_map, List.length_cons, List.length_nil]; omega
    · simp only [List.length_map, List.length_cons, List.length_nil]; omega
    refine ⟨by kernel_rfl, ?_⟩
    refine ⟨trivial, rfl, rfl, mkT m.last (bump g), rfl, rfl, ⟨⟨?_, rfl⟩, ⟨?_, rfl⟩, trivial⟩, bump g, ?_, rfl⟩
    · rw [hl]; simp [mkB]
    · rw [hl]; simp [mkVec, pieceV]
    · rw [hl]
      show V.eptr (Ref.loc 1) (bump g) _ 0 = _
      congr 1
      simp
  · refine ⟨rfl, ?_⟩
    refine ⟨fun g2 => go 300 ?_, fun g2 => go 300 ?_⟩
    · have hz := eq_of g2
      have hl := last_grown (m := m) (.inr (by omega))
      show Goes _ _ _ _
      refine goes_draw 300 ⟨rfl, ⟨rfl, trivial⟩, rfl, rfl, rfl, rfl, by simp, hroom, ?_⟩
      refine ⟨by kernel_rfl, ?_⟩
      show Goes _ _ _ _
      refine goes_draw 300 ⟨rfl, ⟨?_, ?_⟩, rfl, ?_, ?_, ?_⟩
      · simp only [List.length_map, List.length_cons, List.length_nil]; omega
      · simp only [List.length_map, List.length_cons, List.length_nil]; omega
      · simp only [List.length_map, List.length_cons, List.length_nil]; omega
      · simp only [List.length_map, List.length_cons, List.length_nil]; omega
      refine ⟨by kernel_rfl, ?_⟩
      refine ⟨trivial, rfl, rfl, mkT m.last (bump g), rfl, rfl, ⟨⟨?_, rfl⟩, ⟨?_, rfl⟩, trivial⟩, bump g, ?_, rfl⟩
      · rw [hl]; simp [mkB]
      · rw [hl]; simp [mkVec, pieceV]
      · rw [hl]
        show V.eptr (Ref.loc 1) (bump g) _ 0 = _
        congr 1
        simp
    · have hz := ne_of g2
      have hl := last_still (m := m) (Int.not_lt.2 (not_lt_of g1)) (by omega)
      show Goes _ _ _ _
      refine goes_draw 300 ⟨rfl, ⟨by omega, by omega⟩, rfl, by omega, by omega, ?_⟩
      refine ⟨by kernel_rfl, ?_⟩
      refine ⟨trivial, rfl, rfl, mkT m.last g, rfl, rfl, ⟨⟨?_, rfl⟩, ⟨?_, rfl⟩, trivial⟩, g, ?_, rfl⟩
      · rw [hl]
      · rw [hl]
      · rw [hl]
        show V.eptr (Ref.loc 1) g _ 0 = _
        congr 1
        simp
theorem set_modL {f : PieceT → PieceT} {l : List PieceT} (h : l ≠ []) {x : V} (hx : x = pieceV (f (l[l.length - 1]'(by have := List.length_pos_iff.2 h; omega)))) : (l.map pieceV).set (l.length - 1) x = (modL f l).map pieceV := by
  rw [modL_set f l (by have := List.length_pos_iff.2 h; omega), List.map_set, hx]
theorem last_get {l : List PieceT} (h : l ≠ []) : (l.map pieceV)[l.length - 1]? = some (pieceV (l[l.length - 1]'(by have := List.length_pos_iff.2 h; omega))) := by
  have := List.length_pos_iff.2 h
  simp [show l.length - 1 < l.length by omega]

set_option maxRecDepth 100000 in
theorem w_mkPut (m : Mk) (g : Nat) (s : List UInt8) (hok : m.Ok) (hw : m.w ≤ 1000000000000) (hs : s.length ≤ 1000000000000) : Fun Try.prog 128 (mkT m g) [.ptr (.loc 0) 0, .str s] (fun x T => ∃ g', x = .tup [] ∧ T = mkT (m.put s) g') := by
  refine fun_keep 2 rfl (fun_fn 300 Try.func128 rfl rfl rfl fun imps B hi => ?_)
  refine ⟨fun g1 => go 300 ?_, fun g1 => go 300 ?_⟩
  · have hne : s.isEmpty = false := by
      have : s ≠ [] := by simpa using g1
      cases s with
      | nil => exact absurd rfl this
      | cons a s => rfl
    have e : m.put s = ⟨modL (fun p => { p with put := p.put ++ s }) m.last.l, m.last.keep⟩ := by unfold Mk.put; rw [hne]; rfl
    obtain ⟨lok, lw⟩ := Mk.last_ok hok
    have hlast := m.last_ne
    show CallThen _ _ _ _ _ _
    refine call_sub [0, 1] (w_last m g hok hw) rfl rfl ⟨⟨rfl, rfl⟩, ⟨rfl, rfl⟩, trivial⟩ rfl rfl rfl ?_
    rintro x T1 ⟨g', rfl, rfl⟩
    refine ⟨rfl, ?_⟩
    show Goes _ _ _ _
    refine goes_nilE 300 rfl rfl rfl rfl rfl ?_
    have hput : (m.last.l[m.last.l.length - 1]'(by have := List.length_pos_iff.2 hlast; omega)).put.length ≤ 1000000000001 := by
      have h1 := sumW_mem lok.l _ (List.getElem_mem (by have := List.length_pos_iff.2 hlast; omega : m.last.l.length - 1 < m.last.l.length))
      have h2 := lok.l _ (List.getElem_mem (by have := List.length_pos_iff.2 hlast; omega : m.last.l.length - 1 < m.last.l.length))
      have := h2.k
      have := h2.d
      have := lok.k
      unfold PieceT.w at h1
      unfold Mk.w at lw hw
      omega
    refine ⟨rfl, rfl, _, last_get hlast, ?_⟩
    refine ⟨by rw [List.length_append]; omega, ?_⟩
    show Goes _ _ _ _
    refine goes_nilE 300 rfl rfl rfl rfl rfl ?_
    refine ⟨rfl, rfl, _, last_get hlast, ?_⟩
    refine ⟨trivial, rfl, rfl, mkT (m.put s) g', rfl, rfl, ⟨⟨?_, rfl⟩, ⟨?_, rfl⟩, trivial⟩, g', rfl, rfl⟩
    · show some (mkB m.last g') = _
      rw [e]
      simp only [mkB, modL_len]
    · rw [e]
      exact congrArg (fun z => some (HObj.vec g' 3 z)) (set_modL (f := fun p => { p with put := p.put ++ s }) hlast rfl)
  · have hne : s = [] := by simpa using g1
    subst hne
    refine ⟨trivial, rfl, rfl, mkT m g, rfl, rfl, ⟨⟨rfl, rfl⟩, ⟨rfl, rfl⟩, trivial⟩, g, rfl, rfl⟩
set_option maxRecDepth 100000 in
theorem w_mkDrop (m : Mk) (g : Nat) (n : Int) (hok : m.Ok) (hw : m.w ≤ 1000000000000) (hs : n ≤ 1000000000000) : Fun Try.prog 130 (mkT m g) [.ptr (.loc 0) 0, .int .i64 n] (fun x T => ∃ g', x = .tup [] ∧ T = mkT (m.drop n) g') := by
  refine fun_keep 2 rfl (fun_fn 300 Try.func130 rfl rfl rfl fun imps B hi => ?_)
  refine ⟨fun g1 => go 300 ?_, fun g1 => go 300 ?_⟩
  · have hne : 0 < n := lt_of g1
    have e : m.drop n = ⟨modL (fun p => { p with drop := p.drop + n }) m.last.l, m.last.keep⟩ := by unfold Mk.drop; rw [decide_eq_true hne]; rfl
    obtain ⟨lok, lw⟩ := Mk.last_ok hok
    have hlast := m.last_ne
    show CallThen _ _ _ _ _ _
    refine call_sub [0, 1] (w_last m g hok hw) rfl rfl ⟨⟨rfl, rfl⟩, ⟨rfl, rfl⟩, trivial⟩ rfl rfl rfl ?_
    rintro x T1 ⟨g', rfl, rfl⟩
    refine ⟨rfl, ?_⟩
    show Goes _ _ _ _
    refine goes_nilE 300 rfl rfl rfl rfl rfl ?_
    have hput : 0 ≤ (m.last.l[m.last.l.length - 1]'(by have := List.length_pos_iff.2 hlast; omega)).drop ∧ (m.last.l[m.last.l.length - 1]'(by have := List.length_pos_iff.2 hlast; omega)).drop ≤ 1000000000001 := by
      have h1 := sumW_mem lok.l _ (List.getElem_mem (by have := List.length_pos_iff.2 hlast; omega : m.last.l.length - 1 < m.last.l.length))
      have h2 := lok.l _ (List.getElem_mem (by have := List.length_pos_iff.2 hlast; omega : m.last.l.length - 1 < m.last.l.length))
      have := h2.k
      have := h2.d
      have := lok.k
      unfold PieceT.w at h1
      unfold Mk.w at lw hw
      omega
    refine ⟨rfl, rfl, _, last_get hlast, ?_⟩
    refine ⟨by constructor <;> omega, ?_⟩
    show Goes _ _ _ _
    refine goes_nilE 300 rfl rfl rfl rfl rfl ?_
    refine ⟨rfl, rfl, _, last_get hlast, ?_⟩
    refine ⟨trivial, rfl, rfl, mkT (m.drop n) g', rfl, rfl, ⟨⟨?_, rfl⟩, ⟨?_, rfl⟩, trivial⟩, g', rfl, rfl⟩
    · show some (mkB m.last g') = _
      rw [e]
      simp only [mkB, modL_len]
    · rw [e]
      exact congrArg (fun z => some (HObj.vec g' 3 z)) (set_modL (f := fun p => { p with drop := p.drop + n }) hlast rfl)
  · have hne : ¬ 0 < n := Int.not_lt.2 (not_lt_of g1)
    have e : m.drop n = m := by unfold Mk.drop; rw [decide_eq_false hne]; rfl
    rw [e]
    refine ⟨trivial, rfl, rfl, mkT m g, rfl, rfl, ⟨⟨rfl, rfl⟩, ⟨rfl, rfl⟩, trivial⟩, g, rfl, rfl⟩

set_option maxRecDepth 100000 in
theorem w_mkPiece (m : Mk) (g : Nat) (p : PieceT) (hok : m.Ok) (hp : p.Nn) (hw : m.w + p.w ≤ 900000000000) : Fun Try.prog 133 (mkT m g) [.ptr (.loc 0) 0, pieceV p] (fun x T => ∃ g', x = .tup [] ∧ T = mkT (m.piece p) g') := by
  have p1 := hp.k
  have p2 := hp.d
  have m1 := hok.k
  have m2 := sumW_len hok.l
  have hw' := hw
  unfold PieceT.w Mk.w at hw'
  obtain ⟨a1, a2⟩ := Mk.kept_ok hok hp.k
  obtain ⟨b1, b2⟩ := Mk.put_ok (s := p.put) a1
  have hpw : p.w = p.keep + p.drop + p.put.length + 1 := rfl
  refine fun_keep 2 rfl (fun_fn 300 Try.func133 rfl rfl rfl fun imps B hi => ?_)
  show Goes _ _ _ _
  refine goes_draw 300 ⟨⟨by omega, by omega⟩, ?_⟩
  refine ⟨by kernel_rfl, ?_⟩
  show CallThen _ _ _ _ _ _
  refine call_sub [0, 1] (w_mkPut (m.kept p.keep) g p.put a1 (by omega) (by omega)) rfl rfl ⟨⟨rfl, rfl⟩, ⟨rfl, rfl⟩, trivial⟩ rfl rfl rfl ?_
  rintro x T1 ⟨g1, rfl, rfl⟩
  refine ⟨rfl, ?_⟩
  show CallThen _ _ _ _ _ _
  refine call_sub [0, 1] (w_mkDrop ((m.kept p.keep).put p.put) g1 p.drop b1 (by omega) (by omega)) rfl rfl ⟨⟨rfl, rfl⟩, ⟨rfl, rfl⟩, trivial⟩ rfl rfl rfl ?_
  rintro x T1 ⟨g2, rfl, rfl⟩
  refine ⟨rfl, ?_⟩
  exact ⟨trivial, rfl, rfl, mkT (m.piece p) g2, rfl, rfl, ⟨⟨rfl, rfl⟩, ⟨rfl, rfl⟩, trivial⟩, g2, rfl, rfl⟩

theorem foldl_take_succ {l : List PieceT} {i : Nat} (hi : i < l.length) (m : Mk) : (l.take (i + 1)).foldl Mk.piece m = ((l.take i).foldl Mk.piece m).piece l[i] := by
  rw [List.take_succ_eq_append_getElem hi, List.foldl_append]
  rfl
theorem sumW_take (l : List PieceT) (i : Nat) (h : ∀ p ∈ l, p.Nn) : sumW (l.take i) ≤ sumW l := by
  have e := sumW_append (l.take i) (l.drop i)
  rw [List.take_append_drop] at e
  have := sumW_len (l := l.drop i) fun p hp => h p (List.mem_of_mem_drop hp)
  omega
set_option maxRecDepth 100000 in
theorem w_norm (l : List PieceT) (h : ∀ p ∈ l, p.Nn) (hw : sumW l ≤ 100000000000) (hl : l.length ≤ 100000000000) : Fun Try.prog 125 [] [piecesV l] (fun x T => ∃ g k, x = .osl (.loc 1) g 0 (normP l).length ∧ T = [some (.box [.osl (.loc 1) g 0 (normP l).length, .int .i64 k]), some (.vec g 3 ((normP l).map pieceV))]) := by
  refine fun_keep 2 rfl (fun_fn 300 Try.func125 rfl rfl rfl fun imps B hi => ?_)
  have : imps = [] := List.length_eq_zero_iff.1 hi
  subst this
  show Goes _ _ _ _
  refine goes_ownCell 0 0 3 rfl rfl ?_
  refine goes_iter (ι := Nat × Nat) (fun i => i.1 ≤ l.length) (fun i => l.length - i.1) (fun i => [(8, .int .i64 i.1), (7, .int .i64 l.length), (6, piecesV l), (3, .ptr (.loc 0) 0)]) (fun i => mkT ((l.take i.1).foldl Mk.piece Mk.nil) i.2) (0, 0) 300 (fun _ => rfl) (fun _ => rfl)
    ⟨Nat.zero_le _, ⟨⟨rfl, rfl⟩, ⟨?_, rfl⟩, ⟨rfl, rfl⟩, ⟨rfl, rfl⟩, trivial⟩, ⟨⟨rfl, rfl⟩, ⟨rfl, rfl⟩, trivial⟩⟩ ?_
  · show V.int _ _ = _
    simp
  rintro ⟨i, g⟩ k1 next
  simp only at k1
  refine ⟨fun hlt => go 300 ?_, fun hge => go 300 ?_⟩
  · have hi : i < l.length := by have := lt_of hlt; omega
    have hx : (l.map pieceV)[i]? = some (pieceV l[i]) := by simp [hi]
    have hm : l[i] ∈ l := List.getElem_mem hi
    obtain ⟨q1, q2⟩ := foldl_ok (l := l.take i) Mk.nil_ok fun p hp => h p (List.mem_of_mem_take hp)
    have q3 := sumW_take l i h
    have q4 := sumW_mem h _ hm
    have q5 : Mk.nil.w = 0 := rfl
    refine ⟨Int.natCast_nonneg i, _, hx, ?_⟩
    show CallThen _ _ _ _ _ _
    refine call_sub [0, 1] (w_mkPiece _ g l[i] q1 (h _ hm) (by omega)) rfl rfl ⟨⟨rfl, rfl⟩, ⟨rfl, rfl⟩, trivial⟩ rfl rfl rfl ?_
    rintro x T1 ⟨g1, rfl, rfl⟩
    refine ⟨rfl, ?_⟩
    refine ⟨by constructor <;> omega, ?_⟩
    show Goes _ _ _ _
    refine next (i + 1, g1) _ _ ⟨hi, by simp only; omega, ⟨⟨rfl, rfl⟩, ⟨rfl, rfl⟩, ⟨rfl, rfl⟩, ⟨rfl, rfl⟩, trivial⟩, ?_⟩
    rw [show (l.take (i + 1)).foldl Mk.piece Mk.nil = _ from foldl_take_succ hi Mk.nil]
    exact ⟨⟨rfl, rfl⟩, ⟨rfl, rfl⟩, trivial⟩
  · have hi : i = l.length := by have := not_lt_of hge; omega
    subst hi
    refine ⟨trivial, rfl, rfl, mkT (l.foldl Mk.piece Mk.nil) g, rfl, rfl, ⟨⟨?_, rfl⟩, ⟨?_, rfl⟩, trivial⟩, g, (l.foldl Mk.piece Mk.nil).keep, ?_, rfl⟩
    · show some (mkB ((l.take l.length).foldl Mk.piece Mk.nil) g) = _
      rw [List.take_length]
    · show some (mkVec ((l.take l.length).foldl Mk.piece Mk.nil) g) = _
      rw [List.take_length]
    · show V.osl (Ref.loc 1) g 0 ((l.take l.length).foldl Mk.piece Mk.nil).l.length = _
      rw [List.take_length]
      rfl
end Bow
/- W56: leaftext's rows. -/
namespace Bow
open Go Go.Proofs

def rowVec (d r : List PieceT) (g : Nat) : HObj := .vec g 3 ((d ++ r).map pieceV)
theorem row_get (d : List PieceT) (p : PieceT) (r : List PieceT) : ((d ++ p :: r).map pieceV)[d.length + ((0 : Int)).toNat]? = some (pieceV p) := by simp
theorem row_set (d : List PieceT) (p q : PieceT) (r : List PieceT) : ((d ++ p :: r).map pieceV).set (d.length + ((0 : Int)).toNat) (pieceV q) = (d ++ q :: r).map pieceV := by simp
set_option maxRecDepth 100000 in
theorem w_rowPut (d r : List PieceT) (g : Nat) : Fun Try.prog 127 [some (rowVec d r g)] [.osl (.loc 0) g d.length r.length] (fun x T => x = .tup [.str (rowPut r).1, .bool (rowHas r)] ∧ T = [some (rowVec d (rowPut r).2 g)]) := by
  refine fun_wk (fun_fn 300 Try.func127 rfl rfl rfl fun imps B hi => ?_)
  have ff : ∀ {s : List UInt8} {b : Bool}, b = false → Wk (.tup [.str s, .ff]) (.tup [.str s, .bool b]) := fun h => by subst h; exact Wk.tup ⟨.refl _, Wk.ff, trivial⟩
  have tt : ∀ {s : List UInt8} {b : Bool}, b = true → Wk (.tup [.str s, .tt]) (.tup [.str s, .bool b]) := fun h => by subst h; exact Wk.tup ⟨.refl _, Wk.tt, trivial⟩
  cases r with
  | nil =>
    refine ⟨rfl, ?_⟩
    refine ⟨fun g1 => go 300 ?_, fun g1 => absurd rfl (ne_of g1)⟩
    exact ⟨trivial, rfl, rfl, _, ff rfl, rfl, rfl, rfl, rfl⟩
  | cons p r =>
    refine ⟨rfl, ?_⟩
    refine ⟨fun g1 => by have := eq_of g1; simp at this; omega, fun g1 => go 300 ?_⟩
    have hl : (0 : Int) < ((p :: r).length : Nat) := by simp
    refine ⟨rfl, by decide, hl, rfl, rfl, _, row_get d p r, ?_⟩
    refine ⟨fun g2 => go 300 ?_, fun g2 => go 300 ?_⟩
    · have e : (decide (0 < p.keep) || p.put.isEmpty) = true := by rw [g2]; rfl
      have e1 : rowPut (p :: r) = ([], p :: r) := by show (bif _ then _ else _) = _; rw [e]; rfl
      have e2 : rowHas (p :: r) = false := by show (!_) = _; rw [e]; rfl
      exact ⟨trivial, rfl, rfl, .tup [.str [], .bool (rowHas (p :: r))], ff e2, rfl, rfl, by rw [e1], by show [some (rowVec d (p :: r) g)] = _; rw [e1]⟩
    · refine ⟨rfl, by decide, hl, rfl, rfl, _, row_get d p r, ?_⟩
      refine ⟨fun g3 => go 300 ?_, fun g3 => go 300 ?_⟩
      · have g3 : p.put = [] := by simpa using g3
        have e : (decide (0 < p.keep) || p.put.isEmpty) = true := by rw [g3]; simp
        have e1 : rowPut (p :: r) = ([], p :: r) := by show (bif _ then _ else _) = _; rw [e]; rfl
        have e2 : rowHas (p :: r) = false := by show (!_) = _; rw [e]; rfl
        exact ⟨trivial, rfl, rfl, .tup [.str [], .bool (rowHas (p :: r))], ff e2, rfl, rfl, by rw [e1], by show [some (rowVec d (p :: r) g)] = _; rw [e1]⟩
      · have g3 : p.put ≠ [] := by simpa using g3
        have e : (decide (0 < p.keep) || p.put.isEmpty) = false := by rw [g2]; simp [g3]
        refine ⟨rfl, by decide, hl, rfl, rfl, _, row_get d p r, ?_⟩
        refine ⟨rfl, by decide, hl, rfl, rfl, _, row_get d p r, ?_⟩
        have e1 : rowPut (p :: r) = (p.put, { p with put := [] } :: r) := by show (bif _ then _ else _) = _; rw [e]; rfl
        have e2 : rowHas (p :: r) = true := by show (!_) = _; rw [e]; rfl
        refine ⟨trivial, rfl, rfl, .tup [.str p.put, .bool (rowHas (p :: r))], tt e2, rfl, rfl, by rw [e1], ?_⟩
        rw [e1]
        exact congrArg (fun z => [some (HObj.vec g 3 z)]) (row_set d p { p with put := [] } r)

set_option maxRecDepth 100000 in
theorem w_rowTake (d r : List PieceT) (g : Nat) (n : Int) (hn : 0 ≤ n ∧ n ≤ 1000000000000) (hr : ∀ p ∈ r, p.Nn ∧ p.w ≤ 1000000000000) : Fun Try.prog 136 [some (rowVec d r g)] [.osl (.loc 0) g d.length r.length, .int .i64 n] (fun x T => x = .tup [] ∧ T = [some (rowVec d (rowTake n r) g)]) := by
  refine fun_fn 300 Try.func136 rfl rfl rfl fun imps B hi => ?_
  cases r with
  | nil =>
    refine ⟨rfl, ?_⟩
    refine ⟨fun g1 => go 300 ?_, fun g1 => absurd rfl (ne_of g1)⟩
    exact ⟨trivial, rfl, rfl, rfl, rfl⟩
  | cons p r =>
    refine ⟨rfl, ?_⟩
    refine ⟨fun g1 => by have := eq_of g1; simp at this; omega, fun g1 => go 300 ?_⟩
    have hl : (0 : Int) < ((p :: r).length : Nat) := by simp
    obtain ⟨hp, hw⟩ := hr p List.mem_cons_self
    have h1 := hp.k
    have h2 := hp.d
    unfold PieceT.w at hw
    refine ⟨rfl, by decide, hl, ?_⟩
    show Goes _ _ _ _
    refine goes_nilE 300 rfl rfl rfl rfl rfl ?_
    refine ⟨rfl, rfl, _, row_get d p r, ?_⟩
    refine ⟨fun g2 => go 300 ?_, fun g2 => go 300 ?_⟩
    · show Goes _ _ _ _
      refine goes_nilE 300 rfl rfl rfl rfl rfl ?_
      refine ⟨rfl, rfl, _, row_get d p r, by constructor <;> omega, ?_⟩
      show Goes _ _ _ _
      refine goes_nilE 300 rfl rfl rfl rfl rfl ?_
      refine ⟨rfl, rfl, _, row_get d p r, ?_⟩
      refine ⟨trivial, rfl, rfl, rfl, ?_⟩
      have er : rowTake n (p :: r) = { p with keep := p.keep - n } :: r := by
        show (bif decide (0 < p.keep) then _ else _) = _
        rw [g2]
        rfl
      rw [er]
      exact congrArg (fun z => [some (HObj.vec g 3 z)]) (row_set d p { p with keep := p.keep - n } r)
    · show Goes _ _ _ _
      refine goes_nilE 300 rfl rfl rfl rfl rfl ?_
      refine ⟨rfl, rfl, _, row_get d p r, by constructor <;> omega, ?_⟩
      show Goes _ _ _ _
      refine goes_nilE 300 rfl rfl rfl rfl rfl ?_
      refine ⟨rfl, rfl, _, row_get d p r, ?_⟩
      refine ⟨trivial, rfl, rfl, rfl, ?_⟩
      have er : rowTake n (p :: r) = { p with drop := p.drop - n } :: r := by
        show (bif decide (0 < p.keep) then _ else _) = _
        rw [g2]
        rfl
      rw [er]
      exact congrArg (fun z => [some (HObj.vec g 3 z)]) (row_set d p { p with drop := p.drop - n } r)
end Bow
/- W57: leaftext's rows go on; what is done. -/
namespace Bow
open Go Go.Proofs

def runV (r : Int × Bool × Bool) : V := .tup [.int .i64 r.1, .bool r.2.1, .bool r.2.2]
def rowB (d r : List PieceT) (g : Nat) : HObj := .box [.osl (.loc 1) g d.length r.length]

set_option maxRecDepth 100000 in
theorem w_rowRun (d0 r0 : List PieceT) (g : Nat) : Fun Try.prog 135 [some (rowB d0 r0 g), some (rowVec d0 r0 g)] [.ptr (.loc 0) 0] (fun x T => x = runV (rowRun r0).1 ∧ ∃ d, d ++ (rowRun r0).2 = d0 ++ r0 ∧ T = [some (rowB d (rowRun r0).2 g), some (rowVec d (rowRun r0).2 g)]) := by
  have wk : ∀ {n : Int} {x y : V} {a b : Bool}, (x = .tt ∧ a = true ∨ x = .ff ∧ a = false) → (y = .tt ∧ b = true ∨ y = .ff ∧ b = false) → Wk (.tup [.int .i64 n, x, y]) (runV (n, a, b)) := by
    rintro n x y a b (⟨rfl, rfl⟩ | ⟨rfl, rfl⟩) (⟨rfl, rfl⟩ | ⟨rfl, rfl⟩) <;> exact Wk.tup ⟨.refl _, by first | exact Wk.tt | exact Wk.ff, by first | exact Wk.tt | exact Wk.ff, trivial⟩
  refine fun_wk (fun_keep 2 rfl (fun_fn 300 Try.func135 rfl rfl rfl fun imps B hi => ?_))
  show Goes _ _ _ _
  refine goes_iter (ι := List PieceT × List PieceT) (fun i => i.1 ++ i.2 = d0 ++ r0 ∧ rowRun i.2 = rowRun r0 ∧ i.2.length ≤ r0.length) (fun i => i.2.length) (fun i => [(0, .ptr (.loc 0) 0)]) (fun i => [some (rowB i.1 i.2 g), some (rowVec i.1 i.2 g)]) (d0, r0) 300 (fun _ => rfl) (fun _ => by rw [hi]; rfl)
    ⟨⟨rfl, rfl, Nat.le_refl _⟩, ⟨⟨rfl, rfl⟩, trivial⟩, ⟨⟨rfl, rfl⟩, ⟨rfl, rfl⟩, trivial⟩⟩ ?_
  rintro ⟨d, r⟩ ⟨k1, k2, k3⟩ next
  simp only at k1 k2 k3
  cases r with
  | nil =>
    refine ⟨rfl, ?_⟩
    refine ⟨fun g1 => absurd (lt_of g1) (by simp), fun g1 => go 300 ?_⟩
    have e : rowRun r0 = ((0, false, false), []) := k2.symm
    rw [e]
    exact ⟨trivial, rfl, rfl, [some (rowB d [] g), some (rowVec d [] g)], rfl, rfl, ⟨⟨rfl, rfl⟩, ⟨rfl, rfl⟩, trivial⟩, _, wk (.inr ⟨rfl, rfl⟩) (.inr ⟨rfl, rfl⟩), rfl, rfl, rfl, d, k1, rfl⟩
  | cons p r =>
    refine ⟨rfl, ?_⟩
    refine ⟨fun g1 => go 300 ?_, fun g1 => absurd (not_lt_of g1) (by simp)⟩
    have hl : (0 : Int) < ((p :: r).length : Nat) := by simp
    refine ⟨rfl, by decide, hl, rfl, _, row_get d p r, ?_⟩
    refine ⟨fun g2 => go 300 ?_, fun g2 => go 300 ?_⟩
    · have e : rowRun r0 = ((p.keep, false, true), p :: r) := by rw [← k2, rowRun, g2]; rfl
      rw [e]
      exact ⟨trivial, rfl, rfl, [some (rowB d (p :: r) g), some (rowVec d (p :: r) g)], rfl, rfl, ⟨⟨rfl, rfl⟩, ⟨rfl, rfl⟩, trivial⟩, _, wk (.inr ⟨rfl, rfl⟩) (.inl ⟨rfl, rfl⟩), rfl, rfl, rfl, d, k1, rfl⟩
    · refine ⟨fun g3 => go 300 ?_, fun g3 => go 300 ?_⟩
      · have e : rowRun r0 = ((p.drop, true, true), p :: r) := by rw [← k2, rowRun, g2, g3]; rfl
        rw [e]
        exact ⟨trivial, rfl, rfl, [some (rowB d (p :: r) g), some (rowVec d (p :: r) g)], rfl, rfl, ⟨⟨rfl, rfl⟩, ⟨rfl, rfl⟩, trivial⟩, _, wk (.inl ⟨rfl, rfl⟩) (.inl ⟨rfl, rfl⟩), rfl, rfl, rfl, d, k1, rfl⟩
      · have e : rowRun r = rowRun r0 := by rw [← k2, rowRun, g2, g3]; rfl
        show Goes _ _ _ _
        refine goes_cutlo (h := 1) 300 rfl rfl rfl rfl rfl rfl rfl rfl rfl (by simp) ?_
        show Goes _ _ _ _
        have k1' : (d ++ [p]) ++ r = d0 ++ r0 := by rw [← k1]; simp
        refine next (d ++ [p], r) _ _ ⟨⟨k1', e, by simp only; simp at k3; omega⟩, by simp, ⟨⟨rfl, rfl⟩, trivial⟩, ⟨⟨?_, rfl⟩, ⟨?_, rfl⟩, trivial⟩⟩
        · show some (HObj.box [.osl (.loc 1) g (d.length + 1) ((p :: r).length - 1)]) = some (rowB (d ++ [p]) r g)
          simp [rowB]
        · show some (rowVec d (p :: r) g) = some (rowVec (d ++ [p]) r g)
          simp [rowVec]
def boxAt (k : Nat) (d r : List PieceT) (g : Nat) : HObj := .box [.osl (.loc k) g d.length r.length]
def rows2 (da a db b : List PieceT) (ga gb : Nat) : Heap := [some (boxAt 1 da a ga), some (rowVec da a ga), some (boxAt 3 db b gb), some (rowVec db b gb)]
def bothV (r : Int × Bool × Bool × Bool) : V := .tup [.int .i64 r.1, .bool r.2.1, .bool r.2.2.1, .bool r.2.2.2]
theorem rows2_take (n : Int) (da a db b : List PieceT) (ga gb : Nat) : [some (boxAt 1 da a ga), some (rowVec da (rowTake n a) ga), some (boxAt 3 db b gb), some (rowVec db (rowTake n b) gb)] = rows2 da (rowTake n a) db (rowTake n b) ga gb := by
  simp only [rows2, boxAt, rowTake_len]
set_option maxHeartbeats 1000000 in
set_option maxRecDepth 100000 in
theorem w_both (da a db b : List PieceT) (ga gb : Nat) (ha : RowOk a) (hb : RowOk b) : Fun Try.prog 129 (rows2 da a db b ga gb) [.ptr (.loc 0) 0, .ptr (.loc 2) 0] (fun x T => x = bothV (bothR a b).1 ∧ ∃ da' db', T = rows2 da' (bothR a b).2.1 db' (bothR a b).2.2 ga gb) := by
  have wk : ∀ {n : Int} {x y a b : Bool} {z : V}, x = a → y = b → z = .tt → Wk (.tup [.int .i64 n, .bool x, .bool y, z]) (bothV (n, a, b, true)) := by
    rintro n x y a b z rfl rfl rfl
    exact Wk.tup ⟨.refl _, .refl _, .refl _, Wk.tt, trivial⟩
  obtain ⟨oa, na, na'⟩ := rowRun_ok ha
  obtain ⟨ob, nb, nb'⟩ := rowRun_ok hb
  have ca := w_rowRun da a ga
  have cb := w_rowRun db b gb
  obtain ⟨⟨⟨n, x1, s1⟩, a'⟩, hra⟩ : ∃ z, rowRun a = z := ⟨_, rfl⟩
  obtain ⟨⟨⟨m, y1, s2⟩, b'⟩, hrb⟩ : ∃ z, rowRun b = z := ⟨_, rfl⟩
  have eb := bothR_eq hra hrb
  rw [hra] at oa na na' ca
  rw [hrb] at ob nb nb' cb
  rw [eb]
  clear eb hra hrb
  refine fun_wk (fun_fn 300 Try.func129 rfl rfl rfl fun imps B hi => ?_)
  show CallThen _ _ _ _ _ _
  refine call_sub [0, 1] ca rfl rfl ⟨⟨rfl, rfl⟩, ⟨rfl, rfl⟩, trivial⟩ rfl rfl rfl ?_
  rintro x T1 ⟨rfl, d1, -, rfl⟩
  refine ⟨rfl, ?_⟩
  show CallThen _ _ _ _ _ _
  refine call_sub [2, 3] cb rfl rfl ⟨⟨rfl, rfl⟩, ⟨rfl, rfl⟩, trivial⟩ rfl rfl rfl ?_
  rintro x T1 ⟨rfl, d2, -, rfl⟩
  refine ⟨rfl, ?_⟩
  cases s1 <;> cases s2 <;> (refine ⟨fun g1 => ?_, fun g1 => ?_⟩ <;> first | (cases g1; done) | skip)
  · refine go 300 ?_
    refine ⟨fun g2 => go 300 ?_, fun g2 => (by cases g2)⟩
    exact ⟨trivial, rfl, rfl, bothV (0, false, false, false), Wk.tup ⟨.refl _, Wk.ff, Wk.ff, Wk.ff, trivial⟩, rfl, rfl, rfl, d1, d2, rfl⟩
  · refine go 300 ?_
    refine ⟨fun g2 => (by cases g2), fun g2 => go 300 ?_⟩
    refine ⟨fun g3 => go 300 ?_, fun g3 => (by cases g3)⟩
    have hk : 0 ≤ m ∧ m ≤ 1000000000000 := ⟨nb, nb'⟩
    show CallThen _ _ _ _ _ _
    refine call_sub [1] (w_rowTake d1 a' ga m hk oa.p) rfl rfl ⟨⟨rfl, rfl⟩, trivial⟩ rfl rfl rfl ?_
    rintro x T1 ⟨rfl, rfl⟩
    refine ⟨rfl, ?_⟩
    show CallThen _ _ _ _ _ _
    refine call_sub [3] (w_rowTake d2 b' gb m hk ob.p) rfl rfl ⟨⟨rfl, rfl⟩, trivial⟩ rfl rfl rfl ?_
    rintro x T1 ⟨rfl, rfl⟩
    refine ⟨rfl, ?_⟩
    refine ⟨trivial, rfl, rfl, bothV (m, x1, y1, true), wk rfl rfl rfl, rfl, rfl, ?_, d1, d2, ?_⟩
    · rfl
    · exact rows2_take _ d1 a' d2 b' ga gb
  · refine go 300 ?_
    refine ⟨fun g3 => (by cases g3), fun g3 => go 300 ?_⟩
    refine ⟨fun g4 => (by cases g4), fun g4 => go 300 ?_⟩
    have hk : 0 ≤ n ∧ n ≤ 1000000000000 := ⟨na, na'⟩
    show CallThen _ _ _ _ _ _
    refine call_sub [1] (w_rowTake d1 a' ga n hk oa.p) rfl rfl ⟨⟨rfl, rfl⟩, trivial⟩ rfl rfl rfl ?_
    rintro x T1 ⟨rfl, rfl⟩
    refine ⟨rfl, ?_⟩
    show CallThen _ _ _ _ _ _
    refine call_sub [3] (w_rowTake d2 b' gb n hk ob.p) rfl rfl ⟨⟨rfl, rfl⟩, trivial⟩ rfl rfl rfl ?_
    rintro x T1 ⟨rfl, rfl⟩
    refine ⟨rfl, ?_⟩
    refine ⟨trivial, rfl, rfl, bothV (n, x1, y1, true), wk rfl rfl rfl, rfl, rfl, ?_, d1, d2, ?_⟩
    · rfl
    · exact rows2_take _ d1 a' d2 b' ga gb
  · refine go 300 ?_
    refine ⟨fun g3 => (by cases g3), fun g3 => go 300 ?_⟩
    refine ⟨fun g4 => go 300 ?_, fun g4 => (by cases g4)⟩
    have em : (if m < n then m else n) = min n m := by split <;> omega
    have hk : 0 ≤ (if m < n then m else n) ∧ (if m < n then m else n) ≤ 1000000000000 := by simp only at na na' nb nb'; split <;> omega
    show CallThen _ _ _ _ _ _
    refine call_sub [1] (w_rowTake d1 a' ga (if m < n then m else n) hk oa.p) rfl rfl ⟨⟨rfl, rfl⟩, trivial⟩ rfl rfl rfl ?_
    rintro x T1 ⟨rfl, rfl⟩
    refine ⟨rfl, ?_⟩
    show CallThen _ _ _ _ _ _
    refine call_sub [3] (w_rowTake d2 b' gb (if m < n then m else n) hk ob.p) rfl rfl ⟨⟨rfl, rfl⟩, trivial⟩ rfl rfl rfl ?_
    rintro x T1 ⟨rfl, rfl⟩
    refine ⟨rfl, ?_⟩
    refine ⟨trivial, rfl, rfl, bothV ((if m < n then m else n), x1, y1, true), wk rfl rfl rfl, rfl, rfl, ?_, d1, d2, ?_⟩
    · rw [em]; rfl
    · rw [em]; exact rows2_take _ d1 a' d2 b' ga gb
end Bow
/- W58: leaftext.Transform. -/
namespace Bow
open Go Go.Proofs

theorem mk_len {m : Mk} (hok : m.Ok) (hw : m.w ≤ 1000000000000) : m.l.length ≤ 1000000000000 ∧ ∀ p ∈ m.l, p.put.length ≤ 1000000000000 := by
  have h1 := sumW_len hok.l
  have h2 := hok.k
  unfold Mk.w at hw
  refine ⟨by omega, fun p hp => ?_⟩
  have h3 := sumW_mem hok.l p hp
  have h4 := (hok.l p hp).k
  have h5 := (hok.l p hp).d
  unfold PieceT.w at h3
  omega
theorem mk_keep {m : Mk} (hok : m.Ok) : m.keep ≤ m.w := by
  have h1 := sumW_len hok.l
  unfold Mk.w
  omega
set_option maxRecDepth 100000 in
theorem w_done (m : Mk) (g : Nat) (hok : m.Ok) (hw : m.w ≤ 1000000000000) : Fun Try.prog 131 (mkT m g) [.ptr (.loc 0) 0] (fun x T => x = .tup [.osl (.loc 1) g 0 m.l.length, .bool (rightP m.l)] ∧ T = mkT m g) := by
  obtain ⟨h1, h2⟩ := mk_len hok hw
  have cr := w_RightW m.l h1 h2
  refine fun_fn 300 Try.func131 rfl rfl rfl fun imps B hi => ?_
  show Goes _ _ _ _
  refine goes_draw 300 ⟨rfl, by simp, _, cr, rfl, ?_⟩
  refine ⟨by kernel_rfl, ?_⟩
  exact ⟨trivial, rfl, rfl, rfl, rfl⟩

def mkAt (k : Nat) (m : Mk) (g : Nat) : HObj := .box [.osl (.loc k) g 0 m.l.length, .int .i64 m.keep]
/-- What the closure holds: the rows, which one is prior, the makers. -/
def putsT (prior : Bool) (da db : List PieceT) (s : Tr) (ga gb gx gy : Nat) : Heap :=
  [some (boxAt 1 da s.p ga), some (rowVec da s.p ga), some (boxAt 3 db s.q gb), some (rowVec db s.q gb), some (.box [.bool prior]), some (mkAt 6 s.x gx), some (mkVec s.x gx), some (mkAt 8 s.y gy), some (mkVec s.y gy)]
theorem putsT_len (prior : Bool) (da db p p' q q' : List PieceT) (x y : Mk) (ga gb gx gy : Nat) (h1 : p'.length = p.length) (h2 : q'.length = q.length) :
    [some (boxAt 1 da p ga), some (rowVec da p' ga), some (boxAt 3 db q gb), some (rowVec db q' gb), some (.box [.bool prior]), some (mkAt 6 x gx), some (mkVec x gx), some (mkAt 8 y gy), some (mkVec y gy)] = putsT prior da db ⟨p', q', x, y⟩ ga gb gx gy := by
  simp only [putsT, boxAt, h1, h2]

set_option pp.maxSteps 300 in
set_option maxHeartbeats 1000000 in
set_option maxRecDepth 100000 in
theorem w_puts (prior : Bool) (da db : List PieceT) (s : Tr) (ga gb gx gy : Nat) (hp : RowOk s.p) (hq : RowOk s.q) (hx : s.x.Ok) (hy : s.y.Ok) (wx : s.x.w + rowR s.p + rowR s.q ≤ 900000000000) (wy : s.y.w + rowR s.p + rowR s.q ≤ 900000000000) :
    Fun Try.prog 126 (putsT prior da db s ga gb gx gy) [.ptr (.loc 0) 0, .ptr (.loc 2) 0, .ptr (.loc 4) 0, .ptr (.loc 5) 0, .ptr (.loc 7) 0] (fun x T => x = .tup [] ∧ ∃ gx' gy', T = putsT prior da db (s.puts prior) ga gb gx' gy') := by
  obtain ⟨p, q, x, y⟩ := s
  simp only at hp hq hx hy wx wy
  have cp := w_rowPut da p ga
  have cq := w_rowPut db q gb
  have lp := rowPut_len p
  have lq := rowPut_len q
  obtain ⟨-, rp, -, bp⟩ := rowPut_ok hp
  obtain ⟨-, rq, -, bq⟩ := rowPut_ok hq
  have np := rowR_nn (rowPut_ok hp).1.nn
  have nq := rowR_nn (rowPut_ok hq).1.nn
  have nx := hx.k
  have ny := hy.k
  have e : Tr.puts prior ⟨p, q, x, y⟩ = bif prior then ⟨(rowPut p).2, (rowPut q).2, (x.put (rowPut p).1).kept (rowPut q).1.length, (y.kept (rowPut p).1.length).put (rowPut q).1⟩ else ⟨(rowPut p).2, (rowPut q).2, (x.kept (rowPut q).1.length).put (rowPut p).1, (y.put (rowPut q).1).kept (rowPut p).1.length⟩ := rfl
  rw [e]
  clear e
  obtain ⟨⟨a, p'⟩, ha⟩ : ∃ z, rowPut p = z := ⟨_, rfl⟩
  obtain ⟨⟨b, q'⟩, hb⟩ : ∃ z, rowPut q = z := ⟨_, rfl⟩
  rw [ha] at cp lp rp bp np ⊢
  rw [hb] at cq lq rq bq nq ⊢
  simp only at lp rp bp np lq rq bq nq
  clear ha hb
  refine fun_keep 9 rfl (fun_fn 300 Try.func126 rfl rfl rfl fun imps B hi => ?_)
  show CallThen _ _ _ _ _ _
  refine call_sub [1] cp rfl rfl ⟨⟨rfl, rfl⟩, trivial⟩ rfl rfl rfl ?_
  rintro z T1 ⟨rfl, rfl⟩
  refine ⟨rfl, ?_⟩
  show CallThen _ _ _ _ _ _
  refine call_sub [3] cq rfl rfl ⟨⟨rfl, rfl⟩, trivial⟩ rfl rfl rfl ?_
  rintro z T1 ⟨rfl, rfl⟩
  refine ⟨rfl, ?_⟩
  refine ⟨fun g1 => go 300 ?_, fun g1 => go 300 ?_⟩
  · subst g1
    show CallThen _ _ _ _ _ _
    refine call_sub [5, 6] (w_mkPut x gx a hx (by omega) (by omega)) rfl rfl ⟨⟨rfl, rfl⟩, ⟨rfl, rfl⟩, trivial⟩ rfl rfl rfl ?_
    rintro z T1 ⟨gx', rfl, rfl⟩
    refine ⟨rfl, ?_⟩
    obtain ⟨x1, x2⟩ := Mk.put_ok (s := a) hx
    have x3 := mk_keep x1
    have x4 := x1.k
    have y3 := mk_keep hy
    obtain ⟨y1, y2⟩ := Mk.kept_ok (n := (a.length : Int)) hy (Int.natCast_nonneg _)
    refine ⟨by constructor <;> (simp only; omega), ?_⟩
    refine ⟨by constructor <;> (simp only; omega), ?_⟩
    show CallThen _ _ _ _ _ _
    refine call_sub [7, 8] (w_mkPut (y.kept a.length) gy b y1 (by omega) (by omega)) rfl rfl ⟨⟨rfl, rfl⟩, ⟨rfl, rfl⟩, trivial⟩ rfl rfl rfl ?_
    rintro z T1 ⟨gy', rfl, rfl⟩
    refine ⟨rfl, ?_⟩
    refine ⟨trivial, rfl, rfl, putsT true da db ⟨p', q', (x.put a).kept b.length, (y.kept a.length).put b⟩ ga gb gx' gy', rfl, rfl, ?_, rfl, gx', gy', rfl⟩
    rw [← putsT_len true da db p p' q q' _ _ ga gb gx' gy' lp lq]
    exact ⟨⟨rfl, rfl⟩, ⟨rfl, rfl⟩, ⟨rfl, rfl⟩, ⟨rfl, rfl⟩, ⟨rfl, rfl⟩, ⟨rfl, rfl⟩, ⟨rfl, rfl⟩, ⟨rfl, rfl⟩, ⟨rfl, rfl⟩, trivial⟩
  · subst g1
    show CallThen _ _ _ _ _ _
    refine call_sub [7, 8] (w_mkPut y gy b hy (by omega) (by omega)) rfl rfl ⟨⟨rfl, rfl⟩, ⟨rfl, rfl⟩, trivial⟩ rfl rfl rfl ?_
    rintro z T1 ⟨gy', rfl, rfl⟩
    refine ⟨rfl, ?_⟩
    obtain ⟨y1, y2⟩ := Mk.put_ok (s := b) hy
    have y3 := mk_keep y1
    have y4 := y1.k
    have x3 := mk_keep hx
    obtain ⟨x1, x2⟩ := Mk.kept_ok (n := (b.length : Int)) hx (Int.natCast_nonneg _)
    refine ⟨by constructor <;> (simp only; omega), ?_⟩
    refine ⟨by constructor <;> (simp only; omega), ?_⟩
    show CallThen _ _ _ _ _ _
    refine call_sub [5, 6] (w_mkPut (x.kept b.length) gx a x1 (by omega) (by omega)) rfl rfl ⟨⟨rfl, rfl⟩, ⟨rfl, rfl⟩, trivial⟩ rfl rfl rfl ?_
    rintro z T1 ⟨gx', rfl, rfl⟩
    refine ⟨rfl, ?_⟩
    refine ⟨trivial, rfl, rfl, putsT false da db ⟨p', q', (x.kept b.length).put a, (y.put b).kept a.length⟩ ga gb gx' gy', rfl, rfl, ?_, rfl, gx', gy', rfl⟩
    rw [← putsT_len false da db p p' q q' _ _ ga gb gx' gy' lp lq]
    exact ⟨⟨rfl, rfl⟩, ⟨rfl, rfl⟩, ⟨rfl, rfl⟩, ⟨rfl, rfl⟩, ⟨rfl, rfl⟩, ⟨rfl, rfl⟩, ⟨rfl, rfl⟩, ⟨rfl, rfl⟩, ⟨rfl, rfl⟩, trivial⟩
end Bow
/- W59: leaftext.Transform, whole. -/
namespace Bow
open Go Go.Proofs

def TransV (r : List PieceT × List PieceT × Int) : V := .tup [piecesV r.1, piecesV r.2.1, .int .i64 r.2.2]
theorem transZ {e : Int} {R : List PieceT × List PieceT × Int} (h : R = ([], [], e)) : ∃ y, Wk (.tup [.nilsl, .nilsl, .int .i64 e]) y ∧ y.pureB = true ∧ y = TransV R := ⟨TransV ([], [], e), Wk.tup ⟨Wk.nil 3, Wk.nil 3, .refl _, trivial⟩, rfl, by rw [h]⟩
structure TrI where
  f : Nat
  s : Tr
  d1 : List PieceT
  d2 : List PieceT
  gx : Nat
  gy : Nat
def trT (prior : Bool) (j1 j2 : HObj) (ga gb : Nat) (i : TrI) : Heap :=
  [some (.box [.bool prior]), some j1, some (rowVec i.d1 i.s.p ga), some j2, some (rowVec i.d2 i.s.q gb), some (boxAt 2 i.d1 i.s.p ga), some (boxAt 4 i.d2 i.s.q gb), some (mkAt 9 i.s.x i.gx), some (mkAt 10 i.s.y i.gy), some (mkVec i.s.x i.gx), some (mkVec i.s.y i.gy)]

set_option maxHeartbeats 4000000 in
set_option maxRecDepth 100000 in
theorem w_Trans (a b : List PieceT) (prior : Bool) (ha : a.length ≤ 1000000) (hb : b.length ≤ 1000000) (pa : ∀ p ∈ a, p.put.length ≤ 1000000000) (pb : ∀ p ∈ b, p.put.length ≤ 1000000000) :
    Pure Try.prog 118 [piecesV a, piecesV b, .bool prior] (fun x => x = TransV (transP a b prior)) := by
  obtain ⟨R, hR⟩ : ∃ R, transP a b prior = R := ⟨_, rfl⟩
  rw [hR]
  refine pure_wk (pure_fn 300 Try.func118 rfl rfl rfl fun B => ?_)
  have bad : (rightP a = false ∨ rightP b = false) → R = ([], [], 2) := fun h => by
    rw [← hR]
    unfold transP
    rcases h with h | h
    · rw [h]; rfl
    · rw [h]; cases rightP a <;> rfl
  show CallThen _ _ _ _ _ _
  refine call_pure (w_Right a ha pa) rfl ?_
  rintro x rfl
  refine ⟨fun g1 => go 300 ?_, fun g1 => go 300 ?_⟩
  · exact ⟨trivial, rfl, rfl, rfl, transZ (bad (.inl (by simpa using g1)))⟩
  have ra : rightP a = true := by simpa using g1
  show CallThen _ _ _ _ _ _
  refine call_pure (w_Right b hb pb) rfl ?_
  rintro x rfl
  refine ⟨fun g2 => go 300 ?_, fun g2 => go 300 ?_⟩
  · exact ⟨trivial, rfl, rfl, rfl, transZ (bad (.inr (by simpa using g2)))⟩
  have rb : rightP b = true := by simpa using g2
  obtain ⟨na, sa⟩ := right_nn ra
  obtain ⟨nb, sb⟩ := right_nn rb
  obtain ⟨oa, wa⟩ := norm_ok ra
  obtain ⟨ob, wb⟩ := norm_ok rb
  have la := sumW_len na
  have lb := sumW_len nb
  show CallThen _ _ _ _ _ _
  refine call_sub [] (w_norm a na (by omega) (by omega)) rfl rfl trivial rfl rfl rfl ?_
  rintro x T1 ⟨ga, ka, rfl, rfl⟩
  refine ⟨rfl, ?_⟩
  show CallThen _ _ _ _ _ _
  refine call_sub [] (w_norm b nb (by omega) (by omega)) rfl rfl trivial rfl rfl rfl ?_
  rintro x T1 ⟨gb, kb, rfl, rfl⟩
  refine ⟨rfl, ?_⟩
  show Goes _ _ _ _
  refine goes_ownCell 7 0 3 rfl rfl ?_
  refine goes_ownCell 8 0 3 rfl rfl ?_
  obtain ⟨fin, hfin⟩ : ∃ fin, Tr.go prior (extN (normP a) + extN (normP b) + 1) ⟨normP a, normP b, Mk.nil, Mk.nil⟩ = fin := ⟨_, rfl⟩
  have good : R = bif !rightP fin.x.l || !rightP fin.y.l then ([], [], 3) else (fin.x.l, fin.y.l, 0) := by
    rw [← hR]
    unfold transP
    rw [ra, rb, hfin]
    rfl
  refine goes_iter (ι := TrI) (fun i => i.s.Ok ∧ extN i.s.p + extN i.s.q < i.f ∧ Tr.go prior i.f i.s = fin) (fun i => i.f)
    (fun _ => [(13, .fn (.func 126) [] [.ptr (.loc 5) 0, .ptr (.loc 6) 0, .ptr (.loc 0) 0, .ptr (.loc 7) 0, .ptr (.loc 8) 0]), (9, .ptr (.loc 5) 0), (10, .ptr (.loc 6) 0), (11, .ptr (.loc 7) 0), (12, .ptr (.loc 8) 0)])
    (trT prior (.box [.osl (.loc 2) ga 0 (normP a).length, .int .i64 ka]) (.box [.osl (.loc 4) gb 0 (normP b).length, .int .i64 kb]) ga gb)
    ⟨extN (normP a) + extN (normP b) + 1, ⟨normP a, normP b, Mk.nil, Mk.nil⟩, [], [], 0, 0⟩ 300 (fun _ => rfl) (fun _ => rfl) ⟨⟨⟨oa, ob, Mk.nil_ok, Mk.nil_ok, ?_, ?_⟩, Nat.lt_succ_self _, hfin⟩, ⟨⟨rfl, rfl⟩, ⟨rfl, rfl⟩, ⟨rfl, rfl⟩, ⟨rfl, rfl⟩, ⟨rfl, rfl⟩, trivial⟩,
      ⟨⟨rfl, rfl⟩, ⟨rfl, rfl⟩, ⟨rfl, rfl⟩, ⟨rfl, rfl⟩, ⟨rfl, rfl⟩, ⟨rfl, rfl⟩, ⟨rfl, rfl⟩, ⟨rfl, rfl⟩, ⟨rfl, rfl⟩, ⟨rfl, rfl⟩, ⟨rfl, rfl⟩, trivial⟩⟩ ?_
  · show (0 : Int) + sumW [] + 3 * (rowR (normP a) + rowR (normP b)) ≤ _
    simp only [sumW]; omega
  · show (0 : Int) + sumW [] + 3 * (rowR (normP a) + rowR (normP b)) ≤ _
    simp only [sumW]; omega
  rintro ⟨f, s, d1, d2, gx, gy⟩ ⟨k1, k2, k3⟩ next
  simp only at k1 k2 k3
  obtain ⟨f, rfl⟩ : ∃ f', f = f' + 1 := ⟨f - 1, by omega⟩
  have rp := rowR_nn k1.p.nn
  have rq := rowR_nn k1.q.nn
  have wx := k1.wx
  have wy := k1.wy
  obtain ⟨o1, e1, e2⟩ := Tr.puts_ok k1 prior
  show CallThen _ _ _ _ _ _
  refine call_sub [5, 2, 6, 4, 0, 7, 9, 8, 10] (w_puts prior d1 d2 s ga gb gx gy k1.p k1.q k1.x k1.y (by omega) (by omega)) rfl rfl
    ⟨⟨rfl, rfl⟩, ⟨rfl, rfl⟩, ⟨rfl, rfl⟩, ⟨rfl, rfl⟩, ⟨rfl, rfl⟩, ⟨rfl, rfl⟩, ⟨rfl, rfl⟩, ⟨rfl, rfl⟩, ⟨rfl, rfl⟩, trivial⟩ rfl rfl rfl ?_
  rintro z T1 ⟨rfl, gx', gy', rfl⟩
  refine ⟨rfl, ?_⟩
  obtain ⟨⟨p, q, x, y⟩, hs1⟩ : ∃ z, s.puts prior = z := ⟨_, rfl⟩
  rw [hs1] at o1 e1 e2 ⊢
  obtain ⟨op, oq, ox, oy, ux, uy⟩ := o1
  simp only at op oq ox oy ux uy e1 e2
  have rp' := rowR_nn op.nn
  have rq' := rowR_nn oq.nn
  obtain ⟨b1, b2, b3, b4, b5, b6⟩ := bothR_ok op oq
  have cb := w_both d1 p d2 q ga gb op oq
  obtain ⟨⟨⟨n, d, g, any⟩, p', q'⟩, hb1⟩ : ∃ z, bothR p q = z := ⟨_, rfl⟩
  have hgo := Tr.go_succ (f := f) hs1 hb1
  rw [hb1] at b1 b2 b3 b4 b5 b6 cb
  simp only at b1 b2 b3 b4 b5 b6
  show CallThen _ _ _ _ _ _
  refine call_sub [5, 2, 6, 4] cb rfl rfl ⟨⟨rfl, rfl⟩, ⟨rfl, rfl⟩, ⟨rfl, rfl⟩, ⟨rfl, rfl⟩, trivial⟩ rfl rfl rfl ?_
  rintro z T1 ⟨rfl, d1', d2', rfl⟩
  refine ⟨rfl, ?_⟩
  refine ⟨fun g3 => go 300 ?_, fun g3 => go 300 ?_⟩
  · have ha' : any = false := by simpa using g3
    subst ha'
    have hfx : fin = ⟨p', q', x, y⟩ := by rw [← k3, hgo]; rfl
    rw [hfx] at good
    simp only at good
    show CallThen _ _ _ _ _ _
    refine call_sub [7, 9] (w_done x gx' ox (by omega)) rfl rfl ⟨⟨rfl, rfl⟩, ⟨rfl, rfl⟩, trivial⟩ rfl rfl rfl ?_
    rintro z T1 ⟨rfl, rfl⟩
    refine ⟨rfl, ?_⟩
    show CallThen _ _ _ _ _ _
    refine call_sub [8, 10] (w_done y gy' oy (by omega)) rfl rfl ⟨⟨rfl, rfl⟩, ⟨rfl, rfl⟩, trivial⟩ rfl rfl rfl ?_
    rintro z T1 ⟨rfl, rfl⟩
    refine ⟨rfl, ?_⟩
    refine ⟨fun g4 => go 300 ?_, fun g4 => go 300 ?_⟩
    · have g4 : rightP x.l = false := by simpa using g4
      exact ⟨trivial, rfl, rfl, rfl, transZ (by rw [good, g4]; rfl)⟩
    have g4 : rightP x.l = true := by simpa using g4
    refine ⟨fun g5 => go 300 ?_, fun g5 => go 300 ?_⟩
    · have g5 : rightP y.l = false := by simpa using g5
      exact ⟨trivial, rfl, rfl, rfl, transZ (by rw [good, g4, g5]; rfl)⟩
    have g5 : rightP y.l = true := by simpa using g5
    have hres : TransV (x.l, y.l, 0) = TransV R := by rw [good, g4, g5]; rfl
    refine ⟨trivial, rfl, rfl, ?_⟩
    refine ⟨rfl, ?_⟩
    refine ⟨by simp, ?_⟩
    refine ⟨rfl, ?_⟩
    refine ⟨by simp, ?_⟩
    refine ⟨rfl, ?_⟩
    exact ⟨TransV (x.l, y.l, 0), Wk.refl _, rfl, hres⟩
  · have ha' : any = true := by simpa using g3
    subst ha'
    have cc := b5 rfl
    have c1 := cc.1
    have c2 := cc.2.1
    have c3 := cc.2.2
    have q1 : (Tr.does ⟨p', q', x, y⟩ n d g).Ok := (Tr.does_ok (p := p') (q := q') (x := x) (y := y) (n := n) (R := rowR p + rowR q) b1 b2 ox oy b3 c2 ux uy d g).1
    have hnext : Tr.go prior f (Tr.does ⟨p', q', x, y⟩ n d g) = fin := by rw [← k3, hgo]; rfl
    have hext : extN p' + extN q' < f := by omega
    refine ⟨fun g4 => go 300 ?_, fun g4 => go 300 ?_⟩
    · have g4 : d = true := g4
      subst g4
      refine ⟨fun g5 => go 300 ?_, fun g5 => go 300 ?_⟩
      · have g5 : g = true := g5
        subst g5
        show Goes _ _ _ _
        refine next ⟨f, ⟨p', q', x, y⟩, d1', d2', gx', gy'⟩ _ _ ⟨⟨q1, hext, hnext⟩, Nat.lt_succ_self _, ⟨⟨rfl, rfl⟩, ⟨rfl, rfl⟩, ⟨rfl, rfl⟩, ⟨rfl, rfl⟩, ⟨rfl, rfl⟩, trivial⟩,
          ⟨⟨rfl, rfl⟩, ⟨rfl, rfl⟩, ⟨rfl, rfl⟩, ⟨rfl, rfl⟩, ⟨rfl, rfl⟩, ⟨rfl, rfl⟩, ⟨rfl, rfl⟩, ⟨rfl, rfl⟩, ⟨rfl, rfl⟩, ⟨rfl, rfl⟩, ⟨rfl, rfl⟩, trivial⟩⟩
      · have g5 : g = false := g5
        subst g5
        refine ⟨fun _ => go 300 ?_, fun h => (by cases h)⟩
        show CallThen _ _ _ _ _ _
        refine call_sub [7, 9] (w_mkDrop x gx' n ox (by omega) b4) rfl rfl ⟨⟨rfl, rfl⟩, ⟨rfl, rfl⟩, trivial⟩ rfl rfl rfl ?_
        rintro z T1 ⟨gx2, rfl, rfl⟩
        refine ⟨rfl, ?_⟩
        show Goes _ _ _ _
        refine next ⟨f, ⟨p', q', x.drop n, y⟩, d1', d2', gx2, gy'⟩ _ _ ⟨⟨q1, hext, hnext⟩, Nat.lt_succ_self _, ⟨⟨rfl, rfl⟩, ⟨rfl, rfl⟩, ⟨rfl, rfl⟩, ⟨rfl, rfl⟩, ⟨rfl, rfl⟩, trivial⟩,
          ⟨⟨rfl, rfl⟩, ⟨rfl, rfl⟩, ⟨rfl, rfl⟩, ⟨rfl, rfl⟩, ⟨rfl, rfl⟩, ⟨rfl, rfl⟩, ⟨rfl, rfl⟩, ⟨rfl, rfl⟩, ⟨rfl, rfl⟩, ⟨rfl, rfl⟩, ⟨rfl, rfl⟩, trivial⟩⟩
    · have g4 : d = false := g4
      subst g4
      refine ⟨fun h => (by cases h), fun _ => go 300 ?_⟩
      refine ⟨fun g5 => go 300 ?_, fun g5 => go 300 ?_⟩
      · have g5 : g = true := g5
        subst g5
        show CallThen _ _ _ _ _ _
        refine call_sub [8, 10] (w_mkDrop y gy' n oy (by omega) b4) rfl rfl ⟨⟨rfl, rfl⟩, ⟨rfl, rfl⟩, trivial⟩ rfl rfl rfl ?_
        rintro z T1 ⟨gy2, rfl, rfl⟩
        refine ⟨rfl, ?_⟩
        show Goes _ _ _ _
        refine next ⟨f, ⟨p', q', x, y.drop n⟩, d1', d2', gx', gy2⟩ _ _ ⟨⟨q1, hext, hnext⟩, Nat.lt_succ_self _, ⟨⟨rfl, rfl⟩, ⟨rfl, rfl⟩, ⟨rfl, rfl⟩, ⟨rfl, rfl⟩, ⟨rfl, rfl⟩, trivial⟩,
          ⟨⟨rfl, rfl⟩, ⟨rfl, rfl⟩, ⟨rfl, rfl⟩, ⟨rfl, rfl⟩, ⟨rfl, rfl⟩, ⟨rfl, rfl⟩, ⟨rfl, rfl⟩, ⟨rfl, rfl⟩, ⟨rfl, rfl⟩, ⟨rfl, rfl⟩, ⟨rfl, rfl⟩, trivial⟩⟩
      · have g5 : g = false := g5
        subst g5
        have x3 := mk_keep ox
        have y3 := mk_keep oy
        have x4 := ox.k
        have y4 := oy.k
        refine ⟨by constructor <;> (simp only; omega), ?_⟩
        refine ⟨by constructor <;> (simp only; omega), ?_⟩
        show Goes _ _ _ _
        refine next ⟨f, ⟨p', q', x.kept n, y.kept n⟩, d1', d2', gx', gy'⟩ _ _ ⟨⟨q1, hext, hnext⟩, Nat.lt_succ_self _, ⟨⟨rfl, rfl⟩, ⟨rfl, rfl⟩, ⟨rfl, rfl⟩, ⟨rfl, rfl⟩, ⟨rfl, rfl⟩, trivial⟩,
          ⟨⟨rfl, rfl⟩, ⟨rfl, rfl⟩, ⟨rfl, rfl⟩, ⟨rfl, rfl⟩, ⟨rfl, rfl⟩, ⟨rfl, rfl⟩, ⟨rfl, rfl⟩, ⟨rfl, rfl⟩, ⟨rfl, rfl⟩, ⟨rfl, rfl⟩, ⟨rfl, rfl⟩, trivial⟩⟩
end Bow
/- W60: two edits of one leaf; square.Behind and Both, whole. -/
namespace Bow
open Go Go.Proofs

set_option pp.maxSteps 300 in
set_option maxHeartbeats 8000000 in
set_option maxRecDepth 100000 in
theorem w_rowE (b a : OpT) (prior : Bool) (ha : a.Ok) (_hb : b.Ok) (sa : soundO a = true) (sb : soundO b = true) (he : bothEdit b a = true) :
    Fun Try.prog 111 [] [opV b, opV a, .bool prior] (fun x T => ∃ g, x = .tup [.osl (.loc 2) g 0 1, .int .i64 (transP b.pieces a.pieces prior).2.2] ∧ T = [some (.box (opV (editO b a prior)).cells), some (.box (opV a).cells), some (.vec g 11 [opV (editO b a prior)])]) := by
  unfold bothEdit at he
  simp only [Bool.and_eq_true, decide_eq_true_eq] at he
  obtain ⟨k1, k2, k3⟩ := he
  have fa : formedB a = true := by unfold soundO at sa; rw [Bool.and_eq_true] at sa; exact sa.1
  have fb : formedB b = true := by unfold soundO at sb; rw [Bool.and_eq_true] at sb; exact sb.1
  have pa := may_len (formed_path fa)
  obtain ⟨l1, l2⟩ := right_bounds (formed_pieces fa k1)
  obtain ⟨l3, l4⟩ := right_bounds (formed_pieces fb k2)
  have hw : wonO b a = false := by unfold wonO; simp [k1, k2]
  have ct := w_Trans b.pieces a.pieces prior (by omega) (by omega) l4 l2
  have ee : editO b a prior = { b with pieces := (transP b.pieces a.pieces prior).1 } := rfl
  rw [ee]
  clear ee
  obtain ⟨⟨r1, r2, e⟩, hr⟩ : ∃ r, transP b.pieces a.pieces prior = r := ⟨_, rfl⟩
  rw [hr] at ct ⊢
  refine fun_fn 300 Try.func111 rfl rfl rfl fun imps B hi => ?_
  have : imps = [] := List.length_eq_zero_iff.1 hi
  subst this
  refine ⟨fun g1 => absurd (eq_of g1) (by omega), fun g1 => go 300 ?_⟩
  show CallThen _ _ _ _ _ _
  refine call_pure (w_won b a ha) rfl ?_
  rw [hw]
  rintro x rfl
  refine ⟨fun g2 => (by cases g2), fun g2 => go 300 ?_⟩
  refine ⟨fun g3 => go 300 ?_, fun g3 => absurd (eq_of' g3) (by omega)⟩
  refine ⟨fun g4 => go 300 ?_, fun g4 => absurd k1 (ne_of g4)⟩
  refine ⟨fun g5 => go 300 ?_, fun g5 => absurd k2 (ne_of g5)⟩
  show CallThen _ _ _ _ _ _
  refine call_pure (w_pathSame a.path b.path (by omega)) rfl ?_
  rw [decide_eq_true k3]
  rintro x rfl
  refine ⟨fun g6 => go 300 ?_, fun g6 => (by cases g6)⟩
  show CallThen _ _ _ _ _ _
  refine call_pure ct rfl ?_
  rintro x rfl
  refine ⟨⟨rfl, trivial⟩, ?_⟩
  exact ⟨trivial, rfl, rfl, _, rfl, rfl⟩

theorem edit_lt {b a : OpT} {prior : Bool} (hb : b.Ok) : (editO b a prior).Lt 1000000 ∧ ∀ p ∈ (editO b a prior).pieces, p.put.length ≤ 1000000000 := by
  obtain ⟨h1, h2⟩ := right_bounds (trans_right b.pieces a.pieces prior).1
  exact ⟨⟨hb.lt.path, hb.lt.to, hb.lt.label, hb.lt.key, hb.lt.value, by show (transP b.pieces a.pieces prior).1.length ≤ _; omega⟩, h2⟩
theorem behZ' {e : Int} {R : List OpT × Int} (h : R = ([], e)) : ∃ y, Wk (.tup [.nilsl, .int .i64 e]) y ∧ y.pureB = true ∧ y = BehV R := ⟨BehV ([], e), Wk.tup ⟨Wk.nil 11, .refl _, trivial⟩, rfl, by rw [h]⟩
set_option pp.maxSteps 300 in
set_option maxHeartbeats 4000000 in
set_option maxRecDepth 100000 in
theorem w_BehindE (b a : OpT) (prior : Bool) (ha : a.Ok) (hb : b.Ok) (he : bothEdit b a = true) :
    Pure Try.prog 99 [opV b, opV a, .bool prior] (fun x => x = BehV (behindE b a prior)) := by
  obtain ⟨R, hR⟩ : ∃ R, behindE b a prior = R := ⟨_, rfl⟩
  rw [hR]
  obtain ⟨hlt, hput⟩ := edit_lt (a := a) (prior := prior) hb
  refine pure_wk (pure_fn 300 Try.func99 rfl rfl rfl fun B => ?_)
  show CallThen _ _ _ _ _ _
  refine call_pure (w_sound a ha) rfl ?_
  rintro x rfl
  refine ⟨fun g1 => go 300 ?_, fun g1 => go 300 ?_⟩
  · have g1 : soundO a = false := by simpa using g1
    exact ⟨trivial, rfl, rfl, rfl, behZ' (by rw [← hR]; unfold behindE; rw [g1]; rfl)⟩
  have sa : soundO a = true := by simpa using g1
  show CallThen _ _ _ _ _ _
  refine call_pure (w_sound b hb) rfl ?_
  rintro x rfl
  refine ⟨fun g2 => go 300 ?_, fun g2 => go 300 ?_⟩
  · have g2 : soundO b = false := by simpa using g2
    exact ⟨trivial, rfl, rfl, rfl, behZ' (by rw [← hR]; unfold behindE; rw [sa, g2]; rfl)⟩
  have sb : soundO b = true := by simpa using g2
  have hrow := w_rowE b a prior ha hb sa sb he
  have e0 : R = bif decide ((transP b.pieces a.pieces prior).2.2 = 0) && formedB (editO b a prior) then ([bareO (editO b a prior)], 0) else ([], 3) := by
    rw [← hR]; unfold behindE; rw [sa, sb]; rfl
  obtain ⟨o, ho⟩ : ∃ o, editO b a prior = o := ⟨_, rfl⟩
  obtain ⟨e, hee⟩ : ∃ e, (transP b.pieces a.pieces prior).2.2 = e := ⟨_, rfl⟩
  rw [ho, hee] at hrow e0
  rw [ho] at hlt hput
  show CallThen _ _ _ _ _ _
  refine call_sub [] hrow rfl rfl trivial rfl rfl rfl ?_
  rintro x T1 ⟨G, rfl, rfl⟩
  refine ⟨rfl, ?_⟩
  refine ⟨fun g3 => go 300 ?_, fun g3 => go 300 ?_⟩
  · have g3 := ne_of' g3
    exact ⟨trivial, rfl, rfl, rfl, behZ' (by rw [e0, decide_eq_false g3]; rfl)⟩
  have g3 := eq_of' g3
  rw [decide_eq_true g3] at e0
  refine ⟨rfl, ?_⟩
  show Goes _ _ _ _
  refine goes_loop ?_
  refine go 300 ?_
  refine ⟨fun _ => go 300 ?_, fun h => absurd (not_lt_of h) (by decide)⟩
  refine ⟨rfl, by decide, by decide, rfl, _, rfl, ?_⟩
  show CallThen _ _ _ _ _ _
  refine call_pure (w_Formed o hlt hput) rfl ?_
  rintro x rfl
  refine ⟨fun g4 => go 300 ?_, fun g4 => go 300 ?_⟩
  · have g4 : formedB o = false := by simpa using g4
    exact ⟨trivial, rfl, rfl, rfl, behZ' (by rw [e0, g4]; rfl)⟩
  have g4 : formedB o = true := by simpa using g4
  rw [g4] at e0
  show CallThen _ _ _ _ _ _
  refine call_pure (w_Bare o hlt) rfl ?_
  rintro x rfl
  refine ⟨rfl, by decide, by decide, rfl, _, rfl, ?_⟩
  refine ⟨⟨by decide, by decide⟩, ?_⟩
  show Goes _ _ _ _
  refine goes_inLoop ?_
  refine go 300 ?_
  refine ⟨fun h => absurd (lt_of h) (by decide), fun _ => go 300 ?_⟩
  have hres : BehV ([bareO o], 0) = BehV R := by rw [e0]; rfl
  exact ⟨trivial, rfl, rfl, rfl, rfl, rfl, BehV ([bareO o], 0), Wk.refl _, rfl, hres⟩
theorem w_BehindX (b a : OpT) (prior : Bool) (ha : a.Ok) (hb : b.Ok) (hto : a.to.length ≤ 1000 ∧ b.to.length ≤ 1000) :
    Pure Try.prog 99 [opV b, opV a, .bool prior] (fun x => x = BehV (behindX b a prior)) := by
  unfold behindX
  cases he : bothEdit b a with
  | true => exact w_BehindE b a prior ha hb he
  | false => exact w_Behind b a prior ha hb he hto

set_option maxRecDepth 100000 in
theorem w_BothX (a b : OpT) (prior : Bool) (ha : a.Ok) (hb : b.Ok) (hto : a.to.length ≤ 1000 ∧ b.to.length ≤ 1000) :
    Pure Try.prog 66 [opV a, opV b, .bool prior] (fun x => x = BothV (bothX a b prior)) := by
  refine pure_wk (pure_fn 300 Try.func66 rfl rfl rfl fun B => ?_)
  show CallThen _ _ _ _ _ _
  refine call_pure (w_BehindX a b prior hb ha ⟨hto.2, hto.1⟩) rfl ?_
  rintro x rfl
  refine ⟨fun g1 => go 300 ?_, fun g1 => go 300 ?_⟩
  · have g1 : (behindX a b prior).2 ≠ 0 := ne_of' g1
    have e : bothX a b prior = ([], [], (behindX a b prior).2) := by unfold bothX; rw [decide_eq_false g1]; rfl
    rw [e]
    exact ⟨trivial, rfl, rfl, rfl, bothZ _⟩
  have g1 : (behindX a b prior).2 = 0 := eq_of' g1
  show CallThen _ _ _ _ _ _
  refine call_pure (w_BehindX b a (!prior) ha hb hto) rfl ?_
  rintro x rfl
  refine ⟨fun g2 => go 300 ?_, fun g2 => go 300 ?_⟩
  · have g2 : (behindX b a (!prior)).2 ≠ 0 := ne_of' g2
    have e : bothX a b prior = ([], [], (behindX b a (!prior)).2) := by unfold bothX; rw [decide_eq_true g1, decide_eq_false g2]; rfl
    rw [e]
    exact ⟨trivial, rfl, rfl, rfl, bothZ _⟩
  have g2 : (behindX b a (!prior)).2 = 0 := eq_of' g2
  have e : bothX a b prior = ((behindX a b prior).1, (behindX b a (!prior)).1, 0) := by unfold bothX; rw [decide_eq_true g1, decide_eq_true g2]; rfl
  rw [e]
  exact ⟨trivial, rfl, rfl, rfl, BothV ((behindX a b prior).1, (behindX b a (!prior)).1, 0), Wk.refl _, rfl, rfl⟩
end Bow
/- SP20: a bare operation does what it did, in plain Lean. -/
namespace Bow
open Go

theorem bare1 {o : OpT} (h : o.kind = 1) : bareO o = { noOp 1 with path := o.path, at_ := o.at_, id := o.id, leaf := o.leaf, label := o.label } := by unfold bareO; rw [h]; rfl
theorem bare2 {o : OpT} (h : o.kind = 2) : bareO o = { noOp 2 with path := o.path } := by unfold bareO; rw [h]; rfl
theorem bare3 {o : OpT} (h : o.kind = 3) : bareO o = { noOp 3 with path := o.path, at_ := o.at_, to := o.to } := by unfold bareO; rw [h]; rfl
theorem bare4 {o : OpT} (h : o.kind = 4) : bareO o = { noOp 4 with path := o.path, key := o.key, gone := o.gone, value := bif o.gone then [] else o.value } := by unfold bareO; rw [h]; rfl
theorem bare5 {o : OpT} (h : o.kind = 5) : bareO o = { noOp 5 with path := o.path, label := o.label } := by unfold bareO; rw [h]; rfl
theorem bare6 {o : OpT} (h : o.kind = 6) : bareO o = { noOp 6 with path := o.path, pieces := o.pieces } := by unfold bareO; rw [h]; rfl
theorem bare_none {o : OpT} (h1 : o.kind ≠ 1) (h2 : o.kind ≠ 2) (h3 : o.kind ≠ 3) (h4 : o.kind ≠ 4) (h5 : o.kind ≠ 5) (h6 : o.kind ≠ 6) : bareO o = noOp o.kind := by
  have e1 : (o.kind == 1) = false := by simpa using h1
  have e2 : (o.kind == 2) = false := by simpa using h2
  have e3 : (o.kind == 3) = false := by simpa using h3
  have e4 : (o.kind == 4) = false := by simpa using h4
  have e5 : (o.kind == 5) = false := by simpa using h5
  have e6 : (o.kind == 6) = false := by simpa using h6
  unfold bareO
  rw [e1, e2, e3, e4, e5, e6]
  rfl
theorem bare0 {o : OpT} (h1 : o.kind ≠ 1) (h2 : o.kind ≠ 2) (h3 : o.kind ≠ 3) (h4 : o.kind ≠ 4) (h5 : o.kind ≠ 5) (h6 : o.kind ≠ 6) : formedB o = false ∧ formedB (bareO o) = false := by
  have e : (bareO o).kind = o.kind := by rw [bare_none h1 h2 h3 h4 h5 h6]; rfl
  constructor
  · unfold formedB
    simp [h1, h2, h3, h4, h5, h6]
  · unfold formedB
    rw [e]
    simp [h1, h2, h3, h4, h5, h6]
theorem kinds (o : OpT) : o.kind = 1 ∨ o.kind = 2 ∨ o.kind = 3 ∨ o.kind = 4 ∨ o.kind = 5 ∨ o.kind = 6 ∨ (o.kind ≠ 1 ∧ o.kind ≠ 2 ∧ o.kind ≠ 3 ∧ o.kind ≠ 4 ∧ o.kind ≠ 5 ∧ o.kind ≠ 6) := by omega
theorem bare_formed (o : OpT) : formedB (bareO o) = formedB o := by
  rcases kinds o with h | h | h | h | h | h | ⟨h1, h2, h3, h4, h5, h6⟩
  · rw [bare1 h]; unfold formedB; rw [h]; rfl
  · rw [bare2 h]; unfold formedB; rw [h]; rfl
  · rw [bare3 h]; unfold formedB; rw [h]; rfl
  · rw [bare4 h]
    unfold formedB
    rw [h]
    cases o.gone <;> rfl
  · rw [bare5 h]; unfold formedB; rw [h]; rfl
  · rw [bare6 h]; unfold formedB; rw [h]; rfl
  · obtain ⟨q1, q2⟩ := bare0 h1 h2 h3 h4 h5 h6
    rw [q1, q2]
theorem bare_valid (t : Tree) (o : OpT) : ValidE t (bareO o) = ValidE t o := by
  unfold ValidE
  rw [bare_formed]
  rcases kinds o with h | h | h | h | h | h | ⟨h1, h2, h3, h4, h5, h6⟩
  · rw [bare1 h]; unfold validE; rw [h]; rfl
  · rw [bare2 h]; unfold validE; rw [h]; rfl
  · rw [bare3 h]; unfold validE; rw [h]; rfl
  · rw [bare4 h]; unfold validE; rw [h]; rfl
  · rw [bare5 h]; unfold validE; rw [h]; rfl
  · rw [bare6 h]; unfold validE; rw [h]; rfl
  · obtain ⟨q1, q2⟩ := bare0 h1 h2 h3 h4 h5 h6
    rw [q1]
    rfl
theorem bare_apply {t : Tree} {o : OpT} (hv : ValidE t o = 0) : applyT t (bareO o) = applyT t o := by
  have hf := (valid_right hv).2.1
  rcases kinds o with h | h | h | h | h | h | ⟨h1, h2, h3, h4, h5, h6⟩
  · rw [bare1 h]; unfold applyT; rw [h]; rfl
  · rw [bare2 h]; unfold applyT; rw [h]; rfl
  · rw [bare3 h]; unfold applyT; rw [h]; rfl
  · have e : ∀ y, setAT (bareO o) y = setAT o y := fun y => by
      rw [bare4 h]
      unfold setAT setA midA
      show y.withAttrs (y.attrs.take (posK o.key y.attrs) ++ ((bif o.gone then [] else [(o.key, bif o.gone then [] else o.value)]) ++ y.attrs.drop (posK o.key y.attrs + (bif hasK o.key y.attrs then 1 else 0)))) = _
      cases o.gone <;> rfl
    have e1 : applyT t (bareO o) = changeT (setAT (bareO o)) t o.path := by rw [bare4 h]; unfold applyT; rfl
    have e2 : applyT t o = changeT (setAT o) t o.path := by unfold applyT; rw [h]; rfl
    rw [e1, e2, funext e]
  · rw [bare5 h]; unfold applyT; rw [h]; rfl
  · rw [bare6 h]; unfold applyT; rw [h]; rfl
  · rw [(bare0 h1 h2 h3 h4 h5 h6).1] at hf
    cases hf
end Bow
/- W48: operations that say the same. -/
namespace Bow
open Go Go.Proofs

end Bow
/- W61: the laws of chapter 12: what they use; the examples. -/
namespace Bow
open Go Go.Proofs

/-- Some truth value. -/
def isB (x : V) : Prop := ∃ b : Bool, x = .bool b
set_option maxHeartbeats 2000000 in
set_option maxRecDepth 100000 in
theorem w_Small (l : List PieceT) (top : Nat) (hl : l.length ≤ 1000000) (ht : top ≤ 1000000) : Pure Try.prog 31 [piecesV l, .int .i64 top] isB := by
  have ff : ∃ y, Wk .ff y ∧ y.pureB = true ∧ isB y := ⟨.bool false, Wk.ff, rfl, false, rfl⟩
  have tt : ∃ y, Wk .tt y ∧ y.pureB = true ∧ isB y := ⟨.bool true, Wk.tt, rfl, true, rfl⟩
  refine pure_wk (pure_fn 300 Try.func31 rfl rfl rfl fun B => ?_)
  refine ⟨fun g1 => go 300 ?_, fun g1 => go 300 ?_⟩
  · exact ⟨trivial, rfl, rfl, rfl, ff⟩
  show Goes _ _ _ _
  refine goes_iter (ι := Nat × Int) (fun i => i.1 ≤ l.length ∧ 0 ≤ i.2 ∧ i.2 ≤ top) (fun i => l.length - i.1) (fun i => [(6, .int .i64 i.1), (5, .int .i64 i.2), (0, piecesV l), (1, .int .i64 top)]) (fun _ => []) (0, 0) 300 (fun _ => rfl) (fun _ => rfl) ⟨⟨Nat.zero_le _, Int.le_refl _, Int.natCast_nonneg _⟩, ⟨⟨rfl, rfl⟩, ⟨rfl, rfl⟩, ⟨rfl, rfl⟩, ⟨rfl, rfl⟩, trivial⟩, trivial⟩ ?_
  rintro ⟨i, n⟩ ⟨k1, k2, k3⟩ next
  simp only at k1 k2 k3
  refine ⟨fun hlt => go 300 ?_, fun hge => go 300 ?_⟩
  · have hi : i < l.length := by simpa using hlt
    have hx : (l.map pieceV)[i]? = some (pieceV l[i]) := by simp [hi]
    show Goes _ _ _ _
    refine goes_draw 300 ⟨Int.natCast_nonneg i, _, hx, Int.natCast_nonneg i, _, hx, ?_⟩
    refine ⟨by kernel_rfl, ?_⟩
    refine ⟨fun g1 => go 300 ?_, fun g1 => go 300 ?_⟩ <;> refine ⟨fun g2 => go 300 ?_, fun g2 => go 300 ?_⟩
    all_goals
      simp only [decide_eq_true_eq, decide_eq_false_iff_not] at g1 g2
      refine ⟨by constructor <;> omega, ?_⟩
      refine ⟨fun g3 => go 300 ?_, fun g3 => go 300 ?_⟩
      · exact ⟨trivial, rfl, rfl, rfl, ff⟩
      simp only [decide_eq_false_iff_not] at g3
      refine ⟨by constructor <;> omega, by constructor <;> omega, ?_⟩
      refine ⟨fun g4 => go 300 ?_, fun g4 => go 300 ?_⟩
      · exact ⟨trivial, rfl, rfl, rfl, ff⟩
      simp only [decide_eq_false_iff_not] at g4
      refine ⟨Int.natCast_nonneg i, _, hx, by constructor <;> omega, by constructor <;> omega, by constructor <;> omega, ?_⟩
      refine ⟨fun g5 => go 300 ?_, fun g5 => go 300 ?_⟩
      · exact ⟨trivial, rfl, rfl, rfl, ff⟩
      simp only [decide_eq_false_iff_not] at g5
      refine ⟨by constructor <;> omega, by constructor <;> omega, Int.natCast_nonneg i, _, hx, by constructor <;> omega, by constructor <;> omega, ?_⟩
      show Goes _ _ _ _
      refine next (i + 1, _) _ _ ⟨⟨hi, ?_, ?_⟩, by simp only; omega, ⟨⟨rfl, rfl⟩, ⟨rfl, rfl⟩, ⟨rfl, rfl⟩, ⟨rfl, rfl⟩, trivial⟩, trivial⟩
      · simp only; omega
      · simp only; omega
  · exact ⟨trivial, rfl, rfl, rfl, tt⟩

end Bow
/- W62: SquareTurned. -/
namespace Bow
open Go Go.Proofs

theorem right_puts {l : List PieceT} (h : rightP l = true) : putsLen l ≤ 1048576 := by
  unfold rightP at h
  rw [Bool.and_eq_true] at h
  have := (rightGo_ok h.2).2
  rcases this with rfl | this
  · exact Nat.zero_le _
  · omega
end Bow
/- W63: lists of operations: joined (slices.Concat), made bare; which are too many. -/
namespace Bow
open Go Go.Proofs

theorem w_GrowOp (n : Nat) (h : n ≤ 10000000) : Fun Try.prog 98 [] [.nilsl, .int .i64 n] (fun x T => ∃ g, x = .osl (.loc 0) g 0 0 ∧ T = [some (.vec g 11 [])]) := by
  refine fun_fn 100 Try.func98 rfl rfl rfl fun imps B hi => ?_
  have : imps = [] := List.length_eq_zero_iff.1 hi
  subst this
  refine ⟨fun g1 => go 100 ?_, fun g1 => go 100 ?_⟩
  · have := lt_of g1; omega
  show Goes _ _ _ _
  refine goes_cap0 100 rfl rfl rfl rfl rfl ?_
  refine ⟨by constructor <;> omega, by constructor <;> omega, ?_⟩
  refine ⟨fun g2 => go 100 ?_, fun g2 => ?_⟩
  · have g2 := lt_of g2
    show Goes _ _ _ _
    refine goes_cap0 100 rfl rfl rfl rfl rfl ?_
    show Goes _ _ _ _
    refine goes_nilcut 100 rfl rfl rfl rfl rfl rfl rfl ?_
    show Goes _ _ _ _
    refine goes_growTo 100 n rfl rfl rfl rfl (congrArg (V.int .i64) (by omega)) (by omega) rfl rfl rfl rfl rfl (Nat.le_trans (Nat.mul_le_mul_right _ h) (by decide)) ?_
    show Goes _ _ _ _
    refine goes_cut (h := 0) 100 rfl rfl rfl rfl rfl rfl rfl rfl (Nat.zero_le _) ?_
    exact ⟨trivial, rfl, rfl, 2, rfl, rfl⟩
  · refine goes_own 0 11 rfl ?_
    refine go 100 ?_
    exact ⟨trivial, rfl, rfl, 0, rfl, rfl⟩
set_option maxRecDepth 100000 in
theorem w_ConcatOp (ls : List (List V)) (h : ls.flatten.length ≤ 1000000) (hl : ls.length ≤ 1000000) : Pure Try.prog 65 [.sl 1 (ls.map (V.sl 11))] (fun x => x = .sl 11 ls.flatten) := by
  refine pure_fn 100 Try.func65 rfl rfl rfl fun B => ?_
  show Goes _ _ _ _
  refine goes_iter (ι := Nat) (fun i => i ≤ ls.length) (fun i => ls.length - i) (fun i => [(3, .int .i64 (ls.take i).flatten.length), (11, .int .i64 i), (10, .int .i64 (ls.map (V.sl 11)).length), (9, .sl 1 (ls.map (V.sl 11))), (0, .sl 1 (ls.map (V.sl 11)))]) (fun _ => []) 0 100 (fun _ => rfl) (fun _ => rfl) ⟨Nat.zero_le _, ?_, trivial⟩ ?_
  · exact ⟨⟨rfl, rfl⟩, ⟨rfl, rfl⟩, ⟨rfl, rfl⟩, ⟨rfl, rfl⟩, ⟨rfl, rfl⟩, trivial⟩
  intro i k1 next
  have hb1 := flatten_take_le ls i
  refine ⟨fun hlt => go 100 ?_, fun hge => go 100 ?_⟩
  · have hi : i < ls.length := by simpa using hlt
    have hx : (ls.map (V.sl 11))[i]? = some (.sl 11 ls[i]) := by simp [hi]
    have hb2 := flatten_take_le ls (i + 1)
    have hs := flatten_take_succ hi
    have hsl : (ls.take (i + 1)).flatten.length = (ls.take i).flatten.length + ls[i].length := by rw [hs, List.length_append]
    refine ⟨Int.natCast_nonneg i, _, hx, ?_⟩
    refine ⟨by constructor <;> omega, ?_⟩
    refine ⟨fun g1 => go 100 ?_, fun g1 => go 100 ?_⟩
    · have := lt_of g1; omega
    refine ⟨by constructor <;> omega, ?_⟩
    refine next (i + 1) _ _ ⟨by omega, by omega, ?_, trivial⟩
    exact ⟨⟨by simp only [lk]; exact congrArg (V.int .i64) (by omega), rfl⟩, ⟨rfl, rfl⟩, ⟨rfl, rfl⟩, ⟨rfl, rfl⟩, ⟨rfl, rfl⟩, trivial⟩
  · have hi : i = ls.length := by have : ls.length ≤ i := by simpa using hge
                                  omega
    subst hi
    rw [List.take_length]
    show CallThen _ _ _ _ _ _
    refine call_sub [] (w_GrowOp ls.flatten.length (by omega)) rfl rfl trivial rfl rfl rfl ?_
    rintro x T1 ⟨g, rfl, rfl⟩
    refine ⟨rfl, ?_⟩
    show Goes _ _ _ _
    refine goes_iter (ι := Nat × Nat) (fun i => i.1 ≤ ls.length) (fun i => ls.length - i.1) (fun i => [(6, .osl (.loc 0) i.2 0 (ls.take i.1).flatten.length), (27, .int .i64 i.1), (26, .int .i64 (ls.map (V.sl 11)).length), (25, .sl 1 (ls.map (V.sl 11)))]) (fun i => [some (.vec i.2 11 (ls.take i.1).flatten)]) (0, g) 100 (fun _ => rfl) (fun _ => rfl) ⟨Nat.zero_le _, ?_, ?_⟩ ?_
    · exact ⟨⟨rfl, rfl⟩, ⟨rfl, rfl⟩, ⟨rfl, rfl⟩, ⟨rfl, rfl⟩, trivial⟩
    · exact ⟨⟨rfl, rfl⟩, trivial⟩
    rintro ⟨i, g⟩ k1 next
    have hb1 := flatten_take_le ls i
    simp only at k1 hb1
    refine ⟨fun hlt => go 100 ?_, fun hge => go 100 ?_⟩
    · have hi : i < ls.length := by simpa using hlt
      have hx : (ls.map (V.sl 11))[i]? = some (.sl 11 ls[i]) := by simp [hi]
      have hb2 := flatten_take_le ls (i + 1)
      have hs := flatten_take_succ hi
      have hsl : (ls.take (i + 1)).flatten.length = (ls.take i).flatten.length + ls[i].length := by rw [hs, List.length_append]
      refine ⟨Int.natCast_nonneg i, _, hx, ?_⟩
      simp only
      refine ⟨rfl, rfl, Nat.le_trans (Nat.mul_le_mul_right _ (show _ ≤ 1000000 by omega)) (by decide), ?_⟩
      refine ⟨by constructor <;> omega, ?_⟩
      refine next (i + 1, bump g) _ _ ⟨by simp only; omega, by simp only; omega, ?_, ?_⟩
      · exact ⟨⟨by simp only [lk]; exact congrArg (V.osl _ _ _) hsl.symm, rfl⟩, ⟨rfl, rfl⟩, ⟨rfl, rfl⟩, ⟨rfl, rfl⟩, trivial⟩
      · exact ⟨⟨by rw [hs], rfl⟩, trivial⟩
    · have hi : i = ls.length := by have : ls.length ≤ i := by simpa using hge
                                    omega
      subst hi
      exact ⟨trivial, rfl, rfl, rfl, rfl, rfl, by simp only [List.take_length]⟩

theorem w_much1 (l : List OpT) : Pure Try.prog 97 [opsV l] (fun x => x = .bool (decide (4096 < l.length))) := by
  refine pure_wk (pure_fn 300 Try.func97 rfl rfl rfl fun B => ?_)
  refine ⟨trivial, rfl, rfl, rfl, leaf_b ?_⟩
  simp only [List.length_map]
  exact decide_eq_decide.2 ⟨fun h => by omega, fun h => by omega⟩
/-- The first place where a predicate holds, or -1. -/
def findL (f : List OpT → Bool) : Nat → List (List OpT) → Int
  | _, [] => -1
  | i, x :: xs => bif f x then i else findL f (i + 1) xs
theorem findL_any (f : List OpT → Bool) : ∀ (xs : List (List OpT)) (i : Nat), decide (0 ≤ findL f i xs) = xs.any f
  | [], i => by simp [findL]
  | x :: xs, i => by
    rw [findL, List.any_cons]
    cases h : f x with
    | true => simp
    | false => simpa using findL_any f xs (i + 1)
def listsV (l : List (List OpT)) : V := .sl 1 (l.map opsV)
set_option maxRecDepth 100000 in
theorem w_IndexMuch (xs : List (List OpT)) (hl : xs.length ≤ 1000000) :
    Pure Try.prog 109 [listsV xs, .fn (.func 97) [] []] (fun x => x = .int .i64 (findL (fun l => decide (4096 < l.length)) 0 xs)) := by
  refine pure_fn 100 Try.func109 rfl rfl rfl fun B => ?_
  show Goes _ _ _ _
  refine goes_iter (ι := Nat) (fun i => i ≤ xs.length ∧ findL (fun l => decide (4096 < l.length)) i (xs.drop i) = findL (fun l => decide (4096 < l.length)) 0 xs) (fun i => xs.length - i) (fun i => [(8, .int .i64 i), (7, .int .i64 (xs.map opsV).length), (1, .fn (.func 97) [] []), (0, listsV xs)]) (fun _ => []) 0 200 (fun _ => rfl) (fun _ => rfl) ⟨⟨Nat.zero_le _, rfl⟩, ?_, ?_⟩ ?_
  · exact ⟨⟨rfl, rfl⟩, ⟨rfl, rfl⟩, ⟨rfl, rfl⟩, ⟨rfl, rfl⟩, trivial⟩
  · trivial
  · rintro i ⟨h1, h2⟩ next
    refine ⟨fun hlt => go 200 ?_, fun hge => go 200 ?_⟩
    · have hi : i < xs.length := by simpa using hlt
      have hx : (xs.map opsV)[i]? = some (opsV xs[i]) := by simp [hi]
      rw [drop_cons hi, findL] at h2
      refine ⟨Int.natCast_nonneg i, _, hx, ?_⟩
      show CallThen _ _ _ _ _ _
      refine call_pure (w_much1 xs[i]) rfl ?_
      rintro x rfl
      refine ⟨fun h => go 200 ?_, fun h => go 200 ?_⟩
      · rw [h] at h2
        exact ⟨trivial, rfl, rfl, rfl, by rw [← h2]; rfl⟩
      · rw [h] at h2
        refine ⟨by constructor <;> omega, ?_⟩
        show Goes _ _ _ _
        exact next (i + 1) _ _ ⟨⟨hi, h2⟩, by omega, ⟨⟨rfl, rfl⟩, ⟨rfl, rfl⟩, ⟨rfl, rfl⟩, ⟨rfl, rfl⟩, trivial⟩, trivial⟩
    · have hi : xs.length ≤ i := by simpa using hge
      rw [List.drop_eq_nil_of_le hi] at h2
      exact ⟨trivial, rfl, rfl, rfl, by rw [← h2]; rfl⟩
theorem w_much (xs : List (List OpT)) (hl : xs.length ≤ 1000000) : Pure Try.prog 64 [listsV xs] (fun x => x = .bool (xs.any fun l => decide (4096 < l.length))) := by
  have hc : Pure Try.prog 96 [listsV xs, .fn (.func 97) [] []] (fun x => x = .bool (xs.any fun l => decide (4096 < l.length))) := by
    refine pure_fn 100 Try.func96 rfl rfl rfl fun B => ?_
    show CallThen _ _ _ _ _ _
    refine call_pure (w_IndexMuch xs hl) rfl ?_
    rintro x rfl
    exact ⟨trivial, rfl, rfl, rfl, by rw [← findL_any _ xs 0]; rfl⟩
  refine pure_fn 100 Try.func64 rfl rfl rfl fun B => ?_
  show CallThen _ _ _ _ _ _
  refine call_pure hc rfl ?_
  rintro x rfl
  exact ⟨trivial, rfl, rfl, rfl, rfl⟩

set_option maxRecDepth 100000 in
theorem w_lbare (l : List OpT) (hl : l.length ≤ 1000000) (hok : ∀ o ∈ l, o.Lt 1000000) : Pure Try.prog 36 [opsV l] (fun x => x = opsV (bareL l)) := by
  refine pure_wk (pure_fn 300 Try.func36 rfl rfl rfl fun B => ?_)
  show Goes _ _ _ _
  refine goes_own 3 11 rfl ?_
  refine goes_iter (ι := Nat × Nat) (fun i => i.1 ≤ l.length) (fun i => l.length - i.1) (fun i => [(8, .int .i64 i.1), (7, .int .i64 (l.map opV).length), (6, opsV l), (3, .osl (.loc 0) i.2 0 i.1)]) (fun i => [some (.vec i.2 11 ((bareL (l.take i.1)).map opV))]) (0, 0) 300 (fun _ => rfl) (fun _ => rfl) ⟨Nat.zero_le _, ⟨⟨rfl, rfl⟩, ⟨rfl, rfl⟩, ⟨rfl, rfl⟩, ⟨rfl, rfl⟩, trivial⟩, ⟨⟨rfl, rfl⟩, trivial⟩⟩ ?_
  rintro ⟨i, g⟩ k1 next
  simp only at k1
  have hbl : (bareL (l.take i)).length = i := by simp [bareL]; omega
  refine ⟨fun hlt => go 300 ?_, fun hge => go 300 ?_⟩
  · have hi : i < l.length := by simpa using hlt
    have hx : (l.map opV)[i]? = some (opV l[i]) := by simp [hi]
    refine ⟨Int.natCast_nonneg i, _, hx, ?_⟩
    show CallThen _ _ _ _ _ _
    refine call_pure (w_Bare l[i] (hok _ (List.getElem_mem hi))) rfl ?_
    rintro x rfl
    refine ⟨⟨rfl, trivial⟩, rfl, rfl, rfl, (by rw [List.length_map]; exact hbl.symm), Nat.le_trans (Nat.mul_le_mul_right _ (show _ ≤ 1000001 by rw [List.length_map, hbl]; simp only [List.length_cons, List.length_nil]; omega)) (by decide), ?_⟩
    refine ⟨by constructor <;> omega, ?_⟩
    show Goes _ _ _ _
    have e : (bareL (l.take (i + 1))).map opV = (bareL (l.take i)).map opV ++ [opV (bareO l[i])] := by
      rw [List.take_succ_eq_append_getElem hi]
      simp only [bareL, List.map_append, List.map_cons, List.map_nil]
    refine next (i + 1, bump g) _ _ ⟨hi, by simp only; omega, ⟨⟨rfl, rfl⟩, ⟨rfl, rfl⟩, ⟨rfl, rfl⟩, ⟨?_, rfl⟩, trivial⟩, ⟨⟨?_, rfl⟩, trivial⟩⟩
    · simp only [lk]
      exact congrArg (V.osl _ _ _) (by rw [List.length_map, hbl]; rfl)
    · exact congrArg (fun z => some (HObj.vec (bump g) 11 z)) e.symm
  · have hi : i = l.length := by have : l.length ≤ i := by simpa using hge
                                 omega
    subst hi
    refine ⟨trivial, rfl, rfl, rfl, by simp [bareL], rfl, opsV (bareL l), ?_, rfl, rfl⟩
    show Wk (.sl 11 ((bareL (l.take l.length)).map opV)) _
    rw [List.take_length]
    exact .refl _
end Bow
/- W64: lists.bring, Both. -/
namespace Bow
open Go Go.Proofs

/-- Operations of a size that may be asked about. -/
def OkL (l : List OpT) : Prop := ∀ o ∈ l, o.Ok ∧ o.to.length ≤ 1000
theorem bare_formed_ok {o : OpT} (h : formedB o = true) : (bareO o).Ok ∧ (bareO o).to.length ≤ 1000 := by
  have hp := may_len (formed_path h)
  have nil : ∀ k : Int, (noOp k).Ok := fun k => ⟨⟨Nat.zero_le _, Nat.zero_le _, Nat.zero_le _, Nat.zero_le _, Nat.zero_le _, Nat.zero_le _⟩, Nat.zero_le _⟩
  unfold bareO
  cases k1 : o.kind == 1 with
  | true =>
    have hk : o.kind = 1 := eq_of_beq k1
    have hl : o.label.length ≤ 64 := by
      unfold formedB at h
      rw [hk] at h
      simp only [Bool.and_eq_true] at h
      have := h.2
      simp at this
      omega
    exact ⟨⟨⟨by show o.path.length ≤ _; omega, Nat.zero_le _, by show o.label.length ≤ _; omega, Nat.zero_le _, Nat.zero_le _, Nat.zero_le _⟩, Nat.zero_le _⟩, Nat.zero_le _⟩
  | false => cases k2 : o.kind == 2 with
    | true => exact ⟨⟨⟨by show o.path.length ≤ _; omega, Nat.zero_le _, Nat.zero_le _, Nat.zero_le _, Nat.zero_le _, Nat.zero_le _⟩, Nat.zero_le _⟩, Nat.zero_le _⟩
    | false => cases k3 : o.kind == 3 with
      | true =>
        have ht := may_len (good_to h (eq_of_beq k3))
        exact ⟨⟨⟨by show o.path.length ≤ _; omega, by show o.to.length ≤ _; omega, Nat.zero_le _, Nat.zero_le _, Nat.zero_le _, Nat.zero_le _⟩, Nat.zero_le _⟩, by show o.to.length ≤ _; omega⟩
      | false => cases k4 : o.kind == 4 with
        | true =>
          have hk : o.kind = 4 := eq_of_beq k4
          have hl : o.key.length ≤ 64 ∧ (o.gone = true ∨ o.value.length ≤ 256) := by
            unfold formedB at h
            rw [hk] at h
            simp [keyOk] at h
            exact ⟨h.2.1.2, h.2.2.imp id (fun h => by omega)⟩
          refine ⟨⟨⟨by show o.path.length ≤ _; omega, Nat.zero_le _, Nat.zero_le _, by show o.key.length ≤ _; omega, ?_, Nat.zero_le _⟩, Nat.zero_le _⟩, Nat.zero_le _⟩
          show (bif o.gone then [] else o.value : List UInt8).length ≤ _
          rcases hl.2 with hg | hg
          · rw [hg]; exact Nat.zero_le _
          · cases o.gone with
            | true => exact Nat.zero_le _
            | false => show o.value.length ≤ _; omega
        | false => cases k5 : o.kind == 5 with
          | true =>
            have hk : o.kind = 5 := eq_of_beq k5
            have hl : o.label.length ≤ 64 := by
              unfold formedB at h
              rw [hk] at h
              simp at h
              omega
            exact ⟨⟨⟨by show o.path.length ≤ _; omega, Nat.zero_le _, by show o.label.length ≤ _; omega, Nat.zero_le _, Nat.zero_le _, Nat.zero_le _⟩, Nat.zero_le _⟩, Nat.zero_le _⟩
          | false => cases k6 : o.kind == 6 with
            | true =>
              have hr := formed_pieces h (eq_of_beq k6)
              have h1 := right_puts hr
              have h2 := (right_bounds hr).1
              exact ⟨⟨⟨by show o.path.length ≤ _; omega, Nat.zero_le _, Nat.zero_le _, Nat.zero_le _, Nat.zero_le _, by show o.pieces.length ≤ _; omega⟩, h1⟩, Nat.zero_le _⟩
            | false => exact ⟨nil _, Nat.zero_le _⟩
theorem behX_okL (b a : OpT) (p : Bool) : OkL (behindX b a p).1 := by
  unfold behindX
  cases bothEdit b a with
  | false =>
    simp only [cond_false]
    unfold behindO
    cases !soundO a || !soundO b with
    | true => intro o ho; simp at ho
    | false =>
      cases hf : (rowO b a p).all formedB with
      | false => intro o ho; simp at ho
      | true =>
        intro o ho
        simp only [cond_true, cond_false] at ho
        obtain ⟨o', h1, rfl⟩ := List.mem_map.1 ho
        exact bare_formed_ok (List.all_eq_true.1 hf o' h1)
  | true =>
    simp only [cond_true]
    unfold behindE
    cases !soundO a || !soundO b with
    | true => intro o ho; simp at ho
    | false =>
      cases hf : decide ((transP b.pieces a.pieces p).2.2 = 0) && formedB (editO b a p) with
      | false => intro o ho; simp at ho
      | true =>
        intro o ho
        simp only [cond_true, cond_false, List.mem_singleton] at ho
        subst ho
        exact bare_formed_ok (Bool.and_eq_true_iff.1 hf).2
theorem okL_nil : OkL [] := fun o ho => by cases ho
theorem OkL.app {x y : List OpT} (hx : OkL x) (hy : OkL y) : OkL (x ++ y) := fun o ho => by
  rcases List.mem_append.1 ho with h | h
  · exact hx o h
  · exact hy o h
theorem bothX_okL (a b : OpT) (p : Bool) : OkL (bothX a b p).1 ∧ OkL (bothX a b p).2.1 := by
  unfold bothX
  cases decide ((behindX a b p).2 = 0) with
  | false => exact ⟨okL_nil, okL_nil⟩
  | true =>
    cases decide ((behindX b a (!p)).2 = 0) with
    | false => exact ⟨okL_nil, okL_nil⟩
    | true => exact ⟨behX_okL _ _ _, behX_okL _ _ _⟩
theorem OkL.tail {a : OpT} {x : List OpT} (h : OkL (a :: x)) : OkL x := fun o ho => h o (List.mem_cons_of_mem _ ho)
theorem OkL.head {a : OpT} {x : List OpT} (h : OkL (a :: x)) : OkL [a] := fun o ho => by rw [List.mem_singleton] at ho; exact ho ▸ h a List.mem_cons_self

theorem bringF_okL (prior : Bool) : ∀ (n : Nat) (xs ys : List OpT) (r), bringF prior n xs ys = some r → OkL xs → OkL ys → OkL r.1 ∧ OkL r.2.1
  | 0, _, _, _, h, _, _ => by cases h
  | n + 1, xs, ys, r, h, ox, oy => by
    rw [bringF_succ] at h
    unfold bringS at h
    cases hm : muchP xs ys with
    | true => rw [hm] at h; simp at h; subst h; exact ⟨okL_nil, okL_nil⟩
    | false =>
      rw [hm, cond_false] at h
      match xs, ys, h, ox, oy with
      | [], ys, h, _, oy => simp at h; subst h; exact ⟨okL_nil, oy⟩
      | a :: xs, [], h, ox, _ => simp at h; subst h; exact ⟨ox, okL_nil⟩
      | [a], [b], h, _, _ => simp at h; subst h; exact bothX_okL _ _ _
      | a :: a' :: xs, b :: ys, h, ox, oy =>
        simp only at h
        cases h1 : bringF prior n [a] (b :: ys) with
        | none => rw [h1] at h; cases h
        | some r1 =>
          rw [h1] at h
          obtain ⟨x1, y1, e1⟩ := r1
          obtain ⟨o1, o2⟩ := bringF_okL prior n _ _ _ h1 ox.head oy
          simp only at h
          cases he : !decide (e1 = 0) with
          | true => rw [he] at h; simp at h; subst h; exact ⟨okL_nil, okL_nil⟩
          | false =>
            rw [he, cond_false] at h
            cases h2 : bringF prior n (a' :: xs) y1 with
            | none => rw [h2] at h; cases h
            | some r2 =>
              rw [h2] at h
              obtain ⟨z, w, e2⟩ := r2
              obtain ⟨o3, o4⟩ := bringF_okL prior n _ _ _ h2 ox.tail o2
              simp only at h
              cases he : !decide (e2 = 0) with
              | true => rw [he] at h; simp at h; subst h; exact ⟨okL_nil, okL_nil⟩
              | false =>
                rw [he, cond_false] at h
                cases hmm : muchP (x1 ++ z) w with
                | true => rw [hmm] at h; simp at h; subst h; exact ⟨okL_nil, okL_nil⟩
                | false => rw [hmm] at h; simp at h; subst h; exact ⟨o1.app o3, o4⟩
      | [a], b :: b' :: ys, h, ox, oy =>
        simp only at h
        cases h1 : bringF prior n [a] [b] with
        | none => rw [h1] at h; cases h
        | some r1 =>
          rw [h1] at h
          obtain ⟨x1, y1, e1⟩ := r1
          obtain ⟨o1, o2⟩ := bringF_okL prior n _ _ _ h1 ox oy.head
          simp only at h
          cases he : !decide (e1 = 0) with
          | true => rw [he] at h; simp at h; subst h; exact ⟨okL_nil, okL_nil⟩
          | false =>
            rw [he, cond_false] at h
            cases h2 : bringF prior n x1 (b' :: ys) with
            | none => rw [h2] at h; cases h
            | some r2 =>
              rw [h2] at h
              obtain ⟨z, w, e2⟩ := r2
              obtain ⟨o3, o4⟩ := bringF_okL prior n _ _ _ h2 o1 oy.tail
              simp only at h
              cases he : !decide (e2 = 0) with
              | true => rw [he] at h; simp at h; subst h; exact ⟨okL_nil, okL_nil⟩
              | false =>
                rw [he, cond_false] at h
                cases hmm : muchP z (y1 ++ w) with
                | true => rw [hmm] at h; simp at h; subst h; exact ⟨okL_nil, okL_nil⟩
                | false => rw [hmm] at h; simp at h; subst h; exact ⟨o3, o2.app o4⟩
theorem w_Concat2 (x z : List OpT) (h : x.length + z.length ≤ 1000000) : Pure Try.prog 65 [listsV [x, z]] (fun v => v = opsV (x ++ z)) :=
  (w_ConcatOp [x.map opV, z.map opV] (by simp; omega) (by simp)).mono fun v hv => by rw [hv]; simp [opsV]
theorem w_much2 (x z : List OpT) : Pure Try.prog 64 [listsV [x, z]] (fun v => v = .bool (muchP x z)) :=
  (w_much [x, z] (by simp)).mono fun v hv => by rw [hv]; simp [muchP]
theorem bothZ' {e : Int} {R : List OpT × List OpT × Int} (h : R = ([], [], e)) : ∃ y, Wk (.tup [.nilsl, .nilsl, .int .i64 e]) y ∧ y.pureB = true ∧ y = BothV R := ⟨BothV ([], [], e), Wk.tup ⟨Wk.nil 11, Wk.nil 11, .refl _, trivial⟩, rfl, by rw [h]⟩
end Bow
