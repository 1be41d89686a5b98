/- The library, part 4: AE51, AE52, AE33, AE34, AE54, SP36, W92, SP1, AE35, SP2, SP3, SP4, SP5, SP6, SP7, SP8, SP10, SP11, SP12, SP13, SP14, SP15, SP17, SP21, SP22. -/
import Derived.Test.YthaigpiepfdaeaaGreatMc
import Derived.Laws.MakeOwn
import Derived.Laws.BytesArg
import Derived.Lib.Bytealg
/- AE51: ranges over functions within functions that call yield: what the ranging sides hold, together. -/
namespace Bow
open Go

/-! ### What has been named speaks of no object of its own any more -/
theorem Ref.conv_conv (m m' : List Nat) (r : Ref) : (r.conv m).conv m' = r.conv m := by
  cases r with
  | loc k =>
    simp only [Ref.conv]
    cases m[k]? <;> rfl
  | abs _ => rfl
  | bad => rfl
theorem Ref.conv_sc (m : List Nat) (n : Nat) (r : Ref) : (r.conv m).sc n := by
  cases r with
  | loc k =>
    simp only [Ref.conv]
    cases m[k]? <;> trivial
  | abs _ => trivial
  | bad => trivial
mutual
theorem V.conv_conv (m m' : List Nat) : ∀ v : V, (v.conv m).conv m' = v.conv m
  | .osl r _ _ _ => by simp only [V.conv, r.conv_conv]
  | .ptr r _ => by simp only [V.conv, r.conv_conv]
  | .eptr r _ _ _ => by simp only [V.conv, r.conv_conv]
  | .yld r => by simp only [V.conv, r.conv_conv]
  | .agg cs => by simp only [V.conv, V.convL_conv m m' cs]
  | .tup cs => by simp only [V.conv, V.convL_conv m m' cs]
  | .fn _ a c => by simp only [V.conv, V.convL_conv m m' a, V.convL_conv m m' c]
  | .iface _ v => by simp only [V.conv, v.conv_conv]
  | .int .. | .bool _ | .tt | .ff | .str _ | .sl .. | .nilsl | .iptr .. | .nilp | .nilf | .nili | .nilmap | .undef => rfl
theorem V.convL_conv (m m' : List Nat) : ∀ vs : List V, V.convL m' (V.convL m vs) = V.convL m vs
  | [] => rfl
  | v :: vs => by simp only [V.convL, v.conv_conv, V.convL_conv m m' vs]
end
mutual
theorem V.conv_sc (m : List Nat) (n : Nat) : ∀ v : V, (v.conv m).sc n
  | .osl r _ _ _ => r.conv_sc m n
  | .ptr r _ => r.conv_sc m n
  | .eptr r _ _ _ => r.conv_sc m n
  | .yld r => r.conv_sc m n
  | .agg cs => V.convL_sc m n cs
  | .tup cs => V.convL_sc m n cs
  | .fn _ a c => ⟨V.convL_sc m n a, V.convL_sc m n c⟩
  | .iface _ v => v.conv_sc m n
  | .int .. | .bool _ | .tt | .ff | .str _ | .sl .. | .nilsl | .iptr .. | .nilp | .nilf | .nili | .nilmap | .undef => trivial
theorem V.convL_sc (m : List Nat) (n : Nat) : ∀ vs : List V, V.scL n (V.convL m vs)
  | [] => trivial
  | v :: vs => ⟨v.conv_sc m n, V.convL_sc m n vs⟩
end
theorem HObj.conv_conv (m m' : List Nat) (o : HObj) : (o.conv m).conv m' = o.conv m := by
  cases o with
  | box cs => simp only [HObj.conv, V.convL_conv]
  | vec => rfl
  | dfr => rfl
  | held => rfl
  | loop => simp only [HObj.conv, Env.conv, List.map_map, HObj.loop.injEq, true_and, and_true]; exact List.map_congr_left fun p _ => by simp [V.conv_conv]
theorem HObj.conv_sc (m : List Nat) (n : Nat) (o : HObj) : (o.conv m).sc n := by
  cases o with
  | box cs => exact V.convL_sc m n cs
  | vec => trivial
  | dfr => trivial
  | held => trivial
  | loop =>
    intro p hp
    obtain ⟨q, _, rfl⟩ := List.mem_map.1 hp
    exact q.2.conv_sc m n

/-- Objects that speak of one another alone, all there. -/
structure Shut (T : Heap) : Prop where
  live : ∀ (k : Nat) (o : Option HObj), T[k]? = some o → ∃ ob, o = some ob
  sc : ∀ (k : Nat) (o : HObj), T[k]? = some (some o) → o.sc T.length
theorem Out.shut {m : List Nat} {T : Heap} {B : Base} (h : Out m T B) : Shut T := by
  refine ⟨fun k o hk => ?_, fun k o hk => ?_⟩
  · have hkm : k < m.length := by have := lt_of_get hk; rw [h.len]; exact this
    obtain ⟨ob, e1, _⟩ := h.at_ k m[k] (List.getElem?_eq_getElem hkm)
    rw [e1] at hk
    injection hk with hk
    exact ⟨ob, hk.symm⟩
  · have hkm : k < m.length := by have := lt_of_get hk; rw [h.len]; exact this
    obtain ⟨ob, e1, _, e3⟩ := h.at_ k m[k] (List.getElem?_eq_getElem hkm)
    rw [e1] at hk
    injection hk with hk
    injection hk with hk
    subst hk
    rw [← h.len]
    exact e3
def nameO (m : List Nat) (T : Heap) : Heap := T.map (Option.map (HObj.conv m))
/-- Two rows of objects as one, all named. -/
def joinH (mw : List Nat) (Tw : Heap) (m : List Nat) (T : Heap) : Heap := nameO mw Tw ++ nameO m T
theorem nameO_len {m : List Nat} {T : Heap} : (nameO m T).length = T.length := by simp [nameO]
theorem joinH_len {mw m : List Nat} {Tw T : Heap} : (joinH mw Tw m T).length = Tw.length + T.length := by simp [joinH, nameO_len]
theorem nameO_get {m : List Nat} {T : Heap} {k : Nat} {o : HObj} (h : T[k]? = some (some o)) : (nameO m T)[k]? = some (some (o.conv m)) := by
  unfold nameO
  rw [List.getElem?_map, h]
  rfl
theorem joinH_closed {mw m : List Nat} {Tw T : Heap} (hw : Shut Tw) (h : Shut T) : Shut (joinH mw Tw m T) := by
  have key : ∀ (m : List Nat) (T : Heap), Shut T → ∀ (k : Nat) (o : Option HObj), (nameO m T)[k]? = some o → ∃ ob : HObj, o = some (ob.conv m) := fun m T h k o hk => by
    unfold nameO at hk
    rw [List.getElem?_map, Option.map_eq_some_iff] at hk
    obtain ⟨z, h1, rfl⟩ := hk
    obtain ⟨ob, rfl⟩ := h.live k z h1
    exact ⟨ob, rfl⟩
  have key2 : ∀ (k : Nat) (o : Option HObj), (joinH mw Tw m T)[k]? = some o → ∃ (m : List Nat) (ob : HObj), o = some (ob.conv m) := fun k o hk => by
    unfold joinH at hk
    rcases Nat.lt_or_ge k (nameO mw Tw).length with hlt | hge
    · rw [List.getElem?_append_left hlt] at hk
      exact ⟨mw, key mw Tw hw k o hk⟩
    · rw [List.getElem?_append_right hge] at hk
      exact ⟨m, key m T h _ o hk⟩
  refine ⟨fun k o hk => ?_, fun k o hk => ?_⟩
  · obtain ⟨m, ob, e⟩ := key2 k o hk
    exact ⟨_, e⟩
  · obtain ⟨m, ob, e⟩ := key2 k _ hk
    injection e with e
    subst e
    exact HObj.conv_sc _ _ _
theorem Out.get {m : List Nat} {T : Heap} {B : Base} (h : Out m T B) {k r : Nat} {o : HObj} (hk : m[k]? = some r) (hT : T[k]? = some (some o)) : B r = some (o.conv m) := by
  obtain ⟨ob, e1, e2, _⟩ := h.at_ k r hk
  rw [e1] at hT
  injection hT with hT
  injection hT with hT
  subst hT
  exact e2
/-- Out of both, one and the other. -/
theorem Out.split {mw m : List Nat} {Tw T : Heap} {B : Base} (h : Out (mw ++ m) (joinH mw Tw m T) B) (hl : mw.length = Tw.length) (hw : Shut Tw) (ht : Shut T) : Out mw Tw B ∧ Out m T B := by
  have hlen := h.len
  rw [joinH_len, List.length_append] at hlen
  have hnd := List.nodup_append.1 h.nodup
  refine ⟨⟨hl, hnd.1, fun k r hk => ?_⟩, ⟨by omega, hnd.2.1, fun k r hk => ?_⟩⟩
  · have hkT : k < Tw.length := by have := lt_of_get hk; omega
    obtain ⟨o, ho⟩ := hw.live k _ (List.getElem?_eq_getElem hkT)
    have e : Tw[k]? = some (some o) := by rw [List.getElem?_eq_getElem hkT, ho]
    refine ⟨o, e, ?_, by rw [hl]; exact hw.sc k o e⟩
    have := h.get (k := k) (r := r) (o := o.conv mw) (by rw [List.getElem?_append_left (lt_of_get hk)]; exact hk) (by unfold joinH; rw [List.getElem?_append_left (by rw [nameO_len]; exact hkT)]; exact nameO_get e)
    rw [this, HObj.conv_conv]
  · have hkT : k < T.length := by have := lt_of_get hk; omega
    obtain ⟨o, ho⟩ := ht.live k _ (List.getElem?_eq_getElem hkT)
    have e : T[k]? = some (some o) := by rw [List.getElem?_eq_getElem hkT, ho]
    refine ⟨o, e, ?_, by rw [show m.length = T.length by omega]; exact ht.sc k o e⟩
    have := h.get (k := mw.length + k) (r := r) (o := o.conv m) (by rw [List.getElem?_append_right (by omega)]; simpa using hk) (by unfold joinH; rw [List.getElem?_append_right (by rw [nameO_len]; omega), nameO_len, show mw.length + k - Tw.length = k by omega]; exact nameO_get e)
    rw [this, HObj.conv_conv]
theorem Out.join {mw m : List Nat} {Tw T : Heap} {B : Base} (hw : Out mw Tw B) (h : Out m T B) (hnd : (mw ++ m).Nodup) : Out (mw ++ m) (joinH mw Tw m T) B := by
  refine ⟨by rw [joinH_len, List.length_append, hw.len, h.len], hnd, fun k r hk => ?_⟩
  rcases Nat.lt_or_ge k mw.length with hlt | hge
  · rw [List.getElem?_append_left hlt] at hk
    obtain ⟨o, e1, e2, _⟩ := hw.at_ k r hk
    refine ⟨o.conv mw, ?_, by rw [e2, HObj.conv_conv], HObj.conv_sc _ _ _⟩
    unfold joinH
    rw [List.getElem?_append_left (by rw [nameO_len]; exact lt_of_get e1)]
    exact nameO_get e1
  · rw [List.getElem?_append_right hge] at hk
    obtain ⟨o, e1, e2, _⟩ := h.at_ _ r hk
    refine ⟨o.conv m, ?_, by rw [e2, HObj.conv_conv], HObj.conv_sc _ _ _⟩
    unfold joinH
    rw [List.getElem?_append_right (by rw [nameO_len, ← hw.len]; exact hge), nameO_len, ← hw.len]
    exact nameO_get e1

/-- One round of objects under these names: yield, called with y, turns the objects T to T' and hands back b. -/
def YieldM (P : Program) (m : List Nat) (T : Heap) (r : Nat) (y : List V) (b : Bool) (T' : Heap) : Prop :=
  ∀ (w : World) (β : Nat → Loc) (H : Heap) (B : Base) (vals : Array Value) (c : Frame) (cs : List Frame) (l N : Nat), SRel [] 0 w β H [] ⟨[], [], B, []⟩ bare → Out m T B → β r = .blk l N → y.length = vals.size →
    (∀ (j : Nat) (x : V) (v : Value), y[j]? = some x → vals[j]? = some v → Rep w β H x v) →
    ∃ (rl : Loop) (w' : World) (β' : Nat → Loc) (H' : Heap) (B' : Base), w.heap[l]? = some (.loop rl) ∧ vals.size = rl.params.size ∧ SRel [] 0 w' β' H' [] ⟨[], [], B', []⟩ bare ∧ Out m T' B' ∧ (∀ q, q ∉ m → B' q = B q) ∧ Fr w β H w' β' H' ∧
      Steps P (lone (Frame.round l rl.fn ((rl.params.zip vals).foldl (fun tmps (t, a) => tmps.setIfInBounds t a) rl.tmps) rl.assign rl.body .normal) (c :: cs) w) (lone (c.finish (.bool b)) cs w')

theorem YieldM.of {P : Program} {m : List Nat} {T T' : Heap} {kl r : Nat} {y : List V} {b : Bool} (hr : m[kl]? = some r) (hy : YieldOk P T kl y b T') : YieldM P m T r y b T' := by
  intro w β H B vals c cs l N hs hout hβ hl hv
  have hHr : ∀ (q : Nat) (ob : HObj), B q = some ob → H[q]? = some (some ob) := fun q ob hq => hs.baseAt (by simp) hq
  have hlt : ∀ q, q ∈ m → q < H.length := fun q hq => by
    obtain ⟨j, hj⟩ := List.getElem?_of_mem hq
    obtain ⟨ob, _, e2, _⟩ := hout.at_ j q hj
    exact lt_of_get (hHr q _ e2)
  have hso : SRel m 0 w β H m ⟨[], T, B, []⟩ bare := by
    refine ⟨hs.hrel, rfl, fun k => by simp [lk, V.conv]; exact .undef _, hout.len, hout.nodup, fun j q ob hj hob => ?_, by simp, fun q hq _ => hs.base q hq (by simp), hs.fut, fun j q hj hq => by have := lt_of_get hq; omega, by simp, fun j ob hob => hout.shut.sc j ob hob, rfl, by simp⟩
    obtain ⟨ob', e1, e2, _⟩ := hout.at_ j q hj
    simp only at hob
    rw [e1] at hob
    injection hob with hob
    subst hob
    exact hHr q _ e2
  obtain ⟨hT'l, hT'live, hy⟩ := hy
  obtain ⟨rl, w', β', H', g1, g2, g3, g4, g5⟩ := hy w β H m B vals c cs r l N hso hr hβ hl hv
  obtain ⟨B', hB'⟩ : ∃ B' : Base, B' = fun q => (H'[q]?).getD none := ⟨_, rfl⟩
  refine ⟨rl, w', β', H', B', g1, g2, ?_, ⟨by rw [hT'l]; exact hout.len, hout.nodup, fun j q hj => ?_⟩, fun q hq => ?_, g4, g5⟩
  · rw [hB']
    exact ⟨g3.hrel, rfl, fun k => by simp [lk, V.conv]; exact .undef _, rfl, List.nodup_nil, by simp, rfl, fun q hq _ => by simp [hq], fun q hq => by simp [List.getElem?_eq_none hq], by simp, by simp, by simp, rfl, by simp⟩
  · have hjT : j < T'.length := by have := lt_of_get hj; rw [hT'l, ← hout.len]; exact this
    have hTj : T'[j]? = some T'[j] := List.getElem?_eq_getElem hjT
    cases hx : T'[j] with
    | none => exact absurd hx (hT'live j _ hTj)
    | some ob =>
      rw [hx] at hTj
      refine ⟨ob, hTj, ?_, ?_⟩
      · have := g3.loc j q _ hj hTj
        rw [hB']
        simp only
        rw [this]
        rfl
      · have := g3.scT j ob hTj
        simp only at this
        rw [hout.len, ← hT'l]
        exact this
  · rw [hB']
    simp only
    rcases Nat.lt_or_ge q H'.length with h1 | h1
    · rw [g3.base q h1 hq]
      rfl
    · rw [List.getElem?_eq_none h1]
      exact (hs.fut q (Nat.le_trans g4.len h1)).symm

open Classical in
/-- A call of yield, by whoever holds other objects (brought in, too). -/
theorem goes_yieldM {c : Cx} {ops : Array Oper} {i : Nat} {rest : List Nat} {k : List Item} {o : Oper} {E : Env} {Tw : Heap} {f : Operand} {args : Array Operand} {ts : Array TypeId} {m : List Nat} {T T' : Heap} {kl r : Nat} {b : Bool} (n : Nat)
    (ho : ops[i]? = some o) (hg : o.guard = none) (hop : o.op = .call { callee := .value f, args := args, argTypes := ts }) (hf : opd E f = .yld (.abs r)) (hdis : ∀ q ∈ m, q ∉ c.imps) (hout : Out m T c.B) (hr : m[kl]? = some r) (hlp : ∃ ob, T[kl]? = some (some ob) ∧ isLoop ob)
    (ha : V.pureL (args.toList.map (opd E)) = true) (hy : YieldM c.P m T r (args.toList.map (opd E)) b T')
    (h : ∀ B', Out m T' B' → (∀ q, q ∉ m → B' q = c.B q) → putE c.nt o.dst (if b then .tt else .ff) E False fun E' => evp { c with B := B' } n (.inRegion ops rest :: k) E' Tw) :
    Goes c (.inRegion ops (i :: rest) :: k) E Tw := by
  refine goes_step fun w β H mw a fb cs hs h1 h2 h3 => ?_
  have hnot : ∀ q, q ∈ m → q ∉ mw := fun q hq hm => by
    obtain ⟨j, hj⟩ := List.getElem?_of_mem hq
    obtain ⟨ob, _, e2, _⟩ := hout.at_ j q hj
    obtain ⟨j2, hj2⟩ := List.getElem?_of_mem hm
    rcases Nat.lt_or_ge j2 c.imps.length with hlt | hge
    · refine hdis q hq ?_
      have := hs.imp
      rw [← this]
      exact List.mem_of_getElem? (i := j2) (by rw [List.getElem?_take, if_pos hlt]; exact hj2)
    · have := hs.own j2 q hge hj2
      simp only at this
      rw [this] at e2
      cases e2
  have hHr : ∀ (q : Nat) (ob : HObj), q ∉ mw → c.B q = some ob → H[q]? = some (some ob) := fun q ob hm hq => by
    have hlt : q < H.length := by
      rcases Nat.lt_or_ge q H.length with h | h
      · exact h
      · have := hs.fut q h
        simp only at this
        rw [this] at hq
        cases hq
    rw [hs.base q hlt hm]
    exact congrArg some hq
  have hlt : ∀ q, q ∈ m → q < H.length := fun q hq => by
    obtain ⟨j, hj⟩ := List.getElem?_of_mem hq
    obtain ⟨ob, _, e2, _⟩ := hout.at_ j q hj
    exact lt_of_get (hHr q _ (hnot q hq) e2)
  have hs0 : SRel [] 0 w β H [] ⟨[], [], fun q => (H[q]?).getD none, []⟩ bare :=
    ⟨hs.hrel, rfl, fun k => by simp [lk, V.conv]; exact .undef _, rfl, List.nodup_nil, by simp, rfl, fun q hq _ => by simp [hq], fun q hq => by simp [List.getElem?_eq_none hq], by simp, by simp, by simp, rfl, by simp⟩
  have hout0 : Out m T (fun q => (H[q]?).getD none) := ⟨hout.len, hout.nodup, fun j q hj => by
    obtain ⟨ob, e1, e2, e3⟩ := hout.at_ j q hj
    exact ⟨ob, e1, by simp [hHr q _ (hnot q (List.mem_of_getElem? hj)) e2], e3⟩⟩
  obtain ⟨oblp, hlp1, hlp2⟩ := hlp
  have hHl : H[r]? = some (some (oblp.conv m)) := hHr r _ (hnot r (List.mem_of_getElem? hr)) (hout.get hr hlp1)
  have hfv : Rep w β H ((opd E f).conv mw) (a.eval f) := opd_rep hs f
  rw [hf] at hfv
  simp only [V.conv, Ref.conv] at hfv
  generalize hq : a.eval f = q at hfv
  cases hfv with
  | yldDead _ _ hd => rw [hHl] at hd; cases hd
  | yldLive _ l N st pe fn E0 nt ps asg bo hH hβ =>
    obtain ⟨rl, w', β', H', B1, g1, g2, g3, g3o, g3b, g4, g5⟩ := hy w β H _ (args.map a.eval) (fb.atR a (.inRegion ops (i :: rest) :: k)) cs l N hs0 hout0 hβ (by simp) (fun j x v hj hv => by
      simp only [List.getElem?_map, Array.getElem?_toList, Option.map_eq_some_iff, Array.getElem?_map] at hj hv
      obtain ⟨z, e1, e2⟩ := hj
      obtain ⟨z', e3, e4⟩ := hv
      rw [e1] at e3
      injection e3 with e3
      subst e3 e2 e4
      have hz : (opd E z).pureB = true := pureL_mem _ ha _ (List.mem_map.2 ⟨z, by simpa using Array.mem_of_getElem? e1, rfl⟩)
      have := opd_rep hs z
      simp only at this
      rwa [pure_conv _ _ hz] at this)
    have hlen : H.length ≤ H'.length := g4.len
    have hnew : ∀ q, q < H'.length → H'[q]? = some (B1 q) := fun q hq => g3.base q hq (by simp)
    have hold : ∀ q, q < H.length → q ∉ m → H'[q]? = H[q]? := fun q hq hm => by
      rw [hnew q (Nat.lt_of_lt_of_le hq hlen), g3b q hm]
      simp [hq]
    obtain ⟨B', hB'⟩ : ∃ B' : Base, B' = fun q => if q ∈ m then B1 q else c.B q := ⟨_, rfl⟩
    have hBm : ∀ q, q ∈ m → B' q = B1 q := fun q hq => by rw [hB']; simp [hq]
    have hBn : ∀ q, q ∉ m → B' q = c.B q := fun q hq => by rw [hB']; simp [hq]
    have hout' : Out m T' B' := ⟨g3o.len, g3o.nodup, fun j q hj => by
      obtain ⟨ob, e1, e2, e3⟩ := g3o.at_ j q hj
      exact ⟨ob, e1, by rw [hBm q (List.mem_of_getElem? hj)]; exact e2, e3⟩⟩
    have hsw : SRel c.imps c.nt w' β' H' mw ⟨E, Tw, B', c.D⟩ a := by
      refine ⟨g3.hrel, hs.size, fun k => (hs.env k).mono g4, hs.mlen, hs.nodup, fun j q ob hj hob => ?_, hs.imp, fun q hq hqm => ?_, fun q hq => ?_, fun j q hj hq => ?_, hs.scE, hs.scT, hs.defs, ?_⟩
      · have hqm : q ∉ m := fun hm => hnot q hm (List.mem_of_getElem? hj)
        rw [hold q (hs.lt hj) hqm]
        exact hs.loc j q ob hj hob
      · by_cases hm : q ∈ m
        · simp only
          rw [hBm q hm]
          exact hnew q hq
        · simp only
          rw [hBn q hm]
          rcases Nat.lt_or_ge q H.length with h1 | h1
          · rw [hold q h1 hm]
            exact hs.base q h1 hqm
          · have e0 : c.B q = none := hs.fut q h1
            rw [hnew q hq, g3b q hm, e0, List.getElem?_eq_none h1]
            rfl
      · have hm : q ∉ m := fun hm => by have := hlt q hm; omega
        simp only
        rw [hBn q hm]
        exact hs.fut q (Nat.le_trans hlen hq)
      · have hqm : q ∉ m := fun hm => hnot q hm (List.mem_of_getElem? hq)
        simp only
        rw [hBn q hqm]
        exact hs.own j q hj hq
      · intro j q hj
        obtain ⟨r', b', N', e1, e2, e3, e4⟩ := hs.marks j q hj
        refine ⟨r', b', N', e1, e2, ?_, e4⟩
        have hqm : r' ∉ m := fun hm => hnot r' hm (List.mem_of_getElem? e1)
        have hH0 := hs.loc q r' _ e1 e2
        exact dfr_stays g4 (by simpa [HObj.conv] using hH0) e3 (by rw [hold r' (hs.lt e1) hqm, hH0]; rfl)
    obtain ⟨E', hk, hd⟩ := (putE_some (h B' hout' hBn)).resolve_left id
    have hput := hsw.putTo (d := o.dst) (x := if b then .tt else .ff) (v := .bool b) (E' := E') (by cases b; exact .ff; exact .tt) hd
    have hfin : (fb.atR a (.inRegion ops (i :: rest) :: k)).finish (.bool b) = fb.atR (a.put o.dst (.bool b)) (.inRegion ops rest :: k) := by
      rw [Frame.finish_atR]
      simp [ho]
    rw [hfin] at g5
    refine ⟨w', β', H', mw, a.put o.dst (.bool b), _, ⟨E', Tw, B', c.D⟩, .head ?_ g5, hput, g4, evp_sound n _ _ _ _ hk⟩
    refine step_lone_go ?_
    rw [stepGR_op ho (wanted_none hg _), Oper.semAt_eq _ _ _ (by intro cl; rw [hop]; exact fun h => by cases h)]
    have hrun : (execOp a.eval o).run c.P w = .ok (.round l rl.fn ((rl.params.zip (args.map a.eval)).foldl (fun tmps (t, a) => tmps.setIfInBounds t a) rl.tmps) rl.assign rl.body) w := by
      have hyr := run_yield (P := c.P) (args := args.map a.eval) g1 g2
      have e0 : (execOp a.eval o).run c.P w = (Instr.yield l (args.map a.eval)).run c.P w := by simp [execOp, hop, resolve, Deferred.ofValue, hq, invoke]
      rw [e0]
      exact hyr
    simp [stepG.apply, hrun, Sem.runT_eq]

/-- What a round within comes to. -/
def XM (n : Nat) (kl : Nat) (m : List Nat) (B : Base) (b : Bool) (Tw' T' : Heap) (e : Exit) (s : St) : Prop :=
  s.D = [] ∧ Out m T' s.B ∧ (∀ q, q ∉ m → s.B q = B q) ∧ ∃ T1, T1.length = n ∧ heapIs n s.T T1 ∧ roundEnd T1 kl e = some (b, Tw')

theorem yield_okM {P : Program} {mw m : List Nat} {Tw T Tw' T' : Heap} {kl r : Nat} {y : List V} {b : Bool} {fn : FuncId} {E0 : Env} {nt0 : Nat} {ps : Array Tmp} {asg bo : Code} (n : Nat) (hT : Tw[kl]? = some (some (.loop .ready none fn E0 nt0 ps asg bo))) (hr : mw[kl]? = some r) (hps : ps.size = y.length) (hpl : ps.toList.all (Nat.blt · nt0) = true)
    (hy : V.pureL y = true) (hlive : allLive Tw' = true) (hlw : mw.length = Tw.length) (hlen : Tw'.length = Tw.length) (hnd : (mw ++ m).Nodup) (hcw : Shut Tw) (hct : Shut T)
    (h : ∀ (B : Base) (l : Nat), Out m T B → evp { P := P, nt := nt0, fn := fn, ro := some (r, l), imps := mw, X := XM Tw.length kl m B b Tw' T', B := B, D := [] } n [.code asg, .beginRound, .code bo] (psEnv ps.toList y E0) Tw) :
    YieldM P (mw ++ m) (joinH mw Tw m T) r y b (joinH mw Tw' m T') := by
  intro w β H B vals c cs l N hs hout hβ hl hv
  obtain ⟨ow, om⟩ := hout.split hlw hcw hct
  have hnd3 := (List.nodup_append.1 hnd).2.2
  have hHr : ∀ (q : Nat) (ob : HObj), B q = some ob → H[q]? = some (some ob) := fun q ob hq => hs.baseAt (by simp) hq
  have hH := hHr r _ (ow.get hr hT)
  have hob := hs.hrel.obj r _ hH
  rw [hβ] at hob
  obtain ⟨tmps, db, e1, e2, e3⟩ := hob
  have g := evp_sound _ _ _ _ _ (h B l om)
  unfold Goes at g
  let b0 : Frame := { (default : Frame) with fn := fn, kind := .normal, roundOf := some l }
  have hpl' : ∀ t ∈ ps.toList, t < nt0 := fun t ht => Nat.le_of_ble_eq_true (List.all_eq_true.1 hpl t ht)
  obtain ⟨f1, f2⟩ := foldl_put (w := w) (β := β) (H := H) (m := mw) ps.toList vals.toList y E0 tmps e2 hpl' (by simp; omega) (by simpa using hl) (fun j x v hj hv' => by
    rw [pure_conv _ _ (pureL_mem _ hy x (List.mem_of_getElem? hj))]
    exact hv j x v hj (by simpa using hv')) (fun k => by have := e3 k; rwa [lk_conv] at this)
  have hs1 : SRel mw nt0 w β H mw ⟨psEnv ps.toList y E0, Tw, B, []⟩ { tmps := (ps.toList.zip vals.toList).foldl (fun tmps (t, a) => tmps.setIfInBounds t a) tmps, defers := [] } := by
    refine ⟨hs.hrel, f1, f2, hlw, (List.nodup_append.1 hnd).1, fun j q ob hj hob => ?_, by simp, fun q hq _ => hs.base q hq (by simp), hs.fut, fun j q hj hq => by have := lt_of_get hq; omega, fun p hp => ?_, hcw.sc, rfl, by simp⟩
    · obtain ⟨ob', e1, e2, _⟩ := ow.at_ j q hj
      simp only at hob
      rw [e1] at hob
      injection hob with hob
      subst hob
      exact hHr q _ e2
    · rcases psEnv_mem _ _ _ _ hp with hp | hp
      · exact hcw.sc kl _ hT p hp
      · exact pureSc _ _ (pureL_mem _ hy _ hp)
  have hfold : (ps.zip vals).foldl (fun tmps (t, a) => tmps.setIfInBounds t a) tmps = (ps.toList.zip vals.toList).foldl (fun tmps (t, a) => tmps.setIfInBounds t a) tmps := by
    rw [← Array.foldl_toList, Array.toList_zip]
  have hround : Frame.round l fn ((ps.zip vals).foldl (fun tmps (t, a) => tmps.setIfInBounds t a) tmps) asg bo .normal = b0.atR { tmps := (ps.toList.zip vals.toList).foldl (fun tmps (t, a) => tmps.setIfInBounds t a) tmps, defers := [] } [.code asg, .beginRound, .code bo] := by
    rw [hfold]
    simp [Frame.round, Frame.atR, b0]
  refine ⟨{ state := .ready, pending := none, fn := fn, tmps := tmps, params := ps, assign := asg, body := bo, defers := db }, ?_⟩
  obtain ⟨e, s', w', β', H', m', a', ⟨hD, hO, hB, T1, hT1, hT2, hT3⟩, hs', hfr, hend⟩ := g w β H mw _ b0 (c :: cs) hs1 rfl rfl ⟨rfl, .inr ⟨_, hH, trivial⟩, N, hβ⟩
  obtain ⟨E', T2, B', D'⟩ := s'
  simp only at hD hB hT2 hO
  subst hD
  -- down to what the ranging side holds
  rw [← hT1] at hT2
  obtain ⟨T'', rfl, hsc⟩ := heapIs_eq hT2
  have himl : mw.length ≤ T1.length := by omega
  obtain ⟨m2, H2, k1, k2, k3⟩ := SRel.dropTo T'' hs'.bare himl (by simp) hsc (by simp)
  have hm2 : m2 = mw := by
    rw [k3, hT1, ← hlw]
    exact hs'.imp
  subst hm2
  have hfr2 := hfr.trans k2
  have hβ' : β' r = .blk l N := by
    rw [hfr2.fix r (.inr ⟨_, hH, trivial⟩)]
    exact hβ
  have fin : ∀ (w2 : World) (H3 : Heap) (fr : Frame), SRel m2 0 w2 β' H3 m2 ⟨[], Tw', B', []⟩ bare → Fr w β H w2 β' H3 →
      Steps P (lone (Frame.round l fn ((ps.zip vals).foldl (fun tmps (t, a) => tmps.setIfInBounds t a) tmps) asg bo .normal) (c :: cs) w) (lone (c.finish (.bool b)) cs w2) →
      ∃ (w' : World) (β' : Nat → Loc) (H' : Heap) (B' : Base), w.heap[l]? = some (.loop { state := .ready, pending := none, fn := fn, tmps := tmps, params := ps, assign := asg, body := bo, defers := db }) ∧ vals.size = ps.size ∧ SRel [] 0 w' β' H' [] ⟨[], [], B', []⟩ bare ∧ Out (m2 ++ m) (joinH m2 Tw' m T') B' ∧ (∀ q, q ∉ m2 ++ m → B' q = B q) ∧ Fr w β H w' β' H' ∧
        Steps P (lone (Frame.round l fn ((ps.zip vals).foldl (fun tmps (t, a) => tmps.setIfInBounds t a) tmps) asg bo .normal) (c :: cs) w) (lone (c.finish (.bool b)) cs w') := by
    intro w2 H3 _ z2 z3 z4
    obtain ⟨B2, hB2⟩ : ∃ B2 : Base, B2 = fun q => (H3[q]?).getD none := ⟨_, rfl⟩
    refine ⟨w2, β', H3, B2, e1, by omega, ?_, Out.join ⟨by rw [hlw, hlen], (List.nodup_append.1 hnd).1, fun j q hj => ?_⟩ ⟨hO.len, hO.nodup, fun j q hj => ?_⟩ hnd, fun q hq => ?_, z3, z4⟩
    · rw [hB2]
      exact ⟨z2.hrel, rfl, fun k => by simp [lk, V.conv]; exact .undef _, rfl, List.nodup_nil, by simp, rfl, fun q hq _ => by simp [hq], fun q hq => by simp [List.getElem?_eq_none hq], by simp, by simp, by simp, rfl, by simp⟩
    · have hjT : j < Tw'.length := by have := lt_of_get hj; omega
      have hTj := List.getElem?_eq_getElem hjT
      obtain ⟨ob, hob⟩ := allLive_get hlive j _ hTj
      rw [hob] at hTj
      refine ⟨ob, hTj, ?_, ?_⟩
      · have := z2.loc j q _ hj hTj
        rw [hB2]
        simp only
        rw [this]
        rfl
      · have := z2.scT j ob hTj
        simp only at this
        rw [hlw, ← hlen]
        exact this
    · obtain ⟨ob, o1, o2, o3⟩ := hO.at_ j q hj
      refine ⟨ob, o1, ?_, o3⟩
      have hq1 : q ∉ m2 := fun hm => hnd3 q hm q (List.mem_of_getElem? hj) rfl
      have hq2 : q < H3.length := by
        rcases Nat.lt_or_ge q H3.length with h | h
        · exact h
        · have := z2.fut q h
          simp only at this
          rw [this] at o2
          cases o2
      have := z2.base q hq2 hq1
      rw [hB2]
      simp only
      rw [this]
      exact o2
    · have hq1 : q ∉ m2 := fun hm => hq (List.mem_append_left _ hm)
      have hq2 : q ∉ m := fun hm => hq (List.mem_append_right _ hm)
      rw [hB2]
      simp only
      rcases Nat.lt_or_ge q H3.length with h1 | h1
      · rw [z2.base q h1 hq1]
        exact hB q hq2
      · rw [List.getElem?_eq_none h1]
        exact (hs.fut q (Nat.le_trans z3.len h1)).symm
  unfold roundEnd at hT3
  split at hT3
  · rename_i st pe fn1 E1 nt1 ps1 as1 bo1 hk1
    have endOf : ∀ (jump : Option Code) (bb : Bool), bb = jump.isNone → Tw' = T1.set kl (some (.loop (if jump.isNone then .ready else .done) jump fn1 E1 nt1 ps1 as1 bo1)) →
        ∃ w2 H3, (Instr.endRound l jump).run P w' = .ok (.bool bb) w2 ∧ SRel m2 0 w2 β' H3 m2 ⟨[], Tw', B', []⟩ bare ∧ Fr w β H w2 β' H3 := by
      intro jump bb hbb hT'
      obtain ⟨rl, q1, q2, q3, q4, q5, q6, q7, q8, q9, H3, q10, q11⟩ := k1.turnLoop (st' := if jump.isNone then .ready else .done) (pe' := jump) hr hk1 hβ'
      refine ⟨_, H3, ?_, ?_, hfr2.trans q11⟩
      · rw [run_endRound jump q1, hbb]
      · rw [hT']
        exact q10
    cases e with
    | normal =>
      injection hT3 with hT3
      injection hT3 with hb hT'
      subst hb
      obtain ⟨w2, H3, z1, z2, z3⟩ := endOf none true rfl hT'.symm
      obtain ⟨w3, β3, H4, B4, y1, y2, y3⟩ := fin w2 H3 default z2 z3 (by
        rw [hround]
        exact Steps.trans hend (.one (stepR_round_end rfl rfl z1)))
      exact ⟨w3, β3, H4, B4, y1, y2, y3⟩
    | ret =>
      injection hT3 with hT3
      injection hT3 with hb hT'
      subst hb
      obtain ⟨w2, H3, z1, z2, z3⟩ := endOf (some .ret) false rfl hT'.symm
      obtain ⟨k0, hend⟩ := hend
      obtain ⟨w3, β3, H4, B4, y1, y2, y3⟩ := fin w2 H3 default z2 z3 (by
        rw [hround]
        exact Steps.trans hend (.one (stepR_round_ret rfl rfl z1)))
      exact ⟨w3, β3, H4, B4, y1, y2, y3⟩
    | exit id =>
      injection hT3 with hT3
      injection hT3 with hb hT'
      subst hb
      obtain ⟨w2, H3, z1, z2, z3⟩ := endOf (some (.exit id)) false rfl hT'.symm
      obtain ⟨k0, hx, hend⟩ := hend
      obtain ⟨w3, β3, H4, B4, y1, y2, y3⟩ := fin w2 H3 default z2 z3 (by
        rw [hround]
        exact Steps.trans hend (.one (stepR_round_exit rfl rfl hx z1)))
      exact ⟨w3, β3, H4, B4, y1, y2, y3⟩
    | goto t =>
      injection hT3 with hT3
      injection hT3 with hb hT'
      subst hb
      obtain ⟨w2, H3, z1, z2, z3⟩ := endOf (some (.goto t)) false rfl hT'.symm
      obtain ⟨k0, hx, hend⟩ := hend
      obtain ⟨w3, β3, H4, B4, y1, y2, y3⟩ := fin w2 H3 default z2 z3 (by
        rw [hround]
        exact Steps.trans hend (.one (stepR_round_goto rfl rfl hx z1)))
      exact ⟨w3, β3, H4, B4, y1, y2, y3⟩
    | panic ch => cases hT3
    | outgrown => cases hT3
  · cases hT3

/-- A call of a function that calls yield, from within one: all that it and the outer ranging side hold is turned. -/
theorem call_rangedM {c : Cx} {g : FuncId} {first cap : List V} {kl : Nat} {E : Env} {Tw Tw'' T T'' : Heap} {m : List Nat} {K : V → St → Prop} (hen : Enterable c.P g) (himp : c.imps = []) (hlive : allLive Tw = true) (hkl : kl < Tw.length) (ha : V.pureL (first ++ cap) = true) (hout : Out m T c.B)
    (hlen'' : Tw''.length = Tw.length) (hc'' : Shut Tw → Shut Tw'') (hct'' : Shut T'')
    (hf : ∀ (mw : List Nat) (r : Nat), mw[kl]? = some r → mw.length = Tw.length → (mw ++ m).Nodup → Shut Tw → FunB c.P g (mw ++ m) (joinH mw Tw m T) (first ++ [.yld (.abs r)] ++ cap) (fun _ Z => Z = joinH mw Tw'' m T''))
    (h : ∀ x B', x.pureB = true → Out m T'' B' → (∀ q, q ∉ m → B' q = c.B q) → (∀ k ∈ c.D, Tw''[k]? = some (some .dfr)) ∧ K x ⟨E, Tw'', B', c.D⟩) : CallThen c g (first ++ [.yld (.loc kl)] ++ cap) E Tw K := by
  unfold CallThen
  refine ⟨hen, fun w β H mw a vals cs hs hl hr => ?_⟩
  rw [himp] at hs
  have hml : mw.length = Tw.length := hs.mlen
  have hklm : kl < mw.length := by omega
  have hrk : mw[kl]? = some mw[kl] := List.getElem?_eq_getElem hklm
  have hcw : Shut Tw := ⟨allLive_get hlive, fun k o ho => hs.scT k o ho⟩
  have hHr : ∀ (q : Nat) (ob : HObj), c.B q = some ob → H[q]? = some (some ob) := fun q ob hq => hs.baseAt (by simp) hq
  have hnot : ∀ q, q ∈ m → q ∉ mw := fun q hq => by
    obtain ⟨j, hj⟩ := List.getElem?_of_mem hq
    obtain ⟨ob, _, e2, _⟩ := hout.at_ j q hj
    exact hs.notIn e2 (by simp)
  have hnd : (mw ++ m).Nodup := List.nodup_append.2 ⟨hs.nodup, hout.nodup, fun a ha b hb e => hnot b hb (e ▸ ha)⟩
  have hff := hf mw mw[kl] hrk hml hnd hcw
  unfold FunB at hff
  have hs0 : SRel [] 0 w β H [] ⟨[], [], fun r => (H[r]?).getD none, []⟩ bare := by
    refine ⟨hs.hrel, rfl, fun k => by simp [lk, V.conv]; exact .undef _, rfl, List.nodup_nil, by simp, rfl, fun r h _ => ?_, fun r h1 => ?_, by simp, by simp, by simp, rfl, by simp⟩
    · simp [h]
    · simp [List.getElem?_eq_none h1]
  have hw0 : Out mw Tw (fun r => (H[r]?).getD none) := ⟨hml, hs.nodup, fun k r hk => by
    have hkT : k < Tw.length := by have := lt_of_get hk; omega
    have e := List.getElem?_eq_getElem hkT
    obtain ⟨ob, hob⟩ := allLive_get hlive k _ e
    rw [hob] at e
    have hH := hs.loc k r _ hk e
    refine ⟨ob, e, by simp [hH], ?_⟩
    rw [hml]
    exact hs.scT k ob e⟩
  have ho0 : Out m T (fun r => (H[r]?).getD none) := ⟨hout.len, hout.nodup, fun k r hk => by
    obtain ⟨o, e1, e2, e3⟩ := hout.at_ k r hk
    exact ⟨o, e1, by simp [hHr r _ e2], e3⟩⟩
  have hpa := pureL_mem _ ha
  obtain ⟨x, T', v, w', β', H', B', fr, hq, k1, k2, k3, k4, k5, k6, k7, k8, k9⟩ := hff.2 w β H _ vals cs hs0 (hw0.join ho0 hnd) (by simpa using hl) (fun j x v hj hv => by
    rcases Nat.lt_trichotomy j first.length with h1 | h1 | h1
    · rw [List.append_assoc, List.getElem?_append_left h1] at hj
      have h2 := hr j x v (by rw [List.append_assoc, List.getElem?_append_left h1]; exact hj) hv
      rwa [pure_conv _ _ (hpa x (List.mem_append_left _ (List.mem_of_getElem? hj)))] at h2
    · subst h1
      have h2 := hr first.length (.yld (.loc kl)) v (by simp) hv
      simp at hj
      subst hj
      simpa [V.conv, Ref.conv, hrk] using h2
    · have e : ∀ y : V, (first ++ [y] ++ cap)[j]? = cap[j - (first.length + 1)]? := fun y => by
        rw [List.getElem?_append_right (by simp; omega)]
        simp
      rw [e] at hj
      have h2 := hr j x v (by rw [e]; exact hj) hv
      rwa [pure_conv _ _ (hpa x (List.mem_append_right _ (List.mem_of_getElem? hj)))] at h2)
  subst hq
  have hcw' := hc'' hcw
  obtain ⟨ow, om⟩ := k2.split (by rw [hml, hlen'']) hcw' hct''
  have hH' : ∀ q, q < H'.length → H'[q]? = some (B' q) := fun q hq => k1.base q hq (by simp)
  have hlen := k4.len
  have hmlt : ∀ q, q ∈ m → q < H.length := fun q hq => by
    obtain ⟨j, hj⟩ := List.getElem?_of_mem hq
    obtain ⟨ob, _, e2, _⟩ := hout.at_ j q hj
    exact lt_of_get (hHr q _ e2)
  obtain ⟨B1, hB1⟩ : ∃ B1 : Base, B1 = fun q => if q ∈ m then B' q else c.B q := ⟨_, rfl⟩
  have hBm : ∀ q, q ∈ m → B1 q = B' q := fun q hq => by rw [hB1]; simp [hq]
  have hBn : ∀ q, q ∉ m → B1 q = c.B q := fun q hq => by rw [hB1]; simp [hq]
  have hout1 : Out m T'' B1 := ⟨om.len, om.nodup, fun k r hk => by
    obtain ⟨o, e1, e2, e3⟩ := om.at_ k r hk
    exact ⟨o, e1, by rw [hBm r (List.mem_of_getElem? hk)]; exact e2, e3⟩⟩
  obtain ⟨hD, hk⟩ := h x B1 k6 hout1 hBn
  have hloc' : ∀ (k r : Nat) (o : Option HObj), mw[k]? = some r → Tw''[k]? = some o → H'[r]? = some (o.map (HObj.conv mw)) := fun k r o hk ho => by
    obtain ⟨ob, e1, e2, _⟩ := ow.at_ k r hk
    rw [e1] at ho
    injection ho with ho
    subst ho
    rw [hH' r (Nat.lt_of_lt_of_le (hs.lt hk) hlen), e2]
    rfl
  refine ⟨x, _, v, w', β', H', mw, fr, hk, ?_, k4, by rw [pure_conv _ _ k6]; exact k5, k7, k8, k9, List.prefix_refl _⟩
  rw [himp]
  refine ⟨k1.hrel, hs.size, fun k => (hs.env k).mono k4, by rw [hlen'']; exact hml, hs.nodup, hloc', rfl, fun q hq hqm => ?_, fun q hq => ?_, fun j q hj hq => ?_, fun p hp => by simp only; rw [hlen'']; exact hs.scE p hp, fun k o ho => hcw'.sc k o ho, hs.defs, ?_⟩
  · by_cases hm : q ∈ m
    · simp only
      rw [hBm q hm]
      exact hH' q hq
    · simp only
      rw [hBn q hm]
      rw [hH' q hq, k3 q (fun hx => (List.mem_append.1 hx).elim hqm hm)]
      rcases Nat.lt_or_ge q H.length with h1 | h1
      · have := hs.base q h1 hqm
        rw [this]
        rfl
      · have e0 : c.B q = none := hs.fut q h1
        rw [e0, List.getElem?_eq_none h1]
        rfl
  · have hm : q ∉ m := fun hm => by have := hmlt q hm; omega
    simp only
    rw [hBn q hm]
    exact hs.fut q (Nat.le_trans hlen hq)
  · have hqm : q ∉ m := fun hm => hnot q hm (List.mem_of_getElem? hq)
    simp only
    rw [hBn q hqm]
    exact hs.own j q hj hq
  · intro j q hj
    obtain ⟨r', b', N', e1, e2, e3, e4⟩ := hs.marks j q hj
    have hT' := hD q (List.mem_of_getElem? hj)
    refine ⟨r', b', N', e1, hT', ?_, e4⟩
    refine dfr_stays k4 (by simpa [HObj.conv] using hs.loc q r' _ e1 e2) e3 ?_
    simpa [HObj.conv] using hloc' q r' _ e1 hT'

/-! ### Rounds under names -/
inductive RoundsM (P : Program) (m : List Nat) (kl r : Nat) : List (List V) → Heap → Heap → Bool → Prop
  | nil (T) (hc : Shut T) : RoundsM P m kl r [] T T true
  | go {y ys T T1 T' b} (hl : ∃ ob, T[kl]? = some (some ob) ∧ isLoop ob) (hc : Shut T) (h : YieldM P m T r y true T1) (k : RoundsM P m kl r ys T1 T' b) : RoundsM P m kl r (y :: ys) T T' b
  | stop {y ys T T1} (hl : ∃ ob, T[kl]? = some (some ob) ∧ isLoop ob) (hc : Shut T) (hc1 : Shut T1) (h : YieldM P m T r y false T1) : RoundsM P m kl r (y :: ys) T T1 false
theorem RoundsM.closed {P : Program} {m : List Nat} {kl r : Nat} {ys : List (List V)} {T T' : Heap} {b : Bool} (h : RoundsM P m kl r ys T T' b) : Shut T ∧ Shut T' := by
  induction h with
  | nil T hc => exact ⟨hc, hc⟩
  | go hl hc h k ih => exact ⟨hc, ih.2⟩
  | stop hl hc hc1 h => exact ⟨hc, hc1⟩
theorem RoundsM.cut {P : Program} {m : List Nat} {kl r : Nat} {ys : List (List V)} : ∀ {xs : List (List V)} {T T' : Heap} {b : Bool}, RoundsM P m kl r (xs ++ ys) T T' b →
    ∃ T1 b1, RoundsM P m kl r xs T T1 b1 ∧ ((b1 = true ∧ RoundsM P m kl r ys T1 T' b) ∨ (b1 = false ∧ T' = T1 ∧ b = false))
  | [], T, T', b, h => ⟨T, true, .nil T h.closed.1, .inl ⟨rfl, h⟩⟩
  | x :: xs, T, T', b, h => by
    cases h with
    | go hl hc h k =>
      obtain ⟨T1, b1, h1, h2⟩ := RoundsM.cut k
      exact ⟨T1, b1, .go hl hc h h1, h2⟩
    | stop hl hc hc1 h => exact ⟨_, false, .stop hl hc hc1 h, .inr ⟨rfl, rfl, rfl⟩⟩
/-- Rounds within: each one calls the outer yield with what it was given, and is left as that says. -/
theorem RoundsM.nest {P : Program} {m mw : List Nat} {kl r klw rw : Nat} {Twr Twd : Heap} {α : Type} {ev : α → List V} (hlw : ∃ ob, Twr[klw]? = some (some ob) ∧ isLoop ob) (hcr : Shut Twr) (hcd : Shut Twd)
    (step : ∀ (a : α) (T T1 : Heap) (b : Bool), Shut T → (∃ ob, T[kl]? = some (some ob) ∧ isLoop ob) → YieldM P m T r (ev a) b T1 → YieldM P (mw ++ m) (joinH mw Twr m T) rw (ev a) b (joinH mw (if b then Twr else Twd) m T1)) :
    ∀ (l : List α) {T T' : Heap} {b : Bool}, RoundsM P m kl r (l.map ev) T T' b → RoundsM P (mw ++ m) klw rw (l.map ev) (joinH mw Twr m T) (joinH mw (if b then Twr else Twd) m T') b := by
  have hl' : ∀ T, ∃ ob, (joinH mw Twr m T)[klw]? = some (some ob) ∧ isLoop ob := fun T => by
    obtain ⟨ob, h1, h2⟩ := hlw
    refine ⟨ob.conv mw, ?_, ?_⟩
    · unfold joinH
      rw [List.getElem?_append_left (by rw [nameO_len]; exact lt_of_get h1)]
      exact nameO_get h1
    · cases ob <;> first | exact h2 | trivial
  intro l
  induction l with
  | nil =>
    intro T T' b h
    cases h with
    | nil T hc => exact .nil _ (joinH_closed hcr hc)
  | cons a l ih =>
    intro T T' b h
    cases h with
    | go hl hc h k => exact .go (hl' _) (joinH_closed hcr hc) (step a _ _ true hc hl h) (ih k)
    | stop hl hc hc1 h => exact .stop (hl' _) (joinH_closed hcr hc) (joinH_closed hcd hc1) (step a _ _ false hc hl h)
/-- What is ranged over, under any names. -/
def IterM (P : Program) (g : FuncId) (first cap : List V) (ys : List (List V)) : Prop :=
  ∀ (m : List Nat) (r kl : Nat) (T T' : Heap) (b : Bool), RoundsM P m kl r ys T T' b → m[kl]? = some r → FunB P g m T (first ++ [.yld (.abs r)] ++ cap) (fun _ T'' => T'' = T')

/-- A heap that speaks of its own objects alone, as it is reckoned. -/
def closedB (n : Nat) : Heap → Bool
  | [] => true
  | none :: _ => false
  | some o :: T => o.scB n && closedB n T
theorem closedB_get {n : Nat} : ∀ {T : Heap}, closedB n T = true → (∀ (k : Nat) (o : Option HObj), T[k]? = some o → ∃ ob, o = some ob) ∧ ∀ (k : Nat) (o : HObj), T[k]? = some (some o) → o.sc n
  | [], _ => ⟨fun k o h => by simp at h, fun k o h => by simp at h⟩
  | none :: _, h => by cases h
  | some x :: T, h => by
    simp only [closedB, Bool.and_eq_true] at h
    obtain ⟨i1, i2⟩ := closedB_get h.2
    refine ⟨fun k o hk => ?_, fun k o hk => ?_⟩
    · cases k with
      | zero => simp at hk; exact ⟨x, hk.symm⟩
      | succ k => exact i1 k o (by simpa using hk)
    · cases k with
      | zero =>
        simp at hk
        subst hk
        exact HObj.scB_sc _ h.1
      | succ k => exact i2 k o (by simpa using hk)
theorem rHeap_closed {c : Cx} {E : Env} {ps : Array Tmp} {assign body : Code} {pre : Heap} {st : LoopState} {pe : Option Code} {n : Nat} (hn : pre.length = n) (hp : closedB (n + 2) pre = true) (hE : Env.scB (n + 2) E = true) : Shut (rHeap c E ps assign body pre st pe) := by
  obtain ⟨h1, h2⟩ := closedB_get hp
  have hl : (rHeap c E ps assign body pre st pe).length = n + 2 := by rw [rHeap_len, hn]
  have key : ∀ (k : Nat) (o : Option HObj), (rHeap c E ps assign body pre st pe)[k]? = some o → ∃ ob, o = some ob ∧ ob.sc (n + 2) := fun k o hk => by
    rcases Nat.lt_trichotomy k n with h | h | h
    · rw [rHeap_pre (by omega)] at hk
      obtain ⟨ob, rfl⟩ := h1 k o hk
      exact ⟨ob, rfl, h2 k ob hk⟩
    · subst h
      rw [rHeap_dfr hn] at hk
      injection hk with hk
      exact ⟨_, hk.symm, trivial⟩
    · have hk' : k = n + 1 := by have := lt_of_get hk; omega
      subst hk'
      rw [rHeap_loop hn] at hk
      injection hk with hk
      exact ⟨_, hk.symm, Env.scB_sc E hE⟩
  refine ⟨fun k o hk => ?_, fun k o hk => ?_⟩
  · obtain ⟨ob, h, _⟩ := key k o hk
    exact ⟨ob, h⟩
  · obtain ⟨ob, h, h3⟩ := key k _ hk
    injection h with h
    subst h
    rw [hl]
    exact h3

theorem rounds_foldM {c : Cx} {E : Env} {ps : Array Tmp} {assign body : Code} {σ α : Type} {n : Nat} {m : List Nat} {r : Nat} (hr : m[n + 1]? = some r) (k : Nat) (pre : σ → Heap) (upd : σ → α → σ × Option Code) (ev : α → List V) (I : σ → List α → Prop) (hlen : ∀ s, (pre s).length = n) (hlive : ∀ s, allLive (pre s) = true)
    (hps : ∀ a, ps.size = (ev a).length) (hpl : ps.toList.all (Nat.blt · c.nt) = true) (hy : ∀ a, V.pureL (ev a) = true) (hcl : ∀ s, closedB (n + 2) (pre s) = true) (hE : Env.scB (n + 2) E = true)
    (step : ∀ s a asg, I s (a :: asg) → ((upd s a).2 = none → I (upd s a).1 asg) ∧ ∀ (imps : List Nat) (B : Base) (r l : Nat), imps.length = n + 2 → imps[n + 1]? = some r →
      evp (roundX c E ps assign body imps B r l n (pre (upd s a).1) (upd s a).2) k [.code assign, .beginRound, .code body] (psEnv ps.toList (ev a) E) (rHeap c E ps assign body (pre s) .ready none)) :
    ∀ (asg : List α) (s : σ), I s asg → RoundsM c.P m (n + 1) r (asg.map ev) (rHeap c E ps assign body (pre s) .ready none)
      (rHeap c E ps assign body (pre (rfold upd s asg).1) (if (rfold upd s asg).2.isNone then .ready else .done) (rfold upd s asg).2) (rfold upd s asg).2.isNone
  | [], s, _ => .nil _ (rHeap_closed (hlen s) (hcl s) hE)
  | a :: asg, s, hI => by
    obtain ⟨h1, h2⟩ := step s a asg hI
    have hy := YieldM.of hr (round_yield k (hlen s) (hlen _) (hps a) hpl (hy a) (hlive _) h2)
    rw [List.map_cons, rfold]
    generalize hu : upd s a = u at h1 hy
    obtain ⟨s', j⟩ := u
    cases j with
    | none => exact .go ⟨_, rHeap_loop (hlen s), trivial⟩ (rHeap_closed (hlen s) (hcl s) hE) hy (rounds_foldM hr k pre upd ev I hlen hlive hps hpl ‹_› hcl hE step asg s' (h1 rfl))
    | some j => exact .stop ⟨_, rHeap_loop (hlen s), trivial⟩ (rHeap_closed (hlen s) (hcl s) hE) (rHeap_closed (hlen s') (hcl s') hE) hy

theorem goes_rangeM {c : Cx} {f : Operand} {ps : Array Tmp} {assign body : Code} {k : List Item} {E : Env} {T : Heap} {g : FuncId} {first cap : List V} {σ α : Type} (n : Nat) (L : Nat) (pre : σ → Heap) (upd : σ → α → σ × Option Code) (ev : α → List V) (I : σ → List α → Prop) (s0 : σ) (asg : List α)
    (hro : c.ro = none) (hf : opd E f = .fn (.func g) first cap) (hca : V.pureL (first ++ cap) = true) (hit : IterM c.P g first cap (asg.map ev)) (hpre : pre s0 = T) (hlen : ∀ s, (pre s).length = L) (hlive : ∀ s, allLive (pre s) = true)
    (hps : ∀ a, ps.size = (ev a).length) (hpl : ps.toList.all (Nat.blt · c.nt) = true) (hy : ∀ a, V.pureL (ev a) = true) (hD : ∀ s, ∀ k ∈ c.D, (pre s)[k]? = some (some .dfr)) (hcl : ∀ s, closedB (L + 2) (pre s) = true) (hE : Env.scB (L + 2) E = true) (hI : I s0 asg)
    (step : ∀ s a asg, I s (a :: asg) → ((upd s a).2 = none → I (upd s a).1 asg) ∧ ∀ (imps : List Nat) (B : Base) (r l : Nat), imps.length = L + 2 → imps[L + 1]? = some r →
      evp (roundX c E ps assign body imps B r l L (pre (upd s a).1) (upd s a).2) n [.code assign, .beginRound, .code body] (psEnv ps.toList (ev a) E) (rHeap c E ps assign body (pre s) .ready none))
    (K : evp { c with D := L :: c.D } n ((match (rfold upd s0 asg).2 with | some j => [.code j] | none => []) ++ k) E (rHeap c E ps assign body (pre (rfold upd s0 asg).1) .exhausted (rfold upd s0 asg).2)) :
    Goes c (.code (.rangeFunc f ps assign body) :: k) E T := by
  have hTL : T.length = L := by rw [← hpre]; exact hlen s0
  refine goes_rangeFunc n hro hf ?_
  rw [hTL]
  have hT : T ++ [some HObj.dfr] ++ [some (.loop .ready none c.fn E c.nt ps assign body)] = rHeap c E ps assign body (pre s0) .ready none := by rw [hpre]; rfl
  rw [hT]
  have hR := fun (m : List Nat) (r : Nat) (hr : m[L + 1]? = some r) => hit m r (L + 1) _ _ _ (rounds_foldM (c := c) (E := E) (assign := assign) (body := body) hr n pre upd ev I hlen hlive hps hpl hy hcl hE step asg s0 hI) hr
  refine call_ranged (c := { c with D := L :: c.D }) (rHeap_live (hlive s0)) (by rw [rHeap_len, hlen]; omega) hca hR ?_
  rintro x T' rfl _ _
  refine ⟨fun q hq => ?_, ?_⟩
  · rcases List.mem_cons.1 hq with rfl | hq
    · exact rHeap_dfr (hlen _)
    · have h1 := hD (rfold upd s0 asg).1 q hq
      rw [rHeap_pre (lt_of_get h1)]
      exact h1
  · unfold loopEnd
    rw [lget_eq, rHeap_loop (hlen _)]
    simp only
    refine ⟨by split <;> first | trivial | (rename_i h; split at h <;> cases h), ?_⟩
    rw [lset_eq, rHeap_set (hlen _)]
    exact K
end Bow
/- AE52: a range over a function within a function that calls yield, whose body calls that yield with what it is given. -/
namespace Bow
open Go

/-- How a round within is left, as the outer yield says. -/
def leftAs (b : Bool) : Exit → Prop
  | .normal => b = true
  | .ret => b = false
  | _ => False
def nestX (c : Cx) (E : Env) (ps : Array Tmp) (assign body : Code) (mw : List Nat) (m : List Nat) (B : Base) (r l : Nat) (n : Nat) (Tw T1 : Heap) (b : Bool) : Cx :=
  { P := c.P, nt := c.nt, fn := c.fn, ro := some (r, l), imps := mw, B := B, D := [],
    X := fun e s => s.D = [] ∧ Out m T1 s.B ∧ (∀ q, q ∉ m → s.B q = B q) ∧ leftAs b e ∧ heapIs (n + 2) s.T (rHeap c E ps assign body Tw .busy none) }
def endSt (b : Bool) : LoopState := if b then .ready else .done
def endPe (b : Bool) : Option Code := if b then none else some .ret

theorem nest_yield {c : Cx} {E : Env} {ps : Array Tmp} {assign body : Code} {Tw T T1 : Heap} {y : List V} {b : Bool} {mw m : List Nat} {rw : Nat} (k : Nat) {L : Nat} (hL : Tw.length = L) (hrw : mw[L + 1]? = some rw) (hps : ps.size = y.length) (hpl : ps.toList.all (Nat.blt · c.nt) = true)
    (hy : V.pureL y = true) (hlive : allLive Tw = true) (hlw : mw.length = L + 2) (hnd : (mw ++ m).Nodup) (hcl : closedB (L + 2) Tw = true) (hE : Env.scB (L + 2) E = true) (hct : Shut T)
    (h : ∀ (B : Base) (l : Nat), Out m T B → evp (nestX c E ps assign body mw m B rw l L Tw T1 b) k [.code assign, .beginRound, .code body] (psEnv ps.toList y E) (rHeap c E ps assign body Tw .ready none)) :
    YieldM c.P (mw ++ m) (joinH mw (rHeap c E ps assign body Tw .ready none) m T) rw y b (joinH mw (rHeap c E ps assign body Tw (endSt b) (endPe b)) m T1) := by
  refine yield_okM 0 (rHeap_loop hL) hrw hps hpl hy (rHeap_live hlive) (by rw [rHeap_len, hL, hlw]) (by rw [rHeap_len, rHeap_len]) hnd (rHeap_closed hL hcl hE) hct fun B l ho => ?_
  have g := evp_sound _ _ _ _ _ (h B l ho)
  have : ∀ {todo : List Item} {E0 : Env} {T0 : Heap}, Goes (nestX c E ps assign body mw m B rw l L Tw T1 b) todo E0 T0 →
      Goes { P := c.P, nt := c.nt, fn := c.fn, ro := some (rw, l), imps := mw, X := XM (rHeap c E ps assign body Tw .ready none).length (L + 1) m B b (rHeap c E ps assign body Tw (endSt b) (endPe b)) T1, B := B, D := [] } todo E0 T0 := by
    intro todo E0 T0 g
    unfold Goes at g ⊢
    intro w β H m' a b1 cs hs hb hk hro
    obtain ⟨e, s', w', β', H', m2, a', ⟨x1, x2, x3, x4, x5⟩, k1, k2, k3⟩ := g w β H m' a b1 cs hs hb hk hro
    refine ⟨e, s', w', β', H', m2, a', ⟨x1, x2, x3, rHeap c E ps assign body Tw .busy none, by rw [rHeap_len, rHeap_len], by rw [rHeap_len, hL]; exact x5, ?_⟩, k1, k2, k3⟩
    unfold roundEnd
    rw [rHeap_loop hL]
    cases e with
    | normal =>
      have x4 : b = true := x4
      subst x4
      simp [rHeap_set hL, endSt, endPe]
    | ret =>
      have x4 : b = false := x4
      subst x4
      simp [rHeap_set hL, endSt, endPe]
    | exit i => exact x4.elim
    | goto i => exact x4.elim
    | panic _ => exact x4.elim
    | outgrown => exact x4.elim
  exact this g

theorem goes_rangeNest {c : Cx} {f : Operand} {ps : Array Tmp} {assign body : Code} {k : List Item} {E : Env} {Tw : Heap} {g : FuncId} {first cap : List V} {α : Type} {ev : α → List V} {asg : List α} {m : List Nat} {kl r : Nat} {T T' : Heap} {b : Bool} (n L : Nat)
    (hen : Enterable c.P g) (hro : c.ro = none) (himp : c.imps = []) (hf : opd E f = .fn (.func g) first cap) (hL : Tw.length = L) (hlive : allLive Tw = true) (hca : V.pureL (first ++ cap) = true) (hps : ∀ a, ps.size = (ev a).length) (hpl : ps.toList.all (Nat.blt · c.nt) = true) (hy : ∀ a, V.pureL (ev a) = true)
    (hD : ∀ k ∈ c.D, Tw[k]? = some (some .dfr)) (hcl : closedB (L + 2) Tw = true) (hE : Env.scB (L + 2) E = true) (hout : Out m T c.B) (hit : IterM c.P g first cap (asg.map ev)) (hR : RoundsM c.P m kl r (asg.map ev) T T' b)
    (step : ∀ (mw : List Nat) (rw l : Nat) (B : Base) (a : α) (T T1 : Heap) (b : Bool), mw[L + 1]? = some rw → (∀ q ∈ m, q ∉ mw) → Out m T B → (∃ ob, T[kl]? = some (some ob) ∧ isLoop ob) → YieldM c.P m T r (ev a) b T1 →
      evp (nestX c E ps assign body mw m B rw l L Tw T1 b) n [.code assign, .beginRound, .code body] (psEnv ps.toList (ev a) E) (rHeap c E ps assign body Tw .ready none))
    (K : ∀ B', Out m T' B' → (∀ q, q ∉ m → B' q = c.B q) → evp { c with D := L :: c.D, B := B' } n ((match endPe b with | some j => [.code j] | none => []) ++ k) E (rHeap c E ps assign body Tw .exhausted (endPe b))) :
    Goes c (.code (.rangeFunc f ps assign body) :: k) E Tw := by
  refine goes_rangeFunc n hro hf ?_
  rw [hL]
  have hT : Tw ++ [some HObj.dfr] ++ [some (.loop .ready none c.fn E c.nt ps assign body)] = rHeap c E ps assign body Tw .ready none := rfl
  rw [hT]
  have hF := fun (mw : List Nat) (rw : Nat) (hrw : mw[L + 1]? = some rw) (hml : mw.length = (rHeap c E ps assign body Tw .ready none).length) (hnd : (mw ++ m).Nodup) (_ : Shut (rHeap c E ps assign body Tw .ready none)) => by
    have hml' : mw.length = L + 2 := by rw [hml, rHeap_len, hL]
    have hdis : ∀ q ∈ m, q ∉ mw := fun q hq hm => (List.nodup_append.1 hnd).2.2 q hm q hq rfl
    have hN := RoundsM.nest (mw := mw) (klw := L + 1) (rw := rw) (Twr := rHeap c E ps assign body Tw .ready none) (Twd := rHeap c E ps assign body Tw .done (some .ret)) ⟨_, rHeap_loop hL, trivial⟩ (rHeap_closed hL hcl hE) (rHeap_closed hL hcl hE) (fun a T T1 b hc hl hy1 => by
      have := nest_yield (c := c) (assign := assign) (body := body) n hL hrw (hps a) hpl (hy a) hlive hml' hnd hcl hE hc fun B l ho => step mw rw l B a T T1 b hrw hdis ho hl hy1
      cases b <;> exact this) asg hR
    exact hit (mw ++ m) rw (L + 1) _ _ _ hN (by rw [List.getElem?_append_left (lt_of_get hrw)]; exact hrw)
  refine call_rangedM (c := { c with D := L :: c.D }) hen himp (rHeap_live hlive) (by rw [rHeap_len, hL]; omega) hca hout (by cases b <;> simp [rHeap_len]) (fun _ => by cases b <;> exact rHeap_closed hL hcl hE) hR.closed.2 hF ?_
  intro x B' _ ho hB
  refine ⟨fun q hq => ?_, ?_⟩
  · rcases List.mem_cons.1 hq with rfl | hq
    · cases b <;> exact rHeap_dfr hL
    · have h1 := hD q hq
      cases b
      · exact (rHeap_pre (lt_of_get h1)).trans h1
      · exact (rHeap_pre (lt_of_get h1)).trans h1
  · have K := K B' ho hB
    unfold loopEnd
    cases b
    · simp only [Bool.false_eq_true, if_false]
      rw [lget_eq, rHeap_loop hL]
      simp only
      refine ⟨trivial, ?_⟩
      rw [lset_eq, rHeap_set hL]
      exact K
    · simp only [if_true]
      rw [lget_eq, rHeap_loop hL]
      simp only
      refine ⟨trivial, ?_⟩
      rw [lset_eq, rHeap_set hL]
      exact K
end Bow
/- AE33: values that say less. -/
namespace Bow
open Go

/-- Whatever stands for v stands for v', too. -/
def Wk (v v' : V) : Prop := ∀ (w : World) (β : Nat → Loc) (H : Heap) (u : Value), Rep w β H v u → Rep w β H v' u
theorem Wk.refl (v : V) : Wk v v := fun _ _ _ _ h => h
theorem Wk.of_eq {v v' : V} (h : v = v') : Wk v v' := h ▸ Wk.refl v
theorem Wk.nil (sz : Nat) : Wk .nilsl (.sl sz []) := fun w β H u h => by
  cases h
  exact .sl sz [] none 0 (fun _ => Go.undef) (Nat.le_refl _) (Nat.zero_le _) (by simp) (fun hne => absurd rfl hne) (fun i x j c hi => by simp at hi)
theorem Wk.ff : Wk .ff (.bool false) := fun w β H u h => by cases h; exact .bool false
theorem Wk.tt : Wk .tt (.bool true) := fun w β H u h => by cases h; exact .bool true
/-- Cell by cell. -/
def WkL : List V → List V → Prop
  | [], [] => True
  | x :: xs, y :: ys => Wk x y ∧ WkL xs ys
  | _, _ => False
theorem WkL.len : ∀ {xs ys : List V}, WkL xs ys → ys.length = xs.length
  | [], [], _ => rfl
  | _ :: xs, _ :: ys, h => by simp [WkL.len h.2]
  | [], _ :: _, h => h.elim
  | _ :: _, [], h => h.elim
theorem WkL.get : ∀ {xs ys : List V}, WkL xs ys → ∀ (j : Nat) (y : V), ys[j]? = some y → ∃ x, xs[j]? = some x ∧ Wk x y
  | x :: xs, y :: ys, h, 0, z, hz => by simp at hz; subst hz; exact ⟨x, rfl, h.1⟩
  | x :: xs, y :: ys, h, j + 1, z, hz => by simpa using WkL.get h.2 j z (by simpa using hz)
  | [], [], _, j, z, hz => by simp at hz
  | [], _ :: _, h, _, _, _ => h.elim
  | _ :: _, [], h, _, _, _ => h.elim
theorem Wk.agg {xs ys : List V} (h : WkL xs ys) : Wk (.agg xs) (.agg ys) := fun w β H u r => by
  cases r with
  | agg _ vs hl hc =>
    refine .agg ys vs (h.len.trans hl) fun j c v hj hv => ?_
    obtain ⟨x, hx, hw⟩ := h.get j c hj
    exact hw w β H v (hc j x v hx hv)
theorem Wk.tup {xs ys : List V} (h : WkL xs ys) : Wk (.tup xs) (.tup ys) := fun w β H u r => by
  cases r with
  | tup _ vs hl hc =>
    refine .tup ys vs (h.len.trans hl) fun j c v hj hv => ?_
    obtain ⟨x, hx, hw⟩ := h.get j c hj
    exact hw w β H v (hc j x v hx hv)
/-- Element by element. -/
def WkE (sz : Nat) : List V → List V → Prop
  | [], [] => True
  | x :: xs, y :: ys => (WkL x.cells y.cells ∧ okE sz y) ∧ WkE sz xs ys
  | _, _ => False
theorem WkE.len {sz : Nat} : ∀ {xs ys : List V}, WkE sz xs ys → ys.length = xs.length
  | [], [], _ => rfl
  | _ :: xs, _ :: ys, h => by simp [WkE.len h.2]
  | [], _ :: _, h => h.elim
  | _ :: _, [], h => h.elim
theorem WkE.get {sz : Nat} : ∀ {xs ys : List V}, WkE sz xs ys → ∀ (j : Nat) (y : V), ys[j]? = some y → ∃ x, xs[j]? = some x ∧ WkL x.cells y.cells ∧ okE sz y
  | x :: xs, y :: ys, h, 0, z, hz => by simp at hz; subst hz; exact ⟨x, rfl, h.1⟩
  | x :: xs, y :: ys, h, j + 1, z, hz => by simpa using WkE.get h.2 j z (by simpa using hz)
  | [], [], _, j, z, hz => by simp at hz
  | [], _ :: _, h, _, _, _ => h.elim
  | _ :: _, [], h, _, _, _ => h.elim
theorem Wk.sl {sz : Nat} {xs ys : List V} (h : WkE sz xs ys) : Wk (.sl sz xs) (.sl sz ys) := fun w β H u r => by
  generalize hn : V.sl sz xs = q at r
  cases r with
  | sl sz' xs' a cap vals hcap hmax hsz ha hr =>
    injection hn with h1 h2
    subst h1 h2
    have e := h.len
    rw [← e] at hcap ha ⊢
    refine .sl sz ys a cap vals hcap hmax (fun y hy => ?_) (fun hne => ha (fun hx => hne (by rw [hx] at e; exact List.length_eq_zero_iff.1 e))) (fun i y j c hi hj => ?_)
    · obtain ⟨j, hj, rfl⟩ := List.mem_iff_getElem.1 hy
      obtain ⟨x, _, _, h3⟩ := h.get j _ (List.getElem?_eq_getElem hj)
      exact h3
    · obtain ⟨x, hx, h2, _⟩ := h.get i y hi
      obtain ⟨z, hz, hw⟩ := h2.get j c hj
      exact hw w β H _ (hr i x j z hx hz)
  | _ => cases hn

/-- A result that says less. -/
theorem pure_wk {P : Program} {f : FuncId} {args : List V} {Q : V → Prop} (h : Pure P f args fun x => ∃ y, Wk x y ∧ y.pureB = true ∧ Q y) : Pure P f args Q := by
  unfold Pure Fun at *
  refine ⟨h.1, fun w β H m B vals cs hs hl hr => ?_⟩
  obtain ⟨x, T', v, w', β', H', m', fr, ⟨h1, h2, y, h3, h4, h5⟩, k1, k2, k3, k4⟩ := h.2 w β H m B vals cs hs hl hr
  rw [pure_conv _ _ h2] at k3
  exact ⟨y, T', v, w', β', H', m', fr, ⟨h1, h4, h5⟩, k1, k2, by rw [pure_conv _ _ h4]; exact h3 _ _ _ _ k3, k4⟩
theorem Pure.mono {P : Program} {f : FuncId} {args : List V} {Q Q' : V → Prop} (h : Pure P f args Q) (hq : ∀ x, Q x → Q' x) : Pure P f args Q' := by
  unfold Pure at *
  exact h.mono fun x T ⟨h1, h2, h3⟩ => ⟨h1, h2, hq x h3⟩
/-- Arguments that say more. -/
theorem pure_args {P : Program} {f : FuncId} {args args' : List V} {Q : V → Prop} (h : Pure P f args' Q) (hw : WkL args args') (hp : V.pureL args = true) (hp' : V.pureL args' = true) : Pure P f args Q := by
  unfold Pure Fun at *
  refine ⟨h.1, fun w β H m B vals cs hs hl hr => h.2 w β H m B vals cs hs (hw.len.trans hl) fun j x v hj hv => ?_⟩
  obtain ⟨y, hy, hyx⟩ := hw.get j x hj
  have h1 := hr j y v hy hv
  rw [pure_conv _ _ (pureL_mem _ hp y (List.mem_of_getElem? hy))] at h1
  rw [pure_conv _ _ (pureL_mem _ hp' x (List.mem_of_getElem? hj))]
  exact hyx _ _ _ _ h1

/-- A call of a function that leaves nothing behind; own slices among the arguments are frozen. -/
theorem call_pure_frz {c : Cx} {g : FuncId} {args : List V} {E : Env} {T : Heap} {K : V → St → Prop} (h : frzAll args T False fun args' T' => ∃ Q, Pure c.P g args' Q ∧ V.pureL args' = true ∧ ∀ x, Q x → K x ⟨E, T', c.B, c.D⟩) : CallThen c g args E T K := by
  rcases frzAll_sound (F := False) _ _ _ h with h | ⟨args', T', ⟨Q, hf, ha, hk⟩, hz⟩
  · exact h.elim
  have hen : Enterable c.P g := by
    unfold Pure Fun at hf
    exact hf.1
  unfold CallThen
  refine ⟨hen, fun w β H m a vals cs hs hl hr => ?_⟩
  obtain ⟨H1, h1, h2, h3⟩ := hz.2 _ _ _ _ _ _ _ _ _ _ hs
  obtain ⟨x, v, w', β', H', fr, hq, hp, k1, k2, k3, k4⟩ := pure_step hf ha h1 cs (by rw [hz.1]; exact hl) (fun j x v hj hv => by
    have hjl : j < args.length := by have := lt_of_get hj; rw [hz.1] at this; exact this
    have e := List.getElem?_eq_getElem hjl
    rw [pure_conv _ _ (pureL_mem _ ha x (List.mem_of_getElem? hj))]
    exact h3 j _ x v e hj (hr j _ v e hv))
  exact ⟨x, _, v, w', β', H', m, fr, hk x hq, k1, h2.trans k2, by rw [pure_conv _ _ hp]; exact k3, k4.1, k4.2.1, k4.2.2, List.prefix_refl _⟩

/-! ### Loops at whose head the objects are what they were -/
/-! ### Loops that are left at several places -/
theorem goes_stop {c : Cx} {todo : List Item} {E : Env} {T : Heap} (s : List Nat) (h : Goes { c with stop := s } todo E T) : Goes c todo E T := by
  unfold Goes at *
  exact h
theorem goes_while {c : Cx} {body : Code} {id : Nat} {k : List Item} {E : Env} {T : Heap} {ι κ : Type} (Inv : ι → Prop) (μ : ι → Nat) (Eo : ι → Env) (To : ι → Heap) (i0 : ι) (Post : κ → Prop) (Ex : κ → Env) (Tx : κ → Heap) (n : Nat) (hD : ∀ i, c.D.all (Nat.blt · (To i).length) = true) (hi : ∀ i, Nat.ble c.imps.length (To i).length = true)
    (hDx : ∀ i, c.D.all (Nat.blt · (Tx i).length) = true) (hix : ∀ i, Nat.ble c.imps.length (Tx i).length = true)
    (h0 : Inv i0 ∧ envIs (To i0).length E (Eo i0) ∧ heapIs (To i0).length T (To i0)) (fin : ∀ x, Post x → evp c n k (Ex x) (Tx x))
    (step : ∀ i, Inv i → (∀ j E T, Inv j ∧ μ j < μ i ∧ envIs (To j).length E (Eo j) ∧ heapIs (To j).length T (To j) → Goes { c with stop := [id] } (.inLoop body :: .inBlock id :: k) E T) →
      (∀ x kk E T, exitTo id kk = some k → Post x ∧ envIs (Tx x).length E (Ex x) ∧ heapIs (Tx x).length T (Tx x) → Goes { c with stop := [id] } (.code (.exit id) :: kk) E T) →
      evp { c with stop := [id] } n (.code body :: .inLoop body :: .inBlock id :: k) (Eo i) (To i)) : Goes c (.code (.loop body) :: .inBlock id :: k) E T := by
  refine goes_stop [id] (goes_iter (c := { c with stop := [id] }) Inv μ Eo To i0 n hD hi h0 fun i hinv next => step i hinv next fun x kk E T hk ⟨hp, hE, hT⟩ => ?_)
  refine goes_still (fun b a cs w => stepR_exit hk) ?_
  refine goes_to (c := { c with stop := [id] }) (Ex x) (Tx x) (hDx x) (Nat.le_of_ble_eq_true (hix x)) hE hT ?_
  exact goes_stop (c := { c with stop := [id] }) c.stop (evp_sound n _ _ _ _ (fin x hp))
end Bow
/- AE34: operations that a walk steps over by a rule of their own: makes of slices, bytes to a string, a slice held against nil. -/
namespace Bow
open Go

section
variable {c : Cx} {E : Env} {T : Heap} {ops : Array Oper} {i : Nat} {rest : List Nat} {k : List Item} {o : Oper}

theorem goes_opTo {op : Op} {u : V} {T' : Heap} (n : Nat) (ho : lget ops.toList i = some o) (hg : o.guard = none) (hop : o.op = op) (hto : OpTo c op E T u T') (hnd : ∀ cl, op ≠ .defer cl)
    (h : putE c.nt o.dst u E False fun E' => evp c n (.inRegion ops rest :: k) E' T') : Goes c (.inRegion ops (i :: rest) :: k) E T := by
  rw [lget_eq, Array.getElem?_toList] at ho
  subst hop
  obtain ⟨E', h, hd⟩ := (putE_some h).resolve_left id
  exact goes_op ho (fun _ _ _ _ _ _ => wanted_none hg _) hto hnd hd (evp_sound _ _ _ _ _ h)

/-- A slice that is only read, held against nil: with elements it is not nil; else it may be. -/
theorem goes_nileq {t t' e : TypeId} {x : Operand} {sz : Nat} {xs : List V} {y : Operand} (n : Nat) (ho : lget ops.toList i = some o) (hg : o.guard = none) (hop : o.op = .binOp .eql t x y t') (hx : opd E x = .sl sz xs) (hy : y = .const (.slice none 0 0))
    (ht : tyU c.P t = some (.slice e)) (h : ∀ b : Bool, (b = true → xs = []) → putE c.nt o.dst (.bool b) E False fun E' => evp c n (.inRegion ops rest :: k) E' T) : Goes c (.inRegion ops (i :: rest) :: k) E T := by
  have step : ∀ (w : World) (β : Nat → Loc) (H : Heap) (m : List Nat) (a : Act), SRel c.imps c.nt w β H m ⟨E, T, c.B, c.D⟩ a → ∃ b : Bool, (b = true → xs = []) ∧ (execOp a.eval o).run c.P w = .ok (.value (.bool b)) w := by
    intro w β H m a hs
    have hr := opd_rep hs x
    simp only [hx, V.conv] at hr
    generalize hq : a.eval x = q at hr
    generalize hyy : V.sl sz xs = yy at hr
    cases hr with
    | sl sz' xs' ad cap vals hcap hmax hok ha hc =>
      injection hyy with y1 y2
      subst y1 y2
      subst hy
      refine ⟨ad.isNone, fun hn => ?_, ?_⟩
      · refine Classical.byContradiction fun hne => ?_
        obtain ⟨ad', rfl, _⟩ := ha hne
        cases hn
      · have e2 : a.eval (.const (.slice none 0 0)) = .slice none 0 0 := rfl
        simp only [execOp, hop, hq, e2]
        have heq : (Op.equal t (.slice ad xs.length cap) (.slice none 0 0)).run c.P w = .ok ad.isNone w := by
          unfold Op.equal Op.maxDepth Op.equalIn
          cases ad <;> simp [Sem.run_bind, run_underlying (tyU_sound ht)]
        have hbin : (binOp .eql t (.slice ad xs.length cap) (.slice none 0 0)).run c.P w = .ok (.bool ad.isNone) w := by
          unfold binOp
          simp only [Sem.run_bind, heq]
          simp
        have hgd : (eqGuard .eql t x (.const (.slice none 0 0)) (.slice ad xs.length cap) (.slice none 0 0)).run c.P w = .ok () w := by
          simp [eqGuard]
        simp only [Sem.run_bind, hgd, Result.andThen_ok, hbin]
        rfl
    | _ => cases hyy
  refine goes_step fun w β H m a b cs hs h1 h2 h3 => ?_
  obtain ⟨bb, hb1, hb2⟩ := step w β H m a hs
  obtain ⟨E', h, hd⟩ := (putE_some (h bb hb1)).resolve_left id
  rw [lget_eq, Array.getElem?_toList] at ho
  have hfin : (b.atR a (.inRegion ops (i :: rest) :: k)).finish (.bool bb) = b.atR (a.put o.dst (.bool bb)) (.inRegion ops rest :: k) := by
    rw [Frame.finish_atR]
    simp [ho]
  refine ⟨w, β, H, m, a.put o.dst (.bool bb), .inRegion ops rest :: k, ⟨E', T, c.B, c.D⟩, .one ?_, hs.putTo (.bool bb) hd, Fr.refl _ _ _, evp_sound _ _ _ _ _ h⟩
  refine step_lone_go ?_
  rw [stepGR_op ho (wanted_none hg _), Oper.semAt_eq _ _ _ (by intro cl; rw [hop]; exact fun h => by cases h)]
  simp [stepG.apply, hb2, Sem.runT_eq, hfin]
end
end Bow
/- AE54: operations where the objects are not known one by one; functions that call yield and range over functions themselves. -/
namespace Bow
open Go

theorem opTo_of {c : Cx} {o : Op} {E : Env} {T T1 : Heap} {x : V} (h : evOp c o E T False fun u T' => u = x ∧ T' = T1) : OpTo c o E T x T1 := by
  rcases evOp_sound h with h | ⟨u, T', ⟨rfl, rfl⟩, k⟩
  · exact h.elim
  · exact k

section
variable {c : Cx} {E : Env} {T : Heap} {ops : Array Oper} {i : Nat} {rest : List Nat} {k : List Item} {o : Oper}
theorem goes_allocS {t : TypeId} {z : V} (n : Nat) (ho : lget ops.toList i = some o) (hg : o.guard = none) (hop : o.op = .alloc t) (hz : zeroOf c.P t = some z) (h1 : onesB z.cells = true)
    (h : putE c.nt o.dst (.ptr (.loc T.length) 0) E False fun E' => evp c n (.inRegion ops rest :: k) E' (T ++ [some (.box z.cells)])) : Goes c (.inRegion ops (i :: rest) :: k) E T := by
  refine goes_opTo n ho hg hop (opTo_of ?_) (fun cl h => by cases h) h
  simp only [evOp, hz, h1, cond_true, lnum_eq, lsnoc_eq]
  exact ⟨trivial, trivial⟩
theorem goes_loadS {t : TypeId} {x : Operand} {kk off : Nat} {cs : List V} {u : V} (n : Nat) (ho : lget ops.toList i = some o) (hg : o.guard = none) (hop : o.op = .load t x) (hx : opd E x = .ptr (.loc kk) off) (hT : T[kk]? = some (some (.box cs)))
    (hp : ∀ K : V → Prop, K u → partK c.P t cs off False K) (h : putE c.nt o.dst u E False fun E' => evp c n (.inRegion ops rest :: k) E' T) : Goes c (.inRegion ops (i :: rest) :: k) E T := by
  refine goes_opTo n ho hg hop (opTo_of ?_) (fun cl h => by cases h) h
  simp only [evOp, hx, loadK, lget_eq, hT]
  exact hp _ (by simp)
theorem goes_storeS {t : TypeId} {x y : Operand} {kk : Nat} {cs cs' : List V} {v : V} {ti : TypeInfo} (n : Nat) (ho : lget ops.toList i = some o) (hg : o.guard = none) (hop : o.op = .store t x y) (hx : opd E x = .ptr (.loc kk) 0) (hy : opd E y = v) (hT : T[kk]? = some (some (.box cs)))
    (ht : tyI c.P t = some ti) (h1 : (Nat.beq (lcount v.cells 0) ti.size && onesB v.cells) = true) (h2 : ∀ K : List V → Prop, K cs' → lover cs 0 v.cells False K)
    (h : putE c.nt o.dst (.tup []) E False fun E' => evp c n (.inRegion ops rest :: k) E' (T.set kk (some (.box cs')))) : Goes c (.inRegion ops (i :: rest) :: k) E T := by
  refine goes_opTo n ho hg hop (opTo_of ?_) (fun cl h => by cases h) h
  simp only [evOp, fv_eq, hx, hy, storeK, ht, lget_eq, hT, h1, cond_true, lset_eq]
  exact h2 _ (by simp)
end

theorem goes_forget {c : Cx} {todo : List Item} {E : Env} {T : Heap} (E' : Env) (hE : envIs T.length E E') (h : Goes c todo E' T) : Goes c todo E T := by
  refine goes_step fun w β H m a b cs hs _ _ _ => ?_
  have h1 := hs.forget (E' := E') (fun k => (envIs_lk hE k).1) (envIs_lk hE 0).2
  exact ⟨w, β, H, m, a, todo, ⟨E', T, c.B, c.D⟩, .refl _ _, h1, Fr.refl _ _ _, h⟩
/-- A loop at whose head there may be more objects, and more marks, from round to round. -/
theorem goes_growB {c : Cx} {body : Code} {k : List Item} {E : Env} {ι : Type} (Inv : ι → Base → List Nat → Prop) (μ : ι → Nat) (Eo : ι → Env) (To : ι → Heap) (i0 : ι) (h0 : Inv i0 c.B c.D ∧ envIs (To i0).length E (Eo i0))
    (step : ∀ i B D, Inv i B D → (∀ j B' D' E, Inv j B' D' ∧ μ j < μ i ∧ envIs (To j).length E (Eo j) → Goes { c with B := B', D := D' } (.inLoop body :: k) E (To j)) → Goes { c with B := B, D := D } (.code body :: .inLoop body :: k) (Eo i) (To i)) : Goes c (.code (.loop body) :: k) E (To i0) := by
  have key : ∀ (m : Nat) (i : ι) (B : Base) (D : List Nat), μ i = m → Inv i B D → Goes { c with B := B, D := D } (.code body :: .inLoop body :: k) (Eo i) (To i) := by
    intro m
    induction m using Nat.strongRecOn with
    | _ m ih =>
      intro i B D hm hinv
      exact step i B D hinv fun j B' D' E ⟨h1, h2, h3⟩ => goes_forget (c := { c with B := B', D := D' }) (Eo j) h3 (goes_still (fun b a cs w => stepR_inLoop) (ih (μ j) (by omega) j B' D' rfl h1))
  exact goes_forget (Eo i0) h0.2 (goes_still (fun b a cs w => stepR_loop) (key _ i0 c.B c.D rfl h0.1))

/-! ### Functions that call yield, and range over functions themselves -/
/-- What a body's end has to be: nothing is handed back. -/
def XBD (m : List Nat) (B : Base) (T' : Heap) (e : Exit) (s : St) : Prop :=
  (match e with | .normal | .ret => True | _ => False) ∧ s.D.Nodup ∧ (∀ q, q ∉ m → s.B q = B q) ∧ Out m T' s.B
theorem funB_of_goesD {P : Program} {g : FuncId} {fn : Func} {body : Code} {m : List Nat} {T T' : Heap} {args : List V} (hf : P.funcs[g]? = some fn) (hn : (fn.name == "runtime.NumGoroutine") = false) (hb : fn.body = some body) (hnt : Nat.ble args.length fn.ntmps = true) (hrs : fn.results = #[])
    (h : ∀ B : Base, Out m T B → Goes { P := P, nt := fn.ntmps, fn := g, ro := none, imps := [], X := XBD m B T', B := B, D := [] } [.code body] (env0 0 args) []) : FunB P g m T args (fun _ T'' => T'' = T') := by
  unfold FunB
  refine ⟨⟨fn, hf, hn, by rw [hb]; rfl⟩, fun w β H B vals cs hs hout hl hr => ?_⟩
  have hnt := Nat.le_of_ble_eq_true hnt
  have gg := h B hout
  unfold Goes at gg
  let b : Frame := { fn := g, tmps := #[], todo := [], defers := [], mode := .run, kind := .normal }
  let a : Act := { tmps := vals ++ Array.replicate (fn.ntmps - vals.size) Go.undef, defers := [] }
  have henter : Frame.enter P g vals .normal = b.atR a [.code body] := by
    simp [Frame.enter, Frame.atR, hf, hb, b, a]
  have hasz : a.tmps.size = fn.ntmps := by simp [a]; omega
  have hrc : ∀ (j : Nat) (x : V) (v : Value), args[j]? = some x → vals[j]? = some v → Rep w β H (x.conv []) v := fun j x v hj hv => by
    rw [conv_of_rep [] x (hr j x v hj hv)]
    exact hr j x v hj hv
  have hget : ∀ k, Rep w β H ((lk (env0 0 args) k).conv []) (a.tmps.getD k Go.undef) := by
    intro k
    rw [lk_env0]
    simp only [Nat.zero_le, if_true, Nat.sub_zero]
    cases hk : args[k]? with
    | none => exact .undef _
    | some x =>
      have hkl := lt_of_get hk
      have hkv : k < vals.size := by omega
      have e : a.tmps.getD k Go.undef = vals[k] := by
        simp only [a, Array.getD_eq_getD_getElem?]
        rw [Array.getElem?_append_left hkv]
        simp [hkv]
      rw [e]
      exact hrc k x vals[k] hk (Array.getElem?_eq_getElem hkv)
  have hs0 : SRel [] fn.ntmps w β H [] ⟨env0 0 args, [], B, []⟩ a := by
    refine ⟨hs.hrel, hasz, hget, hs.mlen, hs.nodup, hs.loc, hs.imp, hs.base, hs.fut, hs.own, fun p hp => ?_, hs.scT, rfl, by simp⟩
    obtain ⟨k, hk, hx⟩ := List.mem_iff_getElem.1 (env0_mem 0 args p hp)
    have hkv : k < vals.size := by omega
    exact sc_of_rep (m := []) p.2 (hrc k p.2 vals[k] (by rw [List.getElem?_eq_getElem hk, hx]) (Array.getElem?_eq_getElem hkv))
  obtain ⟨e, s', w', β', H', m', a', hX, hs', hfr, hend⟩ := gg w β H [] a b cs hs0 rfl rfl rfl
  obtain ⟨E', T1, B', D'⟩ := s'
  obtain ⟨he, hD, hB, hout'⟩ := hX
  simp only at hD hB hout'
  have key : ∀ todo, Steps P (lone (Frame.enter P g vals .normal) cs w) (lone { b.atR a' todo with mode := .returning } cs w') →
      ∃ (x : V) (T'' : Heap) (v : Value) (w' : World) (β' : Nat → Loc) (H' : Heap) (B' : Base) (fr : Frame), T'' = T' ∧ SRel [] 0 w' β' H' [] ⟨[], [], B', []⟩ bare ∧ Out m T'' B' ∧ (∀ q, q ∉ m → B' q = B q) ∧ Fr w β H w' β' H' ∧ Rep w' β' H' x v ∧ x.pureB = true ∧
        Steps P (lone (Frame.enter P g vals .normal) cs w) (lone fr cs w') ∧ fr.fn = g ∧ fr.leaving P w' (.returned v) := fun todo hst => by
    obtain ⟨w2, H2, a2, u1, u2, u3, u4, u5⟩ := unmark (P := P) D' b todo cs hs' hD
    have hres : resK P [] B' fn.results.toList E' (killD D' T1) False fun xs => xs = [] := by rw [hrs]; rfl
    rcases resK_sound (c := { P := P, nt := fn.ntmps, fn := g, ro := none, imps := [], X := fun _ _ => True, B := B', D := [] }) _ _ _ _ hres with h | ⟨xs, hq, hx⟩
    · exact h.elim
    subst hq
    obtain ⟨vs, h1, h2, h3⟩ := hx w2 β' H2 m' a2 u1
    have hrun := run_results h1
    have hv0 : vs = [] := List.length_eq_zero_iff.1 (by simpa using h2.symm)
    subst hv0
    obtain ⟨m2, H3, e1, e2, e3⟩ := SRel.dropTo (T := []) (killD D' T1) (by simpa using u1.bare) (by simp) (by simp) (by simp) (by simp)
    have hm2 : m2 = [] := List.length_eq_zero_iff.1 e1.mlen
    subst hm2
    refine ⟨.tup [], T', _, w2, β', H3, B', { b.atR a2 todo with mode := .returning }, rfl, e1, hout', hB, (hfr.trans u4).trans e2, ?_, rfl, hst.trans u5, rfl, rfl, u3, rfl, fn, hf, hrun⟩
    exact .tup [] #[] rfl fun j c v hj => by simp at hj
  cases e with
  | normal => exact key [] (by rw [henter]; exact Steps.trans hend (.one (stepR_end rfl)))
  | ret =>
    obtain ⟨k, hend⟩ := hend
    exact key _ (by rw [henter]; exact Steps.trans hend (.one (stepR_ret rfl)))
  | exit id => exact he.elim
  | goto l => exact he.elim
  | panic ch => exact he.elim
  | outgrown => exact he.elim
end Bow
/- SP36: a tree's nodes with the identities of their parents; the node of an identity. -/
namespace Bow
open Go

mutual
def Tree.kin (p : Int) : Tree → List (Tree × Int)
  | .mk i l a b c ss => (.mk i l a b c ss, p) :: kins i ss
def kins (p : Int) : List Tree → List (Tree × Int)
  | [] => []
  | s :: ss => s.kin p ++ kins p ss
end
def kinV (x : Tree × Int) : List V := [nodeV x.1, .int .u64 x.2]
theorem kin_eq (p : Int) (t : Tree) : t.kin p = (t, p) :: kins t.id t.subs := by cases t; rw [Tree.kin]; rfl
/-- The first node of an identity, and its parent's. -/
def findK (t : Tree) (id : Int) : Option (Tree × Int) := (t.kin 0).find? fun x => decide (x.1.id = id)

theorem find_eq (t : Tree) (id : Int) : findK t id = if t.id = id then some (t, 0) else (kins t.id t.subs).find? fun x => decide (x.1.id = id) := by
  unfold findK
  rw [kin_eq, List.find?_cons]
  simp only
  by_cases h : t.id = id
  · rw [if_pos h, decide_eq_true h]
  · rw [if_neg h, decide_eq_false h]
/-- Found below a child: its own parent, or the child's. -/
theorem find_kid (s : Tree) (up id : Int) : ((s.kin up).find? fun x => decide (x.1.id = id)) = (findK s id).map fun x => (x.1, if s.id = id then up else x.2) := by
  rw [find_eq, kin_eq, List.find?_cons]
  simp only
  by_cases h : s.id = id
  · rw [if_pos h, decide_eq_true h]
    simp only [Option.map_some, if_pos h]
  · rw [if_neg h, decide_eq_false h]
    simp only [if_neg h]
    cases (kins s.id s.subs).find? fun x => decide (x.1.id = id) <;> rfl
theorem find_kins (up id : Int) : ∀ (ss : List Tree), ((kins up ss).find? fun x => decide (x.1.id = id)) = ss.findSome? fun s => (findK s id).map fun x => (x.1, if s.id = id then up else x.2)
  | [] => by rw [kins]; rfl
  | s :: ss => by
    rw [kins, List.find?_append, find_kid, List.findSome?_cons, find_kins up id ss]
    cases (findK s id).map fun x => (x.1, if s.id = id then up else x.2) <;> rfl
end Bow
/- W92: effects.kin: a range over a function within a function that calls yield. -/
namespace Bow
open Go Go.Proofs

theorem allLive_app : ∀ (A B : Heap), allLive (A ++ B) = (allLive A && allLive B)
  | [], B => by simp [allLive]
  | none :: A, B => by simp [allLive]
  | some o :: A, B => by rw [List.cons_append, allLive, allLive, allLive_app A B]
theorem closedB_app {n : Nat} : ∀ (A B : Heap), closedB n (A ++ B) = (closedB n A && closedB n B)
  | [], B => by simp [closedB]
  | none :: A, B => by simp [closedB]
  | some o :: A, B => by rw [List.cons_append, closedB, closedB, closedB_app A B, Bool.and_assoc]

theorem closedB_rHeap {c : Cx} {E : Env} {ps : Array Tmp} {assign body : Code} {pre : Heap} {st : LoopState} {pe : Option Code} {n : Nat} (h : closedB n pre = true) (hE : Env.scB n E = true) : closedB n (rHeap c E ps assign body pre st pe) = true := by
  unfold rHeap
  rw [closedB_app, closedB_app, h]
  simp [closedB, HObj.scB, hE]
theorem heapIs_pre {n : Nat} : ∀ {T : Heap} (T2 : Heap), closedB n T = true → heapIs n (T ++ T2) T
  | [], T2, _ => by cases T2 <;> trivial
  | none :: _, _, h => by cases h
  | some o :: T, T2, h => by
    simp only [closedB, Bool.and_eq_true] at h
    exact ⟨⟨rfl, h.1⟩, heapIs_pre T2 h.2⟩

theorem w_kin (t : Tree) (p : Int) : Pure Tryz.prog 100 [nodeV t, .int .u64 p] (fun x => x = .fn (.func 144) [] [.iptr (nodeV t).cells 0, .iptr [.int .u64 p] 0]) := by
  refine pure_fn_frz [0, 1] 100 Tryz.func100 rfl rfl rfl fun B => ?_
  exact ⟨trivial, rfl, rfl, rfl, rfl, rfl, rfl⟩

structure KinI (P : Program) (m : List Nat) (kl r : Nat) (t : Tree) (T' : Heap) (b : Bool) (B0 : Base) (i : Nat) (Ti G : Heap) (B : Base) (D : List Nat) : Prop where
  le : i ≤ t.subs.length
  rounds : RoundsM P m kl r ((kins t.id (t.subs.drop i)).map kinV) Ti T' b
  out : Out m Ti B
  base : ∀ q, q ∉ m → B q = B0 q
  live : allLive G = true
  closed : ∀ n, G.length + 1 ≤ n → closedB n G = true
  nodup : D.Nodup
  marks : ∀ k ∈ D, (some (HObj.box [.yld (.abs r)]) :: G)[k]? = some (some .dfr)

theorem kin_nodup {P : Program} {m : List Nat} {kl r : Nat} {t : Tree} {T' : Heap} {b : Bool} {B0 : Base} {i : Nat} {Ti G : Heap} {B : Base} {D : List Nat} (inv : KinI P m kl r t T' b B0 i Ti G B D) : ((G.length + 2) :: D).Nodup := by
  refine List.nodup_cons.2 ⟨fun hm => ?_, inv.nodup⟩
  have := lt_of_get (inv.marks _ hm)
  simp at this
theorem kin_step {P : Program} {m : List Nat} {kl r : Nat} {t : Tree} {T' : Heap} {b : Bool} {B0 : Base} {i : Nat} {Ti G : Heap} {B : Base} {D : List Nat} (inv : KinI P m kl r t T' b B0 i Ti G B D) {c : Cx} {E : Env} {ps : Array Tmp} {assign body : Code} {st : LoopState} {pe : Option Code} {cs : List V} {T2 : Heap} {B' : Base}
    (hcs : ∀ n, V.scBL n cs = true) (hE : ∀ n, 1 ≤ n → Env.scB n E = true) (hi : i + 1 ≤ t.subs.length) (hR : RoundsM P m kl r ((kins t.id (t.subs.drop (i + 1))).map kinV) T2 T' b) (hout : Out m T2 B') (hB : ∀ q, q ∉ m → B' q = B q) :
    KinI P m kl r t T' b B0 (i + 1) T2 (rHeap c E ps assign body (some (HObj.box [.yld (.abs r)]) :: (G ++ [some (HObj.box cs)])) st pe).tail B' ((G.length + 2) :: D) := by
  have hlen : (some (HObj.box [.yld (.abs r)]) :: (G ++ [some (HObj.box cs)])).length = G.length + 2 := by simp
  have hrl : (rHeap c E ps assign body (some (HObj.box [.yld (.abs r)]) :: (G ++ [some (HObj.box cs)])) st pe).tail.length = G.length + 3 := by
    rw [List.length_tail, rHeap_len, hlen]
    omega
  refine ⟨hi, hR, hout, fun q hq => (hB q hq).trans (inv.base q hq), ?_, fun n hn => ?_, kin_nodup inv, fun k hk => ?_⟩
  · have : allLive (rHeap c E ps assign body (some (HObj.box [.yld (.abs r)]) :: (G ++ [some (HObj.box cs)])) st pe) = true := rHeap_live (by
      rw [allLive, allLive_app, inv.live]
      rfl)
    exact this
  · have h1 : closedB n (some (HObj.box [.yld (.abs r)]) :: (G ++ [some (HObj.box cs)])) = true := by
      rw [closedB, closedB_app, inv.closed n (by omega)]
      simp [closedB, HObj.scB, hcs n]
      rfl
    have h2 : closedB n (rHeap c E ps assign body (some (HObj.box [.yld (.abs r)]) :: (G ++ [some (HObj.box cs)])) st pe) = true := closedB_rHeap h1 (hE n (by omega))
    have h3 : closedB n (rHeap c E ps assign body (some (HObj.box [.yld (.abs r)]) :: (G ++ [some (HObj.box cs)])) st pe) = ((HObj.box [.yld (.abs r)]).scB n && closedB n (rHeap c E ps assign body (some (HObj.box [.yld (.abs r)]) :: (G ++ [some (HObj.box cs)])) st pe).tail) := rfl
    rw [h3, Bool.and_eq_true] at h2
    exact h2.2
  · have e : (some (HObj.box [.yld (.abs r)]) :: (rHeap c E ps assign body (some (HObj.box [.yld (.abs r)]) :: (G ++ [some (HObj.box cs)])) st pe).tail) = rHeap c E ps assign body (some (HObj.box [.yld (.abs r)]) :: (G ++ [some (HObj.box cs)])) st pe := rfl
    rw [e]
    rcases List.mem_cons.1 hk with rfl | hk
    · exact rHeap_dfr hlen
    · have h0 := inv.marks k hk
      have h1 := lt_of_get h0
      rw [rHeap_pre (by rw [hlen]; simp at h1; omega), ← List.cons_append, List.getElem?_append_left h1]
      exact h0

set_option maxRecDepth 100000 in
theorem w_kin1 (t : Tree) : ∀ p : Int, t.size ≤ 1000000000 → IterM Tryz.prog 144 [] [.iptr (nodeV t).cells 0, .iptr [.int .u64 p] 0] ((t.kin p).map kinV) := by
  induction t using Tree.ind with
  | _ t ih =>
  intro p hsz m r kl T T' b hR hr
  have hst := size_eq t
  have hsl := length_sizes t.subs
  rw [kin_eq, List.map_cons] at hR
  refine funB_of_goesD Tryz.func144 rfl rfl rfl rfl fun B hout => ?_
  have hlp : ∃ ob, T[kl]? = some (some ob) ∧ isLoop ob := by cases hR <;> assumption
  obtain ⟨T1, b1, hy, hk⟩ : ∃ T1 b1, YieldM Tryz.prog m T r (kinV (t, p)) b1 T1 ∧ ((b1 = true ∧ RoundsM Tryz.prog m kl r ((kins t.id t.subs).map kinV) T1 T' b) ∨ (b1 = false ∧ T' = T1 ∧ b = false)) := by
    cases hR with
    | go hl hc h k => exact ⟨_, _, h, .inl ⟨rfl, k⟩⟩
    | stop hl hc hc1 h => exact ⟨_, _, h, .inr ⟨rfl, rfl, rfl⟩⟩
  refine go 60 ?_
  show Goes _ _ _ _
  refine goes_yieldM 60 rfl rfl rfl rfl (fun q _ h => by cases h) hout hr hlp rfl hy ?_
  intro B1 hout1 hB1
  rcases hk with ⟨rfl, hk⟩ | ⟨rfl, rfl, rfl⟩
  · show Goes _ _ _ _
    refine goes_growB (ι := Nat × Heap × Heap) (fun i B' D => KinI Tryz.prog m kl r t T' b B i.1 i.2.1 i.2.2 B' D) (fun i => t.subs.length - i.1)
      (fun i => [(16, .int .i64 i.1), (15, .int .i64 t.subV.length), (14, .sl 6 t.subV), (3, .ptr (.loc 0) 0), (2, .iptr [.int .u64 p] 0), (1, .iptr (nodeV t).cells 0)]) (fun i => some (.box [.yld (.abs r)]) :: i.2.2) (0, T1, [])
      ⟨⟨Nat.zero_le _, hk, hout1, hB1, rfl, fun _ _ => rfl, List.nodup_nil, fun k h => by cases h⟩, ⟨⟨rfl, rfl⟩, ⟨rfl, rfl⟩, ⟨rfl, rfl⟩, ⟨rfl, rfl⟩, ⟨rfl, rfl⟩, ⟨rfl, rfl⟩, trivial⟩⟩ ?_
    rintro ⟨i, Ti, G⟩ Bi D inv next
    refine go 60 ?_
    refine ⟨fun hlt => go 7 ?_, fun hge => go 60 ?_⟩
    · have hi : i < t.subs.length := by simpa [subV_eq] using hlt
      have hx : t.subV[((i : Nat) : Int).toNat]? = some (nodeV t.subs[i]) := by simp [subV_eq, hi]
      refine ⟨Int.natCast_nonneg i, _, hx, ?_⟩
      have hmem := List.getElem_mem hi
      have hss := Tree.size_sub hmem
      have hnext := inv.rounds
      simp only at hnext
      rw [drop_cons hi, kins, List.map_append] at hnext
      have ihs := ih _ hmem t.id (by omega)
      generalize t.subs[i] = s at hx hnext ihs hss
      show Goes _ (.inRegion _ [2, 3] :: _) _ _
      refine goes_allocS 0 rfl rfl rfl rfl rfl ?_
      show Goes _ (.inRegion _ [3] :: _) _ _
      refine goes_storeS 0 rfl rfl rfl rfl rfl List.getElem?_concat_length rfl rfl (fun K h => h) ?_
      have e1 : ∀ (A : Heap) (x y : Option HObj), (A ++ [x]).set A.length y = A ++ [y] := fun A x y => by simp
      rw [e1]
      show Goes _ (.inRegion _ [] :: _) _ (some (.box [.yld (.abs r)]) :: (G ++ [some (.box (nodeV s).cells)]))
      refine go 3 ?_
      show Goes _ (.inRegion _ [0, 1, 2, 3] :: _) _ _
      refine goes_loadS 60 rfl rfl rfl rfl (List.getElem?_concat_length (l := some (HObj.box [.yld (.abs r)]) :: G) (a := some (HObj.box (nodeV s).cells))) (fun K h => h) ?_
      show CallThen _ _ _ _ _ _
      refine call_pure (w_kin s t.id) rfl ?_
      rintro z rfl
      show Goes _ (.code (.rangeFunc _ _ _ _) :: _) _ _
      refine goes_forget [(23, .fn (.func 144) [] [.iptr (nodeV s).cells 0, .iptr [.int .u64 t.id] 0]), (16, .int .i64 i), (15, .int .i64 t.subV.length), (14, .sl 6 t.subV), (3, .ptr (.loc 0) 0), (2, .iptr [.int .u64 p] 0), (1, .iptr (nodeV t).cells 0)] ⟨⟨rfl, rfl⟩, ⟨rfl, rfl⟩, ⟨rfl, rfl⟩, ⟨rfl, rfl⟩, ⟨rfl, rfl⟩, ⟨rfl, rfl⟩, ⟨rfl, rfl⟩, trivial⟩ ?_
      obtain ⟨T2, b2, hR2, hk2⟩ := hnext.cut
      have hlen : (some (HObj.box [.yld (.abs r)]) :: (G ++ [some (HObj.box (nodeV s).cells)])).length = G.length + 2 := by simp
      have hlive : allLive (some (HObj.box [.yld (.abs r)]) :: (G ++ [some (HObj.box (nodeV s).cells)])) = true := by
        rw [allLive, allLive_app, show allLive G = true from inv.live]
        rfl
      have hcl : closedB (G.length + 2 + 2) (some (HObj.box [.yld (.abs r)]) :: (G ++ [some (HObj.box (nodeV s).cells)])) = true := by
        rw [closedB, closedB_app, show closedB (G.length + 2 + 2) G = true from inv.closed _ (by simp only; omega)]
        rfl
      have hmk : ∀ k ∈ D, (some (HObj.box [.yld (.abs r)]) :: (G ++ [some (HObj.box (nodeV s).cells)]))[k]? = some (some .dfr) := fun k hk => by
        have h0 := inv.marks k hk
        have h1 := lt_of_get h0
        rw [← List.cons_append, List.getElem?_append_left h1]
        exact h0
      refine goes_rangeNest (α := Tree × Int) (ev := kinV) (asg := s.kin t.id) (T := Ti) (T' := T2) (b := b2) (kl := kl) (r := r) (m := m) 0 (G.length + 2) ⟨_, Tryz.func144, rfl, rfl⟩ rfl rfl rfl hlen hlive rfl (fun _ => rfl) rfl (fun _ => rfl) hmk hcl rfl inv.out ihs hR2 ?_ ?_
      · intro mw rw1 l Bn a Tn T1n bn hrw hdis hon hln hyn
        show Goes _ _ _ _
        refine go 2 ?_
        show Goes _ (.inRegion _ [0, 1] :: _) _ _
        refine goes_allocS 0 rfl rfl rfl rfl rfl ?_
        show Goes _ (.inRegion _ [1] :: _) _ _
        refine goes_storeS 0 rfl rfl rfl rfl rfl List.getElem?_concat_length rfl rfl (fun K h => h) ?_
        rw [e1]
        show Goes _ (.inRegion _ [] :: _) _ _
        refine go 8 ?_
        show Goes _ (.beginRound :: _) _ _
        refine goes_beginRound (kl := G.length + 2 + 1) 0 rfl hrw (by rw [lget_eq, List.getElem?_append_left (by rw [rHeap_len, hlen]; omega)]; exact rHeap_loop hlen) ?_
        rw [lset_eq, List.set_append_left _ _ (by rw [rHeap_len, hlen]; omega), rHeap_set hlen]
        refine go 4 ?_
        show Goes _ (.inRegion _ [1, 2, 3, 4] :: _) _ _
        refine goes_loadS (cs := (nodeV a.1).cells) 8 rfl rfl rfl rfl (by rw [rHeap_len, hlen, List.getElem?_append_right (by rw [rHeap_len, hlen]; exact Nat.le_refl _), rHeap_len, hlen, Nat.sub_self]; rfl) (fun K h => h) ?_
        show Goes _ (.inRegion _ [3, 4] :: _) _ _
        refine goes_yieldM 60 rfl rfl rfl rfl hdis hon hr hln rfl hyn ?_
        intro B' hon' hB'
        cases bn
        · exact ⟨rfl, hon', hB', rfl, heapIs_pre _ (closedB_rHeap hcl rfl)⟩
        · exact ⟨rfl, hon', hB', rfl, heapIs_pre _ (closedB_rHeap hcl rfl)⟩
      · intro B' hout' hB'
        rcases hk2 with ⟨rfl, hk2⟩ | ⟨rfl, rfl, rfl⟩
        · show Goes _ _ _ _
          refine go 60 ?_
          refine ⟨by constructor <;> omega, ?_⟩
          show Goes _ _ _ _
          refine next (i + 1, T2, _) B' ((G.length + 2) :: D) _ ⟨kin_step inv (cs := (nodeV s).cells) (fun _ => rfl) (fun n hn => ?_) hi hk2 hout' hB', by simp only; omega, ⟨⟨rfl, rfl⟩, ⟨rfl, rfl⟩, ⟨rfl, rfl⟩, ⟨rfl, rfl⟩, ⟨rfl, rfl⟩, ⟨rfl, rfl⟩, trivial⟩⟩
          obtain ⟨n, rfl⟩ : ∃ k, n = k + 1 := ⟨n - 1, by omega⟩
          rfl
        · show Goes _ _ _ _
          refine go 60 ?_
          exact ⟨trivial, kin_nodup inv, fun q hq => (hB' q hq).trans (inv.base q hq), hout'⟩
    · have hi : t.subs.length ≤ i := by simpa [subV_eq] using hge
      have hr := inv.rounds
      rw [List.drop_eq_nil_of_le hi] at hr
      cases hr
      exact ⟨trivial, inv.nodup, inv.base, inv.out⟩
  · exact ⟨trivial, List.nodup_nil, hB1, hout1⟩
end Bow
/- SP1: trees, in plain Lean: weight, depth, the most text of a node. -/
namespace Bow
open Go

def attrLen (asg : List (List UInt8 × List UInt8)) : Nat := asg.foldr (fun a n => a.1.length + a.2.length + n) 0
mutual
def Tree.weight : Tree → Nat
  | .mk _ _ l asg t ss => 1 + l.length + t.length + (asg.length + attrLen asg) + weights ss
def weights : List Tree → Nat
  | [] => 0
  | s :: ss => s.weight + weights ss
end
theorem weight_eq (t : Tree) : t.weight = 1 + t.label.length + t.text.length + (t.attrs.length + attrLen t.attrs) + weights t.subs := by cases t; rw [Tree.weight]; rfl
theorem weights_cons (s : Tree) (ss : List Tree) : weights (s :: ss) = s.weight + weights ss := by rw [weights]
theorem weight_mem : ∀ {ss : List Tree} {s : Tree}, s ∈ ss → s.weight ≤ weights ss
  | x :: ss, s, h => by
    rw [weights]
    rcases List.mem_cons.1 h with rfl | h
    · omega
    · have := weight_mem h; omega
theorem weight_sub {t s : Tree} (h : s ∈ t.subs) : s.weight < t.weight := by
  have := weight_mem h
  have := weight_eq t
  omega
mutual
theorem size_le_weight : ∀ t : Tree, t.size ≤ t.weight
  | .mk i l a b c ss => by
    have := sizes_le_weights ss
    rw [Tree.size, Tree.weight]
    omega
theorem sizes_le_weights : ∀ ss : List Tree, sizes ss ≤ weights ss
  | [] => by rw [sizes]; omega
  | s :: ss => by
    have := size_le_weight s
    have := sizes_le_weights ss
    rw [sizes, weights]
    omega
end
theorem attrLen_cons (a : List UInt8 × List UInt8) (asg : List (List UInt8 × List UInt8)) : attrLen (a :: asg) = a.1.length + a.2.length + attrLen asg := rfl

/-! ### The same by the nodes in a row -/
/-- Of a tree's nodes. -/
theorem pre_mem_weight : ∀ (t : Tree) (d : Int) (p : Int × Tree), p ∈ t.pre d → p.2.weight ≤ t.weight ∧ d ≤ p.1 ∧ p.1 + 1 ≤ d + t.weight := by
  intro t
  induction t using Tree.ind with
  | _ t ih =>
    intro d p hp
    rw [pre_eq] at hp
    have hw := weight_eq t
    rcases List.mem_cons.1 hp with rfl | hp
    · exact ⟨Nat.le_refl _, Int.le_refl _, by simp only; omega⟩
    · have key : ∀ ss : List Tree, (∀ s ∈ ss, s ∈ t.subs) → p ∈ pres (d + 1) ss → ∃ s ∈ t.subs, p ∈ s.pre (d + 1) := by
        intro ss
        induction ss with
        | nil => intro _ h; rw [pres] at h; cases h
        | cons s ss ih2 =>
          intro hs h
          rw [pres] at h
          rcases List.mem_append.1 h with h | h
          · exact ⟨s, hs s List.mem_cons_self, h⟩
          · exact ih2 (fun s h => hs s (List.mem_cons_of_mem _ h)) h
      obtain ⟨s, hs, h⟩ := key t.subs (fun _ h => h) hp
      obtain ⟨h1, h2, h3⟩ := ih s hs (d + 1) p h
      have := weight_sub hs
      omega
end Bow
/- AE35: an own object is frozen, within rows of cells, too. -/
namespace Bow
open Go

section
variable {w : World} {β : Nat → Loc} {H : Heap}
theorem Fr.swap {r : Nat} {o o' : HObj} (ho : H[r]? = some (some o)) (he : Evo o o') (hns : ¬ isSeal o := by exact fun h => h) : Fr w β H w β (H.set r (some o')) := by
  refine ⟨⟨rfl, rfl, rfl, Nat.le_refl _, by simp, ?_, fun _ _ _ => rfl, ?_, fun _ _ => rfl, fun q s hs => ⟨?_, rfl⟩⟩, fun _ _ h => h⟩
  · intro q p _ hp
    rcases get_set_some hp with ⟨h1, h2, _⟩ | ⟨_, h2⟩
    · injection h2 with h2
      subst h1 h2
      exact ⟨o, ho, he, fun _ _ => rfl⟩
    · exact ⟨p, h2, Evo.refl _, fun _ _ => rfl⟩
  · rintro k ⟨q, M, ⟨p, hl, hpn⟩, hb⟩
    rcases get_set_some hl with ⟨h1, _, _⟩ | ⟨_, h2⟩
    · subst h1
      exact .inr ⟨q, M, ⟨o, ho, hns⟩, hb⟩
    · exact .inr ⟨q, M, ⟨p, h2, hpn⟩, hb⟩
  · rcases get_set_some hs with ⟨_, h2, _⟩ | ⟨_, h2⟩
    · injection h2 with h2
      subst h2
      exact (hns (by cases o <;> first | exact he.elim | trivial)).elim
    · exact h2
theorem HRel.swap (h : HRel w β H) {r : Nat} {o o' : HObj} (ho : H[r]? = some (some o)) (he : Evo o o') (hn : ORel w β (H.set r (some o')) (β r) o') (hns : ¬ isSeal o := by exact fun h => h) : HRel w β (H.set r (some o')) := by
  have go : ∀ {q : Nat}, live (H.set r (some o')) q → live H q := fun {q} hq => by
    obtain ⟨p, hp⟩ := hq
    rcases get_set_some hp with ⟨h1, _, _⟩ | ⟨_, h2⟩
    · subst h1; exact ⟨o, ho⟩
    · exact ⟨p, h2⟩
  refine h.step (Fr.swap ho he hns) ?_ (fun q q' b M M' hl hl' hb hb' => h.inj q q' b M M' (go hl) (go hl') hb hb')
  intro q p hp
  rcases get_set_some hp with ⟨h1, h2, _⟩ | ⟨_, h2⟩
  · injection h2 with h2
    subst h1 h2
    exact .inr hn
  · exact .inl ⟨h2, rfl, fun _ _ _ => rfl⟩
end

def fzAt (k : Nat) (o : HObj) : List Nat → Heap → (Heap → Prop) → Prop
  | [], T, K => K T
  | j :: js, T, K => match lget T j with
    | some (some (.box cs)) => lset T j (some (.box (V.fzL k o cs))) fun T' => fzAt k o js T' K
    | _ => False

theorem fzAt_sound {imps : List Nat} {nt : Nat} {w : World} {β : Nat → Loc} {H : Heap} {m : List Nat} {E0 E : Env} {T : Heap} {B : Base} {D : List Nat} {a : Act} {k : Nat} {o : HObj} (h0 : SRel imps nt w β H m ⟨E0, T, B, D⟩ a) :
    ∀ (js : List Nat) (T1 : Heap) (K : Heap → Prop) {H1 : Heap}, SRel imps nt w β H1 m ⟨E, T1, B, D⟩ a → js.Nodup → (∀ j ∈ js, T1[j]? = T[j]?) → (∀ (v : V) (u : Value), Rep w β H (v.conv m) u → Rep w β H1 ((v.fz k o).conv m) u) → fzAt k o js T1 K →
      ∃ T2 H2, K T2 ∧ SRel imps nt w β H2 m ⟨E, T2, B, D⟩ a ∧ Fr w β H1 w β H2
  | [], T1, K, H1, h1, _, _, _, h => ⟨T1, H1, h, h1, Fr.refl _ _ _⟩
  | j :: js, T1, K, H1, h1, hnd, hT, hrep, h => by
    rw [fzAt, lget_eq] at h
    split at h
    case h_2 => exact h.elim
    rename_i cs hcs
    rw [lset_eq] at h
    obtain ⟨hn1, hn2⟩ := List.nodup_cons.1 hnd
    have hTj : T[j]? = some (some (.box cs)) := by rw [← hT j List.mem_cons_self]; exact hcs
    obtain ⟨r, hr, hH⟩ := h0.at hTj
    obtain ⟨r', hr', hH1⟩ := h1.at hcs
    have : r' = r := Option.some.inj (hr'.symm.trans hr)
    subst this
    simp only [HObj.conv] at hH hH1
    have hob := h0.hrel.obj r' _ hH
    have hob1 := h1.hrel.obj r' _ hH1
    have hscf : V.scL m.length (V.fzL k o cs) := by
      have := h1.scT j _ hcs
      rw [← h1.mlen] at this
      exact V.fzL_sc cs this
    have hfr : Fr w β H1 w β (H1.set r' (some ((HObj.box (V.fzL k o cs)).conv m))) := Fr.swap hH1 trivial
    have hrel : HRel w β (H1.set r' (some ((HObj.box (V.fzL k o cs)).conv m))) := by
      refine h1.hrel.swap hH1 trivial ?_
      simp only [HObj.conv]
      cases hβ : β r' with
      | none => trivial
      | nil => rw [hβ] at hob1; exact hob1
      | blk b N =>
        rw [hβ] at hob hob1
        obtain ⟨vs, e, q1, q2, q3, q4⟩ := hob
        refine ⟨vs, e, q1, q2, by rw [V.convL_eq, V.fzL_eq]; rw [V.convL_eq] at q3; simpa using q3, fun i c v hi hv => ?_⟩
        rw [V.convL_eq, V.fzL_eq, List.map_map, List.getElem?_map, Option.map_eq_some_iff] at hi
        obtain ⟨c0, hi, rfl⟩ := hi
        refine Rep.mono ?_ hfr
        exact hrep c0 v (q4 i _ v (by rw [V.convL_eq, List.getElem?_map, hi]; rfl) hv)
    have hset := h1.setAt (o' := some (.box (V.fzL k o cs))) (w' := w) hr (fun o1 e1 => by injection e1 with e1; subst e1; exact hscf)
      (fun hm => absurd hm (h1.notD hcs (by simp))) hfr hrel
    obtain ⟨T2, H2, g1, g2, g3⟩ := fzAt_sound h0 js _ K hset hn2 (fun j' hj' => by
      have hne : j' ≠ j := fun e => hn1 (e ▸ hj')
      rw [List.getElem?_set_ne (fun e => hne e.symm)]
      exact hT j' (List.mem_cons_of_mem _ hj')) (fun v u hv => (hrep v u hv).mono hfr) h
    exact ⟨T2, H2, g1, g2, hfr.trans g3⟩

/-- Freezes the object k; what the rows of cells js say of it, too. -/
theorem goes_freezeIn {c : Cx} {todo : List Item} {E : Env} {T : Heap} (k : Nat) (js : List Nat) {o : HObj} (hk : lget T k = some (some o)) (ho : frzOk o = true) (hjs : nodupB (k :: js) = true)
    (h : lset T k none fun T' => fzAt k o js T' fun T'' => Goes c todo (Env.fz k o E) T'') : Goes c todo E T := by
  rw [lset_eq] at h
  rw [lget_eq] at hk
  have hnd := nodupB_iff _ hjs
  obtain ⟨hn1, hn2⟩ := List.nodup_cons.1 hnd
  refine goes_step fun w β H m a b cs hs _ _ _ => ?_
  obtain ⟨H', h1, h2, h3⟩ := hs.freeze hk ho
  obtain ⟨T2, H2, g1, g2, g3⟩ := fzAt_sound (k := k) (o := o) hs js _ _ h1 hn2 (fun j hj => by
    have hne : k ≠ j := fun e => by subst e; exact hn1 hj
    rw [List.getElem?_set_ne hne]) h3 h
  exact ⟨w, β, H2, m, a, todo, ⟨_, _, c.B, c.D⟩, .refl _ _, g2, h2.trans g3, g1⟩
end Bow
/- SP2: operations, as values; which are formed. -/
namespace Bow
open Go

structure PieceT where
  keep : Int
  drop : Int
  put : List UInt8
structure OpT where
  kind : Int
  path : List Int
  at_ : Int
  to : List Int
  id : Int
  leaf : Bool
  label : List UInt8
  key : List UInt8
  value : List UInt8
  gone : Bool
  pieces : List PieceT

def intV (n : Int) : V := .int .i64 n
def pieceV (p : PieceT) : V := .agg [.int .i64 p.keep, .int .i64 p.drop, .str p.put]
def pathV (p : List Int) : V := .sl 1 (p.map intV)
def piecesV (l : List PieceT) : V := .sl 3 (l.map pieceV)
def opV (o : OpT) : V := .agg [.int .u8 o.kind, pathV o.path, .int .i64 o.at_, pathV o.to, .int .u64 o.id, .bool o.leaf, .str o.label, .str o.key, .str o.value, .bool o.gone, piecesV o.pieces]

/-! ### Leaves of walks that end in a truth value -/
theorem leaf_tt {b : Bool} (h : b = true) : ∃ y, Wk .tt y ∧ y.pureB = true ∧ y = .bool b := ⟨_, Wk.tt, rfl, by rw [h]⟩
theorem leaf_ff {b : Bool} (h : b = false) : ∃ y, Wk .ff y ∧ y.pureB = true ∧ y = .bool b := ⟨_, Wk.ff, rfl, by rw [h]⟩
theorem leaf_b {b b' : Bool} (h : b' = b) : ∃ y, Wk (.bool b') y ∧ y.pureB = true ∧ y = .bool b := ⟨_, Wk.refl _, rfl, by rw [h]⟩
/-! ### Formed -/
def stepOk (n : Int) : Bool := decide (0 ≤ n) && decide (n < 1048576)
def mayP (p : List Int) : Bool := decide (p.length ≤ 64) && p.all stepOk
def keyOk (s : List UInt8) : Bool := decide (1 ≤ s.length) && decide (s.length ≤ 64)
/-- Pieces that are right, when so many bytes have been put ahead. -/
def rightGo : Nat → List PieceT → Bool
  | _, [] => true
  | n, p :: l => (decide (0 ≤ p.keep) && decide (p.keep ≤ 1048576) && decide (0 ≤ p.drop) && decide (p.drop ≤ 1048576) && decide (n + p.put.length ≤ 1048576)) && rightGo (n + p.put.length) l
def rightP (l : List PieceT) : Bool := decide (l.length ≤ 4096) && rightGo 0 l
def gapOk (n : Int) : Bool := decide (0 ≤ n) && decide (n ≤ 1048576)
def formedB (o : OpT) : Bool :=
  mayP o.path && (bif o.kind == 1 then gapOk o.at_ && decide ((o.label.length : Int) ≤ 64) else bif o.kind == 2 then true else bif o.kind == 3 then gapOk o.at_ && mayP o.to
    else bif o.kind == 4 then keyOk o.key && (o.gone || decide ((o.value.length : Int) ≤ 256)) else bif o.kind == 5 then decide ((o.label.length : Int) ≤ 64) else bif o.kind == 6 then rightP o.pieces else false)

/-! ### Bare -/
def noOp (k : Int) : OpT := ⟨k, [], 0, [], 0, false, [], [], [], false, []⟩
def bareO (o : OpT) : OpT :=
  bif o.kind == 1 then { noOp 1 with path := o.path, at_ := o.at_, id := o.id, leaf := o.leaf, label := o.label }
  else bif o.kind == 2 then { noOp 2 with path := o.path }
  else bif o.kind == 3 then { noOp 3 with path := o.path, at_ := o.at_, to := o.to }
  else bif o.kind == 4 then { noOp 4 with path := o.path, key := o.key, gone := o.gone, value := bif o.gone then [] else o.value }
  else bif o.kind == 5 then { noOp 5 with path := o.path, label := o.label }
  else bif o.kind == 6 then { noOp 6 with path := o.path, pieces := o.pieces }
  else noOp o.kind
/-- So much, at most. -/
structure OpT.Lt (o : OpT) (n : Nat) : Prop where
  path : o.path.length ≤ n
  to : o.to.length ≤ n
  label : o.label.length ≤ n
  key : o.key.length ≤ n
  value : o.value.length ≤ n
  pieces : o.pieces.length ≤ n
def putsLen (l : List PieceT) : Nat := l.foldr (fun p n => p.put.length + n) 0
end Bow
/- SP3: paths, in plain Lean. -/
namespace Bow
open Go

def common : List Int → List Int → Nat
  | p :: ps, q :: qs => bif decide (p = q) then common ps qs + 1 else 0
  | _, _ => 0
/-- Is a path another one, or does it lead to above it? -/
def within (p q : List Int) : Bool := decide (p = q.take p.length)
theorem common_within : ∀ p q : List Int, decide (common p q = p.length) = within p q
  | [], q => by simp [common, within]
  | p :: ps, [] => by simp [common, within]
  | p :: ps, q :: qs => by
    have ih := common_within ps qs
    unfold within at ih ⊢
    rw [common]
    by_cases h : p = q
    · subst h
      simp only [decide_true, cond_true, List.length_cons, Nat.add_right_cancel_iff, List.take_succ_cons, List.cons.injEq, true_and]
      exact ih
    · rw [decide_eq_false h]
      simp [h]
theorem common_same (p q : List Int) (h : p.length = q.length) : decide (common p q = p.length) = decide (p = q) := by
  rw [common_within, within, h, List.take_length]
theorem within_len {p q : List Int} (h : within p q = true) : p.length ≤ q.length := by
  unfold within at h
  have h := of_decide_eq_true h
  have := congrArg List.length h
  simp at this
  omega
end Bow
/- SP4: nodes by their paths, in plain Lean. -/
namespace Bow
open Go

def subT (t : Tree) (i : Int) : Option Tree := bif decide (i < 0) then none else t.subs[i.toNat]?
def atT : Tree → List Int → Option Tree
  | t, [] => some t
  | t, i :: p => match subT t i with
    | none => none
    | some s => atT s p
theorem subT_some {t s : Tree} {i : Int} (h : subT t i = some s) : 0 ≤ i ∧ t.subs[i.toNat]? = some s ∧ s ∈ t.subs := by
  unfold subT at h
  by_cases hi : i < 0
  · rw [decide_eq_true hi] at h; cases h
  · rw [decide_eq_false hi] at h
    exact ⟨by omega, h, List.mem_of_getElem? h⟩
theorem subT_neg {t : Tree} {i : Int} (h : i < 0) : subT t i = none := by unfold subT; rw [decide_eq_true h]; rfl
theorem subT_big {t : Tree} {i : Int} (h : (t.subs.length : Int) ≤ i) : subT t i = none := by
  unfold subT
  rw [decide_eq_false (by omega)]
  simp
  omega
theorem subT_at {t : Tree} {i : Int} (h0 : 0 ≤ i) (h1 : i < t.subs.length) : ∃ s, subT t i = some s ∧ t.subs[i.toNat]? = some s := by
  have hlt : i.toNat < t.subs.length := by omega
  refine ⟨t.subs[i.toNat], ?_, List.getElem?_eq_getElem hlt⟩
  unfold subT
  rw [decide_eq_false (by omega)]
  exact List.getElem?_eq_getElem hlt
theorem atT_size {s : Tree} : ∀ {p : List Int} {t : Tree}, atT t p = some s → s.size ≤ t.size
  | [], t, h => by rw [atT] at h; injection h with h; subst h; exact Nat.le_refl _
  | i :: p, t, h => by
    rw [atT] at h
    cases hs : subT t i with
    | none => rw [hs] at h; cases h
    | some u =>
      rw [hs] at h
      have := atT_size (p := p) h
      have := Tree.size_sub (subT_some hs).2.2
      omega
theorem atT_weight {s : Tree} : ∀ {p : List Int} {t : Tree}, atT t p = some s → s.weight ≤ t.weight
  | [], t, h => by rw [atT] at h; injection h with h; subst h; exact Nat.le_refl _
  | i :: p, t, h => by
    rw [atT] at h
    cases hs : subT t i with
    | none => rw [hs] at h; cases h
    | some u =>
      rw [hs] at h
      have := atT_weight (p := p) h
      have := weight_sub (subT_some hs).2.2
      omega
/-- What At answers. -/
def atV (t0 : Tree) : Option Tree → V
  | some s => .tup [nodeV s, .tt]
  | none => .tup [nodeV t0, .ff]
def intoE (t : Tree) (at_ : Int) : Int := bif t.leaf then 83 else bif decide ((t.subs.length : Int) < at_) then 81 else 0
/-! ### Changes -/
def Tree.withSubs : Tree → List Tree → Tree
  | .mk i l a b c _, ss => .mk i l a b c ss
def changeT (F : Tree → Tree) : Tree → List Int → Tree
  | t, [] => F t
  | t, i :: p => match subT t i with
    | none => t
    | some s => t.withSubs (t.subs.set i.toNat (changeT F s p))
theorem withSubs_V (t : Tree) (ss : List Tree) : nodeV (t.withSubs ss) = .agg [.int .u64 t.id, .bool t.leaf, .str t.label, .sl 2 (t.attrs.map attrV), .str t.text, .sl 6 (ss.map nodeV)] := by
  cases t
  unfold nodeV
  rw [subV_eq]
  rfl
theorem withSubs_subs (t : Tree) (ss : List Tree) : (t.withSubs ss).subs = ss := by cases t; rfl
/-- A node at a gap. -/
def insT (at_ : Int) (x : Tree) (y : Tree) : Tree := y.withSubs (y.subs.take at_.toNat ++ x :: y.subs.drop at_.toNat)
/-- A node less. -/
def delT (at_ : Int) (y : Tree) : Tree := y.withSubs (y.subs.take at_.toNat ++ y.subs.drop (at_.toNat + 1))
/-- Where a moved node's target and gap are, when it has been taken out of place i of the node at q. -/
def landT (q : List Int) (i : Int) (to : List Int) (at_ : Int) : List Int × Int :=
  bif decide (q = to) && decide (i < at_) then (to, at_ - 1)
  else bif within q to && (decide (q.length < to.length) && decide (i < to.getD q.length 0)) then (to.set q.length (to.getD q.length 0 - 1), at_)
  else (to, at_)
end Bow
/- SP5: right trees, in plain Lean. -/
namespace Bow
open Go

def leS (a b : List UInt8) : Bool := Op.bytesLess a b || decide (a = b)
def ordOk : Option (List UInt8) → List UInt8 → Bool
  | none, _ => true
  | some k, s => !leS s k
def attrOk (k : Option (List UInt8)) (a : List UInt8 × List UInt8) : Bool := keyOk a.1 && (decide ((a.2.length : Int) ≤ 256) && ordOk k a.1)
/-- Attributes that are right, behind one of the key k. -/
def attrsOk : Option (List UInt8) → List (List UInt8 × List UInt8) → Bool
  | _, [] => true
  | k, a :: l => attrOk k a && attrsOk (some a.1) l
def headOk (t : Tree) : Bool := !decide ((64 : Int) < t.label.length) && (!(t.leaf && decide ((0 : Int) < t.subs.length)) && !(!t.leaf && !decide (t.text = [])))
/-- A node itself is right. -/
def rightN (t : Tree) : Bool := headOk t && attrsOk none t.attrs
mutual
def Tree.rightA : Tree → Bool
  | .mk i l a b c ss => rightN (.mk i l a b c ss) && rightsA ss
def rightsA : List Tree → Bool
  | [] => true
  | s :: ss => s.rightA && rightsA ss
end
theorem rightA_eq (t : Tree) : t.rightA = (rightN t && rightsA t.subs) := by cases t; rw [Tree.rightA]; rfl
theorem rightsA_all : ∀ ss : List Tree, rightsA ss = ss.all Tree.rightA
  | [] => by rw [rightsA]; rfl
  | s :: ss => by rw [rightsA, rightsA_all ss]; rfl
mutual
theorem pre_right : ∀ (t : Tree) (d : Int), (t.pre d).all (fun p => rightN p.2) = t.rightA
  | .mk i l a b c ss, d => by rw [Tree.pre, List.all_cons, pres_right ss (d + 1), Tree.rightA]
theorem pres_right : ∀ (ss : List Tree) (d : Int), (pres d ss).all (fun p => rightN p.2) = rightsA ss
  | [], d => by rw [pres]; rfl
  | s :: ss, d => by rw [pres, List.all_append, pre_right s d, pres_right ss d, rightsA]
end
def rightT (t : Tree) : Bool := !t.leaf && t.rightA

/-- The key ahead of place i. -/
def prevK (l : List (List UInt8 × List UInt8)) : Nat → Option (List UInt8)
  | 0 => none
  | i + 1 => some (l.getD i ([], [])).1
theorem attrs_at {l : List (List UInt8 × List UInt8)} {i : Nat} (hi : i < l.length) : attrsOk (prevK l i) (l.drop i) = (attrOk (prevK l i) l[i] && attrsOk (prevK l (i + 1)) (l.drop (i + 1))) := by
  rw [List.drop_eq_getElem_cons hi, attrsOk, prevK, List.getD_eq_getElem?_getD, List.getElem?_eq_getElem hi]
  rfl
end Bow
/- SP6: edits of a text, in plain Lean. -/
namespace Bow
open Go

def extentP (l : List PieceT) : Int := l.foldr (fun p n => p.keep + p.drop + n) 0
def editP : List UInt8 → List PieceT → List UInt8
  | t, [] => t
  | t, p :: l => t.take p.keep.toNat ++ p.put ++ editP (t.drop (p.keep + p.drop).toNat) l
/-- What Apply answers. -/
def applyE (t : List UInt8) (l : List PieceT) : List UInt8 × Int :=
  bif !rightP l then ([], 2) else bif decide ((t.length : Int) < extentP l) then ([], 50) else (editP t l, 0)
def strE (r : List UInt8 × Int) : V := .tup [.str r.1, .int .i64 r.2]
theorem extentP_cons (p : PieceT) (l : List PieceT) : extentP (p :: l) = p.keep + p.drop + extentP l := rfl
structure PieceT.Ok (p : PieceT) : Prop where
  k0 : 0 ≤ p.keep
  k1 : p.keep ≤ 1048576
  d0 : 0 ≤ p.drop
  d1 : p.drop ≤ 1048576
theorem rightGo_ok : ∀ {l : List PieceT} {n : Nat}, rightGo n l = true → (∀ p ∈ l, p.Ok) ∧ (l = [] ∨ n + putsLen l ≤ 1048576)
  | [], n, _ => ⟨(fun p h => by cases h), .inl rfl⟩
  | p :: l, n, h => by
    rw [rightGo] at h
    simp only [Bool.and_eq_true, decide_eq_true_eq] at h
    obtain ⟨⟨⟨⟨⟨h1, h2⟩, h3⟩, h4⟩, h5⟩, h6⟩ := h
    obtain ⟨k1, k2⟩ := rightGo_ok h6
    refine ⟨fun q hq => ?_, .inr ?_⟩
    · rcases List.mem_cons.1 hq with rfl | hq
      · exact ⟨h1, h2, h3, h4⟩
      · exact k1 q hq
    · have e : putsLen (p :: l) = p.put.length + putsLen l := rfl
      rw [e]
      rcases k2 with rfl | k2
      · have : putsLen [] = 0 := rfl
        omega
      · omega
theorem rightP_ok {l : List PieceT} (h : rightP l = true) : l.length ≤ 4096 ∧ (∀ p ∈ l, p.Ok) ∧ putsLen l ≤ 1048576 := by
  unfold rightP at h
  simp only [Bool.and_eq_true, decide_eq_true_eq] at h
  obtain ⟨h1, h2⟩ := h
  obtain ⟨k1, k2⟩ := rightGo_ok h2
  refine ⟨h1, k1, ?_⟩
  rcases k2 with rfl | k2
  · exact Nat.zero_le _
  · omega
theorem extentP_nonneg : ∀ {l : List PieceT}, (∀ p ∈ l, p.Ok) → 0 ≤ extentP l
  | [], _ => Int.le_refl _
  | p :: l, h => by
    have := extentP_nonneg (l := l) fun q hq => h q (List.mem_cons_of_mem _ hq)
    have hp := h p List.mem_cons_self
    have := hp.k0
    have := hp.d0
    rw [extentP_cons]
    omega
theorem extentP_le : ∀ {l : List PieceT}, (∀ p ∈ l, p.Ok) → extentP l ≤ l.length * 2097152
  | [], _ => by simp [extentP]
  | p :: l, h => by
    have := extentP_le (l := l) fun q hq => h q (List.mem_cons_of_mem _ hq)
    have hp := h p List.mem_cons_self
    have := hp.k1
    have := hp.d1
    rw [extentP_cons, List.length_cons]
    omega
theorem editP_len : ∀ {l : List PieceT} {t : List UInt8}, (∀ p ∈ l, p.Ok) → extentP l ≤ t.length → (editP t l).length ≤ t.length + putsLen l
  | [], t, _, _ => by simp [editP, putsLen]
  | p :: l, t, h, he => by
    rw [extentP_cons] at he
    have hp := h p List.mem_cons_self
    have hl := fun q hq => h q (List.mem_cons_of_mem p hq)
    have := extentP_nonneg hl
    have ih := editP_len (l := l) (t := t.drop (p.keep + p.drop).toNat) hl (by have := hp.k0; have := hp.d0; simp; omega)
    have e : putsLen (p :: l) = p.put.length + putsLen l := rfl
    rw [editP, e]
    simp at ih ⊢
    have := hp.k0
    have := hp.d0
    omega
end Bow
/- SP7: which operations are valid, and what becomes of a tree. -/
namespace Bow
open Go

/-- Of an operation that is formed, on a tree that is right. -/
def validE (t : Tree) (o : OpT) : Int :=
  bif (decide (o.kind = 2) || decide (o.kind = 3)) && decide (o.path = []) then 82
  else match atT t o.path with
    | none => 81
    | some x => bif decide (o.kind = 1) then intoE x o.at_
      else bif decide (o.kind = 3) then (bif within o.path o.to then 84 else match atT t o.to with
        | none => 81
        | some y => intoE y o.at_)
      else bif decide (o.kind = 6) then (bif !x.leaf then 83 else (applyE x.text o.pieces).2)
      else 0
def ValidE (t : Tree) (o : OpT) : Int := bif !rightT t then 2 else bif !formedB o then 80 else validE t o
end Bow
/- SP8: a moved node's landing, in plain Lean. -/
namespace Bow
open Go

theorem weights_append : ∀ (a b : List Tree), weights (a ++ b) = weights a + weights b
  | [], b => by rw [weights]; simp
  | x :: a, b => by rw [List.cons_append, weights, weights, weights_append a b]; omega
theorem weights_set {s u : Tree} : ∀ {l : List Tree} {i : Nat}, l[i]? = some s → u.weight ≤ s.weight → weights (l.set i u) ≤ weights l
  | [], i, h, _ => by simp at h
  | x :: l, 0, h, hu => by
    simp at h
    subst h
    rw [List.set_cons_zero, weights, weights]
    omega
  | x :: l, i + 1, h, hu => by
    simp at h
    have := weights_set (l := l) h hu
    rw [List.set_cons_succ, weights, weights]
    omega
theorem withSubs_weight (t : Tree) (ss : List Tree) : (t.withSubs ss).weight + weights t.subs = t.weight + weights ss := by
  cases t
  rw [weight_eq, weight_eq]
  simp only [Tree.withSubs, Tree.label, Tree.text, Tree.attrs, Tree.subs]
  omega
theorem change_weight {F : Tree → Tree} (hF : ∀ y, (F y).weight ≤ y.weight) : ∀ (p : List Int) (t : Tree), (changeT F t p).weight ≤ t.weight
  | [], t => hF t
  | i :: p, t => by
    rw [changeT]
    cases hs : subT t i with
    | none => exact Nat.le_refl _
    | some s =>
      have ih := change_weight hF p s
      have h := weights_set (subT_some hs).2.1 ih
      have := withSubs_weight t (t.subs.set i.toNat (changeT F s p))
      simp only
      omega
theorem del_weight (i : Int) (y : Tree) : (delT i y).weight ≤ y.weight := by
  have h1 := withSubs_weight y (y.subs.take i.toNat ++ y.subs.drop (i.toNat + 1))
  have h2 : weights (y.subs.take i.toNat ++ y.subs.drop (i.toNat + 1)) ≤ weights y.subs := by
    conv => rhs; rw [← List.take_append_drop i.toNat y.subs]
    rw [weights_append, weights_append]
    have h3 : weights (y.subs.drop (i.toNat + 1)) ≤ weights (y.subs.drop i.toNat) := by
      rw [← List.drop_drop]
      cases y.subs.drop i.toNat with
      | nil => simp
      | cons a l => rw [weights]; simp
    omega
  unfold delT
  omega

theorem subT_with (t : Tree) (ss : List Tree) (j : Int) (h : 0 ≤ j) : subT (t.withSubs ss) j = ss[j.toNat]? := by
  unfold subT
  rw [withSubs_subs, decide_eq_false (by omega)]
  rfl
theorem within_cons (k j : Int) (p q : List Int) : within (k :: p) (j :: q) = (decide (k = j) && within p q) := by
  unfold within
  simp
theorem within_nil (q : List Int) : within [] q = true := by unfold within; simp
theorem within_cons_nil (k : Int) (p : List Int) : within (k :: p) [] = false := by unfold within; simp
theorem landT_cons (k i at_ : Int) (q to : List Int) : landT (k :: q) i (k :: to) at_ = (k :: (landT q i to at_).1, (landT q i to at_).2) := by
  unfold landT
  rw [within_cons]
  simp only [List.cons.injEq, true_and, decide_true, Bool.true_and, List.length_cons, Nat.add_lt_add_iff_right, List.getD_cons_succ, List.set_cons_succ]
  cases (decide (q = to) && decide (i < at_)) <;> cases (within q to && (decide (q.length < to.length) && decide (i < to.getD q.length 0))) <;> rfl
theorem landT_other {k j i at_ : Int} {q to : List Int} (h : k ≠ j) : landT (k :: q) i (j :: to) at_ = (j :: to, at_) := by
  unfold landT
  rw [within_cons]
  simp [h]
theorem landT_top (k i at_ : Int) (q : List Int) : landT (k :: q) i [] at_ = ([], at_) := by
  unfold landT
  rw [within_cons_nil]
  simp

theorem withSubs_leaf (t : Tree) (ss : List Tree) : (t.withSubs ss).leaf = t.leaf := by cases t; rfl
theorem withSubs_id (t : Tree) (ss : List Tree) : (t.withSubs ss).id = t.id := by cases t; rfl
/-- Where a moved node lands there is a node, with such a gap. -/
theorem land_at2 {i at_ : Int} (hi : 0 ≤ i) (h0 : 0 ≤ at_) : ∀ (q to : List Int) (t y z : Tree), atT t q = some y → i < y.subs.length → within (q ++ [i]) to = false → atT t to = some z → at_ ≤ z.subs.length →
    ∃ z', atT (changeT (delT i) t q) (landT q i to at_).1 = some z' ∧ 0 ≤ (landT q i to at_).2 ∧ (landT q i to at_).2 ≤ z'.subs.length ∧ z'.leaf = z.leaf ∧ z'.id = z.id
  | [], [], t, y, z, hy, hiy, hw, hz, hat => by
    rw [atT] at hy hz
    injection hy with hy
    injection hz with hz
    subst hy hz
    have hl : (delT i t).subs.length + 1 = t.subs.length := by
      unfold delT
      rw [withSubs_subs]
      simp
      omega
    unfold landT
    rw [changeT]
    by_cases h : i < at_
    · rw [decide_eq_true h]
      exact ⟨_, rfl, by show 0 ≤ at_ - 1; omega, by show at_ - 1 ≤ _; omega, withSubs_leaf _ _, withSubs_id _ _⟩
    · rw [decide_eq_false h]
      simp only [decide_true, Bool.and_false, within_nil, List.length_nil, cond_false, Nat.lt_irrefl, decide_false, Bool.false_and]
      exact ⟨_, rfl, h0, by omega, withSubs_leaf _ _, withSubs_id _ _⟩
  | [], j :: to, t, y, z, hy, hiy, hw, hz, hat => by
    rw [atT] at hy
    injection hy with hy
    subst hy
    rw [atT] at hz
    cases hs : subT t j with
    | none => rw [hs] at hz; cases hz
    | some s =>
    rw [hs] at hz
    simp only at hz
    obtain ⟨hj, hsj, _⟩ := subT_some hs
    have hji : j ≠ i := by
      rintro rfl
      simp [within] at hw
    rw [changeT]
    have e : landT [] i (j :: to) at_ = (bif decide (i < j) then ((j - 1) :: to, at_) else (j :: to, at_)) := by
      unfold landT
      simp [within_nil]
    rw [e]
    by_cases h : i < j
    · rw [decide_eq_true h]
      refine ⟨z, ?_, h0, hat, rfl, rfl⟩
      simp only [cond_true]
      rw [atT]
      have : subT (delT i t) (j - 1) = some s := by
        unfold delT
        rw [subT_with _ _ _ (by omega), List.getElem?_append_right (by simp; omega), List.getElem?_drop, ← hsj]
        congr 1
        simp
        omega
      rw [this]
      exact hz
    · rw [decide_eq_false h]
      refine ⟨z, ?_, h0, hat, rfl, rfl⟩
      simp only [cond_false]
      rw [atT]
      have : subT (delT i t) j = some s := by
        unfold delT
        rw [subT_with _ _ _ hj, List.getElem?_append_left (by simp; omega), List.getElem?_take, if_pos (by omega), hsj]
      rw [this]
      exact hz
  | k :: q, [], t, y, z, hy, hiy, hw, hz, hat => by
    rw [atT] at hz
    injection hz with hz
    subst hz
    rw [landT_top, atT]
    refine ⟨_, rfl, h0, ?_⟩
    rw [changeT]
    cases subT t k with
    | none => exact ⟨hat, rfl, rfl⟩
    | some s =>
      simp only
      rw [withSubs_subs, List.length_set]
      exact ⟨hat, withSubs_leaf _ _, withSubs_id _ _⟩
  | k :: q, j :: to, t, y, z, hy, hiy, hw, hz, hat => by
    rw [atT] at hy hz
    cases hs : subT t k with
    | none => rw [hs] at hy; cases hy
    | some s =>
    rw [hs] at hy
    simp only at hy
    obtain ⟨hk, hsk, _⟩ := subT_some hs
    have hkl := lt_of_get hsk
    rw [changeT, hs]
    simp only
    by_cases h : k = j
    · subst h
      rw [hs] at hz
      simp only at hz
      rw [List.cons_append, within_cons] at hw
      simp only [decide_true, Bool.true_and] at hw
      rw [landT_cons]
      obtain ⟨z', h1, h2, h3, h4⟩ := land_at2 hi h0 q to s y z hy hiy hw hz hat
      refine ⟨z', ?_, h2, h3, h4⟩
      simp only
      rw [atT, subT_with _ _ _ hk, List.getElem?_set_self hkl]
      exact h1
    · rw [landT_other h]
      refine ⟨z, ?_, h0, hat, rfl, rfl⟩
      cases hs2 : subT t j with
      | none => rw [hs2] at hz; cases hz
      | some s2 =>
      rw [hs2] at hz
      simp only at hz
      obtain ⟨hj, hsj, _⟩ := subT_some hs2
      simp only
      rw [atT, subT_with _ _ _ hj, List.getElem?_set_ne (by omega), hsj]
      exact hz

theorem land_at {i at_ : Int} (hi : 0 ≤ i) (h0 : 0 ≤ at_) (q to : List Int) (t y z : Tree) (h1 : atT t q = some y) (h2 : i < y.subs.length) (h3 : within (q ++ [i]) to = false) (h4 : atT t to = some z) (h5 : at_ ≤ z.subs.length) :
    ∃ z', atT (changeT (delT i) t q) (landT q i to at_).1 = some z' ∧ 0 ≤ (landT q i to at_).2 ∧ (landT q i to at_).2 ≤ z'.subs.length := by
  obtain ⟨z', k1, k2, k3, _⟩ := land_at2 hi h0 q to t y z h1 h2 h3 h4 h5
  exact ⟨z', k1, k2, k3⟩

/-! ### The path of a node's parent -/
theorem at_parent : ∀ {p : List Int} (hne : p ≠ []) {t x : Tree}, atT t p = some x → ∃ y, atT t p.dropLast = some y ∧ 0 ≤ p.getLast hne ∧ p.getLast hne < y.subs.length ∧ y.subs[(p.getLast hne).toNat]? = some x
  | [i], _, t, x, h => by
    rw [atT] at h
    cases hs : subT t i with
    | none => rw [hs] at h; cases h
    | some s =>
      rw [hs] at h
      simp only [atT] at h
      injection h with h
      subst h
      obtain ⟨h1, h2, _⟩ := subT_some hs
      have := lt_of_get h2
      exact ⟨t, rfl, h1, by show i < _; omega, h2⟩
  | i :: j :: p, hne, t, x, h => by
    rw [atT] at h
    cases hs : subT t i with
    | none => rw [hs] at h; cases h
    | some s =>
      rw [hs] at h
      obtain ⟨y, h1, h2, h3, h4⟩ := at_parent (p := j :: p) (by simp) h
      refine ⟨y, ?_, ?_⟩
      · rw [List.dropLast_cons_of_ne_nil (by simp), atT, hs]
        exact h1
      · rw [List.getLast_cons (by simp)]
        exact ⟨h2, h3, h4⟩
/-! ### What becomes of a tree -/
/-- A node new. -/
def freshT (o : OpT) : Tree := .mk o.id o.leaf o.label [] [] []
def relabelT (s : List UInt8) : Tree → Tree
  | .mk i l _ a c ss => .mk i l s a c ss
def retextT (l : List PieceT) : Tree → Tree
  | .mk i lf b a c ss => .mk i lf b a (applyE c l).1 ss
def lastP (p : List Int) : Int := p.getLastD 0
theorem lastP_eq {p : List Int} (h : p ≠ []) : p.getLast h = lastP p := by
  unfold lastP
  cases p with
  | nil => exact absurd rfl h
  | cons a p => rw [List.getLastD_eq_getLast?, List.getLast?_eq_some_getLast h]; rfl
def moveT (x t : Tree) (o : OpT) : Tree :=
  changeT (insT (landT o.path.dropLast (lastP o.path) o.to o.at_).2 x) (changeT (delT (lastP o.path)) t o.path.dropLast) (landT o.path.dropLast (lastP o.path) o.to o.at_).1
theorem land_len (q : List Int) (i : Int) (to : List Int) (n : Int) : (landT q i to n).1.length = to.length := by
  unfold landT
  cases (decide (q = to) && decide (i < n)) <;> cases (within q to && (decide (q.length < to.length) && decide (i < to.getD q.length 0))) <;> simp
end Bow
/- SP10: a move, by taking out first or by putting in first, in plain Lean. -/
namespace Bow
open Go

/-! ### Rows -/
section
variable {α : Type}
def insL (m : Nat) (x : α) (l : List α) : List α := l.take m ++ x :: l.drop m
def delL (n : Nat) (l : List α) : List α := l.take n ++ l.drop (n + 1)
theorem insL_succ (m : Nat) (x a : α) (l : List α) : insL (m + 1) x (a :: l) = a :: insL m x l := rfl
theorem delL_succ (n : Nat) (a : α) (l : List α) : delL (n + 1) (a :: l) = a :: delL n l := rfl
theorem del_ins_lt (x : α) : ∀ (l : List α) (n m : Nat), n < m → m ≤ l.length → delL n (insL m x l) = insL (m - 1) x (delL n l)
  | [], n, m, h, hm => by simp at hm; omega
  | a :: l, 0, m + 1, _, _ => rfl
  | a :: l, n + 1, m + 1, h, hm => by
    have hm' : m ≤ l.length := by simpa using hm
    obtain ⟨k, rfl⟩ : ∃ k, m = k + 1 := ⟨m - 1, by omega⟩
    rw [insL_succ, delL_succ, del_ins_lt x l n (k + 1) (by omega) hm', delL_succ]
    rfl
theorem del_ins_ge (x : α) : ∀ (l : List α) (n m : Nat), m ≤ n → n < l.length → delL (n + 1) (insL m x l) = insL m x (delL n l)
  | [], n, m, h, hm => by simp at hm
  | a :: l, n, 0, _, _ => rfl
  | a :: l, n + 1, m + 1, h, hm => by
    have hm' : n < l.length := by simpa using hm
    rw [insL_succ, delL_succ, del_ins_ge x l n m (by omega) hm', delL_succ, insL_succ]
theorem del_set_lt (K : α) : ∀ (l : List α) (i j : Nat), i < j → delL i (l.set j K) = (delL i l).set (j - 1) K
  | [], i, j, h => by simp [delL]
  | a :: l, 0, j + 1, _ => rfl
  | a :: l, i + 1, j + 1, h => by
    obtain ⟨k, rfl⟩ : ∃ k, j = k + 1 := ⟨j - 1, by omega⟩
    rw [List.set_cons_succ, delL_succ, del_set_lt K l i (k + 1) (by omega), delL_succ]
    rfl
theorem del_set_gt (K : α) : ∀ (l : List α) (i j : Nat), j < i → delL i (l.set j K) = (delL i l).set j K
  | [], i, j, h => by simp [delL]
  | a :: l, i + 1, 0, h => rfl
  | a :: l, i + 1, j + 1, h => by
    rw [List.set_cons_succ, delL_succ, del_set_gt K l i j (by omega), delL_succ, List.set_cons_succ]
theorem ins_set_lt (x K : α) : ∀ (l : List α) (m k : Nat), k < m → (insL m x l).set k K = insL m x (l.set k K) ∨ l.length ≤ k
  | [], m, k, h => .inr (by simp)
  | a :: l, m + 1, 0, _ => .inl rfl
  | a :: l, m + 1, k + 1, h => by
    rcases ins_set_lt x K l m k (by omega) with h1 | h1
    · left
      rw [insL_succ, List.set_cons_succ, h1, List.set_cons_succ, insL_succ]
    · right
      simpa using h1
theorem ins_set_ge (x K : α) : ∀ (l : List α) (m k : Nat), m ≤ k → (insL m x l).set (k + 1) K = insL m x (l.set k K)
  | [], m, k, h => by cases m <;> simp [insL]
  | a :: l, 0, k, _ => rfl
  | a :: l, m + 1, k + 1, h => by
    rw [insL_succ, List.set_cons_succ, ins_set_ge x K l m k (by omega), List.set_cons_succ, insL_succ]
theorem ins_get_lt (x : α) : ∀ (l : List α) (m k : Nat), k < m → k < l.length → (insL m x l)[k]? = l[k]?
  | [], m, k, h, hk => by simp at hk
  | a :: l, m + 1, 0, _, _ => rfl
  | a :: l, m + 1, k + 1, h, hk => by
    rw [insL_succ, List.getElem?_cons_succ, List.getElem?_cons_succ]
    exact ins_get_lt x l m k (by omega) (by simpa using hk)
theorem ins_get_ge (x : α) : ∀ (l : List α) (m k : Nat), m ≤ k → m ≤ l.length → (insL m x l)[k + 1]? = l[k]?
  | [], m, k, h, hm => by
    have : m = 0 := by simpa using hm
    subst this
    simp [insL]
  | a :: l, 0, k, _, _ => rfl
  | a :: l, m + 1, k + 1, h, hm => by
    rw [insL_succ, List.getElem?_cons_succ, List.getElem?_cons_succ]
    exact ins_get_ge x l m k (by omega) (by simpa using hm)
end
theorem insT_eq (at_ : Int) (x y : Tree) : insT at_ x y = y.withSubs (insL at_.toNat x y.subs) := rfl
theorem delT_eq (i : Int) (y : Tree) : delT i y = y.withSubs (delL i.toNat y.subs) := rfl
theorem withSubs_withSubs (t : Tree) (a b : List Tree) : (t.withSubs a).withSubs b = t.withSubs b := by cases t; rfl

/-! ### Without a node -/
def withoutT (t : Tree) (p : List Int) : Tree := changeT (delT (lastP p)) t p.dropLast
theorem lastP_cons {p : List Int} (k : Int) (h : p ≠ []) : lastP (k :: p) = lastP p := by
  rw [← lastP_eq (by simp), ← lastP_eq h, List.getLast_cons h]
theorem without_one (t : Tree) (i : Int) : withoutT t [i] = delT i t := rfl
theorem without_cons (t : Tree) (k : Int) {p : List Int} (h : p ≠ []) {s : Tree} (hs : subT t k = some s) : withoutT t (k :: p) = t.withSubs (t.subs.set k.toNat (withoutT s p)) := by
  unfold withoutT
  rw [lastP_cons k h, List.dropLast_cons_of_ne_nil h, changeT, hs]
theorem change_cons (F : Tree → Tree) (t : Tree) (k : Int) (p : List Int) {s : Tree} (hs : subT t k = some s) : changeT F t (k :: p) = t.withSubs (t.subs.set k.toNat (changeT F s p)) := by
  rw [changeT, hs]

/-- A node's path, when another one has been put at a gap. -/
def liftP (to : List Int) (at_ : Int) (fr : List Int) : List Int :=
  bif decide (to.length < fr.length) && (within to fr && decide (at_ ≤ fr.getD to.length 0)) then fr.set to.length (fr.getD to.length 0 + 1) else fr
theorem lift_cons (k at_ : Int) (to fr : List Int) : liftP (k :: to) at_ (k :: fr) = k :: liftP to at_ fr := by
  unfold liftP
  rw [within_cons]
  simp only [decide_true, Bool.true_and, List.length_cons, Nat.add_lt_add_iff_right, List.getD_cons_succ, List.set_cons_succ]
  cases (decide (to.length < fr.length) && (within to fr && decide (at_ ≤ fr.getD to.length 0))) <;> rfl
theorem lift_other {k j : Int} (at_ : Int) (to fr : List Int) (h : j ≠ k) : liftP (j :: to) at_ (k :: fr) = k :: fr := by
  unfold liftP
  rw [within_cons, decide_eq_false h]
  simp
theorem lift_nil (k at_ : Int) (fr : List Int) : liftP [] at_ (k :: fr) = (bif decide (at_ ≤ k) then k + 1 else k) :: fr := by
  unfold liftP
  rw [within_nil]
  by_cases h : at_ ≤ k <;> simp [h]
theorem lift_short (i j at_ : Int) (to : List Int) : liftP (j :: to) at_ [i] = [i] := by
  unfold liftP
  simp

/-- Put in first, then taken out where it stands now: as taken out first, then put in. -/
theorem move_law {at_ : Int} (h0 : 0 ≤ at_) (x : Tree) : ∀ (fr to : List Int) (t s z : Tree), fr ≠ [] → atT t fr = some s → within fr to = false → atT t to = some z → at_ ≤ z.subs.length →
    withoutT (changeT (insT at_ x) t to) (liftP to at_ fr) = changeT (insT (landT fr.dropLast (lastP fr) to at_).2 x) (withoutT t fr) (landT fr.dropLast (lastP fr) to at_).1
  | [], _, _, _, _, h, _, _, _, _ => absurd rfl h
  | [i], [], t, s, z, _, hs, hw, hz, hat => by
    rw [atT] at hz
    injection hz with hz
    subst hz
    rw [atT] at hs
    cases hu : subT t i with
    | none => rw [hu] at hs; cases hs
    | some u =>
    obtain ⟨hi, hsi, _⟩ := subT_some hu
    have hil := lt_of_get hsi
    rw [lift_nil, without_one, without_one]
    show delT _ (insT at_ x t) = _
    have e : landT ([i] : List Int).dropLast (lastP [i]) [] at_ = (bif decide (i < at_) then ([], at_ - 1) else ([], at_)) := by
      unfold landT lastP
      by_cases h : i < at_ <;> simp [h, within_nil]
    rw [e]
    by_cases h : i < at_
    · rw [decide_eq_true h, decide_eq_false (by omega : ¬ at_ ≤ i)]
      simp only [cond_true, cond_false]
      show _ = insT (at_ - 1) x (delT i t)
      rw [insT_eq, insT_eq, delT_eq, delT_eq, withSubs_subs, withSubs_subs, withSubs_withSubs, withSubs_withSubs, del_ins_lt x t.subs i.toNat at_.toNat (by omega) (by omega)]
      congr 2
      omega
    · rw [decide_eq_false h, decide_eq_true (by omega : at_ ≤ i)]
      simp only [cond_true, cond_false]
      show _ = insT at_ x (delT i t)
      rw [insT_eq, insT_eq, delT_eq, delT_eq, withSubs_subs, withSubs_subs, withSubs_withSubs, withSubs_withSubs]
      have : (i + 1).toNat = i.toNat + 1 := by omega
      rw [this, del_ins_ge x t.subs i.toNat at_.toNat (by omega) (by omega)]
  | [i], j :: to, t, s, z, _, hs, hw, hz, hat => by
    rw [atT] at hs hz
    cases hu : subT t i with
    | none => rw [hu] at hs; cases hs
    | some u =>
    cases hv : subT t j with
    | none => rw [hv] at hz; cases hz
    | some v =>
    obtain ⟨hi, hsi, _⟩ := subT_some hu
    obtain ⟨hj, hsj, _⟩ := subT_some hv
    have hil := lt_of_get hsi
    have hjl := lt_of_get hsj
    have hji : j ≠ i := by
      rintro rfl
      simp [within] at hw
    rw [lift_short, without_one, without_one, change_cons _ _ _ _ hv]
    have e : landT ([i] : List Int).dropLast (lastP [i]) (j :: to) at_ = (bif decide (i < j) then ((j - 1) :: to, at_) else (j :: to, at_)) := by
      unfold landT lastP
      simp [within_nil]
    rw [e]
    by_cases h : i < j
    · rw [decide_eq_true h]
      simp only [cond_true]
      have hv' : subT (delT i t) (j - 1) = some v := by
        unfold delT
        rw [subT_with _ _ _ (by omega), List.getElem?_append_right (by simp; omega), List.getElem?_drop, ← hsj]
        congr 1
        simp
        omega
      rw [change_cons _ _ _ _ hv', delT_eq, delT_eq, withSubs_withSubs, withSubs_withSubs, withSubs_subs, withSubs_subs, del_set_lt _ _ _ _ (by omega)]
      congr 2
      omega
    · rw [decide_eq_false h]
      simp only [cond_false]
      have hv' : subT (delT i t) j = some v := by
        unfold delT
        rw [subT_with _ _ _ hj, List.getElem?_append_left (by simp; omega), List.getElem?_take, if_pos (by omega), hsj]
      rw [change_cons _ _ _ _ hv', delT_eq, delT_eq, withSubs_withSubs, withSubs_withSubs, withSubs_subs, withSubs_subs, del_set_gt _ _ _ _ (by omega)]
  | k :: k2 :: q, [], t, s, z, _, hs, hw, hz, hat => by
    rw [atT] at hz
    injection hz with hz
    subst hz
    rw [atT] at hs
    cases hu : subT t k with
    | none => rw [hu] at hs; cases hs
    | some u =>
    obtain ⟨hk, hsk, _⟩ := subT_some hu
    have hkl := lt_of_get hsk
    rw [lift_nil, List.dropLast_cons_of_ne_nil (by simp), landT_top]
    show withoutT (insT at_ x t) _ = insT at_ x (withoutT t _)
    rw [without_cons t k (by simp) hu]
    by_cases h : at_ ≤ k
    · rw [decide_eq_true h]
      simp only [cond_true]
      have e : (k + 1).toNat = k.toNat + 1 := by omega
      have hu' : subT (insT at_ x t) (k + 1) = some u := by
        rw [insT_eq, subT_with _ _ _ (by omega), e, ins_get_ge _ _ _ _ (by omega) (by omega), hsk]
      rw [without_cons _ _ (by simp) hu', insT_eq, insT_eq, withSubs_withSubs, withSubs_withSubs, withSubs_subs, withSubs_subs, e, ins_set_ge _ _ _ _ _ (by omega)]
    · rw [decide_eq_false h]
      simp only [cond_false]
      have hu' : subT (insT at_ x t) k = some u := by
        rw [insT_eq, subT_with _ _ _ hk, ins_get_lt _ _ _ _ (by omega) hkl, hsk]
      rw [without_cons _ _ (by simp) hu', insT_eq, insT_eq, withSubs_withSubs, withSubs_withSubs, withSubs_subs, withSubs_subs, (ins_set_lt x _ t.subs at_.toNat k.toNat (by omega)).resolve_right (by omega)]
  | k :: k2 :: q, j :: to, t, s, z, _, hs, hw, hz, hat => by
    rw [atT] at hs hz
    cases hu : subT t k with
    | none => rw [hu] at hs; cases hs
    | some u =>
    rw [hu] at hs
    simp only at hs
    obtain ⟨hk, hsk, _⟩ := subT_some hu
    have hkl := lt_of_get hsk
    rw [List.dropLast_cons_of_ne_nil (by simp), lastP_cons k (by simp)]
    rw [without_cons t k (by simp) hu]
    by_cases h : k = j
    · subst h
      rw [hu] at hz
      simp only at hz
      rw [within_cons] at hw
      simp only [decide_true, Bool.true_and] at hw
      have ih := move_law h0 x (k2 :: q) to u s z (by simp) hs hw hz hat
      have hle : liftP to at_ (k2 :: q) ≠ [] := by
        unfold liftP
        cases (decide (to.length < (k2 :: q).length) && (within to (k2 :: q) && decide (at_ ≤ (k2 :: q).getD to.length 0))) with
        | false => simp
        | true => intro hh; have := congrArg List.length hh; simp at this
      rw [lift_cons, landT_cons, change_cons _ _ _ _ hu]
      have hu1 : subT (t.withSubs (t.subs.set k.toNat (changeT (insT at_ x) u to))) k = some (changeT (insT at_ x) u to) := by
        rw [subT_with _ _ _ hk, List.getElem?_set_self hkl]
      have hu2 : subT (t.withSubs (t.subs.set k.toNat (withoutT u (k2 :: q)))) k = some (withoutT u (k2 :: q)) := by
        rw [subT_with _ _ _ hk, List.getElem?_set_self hkl]
      rw [without_cons _ _ hle hu1, change_cons _ _ _ _ hu2, withSubs_withSubs, withSubs_withSubs, withSubs_subs, withSubs_subs, List.set_set, List.set_set, ih]
    · cases hv : subT t j with
      | none => rw [hv] at hz; cases hz
      | some v =>
      obtain ⟨hj, hsj, _⟩ := subT_some hv
      rw [lift_other _ _ _ (fun e => h e.symm), landT_other h, change_cons _ _ _ _ hv]
      have hne : k.toNat ≠ j.toNat := by omega
      have hu1 : subT (t.withSubs (t.subs.set j.toNat (changeT (insT at_ x) v to))) k = some u := by
        rw [subT_with _ _ _ hk, List.getElem?_set_ne (fun e => hne e.symm), hsk]
      have hv1 : subT (t.withSubs (t.subs.set k.toNat (withoutT u (k2 :: q)))) j = some v := by
        rw [subT_with _ _ _ hj, List.getElem?_set_ne hne, hsj]
      rw [without_cons _ _ (by simp) hu1, change_cons _ _ _ _ hv1, withSubs_withSubs, withSubs_withSubs, withSubs_subs, withSubs_subs, List.set_comm _ _ (fun e => hne e.symm)]
end Bow
/- SP11: an attribute set, in plain Lean. -/
namespace Bow
open Go

/-! ### The order of texts -/
theorem cmp_less : ∀ a b : List UInt8, Lib.compareBytes a b < 0 ↔ Op.bytesLess a b = true
  | [], [] => by simp [Lib.compareBytes, Op.bytesLess]
  | [], _ :: _ => by simp [Lib.compareBytes, Op.bytesLess]
  | _ :: _, [] => by simp [Lib.compareBytes, Op.bytesLess]
  | x :: a, y :: b => by
    have ih := cmp_less a b
    unfold Lib.compareBytes Op.bytesLess
    by_cases h1 : x < y
    · simp [h1]
    · by_cases h2 : y < x
      · have : x ≠ y := fun e => by subst e; exact h1 h2
        simp [h1, h2, this]
      · have : x = y := UInt8.le_antisymm (UInt8.not_lt.1 h2) (UInt8.not_lt.1 h1)
        subst this
        simp only [h1, if_false, decide_false, beq_self_eq_true, Bool.true_and, Bool.false_or]
        exact ih
theorem cmp_zero : ∀ a b : List UInt8, Lib.compareBytes a b = 0 ↔ a = b
  | [], [] => by simp [Lib.compareBytes]
  | [], _ :: _ => by simp [Lib.compareBytes]
  | _ :: _, [] => by simp [Lib.compareBytes]
  | x :: a, y :: b => by
    have ih := cmp_zero a b
    unfold Lib.compareBytes
    by_cases h1 : x < y
    · have : x ≠ y := fun e => by subst e; exact UInt8.lt_irrefl x h1
      simp [h1, this]
    · by_cases h2 : y < x
      · have : x ≠ y := fun e => by subst e; exact h1 h2
        simp [h1, h2, this]
      · have : x = y := UInt8.le_antisymm (UInt8.not_lt.1 h2) (UInt8.not_lt.1 h1)
        subst this
        simp only [h1, if_false, ih, List.cons.injEq, true_and]
theorem less_irrefl (a : List UInt8) : Op.bytesLess a a = false := by
  cases h : Op.bytesLess a a with
  | false => rfl
  | true =>
    have h1 := (cmp_less a a).2 h
    have h2 := (cmp_zero a a).2 rfl
    omega
theorem less_trans : ∀ {a b c : List UInt8}, Op.bytesLess a b = true → Op.bytesLess b c = true → Op.bytesLess a c = true
  | _, [], _, h, _ => by unfold Op.bytesLess at h; simp at h
  | _, _ :: _, [], _, h => by unfold Op.bytesLess at h; simp at h
  | [], _ :: _, _ :: _, _, _ => by unfold Op.bytesLess; rfl
  | x :: a, y :: b, z :: c, h, k => by
    unfold Op.bytesLess at h k ⊢
    simp only [Bool.or_eq_true, decide_eq_true_eq, Bool.and_eq_true, beq_iff_eq] at h k ⊢
    rcases h with h | ⟨rfl, h⟩ <;> rcases k with k | ⟨rfl, k⟩
    · exact .inl (UInt8.lt_trans h k)
    · exact .inl h
    · exact .inl k
    · exact .inr ⟨rfl, less_trans h k⟩
theorem less_tri : ∀ {a b : List UInt8}, Op.bytesLess a b = false → Op.bytesLess b a = false → a = b
  | [], [], _, _ => rfl
  | [], _ :: _, h, _ => by unfold Op.bytesLess at h; simp at h
  | _ :: _, [], _, h => by unfold Op.bytesLess at h; simp at h
  | x :: a, y :: b, h, k => by
    unfold Op.bytesLess at h k
    simp only [Bool.or_eq_false_iff, decide_eq_false_iff_not, Bool.and_eq_false_iff, beq_eq_false_iff_ne] at h k
    have e : x = y := UInt8.le_antisymm (UInt8.not_lt.1 k.1) (UInt8.not_lt.1 h.1)
    subst e
    rw [less_tri (h.2.resolve_left fun q => q rfl) (k.2.resolve_left fun q => q rfl)]
theorem less_ne {a b : List UInt8} (h : Op.bytesLess a b = true) : a ≠ b := by
  rintro rfl
  rw [less_irrefl] at h
  cases h
theorem less_asymm {a b : List UInt8} (h : Op.bytesLess a b = true) : Op.bytesLess b a = false := by
  cases k : Op.bytesLess b a with
  | false => rfl
  | true =>
    have := less_trans h k
    rw [less_irrefl] at this
    cases this

/-! ### Attributes in order -/
theorem ordOk_less {k s : List UInt8} (h : ordOk (some k) s = true) : Op.bytesLess k s = true := by
  unfold ordOk leS at h
  simp only [Bool.not_eq_true', Bool.or_eq_false_iff, decide_eq_false_iff_not] at h
  cases hk : Op.bytesLess k s with
  | true => rfl
  | false => exact absurd (less_tri h.1 hk) h.2
theorem attrs_behind : ∀ {l : List (List UInt8 × List UInt8)} {k : List UInt8}, attrsOk (some k) l = true → ∀ a ∈ l, Op.bytesLess k a.1 = true
  | [], _, _, a, h => by cases h
  | b :: l, k, h, a, ha => by
    rw [attrsOk, Bool.and_eq_true] at h
    have h1 : Op.bytesLess k b.1 = true := by
      have := h.1
      unfold attrOk at this
      simp only [Bool.and_eq_true] at this
      exact ordOk_less this.2.2
    rcases List.mem_cons.1 ha with rfl | ha
    · exact h1
    · exact less_trans h1 (attrs_behind h.2 a ha)
theorem attrsOk_tail {k : Option (List UInt8)} {a : List UInt8 × List UInt8} {l : List (List UInt8 × List UInt8)} (h : attrsOk k (a :: l) = true) : attrsOk (some a.1) l = true := by
  rw [attrsOk, Bool.and_eq_true] at h
  exact h.2
/-- How many keys are ahead of one. -/
def posK (k : List UInt8) : List (List UInt8 × List UInt8) → Nat
  | [] => 0
  | a :: l => bif Op.bytesLess a.1 k then posK k l + 1 else 0
theorem pos_le (k : List UInt8) : ∀ l, posK k l ≤ l.length
  | [] => Nat.le_refl _
  | a :: l => by
    rw [posK]
    have := pos_le k l
    cases Op.bytesLess a.1 k with
    | true => simpa using this
    | false => simp
theorem pos_iff (k : List UInt8) : ∀ {l : List (List UInt8 × List UInt8)} {k0 : Option (List UInt8)}, attrsOk k0 l = true → ∀ (h : Nat) (hl : h < l.length), (Op.bytesLess l[h].1 k = true ↔ h < posK k l)
  | a :: l, k0, hs, h, hl => by
    rw [posK]
    cases ha : Op.bytesLess a.1 k with
    | true =>
      cases h with
      | zero => simp [ha]
      | succ h =>
        simp only [cond_true, List.getElem_cons_succ, Nat.add_lt_add_iff_right]
        exact pos_iff k (attrsOk_tail hs) h (by simpa using hl)
    | false =>
      simp only [cond_false, Nat.not_lt_zero, iff_false, Bool.not_eq_true]
      cases h with
      | zero => exact ha
      | succ h =>
        have hl' : h < l.length := by simpa using hl
        have := attrs_behind (attrsOk_tail hs) _ (List.getElem_mem hl')
        simp only [List.getElem_cons_succ]
        cases hb : Op.bytesLess l[h].1 k with
        | false => rfl
        | true =>
          rw [less_trans this hb] at ha
          cases ha
/-- Is there one of that key? -/
def hasK (k : List UInt8) (l : List (List UInt8 × List UInt8)) : Bool := decide (posK k l < l.length) && decide ((l.getD (posK k l) ([], [])).1 = k)
def midA (o : OpT) : List (List UInt8 × List UInt8) := bif o.gone then [] else [(o.key, o.value)]
/-- As the program sets one. -/
def setA (o : OpT) (l : List (List UInt8 × List UInt8)) : List (List UInt8 × List UInt8) := l.take (posK o.key l) ++ (midA o ++ l.drop (posK o.key l + (bif hasK o.key l then 1 else 0)))
/-- As the document sets one. -/
def refA (o : OpT) : Bool → List (List UInt8 × List UInt8) → List (List UInt8 × List UInt8)
  | done, [] => bif done then [] else [(o.key, o.value)]
  | done, a :: l => (bif !done && !Op.bytesLess a.1 o.key then [(o.key, o.value)] else []) ++ ((bif decide (a.1 = o.key) then [] else [a]) ++ refA o (done || !Op.bytesLess a.1 o.key) l)
theorem refA_done (o : OpT) : ∀ {l : List (List UInt8 × List UInt8)}, (∀ a ∈ l, a.1 ≠ o.key) → refA o true l = l
  | [], _ => rfl
  | a :: l, h => by
    rw [refA, decide_eq_false (h a List.mem_cons_self)]
    simp [refA_done o fun b hb => h b (List.mem_cons_of_mem _ hb)]
theorem attr_law (o : OpT) : ∀ {l : List (List UInt8 × List UInt8)} {k0 : Option (List UInt8)}, attrsOk k0 l = true → refA o o.gone l = setA o l
  | [], _, _ => by
    unfold setA midA
    rw [refA]
    simp [posK]
  | a :: l, k0, h => by
    have ih := attr_law o (attrsOk_tail h)
    have hb := attrs_behind (attrsOk_tail h)
    rw [refA]
    cases ha : Op.bytesLess a.1 o.key with
    | true =>
      have hne := less_ne ha
      have e1 : posK o.key (a :: l) = posK o.key l + 1 := by rw [posK, ha]; rfl
      have e2 : hasK o.key (a :: l) = hasK o.key l := by
        unfold hasK
        rw [e1]
        simp
      simp only [Bool.not_true, Bool.and_false, cond_false, List.nil_append, Bool.or_false, decide_eq_false hne]
      rw [ih]
      unfold setA
      rw [e1, e2]
      rw [List.take_succ_cons, Nat.add_right_comm (posK o.key l) 1, List.drop_succ_cons]
      simp
    | false =>
      have e1 : posK o.key (a :: l) = 0 := by rw [posK, ha]; rfl
      simp only [Bool.not_false, Bool.and_true, Bool.or_true]
      by_cases he : a.1 = o.key
      · have e2 : hasK o.key (a :: l) = true := by unfold hasK; rw [e1]; simp [he]
        rw [decide_eq_true he, refA_done o fun b hm e => by
          have := hb b hm
          rw [he, ← e, less_irrefl] at this
          cases this]
        unfold setA midA
        rw [e1, e2]
        cases o.gone <;> rfl
      · have e2 : hasK o.key (a :: l) = false := by unfold hasK; rw [e1]; simp [he]
        have hka : Op.bytesLess o.key a.1 = true := by
          cases hk : Op.bytesLess o.key a.1 with
          | true => rfl
          | false => exact absurd (less_tri ha hk) he
        rw [decide_eq_false he, refA_done o fun b hm e => by
          have := less_trans hka (hb b hm)
          rw [← e, less_irrefl] at this
          cases this]
        unfold setA midA
        rw [e1, e2]
        cases o.gone <;> rfl
end Bow
/- SP12: a moved node, when it has been put in: it still stands where it stood, or one on; weights. -/
namespace Bow
open Go

theorem at_cons {t s : Tree} {k : Int} (p : List Int) (h : subT t k = some s) : atT t (k :: p) = atT s p := by rw [atT, h]
theorem lift_at {at_ : Int} (h0 : 0 ≤ at_) (x : Tree) : ∀ (fr to : List Int) (t s z : Tree), fr ≠ [] → atT t fr = some s → within fr to = false → atT t to = some z → at_ ≤ z.subs.length →
    ∃ s', atT (changeT (insT at_ x) t to) (liftP to at_ fr) = some s'
  | [], _, _, _, _, h, _, _, _, _ => absurd rfl h
  | k :: q, [], t, s, z, _, hs, hw, hz, hat => by
    rw [atT] at hz
    injection hz with hz
    subst hz
    rw [atT] at hs
    cases hu : subT t k with
    | none => rw [hu] at hs; cases hs
    | some u =>
    rw [hu] at hs
    obtain ⟨hk, hsk, _⟩ := subT_some hu
    have hkl := lt_of_get hsk
    rw [lift_nil]
    show ∃ s', atT (insT at_ x t) _ = some s'
    by_cases h : at_ ≤ k
    · rw [decide_eq_true h]
      simp only [cond_true]
      have e : (k + 1).toNat = k.toNat + 1 := by omega
      have hu' : subT (insT at_ x t) (k + 1) = some u := by
        rw [insT_eq, subT_with _ _ _ (by omega), e, ins_get_ge _ _ _ _ (by omega) (by omega), hsk]
      exact ⟨s, by rw [at_cons _ hu']; exact hs⟩
    · rw [decide_eq_false h]
      simp only [cond_false]
      have hu' : subT (insT at_ x t) k = some u := by
        rw [insT_eq, subT_with _ _ _ hk, ins_get_lt _ _ _ _ (by omega) hkl, hsk]
      exact ⟨s, by rw [at_cons _ hu']; exact hs⟩
  | k :: q, j :: to, t, s, z, _, hs, hw, hz, hat => by
    rw [atT] at hs hz
    cases hu : subT t k with
    | none => rw [hu] at hs; cases hs
    | some u =>
    rw [hu] at hs
    simp only at hs
    obtain ⟨hk, hsk, _⟩ := subT_some hu
    have hkl := lt_of_get hsk
    by_cases h : k = j
    · subst h
      rw [hu] at hz
      simp only at hz
      rw [within_cons] at hw
      simp only [decide_true, Bool.true_and] at hw
      have hq : q ≠ [] := by
        rintro rfl
        rw [within_nil] at hw
        cases hw
      obtain ⟨s', ih⟩ := lift_at h0 x q to u s z hq hs hw hz hat
      rw [lift_cons, change_cons _ _ _ _ hu]
      have hu1 : subT (t.withSubs (t.subs.set k.toNat (changeT (insT at_ x) u to))) k = some (changeT (insT at_ x) u to) := by
        rw [subT_with _ _ _ hk, List.getElem?_set_self hkl]
      exact ⟨s', by rw [at_cons _ hu1]; exact ih⟩
    · cases hv : subT t j with
      | none => rw [hv] at hz; cases hz
      | some v =>
      obtain ⟨hj, hsj, _⟩ := subT_some hv
      rw [lift_other _ _ _ (fun e => h e.symm), change_cons _ _ _ _ hv]
      have hne : k.toNat ≠ j.toNat := by omega
      have hu1 : subT (t.withSubs (t.subs.set j.toNat (changeT (insT at_ x) v to))) k = some u := by
        rw [subT_with _ _ _ hk, List.getElem?_set_ne (fun e => hne e.symm), hsk]
      exact ⟨s, by rw [at_cons _ hu1]; exact hs⟩

theorem weights_set_add {s u : Tree} {n : Nat} : ∀ {l : List Tree} {i : Nat}, l[i]? = some s → u.weight ≤ s.weight + n → weights (l.set i u) ≤ weights l + n
  | [], i, h, _ => by simp at h
  | x :: l, 0, h, hu => by
    simp at h
    subst h
    rw [List.set_cons_zero, weights, weights]
    omega
  | x :: l, i + 1, h, hu => by
    simp at h
    have := weights_set_add (l := l) h hu
    rw [List.set_cons_succ, weights, weights]
    omega
theorem change_weight_add {F : Tree → Tree} {n : Nat} (hF : ∀ y, (F y).weight ≤ y.weight + n) : ∀ (p : List Int) (t : Tree), (changeT F t p).weight ≤ t.weight + n
  | [], t => hF t
  | i :: p, t => by
    rw [changeT]
    cases hs : subT t i with
    | none => simp only; omega
    | some s =>
      have ih := change_weight_add hF p s
      have h := weights_set_add (subT_some hs).2.1 ih
      have := withSubs_weight t (t.subs.set i.toNat (changeT F s p))
      simp only
      omega
theorem ins_weight (at_ : Int) (x y : Tree) : (insT at_ x y).weight ≤ y.weight + x.weight := by
  have h1 := withSubs_weight y (y.subs.take at_.toNat ++ x :: y.subs.drop at_.toNat)
  have h2 : weights (y.subs.take at_.toNat ++ x :: y.subs.drop at_.toNat) = weights y.subs + x.weight := by
    conv => rhs; rw [← List.take_append_drop at_.toNat y.subs]
    rw [weights_append, weights_append, weights]
    omega
  unfold insT
  omega
theorem lift_len (to : List Int) (at_ : Int) (fr : List Int) : (liftP to at_ fr).length = fr.length := by
  unfold liftP
  cases (decide (to.length < fr.length) && (within to fr && decide (at_ ≤ fr.getD to.length 0))) <;> simp
theorem moveT_eq (x t : Tree) (o : OpT) : moveT x t o = changeT (insT (landT o.path.dropLast (lastP o.path) o.to o.at_).2 x) (withoutT t o.path) (landT o.path.dropLast (lastP o.path) o.to o.at_).1 := rfl
end Bow
/- SP13: what becomes of a tree, in plain Lean; what is known of a valid operation. -/
namespace Bow
open Go

abbrev AttrL := List (List UInt8 × List UInt8)
def Tree.withAttrs : Tree → AttrL → Tree
  | .mk i l b _ c ss, a => .mk i l b a c ss
def setAT (o : OpT) (y : Tree) : Tree := y.withAttrs (setA o y.attrs)
/-- What an operation that is valid makes of a tree. -/
def applyT (t : Tree) (o : OpT) : Tree :=
  bif decide (o.kind = 1) then changeT (insT o.at_ (freshT o)) t o.path
  else bif decide (o.kind = 2) then withoutT t o.path
  else bif decide (o.kind = 3) then (match atT t o.path with | some x => moveT x t o | none => t)
  else bif decide (o.kind = 4) then changeT (setAT o) t o.path
  else bif decide (o.kind = 5) then changeT (relabelT o.label) t o.path
  else changeT (retextT o.pieces) t o.path
def applyR (t : Tree) (o : OpT) : Tree × Int := bif decide (ValidE t o = 0) then (applyT t o, 0) else (.mk 0 false [] [] [] [], ValidE t o)

theorem right_sub {t s : Tree} {i : Int} (ht : t.rightA = true) (h : subT t i = some s) : s.rightA = true := by
  rw [rightA_eq, Bool.and_eq_true, rightsA_all] at ht
  exact List.all_eq_true.1 ht.2 s (subT_some h).2.2
theorem right_at {y : Tree} : ∀ {p : List Int} {t : Tree}, t.rightA = true → atT t p = some y → y.rightA = true
  | [], t, ht, h => by
    rw [atT] at h
    injection h with h
    subst h
    exact ht
  | i :: p, t, ht, h => by
    rw [atT] at h
    cases hs : subT t i with
    | none => rw [hs] at h; cases h
    | some s =>
      rw [hs] at h
      exact right_at (p := p) (right_sub ht hs) h
theorem right_attrs {y : Tree} (h : y.rightA = true) : attrsOk none y.attrs = true := by
  rw [rightA_eq, Bool.and_eq_true] at h
  have := h.1
  unfold rightN at this
  rw [Bool.and_eq_true] at this
  exact this.2

/-- What is known of an operation that is valid. -/
inductive GoodO (t : Tree) (o : OpT) : Prop
  | ins (y) (hk : o.kind = 1) (hy : atT t o.path = some y) (hl : y.leaf = false) (h0 : 0 ≤ o.at_) (h1 : o.at_ ≤ y.subs.length) (h2 : o.label.length ≤ 64) : GoodO t o
  | del (x) (hk : o.kind = 2) (hne : o.path ≠ []) (hx : atT t o.path = some x) : GoodO t o
  | mov (x z) (hk : o.kind = 3) (hne : o.path ≠ []) (hx : atT t o.path = some x) (hw : within o.path o.to = false) (hz : atT t o.to = some z) (hl : z.leaf = false) (h0 : 0 ≤ o.at_) (h1 : o.at_ ≤ z.subs.length) : GoodO t o
  | att (y) (hk : o.kind = 4) (hy : atT t o.path = some y) (h1 : keyOk o.key = true) (h2 : o.gone = true ∨ o.value.length ≤ 256) : GoodO t o
  | lab (y) (hk : o.kind = 5) (hy : atT t o.path = some y) (h2 : o.label.length ≤ 64) : GoodO t o
  | edt (y) (hk : o.kind = 6) (hy : atT t o.path = some y) (hl : y.leaf = true) (he : (applyE y.text o.pieces).2 = 0) : GoodO t o

theorem into_zero {y : Tree} {n : Int} (h : intoE y n = 0) : y.leaf = false ∧ n ≤ y.subs.length := by
  unfold intoE at h
  cases hl : y.leaf with
  | true => rw [hl] at h; cases h
  | false =>
    rw [hl] at h
    by_cases hn : (y.subs.length : Int) < n
    · rw [decide_eq_true hn] at h; cases h
    · exact ⟨rfl, by omega⟩
theorem valid_right {t : Tree} {o : OpT} (h : ValidE t o = 0) : rightT t = true ∧ formedB o = true ∧ validE t o = 0 := by
  unfold ValidE at h
  cases hr : rightT t with
  | false => rw [hr] at h; cases h
  | true =>
    cases hf : formedB o with
    | false => rw [hr, hf] at h; cases h
    | true => rw [hr, hf] at h; exact ⟨rfl, rfl, h⟩
theorem formed_path {o : OpT} (h : formedB o = true) : mayP o.path = true := by
  unfold formedB at h
  rw [Bool.and_eq_true] at h
  exact h.1
theorem may_step {p : List Int} (h : mayP p = true) : ∀ i ∈ p, 0 ≤ i ∧ i ≤ 1048576 := by
  unfold mayP at h
  rw [Bool.and_eq_true] at h
  intro i hi
  have := List.all_eq_true.1 h.2 i hi
  unfold stepOk at this
  simp only [Bool.and_eq_true, decide_eq_true_eq] at this
  omega
theorem good_of {t : Tree} {o : OpT} (h : ValidE t o = 0) : GoodO t o := by
  obtain ⟨hr, hf, hv⟩ := valid_right h
  have hk : o.kind = 1 ∨ o.kind = 2 ∨ o.kind = 3 ∨ o.kind = 4 ∨ o.kind = 5 ∨ o.kind = 6 := by
    unfold formedB at hf
    rw [Bool.and_eq_true] at hf
    have h2 := hf.2
    by_cases e1 : o.kind = 1 <;> by_cases e2 : o.kind = 2 <;> by_cases e3 : o.kind = 3 <;> by_cases e4 : o.kind = 4 <;> by_cases e5 : o.kind = 5 <;> by_cases e6 : o.kind = 6 <;> simp_all
  unfold validE at hv
  unfold formedB at hf
  rw [Bool.and_eq_true] at hf
  have hf2 := hf.2
  by_cases hroot : (decide (o.kind = 2) || decide (o.kind = 3)) && decide (o.path = [])
  · rw [hroot] at hv
    cases hv
  · have hroot : ((decide (o.kind = 2) || decide (o.kind = 3)) && decide (o.path = [])) = false := by simpa using hroot
    rw [hroot] at hv
    simp only [cond_false] at hv
    cases hx : atT t o.path with
    | none => rw [hx] at hv; cases hv
    | some x =>
    rw [hx] at hv
    simp only at hv
    rcases hk with hk | hk | hk | hk | hk | hk
    · simp only [hk] at hv hf2
      obtain ⟨h1, h2⟩ := into_zero hv
      have hf3 : (gapOk o.at_ && decide ((o.label.length : Int) ≤ 64)) = true := hf2
      unfold gapOk at hf3
      simp only [Bool.and_eq_true, decide_eq_true_eq] at hf3
      exact .ins x hk hx h1 hf3.1.1 h2 (by omega)
    · have hne : o.path ≠ [] := by
        intro e
        rw [hk, e] at hroot
        cases hroot
      exact .del x hk hne hx
    · have hne : o.path ≠ [] := by
        intro e
        rw [hk, e] at hroot
        cases hroot
      simp only [hk] at hv hf2
      have hv : (bif within o.path o.to then (84 : Int) else match atT t o.to with | none => 81 | some y => intoE y o.at_) = 0 := hv
      have hf3 : (gapOk o.at_ && mayP o.to) = true := hf2
      unfold gapOk at hf3
      simp only [Bool.and_eq_true, decide_eq_true_eq] at hf3
      cases hw : within o.path o.to with
      | true => rw [hw] at hv; cases hv
      | false =>
        rw [hw] at hv
        cases hz : atT t o.to with
        | none => rw [hz] at hv; cases hv
        | some z =>
          rw [hz] at hv
          obtain ⟨h1, h2⟩ := into_zero hv
          exact .mov x z hk hne hx hw hz h1 hf3.1.1 h2
    · simp only [hk] at hf2
      have hf3 : (keyOk o.key && (o.gone || decide ((o.value.length : Int) ≤ 256))) = true := hf2
      simp only [Bool.and_eq_true, Bool.or_eq_true, decide_eq_true_eq] at hf3
      exact .att x hk hx hf3.1 (hf3.2.imp id fun h => by omega)
    · simp only [hk] at hf2
      have hf3 : decide ((o.label.length : Int) ≤ 64) = true := hf2
      simp only [decide_eq_true_eq] at hf3
      exact .lab x hk hx (by omega)
    · simp only [hk] at hv
      have hv : (bif !x.leaf then (83 : Int) else (applyE x.text o.pieces).2) = 0 := hv
      cases hl : x.leaf with
      | false => rw [hl] at hv; cases hv
      | true => rw [hl] at hv; exact .edt x hk hx hl hv
theorem good_to {o : OpT} (hf : formedB o = true) (hk : o.kind = 3) : mayP o.to = true := by
  unfold formedB at hf
  rw [Bool.and_eq_true] at hf
  have hf2 := hf.2
  simp only [hk] at hf2
  have hf3 : (gapOk o.at_ && mayP o.to) = true := hf2
  rw [Bool.and_eq_true] at hf3
  exact hf3.2
end Bow
/- SP14: how heavy a tree becomes, in plain Lean. -/
namespace Bow
open Go

theorem weights_set_eq {s u : Tree} : ∀ {l : List Tree} {i : Nat}, l[i]? = some s → weights (l.set i u) + s.weight = weights l + u.weight
  | [], i, h => by simp at h
  | x :: l, 0, h => by
    simp at h
    subst h
    rw [List.set_cons_zero, weights, weights]
    omega
  | x :: l, i + 1, h => by
    simp at h
    have := weights_set_eq (u := u) (l := l) h
    rw [List.set_cons_succ, weights, weights]
    omega
theorem change_weight_eq {F : Tree → Tree} {y : Tree} : ∀ {p : List Int} {t : Tree}, atT t p = some y → (changeT F t p).weight + y.weight = t.weight + (F y).weight
  | [], t, h => by
    rw [atT] at h
    injection h with h
    subst h
    rw [changeT]
    omega
  | i :: p, t, h => by
    rw [atT] at h
    cases hs : subT t i with
    | none => rw [hs] at h; cases h
    | some s =>
      rw [hs] at h
      have ih := change_weight_eq (F := F) (p := p) h
      rw [changeT, hs]
      simp only
      have h1 := weights_set_eq (u := changeT F s p) (subT_some hs).2.1
      have h2 := withSubs_weight t (t.subs.set i.toNat (changeT F s p))
      omega
theorem del_weight_eq {y x : Tree} {i : Int} (h : y.subs[i.toNat]? = some x) : (delT i y).weight + x.weight = y.weight := by
  have h1 := withSubs_weight y (y.subs.take i.toNat ++ y.subs.drop (i.toNat + 1))
  have h2 : weights (y.subs.take i.toNat ++ y.subs.drop (i.toNat + 1)) + x.weight = weights y.subs := by
    have hl := lt_of_get h
    conv => rhs; rw [← List.take_append_drop i.toNat y.subs]
    rw [weights_append, weights_append, List.drop_eq_getElem_cons hl, weights]
    have : y.subs[i.toNat] = x := by rw [List.getElem?_eq_getElem hl] at h; injection h
    rw [this]
    omega
  unfold delT
  omega
theorem without_weight {t x : Tree} {p : List Int} (hne : p ≠ []) (hx : atT t p = some x) : (withoutT t p).weight + x.weight = t.weight := by
  obtain ⟨y, y1, y2, y3, y4⟩ := at_parent hne hx
  rw [lastP_eq hne] at y4
  have h1 := change_weight_eq (F := delT (lastP p)) y1
  have h2 := del_weight_eq y4
  unfold withoutT
  omega
def costO (o : OpT) : Nat := 2 + o.label.length + o.key.length + o.value.length + putsLen o.pieces
theorem attrLen_append : ∀ a b : AttrL, attrLen (a ++ b) = attrLen a + attrLen b
  | [], b => by simp [attrLen]
  | x :: a, b => by
    have := attrLen_append a b
    rw [List.cons_append, attrLen_cons, attrLen_cons]
    omega
theorem setA_weight (o : OpT) (y : Tree) : (setAT o y).weight ≤ y.weight + (1 + o.key.length + o.value.length) := by
  have h1 : (setA o y.attrs).length + attrLen (setA o y.attrs) ≤ y.attrs.length + attrLen y.attrs + (1 + o.key.length + o.value.length) := by
    unfold setA
    rw [attrLen_append, attrLen_append]
    have e : attrLen y.attrs = attrLen (y.attrs.take (posK o.key y.attrs)) + attrLen (y.attrs.drop (posK o.key y.attrs)) := by rw [← attrLen_append, List.take_append_drop]
    have e2 : attrLen (y.attrs.drop (posK o.key y.attrs + (bif hasK o.key y.attrs then 1 else 0))) ≤ attrLen (y.attrs.drop (posK o.key y.attrs)) := by
      rw [← List.drop_drop]
      cases hasK o.key y.attrs with
      | false => simp
      | true =>
        cases y.attrs.drop (posK o.key y.attrs) with
        | nil => simp
        | cons a l => rw [attrLen_cons]; simp only [cond_true, List.drop_succ_cons, List.drop_zero]; omega
    have e3 : (midA o).length + attrLen (midA o) ≤ 1 + o.key.length + o.value.length := by
      unfold midA
      cases o.gone <;> simp [attrLen]
      omega
    simp only [List.length_append, List.length_take, List.length_drop]
    omega
  have w1 := weight_eq y
  have w2 := weight_eq (setAT o y)
  have : (setAT o y).label = y.label ∧ (setAT o y).text = y.text ∧ (setAT o y).attrs = setA o y.attrs ∧ (setAT o y).subs = y.subs := by cases y; exact ⟨rfl, rfl, rfl, rfl⟩
  obtain ⟨q1, q2, q3, q4⟩ := this
  rw [q1, q2, q3, q4] at w2
  omega
theorem relabel_weight (s : List UInt8) (y : Tree) : (relabelT s y).weight ≤ y.weight + s.length := by
  have w1 := weight_eq y
  have w2 := weight_eq (relabelT s y)
  have : (relabelT s y).label = s ∧ (relabelT s y).text = y.text ∧ (relabelT s y).attrs = y.attrs ∧ (relabelT s y).subs = y.subs := by cases y; exact ⟨rfl, rfl, rfl, rfl⟩
  obtain ⟨q1, q2, q3, q4⟩ := this
  rw [q1, q2, q3, q4] at w2
  omega
theorem applyE_length (t : List UInt8) (l : List PieceT) : (applyE t l).1.length ≤ t.length + putsLen l := by
  unfold applyE
  cases hr : rightP l with
  | false => simp
  | true =>
    obtain ⟨r1, r2, r3⟩ := rightP_ok hr
    by_cases h : (t.length : Int) < extentP l
    · rw [decide_eq_true h]; simp
    · rw [decide_eq_false h]
      exact editP_len r2 (by omega)
theorem retext_weight (l : List PieceT) (y : Tree) : (retextT l y).weight ≤ y.weight + putsLen l := by
  have w1 := weight_eq y
  have w2 := weight_eq (retextT l y)
  have : (retextT l y).label = y.label ∧ (retextT l y).text = (applyE y.text l).1 ∧ (retextT l y).attrs = y.attrs ∧ (retextT l y).subs = y.subs := by cases y; exact ⟨rfl, rfl, rfl, rfl⟩
  obtain ⟨q1, q2, q3, q4⟩ := this
  rw [q1, q2, q3, q4] at w2
  have := applyE_length y.text l
  omega
theorem fresh_weight (o : OpT) : (freshT o).weight = 1 + o.label.length := by
  have := weight_eq (freshT o)
  have e : (freshT o).label = o.label ∧ (freshT o).text = [] ∧ (freshT o).attrs = [] ∧ (freshT o).subs = [] := ⟨rfl, rfl, rfl, rfl⟩
  obtain ⟨q1, q2, q3, q4⟩ := e
  rw [q1, q2, q3, q4] at this
  simp [attrLen, weights] at this
  omega
theorem applyT_weight {t : Tree} {o : OpT} (h : ValidE t o = 0) : (applyT t o).weight ≤ t.weight + costO o := by
  unfold costO
  cases good_of h with
  | ins y hk hy hl h0 h1 h2 =>
    have e : applyT t o = changeT (insT o.at_ (freshT o)) t o.path := by unfold applyT; rw [hk]; rfl
    have := change_weight_eq (F := insT o.at_ (freshT o)) hy
    have := ins_weight o.at_ (freshT o) y
    have := fresh_weight o
    rw [e]
    omega
  | del x hk hne hx =>
    have e : applyT t o = withoutT t o.path := by unfold applyT; rw [hk]; rfl
    have := without_weight hne hx
    rw [e]
    omega
  | mov x z hk hne hx hw hz hl h0 h1 =>
    have e : applyT t o = moveT x t o := by unfold applyT; rw [hk, hx]; rfl
    have := without_weight hne hx
    have := change_weight_add (F := insT (landT o.path.dropLast (lastP o.path) o.to o.at_).2 x) (n := x.weight) (ins_weight _ x) (landT o.path.dropLast (lastP o.path) o.to o.at_).1 (withoutT t o.path)
    rw [e, moveT_eq]
    omega
  | att y hk hy h1 h2 =>
    have e : applyT t o = changeT (setAT o) t o.path := by unfold applyT; rw [hk]; rfl
    have := change_weight_eq (F := setAT o) hy
    have := setA_weight o y
    rw [e]
    omega
  | lab y hk hy h2 =>
    have e : applyT t o = changeT (relabelT o.label) t o.path := by unfold applyT; rw [hk]; rfl
    have := change_weight_eq (F := relabelT o.label) hy
    have := relabel_weight o.label y
    rw [e]
    omega
  | edt y hk hy hl he =>
    have e : applyT t o = changeT (retextT o.pieces) t o.path := by unfold applyT; rw [hk]; rfl
    have := change_weight_eq (F := retextT o.pieces) hy
    have := retext_weight o.pieces y
    rw [e]
    omega
theorem applyR_weight (t : Tree) (o : OpT) : (applyR t o).1.weight ≤ t.weight + costO o := by
  unfold applyR
  by_cases h : ValidE t o = 0
  · rw [decide_eq_true h]
    exact applyT_weight h
  · rw [decide_eq_false h]
    have e : (Tree.mk 0 false [] [] [] []).weight = 1 := by
      have := weight_eq (Tree.mk 0 false [] [] [] [])
      simp [attrLen, weights, Tree.label, Tree.text, Tree.attrs, Tree.subs] at this
      exact this
    show (Tree.mk 0 false [] [] [] []).weight ≤ _
    rw [e]
    unfold costO
    omega
end Bow
/- SP15: a tree that was right stays right, in plain Lean. -/
namespace Bow
open Go

theorem rightN_iff (t : Tree) : rightN t = true ↔ t.label.length ≤ 64 ∧ (t.leaf = true → t.subs = []) ∧ (t.leaf = false → t.text = []) ∧ attrsOk none t.attrs = true := by
  unfold rightN headOk
  constructor
  · intro h
    rw [Bool.and_eq_true, Bool.and_eq_true, Bool.and_eq_true] at h
    obtain ⟨⟨h1, h2, h3⟩, h4⟩ := h
    refine ⟨by simp at h1; omega, fun hl => ?_, fun hl => ?_, h4⟩
    · rw [hl] at h2
      cases hs : t.subs with
      | nil => rfl
      | cons a l => rw [hs] at h2; simp at h2
    · rw [hl] at h3
      simpa using h3
  · rintro ⟨h1, h2, h3, h4⟩
    rw [h4, decide_eq_false (by omega : ¬ (64 : Int) < t.label.length)]
    cases hl : t.leaf with
    | false => rw [h3 hl]; simp
    | true => rw [h2 hl]; simp
theorem rightN_subs (t : Tree) (ss : List Tree) (h : rightN t = true) (hl : t.leaf = true → ss = []) : rightN (t.withSubs ss) = true := by
  obtain ⟨h1, h2, h3, h4⟩ := (rightN_iff t).1 h
  refine (rightN_iff _).2 ?_
  obtain ⟨i, lf, b, a, c, us⟩ := t
  exact ⟨h1, hl, h3, h4⟩
theorem rightN_leaf {t : Tree} (h : rightN t = true) (hl : t.leaf = true) : t.subs = [] := ((rightN_iff t).1 h).2.1 hl
theorem rightA_N {t : Tree} (h : t.rightA = true) : rightN t = true := by
  rw [rightA_eq, Bool.and_eq_true] at h
  exact h.1
theorem rightA_subs {t : Tree} (h : t.rightA = true) : ∀ s ∈ t.subs, s.rightA = true := by
  rw [rightA_eq, Bool.and_eq_true, rightsA_all] at h
  exact List.all_eq_true.1 h.2
theorem rightA_mk {t : Tree} (h1 : rightN t = true) (h2 : ∀ s ∈ t.subs, s.rightA = true) : t.rightA = true := by
  rw [rightA_eq, h1, rightsA_all, Bool.true_and]
  exact List.all_eq_true.2 h2
theorem change_rightA {F : Tree → Tree} {y : Tree} : ∀ {p : List Int} {t : Tree}, t.rightA = true → atT t p = some y → (F y).rightA = true → (changeT F t p).rightA = true
  | [], t, _, h, hF => by
    rw [atT] at h
    injection h with h
    subst h
    exact hF
  | i :: p, t, ht, h, hF => by
    rw [atT] at h
    cases hs : subT t i with
    | none => rw [hs] at h; cases h
    | some s =>
      rw [hs] at h
      obtain ⟨h1, h2, h3⟩ := subT_some hs
      have ih := change_rightA (F := F) (p := p) (rightA_subs ht s h3) h hF
      rw [changeT, hs]
      simp only
      refine rightA_mk (rightN_subs t _ (rightA_N ht) fun hl => ?_) fun u hu => ?_
      · rw [rightN_leaf (rightA_N ht) hl] at h3
        cases h3
      · rw [withSubs_subs] at hu
        rcases List.mem_or_eq_of_mem_set hu with hu | rfl
        · exact rightA_subs ht u hu
        · exact ih
theorem ins_rightA (n : Int) {x y : Tree} (hy : y.rightA = true) (hl : y.leaf = false) (hx : x.rightA = true) : (insT n x y).rightA = true := by
  refine rightA_mk (rightN_subs y _ (rightA_N hy) fun h => by rw [hl] at h; cases h) fun u hu => ?_
  unfold insT at hu
  rw [withSubs_subs] at hu
  rcases List.mem_append.1 hu with hu | hu
  · exact rightA_subs hy u (List.mem_of_mem_take hu)
  · rcases List.mem_cons.1 hu with rfl | hu
    · exact hx
    · exact rightA_subs hy u (List.mem_of_mem_drop hu)
theorem del_rightA (n : Int) {y : Tree} (hy : y.rightA = true) : (delT n y).rightA = true := by
  refine rightA_mk (rightN_subs y _ (rightA_N hy) fun h => by rw [rightN_leaf (rightA_N hy) h]; simp) fun u hu => ?_
  unfold delT at hu
  rw [withSubs_subs] at hu
  rcases List.mem_append.1 hu with hu | hu
  · exact rightA_subs hy u (List.mem_of_mem_take hu)
  · exact rightA_subs hy u (List.mem_of_mem_drop hu)
theorem less_ord {k s : List UInt8} (h : Op.bytesLess k s = true) : ordOk (some k) s = true := by
  show (!leS s k) = true
  unfold leS
  rw [less_asymm h, decide_eq_false fun e => less_ne h e.symm]
  rfl
theorem ord_trans {k0 : Option (List UInt8)} {k s : List UInt8} (h1 : ordOk k0 k = true) (h2 : Op.bytesLess k s = true) : ordOk k0 s = true := by
  cases k0 with
  | none => rfl
  | some q => exact less_ord (less_trans (ordOk_less h1) h2)
theorem attrOk_mk {k0 : Option (List UInt8)} {a : List UInt8 × List UInt8} (h1 : keyOk a.1 = true) (h2 : a.2.length ≤ 256) (h3 : ordOk k0 a.1 = true) : attrOk k0 a = true := by
  unfold attrOk
  rw [h1, h3, decide_eq_true (by omega)]
  rfl
theorem attrOk_parts {k0 : Option (List UInt8)} {a : List UInt8 × List UInt8} (h : attrOk k0 a = true) : keyOk a.1 = true ∧ a.2.length ≤ 256 ∧ ordOk k0 a.1 = true := by
  unfold attrOk at h
  simp only [Bool.and_eq_true, decide_eq_true_eq] at h
  exact ⟨h.1, by omega, h.2.2⟩
theorem attrsOk_weak {k0 : Option (List UInt8)} {k : List UInt8} (h : ordOk k0 k = true) : ∀ {l : AttrL}, attrsOk (some k) l = true → attrsOk k0 l = true
  | [], _ => rfl
  | a :: l, hl => by
    rw [attrsOk, Bool.and_eq_true] at hl ⊢
    obtain ⟨h1, h2, h3⟩ := attrOk_parts hl.1
    exact ⟨attrOk_mk h1 h2 (ord_trans h (ordOk_less h3)), hl.2⟩
theorem refA_true_ok (o : OpT) : ∀ {l : AttrL} {k0 : Option (List UInt8)}, attrsOk k0 l = true → attrsOk k0 (refA o true l) = true
  | [], _, _ => rfl
  | a :: l, k0, h => by
    have ih := refA_true_ok o (attrsOk_tail h)
    rw [attrsOk, Bool.and_eq_true] at h
    obtain ⟨h1, h2, h3⟩ := attrOk_parts h.1
    rw [refA]
    simp only [Bool.not_true, Bool.false_and, cond_false, List.nil_append, Bool.true_or]
    cases decide (a.1 = o.key) with
    | true => exact attrsOk_weak h3 ih
    | false =>
      show attrsOk k0 (a :: refA o true l) = true
      rw [attrsOk, h.1, ih]
      rfl
theorem refA_false_ok (o : OpT) (hk : keyOk o.key = true) (hv : o.value.length ≤ 256) : ∀ {l : AttrL} {k0 : Option (List UInt8)}, attrsOk k0 l = true → ordOk k0 o.key = true → attrsOk k0 (refA o false l) = true
  | [], k0, _, ho => by
    show attrsOk k0 [(o.key, o.value)] = true
    rw [attrsOk, attrOk_mk hk hv ho]
    rfl
  | a :: l, k0, h, ho => by
    have ht := attrsOk_tail h
    rw [attrsOk, Bool.and_eq_true] at h
    obtain ⟨h1, h2, h3⟩ := attrOk_parts h.1
    rw [refA]
    cases ha : Op.bytesLess a.1 o.key with
    | true =>
      rw [decide_eq_false (less_ne ha)]
      show attrsOk k0 (a :: refA o false l) = true
      rw [attrsOk, h.1, refA_false_ok o hk hv ht (less_ord ha)]
      rfl
    | false =>
      by_cases he : a.1 = o.key
      · rw [decide_eq_true he]
        show attrsOk k0 ((o.key, o.value) :: refA o true l) = true
        rw [attrsOk, attrOk_mk hk hv ho]
        show attrsOk (some o.key) (refA o true l) = true
        rw [← he]
        exact refA_true_ok o ht
      · rw [decide_eq_false he]
        show attrsOk k0 ((o.key, o.value) :: a :: refA o true l) = true
        have hka : Op.bytesLess o.key a.1 = true := by
          cases hk' : Op.bytesLess o.key a.1 with
          | true => rfl
          | false => exact absurd (less_tri ha hk') he
        rw [attrsOk, attrOk_mk hk hv ho, attrsOk, attrOk_mk h1 h2 (less_ord hka)]
        exact refA_true_ok o ht
theorem withAttrs_rightA {y : Tree} {a : AttrL} (hy : y.rightA = true) (ha : attrsOk none a = true) : (y.withAttrs a).rightA = true := by
  have h1 := rightA_N hy
  have h2 := rightA_subs hy
  obtain ⟨q1, q2, q3, q4⟩ := (rightN_iff y).1 h1
  obtain ⟨i, lf, b, a', c, us⟩ := y
  exact rightA_mk ((rightN_iff _).2 ⟨q1, q2, q3, ha⟩) h2
theorem setAT_rightA {o : OpT} {y : Tree} (hy : y.rightA = true) (hk : keyOk o.key = true) (hv : o.gone = true ∨ o.value.length ≤ 256) : (setAT o y).rightA = true := by
  unfold setAT
  refine withAttrs_rightA hy ?_
  rw [← attr_law o (right_attrs hy)]
  cases hg : o.gone with
  | true => exact refA_true_ok o (right_attrs hy)
  | false => exact refA_false_ok o hk (hv.resolve_left (by rw [hg]; simp)) (right_attrs hy) rfl
theorem relabel_rightA {s : List UInt8} {y : Tree} (hy : y.rightA = true) (hs : s.length ≤ 64) : (relabelT s y).rightA = true := by
  have h1 := rightA_N hy
  have h2 := rightA_subs hy
  obtain ⟨q1, q2, q3, q4⟩ := (rightN_iff y).1 h1
  obtain ⟨i, lf, b, a', c, us⟩ := y
  exact rightA_mk ((rightN_iff _).2 ⟨hs, q2, q3, q4⟩) h2
theorem retext_rightA {l : List PieceT} {y : Tree} (hy : y.rightA = true) (hl : y.leaf = true) : (retextT l y).rightA = true := by
  have h1 := rightA_N hy
  have h2 := rightA_subs hy
  obtain ⟨q1, q2, q3, q4⟩ := (rightN_iff y).1 h1
  obtain ⟨i, lf, b, a', c, us⟩ := y
  exact rightA_mk ((rightN_iff _).2 ⟨q1, q2, fun h => absurd (h.symm.trans hl) (by simp), q4⟩) h2
theorem fresh_rightA {o : OpT} (h : o.label.length ≤ 64) : (freshT o).rightA = true := by
  exact rightA_mk ((rightN_iff _).2 ⟨h, fun _ => rfl, fun _ => rfl, rfl⟩) (fun s hs => by cases hs)
/-- Where a moved node lands. -/
theorem land_of {t x z : Tree} {fr to : List Int} {at_ : Int} (hne : fr ≠ []) (hx : atT t fr = some x) (hw : within fr to = false) (hz : atT t to = some z) (h0 : 0 ≤ at_) (h1 : at_ ≤ z.subs.length) :
    ∃ z', atT (withoutT t fr) (landT fr.dropLast (lastP fr) to at_).1 = some z' ∧ 0 ≤ (landT fr.dropLast (lastP fr) to at_).2 ∧ (landT fr.dropLast (lastP fr) to at_).2 ≤ z'.subs.length ∧ z'.leaf = z.leaf ∧ z'.id = z.id := by
  obtain ⟨y, y1, y2, y3, y4⟩ := at_parent hne hx
  have hlast := lastP_eq hne
  rw [hlast] at y2 y3 y4
  have hw' : within (fr.dropLast ++ [lastP fr]) to = false := by rw [← hlast, List.dropLast_concat_getLast]; exact hw
  exact land_at2 y2 h0 fr.dropLast to t y z y1 y3 hw' hz h1
theorem without_rightA {t x : Tree} {fr : List Int} (hne : fr ≠ []) (hx : atT t fr = some x) (ht : t.rightA = true) : (withoutT t fr).rightA = true := by
  obtain ⟨y, y1, y2, y3, y4⟩ := at_parent hne hx
  exact change_rightA ht y1 (del_rightA _ (right_at ht y1))
theorem change_leaf {F : Tree → Tree} (hF : ∀ y, (F y).leaf = y.leaf) : ∀ (p : List Int) (t : Tree), (changeT F t p).leaf = t.leaf
  | [], t => hF t
  | i :: p, t => by
    rw [changeT]
    cases subT t i with
    | none => rfl
    | some s => exact withSubs_leaf _ _
theorem rightT_parts {t : Tree} (h : rightT t = true) : t.leaf = false ∧ t.rightA = true := by
  unfold rightT at h
  simpa using h
theorem right_applyT {t : Tree} {o : OpT} (h : ValidE t o = 0) : rightT (applyT t o) = true := by
  obtain ⟨hr, hf, _⟩ := valid_right h
  obtain ⟨hl, hA⟩ := rightT_parts hr
  have hins : ∀ n x, ∀ y, (insT n x y).leaf = y.leaf := fun n x y => withSubs_leaf _ _
  have hdel : ∀ n, ∀ y, (delT n y).leaf = y.leaf := fun n y => withSubs_leaf _ _
  have key : (applyT t o).leaf = t.leaf ∧ (applyT t o).rightA = true := by
    cases good_of h with
    | ins y hk hy hl h0 h1 h2 =>
      have e : applyT t o = changeT (insT o.at_ (freshT o)) t o.path := by unfold applyT; rw [hk]; rfl
      rw [e]
      exact ⟨change_leaf (hins _ _) _ _, change_rightA hA hy (ins_rightA _ (right_at hA hy) hl (fresh_rightA h2))⟩
    | del x hk hne hx =>
      have e : applyT t o = withoutT t o.path := by unfold applyT; rw [hk]; rfl
      rw [e]
      exact ⟨change_leaf (hdel _) _ _, without_rightA hne hx hA⟩
    | mov x z hk hne hx hw hz hl h0 h1 =>
      have e : applyT t o = moveT x t o := by unfold applyT; rw [hk, hx]; rfl
      obtain ⟨z', k1, k2, k3, k4, k5⟩ := land_of hne hx hw hz h0 h1
      rw [e, moveT_eq]
      have hwA := without_rightA hne hx hA
      refine ⟨(change_leaf (hins _ _) _ _).trans (change_leaf (hdel _) _ _), change_rightA hwA k1 (ins_rightA _ (right_at hwA k1) (k4.trans hl) (right_at hA hx))⟩
    | att y hk hy h1 h2 =>
      have e : applyT t o = changeT (setAT o) t o.path := by unfold applyT; rw [hk]; rfl
      rw [e]
      exact ⟨change_leaf (fun y => by cases y; rfl) _ _, change_rightA hA hy (setAT_rightA (right_at hA hy) h1 h2)⟩
    | lab y hk hy h2 =>
      have e : applyT t o = changeT (relabelT o.label) t o.path := by unfold applyT; rw [hk]; rfl
      rw [e]
      exact ⟨change_leaf (fun y => by cases y; rfl) _ _, change_rightA hA hy (relabel_rightA (right_at hA hy) h2)⟩
    | edt y hk hy hl he =>
      have e : applyT t o = changeT (retextT o.pieces) t o.path := by unfold applyT; rw [hk]; rfl
      rw [e]
      exact ⟨change_leaf (fun y => by cases y; rfl) _ _, change_rightA hA hy (retext_rightA (right_at hA hy) hl)⟩
  unfold rightT
  rw [key.1, key.2, hl]
  rfl
end Bow
/- SP17: a list of operations, in plain Lean. -/
namespace Bow
open Go

def zeroT0 : Tree := .mk 0 false [] [] [] []
def allR : Tree → List OpT → Nat → Tree × Nat × Int
  | t, [], i => (t, i, 0)
  | t, o :: l, i => bif decide (ValidE t o = 0) then allR (applyT t o) l (i + 1) else (zeroT0, i, ValidE t o)
def AllR (t : Tree) (l : List OpT) : Tree × Nat × Int := bif rightT t then allR t l 0 else (zeroT0, 0, 2)
def costs : List OpT → Nat
  | [] => 0
  | o :: l => costO o + costs l
theorem zero_weight : zeroT0.weight = 1 := by
  have := weight_eq zeroT0
  simp [attrLen, weights, Tree.label, Tree.text, Tree.attrs, Tree.subs, zeroT0] at this
  exact this
theorem weight_pos (t : Tree) : 1 ≤ t.weight := by rw [weight_eq]; omega
theorem allR_weight : ∀ (l : List OpT) (t : Tree) (i : Nat), (allR t l i).1.weight ≤ t.weight + costs l
  | [], t, i => by rw [allR, costs]; simp
  | o :: l, t, i => by
    rw [allR, costs]
    by_cases h : ValidE t o = 0
    · rw [decide_eq_true h]
      have := allR_weight l (applyT t o) (i + 1)
      have := applyT_weight h
      simp only [cond_true]
      omega
    · rw [decide_eq_false h]
      have := zero_weight
      have := weight_pos t
      simp only [cond_false]
      omega
theorem AllR_weight (t : Tree) (l : List OpT) : (AllR t l).1.weight ≤ t.weight + costs l := by
  unfold AllR
  cases rightT t with
  | true => exact allR_weight l t 0
  | false =>
    have := zero_weight
    have := weight_pos t
    simp only [cond_false]
    omega
theorem valid_of_right {t : Tree} (h : rightT t = true) (o : OpT) : ValidE t o = bif !formedB o then 80 else validE t o := by
  unfold ValidE
  rw [h]
  rfl
theorem costs_le {n k : Nat} : ∀ {l : List OpT}, l.length ≤ k → (∀ o ∈ l, costO o ≤ n) → costs l ≤ k * n
  | [], _, _ => Nat.zero_le _
  | o :: l, hk, h => by
    obtain ⟨k', rfl⟩ : ∃ k', k = k' + 1 := ⟨k - 1, by simp at hk; omega⟩
    have := costs_le (n := n) (k := k') (l := l) (by simpa using hk) fun o' ho => h o' (List.mem_cons_of_mem _ ho)
    have := h o List.mem_cons_self
    rw [costs, Nat.succ_mul]
    omega
end Bow
/- SP21: where nodes and gaps are behind an operation (shift), in plain Lean. -/
namespace Bow
open Go

def movesO (o : OpT) : Bool := formedB o && (bif decide (o.kind = 1) then true else bif decide (o.kind = 2) then decide (0 < o.path.length) else bif decide (o.kind = 3) then decide (0 < o.path.length) && !within o.path o.to else false)
structure Chg where
  takes : Bool
  puts : Bool
  frm : List Int
  to : List Int
  at_ : Int
  gap : Int
def chgO (o : OpT) : Chg := ⟨!decide (o.kind = 1), !decide (o.kind = 2), bif decide (o.kind = 1) then [] else o.path.dropLast, bif decide (o.kind = 1) then o.path else o.to, bif decide (o.kind = 1) then 0 else lastP o.path, o.at_⟩
def Chg.number (c : Chg) (p : List Int) (k : Int) : Int :=
  (bif c.takes && (decide (c.at_ < k) && decide (p = c.frm)) then k - 1 else k) + (bif c.puts && (decide (c.gap ≤ k) && decide (p = c.to)) then 1 else 0)
def Chg.land (c : Chg) : Int := bif decide (c.at_ < c.gap) && decide (c.frm = c.to) then c.gap - 1 else c.gap
/-- The numbers of a path, each shifted in its parent as it was. -/
def Chg.nums (c : Chg) : List Int → List Int → List Int
  | _, [] => []
  | q, k :: p => c.number q k :: Chg.nums c (q ++ [k]) p
def nodeP (o : OpT) (p : List Int) : Option (List Int) :=
  bif !movesO o then some p
  else bif (chgO o).takes && within o.path p then (bif !(chgO o).puts then none else some ((chgO o).nums [] o.to ++ [(chgO o).land] ++ p.drop o.path.length))
  else some ((chgO o).nums [] p)
def gapP (o : OpT) (p : List Int) (at_ : Int) (first : Bool) : List Int × Int × Bool :=
  match nodeP o p with
  | none => ([], 0, false)
  | some q => bif !movesO o then (q, at_, true)
    else (q, (bif (chgO o).takes && (decide ((chgO o).at_ < at_) && decide (p = (chgO o).frm)) then at_ - 1 else at_) + (bif (chgO o).puts && (decide (p = (chgO o).to) && (decide ((chgO o).gap < at_) || (decide (at_ = (chgO o).gap) && !first))) then 1 else 0), true)
def undoO (o : OpT) : OpT :=
  bif decide (o.kind = 3) && movesO o then { noOp 3 with path := (nodeP o o.path).getD [], to := (nodeP o (chgO o).frm).getD [], at_ := (chgO o).at_ + (bif decide ((chgO o).frm = (chgO o).to) && decide ((chgO o).land < (chgO o).at_) then 1 else 0) } else noOp 0

/-! ### What becomes of an operation behind another one (but for two edits of one leaf) -/
def soundO (o : OpT) : Bool := formedB o && (bif decide (o.kind = 2) then decide (0 < o.path.length) else bif decide (o.kind = 3) then decide (0 < o.path.length) && !within o.path o.to else true)
def dropO (p : List Int) : OpT := { noOp 2 with path := p }
def shiftedO (b a : OpT) (prior : Bool) : OpT :=
  bif decide (b.kind = 1) then { b with at_ := (gapP a b.path b.at_ prior).2.1, path := (nodeP a b.path).getD [] }
  else bif decide (b.kind = 3) then { b with to := (gapP a b.to b.at_ prior).1, at_ := (gapP a b.to b.at_ prior).2.1, path := (nodeP a b.path).getD [] }
  else { b with path := (nodeP a b.path).getD [] }
def wonO (b a : OpT) : Bool := (decide (a.kind = b.kind) && decide (a.path = b.path)) && (decide (b.kind = 3) || (decide (b.kind = 5) || (decide (b.kind = 4) && decide (a.key = b.key))))
def bothEdit (b a : OpT) : Bool := decide (a.kind = 6) && (decide (b.kind = 6) && decide (a.path = b.path))
def rowO (b a : OpT) (prior : Bool) : List OpT :=
  bif decide (a.kind = 2) then
    (bif within a.path b.path then []
     else bif decide (b.kind = 3) && within a.path b.to then [dropO ((nodeP a b.path).getD [])]
     else [shiftedO b a prior])
  else bif wonO b a then (bif prior then [shiftedO b a prior] else [])
  else bif !decide (a.kind = 3) then [shiftedO b a prior]
  else bif decide (b.kind = 2) then
    (bif within b.path a.path && (!decide (b.path = a.path) && !within b.path a.to) then
      [dropO ((nodeP a a.path).getD []), dropO ((nodeP (dropO ((nodeP a a.path).getD [])) ((nodeP a b.path).getD [])).getD [])]
     else [shiftedO b a prior])
  else bif decide (b.kind = 3) && (within b.path a.to && within a.path b.to) then (bif prior then [undoO a, b] else [])
  else [shiftedO b a prior]
def behindO (b a : OpT) (prior : Bool) : List OpT × Int :=
  bif !soundO a || !soundO b then ([], 80)
  else bif (rowO b a prior).all formedB then ((rowO b a prior).map bareO, 0) else ([], 3)
end Bow
/- SP22: edits made normal; two edits behind each other (leaftext), in plain Lean. -/
namespace Bow
open Go

/-! ### A maker of a normal edit -/
structure Mk where
  l : List PieceT
  keep : Int
def Mk.nil : Mk := ⟨[], 0⟩
/-- The last piece, turned. -/
def modL (f : PieceT → PieceT) : List PieceT → List PieceT
  | [] => []
  | [p] => [f p]
  | p :: q :: r => p :: modL f (q :: r)
def Mk.last (m : Mk) : Mk := bif decide (0 < m.keep) || m.l.isEmpty then ⟨m.l ++ [⟨m.keep, 0, []⟩], 0⟩ else m
def Mk.put (s : List UInt8) (m : Mk) : Mk := bif s.isEmpty then m else ⟨modL (fun p => { p with put := p.put ++ s }) m.last.l, m.last.keep⟩
def Mk.drop (n : Int) (m : Mk) : Mk := bif decide (0 < n) then ⟨modL (fun p => { p with drop := p.drop + n }) m.last.l, m.last.keep⟩ else m
def Mk.kept (n : Int) (m : Mk) : Mk := ⟨m.l, m.keep + n⟩
def Mk.piece (m : Mk) (p : PieceT) : Mk := ((m.kept p.keep).put p.put).drop p.drop
def normP (l : List PieceT) : List PieceT := (l.foldl Mk.piece Mk.nil).l

/-! ### What is left of a normal edit -/
def rowHas : List PieceT → Bool
  | [] => false
  | p :: _ => !(decide (0 < p.keep) || p.put.isEmpty)
def rowPut : List PieceT → List UInt8 × List PieceT
  | [] => ([], [])
  | p :: r => bif decide (0 < p.keep) || p.put.isEmpty then ([], p :: r) else (p.put, { p with put := [] } :: r)
def rowRun : List PieceT → (Int × Bool × Bool) × List PieceT
  | [] => ((0, false, false), [])
  | p :: r => bif decide (0 < p.keep) then ((p.keep, false, true), p :: r) else bif decide (0 < p.drop) then ((p.drop, true, true), p :: r) else rowRun r
def rowTake (n : Int) : List PieceT → List PieceT
  | [] => []
  | p :: r => bif decide (0 < p.keep) then { p with keep := p.keep - n } :: r else { p with drop := p.drop - n } :: r
/-- How many bytes two rows go on with alike; whether each drops them; whether there are any; what is left. -/
def bothR (a b : List PieceT) : (Int × Bool × Bool × Bool) × List PieceT × List PieceT :=
  match rowRun a, rowRun b with
  | ((n, x, any), a'), ((m, y, more), b') =>
    bif !any && !more then ((0, false, false, false), a', b')
    else match bif !any then m else bif more then min n m else n with
      | k => ((k, x, y, true), rowTake k a', rowTake k b')

/-! ### Transform -/
structure Tr where
  p : List PieceT
  q : List PieceT
  x : Mk
  y : Mk
def Tr.puts (prior : Bool) (s : Tr) : Tr :=
  match rowPut s.p, rowPut s.q with
  | (a, p), (b, q) => bif prior then ⟨p, q, (s.x.put a).kept b.length, (s.y.kept a.length).put b⟩ else ⟨p, q, (s.x.kept b.length).put a, (s.y.put b).kept a.length⟩
def Tr.does (s : Tr) (n : Int) (x y : Bool) : Tr :=
  bif x then (bif y then s else { s with x := s.x.drop n }) else bif y then { s with y := s.y.drop n } else { s with x := s.x.kept n, y := s.y.kept n }
def Tr.go (prior : Bool) : Nat → Tr → Tr
  | 0, s => s
  | f + 1, s => match s.puts prior with
    | ⟨p, q, x, y⟩ => match bothR p q with
      | ((n, d, g, any), p', q') => bif any then Tr.go prior f (Tr.does ⟨p', q', x, y⟩ n d g) else ⟨p', q', x, y⟩
def extN : List PieceT → Nat
  | [] => 0
  | p :: l => p.keep.toNat + p.drop.toNat + extN l
def transP (a b : List PieceT) (prior : Bool) : List PieceT × List PieceT × Int :=
  bif !rightP a || !rightP b then ([], [], 2)
  else match Tr.go prior (extN (normP a) + extN (normP b) + 1) ⟨normP a, normP b, Mk.nil, Mk.nil⟩ with
    | ⟨_, _, x, y⟩ => bif !rightP x.l || !rightP y.l then ([], [], 3) else (x.l, y.l, 0)

/-! ### Bounds -/
structure PieceT.Nn (p : PieceT) : Prop where
  k : 0 ≤ p.keep
  d : 0 ≤ p.drop
def PieceT.w (p : PieceT) : Int := p.keep + p.drop + p.put.length + 1
def sumW : List PieceT → Int
  | [] => 0
  | p :: l => p.w + sumW l
def Mk.w (m : Mk) : Int := m.keep + sumW m.l
structure Mk.Ok (m : Mk) : Prop where
  k : 0 ≤ m.keep
  l : ∀ p ∈ m.l, p.Nn
theorem Mk.nil_ok : Mk.nil.Ok := ⟨by decide, by simp [Mk.nil]⟩
theorem sumW_append (a b : List PieceT) : sumW (a ++ b) = sumW a + sumW b := by
  induction a with
  | nil => simp [sumW]
  | cons p a ih => simp only [List.cons_append, sumW, ih]; omega
theorem PieceT.Nn.w_pos {p : PieceT} (h : p.Nn) : 1 ≤ p.w := by
  have := h.k
  have := h.d
  unfold PieceT.w
  omega
theorem sumW_len : ∀ {l : List PieceT}, (∀ p ∈ l, p.Nn) → (l.length : Int) ≤ sumW l
  | [], _ => by simp [sumW]
  | p :: l, h => by
    have h1 := (h p List.mem_cons_self).w_pos
    have h2 := sumW_len fun q hq => h q (List.mem_cons_of_mem _ hq)
    simp only [List.length_cons, sumW]
    omega
theorem sumW_mem : ∀ {l : List PieceT}, (∀ p ∈ l, p.Nn) → ∀ p ∈ l, p.w ≤ sumW l
  | [], _, p, hp => by cases hp
  | q :: l, h, p, hp => by
    have h1 := (h q List.mem_cons_self).w_pos
    have h3 := sumW_len fun q hq => h q (List.mem_cons_of_mem _ hq)
    simp only [sumW]
    rcases List.mem_cons.1 hp with rfl | hp
    · omega
    · have h2 := sumW_mem (fun q hq => h q (List.mem_cons_of_mem _ hq)) p hp
      omega
theorem modL_ne {f : PieceT → PieceT} : ∀ {l : List PieceT}, l ≠ [] → modL f l ≠ []
  | [], h => absurd rfl h
  | [p], _ => by simp [modL]
  | p :: q :: r, _ => by simp [modL]
theorem modL_len (f : PieceT → PieceT) : ∀ l : List PieceT, (modL f l).length = l.length
  | [] => rfl
  | [p] => rfl
  | p :: q :: r => by rw [modL, List.length_cons, modL_len f (q :: r)]; rfl
theorem modL_set (f : PieceT → PieceT) : ∀ (l : List PieceT) (h : l.length - 1 < l.length), modL f l = l.set (l.length - 1) (f l[l.length - 1])
  | [], h => by simp at h
  | [p], _ => rfl
  | p :: q :: r, _ => by
    rw [modL, modL_set f (q :: r) (by simp)]
    simp
theorem modL_nn {f : PieceT → PieceT} (hf : ∀ p, p.Nn → (f p).Nn) : ∀ {l : List PieceT}, (∀ p ∈ l, p.Nn) → ∀ p ∈ modL f l, p.Nn
  | [], _, p, hp => by cases hp
  | [q], h, p, hp => by
    rw [modL, List.mem_singleton] at hp
    exact hp ▸ hf q (h q List.mem_cons_self)
  | q :: q' :: r, h, p, hp => by
    rw [modL] at hp
    rcases List.mem_cons.1 hp with rfl | hp
    · exact h _ List.mem_cons_self
    · exact modL_nn hf (fun z hz => h z (List.mem_cons_of_mem _ hz)) p hp
theorem modL_w {f : PieceT → PieceT} {k : Int} (hf : ∀ p : PieceT, (f p).w = p.w + k) : ∀ {l : List PieceT}, l ≠ [] → sumW (modL f l) = sumW l + k
  | [], h => absurd rfl h
  | [p], _ => by simp only [modL, sumW, hf]; omega
  | p :: q :: r, _ => by
    have ih := modL_w hf (l := q :: r) (by simp)
    rw [modL, sumW, ih, sumW]
    simp only [sumW]
    omega

theorem Mk.last_ne (m : Mk) : m.last.l ≠ [] := by
  unfold Mk.last
  cases h : decide (0 < m.keep) || m.l.isEmpty with
  | true => simp
  | false =>
    intro e
    rw [cond_false] at e
    rw [e] at h
    simp at h
theorem Mk.last_ok {m : Mk} (h : m.Ok) : m.last.Ok ∧ m.last.w ≤ m.w + 1 := by
  unfold Mk.last
  cases decide (0 < m.keep) || m.l.isEmpty with
  | true =>
    refine ⟨⟨Int.le_refl 0, fun p hp => ?_⟩, ?_⟩
    · rcases List.mem_append.1 hp with hp | hp
      · exact h.l p hp
      · rw [List.mem_singleton] at hp
        exact hp ▸ ⟨h.k, Int.le_refl _⟩
    · show (0 : Int) + sumW (m.l ++ [_]) ≤ _
      rw [sumW_append]
      simp only [sumW, PieceT.w, Mk.w, List.length_nil]
      omega
  | false => exact ⟨h, by rw [cond_false]; omega⟩
theorem Mk.put_ok {m : Mk} {s : List UInt8} (h : m.Ok) : (m.put s).Ok ∧ (m.put s).w ≤ m.w + s.length + 1 := by
  unfold Mk.put
  cases hs : s.isEmpty with
  | true => exact ⟨h, by rw [cond_true]; omega⟩
  | false =>
    obtain ⟨h1, h2⟩ := Mk.last_ok h
    refine ⟨⟨h1.k, modL_nn (f := fun p => { p with put := p.put ++ s }) (fun p hp => ⟨hp.k, hp.d⟩) h1.l⟩, ?_⟩
    have := modL_w (f := fun p => { p with put := p.put ++ s }) (k := s.length) (fun p => by simp [PieceT.w]; omega) m.last_ne
    unfold Mk.w at h2 ⊢
    simp only [cond_false]
    omega
theorem Mk.drop_ok {m : Mk} {n : Int} (h : m.Ok) (hn : 0 ≤ n) : (m.drop n).Ok ∧ (m.drop n).w ≤ m.w + n + 1 := by
  unfold Mk.drop
  cases hs : decide (0 < n) with
  | false => exact ⟨h, by rw [cond_false]; omega⟩
  | true =>
    obtain ⟨h1, h2⟩ := Mk.last_ok h
    refine ⟨⟨h1.k, modL_nn (f := fun p => { p with drop := p.drop + n }) (fun p hp => ⟨hp.k, by have := hp.d; show 0 ≤ p.drop + n; omega⟩) h1.l⟩, ?_⟩
    have := modL_w (f := fun p => { p with drop := p.drop + n }) (k := n) (fun p => by simp [PieceT.w]; omega) m.last_ne
    unfold Mk.w at h2 ⊢
    simp only [cond_true]
    omega
theorem Mk.kept_ok {m : Mk} {n : Int} (h : m.Ok) (hn : 0 ≤ n) : (m.kept n).Ok ∧ (m.kept n).w = m.w + n := by
  refine ⟨⟨by have := h.k; show 0 ≤ m.keep + n; omega, h.l⟩, ?_⟩
  unfold Mk.w Mk.kept
  simp only
  omega
theorem Mk.piece_ok {m : Mk} {p : PieceT} (h : m.Ok) (hp : p.Nn) : (m.piece p).Ok ∧ (m.piece p).w ≤ m.w + p.w + 1 := by
  obtain ⟨a1, a2⟩ := Mk.kept_ok h hp.k
  obtain ⟨b1, b2⟩ := Mk.put_ok (s := p.put) a1
  obtain ⟨c1, c2⟩ := Mk.drop_ok b1 hp.d
  refine ⟨c1, ?_⟩
  unfold PieceT.w Mk.piece
  omega
theorem foldl_ok : ∀ {l : List PieceT} {m : Mk}, m.Ok → (∀ p ∈ l, p.Nn) → (l.foldl Mk.piece m).Ok ∧ (l.foldl Mk.piece m).w ≤ m.w + 2 * sumW l
  | [], m, h, _ => ⟨h, by simp [sumW]⟩
  | p :: l, m, h, hl => by
    have hp := hl p List.mem_cons_self
    obtain ⟨h1, h2⟩ := Mk.piece_ok h hp
    obtain ⟨k1, k2⟩ := foldl_ok (l := l) h1 fun q hq => hl q (List.mem_cons_of_mem _ hq)
    refine ⟨k1, ?_⟩
    have := hp.w_pos
    simp only [List.foldl_cons, sumW]
    omega
theorem right_nn {l : List PieceT} (h : rightP l = true) : (∀ p ∈ l, p.Nn) ∧ sumW l ≤ 20000000000 := by
  unfold rightP at h
  rw [Bool.and_eq_true, decide_eq_true_eq] at h
  obtain ⟨h1, h2⟩ := h
  have key : ∀ (l : List PieceT) (n : Nat), rightGo n l = true → (∀ p ∈ l, p.Nn) ∧ sumW l ≤ 3200000 * l.length := by
    intro l
    induction l with
    | nil => intro n _; exact ⟨by simp, by simp [sumW]⟩
    | cons p l ih =>
      intro n h
      rw [rightGo] at h
      simp only [Bool.and_eq_true, decide_eq_true_eq] at h
      obtain ⟨⟨⟨⟨⟨q1, q2⟩, q3⟩, q4⟩, q5⟩, q6⟩ := h
      obtain ⟨i1, i2⟩ := ih _ q6
      refine ⟨fun z hz => ?_, ?_⟩
      · rcases List.mem_cons.1 hz with rfl | hz
        · exact ⟨q1, q3⟩
        · exact i1 z hz
      · simp only [sumW, PieceT.w, List.length_cons]
        omega
  obtain ⟨k1, k2⟩ := key l 0 h2
  exact ⟨k1, by omega⟩
theorem norm_nn {l : List PieceT} (h : rightP l = true) : (∀ p ∈ normP l, p.Nn) ∧ sumW (normP l) ≤ 40000000000 := by
  obtain ⟨h1, h2⟩ := right_nn h
  obtain ⟨k1, k2⟩ := foldl_ok (l := l) Mk.nil_ok h1
  have := k1.k
  have e : Mk.nil.w = 0 := rfl
  unfold Mk.w at k2
  unfold Mk.w at e
  exact ⟨k1.l, by unfold normP; omega⟩
end Bow
