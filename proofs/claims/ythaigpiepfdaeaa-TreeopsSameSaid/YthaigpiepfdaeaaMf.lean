/- The library, part 6: AE45, AE46, W76, W77, W78, SP28, W67, SP27, SP31, W70, W71, W72, AE47, W79, W28, W29, W30, W40, AE53, W90, TD1, TD2. -/
import Derived.Test.YthaigpiepfdaeaaMe
import Derived.Test.YthaigpiepfdaeaaMd
import Derived.Test.YthaigpiepfdaeaaRows
import Derived.ChangeShapes
/- AE45: own memory under names: calls that hand back named memory, calls that write over it, calls that only read it; stores into it. -/
namespace Bow
open Go

def Ext (B B' : Base) : Prop := ∀ q o, B q = some o → B' q = some o
/-- What stands in B' and not in B. -/
def newPart (B B' : Base) : Base := fun q => match B q with | some _ => none | none => B' q
def Base.add (B N : Base) : Base := fun q => match B q with | some o => some o | none => N q
theorem Ext.refl (B : Base) : Ext B B := fun _ _ h => h
theorem Ext.trans {A B C : Base} (h : Ext A B) (k : Ext B C) : Ext A C := fun q o e => k q o (h q o e)
theorem Ext.add (B N : Base) : Ext B (B.add N) := fun q o h => by simp [Base.add, h]
theorem add_new {B N : Base} {q : Nat} {o : HObj} (h : N q = some o) (hb : B q = none) : (B.add N) q = some o := by simp [Base.add, h, hb]
theorem newPart_old {B B' : Base} {q : Nat} {o : HObj} (h : newPart B B' q = some o) : B q = none ∧ B' q = some o := by
  unfold newPart at h
  split at h
  · cases h
  · rename_i hb; exact ⟨hb, h⟩
theorem Ext.eq_add {B B' : Base} (h : Ext B B') : B' = B.add (newPart B B') := by
  funext q
  unfold Base.add newPart
  cases hb : B q with
  | none => rfl
  | some o => exact h q o hb

mutual
theorem V.conv_pure (m : List Nat) : ∀ v : V, (v.conv m).pureB = true
  | .osl r _ _ _ | .ptr r _ | .eptr r _ _ _ | .yld r => by
    cases r with
    | loc k =>
      simp only [V.conv, Ref.conv]
      cases m[k]? <;> rfl
    | abs n => rfl
    | bad => rfl
  | .agg cs | .tup cs => by simp only [V.conv, V.pureB]; exact V.convL_pure m cs
  | .fn _ a c => by simp only [V.conv, V.pureB, Bool.and_eq_true]; exact ⟨V.convL_pure m a, V.convL_pure m c⟩
  | .iface _ v => by simp only [V.conv, V.pureB]; exact V.conv_pure m v
  | .int .. | .bool _ | .tt | .ff | .str _ | .sl .. | .nilsl | .iptr .. | .nilp | .nilf | .nili | .nilmap | .undef => rfl
theorem V.convL_pure (m : List Nat) : ∀ vs : List V, V.pureL (V.convL m vs) = true
  | [] => rfl
  | v :: vs => by simp only [V.convL, V.pureL, Bool.and_eq_true]; exact ⟨V.conv_pure m v, V.convL_pure m vs⟩
end

/-! ### Functions that hand back memory of their own, under names -/
@[irreducible] def FunN (P : Program) (g : FuncId) (args : List V) (Q : V → Base → Prop) : Prop :=
  Enterable P g ∧ ∀ (w : World) (β : Nat → Loc) (H : Heap) (B : Base) (vals : Array Value) (cs : List Frame), SRel [] 0 w β H [] ⟨[], [], B, []⟩ bare → args.length = vals.size →
    (∀ (j : Nat) (x : V) (v : Value), args[j]? = some x → vals[j]? = some v → Rep w β H x v) →
    ∃ (x : V) (N : Base) (v : Value) (w' : World) (β' : Nat → Loc) (H' : Heap) (fr : Frame), Q x N ∧ (∀ q o, N q = some o → B q = none) ∧ SRel [] 0 w' β' H' [] ⟨[], [], B.add N, []⟩ bare ∧ Fr w β H w' β' H' ∧ Rep w' β' H' x v ∧ x.pureB = true ∧
      Steps P (lone (Frame.enter P g vals .normal) cs w) (lone fr cs w') ∧ fr.fn = g ∧ fr.leaving P w' (.returned v)

theorem FunN.mono {P : Program} {g : FuncId} {args : List V} {Q Q' : V → Base → Prop} (h : FunN P g args Q) (hq : ∀ x N, Q x N → Q' x N) : FunN P g args Q' := by
  unfold FunN at *
  refine ⟨h.1, fun w β H B vals cs hs hl hr => ?_⟩
  obtain ⟨x, N, v, w', β', H', fr, k, r⟩ := h.2 w β H B vals cs hs hl hr
  exact ⟨x, N, v, w', β', H', fr, hq _ _ k, r⟩

/-- What a body's end has to be, there. -/
def XN (P : Program) (rs : Array ResultVar) (B : Base) (Q : V → Base → Prop) (e : Exit) (s : St) : Prop :=
  (match e with | .normal | .ret => True | _ => False) ∧ s.D = [] ∧ Ext B s.B ∧ resK P [] s.B rs.toList s.E s.T False fun xs => frz (resV xs) s.T False fun x _ => x.pureB = true ∧ ∃ y, Wk x y ∧ y.pureB = true ∧ Q y (newPart B s.B)

theorem funN_of_goes {P : Program} {g : FuncId} {fn : Func} {body : Code} {args : List V} {Q : V → Base → Prop} (n : Nat) (hf : P.funcs[g]? = some fn) (hn : (fn.name == "runtime.NumGoroutine") = false) (hb : fn.body = some body) (hnt : Nat.ble args.length fn.ntmps = true)
    (h : ∀ B : Base, evp { P := P, nt := fn.ntmps, fn := g, ro := none, imps := [], X := XN P fn.results B Q, B := B, D := [] } n [.code body] (env0 0 args) []) : FunN P g args Q := by
  unfold FunN
  refine ⟨⟨fn, hf, hn, by rw [hb]; rfl⟩, fun w β H B vals cs hs hl hr => ?_⟩
  have hnt := Nat.le_of_ble_eq_true hnt
  have gg := evp_sound _ _ _ _ _ (h B)
  unfold Goes at gg
  let b : Frame := { fn := g, tmps := #[], todo := [], defers := [], mode := .run, kind := .normal }
  let a : Act := { tmps := vals ++ Array.replicate (fn.ntmps - vals.size) Go.undef, defers := [] }
  have henter : Frame.enter P g vals .normal = b.atR a [.code body] := by
    simp [Frame.enter, Frame.atR, hf, hb, b, a]
  have hasz : a.tmps.size = fn.ntmps := by simp [a]; omega
  have hrc : ∀ (j : Nat) (x : V) (v : Value), args[j]? = some x → vals[j]? = some v → Rep w β H (x.conv []) v := fun j x v hj hv => by
    rw [conv_of_rep [] x (hr j x v hj hv)]
    exact hr j x v hj hv
  have hget : ∀ k, Rep w β H ((lk (env0 0 args) k).conv []) (a.tmps.getD k Go.undef) := by
    intro k
    rw [lk_env0]
    simp only [Nat.zero_le, if_true, Nat.sub_zero]
    cases hk : args[k]? with
    | none => exact .undef _
    | some x =>
      have hkl := lt_of_get hk
      have hkv : k < vals.size := by omega
      have e : a.tmps.getD k Go.undef = vals[k] := by
        simp only [a, Array.getD_eq_getD_getElem?]
        rw [Array.getElem?_append_left hkv]
        simp [hkv]
      rw [e]
      exact hrc k x vals[k] hk (Array.getElem?_eq_getElem hkv)
  have hs0 : SRel [] fn.ntmps w β H [] ⟨env0 0 args, [], B, []⟩ a := by
    refine ⟨hs.hrel, hasz, hget, hs.mlen, hs.nodup, hs.loc, hs.imp, hs.base, hs.fut, hs.own, fun p hp => ?_, hs.scT, rfl, by simp⟩
    obtain ⟨k, hk, hx⟩ := List.mem_iff_getElem.1 (env0_mem 0 args p hp)
    have hkv : k < vals.size := by omega
    exact sc_of_rep (m := []) p.2 (hrc k p.2 vals[k] (by rw [List.getElem?_eq_getElem hk, hx]) (Array.getElem?_eq_getElem hkv))
  obtain ⟨e, s', w', β', H', m', a', hX, hs', hfr, hend⟩ := gg w β H [] a b cs hs0 rfl rfl rfl
  obtain ⟨E', T1, B', D'⟩ := s'
  obtain ⟨he, hD, hB, hres⟩ := hX
  simp only at hD hB hres
  subst hD
  rcases resK_sound (c := { P := P, nt := fn.ntmps, fn := g, ro := none, imps := [], X := fun _ _ => True, B := B', D := [] }) _ _ _ _ hres with h | ⟨xs, hq, hx⟩
  · exact h.elim
  obtain ⟨vs, h1, h2, h3⟩ := hx w' β' H' m' a' hs'
  have hrun := run_results h1
  have hrep : Rep w' β' H' ((resV xs).conv m') (if h : vs.toArray.size = 1 then vs.toArray[0] else .tuple vs.toArray) := by
    by_cases h1 : vs.length = 1
    · rw [dif_pos (by simpa using h1)]
      match xs, h2, h3 with
      | [x], _, h3 => exact h3 0 x _ rfl (by simp [h1])
      | [], h2, _ => simp at h2; omega
      | _ :: _ :: _, h2, _ => simp at h2; omega
    · rw [dif_neg (by simpa using h1)]
      have e : resV xs = .tup xs := by
        match xs, h2 with
        | [x], h2 => simp at h2; omega
        | [], _ => rfl
        | _ :: _ :: _, _ => rfl
      rw [e]
      simp only [V.conv, V.convL_eq]
      refine .tup _ _ (by simp [h2]) fun j c v hj hv => ?_
      simp only [List.getElem?_map, Option.map_eq_some_iff] at hj
      obtain ⟨x, hj, rfl⟩ := hj
      exact h3 j x v hj (by simpa using hv)
  -- what is handed back is frozen; the rest is let go
  rcases frz_sound hq with hq | ⟨x', T2, hq, hfz⟩
  · exact hq.elim
  obtain ⟨H1, g1, g2, g3⟩ := hfz.2 _ _ _ _ _ _ _ _ _ _ hs'.bare
  obtain ⟨m2, H2, e1, e2, e3⟩ := SRel.dropTo (T := []) T2 g1 (by simp) (by simp) (by simp) (by simp)
  have hm2 : m2 = [] := List.length_eq_zero_iff.1 e1.mlen
  subst hm2
  have hrep' := (g3 0 _ x' _ rfl rfl hrep).mono e2
  obtain ⟨hp0, y, hw, hyp, hq⟩ := hq
  have hrep' := hw _ _ _ _ hrep'
  rw [hB.eq_add] at e1
  have hdef : a'.defers = [] := List.length_eq_zero_iff.1 hs'.defs
  cases e with
  | normal =>
    refine ⟨y, newPart B B', _, w', β', H2, { b.atR a' [] with mode := .returning }, hq, fun q o h => (newPart_old h).1, e1, (hfr.trans g2).trans e2, hrep', hyp, ?_, rfl, ?_⟩
    · rw [henter]
      exact Steps.trans hend (.one (stepR_end rfl))
    · exact ⟨rfl, hdef, rfl, fn, hf, hrun⟩
  | ret =>
    obtain ⟨k, hend⟩ := hend
    refine ⟨y, newPart B B', _, w', β', H2, { b.atR a' (.code .ret :: k) with mode := .returning }, hq, fun q o h => (newPart_old h).1, e1, (hfr.trans g2).trans e2, hrep', hyp, ?_, rfl, ?_⟩
    · rw [henter]
      exact Steps.trans hend (.one (stepR_ret rfl))
    · exact ⟨rfl, hdef, rfl, fn, hf, hrun⟩
  | exit id => exact he.elim
  | goto l => exact he.elim
  | panic ch => exact he.elim
  | outgrown => exact he.elim

section
variable {w w' : World} {β β' : Nat → Loc} {H H' : Heap}
/-- What a function with nothing of its own sees of a world. -/
theorem seen {imps : List Nat} {nt : Nat} {m : List Nat} {s : St} {a : Act} (hs : SRel imps nt w β H m s a) : SRel [] 0 w β H [] ⟨[], [], fun r => (H[r]?).getD none, []⟩ bare := by
  refine ⟨hs.hrel, rfl, fun k => by simp [lk, V.conv]; exact .undef _, rfl, List.nodup_nil, by simp, rfl, fun r h _ => ?_, fun r h1 => ?_, by simp, by simp, by simp, rfl, by simp⟩
  · simp [h]
  · simp [List.getElem?_eq_none h1]
end

/-- Out of a function whose objects all are there when it ends. -/
theorem funN_of_fun {P : Program} {g : FuncId} {args : List V} {Q : V → Heap → Prop} (h : Fun P g [] args Q) (ha : V.pureL args = true) (hl : ∀ x T', Q x T' → allLive T' = true) :
    FunN P g args fun x N => ∃ x' T' m', Q x' T' ∧ x = x'.conv m' ∧ m'.length = T'.length ∧ m'.Nodup ∧ ∀ (k q : Nat) (o : HObj), m'[k]? = some q → T'[k]? = some (some o) → N q = some (o.conv m') := by
  unfold Fun at h
  unfold FunN
  refine ⟨h.1, fun w β H B vals cs hs hlen hr => ?_⟩
  obtain ⟨x, T', v, w', β', H', m', fr, hq, k1, k2, k3, k4, k5, k6⟩ := h.2 w β H [] B vals cs hs hlen (fun j x v hj hv => by
    rw [pure_conv _ _ (pureL_mem _ ha x (List.mem_of_getElem? hj))]
    exact hr j x v hj hv)
  have hlive := hl x T' hq
  have hml : m'.length = T'.length := k1.mlen
  have hobj : ∀ (k q : Nat), m'[k]? = some q → ∃ o, T'[k]? = some (some o) ∧ H'[q]? = some (some (o.conv m')) := fun k q hk => by
    have hkT : k < T'.length := by have := lt_of_get hk; omega
    have e := List.getElem?_eq_getElem hkT
    obtain ⟨o, ho⟩ := allLive_get hlive k _ e
    rw [ho] at e
    exact ⟨o, e, k1.loc k q _ hk e⟩
  obtain ⟨N, hN⟩ : ∃ N : Base, N = fun q => if q ∈ m' then (H'[q]?).getD none else none := ⟨_, rfl⟩
  have hNm : ∀ (k q : Nat) (o : HObj), m'[k]? = some q → T'[k]? = some (some o) → N q = some (o.conv m') := fun k q o hk ho => by
    obtain ⟨o', e1, e2⟩ := hobj k q hk
    rw [ho] at e1
    injection e1 with e1
    injection e1 with e1
    subst e1
    rw [hN]
    simp [List.mem_of_getElem? hk, e2]
  have hNB : ∀ q o, N q = some o → q ∈ m' ∧ B q = none := fun q o h => by
    rw [hN] at h
    by_cases hm : q ∈ m'
    · obtain ⟨k, hk⟩ := List.getElem?_of_mem hm
      exact ⟨hm, k1.own k q (Nat.zero_le _) hk⟩
    · simp [hm] at h
  refine ⟨_, N, v, w', β', H', fr, ⟨x, T', m', hq, rfl, hml, k1.nodup, hNm⟩, fun q o h => (hNB q o h).2, ?_, k2, k3, V.conv_pure m' x, k4, k5, k6⟩
  refine ⟨k1.hrel, rfl, fun k => by simp [lk, V.conv]; exact .undef _, rfl, List.nodup_nil, by simp, rfl, fun r hr _ => ?_, fun r hr => ?_, by simp, by simp, by simp, rfl, by simp⟩
  · show H'[r]? = some ((B.add N) r)
    by_cases hm : r ∈ m'
    · obtain ⟨k, hk⟩ := List.getElem?_of_mem hm
      obtain ⟨o, e1, e2⟩ := hobj k r hk
      rw [e2, add_new (hNm k r o hk e1) (k1.own k r (Nat.zero_le _) hk)]
    · have h1 := k1.base r hr hm
      simp only at h1
      rw [h1]
      unfold Base.add
      cases hb : B r with
      | some o => rfl
      | none =>
        have : N r = none := by rw [hN]; simp [hm]
        rw [this]
  · show (B.add N) r = none
    have h1 : B r = none := k1.fut r hr
    unfold Base.add
    rw [h1]
    cases hn : N r with
    | none => rfl
    | some o =>
      obtain ⟨k, hk⟩ := List.getElem?_of_mem (hNB r o hn).1
      have := k1.lt hk
      omega

/-- A call of one. -/
theorem call_funN {c : Cx} {g : FuncId} {args : List V} {E : Env} {T : Heap} {K : V → St → Prop} {Q : V → Base → Prop} (hf : FunN c.P g args Q) (ha : V.pureL args = true)
    (h : ∀ x N, Q x N → x.pureB = true → (∀ q o, N q = some o → c.B q = none) → K x ⟨E, T, c.B.add N, c.D⟩) : CallThen c g args E T K := by
  unfold FunN at hf
  obtain ⟨hen, hf⟩ := hf
  unfold CallThen
  refine ⟨hen, fun w β H m a vals cs hs hl hr => ?_⟩
  obtain ⟨x, N, v, w', β', H', fr, hq, hN, k1, k2, k3, hp, k4, k5, k6⟩ := hf w β H _ vals cs (seen hs) hl (fun j x v hj hv => by
    have h1 := hr j x v hj hv
    rwa [pure_conv _ _ (pureL_mem _ ha x (List.mem_of_getElem? hj))] at h1)
  have hlen : H.length ≤ H'.length := k2.len
  have hH' : ∀ q, q < H'.length → H'[q]? = some (Base.add (fun r => (H[r]?).getD none) N q) := fun q hq => k1.base q hq (by simp)
  have hnew : ∀ q o, N q = some o → H.length ≤ q ∧ q < H'.length := fun q o h1 => by
    have h2 : (Base.add (fun r => (H[r]?).getD none) N) q = some o := add_new h1 (hN q o h1)
    have h3 : q < H'.length := by
      rcases Nat.lt_or_ge q H'.length with h3 | h3
      · exact h3
      · have h4 : (Base.add (fun r => (H[r]?).getD none) N) q = none := k1.fut q h3
        rw [h2] at h4
        cases h4
    refine ⟨?_, h3⟩
    rcases Nat.lt_or_ge q H.length with h4 | h4
    · exfalso
      have h5 := hH' q h3
      rw [h2] at h5
      obtain ⟨o1, ho1, _⟩ := k2.evo q o h4 h5
      have := hN q o h1
      simp only [ho1] at this
      cases this
    · exact h4
  have hcB : ∀ q o, N q = some o → c.B q = none := fun q o h1 => hs.fut q (hnew q o h1).1
  have hNold : ∀ q, q < H.length → N q = none := fun q h1 => by
    cases hn : N q with
    | none => rfl
    | some o => have := (hnew q o hn).1; omega
  have hold : ∀ q, q < H.length → H'[q]? = H[q]? := fun q h1 => by
    rw [hH' q (Nat.lt_of_lt_of_le h1 hlen)]
    unfold Base.add
    simp only [hNold q h1, List.getElem?_eq_getElem h1, Option.getD_some]
    cases H[q] <;> rfl
  have hadd : ∀ q, q < H.length → (c.B.add N) q = c.B q := fun q h1 => by
    unfold Base.add
    rw [hNold q h1]
    cases c.B q <;> rfl
  refine ⟨x, _, v, w', β', H', m, fr, h x N hq hp hcB, ?_, k2, by rw [pure_conv _ _ hp]; exact k3, k4, k5, k6, List.prefix_refl _⟩
  refine ⟨k1.hrel, hs.size, fun k => (hs.env k).mono k2, hs.mlen, hs.nodup, fun k r o hk ho => ?_, hs.imp, fun r hr hm => ?_, fun r hr => ?_, fun k r hk hr => ?_, hs.scE, hs.scT, hs.defs, fun j k hj => ?_⟩
  · rw [hold r (hs.lt hk)]
    exact hs.loc k r o hk ho
  · simp only
    rcases Nat.lt_or_ge r H.length with h1 | h1
    · rw [hold r h1, hadd r h1]
      exact hs.base r h1 hm
    · have h2 : c.B r = none := hs.fut r h1
      rw [hH' r hr]
      unfold Base.add
      simp only [List.getElem?_eq_none h1, h2, Option.getD_none]
  · have h1 : c.B r = none := hs.fut r (Nat.le_trans hlen hr)
    have h2 : (Base.add (fun r => (H[r]?).getD none) N) r = none := k1.fut r hr
    unfold Base.add at h2
    simp only [List.getElem?_eq_none (Nat.le_trans hlen hr), Option.getD_none] at h2
    simp only [Base.add, h1, h2]
  · simp only
    rw [hadd r (hs.lt hr)]
    exact hs.own k r hk hr
  · obtain ⟨r, b, M, h1, h2, h3, h4⟩ := hs.marks j k hj
    have hH0 := hs.loc k r _ h1 h2
    exact ⟨r, b, M, h1, h2, dfr_stays k2 (by simpa [HObj.conv] using hH0) h3 (by rw [hold r (hs.lt h1), hH0]; rfl), h4⟩

/-! ### Named memory, read by functions that leave nothing behind -/
inductive Fz (B : Base) : V → V → Prop
  | wk {x y : V} (h : Wk x y) : Fz B x y
  | row (r g sz : Nat) (xs : List V) (h : B r = some (.vec g sz xs)) : Fz B (.osl (.abs r) g 0 xs.length) (.sl sz xs)
  | agg (cs ds : List V) (hl : cs.length = ds.length) (h : ∀ (j : Nat) (c d : V), cs[j]? = some c → ds[j]? = some d → Fz B c d) : Fz B (.agg cs) (.agg ds)
  | sl (sz : Nat) (xs ys : List V) (hl : xs.length = ys.length) (hy : ∀ y ∈ ys, okE sz y) (h : ∀ (i : Nat) (x y : V) (j : Nat) (c d : V), xs[i]? = some x → ys[i]? = some y → x.cells[j]? = some c → y.cells[j]? = some d → Fz B c d) : Fz B (.sl sz xs) (.sl sz ys)

theorem Fr0.killAll {w : World} {β : Nat → Loc} {H : Heap} : Fr0 w β H w β (H.map fun _ => none) := by
  have hnone : ∀ r o, (H.map fun _ => (none : Option HObj))[r]? ≠ some (some o) := fun r o h => by rw [List.getElem?_map] at h; cases hh : H[r]? <;> rw [hh] at h <;> cases h
  have hno : ∀ b, ¬ ownB β (H.map fun _ => none) b := fun b ⟨r, N, ⟨o, h, _⟩, _⟩ => hnone r o h
  exact ⟨rfl, rfl, rfl, Nat.le_refl _, by simp, fun r o' _ ho => absurd ho (hnone r o'), fun _ _ _ => rfl, fun b hb => absurd hb (hno b), fun _ _ => rfl, fun r s h => absurd h (hnone r _)⟩
theorem killAll_no {β : Nat → Loc} {H : Heap} (b : Nat) {sz : Nat} : freeB β (H.map fun _ => none) b sz := free_none (fun r o h => by
  rw [List.getElem?_map] at h
  cases hh : H[r]? <;> rw [hh] at h <;> cases h) b sz

theorem Fz.rep {B : Base} {w : World} {β : Nat → Loc} {H : Heap} (hrel : HRel w β H) (hB : ∀ q o, B q = some o → H[q]? = some (some o)) {x y : V} (h : Fz B x y) : ∀ {v : Value}, Rep w β H x v → Rep w β (H.map fun _ => none) y v := by
  induction h with
  | wk h => exact fun {v} hv => (h w β H v hv).mono0 Fr0.killAll
  | row r g sz xs h =>
    intro v hv
    have hH := hB r _ h
    have hob := hrel.obj r _ hH
    have hvec : ∀ sz2 xs2, H[r]? = some (some (.vec g sz2 xs2)) → sz2 = sz ∧ xs2 = xs := fun sz2 xs2 h2 => by
      rw [hH] at h2
      injection h2 with h2
      injection h2 with h2
      injection h2 with _ e1 e2
      exact ⟨e1.symm, e2.symm⟩
    generalize hn : xs.length = n at hv
    cases hv with
    | oslNil _ _ sz2 xs2 ad hH' hβ =>
      rw [hβ] at hob
      have : xs = [] := hob
      subst this
      exact .sl sz [] ad 0 (fun _ => Go.undef) (Nat.le_refl _) (Nat.zero_le _) (by simp) (fun hne => absurd rfl hne) (fun i x j c hi => by simp at hi)
    | oslBlk _ _ _ _ sz2 xs2 b N ad cap hH' hβ hl hN hcap ha hlen =>
      obtain ⟨rfl, rfl⟩ := hvec _ _ hH'
      rw [hβ] at hob
      obtain ⟨vs, e, _, h1, h2, h3, h4, h5, h6⟩ := hob
      subst hn
      refine .sl sz2 xs2 ad cap (fun j => vs.getD j Go.undef) hl (by omega) h5 (fun hne => ?_) (fun i x j c hi hj => ?_)
      · have h0 : 0 < xs2.length := List.length_pos_iff.2 hne
        have := ha (by omega)
        subst this
        refine ⟨_, rfl, killAll_no _, (Array.getElem?_eq_some_iff.1 h1).1, fun j hj => ?_⟩
        have hjv : j < vs.size := by omega
        rw [Nat.zero_mul, at_add, cell_of_row w b j vs e (0, 0) h1]
        simp [hjv]
      · have hlt : i * sz2 + j < vs.size := by
          have e1 := lt_of_get hi
          have e2 := lt_of_get hj
          have e3 := (h5 x (List.mem_of_getElem? hi)).1
          have : (i + 1) * sz2 ≤ xs2.length * sz2 := Nat.mul_le_mul_right _ e1
          rw [Nat.add_mul] at this
          omega
        exact (h6 i x j c (vs.getD (i * sz2 + j) Go.undef) hi hj (by simp [hlt])).mono0 Fr0.killAll
    | oslStale _ _ _ _ g' sz' xs' _ hH' hg =>
      rw [hH] at hH'
      injection hH' with hH'
      injection hH' with hH'
      injection hH' with e0 _ _
      omega
    | oslDead _ _ _ _ _ hd => rw [hH] at hd; cases hd
  | agg cs ds hl h ih =>
    intro v hv
    cases hv with
    | agg _ vs hl' h' =>
      refine .agg ds vs (hl.symm.trans hl') fun j d u hj hu => ?_
      have hjc : j < cs.length := by have := lt_of_get hj; omega
      exact ih j _ d (List.getElem?_eq_getElem hjc) hj (h' j _ u (List.getElem?_eq_getElem hjc) hu)
  | sl sz xs ys hl hy h ih =>
    intro v hv
    generalize hn : xs.length = n at hl
    generalize hq : V.sl sz xs = q at hv
    cases hv with
    | sl sz' xs' a cap vals hcap hmax hsz ha hr =>
      injection hq with e1 e2
      subst e1 e2
      rw [hn, hl]
      refine .sl sz ys a cap vals (by omega) hmax hy (fun hne => ?_) (fun i y j d hi hj => ?_)
      · obtain ⟨ad, k1, _, k3, k4⟩ := ha (fun e => hne (by rw [e] at hn; exact List.length_eq_zero_iff.1 (by simp at hn; omega)))
        exact ⟨ad, k1, killAll_no _, k3, fun j hj => k4 j (by rw [hn, hl]; exact hj)⟩
      · have hix : i < xs.length := by have := lt_of_get hi; omega
        have hx := List.getElem?_eq_getElem hix
        have hc1 := (hsz _ (List.mem_of_getElem? hx)).1
        have hc2 := (hy _ (List.mem_of_getElem? hi)).1
        have hjx : j < (xs[i]).cells.length := by have := lt_of_get hj; omega
        exact ih i _ y j _ d hx hi (List.getElem?_eq_getElem hjx) hj (hr i _ j _ hx (List.getElem?_eq_getElem hjx))
    | _ => cases hq

/-- .. all at once. -/
def FzL (B : Base) : List V → List V → Prop
  | [], [] => True
  | x :: xs, y :: ys => Fz B x y ∧ FzL B xs ys
  | _, _ => False
theorem FzL.get {B : Base} : ∀ {xs ys : List V}, FzL B xs ys → xs.length = ys.length ∧ ∀ (j : Nat) (y : V), ys[j]? = some y → ∃ x, xs[j]? = some x ∧ Fz B x y
  | [], [], _ => ⟨rfl, fun j y h => by simp at h⟩
  | x :: xs, y :: ys, h => by
    obtain ⟨h1, h2⟩ := FzL.get h.2
    refine ⟨by simp [h1], fun j z hz => ?_⟩
    cases j with
    | zero => simp at hz; subst hz; exact ⟨x, rfl, h.1⟩
    | succ j => simpa using h2 j z (by simpa using hz)
  | [], _ :: _, h => h.elim
  | _ :: _, [], h => h.elim

/-- A call that is handed named memory, and hands back a number, a truth value or a text. -/
theorem call_flatN {c : Cx} {g : FuncId} {args args' : List V} {E : Env} {T : Heap} {K : V → St → Prop} {x : V} (hf : Pure c.P g args' (fun y => y = x)) (hz : FzL c.B args args') (hi : c.imps = []) (ha : V.pureL args = true) (ha' : V.pureL args' = true) (hx : flatB x = true) (h : K x ⟨E, T, c.B, c.D⟩) : CallThen c g args E T K := by
  have hen : Enterable c.P g := by
    unfold Pure Fun at hf
    exact hf.1
  unfold CallThen
  refine ⟨hen, fun w β H m a vals cs hs hl hr => ?_⟩
  obtain ⟨hzl, hzg⟩ := hz.get
  obtain ⟨y, v, w', β', H', fr, rfl, hp, g3, hb, g4, g5, g6⟩ := pure_still (β := β) (H := H.map fun _ => none) hf ha' cs (hzl.symm.trans hl) (fun j y v hj hv => by
    obtain ⟨x0, h1, h2⟩ := hzg j y hj
    have h3 := hr j x0 v h1 hv
    rw [pure_conv _ _ (pureL_mem _ ha x0 (List.mem_of_getElem? h1))] at h3
    exact h2.rep hs.hrel (fun q o hq => hs.baseAt (by rw [hi]; simp) hq) h3)
  have g2' : Fr w β H w' β H := Fr.of_below hb
  exact ⟨y, _, v, w', β, H, m, fr, h, hs.same g2' (hs.hrel.of_below hb), g2', by rw [pure_conv _ _ hp]; exact g3.flat hx, g4, g5, g6, List.prefix_refl _⟩

/-! ### Functions that write over named memory -/
/-- The same rows, of the same shapes. -/
def ShpEq (B B' : Base) : Prop := ∀ r g sz xs, B r = some (.vec g sz xs) → ∃ xs' : List V, B' r = some (.vec g sz xs') ∧ xs'.length = xs.length
theorem ShpEq.refl (B : Base) : ShpEq B B := fun r g sz xs h => ⟨xs, h, rfl⟩
theorem ShpEq.trans {A B C : Base} (h : ShpEq A B) (k : ShpEq B C) : ShpEq A C := fun r g sz xs e => by
  obtain ⟨xs', h1, h2⟩ := h r g sz xs e
  obtain ⟨xs'', k1, k2⟩ := k r g sz xs' h1
  exact ⟨xs'', k1, k2.trans h2⟩
/-! ### Stores into named memory -/
section
variable {c : Cx} {E : Env} {T : Heap} {ops : Array Oper} {i : Nat} {rest : List Nat} {k : List Item} {o : Oper}

theorem goes_fieldA {t : TypeId} {x : Operand} {f r g ix off sz : Nat} {xs : List V} {fs : Array Field} {fd : Field} {ti : TypeInfo} (n : Nat) (ho : lget ops.toList i = some o) (hg : o.guard = none) (hop : o.op = .fieldAddr t x f) (hx : opd E x = .eptr (.abs r) g ix off)
    (ht : tyU c.P t = some (.struct fs)) (hfd : lget fs.toList f = some fd) (hti : tyI c.P fd.type = some ti) (hsz : Nat.ble 1 ti.size = true) (hi : r ∉ c.imps) (hB : c.B r = some (.vec g sz xs))
    (h : putE c.nt o.dst (.eptr (.abs r) g ix (off + fd.offset)) E False fun E' => evp c n (.inRegion ops rest :: k) E' T) : Goes c (.inRegion ops (i :: rest) :: k) E T := by
  refine goes_opTo n ho hg hop (OpTo.still fun o hop w β H m a hs => ?_) (fun cl h => by cases h) h
  have hp := opd_rep hs x
  have hH : H[r]? = some (some (.vec g sz xs)) := hs.baseAt hi hB
  rw [lget_eq] at hfd
  have hf : fs[f]? = some fd := by simpa using hfd
  simp only [hx, V.conv, Ref.conv] at hp
  generalize hq : a.eval x = q at hp
  cases hp with
  | eptrLive _ _ _ _ sz' xs' b N hH' hβ hi =>
    refine ⟨.pointer (some ((⟨b, ix * sz' + off, none⟩ : Addr).add fd.offset)), by simp [execOp, hop, hq, run_fieldAt (tyU_sound ht) hf (tyI_sound hti) (Nat.le_of_ble_eq_true hsz)], ?_⟩
    rw [add_none, Nat.add_assoc]
    exact .eptrLive r g ix _ sz' xs' b N hH' hβ hi
  | eptrStale _ _ _ _ g' sz' xs' _ hH' hg =>
    rw [hH] at hH'
    injection hH' with hH'
    injection hH' with hH'
    injection hH' with e0 _ _
    omega
  | eptrDead _ _ _ _ _ hd => rw [hH] at hd; cases hd

theorem over_has {α : Type} (xs cs : List α) (n : Nat) (h : n + cs.length ≤ xs.length) : ∃ ys, over xs n cs ys := by
  refine ⟨xs.take n ++ cs ++ xs.drop (n + cs.length), h, by simp; omega, fun j => ?_⟩
  rcases Nat.lt_or_ge j n with h1 | h1
  · rw [if_neg (by omega), List.append_assoc, List.getElem?_append_left (by simp; omega), List.getElem?_take, if_pos h1]
  · rcases Nat.lt_or_ge j (n + cs.length) with h2 | h2
    · rw [if_pos ⟨h1, h2⟩, List.getElem?_append_left (by simp; omega), List.getElem?_append_right (by simp; omega)]
      have : min n xs.length = n := by omega
      simp [this]
    · rw [if_neg (by omega), List.getElem?_append_right (by simp; omega)]
      have e1 : min n xs.length = n := by omega
      simp only [List.length_append, List.length_take, e1, List.getElem?_drop]
      rw [Nat.add_sub_cancel' h2]

theorem goes_storeA {t : TypeId} {x y : Operand} {r g ix off sz : Nat} {xs : List V} {ti : TypeInfo} (n : Nat) (ho : lget ops.toList i = some o) (hg : o.guard = none) (hop : o.op = .store t x y) (hx : opd E x = .eptr (.abs r) g ix off)
    (hb : (Nat.beq (lcount (opd E y).cells 0) ti.size && onesB (opd E y).cells && V.pureL (opd E y).cells) = true) (ht : tyI c.P t = some ti) (hi : r ∉ c.imps) (hB : c.B r = some (.vec g sz xs)) (hl : ix < xs.length) (hoff : off + ti.size ≤ sz)
    (h : ∀ B' xs', xs'.length = xs.length → B' r = some (.vec g sz xs') → (∀ q, q ≠ r → B' q = c.B q) → putE c.nt o.dst (.tup []) E False fun E' => evp { c with B := B' } n (.inRegion ops rest :: k) E' T) :
    Goes c (.inRegion ops (i :: rest) :: k) E T := by
  rw [lget_eq, Array.getElem?_toList] at ho
  rw [lcount_eq] at hb
  simp only [Bool.and_eq_true, Nat.add_zero] at hb
  have hsz := Nat.eq_of_beq_eq_true hb.1.1
  refine goes_step fun w β H m a fb cs hs _ _ _ => ?_
  have hp := opd_rep hs x
  have hH : H[r]? = some (some (.vec g sz xs)) := hs.baseAt hi hB
  have hrm : r ∉ m := hs.notIn hB hi
  simp only [hx, V.conv, Ref.conv] at hp
  have hob := hs.hrel.obj r _ hH
  generalize hv : a.eval x = q at hp
  cases hp with
  | eptrStale _ _ _ _ g' sz' xs' _ hH' hg =>
    rw [hH] at hH'
    injection hH' with hH'
    injection hH' with hH'
    injection hH' with e0 _ _
    omega
  | eptrDead _ _ _ _ _ hd => rw [hH] at hd; cases hd
  | eptrLive _ _ _ _ sz' xs' b N hH' hβ hi' =>
  rw [hH] at hH'
  injection hH' with hH'
  injection hH' with hH'
  injection hH' with _ e1 e2
  subst e1 e2
  obtain ⟨x0, hx0⟩ : ∃ x0, xs[ix]? = some x0 := ⟨_, List.getElem?_eq_getElem hl⟩
  rw [hβ] at hob
  obtain ⟨vs, e, hty, hbk, hN, hle, hpos, hok, hc⟩ := hob
  have hy : Rep w β H ((opd E y).conv m) (a.eval y) := opd_rep hs y
  obtain ⟨hyl, hyc, hy1⟩ := rep_cells hy (by rw [cells_conv, onesB_conv]; exact hb.1.2)
  rw [cells_conv, pureL_conv _ _ hb.2] at hyl hyc
  obtain ⟨hx0l, hx0o⟩ := hok x0 (List.mem_of_getElem? hx0)
  obtain ⟨cs', ho'⟩ := over_has x0.cells (opd E y).cells off (by omega)
  have hixl := hl
  have hrow : ix * sz + sz ≤ vs.size := by
    have : (ix + 1) * sz ≤ xs.length * sz := Nat.mul_le_mul_right _ hixl
    rw [Nat.add_mul] at this
    omega
  have hofit : off + (opd E y).cells.length ≤ x0.cells.length := ho'.1
  have hfit : ix * sz + off + (a.eval y).cells.size ≤ vs.size := by omega
  have hrun := run_storeCells_at c.P b (ix * sz + off) e (a.eval y).cells.toList 0 vs w hbk (by simpa using hfit) hy1
  have hI := tyI_sound ht
  obtain ⟨vs', hvs'⟩ : ∃ vs', vs' = (vs.toList.take (ix * sz + off + 0) ++ (a.eval y).cells.toList ++ vs.toList.drop (ix * sz + off + 0 + (a.eval y).cells.toList.length)).toArray := ⟨_, rfl⟩
  rw [← hvs'] at hrun
  have hheap : (w.setRow b vs').heap[b]? = some (.cells vs' e (0, 0)) := setRow_heap w b vs _ e _ hbk
  have hother : ∀ q, q ≠ b → (w.setRow b vs').heap[q]? = w.heap[q]? := fun q hq => setRow_other w b q _ hq
  have hvsz : vs'.size = vs.size := by rw [hvs']; simp; omega
  have hget : ∀ j, vs'[j]? = if ix * sz + off ≤ j ∧ j < ix * sz + off + (a.eval y).cells.size then (a.eval y).cells[j - (ix * sz + off)]? else vs[j]? := by
    intro j
    rw [hvs']
    simp only [Nat.add_zero, Array.length_toList, List.getElem?_toArray]
    rcases Nat.lt_or_ge j (ix * sz + off) with h1 | h1
    · rw [if_neg (by omega), List.getElem?_append_left (by simp; omega), List.getElem?_append_left (by simp; omega), List.getElem?_take, if_pos h1]
      simp
    · rcases Nat.lt_or_ge j (ix * sz + off + (a.eval y).cells.size) with h2 | h2
      · rw [if_pos ⟨h1, h2⟩, List.getElem?_append_left (by simp; omega), List.getElem?_append_right (by simp; omega)]
        have : min (ix * sz + off) vs.size = ix * sz + off := by omega
        simp [this]
      · rw [if_neg (by omega), List.getElem?_append_right (by simp; omega)]
        have e1 : min (ix * sz + off) vs.size = ix * sz + off := by omega
        simp only [List.length_append, List.length_take, Array.length_toList, e1, List.getElem?_drop]
        rw [Nat.add_sub_cancel' h2]
        simp
  have hones : onesB cs' = true := by
    rw [onesB_iff]
    intro z hz
    obtain ⟨j, hj, rfl⟩ := List.mem_iff_getElem.1 hz
    have := ho'.2.2 j
    rw [List.getElem?_eq_getElem hj] at this
    split at this
    · exact (onesB_iff _).1 hb.1.2 _ (List.mem_of_getElem? this.symm)
    · exact (onesB_iff _).1 hx0o _ (List.mem_of_getElem? this.symm)
  have hcs' : cs'.length = sz := ho'.2.1.trans hx0l
  have hmk : (mkE x0 cs').cells = cs' := mkE_cells x0 cs' hones
  obtain ⟨xs', hxs'⟩ : ∃ xs', xs' = xs.set ix (mkE x0 cs') := ⟨_, rfl⟩
  have hxl : xs'.length = xs.length := by rw [hxs']; simp
  have hfr : Fr w β H (w.setRow b vs') β (H.set r (some (.vec g sz xs'))) := Fr.turn hH hβ ⟨Nat.le_refl _, fun _ => ⟨rfl, hxl.symm⟩⟩ rfl rfl rfl (by simp [World.setRow]) hother
  have hok' : ∀ x ∈ xs', okE sz x := fun x hx => by
    rw [hxs'] at hx
    rcases List.mem_or_eq_of_mem_set hx with h1 | h1
    · exact hok x h1
    · subst h1
      exact ⟨by rw [hmk]; exact hcs', by rw [hmk]; exact hones⟩
  have hrel : HRel (w.setRow b vs') β (H.set r (some (.vec g sz xs'))) := by
    refine hs.hrel.turn hH hβ ⟨Nat.le_refl _, fun _ => ⟨rfl, hxl.symm⟩⟩ rfl rfl rfl (by simp [World.setRow]) hother ⟨vs', e, hty, hheap, by omega, by rw [hxl]; omega, hpos, hok', fun i1 z j z1 u hi1 hj hu => ?_⟩
    refine Rep.mono ?_ hfr
    rw [hget] at hu
    have hzl := (hok' z (List.mem_of_getElem? hi1)).1
    have hjl := lt_of_get hj
    rw [hxs'] at hi1
    by_cases hii : i1 = ix
    · subst hii
      rw [List.getElem?_set_self hixl] at hi1
      injection hi1 with hi1
      subst hi1
      rw [hmk, ho'.2.2 j] at hj
      split at hj
      · rename_i hjj
        rw [if_pos (by omega)] at hu
        refine hyc (j - off) z1 u hj ?_
        rw [← hu]
        congr 1
        omega
      · rename_i hjj
        rw [if_neg (by omega)] at hu
        exact hc i1 x0 j z1 u hx0 hj hu
    · rw [List.getElem?_set_ne (fun e => hii e.symm)] at hi1
      have hne : ¬ (ix * sz + off ≤ i1 * sz + j ∧ i1 * sz + j < ix * sz + off + (a.eval y).cells.size) := by
        rintro ⟨q1, q2⟩
        rcases Nat.lt_or_gt_of_ne hii with h3 | h3
        · have : (i1 + 1) * sz ≤ ix * sz := Nat.mul_le_mul_right _ h3
          rw [Nat.add_mul] at this
          omega
        · have : (ix + 1) * sz ≤ i1 * sz := Nat.mul_le_mul_right _ h3
          rw [Nat.add_mul] at this
          omega
      rw [if_neg hne] at hu
      exact hc i1 z j z1 u hi1 hj hu
  obtain ⟨B', hB'⟩ : ∃ B' : Base, B' = fun q => if q = r then some (.vec g sz xs') else c.B q := ⟨_, rfl⟩
  have hBr : B' r = some (.vec g sz xs') := by rw [hB']; simp
  have hBn : ∀ q, q ≠ r → B' q = c.B q := fun q hq => by rw [hB']; simp [hq]
  have hrl := lt_of_get hH
  have hset : SRel c.imps c.nt (w.setRow b vs') β (H.set r (some (.vec g sz xs'))) m ⟨E, T, B', c.D⟩ a := by
    refine ⟨hrel, hs.size, fun k => (hs.env k).mono hfr, hs.mlen, hs.nodup, fun j q ob hj hob => ?_, hs.imp, fun q hq hqm => ?_, fun q hq => ?_, fun j q hj hq => ?_, hs.scE, hs.scT, hs.defs, hs.marks⟩
    · have hqr : q ≠ r := fun e => hrm (e ▸ List.mem_of_getElem? hj)
      rw [List.getElem?_set_ne (fun e => hqr e.symm)]
      exact hs.loc j q ob hj hob
    · simp only
      by_cases hqr : q = r
      · subst hqr
        rw [List.getElem?_set_self hrl, hBr]
      · rw [List.getElem?_set_ne (fun e => hqr e.symm), hBn q hqr]
        exact hs.base q (by simpa using hq) hqm
    · have hqr : q ≠ r := fun e => by subst e; simp at hq; omega
      simp only
      rw [hBn q hqr]
      exact hs.fut q (by simpa using hq)
    · have hqr : q ≠ r := fun e => hrm (e ▸ List.mem_of_getElem? hq)
      simp only
      rw [hBn q hqr]
      exact hs.own j q hj hq
  obtain ⟨E', hk, hd⟩ := (putE_some (h B' xs' hxl hBr hBn)).resolve_left id
  have hput := hset.putTo (d := o.dst) (x := .tup []) (v := Go.undef) (E' := E') (.tup [] #[] rfl fun j z u h1 _ => by simp at h1) hd
  refine ⟨w.setRow b vs', β, _, m, a.put o.dst Go.undef, _, ⟨E', T, B', c.D⟩, op_step (c := c) ho (wanted_none hg _) (fun cl e => by rw [hop] at e; cases e) (nx := .skip) ?_ (.inr ⟨rfl, rfl⟩), hput, hfr, evp_sound n _ _ _ _ hk⟩
  simp [execOp, hop, Instr.storeAt, Instr.sureAddr, hv, storeVar, run_sizeOf' hI, ← hsz, ← hyl, hrun]
end
end Bow
/- AE46: a nil slice in a cell of a box, as own memory; named results that say less. -/
namespace Bow
open Go

section
variable {c : Cx} {E : Env} {T : Heap}
theorem goes_nilCell {todo : List Item} (kb j sz : Nat) {cs : List V} (hk : lget T kb = some (some (.box cs))) (hj : cs[j]? = some .nilsl) (h : Goes c todo E (List.set (T ++ [some (HObj.vec 0 sz [])]) kb (some (HObj.box (cs.set j (.osl (.loc T.length) 0 0 0)))))) : Goes c todo E T := by
  rw [lget_eq] at hk
  refine goes_step fun w β H m a b cs0 hs _ _ _ => ?_
  obtain ⟨β', H', k1, k2, k3⟩ := hs.newNil 0 sz none
  have hk2 : (T ++ [some (HObj.vec 0 sz [])])[kb]? = some (some (.box cs)) := by rw [List.getElem?_append_left (lt_of_get hk)]; exact hk
  obtain ⟨r, hr, hH⟩ := k1.at hk2
  have hob := k1.hrel.obj r _ hH
  have hfr : Fr w β' H' w β' (H'.set r (some ((HObj.box (cs.set j (.osl (.loc T.length) 0 0 0))).conv (m ++ [H.length])))) := Fr.swap hH trivial
  have hrel : HRel w β' (H'.set r (some ((HObj.box (cs.set j (.osl (.loc T.length) 0 0 0))).conv (m ++ [H.length])))) := by
    refine k1.hrel.swap hH trivial ?_
    simp only [HObj.conv]
    cases hβ : β' r with
    | none => trivial
    | nil => rw [hβ] at hob; exact hob
    | blk bb N =>
      rw [hβ] at hob
      obtain ⟨vs, e, q1, q2, q3, q4⟩ := hob
      rw [V.convL_eq, List.length_map] at q3
      refine ⟨vs, e, q1, q2, by rw [V.convL_eq]; simpa using q3, fun i x v hi hv => ?_⟩
      rw [V.convL_eq, List.getElem?_map, Option.map_eq_some_iff] at hi
      obtain ⟨y, hy, rfl⟩ := hi
      by_cases hij : i = j
      · subst hij
        rw [List.getElem?_set_self (lt_of_get hj)] at hy
        injection hy with hy
        subst hy
        have h0 := q4 i .nilsl v (by rw [V.convL_eq, List.getElem?_map, hj]; rfl) hv
        cases h0
        exact k3.mono (by rw [← HObj.conv]; exact hfr)
      · rw [List.getElem?_set_ne (fun e => hij e.symm)] at hy
        exact (q4 i _ v (by rw [V.convL_eq, List.getElem?_map, hy]; rfl) hv).mono (by rw [← HObj.conv]; exact hfr)
  have hm : m.length = T.length := hs.mlen
  have hsc0 : (HObj.box cs).sc (m ++ [H.length]).length := by
    have h1 := k1.scT kb _ hk2
    have h2 : (m ++ [H.length]).length = (T ++ [some (HObj.vec 0 sz [])]).length := k1.mlen
    rw [h2]
    exact h1
  have hset := k1.setAt (o' := some (.box (cs.set j (.osl (.loc T.length) 0 0 0)))) (w' := w) hr (fun o1 e1 => by
      injection e1 with e1
      subst e1
      show V.scL _ _
      rw [V.scL_iff]
      have hsc' := (V.scL_iff _ _).1 hsc0
      intro v hv
      rcases List.mem_or_eq_of_mem_set hv with hv | hv
      · exact hsc' v hv
      · subst hv
        show T.length < (m ++ [H.length]).length
        simp only [List.length_append, List.length_singleton]
        omega)
    (fun hm => absurd hm (k1.notD hk2 (by simp))) hfr hrel
  exact ⟨w, β', _, m ++ [H.length], a, todo, ⟨E, _, c.B, c.D⟩, .refl _ _, hset, k2.trans hfr, h⟩
end

theorem funN_wk {P : Program} {g : FuncId} {args : List V} {Q : V → Base → Prop} (h : FunN P g args fun x N => ∃ y, Wk x y ∧ y.pureB = true ∧ Q y N) : FunN P g args Q := by
  unfold FunN at *
  refine ⟨h.1, fun w β H B vals cs hs hl hr => ?_⟩
  obtain ⟨x, N, v, w', β', H', fr, ⟨y, q1, q2, q3⟩, k1, k2, k3, k4, k5, k6⟩ := h.2 w β H B vals cs hs hl hr
  exact ⟨y, N, v, w', β', H', fr, q3, k1, k2, k3, q1 _ _ _ _ k4, q2, k6⟩
end Bow
/- W76: treeops.Bare, seen to hand back rows of its own. -/
namespace Bow
open Go Go.Proofs

/-- The names of an operation's rows, and their generations. -/
structure Ns where
  p : Nat
  gp : Nat
  t : Nat
  gt : Nat
  s : Nat
  gs : Nat
def opN (ns : Ns) (o : OpT) : V := .agg [.int .u8 o.kind, .osl (.abs ns.p) ns.gp 0 (o.path.map intV).length, .int .i64 o.at_, .osl (.abs ns.t) ns.gt 0 (o.to.map intV).length, .int .u64 o.id, .bool o.leaf, .str o.label, .str o.key, .str o.value, .bool o.gone, .osl (.abs ns.s) ns.gs 0 (o.pieces.map pieceV).length]
structure NsOk (N : Base) (ns : Ns) (o : OpT) : Prop where
  path : N ns.p = some (.vec ns.gp 1 (o.path.map intV))
  to : N ns.t = some (.vec ns.gt 1 (o.to.map intV))
  pieces : N ns.s = some (.vec ns.gs 3 (o.pieces.map pieceV))
theorem NsOk.ext {N N' : Base} {ns : Ns} {o : OpT} (h : NsOk N ns o) (e : Ext N N') : NsOk N' ns o := ⟨e _ _ h.path, e _ _ h.to, e _ _ h.pieces⟩

def BareQ (o : OpT) (x : V) (T' : Heap) : Prop := ∃ (kp gp kt gt ks gs : Nat) (l e : V), x = .agg [.int .u8 o.kind, .osl (.loc kp) gp 0 (o.path.map intV).length, .int .i64 o.at_, .osl (.loc kt) gt 0 (o.to.map intV).length, .int .u64 o.id, l, .str o.label, .str o.key, .str o.value, e, .osl (.loc ks) gs 0 (o.pieces.map pieceV).length] ∧
  (Wk l (.bool o.leaf) ∧ l.pureB = true) ∧ (Wk e (.bool o.gone) ∧ e.pureB = true) ∧ (lget T' kp = some (some (.vec gp 1 (o.path.map intV))) ∧ lget T' kt = some (some (.vec gt 1 (o.to.map intV))) ∧ lget T' ks = some (some (.vec gs 3 (o.pieces.map pieceV)))) ∧ allLive T' = true
theorem bareQ_of {o o' : OpT} {x : V} {T' : Heap} (e : o = o') (h : BareQ o' x T') : BareQ o x T' := e ▸ h

theorem w_someIntF (p : List Int) (h : p.length ≤ 1000000) : Fun Try.prog 22 [] [pathV p] (fun x T' => ∃ g0, x = .osl (.loc 0) g0 0 (p.map intV).length ∧ T' = [some (.vec g0 1 (p.map intV))]) := by
  refine fun_fn 100 Try.func22 rfl rfl rfl fun imps B hi => ?_
  refine ⟨Nat.le_trans (Nat.mul_le_mul_right _ (show (p.map intV).length ≤ 1000000 by simpa using h)) (by decide), ?_⟩
  exact ⟨trivial, rfl, rfl, 0, rfl, rfl⟩
theorem w_somePieceF (p : List PieceT) (h : p.length ≤ 1000000) : Fun Try.prog 23 [] [piecesV p] (fun x T' => ∃ g0, x = .osl (.loc 0) g0 0 (p.map pieceV).length ∧ T' = [some (.vec g0 3 (p.map pieceV))]) := by
  refine fun_fn 100 Try.func23 rfl rfl rfl fun imps B hi => ?_
  refine ⟨Nat.le_trans (Nat.mul_le_mul_right _ (show (p.map pieceV).length ≤ 1000000 by simpa using h)) (by decide), ?_⟩
  exact ⟨trivial, rfl, rfl, 0, rfl, rfl⟩

set_option maxHeartbeats 2000000 in
set_option maxRecDepth 100000 in
theorem w_BareF (o : OpT) (ho : o.Lt 1000000) : Fun Try.prog 8 [] [opV o] (BareQ (bareO o)) := by
  refine fun_fn 100 Try.func8 rfl rfl rfl fun imps B hi => ?_
  have : imps = [] := List.length_eq_zero_iff.1 hi
  subst this
  show Goes _ _ _ _
  refine goes_drawN [22] 0 ?_
  refine ⟨1, o.path.map intV, w_someIntF o.path ho.path, rfl, rfl, ?_⟩
  refine ⟨by kernel_rfl, ?_⟩
  refine ⟨by kernel_rfl, ?_⟩
  show Goes _ _ _ _
  refine goes_nilCell 3 3 1 rfl rfl ?_
  refine goes_nilCell 3 10 3 rfl rfl ?_
  refine go 100 ?_
  refine ⟨fun g1 => go 100 ?_, fun g1 => go 100 ?_⟩
  · have g1 := eq_of g1
    have e : bareO o = { noOp 1 with path := o.path, at_ := o.at_, id := o.id, leaf := o.leaf, label := o.label } := by simp only [bareO, g1]; rfl
    show Goes _ _ _ _
    refine goes_draw 100 ?_
    refine ⟨by kernel_rfl, ?_⟩
    exact ⟨trivial, rfl, rfl, bareQ_of e ⟨2, 2, 4, 0, 5, 0, .bool o.leaf, .ff, by rw [← g1]; rfl, ⟨.refl _, rfl⟩, ⟨Wk.ff, rfl⟩, ⟨rfl, rfl, rfl⟩, rfl⟩⟩
  refine ⟨fun g2 => go 100 ?_, fun g2 => go 100 ?_⟩
  · have g2 := eq_of g2
    have e : bareO o = { noOp 2 with path := o.path } := by simp only [bareO, g2]; rfl
    exact ⟨trivial, rfl, rfl, bareQ_of e ⟨2, 2, 4, 0, 5, 0, .ff, .ff, by rw [← g2]; rfl, ⟨Wk.ff, rfl⟩, ⟨Wk.ff, rfl⟩, ⟨rfl, rfl, rfl⟩, rfl⟩⟩
  refine ⟨fun g3 => go 100 ?_, fun g3 => go 100 ?_⟩
  · have g3 := eq_of g3
    have e : bareO o = { noOp 3 with path := o.path, at_ := o.at_, to := o.to } := by simp only [bareO, g3]; rfl
    show Goes _ _ _ _
    refine goes_drawN [22] 100 ?_
    refine ⟨1, o.to.map intV, w_someIntF o.to ho.to, rfl, rfl, ?_⟩
    refine ⟨by kernel_rfl, ?_⟩
    exact ⟨trivial, rfl, rfl, bareQ_of e ⟨2, 2, 6, 2, 5, 0, .ff, .ff, by rw [← g3]; rfl, ⟨Wk.ff, rfl⟩, ⟨Wk.ff, rfl⟩, ⟨rfl, rfl, rfl⟩, rfl⟩⟩
  refine ⟨fun g4 => go 100 ?_, fun g4 => go 100 ?_⟩
  · have g4 := eq_of g4
    show Goes _ _ _ _
    refine goes_draw 100 ?_
    refine ⟨by kernel_rfl, ?_⟩
    refine ⟨fun h => go 100 ?_, fun h => go 100 ?_⟩
    · have h : o.gone = false := by simpa using h
      have e : bareO o = { noOp 4 with path := o.path, key := o.key, gone := o.gone, value := o.value } := by simp only [bareO, g4, h]; rfl
      exact ⟨trivial, rfl, rfl, bareQ_of e ⟨2, 2, 4, 0, 5, 0, .ff, .bool o.gone, by rw [← g4]; rfl, ⟨Wk.ff, rfl⟩, ⟨.refl _, rfl⟩, ⟨rfl, rfl, rfl⟩, rfl⟩⟩
    · have h : o.gone = true := by simpa using h
      have e : bareO o = { noOp 4 with path := o.path, key := o.key, gone := o.gone, value := [] } := by simp only [bareO, g4, h]; rfl
      exact ⟨trivial, rfl, rfl, bareQ_of e ⟨2, 2, 4, 0, 5, 0, .ff, .bool o.gone, by rw [← g4]; rfl, ⟨Wk.ff, rfl⟩, ⟨.refl _, rfl⟩, ⟨rfl, rfl, rfl⟩, rfl⟩⟩
  refine ⟨fun g5 => go 100 ?_, fun g5 => go 100 ?_⟩
  · have g5 := eq_of g5
    have e : bareO o = { noOp 5 with path := o.path, label := o.label } := by simp only [bareO, g5]; rfl
    exact ⟨trivial, rfl, rfl, bareQ_of e ⟨2, 2, 4, 0, 5, 0, .ff, .ff, by rw [← g5]; rfl, ⟨Wk.ff, rfl⟩, ⟨Wk.ff, rfl⟩, ⟨rfl, rfl, rfl⟩, rfl⟩⟩
  refine ⟨fun g6 => go 100 ?_, fun g6 => go 4 ?_⟩
  · have g6 := eq_of g6
    have e : bareO o = { noOp 6 with path := o.path, pieces := o.pieces } := by simp only [bareO, g6]; rfl
    show CallThen _ _ _ _ _ _
    refine call_sub [] (w_somePieceF o.pieces ho.pieces) rfl rfl trivial rfl rfl rfl ?_
    rintro x T1 ⟨g0, rfl, rfl⟩
    refine ⟨rfl, ?_⟩
    exact ⟨trivial, rfl, rfl, bareQ_of e ⟨2, 2, 4, 0, 6, g0, .ff, .ff, by rw [← g6]; rfl, ⟨Wk.ff, rfl⟩, ⟨Wk.ff, rfl⟩, ⟨rfl, rfl, rfl⟩, rfl⟩⟩
  · have g1 := ne_of g1
    have g2 := ne_of g2
    have g3 := ne_of g3
    have g4 := ne_of g4
    have g5 := ne_of g5
    have g6 := ne_of g6
    have e : bareO o = noOp o.kind := by
      unfold bareO
      rw [show (o.kind == 1) = false by simpa using g1, show (o.kind == 2) = false by simpa using g2, show (o.kind == 3) = false by simpa using g3, show (o.kind == 4) = false by simpa using g4, show (o.kind == 5) = false by simpa using g5, show (o.kind == 6) = false by simpa using g6]
      rfl
    show Goes _ _ _ _
    refine goes_nilCell 3 1 1 rfl rfl ?_
    refine go 100 ?_
    exact ⟨trivial, rfl, rfl, bareQ_of e ⟨6, 0, 4, 0, 5, 0, .ff, .ff, rfl, ⟨Wk.ff, rfl⟩, ⟨Wk.ff, rfl⟩, ⟨rfl, rfl, rfl⟩, rfl⟩⟩

theorem w_BareN (o : OpT) (ho : o.Lt 1000000) : FunN Try.prog 8 [opV o] (fun x N => ∃ ns, x = opN ns (bareO o) ∧ NsOk N ns (bareO o)) := by
  refine funN_wk ((funN_of_fun (w_BareF o ho) rfl fun x T' h => ?_).mono fun x N => ?_)
  · obtain ⟨kp, gp, kt, gt, ks, gs, l, e, _, _, _, _, h⟩ := h
    exact h
  rintro ⟨x', T', m', ⟨kp, gp, kt, gt, ks, gs, l, e, rfl, ⟨l1, l2⟩, ⟨e1, e2⟩, ⟨h1, h2, h3⟩, _⟩, rfl, hl, _, hN⟩
  simp only [lget_eq] at h1 h2 h3
  have get : ∀ (k : Nat) (o : HObj), T'[k]? = some (some o) → ∃ q, m'[k]? = some q := fun k o h => ⟨_, List.getElem?_eq_getElem (by have := lt_of_get h; omega)⟩
  obtain ⟨q1, k1⟩ := get _ _ h1
  obtain ⟨q2, k2⟩ := get _ _ h2
  obtain ⟨q3, k3⟩ := get _ _ h3
  refine ⟨opN ⟨q1, gp, q2, gt, q3, gs⟩ (bareO o), ?_, rfl, _, rfl, ⟨hN kp q1 _ k1 h1, hN kt q2 _ k2 h2, hN ks q3 _ k3 h3⟩⟩
  simp only [V.conv, V.convL, Ref.conv, k1, k2, k3, pure_conv m' l l2, pure_conv m' e e2]
  exact Wk.agg ⟨.refl _, .refl _, .refl _, .refl _, .refl _, l1, .refl _, .refl _, .refl _, e1, .refl _, trivial⟩
end Bow
/- W77: lists of operations whose rows have names; lists.bare, square.Behind, square.Both, lists.Both, seen to hand back memory of their own. -/
namespace Bow
open Go Go.Proofs

def OpsOk (N : Base) (zs : List (Ns × OpT)) : Prop := ∀ z ∈ zs, NsOk N z.1 z.2
theorem OpsOk.ext {N N' : Base} {zs : List (Ns × OpT)} (h : OpsOk N zs) (e : Ext N N') : OpsOk N' zs := fun z hz => (h z hz).ext e
theorem OpsOk.nil (N : Base) : OpsOk N [] := fun z hz => by cases hz
theorem OpsOk.snoc {N : Base} {zs : List (Ns × OpT)} {ns : Ns} {o : OpT} (h : OpsOk N zs) (k : NsOk N ns o) : OpsOk N (zs ++ [(ns, o)]) := fun z hz => by
  rcases List.mem_append.1 hz with hz | hz
  · exact h z hz
  · rw [List.mem_singleton.1 hz]; exact k

end Bow
/- W78: bowerlaw12.spoil, which writes over an operation's own rows. -/
namespace Bow
open Go Go.Proofs

/-- The operation's rows stand there, whatever they hold. -/
structure NsShp (B : Base) (ns : Ns) (o : OpT) : Prop where
  path : ∃ xs : List V, B ns.p = some (.vec ns.gp 1 xs) ∧ xs.length = (o.path.map intV).length
  to : ∃ xs : List V, B ns.t = some (.vec ns.gt 1 xs) ∧ xs.length = (o.to.map intV).length
  pieces : ∃ xs : List V, B ns.s = some (.vec ns.gs 3 xs) ∧ xs.length = (o.pieces.map pieceV).length
theorem NsOk.shp {B : Base} {ns : Ns} {o : OpT} (h : NsOk B ns o) : NsShp B ns o := ⟨⟨_, h.path, rfl⟩, ⟨_, h.to, rfl⟩, ⟨_, h.pieces, rfl⟩⟩
theorem NsShp.to' {B B' : Base} {ns : Ns} {o : OpT} (h : NsShp B ns o) (k : ShpEq B B') : NsShp B' ns o := by
  obtain ⟨⟨xs, h1, e1⟩, ⟨ys, h2, e2⟩, ⟨zs, h3, e3⟩⟩ := h
  obtain ⟨xs', k1, f1⟩ := k _ _ _ _ h1
  obtain ⟨ys', k2, f2⟩ := k _ _ _ _ h2
  obtain ⟨zs', k3, f3⟩ := k _ _ _ _ h3
  exact ⟨⟨xs', k1, f1.trans e1⟩, ⟨ys', k2, f2.trans e2⟩, ⟨zs', k3, f3.trans e3⟩⟩
theorem NsShp.ext {B B' : Base} {ns : Ns} {o : OpT} (h : NsShp B ns o) (e : Ext B B') : NsShp B' ns o := by
  obtain ⟨⟨xs, h1, e1⟩, ⟨ys, h2, e2⟩, ⟨zs, h3, e3⟩⟩ := h
  exact ⟨⟨xs, e _ _ h1, e1⟩, ⟨ys, e _ _ h2, e2⟩, ⟨zs, e _ _ h3, e3⟩⟩
/-- One row written over. -/
theorem shp_step {B B0 B' : Base} {r g sz : Nat} {xs xs' : List V} {m : List Nat} (h0 : ShpEq B0 B) (q0 : ∀ q, q ∉ m → B q = B0 q) (hr : B r = some (.vec g sz xs)) (hm : r ∈ m) (h1 : B' r = some (.vec g sz xs')) (hl : xs'.length = xs.length) (hq : ∀ q, q ≠ r → B' q = B q) : ShpEq B0 B' ∧ ∀ q, q ∉ m → B' q = B0 q := by
  refine ⟨h0.trans fun r' g' sz' ys hy => ?_, fun q hqm => ?_⟩
  · by_cases e : r' = r
    · subst e
      rw [hr] at hy
      injection hy with hy
      injection hy with a1 a2 a3
      subst a1 a2 a3
      exact ⟨xs', h1, hl⟩
    · exact ⟨ys, by rw [hq r' e]; exact hy, rfl⟩
  · rw [hq q (fun e => hqm (e ▸ hm)), q0 q hqm]

end Bow
/- SP28: where a node is, number by number (the document's answer), in plain Lean. -/
namespace Bow
open Go

end Bow
/- W67: the document's answer of chapter 11: Moves, parent, child, Node, Gap, Undo. -/
namespace Bow
open Go Go.Proofs

end Bow
/- SP27: two edits behind each other, place by place, in plain Lean: as leaftext goes, by runs, it is the same. -/
namespace Bow
open Go

def Later (l : List PieceT) : Prop := ∀ p ∈ l, 0 < p.keep ∧ 0 ≤ p.drop
/-! ### What a maker makes is normal -/
/-! ### A row that stands at a run -/
def Run (n : Int) (d s : Bool) (r : List PieceT) : Prop :=
  (s = false ∧ d = false ∧ n = 0 ∧ r = []) ∨ (s = true ∧ 0 < n ∧ ∃ p l, r = p :: l ∧ 0 ≤ p.drop ∧ Later l ∧ ((d = false ∧ n = p.keep) ∨ (d = true ∧ p.keep = 0 ∧ p.put = [] ∧ n = p.drop)))
theorem Run.put {n : Int} {d s : Bool} {r : List PieceT} (h : Run n d s r) : rowPut r = ([], r) := by
  rcases h with ⟨_, _, _, rfl⟩ | ⟨_, hn, p, l, rfl, _, _, ⟨_, rfl⟩ | ⟨_, hk, hp, _⟩⟩
  · rfl
  · rw [rowPut, decide_eq_true hn]; rfl
  · rw [rowPut, hp]; simp
theorem Run.run {n : Int} {d s : Bool} {r : List PieceT} (h : Run n d s r) : rowRun r = ((n, d, s), r) := by
  rcases h with ⟨rfl, rfl, rfl, rfl⟩ | ⟨rfl, hn, p, l, rfl, _, _, ⟨rfl, rfl⟩ | ⟨rfl, hk, hp, rfl⟩⟩
  · rfl
  · rw [rowRun, decide_eq_true hn]; rfl
  · rw [rowRun, decide_eq_false (by omega : ¬ 0 < p.keep), decide_eq_true hn]; rfl
theorem Run.take {n j : Int} {d s : Bool} {r : List PieceT} (h : Run n d s r) (hj : 0 ≤ j) (hs : s = true → j < n) : Run (bif s then n - j else 0) d s (rowTake j r) := by
  rcases h with ⟨rfl, rfl, rfl, rfl⟩ | ⟨rfl, hn, p, l, rfl, hd, hl, ⟨rfl, rfl⟩ | ⟨rfl, hk, hp, rfl⟩⟩
  · exact .inl ⟨rfl, rfl, rfl, rfl⟩
  · have := hs rfl
    rw [rowTake, decide_eq_true hn]
    exact .inr ⟨rfl, by rw [cond_true]; omega, _, l, rfl, hd, hl, .inl ⟨rfl, rfl⟩⟩
  · have := hs rfl
    rw [rowTake, decide_eq_false (by omega : ¬ 0 < p.keep)]
    exact .inr ⟨rfl, by rw [cond_true]; omega, _, l, rfl, by show 0 ≤ p.drop - j; omega, hl, .inr ⟨rfl, hk, hp, rfl⟩⟩
theorem Run.take_take {n j : Int} {d s : Bool} {r : List PieceT} (h : Run n d s r) (hj : 0 ≤ j) (hs : s = true → j < n) : rowTake 1 (rowTake j r) = rowTake (j + 1) r := by
  rcases h with ⟨rfl, rfl, rfl, rfl⟩ | ⟨rfl, hn, p, l, rfl, hd, hl, ⟨rfl, rfl⟩ | ⟨rfl, hk, hp, rfl⟩⟩
  · rfl
  · have := hs rfl
    rw [rowTake, decide_eq_true hn, cond_true, rowTake, decide_eq_true (by show 0 < p.keep - j; omega), cond_true, rowTake, decide_eq_true hn, cond_true, show p.keep - j - 1 = p.keep - (j + 1) by omega]
  · have := hs rfl
    have e : decide (0 < p.keep) = false := decide_eq_false (by omega)
    rw [rowTake, e, cond_false, rowTake, e, cond_false, rowTake, e, cond_false, show p.drop - j - 1 = p.drop - (j + 1) by omega]
/-! ### Makers, byte by byte -/
theorem modL_modL (f g : PieceT → PieceT) : ∀ l : List PieceT, modL f (modL g l) = modL (fun p => f (g p)) l
  | [] => rfl
  | [p] => rfl
  | [p, q] => rfl
  | p :: q :: r :: l => by
    have ih := modL_modL f g (q :: r :: l)
    simp only [modL] at ih ⊢
    rw [ih]
theorem Mk.last_done (m : Mk) : ¬ 0 < m.last.keep ∧ m.last.l ≠ [] := by
  refine ⟨?_, m.last_ne⟩
  unfold Mk.last
  cases h : decide (0 < m.keep) || m.l.isEmpty with
  | true => simp
  | false =>
    rw [Bool.or_eq_false_iff] at h
    exact of_decide_eq_false h.1
theorem Mk.last_of {m : Mk} (h1 : ¬ 0 < m.keep) (h2 : m.l ≠ []) : m.last = m := by
  unfold Mk.last
  rw [decide_eq_false h1]
  cases h : m.l with
  | nil => exact absurd h h2
  | cons p l => rfl
theorem drop_drop (m : Mk) {j : Int} (hj : 0 < j) : (m.drop j).drop 1 = m.drop (j + 1) := by
  obtain ⟨h1, h2⟩ := m.last_done
  unfold Mk.drop
  rw [decide_eq_true hj, decide_eq_true (by omega : (0 : Int) < j + 1), cond_true, cond_true]
  rw [Mk.last_of (m := ⟨modL (fun p => { p with drop := p.drop + j }) m.last.l, m.last.keep⟩) h1 (modL_ne h2)]
  simp only [modL_modL]
  simp only [show (decide ((0 : Int) < 1)) = true from rfl, cond_true, Int.add_assoc]
/-! ### Place by place -/
def Tr.one (prior : Bool) (s : Tr) : Tr :=
  match s.puts prior with
  | ⟨p, q, x, y⟩ => Tr.does ⟨rowTake 1 (rowRun p).2, rowTake 1 (rowRun q).2, x, y⟩ 1 (rowRun p).1.2.1 (rowRun q).1.2.1
def Tr.bytes (prior : Bool) : Nat → Tr → Tr
  | 0, s => s
  | k + 1, s => Tr.bytes prior k (s.one prior)
/-! ### An edit, place by place -/
/-! ### The document's answer -/
end Bow
/- SP31: the document's normal form and views, step by step, in plain Lean. -/
namespace Bow
open Go

/-! ### Views -/
/-! ### Places -/
end Bow
/- W70: the document's answer of chapter 5: norm, Extent, view, behind, Transform. -/
namespace Bow
open Go Go.Proofs

/-! ### norm -/
/-! ### Extent -/
/-! ### view -/
/-! ### behind -/
/-! ### Transform -/
end Bow
/- W71: the document's answer of chapter 12: what becomes of an operation behind another one. -/
namespace Bow
open Go Go.Proofs

end Bow
/- W72: the document's Behind and Both (chapter 12); the law SquareBehind, walked. -/
namespace Bow
open Go Go.Proofs

end Bow
/- AE47: a function whose named memory nobody looks at any more. -/
namespace Bow
open Go

/-- Names let go. -/
theorem letGo {w : World} {β : Nat → Loc} {H : Heap} {B N : Base} (h : SRel [] 0 w β H [] ⟨[], [], B.add N, []⟩ bare) : ∃ H2, SRel [] 0 w β H2 [] ⟨[], [], B, []⟩ bare ∧ Fr w β H w β H2 := by
  have hH : ∀ q, q < H.length → H[q]? = some ((B.add N) q) := fun q hq => h.base q hq (by simp)
  obtain ⟨H2, hH2⟩ : ∃ H2 : Heap, H2 = (List.range H.length).map B := ⟨_, rfl⟩
  have hl : H2.length = H.length := by rw [hH2]; simp
  have hg : ∀ q, q < H.length → H2[q]? = some (B q) := fun q hq => by rw [hH2]; simp [hq]
  have hsub : ∀ q o, H2[q]? = some (some o) → H[q]? = some (some o) := fun q o hq => by
    have hlt : q < H.length := by rw [← hl]; exact lt_of_get hq
    rw [hg q hlt] at hq
    injection hq with hq
    rw [hH q hlt, Ext.add B N q o hq]
  have f : Fr w β H w β H2 := by
    refine ⟨⟨rfl, rfl, rfl, Nat.le_refl _, by rw [hl]; exact Nat.le_refl _, fun r o' _ ho => ⟨o', hsub r o' ho, Evo.refl _, fun _ _ => rfl⟩, fun _ _ _ => rfl, ?_, fun _ _ => rfl, fun r s hs => ⟨hsub r _ hs, rfl⟩⟩, fun _ _ h => h⟩
    rintro b ⟨r, M, ⟨o, ho, hn⟩, hb⟩
    exact .inr ⟨r, M, ⟨o, hsub r o ho, hn⟩, hb⟩
  refine ⟨H2, ⟨?_, rfl, fun k => by simp [lk, V.conv]; exact .undef _, rfl, List.nodup_nil, by simp, rfl, fun r hr _ => ?_, fun r hr => ?_, by simp, by simp, by simp, rfl, by simp⟩, f⟩
  · refine h.hrel.step f (fun r o ho => .inl ⟨hsub r o ho, rfl, fun _ _ _ => rfl⟩) ?_
    rintro r r' b M M' ⟨o, ho⟩ ⟨o', ho'⟩ hb hb'
    exact h.hrel.inj r r' b M M' ⟨o, hsub r o ho⟩ ⟨o', hsub r' o' ho'⟩ hb hb'
  · exact hg r (by rw [← hl]; exact hr)
  · have h1 : (B.add N) r = none := h.fut r (by rw [← hl]; exact hr)
    show B r = none
    cases hb : B r with
    | none => rfl
    | some o => rw [Ext.add B N r o hb] at h1; cases h1
theorem pure_of_funN {P : Program} {g : FuncId} {args : List V} {Q : V → Prop} (h : FunN P g args fun x _ => Q x) (ha : V.pureL args = true) : Pure P g args Q := by
  unfold FunN at h
  unfold Pure Fun
  refine ⟨h.1, fun w β H m B vals cs hs hl hr => ?_⟩
  have hm : m = [] := List.length_eq_zero_iff.1 hs.mlen
  subst hm
  obtain ⟨x, N, v, w', β', H', fr, hq, hN, k1, k2, k3, k4, k5⟩ := h.2 w β H B vals cs hs hl (fun j x v hj hv => by
    have h1 := hr j x v hj hv
    rwa [pure_conv _ _ (pureL_mem _ ha x (List.mem_of_getElem? hj))] at h1)
  obtain ⟨H2, e1, e2⟩ := letGo k1
  exact ⟨x, [], v, w', β', H2, [], fr, ⟨rfl, k4, hq⟩, e1, k2.trans e2, by rw [pure_conv _ _ k4]; exact k3.mono e2, k5⟩
end Bow
/- W79: the law SquareBoth, walked. -/
namespace Bow
open Go Go.Proofs

theorem OpsOk.add {B N : Base} {zs : List (Ns × OpT)} (h : OpsOk N zs) (hN : ∀ q o, N q = some o → B q = none) : OpsOk (B.add N) zs := h.ext fun q o e => add_new e (hN q o e)
/-- All these operations' rows stand there. -/
def AllShp (B : Base) (zs : List (Ns × OpT)) : Prop := ∀ z ∈ zs, NsShp B z.1 z.2
theorem AllShp.to' {B B' : Base} {zs : List (Ns × OpT)} (h : AllShp B zs) (k : ShpEq B B') : AllShp B' zs := fun z hz => (h z hz).to' k
theorem NsShp.names {B : Base} {ns : Ns} {o : OpT} (h : NsShp B ns o) : ∀ q ∈ [ns.p, ns.t, ns.s], ∃ ob, B q = some ob := by
  obtain ⟨⟨xs, h1, _⟩, ⟨ys, h2, _⟩, ⟨zs, h3, _⟩⟩ := h
  intro q hq
  simp only [List.mem_cons, List.not_mem_nil, or_false] at hq
  rcases hq with rfl | rfl | rfl
  · exact ⟨_, h1⟩
  · exact ⟨_, h2⟩
  · exact ⟨_, h3⟩
/-- Names that nobody held ahead. -/
def NewNs (B : Base) (ns : Ns) : Prop := ∀ q ∈ [ns.p, ns.t, ns.s], B q = none
theorem NsOk.fresh {B N : Base} {ns : Ns} {o : OpT} (h : NsOk N ns o) (hN : ∀ q ob, N q = some ob → B q = none) : NewNs B ns := by
  intro q hq
  simp only [List.mem_cons, List.not_mem_nil, or_false] at hq
  rcases hq with rfl | rfl | rfl
  · exact hN _ _ h.path
  · exact hN _ _ h.to
  · exact hN _ _ h.pieces
theorem ext_step {B Bc B' : Base} {ns : Ns} (h : Ext B Bc) (hn : NewNs B ns) (hq : ∀ q, q ∉ [ns.p, ns.t, ns.s] → B' q = Bc q) : Ext B B' := fun q o e => by
  rw [hq q (fun hm => by rw [hn q hm] at e; cases e)]
  exact h q o e
end Bow
/- W28: the chapter's examples. -/
namespace Bow
open Go Go.Proofs

def leafT8 (l t : List UInt8) : Tree := .mk 0 true l [] t []
def nodeT (l : List UInt8) (ss : List Tree) : Tree := .mk 0 false l [] [] ss
def workT : Tree := nodeT [114] [nodeT [97] [leafT8 [120] [104, 105], nodeT [99] []], leafT8 [98] [98, 101, 101]]
def work1 : OpT := { noOp 1 with path := [0], at_ := 1, label := [110] }
def work2 : OpT := { noOp 3 with path := [0, 0], at_ := 2 }
def work3 : OpT := { noOp 3 with path := [0], at_ := 1 }
def work4 : OpT := { noOp 6 with path := [0, 0], pieces := [⟨2, 0, [33]⟩] }
def made1 : Tree := nodeT [114] [nodeT [97] [leafT8 [120] [104, 105], nodeT [110] [], nodeT [99] []], leafT8 [98] [98, 101, 101]]
def made2 : Tree := nodeT [114] [nodeT [97] [nodeT [99] []], leafT8 [98] [98, 101, 101], leafT8 [120] [104, 105]]
def made4 : Tree := nodeT [114] [nodeT [97] [leafT8 [120] [104, 105, 33], nodeT [99] []], leafT8 [98] [98, 101, 101]]

theorem okOp {o : OpT} (h : (Nat.ble o.path.length 1000000 && Nat.ble o.to.length 1000000 && Nat.ble o.label.length 1000000 && Nat.ble o.key.length 1000000 && Nat.ble o.value.length 1000000 && Nat.ble o.pieces.length 1000000 && Nat.ble (putsLen o.pieces) 1000000) = true) : o.Ok := by
  simp only [Bool.and_eq_true, Nat.ble_eq] at h
  obtain ⟨⟨⟨⟨⟨⟨h1, h2⟩, h3⟩, h4⟩, h5⟩, h6⟩, h7⟩ := h
  exact ⟨⟨h1, h2, h3, h4, h5, h6⟩, by omega⟩
theorem w_work1 : Pure Try.prog 10 [nodeV workT, opV work1] (fun x => x = ApplyV (made1, 0)) :=
  w_Apply_ok workT work1 made1 (by decide) (okOp (by decide)) (by decide) (w_apply workT work1 made1 (by decide) (okOp (by decide)) (by intro x h; cases h) (Does.ins (nodeT [97] [leafT8 [120] [104, 105], nodeT [99] []]) rfl rfl (by decide) (by decide)))
theorem w_work2 : Pure Try.prog 10 [nodeV workT, opV work2] (fun x => x = ApplyV (made2, 0)) :=
  w_Apply_ok workT work2 made2 (by decide) (okOp (by decide)) (by decide) (w_apply workT work2 made2 (by decide) (okOp (by decide)) (by intro x h; cases h) (Does.mov (leafT8 [120] [104, 105]) workT rfl (by decide) rfl (by decide) rfl (by decide) (by decide)))
theorem w_work3 : Pure Try.prog 10 [nodeV workT, opV work3] (fun x => x = ApplyV (workT, 0)) :=
  w_Apply_ok workT work3 workT (by decide) (okOp (by decide)) (by decide) (w_apply workT work3 workT (by decide) (okOp (by decide)) (by intro x h; cases h) (Does.mov (nodeT [97] [leafT8 [120] [104, 105], nodeT [99] []]) workT rfl (by decide) rfl (by decide) rfl (by decide) (by decide)))
theorem w_work4 : Pure Try.prog 10 [nodeV workT, opV work4] (fun x => x = ApplyV (made4, 0)) :=
  w_Apply_ok workT work4 made4 (by decide) (okOp (by decide)) (by decide) (w_apply workT work4 made4 (by decide) (okOp (by decide)) (by intro x h; cases h) (Does.edt (leafT8 [120] [104, 105]) rfl rfl))
end Bow
/- W29: the chapter's examples, all. -/
namespace Bow
open Go Go.Proofs

/-- A node as a literal lays it. -/
def litV (leaf l t k : V) : V := .agg [.int .u64 0, leaf, l, .nilsl, t, k]
theorem wkL_lit {lf : Bool} {lv : V} {l t : List UInt8} {k : V} {ss : List Tree} (h1 : Wk lv (.bool lf)) (h2 : Wk k (.sl 6 (ss.map nodeV))) : WkL (litV lv (.str l) (.str t) k).cells (nodeV (.mk 0 lf l [] t ss)).cells := by
  refine ⟨.refl _, h1, .refl _, Wk.nil 2, .refl _, ?_, trivial⟩
  show Wk k (.sl 6 (Tree.subV _))
  rw [subV_eq]
  exact h2

theorem wk_work : WkL [.int .u64 0, .ff, .str [114], .nilsl, .str [], .sl 6 [litV .ff (.str [97]) (.str []) (.sl 6 [litV .tt (.str [120]) (.str [104, 105]) .nilsl, litV .ff (.str [99]) (.str []) .nilsl]), litV .tt (.str [98]) (.str [98, 101, 101]) .nilsl]] (nodeV workT).cells := by
  refine wkL_lit (lv := .ff) Wk.ff (Wk.sl ?_)
  refine ⟨⟨wkL_lit Wk.ff (Wk.sl ?_), okE_node _⟩, ⟨wkL_lit (ss := []) Wk.tt (Wk.nil 6), okE_node _⟩, trivial⟩
  exact ⟨⟨wkL_lit (ss := []) Wk.tt (Wk.nil 6), okE_node _⟩, ⟨wkL_lit (ss := []) Wk.ff (Wk.nil 6), okE_node _⟩, trivial⟩

theorem w_workV1 : Pure Try.prog 21 [nodeV workT, opV { noOp 3 with path := [0], to := [0, 0] }] (fun x => x = .int .i64 84) :=
  w_Valid workT _ (by decide) (okOp (by decide))
theorem w_workV2 : Pure Try.prog 21 [nodeV workT, opV (noOp 2)] (fun x => x = .int .i64 82) :=
  w_Valid workT _ (by decide) (okOp (by decide))

set_option maxRecDepth 100000 in
theorem w_works08 : Pure Try.prog 7 [] (fun x => x = .bool true) := by
  refine pure_wk (pure_fn 17 Try.func7 rfl rfl rfl fun B => ?_)
  refine ⟨⟨rfl, rfl, trivial⟩, rfl, rfl, ⟨rfl, rfl, trivial⟩, ?_⟩
  show Goes _ _ _ _
  refine goes_freezeIn 1 [2] rfl rfl rfl ?_
  show Goes _ _ _ _
  refine goes_wkbox 2 (nodeV workT).cells rfl rfl rfl wk_work ?_
  refine go 300 ?_
  refine ⟨⟨rfl, trivial⟩, ?_⟩
  show CallThen _ _ _ _ _ _
  refine call_pure_frz ?_
  refine ⟨rfl, rfl, _, pure_args w_work1 ⟨.refl _, wk_op ⟨.refl _, .refl _, .refl _, Wk.nil 1, .refl _, Wk.ff, .refl _, .refl _, .refl _, Wk.ff, Wk.nil 3, trivial⟩, trivial⟩ rfl rfl, rfl, ?_⟩
  rintro x rfl
  refine ⟨⟨rfl, rfl, trivial⟩, ?_⟩
  show CallThen _ _ _ _ _ _
  refine call_pure_frz ?_
  refine ⟨rfl, rfl, _, pure_args w_work2 ⟨.refl _, wk_op ⟨.refl _, .refl _, .refl _, Wk.nil 1, .refl _, Wk.ff, .refl _, .refl _, .refl _, Wk.ff, Wk.nil 3, trivial⟩, trivial⟩ rfl rfl, rfl, ?_⟩
  rintro x rfl
  refine ⟨⟨rfl, trivial⟩, ?_⟩
  show CallThen _ _ _ _ _ _
  refine call_pure_frz ?_
  refine ⟨rfl, rfl, _, pure_args w_work3 ⟨.refl _, wk_op ⟨.refl _, .refl _, .refl _, Wk.nil 1, .refl _, Wk.ff, .refl _, .refl _, .refl _, Wk.ff, Wk.nil 3, trivial⟩, trivial⟩ rfl rfl, rfl, ?_⟩
  rintro x rfl
  refine ⟨⟨rfl, rfl, trivial⟩, ⟨rfl, trivial⟩, ?_⟩
  show CallThen _ _ _ _ _ _
  refine call_pure_frz ?_
  refine ⟨rfl, rfl, rfl, rfl, _, pure_args w_work4 ⟨.refl _, wk_op ⟨.refl _, .refl _, .refl _, Wk.nil 1, .refl _, Wk.ff, .refl _, .refl _, .refl _, Wk.ff, .refl _, trivial⟩, trivial⟩ rfl rfl, rfl, ?_⟩
  rintro x rfl
  iterate 5 refine ⟨fun g => absurd rfl (ne_of' g), fun _ => go 300 ?_⟩
  refine ⟨Int.le_refl 0, _, rfl, ⟨fun g => absurd rfl (ne_of' g), fun _ => go 300 ?_⟩⟩
  refine ⟨fun g => absurd rfl (ne_of' g), fun _ => go 300 ?_⟩
  refine ⟨Int.le_refl 0, _, rfl, ⟨fun g => absurd rfl (ne_of' g), fun _ => go 300 ?_⟩⟩
  refine ⟨Int.le_refl 0, _, rfl, ⟨fun g => absurd rfl (ne_of' g), fun _ => go 300 ?_⟩⟩
  refine ⟨Int.le_refl 0, _, rfl, by decide, _, rfl, ?_⟩
  refine ⟨fun _ => go 300 ?_, fun g => absurd rfl (of_decide_eq_false g)⟩
  refine ⟨by decide, _, rfl, ?_⟩
  refine ⟨fun _ => go 300 ?_, fun g => absurd rfl (of_decide_eq_false g)⟩
  show CallThen _ _ _ _ _ _
  refine call_pure (w_Same workT workT (by decide)) rfl ?_
  rintro x rfl
  refine ⟨fun _ => go 300 ?_, fun g => absurd ((sameT_refl true workT).symm.trans g) (by decide)⟩
  refine ⟨by decide, _, rfl, by decide, _, rfl, ?_⟩
  refine ⟨fun _ => go 300 ?_, fun g => absurd rfl (of_decide_eq_false g)⟩
  refine ⟨⟨rfl, trivial⟩, ⟨rfl, rfl, trivial⟩, ?_⟩
  show CallThen _ _ _ _ _ _
  refine call_pure_frz ?_
  refine ⟨rfl, rfl, rfl, rfl, _, pure_args w_workV1 ⟨.refl _, wk_op ⟨.refl _, .refl _, .refl _, .refl _, .refl _, Wk.ff, .refl _, .refl _, .refl _, Wk.ff, Wk.nil 3, trivial⟩, trivial⟩ rfl rfl, rfl, ?_⟩
  rintro x rfl
  refine ⟨fun _ => go 300 ?_, fun g => absurd g (by decide)⟩
  show CallThen _ _ _ _ _ _
  refine call_pure_frz ?_
  refine ⟨_, pure_args w_workV2 ⟨.refl _, wk_op ⟨.refl _, Wk.nil 1, .refl _, Wk.nil 1, .refl _, Wk.ff, .refl _, .refl _, .refl _, Wk.ff, Wk.nil 3, trivial⟩, trivial⟩ rfl rfl, rfl, ?_⟩
  rintro x rfl
  exact ⟨trivial, rfl, rfl, rfl, leaf_b rfl⟩
end Bow
/- W30: the laws' functions: TreeopsFormed, TreeopsValid. -/
namespace Bow
open Go Go.Proofs

end Bow
/- W40: the law's function TreeopsApply. -/
namespace Bow
open Go Go.Proofs

end Bow
/- AE53: named memory, lent to a function that leaves nothing behind: what it hands back lies elsewhere, where the sizes of its slices' elements tell so. -/
namespace Bow
open Go

/-! ### No pointer, no slice of elements of these sizes -/
mutual
def V.apart (ss : List Nat) : V → Bool
  | .int .. | .bool _ | .tt | .ff | .str _ | .nilsl | .nilp | .nilf | .nili | .nilmap | .undef => true
  | .sl sz xs => !ss.contains sz && V.apartL ss xs
  | .agg cs => V.apartL ss cs
  | .tup cs => V.apartL ss cs
  | .iface _ v => v.apart ss
  | _ => false
def V.apartL (ss : List Nat) : List V → Bool
  | [] => true
  | v :: vs => v.apart ss && V.apartL ss vs
end
theorem apartL_get {ss : List Nat} : ∀ {vs : List V}, V.apartL ss vs = true → ∀ v ∈ vs, v.apart ss = true
  | [], _, v, h => by cases h
  | x :: vs, hg, v, h => by
    simp only [V.apartL, Bool.and_eq_true] at hg
    rcases List.mem_cons.1 h with rfl | h
    · exact hg.1
    · exact apartL_get hg.2 v h
theorem apart_cells {ss : List Nat} {x : V} (h : x.apart ss = true) : ∀ c ∈ x.cells, c.apart ss = true := by
  cases x with
  | agg cs =>
    simp only [V.apart] at h
    exact apartL_get (vs := cs) h
  | _ =>
    intro c hc
    simp only [V.cells, List.mem_singleton] at hc
    subst hc
    exact h
/-! ### All own memory, sealed -/
def sealO (s : Nat) : HObj → HObj
  | .held t => .held t
  | _ => .held s
def sealH (L : Nat → Nat) (H : Heap) : Heap := H.mapIdx fun r o => o.map (sealO (L r))
theorem seal_get {L : Nat → Nat} {H : Heap} {r : Nat} : (sealH L H)[r]? = (H[r]?).map fun o => o.map (sealO (L r)) := by simp [sealH]
theorem sealO_is (s : Nat) (o : HObj) : isSeal (sealO s o) := by cases o <;> trivial
theorem sealO_held (s : Nat) (o : HObj) : ∃ t, sealO s o = .held t := by cases o <;> exact ⟨_, rfl⟩
theorem sealO_open {s : Nat} {o : HObj} (h : ¬ isSeal o) : sealO s o = .held s := by cases o <;> first | rfl | exact absurd trivial h
theorem seal_of {L : Nat → Nat} {H : Heap} {r : Nat} {o : HObj} (h : (sealH L H)[r]? = some (some o)) : ∃ o', H[r]? = some (some o') ∧ o = sealO (L r) o' := by
  rw [seal_get] at h
  rcases e : H[r]? with - | - | o'
  · rw [e] at h; cases h
  · rw [e] at h; cases h
  · rw [e] at h
    injection h with h
    injection h with h
    exact ⟨o', rfl, h.symm⟩
theorem seal_no {L : Nat → Nat} {β : Nat → Loc} {H : Heap} (b : Nat) : ¬ ownB β (sealH L H) b := by
  rintro ⟨r, N, ⟨o, h, hn⟩, _⟩
  obtain ⟨o', _, rfl⟩ := seal_of h
  exact hn (sealO_is _ _)
theorem seal_free {L : Nat → Nat} {β : Nat → Loc} {H : Heap} {b sz : Nat} (h : freeB β H b sz) : freeB β (sealH L H) b sz := by
  refine ⟨seal_no b, fun r s N hr hb => ?_⟩
  obtain ⟨o, ho, e⟩ := seal_of hr
  by_cases hs : isSeal o
  · cases o <;> first | exact hs.elim | skip
    injection e with e
    subst e
    exact h.2 r _ N ho hb
  · exact (h.1 ⟨r, N, ⟨o, ho, hs⟩, hb⟩).elim
theorem HRel.sealed {w : World} {β : Nat → Loc} {H : Heap} (h : HRel w β H) (L : Nat → Nat) : HRel w β (sealH L H) := by
  refine ⟨fun r o ho => ?_, fun r r' b N N' hl hl' hb hb' => ?_⟩
  · obtain ⟨o', ho', rfl⟩ := seal_of ho
    obtain ⟨t, e⟩ := sealO_held (L r) o'
    rw [e]
    cases e2 : β r with
    | none => trivial
    | nil => trivial
    | blk b N => exact h.lt ⟨o', ho'⟩ e2
  · obtain ⟨o, ho⟩ := hl
    obtain ⟨o', ho'⟩ := hl'
    obtain ⟨z, hz, _⟩ := seal_of ho
    obtain ⟨z', hz', _⟩ := seal_of ho'
    exact h.inj r r' b N N' ⟨z, hz⟩ ⟨z', hz'⟩ hb hb'
theorem Rep.sealed {w : World} {β : Nat → Loc} {H : Heap} {v : V} {u : Value} (h : Rep w β H v u) (L : Nat → Nat) : v.apart [] = true → Rep w β (sealH L H) v u := by
  induction h with
  | int k n => exact fun _ => .int k n
  | bool b => exact fun _ => .bool b
  | tt => exact fun _ => .tt
  | ff => exact fun _ => .ff
  | str s h => exact fun _ => .str s h
  | nilsl => exact fun _ => .nilsl
  | nilp => exact fun _ => .nilp
  | nilf => exact fun _ => .nilf
  | nili => exact fun _ => .nili
  | nilmap => exact fun _ => .nilmap
  | undef v => exact fun _ => .undef v
  | sl sz xs a cap vals hcap hmax hsz ha hr ih =>
    intro hp
    simp only [V.apart, Bool.and_eq_true] at hp
    refine .sl sz xs a cap vals hcap hmax hsz (fun hne => ?_) (fun i x j c h1 h2 => ih i x j c h1 h2 (apart_cells (apartL_get hp.2 x (List.mem_of_getElem? h1)) c (List.mem_of_getElem? h2)))
    obtain ⟨ad, e, h1, h2⟩ := ha hne
    exact ⟨ad, e, seal_free h1, h2⟩
  | agg cs vs hl h ih =>
    intro hp
    simp only [V.apart] at hp
    exact .agg cs vs hl fun j c v hj hv => ih j c v hj hv (apartL_get hp c (List.mem_of_getElem? hj))
  | tup cs vs hl h ih =>
    intro hp
    simp only [V.apart] at hp
    exact .tup cs vs hl fun j c v hj hv => ih j c v hj hv (apartL_get hp c (List.mem_of_getElem? hj))
  | iface t x v h ih =>
    intro hp
    simp only [V.apart] at hp
    exact .iface t x v (ih hp)
  | _ => intro hp; simp [V.apart] at hp
/-- .. and back: what lies apart does not lie in what was sealed. -/
theorem Rep.unsealed {w : World} {β β' : Nat → Loc} {H H' : Heap} {L : Nat → Nat} {ss : List Nat} (hL : ∀ r, L r ∈ ss) (hH : ∀ r o, (sealH L H)[r]? = some (some o) → H'[r]? = some (some o) ∧ β' r = β r) {v : V} {u : Value} (h : Rep w β' H' v u) : v.apart ss = true → Rep w β H v u := by
  induction h with
  | int k n => exact fun _ => .int k n
  | bool b => exact fun _ => .bool b
  | tt => exact fun _ => .tt
  | ff => exact fun _ => .ff
  | str s h => exact fun _ => .str s h
  | nilsl => exact fun _ => .nilsl
  | nilp => exact fun _ => .nilp
  | nilf => exact fun _ => .nilf
  | nili => exact fun _ => .nili
  | nilmap => exact fun _ => .nilmap
  | undef v => exact fun _ => .undef v
  | sl sz xs a cap vals hcap hmax hsz ha hr ih =>
    intro hp
    simp only [V.apart, Bool.and_eq_true, Bool.not_eq_true'] at hp
    refine .sl sz xs a cap vals hcap hmax hsz (fun hne => ?_) (fun i x j c h1 h2 => ih i x j c h1 h2 (apart_cells (apartL_get hp.2 x (List.mem_of_getElem? h1)) c (List.mem_of_getElem? h2)))
    obtain ⟨ad, e, h1, h2⟩ := ha hne
    refine ⟨ad, e, ⟨?_, fun r s N hr hb => ?_⟩, h2⟩
    · rintro ⟨r, N, ⟨o, ho, hs⟩, hb⟩
      obtain ⟨k1, k2⟩ := hH r (.held (L r)) (by rw [seal_get, ho]; simp [sealO_open hs])
      have := h1.2 r _ N k1 (k2.trans hb)
      have h3 := hL r
      rw [this] at h3
      have h4 := hp.1
      rw [List.contains_iff_mem.2 h3] at h4
      cases h4
    · obtain ⟨k1, k2⟩ := hH r (.held s) (by rw [seal_get, hr]; rfl)
      exact h1.2 r s N k1 (k2.trans hb)
  | agg cs vs hl h ih =>
    intro hp
    simp only [V.apart] at hp
    exact .agg cs vs hl fun j c v hj hv => ih j c v hj hv (apartL_get hp c (List.mem_of_getElem? hj))
  | tup cs vs hl h ih =>
    intro hp
    simp only [V.apart] at hp
    exact .tup cs vs hl fun j c v hj hv => ih j c v hj hv (apartL_get hp c (List.mem_of_getElem? hj))
  | iface t x v h ih =>
    intro hp
    simp only [V.apart] at hp
    exact .iface t x v (ih hp)
  | _ => intro hp; simp [V.apart] at hp

/-! ### Named rows, lent -/
inductive Lz (B : Base) (L : Nat → Nat) : V → V → Prop
  | wk {x y : V} (h : Wk x y) (hy : y.apart [] = true) : Lz B L x y
  | row (r g sz : Nat) (xs : List V) (h : B r = some (.vec g sz xs)) (hL : L r = sz) (hx : V.apartL [] xs = true) : Lz B L (.osl (.abs r) g 0 xs.length) (.sl sz xs)
  | agg (cs ds : List V) (hl : cs.length = ds.length) (h : ∀ (j : Nat) (c d : V), cs[j]? = some c → ds[j]? = some d → Lz B L c d) : Lz B L (.agg cs) (.agg ds)
  | sl (sz : Nat) (xs ys : List V) (hl : xs.length = ys.length) (hy : ∀ y ∈ ys, okE sz y) (h : ∀ (i : Nat) (x y : V) (j : Nat) (c d : V), xs[i]? = some x → ys[i]? = some y → x.cells[j]? = some c → y.cells[j]? = some d → Lz B L c d) : Lz B L (.sl sz xs) (.sl sz ys)

theorem Lz.rep {B : Base} {L : Nat → Nat} {w : World} {β : Nat → Loc} {H : Heap} (hrel : HRel w β H) (hB : ∀ q o, B q = some o → H[q]? = some (some o)) {x y : V} (h : Lz B L x y) : ∀ {v : Value}, Rep w β H x v → Rep w β (sealH L H) y v := by
  induction h with
  | wk h hy => exact fun {v} hv => (h w β H v hv).sealed L hy
  | row r g sz xs h hL hx =>
    intro v hv
    have hH := hB r _ h
    have hob := hrel.obj r _ hH
    have hvec : ∀ sz2 xs2, H[r]? = some (some (.vec g sz2 xs2)) → sz2 = sz ∧ xs2 = xs := fun sz2 xs2 h2 => by
      rw [hH] at h2
      injection h2 with h2
      injection h2 with h2
      injection h2 with _ e1 e2
      exact ⟨e1.symm, e2.symm⟩
    generalize hn : xs.length = n at hv
    cases hv with
    | oslNil _ _ sz2 xs2 ad hH' hβ =>
      rw [hβ] at hob
      have : xs = [] := hob
      subst this
      exact .sl sz [] ad 0 (fun _ => Go.undef) (Nat.le_refl _) (Nat.zero_le _) (by simp) (fun hne => absurd rfl hne) (fun i x j c hi => by simp at hi)
    | oslBlk _ _ _ _ sz2 xs2 b N ad cap hH' hβ hl hN hcap ha hlen =>
      obtain ⟨rfl, rfl⟩ := hvec _ _ hH'
      rw [hβ] at hob
      obtain ⟨vs, e, _, h1, h2, h3, h4, h5, h6⟩ := hob
      subst hn
      refine .sl sz2 xs2 ad cap (fun j => vs.getD j Go.undef) hl (by omega) h5 (fun hne => ?_) (fun i x j c hi hj => ?_)
      · have h0 : 0 < xs2.length := List.length_pos_iff.2 hne
        have := ha (by omega)
        subst this
        refine ⟨_, rfl, ⟨seal_no _, fun q s N' hq hb => ?_⟩, (Array.getElem?_eq_some_iff.1 h1).1, fun j hj => ?_⟩
        · obtain ⟨o, ho, e⟩ := seal_of hq
          have : q = r := hrel.inj q r b N' N ⟨o, ho⟩ ⟨_, hH⟩ hb hβ
          subst this
          rw [hH] at ho
          injection ho with ho
          injection ho with ho
          subst ho
          injection e with e
          exact e.trans hL
        · have hjv : j < vs.size := by omega
          rw [Nat.zero_mul, at_add, cell_of_row w b j vs e (0, 0) h1]
          simp [hjv]
      · have hlt : i * sz2 + j < vs.size := by
          have e1 := lt_of_get hi
          have e2 := lt_of_get hj
          have e3 := (h5 x (List.mem_of_getElem? hi)).1
          have : (i + 1) * sz2 ≤ xs2.length * sz2 := Nat.mul_le_mul_right _ e1
          rw [Nat.add_mul] at this
          omega
        exact (h6 i x j c (vs.getD (i * sz2 + j) Go.undef) hi hj (by simp [hlt])).sealed L (apart_cells (apartL_get hx x (List.mem_of_getElem? hi)) c (List.mem_of_getElem? hj))
    | oslStale _ _ _ _ g' sz' xs' _ hH' hg =>
      rw [hH] at hH'
      injection hH' with hH'
      injection hH' with hH'
      injection hH' with e0 _ _
      omega
    | oslDead _ _ _ _ _ hd => rw [hH] at hd; cases hd
  | agg cs ds hl h ih =>
    intro v hv
    cases hv with
    | agg _ vs hl' h' =>
      refine .agg ds vs (hl.symm.trans hl') fun j d u hj hu => ?_
      have hjc : j < cs.length := by have := lt_of_get hj; omega
      exact ih j _ d (List.getElem?_eq_getElem hjc) hj (h' j _ u (List.getElem?_eq_getElem hjc) hu)
  | sl sz xs ys hl hy h ih =>
    intro v hv
    generalize hn : xs.length = n at hl
    generalize hq : V.sl sz xs = q at hv
    cases hv with
    | sl sz' xs' a cap vals hcap hmax hsz ha hr =>
      injection hq with e1 e2
      subst e1 e2
      rw [hn, hl]
      refine .sl sz ys a cap vals (by omega) hmax hy (fun hne => ?_) (fun i y j d hi hj => ?_)
      · obtain ⟨ad, k1, k2, k3, k4⟩ := ha (fun e => hne (by rw [e] at hn; exact List.length_eq_zero_iff.1 (by simp at hn; omega)))
        exact ⟨ad, k1, seal_free k2, k3, fun j hj => k4 j (by rw [hn, hl]; exact hj)⟩
      · have hix : i < xs.length := by have := lt_of_get hi; omega
        have hx := List.getElem?_eq_getElem hix
        have hc1 := (hsz _ (List.mem_of_getElem? hx)).1
        have hc2 := (hy _ (List.mem_of_getElem? hi)).1
        have hjx : j < (xs[i]).cells.length := by have := lt_of_get hj; omega
        exact ih i _ y j _ d hx hi (List.getElem?_eq_getElem hjx) hj (hr i _ j _ hx (List.getElem?_eq_getElem hjx))
    | _ => cases hq

/-- .. all at once. -/
def LzL (B : Base) (L : Nat → Nat) : List V → List V → Prop
  | [], [] => True
  | x :: xs, y :: ys => Lz B L x y ∧ LzL B L xs ys
  | _, _ => False
theorem LzL.get {B : Base} {L : Nat → Nat} : ∀ {xs ys : List V}, LzL B L xs ys → xs.length = ys.length ∧ ∀ (j : Nat) (y : V), ys[j]? = some y → ∃ x, xs[j]? = some x ∧ Lz B L x y
  | [], [], _ => ⟨rfl, fun j y h => by simp at h⟩
  | x :: xs, y :: ys, h => by
    obtain ⟨h1, h2⟩ := LzL.get h.2
    refine ⟨by simp [h1], fun j z hz => ?_⟩
    cases j with
    | zero => simp at hz; subst hz; exact ⟨x, rfl, h.1⟩
    | succ j => simpa using h2 j z (by simpa using hz)
  | [], _ :: _, h => h.elim
  | _ :: _, [], h => h.elim

/-- A call that is lent named memory, and hands back what lies apart from it. -/
theorem call_lend {c : Cx} {g : FuncId} {args args' : List V} {E : Env} {T : Heap} {K : V → St → Prop} {Q : V → Prop} (L : Nat → Nat) (ss : List Nat) (hL : ∀ r, L r ∈ ss) (hf : Pure c.P g args' Q) (hz : LzL c.B L args args') (hi : c.imps = []) (ha : V.pureL args = true) (ha' : V.pureL args' = true)
    (hx : ∀ x, Q x → x.apart ss = true) (h : ∀ x, Q x → K x ⟨E, T, c.B, c.D⟩) : CallThen c g args E T K := by
  unfold Pure Fun at hf
  unfold CallThen
  refine ⟨hf.1, fun w β H m a vals cs hs hl hr => ?_⟩
  obtain ⟨hzl, hzg⟩ := hz.get
  have hs0 : SRel [] 0 w β (sealH L H) [] ⟨[], [], fun r => ((sealH L H)[r]?).getD none, []⟩ bare := by
    refine ⟨hs.hrel.sealed L, rfl, fun k => by simp [lk, V.conv]; exact .undef _, rfl, List.nodup_nil, by simp, rfl, fun r h _ => ?_, fun r h1 => ?_, by simp, by simp, by simp, rfl, by simp⟩
    · simp only
      rw [List.getElem?_eq_getElem h]
      rfl
    · simp only
      rw [List.getElem?_eq_none h1]
      rfl
  obtain ⟨x, T', v, w', β', H', m', fr, ⟨rfl, hp, hq⟩, k1, k2, k3, k4⟩ := hf.2 w β (sealH L H) [] _ vals cs hs0 (hzl.symm.trans hl) (fun j y v hj hv => by
    obtain ⟨x0, h1, h2⟩ := hzg j y hj
    have h3 := hr j x0 v h1 hv
    rw [pure_conv _ _ (pureL_mem _ ha x0 (List.mem_of_getElem? h1))] at h3
    rw [pure_conv _ _ (pureL_mem _ ha' y (List.mem_of_getElem? hj))]
    exact h2.rep hs.hrel (fun q o hq => hs.baseAt (by rw [hi]; simp) hq) h3)
  have hm' : m' = [] := List.length_eq_zero_iff.1 k1.mlen
  subst hm'
  have hb : RowKit.Below w.heap.size w w' := ⟨k2.os, k2.tape, k2.output, k2.size, fun q hq => k2.keep q hq (seal_no q)⟩
  have g2 : Fr w β H w' β H := Fr.of_below hb
  rw [pure_conv _ _ hp] at k3
  refine ⟨x, _, v, w', β, H, m, fr, h x hq, hs.same g2 (hs.hrel.of_below hb), g2, ?_, k4.1, k4.2.1, k4.2.2, List.prefix_refl _⟩
  rw [pure_conv _ _ hp]
  refine k3.unsealed hL (fun r o ho => ?_) (hx x hq)
  have hlt : r < (sealH L H).length := lt_of_get ho
  have hH' : H'[r]? = some (some o) := by
    have := k1.base r (Nat.lt_of_lt_of_le hlt k2.len) (by simp)
    simp only at this
    rw [this, ho]
    rfl
  refine ⟨hH', ?_⟩
  obtain ⟨o', _, rfl⟩ := seal_of ho
  obtain ⟨t, e⟩ := sealO_held (L r) o'
  rw [e] at hH'
  exact (k2.seals r t hH').2
end Bow
/- W90: the law TreeopsSame, walked. -/
namespace Bow
open Go Go.Proofs

theorem apart_int {ss : List Nat} : ∀ l : List Int, V.apartL ss (l.map intV) = true
  | [] => rfl
  | i :: l => by rw [List.map_cons, V.apartL, apart_int l]; rfl
theorem apart_attrs {ss : List Nat} : ∀ l : List (List UInt8 × List UInt8), V.apartL ss (l.map attrV) = true
  | [] => rfl
  | i :: l => by rw [List.map_cons, V.apartL, apart_attrs l]; rfl
theorem apart_pieces {ss : List Nat} : ∀ l : List PieceT, V.apartL ss (l.map pieceV) = true
  | [] => rfl
  | i :: l => by rw [List.map_cons, V.apartL, apart_pieces l]; rfl
mutual
theorem apart_node {ss : List Nat} (h : ss.contains 2 = false ∧ ss.contains 6 = false) : ∀ t : Tree, (nodeV t).apart ss = true
  | .mk i l b a c s => by
    rw [show nodeV (.mk i l b a c s) = .agg [.int .u64 i, .bool l, .str b, .sl 2 (a.map attrV), .str c, .sl 6 (nodesV s)] from rfl]
    simp only [V.apart, V.apartL, h.1, h.2, apart_attrs, apart_nodes h s, Bool.not_false, Bool.and_self]
theorem apart_nodes {ss : List Nat} (h : ss.contains 2 = false ∧ ss.contains 6 = false) : ∀ l : List Tree, V.apartL ss (nodesV l) = true
  | [] => by rw [nodesV]; rfl
  | s :: l => by
    have h1 := apart_node h s
    rw [nodesV, V.apartL, apart_nodes h l, Bool.and_true]
    exact h1
end
theorem Lz.aggL {B : Base} {L : Nat → Nat} {xs ys : List V} (h : LzL B L xs ys) : Lz B L (.agg xs) (.agg ys) := by
  have key : ∀ {xs ys : List V}, LzL B L xs ys → ∀ (j : Nat) (c d : V), xs[j]? = some c → ys[j]? = some d → Lz B L c d := by
    intro xs
    induction xs with
    | nil => intro ys h j c d hc; simp at hc
    | cons x xs ih =>
      intro ys h j c d hc hd
      cases ys with
      | nil => exact h.elim
      | cons y ys =>
        cases j with
        | zero => simp at hc hd; subst hc hd; exact h.1
        | succ j => exact ih h.2 j c d (by simpa using hc) (by simpa using hd)
  exact .agg xs ys h.get.1 (key h)
theorem lz_op {B : Base} {ns : Ns} {o : OpT} (h : NsOk B ns o) : Lz B (fun r => if r = ns.s then 3 else 1) (opN ns o) (opV o) := by
  have n1 : ns.p ≠ ns.s := fun e => by
    have := h.path
    rw [e, h.pieces] at this
    injection this with this
    injection this with _ this _
    cases this
  have n2 : ns.t ≠ ns.s := fun e => by
    have := h.to
    rw [e, h.pieces] at this
    injection this with this
    injection this with _ this _
    cases this
  have w : ∀ {x : V}, x.apart [] = true → Lz B (fun r => if r = ns.s then 3 else 1) x x := fun hx => .wk (.refl _) hx
  exact Lz.aggL ⟨w rfl, .row _ _ 1 _ h.path (by simp [n1]) (apart_int _), w rfl, .row _ _ 1 _ h.to (by simp [n2]) (apart_int _), w rfl, w rfl, w rfl, w rfl, w rfl, w rfl, .row _ _ 3 _ h.pieces (by simp) (apart_pieces _), trivial⟩
theorem sameO_bare2 (o : OpT) : sameO o (bareO o) = true := by
  unfold sameO
  rw [bare_bare]
  exact eqO_refl _

set_option maxHeartbeats 4000000 in
set_option maxRecDepth 100000 in
theorem w_TreeopsSame (t : Tree) (a b : OpT) : Pure Try.prog 3 [nodeV t, opV a, opV b] (fun x => x = .bool true) := by
  have hw := w_works08
  refine pure_of_funN (funN_of_goes 60 Try.func3 rfl rfl rfl fun B => ?_) rfl
  show CallThen _ _ _ _ _ _
  refine call_pure (w_Weight t 300 (by decide)) rfl ?_
  rintro z ⟨w, rfl, w1, w2, w3⟩
  refine ⟨fun _ => go 60 ?_, fun g0 => go 60 ?_⟩
  · show CallThen _ _ _ _ _ _
    refine call_pure hw rfl ?_
    rintro x rfl
    exact ⟨trivial, rfl, Ext.refl _, rfl, leaf_b rfl⟩
  have g0 : t.weight ≤ 300 := by
    have := of_decide_eq_false g0
    have := w3 (by omega)
    omega
  show CallThen _ _ _ _ _ _
  refine call_pure (w_LightX a 300 (by decide)) rfl ?_
  rintro x rfl
  refine ⟨fun g1 => go 60 ?_, fun g1 => go 60 ?_⟩
  · show CallThen _ _ _ _ _ _
    refine call_pure hw rfl ?_
    rintro x rfl
    exact ⟨trivial, rfl, Ext.refl _, rfl, leaf_b rfl⟩
  have ha := light_ok (top := 300) (o := a) (by simpa using g1) (by decide)
  show CallThen _ _ _ _ _ _
  refine call_pure (w_LightX b 300 (by decide)) rfl ?_
  rintro x rfl
  refine ⟨fun g2 => go 60 ?_, fun g2 => go 60 ?_⟩
  · show CallThen _ _ _ _ _ _
    refine call_pure hw rfl ?_
    rintro x rfl
    exact ⟨trivial, rfl, Ext.refl _, rfl, leaf_b rfl⟩
  have hb := light_ok (top := 300) (o := b) (by simpa using g2) (by decide)
  have hla := ((lightB_iff a 300).1 (by simpa using g1)).1
  have hc : costO a ≤ 10000 := by
    have h1 := ((lightB_iff a 300).1 (by simpa using g1))
    have h2 := h1.1.label
    have h3 := h1.1.key
    have h4 := h1.1.value
    unfold costO
    omega
  have c1 := w_Apply t a (by omega) ha
  have c2 := w_Apply t (bareO a) (by omega) (bare_ok ha)
  rw [bare_applyR] at c2
  have hbn := w_BareN a ha.lt
  have hbr := w_refBare a ha.lt
  have hbp := w_Bare a ha.lt
  have okd := bare_ok ha
  have e3 := w_SameO a (bareO a) ha.lt okd.lt
  rw [sameO_bare2] at e3
  have wx := applyR_weight t a
  obtain ⟨⟨y, e⟩, hr⟩ : ∃ r, applyR t a = r := ⟨_, rfl⟩
  rw [hr] at c1 c2 wx
  have c3 := w_Same y y (by simp only at wx; omega)
  rw [sameT_refl] at c3
  clear hr
  generalize bareO a = d at c2 hbn hbr hbp okd e3
  have d1 := w_refSame d.path d.path okd.lt.path
  have d2 := w_refSame d.to d.to okd.lt.to
  have d3 := w_kitSamePieces d.pieces d.pieces okd.lt.pieces
  rw [decide_eq_true rfl] at d1 d2 d3
  obtain ⟨np, hkp⟩ : ∃ np, (d.path.map intV).length = np := ⟨_, rfl⟩
  obtain ⟨nq, hkq⟩ : ∃ nq, (d.pieces.map pieceV).length = nq := ⟨_, rfl⟩
  have hnp : np ≤ 1000000 := by have := okd.lt.path; rw [← hkp, List.length_map]; exact this
  have hnq : nq ≤ 1000000 := by have := okd.lt.pieces; rw [← hkq, List.length_map]; exact this
  have e1 := w_SameO a b ha.lt hb.lt
  have e2 := w_refSameO a b ha.lt hb.lt
  show CallThen _ _ _ _ _ _
  refine call_funN hbn rfl ?_
  rintro z N ⟨ns, rfl, n2⟩ _ hN
  have nz : NewNs B ns := n2.fresh hN
  have n2 := n2.ext (N' := Base.add B N) fun q o e => add_new e (hN q o e)
  have hE := Ext.add B N
  clear hN
  generalize Base.add B N = B1 at n2 hE ⊢
  show CallThen _ _ _ _ _ _
  refine call_pure hbr rfl ?_
  rintro z rfl
  show CallThen _ _ _ _ _ _
  refine call_pure c1 rfl ?_
  rintro z rfl
  show CallThen _ _ _ _ _ _
  refine call_lend (fun r => if r = ns.s then 3 else 1) [1, 3] (fun r => by split <;> decide) c2 ⟨.wk (.refl _) (apart_node (by decide) t), lz_op n2, trivial⟩ rfl rfl rfl ?_ ?_
  · rintro z rfl
    show V.apart [1, 3] (.tup [nodeV y, .int .i64 e]) = true
    simp only [V.apart, V.apartL, apart_node (ss := [1, 3]) (by decide), Bool.and_self]
  rintro z rfl
  refine ⟨fun g => absurd g (by simp), fun _ => go 60 ?_⟩
  refine ⟨fun g => absurd g (by simp), fun _ => go 60 ?_⟩
  refine ⟨fun g => absurd g (by simp), fun _ => go 60 ?_⟩
  refine ⟨fun g => absurd g (by simp), fun _ => go 60 ?_⟩
  refine ⟨fun g => absurd g (by simp), fun _ => go 60 ?_⟩
  refine ⟨fun g => absurd g (by simp), fun _ => go 60 ?_⟩
  refine ⟨fun g => absurd g (by simp), fun _ => go 60 ?_⟩
  refine ⟨fun g => absurd g (by simp), fun _ => go 60 ?_⟩
  show CallThen _ _ _ _ _ _
  refine call_flatN d1 ⟨.row _ _ 1 _ n2.path, .wk (.refl _), trivial⟩ rfl rfl rfl rfl ?_
  refine ⟨fun g => (by cases g), fun _ => go 60 ?_⟩
  show CallThen _ _ _ _ _ _
  refine call_flatN d2 ⟨.row _ _ 1 _ n2.to, .wk (.refl _), trivial⟩ rfl rfl rfl rfl ?_
  refine ⟨fun g => (by cases g), fun _ => go 60 ?_⟩
  show CallThen _ _ _ _ _ _
  refine call_flatN d3 ⟨.row _ _ 3 _ n2.pieces, .wk (.refl _), trivial⟩ rfl rfl rfl rfl ?_
  refine ⟨fun g => (by cases g), fun _ => go 60 ?_⟩
  have s0 := n2.shp
  clear n2 c2 c1 d1 d2 d3 hla hc g0 g1 g2 w3
  show Goes { P := Try.prog, nt := Try.f3.ntmps, fn := 3, ro := none, imps := [], X := XN Try.prog Try.f3.results B (fun x _ => x = .bool true), B := B1, D := [] } _ _ _
  refine goes_iterB (ι := Nat) (fun i B' => i ≤ np ∧ Ext B B' ∧ NsShp B' ns d) (fun i => np - i) (fun i => [(13, .int .i64 i), (12, .int .i64 e), (11, .ptr (.loc 6) 0), (10, .int .i64 e), (9, .ptr (.loc 5) 0), (7, .ptr (.loc 3) 0), (5, .ptr (.loc 2) 0), (4, .ptr (.loc 1) 0)])
    (fun _ => [some (.box (nodeV t).cells), some (.box (opV a).cells), some (.box (opV b).cells), some (.box (opN ns d).cells), some (.box (opV d).cells), some (.box (nodeV y).cells), some (.box (nodeV y).cells)]) 0 60 (fun _ => rfl) (fun _ => rfl)
    ⟨⟨Nat.zero_le _, hE, s0⟩, ⟨⟨rfl, rfl⟩, ⟨rfl, rfl⟩, ⟨rfl, rfl⟩, ⟨rfl, rfl⟩, ⟨rfl, rfl⟩, ⟨rfl, rfl⟩, ⟨rfl, rfl⟩, ⟨rfl, rfl⟩, trivial⟩, ⟨⟨rfl, rfl⟩, ⟨rfl, rfl⟩, ⟨rfl, rfl⟩, ⟨rfl, rfl⟩, ⟨rfl, rfl⟩, ⟨rfl, rfl⟩, ⟨rfl, rfl⟩, trivial⟩⟩ ?_
  clear s0 hE
  rintro i Bc ⟨k1, kE, k2⟩ next
  obtain ⟨⟨xs, h1, e1'⟩, _, _⟩ := id k2
  rw [hkp] at e1'
  show Goes _ _ _ _
  refine goes_lenA 60 rfl rfl rfl rfl rfl List.not_mem_nil h1 ?_
  refine ⟨fun hlt => go 60 ?_, fun hge => go 60 ?_⟩
  · have hi : i < np := by have := lt_of hlt; rw [hkp] at this; omega
    show Goes _ _ _ _
    refine goes_indexA 60 rfl rfl rfl rfl rfl rfl rfl rfl List.not_mem_nil h1 (Int.natCast_nonneg i) (by rw [hkp]; omega) ?_
    show Goes _ _ _ _
    refine goes_storeA 60 rfl rfl rfl rfl rfl rfl List.not_mem_nil h1 (by rw [e1', Nat.zero_add]; exact hi) (Nat.le_refl _) fun B' xs' hx hr hq => ?_
    refine ⟨by constructor <;> omega, ?_⟩
    show Goes _ _ _ _
    obtain ⟨s1, hm⟩ := shp_step (ShpEq.refl Bc) (m := [ns.p, ns.t, ns.s]) (fun _ _ => rfl) h1 (by simp) hr hx hq
    exact next (i + 1) B' _ _ ⟨⟨hi, ext_step kE nz hm, k2.to' s1⟩, by omega, ⟨⟨rfl, rfl⟩, ⟨rfl, rfl⟩, ⟨rfl, rfl⟩, ⟨rfl, rfl⟩, ⟨rfl, rfl⟩, ⟨rfl, rfl⟩, ⟨rfl, rfl⟩, ⟨rfl, rfl⟩, trivial⟩, ⟨⟨rfl, rfl⟩, ⟨rfl, rfl⟩, ⟨rfl, rfl⟩, ⟨rfl, rfl⟩, ⟨rfl, rfl⟩, ⟨rfl, rfl⟩, ⟨rfl, rfl⟩, trivial⟩⟩
  clear next
  show Goes _ _ _ _
  refine goes_iterB (ι := Nat) (fun i B' => i ≤ nq ∧ Ext B B' ∧ NsShp B' ns d) (fun i => nq - i) (fun i => [(14, .int .i64 i), (12, .int .i64 e), (11, .ptr (.loc 6) 0), (10, .int .i64 e), (9, .ptr (.loc 5) 0), (7, .ptr (.loc 3) 0), (5, .ptr (.loc 2) 0), (4, .ptr (.loc 1) 0)])
    (fun _ => [some (.box (nodeV t).cells), some (.box (opV a).cells), some (.box (opV b).cells), some (.box (opN ns d).cells), some (.box (opV d).cells), some (.box (nodeV y).cells), some (.box (nodeV y).cells)]) 0 60 (fun _ => rfl) (fun _ => rfl)
    ⟨⟨Nat.zero_le _, kE, k2⟩, ⟨⟨rfl, rfl⟩, ⟨rfl, rfl⟩, ⟨rfl, rfl⟩, ⟨rfl, rfl⟩, ⟨rfl, rfl⟩, ⟨rfl, rfl⟩, ⟨rfl, rfl⟩, ⟨rfl, rfl⟩, trivial⟩, ⟨⟨rfl, rfl⟩, ⟨rfl, rfl⟩, ⟨rfl, rfl⟩, ⟨rfl, rfl⟩, ⟨rfl, rfl⟩, ⟨rfl, rfl⟩, ⟨rfl, rfl⟩, trivial⟩⟩ ?_
  clear k1 kE k2 h1 e1' hge xs
  rintro i Bc ⟨k1, kE, k2⟩ next
  obtain ⟨_, _, ⟨xs, h1, e1'⟩⟩ := id k2
  rw [hkq] at e1'
  show Goes _ _ _ _
  refine goes_lenA 60 rfl rfl rfl rfl rfl List.not_mem_nil h1 ?_
  refine ⟨fun hlt => go 60 ?_, fun hge => go 60 ?_⟩
  · have hi : i < nq := by have := lt_of hlt; rw [hkq] at this; omega
    show Goes _ _ _ _
    refine goes_indexA 60 rfl rfl rfl rfl rfl rfl rfl rfl List.not_mem_nil h1 (Int.natCast_nonneg i) (by rw [hkq]; omega) ?_
    show Goes _ _ _ _
    refine goes_fieldA 60 rfl rfl rfl rfl rfl rfl rfl rfl List.not_mem_nil h1 ?_
    show Goes _ _ _ _
    refine goes_storeA 60 rfl rfl rfl rfl rfl rfl List.not_mem_nil h1 (by rw [e1', Nat.zero_add]; exact hi) (by decide) fun B' xs' hx hr hq => ?_
    refine ⟨by constructor <;> omega, ?_⟩
    show Goes _ _ _ _
    obtain ⟨s1, hm⟩ := shp_step (ShpEq.refl Bc) (m := [ns.p, ns.t, ns.s]) (fun _ _ => rfl) h1 (by simp) hr hx hq
    exact next (i + 1) B' _ _ ⟨⟨hi, ext_step kE nz hm, k2.to' s1⟩, by omega, ⟨⟨rfl, rfl⟩, ⟨rfl, rfl⟩, ⟨rfl, rfl⟩, ⟨rfl, rfl⟩, ⟨rfl, rfl⟩, ⟨rfl, rfl⟩, ⟨rfl, rfl⟩, ⟨rfl, rfl⟩, trivial⟩, ⟨⟨rfl, rfl⟩, ⟨rfl, rfl⟩, ⟨rfl, rfl⟩, ⟨rfl, rfl⟩, ⟨rfl, rfl⟩, ⟨rfl, rfl⟩, ⟨rfl, rfl⟩, trivial⟩⟩
  clear next
  show Goes _ _ _ _
  refine goes_draw 60 ?_
  refine ⟨_, e1, rfl, _, e2, rfl, ?_⟩
  refine ⟨fun q => ?_, fun q => absurd q (by simp)⟩
  refine ⟨_, hbp, rfl, _, e3, rfl, ?_⟩
  refine ⟨fun _ => ?_, fun q => (by cases q)⟩
  refine ⟨fun _ => ?_, fun q => absurd q (by simp)⟩
  refine ⟨_, c3, rfl, ?_⟩
  refine ⟨fun _ => ?_, fun q => (by cases q)⟩
  refine ⟨_, hw, rfl, ?_⟩
  refine ⟨by kernel_rfl, ?_⟩
  exact ⟨trivial, rfl, kE, rfl, leaf_b rfl⟩
end Bow
/- TD1: what is read as data at the program's types. -/
namespace Bow
open Go Go.Proofs

theorem take1 {vs : List V} {c : V} (h : vs.take 1 = [c]) : ∃ r, vs = c :: r ∧ vs.drop 1 = r := by
  cases vs with
  | nil => simp at h
  | cons x r => simp at h; subst h; exact ⟨r, rfl, rfl⟩

theorem map_exists {α β : Type} {f : α → V} {g : β → V} : ∀ {xs : List α}, (∀ x ∈ xs, ∃ y, f x = g y) → ∃ ys : List β, xs.map f = ys.map g
  | [], _ => ⟨[], rfl⟩
  | x :: xs, h => by
    obtain ⟨y, hy⟩ := h x List.mem_cons_self
    obtain ⟨ys, hys⟩ := map_exists (xs := xs) fun z hz => h z (List.mem_cons_of_mem _ hz)
    exact ⟨y :: ys, by simp [hy, hys]⟩

theorem vt_str {n : Nat} {vs : List V} (h : VT Try.prog n 9 vs) : ∃ s, vs = [.str s] := by
  cases n with
  | zero => exact h.elim
  | succ n =>
    obtain ⟨s, e, _⟩ : ∃ s : List UInt8, vs = [.str s] ∧ s.length ≤ maxLen := h
    exact ⟨s, e⟩
theorem vt_bool {n : Nat} {vs : List V} (h : VT Try.prog n 4 vs) : ∃ b, vs = [.bool b] := by
  cases n with
  | zero => exact h.elim
  | succ n => exact h
theorem vt_int {n : Nat} {vs : List V} (h : VT Try.prog n 3 vs) : ∃ i, vs = [.int .i64 i] ∧ (Lit.int .i64 i).wf = true := by
  cases n with
  | zero => exact h.elim
  | succ n => exact h
theorem vt_u64 {n : Nat} {vs : List V} (h : VT Try.prog n 22 vs) : ∃ i, vs = [.int .u64 i] := by
  cases n with
  | zero => exact h.elim
  | succ n =>
    obtain ⟨s, e, _⟩ : ∃ s : Int, vs = [.int .u64 s] ∧ (Lit.int .u64 s).wf = true := h
    exact ⟨s, e⟩
theorem vt_u8 {n : Nat} {vs : List V} (h : VT Try.prog n 5 vs) : ∃ i, vs = [.int .u8 i] := by
  cases n with
  | zero => exact h.elim
  | succ n =>
    obtain ⟨s, e, _⟩ : ∃ s : Int, vs = [.int .u8 s] ∧ (Lit.int .u8 s).wf = true := h
    exact ⟨s, e⟩
set_option maxRecDepth 100000 in
theorem vt_attr {n : Nat} {vs : List V} (h : VT Try.prog n 53 vs) : ∃ a, vs = (attrV a).cells := by
  cases n with
  | zero => exact h.elim
  | succ n =>
    obtain ⟨h0, h1, h2⟩ : VT Try.prog n 9 (vs.take 1) ∧ VT Try.prog n 9 ((vs.drop 1).take 1) ∧ (vs.drop 1).drop 1 = [] := h
    obtain ⟨a, e0⟩ := vt_str h0
    obtain ⟨b, e1⟩ := vt_str h1
    obtain ⟨r, rfl, d0⟩ := take1 e0
    rw [d0] at e1 h2
    obtain ⟨r1, rfl, d1⟩ := take1 e1
    rw [d1] at h2
    subst h2
    exact ⟨(a, b), rfl⟩
set_option maxRecDepth 100000 in
theorem vt_attrs {n : Nat} {vs : List V} (h : VT Try.prog n 23 vs) : ∃ l : List (List UInt8 × List UInt8), vs = [.sl 2 (l.map attrV)] := by
  cases n with
  | zero => exact h.elim
  | succ n =>
    obtain ⟨xs, e, _, hx⟩ : ∃ xs : List (List V), vs = [.sl 2 (xs.map (mkX Try.prog 53))] ∧ xs.length ≤ maxLen ∧ ∀ x ∈ xs, VT Try.prog n 53 x := h
    obtain ⟨l, hl⟩ := map_exists (f := mkX Try.prog 53) (g := attrV) (xs := xs) fun x hm => by
      obtain ⟨a, rfl⟩ := vt_attr (hx x hm)
      exact ⟨a, rfl⟩
    exact ⟨l, by rw [e, hl]⟩

set_option maxRecDepth 100000 in
theorem vt_node : ∀ (n : Nat) (vs : List V), VT Try.prog n 26 vs → ∃ t : Tree, vs = (nodeV t).cells := by
  intro n
  induction n using Nat.strongRecOn with
  | _ n ih =>
    intro vs h
    cases n with
    | zero => exact h.elim
    | succ n =>
      obtain ⟨h0, h1, h2, h3, h4, h5, h6⟩ : VT Try.prog n 22 (vs.take 1) ∧ VT Try.prog n 4 ((vs.drop 1).take 1) ∧ VT Try.prog n 9 (((vs.drop 1).drop 1).take 1) ∧ VT Try.prog n 23 ((((vs.drop 1).drop 1).drop 1).take 1) ∧
        VT Try.prog n 9 (((((vs.drop 1).drop 1).drop 1).drop 1).take 1) ∧ VT Try.prog n 24 ((((((vs.drop 1).drop 1).drop 1).drop 1).drop 1).take 1) ∧ (((((vs.drop 1).drop 1).drop 1).drop 1).drop 1).drop 1 = [] := h
      obtain ⟨i, e0⟩ := vt_u64 h0
      obtain ⟨l, e1⟩ := vt_bool h1
      obtain ⟨s, e2⟩ := vt_str h2
      obtain ⟨a, e3⟩ := vt_attrs h3
      obtain ⟨x, e4⟩ := vt_str h4
      obtain ⟨r, rfl, d0⟩ := take1 e0
      rw [d0] at e1 e2 e3 e4 h5 h6
      obtain ⟨r, rfl, d0⟩ := take1 e1
      rw [d0] at e2 e3 e4 h5 h6
      obtain ⟨r, rfl, d0⟩ := take1 e2
      rw [d0] at e3 e4 h5 h6
      obtain ⟨r, rfl, d0⟩ := take1 e3
      rw [d0] at e4 h5 h6
      obtain ⟨r, rfl, d0⟩ := take1 e4
      rw [d0] at h5 h6
      cases n with
      | zero => exact h5.elim
      | succ n =>
        obtain ⟨xs, e5, _, hx⟩ : ∃ xs : List (List V), r.take 1 = [.sl 6 (xs.map (mkX Try.prog 26))] ∧ xs.length ≤ maxLen ∧ ∀ x ∈ xs, VT Try.prog n 26 x := h5
        obtain ⟨ts, hts⟩ := map_exists (f := mkX Try.prog 26) (g := nodeV) (xs := xs) fun x hm => by
          obtain ⟨t, rfl⟩ := ih n (by omega) x (hx x hm)
          exact ⟨t, rfl⟩
        obtain ⟨r, rfl, d0⟩ := take1 e5
        rw [d0] at h6
        subst h6
        refine ⟨.mk i l s a x ts, ?_⟩
        rw [hts]
        simp only [nodeV, Tree.id, Tree.leaf, Tree.label, Tree.attrs, Tree.text, subV_eq, Tree.subs, V.cells]

theorem rep_of_cells {w : World} {vs : List V} {cs : Array Value} (h : RowRep w β0 [] vs cs.toList) : Rep w β0 [] (.agg vs) (.agg cs) :=
  .agg vs cs (by simpa using h.1) fun j c v hj hv => h.2 j c v hj (by simpa using hv)

set_option maxRecDepth 100000 in
/-- A node that is handed over. -/
theorem node_arg {H : Type} {enc : TypeId × Value → H} {w : World} {r : Reach} {base b0 : Nat} {sp : Nat → Bool} {held : Bool} {v : Value} {d : DataW H} {p : List MemPlace} (ho : Value.okWide Try.prog w r b0 26 v) (h : DataW.Trod enc Try.prog w base sp held 26 v d p) :
    ∃ t : Tree, Rep w β0 [] (nodeV t) v := by
  obtain ⟨fuel, hf⟩ := h
  obtain ⟨cs, rfl, _, _⟩ : ∃ cs, v = .agg cs ∧ cs.size = Try.prog.cellsOf 26 ∧ Row.okWide Try.prog w r b0 26 cs := ho
  obtain ⟨vs, h1, _, h3⟩ := read_data (G := [26, 24, 23, 53, 9, 22, 4]) (by kernel_rfl) fuel _ _ _ (by kernel_rfl) hf
  obtain ⟨t, rfl⟩ := vt_node _ _ h3
  exact ⟨t, rep_of_cells h1⟩
end Bow
/- TD2: operations that are read as data. -/
namespace Bow
open Go Go.Proofs

set_option maxRecDepth 100000 in
theorem vt_path {n : Nat} {vs : List V} (h : VT Try.prog n 27 vs) : ∃ l : List Int, vs = [pathV l] ∧ l.length ≤ maxLen ∧ ∀ i ∈ l, (Lit.int .i64 i).wf = true := by
  cases n with
  | zero => exact h.elim
  | succ n =>
    obtain ⟨xs, e, hl, hx⟩ : ∃ xs : List (List V), vs = [.sl 1 (xs.map (mkX Try.prog 3))] ∧ xs.length ≤ maxLen ∧ ∀ x ∈ xs, VT Try.prog n 3 x := h
    have key : ∀ xs : List (List V), (∀ x ∈ xs, VT Try.prog n 3 x) → ∃ l : List Int, xs.map (mkX Try.prog 3) = l.map intV ∧ ∀ i ∈ l, (Lit.int .i64 i).wf = true := by
      intro xs
      induction xs with
      | nil => intro _; exact ⟨[], rfl, by simp⟩
      | cons x xs ih =>
        intro hx
        obtain ⟨i, rfl, hw⟩ := vt_int (hx x List.mem_cons_self)
        obtain ⟨l, e, hl⟩ := ih fun z hz => hx z (List.mem_cons_of_mem _ hz)
        refine ⟨i :: l, by simp only [List.map_cons, e]; rfl, fun j hj => ?_⟩
        rcases List.mem_cons.1 hj with rfl | hj
        · exact hw
        · exact hl j hj
    obtain ⟨l, e1, e2⟩ := key xs hx
    refine ⟨l, by rw [e, e1]; rfl, ?_, e2⟩
    have := congrArg List.length e1
    simp at this
    omega
set_option maxRecDepth 100000 in
theorem vt_piece {n : Nat} {vs : List V} (h : VT Try.prog n 41 vs) : ∃ p, vs = (pieceV p).cells := by
  cases n with
  | zero => exact h.elim
  | succ n =>
    obtain ⟨h0, h1, h2, h3⟩ : VT Try.prog n 3 (vs.take 1) ∧ VT Try.prog n 3 ((vs.drop 1).take 1) ∧ VT Try.prog n 9 (((vs.drop 1).drop 1).take 1) ∧ ((vs.drop 1).drop 1).drop 1 = [] := h
    obtain ⟨a, e0, _⟩ := vt_int h0
    obtain ⟨b, e1, _⟩ := vt_int h1
    obtain ⟨s, e2⟩ := vt_str h2
    obtain ⟨r, rfl, d0⟩ := take1 e0
    rw [d0] at e1 e2 h3
    obtain ⟨r1, rfl, d1⟩ := take1 e1
    rw [d1] at e2 h3
    obtain ⟨r2, rfl, d2⟩ := take1 e2
    rw [d2] at h3
    subst h3
    exact ⟨⟨a, b, s⟩, rfl⟩
set_option maxRecDepth 100000 in
theorem vt_pieces {n : Nat} {vs : List V} (h : VT Try.prog n 28 vs) : ∃ l : List PieceT, vs = [piecesV l] := by
  cases n with
  | zero => exact h.elim
  | succ n =>
    obtain ⟨xs, e, _, hx⟩ : ∃ xs : List (List V), vs = [.sl 3 (xs.map (mkX Try.prog 41))] ∧ xs.length ≤ maxLen ∧ ∀ x ∈ xs, VT Try.prog n 41 x := h
    obtain ⟨l, hl⟩ := map_exists (f := mkX Try.prog 41) (g := pieceV) (xs := xs) fun x hm => by
      obtain ⟨a, rfl⟩ := vt_piece (hx x hm)
      exact ⟨a, rfl⟩
    exact ⟨l, by rw [e, hl]; rfl⟩

set_option maxRecDepth 100000 in
theorem vt_op {n : Nat} {vs : List V} (h : VT Try.prog n 30 vs) : ∃ o, vs = (opV o).cells := by
  cases n with
  | zero => exact h.elim
  | succ n =>
    obtain ⟨h0, h⟩ : VT Try.prog n 5 (vs.take 1) ∧ _ := h
    obtain ⟨a0, e0⟩ := vt_u8 h0
    obtain ⟨r, rfl, d0⟩ := take1 e0
    obtain ⟨h1, h⟩ : VT Try.prog n 27 (r.take 1) ∧ _ := h
    obtain ⟨a1, e1, _⟩ := vt_path h1
    obtain ⟨r, rfl, d0⟩ := take1 e1
    obtain ⟨h2, h⟩ : VT Try.prog n 3 (r.take 1) ∧ _ := h
    obtain ⟨a2, e2, _⟩ := vt_int h2
    obtain ⟨r, rfl, d0⟩ := take1 e2
    obtain ⟨h3, h⟩ : VT Try.prog n 27 (r.take 1) ∧ _ := h
    obtain ⟨a3, e3, _⟩ := vt_path h3
    obtain ⟨r, rfl, d0⟩ := take1 e3
    obtain ⟨h4, h⟩ : VT Try.prog n 22 (r.take 1) ∧ _ := h
    obtain ⟨a4, e4⟩ := vt_u64 h4
    obtain ⟨r, rfl, d0⟩ := take1 e4
    obtain ⟨h5, h⟩ : VT Try.prog n 4 (r.take 1) ∧ _ := h
    obtain ⟨a5, e5⟩ := vt_bool h5
    obtain ⟨r, rfl, d0⟩ := take1 e5
    obtain ⟨h6, h⟩ : VT Try.prog n 9 (r.take 1) ∧ _ := h
    obtain ⟨a6, e6⟩ := vt_str h6
    obtain ⟨r, rfl, d0⟩ := take1 e6
    obtain ⟨h7, h⟩ : VT Try.prog n 9 (r.take 1) ∧ _ := h
    obtain ⟨a7, e7⟩ := vt_str h7
    obtain ⟨r, rfl, d0⟩ := take1 e7
    obtain ⟨h8, h⟩ : VT Try.prog n 9 (r.take 1) ∧ _ := h
    obtain ⟨a8, e8⟩ := vt_str h8
    obtain ⟨r, rfl, d0⟩ := take1 e8
    obtain ⟨h9, h⟩ : VT Try.prog n 4 (r.take 1) ∧ _ := h
    obtain ⟨a9, e9⟩ := vt_bool h9
    obtain ⟨r, rfl, d0⟩ := take1 e9
    obtain ⟨h10, h⟩ : VT Try.prog n 28 (r.take 1) ∧ _ := h
    obtain ⟨a10, e10⟩ := vt_pieces h10
    obtain ⟨r, rfl, d0⟩ := take1 e10
    have h : r = [] := h
    subst h
    exact ⟨⟨a0, a1, a2, a3, a4, a5, a6, a7, a8, a9, a10⟩, rfl⟩
set_option maxRecDepth 100000 in
/-- An operation that is handed over. -/
theorem op_arg {H : Type} {enc : TypeId × Value → H} {w : World} {r : Reach} {base b0 : Nat} {sp : Nat → Bool} {held : Bool} {v : Value} {d : DataW H} {p : List MemPlace} (ho : Value.okWide Try.prog w r b0 30 v) (h : DataW.Trod enc Try.prog w base sp held 30 v d p) :
    ∃ o : OpT, Rep w β0 [] (opV o) v := by
  obtain ⟨fuel, hf⟩ := h
  obtain ⟨cs, rfl, _, _⟩ : ∃ cs, v = .agg cs ∧ cs.size = Try.prog.cellsOf 30 ∧ Row.okWide Try.prog w r b0 30 cs := ho
  obtain ⟨vs, h1, _, h3⟩ := read_data (G := [30, 27, 28, 41, 3, 9, 22, 5, 4]) (by kernel_rfl) fuel _ _ _ (by kernel_rfl) hf
  obtain ⟨t, rfl⟩ := vt_op h3
  exact ⟨t, rep_of_cells h1⟩
end Bow
