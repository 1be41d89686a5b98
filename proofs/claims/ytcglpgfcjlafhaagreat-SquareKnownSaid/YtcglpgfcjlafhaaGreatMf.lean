/- The library, part 6: AE45, AE46, W76, W77, W78, SP28, W67, SP27, SP31. -/
import Derived.Test.YtcglpgfcjlafhaaGreatMe
import Derived.Test.YtcglpgfcjlafhaaGreatMc
import Derived.Test.YtcglpgfcjlafhaaGreatMd
/- AE45: own memory under names: calls that hand back named memory, calls that write over it, calls that only read it; stores into it. -/
namespace Bow
open Go

def Ext (B B' : Base) : Prop := ∀ q o, B q = some o → B' q = some o
/-- What stands in B' and not in B. -/
def newPart (B B' : Base) : Base := fun q => match B q with | some _ => none | none => B' q
def Base.add (B N : Base) : Base := fun q => match B q with | some o => some o | none => N q
theorem Ext.refl (B : Base) : Ext B B := fun _ _ h => h
theorem Ext.trans {A B C : Base} (h : Ext A B) (k : Ext B C) : Ext A C := fun q o e => k q o (h q o e)
theorem Ext.add (B N : Base) : Ext B (B.add N) := fun q o h => by simp [Base.add, h]
theorem add_new {B N : Base} {q : Nat} {o : HObj} (h : N q = some o) (hb : B q = none) : (B.add N) q = some o := by simp [Base.add, h, hb]
theorem newPart_get {B B' : Base} {q : Nat} {o : HObj} (h : B' q = some o) (hb : B q = none) : newPart B B' q = some o := by simp [newPart, h, hb]
theorem newPart_old {B B' : Base} {q : Nat} {o : HObj} (h : newPart B B' q = some o) : B q = none ∧ B' q = some o := by
  unfold newPart at h
  split at h
  · cases h
  · rename_i hb; exact ⟨hb, h⟩
theorem newPart_ext {B B' B'' : Base} (h : Ext B' B'') : Ext (newPart B B') (newPart B B'') := fun q o e => by
  obtain ⟨h1, h2⟩ := newPart_old e
  exact newPart_get (h q o h2) h1
theorem newPart_add {B B' N : Base} (h : Ext B B') (hn : ∀ q o, N q = some o → B' q = none) : Ext N (newPart B (B'.add N)) := fun q o e => by
  refine newPart_get (add_new e (hn q o e)) ?_
  cases hb : B q with
  | none => rfl
  | some o' => have := h q o' hb; rw [hn q o e] at this; cases this
theorem Ext.eq_add {B B' : Base} (h : Ext B B') : B' = B.add (newPart B B') := by
  funext q
  unfold Base.add newPart
  cases hb : B q with
  | none => rfl
  | some o => exact h q o hb

mutual
theorem V.conv_pure (m : List Nat) : ∀ v : V, (v.conv m).pureB = true
  | .osl r _ _ _ | .ptr r _ | .eptr r _ _ _ | .yld r => by
    cases r with
    | loc k =>
      simp only [V.conv, Ref.conv]
      cases m[k]? <;> rfl
    | abs n => rfl
    | bad => rfl
  | .agg cs | .tup cs => by simp only [V.conv, V.pureB]; exact V.convL_pure m cs
  | .fn _ a c => by simp only [V.conv, V.pureB, Bool.and_eq_true]; exact ⟨V.convL_pure m a, V.convL_pure m c⟩
  | .iface _ v => by simp only [V.conv, V.pureB]; exact V.conv_pure m v
  | .int .. | .bool _ | .tt | .ff | .str _ | .sl .. | .nilsl | .iptr .. | .nilp | .nilf | .nili | .nilmap | .undef => rfl
theorem V.convL_pure (m : List Nat) : ∀ vs : List V, V.pureL (V.convL m vs) = true
  | [] => rfl
  | v :: vs => by simp only [V.convL, V.pureL, Bool.and_eq_true]; exact ⟨V.conv_pure m v, V.convL_pure m vs⟩
end

/-! ### Functions that hand back memory of their own, under names -/
@[irreducible] def FunN (P : Program) (g : FuncId) (args : List V) (Q : V → Base → Prop) : Prop :=
  Enterable P g ∧ ∀ (w : World) (β : Nat → Loc) (H : Heap) (B : Base) (vals : Array Value) (cs : List Frame), SRel [] 0 w β H [] ⟨[], [], B, []⟩ bare → args.length = vals.size →
    (∀ (j : Nat) (x : V) (v : Value), args[j]? = some x → vals[j]? = some v → Rep w β H x v) →
    ∃ (x : V) (N : Base) (v : Value) (w' : World) (β' : Nat → Loc) (H' : Heap) (fr : Frame), Q x N ∧ (∀ q o, N q = some o → B q = none) ∧ SRel [] 0 w' β' H' [] ⟨[], [], B.add N, []⟩ bare ∧ Fr w β H w' β' H' ∧ Rep w' β' H' x v ∧ x.pureB = true ∧
      Steps P (lone (Frame.enter P g vals .normal) cs w) (lone fr cs w') ∧ fr.fn = g ∧ fr.leaving P w' (.returned v)

theorem FunN.mono {P : Program} {g : FuncId} {args : List V} {Q Q' : V → Base → Prop} (h : FunN P g args Q) (hq : ∀ x N, Q x N → Q' x N) : FunN P g args Q' := by
  unfold FunN at *
  refine ⟨h.1, fun w β H B vals cs hs hl hr => ?_⟩
  obtain ⟨x, N, v, w', β', H', fr, k, r⟩ := h.2 w β H B vals cs hs hl hr
  exact ⟨x, N, v, w', β', H', fr, hq _ _ k, r⟩

/-- What a body's end has to be, there. -/
def XN (P : Program) (rs : Array ResultVar) (B : Base) (Q : V → Base → Prop) (e : Exit) (s : St) : Prop :=
  (match e with | .normal | .ret => True | _ => False) ∧ s.D = [] ∧ Ext B s.B ∧ resK P [] s.B rs.toList s.E s.T False fun xs => frz (resV xs) s.T False fun x _ => x.pureB = true ∧ ∃ y, Wk x y ∧ y.pureB = true ∧ Q y (newPart B s.B)

theorem funN_of_goes {P : Program} {g : FuncId} {fn : Func} {body : Code} {args : List V} {Q : V → Base → Prop} (n : Nat) (hf : P.funcs[g]? = some fn) (hn : (fn.name == "runtime.NumGoroutine") = false) (hb : fn.body = some body) (hnt : Nat.ble args.length fn.ntmps = true)
    (h : ∀ B : Base, evp { P := P, nt := fn.ntmps, fn := g, ro := none, imps := [], X := XN P fn.results B Q, B := B, D := [] } n [.code body] (env0 0 args) []) : FunN P g args Q := by
  unfold FunN
  refine ⟨⟨fn, hf, hn, by rw [hb]; rfl⟩, fun w β H B vals cs hs hl hr => ?_⟩
  have hnt := Nat.le_of_ble_eq_true hnt
  have gg := evp_sound _ _ _ _ _ (h B)
  unfold Goes at gg
  let b : Frame := { fn := g, tmps := #[], todo := [], defers := [], mode := .run, kind := .normal }
  let a : Act := { tmps := vals ++ Array.replicate (fn.ntmps - vals.size) Go.undef, defers := [] }
  have henter : Frame.enter P g vals .normal = b.atR a [.code body] := by
    simp [Frame.enter, Frame.atR, hf, hb, b, a]
  have hasz : a.tmps.size = fn.ntmps := by simp [a]; omega
  have hrc : ∀ (j : Nat) (x : V) (v : Value), args[j]? = some x → vals[j]? = some v → Rep w β H (x.conv []) v := fun j x v hj hv => by
    rw [conv_of_rep [] x (hr j x v hj hv)]
    exact hr j x v hj hv
  have hget : ∀ k, Rep w β H ((lk (env0 0 args) k).conv []) (a.tmps.getD k Go.undef) := by
    intro k
    rw [lk_env0]
    simp only [Nat.zero_le, if_true, Nat.sub_zero]
    cases hk : args[k]? with
    | none => exact .undef _
    | some x =>
      have hkl := lt_of_get hk
      have hkv : k < vals.size := by omega
      have e : a.tmps.getD k Go.undef = vals[k] := by
        simp only [a, Array.getD_eq_getD_getElem?]
        rw [Array.getElem?_append_left hkv]
        simp [hkv]
      rw [e]
      exact hrc k x vals[k] hk (Array.getElem?_eq_getElem hkv)
  have hs0 : SRel [] fn.ntmps w β H [] ⟨env0 0 args, [], B, []⟩ a := by
    refine ⟨hs.hrel, hasz, hget, hs.mlen, hs.nodup, hs.loc, hs.imp, hs.base, hs.fut, hs.own, fun p hp => ?_, hs.scT, rfl, by simp⟩
    obtain ⟨k, hk, hx⟩ := List.mem_iff_getElem.1 (env0_mem 0 args p hp)
    have hkv : k < vals.size := by omega
    exact sc_of_rep (m := []) p.2 (hrc k p.2 vals[k] (by rw [List.getElem?_eq_getElem hk, hx]) (Array.getElem?_eq_getElem hkv))
  obtain ⟨e, s', w', β', H', m', a', hX, hs', hfr, hend⟩ := gg w β H [] a b cs hs0 rfl rfl rfl
  obtain ⟨E', T1, B', D'⟩ := s'
  obtain ⟨he, hD, hB, hres⟩ := hX
  simp only at hD hB hres
  subst hD
  rcases resK_sound (c := { P := P, nt := fn.ntmps, fn := g, ro := none, imps := [], X := fun _ _ => True, B := B', D := [] }) _ _ _ _ hres with h | ⟨xs, hq, hx⟩
  · exact h.elim
  obtain ⟨vs, h1, h2, h3⟩ := hx w' β' H' m' a' hs'
  have hrun := run_results h1
  have hrep : Rep w' β' H' ((resV xs).conv m') (if h : vs.toArray.size = 1 then vs.toArray[0] else .tuple vs.toArray) := by
    by_cases h1 : vs.length = 1
    · rw [dif_pos (by simpa using h1)]
      match xs, h2, h3 with
      | [x], _, h3 => exact h3 0 x _ rfl (by simp [h1])
      | [], h2, _ => simp at h2; omega
      | _ :: _ :: _, h2, _ => simp at h2; omega
    · rw [dif_neg (by simpa using h1)]
      have e : resV xs = .tup xs := by
        match xs, h2 with
        | [x], h2 => simp at h2; omega
        | [], _ => rfl
        | _ :: _ :: _, _ => rfl
      rw [e]
      simp only [V.conv, V.convL_eq]
      refine .tup _ _ (by simp [h2]) fun j c v hj hv => ?_
      simp only [List.getElem?_map, Option.map_eq_some_iff] at hj
      obtain ⟨x, hj, rfl⟩ := hj
      exact h3 j x v hj (by simpa using hv)
  -- what is handed back is frozen; the rest is let go
  rcases frz_sound hq with hq | ⟨x', T2, hq, hfz⟩
  · exact hq.elim
  obtain ⟨H1, g1, g2, g3⟩ := hfz.2 _ _ _ _ _ _ _ _ _ _ hs'.bare
  obtain ⟨m2, H2, e1, e2, e3⟩ := SRel.dropTo (T := []) T2 g1 (by simp) (by simp) (by simp) (by simp)
  have hm2 : m2 = [] := List.length_eq_zero_iff.1 e1.mlen
  subst hm2
  have hrep' := (g3 0 _ x' _ rfl rfl hrep).mono e2
  obtain ⟨hp0, y, hw, hyp, hq⟩ := hq
  have hrep' := hw _ _ _ _ hrep'
  rw [hB.eq_add] at e1
  have hdef : a'.defers = [] := List.length_eq_zero_iff.1 hs'.defs
  cases e with
  | normal =>
    refine ⟨y, newPart B B', _, w', β', H2, { b.atR a' [] with mode := .returning }, hq, fun q o h => (newPart_old h).1, e1, (hfr.trans g2).trans e2, hrep', hyp, ?_, rfl, ?_⟩
    · rw [henter]
      exact Steps.trans hend (.one (stepR_end rfl))
    · exact ⟨rfl, hdef, rfl, fn, hf, hrun⟩
  | ret =>
    obtain ⟨k, hend⟩ := hend
    refine ⟨y, newPart B B', _, w', β', H2, { b.atR a' (.code .ret :: k) with mode := .returning }, hq, fun q o h => (newPart_old h).1, e1, (hfr.trans g2).trans e2, hrep', hyp, ?_, rfl, ?_⟩
    · rw [henter]
      exact Steps.trans hend (.one (stepR_ret rfl))
    · exact ⟨rfl, hdef, rfl, fn, hf, hrun⟩
  | exit id => exact he.elim
  | goto l => exact he.elim
  | panic ch => exact he.elim
  | outgrown => exact he.elim

section
variable {w w' : World} {β β' : Nat → Loc} {H H' : Heap}
/-- What a function with nothing of its own sees of a world. -/
theorem seen {imps : List Nat} {nt : Nat} {m : List Nat} {s : St} {a : Act} (hs : SRel imps nt w β H m s a) : SRel [] 0 w β H [] ⟨[], [], fun r => (H[r]?).getD none, []⟩ bare := by
  refine ⟨hs.hrel, rfl, fun k => by simp [lk, V.conv]; exact .undef _, rfl, List.nodup_nil, by simp, rfl, fun r h _ => ?_, fun r h1 => ?_, by simp, by simp, by simp, rfl, by simp⟩
  · simp [h]
  · simp [List.getElem?_eq_none h1]
end

/-- Out of a function whose objects all are there when it ends. -/
theorem funN_of_fun {P : Program} {g : FuncId} {args : List V} {Q : V → Heap → Prop} (h : Fun P g [] args Q) (ha : V.pureL args = true) (hl : ∀ x T', Q x T' → allLive T' = true) :
    FunN P g args fun x N => ∃ x' T' m', Q x' T' ∧ x = x'.conv m' ∧ m'.length = T'.length ∧ m'.Nodup ∧ ∀ (k q : Nat) (o : HObj), m'[k]? = some q → T'[k]? = some (some o) → N q = some (o.conv m') := by
  unfold Fun at h
  unfold FunN
  refine ⟨h.1, fun w β H B vals cs hs hlen hr => ?_⟩
  obtain ⟨x, T', v, w', β', H', m', fr, hq, k1, k2, k3, k4, k5, k6⟩ := h.2 w β H [] B vals cs hs hlen (fun j x v hj hv => by
    rw [pure_conv _ _ (pureL_mem _ ha x (List.mem_of_getElem? hj))]
    exact hr j x v hj hv)
  have hlive := hl x T' hq
  have hml : m'.length = T'.length := k1.mlen
  have hobj : ∀ (k q : Nat), m'[k]? = some q → ∃ o, T'[k]? = some (some o) ∧ H'[q]? = some (some (o.conv m')) := fun k q hk => by
    have hkT : k < T'.length := by have := lt_of_get hk; omega
    have e := List.getElem?_eq_getElem hkT
    obtain ⟨o, ho⟩ := allLive_get hlive k _ e
    rw [ho] at e
    exact ⟨o, e, k1.loc k q _ hk e⟩
  obtain ⟨N, hN⟩ : ∃ N : Base, N = fun q => if q ∈ m' then (H'[q]?).getD none else none := ⟨_, rfl⟩
  have hNm : ∀ (k q : Nat) (o : HObj), m'[k]? = some q → T'[k]? = some (some o) → N q = some (o.conv m') := fun k q o hk ho => by
    obtain ⟨o', e1, e2⟩ := hobj k q hk
    rw [ho] at e1
    injection e1 with e1
    injection e1 with e1
    subst e1
    rw [hN]
    simp [List.mem_of_getElem? hk, e2]
  have hNB : ∀ q o, N q = some o → q ∈ m' ∧ B q = none := fun q o h => by
    rw [hN] at h
    by_cases hm : q ∈ m'
    · obtain ⟨k, hk⟩ := List.getElem?_of_mem hm
      exact ⟨hm, k1.own k q (Nat.zero_le _) hk⟩
    · simp [hm] at h
  refine ⟨_, N, v, w', β', H', fr, ⟨x, T', m', hq, rfl, hml, k1.nodup, hNm⟩, fun q o h => (hNB q o h).2, ?_, k2, k3, V.conv_pure m' x, k4, k5, k6⟩
  refine ⟨k1.hrel, rfl, fun k => by simp [lk, V.conv]; exact .undef _, rfl, List.nodup_nil, by simp, rfl, fun r hr _ => ?_, fun r hr => ?_, by simp, by simp, by simp, rfl, by simp⟩
  · show H'[r]? = some ((B.add N) r)
    by_cases hm : r ∈ m'
    · obtain ⟨k, hk⟩ := List.getElem?_of_mem hm
      obtain ⟨o, e1, e2⟩ := hobj k r hk
      rw [e2, add_new (hNm k r o hk e1) (k1.own k r (Nat.zero_le _) hk)]
    · have h1 := k1.base r hr hm
      simp only at h1
      rw [h1]
      unfold Base.add
      cases hb : B r with
      | some o => rfl
      | none =>
        have : N r = none := by rw [hN]; simp [hm]
        rw [this]
  · show (B.add N) r = none
    have h1 : B r = none := k1.fut r hr
    unfold Base.add
    rw [h1]
    cases hn : N r with
    | none => rfl
    | some o =>
      obtain ⟨k, hk⟩ := List.getElem?_of_mem (hNB r o hn).1
      have := k1.lt hk
      omega

/-- A call of one. -/
theorem call_funN {c : Cx} {g : FuncId} {args : List V} {E : Env} {T : Heap} {K : V → St → Prop} {Q : V → Base → Prop} (hf : FunN c.P g args Q) (ha : V.pureL args = true)
    (h : ∀ x N, Q x N → x.pureB = true → (∀ q o, N q = some o → c.B q = none) → K x ⟨E, T, c.B.add N, c.D⟩) : CallThen c g args E T K := by
  unfold FunN at hf
  obtain ⟨hen, hf⟩ := hf
  unfold CallThen
  refine ⟨hen, fun w β H m a vals cs hs hl hr => ?_⟩
  obtain ⟨x, N, v, w', β', H', fr, hq, hN, k1, k2, k3, hp, k4, k5, k6⟩ := hf w β H _ vals cs (seen hs) hl (fun j x v hj hv => by
    have h1 := hr j x v hj hv
    rwa [pure_conv _ _ (pureL_mem _ ha x (List.mem_of_getElem? hj))] at h1)
  have hlen : H.length ≤ H'.length := k2.len
  have hH' : ∀ q, q < H'.length → H'[q]? = some (Base.add (fun r => (H[r]?).getD none) N q) := fun q hq => k1.base q hq (by simp)
  have hnew : ∀ q o, N q = some o → H.length ≤ q ∧ q < H'.length := fun q o h1 => by
    have h2 : (Base.add (fun r => (H[r]?).getD none) N) q = some o := add_new h1 (hN q o h1)
    have h3 : q < H'.length := by
      rcases Nat.lt_or_ge q H'.length with h3 | h3
      · exact h3
      · have h4 : (Base.add (fun r => (H[r]?).getD none) N) q = none := k1.fut q h3
        rw [h2] at h4
        cases h4
    refine ⟨?_, h3⟩
    rcases Nat.lt_or_ge q H.length with h4 | h4
    · exfalso
      have h5 := hH' q h3
      rw [h2] at h5
      obtain ⟨o1, ho1, _⟩ := k2.evo q o h4 h5
      have := hN q o h1
      simp only [ho1] at this
      cases this
    · exact h4
  have hcB : ∀ q o, N q = some o → c.B q = none := fun q o h1 => hs.fut q (hnew q o h1).1
  have hNold : ∀ q, q < H.length → N q = none := fun q h1 => by
    cases hn : N q with
    | none => rfl
    | some o => have := (hnew q o hn).1; omega
  have hold : ∀ q, q < H.length → H'[q]? = H[q]? := fun q h1 => by
    rw [hH' q (Nat.lt_of_lt_of_le h1 hlen)]
    unfold Base.add
    simp only [hNold q h1, List.getElem?_eq_getElem h1, Option.getD_some]
    cases H[q] <;> rfl
  have hadd : ∀ q, q < H.length → (c.B.add N) q = c.B q := fun q h1 => by
    unfold Base.add
    rw [hNold q h1]
    cases c.B q <;> rfl
  refine ⟨x, _, v, w', β', H', m, fr, h x N hq hp hcB, ?_, k2, by rw [pure_conv _ _ hp]; exact k3, k4, k5, k6, List.prefix_refl _⟩
  refine ⟨k1.hrel, hs.size, fun k => (hs.env k).mono k2, hs.mlen, hs.nodup, fun k r o hk ho => ?_, hs.imp, fun r hr hm => ?_, fun r hr => ?_, fun k r hk hr => ?_, hs.scE, hs.scT, hs.defs, fun j k hj => ?_⟩
  · rw [hold r (hs.lt hk)]
    exact hs.loc k r o hk ho
  · simp only
    rcases Nat.lt_or_ge r H.length with h1 | h1
    · rw [hold r h1, hadd r h1]
      exact hs.base r h1 hm
    · have h2 : c.B r = none := hs.fut r h1
      rw [hH' r hr]
      unfold Base.add
      simp only [List.getElem?_eq_none h1, h2, Option.getD_none]
  · have h1 : c.B r = none := hs.fut r (Nat.le_trans hlen hr)
    have h2 : (Base.add (fun r => (H[r]?).getD none) N) r = none := k1.fut r hr
    unfold Base.add at h2
    simp only [List.getElem?_eq_none (Nat.le_trans hlen hr), Option.getD_none] at h2
    simp only [Base.add, h1, h2]
  · simp only
    rw [hadd r (hs.lt hr)]
    exact hs.own k r hk hr
  · obtain ⟨r, b, M, h1, h2, h3, h4⟩ := hs.marks j k hj
    have hH0 := hs.loc k r _ h1 h2
    exact ⟨r, b, M, h1, h2, dfr_stays k2 (by simpa [HObj.conv] using hH0) h3 (by rw [hold r (hs.lt h1), hH0]; rfl), h4⟩

/-! ### Named memory, read by functions that leave nothing behind -/
inductive Fz (B : Base) : V → V → Prop
  | wk {x y : V} (h : Wk x y) : Fz B x y
  | row (r g sz : Nat) (xs : List V) (h : B r = some (.vec g sz xs)) : Fz B (.osl (.abs r) g 0 xs.length) (.sl sz xs)
  | agg (cs ds : List V) (hl : cs.length = ds.length) (h : ∀ (j : Nat) (c d : V), cs[j]? = some c → ds[j]? = some d → Fz B c d) : Fz B (.agg cs) (.agg ds)
  | sl (sz : Nat) (xs ys : List V) (hl : xs.length = ys.length) (hy : ∀ y ∈ ys, okE sz y) (h : ∀ (i : Nat) (x y : V) (j : Nat) (c d : V), xs[i]? = some x → ys[i]? = some y → x.cells[j]? = some c → y.cells[j]? = some d → Fz B c d) : Fz B (.sl sz xs) (.sl sz ys)

theorem Fr0.killAll {w : World} {β : Nat → Loc} {H : Heap} : Fr0 w β H w β (H.map fun _ => none) := by
  have hnone : ∀ r o, (H.map fun _ => (none : Option HObj))[r]? ≠ some (some o) := fun r o h => by rw [List.getElem?_map] at h; cases hh : H[r]? <;> rw [hh] at h <;> cases h
  have hno : ∀ b, ¬ ownB β (H.map fun _ => none) b := fun b ⟨r, N, ⟨o, h⟩, _⟩ => hnone r o h
  exact ⟨rfl, rfl, rfl, Nat.le_refl _, by simp, fun r o' _ ho => absurd ho (hnone r o'), fun _ _ _ => rfl, fun b hb => absurd hb (hno b), fun _ _ => rfl⟩
theorem killAll_no {β : Nat → Loc} {H : Heap} (b : Nat) : ¬ ownB β (H.map fun _ => none) b := by
  rintro ⟨r, N, ⟨o, h⟩, _⟩
  rw [List.getElem?_map] at h
  cases hh : H[r]? <;> rw [hh] at h <;> cases h

theorem Fz.rep {B : Base} {w : World} {β : Nat → Loc} {H : Heap} (hrel : HRel w β H) (hB : ∀ q o, B q = some o → H[q]? = some (some o)) {x y : V} (h : Fz B x y) : ∀ {v : Value}, Rep w β H x v → Rep w β (H.map fun _ => none) y v := by
  induction h with
  | wk h => exact fun {v} hv => (h w β H v hv).mono0 Fr0.killAll
  | row r g sz xs h =>
    intro v hv
    have hH := hB r _ h
    have hob := hrel.obj r _ hH
    have hvec : ∀ sz2 xs2, H[r]? = some (some (.vec g sz2 xs2)) → sz2 = sz ∧ xs2 = xs := fun sz2 xs2 h2 => by
      rw [hH] at h2
      injection h2 with h2
      injection h2 with h2
      injection h2 with _ e1 e2
      exact ⟨e1.symm, e2.symm⟩
    generalize hn : xs.length = n at hv
    cases hv with
    | oslNil _ _ sz2 xs2 ad hH' hβ =>
      rw [hβ] at hob
      have : xs = [] := hob
      subst this
      exact .sl sz [] ad 0 (fun _ => Go.undef) (Nat.le_refl _) (Nat.zero_le _) (by simp) (fun hne => absurd rfl hne) (fun i x j c hi => by simp at hi)
    | oslBlk _ _ _ _ sz2 xs2 b N ad cap hH' hβ hl hN hcap ha hlen =>
      obtain ⟨rfl, rfl⟩ := hvec _ _ hH'
      rw [hβ] at hob
      obtain ⟨vs, e, _, h1, h2, h3, h4, h5, h6⟩ := hob
      subst hn
      refine .sl sz2 xs2 ad cap (fun j => vs.getD j Go.undef) hl (by omega) h5 (fun hne => ?_) (fun i x j c hi hj => ?_)
      · have h0 : 0 < xs2.length := List.length_pos_iff.2 hne
        have := ha (by omega)
        subst this
        refine ⟨_, rfl, killAll_no _, (Array.getElem?_eq_some_iff.1 h1).1, fun j hj => ?_⟩
        have hjv : j < vs.size := by omega
        rw [Nat.zero_mul, at_add, cell_of_row w b j vs e (0, 0) h1]
        simp [hjv]
      · have hlt : i * sz2 + j < vs.size := by
          have e1 := lt_of_get hi
          have e2 := lt_of_get hj
          have e3 := (h5 x (List.mem_of_getElem? hi)).1
          have : (i + 1) * sz2 ≤ xs2.length * sz2 := Nat.mul_le_mul_right _ e1
          rw [Nat.add_mul] at this
          omega
        exact (h6 i x j c (vs.getD (i * sz2 + j) Go.undef) hi hj (by simp [hlt])).mono0 Fr0.killAll
    | oslStale _ _ _ _ g' sz' xs' _ hH' hg =>
      rw [hH] at hH'
      injection hH' with hH'
      injection hH' with hH'
      injection hH' with e0 _ _
      omega
    | oslDead _ _ _ _ _ hd => rw [hH] at hd; cases hd
  | agg cs ds hl h ih =>
    intro v hv
    cases hv with
    | agg _ vs hl' h' =>
      refine .agg ds vs (hl.symm.trans hl') fun j d u hj hu => ?_
      have hjc : j < cs.length := by have := lt_of_get hj; omega
      exact ih j _ d (List.getElem?_eq_getElem hjc) hj (h' j _ u (List.getElem?_eq_getElem hjc) hu)
  | sl sz xs ys hl hy h ih =>
    intro v hv
    generalize hn : xs.length = n at hl
    generalize hq : V.sl sz xs = q at hv
    cases hv with
    | sl sz' xs' a cap vals hcap hmax hsz ha hr =>
      injection hq with e1 e2
      subst e1 e2
      rw [hn, hl]
      refine .sl sz ys a cap vals (by omega) hmax hy (fun hne => ?_) (fun i y j d hi hj => ?_)
      · obtain ⟨ad, k1, _, k3, k4⟩ := ha (fun e => hne (by rw [e] at hn; exact List.length_eq_zero_iff.1 (by simp at hn; omega)))
        exact ⟨ad, k1, killAll_no _, k3, fun j hj => k4 j (by rw [hn, hl]; exact hj)⟩
      · have hix : i < xs.length := by have := lt_of_get hi; omega
        have hx := List.getElem?_eq_getElem hix
        have hc1 := (hsz _ (List.mem_of_getElem? hx)).1
        have hc2 := (hy _ (List.mem_of_getElem? hi)).1
        have hjx : j < (xs[i]).cells.length := by have := lt_of_get hj; omega
        exact ih i _ y j _ d hx hi (List.getElem?_eq_getElem hjx) hj (hr i _ j _ hx (List.getElem?_eq_getElem hjx))
    | _ => cases hq

/-- .. all at once. -/
def FzL (B : Base) : List V → List V → Prop
  | [], [] => True
  | x :: xs, y :: ys => Fz B x y ∧ FzL B xs ys
  | _, _ => False
theorem FzL.get {B : Base} : ∀ {xs ys : List V}, FzL B xs ys → xs.length = ys.length ∧ ∀ (j : Nat) (y : V), ys[j]? = some y → ∃ x, xs[j]? = some x ∧ Fz B x y
  | [], [], _ => ⟨rfl, fun j y h => by simp at h⟩
  | x :: xs, y :: ys, h => by
    obtain ⟨h1, h2⟩ := FzL.get h.2
    refine ⟨by simp [h1], fun j z hz => ?_⟩
    cases j with
    | zero => simp at hz; subst hz; exact ⟨x, rfl, h.1⟩
    | succ j => simpa using h2 j z (by simpa using hz)
  | [], _ :: _, h => h.elim
  | _ :: _, [], h => h.elim

/-- A call that is handed named memory, and hands back a number, a truth value or a text. -/
theorem call_flatN {c : Cx} {g : FuncId} {args args' : List V} {E : Env} {T : Heap} {K : V → St → Prop} {x : V} (hf : Pure c.P g args' (fun y => y = x)) (hz : FzL c.B args args') (hi : c.imps = []) (ha : V.pureL args = true) (ha' : V.pureL args' = true) (hx : flatB x = true) (h : K x ⟨E, T, c.B, c.D⟩) : CallThen c g args E T K := by
  have hen : Enterable c.P g := by
    unfold Pure Fun at hf
    exact hf.1
  unfold CallThen
  refine ⟨hen, fun w β H m a vals cs hs hl hr => ?_⟩
  obtain ⟨hzl, hzg⟩ := hz.get
  obtain ⟨y, v, w', β', H', fr, rfl, hp, g3, hb, g4, g5, g6⟩ := pure_still (β := β) (H := H.map fun _ => none) hf ha' cs (hzl.symm.trans hl) (fun j y v hj hv => by
    obtain ⟨x0, h1, h2⟩ := hzg j y hj
    have h3 := hr j x0 v h1 hv
    rw [pure_conv _ _ (pureL_mem _ ha x0 (List.mem_of_getElem? h1))] at h3
    exact h2.rep hs.hrel (fun q o hq => hs.baseAt (by rw [hi]; simp) hq) h3)
  have g2' : Fr w β H w' β H := Fr.of_below hb
  exact ⟨y, _, v, w', β, H, m, fr, h, hs.same g2' (hs.hrel.of_below hb), g2', by rw [pure_conv _ _ hp]; exact g3.flat hx, g4, g5, g6, List.prefix_refl _⟩

/-! ### Functions that write over named memory -/
/-- The same rows, of the same shapes. -/
def ShpEq (B B' : Base) : Prop := ∀ r g sz xs, B r = some (.vec g sz xs) → ∃ xs' : List V, B' r = some (.vec g sz xs') ∧ xs'.length = xs.length
theorem ShpEq.refl (B : Base) : ShpEq B B := fun r g sz xs h => ⟨xs, h, rfl⟩
theorem ShpEq.trans {A B C : Base} (h : ShpEq A B) (k : ShpEq B C) : ShpEq A C := fun r g sz xs e => by
  obtain ⟨xs', h1, h2⟩ := h r g sz xs e
  obtain ⟨xs'', k1, k2⟩ := k r g sz xs' h1
  exact ⟨xs'', k1, k2.trans h2⟩
@[irreducible] def FunW (P : Program) (g : FuncId) (args : List V) (m : List Nat) (I : Base → Prop) (Q : V → Prop) : Prop :=
  Enterable P g ∧ ∀ (w : World) (β : Nat → Loc) (H : Heap) (B : Base) (vals : Array Value) (cs : List Frame), SRel [] 0 w β H [] ⟨[], [], B, []⟩ bare → I B → args.length = vals.size →
    (∀ (j : Nat) (x : V) (v : Value), args[j]? = some x → vals[j]? = some v → Rep w β H x v) →
    ∃ (x : V) (v : Value) (w' : World) (β' : Nat → Loc) (H' : Heap) (B' : Base) (fr : Frame), Q x ∧ SRel [] 0 w' β' H' [] ⟨[], [], B', []⟩ bare ∧ ShpEq B B' ∧ (∀ q, q ∉ m → B' q = B q) ∧ Fr w β H w' β' H' ∧ Rep w' β' H' x v ∧ x.pureB = true ∧
      Steps P (lone (Frame.enter P g vals .normal) cs w) (lone fr cs w') ∧ fr.fn = g ∧ fr.leaving P w' (.returned v)
def XW (P : Program) (rs : Array ResultVar) (m : List Nat) (B : Base) (Q : V → Prop) (e : Exit) (s : St) : Prop :=
  (match e with | .normal | .ret => True | _ => False) ∧ s.D = [] ∧ (ShpEq B s.B ∧ ∀ q, q ∉ m → s.B q = B q) ∧ resK P [] s.B rs.toList s.E s.T False fun xs => frz (resV xs) s.T False fun x _ => x.pureB = true ∧ Q x

theorem funW_of_goes {P : Program} {g : FuncId} {fn : Func} {body : Code} {args : List V} {m : List Nat} {I : Base → Prop} {Q : V → Prop} (n : Nat) (hf : P.funcs[g]? = some fn) (hn : (fn.name == "runtime.NumGoroutine") = false) (hb : fn.body = some body) (hnt : Nat.ble args.length fn.ntmps = true)
    (h : ∀ B : Base, I B → evp { P := P, nt := fn.ntmps, fn := g, ro := none, imps := [], X := XW P fn.results m B Q, B := B, D := [] } n [.code body] (env0 0 args) []) : FunW P g args m I Q := by
  unfold FunW
  refine ⟨⟨fn, hf, hn, by rw [hb]; rfl⟩, fun w β H B vals cs hs hout hl hr => ?_⟩
  have hnt := Nat.le_of_ble_eq_true hnt
  have gg := evp_sound _ _ _ _ _ (h B hout)
  unfold Goes at gg
  let b : Frame := { fn := g, tmps := #[], todo := [], defers := [], mode := .run, kind := .normal }
  let a : Act := { tmps := vals ++ Array.replicate (fn.ntmps - vals.size) Go.undef, defers := [] }
  have henter : Frame.enter P g vals .normal = b.atR a [.code body] := by
    simp [Frame.enter, Frame.atR, hf, hb, b, a]
  have hasz : a.tmps.size = fn.ntmps := by simp [a]; omega
  have hrc : ∀ (j : Nat) (x : V) (v : Value), args[j]? = some x → vals[j]? = some v → Rep w β H (x.conv []) v := fun j x v hj hv => by
    rw [conv_of_rep [] x (hr j x v hj hv)]
    exact hr j x v hj hv
  have hget : ∀ k, Rep w β H ((lk (env0 0 args) k).conv []) (a.tmps.getD k Go.undef) := by
    intro k
    rw [lk_env0]
    simp only [Nat.zero_le, if_true, Nat.sub_zero]
    cases hk : args[k]? with
    | none => exact .undef _
    | some x =>
      have hkl := lt_of_get hk
      have hkv : k < vals.size := by omega
      have e : a.tmps.getD k Go.undef = vals[k] := by
        simp only [a, Array.getD_eq_getD_getElem?]
        rw [Array.getElem?_append_left hkv]
        simp [hkv]
      rw [e]
      exact hrc k x vals[k] hk (Array.getElem?_eq_getElem hkv)
  have hs0 : SRel [] fn.ntmps w β H [] ⟨env0 0 args, [], B, []⟩ a := by
    refine ⟨hs.hrel, hasz, hget, hs.mlen, hs.nodup, hs.loc, hs.imp, hs.base, hs.fut, hs.own, fun p hp => ?_, hs.scT, rfl, by simp⟩
    obtain ⟨k, hk, hx⟩ := List.mem_iff_getElem.1 (env0_mem 0 args p hp)
    have hkv : k < vals.size := by omega
    exact sc_of_rep (m := []) p.2 (hrc k p.2 vals[k] (by rw [List.getElem?_eq_getElem hk, hx]) (Array.getElem?_eq_getElem hkv))
  obtain ⟨e, s', w', β', H', m', a', hX, hs', hfr, hend⟩ := gg w β H [] a b cs hs0 rfl rfl rfl
  obtain ⟨E', T1, B', D'⟩ := s'
  obtain ⟨he, hD, hB, hres⟩ := hX
  simp only at hD hB hres
  subst hD
  rcases resK_sound (c := { P := P, nt := fn.ntmps, fn := g, ro := none, imps := [], X := fun _ _ => True, B := B', D := [] }) _ _ _ _ hres with h | ⟨xs, hq, hx⟩
  · exact h.elim
  obtain ⟨vs, h1, h2, h3⟩ := hx w' β' H' m' a' hs'
  have hrun := run_results h1
  have hrep : Rep w' β' H' ((resV xs).conv m') (if h : vs.toArray.size = 1 then vs.toArray[0] else .tuple vs.toArray) := by
    by_cases h1 : vs.length = 1
    · rw [dif_pos (by simpa using h1)]
      match xs, h2, h3 with
      | [x], _, h3 => exact h3 0 x _ rfl (by simp [h1])
      | [], h2, _ => simp at h2; omega
      | _ :: _ :: _, h2, _ => simp at h2; omega
    · rw [dif_neg (by simpa using h1)]
      have e : resV xs = .tup xs := by
        match xs, h2 with
        | [x], h2 => simp at h2; omega
        | [], _ => rfl
        | _ :: _ :: _, _ => rfl
      rw [e]
      simp only [V.conv, V.convL_eq]
      refine .tup _ _ (by simp [h2]) fun j c v hj hv => ?_
      simp only [List.getElem?_map, Option.map_eq_some_iff] at hj
      obtain ⟨x, hj, rfl⟩ := hj
      exact h3 j x v hj (by simpa using hv)
  -- what is handed back is frozen; the rest is let go
  rcases frz_sound hq with hq | ⟨x', T2, hq, hfz⟩
  · exact hq.elim
  obtain ⟨H1, g1, g2, g3⟩ := hfz.2 _ _ _ _ _ _ _ _ _ _ hs'.bare
  obtain ⟨m2, H2, e1, e2, e3⟩ := SRel.dropTo (T := []) T2 g1 (by simp) (by simp) (by simp) (by simp)
  have hm2 : m2 = [] := List.length_eq_zero_iff.1 e1.mlen
  subst hm2
  have hrep' := (g3 0 _ x' _ rfl rfl hrep).mono e2
  have hdef : a'.defers = [] := List.length_eq_zero_iff.1 hs'.defs
  cases e with
  | normal =>
    refine ⟨x', _, w', β', H2, B', { b.atR a' [] with mode := .returning }, hq.2, e1, hB.1, hB.2, (hfr.trans g2).trans e2, hrep', hq.1, ?_, rfl, ?_⟩
    · rw [henter]
      exact Steps.trans hend (.one (stepR_end rfl))
    · exact ⟨rfl, hdef, rfl, fn, hf, hrun⟩
  | ret =>
    obtain ⟨k, hend⟩ := hend
    refine ⟨x', _, w', β', H2, B', { b.atR a' (.code .ret :: k) with mode := .returning }, hq.2, e1, hB.1, hB.2, (hfr.trans g2).trans e2, hrep', hq.1, ?_, rfl, ?_⟩
    · rw [henter]
      exact Steps.trans hend (.one (stepR_ret rfl))
    · exact ⟨rfl, hdef, rfl, fn, hf, hrun⟩
  | exit id => exact he.elim
  | goto l => exact he.elim
  | panic ch => exact he.elim
  | outgrown => exact he.elim
/-- A call of one. -/
theorem call_funW {c : Cx} {g : FuncId} {args : List V} {E : Env} {Tw : Heap} {m : List Nat} {I : Base → Prop} {K : V → St → Prop} {Q : V → Prop} (hf : FunW c.P g args m I Q) (himp : c.imps = []) (hin : ∀ B, Ext c.B B → I B) (hm : ∀ q ∈ m, ∃ o, c.B q = some o) (ha : V.pureL args = true)
    (h : ∀ x B', Q x → x.pureB = true → ShpEq c.B B' → (∀ q, q ∉ m → B' q = c.B q) → K x ⟨E, Tw, B', c.D⟩) : CallThen c g args E Tw K := by
  unfold FunW at hf
  obtain ⟨hen, hf⟩ := hf
  unfold CallThen
  refine ⟨hen, fun w β H mw a vals cs hs hl hr => ?_⟩
  rw [himp] at hs
  have hHr : ∀ (q : Nat) (ob : HObj), c.B q = some ob → H[q]? = some (some ob) := fun q ob hq => hs.baseAt (by simp) hq
  have hnot : ∀ q, q ∈ m → q ∉ mw := fun q hq => by
    obtain ⟨o, e2⟩ := hm q hq
    exact hs.notIn e2 (by simp)
  have hs0 : SRel [] 0 w β H [] ⟨[], [], fun r => (H[r]?).getD none, []⟩ bare := by
    refine ⟨hs.hrel, rfl, fun k => by simp [lk, V.conv]; exact .undef _, rfl, List.nodup_nil, by simp, rfl, fun r h _ => ?_, fun r h1 => ?_, by simp, by simp, by simp, rfl, by simp⟩
    · simp [h]
    · simp [List.getElem?_eq_none h1]
  obtain ⟨x, v, w', β', H', B', fr, hq, k1, k2, k3, k4, k5, k6, k7, k8, k9⟩ := hf w β H _ vals cs hs0 (hin _ fun q o hq => by simp [hHr q o hq]) hl (fun j x v hj hv => by
    have h1 := hr j x v hj hv
    rwa [pure_conv _ _ (pureL_mem _ ha x (List.mem_of_getElem? hj))] at h1)
  have hH' : ∀ q, q < H'.length → H'[q]? = some (B' q) := fun q hq => k1.base q hq (by simp)
  have hlen := k4.len
  have hold : ∀ q, q < H.length → q ∉ m → H'[q]? = H[q]? := fun q hq hm => by
    rw [hH' q (Nat.lt_of_lt_of_le hq hlen), k3 q hm]
    simp [hq]
  obtain ⟨B1, hB1⟩ : ∃ B1 : Base, B1 = fun q => if q ∈ m then B' q else c.B q := ⟨_, rfl⟩
  have hBm : ∀ q, q ∈ m → B1 q = B' q := fun q hq => by rw [hB1]; simp [hq]
  have hBn : ∀ q, q ∉ m → B1 q = c.B q := fun q hq => by rw [hB1]; simp [hq]
  have hout1 : ShpEq c.B B1 := fun r g sz xs hr => by
    by_cases hrm : r ∈ m
    · rw [hBm r hrm]
      exact k2 r g sz xs (by simp [hHr r _ hr])
    · rw [hBn r hrm]
      exact ⟨xs, hr, rfl⟩
  refine ⟨x, _, v, w', β', H', mw, fr, h x B1 hq k6 hout1 hBn, ?_, k4, by rw [pure_conv _ _ k6]; exact k5, k7, k8, k9, List.prefix_refl _⟩
  rw [himp]
  have hmlt : ∀ q, q ∈ m → q < H.length := fun q hq => by
    obtain ⟨o, e2⟩ := hm q hq
    exact lt_of_get (hHr q _ e2)
  refine ⟨k1.hrel, hs.size, fun k => (hs.env k).mono k4, hs.mlen, hs.nodup, fun j q ob hj hob => ?_, rfl, fun q hq hqm => ?_, fun q hq => ?_, fun j q hj hq => ?_, hs.scE, hs.scT, hs.defs, ?_⟩
  · have hqm : q ∉ m := fun hm => hnot q hm (List.mem_of_getElem? hj)
    rw [hold q (hs.lt hj) hqm]
    exact hs.loc j q ob hj hob
  · by_cases hm : q ∈ m
    · simp only
      rw [hBm q hm]
      exact hH' q hq
    · simp only
      rw [hBn q hm]
      rcases Nat.lt_or_ge q H.length with h1 | h1
      · rw [hold q h1 hm]
        exact hs.base q h1 hqm
      · have e0 : c.B q = none := hs.fut q h1
        rw [hH' q hq, k3 q hm, e0, List.getElem?_eq_none h1]
        rfl
  · have hm : q ∉ m := fun hm => by have := hmlt q hm; omega
    simp only
    rw [hBn q hm]
    exact hs.fut q (Nat.le_trans hlen hq)
  · have hqm : q ∉ m := fun hm => hnot q hm (List.mem_of_getElem? hq)
    simp only
    rw [hBn q hqm]
    exact hs.own j q hj hq
  · intro j q hj
    obtain ⟨r', b', N', e1, e2, e3, e4⟩ := hs.marks j q hj
    refine ⟨r', b', N', e1, e2, ?_, e4⟩
    have hqm : r' ∉ m := fun hm => hnot r' hm (List.mem_of_getElem? e1)
    have hH0 := hs.loc q r' _ e1 e2
    exact dfr_stays k4 (by simpa [HObj.conv] using hH0) e3 (by rw [hold r' (hs.lt e1) hqm, hH0]; rfl)


/-! ### Stores into named memory -/
section
variable {c : Cx} {E : Env} {T : Heap} {ops : Array Oper} {i : Nat} {rest : List Nat} {k : List Item} {o : Oper}

theorem goes_fieldA {t : TypeId} {x : Operand} {f r g ix off sz : Nat} {xs : List V} {fs : Array Field} {fd : Field} {ti : TypeInfo} (n : Nat) (ho : lget ops.toList i = some o) (hg : o.guard = none) (hop : o.op = .fieldAddr t x f) (hx : opd E x = .eptr (.abs r) g ix off)
    (ht : tyU c.P t = some (.struct fs)) (hfd : lget fs.toList f = some fd) (hti : tyI c.P fd.type = some ti) (hsz : Nat.ble 1 ti.size = true) (hi : r ∉ c.imps) (hB : c.B r = some (.vec g sz xs))
    (h : putE c.nt o.dst (.eptr (.abs r) g ix (off + fd.offset)) E False fun E' => evp c n (.inRegion ops rest :: k) E' T) : Goes c (.inRegion ops (i :: rest) :: k) E T := by
  refine goes_opTo n ho hg hop (OpTo.still fun o hop w β H m a hs => ?_) (fun cl h => by cases h) h
  have hp := opd_rep hs x
  have hH : H[r]? = some (some (.vec g sz xs)) := hs.baseAt hi hB
  rw [lget_eq] at hfd
  have hf : fs[f]? = some fd := by simpa using hfd
  simp only [hx, V.conv, Ref.conv] at hp
  generalize hq : a.eval x = q at hp
  cases hp with
  | eptrLive _ _ _ _ sz' xs' b N hH' hβ hi =>
    refine ⟨.pointer (some ((⟨b, ix * sz' + off, none⟩ : Addr).add fd.offset)), by simp [execOp, hop, hq, run_fieldAt (tyU_sound ht) hf (tyI_sound hti) (Nat.le_of_ble_eq_true hsz)], ?_⟩
    rw [add_none, Nat.add_assoc]
    exact .eptrLive r g ix _ sz' xs' b N hH' hβ hi
  | eptrStale _ _ _ _ g' sz' xs' _ hH' hg =>
    rw [hH] at hH'
    injection hH' with hH'
    injection hH' with hH'
    injection hH' with e0 _ _
    omega
  | eptrDead _ _ _ _ _ hd => rw [hH] at hd; cases hd

theorem over_has {α : Type} (xs cs : List α) (n : Nat) (h : n + cs.length ≤ xs.length) : ∃ ys, over xs n cs ys := by
  refine ⟨xs.take n ++ cs ++ xs.drop (n + cs.length), h, by simp; omega, fun j => ?_⟩
  rcases Nat.lt_or_ge j n with h1 | h1
  · rw [if_neg (by omega), List.append_assoc, List.getElem?_append_left (by simp; omega), List.getElem?_take, if_pos h1]
  · rcases Nat.lt_or_ge j (n + cs.length) with h2 | h2
    · rw [if_pos ⟨h1, h2⟩, List.getElem?_append_left (by simp; omega), List.getElem?_append_right (by simp; omega)]
      have : min n xs.length = n := by omega
      simp [this]
    · rw [if_neg (by omega), List.getElem?_append_right (by simp; omega)]
      have e1 : min n xs.length = n := by omega
      simp only [List.length_append, List.length_take, e1, List.getElem?_drop]
      rw [Nat.add_sub_cancel' h2]

theorem goes_storeA {t : TypeId} {x y : Operand} {r g ix off sz : Nat} {xs : List V} {ti : TypeInfo} (n : Nat) (ho : lget ops.toList i = some o) (hg : o.guard = none) (hop : o.op = .store t x y) (hx : opd E x = .eptr (.abs r) g ix off)
    (hb : (Nat.beq (lcount (opd E y).cells 0) ti.size && onesB (opd E y).cells && V.pureL (opd E y).cells) = true) (ht : tyI c.P t = some ti) (hi : r ∉ c.imps) (hB : c.B r = some (.vec g sz xs)) (hl : ix < xs.length) (hoff : off + ti.size ≤ sz)
    (h : ∀ B' xs', xs'.length = xs.length → B' r = some (.vec g sz xs') → (∀ q, q ≠ r → B' q = c.B q) → putE c.nt o.dst (.tup []) E False fun E' => evp { c with B := B' } n (.inRegion ops rest :: k) E' T) :
    Goes c (.inRegion ops (i :: rest) :: k) E T := by
  rw [lget_eq, Array.getElem?_toList] at ho
  rw [lcount_eq] at hb
  simp only [Bool.and_eq_true, Nat.add_zero] at hb
  have hsz := Nat.eq_of_beq_eq_true hb.1.1
  refine goes_step fun w β H m a fb cs hs _ _ _ => ?_
  have hp := opd_rep hs x
  have hH : H[r]? = some (some (.vec g sz xs)) := hs.baseAt hi hB
  have hrm : r ∉ m := hs.notIn hB hi
  simp only [hx, V.conv, Ref.conv] at hp
  have hob := hs.hrel.obj r _ hH
  generalize hv : a.eval x = q at hp
  cases hp with
  | eptrStale _ _ _ _ g' sz' xs' _ hH' hg =>
    rw [hH] at hH'
    injection hH' with hH'
    injection hH' with hH'
    injection hH' with e0 _ _
    omega
  | eptrDead _ _ _ _ _ hd => rw [hH] at hd; cases hd
  | eptrLive _ _ _ _ sz' xs' b N hH' hβ hi' =>
  rw [hH] at hH'
  injection hH' with hH'
  injection hH' with hH'
  injection hH' with _ e1 e2
  subst e1 e2
  obtain ⟨x0, hx0⟩ : ∃ x0, xs[ix]? = some x0 := ⟨_, List.getElem?_eq_getElem hl⟩
  rw [hβ] at hob
  obtain ⟨vs, e, hty, hbk, hN, hle, hpos, hok, hc⟩ := hob
  have hy : Rep w β H ((opd E y).conv m) (a.eval y) := opd_rep hs y
  obtain ⟨hyl, hyc, hy1⟩ := rep_cells hy (by rw [cells_conv, onesB_conv]; exact hb.1.2)
  rw [cells_conv, pureL_conv _ _ hb.2] at hyl hyc
  obtain ⟨hx0l, hx0o⟩ := hok x0 (List.mem_of_getElem? hx0)
  obtain ⟨cs', ho'⟩ := over_has x0.cells (opd E y).cells off (by omega)
  have hixl := hl
  have hrow : ix * sz + sz ≤ vs.size := by
    have : (ix + 1) * sz ≤ xs.length * sz := Nat.mul_le_mul_right _ hixl
    rw [Nat.add_mul] at this
    omega
  have hofit : off + (opd E y).cells.length ≤ x0.cells.length := ho'.1
  have hfit : ix * sz + off + (a.eval y).cells.size ≤ vs.size := by omega
  have hrun := run_storeCells_at c.P b (ix * sz + off) e (a.eval y).cells.toList 0 vs w hbk (by simpa using hfit) hy1
  have hI := tyI_sound ht
  obtain ⟨vs', hvs'⟩ : ∃ vs', vs' = (vs.toList.take (ix * sz + off + 0) ++ (a.eval y).cells.toList ++ vs.toList.drop (ix * sz + off + 0 + (a.eval y).cells.toList.length)).toArray := ⟨_, rfl⟩
  rw [← hvs'] at hrun
  have hheap : (w.setRow b vs').heap[b]? = some (.cells vs' e (0, 0)) := setRow_heap w b vs _ e _ hbk
  have hother : ∀ q, q ≠ b → (w.setRow b vs').heap[q]? = w.heap[q]? := fun q hq => setRow_other w b q _ hq
  have hvsz : vs'.size = vs.size := by rw [hvs']; simp; omega
  have hget : ∀ j, vs'[j]? = if ix * sz + off ≤ j ∧ j < ix * sz + off + (a.eval y).cells.size then (a.eval y).cells[j - (ix * sz + off)]? else vs[j]? := by
    intro j
    rw [hvs']
    simp only [Nat.add_zero, Array.length_toList, List.getElem?_toArray]
    rcases Nat.lt_or_ge j (ix * sz + off) with h1 | h1
    · rw [if_neg (by omega), List.getElem?_append_left (by simp; omega), List.getElem?_append_left (by simp; omega), List.getElem?_take, if_pos h1]
      simp
    · rcases Nat.lt_or_ge j (ix * sz + off + (a.eval y).cells.size) with h2 | h2
      · rw [if_pos ⟨h1, h2⟩, List.getElem?_append_left (by simp; omega), List.getElem?_append_right (by simp; omega)]
        have : min (ix * sz + off) vs.size = ix * sz + off := by omega
        simp [this]
      · rw [if_neg (by omega), List.getElem?_append_right (by simp; omega)]
        have e1 : min (ix * sz + off) vs.size = ix * sz + off := by omega
        simp only [List.length_append, List.length_take, Array.length_toList, e1, List.getElem?_drop]
        rw [Nat.add_sub_cancel' h2]
        simp
  have hones : onesB cs' = true := by
    rw [onesB_iff]
    intro z hz
    obtain ⟨j, hj, rfl⟩ := List.mem_iff_getElem.1 hz
    have := ho'.2.2 j
    rw [List.getElem?_eq_getElem hj] at this
    split at this
    · exact (onesB_iff _).1 hb.1.2 _ (List.mem_of_getElem? this.symm)
    · exact (onesB_iff _).1 hx0o _ (List.mem_of_getElem? this.symm)
  have hcs' : cs'.length = sz := ho'.2.1.trans hx0l
  have hmk : (mkE x0 cs').cells = cs' := mkE_cells x0 cs' hones
  obtain ⟨xs', hxs'⟩ : ∃ xs', xs' = xs.set ix (mkE x0 cs') := ⟨_, rfl⟩
  have hxl : xs'.length = xs.length := by rw [hxs']; simp
  have hfr : Fr w β H (w.setRow b vs') β (H.set r (some (.vec g sz xs'))) := Fr.turn hH hβ ⟨Nat.le_refl _, fun _ => ⟨rfl, hxl.symm⟩⟩ rfl rfl rfl (by simp [World.setRow]) hother
  have hok' : ∀ x ∈ xs', okE sz x := fun x hx => by
    rw [hxs'] at hx
    rcases List.mem_or_eq_of_mem_set hx with h1 | h1
    · exact hok x h1
    · subst h1
      exact ⟨by rw [hmk]; exact hcs', by rw [hmk]; exact hones⟩
  have hrel : HRel (w.setRow b vs') β (H.set r (some (.vec g sz xs'))) := by
    refine hs.hrel.turn hH hβ ⟨Nat.le_refl _, fun _ => ⟨rfl, hxl.symm⟩⟩ rfl rfl rfl (by simp [World.setRow]) hother ⟨vs', e, hty, hheap, by omega, by rw [hxl]; omega, hpos, hok', fun i1 z j z1 u hi1 hj hu => ?_⟩
    refine Rep.mono ?_ hfr
    rw [hget] at hu
    have hzl := (hok' z (List.mem_of_getElem? hi1)).1
    have hjl := lt_of_get hj
    rw [hxs'] at hi1
    by_cases hii : i1 = ix
    · subst hii
      rw [List.getElem?_set_self hixl] at hi1
      injection hi1 with hi1
      subst hi1
      rw [hmk, ho'.2.2 j] at hj
      split at hj
      · rename_i hjj
        rw [if_pos (by omega)] at hu
        refine hyc (j - off) z1 u hj ?_
        rw [← hu]
        congr 1
        omega
      · rename_i hjj
        rw [if_neg (by omega)] at hu
        exact hc i1 x0 j z1 u hx0 hj hu
    · rw [List.getElem?_set_ne (fun e => hii e.symm)] at hi1
      have hne : ¬ (ix * sz + off ≤ i1 * sz + j ∧ i1 * sz + j < ix * sz + off + (a.eval y).cells.size) := by
        rintro ⟨q1, q2⟩
        rcases Nat.lt_or_gt_of_ne hii with h3 | h3
        · have : (i1 + 1) * sz ≤ ix * sz := Nat.mul_le_mul_right _ h3
          rw [Nat.add_mul] at this
          omega
        · have : (ix + 1) * sz ≤ i1 * sz := Nat.mul_le_mul_right _ h3
          rw [Nat.add_mul] at this
          omega
      rw [if_neg hne] at hu
      exact hc i1 z j z1 u hi1 hj hu
  obtain ⟨B', hB'⟩ : ∃ B' : Base, B' = fun q => if q = r then some (.vec g sz xs') else c.B q := ⟨_, rfl⟩
  have hBr : B' r = some (.vec g sz xs') := by rw [hB']; simp
  have hBn : ∀ q, q ≠ r → B' q = c.B q := fun q hq => by rw [hB']; simp [hq]
  have hrl := lt_of_get hH
  have hset : SRel c.imps c.nt (w.setRow b vs') β (H.set r (some (.vec g sz xs'))) m ⟨E, T, B', c.D⟩ a := by
    refine ⟨hrel, hs.size, fun k => (hs.env k).mono hfr, hs.mlen, hs.nodup, fun j q ob hj hob => ?_, hs.imp, fun q hq hqm => ?_, fun q hq => ?_, fun j q hj hq => ?_, hs.scE, hs.scT, hs.defs, hs.marks⟩
    · have hqr : q ≠ r := fun e => hrm (e ▸ List.mem_of_getElem? hj)
      rw [List.getElem?_set_ne (fun e => hqr e.symm)]
      exact hs.loc j q ob hj hob
    · simp only
      by_cases hqr : q = r
      · subst hqr
        rw [List.getElem?_set_self hrl, hBr]
      · rw [List.getElem?_set_ne (fun e => hqr e.symm), hBn q hqr]
        exact hs.base q (by simpa using hq) hqm
    · have hqr : q ≠ r := fun e => by subst e; simp at hq; omega
      simp only
      rw [hBn q hqr]
      exact hs.fut q (by simpa using hq)
    · have hqr : q ≠ r := fun e => hrm (e ▸ List.mem_of_getElem? hq)
      simp only
      rw [hBn q hqr]
      exact hs.own j q hj hq
  obtain ⟨E', hk, hd⟩ := (putE_some (h B' xs' hxl hBr hBn)).resolve_left id
  have hput := hset.putTo (d := o.dst) (x := .tup []) (v := Go.undef) (E' := E') (.tup [] #[] rfl fun j z u h1 _ => by simp at h1) hd
  refine ⟨w.setRow b vs', β, _, m, a.put o.dst Go.undef, _, ⟨E', T, B', c.D⟩, op_step (c := c) ho (wanted_none hg _) (fun cl e => by rw [hop] at e; cases e) (nx := .skip) ?_ (.inr ⟨rfl, rfl⟩), hput, hfr, evp_sound n _ _ _ _ hk⟩
  simp [execOp, hop, Instr.storeAt, Instr.sureAddr, hv, storeVar, run_sizeOf' hI, ← hsz, ← hyl, hrun]
end
end Bow
/- AE46: a nil slice in a cell of a box, as own memory; named results that say less. -/
namespace Bow
open Go

section
variable {c : Cx} {E : Env} {T : Heap}
theorem goes_nilCell {todo : List Item} (kb j sz : Nat) {cs : List V} (hk : lget T kb = some (some (.box cs))) (hj : cs[j]? = some .nilsl) (h : Goes c todo E (List.set (T ++ [some (HObj.vec 0 sz [])]) kb (some (HObj.box (cs.set j (.osl (.loc T.length) 0 0 0)))))) : Goes c todo E T := by
  rw [lget_eq] at hk
  refine goes_step fun w β H m a b cs0 hs _ _ _ => ?_
  obtain ⟨β', H', k1, k2, k3⟩ := hs.newNil 0 sz none
  have hk2 : (T ++ [some (HObj.vec 0 sz [])])[kb]? = some (some (.box cs)) := by rw [List.getElem?_append_left (lt_of_get hk)]; exact hk
  obtain ⟨r, hr, hH⟩ := k1.at hk2
  have hob := k1.hrel.obj r _ hH
  have hfr : Fr w β' H' w β' (H'.set r (some ((HObj.box (cs.set j (.osl (.loc T.length) 0 0 0))).conv (m ++ [H.length])))) := Fr.swap hH trivial
  have hrel : HRel w β' (H'.set r (some ((HObj.box (cs.set j (.osl (.loc T.length) 0 0 0))).conv (m ++ [H.length])))) := by
    refine k1.hrel.swap hH trivial ?_
    simp only [HObj.conv]
    cases hβ : β' r with
    | none => trivial
    | nil => rw [hβ] at hob; exact hob
    | blk bb N =>
      rw [hβ] at hob
      obtain ⟨vs, e, q1, q2, q3, q4⟩ := hob
      rw [V.convL_eq, List.length_map] at q3
      refine ⟨vs, e, q1, q2, by rw [V.convL_eq]; simpa using q3, fun i x v hi hv => ?_⟩
      rw [V.convL_eq, List.getElem?_map, Option.map_eq_some_iff] at hi
      obtain ⟨y, hy, rfl⟩ := hi
      by_cases hij : i = j
      · subst hij
        rw [List.getElem?_set_self (lt_of_get hj)] at hy
        injection hy with hy
        subst hy
        have h0 := q4 i .nilsl v (by rw [V.convL_eq, List.getElem?_map, hj]; rfl) hv
        cases h0
        exact k3.mono (by rw [← HObj.conv]; exact hfr)
      · rw [List.getElem?_set_ne (fun e => hij e.symm)] at hy
        exact (q4 i _ v (by rw [V.convL_eq, List.getElem?_map, hy]; rfl) hv).mono (by rw [← HObj.conv]; exact hfr)
  have hm : m.length = T.length := hs.mlen
  have hsc0 : (HObj.box cs).sc (m ++ [H.length]).length := by
    have h1 := k1.scT kb _ hk2
    have h2 : (m ++ [H.length]).length = (T ++ [some (HObj.vec 0 sz [])]).length := k1.mlen
    rw [h2]
    exact h1
  have hset := k1.setAt (o' := some (.box (cs.set j (.osl (.loc T.length) 0 0 0)))) (w' := w) hr (fun o1 e1 => by
      injection e1 with e1
      subst e1
      show V.scL _ _
      rw [V.scL_iff]
      have hsc' := (V.scL_iff _ _).1 hsc0
      intro v hv
      rcases List.mem_or_eq_of_mem_set hv with hv | hv
      · exact hsc' v hv
      · subst hv
        show T.length < (m ++ [H.length]).length
        simp only [List.length_append, List.length_singleton]
        omega)
    (fun hm => absurd hm (k1.notD hk2 (by simp))) hfr hrel
  exact ⟨w, β', _, m ++ [H.length], a, todo, ⟨E, _, c.B, c.D⟩, .refl _ _, hset, k2.trans hfr, h⟩
end

theorem funN_wk {P : Program} {g : FuncId} {args : List V} {Q : V → Base → Prop} (h : FunN P g args fun x N => ∃ y, Wk x y ∧ y.pureB = true ∧ Q y N) : FunN P g args Q := by
  unfold FunN at *
  refine ⟨h.1, fun w β H B vals cs hs hl hr => ?_⟩
  obtain ⟨x, N, v, w', β', H', fr, ⟨y, q1, q2, q3⟩, k1, k2, k3, k4, k5, k6⟩ := h.2 w β H B vals cs hs hl hr
  exact ⟨y, N, v, w', β', H', fr, q3, k1, k2, k3, q1 _ _ _ _ k4, q2, k6⟩
end Bow
/- W76: treeops.Bare, seen to hand back rows of its own. -/
namespace Bow
open Go Go.Proofs

/-- The names of an operation's rows, and their generations. -/
structure Ns where
  p : Nat
  gp : Nat
  t : Nat
  gt : Nat
  s : Nat
  gs : Nat
def opN (ns : Ns) (o : OpT) : V := .agg [.int .u8 o.kind, .osl (.abs ns.p) ns.gp 0 (o.path.map intV).length, .int .i64 o.at_, .osl (.abs ns.t) ns.gt 0 (o.to.map intV).length, .int .u64 o.id, .bool o.leaf, .str o.label, .str o.key, .str o.value, .bool o.gone, .osl (.abs ns.s) ns.gs 0 (o.pieces.map pieceV).length]
structure NsOk (N : Base) (ns : Ns) (o : OpT) : Prop where
  path : N ns.p = some (.vec ns.gp 1 (o.path.map intV))
  to : N ns.t = some (.vec ns.gt 1 (o.to.map intV))
  pieces : N ns.s = some (.vec ns.gs 3 (o.pieces.map pieceV))
theorem NsOk.ext {N N' : Base} {ns : Ns} {o : OpT} (h : NsOk N ns o) (e : Ext N N') : NsOk N' ns o := ⟨e _ _ h.path, e _ _ h.to, e _ _ h.pieces⟩

def BareQ (o : OpT) (x : V) (T' : Heap) : Prop := ∃ (kp gp kt gt ks gs : Nat) (l e : V), x = .agg [.int .u8 o.kind, .osl (.loc kp) gp 0 (o.path.map intV).length, .int .i64 o.at_, .osl (.loc kt) gt 0 (o.to.map intV).length, .int .u64 o.id, l, .str o.label, .str o.key, .str o.value, e, .osl (.loc ks) gs 0 (o.pieces.map pieceV).length] ∧
  (Wk l (.bool o.leaf) ∧ l.pureB = true) ∧ (Wk e (.bool o.gone) ∧ e.pureB = true) ∧ (lget T' kp = some (some (.vec gp 1 (o.path.map intV))) ∧ lget T' kt = some (some (.vec gt 1 (o.to.map intV))) ∧ lget T' ks = some (some (.vec gs 3 (o.pieces.map pieceV)))) ∧ allLive T' = true
theorem bareQ_of {o o' : OpT} {x : V} {T' : Heap} (e : o = o') (h : BareQ o' x T') : BareQ o x T' := e ▸ h

theorem w_someIntF (p : List Int) (h : p.length ≤ 1000000) : Fun Tryz.prog 91 [] [pathV p] (fun x T' => ∃ g0, x = .osl (.loc 0) g0 0 (p.map intV).length ∧ T' = [some (.vec g0 1 (p.map intV))]) := by
  refine fun_fn 100 Tryz.func91 rfl rfl rfl fun imps B hi => ?_
  refine ⟨Nat.le_trans (Nat.mul_le_mul_right _ (show (p.map intV).length ≤ 1000000 by simpa using h)) (by decide), ?_⟩
  exact ⟨trivial, rfl, rfl, 0, rfl, rfl⟩
theorem w_somePieceF (p : List PieceT) (h : p.length ≤ 1000000) : Fun Tryz.prog 92 [] [piecesV p] (fun x T' => ∃ g0, x = .osl (.loc 0) g0 0 (p.map pieceV).length ∧ T' = [some (.vec g0 3 (p.map pieceV))]) := by
  refine fun_fn 100 Tryz.func92 rfl rfl rfl fun imps B hi => ?_
  refine ⟨Nat.le_trans (Nat.mul_le_mul_right _ (show (p.map pieceV).length ≤ 1000000 by simpa using h)) (by decide), ?_⟩
  exact ⟨trivial, rfl, rfl, 0, rfl, rfl⟩

set_option maxHeartbeats 2000000 in
set_option maxRecDepth 100000 in
theorem w_BareF (o : OpT) (ho : o.Lt 1000000) : Fun Tryz.prog 66 [] [opV o] (BareQ (bareO o)) := by
  refine fun_fn 100 Tryz.func66 rfl rfl rfl fun imps B hi => ?_
  have : imps = [] := List.length_eq_zero_iff.1 hi
  subst this
  show Goes _ _ _ _
  refine goes_drawN [91] 0 ?_
  refine ⟨1, o.path.map intV, w_someIntF o.path ho.path, rfl, rfl, ?_⟩
  refine ⟨by kernel_rfl, ?_⟩
  refine ⟨by kernel_rfl, ?_⟩
  show Goes _ _ _ _
  refine goes_nilCell 3 3 1 rfl rfl ?_
  refine goes_nilCell 3 10 3 rfl rfl ?_
  refine go 100 ?_
  refine ⟨fun g1 => go 100 ?_, fun g1 => go 100 ?_⟩
  · have g1 := eq_of g1
    have e : bareO o = { noOp 1 with path := o.path, at_ := o.at_, id := o.id, leaf := o.leaf, label := o.label } := by simp only [bareO, g1]; rfl
    show Goes _ _ _ _
    refine goes_draw 100 ?_
    refine ⟨by kernel_rfl, ?_⟩
    exact ⟨trivial, rfl, rfl, bareQ_of e ⟨2, 2, 4, 0, 5, 0, .bool o.leaf, .ff, by rw [← g1]; rfl, ⟨.refl _, rfl⟩, ⟨Wk.ff, rfl⟩, ⟨rfl, rfl, rfl⟩, rfl⟩⟩
  refine ⟨fun g2 => go 100 ?_, fun g2 => go 100 ?_⟩
  · have g2 := eq_of g2
    have e : bareO o = { noOp 2 with path := o.path } := by simp only [bareO, g2]; rfl
    exact ⟨trivial, rfl, rfl, bareQ_of e ⟨2, 2, 4, 0, 5, 0, .ff, .ff, by rw [← g2]; rfl, ⟨Wk.ff, rfl⟩, ⟨Wk.ff, rfl⟩, ⟨rfl, rfl, rfl⟩, rfl⟩⟩
  refine ⟨fun g3 => go 100 ?_, fun g3 => go 100 ?_⟩
  · have g3 := eq_of g3
    have e : bareO o = { noOp 3 with path := o.path, at_ := o.at_, to := o.to } := by simp only [bareO, g3]; rfl
    show Goes _ _ _ _
    refine goes_drawN [91] 100 ?_
    refine ⟨1, o.to.map intV, w_someIntF o.to ho.to, rfl, rfl, ?_⟩
    refine ⟨by kernel_rfl, ?_⟩
    exact ⟨trivial, rfl, rfl, bareQ_of e ⟨2, 2, 6, 2, 5, 0, .ff, .ff, by rw [← g3]; rfl, ⟨Wk.ff, rfl⟩, ⟨Wk.ff, rfl⟩, ⟨rfl, rfl, rfl⟩, rfl⟩⟩
  refine ⟨fun g4 => go 100 ?_, fun g4 => go 100 ?_⟩
  · have g4 := eq_of g4
    show Goes _ _ _ _
    refine goes_draw 100 ?_
    refine ⟨by kernel_rfl, ?_⟩
    refine ⟨fun h => go 100 ?_, fun h => go 100 ?_⟩
    · have h : o.gone = false := by simpa using h
      have e : bareO o = { noOp 4 with path := o.path, key := o.key, gone := o.gone, value := o.value } := by simp only [bareO, g4, h]; rfl
      exact ⟨trivial, rfl, rfl, bareQ_of e ⟨2, 2, 4, 0, 5, 0, .ff, .bool o.gone, by rw [← g4]; rfl, ⟨Wk.ff, rfl⟩, ⟨.refl _, rfl⟩, ⟨rfl, rfl, rfl⟩, rfl⟩⟩
    · have h : o.gone = true := by simpa using h
      have e : bareO o = { noOp 4 with path := o.path, key := o.key, gone := o.gone, value := [] } := by simp only [bareO, g4, h]; rfl
      exact ⟨trivial, rfl, rfl, bareQ_of e ⟨2, 2, 4, 0, 5, 0, .ff, .bool o.gone, by rw [← g4]; rfl, ⟨Wk.ff, rfl⟩, ⟨.refl _, rfl⟩, ⟨rfl, rfl, rfl⟩, rfl⟩⟩
  refine ⟨fun g5 => go 100 ?_, fun g5 => go 100 ?_⟩
  · have g5 := eq_of g5
    have e : bareO o = { noOp 5 with path := o.path, label := o.label } := by simp only [bareO, g5]; rfl
    exact ⟨trivial, rfl, rfl, bareQ_of e ⟨2, 2, 4, 0, 5, 0, .ff, .ff, by rw [← g5]; rfl, ⟨Wk.ff, rfl⟩, ⟨Wk.ff, rfl⟩, ⟨rfl, rfl, rfl⟩, rfl⟩⟩
  refine ⟨fun g6 => go 100 ?_, fun g6 => go 4 ?_⟩
  · have g6 := eq_of g6
    have e : bareO o = { noOp 6 with path := o.path, pieces := o.pieces } := by simp only [bareO, g6]; rfl
    show CallThen _ _ _ _ _ _
    refine call_sub [] (w_somePieceF o.pieces ho.pieces) rfl rfl trivial rfl rfl rfl ?_
    rintro x T1 ⟨g0, rfl, rfl⟩
    refine ⟨rfl, ?_⟩
    exact ⟨trivial, rfl, rfl, bareQ_of e ⟨2, 2, 4, 0, 6, g0, .ff, .ff, by rw [← g6]; rfl, ⟨Wk.ff, rfl⟩, ⟨Wk.ff, rfl⟩, ⟨rfl, rfl, rfl⟩, rfl⟩⟩
  · have g1 := ne_of g1
    have g2 := ne_of g2
    have g3 := ne_of g3
    have g4 := ne_of g4
    have g5 := ne_of g5
    have g6 := ne_of g6
    have e : bareO o = noOp o.kind := by
      unfold bareO
      rw [show (o.kind == 1) = false by simpa using g1, show (o.kind == 2) = false by simpa using g2, show (o.kind == 3) = false by simpa using g3, show (o.kind == 4) = false by simpa using g4, show (o.kind == 5) = false by simpa using g5, show (o.kind == 6) = false by simpa using g6]
      rfl
    show Goes _ _ _ _
    refine goes_nilCell 3 1 1 rfl rfl ?_
    refine go 100 ?_
    exact ⟨trivial, rfl, rfl, bareQ_of e ⟨6, 0, 4, 0, 5, 0, .ff, .ff, rfl, ⟨Wk.ff, rfl⟩, ⟨Wk.ff, rfl⟩, ⟨rfl, rfl, rfl⟩, rfl⟩⟩

theorem w_BareN (o : OpT) (ho : o.Lt 1000000) : FunN Tryz.prog 66 [opV o] (fun x N => ∃ ns, x = opN ns (bareO o) ∧ NsOk N ns (bareO o)) := by
  refine funN_wk ((funN_of_fun (w_BareF o ho) rfl fun x T' h => ?_).mono fun x N => ?_)
  · obtain ⟨kp, gp, kt, gt, ks, gs, l, e, _, _, _, _, h⟩ := h
    exact h
  rintro ⟨x', T', m', ⟨kp, gp, kt, gt, ks, gs, l, e, rfl, ⟨l1, l2⟩, ⟨e1, e2⟩, ⟨h1, h2, h3⟩, _⟩, rfl, hl, _, hN⟩
  simp only [lget_eq] at h1 h2 h3
  have get : ∀ (k : Nat) (o : HObj), T'[k]? = some (some o) → ∃ q, m'[k]? = some q := fun k o h => ⟨_, List.getElem?_eq_getElem (by have := lt_of_get h; omega)⟩
  obtain ⟨q1, k1⟩ := get _ _ h1
  obtain ⟨q2, k2⟩ := get _ _ h2
  obtain ⟨q3, k3⟩ := get _ _ h3
  refine ⟨opN ⟨q1, gp, q2, gt, q3, gs⟩ (bareO o), ?_, rfl, _, rfl, ⟨hN kp q1 _ k1 h1, hN kt q2 _ k2 h2, hN ks q3 _ k3 h3⟩⟩
  simp only [V.conv, V.convL, Ref.conv, k1, k2, k3, pure_conv m' l l2, pure_conv m' e e2]
  exact Wk.agg ⟨.refl _, .refl _, .refl _, .refl _, .refl _, l1, .refl _, .refl _, .refl _, e1, .refl _, trivial⟩
end Bow
/- W77: lists of operations whose rows have names; lists.bare, square.Behind, square.Both, lists.Both, seen to hand back memory of their own. -/
namespace Bow
open Go Go.Proofs

def nV (z : Ns × OpT) : V := opN z.1 z.2
def opsNV (zs : List (Ns × OpT)) : V := .sl 11 (zs.map nV)
def OpsOk (N : Base) (zs : List (Ns × OpT)) : Prop := ∀ z ∈ zs, NsOk N z.1 z.2
theorem OpsOk.ext {N N' : Base} {zs : List (Ns × OpT)} (h : OpsOk N zs) (e : Ext N N') : OpsOk N' zs := fun z hz => (h z hz).ext e
theorem OpsOk.nil (N : Base) : OpsOk N [] := fun z hz => by cases hz
theorem OpsOk.snoc {N : Base} {zs : List (Ns × OpT)} {ns : Ns} {o : OpT} (h : OpsOk N zs) (k : NsOk N ns o) : OpsOk N (zs ++ [(ns, o)]) := fun z hz => by
  rcases List.mem_append.1 hz with hz | hz
  · exact h z hz
  · rw [List.mem_singleton.1 hz]; exact k

theorem fz_cells {B : Base} {ns : Ns} {o : OpT} (h : NsOk B ns o) : ∀ (j : Nat) (c d : V), (opN ns o).cells[j]? = some c → (opV o).cells[j]? = some d → Fz B c d
  | 0, c, d, hc, hd => by cases hc; cases hd; exact .wk (.refl _)
  | 1, c, d, hc, hd => by cases hc; cases hd; exact .row _ _ _ _ h.path
  | 2, c, d, hc, hd => by cases hc; cases hd; exact .wk (.refl _)
  | 3, c, d, hc, hd => by cases hc; cases hd; exact .row _ _ _ _ h.to
  | 4, c, d, hc, hd => by cases hc; cases hd; exact .wk (.refl _)
  | 5, c, d, hc, hd => by cases hc; cases hd; exact .wk (.refl _)
  | 6, c, d, hc, hd => by cases hc; cases hd; exact .wk (.refl _)
  | 7, c, d, hc, hd => by cases hc; cases hd; exact .wk (.refl _)
  | 8, c, d, hc, hd => by cases hc; cases hd; exact .wk (.refl _)
  | 9, c, d, hc, hd => by cases hc; cases hd; exact .wk (.refl _)
  | 10, c, d, hc, hd => by cases hc; cases hd; exact .row _ _ _ _ h.pieces
  | j + 11, c, d, hc, hd => absurd (show j + 11 < 11 from lt_of_get hc) (by omega)
theorem fz_ops {B : Base} {zs : List (Ns × OpT)} (h : OpsOk B zs) : Fz B (opsNV zs) (opsV (zs.map Prod.snd)) := by
  refine .sl 11 _ _ (by simp) (fun y hy => ?_) fun i x y j c d hx hy hc hd => ?_
  · obtain ⟨o, _, rfl⟩ := List.mem_map.1 hy
    exact ⟨rfl, rfl⟩
  · rw [List.getElem?_map, Option.map_eq_some_iff] at hx hy
    obtain ⟨z, hz, rfl⟩ := hx
    obtain ⟨o, ho, rfl⟩ := hy
    rw [List.getElem?_map, hz] at ho
    injection ho with ho
    subst ho
    exact fz_cells (h z (List.mem_of_getElem? hz)) j c d hc hd

def BehN (R : List OpT × Int) (x : V) (N : Base) : Prop := ∃ zs : List (Ns × OpT), zs.map Prod.snd = R.1 ∧ x = .tup [opsNV zs, .int .i64 R.2] ∧ OpsOk N zs
theorem behZN {e : Int} {R : List OpT × Int} {N : Base} (h : R = ([], e)) : ∃ y, Wk (.tup [.nilsl, .int .i64 e]) y ∧ y.pureB = true ∧ BehN R y N := ⟨.tup [opsNV [], .int .i64 e], Wk.tup ⟨Wk.nil 11, .refl _, trivial⟩, rfl, [], by rw [h]; rfl, by rw [h], OpsOk.nil _⟩
theorem set_stepN {l : List OpT} {zs : List (Ns × OpT)} {i : Nat} {ns : Ns} (hz : zs.length = i) (hi : i < l.length) : (zs.map nV ++ (l.drop i).map opV).set (0 + ((i : Nat) : Int).toNat) (opN ns (bareO l[i])) = (zs ++ [(ns, bareO l[i])]).map nV ++ (l.drop (i + 1)).map opV := by
  rw [List.drop_eq_getElem_cons hi, Nat.zero_add, show ((i : Nat) : Int).toNat = i from rfl, List.set_append_right _ _ (by simp; omega)]
  have : i - (zs.map nV).length = 0 := by simp; omega
  rw [this, List.map_cons, List.set_cons_zero]
  simp [nV]

set_option maxHeartbeats 4000000 in
set_option maxRecDepth 100000 in
theorem w_BehindN0 (b a : OpT) (prior : Bool) (ha : a.Ok) (hb : b.Ok) (he : bothEdit b a = false) (hto : a.to.length ≤ 1000 ∧ b.to.length ≤ 1000) :
    FunN Tryz.prog 38 [opV b, opV a, .bool prior] (BehN (behindO b a prior)) := by
  refine funN_of_goes 100 Tryz.func38 rfl rfl rfl fun B => ?_
  show CallThen _ _ _ _ _ _
  refine call_pure (w_sound a ha) rfl ?_
  rintro x rfl
  refine ⟨fun g1 => go 100 ?_, fun g1 => go 100 ?_⟩
  · have g1 : soundO a = false := by simpa using g1
    have e : behindO b a prior = ([], 80) := by unfold behindO; rw [g1]; rfl
    exact ⟨trivial, rfl, Ext.refl _, rfl, behZN e⟩
  have sa : soundO a = true := by simpa using g1
  show CallThen _ _ _ _ _ _
  refine call_pure (w_sound b hb) rfl ?_
  rintro x rfl
  refine ⟨fun g2 => go 100 ?_, fun g2 => go 100 ?_⟩
  · have g2 : soundO b = false := by simpa using g2
    have e : behindO b a prior = ([], 80) := by unfold behindO; rw [sa, g2]; rfl
    exact ⟨trivial, rfl, Ext.refl _, rfl, behZN e⟩
  have sb : soundO b = true := by simpa using g2
  have fa : formedB a = true := by unfold soundO at sa; rw [Bool.and_eq_true] at sa; exact sa.1
  have fb : formedB b = true := by unfold soundO at sb; rw [Bool.and_eq_true] at sb; exact sb.1
  have pa := may_len (formed_path fa)
  have pb := may_len (formed_path fb)
  have hrow := w_row b a prior ha hb sa sb he hto
  have hrok := row_ok (prior := prior) ha hb (by omega) (by omega) hto.1 hto.2
  have e : behindO b a prior = bif (rowO b a prior).all formedB then ((rowO b a prior).map bareO, 0) else ([], 3) := by unfold behindO; rw [sa, sb]; rfl
  obtain ⟨R, hR⟩ : ∃ R, behindO b a prior = R := ⟨_, rfl⟩
  rw [hR] at e ⊢
  obtain ⟨l, hl⟩ : ∃ l, rowO b a prior = l := ⟨_, rfl⟩
  have hlen : l.length ≤ 2 := by rw [← hl]; exact row_len b a prior
  rw [hl] at hrow hrok e
  show CallThen _ _ _ _ _ _
  refine call_sub [] hrow rfl rfl trivial rfl rfl rfl ?_
  rintro x T1 (⟨rfl, rfl, rfl⟩ | ⟨G, rfl, rfl⟩)
  · refine ⟨rfl, ?_⟩
    refine ⟨fun q => absurd rfl (ne_of' q), fun _ => go 100 ?_⟩
    show Goes _ _ _ _
    refine goes_loop ?_
    refine go 100 ?_
    refine ⟨fun q => absurd (lt_of q) (by decide), fun _ => go 100 ?_⟩
    exact ⟨trivial, rfl, Ext.refl _, rfl, behZN (by rw [e]; rfl)⟩
  · refine ⟨rfl, ?_⟩
    refine ⟨fun q => absurd rfl (ne_of' q), fun _ => go 100 ?_⟩
    refine ⟨rfl, ?_⟩
    show Goes _ _ _ _
    refine goes_iterB (ι := Nat × List (Ns × OpT)) (fun i B' => i.1 ≤ l.length ∧ (l.take i.1).all formedB = true ∧ i.2.map Prod.snd = (l.take i.1).map bareO ∧ Ext B B' ∧ OpsOk (newPart B B') i.2) (fun i => l.length - i.1) (fun i => [(31, .int .i64 i.1), (30, .int .i64 l.length), (29, .osl (.loc 4) G 0 l.length), (8, .osl (.loc 4) G 0 l.length)])
      (fun i => [some (.box (opV b).cells), some (.box (opV a).cells), some (.box (opV b).cells), some (.box (opV a).cells), some (.vec G 11 (i.2.map nV ++ (l.drop i.1).map opV))]) (0, []) 100 (fun _ => rfl) (fun _ => rfl) ⟨⟨Nat.zero_le _, by simp, rfl, Ext.refl _, OpsOk.nil _⟩, ⟨⟨rfl, rfl⟩, ⟨rfl, rfl⟩, ⟨rfl, rfl⟩, ⟨rfl, rfl⟩, trivial⟩, ⟨⟨rfl, rfl⟩, ⟨rfl, rfl⟩, ⟨rfl, rfl⟩, ⟨rfl, rfl⟩, ⟨rfl, rfl⟩, trivial⟩⟩ ?_
    rintro ⟨i, zs⟩ Bc ⟨k1, k2, k3, k4, k5⟩ next
    simp only at k1 k2 k3 k5
    have hzl : zs.length = i := by
      have := congrArg List.length k3
      simp at this
      omega
    refine ⟨fun hlt => go 100 ?_, fun hge => go 100 ?_⟩
    · have hi : i < l.length := by have := lt_of hlt; simp only at this; omega
      have hx : (zs.map nV ++ (l.drop i).map opV)[0 + ((i : Nat) : Int).toNat]? = some (opV l[i]) := by
        rw [Nat.zero_add, show ((i : Nat) : Int).toNat = i from rfl, List.getElem?_append_right (by simp; omega)]
        simp [hzl, hi]
      have hok := hrok l[i] (List.getElem_mem hi)
      refine ⟨rfl, Int.natCast_nonneg i, by simp only; omega, rfl, _, hx, ?_⟩
      show CallThen _ _ _ _ _ _
      refine call_pure (w_Formed l[i] hok.lt hok.each) rfl ?_
      rintro x rfl
      refine ⟨fun g3 => go 100 ?_, fun g3 => go 100 ?_⟩
      · have g3 : formedB l[i] = false := by simpa using g3
        have e' : l.all formedB = false := List.all_eq_false.2 ⟨l[i], List.getElem_mem hi, by simpa using g3⟩
        exact ⟨trivial, rfl, k4, rfl, behZN (by rw [e, e']; rfl)⟩
      have g3 : formedB l[i] = true := by simpa using g3
      show CallThen _ _ _ _ _ _
      refine call_funN (w_BareN l[i] hok.lt) rfl ?_
      rintro x N ⟨ns, rfl, hns⟩ _ hN
      refine ⟨rfl, Int.natCast_nonneg i, by simp only; omega, rfl, _, hx, ?_⟩
      refine ⟨by constructor <;> omega, ?_⟩
      show Goes _ _ _ _
      refine next (i + 1, zs ++ [(ns, bareO l[i])]) (Base.add Bc N) _ _ ⟨⟨hi, ?_, ?_, k4.trans (Ext.add _ _), (k5.ext (newPart_ext (Ext.add _ _))).snoc (hns.ext (newPart_add k4 hN))⟩, by simp only; omega, ⟨⟨rfl, rfl⟩, ⟨rfl, rfl⟩, ⟨rfl, rfl⟩, ⟨rfl, rfl⟩, trivial⟩, ⟨⟨rfl, rfl⟩, ⟨rfl, rfl⟩, ⟨rfl, rfl⟩, ⟨rfl, rfl⟩, ⟨?_, rfl⟩, trivial⟩⟩
      · rw [List.take_succ_eq_append_getElem hi, List.all_append, k2]
        simp [g3]
      · rw [List.take_succ_eq_append_getElem hi, List.map_append, List.map_append, k3]
        rfl
      · show some (HObj.vec G 11 ((zs.map nV ++ (l.drop i).map opV).set (0 + ((i : Nat) : Int).toNat) (opN ns (bareO l[i])))) = _
        rw [set_stepN hzl hi]
    · have hi : i = l.length := by have := not_lt_of hge; simp only at this; omega
      subst hi
      rw [List.take_length] at k2 k3
      have e1 : R = (l.map bareO, 0) := by rw [e, k2]; rfl
      refine ⟨trivial, rfl, k4, rfl, by simp [hzl], rfl, ?_⟩
      refine ⟨.tup [opsNV zs, .int .i64 0], ?_, rfl, zs, by rw [e1]; exact k3, by rw [e1], k5⟩
      refine Wk.of_eq ?_
      show V.tup [.sl 11 (zs.map nV ++ (l.drop l.length).map opV), .int .i64 0] = _
      simp [opsNV]

set_option maxHeartbeats 4000000 in
set_option maxRecDepth 100000 in
theorem w_BehindEN (b a : OpT) (prior : Bool) (ha : a.Ok) (hb : b.Ok) (he : bothEdit b a = true) :
    FunN Tryz.prog 38 [opV b, opV a, .bool prior] (BehN (behindE b a prior)) := by
  obtain ⟨R, hR⟩ : ∃ R, behindE b a prior = R := ⟨_, rfl⟩
  rw [hR]
  obtain ⟨hlt, hput⟩ := edit_lt (a := a) (prior := prior) hb
  refine funN_of_goes 100 Tryz.func38 rfl rfl rfl fun B => ?_
  show CallThen _ _ _ _ _ _
  refine call_pure (w_sound a ha) rfl ?_
  rintro x rfl
  refine ⟨fun g1 => go 100 ?_, fun g1 => go 100 ?_⟩
  · have g1 : soundO a = false := by simpa using g1
    exact ⟨trivial, rfl, Ext.refl _, rfl, behZN (by rw [← hR]; unfold behindE; rw [g1]; rfl)⟩
  have sa : soundO a = true := by simpa using g1
  show CallThen _ _ _ _ _ _
  refine call_pure (w_sound b hb) rfl ?_
  rintro x rfl
  refine ⟨fun g2 => go 100 ?_, fun g2 => go 100 ?_⟩
  · have g2 : soundO b = false := by simpa using g2
    exact ⟨trivial, rfl, Ext.refl _, rfl, behZN (by rw [← hR]; unfold behindE; rw [sa, g2]; rfl)⟩
  have sb : soundO b = true := by simpa using g2
  have hrow := w_rowE b a prior ha hb sa sb he
  have e0 : R = bif decide ((transP b.pieces a.pieces prior).2.2 = 0) && formedB (editO b a prior) then ([bareO (editO b a prior)], 0) else ([], 3) := by
    rw [← hR]; unfold behindE; rw [sa, sb]; rfl
  obtain ⟨o, ho⟩ : ∃ o, editO b a prior = o := ⟨_, rfl⟩
  obtain ⟨e, hee⟩ : ∃ e, (transP b.pieces a.pieces prior).2.2 = e := ⟨_, rfl⟩
  rw [ho, hee] at hrow e0
  rw [ho] at hlt hput
  show CallThen _ _ _ _ _ _
  refine call_sub [] hrow rfl rfl trivial rfl rfl rfl ?_
  rintro x T1 ⟨G, rfl, rfl⟩
  refine ⟨rfl, ?_⟩
  refine ⟨fun g3 => go 100 ?_, fun g3 => go 100 ?_⟩
  · have g3 := ne_of' g3
    exact ⟨trivial, rfl, Ext.refl _, rfl, behZN (by rw [e0, decide_eq_false g3]; rfl)⟩
  have g3 := eq_of' g3
  rw [decide_eq_true g3] at e0
  refine ⟨rfl, ?_⟩
  show Goes _ _ _ _
  refine goes_loop ?_
  refine go 100 ?_
  refine ⟨fun _ => go 100 ?_, fun h => absurd (not_lt_of h) (by decide)⟩
  refine ⟨rfl, by decide, by decide, rfl, _, rfl, ?_⟩
  show CallThen _ _ _ _ _ _
  refine call_pure (w_Formed o hlt hput) rfl ?_
  rintro x rfl
  refine ⟨fun g4 => go 100 ?_, fun g4 => go 100 ?_⟩
  · have g4 : formedB o = false := by simpa using g4
    exact ⟨trivial, rfl, Ext.refl _, rfl, behZN (by rw [e0, g4]; rfl)⟩
  have g4 : formedB o = true := by simpa using g4
  rw [g4] at e0
  show CallThen _ _ _ _ _ _
  refine call_funN (w_BareN o hlt) rfl ?_
  rintro x N ⟨ns, rfl, hns⟩ _ hN
  refine ⟨rfl, by decide, by decide, rfl, _, rfl, ?_⟩
  refine ⟨⟨by decide, by decide⟩, ?_⟩
  show Goes _ _ _ _
  refine goes_inLoop ?_
  refine go 100 ?_
  refine ⟨fun h => absurd (lt_of h) (by decide), fun _ => go 100 ?_⟩
  have e1 : R = ([bareO o], 0) := by rw [e0]; rfl
  exact ⟨trivial, rfl, Ext.add _ _, rfl, rfl, rfl, .tup [opsNV [(ns, bareO o)], .int .i64 0], Wk.refl _, rfl, [(ns, bareO o)], by rw [e1]; rfl, by rw [e1], fun z hz => by
    rw [List.mem_singleton.1 hz]
    exact hns.ext (newPart_add (Ext.refl _) hN)⟩
theorem w_BehindN (b a : OpT) (prior : Bool) (ha : a.Ok) (hb : b.Ok) (hto : a.to.length ≤ 1000 ∧ b.to.length ≤ 1000) :
    FunN Tryz.prog 38 [opV b, opV a, .bool prior] (BehN (behindX b a prior)) := by
  unfold behindX
  cases he : bothEdit b a with
  | true => exact w_BehindEN b a prior ha hb he
  | false => exact w_BehindN0 b a prior ha hb he hto

def BothN (R : List OpT × List OpT × Int) (x : V) (N : Base) : Prop := ∃ zs us : List (Ns × OpT), zs.map Prod.snd = R.1 ∧ us.map Prod.snd = R.2.1 ∧ x = .tup [opsNV zs, opsNV us, .int .i64 R.2.2] ∧ OpsOk N zs ∧ OpsOk N us
theorem bothZN {e : Int} {R : List OpT × List OpT × Int} {N : Base} (h : R = ([], [], e)) : ∃ y, Wk (.tup [.nilsl, .nilsl, .int .i64 e]) y ∧ y.pureB = true ∧ BothN R y N := ⟨.tup [opsNV [], opsNV [], .int .i64 e], Wk.tup ⟨Wk.nil 11, Wk.nil 11, .refl _, trivial⟩, rfl, [], [], by rw [h]; rfl, by rw [h]; rfl, by rw [h], OpsOk.nil _, OpsOk.nil _⟩

set_option maxRecDepth 100000 in
theorem w_BothN (a b : OpT) (prior : Bool) (ha : a.Ok) (hb : b.Ok) (hto : a.to.length ≤ 1000 ∧ b.to.length ≤ 1000) :
    FunN Tryz.prog 33 [opV a, opV b, .bool prior] (BothN (bothX a b prior)) := by
  have h1 := w_BehindN a b prior hb ha ⟨hto.2, hto.1⟩
  have h2 := w_BehindN b a (!prior) ha hb hto
  have e : bothX a b prior = bif decide ((behindX a b prior).2 = 0) then (bif decide ((behindX b a (!prior)).2 = 0) then ((behindX a b prior).1, (behindX b a (!prior)).1, 0) else ([], [], (behindX b a (!prior)).2)) else ([], [], (behindX a b prior).2) := rfl
  obtain ⟨R, hR⟩ : ∃ R, bothX a b prior = R := ⟨_, rfl⟩
  obtain ⟨R1, hR1⟩ : ∃ R, behindX a b prior = R := ⟨_, rfl⟩
  obtain ⟨R2, hR2⟩ : ∃ R, behindX b a (!prior) = R := ⟨_, rfl⟩
  rw [hR, hR1, hR2] at e
  rw [hR1] at h1
  rw [hR2] at h2
  rw [hR]
  refine funN_of_goes 100 Tryz.func33 rfl rfl rfl fun B => ?_
  show CallThen _ _ _ _ _ _
  refine call_funN h1 rfl ?_
  rintro x N1 ⟨zs, z1, rfl, z2⟩ _ hN1
  refine ⟨fun g1 => go 100 ?_, fun g1 => go 100 ?_⟩
  · have g1 : R1.2 ≠ 0 := ne_of' g1
    exact ⟨trivial, rfl, Ext.add _ _, rfl, bothZN (by rw [e, decide_eq_false g1]; rfl)⟩
  have g1 : R1.2 = 0 := eq_of' g1
  show CallThen _ _ _ _ _ _
  refine call_funN h2 rfl ?_
  rintro x N2 ⟨us, u1, rfl, u2⟩ _ hN2
  refine ⟨fun g2 => go 100 ?_, fun g2 => go 100 ?_⟩
  · have g2 : R2.2 ≠ 0 := ne_of' g2
    exact ⟨trivial, rfl, (Ext.add _ _).trans (Ext.add _ _), rfl, bothZN (by rw [e, decide_eq_true g1, decide_eq_false g2]; rfl)⟩
  have g2 : R2.2 = 0 := eq_of' g2
  rw [decide_eq_true g1, decide_eq_true g2] at e
  exact ⟨trivial, rfl, (Ext.add _ _).trans (Ext.add _ _), rfl, .tup [opsNV zs, opsNV us, .int .i64 0], Wk.refl _, rfl, zs, us, by rw [e]; exact z1, by rw [e]; exact u1, by rw [e]; rfl, (z2.ext (newPart_add (Ext.refl _) hN1)).ext (newPart_ext (Ext.add _ _)), u2.ext (newPart_add (Ext.add _ _) hN2)⟩

end Bow
/- W78: bowerlaw12.spoil, which writes over an operation's own rows. -/
namespace Bow
open Go Go.Proofs

/-- The operation's rows stand there, whatever they hold. -/
structure NsShp (B : Base) (ns : Ns) (o : OpT) : Prop where
  path : ∃ xs : List V, B ns.p = some (.vec ns.gp 1 xs) ∧ xs.length = (o.path.map intV).length
  to : ∃ xs : List V, B ns.t = some (.vec ns.gt 1 xs) ∧ xs.length = (o.to.map intV).length
  pieces : ∃ xs : List V, B ns.s = some (.vec ns.gs 3 xs) ∧ xs.length = (o.pieces.map pieceV).length
theorem NsOk.shp {B : Base} {ns : Ns} {o : OpT} (h : NsOk B ns o) : NsShp B ns o := ⟨⟨_, h.path, rfl⟩, ⟨_, h.to, rfl⟩, ⟨_, h.pieces, rfl⟩⟩
theorem NsShp.to' {B B' : Base} {ns : Ns} {o : OpT} (h : NsShp B ns o) (k : ShpEq B B') : NsShp B' ns o := by
  obtain ⟨⟨xs, h1, e1⟩, ⟨ys, h2, e2⟩, ⟨zs, h3, e3⟩⟩ := h
  obtain ⟨xs', k1, f1⟩ := k _ _ _ _ h1
  obtain ⟨ys', k2, f2⟩ := k _ _ _ _ h2
  obtain ⟨zs', k3, f3⟩ := k _ _ _ _ h3
  exact ⟨⟨xs', k1, f1.trans e1⟩, ⟨ys', k2, f2.trans e2⟩, ⟨zs', k3, f3.trans e3⟩⟩
theorem NsShp.ext {B B' : Base} {ns : Ns} {o : OpT} (h : NsShp B ns o) (e : Ext B B') : NsShp B' ns o := by
  obtain ⟨⟨xs, h1, e1⟩, ⟨ys, h2, e2⟩, ⟨zs, h3, e3⟩⟩ := h
  exact ⟨⟨xs, e _ _ h1, e1⟩, ⟨ys, e _ _ h2, e2⟩, ⟨zs, e _ _ h3, e3⟩⟩
/-- One row written over. -/
theorem shp_step {B B0 B' : Base} {r g sz : Nat} {xs xs' : List V} {m : List Nat} (h0 : ShpEq B0 B) (q0 : ∀ q, q ∉ m → B q = B0 q) (hr : B r = some (.vec g sz xs)) (hm : r ∈ m) (h1 : B' r = some (.vec g sz xs')) (hl : xs'.length = xs.length) (hq : ∀ q, q ≠ r → B' q = B q) : ShpEq B0 B' ∧ ∀ q, q ∉ m → B' q = B0 q := by
  refine ⟨h0.trans fun r' g' sz' ys hy => ?_, fun q hqm => ?_⟩
  · by_cases e : r' = r
    · subst e
      rw [hr] at hy
      injection hy with hy
      injection hy with a1 a2 a3
      subst a1 a2 a3
      exact ⟨xs', h1, hl⟩
    · exact ⟨ys, by rw [hq r' e]; exact hy, rfl⟩
  · rw [hq q (fun e => hqm (e ▸ hm)), q0 q hqm]

set_option maxHeartbeats 4000000 in
set_option maxRecDepth 100000 in
theorem w_spoil (ns : Ns) (o : OpT) (hlt : o.Lt 1000000) : FunW Tryz.prog 42 [opN ns o] [ns.p, ns.t, ns.s] (fun B => NsShp B ns o) (fun x => x = .tup []) := by
  have hp : (o.path.map intV).length ≤ 1000000 := by simpa using hlt.path
  have ht : (o.to.map intV).length ≤ 1000000 := by simpa using hlt.to
  have hs : (o.pieces.map pieceV).length ≤ 1000000 := by simpa using hlt.pieces
  generalize hnp : (o.path.map intV).length = np at hp
  generalize hnt : (o.to.map intV).length = nt at ht
  generalize hnq : (o.pieces.map pieceV).length = nq at hs
  refine funW_of_goes 40 Tryz.func42 rfl rfl rfl fun B hB => ?_
  have hsh : ∀ Bc, ShpEq B Bc → NsShp Bc ns o := fun Bc h => hB.to' h
  show Goes _ _ _ _
  refine goes_iterB (ι := Nat) (fun i B' => i ≤ np ∧ ShpEq B B' ∧ ∀ q, q ∉ [ns.p, ns.t, ns.s] → B' q = B q) (fun i => np - i) (fun i => [(2, .int .i64 i), (1, .ptr (.loc 0) 0)]) (fun _ => [some (.box (opN ns o).cells)]) 0 40 (fun _ => rfl) (fun _ => rfl) ⟨⟨Nat.zero_le _, ShpEq.refl _, fun _ _ => rfl⟩, ⟨⟨rfl, rfl⟩, ⟨rfl, rfl⟩, trivial⟩, ⟨⟨rfl, rfl⟩, trivial⟩⟩ ?_
  rintro i Bc ⟨k1, k2, k3⟩ next
  obtain ⟨⟨xs, h1, e1⟩, _, _⟩ := hsh Bc k2
  rw [hnp] at e1
  show Goes _ _ _ _
  refine goes_lenA 40 rfl rfl rfl rfl rfl (by simp) h1 ?_
  refine ⟨fun hlt => go 40 ?_, fun hge => go 40 ?_⟩
  · have hi : i < np := by have := lt_of hlt; rw [hnp] at this; omega
    show Goes _ _ _ _
    refine goes_indexA 40 rfl rfl rfl rfl rfl rfl rfl rfl (by simp) h1 (Int.natCast_nonneg i) (by rw [hnp]; omega) ?_
    show Goes _ _ _ _
    refine goes_storeA 40 rfl rfl rfl rfl rfl rfl (by simp) h1 (by rw [e1, Nat.zero_add]; exact hi) (Nat.le_refl _) fun B' xs' hx hr hq => ?_
    refine ⟨by constructor <;> omega, ?_⟩
    show Goes _ _ _ _
    obtain ⟨s1, s2⟩ := shp_step k2 k3 h1 (by simp) hr hx hq
    exact next (i + 1) B' _ _ ⟨⟨hi, s1, s2⟩, by omega, ⟨⟨rfl, rfl⟩, ⟨rfl, rfl⟩, trivial⟩, ⟨⟨rfl, rfl⟩, trivial⟩⟩
  clear next
  show Goes _ _ _ _
  refine goes_iterB (ι := Nat) (fun i B' => i ≤ nt ∧ ShpEq B B' ∧ ∀ q, q ∉ [ns.p, ns.t, ns.s] → B' q = B q) (fun i => nt - i) (fun i => [(3, .int .i64 i), (1, .ptr (.loc 0) 0)]) (fun _ => [some (.box (opN ns o).cells)]) 0 40 (fun _ => rfl) (fun _ => rfl) ⟨⟨Nat.zero_le _, k2, k3⟩, ⟨⟨rfl, rfl⟩, ⟨rfl, rfl⟩, trivial⟩, ⟨⟨rfl, rfl⟩, trivial⟩⟩ ?_
  clear k1 k2 k3 h1 e1 hge xs
  rintro i Bc ⟨k1, k2, k3⟩ next
  obtain ⟨_, ⟨xs, h1, e1⟩, _⟩ := hsh Bc k2
  rw [hnt] at e1
  show Goes _ _ _ _
  refine goes_lenA 40 rfl rfl rfl rfl rfl (by simp) h1 ?_
  refine ⟨fun hlt => go 40 ?_, fun hge => go 40 ?_⟩
  · have hi : i < nt := by have := lt_of hlt; rw [hnt] at this; omega
    show Goes _ _ _ _
    refine goes_indexA 40 rfl rfl rfl rfl rfl rfl rfl rfl (by simp) h1 (Int.natCast_nonneg i) (by rw [hnt]; omega) ?_
    show Goes _ _ _ _
    refine goes_storeA 40 rfl rfl rfl rfl rfl rfl (by simp) h1 (by rw [e1, Nat.zero_add]; exact hi) (Nat.le_refl _) fun B' xs' hx hr hq => ?_
    refine ⟨by constructor <;> omega, ?_⟩
    show Goes _ _ _ _
    obtain ⟨s1, s2⟩ := shp_step k2 k3 h1 (by simp) hr hx hq
    exact next (i + 1) B' _ _ ⟨⟨hi, s1, s2⟩, by omega, ⟨⟨rfl, rfl⟩, ⟨rfl, rfl⟩, trivial⟩, ⟨⟨rfl, rfl⟩, trivial⟩⟩
  clear next
  show Goes _ _ _ _
  refine goes_iterB (ι := Nat) (fun i B' => i ≤ nq ∧ ShpEq B B' ∧ ∀ q, q ∉ [ns.p, ns.t, ns.s] → B' q = B q) (fun i => nq - i) (fun i => [(4, .int .i64 i), (1, .ptr (.loc 0) 0)]) (fun _ => [some (.box (opN ns o).cells)]) 0 40 (fun _ => rfl) (fun _ => rfl) ⟨⟨Nat.zero_le _, k2, k3⟩, ⟨⟨rfl, rfl⟩, ⟨rfl, rfl⟩, trivial⟩, ⟨⟨rfl, rfl⟩, trivial⟩⟩ ?_
  clear k1 k2 k3 h1 e1 hge xs
  rintro i Bc ⟨k1, k2, k3⟩ next
  obtain ⟨_, _, ⟨xs, h1, e1⟩⟩ := hsh Bc k2
  rw [hnq] at e1
  show Goes _ _ _ _
  refine goes_lenA 40 rfl rfl rfl rfl rfl (by simp) h1 ?_
  refine ⟨fun hlt => go 40 ?_, fun hge => go 40 ?_⟩
  · have hi : i < nq := by have := lt_of hlt; rw [hnq] at this; omega
    show Goes _ _ _ _
    refine goes_indexA 40 rfl rfl rfl rfl rfl rfl rfl rfl (by simp) h1 (Int.natCast_nonneg i) (by rw [hnq]; omega) ?_
    show Goes _ _ _ _
    refine goes_fieldA 40 rfl rfl rfl rfl rfl rfl rfl rfl (by simp) h1 ?_
    show Goes _ _ _ _
    refine goes_storeA 40 rfl rfl rfl rfl rfl rfl (by simp) h1 (by rw [e1, Nat.zero_add]; exact hi) (by decide) fun B' xs' hx hr hq => ?_
    refine ⟨by constructor <;> omega, ?_⟩
    show Goes _ _ _ _
    obtain ⟨s1, s2⟩ := shp_step k2 k3 h1 (by simp) hr hx hq
    exact next (i + 1) B' _ _ ⟨⟨hi, s1, s2⟩, by omega, ⟨⟨rfl, rfl⟩, ⟨rfl, rfl⟩, trivial⟩, ⟨⟨rfl, rfl⟩, trivial⟩⟩
  · exact ⟨trivial, rfl, ⟨k2, k3⟩, rfl, rfl⟩
end Bow
/- SP28: where a node is, number by number (the document's answer), in plain Lean. -/
namespace Bow
open Go

theorem nums_snocR (c : Chg) : ∀ (p q : List Int) (k : Int), c.nums q (p ++ [k]) = c.nums q p ++ [c.number (q ++ p) k]
  | [], q, k => by simp [Chg.nums]
  | j :: p, q, k => by
    rw [List.cons_append, Chg.nums, Chg.nums, nums_snocR c p (q ++ [j]) k]
    simp
theorem within_snoc (p q : List Int) (k : Int) : within p (q ++ [k]) = (within p q || decide (p = q ++ [k])) := by
  unfold within
  by_cases h1 : p.length ≤ q.length
  · rw [List.take_append_of_le_length h1]
    have : p ≠ q ++ [k] := fun e => by rw [e] at h1; simp at h1; omega
    rw [decide_eq_false this, Bool.or_false]
  · have hq : q.take p.length = q := List.take_of_length_le (by omega)
    have h2 : (q ++ [k]).take p.length = q ++ [k] := List.take_of_length_le (by simp; omega)
    have : p ≠ q := fun e => by rw [e] at h1; omega
    rw [hq, h2, decide_eq_false this, Bool.false_or]
theorem moves_kinds {o : OpT} (h : movesO o = true) : o.kind = 1 ∨ (o.kind = 2 ∧ o.path ≠ []) ∨ (o.kind = 3 ∧ o.path ≠ [] ∧ within o.path o.to = false) := by
  unfold movesO at h
  rw [Bool.and_eq_true] at h
  have h := h.2
  by_cases h1 : o.kind = 1
  · exact .inl h1
  · rw [decide_eq_false h1, cond_false] at h
    by_cases h2 : o.kind = 2
    · rw [decide_eq_true h2, cond_true] at h
      exact .inr (.inl ⟨h2, fun e => by rw [e] at h; cases h⟩)
    · rw [decide_eq_false h2, cond_false] at h
      by_cases h3 : o.kind = 3
      · rw [decide_eq_true h3, cond_true, Bool.and_eq_true] at h
        exact .inr (.inr ⟨h3, (fun e => (by rw [e] at h; cases h.1)), (by simpa using h.2)⟩)
      · rw [decide_eq_false h3, cond_false] at h
        cases h
def childR (o : OpT) (p : List Int) (k : Int) : Option Int :=
  bif decide (o.kind = 1) then some (bif decide (p = o.path) && decide (o.at_ ≤ k) then k + 1 else k)
  else bif decide (p = o.path.dropLast) && decide (k = lastP o.path) then none
  else some ((bif decide (p = o.path.dropLast) && decide (lastP o.path < k) then k - 1 else k) + (bif decide (o.kind = 3) && (decide (p = o.to) && decide (o.at_ ≤ k)) then 1 else 0))
theorem snoc_last {p : List Int} (h : p ≠ []) : p.dropLast ++ [lastP p] = p := by
  rw [← lastP_eq h]
  exact List.dropLast_concat_getLast h
theorem snoc_iff {p q : List Int} (k : Int) (h : p ≠ []) : p = q ++ [k] ↔ q = p.dropLast ∧ k = lastP p := by
  constructor
  · intro e
    subst e
    simp [lastP]
  · rintro ⟨rfl, rfl⟩
    exact (snoc_last h).symm
def nodeR (a : Option (List Int)) (b : Option Int) : Option (List Int) :=
  match a, b with
  | some r, some n => some (r ++ [n])
  | _, _ => none
theorem node_snoc {o : OpT} (hm : movesO o = true) (q : List Int) (k : Int) (hne : ¬ (o.kind = 3 ∧ o.path = q ++ [k])) : nodeP o (q ++ [k]) = nodeR (nodeP o q) (childR o q k) := by
  unfold nodeP
  rw [hm, Bool.not_true, cond_false, cond_false]
  rcases moves_kinds hm with h1 | ⟨h2, hn⟩ | ⟨h3, hn, hw⟩
  · have ht : (chgO o).takes = false := by unfold chgO; simp [h1]
    have hc : childR o q k = some ((chgO o).number q k) := by
      unfold childR Chg.number chgO
      rw [h1]
      simp only [decide_true, cond_true, Bool.not_true, Bool.false_and, cond_false, Bool.true_and, show decide ((1 : Int) = 2) = false from rfl, Bool.not_false]
      by_cases e1 : q = o.path <;> by_cases e2 : o.at_ ≤ k <;> simp [e1, e2]
    rw [ht, Bool.false_and, Bool.false_and, cond_false, cond_false, nums_snocR, hc, List.nil_append]
    rfl
  · have ht : (chgO o).takes = true := by unfold chgO; simp [h2]
    have hp : (chgO o).puts = false := by unfold chgO; simp [h2]
    rw [ht, hp, Bool.true_and, Bool.true_and, within_snoc]
    cases hwq : within o.path q with
    | true => rfl
    | false =>
      simp only [Bool.false_or, cond_false]
      by_cases e : o.path = q ++ [k]
      · rw [decide_eq_true e]
        obtain ⟨e1, e2⟩ := (snoc_iff k hn).1 e
        have hc : childR o q k = none := by
          unfold childR
          rw [h2, decide_eq_true e1, decide_eq_true e2]
          rfl
        rw [hc]; rfl
      · rw [decide_eq_false e, cond_false, nums_snocR, List.nil_append]
        have hnot : ¬ (q = o.path.dropLast ∧ k = lastP o.path) := fun g => e ((snoc_iff k hn).2 g)
        have hc : childR o q k = some ((chgO o).number q k) := by
          unfold childR Chg.number chgO
          rw [h2]
          by_cases e1 : q = o.path.dropLast <;> by_cases e2 : k = lastP o.path
          · exact absurd ⟨e1, e2⟩ hnot
          · by_cases e3 : lastP o.path < k <;> simp [e1, e2, e3]
          · simp [e1, e2]
          · simp [e1, e2]
        rw [hc]; rfl
  · have ht : (chgO o).takes = true := by unfold chgO; simp [h3]
    have hp : (chgO o).puts = true := by unfold chgO; simp [h3]
    have e : o.path ≠ q ++ [k] := fun e => hne ⟨h3, e⟩
    have hnot : ¬ (q = o.path.dropLast ∧ k = lastP o.path) := fun g => e ((snoc_iff k hn).2 g)
    rw [ht, hp, Bool.true_and, Bool.true_and, within_snoc, decide_eq_false e, Bool.or_false]
    cases hwq : within o.path q with
    | true =>
      simp only [Bool.not_true, cond_false, cond_true]
      have hl := within_len hwq
      have e1 : q ≠ o.path.dropLast := fun g => by
        have : o.path.length ≤ o.path.dropLast.length := g ▸ hl
        have h0 := List.length_pos_iff.2 hn
        simp at this
        omega
      have e2 : q ≠ o.to := fun g => by rw [g, hw] at hwq; cases hwq
      have hc : childR o q k = some k := by
        unfold childR
        simp [h3, e1, e2]
      rw [hc, List.drop_append_of_le_length hl]
      simp [nodeR]
    | false =>
      simp only [cond_false]
      rw [nums_snocR, List.nil_append]
      have hc : childR o q k = some ((chgO o).number q k) := by
        unfold childR Chg.number chgO
        rw [h3]
        by_cases e1 : q = o.path.dropLast <;> by_cases e2 : k = lastP o.path
        · exact absurd ⟨e1, e2⟩ hnot
        all_goals by_cases e3 : lastP o.path < k <;> by_cases e4 : q = o.to <;> by_cases e5 : o.at_ ≤ k <;> simp_all
      rw [hc]; rfl
theorem node_moved {o : OpT} (hm : movesO o = true) (hk : o.kind = 3) : nodeP o o.path = some ((nodeP o o.to).getD [] ++ [bif decide (o.path.dropLast = o.to) && decide (lastP o.path < o.at_) then o.at_ - 1 else o.at_]) := by
  rcases moves_kinds hm with h1 | ⟨h2, hn⟩ | ⟨h3, hn, hw⟩
  · omega
  · omega
  · have ht : (chgO o).takes = true := by unfold chgO; simp [h3]
    have hp : (chgO o).puts = true := by unfold chgO; simp [h3]
    have hpp : within o.path o.path = true := by unfold within; simp
    unfold nodeP
    rw [hm, ht, hp, hpp, hw]
    simp only [Bool.not_true, cond_false, Bool.and_self, cond_true, Bool.and_false, List.drop_length, List.append_nil, Option.getD_some, Option.some.injEq, List.append_cancel_left_eq, List.cons.injEq, and_true]
    unfold Chg.land chgO
    rw [h3]
    by_cases e1 : o.path.dropLast = o.to <;> by_cases e2 : lastP o.path < o.at_ <;> simp [e1, e2]
theorem node_still {o : OpT} (p : List Int) (h : movesO o = false) : nodeP o p = some p := by
  unfold nodeP
  rw [h]; rfl
theorem node_root {o : OpT} : nodeP o [] = some [] := by
  unfold nodeP
  cases hm : movesO o with
  | false => rfl
  | true =>
    simp only [Bool.not_true, cond_false]
    have : ((chgO o).takes && within o.path []) = false := by
      rcases moves_kinds hm with h1 | ⟨h2, hn⟩ | ⟨h3, hn, hw⟩
      · unfold chgO; simp [h1]
      all_goals
        cases hp : o.path with
        | nil => exact absurd hp hn
        | cons a l => rw [within_cons_nil, Bool.and_false]
    rw [this]; rfl
end Bow
/- W67: the document's answer of chapter 11: Moves, parent, child, Node, Gap, Undo. -/
namespace Bow
open Go Go.Proofs

theorem formed_kinds {o : OpT} (h : formedB o = true) : o.kind = 1 ∨ o.kind = 2 ∨ o.kind = 3 ∨ o.kind = 4 ∨ o.kind = 5 ∨ o.kind = 6 := by
  unfold formedB at h
  by_cases h1 : o.kind = 1
  · exact .inl h1
  by_cases h2 : o.kind = 2
  · exact .inr (.inl h2)
  by_cases h3 : o.kind = 3
  · exact .inr (.inr (.inl h3))
  by_cases h4 : o.kind = 4
  · exact .inr (.inr (.inr (.inl h4)))
  by_cases h5 : o.kind = 5
  · exact .inr (.inr (.inr (.inr (.inl h5))))
  by_cases h6 : o.kind = 6
  · exact .inr (.inr (.inr (.inr (.inr h6))))
  exfalso
  have e : ∀ {n : Int}, o.kind ≠ n → (o.kind == n) = false := fun h => by simpa using h
  rw [e h1, e h2, e h3, e h4, e h5, e h6] at h
  simp at h
set_option maxRecDepth 100000 in
theorem w_refMoves (o : OpT) (ho : o.Ok) : Pure Tryz.prog 133 [opV o] (fun x => x = .bool (movesO o)) := by
  refine pure_wk (pure_fn 300 Tryz.func133 rfl rfl rfl fun B => ?_)
  have hW := w_refWithin o.path o.to ho.lt.path
  show CallThen _ _ _ _ _ _
  refine call_pure (w_refFormed o ho.lt ho.each) rfl ?_
  rintro x rfl
  repeat' first
    | (refine ⟨fun _ => go 300 ?_, fun _ => go 300 ?_⟩)
    | (show CallThen _ _ _ _ _ _; refine call_pure hW rfl ?_; rintro z rfl)
    | (refine ⟨trivial, rfl, rfl, rfl, leaf_tt ?_⟩)
    | (refine ⟨trivial, rfl, rfl, rfl, leaf_ff ?_⟩)
    | (refine ⟨trivial, rfl, rfl, rfl, leaf_b ?_⟩)
    | fail
  all_goals clear hW
  all_goals (unfold movesO; cases hf : formedB o with
    | false => simp_all
    | true => rcases formed_kinds hf with k | k | k | k | k | k <;> simp_all <;> (try intro _) <;> exact List.length_pos_iff.2 (by assumption))
/-- The parent's path and the last number. -/
theorem w_refParent (p : List Int) (hp : p.length ≤ 1000000) (hne : p ≠ []) : Pure Tryz.prog 134 [pathV p] (fun x => x = .tup [pathV p.dropLast, intV (lastP p)]) := by
  have hpos : 0 < p.length := List.length_pos_iff.2 hne
  have e : V.sl 1 ((((p.map intV).drop (Int.toNat 0)).take ((((p.map intV).length : Int) - 1).toNat - Int.toNat 0))) = pathV p.dropLast := by
    unfold pathV
    rw [List.dropLast_eq_take, List.map_take]
    congr 2
    simp
  have hx : (p.map intV)[(((p.map intV).length : Int) - 1).toNat]? = some (intV (lastP p)) := by
    rw [← lastP_eq hne, List.getElem?_map, List.getLast_eq_getElem]
    have : (((p.map intV).length : Int) - 1).toNat = p.length - 1 := by simp
    rw [this, List.getElem?_eq_getElem (by omega)]
    rfl
  have hl : (p.map intV).length = p.length := by simp
  refine pure_fn 100 Tryz.func134 rfl rfl rfl fun B => ?_
  show Goes _ _ _ _
  refine goes_draw 100 ⟨by constructor <;> omega, by decide, by omega, by omega, by constructor <;> omega, by omega, _, hx, ?_⟩
  refine ⟨by kernel_rfl, ?_⟩
  refine ⟨trivial, rfl, rfl, rfl, ?_⟩
  rw [e]
  rfl
def childV (r : Option Int) : V := .tup [.int .i64 (r.getD 0), .bool r.isSome]
theorem leafC {r : Option Int} {n : Int} (h : r = some n) : ∃ y, Wk (.tup [.int .i64 n, .tt]) y ∧ y.pureB = true ∧ y = childV r := ⟨childV (some n), Wk.tup ⟨.refl _, Wk.tt, trivial⟩, rfl, by rw [h]⟩
theorem leafC0 {r : Option Int} (h : r = none) : ∃ y, Wk (.tup [.int .i64 0, .ff]) y ∧ y.pureB = true ∧ y = childV r := ⟨childV none, Wk.tup ⟨.refl _, Wk.ff, trivial⟩, rfl, by rw [h]⟩
set_option maxRecDepth 100000 in
theorem w_refchild (o : OpT) (p : List Int) (k : Int) (ho : o.Ok) (hm : movesO o = true) (hp : p.length ≤ 1000000) (hk : 0 ≤ k ∧ k ≤ 10000000) : Pure Tryz.prog 136 [opV o, pathV p, .int .i64 k] (fun x => x = childV (childR o p k)) := by
  refine pure_wk (pure_fn 300 Tryz.func136 rfl rfl rfl fun B => ?_)
  have h1 := w_refSame p o.path hp
  have h2 := w_refSame p o.path.dropLast hp
  have h3 := w_refSame p o.to hp
  refine ⟨fun g1 => go 300 ?_, fun g1 => go 300 ?_⟩
  · have k1 : o.kind = 1 := eq_of g1
    repeat' first
      | (refine ⟨fun _ => go 300 ?_, fun _ => go 300 ?_⟩)
      | (show CallThen _ _ _ _ _ _; refine call_pure h1 rfl ?_; rintro z rfl)
      | (refine ⟨trivial, rfl, rfl, rfl, leafC ?_⟩)
      | (refine ⟨by constructor <;> omega, ?_⟩)
      | fail
    all_goals (clear h1 h2 h3 k1; unfold childR; simp only [*, cond_true, cond_false, Bool.and_true, Bool.and_false, Bool.true_and, Bool.false_and])
  have k1 : o.kind ≠ 1 := ne_of g1
  have hne := moves_ne hm k1
  show CallThen _ _ _ _ _ _
  refine call_pure (w_refParent o.path ho.lt.path hne) rfl ?_
  rintro x rfl
  repeat' first
    | (refine ⟨fun _ => go 300 ?_, fun _ => go 300 ?_⟩)
    | (show CallThen _ _ _ _ _ _; refine call_pure h2 rfl ?_; rintro z rfl)
    | (show CallThen _ _ _ _ _ _; refine call_pure h3 rfl ?_; rintro z rfl)
    | (refine ⟨trivial, rfl, rfl, rfl, leafC ?_⟩)
    | (refine ⟨trivial, rfl, rfl, rfl, leafC0 ?_⟩)
    | (refine ⟨by constructor <;> omega, ?_⟩)
    | fail
  all_goals (clear h1 h2 h3 k1 hne; unfold childR; simp only [*, cond_true, cond_false, Bool.and_true, Bool.and_false, Bool.true_and, Bool.false_and, Int.add_zero])
theorem w_refChild4 (p : List Int) (n : Int) (hp : p.length ≤ 100000) : Pure Tryz.prog 135 [pathV p, .int .i64 n] (fun x => x = pathV (p ++ [n])) := by
  refine pure_wk (pure_fn 300 Tryz.func135 rfl rfl rfl fun B => ?_)
  show CallThen _ _ _ _ _ _
  refine call_sub [] (w_CopiedQ (p.map intV) (by simp; omega)) rfl rfl trivial rfl rfl rfl ?_
  rintro x T1 ⟨rfl, rfl⟩
  refine ⟨rfl, ?_⟩
  refine ⟨⟨rfl, trivial⟩, rfl, rfl, rfl, rfl, ?_, ?_⟩
  · simp only [List.length_map, List.length_cons, List.length_nil]; exact Nat.le_trans (Nat.mul_le_mul_right _ (show p.length + 1 ≤ 1000000 by omega)) (by decide)
  refine ⟨trivial, rfl, rfl, rfl, by simp, rfl, pathV (p ++ [n]), ?_, rfl, rfl⟩
  unfold pathV
  rw [List.map_append]
  exact Wk.refl _
theorem nodeP_len64 (o : OpT) (p : List Int) : ((nodeP o p).getD []).length ≤ p.length + 65 := by
  unfold nodeP
  cases hm : movesO o with
  | false => simp
  | true =>
    obtain ⟨hf, hkk⟩ := moves_parts hm
    cases ht : (chgO o).takes && within o.path p with
    | false => simp [nums_len]
    | true =>
      cases hq : (chgO o).puts with
      | false => simp
      | true =>
        rw [Bool.and_eq_true] at ht
        have hk3 : o.kind = 3 := by
          rcases hkk with k | ⟨k, _⟩ | h
          · have := ht.1; unfold chgO at this; simp [k] at this
          · unfold chgO at hq; simp [k] at hq
          · exact h.1
        have := may_len (good_to hf hk3)
        simp [nums_len]
        omega
def nodeBV (r : Option (List Int)) : V := .tup [pathV (r.getD []), .bool r.isSome]
theorem leafN1 {r : Option (List Int)} {q : List Int} (h : r = some q) : ∃ y, Wk (.tup [pathV q, .tt]) y ∧ y.pureB = true ∧ y = nodeBV r := ⟨nodeBV (some q), Wk.tup ⟨.refl _, Wk.tt, trivial⟩, rfl, by rw [h]⟩
theorem leafN0 {r : Option (List Int)} (h : r = none) : ∃ y, Wk (.tup [.nilsl, .ff]) y ∧ y.pureB = true ∧ y = nodeBV r := ⟨nodeBV none, Wk.tup ⟨Wk.nil 1, Wk.ff, trivial⟩, rfl, by rw [h]⟩
theorem w_refNode0 (o : OpT) (p : List Int) (ho : o.Ok) (hp : p.length ≤ 1000) (h : movesO o = false ∨ p = []) : Pure Tryz.prog 93 [opV o, pathV p] (fun x => x = nodeBV (nodeP o p)) := by
  have e : nodeP o p = some p := by
    rcases h with h | rfl
    · exact node_still p h
    · exact node_root
  refine pure_wk (pure_fn 300 Tryz.func93 rfl rfl rfl fun B => ?_)
  show CallThen _ _ _ _ _ _
  refine call_pure (w_refMoves o ho) rfl ?_
  rintro x rfl
  refine ⟨fun g1 => go 300 ?_, fun g1 => go 300 ?_⟩
  · show CallThen _ _ _ _ _ _
    refine call_pure (w_refCopied p (by omega)) rfl ?_
    rintro x rfl
    exact ⟨trivial, rfl, rfl, rfl, leafN1 e⟩
  refine ⟨fun g2 => go 300 ?_, fun g2 => go 300 ?_⟩
  · show CallThen _ _ _ _ _ _
    refine call_pure (w_refCopied p (by omega)) rfl ?_
    rintro x rfl
    exact ⟨trivial, rfl, rfl, rfl, leafN1 e⟩
  · exfalso
    have g1 : movesO o = true := by simpa using g1
    rcases h with h | rfl
    · rw [g1] at h; cases h
    · exact absurd rfl (ne_of g2)
set_option maxHeartbeats 4000000 in
set_option maxRecDepth 100000 in
theorem w_refNodeS (o : OpT) (p : List Int) (ho : o.Ok) (hm : movesO o = true) (hne : p ≠ []) (hp : p.length ≤ 1000) (hpb : ∀ i ∈ p, 0 ≤ i ∧ i ≤ 1048576)
    (ih : Pure Tryz.prog 93 [opV o, pathV p.dropLast] (fun x => x = nodeBV (nodeP o p.dropLast)))
    (ih2 : o.kind = 3 → o.path = p → Pure Tryz.prog 93 [opV o, pathV o.to] (fun x => x = nodeBV (nodeP o o.to))) :
    Pure Tryz.prog 93 [opV o, pathV p] (fun x => x = nodeBV (nodeP o p)) := by
  have hlast : 0 ≤ lastP p ∧ lastP p ≤ 1048576 := by rw [← lastP_eq hne]; exact hpb _ (List.getLast_mem hne)
  have hsnoc := snoc_last hne
  obtain ⟨hf, hkk⟩ := moves_parts hm
  have hpos : 0 < p.length := List.length_pos_iff.2 hne
  have hlen1 := nodeP_len64 o p.dropLast
  have hdl : p.dropLast.length ≤ 1000 := by simp; omega
  have h1 := w_refSame p o.path (by omega)
  refine pure_wk (pure_fn 300 Tryz.func93 rfl rfl rfl fun B => ?_)
  show CallThen _ _ _ _ _ _
  refine call_pure (w_refMoves o ho) rfl ?_
  rintro x rfl
  refine ⟨fun g1 => absurd g1 (by rw [hm]; decide), fun _ => go 300 ?_⟩
  refine ⟨fun g1 => absurd (eq_of g1) (by simp; omega), fun _ => go 300 ?_⟩
  show CallThen _ _ _ _ _ _
  refine call_pure (w_refParent p (by omega) hne) rfl ?_
  rintro x rfl
  have rest : ∀ (h : ¬ (o.kind = 3 ∧ o.path = p)), nodeP o p = nodeR (nodeP o p.dropLast) (childR o p.dropLast (lastP p)) := fun h => by
    have := node_snoc hm p.dropLast (lastP p) (by rw [hsnoc]; exact h)
    rwa [hsnoc] at this
  have hch := w_refchild o p.dropLast (lastP p) ho hm (by omega) ⟨by omega, by omega⟩
  refine ⟨fun g2 => go 300 ?_, fun g2 => go 300 ?_⟩
  · have k3 : o.kind = 3 := eq_of g2
    show CallThen _ _ _ _ _ _
    refine call_pure h1 rfl ?_
    rintro x rfl
    refine ⟨fun g3 => go 300 ?_, fun g3 => go 300 ?_⟩
    · have e3 : p = o.path := of_decide_eq_true g3
      have hto := may_len (good_to hf k3)
      have hgap := formed_gap hf (.inr k3)
      have hl2 := nodeP_len64 o o.to
      have hmv := node_moved hm k3
      rw [← e3] at hmv
      show CallThen _ _ _ _ _ _
      refine call_pure (ih2 k3 e3.symm) rfl ?_
      rintro x rfl
      show CallThen _ _ _ _ _ _
      refine call_pure (w_refSame p.dropLast o.to (by omega)) rfl ?_
      rintro x rfl
      have fin : ∀ n : Int, n = (bif decide (p.dropLast = o.to) && decide (lastP p < o.at_) then o.at_ - 1 else o.at_) → nodeP o p = some ((nodeP o o.to).getD [] ++ [n]) := fun n hn => by rw [hn]; exact hmv
      refine ⟨fun g4 => go 300 ?_, fun g4 => go 300 ?_⟩
      · refine ⟨fun g5 => go 300 ?_, fun g5 => go 300 ?_⟩
        · refine ⟨by constructor <;> omega, ?_⟩
          show CallThen _ _ _ _ _ _
          refine call_pure (w_refChild4 _ _ (by omega)) rfl ?_
          rintro x rfl
          exact ⟨trivial, rfl, rfl, rfl, leafN1 (fin _ (by rw [g4, g5]; rfl))⟩
        · show CallThen _ _ _ _ _ _
          refine call_pure (w_refChild4 _ _ (by omega)) rfl ?_
          rintro x rfl
          exact ⟨trivial, rfl, rfl, rfl, leafN1 (fin _ (by rw [g4, g5]; rfl))⟩
      · show CallThen _ _ _ _ _ _
        refine call_pure (w_refChild4 _ _ (by omega)) rfl ?_
        rintro x rfl
        exact ⟨trivial, rfl, rfl, rfl, leafN1 (fin _ (by rw [g4]; rfl))⟩
    · have e3 : ¬ p = o.path := of_decide_eq_false g3
      have er := rest (fun h => e3 h.2.symm)
      rw [er]
      show CallThen _ _ _ _ _ _
      refine call_pure ih rfl ?_
      rintro x rfl
      show CallThen _ _ _ _ _ _
      refine call_pure hch rfl ?_
      rintro x rfl
      refine ⟨fun g4 => go 300 ?_, fun g4 => go 300 ?_⟩
      · exact ⟨trivial, rfl, rfl, rfl, leafN0 (by cases hR : nodeP o p.dropLast with
          | none => rfl
          | some q => rw [hR] at g4; cases g4)⟩
      refine ⟨fun g5 => go 300 ?_, fun g5 => go 300 ?_⟩
      · exact ⟨trivial, rfl, rfl, rfl, leafN0 (by cases hR : childR o p.dropLast (lastP p) with
          | none => cases nodeP o p.dropLast <;> rfl
          | some q => rw [hR] at g5; cases g5)⟩
      show CallThen _ _ _ _ _ _
      refine call_pure (w_refChild4 _ _ (by omega)) rfl ?_
      rintro x rfl
      exact ⟨trivial, rfl, rfl, rfl, leafN1 (by
        cases hR : nodeP o p.dropLast with
        | none => rw [hR] at g4; cases g4
        | some q =>
          cases hC : childR o p.dropLast (lastP p) with
          | none => rw [hC] at g5; cases g5
          | some n => rfl)⟩
  · have k3 : o.kind ≠ 3 := ne_of g2
    have er := rest (fun h => k3 h.1)
    rw [er]
    show CallThen _ _ _ _ _ _
    refine call_pure ih rfl ?_
    rintro x rfl
    show CallThen _ _ _ _ _ _
    refine call_pure hch rfl ?_
    rintro x rfl
    refine ⟨fun g4 => go 300 ?_, fun g4 => go 300 ?_⟩
    · exact ⟨trivial, rfl, rfl, rfl, leafN0 (by cases hR : nodeP o p.dropLast with
        | none => rfl
        | some q => rw [hR] at g4; cases g4)⟩
    refine ⟨fun g5 => go 300 ?_, fun g5 => go 300 ?_⟩
    · exact ⟨trivial, rfl, rfl, rfl, leafN0 (by cases hR : childR o p.dropLast (lastP p) with
        | none => cases nodeP o p.dropLast <;> rfl
        | some q => rw [hR] at g5; cases g5)⟩
    show CallThen _ _ _ _ _ _
    refine call_pure (w_refChild4 _ _ (by omega)) rfl ?_
    rintro x rfl
    exact ⟨trivial, rfl, rfl, rfl, leafN1 (by
      cases hR : nodeP o p.dropLast with
      | none => rw [hR] at g4; cases g4
      | some q =>
        cases hC : childR o p.dropLast (lastP p) with
        | none => rw [hC] at g5; cases g5
        | some n => rfl)⟩
theorem w_refNode1 (o : OpT) (ho : o.Ok) (hm : movesO o = true) : ∀ (n : Nat) (p : List Int), p.length = n → p.length ≤ 1000 → (∀ i ∈ p, 0 ≤ i ∧ i ≤ 1048576) → (o.kind = 3 → within o.path p = false) → Pure Tryz.prog 93 [opV o, pathV p] (fun x => x = nodeBV (nodeP o p))
  | 0, p, hn, _, _, _ => w_refNode0 o p ho (by omega) (.inr (List.length_eq_zero_iff.1 hn))
  | n + 1, p, hn, hp, hpb, hw => by
    have hne : p ≠ [] := fun e => by rw [e] at hn; cases hn
    have hd : p.dropLast.length = n := by simp [hn]
    refine w_refNodeS o p ho hm hne hp hpb (w_refNode1 o ho hm n p.dropLast hd (by omega) (fun i hi => hpb i (List.dropLast_subset _ hi)) fun k => ?_) fun k e => ?_
    · have := hw k
      have e := within_snoc o.path p.dropLast (lastP p)
      rw [snoc_last hne, this] at e
      exact (Bool.or_eq_false_iff.1 e.symm).1
    · have := hw k
      rw [e] at this
      unfold within at this
      simp at this
theorem w_refNode2 (o : OpT) (ho : o.Ok) (hm : movesO o = true) : ∀ (n : Nat) (p : List Int), p.length = n → p.length ≤ 1000 → (∀ i ∈ p, 0 ≤ i ∧ i ≤ 1048576) → Pure Tryz.prog 93 [opV o, pathV p] (fun x => x = nodeBV (nodeP o p))
  | 0, p, hn, _, _ => w_refNode0 o p ho (by omega) (.inr (List.length_eq_zero_iff.1 hn))
  | n + 1, p, hn, hp, hpb => by
    have hne : p ≠ [] := fun e => by rw [e] at hn; cases hn
    have hd : p.dropLast.length = n := by simp [hn]
    refine w_refNodeS o p ho hm hne hp hpb (w_refNode2 o ho hm n p.dropLast hd (by omega) (fun i hi => hpb i (List.dropLast_subset _ hi))) fun k e => ?_
    obtain ⟨hf, hkk⟩ := moves_parts hm
    have hto := good_to hf k
    have := may_len hto
    refine w_refNode1 o ho hm _ o.to rfl (by omega) (may_step hto) fun _ => ?_
    rcases hkk with h | ⟨h, _⟩ | ⟨_, _, h⟩
    · omega
    · omega
    · exact h
theorem w_refNode (o : OpT) (p : List Int) (ho : o.Ok) (hp : p.length ≤ 1000) (hpb : ∀ i ∈ p, 0 ≤ i ∧ i ≤ 1048576) : Pure Tryz.prog 93 [opV o, pathV p] (fun x => x = nodeBV (nodeP o p)) := by
  cases hm : movesO o with
  | false => exact w_refNode0 o p ho hp (.inl hm)
  | true => exact w_refNode2 o ho hm _ p rfl hp hpb

set_option maxHeartbeats 4000000 in
set_option maxRecDepth 100000 in
theorem w_refGap (o : OpT) (p : List Int) (at_ : Int) (first : Bool) (ho : o.Ok) (hp : p.length ≤ 1000) (hpb : ∀ i ∈ p, 0 ≤ i ∧ i ≤ 1048576) (hat : 0 ≤ at_ ∧ at_ ≤ 10000000) :
    Pure Tryz.prog 141 [opV o, pathV p, .int .i64 at_, .bool first] (fun x => x = gapV (gapP o p at_ first)) := by
  refine pure_wk (pure_fn 300 Tryz.func141 rfl rfl rfl fun B => ?_)
  show CallThen _ _ _ _ _ _
  refine call_pure (w_refNode o p ho hp hpb) rfl ?_
  rintro x rfl
  cases hn : nodeP o p with
  | none =>
    have e : gapP o p at_ first = ([], 0, false) := by unfold gapP; rw [hn]
    rw [e]
    refine ⟨fun _ => go 300 ?_, fun g => (by cases g)⟩
    exact ⟨trivial, rfl, rfl, rfl, gapV ([], 0, false), Wk.tup ⟨Wk.nil 1, .refl _, Wk.ff, trivial⟩, rfl, rfl⟩
  | some q =>
    refine ⟨fun g => (by cases g), fun _ => go 300 ?_⟩
    show CallThen _ _ _ _ _ _
    refine call_pure (w_refMoves o ho) rfl ?_
    rintro x rfl
    refine ⟨fun g1 => go 300 ?_, fun g1 => go 300 ?_⟩
    · have hm : movesO o = false := by simpa using g1
      refine ⟨trivial, rfl, rfl, rfl, gap_leaf ?_⟩
      unfold gapP
      rw [hn, hm]
      rfl
    have hm : movesO o = true := by simpa using g1
    have e : gapP o p at_ first = (q, (bif (chgO o).takes && (decide ((chgO o).at_ < at_) && decide (p = (chgO o).frm)) then at_ - 1 else at_) + (bif (chgO o).puts && (decide (p = (chgO o).to) && (decide ((chgO o).gap < at_) || (decide (at_ = (chgO o).gap) && !first))) then 1 else 0), true) := by
      unfold gapP
      rw [hn, hm]
      rfl
    rw [e]
    clear e
    have flip : ∀ r : List Int, decide (r = p) = decide (p = r) := fun r => decide_eq_decide.2 eq_comm
    have h1 := w_refSame o.path.dropLast p (by have := ho.lt.path; simp; omega)
    have h2 := w_refSame o.path p ho.lt.path
    have h3 := w_refSame o.to p ho.lt.to
    rw [flip] at h1 h2 h3
    clear flip
    have hgap : (chgO o).gap = o.at_ := rfl
    rcases moves_kinds hm with k | ⟨k, hne⟩ | ⟨k, hne, hw⟩
    · have e1 : (chgO o).takes = false := by unfold chgO; simp [k]
      have e2 : (chgO o).puts = true := by unfold chgO; simp [k]
      have e3 : (chgO o).to = o.path := by unfold chgO; simp [k]
      rw [e1, e2, e3, hgap]
      clear e1 e2 e3 hgap
      refine ⟨fun g => absurd k (ne_of' g), fun _ => go 300 ?_⟩
      refine ⟨fun _ => go 300 ?_, fun g => absurd k (ne_of g)⟩
      refine ⟨fun _ => go 300 ?_, fun g => absurd (eq_of' g) (by omega)⟩
      show CallThen _ _ _ _ _ _
      refine call_pure h2 rfl ?_
      rintro x rfl
      repeat' first
        | (refine ⟨fun _ => go 300 ?_, fun _ => go 300 ?_⟩)
        | (refine ⟨trivial, rfl, rfl, rfl, gap_leaf ?_⟩)
        | (refine ⟨by constructor <;> omega, ?_⟩)
        | fail
      all_goals (clear h1 h2 h3 k hm g1; simp only [*, cond_true, cond_false, Bool.and_true, Bool.and_false, Bool.true_and, Bool.false_and, Bool.or_true, Bool.true_or, Bool.or_false, Bool.false_or, Int.add_zero, Option.getD_some])
    · have e1 : (chgO o).takes = true := by unfold chgO; simp [k]
      have e2 : (chgO o).puts = false := by unfold chgO; simp [k]
      have e3 : (chgO o).frm = o.path.dropLast := by unfold chgO; simp [k]
      have e4 : (chgO o).at_ = lastP o.path := by unfold chgO; simp [k]
      rw [e1, e2, e3, e4, hgap]
      clear e1 e2 e3 e4 hgap
      have hpar := w_refParent o.path ho.lt.path hne
      refine ⟨fun _ => go 300 ?_, fun g => absurd (eq_of' g) (by omega)⟩
      show CallThen _ _ _ _ _ _
      refine call_pure hpar rfl ?_
      rintro x rfl
      show CallThen _ _ _ _ _ _
      refine call_pure h1 rfl ?_
      rintro x rfl
      repeat' first
        | (refine ⟨fun g => absurd (eq_of g) (by omega), fun _ => go 300 ?_⟩)
        | (refine ⟨fun g => absurd k (ne_of' g), fun _ => go 300 ?_⟩)
        | (refine ⟨fun _ => go 300 ?_, fun _ => go 300 ?_⟩)
        | (refine ⟨trivial, rfl, rfl, rfl, gap_leaf ?_⟩)
        | (refine ⟨by constructor <;> omega, ?_⟩)
        | fail
      all_goals (clear h1 h2 h3 k hm g1; simp only [*, cond_true, cond_false, Bool.and_true, Bool.and_false, Bool.true_and, Bool.false_and, Bool.or_true, Bool.true_or, Bool.or_false, Bool.false_or, Int.add_zero, Option.getD_some])
    · have e1 : (chgO o).takes = true := by unfold chgO; simp [k]
      have e2 : (chgO o).puts = true := by unfold chgO; simp [k]
      have e3 : (chgO o).frm = o.path.dropLast := by unfold chgO; simp [k]
      have e4 : (chgO o).at_ = lastP o.path := by unfold chgO; simp [k]
      have e5 : (chgO o).to = o.to := by unfold chgO; simp [k]
      rw [e1, e2, e3, e4, e5, hgap]
      clear e1 e2 e3 e4 e5 hgap
      have hpar := w_refParent o.path ho.lt.path hne
      refine ⟨fun _ => go 300 ?_, fun g => absurd (eq_of' g) (by omega)⟩
      show CallThen _ _ _ _ _ _
      refine call_pure hpar rfl ?_
      rintro x rfl
      show CallThen _ _ _ _ _ _
      refine call_pure h1 rfl ?_
      rintro x rfl
      repeat' first
        | (refine ⟨fun g => absurd (eq_of g) (by omega), fun _ => go 300 ?_⟩)
        | (refine ⟨fun _ => go 300 ?_, fun g => absurd (eq_of' g) (by omega)⟩)
        | (refine ⟨fun _ => go 300 ?_, fun _ => go 300 ?_⟩)
        | (show CallThen _ _ _ _ _ _; refine call_pure h3 rfl ?_; rintro z rfl)
        | (refine ⟨trivial, rfl, rfl, rfl, gap_leaf ?_⟩)
        | (refine ⟨by constructor <;> omega, ?_⟩)
        | fail
      all_goals (clear h1 h2 h3 k hm g1; simp only [*, cond_true, cond_false, Bool.and_true, Bool.and_false, Bool.true_and, Bool.false_and, Bool.or_true, Bool.true_or, Bool.or_false, Bool.false_or, Int.add_zero, Option.getD_some])

set_option maxHeartbeats 4000000 in
set_option maxRecDepth 100000 in
theorem w_ref11Undo (o : OpT) (ho : o.Ok) : Pure Tryz.prog 137 [opV o] (fun x => x = opV (undoO o)) := by
  have z : undoO o = noOp 0 → ∃ y, Wk (.agg [.int .u8 0, .nilsl, .int .i64 0, .nilsl, .int .u64 0, .ff, .str [], .str [], .str [], .ff, .nilsl]) y ∧ y.pureB = true ∧ y = opV (undoO o) := fun h => ⟨opV (noOp 0), wk_zeroOp, rfl, by rw [h]⟩
  refine pure_wk (pure_fn 300 Tryz.func137 rfl rfl rfl fun B => ?_)
  refine ⟨fun g1 => go 300 ?_, fun g1 => go 300 ?_⟩
  · have hk : o.kind ≠ 3 := ne_of' g1
    exact ⟨trivial, rfl, rfl, rfl, z (by unfold undoO; rw [decide_eq_false hk]; rfl)⟩
  have hk : o.kind = 3 := eq_of' g1
  show CallThen _ _ _ _ _ _
  refine call_pure (w_refMoves o ho) rfl ?_
  rintro x rfl
  refine ⟨fun g2 => go 300 ?_, fun g2 => go 300 ?_⟩
  · have hm : movesO o = false := by simpa using g2
    exact ⟨trivial, rfl, rfl, rfl, z (by unfold undoO; rw [hm]; simp)⟩
  have hm : movesO o = true := by simpa using g2
  obtain ⟨hf, hkk⟩ := moves_parts hm
  have hne := moves_ne hm (by rw [hk]; decide)
  have hpl := may_len (formed_path hf)
  have hps := may_step (formed_path hf)
  have hgap := formed_gap hf (.inr hk)
  have hfrm : (chgO o).frm = o.path.dropLast := by unfold chgO; simp [hk]
  have hto : (chgO o).to = o.to := by unfold chgO; simp [hk]
  have hat : (chgO o).at_ = lastP o.path := by unfold chgO; simp [hk]
  have hl : 0 ≤ lastP o.path ∧ lastP o.path ≤ 1048576 := by rw [← lastP_eq hne]; exact hps _ (List.getLast_mem hne)
  have hfs : ∀ i ∈ o.path.dropLast, 0 ≤ i ∧ i ≤ 1048576 := fun i hi => hps i (List.dropLast_subset _ hi)
  have hland : (chgO o).land = bif decide (o.path.dropLast = o.to) && decide (lastP o.path < o.at_) then o.at_ - 1 else o.at_ := by
    unfold Chg.land
    rw [hfrm, hto, hat, Bool.and_comm]
    rfl
  have hmv := node_moved hm hk
  have hlen := nodeP_len64 o o.path
  rw [← hland] at hmv
  have hund : undoO o = { noOp 3 with path := (nodeP o o.path).getD [], to := (nodeP o o.path.dropLast).getD [], at_ := lastP o.path + (bif decide (o.path.dropLast = o.to) && decide ((chgO o).land < lastP o.path) then 1 else 0) } := by
    unfold undoO
    rw [decide_eq_true hk, hm, hfrm, hto, hat]
    rfl
  have cn := w_refNode o o.path ho (by omega) hps
  obtain ⟨now, hnow⟩ : ∃ now, (nodeP o o.to).getD [] ++ [(chgO o).land] = now := ⟨_, rfl⟩
  have hlast : lastP now = (chgO o).land := by rw [← hnow]; simp [lastP]
  have hnne : now ≠ [] := by rw [← hnow]; simp
  rw [hnow] at hmv
  rw [hmv] at cn hund hlen
  simp only [Option.getD_some] at hund hlen
  show CallThen _ _ _ _ _ _
  refine call_pure (w_refParent o.path ho.lt.path hne) rfl ?_
  rintro x rfl
  show CallThen _ _ _ _ _ _
  refine call_pure cn rfl ?_
  rintro x rfl
  show CallThen _ _ _ _ _ _
  refine call_pure (w_refNode o o.path.dropLast ho (by simp; omega) hfs) rfl ?_
  rintro x rfl
  show CallThen _ _ _ _ _ _
  refine call_pure (w_refParent now (by omega) hnne) rfl ?_
  rintro x rfl
  rw [hlast]
  show CallThen _ _ _ _ _ _
  refine call_pure (w_refSame o.path.dropLast o.to (by simp; omega)) rfl ?_
  rintro x rfl
  have fin : ∀ n : Int, n = lastP o.path + (bif decide (o.path.dropLast = o.to) && decide ((chgO o).land < lastP o.path) then 1 else 0) →
      ∃ y, Wk (.agg [.int .u8 3, pathV now, .int .i64 n, pathV ((nodeP o o.path.dropLast).getD []), .int .u64 0, .ff, .str [], .str [], .str [], .ff, .nilsl]) y ∧ y.pureB = true ∧ y = opV (undoO o) := fun n hn =>
    ⟨opV (undoO o), by
      rw [hund, ← hn]
      exact Wk.agg ⟨.refl _, .refl _, .refl _, .refl _, .refl _, Wk.ff, .refl _, .refl _, .refl _, Wk.ff, Wk.nil 3, trivial⟩, rfl, rfl⟩
  refine ⟨fun q1 => go 300 ?_, fun q1 => go 300 ?_⟩
  · refine ⟨fun q2 => go 300 ?_, fun q2 => go 300 ?_⟩
    · refine ⟨by constructor <;> omega, ?_⟩
      exact ⟨trivial, rfl, rfl, rfl, fin _ (by rw [q1, q2]; rfl)⟩
    · exact ⟨trivial, rfl, rfl, rfl, fin _ (by rw [q1, q2]; simp)⟩
  · exact ⟨trivial, rfl, rfl, rfl, fin _ (by rw [q1]; simp)⟩
end Bow
/- SP27: two edits behind each other, place by place, in plain Lean: as leaftext goes, by runs, it is the same. -/
namespace Bow
open Go

def Later (l : List PieceT) : Prop := ∀ p ∈ l, 0 < p.keep ∧ 0 ≤ p.drop
def RN : List PieceT → Prop
  | [] => True
  | p :: l => 0 ≤ p.keep ∧ 0 ≤ p.drop ∧ Later l
theorem Later.rn {l : List PieceT} (h : Later l) : RN l := by
  cases l with
  | nil => trivial
  | cons p l =>
    have := h p List.mem_cons_self
    exact ⟨by omega, this.2, fun q hq => h q (List.mem_cons_of_mem _ hq)⟩

/-! ### What a maker makes is normal -/
structure Mk.Rn (m : Mk) : Prop where
  k : 0 ≤ m.keep
  l : RN m.l
theorem later_append {l : List PieceT} {p : PieceT} (h : Later l) (hp : 0 < p.keep ∧ 0 ≤ p.drop) : Later (l ++ [p]) := by
  intro q hq
  rcases List.mem_append.1 hq with hq | hq
  · exact h q hq
  · rw [List.mem_singleton] at hq
    exact hq ▸ hp
theorem rn_append {l : List PieceT} {p : PieceT} (h : RN l) (hp : 0 < p.keep ∧ 0 ≤ p.drop) : RN (l ++ [p]) := by
  cases l with
  | nil => exact ⟨by omega, hp.2, by intro q hq; cases hq⟩
  | cons q l => exact ⟨h.1, h.2.1, later_append h.2.2 hp⟩
theorem Mk.last_rn {m : Mk} (h : m.Rn) : m.last.Rn := by
  unfold Mk.last
  cases hk : decide (0 < m.keep) with
  | true => exact ⟨Int.le_refl 0, rn_append h.l ⟨of_decide_eq_true hk, Int.le_refl _⟩⟩
  | false =>
    cases hl : m.l with
    | nil => exact ⟨Int.le_refl 0, ⟨h.k, Int.le_refl _, by intro q hq; cases hq⟩⟩
    | cons p l => exact h
theorem modL_later {f : PieceT → PieceT} (hf : ∀ p, (f p).keep = p.keep) (hd : ∀ p, 0 ≤ p.drop → 0 ≤ (f p).drop) : ∀ {l : List PieceT}, Later l → Later (modL f l)
  | [], h => h
  | [p], h => by
    intro q hq
    rw [modL, List.mem_singleton] at hq
    have := h p List.mem_cons_self
    rw [hq, hf]
    exact ⟨this.1, hd _ this.2⟩
  | p :: q :: r, h => by
    intro z hz
    rw [modL] at hz
    rcases List.mem_cons.1 hz with rfl | hz
    · exact h _ List.mem_cons_self
    · exact modL_later hf hd (fun y hy => h y (List.mem_cons_of_mem _ hy)) z hz
theorem modL_rn {f : PieceT → PieceT} (hf : ∀ p, (f p).keep = p.keep) (hd : ∀ p, 0 ≤ p.drop → 0 ≤ (f p).drop) : ∀ {l : List PieceT}, RN l → RN (modL f l)
  | [], h => h
  | [p], h => by
    rw [modL]
    exact ⟨by rw [hf]; exact h.1, hd _ h.2.1, h.2.2⟩
  | p :: q :: r, h => ⟨h.1, h.2.1, modL_later hf hd h.2.2⟩
theorem Mk.put_rn {m : Mk} (s : List UInt8) (h : m.Rn) : (m.put s).Rn := by
  unfold Mk.put
  cases s.isEmpty with
  | true => exact h
  | false => exact ⟨(Mk.last_rn h).k, modL_rn (f := fun p => { p with put := p.put ++ s }) (fun _ => rfl) (fun _ h => h) (Mk.last_rn h).l⟩
theorem Mk.drop_rn {m : Mk} (n : Int) (h : m.Rn) : (m.drop n).Rn := by
  unfold Mk.drop
  cases hn : decide (0 < n) with
  | false => exact h
  | true => exact ⟨(Mk.last_rn h).k, modL_rn (f := fun p => { p with drop := p.drop + n }) (fun _ => rfl) (fun p h => by have := of_decide_eq_true hn; show 0 ≤ p.drop + n; omega) (Mk.last_rn h).l⟩
theorem Mk.piece_rn {m : Mk} {p : PieceT} (h : m.Rn) (hp : p.Nn) : (m.piece p).Rn :=
  Mk.drop_rn _ (Mk.put_rn _ ⟨by have := h.k; have := hp.k; show 0 ≤ m.keep + p.keep; omega, h.l⟩)
theorem foldl_rn : ∀ {l : List PieceT} {m : Mk}, m.Rn → (∀ p ∈ l, p.Nn) → (l.foldl Mk.piece m).Rn
  | [], _, h, _ => h
  | p :: l, m, h, hl => foldl_rn (l := l) (m := m.piece p) (Mk.piece_rn h (hl p List.mem_cons_self)) (fun q hq => hl q (List.mem_cons_of_mem _ hq))
theorem norm_rn {l : List PieceT} (h : rightP l = true) : RN (normP l) := (foldl_rn (m := ⟨[], 0⟩) ⟨Int.le_refl 0, trivial⟩ (right_nn h).1).l

/-! ### A row that stands at a run -/
def Run (n : Int) (d s : Bool) (r : List PieceT) : Prop :=
  (s = false ∧ d = false ∧ n = 0 ∧ r = []) ∨ (s = true ∧ 0 < n ∧ ∃ p l, r = p :: l ∧ 0 ≤ p.drop ∧ Later l ∧ ((d = false ∧ n = p.keep) ∨ (d = true ∧ p.keep = 0 ∧ p.put = [] ∧ n = p.drop)))
def Clean : List PieceT → Prop
  | [] => True
  | p :: _ => p.keep ≤ 0 → p.put = []
theorem put_clean {r : List PieceT} (h : RN r) : RN (rowPut r).2 ∧ Clean (rowPut r).2 ∧ extN (rowPut r).2 = extN r := by
  cases r with
  | nil => exact ⟨trivial, trivial, rfl⟩
  | cons p l =>
    rw [rowPut]
    cases hk : decide (0 < p.keep) with
    | true => exact ⟨h, fun g => absurd (of_decide_eq_true hk) (by omega), rfl⟩
    | false =>
      cases hp : p.put.isEmpty with
      | true => exact ⟨h, fun _ => List.isEmpty_iff.1 hp, rfl⟩
      | false => exact ⟨h, fun _ => rfl, rfl⟩
theorem run_stand {r : List PieceT} (h : RN r) (hc : Clean r) : Run (rowRun r).1.1 (rowRun r).1.2.1 (rowRun r).1.2.2 (rowRun r).2 ∧ extN (rowRun r).2 = extN r := by
  cases r with
  | nil => exact ⟨.inl ⟨rfl, rfl, rfl, rfl⟩, rfl⟩
  | cons p l =>
    obtain ⟨h1, h2, h3⟩ := h
    rw [rowRun]
    cases hk : decide (0 < p.keep) with
    | true => exact ⟨.inr ⟨rfl, of_decide_eq_true hk, p, l, rfl, h2, h3, .inl ⟨rfl, rfl⟩⟩, rfl⟩
    | false =>
      have hk := of_decide_eq_false hk
      cases hd : decide (0 < p.drop) with
      | true => exact ⟨.inr ⟨rfl, of_decide_eq_true hd, p, l, rfl, h2, h3, .inr ⟨rfl, by omega, hc (by omega), rfl⟩⟩, rfl⟩
      | false =>
        have hd := of_decide_eq_false hd
        rw [cond_false, cond_false]
        have e : extN (p :: l) = extN l := by rw [extN]; omega
        rw [e]
        cases l with
        | nil => exact ⟨.inl ⟨rfl, rfl, rfl, rfl⟩, rfl⟩
        | cons q m =>
          have hq := h3 q List.mem_cons_self
          rw [rowRun, decide_eq_true hq.1]
          exact ⟨.inr ⟨rfl, hq.1, q, m, rfl, hq.2, fun z hz => h3 z (List.mem_cons_of_mem _ hz), .inl ⟨rfl, rfl⟩⟩, rfl⟩
theorem Run.put {n : Int} {d s : Bool} {r : List PieceT} (h : Run n d s r) : rowPut r = ([], r) := by
  rcases h with ⟨_, _, _, rfl⟩ | ⟨_, hn, p, l, rfl, _, _, ⟨_, rfl⟩ | ⟨_, hk, hp, _⟩⟩
  · rfl
  · rw [rowPut, decide_eq_true hn]; rfl
  · rw [rowPut, hp]; simp
theorem Run.run {n : Int} {d s : Bool} {r : List PieceT} (h : Run n d s r) : rowRun r = ((n, d, s), r) := by
  rcases h with ⟨rfl, rfl, rfl, rfl⟩ | ⟨rfl, hn, p, l, rfl, _, _, ⟨rfl, rfl⟩ | ⟨rfl, hk, hp, rfl⟩⟩
  · rfl
  · rw [rowRun, decide_eq_true hn]; rfl
  · rw [rowRun, decide_eq_false (by omega : ¬ 0 < p.keep), decide_eq_true hn]; rfl
theorem Run.take {n j : Int} {d s : Bool} {r : List PieceT} (h : Run n d s r) (hj : 0 ≤ j) (hs : s = true → j < n) : Run (bif s then n - j else 0) d s (rowTake j r) := by
  rcases h with ⟨rfl, rfl, rfl, rfl⟩ | ⟨rfl, hn, p, l, rfl, hd, hl, ⟨rfl, rfl⟩ | ⟨rfl, hk, hp, rfl⟩⟩
  · exact .inl ⟨rfl, rfl, rfl, rfl⟩
  · have := hs rfl
    rw [rowTake, decide_eq_true hn]
    exact .inr ⟨rfl, by rw [cond_true]; omega, _, l, rfl, hd, hl, .inl ⟨rfl, rfl⟩⟩
  · have := hs rfl
    rw [rowTake, decide_eq_false (by omega : ¬ 0 < p.keep)]
    exact .inr ⟨rfl, by rw [cond_true]; omega, _, l, rfl, by show 0 ≤ p.drop - j; omega, hl, .inr ⟨rfl, hk, hp, rfl⟩⟩
theorem Run.take_take {n j : Int} {d s : Bool} {r : List PieceT} (h : Run n d s r) (hj : 0 ≤ j) (hs : s = true → j < n) : rowTake 1 (rowTake j r) = rowTake (j + 1) r := by
  rcases h with ⟨rfl, rfl, rfl, rfl⟩ | ⟨rfl, hn, p, l, rfl, hd, hl, ⟨rfl, rfl⟩ | ⟨rfl, hk, hp, rfl⟩⟩
  · rfl
  · have := hs rfl
    rw [rowTake, decide_eq_true hn, cond_true, rowTake, decide_eq_true (by show 0 < p.keep - j; omega), cond_true, rowTake, decide_eq_true hn, cond_true, show p.keep - j - 1 = p.keep - (j + 1) by omega]
  · have := hs rfl
    have e : decide (0 < p.keep) = false := decide_eq_false (by omega)
    rw [rowTake, e, cond_false, rowTake, e, cond_false, rowTake, e, cond_false, show p.drop - j - 1 = p.drop - (j + 1) by omega]
theorem Run.rn {n j : Int} {d s : Bool} {r : List PieceT} (h : Run n d s r) (hj : 0 ≤ j) (hs : s = true → j ≤ n) : RN (rowTake j r) ∧ extN (rowTake j r) = extN r - (bif s then j.toNat else 0) ∧ (s = true → n.toNat ≤ extN r) ∧ (s = false → extN r = 0) := by
  rcases h with ⟨rfl, rfl, rfl, rfl⟩ | ⟨rfl, hn, p, l, rfl, hd, hl, ⟨rfl, rfl⟩ | ⟨rfl, hk, hp, rfl⟩⟩
  · exact ⟨trivial, rfl, (fun g => (by cases g)), (fun _ => rfl)⟩
  · have := hs rfl
    rw [rowTake, decide_eq_true hn]
    refine ⟨⟨by show 0 ≤ p.keep - j; omega, hd, hl⟩, ?_, (fun _ => ?_), (fun g => (by cases g))⟩
    · simp only [cond_true, extN]; omega
    · simp only [extN]; omega
  · have := hs rfl
    rw [rowTake, decide_eq_false (by omega : ¬ 0 < p.keep)]
    refine ⟨⟨by show 0 ≤ p.keep; omega, by show 0 ≤ p.drop - j; omega, hl⟩, ?_, (fun _ => ?_), (fun g => (by cases g))⟩
    · simp only [cond_false, cond_true, extN]; omega
    · simp only [extN]; omega

/-! ### Makers, byte by byte -/
def dX (m : Mk) (n : Int) (mine other : Bool) : Mk := bif other then m else bif mine then m.drop n else m.kept n
theorem does_eq (s : Tr) (n : Int) (d g : Bool) : s.does n d g = ⟨s.p, s.q, dX s.x n d g, dX s.y n g d⟩ := by
  cases d <;> cases g <;> rfl
theorem modL_modL (f g : PieceT → PieceT) : ∀ l : List PieceT, modL f (modL g l) = modL (fun p => f (g p)) l
  | [] => rfl
  | [p] => rfl
  | [p, q] => rfl
  | p :: q :: r :: l => by
    have ih := modL_modL f g (q :: r :: l)
    simp only [modL] at ih ⊢
    rw [ih]
theorem Mk.last_done (m : Mk) : ¬ 0 < m.last.keep ∧ m.last.l ≠ [] := by
  refine ⟨?_, m.last_ne⟩
  unfold Mk.last
  cases h : decide (0 < m.keep) || m.l.isEmpty with
  | true => simp
  | false =>
    rw [Bool.or_eq_false_iff] at h
    exact of_decide_eq_false h.1
theorem Mk.last_of {m : Mk} (h1 : ¬ 0 < m.keep) (h2 : m.l ≠ []) : m.last = m := by
  unfold Mk.last
  rw [decide_eq_false h1]
  cases h : m.l with
  | nil => exact absurd h h2
  | cons p l => rfl
theorem drop_drop (m : Mk) {j : Int} (hj : 0 < j) : (m.drop j).drop 1 = m.drop (j + 1) := by
  obtain ⟨h1, h2⟩ := m.last_done
  unfold Mk.drop
  rw [decide_eq_true hj, decide_eq_true (by omega : (0 : Int) < j + 1), cond_true, cond_true]
  rw [Mk.last_of (m := ⟨modL (fun p => { p with drop := p.drop + j }) m.last.l, m.last.keep⟩) h1 (modL_ne h2)]
  simp only [modL_modL]
  simp only [show (decide ((0 : Int) < 1)) = true from rfl, cond_true, Int.add_assoc]
theorem dX_dX (m : Mk) {j : Int} (hj : 0 < j) (d g : Bool) : dX (dX m j d g) 1 d g = dX m (j + 1) d g := by
  cases g with
  | true => rfl
  | false =>
    cases d with
    | true => exact drop_drop m hj
    | false =>
      unfold dX Mk.kept
      simp only [cond_false, Int.add_assoc]
theorem put_nil (m : Mk) : m.put [] = m := rfl
theorem kept_zero (m : Mk) : m.kept 0 = m := by
  unfold Mk.kept
  rw [Int.add_zero]

/-! ### Place by place -/
def Tr.one (prior : Bool) (s : Tr) : Tr :=
  match s.puts prior with
  | ⟨p, q, x, y⟩ => Tr.does ⟨rowTake 1 (rowRun p).2, rowTake 1 (rowRun q).2, x, y⟩ 1 (rowRun p).1.2.1 (rowRun q).1.2.1
def Tr.bytes (prior : Bool) : Nat → Tr → Tr
  | 0, s => s
  | k + 1, s => Tr.bytes prior k (s.one prior)
theorem bytes_add (prior : Bool) : ∀ (j k : Nat) (s : Tr), Tr.bytes prior (j + k) s = Tr.bytes prior k (Tr.bytes prior j s)
  | 0, k, s => by rw [Nat.zero_add]; rfl
  | j + 1, k, s => by rw [Nat.succ_add]; exact bytes_add prior j k (s.one prior)
theorem puts_run {prior : Bool} {p q : List PieceT} {x y : Mk} (hp : rowPut p = ([], p)) (hq : rowPut q = ([], q)) : Tr.puts prior ⟨p, q, x, y⟩ = ⟨p, q, x, y⟩ := by
  unfold Tr.puts
  simp only [hp, hq]
  cases prior <;> simp [put_nil, kept_zero]
/-- So many bytes at once, of two rows that go on alike. -/
theorem bytes_run {prior : Bool} {s : Tr} {p q p' q' : List PieceT} {x y : Mk} {na nb : Int} {d g sa sb : Bool} (h1 : s.puts prior = ⟨p, q, x, y⟩) (h2 : rowRun p = ((na, d, sa), p')) (h3 : rowRun q = ((nb, g, sb), q')) (h4 : Run na d sa p') (h5 : Run nb g sb q') :
    ∀ j : Nat, (sa = true → (j : Int) + 1 ≤ na) → (sb = true → (j : Int) + 1 ≤ nb) → Tr.bytes prior (j + 1) s = Tr.does ⟨rowTake (j + 1 : Nat) p', rowTake (j + 1 : Nat) q', x, y⟩ (j + 1 : Nat) d g
  | 0, _, _ => by
    show s.one prior = _
    unfold Tr.one
    rw [h1]
    simp only [h2, h3]
    rfl
  | j + 1, ha, hb => by
    rw [bytes_add prior (j + 1) 1, bytes_run h1 h2 h3 h4 h5 j (fun e => by have := ha e; omega) (fun e => by have := hb e; omega)]
    have ja : sa = true → ((j + 1 : Nat) : Int) < na := fun e => by have := ha e; omega
    have jb : sb = true → ((j + 1 : Nat) : Int) < nb := fun e => by have := hb e; omega
    have ka := h4.take (Int.natCast_nonneg (j + 1)) ja
    have kb := h5.take (Int.natCast_nonneg (j + 1)) jb
    rw [does_eq]
    show Tr.one prior _ = _
    unfold Tr.one
    rw [puts_run ka.put kb.put]
    simp only [ka.run, kb.run]
    rw [does_eq, does_eq, h4.take_take (Int.natCast_nonneg (j + 1)) ja, h5.take_take (Int.natCast_nonneg (j + 1)) jb]
    simp only
    rw [dX_dX x (by omega), dX_dX y (by omega)]
    rfl
theorem bytes_end {prior : Bool} : ∀ (k : Nat) (x y : Mk), (Tr.bytes prior k ⟨[], [], x, y⟩).x.l = x.l ∧ (Tr.bytes prior k ⟨[], [], x, y⟩).y.l = y.l
  | 0, _, _ => ⟨rfl, rfl⟩
  | k + 1, x, y => by
    have e : Tr.one prior ⟨[], [], x, y⟩ = ⟨[], [], x.kept 1, y.kept 1⟩ := by
      unfold Tr.one
      rw [puts_run rfl rfl]
      rfl
    show (Tr.bytes prior k (Tr.one prior ⟨[], [], x, y⟩)).x.l = _ ∧ (Tr.bytes prior k (Tr.one prior ⟨[], [], x, y⟩)).y.l = _
    rw [e]
    exact bytes_end k _ _
theorem puts_rows (prior : Bool) (s : Tr) : (s.puts prior).p = (rowPut s.p).2 ∧ (s.puts prior).q = (rowPut s.q).2 := by
  unfold Tr.puts
  cases prior <;> exact ⟨rfl, rfl⟩
theorem go_bytes (prior : Bool) : ∀ (f : Nat) (s : Tr) (k : Nat), RN s.p → RN s.q → extN s.p + extN s.q < f → extN s.p < k → extN s.q < k →
    (Tr.go prior f s).x.l = (Tr.bytes prior k s).x.l ∧ (Tr.go prior f s).y.l = (Tr.bytes prior k s).y.l
  | 0, _, _, _, _, h, _, _ => absurd h (by omega)
  | f + 1, s, k, hp, hq, hf, hk, hk' => by
    obtain ⟨p1, p2, p3⟩ := put_clean hp
    obtain ⟨q1, q2, q3⟩ := put_clean hq
    obtain ⟨e1, e2⟩ := puts_rows prior s
    rw [Tr.go]
    cases hs : s.puts prior with
    | mk p q x y =>
      rw [hs] at e1 e2
      simp only at e1 e2
      subst e1 e2
      obtain ⟨r1, r2⟩ := run_stand p1 p2
      obtain ⟨t1, t2⟩ := run_stand q1 q2
      cases ha : rowRun (rowPut s.p).2 with
      | mk a p' =>
        obtain ⟨na, d, sa⟩ := a
        cases hb : rowRun (rowPut s.q).2 with
        | mk b q' =>
          obtain ⟨nb, g, sb⟩ := b
          rw [ha] at r1 r2
          rw [hb] at t1 t2
          simp only at r1 r2 t1 t2 ⊢
          rw [bothR_eq ha hb]
          cases hsab : !sa && !sb with
          | true =>
            have hsa : sa = false := by cases sa <;> simp_all
            have hsb : sb = false := by cases sb <;> simp_all
            subst hsa hsb
            rcases r1 with ⟨_, rfl, rfl, rfl⟩ | ⟨g, _⟩
            · rcases t1 with ⟨_, rfl, rfl, rfl⟩ | ⟨g, _⟩
              · simp only [cond_true, cond_false]
                cases k with
                | zero => omega
                | succ k =>
                  have e : Tr.one prior s = ⟨[], [], x.kept 1, y.kept 1⟩ := by
                    unfold Tr.one
                    rw [hs]
                    simp only [ha, hb]
                    rfl
                  show _ = (Tr.bytes prior k (Tr.one prior s)).x.l ∧ _ = (Tr.bytes prior k (Tr.one prior s)).y.l
                  rw [e]
                  obtain ⟨z1, z2⟩ := bytes_end (prior := prior) k (x.kept 1) (y.kept 1)
                  exact ⟨z1.symm, z2.symm⟩
              · cases g
            · cases g
          | false =>
            have hn : ∃ n : Int, (bif !sa then nb else bif sb then min na nb else na) = n ∧ 0 < n ∧ (sa = true → n ≤ na) ∧ (sb = true → n ≤ nb) := by
              refine ⟨_, rfl, ?_⟩
              have ra : sa = true → 0 < na := fun e => by rcases r1 with ⟨h, _⟩ | ⟨_, h, _⟩; (· rw [e] at h; cases h); exact h
              have rb : sb = true → 0 < nb := fun e => by rcases t1 with ⟨h, _⟩ | ⟨_, h, _⟩; (· rw [e] at h; cases h); exact h
              cases sa <;> cases sb <;> simp_all <;> omega
            obtain ⟨n, hn, h0, h1, h2⟩ := hn
            simp only [cond_false]
            rw [hn]
            simp only [cond_true]
            obtain ⟨m, rfl⟩ : ∃ m : Nat, n = ((m + 1 : Nat) : Int) := ⟨n.toNat - 1, by omega⟩
            obtain ⟨u1, u2, u3, u4⟩ := r1.rn (j := ((m + 1 : Nat) : Int)) (by omega) h1
            obtain ⟨v1, v2, v3, v4⟩ := t1.rn (j := ((m + 1 : Nat) : Int)) (by omega) h2
            have hb := bytes_run hs ha hb r1 t1 m (fun e => by have := h1 e; omega) (fun e => by have := h2 e; omega)
            have hmk : m + 1 < k := by
              cases sa with
              | true => have := u3 rfl; have := h1 rfl; omega
              | false =>
                cases sb with
                | true => have := v3 rfl; have := h2 rfl; omega
                | false => cases hsab
            obtain ⟨k', rfl⟩ : ∃ k', k = (m + 1) + k' := ⟨k - (m + 1), by omega⟩
            rw [bytes_add, hb]
            refine go_bytes prior f _ k' ?_ ?_ ?_ ?_ ?_
            all_goals rw [does_eq]
            · exact u1
            · exact v1
            all_goals simp only
            · rw [u2, v2]
              cases sa with
              | true => have := u3 rfl; have := h1 rfl; simp only [cond_true]; cases sb <;> simp only [cond_true, cond_false] <;> omega
              | false =>
                cases sb with
                | true => have := v3 rfl; have := h2 rfl; simp only [cond_true, cond_false]; omega
                | false => cases hsab
            · rw [u2]
              cases sa with
              | true => simp only [cond_true]; omega
              | false => have := u4 rfl; simp only [cond_false]; omega
            · rw [v2]
              cases sb with
              | true => simp only [cond_true]; omega
              | false => have := v4 rfl; simp only [cond_false]; omega

/-! ### An edit, place by place -/
def putAt : List PieceT → Nat → List UInt8
  | [], _ => []
  | p :: l, i => bif decide (i < p.keep.toNat) then [] else bif decide (i = p.keep.toNat) then p.put else bif decide (i < p.keep.toNat + p.drop.toNat) then [] else putAt l (i - (p.keep.toNat + p.drop.toNat))
def dropAt : List PieceT → Nat → Bool
  | [], _ => false
  | p :: l, i => bif decide (i < p.keep.toNat) then false else bif decide (i < p.keep.toNat + p.drop.toNat) then true else dropAt l (i - (p.keep.toNat + p.drop.toNat))
theorem later_put0 {l : List PieceT} (h : Later l) : putAt l 0 = [] := by
  cases l with
  | nil => rfl
  | cons p l =>
    have := (h p List.mem_cons_self).1
    rw [putAt, decide_eq_true (by omega)]; rfl
def rowNext (r : List PieceT) : List PieceT := rowTake 1 (rowRun (rowPut r).2).2
theorem putAt_keep {p : PieceT} {l : List PieceT} (h : 0 < p.keep) (i : Nat) : putAt ({ p with keep := p.keep - 1 } :: l) i = putAt (p :: l) (i + 1) := by
  rw [putAt, putAt]
  simp only
  have e1 : decide (i < (p.keep - 1).toNat) = decide (i + 1 < p.keep.toNat) := by simp only [decide_eq_decide]; omega
  have e2 : decide (i = (p.keep - 1).toNat) = decide (i + 1 = p.keep.toNat) := by simp only [decide_eq_decide]; omega
  have e3 : decide (i < (p.keep - 1).toNat + p.drop.toNat) = decide (i + 1 < p.keep.toNat + p.drop.toNat) := by simp only [decide_eq_decide]; omega
  have e4 : i - ((p.keep - 1).toNat + p.drop.toNat) = i + 1 - (p.keep.toNat + p.drop.toNat) := by omega
  rw [e1, e2, e3, e4]
theorem dropAt_keep {p : PieceT} {l : List PieceT} (h : 0 < p.keep) (i : Nat) : dropAt ({ p with keep := p.keep - 1 } :: l) i = dropAt (p :: l) (i + 1) := by
  rw [dropAt, dropAt]
  simp only
  have e1 : decide (i < (p.keep - 1).toNat) = decide (i + 1 < p.keep.toNat) := by simp only [decide_eq_decide]; omega
  have e3 : decide (i < (p.keep - 1).toNat + p.drop.toNat) = decide (i + 1 < p.keep.toNat + p.drop.toNat) := by simp only [decide_eq_decide]; omega
  have e4 : i - ((p.keep - 1).toNat + p.drop.toNat) = i + 1 - (p.keep.toNat + p.drop.toNat) := by omega
  rw [e1, e3, e4]
theorem row_place {r : List PieceT} (h : RN r) : (rowPut r).1 = putAt r 0 ∧ (rowRun (rowPut r).2).1.2.1 = dropAt r 0 ∧ RN (rowNext r) ∧ (∀ i, putAt (rowNext r) i = putAt r (i + 1)) ∧ (∀ i, dropAt (rowNext r) i = dropAt r (i + 1)) := by
  cases r with
  | nil => exact ⟨rfl, rfl, trivial, fun _ => rfl, fun _ => rfl⟩
  | cons p l =>
    obtain ⟨h1, h2, h3⟩ := h
    unfold rowNext
    rw [rowPut]
    by_cases hk : 0 < p.keep
    · rw [decide_eq_true hk, Bool.true_or, cond_true]
      simp only
      rw [rowRun, decide_eq_true hk, cond_true, rowTake, decide_eq_true hk, cond_true]
      refine ⟨?_, ?_, ⟨by show 0 ≤ p.keep - 1; omega, h2, h3⟩, putAt_keep hk, dropAt_keep hk⟩
      · rw [putAt, decide_eq_true (by omega)]; rfl
      · rw [dropAt, decide_eq_true (by omega)]; rfl
    · have e : p.keep.toNat = 0 := by omega
      have hc : ∃ p', (bif decide (0 < p.keep) || p.put.isEmpty then (([] : List UInt8), p :: l) else (p.put, { p with put := [] } :: l)) = (p.put, p' :: l) ∧ p'.keep = p.keep ∧ p'.drop = p.drop ∧ p'.put = [] := by
        rw [decide_eq_false hk, Bool.false_or]
        cases hp : p.put.isEmpty with
        | true =>
          have := List.isEmpty_iff.1 hp
          exact ⟨p, by rw [this]; rfl, rfl, rfl, this⟩
        | false => exact ⟨{ p with put := [] }, rfl, rfl, rfl, rfl⟩
      obtain ⟨p', hc, c1, c2, c3⟩ := hc
      rw [hc]
      simp only
      have p0 : p.put = putAt (p :: l) 0 := by rw [putAt, e]; rfl
      rw [rowRun, decide_eq_false (by rw [c1]; exact hk), cond_false, c2]
      by_cases hd : 0 < p.drop
      · rw [decide_eq_true hd, cond_true, rowTake, decide_eq_false (by rw [c1]; exact hk), cond_false]
        refine ⟨p0, ?_, ⟨by show 0 ≤ p'.keep; omega, by show 0 ≤ p'.drop - 1; omega, h3⟩, fun i => ?_, fun i => ?_⟩
        · rw [dropAt, e, decide_eq_false (by omega), decide_eq_true (by omega)]; rfl
        · rw [putAt, putAt]
          simp only [c1, c2, e]
          rw [decide_eq_false (by omega : ¬ i < 0), decide_eq_false (by omega : ¬ i + 1 < 0), cond_false, cond_false, decide_eq_false (by omega : ¬ i + 1 = 0), cond_false]
          have e3 : decide (i < 0 + (p.drop - 1).toNat) = decide (i + 1 < 0 + p.drop.toNat) := by simp only [decide_eq_decide]; omega
          have e4 : i - (0 + (p.drop - 1).toNat) = i + 1 - (0 + p.drop.toNat) := by omega
          rw [e3, e4]
          by_cases hi : i = 0
          · subst hi
            rw [decide_eq_true rfl, cond_true, c3]
            by_cases h5 : p.drop = 1
            · rw [h5]
              exact (later_put0 h3).symm
            · rw [decide_eq_true (by omega), cond_true]
          · rw [decide_eq_false hi, cond_false]
        · rw [dropAt, dropAt]
          simp only [c1, c2, e]
          rw [decide_eq_false (by omega : ¬ i < 0), decide_eq_false (by omega : ¬ i + 1 < 0), cond_false, cond_false]
          have e3 : decide (i < 0 + (p.drop - 1).toNat) = decide (i + 1 < 0 + p.drop.toNat) := by simp only [decide_eq_decide]; omega
          have e4 : i - (0 + (p.drop - 1).toNat) = i + 1 - (0 + p.drop.toNat) := by omega
          rw [e3, e4]
      · rw [decide_eq_false hd, cond_false]
        have f : p.drop.toNat = 0 := by omega
        have up : ∀ i, putAt (p :: l) (i + 1) = putAt l (i + 1) := fun i => by
          rw [putAt, e, f, decide_eq_false (by omega : ¬ i + 1 < 0), decide_eq_false (by omega : ¬ i + 1 = 0)]; rfl
        have ud : ∀ i, dropAt (p :: l) i = dropAt l i := fun i => by
          rw [dropAt, e, f, decide_eq_false (by omega : ¬ i < 0)]; rfl
        cases l with
        | nil => exact ⟨p0, by rw [ud]; rfl, trivial, fun i => by rw [up]; rfl, fun i => by rw [ud]; rfl⟩
        | cons q m =>
          have hq := h3 q List.mem_cons_self
          rw [rowRun, decide_eq_true hq.1, cond_true, rowTake, decide_eq_true hq.1, cond_true]
          refine ⟨p0, ?_, ⟨by show 0 ≤ q.keep - 1; omega, hq.2, fun z hz => h3 z (List.mem_cons_of_mem _ hz)⟩, fun i => ?_, fun i => ?_⟩
          · rw [ud, dropAt, decide_eq_true (by omega)]; rfl
          · rw [up, putAt_keep hq.1]
          · rw [ud, dropAt_keep hq.1]

/-! ### The document's answer -/
abbrev Pl := List UInt8 × Bool
/-- What a maker is told of one place. -/
def placeX (first : Bool) (a b : Pl) (m : Mk) : Mk := dX (bif first then (m.put a.1).kept b.1.length else (m.kept b.1.length).put a.1) 1 a.2 b.2
def placeP (first : Bool) (a b : Pl) : List PieceT :=
  (bif first then [⟨0, 0, a.1⟩, ⟨b.1.length, 0, []⟩] else [⟨b.1.length, 0, []⟩, ⟨0, 0, a.1⟩]) ++ (bif b.2 then [] else bif a.2 then [⟨0, 1, []⟩] else [⟨1, 0, []⟩])
theorem place_fold (first : Bool) (a b : Pl) (m : Mk) : (placeP first a b).foldl Mk.piece m = placeX first a b m := by
  have h1 : ∀ (m : Mk) (s : List UInt8), m.piece ⟨0, 0, s⟩ = m.put s := fun m s => by
    unfold Mk.piece
    rw [kept_zero]
    rfl
  have h2 : ∀ (m : Mk) (n : Int), m.piece ⟨n, 0, []⟩ = m.kept n := fun m n => rfl
  have h3 : ∀ (m : Mk), m.piece ⟨0, 1, []⟩ = m.drop 1 := fun m => by
    unfold Mk.piece
    rw [kept_zero]
    rfl
  unfold placeP placeX
  cases first <;> cases b.2 <;> cases a.2 <;> simp [h1, h2, h3, dX]
def placesP (first : Bool) : List Pl → List Pl → List PieceT
  | a :: va, b :: vb => placeP first a b ++ placesP first va vb
  | _, _ => []
def viewP (l : List PieceT) (n : Nat) : List Pl := (List.range' 0 (n + 1)).map fun i => (putAt l i, dropAt l i)
theorem one_place {prior : Bool} {s : Tr} (hp : RN s.p) (hq : RN s.q) : s.one prior = ⟨rowNext s.p, rowNext s.q, placeX prior (putAt s.p 0, dropAt s.p 0) (putAt s.q 0, dropAt s.q 0) s.x, placeX (!prior) (putAt s.q 0, dropAt s.q 0) (putAt s.p 0, dropAt s.p 0) s.y⟩ := by
  obtain ⟨a1, a2, a3, a4, a5⟩ := row_place hp
  obtain ⟨b1, b2, b3, b4, b5⟩ := row_place hq
  unfold Tr.one Tr.puts
  rw [← a1, ← b1, ← a2, ← b2]
  cases prior <;> simp only [cond_true, cond_false, does_eq] <;> rfl
theorem bytes_places {prior : Bool} : ∀ (k : Nat) (s : Tr) (p q : List PieceT) (j : Nat), RN s.p → RN s.q → (∀ i, putAt s.p i = putAt p (j + i)) → (∀ i, dropAt s.p i = dropAt p (j + i)) → (∀ i, putAt s.q i = putAt q (j + i)) → (∀ i, dropAt s.q i = dropAt q (j + i)) →
    (Tr.bytes prior k s).x = (placesP prior ((List.range' j k).map fun i => (putAt p i, dropAt p i)) ((List.range' j k).map fun i => (putAt q i, dropAt q i))).foldl Mk.piece s.x ∧
    (Tr.bytes prior k s).y = (placesP (!prior) ((List.range' j k).map fun i => (putAt q i, dropAt q i)) ((List.range' j k).map fun i => (putAt p i, dropAt p i))).foldl Mk.piece s.y
  | 0, _, _, _, _, _, _, _, _, _, _ => ⟨rfl, rfl⟩
  | k + 1, s, p, q, j, hp, hq, h1, h2, h3, h4 => by
    obtain ⟨a1, a2, a3, a4, a5⟩ := row_place hp
    obtain ⟨b1, b2, b3, b4, b5⟩ := row_place hq
    have ih := bytes_places (prior := prior) k (s.one prior) p q (j + 1)
    rw [one_place hp hq] at ih
    simp only at ih
    have ih := ih a3 b3 (fun i => by rw [a4, h1]; congr 1; omega) (fun i => by rw [a5, h2]; congr 1; omega) (fun i => by rw [b4, h3]; congr 1; omega) (fun i => by rw [b5, h4]; congr 1; omega)
    rw [List.range'_succ, List.map_cons, List.map_cons, placesP, placesP, List.foldl_append, List.foldl_append, place_fold, place_fold]
    show (Tr.bytes prior k (s.one prior)).x = _ ∧ (Tr.bytes prior k (s.one prior)).y = _
    rw [one_place hp hq]
    have e1 := h1 0
    have e2 := h2 0
    have e3 := h3 0
    have e4 := h4 0
    simp only [Nat.add_zero] at e1 e2 e3 e4
    rw [e1, e2, e3, e4] at ih ⊢
    exact ih
/-- The document's answer: by places. -/
def transR (a b : List PieceT) (prior : Bool) : List PieceT × List PieceT × Int :=
  bif !rightP a || !rightP b then ([], [], 2)
  else match max (extN (normP a)) (extN (normP b)) with
    | n => match normP (placesP prior (viewP (normP a) n) (viewP (normP b) n)), normP (placesP (!prior) (viewP (normP b) n) (viewP (normP a) n)) with
      | x, y => bif !rightP x || !rightP y then ([], [], 3) else (x, y, 0)
theorem transR_eq (a b : List PieceT) (prior : Bool) : transR a b prior = transP a b prior := by
  unfold transR transP
  cases h : !rightP a || !rightP b with
  | true => rfl
  | false =>
    rw [Bool.or_eq_false_iff] at h
    have ra : rightP a = true := by simpa using h.1
    have rb : rightP b = true := by simpa using h.2
    simp only [cond_false]
    have g := go_bytes prior (extN (normP a) + extN (normP b) + 1) ⟨normP a, normP b, Mk.nil, Mk.nil⟩ (max (extN (normP a)) (extN (normP b)) + 1) (norm_rn ra) (norm_rn rb) (by simp only; omega) (by simp only; omega) (by simp only; omega)
    have p := bytes_places (prior := prior) (max (extN (normP a)) (extN (normP b)) + 1) ⟨normP a, normP b, Mk.nil, Mk.nil⟩ (normP a) (normP b) 0 (norm_rn ra) (norm_rn rb) (fun i => by rw [Nat.zero_add]) (fun i => by rw [Nat.zero_add]) (fun i => by rw [Nat.zero_add]) (fun i => by rw [Nat.zero_add])
    cases hg : Tr.go prior (extN (normP a) + extN (normP b) + 1) ⟨normP a, normP b, Mk.nil, Mk.nil⟩ with
    | mk p' q' x y =>
      rw [hg] at g
      simp only at g ⊢
      have e1 : normP (placesP prior (viewP (normP a) (max (extN (normP a)) (extN (normP b)))) (viewP (normP b) (max (extN (normP a)) (extN (normP b))))) = x.l := by
        rw [g.1, p.1]; rfl
      have e2 : normP (placesP (!prior) (viewP (normP b) (max (extN (normP a)) (extN (normP b)))) (viewP (normP a) (max (extN (normP a)) (extN (normP b))))) = y.l := by
        rw [g.2, p.2]; rfl
      rw [e1, e2]
end Bow
/- SP31: the document's normal form and views, step by step, in plain Lean. -/
namespace Bow
open Go

theorem modL_snoc (f : PieceT → PieceT) : ∀ (l : List PieceT) (x : PieceT), modL f (l ++ [x]) = l ++ [f x]
  | [], _ => rfl
  | [_], _ => rfl
  | p :: q :: r, x => by
    have ih := modL_snoc f (q :: r) x
    rw [List.cons_append, List.cons_append, modL, ← List.cons_append, ih]
    rfl
theorem modL_ext {f g : PieceT → PieceT} (h : ∀ p, f p = g p) (l : List PieceT) : modL f l = modL g l := by
  rw [show f = g from funext h]
def addP (p q : PieceT) : PieceT := { q with put := q.put ++ p.put, drop := q.drop + p.drop }
theorem piece_some {m : Mk} {p : PieceT} (hd : 0 ≤ p.drop) (h0 : ¬ (p.put = [] ∧ p.drop = 0)) : m.piece p = ⟨modL (addP p) (m.kept p.keep).last.l, (m.kept p.keep).last.keep⟩ := by
  unfold Mk.piece
  generalize m.kept p.keep = K
  obtain ⟨d1, d2⟩ := K.last_done
  by_cases hp : p.put = []
  · have h1 : 0 < p.drop := by
      rcases Int.lt_or_eq_of_le hd with h | h
      · exact h
      · exact absurd ⟨hp, h.symm⟩ h0
    rw [hp, put_nil]
    unfold Mk.drop
    rw [decide_eq_true h1, cond_true]
    congr 1
    exact modL_ext (fun q => by unfold addP; rw [hp, List.append_nil]) _
  · have e : K.put p.put = ⟨modL (fun q => { q with put := q.put ++ p.put }) K.last.l, K.last.keep⟩ := by
      unfold Mk.put
      cases hq : p.put with
      | nil => exact absurd hq hp
      | cons a s => rfl
    rw [e]
    by_cases h1 : 0 < p.drop
    · unfold Mk.drop
      rw [decide_eq_true h1, cond_true]
      rw [Mk.last_of (m := ⟨modL (fun q => { q with put := q.put ++ p.put }) K.last.l, K.last.keep⟩) d1 (modL_ne d2)]
      simp only [modL_modL]
      rfl
    · have h2 : p.drop = 0 := by omega
      unfold Mk.drop
      rw [decide_eq_false h1, cond_false]
      congr 1
      exact modL_ext (fun q => by unfold addP; rw [h2, Int.add_zero]) _
theorem piece_skip {m : Mk} {p : PieceT} (h1 : p.put = []) (h2 : p.drop = 0) : m.piece p = ⟨m.l, m.keep + p.keep⟩ := by
  unfold Mk.piece
  rw [h1, put_nil]
  unfold Mk.drop
  rw [h2]
  rfl
theorem piece_merge {m : Mk} {p : PieceT} (hd : 0 ≤ p.drop) (h0 : ¬ (p.put = [] ∧ p.drop = 0)) (hk : m.keep + p.keep = 0) (hl : m.l ≠ []) : m.piece p = ⟨modL (addP p) m.l, 0⟩ := by
  rw [piece_some hd h0]
  have e : (m.kept p.keep).last = m.kept p.keep := Mk.last_of (by show ¬ 0 < m.keep + p.keep; omega) hl
  rw [e]
  show (⟨modL (addP p) m.l, m.keep + p.keep⟩ : Mk) = _
  rw [hk]
theorem piece_new {m : Mk} {p : PieceT} (hd : 0 ≤ p.drop) (h0 : ¬ (p.put = [] ∧ p.drop = 0)) (hk : 0 < m.keep + p.keep ∨ m.l = []) : m.piece p = ⟨m.l ++ [⟨m.keep + p.keep, p.drop, p.put⟩], 0⟩ := by
  rw [piece_some hd h0]
  have e : (m.kept p.keep).last = ⟨m.l ++ [⟨m.keep + p.keep, 0, []⟩], 0⟩ := by
    unfold Mk.last Mk.kept
    have : (decide (0 < m.keep + p.keep) || m.l.isEmpty) = true := by
      rcases hk with h | h
      · simp [h]
      · simp [h]
    simp only [this, cond_true]
  rw [e]
  simp only [modL_snoc, addP, List.nil_append, Int.zero_add]

/-! ### Views -/
theorem extN_snoc (l : List PieceT) (p : PieceT) : extN (l ++ [p]) = extN l + p.keep.toNat + p.drop.toNat := by
  induction l with
  | nil => simp [extN]
  | cons q l ih => rw [List.cons_append, extN, extN, ih]; omega
theorem putAt_later : ∀ {l : List PieceT} {p : PieceT}, Later (l ++ [p]) → ∀ j, putAt (l ++ [p]) j = bif decide (j = extN l + p.keep.toNat) then p.put else putAt l j
  | [], p, _, j => by
    rw [List.nil_append, putAt, putAt, extN, Nat.zero_add]
    by_cases h : j = p.keep.toNat
    · rw [decide_eq_true h, decide_eq_false (by omega)]; rfl
    · rw [decide_eq_false h]
      cases decide (j < p.keep.toNat) <;> cases decide (j < p.keep.toNat + p.drop.toNat) <;> rfl
  | q :: l, p, h, j => by
    have hl : Later (l ++ [p]) := fun z hz => h z (List.mem_cons_of_mem _ hz)
    have hp : 0 < p.keep := (hl p (List.mem_append_right _ (List.mem_singleton.2 rfl))).1
    have ih := putAt_later hl (j - (q.keep.toNat + q.drop.toNat))
    rw [List.cons_append, putAt, putAt, extN, ih]
    by_cases h1 : j < q.keep.toNat
    · rw [decide_eq_true h1, decide_eq_false (by omega : ¬ j = q.keep.toNat + q.drop.toNat + extN l + p.keep.toNat)]; rfl
    by_cases h2 : j = q.keep.toNat
    · rw [decide_eq_false h1, decide_eq_true h2, decide_eq_false (by omega : ¬ j = q.keep.toNat + q.drop.toNat + extN l + p.keep.toNat)]; rfl
    by_cases h3 : j < q.keep.toNat + q.drop.toNat
    · rw [decide_eq_false h1, decide_eq_false h2, decide_eq_true h3, decide_eq_false (by omega : ¬ j = q.keep.toNat + q.drop.toNat + extN l + p.keep.toNat)]; rfl
    rw [decide_eq_false h1, decide_eq_false h2, decide_eq_false h3]
    have e : decide (j - (q.keep.toNat + q.drop.toNat) = extN l + p.keep.toNat) = decide (j = q.keep.toNat + q.drop.toNat + extN l + p.keep.toNat) := by
      rw [decide_eq_decide]; omega
    rw [e]
    rfl
theorem putAt_snoc {l : List PieceT} {p : PieceT} (h : RN (l ++ [p])) (j : Nat) : putAt (l ++ [p]) j = bif decide (j = extN l + p.keep.toNat) then p.put else putAt l j := by
  cases l with
  | nil =>
    rw [List.nil_append, putAt, putAt, extN, Nat.zero_add]
    by_cases h : j = p.keep.toNat
    · rw [decide_eq_true h, decide_eq_false (by omega)]; rfl
    · rw [decide_eq_false h]
      cases decide (j < p.keep.toNat) <;> cases decide (j < p.keep.toNat + p.drop.toNat) <;> rfl
  | cons q l =>
    have hl : Later (l ++ [p]) := h.2.2
    have hp : 0 < p.keep := (hl p (List.mem_append_right _ (List.mem_singleton.2 rfl))).1
    have ih := putAt_later hl (j - (q.keep.toNat + q.drop.toNat))
    rw [List.cons_append, putAt, putAt, extN, ih]
    by_cases h1 : j < q.keep.toNat
    · rw [decide_eq_true h1, decide_eq_false (by omega : ¬ j = q.keep.toNat + q.drop.toNat + extN l + p.keep.toNat)]; rfl
    by_cases h2 : j = q.keep.toNat
    · rw [decide_eq_false h1, decide_eq_true h2, decide_eq_false (by omega : ¬ j = q.keep.toNat + q.drop.toNat + extN l + p.keep.toNat)]; rfl
    by_cases h3 : j < q.keep.toNat + q.drop.toNat
    · rw [decide_eq_false h1, decide_eq_false h2, decide_eq_true h3, decide_eq_false (by omega : ¬ j = q.keep.toNat + q.drop.toNat + extN l + p.keep.toNat)]; rfl
    rw [decide_eq_false h1, decide_eq_false h2, decide_eq_false h3]
    have e : decide (j - (q.keep.toNat + q.drop.toNat) = extN l + p.keep.toNat) = decide (j = q.keep.toNat + q.drop.toNat + extN l + p.keep.toNat) := by
      rw [decide_eq_decide]; omega
    rw [e]
    rfl
theorem dropAt_snoc : ∀ (l : List PieceT) (p : PieceT) (j : Nat), dropAt (l ++ [p]) j = (dropAt l j || (decide (extN l + p.keep.toNat ≤ j) && decide (j < extN l + p.keep.toNat + p.drop.toNat)))
  | [], p, j => by
    rw [List.nil_append, dropAt, dropAt, extN, Nat.zero_add]
    by_cases h1 : j < p.keep.toNat
    · rw [decide_eq_true h1, decide_eq_false (by omega : ¬ p.keep.toNat ≤ j)]; rfl
    · rw [decide_eq_false h1, decide_eq_true (by omega : p.keep.toNat ≤ j)]
      cases decide (j < p.keep.toNat + p.drop.toNat) <;> rfl
  | q :: l, p, j => by
    rw [List.cons_append, dropAt, dropAt, extN, dropAt_snoc l p]
    by_cases h1 : j < q.keep.toNat
    · rw [decide_eq_true h1, decide_eq_false (by omega : ¬ q.keep.toNat + q.drop.toNat + extN l + p.keep.toNat ≤ j)]; rfl
    by_cases h2 : j < q.keep.toNat + q.drop.toNat
    · rw [decide_eq_false h1, decide_eq_true h2]; rfl
    rw [decide_eq_false h1, decide_eq_false h2, cond_false, cond_false, cond_false, cond_false]
    have e1 : decide (extN l + p.keep.toNat ≤ j - (q.keep.toNat + q.drop.toNat)) = decide (q.keep.toNat + q.drop.toNat + extN l + p.keep.toNat ≤ j) := by rw [decide_eq_decide]; omega
    have e2 : decide (j - (q.keep.toNat + q.drop.toNat) < extN l + p.keep.toNat + p.drop.toNat) = decide (j < q.keep.toNat + q.drop.toNat + extN l + p.keep.toNat + p.drop.toNat) := by rw [decide_eq_decide]; omega
    rw [e1, e2]
theorem dropAt_ge : ∀ (l : List PieceT) (j : Nat), extN l ≤ j → dropAt l j = false
  | [], _, _ => rfl
  | p :: l, j, h => by
    rw [extN] at h
    rw [dropAt, decide_eq_false (by omega : ¬ j < p.keep.toNat), decide_eq_false (by omega : ¬ j < p.keep.toNat + p.drop.toNat)]
    exact dropAt_ge l _ (by omega)
theorem rn_take {l : List PieceT} (h : RN l) (i : Nat) : RN (l.take i) := by
  cases l with
  | nil => rw [List.take_nil]; trivial
  | cons p l =>
    cases i with
    | zero => trivial
    | succ i => exact ⟨h.1, h.2.1, fun q hq => h.2.2 q (List.mem_of_mem_take hq)⟩
theorem rn_nn {l : List PieceT} (h : RN l) : ∀ p ∈ l, p.Nn := by
  cases l with
  | nil => intro p hp; cases hp
  | cons q l =>
    intro p hp
    rcases List.mem_cons.1 hp with rfl | hp
    · exact ⟨h.1, h.2.1⟩
    · have := h.2.2 p hp; exact ⟨by omega, this.2⟩
theorem extN_take {l : List PieceT} {i : Nat} (hi : i < l.length) : extN (l.take (i + 1)) = extN (l.take i) + l[i].keep.toNat + l[i].drop.toNat := by
  rw [List.take_succ_eq_append_getElem hi, extN_snoc]
theorem extN_take_le (l : List PieceT) (i : Nat) : extN (l.take i) ≤ extN l := by
  induction l generalizing i with
  | nil => rw [List.take_nil]; exact Nat.le_refl _
  | cons p l ih =>
    cases i with
    | zero => exact Nat.zero_le _
    | succ i => have := ih i; rw [List.take_succ_cons, extN, extN]; omega
theorem extN_le : ∀ {l : List PieceT}, (∀ p ∈ l, p.Nn) → (extN l : Int) ≤ sumW l
  | [], _ => by simp [extN, sumW]
  | p :: l, h => by
    have h1 := h p List.mem_cons_self
    have h2 := h1.k
    have h3 := h1.d
    have ih := extN_le fun q hq => h q (List.mem_cons_of_mem _ hq)
    simp only [extN, sumW, PieceT.w]
    omega
theorem set_range {α : Type} (f : Nat → α) (N a : Nat) (v : α) : ((List.range' 0 N).map f).set a v = (List.range' 0 N).map fun j => bif decide (j = a) then v else f j := by
  apply List.ext_getElem
  · simp
  · intro j h1 h2
    simp only [List.length_set, List.length_map, List.length_range'] at h1
    rw [List.getElem_set]
    by_cases h : a = j
    · subst h
      simp
    · rw [if_neg h]
      simp [show ¬ j = a from fun e => h e.symm]

/-! ### Places -/
theorem placesP_snoc (first : Bool) : ∀ {va vb : List Pl} {i : Nat} (h1 : i < va.length) (h2 : i < vb.length), placesP first (va.take (i + 1)) (vb.take (i + 1)) = placesP first (va.take i) (vb.take i) ++ placeP first va[i] vb[i]
  | a :: va, b :: vb, 0, _, _ => by simp [placesP]
  | a :: va, b :: vb, i + 1, h1, h2 => by
    have ih := placesP_snoc first (va := va) (vb := vb) (i := i) (Nat.lt_of_succ_lt_succ h1) (Nat.lt_of_succ_lt_succ h2)
    rw [List.take_succ_cons, List.take_succ_cons, placesP, ih, List.take_succ_cons, List.take_succ_cons, placesP, List.append_assoc]
    rfl
theorem place_nn (first : Bool) (a b : Pl) : (∀ p ∈ placeP first a b, p.Nn) ∧ (placeP first a b).length ≤ 3 ∧ sumW (placeP first a b) ≤ a.1.length + b.1.length + 4 := by
  unfold placeP
  cases first <;> cases b.2 <;> cases a.2 <;> refine ⟨?_, by simp, by simp [sumW, PieceT.w]; omega⟩ <;> intro p hp <;> simp at hp <;> rcases hp with rfl | rfl | rfl <;> exact ⟨by simp, by simp⟩
def sumL : List Pl → Nat
  | [] => 0
  | a :: l => a.1.length + sumL l
theorem places_nn (first : Bool) : ∀ (va vb : List Pl), (∀ p ∈ placesP first va vb, p.Nn) ∧ (placesP first va vb).length ≤ 3 * va.length ∧ sumW (placesP first va vb) ≤ sumL va + sumL vb + 4 * va.length
  | [], vb => by
    refine ⟨(fun p hp => (by cases hp)), Nat.zero_le _, ?_⟩
    show (0 : Int) ≤ _
    omega
  | _ :: _, [] => by
    refine ⟨(fun p hp => (by cases hp)), Nat.zero_le _, ?_⟩
    show (0 : Int) ≤ _
    omega
  | a :: va, b :: vb => by
    obtain ⟨h1, h2, h3⟩ := places_nn first va vb
    obtain ⟨g1, g2, g3⟩ := place_nn first a b
    refine ⟨fun p hp => ?_, ?_, ?_⟩
    · rw [placesP] at hp
      rcases List.mem_append.1 hp with hp | hp
      · exact g1 p hp
      · exact h1 p hp
    · rw [placesP, List.length_append, List.length_cons]; omega
    · rw [placesP, sumW_append, sumL, sumL, List.length_cons]; omega
def sumF (f : Nat → Nat) : List Nat → Nat
  | [] => 0
  | j :: l => f j + sumF f l
theorem sumF_out {f : Nat → Nat} {c v : Nat} : ∀ (N s : Nat), c < s → sumF (fun j => bif decide (j = c) then v else f j) (List.range' s N) = sumF f (List.range' s N)
  | 0, _, _ => rfl
  | N + 1, s, h => by
    rw [List.range'_succ, sumF, sumF, sumF_out N (s + 1) (by omega), decide_eq_false (by omega : ¬ s = c)]
    rfl
theorem sumF_one {f : Nat → Nat} {c v : Nat} : ∀ (N s : Nat), sumF (fun j => bif decide (j = c) then v else f j) (List.range' s N) ≤ v + sumF f (List.range' s N)
  | 0, _ => Nat.zero_le _
  | N + 1, s => by
    rw [List.range'_succ, sumF, sumF]
    by_cases h : s = c
    · rw [decide_eq_true h, sumF_out N (s + 1) (by omega)]
      simp only [cond_true]
      omega
    · have := sumF_one (f := f) (c := c) (v := v) N (s + 1)
      rw [decide_eq_false h]
      simp only [cond_false]
      omega
theorem sum_puts : ∀ (i : Nat) {l : List PieceT}, RN l → i ≤ l.length → ∀ N, (sumF (fun j => (putAt (l.take i) j).length) (List.range' 0 N) : Int) ≤ sumW (l.take i)
  | 0, l, _, _, N => by
    have : ∀ (L : List Nat), sumF (fun j => (putAt (l.take 0) j).length) L = 0 := by
      intro L
      induction L with
      | nil => rfl
      | cons a L ih => rw [sumF, ih]; rfl
    rw [this]
    simp [sumW]
  | i + 1, l, h, hi, N => by
    have ih := sum_puts i h (by omega) N
    have e : l.take (i + 1) = l.take i ++ [l[i]] := List.take_succ_eq_append_getElem (by omega)
    have hr := rn_take h (i + 1)
    have hn := rn_nn h _ (List.getElem_mem (by omega : i < l.length))
    have h1 := hn.k
    have h2 := hn.d
    rw [e] at hr
    have e2 : sumF (fun j => (putAt (l.take (i + 1)) j).length) (List.range' 0 N) = sumF (fun j => bif decide (j = extN (l.take i) + l[i].keep.toNat) then l[i].put.length else (putAt (l.take i) j).length) (List.range' 0 N) := by
      congr 1
      funext j
      rw [e, putAt_snoc hr]
      cases decide (j = extN (l.take i) + l[i].keep.toNat) <;> rfl
    have h3 := sumF_one (f := fun j => (putAt (l.take i) j).length) (c := extN (l.take i) + l[i].keep.toNat) (v := l[i].put.length) N 0
    rw [e2, e, sumW_append]
    simp only [sumW, PieceT.w]
    omega
theorem sumL_view {l : List PieceT} (h : RN l) (n : Nat) : (sumL (viewP l n) : Int) ≤ sumW l := by
  have := sum_puts l.length h (Nat.le_refl _) (n + 1)
  rw [List.take_length] at this
  have e : ∀ L : List Nat, sumL (L.map fun i => (putAt l i, dropAt l i)) = sumF (fun j => (putAt l j).length) L := by
    intro L
    induction L with
    | nil => rfl
    | cons a L ih => rw [List.map_cons, sumL, sumF, ih]
  unfold viewP
  rw [e]
  exact this
theorem viewP_len (l : List PieceT) (n : Nat) : (viewP l n).length = n + 1 := by simp [viewP]
end Bow
