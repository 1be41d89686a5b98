/- The library, part 7: AE45, AE46, AE47, AE48, W81, W82, W83, W84, TD1, TD2. -/
import Derived.Test.YtcglpgfcjlafhaaMf
import Derived.Test.YtcglpgfcjlafhaaMd
import Derived.Test.YtcglpgfcjlafhaaMc
import Derived.Test.YtcglpgfcjlafhaaRows
import Derived.ChangeShapes
/- AE45: own memory under names: calls that hand back named memory, calls that write over it, calls that only read it; stores into it. -/
namespace Bow
open Go

def Ext (B B' : Base) : Prop := ∀ q o, B q = some o → B' q = some o
/-- What stands in B' and not in B. -/
def newPart (B B' : Base) : Base := fun q => match B q with | some _ => none | none => B' q
def Base.add (B N : Base) : Base := fun q => match B q with | some o => some o | none => N q
theorem Ext.refl (B : Base) : Ext B B := fun _ _ h => h
theorem Ext.trans {A B C : Base} (h : Ext A B) (k : Ext B C) : Ext A C := fun q o e => k q o (h q o e)
theorem Ext.add (B N : Base) : Ext B (B.add N) := fun q o h => by simp [Base.add, h]
theorem add_new {B N : Base} {q : Nat} {o : HObj} (h : N q = some o) (hb : B q = none) : (B.add N) q = some o := by simp [Base.add, h, hb]
theorem newPart_get {B B' : Base} {q : Nat} {o : HObj} (h : B' q = some o) (hb : B q = none) : newPart B B' q = some o := by simp [newPart, h, hb]
theorem newPart_old {B B' : Base} {q : Nat} {o : HObj} (h : newPart B B' q = some o) : B q = none ∧ B' q = some o := by
  unfold newPart at h
  split at h
  · cases h
  · rename_i hb; exact ⟨hb, h⟩
theorem newPart_ext {B B' B'' : Base} (h : Ext B' B'') : Ext (newPart B B') (newPart B B'') := fun q o e => by
  obtain ⟨h1, h2⟩ := newPart_old e
  exact newPart_get (h q o h2) h1
theorem newPart_add {B B' N : Base} (h : Ext B B') (hn : ∀ q o, N q = some o → B' q = none) : Ext N (newPart B (B'.add N)) := fun q o e => by
  refine newPart_get (add_new e (hn q o e)) ?_
  cases hb : B q with
  | none => rfl
  | some o' => have := h q o' hb; rw [hn q o e] at this; cases this
theorem Ext.eq_add {B B' : Base} (h : Ext B B') : B' = B.add (newPart B B') := by
  funext q
  unfold Base.add newPart
  cases hb : B q with
  | none => rfl
  | some o => exact h q o hb

mutual
theorem V.conv_pure (m : List Nat) : ∀ v : V, (v.conv m).pureB = true
  | .osl r _ _ _ | .ptr r _ | .eptr r _ _ _ | .yld r => by
    cases r with
    | loc k =>
      simp only [V.conv, Ref.conv]
      cases m[k]? <;> rfl
    | abs n => rfl
    | bad => rfl
  | .agg cs | .tup cs => by simp only [V.conv, V.pureB]; exact V.convL_pure m cs
  | .fn _ a c => by simp only [V.conv, V.pureB, Bool.and_eq_true]; exact ⟨V.convL_pure m a, V.convL_pure m c⟩
  | .iface _ v => by simp only [V.conv, V.pureB]; exact V.conv_pure m v
  | .int .. | .bool _ | .tt | .ff | .str _ | .sl .. | .nilsl | .iptr .. | .nilp | .nilf | .nili | .nilmap | .undef => rfl
theorem V.convL_pure (m : List Nat) : ∀ vs : List V, V.pureL (V.convL m vs) = true
  | [] => rfl
  | v :: vs => by simp only [V.convL, V.pureL, Bool.and_eq_true]; exact ⟨V.conv_pure m v, V.convL_pure m vs⟩
end

/-! ### Functions that hand back memory of their own, under names -/
@[irreducible] def FunN (P : Program) (g : FuncId) (args : List V) (Q : V → Base → Prop) : Prop :=
  Enterable P g ∧ ∀ (w : World) (β : Nat → Loc) (H : Heap) (B : Base) (vals : Array Value) (cs : List Frame), SRel [] 0 w β H [] ⟨[], [], B, []⟩ bare → args.length = vals.size →
    (∀ (j : Nat) (x : V) (v : Value), args[j]? = some x → vals[j]? = some v → Rep w β H x v) →
    ∃ (x : V) (N : Base) (v : Value) (w' : World) (β' : Nat → Loc) (H' : Heap) (fr : Frame), Q x N ∧ (∀ q o, N q = some o → B q = none) ∧ SRel [] 0 w' β' H' [] ⟨[], [], B.add N, []⟩ bare ∧ Fr w β H w' β' H' ∧ Rep w' β' H' x v ∧ x.pureB = true ∧
      Steps P (lone (Frame.enter P g vals .normal) cs w) (lone fr cs w') ∧ fr.fn = g ∧ fr.leaving P w' (.returned v)

theorem FunN.mono {P : Program} {g : FuncId} {args : List V} {Q Q' : V → Base → Prop} (h : FunN P g args Q) (hq : ∀ x N, Q x N → Q' x N) : FunN P g args Q' := by
  unfold FunN at *
  refine ⟨h.1, fun w β H B vals cs hs hl hr => ?_⟩
  obtain ⟨x, N, v, w', β', H', fr, k, r⟩ := h.2 w β H B vals cs hs hl hr
  exact ⟨x, N, v, w', β', H', fr, hq _ _ k, r⟩

/-- What a body's end has to be, there. -/
def XN (P : Program) (rs : Array ResultVar) (B : Base) (Q : V → Base → Prop) (e : Exit) (s : St) : Prop :=
  (match e with | .normal | .ret => True | _ => False) ∧ s.D = [] ∧ Ext B s.B ∧ resK P [] s.B rs.toList s.E s.T False fun xs => frz (resV xs) s.T False fun x _ => x.pureB = true ∧ ∃ y, Wk x y ∧ y.pureB = true ∧ Q y (newPart B s.B)

theorem funN_of_goes {P : Program} {g : FuncId} {fn : Func} {body : Code} {args : List V} {Q : V → Base → Prop} (n : Nat) (hf : P.funcs[g]? = some fn) (hn : (fn.name == "runtime.NumGoroutine") = false) (hb : fn.body = some body) (hnt : Nat.ble args.length fn.ntmps = true)
    (h : ∀ B : Base, evp { P := P, nt := fn.ntmps, fn := g, ro := none, imps := [], X := XN P fn.results B Q, B := B, D := [] } n [.code body] (env0 0 args) []) : FunN P g args Q := by
  unfold FunN
  refine ⟨⟨fn, hf, hn, by rw [hb]; rfl⟩, fun w β H B vals cs hs hl hr => ?_⟩
  have hnt := Nat.le_of_ble_eq_true hnt
  have gg := evp_sound _ _ _ _ _ (h B)
  unfold Goes at gg
  let b : Frame := { fn := g, tmps := #[], todo := [], defers := [], mode := .run, kind := .normal }
  let a : Act := { tmps := vals ++ Array.replicate (fn.ntmps - vals.size) Go.undef, defers := [] }
  have henter : Frame.enter P g vals .normal = b.atR a [.code body] := by
    simp [Frame.enter, Frame.atR, hf, hb, b, a]
  have hasz : a.tmps.size = fn.ntmps := by simp [a]; omega
  have hrc : ∀ (j : Nat) (x : V) (v : Value), args[j]? = some x → vals[j]? = some v → Rep w β H (x.conv []) v := fun j x v hj hv => by
    rw [conv_of_rep [] x (hr j x v hj hv)]
    exact hr j x v hj hv
  have hget : ∀ k, Rep w β H ((lk (env0 0 args) k).conv []) (a.tmps.getD k Go.undef) := by
    intro k
    rw [lk_env0]
    simp only [Nat.zero_le, if_true, Nat.sub_zero]
    cases hk : args[k]? with
    | none => exact .undef _
    | some x =>
      have hkl := lt_of_get hk
      have hkv : k < vals.size := by omega
      have e : a.tmps.getD k Go.undef = vals[k] := by
        simp only [a, Array.getD_eq_getD_getElem?]
        rw [Array.getElem?_append_left hkv]
        simp [hkv]
      rw [e]
      exact hrc k x vals[k] hk (Array.getElem?_eq_getElem hkv)
  have hs0 : SRel [] fn.ntmps w β H [] ⟨env0 0 args, [], B, []⟩ a := by
    refine ⟨hs.hrel, hasz, hget, hs.mlen, hs.nodup, hs.loc, hs.imp, hs.base, hs.fut, hs.own, fun p hp => ?_, hs.scT, rfl, by simp⟩
    obtain ⟨k, hk, hx⟩ := List.mem_iff_getElem.1 (env0_mem 0 args p hp)
    have hkv : k < vals.size := by omega
    exact sc_of_rep (m := []) p.2 (hrc k p.2 vals[k] (by rw [List.getElem?_eq_getElem hk, hx]) (Array.getElem?_eq_getElem hkv))
  obtain ⟨e, s', w', β', H', m', a', hX, hs', hfr, hend⟩ := gg w β H [] a b cs hs0 rfl rfl rfl
  obtain ⟨E', T1, B', D'⟩ := s'
  obtain ⟨he, hD, hB, hres⟩ := hX
  simp only at hD hB hres
  subst hD
  rcases resK_sound (c := { P := P, nt := fn.ntmps, fn := g, ro := none, imps := [], X := fun _ _ => True, B := B', D := [] }) _ _ _ _ hres with h | ⟨xs, hq, hx⟩
  · exact h.elim
  obtain ⟨vs, h1, h2, h3⟩ := hx w' β' H' m' a' hs'
  have hrun := run_results h1
  have hrep : Rep w' β' H' ((resV xs).conv m') (if h : vs.toArray.size = 1 then vs.toArray[0] else .tuple vs.toArray) := by
    by_cases h1 : vs.length = 1
    · rw [dif_pos (by simpa using h1)]
      match xs, h2, h3 with
      | [x], _, h3 => exact h3 0 x _ rfl (by simp [h1])
      | [], h2, _ => simp at h2; omega
      | _ :: _ :: _, h2, _ => simp at h2; omega
    · rw [dif_neg (by simpa using h1)]
      have e : resV xs = .tup xs := by
        match xs, h2 with
        | [x], h2 => simp at h2; omega
        | [], _ => rfl
        | _ :: _ :: _, _ => rfl
      rw [e]
      simp only [V.conv, V.convL_eq]
      refine .tup _ _ (by simp [h2]) fun j c v hj hv => ?_
      simp only [List.getElem?_map, Option.map_eq_some_iff] at hj
      obtain ⟨x, hj, rfl⟩ := hj
      exact h3 j x v hj (by simpa using hv)
  -- what is handed back is frozen; the rest is let go
  rcases frz_sound hq with hq | ⟨x', T2, hq, hfz⟩
  · exact hq.elim
  obtain ⟨H1, g1, g2, g3⟩ := hfz.2 _ _ _ _ _ _ _ _ _ _ hs'.bare
  obtain ⟨m2, H2, e1, e2, e3⟩ := SRel.dropTo (T := []) T2 g1 (by simp) (by simp) (by simp) (by simp)
  have hm2 : m2 = [] := List.length_eq_zero_iff.1 e1.mlen
  subst hm2
  have hrep' := (g3 0 _ x' _ rfl rfl hrep).mono e2
  obtain ⟨hp0, y, hw, hyp, hq⟩ := hq
  have hrep' := hw _ _ _ _ hrep'
  rw [hB.eq_add] at e1
  have hdef : a'.defers = [] := List.length_eq_zero_iff.1 hs'.defs
  cases e with
  | normal =>
    refine ⟨y, newPart B B', _, w', β', H2, { b.atR a' [] with mode := .returning }, hq, fun q o h => (newPart_old h).1, e1, (hfr.trans g2).trans e2, hrep', hyp, ?_, rfl, ?_⟩
    · rw [henter]
      exact Steps.trans hend (.one (stepR_end rfl))
    · exact ⟨rfl, hdef, rfl, fn, hf, hrun⟩
  | ret =>
    obtain ⟨k, hend⟩ := hend
    refine ⟨y, newPart B B', _, w', β', H2, { b.atR a' (.code .ret :: k) with mode := .returning }, hq, fun q o h => (newPart_old h).1, e1, (hfr.trans g2).trans e2, hrep', hyp, ?_, rfl, ?_⟩
    · rw [henter]
      exact Steps.trans hend (.one (stepR_ret rfl))
    · exact ⟨rfl, hdef, rfl, fn, hf, hrun⟩
  | exit id => exact he.elim
  | goto l => exact he.elim
  | panic ch => exact he.elim
  | outgrown => exact he.elim

section
variable {w w' : World} {β β' : Nat → Loc} {H H' : Heap}
/-- What a function with nothing of its own sees of a world. -/
theorem seen {imps : List Nat} {nt : Nat} {m : List Nat} {s : St} {a : Act} (hs : SRel imps nt w β H m s a) : SRel [] 0 w β H [] ⟨[], [], fun r => (H[r]?).getD none, []⟩ bare := by
  refine ⟨hs.hrel, rfl, fun k => by simp [lk, V.conv]; exact .undef _, rfl, List.nodup_nil, by simp, rfl, fun r h _ => ?_, fun r h1 => ?_, by simp, by simp, by simp, rfl, by simp⟩
  · simp [h]
  · simp [List.getElem?_eq_none h1]
end

/-- Out of a function whose objects all are there when it ends. -/
theorem funN_of_fun {P : Program} {g : FuncId} {args : List V} {Q : V → Heap → Prop} (h : Fun P g [] args Q) (ha : V.pureL args = true) (hl : ∀ x T', Q x T' → allLive T' = true) :
    FunN P g args fun x N => ∃ x' T' m', Q x' T' ∧ x = x'.conv m' ∧ m'.length = T'.length ∧ m'.Nodup ∧ ∀ (k q : Nat) (o : HObj), m'[k]? = some q → T'[k]? = some (some o) → N q = some (o.conv m') := by
  unfold Fun at h
  unfold FunN
  refine ⟨h.1, fun w β H B vals cs hs hlen hr => ?_⟩
  obtain ⟨x, T', v, w', β', H', m', fr, hq, k1, k2, k3, k4, k5, k6⟩ := h.2 w β H [] B vals cs hs hlen (fun j x v hj hv => by
    rw [pure_conv _ _ (pureL_mem _ ha x (List.mem_of_getElem? hj))]
    exact hr j x v hj hv)
  have hlive := hl x T' hq
  have hml : m'.length = T'.length := k1.mlen
  have hobj : ∀ (k q : Nat), m'[k]? = some q → ∃ o, T'[k]? = some (some o) ∧ H'[q]? = some (some (o.conv m')) := fun k q hk => by
    have hkT : k < T'.length := by have := lt_of_get hk; omega
    have e := List.getElem?_eq_getElem hkT
    obtain ⟨o, ho⟩ := allLive_get hlive k _ e
    rw [ho] at e
    exact ⟨o, e, k1.loc k q _ hk e⟩
  obtain ⟨N, hN⟩ : ∃ N : Base, N = fun q => if q ∈ m' then (H'[q]?).getD none else none := ⟨_, rfl⟩
  have hNm : ∀ (k q : Nat) (o : HObj), m'[k]? = some q → T'[k]? = some (some o) → N q = some (o.conv m') := fun k q o hk ho => by
    obtain ⟨o', e1, e2⟩ := hobj k q hk
    rw [ho] at e1
    injection e1 with e1
    injection e1 with e1
    subst e1
    rw [hN]
    simp [List.mem_of_getElem? hk, e2]
  have hNB : ∀ q o, N q = some o → q ∈ m' ∧ B q = none := fun q o h => by
    rw [hN] at h
    by_cases hm : q ∈ m'
    · obtain ⟨k, hk⟩ := List.getElem?_of_mem hm
      exact ⟨hm, k1.own k q (Nat.zero_le _) hk⟩
    · simp [hm] at h
  refine ⟨_, N, v, w', β', H', fr, ⟨x, T', m', hq, rfl, hml, k1.nodup, hNm⟩, fun q o h => (hNB q o h).2, ?_, k2, k3, V.conv_pure m' x, k4, k5, k6⟩
  refine ⟨k1.hrel, rfl, fun k => by simp [lk, V.conv]; exact .undef _, rfl, List.nodup_nil, by simp, rfl, fun r hr _ => ?_, fun r hr => ?_, by simp, by simp, by simp, rfl, by simp⟩
  · show H'[r]? = some ((B.add N) r)
    by_cases hm : r ∈ m'
    · obtain ⟨k, hk⟩ := List.getElem?_of_mem hm
      obtain ⟨o, e1, e2⟩ := hobj k r hk
      rw [e2, add_new (hNm k r o hk e1) (k1.own k r (Nat.zero_le _) hk)]
    · have h1 := k1.base r hr hm
      simp only at h1
      rw [h1]
      unfold Base.add
      cases hb : B r with
      | some o => rfl
      | none =>
        have : N r = none := by rw [hN]; simp [hm]
        rw [this]
  · show (B.add N) r = none
    have h1 : B r = none := k1.fut r hr
    unfold Base.add
    rw [h1]
    cases hn : N r with
    | none => rfl
    | some o =>
      obtain ⟨k, hk⟩ := List.getElem?_of_mem (hNB r o hn).1
      have := k1.lt hk
      omega

/-- A call of one. -/
theorem call_funN {c : Cx} {g : FuncId} {args : List V} {E : Env} {T : Heap} {K : V → St → Prop} {Q : V → Base → Prop} (hf : FunN c.P g args Q) (ha : V.pureL args = true)
    (h : ∀ x N, Q x N → x.pureB = true → (∀ q o, N q = some o → c.B q = none) → K x ⟨E, T, c.B.add N, c.D⟩) : CallThen c g args E T K := by
  unfold FunN at hf
  obtain ⟨hen, hf⟩ := hf
  unfold CallThen
  refine ⟨hen, fun w β H m a vals cs hs hl hr => ?_⟩
  obtain ⟨x, N, v, w', β', H', fr, hq, hN, k1, k2, k3, hp, k4, k5, k6⟩ := hf w β H _ vals cs (seen hs) hl (fun j x v hj hv => by
    have h1 := hr j x v hj hv
    rwa [pure_conv _ _ (pureL_mem _ ha x (List.mem_of_getElem? hj))] at h1)
  have hlen : H.length ≤ H'.length := k2.len
  have hH' : ∀ q, q < H'.length → H'[q]? = some (Base.add (fun r => (H[r]?).getD none) N q) := fun q hq => k1.base q hq (by simp)
  have hnew : ∀ q o, N q = some o → H.length ≤ q ∧ q < H'.length := fun q o h1 => by
    have h2 : (Base.add (fun r => (H[r]?).getD none) N) q = some o := add_new h1 (hN q o h1)
    have h3 : q < H'.length := by
      rcases Nat.lt_or_ge q H'.length with h3 | h3
      · exact h3
      · have h4 : (Base.add (fun r => (H[r]?).getD none) N) q = none := k1.fut q h3
        rw [h2] at h4
        cases h4
    refine ⟨?_, h3⟩
    rcases Nat.lt_or_ge q H.length with h4 | h4
    · exfalso
      have h5 := hH' q h3
      rw [h2] at h5
      obtain ⟨o1, ho1, _⟩ := k2.evo q o h4 h5
      have := hN q o h1
      simp only [ho1] at this
      cases this
    · exact h4
  have hcB : ∀ q o, N q = some o → c.B q = none := fun q o h1 => hs.fut q (hnew q o h1).1
  have hNold : ∀ q, q < H.length → N q = none := fun q h1 => by
    cases hn : N q with
    | none => rfl
    | some o => have := (hnew q o hn).1; omega
  have hold : ∀ q, q < H.length → H'[q]? = H[q]? := fun q h1 => by
    rw [hH' q (Nat.lt_of_lt_of_le h1 hlen)]
    unfold Base.add
    simp only [hNold q h1, List.getElem?_eq_getElem h1, Option.getD_some]
    cases H[q] <;> rfl
  have hadd : ∀ q, q < H.length → (c.B.add N) q = c.B q := fun q h1 => by
    unfold Base.add
    rw [hNold q h1]
    cases c.B q <;> rfl
  refine ⟨x, _, v, w', β', H', m, fr, h x N hq hp hcB, ?_, k2, by rw [pure_conv _ _ hp]; exact k3, k4, k5, k6, List.prefix_refl _⟩
  refine ⟨k1.hrel, hs.size, fun k => (hs.env k).mono k2, hs.mlen, hs.nodup, fun k r o hk ho => ?_, hs.imp, fun r hr hm => ?_, fun r hr => ?_, fun k r hk hr => ?_, hs.scE, hs.scT, hs.defs, fun j k hj => ?_⟩
  · rw [hold r (hs.lt hk)]
    exact hs.loc k r o hk ho
  · simp only
    rcases Nat.lt_or_ge r H.length with h1 | h1
    · rw [hold r h1, hadd r h1]
      exact hs.base r h1 hm
    · have h2 : c.B r = none := hs.fut r h1
      rw [hH' r hr]
      unfold Base.add
      simp only [List.getElem?_eq_none h1, h2, Option.getD_none]
  · have h1 : c.B r = none := hs.fut r (Nat.le_trans hlen hr)
    have h2 : (Base.add (fun r => (H[r]?).getD none) N) r = none := k1.fut r hr
    unfold Base.add at h2
    simp only [List.getElem?_eq_none (Nat.le_trans hlen hr), Option.getD_none] at h2
    simp only [Base.add, h1, h2]
  · simp only
    rw [hadd r (hs.lt hr)]
    exact hs.own k r hk hr
  · obtain ⟨r, b, M, h1, h2, h3, h4⟩ := hs.marks j k hj
    have hH0 := hs.loc k r _ h1 h2
    exact ⟨r, b, M, h1, h2, dfr_stays k2 (by simpa [HObj.conv] using hH0) h3 (by rw [hold r (hs.lt h1), hH0]; rfl), h4⟩

/-! ### Named memory, read by functions that leave nothing behind -/
inductive Fz (B : Base) : V → V → Prop
  | wk {x y : V} (h : Wk x y) : Fz B x y
  | row (r g sz : Nat) (xs : List V) (h : B r = some (.vec g sz xs)) : Fz B (.osl (.abs r) g 0 xs.length) (.sl sz xs)
  | agg (cs ds : List V) (hl : cs.length = ds.length) (h : ∀ (j : Nat) (c d : V), cs[j]? = some c → ds[j]? = some d → Fz B c d) : Fz B (.agg cs) (.agg ds)
  | sl (sz : Nat) (xs ys : List V) (hl : xs.length = ys.length) (hy : ∀ y ∈ ys, okE sz y) (h : ∀ (i : Nat) (x y : V) (j : Nat) (c d : V), xs[i]? = some x → ys[i]? = some y → x.cells[j]? = some c → y.cells[j]? = some d → Fz B c d) : Fz B (.sl sz xs) (.sl sz ys)

theorem Fr0.killAll {w : World} {β : Nat → Loc} {H : Heap} : Fr0 w β H w β (H.map fun _ => none) := by
  have hnone : ∀ r o, (H.map fun _ => (none : Option HObj))[r]? ≠ some (some o) := fun r o h => by rw [List.getElem?_map] at h; cases hh : H[r]? <;> rw [hh] at h <;> cases h
  have hno : ∀ b, ¬ ownB β (H.map fun _ => none) b := fun b ⟨r, N, ⟨o, h⟩, _⟩ => hnone r o h
  exact ⟨rfl, rfl, rfl, Nat.le_refl _, by simp, fun r o' _ ho => absurd ho (hnone r o'), fun _ _ _ => rfl, fun b hb => absurd hb (hno b), fun _ _ => rfl⟩
theorem killAll_no {β : Nat → Loc} {H : Heap} (b : Nat) : ¬ ownB β (H.map fun _ => none) b := by
  rintro ⟨r, N, ⟨o, h⟩, _⟩
  rw [List.getElem?_map] at h
  cases hh : H[r]? <;> rw [hh] at h <;> cases h

theorem Fz.rep {B : Base} {w : World} {β : Nat → Loc} {H : Heap} (hrel : HRel w β H) (hB : ∀ q o, B q = some o → H[q]? = some (some o)) {x y : V} (h : Fz B x y) : ∀ {v : Value}, Rep w β H x v → Rep w β (H.map fun _ => none) y v := by
  induction h with
  | wk h => exact fun {v} hv => (h w β H v hv).mono0 Fr0.killAll
  | row r g sz xs h =>
    intro v hv
    have hH := hB r _ h
    have hob := hrel.obj r _ hH
    have hvec : ∀ sz2 xs2, H[r]? = some (some (.vec g sz2 xs2)) → sz2 = sz ∧ xs2 = xs := fun sz2 xs2 h2 => by
      rw [hH] at h2
      injection h2 with h2
      injection h2 with h2
      injection h2 with _ e1 e2
      exact ⟨e1.symm, e2.symm⟩
    generalize hn : xs.length = n at hv
    cases hv with
    | oslNil _ _ sz2 xs2 ad hH' hβ =>
      rw [hβ] at hob
      have : xs = [] := hob
      subst this
      exact .sl sz [] ad 0 (fun _ => Go.undef) (Nat.le_refl _) (Nat.zero_le _) (by simp) (fun hne => absurd rfl hne) (fun i x j c hi => by simp at hi)
    | oslBlk _ _ _ _ sz2 xs2 b N ad cap hH' hβ hl hN hcap ha hlen =>
      obtain ⟨rfl, rfl⟩ := hvec _ _ hH'
      rw [hβ] at hob
      obtain ⟨vs, e, _, h1, h2, h3, h4, h5, h6⟩ := hob
      subst hn
      refine .sl sz2 xs2 ad cap (fun j => vs.getD j Go.undef) hl (by omega) h5 (fun hne => ?_) (fun i x j c hi hj => ?_)
      · have h0 : 0 < xs2.length := List.length_pos_iff.2 hne
        have := ha (by omega)
        subst this
        refine ⟨_, rfl, killAll_no _, (Array.getElem?_eq_some_iff.1 h1).1, fun j hj => ?_⟩
        have hjv : j < vs.size := by omega
        rw [Nat.zero_mul, at_add, cell_of_row w b j vs e (0, 0) h1]
        simp [hjv]
      · have hlt : i * sz2 + j < vs.size := by
          have e1 := lt_of_get hi
          have e2 := lt_of_get hj
          have e3 := (h5 x (List.mem_of_getElem? hi)).1
          have : (i + 1) * sz2 ≤ xs2.length * sz2 := Nat.mul_le_mul_right _ e1
          rw [Nat.add_mul] at this
          omega
        exact (h6 i x j c (vs.getD (i * sz2 + j) Go.undef) hi hj (by simp [hlt])).mono0 Fr0.killAll
    | oslStale _ _ _ _ g' sz' xs' _ hH' hg =>
      rw [hH] at hH'
      injection hH' with hH'
      injection hH' with hH'
      injection hH' with e0 _ _
      omega
    | oslDead _ _ _ _ _ hd => rw [hH] at hd; cases hd
  | agg cs ds hl h ih =>
    intro v hv
    cases hv with
    | agg _ vs hl' h' =>
      refine .agg ds vs (hl.symm.trans hl') fun j d u hj hu => ?_
      have hjc : j < cs.length := by have := lt_of_get hj; omega
      exact ih j _ d (List.getElem?_eq_getElem hjc) hj (h' j _ u (List.getElem?_eq_getElem hjc) hu)
  | sl sz xs ys hl hy h ih =>
    intro v hv
    generalize hn : xs.length = n at hl
    generalize hq : V.sl sz xs = q at hv
    cases hv with
    | sl sz' xs' a cap vals hcap hmax hsz ha hr =>
      injection hq with e1 e2
      subst e1 e2
      rw [hn, hl]
      refine .sl sz ys a cap vals (by omega) hmax hy (fun hne => ?_) (fun i y j d hi hj => ?_)
      · obtain ⟨ad, k1, _, k3, k4⟩ := ha (fun e => hne (by rw [e] at hn; exact List.length_eq_zero_iff.1 (by simp at hn; omega)))
        exact ⟨ad, k1, killAll_no _, k3, fun j hj => k4 j (by rw [hn, hl]; exact hj)⟩
      · have hix : i < xs.length := by have := lt_of_get hi; omega
        have hx := List.getElem?_eq_getElem hix
        have hc1 := (hsz _ (List.mem_of_getElem? hx)).1
        have hc2 := (hy _ (List.mem_of_getElem? hi)).1
        have hjx : j < (xs[i]).cells.length := by have := lt_of_get hj; omega
        exact ih i _ y j _ d hx hi (List.getElem?_eq_getElem hjx) hj (hr i _ j _ hx (List.getElem?_eq_getElem hjx))
    | _ => cases hq

/-- .. all at once. -/
def FzL (B : Base) : List V → List V → Prop
  | [], [] => True
  | x :: xs, y :: ys => Fz B x y ∧ FzL B xs ys
  | _, _ => False
theorem FzL.get {B : Base} : ∀ {xs ys : List V}, FzL B xs ys → xs.length = ys.length ∧ ∀ (j : Nat) (y : V), ys[j]? = some y → ∃ x, xs[j]? = some x ∧ Fz B x y
  | [], [], _ => ⟨rfl, fun j y h => by simp at h⟩
  | x :: xs, y :: ys, h => by
    obtain ⟨h1, h2⟩ := FzL.get h.2
    refine ⟨by simp [h1], fun j z hz => ?_⟩
    cases j with
    | zero => simp at hz; subst hz; exact ⟨x, rfl, h.1⟩
    | succ j => simpa using h2 j z (by simpa using hz)
  | [], _ :: _, h => h.elim
  | _ :: _, [], h => h.elim

/-- A call that is handed named memory, and hands back a number, a truth value or a text. -/
theorem call_flatN {c : Cx} {g : FuncId} {args args' : List V} {E : Env} {T : Heap} {K : V → St → Prop} {x : V} (hf : Pure c.P g args' (fun y => y = x)) (hz : FzL c.B args args') (hi : c.imps = []) (ha : V.pureL args = true) (ha' : V.pureL args' = true) (hx : flatB x = true) (h : K x ⟨E, T, c.B, c.D⟩) : CallThen c g args E T K := by
  have hen : Enterable c.P g := by
    unfold Pure Fun at hf
    exact hf.1
  unfold CallThen
  refine ⟨hen, fun w β H m a vals cs hs hl hr => ?_⟩
  obtain ⟨hzl, hzg⟩ := hz.get
  obtain ⟨y, v, w', β', H', fr, rfl, hp, g3, hb, g4, g5, g6⟩ := pure_still (β := β) (H := H.map fun _ => none) hf ha' cs (hzl.symm.trans hl) (fun j y v hj hv => by
    obtain ⟨x0, h1, h2⟩ := hzg j y hj
    have h3 := hr j x0 v h1 hv
    rw [pure_conv _ _ (pureL_mem _ ha x0 (List.mem_of_getElem? h1))] at h3
    exact h2.rep hs.hrel (fun q o hq => hs.baseAt (by rw [hi]; simp) hq) h3)
  have g2' : Fr w β H w' β H := Fr.of_below hb
  exact ⟨y, _, v, w', β, H, m, fr, h, hs.same g2' (hs.hrel.of_below hb), g2', by rw [pure_conv _ _ hp]; exact g3.flat hx, g4, g5, g6, List.prefix_refl _⟩

/-! ### Functions that write over named memory -/
/-- The same rows, of the same shapes. -/
def ShpEq (B B' : Base) : Prop := ∀ r g sz xs, B r = some (.vec g sz xs) → ∃ xs' : List V, B' r = some (.vec g sz xs') ∧ xs'.length = xs.length
theorem ShpEq.refl (B : Base) : ShpEq B B := fun r g sz xs h => ⟨xs, h, rfl⟩
theorem ShpEq.trans {A B C : Base} (h : ShpEq A B) (k : ShpEq B C) : ShpEq A C := fun r g sz xs e => by
  obtain ⟨xs', h1, h2⟩ := h r g sz xs e
  obtain ⟨xs'', k1, k2⟩ := k r g sz xs' h1
  exact ⟨xs'', k1, k2.trans h2⟩
@[irreducible] def FunW (P : Program) (g : FuncId) (args : List V) (m : List Nat) (I : Base → Prop) (Q : V → Prop) : Prop :=
  Enterable P g ∧ ∀ (w : World) (β : Nat → Loc) (H : Heap) (B : Base) (vals : Array Value) (cs : List Frame), SRel [] 0 w β H [] ⟨[], [], B, []⟩ bare → I B → args.length = vals.size →
    (∀ (j : Nat) (x : V) (v : Value), args[j]? = some x → vals[j]? = some v → Rep w β H x v) →
    ∃ (x : V) (v : Value) (w' : World) (β' : Nat → Loc) (H' : Heap) (B' : Base) (fr : Frame), Q x ∧ SRel [] 0 w' β' H' [] ⟨[], [], B', []⟩ bare ∧ ShpEq B B' ∧ (∀ q, q ∉ m → B' q = B q) ∧ Fr w β H w' β' H' ∧ Rep w' β' H' x v ∧ x.pureB = true ∧
      Steps P (lone (Frame.enter P g vals .normal) cs w) (lone fr cs w') ∧ fr.fn = g ∧ fr.leaving P w' (.returned v)
def XW (P : Program) (rs : Array ResultVar) (m : List Nat) (B : Base) (Q : V → Prop) (e : Exit) (s : St) : Prop :=
  (match e with | .normal | .ret => True | _ => False) ∧ s.D = [] ∧ (ShpEq B s.B ∧ ∀ q, q ∉ m → s.B q = B q) ∧ resK P [] s.B rs.toList s.E s.T False fun xs => frz (resV xs) s.T False fun x _ => x.pureB = true ∧ Q x

theorem funW_of_goes {P : Program} {g : FuncId} {fn : Func} {body : Code} {args : List V} {m : List Nat} {I : Base → Prop} {Q : V → Prop} (n : Nat) (hf : P.funcs[g]? = some fn) (hn : (fn.name == "runtime.NumGoroutine") = false) (hb : fn.body = some body) (hnt : Nat.ble args.length fn.ntmps = true)
    (h : ∀ B : Base, I B → evp { P := P, nt := fn.ntmps, fn := g, ro := none, imps := [], X := XW P fn.results m B Q, B := B, D := [] } n [.code body] (env0 0 args) []) : FunW P g args m I Q := by
  unfold FunW
  refine ⟨⟨fn, hf, hn, by rw [hb]; rfl⟩, fun w β H B vals cs hs hout hl hr => ?_⟩
  have hnt := Nat.le_of_ble_eq_true hnt
  have gg := evp_sound _ _ _ _ _ (h B hout)
  unfold Goes at gg
  let b : Frame := { fn := g, tmps := #[], todo := [], defers := [], mode := .run, kind := .normal }
  let a : Act := { tmps := vals ++ Array.replicate (fn.ntmps - vals.size) Go.undef, defers := [] }
  have henter : Frame.enter P g vals .normal = b.atR a [.code body] := by
    simp [Frame.enter, Frame.atR, hf, hb, b, a]
  have hasz : a.tmps.size = fn.ntmps := by simp [a]; omega
  have hrc : ∀ (j : Nat) (x : V) (v : Value), args[j]? = some x → vals[j]? = some v → Rep w β H (x.conv []) v := fun j x v hj hv => by
    rw [conv_of_rep [] x (hr j x v hj hv)]
    exact hr j x v hj hv
  have hget : ∀ k, Rep w β H ((lk (env0 0 args) k).conv []) (a.tmps.getD k Go.undef) := by
    intro k
    rw [lk_env0]
    simp only [Nat.zero_le, if_true, Nat.sub_zero]
    cases hk : args[k]? with
    | none => exact .undef _
    | some x =>
      have hkl := lt_of_get hk
      have hkv : k < vals.size := by omega
      have e : a.tmps.getD k Go.undef = vals[k] := by
        simp only [a, Array.getD_eq_getD_getElem?]
        rw [Array.getElem?_append_left hkv]
        simp [hkv]
      rw [e]
      exact hrc k x vals[k] hk (Array.getElem?_eq_getElem hkv)
  have hs0 : SRel [] fn.ntmps w β H [] ⟨env0 0 args, [], B, []⟩ a := by
    refine ⟨hs.hrel, hasz, hget, hs.mlen, hs.nodup, hs.loc, hs.imp, hs.base, hs.fut, hs.own, fun p hp => ?_, hs.scT, rfl, by simp⟩
    obtain ⟨k, hk, hx⟩ := List.mem_iff_getElem.1 (env0_mem 0 args p hp)
    have hkv : k < vals.size := by omega
    exact sc_of_rep (m := []) p.2 (hrc k p.2 vals[k] (by rw [List.getElem?_eq_getElem hk, hx]) (Array.getElem?_eq_getElem hkv))
  obtain ⟨e, s', w', β', H', m', a', hX, hs', hfr, hend⟩ := gg w β H [] a b cs hs0 rfl rfl rfl
  obtain ⟨E', T1, B', D'⟩ := s'
  obtain ⟨he, hD, hB, hres⟩ := hX
  simp only at hD hB hres
  subst hD
  rcases resK_sound (c := { P := P, nt := fn.ntmps, fn := g, ro := none, imps := [], X := fun _ _ => True, B := B', D := [] }) _ _ _ _ hres with h | ⟨xs, hq, hx⟩
  · exact h.elim
  obtain ⟨vs, h1, h2, h3⟩ := hx w' β' H' m' a' hs'
  have hrun := run_results h1
  have hrep : Rep w' β' H' ((resV xs).conv m') (if h : vs.toArray.size = 1 then vs.toArray[0] else .tuple vs.toArray) := by
    by_cases h1 : vs.length = 1
    · rw [dif_pos (by simpa using h1)]
      match xs, h2, h3 with
      | [x], _, h3 => exact h3 0 x _ rfl (by simp [h1])
      | [], h2, _ => simp at h2; omega
      | _ :: _ :: _, h2, _ => simp at h2; omega
    · rw [dif_neg (by simpa using h1)]
      have e : resV xs = .tup xs := by
        match xs, h2 with
        | [x], h2 => simp at h2; omega
        | [], _ => rfl
        | _ :: _ :: _, _ => rfl
      rw [e]
      simp only [V.conv, V.convL_eq]
      refine .tup _ _ (by simp [h2]) fun j c v hj hv => ?_
      simp only [List.getElem?_map, Option.map_eq_some_iff] at hj
      obtain ⟨x, hj, rfl⟩ := hj
      exact h3 j x v hj (by simpa using hv)
  -- what is handed back is frozen; the rest is let go
  rcases frz_sound hq with hq | ⟨x', T2, hq, hfz⟩
  · exact hq.elim
  obtain ⟨H1, g1, g2, g3⟩ := hfz.2 _ _ _ _ _ _ _ _ _ _ hs'.bare
  obtain ⟨m2, H2, e1, e2, e3⟩ := SRel.dropTo (T := []) T2 g1 (by simp) (by simp) (by simp) (by simp)
  have hm2 : m2 = [] := List.length_eq_zero_iff.1 e1.mlen
  subst hm2
  have hrep' := (g3 0 _ x' _ rfl rfl hrep).mono e2
  have hdef : a'.defers = [] := List.length_eq_zero_iff.1 hs'.defs
  cases e with
  | normal =>
    refine ⟨x', _, w', β', H2, B', { b.atR a' [] with mode := .returning }, hq.2, e1, hB.1, hB.2, (hfr.trans g2).trans e2, hrep', hq.1, ?_, rfl, ?_⟩
    · rw [henter]
      exact Steps.trans hend (.one (stepR_end rfl))
    · exact ⟨rfl, hdef, rfl, fn, hf, hrun⟩
  | ret =>
    obtain ⟨k, hend⟩ := hend
    refine ⟨x', _, w', β', H2, B', { b.atR a' (.code .ret :: k) with mode := .returning }, hq.2, e1, hB.1, hB.2, (hfr.trans g2).trans e2, hrep', hq.1, ?_, rfl, ?_⟩
    · rw [henter]
      exact Steps.trans hend (.one (stepR_ret rfl))
    · exact ⟨rfl, hdef, rfl, fn, hf, hrun⟩
  | exit id => exact he.elim
  | goto l => exact he.elim
  | panic ch => exact he.elim
  | outgrown => exact he.elim
/-- A call of one. -/
theorem call_funW {c : Cx} {g : FuncId} {args : List V} {E : Env} {Tw : Heap} {m : List Nat} {I : Base → Prop} {K : V → St → Prop} {Q : V → Prop} (hf : FunW c.P g args m I Q) (himp : c.imps = []) (hin : ∀ B, Ext c.B B → I B) (hm : ∀ q ∈ m, ∃ o, c.B q = some o) (ha : V.pureL args = true)
    (h : ∀ x B', Q x → x.pureB = true → ShpEq c.B B' → (∀ q, q ∉ m → B' q = c.B q) → K x ⟨E, Tw, B', c.D⟩) : CallThen c g args E Tw K := by
  unfold FunW at hf
  obtain ⟨hen, hf⟩ := hf
  unfold CallThen
  refine ⟨hen, fun w β H mw a vals cs hs hl hr => ?_⟩
  rw [himp] at hs
  have hHr : ∀ (q : Nat) (ob : HObj), c.B q = some ob → H[q]? = some (some ob) := fun q ob hq => hs.baseAt (by simp) hq
  have hnot : ∀ q, q ∈ m → q ∉ mw := fun q hq => by
    obtain ⟨o, e2⟩ := hm q hq
    exact hs.notIn e2 (by simp)
  have hs0 : SRel [] 0 w β H [] ⟨[], [], fun r => (H[r]?).getD none, []⟩ bare := by
    refine ⟨hs.hrel, rfl, fun k => by simp [lk, V.conv]; exact .undef _, rfl, List.nodup_nil, by simp, rfl, fun r h _ => ?_, fun r h1 => ?_, by simp, by simp, by simp, rfl, by simp⟩
    · simp [h]
    · simp [List.getElem?_eq_none h1]
  obtain ⟨x, v, w', β', H', B', fr, hq, k1, k2, k3, k4, k5, k6, k7, k8, k9⟩ := hf w β H _ vals cs hs0 (hin _ fun q o hq => by simp [hHr q o hq]) hl (fun j x v hj hv => by
    have h1 := hr j x v hj hv
    rwa [pure_conv _ _ (pureL_mem _ ha x (List.mem_of_getElem? hj))] at h1)
  have hH' : ∀ q, q < H'.length → H'[q]? = some (B' q) := fun q hq => k1.base q hq (by simp)
  have hlen := k4.len
  have hold : ∀ q, q < H.length → q ∉ m → H'[q]? = H[q]? := fun q hq hm => by
    rw [hH' q (Nat.lt_of_lt_of_le hq hlen), k3 q hm]
    simp [hq]
  obtain ⟨B1, hB1⟩ : ∃ B1 : Base, B1 = fun q => if q ∈ m then B' q else c.B q := ⟨_, rfl⟩
  have hBm : ∀ q, q ∈ m → B1 q = B' q := fun q hq => by rw [hB1]; simp [hq]
  have hBn : ∀ q, q ∉ m → B1 q = c.B q := fun q hq => by rw [hB1]; simp [hq]
  have hout1 : ShpEq c.B B1 := fun r g sz xs hr => by
    by_cases hrm : r ∈ m
    · rw [hBm r hrm]
      exact k2 r g sz xs (by simp [hHr r _ hr])
    · rw [hBn r hrm]
      exact ⟨xs, hr, rfl⟩
  refine ⟨x, _, v, w', β', H', mw, fr, h x B1 hq k6 hout1 hBn, ?_, k4, by rw [pure_conv _ _ k6]; exact k5, k7, k8, k9, List.prefix_refl _⟩
  rw [himp]
  have hmlt : ∀ q, q ∈ m → q < H.length := fun q hq => by
    obtain ⟨o, e2⟩ := hm q hq
    exact lt_of_get (hHr q _ e2)
  refine ⟨k1.hrel, hs.size, fun k => (hs.env k).mono k4, hs.mlen, hs.nodup, fun j q ob hj hob => ?_, rfl, fun q hq hqm => ?_, fun q hq => ?_, fun j q hj hq => ?_, hs.scE, hs.scT, hs.defs, ?_⟩
  · have hqm : q ∉ m := fun hm => hnot q hm (List.mem_of_getElem? hj)
    rw [hold q (hs.lt hj) hqm]
    exact hs.loc j q ob hj hob
  · by_cases hm : q ∈ m
    · simp only
      rw [hBm q hm]
      exact hH' q hq
    · simp only
      rw [hBn q hm]
      rcases Nat.lt_or_ge q H.length with h1 | h1
      · rw [hold q h1 hm]
        exact hs.base q h1 hqm
      · have e0 : c.B q = none := hs.fut q h1
        rw [hH' q hq, k3 q hm, e0, List.getElem?_eq_none h1]
        rfl
  · have hm : q ∉ m := fun hm => by have := hmlt q hm; omega
    simp only
    rw [hBn q hm]
    exact hs.fut q (Nat.le_trans hlen hq)
  · have hqm : q ∉ m := fun hm => hnot q hm (List.mem_of_getElem? hq)
    simp only
    rw [hBn q hqm]
    exact hs.own j q hj hq
  · intro j q hj
    obtain ⟨r', b', N', e1, e2, e3, e4⟩ := hs.marks j q hj
    refine ⟨r', b', N', e1, e2, ?_, e4⟩
    have hqm : r' ∉ m := fun hm => hnot r' hm (List.mem_of_getElem? e1)
    have hH0 := hs.loc q r' _ e1 e2
    exact dfr_stays k4 (by simpa [HObj.conv] using hH0) e3 (by rw [hold r' (hs.lt e1) hqm, hH0]; rfl)


/-! ### Stores into named memory -/
section
variable {c : Cx} {E : Env} {T : Heap} {ops : Array Oper} {i : Nat} {rest : List Nat} {k : List Item} {o : Oper}

theorem goes_fieldA {t : TypeId} {x : Operand} {f r g ix off sz : Nat} {xs : List V} {fs : Array Field} {fd : Field} {ti : TypeInfo} (n : Nat) (ho : lget ops.toList i = some o) (hg : o.guard = none) (hop : o.op = .fieldAddr t x f) (hx : opd E x = .eptr (.abs r) g ix off)
    (ht : tyU c.P t = some (.struct fs)) (hfd : lget fs.toList f = some fd) (hti : tyI c.P fd.type = some ti) (hsz : Nat.ble 1 ti.size = true) (hi : r ∉ c.imps) (hB : c.B r = some (.vec g sz xs))
    (h : putE c.nt o.dst (.eptr (.abs r) g ix (off + fd.offset)) E False fun E' => evp c n (.inRegion ops rest :: k) E' T) : Goes c (.inRegion ops (i :: rest) :: k) E T := by
  refine goes_opTo n ho hg hop (OpTo.still fun o hop w β H m a hs => ?_) (fun cl h => by cases h) h
  have hp := opd_rep hs x
  have hH : H[r]? = some (some (.vec g sz xs)) := hs.baseAt hi hB
  rw [lget_eq] at hfd
  have hf : fs[f]? = some fd := by simpa using hfd
  simp only [hx, V.conv, Ref.conv] at hp
  generalize hq : a.eval x = q at hp
  cases hp with
  | eptrLive _ _ _ _ sz' xs' b N hH' hβ hi =>
    refine ⟨.pointer (some ((⟨b, ix * sz' + off, none⟩ : Addr).add fd.offset)), by simp [execOp, hop, hq, run_fieldAt (tyU_sound ht) hf (tyI_sound hti) (Nat.le_of_ble_eq_true hsz)], ?_⟩
    rw [add_none, Nat.add_assoc]
    exact .eptrLive r g ix _ sz' xs' b N hH' hβ hi
  | eptrStale _ _ _ _ g' sz' xs' _ hH' hg =>
    rw [hH] at hH'
    injection hH' with hH'
    injection hH' with hH'
    injection hH' with e0 _ _
    omega
  | eptrDead _ _ _ _ _ hd => rw [hH] at hd; cases hd

theorem over_has {α : Type} (xs cs : List α) (n : Nat) (h : n + cs.length ≤ xs.length) : ∃ ys, over xs n cs ys := by
  refine ⟨xs.take n ++ cs ++ xs.drop (n + cs.length), h, by simp; omega, fun j => ?_⟩
  rcases Nat.lt_or_ge j n with h1 | h1
  · rw [if_neg (by omega), List.append_assoc, List.getElem?_append_left (by simp; omega), List.getElem?_take, if_pos h1]
  · rcases Nat.lt_or_ge j (n + cs.length) with h2 | h2
    · rw [if_pos ⟨h1, h2⟩, List.getElem?_append_left (by simp; omega), List.getElem?_append_right (by simp; omega)]
      have : min n xs.length = n := by omega
      simp [this]
    · rw [if_neg (by omega), List.getElem?_append_right (by simp; omega)]
      have e1 : min n xs.length = n := by omega
      simp only [List.length_append, List.length_take, e1, List.getElem?_drop]
      rw [Nat.add_sub_cancel' h2]

theorem goes_storeA {t : TypeId} {x y : Operand} {r g ix off sz : Nat} {xs : List V} {ti : TypeInfo} (n : Nat) (ho : lget ops.toList i = some o) (hg : o.guard = none) (hop : o.op = .store t x y) (hx : opd E x = .eptr (.abs r) g ix off)
    (hb : (Nat.beq (lcount (opd E y).cells 0) ti.size && onesB (opd E y).cells && V.pureL (opd E y).cells) = true) (ht : tyI c.P t = some ti) (hi : r ∉ c.imps) (hB : c.B r = some (.vec g sz xs)) (hl : ix < xs.length) (hoff : off + ti.size ≤ sz)
    (h : ∀ B' xs', xs'.length = xs.length → B' r = some (.vec g sz xs') → (∀ q, q ≠ r → B' q = c.B q) → putE c.nt o.dst (.tup []) E False fun E' => evp { c with B := B' } n (.inRegion ops rest :: k) E' T) :
    Goes c (.inRegion ops (i :: rest) :: k) E T := by
  rw [lget_eq, Array.getElem?_toList] at ho
  rw [lcount_eq] at hb
  simp only [Bool.and_eq_true, Nat.add_zero] at hb
  have hsz := Nat.eq_of_beq_eq_true hb.1.1
  refine goes_step fun w β H m a fb cs hs _ _ _ => ?_
  have hp := opd_rep hs x
  have hH : H[r]? = some (some (.vec g sz xs)) := hs.baseAt hi hB
  have hrm : r ∉ m := hs.notIn hB hi
  simp only [hx, V.conv, Ref.conv] at hp
  have hob := hs.hrel.obj r _ hH
  generalize hv : a.eval x = q at hp
  cases hp with
  | eptrStale _ _ _ _ g' sz' xs' _ hH' hg =>
    rw [hH] at hH'
    injection hH' with hH'
    injection hH' with hH'
    injection hH' with e0 _ _
    omega
  | eptrDead _ _ _ _ _ hd => rw [hH] at hd; cases hd
  | eptrLive _ _ _ _ sz' xs' b N hH' hβ hi' =>
  rw [hH] at hH'
  injection hH' with hH'
  injection hH' with hH'
  injection hH' with _ e1 e2
  subst e1 e2
  obtain ⟨x0, hx0⟩ : ∃ x0, xs[ix]? = some x0 := ⟨_, List.getElem?_eq_getElem hl⟩
  rw [hβ] at hob
  obtain ⟨vs, e, hty, hbk, hN, hle, hpos, hok, hc⟩ := hob
  have hy : Rep w β H ((opd E y).conv m) (a.eval y) := opd_rep hs y
  obtain ⟨hyl, hyc, hy1⟩ := rep_cells hy (by rw [cells_conv, onesB_conv]; exact hb.1.2)
  rw [cells_conv, pureL_conv _ _ hb.2] at hyl hyc
  obtain ⟨hx0l, hx0o⟩ := hok x0 (List.mem_of_getElem? hx0)
  obtain ⟨cs', ho'⟩ := over_has x0.cells (opd E y).cells off (by omega)
  have hixl := hl
  have hrow : ix * sz + sz ≤ vs.size := by
    have : (ix + 1) * sz ≤ xs.length * sz := Nat.mul_le_mul_right _ hixl
    rw [Nat.add_mul] at this
    omega
  have hofit : off + (opd E y).cells.length ≤ x0.cells.length := ho'.1
  have hfit : ix * sz + off + (a.eval y).cells.size ≤ vs.size := by omega
  have hrun := run_storeCells_at c.P b (ix * sz + off) e (a.eval y).cells.toList 0 vs w hbk (by simpa using hfit) hy1
  have hI := tyI_sound ht
  obtain ⟨vs', hvs'⟩ : ∃ vs', vs' = (vs.toList.take (ix * sz + off + 0) ++ (a.eval y).cells.toList ++ vs.toList.drop (ix * sz + off + 0 + (a.eval y).cells.toList.length)).toArray := ⟨_, rfl⟩
  rw [← hvs'] at hrun
  have hheap : (w.setRow b vs').heap[b]? = some (.cells vs' e (0, 0)) := setRow_heap w b vs _ e _ hbk
  have hother : ∀ q, q ≠ b → (w.setRow b vs').heap[q]? = w.heap[q]? := fun q hq => setRow_other w b q _ hq
  have hvsz : vs'.size = vs.size := by rw [hvs']; simp; omega
  have hget : ∀ j, vs'[j]? = if ix * sz + off ≤ j ∧ j < ix * sz + off + (a.eval y).cells.size then (a.eval y).cells[j - (ix * sz + off)]? else vs[j]? := by
    intro j
    rw [hvs']
    simp only [Nat.add_zero, Array.length_toList, List.getElem?_toArray]
    rcases Nat.lt_or_ge j (ix * sz + off) with h1 | h1
    · rw [if_neg (by omega), List.getElem?_append_left (by simp; omega), List.getElem?_append_left (by simp; omega), List.getElem?_take, if_pos h1]
      simp
    · rcases Nat.lt_or_ge j (ix * sz + off + (a.eval y).cells.size) with h2 | h2
      · rw [if_pos ⟨h1, h2⟩, List.getElem?_append_left (by simp; omega), List.getElem?_append_right (by simp; omega)]
        have : min (ix * sz + off) vs.size = ix * sz + off := by omega
        simp [this]
      · rw [if_neg (by omega), List.getElem?_append_right (by simp; omega)]
        have e1 : min (ix * sz + off) vs.size = ix * sz + off := by omega
        simp only [List.length_append, List.length_take, Array.length_toList, e1, List.getElem?_drop]
        rw [Nat.add_sub_cancel' h2]
        simp
  have hones : onesB cs' = true := by
    rw [onesB_iff]
    intro z hz
    obtain ⟨j, hj, rfl⟩ := List.mem_iff_getElem.1 hz
    have := ho'.2.2 j
    rw [List.getElem?_eq_getElem hj] at this
    split at this
    · exact (onesB_iff _).1 hb.1.2 _ (List.mem_of_getElem? this.symm)
    · exact (onesB_iff _).1 hx0o _ (List.mem_of_getElem? this.symm)
  have hcs' : cs'.length = sz := ho'.2.1.trans hx0l
  have hmk : (mkE x0 cs').cells = cs' := mkE_cells x0 cs' hones
  obtain ⟨xs', hxs'⟩ : ∃ xs', xs' = xs.set ix (mkE x0 cs') := ⟨_, rfl⟩
  have hxl : xs'.length = xs.length := by rw [hxs']; simp
  have hfr : Fr w β H (w.setRow b vs') β (H.set r (some (.vec g sz xs'))) := Fr.turn hH hβ ⟨Nat.le_refl _, fun _ => ⟨rfl, hxl.symm⟩⟩ rfl rfl rfl (by simp [World.setRow]) hother
  have hok' : ∀ x ∈ xs', okE sz x := fun x hx => by
    rw [hxs'] at hx
    rcases List.mem_or_eq_of_mem_set hx with h1 | h1
    · exact hok x h1
    · subst h1
      exact ⟨by rw [hmk]; exact hcs', by rw [hmk]; exact hones⟩
  have hrel : HRel (w.setRow b vs') β (H.set r (some (.vec g sz xs'))) := by
    refine hs.hrel.turn hH hβ ⟨Nat.le_refl _, fun _ => ⟨rfl, hxl.symm⟩⟩ rfl rfl rfl (by simp [World.setRow]) hother ⟨vs', e, hty, hheap, by omega, by rw [hxl]; omega, hpos, hok', fun i1 z j z1 u hi1 hj hu => ?_⟩
    refine Rep.mono ?_ hfr
    rw [hget] at hu
    have hzl := (hok' z (List.mem_of_getElem? hi1)).1
    have hjl := lt_of_get hj
    rw [hxs'] at hi1
    by_cases hii : i1 = ix
    · subst hii
      rw [List.getElem?_set_self hixl] at hi1
      injection hi1 with hi1
      subst hi1
      rw [hmk, ho'.2.2 j] at hj
      split at hj
      · rename_i hjj
        rw [if_pos (by omega)] at hu
        refine hyc (j - off) z1 u hj ?_
        rw [← hu]
        congr 1
        omega
      · rename_i hjj
        rw [if_neg (by omega)] at hu
        exact hc i1 x0 j z1 u hx0 hj hu
    · rw [List.getElem?_set_ne (fun e => hii e.symm)] at hi1
      have hne : ¬ (ix * sz + off ≤ i1 * sz + j ∧ i1 * sz + j < ix * sz + off + (a.eval y).cells.size) := by
        rintro ⟨q1, q2⟩
        rcases Nat.lt_or_gt_of_ne hii with h3 | h3
        · have : (i1 + 1) * sz ≤ ix * sz := Nat.mul_le_mul_right _ h3
          rw [Nat.add_mul] at this
          omega
        · have : (ix + 1) * sz ≤ i1 * sz := Nat.mul_le_mul_right _ h3
          rw [Nat.add_mul] at this
          omega
      rw [if_neg hne] at hu
      exact hc i1 z j z1 u hi1 hj hu
  obtain ⟨B', hB'⟩ : ∃ B' : Base, B' = fun q => if q = r then some (.vec g sz xs') else c.B q := ⟨_, rfl⟩
  have hBr : B' r = some (.vec g sz xs') := by rw [hB']; simp
  have hBn : ∀ q, q ≠ r → B' q = c.B q := fun q hq => by rw [hB']; simp [hq]
  have hrl := lt_of_get hH
  have hset : SRel c.imps c.nt (w.setRow b vs') β (H.set r (some (.vec g sz xs'))) m ⟨E, T, B', c.D⟩ a := by
    refine ⟨hrel, hs.size, fun k => (hs.env k).mono hfr, hs.mlen, hs.nodup, fun j q ob hj hob => ?_, hs.imp, fun q hq hqm => ?_, fun q hq => ?_, fun j q hj hq => ?_, hs.scE, hs.scT, hs.defs, hs.marks⟩
    · have hqr : q ≠ r := fun e => hrm (e ▸ List.mem_of_getElem? hj)
      rw [List.getElem?_set_ne (fun e => hqr e.symm)]
      exact hs.loc j q ob hj hob
    · simp only
      by_cases hqr : q = r
      · subst hqr
        rw [List.getElem?_set_self hrl, hBr]
      · rw [List.getElem?_set_ne (fun e => hqr e.symm), hBn q hqr]
        exact hs.base q (by simpa using hq) hqm
    · have hqr : q ≠ r := fun e => by subst e; simp at hq; omega
      simp only
      rw [hBn q hqr]
      exact hs.fut q (by simpa using hq)
    · have hqr : q ≠ r := fun e => hrm (e ▸ List.mem_of_getElem? hq)
      simp only
      rw [hBn q hqr]
      exact hs.own j q hj hq
  obtain ⟨E', hk, hd⟩ := (putE_some (h B' xs' hxl hBr hBn)).resolve_left id
  have hput := hset.putTo (d := o.dst) (x := .tup []) (v := Go.undef) (E' := E') (.tup [] #[] rfl fun j z u h1 _ => by simp at h1) hd
  refine ⟨w.setRow b vs', β, _, m, a.put o.dst Go.undef, _, ⟨E', T, B', c.D⟩, op_step (c := c) ho (wanted_none hg _) (fun cl e => by rw [hop] at e; cases e) (nx := .skip) ?_ (.inr ⟨rfl, rfl⟩), hput, hfr, evp_sound n _ _ _ _ hk⟩
  simp [execOp, hop, Instr.storeAt, Instr.sureAddr, hv, storeVar, run_sizeOf' hI, ← hsz, ← hyl, hrun]
end
end Bow
/- AE46: a nil slice in a cell of a box, as own memory; named results that say less. -/
namespace Bow
open Go

section
variable {c : Cx} {E : Env} {T : Heap}
theorem goes_nilCell {todo : List Item} (kb j sz : Nat) {cs : List V} (hk : lget T kb = some (some (.box cs))) (hj : cs[j]? = some .nilsl) (h : Goes c todo E (List.set (T ++ [some (HObj.vec 0 sz [])]) kb (some (HObj.box (cs.set j (.osl (.loc T.length) 0 0 0)))))) : Goes c todo E T := by
  rw [lget_eq] at hk
  refine goes_step fun w β H m a b cs0 hs _ _ _ => ?_
  obtain ⟨β', H', k1, k2, k3⟩ := hs.newNil 0 sz none
  have hk2 : (T ++ [some (HObj.vec 0 sz [])])[kb]? = some (some (.box cs)) := by rw [List.getElem?_append_left (lt_of_get hk)]; exact hk
  obtain ⟨r, hr, hH⟩ := k1.at hk2
  have hob := k1.hrel.obj r _ hH
  have hfr : Fr w β' H' w β' (H'.set r (some ((HObj.box (cs.set j (.osl (.loc T.length) 0 0 0))).conv (m ++ [H.length])))) := Fr.swap hH trivial
  have hrel : HRel w β' (H'.set r (some ((HObj.box (cs.set j (.osl (.loc T.length) 0 0 0))).conv (m ++ [H.length])))) := by
    refine k1.hrel.swap hH trivial ?_
    simp only [HObj.conv]
    cases hβ : β' r with
    | none => trivial
    | nil => rw [hβ] at hob; exact hob
    | blk bb N =>
      rw [hβ] at hob
      obtain ⟨vs, e, q1, q2, q3, q4⟩ := hob
      rw [V.convL_eq, List.length_map] at q3
      refine ⟨vs, e, q1, q2, by rw [V.convL_eq]; simpa using q3, fun i x v hi hv => ?_⟩
      rw [V.convL_eq, List.getElem?_map, Option.map_eq_some_iff] at hi
      obtain ⟨y, hy, rfl⟩ := hi
      by_cases hij : i = j
      · subst hij
        rw [List.getElem?_set_self (lt_of_get hj)] at hy
        injection hy with hy
        subst hy
        have h0 := q4 i .nilsl v (by rw [V.convL_eq, List.getElem?_map, hj]; rfl) hv
        cases h0
        exact k3.mono (by rw [← HObj.conv]; exact hfr)
      · rw [List.getElem?_set_ne (fun e => hij e.symm)] at hy
        exact (q4 i _ v (by rw [V.convL_eq, List.getElem?_map, hy]; rfl) hv).mono (by rw [← HObj.conv]; exact hfr)
  have hm : m.length = T.length := hs.mlen
  have hsc0 : (HObj.box cs).sc (m ++ [H.length]).length := by
    have h1 := k1.scT kb _ hk2
    have h2 : (m ++ [H.length]).length = (T ++ [some (HObj.vec 0 sz [])]).length := k1.mlen
    rw [h2]
    exact h1
  have hset := k1.setAt (o' := some (.box (cs.set j (.osl (.loc T.length) 0 0 0)))) (w' := w) hr (fun o1 e1 => by
      injection e1 with e1
      subst e1
      show V.scL _ _
      rw [V.scL_iff]
      have hsc' := (V.scL_iff _ _).1 hsc0
      intro v hv
      rcases List.mem_or_eq_of_mem_set hv with hv | hv
      · exact hsc' v hv
      · subst hv
        show T.length < (m ++ [H.length]).length
        simp only [List.length_append, List.length_singleton]
        omega)
    (fun hm => absurd hm (k1.notD hk2 (by simp))) hfr hrel
  exact ⟨w, β', _, m ++ [H.length], a, todo, ⟨E, _, c.B, c.D⟩, .refl _ _, hset, k2.trans hfr, h⟩
end

theorem funN_wk {P : Program} {g : FuncId} {args : List V} {Q : V → Base → Prop} (h : FunN P g args fun x N => ∃ y, Wk x y ∧ y.pureB = true ∧ Q y N) : FunN P g args Q := by
  unfold FunN at *
  refine ⟨h.1, fun w β H B vals cs hs hl hr => ?_⟩
  obtain ⟨x, N, v, w', β', H', fr, ⟨y, q1, q2, q3⟩, k1, k2, k3, k4, k5, k6⟩ := h.2 w β H B vals cs hs hl hr
  exact ⟨y, N, v, w', β', H', fr, q3, k1, k2, k3, q1 _ _ _ _ k4, q2, k6⟩
/-- One that leaves nothing behind. -/
theorem funN_of_pure {P : Program} {g : FuncId} {args : List V} {Q : V → Prop} (h : Pure P g args Q) (ha : V.pureL args = true) : FunN P g args fun x _ => Q x := by
  refine (funN_of_fun h ha fun x T' hq => by rw [hq.1]; rfl).mono fun x N => ?_
  rintro ⟨x', T', m', ⟨_, hp, hq⟩, rfl, _⟩
  rw [pure_conv _ _ hp]
  exact hq
end Bow
/- AE47: a function whose named memory nobody looks at any more. -/
namespace Bow
open Go

/-- Names let go. -/
theorem letGo {w : World} {β : Nat → Loc} {H : Heap} {B N : Base} (h : SRel [] 0 w β H [] ⟨[], [], B.add N, []⟩ bare) : ∃ H2, SRel [] 0 w β H2 [] ⟨[], [], B, []⟩ bare ∧ Fr w β H w β H2 := by
  have hH : ∀ q, q < H.length → H[q]? = some ((B.add N) q) := fun q hq => h.base q hq (by simp)
  obtain ⟨H2, hH2⟩ : ∃ H2 : Heap, H2 = (List.range H.length).map B := ⟨_, rfl⟩
  have hl : H2.length = H.length := by rw [hH2]; simp
  have hg : ∀ q, q < H.length → H2[q]? = some (B q) := fun q hq => by rw [hH2]; simp [hq]
  have hsub : ∀ q o, H2[q]? = some (some o) → H[q]? = some (some o) := fun q o hq => by
    have hlt : q < H.length := by rw [← hl]; exact lt_of_get hq
    rw [hg q hlt] at hq
    injection hq with hq
    rw [hH q hlt, Ext.add B N q o hq]
  have f : Fr w β H w β H2 := by
    refine ⟨⟨rfl, rfl, rfl, Nat.le_refl _, by rw [hl]; exact Nat.le_refl _, fun r o' _ ho => ⟨o', hsub r o' ho, Evo.refl _, fun _ _ => rfl⟩, fun _ _ _ => rfl, ?_, fun _ _ => rfl⟩, fun _ _ h => h⟩
    rintro b ⟨r, M, ⟨o, ho⟩, hb⟩
    exact .inr ⟨r, M, ⟨o, hsub r o ho⟩, hb⟩
  refine ⟨H2, ⟨?_, rfl, fun k => by simp [lk, V.conv]; exact .undef _, rfl, List.nodup_nil, by simp, rfl, fun r hr _ => ?_, fun r hr => ?_, by simp, by simp, by simp, rfl, by simp⟩, f⟩
  · refine h.hrel.step f (fun r o ho => .inl ⟨hsub r o ho, rfl, fun _ _ _ => rfl⟩) ?_
    rintro r r' b M M' ⟨o, ho⟩ ⟨o', ho'⟩ hb hb'
    exact h.hrel.inj r r' b M M' ⟨o, hsub r o ho⟩ ⟨o', hsub r' o' ho'⟩ hb hb'
  · exact hg r (by rw [← hl]; exact hr)
  · have h1 : (B.add N) r = none := h.fut r (by rw [← hl]; exact hr)
    show B r = none
    cases hb : B r with
    | none => rfl
    | some o => rw [Ext.add B N r o hb] at h1; cases h1
theorem pure_of_funN {P : Program} {g : FuncId} {args : List V} {Q : V → Prop} (h : FunN P g args fun x _ => Q x) (ha : V.pureL args = true) : Pure P g args Q := by
  unfold FunN at h
  unfold Pure Fun
  refine ⟨h.1, fun w β H m B vals cs hs hl hr => ?_⟩
  have hm : m = [] := List.length_eq_zero_iff.1 hs.mlen
  subst hm
  obtain ⟨x, N, v, w', β', H', fr, hq, hN, k1, k2, k3, k4, k5⟩ := h.2 w β H B vals cs hs hl (fun j x v hj hv => by
    have h1 := hr j x v hj hv
    rwa [pure_conv _ _ (pureL_mem _ ha x (List.mem_of_getElem? hj))] at h1)
  obtain ⟨H2, e1, e2⟩ := letGo k1
  exact ⟨x, [], v, w', β', H2, [], fr, ⟨rfl, k4, hq⟩, e1, k2.trans e2, by rw [pure_conv _ _ k4]; exact k3.mono e2, k5⟩
end Bow
/- AE48: ranges over functions that hold the ranging side's objects; arguments that say less. -/
namespace Bow
open Go

/-- From the ranging side: all that it holds is turned. The function is handed the name of the loop. -/
theorem call_rangedC {c : Cx} {g : FuncId} {first cap : List V} {kl : Nat} {E : Env} {T : Heap} {K : V → St → Prop} {Q : V → Heap → Prop} (hlive : allLive T = true) (hkl : kl < T.length)
    (hf : ∀ (m : List Nat), m.length = T.length → FunB c.P g m T (V.convL m (first ++ [.yld (.loc kl)] ++ cap)) Q)
    (h : ∀ x T', Q x T' → x.pureB = true → T'.length = T.length → (∀ k ∈ c.D, T'[k]? = some (some .dfr)) ∧ K x ⟨E, T', c.B, c.D⟩) : CallThen c g (first ++ [.yld (.loc kl)] ++ cap) E T K := by
  have hen : Enterable c.P g := by
    have h0 := hf (List.replicate T.length 0) (by simp)
    unfold FunB at h0
    exact h0.1
  unfold CallThen
  refine ⟨hen, fun w β H m a vals cs hs hl hr => ?_⟩
  have hml : m.length = T.length := hs.mlen
  have hff := hf m hml
  unfold FunB at hff
  have hs0 : SRel [] 0 w β H [] ⟨[], [], fun r => (H[r]?).getD none, []⟩ bare := by
    refine ⟨hs.hrel, rfl, fun k => by simp [lk, V.conv]; exact .undef _, rfl, List.nodup_nil, by simp, rfl, fun r h _ => ?_, fun r h1 => ?_, by simp, by simp, by simp, rfl, by simp⟩
    · simp [h]
    · simp [List.getElem?_eq_none h1]
  have hout0 : Out m T (fun r => (H[r]?).getD none) := ⟨hml, hs.nodup, fun k r hk => by
    have hkT : k < T.length := by have := lt_of_get hk; omega
    have e := List.getElem?_eq_getElem hkT
    obtain ⟨ob, hob⟩ := allLive_get hlive k _ e
    rw [hob] at e
    have hH := hs.loc k r _ hk e
    refine ⟨ob, e, by simp [hH], ?_⟩
    rw [hml]
    exact hs.scT k ob e⟩
  obtain ⟨x, T', v, w', β', H', B', fr, hq, k1, k2, k3, k4, k5, k6, k7, k8, k9⟩ := hff.2 w β H _ vals cs hs0 hout0 (by rw [← hl, V.convL_eq]; simp) (fun j x v hj hv => by
    rw [V.convL_eq, List.getElem?_map, Option.map_eq_some_iff] at hj
    obtain ⟨y, hj, rfl⟩ := hj
    exact hr j y v hj hv)
  have hH' : ∀ q, q < H'.length → H'[q]? = some (B' q) := fun q hq => k1.base q hq (by simp)
  have hlen := k4.len
  have hTl : T'.length = T.length := by rw [← k2.len, hml]
  obtain ⟨hD, hk⟩ := h x T' hq k6 hTl
  have hloc' : ∀ (k r : Nat) (o : Option HObj), m[k]? = some r → T'[k]? = some o → H'[r]? = some (o.map (HObj.conv m)) := fun k r o hk ho => by
    obtain ⟨ob, e1, e2, _⟩ := k2.at_ k r hk
    rw [e1] at ho
    injection ho with ho
    subst ho
    rw [hH' r (Nat.lt_of_lt_of_le (hs.lt hk) hlen), e2]
    rfl
  refine ⟨x, _, v, w', β', H', m, fr, hk, ?_, k4, by rw [pure_conv _ _ k6]; exact k5, k7, k8, k9, List.prefix_refl _⟩
  refine ⟨k1.hrel, hs.size, fun k => (hs.env k).mono k4, by rw [hTl]; exact hml, hs.nodup, hloc', hs.imp, fun q hq hqm => ?_, fun q hq => hs.fut q (Nat.le_trans hlen hq), hs.own, fun p hp => by simp only; rw [hTl]; exact hs.scE p hp, fun k o ho => ?_, hs.defs, ?_⟩
  · rw [hH' q hq, k3 q hqm]
    rcases Nat.lt_or_ge q H.length with h1 | h1
    · have := hs.base q h1 hqm
      rw [this]
      rfl
    · have e0 : c.B q = none := hs.fut q h1
      simp only
      rw [e0, List.getElem?_eq_none h1]
      rfl
  · have hkm : k < m.length := by have := lt_of_get ho; simp only at this; omega
    obtain ⟨ob, e1, _, e3⟩ := k2.at_ k m[k] (List.getElem?_eq_getElem hkm)
    simp only at ho ⊢
    rw [e1] at ho
    injection ho with ho
    injection ho with ho
    subst ho
    rw [hTl, ← hml]
    exact e3
  · intro j q hj
    obtain ⟨r', b', N', e1, e2, e3, e4⟩ := hs.marks j q hj
    have hT' := hD q (List.mem_of_getElem? hj)
    refine ⟨r', b', N', e1, hT', ?_, e4⟩
    refine dfr_stays k4 (by simpa [HObj.conv] using hs.loc q r' _ e1 e2) e3 ?_
    simpa [HObj.conv] using hloc' q r' _ e1 hT'


/-- A range of one round, over a function that holds the ranging side's objects. -/
theorem goes_range1 {c : Cx} {f : Operand} {ps : Array Tmp} {assign body : Code} {k : List Item} {E : Env} {T pre' : Heap} {g : FuncId} {first cap y : List V} (n L : Nat)
    (hro : c.ro = none) (hf : opd E f = .fn (.func g) first cap) (hL : T.length = L) (hL' : pre'.length = L) (hlive : allLive T = true) (hlive' : allLive pre' = true)
    (hps : ps.size = y.length) (hpl : ps.toList.all (Nat.blt · c.nt) = true) (hy : V.pureL y = true) (hD : ∀ k ∈ c.D, pre'[k]? = some (some .dfr))
    (hit : ∀ m : List Nat, m.length = L + 2 → (∃ ob, (rHeap c E ps assign body T .ready none)[L + 1]? = some (some ob) ∧ isLoop ob) → YieldOk c.P (rHeap c E ps assign body T .ready none) (L + 1) y true (rHeap c E ps assign body pre' .ready none) →
      FunB c.P g m (rHeap c E ps assign body T .ready none) (V.convL m (first ++ [.yld (.loc (L + 1))] ++ cap)) (fun _ T'' => T'' = rHeap c E ps assign body pre' .ready none))
    (step : ∀ (imps : List Nat) (B : Base) (r l : Nat), imps.length = L + 2 → imps[L + 1]? = some r →
      evp (roundX c E ps assign body imps B r l L pre' none) n [.code assign, .beginRound, .code body] (psEnv ps.toList y E) (rHeap c E ps assign body T .ready none))
    (K : evp { c with D := L :: c.D } n k E (rHeap c E ps assign body pre' .exhausted none)) :
    Goes c (.code (.rangeFunc f ps assign body) :: k) E T := by
  refine goes_rangeFunc n hro hf ?_
  rw [hL]
  have hR := round_yield n hL hL' hps hpl hy hlive' step
  have hT : T ++ [some HObj.dfr] ++ [some (.loop .ready none c.fn E c.nt ps assign body)] = rHeap c E ps assign body T .ready none := rfl
  rw [hT]
  refine call_rangedC (c := { c with D := L :: c.D }) (rHeap_live hlive) (by rw [rHeap_len, hL]; omega) (fun m hm => hit m (by rw [hm, rHeap_len, hL]) ⟨_, rHeap_loop hL, trivial⟩ hR) ?_
  rintro x T' rfl _ _
  refine ⟨fun q hq => ?_, ?_⟩
  · rcases List.mem_cons.1 hq with rfl | hq
    · exact rHeap_dfr hL'
    · have h1 := hD q hq
      rw [rHeap_pre (lt_of_get h1)]
      exact h1
  · unfold loopEnd
    rw [lget_eq, rHeap_loop hL']
    simp only
    refine ⟨trivial, ?_⟩
    rw [lset_eq, rHeap_set hL']
    exact K

/-- Arguments that say less, at a call. -/
def WkA : List V → List V → Prop
  | [], [] => True
  | x :: xs, y :: ys => (x = y ∨ (x.pureB = true ∧ y.pureB = true ∧ Wk x y)) ∧ WkA xs ys
  | _, _ => False
theorem WkA.get : ∀ {xs ys : List V}, WkA xs ys → xs.length = ys.length ∧ ∀ (j : Nat) (y : V), ys[j]? = some y → ∃ x, xs[j]? = some x ∧ (x = y ∨ (x.pureB = true ∧ y.pureB = true ∧ Wk x y))
  | [], [], _ => ⟨rfl, fun j y h => by simp at h⟩
  | x :: xs, y :: ys, h => by
    obtain ⟨h1, h2⟩ := WkA.get h.2
    refine ⟨by simp [h1], fun j z hz => ?_⟩
    cases j with
    | zero => simp at hz; subst hz; exact ⟨x, rfl, h.1⟩
    | succ j => simpa using h2 j z (by simpa using hz)
  | [], _ :: _, h => h.elim
  | _ :: _, [], h => h.elim
theorem call_wk {c : Cx} {g : FuncId} {args args' : List V} {E : Env} {T : Heap} {K : V → St → Prop} (hw : WkA args args') (h : CallThen c g args' E T K) : CallThen c g args E T K := by
  unfold CallThen at *
  obtain ⟨hl, hg⟩ := hw.get
  refine ⟨h.1, fun w β H m a vals cs hs hlen hr => h.2 w β H m a vals cs hs (by omega) fun j y v hj hv => ?_⟩
  obtain ⟨x, hx, hxy⟩ := hg j y hj
  have h1 := hr j x v hx hv
  rcases hxy with rfl | ⟨p1, p2, hw⟩
  · exact h1
  · rw [pure_conv _ _ p1] at h1
    rw [pure_conv _ _ p2]
    exact hw _ _ _ _ h1
end Bow
/- W81: a stack that is not there; light; undo's bare, New, Len, Pop, Push. -/
namespace Bow
open Go Go.Proofs

set_option maxRecDepth 100000 in
theorem w_ClearNil : Pure Try.prog 35 [.nilp] (fun x => x = .tup []) := by
  refine pure_fn 40 Try.func35 rfl rfl rfl fun B => ?_
  show Goes _ _ _ _
  refine goes_nilneP 40 rfl rfl rfl rfl rfl ?_
  exact ⟨trivial, rfl, rfl, rfl, rfl⟩
set_option maxRecDepth 100000 in
theorem w_LenNil : Pure Try.prog 39 [.nilp] (fun x => x = .int .i64 0) := by
  refine pure_fn 40 Try.func39 rfl rfl rfl fun B => ?_
  show Goes _ _ _ _
  refine goes_nileqP 40 rfl rfl rfl rfl rfl ?_
  exact ⟨trivial, rfl, rfl, rfl, rfl⟩
set_option maxRecDepth 100000 in
theorem w_PopNil : Pure Try.prog 36 [.nilp] (fun x => x = .tup [opsV [], .ff]) := by
  refine pure_wk (pure_fn 40 Try.func36 rfl rfl rfl fun B => ?_)
  show CallThen _ _ _ _ _ _
  refine call_pure w_LenNil rfl ?_
  rintro x rfl
  refine ⟨fun _ => go 40 ?_, fun h => absurd h (by decide)⟩
  exact ⟨trivial, rfl, rfl, rfl, .tup [opsV [], .ff], Wk.tup ⟨Wk.nil 11, .refl _, trivial⟩, rfl, rfl⟩
set_option maxRecDepth 100000 in
theorem w_PushNil (l : List OpT) : Pure Try.prog 37 [.nilp, opsV l] (fun x => x = .int .i64 1) := by
  refine pure_fn 40 Try.func37 rfl rfl rfl fun B => ?_
  show Goes _ _ _ _
  refine goes_nileqP 40 rfl rfl rfl rfl rfl ?_
  exact ⟨trivial, rfl, rfl, rfl, rfl⟩
set_option maxRecDepth 100000 in
theorem w_ThroughNil (l : List OpT) (b : V) (hb : b = .tt ∨ b = .ff) : Pure Try.prog 38 [.nilp, opsV l, b] (fun x => x = .int .i64 1) := by
  rcases hb with rfl | rfl
  · refine pure_fn 40 Try.func38 rfl rfl rfl fun B => ?_
    show Goes _ _ _ _
    refine goes_nileqP 40 rfl rfl rfl rfl rfl ?_
    exact ⟨trivial, rfl, rfl, rfl, rfl⟩
  · refine pure_fn 40 Try.func38 rfl rfl rfl fun B => ?_
    show Goes _ _ _ _
    refine goes_nileqP 40 rfl rfl rfl rfl rfl ?_
    exact ⟨trivial, rfl, rfl, rfl, rfl⟩

set_option maxRecDepth 100000 in
theorem w_light23 (l : List OpT) : Pure Try.prog 33 [opsV l] (fun x => ∃ b : Bool, x = .bool b) := by
  refine pure_wk (pure_fn 60 Try.func33 rfl rfl rfl fun B => ?_)
  show CallThen _ _ _ _ _ _
  refine call_pure (w_LightList l 3 40 (by decide) (by decide)) rfl ?_
  rintro x ⟨b, rfl, hb⟩
  refine ⟨fun g => go 60 ?_, fun g => go 60 ?_⟩
  · exact ⟨trivial, rfl, rfl, rfl, .bool false, Wk.ff, rfl, false, rfl⟩
  have hl := hb (by simpa using g)
  have hlen := hl.len
  show Goes _ _ _ _
  refine goes_iter (ι := Nat) (fun i => i ≤ l.length) (fun i => l.length - i) (fun i => [(3, .int .i64 i), (0, opsV l)]) (fun _ => []) 0 60 (fun _ => rfl) (fun _ => rfl) ⟨Nat.zero_le _, ⟨⟨rfl, rfl⟩, ⟨rfl, rfl⟩, trivial⟩, trivial⟩ ?_
  rintro i k1 next
  refine ⟨fun hlt => go 60 ?_, fun hge => go 60 ?_⟩
  · have hi : i < l.length := by simpa using hlt
    have hp := (hl.ops _ (List.getElem_mem hi)).1.pieces
    refine ⟨Int.natCast_nonneg i, _, op_at hi, ?_⟩
    show CallThen _ _ _ _ _ _
    refine call_pure (w_Small l[i].pieces 60 (by omega) (by decide)) rfl ?_
    rintro x ⟨s, rfl⟩
    refine ⟨fun g => go 60 ?_, fun g => go 60 ?_⟩
    · exact ⟨trivial, rfl, rfl, rfl, .bool false, Wk.ff, rfl, false, rfl⟩
    refine ⟨by constructor <;> omega, ?_⟩
    show Goes _ _ _ _
    exact next (i + 1) _ _ ⟨hi, by omega, ⟨⟨rfl, rfl⟩, ⟨rfl, rfl⟩, trivial⟩, trivial⟩
  · exact ⟨trivial, rfl, rfl, rfl, .bool true, Wk.tt, rfl, true, rfl⟩

set_option maxRecDepth 100000 in
theorem w_ubare (l : List OpT) (hl : l.length ≤ 1000000) (hok : ∀ o ∈ l, o.Lt 1000000) : Pure Try.prog 58 [opsV l] (fun x => x = opsV (bareL l)) := by
  refine pure_wk (pure_fn 60 Try.func58 rfl rfl rfl fun B => ?_)
  show Goes _ _ _ _
  refine goes_own 3 11 rfl ?_
  refine goes_iter (ι := Nat × Nat) (fun i => i.1 ≤ l.length) (fun i => l.length - i.1) (fun i => [(8, .int .i64 i.1), (7, .int .i64 (l.map opV).length), (6, opsV l), (3, .osl (.loc 0) i.2 0 i.1)]) (fun i => [some (.vec i.2 11 ((bareL (l.take i.1)).map opV))]) (0, 0) 60 (fun _ => rfl) (fun _ => rfl) ⟨Nat.zero_le _, ⟨⟨rfl, rfl⟩, ⟨rfl, rfl⟩, ⟨rfl, rfl⟩, ⟨rfl, rfl⟩, trivial⟩, ⟨⟨rfl, rfl⟩, trivial⟩⟩ ?_
  rintro ⟨i, g⟩ k1 next
  simp only at k1
  have hbl : (bareL (l.take i)).length = i := by simp [bareL]; omega
  refine ⟨fun hlt => go 60 ?_, fun hge => go 60 ?_⟩
  · have hi : i < l.length := by simpa using hlt
    have hx : (l.map opV)[i]? = some (opV l[i]) := by simp [hi]
    refine ⟨Int.natCast_nonneg i, _, hx, ?_⟩
    show CallThen _ _ _ _ _ _
    refine call_pure (w_Bare l[i] (hok _ (List.getElem_mem hi))) rfl ?_
    rintro x rfl
    refine ⟨⟨rfl, trivial⟩, rfl, rfl, rfl, (by rw [List.length_map]; exact hbl.symm), Nat.le_trans (Nat.mul_le_mul_right _ (show _ ≤ 1000001 by rw [List.length_map, hbl]; simp only [List.length_cons, List.length_nil]; omega)) (by decide), ?_⟩
    refine ⟨by constructor <;> omega, ?_⟩
    show Goes _ _ _ _
    have e : (bareL (l.take (i + 1))).map opV = (bareL (l.take i)).map opV ++ [opV (bareO l[i])] := by
      rw [List.take_succ_eq_append_getElem hi]
      simp only [bareL, List.map_append, List.map_cons, List.map_nil]
    refine next (i + 1, bump g) _ _ ⟨hi, by simp only; omega, ⟨⟨rfl, rfl⟩, ⟨rfl, rfl⟩, ⟨rfl, rfl⟩, ⟨?_, rfl⟩, trivial⟩, ⟨⟨?_, rfl⟩, trivial⟩⟩
    · simp only [lk]
      exact congrArg (V.osl _ _ _) (by rw [List.length_map, hbl]; rfl)
    · exact congrArg (fun z => some (HObj.vec (bump g) 11 z)) e.symm
  · have hi : i = l.length := by have : l.length ≤ i := by simpa using hge
                                 omega
    subst hi
    refine ⟨trivial, rfl, rfl, rfl, by simp [bareL], rfl, opsV (bareL l), ?_, rfl, rfl⟩
    show Wk (.sl 11 ((bareL (l.take l.length)).map opV)) _
    rw [List.take_length]
    exact .refl _

/-! ### A stack: a box that holds a slice of lists, and that slice's block -/
set_option maxRecDepth 100000 in
theorem w_New : Fun Try.prog 57 [] [] (fun x T' => x = .ptr (.loc 0) 0 ∧ T' = [some (.box [.osl (.loc 1) 0 0 0]), some (.vec 0 1 [])]) := by
  refine fun_fn 8 Try.func57 rfl rfl rfl fun imps B hi => ?_
  show Goes _ _ _ _
  refine goes_ownBox 0 1 rfl ?_
  refine go 40 ?_
  exact ⟨trivial, rfl, rfl, rfl, rfl⟩
set_option maxRecDepth 100000 in
theorem w_Len (g n : Nat) (xs : List V) : Fun Try.prog 39 [some (.box [.osl (.loc 1) g 0 n]), some (.vec g 1 xs)] [.ptr (.loc 0) 0] (fun x T' => x = .int .i64 n ∧ T' = [some (.box [.osl (.loc 1) g 0 n]), some (.vec g 1 xs)]) := by
  refine fun_fn 40 Try.func39 rfl rfl rfl fun imps B hi => ?_
  show Goes _ _ _ _
  refine goes_ptrP 40 rfl rfl rfl rfl rfl rfl ?_
  exact ⟨rfl, trivial, rfl, rfl, rfl, rfl⟩
set_option maxRecDepth 100000 in
theorem w_Pop (g : Nat) (l : List OpT) : Fun Try.prog 36 [some (.box [.osl (.loc 1) g 0 1]), some (.vec g 1 [opsV l])] [.ptr (.loc 0) 0] (fun x T' => x = .tup [opsV l, .tt] ∧ T' = [some (.box [.osl (.loc 1) (bump g) 0 0]), some (.vec (bump g) 1 [])]) := by
  refine fun_fn 40 Try.func36 rfl rfl rfl fun imps B hi => ?_
  show CallThen _ _ _ _ _ _
  refine call_sub [0, 1] (w_Len g 1 [opsV l]) rfl rfl ⟨⟨rfl, rfl⟩, ⟨rfl, rfl⟩, trivial⟩ rfl rfl rfl ?_
  rintro x T1 ⟨rfl, rfl⟩
  refine ⟨rfl, ?_⟩
  refine ⟨fun h => absurd h (by decide), fun _ => go 40 ?_⟩
  refine ⟨rfl, ⟨by decide, by decide⟩, ?_⟩
  refine ⟨rfl, by decide, by decide, rfl, _, rfl, ?_⟩
  show Goes _ _ _ _
  refine goes_cut 40 (h := 0) rfl rfl rfl rfl rfl rfl rfl rfl (Nat.zero_le _) ?_
  exact ⟨trivial, rfl, rfl, rfl, rfl⟩
set_option maxRecDepth 100000 in
theorem w_Push (g : Nat) (l : List OpT) (hl : l.length ≤ 1000000) (hok : ∀ o ∈ l, o.Lt 1000000) : Fun Try.prog 37 [some (.box [.osl (.loc 1) g 0 0]), some (.vec g 1 [])] [.ptr (.loc 0) 0, opsV l] (fun x T' => x = .int .i64 0 ∧ T' = [some (.box [.osl (.loc 1) (bump g) 0 1]), some (.vec (bump g) 1 [opsV (bareL l)])]) := by
  refine fun_keep 2 rfl (fun_fn 40 Try.func37 rfl rfl rfl fun imps B hi => ?_)
  show Goes _ _ _ _
  refine goes_ptrP 40 rfl rfl rfl rfl rfl rfl ?_
  show Goes _ _ _ _
  refine goes_draw 40 ?_
  refine ⟨_, w_ubare l hl hok, rfl, ?_⟩
  refine ⟨rfl, ⟨rfl, trivial⟩, rfl, rfl, rfl, rfl, rfl, Nat.le_trans (Nat.mul_le_mul_right _ (show _ ≤ 1 from Nat.le_refl _)) (by decide), ?_⟩
  refine ⟨by kernel_rfl, ?_⟩
  refine ⟨rfl, fun h => absurd (show decide ((64 : Int) < 1) = true from h) (by decide), fun _ => go 40 ?_⟩
  exact ⟨trivial, rfl, rfl, [some (.box [.osl (.loc 1) (bump g) 0 1]), some (.vec (bump g) 1 [opsV (bareL l)])], rfl, rfl, ⟨⟨rfl, rfl⟩, ⟨rfl, rfl⟩, trivial⟩, rfl, rfl⟩
end Bow
/- W82: slices.Backward over a list of one; undo's Through, of a stack of one. -/
namespace Bow
open Go Go.Proofs

set_option maxRecDepth 100000 in
theorem w_Backward (g n : Nat) (xs : List V) : Fun Try.prog 60 [some (.vec g 1 xs)] [.osl (.loc 0) g 0 n] (fun x T' => x = .fn (.func 91) [] [.ptr (.loc 1) 0] ∧ T' = [some (.vec g 1 xs), some (.box [.osl (.loc 0) g 0 n])]) := by
  refine fun_fn 40 Try.func60 rfl rfl rfl fun imps B hi => ?_
  exact ⟨trivial, rfl, rfl, rfl, rfl⟩

set_option maxRecDepth 100000 in
theorem w_back1 (m : List Nat) (r rb rv kl kb kv g : Nat) (T T' : Heap) (l : List OpT) (hr : m[kl]? = some r) (hb : m[kb]? = some rb) (hv : m[kv]? = some rv) (hT : T[kb]? = some (some (.box [.osl (.loc kv) g 0 1]))) (hTv : T[kv]? = some (some (.vec g 1 [opsV l])))
    (hlp : ∃ ob, T[kl]? = some (some ob) ∧ isLoop ob) (hy : YieldOk Try.prog T kl [.int .i64 0, opsV l] true T') :
    FunB Try.prog 91 m T [.yld (.abs r), .ptr (.abs rb) 0] (fun _ T'' => T'' = T') := by
  refine funB_of_goes 40 Try.func91 rfl rfl rfl fun B hout => ?_
  have hBb : B rb = some (.box [.osl (.abs rv) g 0 1]) := by
    obtain ⟨o, e1, e2, _⟩ := hout.at_ kb rb hb
    rw [hT] at e1
    injection e1 with e1
    injection e1 with e1
    subst e1
    simpa [HObj.conv, V.convL, V.conv, Ref.conv, hv] using e2
  have hBv : B rv = some (.vec g 1 [opsV l]) := by
    obtain ⟨o, e1, e2, _⟩ := hout.at_ kv rv hv
    rw [hTv] at e1
    injection e1 with e1
    injection e1 with e1
    subst e1
    exact e2
  refine ⟨by simp, _, hBb, ?_⟩
  show Goes _ _ _ _
  refine goes_lenA 40 rfl rfl rfl rfl rfl (by simp) hBv ?_
  refine ⟨⟨by decide, by decide⟩, ?_⟩
  show Goes _ _ _ _
  refine goes_loop ?_
  refine go 40 ?_
  refine ⟨fun _ => go 40 ?_, fun h => absurd h (by decide)⟩
  refine ⟨by simp, _, hBb, ?_⟩
  show Goes _ _ _ _
  refine goes_indexA 40 rfl rfl rfl rfl rfl rfl rfl rfl (by simp) hBv (by decide) (by decide) ?_
  show Goes _ _ _ _
  refine goes_loadA 40 rfl rfl rfl rfl (by simp) hBv rfl ?_
  show Goes _ _ _ _
  refine goes_yield 40 rfl rfl rfl rfl rfl hout hr hlp rfl hy ?_
  intro B' hout' hB'
  refine ⟨⟨by decide, by decide⟩, ?_⟩
  show Goes _ _ _ _
  refine goes_inLoop ?_
  refine go 40 ?_
  refine ⟨fun h => absurd h (by decide), fun _ => go 40 ?_⟩
  exact ⟨trivial, rfl, hB', _, hout', rfl, rfl⟩

theorem w_back1C (m : List Nat) (kl kb kv g : Nat) (T T' : Heap) (l : List OpT) (h1 : kl < m.length) (h2 : kb < m.length) (h3 : kv < m.length) (hT : T[kb]? = some (some (.box [.osl (.loc kv) g 0 1]))) (hTv : T[kv]? = some (some (.vec g 1 [opsV l])))
    (hlp : ∃ ob, T[kl]? = some (some ob) ∧ isLoop ob) (hy : YieldOk Try.prog T kl [.int .i64 0, opsV l] true T') :
    FunB Try.prog 91 m T (V.convL m [.yld (.loc kl), .ptr (.loc kb) 0]) (fun _ T'' => T'' = T') := by
  have e : V.convL m [.yld (.loc kl), .ptr (.loc kb) 0] = [.yld (.abs m[kl]), .ptr (.abs m[kb]) 0] := by
    simp only [V.convL, V.conv, Ref.conv, List.getElem?_eq_getElem h1, List.getElem?_eq_getElem h2]
  rw [e]
  exact w_back1 m m[kl] m[kb] m[kv] kl kb kv g T T' l (List.getElem?_eq_getElem h1) (List.getElem?_eq_getElem h2) (List.getElem?_eq_getElem h3) hT hTv hlp hy

set_option maxHeartbeats 2000000 in
set_option maxRecDepth 100000 in
theorem w_Through (g : Nat) (l bs X Y : List OpT) (ol : OkL l) (ob : OkL bs) (hlen : l.length + bs.length ≤ 1000000) (hR : listsX true l bs = (X, Y, 0)) :
    Fun Try.prog 38 [some (.box [.osl (.loc 1) g 0 1]), some (.vec g 1 [opsV l])] [.ptr (.loc 0) 0, opsV bs, .tt] (fun x T' => x = .int .i64 0 ∧ T' = [some (.box [.osl (.loc 1) g 0 1]), some (.vec g 1 [opsV X])]) := by
  have cb := pure_args (args := [opsV l, opsV bs, .tt]) (w_listsBoth l bs true ol ob hlen) ⟨.refl _, .refl _, Wk.tt, trivial⟩ rfl rfl
  rw [hR] at cb
  clear hR ol ob
  refine fun_keep 2 rfl (fun_fn 40 Try.func38 rfl rfl rfl fun imps B hi => ?_)
  show Goes _ _ _ _
  refine goes_ptrP 40 rfl rfl rfl rfl rfl rfl ?_
  show CallThen _ _ _ _ _ _
  refine call_sub [1] (w_Backward g 1 [opsV l]) rfl rfl ⟨⟨rfl, rfl⟩, trivial⟩ rfl rfl rfl ?_
  rintro x T1 ⟨rfl, rfl⟩
  refine ⟨rfl, ?_⟩
  show Goes _ _ _ _
  refine goes_range1 40 7 (pre' := [some (.box [.osl (.loc 1) g 0 1]), some (.vec g 1 [opsV X]), some (.box [.ptr (.loc 0) 0]), some (.box [opsV Y]), some (.box [.tt]), some (.box [.int .i64 0]), some (.box [.osl (.loc 1) g 0 1])]) (y := [.int .i64 0, opsV l]) rfl rfl rfl rfl rfl rfl rfl rfl rfl (fun k hk => by cases hk) ?_ ?_ ?_
  · intro m hm hlp hy
    exact w_back1C m 8 6 1 g _ _ l (by omega) (by omega) (by omega) rfl rfl hlp hy
  · intro imps B r l' h1 h2
    show Goes _ _ _ _
    refine goes_beginRound 40 rfl h2 rfl ?_
    show Goes _ _ _ _
    refine goes_draw 40 ?_
    refine ⟨rfl, by decide, by decide, rfl, _, rfl, _, cb, rfl, rfl, by decide, by decide, rfl, _, rfl, ?_⟩
    refine ⟨by kernel_rfl, ?_⟩
    refine ⟨fun h => absurd rfl (ne_of' h), fun _ => go 40 ?_⟩
    exact ⟨rfl, rfl, trivial, ⟨⟨rfl, rfl⟩, ⟨rfl, rfl⟩, ⟨rfl, rfl⟩, ⟨rfl, rfl⟩, ⟨rfl, rfl⟩, ⟨rfl, rfl⟩, ⟨rfl, rfl⟩, ⟨rfl, rfl⟩, ⟨rfl, rfl⟩, trivial⟩⟩
  · exact ⟨trivial, rfl, rfl, [some (.box [.osl (.loc 1) g 0 1]), some (.vec g 1 [opsV X])], rfl, rfl, ⟨⟨rfl, rfl⟩, ⟨rfl, rfl⟩, trivial⟩, rfl, rfl⟩
end Bow
/- W83: the chapter's examples of undo; the law UndoNone, walked. -/
namespace Bow
open Go Go.Proofs

def relO : OpT := { noOp 5 with path := [0], label := [97] }
def insO : OpT := noOp 1
def delO : OpT := { noOp 2 with path := [0] }
theorem undo_r1 : listsX true (bareL [relO]) [insO] = ([{ noOp 5 with path := [1], label := [97] }], [noOp 1], 0) := by
  have e : bringX true (bareL [relO]) [insO] = ([{ noOp 5 with path := [1], label := [97] }], [noOp 1], 0) := bringX_eq (n := 9) (by kernel_rfl)
  unfold listsX
  rw [e]
  rfl
theorem undo_r2 : listsX true (bareL [relO]) [delO] = ([], [delO], 0) := by
  have e : bringX true (bareL [relO]) [delO] = ([], [delO], 0) := bringX_eq (n := 9) (by kernel_rfl)
  unfold listsX
  rw [e]
  rfl
theorem okL1 {o : OpT} (h : decide (o.path.length ≤ 10 ∧ o.to.length ≤ 10 ∧ o.label.length ≤ 10 ∧ o.key.length ≤ 10 ∧ o.value.length ≤ 10 ∧ o.pieces = []) = true) : OkL [o] := by
  obtain ⟨h1, h2, h3, h4, h5, h6⟩ := of_decide_eq_true h
  intro o' ho
  rw [List.mem_singleton.1 ho]
  exact ⟨⟨⟨by omega, by omega, by omega, by omega, by omega, by rw [h6]; exact Nat.zero_le _⟩, by rw [h6]; exact Nat.zero_le _⟩, by omega⟩
theorem wk_relO : Wk (.sl 11 [.agg [.int .u8 5, .sl 1 [.int .i64 0], .int .i64 0, .nilsl, .int .u64 0, .ff, .str [97], .str [], .str [], .ff, .nilsl]]) (opsV [relO]) :=
  Wk.sl ⟨⟨⟨.refl _, .refl _, .refl _, Wk.nil 1, .refl _, Wk.ff, .refl _, .refl _, .refl _, Wk.ff, Wk.nil 3, trivial⟩, rfl, rfl⟩, trivial⟩
theorem wk_insO : Wk (.sl 11 [.agg [.int .u8 1, .nilsl, .int .i64 0, .nilsl, .int .u64 0, .ff, .str [], .str [], .str [], .ff, .nilsl]]) (opsV [insO]) :=
  Wk.sl ⟨⟨⟨.refl _, Wk.nil 1, .refl _, Wk.nil 1, .refl _, Wk.ff, .refl _, .refl _, .refl _, Wk.ff, Wk.nil 3, trivial⟩, rfl, rfl⟩, trivial⟩
theorem wk_delO : Wk (.sl 11 [.agg [.int .u8 2, .sl 1 [.int .i64 0], .int .i64 0, .nilsl, .int .u64 0, .ff, .str [], .str [], .str [], .ff, .nilsl]]) (opsV [delO]) :=
  Wk.sl ⟨⟨⟨.refl _, .refl _, .refl _, Wk.nil 1, .refl _, Wk.ff, .refl _, .refl _, .refl _, Wk.ff, Wk.nil 3, trivial⟩, rfl, rfl⟩, trivial⟩

set_option maxHeartbeats 4000000 in
set_option maxRecDepth 100000 in
theorem w_works23 : Pure Try.prog 34 [] (fun x => x = .bool true) := by
  have o1 : OkL [relO] := okL1 (by decide)
  have o2 : OkL [insO] := okL1 (by decide)
  have o3 : OkL [delO] := okL1 (by decide)
  have l1 : ∀ o ∈ [relO], o.Lt 1000000 := fun o ho => (o1 o ho).1.lt
  have p1 := w_Push 0 [relO] (by decide) l1
  have t1 := w_Through (bump 0) (bareL [relO]) [insO] _ _ (bareL_okL o1) o2 (by decide) undo_r1
  have q1 := w_Pop (bump 0) [{ noOp 5 with path := [1], label := [97] }]
  have p2 := w_Push (bump (bump 0)) [relO] (by decide) l1
  have t2 := w_Through (bump (bump (bump 0))) (bareL [relO]) [delO] _ _ (bareL_okL o1) o3 (by decide) undo_r2
  have q2 := w_Pop (bump (bump (bump 0))) []
  have n2 := w_Len (bump (bump (bump (bump 0)))) 0 []
  refine pure_wk (pure_fn 60 Try.func34 rfl rfl rfl fun B => ?_)
  show CallThen _ _ _ _ _ _
  refine call_sub [] w_New rfl rfl trivial rfl rfl rfl ?_
  rintro x T1 ⟨rfl, rfl⟩
  refine ⟨rfl, ?_⟩
  -- Push
  refine ⟨⟨rfl, trivial⟩, rfl, rfl, ⟨rfl, trivial⟩, ?_⟩
  show CallThen _ _ _ _ _ _
  refine call_freeze 3 rfl rfl ?_
  show CallThen _ _ _ _ _ _
  refine call_wk (args' := [.ptr (.loc 0) 0, opsV [relO]]) ⟨.inl rfl, .inr ⟨rfl, rfl, wk_relO⟩, trivial⟩ ?_
  refine call_sub [0, 1] p1 rfl rfl ⟨⟨rfl, rfl⟩, ⟨rfl, rfl⟩, trivial⟩ rfl rfl rfl ?_
  rintro x T1 ⟨rfl, rfl⟩
  refine ⟨rfl, ?_⟩
  -- Through
  refine ⟨⟨rfl, trivial⟩, ?_⟩
  show CallThen _ _ _ _ _ _
  refine call_freeze 4 rfl rfl ?_
  show CallThen _ _ _ _ _ _
  refine call_wk (args' := [.ptr (.loc 0) 0, opsV [insO], .tt]) ⟨.inl rfl, .inr ⟨rfl, rfl, wk_insO⟩, .inl rfl, trivial⟩ ?_
  refine call_sub [0, 1] t1 rfl rfl ⟨⟨rfl, rfl⟩, ⟨rfl, rfl⟩, trivial⟩ rfl rfl rfl ?_
  rintro x T1 ⟨rfl, rfl⟩
  refine ⟨rfl, ?_⟩
  -- Pop
  show CallThen _ _ _ _ _ _
  refine call_sub [0, 1] q1 rfl rfl ⟨⟨rfl, rfl⟩, ⟨rfl, rfl⟩, trivial⟩ rfl rfl rfl ?_
  rintro x T1 ⟨rfl, rfl⟩
  refine ⟨rfl, ?_⟩
  -- Push
  refine ⟨⟨rfl, trivial⟩, rfl, rfl, ⟨rfl, trivial⟩, ?_⟩
  show CallThen _ _ _ _ _ _
  refine call_freeze 6 rfl rfl ?_
  show CallThen _ _ _ _ _ _
  refine call_wk (args' := [.ptr (.loc 0) 0, opsV [relO]]) ⟨.inl rfl, .inr ⟨rfl, rfl, wk_relO⟩, trivial⟩ ?_
  refine call_sub [0, 1] p2 rfl rfl ⟨⟨rfl, rfl⟩, ⟨rfl, rfl⟩, trivial⟩ rfl rfl rfl ?_
  rintro x T1 ⟨rfl, rfl⟩
  refine ⟨rfl, ?_⟩
  -- Through
  refine ⟨⟨rfl, trivial⟩, rfl, rfl, ⟨rfl, trivial⟩, ?_⟩
  show CallThen _ _ _ _ _ _
  refine call_freeze 8 rfl rfl ?_
  show CallThen _ _ _ _ _ _
  refine call_wk (args' := [.ptr (.loc 0) 0, opsV [delO], .tt]) ⟨.inl rfl, .inr ⟨rfl, rfl, wk_delO⟩, .inl rfl, trivial⟩ ?_
  refine call_sub [0, 1] t2 rfl rfl ⟨⟨rfl, rfl⟩, ⟨rfl, rfl⟩, trivial⟩ rfl rfl rfl ?_
  rintro x T1 ⟨rfl, rfl⟩
  refine ⟨rfl, ?_⟩
  -- Pop
  show CallThen _ _ _ _ _ _
  refine call_sub [0, 1] q2 rfl rfl ⟨⟨rfl, rfl⟩, ⟨rfl, rfl⟩, trivial⟩ rfl rfl rfl ?_
  rintro x T1 ⟨rfl, rfl⟩
  refine ⟨rfl, ?_⟩
  -- what came of it
  show Goes _ _ _ _
  refine go 60 ?_
  refine ⟨fun _ => go 60 ?_, fun h => absurd h (by decide)⟩
  refine ⟨fun _ => go 60 ?_, fun h => absurd h (by decide)⟩
  refine ⟨fun _ => go 60 ?_, fun h => absurd h (by decide)⟩
  refine ⟨by decide, _, rfl, ⟨rfl, trivial⟩, ?_⟩
  show CallThen _ _ _ _ _ _
  refine call_pure_frz ?_
  refine ⟨rfl, rfl, _, w_SameInts [1] (by decide), rfl, ?_⟩
  rintro x rfl
  refine ⟨fun _ => go 60 ?_, fun h => absurd h (by decide)⟩
  refine ⟨by decide, _, rfl, ?_⟩
  refine ⟨fun _ => go 60 ?_, fun h => absurd h (by decide)⟩
  refine ⟨fun _ => go 60 ?_, fun h => absurd h (by decide)⟩
  refine ⟨fun _ => go 60 ?_, fun h => absurd h (by decide)⟩
  show CallThen _ _ _ _ _ _
  refine call_sub [0, 1] n2 rfl rfl ⟨⟨rfl, rfl⟩, ⟨rfl, rfl⟩, trivial⟩ rfl rfl rfl ?_
  rintro x T1 ⟨rfl, rfl⟩
  refine ⟨rfl, ?_⟩
  exact ⟨trivial, rfl, rfl, rfl, leaf_b rfl⟩
end Bow
/- W84: the law UndoNone, walked. -/
namespace Bow
open Go Go.Proofs

set_option maxHeartbeats 2000000 in
set_option maxRecDepth 100000 in
theorem w_UndoNone (l : List OpT) (_h : l.length ≤ maxLen) : Pure Try.prog 10 [opsV l] (fun x => x = .bool true) := by
  have hw := w_works23
  refine pure_wk (pure_fn 60 Try.func10 rfl rfl rfl fun B => ?_)
  show CallThen _ _ _ _ _ _
  refine call_pure (w_light23 l) rfl ?_
  rintro x ⟨b, rfl⟩
  refine ⟨fun _ => go 60 ?_, fun _ => go 60 ?_⟩
  · show CallThen _ _ _ _ _ _
    refine call_pure hw rfl ?_
    rintro x rfl
    exact ⟨trivial, rfl, rfl, rfl, leaf_b rfl⟩
  show CallThen _ _ _ _ _ _
  refine call_pure w_ClearNil rfl ?_
  rintro x rfl
  show CallThen _ _ _ _ _ _
  refine call_pure w_PopNil rfl ?_
  rintro x rfl
  show CallThen _ _ _ _ _ _
  refine call_pure (w_PushNil l) rfl ?_
  rintro x rfl
  refine ⟨fun _ => go 60 ?_, fun h => absurd h (by decide)⟩
  show CallThen _ _ _ _ _ _
  refine call_pure (w_ThroughNil l .tt (.inl rfl)) rfl ?_
  rintro x rfl
  refine ⟨fun _ => go 60 ?_, fun h => absurd h (by decide)⟩
  refine ⟨fun _ => go 60 ?_, fun h => absurd h (by decide)⟩
  show CallThen _ _ _ _ _ _
  refine call_pure w_LenNil rfl ?_
  rintro x rfl
  refine ⟨fun _ => go 60 ?_, fun h => absurd h (by decide)⟩
  show CallThen _ _ _ _ _ _
  refine call_pure hw rfl ?_
  rintro x rfl
  exact ⟨trivial, rfl, rfl, rfl, leaf_b rfl⟩
end Bow
/- TD1: what is read as data at the program's types. -/
namespace Bow
open Go Go.Proofs

theorem take1 {vs : List V} {c : V} (h : vs.take 1 = [c]) : ∃ r, vs = c :: r ∧ vs.drop 1 = r := by
  cases vs with
  | nil => simp at h
  | cons x r => simp at h; subst h; exact ⟨r, rfl, rfl⟩

theorem map_exists {α β : Type} {f : α → V} {g : β → V} : ∀ {xs : List α}, (∀ x ∈ xs, ∃ y, f x = g y) → ∃ ys : List β, xs.map f = ys.map g
  | [], _ => ⟨[], rfl⟩
  | x :: xs, h => by
    obtain ⟨y, hy⟩ := h x List.mem_cons_self
    obtain ⟨ys, hys⟩ := map_exists (xs := xs) fun z hz => h z (List.mem_cons_of_mem _ hz)
    exact ⟨y :: ys, by simp [hy, hys]⟩

theorem vt_str {n : Nat} {vs : List V} (h : VT Try.prog n 9 vs) : ∃ s, vs = [.str s] := by
  cases n with
  | zero => exact h.elim
  | succ n =>
    obtain ⟨s, e, _⟩ : ∃ s : List UInt8, vs = [.str s] ∧ s.length ≤ maxLen := h
    exact ⟨s, e⟩
theorem vt_bool {n : Nat} {vs : List V} (h : VT Try.prog n 4 vs) : ∃ b, vs = [.bool b] := by
  cases n with
  | zero => exact h.elim
  | succ n => exact h
theorem vt_int {n : Nat} {vs : List V} (h : VT Try.prog n 3 vs) : ∃ i, vs = [.int .i64 i] ∧ (Lit.int .i64 i).wf = true := by
  cases n with
  | zero => exact h.elim
  | succ n => exact h
theorem vt_u64 {n : Nat} {vs : List V} (h : VT Try.prog n 23 vs) : ∃ i, vs = [.int .u64 i] := by
  cases n with
  | zero => exact h.elim
  | succ n =>
    obtain ⟨s, e, _⟩ : ∃ s : Int, vs = [.int .u64 s] ∧ (Lit.int .u64 s).wf = true := h
    exact ⟨s, e⟩
theorem vt_u8 {n : Nat} {vs : List V} (h : VT Try.prog n 5 vs) : ∃ i, vs = [.int .u8 i] := by
  cases n with
  | zero => exact h.elim
  | succ n =>
    obtain ⟨s, e, _⟩ : ∃ s : Int, vs = [.int .u8 s] ∧ (Lit.int .u8 s).wf = true := h
    exact ⟨s, e⟩
theorem rep_of_cells {w : World} {vs : List V} {cs : Array Value} (h : RowRep w β0 [] vs cs.toList) : Rep w β0 [] (.agg vs) (.agg cs) :=
  .agg vs cs (by simpa using h.1) fun j c v hj hv => h.2 j c v hj (by simpa using hv)

end Bow
/- TD2: operations that are read as data. -/
namespace Bow
open Go Go.Proofs

set_option maxRecDepth 100000 in
theorem vt_path {n : Nat} {vs : List V} (h : VT Try.prog n 22 vs) : ∃ l : List Int, vs = [pathV l] ∧ l.length ≤ maxLen ∧ ∀ i ∈ l, (Lit.int .i64 i).wf = true := by
  cases n with
  | zero => exact h.elim
  | succ n =>
    obtain ⟨xs, e, hl, hx⟩ : ∃ xs : List (List V), vs = [.sl 1 (xs.map (mkX Try.prog 3))] ∧ xs.length ≤ maxLen ∧ ∀ x ∈ xs, VT Try.prog n 3 x := h
    have key : ∀ xs : List (List V), (∀ x ∈ xs, VT Try.prog n 3 x) → ∃ l : List Int, xs.map (mkX Try.prog 3) = l.map intV ∧ ∀ i ∈ l, (Lit.int .i64 i).wf = true := by
      intro xs
      induction xs with
      | nil => intro _; exact ⟨[], rfl, by simp⟩
      | cons x xs ih =>
        intro hx
        obtain ⟨i, rfl, hw⟩ := vt_int (hx x List.mem_cons_self)
        obtain ⟨l, e, hl⟩ := ih fun z hz => hx z (List.mem_cons_of_mem _ hz)
        refine ⟨i :: l, by simp only [List.map_cons, e]; rfl, fun j hj => ?_⟩
        rcases List.mem_cons.1 hj with rfl | hj
        · exact hw
        · exact hl j hj
    obtain ⟨l, e1, e2⟩ := key xs hx
    refine ⟨l, by rw [e, e1]; rfl, ?_, e2⟩
    have := congrArg List.length e1
    simp at this
    omega
set_option maxRecDepth 100000 in
theorem vt_piece {n : Nat} {vs : List V} (h : VT Try.prog n 46 vs) : ∃ p, vs = (pieceV p).cells := by
  cases n with
  | zero => exact h.elim
  | succ n =>
    obtain ⟨h0, h1, h2, h3⟩ : VT Try.prog n 3 (vs.take 1) ∧ VT Try.prog n 3 ((vs.drop 1).take 1) ∧ VT Try.prog n 9 (((vs.drop 1).drop 1).take 1) ∧ ((vs.drop 1).drop 1).drop 1 = [] := h
    obtain ⟨a, e0, _⟩ := vt_int h0
    obtain ⟨b, e1, _⟩ := vt_int h1
    obtain ⟨s, e2⟩ := vt_str h2
    obtain ⟨r, rfl, d0⟩ := take1 e0
    rw [d0] at e1 e2 h3
    obtain ⟨r1, rfl, d1⟩ := take1 e1
    rw [d1] at e2 h3
    obtain ⟨r2, rfl, d2⟩ := take1 e2
    rw [d2] at h3
    subst h3
    exact ⟨⟨a, b, s⟩, rfl⟩
set_option maxRecDepth 100000 in
theorem vt_pieces {n : Nat} {vs : List V} (h : VT Try.prog n 24 vs) : ∃ l : List PieceT, vs = [piecesV l] := by
  cases n with
  | zero => exact h.elim
  | succ n =>
    obtain ⟨xs, e, _, hx⟩ : ∃ xs : List (List V), vs = [.sl 3 (xs.map (mkX Try.prog 46))] ∧ xs.length ≤ maxLen ∧ ∀ x ∈ xs, VT Try.prog n 46 x := h
    obtain ⟨l, hl⟩ := map_exists (f := mkX Try.prog 46) (g := pieceV) (xs := xs) fun x hm => by
      obtain ⟨a, rfl⟩ := vt_piece (hx x hm)
      exact ⟨a, rfl⟩
    exact ⟨l, by rw [e, hl]; rfl⟩

set_option maxRecDepth 100000 in
theorem vt_op {n : Nat} {vs : List V} (h : VT Try.prog n 26 vs) : ∃ o, vs = (opV o).cells := by
  cases n with
  | zero => exact h.elim
  | succ n =>
    obtain ⟨h0, h⟩ : VT Try.prog n 5 (vs.take 1) ∧ _ := h
    obtain ⟨a0, e0⟩ := vt_u8 h0
    obtain ⟨r, rfl, d0⟩ := take1 e0
    obtain ⟨h1, h⟩ : VT Try.prog n 22 (r.take 1) ∧ _ := h
    obtain ⟨a1, e1, _⟩ := vt_path h1
    obtain ⟨r, rfl, d0⟩ := take1 e1
    obtain ⟨h2, h⟩ : VT Try.prog n 3 (r.take 1) ∧ _ := h
    obtain ⟨a2, e2, _⟩ := vt_int h2
    obtain ⟨r, rfl, d0⟩ := take1 e2
    obtain ⟨h3, h⟩ : VT Try.prog n 22 (r.take 1) ∧ _ := h
    obtain ⟨a3, e3, _⟩ := vt_path h3
    obtain ⟨r, rfl, d0⟩ := take1 e3
    obtain ⟨h4, h⟩ : VT Try.prog n 23 (r.take 1) ∧ _ := h
    obtain ⟨a4, e4⟩ := vt_u64 h4
    obtain ⟨r, rfl, d0⟩ := take1 e4
    obtain ⟨h5, h⟩ : VT Try.prog n 4 (r.take 1) ∧ _ := h
    obtain ⟨a5, e5⟩ := vt_bool h5
    obtain ⟨r, rfl, d0⟩ := take1 e5
    obtain ⟨h6, h⟩ : VT Try.prog n 9 (r.take 1) ∧ _ := h
    obtain ⟨a6, e6⟩ := vt_str h6
    obtain ⟨r, rfl, d0⟩ := take1 e6
    obtain ⟨h7, h⟩ : VT Try.prog n 9 (r.take 1) ∧ _ := h
    obtain ⟨a7, e7⟩ := vt_str h7
    obtain ⟨r, rfl, d0⟩ := take1 e7
    obtain ⟨h8, h⟩ : VT Try.prog n 9 (r.take 1) ∧ _ := h
    obtain ⟨a8, e8⟩ := vt_str h8
    obtain ⟨r, rfl, d0⟩ := take1 e8
    obtain ⟨h9, h⟩ : VT Try.prog n 4 (r.take 1) ∧ _ := h
    obtain ⟨a9, e9⟩ := vt_bool h9
    obtain ⟨r, rfl, d0⟩ := take1 e9
    obtain ⟨h10, h⟩ : VT Try.prog n 24 (r.take 1) ∧ _ := h
    obtain ⟨a10, e10⟩ := vt_pieces h10
    obtain ⟨r, rfl, d0⟩ := take1 e10
    have h : r = [] := h
    subst h
    exact ⟨⟨a0, a1, a2, a3, a4, a5, a6, a7, a8, a9, a10⟩, rfl⟩
set_option maxRecDepth 100000 in
theorem vt_ops {n : Nat} {vs : List V} (h : VT Try.prog n 30 vs) : ∃ l : List OpT, vs = [.sl 11 (l.map opV)] ∧ l.length ≤ maxLen := by
  cases n with
  | zero => exact h.elim
  | succ n =>
    obtain ⟨xs, e, hl, hx⟩ : ∃ xs : List (List V), vs = [.sl 11 (xs.map (mkX Try.prog 26))] ∧ xs.length ≤ maxLen ∧ ∀ x ∈ xs, VT Try.prog n 26 x := h
    obtain ⟨l, e1⟩ := map_exists (f := mkX Try.prog 26) (g := opV) (xs := xs) fun x hm => by
      obtain ⟨a, rfl⟩ := vt_op (hx x hm)
      exact ⟨a, rfl⟩
    refine ⟨l, by rw [e, e1], ?_⟩
    have := congrArg List.length e1
    simp at this
    omega

set_option maxRecDepth 100000 in
/-- An operation that is handed over. -/
theorem op_arg {H : Type} {enc : TypeId × Value → H} {w : World} {r : Reach} {base b0 : Nat} {sp : Nat → Bool} {held : Bool} {v : Value} {d : DataW H} {p : List MemPlace} (ho : Value.okWide Try.prog w r b0 26 v) (h : DataW.Trod enc Try.prog w base sp held 26 v d p) :
    ∃ o : OpT, Rep w β0 [] (opV o) v := by
  obtain ⟨fuel, hf⟩ := h
  obtain ⟨cs, rfl, _, _⟩ : ∃ cs, v = .agg cs ∧ cs.size = Try.prog.cellsOf 26 ∧ Row.okWide Try.prog w r b0 26 cs := ho
  obtain ⟨vs, h1, _, h3⟩ := read_data (G := [26, 22, 24, 46, 3, 9, 23, 5, 4]) (by kernel_rfl) fuel _ _ _ (by kernel_rfl) hf
  obtain ⟨t, rfl⟩ := vt_op h3
  exact ⟨t, rep_of_cells h1⟩
set_option maxRecDepth 100000 in
/-- A list of operations that is handed over. -/
theorem ops_arg {H : Type} {enc : TypeId × Value → H} {w : World} {r : Reach} {base b0 : Nat} {sp : Nat → Bool} {held : Bool} {v : Value} {d : DataW H} {p : List MemPlace} (ho : Value.okWide Try.prog w r b0 30 v) (h : DataW.Trod enc Try.prog w base sp held 30 v d p) :
    ∃ l : List OpT, Rep w β0 [] (.sl 11 (l.map opV)) v ∧ l.length ≤ maxLen := by
  obtain ⟨a, len, cap, rfl⟩ := WideShapes.okWide_slice Try.underlying30 ho
  obtain ⟨fuel, hf⟩ := h
  obtain ⟨vs, h1, _, h3⟩ := read_data (G := [30, 26, 22, 24, 46, 3, 9, 23, 5, 4]) (by kernel_rfl) fuel _ _ _ (by kernel_rfl) hf
  obtain ⟨l, rfl, hl⟩ := vt_ops h3
  exact ⟨l, h1.2 0 _ _ rfl rfl, hl⟩
set_option maxRecDepth 100000 in
/-- A path that is handed over. -/
theorem path_arg {H : Type} {enc : TypeId × Value → H} {w : World} {r : Reach} {base b0 : Nat} {sp : Nat → Bool} {held : Bool} {v : Value} {d : DataW H} {p : List MemPlace} (ho : Value.okWide Try.prog w r b0 22 v) (h : DataW.Trod enc Try.prog w base sp held 22 v d p) :
    ∃ l : List Int, Rep w β0 [] (pathV l) v ∧ l.length ≤ maxLen ∧ ∀ i ∈ l, (Lit.int .i64 i).wf = true := by
  obtain ⟨a, len, cap, rfl⟩ := WideShapes.okWide_slice Try.underlying22 ho
  obtain ⟨fuel, hf⟩ := h
  obtain ⟨vs, h1, _, h3⟩ := read_data (G := [22, 3]) (by kernel_rfl) fuel _ _ _ (by kernel_rfl) hf
  obtain ⟨l, rfl, hl⟩ := vt_path h3
  exact ⟨l, h1.2 0 _ _ rfl rfl, hl⟩
end Bow
