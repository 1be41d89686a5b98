/- The library, part 4: AE37, AE38, AE39, AE40, AE41, AE42, AE58, AE43, AE44, AE45, AE46, AE47, AE53, AE56, AE59, AE60, AE61, TR1, TR2, SP1, SP2, SP3, SP4, SP5. -/
import Derived.Test.YtgdiffkimgnhgaaGreatMc
import Derived.Laws.Shifts
import Derived.Test.YtgdiffkimgnhgaaGreatMb
/- AE37: calls of functions that are handed some of the caller's objects, and leave objects of their own. -/
namespace Bow
open Go

/-! ### Names, renamed -/
def Ref.ren (ρ : List Nat) : Ref → Ref
  | .loc k => match ρ[k]? with
    | some j => .loc j
    | none => .bad
  | .abs n => .abs n
  | .bad => .bad
mutual
def V.ren (ρ : List Nat) : V → V
  | .osl r g o l => .osl (r.ren ρ) g o l
  | .ptr r o => .ptr (r.ren ρ) o
  | .eptr r g i o => .eptr (r.ren ρ) g i o
  | .agg cs => .agg (V.renL ρ cs)
  | .tup vs => .tup (V.renL ρ vs)
  | .fn f a c => .fn f (V.renL ρ a) (V.renL ρ c)
  | .yld r => .yld (r.ren ρ)
  | .iface t v => .iface t (v.ren ρ)
  | .int k n => .int k n
  | .bool b => .bool b
  | .tt => .tt
  | .ff => .ff
  | .str s => .str s
  | .sl s xs => .sl s xs
  | .nilsl => .nilsl
  | .iptr cs o => .iptr cs o
  | .nilp => .nilp
  | .nilf => .nilf
  | .nili => .nili
  | .nilmap => .nilmap
  | .undef => .undef
def V.renL (ρ : List Nat) : List V → List V
  | [] => []
  | v :: vs => v.ren ρ :: V.renL ρ vs
end
theorem V.renL_eq (ρ : List Nat) : ∀ vs, V.renL ρ vs = vs.map (V.ren ρ)
  | [] => rfl
  | v :: vs => by rw [V.renL, V.renL_eq ρ vs]; rfl
def HObj.ren (ρ : List Nat) : HObj → HObj
  | .box cs => .box (V.renL ρ cs)
  | .vec g sz xs => .vec g sz xs
  | .loop st pe fn E nt ps asg bo => .loop st pe fn (E.map fun p => (p.1, p.2.ren ρ)) nt ps asg bo
  | .dfr => .dfr
  | .held s => .held s

/-- The names ρ of the objects m are m1. -/
def Sub (ρ m m1 : List Nat) : Prop := m1.length = ρ.length ∧ ∀ i k : Nat, ρ[i]? = some k → ∃ r : Nat, m[k]? = some r ∧ m1[i]? = some r

theorem Ref.ren_conv {ρ m m1 : List Nat} (h : Sub ρ m m1) : ∀ r : Ref, r.sc ρ.length → (r.ren ρ).conv m = r.conv m1
  | .loc i, hi => by
    have hi : i < ρ.length := hi
    have e := List.getElem?_eq_getElem hi
    obtain ⟨r, h1, h2⟩ := h.2 i _ e
    simp only [Ref.ren, e, Ref.conv, h1, h2]
  | .abs _, _ => rfl
  | .bad, _ => rfl
theorem Ref.ren_sc {ρ m m1 : List Nat} (h : Sub ρ m m1) : ∀ r : Ref, r.sc ρ.length → (r.ren ρ).sc m.length
  | .loc i, hi => by
    have hi : i < ρ.length := hi
    have e := List.getElem?_eq_getElem hi
    obtain ⟨r, h1, h2⟩ := h.2 i _ e
    simp only [Ref.ren, e]
    exact lt_of_get h1
  | .abs _, _ => trivial
  | .bad, _ => trivial
mutual
theorem V.ren_conv {ρ m m1 : List Nat} (h : Sub ρ m m1) : ∀ v : V, v.sc ρ.length → (v.ren ρ).conv m = v.conv m1
  | .osl r _ _ _, hs => by simp only [V.ren, V.conv, r.ren_conv h hs]
  | .ptr r _, hs => by simp only [V.ren, V.conv, r.ren_conv h hs]
  | .eptr r _ _ _, hs => by simp only [V.ren, V.conv, r.ren_conv h hs]
  | .yld r, hs => by simp only [V.ren, V.conv, r.ren_conv h hs]
  | .agg cs, hs => by simp only [V.ren, V.conv, V.renL_conv h cs hs]
  | .tup cs, hs => by simp only [V.ren, V.conv, V.renL_conv h cs hs]
  | .fn _ a c, hs => by simp only [V.ren, V.conv, V.renL_conv h a hs.1, V.renL_conv h c hs.2]
  | .iface _ v, hs => by simp only [V.ren, V.conv, v.ren_conv h hs]
  | .int .., _ | .bool _, _ | .tt, _ | .ff, _ | .str _, _ | .sl .., _ | .nilsl, _ | .iptr .., _ | .nilp, _ | .nilf, _ | .nili, _ | .nilmap, _ | .undef, _ => rfl
theorem V.renL_conv {ρ m m1 : List Nat} (h : Sub ρ m m1) : ∀ vs : List V, V.scL ρ.length vs → V.convL m (V.renL ρ vs) = V.convL m1 vs
  | [], _ => rfl
  | v :: vs, hs => by simp only [V.renL, V.convL, v.ren_conv h hs.1, V.renL_conv h vs hs.2]
end
mutual
theorem V.ren_sc {ρ m m1 : List Nat} (h : Sub ρ m m1) : ∀ v : V, v.sc ρ.length → (v.ren ρ).sc m.length
  | .osl r _ _ _, hs | .ptr r _, hs | .eptr r _ _ _, hs | .yld r, hs => r.ren_sc h hs
  | .agg cs, hs | .tup cs, hs => V.renL_sc h cs hs
  | .fn _ a c, hs => ⟨V.renL_sc h a hs.1, V.renL_sc h c hs.2⟩
  | .iface _ v, hs => v.ren_sc h hs
  | .int .., _ | .bool _, _ | .tt, _ | .ff, _ | .str _, _ | .sl .., _ | .nilsl, _ | .iptr .., _ | .nilp, _ | .nilf, _ | .nili, _ | .nilmap, _ | .undef, _ => trivial
theorem V.renL_sc {ρ m m1 : List Nat} (h : Sub ρ m m1) : ∀ vs : List V, V.scL ρ.length vs → V.scL m.length (V.renL ρ vs)
  | [], _ => trivial
  | v :: vs, hs => ⟨v.ren_sc h hs.1, V.renL_sc h vs hs.2⟩
end
theorem HObj.ren_conv {ρ m m1 : List Nat} (h : Sub ρ m m1) : ∀ o : HObj, o.sc ρ.length → (o.ren ρ).conv m = o.conv m1
  | .box cs, hs => by simp only [HObj.ren, HObj.conv, V.renL_conv h cs hs]
  | .vec .., _ => rfl
  | .dfr, _ => rfl
  | .held _, _ => rfl
  | .loop _ _ _ E _ _ _ _, hs => by
    simp only [HObj.ren, HObj.conv, Env.conv, List.map_map, HObj.loop.injEq, true_and, and_true]
    exact List.map_congr_left fun p hp => by simp only [Function.comp_apply]; rw [V.ren_conv h p.2 (hs p hp)]
theorem HObj.ren_sc {ρ m m1 : List Nat} (h : Sub ρ m m1) : ∀ o : HObj, o.sc ρ.length → (o.ren ρ).sc m.length
  | .box cs, hs => V.renL_sc h cs hs
  | .vec .., _ => trivial
  | .dfr, _ => trivial
  | .held _, _ => trivial
  | .loop _ _ _ E _ _ _ _, hs => fun p hp => by
    obtain ⟨q, hq, rfl⟩ := List.mem_map.1 hp
    exact V.ren_sc h q.2 (hs q hq)

/-! ### The caller's objects behind the call -/
def omap (ρ : List Nat) (o : Option HObj) : Option HObj :=
  match o with
  | none => none
  | some o => some (o.ren ρ)
def setAll (ρ : List Nat) : List Nat → Heap → Heap → Heap
  | k :: ks, o :: os, T => setAll ρ ks os (T.set k (omap ρ o))
  | _, os, T => T ++ os.map (omap ρ)
def setAllK (ρ : List Nat) : List Nat → Heap → Heap → (Heap → Prop) → Prop
  | k :: ks, o :: os, T, K => lset T k (omap ρ o) fun T' => setAllK ρ ks os T' K
  | _, os, T, K => K (T ++ lmap (omap ρ) os)
theorem setAllK_eq (ρ : List Nat) : ∀ (ks : List Nat) (os T : Heap) (K : Heap → Prop), setAllK ρ ks os T K = K (setAll ρ ks os T)
  | k :: ks, o :: os, T, K => by rw [setAllK, lset_eq, setAllK_eq ρ ks os]; rfl
  | [], os, T, K => by simp only [setAllK, setAll, lmap_eq]
  | k :: ks, [], T, K => by simp only [setAllK, setAll, lmap_eq]
theorem setAll_len (ρ : List Nat) : ∀ (ks : List Nat) (os T : Heap), ks.length ≤ os.length → (setAll ρ ks os T).length = T.length + (os.length - ks.length)
  | k :: ks, o :: os, T, h => by
    rw [setAll, setAll_len ρ ks os _ (by simpa using h)]
    simp
  | [], os, T, _ => by simp [setAll]
  | k :: ks, [], T, h => by simp at h
theorem setAll_other (ρ : List Nat) {j : Nat} : ∀ (ks : List Nat) (os T : Heap), j ∉ ks → j < T.length → (setAll ρ ks os T)[j]? = T[j]?
  | k :: ks, o :: os, T, h, hj => by
    rw [setAll, setAll_other ρ ks os _ (fun hm => h (List.mem_cons_of_mem _ hm)) (by simpa using hj), List.getElem?_set_ne (fun e : k = j => by subst e; exact h List.mem_cons_self)]
  | [], os, T, _, hj => by simp only [setAll]; rw [List.getElem?_append_left hj]
  | k :: ks, [], T, _, hj => by simp only [setAll]; rw [List.getElem?_append_left hj]
theorem setAll_at (ρ : List Nat) : ∀ (ks : List Nat) (os T : Heap), ks.Nodup → (∀ k ∈ ks, k < T.length) → ks.length ≤ os.length → ∀ (i k : Nat), ks[i]? = some k → (setAll ρ ks os T)[k]? = os[i]?.map (omap ρ)
  | k0 :: ks, o :: os, T, hn, hl, hle, i, k, hk => by
    obtain ⟨h1, h2⟩ := List.nodup_cons.1 hn
    have hk0 := hl k0 List.mem_cons_self
    rw [setAll]
    cases i with
    | zero =>
      simp only [List.getElem?_cons_zero, Option.some.injEq] at hk
      subst hk
      rw [setAll_other ρ ks os _ h1 (by simpa using hk0)]
      simp [hk0]
    | succ i =>
      simp only [List.getElem?_cons_succ] at hk ⊢
      exact setAll_at ρ ks os _ h2 (fun k hk => by simpa using hl k (List.mem_cons_of_mem _ hk)) (by simpa using hle) i k hk
  | [], os, T, _, _, _, i, k, hk => by simp at hk
  | k0 :: ks, [], T, _, _, hle, i, k, hk => by simp at hle
theorem setAll_new (ρ : List Nat) : ∀ (ks : List Nat) (os T : Heap), ks.length ≤ os.length → ∀ j, (setAll ρ ks os T)[T.length + j]? = os[ks.length + j]?.map (omap ρ)
  | k0 :: ks, o :: os, T, hle, j => by
    rw [setAll]
    have := setAll_new ρ ks os (T.set k0 (omap ρ o)) (by simpa using hle) j
    simp only [List.length_set] at this
    rw [this, List.length_cons, show ks.length + 1 + j = (ks.length + j) + 1 by omega, List.getElem?_cons_succ]
  | [], os, T, _, j => by
    simp only [setAll]
    rw [List.getElem?_append_right (by omega)]
    simp
  | k0 :: ks, [], T, hle, j => by simp at hle

def subB : List Nat → Nat → Bool
  | [], _ => true
  | k :: ks, n => Nat.blt k n && subB ks n
theorem subB_get : ∀ (ks : List Nat) (n : Nat), subB ks n = true → ∀ k ∈ ks, k < n
  | [], _, _, k, h => by cases h
  | x :: ks, n, hs, k, h => by
    simp only [subB, Bool.and_eq_true] at hs
    rcases List.mem_cons.1 h with rfl | h
    · exact Nat.le_of_ble_eq_true hs.1
    · exact subB_get ks n hs.2 k h

/-- The objects ks of the caller, as the called one sees them. -/
def objsAre (ks : List Nat) (T : Heap) : List Nat → Heap → Prop
  | [], [] => True
  | k :: l, some o :: os => (lget T k = some (some (o.ren ks)) ∧ o.scB ks.length = true) ∧ objsAre ks T l os
  | _, _ => False
theorem objsAre_get {ks0 : List Nat} {T : Heap} : ∀ {l : List Nat} {os : Heap}, objsAre ks0 T l os → l.length = os.length ∧ ∀ (i k : Nat), l[i]? = some k → ∃ o, os[i]? = some (some o) ∧ T[k]? = some (some (o.ren ks0)) ∧ o.sc ks0.length
  | [], [], _ => ⟨rfl, fun i k h => by simp at h⟩
  | k0 :: l, some o :: os, h => by
    obtain ⟨h1, h2⟩ := objsAre_get h.2
    refine ⟨by simp [h1], fun i k hk => ?_⟩
    cases i with
    | zero =>
      simp only [List.getElem?_cons_zero, Option.some.injEq] at hk
      subst hk
      exact ⟨o, rfl, by rw [← lget_eq]; exact h.1.1, HObj.scB_sc o h.1.2⟩
    | succ i => simpa using h2 i k (by simpa using hk)
  | [], _ :: _, h => h.elim
  | _ :: _, [], h => h.elim
  | _ :: _, none :: _, h => h.elim

def rangeFrom : Nat → Nat → List Nat
  | _, 0 => []
  | n, k + 1 => n :: rangeFrom (n + 1) k
theorem rangeFrom_len : ∀ (k n : Nat), (rangeFrom n k).length = k
  | 0, _ => rfl
  | k + 1, n => by simp [rangeFrom, rangeFrom_len k]
theorem rangeFrom_get : ∀ (k n i : Nat), i < k → (rangeFrom n k)[i]? = some (n + i)
  | k + 1, n, 0, _ => rfl
  | k + 1, n, i + 1, h => by
    rw [rangeFrom, List.getElem?_cons_succ, rangeFrom_get k (n + 1) i (by omega)]
    congr 1
    omega
/-- The names of what the called one has: those that it was handed, and new ones. -/
def subρ (ks : List Nat) (n : Nat) (T1 : Heap) : List Nat := ks ++ rangeFrom n (lcount T1 0 - lcount ks 0)

theorem call_sub {c : Cx} {g : FuncId} {args args' : List V} {E : Env} {T T1 : Heap} {K : V → St → Prop} {Q : V → Heap → Prop} (ks : List Nat) (hf : Fun c.P g T1 args' Q) (hnd : nodupB ks = true) (hlt : subB ks T.length = true) (ho : objsAre ks T ks T1) (ha : args = V.renL ks args') (hsc : V.scBL ks.length args' = true)
    (hD : c.D.all (fun k => !memN ks k) = true)
    (h : ∀ x T1', Q x T1' → allLive (ldrop T1' ks.length) = true ∧ setAllK (subρ ks T.length T1') ks T1' T fun T2 => K (x.ren (subρ ks T.length T1')) ⟨E, T2, c.B, c.D⟩) : CallThen c g args E T K := by
  have hen : Enterable c.P g := by unfold Fun at hf; exact hf.1
  unfold CallThen
  unfold Fun at hf
  refine ⟨hen, fun w β H m a vals cs hs hl hr => ?_⟩
  have hml : m.length = T.length := hs.mlen
  have hnd' := nodupB_iff _ hnd
  have hlt' := subB_get _ _ hlt
  obtain ⟨hol, hoo⟩ := objsAre_get ho
  obtain ⟨m1, hm1⟩ : ∃ m1, m1 = ks.map fun k => (m[k]?).getD 0 := ⟨_, rfl⟩
  have hsub : Sub ks m m1 := by
    refine ⟨by rw [hm1]; simp, fun i k hk => ?_⟩
    have hkm : k < m.length := by rw [hml]; exact hlt' k (List.mem_of_getElem? hk)
    have e := List.getElem?_eq_getElem hkm
    exact ⟨m[k], e, by rw [hm1, List.getElem?_map, hk]; simp [e]⟩
  have hm1l : m1.length = T1.length := by rw [hsub.1]; exact hol
  have hm1nd : m1.Nodup := by
    rw [hm1]
    refine List.Pairwise.map _ (fun x y h => ?_) (List.Pairwise.and_mem.1 hnd')
    obtain ⟨hx, hy, hne⟩ := h
    have hxm : x < m.length := by rw [hml]; exact hlt' x hx
    have hym : y < m.length := by rw [hml]; exact hlt' y hy
    intro e
    simp only [List.getElem?_eq_getElem hxm, List.getElem?_eq_getElem hym, Option.getD_some] at e
    exact hne (hs.inj (List.getElem?_eq_getElem hxm) (by rw [e]; exact List.getElem?_eq_getElem hym))
  have hmem : ∀ r, r ∈ m1 → ∃ i k, ks[i]? = some k ∧ m[k]? = some r ∧ m1[i]? = some r := fun r hr => by
    obtain ⟨i, hi⟩ := List.getElem?_of_mem hr
    have hil : i < ks.length := by have := lt_of_get hi; rw [hsub.1] at this; exact this
    obtain ⟨r', h1, h2⟩ := hsub.2 i _ (List.getElem?_eq_getElem hil)
    rw [hi] at h2
    injection h2 with h2
    subst h2
    exact ⟨i, _, List.getElem?_eq_getElem hil, h1, hi⟩
  have hargsc := (V.scL_iff _ _).1 (V.scBL_sc _ hsc)
  have hs1 : SRel m1 0 w β H m1 ⟨[], T1, fun r => (H[r]?).getD none, []⟩ bare := by
    refine ⟨hs.hrel, rfl, fun k => by simp [lk, V.conv]; exact .undef _, hm1l, hm1nd, fun i r o hi hoi => ?_, by simp, fun r hr hn => by simp [hr], fun r hr => by simp [List.getElem?_eq_none hr], fun k r hk hm => by have := lt_of_get hm; omega, by simp, fun i o hoi => ?_, rfl, by simp⟩
    · have hil : i < ks.length := by have := lt_of_get hi; rw [hsub.1] at this; exact this
      have hk := List.getElem?_eq_getElem hil
      obtain ⟨r', h1, h2⟩ := hsub.2 i _ hk
      rw [hi] at h2
      injection h2 with h2
      subst h2
      obtain ⟨o', e1, e2, e3⟩ := hoo i _ hk
      simp only at hoi
      rw [e1] at hoi
      injection hoi with hoi
      subst hoi
      rw [hs.loc _ r _ h1 e2]
      simp only [Option.map_some]
      rw [HObj.ren_conv hsub o' e3]
    · have hil : i < ks.length := by have := lt_of_get hoi; simp only at this; omega
      obtain ⟨o', e1, e2, e3⟩ := hoo i _ (List.getElem?_eq_getElem hil)
      simp only at hoi ⊢
      rw [e1] at hoi
      injection hoi with hoi
      injection hoi with hoi
      subst hoi
      rw [← hol]
      exact e3
  obtain ⟨x, T1', v, w', β', H', m1', fr, hq, k1, k2, k3, k4, k5, k6⟩ := hf.2 w β H m1 _ vals cs hs1 (by rw [← hl, ha, V.renL_eq]; simp) (fun j y u hj hu => by
    have := hr j (y.ren ks) u (by rw [ha, V.renL_eq, List.getElem?_map, hj]; rfl) hu
    rwa [V.ren_conv hsub y (hargsc y (List.mem_of_getElem? hj))] at this)
  obtain ⟨hlive, h⟩ := h x T1' hq
  rw [setAllK_eq] at h
  rw [ldrop_eq] at hlive
  obtain ⟨ρ, hρ⟩ : ∃ ρ, ρ = subρ ks T.length T1' := ⟨_, rfl⟩
  rw [← hρ] at h
  -- the names behind the call
  have hpre : m1 = m1'.take m1.length := by have := k1.imp; rw [this]
  obtain ⟨new, hnew⟩ : ∃ new, m1' = m1 ++ new := ⟨m1'.drop m1.length, by conv => lhs; rw [← List.take_append_drop m1.length m1', ← hpre]⟩
  have hm1'l : m1'.length = T1'.length := k1.mlen
  have hks' : ks.length ≤ T1'.length := by rw [hnew] at hm1'l; simp at hm1'l; have := hsub.1; omega
  have hnl : new.length = T1'.length - ks.length := by rw [hnew] at hm1'l; simp at hm1'l; have := hsub.1; omega
  have hnget : ∀ j r, new[j]? = some r → m1'[ks.length + j]? = some r := fun j r hj => by
    rw [hnew, List.getElem?_append_right (by rw [hsub.1]; omega), hsub.1, Nat.add_sub_cancel_left]
    exact hj
  have hlen : H.length ≤ H'.length := k2.len
  have hfresh : ∀ r, r ∈ new → H.length ≤ r := fun r hr => by
    obtain ⟨j, hj⟩ := List.getElem?_of_mem hr
    have hm := hnget j r hj
    have hjl : ks.length + j < T1'.length := by have := lt_of_get hm; omega
    have hT := List.getElem?_eq_getElem hjl
    obtain ⟨o, ho⟩ := allLive_get hlive j _ (by rw [List.getElem?_drop]; exact hT)
    rw [ho] at hT
    have hH' := k1.loc _ r _ hm hT
    have hz := k1.own (ks.length + j) r (by rw [hsub.1]; omega) hm
    simp only at hz
    rcases Nat.lt_or_ge r H.length with h1 | h1
    · obtain ⟨o1, e1, _⟩ := k2.evo r _ h1 hH'
      rw [e1] at hz
      cases hz
    · exact h1
  have hρe : ρ = ks ++ rangeFrom T.length new.length := by rw [hρ]; unfold subρ; rw [lcount_eq, lcount_eq, hnl]; simp
  have hρl : ρ.length = T1'.length := by rw [hρe]; simp [rangeFrom_len]; omega
  obtain ⟨m', hm'⟩ : ∃ m', m' = m ++ new := ⟨_, rfl⟩
  have hm'l : m'.length = T.length + new.length := by rw [hm']; simp [hml]
  have hsub' : Sub ρ m' m1' := by
    refine ⟨by rw [hm1'l, hρl], fun i k hk => ?_⟩
    rw [hρe] at hk
    rcases Nat.lt_or_ge i ks.length with h1 | h1
    · rw [List.getElem?_append_left h1] at hk
      obtain ⟨r, e1, e2⟩ := hsub.2 i k hk
      exact ⟨r, by rw [hm', List.getElem?_append_left (lt_of_get e1)]; exact e1, by rw [hnew, List.getElem?_append_left (lt_of_get e2)]; exact e2⟩
    · rw [List.getElem?_append_right h1] at hk
      have hi := lt_of_get hk
      rw [rangeFrom_len] at hi
      rw [rangeFrom_get _ _ _ hi] at hk
      injection hk with hk
      subst hk
      refine ⟨new[i - ks.length], by rw [hm', List.getElem?_append_right (by omega), hml, Nat.add_sub_cancel_left]; exact List.getElem?_eq_getElem hi, ?_⟩
      rw [hnew, List.getElem?_append_right (by rw [hsub.1]; exact h1), hsub.1]
      exact List.getElem?_eq_getElem hi
  have hext : ∀ u : V, u.sc m.length → u.conv m' = u.conv m := fun u hu => by rw [hm']; exact V.conv_ext (Nat.le_refl _) u hu
  have hin : ∀ r, r ∈ m1' → r ∈ m1 ∨ r ∈ new := fun r hr => by rw [hnew] at hr; exact List.mem_append.1 hr
  have hold : ∀ r, r < H.length → r ∉ m1 → H'[r]? = H[r]? := fun r hr hn => by
    have hn' : r ∉ m1' := fun hm => by
      rcases hin r hm with h1 | h1
      · exact hn h1
      · have := hfresh r h1; omega
    rw [k1.base r (Nat.lt_of_lt_of_le hr hlen) hn']
    simp [hr]
  have hscT1 : ∀ (i : Nat) (o : HObj), T1'[i]? = some (some o) → o.sc ρ.length := fun i o ho => by rw [hρl]; exact k1.scT i o ho
  have hT2l : (setAll ρ ks T1' T).length = T.length + new.length := by rw [setAll_len _ _ _ _ hks', hnl]
  -- an object, handed over or new
  have hobj : ∀ (i k r : Nat) (o : Option HObj), ρ[i]? = some k → m'[k]? = some r → T1'[i]? = some o → H'[r]? = some ((omap ρ o).map (HObj.conv m')) := fun i k r o hi hk ho => by
    obtain ⟨r', e1, e2⟩ := hsub'.2 i k hi
    rw [hk] at e1
    injection e1 with e1
    subst e1
    rw [k1.loc i r o e2 ho]
    cases o with
    | none => rfl
    | some o => simp only [omap, Option.map_some]; rw [HObj.ren_conv hsub' o (hscT1 i o ho)]
  have hcase : ∀ k, k < T.length + new.length → (∃ i, ρ[i]? = some k ∧ (setAll ρ ks T1' T)[k]? = T1'[i]?.map (omap ρ)) ∨ (k < T.length ∧ k ∉ ks ∧ (setAll ρ ks T1' T)[k]? = T[k]?) := fun k hk => by
    rcases Nat.lt_or_ge k T.length with h1 | h1
    · by_cases hm : k ∈ ks
      · obtain ⟨i, hi⟩ := List.getElem?_of_mem hm
        exact .inl ⟨i, by rw [hρe, List.getElem?_append_left (lt_of_get hi)]; exact hi, setAll_at ρ ks T1' T hnd' hlt' hks' i k hi⟩
      · exact .inr ⟨h1, hm, setAll_other ρ ks T1' T hm h1⟩
    · refine .inl ⟨ks.length + (k - T.length), ?_, ?_⟩
      · rw [hρe, List.getElem?_append_right (by omega), Nat.add_sub_cancel_left, rangeFrom_get _ _ _ (by omega)]
        congr 1
        omega
      · have := setAll_new ρ ks T1' T hks' (k - T.length)
        rwa [Nat.add_sub_cancel' h1] at this
  refine ⟨_, _, v, w', β', H', m', fr, h, ?_, k2, by rw [V.ren_conv hsub' x (by rw [hρl, ← hm1'l]; exact sc_of_rep x k3)]; exact k3, k4, k5, k6, by rw [hm']; exact List.prefix_append _ _⟩
  refine ⟨k1.hrel, hs.size, fun k => ?_, by rw [hm'l, hT2l], ?_, fun k r o hk ho' => ?_, ?_, fun r hr hn => ?_, fun r hr => hs.fut r (Nat.le_trans hlen hr), fun k r hk hm => ?_, fun p hp => ?_, fun k o ho' => ?_, hs.defs, ?_⟩
  · simp only
    rw [hext _ (by have := lk_sc E k hs.scE; rwa [hml])]
    exact (hs.env k).mono k2
  · rw [hm']
    refine List.nodup_append.2 ⟨hs.nodup, ?_, fun a ha b hb e => ?_⟩
    · have := k1.nodup
      rw [hnew] at this
      exact (List.nodup_append.1 this).2.1
    · subst e
      obtain ⟨j, hj⟩ := List.getElem?_of_mem ha
      have := hs.lt hj
      have := hfresh _ hb
      omega
  · have hkl : k < T.length + new.length := by have := lt_of_get hk; omega
    simp only at ho'
    rcases hcase k hkl with ⟨i, e1, e2⟩ | ⟨e1, e2, e3⟩
    · rw [e2] at ho'
      rw [Option.map_eq_some_iff] at ho'
      obtain ⟨o1, e4, e5⟩ := ho'
      subst e5
      exact hobj i k r o1 e1 hk e4
    · rw [e3] at ho'
      have hkm : m[k]? = some r := by rw [hm', List.getElem?_append_left (by omega)] at hk; exact hk
      have hrn : r ∉ m1 := fun hm => by
        obtain ⟨i, k2', q1, q2, _⟩ := hmem r hm
        have := hs.inj q2 hkm
        subst this
        exact e2 (List.mem_of_getElem? q1)
      rw [hold r (hs.lt hkm) hrn, hs.loc k r o hkm ho']
      cases o with
      | none => rfl
      | some o =>
        simp only [Option.map_some, Option.some.injEq]
        have := hs.scT k o ho'
        rw [hm']
        exact (HObj.conv_ext (Nat.le_refl _) o (by rw [hml]; exact this)).symm
  · have := hs.imp
    rw [hm', List.take_append_of_le_length]
    · exact this
    · have := congrArg List.length this
      simp at this
      omega
  · simp only
    have hrm : r ∉ m := fun hm => hn (by rw [hm']; exact List.mem_append_left _ hm)
    have hrnew : r ∉ new := fun hm => hn (by rw [hm']; exact List.mem_append_right _ hm)
    have hr1 : r ∉ m1 := fun hm => by
      obtain ⟨i, k2', q1, q2, _⟩ := hmem r hm
      exact hrm (List.mem_of_getElem? q2)
    have hr1' : r ∉ m1' := fun hm => by rcases hin r hm with h1 | h1; exact hr1 h1; exact hrnew h1
    rw [k1.base r hr hr1']
    simp only
    rcases Nat.lt_or_ge r H.length with h1 | h1
    · rw [hs.base r h1 hrm]
      rfl
    · have e0 : c.B r = none := hs.fut r h1
      rw [e0, List.getElem?_eq_none h1]
      rfl
  · rcases Nat.lt_or_ge k m.length with h1 | h1
    · rw [hm', List.getElem?_append_left h1] at hm
      exact hs.own k r hk hm
    · rw [hm', List.getElem?_append_right h1] at hm
      exact hs.fut r (hfresh r (List.mem_of_getElem? hm))
  · simp only
    rw [hT2l]
    exact V.sc_mono (Nat.le_add_right _ _) _ (hs.scE p hp)
  · have hkl : k < T.length + new.length := by have := lt_of_get ho'; simp only at this; omega
    simp only at ho' ⊢
    rw [hT2l]
    rcases hcase k hkl with ⟨i, e1, e2⟩ | ⟨e1, e2, e3⟩
    · rw [e2, Option.map_eq_some_iff] at ho'
      obtain ⟨o1, e4, e5⟩ := ho'
      cases o1 with
      | none => cases e5
      | some o1 =>
        simp only [omap, Option.some.injEq] at e5
        subst e5
        rw [← hm'l]
        exact HObj.ren_sc hsub' o1 (hscT1 i o1 e4)
    · rw [e3] at ho'
      exact HObj.sc_mono (Nat.le_add_right _ _) _ (hs.scT k o ho')
  · intro j k hj
    obtain ⟨r', b, N, e1, e2, e3, e4⟩ := hs.marks j k hj
    have hkm : k < T.length := by have := lt_of_get e1; omega
    have hkn : k ∉ ks := fun hm => by
      have := List.all_eq_true.1 hD k (List.mem_of_getElem? hj)
      rw [(memN_iff _ _).2 hm] at this
      cases this
    have hr1 : r' ∉ m1 := fun hm => by
      obtain ⟨i, k2', q1, q2, _⟩ := hmem r' hm
      have := hs.inj q2 e1
      subst this
      exact hkn (List.mem_of_getElem? q1)
    have hH0 := hs.loc k r' _ e1 e2
    refine ⟨r', b, N, by rw [hm', List.getElem?_append_left (lt_of_get e1)]; exact e1, by simp only; rw [setAll_other ρ ks T1' T hkn hkm]; exact e2, ?_, e4⟩
    exact dfr_stays k2 (by simpa [HObj.conv] using hH0) e3 (by rw [hold r' (hs.lt e1) hr1, hH0]; rfl)

/-- A function's contract, out of its body's evaluation. -/
theorem fun_fn {P : Program} {f : FuncId} {fn : Func} {body : Code} {T : Heap} {args : List V} {Q : V → Heap → Prop} (n : Nat) (hf : P.funcs[f]? = some fn) (hn : (fn.name == "runtime.NumGoroutine") = false) (hb : fn.body = some body) (hnt : Nat.ble args.length fn.ntmps = true)
    (h : ∀ (imps : List Nat) (B : Base), imps.length = T.length → evp { P := P, nt := fn.ntmps, fn := f, ro := none, imps := imps, X := XR P imps fn.results B Q, B := B, D := [] } n [.code body] (env0 0 args) T) : Fun P f T args Q :=
  fun_of_goes hf hn hb hnt fun imps B hi => evp_sound _ _ _ _ _ (h imps B hi)

/-- What a call leaves, but for what nobody names: the first n objects. -/
def keepK (n : Nat) (x : V) (T : Heap) (Q : V → Heap → Prop) : Prop := ∃ T1, T1.length = n ∧ x.scB n = true ∧ heapIs n T T1 ∧ Q x T1
theorem fun_keep {P : Program} {f : FuncId} {T : Heap} {args : List V} {Q : V → Heap → Prop} (n : Nat) (hn : Nat.ble T.length n = true) (h : Fun P f T args fun x T' => keepK n x T' Q) : Fun P f T args Q := by
  unfold Fun at *
  refine ⟨h.1, fun w β H m B vals cs hs hl hr => ?_⟩
  obtain ⟨x, T', v, w', β', H', m', fr, ⟨T1, q1, q2, q3, q4⟩, k1, k2, k3, k4⟩ := h.2 w β H m B vals cs hs hl hr
  subst q1
  obtain ⟨T'', rfl, hsc⟩ := heapIs_eq q3
  have hml : m.length = T.length := hs.mlen
  obtain ⟨m2, H2, e1, e2, e3⟩ := SRel.dropTo T'' k1 (by rw [hml]; exact Nat.le_of_ble_eq_true hn) (by simp) hsc (by simp)
  refine ⟨x, T1, v, w', β', H2, m2, fr, q4, e1, k2.trans e2, ?_, k4⟩
  have hx := V.scB_sc x q2
  have : x.conv m2 = x.conv m' := by
    rw [e3]
    have hle : T1.length ≤ (m'.take T1.length).length := by
      have := k1.mlen
      simp at this ⊢
      omega
    conv => rhs; rw [← List.take_append_drop T1.length m']
    exact (V.conv_ext hle x hx).symm
  rw [this]
  exact k3.mono e2
end Bow
/- AE38: a row that grows for more; own slices cut; a nil slice as own memory. -/
namespace Bow
open Go

theorem run_append_zeros {P : Program} {w : World} {t t' e : TypeId} {i : TypeInfo} {z : Value} {kd kk : IntKind} (n : Nat) (ht : P.underlying t = some (.slice e)) (ht' : P.underlying t' = some (.int kd)) (hi : P.info? e = some i) (hz : i.zero = some z) (ty : TypeId)
    (_hzs : z.cells.size = i.size) (hsz : 0 < i.size) (h1 : 1 ≤ n) (h63 : n ≤ 9223372036854775807) (hb : n * i.bytes ≤ 281474976710656) (hfit : Builtin.nextslicecap n 0 * i.bytes ≤ 281474976710656) :
    (Builtin.append_ #[t, t'] ty #[.slice none 0 0, .int kk n]).run P w =
      .ok (.slice (some ⟨w.heap.size, 0, none⟩) n (grownCap w n 0 e)) (w.drew.alloc (.cells (Builtin.zeroCells z.cells n ++ Builtin.zeroCells z.cells (grownCap w n 0 e - n)) e)) := by
  have hn : ¬ (n ≤ 0) := by omega
  have hn0 : ¬ n = 0 := by omega
  have hs0 : ¬ i.size = 0 := by omega
  have e1 : IntKind.i64.max = 9223372036854775807 := by decide
  have hw : IntKind.i64.wrap (n : Int) = n := by
    rw [IntKind.wrap_i64]; omega
  have h48 : ¬ (281474976710656 < Builtin.nextslicecap n 0 * i.bytes) := by omega
  have hb' : ¬ (281474976710656 < (n : Int) * (i.bytes : Int)) := by
    have h : ((n * i.bytes : Nat) : Int) ≤ 281474976710656 := by omega
    rw [Int.natCast_mul] at h
    omega
  have h63' : ¬ ((9223372036854775807 : Int) < (n : Int)) := by omega
  have hneg : ¬ ((n : Int) < 0) := by omega
  simp [Builtin.append_, run_underlying ht, run_underlying ht', run_sizeOf' hi, typeInfo, zeroValue, hi, hz, hn0, h63', h48, hb', hneg, hw, Question.forced, newRow, grownCap, e1, asInt, asIntOf, Builtin.firstCells]
  intro h
  exact absurd h (Nat.ne_of_gt (Nat.mul_pos h1 hsz))

section
variable {c : Cx} {E : Env} {T : Heap} {ops : Array Oper} {i : Nat} {rest : List Nat} {k : List Item} {o : Oper}

theorem goes_cap0 {t e : TypeId} {x : Operand} (n : Nat) (ho : lget ops.toList i = some o) (hg : o.guard = none) (hop : o.op = .call { callee := .builtin .cap, args := #[x], argTypes := #[t] }) (hx : opd E x = .nilsl) (ht : tyU c.P t = some (.slice e))
    (h : putE c.nt o.dst (.int .i64 0) E False fun E' => evp c n (.inRegion ops rest :: k) E' T) : Goes c (.inRegion ops (i :: rest) :: k) E T := by
  refine goes_opTo n ho hg hop (OpTo.still fun o hop w β H m a hs => ⟨.int .i64 0, ?_, .int _ _⟩) (fun cl h => by cases h) h
  have hr := opd_rep hs x
  simp only [hx, V.conv] at hr
  generalize hq : a.eval x = q at hr
  cases hr
  simp [execOp, hop, resolve, invoke, builtin, Builtin.cap_, hq, run_underlying (tyU_sound ht), goInt]

theorem goes_nilcut {t e : TypeId} {x hi : Operand} {kk : IntKind} {ti : TypeInfo} (n : Nat) (ho : lget ops.toList i = some o) (hg : o.guard = none) (hop : o.op = .slice t x none (some hi) none) (hx : opd E x = .nilsl) (hh : opd E hi = .int kk 0) (ht : tyU c.P t = some (.slice e)) (hi' : tyI c.P e = some ti)
    (h : putE c.nt o.dst .nilsl E False fun E' => evp c n (.inRegion ops rest :: k) E' T) : Goes c (.inRegion ops (i :: rest) :: k) E T := by
  refine goes_opTo n ho hg hop (OpTo.still fun o hop w β H m a hs => ⟨.slice none 0 0, ?_, .nilsl⟩) (fun cl h => by cases h) h
  have hr := opd_rep hs x
  simp only [hx, V.conv] at hr
  have hr2 := rep_int (m := m) (by have := opd_rep hs hi; rwa [hh] at this)
  generalize hq : a.eval x = q at hr
  cases hr
  simp [execOp, hop, hq, hr2, Instr.sliceAt, Instr.slice, Instr.sliceBounds, Instr.sliceBound, asIntOf, run_underlying (tyU_sound ht), run_sizeOf' (tyI_sound hi')]

/-- The built-in append of so many zeros, onto nil. -/
theorem goes_growTo {t t' e : TypeId} {x y : Operand} {kd : IntKind} {ti : TypeInfo} {z : Value} (n N : Nat) (ho : lget ops.toList i = some o) (hg : o.guard = none) (hop : o.op = .call { callee := .builtin .append, args := #[x, y], argTypes := #[t, t'] }) (hx : opd E x = .nilsl) (hy : opd E y = .int .i64 N) (h1 : 1 ≤ N)
    (ht : tyU c.P t = some (.slice e)) (ht' : tyU c.P t' = some (.int kd)) (hi : tyI c.P e = some ti) (hz : ti.zero = some z) (hsz : (Nat.beq z.cells.size ti.size && Nat.ble 1 ti.size && Nat.ble 1 ti.bytes && onesB (ofVal z).cells && Nat.beq (lcount (ofVal z).cells 0) ti.size) = true) (hb : room N ti.bytes)
    (h : putE c.nt o.dst (.osl (.loc T.length) 0 0 N) E False fun E' => lsnoc T (some (.vec 0 ti.size (List.replicate N (ofVal z)))) fun T' => evp c n (.inRegion ops rest :: k) E' T') : Goes c (.inRegion ops (i :: rest) :: k) E T := by
  simp only [lsnoc_eq] at h
  simp only [Bool.and_eq_true, lcount_eq, Nat.add_zero] at hsz
  obtain ⟨⟨⟨⟨s1, s2⟩, s3⟩, s4⟩, s5⟩ := hsz
  have s1 := Nat.eq_of_beq_eq_true s1
  have s2 : 1 ≤ ti.size := Nat.le_of_ble_eq_true s2
  have s3 : 1 ≤ ti.bytes := Nat.le_of_ble_eq_true s3
  have s5 := Nat.eq_of_beq_eq_true s5
  unfold room at hb
  have hN : N ≤ 70368744177664 := Nat.le_trans (Nat.le_mul_of_pos_right N s3) hb
  refine goes_opTo n ho hg hop (fun o hop w β H m a hs => ?_) (fun cl h => by cases h) h
  have hr := opd_rep hs x
  simp only [hx, V.conv] at hr
  have e2 := rep_int (m := m) (by have := opd_rep hs y; rwa [hy] at this)
  generalize hq : a.eval x = q at hr
  cases hr
  have hrun := run_append_zeros (P := c.P) (w := w) (kk := .i64) N (tyU_sound ht) (tyU_sound ht') (tyI_sound hi) hz o.type s1 (by omega) h1 (by omega) (by omega) (growslice_fits (by omega) (by omega))
  have hge := grownCap_ge w N 0 e
  have hcm := grownCap_le_maxLen w N 0 e (by unfold maxLen; omega)
  obtain ⟨cap, hcap⟩ : ∃ cap, cap = grownCap w N 0 e := ⟨_, rfl⟩
  rw [← hcap] at hge hcm hrun
  have hzr : RowRep w β H (V.convL m (ofVal z).cells) z.cells.toList := ofVal_row m z
  have hzp : V.convL m (ofVal z).cells = (ofVal z).cells := by
    refine pureL_conv m _ ?_
    have key1 : ∀ v, (ofVal1 v).pureB = true := fun v => by
      unfold ofVal1
      split <;> first | rfl | skip
      cases (Nat.ble _ 1000000) <;> rfl
    have key : ∀ l : List Value, V.pureL (lmap ofVal1 l) = true := fun l => by
      induction l with
      | nil => rfl
      | cons x l ih => simp only [lmap, V.pureL, key1, ih, Bool.and_self]
    unfold ofVal
    split
    · exact key _
    · rw [ofVal1_cells]
      simp [V.pureL, key1]
  rw [hzp] at hzr
  have hsame : SRel c.imps c.nt w.drew β H m ⟨E, T, c.B, c.D⟩ a := hs.same (Fr.of_heap rfl rfl rfl rfl) (hs.hrel.of_heap rfl rfl rfl rfl)
  obtain ⟨cells, hcells⟩ : ∃ cells, cells = Builtin.zeroCells z.cells N ++ Builtin.zeroCells z.cells (cap - N) := ⟨_, rfl⟩
  rw [← hcells] at hrun
  have hcs : cells.size = cap * ti.size := by
    rw [hcells]
    simp only [Array.size_append, zeroCells_size', s1, ← Nat.add_mul]
    congr 1
    omega
  obtain ⟨β', H', k1, k2, k3⟩ := hsame.newVec 0 ti.size (List.replicate N (ofVal z)) cells e N cap (tyG_zero _) s2 (fun x hx => by rw [List.eq_of_mem_replicate hx]; exact ⟨s5, s4⟩) (by simp) hge hcm hcs.symm
    (fun ix x j cc v hx hj hv => by
      have hxl := lt_of_get hx
      rw [List.length_replicate] at hxl
      have hxe := List.eq_of_mem_replicate (List.mem_of_getElem? hx)
      subst hxe
      have hjl := lt_of_get hj
      have hlt : ix * ti.size + j < N * ti.size := by
        have : (ix + 1) * ti.size ≤ N * ti.size := Nat.mul_le_mul_right _ hxl
        rw [Nat.add_mul] at this
        omega
      rw [hcells, Array.getElem?_append_left (by rw [zeroCells_size', s1]; exact hlt)] at hv
      have hget : (Builtin.zeroCells z.cells N)[ix * ti.size + j]? = some z.cells[(ix * ti.size + j) % z.cells.size]! := by
        simp [Builtin.zeroCells, s1, hlt]
      rw [hget] at hv
      injection hv with hv
      have hmod : (ix * ti.size + j) % z.cells.size = j := by rw [s1, Nat.add_comm, Nat.add_mul_mod_self_right, Nat.mod_eq_of_lt (by omega)]
      rw [hmod] at hv
      refine (hzr.2 j cc v hj ?_).mono (Fr.of_heap rfl rfl rfl rfl)
      rw [← hv]
      have : j < z.cells.size := by omega
      simp [this])
  refine ⟨_, _, _, β', H', _, ?_, .inl rfl, k1, (show Fr w β H w.drew β H from Fr.of_heap rfl rfl rfl rfl).trans k2, k3, List.prefix_append _ _⟩
  rw [← hq, ← e2] at hrun
  simp [execOp, hop, resolve, invoke, builtin, hrun]

/-- An own slice, cut behind its first elements: of the next generation. -/
theorem goes_cut {t e : TypeId} {x hi : Operand} {kk : IntKind} {ti : TypeInfo} {kn g l sz h : Nat} {xs : List V} (n : Nat) (ho : lget ops.toList i = some o) (hg : o.guard = none) (hop : o.op = .slice t x none (some hi) none) (hx : opd E x = .osl (.loc kn) g 0 l) (hh : opd E hi = .int kk h) (ht : tyU c.P t = some (.slice e)) (hi' : tyI c.P e = some ti)
    (hk : lget T kn = some (some (.vec g sz xs))) (hle : h ≤ l)
    (hn : putE c.nt o.dst (.osl (.loc kn) (bump g) 0 h) E False fun E' => lset T kn (some (.vec (bump g) sz (xs.take h))) fun T' => evp c n (.inRegion ops rest :: k) E' T') : Goes c (.inRegion ops (i :: rest) :: k) E T := by
  simp only [lset_eq] at hn
  rw [lget_eq] at hk
  refine goes_opTo n ho hg hop (fun o hop w β H m a hs => ?_) (fun cl h => by cases h) hn
  have hv := opd_rep hs x
  obtain ⟨r, hr, hH⟩ := hs.at hk
  simp only [hx, V.conv, Ref.conv, hr] at hv
  simp only [HObj.conv] at hH
  have hob := hs.hrel.obj r _ hH
  have hrl := hs.lt hr
  have e2 := rep_int (m := m) (by have := opd_rep hs hi; rwa [hh] at this)
  have hvec2 : ∀ sz2 xs2, H[r]? = some (some (.vec g sz2 xs2)) → sz2 = sz ∧ xs2 = xs := fun sz2 xs2 h2 => by
    rw [hH] at h2
    injection h2 with h2
    injection h2 with h2
    injection h2 with _ e1 e2
    exact ⟨e1.symm, e2.symm⟩
  generalize hq : a.eval x = q at hv
  have hrun : ∀ (ad : Option Addr) (cap : Nat), q = .slice ad l cap → l ≤ cap → (execOp a.eval o).run c.P w = .ok (.value (.slice (if cap = 0 then ad else Option.map (fun x => x.add 0) ad) h cap)) w := by
    intro ad cap hqe hlc
    subst hqe
    have hhc : h ≤ cap := by omega
    simp [execOp, hop, hq, e2, Instr.sliceAt, Instr.slice, Instr.sliceBounds, Instr.sliceBound, asIntOf, run_underlying (tyU_sound ht), run_sizeOf' (tyI_sound hi'), hhc]
  cases hv with
  | oslNil _ _ sz2 xs2 ad hH' hβ =>
    rw [hβ] at hob
    have hxs : xs = [] := hob
    subst hxs
    obtain rfl : h = 0 := by omega
    have hfr : Fr w β H w (upd β r .nil) (H.set r (some (.vec (bump g) sz ([] : List V)))) := Fr.regen (lt_bump g) (by rw [hβ]; simp) hH rfl rfl rfl (Nat.le_refl _) (fun _ _ _ => rfl) (fun b N hb => by cases hb)
    have hrel : HRel w (upd β r .nil) (H.set r (some (.vec (bump g) sz ([] : List V)))) := hs.hrel.regen (lt_bump g) (by rw [hβ]; simp) hH rfl rfl rfl (Nat.le_refl _) (fun _ _ _ => rfl) (fun b N hb => by cases hb) rfl
    refine ⟨_, _, w, _, _, m, hrun ad 0 rfl (Nat.le_refl _), .inl rfl, by simpa using hs.regen hk hr hfr hrel, hfr, ?_, List.prefix_refl _⟩
    simp only [V.conv, Ref.conv, hr]
    exact .oslNil r _ sz [] _ (by simp [hrl]) (upd_same _ _ _)
  | oslBlk _ _ _ _ sz2 xs2 b N ad cap hH' hβ hl hN hcap ha hlen =>
    obtain ⟨rfl, rfl⟩ := hvec2 _ _ hH'
    rw [hβ] at hob
    obtain ⟨vs, et, _, h1, h2, h3, h4, h5, h6⟩ := hob
    have hl' : ∀ b' N', Loc.blk b N = Loc.blk b' N' → w.heap.size ≤ b' ∨ ∃ N2, β r = .blk b' N2 := fun b' N' hb' => by injection hb' with e1 e2; subst e1; exact .inr ⟨N, hβ⟩
    have hfr : Fr w β H w (upd β r (.blk b N)) (H.set r (some (.vec (bump g) sz2 (xs2.take h)))) := Fr.regen (lt_bump g) (by rw [hβ]; simp) hH rfl rfl rfl (Nat.le_refl _) (fun _ _ _ => rfl) hl'
    have hrel : HRel w (upd β r (.blk b N)) (H.set r (some (.vec (bump g) sz2 (xs2.take h)))) :=
      hs.hrel.regen (lt_bump g) (by rw [hβ]; simp) hH rfl rfl rfl (Nat.le_refl _) (fun _ _ _ => rfl) hl'
        ⟨vs, et, tyG_bump _ _, h1, h2, Nat.le_trans (Nat.mul_le_mul_right _ (by simp; omega)) h3, h4, fun x hx => h5 x (List.mem_of_mem_take hx), fun p x j c v hi hj hv => by
          rw [List.getElem?_take] at hi
          split at hi
          · exact (h6 p x j c v hi hj hv).mono hfr
          · cases hi⟩
    refine ⟨_, _, w, _, _, m, hrun ad cap rfl hl, .inl rfl, hs.regen hk hr hfr hrel, hfr, ?_, List.prefix_refl _⟩
    simp only [V.conv, Ref.conv, hr]
    exact .oslBlk r _ 0 _ sz2 (xs2.take h) b N _ _ (by simp [hrl]) (upd_same _ _ _) (by omega) hN hcap (fun hc => by
      rw [if_neg (by omega), ha hc]
      simp [at_add]) (by simp; omega)
  | oslStale _ _ _ _ g' sz' xs' _ hH' hg =>
    rw [hH] at hH'
    injection hH' with hH'
    injection hH' with hH'
    injection hH' with e0 _ _
    omega
  | oslDead _ _ _ _ _ hd => rw [hH] at hd; cases hd
end

/-- A nil slice, as own memory. -/
theorem goes_own {c : Cx} {todo : List Item} {E : Env} {T : Heap} (t sz : Nat) (hx : lk E t = .nilsl) (h : Goes c todo ((t, .osl (.loc T.length) 0 0 0) :: E) (T ++ [some (.vec 0 sz [])])) : Goes c todo E T := by
  refine goes_step fun w β H m a b cs hs _ _ _ => ?_
  obtain ⟨β', H', k1, k2, k3⟩ := hs.newNil 0 sz none
  have hr := hs.env t
  simp only [hx, V.conv] at hr
  generalize hq : a.tmps.getD t Go.undef = q at hr
  cases hr
  refine ⟨w, β', H', m ++ [H.length], a, todo, ⟨(t, .osl (.loc T.length) 0 0 0) :: E, T ++ [some (.vec 0 sz [])], c.B, c.D⟩, .refl _ _, ?_, k2, h⟩
  refine { k1 with env := fun j => ?_, scE := fun p hp => ?_ }
  · simp only [lk]
    cases hb : Nat.beq t j with
    | false => exact k1.env j
    | true =>
      obtain rfl := Nat.eq_of_beq_eq_true hb
      simp only [cond_true, hq]
      exact k3
  · simp only [List.mem_cons] at hp
    rcases hp with rfl | hp
    · show T.length < (T ++ _).length
      simp
    · exact k1.scE p hp
end Bow
/- AE39: a box whose cells are to say less. -/
namespace Bow
open Go

theorem goes_wkbox {c : Cx} {todo : List Item} {E : Env} {T : Heap} (k : Nat) {cs : List V} (cs' : List V) (hk : lget T k = some (some (.box cs))) (hp : V.pureL cs = true) (hp' : V.pureL cs' = true) (hw : WkL cs cs')
    (h : lset T k (some (.box cs')) fun T' => Goes c todo E T') : Goes c todo E T := by
  rw [lset_eq] at h
  rw [lget_eq] at hk
  refine goes_step fun w β H m a b cs0 hs _ _ _ => ?_
  obtain ⟨r, hr, hH⟩ := hs.at hk
  simp only [HObj.conv] at hH
  have hob := hs.hrel.obj r _ hH
  have hc : V.convL m cs = cs := pureL_conv m _ hp
  have hc' : V.convL m cs' = cs' := pureL_conv m _ hp'
  have hfr : Fr w β H w β (H.set r (some ((HObj.box cs').conv m))) := Fr.swap hH trivial
  have hrel : HRel w β (H.set r (some ((HObj.box cs').conv m))) := by
    refine hs.hrel.swap hH trivial ?_
    simp only [HObj.conv]
    cases hβ : β r with
    | none => trivial
    | nil => rw [hβ] at hob; exact hob
    | blk bb N =>
      rw [hβ] at hob
      obtain ⟨vs, e, q1, q2, q3, q4⟩ := hob
      rw [hc] at q3 q4
      refine ⟨vs, e, q1, q2, by rw [hc', hw.len]; exact q3, fun i x v hi hv => ?_⟩
      rw [hc'] at hi
      obtain ⟨x0, h1, h2⟩ := hw.get i x hi
      exact (h2 w β H v (q4 i x0 v h1 hv)).mono (by rw [← HObj.conv]; exact hfr)
  have hset := hs.setAt (o' := some (.box cs')) (w' := w) hr (fun o1 e1 => by
      injection e1 with e1
      subst e1
      have h1 := hc'
      exact (V.scL_iff _ _).2 fun v hv => pureSc _ v (pureL_mem _ hp' v hv))
    (fun hm => absurd hm (hs.notD hk (by simp))) hfr hrel
  exact ⟨w, β, _, m, a, todo, ⟨E, _, c.B, c.D⟩, .refl _ _, hset, hfr, h⟩
end Bow
/- AE40: a function's contract out of a walk by the kit's own tactics: all that it wrote lies in new memory. -/
namespace Bow
open Go

theorem pure_of_calls {P : Program} {f : FuncId} {args : List V} {Q : V → Prop} (he : Enterable P f) (hp : V.pureL args = true)
    (h : ∀ (w : World) (β : Nat → Loc) (H : Heap) (vals : Array Value), args.length = vals.size → (∀ (j : Nat) (x : V) (v : Value), args[j]? = some x → vals[j]? = some v → Rep w β H x v) →
      Calls P f vals w fun e w' => RowKit.Below w.heap.size w w' ∧ ∃ (x : V) (v : Value), e = .returned v ∧ Q x ∧ x.pureB = true ∧ Rep w' β H x v) : Pure P f args Q := by
  unfold Pure Fun
  refine ⟨he, fun w β H m B vals cs hs hl hr => ?_⟩
  obtain ⟨e, w', fr, ⟨hb, x, v, rfl, hq, hx, hv⟩, k1, k2, k3⟩ := h w β H vals hl (fun j x v hj hv => by
    have := hr j x v hj hv
    rwa [pure_conv _ _ (pureL_mem _ hp x (List.mem_of_getElem? hj))] at this) cs
  refine ⟨x, [], v, w', β, H, m, fr, ⟨rfl, hx, hq⟩, hs.same (Fr.of_below hb) (hs.hrel.of_below hb), Fr.of_below hb, ?_, k1, k2, k3⟩
  rwa [pure_conv _ _ hx]

def flatL : List V → Bool
  | [] => true
  | v :: vs => flatB v && flatL vs
theorem flatL_get : ∀ {vs : List V}, flatL vs = true → ∀ v ∈ vs, flatB v = true
  | [], _, v, h => by cases h
  | x :: vs, hg, v, h => by
    simp only [flatL, Bool.and_eq_true] at hg
    rcases List.mem_cons.1 h with rfl | h
    · exact hg.1
    · exact flatL_get hg.2 v h

section
variable {P : Program} {w w' : World} {β β' : Nat → Loc} {H H' : Heap}
theorem Rep.flat_sl {sz : Nat} {xs : List V} {v : Value} (hx : ∀ x ∈ xs, flatL x.cells = true) (h : Rep w β H (.sl sz xs) v) : Rep w β0 [] (.sl sz xs) v := by
  cases h with
  | sl _ _ a cap vals hcap hmax hsz ha hr =>
    refine .sl sz xs a cap vals hcap hmax hsz (fun hne => ?_) (fun i x j c hi hj => ?_)
    · obtain ⟨ad, h1, _, h3⟩ := ha hne
      exact ⟨ad, h1, notOwn0 _, h3⟩
    · exact (hr i x j c hi hj).flat (flatL_get (hx x (List.mem_of_getElem? hi)) c (List.mem_of_getElem? hj))
/-- What a slice's cells hold. -/
theorem sl_cells {sz : Nat} {xs : List V} {v : Value} (h : Rep w β H (.sl sz xs) v) : ∃ (a : Option Addr) (cap : Nat), v = .slice a xs.length cap ∧ xs.length ≤ cap ∧ cap ≤ maxLen ∧
    (xs ≠ [] → ∃ ad, a = some ad ∧ ad.block < w.heap.size ∧ ∀ (i : Nat) (x : V) (j : Nat) (c : V), xs[i]? = some x → x.cells[j]? = some c → ∃ u, w.cell? (ad.add (i * sz + j)) = some u ∧ Rep w β H c u) := by
  cases h with
  | sl _ _ a cap vals hcap hmax hsz ha hr =>
    refine ⟨a, cap, rfl, hcap, hmax, fun hne => ?_⟩
    obtain ⟨ad, h1, _, h3, h4⟩ := ha hne
    refine ⟨ad, h1, h3, fun i x j c hi hj => ⟨_, h4 _ ?_, hr i x j c hi hj⟩⟩
    have h5 : i < xs.length := lt_of_get hi
    have h6 : j < sz := by rw [← (hsz x (List.mem_of_getElem? hi)).1]; exact lt_of_get hj
    have : (i + 1) * sz ≤ xs.length * sz := Nat.mul_le_mul_right sz h5
    rw [Nat.succ_mul] at this
    omega

theorem calls_of_pureQ {f : FuncId} {args : List V} {vals : Array Value} {Q : V → Prop} {c : Value} (h : Pure P f args Q) (hc : ∀ (x : V) (v : Value) (w' : World) (β' : Nat → Loc) (H' : Heap), Q x → Rep w' β' H' x v → v = c) (hp : V.pureL args = true) (hl : args.length = vals.size)
    (hr : ∀ (j : Nat) (x : V) (v : Value), args[j]? = some x → vals[j]? = some v → Rep w β H x v) : Calls P f vals w fun e w' => e = .returned c ∧ RowKit.Below w.heap.size w w' := by
  intro cs
  obtain ⟨x, v, w', β', H', fr, hq, _, k3, hb, k4, k5, k6⟩ := pure_still h hp cs hl hr
  have hv := hc x v _ _ _ hq k3
  subst hv
  exact ⟨.returned v, w', fr, ⟨rfl, hb⟩, k4, k5, k6⟩

/-- A call that is handed own slices, and hands back a number, a truth value or a text: they stay own. -/
theorem call_flat {c : Cx} {g : FuncId} {args : List V} {E : Env} {T : Heap} {K : V → St → Prop} (h : frzAll args T False fun args' _ => ∃ x, Pure c.P g args' (fun y => y = x) ∧ V.pureL args' = true ∧ flatB x = true ∧ K x ⟨E, T, c.B, c.D⟩) : CallThen c g args E T K := by
  rcases frzAll_sound (F := False) _ _ _ h with h | ⟨args', T', ⟨x, hf, ha, hx, hk⟩, hz⟩
  · exact h.elim
  have hen : Enterable c.P g := by
    unfold Pure Fun at hf
    exact hf.1
  unfold CallThen
  refine ⟨hen, fun w β H m a vals cs hs hl hr => ?_⟩
  obtain ⟨H1, q1, q2, q3⟩ := hz.2 _ _ _ _ _ _ _ _ _ _ hs
  obtain ⟨y, v, w', β', H', fr, rfl, hp, g3, hb, g4, g5, g6⟩ := pure_still hf ha cs (by rw [hz.1]; exact hl) (fun j x v hj hv => by
    have hjl : j < args.length := by have := lt_of_get hj; rw [hz.1] at this; exact this
    have e := List.getElem?_eq_getElem hjl
    exact q3 j _ x v e hj (hr j _ v e hv))
  have g2' : Fr w β H w' β H := Fr.of_below hb
  exact ⟨y, _, v, w', β, H, m, fr, hk, hs.same g2' (hs.hrel.of_below hb), g2', by rw [pure_conv _ _ hp]; exact g3.flat hx, g4, g5, g6, List.prefix_refl _⟩
end
end Bow
/- AE41: shifts to the right; a string's comparison. -/
namespace Bow
open Go

section
variable {c : Cx} {E : Env} {T : Heap} {ops : Array Oper} {i : Nat} {rest : List Nat} {k : List Item} {o : Oper}
theorem goes_shr {t t' : TypeId} {x y : Operand} {ik yk : IntKind} {a b : Int} (n : Nat) (ho : lget ops.toList i = some o) (hg : o.guard = none) (hop : o.op = .binOp .shr t x y t') (hx : opd E x = .int ik a) (hy : opd E y = .int yk b) (hb : 0 ≤ b)
    (h : putE c.nt o.dst (.int ik (a / 2 ^ min b.toNat ik.bits)) E False fun E' => evp c n (.inRegion ops rest :: k) E' T) : Goes c (.inRegion ops (i :: rest) :: k) E T := by
  refine goes_opTo n ho hg hop (fun o hop w β H m a hs => ?_) (fun cl h => by cases h) h
  have e1 := rep_int (by have := opd_rep hs x; rwa [hx] at this)
  have e2 := rep_int (by have := opd_rep hs y; rwa [hy] at this)
  refine ⟨_, _, w, β, H, m, ?_, .inl rfl, hs, Fr.refl w β H, .int _ _, List.prefix_refl m⟩
  simp only [execOp, hop, e1, e2, eqGuard, binOp, shift_shr_any _ _ _ _ hb]
  rfl
/-- A slot's value, said less closely. -/
theorem goes_wkSlot {todo : List Item} (t : Nat) {v v' : V} (hx : lk E t = v) (hp : v.pureB = true) (hp' : v'.pureB = true) (hw : Wk v v') (h : Goes c todo ((t, v') :: E) T) : Goes c todo E T := by
  refine goes_step fun w β H m a b cs hs _ _ _ => ?_
  have hr := hs.env t
  rw [hx, pure_conv _ _ hp] at hr
  have hr' := hw w β H _ hr
  exact ⟨w, β, H, m, a, todo, ⟨_, _, c.B, c.D⟩, .refl _ _, hs.know (x := v') (by rw [pure_conv _ _ hp']; exact hr'), Fr.refl w β H, h⟩
/-- An own slice, frozen, as one slot holds it; what else names it is of no use from here on. -/
theorem goes_fzSlot {todo : List Item} (t kn : Nat) {g l sz : Nat} {xs : List V} (hx : lk E t = .osl (.loc kn) g 0 l) (hk : lget T kn = some (some (.vec g sz xs))) (hl : l = xs.length) (h : lset T kn none fun T' => Goes c todo ((t, .sl sz xs) :: E) T') : Goes c todo E T := by
  rw [lset_eq] at h
  have hfz : frzAll [lk E t] T False fun vs T' => vs = [.sl sz xs] ∧ T' = T.set kn none := by
    rw [hx]
    simp only [frzAll, fv_eq, frz, frz1, hk, lset_eq]
    exact ⟨trivial, hl, trivial, trivial⟩
  rcases frzAll_sound (F := False) _ _ _ hfz with h' | ⟨vs', T', ⟨rfl, rfl⟩, hto⟩
  · exact h'.elim
  refine goes_step fun w β H m a b cs hs _ _ _ => ?_
  obtain ⟨H1, q1, q2, q3⟩ := hto.2 _ _ _ _ _ _ _ _ _ _ hs
  have hr := q3 0 _ _ _ rfl rfl (hs.env t)
  exact ⟨w, β, H1, m, a, todo, ⟨_, _, c.B, c.D⟩, .refl _ _, q1.know (x := .sl sz xs) (show Rep w β H1 ((V.sl sz xs).conv m) _ from hr), q2, h⟩
end
end Bow
/- AE42: nil in a row of cells as own memory; own slices cut ahead; a pointer into own memory is not nil. -/
namespace Bow
open Go

section
variable {c : Cx} {E : Env} {T : Heap} {ops : Array Oper} {i : Nat} {rest : List Nat} {k : List Item} {o : Oper}
theorem convL_get (m : List Nat) (cs : List V) (j : Nat) : (V.convL m cs)[j]? = cs[j]?.map (V.conv m) := by
  rw [V.convL_eq, List.getElem?_map]
theorem convL_set (m : List Nat) (cs : List V) (j : Nat) (x : V) : V.convL m (cs.set j x) = (V.convL m cs).set j (x.conv m) := by
  rw [V.convL_eq, V.convL_eq, List.map_set]

/-- A nil slice in a box, as own memory. -/
theorem goes_ownCell {todo : List Item} {cs : List V} (kb j sz : Nat) (hk : lget T kb = some (some (.box cs))) (hj : cs[j]? = some .nilsl) (h : Goes c todo E (List.set (T ++ [some (HObj.vec 0 sz [])]) kb (some (HObj.box (cs.set j (.osl (.loc T.length) 0 0 0)))))) : Goes c todo E T := by
  rw [lget_eq] at hk
  refine goes_step fun w β H m a b cs0 hs _ _ _ => ?_
  obtain ⟨β', H', k1, k2, k3⟩ := hs.newNil 0 sz none
  have hk2 : (T ++ [some (HObj.vec 0 sz [])])[kb]? = some (some (.box cs)) := by rw [List.getElem?_append_left (lt_of_get hk)]; exact hk
  obtain ⟨r, hr, hH⟩ := k1.at hk2
  have hob := k1.hrel.obj r _ hH
  have hfr : Fr w β' H' w β' (H'.set r (some ((HObj.box (cs.set j (.osl (.loc T.length) 0 0 0))).conv (m ++ [H.length])))) := Fr.swap hH trivial
  have hrel : HRel w β' (H'.set r (some ((HObj.box (cs.set j (.osl (.loc T.length) 0 0 0))).conv (m ++ [H.length])))) := by
    refine k1.hrel.swap hH trivial ?_
    simp only [HObj.conv]
    cases hβ : β' r with
    | none => trivial
    | nil => rw [hβ] at hob; exact hob
    | blk bb N =>
      rw [hβ] at hob
      obtain ⟨vs, e, q1, q2, q3, q4⟩ := hob
      refine ⟨vs, e, q1, q2, by rw [convL_set, List.length_set]; exact q3, fun i x v hi hv => ?_⟩
      rw [convL_set, List.getElem?_set] at hi
      split at hi
      · rename_i hji
        subst hji
        split at hi
        · injection hi with hi
          subst hi
          have h0 := q4 j .nilsl v (by rw [convL_get, hj]; rfl) hv
          cases h0
          exact k3.mono hfr
        · cases hi
      · exact (q4 i x v hi hv).mono hfr
  have hset := k1.setAt (o' := some (.box (cs.set j (.osl (.loc T.length) 0 0 0)))) (w' := w) hr (fun o1 e1 => by
      injection e1 with e1
      subst e1
      have hm : m.length = T.length := hs.mlen
      have hsc := hs.scT kb _ hk
      show V.scL _ _
      rw [V.scL_iff]
      have hsc' := (V.scL_iff _ _).1 hsc
      intro v hv
      rcases List.mem_or_eq_of_mem_set hv with hv | hv
      · exact V.sc_mono (by simp; omega) v (hsc' v hv)
      · subst hv
        show T.length < (m ++ [H.length]).length
        simp only [List.length_append, List.length_singleton]
        omega)
    (fun hm => absurd hm (k1.notD hk2 (by simp))) hfr hrel
  exact ⟨w, β', _, m ++ [H.length], a, todo, ⟨E, _, c.B, c.D⟩, .refl _ _, hset, k2.trans hfr, h⟩

/-- A pointer into own memory is not nil. -/
theorem goes_nilE {x : Operand} {kn g sz ix off : Nat} {xs : List V} (n : Nat) (ho : lget ops.toList i = some o) (hg : o.guard = none) (hop : o.op = .nilCheck x) (hx : opd E x = .eptr (.loc kn) g ix off) (hk : lget T kn = some (some (.vec g sz xs)))
    (hn : putE c.nt o.dst (.eptr (.loc kn) g ix off) E False fun E' => evp c n (.inRegion ops rest :: k) E' T) : Goes c (.inRegion ops (i :: rest) :: k) E T := by
  rw [lget_eq] at hk
  refine goes_opTo n ho hg hop (fun o hop w β H m a hs => ?_) (fun cl h => by cases h) hn
  have hv := opd_rep hs x
  obtain ⟨r, hr, hH⟩ := hs.at hk
  simp only [hx, V.conv, Ref.conv, hr] at hv
  simp only [HObj.conv] at hH
  generalize hq : a.eval x = q at hv
  cases hv with
  | eptrLive _ _ _ _ sz2 xs2 b N hH' hβ hi =>
    refine ⟨_, _, w, β, H, m, by simp [execOp, hop, hq]; rfl, .inl rfl, hs, Fr.refl w β H, ?_, List.prefix_refl _⟩
    simp only [V.conv, Ref.conv, hr]
    exact .eptrLive r g ix off sz2 xs2 b N hH' hβ hi
  | eptrStale _ _ _ _ g' sz' xs' _ hH' hg =>
    rw [hH] at hH'
    injection hH' with hH'
    injection hH' with hH'
    injection hH' with e0 _ _
    omega
  | eptrDead _ _ _ _ _ hd => rw [hH] at hd; cases hd
end

end Bow
/- AE58: own memory whose elements are to say less. -/
namespace Bow
open Go

end Bow
/- AE43: own memory that stands elsewhere, read: its length, an element's place, what lies there; pointers held against nil; a range over a function that holds own objects. -/
namespace Bow
open Go

section
variable {c : Cx} {E : Env} {T : Heap} {ops : Array Oper} {i : Nat} {rest : List Nat} {k : List Item} {o : Oper}

theorem goes_lenA {t e : TypeId} {x : Operand} {r g off l sz : Nat} {xs : List V} (n : Nat) (ho : lget ops.toList i = some o) (hg : o.guard = none) (hop : o.op = .call { callee := .builtin .len, args := #[x], argTypes := #[t] }) (hx : opd E x = .osl (.abs r) g off l)
    (ht : tyU c.P t = some (.slice e)) (hi : r ∉ c.imps) (hB : c.B r = some (.vec g sz xs)) (h : putE c.nt o.dst (.int .i64 l) E False fun E' => evp c n (.inRegion ops rest :: k) E' T) : Goes c (.inRegion ops (i :: rest) :: k) E T := by
  refine goes_opTo n ho hg hop (OpTo.still fun o hop w β H m a hs => ⟨.int .i64 l, ?_, .int _ _⟩) (fun cl h => by cases h) h
  have hr := opd_rep hs x
  have hH : H[r]? = some (some (.vec g sz xs)) := hs.baseAt hi hB
  simp only [hx, V.conv, Ref.conv] at hr
  generalize hq : a.eval x = q at hr
  cases hr with
  | oslNil => simp [execOp, hop, resolve, invoke, builtin, Builtin.len_, hq, run_underlying (tyU_sound ht), goInt]
  | oslBlk => simp [execOp, hop, resolve, invoke, builtin, Builtin.len_, hq, run_underlying (tyU_sound ht), goInt]
  | oslStale _ _ _ _ g' sz' xs' _ hH' hg =>
    rw [hH] at hH'
    injection hH' with hH'
    injection hH' with hH'
    injection hH' with e0 _ _
    omega
  | oslDead _ _ _ _ _ hd => rw [hH] at hd; cases hd

theorem goes_indexA {t e : TypeId} {x ix : Operand} {r g off l sz : Nat} {xs : List V} {kk : IntKind} {j : Int} {ti : TypeInfo} (n : Nat) (ho : lget ops.toList i = some o) (hg : o.guard = none) (hop : o.op = .indexAddr t x ix) (hx : opd E x = .osl (.abs r) g off l) (hix : opd E ix = .int kk j)
    (ht : tyU c.P t = some (.slice e)) (hti : tyI c.P e = some ti) (hsz : (Nat.beq sz ti.size && Nat.ble 1 sz) = true) (hi : r ∉ c.imps) (hB : c.B r = some (.vec g sz xs)) (h0 : 0 ≤ j) (hl : j < l)
    (h : putE c.nt o.dst (.eptr (.abs r) g (off + j.toNat) 0) E False fun E' => evp c n (.inRegion ops rest :: k) E' T) : Goes c (.inRegion ops (i :: rest) :: k) E T := by
  simp only [Bool.and_eq_true] at hsz
  have hsz := Nat.eq_of_beq_eq_true hsz.1
  refine goes_opTo n ho hg hop (OpTo.still fun o hop w β H m a hs => ?_) (fun cl h => by cases h) h
  have h1 := opd_rep hs x
  have h2 := opd_rep hs ix
  have hH : H[r]? = some (some (.vec g sz xs)) := hs.baseAt hi hB
  simp only [hx, V.conv, Ref.conv] at h1
  simp only [hix] at h2
  have e2 := rep_int h2
  generalize hq : a.eval x = q at h1
  cases h1 with
  | oslNil _ _ _ _ _ hH' hβ => omega
  | oslBlk _ _ _ _ sz' xs' b N ad cap hH' hβ hl' hN hcap ha hlen =>
    rw [hH] at hH'
    injection hH' with hH'
    injection hH' with hH'
    injection hH' with _ e3 e4
    subst e3 e4
    have := ha (by omega)
    subst this
    refine ⟨.pointer (some ⟨b, (off + j.toNat) * sz, none⟩), ?_, ?_⟩
    · have : (⟨b, off * sz, none⟩ : Addr).add (j.toNat * sz) = ⟨b, (off + j.toNat) * sz, none⟩ := by rw [add_none, Nat.add_mul]
      simp [execOp, hop, hq, e2, Instr.indexAt, asIntOf, run_underlying (tyU_sound ht), h0, hl, run_sizeOf' (tyI_sound hti), ← hsz, this]
    · simp only [V.conv, Ref.conv]
      exact .eptrLive r g _ 0 sz xs b N hH hβ (by omega)
  | oslStale _ _ _ _ g' sz' xs' _ hH' hg =>
    rw [hH] at hH'
    injection hH' with hH'
    injection hH' with hH'
    injection hH' with e0 _ _
    omega
  | oslDead _ _ _ _ _ hd => rw [hH] at hd; cases hd

/-! ### Pointers held against nil -/
end
end Bow
/- AE44: regions that draw their order and hold a call that hands back own memory. -/
namespace Bow
open Go

/-- A call that hands back a slice of own memory, into a reserved name. -/
theorem fact_call_make {c : Cx} {ops : Array Oper} {i : Nat} {o : Oper} {E : Env} {T : Heap} {gs : List Tmp} {f : Operand} {args : Array Operand} {ts : Array TypeId} {g : FuncId} {first cap : List V} {p sz : Nat} {xs : List V} (ho : ops[i]? = some o) (hg : Guarded ops o E gs true)
    (hop : o.op = .call { callee := .value f, args := args, argTypes := ts }) (hf : opd E f = .fn (.func g) first cap) (ha : V.pureL (first ++ args.toList.map (opd E) ++ cap) = true) (hd : T[p]? = some (some (.vec 0 0 [])))
    (h : Fun c.P g [] (first ++ args.toList.map (opd E) ++ cap) fun x T' => ∃ g0, x = .osl (.loc 0) g0 0 xs.length ∧ T' = [some (.vec g0 sz xs)]) :
    Fact c ops i E T ⟨o.dst, gs ++ tmpsOf o.op.operands.toList, [], .osl (.loc p) 2 0 xs.length, [(p, some (.vec 2 sz xs))], some p⟩ := by
  intro E' T' e1 e2 e3 w β H m a b cs rest k hs b1 b2 b4
  obtain ⟨q, q1, q2, q3⟩ := b4 p rfl
  have hag := opd_agree (E := E) (E' := E') (xs := o.op.operands.toList) fun t ht => e2 t (List.mem_append_right _ ht)
  rw [hop] at hag
  have hf' : opd E' f = .fn (.func g) first cap := by rw [hag f (by simp [Op.operands, Call.operands])]; exact hf
  have ha' : args.toList.map (opd E') = args.toList.map (opd E) := List.map_congr_left fun z hz => hag z (by simp [Op.operands, Call.operands]; exact .inr (by simpa using hz))
  obtain ⟨va, vc, hq, hl, hr⟩ := fn_rep hs hf' args
  rw [ha'] at hl hr
  unfold Fun at h
  obtain ⟨hen, h⟩ := h
  have hs0 : SRel [] 0 w β H [] ⟨[], [], fun r => (H[r]?).getD none, []⟩ bare := by
    refine ⟨hs.hrel, rfl, fun k => by simp [lk, V.conv]; exact .undef _, rfl, List.nodup_nil, by simp, rfl, fun r h _ => ?_, fun r h1 => ?_, by simp, by simp, by simp, rfl, by simp⟩
    · simp [h]
    · simp [List.getElem?_eq_none h1]
  obtain ⟨x, T1, v, w', β', H', m', fr, ⟨g0, rfl, rfl⟩, k1, k2, k3, k4, k5, k6⟩ := h w β H [] _ _ (b.atR a (.inRegion ops (i :: rest) :: k) :: cs) hs0 hl (fun j x v hj hv => by
    have h1 := hr j x v hj hv
    have hx := pureL_mem' _ ha x (List.mem_of_getElem? hj)
    rw [pure_conv _ _ hx] at h1 ⊢
    exact h1)
  have hm1 : m'.length = 1 := k1.mlen
  obtain ⟨r', rfl⟩ : ∃ r', m' = [r'] := by
    match m', hm1 with
    | [r'], _ => exact ⟨r', rfl⟩
  have hr' : H'[r']? = some (some (.vec g0 sz xs)) := k1.loc 0 r' _ rfl rfl
  have hr'l := lt_of_get hr'
  have hnew : H.length ≤ r' := by
    rcases Nat.lt_or_ge r' H.length with h1 | h1
    · exfalso
      obtain ⟨o1, ho1, _⟩ := k2.evo r' _ h1 hr'
      have h2 : (H[r']?).getD none = none := k1.own 0 r' (Nat.zero_le _) rfl
      rw [ho1] at h2
      cases h2
    · exact h1
  have hql := hs.lt q1
  have hqr : q ≠ r' := fun e => by omega
  have hHq : H[q]? = some (some (.vec 0 0 [])) := hs.loc p q _ q1 (q3.trans hd)
  have hlen : H.length ≤ H'.length := k2.len
  have hbase : ∀ r, r < H'.length → r ≠ r' → H'[r]? = some ((H[r]?).getD none) := fun r hr hne => k1.base r hr (by simpa using hne)
  have hold : ∀ r, r < H.length → H'[r]? = H[r]? := fun r hr => by
    rw [hbase r (Nat.lt_of_lt_of_le hr hlen) (by omega)]
    simp [hr]
  have hH'q : H'[q]? = some (some (.vec 0 0 [])) := by rw [hold q hql]; exact hHq
  have hβ'q : β' q = .none := k2.virt q hql q2
  have hob := k1.hrel.obj r' _ hr'
  obtain ⟨H2, hH2⟩ : ∃ H2 : Heap, H2 = (H'.set r' none).set q (some (.vec 2 sz xs)) := ⟨_, rfl⟩
  obtain ⟨β2, hβ2⟩ : ∃ β2 : Nat → Loc, β2 = upd β' q (β' r') := ⟨_, rfl⟩
  have hβq : β2 q = β' r' := by rw [hβ2]; exact upd_same _ _ _
  have hβn : ∀ r, r ≠ q → β2 r = β' r := fun r hr => by rw [hβ2]; exact upd_ne hr
  have hH2l : H2.length = H'.length := by rw [hH2]; simp
  have hH2q : H2[q]? = some (some (.vec 2 sz xs)) := by rw [hH2]; exact List.getElem?_set_self (by simp; omega)
  have hH2r : H2[r']? = some none := by rw [hH2, List.getElem?_set_ne hqr, List.getElem?_set_self hr'l]
  have hH2n : ∀ r, r ≠ q → r ≠ r' → H2[r]? = H'[r]? := fun r h1 h2 => by rw [hH2, List.getElem?_set_ne (fun e => h1 e.symm), List.getElem?_set_ne (fun e => h2 e.symm)]
  have hcase : ∀ (r : Nat) (o : HObj), H2[r]? = some (some o) → (r = q ∧ o = .vec 2 sz xs) ∨ (r ≠ q ∧ r ≠ r' ∧ H'[r]? = some (some o)) := fun r o hr => by
    by_cases h1 : r = q
    · subst h1
      rw [hH2q] at hr
      injection hr with hr
      injection hr with hr
      exact .inl ⟨rfl, hr.symm⟩
    · by_cases h2 : r = r'
      · subst h2
        rw [hH2r] at hr
        cases hr
      · rw [hH2n r h1 h2] at hr
        exact .inr ⟨h1, h2, hr⟩
  have f : Fr0 w' β' H' w' β2 H2 := by
    refine ⟨rfl, rfl, rfl, Nat.le_refl _, by rw [hH2l]; exact Nat.le_refl _, ?_, fun _ _ _ => rfl, ?_, fun r hr => hβn r (hr.ne hH'q (fun h => h)), fun r s hs => ?_⟩
    · intro r o' _ ho'
      rcases hcase r o' ho' with ⟨rfl, rfl⟩ | ⟨h1, _, h3⟩
      · exact ⟨_, hH'q, ⟨Nat.zero_le _, fun e => by omega⟩, fun hn => absurd hβ'q hn⟩
      · exact ⟨o', h3, Evo.refl _, fun _ _ => hβn r h1⟩
    · rintro bb ⟨r, M, ⟨o', hl', hln⟩, hb⟩
      rcases hcase r o' hl' with ⟨rfl, _⟩ | ⟨h1, _, h3⟩
      · rw [hβq] at hb
        exact .inr ⟨r', M, ⟨_, hr', fun h => h⟩, hb⟩
      · rw [hβn r h1] at hb
        exact .inr ⟨r, M, ⟨_, h3, hln⟩, hb⟩
    · rcases hcase r _ hs with ⟨_, h2⟩ | ⟨h1, _, h3⟩
      · cases h2
      · exact ⟨h3, hβn r h1⟩
  have hrel : HRel w' β2 H2 := by
    refine k1.hrel.step0 f ?_ ?_
    · intro r o' ho'
      rcases hcase r o' ho' with ⟨rfl, rfl⟩ | ⟨h1, _, h3⟩
      · refine .inr ?_
        rw [hβq]
        cases hb : β' r' with
        | none => rw [hb] at hob; exact hob
        | nil => rw [hb] at hob; exact hob
        | blk bb N =>
          rw [hb] at hob
          obtain ⟨vs, e, _, c2, c3, c4, c5, c6, c7⟩ := hob
          exact ⟨vs, e, tyG_two _, c2, c3, c4, c5, c6, fun i x j c v h1 h2 h3 => (c7 i x j c v h1 h2 h3).mono0 f⟩
      · exact .inl ⟨h3, hβn r h1, fun _ _ _ => rfl⟩
    · rintro r s bb M M' ⟨o1, h1⟩ ⟨o2, h2⟩ hb hb'
      rcases hcase r o1 h1 with ⟨rfl, _⟩ | ⟨n1, n2, l1⟩
      · rcases hcase s o2 h2 with ⟨rfl, _⟩ | ⟨n3, n4, l2⟩
        · rfl
        · rw [hβq] at hb
          rw [hβn s n3] at hb'
          exact absurd (k1.hrel.inj r' s bb M M' ⟨_, hr'⟩ ⟨_, l2⟩ hb hb').symm n4
      · rcases hcase s o2 h2 with ⟨rfl, _⟩ | ⟨n3, n4, l2⟩
        · rw [hβq] at hb'
          rw [hβn r n1] at hb
          exact absurd (k1.hrel.inj r r' bb M M' ⟨_, l1⟩ ⟨_, hr'⟩ hb hb') n2
        · rw [hβn r n1] at hb
          rw [hβn s n3] at hb'
          exact k1.hrel.inj r s bb M M' ⟨_, l1⟩ ⟨_, l2⟩ hb hb'
  have ft : Fr0 w β H w' β2 H2 := k2.toFr0.trans f
  have hml : m.length = T'.length := hs.mlen
  have hpT : p < T'.length := by have := lt_of_get q1; omega
  have hT'p : T'[p]? = some (some (.vec 0 0 [])) := q3.trans hd
  have hsr : SRel c.imps c.nt w' β2 H2 m ⟨E', T'.set p (some (.vec 2 sz xs)), c.B, c.D⟩ a := by
    refine ⟨hrel, hs.size, fun k => (hs.env k).mono0 ft, by simpa using hml, hs.nodup, fun j r ob hj hob' => ?_, hs.imp, fun r hr hm => ?_, fun r hr => hs.fut r (by omega), hs.own, fun p hp => by simpa using hs.scE p hp, fun j ob hob' => ?_, hs.defs, fun j n hj => ?_⟩
    · by_cases hjp : j = p
      · subst hjp
        rw [q1] at hj
        injection hj with hj
        subst hj
        simp only at hob'
        rw [List.getElem?_set_self hpT] at hob'
        injection hob' with hob'
        subst hob'
        exact hH2q
      · simp only at hob'
        rw [List.getElem?_set_ne (fun e => hjp e.symm)] at hob'
        have hrq : r ≠ q := fun e => hjp (hs.inj hj (e ▸ q1))
        have hrl := hs.lt hj
        rw [hH2n r hrq (by omega), hold r hrl]
        exact hs.loc j r ob hj hob'
    · have hrq : r ≠ q := fun e => hm (e ▸ List.mem_of_getElem? q1)
      by_cases hrr : r = r'
      · subst hrr
        have : c.B r = none := hs.fut r hnew
        simp only
        rw [hH2r, this]
      · rw [hH2n r hrq hrr]
        rcases Nat.lt_or_ge r H.length with h1 | h1
        · rw [hold r h1]
          exact hs.base r h1 hm
        · have : c.B r = none := hs.fut r h1
          simp only
          rw [hbase r (by omega) hrr, this, List.getElem?_eq_none h1]
          rfl
    · simp only [List.length_set] at hob' ⊢
      by_cases hjp : j = p
      · subst hjp
        rw [List.getElem?_set_self hpT] at hob'
        injection hob' with hob'
        injection hob' with hob'
        subst hob'
        trivial
      · rw [List.getElem?_set_ne (fun e => hjp e.symm)] at hob'
        exact hs.scT j ob hob'
    · obtain ⟨r, b', N', d1, d2, d3, d4⟩ := hs.marks j n hj
      have hnp : n ≠ p := fun e => by
        subst e
        simp only at d2
        rw [hT'p] at d2
        cases d2
      have hrq : r ≠ q := fun e => hnp (hs.inj d1 (e ▸ q1))
      refine ⟨r, b', N', d1, by simp only; rw [List.getElem?_set_ne (fun e => hnp e.symm)]; exact d2, ?_, d4⟩
      rw [hβn r hrq]
      have hH0 := hs.loc n r _ d1 d2
      exact dfr_stays k2 (by simpa [HObj.conv] using hH0) d3 (by rw [hold r (hs.lt d1), hH0]; rfl)
  refine ⟨v, w', β2, H2, call_steps ho (hg.wanted (fun t ht => e2 t (List.mem_append_left _ ht)) hs) hop hq hen k4 k6, hsr, ft, fun s hsl hn hne => ?_, ?_⟩
  · have hsq : s ≠ q := fun e => hne p rfl (e ▸ q1)
    rw [hβn s hsq]
    exact k2.virt s hsl hn
  · simp only [V.conv, Ref.conv, q1]
    simp only [V.conv, Ref.conv, List.getElem?_cons_zero] at k3
    have hv : ∀ g2 sz2 xs2, H'[r']? = some (some (.vec g2 sz2 xs2)) → g2 = g0 ∧ sz2 = sz ∧ xs2 = xs := fun g2 sz2 xs2 h2 => by
      rw [hr'] at h2
      injection h2 with h2
      injection h2 with h2
      injection h2 with e0 e1 e2
      exact ⟨e0.symm, e1.symm, e2.symm⟩
    generalize hn : xs.length = n at k3
    cases k3 with
    | oslNil _ _ sz2 xs2 ad hH' hβ =>
      exact .oslNil q 2 sz xs ad hH2q (hβq.trans hβ)
    | oslBlk _ _ _ _ sz2 xs2 bb N ad cap' hH' hβ hl' hN hcap ha hlen' =>
      obtain ⟨_, rfl, rfl⟩ := hv _ _ _ hH'
      exact .oslBlk q 2 0 n sz2 xs2 bb N ad cap' hH2q (hβq.trans hβ) hl' hN hcap ha hlen'
    | oslStale _ _ _ _ g' sz' xs' _ hH' hg' =>
      obtain ⟨e, _, _⟩ := hv _ _ _ hH'
      omega
    | oslDead _ _ _ _ _ hd' => rw [hr'] at hd'; cases hd'

/-! ### The evaluation of such a region -/
/-- A call of one of these functions. -/
def isMk (mk : List FuncId) : Op → Bool
  | .call { callee := .value (.func h), .. } => memN mk h
  | _ => false
def evdN (mk : List FuncId) (c : Cx) (ops : List Oper) (gt : List Tmp) : List Oper → Nat → Env → Heap → (Env → Heap → List Sig → Prop) → Prop
  | [], _, E, T, K => K E T []
  | o :: os, p, E, T, K =>
    let next (x : V) (T' : Heap) (g touch keys : List Nat) : Prop := bif (makesS o.op || isMk mk o.op) then putR c.nt gt o.dst x E fun E' => evdN mk c ops gt os (p + 1) E' T' fun En Tn ss => K En Tn (⟨o.dst, g, touch, keys⟩ :: ss) else putR c.nt gt o.dst x E fun E' => evdN mk c ops gt os p E' T' fun En Tn ss => K En Tn (⟨o.dst, g, touch, keys⟩ :: ss)
    gK ops o E (fun g => next (.tup []) T g [] []) fun g =>
      lfix (g ++ tmpsOf o.op.operands.toList) fun g =>
      bif makes E o.op then evMk c o.op E T p fun x ob kills tc => lfix tc fun tc => lfix (keysOf kills) fun ks => appC T (kills ++ [(p, some ob)]) fun T' => next x T' g (p :: tc) (p :: ks)
      else bif isMk mk o.op then match o.op with
        | .call { callee := .value f, args, .. } => match opd E f with
          | .fn (.func h) first cap => opds E args.toList fun vs => ∃ (sz : Nat) (xs : List V), Fun c.P h [] (first ++ vs ++ cap) (fun x T' => ∃ g0, x = .osl (.loc 0) g0 0 xs.length ∧ T' = [some (.vec g0 sz xs)]) ∧ V.pureL (first ++ vs ++ cap) = true ∧ lget T p = some (some (.vec 0 0 [])) ∧
            appC T [(p, some (.vec 2 sz xs))] fun T' => next (.osl (.loc p) 2 0 xs.length) T' g [p] [p]
          | _ => False
        | _ => False
      else match o.op with
        | .call { callee := .value f, args, .. } => match opd E f with
          | .fn (.func h) first cap => opds E args.toList fun vs => frzAll (first ++ vs ++ cap) T False fun ws _ => lfix (keysOf (killsOf (first ++ vs ++ cap))) fun ks =>
            ∃ x, Pure c.P h ws (fun y => y = x) ∧ V.pureL ws = true ∧ bif flatB x then next x T g ks [] else appC T (killsOf (first ++ vs ++ cap)) fun T' => next x T' g ks ks
          | _ => False
        | op => evOp c op E T False fun x T' => lfix (touch E op) fun tc => lfix (wr E op) fun ks => next x T' g tc ks

theorem evdN_sound {mk : List FuncId} {c : Cx} {ops : Array Oper} {gt : List Tmp} : ∀ (os : List Oper) (i p : Nat) (E : Env) (T : Heap) (K : Env → Heap → List Sig → Prop), evdN mk c ops.toList gt os p E T K → (∀ k, os[k]? = ops[i + k]?) → i + os.length = ops.size →
    ∃ rs ss En Tn, RunP c ops i p E T rs ss En Tn ∧ K En Tn ss
  | [], i, p, E, T, K, h, _, hi => ⟨[], [], E, T, ⟨by simpa using hi, rfl, rfl⟩, h⟩
  | o :: os, i, p, E, T, K, h, hos, hi => by
    unfold evdN at h
    extract_lets next at h
    have ho : ops[i]? = some o := by have := hos 0; simpa using this.symm
    have hos' : ∀ k, os[k]? = ops[i + 1 + k]? := fun k => by have := hos (k + 1); rw [List.getElem?_cons_succ] at this; rw [this, sa]
    have hi' : i + 1 + os.length = ops.size := by simp at hi; omega
    have hlt : i < ops.size := by simp at hi; omega
    -- what follows, from a fact
    have go : ∀ (r : Rec) (g tc ks : List Nat), Fact c ops i E T r → r.dst = o.dst → next r.x (app T r.eff) g tc ks → (∀ t ∈ r.reads, t ∈ g) → (∀ k ∈ r.touch, k ∈ tc) → (∀ k ∈ keysOf r.eff, k ∈ ks) →
        (∀ q, r.virt = some q → q = p ∧ p ∈ tc ∧ p < T.length ∧ (makesS o.op || isMk mk o.op) = true) → ∃ rs ss En Tn, RunP c ops i p E T rs ss En Tn ∧ K En Tn ss := by
      intro r g tc ks hf hd hn h1 h2 h3 h4
      have hn : putR c.nt gt o.dst r.x E fun E' => evdN mk c ops.toList gt os (bif (makesS o.op || isMk mk o.op) then p + 1 else p) E' (app T r.eff) fun En Tn ss => K En Tn (⟨o.dst, g, tc, ks⟩ :: ss) := by
        have h0 := hn
        simp only [next] at h0
        cases hm : (makesS o.op || isMk mk o.op) <;> (rw [hm] at h0; exact h0)
      obtain ⟨x', hk, hdst, hx⟩ := putR_sound hn
      obtain ⟨rs, ss, En, Tn, k1, k2⟩ := evdN_sound os (i + 1) _ _ _ _ hk hos' hi'
      refine ⟨{ r with x := x' } :: rs, ⟨o.dst, g, tc, ks⟩ :: ss, En, Tn, ⟨hf.put hx, by rw [hd]; exact hdst, ⟨hd.symm, h1, h2, h3, fun q hq => ?_⟩, hlt, (bif (makesS o.op || isMk mk o.op) then p + 1 else p), ?_, ?_, ?_⟩, k2⟩
      · obtain ⟨e, hp, _⟩ := h4 q hq
        rw [e]
        exact hp
      · cases (makesS o.op || isMk mk o.op) <;> simp
      · intro q hq
        obtain ⟨e, _, hp, hm⟩ := h4 q hq
        rw [hm]
        exact ⟨e, Nat.le_refl _, hp⟩
      · rw [hd]
        exact k1
    rcases gK_sound h with ⟨gs, hg, h⟩ | ⟨gs, hg, h⟩
    · exact go _ gs [] [] (fact_skip ho hg) rfl h (fun t ht => ht) (fun k hk => hk) (fun k hk => hk) (fun q hq => by cases hq)
    · rw [lfix_eq] at h
      cases hm : makes E o.op with
      | true =>
        rw [hm] at h
        simp only [cond_true] at h
        obtain ⟨x, ob, kills, tc, hk, hf, hp⟩ := fact_mk (gs := gs) ho hg h
        rw [lfix_eq, lfix_eq, appC_eq] at hk
        refine go _ _ _ _ hf rfl hk (fun t ht => ht) (fun k hk => List.mem_cons_of_mem _ hk) (fun k hk => ?_) (fun q hq => ?_)
        · rw [keysOf_append] at hk
          rcases List.mem_append.1 hk with h | h
          · exact List.mem_cons_of_mem _ h
          · simp only [keysOf, List.mem_singleton] at h
            rw [h]
            exact List.mem_cons_self
        · injection hq with hq
          subst hq
          exact ⟨rfl, List.mem_cons_self, hp, by rw [makes_S hm]; rfl⟩
      | false =>
        rw [hm] at h
        simp only [cond_false] at h
        cases hmk : isMk mk o.op with
        | true =>
          simp only [hmk, cond_true] at h
          split at h
          · rename_i f args ts hop
            split at h
            · rename_i h' first cap hfv
              rw [opds_eq] at h
              obtain ⟨sz, xs, hfu, hpl, hlp, hk⟩ := h
              rw [appC_eq] at hk
              rw [lget_eq] at hlp
              exact go _ _ _ _ (fact_call_make ho hg hop hfv hpl hlp hfu) rfl hk (fun t ht => ht) (fun k hk => by cases hk) (fun k hk => hk) (fun q hq => by
                injection hq with hq
                subst hq
                exact ⟨rfl, List.mem_singleton.2 rfl, lt_of_get hlp, by rw [hmk]; simp⟩)
            · exact h.elim
          · exact h.elim
        | false =>
        simp only [hmk, cond_false] at h
        split at h
        · rename_i f args ts hop
          split at h
          · rename_i h' first cap hfv
            rw [opds_eq] at h
            rcases frzAll_det (F := False) _ T _ h with h | ⟨ws, h, hdet⟩
            · exact h.elim
            rw [lfix_eq] at h
            obtain ⟨x, hpu, hpl, hk⟩ := h
            cases hx : flatB x with
            | true =>
              rw [hx] at hk
              exact go _ _ _ _ (fact_call_flat ho hg hop hfv hpl hx hdet hpu) rfl hk (fun t ht => ht) (fun k hk => hk) (fun k hk => by cases hk) (fun q hq => by cases hq)
            | false =>
              rw [hx] at hk
              simp only [cond_false] at hk
              rw [appC_eq] at hk
              exact go _ _ _ _ (fact_call_frz ho hg hop hfv hpl hdet hpu) rfl hk (fun t ht => ht) (fun k hk => hk) (fun k hk => hk) (fun q hq => by cases hq)
          · exact h.elim
        · rcases fact_op ho hg hm h with h | ⟨x, eff, hk, hf, hw⟩
          · exact h.elim
          rw [lfix_eq, lfix_eq] at hk
          refine go _ _ _ _ hf rfl hk (fun t ht => ht) (fun k hk => hk) (fun k hk => ?_) (fun q hq => by cases hq)
          have : ∀ (es : List (Nat × Option HObj)), k ∈ keysOf es → ∃ e ∈ es, e.1 = k := by
            intro es
            induction es with
            | nil => intro h; cases h
            | cons e es ih =>
              intro h
              rcases List.mem_cons.1 h with rfl | h
              · exact ⟨e, List.mem_cons_self, rfl⟩
              · obtain ⟨e', h1, h2⟩ := ih h
                exact ⟨e', List.mem_cons_of_mem _ h1, h2⟩
          obtain ⟨e, he, rfl⟩ := this eff hk
          exact hw e he

def dumsN (mk : List FuncId) : List Oper → Heap
  | [] => []
  | o :: os => bif (makesS o.op || isMk mk o.op) then some (dummyOf o.op) :: dumsN mk os else dumsN mk os
theorem dumsN_mem (mk : List FuncId) : ∀ (os : List Oper) (x : Option HObj), x ∈ dumsN mk os → ∃ d, x = some d ∧ (d = .box [] ∨ d = .vec 0 0 [])
  | [], x, h => by cases h
  | o :: os, x, h => by
    rw [dumsN] at h
    cases hb : (makesS o.op || isMk mk o.op) with
    | false => rw [hb] at h; exact dumsN_mem mk os x h
    | true =>
      rw [hb] at h
      rcases List.mem_cons.1 h with rfl | h
      · refine ⟨_, rfl, ?_⟩
        unfold dummyOf
        split <;> simp
      · exact dumsN_mem mk os x h
theorem goes_draw_ofN (mk : List FuncId) {c : Cx} {ops : Array Oper} {id : Nat} {k : List Item} {E : Env} {T : Heap} {rs : List Rec} {ss : List Sig} {En : Env} {Tn : Heap} (h : RunP c ops 0 T.length E (T ++ dumsN mk ops.toList) rs ss En Tn) (hc : chk ops.toList ss 0 [] [] = true) (hk : Goes c k En Tn) : Goes c (.code (.region id ops true) :: k) E T := by
  obtain ⟨hG, rfl, rfl, hp⟩ := good_of_run h
  refine goes_step fun w β H m a b cs hs h1 h2 h3 => ?_
  -- the draw
  have hsched : ∃ md t, Region.schedule (c.P.follows .mixedOrders) ops (w.tape w.drawn (.order b.fn id)) = Region.linearise md ops t := by
    unfold Region.schedule
    split
    · exact ⟨_, _, rfl⟩
    · exact ⟨_, _, rfl⟩
  obtain ⟨md, t, hmd⟩ := hsched
  have hf0 : Fr w β H { w with drawn := w.drawn + 1 } β H := Fr.of_heap rfl rfl rfl rfl
  have hs0 : SRel c.imps c.nt { w with drawn := w.drawn + 1 } β H m ⟨E, T, c.B, c.D⟩ a := hs.same hf0 (hs.hrel.of_heap rfl rfl rfl rfl)
  obtain ⟨β1, H1, m1, k1, k2, k3, k4⟩ := reserveAll (dumsN mk ops.toList) (dumsN_mem mk _) hs0
  have hml : m1.length = (T ++ dumsN mk ops.toList).length := k1.mlen
  have hzero : ∀ j, (fun _ : Nat => false) j = (Array.replicate ops.size false).getD j false := fun j => by
    by_cases hj : j < ops.size
    · simp [Array.getD, hj]
    · simp [Array.getD, hj]
  obtain ⟨w2, β2, H2, a2, g1, g2, g3, g4⟩ := run_draw md hG hc k1.scE ops.size t (Array.replicate ops.size false) (fun _ => false) { w with drawn := w.drawn + 1 } β1 H1 m1 a b cs k hzero (by simp)
    (by unfold unl; exact Nat.le_trans (List.length_filter_le _ _) (by simp)) (fun i hi => by cases hi) (by
      rw [envS_none _ _ _ fun _ _ => rfl, heapS_none _ _ _ fun _ _ => rfl]
      exact k1) (fun j r p hj _ hv => by
        obtain ⟨q, q1, q2, _⟩ := k4 p (hG.virt j r p hj hv) (by have := hp j r p hj hv; simpa using this)
        exact ⟨q, q1, q2⟩) (fun j r _ hj => by cases hj) h1 h2
  refine ⟨w2, β2, H2, m1, a2, k, ⟨_, _, c.B, c.D⟩, ?_, g2, ?_, hk⟩
  · refine .head stepR_region_draw ?_
    rw [hmd]
    exact g1.trans (.one stepR_region_end)
  · refine ⟨(hf0.toFr0.trans k2.toFr0).trans g3, fun r hr hn => ?_⟩
    have hn1 := k2.virt r hr hn
    refine g4 r (Nat.lt_of_lt_of_le hr k2.len) hn1 fun p hp hq => ?_
    by_cases hlt : p < T.length + (dumsN mk ops.toList).length
    · obtain ⟨q, q1, _, q3⟩ := k4 p hp hlt
      rw [hq] at q1
      injection q1 with q1
      omega
    · have := lt_of_get hq
      rw [hml, List.length_append] at this
      omega
theorem goes_drawN (mk : List FuncId) {c : Cx} {ops : Array Oper} {id : Nat} {k : List Item} {E : Env} {T : Heap} (n : Nat) (h : catC T (dumsN mk ops.toList) fun T0 => evdN mk c ops.toList (guardTmps ops.toList ops.toList) ops.toList T.length E T0 fun En Tn ss => chk ops.toList ss 0 [] [] = true ∧ evp c n k En Tn) :
    Goes c (.code (.region id ops true) :: k) E T := by
  rw [catC_eq] at h
  obtain ⟨rs, ss, En, Tn, h1, h2, h3⟩ := evdN_sound (mk := mk) ops.toList 0 T.length E _ _ h (fun k => by rw [Nat.zero_add, Array.getElem?_toList]) (by simp)
  exact goes_draw_ofN mk h1 h2 (evp_sound n _ _ _ _ h3)
end Bow
/- AE45: own memory under names: calls that hand back named memory, calls that write over it, calls that only read it; stores into it. -/
namespace Bow
open Go

def Ext (B B' : Base) : Prop := ∀ q o, B q = some o → B' q = some o
/-- What stands in B' and not in B. -/
def newPart (B B' : Base) : Base := fun q => match B q with | some _ => none | none => B' q
def Base.add (B N : Base) : Base := fun q => match B q with | some o => some o | none => N q
theorem Ext.refl (B : Base) : Ext B B := fun _ _ h => h
theorem Ext.add (B N : Base) : Ext B (B.add N) := fun q o h => by simp [Base.add, h]
theorem add_new {B N : Base} {q : Nat} {o : HObj} (h : N q = some o) (hb : B q = none) : (B.add N) q = some o := by simp [Base.add, h, hb]
theorem newPart_get {B B' : Base} {q : Nat} {o : HObj} (h : B' q = some o) (hb : B q = none) : newPart B B' q = some o := by simp [newPart, h, hb]
theorem newPart_old {B B' : Base} {q : Nat} {o : HObj} (h : newPart B B' q = some o) : B q = none ∧ B' q = some o := by
  unfold newPart at h
  split at h
  · cases h
  · rename_i hb; exact ⟨hb, h⟩
theorem newPart_add {B B' N : Base} (h : Ext B B') (hn : ∀ q o, N q = some o → B' q = none) : Ext N (newPart B (B'.add N)) := fun q o e => by
  refine newPart_get (add_new e (hn q o e)) ?_
  cases hb : B q with
  | none => rfl
  | some o' => have := h q o' hb; rw [hn q o e] at this; cases this
theorem Ext.eq_add {B B' : Base} (h : Ext B B') : B' = B.add (newPart B B') := by
  funext q
  unfold Base.add newPart
  cases hb : B q with
  | none => rfl
  | some o => exact h q o hb

mutual
theorem V.conv_pure (m : List Nat) : ∀ v : V, (v.conv m).pureB = true
  | .osl r _ _ _ | .ptr r _ | .eptr r _ _ _ | .yld r => by
    cases r with
    | loc k =>
      simp only [V.conv, Ref.conv]
      cases m[k]? <;> rfl
    | abs n => rfl
    | bad => rfl
  | .agg cs | .tup cs => by simp only [V.conv, V.pureB]; exact V.convL_pure m cs
  | .fn _ a c => by simp only [V.conv, V.pureB, Bool.and_eq_true]; exact ⟨V.convL_pure m a, V.convL_pure m c⟩
  | .iface _ v => by simp only [V.conv, V.pureB]; exact V.conv_pure m v
  | .int .. | .bool _ | .tt | .ff | .str _ | .sl .. | .nilsl | .iptr .. | .nilp | .nilf | .nili | .nilmap | .undef => rfl
theorem V.convL_pure (m : List Nat) : ∀ vs : List V, V.pureL (V.convL m vs) = true
  | [] => rfl
  | v :: vs => by simp only [V.convL, V.pureL, Bool.and_eq_true]; exact ⟨V.conv_pure m v, V.convL_pure m vs⟩
end

/-! ### Functions that hand back memory of their own, under names -/
@[irreducible] def FunN (P : Program) (g : FuncId) (args : List V) (Q : V → Base → Prop) : Prop :=
  Enterable P g ∧ ∀ (w : World) (β : Nat → Loc) (H : Heap) (B : Base) (vals : Array Value) (cs : List Frame), SRel [] 0 w β H [] ⟨[], [], B, []⟩ bare → args.length = vals.size →
    (∀ (j : Nat) (x : V) (v : Value), args[j]? = some x → vals[j]? = some v → Rep w β H x v) →
    ∃ (x : V) (N : Base) (v : Value) (w' : World) (β' : Nat → Loc) (H' : Heap) (fr : Frame), Q x N ∧ (∀ q o, N q = some o → B q = none) ∧ SRel [] 0 w' β' H' [] ⟨[], [], B.add N, []⟩ bare ∧ Fr w β H w' β' H' ∧ Rep w' β' H' x v ∧ x.pureB = true ∧
      Steps P (lone (Frame.enter P g vals .normal) cs w) (lone fr cs w') ∧ fr.fn = g ∧ fr.leaving P w' (.returned v)

theorem FunN.mono {P : Program} {g : FuncId} {args : List V} {Q Q' : V → Base → Prop} (h : FunN P g args Q) (hq : ∀ x N, Q x N → Q' x N) : FunN P g args Q' := by
  unfold FunN at *
  refine ⟨h.1, fun w β H B vals cs hs hl hr => ?_⟩
  obtain ⟨x, N, v, w', β', H', fr, k, r⟩ := h.2 w β H B vals cs hs hl hr
  exact ⟨x, N, v, w', β', H', fr, hq _ _ k, r⟩

/-- What a body's end has to be, there. -/
def XN (P : Program) (rs : Array ResultVar) (B : Base) (Q : V → Base → Prop) (e : Exit) (s : St) : Prop :=
  (match e with | .normal | .ret => True | _ => False) ∧ s.D = [] ∧ Ext B s.B ∧ resK P [] s.B rs.toList s.E s.T False fun xs => frz (resV xs) s.T False fun x _ => x.pureB = true ∧ ∃ y, Wk x y ∧ y.pureB = true ∧ Q y (newPart B s.B)

theorem funN_of_goes {P : Program} {g : FuncId} {fn : Func} {body : Code} {args : List V} {Q : V → Base → Prop} (n : Nat) (hf : P.funcs[g]? = some fn) (hn : (fn.name == "runtime.NumGoroutine") = false) (hb : fn.body = some body) (hnt : Nat.ble args.length fn.ntmps = true)
    (h : ∀ B : Base, evp { P := P, nt := fn.ntmps, fn := g, ro := none, imps := [], X := XN P fn.results B Q, B := B, D := [] } n [.code body] (env0 0 args) []) : FunN P g args Q := by
  unfold FunN
  refine ⟨⟨fn, hf, hn, by rw [hb]; rfl⟩, fun w β H B vals cs hs hl hr => ?_⟩
  have hnt := Nat.le_of_ble_eq_true hnt
  have gg := evp_sound _ _ _ _ _ (h B)
  unfold Goes at gg
  let b : Frame := { fn := g, tmps := #[], todo := [], defers := [], mode := .run, kind := .normal }
  let a : Act := { tmps := vals ++ Array.replicate (fn.ntmps - vals.size) Go.undef, defers := [] }
  have henter : Frame.enter P g vals .normal = b.atR a [.code body] := by
    simp [Frame.enter, Frame.atR, hf, hb, b, a]
  have hasz : a.tmps.size = fn.ntmps := by simp [a]; omega
  have hrc : ∀ (j : Nat) (x : V) (v : Value), args[j]? = some x → vals[j]? = some v → Rep w β H (x.conv []) v := fun j x v hj hv => by
    rw [conv_of_rep [] x (hr j x v hj hv)]
    exact hr j x v hj hv
  have hget : ∀ k, Rep w β H ((lk (env0 0 args) k).conv []) (a.tmps.getD k Go.undef) := by
    intro k
    rw [lk_env0]
    simp only [Nat.zero_le, if_true, Nat.sub_zero]
    cases hk : args[k]? with
    | none => exact .undef _
    | some x =>
      have hkl := lt_of_get hk
      have hkv : k < vals.size := by omega
      have e : a.tmps.getD k Go.undef = vals[k] := by
        simp only [a, Array.getD_eq_getD_getElem?]
        rw [Array.getElem?_append_left hkv]
        simp [hkv]
      rw [e]
      exact hrc k x vals[k] hk (Array.getElem?_eq_getElem hkv)
  have hs0 : SRel [] fn.ntmps w β H [] ⟨env0 0 args, [], B, []⟩ a := by
    refine ⟨hs.hrel, hasz, hget, hs.mlen, hs.nodup, hs.loc, hs.imp, hs.base, hs.fut, hs.own, fun p hp => ?_, hs.scT, rfl, by simp⟩
    obtain ⟨k, hk, hx⟩ := List.mem_iff_getElem.1 (env0_mem 0 args p hp)
    have hkv : k < vals.size := by omega
    exact sc_of_rep (m := []) p.2 (hrc k p.2 vals[k] (by rw [List.getElem?_eq_getElem hk, hx]) (Array.getElem?_eq_getElem hkv))
  obtain ⟨e, s', w', β', H', m', a', hX, hs', hfr, hend⟩ := gg w β H [] a b cs hs0 rfl rfl rfl
  obtain ⟨E', T1, B', D'⟩ := s'
  obtain ⟨he, hD, hB, hres⟩ := hX
  simp only at hD hB hres
  subst hD
  rcases resK_sound (c := { P := P, nt := fn.ntmps, fn := g, ro := none, imps := [], X := fun _ _ => True, B := B', D := [] }) _ _ _ _ hres with h | ⟨xs, hq, hx⟩
  · exact h.elim
  obtain ⟨vs, h1, h2, h3⟩ := hx w' β' H' m' a' hs'
  have hrun := run_results h1
  have hrep : Rep w' β' H' ((resV xs).conv m') (if h : vs.toArray.size = 1 then vs.toArray[0] else .tuple vs.toArray) := by
    by_cases h1 : vs.length = 1
    · rw [dif_pos (by simpa using h1)]
      match xs, h2, h3 with
      | [x], _, h3 => exact h3 0 x _ rfl (by simp [h1])
      | [], h2, _ => simp at h2; omega
      | _ :: _ :: _, h2, _ => simp at h2; omega
    · rw [dif_neg (by simpa using h1)]
      have e : resV xs = .tup xs := by
        match xs, h2 with
        | [x], h2 => simp at h2; omega
        | [], _ => rfl
        | _ :: _ :: _, _ => rfl
      rw [e]
      simp only [V.conv, V.convL_eq]
      refine .tup _ _ (by simp [h2]) fun j c v hj hv => ?_
      simp only [List.getElem?_map, Option.map_eq_some_iff] at hj
      obtain ⟨x, hj, rfl⟩ := hj
      exact h3 j x v hj (by simpa using hv)
  -- what is handed back is frozen; the rest is let go
  rcases frz_sound hq with hq | ⟨x', T2, hq, hfz⟩
  · exact hq.elim
  obtain ⟨H1, g1, g2, g3⟩ := hfz.2 _ _ _ _ _ _ _ _ _ _ hs'.bare
  obtain ⟨m2, H2, e1, e2, e3⟩ := SRel.dropTo (T := []) T2 g1 (by simp) (by simp) (by simp) (by simp)
  have hm2 : m2 = [] := List.length_eq_zero_iff.1 e1.mlen
  subst hm2
  have hrep' := (g3 0 _ x' _ rfl rfl hrep).mono e2
  obtain ⟨hp0, y, hw, hyp, hq⟩ := hq
  have hrep' := hw _ _ _ _ hrep'
  rw [hB.eq_add] at e1
  have hdef : a'.defers = [] := List.length_eq_zero_iff.1 hs'.defs
  cases e with
  | normal =>
    refine ⟨y, newPart B B', _, w', β', H2, { b.atR a' [] with mode := .returning }, hq, fun q o h => (newPart_old h).1, e1, (hfr.trans g2).trans e2, hrep', hyp, ?_, rfl, ?_⟩
    · rw [henter]
      exact Steps.trans hend (.one (stepR_end rfl))
    · exact ⟨rfl, hdef, rfl, fn, hf, hrun⟩
  | ret =>
    obtain ⟨k, hend⟩ := hend
    refine ⟨y, newPart B B', _, w', β', H2, { b.atR a' (.code .ret :: k) with mode := .returning }, hq, fun q o h => (newPart_old h).1, e1, (hfr.trans g2).trans e2, hrep', hyp, ?_, rfl, ?_⟩
    · rw [henter]
      exact Steps.trans hend (.one (stepR_ret rfl))
    · exact ⟨rfl, hdef, rfl, fn, hf, hrun⟩
  | exit id => exact he.elim
  | goto l => exact he.elim
  | panic ch => exact he.elim
  | outgrown => exact he.elim

section
variable {w w' : World} {β β' : Nat → Loc} {H H' : Heap}
/-- What a function with nothing of its own sees of a world. -/
theorem seen {imps : List Nat} {nt : Nat} {m : List Nat} {s : St} {a : Act} (hs : SRel imps nt w β H m s a) : SRel [] 0 w β H [] ⟨[], [], fun r => (H[r]?).getD none, []⟩ bare := by
  refine ⟨hs.hrel, rfl, fun k => by simp [lk, V.conv]; exact .undef _, rfl, List.nodup_nil, by simp, rfl, fun r h _ => ?_, fun r h1 => ?_, by simp, by simp, by simp, rfl, by simp⟩
  · simp [h]
  · simp [List.getElem?_eq_none h1]
end

/-- Out of a function whose objects all are there when it ends. -/
theorem funN_of_fun {P : Program} {g : FuncId} {args : List V} {Q : V → Heap → Prop} (h : Fun P g [] args Q) (ha : V.pureL args = true) (hl : ∀ x T', Q x T' → allLive T' = true) :
    FunN P g args fun x N => ∃ x' T' m', Q x' T' ∧ x = x'.conv m' ∧ m'.length = T'.length ∧ m'.Nodup ∧ ∀ (k q : Nat) (o : HObj), m'[k]? = some q → T'[k]? = some (some o) → N q = some (o.conv m') := by
  unfold Fun at h
  unfold FunN
  refine ⟨h.1, fun w β H B vals cs hs hlen hr => ?_⟩
  obtain ⟨x, T', v, w', β', H', m', fr, hq, k1, k2, k3, k4, k5, k6⟩ := h.2 w β H [] B vals cs hs hlen (fun j x v hj hv => by
    rw [pure_conv _ _ (pureL_mem _ ha x (List.mem_of_getElem? hj))]
    exact hr j x v hj hv)
  have hlive := hl x T' hq
  have hml : m'.length = T'.length := k1.mlen
  have hobj : ∀ (k q : Nat), m'[k]? = some q → ∃ o, T'[k]? = some (some o) ∧ H'[q]? = some (some (o.conv m')) := fun k q hk => by
    have hkT : k < T'.length := by have := lt_of_get hk; omega
    have e := List.getElem?_eq_getElem hkT
    obtain ⟨o, ho⟩ := allLive_get hlive k _ e
    rw [ho] at e
    exact ⟨o, e, k1.loc k q _ hk e⟩
  obtain ⟨N, hN⟩ : ∃ N : Base, N = fun q => if q ∈ m' then (H'[q]?).getD none else none := ⟨_, rfl⟩
  have hNm : ∀ (k q : Nat) (o : HObj), m'[k]? = some q → T'[k]? = some (some o) → N q = some (o.conv m') := fun k q o hk ho => by
    obtain ⟨o', e1, e2⟩ := hobj k q hk
    rw [ho] at e1
    injection e1 with e1
    injection e1 with e1
    subst e1
    rw [hN]
    simp [List.mem_of_getElem? hk, e2]
  have hNB : ∀ q o, N q = some o → q ∈ m' ∧ B q = none := fun q o h => by
    rw [hN] at h
    by_cases hm : q ∈ m'
    · obtain ⟨k, hk⟩ := List.getElem?_of_mem hm
      exact ⟨hm, k1.own k q (Nat.zero_le _) hk⟩
    · simp [hm] at h
  refine ⟨_, N, v, w', β', H', fr, ⟨x, T', m', hq, rfl, hml, k1.nodup, hNm⟩, fun q o h => (hNB q o h).2, ?_, k2, k3, V.conv_pure m' x, k4, k5, k6⟩
  refine ⟨k1.hrel, rfl, fun k => by simp [lk, V.conv]; exact .undef _, rfl, List.nodup_nil, by simp, rfl, fun r hr _ => ?_, fun r hr => ?_, by simp, by simp, by simp, rfl, by simp⟩
  · show H'[r]? = some ((B.add N) r)
    by_cases hm : r ∈ m'
    · obtain ⟨k, hk⟩ := List.getElem?_of_mem hm
      obtain ⟨o, e1, e2⟩ := hobj k r hk
      rw [e2, add_new (hNm k r o hk e1) (k1.own k r (Nat.zero_le _) hk)]
    · have h1 := k1.base r hr hm
      simp only at h1
      rw [h1]
      unfold Base.add
      cases hb : B r with
      | some o => rfl
      | none =>
        have : N r = none := by rw [hN]; simp [hm]
        rw [this]
  · show (B.add N) r = none
    have h1 : B r = none := k1.fut r hr
    unfold Base.add
    rw [h1]
    cases hn : N r with
    | none => rfl
    | some o =>
      obtain ⟨k, hk⟩ := List.getElem?_of_mem (hNB r o hn).1
      have := k1.lt hk
      omega

/-- A call of one. -/
theorem call_funN {c : Cx} {g : FuncId} {args : List V} {E : Env} {T : Heap} {K : V → St → Prop} {Q : V → Base → Prop} (hf : FunN c.P g args Q) (ha : V.pureL args = true)
    (h : ∀ x N, Q x N → x.pureB = true → (∀ q o, N q = some o → c.B q = none) → K x ⟨E, T, c.B.add N, c.D⟩) : CallThen c g args E T K := by
  unfold FunN at hf
  obtain ⟨hen, hf⟩ := hf
  unfold CallThen
  refine ⟨hen, fun w β H m a vals cs hs hl hr => ?_⟩
  obtain ⟨x, N, v, w', β', H', fr, hq, hN, k1, k2, k3, hp, k4, k5, k6⟩ := hf w β H _ vals cs (seen hs) hl (fun j x v hj hv => by
    have h1 := hr j x v hj hv
    rwa [pure_conv _ _ (pureL_mem _ ha x (List.mem_of_getElem? hj))] at h1)
  have hlen : H.length ≤ H'.length := k2.len
  have hH' : ∀ q, q < H'.length → H'[q]? = some (Base.add (fun r => (H[r]?).getD none) N q) := fun q hq => k1.base q hq (by simp)
  have hnew : ∀ q o, N q = some o → H.length ≤ q ∧ q < H'.length := fun q o h1 => by
    have h2 : (Base.add (fun r => (H[r]?).getD none) N) q = some o := add_new h1 (hN q o h1)
    have h3 : q < H'.length := by
      rcases Nat.lt_or_ge q H'.length with h3 | h3
      · exact h3
      · have h4 : (Base.add (fun r => (H[r]?).getD none) N) q = none := k1.fut q h3
        rw [h2] at h4
        cases h4
    refine ⟨?_, h3⟩
    rcases Nat.lt_or_ge q H.length with h4 | h4
    · exfalso
      have h5 := hH' q h3
      rw [h2] at h5
      obtain ⟨o1, ho1, _⟩ := k2.evo q o h4 h5
      have := hN q o h1
      simp only [ho1] at this
      cases this
    · exact h4
  have hcB : ∀ q o, N q = some o → c.B q = none := fun q o h1 => hs.fut q (hnew q o h1).1
  have hNold : ∀ q, q < H.length → N q = none := fun q h1 => by
    cases hn : N q with
    | none => rfl
    | some o => have := (hnew q o hn).1; omega
  have hold : ∀ q, q < H.length → H'[q]? = H[q]? := fun q h1 => by
    rw [hH' q (Nat.lt_of_lt_of_le h1 hlen)]
    unfold Base.add
    simp only [hNold q h1, List.getElem?_eq_getElem h1, Option.getD_some]
    cases H[q] <;> rfl
  have hadd : ∀ q, q < H.length → (c.B.add N) q = c.B q := fun q h1 => by
    unfold Base.add
    rw [hNold q h1]
    cases c.B q <;> rfl
  refine ⟨x, _, v, w', β', H', m, fr, h x N hq hp hcB, ?_, k2, by rw [pure_conv _ _ hp]; exact k3, k4, k5, k6, List.prefix_refl _⟩
  refine ⟨k1.hrel, hs.size, fun k => (hs.env k).mono k2, hs.mlen, hs.nodup, fun k r o hk ho => ?_, hs.imp, fun r hr hm => ?_, fun r hr => ?_, fun k r hk hr => ?_, hs.scE, hs.scT, hs.defs, fun j k hj => ?_⟩
  · rw [hold r (hs.lt hk)]
    exact hs.loc k r o hk ho
  · simp only
    rcases Nat.lt_or_ge r H.length with h1 | h1
    · rw [hold r h1, hadd r h1]
      exact hs.base r h1 hm
    · have h2 : c.B r = none := hs.fut r h1
      rw [hH' r hr]
      unfold Base.add
      simp only [List.getElem?_eq_none h1, h2, Option.getD_none]
  · have h1 : c.B r = none := hs.fut r (Nat.le_trans hlen hr)
    have h2 : (Base.add (fun r => (H[r]?).getD none) N) r = none := k1.fut r hr
    unfold Base.add at h2
    simp only [List.getElem?_eq_none (Nat.le_trans hlen hr), Option.getD_none] at h2
    simp only [Base.add, h1, h2]
  · simp only
    rw [hadd r (hs.lt hr)]
    exact hs.own k r hk hr
  · obtain ⟨r, b, M, h1, h2, h3, h4⟩ := hs.marks j k hj
    have hH0 := hs.loc k r _ h1 h2
    exact ⟨r, b, M, h1, h2, dfr_stays k2 (by simpa [HObj.conv] using hH0) h3 (by rw [hold r (hs.lt h1), hH0]; rfl), h4⟩

/-! ### Named memory, read by functions that leave nothing behind -/
inductive Fz (B : Base) : V → V → Prop
  | wk {x y : V} (h : Wk x y) : Fz B x y
  | row (r g sz : Nat) (xs : List V) (h : B r = some (.vec g sz xs)) : Fz B (.osl (.abs r) g 0 xs.length) (.sl sz xs)
  | agg (cs ds : List V) (hl : cs.length = ds.length) (h : ∀ (j : Nat) (c d : V), cs[j]? = some c → ds[j]? = some d → Fz B c d) : Fz B (.agg cs) (.agg ds)
  | sl (sz : Nat) (xs ys : List V) (hl : xs.length = ys.length) (hy : ∀ y ∈ ys, okE sz y) (h : ∀ (i : Nat) (x y : V) (j : Nat) (c d : V), xs[i]? = some x → ys[i]? = some y → x.cells[j]? = some c → y.cells[j]? = some d → Fz B c d) : Fz B (.sl sz xs) (.sl sz ys)

theorem Fr0.killAll {w : World} {β : Nat → Loc} {H : Heap} : Fr0 w β H w β (H.map fun _ => none) := by
  have hnone : ∀ r o, (H.map fun _ => (none : Option HObj))[r]? ≠ some (some o) := fun r o h => by rw [List.getElem?_map] at h; cases hh : H[r]? <;> rw [hh] at h <;> cases h
  have hno : ∀ b, ¬ ownB β (H.map fun _ => none) b := fun b ⟨r, N, ⟨o, h, _⟩, _⟩ => hnone r o h
  exact ⟨rfl, rfl, rfl, Nat.le_refl _, by simp, fun r o' _ ho => absurd ho (hnone r o'), fun _ _ _ => rfl, fun b hb => absurd hb (hno b), fun _ _ => rfl, fun r s h => absurd h (hnone r _)⟩
theorem killAll_no {β : Nat → Loc} {H : Heap} (b : Nat) {sz : Nat} : freeB β (H.map fun _ => none) b sz := free_none (fun r o h => by
  rw [List.getElem?_map] at h
  cases hh : H[r]? <;> rw [hh] at h <;> cases h) b sz

theorem Fz.rep {B : Base} {w : World} {β : Nat → Loc} {H : Heap} (hrel : HRel w β H) (hB : ∀ q o, B q = some o → H[q]? = some (some o)) {x y : V} (h : Fz B x y) : ∀ {v : Value}, Rep w β H x v → Rep w β (H.map fun _ => none) y v := by
  induction h with
  | wk h => exact fun {v} hv => (h w β H v hv).mono0 Fr0.killAll
  | row r g sz xs h =>
    intro v hv
    have hH := hB r _ h
    have hob := hrel.obj r _ hH
    have hvec : ∀ sz2 xs2, H[r]? = some (some (.vec g sz2 xs2)) → sz2 = sz ∧ xs2 = xs := fun sz2 xs2 h2 => by
      rw [hH] at h2
      injection h2 with h2
      injection h2 with h2
      injection h2 with _ e1 e2
      exact ⟨e1.symm, e2.symm⟩
    generalize hn : xs.length = n at hv
    cases hv with
    | oslNil _ _ sz2 xs2 ad hH' hβ =>
      rw [hβ] at hob
      have : xs = [] := hob
      subst this
      exact .sl sz [] ad 0 (fun _ => Go.undef) (Nat.le_refl _) (Nat.zero_le _) (by simp) (fun hne => absurd rfl hne) (fun i x j c hi => by simp at hi)
    | oslBlk _ _ _ _ sz2 xs2 b N ad cap hH' hβ hl hN hcap ha hlen =>
      obtain ⟨rfl, rfl⟩ := hvec _ _ hH'
      rw [hβ] at hob
      obtain ⟨vs, e, _, h1, h2, h3, h4, h5, h6⟩ := hob
      subst hn
      refine .sl sz2 xs2 ad cap (fun j => vs.getD j Go.undef) hl (by omega) h5 (fun hne => ?_) (fun i x j c hi hj => ?_)
      · have h0 : 0 < xs2.length := List.length_pos_iff.2 hne
        have := ha (by omega)
        subst this
        refine ⟨_, rfl, killAll_no _, (Array.getElem?_eq_some_iff.1 h1).1, fun j hj => ?_⟩
        have hjv : j < vs.size := by omega
        rw [Nat.zero_mul, at_add, cell_of_row w b j vs e (0, 0) h1]
        simp [hjv]
      · have hlt : i * sz2 + j < vs.size := by
          have e1 := lt_of_get hi
          have e2 := lt_of_get hj
          have e3 := (h5 x (List.mem_of_getElem? hi)).1
          have : (i + 1) * sz2 ≤ xs2.length * sz2 := Nat.mul_le_mul_right _ e1
          rw [Nat.add_mul] at this
          omega
        exact (h6 i x j c (vs.getD (i * sz2 + j) Go.undef) hi hj (by simp [hlt])).mono0 Fr0.killAll
    | oslStale _ _ _ _ g' sz' xs' _ hH' hg =>
      rw [hH] at hH'
      injection hH' with hH'
      injection hH' with hH'
      injection hH' with e0 _ _
      omega
    | oslDead _ _ _ _ _ hd => rw [hH] at hd; cases hd
  | agg cs ds hl h ih =>
    intro v hv
    cases hv with
    | agg _ vs hl' h' =>
      refine .agg ds vs (hl.symm.trans hl') fun j d u hj hu => ?_
      have hjc : j < cs.length := by have := lt_of_get hj; omega
      exact ih j _ d (List.getElem?_eq_getElem hjc) hj (h' j _ u (List.getElem?_eq_getElem hjc) hu)
  | sl sz xs ys hl hy h ih =>
    intro v hv
    generalize hn : xs.length = n at hl
    generalize hq : V.sl sz xs = q at hv
    cases hv with
    | sl sz' xs' a cap vals hcap hmax hsz ha hr =>
      injection hq with e1 e2
      subst e1 e2
      rw [hn, hl]
      refine .sl sz ys a cap vals (by omega) hmax hy (fun hne => ?_) (fun i y j d hi hj => ?_)
      · obtain ⟨ad, k1, _, k3, k4⟩ := ha (fun e => hne (by rw [e] at hn; exact List.length_eq_zero_iff.1 (by simp at hn; omega)))
        exact ⟨ad, k1, killAll_no _, k3, fun j hj => k4 j (by rw [hn, hl]; exact hj)⟩
      · have hix : i < xs.length := by have := lt_of_get hi; omega
        have hx := List.getElem?_eq_getElem hix
        have hc1 := (hsz _ (List.mem_of_getElem? hx)).1
        have hc2 := (hy _ (List.mem_of_getElem? hi)).1
        have hjx : j < (xs[i]).cells.length := by have := lt_of_get hj; omega
        exact ih i _ y j _ d hx hi (List.getElem?_eq_getElem hjx) hj (hr i _ j _ hx (List.getElem?_eq_getElem hjx))
    | _ => cases hq

/-- .. all at once. -/
def FzL (B : Base) : List V → List V → Prop
  | [], [] => True
  | x :: xs, y :: ys => Fz B x y ∧ FzL B xs ys
  | _, _ => False
theorem FzL.get {B : Base} : ∀ {xs ys : List V}, FzL B xs ys → xs.length = ys.length ∧ ∀ (j : Nat) (y : V), ys[j]? = some y → ∃ x, xs[j]? = some x ∧ Fz B x y
  | [], [], _ => ⟨rfl, fun j y h => by simp at h⟩
  | x :: xs, y :: ys, h => by
    obtain ⟨h1, h2⟩ := FzL.get h.2
    refine ⟨by simp [h1], fun j z hz => ?_⟩
    cases j with
    | zero => simp at hz; subst hz; exact ⟨x, rfl, h.1⟩
    | succ j => simpa using h2 j z (by simpa using hz)
  | [], _ :: _, h => h.elim
  | _ :: _, [], h => h.elim

/-- A call that is handed named memory, and hands back a number, a truth value or a text. -/
theorem call_flatN {c : Cx} {g : FuncId} {args args' : List V} {E : Env} {T : Heap} {K : V → St → Prop} {x : V} (hf : Pure c.P g args' (fun y => y = x)) (hz : FzL c.B args args') (hi : c.imps = []) (ha : V.pureL args = true) (ha' : V.pureL args' = true) (hx : flatB x = true) (h : K x ⟨E, T, c.B, c.D⟩) : CallThen c g args E T K := by
  have hen : Enterable c.P g := by
    unfold Pure Fun at hf
    exact hf.1
  unfold CallThen
  refine ⟨hen, fun w β H m a vals cs hs hl hr => ?_⟩
  obtain ⟨hzl, hzg⟩ := hz.get
  obtain ⟨y, v, w', β', H', fr, rfl, hp, g3, hb, g4, g5, g6⟩ := pure_still (β := β) (H := H.map fun _ => none) hf ha' cs (hzl.symm.trans hl) (fun j y v hj hv => by
    obtain ⟨x0, h1, h2⟩ := hzg j y hj
    have h3 := hr j x0 v h1 hv
    rw [pure_conv _ _ (pureL_mem _ ha x0 (List.mem_of_getElem? h1))] at h3
    exact h2.rep hs.hrel (fun q o hq => hs.baseAt (by rw [hi]; simp) hq) h3)
  have g2' : Fr w β H w' β H := Fr.of_below hb
  exact ⟨y, _, v, w', β, H, m, fr, h, hs.same g2' (hs.hrel.of_below hb), g2', by rw [pure_conv _ _ hp]; exact g3.flat hx, g4, g5, g6, List.prefix_refl _⟩

/-! ### Functions that write over named memory -/
/-! ### Stores into named memory -/
section
variable {c : Cx} {E : Env} {T : Heap} {ops : Array Oper} {i : Nat} {rest : List Nat} {k : List Item} {o : Oper}

theorem over_has {α : Type} (xs cs : List α) (n : Nat) (h : n + cs.length ≤ xs.length) : ∃ ys, over xs n cs ys := by
  refine ⟨xs.take n ++ cs ++ xs.drop (n + cs.length), h, by simp; omega, fun j => ?_⟩
  rcases Nat.lt_or_ge j n with h1 | h1
  · rw [if_neg (by omega), List.append_assoc, List.getElem?_append_left (by simp; omega), List.getElem?_take, if_pos h1]
  · rcases Nat.lt_or_ge j (n + cs.length) with h2 | h2
    · rw [if_pos ⟨h1, h2⟩, List.getElem?_append_left (by simp; omega), List.getElem?_append_right (by simp; omega)]
      have : min n xs.length = n := by omega
      simp [this]
    · rw [if_neg (by omega), List.getElem?_append_right (by simp; omega)]
      have e1 : min n xs.length = n := by omega
      simp only [List.length_append, List.length_take, e1, List.getElem?_drop]
      rw [Nat.add_sub_cancel' h2]

theorem goes_storeA {t : TypeId} {x y : Operand} {r g ix off sz : Nat} {xs : List V} {ti : TypeInfo} (n : Nat) (ho : lget ops.toList i = some o) (hg : o.guard = none) (hop : o.op = .store t x y) (hx : opd E x = .eptr (.abs r) g ix off)
    (hb : (Nat.beq (lcount (opd E y).cells 0) ti.size && onesB (opd E y).cells && V.pureL (opd E y).cells) = true) (ht : tyI c.P t = some ti) (hi : r ∉ c.imps) (hB : c.B r = some (.vec g sz xs)) (hl : ix < xs.length) (hoff : off + ti.size ≤ sz)
    (h : ∀ B' xs', xs'.length = xs.length → B' r = some (.vec g sz xs') → (∀ q, q ≠ r → B' q = c.B q) → putE c.nt o.dst (.tup []) E False fun E' => evp { c with B := B' } n (.inRegion ops rest :: k) E' T) :
    Goes c (.inRegion ops (i :: rest) :: k) E T := by
  rw [lget_eq, Array.getElem?_toList] at ho
  rw [lcount_eq] at hb
  simp only [Bool.and_eq_true, Nat.add_zero] at hb
  have hsz := Nat.eq_of_beq_eq_true hb.1.1
  refine goes_step fun w β H m a fb cs hs _ _ _ => ?_
  have hp := opd_rep hs x
  have hH : H[r]? = some (some (.vec g sz xs)) := hs.baseAt hi hB
  have hrm : r ∉ m := hs.notIn hB hi
  simp only [hx, V.conv, Ref.conv] at hp
  have hob := hs.hrel.obj r _ hH
  generalize hv : a.eval x = q at hp
  cases hp with
  | eptrStale _ _ _ _ g' sz' xs' _ hH' hg =>
    rw [hH] at hH'
    injection hH' with hH'
    injection hH' with hH'
    injection hH' with e0 _ _
    omega
  | eptrDead _ _ _ _ _ hd => rw [hH] at hd; cases hd
  | eptrLive _ _ _ _ sz' xs' b N hH' hβ hi' =>
  rw [hH] at hH'
  injection hH' with hH'
  injection hH' with hH'
  injection hH' with _ e1 e2
  subst e1 e2
  obtain ⟨x0, hx0⟩ : ∃ x0, xs[ix]? = some x0 := ⟨_, List.getElem?_eq_getElem hl⟩
  rw [hβ] at hob
  obtain ⟨vs, e, hty, hbk, hN, hle, hpos, hok, hc⟩ := hob
  have hy : Rep w β H ((opd E y).conv m) (a.eval y) := opd_rep hs y
  obtain ⟨hyl, hyc, hy1⟩ := rep_cells hy (by rw [cells_conv, onesB_conv]; exact hb.1.2)
  rw [cells_conv, pureL_conv _ _ hb.2] at hyl hyc
  obtain ⟨hx0l, hx0o⟩ := hok x0 (List.mem_of_getElem? hx0)
  obtain ⟨cs', ho'⟩ := over_has x0.cells (opd E y).cells off (by omega)
  have hixl := hl
  have hrow : ix * sz + sz ≤ vs.size := by
    have : (ix + 1) * sz ≤ xs.length * sz := Nat.mul_le_mul_right _ hixl
    rw [Nat.add_mul] at this
    omega
  have hofit : off + (opd E y).cells.length ≤ x0.cells.length := ho'.1
  have hfit : ix * sz + off + (a.eval y).cells.size ≤ vs.size := by omega
  have hrun := run_storeCells_at c.P b (ix * sz + off) e (a.eval y).cells.toList 0 vs w hbk (by simpa using hfit) hy1
  have hI := tyI_sound ht
  obtain ⟨vs', hvs'⟩ : ∃ vs', vs' = (vs.toList.take (ix * sz + off + 0) ++ (a.eval y).cells.toList ++ vs.toList.drop (ix * sz + off + 0 + (a.eval y).cells.toList.length)).toArray := ⟨_, rfl⟩
  rw [← hvs'] at hrun
  have hheap : (w.setRow b vs').heap[b]? = some (.cells vs' e (0, 0)) := setRow_heap w b vs _ e _ hbk
  have hother : ∀ q, q ≠ b → (w.setRow b vs').heap[q]? = w.heap[q]? := fun q hq => setRow_other w b q _ hq
  have hvsz : vs'.size = vs.size := by rw [hvs']; simp; omega
  have hget : ∀ j, vs'[j]? = if ix * sz + off ≤ j ∧ j < ix * sz + off + (a.eval y).cells.size then (a.eval y).cells[j - (ix * sz + off)]? else vs[j]? := by
    intro j
    rw [hvs']
    simp only [Nat.add_zero, Array.length_toList, List.getElem?_toArray]
    rcases Nat.lt_or_ge j (ix * sz + off) with h1 | h1
    · rw [if_neg (by omega), List.getElem?_append_left (by simp; omega), List.getElem?_append_left (by simp; omega), List.getElem?_take, if_pos h1]
      simp
    · rcases Nat.lt_or_ge j (ix * sz + off + (a.eval y).cells.size) with h2 | h2
      · rw [if_pos ⟨h1, h2⟩, List.getElem?_append_left (by simp; omega), List.getElem?_append_right (by simp; omega)]
        have : min (ix * sz + off) vs.size = ix * sz + off := by omega
        simp [this]
      · rw [if_neg (by omega), List.getElem?_append_right (by simp; omega)]
        have e1 : min (ix * sz + off) vs.size = ix * sz + off := by omega
        simp only [List.length_append, List.length_take, Array.length_toList, e1, List.getElem?_drop]
        rw [Nat.add_sub_cancel' h2]
        simp
  have hones : onesB cs' = true := by
    rw [onesB_iff]
    intro z hz
    obtain ⟨j, hj, rfl⟩ := List.mem_iff_getElem.1 hz
    have := ho'.2.2 j
    rw [List.getElem?_eq_getElem hj] at this
    split at this
    · exact (onesB_iff _).1 hb.1.2 _ (List.mem_of_getElem? this.symm)
    · exact (onesB_iff _).1 hx0o _ (List.mem_of_getElem? this.symm)
  have hcs' : cs'.length = sz := ho'.2.1.trans hx0l
  have hmk : (mkE x0 cs').cells = cs' := mkE_cells x0 cs' hones
  obtain ⟨xs', hxs'⟩ : ∃ xs', xs' = xs.set ix (mkE x0 cs') := ⟨_, rfl⟩
  have hxl : xs'.length = xs.length := by rw [hxs']; simp
  have hfr : Fr w β H (w.setRow b vs') β (H.set r (some (.vec g sz xs'))) := Fr.turn hH hβ ⟨Nat.le_refl _, fun _ => ⟨rfl, hxl.symm⟩⟩ rfl rfl rfl (by simp [World.setRow]) hother
  have hok' : ∀ x ∈ xs', okE sz x := fun x hx => by
    rw [hxs'] at hx
    rcases List.mem_or_eq_of_mem_set hx with h1 | h1
    · exact hok x h1
    · subst h1
      exact ⟨by rw [hmk]; exact hcs', by rw [hmk]; exact hones⟩
  have hrel : HRel (w.setRow b vs') β (H.set r (some (.vec g sz xs'))) := by
    refine hs.hrel.turn hH hβ ⟨Nat.le_refl _, fun _ => ⟨rfl, hxl.symm⟩⟩ rfl rfl rfl (by simp [World.setRow]) hother ⟨vs', e, hty, hheap, by omega, by rw [hxl]; omega, hpos, hok', fun i1 z j z1 u hi1 hj hu => ?_⟩
    refine Rep.mono ?_ hfr
    rw [hget] at hu
    have hzl := (hok' z (List.mem_of_getElem? hi1)).1
    have hjl := lt_of_get hj
    rw [hxs'] at hi1
    by_cases hii : i1 = ix
    · subst hii
      rw [List.getElem?_set_self hixl] at hi1
      injection hi1 with hi1
      subst hi1
      rw [hmk, ho'.2.2 j] at hj
      split at hj
      · rename_i hjj
        rw [if_pos (by omega)] at hu
        refine hyc (j - off) z1 u hj ?_
        rw [← hu]
        congr 1
        omega
      · rename_i hjj
        rw [if_neg (by omega)] at hu
        exact hc i1 x0 j z1 u hx0 hj hu
    · rw [List.getElem?_set_ne (fun e => hii e.symm)] at hi1
      have hne : ¬ (ix * sz + off ≤ i1 * sz + j ∧ i1 * sz + j < ix * sz + off + (a.eval y).cells.size) := by
        rintro ⟨q1, q2⟩
        rcases Nat.lt_or_gt_of_ne hii with h3 | h3
        · have : (i1 + 1) * sz ≤ ix * sz := Nat.mul_le_mul_right _ h3
          rw [Nat.add_mul] at this
          omega
        · have : (ix + 1) * sz ≤ i1 * sz := Nat.mul_le_mul_right _ h3
          rw [Nat.add_mul] at this
          omega
      rw [if_neg hne] at hu
      exact hc i1 z j z1 u hi1 hj hu
  obtain ⟨B', hB'⟩ : ∃ B' : Base, B' = fun q => if q = r then some (.vec g sz xs') else c.B q := ⟨_, rfl⟩
  have hBr : B' r = some (.vec g sz xs') := by rw [hB']; simp
  have hBn : ∀ q, q ≠ r → B' q = c.B q := fun q hq => by rw [hB']; simp [hq]
  have hrl := lt_of_get hH
  have hset : SRel c.imps c.nt (w.setRow b vs') β (H.set r (some (.vec g sz xs'))) m ⟨E, T, B', c.D⟩ a := by
    refine ⟨hrel, hs.size, fun k => (hs.env k).mono hfr, hs.mlen, hs.nodup, fun j q ob hj hob => ?_, hs.imp, fun q hq hqm => ?_, fun q hq => ?_, fun j q hj hq => ?_, hs.scE, hs.scT, hs.defs, hs.marks⟩
    · have hqr : q ≠ r := fun e => hrm (e ▸ List.mem_of_getElem? hj)
      rw [List.getElem?_set_ne (fun e => hqr e.symm)]
      exact hs.loc j q ob hj hob
    · simp only
      by_cases hqr : q = r
      · subst hqr
        rw [List.getElem?_set_self hrl, hBr]
      · rw [List.getElem?_set_ne (fun e => hqr e.symm), hBn q hqr]
        exact hs.base q (by simpa using hq) hqm
    · have hqr : q ≠ r := fun e => by subst e; simp at hq; omega
      simp only
      rw [hBn q hqr]
      exact hs.fut q (by simpa using hq)
    · have hqr : q ≠ r := fun e => hrm (e ▸ List.mem_of_getElem? hq)
      simp only
      rw [hBn q hqr]
      exact hs.own j q hj hq
  obtain ⟨E', hk, hd⟩ := (putE_some (h B' xs' hxl hBr hBn)).resolve_left id
  have hput := hset.putTo (d := o.dst) (x := .tup []) (v := Go.undef) (E' := E') (.tup [] #[] rfl fun j z u h1 _ => by simp at h1) hd
  refine ⟨w.setRow b vs', β, _, m, a.put o.dst Go.undef, _, ⟨E', T, B', c.D⟩, op_step (c := c) ho (wanted_none hg _) (fun cl e => by rw [hop] at e; cases e) (nx := .skip) ?_ (.inr ⟨rfl, rfl⟩), hput, hfr, evp_sound n _ _ _ _ hk⟩
  simp [execOp, hop, Instr.storeAt, Instr.sureAddr, hv, storeVar, run_sizeOf' hI, ← hsz, ← hyl, hrun]
end
end Bow
/- AE46: a nil slice in a cell of a box, as own memory; named results that say less. -/
namespace Bow
open Go

section
variable {c : Cx} {E : Env} {T : Heap}
theorem goes_nilCell {todo : List Item} (kb j sz : Nat) {cs : List V} (hk : lget T kb = some (some (.box cs))) (hj : cs[j]? = some .nilsl) (h : Goes c todo E (List.set (T ++ [some (HObj.vec 0 sz [])]) kb (some (HObj.box (cs.set j (.osl (.loc T.length) 0 0 0)))))) : Goes c todo E T := by
  rw [lget_eq] at hk
  refine goes_step fun w β H m a b cs0 hs _ _ _ => ?_
  obtain ⟨β', H', k1, k2, k3⟩ := hs.newNil 0 sz none
  have hk2 : (T ++ [some (HObj.vec 0 sz [])])[kb]? = some (some (.box cs)) := by rw [List.getElem?_append_left (lt_of_get hk)]; exact hk
  obtain ⟨r, hr, hH⟩ := k1.at hk2
  have hob := k1.hrel.obj r _ hH
  have hfr : Fr w β' H' w β' (H'.set r (some ((HObj.box (cs.set j (.osl (.loc T.length) 0 0 0))).conv (m ++ [H.length])))) := Fr.swap hH trivial
  have hrel : HRel w β' (H'.set r (some ((HObj.box (cs.set j (.osl (.loc T.length) 0 0 0))).conv (m ++ [H.length])))) := by
    refine k1.hrel.swap hH trivial ?_
    simp only [HObj.conv]
    cases hβ : β' r with
    | none => trivial
    | nil => rw [hβ] at hob; exact hob
    | blk bb N =>
      rw [hβ] at hob
      obtain ⟨vs, e, q1, q2, q3, q4⟩ := hob
      rw [V.convL_eq, List.length_map] at q3
      refine ⟨vs, e, q1, q2, by rw [V.convL_eq]; simpa using q3, fun i x v hi hv => ?_⟩
      rw [V.convL_eq, List.getElem?_map, Option.map_eq_some_iff] at hi
      obtain ⟨y, hy, rfl⟩ := hi
      by_cases hij : i = j
      · subst hij
        rw [List.getElem?_set_self (lt_of_get hj)] at hy
        injection hy with hy
        subst hy
        have h0 := q4 i .nilsl v (by rw [V.convL_eq, List.getElem?_map, hj]; rfl) hv
        cases h0
        exact k3.mono (by rw [← HObj.conv]; exact hfr)
      · rw [List.getElem?_set_ne (fun e => hij e.symm)] at hy
        exact (q4 i _ v (by rw [V.convL_eq, List.getElem?_map, hy]; rfl) hv).mono (by rw [← HObj.conv]; exact hfr)
  have hm : m.length = T.length := hs.mlen
  have hsc0 : (HObj.box cs).sc (m ++ [H.length]).length := by
    have h1 := k1.scT kb _ hk2
    have h2 : (m ++ [H.length]).length = (T ++ [some (HObj.vec 0 sz [])]).length := k1.mlen
    rw [h2]
    exact h1
  have hset := k1.setAt (o' := some (.box (cs.set j (.osl (.loc T.length) 0 0 0)))) (w' := w) hr (fun o1 e1 => by
      injection e1 with e1
      subst e1
      show V.scL _ _
      rw [V.scL_iff]
      have hsc' := (V.scL_iff _ _).1 hsc0
      intro v hv
      rcases List.mem_or_eq_of_mem_set hv with hv | hv
      · exact hsc' v hv
      · subst hv
        show T.length < (m ++ [H.length]).length
        simp only [List.length_append, List.length_singleton]
        omega)
    (fun hm => absurd hm (k1.notD hk2 (by simp))) hfr hrel
  exact ⟨w, β', _, m ++ [H.length], a, todo, ⟨E, _, c.B, c.D⟩, .refl _ _, hset, k2.trans hfr, h⟩
end

theorem funN_wk {P : Program} {g : FuncId} {args : List V} {Q : V → Base → Prop} (h : FunN P g args fun x N => ∃ y, Wk x y ∧ y.pureB = true ∧ Q y N) : FunN P g args Q := by
  unfold FunN at *
  refine ⟨h.1, fun w β H B vals cs hs hl hr => ?_⟩
  obtain ⟨x, N, v, w', β', H', fr, ⟨y, q1, q2, q3⟩, k1, k2, k3, k4, k5, k6⟩ := h.2 w β H B vals cs hs hl hr
  exact ⟨y, N, v, w', β', H', fr, q3, k1, k2, k3, q1 _ _ _ _ k4, q2, k6⟩
end Bow
/- AE47: a function whose named memory nobody looks at any more. -/
namespace Bow
open Go

/-- Names let go. -/
theorem letGo {w : World} {β : Nat → Loc} {H : Heap} {B N : Base} (h : SRel [] 0 w β H [] ⟨[], [], B.add N, []⟩ bare) : ∃ H2, SRel [] 0 w β H2 [] ⟨[], [], B, []⟩ bare ∧ Fr w β H w β H2 := by
  have hH : ∀ q, q < H.length → H[q]? = some ((B.add N) q) := fun q hq => h.base q hq (by simp)
  obtain ⟨H2, hH2⟩ : ∃ H2 : Heap, H2 = (List.range H.length).map B := ⟨_, rfl⟩
  have hl : H2.length = H.length := by rw [hH2]; simp
  have hg : ∀ q, q < H.length → H2[q]? = some (B q) := fun q hq => by rw [hH2]; simp [hq]
  have hsub : ∀ q o, H2[q]? = some (some o) → H[q]? = some (some o) := fun q o hq => by
    have hlt : q < H.length := by rw [← hl]; exact lt_of_get hq
    rw [hg q hlt] at hq
    injection hq with hq
    rw [hH q hlt, Ext.add B N q o hq]
  have f : Fr w β H w β H2 := by
    refine ⟨⟨rfl, rfl, rfl, Nat.le_refl _, by rw [hl]; exact Nat.le_refl _, fun r o' _ ho => ⟨o', hsub r o' ho, Evo.refl _, fun _ _ => rfl⟩, fun _ _ _ => rfl, ?_, fun _ _ => rfl, fun r s hs => ⟨hsub r _ hs, rfl⟩⟩, fun _ _ h => h⟩
    rintro b ⟨r, M, ⟨o, ho, hn⟩, hb⟩
    exact .inr ⟨r, M, ⟨o, hsub r o ho, hn⟩, hb⟩
  refine ⟨H2, ⟨?_, rfl, fun k => by simp [lk, V.conv]; exact .undef _, rfl, List.nodup_nil, by simp, rfl, fun r hr _ => ?_, fun r hr => ?_, by simp, by simp, by simp, rfl, by simp⟩, f⟩
  · refine h.hrel.step f (fun r o ho => .inl ⟨hsub r o ho, rfl, fun _ _ _ => rfl⟩) ?_
    rintro r r' b M M' ⟨o, ho⟩ ⟨o', ho'⟩ hb hb'
    exact h.hrel.inj r r' b M M' ⟨o, hsub r o ho⟩ ⟨o', hsub r' o' ho'⟩ hb hb'
  · exact hg r (by rw [← hl]; exact hr)
  · have h1 : (B.add N) r = none := h.fut r (by rw [← hl]; exact hr)
    show B r = none
    cases hb : B r with
    | none => rfl
    | some o => rw [Ext.add B N r o hb] at h1; cases h1
theorem pure_of_funN {P : Program} {g : FuncId} {args : List V} {Q : V → Prop} (h : FunN P g args fun x _ => Q x) (ha : V.pureL args = true) : Pure P g args Q := by
  unfold FunN at h
  unfold Pure Fun
  refine ⟨h.1, fun w β H m B vals cs hs hl hr => ?_⟩
  have hm : m = [] := List.length_eq_zero_iff.1 hs.mlen
  subst hm
  obtain ⟨x, N, v, w', β', H', fr, hq, hN, k1, k2, k3, k4, k5⟩ := h.2 w β H B vals cs hs hl (fun j x v hj hv => by
    have h1 := hr j x v hj hv
    rwa [pure_conv _ _ (pureL_mem _ ha x (List.mem_of_getElem? hj))] at h1)
  obtain ⟨H2, e1, e2⟩ := letGo k1
  exact ⟨x, [], v, w', β', H2, [], fr, ⟨rfl, k4, hq⟩, e1, k2.trans e2, by rw [pure_conv _ _ k4]; exact k3.mono e2, k5⟩
end Bow
/- AE53: named memory, lent to a function that leaves nothing behind: what it hands back lies elsewhere, where the sizes of its slices' elements tell so. -/
namespace Bow
open Go

/-! ### No pointer, no slice of elements of these sizes -/
mutual
def V.apart (ss : List Nat) : V → Bool
  | .int .. | .bool _ | .tt | .ff | .str _ | .nilsl | .nilp | .nilf | .nili | .nilmap | .undef => true
  | .sl sz xs => !ss.contains sz && V.apartL ss xs
  | .agg cs => V.apartL ss cs
  | .tup cs => V.apartL ss cs
  | .iface _ v => v.apart ss
  | _ => false
def V.apartL (ss : List Nat) : List V → Bool
  | [] => true
  | v :: vs => v.apart ss && V.apartL ss vs
end
theorem apartL_get {ss : List Nat} : ∀ {vs : List V}, V.apartL ss vs = true → ∀ v ∈ vs, v.apart ss = true
  | [], _, v, h => by cases h
  | x :: vs, hg, v, h => by
    simp only [V.apartL, Bool.and_eq_true] at hg
    rcases List.mem_cons.1 h with rfl | h
    · exact hg.1
    · exact apartL_get hg.2 v h
theorem apart_cells {ss : List Nat} {x : V} (h : x.apart ss = true) : ∀ c ∈ x.cells, c.apart ss = true := by
  cases x with
  | agg cs =>
    simp only [V.apart] at h
    exact apartL_get (vs := cs) h
  | _ =>
    intro c hc
    simp only [V.cells, List.mem_singleton] at hc
    subst hc
    exact h
/-! ### All own memory, sealed -/
def sealO (s : Nat) : HObj → HObj
  | .held t => .held t
  | _ => .held s
def sealH (L : Nat → Nat) (H : Heap) : Heap := H.mapIdx fun r o => o.map (sealO (L r))
theorem seal_get {L : Nat → Nat} {H : Heap} {r : Nat} : (sealH L H)[r]? = (H[r]?).map fun o => o.map (sealO (L r)) := by simp [sealH]
theorem seal_len {L : Nat → Nat} {H : Heap} : (sealH L H).length = H.length := by simp [sealH]
theorem sealO_is (s : Nat) (o : HObj) : isSeal (sealO s o) := by cases o <;> trivial
theorem sealO_held (s : Nat) (o : HObj) : ∃ t, sealO s o = .held t := by cases o <;> exact ⟨_, rfl⟩
theorem sealO_open {s : Nat} {o : HObj} (h : ¬ isSeal o) : sealO s o = .held s := by cases o <;> first | rfl | exact absurd trivial h
theorem seal_of {L : Nat → Nat} {H : Heap} {r : Nat} {o : HObj} (h : (sealH L H)[r]? = some (some o)) : ∃ o', H[r]? = some (some o') ∧ o = sealO (L r) o' := by
  rw [seal_get] at h
  rcases e : H[r]? with - | - | o'
  · rw [e] at h; cases h
  · rw [e] at h; cases h
  · rw [e] at h
    injection h with h
    injection h with h
    exact ⟨o', rfl, h.symm⟩
theorem seal_no {L : Nat → Nat} {β : Nat → Loc} {H : Heap} (b : Nat) : ¬ ownB β (sealH L H) b := by
  rintro ⟨r, N, ⟨o, h, hn⟩, _⟩
  obtain ⟨o', _, rfl⟩ := seal_of h
  exact hn (sealO_is _ _)
theorem seal_free {L : Nat → Nat} {β : Nat → Loc} {H : Heap} {b sz : Nat} (h : freeB β H b sz) : freeB β (sealH L H) b sz := by
  refine ⟨seal_no b, fun r s N hr hb => ?_⟩
  obtain ⟨o, ho, e⟩ := seal_of hr
  by_cases hs : isSeal o
  · cases o <;> first | exact hs.elim | skip
    injection e with e
    subst e
    exact h.2 r _ N ho hb
  · exact (h.1 ⟨r, N, ⟨o, ho, hs⟩, hb⟩).elim
theorem HRel.sealed {w : World} {β : Nat → Loc} {H : Heap} (h : HRel w β H) (L : Nat → Nat) : HRel w β (sealH L H) := by
  refine ⟨fun r o ho => ?_, fun r r' b N N' hl hl' hb hb' => ?_⟩
  · obtain ⟨o', ho', rfl⟩ := seal_of ho
    obtain ⟨t, e⟩ := sealO_held (L r) o'
    rw [e]
    cases e2 : β r with
    | none => trivial
    | nil => trivial
    | blk b N => exact h.lt ⟨o', ho'⟩ e2
  · obtain ⟨o, ho⟩ := hl
    obtain ⟨o', ho'⟩ := hl'
    obtain ⟨z, hz, _⟩ := seal_of ho
    obtain ⟨z', hz', _⟩ := seal_of ho'
    exact h.inj r r' b N N' ⟨z, hz⟩ ⟨z', hz'⟩ hb hb'
theorem Rep.sealed {w : World} {β : Nat → Loc} {H : Heap} {v : V} {u : Value} (h : Rep w β H v u) (L : Nat → Nat) : v.apart [] = true → Rep w β (sealH L H) v u := by
  induction h with
  | int k n => exact fun _ => .int k n
  | bool b => exact fun _ => .bool b
  | tt => exact fun _ => .tt
  | ff => exact fun _ => .ff
  | str s h => exact fun _ => .str s h
  | nilsl => exact fun _ => .nilsl
  | nilp => exact fun _ => .nilp
  | nilf => exact fun _ => .nilf
  | nili => exact fun _ => .nili
  | nilmap => exact fun _ => .nilmap
  | undef v => exact fun _ => .undef v
  | sl sz xs a cap vals hcap hmax hsz ha hr ih =>
    intro hp
    simp only [V.apart, Bool.and_eq_true] at hp
    refine .sl sz xs a cap vals hcap hmax hsz (fun hne => ?_) (fun i x j c h1 h2 => ih i x j c h1 h2 (apart_cells (apartL_get hp.2 x (List.mem_of_getElem? h1)) c (List.mem_of_getElem? h2)))
    obtain ⟨ad, e, h1, h2⟩ := ha hne
    exact ⟨ad, e, seal_free h1, h2⟩
  | agg cs vs hl h ih =>
    intro hp
    simp only [V.apart] at hp
    exact .agg cs vs hl fun j c v hj hv => ih j c v hj hv (apartL_get hp c (List.mem_of_getElem? hj))
  | tup cs vs hl h ih =>
    intro hp
    simp only [V.apart] at hp
    exact .tup cs vs hl fun j c v hj hv => ih j c v hj hv (apartL_get hp c (List.mem_of_getElem? hj))
  | iface t x v h ih =>
    intro hp
    simp only [V.apart] at hp
    exact .iface t x v (ih hp)
  | _ => intro hp; simp [V.apart] at hp
/-! ### Named rows, lent -/
inductive Lz (B : Base) (L : Nat → Nat) : V → V → Prop
  | wk {x y : V} (h : Wk x y) (hy : y.apart [] = true) : Lz B L x y
  | row (r g sz : Nat) (xs : List V) (h : B r = some (.vec g sz xs)) (hL : L r = sz) (hx : V.apartL [] xs = true) : Lz B L (.osl (.abs r) g 0 xs.length) (.sl sz xs)
  | agg (cs ds : List V) (hl : cs.length = ds.length) (h : ∀ (j : Nat) (c d : V), cs[j]? = some c → ds[j]? = some d → Lz B L c d) : Lz B L (.agg cs) (.agg ds)
  | sl (sz : Nat) (xs ys : List V) (hl : xs.length = ys.length) (hy : ∀ y ∈ ys, okE sz y) (h : ∀ (i : Nat) (x y : V) (j : Nat) (c d : V), xs[i]? = some x → ys[i]? = some y → x.cells[j]? = some c → y.cells[j]? = some d → Lz B L c d) : Lz B L (.sl sz xs) (.sl sz ys)

theorem Lz.rep {B : Base} {L : Nat → Nat} {w : World} {β : Nat → Loc} {H : Heap} (hrel : HRel w β H) (hB : ∀ q o, B q = some o → H[q]? = some (some o)) {x y : V} (h : Lz B L x y) : ∀ {v : Value}, Rep w β H x v → Rep w β (sealH L H) y v := by
  induction h with
  | wk h hy => exact fun {v} hv => (h w β H v hv).sealed L hy
  | row r g sz xs h hL hx =>
    intro v hv
    have hH := hB r _ h
    have hob := hrel.obj r _ hH
    have hvec : ∀ sz2 xs2, H[r]? = some (some (.vec g sz2 xs2)) → sz2 = sz ∧ xs2 = xs := fun sz2 xs2 h2 => by
      rw [hH] at h2
      injection h2 with h2
      injection h2 with h2
      injection h2 with _ e1 e2
      exact ⟨e1.symm, e2.symm⟩
    generalize hn : xs.length = n at hv
    cases hv with
    | oslNil _ _ sz2 xs2 ad hH' hβ =>
      rw [hβ] at hob
      have : xs = [] := hob
      subst this
      exact .sl sz [] ad 0 (fun _ => Go.undef) (Nat.le_refl _) (Nat.zero_le _) (by simp) (fun hne => absurd rfl hne) (fun i x j c hi => by simp at hi)
    | oslBlk _ _ _ _ sz2 xs2 b N ad cap hH' hβ hl hN hcap ha hlen =>
      obtain ⟨rfl, rfl⟩ := hvec _ _ hH'
      rw [hβ] at hob
      obtain ⟨vs, e, _, h1, h2, h3, h4, h5, h6⟩ := hob
      subst hn
      refine .sl sz2 xs2 ad cap (fun j => vs.getD j Go.undef) hl (by omega) h5 (fun hne => ?_) (fun i x j c hi hj => ?_)
      · have h0 : 0 < xs2.length := List.length_pos_iff.2 hne
        have := ha (by omega)
        subst this
        refine ⟨_, rfl, ⟨seal_no _, fun q s N' hq hb => ?_⟩, (Array.getElem?_eq_some_iff.1 h1).1, fun j hj => ?_⟩
        · obtain ⟨o, ho, e⟩ := seal_of hq
          have : q = r := hrel.inj q r b N' N ⟨o, ho⟩ ⟨_, hH⟩ hb hβ
          subst this
          rw [hH] at ho
          injection ho with ho
          injection ho with ho
          subst ho
          injection e with e
          exact e.trans hL
        · have hjv : j < vs.size := by omega
          rw [Nat.zero_mul, at_add, cell_of_row w b j vs e (0, 0) h1]
          simp [hjv]
      · have hlt : i * sz2 + j < vs.size := by
          have e1 := lt_of_get hi
          have e2 := lt_of_get hj
          have e3 := (h5 x (List.mem_of_getElem? hi)).1
          have : (i + 1) * sz2 ≤ xs2.length * sz2 := Nat.mul_le_mul_right _ e1
          rw [Nat.add_mul] at this
          omega
        exact (h6 i x j c (vs.getD (i * sz2 + j) Go.undef) hi hj (by simp [hlt])).sealed L (apart_cells (apartL_get hx x (List.mem_of_getElem? hi)) c (List.mem_of_getElem? hj))
    | oslStale _ _ _ _ g' sz' xs' _ hH' hg =>
      rw [hH] at hH'
      injection hH' with hH'
      injection hH' with hH'
      injection hH' with e0 _ _
      omega
    | oslDead _ _ _ _ _ hd => rw [hH] at hd; cases hd
  | agg cs ds hl h ih =>
    intro v hv
    cases hv with
    | agg _ vs hl' h' =>
      refine .agg ds vs (hl.symm.trans hl') fun j d u hj hu => ?_
      have hjc : j < cs.length := by have := lt_of_get hj; omega
      exact ih j _ d (List.getElem?_eq_getElem hjc) hj (h' j _ u (List.getElem?_eq_getElem hjc) hu)
  | sl sz xs ys hl hy h ih =>
    intro v hv
    generalize hn : xs.length = n at hl
    generalize hq : V.sl sz xs = q at hv
    cases hv with
    | sl sz' xs' a cap vals hcap hmax hsz ha hr =>
      injection hq with e1 e2
      subst e1 e2
      rw [hn, hl]
      refine .sl sz ys a cap vals (by omega) hmax hy (fun hne => ?_) (fun i y j d hi hj => ?_)
      · obtain ⟨ad, k1, k2, k3, k4⟩ := ha (fun e => hne (by rw [e] at hn; exact List.length_eq_zero_iff.1 (by simp at hn; omega)))
        exact ⟨ad, k1, seal_free k2, k3, fun j hj => k4 j (by rw [hn, hl]; exact hj)⟩
      · have hix : i < xs.length := by have := lt_of_get hi; omega
        have hx := List.getElem?_eq_getElem hix
        have hc1 := (hsz _ (List.mem_of_getElem? hx)).1
        have hc2 := (hy _ (List.mem_of_getElem? hi)).1
        have hjx : j < (xs[i]).cells.length := by have := lt_of_get hj; omega
        exact ih i _ y j _ d hx hi (List.getElem?_eq_getElem hjx) hj (hr i _ j _ hx (List.getElem?_eq_getElem hjx))
    | _ => cases hq

end Bow
/- AE56: own memory, lent to a function that leaves nothing behind: rows of elements of one size, and pointers to what holds them. -/
namespace Bow
open Go

/-- By names: as Lz, and a pointer to a row of cells. -/
inductive Lp (B : Base) (s : Nat) : V → V → Prop
  | lz {x y : V} (h : Lz B (fun _ => s) x y) : Lp B s x y
  | part (r g off len : Nat) (xs : List V) (h : B r = some (.vec g s xs)) (hlen : off + len ≤ xs.length) (hx : V.apartL [] xs = true) : Lp B s (.osl (.abs r) g off len) (.sl s ((xs.drop off).take len))
  | box (r : Nat) (cs ds : List V) (h : B r = some (.box cs)) (hl : cs.length = ds.length) (hd : ∀ (j : Nat) (c d : V), cs[j]? = some c → ds[j]? = some d → Lp B s c d) : Lp B s (.ptr (.abs r) 0) (.iptr ds 0)
theorem Lp.rep {B : Base} {s : Nat} {w : World} {β : Nat → Loc} {H : Heap} (hrel : HRel w β H) (hB : ∀ q o, B q = some o → H[q]? = some (some o)) {x y : V} (h : Lp B s x y) : ∀ {v : Value}, Rep w β H x v → Rep w β (sealH (fun _ => s) H) y v := by
  induction h with
  | lz h => exact fun {v} hv => h.rep hrel hB hv
  | part r g off len xs h hlen hx =>
    intro v hv
    have hH := hB r _ h
    have hob := hrel.obj r _ hH
    have hvec : ∀ sz2 xs2, H[r]? = some (some (.vec g sz2 xs2)) → sz2 = s ∧ xs2 = xs := fun sz2 xs2 h2 => by
      rw [hH] at h2
      injection h2 with h2
      injection h2 with h2
      injection h2 with _ e1 e2
      exact ⟨e1.symm, e2.symm⟩
    have hlen' : ((xs.drop off).take len).length = len := by rw [List.length_take, List.length_drop]; omega
    have hget : ∀ (i : Nat) (x : V), ((xs.drop off).take len)[i]? = some x → xs[off + i]? = some x := fun i x hi => by
      rw [List.getElem?_take] at hi
      split at hi
      · rw [List.getElem?_drop] at hi
        exact hi
      · cases hi
    generalize hys : (xs.drop off).take len = ys at hlen' hget
    have hmem : ∀ x ∈ ys, x ∈ xs := fun x hx => by
      obtain ⟨i, hi⟩ := List.getElem?_of_mem hx
      exact List.mem_of_getElem? (hget i x hi)
    cases hv with
    | oslNil _ _ sz2 xs2 ad hH' hβ =>
      have : ys = [] := List.length_eq_zero_iff.1 hlen'
      subst this
      exact .sl s [] ad 0 (fun _ => Go.undef) (Nat.le_refl _) (Nat.zero_le _) (by simp) (fun hne => absurd rfl hne) (fun i x j c hi => by simp at hi)
    | oslBlk _ _ _ _ sz2 xs2 b N ad cap hH' hβ hl hN hcap ha hlen2 =>
      obtain ⟨rfl, rfl⟩ := hvec _ _ hH'
      rw [hβ] at hob
      obtain ⟨vs, e, _, h1, h2, h3, h4, h5, h6⟩ := hob
      have hcell : ∀ j, j < ys.length * sz2 → off * sz2 + j < vs.size := fun j hj => by
        have : (off + len) * sz2 ≤ xs2.length * sz2 := Nat.mul_le_mul_right _ hlen
        rw [Nat.add_mul] at this
        rw [hlen'] at hj
        omega
      have key := Rep.sl (w := w) (β := β) (H := sealH (fun _ => sz2) H) sz2 ys ad cap (fun j => vs.getD (off * sz2 + j) Go.undef) (by omega) (by omega) (fun x hx => h5 x (hmem x hx)) (fun hne => ?_) (fun i x j c hi hj => ?_)
      · rw [hlen'] at key
        exact key
      · have h0 : 0 < ys.length := List.length_pos_iff.2 hne
        have := ha (by omega)
        subst this
        refine ⟨_, rfl, ⟨seal_no _, fun q s' N' hq hb => ?_⟩, (Array.getElem?_eq_some_iff.1 h1).1, fun j hj => ?_⟩
        · obtain ⟨o, ho, e⟩ := seal_of hq
          have : q = r := hrel.inj q r b N' N ⟨o, ho⟩ ⟨_, hH⟩ hb hβ
          subst this
          rw [hH] at ho
          injection ho with ho
          injection ho with ho
          subst ho
          injection e with e
        · have hjv := hcell j hj
          rw [add_none, cell_of_row w b (off * sz2 + j) vs e (0, 0) h1]
          simp [hjv]
      · have hgx := hget i x hi
        have hlt : off * sz2 + (i * sz2 + j) < vs.size := by
          refine hcell _ ?_
          have e1 := lt_of_get hi
          have e2 := lt_of_get hj
          have e3 := (h5 x (hmem x (List.mem_of_getElem? hi))).1
          have : (i + 1) * sz2 ≤ ys.length * sz2 := Nat.mul_le_mul_right _ e1
          rw [Nat.add_mul] at this
          omega
        have hlt2 : (off + i) * sz2 + j < vs.size := by rw [Nat.add_mul]; omega
        have := (h6 (off + i) x j c (vs.getD ((off + i) * sz2 + j) Go.undef) hgx hj (by simp [hlt2])).sealed (fun _ => sz2) (apart_cells (apartL_get hx x (hmem x (List.mem_of_getElem? hi))) c (List.mem_of_getElem? hj))
        rw [show off * sz2 + (i * sz2 + j) = (off + i) * sz2 + j by rw [Nat.add_mul, Nat.add_assoc]]
        exact this
    | oslStale _ _ _ _ g' sz' xs' _ hH' hg =>
      rw [hH] at hH'
      injection hH' with hH'
      injection hH' with hH'
      injection hH' with e0 _ _
      omega
    | oslDead _ _ _ _ _ hd => rw [hH] at hd; cases hd
  | box r cs ds h hl hd ih =>
    intro v hv
    have hH := hB r _ h
    have hob := hrel.obj r _ hH
    cases hv with
    | ptrLive _ _ b N cs' hH' hβ =>
      rw [hβ] at hob
      obtain ⟨vs, e, h1, h2, h3, h4⟩ := hob
      have key : Rep w β (sealH (fun _ => s) H) (.iptr ds 0) (.pointer (some ((⟨b, 0, none⟩ : Addr).add 0))) := by
        refine .iptr ds 0 ⟨b, 0, none⟩ (fun j => vs.getD j Go.undef) (seal_no b) (Array.getElem?_eq_some_iff.1 h1).1 (fun j hj => ?_) (fun j d hj => ?_)
        · have hjv : j < vs.size := by omega
          rw [at_add, cell_of_row w b j vs e (0, 0) h1]
          simp [hjv]
        · have hjd := lt_of_get hj
          have hjc : j < cs.length := by omega
          have hjv : j < vs.size := by omega
          exact ih j _ d (List.getElem?_eq_getElem hjc) hj (h4 j _ _ (List.getElem?_eq_getElem hjc) (by simp [hjv]))
      rw [at_add] at key
      exact key
    | ptrDead _ _ _ hd => rw [hH] at hd; cases hd

/-- Of the caller's own. -/
inductive Lt (T : Heap) (s : Nat) : V → V → Prop
  | wk {x y : V} (hx : x.pureB = true) (h : Wk x y) (hy : y.apart [] = true) : Lt T s x y
  | row (k g : Nat) (xs : List V) (h : T[k]? = some (some (.vec g s xs))) (hx : V.apartL [] xs = true) : Lt T s (.osl (.loc k) g 0 xs.length) (.sl s xs)
  | part (k g off len : Nat) (xs : List V) (h : T[k]? = some (some (.vec g s xs))) (hlen : off + len ≤ xs.length) (hx : V.apartL [] xs = true) : Lt T s (.osl (.loc k) g off len) (.sl s ((xs.drop off).take len))
  | box (k : Nat) (cs ds : List V) (h : T[k]? = some (some (.box cs))) (hl : cs.length = ds.length) (hd : ∀ (j : Nat) (c d : V), cs[j]? = some c → ds[j]? = some d → Lt T s c d) : Lt T s (.ptr (.loc k) 0) (.iptr ds 0)
theorem loc_conv {m : List Nat} {k r : Nat} (h : m[k]? = some r) : (Ref.loc k).conv m = .abs r := by
  simp only [Ref.conv]
  rw [h]
theorem Lt.conv {T H : Heap} {m : List Nat} {s : Nat} (hlen : m.length = T.length) (hloc : ∀ (k r : Nat) (o : Option HObj), m[k]? = some r → T[k]? = some o → H[r]? = some (o.map (HObj.conv m))) {x y : V} (h : Lt T s x y) : Lp (fun r => (H[r]?).join) s (x.conv m) y := by
  induction h with
  | wk hx h hy =>
    rw [pure_conv _ _ hx]
    exact .lz (.wk h hy)
  | row k g xs h hx =>
    have hk := lt_of_get h
    obtain ⟨r, hr⟩ : ∃ r, m[k]? = some r := ⟨_, List.getElem?_eq_getElem (by omega)⟩
    have e : (V.osl (.loc k) g 0 xs.length).conv m = .osl (.abs r) g 0 xs.length := by rw [V.conv, loc_conv hr]
    rw [e]
    refine .lz (.row r g s xs ?_ rfl hx)
    show (H[r]?).join = _
    rw [hloc k r _ hr h]
    rfl
  | part k g off len xs h hlen hx =>
    have hk := lt_of_get h
    obtain ⟨r, hr⟩ : ∃ r, m[k]? = some r := ⟨_, List.getElem?_eq_getElem (by omega)⟩
    have e : (V.osl (.loc k) g off len).conv m = .osl (.abs r) g off len := by rw [V.conv, loc_conv hr]
    rw [e]
    refine .part r g off len xs ?_ hlen hx
    show (H[r]?).join = _
    rw [hloc k r _ hr h]
    rfl
  | box k cs ds h hl hd ih =>
    have hk := lt_of_get h
    obtain ⟨r, hr⟩ : ∃ r, m[k]? = some r := ⟨_, List.getElem?_eq_getElem (by omega)⟩
    have e : (V.ptr (.loc k) 0).conv m = .ptr (.abs r) 0 := by rw [V.conv, loc_conv hr]
    rw [e]
    refine .box r (V.convL m cs) ds ?_ (by rw [V.convL_eq, List.length_map]; exact hl) fun j c d hj hdj => ?_
    · show (H[r]?).join = _
      rw [hloc k r _ hr h]
      rfl
    · rw [V.convL_eq, List.getElem?_map, Option.map_eq_some_iff] at hj
      obtain ⟨c', hc', rfl⟩ := hj
      exact ih j c' d hc' hdj
def LtL (T : Heap) (s : Nat) : List V → List V → Prop
  | [], [] => True
  | x :: xs, y :: ys => Lt T s x y ∧ LtL T s xs ys
  | _, _ => False
theorem LtL.get {T : Heap} {s : Nat} : ∀ {xs ys : List V}, LtL T s xs ys → xs.length = ys.length ∧ ∀ (j : Nat) (y : V), ys[j]? = some y → ∃ x, xs[j]? = some x ∧ Lt T s x y
  | [], [], _ => ⟨rfl, fun j y h => by simp at h⟩
  | x :: xs, y :: ys, h => by
    obtain ⟨h1, h2⟩ := LtL.get h.2
    refine ⟨by simp [h1], fun j z hz => ?_⟩
    cases j with
    | zero => simp at hz; subst hz; exact ⟨x, rfl, h.1⟩
    | succ j => simpa using h2 j z (by simpa using hz)
  | [], _ :: _, h => h.elim
  | _ :: _, [], h => h.elim
end Bow
/- AE59: own memory that another own row takes over; own slices cut behind, and their room. -/
namespace Bow
open Go

section
variable {imps : List Nat} {nt : Nat} {w : World} {β : Nat → Loc} {H : Heap} {m : List Nat} {E : Env} {T : Heap} {B : Base} {D : List Nat} {a : Act}

end

section
variable {c : Cx} {E : Env} {T : Heap} {ops : Array Oper} {i : Nat} {rest : List Nat} {k : List Item} {o : Oper}
end
end Bow
/- AE60: own memory, lent to a function that leaves own rows of its own. -/
namespace Bow
open Go

mutual
/-- Own memory, or what lies apart. -/
def V.retB (s : Nat) : V → Bool
  | .osl (.loc _) _ _ _ => true
  | .tup vs => V.retL s vs
  | v => v.apart [s]
def V.retL (s : Nat) : List V → Bool
  | [] => true
  | v :: vs => v.retB s && V.retL s vs
end
/-- Rows alone, whose elements lie apart. -/
def rowsB (s : Nat) : Heap → Bool
  | [] => true
  | some (.vec _ _ xs) :: T => V.apartL [s] xs && rowsB s T
  | _ :: _ => false
theorem rowsB_get {s : Nat} : ∀ {T : Heap}, rowsB s T = true → ∀ (k : Nat) (o : Option HObj), T[k]? = some o → ∃ g sz xs, o = some (.vec g sz xs) ∧ V.apartL [s] xs = true
  | [], _, k, o, h => by simp at h
  | some (.vec g sz xs) :: T, hb, k, o, h => by
    simp only [rowsB, Bool.and_eq_true] at hb
    cases k with
    | zero =>
      simp only [List.getElem?_cons_zero, Option.some.injEq] at h
      exact ⟨g, sz, xs, h.symm, hb.1⟩
    | succ k => exact rowsB_get hb.2 k o (by simpa using h)
  | none :: T, hb, _, _, _ => by simp [rowsB] at hb
  | some (.box _) :: T, hb, _, _, _ => by simp [rowsB] at hb
  | some (.loop ..) :: T, hb, _, _, _ => by simp [rowsB] at hb
  | some .dfr :: T, hb, _, _, _ => by simp [rowsB] at hb
  | some (.held _) :: T, hb, _, _, _ => by simp [rowsB] at hb
mutual
theorem apart_conv {ss : List Nat} (m : List Nat) : ∀ v : V, v.apart ss = true → v.conv m = v
  | .agg cs, h => by
    simp only [V.apart] at h
    rw [V.conv, apartL_conv m cs h]
  | .tup cs, h => by
    simp only [V.apart] at h
    rw [V.conv, apartL_conv m cs h]
  | .iface t v, h => by
    simp only [V.apart] at h
    rw [V.conv, apart_conv m v h]
  | .int .., _ | .bool _, _ | .tt, _ | .ff, _ | .str _, _ | .sl .., _ | .nilsl, _ | .nilp, _ | .nilf, _ | .nili, _ | .nilmap, _ | .undef, _ => rfl
  | .osl .., h | .iptr .., h | .ptr .., h | .eptr .., h | .fn .., h | .yld _, h => by simp [V.apart] at h
theorem apartL_conv {ss : List Nat} (m : List Nat) : ∀ vs : List V, V.apartL ss vs = true → V.convL m vs = vs
  | [], _ => rfl
  | v :: vs, h => by
    simp only [V.apartL, Bool.and_eq_true] at h
    rw [V.convL, apart_conv m v h.1, apartL_conv m vs h.2]
end

/-- What lies apart, from one heap's view into another's. -/
theorem Rep.carried {w : World} {β1 β2 : Nat → Loc} {H1 H2 : Heap} {s : Nat} (hf : ∀ b sz, sz ≠ s → freeB β1 H1 b sz → freeB β2 H2 b sz) {v : V} {u : Value} (h : Rep w β1 H1 v u) : v.apart [s] = true → Rep w β2 H2 v u := by
  induction h with
  | int k n => exact fun _ => .int k n
  | bool b => exact fun _ => .bool b
  | tt => exact fun _ => .tt
  | ff => exact fun _ => .ff
  | str s h => exact fun _ => .str s h
  | nilsl => exact fun _ => .nilsl
  | nilp => exact fun _ => .nilp
  | nilf => exact fun _ => .nilf
  | nili => exact fun _ => .nili
  | nilmap => exact fun _ => .nilmap
  | undef v => exact fun _ => .undef v
  | sl sz xs a cap vals hcap hmax hsz ha hr ih =>
    intro hp
    simp only [V.apart, Bool.and_eq_true, Bool.not_eq_true'] at hp
    refine .sl sz xs a cap vals hcap hmax hsz (fun hne => ?_) (fun i x j c h1 h2 => ih i x j c h1 h2 (apart_cells (apartL_get hp.2 x (List.mem_of_getElem? h1)) c (List.mem_of_getElem? h2)))
    obtain ⟨ad, e, h1, h2⟩ := ha hne
    refine ⟨ad, e, hf _ _ (fun e => ?_) h1, h2⟩
    have := hp.1
    rw [e] at this
    simp at this
  | agg cs vs hl h ih =>
    intro hp
    simp only [V.apart] at hp
    exact .agg cs vs hl fun j c v hj hv => ih j c v hj hv (apartL_get hp c (List.mem_of_getElem? hj))
  | tup cs vs hl h ih =>
    intro hp
    simp only [V.apart] at hp
    exact .tup cs vs hl fun j c v hj hv => ih j c v hj hv (apartL_get hp c (List.mem_of_getElem? hj))
  | iface t x v h ih =>
    intro hp
    simp only [V.apart] at hp
    exact .iface t x v (ih hp)
  | _ => intro hp; simp [V.apart] at hp
theorem retL_get {s : Nat} : ∀ {vs : List V}, V.retL s vs = true → ∀ v ∈ vs, v.retB s = true
  | [], _, v, h => by cases h
  | x :: vs, hg, v, h => by
    simp only [V.retL, Bool.and_eq_true] at hg
    rcases List.mem_cons.1 h with rfl | h
    · exact hg.1
    · exact retL_get hg.2 v h
theorem Rep.handed {w : World} {β1 β2 : Nat → Loc} {H1 H2 : Heap} {s n : Nat} {m1 : List Nat} (hf : ∀ b sz, sz ≠ s → freeB β1 H1 b sz → freeB β2 H2 b sz) (hn : ∀ r, n ≤ r → H2[r]? = H1[r]? ∧ β2 r = β1 r) (hm : ∀ r ∈ m1, n ≤ r) :
    ∀ (v : V) {u : Value}, v.retB s = true → Rep w β1 H1 (v.conv m1) u → Rep w β2 H2 (v.conv m1) u := by
  intro v
  induction v using V.rec (motive_2 := fun vs => ∀ v ∈ vs, ∀ {u : Value}, v.retB s = true → Rep w β1 H1 (v.conv m1) u → Rep w β2 H2 (v.conv m1) u) with
  | osl r g off len =>
    intro u hb h
    cases r with
    | loc k =>
      simp only [V.conv, Ref.conv] at h ⊢
      cases e : m1[k]? with
      | none => rw [e] at h; cases h
      | some r =>
        rw [e] at h
        simp only at h ⊢
        obtain ⟨h1, h2⟩ := hn r (hm r (List.mem_of_getElem? e))
        cases h with
        | oslNil _ _ sz2 xs2 ad hH' hβ => exact .oslNil _ _ _ _ _ (h1.trans hH') (h2.trans hβ)
        | oslBlk _ _ _ _ sz2 xs2 b N ad cap hH' hβ hl hN hcap ha hlen => exact .oslBlk _ _ _ _ _ _ _ _ _ _ (h1.trans hH') (h2.trans hβ) hl hN hcap ha hlen
        | oslStale _ _ _ _ g' sz' xs' _ hH' hg hv => exact .oslStale _ _ _ _ _ _ _ _ (h1.trans hH') hg hv
        | oslDead _ _ _ _ _ hd hv => exact .oslDead _ _ _ _ _ (h1.trans hd) hv
    | abs _ => simp [V.retB, V.apart] at hb
    | bad => simp [V.retB, V.apart] at hb
  | tup vs ih =>
    intro u hb h
    simp only [V.retB] at hb
    simp only [V.conv] at h ⊢
    cases h with
    | tup _ us hl h =>
      refine .tup _ us hl fun j c v hj hv => ?_
      have h1 := h j c v hj hv
      rw [convL_get, Option.map_eq_some_iff] at hj
      obtain ⟨c0, hc0, rfl⟩ := hj
      exact ih c0 (List.mem_of_getElem? hc0) (retL_get hb c0 (List.mem_of_getElem? hc0)) h1
  | nil =>
    rename_i v hv u hb h
    cases hv
  | cons v vs ih1 ih2 =>
    rename_i x hx u hb h
    rcases List.mem_cons.1 hx with rfl | hx
    · exact ih1 hb h
    · exact ih2 x hx hb h
  | _ =>
    intro u hb h
    simp only [V.retB] at hb
    rw [apart_conv m1 _ hb] at h ⊢
    exact h.carried hf hb

/-- A call that is lent own memory, and leaves own rows. -/
theorem call_lendF {c : Cx} {g : FuncId} {args args' : List V} {E : Env} {T : Heap} {K : V → St → Prop} {Q : V → Heap → Prop} (s : Nat) (hf : Fun c.P g [] args' Q) (hz : LtL T s args args') (ha' : V.pureL args' = true)
    (hx : ∀ x T', Q x T' → x.retB s = true ∧ rowsB s T' = true) (h : ∀ x T', Q x T' → catC T T' fun T2 => K (x.ren (rangeFrom T.length T'.length)) ⟨E, T2, c.B, c.D⟩) : CallThen c g args E T K := by
  unfold Fun at hf
  unfold CallThen
  refine ⟨hf.1, fun w β H m a vals cs hs hl hr => ?_⟩
  obtain ⟨hzl, hzg⟩ := hz.get
  have hs0 : SRel [] 0 w β (sealH (fun _ => s) H) [] ⟨[], [], fun r => ((sealH (fun _ => s) H)[r]?).getD none, []⟩ bare := by
    refine ⟨hs.hrel.sealed (fun _ => s), rfl, fun k => by simp [lk, V.conv]; exact .undef _, rfl, List.nodup_nil, by simp, rfl, fun r h _ => ?_, fun r h1 => ?_, by simp, by simp, by simp, rfl, by simp⟩
    · simp only
      rw [List.getElem?_eq_getElem h]
      rfl
    · simp only
      rw [List.getElem?_eq_none h1]
      rfl
  obtain ⟨x, T', v, w', β1, H1, m1, fr, hq, k1, k2, k3, k4⟩ := hf.2 w β (sealH (fun _ => s) H) [] _ vals cs hs0 (hzl.symm.trans hl) (fun j y v hj hv => by
    obtain ⟨x0, h1, h2⟩ := hzg j y hj
    have h3 := hr j x0 v h1 hv
    rw [pure_conv _ _ (pureL_mem _ ha' y (List.mem_of_getElem? hj))]
    refine (h2.conv hs.mlen hs.loc).rep hs.hrel (fun q o hq => ?_) h3
    have hq : (H[q]?).join = some o := hq
    cases e : H[q]? with
    | none => rw [e] at hq; cases hq
    | some z =>
      rw [e] at hq
      have hq : z = some o := hq
      rw [hq])
  obtain ⟨hxr, hxT⟩ := hx x T' hq
  have h := h x T' hq
  rw [catC_eq] at h
  have hm1l : m1.length = T'.length := k1.mlen
  have hml : m.length = T.length := hs.mlen
  have hlen : H.length ≤ H1.length := by have := k2.len; rwa [seal_len] at this
  have hseal : ∀ r o, (sealH (fun _ => s) H)[r]? = some (some o) → H1[r]? = some (some o) ∧ β1 r = β r := fun r o ho => by
    obtain ⟨o', _, rfl⟩ := seal_of ho
    have hlt : r < (sealH (fun _ => s) H).length := lt_of_get ho
    have hlt1 : r < H1.length := Nat.lt_of_lt_of_le hlt k2.len
    have hnm : r ∉ m1 := fun hm => by
      obtain ⟨i, hi⟩ := List.getElem?_of_mem hm
      have := k1.own i r (Nat.zero_le _) hi
      simp only at this
      rw [ho] at this
      cases this
    have hH' : H1[r]? = some (some (sealO s o')) := by
      have := k1.base r hlt1 hnm
      simp only at this
      rw [this, ho]
      rfl
    refine ⟨hH', ?_⟩
    obtain ⟨t, e⟩ := sealO_held s o'
    rw [e] at hH'
    exact (k2.seals r t hH').2
  have hfresh : ∀ r ∈ m1, H.length ≤ r := fun r hr => by
    obtain ⟨i, hi⟩ := List.getElem?_of_mem hr
    have hiT : i < T'.length := by have := lt_of_get hi; omega
    obtain ⟨g0, sz0, xs0, ho, _⟩ := rowsB_get hxT i _ (List.getElem?_eq_getElem hiT)
    have hH1 := k1.loc i r _ hi (List.getElem?_eq_getElem hiT)
    rw [ho] at hH1
    have hz := k1.own i r (Nat.zero_le _) hi
    simp only at hz
    rcases Nat.lt_or_ge r H.length with h1 | h1
    · obtain ⟨o1, e1, _⟩ := k2.evo r _ (by rw [seal_len]; exact h1) hH1
      rw [e1] at hz
      cases hz
    · exact h1
  obtain ⟨H', hH'⟩ : ∃ H', H' = H ++ H1.drop H.length := ⟨_, rfl⟩
  obtain ⟨β', hβ'⟩ : ∃ β' : Nat → Loc, β' = fun r => if r < H.length then β r else β1 r := ⟨_, rfl⟩
  have hH'l : H'.length = H1.length := by rw [hH', List.length_append, List.length_drop]; omega
  have hold : ∀ r, r < H.length → H'[r]? = H[r]? ∧ β' r = β r := fun r hr => ⟨by rw [hH', List.getElem?_append_left hr], by rw [hβ']; simp [hr]⟩
  have hnew : ∀ r, H.length ≤ r → H'[r]? = H1[r]? ∧ β' r = β1 r := fun r hr => ⟨by
    rw [hH', List.getElem?_append_right hr, List.getElem?_drop, Nat.add_sub_cancel' hr], by rw [hβ']; simp [Nat.not_lt.2 hr]⟩
  have hfree : ∀ b sz, sz ≠ s → freeB β1 H1 b sz → freeB β' H' b sz := fun b sz hne hfb => by
    refine ⟨?_, fun r t N hr hb => ?_⟩
    · rintro ⟨r, N, ⟨o, ho, hns⟩, hb⟩
      rcases Nat.lt_or_ge r H.length with h1 | h1
      · obtain ⟨e1, e2⟩ := hold r h1
        rw [e1] at ho
        rw [e2] at hb
        obtain ⟨q1, q2⟩ := hseal r (.held s) (by rw [seal_get, ho]; simp [sealO_open hns])
        exact hne (hfb.2 r s N q1 (q2.trans hb)).symm
      · obtain ⟨e1, e2⟩ := hnew r h1
        exact hfb.1 ⟨r, N, ⟨o, by rw [← e1]; exact ho, hns⟩, by rw [← e2]; exact hb⟩
    · rcases Nat.lt_or_ge r H.length with h1 | h1
      · obtain ⟨e1, e2⟩ := hold r h1
        rw [e1] at hr
        rw [e2] at hb
        obtain ⟨q1, q2⟩ := hseal r (.held t) (by rw [seal_get, hr]; rfl)
        exact hfb.2 r t N q1 (q2.trans hb)
      · obtain ⟨e1, e2⟩ := hnew r h1
        exact hfb.2 r t N (by rw [← e1]; exact hr) (by rw [← e2]; exact hb)
  have hkeep : ∀ b, b < w.heap.size → w'.heap[b]? = w.heap[b]? := fun b hb => k2.keep b hb (seal_no b)
  have f : Fr w β H w' β' H' := by
    refine ⟨⟨k2.os, k2.tape, k2.output, k2.size, by omega, fun r o' hr ho' => ?_, fun b hb _ => hkeep b hb, ?_, fun r hr => (hold r hr.lt).2, fun r t ht => ?_⟩, fun r hr hn => by rw [(hold r hr).2]; exact hn⟩
    · rw [(hold r hr).1] at ho'
      exact ⟨o', ho', Evo.refl _, fun _ _ => (hold r hr).2⟩
    · rintro b ⟨r, N, ⟨o, ho, hns⟩, hb⟩
      rcases Nat.lt_or_ge r H.length with h1 | h1
      · obtain ⟨e1, e2⟩ := hold r h1
        exact .inr ⟨r, N, ⟨o, by rw [← e1]; exact ho, hns⟩, by rw [← e2]; exact hb⟩
      · obtain ⟨e1, e2⟩ := hnew r h1
        rcases k2.fresh b ⟨r, N, ⟨o, by rw [← e1]; exact ho, hns⟩, by rw [← e2]; exact hb⟩ with q | q
        · exact .inl q
        · exact absurd q (seal_no b)
    · rcases Nat.lt_or_ge r H.length with h1 | h1
      · obtain ⟨e1, e2⟩ := hold r h1
        exact ⟨by rw [← e1]; exact ht, e2⟩
      · obtain ⟨e1, _⟩ := hnew r h1
        have := (k2.seals r t (by rw [← e1]; exact ht)).1
        have := lt_of_get this
        rw [seal_len] at this
        omega
  have hmk : ∀ (r : Nat) (o : HObj), H.length ≤ r → H1[r]? = some (some o) → ∃ g0 sz0 xs0, o = .vec g0 sz0 xs0 ∧ V.apartL [s] xs0 = true := fun r o hr ho => by
    by_cases hm : r ∈ m1
    · obtain ⟨i, hi⟩ := List.getElem?_of_mem hm
      have hiT : i < T'.length := by have := lt_of_get hi; omega
      obtain ⟨g0, sz0, xs0, h1, h2⟩ := rowsB_get hxT i _ (List.getElem?_eq_getElem hiT)
      have hH1 := k1.loc i r _ hi (List.getElem?_eq_getElem hiT)
      rw [h1, ho] at hH1
      injection hH1 with hH1
      injection hH1 with hH1
      exact ⟨g0, sz0, xs0, hH1, h2⟩
    · have := k1.base r (lt_of_get ho) hm
      simp only at this
      rw [ho, List.getElem?_eq_none (by rw [seal_len]; exact hr)] at this
      cases this
  have hrel : HRel w' β' H' := by
    refine ⟨fun r o ho => ?_, ?_⟩
    · rcases Nat.lt_or_ge r H.length with h1 | h1
      · obtain ⟨e1, e2⟩ := hold r h1
        rw [e1] at ho
        rw [e2]
        have hob := hs.hrel.obj r o ho
        exact hob.mono f.toFr0 fun b N hb => hkeep b (hs.hrel.lt ⟨o, ho⟩ hb)
      · obtain ⟨e1, e2⟩ := hnew r h1
        rw [e1] at ho
        rw [e2]
        obtain ⟨g0, sz0, xs0, rfl, hap⟩ := hmk r o h1 ho
        have hob := k1.hrel.obj r _ ho
        cases hβ : β1 r with
        | none => rw [hβ] at hob; exact hob
        | nil => rw [hβ] at hob; exact hob
        | blk b N =>
          rw [hβ] at hob
          obtain ⟨vs, e, q0, q1, q2, q3, q4, q5, q6⟩ := hob
          exact ⟨vs, e, q0, q1, q2, q3, q4, q5, fun i x j c v hi hj hv => (q6 i x j c v hi hj hv).carried hfree (apart_cells (apartL_get hap x (List.mem_of_getElem? hi)) c (List.mem_of_getElem? hj))⟩
    · have up : ∀ r b N, live H' r → β' r = .blk b N → live H1 r ∧ β1 r = .blk b N := fun r b N hl hb => by
        obtain ⟨o, ho⟩ := hl
        rcases Nat.lt_or_ge r H.length with h1 | h1
        · obtain ⟨e1, e2⟩ := hold r h1
          rw [e1] at ho
          rw [e2] at hb
          obtain ⟨q1, q2⟩ := hseal r (sealO s o) (by rw [seal_get, ho]; rfl)
          exact ⟨⟨_, q1⟩, q2.trans hb⟩
        · obtain ⟨e1, e2⟩ := hnew r h1
          exact ⟨⟨o, by rw [← e1]; exact ho⟩, by rw [← e2]; exact hb⟩
      intro r r' b N N' hl hl' hb hb'
      obtain ⟨p1, p2⟩ := up r b N hl hb
      obtain ⟨p3, p4⟩ := up r' b N' hl' hb'
      exact k1.hrel.inj r r' b N N' p1 p3 p2 p4
  obtain ⟨m', hm'⟩ : ∃ m', m' = m ++ m1 := ⟨_, rfl⟩
  have hsub : Sub (rangeFrom T.length T'.length) m' m1 := by
    refine ⟨by rw [rangeFrom_len]; exact hm1l, fun i k hk => ?_⟩
    have hi := lt_of_get hk
    rw [rangeFrom_len] at hi
    rw [rangeFrom_get _ _ _ hi] at hk
    injection hk with hk
    subst hk
    have e := List.getElem?_eq_getElem (show i < m1.length by omega)
    exact ⟨_, by rw [hm', List.getElem?_append_right (by omega), hml, Nat.add_sub_cancel_left]; exact e, e⟩
  have hext : ∀ u : V, u.sc m.length → u.conv m' = u.conv m := fun u hu => by rw [hm']; exact V.conv_ext (Nat.le_refl _) u hu
  refine ⟨_, _, v, w', β', H', m', fr, h, ?_, f, ?_, k4.1, k4.2.1, k4.2.2, by rw [hm']; exact List.prefix_append _ _⟩
  · refine ⟨hrel, hs.size, fun k => ?_, by rw [hm']; simp [hml, hm1l], ?_, fun k r o hk ho' => ?_, ?_, fun r hr hn => ?_, fun r hr => hs.fut r (by omega), fun k r hk hm => ?_, fun p hp => ?_, fun k o ho' => ?_, hs.defs, fun j k hj => ?_⟩
    · simp only
      rw [hext _ (by have := lk_sc E k hs.scE; rwa [hml])]
      exact (hs.env k).mono f
    · rw [hm']
      refine List.nodup_append.2 ⟨hs.nodup, k1.nodup, fun a ha b hb e => ?_⟩
      subst e
      obtain ⟨j, hj⟩ := List.getElem?_of_mem ha
      have := hs.lt hj
      have := hfresh _ hb
      omega
    · simp only at ho'
      rw [hm'] at hk
      rcases Nat.lt_or_ge k m.length with h1 | h1
      · rw [List.getElem?_append_left h1] at hk
        rw [List.getElem?_append_left (by omega)] at ho'
        rw [(hold r (hs.lt hk)).1, hs.loc k r o hk ho']
        cases o with
        | none => rfl
        | some o =>
          simp only [Option.map_some, Option.some.injEq]
          have := hs.scT k o ho'
          rw [hm']
          exact (HObj.conv_ext (Nat.le_refl _) o (by rw [hml]; exact this)).symm
      · rw [List.getElem?_append_right h1] at hk
        rw [List.getElem?_append_right (by omega), ← hml] at ho'
        have hr := hfresh r (List.mem_of_getElem? hk)
        rw [(hnew r hr).1, k1.loc _ r o hk ho']
        obtain ⟨g0, sz0, xs0, rfl, _⟩ := rowsB_get hxT _ _ ho'
        rfl
    · have := hs.imp
      rw [hm', List.take_append_of_le_length]
      · exact this
      · have := congrArg List.length this
        simp at this
        omega
    · simp only
      have hrm : r ∉ m := fun hm => hn (by rw [hm']; exact List.mem_append_left _ hm)
      have hr1 : r ∉ m1 := fun hm => hn (by rw [hm']; exact List.mem_append_right _ hm)
      rcases Nat.lt_or_ge r H.length with h1 | h1
      · rw [(hold r h1).1]
        exact hs.base r h1 hrm
      · rw [(hnew r h1).1, k1.base r (by omega) hr1]
        have e0 : c.B r = none := hs.fut r h1
        simp only
        rw [List.getElem?_eq_none (by rw [seal_len]; exact h1), e0]
        rfl
    · rw [hm'] at hm
      rcases Nat.lt_or_ge k m.length with h1 | h1
      · rw [List.getElem?_append_left h1] at hm
        exact hs.own k r hk hm
      · rw [List.getElem?_append_right h1] at hm
        exact hs.fut r (hfresh r (List.mem_of_getElem? hm))
    · simp only
      rw [List.length_append]
      exact V.sc_mono (n := T.length) (by omega) _ (hs.scE p hp)
    · simp only at ho' ⊢
      rw [List.length_append]
      rcases Nat.lt_or_ge k T.length with h1 | h1
      · rw [List.getElem?_append_left h1] at ho'
        exact HObj.sc_mono (n := T.length) (by omega) _ (hs.scT k o ho')
      · rw [List.getElem?_append_right h1] at ho'
        obtain ⟨g0, sz0, xs0, e, _⟩ := rowsB_get hxT _ _ ho'
        injection e with e
        subst e
        trivial
    · obtain ⟨r', b, N, h1, h2, h3, h4⟩ := hs.marks j k hj
      refine ⟨r', b, N, by rw [hm', List.getElem?_append_left (lt_of_get h1)]; exact h1, ?_, by rw [(hold r' (hs.lt h1)).2]; exact h3, h4⟩
      simp only at h2 ⊢
      rw [List.getElem?_append_left (lt_of_get h2)]
      exact h2
  · rw [V.ren_conv hsub x (by rw [rangeFrom_len, ← hm1l]; exact sc_of_rep x k3)]
    exact Rep.handed hfree hnew hfresh x hxr k3
end Bow
/- AE61: regions that draw their order, with operations whose facts are shown by hand: calls that write, calls that are lent own memory. -/
namespace Bow
open Go

section
variable {c : Cx} {ops : Array Oper} {i : Nat} {o : Oper} {E : Env} {T : Heap} {gs : List Tmp}
theorem fact_to {tc : List Nat} {x : V} {eff : List (Nat × Option HObj)} (ho : ops[i]? = some o) (hg : Guarded ops o E gs true) (hnd : ∀ cl, o.op ≠ .defer cl)
    (h : ∀ E' T', (∀ z ∈ o.op.operands.toList, opd E' z = opd E z) → T'.length = T.length → (∀ k ∈ tc, T'[k]? = T[k]?) → OpTo c o.op E' T' x (app T' eff)) : Fact c ops i E T ⟨o.dst, gs ++ tmpsOf o.op.operands.toList, tc, x, eff, none⟩ := by
  intro E' T' e1 e2 e3 w β H m a b cs rest k hs k1 k2 _
  have hto := h E' T' (opd_agree fun t ht => e2 t (List.mem_append_right _ ht)) e1 e3
  obtain ⟨nx, v, w', β', H', m', hrun, hnx, g1, g2, g3, g4⟩ := hto o rfl w β H m a hs
  have hmm : m = m' := g4.eq_of_length (by
    have a1 := hs.mlen
    have a2 := g1.mlen
    simp only [app_length] at a1 a2
    rw [a1, a2])
  subst hmm
  exact ⟨v, w', β', H', op_step ho (hg.wanted (fun t ht => e2 t (List.mem_append_left _ ht)) hs) hnd hrun hnx, g1, g2.toFr0, fun q hq hn _ => g2.virt q hq hn, g3⟩
/-- A call, as it goes wherever it stands; it leaves no object more. -/
theorem fact_call_then {f : Operand} {args : Array Operand} {ts : Array TypeId} {g : FuncId} {first cap : List V} {tc : List Nat} {x : V} {eff : List (Nat × Option HObj)} (ho : ops[i]? = some o) (hg : Guarded ops o E gs true)
    (hop : o.op = .call { callee := .value f, args := args, argTypes := ts }) (hf : opd E f = .fn (.func g) first cap)
    (h : ∀ E' T', T'.length = T.length → (∀ k ∈ tc, T'[k]? = T[k]?) → CallThen c g (first ++ args.toList.map (opd E) ++ cap) E' T' (fun y s' => y = x ∧ s' = ⟨E', app T' eff, c.B, c.D⟩)) : Fact c ops i E T ⟨o.dst, gs ++ tmpsOf o.op.operands.toList, tc, x, eff, none⟩ := by
  intro E' T' e1 e2 e3 w β H m a b cs rest k hs k1 k2 _
  have hag := opd_agree (E := E) (E' := E') (xs := o.op.operands.toList) fun t ht => e2 t (List.mem_append_right _ ht)
  rw [hop] at hag
  have hf' : opd E' f = .fn (.func g) first cap := by rw [hag f (by simp [Op.operands, Call.operands])]; exact hf
  have ha' : args.toList.map (opd E') = args.toList.map (opd E) := List.map_congr_left fun z hz => hag z (by simp [Op.operands, Call.operands]; exact .inr (by simpa using hz))
  obtain ⟨va, vc, hq, hl, hr⟩ := fn_rep hs hf' args
  rw [ha'] at hl hr
  have hc := h E' T' e1 e3
  unfold CallThen at hc
  obtain ⟨hen, hc⟩ := hc
  obtain ⟨y, s', v, w', β', H', m', fr, ⟨rfl, rfl⟩, g1, g2, g3, g4, g5, g6, g7⟩ := hc w β H m a _ (b.atR a (.inRegion ops (i :: rest) :: k) :: cs) hs hl hr
  have hmm : m = m' := g7.eq_of_length (by
    have a1 := hs.mlen
    have a2 := g1.mlen
    simp only [app_length] at a1 a2
    rw [a1, a2])
  subst hmm
  exact ⟨v, w', β', H', call_steps ho (hg.wanted (fun t ht => e2 t (List.mem_append_left _ ht)) hs) hop hq hen g4 g6, g1, g2.toFr0, fun q hq hn _ => g2.virt q hq hn, g3⟩
/-- .. it leaves one row more, which goes to a reserved name. -/
theorem fact_call_thenMake {f : Operand} {args : Array Operand} {ts : Array TypeId} {g : FuncId} {first cap : List V} {tc : List Nat} {p sz : Nat} {xs : List V} (ho : ops[i]? = some o) (hg : Guarded ops o E gs true)
    (hop : o.op = .call { callee := .value f, args := args, argTypes := ts }) (hf : opd E f = .fn (.func g) first cap) (hd : T[p]? = some (some (.vec 0 0 [])))
    (h : ∀ E' T', T'.length = T.length → (∀ k ∈ tc, T'[k]? = T[k]?) → CallThen c g (first ++ args.toList.map (opd E) ++ cap) E' T' (fun y s' => ∃ g0, y = .osl (.loc T'.length) g0 0 xs.length ∧ s' = ⟨E', T' ++ [some (.vec g0 sz xs)], c.B, c.D⟩)) :
    Fact c ops i E T ⟨o.dst, gs ++ tmpsOf o.op.operands.toList, tc, .osl (.loc p) 2 0 xs.length, [(p, some (.vec 2 sz xs))], some p⟩ := by
  intro E' T' e1 e2 e3 w β H m a b cs rest k hs b1 b2 b4
  obtain ⟨q, q1, q2, q3⟩ := b4 p rfl
  have hag := opd_agree (E := E) (E' := E') (xs := o.op.operands.toList) fun t ht => e2 t (List.mem_append_right _ ht)
  rw [hop] at hag
  have hf' : opd E' f = .fn (.func g) first cap := by rw [hag f (by simp [Op.operands, Call.operands])]; exact hf
  have ha' : args.toList.map (opd E') = args.toList.map (opd E) := List.map_congr_left fun z hz => hag z (by simp [Op.operands, Call.operands]; exact .inr (by simpa using hz))
  obtain ⟨va, vc, hq, hl, hr⟩ := fn_rep hs hf' args
  rw [ha'] at hl hr
  have hc := h E' T' e1 e3
  unfold CallThen at hc
  obtain ⟨hen, hc⟩ := hc
  obtain ⟨y, s', v, w', β', H', m', fr, ⟨g0, rfl, rfl⟩, k1, k2, k3, k4, k5, k6, k7⟩ := hc w β H m a _ (b.atR a (.inRegion ops (i :: rest) :: k) :: cs) hs hl hr
  have hml : m.length = T'.length := hs.mlen
  have hm'l : m'.length = T'.length + 1 := by have := k1.mlen; simpa using this
  obtain ⟨r', rfl⟩ : ∃ r', m' = m ++ [r'] := by
    obtain ⟨l, rfl⟩ := k7
    have : l.length = 1 := by rw [List.length_append] at hm'l; omega
    match l, this with
    | [r'], _ => exact ⟨r', rfl⟩
  have hmr : (m ++ [r'])[T'.length]? = some r' := by rw [List.getElem?_append_right (by omega), hml, Nat.sub_self]; rfl
  have hmm : ∀ (j r : Nat), m[j]? = some r → (m ++ [r'])[j]? = some r := fun j r hj => by rw [List.getElem?_append_left (lt_of_get hj)]; exact hj
  have hTT : ∀ j, j < T'.length → (T' ++ [some (.vec g0 sz xs)])[j]? = T'[j]? := fun j hj => List.getElem?_append_left hj
  have hr' : H'[r']? = some (some (.vec g0 sz xs)) := k1.loc T'.length r' (some (.vec g0 sz xs)) hmr (by simp)
  have hr'l := lt_of_get hr'
  have hql := hs.lt q1
  have hpT : p < T'.length := by have := lt_of_get q1; omega
  have hT'p : T'[p]? = some (some (.vec 0 0 [])) := q3.trans hd
  have hH'q : H'[q]? = some (some (.vec 0 0 [])) := k1.loc p q (some (.vec 0 0 [])) (hmm p q q1) (by rw [hTT p hpT]; exact hT'p)
  have hqr : q ≠ r' := fun e => by
    have := k1.inj (hmm p q q1) (by rw [e]; exact hmr)
    omega
  have hlen : H.length ≤ H'.length := k2.len
  have hβ'q : β' q = .none := k2.virt q hql q2
  have hob := k1.hrel.obj r' _ hr'
  obtain ⟨H2, hH2⟩ : ∃ H2 : Heap, H2 = (H'.set r' none).set q (some (.vec 2 sz xs)) := ⟨_, rfl⟩
  obtain ⟨β2, hβ2⟩ : ∃ β2 : Nat → Loc, β2 = upd β' q (β' r') := ⟨_, rfl⟩
  have hβq : β2 q = β' r' := by rw [hβ2]; exact upd_same _ _ _
  have hβn : ∀ r, r ≠ q → β2 r = β' r := fun r hr => by rw [hβ2]; exact upd_ne hr
  have hH2l : H2.length = H'.length := by rw [hH2]; simp
  have hH2q : H2[q]? = some (some (.vec 2 sz xs)) := by rw [hH2]; exact List.getElem?_set_self (by simp; omega)
  have hH2r : H2[r']? = some none := by rw [hH2, List.getElem?_set_ne hqr, List.getElem?_set_self hr'l]
  have hH2n : ∀ r, r ≠ q → r ≠ r' → H2[r]? = H'[r]? := fun r h1 h2 => by rw [hH2, List.getElem?_set_ne (fun e => h1 e.symm), List.getElem?_set_ne (fun e => h2 e.symm)]
  have hcase : ∀ (r : Nat) (o : HObj), H2[r]? = some (some o) → (r = q ∧ o = .vec 2 sz xs) ∨ (r ≠ q ∧ r ≠ r' ∧ H'[r]? = some (some o)) := fun r o hr => by
    by_cases h1 : r = q
    · subst h1
      rw [hH2q] at hr
      injection hr with hr
      injection hr with hr
      exact .inl ⟨rfl, hr.symm⟩
    · by_cases h2 : r = r'
      · subst h2
        rw [hH2r] at hr
        cases hr
      · rw [hH2n r h1 h2] at hr
        exact .inr ⟨h1, h2, hr⟩
  have f : Fr0 w' β' H' w' β2 H2 := by
    refine ⟨rfl, rfl, rfl, Nat.le_refl _, by rw [hH2l]; exact Nat.le_refl _, ?_, fun _ _ _ => rfl, ?_, fun r hr => hβn r (hr.ne hH'q (fun h => h)), fun r s hs => ?_⟩
    · intro r o' _ ho'
      rcases hcase r o' ho' with ⟨rfl, rfl⟩ | ⟨h1, _, h3⟩
      · exact ⟨_, hH'q, ⟨Nat.zero_le _, fun e => by omega⟩, fun hn => absurd hβ'q hn⟩
      · exact ⟨o', h3, Evo.refl _, fun _ _ => hβn r h1⟩
    · rintro bb ⟨r, M, ⟨o', hl', hln⟩, hb⟩
      rcases hcase r o' hl' with ⟨rfl, _⟩ | ⟨h1, _, h3⟩
      · rw [hβq] at hb
        exact .inr ⟨r', M, ⟨_, hr', fun h => h⟩, hb⟩
      · rw [hβn r h1] at hb
        exact .inr ⟨r, M, ⟨_, h3, hln⟩, hb⟩
    · rcases hcase r _ hs with ⟨_, h2⟩ | ⟨h1, _, h3⟩
      · cases h2
      · exact ⟨h3, hβn r h1⟩
  have hrel : HRel w' β2 H2 := by
    refine k1.hrel.step0 f ?_ ?_
    · intro r o' ho'
      rcases hcase r o' ho' with ⟨rfl, rfl⟩ | ⟨h1, _, h3⟩
      · refine .inr ?_
        rw [hβq]
        cases hb : β' r' with
        | none => rw [hb] at hob; exact hob
        | nil => rw [hb] at hob; exact hob
        | blk bb N =>
          rw [hb] at hob
          obtain ⟨vs, e, _, c2, c3, c4, c5, c6, c7⟩ := hob
          exact ⟨vs, e, tyG_two _, c2, c3, c4, c5, c6, fun i x j c v h1 h2 h3 => (c7 i x j c v h1 h2 h3).mono0 f⟩
      · exact .inl ⟨h3, hβn r h1, fun _ _ _ => rfl⟩
    · rintro r s bb M M' ⟨o1, h1⟩ ⟨o2, h2⟩ hb hb'
      rcases hcase r o1 h1 with ⟨rfl, _⟩ | ⟨n1, n2, l1⟩
      · rcases hcase s o2 h2 with ⟨rfl, _⟩ | ⟨n3, n4, l2⟩
        · rfl
        · rw [hβq] at hb
          rw [hβn s n3] at hb'
          exact absurd (k1.hrel.inj r' s bb M M' ⟨_, hr'⟩ ⟨_, l2⟩ hb hb').symm n4
      · rcases hcase s o2 h2 with ⟨rfl, _⟩ | ⟨n3, n4, l2⟩
        · rw [hβq] at hb'
          rw [hβn r n1] at hb
          exact absurd (k1.hrel.inj r r' bb M M' ⟨_, l1⟩ ⟨_, hr'⟩ hb hb') n2
        · rw [hβn r n1] at hb
          rw [hβn s n3] at hb'
          exact k1.hrel.inj r s bb M M' ⟨_, l1⟩ ⟨_, l2⟩ hb hb'
  have ft : Fr0 w β H w' β2 H2 := k2.toFr0.trans f
  have hnr : ∀ (j r : Nat), m[j]? = some r → r ≠ r' := fun j r hj e => by
    have := k1.inj (hmm j r hj) (by rw [e]; exact hmr)
    have := lt_of_get hj
    omega
  have himp : c.imps.length ≤ m.length := by
    have := congrArg List.length hs.imp
    simp at this
    omega
  have hsr : SRel c.imps c.nt w' β2 H2 m ⟨E', T'.set p (some (.vec 2 sz xs)), c.B, c.D⟩ a := by
    refine ⟨hrel, hs.size, fun k => (hs.env k).mono0 ft, by simpa using hml, hs.nodup, fun j r ob hj hob' => ?_, hs.imp, fun r hr hm => ?_, fun r hr => k1.fut r (by omega), hs.own, fun p hp => by simpa using hs.scE p hp, fun j ob hob' => ?_, hs.defs, fun j n hj => ?_⟩
    · by_cases hjp : j = p
      · subst hjp
        rw [q1] at hj
        injection hj with hj
        subst hj
        simp only at hob'
        rw [List.getElem?_set_self hpT] at hob'
        injection hob' with hob'
        subst hob'
        exact hH2q
      · simp only at hob'
        rw [List.getElem?_set_ne (fun e => hjp e.symm)] at hob'
        have hrq : r ≠ q := fun e => hjp (hs.inj hj (e ▸ q1))
        rw [hH2n r hrq (hnr j r hj), k1.loc j r ob (hmm j r hj) (by rw [hTT j (lt_of_get hob')]; exact hob')]
        cases ob with
        | none => rfl
        | some ob =>
          simp only [Option.map_some, Option.some.injEq]
          exact HObj.conv_ext (Nat.le_refl _) ob (by rw [hml]; exact hs.scT j ob hob')
    · have hrq : r ≠ q := fun e => hm (e ▸ List.mem_of_getElem? q1)
      by_cases hrr : r = r'
      · subst hrr
        have : c.B r = none := k1.own T'.length r (by omega) hmr
        simp only
        rw [hH2r, this]
      · rw [hH2n r hrq hrr]
        exact k1.base r (by omega) (fun hmm' => by
          rcases List.mem_append.1 hmm' with h1 | h1
          · exact hm h1
          · exact hrr (List.mem_singleton.1 h1))
    · simp only [List.length_set] at hob' ⊢
      by_cases hjp : j = p
      · subst hjp
        rw [List.getElem?_set_self hpT] at hob'
        injection hob' with hob'
        injection hob' with hob'
        subst hob'
        trivial
      · rw [List.getElem?_set_ne (fun e => hjp e.symm)] at hob'
        exact hs.scT j ob hob'
    · obtain ⟨r, b', N', d1, d2, d3, d4⟩ := k1.marks j n hj
      simp only at d2
      have hnT : n < T'.length := by
        have := lt_of_get d2
        simp at this
        rcases Nat.lt_or_ge n T'.length with h1 | h1
        · exact h1
        · have : n = T'.length := by omega
          subst this
          simp at d2
      rw [hTT n hnT] at d2
      rw [List.getElem?_append_left (by omega)] at d1
      have hnp : n ≠ p := fun e => by
        subst e
        rw [hT'p] at d2
        cases d2
      have hrq : r ≠ q := fun e => hnp (hs.inj d1 (e ▸ q1))
      refine ⟨r, b', N', d1, by simp only; rw [List.getElem?_set_ne (fun e => hnp e.symm)]; exact d2, ?_, d4⟩
      rw [hβn r hrq]
      exact d3
  refine ⟨v, w', β2, H2, call_steps ho (hg.wanted (fun t ht => e2 t (List.mem_append_left _ ht)) hs) hop hq hen k4 k6, hsr, ft, fun s hsl hn hne => ?_, ?_⟩
  · have hsq : s ≠ q := fun e => hne p rfl (e ▸ q1)
    rw [hβn s hsq]
    exact k2.virt s hsl hn
  · simp only [V.conv, Ref.conv, q1]
    simp only [V.conv, Ref.conv, hmr] at k3
    have hv : ∀ g2 sz2 xs2, H'[r']? = some (some (.vec g2 sz2 xs2)) → g2 = g0 ∧ sz2 = sz ∧ xs2 = xs := fun g2 sz2 xs2 h2 => by
      rw [hr'] at h2
      injection h2 with h2
      injection h2 with h2
      injection h2 with e0 e1 e2
      exact ⟨e0.symm, e1.symm, e2.symm⟩
    generalize hn : xs.length = n at k3
    cases k3 with
    | oslNil _ _ sz2 xs2 ad hH' hβ =>
      exact .oslNil q 2 sz xs ad hH2q (hβq.trans hβ)
    | oslBlk _ _ _ _ sz2 xs2 bb N ad cap' hH' hβ hl' hN hcap ha hlen' =>
      obtain ⟨_, rfl, rfl⟩ := hv _ _ _ hH'
      exact .oslBlk q 2 0 n sz2 xs2 bb N ad cap' hH2q (hβq.trans hβ) hl' hN hcap ha hlen'
    | oslStale _ _ _ _ g' sz' xs' _ hH' hg' =>
      obtain ⟨e, _, _⟩ := hv _ _ _ hH'
      omega
    | oslDead _ _ _ _ _ hd' => rw [hr'] at hd'; cases hd'
end

/-! ### The evaluation of such a region: the operations of these numbers are shown by hand; true: it leaves an object more -/
def spK : List (Nat × Bool) → Nat → Option Bool
  | [], _ => none
  | (j, b) :: l, i => bif Nat.beq j i then some b else spK l i
def spM (sp : List (Nat × Bool)) (i : Nat) (o : Op) : Bool := makesS o || (match spK sp i with | some b => b | none => false)
def evdX (sp : List (Nat × Bool)) (c : Cx) (A : Array Oper) (gt : List Tmp) : List Oper → Nat → Nat → Env → Heap → (Env → Heap → List Sig → Prop) → Prop
  | [], _, _, E, T, K => K E T []
  | o :: os, i, p, E, T, K =>
    let next (x : V) (T' : Heap) (g touch keys : List Nat) : Prop := bif spM sp i o.op then putR c.nt gt o.dst x E fun E' => evdX sp c A gt os (i + 1) (p + 1) E' T' fun En Tn ss => K En Tn (⟨o.dst, g, touch, keys⟩ :: ss) else putR c.nt gt o.dst x E fun E' => evdX sp c A gt os (i + 1) p E' T' fun En Tn ss => K En Tn (⟨o.dst, g, touch, keys⟩ :: ss)
    gK A.toList o E (fun g => next (.tup []) T g [] []) fun g =>
      lfix (g ++ tmpsOf o.op.operands.toList) fun g =>
      match spK sp i with
      | some b => ∃ (tc : List Nat) (x : V) (eff : List (Nat × Option HObj)), (∀ gs, Guarded A o E gs true → Fact c A i E T ⟨o.dst, gs ++ tmpsOf o.op.operands.toList, tc, x, eff, bif b then some p else none⟩) ∧ (bif b then memB tc p = true ∧ p < T.length else True) ∧ lfix (keysOf eff) fun ks => appC T eff fun T' => next x T' g tc ks
      | none =>
      bif makes E o.op then evMk c o.op E T p fun x ob kills tc => lfix tc fun tc => lfix (keysOf kills) fun ks => appC T (kills ++ [(p, some ob)]) fun T' => next x T' g (p :: tc) (p :: ks)
      else match o.op with
        | .call { callee := .value f, args, .. } => match opd E f with
          | .fn (.func h) first cap => opds E args.toList fun vs => frzAll (first ++ vs ++ cap) T False fun ws _ => lfix (keysOf (killsOf (first ++ vs ++ cap))) fun ks =>
            ∃ x, Pure c.P h ws (fun y => y = x) ∧ V.pureL ws = true ∧ bif flatB x then next x T g ks [] else appC T (killsOf (first ++ vs ++ cap)) fun T' => next x T' g ks ks
          | _ => False
        | op => evOp c op E T False fun x T' => lfix (touch E op) fun tc => lfix (wr E op) fun ks => next x T' g tc ks

theorem memB_mem : ∀ {l : List Nat} {n : Nat}, memB l n = true → n ∈ l
  | [], n, h => by cases h
  | x :: l, n, h => by
    rw [memB] at h
    cases hb : Nat.beq x n with
    | true => rw [Nat.eq_of_beq_eq_true hb]; exact List.mem_cons_self
    | false => rw [hb] at h; exact List.mem_cons_of_mem _ (memB_mem h)
theorem evdX_sound {sp : List (Nat × Bool)} {c : Cx} {ops : Array Oper} {gt : List Tmp} : ∀ (os : List Oper) (i p : Nat) (E : Env) (T : Heap) (K : Env → Heap → List Sig → Prop), evdX sp c ops gt os i p E T K → (∀ k, os[k]? = ops[i + k]?) → i + os.length = ops.size →
    ∃ rs ss En Tn, RunP c ops i p E T rs ss En Tn ∧ K En Tn ss
  | [], i, p, E, T, K, h, _, hi => ⟨[], [], E, T, ⟨by simpa using hi, rfl, rfl⟩, h⟩
  | o :: os, i, p, E, T, K, h, hos, hi => by
    unfold evdX at h
    extract_lets next at h
    have ho : ops[i]? = some o := by have := hos 0; simpa using this.symm
    have hos' : ∀ k, os[k]? = ops[i + 1 + k]? := fun k => by have := hos (k + 1); rw [List.getElem?_cons_succ] at this; rw [this, sa]
    have hi' : i + 1 + os.length = ops.size := by simp at hi; omega
    have hlt : i < ops.size := by simp at hi; omega
    have go : ∀ (r : Rec) (g tc ks : List Nat), Fact c ops i E T r → r.dst = o.dst → next r.x (app T r.eff) g tc ks → (∀ t ∈ r.reads, t ∈ g) → (∀ k ∈ r.touch, k ∈ tc) → (∀ k ∈ keysOf r.eff, k ∈ ks) →
        (∀ q, r.virt = some q → q = p ∧ p ∈ tc ∧ p < T.length ∧ spM sp i o.op = true) → ∃ rs ss En Tn, RunP c ops i p E T rs ss En Tn ∧ K En Tn ss := by
      intro r g tc ks hf hd hn h1 h2 h3 h4
      have hn : putR c.nt gt o.dst r.x E fun E' => evdX sp c ops gt os (i + 1) (bif spM sp i o.op then p + 1 else p) E' (app T r.eff) fun En Tn ss => K En Tn (⟨o.dst, g, tc, ks⟩ :: ss) := by
        have h0 := hn
        simp only [next] at h0
        cases hm : spM sp i o.op <;> (rw [hm] at h0; exact h0)
      obtain ⟨x', hk, hdst, hx⟩ := putR_sound hn
      obtain ⟨rs, ss, En, Tn, k1, k2⟩ := evdX_sound os (i + 1) _ _ _ _ hk hos' hi'
      refine ⟨{ r with x := x' } :: rs, ⟨o.dst, g, tc, ks⟩ :: ss, En, Tn, ⟨hf.put hx, by rw [hd]; exact hdst, ⟨hd.symm, h1, h2, h3, fun q hq => ?_⟩, hlt, (bif spM sp i o.op then p + 1 else p), ?_, ?_, ?_⟩, k2⟩
      · obtain ⟨e, hp, _⟩ := h4 q hq
        rw [e]
        exact hp
      · cases spM sp i o.op <;> simp
      · intro q hq
        obtain ⟨e, _, hp, hm⟩ := h4 q hq
        rw [hm]
        exact ⟨e, Nat.le_refl _, hp⟩
      · rw [hd]
        exact k1
    rcases gK_sound h with ⟨gs, hg, h⟩ | ⟨gs, hg, h⟩
    · exact go _ gs [] [] (fact_skip ho hg) rfl h (fun t ht => ht) (fun k hk => hk) (fun k hk => hk) (fun q hq => by cases hq)
    · rw [lfix_eq] at h
      cases hsp : spK sp i with
      | some b =>
        simp only [hsp] at h
        obtain ⟨tc, x, eff, hf, hb, hk⟩ := h
        rw [lfix_eq, appC_eq] at hk
        refine go _ _ _ _ (hf gs hg) rfl hk (fun t ht => ht) (fun k hk => hk) (fun k hk => hk) (fun q hq => ?_)
        cases b with
        | false => cases hq
        | true =>
          simp only [cond_true] at hb hq
          injection hq with hq
          subst hq
          exact ⟨rfl, memB_mem hb.1, hb.2, by unfold spM; rw [hsp]; simp⟩
      | none =>
      simp only [hsp] at h
      cases hm : makes E o.op with
      | true =>
        rw [hm] at h
        simp only [cond_true] at h
        obtain ⟨x, ob, kills, tc, hk, hf, hp⟩ := fact_mk (gs := gs) ho hg h
        rw [lfix_eq, lfix_eq, appC_eq] at hk
        refine go _ _ _ _ hf rfl hk (fun t ht => ht) (fun k hk => List.mem_cons_of_mem _ hk) (fun k hk => ?_) (fun q hq => ?_)
        · rw [keysOf_append] at hk
          rcases List.mem_append.1 hk with h | h
          · exact List.mem_cons_of_mem _ h
          · simp only [keysOf, List.mem_singleton] at h
            rw [h]
            exact List.mem_cons_self
        · injection hq with hq
          subst hq
          exact ⟨rfl, List.mem_cons_self, hp, by unfold spM; rw [makes_S hm]; rfl⟩
      | false =>
        rw [hm] at h
        simp only [cond_false] at h
        split at h
        · rename_i f args ts hop
          split at h
          · rename_i h' first cap hfv
            rw [opds_eq] at h
            rcases frzAll_det (F := False) _ T _ h with h | ⟨ws, h, hdet⟩
            · exact h.elim
            rw [lfix_eq] at h
            obtain ⟨x, hpu, hpl, hk⟩ := h
            cases hx : flatB x with
            | true =>
              rw [hx] at hk
              exact go _ _ _ _ (fact_call_flat ho hg hop hfv hpl hx hdet hpu) rfl hk (fun t ht => ht) (fun k hk => hk) (fun k hk => by cases hk) (fun q hq => by cases hq)
            | false =>
              rw [hx] at hk
              simp only [cond_false] at hk
              rw [appC_eq] at hk
              exact go _ _ _ _ (fact_call_frz ho hg hop hfv hpl hdet hpu) rfl hk (fun t ht => ht) (fun k hk => hk) (fun k hk => hk) (fun q hq => by cases hq)
          · exact h.elim
        · rcases fact_op ho hg hm h with h | ⟨x, eff, hk, hf, hw⟩
          · exact h.elim
          rw [lfix_eq, lfix_eq] at hk
          refine go _ _ _ _ hf rfl hk (fun t ht => ht) (fun k hk => hk) (fun k hk => ?_) (fun q hq => by cases hq)
          have : ∀ (es : List (Nat × Option HObj)), k ∈ keysOf es → ∃ e ∈ es, e.1 = k := by
            intro es
            induction es with
            | nil => intro h; cases h
            | cons e es ih =>
              intro h
              rcases List.mem_cons.1 h with rfl | h
              · exact ⟨e, List.mem_cons_self, rfl⟩
              · obtain ⟨e', h1, h2⟩ := ih h
                exact ⟨e', List.mem_cons_of_mem _ h1, h2⟩
          obtain ⟨e, he, rfl⟩ := this eff hk
          exact hw e he
def dumsX (sp : List (Nat × Bool)) : Nat → List Oper → Heap
  | _, [] => []
  | i, o :: os => bif spM sp i o.op then some (dummyOf o.op) :: dumsX sp (i + 1) os else dumsX sp (i + 1) os
theorem dumsX_mem (sp : List (Nat × Bool)) : ∀ (os : List Oper) (i : Nat) (x : Option HObj), x ∈ dumsX sp i os → ∃ d, x = some d ∧ (d = .box [] ∨ d = .vec 0 0 [])
  | [], _, x, h => by cases h
  | o :: os, i, x, h => by
    rw [dumsX] at h
    cases hb : spM sp i o.op with
    | false => rw [hb] at h; exact dumsX_mem sp os _ x h
    | true =>
      rw [hb] at h
      rcases List.mem_cons.1 h with rfl | h
      · refine ⟨_, rfl, ?_⟩
        unfold dummyOf
        split <;> simp
      · exact dumsX_mem sp os _ x h
theorem goes_draw_ofX (sp : List (Nat × Bool)) {c : Cx} {ops : Array Oper} {id : Nat} {k : List Item} {E : Env} {T : Heap} {rs : List Rec} {ss : List Sig} {En : Env} {Tn : Heap} (h : RunP c ops 0 T.length E (T ++ dumsX sp 0 ops.toList) rs ss En Tn) (hc : chk ops.toList ss 0 [] [] = true) (hk : Goes c k En Tn) : Goes c (.code (.region id ops true) :: k) E T := by
  obtain ⟨hG, rfl, rfl, hp⟩ := good_of_run h
  refine goes_step fun w β H m a b cs hs h1 h2 h3 => ?_
  have hsched : ∃ md t, Region.schedule (c.P.follows .mixedOrders) ops (w.tape w.drawn (.order b.fn id)) = Region.linearise md ops t := by
    unfold Region.schedule
    split
    · exact ⟨_, _, rfl⟩
    · exact ⟨_, _, rfl⟩
  obtain ⟨md, t, hmd⟩ := hsched
  have hf0 : Fr w β H { w with drawn := w.drawn + 1 } β H := Fr.of_heap rfl rfl rfl rfl
  have hs0 : SRel c.imps c.nt { w with drawn := w.drawn + 1 } β H m ⟨E, T, c.B, c.D⟩ a := hs.same hf0 (hs.hrel.of_heap rfl rfl rfl rfl)
  obtain ⟨β1, H1, m1, k1, k2, k3, k4⟩ := reserveAll (dumsX sp 0 ops.toList) (dumsX_mem sp _ _) hs0
  have hml : m1.length = (T ++ dumsX sp 0 ops.toList).length := k1.mlen
  have hzero : ∀ j, (fun _ : Nat => false) j = (Array.replicate ops.size false).getD j false := fun j => by
    by_cases hj : j < ops.size
    · simp [Array.getD, hj]
    · simp [Array.getD, hj]
  obtain ⟨w2, β2, H2, a2, g1, g2, g3, g4⟩ := run_draw md hG hc k1.scE ops.size t (Array.replicate ops.size false) (fun _ => false) { w with drawn := w.drawn + 1 } β1 H1 m1 a b cs k hzero (by simp)
    (by unfold unl; exact Nat.le_trans (List.length_filter_le _ _) (by simp)) (fun i hi => by cases hi) (by
      rw [envS_none _ _ _ fun _ _ => rfl, heapS_none _ _ _ fun _ _ => rfl]
      exact k1) (fun j r p hj _ hv => by
        obtain ⟨q, q1, q2, _⟩ := k4 p (hG.virt j r p hj hv) (by have := hp j r p hj hv; simpa using this)
        exact ⟨q, q1, q2⟩) (fun j r _ hj => by cases hj) h1 h2
  refine ⟨w2, β2, H2, m1, a2, k, ⟨_, _, c.B, c.D⟩, ?_, g2, ?_, hk⟩
  · refine .head stepR_region_draw ?_
    rw [hmd]
    exact g1.trans (.one stepR_region_end)
  · refine ⟨(hf0.toFr0.trans k2.toFr0).trans g3, fun r hr hn => ?_⟩
    have hn1 := k2.virt r hr hn
    refine g4 r (Nat.lt_of_lt_of_le hr k2.len) hn1 fun p hp hq => ?_
    by_cases hlt : p < T.length + (dumsX sp 0 ops.toList).length
    · obtain ⟨q, q1, _, q3⟩ := k4 p hp hlt
      rw [hq] at q1
      injection q1 with q1
      omega
    · have := lt_of_get hq
      rw [hml, List.length_append] at this
      omega
theorem goes_drawX (sp : List (Nat × Bool)) {c : Cx} {ops : Array Oper} {id : Nat} {k : List Item} {E : Env} {T : Heap} (n : Nat) (h : catC T (dumsX sp 0 ops.toList) fun T0 => evdX sp c ops (guardTmps ops.toList ops.toList) ops.toList 0 T.length E T0 fun En Tn ss => chk ops.toList ss 0 [] [] = true ∧ evp c n k En Tn) :
    Goes c (.code (.region id ops true) :: k) E T := by
  rw [catC_eq] at h
  obtain ⟨rs, ss, En, Tn, h1, h2, h3⟩ := evdX_sound (sp := sp) ops.toList 0 T.length E _ _ h (fun k => by rw [Nat.zero_add, Array.getElem?_toList]) (by simp)
  exact goes_draw_ofX sp h1 h2 (evp_sound n _ _ _ _ h3)
end Bow
/- TR1: trees, as values. -/
namespace Bow
open Go

inductive Tree where
  | mk (id : Int) (leaf : Bool) (label : List UInt8) (attrs : List (List UInt8 × List UInt8)) (text : List UInt8) (subs : List Tree)

namespace Tree
def id : Tree → Int | mk i _ _ _ _ _ => i
def leaf : Tree → Bool | mk _ l _ _ _ _ => l
def label : Tree → List UInt8 | mk _ _ l _ _ _ => l
def attrs : Tree → List (List UInt8 × List UInt8) | mk _ _ _ a _ _ => a
def text : Tree → List UInt8 | mk _ _ _ _ t _ => t
def subs : Tree → List Tree | mk _ _ _ _ _ s => s
end Tree

def attrV (a : List UInt8 × List UInt8) : V := .agg [.str a.1, .str a.2]
mutual
def Tree.subV : Tree → List V
  | .mk _ _ _ _ _ s => nodesV s
def nodesV : List Tree → List V
  | [] => []
  | s :: ss => .agg [.int .u64 s.id, .bool s.leaf, .str s.label, .sl 2 (s.attrs.map attrV), .str s.text, .sl 6 s.subV] :: nodesV ss
end
def nodeV (t : Tree) : V := .agg [.int .u64 t.id, .bool t.leaf, .str t.label, .sl 2 (t.attrs.map attrV), .str t.text, .sl 6 t.subV]
theorem nodesV_eq : ∀ ss : List Tree, nodesV ss = ss.map nodeV
  | [] => by rw [nodesV]; rfl
  | s :: ss => by rw [nodesV, nodesV_eq ss]; rfl
theorem subV_eq : ∀ t : Tree, t.subV = t.subs.map nodeV
  | .mk _ _ _ _ _ s => by rw [Tree.subV, nodesV_eq]; rfl

mutual
def Tree.size : Tree → Nat
  | .mk _ _ _ _ _ s => 1 + sizes s
def sizes : List Tree → Nat
  | [] => 0
  | s :: ss => s.size + sizes ss
end
theorem size_mem : ∀ {ss : List Tree} {s : Tree}, s ∈ ss → s.size ≤ sizes ss
  | x :: ss, s, h => by
    rw [sizes]
    rcases List.mem_cons.1 h with rfl | h
    · omega
    · have := size_mem h; omega
theorem Tree.size_sub {t s : Tree} (h : s ∈ t.subs) : s.size < t.size := by
  cases t with
  | mk i l a b c ss =>
    have := size_mem (ss := ss) h
    rw [Tree.size]
    omega
theorem Tree.ind {P : Tree → Prop} (h : ∀ t, (∀ s ∈ t.subs, P s) → P t) (t : Tree) : P t := by
  induction hn : t.size using Nat.strongRecOn generalizing t with
  | _ n ih =>
    subst hn
    exact h t fun s hs => ih s.size (Tree.size_sub hs) s rfl

theorem size_eq (t : Tree) : t.size = 1 + sizes t.subs := by cases t; rw [Tree.size]; rfl
theorem size_pos (t : Tree) : 1 ≤ t.size := by rw [size_eq]; omega
theorem length_sizes : ∀ ss : List Tree, ss.length ≤ sizes ss
  | [] => by simp [sizes]
  | s :: ss => by rw [sizes]; have := length_sizes ss; have := size_pos s; simp; omega
end Bow
/- TR2: a tree's nodes in a row. -/
namespace Bow
open Go

mutual
/-- The nodes ahead of those below them, with how deep they are. -/
def Tree.pre (d : Int) : Tree → List (Int × Tree)
  | .mk i l a b c ss => (d, .mk i l a b c ss) :: pres (d + 1) ss
def pres (d : Int) : List Tree → List (Int × Tree)
  | [] => []
  | s :: ss => s.pre d ++ pres d ss
end
def preV (p : Int × Tree) : List V := [.int .i64 p.1, nodeV p.2]
theorem pre_eq (d : Int) (t : Tree) : t.pre d = (d, t) :: pres (d + 1) t.subs := by cases t; rw [Tree.pre]; rfl

theorem drop_cons {α : Type} {l : List α} {i : Nat} (h : i < l.length) : l.drop i = l[i] :: l.drop (i + 1) := by simp
end Bow
/- SP1: trees, in plain Lean: weight, depth, the most text of a node. -/
namespace Bow
open Go

def attrLen (asg : List (List UInt8 × List UInt8)) : Nat := asg.foldr (fun a n => a.1.length + a.2.length + n) 0
mutual
def Tree.weight : Tree → Nat
  | .mk _ _ l asg t ss => 1 + l.length + t.length + (asg.length + attrLen asg) + weights ss
def weights : List Tree → Nat
  | [] => 0
  | s :: ss => s.weight + weights ss
end
mutual
def Tree.depth : Tree → Nat
  | .mk _ _ _ _ _ ss => depths ss
def depths : List Tree → Nat
  | [] => 0
  | s :: ss => max (1 + s.depth) (depths ss)
end
theorem weight_eq (t : Tree) : t.weight = 1 + t.label.length + t.text.length + (t.attrs.length + attrLen t.attrs) + weights t.subs := by cases t; rw [Tree.weight]; rfl
theorem depth_eq (t : Tree) : t.depth = depths t.subs := by cases t; rw [Tree.depth]; rfl
theorem weights_cons (s : Tree) (ss : List Tree) : weights (s :: ss) = s.weight + weights ss := by rw [weights]
theorem weight_mem : ∀ {ss : List Tree} {s : Tree}, s ∈ ss → s.weight ≤ weights ss
  | x :: ss, s, h => by
    rw [weights]
    rcases List.mem_cons.1 h with rfl | h
    · omega
    · have := weight_mem h; omega
theorem weight_sub {t s : Tree} (h : s ∈ t.subs) : s.weight < t.weight := by
  have := weight_mem h
  have := weight_eq t
  omega
mutual
theorem size_le_weight : ∀ t : Tree, t.size ≤ t.weight
  | .mk i l a b c ss => by
    have := sizes_le_weights ss
    rw [Tree.size, Tree.weight]
    omega
theorem sizes_le_weights : ∀ ss : List Tree, sizes ss ≤ weights ss
  | [] => by rw [sizes]; omega
  | s :: ss => by
    have := size_le_weight s
    have := sizes_le_weights ss
    rw [sizes, weights]
    omega
end
mutual
theorem depth_le_weight : ∀ t : Tree, t.depth < t.weight
  | .mk i l a b c ss => by
    have := depths_le_weights ss
    rw [Tree.depth, Tree.weight]
    omega
theorem depths_le_weights : ∀ ss : List Tree, depths ss ≤ weights ss
  | [] => by rw [depths]; omega
  | s :: ss => by
    have := depth_le_weight s
    have := depths_le_weights ss
    rw [depths, weights]
    omega
end
theorem attrLen_cons (a : List UInt8 × List UInt8) (asg : List (List UInt8 × List UInt8)) : attrLen (a :: asg) = a.1.length + a.2.length + attrLen asg := rfl

/-! ### The same by the nodes in a row -/
/-- Of a tree's nodes. -/
theorem pre_mem_weight : ∀ (t : Tree) (d : Int) (p : Int × Tree), p ∈ t.pre d → p.2.weight ≤ t.weight ∧ d ≤ p.1 ∧ p.1 + 1 ≤ d + t.weight := by
  intro t
  induction t using Tree.ind with
  | _ t ih =>
    intro d p hp
    rw [pre_eq] at hp
    have hw := weight_eq t
    rcases List.mem_cons.1 hp with rfl | hp
    · exact ⟨Nat.le_refl _, Int.le_refl _, by simp only; omega⟩
    · have key : ∀ ss : List Tree, (∀ s ∈ ss, s ∈ t.subs) → p ∈ pres (d + 1) ss → ∃ s ∈ t.subs, p ∈ s.pre (d + 1) := by
        intro ss
        induction ss with
        | nil => intro _ h; rw [pres] at h; cases h
        | cons s ss ih2 =>
          intro hs h
          rw [pres] at h
          rcases List.mem_append.1 h with h | h
          · exact ⟨s, hs s List.mem_cons_self, h⟩
          · exact ih2 (fun s h => hs s (List.mem_cons_of_mem _ h)) h
      obtain ⟨s, hs, h⟩ := key t.subs (fun _ h => h) hp
      obtain ⟨h1, h2, h3⟩ := ih s hs (d + 1) p h
      have := weight_sub hs
      omega
end Bow
/- SP2: operations, as values; which are formed. -/
namespace Bow
open Go

structure PieceT where
  keep : Int
  drop : Int
  put : List UInt8
structure OpT where
  kind : Int
  path : List Int
  at_ : Int
  to : List Int
  id : Int
  leaf : Bool
  label : List UInt8
  key : List UInt8
  value : List UInt8
  gone : Bool
  pieces : List PieceT

def intV (n : Int) : V := .int .i64 n
def pieceV (p : PieceT) : V := .agg [.int .i64 p.keep, .int .i64 p.drop, .str p.put]
def pathV (p : List Int) : V := .sl 1 (p.map intV)
def piecesV (l : List PieceT) : V := .sl 3 (l.map pieceV)
def opV (o : OpT) : V := .agg [.int .u8 o.kind, pathV o.path, .int .i64 o.at_, pathV o.to, .int .u64 o.id, .bool o.leaf, .str o.label, .str o.key, .str o.value, .bool o.gone, piecesV o.pieces]

/-! ### Leaves of walks that end in a truth value -/
theorem leaf_tt {b : Bool} (h : b = true) : ∃ y, Wk .tt y ∧ y.pureB = true ∧ y = .bool b := ⟨_, Wk.tt, rfl, by rw [h]⟩
theorem leaf_ff {b : Bool} (h : b = false) : ∃ y, Wk .ff y ∧ y.pureB = true ∧ y = .bool b := ⟨_, Wk.ff, rfl, by rw [h]⟩
theorem leaf_b {b b' : Bool} (h : b' = b) : ∃ y, Wk (.bool b') y ∧ y.pureB = true ∧ y = .bool b := ⟨_, Wk.refl _, rfl, by rw [h]⟩
/-! ### Formed -/
def stepOk (n : Int) : Bool := decide (0 ≤ n) && decide (n < 1048576)
def mayP (p : List Int) : Bool := decide (p.length ≤ 64) && p.all stepOk
def keyOk (s : List UInt8) : Bool := decide (1 ≤ s.length) && decide (s.length ≤ 64)
/-- Pieces that are right, when so many bytes have been put ahead. -/
def rightGo : Nat → List PieceT → Bool
  | _, [] => true
  | n, p :: l => (decide (0 ≤ p.keep) && decide (p.keep ≤ 1048576) && decide (0 ≤ p.drop) && decide (p.drop ≤ 1048576) && decide (n + p.put.length ≤ 1048576)) && rightGo (n + p.put.length) l
def rightP (l : List PieceT) : Bool := decide (l.length ≤ 4096) && rightGo 0 l
def gapOk (n : Int) : Bool := decide (0 ≤ n) && decide (n ≤ 1048576)
def formedB (o : OpT) : Bool :=
  mayP o.path && (bif o.kind == 1 then gapOk o.at_ && decide ((o.label.length : Int) ≤ 64) else bif o.kind == 2 then true else bif o.kind == 3 then gapOk o.at_ && mayP o.to
    else bif o.kind == 4 then keyOk o.key && (o.gone || decide ((o.value.length : Int) ≤ 256)) else bif o.kind == 5 then decide ((o.label.length : Int) ≤ 64) else bif o.kind == 6 then rightP o.pieces else false)

/-! ### Bare -/
def noOp (k : Int) : OpT := ⟨k, [], 0, [], 0, false, [], [], [], false, []⟩
def bareO (o : OpT) : OpT :=
  bif o.kind == 1 then { noOp 1 with path := o.path, at_ := o.at_, id := o.id, leaf := o.leaf, label := o.label }
  else bif o.kind == 2 then { noOp 2 with path := o.path }
  else bif o.kind == 3 then { noOp 3 with path := o.path, at_ := o.at_, to := o.to }
  else bif o.kind == 4 then { noOp 4 with path := o.path, key := o.key, gone := o.gone, value := bif o.gone then [] else o.value }
  else bif o.kind == 5 then { noOp 5 with path := o.path, label := o.label }
  else bif o.kind == 6 then { noOp 6 with path := o.path, pieces := o.pieces }
  else noOp o.kind
/-- So much, at most. -/
structure OpT.Lt (o : OpT) (n : Nat) : Prop where
  path : o.path.length ≤ n
  to : o.to.length ≤ n
  label : o.label.length ≤ n
  key : o.key.length ≤ n
  value : o.value.length ≤ n
  pieces : o.pieces.length ≤ n
def putsLen (l : List PieceT) : Nat := l.foldr (fun p n => p.put.length + n) 0
end Bow
/- SP3: paths, in plain Lean. -/
namespace Bow
open Go

def common : List Int → List Int → Nat
  | p :: ps, q :: qs => bif decide (p = q) then common ps qs + 1 else 0
  | _, _ => 0
/-- Is a path another one, or does it lead to above it? -/
def within (p q : List Int) : Bool := decide (p = q.take p.length)
theorem common_within : ∀ p q : List Int, decide (common p q = p.length) = within p q
  | [], q => by simp [common, within]
  | p :: ps, [] => by simp [common, within]
  | p :: ps, q :: qs => by
    have ih := common_within ps qs
    unfold within at ih ⊢
    rw [common]
    by_cases h : p = q
    · subst h
      simp only [decide_true, cond_true, List.length_cons, Nat.add_right_cancel_iff, List.take_succ_cons, List.cons.injEq, true_and]
      exact ih
    · rw [decide_eq_false h]
      simp [h]
theorem common_same (p q : List Int) (h : p.length = q.length) : decide (common p q = p.length) = decide (p = q) := by
  rw [common_within, within, h, List.take_length]
theorem within_len {p q : List Int} (h : within p q = true) : p.length ≤ q.length := by
  unfold within at h
  have h := of_decide_eq_true h
  have := congrArg List.length h
  simp at this
  omega
end Bow
/- SP4: nodes by their paths, in plain Lean. -/
namespace Bow
open Go

def subT (t : Tree) (i : Int) : Option Tree := bif decide (i < 0) then none else t.subs[i.toNat]?
def atT : Tree → List Int → Option Tree
  | t, [] => some t
  | t, i :: p => match subT t i with
    | none => none
    | some s => atT s p
theorem subT_some {t s : Tree} {i : Int} (h : subT t i = some s) : 0 ≤ i ∧ t.subs[i.toNat]? = some s ∧ s ∈ t.subs := by
  unfold subT at h
  by_cases hi : i < 0
  · rw [decide_eq_true hi] at h; cases h
  · rw [decide_eq_false hi] at h
    exact ⟨by omega, h, List.mem_of_getElem? h⟩
theorem subT_neg {t : Tree} {i : Int} (h : i < 0) : subT t i = none := by unfold subT; rw [decide_eq_true h]; rfl
theorem subT_big {t : Tree} {i : Int} (h : (t.subs.length : Int) ≤ i) : subT t i = none := by
  unfold subT
  rw [decide_eq_false (by omega)]
  simp
  omega
theorem subT_at {t : Tree} {i : Int} (h0 : 0 ≤ i) (h1 : i < t.subs.length) : ∃ s, subT t i = some s ∧ t.subs[i.toNat]? = some s := by
  have hlt : i.toNat < t.subs.length := by omega
  refine ⟨t.subs[i.toNat], ?_, List.getElem?_eq_getElem hlt⟩
  unfold subT
  rw [decide_eq_false (by omega)]
  exact List.getElem?_eq_getElem hlt
theorem atT_weight {s : Tree} : ∀ {p : List Int} {t : Tree}, atT t p = some s → s.weight ≤ t.weight
  | [], t, h => by rw [atT] at h; injection h with h; subst h; exact Nat.le_refl _
  | i :: p, t, h => by
    rw [atT] at h
    cases hs : subT t i with
    | none => rw [hs] at h; cases h
    | some u =>
      rw [hs] at h
      have := atT_weight (p := p) h
      have := weight_sub (subT_some hs).2.2
      omega
/-- What At answers. -/
def atV (t0 : Tree) : Option Tree → V
  | some s => .tup [nodeV s, .tt]
  | none => .tup [nodeV t0, .ff]
def intoE (t : Tree) (at_ : Int) : Int := bif t.leaf then 83 else bif decide ((t.subs.length : Int) < at_) then 81 else 0
/-! ### Changes -/
def Tree.withSubs : Tree → List Tree → Tree
  | .mk i l a b c _, ss => .mk i l a b c ss
def changeT (F : Tree → Tree) : Tree → List Int → Tree
  | t, [] => F t
  | t, i :: p => match subT t i with
    | none => t
    | some s => t.withSubs (t.subs.set i.toNat (changeT F s p))
theorem withSubs_V (t : Tree) (ss : List Tree) : nodeV (t.withSubs ss) = .agg [.int .u64 t.id, .bool t.leaf, .str t.label, .sl 2 (t.attrs.map attrV), .str t.text, .sl 6 (ss.map nodeV)] := by
  cases t
  unfold nodeV
  rw [subV_eq]
  rfl
theorem withSubs_subs (t : Tree) (ss : List Tree) : (t.withSubs ss).subs = ss := by cases t; rfl
/-- A node at a gap. -/
def insT (at_ : Int) (x : Tree) (y : Tree) : Tree := y.withSubs (y.subs.take at_.toNat ++ x :: y.subs.drop at_.toNat)
/-- A node less. -/
def delT (at_ : Int) (y : Tree) : Tree := y.withSubs (y.subs.take at_.toNat ++ y.subs.drop (at_.toNat + 1))
/-- Where a moved node's target and gap are, when it has been taken out of place i of the node at q. -/
def landT (q : List Int) (i : Int) (to : List Int) (at_ : Int) : List Int × Int :=
  bif decide (q = to) && decide (i < at_) then (to, at_ - 1)
  else bif within q to && (decide (q.length < to.length) && decide (i < to.getD q.length 0)) then (to.set q.length (to.getD q.length 0 - 1), at_)
  else (to, at_)
end Bow
/- SP5: right trees, in plain Lean. -/
namespace Bow
open Go

def leS (a b : List UInt8) : Bool := Op.bytesLess a b || decide (a = b)
def ordOk : Option (List UInt8) → List UInt8 → Bool
  | none, _ => true
  | some k, s => !leS s k
def attrOk (k : Option (List UInt8)) (a : List UInt8 × List UInt8) : Bool := keyOk a.1 && (decide ((a.2.length : Int) ≤ 256) && ordOk k a.1)
/-- Attributes that are right, behind one of the key k. -/
def attrsOk : Option (List UInt8) → List (List UInt8 × List UInt8) → Bool
  | _, [] => true
  | k, a :: l => attrOk k a && attrsOk (some a.1) l
def headOk (t : Tree) : Bool := !decide ((64 : Int) < t.label.length) && (!(t.leaf && decide ((0 : Int) < t.subs.length)) && !(!t.leaf && !decide (t.text = [])))
/-- A node itself is right. -/
def rightN (t : Tree) : Bool := headOk t && attrsOk none t.attrs
mutual
def Tree.rightA : Tree → Bool
  | .mk i l a b c ss => rightN (.mk i l a b c ss) && rightsA ss
def rightsA : List Tree → Bool
  | [] => true
  | s :: ss => s.rightA && rightsA ss
end
theorem rightA_eq (t : Tree) : t.rightA = (rightN t && rightsA t.subs) := by cases t; rw [Tree.rightA]; rfl
theorem rightsA_all : ∀ ss : List Tree, rightsA ss = ss.all Tree.rightA
  | [] => by rw [rightsA]; rfl
  | s :: ss => by rw [rightsA, rightsA_all ss]; rfl
mutual
theorem pre_right : ∀ (t : Tree) (d : Int), (t.pre d).all (fun p => rightN p.2) = t.rightA
  | .mk i l a b c ss, d => by rw [Tree.pre, List.all_cons, pres_right ss (d + 1), Tree.rightA]
theorem pres_right : ∀ (ss : List Tree) (d : Int), (pres d ss).all (fun p => rightN p.2) = rightsA ss
  | [], d => by rw [pres]; rfl
  | s :: ss, d => by rw [pres, List.all_append, pre_right s d, pres_right ss d, rightsA]
end
def rightT (t : Tree) : Bool := !t.leaf && t.rightA

/-- The key ahead of place i. -/
def prevK (l : List (List UInt8 × List UInt8)) : Nat → Option (List UInt8)
  | 0 => none
  | i + 1 => some (l.getD i ([], [])).1
theorem attrs_at {l : List (List UInt8 × List UInt8)} {i : Nat} (hi : i < l.length) : attrsOk (prevK l i) (l.drop i) = (attrOk (prevK l i) l[i] && attrsOk (prevK l (i + 1)) (l.drop (i + 1))) := by
  rw [List.drop_eq_getElem_cons hi, attrsOk, prevK, List.getD_eq_getElem?_getD, List.getElem?_eq_getElem hi]
  rfl
end Bow
