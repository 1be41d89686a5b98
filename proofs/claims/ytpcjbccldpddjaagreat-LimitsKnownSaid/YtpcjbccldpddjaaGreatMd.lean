/- The library, part 4: AE37, AE38, TR1, TR2, W1, SP1, W2, W3, W4, W5, SP2, W6, W7, W8, W9, W10, W11, W12, W13, W14, W15, SP3, W16, SP4, W17, W18, W19. -/
import Derived.Test.YtpcjbccldpddjaaGreatMc
import Derived.Test.YtpcjbccldpddjaaGreatMb
import Derived.Test.YtpcjbccldpddjaaGreatRows
import Derived.KernelRfl
/- AE37: calls of functions that are handed some of the caller's objects, and leave objects of their own. -/
namespace Bow
open Go

/-! ### Names, renamed -/
def Ref.ren (ρ : List Nat) : Ref → Ref
  | .loc k => match ρ[k]? with
    | some j => .loc j
    | none => .bad
  | .abs n => .abs n
  | .bad => .bad
mutual
def V.ren (ρ : List Nat) : V → V
  | .osl r g o l => .osl (r.ren ρ) g o l
  | .ptr r o => .ptr (r.ren ρ) o
  | .eptr r g i o => .eptr (r.ren ρ) g i o
  | .agg cs => .agg (V.renL ρ cs)
  | .tup vs => .tup (V.renL ρ vs)
  | .fn f a c => .fn f (V.renL ρ a) (V.renL ρ c)
  | .yld r => .yld (r.ren ρ)
  | .iface t v => .iface t (v.ren ρ)
  | .int k n => .int k n
  | .bool b => .bool b
  | .tt => .tt
  | .ff => .ff
  | .str s => .str s
  | .sl s xs => .sl s xs
  | .nilsl => .nilsl
  | .iptr cs o => .iptr cs o
  | .nilp => .nilp
  | .nilf => .nilf
  | .nili => .nili
  | .nilmap => .nilmap
  | .undef => .undef
def V.renL (ρ : List Nat) : List V → List V
  | [] => []
  | v :: vs => v.ren ρ :: V.renL ρ vs
end
theorem V.renL_eq (ρ : List Nat) : ∀ vs, V.renL ρ vs = vs.map (V.ren ρ)
  | [] => rfl
  | v :: vs => by rw [V.renL, V.renL_eq ρ vs]; rfl
def HObj.ren (ρ : List Nat) : HObj → HObj
  | .box cs => .box (V.renL ρ cs)
  | .vec g sz xs => .vec g sz xs
  | .loop st pe fn E nt ps asg bo => .loop st pe fn (E.map fun p => (p.1, p.2.ren ρ)) nt ps asg bo
  | .dfr => .dfr

/-- The names ρ of the objects m are m1. -/
def Sub (ρ m m1 : List Nat) : Prop := m1.length = ρ.length ∧ ∀ i k : Nat, ρ[i]? = some k → ∃ r : Nat, m[k]? = some r ∧ m1[i]? = some r

theorem Ref.ren_conv {ρ m m1 : List Nat} (h : Sub ρ m m1) : ∀ r : Ref, r.sc ρ.length → (r.ren ρ).conv m = r.conv m1
  | .loc i, hi => by
    have hi : i < ρ.length := hi
    have e := List.getElem?_eq_getElem hi
    obtain ⟨r, h1, h2⟩ := h.2 i _ e
    simp only [Ref.ren, e, Ref.conv, h1, h2]
  | .abs _, _ => rfl
  | .bad, _ => rfl
theorem Ref.ren_sc {ρ m m1 : List Nat} (h : Sub ρ m m1) : ∀ r : Ref, r.sc ρ.length → (r.ren ρ).sc m.length
  | .loc i, hi => by
    have hi : i < ρ.length := hi
    have e := List.getElem?_eq_getElem hi
    obtain ⟨r, h1, h2⟩ := h.2 i _ e
    simp only [Ref.ren, e]
    exact lt_of_get h1
  | .abs _, _ => trivial
  | .bad, _ => trivial
mutual
theorem V.ren_conv {ρ m m1 : List Nat} (h : Sub ρ m m1) : ∀ v : V, v.sc ρ.length → (v.ren ρ).conv m = v.conv m1
  | .osl r _ _ _, hs => by simp only [V.ren, V.conv, r.ren_conv h hs]
  | .ptr r _, hs => by simp only [V.ren, V.conv, r.ren_conv h hs]
  | .eptr r _ _ _, hs => by simp only [V.ren, V.conv, r.ren_conv h hs]
  | .yld r, hs => by simp only [V.ren, V.conv, r.ren_conv h hs]
  | .agg cs, hs => by simp only [V.ren, V.conv, V.renL_conv h cs hs]
  | .tup cs, hs => by simp only [V.ren, V.conv, V.renL_conv h cs hs]
  | .fn _ a c, hs => by simp only [V.ren, V.conv, V.renL_conv h a hs.1, V.renL_conv h c hs.2]
  | .iface _ v, hs => by simp only [V.ren, V.conv, v.ren_conv h hs]
  | .int .., _ | .bool _, _ | .tt, _ | .ff, _ | .str _, _ | .sl .., _ | .nilsl, _ | .iptr .., _ | .nilp, _ | .nilf, _ | .nili, _ | .nilmap, _ | .undef, _ => rfl
theorem V.renL_conv {ρ m m1 : List Nat} (h : Sub ρ m m1) : ∀ vs : List V, V.scL ρ.length vs → V.convL m (V.renL ρ vs) = V.convL m1 vs
  | [], _ => rfl
  | v :: vs, hs => by simp only [V.renL, V.convL, v.ren_conv h hs.1, V.renL_conv h vs hs.2]
end
mutual
theorem V.ren_sc {ρ m m1 : List Nat} (h : Sub ρ m m1) : ∀ v : V, v.sc ρ.length → (v.ren ρ).sc m.length
  | .osl r _ _ _, hs | .ptr r _, hs | .eptr r _ _ _, hs | .yld r, hs => r.ren_sc h hs
  | .agg cs, hs | .tup cs, hs => V.renL_sc h cs hs
  | .fn _ a c, hs => ⟨V.renL_sc h a hs.1, V.renL_sc h c hs.2⟩
  | .iface _ v, hs => v.ren_sc h hs
  | .int .., _ | .bool _, _ | .tt, _ | .ff, _ | .str _, _ | .sl .., _ | .nilsl, _ | .iptr .., _ | .nilp, _ | .nilf, _ | .nili, _ | .nilmap, _ | .undef, _ => trivial
theorem V.renL_sc {ρ m m1 : List Nat} (h : Sub ρ m m1) : ∀ vs : List V, V.scL ρ.length vs → V.scL m.length (V.renL ρ vs)
  | [], _ => trivial
  | v :: vs, hs => ⟨v.ren_sc h hs.1, V.renL_sc h vs hs.2⟩
end
theorem HObj.ren_conv {ρ m m1 : List Nat} (h : Sub ρ m m1) : ∀ o : HObj, o.sc ρ.length → (o.ren ρ).conv m = o.conv m1
  | .box cs, hs => by simp only [HObj.ren, HObj.conv, V.renL_conv h cs hs]
  | .vec .., _ => rfl
  | .dfr, _ => rfl
  | .loop _ _ _ E _ _ _ _, hs => by
    simp only [HObj.ren, HObj.conv, Env.conv, List.map_map, HObj.loop.injEq, true_and, and_true]
    exact List.map_congr_left fun p hp => by simp only [Function.comp_apply]; rw [V.ren_conv h p.2 (hs p hp)]
theorem HObj.ren_sc {ρ m m1 : List Nat} (h : Sub ρ m m1) : ∀ o : HObj, o.sc ρ.length → (o.ren ρ).sc m.length
  | .box cs, hs => V.renL_sc h cs hs
  | .vec .., _ => trivial
  | .dfr, _ => trivial
  | .loop _ _ _ E _ _ _ _, hs => fun p hp => by
    obtain ⟨q, hq, rfl⟩ := List.mem_map.1 hp
    exact V.ren_sc h q.2 (hs q hq)

/-! ### The caller's objects behind the call -/
def omap (ρ : List Nat) (o : Option HObj) : Option HObj :=
  match o with
  | none => none
  | some o => some (o.ren ρ)
def setAll (ρ : List Nat) : List Nat → Heap → Heap → Heap
  | k :: ks, o :: os, T => setAll ρ ks os (T.set k (omap ρ o))
  | _, os, T => T ++ os.map (omap ρ)
def setAllK (ρ : List Nat) : List Nat → Heap → Heap → (Heap → Prop) → Prop
  | k :: ks, o :: os, T, K => lset T k (omap ρ o) fun T' => setAllK ρ ks os T' K
  | _, os, T, K => K (T ++ lmap (omap ρ) os)
theorem setAllK_eq (ρ : List Nat) : ∀ (ks : List Nat) (os T : Heap) (K : Heap → Prop), setAllK ρ ks os T K = K (setAll ρ ks os T)
  | k :: ks, o :: os, T, K => by rw [setAllK, lset_eq, setAllK_eq ρ ks os]; rfl
  | [], os, T, K => by simp only [setAllK, setAll, lmap_eq]
  | k :: ks, [], T, K => by simp only [setAllK, setAll, lmap_eq]
theorem setAll_len (ρ : List Nat) : ∀ (ks : List Nat) (os T : Heap), ks.length ≤ os.length → (setAll ρ ks os T).length = T.length + (os.length - ks.length)
  | k :: ks, o :: os, T, h => by
    rw [setAll, setAll_len ρ ks os _ (by simpa using h)]
    simp
  | [], os, T, _ => by simp [setAll]
  | k :: ks, [], T, h => by simp at h
theorem setAll_other (ρ : List Nat) {j : Nat} : ∀ (ks : List Nat) (os T : Heap), j ∉ ks → j < T.length → (setAll ρ ks os T)[j]? = T[j]?
  | k :: ks, o :: os, T, h, hj => by
    rw [setAll, setAll_other ρ ks os _ (fun hm => h (List.mem_cons_of_mem _ hm)) (by simpa using hj), List.getElem?_set_ne (fun e : k = j => by subst e; exact h List.mem_cons_self)]
  | [], os, T, _, hj => by simp only [setAll]; rw [List.getElem?_append_left hj]
  | k :: ks, [], T, _, hj => by simp only [setAll]; rw [List.getElem?_append_left hj]
theorem setAll_at (ρ : List Nat) : ∀ (ks : List Nat) (os T : Heap), ks.Nodup → (∀ k ∈ ks, k < T.length) → ks.length ≤ os.length → ∀ (i k : Nat), ks[i]? = some k → (setAll ρ ks os T)[k]? = os[i]?.map (omap ρ)
  | k0 :: ks, o :: os, T, hn, hl, hle, i, k, hk => by
    obtain ⟨h1, h2⟩ := List.nodup_cons.1 hn
    have hk0 := hl k0 List.mem_cons_self
    rw [setAll]
    cases i with
    | zero =>
      simp only [List.getElem?_cons_zero, Option.some.injEq] at hk
      subst hk
      rw [setAll_other ρ ks os _ h1 (by simpa using hk0)]
      simp [hk0]
    | succ i =>
      simp only [List.getElem?_cons_succ] at hk ⊢
      exact setAll_at ρ ks os _ h2 (fun k hk => by simpa using hl k (List.mem_cons_of_mem _ hk)) (by simpa using hle) i k hk
  | [], os, T, _, _, _, i, k, hk => by simp at hk
  | k0 :: ks, [], T, _, _, hle, i, k, hk => by simp at hle
theorem setAll_new (ρ : List Nat) : ∀ (ks : List Nat) (os T : Heap), ks.length ≤ os.length → ∀ j, (setAll ρ ks os T)[T.length + j]? = os[ks.length + j]?.map (omap ρ)
  | k0 :: ks, o :: os, T, hle, j => by
    rw [setAll]
    have := setAll_new ρ ks os (T.set k0 (omap ρ o)) (by simpa using hle) j
    simp only [List.length_set] at this
    rw [this, List.length_cons, show ks.length + 1 + j = (ks.length + j) + 1 by omega, List.getElem?_cons_succ]
  | [], os, T, _, j => by
    simp only [setAll]
    rw [List.getElem?_append_right (by omega)]
    simp
  | k0 :: ks, [], T, hle, j => by simp at hle

def subB : List Nat → Nat → Bool
  | [], _ => true
  | k :: ks, n => Nat.blt k n && subB ks n
theorem subB_get : ∀ (ks : List Nat) (n : Nat), subB ks n = true → ∀ k ∈ ks, k < n
  | [], _, _, k, h => by cases h
  | x :: ks, n, hs, k, h => by
    simp only [subB, Bool.and_eq_true] at hs
    rcases List.mem_cons.1 h with rfl | h
    · exact Nat.le_of_ble_eq_true hs.1
    · exact subB_get ks n hs.2 k h

/-- The objects ks of the caller, as the called one sees them. -/
def objsAre (ks : List Nat) (T : Heap) : List Nat → Heap → Prop
  | [], [] => True
  | k :: l, some o :: os => (lget T k = some (some (o.ren ks)) ∧ o.scB ks.length = true) ∧ objsAre ks T l os
  | _, _ => False
theorem objsAre_get {ks0 : List Nat} {T : Heap} : ∀ {l : List Nat} {os : Heap}, objsAre ks0 T l os → l.length = os.length ∧ ∀ (i k : Nat), l[i]? = some k → ∃ o, os[i]? = some (some o) ∧ T[k]? = some (some (o.ren ks0)) ∧ o.sc ks0.length
  | [], [], _ => ⟨rfl, fun i k h => by simp at h⟩
  | k0 :: l, some o :: os, h => by
    obtain ⟨h1, h2⟩ := objsAre_get h.2
    refine ⟨by simp [h1], fun i k hk => ?_⟩
    cases i with
    | zero =>
      simp only [List.getElem?_cons_zero, Option.some.injEq] at hk
      subst hk
      exact ⟨o, rfl, by rw [← lget_eq]; exact h.1.1, HObj.scB_sc o h.1.2⟩
    | succ i => simpa using h2 i k (by simpa using hk)
  | [], _ :: _, h => h.elim
  | _ :: _, [], h => h.elim
  | _ :: _, none :: _, h => h.elim

def rangeFrom : Nat → Nat → List Nat
  | _, 0 => []
  | n, k + 1 => n :: rangeFrom (n + 1) k
theorem rangeFrom_len : ∀ (k n : Nat), (rangeFrom n k).length = k
  | 0, _ => rfl
  | k + 1, n => by simp [rangeFrom, rangeFrom_len k]
theorem rangeFrom_get : ∀ (k n i : Nat), i < k → (rangeFrom n k)[i]? = some (n + i)
  | k + 1, n, 0, _ => rfl
  | k + 1, n, i + 1, h => by
    rw [rangeFrom, List.getElem?_cons_succ, rangeFrom_get k (n + 1) i (by omega)]
    congr 1
    omega
/-- The names of what the called one has: those that it was handed, and new ones. -/
def subρ (ks : List Nat) (n : Nat) (T1 : Heap) : List Nat := ks ++ rangeFrom n (lcount T1 0 - lcount ks 0)

theorem call_sub {c : Cx} {g : FuncId} {args args' : List V} {E : Env} {T T1 : Heap} {K : V → St → Prop} {Q : V → Heap → Prop} (ks : List Nat) (hf : Fun c.P g T1 args' Q) (hnd : nodupB ks = true) (hlt : subB ks T.length = true) (ho : objsAre ks T ks T1) (ha : args = V.renL ks args') (hsc : V.scBL ks.length args' = true)
    (hD : c.D.all (fun k => !memN ks k) = true)
    (h : ∀ x T1', Q x T1' → allLive (ldrop T1' ks.length) = true ∧ setAllK (subρ ks T.length T1') ks T1' T fun T2 => K (x.ren (subρ ks T.length T1')) ⟨E, T2, c.B, c.D⟩) : CallThen c g args E T K := by
  have hen : Enterable c.P g := by unfold Fun at hf; exact hf.1
  unfold CallThen
  unfold Fun at hf
  refine ⟨hen, fun w β H m a vals cs hs hl hr => ?_⟩
  have hml : m.length = T.length := hs.mlen
  have hnd' := nodupB_iff _ hnd
  have hlt' := subB_get _ _ hlt
  obtain ⟨hol, hoo⟩ := objsAre_get ho
  obtain ⟨m1, hm1⟩ : ∃ m1, m1 = ks.map fun k => (m[k]?).getD 0 := ⟨_, rfl⟩
  have hsub : Sub ks m m1 := by
    refine ⟨by rw [hm1]; simp, fun i k hk => ?_⟩
    have hkm : k < m.length := by rw [hml]; exact hlt' k (List.mem_of_getElem? hk)
    have e := List.getElem?_eq_getElem hkm
    exact ⟨m[k], e, by rw [hm1, List.getElem?_map, hk]; simp [e]⟩
  have hm1l : m1.length = T1.length := by rw [hsub.1]; exact hol
  have hm1nd : m1.Nodup := by
    rw [hm1]
    refine List.Pairwise.map _ (fun x y h => ?_) (List.Pairwise.and_mem.1 hnd')
    obtain ⟨hx, hy, hne⟩ := h
    have hxm : x < m.length := by rw [hml]; exact hlt' x hx
    have hym : y < m.length := by rw [hml]; exact hlt' y hy
    intro e
    simp only [List.getElem?_eq_getElem hxm, List.getElem?_eq_getElem hym, Option.getD_some] at e
    exact hne (hs.inj (List.getElem?_eq_getElem hxm) (by rw [e]; exact List.getElem?_eq_getElem hym))
  have hmem : ∀ r, r ∈ m1 → ∃ i k, ks[i]? = some k ∧ m[k]? = some r ∧ m1[i]? = some r := fun r hr => by
    obtain ⟨i, hi⟩ := List.getElem?_of_mem hr
    have hil : i < ks.length := by have := lt_of_get hi; rw [hsub.1] at this; exact this
    obtain ⟨r', h1, h2⟩ := hsub.2 i _ (List.getElem?_eq_getElem hil)
    rw [hi] at h2
    injection h2 with h2
    subst h2
    exact ⟨i, _, List.getElem?_eq_getElem hil, h1, hi⟩
  have hargsc := (V.scL_iff _ _).1 (V.scBL_sc _ hsc)
  have hs1 : SRel m1 0 w β H m1 ⟨[], T1, fun r => (H[r]?).getD none, []⟩ bare := by
    refine ⟨hs.hrel, rfl, fun k => by simp [lk, V.conv]; exact .undef _, hm1l, hm1nd, fun i r o hi hoi => ?_, by simp, fun r hr hn => by simp [hr], fun r hr => by simp [List.getElem?_eq_none hr], fun k r hk hm => by have := lt_of_get hm; omega, by simp, fun i o hoi => ?_, rfl, by simp⟩
    · have hil : i < ks.length := by have := lt_of_get hi; rw [hsub.1] at this; exact this
      have hk := List.getElem?_eq_getElem hil
      obtain ⟨r', h1, h2⟩ := hsub.2 i _ hk
      rw [hi] at h2
      injection h2 with h2
      subst h2
      obtain ⟨o', e1, e2, e3⟩ := hoo i _ hk
      simp only at hoi
      rw [e1] at hoi
      injection hoi with hoi
      subst hoi
      rw [hs.loc _ r _ h1 e2]
      simp only [Option.map_some]
      rw [HObj.ren_conv hsub o' e3]
    · have hil : i < ks.length := by have := lt_of_get hoi; simp only at this; omega
      obtain ⟨o', e1, e2, e3⟩ := hoo i _ (List.getElem?_eq_getElem hil)
      simp only at hoi ⊢
      rw [e1] at hoi
      injection hoi with hoi
      injection hoi with hoi
      subst hoi
      rw [← hol]
      exact e3
  obtain ⟨x, T1', v, w', β', H', m1', fr, hq, k1, k2, k3, k4, k5, k6⟩ := hf.2 w β H m1 _ vals cs hs1 (by rw [← hl, ha, V.renL_eq]; simp) (fun j y u hj hu => by
    have := hr j (y.ren ks) u (by rw [ha, V.renL_eq, List.getElem?_map, hj]; rfl) hu
    rwa [V.ren_conv hsub y (hargsc y (List.mem_of_getElem? hj))] at this)
  obtain ⟨hlive, h⟩ := h x T1' hq
  rw [setAllK_eq] at h
  rw [ldrop_eq] at hlive
  obtain ⟨ρ, hρ⟩ : ∃ ρ, ρ = subρ ks T.length T1' := ⟨_, rfl⟩
  rw [← hρ] at h
  -- the names behind the call
  have hpre : m1 = m1'.take m1.length := by have := k1.imp; rw [this]
  obtain ⟨new, hnew⟩ : ∃ new, m1' = m1 ++ new := ⟨m1'.drop m1.length, by conv => lhs; rw [← List.take_append_drop m1.length m1', ← hpre]⟩
  have hm1'l : m1'.length = T1'.length := k1.mlen
  have hks' : ks.length ≤ T1'.length := by rw [hnew] at hm1'l; simp at hm1'l; have := hsub.1; omega
  have hnl : new.length = T1'.length - ks.length := by rw [hnew] at hm1'l; simp at hm1'l; have := hsub.1; omega
  have hnget : ∀ j r, new[j]? = some r → m1'[ks.length + j]? = some r := fun j r hj => by
    rw [hnew, List.getElem?_append_right (by rw [hsub.1]; omega), hsub.1, Nat.add_sub_cancel_left]
    exact hj
  have hlen : H.length ≤ H'.length := k2.len
  have hfresh : ∀ r, r ∈ new → H.length ≤ r := fun r hr => by
    obtain ⟨j, hj⟩ := List.getElem?_of_mem hr
    have hm := hnget j r hj
    have hjl : ks.length + j < T1'.length := by have := lt_of_get hm; omega
    have hT := List.getElem?_eq_getElem hjl
    obtain ⟨o, ho⟩ := allLive_get hlive j _ (by rw [List.getElem?_drop]; exact hT)
    rw [ho] at hT
    have hH' := k1.loc _ r _ hm hT
    have hz := k1.own (ks.length + j) r (by rw [hsub.1]; omega) hm
    simp only at hz
    rcases Nat.lt_or_ge r H.length with h1 | h1
    · obtain ⟨o1, e1, _⟩ := k2.evo r _ h1 hH'
      rw [e1] at hz
      cases hz
    · exact h1
  have hρe : ρ = ks ++ rangeFrom T.length new.length := by rw [hρ]; unfold subρ; rw [lcount_eq, lcount_eq, hnl]; simp
  have hρl : ρ.length = T1'.length := by rw [hρe]; simp [rangeFrom_len]; omega
  obtain ⟨m', hm'⟩ : ∃ m', m' = m ++ new := ⟨_, rfl⟩
  have hm'l : m'.length = T.length + new.length := by rw [hm']; simp [hml]
  have hsub' : Sub ρ m' m1' := by
    refine ⟨by rw [hm1'l, hρl], fun i k hk => ?_⟩
    rw [hρe] at hk
    rcases Nat.lt_or_ge i ks.length with h1 | h1
    · rw [List.getElem?_append_left h1] at hk
      obtain ⟨r, e1, e2⟩ := hsub.2 i k hk
      exact ⟨r, by rw [hm', List.getElem?_append_left (lt_of_get e1)]; exact e1, by rw [hnew, List.getElem?_append_left (lt_of_get e2)]; exact e2⟩
    · rw [List.getElem?_append_right h1] at hk
      have hi := lt_of_get hk
      rw [rangeFrom_len] at hi
      rw [rangeFrom_get _ _ _ hi] at hk
      injection hk with hk
      subst hk
      refine ⟨new[i - ks.length], by rw [hm', List.getElem?_append_right (by omega), hml, Nat.add_sub_cancel_left]; exact List.getElem?_eq_getElem hi, ?_⟩
      rw [hnew, List.getElem?_append_right (by rw [hsub.1]; exact h1), hsub.1]
      exact List.getElem?_eq_getElem hi
  have hext : ∀ u : V, u.sc m.length → u.conv m' = u.conv m := fun u hu => by rw [hm']; exact V.conv_ext (Nat.le_refl _) u hu
  have hin : ∀ r, r ∈ m1' → r ∈ m1 ∨ r ∈ new := fun r hr => by rw [hnew] at hr; exact List.mem_append.1 hr
  have hold : ∀ r, r < H.length → r ∉ m1 → H'[r]? = H[r]? := fun r hr hn => by
    have hn' : r ∉ m1' := fun hm => by
      rcases hin r hm with h1 | h1
      · exact hn h1
      · have := hfresh r h1; omega
    rw [k1.base r (Nat.lt_of_lt_of_le hr hlen) hn']
    simp [hr]
  have hscT1 : ∀ (i : Nat) (o : HObj), T1'[i]? = some (some o) → o.sc ρ.length := fun i o ho => by rw [hρl]; exact k1.scT i o ho
  have hT2l : (setAll ρ ks T1' T).length = T.length + new.length := by rw [setAll_len _ _ _ _ hks', hnl]
  -- an object, handed over or new
  have hobj : ∀ (i k r : Nat) (o : Option HObj), ρ[i]? = some k → m'[k]? = some r → T1'[i]? = some o → H'[r]? = some ((omap ρ o).map (HObj.conv m')) := fun i k r o hi hk ho => by
    obtain ⟨r', e1, e2⟩ := hsub'.2 i k hi
    rw [hk] at e1
    injection e1 with e1
    subst e1
    rw [k1.loc i r o e2 ho]
    cases o with
    | none => rfl
    | some o => simp only [omap, Option.map_some]; rw [HObj.ren_conv hsub' o (hscT1 i o ho)]
  have hcase : ∀ k, k < T.length + new.length → (∃ i, ρ[i]? = some k ∧ (setAll ρ ks T1' T)[k]? = T1'[i]?.map (omap ρ)) ∨ (k < T.length ∧ k ∉ ks ∧ (setAll ρ ks T1' T)[k]? = T[k]?) := fun k hk => by
    rcases Nat.lt_or_ge k T.length with h1 | h1
    · by_cases hm : k ∈ ks
      · obtain ⟨i, hi⟩ := List.getElem?_of_mem hm
        exact .inl ⟨i, by rw [hρe, List.getElem?_append_left (lt_of_get hi)]; exact hi, setAll_at ρ ks T1' T hnd' hlt' hks' i k hi⟩
      · exact .inr ⟨h1, hm, setAll_other ρ ks T1' T hm h1⟩
    · refine .inl ⟨ks.length + (k - T.length), ?_, ?_⟩
      · rw [hρe, List.getElem?_append_right (by omega), Nat.add_sub_cancel_left, rangeFrom_get _ _ _ (by omega)]
        congr 1
        omega
      · have := setAll_new ρ ks T1' T hks' (k - T.length)
        rwa [Nat.add_sub_cancel' h1] at this
  refine ⟨_, _, v, w', β', H', m', fr, h, ?_, k2, by rw [V.ren_conv hsub' x (by rw [hρl, ← hm1'l]; exact sc_of_rep x k3)]; exact k3, k4, k5, k6, by rw [hm']; exact List.prefix_append _ _⟩
  refine ⟨k1.hrel, hs.size, fun k => ?_, by rw [hm'l, hT2l], ?_, fun k r o hk ho' => ?_, ?_, fun r hr hn => ?_, fun r hr => hs.fut r (Nat.le_trans hlen hr), fun k r hk hm => ?_, fun p hp => ?_, fun k o ho' => ?_, hs.defs, ?_⟩
  · simp only
    rw [hext _ (by have := lk_sc E k hs.scE; rwa [hml])]
    exact (hs.env k).mono k2
  · rw [hm']
    refine List.nodup_append.2 ⟨hs.nodup, ?_, fun a ha b hb e => ?_⟩
    · have := k1.nodup
      rw [hnew] at this
      exact (List.nodup_append.1 this).2.1
    · subst e
      obtain ⟨j, hj⟩ := List.getElem?_of_mem ha
      have := hs.lt hj
      have := hfresh _ hb
      omega
  · have hkl : k < T.length + new.length := by have := lt_of_get hk; omega
    simp only at ho'
    rcases hcase k hkl with ⟨i, e1, e2⟩ | ⟨e1, e2, e3⟩
    · rw [e2] at ho'
      rw [Option.map_eq_some_iff] at ho'
      obtain ⟨o1, e4, e5⟩ := ho'
      subst e5
      exact hobj i k r o1 e1 hk e4
    · rw [e3] at ho'
      have hkm : m[k]? = some r := by rw [hm', List.getElem?_append_left (by omega)] at hk; exact hk
      have hrn : r ∉ m1 := fun hm => by
        obtain ⟨i, k2', q1, q2, _⟩ := hmem r hm
        have := hs.inj q2 hkm
        subst this
        exact e2 (List.mem_of_getElem? q1)
      rw [hold r (hs.lt hkm) hrn, hs.loc k r o hkm ho']
      cases o with
      | none => rfl
      | some o =>
        simp only [Option.map_some, Option.some.injEq]
        have := hs.scT k o ho'
        rw [hm']
        exact (HObj.conv_ext (Nat.le_refl _) o (by rw [hml]; exact this)).symm
  · have := hs.imp
    rw [hm', List.take_append_of_le_length]
    · exact this
    · have := congrArg List.length this
      simp at this
      omega
  · simp only
    have hrm : r ∉ m := fun hm => hn (by rw [hm']; exact List.mem_append_left _ hm)
    have hrnew : r ∉ new := fun hm => hn (by rw [hm']; exact List.mem_append_right _ hm)
    have hr1 : r ∉ m1 := fun hm => by
      obtain ⟨i, k2', q1, q2, _⟩ := hmem r hm
      exact hrm (List.mem_of_getElem? q2)
    have hr1' : r ∉ m1' := fun hm => by rcases hin r hm with h1 | h1; exact hr1 h1; exact hrnew h1
    rw [k1.base r hr hr1']
    simp only
    rcases Nat.lt_or_ge r H.length with h1 | h1
    · rw [hs.base r h1 hrm]
      rfl
    · have e0 : c.B r = none := hs.fut r h1
      rw [e0, List.getElem?_eq_none h1]
      rfl
  · rcases Nat.lt_or_ge k m.length with h1 | h1
    · rw [hm', List.getElem?_append_left h1] at hm
      exact hs.own k r hk hm
    · rw [hm', List.getElem?_append_right h1] at hm
      exact hs.fut r (hfresh r (List.mem_of_getElem? hm))
  · simp only
    rw [hT2l]
    exact V.sc_mono (Nat.le_add_right _ _) _ (hs.scE p hp)
  · have hkl : k < T.length + new.length := by have := lt_of_get ho'; simp only at this; omega
    simp only at ho' ⊢
    rw [hT2l]
    rcases hcase k hkl with ⟨i, e1, e2⟩ | ⟨e1, e2, e3⟩
    · rw [e2, Option.map_eq_some_iff] at ho'
      obtain ⟨o1, e4, e5⟩ := ho'
      cases o1 with
      | none => cases e5
      | some o1 =>
        simp only [omap, Option.some.injEq] at e5
        subst e5
        rw [← hm'l]
        exact HObj.ren_sc hsub' o1 (hscT1 i o1 e4)
    · rw [e3] at ho'
      exact HObj.sc_mono (Nat.le_add_right _ _) _ (hs.scT k o ho')
  · intro j k hj
    obtain ⟨r', b, N, e1, e2, e3, e4⟩ := hs.marks j k hj
    have hkm : k < T.length := by have := lt_of_get e1; omega
    have hkn : k ∉ ks := fun hm => by
      have := List.all_eq_true.1 hD k (List.mem_of_getElem? hj)
      rw [(memN_iff _ _).2 hm] at this
      cases this
    have hr1 : r' ∉ m1 := fun hm => by
      obtain ⟨i, k2', q1, q2, _⟩ := hmem r' hm
      have := hs.inj q2 e1
      subst this
      exact hkn (List.mem_of_getElem? q1)
    have hH0 := hs.loc k r' _ e1 e2
    refine ⟨r', b, N, by rw [hm', List.getElem?_append_left (lt_of_get e1)]; exact e1, by simp only; rw [setAll_other ρ ks T1' T hkn hkm]; exact e2, ?_, e4⟩
    exact dfr_stays k2 (by simpa [HObj.conv] using hH0) e3 (by rw [hold r' (hs.lt e1) hr1, hH0]; rfl)

/-- A function's contract, out of its body's evaluation. -/
theorem fun_fn {P : Program} {f : FuncId} {fn : Func} {body : Code} {T : Heap} {args : List V} {Q : V → Heap → Prop} (n : Nat) (hf : P.funcs[f]? = some fn) (hn : (fn.name == "runtime.NumGoroutine") = false) (hb : fn.body = some body) (hnt : Nat.ble args.length fn.ntmps = true)
    (h : ∀ (imps : List Nat) (B : Base), imps.length = T.length → evp { P := P, nt := fn.ntmps, fn := f, ro := none, imps := imps, X := XR P imps fn.results B Q, B := B, D := [] } n [.code body] (env0 0 args) T) : Fun P f T args Q :=
  fun_of_goes hf hn hb hnt fun imps B hi => evp_sound _ _ _ _ _ (h imps B hi)

/-- What a call leaves, but for what nobody names: the first n objects. -/
def keepK (n : Nat) (x : V) (T : Heap) (Q : V → Heap → Prop) : Prop := ∃ T1, T1.length = n ∧ x.scB n = true ∧ heapIs n T T1 ∧ Q x T1
theorem fun_keep {P : Program} {f : FuncId} {T : Heap} {args : List V} {Q : V → Heap → Prop} (n : Nat) (hn : Nat.ble T.length n = true) (h : Fun P f T args fun x T' => keepK n x T' Q) : Fun P f T args Q := by
  unfold Fun at *
  refine ⟨h.1, fun w β H m B vals cs hs hl hr => ?_⟩
  obtain ⟨x, T', v, w', β', H', m', fr, ⟨T1, q1, q2, q3, q4⟩, k1, k2, k3, k4⟩ := h.2 w β H m B vals cs hs hl hr
  subst q1
  obtain ⟨T'', rfl, hsc⟩ := heapIs_eq q3
  have hml : m.length = T.length := hs.mlen
  obtain ⟨m2, H2, e1, e2, e3⟩ := SRel.dropTo T'' k1 (by rw [hml]; exact Nat.le_of_ble_eq_true hn) (by simp) hsc (by simp)
  refine ⟨x, T1, v, w', β', H2, m2, fr, q4, e1, k2.trans e2, ?_, k4⟩
  have hx := V.scB_sc x q2
  have : x.conv m2 = x.conv m' := by
    rw [e3]
    have hle : T1.length ≤ (m'.take T1.length).length := by
      have := k1.mlen
      simp at this ⊢
      omega
    conv => rhs; rw [← List.take_append_drop T1.length m']
    exact (V.conv_ext hle x hx).symm
  rw [this]
  exact k3.mono e2
end Bow
/- AE38: a row that grows for more; own slices cut; a nil slice as own memory. -/
namespace Bow
open Go

theorem run_append_zeros {P : Program} {w : World} {t t' e : TypeId} {i : TypeInfo} {z : Value} {kd kk : IntKind} (n : Nat) (ht : P.underlying t = some (.slice e)) (ht' : P.underlying t' = some (.int kd)) (hi : P.info? e = some i) (hz : i.zero = some z) (ty : TypeId)
    (_hzs : z.cells.size = i.size) (hsz : 0 < i.size) (h1 : 1 ≤ n) (h63 : n ≤ 9223372036854775807) (hb : n * i.bytes ≤ 281474976710656) (hfit : Builtin.nextslicecap n 0 * i.bytes ≤ 281474976710656) :
    (Builtin.append_ #[t, t'] ty #[.slice none 0 0, .int kk n]).run P w =
      .ok (.slice (some ⟨w.heap.size, 0, none⟩) n (grownCap w n 0 e)) (w.drew.alloc (.cells (Builtin.zeroCells z.cells n ++ Builtin.zeroCells z.cells (grownCap w n 0 e - n)) e)) := by
  have hn : ¬ (n ≤ 0) := by omega
  have hn0 : ¬ n = 0 := by omega
  have hs0 : ¬ i.size = 0 := by omega
  have e1 : IntKind.i64.max = 9223372036854775807 := by decide
  have hw : IntKind.i64.wrap (n : Int) = n := by
    rw [IntKind.wrap_i64]; omega
  have h48 : ¬ (281474976710656 < Builtin.nextslicecap n 0 * i.bytes) := by omega
  have hb' : ¬ (281474976710656 < (n : Int) * (i.bytes : Int)) := by
    have h : ((n * i.bytes : Nat) : Int) ≤ 281474976710656 := by omega
    rw [Int.natCast_mul] at h
    omega
  have h63' : ¬ ((9223372036854775807 : Int) < (n : Int)) := by omega
  have hneg : ¬ ((n : Int) < 0) := by omega
  simp [Builtin.append_, run_underlying ht, run_underlying ht', run_sizeOf' hi, typeInfo, zeroValue, hi, hz, hn0, h63', h48, hb', hneg, hw, Question.forced, newRow, grownCap, e1, asInt, asIntOf, Builtin.firstCells]
  intro h
  exact absurd h (Nat.ne_of_gt (Nat.mul_pos h1 hsz))

section
variable {c : Cx} {E : Env} {T : Heap} {ops : Array Oper} {i : Nat} {rest : List Nat} {k : List Item} {o : Oper}

theorem goes_cap0 {t e : TypeId} {x : Operand} (n : Nat) (ho : lget ops.toList i = some o) (hg : o.guard = none) (hop : o.op = .call { callee := .builtin .cap, args := #[x], argTypes := #[t] }) (hx : opd E x = .nilsl) (ht : tyU c.P t = some (.slice e))
    (h : putE c.nt o.dst (.int .i64 0) E False fun E' => evp c n (.inRegion ops rest :: k) E' T) : Goes c (.inRegion ops (i :: rest) :: k) E T := by
  refine goes_opTo n ho hg hop (OpTo.still fun o hop w β H m a hs => ⟨.int .i64 0, ?_, .int _ _⟩) (fun cl h => by cases h) h
  have hr := opd_rep hs x
  simp only [hx, V.conv] at hr
  generalize hq : a.eval x = q at hr
  cases hr
  simp [execOp, hop, resolve, invoke, builtin, Builtin.cap_, hq, run_underlying (tyU_sound ht), goInt]

theorem goes_nilcut {t e : TypeId} {x hi : Operand} {kk : IntKind} {ti : TypeInfo} (n : Nat) (ho : lget ops.toList i = some o) (hg : o.guard = none) (hop : o.op = .slice t x none (some hi) none) (hx : opd E x = .nilsl) (hh : opd E hi = .int kk 0) (ht : tyU c.P t = some (.slice e)) (hi' : tyI c.P e = some ti)
    (h : putE c.nt o.dst .nilsl E False fun E' => evp c n (.inRegion ops rest :: k) E' T) : Goes c (.inRegion ops (i :: rest) :: k) E T := by
  refine goes_opTo n ho hg hop (OpTo.still fun o hop w β H m a hs => ⟨.slice none 0 0, ?_, .nilsl⟩) (fun cl h => by cases h) h
  have hr := opd_rep hs x
  simp only [hx, V.conv] at hr
  have hr2 := rep_int (m := m) (by have := opd_rep hs hi; rwa [hh] at this)
  generalize hq : a.eval x = q at hr
  cases hr
  simp [execOp, hop, hq, hr2, Instr.sliceAt, Instr.slice, Instr.sliceBounds, Instr.sliceBound, asIntOf, run_underlying (tyU_sound ht), run_sizeOf' (tyI_sound hi')]

/-- The built-in append of so many zeros, onto nil. -/
theorem goes_growTo {t t' e : TypeId} {x y : Operand} {kd : IntKind} {ti : TypeInfo} {z : Value} (n N : Nat) (ho : lget ops.toList i = some o) (hg : o.guard = none) (hop : o.op = .call { callee := .builtin .append, args := #[x, y], argTypes := #[t, t'] }) (hx : opd E x = .nilsl) (hy : opd E y = .int .i64 N) (h1 : 1 ≤ N)
    (ht : tyU c.P t = some (.slice e)) (ht' : tyU c.P t' = some (.int kd)) (hi : tyI c.P e = some ti) (hz : ti.zero = some z) (hsz : (Nat.beq z.cells.size ti.size && Nat.ble 1 ti.size && Nat.ble 1 ti.bytes && onesB (ofVal z).cells && Nat.beq (lcount (ofVal z).cells 0) ti.size) = true) (hb : room N ti.bytes)
    (h : putE c.nt o.dst (.osl (.loc T.length) 0 0 N) E False fun E' => lsnoc T (some (.vec 0 ti.size (List.replicate N (ofVal z)))) fun T' => evp c n (.inRegion ops rest :: k) E' T') : Goes c (.inRegion ops (i :: rest) :: k) E T := by
  simp only [lsnoc_eq] at h
  simp only [Bool.and_eq_true, lcount_eq, Nat.add_zero] at hsz
  obtain ⟨⟨⟨⟨s1, s2⟩, s3⟩, s4⟩, s5⟩ := hsz
  have s1 := Nat.eq_of_beq_eq_true s1
  have s2 : 1 ≤ ti.size := Nat.le_of_ble_eq_true s2
  have s3 : 1 ≤ ti.bytes := Nat.le_of_ble_eq_true s3
  have s5 := Nat.eq_of_beq_eq_true s5
  unfold room at hb
  have hN : N ≤ 70368744177664 := Nat.le_trans (Nat.le_mul_of_pos_right N s3) hb
  refine goes_opTo n ho hg hop (fun o hop w β H m a hs => ?_) (fun cl h => by cases h) h
  have hr := opd_rep hs x
  simp only [hx, V.conv] at hr
  have e2 := rep_int (m := m) (by have := opd_rep hs y; rwa [hy] at this)
  generalize hq : a.eval x = q at hr
  cases hr
  have hrun := run_append_zeros (P := c.P) (w := w) (kk := .i64) N (tyU_sound ht) (tyU_sound ht') (tyI_sound hi) hz o.type s1 (by omega) h1 (by omega) (by omega) (growslice_fits (by omega) (by omega))
  have hge := grownCap_ge w N 0 e
  have hcm := grownCap_le_maxLen w N 0 e (by unfold maxLen; omega)
  obtain ⟨cap, hcap⟩ : ∃ cap, cap = grownCap w N 0 e := ⟨_, rfl⟩
  rw [← hcap] at hge hcm hrun
  have hzr : RowRep w β H (V.convL m (ofVal z).cells) z.cells.toList := ofVal_row m z
  have hzp : V.convL m (ofVal z).cells = (ofVal z).cells := by
    refine pureL_conv m _ ?_
    have key1 : ∀ v, (ofVal1 v).pureB = true := fun v => by
      unfold ofVal1
      split <;> first | rfl | skip
      cases (Nat.ble _ 1000000) <;> rfl
    have key : ∀ l : List Value, V.pureL (lmap ofVal1 l) = true := fun l => by
      induction l with
      | nil => rfl
      | cons x l ih => simp only [lmap, V.pureL, key1, ih, Bool.and_self]
    unfold ofVal
    split
    · exact key _
    · rw [ofVal1_cells]
      simp [V.pureL, key1]
  rw [hzp] at hzr
  have hsame : SRel c.imps c.nt w.drew β H m ⟨E, T, c.B, c.D⟩ a := hs.same (Fr.of_heap rfl rfl rfl rfl) (hs.hrel.of_heap rfl rfl rfl rfl)
  obtain ⟨cells, hcells⟩ : ∃ cells, cells = Builtin.zeroCells z.cells N ++ Builtin.zeroCells z.cells (cap - N) := ⟨_, rfl⟩
  rw [← hcells] at hrun
  have hcs : cells.size = cap * ti.size := by
    rw [hcells]
    simp only [Array.size_append, zeroCells_size', s1, ← Nat.add_mul]
    congr 1
    omega
  obtain ⟨β', H', k1, k2, k3⟩ := hsame.newVec 0 ti.size (List.replicate N (ofVal z)) cells e N cap (tyG_zero _) s2 (fun x hx => by rw [List.eq_of_mem_replicate hx]; exact ⟨s5, s4⟩) (by simp) hge hcm hcs.symm
    (fun ix x j cc v hx hj hv => by
      have hxl := lt_of_get hx
      rw [List.length_replicate] at hxl
      have hxe := List.eq_of_mem_replicate (List.mem_of_getElem? hx)
      subst hxe
      have hjl := lt_of_get hj
      have hlt : ix * ti.size + j < N * ti.size := by
        have : (ix + 1) * ti.size ≤ N * ti.size := Nat.mul_le_mul_right _ hxl
        rw [Nat.add_mul] at this
        omega
      rw [hcells, Array.getElem?_append_left (by rw [zeroCells_size', s1]; exact hlt)] at hv
      have hget : (Builtin.zeroCells z.cells N)[ix * ti.size + j]? = some z.cells[(ix * ti.size + j) % z.cells.size]! := by
        simp [Builtin.zeroCells, s1, hlt]
      rw [hget] at hv
      injection hv with hv
      have hmod : (ix * ti.size + j) % z.cells.size = j := by rw [s1, Nat.add_comm, Nat.add_mul_mod_self_right, Nat.mod_eq_of_lt (by omega)]
      rw [hmod] at hv
      refine (hzr.2 j cc v hj ?_).mono (Fr.of_heap rfl rfl rfl rfl)
      rw [← hv]
      have : j < z.cells.size := by omega
      simp [this])
  refine ⟨_, _, _, β', H', _, ?_, .inl rfl, k1, (show Fr w β H w.drew β H from Fr.of_heap rfl rfl rfl rfl).trans k2, k3, List.prefix_append _ _⟩
  rw [← hq, ← e2] at hrun
  simp [execOp, hop, resolve, invoke, builtin, hrun]

/-- An own slice, cut behind its first elements: of the next generation. -/
theorem goes_cut {t e : TypeId} {x hi : Operand} {kk : IntKind} {ti : TypeInfo} {kn g l sz h : Nat} {xs : List V} (n : Nat) (ho : lget ops.toList i = some o) (hg : o.guard = none) (hop : o.op = .slice t x none (some hi) none) (hx : opd E x = .osl (.loc kn) g 0 l) (hh : opd E hi = .int kk h) (ht : tyU c.P t = some (.slice e)) (hi' : tyI c.P e = some ti)
    (hk : lget T kn = some (some (.vec g sz xs))) (hle : h ≤ l)
    (hn : putE c.nt o.dst (.osl (.loc kn) (bump g) 0 h) E False fun E' => lset T kn (some (.vec (bump g) sz (xs.take h))) fun T' => evp c n (.inRegion ops rest :: k) E' T') : Goes c (.inRegion ops (i :: rest) :: k) E T := by
  simp only [lset_eq] at hn
  rw [lget_eq] at hk
  refine goes_opTo n ho hg hop (fun o hop w β H m a hs => ?_) (fun cl h => by cases h) hn
  have hv := opd_rep hs x
  obtain ⟨r, hr, hH⟩ := hs.at hk
  simp only [hx, V.conv, Ref.conv, hr] at hv
  simp only [HObj.conv] at hH
  have hob := hs.hrel.obj r _ hH
  have hrl := hs.lt hr
  have e2 := rep_int (m := m) (by have := opd_rep hs hi; rwa [hh] at this)
  have hvec2 : ∀ sz2 xs2, H[r]? = some (some (.vec g sz2 xs2)) → sz2 = sz ∧ xs2 = xs := fun sz2 xs2 h2 => by
    rw [hH] at h2
    injection h2 with h2
    injection h2 with h2
    injection h2 with _ e1 e2
    exact ⟨e1.symm, e2.symm⟩
  generalize hq : a.eval x = q at hv
  have hrun : ∀ (ad : Option Addr) (cap : Nat), q = .slice ad l cap → l ≤ cap → (execOp a.eval o).run c.P w = .ok (.value (.slice (if cap = 0 then ad else Option.map (fun x => x.add 0) ad) h cap)) w := by
    intro ad cap hqe hlc
    subst hqe
    have hhc : h ≤ cap := by omega
    simp [execOp, hop, hq, e2, Instr.sliceAt, Instr.slice, Instr.sliceBounds, Instr.sliceBound, asIntOf, run_underlying (tyU_sound ht), run_sizeOf' (tyI_sound hi'), hhc]
  cases hv with
  | oslNil _ _ sz2 xs2 ad hH' hβ =>
    rw [hβ] at hob
    have hxs : xs = [] := hob
    subst hxs
    obtain rfl : h = 0 := by omega
    have hfr : Fr w β H w (upd β r .nil) (H.set r (some (.vec (bump g) sz ([] : List V)))) := Fr.regen (lt_bump g) (by rw [hβ]; simp) hH rfl rfl rfl (Nat.le_refl _) (fun _ _ _ => rfl) (fun b N hb => by cases hb)
    have hrel : HRel w (upd β r .nil) (H.set r (some (.vec (bump g) sz ([] : List V)))) := hs.hrel.regen (lt_bump g) (by rw [hβ]; simp) hH rfl rfl rfl (Nat.le_refl _) (fun _ _ _ => rfl) (fun b N hb => by cases hb) rfl
    refine ⟨_, _, w, _, _, m, hrun ad 0 rfl (Nat.le_refl _), .inl rfl, by simpa using hs.regen hk hr hfr hrel, hfr, ?_, List.prefix_refl _⟩
    simp only [V.conv, Ref.conv, hr]
    exact .oslNil r _ sz [] _ (by simp [hrl]) (upd_same _ _ _)
  | oslBlk _ _ _ _ sz2 xs2 b N ad cap hH' hβ hl hN hcap ha hlen =>
    obtain ⟨rfl, rfl⟩ := hvec2 _ _ hH'
    rw [hβ] at hob
    obtain ⟨vs, et, _, h1, h2, h3, h4, h5, h6⟩ := hob
    have hl' : ∀ b' N', Loc.blk b N = Loc.blk b' N' → w.heap.size ≤ b' ∨ ∃ N2, β r = .blk b' N2 := fun b' N' hb' => by injection hb' with e1 e2; subst e1; exact .inr ⟨N, hβ⟩
    have hfr : Fr w β H w (upd β r (.blk b N)) (H.set r (some (.vec (bump g) sz2 (xs2.take h)))) := Fr.regen (lt_bump g) (by rw [hβ]; simp) hH rfl rfl rfl (Nat.le_refl _) (fun _ _ _ => rfl) hl'
    have hrel : HRel w (upd β r (.blk b N)) (H.set r (some (.vec (bump g) sz2 (xs2.take h)))) :=
      hs.hrel.regen (lt_bump g) (by rw [hβ]; simp) hH rfl rfl rfl (Nat.le_refl _) (fun _ _ _ => rfl) hl'
        ⟨vs, et, tyG_bump _ _, h1, h2, Nat.le_trans (Nat.mul_le_mul_right _ (by simp; omega)) h3, h4, fun x hx => h5 x (List.mem_of_mem_take hx), fun p x j c v hi hj hv => by
          rw [List.getElem?_take] at hi
          split at hi
          · exact (h6 p x j c v hi hj hv).mono hfr
          · cases hi⟩
    refine ⟨_, _, w, _, _, m, hrun ad cap rfl hl, .inl rfl, hs.regen hk hr hfr hrel, hfr, ?_, List.prefix_refl _⟩
    simp only [V.conv, Ref.conv, hr]
    exact .oslBlk r _ 0 _ sz2 (xs2.take h) b N _ _ (by simp [hrl]) (upd_same _ _ _) (by omega) hN hcap (fun hc => by
      rw [if_neg (by omega), ha hc]
      simp [at_add]) (by simp; omega)
  | oslStale _ _ _ _ g' sz' xs' _ hH' hg =>
    rw [hH] at hH'
    injection hH' with hH'
    injection hH' with hH'
    injection hH' with e0 _ _
    omega
  | oslDead _ _ _ _ _ hd => rw [hH] at hd; cases hd
end

/-- A nil slice, as own memory. -/
theorem goes_own {c : Cx} {todo : List Item} {E : Env} {T : Heap} (t sz : Nat) (hx : lk E t = .nilsl) (h : Goes c todo ((t, .osl (.loc T.length) 0 0 0) :: E) (T ++ [some (.vec 0 sz [])])) : Goes c todo E T := by
  refine goes_step fun w β H m a b cs hs _ _ _ => ?_
  obtain ⟨β', H', k1, k2, k3⟩ := hs.newNil 0 sz none
  have hr := hs.env t
  simp only [hx, V.conv] at hr
  generalize hq : a.tmps.getD t Go.undef = q at hr
  cases hr
  refine ⟨w, β', H', m ++ [H.length], a, todo, ⟨(t, .osl (.loc T.length) 0 0 0) :: E, T ++ [some (.vec 0 sz [])], c.B, c.D⟩, .refl _ _, ?_, k2, h⟩
  refine { k1 with env := fun j => ?_, scE := fun p hp => ?_ }
  · simp only [lk]
    cases hb : Nat.beq t j with
    | false => exact k1.env j
    | true =>
      obtain rfl := Nat.eq_of_beq_eq_true hb
      simp only [cond_true, hq]
      exact k3
  · simp only [List.mem_cons] at hp
    rcases hp with rfl | hp
    · show T.length < (T ++ _).length
      simp
    · exact k1.scE p hp
end Bow
/- TR1: trees, as values. -/
namespace Bow
open Go

inductive Tree where
  | mk (id : Int) (leaf : Bool) (label : List UInt8) (attrs : List (List UInt8 × List UInt8)) (text : List UInt8) (subs : List Tree)

namespace Tree
def id : Tree → Int | mk i _ _ _ _ _ => i
def leaf : Tree → Bool | mk _ l _ _ _ _ => l
def label : Tree → List UInt8 | mk _ _ l _ _ _ => l
def attrs : Tree → List (List UInt8 × List UInt8) | mk _ _ _ a _ _ => a
def text : Tree → List UInt8 | mk _ _ _ _ t _ => t
def subs : Tree → List Tree | mk _ _ _ _ _ s => s
end Tree

def attrV (a : List UInt8 × List UInt8) : V := .agg [.str a.1, .str a.2]
mutual
def Tree.subV : Tree → List V
  | .mk _ _ _ _ _ s => nodesV s
def nodesV : List Tree → List V
  | [] => []
  | s :: ss => .agg [.int .u64 s.id, .bool s.leaf, .str s.label, .sl 2 (s.attrs.map attrV), .str s.text, .sl 6 s.subV] :: nodesV ss
end
def nodeV (t : Tree) : V := .agg [.int .u64 t.id, .bool t.leaf, .str t.label, .sl 2 (t.attrs.map attrV), .str t.text, .sl 6 t.subV]
theorem nodesV_eq : ∀ ss : List Tree, nodesV ss = ss.map nodeV
  | [] => by rw [nodesV]; rfl
  | s :: ss => by rw [nodesV, nodesV_eq ss]; rfl
theorem subV_eq : ∀ t : Tree, t.subV = t.subs.map nodeV
  | .mk _ _ _ _ _ s => by rw [Tree.subV, nodesV_eq]; rfl

mutual
def Tree.size : Tree → Nat
  | .mk _ _ _ _ _ s => 1 + sizes s
def sizes : List Tree → Nat
  | [] => 0
  | s :: ss => s.size + sizes ss
end
theorem size_mem : ∀ {ss : List Tree} {s : Tree}, s ∈ ss → s.size ≤ sizes ss
  | x :: ss, s, h => by
    rw [sizes]
    rcases List.mem_cons.1 h with rfl | h
    · omega
    · have := size_mem h; omega
theorem Tree.size_sub {t s : Tree} (h : s ∈ t.subs) : s.size < t.size := by
  cases t with
  | mk i l a b c ss =>
    have := size_mem (ss := ss) h
    rw [Tree.size]
    omega
theorem Tree.ind {P : Tree → Prop} (h : ∀ t, (∀ s ∈ t.subs, P s) → P t) (t : Tree) : P t := by
  induction hn : t.size using Nat.strongRecOn generalizing t with
  | _ n ih =>
    subst hn
    exact h t fun s hs => ih s.size (Tree.size_sub hs) s rfl

theorem sizes_append : ∀ (a b : List Tree), sizes (a ++ b) = sizes a + sizes b
  | [], b => by rw [sizes]; simp
  | x :: a, b => by rw [List.cons_append, sizes, sizes, sizes_append a b]; omega
theorem size_eq (t : Tree) : t.size = 1 + sizes t.subs := by cases t; rw [Tree.size]; rfl
theorem size_pos (t : Tree) : 1 ≤ t.size := by rw [size_eq]; omega
theorem length_sizes : ∀ ss : List Tree, ss.length ≤ sizes ss
  | [] => by simp [sizes]
  | s :: ss => by rw [sizes]; have := length_sizes ss; have := size_pos s; simp; omega
end Bow
/- TR2: a tree's nodes in a row. -/
namespace Bow
open Go

mutual
/-- The nodes ahead of those below them, with how deep they are. -/
def Tree.pre (d : Int) : Tree → List (Int × Tree)
  | .mk i l a b c ss => (d, .mk i l a b c ss) :: pres (d + 1) ss
def pres (d : Int) : List Tree → List (Int × Tree)
  | [] => []
  | s :: ss => s.pre d ++ pres d ss
end
def preV (p : Int × Tree) : List V := [.int .i64 p.1, nodeV p.2]
theorem pre_eq (d : Int) (t : Tree) : t.pre d = (d, t) :: pres (d + 1) t.subs := by cases t; rw [Tree.pre]; rfl

theorem drop_cons {α : Type} {l : List α} {i : Nat} (h : i < l.length) : l.drop i = l[i] :: l.drop (i + 1) := by simp
theorem pureT (t : Tree) : (nodeV t).pureB = true := rfl
theorem preV_pure (p : Int × Tree) : V.pureL (preV p) = true := rfl
mutual
theorem pre_length : ∀ (t : Tree) (d : Int), (t.pre d).length = t.size
  | .mk i l a b c ss, d => by rw [Tree.pre, Tree.size, List.length_cons, pres_length ss]; omega
theorem pres_length : ∀ (ss : List Tree) (d : Int), (pres d ss).length = sizes ss
  | [], _ => by rw [pres, sizes]; rfl
  | s :: ss, d => by rw [pres, sizes, List.length_append, pre_length s, pres_length ss]
end
end Bow
/- W1: plain: nodes. -/
namespace Bow
open Go Go.Proofs

set_option maxRecDepth 100000 in
theorem w_walk (t : Tree) : ∀ (d : Int) (m : List Nat) (r kl : Nat) (T T' : Heap) (b : Bool), 0 ≤ d → d + t.size ≤ 1000000000 → Rounds Tryz.prog kl ((t.pre d).map preV) T T' b → m[kl]? = some r →
    FunB Tryz.prog 63 m T [nodeV t, .int .i64 d, .yld (.abs r)] (fun x T'' => x = (if b then .tt else .ff) ∧ T'' = T') := by
  induction t using Tree.ind with
  | _ t ih =>
    intro d m r kl T T' b hd0 hd hR hr
    refine funB_of_goes 100 Tryz.func63 rfl rfl rfl fun B hout => ?_
    show Goes _ _ _ _
    rw [pre_eq] at hR
    have hlp : ∃ ob, T[kl]? = some (some ob) ∧ isLoop ob := by cases hR <;> assumption
    obtain ⟨T1, b1, hy, hk⟩ : ∃ T1 b1, YieldOk Tryz.prog T kl (preV (d, t)) b1 T1 ∧ ((b1 = true ∧ Rounds Tryz.prog kl ((pres (d + 1) t.subs).map preV) T1 T' b) ∨ (b1 = false ∧ T' = T1 ∧ b = false)) := by
      cases hR with
      | go hl h k => exact ⟨_, _, h, .inl ⟨rfl, k⟩⟩
      | stop hl h => exact ⟨_, _, h, .inr ⟨rfl, rfl, rfl⟩⟩
    refine goes_yield 100 rfl rfl rfl rfl rfl hout hr hlp rfl hy ?_
    intro B' hout' hB'
    rcases hk with ⟨rfl, hk⟩ | ⟨rfl, rfl, rfl⟩
    · show Goes _ _ _ _
      refine goes_iterB (ι := Nat × Heap) (fun i B1 => i.1 ≤ t.subs.length ∧ Rounds Tryz.prog kl ((pres (d + 1) (t.subs.drop i.1)).map preV) i.2 T' b ∧ Out m i.2 B1 ∧ ∀ q, q ∉ m → B1 q = B q) (fun i => t.subs.length - i.1)
        (fun i => [(17, .int .i64 i.1), (16, .int .i64 t.subV.length), (15, .sl 6 t.subV), (1, .int .i64 d), (2, .yld (.abs r))]) (fun _ => []) (0, T1) 100 (fun _ => rfl) (fun _ => rfl) ⟨?_, ?_, ?_⟩ ?_
      · exact ⟨Nat.zero_le _, hk, hout', hB'⟩
      · exact ⟨⟨rfl, rfl⟩, ⟨rfl, rfl⟩, ⟨rfl, rfl⟩, ⟨rfl, rfl⟩, ⟨rfl, rfl⟩, trivial⟩
      · trivial
      · rintro ⟨i, Ti⟩ B1 ⟨h1, h2, h3, h4⟩ next
        refine ⟨fun hlt => go 200 ?_, fun hge => go 200 ?_⟩
        · have hi : i < t.subs.length := by simpa [subV_eq] using hlt
          have hpre : (pres (d + 1) (t.subs.drop i)).map preV = ((t.subs[i]).pre (d + 1)).map preV ++ (pres (d + 1) (t.subs.drop (i + 1))).map preV := by
            rw [drop_cons hi, pres, List.map_append]
          rw [hpre] at h2
          obtain ⟨T2, b2, k1, k2⟩ := h2.cut
          have hmem : t.subs[i] ∈ t.subs := List.getElem_mem hi
          have hsz := Tree.size_sub hmem
          refine ⟨Int.natCast_nonneg i, nodeV t.subs[i], by simp [subV_eq, hi], ?_⟩
          refine ⟨by constructor <;> omega, ?_⟩
          show CallThen _ _ _ _ _ _
          refine call_funB (ih _ hmem (d + 1) m r kl Ti T2 b2 (by omega) (by omega) k1 hr) rfl h3 rfl ?_
          rintro x T3 B3 ⟨rfl, rfl⟩ _ hout3 hB3
          rcases k2 with ⟨rfl, k2⟩ | ⟨rfl, rfl, rfl⟩
          · have := size_eq t
            have := length_sizes t.subs
            refine ⟨by constructor <;> omega, ?_⟩
            show Goes _ _ _ _
            refine next (i + 1, T3) B3 _ _ ⟨⟨?_, ?_, ?_, ?_⟩, ?_, ?_, ?_⟩
            · simp only; omega
            · exact k2
            · exact hout3
            · exact fun q hq => (hB3 q hq).trans (h4 q hq)
            · simp only; omega
            · exact ⟨⟨rfl, rfl⟩, ⟨rfl, rfl⟩, ⟨rfl, rfl⟩, ⟨rfl, rfl⟩, ⟨rfl, rfl⟩, trivial⟩
            · trivial
          · exact ⟨trivial, rfl, fun q hq => (hB3 q hq).trans (h4 q hq), _, hout3, rfl, rfl, rfl⟩
        · have hi : t.subs.length ≤ i := by simpa [subV_eq] using hge
          rw [List.drop_eq_nil_of_le hi] at h2
          cases h2
          exact ⟨trivial, rfl, h4, Ti, h3, rfl, rfl, rfl⟩
    · exact ⟨trivial, rfl, hB', _, hout', rfl, rfl, rfl⟩

theorem w_iter (t : Tree) (h : t.size ≤ 1000000000) : Iter Tryz.prog 62 [] [.iptr (nodeV t).cells 0] ((t.pre 0).map preV) := by
  intro m r kl T T' b hR hr
  refine funB_of_goes 100 Tryz.func62 rfl rfl rfl fun B hout => ?_
  show CallThen _ _ _ _ _ _
  refine call_funB (w_walk t 0 m r kl T T' b (by omega) (by omega) hR hr) rfl hout rfl ?_
  rintro x T3 B3 ⟨rfl, rfl⟩ _ hout3 hB3
  exact ⟨trivial, rfl, hB3, _, hout3, rfl, rfl⟩

theorem w_nodes (t : Tree) : Pure Tryz.prog 42 [nodeV t] (fun x => x = .fn (.func 62) [] [.iptr (nodeV t).cells 0]) := by
  refine pure_fn_frz [0] 100 Tryz.func42 rfl rfl rfl fun B => ?_
  exact ⟨trivial, rfl, rfl, rfl, rfl, rfl⟩

theorem foldl_count {α : Type} : ∀ (l : List α) (n : Nat), l.foldl (fun c _ => c + 1) n = n + l.length
  | [], n => by simp
  | a :: l, n => by rw [List.foldl_cons, foldl_count l]; simp; omega

set_option maxRecDepth 100000 in
theorem w_Count (t : Tree) (h : t.size ≤ 1000000000) : Pure Tryz.prog 26 [nodeV t] (fun x => x = .int .i64 (t.pre 0).length) := by
  refine pure_fn 100 Tryz.func26 rfl rfl rfl fun B => ?_
  show CallThen _ _ _ _ _ _
  refine call_pure (w_nodes t) rfl ?_
  rintro x rfl
  show Goes _ _ _ _
  refine goes_range_all (σ := Nat) 100 2 (fun c => [some (.box (nodeV t).cells), some (.box [.int .i64 c])]) (fun c _ => c + 1) preV (fun c l => c + l.length ≤ 1000000000) 0 (t.pre 0) rfl rfl rfl (w_iter t h) rfl (fun _ => rfl) (fun _ => rfl) (fun _ => rfl) rfl (fun _ => rfl) (fun _ _ h => by cases h) ?_ ?_ ?_
  · have := pre_length t 0
    omega
  · intro s a l hI
    simp only [List.length_cons] at hI
    refine ⟨by omega, fun imps B r l h1 h2 => ?_⟩
    show Goes _ _ _ _
    refine goes_beginRound 100 rfl h2 rfl ?_
    refine ⟨by constructor <;> omega, rfl, rfl, trivial, ?_⟩
    exact ⟨⟨rfl, rfl⟩, ⟨rfl, rfl⟩, ⟨rfl, rfl⟩, ⟨rfl, rfl⟩, trivial⟩
  · intro s hs
    refine ⟨trivial, rfl, rfl, rfl, ?_⟩
    rw [hs, foldl_count]
    simp
    rfl
end Bow
/- SP1: trees, in plain Lean: weight, depth, the most text of a node. -/
namespace Bow
open Go

def attrLen (asg : List (List UInt8 × List UInt8)) : Nat := asg.foldr (fun a n => a.1.length + a.2.length + n) 0
mutual
def Tree.weight : Tree → Nat
  | .mk _ _ l asg t ss => 1 + l.length + t.length + (asg.length + attrLen asg) + weights ss
def weights : List Tree → Nat
  | [] => 0
  | s :: ss => s.weight + weights ss
end
mutual
def Tree.depth : Tree → Nat
  | .mk _ _ _ _ _ ss => depths ss
def depths : List Tree → Nat
  | [] => 0
  | s :: ss => max (1 + s.depth) (depths ss)
end
def Tree.len (t : Tree) : Nat := t.text.length + attrLen t.attrs
mutual
def Tree.long : Tree → Nat
  | .mk i l a b c ss => max ((Tree.mk i l a b c ss).len) (longs ss)
def longs : List Tree → Nat
  | [] => 0
  | s :: ss => max s.long (longs ss)
end
theorem weight_eq (t : Tree) : t.weight = 1 + t.label.length + t.text.length + (t.attrs.length + attrLen t.attrs) + weights t.subs := by cases t; rw [Tree.weight]; rfl
theorem depth_eq (t : Tree) : t.depth = depths t.subs := by cases t; rw [Tree.depth]; rfl
theorem long_eq (t : Tree) : t.long = max t.len (longs t.subs) := by cases t; rw [Tree.long]; rfl
theorem weights_cons (s : Tree) (ss : List Tree) : weights (s :: ss) = s.weight + weights ss := by rw [weights]
theorem weight_mem : ∀ {ss : List Tree} {s : Tree}, s ∈ ss → s.weight ≤ weights ss
  | x :: ss, s, h => by
    rw [weights]
    rcases List.mem_cons.1 h with rfl | h
    · omega
    · have := weight_mem h; omega
theorem weight_sub {t s : Tree} (h : s ∈ t.subs) : s.weight < t.weight := by
  have := weight_mem h
  have := weight_eq t
  omega
mutual
theorem size_le_weight : ∀ t : Tree, t.size ≤ t.weight
  | .mk i l a b c ss => by
    have := sizes_le_weights ss
    rw [Tree.size, Tree.weight]
    omega
theorem sizes_le_weights : ∀ ss : List Tree, sizes ss ≤ weights ss
  | [] => by rw [sizes]; omega
  | s :: ss => by
    have := size_le_weight s
    have := sizes_le_weights ss
    rw [sizes, weights]
    omega
end
mutual
theorem depth_le_weight : ∀ t : Tree, t.depth < t.weight
  | .mk i l a b c ss => by
    have := depths_le_weights ss
    rw [Tree.depth, Tree.weight]
    omega
theorem depths_le_weights : ∀ ss : List Tree, depths ss ≤ weights ss
  | [] => by rw [depths]; omega
  | s :: ss => by
    have := depth_le_weight s
    have := depths_le_weights ss
    rw [depths, weights]
    omega
end
theorem len_le_weight (t : Tree) : t.len < t.weight := by rw [weight_eq]; unfold Tree.len; omega
mutual
theorem long_le_weight : ∀ t : Tree, t.long < t.weight
  | .mk i l a b c ss => by
    have := longs_le_weights ss
    have := len_le_weight (.mk i l a b c ss)
    rw [Tree.long]
    rw [Tree.weight] at *
    omega
theorem longs_le_weights : ∀ ss : List Tree, longs ss ≤ weights ss
  | [] => by rw [longs]; omega
  | s :: ss => by
    have := long_le_weight s
    have := longs_le_weights ss
    rw [longs, weights]
    omega
end
theorem attrLen_cons (a : List UInt8 × List UInt8) (asg : List (List UInt8 × List UInt8)) : attrLen (a :: asg) = a.1.length + a.2.length + attrLen asg := rfl

/-! ### The same by the nodes in a row -/
theorem foldl_max_init {α : Type} (f : α → Nat) : ∀ (l : List α) (n m : Nat), l.foldl (fun d a => max d (f a)) (max n m) = max n (l.foldl (fun d a => max d (f a)) m)
  | [], n, m => rfl
  | a :: l, n, m => by
    rw [List.foldl_cons, List.foldl_cons, ← foldl_max_init f l n]
    congr 1
    omega
theorem foldl_max_eq {α : Type} (f : α → Nat) (l : List α) (n : Nat) : l.foldl (fun d a => max d (f a)) n = max n (l.foldl (fun d a => max d (f a)) 0) := by
  have := foldl_max_init f l n 0
  rwa [Nat.max_zero] at this
mutual
theorem pre_depth : ∀ (t : Tree) (d : Nat), (t.pre d).foldl (fun m p => max m p.1.toNat) 0 = d + t.depth
  | .mk i l a b c ss, d => by
    rw [Tree.pre, List.foldl_cons, foldl_max_eq (fun p : Int × Tree => p.1.toNat)]
    have := pres_depth ss (d + 1)
    rw [show ((d : Int) + 1) = ((d + 1 : Nat) : Int) by omega, this, Tree.depth]
    cases ss with
    | nil => simp [depths]
    | cons s ss => rw [depths]; simp
theorem pres_depth : ∀ (ss : List Tree) (d : Nat), (pres d ss).foldl (fun m p => max m p.1.toNat) 0 = match ss with | [] => 0 | _ :: _ => d + depths ss - 1
  | [], d => by rw [pres]; rfl
  | s :: ss, d => by
    rw [pres, List.foldl_append, pre_depth s, foldl_max_eq (fun p : Int × Tree => p.1.toNat), pres_depth ss, depths]
    cases ss with
    | nil => simp [depths]; omega
    | cons s' ss =>
      simp only
      have : depths (s' :: ss) = max (1 + s'.depth) (depths ss) := by rw [depths]
      omega
end
mutual
theorem pre_long : ∀ (t : Tree) (d : Int), (t.pre d).foldl (fun m p => max m p.2.len) 0 = t.long
  | .mk i l a b c ss, d => by
    rw [Tree.pre, List.foldl_cons, foldl_max_eq (fun p : Int × Tree => p.2.len), pres_long ss, Tree.long]
    simp
theorem pres_long : ∀ (ss : List Tree) (d : Int), (pres d ss).foldl (fun m p => max m p.2.len) 0 = longs ss
  | [], d => by rw [pres, longs]; rfl
  | s :: ss, d => by
    rw [pres, List.foldl_append, pre_long s, foldl_max_eq (fun p : Int × Tree => p.2.len), pres_long ss, longs]
end
/-- Of a tree's nodes. -/
theorem pre_mem_weight : ∀ (t : Tree) (d : Int) (p : Int × Tree), p ∈ t.pre d → p.2.weight ≤ t.weight ∧ d ≤ p.1 ∧ p.1 + 1 ≤ d + t.weight := by
  intro t
  induction t using Tree.ind with
  | _ t ih =>
    intro d p hp
    rw [pre_eq] at hp
    have hw := weight_eq t
    rcases List.mem_cons.1 hp with rfl | hp
    · exact ⟨Nat.le_refl _, Int.le_refl _, by simp only; omega⟩
    · have key : ∀ ss : List Tree, (∀ s ∈ ss, s ∈ t.subs) → p ∈ pres (d + 1) ss → ∃ s ∈ t.subs, p ∈ s.pre (d + 1) := by
        intro ss
        induction ss with
        | nil => intro _ h; rw [pres] at h; cases h
        | cons s ss ih2 =>
          intro hs h
          rw [pres] at h
          rcases List.mem_append.1 h with h | h
          · exact ⟨s, hs s List.mem_cons_self, h⟩
          · exact ih2 (fun s h => hs s (List.mem_cons_of_mem _ h)) h
      obtain ⟨s, hs, h⟩ := key t.subs (fun _ h => h) hp
      obtain ⟨h1, h2, h3⟩ := ih s hs (d + 1) p h
      have := weight_sub hs
      omega
end Bow
/- W2: trees measured. -/
namespace Bow
open Go Go.Proofs

set_option maxRecDepth 100000 in
theorem w_Depth (t : Tree) (h : t.weight ≤ 1000000) : Pure Tryz.prog 27 [nodeV t] (fun x => x = .int .i64 t.depth) := by
  have hs := size_le_weight t
  refine pure_fn 100 Tryz.func27 rfl rfl rfl fun B => ?_
  show CallThen _ _ _ _ _ _
  refine call_pure (w_nodes t) rfl ?_
  rintro x rfl
  show Goes _ _ _ _
  refine goes_range_all (σ := Nat) 100 2 (fun c => [some (.box (nodeV t).cells), some (.box [.int .i64 c])]) (fun c p => max c p.1.toNat) preV (fun c l => ∀ p ∈ l, 0 ≤ p.1) 0 (t.pre 0) rfl rfl rfl (w_iter t (by omega)) rfl (fun _ => rfl) (fun _ => rfl) (fun _ => rfl) rfl (fun _ => rfl) (fun _ _ h => by cases h) ?_ ?_ ?_
  · exact fun p hp => (pre_mem_weight t 0 p hp).2.1
  · intro s a l hI
    refine ⟨fun p hp => hI p (List.mem_cons_of_mem _ hp), fun imps B r l h1 h2 => ?_⟩
    have h0 := hI a List.mem_cons_self
    show Goes _ _ _ _
    refine goes_beginRound 100 rfl h2 rfl ?_
    refine ⟨rfl, rfl, trivial, ?_⟩
    have e : (if a.1 > (s : Int) then a.1 else (s : Int)) = ((max s a.1.toNat : Nat) : Int) := by split <;> omega
    refine ⟨⟨rfl, rfl⟩, ⟨?_, rfl⟩, ⟨rfl, rfl⟩, ⟨rfl, rfl⟩, trivial⟩
    rw [← e]
  · intro s hs
    refine ⟨trivial, rfl, rfl, rfl, ?_⟩
    have := pre_depth t 0
    simp only [Int.ofNat_zero, Nat.zero_add] at this
    rw [hs, ← this]
    rfl

/-- The text of a node: its attributes' part is summed up round by round. -/
theorem attrLen_drop {l : List (List UInt8 × List UInt8)} {i : Nat} (h : i < l.length) : attrLen (l.drop i) = l[i].1.length + l[i].2.length + attrLen (l.drop (i + 1)) := by rw [drop_cons h, attrLen_cons]

set_option maxRecDepth 100000 in
theorem w_refCount (t : Tree) : t.weight ≤ 1000000 → Pure Tryz.prog 15 [nodeV t] (fun x => x = .int .i64 t.size) := by
  induction t using Tree.ind with
  | _ t ih =>
    intro h
    have hw := weight_eq t
    refine pure_fn 100 Tryz.func15 rfl rfl rfl fun B => ?_
    show Goes _ _ _ _
    refine goes_iter (ι := Nat × Nat) (fun i => i.1 ≤ t.subs.length ∧ i.2 + sizes (t.subs.drop i.1) = t.size) (fun i => t.subs.length - i.1) (fun i => [(4, .int .i64 i.1), (3, .int .i64 i.2), (1, .ptr (.loc 0) 0)]) (fun i => [some (.box (nodeV t).cells)]) (0, 1) 200 (fun _ => rfl) (fun _ => rfl) ⟨?_, ?_, ?_⟩ ?_
    · exact ⟨Nat.zero_le _, (size_eq t).symm⟩
    · exact ⟨⟨rfl, rfl⟩, ⟨rfl, rfl⟩, ⟨rfl, rfl⟩, trivial⟩
    · exact ⟨⟨rfl, rfl⟩, trivial⟩
    · rintro ⟨i, acc⟩ ⟨h1, h2⟩ next
      refine ⟨fun hlt => go 200 ?_, fun hge => go 200 ?_⟩
      · have hi : i < t.subs.length := by simpa [subV_eq] using hlt
        have hmem : t.subs[i] ∈ t.subs := List.getElem_mem hi
        have hws := weight_sub hmem
        have hsz := size_le_weight t.subs[i]
        have hst := size_le_weight t
        simp only [drop_cons hi, sizes] at h2
        refine ⟨Int.natCast_nonneg i, nodeV t.subs[i], by simp [subV_eq, hi], ?_⟩
        show CallThen _ _ _ _ _ _
        refine call_pure (ih _ hmem (by omega)) rfl ?_
        rintro x rfl
        refine ⟨by constructor <;> omega, ?_⟩
        have := length_sizes t.subs
        have := sizes_le_weights t.subs
        refine ⟨by constructor <;> omega, ?_⟩
        show Goes _ _ _ _
        refine next (i + 1, acc + (t.subs[i]).size) _ _ ⟨⟨hi, by simp only; omega⟩, ?_, ?_, ?_⟩
        · simp only; omega
        · exact ⟨⟨rfl, rfl⟩, ⟨rfl, rfl⟩, ⟨rfl, rfl⟩, trivial⟩
        · exact ⟨⟨rfl, rfl⟩, trivial⟩
      · have hi : t.subs.length ≤ i := by simpa [subV_eq] using hge
        simp only [List.drop_eq_nil_of_le hi, sizes, Nat.add_zero] at h2
        exact ⟨trivial, rfl, rfl, rfl, by rw [← h2]; rfl⟩
end Bow
/- W3: trees measured, more. -/
namespace Bow
open Go Go.Proofs

set_option maxRecDepth 100000 in
theorem w_refDepth (t : Tree) : t.weight ≤ 1000000 → Pure Tryz.prog 16 [nodeV t] (fun x => x = .int .i64 t.depth) := by
  induction t using Tree.ind with
  | _ t ih =>
    intro h
    have hw := weight_eq t
    refine pure_fn 100 Tryz.func16 rfl rfl rfl fun B => ?_
    show Goes _ _ _ _
    refine goes_iter (ι := Nat × Nat) (fun i => i.1 ≤ t.subs.length ∧ max i.2 (depths (t.subs.drop i.1)) = t.depth) (fun i => t.subs.length - i.1) (fun i => [(4, .int .i64 i.1), (3, .int .i64 i.2), (1, .ptr (.loc 0) 0)]) (fun i => [some (.box (nodeV t).cells)]) (0, 0) 200 (fun _ => rfl) (fun _ => rfl) ⟨?_, ?_, ?_⟩ ?_
    · exact ⟨Nat.zero_le _, by rw [depth_eq t]; simp⟩
    · exact ⟨⟨rfl, rfl⟩, ⟨rfl, rfl⟩, ⟨rfl, rfl⟩, trivial⟩
    · exact ⟨⟨rfl, rfl⟩, trivial⟩
    · rintro ⟨i, acc⟩ ⟨h1, h2⟩ next
      refine ⟨fun hlt => go 200 ?_, fun hge => go 200 ?_⟩
      · have hi : i < t.subs.length := by simpa [subV_eq] using hlt
        have hmem : t.subs[i] ∈ t.subs := List.getElem_mem hi
        have hws := weight_sub hmem
        have hsz := depth_le_weight t.subs[i]
        have hst := size_le_weight t
        simp only [drop_cons hi, depths] at h2
        refine ⟨Int.natCast_nonneg i, nodeV t.subs[i], by simp [subV_eq, hi], ?_⟩
        show CallThen _ _ _ _ _ _
        refine call_pure (ih _ hmem (by omega)) rfl ?_
        rintro x rfl
        refine ⟨by constructor <;> omega, ?_⟩
        have := length_sizes t.subs
        have := sizes_le_weights t.subs
        refine ⟨by constructor <;> omega, ?_⟩
        show Goes _ _ _ _
        have e : (if (1 : Int) + ((t.subs[i]).depth : Int) > (acc : Int) then (1 : Int) + ((t.subs[i]).depth : Int) else (acc : Int)) = ((max acc (1 + (t.subs[i]).depth) : Nat) : Int) := by split <;> omega
        refine next (i + 1, max acc (1 + (t.subs[i]).depth)) _ _ ⟨⟨hi, by simp only; omega⟩, ?_, ?_, ?_⟩
        · simp only; omega
        · exact ⟨⟨rfl, rfl⟩, ⟨by rw [← e]; rfl, rfl⟩, ⟨rfl, rfl⟩, trivial⟩
        · exact ⟨⟨rfl, rfl⟩, trivial⟩
      · have hi : t.subs.length ≤ i := by simpa [subV_eq] using hge
        simp only [List.drop_eq_nil_of_le hi, depths, Nat.max_zero] at h2
        exact ⟨trivial, rfl, rfl, rfl, by rw [← h2]; rfl⟩

set_option maxRecDepth 100000 in
theorem w_refLong (t : Tree) : t.weight ≤ 1000000 → Pure Tryz.prog 29 [nodeV t] (fun x => x = .int .i64 t.long) := by
  induction t using Tree.ind with
  | _ t ih =>
    intro h
    have hw := weight_eq t
    refine pure_fn 100 Tryz.func29 rfl rfl rfl fun B => ?_
    show Goes _ _ _ _
    refine goes_iter (ι := Nat × Nat) (fun i => i.1 ≤ t.attrs.length ∧ i.2 + attrLen (t.attrs.drop i.1) = t.len) (fun i => t.attrs.length - i.1) (fun i => [(4, .int .i64 i.1), (3, .int .i64 i.2), (1, .ptr (.loc 0) 0)]) (fun i => [some (.box (nodeV t).cells)]) (0, t.text.length) 200 (fun _ => rfl) (fun _ => rfl) ⟨?_, ?_, ?_⟩ ?_
    · exact ⟨Nat.zero_le _, rfl⟩
    · exact ⟨⟨rfl, rfl⟩, ⟨rfl, rfl⟩, ⟨rfl, rfl⟩, trivial⟩
    · exact ⟨⟨rfl, rfl⟩, trivial⟩
    · rintro ⟨i, acc⟩ ⟨h1, h2⟩ next
      have hlen := len_le_weight t
      refine ⟨fun hlt => go 200 ?_, fun hge => go 200 ?_⟩
      · have hi : i < t.attrs.length := by simpa using hlt
        simp only [attrLen_drop hi] at h2
        show Goes _ _ _ _
        refine goes_draw 300 ?_
        have hix : (t.attrs.map attrV)[i]? = some (attrV t.attrs[i]) := by simp [hi]
        refine ⟨Int.natCast_nonneg i, attrV t.attrs[i], hix, ?_⟩
        refine ⟨by constructor <;> omega, ?_⟩
        refine ⟨Int.natCast_nonneg i, attrV t.attrs[i], hix, ?_⟩
        refine ⟨by constructor <;> omega, ?_⟩
        refine ⟨by kernel_rfl, ?_⟩
        refine ⟨by constructor <;> omega, ?_⟩
        show Goes _ _ _ _
        refine next (i + 1, acc + t.attrs[i].1.length + t.attrs[i].2.length) _ _ ⟨⟨hi, by simp only; omega⟩, ?_, ?_, ?_⟩
        · simp only; omega
        · exact ⟨⟨rfl, rfl⟩, ⟨rfl, rfl⟩, ⟨rfl, rfl⟩, trivial⟩
        · exact ⟨⟨rfl, rfl⟩, trivial⟩
      · have hi : t.attrs.length ≤ i := by simpa using hge
        simp only [List.drop_eq_nil_of_le hi, attrLen, List.foldr_nil, Nat.add_zero] at h2
        show Goes _ _ _ _
        refine goes_iter (ι := Nat × Nat) (fun i => i.1 ≤ t.subs.length ∧ max i.2 (longs (t.subs.drop i.1)) = t.long) (fun i => t.subs.length - i.1) (fun i => [(5, .int .i64 i.1), (3, .int .i64 i.2), (1, .ptr (.loc 0) 0)]) (fun i => [some (.box (nodeV t).cells)]) (0, t.len) 200 (fun _ => rfl) (fun _ => rfl) ⟨?_, ?_, ?_⟩ ?_
        · exact ⟨Nat.zero_le _, by rw [long_eq t]; simp⟩
        · exact ⟨⟨rfl, rfl⟩, ⟨by rw [← h2]; rfl, rfl⟩, ⟨rfl, rfl⟩, trivial⟩
        · exact ⟨⟨rfl, rfl⟩, trivial⟩
        · rintro ⟨i, acc⟩ ⟨h1, h2⟩ next
          refine ⟨fun hlt => go 200 ?_, fun hge => go 200 ?_⟩
          · have hi : i < t.subs.length := by simpa [subV_eq] using hlt
            have hmem : t.subs[i] ∈ t.subs := List.getElem_mem hi
            have hws := weight_sub hmem
            have hst := size_le_weight t
            simp only [drop_cons hi, longs] at h2
            refine ⟨Int.natCast_nonneg i, nodeV t.subs[i], by simp [subV_eq, hi], ?_⟩
            show CallThen _ _ _ _ _ _
            refine call_pure (ih _ hmem (by omega)) rfl ?_
            rintro x rfl
            have := length_sizes t.subs
            have := sizes_le_weights t.subs
            refine ⟨by constructor <;> omega, ?_⟩
            show Goes _ _ _ _
            have e : (if ((t.subs[i]).long : Int) > (acc : Int) then ((t.subs[i]).long : Int) else (acc : Int)) = ((max acc (t.subs[i]).long : Nat) : Int) := by split <;> omega
            refine next (i + 1, max acc (t.subs[i]).long) _ _ ⟨⟨hi, by simp only; omega⟩, ?_, ?_, ?_⟩
            · simp only; omega
            · exact ⟨⟨rfl, rfl⟩, ⟨by rw [← e]; rfl, rfl⟩, ⟨rfl, rfl⟩, trivial⟩
            · exact ⟨⟨rfl, rfl⟩, trivial⟩
          · have hi : t.subs.length ≤ i := by simpa [subV_eq] using hge
            simp only [List.drop_eq_nil_of_le hi, longs, Nat.max_zero] at h2
            exact ⟨trivial, rfl, rfl, rfl, by rw [← h2]; rfl⟩

set_option maxRecDepth 100000 in
theorem w_Long (t : Tree) (h : t.weight ≤ 1000000) : Pure Tryz.prog 28 [nodeV t] (fun x => x = .int .i64 t.long) := by
  have hs := size_le_weight t
  refine pure_fn 100 Tryz.func28 rfl rfl rfl fun B => ?_
  show CallThen _ _ _ _ _ _
  refine call_pure (w_nodes t) rfl ?_
  rintro x rfl
  show Goes _ _ _ _
  refine goes_range_all (σ := Nat) 100 2 (fun c => [some (.box (nodeV t).cells), some (.box [.int .i64 c])]) (fun c p => max c p.2.len) preV (fun c l => ∀ p ∈ l, p.2.weight ≤ 1000000) 0 (t.pre 0) rfl rfl rfl (w_iter t (by omega)) rfl (fun _ => rfl) (fun _ => rfl) (fun _ => rfl) rfl (fun _ => rfl) (fun _ _ h => by cases h) ?_ ?_ ?_
  · exact fun p hp => Nat.le_trans (pre_mem_weight t 0 p hp).1 h
  · intro s a l hI
    refine ⟨fun p hp => hI p (List.mem_cons_of_mem _ hp), fun imps B r l h1 h2 => ?_⟩
    obtain ⟨d, x⟩ := a
    have h0 : x.weight ≤ 1000000 := hI _ List.mem_cons_self
    have hw := weight_eq x
    have hlen := len_le_weight x
    show Goes _ _ _ _
    refine goes_beginRound 100 rfl h2 rfl ?_
    show Goes _ _ _ _
    refine goes_iterT (ι := Nat × Nat) (fun i => i.1 ≤ x.attrs.length ∧ i.2 + attrLen (x.attrs.drop i.1) = x.len) (fun i => x.attrs.length - i.1) (fun i => [(19, .int .i64 i.1), (18, .int .i64 (x.attrs.map attrV).length), (17, .sl 2 (x.attrs.map attrV)), (6, .int .i64 i.2), (3, .ptr (.loc 1) 0)]) (0, x.text.length) 200 rfl rfl (by show Nat.ble imps.length 5 = true; rw [h1]; rfl) ⟨⟨Nat.zero_le _, rfl⟩, ?_⟩ ?_
    · exact ⟨⟨rfl, rfl⟩, ⟨rfl, rfl⟩, ⟨rfl, rfl⟩, ⟨rfl, rfl⟩, ⟨rfl, rfl⟩, trivial⟩
    · rintro ⟨i, acc⟩ ⟨k1, k2⟩ next
      refine ⟨fun hlt => go 200 ?_, fun hge => go 200 ?_⟩
      · have hi : i < x.attrs.length := by simpa using hlt
        simp only [attrLen_drop hi] at k2
        refine ⟨Int.natCast_nonneg i, attrV x.attrs[i], by simp [hi], ?_⟩
        refine ⟨by constructor <;> omega, by constructor <;> omega, by constructor <;> omega, ?_⟩
        show Goes _ _ _ _
        refine next (i + 1, acc + (x.attrs[i].1.length + x.attrs[i].2.length)) _ _ ⟨⟨hi, by simp only; omega⟩, ?_, ?_, ?_⟩
        · simp only; omega
        · exact ⟨⟨rfl, rfl⟩, ⟨rfl, rfl⟩, ⟨rfl, rfl⟩, ⟨rfl, rfl⟩, ⟨rfl, rfl⟩, trivial⟩
        · exact ⟨⟨rfl, rfl⟩, ⟨rfl, rfl⟩, ⟨rfl, rfl⟩, ⟨rfl, rfl⟩, ⟨rfl, rfl⟩, trivial⟩
      · have hi : x.attrs.length ≤ i := by simpa using hge
        simp only [List.drop_eq_nil_of_le hi, attrLen, List.foldr_nil, Nat.add_zero] at k2
        refine ⟨rfl, rfl, trivial, ?_⟩
        have e : (if (acc : Int) > (s : Int) then (acc : Int) else (s : Int)) = ((max s x.len : Nat) : Int) := by split <;> omega
        refine ⟨⟨rfl, rfl⟩, ⟨?_, rfl⟩, ⟨rfl, rfl⟩, ⟨rfl, rfl⟩, trivial⟩
        simp only
        rw [← e]
  · intro s hs
    refine ⟨trivial, rfl, rfl, rfl, ?_⟩
    have := pre_long t 0
    rw [hs, ← this]
    rfl
end Bow
/- W4: Weight. -/
namespace Bow
open Go Go.Proofs

theorem not_lt_of {a b : Int} (h : decide (a < b) = false) : b ≤ a := by simpa using h
theorem lt_of {a b : Int} (h : decide (a < b) = true) : a < b := by simpa using h
theorem le_of {a b : Int} (h : decide (a ≤ b) = true) : a ≤ b := by simpa using h
theorem not_le_of {a b : Int} (h : decide (a ≤ b) = false) : b < a := by simpa using h
theorem eq_of {a b : Int} (h : decide (a = b) = true) : a = b := by simpa using h
theorem ne_of {a b : Int} (h : decide (a = b) = false) : a ≠ b := by simpa using h
theorem ne_of' {a b : Int} (h : (!decide (a = b)) = true) : a ≠ b := by simpa using h
theorem eq_of' {a b : Int} (h : (!decide (a = b)) = false) : a = b := by simpa using h

set_option maxRecDepth 100000 in
theorem w_Weight (t : Tree) : ∀ top : Nat, top ≤ 1000000 → Pure Tryz.prog 13 [nodeV t, .int .i64 top] (fun x => ∃ w : Nat, x = .int .i64 w ∧ 1 ≤ w ∧ w ≤ 4 * top + 4 ∧ (w ≤ top → t.weight ≤ w)) := by
  induction t using Tree.ind with
  | _ t ih =>
    intro top htop
    have hw := weight_eq t
    refine pure_fn 200 Tryz.func13 rfl rfl rfl fun B => ?_
    have early : ∃ w : Nat, V.int .i64 ((top : Int) + 1) = .int .i64 w ∧ 1 ≤ w ∧ w ≤ 4 * top + 4 ∧ (w ≤ top → t.weight ≤ w) := ⟨top + 1, rfl, by omega, by omega, fun h => by omega⟩
    have hin : inI ((top : Int) + 1) := by constructor <;> omega
    refine ⟨fun g1 => go 200 ?_, fun g1 => go 200 ?_⟩
    · exact ⟨hin, trivial, rfl, rfl, rfl, early⟩
    refine ⟨fun g2 => go 200 ?_, fun g2 => go 200 ?_⟩
    · exact ⟨hin, trivial, rfl, rfl, rfl, early⟩
    refine ⟨fun g3 => go 200 ?_, fun g3 => go 200 ?_⟩
    · exact ⟨hin, trivial, rfl, rfl, rfl, early⟩
    have g1 := not_lt_of g1
    have g2 := not_lt_of g2
    have g3 := not_lt_of g3
    simp only [List.length_map] at g3
    refine ⟨by constructor <;> omega, by constructor <;> omega, ?_⟩
    show Goes _ _ _ _
    refine goes_while (ι := Nat × Nat) (fun i => i.1 ≤ t.attrs.length ∧ 1 ≤ i.2 ∧ i.2 ≤ 3 * top + 1 ∧ (i.2 ≤ top → 1 + t.label.length + t.text.length + (t.attrs.length + attrLen t.attrs) ≤ i.2 + (t.attrs.length - i.1) + attrLen (t.attrs.drop i.1))) (fun i => t.attrs.length - i.1)
      (fun i => [(6, .int .i64 i.1), (5, .int .i64 i.2), (1, .int .i64 top), (2, .ptr (.loc 0) 0)]) (fun i => [some (.box (nodeV t).cells)]) (0, 1 + t.label.length + t.text.length)
      (fun w : Nat => 1 ≤ w ∧ w ≤ 3 * top + 1 ∧ (w ≤ top → 1 + t.label.length + t.text.length + (t.attrs.length + attrLen t.attrs) ≤ w)) (fun w => [(5, .int .i64 w), (1, .int .i64 top), (2, .ptr (.loc 0) 0)]) (fun _ => [some (.box (nodeV t).cells)])
      200 (fun _ => rfl) (fun _ => rfl) (fun _ => rfl) (fun _ => rfl) ⟨?_, ?_, ?_⟩ ?_ ?_
    · exact ⟨Nat.zero_le _, by simp only; omega, by simp only; omega, fun _ => by simp only [List.drop_zero]; omega⟩
    · exact ⟨⟨rfl, rfl⟩, ⟨by simp only [lk]; rfl, rfl⟩, ⟨rfl, rfl⟩, ⟨rfl, rfl⟩, trivial⟩
    · exact ⟨⟨rfl, rfl⟩, trivial⟩
    · -- the nodes below
      rintro w0 ⟨q1, q2, q3⟩
      show Goes _ _ _ _
      refine goes_iter (ι := Nat × Nat) (fun i => i.1 ≤ t.subs.length ∧ i.1 + 1 ≤ i.2 ∧ i.2 ≤ 4 * top + 4 ∧ (i.2 ≤ top → t.weight ≤ i.2 + weights (t.subs.drop i.1))) (fun i => t.subs.length - i.1)
        (fun i => [(7, .int .i64 i.1), (5, .int .i64 i.2), (1, .int .i64 top), (2, .ptr (.loc 0) 0)]) (fun i => [some (.box (nodeV t).cells)]) (0, w0) 200 (fun _ => rfl) (fun _ => rfl) ⟨?_, ?_, ?_⟩ ?_
      · exact ⟨Nat.zero_le _, by simpa using q1, by simp only; omega, fun h => by simp only [List.drop_zero]; simp only at h; have := q3 h; omega⟩
      · exact ⟨⟨rfl, rfl⟩, ⟨rfl, rfl⟩, ⟨rfl, rfl⟩, ⟨rfl, rfl⟩, trivial⟩
      · exact ⟨⟨rfl, rfl⟩, trivial⟩
      · rintro ⟨i, w⟩ ⟨k1, k2, k3, k4⟩ next
        simp only at k1 k2 k3 k4
        refine ⟨fun hlt => go 200 ?_, fun hge => go 200 ?_⟩
        · have hi : i < t.subs.length := by simpa [subV_eq] using hlt
          have hmem : t.subs[i] ∈ t.subs := List.getElem_mem hi
          have hx : t.subV[i]? = some (nodeV t.subs[i]) := by simp [subV_eq, hi]
          refine ⟨fun h5 => go 200 ?_, fun h5 => go 200 ?_⟩
          · have h5 : (w : Int) ≤ top := le_of h5
            have h5' : w ≤ top := by omega
            rw [drop_cons hi, weights_cons] at k4
            refine ⟨Int.natCast_nonneg i, nodeV t.subs[i], hx, ?_⟩
            refine ⟨by constructor <;> omega, ?_⟩
            show CallThen _ _ _ _ _ _
            have hsub : (top : Int) - w = ((top - w : Nat) : Int) := by omega
            rw [hsub]
            refine call_pure (ih _ hmem (top - w) (by omega)) rfl ?_
            rintro x ⟨v, rfl, v0, v1, v2⟩
            refine ⟨by constructor <;> omega, ?_⟩
            refine ⟨by constructor <;> omega, ?_⟩
            show Goes _ _ _ _
            refine next (i + 1, w + v) _ _ ⟨⟨hi, by simp only; omega, by simp only; omega, fun h => ?_⟩, ?_, ?_, ?_⟩
            · have h : w + v ≤ top := h
              have := v2 (by omega)
              have := k4 h5'
              simp only
              omega
            · simp only; omega
            · exact ⟨⟨rfl, rfl⟩, ⟨rfl, rfl⟩, ⟨rfl, rfl⟩, ⟨rfl, rfl⟩, trivial⟩
            · exact ⟨⟨rfl, rfl⟩, trivial⟩
          · have h5 : ¬ (w : Int) ≤ top := by simpa using h5
            exact ⟨trivial, rfl, rfl, rfl, w, rfl, by omega, k3, fun h => by omega⟩
        · have hi : t.subs.length ≤ i := by simpa [subV_eq] using hge
          rw [List.drop_eq_nil_of_le hi, weights, Nat.add_zero] at k4
          exact ⟨trivial, rfl, rfl, rfl, w, rfl, by omega, k3, k4⟩
    · rintro ⟨i, w⟩ ⟨k1, k2, k3, k4⟩ next leave
      simp only at k1 k2 k3 k4
      refine ⟨fun hlt => go 200 ?_, fun hge => go 200 ?_⟩
      · have hi : i < t.attrs.length := by simpa using hlt
        have hix : (t.attrs.map attrV)[i]? = some (attrV t.attrs[i]) := by simp [hi]
        refine ⟨fun h5 => go 200 ?_, fun h5 => go 200 ?_⟩
        · have h5 := le_of h5
          rw [attrLen_drop hi] at k4
          refine ⟨Int.natCast_nonneg i, attrV t.attrs[i], hix, ?_⟩
          refine ⟨fun h6 => go 200 ?_, fun h6 => go 200 ?_⟩
          · exact ⟨hin, trivial, rfl, rfl, rfl, early⟩
          refine ⟨Int.natCast_nonneg i, attrV t.attrs[i], hix, ?_⟩
          refine ⟨fun h7 => go 200 ?_, fun h7 => go 200 ?_⟩
          · exact ⟨hin, trivial, rfl, rfl, rfl, early⟩
          have h6 := not_lt_of h6
          have h7 := not_lt_of h7
          show Goes _ _ _ _
          refine goes_draw 300 ?_
          refine ⟨by constructor <;> omega, ?_⟩
          refine ⟨Int.natCast_nonneg i, attrV t.attrs[i], hix, ?_⟩
          refine ⟨by constructor <;> omega, ?_⟩
          refine ⟨Int.natCast_nonneg i, attrV t.attrs[i], hix, ?_⟩
          refine ⟨by constructor <;> omega, ?_⟩
          refine ⟨by kernel_rfl, ?_⟩
          refine ⟨by constructor <;> omega, ?_⟩
          show Goes _ _ _ _
          refine next (i + 1, w + 1 + t.attrs[i].1.length + t.attrs[i].2.length) _ _ ⟨⟨hi, ?_, ?_, ?_⟩, ?_, ?_, ?_⟩
          · simp only; omega
          · simp only; omega
          · simp only; omega
          · simp only; omega
          · exact ⟨⟨rfl, rfl⟩, ⟨rfl, rfl⟩, ⟨rfl, rfl⟩, ⟨rfl, rfl⟩, trivial⟩
          · exact ⟨⟨rfl, rfl⟩, trivial⟩
        · have h5 : ¬ (w : Int) ≤ top := by simpa using h5
          exact leave w _ _ _ rfl ⟨⟨k2, k3, fun h => by omega⟩, ⟨⟨rfl, rfl⟩, ⟨rfl, rfl⟩, ⟨rfl, rfl⟩, trivial⟩, ⟨⟨rfl, rfl⟩, trivial⟩⟩
      · have hi : t.attrs.length ≤ i := by simpa using hge
        simp only [List.drop_eq_nil_of_le hi, attrLen, List.foldr_nil] at k4
        exact leave w _ _ _ rfl ⟨⟨k2, k3, fun h => by have := k4 h; unfold attrLen; omega⟩, ⟨⟨rfl, rfl⟩, ⟨rfl, rfl⟩, ⟨rfl, rfl⟩, trivial⟩, ⟨⟨rfl, rfl⟩, trivial⟩⟩
end Bow
/- W5: limits.Check; the trees of the chapter's examples. -/
namespace Bow
open Go Go.Proofs

theorem w_Count' (t : Tree) (h : t.weight ≤ 1000000) : Pure Tryz.prog 26 [nodeV t] (fun x => x = .int .i64 t.size) := by
  have := w_Count t (by have := size_le_weight t; omega)
  rwa [pre_length] at this

def checkE (t : Tree) : Int := if 512 < t.size then 160 else if 12 < t.depth then 161 else if 2048 < t.long then 162 else 0

set_option maxRecDepth 100000 in
theorem w_Check (t : Tree) (h : t.weight ≤ 1000000) : Pure Tryz.prog 14 [nodeV t] (fun x => x = .int .i64 (checkE t)) := by
  refine pure_fn 100 Tryz.func14 rfl rfl rfl fun B => ?_
  show Goes _ _ _ _
  refine goes_draw 300 ?_
  refine ⟨_, w_Count' t h, rfl, ?_⟩
  refine ⟨_, w_Depth t h, rfl, ?_⟩
  refine ⟨_, w_Long t h, rfl, ?_⟩
  refine ⟨by kernel_rfl, ?_⟩
  show Goes _ _ _ _
  refine goes_loop (go 200 ?_)
  refine ⟨fun _ => go 200 ?_, fun h => absurd h (by decide)⟩
  refine ⟨by decide, by decide, ?_⟩
  refine ⟨fun g1 => go 200 ?_, fun g1 => go 200 ?_⟩
  · have g1 := lt_of g1
    exact ⟨trivial, rfl, rfl, rfl, by unfold checkE; rw [if_pos (by omega)]; rfl⟩
  have g1 := not_lt_of g1
  refine ⟨by constructor <;> decide, ?_⟩
  show Goes _ _ _ _
  refine goes_inLoop (go 200 ?_)
  refine ⟨fun _ => go 200 ?_, fun h => absurd h (by decide)⟩
  refine ⟨by decide, by decide, ?_⟩
  refine ⟨fun g2 => go 200 ?_, fun g2 => go 200 ?_⟩
  · have g2 := lt_of g2
    exact ⟨trivial, rfl, rfl, rfl, by unfold checkE; rw [if_neg (by omega), if_pos (by omega)]; rfl⟩
  have g2 := not_lt_of g2
  refine ⟨by constructor <;> decide, ?_⟩
  show Goes _ _ _ _
  refine goes_inLoop (go 200 ?_)
  refine ⟨fun _ => go 200 ?_, fun h => absurd h (by decide)⟩
  refine ⟨by decide, by decide, ?_⟩
  refine ⟨fun g3 => go 200 ?_, fun g3 => go 200 ?_⟩
  · have g3 := lt_of g3
    exact ⟨trivial, rfl, rfl, rfl, by unfold checkE; rw [if_neg (by omega), if_neg (by omega), if_pos (by omega)]; rfl⟩
  have g3 := not_lt_of g3
  refine ⟨by constructor <;> decide, ?_⟩
  show Goes _ _ _ _
  refine goes_inLoop (go 200 ?_)
  refine ⟨fun h => absurd h (by decide), fun _ => go 200 ?_⟩
  exact ⟨trivial, rfl, rfl, rfl, by unfold checkE; rw [if_neg (by omega), if_neg (by omega), if_neg (by omega)]; rfl⟩

set_option maxRecDepth 100000 in
theorem w_refCheck (t : Tree) (h : t.weight ≤ 1000000) : Pure Tryz.prog 17 [nodeV t] (fun x => x = .int .i64 (checkE t)) := by
  refine pure_fn 100 Tryz.func17 rfl rfl rfl fun B => ?_
  show CallThen _ _ _ _ _ _
  refine call_pure (w_refCount t h) rfl ?_
  rintro x rfl
  refine ⟨fun g1 => go 200 ?_, fun g1 => go 200 ?_⟩
  · have g1 := lt_of g1
    exact ⟨trivial, rfl, rfl, rfl, by unfold checkE; rw [if_pos (by omega)]; rfl⟩
  have g1 := not_lt_of g1
  show CallThen _ _ _ _ _ _
  refine call_pure (w_refDepth t h) rfl ?_
  rintro x rfl
  refine ⟨fun g2 => go 200 ?_, fun g2 => go 200 ?_⟩
  · have g2 := lt_of g2
    exact ⟨trivial, rfl, rfl, rfl, by unfold checkE; rw [if_neg (by omega), if_pos (by omega)]; rfl⟩
  have g2 := not_lt_of g2
  show CallThen _ _ _ _ _ _
  refine call_pure (w_refLong t h) rfl ?_
  rintro x rfl
  refine ⟨fun g3 => go 200 ?_, fun g3 => go 200 ?_⟩
  · have g3 := lt_of g3
    exact ⟨trivial, rfl, rfl, rfl, by unfold checkE; rw [if_neg (by omega), if_neg (by omega), if_pos (by omega)]; rfl⟩
  have g3 := not_lt_of g3
  exact ⟨trivial, rfl, rfl, rfl, by unfold checkE; rw [if_neg (by omega), if_neg (by omega), if_neg (by omega)]; rfl⟩

/-! ### The examples' trees -/
def zeroT (ss : List Tree) : Tree := .mk 0 false [] [] [] ss
/-- As a literal lays it: what it does not name is nil. -/
def zeroV (k : V) : V := .agg [.int .u64 0, .ff, .str [], .nilsl, .str [], k]
theorem wk_zero {k : V} {ss : List Tree} (h : Wk k (.sl 6 (ss.map nodeV))) : Wk (zeroV k) (nodeV (zeroT ss)) := by
  refine Wk.agg ⟨.refl _, Wk.ff, .refl _, Wk.nil 2, .refl _, ?_, trivial⟩
  rw [subV_eq]
  exact h
theorem okE_node (t : Tree) : okE 6 (nodeV t) := ⟨rfl, rfl⟩
theorem wkE_nodes : ∀ {xs : List V} {ts : List Tree}, xs.length = ts.length → (∀ (i : Nat) (x : V) (t : Tree), xs[i]? = some x → ts[i]? = some t → WkL x.cells (nodeV t).cells) → WkE 6 xs (ts.map nodeV)
  | [], [], _, _ => trivial
  | x :: xs, t :: ts, hl, h => ⟨⟨h 0 x t rfl rfl, okE_node t⟩, wkE_nodes (by simpa using hl) fun i y s hy hs => h (i + 1) y s (by simpa using hy) (by simpa using hs)⟩
  | [], _ :: _, hl, _ => by simp at hl
  | _ :: _, [], hl, _ => by simp at hl
theorem wkL_zero {k : V} {ss : List Tree} (h : Wk k (.sl 6 (ss.map nodeV))) : WkL (zeroV k).cells (nodeV (zeroT ss)).cells := by
  refine ⟨.refl _, Wk.ff, .refl _, Wk.nil 2, .refl _, ?_, trivial⟩
  rw [subV_eq]
  exact h

def flatT (n : Nat) : Tree := zeroT (List.replicate n (zeroT []))
theorem w_flat (n : Nat) (h : n ≤ 100000) : Pure Tryz.prog 4 [.int .i64 ((n + 1 : Nat) : Int)] (fun x => x = nodeV (flatT n)) := by
  refine pure_wk (pure_fn 100 Tryz.func4 rfl rfl rfl fun B => ?_)
  refine ⟨by constructor <;> omega, ?_⟩
  show Goes _ _ _ _
  refine goes_make 100 n rfl rfl rfl (congrArg (V.int .i64) (by omega)) (congrArg (V.int .i64) (by omega)) rfl rfl rfl rfl (Nat.le_trans (Nat.mul_le_mul_left _ h) (by decide)) ?_
  refine ⟨trivial, rfl, rfl, rfl, (by simp), rfl, nodeV (flatT n), ?_, rfl, rfl⟩
  refine wk_zero (Wk.sl (wkE_nodes (by simp) fun i x t hx ht => ?_))
  have e1 := List.eq_of_mem_replicate (List.mem_of_getElem? hx)
  have e2 := List.eq_of_mem_replicate (List.mem_of_getElem? ht)
  subst e1 e2
  exact wkL_zero (ss := []) (Wk.nil 6)

def chainT : Nat → Tree
  | 0 => zeroT []
  | n + 1 => zeroT [chainT n]
def chainV : Nat → V
  | 0 => zeroV .nilsl
  | n + 1 => zeroV (.sl 6 [chainV n])
theorem chainV_cells (n : Nat) : ∃ k, chainV n = zeroV k ∧ Wk k (.sl 6 ((match n with | 0 => [] | n + 1 => [chainT n]).map nodeV)) := by
  induction n with
  | zero => exact ⟨_, rfl, Wk.nil 6⟩
  | succ n ih =>
    obtain ⟨k, h1, h2⟩ := ih
    refine ⟨_, rfl, Wk.sl (wkE_nodes rfl fun i x t hx ht => ?_)⟩
    cases i with
    | succ i => simp at hx
    | zero =>
      simp at hx ht
      subst hx ht
      rw [h1]
      have := wkL_zero h2
      cases n <;> exact this
theorem wk_chain (n : Nat) : Wk (chainV n) (nodeV (chainT n)) := by
  obtain ⟨k, h1, h2⟩ := chainV_cells n
  rw [h1]
  have := wk_zero h2
  cases n <;> exact this
set_option maxRecDepth 100000 in
theorem w_chain (n : Nat) (h : n ≤ 100000) : Pure Tryz.prog 5 [.int .i64 n] (fun x => x = nodeV (chainT n)) := by
  refine pure_wk (pure_fn 100 Tryz.func5 rfl rfl rfl fun B => ?_)
  show Goes _ _ _ _
  refine goes_iter (ι := Nat) (fun i => i ≤ n) (fun i => n - i) (fun i => [(4, .int .i64 i), (3, .ptr (.loc 1) 0), (2, .ptr (.loc 0) 0), (0, .int .i64 n)])
    (fun i => [some (.box (zeroV .nilsl).cells), some (.box (chainV i).cells)]) 0 200 (fun _ => rfl) (fun _ => rfl) ⟨Nat.zero_le _, ?_, ?_⟩ ?_
  · exact ⟨⟨rfl, rfl⟩, ⟨rfl, rfl⟩, ⟨rfl, rfl⟩, ⟨rfl, rfl⟩, trivial⟩
  · exact ⟨⟨rfl, rfl⟩, ⟨rfl, rfl⟩, trivial⟩
  · intro i k1 next
    refine ⟨fun hlt => go 200 ?_, fun hge => go 200 ?_⟩
    · have hi : i < n := by have := lt_of hlt; omega
      cases i with
      | zero =>
        refine ⟨⟨rfl, trivial⟩, ?_⟩
        refine ⟨by constructor <;> omega, ?_⟩
        show Goes _ _ _ _
        refine goes_freezeIn 2 [1] rfl rfl rfl ?_
        show Goes _ _ _ _
        refine next 1 _ _ ⟨hi, by omega, ?_, ?_⟩
        · exact ⟨⟨rfl, rfl⟩, ⟨rfl, rfl⟩, ⟨rfl, rfl⟩, ⟨rfl, rfl⟩, trivial⟩
        · exact ⟨⟨rfl, rfl⟩, ⟨rfl, rfl⟩, trivial⟩
      | succ i =>
        refine ⟨⟨rfl, trivial⟩, ?_⟩
        refine ⟨by constructor <;> omega, ?_⟩
        show Goes _ _ _ _
        refine goes_freezeIn 2 [1] rfl rfl rfl ?_
        show Goes _ _ _ _
        refine next (i + 1 + 1) _ _ ⟨hi, by omega, ?_, ?_⟩
        · exact ⟨⟨rfl, rfl⟩, ⟨rfl, rfl⟩, ⟨rfl, rfl⟩, ⟨rfl, rfl⟩, trivial⟩
        · exact ⟨⟨rfl, rfl⟩, ⟨rfl, rfl⟩, trivial⟩
    · have hi : i = n := by have := not_lt_of hge; omega
      subst hi
      have hw := wk_chain i
      cases i with
      | zero => exact ⟨trivial, rfl, rfl, rfl, _, hw, rfl, rfl⟩
      | succ i => exact ⟨trivial, rfl, rfl, rfl, _, hw, rfl, rfl⟩

def longT (n : Nat) (l : List (List UInt8 × List UInt8)) : Tree := zeroT [.mk 0 true [] l (List.replicate n 0) []]
theorem w_long (n : Nat) (l : List (List UInt8 × List UInt8)) (h : n ≤ 100000) : Pure Tryz.prog 6 [.int .i64 n, .sl 2 (l.map attrV)] (fun x => x = nodeV (longT n l)) := by
  refine pure_wk (pure_fn 100 Tryz.func6 rfl rfl rfl fun B => ?_)
  show Goes _ _ _ _
  refine goes_make 100 n rfl rfl rfl rfl rfl rfl rfl rfl rfl (Nat.le_trans (Nat.mul_le_mul_left _ h) (by decide)) ?_
  show Goes _ _ _ _
  refine goes_freeze 1 rfl rfl ?_
  refine goes_bytesStr 100 (List.replicate n 0) rfl rfl rfl ?_ rfl rfl rfl ?_
  · show (bif Nat.beq 0 0 && Nat.beq 0 0 && Nat.beq n (List.replicate n (V.int .u8 0)).length then V.sl 1 (List.replicate n (V.int .u8 0)) else .undef) = _
    simp
  · refine ⟨⟨rfl, trivial⟩, ?_⟩
    refine ⟨trivial, rfl, rfl, rfl, rfl, rfl, nodeV (longT n l), ?_, rfl, rfl⟩
    refine wk_zero (Wk.sl (wkE_nodes rfl fun i x t hx ht => ?_))
    cases i with
    | succ i => simp at hx
    | zero =>
      simp at hx ht
      subst hx ht
      exact ⟨.refl _, Wk.tt, .refl _, .refl _, .refl _, Wk.nil 6, trivial⟩
end Bow
/- SP2: operations, as values; which are formed. -/
namespace Bow
open Go

structure PieceT where
  keep : Int
  drop : Int
  put : List UInt8
structure OpT where
  kind : Int
  path : List Int
  at_ : Int
  to : List Int
  id : Int
  leaf : Bool
  label : List UInt8
  key : List UInt8
  value : List UInt8
  gone : Bool
  pieces : List PieceT

def intV (n : Int) : V := .int .i64 n
def pieceV (p : PieceT) : V := .agg [.int .i64 p.keep, .int .i64 p.drop, .str p.put]
def pathV (p : List Int) : V := .sl 1 (p.map intV)
def piecesV (l : List PieceT) : V := .sl 3 (l.map pieceV)
def opV (o : OpT) : V := .agg [.int .u8 o.kind, pathV o.path, .int .i64 o.at_, pathV o.to, .int .u64 o.id, .bool o.leaf, .str o.label, .str o.key, .str o.value, .bool o.gone, piecesV o.pieces]

/-! ### Leaves of walks that end in a truth value -/
theorem leaf_tt {b : Bool} (h : b = true) : ∃ y, Wk .tt y ∧ y.pureB = true ∧ y = .bool b := ⟨_, Wk.tt, rfl, by rw [h]⟩
theorem leaf_ff {b : Bool} (h : b = false) : ∃ y, Wk .ff y ∧ y.pureB = true ∧ y = .bool b := ⟨_, Wk.ff, rfl, by rw [h]⟩
theorem leaf_b {b b' : Bool} (h : b' = b) : ∃ y, Wk (.bool b') y ∧ y.pureB = true ∧ y = .bool b := ⟨_, Wk.refl _, rfl, by rw [h]⟩
theorem leaf_of {x y : V} (h : x = y) (hp : y.pureB = true) : ∃ z, Wk x z ∧ z.pureB = true ∧ z = y := ⟨y, Wk.of_eq h, hp, rfl⟩

/-! ### Formed -/
def stepOk (n : Int) : Bool := decide (0 ≤ n) && decide (n < 1048576)
def mayP (p : List Int) : Bool := decide (p.length ≤ 64) && p.all stepOk
def keyOk (s : List UInt8) : Bool := decide (1 ≤ s.length) && decide (s.length ≤ 64)
/-- Pieces that are right, when so many bytes have been put ahead. -/
def rightGo : Nat → List PieceT → Bool
  | _, [] => true
  | n, p :: l => (decide (0 ≤ p.keep) && decide (p.keep ≤ 1048576) && decide (0 ≤ p.drop) && decide (p.drop ≤ 1048576) && decide (n + p.put.length ≤ 1048576)) && rightGo (n + p.put.length) l
def rightP (l : List PieceT) : Bool := decide (l.length ≤ 4096) && rightGo 0 l
def gapOk (n : Int) : Bool := decide (0 ≤ n) && decide (n ≤ 1048576)
def formedB (o : OpT) : Bool :=
  mayP o.path && (bif o.kind == 1 then gapOk o.at_ && decide ((o.label.length : Int) ≤ 64) else bif o.kind == 2 then true else bif o.kind == 3 then gapOk o.at_ && mayP o.to
    else bif o.kind == 4 then keyOk o.key && (o.gone || decide ((o.value.length : Int) ≤ 256)) else bif o.kind == 5 then decide ((o.label.length : Int) ≤ 64) else bif o.kind == 6 then rightP o.pieces else false)

/-! ### Bare -/
def noOp (k : Int) : OpT := ⟨k, [], 0, [], 0, false, [], [], [], false, []⟩
def bareO (o : OpT) : OpT :=
  bif o.kind == 1 then { noOp 1 with path := o.path, at_ := o.at_, id := o.id, leaf := o.leaf, label := o.label }
  else bif o.kind == 2 then { noOp 2 with path := o.path }
  else bif o.kind == 3 then { noOp 3 with path := o.path, at_ := o.at_, to := o.to }
  else bif o.kind == 4 then { noOp 4 with path := o.path, key := o.key, gone := o.gone, value := bif o.gone then [] else o.value }
  else bif o.kind == 5 then { noOp 5 with path := o.path, label := o.label }
  else bif o.kind == 6 then { noOp 6 with path := o.path, pieces := o.pieces }
  else noOp o.kind
/-- So much, at most. -/
structure OpT.Lt (o : OpT) (n : Nat) : Prop where
  path : o.path.length ≤ n
  to : o.to.length ≤ n
  label : o.label.length ≤ n
  key : o.key.length ≤ n
  value : o.value.length ≤ n
  pieces : o.pieces.length ≤ n
def putsLen (l : List PieceT) : Nat := l.foldr (fun p n => p.put.length + n) 0
end Bow
/- W6: which operations are formed. -/
namespace Bow
open Go Go.Proofs

theorem w_May1 (n : Int) : Pure Tryz.prog 59 [intV n] (fun x => x = .bool (!stepOk n)) := by
  refine pure_wk (pure_fn 100 Tryz.func59 rfl rfl rfl fun B => ?_)
  refine ⟨fun g1 => go 200 ?_, fun g1 => go 200 ?_⟩
  · have g1 := lt_of g1
    exact ⟨trivial, rfl, rfl, rfl, leaf_tt (by unfold stepOk; rw [decide_eq_false (by omega)]; rfl)⟩
  · have g1 := not_lt_of g1
    refine ⟨trivial, rfl, rfl, rfl, leaf_b ?_⟩
    unfold stepOk
    rw [decide_eq_true (p := 0 ≤ n) (by omega), Bool.true_and]
    by_cases h : n < 1048576
    · rw [decide_eq_true h, decide_eq_false (by omega)]; rfl
    · rw [decide_eq_false h, decide_eq_true (by omega)]; rfl

/-- The first place where a predicate holds, or -1. -/
def findIx (f : Int → Bool) : Nat → List Int → Int
  | _, [] => -1
  | i, x :: xs => bif f x then i else findIx f (i + 1) xs
theorem findIx_any (f : Int → Bool) : ∀ (xs : List Int) (i : Nat), decide (0 ≤ findIx f i xs) = xs.any f
  | [], i => by simp [findIx]
  | x :: xs, i => by
    rw [findIx, List.any_cons]
    cases h : f x with
    | true => simp
    | false => simpa using findIx_any f xs (i + 1)

set_option maxRecDepth 100000 in
theorem w_IndexInt (f : Int → Bool) (g : FuncId) (xs : List Int) (hl : xs.length ≤ 1000000) (hg : ∀ n, Pure Tryz.prog g [intV n] (fun x => x = .bool (f n))) :
    Pure Tryz.prog 83 [pathV xs, .fn (.func g) [] []] (fun x => x = .int .i64 (findIx f 0 xs)) := by
  refine pure_fn 100 Tryz.func83 rfl rfl rfl fun B => ?_
  show Goes _ _ _ _
  refine goes_iter (ι := Nat) (fun i => i ≤ xs.length ∧ findIx f i (xs.drop i) = findIx f 0 xs) (fun i => xs.length - i) (fun i => [(8, .int .i64 i), (7, .int .i64 (xs.map intV).length), (1, .fn (.func g) [] []), (0, pathV xs)]) (fun _ => []) 0 200 (fun _ => rfl) (fun _ => rfl) ⟨⟨Nat.zero_le _, rfl⟩, ?_, ?_⟩ ?_
  · exact ⟨⟨rfl, rfl⟩, ⟨rfl, rfl⟩, ⟨rfl, rfl⟩, ⟨rfl, rfl⟩, trivial⟩
  · trivial
  · rintro i ⟨h1, h2⟩ next
    refine ⟨fun hlt => go 200 ?_, fun hge => go 200 ?_⟩
    · have hi : i < xs.length := by simpa using hlt
      have hx : (xs.map intV)[i]? = some (intV xs[i]) := by simp [hi]
      rw [drop_cons hi, findIx] at h2
      refine ⟨Int.natCast_nonneg i, _, hx, ?_⟩
      show CallThen _ _ _ _ _ _
      refine call_pure (hg xs[i]) rfl ?_
      rintro x rfl
      refine ⟨fun h => go 200 ?_, fun h => go 200 ?_⟩
      · rw [h] at h2
        exact ⟨trivial, rfl, rfl, rfl, by rw [← h2]; rfl⟩
      · rw [h] at h2
        refine ⟨by constructor <;> omega, ?_⟩
        show Goes _ _ _ _
        exact next (i + 1) _ _ ⟨⟨hi, h2⟩, by omega, ⟨⟨rfl, rfl⟩, ⟨rfl, rfl⟩, ⟨rfl, rfl⟩, ⟨rfl, rfl⟩, trivial⟩, trivial⟩
    · have hi : xs.length ≤ i := by simpa using hge
      rw [List.drop_eq_nil_of_le hi] at h2
      exact ⟨trivial, rfl, rfl, rfl, by rw [← h2]; rfl⟩

theorem w_ContainsInt (f : Int → Bool) (g : FuncId) (xs : List Int) (hl : xs.length ≤ 1000000) (hg : ∀ n, Pure Tryz.prog g [intV n] (fun x => x = .bool (f n))) :
    Pure Tryz.prog 58 [pathV xs, .fn (.func g) [] []] (fun x => x = .bool (xs.any f)) := by
  refine pure_fn 100 Tryz.func58 rfl rfl rfl fun B => ?_
  show CallThen _ _ _ _ _ _
  refine call_pure (w_IndexInt f g xs hl hg) rfl ?_
  rintro x rfl
  exact ⟨trivial, rfl, rfl, rfl, by rw [← findIx_any f xs 0]; rfl⟩

theorem any_not_all (xs : List Int) : (xs.any fun n => !stepOk n) = !xs.all stepOk := by
  induction xs with
  | nil => rfl
  | cons x xs ih => simp [ih]

theorem w_May (p : List Int) : Pure Tryz.prog 38 [pathV p] (fun x => x = .bool (mayP p)) := by
  refine pure_wk (pure_fn 100 Tryz.func38 rfl rfl rfl fun B => ?_)
  refine ⟨fun g1 => go 200 ?_, fun g1 => go 200 ?_⟩
  · have g1 : p.length ≤ 64 := by have := le_of g1; simp at this; omega
    show CallThen _ _ _ _ _ _
    refine call_pure (w_ContainsInt (fun n => !stepOk n) _ p (by omega) w_May1) rfl ?_
    rintro x rfl
    exact ⟨trivial, rfl, rfl, rfl, leaf_b (by rw [any_not_all]; simp [mayP, g1])⟩
  · have g1 : 64 < p.length := by have := not_le_of g1; simp at this; omega
    exact ⟨trivial, rfl, rfl, rfl, leaf_ff (by unfold mayP; rw [decide_eq_false (by omega)]; rfl)⟩

theorem w_Key (s : List UInt8) : Pure Tryz.prog 39 [.str s] (fun x => x = .bool (keyOk s)) := by
  refine pure_wk (pure_fn 100 Tryz.func39 rfl rfl rfl fun B => ?_)
  refine ⟨fun g1 => go 200 ?_, fun g1 => go 200 ?_⟩
  · have g1 : s ≠ [] := by simpa using g1
    have : 0 < s.length := List.length_pos_iff.2 g1
    exact ⟨trivial, rfl, rfl, rfl, leaf_b (by unfold keyOk; rw [decide_eq_true (p := 1 ≤ s.length) (by omega), Bool.true_and]; simp; omega)⟩
  · have g1 : s = [] := by simpa using g1
    exact ⟨trivial, rfl, rfl, rfl, leaf_ff (by rw [g1]; rfl)⟩
theorem w_refKey (s : List UInt8) : Pure Tryz.prog 56 [.str s] (fun x => x = .bool (keyOk s)) := by
  refine pure_wk (pure_fn 100 Tryz.func56 rfl rfl rfl fun B => ?_)
  refine ⟨fun g1 => go 200 ?_, fun g1 => go 200 ?_⟩
  · have g1 : (1 : Int) ≤ s.length := by simpa using g1
    exact ⟨trivial, rfl, rfl, rfl, leaf_b (by unfold keyOk; rw [decide_eq_true (p := 1 ≤ s.length) (by omega), Bool.true_and]; simp; omega)⟩
  · have g1 : ¬ (1 : Int) ≤ s.length := by simpa using g1
    exact ⟨trivial, rfl, rfl, rfl, leaf_ff (by unfold keyOk; rw [decide_eq_false (p := 1 ≤ s.length) (by omega)]; rfl)⟩
end Bow
/- W7: pieces that are right; Formed. -/
namespace Bow
open Go Go.Proofs

theorem may_cons_drop (p : List Int) (i : Nat) (h : i < p.length) : (p.drop i).all stepOk = (stepOk p[i] && (p.drop (i + 1)).all stepOk) := by rw [drop_cons h, List.all_cons]

set_option maxRecDepth 100000 in
theorem w_refMay (p : List Int) (hp : p.length ≤ 1000000) : Pure Tryz.prog 55 [pathV p] (fun x => x = .bool (mayP p)) := by
  refine pure_wk (pure_fn 100 Tryz.func55 rfl rfl rfl fun B => ?_)
  show Goes _ _ _ _
  refine goes_iter (ι := Nat) (fun i => i ≤ p.length ∧ i ≤ 64 ∧ mayP p = (decide (p.length ≤ 64) && (p.drop i).all stepOk)) (fun i => p.length - i) (fun i => [(3, .int .i64 i), (0, pathV p)]) (fun _ => []) 0 200 (fun _ => rfl) (fun _ => rfl) ⟨⟨Nat.zero_le _, Nat.zero_le _, rfl⟩, ?_, ?_⟩ ?_
  · exact ⟨⟨rfl, rfl⟩, ⟨rfl, rfl⟩, trivial⟩
  · trivial
  · rintro i ⟨h1, h3, h2⟩ next
    refine ⟨fun hlt => go 200 ?_, fun hge => go 200 ?_⟩
    · have hi : i < p.length := by simpa using hlt
      have hx : (p.map intV)[i]? = some (intV p[i]) := by simp [hi]
      rw [may_cons_drop p i hi] at h2
      refine ⟨fun g1 => go 200 ?_, fun g1 => go 200 ?_⟩
      · have g1 : (64 : Int) ≤ i := by simpa using g1
        exact ⟨trivial, rfl, rfl, rfl, leaf_ff (by rw [h2, decide_eq_false (p := p.length ≤ 64) (by omega)]; rfl)⟩
      have g1 : ¬ (64 : Int) ≤ i := by simpa using g1
      refine ⟨Int.natCast_nonneg i, _, hx, ?_⟩
      refine ⟨fun g2 => go 200 ?_, fun g2 => go 200 ?_⟩
      · have g2 := lt_of g2
        exact ⟨trivial, rfl, rfl, rfl, leaf_ff (by rw [h2]; unfold stepOk; rw [decide_eq_false (p := 0 ≤ p[i]) (by omega)]; simp)⟩
      have g2 := not_lt_of g2
      refine ⟨Int.natCast_nonneg i, _, hx, ?_⟩
      refine ⟨fun g3 => go 200 ?_, fun g3 => go 200 ?_⟩
      · have g3 := le_of g3
        exact ⟨trivial, rfl, rfl, rfl, leaf_ff (by rw [h2]; unfold stepOk; rw [decide_eq_false (p := p[i] < 1048576) (by omega)]; simp)⟩
      have g3 := not_le_of g3
      refine ⟨by constructor <;> omega, ?_⟩
      show Goes _ _ _ _
      refine next (i + 1) _ _ ⟨⟨hi, by omega, ?_⟩, by omega, ⟨⟨rfl, rfl⟩, ⟨rfl, rfl⟩, trivial⟩, trivial⟩
      have : stepOk p[i] = true := by unfold stepOk; rw [decide_eq_true (by omega), decide_eq_true (by omega)]; rfl
      rw [h2, this, Bool.true_and]
    · have hi : p.length ≤ i := by simpa using hge
      rw [List.drop_eq_nil_of_le hi] at h2
      exact ⟨trivial, rfl, rfl, rfl, leaf_tt (by rw [h2, decide_eq_true (p := p.length ≤ 64) (by omega)]; rfl)⟩

theorem rightGo_bad {n : Nat} {p : PieceT} {l : List PieceT} (h : p.keep < 0 ∨ 1048576 < p.keep ∨ p.drop < 0 ∨ 1048576 < p.drop ∨ 1048576 < n + p.put.length) : rightGo n (p :: l) = false := by
  rw [rightGo]
  rcases h with h | h | h | h | h
  · rw [decide_eq_false (p := 0 ≤ p.keep) (by omega)]; rfl
  · rw [decide_eq_false (p := p.keep ≤ 1048576) (by omega)]; simp
  · rw [decide_eq_false (p := 0 ≤ p.drop) (by omega)]; simp
  · rw [decide_eq_false (p := p.drop ≤ 1048576) (by omega)]; simp
  · rw [decide_eq_false (p := n + p.put.length ≤ 1048576) (by omega)]; simp
theorem rightGo_good {n : Nat} {p : PieceT} {l : List PieceT} (h1 : 0 ≤ p.keep) (h2 : p.keep ≤ 1048576) (h3 : 0 ≤ p.drop) (h4 : p.drop ≤ 1048576) (h5 : n + p.put.length ≤ 1048576) : rightGo n (p :: l) = rightGo (n + p.put.length) l := by
  rw [rightGo, decide_eq_true h1, decide_eq_true h2, decide_eq_true h3, decide_eq_true h4, decide_eq_true h5]
  rfl

set_option maxRecDepth 100000 in
theorem w_RightW (l : List PieceT) (hl : l.length ≤ 1000000000000) (hpl : ∀ p ∈ l, p.put.length ≤ 1000000000000) : Pure Tryz.prog 40 [piecesV l] (fun x => x = .bool (rightP l)) := by
  refine pure_wk (pure_fn 100 Tryz.func40 rfl rfl rfl fun B => ?_)
  refine ⟨fun g0 => go 200 ?_, fun g0 => go 200 ?_⟩
  · have g0 : 4096 < l.length := by have := lt_of g0; simp at this; omega
    exact ⟨trivial, rfl, rfl, rfl, leaf_ff (by unfold rightP; rw [decide_eq_false (by omega)]; rfl)⟩
  have g0 : l.length ≤ 4096 := by have := not_lt_of g0; simp at this; omega
  show Goes _ _ _ _
  refine goes_iter (ι := Nat × Nat) (fun i => i.1 ≤ l.length ∧ i.2 ≤ 1048576 ∧ rightP l = rightGo i.2 (l.drop i.1)) (fun i => l.length - i.1) (fun i => [(11, .int .i64 i.1), (10, .int .i64 (l.map pieceV).length), (9, piecesV l), (3, .int .i64 i.2)]) (fun _ => []) (0, 0) 200 (fun _ => rfl) (fun _ => rfl) ⟨⟨Nat.zero_le _, Nat.zero_le _, ?_⟩, ?_, ?_⟩ ?_
  · unfold rightP
    rw [decide_eq_true g0]
    rfl
  · exact ⟨⟨rfl, rfl⟩, ⟨rfl, rfl⟩, ⟨rfl, rfl⟩, ⟨rfl, rfl⟩, trivial⟩
  · trivial
  · rintro ⟨i, n⟩ ⟨h1, h3, h2⟩ next
    simp only at h1 h2 h3
    refine ⟨fun hlt => go 200 ?_, fun hge => go 200 ?_⟩
    · have hi : i < l.length := by simpa using hlt
      have hx : (l.map pieceV)[i]? = some (pieceV l[i]) := by simp [hi]
      have hput := hpl l[i] (List.getElem_mem hi)
      rw [drop_cons hi] at h2
      refine ⟨Int.natCast_nonneg i, _, hx, ?_⟩
      refine ⟨fun g1 => go 200 ?_, fun g1 => go 200 ?_⟩
      · have g1 := lt_of g1
        refine ⟨trivial, rfl, rfl, rfl, leaf_ff ?_⟩
        rw [h2]
        refine rightGo_bad ?_
        split at g1 <;> omega
      have g1 := not_lt_of g1
      have q1 : 0 ≤ (l[i]).keep ∧ 0 ≤ (l[i]).drop := by split at g1 <;> omega
      refine ⟨fun g2 => go 200 ?_, fun g2 => go 200 ?_⟩
      · have g2 := lt_of g2
        refine ⟨trivial, rfl, rfl, rfl, leaf_ff ?_⟩
        rw [h2]
        refine rightGo_bad ?_
        split at g2 <;> omega
      have g2 := not_lt_of g2
      have q2 : (l[i]).keep ≤ 1048576 ∧ (l[i]).drop ≤ 1048576 := by split at g2 <;> omega
      refine ⟨by constructor <;> omega, ?_⟩
      refine ⟨fun g3 => go 200 ?_, fun g3 => go 200 ?_⟩
      · have g3 := lt_of g3
        refine ⟨trivial, rfl, rfl, rfl, leaf_ff ?_⟩
        rw [h2]
        exact rightGo_bad (by omega)
      have g3 := not_lt_of g3
      refine ⟨by constructor <;> omega, ?_⟩
      refine ⟨by constructor <;> omega, ?_⟩
      show Goes _ _ _ _
      refine next (i + 1, n + (l[i]).put.length) _ _ ⟨⟨hi, by simp only; omega, ?_⟩, ?_, ⟨⟨rfl, rfl⟩, ⟨rfl, rfl⟩, ⟨rfl, rfl⟩, ⟨rfl, rfl⟩, trivial⟩, trivial⟩
      · rw [h2]
        exact rightGo_good q1.1 q2.1 q1.2 q2.2 (by omega)
      · simp only; omega
    · have hi : l.length ≤ i := by simpa using hge
      rw [List.drop_eq_nil_of_le hi] at h2
      exact ⟨trivial, rfl, rfl, rfl, leaf_tt h2⟩
theorem w_Right (l : List PieceT) (hl : l.length ≤ 1000000) (hpl : ∀ p ∈ l, p.put.length ≤ 1000000000) : Pure Tryz.prog 40 [piecesV l] (fun x => x = .bool (rightP l)) :=
  w_RightW l (by omega) fun p hp => by have := hpl p hp; omega

set_option maxRecDepth 100000 in
theorem w_refRight (l : List PieceT) (hl : l.length ≤ 1000000) (hpl : ∀ p ∈ l, p.put.length ≤ 1000000000) : Pure Tryz.prog 57 [piecesV l] (fun x => x = .bool (rightP l)) := by
  refine pure_wk (pure_fn 100 Tryz.func57 rfl rfl rfl fun B => ?_)
  refine ⟨fun g0 => go 200 ?_, fun g0 => go 200 ?_⟩
  · have g0 : 4096 < l.length := by have := lt_of g0; simp at this; omega
    exact ⟨trivial, rfl, rfl, rfl, leaf_ff (by unfold rightP; rw [decide_eq_false (by omega)]; rfl)⟩
  have g0 : l.length ≤ 4096 := by have := not_lt_of g0; simp at this; omega
  show Goes _ _ _ _
  refine goes_iter (ι := Nat × Nat) (fun i => i.1 ≤ l.length ∧ i.2 ≤ 1048576 ∧ rightP l = rightGo i.2 (l.drop i.1)) (fun i => l.length - i.1) (fun i => [(4, .int .i64 i.1), (0, piecesV l), (3, .int .i64 i.2)]) (fun _ => []) (0, 0) 200 (fun _ => rfl) (fun _ => rfl) ⟨⟨Nat.zero_le _, Nat.zero_le _, ?_⟩, ?_, ?_⟩ ?_
  · unfold rightP
    rw [decide_eq_true g0]
    rfl
  · exact ⟨⟨rfl, rfl⟩, ⟨rfl, rfl⟩, ⟨rfl, rfl⟩, trivial⟩
  · trivial
  · rintro ⟨i, n⟩ ⟨h1, h3, h2⟩ next
    simp only at h1 h2 h3
    refine ⟨fun hlt => go 200 ?_, fun hge => go 200 ?_⟩
    · have hi : i < l.length := by simpa using hlt
      have hx : (l.map pieceV)[i]? = some (pieceV l[i]) := by simp [hi]
      have hput := hpl l[i] (List.getElem_mem hi)
      rw [drop_cons hi] at h2
      refine ⟨Int.natCast_nonneg i, _, hx, ?_⟩
      refine ⟨fun g1 => go 200 ?_, fun g1 => go 200 ?_⟩
      · have g1 := lt_of g1
        exact ⟨trivial, rfl, rfl, rfl, leaf_ff (by rw [h2]; exact rightGo_bad (by omega))⟩
      have g1 := not_lt_of g1
      refine ⟨Int.natCast_nonneg i, _, hx, ?_⟩
      refine ⟨fun g2 => go 200 ?_, fun g2 => go 200 ?_⟩
      · have g2 := lt_of g2
        exact ⟨trivial, rfl, rfl, rfl, leaf_ff (by rw [h2]; exact rightGo_bad (by omega))⟩
      have g2 := not_lt_of g2
      refine ⟨Int.natCast_nonneg i, _, hx, ?_⟩
      refine ⟨fun g3 => go 200 ?_, fun g3 => go 200 ?_⟩
      · have g3 := lt_of g3
        exact ⟨trivial, rfl, rfl, rfl, leaf_ff (by rw [h2]; exact rightGo_bad (by omega))⟩
      have g3 := not_lt_of g3
      refine ⟨Int.natCast_nonneg i, _, hx, ?_⟩
      refine ⟨fun g4 => go 200 ?_, fun g4 => go 200 ?_⟩
      · have g4 := lt_of g4
        exact ⟨trivial, rfl, rfl, rfl, leaf_ff (by rw [h2]; exact rightGo_bad (by omega))⟩
      have g4 := not_lt_of g4
      refine ⟨Int.natCast_nonneg i, _, hx, ?_⟩
      refine ⟨by constructor <;> omega, ?_⟩
      refine ⟨fun g5 => go 200 ?_, fun g5 => go 200 ?_⟩
      · have g5 := lt_of g5
        exact ⟨trivial, rfl, rfl, rfl, leaf_ff (by rw [h2]; exact rightGo_bad (by omega))⟩
      have g5 := not_lt_of g5
      refine ⟨Int.natCast_nonneg i, _, hx, ?_⟩
      refine ⟨by constructor <;> omega, ?_⟩
      refine ⟨by constructor <;> omega, ?_⟩
      show Goes _ _ _ _
      refine next (i + 1, n + (l[i]).put.length) _ _ ⟨⟨hi, by simp only; omega, ?_⟩, ?_, ⟨⟨rfl, rfl⟩, ⟨rfl, rfl⟩, ⟨rfl, rfl⟩, trivial⟩, trivial⟩
      · rw [h2]
        exact rightGo_good (by omega) (by omega) (by omega) (by omega) (by omega)
      · simp only; omega
    · have hi : l.length ≤ i := by simpa using hge
      rw [List.drop_eq_nil_of_le hi] at h2
      exact ⟨trivial, rfl, rfl, rfl, leaf_tt h2⟩
end Bow
/- W8: Formed. -/
namespace Bow
open Go Go.Proofs

set_option maxRecDepth 100000 in
theorem w_Formed (o : OpT) (ho : o.Lt 1000000) (hpl : ∀ p ∈ o.pieces, p.put.length ≤ 1000000000) : Pure Tryz.prog 24 [opV o] (fun x => x = .bool (formedB o)) := by
  have hm := w_May o.path
  have hm2 := w_May o.to
  have hk := w_Key o.key
  have hr := w_Right o.pieces ho.pieces hpl
  refine pure_wk (pure_fn 300 Tryz.func24 rfl rfl rfl fun B => ?_)
  clear ho hpl
  repeat' first
    | (refine ⟨fun _ => go 300 ?_, fun _ => go 300 ?_⟩)
    | (show CallThen _ _ _ _ _ _; refine call_pure hm rfl ?_; rintro x rfl)
    | (show CallThen _ _ _ _ _ _; refine call_pure hm2 rfl ?_; rintro x rfl)
    | (show CallThen _ _ _ _ _ _; refine call_pure hk rfl ?_; rintro x rfl)
    | (show CallThen _ _ _ _ _ _; refine call_pure hr rfl ?_; rintro x rfl)
    | (refine ⟨trivial, rfl, rfl, rfl, leaf_tt ?_⟩)
    | (refine ⟨trivial, rfl, rfl, rfl, leaf_ff ?_⟩)
    | (refine ⟨trivial, rfl, rfl, rfl, leaf_b ?_⟩)
    | fail
  all_goals (first | (simp_all [formedB, gapOk]; done) | (simp_all [formedB, gapOk]; intros; omega))

set_option maxRecDepth 100000 in
theorem w_refFormed (o : OpT) (ho : o.Lt 1000000) (hpl : ∀ p ∈ o.pieces, p.put.length ≤ 1000000000) : Pure Tryz.prog 35 [opV o] (fun x => x = .bool (formedB o)) := by
  have hm := w_refMay o.path ho.path
  have hm2 := w_refMay o.to ho.to
  have hk := w_refKey o.key
  have hr := w_refRight o.pieces ho.pieces hpl
  refine pure_wk (pure_fn 300 Tryz.func35 rfl rfl rfl fun B => ?_)
  clear ho hpl
  repeat' first
    | (refine ⟨fun _ => go 300 ?_, fun _ => go 300 ?_⟩)
    | (show CallThen _ _ _ _ _ _; refine call_pure hm rfl ?_; rintro x rfl)
    | (show CallThen _ _ _ _ _ _; refine call_pure hm2 rfl ?_; rintro x rfl)
    | (show CallThen _ _ _ _ _ _; refine call_pure hk rfl ?_; rintro x rfl)
    | (show CallThen _ _ _ _ _ _; refine call_pure hr rfl ?_; rintro x rfl)
    | (refine ⟨trivial, rfl, rfl, rfl, leaf_tt ?_⟩)
    | (refine ⟨trivial, rfl, rfl, rfl, leaf_ff ?_⟩)
    | (refine ⟨trivial, rfl, rfl, rfl, leaf_b ?_⟩)
    | fail
  all_goals (first | (simp_all [formedB, gapOk]; done) | (simp_all [formedB, gapOk]; intros; omega))

set_option maxRecDepth 100000 in
/-- Light: within the bound, the lengths and what is put. -/
theorem w_Light (o : OpT) (top : Nat) (ht : top ≤ 1000000) : Pure Tryz.prog 30 [opV o, .int .i64 top] (fun x => ∃ b : Bool, x = .bool b ∧ (b = true → o.Lt top ∧ putsLen o.pieces ≤ top)) := by
  have bad : ∃ y, Wk .ff y ∧ y.pureB = true ∧ ∃ b : Bool, y = .bool b ∧ (b = true → o.Lt top ∧ putsLen o.pieces ≤ top) := ⟨_, Wk.ff, rfl, false, rfl, fun h => by cases h⟩
  refine pure_wk (pure_fn 300 Tryz.func30 rfl rfl rfl fun B => ?_)
  refine ⟨fun g1 => go 300 ?_, fun g1 => go 300 ?_⟩
  · exact ⟨trivial, rfl, rfl, rfl, bad⟩
  refine ⟨fun g2 => go 300 ?_, fun g2 => go 300 ?_⟩
  · exact ⟨trivial, rfl, rfl, rfl, bad⟩
  refine ⟨fun g3 => go 300 ?_, fun g3 => go 300 ?_⟩
  · exact ⟨trivial, rfl, rfl, rfl, bad⟩
  refine ⟨fun g4 => go 300 ?_, fun g4 => go 300 ?_⟩
  · exact ⟨trivial, rfl, rfl, rfl, bad⟩
  refine ⟨fun g5 => go 300 ?_, fun g5 => go 300 ?_⟩
  · exact ⟨trivial, rfl, rfl, rfl, bad⟩
  refine ⟨fun g6 => go 300 ?_, fun g6 => go 300 ?_⟩
  · exact ⟨trivial, rfl, rfl, rfl, bad⟩
  have g1 := not_lt_of g1
  have g2 := not_lt_of g2
  have g3 := not_lt_of g3
  have g4 := not_lt_of g4
  have g5 := not_lt_of g5
  have g6 := not_lt_of g6
  simp only [List.length_map] at g1 g2 g6
  have hlt : o.Lt top := ⟨by omega, by omega, by omega, by omega, by omega, by omega⟩
  show Goes _ _ _ _
  refine goes_iter (ι := Nat × Nat) (fun i => i.1 ≤ o.pieces.length ∧ i.2 ≤ top ∧ putsLen o.pieces = i.2 + putsLen (o.pieces.drop i.1)) (fun i => o.pieces.length - i.1) (fun i => [(6, .int .i64 i.1), (5, .int .i64 i.2), (1, .int .i64 top), (2, .ptr (.loc 0) 0)]) (fun _ => [some (.box (opV o).cells)]) (0, 0) 200 (fun _ => rfl) (fun _ => rfl) ⟨⟨Nat.zero_le _, Nat.zero_le _, by simp⟩, ?_, ?_⟩ ?_
  · exact ⟨⟨rfl, rfl⟩, ⟨rfl, rfl⟩, ⟨rfl, rfl⟩, ⟨rfl, rfl⟩, trivial⟩
  · exact ⟨⟨rfl, rfl⟩, trivial⟩
  · rintro ⟨i, n⟩ ⟨h1, h3, h2⟩ next
    simp only at h1 h2 h3
    refine ⟨fun hlt => go 200 ?_, fun hge => go 200 ?_⟩
    · have hi : i < o.pieces.length := by simpa using hlt
      have hx : (o.pieces.map pieceV)[i]? = some (pieceV o.pieces[i]) := by simp [hi]
      rw [drop_cons hi] at h2
      have h2 : putsLen o.pieces = n + ((o.pieces[i]).put.length + putsLen (o.pieces.drop (i + 1))) := h2
      refine ⟨Int.natCast_nonneg i, _, hx, ?_⟩
      refine ⟨by constructor <;> omega, ?_⟩
      refine ⟨fun g7 => go 200 ?_, fun g7 => go 200 ?_⟩
      · exact ⟨trivial, rfl, rfl, rfl, bad⟩
      have g7 := not_lt_of g7
      refine ⟨Int.natCast_nonneg i, _, hx, ?_⟩
      refine ⟨by constructor <;> omega, ?_⟩
      refine ⟨by constructor <;> omega, ?_⟩
      show Goes _ _ _ _
      refine next (i + 1, n + (o.pieces[i]).put.length) _ _ ⟨⟨hi, by simp only; omega, by simp only; omega⟩, ?_, ⟨⟨rfl, rfl⟩, ⟨rfl, rfl⟩, ⟨rfl, rfl⟩, ⟨rfl, rfl⟩, trivial⟩, ⟨⟨rfl, rfl⟩, trivial⟩⟩
      simp only; omega
    · have hi : o.pieces.length ≤ i := by simpa using hge
      rw [List.drop_eq_nil_of_le hi] at h2
      have h2 : putsLen o.pieces = n + 0 := h2
      exact ⟨trivial, rfl, rfl, rfl, _, Wk.tt, rfl, true, rfl, fun _ => ⟨hlt, by omega⟩⟩

/-- A list, light. -/
structure LightL (l : List OpT) (count top : Nat) : Prop where
  len : l.length ≤ count
  ops : ∀ o ∈ l, o.Lt top ∧ putsLen o.pieces ≤ top
def opsV (l : List OpT) : V := .sl 11 (l.map opV)
set_option maxRecDepth 100000 in
theorem w_LightList (l : List OpT) (count top : Nat) (hc : count ≤ 1000000) (ht : top ≤ 1000000) : Pure Tryz.prog 18 [opsV l, .int .i64 count, .int .i64 top] (fun x => ∃ b : Bool, x = .bool b ∧ (b = true → LightL l count top)) := by
  have bad : ∃ y, Wk .ff y ∧ y.pureB = true ∧ ∃ b : Bool, y = .bool b ∧ (b = true → LightL l count top) := ⟨_, Wk.ff, rfl, false, rfl, fun h => by cases h⟩
  refine pure_wk (pure_fn 300 Tryz.func18 rfl rfl rfl fun B => ?_)
  refine ⟨fun g1 => go 300 ?_, fun g1 => go 300 ?_⟩
  · exact ⟨trivial, rfl, rfl, rfl, bad⟩
  have g1 := not_lt_of g1
  simp only [List.length_map] at g1
  show Goes _ _ _ _
  refine goes_iter (ι := Nat) (fun i => i ≤ l.length ∧ ∀ o ∈ l.take i, o.Lt top ∧ putsLen o.pieces ≤ top) (fun i => l.length - i) (fun i => [(7, .int .i64 i), (2, .int .i64 top), (0, opsV l)]) (fun _ => []) 0 200 (fun _ => rfl) (fun _ => rfl) ⟨⟨Nat.zero_le _, by simp⟩, ?_, ?_⟩ ?_
  · exact ⟨⟨rfl, rfl⟩, ⟨rfl, rfl⟩, ⟨rfl, rfl⟩, trivial⟩
  · trivial
  · rintro i ⟨h1, h2⟩ next
    refine ⟨fun hlt => go 200 ?_, fun hge => go 200 ?_⟩
    · have hi : i < l.length := by simpa using hlt
      have hx : (l.map opV)[i]? = some (opV l[i]) := by simp [hi]
      refine ⟨Int.natCast_nonneg i, _, hx, ?_⟩
      show CallThen _ _ _ _ _ _
      refine call_pure (w_Light l[i] top ht) rfl ?_
      rintro x ⟨b, rfl, hb⟩
      refine ⟨fun g => go 200 ?_, fun g => go 200 ?_⟩
      · exact ⟨trivial, rfl, rfl, rfl, bad⟩
      have g : b = true := by simpa using g
      refine ⟨by constructor <;> omega, ?_⟩
      show Goes _ _ _ _
      refine next (i + 1) _ _ ⟨⟨hi, fun o ho => ?_⟩, by omega, ⟨⟨rfl, rfl⟩, ⟨rfl, rfl⟩, ⟨rfl, rfl⟩, trivial⟩, trivial⟩
      rw [List.take_add_one, List.getElem?_eq_getElem hi] at ho
      rcases List.mem_append.1 ho with ho | ho
      · exact h2 o ho
      · simp at ho
        subst ho
        exact hb g
    · have hi : l.length ≤ i := by simpa using hge
      rw [List.take_of_length_le hi] at h2
      exact ⟨trivial, rfl, rfl, rfl, _, Wk.tt, rfl, true, rfl, fun _ => ⟨by omega, h2⟩⟩
end Bow
/- W9: Bare; puts; Fits. -/
namespace Bow
open Go Go.Proofs

theorem w_someInt (p : List Int) (h : p.length ≤ 1000000) : Pure Tryz.prog 60 [pathV p] (fun x => x = pathV p) := by
  refine pure_fn 100 Tryz.func60 rfl rfl rfl fun B => ?_
  refine ⟨Nat.le_trans (Nat.mul_le_mul_right _ (show (p.map intV).length ≤ 1000000 by simpa using h)) (by decide), ?_⟩
  exact ⟨trivial, rfl, rfl, rfl, rfl, rfl, rfl⟩
theorem w_somePiece (p : List PieceT) (h : p.length ≤ 1000000) : Pure Tryz.prog 61 [piecesV p] (fun x => x = piecesV p) := by
  refine pure_fn 100 Tryz.func61 rfl rfl rfl fun B => ?_
  refine ⟨Nat.le_trans (Nat.mul_le_mul_right _ (show (p.map pieceV).length ≤ 1000000 by simpa using h)) (by decide), ?_⟩
  exact ⟨trivial, rfl, rfl, rfl, rfl, rfl, rfl⟩

/-- An operation as a literal lays it. -/
theorem wk_op {o : OpT} {cs : List V} (h : WkL cs (opV o).cells) : Wk (.agg cs) (opV o) := Wk.agg h

set_option maxRecDepth 100000 in
theorem w_Bare (o : OpT) (ho : o.Lt 1000000) : Pure Tryz.prog 41 [opV o] (fun x => x = opV (bareO o)) := by
  refine pure_wk (pure_fn 300 Tryz.func41 rfl rfl rfl fun B => ?_)
  show Goes _ _ _ _
  refine goes_draw 300 ?_
  refine ⟨_, w_someInt o.path ho.path, rfl, ?_⟩
  refine ⟨by kernel_rfl, ?_⟩
  refine ⟨by kernel_rfl, ?_⟩
  have hp := ho.path
  have ht := ho.to
  have hpc := ho.pieces
  refine ⟨fun g1 => go 300 ?_, fun g1 => go 300 ?_⟩
  · have g1 := eq_of g1
    show Goes _ _ _ _
    refine goes_draw 300 ?_
    refine ⟨by kernel_rfl, ?_⟩
    refine ⟨trivial, rfl, rfl, rfl, _, ?_, ?_, rfl⟩
    · simp only [bareO, g1]
      refine wk_op ⟨.refl _, .refl _, .refl _, Wk.nil 1, .refl _, .refl _, .refl _, .refl _, .refl _, Wk.ff, Wk.nil 3, trivial⟩
    · rfl
  refine ⟨fun g2 => go 300 ?_, fun g2 => go 300 ?_⟩
  · have g2 := eq_of g2
    refine ⟨trivial, rfl, rfl, rfl, _, ?_, ?_, rfl⟩
    · simp only [bareO, g2]
      refine wk_op ⟨.refl _, .refl _, .refl _, Wk.nil 1, .refl _, Wk.ff, .refl _, .refl _, .refl _, Wk.ff, Wk.nil 3, trivial⟩
    · rfl
  refine ⟨fun g3 => go 300 ?_, fun g3 => go 300 ?_⟩
  · have g3 := eq_of g3
    show Goes _ _ _ _
    refine goes_draw 300 ?_
    refine ⟨_, w_someInt o.to ho.to, rfl, ?_⟩
    refine ⟨by kernel_rfl, ?_⟩
    refine ⟨trivial, rfl, rfl, rfl, _, ?_, ?_, rfl⟩
    · simp only [bareO, g3]
      refine wk_op ⟨.refl _, .refl _, .refl _, .refl _, .refl _, Wk.ff, .refl _, .refl _, .refl _, Wk.ff, Wk.nil 3, trivial⟩
    · rfl
  refine ⟨fun g4 => go 300 ?_, fun g4 => go 300 ?_⟩
  · have g4 := eq_of g4
    show Goes _ _ _ _
    refine goes_draw 300 ?_
    refine ⟨by kernel_rfl, ?_⟩
    refine ⟨fun h => go 300 ?_, fun h => go 300 ?_⟩
    · have h : o.gone = false := by simpa using h
      refine ⟨trivial, rfl, rfl, rfl, _, ?_, ?_, rfl⟩
      · simp only [bareO, g4, h]
        refine wk_op ⟨.refl _, .refl _, .refl _, Wk.nil 1, .refl _, Wk.ff, .refl _, .refl _, .refl _, .refl _, Wk.nil 3, trivial⟩
      · rfl
    · have h : o.gone = true := by simpa using h
      refine ⟨trivial, rfl, rfl, rfl, _, ?_, ?_, rfl⟩
      · simp only [bareO, g4, h]
        refine wk_op ⟨.refl _, .refl _, .refl _, Wk.nil 1, .refl _, Wk.ff, .refl _, .refl _, .refl _, .refl _, Wk.nil 3, trivial⟩
      · rfl
  refine ⟨fun g5 => go 300 ?_, fun g5 => go 300 ?_⟩
  · have g5 := eq_of g5
    refine ⟨trivial, rfl, rfl, rfl, _, ?_, ?_, rfl⟩
    · simp only [bareO, g5]
      refine wk_op ⟨.refl _, .refl _, .refl _, Wk.nil 1, .refl _, Wk.ff, .refl _, .refl _, .refl _, Wk.ff, Wk.nil 3, trivial⟩
    · rfl
  refine ⟨fun g6 => go 300 ?_, fun g6 => go 300 ?_⟩
  · have g6 := eq_of g6
    show CallThen _ _ _ _ _ _
    refine call_pure (w_somePiece o.pieces ho.pieces) rfl ?_
    rintro x rfl
    refine ⟨trivial, rfl, rfl, rfl, _, ?_, ?_, rfl⟩
    · simp only [bareO, g6]
      refine wk_op ⟨.refl _, .refl _, .refl _, Wk.nil 1, .refl _, Wk.ff, .refl _, .refl _, .refl _, Wk.ff, .refl _, trivial⟩
    · rfl
  · have g1 := ne_of g1
    have g2 := ne_of g2
    have g3 := ne_of g3
    have g4 := ne_of g4
    have g5 := ne_of g5
    have g6 := ne_of g6
    refine ⟨trivial, rfl, rfl, rfl, _, ?_, ?_, rfl⟩
    · have e : bareO o = noOp o.kind := by
        unfold bareO
        rw [show (o.kind == 1) = false by simpa using g1, show (o.kind == 2) = false by simpa using g2, show (o.kind == 3) = false by simpa using g3, show (o.kind == 4) = false by simpa using g4, show (o.kind == 5) = false by simpa using g5, show (o.kind == 6) = false by simpa using g6]
        rfl
      rw [e]
      refine wk_op ⟨.refl _, Wk.nil 1, .refl _, Wk.nil 1, .refl _, Wk.ff, .refl _, .refl _, .refl _, Wk.ff, Wk.nil 3, trivial⟩
    · rfl
end Bow
/- W10: the reference's Bare; puts; Fits. -/
namespace Bow
open Go Go.Proofs

theorem room_of {n b : Nat} (h : n ≤ 1000000) (hb : b ≤ 70368744) : room n b := Nat.le_trans (Nat.mul_le_mul h hb) (by decide)

set_option maxRecDepth 100000 in
theorem w_refBare (o : OpT) (ho : o.Lt 1000000) : Pure Tryz.prog 37 [opV o] (fun x => x = opV (bareO o)) := by
  refine pure_wk (pure_fn 300 Tryz.func37 rfl rfl rfl fun B => ?_)
  have hp := ho.path
  have ht := ho.to
  have hpc := ho.pieces
  refine ⟨room_of (by simpa using ho.path) (by decide), ?_⟩
  refine ⟨room_of (by simpa using ho.to) (by decide), ?_⟩
  refine ⟨fun g1 => go 300 ?_, fun g1 => go 300 ?_⟩
  · have g1 := eq_of g1
    refine ⟨trivial, rfl, rfl, rfl, rfl, rfl, _, ?_, ?_, rfl⟩
    · simp only [bareO, g1]
      refine wk_op ⟨.refl _, .refl _, .refl _, Wk.nil 1, .refl _, .refl _, .refl _, .refl _, .refl _, Wk.ff, Wk.nil 3, trivial⟩
    · rfl
  refine ⟨fun g2 => go 300 ?_, fun g2 => go 300 ?_⟩
  · have g2 := eq_of g2
    refine ⟨trivial, rfl, rfl, rfl, rfl, rfl, _, ?_, ?_, rfl⟩
    · simp only [bareO, g2]
      refine wk_op ⟨.refl _, .refl _, .refl _, Wk.nil 1, .refl _, Wk.ff, .refl _, .refl _, .refl _, Wk.ff, Wk.nil 3, trivial⟩
    · rfl
  refine ⟨fun g3 => go 300 ?_, fun g3 => go 300 ?_⟩
  · have g3 := eq_of g3
    refine ⟨trivial, rfl, rfl, rfl, rfl, rfl, rfl, rfl, _, ?_, ?_, rfl⟩
    · simp only [bareO, g3]
      refine wk_op ⟨.refl _, .refl _, .refl _, .refl _, .refl _, Wk.ff, .refl _, .refl _, .refl _, Wk.ff, Wk.nil 3, trivial⟩
    · rfl
  refine ⟨fun g4 => go 300 ?_, fun g4 => go 300 ?_⟩
  · have g4 := eq_of g4
    refine ⟨fun h => go 300 ?_, fun h => go 300 ?_⟩
    · have h : o.gone = false := by simpa using h
      refine ⟨trivial, rfl, rfl, rfl, rfl, rfl, _, ?_, ?_, rfl⟩
      · simp only [bareO, g4, h]
        refine wk_op ⟨.refl _, .refl _, .refl _, Wk.nil 1, .refl _, Wk.ff, .refl _, .refl _, .refl _, .refl _, Wk.nil 3, trivial⟩
      · rfl
    · have h : o.gone = true := by simpa using h
      refine ⟨trivial, rfl, rfl, rfl, rfl, rfl, _, ?_, ?_, rfl⟩
      · simp only [bareO, g4, h]
        refine wk_op ⟨.refl _, .refl _, .refl _, Wk.nil 1, .refl _, Wk.ff, .refl _, .refl _, .refl _, .refl _, Wk.nil 3, trivial⟩
      · rfl
  refine ⟨fun g5 => go 300 ?_, fun g5 => go 300 ?_⟩
  · have g5 := eq_of g5
    refine ⟨trivial, rfl, rfl, rfl, rfl, rfl, _, ?_, ?_, rfl⟩
    · simp only [bareO, g5]
      refine wk_op ⟨.refl _, .refl _, .refl _, Wk.nil 1, .refl _, Wk.ff, .refl _, .refl _, .refl _, Wk.ff, Wk.nil 3, trivial⟩
    · rfl
  refine ⟨fun g6 => go 300 ?_, fun g6 => go 300 ?_⟩
  · have g6 := eq_of g6
    refine ⟨room_of (by simpa using ho.pieces) (by decide), ?_⟩
    refine ⟨trivial, rfl, rfl, rfl, rfl, rfl, rfl, rfl, _, ?_, ?_, rfl⟩
    · simp only [bareO, g6]
      refine wk_op ⟨.refl _, .refl _, .refl _, Wk.nil 1, .refl _, Wk.ff, .refl _, .refl _, .refl _, Wk.ff, .refl _, trivial⟩
    · rfl
  · have g1 := ne_of g1
    have g2 := ne_of g2
    have g3 := ne_of g3
    have g4 := ne_of g4
    have g5 := ne_of g5
    have g6 := ne_of g6
    refine ⟨trivial, rfl, rfl, rfl, _, ?_, ?_, rfl⟩
    · have e : bareO o = noOp o.kind := by
        unfold bareO
        rw [show (o.kind == 1) = false by simpa using g1, show (o.kind == 2) = false by simpa using g2, show (o.kind == 3) = false by simpa using g3, show (o.kind == 4) = false by simpa using g4, show (o.kind == 5) = false by simpa using g5, show (o.kind == 6) = false by simpa using g6]
        rfl
      rw [e]
      refine wk_op ⟨.refl _, Wk.nil 1, .refl _, Wk.nil 1, .refl _, Wk.ff, .refl _, .refl _, .refl _, Wk.ff, Wk.nil 3, trivial⟩
    · rfl

/-! ### What is put -/
def putsO (o : OpT) : Nat := o.label.length + o.key.length + o.value.length + putsLen o.pieces
theorem putsLen_cons (p : PieceT) (l : List PieceT) : putsLen (p :: l) = p.put.length + putsLen l := rfl
theorem bare_lt {o : OpT} {n : Nat} (h : o.Lt n) : (bareO o).Lt n := by
  unfold bareO noOp
  rcases Bool.eq_false_or_eq_true (o.kind == 1) with e | e <;> rw [e] <;> simp only [cond_true, cond_false]
  · exact ⟨h.path, Nat.zero_le _, h.label, Nat.zero_le _, Nat.zero_le _, Nat.zero_le _⟩
  rcases Bool.eq_false_or_eq_true (o.kind == 2) with e | e <;> rw [e] <;> simp only [cond_true, cond_false]
  · exact ⟨h.path, Nat.zero_le _, Nat.zero_le _, Nat.zero_le _, Nat.zero_le _, Nat.zero_le _⟩
  rcases Bool.eq_false_or_eq_true (o.kind == 3) with e | e <;> rw [e] <;> simp only [cond_true, cond_false]
  · exact ⟨h.path, h.to, Nat.zero_le _, Nat.zero_le _, Nat.zero_le _, Nat.zero_le _⟩
  rcases Bool.eq_false_or_eq_true (o.kind == 4) with e | e <;> rw [e] <;> simp only [cond_true, cond_false]
  · refine ⟨h.path, Nat.zero_le _, Nat.zero_le _, h.key, ?_, Nat.zero_le _⟩
    cases o.gone <;> simp [h.value]
  rcases Bool.eq_false_or_eq_true (o.kind == 5) with e | e <;> rw [e] <;> simp only [cond_true, cond_false]
  · exact ⟨h.path, Nat.zero_le _, h.label, Nat.zero_le _, Nat.zero_le _, Nat.zero_le _⟩
  rcases Bool.eq_false_or_eq_true (o.kind == 6) with e | e <;> rw [e] <;> simp only [cond_true, cond_false]
  · exact ⟨h.path, Nat.zero_le _, Nat.zero_le _, Nat.zero_le _, Nat.zero_le _, h.pieces⟩
  · exact ⟨Nat.zero_le _, Nat.zero_le _, Nat.zero_le _, Nat.zero_le _, Nat.zero_le _, Nat.zero_le _⟩
theorem bare_puts {o : OpT} : putsLen (bareO o).pieces ≤ putsLen o.pieces := by
  unfold bareO noOp
  rcases Bool.eq_false_or_eq_true (o.kind == 1) with e | e <;> rw [e] <;> simp only [cond_true, cond_false]
  · exact Nat.zero_le _
  rcases Bool.eq_false_or_eq_true (o.kind == 2) with e | e <;> rw [e] <;> simp only [cond_true, cond_false]
  · exact Nat.zero_le _
  rcases Bool.eq_false_or_eq_true (o.kind == 3) with e | e <;> rw [e] <;> simp only [cond_true, cond_false]
  · exact Nat.zero_le _
  rcases Bool.eq_false_or_eq_true (o.kind == 4) with e | e <;> rw [e] <;> simp only [cond_true, cond_false]
  · exact Nat.zero_le _
  rcases Bool.eq_false_or_eq_true (o.kind == 5) with e | e <;> rw [e] <;> simp only [cond_true, cond_false]
  · exact Nat.zero_le _
  rcases Bool.eq_false_or_eq_true (o.kind == 6) with e | e <;> rw [e] <;> simp only [cond_true, cond_false]
  · exact Nat.le_refl _
  · exact Nat.zero_le _

set_option maxRecDepth 100000 in
theorem w_puts (o : OpT) (ho : o.Lt 1000000) (hq : putsLen o.pieces ≤ 1048576) : Pure Tryz.prog 25 [opV o] (fun x => x = .int .i64 (putsO (bareO o))) := by
  refine pure_fn 300 Tryz.func25 rfl rfl rfl fun B => ?_
  show CallThen _ _ _ _ _ _
  refine call_pure (w_Bare o ho) rfl ?_
  rintro x rfl
  have hb := bare_lt ho
  have hbp := bare_puts (o := o)
  generalize bareO o = q at hb hbp
  have h1 := hb.label
  have h2 := hb.key
  have h3 := hb.value
  have h4 := hb.pieces
  refine ⟨by constructor <;> omega, ?_⟩
  refine ⟨by constructor <;> omega, ?_⟩
  show Goes _ _ _ _
  refine goes_iter (ι := Nat × Nat) (fun i => i.1 ≤ q.pieces.length ∧ putsO q = i.2 + putsLen (q.pieces.drop i.1)) (fun i => q.pieces.length - i.1) (fun i => [(22, .int .i64 i.1), (21, .int .i64 (q.pieces.map pieceV).length), (20, piecesV q.pieces), (3, .int .i64 i.2)]) (fun _ => []) (0, q.label.length + q.key.length + q.value.length) 200 (fun _ => rfl) (fun _ => rfl) ⟨⟨Nat.zero_le _, rfl⟩, ?_, ?_⟩ ?_
  · exact ⟨⟨rfl, rfl⟩, ⟨rfl, rfl⟩, ⟨rfl, rfl⟩, ⟨rfl, rfl⟩, trivial⟩
  · trivial
  · rintro ⟨i, n⟩ ⟨k1, k2⟩ next
    simp only at k1 k2
    have hpo : putsO q ≤ 4100000 := by unfold putsO; omega
    refine ⟨fun hlt => go 200 ?_, fun hge => go 200 ?_⟩
    · have hi : i < q.pieces.length := by simpa using hlt
      have hx : (q.pieces.map pieceV)[i]? = some (pieceV q.pieces[i]) := by simp [hi]
      rw [drop_cons hi, putsLen_cons] at k2
      refine ⟨Int.natCast_nonneg i, _, hx, ?_⟩
      refine ⟨by constructor <;> omega, ?_⟩
      refine ⟨by constructor <;> omega, ?_⟩
      show Goes _ _ _ _
      refine next (i + 1, n + (q.pieces[i]).put.length) _ _ ⟨⟨hi, by simp only; omega⟩, ?_, ⟨⟨rfl, rfl⟩, ⟨rfl, rfl⟩, ⟨rfl, rfl⟩, ⟨rfl, rfl⟩, trivial⟩, trivial⟩
      simp only; omega
    · have hi : q.pieces.length ≤ i := by simpa using hge
      rw [List.drop_eq_nil_of_le hi] at k2
      have k2 : putsO q = n + 0 := k2
      exact ⟨trivial, rfl, rfl, rfl, by rw [k2]; rfl⟩

/-- Up to 65537. -/
def capN (n : Nat) : Nat := min n 65537
def capPuts : Nat → List PieceT → Nat
  | n, [] => n
  | n, p :: l => capPuts (capN n + capN p.put.length) l
theorem capPuts_eq : ∀ (l : List PieceT) (n : Nat), capN (capPuts n l) = capN (n + putsLen l)
  | [], n => rfl
  | p :: l, n => by
    rw [capPuts, capPuts_eq l, putsLen_cons]
    unfold capN
    omega
theorem capPuts_le : ∀ (l : List PieceT) (n : Nat), n ≤ 4100000 → capPuts n l ≤ 4100000
  | [], n, h => h
  | p :: l, n, h => capPuts_le l _ (by unfold capN; omega)

set_option maxRecDepth 100000 in
theorem w_refPuts (o : OpT) (hb : o.Lt 1000000) (hq : putsLen o.pieces ≤ 1048576) : Pure Tryz.prog 36 [opV o] (fun x => x = .int .i64 (capN (putsO o))) := by
  refine pure_fn 300 Tryz.func36 rfl rfl rfl fun B => ?_
  have h1 := hb.label
  have h2 := hb.key
  have h3 := hb.value
  have h4 := hb.pieces
  refine ⟨by constructor <;> omega, ?_⟩
  refine ⟨by constructor <;> omega, ?_⟩
  show Goes _ _ _ _
  refine goes_iter (ι := Nat × Nat) (fun i => i.1 ≤ o.pieces.length ∧ i.2 ≤ 4100000 ∧ capN (putsO o) = capN (i.2 + putsLen (o.pieces.drop i.1))) (fun i => o.pieces.length - i.1) (fun i => [(4, .int .i64 i.1), (3, .int .i64 i.2), (1, .ptr (.loc 0) 0)]) (fun _ => [some (.box (opV o).cells)]) (0, o.label.length + o.key.length + o.value.length) 200 (fun _ => rfl) (fun _ => rfl) ⟨⟨Nat.zero_le _, by simp only; omega, rfl⟩, ?_, ?_⟩ ?_
  · exact ⟨⟨rfl, rfl⟩, ⟨rfl, rfl⟩, ⟨rfl, rfl⟩, trivial⟩
  · exact ⟨⟨rfl, rfl⟩, trivial⟩
  · rintro ⟨i, n⟩ ⟨k1, k3, k2⟩ next
    simp only at k1 k2 k3
    have emin : ∀ a : Nat, (if (65537 : Int) < (a : Int) then (65537 : Int) else (a : Int)) = ((capN a : Nat) : Int) := fun a => by unfold capN; split <;> omega
    refine ⟨fun hlt => go 200 ?_, fun hge => go 200 ?_⟩
    · have hi : i < o.pieces.length := by simpa using hlt
      have hx : (o.pieces.map pieceV)[i]? = some (pieceV o.pieces[i]) := by simp [hi]
      rw [drop_cons hi, putsLen_cons] at k2
      refine ⟨Int.natCast_nonneg i, _, hx, ?_⟩
      have c1 : capN n ≤ 65537 := Nat.min_le_right _ _
      have c2 : capN (o.pieces[i]).put.length ≤ 65537 := Nat.min_le_right _ _
      have e2 : (if (65537 : Int) < (n : Int) then (65537 : Int) else (n : Int)) + (if (65537 : Int) < ((o.pieces[i]).put.length : Int) then (65537 : Int) else ((o.pieces[i]).put.length : Int)) = ((capN n + capN (o.pieces[i]).put.length : Nat) : Int) := by rw [emin, emin]; rfl
      refine ⟨?_, ?_⟩
      · show inI ((if (65537 : Int) < (n : Int) then (65537 : Int) else (n : Int)) + (if (65537 : Int) < ((o.pieces[i]).put.length : Int) then (65537 : Int) else ((o.pieces[i]).put.length : Int)))
        rw [e2]
        constructor <;> omega
      refine ⟨by constructor <;> omega, ?_⟩
      show Goes _ _ _ _
      refine next (i + 1, capN n + capN (o.pieces[i]).put.length) _ _ ⟨⟨hi, by simp only; omega, ?_⟩, ?_, ⟨⟨rfl, rfl⟩, ⟨by simp only; rw [← e2]; rfl, rfl⟩, ⟨rfl, rfl⟩, trivial⟩, ⟨⟨rfl, rfl⟩, trivial⟩⟩
      · rw [k2]
        unfold capN
        simp only
        omega
      · simp only; omega
    · have hi : o.pieces.length ≤ i := by simpa using hge
      rw [List.drop_eq_nil_of_le hi] at k2
      have k2 : capN (putsO o) = capN (n + 0) := k2
      refine ⟨trivial, rfl, rfl, rfl, ?_⟩
      rw [k2, ← emin]
      rfl
end Bow
/- W11: Fits; the chapter's examples; the laws' functions. -/
namespace Bow
open Go Go.Proofs

def badO (o : OpT) : Bool := !formedB o || (decide (o.kind = 6) && decide ((64 : Int) < o.pieces.length))
def sumPuts (l : List OpT) : Nat := l.foldr (fun o n => putsO (bareO o) + n) 0
def fitsE (l : List OpT) : Int := bif decide (64 < l.length) then 3 else bif l.any badO then 80 else bif decide (65536 < sumPuts l) then 3 else 0
structure OpT.Ok (o : OpT) : Prop where
  lt : o.Lt 1000000
  puts : putsLen o.pieces ≤ 1048576
theorem put_le {l : List PieceT} : ∀ p ∈ l, p.put.length ≤ putsLen l := by
  induction l with
  | nil => intro p h; cases h
  | cons q l ih =>
    intro p h
    rw [putsLen_cons]
    rcases List.mem_cons.1 h with rfl | h
    · omega
    · have := ih p h; omega
theorem OpT.Ok.each {o : OpT} (h : o.Ok) : ∀ p ∈ o.pieces, p.put.length ≤ 1000000000 := fun p hp => by have := put_le p hp; have := h.puts; omega
theorem bare_ok {o : OpT} (h : o.Ok) : (bareO o).Ok := ⟨bare_lt h.lt, Nat.le_trans bare_puts h.puts⟩
theorem putsO_le {o : OpT} (h : o.Ok) : putsO o ≤ 4100000 := by
  have := h.lt.label
  have := h.lt.key
  have := h.lt.value
  have := h.puts
  unfold putsO
  omega
theorem sumPuts_cons (o : OpT) (l : List OpT) : sumPuts (o :: l) = putsO (bareO o) + sumPuts l := rfl

set_option maxRecDepth 100000 in
theorem w_Fits (l : List OpT) (hlen : l.length ≤ 1000000) (hok : ∀ o ∈ l, o.Ok) : Pure Tryz.prog 11 [opsV l] (fun x => x = .int .i64 (fitsE l)) := by
  refine pure_fn 300 Tryz.func11 rfl rfl rfl fun B => ?_
  refine ⟨fun g1 => go 300 ?_, fun g1 => go 300 ?_⟩
  · have g1 : 64 < l.length := by have := lt_of g1; simp at this; omega
    exact ⟨trivial, rfl, rfl, rfl, by unfold fitsE; rw [decide_eq_true g1]; rfl⟩
  have g1 : l.length ≤ 64 := by have := not_lt_of g1; simp at this; omega
  show Goes _ _ _ _
  refine goes_iter (ι := Nat × Nat) (fun i => i.1 ≤ l.length ∧ i.2 ≤ i.1 * 4100000 ∧ l.any badO = (l.drop i.1).any badO ∧ sumPuts l = i.2 + sumPuts (l.drop i.1)) (fun i => l.length - i.1) (fun i => [(11, .int .i64 i.1), (10, .int .i64 (l.map opV).length), (9, opsV l), (3, .int .i64 i.2)]) (fun _ => []) (0, 0) 300 (fun _ => rfl) (fun _ => rfl) ⟨⟨Nat.zero_le _, Nat.zero_le _, rfl, by simp⟩, ?_, ?_⟩ ?_
  · exact ⟨⟨rfl, rfl⟩, ⟨rfl, rfl⟩, ⟨rfl, rfl⟩, ⟨rfl, rfl⟩, trivial⟩
  · trivial
  · rintro ⟨i, n⟩ ⟨k1, k2, k3, k4⟩ next
    simp only at k1 k2 k3 k4
    refine ⟨fun hlt => go 300 ?_, fun hge => go 300 ?_⟩
    · have hi : i < l.length := by simpa using hlt
      have hx : (l.map opV)[i]? = some (opV l[i]) := by simp [hi]
      have ho := hok l[i] (List.getElem_mem hi)
      have hpu := putsO_le (bare_ok ho)
      rw [drop_cons hi, List.any_cons] at k3
      rw [drop_cons hi, sumPuts_cons] at k4
      refine ⟨Int.natCast_nonneg i, _, hx, ?_⟩
      show CallThen _ _ _ _ _ _
      refine call_pure (w_Formed l[i] ho.lt ho.each) rfl ?_
      rintro x rfl
      have err : badO l[i] = true → (80 : Int) = fitsE l := fun hb => by
        unfold fitsE
        rw [k3, hb, decide_eq_false (p := 64 < l.length) (by omega)]
        rfl
      have cont : badO l[i] = false → l.any badO = (l.drop (i + 1)).any badO := fun hb => by rw [k3, hb, Bool.false_or]
      have hin1 : inI ((n : Int) + ((putsO (bareO l[i]) : Nat) : Int)) := by constructor <;> omega
      have hin2 : inI ((i : Int) + 1) := by constructor <;> omega
      refine ⟨fun g2 => go 300 ?_, fun g2 => go 300 ?_⟩
      · have g2 : formedB l[i] = false := by simpa using g2
        exact ⟨trivial, rfl, rfl, rfl, by rw [← err (by unfold badO; rw [g2]; rfl)]; rfl⟩
      have g2 : formedB l[i] = true := by simpa using g2
      have fin : badO l[i] = false → Pure Tryz.prog 25 [opV l[i]] (fun x => x = .int .i64 (putsO (bareO l[i]))) := fun _ => w_puts l[i] ho.lt ho.puts
      refine ⟨fun g3 => go 300 ?_, fun g3 => go 300 ?_⟩
      · refine ⟨fun g4 => go 300 ?_, fun g4 => go 300 ?_⟩
        · simp only [List.length_map] at g4
          exact ⟨trivial, rfl, rfl, rfl, by rw [← err (by unfold badO; rw [g2, g3, g4]; rfl)]; rfl⟩
        simp only [List.length_map] at g4
        show CallThen _ _ _ _ _ _
        refine call_pure (w_puts l[i] ho.lt ho.puts) rfl ?_
        rintro x rfl
        refine ⟨hin1, hin2, ?_⟩
        show Goes _ _ _ _
        refine next (i + 1, n + putsO (bareO l[i])) _ _ ⟨⟨hi, ?_, cont (by unfold badO; rw [g2, g4]; simp), ?_⟩, ?_, ⟨⟨rfl, rfl⟩, ⟨rfl, rfl⟩, ⟨rfl, rfl⟩, ⟨rfl, rfl⟩, trivial⟩, trivial⟩
        · simp only; omega
        · simp only; omega
        · simp only; omega
      · show CallThen _ _ _ _ _ _
        refine call_pure (w_puts l[i] ho.lt ho.puts) rfl ?_
        rintro x rfl
        refine ⟨hin1, hin2, ?_⟩
        show Goes _ _ _ _
        refine next (i + 1, n + putsO (bareO l[i])) _ _ ⟨⟨hi, ?_, cont (by unfold badO; rw [g2, g3]; rfl), ?_⟩, ?_, ⟨⟨rfl, rfl⟩, ⟨rfl, rfl⟩, ⟨rfl, rfl⟩, ⟨rfl, rfl⟩, trivial⟩, trivial⟩
        · simp only; omega
        · simp only; omega
        · simp only; omega
    · have hi : l.length ≤ i := by simpa using hge
      rw [List.drop_eq_nil_of_le hi] at k3 k4
      have k4 : sumPuts l = n + 0 := k4
      have k3 : l.any badO = false := k3
      have e0 : decide (64 < l.length) = false := decide_eq_false (by omega)
      refine ⟨fun g => go 300 ?_, fun g => go 300 ?_⟩
      · have g := lt_of g
        exact ⟨trivial, rfl, rfl, rfl, by unfold fitsE; rw [e0, k3, decide_eq_true (by omega)]; rfl⟩
      · have g := not_lt_of g
        exact ⟨trivial, rfl, rfl, rfl, by unfold fitsE; rw [e0, k3, decide_eq_false (by omega)]; rfl⟩

theorem capN_sum (n a b : Nat) : capN (capN n + capN a + b) = capN (n + (a + b)) := by unfold capN; omega

set_option maxRecDepth 100000 in
theorem w_refFits (l : List OpT) (hlen : l.length ≤ 1000000) (hok : ∀ o ∈ l, o.Ok) : Pure Tryz.prog 23 [opsV l] (fun x => x = .int .i64 (fitsE l)) := by
  refine pure_fn 300 Tryz.func23 rfl rfl rfl fun B => ?_
  refine ⟨fun g1 => go 300 ?_, fun g1 => go 300 ?_⟩
  · have g1 : 64 < l.length := by have := lt_of g1; simp at this; omega
    exact ⟨trivial, rfl, rfl, rfl, by unfold fitsE; rw [decide_eq_true g1]; rfl⟩
  have g1 : l.length ≤ 64 := by have := not_lt_of g1; simp at this; omega
  have e0 : decide (64 < l.length) = false := decide_eq_false (by omega)
  show Goes _ _ _ _
  refine goes_iter (ι := Nat) (fun i => i ≤ l.length ∧ l.any badO = (l.drop i).any badO) (fun i => l.length - i) (fun i => [(3, .int .i64 i), (0, opsV l)]) (fun _ => []) 0 300 (fun _ => rfl) (fun _ => rfl) ⟨⟨Nat.zero_le _, rfl⟩, ?_, ?_⟩ ?_
  · exact ⟨⟨rfl, rfl⟩, ⟨rfl, rfl⟩, trivial⟩
  · trivial
  · rintro i ⟨k1, k3⟩ next
    refine ⟨fun hlt => go 300 ?_, fun hge => go 300 ?_⟩
    · have hi : i < l.length := by simpa using hlt
      have hx : (l.map opV)[i]? = some (opV l[i]) := by simp [hi]
      have ho := hok l[i] (List.getElem_mem hi)
      rw [drop_cons hi, List.any_cons] at k3
      refine ⟨Int.natCast_nonneg i, _, hx, ?_⟩
      show CallThen _ _ _ _ _ _
      refine call_pure (w_refFormed l[i] ho.lt ho.each) rfl ?_
      rintro x rfl
      have err : badO l[i] = true → (80 : Int) = fitsE l := fun hb => by
        unfold fitsE
        rw [k3, hb, e0]
        rfl
      have cont : badO l[i] = false → l.any badO = (l.drop (i + 1)).any badO := fun hb => by rw [k3, hb, Bool.false_or]
      have hin2 : inI ((i : Int) + 1) := by constructor <;> omega
      refine ⟨fun g2 => go 300 ?_, fun g2 => go 300 ?_⟩
      · have g2 : formedB l[i] = false := by simpa using g2
        exact ⟨trivial, rfl, rfl, rfl, by rw [← err (by unfold badO; rw [g2]; rfl)]; rfl⟩
      have g2 : formedB l[i] = true := by simpa using g2
      refine ⟨Int.natCast_nonneg i, _, hx, ?_⟩
      refine ⟨fun g3 => go 300 ?_, fun g3 => go 300 ?_⟩
      · refine ⟨Int.natCast_nonneg i, _, hx, ?_⟩
        refine ⟨fun g4 => go 300 ?_, fun g4 => go 300 ?_⟩
        · simp only [List.length_map] at g4
          exact ⟨trivial, rfl, rfl, rfl, by rw [← err (by unfold badO; rw [g2, g3, g4]; rfl)]; rfl⟩
        simp only [List.length_map] at g4
        refine ⟨hin2, ?_⟩
        show Goes _ _ _ _
        exact next (i + 1) _ _ ⟨⟨hi, cont (by unfold badO; rw [g2, g4]; simp)⟩, by omega, ⟨⟨rfl, rfl⟩, ⟨rfl, rfl⟩, trivial⟩, trivial⟩
      · refine ⟨hin2, ?_⟩
        show Goes _ _ _ _
        exact next (i + 1) _ _ ⟨⟨hi, cont (by unfold badO; rw [g2, g3]; rfl)⟩, by omega, ⟨⟨rfl, rfl⟩, ⟨rfl, rfl⟩, trivial⟩, trivial⟩
    · have hi : l.length ≤ i := by simpa using hge
      rw [List.drop_eq_nil_of_le hi] at k3
      have k3 : l.any badO = false := k3
      have emin : ∀ a : Nat, (if (65537 : Int) < (a : Int) then (65537 : Int) else (a : Int)) = ((capN a : Nat) : Int) := fun a => by unfold capN; split <;> omega
      show Goes _ _ _ _
      refine goes_iter (ι := Nat × Nat) (fun i => i.1 ≤ l.length ∧ i.2 ≤ 200000 ∧ capN (sumPuts l) = capN (i.2 + sumPuts (l.drop i.1))) (fun i => l.length - i.1) (fun i => [(5, .int .i64 i.1), (4, .int .i64 i.2), (0, opsV l)]) (fun _ => []) (0, 0) 300 (fun _ => rfl) (fun _ => rfl) ⟨⟨Nat.zero_le _, Nat.zero_le _, by simp⟩, ?_, ?_⟩ ?_
      · exact ⟨⟨rfl, rfl⟩, ⟨rfl, rfl⟩, ⟨rfl, rfl⟩, trivial⟩
      · trivial
      · rintro ⟨i, n⟩ ⟨k1, k2, k4⟩ next
        simp only at k1 k2 k4
        refine ⟨fun hlt => go 300 ?_, fun hge => go 300 ?_⟩
        · have hi : i < l.length := by simpa using hlt
          have hx : (l.map opV)[i]? = some (opV l[i]) := by simp [hi]
          have ho := hok l[i] (List.getElem_mem hi)
          rw [drop_cons hi, sumPuts_cons] at k4
          refine ⟨Int.natCast_nonneg i, _, hx, ?_⟩
          show CallThen _ _ _ _ _ _
          refine call_pure (w_refBare l[i] ho.lt) rfl ?_
          rintro x rfl
          show CallThen _ _ _ _ _ _
          refine call_pure (w_refPuts (bareO l[i]) (bare_ok ho).lt (bare_ok ho).puts) rfl ?_
          rintro x rfl
          have c1 : capN n ≤ 65537 := Nat.min_le_right _ _
          have c2 : capN (putsO (bareO l[i])) ≤ 65537 := Nat.min_le_right _ _
          have e2 : (if (65537 : Int) < (n : Int) then (65537 : Int) else (n : Int)) + ((capN (putsO (bareO l[i])) : Nat) : Int) = ((capN n + capN (putsO (bareO l[i])) : Nat) : Int) := by rw [emin]; rfl
          refine ⟨?_, ?_⟩
          · show inI ((if (65537 : Int) < (n : Int) then (65537 : Int) else (n : Int)) + ((capN (putsO (bareO l[i])) : Nat) : Int))
            rw [e2]
            constructor <;> omega
          refine ⟨by constructor <;> omega, ?_⟩
          show Goes _ _ _ _
          refine next (i + 1, capN n + capN (putsO (bareO l[i]))) _ _ ⟨⟨hi, by simp only; omega, ?_⟩, ?_, ⟨⟨rfl, rfl⟩, ⟨by simp only; rw [← e2]; rfl, rfl⟩, ⟨rfl, rfl⟩, trivial⟩, trivial⟩
          · rw [k4]
            exact (capN_sum _ _ _).symm
          · simp only; omega
        · have hi : l.length ≤ i := by simpa using hge
          rw [List.drop_eq_nil_of_le hi] at k4
          have k4 : capN (sumPuts l) = capN (n + 0) := k4
          have k5 : (65536 < sumPuts l) ↔ 65536 < n := by unfold capN at k4; omega
          refine ⟨fun g => go 300 ?_, fun g => go 300 ?_⟩
          · have g := lt_of g
            simp only at g
            exact ⟨trivial, rfl, rfl, rfl, by unfold fitsE; rw [e0, k3, decide_eq_true (k5.2 (by omega))]; rfl⟩
          · have g := not_lt_of g
            simp only at g
            exact ⟨trivial, rfl, rfl, rfl, by unfold fitsE; rw [e0, k3, decide_eq_false (fun h => by have := k5.1 h; omega)]; rfl⟩
end Bow
/- W12: the chapter's examples; the laws' functions. -/
namespace Bow
open Go Go.Proofs

theorem sizes_replicate (t : Tree) : ∀ n, sizes (List.replicate n t) = n * t.size
  | 0 => by simp [sizes]
  | n + 1 => by rw [List.replicate_succ, sizes, sizes_replicate t n, Nat.add_mul]; omega
theorem weights_replicate (t : Tree) : ∀ n, weights (List.replicate n t) = n * t.weight
  | 0 => by simp [weights]
  | n + 1 => by rw [List.replicate_succ, weights, weights_replicate t n, Nat.add_mul]; omega
theorem depths_replicate (t : Tree) : ∀ n, depths (List.replicate n t) ≤ 1 + t.depth
  | 0 => by simp [depths]
  | n + 1 => by rw [List.replicate_succ, depths]; have := depths_replicate t n; omega
theorem longs_replicate (t : Tree) : ∀ n, longs (List.replicate n t) ≤ t.long
  | 0 => by simp [longs]
  | n + 1 => by rw [List.replicate_succ, longs]; have := longs_replicate t n; omega
theorem flat_size (n : Nat) : (flatT n).size = n + 1 := by
  rw [flatT, zeroT, Tree.size, sizes_replicate, zeroT, Tree.size, sizes]
  omega
theorem flat_weight (n : Nat) : (flatT n).weight = n + 1 := by
  rw [flatT, zeroT, Tree.weight, weights_replicate, zeroT, Tree.weight, weights]
  simp [attrLen]
  omega
theorem flat_depth (n : Nat) : (flatT n).depth ≤ 1 := by
  have := depths_replicate (zeroT []) n
  rw [flatT, zeroT, Tree.depth]
  have e : (zeroT []).depth = 0 := by rw [zeroT, Tree.depth, depths]
  rw [e] at this
  exact this
theorem flat_long (n : Nat) : (flatT n).long = 0 := by
  have := longs_replicate (zeroT []) n
  have e : (zeroT []).long = 0 := by rw [zeroT, Tree.long, longs]; rfl
  rw [e] at this
  have h0 : longs (List.replicate n (zeroT [])) = 0 := by omega
  rw [flatT, zeroT, Tree.long, h0]
  rfl
theorem chain_facts : ∀ n, (chainT n).size = n + 1 ∧ (chainT n).weight = n + 1 ∧ (chainT n).depth = n ∧ (chainT n).long = 0
  | 0 => by
    simp only [chainT, zeroT]
    rw [Tree.size, Tree.weight, Tree.depth, Tree.long, sizes, weights, depths, longs]
    exact ⟨rfl, rfl, rfl, rfl⟩
  | n + 1 => by
    obtain ⟨h1, h2, h3, h4⟩ := chain_facts n
    simp only [chainT, zeroT]
    rw [Tree.size, Tree.weight, Tree.depth, Tree.long, sizes, weights, depths, longs, sizes, weights, depths, longs, h1, h2, h3, h4]
    refine ⟨by omega, by simp [attrLen]; omega, by omega, rfl⟩
theorem long_facts (n : Nat) (l : List (List UInt8 × List UInt8)) : (longT n l).size = 2 ∧ (longT n l).weight = n + 2 + (l.length + attrLen l) ∧ (longT n l).depth = 1 ∧ (longT n l).long = n + attrLen l := by
  simp only [longT, zeroT]
  rw [Tree.size, Tree.weight, Tree.depth, Tree.long, sizes, weights, depths, longs, sizes, weights, depths, longs, Tree.size, Tree.weight, Tree.depth, Tree.long, sizes, weights, depths, longs]
  refine ⟨rfl, ?_, rfl, ?_⟩
  · simp [attrLen]; omega
  · simp [Tree.len, Tree.text, Tree.attrs, attrLen]

theorem check_flat (n : Nat) : checkE (flatT n) = if 512 < n + 1 then 160 else 0 := by
  have := flat_depth n
  have := flat_long n
  unfold checkE
  rw [flat_size]
  split
  · rfl
  · rw [if_neg (by omega), if_neg (by omega)]
theorem check_chain (n : Nat) (h : n + 1 ≤ 512) : checkE (chainT n) = if 12 < n then 161 else 0 := by
  obtain ⟨h1, h2, h3, h4⟩ := chain_facts n
  unfold checkE
  rw [h1, h3, h4, if_neg (by omega)]
  split
  · rfl
  · rfl
theorem check_long (n : Nat) (l : List (List UInt8 × List UInt8)) : checkE (longT n l) = if 2048 < n + attrLen l then 162 else 0 := by
  obtain ⟨h1, h2, h3, h4⟩ := long_facts n l
  unfold checkE
  rw [h1, h3, h4, if_neg (by omega), if_neg (by omega)]

def insOp : OpT := noOp 1
theorem wk_insOp : Wk (.sl 11 [.agg [.int .u8 1, .nilsl, .int .i64 0, .nilsl, .int .u64 0, .ff, .str [], .str [], .str [], .ff, .nilsl]]) (opsV [insOp]) :=
  Wk.sl ⟨⟨⟨.refl _, Wk.nil 1, .refl _, Wk.nil 1, .refl _, Wk.ff, .refl _, .refl _, .refl _, Wk.ff, Wk.nil 3, trivial⟩, ⟨rfl, rfl⟩⟩, trivial⟩
theorem insOp_ok : insOp.Ok := ⟨⟨Nat.zero_le _, Nat.zero_le _, Nat.zero_le _, Nat.zero_le _, Nat.zero_le _, Nat.zero_le _⟩, Nat.zero_le _⟩

set_option maxRecDepth 100000 in
theorem w_works16 : Pure Tryz.prog 12 [] (fun x => x = .bool true) := by
  refine pure_wk (pure_fn 300 Tryz.func12 rfl rfl rfl fun B => ?_)
  show CallThen _ _ _ _ _ _
  refine call_pure (w_flat 511 (by decide)) rfl ?_
  rintro x rfl
  show CallThen _ _ _ _ _ _
  refine call_pure (w_Check (flatT 511) (by rw [flat_weight]; decide)) rfl ?_
  rintro x rfl
  refine ⟨fun g => go 300 ?_, fun g => absurd g (by rw [check_flat]; decide)⟩
  show CallThen _ _ _ _ _ _
  refine call_pure (w_flat 512 (by decide)) rfl ?_
  rintro x rfl
  show CallThen _ _ _ _ _ _
  refine call_pure (w_Check (flatT 512) (by rw [flat_weight]; decide)) rfl ?_
  rintro x rfl
  refine ⟨fun g => go 300 ?_, fun g => absurd g (by rw [check_flat]; decide)⟩
  show CallThen _ _ _ _ _ _
  refine call_pure (w_chain 12 (by decide)) rfl ?_
  rintro x rfl
  show CallThen _ _ _ _ _ _
  refine call_pure (w_Check (chainT 12) (by rw [(chain_facts 12).2.1]; decide)) rfl ?_
  rintro x rfl
  refine ⟨fun g => go 300 ?_, fun g => absurd g (by rw [check_chain _ (by decide)]; decide)⟩
  show CallThen _ _ _ _ _ _
  refine call_pure (w_chain 13 (by decide)) rfl ?_
  rintro x rfl
  show CallThen _ _ _ _ _ _
  refine call_pure (w_Check (chainT 13) (by rw [(chain_facts 13).2.1]; decide)) rfl ?_
  rintro x rfl
  refine ⟨fun g => go 300 ?_, fun g => absurd g (by rw [check_chain _ (by decide)]; decide)⟩
  show CallThen _ _ _ _ _ _
  refine call_pure (pure_args (w_long 2048 [] (by decide)) ⟨.refl _, Wk.nil 2, trivial⟩ rfl rfl) rfl ?_
  rintro x rfl
  show CallThen _ _ _ _ _ _
  refine call_pure (w_Check (longT 2048 []) (by rw [(long_facts _ _).2.1]; decide)) rfl ?_
  rintro x rfl
  refine ⟨fun g => go 300 ?_, fun g => absurd g (by rw [check_long]; decide)⟩
  refine ⟨⟨rfl, trivial⟩, ?_⟩
  show CallThen _ _ _ _ _ _
  refine call_pure_frz ?_
  refine ⟨rfl, rfl, _, w_long 2048 [([107], [])] (by decide), rfl, ?_⟩
  rintro x rfl
  show CallThen _ _ _ _ _ _
  refine call_pure (w_Check (longT 2048 [([107], [])]) (by rw [(long_facts _ _).2.1]; decide)) rfl ?_
  rintro x rfl
  refine ⟨fun g => go 300 ?_, fun g => absurd g (by rw [check_long]; decide)⟩
  refine ⟨⟨rfl, trivial⟩, ?_⟩
  show CallThen _ _ _ _ _ _
  refine call_pure_frz ?_
  refine ⟨rfl, rfl, _, pure_args (w_Fits [insOp] (by decide) (fun o ho => by rw [List.mem_singleton.1 ho]; exact insOp_ok)) ⟨wk_insOp, trivial⟩ rfl rfl, rfl, ?_⟩
  rintro x rfl
  exact ⟨trivial, rfl, rfl, rfl, leaf_b (by decide)⟩
end Bow
/- W13: the laws' functions: LimitsCheck, LimitsFits. -/
namespace Bow
open Go Go.Proofs

set_option maxRecDepth 100000 in
theorem w_LimitsCheck (t : Tree) : Pure Tryz.prog 7 [nodeV t] (fun x => x = .bool true) := by
  refine pure_wk (pure_fn 300 Tryz.func7 rfl rfl rfl fun B => ?_)
  show CallThen _ _ _ _ _ _
  refine call_pure (w_Weight t 3000 (by decide)) rfl ?_
  rintro x ⟨w, rfl, w1, w2, w3⟩
  refine ⟨fun g => go 300 ?_, fun g => go 300 ?_⟩
  · show CallThen _ _ _ _ _ _
    refine call_pure w_works16 rfl ?_
    rintro x rfl
    exact ⟨trivial, rfl, rfl, rfl, leaf_b rfl⟩
  have g : (w : Int) ≤ 3000 := not_lt_of g
  have hw : t.weight ≤ 3000 := by have := w3 (by omega); omega
  have hw' : t.weight ≤ 1000000 := by omega
  show CallThen _ _ _ _ _ _
  refine call_pure (w_Check t hw') rfl ?_
  rintro x rfl
  show Goes _ _ _ _
  refine goes_draw 300 ?_
  refine ⟨_, w_refCount t hw', rfl, ?_⟩
  refine ⟨_, w_refDepth t hw', rfl, ?_⟩
  refine ⟨by kernel_rfl, ?_⟩
  have e1 : checkE t = 161 → (t.size : Int) ≤ 512 ∧ (12 : Int) < t.depth := by
    unfold checkE
    intro h
    split at h
    · cases h
    · split at h
      · constructor <;> omega
      · split at h <;> cases h
  have e2 : checkE t = 162 → (t.size : Int) ≤ 512 ∧ (t.depth : Int) ≤ 12 := by
    unfold checkE
    intro h
    split at h
    · cases h
    · split at h
      · cases h
      · constructor <;> omega
  repeat' first
    | (refine ⟨fun _ => go 300 ?_, fun _ => go 300 ?_⟩)
    | (show CallThen _ _ _ _ _ _; refine call_pure (w_refCheck t hw') rfl ?_; rintro x rfl)
    | (show CallThen _ _ _ _ _ _; refine call_pure w_works16 rfl ?_; rintro x rfl)
    | (refine ⟨trivial, rfl, rfl, rfl, leaf_tt ?_⟩)
    | (refine ⟨trivial, rfl, rfl, rfl, leaf_ff ?_⟩)
    | (refine ⟨trivial, rfl, rfl, rfl, leaf_b ?_⟩)
    | fail
  all_goals (first | rfl | (exfalso; simp only [decide_eq_true_eq, decide_eq_false_iff_not, Bool.not_eq_true', Bool.not_eq_false', not_true_eq_false] at *; try omega))

set_option maxRecDepth 100000 in
theorem w_LimitsFits (l : List OpT) (_hlen : l.length ≤ maxLen) : Pure Tryz.prog 10 [opsV l] (fun x => x = .bool true) := by
  refine pure_wk (pure_fn 300 Tryz.func10 rfl rfl rfl fun B => ?_)
  show CallThen _ _ _ _ _ _
  refine call_pure (w_LightList l 200 3000 (by decide) (by decide)) rfl ?_
  rintro x ⟨b, rfl, hb⟩
  refine ⟨fun g => go 300 ?_, fun g => go 300 ?_⟩
  · show CallThen _ _ _ _ _ _
    refine call_pure w_works16 rfl ?_
    rintro x rfl
    exact ⟨trivial, rfl, rfl, rfl, leaf_b rfl⟩
  have g : b = true := by simpa using g
  have hL := hb g
  have hn : l.length ≤ 1000000 := by have := hL.len; omega
  have hok : ∀ o ∈ l, o.Ok := fun o ho => by
    obtain ⟨h1, h2⟩ := hL.ops o ho
    exact ⟨⟨by have := h1.path; omega, by have := h1.to; omega, by have := h1.label; omega, by have := h1.key; omega, by have := h1.value; omega, by have := h1.pieces; omega⟩, by omega⟩
  show CallThen _ _ _ _ _ _
  refine call_pure (w_Fits l hn hok) rfl ?_
  rintro x rfl
  show CallThen _ _ _ _ _ _
  refine call_pure (w_refFits l hn hok) rfl ?_
  rintro x rfl
  refine ⟨fun g => go 300 ?_, fun g => absurd g (by simp)⟩
  show CallThen _ _ _ _ _ _
  refine call_pure w_works16 rfl ?_
  rintro x rfl
  exact ⟨trivial, rfl, rfl, rfl, leaf_b rfl⟩
end Bow
/- W14: slices.Grow of nil, slices.Concat: printed by gen_w14.py. -/
namespace Bow
open Go Go.Proofs

theorem flatten_len_mem {α : Type} {l : List (List α)} {x : List α} (h : x ∈ l) : x.length ≤ l.flatten.length := by
  induction l with
  | nil => cases h
  | cons y l ih =>
    rw [List.flatten_cons, List.length_append]
    rcases List.mem_cons.1 h with rfl | h
    · omega
    · have := ih h; omega
theorem flatten_take_succ {α : Type} {l : List (List α)} {i : Nat} (hi : i < l.length) : (l.take (i + 1)).flatten = (l.take i).flatten ++ l[i] := by
  rw [List.take_succ_eq_append_getElem hi, List.flatten_append]
  simp
theorem flatten_take_le {α : Type} (l : List (List α)) (i : Nat) : (l.take i).flatten.length ≤ l.flatten.length := by
  conv => rhs; rw [← List.take_append_drop i l]
  rw [List.flatten_append, List.length_append]
  omega

theorem w_GrowNode (n : Nat) (h : n ≤ 10000000) : Fun Tryz.prog 101 [] [.nilsl, .int .i64 n] (fun x T => ∃ g, x = .osl (.loc 0) g 0 0 ∧ T = [some (.vec g 6 [])]) := by
  refine fun_fn 100 Tryz.func101 rfl rfl rfl fun imps B hi => ?_
  have : imps = [] := List.length_eq_zero_iff.1 hi
  subst this
  refine ⟨fun g1 => go 100 ?_, fun g1 => go 100 ?_⟩
  · have := lt_of g1; omega
  show Goes _ _ _ _
  refine goes_cap0 100 rfl rfl rfl rfl rfl ?_
  refine ⟨by constructor <;> omega, by constructor <;> omega, ?_⟩
  refine ⟨fun g2 => go 100 ?_, fun g2 => ?_⟩
  · have g2 := lt_of g2
    show Goes _ _ _ _
    refine goes_cap0 100 rfl rfl rfl rfl rfl ?_
    show Goes _ _ _ _
    refine goes_nilcut 100 rfl rfl rfl rfl rfl rfl rfl ?_
    show Goes _ _ _ _
    refine goes_growTo 100 n rfl rfl rfl rfl (congrArg (V.int .i64) (by omega)) (by omega) rfl rfl rfl rfl rfl (Nat.le_trans (Nat.mul_le_mul_right _ h) (by decide)) ?_
    show Goes _ _ _ _
    refine goes_cut (h := 0) 100 rfl rfl rfl rfl rfl rfl rfl rfl (Nat.zero_le _) ?_
    exact ⟨trivial, rfl, rfl, 2, rfl, rfl⟩
  · refine goes_own 0 6 rfl ?_
    refine go 100 ?_
    exact ⟨trivial, rfl, rfl, 0, rfl, rfl⟩
set_option maxRecDepth 100000 in
theorem w_ConcatNode (ls : List (List V)) (h : ls.flatten.length ≤ 1000000) (hl : ls.length ≤ 1000000) : Pure Tryz.prog 89 [.sl 1 (ls.map (V.sl 6))] (fun x => x = .sl 6 ls.flatten) := by
  refine pure_fn 100 Tryz.func89 rfl rfl rfl fun B => ?_
  show Goes _ _ _ _
  refine goes_iter (ι := Nat) (fun i => i ≤ ls.length) (fun i => ls.length - i) (fun i => [(3, .int .i64 (ls.take i).flatten.length), (11, .int .i64 i), (10, .int .i64 (ls.map (V.sl 6)).length), (9, .sl 1 (ls.map (V.sl 6))), (0, .sl 1 (ls.map (V.sl 6)))]) (fun _ => []) 0 100 (fun _ => rfl) (fun _ => rfl) ⟨Nat.zero_le _, ?_, trivial⟩ ?_
  · exact ⟨⟨rfl, rfl⟩, ⟨rfl, rfl⟩, ⟨rfl, rfl⟩, ⟨rfl, rfl⟩, ⟨rfl, rfl⟩, trivial⟩
  intro i k1 next
  have hb1 := flatten_take_le ls i
  refine ⟨fun hlt => go 100 ?_, fun hge => go 100 ?_⟩
  · have hi : i < ls.length := by simpa using hlt
    have hx : (ls.map (V.sl 6))[i]? = some (.sl 6 ls[i]) := by simp [hi]
    have hb2 := flatten_take_le ls (i + 1)
    have hs := flatten_take_succ hi
    have hsl : (ls.take (i + 1)).flatten.length = (ls.take i).flatten.length + ls[i].length := by rw [hs, List.length_append]
    refine ⟨Int.natCast_nonneg i, _, hx, ?_⟩
    refine ⟨by constructor <;> omega, ?_⟩
    refine ⟨fun g1 => go 100 ?_, fun g1 => go 100 ?_⟩
    · have := lt_of g1; omega
    refine ⟨by constructor <;> omega, ?_⟩
    refine next (i + 1) _ _ ⟨by omega, by omega, ?_, trivial⟩
    exact ⟨⟨by simp only [lk]; exact congrArg (V.int .i64) (by omega), rfl⟩, ⟨rfl, rfl⟩, ⟨rfl, rfl⟩, ⟨rfl, rfl⟩, ⟨rfl, rfl⟩, trivial⟩
  · have hi : i = ls.length := by have : ls.length ≤ i := by simpa using hge
                                  omega
    subst hi
    rw [List.take_length]
    show CallThen _ _ _ _ _ _
    refine call_sub [] (w_GrowNode ls.flatten.length (by omega)) rfl rfl trivial rfl rfl rfl ?_
    rintro x T1 ⟨g, rfl, rfl⟩
    refine ⟨rfl, ?_⟩
    show Goes _ _ _ _
    refine goes_iter (ι := Nat × Nat) (fun i => i.1 ≤ ls.length) (fun i => ls.length - i.1) (fun i => [(6, .osl (.loc 0) i.2 0 (ls.take i.1).flatten.length), (27, .int .i64 i.1), (26, .int .i64 (ls.map (V.sl 6)).length), (25, .sl 1 (ls.map (V.sl 6)))]) (fun i => [some (.vec i.2 6 (ls.take i.1).flatten)]) (0, g) 100 (fun _ => rfl) (fun _ => rfl) ⟨Nat.zero_le _, ?_, ?_⟩ ?_
    · exact ⟨⟨rfl, rfl⟩, ⟨rfl, rfl⟩, ⟨rfl, rfl⟩, ⟨rfl, rfl⟩, trivial⟩
    · exact ⟨⟨rfl, rfl⟩, trivial⟩
    rintro ⟨i, g⟩ k1 next
    have hb1 := flatten_take_le ls i
    simp only at k1 hb1
    refine ⟨fun hlt => go 100 ?_, fun hge => go 100 ?_⟩
    · have hi : i < ls.length := by simpa using hlt
      have hx : (ls.map (V.sl 6))[i]? = some (.sl 6 ls[i]) := by simp [hi]
      have hb2 := flatten_take_le ls (i + 1)
      have hs := flatten_take_succ hi
      have hsl : (ls.take (i + 1)).flatten.length = (ls.take i).flatten.length + ls[i].length := by rw [hs, List.length_append]
      refine ⟨Int.natCast_nonneg i, _, hx, ?_⟩
      simp only
      refine ⟨rfl, rfl, Nat.le_trans (Nat.mul_le_mul_right _ (show _ ≤ 1000000 by omega)) (by decide), ?_⟩
      refine ⟨by constructor <;> omega, ?_⟩
      refine next (i + 1, bump g) _ _ ⟨by simp only; omega, by simp only; omega, ?_, ?_⟩
      · exact ⟨⟨by simp only [lk]; exact congrArg (V.osl _ _ _) hsl.symm, rfl⟩, ⟨rfl, rfl⟩, ⟨rfl, rfl⟩, ⟨rfl, rfl⟩, trivial⟩
      · exact ⟨⟨by rw [hs], rfl⟩, trivial⟩
    · have hi : i = ls.length := by have : ls.length ≤ i := by simpa using hge
                                    omega
      subst hi
      exact ⟨trivial, rfl, rfl, rfl, rfl, rfl, by simp only [List.take_length]⟩

theorem w_GrowAttr (n : Nat) (h : n ≤ 10000000) : Fun Tryz.prog 103 [] [.nilsl, .int .i64 n] (fun x T => ∃ g, x = .osl (.loc 0) g 0 0 ∧ T = [some (.vec g 2 [])]) := by
  refine fun_fn 100 Tryz.func103 rfl rfl rfl fun imps B hi => ?_
  have : imps = [] := List.length_eq_zero_iff.1 hi
  subst this
  refine ⟨fun g1 => go 100 ?_, fun g1 => go 100 ?_⟩
  · have := lt_of g1; omega
  show Goes _ _ _ _
  refine goes_cap0 100 rfl rfl rfl rfl rfl ?_
  refine ⟨by constructor <;> omega, by constructor <;> omega, ?_⟩
  refine ⟨fun g2 => go 100 ?_, fun g2 => ?_⟩
  · have g2 := lt_of g2
    show Goes _ _ _ _
    refine goes_cap0 100 rfl rfl rfl rfl rfl ?_
    show Goes _ _ _ _
    refine goes_nilcut 100 rfl rfl rfl rfl rfl rfl rfl ?_
    show Goes _ _ _ _
    refine goes_growTo 100 n rfl rfl rfl rfl (congrArg (V.int .i64) (by omega)) (by omega) rfl rfl rfl rfl rfl (Nat.le_trans (Nat.mul_le_mul_right _ h) (by decide)) ?_
    show Goes _ _ _ _
    refine goes_cut (h := 0) 100 rfl rfl rfl rfl rfl rfl rfl rfl (Nat.zero_le _) ?_
    exact ⟨trivial, rfl, rfl, 2, rfl, rfl⟩
  · refine goes_own 0 2 rfl ?_
    refine go 100 ?_
    exact ⟨trivial, rfl, rfl, 0, rfl, rfl⟩
set_option maxRecDepth 100000 in
theorem w_ConcatAttr (ls : List (List V)) (h : ls.flatten.length ≤ 1000000) (hl : ls.length ≤ 1000000) : Pure Tryz.prog 98 [.sl 1 (ls.map (V.sl 2))] (fun x => x = .sl 2 ls.flatten) := by
  refine pure_fn 100 Tryz.func98 rfl rfl rfl fun B => ?_
  show Goes _ _ _ _
  refine goes_iter (ι := Nat) (fun i => i ≤ ls.length) (fun i => ls.length - i) (fun i => [(3, .int .i64 (ls.take i).flatten.length), (11, .int .i64 i), (10, .int .i64 (ls.map (V.sl 2)).length), (9, .sl 1 (ls.map (V.sl 2))), (0, .sl 1 (ls.map (V.sl 2)))]) (fun _ => []) 0 100 (fun _ => rfl) (fun _ => rfl) ⟨Nat.zero_le _, ?_, trivial⟩ ?_
  · exact ⟨⟨rfl, rfl⟩, ⟨rfl, rfl⟩, ⟨rfl, rfl⟩, ⟨rfl, rfl⟩, ⟨rfl, rfl⟩, trivial⟩
  intro i k1 next
  have hb1 := flatten_take_le ls i
  refine ⟨fun hlt => go 100 ?_, fun hge => go 100 ?_⟩
  · have hi : i < ls.length := by simpa using hlt
    have hx : (ls.map (V.sl 2))[i]? = some (.sl 2 ls[i]) := by simp [hi]
    have hb2 := flatten_take_le ls (i + 1)
    have hs := flatten_take_succ hi
    have hsl : (ls.take (i + 1)).flatten.length = (ls.take i).flatten.length + ls[i].length := by rw [hs, List.length_append]
    refine ⟨Int.natCast_nonneg i, _, hx, ?_⟩
    refine ⟨by constructor <;> omega, ?_⟩
    refine ⟨fun g1 => go 100 ?_, fun g1 => go 100 ?_⟩
    · have := lt_of g1; omega
    refine ⟨by constructor <;> omega, ?_⟩
    refine next (i + 1) _ _ ⟨by omega, by omega, ?_, trivial⟩
    exact ⟨⟨by simp only [lk]; exact congrArg (V.int .i64) (by omega), rfl⟩, ⟨rfl, rfl⟩, ⟨rfl, rfl⟩, ⟨rfl, rfl⟩, ⟨rfl, rfl⟩, trivial⟩
  · have hi : i = ls.length := by have : ls.length ≤ i := by simpa using hge
                                  omega
    subst hi
    rw [List.take_length]
    show CallThen _ _ _ _ _ _
    refine call_sub [] (w_GrowAttr ls.flatten.length (by omega)) rfl rfl trivial rfl rfl rfl ?_
    rintro x T1 ⟨g, rfl, rfl⟩
    refine ⟨rfl, ?_⟩
    show Goes _ _ _ _
    refine goes_iter (ι := Nat × Nat) (fun i => i.1 ≤ ls.length) (fun i => ls.length - i.1) (fun i => [(6, .osl (.loc 0) i.2 0 (ls.take i.1).flatten.length), (27, .int .i64 i.1), (26, .int .i64 (ls.map (V.sl 2)).length), (25, .sl 1 (ls.map (V.sl 2)))]) (fun i => [some (.vec i.2 2 (ls.take i.1).flatten)]) (0, g) 100 (fun _ => rfl) (fun _ => rfl) ⟨Nat.zero_le _, ?_, ?_⟩ ?_
    · exact ⟨⟨rfl, rfl⟩, ⟨rfl, rfl⟩, ⟨rfl, rfl⟩, ⟨rfl, rfl⟩, trivial⟩
    · exact ⟨⟨rfl, rfl⟩, trivial⟩
    rintro ⟨i, g⟩ k1 next
    have hb1 := flatten_take_le ls i
    simp only at k1 hb1
    refine ⟨fun hlt => go 100 ?_, fun hge => go 100 ?_⟩
    · have hi : i < ls.length := by simpa using hlt
      have hx : (ls.map (V.sl 2))[i]? = some (.sl 2 ls[i]) := by simp [hi]
      have hb2 := flatten_take_le ls (i + 1)
      have hs := flatten_take_succ hi
      have hsl : (ls.take (i + 1)).flatten.length = (ls.take i).flatten.length + ls[i].length := by rw [hs, List.length_append]
      refine ⟨Int.natCast_nonneg i, _, hx, ?_⟩
      simp only
      refine ⟨rfl, rfl, Nat.le_trans (Nat.mul_le_mul_right _ (show _ ≤ 1000000 by omega)) (by decide), ?_⟩
      refine ⟨by constructor <;> omega, ?_⟩
      refine next (i + 1, bump g) _ _ ⟨by simp only; omega, by simp only; omega, ?_, ?_⟩
      · exact ⟨⟨by simp only [lk]; exact congrArg (V.osl _ _ _) hsl.symm, rfl⟩, ⟨rfl, rfl⟩, ⟨rfl, rfl⟩, ⟨rfl, rfl⟩, trivial⟩
      · exact ⟨⟨by rw [hs], rfl⟩, trivial⟩
    · have hi : i = ls.length := by have : ls.length ≤ i := by simpa using hge
                                    omega
      subst hi
      exact ⟨trivial, rfl, rfl, rfl, rfl, rfl, by simp only [List.take_length]⟩

end Bow
/- W15: slices.Equal, slices.Clone, paths: printed by gen_w15.py. -/
namespace Bow
open Go Go.Proofs

theorem take_succ_eq {α : Type} {xs ys : List α} {i : Nat} (hx : i < xs.length) (hy : i < ys.length) : xs.drop i = ys.drop i ↔ xs[i] = ys[i] ∧ xs.drop (i + 1) = ys.drop (i + 1) := by
  rw [List.drop_eq_getElem_cons hx, List.drop_eq_getElem_cons hy, List.cons.injEq]

theorem PieceT.ext {a b : PieceT} (h1 : a.keep = b.keep) (h2 : a.drop = b.drop) (h3 : a.put = b.put) : a = b := by cases a; cases b; simp_all
instance : DecidableEq PieceT := fun a b => decidable_of_iff (a.keep = b.keep ∧ a.drop = b.drop ∧ a.put = b.put) ⟨fun h => PieceT.ext h.1 h.2.1 h.2.2, fun h => by subst h; exact ⟨rfl, rfl, rfl⟩⟩

set_option maxRecDepth 100000 in
theorem w_EqualInt (xs ys : List Int) (hl : xs.length ≤ 1000000) : Pure Tryz.prog 84 [.sl 1 (xs.map intV), .sl 1 (ys.map intV)] (fun x => x = .bool (decide (xs = ys))) := by
  refine pure_wk (pure_fn 100 Tryz.func84 rfl rfl rfl fun B => ?_)
  refine ⟨fun g1 => go 100 ?_, fun g1 => go 100 ?_⟩
  · have g1 := ne_of' g1
    refine ⟨trivial, rfl, rfl, rfl, leaf_ff (decide_eq_false fun e => g1 ?_)⟩
    rw [e]
  have g1 : xs.length = ys.length := by have := eq_of' g1; simp at this; omega
  show Goes _ _ _ _
  refine goes_iter (ι := Nat) (fun i => i ≤ xs.length ∧ (xs.drop i = ys.drop i ↔ xs = ys)) (fun i => xs.length - i) (fun i => [(13, .int .i64 i), (12, .int .i64 (xs.map intV).length), (1, .sl 1 (ys.map intV)), (0, .sl 1 (xs.map intV))]) (fun _ => []) 0 100 (fun _ => rfl) (fun _ => rfl) ⟨⟨Nat.zero_le _, Iff.rfl⟩, ?_, trivial⟩ ?_
  · exact ⟨⟨rfl, rfl⟩, ⟨rfl, rfl⟩, ⟨rfl, rfl⟩, ⟨rfl, rfl⟩, trivial⟩
  rintro i ⟨k1, k2⟩ next
  refine ⟨fun hlt => go 100 ?_, fun hge => go 100 ?_⟩
  · have hi : i < xs.length := by simpa using hlt
    have hi' : i < ys.length := by omega
    have hx : (xs.map intV)[i]? = some (intV xs[i]) := by simp [hi]
    have hy : (ys.map intV)[i]? = some (intV ys[i]) := by simp [hi']
    rw [take_succ_eq hi hi'] at k2
    show Goes _ _ _ _
    refine goes_draw 100 ?_
    refine ⟨Int.natCast_nonneg i, _, hx, Int.natCast_nonneg i, _, hy, ?_⟩
    refine ⟨by kernel_rfl, ?_⟩
    refine ⟨fun g2 => go 100 ?_, fun g2 => go 100 ?_⟩
    · refine ⟨trivial, rfl, rfl, rfl, leaf_ff (decide_eq_false fun e => ?_)⟩
      have := (k2.2 e).1
      rw [this] at g2
      simp at g2
    · refine ⟨by constructor <;> omega, ?_⟩
      have he : xs[i] = ys[i] := by
        exact eq_of' g2
      exact next (i + 1) _ _ ⟨⟨hi, by rw [← k2]; exact ⟨fun h => ⟨he, h⟩, fun h => h.2⟩⟩, by omega, ⟨⟨rfl, rfl⟩, ⟨rfl, rfl⟩, ⟨rfl, rfl⟩, ⟨rfl, rfl⟩, trivial⟩, trivial⟩
  · have hi : i = xs.length := by have : xs.length ≤ i := by simpa using hge
                                  omega
    subst hi
    refine ⟨trivial, rfl, rfl, rfl, leaf_tt (decide_eq_true (k2.1 ?_))⟩
    rw [List.drop_eq_nil_of_le (Nat.le_refl _), List.drop_eq_nil_of_le (by omega)]

/-- What a clone leaves: nil, or own memory. -/
def CloneQ (sz : Nat) (xs : List V) (x : V) (T : Heap) : Prop := (xs = [] ∧ x = .nilsl ∧ T = []) ∨ (x = .osl (.loc 0) 2 0 xs.length ∧ T = [some (.vec 2 sz xs)])

theorem w_CloneInt (xs : List V) (hl : xs.length ≤ 1000000) : Fun Tryz.prog 93 [] [.sl 1 xs] (CloneQ 1 xs) := by
  refine fun_fn 100 Tryz.func93 rfl rfl rfl fun imps B hi => ?_
  have : imps = [] := List.length_eq_zero_iff.1 hi
  subst this
  show Goes _ _ _ _
  refine goes_nileq 100 rfl rfl rfl rfl rfl rfl fun b hb => ?_
  refine ⟨fun g => go 100 ?_, fun g => go 100 ?_⟩
  · exact ⟨trivial, rfl, rfl, .inl ⟨hb g, rfl, rfl⟩⟩
  · refine ⟨trivial, rfl, rfl, Nat.le_trans (Nat.mul_le_mul_right _ (show _ ≤ 1000000 by simpa using hl)) (by decide), ?_⟩
    refine ⟨trivial, rfl, rfl, .inr ⟨?_, rfl⟩⟩
    simp [resV, bump]

theorem w_CloneNode (xs : List V) (hl : xs.length ≤ 1000000) : Fun Tryz.prog 94 [] [.sl 6 xs] (CloneQ 6 xs) := by
  refine fun_fn 100 Tryz.func94 rfl rfl rfl fun imps B hi => ?_
  have : imps = [] := List.length_eq_zero_iff.1 hi
  subst this
  show Goes _ _ _ _
  refine goes_nileq 100 rfl rfl rfl rfl rfl rfl fun b hb => ?_
  refine ⟨fun g => go 100 ?_, fun g => go 100 ?_⟩
  · exact ⟨trivial, rfl, rfl, .inl ⟨hb g, rfl, rfl⟩⟩
  · refine ⟨trivial, rfl, rfl, Nat.le_trans (Nat.mul_le_mul_right _ (show _ ≤ 1000000 by simpa using hl)) (by decide), ?_⟩
    refine ⟨trivial, rfl, rfl, .inr ⟨?_, rfl⟩⟩
    simp [resV, bump]

end Bow
/- SP3: paths, in plain Lean. -/
namespace Bow
open Go

def common : List Int → List Int → Nat
  | p :: ps, q :: qs => bif decide (p = q) then common ps qs + 1 else 0
  | _, _ => 0
theorem common_le : ∀ p q : List Int, common p q ≤ p.length ∧ common p q ≤ q.length
  | p :: ps, q :: qs => by
    rw [common]
    cases decide (p = q) with
    | false => simp
    | true => have := common_le ps qs; simp; omega
  | [], q => by simp [common]
  | p :: ps, [] => by simp [common]
/-- Is a path another one, or does it lead to above it? -/
def within (p q : List Int) : Bool := decide (p = q.take p.length)
theorem common_within : ∀ p q : List Int, decide (common p q = p.length) = within p q
  | [], q => by simp [common, within]
  | p :: ps, [] => by simp [common, within]
  | p :: ps, q :: qs => by
    have ih := common_within ps qs
    unfold within at ih ⊢
    rw [common]
    by_cases h : p = q
    · subst h
      simp only [decide_true, cond_true, List.length_cons, Nat.add_right_cancel_iff, List.take_succ_cons, List.cons.injEq, true_and]
      exact ih
    · rw [decide_eq_false h]
      simp [h]
theorem common_same (p q : List Int) (h : p.length = q.length) : decide (common p q = p.length) = decide (p = q) := by
  rw [common_within, within, h, List.take_length]
theorem within_len {p q : List Int} (h : within p q = true) : p.length ≤ q.length := by
  unfold within at h
  have h := of_decide_eq_true h
  have := congrArg List.length h
  simp at this
  omega
end Bow
/- W16: paths, further. -/
namespace Bow
open Go Go.Proofs

theorem common_at {p q : List Int} {i : Nat} (hp : i < p.length) (hq : i < q.length) : common (p.drop i) (q.drop i) = bif decide (p[i] = q[i]) then common (p.drop (i + 1)) (q.drop (i + 1)) + 1 else 0 := by
  rw [List.drop_eq_getElem_cons hp, List.drop_eq_getElem_cons hq, common]
theorem common_nil {p q : List Int} {i : Nat} (h : p.length ≤ i ∨ q.length ≤ i) : common (p.drop i) (q.drop i) = 0 := by
  rcases h with h | h
  · rw [List.drop_eq_nil_of_le h]; simp [common]
  · rw [List.drop_eq_nil_of_le h]; cases p.drop i <;> simp [common]

set_option maxRecDepth 100000 in
theorem w_refCommon (p q : List Int) (hp : p.length ≤ 1000000) : Pure Tryz.prog 99 [pathV p, pathV q] (fun x => x = .int .i64 (common p q)) := by
  refine pure_fn 100 Tryz.func99 rfl rfl rfl fun B => ?_
  show Goes _ _ _ _
  refine goes_iter (ι := Nat) (fun i => i ≤ p.length ∧ i + common (p.drop i) (q.drop i) = common p q) (fun i => p.length - i) (fun i => [(5, .int .i64 i), (1, pathV q), (0, pathV p)]) (fun _ => []) 0 100 (fun _ => rfl) (fun _ => rfl) ⟨⟨Nat.zero_le _, by simp⟩, ?_, trivial⟩ ?_
  · exact ⟨⟨rfl, rfl⟩, ⟨rfl, rfl⟩, ⟨rfl, rfl⟩, trivial⟩
  rintro i ⟨k1, k2⟩ next
  show Goes _ _ _ _
  have fin : common (p.drop i) (q.drop i) = 0 → V.int .i64 (i : Nat) = .int .i64 (common p q) := fun h => by rw [← k2, h]; rfl
  refine goes_draw 100 ⟨fun g1 => ⟨fun g2 => ?_, fun g2 => ?_⟩, fun g1 => ?_⟩
  · have hi : i < p.length := by simpa using g1
    have hi' : i < q.length := by simpa using g2
    have hx : (p.map intV)[i]? = some (intV p[i]) := by simp [hi]
    have hy : (q.map intV)[i]? = some (intV q[i]) := by simp [hi']
    rw [common_at hi hi'] at k2 fin
    refine ⟨Int.natCast_nonneg i, _, hx, Int.natCast_nonneg i, _, hy, ?_⟩
    refine ⟨by kernel_rfl, ?_⟩
    refine ⟨fun g3 => go 100 ?_, fun g3 => go 100 ?_⟩
    · rw [g3] at k2
      refine ⟨by constructor <;> omega, ?_⟩
      exact next (i + 1) _ _ ⟨⟨hi, by simp only [cond_true] at k2; omega⟩, by omega, ⟨⟨rfl, rfl⟩, ⟨rfl, rfl⟩, ⟨rfl, rfl⟩, trivial⟩, trivial⟩
    · rw [g3] at fin
      exact ⟨trivial, rfl, rfl, rfl, fin rfl⟩
  · have hi' : q.length ≤ i := by simpa using g2
    refine ⟨by kernel_rfl, ?_⟩
    exact ⟨trivial, rfl, rfl, rfl, fin (common_nil (.inr hi'))⟩
  · have hi : p.length ≤ i := by simpa using g1
    refine ⟨by kernel_rfl, ?_⟩
    exact ⟨trivial, rfl, rfl, rfl, fin (common_nil (.inl hi))⟩

theorem w_refWithin (p q : List Int) (hp : p.length ≤ 1000000) : Pure Tryz.prog 78 [pathV p, pathV q] (fun x => x = .bool (within p q)) := by
  refine pure_wk (pure_fn 100 Tryz.func78 rfl rfl rfl fun B => ?_)
  show CallThen _ _ _ _ _ _
  refine call_pure (w_refCommon p q hp) rfl ?_
  rintro x rfl
  refine ⟨trivial, rfl, rfl, rfl, leaf_b ?_⟩
  rw [← common_within]
  simp
  omega

theorem w_refCopied (p : List Int) (h : p.length ≤ 1000000) : Pure Tryz.prog 81 [pathV p] (fun x => x = pathV p) := by
  refine pure_fn 100 Tryz.func81 rfl rfl rfl fun B => ?_
  refine ⟨Nat.le_trans (Nat.mul_le_mul_right _ (show (p.map intV).length ≤ 1000000 by simpa using h)) (by decide), ?_⟩
  exact ⟨trivial, rfl, rfl, rfl, rfl, rfl, rfl⟩

theorem w_pathSame (p q : List Int) (hp : p.length ≤ 1000000) : Pure Tryz.prog 92 [pathV p, pathV q] (fun x => x = .bool (decide (p = q))) := by
  refine pure_fn 100 Tryz.func92 rfl rfl rfl fun B => ?_
  show CallThen _ _ _ _ _ _
  refine call_pure (w_EqualInt p q hp) rfl ?_
  rintro x rfl
  exact ⟨trivial, rfl, rfl, rfl, rfl⟩

theorem w_pathWithin (p q : List Int) (hp : p.length ≤ 1000000) : Pure Tryz.prog 67 [pathV p, pathV q] (fun x => x = .bool (within p q)) := by
  refine pure_wk (pure_fn 100 Tryz.func67 rfl rfl rfl fun B => ?_)
  refine ⟨fun g1 => go 100 ?_, fun g1 => go 100 ?_⟩
  · have g1 : p.length ≤ q.length := by have := le_of g1; simp at this; omega
    refine ⟨by decide, by simp, by simpa using g1, ?_⟩
    show CallThen _ _ _ _ _ _
    have e : V.sl 1 ((((q.map intV).drop (Int.toNat 0)).take (((p.map intV).length : Int).toNat - Int.toNat 0))) = pathV (q.take p.length) := by
      unfold pathV
      simp
    refine call_pure (Q := fun x => x = .bool (decide (p = q.take p.length))) (by have h := w_EqualInt p (q.take p.length) hp; unfold pathV at e; rw [← e] at h; exact h) rfl ?_
    rintro x rfl
    exact ⟨trivial, rfl, rfl, rfl, leaf_b rfl⟩
  · have g1 : q.length < p.length := by have := not_le_of g1; simp at this; omega
    refine ⟨trivial, rfl, rfl, rfl, leaf_ff ?_⟩
    cases h : within p q with
    | false => rfl
    | true => have := within_len h; omega

theorem pure_clone {P : Program} {f : FuncId} {sz : Nat} {xs : List V} (h : Fun P f [] [.sl sz xs] (CloneQ sz xs)) : Pure P f [.sl sz xs] (fun x => x = .sl sz xs) := by
  refine pure_wk (pure_of_fun (h.mono fun x T hx => ?_))
  rcases hx with ⟨e, rfl, rfl⟩ | ⟨rfl, rfl⟩
  · subst e
    exact ⟨rfl, _, Wk.nil sz, rfl, rfl⟩
  · exact ⟨rfl, rfl, rfl, _, Wk.refl _, rfl, rfl⟩

/-- The path of the parent, of one that is not the root's; where in it. -/
theorem w_Parent (p : List Int) (hp : p.length ≤ 1000000) (hne : p ≠ []) : Pure Tryz.prog 90 [pathV p] (fun x => x = .tup [pathV p.dropLast, intV (p.getLast hne), .tt]) := by
  have hpos : 0 < p.length := List.length_pos_iff.2 hne
  refine pure_fn 100 Tryz.func90 rfl rfl rfl fun B => ?_
  refine ⟨fun g1 => go 100 ?_, fun g1 => go 100 ?_⟩
  · have := eq_of g1
    simp at this
    exact absurd this hne
  refine ⟨by constructor <;> simp <;> omega, ?_⟩
  show Goes _ _ _ _
  have e : V.sl 1 ((((p.map intV).drop (Int.toNat 0)).take ((((p.map intV).length : Int) - 1).toNat - Int.toNat 0))) = .sl 1 (p.dropLast.map intV) := by
    rw [List.dropLast_eq_take, List.map_take]
    congr 2
    simp
  have hx : (p.map intV)[(((p.map intV).length : Int) - 1).toNat]? = some (intV (p.getLast hne)) := by
    rw [List.getElem?_map, List.getLast_eq_getElem]
    have : (((p.map intV).length : Int) - 1).toNat = p.length - 1 := by simp
    rw [this, List.getElem?_eq_getElem (by omega)]
    rfl
  refine goes_draw 100 ⟨by decide, by simp; omega, by omega, ?_⟩
  have h := pure_clone (w_CloneInt (p.dropLast.map intV) (by rw [List.length_map, List.length_dropLast]; omega))
  rw [← e] at h
  refine ⟨_, h, rfl, ?_⟩
  refine ⟨by simp only [List.length_map]; omega, _, hx, ?_⟩
  refine ⟨by kernel_rfl, ?_⟩
  refine ⟨trivial, rfl, rfl, rfl, ?_⟩
  rw [e]
  rfl
end Bow
/- SP4: nodes by their paths, in plain Lean. -/
namespace Bow
open Go

def subT (t : Tree) (i : Int) : Option Tree := bif decide (i < 0) then none else t.subs[i.toNat]?
def atT : Tree → List Int → Option Tree
  | t, [] => some t
  | t, i :: p => match subT t i with
    | none => none
    | some s => atT s p
theorem subT_some {t s : Tree} {i : Int} (h : subT t i = some s) : 0 ≤ i ∧ t.subs[i.toNat]? = some s ∧ s ∈ t.subs := by
  unfold subT at h
  by_cases hi : i < 0
  · rw [decide_eq_true hi] at h; cases h
  · rw [decide_eq_false hi] at h
    exact ⟨by omega, h, List.mem_of_getElem? h⟩
theorem subT_neg {t : Tree} {i : Int} (h : i < 0) : subT t i = none := by unfold subT; rw [decide_eq_true h]; rfl
theorem subT_big {t : Tree} {i : Int} (h : (t.subs.length : Int) ≤ i) : subT t i = none := by
  unfold subT
  rw [decide_eq_false (by omega)]
  simp
  omega
theorem subT_at {t : Tree} {i : Int} (h0 : 0 ≤ i) (h1 : i < t.subs.length) : ∃ s, subT t i = some s ∧ t.subs[i.toNat]? = some s := by
  have hlt : i.toNat < t.subs.length := by omega
  refine ⟨t.subs[i.toNat], ?_, List.getElem?_eq_getElem hlt⟩
  unfold subT
  rw [decide_eq_false (by omega)]
  exact List.getElem?_eq_getElem hlt
theorem atT_size {s : Tree} : ∀ {p : List Int} {t : Tree}, atT t p = some s → s.size ≤ t.size
  | [], t, h => by rw [atT] at h; injection h with h; subst h; exact Nat.le_refl _
  | i :: p, t, h => by
    rw [atT] at h
    cases hs : subT t i with
    | none => rw [hs] at h; cases h
    | some u =>
      rw [hs] at h
      have := atT_size (p := p) h
      have := Tree.size_sub (subT_some hs).2.2
      omega
theorem atT_weight {s : Tree} : ∀ {p : List Int} {t : Tree}, atT t p = some s → s.weight ≤ t.weight
  | [], t, h => by rw [atT] at h; injection h with h; subst h; exact Nat.le_refl _
  | i :: p, t, h => by
    rw [atT] at h
    cases hs : subT t i with
    | none => rw [hs] at h; cases h
    | some u =>
      rw [hs] at h
      have := atT_weight (p := p) h
      have := weight_sub (subT_some hs).2.2
      omega
/-- What At answers. -/
def atV (t0 : Tree) : Option Tree → V
  | some s => .tup [nodeV s, .tt]
  | none => .tup [nodeV t0, .ff]
def intoE (t : Tree) (at_ : Int) : Int := bif t.leaf then 83 else bif decide ((t.subs.length : Int) < at_) then 81 else 0
/-! ### Changes -/
def Tree.withSubs : Tree → List Tree → Tree
  | .mk i l a b c _, ss => .mk i l a b c ss
def changeT (F : Tree → Tree) : Tree → List Int → Tree
  | t, [] => F t
  | t, i :: p => match subT t i with
    | none => t
    | some s => t.withSubs (t.subs.set i.toNat (changeT F s p))
theorem withSubs_V (t : Tree) (ss : List Tree) : nodeV (t.withSubs ss) = .agg [.int .u64 t.id, .bool t.leaf, .str t.label, .sl 2 (t.attrs.map attrV), .str t.text, .sl 6 (ss.map nodeV)] := by
  cases t
  unfold nodeV
  rw [subV_eq]
  rfl
theorem withSubs_subs (t : Tree) (ss : List Tree) : (t.withSubs ss).subs = ss := by cases t; rfl
/-- A node at a gap. -/
def insT (at_ : Int) (x : Tree) (y : Tree) : Tree := y.withSubs (y.subs.take at_.toNat ++ x :: y.subs.drop at_.toNat)
/-- A node less. -/
def delT (at_ : Int) (y : Tree) : Tree := y.withSubs (y.subs.take at_.toNat ++ y.subs.drop (at_.toNat + 1))
/-- Where a moved node's target and gap are, when it has been taken out of place i of the node at q. -/
def landT (q : List Int) (i : Int) (to : List Int) (at_ : Int) : List Int × Int :=
  bif decide (q = to) && decide (i < at_) then (to, at_ - 1)
  else bif within q to && (decide (q.length < to.length) && decide (i < to.getD q.length 0)) then (to.set q.length (to.getD q.length 0 - 1), at_)
  else (to, at_)
end Bow
/- W17: the node at a path. -/
namespace Bow
open Go Go.Proofs

theorem subs_le_weights : ∀ l : List Tree, l.length ≤ weights l
  | [] => by rw [weights]; simp
  | s :: l => by
    have := subs_le_weights l
    have := weight_eq s
    rw [weights_cons, List.length_cons]
    omega
theorem subs_le_weight (t : Tree) : t.subs.length < t.weight := by have := weight_eq t; have := subs_le_weights t.subs; omega
theorem subV_at {t s : Tree} {i : Nat} (h : t.subs[i]? = some s) : t.subV[i]? = some (nodeV s) := by rw [subV_eq, List.getElem?_map, h]; rfl
theorem subV_len (t : Tree) : t.subV.length = t.subs.length := by rw [subV_eq, List.length_map]
theorem wk_at0 : Wk (.tup [zeroV .nilsl, .ff]) (atV (zeroT []) none) := Wk.tup ⟨wk_zero (ss := []) (Wk.nil 6), .refl _, trivial⟩

set_option maxRecDepth 100000 in
theorem w_At (t : Tree) (p : List Int) (hp : p.length ≤ 1000000) : Pure Tryz.prog 65 [nodeV t, pathV p] (fun x => x = atV (zeroT []) (atT t p)) := by
  refine pure_wk (pure_fn 100 Tryz.func65 rfl rfl rfl fun B => ?_)
  show Goes _ _ _ _
  refine goes_iter (ι := Nat × Tree) (fun i => i.1 ≤ p.length ∧ atT i.2 (p.drop i.1) = atT t p) (fun i => p.length - i.1) (fun i => [(10, .int .i64 i.1), (9, .int .i64 (p.map intV).length), (8, pathV p), (2, .ptr (.loc 0) 0), (4, .ptr (.loc 1) 0)]) (fun i => [some (.box (nodeV i.2).cells), some (.box (zeroV .nilsl).cells)]) (0, t) 100 (fun _ => rfl) (fun _ => rfl) ⟨⟨Nat.zero_le _, rfl⟩, ?_, ?_⟩ ?_
  · exact ⟨⟨rfl, rfl⟩, ⟨rfl, rfl⟩, ⟨rfl, rfl⟩, ⟨rfl, rfl⟩, ⟨rfl, rfl⟩, trivial⟩
  · exact ⟨⟨rfl, rfl⟩, ⟨rfl, rfl⟩, trivial⟩
  rintro ⟨i, s⟩ ⟨k1, k2⟩ next
  simp only at k1 k2
  refine ⟨fun hlt => go 100 ?_, fun hge => go 100 ?_⟩
  · have hi : i < p.length := by simpa using hlt
    have hx : (p.map intV)[i]? = some (intV p[i]) := by simp [hi]
    rw [drop_cons hi, atT] at k2
    refine ⟨Int.natCast_nonneg i, _, hx, ?_⟩
    refine ⟨fun g1 => go 100 ?_, fun g1 => go 100 ?_⟩
    · have g1 := lt_of g1
      rw [subT_neg g1] at k2
      exact ⟨trivial, rfl, rfl, rfl, _, wk_at0, rfl, by rw [← k2]⟩
    have g1 := not_lt_of g1
    refine ⟨fun g2 => go 100 ?_, fun g2 => go 100 ?_⟩
    · have g2 := le_of g2
      rw [subV_len] at g2
      rw [subT_big g2] at k2
      exact ⟨trivial, rfl, rfl, rfl, _, wk_at0, rfl, by rw [← k2]⟩
    · have g2 := not_le_of g2
      rw [subV_len] at g2
      obtain ⟨u, hu, hv⟩ := subT_at g1 g2
      rw [hu] at k2
      refine ⟨g1, _, subV_at hv, ?_⟩
      refine ⟨by constructor <;> omega, ?_⟩
      exact next (i + 1, u) _ _ ⟨⟨hi, k2⟩, by simp only; omega, ⟨⟨rfl, rfl⟩, ⟨rfl, rfl⟩, ⟨rfl, rfl⟩, ⟨rfl, rfl⟩, ⟨rfl, rfl⟩, trivial⟩, ⟨⟨rfl, rfl⟩, ⟨rfl, rfl⟩, trivial⟩⟩
  · have hi : p.length ≤ i := by simpa using hge
    rw [List.drop_eq_nil_of_le hi, atT] at k2
    exact ⟨trivial, rfl, rfl, rfl, _, .refl _, rfl, by rw [← k2]; rfl⟩

set_option maxRecDepth 100000 in
theorem w_refAt (t : Tree) (p : List Int) (hp : p.length ≤ 1000000) : Pure Tryz.prog 48 [nodeV t, pathV p] (fun x => x = atV (zeroT []) (atT t p)) := by
  refine pure_wk (pure_fn 100 Tryz.func48 rfl rfl rfl fun B => ?_)
  show Goes _ _ _ _
  refine goes_iter (ι := Nat × Tree) (fun i => i.1 ≤ p.length ∧ atT i.2 (p.drop i.1) = atT t p) (fun i => p.length - i.1) (fun i => [(6, .int .i64 i.1), (1, pathV p), (2, .ptr (.loc 0) 0), (4, .ptr (.loc 1) 0)]) (fun i => [some (.box (nodeV i.2).cells), some (.box (zeroV .nilsl).cells)]) (0, t) 100 (fun _ => rfl) (fun _ => rfl) ⟨⟨Nat.zero_le _, rfl⟩, ?_, ?_⟩ ?_
  · exact ⟨⟨rfl, rfl⟩, ⟨rfl, rfl⟩, ⟨rfl, rfl⟩, ⟨rfl, rfl⟩, trivial⟩
  · exact ⟨⟨rfl, rfl⟩, ⟨rfl, rfl⟩, trivial⟩
  rintro ⟨i, s⟩ ⟨k1, k2⟩ next
  simp only at k1 k2
  refine ⟨fun hlt => go 100 ?_, fun hge => go 100 ?_⟩
  · have hi : i < p.length := by simpa using hlt
    have hx : (p.map intV)[i]? = some (intV p[i]) := by simp [hi]
    rw [drop_cons hi, atT] at k2
    show Goes _ _ _ _
    refine goes_draw 100 ⟨Int.natCast_nonneg i, _, hx, ⟨fun g1 => ?_, fun g1 => ?_⟩⟩
    · have g1 := lt_of g1
      rw [subT_neg g1] at k2
      refine ⟨by kernel_rfl, ?_⟩
      exact ⟨trivial, rfl, rfl, rfl, _, wk_at0, rfl, by rw [← k2]⟩
    have g1 := not_lt_of g1
    refine ⟨Int.natCast_nonneg i, _, hx, ?_⟩
    refine ⟨by kernel_rfl, ?_⟩
    refine ⟨fun g2 => go 100 ?_, fun g2 => go 100 ?_⟩
    · have g2 := le_of g2
      rw [subV_len] at g2
      rw [subT_big g2] at k2
      exact ⟨trivial, rfl, rfl, rfl, _, wk_at0, rfl, by rw [← k2]⟩
    · have g2 := not_le_of g2
      rw [subV_len] at g2
      obtain ⟨u, hu, hv⟩ := subT_at g1 g2
      rw [hu] at k2
      show Goes _ _ _ _
      refine goes_draw 100 ⟨Int.natCast_nonneg i, _, hx, g1, _, subV_at hv, ?_⟩
      refine ⟨by kernel_rfl, ?_⟩
      refine ⟨by constructor <;> omega, ?_⟩
      exact next (i + 1, u) _ _ ⟨⟨hi, k2⟩, by simp only; omega, ⟨⟨rfl, rfl⟩, ⟨rfl, rfl⟩, ⟨rfl, rfl⟩, ⟨rfl, rfl⟩, trivial⟩, ⟨⟨rfl, rfl⟩, ⟨rfl, rfl⟩, trivial⟩⟩
  · have hi : p.length ≤ i := by simpa using hge
    rw [List.drop_eq_nil_of_le hi, atT] at k2
    exact ⟨trivial, rfl, rfl, rfl, _, .refl _, rfl, by rw [← k2]; rfl⟩

theorem w_into (t : Tree) (at_ : Int) : Pure Tryz.prog 66 [nodeV t, intV at_] (fun x => x = .int .i64 (intoE t at_)) := by
  refine pure_fn 100 Tryz.func66 rfl rfl rfl fun B => ?_
  refine ⟨fun g1 => go 100 ?_, fun g1 => go 100 ?_⟩
  · exact ⟨trivial, rfl, rfl, rfl, by unfold intoE; rw [g1]; rfl⟩
  refine ⟨fun g2 => go 100 ?_, fun g2 => go 100 ?_⟩
  · rw [subV_len] at g2
    exact ⟨trivial, rfl, rfl, rfl, by unfold intoE; rw [g1, g2]; rfl⟩
  · rw [subV_len] at g2
    exact ⟨trivial, rfl, rfl, rfl, by unfold intoE; rw [g1, g2]; rfl⟩
theorem w_refInto (t : Tree) (at_ : Int) : Pure Tryz.prog 77 [nodeV t, intV at_] (fun x => x = .int .i64 (intoE t at_)) := by
  refine pure_fn 100 Tryz.func77 rfl rfl rfl fun B => ?_
  refine ⟨fun g1 => go 100 ?_, fun g1 => go 100 ?_⟩
  · exact ⟨trivial, rfl, rfl, rfl, by unfold intoE; rw [g1]; rfl⟩
  refine ⟨fun g2 => go 100 ?_, fun g2 => go 100 ?_⟩
  · rw [subV_len] at g2
    exact ⟨trivial, rfl, rfl, rfl, by unfold intoE; rw [g1, g2]; rfl⟩
  · rw [subV_len] at g2
    exact ⟨trivial, rfl, rfl, rfl, by unfold intoE; rw [g1, g2]; rfl⟩
end Bow
/- W18: changes of the node at a path: printed by gen_w18.py. -/
namespace Bow
open Go Go.Proofs

theorem subV_set (t : Tree) (i : Nat) (s : Tree) : t.subV.set i (nodeV s) = (t.subs.set i s).map nodeV := by rw [subV_eq, List.map_set]

set_option maxRecDepth 100000 in
theorem w_change1 (g : FuncId) (c1 : List V) (F : Tree → Tree) (y : Tree)
    (hg : Fun Tryz.prog g [some (.box (nodeV y).cells)] [.ptr (.loc 0) 0, .iptr c1 0] (fun _ T => T = [some (.box (nodeV (F y)).cells)])) :
    ∀ (p : List Int) (t : Tree), p.length ≤ 1000000 → t.weight ≤ 1000000 → atT t p = some y → Pure Tryz.prog 72 [nodeV t, pathV p, .fn (.func g) [] [.iptr c1 0]] (fun x => x = nodeV (changeT F t p))
  | [], t, hp, ht, hy => by
    rw [atT] at hy
    injection hy with hy
    subst hy
    refine pure_fn 100 Tryz.func72 rfl rfl rfl fun B => ?_
    refine ⟨fun g1 => go 100 ?_, fun g1 => ?_⟩
    case refine_2 => exact absurd rfl (ne_of g1)
    show CallThen _ _ _ _ _ _
    refine call_sub [0] hg rfl rfl ⟨⟨rfl, rfl⟩, trivial⟩ rfl rfl rfl ?_
    rintro x T1 rfl
    refine ⟨rfl, ?_⟩
    exact ⟨trivial, rfl, rfl, rfl, rfl⟩
  | i :: p, t, hp, ht, hy => by
    rw [atT] at hy
    cases hs : subT t i with
    | none => rw [hs] at hy; cases hy
    | some s =>
    rw [hs] at hy
    simp only at hy
    obtain ⟨hi0, hat, hmem⟩ := subT_some hs
    have hlt := lt_of_get hat
    have hw := weight_sub hmem
    have hsl := subs_le_weight t
    have ih := w_change1 g c1 F y hg p s (by simp at hp; omega) (by omega) hy
    refine pure_fn 100 Tryz.func72 rfl rfl rfl fun B => ?_
    refine ⟨fun g1 => ?_, fun g1 => go 100 ?_⟩
    · have := eq_of g1
      simp at this
      omega
    show CallThen _ _ _ _ _ _
    refine call_sub [] (w_CloneNode t.subV (by rw [subV_len]; omega)) rfl rfl trivial rfl rfl rfl ?_
    rintro x T1 (⟨e, _⟩ | ⟨rfl, rfl⟩)
    · have := congrArg List.length e
      rw [subV_len, List.length_nil] at this
      omega
    refine ⟨rfl, ?_⟩
    show Goes _ _ _ _
    have hx : t.subV[0 + i.toNat]? = some (nodeV s) := by rw [Nat.zero_add]; exact subV_at hat
    have hil : i < (t.subV.length : Int) := by rw [subV_len]; omega
    have e : V.sl 1 ((((i :: p).map intV).drop (Int.toNat 1)).take (((((i :: p).map intV).length : Nat) : Int).toNat - Int.toNat 1)) = pathV p := by
      unfold pathV
      rw [List.take_of_length_le (by simp)]
      rfl
    refine goes_draw 100 ⟨by decide, _, rfl, by decide, _, rfl, rfl, hi0, hil, rfl, _, hx, by decide, by simp; omega, by omega, nodeV (changeT F s p), ?_, rfl, rfl, hi0, hil, rfl, _, hx, ?_⟩
    · unfold pathV at e ih
      rw [e]
      exact ih
    refine ⟨by kernel_rfl, ?_⟩
    refine ⟨trivial, rfl, rfl, rfl, (by simp), rfl, ?_⟩
    rw [changeT, hs]
    simp only
    rw [withSubs_V, ← subV_set, Nat.zero_add]
    rfl

set_option maxRecDepth 100000 in
theorem w_change2 (g : FuncId) (c1 c2 : List V) (F : Tree → Tree) (y : Tree)
    (hg : Fun Tryz.prog g [some (.box (nodeV y).cells)] [.ptr (.loc 0) 0, .iptr c1 0, .iptr c2 0] (fun _ T => T = [some (.box (nodeV (F y)).cells)])) :
    ∀ (p : List Int) (t : Tree), p.length ≤ 1000000 → t.weight ≤ 1000000 → atT t p = some y → Pure Tryz.prog 72 [nodeV t, pathV p, .fn (.func g) [] [.iptr c1 0, .iptr c2 0]] (fun x => x = nodeV (changeT F t p))
  | [], t, hp, ht, hy => by
    rw [atT] at hy
    injection hy with hy
    subst hy
    refine pure_fn 100 Tryz.func72 rfl rfl rfl fun B => ?_
    refine ⟨fun g1 => go 100 ?_, fun g1 => ?_⟩
    case refine_2 => exact absurd rfl (ne_of g1)
    show CallThen _ _ _ _ _ _
    refine call_sub [0] hg rfl rfl ⟨⟨rfl, rfl⟩, trivial⟩ rfl rfl rfl ?_
    rintro x T1 rfl
    refine ⟨rfl, ?_⟩
    exact ⟨trivial, rfl, rfl, rfl, rfl⟩
  | i :: p, t, hp, ht, hy => by
    rw [atT] at hy
    cases hs : subT t i with
    | none => rw [hs] at hy; cases hy
    | some s =>
    rw [hs] at hy
    simp only at hy
    obtain ⟨hi0, hat, hmem⟩ := subT_some hs
    have hlt := lt_of_get hat
    have hw := weight_sub hmem
    have hsl := subs_le_weight t
    have ih := w_change2 g c1 c2 F y hg p s (by simp at hp; omega) (by omega) hy
    refine pure_fn 100 Tryz.func72 rfl rfl rfl fun B => ?_
    refine ⟨fun g1 => ?_, fun g1 => go 100 ?_⟩
    · have := eq_of g1
      simp at this
      omega
    show CallThen _ _ _ _ _ _
    refine call_sub [] (w_CloneNode t.subV (by rw [subV_len]; omega)) rfl rfl trivial rfl rfl rfl ?_
    rintro x T1 (⟨e, _⟩ | ⟨rfl, rfl⟩)
    · have := congrArg List.length e
      rw [subV_len, List.length_nil] at this
      omega
    refine ⟨rfl, ?_⟩
    show Goes _ _ _ _
    have hx : t.subV[0 + i.toNat]? = some (nodeV s) := by rw [Nat.zero_add]; exact subV_at hat
    have hil : i < (t.subV.length : Int) := by rw [subV_len]; omega
    have e : V.sl 1 ((((i :: p).map intV).drop (Int.toNat 1)).take (((((i :: p).map intV).length : Nat) : Int).toNat - Int.toNat 1)) = pathV p := by
      unfold pathV
      rw [List.take_of_length_le (by simp)]
      rfl
    refine goes_draw 100 ⟨by decide, _, rfl, by decide, _, rfl, rfl, hi0, hil, rfl, _, hx, by decide, by simp; omega, by omega, nodeV (changeT F s p), ?_, rfl, rfl, hi0, hil, rfl, _, hx, ?_⟩
    · unfold pathV at e ih
      rw [e]
      exact ih
    refine ⟨by kernel_rfl, ?_⟩
    refine ⟨trivial, rfl, rfl, rfl, (by simp), rfl, ?_⟩
    rw [changeT, hs]
    simp only
    rw [withSubs_V, ← subV_set, Nat.zero_add]
    rfl

end Bow
/- W19: nodes put in and taken out. -/
namespace Bow
open Go Go.Proofs

theorem sl_all {sz : Nat} {xs : List V} : V.sl sz (xs.take xs.length) = .sl sz xs := by rw [List.take_length]

set_option maxRecDepth 100000 in
theorem w_insert1 (x y : Tree) (n : Int) (h0 : 0 ≤ n) (h1 : n ≤ y.subs.length) (hl : y.subs.length ≤ 900000) : Fun Tryz.prog 88 [some (.box (nodeV y).cells)] [.ptr (.loc 0) 0, .iptr [intV n] 0, .iptr (nodeV x).cells 0] (fun _ T => T = [some (.box (nodeV (insT n x y)).cells)]) := by
  refine fun_keep 1 rfl (fun_fn 100 Tryz.func88 rfl rfl rfl fun imps B hi => ?_)
  obtain ⟨r, rfl⟩ := List.length_eq_one_iff.1 hi
  show Goes _ _ _ _
  have hnl : n ≤ (y.subV.length : Int) := by rw [subV_len]; exact h1
  have hc := w_ConcatNode [(y.subV.drop (Int.toNat 0)).take (n.toNat - Int.toNat 0), [nodeV x], (y.subV.drop n.toNat).take ((y.subV.length : Int).toNat - n.toNat)] (by
    simp [subV_len]; omega) (by simp)
  refine goes_draw 100 ⟨by decide, h0, hnl, ?_⟩
  refine ⟨by kernel_rfl, ⟨rfl, trivial⟩, rfl, h0, hnl, Int.le_refl _, ?_⟩
  refine ⟨by kernel_rfl, rfl, rfl, ⟨rfl, rfl, rfl, trivial⟩, rfl, rfl, rfl, _, hc, rfl, ?_⟩
  refine ⟨by kernel_rfl, ?_⟩
  refine ⟨trivial, rfl, rfl, [some (.box [.int .u64 y.id, .bool y.leaf, .str y.label, .sl 2 (y.attrs.map attrV), .str y.text, .sl 6 [(y.subV.drop (Int.toNat 0)).take (n.toNat - Int.toNat 0), [nodeV x], (y.subV.drop n.toNat).take ((y.subV.length : Int).toNat - n.toNat)].flatten])], rfl, rfl, ⟨⟨rfl, rfl⟩, trivial⟩, ?_⟩
  have e : [(y.subV.drop (Int.toNat 0)).take (n.toNat - Int.toNat 0), [nodeV x], (y.subV.drop n.toNat).take ((y.subV.length : Int).toNat - n.toNat)].flatten = (y.subs.take n.toNat ++ x :: y.subs.drop n.toNat).map nodeV := by
    rw [subV_eq]
    simp [List.map_take, List.map_drop]
    rw [List.take_of_length_le (by simp)]
  rw [e, insT, withSubs_V]
  rfl

set_option maxRecDepth 100000 in
theorem w_remove1 (y : Tree) (n : Int) (h0 : 0 ≤ n) (h1 : n < y.subs.length) (hl : y.subs.length ≤ 900000) : Fun Tryz.prog 91 [some (.box (nodeV y).cells)] [.ptr (.loc 0) 0, .iptr [intV n] 0] (fun _ T => T = [some (.box (nodeV (delT n y)).cells)]) := by
  refine fun_keep 1 rfl (fun_fn 100 Tryz.func91 rfl rfl rfl fun imps B hi => ?_)
  obtain ⟨r, rfl⟩ := List.length_eq_one_iff.1 hi
  show Goes _ _ _ _
  have hnl : n ≤ (y.subV.length : Int) := by rw [subV_len]; omega
  have hnl' : n + 1 ≤ (y.subV.length : Int) := by rw [subV_len]; omega
  have hc := w_ConcatNode [(y.subV.drop (Int.toNat 0)).take (n.toNat - Int.toNat 0), (y.subV.drop (n + 1).toNat).take ((y.subV.length : Int).toNat - (n + 1).toNat)] (by
    simp [subV_len]; omega) (by simp)
  refine goes_draw 100 ⟨by decide, h0, hnl, ?_⟩
  refine ⟨⟨by omega, by omega⟩, by omega, hnl', Int.le_refl _, ?_⟩
  refine ⟨by kernel_rfl, ⟨rfl, rfl, trivial⟩, rfl, rfl, rfl, _, hc, rfl, ?_⟩
  refine ⟨by kernel_rfl, ?_⟩
  refine ⟨trivial, rfl, rfl, [some (.box [.int .u64 y.id, .bool y.leaf, .str y.label, .sl 2 (y.attrs.map attrV), .str y.text, .sl 6 [(y.subV.drop (Int.toNat 0)).take (n.toNat - Int.toNat 0), (y.subV.drop (n + 1).toNat).take ((y.subV.length : Int).toNat - (n + 1).toNat)].flatten])], rfl, rfl, ⟨⟨rfl, rfl⟩, trivial⟩, ?_⟩
  have e : [(y.subV.drop (Int.toNat 0)).take (n.toNat - Int.toNat 0), (y.subV.drop (n + 1).toNat).take ((y.subV.length : Int).toNat - (n + 1).toNat)].flatten = (y.subs.take n.toNat ++ y.subs.drop (n.toNat + 1)).map nodeV := by
    have e1 : (n + 1).toNat = n.toNat + 1 := by omega
    rw [subV_eq, e1]
    simp [List.map_take, List.map_drop]
    rw [List.take_of_length_le (by simp)]
  rw [e, delT, withSubs_V]
  rfl

set_option maxRecDepth 100000 in
theorem w_insert (t x y : Tree) (p : List Int) (n : Int) (hp : p.length ≤ 1000000) (ht : t.weight ≤ 900000) (hy : atT t p = some y) (h0 : 0 ≤ n) (h1 : n ≤ y.subs.length) :
    Pure Tryz.prog 69 [nodeV t, pathV p, intV n, nodeV x] (fun z => z = nodeV (changeT (insT n x) t p)) := by
  have hyw := atT_weight hy
  have hys := subs_le_weight y
  refine pure_fn 100 Tryz.func69 rfl rfl rfl fun B => ?_
  show CallThen _ _ _ _ _ _
  refine call_freeze 1 rfl rfl ?_
  refine call_freeze 2 rfl rfl ?_
  refine call_pure (w_change2 88 [intV n] (nodeV x).cells (insT n x) y (w_insert1 x y n h0 h1 (by omega)) p t hp (by omega) hy) rfl ?_
  rintro z rfl
  exact ⟨trivial, rfl, rfl, rfl, rfl⟩

set_option maxRecDepth 100000 in
theorem w_remove (t y : Tree) (p : List Int) (hp : p.length ≤ 1000000) (hne : p ≠ []) (ht : t.weight ≤ 900000) (hy : atT t p.dropLast = some y) (h0 : 0 ≤ p.getLast hne) (h1 : p.getLast hne < y.subs.length) :
    Pure Tryz.prog 70 [nodeV t, pathV p] (fun z => z = nodeV (changeT (delT (p.getLast hne)) t p.dropLast)) := by
  have hyw := atT_weight hy
  have hys := subs_le_weight y
  refine pure_fn 100 Tryz.func70 rfl rfl rfl fun B => ?_
  show CallThen _ _ _ _ _ _
  refine call_pure (w_Parent p hp hne) rfl ?_
  rintro z rfl
  show CallThen _ _ _ _ _ _
  refine call_freeze 2 rfl rfl ?_
  refine call_pure (w_change1 91 [intV (p.getLast hne)] (delT (p.getLast hne)) y (w_remove1 y _ h0 h1 (by omega)) p.dropLast t (by simp; omega) (by omega) hy) rfl ?_
  rintro z rfl
  exact ⟨trivial, rfl, rfl, rfl, rfl⟩
end Bow
