/- The library, part 5: AE39, AE40, AE41, AE42, W1, W2, W3, W4, W5, W6, W7, W8, W9, W10, W11, W12, W13, W14, W15, W16, W17, W18, W19, W20, W21, W22, W23, WB1, W24, W25, W26, SP9, W27, W30a, W31, W32, W33, W34, WB2, W35, W36, W37, W38, SP15, SP16, W39, SP17, W43a, W49, W50, W51, W52, W53, W54. -/
import Derived.Test.YtcglpgfcjlafhaaMd
import Derived.Laws.Shifts
import Derived.Test.YtcglpgfcjlafhaaMc
import Derived.Test.YtcglpgfcjlafhaaRows
import Derived.KernelRfl
import Derived.Shelf.Strings.BuilderK
import Derived.Test.YtcglpgfcjlafhaaProg
import Derived.BigCall
import Derived.Lib.Bytealg
/- AE39: a box whose cells are to say less. -/
namespace Bow
open Go

theorem goes_wkbox {c : Cx} {todo : List Item} {E : Env} {T : Heap} (k : Nat) {cs : List V} (cs' : List V) (hk : lget T k = some (some (.box cs))) (hp : V.pureL cs = true) (hp' : V.pureL cs' = true) (hw : WkL cs cs')
    (h : lset T k (some (.box cs')) fun T' => Goes c todo E T') : Goes c todo E T := by
  rw [lset_eq] at h
  rw [lget_eq] at hk
  refine goes_step fun w β H m a b cs0 hs _ _ _ => ?_
  obtain ⟨r, hr, hH⟩ := hs.at hk
  simp only [HObj.conv] at hH
  have hob := hs.hrel.obj r _ hH
  have hc : V.convL m cs = cs := pureL_conv m _ hp
  have hc' : V.convL m cs' = cs' := pureL_conv m _ hp'
  have hfr : Fr w β H w β (H.set r (some ((HObj.box cs').conv m))) := Fr.swap hH trivial
  have hrel : HRel w β (H.set r (some ((HObj.box cs').conv m))) := by
    refine hs.hrel.swap hH trivial ?_
    simp only [HObj.conv]
    cases hβ : β r with
    | none => trivial
    | nil => rw [hβ] at hob; exact hob
    | blk bb N =>
      rw [hβ] at hob
      obtain ⟨vs, e, q1, q2, q3, q4⟩ := hob
      rw [hc] at q3 q4
      refine ⟨vs, e, q1, q2, by rw [hc', hw.len]; exact q3, fun i x v hi hv => ?_⟩
      rw [hc'] at hi
      obtain ⟨x0, h1, h2⟩ := hw.get i x hi
      exact (h2 w β H v (q4 i x0 v h1 hv)).mono (by rw [← HObj.conv]; exact hfr)
  have hset := hs.setAt (o' := some (.box cs')) (w' := w) hr (fun o1 e1 => by
      injection e1 with e1
      subst e1
      have h1 := hc'
      exact (V.scL_iff _ _).2 fun v hv => pureSc _ v (pureL_mem _ hp' v hv))
    (fun hm => absurd hm (hs.notD hk (by simp))) hfr hrel
  exact ⟨w, β, _, m, a, todo, ⟨E, _, c.B, c.D⟩, .refl _ _, hset, hfr, h⟩
end Bow
/- AE40: a function's contract out of a walk by the kit's own tactics: all that it wrote lies in new memory. -/
namespace Bow
open Go

theorem pure_of_calls {P : Program} {f : FuncId} {args : List V} {Q : V → Prop} (he : Enterable P f) (hp : V.pureL args = true)
    (h : ∀ (w : World) (β : Nat → Loc) (H : Heap) (vals : Array Value), args.length = vals.size → (∀ (j : Nat) (x : V) (v : Value), args[j]? = some x → vals[j]? = some v → Rep w β H x v) →
      Calls P f vals w fun e w' => RowKit.Below w.heap.size w w' ∧ ∃ (x : V) (v : Value), e = .returned v ∧ Q x ∧ x.pureB = true ∧ Rep w' β H x v) : Pure P f args Q := by
  unfold Pure Fun
  refine ⟨he, fun w β H m B vals cs hs hl hr => ?_⟩
  obtain ⟨e, w', fr, ⟨hb, x, v, rfl, hq, hx, hv⟩, k1, k2, k3⟩ := h w β H vals hl (fun j x v hj hv => by
    have := hr j x v hj hv
    rwa [pure_conv _ _ (pureL_mem _ hp x (List.mem_of_getElem? hj))] at this) cs
  refine ⟨x, [], v, w', β, H, m, fr, ⟨rfl, hx, hq⟩, hs.same (Fr.of_below hb) (hs.hrel.of_below hb), Fr.of_below hb, ?_, k1, k2, k3⟩
  rwa [pure_conv _ _ hx]

def flatL : List V → Bool
  | [] => true
  | v :: vs => flatB v && flatL vs
theorem flatL_get : ∀ {vs : List V}, flatL vs = true → ∀ v ∈ vs, flatB v = true
  | [], _, v, h => by cases h
  | x :: vs, hg, v, h => by
    simp only [flatL, Bool.and_eq_true] at hg
    rcases List.mem_cons.1 h with rfl | h
    · exact hg.1
    · exact flatL_get hg.2 v h

section
variable {P : Program} {w w' : World} {β β' : Nat → Loc} {H H' : Heap}
theorem Rep.flat_sl {sz : Nat} {xs : List V} {v : Value} (hx : ∀ x ∈ xs, flatL x.cells = true) (h : Rep w β H (.sl sz xs) v) : Rep w β0 [] (.sl sz xs) v := by
  cases h with
  | sl _ _ a cap vals hcap hmax hsz ha hr =>
    refine .sl sz xs a cap vals hcap hmax hsz (fun hne => ?_) (fun i x j c hi hj => ?_)
    · obtain ⟨ad, h1, _, h3⟩ := ha hne
      exact ⟨ad, h1, notOwn0 _, h3⟩
    · exact (hr i x j c hi hj).flat (flatL_get (hx x (List.mem_of_getElem? hi)) c (List.mem_of_getElem? hj))
/-- What a slice's cells hold. -/
theorem sl_cells {sz : Nat} {xs : List V} {v : Value} (h : Rep w β H (.sl sz xs) v) : ∃ (a : Option Addr) (cap : Nat), v = .slice a xs.length cap ∧ xs.length ≤ cap ∧ cap ≤ maxLen ∧
    (xs ≠ [] → ∃ ad, a = some ad ∧ ad.block < w.heap.size ∧ ∀ (i : Nat) (x : V) (j : Nat) (c : V), xs[i]? = some x → x.cells[j]? = some c → ∃ u, w.cell? (ad.add (i * sz + j)) = some u ∧ Rep w β H c u) := by
  cases h with
  | sl _ _ a cap vals hcap hmax hsz ha hr =>
    refine ⟨a, cap, rfl, hcap, hmax, fun hne => ?_⟩
    obtain ⟨ad, h1, _, h3, h4⟩ := ha hne
    refine ⟨ad, h1, h3, fun i x j c hi hj => ⟨_, h4 _ ?_, hr i x j c hi hj⟩⟩
    have h5 : i < xs.length := lt_of_get hi
    have h6 : j < sz := by rw [← (hsz x (List.mem_of_getElem? hi)).1]; exact lt_of_get hj
    have : (i + 1) * sz ≤ xs.length * sz := Nat.mul_le_mul_right sz h5
    rw [Nat.succ_mul] at this
    omega

theorem calls_of_pureQ {f : FuncId} {args : List V} {vals : Array Value} {Q : V → Prop} {c : Value} (h : Pure P f args Q) (hc : ∀ (x : V) (v : Value) (w' : World) (β' : Nat → Loc) (H' : Heap), Q x → Rep w' β' H' x v → v = c) (hp : V.pureL args = true) (hl : args.length = vals.size)
    (hr : ∀ (j : Nat) (x : V) (v : Value), args[j]? = some x → vals[j]? = some v → Rep w β H x v) : Calls P f vals w fun e w' => e = .returned c ∧ RowKit.Below w.heap.size w w' := by
  intro cs
  obtain ⟨x, v, w', β', H', fr, hq, _, k3, hb, k4, k5, k6⟩ := pure_still h hp cs hl hr
  have hv := hc x v _ _ _ hq k3
  subst hv
  exact ⟨.returned v, w', fr, ⟨rfl, hb⟩, k4, k5, k6⟩

/-- A call that is handed own slices, and hands back a number, a truth value or a text: they stay own. -/
theorem call_flat {c : Cx} {g : FuncId} {args : List V} {E : Env} {T : Heap} {K : V → St → Prop} (h : frzAll args T False fun args' _ => ∃ x, Pure c.P g args' (fun y => y = x) ∧ V.pureL args' = true ∧ flatB x = true ∧ K x ⟨E, T, c.B, c.D⟩) : CallThen c g args E T K := by
  rcases frzAll_sound (F := False) _ _ _ h with h | ⟨args', T', ⟨x, hf, ha, hx, hk⟩, hz⟩
  · exact h.elim
  have hen : Enterable c.P g := by
    unfold Pure Fun at hf
    exact hf.1
  unfold CallThen
  refine ⟨hen, fun w β H m a vals cs hs hl hr => ?_⟩
  obtain ⟨H1, q1, q2, q3⟩ := hz.2 _ _ _ _ _ _ _ _ _ _ hs
  obtain ⟨y, v, w', β', H', fr, rfl, hp, g3, hb, g4, g5, g6⟩ := pure_still hf ha cs (by rw [hz.1]; exact hl) (fun j x v hj hv => by
    have hjl : j < args.length := by have := lt_of_get hj; rw [hz.1] at this; exact this
    have e := List.getElem?_eq_getElem hjl
    exact q3 j _ x v e hj (hr j _ v e hv))
  have g2' : Fr w β H w' β H := Fr.of_below hb
  exact ⟨y, _, v, w', β, H, m, fr, hk, hs.same g2' (hs.hrel.of_below hb), g2', by rw [pure_conv _ _ hp]; exact g3.flat hx, g4, g5, g6, List.prefix_refl _⟩
end
end Bow
/- AE41: shifts to the right; a string's comparison. -/
namespace Bow
open Go

section
variable {c : Cx} {E : Env} {T : Heap} {ops : Array Oper} {i : Nat} {rest : List Nat} {k : List Item} {o : Oper}
theorem goes_shr {t t' : TypeId} {x y : Operand} {ik yk : IntKind} {a b : Int} (n : Nat) (ho : lget ops.toList i = some o) (hg : o.guard = none) (hop : o.op = .binOp .shr t x y t') (hx : opd E x = .int ik a) (hy : opd E y = .int yk b) (hb : 0 ≤ b)
    (h : putE c.nt o.dst (.int ik (a / 2 ^ min b.toNat ik.bits)) E False fun E' => evp c n (.inRegion ops rest :: k) E' T) : Goes c (.inRegion ops (i :: rest) :: k) E T := by
  refine goes_opTo n ho hg hop (fun o hop w β H m a hs => ?_) (fun cl h => by cases h) h
  have e1 := rep_int (by have := opd_rep hs x; rwa [hx] at this)
  have e2 := rep_int (by have := opd_rep hs y; rwa [hy] at this)
  refine ⟨_, _, w, β, H, m, ?_, .inl rfl, hs, Fr.refl w β H, .int _ _, List.prefix_refl m⟩
  simp only [execOp, hop, e1, e2, eqGuard, binOp, shift_shr_any _ _ _ _ hb]
  rfl
/-- A nil slice in a box, as own memory. -/
theorem goes_ownBox {todo : List Item} (kb sz : Nat) (hk : lget T kb = some (some (.box [.nilsl]))) (h : Goes c todo E (List.set (T ++ [some (HObj.vec 0 sz [])]) kb (some (HObj.box [.osl (.loc T.length) 0 0 0])))) : Goes c todo E T := by
  rw [lget_eq] at hk
  refine goes_step fun w β H m a b cs0 hs _ _ _ => ?_
  obtain ⟨β', H', k1, k2, k3⟩ := hs.newNil 0 sz none
  have hk2 : (T ++ [some (HObj.vec 0 sz [])])[kb]? = some (some (.box [.nilsl])) := by rw [List.getElem?_append_left (lt_of_get hk)]; exact hk
  obtain ⟨r, hr, hH⟩ := k1.at hk2
  have hob := k1.hrel.obj r _ hH
  have hfr : Fr w β' H' w β' (H'.set r (some ((HObj.box [.osl (.loc T.length) 0 0 0]).conv (m ++ [H.length])))) := Fr.swap hH trivial
  have hrel : HRel w β' (H'.set r (some ((HObj.box [.osl (.loc T.length) 0 0 0]).conv (m ++ [H.length])))) := by
    refine k1.hrel.swap hH trivial ?_
    simp only [HObj.conv]
    cases hβ : β' r with
    | none => trivial
    | nil => rw [hβ] at hob; exact hob
    | blk bb N =>
      rw [hβ] at hob
      obtain ⟨vs, e, q1, q2, q3, q4⟩ := hob
      refine ⟨vs, e, q1, q2, q3, fun i x v hi hv => ?_⟩
      cases i with
      | succ i => simp [V.convL] at hi
      | zero =>
        have h0 := q4 0 .nilsl v rfl hv
        cases h0
        simp only [V.convL] at hi
        injection hi with hi
        subst hi
        exact k3.mono (by rw [← HObj.conv]; exact hfr)
  have hset := k1.setAt (o' := some (.box [.osl (.loc T.length) 0 0 0])) (w' := w) hr (fun o1 e1 => by
      injection e1 with e1
      subst e1
      have hm := hs.mlen
      exact ⟨by show T.length < (m ++ [H.length]).length; simp only [List.length_append, List.length_singleton]; have : m.length = T.length := hm; omega, trivial⟩)
    (fun hm => absurd hm (k1.notD hk2 (by simp))) hfr hrel
  exact ⟨w, β', _, m ++ [H.length], a, todo, ⟨E, _, c.B, c.D⟩, .refl _ _, hset, k2.trans hfr, h⟩
/-- A slot's value, said less closely. -/
theorem goes_wkSlot {todo : List Item} (t : Nat) {v v' : V} (hx : lk E t = v) (hp : v.pureB = true) (hp' : v'.pureB = true) (hw : Wk v v') (h : Goes c todo ((t, v') :: E) T) : Goes c todo E T := by
  refine goes_step fun w β H m a b cs hs _ _ _ => ?_
  have hr := hs.env t
  rw [hx, pure_conv _ _ hp] at hr
  have hr' := hw w β H _ hr
  exact ⟨w, β, H, m, a, todo, ⟨_, _, c.B, c.D⟩, .refl _ _, hs.know (x := v') (by rw [pure_conv _ _ hp']; exact hr'), Fr.refl w β H, h⟩
/-- An own slice, frozen, as one slot holds it; what else names it is of no use from here on. -/
theorem goes_fzSlot {todo : List Item} (t kn : Nat) {g l sz : Nat} {xs : List V} (hx : lk E t = .osl (.loc kn) g 0 l) (hk : lget T kn = some (some (.vec g sz xs))) (hl : l = xs.length) (h : lset T kn none fun T' => Goes c todo ((t, .sl sz xs) :: E) T') : Goes c todo E T := by
  rw [lset_eq] at h
  have hfz : frzAll [lk E t] T False fun vs T' => vs = [.sl sz xs] ∧ T' = T.set kn none := by
    rw [hx]
    simp only [frzAll, fv_eq, frz, frz1, hk, lset_eq]
    exact ⟨trivial, hl, trivial, trivial⟩
  rcases frzAll_sound (F := False) _ _ _ hfz with h' | ⟨vs', T', ⟨rfl, rfl⟩, hto⟩
  · exact h'.elim
  refine goes_step fun w β H m a b cs hs _ _ _ => ?_
  obtain ⟨H1, q1, q2, q3⟩ := hto.2 _ _ _ _ _ _ _ _ _ _ hs
  have hr := q3 0 _ _ _ rfl rfl (hs.env t)
  exact ⟨w, β, H1, m, a, todo, ⟨_, _, c.B, c.D⟩, .refl _ _, q1.know (x := .sl sz xs) (show Rep w β H1 ((V.sl sz xs).conv m) _ from hr), q2, h⟩
end
end Bow
/- AE42: nil in a row of cells as own memory; own slices cut ahead; a pointer into own memory is not nil. -/
namespace Bow
open Go

section
variable {c : Cx} {E : Env} {T : Heap} {ops : Array Oper} {i : Nat} {rest : List Nat} {k : List Item} {o : Oper}
theorem convL_get (m : List Nat) (cs : List V) (j : Nat) : (V.convL m cs)[j]? = cs[j]?.map (V.conv m) := by
  rw [V.convL_eq, List.getElem?_map]
theorem convL_set (m : List Nat) (cs : List V) (j : Nat) (x : V) : V.convL m (cs.set j x) = (V.convL m cs).set j (x.conv m) := by
  rw [V.convL_eq, V.convL_eq, List.map_set]

/-- A nil slice in a box, as own memory. -/
theorem goes_ownCell {todo : List Item} {cs : List V} (kb j sz : Nat) (hk : lget T kb = some (some (.box cs))) (hj : cs[j]? = some .nilsl) (h : Goes c todo E (List.set (T ++ [some (HObj.vec 0 sz [])]) kb (some (HObj.box (cs.set j (.osl (.loc T.length) 0 0 0)))))) : Goes c todo E T := by
  rw [lget_eq] at hk
  refine goes_step fun w β H m a b cs0 hs _ _ _ => ?_
  obtain ⟨β', H', k1, k2, k3⟩ := hs.newNil 0 sz none
  have hk2 : (T ++ [some (HObj.vec 0 sz [])])[kb]? = some (some (.box cs)) := by rw [List.getElem?_append_left (lt_of_get hk)]; exact hk
  obtain ⟨r, hr, hH⟩ := k1.at hk2
  have hob := k1.hrel.obj r _ hH
  have hfr : Fr w β' H' w β' (H'.set r (some ((HObj.box (cs.set j (.osl (.loc T.length) 0 0 0))).conv (m ++ [H.length])))) := Fr.swap hH trivial
  have hrel : HRel w β' (H'.set r (some ((HObj.box (cs.set j (.osl (.loc T.length) 0 0 0))).conv (m ++ [H.length])))) := by
    refine k1.hrel.swap hH trivial ?_
    simp only [HObj.conv]
    cases hβ : β' r with
    | none => trivial
    | nil => rw [hβ] at hob; exact hob
    | blk bb N =>
      rw [hβ] at hob
      obtain ⟨vs, e, q1, q2, q3, q4⟩ := hob
      refine ⟨vs, e, q1, q2, by rw [convL_set, List.length_set]; exact q3, fun i x v hi hv => ?_⟩
      rw [convL_set, List.getElem?_set] at hi
      split at hi
      · rename_i hji
        subst hji
        split at hi
        · injection hi with hi
          subst hi
          have h0 := q4 j .nilsl v (by rw [convL_get, hj]; rfl) hv
          cases h0
          exact k3.mono hfr
        · cases hi
      · exact (q4 i x v hi hv).mono hfr
  have hset := k1.setAt (o' := some (.box (cs.set j (.osl (.loc T.length) 0 0 0)))) (w' := w) hr (fun o1 e1 => by
      injection e1 with e1
      subst e1
      have hm : m.length = T.length := hs.mlen
      have hsc := hs.scT kb _ hk
      show V.scL _ _
      rw [V.scL_iff]
      have hsc' := (V.scL_iff _ _).1 hsc
      intro v hv
      rcases List.mem_or_eq_of_mem_set hv with hv | hv
      · exact V.sc_mono (by simp; omega) v (hsc' v hv)
      · subst hv
        show T.length < (m ++ [H.length]).length
        simp only [List.length_append, List.length_singleton]
        omega)
    (fun hm => absurd hm (k1.notD hk2 (by simp))) hfr hrel
  exact ⟨w, β', _, m ++ [H.length], a, todo, ⟨E, _, c.B, c.D⟩, .refl _ _, hset, k2.trans hfr, h⟩

/-- An own slice, cut ahead of its elements from the h-th on. -/
theorem goes_cutlo {t e : TypeId} {x lo : Operand} {kk : IntKind} {ti : TypeInfo} {kn g off l sz h : Nat} {xs : List V} (n : Nat) (ho : lget ops.toList i = some o) (hg : o.guard = none) (hop : o.op = .slice t x (some lo) none none) (hx : opd E x = .osl (.loc kn) g off l) (hh : opd E lo = .int kk h) (ht : tyU c.P t = some (.slice e)) (hi' : tyI c.P e = some ti) (hsz : ti.size = sz)
    (hk : lget T kn = some (some (.vec g sz xs))) (hle : h ≤ l)
    (hn : putE c.nt o.dst (.osl (.loc kn) g (off + h) (l - h)) E False fun E' => evp c n (.inRegion ops rest :: k) E' T) : Goes c (.inRegion ops (i :: rest) :: k) E T := by
  rw [lget_eq] at hk
  refine goes_opTo n ho hg hop (fun o hop w β H m a hs => ?_) (fun cl h => by cases h) hn
  have hv := opd_rep hs x
  obtain ⟨r, hr, hH⟩ := hs.at hk
  simp only [hx, V.conv, Ref.conv, hr] at hv
  simp only [HObj.conv] at hH
  have e2 := rep_int (m := m) (by have := opd_rep hs lo; rwa [hh] at this)
  have hvec2 : ∀ sz2 xs2, H[r]? = some (some (.vec g sz2 xs2)) → sz2 = sz ∧ xs2 = xs := fun sz2 xs2 h2 => by
    rw [hH] at h2
    injection h2 with h2
    injection h2 with h2
    injection h2 with _ e1 e2
    exact ⟨e1.symm, e2.symm⟩
  generalize hq : a.eval x = q at hv
  have hrun : ∀ (ad : Option Addr) (cap : Nat), q = .slice ad l cap → l ≤ cap → (execOp a.eval o).run c.P w = .ok (.value (.slice (if cap - h = 0 then ad else Option.map (fun x => x.add (h * sz)) ad) (l - h) (cap - h))) w := by
    intro ad cap hqe hlc
    subst hqe
    have hhc : h ≤ cap := by omega
    simp [execOp, hop, hq, e2, Instr.sliceAt, Instr.slice, Instr.sliceBounds, Instr.sliceBound, asIntOf, run_underlying (tyU_sound ht), run_sizeOf' (tyI_sound hi'), hsz, hle]
    by_cases hch : cap = h
    · simp [hch]
    · rw [if_neg hch, if_neg (by omega)]
  cases hv with
  | oslNil _ _ sz2 xs2 ad hH' hβ =>
    obtain ⟨rfl, rfl⟩ := hvec2 _ _ hH'
    obtain rfl : h = 0 := by omega
    refine ⟨_, _, w, β, H, m, hrun ad 0 rfl (Nat.le_refl _), .inl rfl, hs, Fr.refl w β H, ?_, List.prefix_refl _⟩
    simp only [V.conv, Ref.conv, hr]
    exact .oslNil r g sz2 xs2 _ hH hβ
  | oslBlk _ _ _ _ sz2 xs2 b N ad cap hH' hβ hl hN hcap ha hlen =>
    obtain ⟨rfl, rfl⟩ := hvec2 _ _ hH'
    refine ⟨_, _, w, β, H, m, hrun ad cap rfl hl, .inl rfl, hs, Fr.refl w β H, ?_, List.prefix_refl _⟩
    simp only [V.conv, Ref.conv, hr]
    refine .oslBlk r g (off + h) (l - h) sz2 xs2 b N _ _ hH hβ (by omega) (by rw [show off + h + (cap - h) = off + cap by omega]; exact hN) (by omega) (fun hc => ?_) (by omega)
    rw [if_neg (by omega), ha (by omega)]
    simp [Addr.add, Nat.add_mul]
  | oslStale _ _ _ _ g' sz' xs' _ hH' hg =>
    rw [hH] at hH'
    injection hH' with hH'
    injection hH' with hH'
    injection hH' with e0 _ _
    omega
  | oslDead _ _ _ _ _ hd => rw [hH] at hd; cases hd

/-- A pointer into own memory is not nil. -/
theorem goes_nilE {x : Operand} {kn g sz ix off : Nat} {xs : List V} (n : Nat) (ho : lget ops.toList i = some o) (hg : o.guard = none) (hop : o.op = .nilCheck x) (hx : opd E x = .eptr (.loc kn) g ix off) (hk : lget T kn = some (some (.vec g sz xs)))
    (hn : putE c.nt o.dst (.eptr (.loc kn) g ix off) E False fun E' => evp c n (.inRegion ops rest :: k) E' T) : Goes c (.inRegion ops (i :: rest) :: k) E T := by
  rw [lget_eq] at hk
  refine goes_opTo n ho hg hop (fun o hop w β H m a hs => ?_) (fun cl h => by cases h) hn
  have hv := opd_rep hs x
  obtain ⟨r, hr, hH⟩ := hs.at hk
  simp only [hx, V.conv, Ref.conv, hr] at hv
  simp only [HObj.conv] at hH
  generalize hq : a.eval x = q at hv
  cases hv with
  | eptrLive _ _ _ _ sz2 xs2 b N hH' hβ hi =>
    refine ⟨_, _, w, β, H, m, by simp [execOp, hop, hq]; rfl, .inl rfl, hs, Fr.refl w β H, ?_, List.prefix_refl _⟩
    simp only [V.conv, Ref.conv, hr]
    exact .eptrLive r g ix off sz2 xs2 b N hH' hβ hi
  | eptrStale _ _ _ _ g' sz' xs' _ hH' hg =>
    rw [hH] at hH'
    injection hH' with hH'
    injection hH' with hH'
    injection hH' with e0 _ _
    omega
  | eptrDead _ _ _ _ _ hd => rw [hH] at hd; cases hd
end

/-- A function's contract, its pure result said less closely. -/
theorem fun_wk {P : Program} {f : FuncId} {T : Heap} {args : List V} {Q : V → Heap → Prop} (h : Fun P f T args fun x T' => ∃ y, Wk x y ∧ x.pureB = true ∧ y.pureB = true ∧ Q y T') : Fun P f T args Q := by
  unfold Fun at *
  refine ⟨h.1, fun w β H m B vals cs hs hl hr => ?_⟩
  obtain ⟨x, T', v, w', β', H', m', fr, ⟨y, q1, q2, q3, q4⟩, k1, k2, k3, k4⟩ := h.2 w β H m B vals cs hs hl hr
  rw [pure_conv _ _ q2] at k3
  exact ⟨y, T', v, w', β', H', m', fr, q4, k1, k2, by rw [pure_conv _ _ q3]; exact q1 _ _ _ _ k3, k4⟩
end Bow
/- W1: plain: nodes. -/
namespace Bow
open Go Go.Proofs

theorem foldl_count {α : Type} : ∀ (l : List α) (n : Nat), l.foldl (fun c _ => c + 1) n = n + l.length
  | [], n => by simp
  | a :: l, n => by rw [List.foldl_cons, foldl_count l]; simp; omega

end Bow
/- W2: trees measured. -/
namespace Bow
open Go Go.Proofs

/-- The text of a node: its attributes' part is summed up round by round. -/
theorem attrLen_drop {l : List (List UInt8 × List UInt8)} {i : Nat} (h : i < l.length) : attrLen (l.drop i) = l[i].1.length + l[i].2.length + attrLen (l.drop (i + 1)) := by rw [drop_cons h, attrLen_cons]

end Bow
/- W3: trees measured, more. -/
namespace Bow
open Go Go.Proofs

end Bow
/- W4: Weight. -/
namespace Bow
open Go Go.Proofs

theorem not_lt_of {a b : Int} (h : decide (a < b) = false) : b ≤ a := by simpa using h
theorem lt_of {a b : Int} (h : decide (a < b) = true) : a < b := by simpa using h
theorem le_of {a b : Int} (h : decide (a ≤ b) = true) : a ≤ b := by simpa using h
theorem not_le_of {a b : Int} (h : decide (a ≤ b) = false) : b < a := by simpa using h
theorem eq_of {a b : Int} (h : decide (a = b) = true) : a = b := by simpa using h
theorem ne_of {a b : Int} (h : decide (a = b) = false) : a ≠ b := by simpa using h
theorem ne_of' {a b : Int} (h : (!decide (a = b)) = true) : a ≠ b := by simpa using h
theorem eq_of' {a b : Int} (h : (!decide (a = b)) = false) : a = b := by simpa using h

end Bow
/- W5: limits.Check; the trees of the chapter's examples. -/
namespace Bow
open Go Go.Proofs

def checkE (t : Tree) : Int := if 512 < t.size then 160 else if 12 < t.depth then 161 else if 2048 < t.long then 162 else 0

/-! ### The examples' trees -/
def zeroT (ss : List Tree) : Tree := .mk 0 false [] [] [] ss
/-- As a literal lays it: what it does not name is nil. -/
def zeroV (k : V) : V := .agg [.int .u64 0, .ff, .str [], .nilsl, .str [], k]
theorem wk_zero {k : V} {ss : List Tree} (h : Wk k (.sl 6 (ss.map nodeV))) : Wk (zeroV k) (nodeV (zeroT ss)) := by
  refine Wk.agg ⟨.refl _, Wk.ff, .refl _, Wk.nil 2, .refl _, ?_, trivial⟩
  rw [subV_eq]
  exact h
theorem okE_node (t : Tree) : okE 6 (nodeV t) := ⟨rfl, rfl⟩
theorem wkE_nodes : ∀ {xs : List V} {ts : List Tree}, xs.length = ts.length → (∀ (i : Nat) (x : V) (t : Tree), xs[i]? = some x → ts[i]? = some t → WkL x.cells (nodeV t).cells) → WkE 6 xs (ts.map nodeV)
  | [], [], _, _ => trivial
  | x :: xs, t :: ts, hl, h => ⟨⟨h 0 x t rfl rfl, okE_node t⟩, wkE_nodes (by simpa using hl) fun i y s hy hs => h (i + 1) y s (by simpa using hy) (by simpa using hs)⟩
  | [], _ :: _, hl, _ => by simp at hl
  | _ :: _, [], hl, _ => by simp at hl
theorem wkL_zero {k : V} {ss : List Tree} (h : Wk k (.sl 6 (ss.map nodeV))) : WkL (zeroV k).cells (nodeV (zeroT ss)).cells := by
  refine ⟨.refl _, Wk.ff, .refl _, Wk.nil 2, .refl _, ?_, trivial⟩
  rw [subV_eq]
  exact h

def flatT (n : Nat) : Tree := zeroT (List.replicate n (zeroT []))
def chainT : Nat → Tree
  | 0 => zeroT []
  | n + 1 => zeroT [chainT n]
def chainV : Nat → V
  | 0 => zeroV .nilsl
  | n + 1 => zeroV (.sl 6 [chainV n])
theorem chainV_cells (n : Nat) : ∃ k, chainV n = zeroV k ∧ Wk k (.sl 6 ((match n with | 0 => [] | n + 1 => [chainT n]).map nodeV)) := by
  induction n with
  | zero => exact ⟨_, rfl, Wk.nil 6⟩
  | succ n ih =>
    obtain ⟨k, h1, h2⟩ := ih
    refine ⟨_, rfl, Wk.sl (wkE_nodes rfl fun i x t hx ht => ?_)⟩
    cases i with
    | succ i => simp at hx
    | zero =>
      simp at hx ht
      subst hx ht
      rw [h1]
      have := wkL_zero h2
      cases n <;> exact this
theorem wk_chain (n : Nat) : Wk (chainV n) (nodeV (chainT n)) := by
  obtain ⟨k, h1, h2⟩ := chainV_cells n
  rw [h1]
  have := wk_zero h2
  cases n <;> exact this
def longT (n : Nat) (l : List (List UInt8 × List UInt8)) : Tree := zeroT [.mk 0 true [] l (List.replicate n 0) []]
end Bow
/- W6: which operations are formed. -/
namespace Bow
open Go Go.Proofs

theorem w_May1 (n : Int) : Pure Try.prog 107 [intV n] (fun x => x = .bool (!stepOk n)) := by
  refine pure_wk (pure_fn 100 Try.func107 rfl rfl rfl fun B => ?_)
  refine ⟨fun g1 => go 200 ?_, fun g1 => go 200 ?_⟩
  · have g1 := lt_of g1
    exact ⟨trivial, rfl, rfl, rfl, leaf_tt (by unfold stepOk; rw [decide_eq_false (by omega)]; rfl)⟩
  · have g1 := not_lt_of g1
    refine ⟨trivial, rfl, rfl, rfl, leaf_b ?_⟩
    unfold stepOk
    rw [decide_eq_true (p := 0 ≤ n) (by omega), Bool.true_and]
    by_cases h : n < 1048576
    · rw [decide_eq_true h, decide_eq_false (by omega)]; rfl
    · rw [decide_eq_false h, decide_eq_true (by omega)]; rfl

/-- The first place where a predicate holds, or -1. -/
def findIx (f : Int → Bool) : Nat → List Int → Int
  | _, [] => -1
  | i, x :: xs => bif f x then i else findIx f (i + 1) xs
theorem findIx_any (f : Int → Bool) : ∀ (xs : List Int) (i : Nat), decide (0 ≤ findIx f i xs) = xs.any f
  | [], i => by simp [findIx]
  | x :: xs, i => by
    rw [findIx, List.any_cons]
    cases h : f x with
    | true => simp
    | false => simpa using findIx_any f xs (i + 1)

set_option maxRecDepth 100000 in
theorem w_IndexInt (f : Int → Bool) (g : FuncId) (xs : List Int) (hl : xs.length ≤ 1000000) (hg : ∀ n, Pure Try.prog g [intV n] (fun x => x = .bool (f n))) :
    Pure Try.prog 127 [pathV xs, .fn (.func g) [] []] (fun x => x = .int .i64 (findIx f 0 xs)) := by
  refine pure_fn 100 Try.func127 rfl rfl rfl fun B => ?_
  show Goes _ _ _ _
  refine goes_iter (ι := Nat) (fun i => i ≤ xs.length ∧ findIx f i (xs.drop i) = findIx f 0 xs) (fun i => xs.length - i) (fun i => [(8, .int .i64 i), (7, .int .i64 (xs.map intV).length), (1, .fn (.func g) [] []), (0, pathV xs)]) (fun _ => []) 0 200 (fun _ => rfl) (fun _ => rfl) ⟨⟨Nat.zero_le _, rfl⟩, ?_, ?_⟩ ?_
  · exact ⟨⟨rfl, rfl⟩, ⟨rfl, rfl⟩, ⟨rfl, rfl⟩, ⟨rfl, rfl⟩, trivial⟩
  · trivial
  · rintro i ⟨h1, h2⟩ next
    refine ⟨fun hlt => go 200 ?_, fun hge => go 200 ?_⟩
    · have hi : i < xs.length := by simpa using hlt
      have hx : (xs.map intV)[i]? = some (intV xs[i]) := by simp [hi]
      rw [drop_cons hi, findIx] at h2
      refine ⟨Int.natCast_nonneg i, _, hx, ?_⟩
      show CallThen _ _ _ _ _ _
      refine call_pure (hg xs[i]) rfl ?_
      rintro x rfl
      refine ⟨fun h => go 200 ?_, fun h => go 200 ?_⟩
      · rw [h] at h2
        exact ⟨trivial, rfl, rfl, rfl, by rw [← h2]; rfl⟩
      · rw [h] at h2
        refine ⟨by constructor <;> omega, ?_⟩
        show Goes _ _ _ _
        exact next (i + 1) _ _ ⟨⟨hi, h2⟩, by omega, ⟨⟨rfl, rfl⟩, ⟨rfl, rfl⟩, ⟨rfl, rfl⟩, ⟨rfl, rfl⟩, trivial⟩, trivial⟩
    · have hi : xs.length ≤ i := by simpa using hge
      rw [List.drop_eq_nil_of_le hi] at h2
      exact ⟨trivial, rfl, rfl, rfl, by rw [← h2]; rfl⟩

theorem w_ContainsInt (f : Int → Bool) (g : FuncId) (xs : List Int) (hl : xs.length ≤ 1000000) (hg : ∀ n, Pure Try.prog g [intV n] (fun x => x = .bool (f n))) :
    Pure Try.prog 106 [pathV xs, .fn (.func g) [] []] (fun x => x = .bool (xs.any f)) := by
  refine pure_fn 100 Try.func106 rfl rfl rfl fun B => ?_
  show CallThen _ _ _ _ _ _
  refine call_pure (w_IndexInt f g xs hl hg) rfl ?_
  rintro x rfl
  exact ⟨trivial, rfl, rfl, rfl, by rw [← findIx_any f xs 0]; rfl⟩

theorem any_not_all (xs : List Int) : (xs.any fun n => !stepOk n) = !xs.all stepOk := by
  induction xs with
  | nil => rfl
  | cons x xs ih => simp [ih]

theorem w_May (p : List Int) : Pure Try.prog 70 [pathV p] (fun x => x = .bool (mayP p)) := by
  refine pure_wk (pure_fn 100 Try.func70 rfl rfl rfl fun B => ?_)
  refine ⟨fun g1 => go 200 ?_, fun g1 => go 200 ?_⟩
  · have g1 : p.length ≤ 64 := by have := le_of g1; simp at this; omega
    show CallThen _ _ _ _ _ _
    refine call_pure (w_ContainsInt (fun n => !stepOk n) _ p (by omega) w_May1) rfl ?_
    rintro x rfl
    exact ⟨trivial, rfl, rfl, rfl, leaf_b (by rw [any_not_all]; simp [mayP, g1])⟩
  · have g1 : 64 < p.length := by have := not_le_of g1; simp at this; omega
    exact ⟨trivial, rfl, rfl, rfl, leaf_ff (by unfold mayP; rw [decide_eq_false (by omega)]; rfl)⟩

theorem w_Key (s : List UInt8) : Pure Try.prog 71 [.str s] (fun x => x = .bool (keyOk s)) := by
  refine pure_wk (pure_fn 100 Try.func71 rfl rfl rfl fun B => ?_)
  refine ⟨fun g1 => go 200 ?_, fun g1 => go 200 ?_⟩
  · have g1 : s ≠ [] := by simpa using g1
    have : 0 < s.length := List.length_pos_iff.2 g1
    exact ⟨trivial, rfl, rfl, rfl, leaf_b (by unfold keyOk; rw [decide_eq_true (p := 1 ≤ s.length) (by omega), Bool.true_and]; simp; omega)⟩
  · have g1 : s = [] := by simpa using g1
    exact ⟨trivial, rfl, rfl, rfl, leaf_ff (by rw [g1]; rfl)⟩
theorem w_refKey (s : List UInt8) : Pure Try.prog 84 [.str s] (fun x => x = .bool (keyOk s)) := by
  refine pure_wk (pure_fn 100 Try.func84 rfl rfl rfl fun B => ?_)
  refine ⟨fun g1 => go 200 ?_, fun g1 => go 200 ?_⟩
  · have g1 : (1 : Int) ≤ s.length := by simpa using g1
    exact ⟨trivial, rfl, rfl, rfl, leaf_b (by unfold keyOk; rw [decide_eq_true (p := 1 ≤ s.length) (by omega), Bool.true_and]; simp; omega)⟩
  · have g1 : ¬ (1 : Int) ≤ s.length := by simpa using g1
    exact ⟨trivial, rfl, rfl, rfl, leaf_ff (by unfold keyOk; rw [decide_eq_false (p := 1 ≤ s.length) (by omega)]; rfl)⟩
end Bow
/- W7: pieces that are right; Formed. -/
namespace Bow
open Go Go.Proofs

theorem may_cons_drop (p : List Int) (i : Nat) (h : i < p.length) : (p.drop i).all stepOk = (stepOk p[i] && (p.drop (i + 1)).all stepOk) := by rw [drop_cons h, List.all_cons]

set_option maxRecDepth 100000 in
theorem w_refMay (p : List Int) (hp : p.length ≤ 1000000) : Pure Try.prog 83 [pathV p] (fun x => x = .bool (mayP p)) := by
  refine pure_wk (pure_fn 100 Try.func83 rfl rfl rfl fun B => ?_)
  show Goes _ _ _ _
  refine goes_iter (ι := Nat) (fun i => i ≤ p.length ∧ i ≤ 64 ∧ mayP p = (decide (p.length ≤ 64) && (p.drop i).all stepOk)) (fun i => p.length - i) (fun i => [(3, .int .i64 i), (0, pathV p)]) (fun _ => []) 0 200 (fun _ => rfl) (fun _ => rfl) ⟨⟨Nat.zero_le _, Nat.zero_le _, rfl⟩, ?_, ?_⟩ ?_
  · exact ⟨⟨rfl, rfl⟩, ⟨rfl, rfl⟩, trivial⟩
  · trivial
  · rintro i ⟨h1, h3, h2⟩ next
    refine ⟨fun hlt => go 200 ?_, fun hge => go 200 ?_⟩
    · have hi : i < p.length := by simpa using hlt
      have hx : (p.map intV)[i]? = some (intV p[i]) := by simp [hi]
      rw [may_cons_drop p i hi] at h2
      refine ⟨fun g1 => go 200 ?_, fun g1 => go 200 ?_⟩
      · have g1 : (64 : Int) ≤ i := by simpa using g1
        exact ⟨trivial, rfl, rfl, rfl, leaf_ff (by rw [h2, decide_eq_false (p := p.length ≤ 64) (by omega)]; rfl)⟩
      have g1 : ¬ (64 : Int) ≤ i := by simpa using g1
      refine ⟨Int.natCast_nonneg i, _, hx, ?_⟩
      refine ⟨fun g2 => go 200 ?_, fun g2 => go 200 ?_⟩
      · have g2 := lt_of g2
        exact ⟨trivial, rfl, rfl, rfl, leaf_ff (by rw [h2]; unfold stepOk; rw [decide_eq_false (p := 0 ≤ p[i]) (by omega)]; simp)⟩
      have g2 := not_lt_of g2
      refine ⟨Int.natCast_nonneg i, _, hx, ?_⟩
      refine ⟨fun g3 => go 200 ?_, fun g3 => go 200 ?_⟩
      · have g3 := le_of g3
        exact ⟨trivial, rfl, rfl, rfl, leaf_ff (by rw [h2]; unfold stepOk; rw [decide_eq_false (p := p[i] < 1048576) (by omega)]; simp)⟩
      have g3 := not_le_of g3
      refine ⟨by constructor <;> omega, ?_⟩
      show Goes _ _ _ _
      refine next (i + 1) _ _ ⟨⟨hi, by omega, ?_⟩, by omega, ⟨⟨rfl, rfl⟩, ⟨rfl, rfl⟩, trivial⟩, trivial⟩
      have : stepOk p[i] = true := by unfold stepOk; rw [decide_eq_true (by omega), decide_eq_true (by omega)]; rfl
      rw [h2, this, Bool.true_and]
    · have hi : p.length ≤ i := by simpa using hge
      rw [List.drop_eq_nil_of_le hi] at h2
      exact ⟨trivial, rfl, rfl, rfl, leaf_tt (by rw [h2, decide_eq_true (p := p.length ≤ 64) (by omega)]; rfl)⟩

theorem rightGo_bad {n : Nat} {p : PieceT} {l : List PieceT} (h : p.keep < 0 ∨ 1048576 < p.keep ∨ p.drop < 0 ∨ 1048576 < p.drop ∨ 1048576 < n + p.put.length) : rightGo n (p :: l) = false := by
  rw [rightGo]
  rcases h with h | h | h | h | h
  · rw [decide_eq_false (p := 0 ≤ p.keep) (by omega)]; rfl
  · rw [decide_eq_false (p := p.keep ≤ 1048576) (by omega)]; simp
  · rw [decide_eq_false (p := 0 ≤ p.drop) (by omega)]; simp
  · rw [decide_eq_false (p := p.drop ≤ 1048576) (by omega)]; simp
  · rw [decide_eq_false (p := n + p.put.length ≤ 1048576) (by omega)]; simp
theorem rightGo_good {n : Nat} {p : PieceT} {l : List PieceT} (h1 : 0 ≤ p.keep) (h2 : p.keep ≤ 1048576) (h3 : 0 ≤ p.drop) (h4 : p.drop ≤ 1048576) (h5 : n + p.put.length ≤ 1048576) : rightGo n (p :: l) = rightGo (n + p.put.length) l := by
  rw [rightGo, decide_eq_true h1, decide_eq_true h2, decide_eq_true h3, decide_eq_true h4, decide_eq_true h5]
  rfl

set_option maxRecDepth 100000 in
theorem w_RightW (l : List PieceT) (hl : l.length ≤ 1000000000000) (hpl : ∀ p ∈ l, p.put.length ≤ 1000000000000) : Pure Try.prog 72 [piecesV l] (fun x => x = .bool (rightP l)) := by
  refine pure_wk (pure_fn 100 Try.func72 rfl rfl rfl fun B => ?_)
  refine ⟨fun g0 => go 200 ?_, fun g0 => go 200 ?_⟩
  · have g0 : 4096 < l.length := by have := lt_of g0; simp at this; omega
    exact ⟨trivial, rfl, rfl, rfl, leaf_ff (by unfold rightP; rw [decide_eq_false (by omega)]; rfl)⟩
  have g0 : l.length ≤ 4096 := by have := not_lt_of g0; simp at this; omega
  show Goes _ _ _ _
  refine goes_iter (ι := Nat × Nat) (fun i => i.1 ≤ l.length ∧ i.2 ≤ 1048576 ∧ rightP l = rightGo i.2 (l.drop i.1)) (fun i => l.length - i.1) (fun i => [(11, .int .i64 i.1), (10, .int .i64 (l.map pieceV).length), (9, piecesV l), (3, .int .i64 i.2)]) (fun _ => []) (0, 0) 200 (fun _ => rfl) (fun _ => rfl) ⟨⟨Nat.zero_le _, Nat.zero_le _, ?_⟩, ?_, ?_⟩ ?_
  · unfold rightP
    rw [decide_eq_true g0]
    rfl
  · exact ⟨⟨rfl, rfl⟩, ⟨rfl, rfl⟩, ⟨rfl, rfl⟩, ⟨rfl, rfl⟩, trivial⟩
  · trivial
  · rintro ⟨i, n⟩ ⟨h1, h3, h2⟩ next
    simp only at h1 h2 h3
    refine ⟨fun hlt => go 200 ?_, fun hge => go 200 ?_⟩
    · have hi : i < l.length := by simpa using hlt
      have hx : (l.map pieceV)[i]? = some (pieceV l[i]) := by simp [hi]
      have hput := hpl l[i] (List.getElem_mem hi)
      rw [drop_cons hi] at h2
      refine ⟨Int.natCast_nonneg i, _, hx, ?_⟩
      refine ⟨fun g1 => go 200 ?_, fun g1 => go 200 ?_⟩
      · have g1 := lt_of g1
        refine ⟨trivial, rfl, rfl, rfl, leaf_ff ?_⟩
        rw [h2]
        refine rightGo_bad ?_
        split at g1 <;> omega
      have g1 := not_lt_of g1
      have q1 : 0 ≤ (l[i]).keep ∧ 0 ≤ (l[i]).drop := by split at g1 <;> omega
      refine ⟨fun g2 => go 200 ?_, fun g2 => go 200 ?_⟩
      · have g2 := lt_of g2
        refine ⟨trivial, rfl, rfl, rfl, leaf_ff ?_⟩
        rw [h2]
        refine rightGo_bad ?_
        split at g2 <;> omega
      have g2 := not_lt_of g2
      have q2 : (l[i]).keep ≤ 1048576 ∧ (l[i]).drop ≤ 1048576 := by split at g2 <;> omega
      refine ⟨by constructor <;> omega, ?_⟩
      refine ⟨fun g3 => go 200 ?_, fun g3 => go 200 ?_⟩
      · have g3 := lt_of g3
        refine ⟨trivial, rfl, rfl, rfl, leaf_ff ?_⟩
        rw [h2]
        exact rightGo_bad (by omega)
      have g3 := not_lt_of g3
      refine ⟨by constructor <;> omega, ?_⟩
      refine ⟨by constructor <;> omega, ?_⟩
      show Goes _ _ _ _
      refine next (i + 1, n + (l[i]).put.length) _ _ ⟨⟨hi, by simp only; omega, ?_⟩, ?_, ⟨⟨rfl, rfl⟩, ⟨rfl, rfl⟩, ⟨rfl, rfl⟩, ⟨rfl, rfl⟩, trivial⟩, trivial⟩
      · rw [h2]
        exact rightGo_good q1.1 q2.1 q1.2 q2.2 (by omega)
      · simp only; omega
    · have hi : l.length ≤ i := by simpa using hge
      rw [List.drop_eq_nil_of_le hi] at h2
      exact ⟨trivial, rfl, rfl, rfl, leaf_tt h2⟩
theorem w_Right (l : List PieceT) (hl : l.length ≤ 1000000) (hpl : ∀ p ∈ l, p.put.length ≤ 1000000000) : Pure Try.prog 72 [piecesV l] (fun x => x = .bool (rightP l)) :=
  w_RightW l (by omega) fun p hp => by have := hpl p hp; omega

set_option maxRecDepth 100000 in
theorem w_refRight (l : List PieceT) (hl : l.length ≤ 1000000) (hpl : ∀ p ∈ l, p.put.length ≤ 1000000000) : Pure Try.prog 85 [piecesV l] (fun x => x = .bool (rightP l)) := by
  refine pure_wk (pure_fn 100 Try.func85 rfl rfl rfl fun B => ?_)
  refine ⟨fun g0 => go 200 ?_, fun g0 => go 200 ?_⟩
  · have g0 : 4096 < l.length := by have := lt_of g0; simp at this; omega
    exact ⟨trivial, rfl, rfl, rfl, leaf_ff (by unfold rightP; rw [decide_eq_false (by omega)]; rfl)⟩
  have g0 : l.length ≤ 4096 := by have := not_lt_of g0; simp at this; omega
  show Goes _ _ _ _
  refine goes_iter (ι := Nat × Nat) (fun i => i.1 ≤ l.length ∧ i.2 ≤ 1048576 ∧ rightP l = rightGo i.2 (l.drop i.1)) (fun i => l.length - i.1) (fun i => [(4, .int .i64 i.1), (0, piecesV l), (3, .int .i64 i.2)]) (fun _ => []) (0, 0) 200 (fun _ => rfl) (fun _ => rfl) ⟨⟨Nat.zero_le _, Nat.zero_le _, ?_⟩, ?_, ?_⟩ ?_
  · unfold rightP
    rw [decide_eq_true g0]
    rfl
  · exact ⟨⟨rfl, rfl⟩, ⟨rfl, rfl⟩, ⟨rfl, rfl⟩, trivial⟩
  · trivial
  · rintro ⟨i, n⟩ ⟨h1, h3, h2⟩ next
    simp only at h1 h2 h3
    refine ⟨fun hlt => go 200 ?_, fun hge => go 200 ?_⟩
    · have hi : i < l.length := by simpa using hlt
      have hx : (l.map pieceV)[i]? = some (pieceV l[i]) := by simp [hi]
      have hput := hpl l[i] (List.getElem_mem hi)
      rw [drop_cons hi] at h2
      refine ⟨Int.natCast_nonneg i, _, hx, ?_⟩
      refine ⟨fun g1 => go 200 ?_, fun g1 => go 200 ?_⟩
      · have g1 := lt_of g1
        exact ⟨trivial, rfl, rfl, rfl, leaf_ff (by rw [h2]; exact rightGo_bad (by omega))⟩
      have g1 := not_lt_of g1
      refine ⟨Int.natCast_nonneg i, _, hx, ?_⟩
      refine ⟨fun g2 => go 200 ?_, fun g2 => go 200 ?_⟩
      · have g2 := lt_of g2
        exact ⟨trivial, rfl, rfl, rfl, leaf_ff (by rw [h2]; exact rightGo_bad (by omega))⟩
      have g2 := not_lt_of g2
      refine ⟨Int.natCast_nonneg i, _, hx, ?_⟩
      refine ⟨fun g3 => go 200 ?_, fun g3 => go 200 ?_⟩
      · have g3 := lt_of g3
        exact ⟨trivial, rfl, rfl, rfl, leaf_ff (by rw [h2]; exact rightGo_bad (by omega))⟩
      have g3 := not_lt_of g3
      refine ⟨Int.natCast_nonneg i, _, hx, ?_⟩
      refine ⟨fun g4 => go 200 ?_, fun g4 => go 200 ?_⟩
      · have g4 := lt_of g4
        exact ⟨trivial, rfl, rfl, rfl, leaf_ff (by rw [h2]; exact rightGo_bad (by omega))⟩
      have g4 := not_lt_of g4
      refine ⟨Int.natCast_nonneg i, _, hx, ?_⟩
      refine ⟨by constructor <;> omega, ?_⟩
      refine ⟨fun g5 => go 200 ?_, fun g5 => go 200 ?_⟩
      · have g5 := lt_of g5
        exact ⟨trivial, rfl, rfl, rfl, leaf_ff (by rw [h2]; exact rightGo_bad (by omega))⟩
      have g5 := not_lt_of g5
      refine ⟨Int.natCast_nonneg i, _, hx, ?_⟩
      refine ⟨by constructor <;> omega, ?_⟩
      refine ⟨by constructor <;> omega, ?_⟩
      show Goes _ _ _ _
      refine next (i + 1, n + (l[i]).put.length) _ _ ⟨⟨hi, by simp only; omega, ?_⟩, ?_, ⟨⟨rfl, rfl⟩, ⟨rfl, rfl⟩, ⟨rfl, rfl⟩, trivial⟩, trivial⟩
      · rw [h2]
        exact rightGo_good (by omega) (by omega) (by omega) (by omega) (by omega)
      · simp only; omega
    · have hi : l.length ≤ i := by simpa using hge
      rw [List.drop_eq_nil_of_le hi] at h2
      exact ⟨trivial, rfl, rfl, rfl, leaf_tt h2⟩
end Bow
/- W8: Formed. -/
namespace Bow
open Go Go.Proofs

set_option maxRecDepth 100000 in
theorem w_Formed (o : OpT) (ho : o.Lt 1000000) (hpl : ∀ p ∈ o.pieces, p.put.length ≤ 1000000000) : Pure Try.prog 43 [opV o] (fun x => x = .bool (formedB o)) := by
  have hm := w_May o.path
  have hm2 := w_May o.to
  have hk := w_Key o.key
  have hr := w_Right o.pieces ho.pieces hpl
  refine pure_wk (pure_fn 300 Try.func43 rfl rfl rfl fun B => ?_)
  clear ho hpl
  repeat' first
    | (refine ⟨fun _ => go 300 ?_, fun _ => go 300 ?_⟩)
    | (show CallThen _ _ _ _ _ _; refine call_pure hm rfl ?_; rintro x rfl)
    | (show CallThen _ _ _ _ _ _; refine call_pure hm2 rfl ?_; rintro x rfl)
    | (show CallThen _ _ _ _ _ _; refine call_pure hk rfl ?_; rintro x rfl)
    | (show CallThen _ _ _ _ _ _; refine call_pure hr rfl ?_; rintro x rfl)
    | (refine ⟨trivial, rfl, rfl, rfl, leaf_tt ?_⟩)
    | (refine ⟨trivial, rfl, rfl, rfl, leaf_ff ?_⟩)
    | (refine ⟨trivial, rfl, rfl, rfl, leaf_b ?_⟩)
    | fail
  all_goals (first | (simp_all [formedB, gapOk]; done) | (simp_all [formedB, gapOk]; intros; omega))

set_option maxRecDepth 100000 in
theorem w_refFormed (o : OpT) (ho : o.Lt 1000000) (hpl : ∀ p ∈ o.pieces, p.put.length ≤ 1000000000) : Pure Try.prog 47 [opV o] (fun x => x = .bool (formedB o)) := by
  have hm := w_refMay o.path ho.path
  have hm2 := w_refMay o.to ho.to
  have hk := w_refKey o.key
  have hr := w_refRight o.pieces ho.pieces hpl
  refine pure_wk (pure_fn 300 Try.func47 rfl rfl rfl fun B => ?_)
  clear ho hpl
  repeat' first
    | (refine ⟨fun _ => go 300 ?_, fun _ => go 300 ?_⟩)
    | (show CallThen _ _ _ _ _ _; refine call_pure hm rfl ?_; rintro x rfl)
    | (show CallThen _ _ _ _ _ _; refine call_pure hm2 rfl ?_; rintro x rfl)
    | (show CallThen _ _ _ _ _ _; refine call_pure hk rfl ?_; rintro x rfl)
    | (show CallThen _ _ _ _ _ _; refine call_pure hr rfl ?_; rintro x rfl)
    | (refine ⟨trivial, rfl, rfl, rfl, leaf_tt ?_⟩)
    | (refine ⟨trivial, rfl, rfl, rfl, leaf_ff ?_⟩)
    | (refine ⟨trivial, rfl, rfl, rfl, leaf_b ?_⟩)
    | fail
  all_goals (first | (simp_all [formedB, gapOk]; done) | (simp_all [formedB, gapOk]; intros; omega))

set_option maxRecDepth 100000 in
/-- Light: within the bound, the lengths and what is put. -/
theorem w_Light (o : OpT) (top : Nat) (ht : top ≤ 1000000) : Pure Try.prog 11 [opV o, .int .i64 top] (fun x => ∃ b : Bool, x = .bool b ∧ (b = true → o.Lt top ∧ putsLen o.pieces ≤ top)) := by
  have bad : ∃ y, Wk .ff y ∧ y.pureB = true ∧ ∃ b : Bool, y = .bool b ∧ (b = true → o.Lt top ∧ putsLen o.pieces ≤ top) := ⟨_, Wk.ff, rfl, false, rfl, fun h => by cases h⟩
  refine pure_wk (pure_fn 300 Try.func11 rfl rfl rfl fun B => ?_)
  refine ⟨fun g1 => go 300 ?_, fun g1 => go 300 ?_⟩
  · exact ⟨trivial, rfl, rfl, rfl, bad⟩
  refine ⟨fun g2 => go 300 ?_, fun g2 => go 300 ?_⟩
  · exact ⟨trivial, rfl, rfl, rfl, bad⟩
  refine ⟨fun g3 => go 300 ?_, fun g3 => go 300 ?_⟩
  · exact ⟨trivial, rfl, rfl, rfl, bad⟩
  refine ⟨fun g4 => go 300 ?_, fun g4 => go 300 ?_⟩
  · exact ⟨trivial, rfl, rfl, rfl, bad⟩
  refine ⟨fun g5 => go 300 ?_, fun g5 => go 300 ?_⟩
  · exact ⟨trivial, rfl, rfl, rfl, bad⟩
  refine ⟨fun g6 => go 300 ?_, fun g6 => go 300 ?_⟩
  · exact ⟨trivial, rfl, rfl, rfl, bad⟩
  have g1 := not_lt_of g1
  have g2 := not_lt_of g2
  have g3 := not_lt_of g3
  have g4 := not_lt_of g4
  have g5 := not_lt_of g5
  have g6 := not_lt_of g6
  simp only [List.length_map] at g1 g2 g6
  have hlt : o.Lt top := ⟨by omega, by omega, by omega, by omega, by omega, by omega⟩
  show Goes _ _ _ _
  refine goes_iter (ι := Nat × Nat) (fun i => i.1 ≤ o.pieces.length ∧ i.2 ≤ top ∧ putsLen o.pieces = i.2 + putsLen (o.pieces.drop i.1)) (fun i => o.pieces.length - i.1) (fun i => [(6, .int .i64 i.1), (5, .int .i64 i.2), (1, .int .i64 top), (2, .ptr (.loc 0) 0)]) (fun _ => [some (.box (opV o).cells)]) (0, 0) 200 (fun _ => rfl) (fun _ => rfl) ⟨⟨Nat.zero_le _, Nat.zero_le _, by simp⟩, ?_, ?_⟩ ?_
  · exact ⟨⟨rfl, rfl⟩, ⟨rfl, rfl⟩, ⟨rfl, rfl⟩, ⟨rfl, rfl⟩, trivial⟩
  · exact ⟨⟨rfl, rfl⟩, trivial⟩
  · rintro ⟨i, n⟩ ⟨h1, h3, h2⟩ next
    simp only at h1 h2 h3
    refine ⟨fun hlt => go 200 ?_, fun hge => go 200 ?_⟩
    · have hi : i < o.pieces.length := by simpa using hlt
      have hx : (o.pieces.map pieceV)[i]? = some (pieceV o.pieces[i]) := by simp [hi]
      rw [drop_cons hi] at h2
      have h2 : putsLen o.pieces = n + ((o.pieces[i]).put.length + putsLen (o.pieces.drop (i + 1))) := h2
      refine ⟨Int.natCast_nonneg i, _, hx, ?_⟩
      refine ⟨by constructor <;> omega, ?_⟩
      refine ⟨fun g7 => go 200 ?_, fun g7 => go 200 ?_⟩
      · exact ⟨trivial, rfl, rfl, rfl, bad⟩
      have g7 := not_lt_of g7
      refine ⟨Int.natCast_nonneg i, _, hx, ?_⟩
      refine ⟨by constructor <;> omega, ?_⟩
      refine ⟨by constructor <;> omega, ?_⟩
      show Goes _ _ _ _
      refine next (i + 1, n + (o.pieces[i]).put.length) _ _ ⟨⟨hi, by simp only; omega, by simp only; omega⟩, ?_, ⟨⟨rfl, rfl⟩, ⟨rfl, rfl⟩, ⟨rfl, rfl⟩, ⟨rfl, rfl⟩, trivial⟩, ⟨⟨rfl, rfl⟩, trivial⟩⟩
      simp only; omega
    · have hi : o.pieces.length ≤ i := by simpa using hge
      rw [List.drop_eq_nil_of_le hi] at h2
      have h2 : putsLen o.pieces = n + 0 := h2
      exact ⟨trivial, rfl, rfl, rfl, _, Wk.tt, rfl, true, rfl, fun _ => ⟨hlt, by omega⟩⟩

/-- A list, light. -/
structure LightL (l : List OpT) (count top : Nat) : Prop where
  len : l.length ≤ count
  ops : ∀ o ∈ l, o.Lt top ∧ putsLen o.pieces ≤ top
def opsV (l : List OpT) : V := .sl 11 (l.map opV)
set_option maxRecDepth 100000 in
theorem w_LightList (l : List OpT) (count top : Nat) (hc : count ≤ 1000000) (ht : top ≤ 1000000) : Pure Try.prog 30 [opsV l, .int .i64 count, .int .i64 top] (fun x => ∃ b : Bool, x = .bool b ∧ (b = true → LightL l count top)) := by
  have bad : ∃ y, Wk .ff y ∧ y.pureB = true ∧ ∃ b : Bool, y = .bool b ∧ (b = true → LightL l count top) := ⟨_, Wk.ff, rfl, false, rfl, fun h => by cases h⟩
  refine pure_wk (pure_fn 300 Try.func30 rfl rfl rfl fun B => ?_)
  refine ⟨fun g1 => go 300 ?_, fun g1 => go 300 ?_⟩
  · exact ⟨trivial, rfl, rfl, rfl, bad⟩
  have g1 := not_lt_of g1
  simp only [List.length_map] at g1
  show Goes _ _ _ _
  refine goes_iter (ι := Nat) (fun i => i ≤ l.length ∧ ∀ o ∈ l.take i, o.Lt top ∧ putsLen o.pieces ≤ top) (fun i => l.length - i) (fun i => [(7, .int .i64 i), (2, .int .i64 top), (0, opsV l)]) (fun _ => []) 0 200 (fun _ => rfl) (fun _ => rfl) ⟨⟨Nat.zero_le _, by simp⟩, ?_, ?_⟩ ?_
  · exact ⟨⟨rfl, rfl⟩, ⟨rfl, rfl⟩, ⟨rfl, rfl⟩, trivial⟩
  · trivial
  · rintro i ⟨h1, h2⟩ next
    refine ⟨fun hlt => go 200 ?_, fun hge => go 200 ?_⟩
    · have hi : i < l.length := by simpa using hlt
      have hx : (l.map opV)[i]? = some (opV l[i]) := by simp [hi]
      refine ⟨Int.natCast_nonneg i, _, hx, ?_⟩
      show CallThen _ _ _ _ _ _
      refine call_pure (w_Light l[i] top ht) rfl ?_
      rintro x ⟨b, rfl, hb⟩
      refine ⟨fun g => go 200 ?_, fun g => go 200 ?_⟩
      · exact ⟨trivial, rfl, rfl, rfl, bad⟩
      have g : b = true := by simpa using g
      refine ⟨by constructor <;> omega, ?_⟩
      show Goes _ _ _ _
      refine next (i + 1) _ _ ⟨⟨hi, fun o ho => ?_⟩, by omega, ⟨⟨rfl, rfl⟩, ⟨rfl, rfl⟩, ⟨rfl, rfl⟩, trivial⟩, trivial⟩
      rw [List.take_add_one, List.getElem?_eq_getElem hi] at ho
      rcases List.mem_append.1 ho with ho | ho
      · exact h2 o ho
      · simp at ho
        subst ho
        exact hb g
    · have hi : l.length ≤ i := by simpa using hge
      rw [List.take_of_length_le hi] at h2
      exact ⟨trivial, rfl, rfl, rfl, _, Wk.tt, rfl, true, rfl, fun _ => ⟨by omega, h2⟩⟩
end Bow
/- W9: Bare; puts; Fits. -/
namespace Bow
open Go Go.Proofs

theorem w_someInt (p : List Int) (h : p.length ≤ 1000000) : Pure Try.prog 73 [pathV p] (fun x => x = pathV p) := by
  refine pure_fn 100 Try.func73 rfl rfl rfl fun B => ?_
  refine ⟨Nat.le_trans (Nat.mul_le_mul_right _ (show (p.map intV).length ≤ 1000000 by simpa using h)) (by decide), ?_⟩
  exact ⟨trivial, rfl, rfl, rfl, rfl, rfl, rfl⟩
theorem w_somePiece (p : List PieceT) (h : p.length ≤ 1000000) : Pure Try.prog 74 [piecesV p] (fun x => x = piecesV p) := by
  refine pure_fn 100 Try.func74 rfl rfl rfl fun B => ?_
  refine ⟨Nat.le_trans (Nat.mul_le_mul_right _ (show (p.map pieceV).length ≤ 1000000 by simpa using h)) (by decide), ?_⟩
  exact ⟨trivial, rfl, rfl, rfl, rfl, rfl, rfl⟩

/-- An operation as a literal lays it. -/
theorem wk_op {o : OpT} {cs : List V} (h : WkL cs (opV o).cells) : Wk (.agg cs) (opV o) := Wk.agg h

set_option maxRecDepth 100000 in
theorem w_Bare (o : OpT) (ho : o.Lt 1000000) : Pure Try.prog 44 [opV o] (fun x => x = opV (bareO o)) := by
  refine pure_wk (pure_fn 300 Try.func44 rfl rfl rfl fun B => ?_)
  show Goes _ _ _ _
  refine goes_draw 300 ?_
  refine ⟨_, w_someInt o.path ho.path, rfl, ?_⟩
  refine ⟨by kernel_rfl, ?_⟩
  refine ⟨by kernel_rfl, ?_⟩
  have hp := ho.path
  have ht := ho.to
  have hpc := ho.pieces
  refine ⟨fun g1 => go 300 ?_, fun g1 => go 300 ?_⟩
  · have g1 := eq_of g1
    show Goes _ _ _ _
    refine goes_draw 300 ?_
    refine ⟨by kernel_rfl, ?_⟩
    refine ⟨trivial, rfl, rfl, rfl, _, ?_, ?_, rfl⟩
    · simp only [bareO, g1]
      refine wk_op ⟨.refl _, .refl _, .refl _, Wk.nil 1, .refl _, .refl _, .refl _, .refl _, .refl _, Wk.ff, Wk.nil 3, trivial⟩
    · rfl
  refine ⟨fun g2 => go 300 ?_, fun g2 => go 300 ?_⟩
  · have g2 := eq_of g2
    refine ⟨trivial, rfl, rfl, rfl, _, ?_, ?_, rfl⟩
    · simp only [bareO, g2]
      refine wk_op ⟨.refl _, .refl _, .refl _, Wk.nil 1, .refl _, Wk.ff, .refl _, .refl _, .refl _, Wk.ff, Wk.nil 3, trivial⟩
    · rfl
  refine ⟨fun g3 => go 300 ?_, fun g3 => go 300 ?_⟩
  · have g3 := eq_of g3
    show Goes _ _ _ _
    refine goes_draw 300 ?_
    refine ⟨_, w_someInt o.to ho.to, rfl, ?_⟩
    refine ⟨by kernel_rfl, ?_⟩
    refine ⟨trivial, rfl, rfl, rfl, _, ?_, ?_, rfl⟩
    · simp only [bareO, g3]
      refine wk_op ⟨.refl _, .refl _, .refl _, .refl _, .refl _, Wk.ff, .refl _, .refl _, .refl _, Wk.ff, Wk.nil 3, trivial⟩
    · rfl
  refine ⟨fun g4 => go 300 ?_, fun g4 => go 300 ?_⟩
  · have g4 := eq_of g4
    show Goes _ _ _ _
    refine goes_draw 300 ?_
    refine ⟨by kernel_rfl, ?_⟩
    refine ⟨fun h => go 300 ?_, fun h => go 300 ?_⟩
    · have h : o.gone = false := by simpa using h
      refine ⟨trivial, rfl, rfl, rfl, _, ?_, ?_, rfl⟩
      · simp only [bareO, g4, h]
        refine wk_op ⟨.refl _, .refl _, .refl _, Wk.nil 1, .refl _, Wk.ff, .refl _, .refl _, .refl _, .refl _, Wk.nil 3, trivial⟩
      · rfl
    · have h : o.gone = true := by simpa using h
      refine ⟨trivial, rfl, rfl, rfl, _, ?_, ?_, rfl⟩
      · simp only [bareO, g4, h]
        refine wk_op ⟨.refl _, .refl _, .refl _, Wk.nil 1, .refl _, Wk.ff, .refl _, .refl _, .refl _, .refl _, Wk.nil 3, trivial⟩
      · rfl
  refine ⟨fun g5 => go 300 ?_, fun g5 => go 300 ?_⟩
  · have g5 := eq_of g5
    refine ⟨trivial, rfl, rfl, rfl, _, ?_, ?_, rfl⟩
    · simp only [bareO, g5]
      refine wk_op ⟨.refl _, .refl _, .refl _, Wk.nil 1, .refl _, Wk.ff, .refl _, .refl _, .refl _, Wk.ff, Wk.nil 3, trivial⟩
    · rfl
  refine ⟨fun g6 => go 300 ?_, fun g6 => go 300 ?_⟩
  · have g6 := eq_of g6
    show CallThen _ _ _ _ _ _
    refine call_pure (w_somePiece o.pieces ho.pieces) rfl ?_
    rintro x rfl
    refine ⟨trivial, rfl, rfl, rfl, _, ?_, ?_, rfl⟩
    · simp only [bareO, g6]
      refine wk_op ⟨.refl _, .refl _, .refl _, Wk.nil 1, .refl _, Wk.ff, .refl _, .refl _, .refl _, Wk.ff, .refl _, trivial⟩
    · rfl
  · have g1 := ne_of g1
    have g2 := ne_of g2
    have g3 := ne_of g3
    have g4 := ne_of g4
    have g5 := ne_of g5
    have g6 := ne_of g6
    refine ⟨trivial, rfl, rfl, rfl, _, ?_, ?_, rfl⟩
    · have e : bareO o = noOp o.kind := by
        unfold bareO
        rw [show (o.kind == 1) = false by simpa using g1, show (o.kind == 2) = false by simpa using g2, show (o.kind == 3) = false by simpa using g3, show (o.kind == 4) = false by simpa using g4, show (o.kind == 5) = false by simpa using g5, show (o.kind == 6) = false by simpa using g6]
        rfl
      rw [e]
      refine wk_op ⟨.refl _, Wk.nil 1, .refl _, Wk.nil 1, .refl _, Wk.ff, .refl _, .refl _, .refl _, Wk.ff, Wk.nil 3, trivial⟩
    · rfl
end Bow
/- W10: the reference's Bare; puts; Fits. -/
namespace Bow
open Go Go.Proofs

theorem room_of {n b : Nat} (h : n ≤ 1000000) (hb : b ≤ 70368744) : room n b := Nat.le_trans (Nat.mul_le_mul h hb) (by decide)

set_option maxRecDepth 100000 in
theorem w_refBare (o : OpT) (ho : o.Lt 1000000) : Pure Try.prog 17 [opV o] (fun x => x = opV (bareO o)) := by
  refine pure_wk (pure_fn 300 Try.func17 rfl rfl rfl fun B => ?_)
  have hp := ho.path
  have ht := ho.to
  have hpc := ho.pieces
  refine ⟨room_of (by simpa using ho.path) (by decide), ?_⟩
  refine ⟨room_of (by simpa using ho.to) (by decide), ?_⟩
  refine ⟨fun g1 => go 300 ?_, fun g1 => go 300 ?_⟩
  · have g1 := eq_of g1
    refine ⟨trivial, rfl, rfl, rfl, rfl, rfl, _, ?_, ?_, rfl⟩
    · simp only [bareO, g1]
      refine wk_op ⟨.refl _, .refl _, .refl _, Wk.nil 1, .refl _, .refl _, .refl _, .refl _, .refl _, Wk.ff, Wk.nil 3, trivial⟩
    · rfl
  refine ⟨fun g2 => go 300 ?_, fun g2 => go 300 ?_⟩
  · have g2 := eq_of g2
    refine ⟨trivial, rfl, rfl, rfl, rfl, rfl, _, ?_, ?_, rfl⟩
    · simp only [bareO, g2]
      refine wk_op ⟨.refl _, .refl _, .refl _, Wk.nil 1, .refl _, Wk.ff, .refl _, .refl _, .refl _, Wk.ff, Wk.nil 3, trivial⟩
    · rfl
  refine ⟨fun g3 => go 300 ?_, fun g3 => go 300 ?_⟩
  · have g3 := eq_of g3
    refine ⟨trivial, rfl, rfl, rfl, rfl, rfl, rfl, rfl, _, ?_, ?_, rfl⟩
    · simp only [bareO, g3]
      refine wk_op ⟨.refl _, .refl _, .refl _, .refl _, .refl _, Wk.ff, .refl _, .refl _, .refl _, Wk.ff, Wk.nil 3, trivial⟩
    · rfl
  refine ⟨fun g4 => go 300 ?_, fun g4 => go 300 ?_⟩
  · have g4 := eq_of g4
    refine ⟨fun h => go 300 ?_, fun h => go 300 ?_⟩
    · have h : o.gone = false := by simpa using h
      refine ⟨trivial, rfl, rfl, rfl, rfl, rfl, _, ?_, ?_, rfl⟩
      · simp only [bareO, g4, h]
        refine wk_op ⟨.refl _, .refl _, .refl _, Wk.nil 1, .refl _, Wk.ff, .refl _, .refl _, .refl _, .refl _, Wk.nil 3, trivial⟩
      · rfl
    · have h : o.gone = true := by simpa using h
      refine ⟨trivial, rfl, rfl, rfl, rfl, rfl, _, ?_, ?_, rfl⟩
      · simp only [bareO, g4, h]
        refine wk_op ⟨.refl _, .refl _, .refl _, Wk.nil 1, .refl _, Wk.ff, .refl _, .refl _, .refl _, .refl _, Wk.nil 3, trivial⟩
      · rfl
  refine ⟨fun g5 => go 300 ?_, fun g5 => go 300 ?_⟩
  · have g5 := eq_of g5
    refine ⟨trivial, rfl, rfl, rfl, rfl, rfl, _, ?_, ?_, rfl⟩
    · simp only [bareO, g5]
      refine wk_op ⟨.refl _, .refl _, .refl _, Wk.nil 1, .refl _, Wk.ff, .refl _, .refl _, .refl _, Wk.ff, Wk.nil 3, trivial⟩
    · rfl
  refine ⟨fun g6 => go 300 ?_, fun g6 => go 300 ?_⟩
  · have g6 := eq_of g6
    refine ⟨room_of (by simpa using ho.pieces) (by decide), ?_⟩
    refine ⟨trivial, rfl, rfl, rfl, rfl, rfl, rfl, rfl, _, ?_, ?_, rfl⟩
    · simp only [bareO, g6]
      refine wk_op ⟨.refl _, .refl _, .refl _, Wk.nil 1, .refl _, Wk.ff, .refl _, .refl _, .refl _, Wk.ff, .refl _, trivial⟩
    · rfl
  · have g1 := ne_of g1
    have g2 := ne_of g2
    have g3 := ne_of g3
    have g4 := ne_of g4
    have g5 := ne_of g5
    have g6 := ne_of g6
    refine ⟨trivial, rfl, rfl, rfl, _, ?_, ?_, rfl⟩
    · have e : bareO o = noOp o.kind := by
        unfold bareO
        rw [show (o.kind == 1) = false by simpa using g1, show (o.kind == 2) = false by simpa using g2, show (o.kind == 3) = false by simpa using g3, show (o.kind == 4) = false by simpa using g4, show (o.kind == 5) = false by simpa using g5, show (o.kind == 6) = false by simpa using g6]
        rfl
      rw [e]
      refine wk_op ⟨.refl _, Wk.nil 1, .refl _, Wk.nil 1, .refl _, Wk.ff, .refl _, .refl _, .refl _, Wk.ff, Wk.nil 3, trivial⟩
    · rfl

/-! ### What is put -/
def putsO (o : OpT) : Nat := o.label.length + o.key.length + o.value.length + putsLen o.pieces
theorem putsLen_cons (p : PieceT) (l : List PieceT) : putsLen (p :: l) = p.put.length + putsLen l := rfl
theorem bare_lt {o : OpT} {n : Nat} (h : o.Lt n) : (bareO o).Lt n := by
  unfold bareO noOp
  rcases Bool.eq_false_or_eq_true (o.kind == 1) with e | e <;> rw [e] <;> simp only [cond_true, cond_false]
  · exact ⟨h.path, Nat.zero_le _, h.label, Nat.zero_le _, Nat.zero_le _, Nat.zero_le _⟩
  rcases Bool.eq_false_or_eq_true (o.kind == 2) with e | e <;> rw [e] <;> simp only [cond_true, cond_false]
  · exact ⟨h.path, Nat.zero_le _, Nat.zero_le _, Nat.zero_le _, Nat.zero_le _, Nat.zero_le _⟩
  rcases Bool.eq_false_or_eq_true (o.kind == 3) with e | e <;> rw [e] <;> simp only [cond_true, cond_false]
  · exact ⟨h.path, h.to, Nat.zero_le _, Nat.zero_le _, Nat.zero_le _, Nat.zero_le _⟩
  rcases Bool.eq_false_or_eq_true (o.kind == 4) with e | e <;> rw [e] <;> simp only [cond_true, cond_false]
  · refine ⟨h.path, Nat.zero_le _, Nat.zero_le _, h.key, ?_, Nat.zero_le _⟩
    cases o.gone <;> simp [h.value]
  rcases Bool.eq_false_or_eq_true (o.kind == 5) with e | e <;> rw [e] <;> simp only [cond_true, cond_false]
  · exact ⟨h.path, Nat.zero_le _, h.label, Nat.zero_le _, Nat.zero_le _, Nat.zero_le _⟩
  rcases Bool.eq_false_or_eq_true (o.kind == 6) with e | e <;> rw [e] <;> simp only [cond_true, cond_false]
  · exact ⟨h.path, Nat.zero_le _, Nat.zero_le _, Nat.zero_le _, Nat.zero_le _, h.pieces⟩
  · exact ⟨Nat.zero_le _, Nat.zero_le _, Nat.zero_le _, Nat.zero_le _, Nat.zero_le _, Nat.zero_le _⟩
theorem bare_puts {o : OpT} : putsLen (bareO o).pieces ≤ putsLen o.pieces := by
  unfold bareO noOp
  rcases Bool.eq_false_or_eq_true (o.kind == 1) with e | e <;> rw [e] <;> simp only [cond_true, cond_false]
  · exact Nat.zero_le _
  rcases Bool.eq_false_or_eq_true (o.kind == 2) with e | e <;> rw [e] <;> simp only [cond_true, cond_false]
  · exact Nat.zero_le _
  rcases Bool.eq_false_or_eq_true (o.kind == 3) with e | e <;> rw [e] <;> simp only [cond_true, cond_false]
  · exact Nat.zero_le _
  rcases Bool.eq_false_or_eq_true (o.kind == 4) with e | e <;> rw [e] <;> simp only [cond_true, cond_false]
  · exact Nat.zero_le _
  rcases Bool.eq_false_or_eq_true (o.kind == 5) with e | e <;> rw [e] <;> simp only [cond_true, cond_false]
  · exact Nat.zero_le _
  rcases Bool.eq_false_or_eq_true (o.kind == 6) with e | e <;> rw [e] <;> simp only [cond_true, cond_false]
  · exact Nat.le_refl _
  · exact Nat.zero_le _

/-- Up to 65537. -/
def capN (n : Nat) : Nat := min n 65537
def capPuts : Nat → List PieceT → Nat
  | n, [] => n
  | n, p :: l => capPuts (capN n + capN p.put.length) l
theorem capPuts_eq : ∀ (l : List PieceT) (n : Nat), capN (capPuts n l) = capN (n + putsLen l)
  | [], n => rfl
  | p :: l, n => by
    rw [capPuts, capPuts_eq l, putsLen_cons]
    unfold capN
    omega
theorem capPuts_le : ∀ (l : List PieceT) (n : Nat), n ≤ 4100000 → capPuts n l ≤ 4100000
  | [], n, h => h
  | p :: l, n, h => capPuts_le l _ (by unfold capN; omega)

end Bow
/- W11: Fits; the chapter's examples; the laws' functions. -/
namespace Bow
open Go Go.Proofs

def badO (o : OpT) : Bool := !formedB o || (decide (o.kind = 6) && decide ((64 : Int) < o.pieces.length))
def sumPuts (l : List OpT) : Nat := l.foldr (fun o n => putsO (bareO o) + n) 0
def fitsE (l : List OpT) : Int := bif decide (64 < l.length) then 3 else bif l.any badO then 80 else bif decide (65536 < sumPuts l) then 3 else 0
structure OpT.Ok (o : OpT) : Prop where
  lt : o.Lt 1000000
  puts : putsLen o.pieces ≤ 1048576
theorem put_le {l : List PieceT} : ∀ p ∈ l, p.put.length ≤ putsLen l := by
  induction l with
  | nil => intro p h; cases h
  | cons q l ih =>
    intro p h
    rw [putsLen_cons]
    rcases List.mem_cons.1 h with rfl | h
    · omega
    · have := ih p h; omega
theorem OpT.Ok.each {o : OpT} (h : o.Ok) : ∀ p ∈ o.pieces, p.put.length ≤ 1000000000 := fun p hp => by have := put_le p hp; have := h.puts; omega
theorem bare_ok {o : OpT} (h : o.Ok) : (bareO o).Ok := ⟨bare_lt h.lt, Nat.le_trans bare_puts h.puts⟩
theorem putsO_le {o : OpT} (h : o.Ok) : putsO o ≤ 4100000 := by
  have := h.lt.label
  have := h.lt.key
  have := h.lt.value
  have := h.puts
  unfold putsO
  omega
theorem sumPuts_cons (o : OpT) (l : List OpT) : sumPuts (o :: l) = putsO (bareO o) + sumPuts l := rfl

theorem capN_sum (n a b : Nat) : capN (capN n + capN a + b) = capN (n + (a + b)) := by unfold capN; omega

end Bow
/- W12: the chapter's examples; the laws' functions. -/
namespace Bow
open Go Go.Proofs

theorem sizes_replicate (t : Tree) : ∀ n, sizes (List.replicate n t) = n * t.size
  | 0 => by simp [sizes]
  | n + 1 => by rw [List.replicate_succ, sizes, sizes_replicate t n, Nat.add_mul]; omega
theorem weights_replicate (t : Tree) : ∀ n, weights (List.replicate n t) = n * t.weight
  | 0 => by simp [weights]
  | n + 1 => by rw [List.replicate_succ, weights, weights_replicate t n, Nat.add_mul]; omega
theorem depths_replicate (t : Tree) : ∀ n, depths (List.replicate n t) ≤ 1 + t.depth
  | 0 => by simp [depths]
  | n + 1 => by rw [List.replicate_succ, depths]; have := depths_replicate t n; omega
theorem longs_replicate (t : Tree) : ∀ n, longs (List.replicate n t) ≤ t.long
  | 0 => by simp [longs]
  | n + 1 => by rw [List.replicate_succ, longs]; have := longs_replicate t n; omega
theorem flat_size (n : Nat) : (flatT n).size = n + 1 := by
  rw [flatT, zeroT, Tree.size, sizes_replicate, zeroT, Tree.size, sizes]
  omega
theorem flat_weight (n : Nat) : (flatT n).weight = n + 1 := by
  rw [flatT, zeroT, Tree.weight, weights_replicate, zeroT, Tree.weight, weights]
  simp [attrLen]
  omega
theorem flat_depth (n : Nat) : (flatT n).depth ≤ 1 := by
  have := depths_replicate (zeroT []) n
  rw [flatT, zeroT, Tree.depth]
  have e : (zeroT []).depth = 0 := by rw [zeroT, Tree.depth, depths]
  rw [e] at this
  exact this
theorem flat_long (n : Nat) : (flatT n).long = 0 := by
  have := longs_replicate (zeroT []) n
  have e : (zeroT []).long = 0 := by rw [zeroT, Tree.long, longs]; rfl
  rw [e] at this
  have h0 : longs (List.replicate n (zeroT [])) = 0 := by omega
  rw [flatT, zeroT, Tree.long, h0]
  rfl
theorem chain_facts : ∀ n, (chainT n).size = n + 1 ∧ (chainT n).weight = n + 1 ∧ (chainT n).depth = n ∧ (chainT n).long = 0
  | 0 => by
    simp only [chainT, zeroT]
    rw [Tree.size, Tree.weight, Tree.depth, Tree.long, sizes, weights, depths, longs]
    exact ⟨rfl, rfl, rfl, rfl⟩
  | n + 1 => by
    obtain ⟨h1, h2, h3, h4⟩ := chain_facts n
    simp only [chainT, zeroT]
    rw [Tree.size, Tree.weight, Tree.depth, Tree.long, sizes, weights, depths, longs, sizes, weights, depths, longs, h1, h2, h3, h4]
    refine ⟨by omega, by simp [attrLen]; omega, by omega, rfl⟩
theorem long_facts (n : Nat) (l : List (List UInt8 × List UInt8)) : (longT n l).size = 2 ∧ (longT n l).weight = n + 2 + (l.length + attrLen l) ∧ (longT n l).depth = 1 ∧ (longT n l).long = n + attrLen l := by
  simp only [longT, zeroT]
  rw [Tree.size, Tree.weight, Tree.depth, Tree.long, sizes, weights, depths, longs, sizes, weights, depths, longs, Tree.size, Tree.weight, Tree.depth, Tree.long, sizes, weights, depths, longs]
  refine ⟨rfl, ?_, rfl, ?_⟩
  · simp [attrLen]; omega
  · simp [Tree.len, Tree.text, Tree.attrs, attrLen]

theorem check_flat (n : Nat) : checkE (flatT n) = if 512 < n + 1 then 160 else 0 := by
  have := flat_depth n
  have := flat_long n
  unfold checkE
  rw [flat_size]
  split
  · rfl
  · rw [if_neg (by omega), if_neg (by omega)]
theorem check_chain (n : Nat) (h : n + 1 ≤ 512) : checkE (chainT n) = if 12 < n then 161 else 0 := by
  obtain ⟨h1, h2, h3, h4⟩ := chain_facts n
  unfold checkE
  rw [h1, h3, h4, if_neg (by omega)]
  split
  · rfl
  · rfl
theorem check_long (n : Nat) (l : List (List UInt8 × List UInt8)) : checkE (longT n l) = if 2048 < n + attrLen l then 162 else 0 := by
  obtain ⟨h1, h2, h3, h4⟩ := long_facts n l
  unfold checkE
  rw [h1, h3, h4, if_neg (by omega), if_neg (by omega)]

def insOp : OpT := noOp 1
theorem wk_insOp : Wk (.sl 11 [.agg [.int .u8 1, .nilsl, .int .i64 0, .nilsl, .int .u64 0, .ff, .str [], .str [], .str [], .ff, .nilsl]]) (opsV [insOp]) :=
  Wk.sl ⟨⟨⟨.refl _, Wk.nil 1, .refl _, Wk.nil 1, .refl _, Wk.ff, .refl _, .refl _, .refl _, Wk.ff, Wk.nil 3, trivial⟩, ⟨rfl, rfl⟩⟩, trivial⟩
theorem insOp_ok : insOp.Ok := ⟨⟨Nat.zero_le _, Nat.zero_le _, Nat.zero_le _, Nat.zero_le _, Nat.zero_le _, Nat.zero_le _⟩, Nat.zero_le _⟩

end Bow
/- W13: the laws' functions: LimitsCheck, LimitsFits. -/
namespace Bow
open Go Go.Proofs

end Bow
/- W14: slices.Grow of nil, slices.Concat: printed by gen_w14.py. -/
namespace Bow
open Go Go.Proofs

theorem flatten_len_mem {α : Type} {l : List (List α)} {x : List α} (h : x ∈ l) : x.length ≤ l.flatten.length := by
  induction l with
  | nil => cases h
  | cons y l ih =>
    rw [List.flatten_cons, List.length_append]
    rcases List.mem_cons.1 h with rfl | h
    · omega
    · have := ih h; omega
theorem flatten_take_succ {α : Type} {l : List (List α)} {i : Nat} (hi : i < l.length) : (l.take (i + 1)).flatten = (l.take i).flatten ++ l[i] := by
  rw [List.take_succ_eq_append_getElem hi, List.flatten_append]
  simp
theorem flatten_take_le {α : Type} (l : List (List α)) (i : Nat) : (l.take i).flatten.length ≤ l.flatten.length := by
  conv => rhs; rw [← List.take_append_drop i l]
  rw [List.flatten_append, List.length_append]
  omega

end Bow
/- W15: slices.Equal, slices.Clone, paths: printed by gen_w15.py. -/
namespace Bow
open Go Go.Proofs

theorem take_succ_eq {α : Type} {xs ys : List α} {i : Nat} (hx : i < xs.length) (hy : i < ys.length) : xs.drop i = ys.drop i ↔ xs[i] = ys[i] ∧ xs.drop (i + 1) = ys.drop (i + 1) := by
  rw [List.drop_eq_getElem_cons hx, List.drop_eq_getElem_cons hy, List.cons.injEq]

theorem PieceT.ext {a b : PieceT} (h1 : a.keep = b.keep) (h2 : a.drop = b.drop) (h3 : a.put = b.put) : a = b := by cases a; cases b; simp_all
instance : DecidableEq PieceT := fun a b => decidable_of_iff (a.keep = b.keep ∧ a.drop = b.drop ∧ a.put = b.put) ⟨fun h => PieceT.ext h.1 h.2.1 h.2.2, fun h => by subst h; exact ⟨rfl, rfl, rfl⟩⟩

set_option maxRecDepth 100000 in
theorem w_EqualInt (xs ys : List Int) (hl : xs.length ≤ 1000000) : Pure Try.prog 92 [.sl 1 (xs.map intV), .sl 1 (ys.map intV)] (fun x => x = .bool (decide (xs = ys))) := by
  refine pure_wk (pure_fn 100 Try.func92 rfl rfl rfl fun B => ?_)
  refine ⟨fun g1 => go 100 ?_, fun g1 => go 100 ?_⟩
  · have g1 := ne_of' g1
    refine ⟨trivial, rfl, rfl, rfl, leaf_ff (decide_eq_false fun e => g1 ?_)⟩
    rw [e]
  have g1 : xs.length = ys.length := by have := eq_of' g1; simp at this; omega
  show Goes _ _ _ _
  refine goes_iter (ι := Nat) (fun i => i ≤ xs.length ∧ (xs.drop i = ys.drop i ↔ xs = ys)) (fun i => xs.length - i) (fun i => [(13, .int .i64 i), (12, .int .i64 (xs.map intV).length), (1, .sl 1 (ys.map intV)), (0, .sl 1 (xs.map intV))]) (fun _ => []) 0 100 (fun _ => rfl) (fun _ => rfl) ⟨⟨Nat.zero_le _, Iff.rfl⟩, ?_, trivial⟩ ?_
  · exact ⟨⟨rfl, rfl⟩, ⟨rfl, rfl⟩, ⟨rfl, rfl⟩, ⟨rfl, rfl⟩, trivial⟩
  rintro i ⟨k1, k2⟩ next
  refine ⟨fun hlt => go 100 ?_, fun hge => go 100 ?_⟩
  · have hi : i < xs.length := by simpa using hlt
    have hi' : i < ys.length := by omega
    have hx : (xs.map intV)[i]? = some (intV xs[i]) := by simp [hi]
    have hy : (ys.map intV)[i]? = some (intV ys[i]) := by simp [hi']
    rw [take_succ_eq hi hi'] at k2
    show Goes _ _ _ _
    refine goes_draw 100 ?_
    refine ⟨Int.natCast_nonneg i, _, hx, Int.natCast_nonneg i, _, hy, ?_⟩
    refine ⟨by kernel_rfl, ?_⟩
    refine ⟨fun g2 => go 100 ?_, fun g2 => go 100 ?_⟩
    · refine ⟨trivial, rfl, rfl, rfl, leaf_ff (decide_eq_false fun e => ?_)⟩
      have := (k2.2 e).1
      rw [this] at g2
      simp at g2
    · refine ⟨by constructor <;> omega, ?_⟩
      have he : xs[i] = ys[i] := by
        exact eq_of' g2
      exact next (i + 1) _ _ ⟨⟨hi, by rw [← k2]; exact ⟨fun h => ⟨he, h⟩, fun h => h.2⟩⟩, by omega, ⟨⟨rfl, rfl⟩, ⟨rfl, rfl⟩, ⟨rfl, rfl⟩, ⟨rfl, rfl⟩, trivial⟩, trivial⟩
  · have hi : i = xs.length := by have : xs.length ≤ i := by simpa using hge
                                  omega
    subst hi
    refine ⟨trivial, rfl, rfl, rfl, leaf_tt (decide_eq_true (k2.1 ?_))⟩
    rw [List.drop_eq_nil_of_le (Nat.le_refl _), List.drop_eq_nil_of_le (by omega)]

set_option maxRecDepth 100000 in
theorem w_EqualPiece (xs ys : List PieceT) (hl : xs.length ≤ 1000000) : Pure Try.prog 62 [.sl 3 (xs.map pieceV), .sl 3 (ys.map pieceV)] (fun x => x = .bool (decide (xs = ys))) := by
  refine pure_wk (pure_fn 100 Try.func62 rfl rfl rfl fun B => ?_)
  refine ⟨fun g1 => go 100 ?_, fun g1 => go 100 ?_⟩
  · have g1 := ne_of' g1
    refine ⟨trivial, rfl, rfl, rfl, leaf_ff (decide_eq_false fun e => g1 ?_)⟩
    rw [e]
  have g1 : xs.length = ys.length := by have := eq_of' g1; simp at this; omega
  show Goes _ _ _ _
  refine goes_iter (ι := Nat) (fun i => i ≤ xs.length ∧ (xs.drop i = ys.drop i ↔ xs = ys)) (fun i => xs.length - i) (fun i => [(13, .int .i64 i), (12, .int .i64 (xs.map pieceV).length), (1, .sl 3 (ys.map pieceV)), (0, .sl 3 (xs.map pieceV))]) (fun _ => []) 0 100 (fun _ => rfl) (fun _ => rfl) ⟨⟨Nat.zero_le _, Iff.rfl⟩, ?_, trivial⟩ ?_
  · exact ⟨⟨rfl, rfl⟩, ⟨rfl, rfl⟩, ⟨rfl, rfl⟩, ⟨rfl, rfl⟩, trivial⟩
  rintro i ⟨k1, k2⟩ next
  refine ⟨fun hlt => go 100 ?_, fun hge => go 100 ?_⟩
  · have hi : i < xs.length := by simpa using hlt
    have hi' : i < ys.length := by omega
    have hx : (xs.map pieceV)[i]? = some (pieceV xs[i]) := by simp [hi]
    have hy : (ys.map pieceV)[i]? = some (pieceV ys[i]) := by simp [hi']
    rw [take_succ_eq hi hi'] at k2
    show Goes _ _ _ _
    refine goes_draw 100 ?_
    refine ⟨Int.natCast_nonneg i, _, hx, Int.natCast_nonneg i, _, hy, ?_⟩
    refine ⟨by kernel_rfl, ?_⟩
    refine ⟨by kernel_rfl, ?_⟩
    refine ⟨fun g2 => go 100 ?_, fun g2 => go 100 ?_⟩
    · refine ⟨trivial, rfl, rfl, rfl, leaf_ff (decide_eq_false fun e => ?_)⟩
      have := (k2.2 e).1
      rw [this] at g2
      simp at g2
    · refine ⟨by constructor <;> omega, ?_⟩
      have he : xs[i] = ys[i] := by
        simp at g2
        exact PieceT.ext g2.1 g2.2.1 g2.2.2
      exact next (i + 1) _ _ ⟨⟨hi, by rw [← k2]; exact ⟨fun h => ⟨he, h⟩, fun h => h.2⟩⟩, by omega, ⟨⟨rfl, rfl⟩, ⟨rfl, rfl⟩, ⟨rfl, rfl⟩, ⟨rfl, rfl⟩, trivial⟩, trivial⟩
  · have hi : i = xs.length := by have : xs.length ≤ i := by simpa using hge
                                  omega
    subst hi
    refine ⟨trivial, rfl, rfl, rfl, leaf_tt (decide_eq_true (k2.1 ?_))⟩
    rw [List.drop_eq_nil_of_le (Nat.le_refl _), List.drop_eq_nil_of_le (by omega)]

/-- What a clone leaves: nil, or own memory. -/
def CloneQ (sz : Nat) (xs : List V) (x : V) (T : Heap) : Prop := (xs = [] ∧ x = .nilsl ∧ T = []) ∨ (x = .osl (.loc 0) 2 0 xs.length ∧ T = [some (.vec 2 sz xs)])

theorem w_CloneInt (xs : List V) (hl : xs.length ≤ 1000000) : Fun Try.prog 94 [] [.sl 1 xs] (CloneQ 1 xs) := by
  refine fun_fn 100 Try.func94 rfl rfl rfl fun imps B hi => ?_
  have : imps = [] := List.length_eq_zero_iff.1 hi
  subst this
  show Goes _ _ _ _
  refine goes_nileq 100 rfl rfl rfl rfl rfl rfl fun b hb => ?_
  refine ⟨fun g => go 100 ?_, fun g => go 100 ?_⟩
  · exact ⟨trivial, rfl, rfl, .inl ⟨hb g, rfl, rfl⟩⟩
  · refine ⟨trivial, rfl, rfl, Nat.le_trans (Nat.mul_le_mul_right _ (show _ ≤ 1000000 by simpa using hl)) (by decide), ?_⟩
    refine ⟨trivial, rfl, rfl, .inr ⟨?_, rfl⟩⟩
    simp [resV, bump]

end Bow
/- W16: paths, further. -/
namespace Bow
open Go Go.Proofs

theorem common_at {p q : List Int} {i : Nat} (hp : i < p.length) (hq : i < q.length) : common (p.drop i) (q.drop i) = bif decide (p[i] = q[i]) then common (p.drop (i + 1)) (q.drop (i + 1)) + 1 else 0 := by
  rw [List.drop_eq_getElem_cons hp, List.drop_eq_getElem_cons hq, common]
theorem common_nil {p q : List Int} {i : Nat} (h : p.length ≤ i ∨ q.length ≤ i) : common (p.drop i) (q.drop i) = 0 := by
  rcases h with h | h
  · rw [List.drop_eq_nil_of_le h]; simp [common]
  · rw [List.drop_eq_nil_of_le h]; cases p.drop i <;> simp [common]

set_option maxRecDepth 100000 in
theorem w_refCommon (p q : List Int) (hp : p.length ≤ 1000000) : Pure Try.prog 86 [pathV p, pathV q] (fun x => x = .int .i64 (common p q)) := by
  refine pure_fn 100 Try.func86 rfl rfl rfl fun B => ?_
  show Goes _ _ _ _
  refine goes_iter (ι := Nat) (fun i => i ≤ p.length ∧ i + common (p.drop i) (q.drop i) = common p q) (fun i => p.length - i) (fun i => [(5, .int .i64 i), (1, pathV q), (0, pathV p)]) (fun _ => []) 0 100 (fun _ => rfl) (fun _ => rfl) ⟨⟨Nat.zero_le _, by simp⟩, ?_, trivial⟩ ?_
  · exact ⟨⟨rfl, rfl⟩, ⟨rfl, rfl⟩, ⟨rfl, rfl⟩, trivial⟩
  rintro i ⟨k1, k2⟩ next
  show Goes _ _ _ _
  have fin : common (p.drop i) (q.drop i) = 0 → V.int .i64 (i : Nat) = .int .i64 (common p q) := fun h => by rw [← k2, h]; rfl
  refine goes_draw 100 ⟨fun g1 => ⟨fun g2 => ?_, fun g2 => ?_⟩, fun g1 => ?_⟩
  · have hi : i < p.length := by simpa using g1
    have hi' : i < q.length := by simpa using g2
    have hx : (p.map intV)[i]? = some (intV p[i]) := by simp [hi]
    have hy : (q.map intV)[i]? = some (intV q[i]) := by simp [hi']
    rw [common_at hi hi'] at k2 fin
    refine ⟨Int.natCast_nonneg i, _, hx, Int.natCast_nonneg i, _, hy, ?_⟩
    refine ⟨by kernel_rfl, ?_⟩
    refine ⟨fun g3 => go 100 ?_, fun g3 => go 100 ?_⟩
    · rw [g3] at k2
      refine ⟨by constructor <;> omega, ?_⟩
      exact next (i + 1) _ _ ⟨⟨hi, by simp only [cond_true] at k2; omega⟩, by omega, ⟨⟨rfl, rfl⟩, ⟨rfl, rfl⟩, ⟨rfl, rfl⟩, trivial⟩, trivial⟩
    · rw [g3] at fin
      exact ⟨trivial, rfl, rfl, rfl, fin rfl⟩
  · have hi' : q.length ≤ i := by simpa using g2
    refine ⟨by kernel_rfl, ?_⟩
    exact ⟨trivial, rfl, rfl, rfl, fin (common_nil (.inr hi'))⟩
  · have hi : p.length ≤ i := by simpa using g1
    refine ⟨by kernel_rfl, ?_⟩
    exact ⟨trivial, rfl, rfl, rfl, fin (common_nil (.inl hi))⟩

theorem w_refWithin (p q : List Int) (hp : p.length ≤ 1000000) : Pure Try.prog 75 [pathV p, pathV q] (fun x => x = .bool (within p q)) := by
  refine pure_wk (pure_fn 100 Try.func75 rfl rfl rfl fun B => ?_)
  show CallThen _ _ _ _ _ _
  refine call_pure (w_refCommon p q hp) rfl ?_
  rintro x rfl
  refine ⟨trivial, rfl, rfl, rfl, leaf_b ?_⟩
  rw [← common_within]
  simp
  omega

theorem w_refSame (p q : List Int) (hp : p.length ≤ 1000000) : Pure Try.prog 48 [pathV p, pathV q] (fun x => x = .bool (decide (p = q))) := by
  refine pure_wk (pure_fn 100 Try.func48 rfl rfl rfl fun B => ?_)
  refine ⟨fun g1 => go 100 ?_, fun g1 => go 100 ?_⟩
  · have g1 : p.length = q.length := by have := eq_of g1; simp at this; omega
    show CallThen _ _ _ _ _ _
    refine call_pure (w_refCommon p q hp) rfl ?_
    rintro x rfl
    refine ⟨trivial, rfl, rfl, rfl, leaf_b ?_⟩
    rw [← common_same p q g1]
    simp
    omega
  · have g1 := ne_of g1
    exact ⟨trivial, rfl, rfl, rfl, leaf_ff (decide_eq_false fun e => g1 (by rw [e]))⟩

theorem w_refCopied (p : List Int) (h : p.length ≤ 1000000) : Pure Try.prog 109 [pathV p] (fun x => x = pathV p) := by
  refine pure_fn 100 Try.func109 rfl rfl rfl fun B => ?_
  refine ⟨Nat.le_trans (Nat.mul_le_mul_right _ (show (p.map intV).length ≤ 1000000 by simpa using h)) (by decide), ?_⟩
  exact ⟨trivial, rfl, rfl, rfl, rfl, rfl, rfl⟩

theorem w_pathSame (p q : List Int) (hp : p.length ≤ 1000000) : Pure Try.prog 61 [pathV p, pathV q] (fun x => x = .bool (decide (p = q))) := by
  refine pure_fn 100 Try.func61 rfl rfl rfl fun B => ?_
  show CallThen _ _ _ _ _ _
  refine call_pure (w_EqualInt p q hp) rfl ?_
  rintro x rfl
  exact ⟨trivial, rfl, rfl, rfl, rfl⟩

theorem w_pathWithin (p q : List Int) (hp : p.length ≤ 1000000) : Pure Try.prog 63 [pathV p, pathV q] (fun x => x = .bool (within p q)) := by
  refine pure_wk (pure_fn 100 Try.func63 rfl rfl rfl fun B => ?_)
  refine ⟨fun g1 => go 100 ?_, fun g1 => go 100 ?_⟩
  · have g1 : p.length ≤ q.length := by have := le_of g1; simp at this; omega
    refine ⟨by decide, by simp, by simpa using g1, ?_⟩
    show CallThen _ _ _ _ _ _
    have e : V.sl 1 ((((q.map intV).drop (Int.toNat 0)).take (((p.map intV).length : Int).toNat - Int.toNat 0))) = pathV (q.take p.length) := by
      unfold pathV
      simp
    refine call_pure (Q := fun x => x = .bool (decide (p = q.take p.length))) (by have h := w_EqualInt p (q.take p.length) hp; unfold pathV at e; rw [← e] at h; exact h) rfl ?_
    rintro x rfl
    exact ⟨trivial, rfl, rfl, rfl, leaf_b rfl⟩
  · have g1 : q.length < p.length := by have := not_le_of g1; simp at this; omega
    refine ⟨trivial, rfl, rfl, rfl, leaf_ff ?_⟩
    cases h : within p q with
    | false => rfl
    | true => have := within_len h; omega

theorem pure_clone {P : Program} {f : FuncId} {sz : Nat} {xs : List V} (h : Fun P f [] [.sl sz xs] (CloneQ sz xs)) : Pure P f [.sl sz xs] (fun x => x = .sl sz xs) := by
  refine pure_wk (pure_of_fun (h.mono fun x T hx => ?_))
  rcases hx with ⟨e, rfl, rfl⟩ | ⟨rfl, rfl⟩
  · subst e
    exact ⟨rfl, _, Wk.nil sz, rfl, rfl⟩
  · exact ⟨rfl, rfl, rfl, _, Wk.refl _, rfl, rfl⟩

/-- The path of the parent, of one that is not the root's; where in it. -/
theorem w_Parent (p : List Int) (hp : p.length ≤ 1000000) (hne : p ≠ []) : Pure Try.prog 122 [pathV p] (fun x => x = .tup [pathV p.dropLast, intV (p.getLast hne), .tt]) := by
  have hpos : 0 < p.length := List.length_pos_iff.2 hne
  refine pure_fn 100 Try.func122 rfl rfl rfl fun B => ?_
  refine ⟨fun g1 => go 100 ?_, fun g1 => go 100 ?_⟩
  · have := eq_of g1
    simp at this
    exact absurd this hne
  refine ⟨by constructor <;> simp <;> omega, ?_⟩
  show Goes _ _ _ _
  have e : V.sl 1 ((((p.map intV).drop (Int.toNat 0)).take ((((p.map intV).length : Int) - 1).toNat - Int.toNat 0))) = .sl 1 (p.dropLast.map intV) := by
    rw [List.dropLast_eq_take, List.map_take]
    congr 2
    simp
  have hx : (p.map intV)[(((p.map intV).length : Int) - 1).toNat]? = some (intV (p.getLast hne)) := by
    rw [List.getElem?_map, List.getLast_eq_getElem]
    have : (((p.map intV).length : Int) - 1).toNat = p.length - 1 := by simp
    rw [this, List.getElem?_eq_getElem (by omega)]
    rfl
  refine goes_draw 100 ⟨by decide, by simp; omega, by omega, ?_⟩
  have h := pure_clone (w_CloneInt (p.dropLast.map intV) (by rw [List.length_map, List.length_dropLast]; omega))
  rw [← e] at h
  refine ⟨_, h, rfl, ?_⟩
  refine ⟨by simp only [List.length_map]; omega, _, hx, ?_⟩
  refine ⟨by kernel_rfl, ?_⟩
  refine ⟨trivial, rfl, rfl, rfl, ?_⟩
  rw [e]
  rfl
end Bow
/- W17: the node at a path. -/
namespace Bow
open Go Go.Proofs

theorem subs_le_weights : ∀ l : List Tree, l.length ≤ weights l
  | [] => by rw [weights]; simp
  | s :: l => by
    have := subs_le_weights l
    have := weight_eq s
    rw [weights_cons, List.length_cons]
    omega
theorem subs_le_weight (t : Tree) : t.subs.length < t.weight := by have := weight_eq t; have := subs_le_weights t.subs; omega
theorem subV_at {t s : Tree} {i : Nat} (h : t.subs[i]? = some s) : t.subV[i]? = some (nodeV s) := by rw [subV_eq, List.getElem?_map, h]; rfl
theorem subV_len (t : Tree) : t.subV.length = t.subs.length := by rw [subV_eq, List.length_map]
theorem wk_at0 : Wk (.tup [zeroV .nilsl, .ff]) (atV (zeroT []) none) := Wk.tup ⟨wk_zero (ss := []) (Wk.nil 6), .refl _, trivial⟩

end Bow
/- W18: changes of the node at a path: printed by gen_w18.py. -/
namespace Bow
open Go Go.Proofs

theorem subV_set (t : Tree) (i : Nat) (s : Tree) : t.subV.set i (nodeV s) = (t.subs.set i s).map nodeV := by rw [subV_eq, List.map_set]

end Bow
/- W19: nodes put in and taken out. -/
namespace Bow
open Go Go.Proofs

theorem sl_all {sz : Nat} {xs : List V} : V.sl sz (xs.take xs.length) = .sl sz xs := by rw [List.take_length]

end Bow
/- W20: where a moved node lands. -/
namespace Bow
open Go Go.Proofs

def landV (r : List Int × Int) : V := .tup [pathV r.1, intV r.2]

end Bow
/- W21: right trees. -/
namespace Bow
open Go Go.Proofs

def rightUpd (_ : Unit) (p : Int × Tree) : Unit × Option Code := bif rightN p.2 then ((), none) else ((), some .ret)
theorem rightUpd_all : ∀ l : List (Int × Tree), rfold rightUpd () l = bif l.all (fun p => rightN p.2) then ((), none) else ((), some .ret)
  | [] => rfl
  | p :: l => by
    rw [rfold, List.all_cons]
    cases h : rightN p.2 with
    | false => simp [rightUpd, h]
    | true =>
      simp only [rightUpd, h, cond_true, Bool.true_and]
      exact rightUpd_all l

end Bow
/- W22: right trees, in the document's words. -/
namespace Bow
open Go Go.Proofs

theorem rightsA_at {l : List Tree} {i : Nat} (hi : i < l.length) : rightsA (l.drop i) = (l[i].rightA && rightsA (l.drop (i + 1))) := by rw [List.drop_eq_getElem_cons hi, rightsA]

end Bow
/- W23: edits of a text, in the document's words. -/
namespace Bow
open Go Go.Proofs

set_option maxRecDepth 100000 in
theorem w_refExtent (l : List PieceT) (hl : l.length ≤ 4096) (hok : ∀ p ∈ l, p.Ok) : Pure Try.prog 115 [piecesV l] (fun x => x = .int .i64 (extentP l)) := by
  refine pure_fn 100 Try.func115 rfl rfl rfl fun B => ?_
  show Goes _ _ _ _
  refine goes_iter (ι := Nat × Int) (fun i => i.1 ≤ l.length ∧ 0 ≤ i.2 ∧ i.2 + extentP (l.drop i.1) = extentP l) (fun i => l.length - i.1) (fun i => [(4, .int .i64 i.1), (0, piecesV l), (3, .int .i64 i.2)]) (fun _ => []) (0, 0) 100 (fun _ => rfl) (fun _ => rfl) ⟨⟨Nat.zero_le _, Int.le_refl _, by simp⟩, ⟨⟨rfl, rfl⟩, ⟨rfl, rfl⟩, ⟨rfl, rfl⟩, trivial⟩, trivial⟩ ?_
  rintro ⟨i, n⟩ ⟨k1, k2, k3⟩ next
  simp only at k1 k2 k3
  have hle := extentP_le hok
  refine ⟨fun hlt => go 100 ?_, fun hge => go 100 ?_⟩
  · have hi : i < l.length := by simpa using hlt
    have hx : (l.map pieceV)[i]? = some (pieceV l[i]) := by simp [hi]
    have hp := hok l[i] (List.getElem_mem hi)
    have := hp.k0
    have := hp.d0
    have hn := extentP_nonneg (l := l.drop (i + 1)) fun q hq => hok q (List.mem_of_mem_drop hq)
    rw [drop_cons hi, extentP_cons] at k3
    show Goes _ _ _ _
    refine goes_draw 100 ⟨Int.natCast_nonneg i, _, hx, ⟨by omega, by omega⟩, Int.natCast_nonneg i, _, hx, ⟨by omega, by omega⟩, ?_⟩
    refine ⟨by kernel_rfl, ?_⟩
    refine ⟨⟨by omega, by omega⟩, ?_⟩
    exact next (i + 1, n + l[i].keep + l[i].drop) _ _ ⟨⟨hi, by simp only; omega, by simp only; omega⟩, by simp only; omega, ⟨⟨rfl, rfl⟩, ⟨rfl, rfl⟩, ⟨rfl, rfl⟩, trivial⟩, trivial⟩
  · have hi : l.length ≤ i := by simpa using hge
    rw [List.drop_eq_nil_of_le hi] at k3
    exact ⟨trivial, rfl, rfl, rfl, by rw [← k3]; simp [extentP]; rfl⟩

end Bow
/- WB1: strings.Builder's methods at this program: by the kit's own tactics. -/
namespace Bow
open Go Go.Proofs Go.RowKit Go.Shelf

def bPtr (b : Nat) : Value := .pointer (some ⟨b, 0, none⟩)
theorem b_byte : ((Try.prog).info? 5).map (fun i => (i.zero, i.size, i.bytes)) = some (some (.int .u8 0), 1, 1) := by kernel_rfl

end Bow
/- W24: leaftext.Apply, by the kit's own tactics. -/
namespace Bow
open Go Go.Proofs Go.RowKit

theorem pieces_flat (l : List PieceT) : ∀ x ∈ l.map pieceV, flatL x.cells = true := by
  intro x hx
  obtain ⟨p, _, rfl⟩ := List.mem_map.1 hx
  rfl

theorem c_right (l : List PieceT) (hl : l.length ≤ 1000000) (hpl : ∀ p ∈ l, p.put.length ≤ 1000000000) (v : Value) (w : World) (h : Rep w β0 [] (piecesV l) v) :
    Calls Try.prog 72 #[v] w fun e w' => e = .returned (.bool (rightP l)) ∧ Below w.heap.size w w' := by
  refine calls_of_pureQ (β := β0) (H := []) (w_Right l hl hpl) (fun x u w' β' H' hx hu => ?_) rfl rfl ?_
  · subst hx
    exact rep_bool (m := []) hu
  · intro j x u hj hu
    cases j with
    | zero => simp at hj hu; subst hj hu; exact h
    | succ j => simp at hj
theorem rep_below {w w' : World} {x : V} {v : Value} (h : Rep w β0 [] x v) (hb : Below w.heap.size w w') : Rep w' β0 [] x v := h.mono (Fr.of_below hb)

theorem ba_of (x : ByteArray) (y : List UInt8) (h : x.data.toList = y) : x = ⟨y.toArray⟩ := by
  obtain ⟨⟨l⟩⟩ := x
  subst h
  rfl
theorem hidU {p : Prop} (h : p) : Hid p := h

theorem editP_length : ∀ (t : List UInt8) (l : List PieceT), (∀ p ∈ l, p.Ok) → (editP t l).length ≤ t.length + putsLen l
  | t, [], _ => Nat.le_refl _
  | t, p :: l, h => by
    have ih := editP_length (t.drop (p.keep + p.drop).toNat) l fun q hq => h q (List.mem_cons_of_mem _ hq)
    have hp := h p List.mem_cons_self
    have := hp.k0
    have := hp.d0
    have e : putsLen (p :: l) = p.put.length + putsLen l := rfl
    rw [editP, e]
    rw [List.length_drop] at ih
    simp only [List.length_append, List.length_take]
    omega
theorem applyE_len (t : List UInt8) (l : List PieceT) : (applyE t l).1.length ≤ t.length + 1048576 := by
  unfold applyE
  cases hr : rightP l with
  | false => simp
  | true =>
    obtain ⟨r1, r2, r3⟩ := rightP_ok hr
    cases decide ((t.length : Int) < extentP l) with
    | false =>
      have := editP_length t l r2
      simp only [Bool.not_true, cond_false]
      omega
    | true => simp

end Bow
/- W25: which operations are valid. -/
namespace Bow
open Go Go.Proofs

theorem text_le_weight (t : Tree) : t.text.length < t.weight := by have := weight_eq t; omega
theorem path_nil {p : List Int} (h : decide ((((p.map intV).length : Nat) : Int) = 0) = true) : p = [] := by
  have := eq_of h
  simpa using this
theorem path_ne {p : List Int} (h : decide ((((p.map intV).length : Nat) : Int) = 0) = false) : p ≠ [] := by
  have := ne_of h
  simpa using this

end Bow
/- W26: what becomes of a tree. -/
namespace Bow
open Go Go.Proofs

/-- What an operation's walk asks: it is formed, and valid on the tree; and what it makes of it. -/
inductive Does (t : Tree) (o : OpT) : Tree → Prop
  | ins (y) (hk : o.kind = 1) (hy : atT t o.path = some y) (h0 : 0 ≤ o.at_) (h1 : o.at_ ≤ y.subs.length) : Does t o (changeT (insT o.at_ (freshT o)) t o.path)
  | del (x) (hk : o.kind = 2) (hne : o.path ≠ []) (hx : atT t o.path = some x) : Does t o (changeT (delT (lastP o.path)) t o.path.dropLast)
  | mov (x z) (hk : o.kind = 3) (hne : o.path ≠ []) (hx : atT t o.path = some x) (hw : within o.path o.to = false) (hz : atT t o.to = some z) (h0 : 0 ≤ o.at_) (h1 : o.at_ ≤ z.subs.length) : Does t o (moveT x t o)
  | lab (y) (hk : o.kind = 5) (hy : atT t o.path = some y) : Does t o (changeT (relabelT o.label) t o.path)
  | edt (y) (hk : o.kind = 6) (hy : atT t o.path = some y) : Does t o (changeT (retextT o.pieces) t o.path)

theorem wk_fresh (o : OpT) : Wk (.agg [.int .u64 o.id, .bool o.leaf, .str o.label, .nilsl, .str [], .nilsl]) (nodeV (freshT o)) :=
  Wk.agg ⟨.refl _, .refl _, .refl _, Wk.nil 2, .refl _, Wk.nil 6, trivial⟩

/-! ### Apply -/
def ApplyV (r : Tree × Int) : V := .tup [nodeV r.1, .int .i64 r.2]
end Bow
/- SP9: trees that are the same, in plain Lean. -/
namespace Bow
open Go

mutual
def sameT (ids : Bool) : Tree → Tree → Bool
  | .mk i l b a t ss, u => (!ids || decide (i = u.id)) && ((l == u.leaf) && (decide (b = u.label) && (decide (t = u.text) && (decide (a = u.attrs) && sameTs ids ss u.subs))))
def sameTs (ids : Bool) : List Tree → List Tree → Bool
  | [], [] => true
  | s :: ss, u :: us => sameT ids s u && sameTs ids ss us
  | _, _ => false
end
theorem sameT_eq (ids : Bool) (t u : Tree) : sameT ids t u = ((!ids || decide (t.id = u.id)) && ((t.leaf == u.leaf) && (decide (t.label = u.label) && (decide (t.text = u.text) && (decide (t.attrs = u.attrs) && sameTs ids t.subs u.subs))))) := by
  cases t
  rw [sameT]
  rfl
theorem sameTs_len {ids : Bool} : ∀ {ss us : List Tree}, sameTs ids ss us = true → ss.length = us.length
  | [], [], _ => rfl
  | [], _ :: _, h => by simp [sameTs] at h
  | _ :: _, [], h => by simp [sameTs] at h
  | s :: ss, u :: us, h => by
    rw [sameTs, Bool.and_eq_true] at h
    simp [sameTs_len h.2]
theorem sameTs_at {ids : Bool} {ss us : List Tree} {i : Nat} (h1 : i < ss.length) (h2 : i < us.length) : sameTs ids (ss.drop i) (us.drop i) = (sameT ids ss[i] us[i] && sameTs ids (ss.drop (i + 1)) (us.drop (i + 1))) := by
  rw [List.drop_eq_getElem_cons h1, List.drop_eq_getElem_cons h2, sameTs]
mutual
theorem sameT_true : ∀ {t u : Tree}, sameT true t u = true → t = u
  | .mk i l b a c ss, .mk i' l' b' a' c' us, h => by
    rw [sameT_eq] at h
    simp only [Tree.id, Tree.leaf, Tree.label, Tree.text, Tree.attrs, Tree.subs, Bool.and_eq_true, Bool.not_true, Bool.false_or, beq_iff_eq] at h
    obtain ⟨h1, h2, h3, h4, h5, h6⟩ := h
    rw [show i = i' from of_decide_eq_true h1, show l = l' from h2, show b = b' from of_decide_eq_true h3, show c = c' from of_decide_eq_true h4, show a = a' from of_decide_eq_true h5, sameTs_true h6]
theorem sameTs_true : ∀ {ss us : List Tree}, sameTs true ss us = true → ss = us
  | [], [], _ => rfl
  | [], _ :: _, h => by simp [sameTs] at h
  | _ :: _, [], h => by simp [sameTs] at h
  | s :: ss, u :: us, h => by
    rw [sameTs, Bool.and_eq_true] at h
    rw [sameT_true h.1, sameTs_true h.2]
end
mutual
theorem sameT_refl (ids : Bool) : ∀ t : Tree, sameT ids t t = true
  | .mk i l b a c ss => by
    rw [sameT_eq]
    simp only [Tree.id, Tree.leaf, Tree.label, Tree.text, Tree.attrs, Tree.subs]
    rw [sameTs_refl ids ss]
    simp
theorem sameTs_refl (ids : Bool) : ∀ ss : List Tree, sameTs ids ss ss = true
  | [] => by rw [sameTs]
  | s :: ss => by rw [sameTs, sameT_refl ids s, sameTs_refl ids ss]; rfl
end
end Bow
/- W27: trees that are the same. -/
namespace Bow
open Go Go.Proofs

def bV : Bool → V
  | true => .tt
  | false => .ff

end Bow
/- W30a: Light, just so. -/
namespace Bow
open Go Go.Proofs

def lightB (o : OpT) (top : Nat) : Bool := decide (o.path.length ≤ top) && decide (o.to.length ≤ top) && decide (o.label.length ≤ top) && decide (o.key.length ≤ top) && decide (o.value.length ≤ top) && decide (o.pieces.length ≤ top) && decide (putsLen o.pieces ≤ top)
theorem lightB_iff (o : OpT) (top : Nat) : lightB o top = true ↔ o.Lt top ∧ putsLen o.pieces ≤ top := by
  unfold lightB
  simp only [Bool.and_eq_true, decide_eq_true_eq]
  constructor
  · rintro ⟨⟨⟨⟨⟨⟨h1, h2⟩, h3⟩, h4⟩, h5⟩, h6⟩, h7⟩
    exact ⟨⟨h1, h2, h3, h4, h5, h6⟩, h7⟩
  · rintro ⟨⟨h1, h2, h3, h4, h5, h6⟩, h7⟩
    exact ⟨⟨⟨⟨⟨⟨h1, h2⟩, h3⟩, h4⟩, h5⟩, h6⟩, h7⟩
theorem Lt_mono {o : OpT} {a b : Nat} (h : o.Lt a) (hab : a ≤ b) : o.Lt b := by
  have := h.path; have := h.to; have := h.label; have := h.key; have := h.value; have := h.pieces
  exact ⟨by omega, by omega, by omega, by omega, by omega, by omega⟩
theorem light_ok {o : OpT} {top : Nat} (h : lightB o top = true) (ht : top ≤ 1000000) : o.Ok := by
  obtain ⟨h1, h2⟩ := (lightB_iff o top).1 h
  exact ⟨Lt_mono h1 ht, by omega⟩

set_option maxRecDepth 100000 in
/-- Light: within the bound, the lengths and what is put. -/
theorem w_LightX (o : OpT) (top : Nat) (ht : top ≤ 1000000) : Pure Try.prog 11 [opV o, .int .i64 top] (fun x => x = .bool (lightB o top)) := by
  have bad : ¬ (o.Lt top ∧ putsLen o.pieces ≤ top) → ∃ y, Wk .ff y ∧ y.pureB = true ∧ y = .bool (lightB o top) := fun h => leaf_ff (Bool.eq_false_iff.2 fun h' => h ((lightB_iff o top).1 h'))
  refine pure_wk (pure_fn 300 Try.func11 rfl rfl rfl fun B => ?_)
  refine ⟨fun g1 => go 300 ?_, fun g1 => go 300 ?_⟩
  · exact ⟨trivial, rfl, rfl, rfl, bad fun ⟨h, _⟩ => by have := lt_of g1; have := h.path; have := h.to; have := h.label; have := h.key; have := h.value; have := h.pieces; simp only [List.length_map] at *; omega⟩
  refine ⟨fun g2 => go 300 ?_, fun g2 => go 300 ?_⟩
  · exact ⟨trivial, rfl, rfl, rfl, bad fun ⟨h, _⟩ => by have := lt_of g2; have := h.path; have := h.to; have := h.label; have := h.key; have := h.value; have := h.pieces; simp only [List.length_map] at *; omega⟩
  refine ⟨fun g3 => go 300 ?_, fun g3 => go 300 ?_⟩
  · exact ⟨trivial, rfl, rfl, rfl, bad fun ⟨h, _⟩ => by have := lt_of g3; have := h.path; have := h.to; have := h.label; have := h.key; have := h.value; have := h.pieces; simp only [List.length_map] at *; omega⟩
  refine ⟨fun g4 => go 300 ?_, fun g4 => go 300 ?_⟩
  · exact ⟨trivial, rfl, rfl, rfl, bad fun ⟨h, _⟩ => by have := lt_of g4; have := h.path; have := h.to; have := h.label; have := h.key; have := h.value; have := h.pieces; simp only [List.length_map] at *; omega⟩
  refine ⟨fun g5 => go 300 ?_, fun g5 => go 300 ?_⟩
  · exact ⟨trivial, rfl, rfl, rfl, bad fun ⟨h, _⟩ => by have := lt_of g5; have := h.path; have := h.to; have := h.label; have := h.key; have := h.value; have := h.pieces; simp only [List.length_map] at *; omega⟩
  refine ⟨fun g6 => go 300 ?_, fun g6 => go 300 ?_⟩
  · exact ⟨trivial, rfl, rfl, rfl, bad fun ⟨h, _⟩ => by have := lt_of g6; have := h.path; have := h.to; have := h.label; have := h.key; have := h.value; have := h.pieces; simp only [List.length_map] at *; omega⟩
  have g1 := not_lt_of g1
  have g2 := not_lt_of g2
  have g3 := not_lt_of g3
  have g4 := not_lt_of g4
  have g5 := not_lt_of g5
  have g6 := not_lt_of g6
  simp only [List.length_map] at g1 g2 g6
  have hlt : o.Lt top := ⟨by omega, by omega, by omega, by omega, by omega, by omega⟩
  show Goes _ _ _ _
  refine goes_iter (ι := Nat × Nat) (fun i => i.1 ≤ o.pieces.length ∧ i.2 ≤ top ∧ putsLen o.pieces = i.2 + putsLen (o.pieces.drop i.1)) (fun i => o.pieces.length - i.1) (fun i => [(6, .int .i64 i.1), (5, .int .i64 i.2), (1, .int .i64 top), (2, .ptr (.loc 0) 0)]) (fun _ => [some (.box (opV o).cells)]) (0, 0) 200 (fun _ => rfl) (fun _ => rfl) ⟨⟨Nat.zero_le _, Nat.zero_le _, by simp⟩, ?_, ?_⟩ ?_
  · exact ⟨⟨rfl, rfl⟩, ⟨rfl, rfl⟩, ⟨rfl, rfl⟩, ⟨rfl, rfl⟩, trivial⟩
  · exact ⟨⟨rfl, rfl⟩, trivial⟩
  · rintro ⟨i, n⟩ ⟨h1, h3, h2⟩ next
    simp only at h1 h2 h3
    refine ⟨fun hlt => go 200 ?_, fun hge => go 200 ?_⟩
    · have hi : i < o.pieces.length := by simpa using hlt
      have hx : (o.pieces.map pieceV)[i]? = some (pieceV o.pieces[i]) := by simp [hi]
      rw [drop_cons hi] at h2
      have h2 : putsLen o.pieces = n + ((o.pieces[i]).put.length + putsLen (o.pieces.drop (i + 1))) := h2
      refine ⟨Int.natCast_nonneg i, _, hx, ?_⟩
      refine ⟨by constructor <;> omega, ?_⟩
      refine ⟨fun g7 => go 200 ?_, fun g7 => go 200 ?_⟩
      · exact ⟨trivial, rfl, rfl, rfl, bad fun ⟨h, _⟩ => by have := lt_of g7; have := h.path; have := h.to; have := h.label; have := h.key; have := h.value; have := h.pieces; simp only [List.length_map] at *; omega⟩
      have g7 := not_lt_of g7
      refine ⟨Int.natCast_nonneg i, _, hx, ?_⟩
      refine ⟨by constructor <;> omega, ?_⟩
      refine ⟨by constructor <;> omega, ?_⟩
      show Goes _ _ _ _
      refine next (i + 1, n + (o.pieces[i]).put.length) _ _ ⟨⟨hi, by simp only; omega, by simp only; omega⟩, ?_, ⟨⟨rfl, rfl⟩, ⟨rfl, rfl⟩, ⟨rfl, rfl⟩, ⟨rfl, rfl⟩, trivial⟩, ⟨⟨rfl, rfl⟩, trivial⟩⟩
      simp only; omega
    · have hi : o.pieces.length ≤ i := by simpa using hge
      rw [List.drop_eq_nil_of_le hi] at h2
      have h2 : putsLen o.pieces = n + 0 := h2
      exact ⟨trivial, rfl, rfl, rfl, leaf_tt ((lightB_iff o top).2 ⟨hlt, by omega⟩)⟩


end Bow
/- W31: the reference's Put, put, drop, change. -/
namespace Bow
open Go Go.Proofs

theorem w_CopiedQ (xs : List V) (hl : xs.length ≤ 1000000) : Fun Try.prog 109 [] [.sl 1 xs] (fun x T => x = .osl (.loc 0) 0 0 xs.length ∧ T = [some (.vec 0 1 xs)]) := by
  refine fun_fn 100 Try.func109 rfl rfl rfl fun imps B hi => ?_
  have : imps = [] := List.length_eq_zero_iff.1 hi
  subst this
  refine ⟨Nat.le_trans (Nat.mul_le_mul_right _ hl) (by decide), ?_⟩
  exact ⟨trivial, rfl, rfl, rfl, rfl⟩

end Bow
/- W32: the reference's put, drop, change, Without. -/
namespace Bow
open Go Go.Proofs

theorem row_ins (t x : Tree) (at_ : Int) : (t.subV.take (at_.toNat - Int.toNat 0 : Nat)).drop 0 ++ [nodeV x] ++ (t.subV.drop at_.toNat).take ((t.subV.length : Int).toNat - at_.toNat) = (t.subs.take at_.toNat ++ x :: t.subs.drop at_.toNat).map nodeV := by
  rw [subV_eq, List.take_of_length_le (l := List.drop _ _) (by simp)]
  simp
theorem row_del (t : Tree) (at_ : Int) (h0 : 0 ≤ at_) : (t.subV.take (at_.toNat - Int.toNat 0 : Nat)).drop 0 ++ (t.subV.drop (at_ + 1).toNat).take ((t.subV.length : Int).toNat - (at_ + 1).toNat) = (t.subs.take at_.toNat ++ t.subs.drop (at_.toNat + 1)).map nodeV := by
  have e : (at_ + 1).toNat = at_.toNat + 1 := by omega
  rw [subV_eq, List.take_of_length_le (l := List.drop _ _) (by simp), e]
  simp

theorem change_const {F : Tree → Tree} {y : Tree} : ∀ {p : List Int} {t : Tree}, atT t p = some y → changeT (fun _ => F y) t p = changeT F t p
  | [], t, h => by
    rw [atT] at h
    injection h with h
    subst h
    rfl
  | i :: p, t, h => by
    rw [atT] at h
    cases hs : subT t i with
    | none => rw [hs] at h; cases h
    | some s =>
      rw [hs] at h
      rw [changeT, changeT, hs]
      simp only
      rw [change_const (p := p) h]

end Bow
/- W33: the reference's attr. -/
namespace Bow
open Go Go.Proofs

theorem withAttrs_V (t : Tree) (a : AttrL) : nodeV (t.withAttrs a) = .agg [.int .u64 t.id, .bool t.leaf, .str t.label, .sl 2 (a.map attrV), .str t.text, .sl 6 t.subV] := by
  cases t
  rfl
theorem attrs_le_weight (t : Tree) : t.attrs.length ≤ t.weight := by rw [weight_eq]; omega

end Bow
/- W34: the reference's move. -/
namespace Bow
open Go Go.Proofs

theorem pure_sl_cast {P : Program} {f : FuncId} {a : V} {sz : Nat} {q q' : List V} {Q : V → Prop} (h : Pure P f [a, .sl sz q'] Q) (e : q = q') : Pure P f [a, .sl sz q] Q := e ▸ h

end Bow
/- WB2: strings.Compare at this program: by the kit's own tactics. -/
namespace Bow
open Go Go.Proofs Go.RowKit Go.Shelf

end Bow
/- W35: the program's search for an attribute. -/
namespace Bow
open Go Go.Proofs

theorem half_eq (i j : Nat) (h : i + j ≤ 2000000) : IntKind.i64.wrap (IntKind.u64.wrap ((i : Int) + j) / 2 ^ min (1 : Int).toNat IntKind.u64.bits) = (((i + j) / 2 : Nat) : Int) := by
  have e : IntKind.u64.wrap ((i : Int) + j) = ((i + j : Nat) : Int) := by
    unfold IntKind.wrap
    simp [IntKind.signed, IntKind.bits]
    omega
  rw [e]
  unfold IntKind.wrap
  simp [IntKind.signed, IntKind.bits]
  omega

end Bow
/- W36: the program's setAttr. -/
namespace Bow
open Go Go.Proofs

end Bow
/- W37: the program's apply, Apply. -/
namespace Bow
open Go Go.Proofs

end Bow
/- W38: the reference's Apply. -/
namespace Bow
open Go Go.Proofs

end Bow
/- SP15: a tree that was right stays right, in plain Lean. -/
namespace Bow
open Go

theorem rightN_iff (t : Tree) : rightN t = true ↔ t.label.length ≤ 64 ∧ (t.leaf = true → t.subs = []) ∧ (t.leaf = false → t.text = []) ∧ attrsOk none t.attrs = true := by
  unfold rightN headOk
  constructor
  · intro h
    rw [Bool.and_eq_true, Bool.and_eq_true, Bool.and_eq_true] at h
    obtain ⟨⟨h1, h2, h3⟩, h4⟩ := h
    refine ⟨by simp at h1; omega, fun hl => ?_, fun hl => ?_, h4⟩
    · rw [hl] at h2
      cases hs : t.subs with
      | nil => rfl
      | cons a l => rw [hs] at h2; simp at h2
    · rw [hl] at h3
      simpa using h3
  · rintro ⟨h1, h2, h3, h4⟩
    rw [h4, decide_eq_false (by omega : ¬ (64 : Int) < t.label.length)]
    cases hl : t.leaf with
    | false => rw [h3 hl]; simp
    | true => rw [h2 hl]; simp
theorem rightN_subs (t : Tree) (ss : List Tree) (h : rightN t = true) (hl : t.leaf = true → ss = []) : rightN (t.withSubs ss) = true := by
  obtain ⟨h1, h2, h3, h4⟩ := (rightN_iff t).1 h
  refine (rightN_iff _).2 ?_
  obtain ⟨i, lf, b, a, c, us⟩ := t
  exact ⟨h1, hl, h3, h4⟩
theorem rightN_leaf {t : Tree} (h : rightN t = true) (hl : t.leaf = true) : t.subs = [] := ((rightN_iff t).1 h).2.1 hl
theorem rightA_N {t : Tree} (h : t.rightA = true) : rightN t = true := by
  rw [rightA_eq, Bool.and_eq_true] at h
  exact h.1
theorem rightA_subs {t : Tree} (h : t.rightA = true) : ∀ s ∈ t.subs, s.rightA = true := by
  rw [rightA_eq, Bool.and_eq_true, rightsA_all] at h
  exact List.all_eq_true.1 h.2
theorem rightA_mk {t : Tree} (h1 : rightN t = true) (h2 : ∀ s ∈ t.subs, s.rightA = true) : t.rightA = true := by
  rw [rightA_eq, h1, rightsA_all, Bool.true_and]
  exact List.all_eq_true.2 h2
theorem change_rightA {F : Tree → Tree} {y : Tree} : ∀ {p : List Int} {t : Tree}, t.rightA = true → atT t p = some y → (F y).rightA = true → (changeT F t p).rightA = true
  | [], t, _, h, hF => by
    rw [atT] at h
    injection h with h
    subst h
    exact hF
  | i :: p, t, ht, h, hF => by
    rw [atT] at h
    cases hs : subT t i with
    | none => rw [hs] at h; cases h
    | some s =>
      rw [hs] at h
      obtain ⟨h1, h2, h3⟩ := subT_some hs
      have ih := change_rightA (F := F) (p := p) (rightA_subs ht s h3) h hF
      rw [changeT, hs]
      simp only
      refine rightA_mk (rightN_subs t _ (rightA_N ht) fun hl => ?_) fun u hu => ?_
      · rw [rightN_leaf (rightA_N ht) hl] at h3
        cases h3
      · rw [withSubs_subs] at hu
        rcases List.mem_or_eq_of_mem_set hu with hu | rfl
        · exact rightA_subs ht u hu
        · exact ih
theorem ins_rightA (n : Int) {x y : Tree} (hy : y.rightA = true) (hl : y.leaf = false) (hx : x.rightA = true) : (insT n x y).rightA = true := by
  refine rightA_mk (rightN_subs y _ (rightA_N hy) fun h => by rw [hl] at h; cases h) fun u hu => ?_
  unfold insT at hu
  rw [withSubs_subs] at hu
  rcases List.mem_append.1 hu with hu | hu
  · exact rightA_subs hy u (List.mem_of_mem_take hu)
  · rcases List.mem_cons.1 hu with rfl | hu
    · exact hx
    · exact rightA_subs hy u (List.mem_of_mem_drop hu)
theorem del_rightA (n : Int) {y : Tree} (hy : y.rightA = true) : (delT n y).rightA = true := by
  refine rightA_mk (rightN_subs y _ (rightA_N hy) fun h => by rw [rightN_leaf (rightA_N hy) h]; simp) fun u hu => ?_
  unfold delT at hu
  rw [withSubs_subs] at hu
  rcases List.mem_append.1 hu with hu | hu
  · exact rightA_subs hy u (List.mem_of_mem_take hu)
  · exact rightA_subs hy u (List.mem_of_mem_drop hu)
theorem less_ord {k s : List UInt8} (h : Op.bytesLess k s = true) : ordOk (some k) s = true := by
  show (!leS s k) = true
  unfold leS
  rw [less_asymm h, decide_eq_false fun e => less_ne h e.symm]
  rfl
theorem ord_trans {k0 : Option (List UInt8)} {k s : List UInt8} (h1 : ordOk k0 k = true) (h2 : Op.bytesLess k s = true) : ordOk k0 s = true := by
  cases k0 with
  | none => rfl
  | some q => exact less_ord (less_trans (ordOk_less h1) h2)
theorem attrOk_mk {k0 : Option (List UInt8)} {a : List UInt8 × List UInt8} (h1 : keyOk a.1 = true) (h2 : a.2.length ≤ 256) (h3 : ordOk k0 a.1 = true) : attrOk k0 a = true := by
  unfold attrOk
  rw [h1, h3, decide_eq_true (by omega)]
  rfl
theorem attrOk_parts {k0 : Option (List UInt8)} {a : List UInt8 × List UInt8} (h : attrOk k0 a = true) : keyOk a.1 = true ∧ a.2.length ≤ 256 ∧ ordOk k0 a.1 = true := by
  unfold attrOk at h
  simp only [Bool.and_eq_true, decide_eq_true_eq] at h
  exact ⟨h.1, by omega, h.2.2⟩
theorem attrsOk_weak {k0 : Option (List UInt8)} {k : List UInt8} (h : ordOk k0 k = true) : ∀ {l : AttrL}, attrsOk (some k) l = true → attrsOk k0 l = true
  | [], _ => rfl
  | a :: l, hl => by
    rw [attrsOk, Bool.and_eq_true] at hl ⊢
    obtain ⟨h1, h2, h3⟩ := attrOk_parts hl.1
    exact ⟨attrOk_mk h1 h2 (ord_trans h (ordOk_less h3)), hl.2⟩
theorem refA_true_ok (o : OpT) : ∀ {l : AttrL} {k0 : Option (List UInt8)}, attrsOk k0 l = true → attrsOk k0 (refA o true l) = true
  | [], _, _ => rfl
  | a :: l, k0, h => by
    have ih := refA_true_ok o (attrsOk_tail h)
    rw [attrsOk, Bool.and_eq_true] at h
    obtain ⟨h1, h2, h3⟩ := attrOk_parts h.1
    rw [refA]
    simp only [Bool.not_true, Bool.false_and, cond_false, List.nil_append, Bool.true_or]
    cases decide (a.1 = o.key) with
    | true => exact attrsOk_weak h3 ih
    | false =>
      show attrsOk k0 (a :: refA o true l) = true
      rw [attrsOk, h.1, ih]
      rfl
theorem refA_false_ok (o : OpT) (hk : keyOk o.key = true) (hv : o.value.length ≤ 256) : ∀ {l : AttrL} {k0 : Option (List UInt8)}, attrsOk k0 l = true → ordOk k0 o.key = true → attrsOk k0 (refA o false l) = true
  | [], k0, _, ho => by
    show attrsOk k0 [(o.key, o.value)] = true
    rw [attrsOk, attrOk_mk hk hv ho]
    rfl
  | a :: l, k0, h, ho => by
    have ht := attrsOk_tail h
    rw [attrsOk, Bool.and_eq_true] at h
    obtain ⟨h1, h2, h3⟩ := attrOk_parts h.1
    rw [refA]
    cases ha : Op.bytesLess a.1 o.key with
    | true =>
      rw [decide_eq_false (less_ne ha)]
      show attrsOk k0 (a :: refA o false l) = true
      rw [attrsOk, h.1, refA_false_ok o hk hv ht (less_ord ha)]
      rfl
    | false =>
      by_cases he : a.1 = o.key
      · rw [decide_eq_true he]
        show attrsOk k0 ((o.key, o.value) :: refA o true l) = true
        rw [attrsOk, attrOk_mk hk hv ho]
        show attrsOk (some o.key) (refA o true l) = true
        rw [← he]
        exact refA_true_ok o ht
      · rw [decide_eq_false he]
        show attrsOk k0 ((o.key, o.value) :: a :: refA o true l) = true
        have hka : Op.bytesLess o.key a.1 = true := by
          cases hk' : Op.bytesLess o.key a.1 with
          | true => rfl
          | false => exact absurd (less_tri ha hk') he
        rw [attrsOk, attrOk_mk hk hv ho, attrsOk, attrOk_mk h1 h2 (less_ord hka)]
        exact refA_true_ok o ht
theorem withAttrs_rightA {y : Tree} {a : AttrL} (hy : y.rightA = true) (ha : attrsOk none a = true) : (y.withAttrs a).rightA = true := by
  have h1 := rightA_N hy
  have h2 := rightA_subs hy
  obtain ⟨q1, q2, q3, q4⟩ := (rightN_iff y).1 h1
  obtain ⟨i, lf, b, a', c, us⟩ := y
  exact rightA_mk ((rightN_iff _).2 ⟨q1, q2, q3, ha⟩) h2
theorem setAT_rightA {o : OpT} {y : Tree} (hy : y.rightA = true) (hk : keyOk o.key = true) (hv : o.gone = true ∨ o.value.length ≤ 256) : (setAT o y).rightA = true := by
  unfold setAT
  refine withAttrs_rightA hy ?_
  rw [← attr_law o (right_attrs hy)]
  cases hg : o.gone with
  | true => exact refA_true_ok o (right_attrs hy)
  | false => exact refA_false_ok o hk (hv.resolve_left (by rw [hg]; simp)) (right_attrs hy) rfl
theorem relabel_rightA {s : List UInt8} {y : Tree} (hy : y.rightA = true) (hs : s.length ≤ 64) : (relabelT s y).rightA = true := by
  have h1 := rightA_N hy
  have h2 := rightA_subs hy
  obtain ⟨q1, q2, q3, q4⟩ := (rightN_iff y).1 h1
  obtain ⟨i, lf, b, a', c, us⟩ := y
  exact rightA_mk ((rightN_iff _).2 ⟨hs, q2, q3, q4⟩) h2
theorem retext_rightA {l : List PieceT} {y : Tree} (hy : y.rightA = true) (hl : y.leaf = true) : (retextT l y).rightA = true := by
  have h1 := rightA_N hy
  have h2 := rightA_subs hy
  obtain ⟨q1, q2, q3, q4⟩ := (rightN_iff y).1 h1
  obtain ⟨i, lf, b, a', c, us⟩ := y
  exact rightA_mk ((rightN_iff _).2 ⟨q1, q2, fun h => absurd (h.symm.trans hl) (by simp), q4⟩) h2
theorem fresh_rightA {o : OpT} (h : o.label.length ≤ 64) : (freshT o).rightA = true := by
  exact rightA_mk ((rightN_iff _).2 ⟨h, fun _ => rfl, fun _ => rfl, rfl⟩) (fun s hs => by cases hs)
/-- Where a moved node lands. -/
theorem land_of {t x z : Tree} {fr to : List Int} {at_ : Int} (hne : fr ≠ []) (hx : atT t fr = some x) (hw : within fr to = false) (hz : atT t to = some z) (h0 : 0 ≤ at_) (h1 : at_ ≤ z.subs.length) :
    ∃ z', atT (withoutT t fr) (landT fr.dropLast (lastP fr) to at_).1 = some z' ∧ 0 ≤ (landT fr.dropLast (lastP fr) to at_).2 ∧ (landT fr.dropLast (lastP fr) to at_).2 ≤ z'.subs.length ∧ z'.leaf = z.leaf ∧ z'.id = z.id := by
  obtain ⟨y, y1, y2, y3, y4⟩ := at_parent hne hx
  have hlast := lastP_eq hne
  rw [hlast] at y2 y3 y4
  have hw' : within (fr.dropLast ++ [lastP fr]) to = false := by rw [← hlast, List.dropLast_concat_getLast]; exact hw
  exact land_at2 y2 h0 fr.dropLast to t y z y1 y3 hw' hz h1
theorem without_rightA {t x : Tree} {fr : List Int} (hne : fr ≠ []) (hx : atT t fr = some x) (ht : t.rightA = true) : (withoutT t fr).rightA = true := by
  obtain ⟨y, y1, y2, y3, y4⟩ := at_parent hne hx
  exact change_rightA ht y1 (del_rightA _ (right_at ht y1))
theorem change_leaf {F : Tree → Tree} (hF : ∀ y, (F y).leaf = y.leaf) : ∀ (p : List Int) (t : Tree), (changeT F t p).leaf = t.leaf
  | [], t => hF t
  | i :: p, t => by
    rw [changeT]
    cases subT t i with
    | none => rfl
    | some s => exact withSubs_leaf _ _
theorem rightT_parts {t : Tree} (h : rightT t = true) : t.leaf = false ∧ t.rightA = true := by
  unfold rightT at h
  simpa using h
theorem right_applyT {t : Tree} {o : OpT} (h : ValidE t o = 0) : rightT (applyT t o) = true := by
  obtain ⟨hr, hf, _⟩ := valid_right h
  obtain ⟨hl, hA⟩ := rightT_parts hr
  have hins : ∀ n x, ∀ y, (insT n x y).leaf = y.leaf := fun n x y => withSubs_leaf _ _
  have hdel : ∀ n, ∀ y, (delT n y).leaf = y.leaf := fun n y => withSubs_leaf _ _
  have key : (applyT t o).leaf = t.leaf ∧ (applyT t o).rightA = true := by
    cases good_of h with
    | ins y hk hy hl h0 h1 h2 =>
      have e : applyT t o = changeT (insT o.at_ (freshT o)) t o.path := by unfold applyT; rw [hk]; rfl
      rw [e]
      exact ⟨change_leaf (hins _ _) _ _, change_rightA hA hy (ins_rightA _ (right_at hA hy) hl (fresh_rightA h2))⟩
    | del x hk hne hx =>
      have e : applyT t o = withoutT t o.path := by unfold applyT; rw [hk]; rfl
      rw [e]
      exact ⟨change_leaf (hdel _) _ _, without_rightA hne hx hA⟩
    | mov x z hk hne hx hw hz hl h0 h1 =>
      have e : applyT t o = moveT x t o := by unfold applyT; rw [hk, hx]; rfl
      obtain ⟨z', k1, k2, k3, k4, k5⟩ := land_of hne hx hw hz h0 h1
      rw [e, moveT_eq]
      have hwA := without_rightA hne hx hA
      refine ⟨(change_leaf (hins _ _) _ _).trans (change_leaf (hdel _) _ _), change_rightA hwA k1 (ins_rightA _ (right_at hwA k1) (k4.trans hl) (right_at hA hx))⟩
    | att y hk hy h1 h2 =>
      have e : applyT t o = changeT (setAT o) t o.path := by unfold applyT; rw [hk]; rfl
      rw [e]
      exact ⟨change_leaf (fun y => by cases y; rfl) _ _, change_rightA hA hy (setAT_rightA (right_at hA hy) h1 h2)⟩
    | lab y hk hy h2 =>
      have e : applyT t o = changeT (relabelT o.label) t o.path := by unfold applyT; rw [hk]; rfl
      rw [e]
      exact ⟨change_leaf (fun y => by cases y; rfl) _ _, change_rightA hA hy (relabel_rightA (right_at hA hy) h2)⟩
    | edt y hk hy hl he =>
      have e : applyT t o = changeT (retextT o.pieces) t o.path := by unfold applyT; rw [hk]; rfl
      rw [e]
      exact ⟨change_leaf (fun y => by cases y; rfl) _ _, change_rightA hA hy (retext_rightA (right_at hA hy) hl)⟩
  unfold rightT
  rw [key.1, key.2, hl]
  rfl
end Bow
/- SP16: the identities of a tree, counted, in plain Lean. -/
namespace Bow
open Go

mutual
def idsT : Tree → List Int
  | .mk i _ _ _ _ ss => i :: idsTs ss
def idsTs : List Tree → List Int
  | [] => []
  | s :: ss => idsT s ++ idsTs ss
end
theorem idsT_eq (t : Tree) : idsT t = t.id :: idsTs t.subs := by cases t; rw [idsT]; rfl
mutual
theorem idsT_len : ∀ t : Tree, (idsT t).length = t.size
  | .mk i l a b c ss => by rw [idsT, Tree.size, List.length_cons, idsTs_len ss]; omega
theorem idsTs_len : ∀ ss : List Tree, (idsTs ss).length = sizes ss
  | [] => rfl
  | s :: ss => by rw [idsTs, sizes, List.length_append, idsT_len s, idsTs_len ss]
end
theorem idsTs_append : ∀ a b : List Tree, idsTs (a ++ b) = idsTs a ++ idsTs b
  | [], b => by rw [idsTs]; rfl
  | x :: a, b => by rw [List.cons_append, idsTs, idsTs, idsTs_append a b, List.append_assoc]
/-- A measure of rows that adds up. -/
def Adds (m : List Int → Nat) : Prop := ∀ a b, m (a ++ b) = m a + m b
theorem adds_len : Adds List.length := fun _ _ => List.length_append
theorem adds_count (i : Int) : Adds (List.count i) := fun _ _ => List.count_append
section
variable {m : List Int → Nat}
theorem Adds.nil (h : Adds m) : m [] = 0 := by have := h [] []; simp at this; omega
theorem Adds.tree (h : Adds m) (t : Tree) : m (idsT t) = m [t.id] + m (idsTs t.subs) := by rw [idsT_eq, ← h]; rfl
theorem Adds.subs (h : Adds m) (t : Tree) (ss : List Tree) : m (idsT (t.withSubs ss)) + m (idsTs t.subs) = m (idsT t) + m (idsTs ss) := by
  rw [h.tree, h.tree t, withSubs_id, withSubs_subs]
  omega
theorem Adds.set (h : Adds m) {s u : Tree} : ∀ {l : List Tree} {i : Nat}, l[i]? = some s → m (idsTs (l.set i u)) + m (idsT s) = m (idsTs l) + m (idsT u)
  | [], i, q => by simp at q
  | x :: l, 0, q => by
    simp at q
    subst q
    rw [List.set_cons_zero, idsTs, idsTs, h, h]
    omega
  | x :: l, i + 1, q => by
    simp at q
    have := h.set (u := u) (l := l) q
    rw [List.set_cons_succ, idsTs, idsTs, h, h]
    omega
theorem Adds.change (h : Adds m) {F : Tree → Tree} {y : Tree} : ∀ {p : List Int} {t : Tree}, atT t p = some y → m (idsT (changeT F t p)) + m (idsT y) = m (idsT t) + m (idsT (F y))
  | [], t, q => by
    rw [atT] at q
    injection q with q
    subst q
    rw [changeT]
    omega
  | i :: p, t, q => by
    rw [atT] at q
    cases hs : subT t i with
    | none => rw [hs] at q; cases q
    | some s =>
      rw [hs] at q
      have ih := h.change (F := F) (p := p) q
      rw [changeT, hs]
      simp only
      have h1 := h.set (u := changeT F s p) (subT_some hs).2.1
      have h2 := h.subs t (t.subs.set i.toNat (changeT F s p))
      omega
theorem Adds.ins (h : Adds m) (n : Int) (x y : Tree) : m (idsT (insT n x y)) = m (idsT y) + m (idsT x) := by
  have h1 := h.subs y (y.subs.take n.toNat ++ x :: y.subs.drop n.toNat)
  have h2 : m (idsTs (y.subs.take n.toNat ++ x :: y.subs.drop n.toNat)) = m (idsTs y.subs) + m (idsT x) := by
    conv => rhs; rw [← List.take_append_drop n.toNat y.subs]
    rw [idsTs_append, idsTs_append, idsTs, h, h, h]
    omega
  unfold insT
  omega
theorem Adds.del (h : Adds m) {y x : Tree} {i : Int} (q : y.subs[i.toNat]? = some x) : m (idsT (delT i y)) + m (idsT x) = m (idsT y) := by
  have h1 := h.subs y (y.subs.take i.toNat ++ y.subs.drop (i.toNat + 1))
  have h2 : m (idsTs (y.subs.take i.toNat ++ y.subs.drop (i.toNat + 1))) + m (idsT x) = m (idsTs y.subs) := by
    have hl := lt_of_get q
    conv => rhs; rw [← List.take_append_drop i.toNat y.subs]
    rw [idsTs_append, idsTs_append, List.drop_eq_getElem_cons hl, idsTs, h, h, h]
    have : y.subs[i.toNat] = x := by rw [List.getElem?_eq_getElem hl] at q; injection q
    rw [this]
    omega
  unfold delT
  omega
theorem Adds.without (h : Adds m) {t x : Tree} {p : List Int} (hne : p ≠ []) (hx : atT t p = some x) : m (idsT (withoutT t p)) + m (idsT x) = m (idsT t) := by
  obtain ⟨y, y1, y2, y3, y4⟩ := at_parent hne hx
  rw [lastP_eq hne] at y4
  have h1 := h.change (F := delT (lastP p)) y1
  have h2 := h.del y4
  unfold withoutT
  omega
theorem Adds.same (h : Adds m) {F : Tree → Tree} {y t : Tree} {p : List Int} (hF : ∀ y, idsT (F y) = idsT y) (hy : atT t p = some y) : m (idsT (changeT F t p)) = m (idsT t) := by
  have := h.change (F := F) hy
  rw [hF] at this
  omega
theorem ids_fresh (o : OpT) : idsT (freshT o) = [o.id] := by rw [idsT_eq]; rfl
/-- What an operation takes away. -/
def goneT (t : Tree) (o : OpT) : List Int := bif decide (o.kind = 2) then (match atT t o.path with | some x => idsT x | none => []) else []
def moreT (o : OpT) : List Int := bif decide (o.kind = 1) then [o.id] else []
theorem Adds.apply (h : Adds m) {t : Tree} {o : OpT} (hv : ValidE t o = 0) : m (idsT (applyT t o)) + m (goneT t o) = m (idsT t) + m (moreT o) := by
  have h0 := h.nil
  cases good_of hv with
  | ins y hk hy hl h0 h1 h2 =>
    have e : applyT t o = changeT (insT o.at_ (freshT o)) t o.path := by unfold applyT; rw [hk]; rfl
    have e1 : goneT t o = [] := by unfold goneT; rw [hk]; rfl
    have e2 : moreT o = [o.id] := by unfold moreT; rw [hk]; rfl
    have q1 := h.change (F := insT o.at_ (freshT o)) hy
    have q2 := h.ins o.at_ (freshT o) y
    rw [ids_fresh] at q2
    rw [e, e1, e2]
    omega
  | del x hk hne hx =>
    have e : applyT t o = withoutT t o.path := by unfold applyT; rw [hk]; rfl
    have e1 : goneT t o = idsT x := by unfold goneT; rw [hk, hx]; rfl
    have e2 : moreT o = [] := by unfold moreT; rw [hk]; rfl
    have q1 := h.without hne hx
    rw [e, e1, e2]
    omega
  | mov x z hk hne hx hw hz hl h0 h1 =>
    have e : applyT t o = moveT x t o := by unfold applyT; rw [hk, hx]; rfl
    have e1 : goneT t o = [] := by unfold goneT; rw [hk]; rfl
    have e2 : moreT o = [] := by unfold moreT; rw [hk]; rfl
    obtain ⟨z', k1, k2, k3, k4, k5⟩ := land_of hne hx hw hz h0 h1
    have q1 := h.without hne hx
    have q2 := h.change (F := insT (landT o.path.dropLast (lastP o.path) o.to o.at_).2 x) k1
    have q3 := h.ins (landT o.path.dropLast (lastP o.path) o.to o.at_).2 x z'
    rw [e, e1, e2, moveT_eq]
    omega
  | att y hk hy h1 h2 =>
    have e : applyT t o = changeT (setAT o) t o.path := by unfold applyT; rw [hk]; rfl
    have e1 : goneT t o = [] := by unfold goneT; rw [hk]; rfl
    have e2 : moreT o = [] := by unfold moreT; rw [hk]; rfl
    rw [e, e1, e2, h.same (fun y => by cases y; rfl) hy]
  | lab y hk hy h2 =>
    have e : applyT t o = changeT (relabelT o.label) t o.path := by unfold applyT; rw [hk]; rfl
    have e1 : goneT t o = [] := by unfold goneT; rw [hk]; rfl
    have e2 : moreT o = [] := by unfold moreT; rw [hk]; rfl
    rw [e, e1, e2, h.same (fun y => by cases y; rfl) hy]
  | edt y hk hy hl he =>
    have e : applyT t o = changeT (retextT o.pieces) t o.path := by unfold applyT; rw [hk]; rfl
    have e1 : goneT t o = [] := by unfold goneT; rw [hk]; rfl
    have e2 : moreT o = [] := by unfold moreT; rw [hk]; rfl
    rw [e, e1, e2, h.same (fun y => by cases y; rfl) hy]
end
end Bow
/- W39: the reference's Same, IDs. -/
namespace Bow
open Go Go.Proofs

theorem attrs_take {α : Type} {xs ys : List α} {i : Nat} (h1 : i < xs.length) (h2 : i < ys.length) : (xs.drop i = ys.drop i) = (xs[i] = ys[i] ∧ xs.drop (i + 1) = ys.drop (i + 1)) := by
  rw [List.drop_eq_getElem_cons h1, List.drop_eq_getElem_cons h2, List.cons.injEq]

theorem idsTs_drop {ss : List Tree} {i : Nat} (h : i < ss.length) : idsTs (ss.drop i) = idsT ss[i] ++ idsTs (ss.drop (i + 1)) := by
  rw [List.drop_eq_getElem_cons h, idsTs]
def idV (i : Int) : V := .int .u64 i
def idsV (l : List Int) : V := .sl 1 (l.map idV)
end Bow
/- SP17: a list of operations, in plain Lean. -/
namespace Bow
open Go

def zeroT0 : Tree := .mk 0 false [] [] [] []
def allR : Tree → List OpT → Nat → Tree × Nat × Int
  | t, [], i => (t, i, 0)
  | t, o :: l, i => bif decide (ValidE t o = 0) then allR (applyT t o) l (i + 1) else (zeroT0, i, ValidE t o)
def AllR (t : Tree) (l : List OpT) : Tree × Nat × Int := bif rightT t then allR t l 0 else (zeroT0, 0, 2)
def costs : List OpT → Nat
  | [] => 0
  | o :: l => costO o + costs l
theorem zero_weight : zeroT0.weight = 1 := by
  have := weight_eq zeroT0
  simp [attrLen, weights, Tree.label, Tree.text, Tree.attrs, Tree.subs, zeroT0] at this
  exact this
theorem weight_pos (t : Tree) : 1 ≤ t.weight := by rw [weight_eq]; omega
theorem allR_weight : ∀ (l : List OpT) (t : Tree) (i : Nat), (allR t l i).1.weight ≤ t.weight + costs l
  | [], t, i => by rw [allR, costs]; simp
  | o :: l, t, i => by
    rw [allR, costs]
    by_cases h : ValidE t o = 0
    · rw [decide_eq_true h]
      have := allR_weight l (applyT t o) (i + 1)
      have := applyT_weight h
      simp only [cond_true]
      omega
    · rw [decide_eq_false h]
      have := zero_weight
      have := weight_pos t
      simp only [cond_false]
      omega
theorem AllR_weight (t : Tree) (l : List OpT) : (AllR t l).1.weight ≤ t.weight + costs l := by
  unfold AllR
  cases rightT t with
  | true => exact allR_weight l t 0
  | false =>
    have := zero_weight
    have := weight_pos t
    simp only [cond_false]
    omega
theorem valid_of_right {t : Tree} (h : rightT t = true) (o : OpT) : ValidE t o = bif !formedB o then 80 else validE t o := by
  unfold ValidE
  rw [h]
  rfl
theorem costs_le {n k : Nat} : ∀ {l : List OpT}, l.length ≤ k → (∀ o ∈ l, costO o ≤ n) → costs l ≤ k * n
  | [], _, _ => Nat.zero_le _
  | o :: l, hk, h => by
    obtain ⟨k', rfl⟩ : ∃ k', k = k' + 1 := ⟨k - 1, by simp at hk; omega⟩
    have := costs_le (n := n) (k := k') (l := l) (by simpa using hk) fun o' ho => h o' (List.mem_cons_of_mem _ ho)
    have := h o List.mem_cons_self
    rw [costs, Nat.succ_mul]
    omega
end Bow
/- W43a: ApplyAll, the program's and the reference's. -/
namespace Bow
open Go Go.Proofs

def AllV (r : Tree × Nat × Int) : V := .tup [nodeV r.1, .int .i64 r.2.1, .int .i64 r.2.2]
theorem allZ (i : Nat) (e : Int) : ∃ y, Wk (.tup [zeroV .nilsl, .int .i64 i, .int .i64 e]) y ∧ y.pureB = true ∧ y = AllV (zeroT0, i, e) :=
  ⟨_, Wk.tup (ys := [nodeV zeroT0, .int .i64 i, .int .i64 e]) ⟨wk_zero (ss := []) (Wk.nil 6), .refl _, .refl _, trivial⟩, rfl, rfl⟩

end Bow
/- W49: where nodes are behind an operation: shift.moves, of, number, land. -/
namespace Bow
open Go Go.Proofs

set_option maxRecDepth 100000 in
theorem w_moves (o : OpT) (ho : o.Ok) : Pure Try.prog 93 [opV o] (fun x => x = .bool (movesO o)) := by
  refine pure_wk (pure_fn 300 Try.func93 rfl rfl rfl fun B => ?_)
  show CallThen _ _ _ _ _ _
  refine call_pure (w_Formed o ho.lt ho.each) rfl ?_
  rintro x rfl
  have hW := w_pathWithin o.path o.to ho.lt.path
  repeat' first
    | (refine ⟨fun _ => go 300 ?_, fun _ => go 300 ?_⟩)
    | (show CallThen _ _ _ _ _ _; refine call_pure hW rfl ?_; rintro z rfl)
    | (refine ⟨trivial, rfl, rfl, rfl, leaf_tt ?_⟩)
    | (refine ⟨trivial, rfl, rfl, rfl, leaf_ff ?_⟩)
    | (refine ⟨trivial, rfl, rfl, rfl, leaf_b ?_⟩)
    | fail
  all_goals (clear hW; simp_all [movesO])

theorem moves_ne {o : OpT} (h : movesO o = true) : o.kind ≠ 1 → o.path ≠ [] := fun hk e => by
  unfold movesO at h
  rw [e, decide_eq_false hk] at h
  simp at h
theorem leaf_i {n m : Int} (h : n = m) : V.int .i64 n = V.int .i64 m := by rw [h]
def chgV (c : Chg) : V := .agg [.bool c.takes, .bool c.puts, pathV c.frm, pathV c.to, .int .i64 c.at_, .int .i64 c.gap]
set_option maxRecDepth 100000 in
theorem w_chgOf (o : OpT) (ho : o.Ok) (hne : o.kind ≠ 1 → o.path ≠ []) : Pure Try.prog 95 [opV o] (fun x => x = chgV (chgO o)) := by
  refine pure_wk (pure_fn 300 Try.func95 rfl rfl rfl fun B => ?_)
  refine ⟨fun g1 => go 300 ?_, fun g1 => go 300 ?_⟩
  · have hk : o.kind = 1 := eq_of g1
    refine ⟨fun q => absurd hk (ne_of' q), fun _ => go 300 ?_⟩
    have e : chgO o = ⟨!decide (o.kind = 1), !decide (o.kind = 2), [], o.path, 0, o.at_⟩ := by unfold chgO; simp [hk]
    rw [e]
    exact ⟨trivial, rfl, rfl, rfl, chgV ⟨!decide (o.kind = 1), !decide (o.kind = 2), [], o.path, 0, o.at_⟩, Wk.agg ⟨.refl _, .refl _, Wk.nil 1, .refl _, .refl _, .refl _, trivial⟩, rfl, rfl⟩
  · have hk : o.kind ≠ 1 := ne_of g1
    refine ⟨fun _ => go 300 ?_, fun q => absurd (eq_of' q) hk⟩
    show CallThen _ _ _ _ _ _
    refine call_pure (w_Parent o.path ho.lt.path (hne hk)) rfl ?_
    rintro x rfl
    have e : chgO o = ⟨!decide (o.kind = 1), !decide (o.kind = 2), o.path.dropLast, o.to, o.path.getLast (hne hk), o.at_⟩ := by unfold chgO; rw [lastP_eq]; simp [hk]
    rw [e]
    exact ⟨trivial, rfl, rfl, rfl, _, Wk.refl _, rfl, rfl⟩

set_option maxRecDepth 100000 in
theorem w_number (c : Chg) (p : List Int) (k : Int) (hp : p.length ≤ 1000000) (hk : -1 ≤ k ∧ k ≤ 10000000) : Pure Try.prog 97 [chgV c, pathV p, .int .i64 k] (fun x => x = .int .i64 (c.number p k)) := by
  refine pure_fn 300 Try.func97 rfl rfl rfl fun B => ?_
  have h1 := w_pathSame p c.frm hp
  have h2 := w_pathSame p c.to hp
  repeat' first
    | (refine ⟨fun _ => go 300 ?_, fun _ => go 300 ?_⟩)
    | (show CallThen _ _ _ _ _ _; refine call_pure h1 rfl ?_; rintro z rfl)
    | (show CallThen _ _ _ _ _ _; refine call_pure h2 rfl ?_; rintro z rfl)
    | (refine ⟨trivial, rfl, rfl, rfl, leaf_i ?_⟩)
    | (refine ⟨by constructor <;> omega, ?_⟩)
    | fail
  all_goals (unfold Chg.number; try simp_all)
  all_goals (first | (simp [show ¬ (c.gap ≤ k) by omega, show ¬ (c.at_ < k) by omega]; done) | (simp [show ¬ (c.gap ≤ k) by omega]; done) | (simp [show ¬ (c.at_ < k) by omega]; done))

set_option maxRecDepth 100000 in
theorem w_land (c : Chg) (hp : c.frm.length ≤ 1000000) (hk : -1 ≤ c.gap ∧ c.gap ≤ 10000000) : Pure Try.prog 96 [chgV c] (fun x => x = .int .i64 c.land) := by
  refine pure_fn 300 Try.func96 rfl rfl rfl fun B => ?_
  have h1 := w_pathSame c.frm c.to hp
  repeat' first
    | (refine ⟨fun _ => go 300 ?_, fun _ => go 300 ?_⟩)
    | (show CallThen _ _ _ _ _ _; refine call_pure h1 rfl ?_; rintro z rfl)
    | (refine ⟨trivial, rfl, rfl, rfl, leaf_i ?_⟩)
    | (refine ⟨by constructor <;> omega, ?_⟩)
    | fail
  all_goals (unfold Chg.land; try simp_all)
  all_goals (simp [show ¬ (c.at_ < c.gap) by omega]; done)
end Bow
/- W50: where a node is behind an operation: shift.Node. -/
namespace Bow
open Go Go.Proofs

/-- What Node hands back: nil; or own memory, ahead of it the boxes that it made. -/
def NodeS (o : OpT) (q : List Int) (x : V) (T : Heap) : Prop :=
  (q = [] ∧ x = .tup [.nilsl, .tt] ∧ T = [some (.box (opV o).cells)]) ∨ (∃ g, x = .tup [.osl (.loc 1) g 0 q.length, .tt] ∧ T = [some (.box (opV o).cells), some (.vec g 1 (q.map intV))])
def NodeM (o : OpT) (q : List Int) (x : V) (T : Heap) : Prop :=
  ∃ g, x = .tup [.osl (.loc 2) g 0 q.length, .tt] ∧ T = [some (.box (opV o).cells), some (.box (chgV (chgO o)).cells), some (.vec g 1 (q.map intV))]
theorem nums_snoc (c : Chg) : ∀ (p q : List Int) (k : Int), c.nums q (p ++ [k]) = c.nums q p ++ [c.number (q ++ p) k]
  | [], q, k => by simp [Chg.nums]
  | x :: p, q, k => by
    rw [List.cons_append, Chg.nums, nums_snoc c p, Chg.nums]
    simp
theorem nums_len (c : Chg) : ∀ (p q : List Int), (c.nums q p).length = p.length
  | [], _ => rfl
  | x :: p, q => by rw [Chg.nums, List.length_cons, nums_len c p, List.length_cons]
theorem nums_take (c : Chg) {p : List Int} {i : Nat} (h : i < p.length) : c.nums [] (p.take (i + 1)) = c.nums [] (p.take i) ++ [c.number (p.take i) p[i]] := by
  rw [List.take_succ_eq_append_getElem h, nums_snoc]
  simp

set_option maxRecDepth 100000 in
/-- Where nothing moves. -/
theorem w_NodeStay (o : OpT) (p : List Int) (ho : o.Ok) (hp : p.length ≤ 1000000) (hm : movesO o = false) :
    Fun Try.prog 64 [] [opV o, pathV p] (NodeS o p) := by
  refine fun_fn 300 Try.func64 rfl rfl rfl fun imps B hi => ?_
  have : imps = [] := List.length_eq_zero_iff.1 hi
  subst this
  show CallThen _ _ _ _ _ _
  refine call_pure (w_moves o ho) rfl ?_
  rintro x rfl
  refine ⟨fun g1 => go 300 ?_, fun g1 => absurd hm (by simpa using g1)⟩
  show CallThen _ _ _ _ _ _
  refine call_sub [] (w_CloneInt (p.map intV) (by simpa using hp)) rfl rfl trivial rfl rfl rfl ?_
  rintro x T1 (⟨e, rfl, rfl⟩ | ⟨rfl, rfl⟩)
  · refine ⟨rfl, ?_⟩
    refine ⟨trivial, rfl, rfl, .inl ⟨by simpa using e, rfl, rfl⟩⟩
  · refine ⟨rfl, ?_⟩
    refine ⟨trivial, rfl, rfl, .inr ⟨2, by simp [resV]; rfl, rfl⟩⟩

set_option maxHeartbeats 2000000 in
set_option maxRecDepth 100000 in
/-- Of a node that is not taken. -/
theorem w_Node0 (o : OpT) (p : List Int) (ho : o.Ok) (hp : p.length ≤ 1000000) (hpb : ∀ i ∈ p, 0 ≤ i ∧ i ≤ 1048576) (hm : movesO o = true) (hb : ((chgO o).takes && within o.path p) = false) :
    Fun Try.prog 64 [] [opV o, pathV p] (NodeM o ((chgO o).nums [] p)) := by
  refine fun_fn 300 Try.func64 rfl rfl rfl fun imps B hi => ?_
  have : imps = [] := List.length_eq_zero_iff.1 hi
  subst this
  show CallThen _ _ _ _ _ _
  refine call_pure (w_moves o ho) rfl ?_
  rintro x rfl
  refine ⟨fun g1 => absurd hm (by simpa using g1), fun g1 => go 300 ?_⟩
  have hne : o.kind ≠ 1 → o.path ≠ [] := moves_ne hm
  unfold NodeM
  show CallThen _ _ _ _ _ _
  refine call_pure (w_chgOf o ho hne) rfl ?_
  rintro x rfl
  obtain ⟨c, hc⟩ : ∃ c, chgO o = c := ⟨_, rfl⟩
  rw [hc] at hb ⊢
  rcases Bool.eq_false_or_eq_true c.takes with ht | ht
  · rw [ht, Bool.true_and] at hb
    refine ⟨fun _ => go 300 ?_, fun q => absurd (ht.symm.trans q) (by decide)⟩
    show CallThen _ _ _ _ _ _
    refine call_pure (w_pathWithin o.path p ho.lt.path) rfl ?_
    rintro x rfl
    refine ⟨fun q => absurd (hb.symm.trans q) (by decide), fun _ => go 300 ?_⟩
    show Goes _ _ _ _
    refine goes_own 7 1 rfl ?_
    refine goes_while (ι := Nat × Nat × Nat × List V) (κ := Nat × Nat × List V) (fun i => i.1 ≤ p.length ∧ i.2.2.2 = (c.nums [] (p.take i.1)).map intV ∧ i.2.2.1 = i.1) (fun i => p.length - i.1)
      (fun i => [(9, .int .i64 i.1), (8, .int .i64 0), (7, .osl (.loc 2) i.2.1 0 i.2.2.1), (6, .ptr (.loc 1) 0), (1, pathV p), (2, .ptr (.loc 0) 0)]) (fun i => [some (.box (opV o).cells), some (.box (chgV c).cells), some (.vec i.2.1 1 i.2.2.2)]) (0, 0, 0, [])
      (fun k => k.2.1 = p.length ∧ k.2.2 = (c.nums [] p).map intV) (fun k => [(7, .osl (.loc 2) k.1 0 k.2.1)]) (fun k => [some (.box (opV o).cells), some (.box (chgV c).cells), some (.vec k.1 1 k.2.2)]) 300 (fun _ => rfl) (fun _ => rfl) (fun _ => rfl) (fun _ => rfl) ⟨⟨Nat.zero_le _, rfl, rfl⟩, ⟨⟨rfl, rfl⟩, ⟨rfl, rfl⟩, ⟨rfl, rfl⟩, ⟨rfl, rfl⟩, ⟨rfl, rfl⟩, ⟨rfl, rfl⟩, trivial⟩, ⟨⟨rfl, rfl⟩, ⟨rfl, rfl⟩, ⟨rfl, rfl⟩, trivial⟩⟩ ?_ ?_
    · rintro ⟨g, n, xs⟩ ⟨j1, j2⟩
      simp only at j1 j2
      subst j1 j2
      refine ⟨trivial, rfl, rfl, g, ?_, rfl⟩
      simp [resV, nums_len]
    · rintro ⟨i, g, n, xs⟩ ⟨j1, j2, j3⟩ next post
      simp only at j1 j2 j3
      subst j2
      replace j3 := j3.symm
      subst j3
      refine ⟨fun hlt => go 300 ?_, fun hge => go 300 ?_⟩
      · have hi : i < p.length := by simpa using hlt
        have hx : (p.map intV)[i]? = some (intV p[i]) := by simp [hi]
        have hbd := hpb _ (List.getElem_mem hi)
        have hnum := w_number c (p.take i) p[i] (by simp; omega) ⟨by omega, by omega⟩
        have et : V.sl 1 (((p.map intV).drop (Int.toNat 0)).take (((i : Nat) : Int).toNat - Int.toNat 0)) = pathV (p.take i) := by
          unfold pathV
          simp
        refine ⟨fun q => absurd (lt_of q) (by omega), fun _ => go 300 ?_⟩
        show Goes _ _ _ _
        refine goes_draw 300 ?_
        refine ⟨by decide, Int.natCast_nonneg i, Int.ofNat_le.2 (by simpa using j1), ?_⟩
        refine ⟨Int.natCast_nonneg i, _, hx, ?_⟩
        have hnum' := hnum
        rw [← et] at hnum'
        refine ⟨_, hnum', rfl, ?_⟩
        have hcl : (c.nums [] (p.take i)).length = i := by rw [nums_len]; simp; omega
        refine ⟨rfl, ⟨rfl, trivial⟩, ?_⟩
        refine ⟨rfl, rfl, rfl, rfl, by simp [hcl], room_of (by simp [hcl]; omega) (by decide), ?_⟩
        refine ⟨by kernel_rfl, ?_⟩
        try refine ⟨by kernel_rfl, ?_⟩
        refine ⟨⟨by omega, by omega⟩, ?_⟩
        refine next (i + 1, bump g, i + 1, (c.nums [] (p.take i)).map intV ++ [intV (c.number (p.take i) p[i])]) _ _ ⟨⟨hi, ?_, rfl⟩, ?_, ?_, ?_⟩
        · simp only
          rw [nums_take c hi, List.map_append]
          rfl
        · simp only; omega
        · refine ⟨⟨rfl, rfl⟩, ⟨rfl, rfl⟩, ⟨?_, rfl⟩, ⟨rfl, rfl⟩, ⟨rfl, rfl⟩, ⟨rfl, rfl⟩, trivial⟩
          simp [hcl]
          rfl
        · refine ⟨⟨rfl, rfl⟩, ⟨rfl, rfl⟩, ⟨?_, rfl⟩, trivial⟩
          rfl
      · have hi : i = p.length := by have : p.length ≤ i := by simpa using hge
                                     omega
        subst hi
        rw [List.take_length]
        exact post (g, _, _) _ _ _ rfl ⟨⟨rfl, rfl⟩, ⟨⟨rfl, rfl⟩, trivial⟩, ⟨⟨rfl, rfl⟩, ⟨rfl, rfl⟩, ⟨rfl, rfl⟩, trivial⟩⟩
  · refine ⟨fun q => absurd (ht.symm.trans q) (by decide), fun _ => go 300 ?_⟩
    show Goes _ _ _ _
    refine goes_own 7 1 rfl ?_
    refine goes_while (ι := Nat × Nat × Nat × List V) (κ := Nat × Nat × List V) (fun i => i.1 ≤ p.length ∧ i.2.2.2 = (c.nums [] (p.take i.1)).map intV ∧ i.2.2.1 = i.1) (fun i => p.length - i.1)
      (fun i => [(9, .int .i64 i.1), (8, .int .i64 0), (7, .osl (.loc 2) i.2.1 0 i.2.2.1), (6, .ptr (.loc 1) 0), (1, pathV p), (2, .ptr (.loc 0) 0)]) (fun i => [some (.box (opV o).cells), some (.box (chgV c).cells), some (.vec i.2.1 1 i.2.2.2)]) (0, 0, 0, [])
      (fun k => k.2.1 = p.length ∧ k.2.2 = (c.nums [] p).map intV) (fun k => [(7, .osl (.loc 2) k.1 0 k.2.1)]) (fun k => [some (.box (opV o).cells), some (.box (chgV c).cells), some (.vec k.1 1 k.2.2)]) 300 (fun _ => rfl) (fun _ => rfl) (fun _ => rfl) (fun _ => rfl) ⟨⟨Nat.zero_le _, rfl, rfl⟩, ⟨⟨rfl, rfl⟩, ⟨rfl, rfl⟩, ⟨rfl, rfl⟩, ⟨rfl, rfl⟩, ⟨rfl, rfl⟩, ⟨rfl, rfl⟩, trivial⟩, ⟨⟨rfl, rfl⟩, ⟨rfl, rfl⟩, ⟨rfl, rfl⟩, trivial⟩⟩ ?_ ?_
    · rintro ⟨g, n, xs⟩ ⟨j1, j2⟩
      simp only at j1 j2
      subst j1 j2
      refine ⟨trivial, rfl, rfl, g, ?_, rfl⟩
      simp [resV, nums_len]
    · rintro ⟨i, g, n, xs⟩ ⟨j1, j2, j3⟩ next post
      simp only at j1 j2 j3
      subst j2
      replace j3 := j3.symm
      subst j3
      refine ⟨fun hlt => go 300 ?_, fun hge => go 300 ?_⟩
      · have hi : i < p.length := by simpa using hlt
        have hx : (p.map intV)[i]? = some (intV p[i]) := by simp [hi]
        have hbd := hpb _ (List.getElem_mem hi)
        have hnum := w_number c (p.take i) p[i] (by simp; omega) ⟨by omega, by omega⟩
        have et : V.sl 1 (((p.map intV).drop (Int.toNat 0)).take (((i : Nat) : Int).toNat - Int.toNat 0)) = pathV (p.take i) := by
          unfold pathV
          simp
        refine ⟨fun q => absurd (lt_of q) (by omega), fun _ => go 300 ?_⟩
        show Goes _ _ _ _
        refine goes_draw 300 ?_
        refine ⟨by decide, Int.natCast_nonneg i, Int.ofNat_le.2 (by simpa using j1), ?_⟩
        refine ⟨Int.natCast_nonneg i, _, hx, ?_⟩
        have hnum' := hnum
        rw [← et] at hnum'
        refine ⟨_, hnum', rfl, ?_⟩
        have hcl : (c.nums [] (p.take i)).length = i := by rw [nums_len]; simp; omega
        refine ⟨rfl, ⟨rfl, trivial⟩, ?_⟩
        refine ⟨rfl, rfl, rfl, rfl, by simp [hcl], room_of (by simp [hcl]; omega) (by decide), ?_⟩
        refine ⟨by kernel_rfl, ?_⟩
        try refine ⟨by kernel_rfl, ?_⟩
        refine ⟨⟨by omega, by omega⟩, ?_⟩
        refine next (i + 1, bump g, i + 1, (c.nums [] (p.take i)).map intV ++ [intV (c.number (p.take i) p[i])]) _ _ ⟨⟨hi, ?_, rfl⟩, ?_, ?_, ?_⟩
        · simp only
          rw [nums_take c hi, List.map_append]
          rfl
        · simp only; omega
        · refine ⟨⟨rfl, rfl⟩, ⟨rfl, rfl⟩, ⟨?_, rfl⟩, ⟨rfl, rfl⟩, ⟨rfl, rfl⟩, ⟨rfl, rfl⟩, trivial⟩
          simp [hcl]
          rfl
        · refine ⟨⟨rfl, rfl⟩, ⟨rfl, rfl⟩, ⟨?_, rfl⟩, trivial⟩
          rfl
      · have hi : i = p.length := by have : p.length ≤ i := by simpa using hge
                                     omega
        subst hi
        rw [List.take_length]
        exact post (g, _, _) _ _ _ rfl ⟨⟨rfl, rfl⟩, ⟨⟨rfl, rfl⟩, trivial⟩, ⟨⟨rfl, rfl⟩, ⟨rfl, rfl⟩, ⟨rfl, rfl⟩, trivial⟩⟩
end Bow
/- W51: shift.Node, all; Gap; Undo. -/
namespace Bow
open Go Go.Proofs

theorem moves_parts {o : OpT} (h : movesO o = true) : formedB o = true ∧ (o.kind = 1 ∨ (o.kind = 2 ∧ o.path ≠ []) ∨ (o.kind = 3 ∧ o.path ≠ [] ∧ within o.path o.to = false)) := by
  have hne := moves_ne h
  unfold movesO at h
  rw [Bool.and_eq_true] at h
  refine ⟨h.1, ?_⟩
  have h2 := h.2
  by_cases k1 : o.kind = 1
  · exact .inl k1
  · by_cases k2 : o.kind = 2
    · exact .inr (.inl ⟨k2, hne k1⟩)
    · rw [decide_eq_false k1, decide_eq_false k2] at h2
      by_cases k3 : o.kind = 3
      · rw [decide_eq_true k3] at h2
        simp only [cond_false, cond_true, Bool.and_eq_true, Bool.not_eq_true'] at h2
        exact .inr (.inr ⟨k3, hne k1, h2.2⟩)
      · rw [decide_eq_false k3] at h2
        cases h2
theorem may_len {p : List Int} (h : mayP p = true) : p.length ≤ 64 := by
  unfold mayP at h
  rw [Bool.and_eq_true] at h
  exact of_decide_eq_true h.1
theorem formed_gap {o : OpT} (hf : formedB o = true) (hk : o.kind = 1 ∨ o.kind = 3) : 0 ≤ o.at_ ∧ o.at_ ≤ 1048576 := by
  unfold formedB at hf
  rw [Bool.and_eq_true] at hf
  have hf2 := hf.2
  rcases hk with hk | hk
  · simp only [hk] at hf2
    have hf3 : (gapOk o.at_ && decide ((o.label.length : Int) ≤ 64)) = true := hf2
    unfold gapOk at hf3
    simp only [Bool.and_eq_true, decide_eq_true_eq] at hf3
    exact hf3.1
  · simp only [hk] at hf2
    have hf3 : (gapOk o.at_ && mayP o.to) = true := hf2
    unfold gapOk at hf3
    simp only [Bool.and_eq_true, decide_eq_true_eq] at hf3
    exact hf3.1

def nodeRV : Option (List Int) → V
  | none => .tup [pathV [], .ff]
  | some q => .tup [pathV q, .tt]

set_option maxHeartbeats 4000000 in
set_option maxRecDepth 100000 in
/-- Of a node that is taken. -/
theorem w_NodeT (o : OpT) (p : List Int) (ho : o.Ok) (hp : p.length ≤ 1000) (_hpb : ∀ i ∈ p, 0 ≤ i ∧ i ≤ 1048576) (hm : movesO o = true) (hb : ((chgO o).takes && within o.path p) = true) :
    Pure Try.prog 64 [opV o, pathV p] (fun x => x = nodeRV (nodeP o p)) := by
  simp only [Bool.and_eq_true] at hb
  obtain ⟨ht, hwi⟩ := hb
  obtain ⟨hf, hkk⟩ := moves_parts hm
  have hpl := may_step (formed_path hf)
  have hwl := within_len hwi
  refine pure_wk (pure_fn 300 Try.func64 rfl rfl rfl fun B => ?_)
  show CallThen _ _ _ _ _ _
  refine call_pure (w_moves o ho) rfl ?_
  rintro x rfl
  refine ⟨fun g1 => absurd hm (by simpa using g1), fun g1 => go 300 ?_⟩
  show CallThen _ _ _ _ _ _
  refine call_pure (w_chgOf o ho (moves_ne hm)) rfl ?_
  rintro x rfl
  refine ⟨fun _ => go 300 ?_, fun q => absurd (ht.symm.trans q) (by decide)⟩
  show CallThen _ _ _ _ _ _
  refine call_pure (w_pathWithin o.path p ho.lt.path) rfl ?_
  rintro x rfl
  refine ⟨fun _ => go 300 ?_, fun q => absurd (hwi.symm.trans q) (by decide)⟩
  rcases Bool.eq_false_or_eq_true (chgO o).puts with hq | hq
  case inr =>
    have e : nodeP o p = none := by unfold nodeP; rw [hm, ht, hwi, hq]; rfl
    rw [e]
    refine ⟨fun _ => go 300 ?_, fun q => absurd q (by rw [hq]; simp)⟩
    exact ⟨trivial, rfl, rfl, rfl, nodeRV none, Wk.tup ⟨Wk.nil 1, .refl _, trivial⟩, rfl, rfl⟩
  have e : nodeP o p = some ((chgO o).nums [] o.to ++ [(chgO o).land] ++ p.drop o.path.length) := by unfold nodeP; rw [hm, ht, hwi, hq]; rfl
  rw [e]
  refine ⟨fun q => absurd q (by rw [hq]; simp), fun _ => go 300 ?_⟩
  have hk3 : o.kind = 3 ∧ o.path ≠ [] ∧ within o.path o.to = false := by
    rcases hkk with k | ⟨k, _⟩ | h
    · unfold chgO at ht; simp [k] at ht
    · unfold chgO at hq; simp [k] at hq
    · exact h
  obtain ⟨hk3, hne, hwt⟩ := hk3
  have htl := may_step (good_to hf hk3)
  have htn : o.to.length ≤ 64 := may_len (good_to hf hk3)
  have hgap := formed_gap hf (.inr hk3)
  have hrec := w_Node0 o o.to ho (by omega) htl hm (by rw [hwt]; simp)
  have hpos : 0 < o.path.length := List.length_pos_iff.2 hne
  have hcf : (chgO o).frm.length ≤ 1000000 := by unfold chgO; simp [hk3]; have := ho.lt.path; omega
  have hcg : (chgO o).gap = o.at_ := rfl
  have hland := w_land (chgO o) hcf ⟨by rw [hcg]; omega, by rw [hcg]; omega⟩
  unfold NodeM at hrec
  obtain ⟨c, hc⟩ : ∃ c, chgO o = c := ⟨_, rfl⟩
  rw [hc] at hrec hland ⊢
  show CallThen _ _ _ _ _ _
  refine call_sub [] hrec rfl rfl trivial rfl rfl rfl ?_
  rintro x T1 ⟨G, rfl, rfl⟩
  refine ⟨rfl, ?_⟩
  show CallThen _ _ _ _ _ _
  refine call_pure hland rfl ?_
  rintro x rfl
  refine ⟨⟨rfl, trivial⟩, rfl, rfl, rfl, by simp, room_of (by simp [nums_len]; omega) (by decide), ?_⟩
  show Goes _ _ _ _
  refine goes_while (ι := Nat × Nat × Nat × List V) (κ := Nat × Nat × List V) (fun i => o.path.length ≤ i.1 ∧ i.1 ≤ p.length ∧ ∃ acc : List Int, i.2.2.2 = acc.map intV ∧ i.2.2.1 = acc.length ∧ acc.length ≤ 1000 + i.1 ∧ acc ++ p.drop i.1 = c.nums [] o.to ++ [c.land] ++ p.drop o.path.length) (fun i => p.length - i.1)
    (fun i => [(9, .int .i64 i.1), (8, .int .i64 (o.path.map intV).length), (7, .osl (.loc 4) i.2.1 0 i.2.2.1), (6, .ptr (.loc 1) 0), (1, pathV p), (2, .ptr (.loc 0) 0)]) (fun i => [some (.box (opV o).cells), some (.box (chgV c).cells), some (.box (opV o).cells), some (.box (chgV c).cells), some (.vec i.2.1 1 i.2.2.2)]) ((o.path.map intV).length, bump G, _, _)
    (fun k => ∃ acc : List Int, k.2.2 = acc.map intV ∧ k.2.1 = acc.length ∧ acc = c.nums [] o.to ++ [c.land] ++ p.drop o.path.length) (fun k => [(7, .osl (.loc 4) k.1 0 k.2.1)]) (fun k => [some (.box (opV o).cells), some (.box (chgV c).cells), some (.box (opV o).cells), some (.box (chgV c).cells), some (.vec k.1 1 k.2.2)]) 300 (fun _ => rfl) (fun _ => rfl) (fun _ => rfl) (fun _ => rfl) ⟨⟨by simp, by simpa using hwl, c.nums [] o.to ++ [c.land], by simp [intV], by simp, by simp [nums_len]; omega, by simp⟩, ⟨⟨rfl, rfl⟩, ⟨rfl, rfl⟩, ⟨rfl, rfl⟩, ⟨rfl, rfl⟩, ⟨rfl, rfl⟩, ⟨rfl, rfl⟩, trivial⟩, ⟨⟨rfl, rfl⟩, ⟨rfl, rfl⟩, ⟨rfl, rfl⟩, ⟨rfl, rfl⟩, ⟨rfl, rfl⟩, trivial⟩⟩ ?_ ?_
  · rintro ⟨g, n, xs⟩ ⟨acc, h1, h2, h3⟩
    simp only at h1 h2 h3
    subst h1 h2 h3
    exact ⟨trivial, rfl, rfl, rfl, by simp, rfl, nodeRV (some _), Wk.refl _, rfl, rfl⟩
  · rintro ⟨i, g, n, xs⟩ ⟨j0, j1, acc, j4, j5, j2, j3⟩ next post
    simp only at j0 j1 j2 j3 j4 j5
    subst j4
    subst j5
    refine ⟨fun hlt => go 300 ?_, fun hge => go 300 ?_⟩
    · have hi : i < p.length := by simpa using hlt
      have hx : (p.map intV)[i]? = some (intV p[i]) := by simp [hi]
      rw [List.drop_eq_getElem_cons hi] at j3
      refine ⟨fun _ => go 300 ?_, fun q => absurd (not_lt_of q) (by simp; omega)⟩
      refine ⟨Int.natCast_nonneg i, _, hx, ⟨rfl, trivial⟩, rfl, rfl, rfl, by simp, room_of (by simp; omega) (by decide), ?_⟩
      refine ⟨by constructor <;> omega, ?_⟩
      show Goes _ _ _ _
      refine next (i + 1, bump g, _, _) _ _ ⟨⟨by simp only; omega, hi, acc ++ [p[i]], ?_, ?_, ?_, ?_⟩, ?_, ⟨⟨rfl, rfl⟩, ⟨rfl, rfl⟩, ⟨rfl, rfl⟩, ⟨rfl, rfl⟩, ⟨rfl, rfl⟩, ⟨rfl, rfl⟩, trivial⟩, ⟨⟨rfl, rfl⟩, ⟨rfl, rfl⟩, ⟨rfl, rfl⟩, ⟨rfl, rfl⟩, ⟨rfl, rfl⟩, trivial⟩⟩
      · simp [intV]
      · simp
      · simp; omega
      · rw [← j3]; simp
      · simp only; omega
    · have hi : i = p.length := by have : p.length ≤ i := by simpa using hge
                                   omega
      subst hi
      rw [List.drop_length, List.append_nil] at j3
      exact post (g, _, _) _ _ _ rfl ⟨⟨acc, rfl, rfl, j3⟩, ⟨⟨rfl, rfl⟩, trivial⟩, ⟨⟨rfl, rfl⟩, ⟨rfl, rfl⟩, ⟨rfl, rfl⟩, ⟨rfl, rfl⟩, ⟨rfl, rfl⟩, trivial⟩⟩

theorem w_Node (o : OpT) (p : List Int) (ho : o.Ok) (hp : p.length ≤ 1000) (hpb : ∀ i ∈ p, 0 ≤ i ∧ i ≤ 1048576) : Pure Try.prog 64 [opV o, pathV p] (fun x => x = nodeRV (nodeP o p)) := by
  rcases Bool.eq_false_or_eq_true (movesO o) with hm | hm
  · rcases Bool.eq_false_or_eq_true ((chgO o).takes && within o.path p) with hb | hb
    · exact w_NodeT o p ho hp hpb hm hb
    · have e : nodeP o p = some ((chgO o).nums [] p) := by unfold nodeP; simp only [hm, hb]; rfl
      rw [e]
      refine pure_wk (pure_of_fun (Fun.mono (w_Node0 o p ho (by omega) hpb hm hb) fun x T h => ?_))
      obtain ⟨g, rfl, rfl⟩ := h
      exact ⟨rfl, by simp, rfl, nodeRV (some _), Wk.refl _, rfl, rfl⟩
  · have e : nodeP o p = some p := by unfold nodeP; rw [hm]; rfl
    rw [e]
    refine pure_wk (pure_of_fun (Fun.mono (w_NodeStay o p ho (by omega) hm) fun x T h => ?_))
    rcases h with ⟨rfl, rfl, rfl⟩ | ⟨g, rfl, rfl⟩
    · exact ⟨rfl, nodeRV (some []), Wk.tup ⟨Wk.nil 1, .refl _, trivial⟩, rfl, rfl⟩
    · exact ⟨rfl, by simp, rfl, nodeRV (some _), Wk.refl _, rfl, rfl⟩
end Bow
/- W52: shift.Gap, Undo; square.sound, drop, shifted, won. -/
namespace Bow
open Go Go.Proofs

def gapV (r : List Int × Int × Bool) : V := .tup [pathV r.1, .int .i64 r.2.1, .bool r.2.2]
theorem gap_leaf {q : List Int} {n : Int} {r : List Int × Int × Bool} (h : r = (q, n, true)) : ∃ y, Wk (.tup [pathV q, .int .i64 n, .tt]) y ∧ y.pureB = true ∧ y = gapV r := by
  subst h
  exact ⟨gapV (q, n, true), Wk.tup ⟨.refl _, .refl _, Wk.tt, trivial⟩, rfl, rfl⟩

set_option maxHeartbeats 4000000 in
set_option maxRecDepth 100000 in
theorem w_Gap (a : OpT) (p : List Int) (at_ : Int) (first : Bool) (ho : a.Ok) (hp : p.length ≤ 1000) (hpb : ∀ i ∈ p, 0 ≤ i ∧ i ≤ 1048576) (hat : 0 ≤ at_ ∧ at_ ≤ 10000000) :
    Pure Try.prog 105 [opV a, pathV p, .int .i64 at_, .bool first] (fun x => x = gapV (gapP a p at_ first)) := by
  refine pure_wk (pure_fn 300 Try.func105 rfl rfl rfl fun B => ?_)
  show CallThen _ _ _ _ _ _
  refine call_pure (w_Node a p ho hp hpb) rfl ?_
  rintro x rfl
  have hmv := w_moves a ho
  cases hn : nodeP a p with
  | none =>
    have e : gapP a p at_ first = ([], 0, false) := by unfold gapP; rw [hn]
    rw [e]
    exact ⟨trivial, rfl, rfl, rfl, gapV ([], 0, false), Wk.tup ⟨.refl _, .refl _, Wk.ff, trivial⟩, rfl, rfl⟩
  | some q =>
    show CallThen _ _ _ _ _ _
    refine call_pure hmv rfl ?_
    rintro x rfl
    refine ⟨fun g1 => go 300 ?_, fun g1 => go 300 ?_⟩
    · have hm : movesO a = false := by simpa using g1
      refine ⟨trivial, rfl, rfl, rfl, gap_leaf ?_⟩
      unfold gapP
      rw [hn, hm]
      rfl
    have hm : movesO a = true := by simpa using g1
    show CallThen _ _ _ _ _ _
    refine call_pure (w_chgOf a ho (moves_ne hm)) rfl ?_
    rintro x rfl
    have e : gapP a p at_ first = (q, (bif (chgO a).takes && (decide ((chgO a).at_ < at_) && decide (p = (chgO a).frm)) then at_ - 1 else at_) + (bif (chgO a).puts && (decide (p = (chgO a).to) && (decide ((chgO a).gap < at_) || (decide (at_ = (chgO a).gap) && !first))) then 1 else 0), true) := by
      unfold gapP
      rw [hn, hm]
      rfl
    rw [e]
    obtain ⟨c, hc⟩ : ∃ c, chgO a = c := ⟨_, rfl⟩
    rw [hc]
    have h1 := w_pathSame p c.frm (by omega)
    have h2 := w_pathSame p c.to (by omega)
    repeat' first
      | (refine ⟨fun _ => go 300 ?_, fun _ => go 300 ?_⟩)
      | (show CallThen _ _ _ _ _ _; refine call_pure h1 rfl ?_; rintro z rfl)
      | (show CallThen _ _ _ _ _ _; refine call_pure h2 rfl ?_; rintro z rfl)
      | (refine ⟨trivial, rfl, rfl, rfl, gap_leaf ?_⟩)
      | (refine ⟨by constructor <;> omega, ?_⟩)
      | fail
    all_goals (clear hmv h1 h2 e; simp_all)
    all_goals ((try simp only [Bool.cond_decide]); (repeat' split) <;> first | omega | (simp_all; done) | skip)
    all_goals (first | (simp [show ¬ (c.at_ < at_) by omega]; done) | (simp [show ¬ (c.at_ < c.gap) by omega]; done) | (simp [show ¬ (c.at_ < at_) by omega, show ¬ (c.gap < at_) by omega]; done))

theorem wk_zeroOp : Wk (.agg [.int .u8 0, .nilsl, .int .i64 0, .nilsl, .int .u64 0, .ff, .str [], .str [], .str [], .ff, .nilsl]) (opV (noOp 0)) :=
  Wk.agg ⟨.refl _, Wk.nil 1, .refl _, Wk.nil 1, .refl _, Wk.ff, .refl _, .refl _, .refl _, Wk.ff, Wk.nil 3, trivial⟩

set_option maxRecDepth 100000 in
theorem w_sound (o : OpT) (ho : o.Ok) : Pure Try.prog 41 [opV o] (fun x => x = .bool (soundO o)) := by
  refine pure_wk (pure_fn 300 Try.func41 rfl rfl rfl fun B => ?_)
  show CallThen _ _ _ _ _ _
  refine call_pure (w_Formed o ho.lt ho.each) rfl ?_
  rintro x rfl
  have hW := w_pathWithin o.path o.to ho.lt.path
  repeat' first
    | (refine ⟨fun _ => go 300 ?_, fun _ => go 300 ?_⟩)
    | (show CallThen _ _ _ _ _ _; refine call_pure hW rfl ?_; rintro z rfl)
    | (refine ⟨trivial, rfl, rfl, rfl, leaf_tt ?_⟩)
    | (refine ⟨trivial, rfl, rfl, rfl, leaf_ff ?_⟩)
    | (refine ⟨trivial, rfl, rfl, rfl, leaf_b ?_⟩)
    | fail
  all_goals (unfold soundO; simp_all)

theorem w_drop (p : List Int) : Pure Try.prog 65 [pathV p] (fun x => x = opV (dropO p)) := by
  refine pure_wk (pure_fn 300 Try.func65 rfl rfl rfl fun B => ?_)
  exact ⟨trivial, rfl, rfl, rfl, opV (dropO p), Wk.agg ⟨.refl _, .refl _, .refl _, Wk.nil 1, .refl _, Wk.ff, .refl _, .refl _, .refl _, Wk.ff, Wk.nil 3, trivial⟩, rfl, rfl⟩

set_option maxRecDepth 100000 in
theorem w_won (b a : OpT) (ha : a.Ok) : Pure Try.prog 66 [opV b, opV a] (fun x => x = .bool (wonO b a)) := by
  refine pure_wk (pure_fn 300 Try.func66 rfl rfl rfl fun B => ?_)
  have h1 := w_pathSame a.path b.path ha.lt.path
  repeat' first
    | (refine ⟨fun _ => go 300 ?_, fun _ => go 300 ?_⟩)
    | (show CallThen _ _ _ _ _ _; refine call_pure h1 rfl ?_; rintro z rfl)
    | (refine ⟨trivial, rfl, rfl, rfl, leaf_tt ?_⟩)
    | (refine ⟨trivial, rfl, rfl, rfl, leaf_ff ?_⟩)
    | (refine ⟨trivial, rfl, rfl, rfl, leaf_b ?_⟩)
    | fail
  all_goals (unfold wonO; simp_all)

/-- The path behind, of a node that is there. -/
theorem nodeRV_get {r : Option (List Int)} : ∃ b : V, nodeRV r = .tup [pathV (r.getD []), b] ∧ (b = .tt ∨ b = .ff) := by
  cases r with
  | none => exact ⟨.ff, rfl, .inr rfl⟩
  | some q => exact ⟨.tt, rfl, .inl rfl⟩

set_option maxHeartbeats 4000000 in
set_option maxRecDepth 100000 in
theorem w_shifted (b a : OpT) (prior : Bool) (ha : a.Ok) (_hb : b.Ok) (hf : formedB b = true) :
    Pure Try.prog 69 [opV b, opV a, .bool prior] (fun x => x = opV (shiftedO b a prior)) := by
  have hpl := may_len (formed_path hf)
  have hps := may_step (formed_path hf)
  refine pure_fn 300 Try.func69 rfl rfl rfl fun B => ?_
  show CallThen _ _ _ _ _ _
  refine call_pure (w_Node a b.path ha (by omega) hps) rfl ?_
  rintro x rfl
  obtain ⟨v, e, hv⟩ := nodeRV_get (r := nodeP a b.path)
  rw [e]
  rcases hv with rfl | rfl
  all_goals
    refine ⟨fun g1 => go 300 ?_, fun g1 => go 300 ?_⟩
    · have hk : b.kind = 1 := eq_of g1
      have hg := formed_gap hf (.inl hk)
      show CallThen _ _ _ _ _ _
      refine call_pure (w_Gap a b.path b.at_ prior ha (by omega) hps ⟨by omega, by omega⟩) rfl ?_
      rintro x rfl
      refine ⟨trivial, rfl, rfl, rfl, ?_⟩
      unfold shiftedO
      rw [decide_eq_true hk]
      rfl
    have hk1 : b.kind ≠ 1 := ne_of g1
    refine ⟨fun g2 => go 300 ?_, fun g2 => go 300 ?_⟩
    · have hk : b.kind = 3 := eq_of g2
      have hg := formed_gap hf (.inr hk)
      have htl := may_len (good_to hf hk)
      have hts := may_step (good_to hf hk)
      show CallThen _ _ _ _ _ _
      refine call_pure (w_Gap a b.to b.at_ prior ha (by omega) hts ⟨by omega, by omega⟩) rfl ?_
      rintro x rfl
      refine ⟨trivial, rfl, rfl, rfl, ?_⟩
      unfold shiftedO
      rw [decide_eq_false hk1, decide_eq_true hk]
      rfl
    · have hk3 : b.kind ≠ 3 := ne_of g2
      refine ⟨trivial, rfl, rfl, rfl, ?_⟩
      unfold shiftedO
      rw [decide_eq_false hk1, decide_eq_false hk3]
      rfl

set_option maxHeartbeats 4000000 in
set_option maxRecDepth 100000 in
theorem w_UndoM (o : OpT) (ho : o.Ok) : Pure Try.prog 68 [opV o] (fun x => x = opV (undoO o)) := by
  refine pure_wk (pure_fn 300 Try.func68 rfl rfl rfl fun B => ?_)
  have z : undoO o = noOp 0 → ∃ y, Wk (.agg [.int .u8 0, .nilsl, .int .i64 0, .nilsl, .int .u64 0, .ff, .str [], .str [], .str [], .ff, .nilsl]) y ∧ y.pureB = true ∧ y = opV (undoO o) := fun h => ⟨opV (noOp 0), wk_zeroOp, rfl, by rw [h]⟩
  refine ⟨fun g1 => go 300 ?_, fun g1 => go 300 ?_⟩
  · have hk : o.kind ≠ 3 := ne_of' g1
    exact ⟨trivial, rfl, rfl, rfl, z (by unfold undoO; rw [decide_eq_false hk]; rfl)⟩
  have hk : o.kind = 3 := eq_of' g1
  show CallThen _ _ _ _ _ _
  refine call_pure (w_moves o ho) rfl ?_
  rintro x rfl
  refine ⟨fun g2 => go 300 ?_, fun g2 => go 300 ?_⟩
  · have hm : movesO o = false := by simpa using g2
    exact ⟨trivial, rfl, rfl, rfl, z (by unfold undoO; rw [hm]; simp)⟩
  have hm : movesO o = true := by simpa using g2
  obtain ⟨hf, hkk⟩ := moves_parts hm
  have hpl := may_len (formed_path hf)
  have hps := may_step (formed_path hf)
  have hfrm : (chgO o).frm = o.path.dropLast := by unfold chgO; simp [hk]
  have hfs : ∀ i ∈ (chgO o).frm, 0 ≤ i ∧ i ≤ 1048576 := fun i hi => hps i (by rw [hfrm] at hi; exact List.dropLast_subset _ hi)
  have hfl : (chgO o).frm.length ≤ 1000 := by rw [hfrm]; simp; omega
  have hgap := formed_gap hf (.inr hk)
  have hne := moves_ne hm (by rw [hk]; decide)
  have hat : 0 ≤ (chgO o).at_ ∧ (chgO o).at_ ≤ 1048576 := by
    have : (chgO o).at_ = lastP o.path := by unfold chgO; simp [hk]
    rw [this, ← lastP_eq hne]
    exact hps _ (List.getLast_mem hne)
  have hcg : (chgO o).gap = o.at_ := rfl
  have hland := w_land (chgO o) (by omega) ⟨by rw [hcg]; omega, by rw [hcg]; omega⟩
  show CallThen _ _ _ _ _ _
  refine call_pure (w_chgOf o ho (moves_ne hm)) rfl ?_
  rintro x rfl
  show CallThen _ _ _ _ _ _
  refine call_pure (w_Node o o.path ho (by omega) hps) rfl ?_
  rintro x rfl
  obtain ⟨v, e, hv⟩ := nodeRV_get (r := nodeP o o.path)
  rw [e]
  have fin : ∀ n : Int, n = (chgO o).at_ + (bif decide ((chgO o).frm = (chgO o).to) && decide ((chgO o).land < (chgO o).at_) then 1 else 0) →
      ∃ y, Wk (.agg [.int .u8 3, pathV ((nodeP o o.path).getD []), .int .i64 n, pathV ((nodeP o (chgO o).frm).getD []), .int .u64 0, .ff, .str [], .str [], .str [], .ff, .nilsl]) y ∧ y.pureB = true ∧ y = opV (undoO o) := fun n hn =>
    ⟨opV (undoO o), by
      have : undoO o = { noOp 3 with path := (nodeP o o.path).getD [], to := (nodeP o (chgO o).frm).getD [], at_ := n } := by unfold undoO; rw [decide_eq_true hk, hm, hn]; rfl
      rw [this]
      exact Wk.agg ⟨.refl _, .refl _, .refl _, .refl _, .refl _, Wk.ff, .refl _, .refl _, .refl _, Wk.ff, Wk.nil 3, trivial⟩, rfl, rfl⟩
  rcases hv with rfl | rfl
  all_goals
    show CallThen _ _ _ _ _ _
    refine call_pure (w_Node o (chgO o).frm ho hfl hfs) rfl ?_
    rintro x rfl
    obtain ⟨v2, e2, hv2⟩ := nodeRV_get (r := nodeP o (chgO o).frm)
    rw [e2]
    rcases hv2 with rfl | rfl
    all_goals
      show CallThen _ _ _ _ _ _
      refine call_pure (w_pathSame (chgO o).frm (chgO o).to (by omega)) rfl ?_
      rintro x rfl
      refine ⟨fun q1 => go 300 ?_, fun q1 => go 300 ?_⟩
      · show CallThen _ _ _ _ _ _
        refine call_pure hland rfl ?_
        rintro x rfl
        refine ⟨fun q2 => go 300 ?_, fun q2 => go 300 ?_⟩
        · refine ⟨by constructor <;> omega, ?_⟩
          exact ⟨trivial, rfl, rfl, rfl, fin _ (by rw [q1, q2]; rfl)⟩
        · exact ⟨trivial, rfl, rfl, rfl, fin _ (by rw [q1, q2]; simp)⟩
      · exact ⟨trivial, rfl, rfl, rfl, fin _ (by rw [q1]; simp)⟩
end Bow
/- W53: square.row (but for two edits), Behind, Both. -/
namespace Bow
open Go Go.Proofs

theorem nodeP_len (o : OpT) (p : List Int) : ((nodeP o p).getD []).length ≤ p.length + o.to.length + 1 := by
  unfold nodeP
  cases movesO o with
  | false => simp; omega
  | true =>
    cases (chgO o).takes && within o.path p with
    | false => simp [nums_len]; omega
    | true =>
      cases (chgO o).puts with
      | false => simp
      | true => simp [nums_len]; omega
theorem gapP_len (o : OpT) (p : List Int) (n : Int) (f : Bool) : (gapP o p n f).1.length ≤ p.length + o.to.length + 1 := by
  have h := nodeP_len o p
  unfold gapP
  cases hn : nodeP o p with
  | none => simp
  | some q =>
    rw [hn] at h
    simp only [Option.getD_some] at h
    cases movesO o <;> simpa using h
theorem drop_ok {p : List Int} (h : p.length ≤ 1000000) : (dropO p).Ok := ⟨⟨h, Nat.zero_le _, Nat.zero_le _, Nat.zero_le _, Nat.zero_le _, Nat.zero_le _⟩, Nat.zero_le _⟩
theorem shifted_ok {b a : OpT} {prior : Bool} (_ha : a.Ok) (hb : b.Ok) (hp : b.path.length ≤ 1000) (ht : b.to.length ≤ 1000) (hat : a.to.length ≤ 1000) : (shiftedO b a prior).Ok := by
  have h1 := nodeP_len a b.path
  have h2 := gapP_len a b.to b.at_ prior
  unfold shiftedO
  cases decide (b.kind = 1) with
  | true => exact ⟨⟨by show ((nodeP a b.path).getD []).length ≤ _; omega, hb.lt.to, hb.lt.label, hb.lt.key, hb.lt.value, hb.lt.pieces⟩, hb.puts⟩
  | false =>
    cases decide (b.kind = 3) with
    | true => exact ⟨⟨by show ((nodeP a b.path).getD []).length ≤ _; omega, by show (gapP a b.to b.at_ prior).1.length ≤ _; omega, hb.lt.label, hb.lt.key, hb.lt.value, hb.lt.pieces⟩, hb.puts⟩
    | false => exact ⟨⟨by show ((nodeP a b.path).getD []).length ≤ _; omega, hb.lt.to, hb.lt.label, hb.lt.key, hb.lt.value, hb.lt.pieces⟩, hb.puts⟩

theorem number_steps {c : Chg} (h : 0 ≤ c.at_) {p : List Int} {k : Int} (hk : 0 ≤ k ∧ k ≤ 1048575) : 0 ≤ c.number p k ∧ c.number p k ≤ 1048576 := by
  unfold Chg.number
  by_cases h1 : c.at_ < k
  · cases c.takes <;> cases c.puts <;> cases decide (p = c.frm) <;> cases decide (c.gap ≤ k) <;> cases decide (p = c.to) <;> simp [h1] <;> omega
  · cases c.takes <;> cases c.puts <;> cases decide (p = c.frm) <;> cases decide (c.gap ≤ k) <;> cases decide (p = c.to) <;> simp [h1] <;> omega
theorem nums_steps {c : Chg} (h : 0 ≤ c.at_) : ∀ (p q : List Int), (∀ i ∈ p, 0 ≤ i ∧ i ≤ 1048575) → ∀ i ∈ c.nums q p, 0 ≤ i ∧ i ≤ 1048576
  | [], _, _, i, hi => by cases hi
  | k :: p, q, hp, i, hi => by
    rw [Chg.nums] at hi
    rcases List.mem_cons.1 hi with rfl | hi
    · exact number_steps h (hp k List.mem_cons_self)
    · exact nums_steps h p _ (fun j hj => hp j (List.mem_cons_of_mem _ hj)) i hi
theorem may_strict {p : List Int} (h : mayP p = true) : ∀ i ∈ p, 0 ≤ i ∧ i ≤ 1048575 := by
  unfold mayP at h
  rw [Bool.and_eq_true] at h
  intro i hi
  have := List.all_eq_true.1 h.2 i hi
  unfold stepOk at this
  simp only [Bool.and_eq_true, decide_eq_true_eq] at this
  omega
theorem chg_at {o : OpT} (h : movesO o = true) : 0 ≤ (chgO o).at_ := by
  obtain ⟨hf, hkk⟩ := moves_parts h
  have hne := moves_ne h
  by_cases k1 : o.kind = 1
  · unfold chgO; simp [k1]
  · have : (chgO o).at_ = lastP o.path := by unfold chgO; simp [k1]
    rw [this, ← lastP_eq (hne k1)]
    exact (may_step (formed_path hf) _ (List.getLast_mem (hne k1))).1
theorem node_steps {a : OpT} {p : List Int} (hp : ∀ i ∈ p, 0 ≤ i ∧ i ≤ 1048575) : ∀ i ∈ (nodeP a p).getD [], 0 ≤ i ∧ i ≤ 1048576 := by
  intro i hi
  unfold nodeP at hi
  cases hm : movesO a with
  | false =>
    rw [hm] at hi
    have := hp i hi
    omega
  | true =>
    rw [hm] at hi
    have hat := chg_at hm
    obtain ⟨hf, hkk⟩ := moves_parts hm
    cases ht : (chgO a).takes && within a.path p with
    | false =>
      rw [ht] at hi
      exact nums_steps hat p [] hp i hi
    | true =>
      rw [ht] at hi
      cases hq : (chgO a).puts with
      | false => rw [hq] at hi; cases hi
      | true =>
        rw [hq] at hi
        rw [Bool.and_eq_true] at ht
        have hk3 : a.kind = 3 := by
          rcases hkk with k | ⟨k, _⟩ | h
          · have := ht.1; unfold chgO at this; simp [k] at this
          · unfold chgO at hq; simp [k] at hq
          · exact h.1
        have hts := may_strict (good_to hf hk3)
        have hgap := formed_gap hf (.inr hk3)
        have hi : i ∈ (chgO a).nums [] a.to ++ [(chgO a).land] ++ p.drop a.path.length := hi
        rcases List.mem_append.1 hi with hi | hi
        · rcases List.mem_append.1 hi with hi | hi
          · exact nums_steps hat a.to [] hts i hi
          · rw [List.mem_singleton] at hi
            have e : (chgO a).gap = a.at_ := rfl
            rw [hi]
            unfold Chg.land
            by_cases h1 : (chgO a).at_ < (chgO a).gap
            · cases decide ((chgO a).frm = (chgO a).to) <;> simp [h1] <;> omega
            · simp [h1]; omega
        · have := hp i (List.mem_of_mem_drop hi)
          omega
/-- The path behind, and some truth value. -/
theorem w_NodeB (o : OpT) (p : List Int) (ho : o.Ok) (hp : p.length ≤ 1000) (hpb : ∀ i ∈ p, 0 ≤ i ∧ i ≤ 1048576) : Pure Try.prog 64 [opV o, pathV p] (fun x => ∃ q b, (nodeP o p).getD [] = q ∧ x = .tup [pathV q, .bool b]) := by
  refine pure_wk ((w_Node o p ho hp hpb).mono fun x h => ?_)
  subst h
  cases nodeP o p with
  | none => exact ⟨.tup [pathV [], .bool false], Wk.tup ⟨.refl _, Wk.ff, trivial⟩, rfl, [], false, rfl, rfl⟩
  | some q => exact ⟨.tup [pathV q, .bool true], Wk.tup ⟨.refl _, Wk.tt, trivial⟩, rfl, q, true, rfl, rfl⟩

/-- What row hands back: nil, or own memory; ahead of it the boxes that it made. -/
def RowQ (b a : OpT) (l : List OpT) (x : V) (T : Heap) : Prop :=
  (l = [] ∧ x = .tup [.nilsl, .int .i64 0] ∧ T = [some (.box (opV b).cells), some (.box (opV a).cells)]) ∨
  (∃ g, x = .tup [.osl (.loc 2) g 0 l.length, .int .i64 0] ∧ T = [some (.box (opV b).cells), some (.box (opV a).cells), some (.vec g 11 (l.map opV))])

set_option maxHeartbeats 8000000 in
set_option maxRecDepth 100000 in
theorem w_row (b a : OpT) (prior : Bool) (ha : a.Ok) (hb : b.Ok) (sa : soundO a = true) (sb : soundO b = true) (he : bothEdit b a = false) (hto : a.to.length ≤ 1000 ∧ b.to.length ≤ 1000) :
    Fun Try.prog 42 [] [opV b, opV a, .bool prior] (RowQ b a (rowO b a prior)) := by
  have fa : formedB a = true := by unfold soundO at sa; rw [Bool.and_eq_true] at sa; exact sa.1
  have fb : formedB b = true := by unfold soundO at sb; rw [Bool.and_eq_true] at sb; exact sb.1
  have pa := may_len (formed_path fa)
  have pb := may_len (formed_path fb)
  have qa := may_step (formed_path fa)
  have qb := may_step (formed_path fb)
  have hnb := nodeP_len a b.path
  have hna := nodeP_len a a.path
  refine fun_fn 300 Try.func42 rfl rfl rfl fun imps B hi => ?_
  have : imps = [] := List.length_eq_zero_iff.1 hi
  subst this
  have leafN : rowO b a prior = [] → RowQ b a (rowO b a prior) (.tup [.nilsl, .int .i64 0]) [some (.box (opV b).cells), some (.box (opV a).cells)] := fun h1 => .inl ⟨h1, rfl, rfl⟩
  have leaf1 : ∀ {g : Nat} (o : OpT), rowO b a prior = [o] → RowQ b a (rowO b a prior) (.tup [.osl (.loc 2) g 0 1, .int .i64 0]) [some (.box (opV b).cells), some (.box (opV a).cells), some (.vec g 11 [opV o])] := fun o h1 => .inr ⟨_, by rw [h1]; rfl, by rw [h1]; rfl⟩
  have leaf2 : ∀ {g : Nat} (o o' : OpT), rowO b a prior = [o, o'] → RowQ b a (rowO b a prior) (.tup [.osl (.loc 2) g 0 2, .int .i64 0]) [some (.box (opV b).cells), some (.box (opV a).cells), some (.vec g 11 [opV o, opV o'])] := fun o o' h1 => .inr ⟨_, by rw [h1]; rfl, by rw [h1]; rfl⟩
  have hsh := w_shifted b a prior ha hb fb
  have c1 := w_pathWithin a.path b.path (by omega)
  have c2 := w_pathWithin a.path b.to (by omega)
  have c3 := w_pathWithin b.path a.path (by omega)
  have c4 := w_pathWithin b.path a.to (by omega)
  have c5 := w_pathSame b.path a.path (by omega)
  have c6 := w_pathSame a.path b.path (by omega)
  refine ⟨fun g1 => go 300 ?_, fun g1 => go 300 ?_⟩
  · have k1 : a.kind = 2 := eq_of g1
    show CallThen _ _ _ _ _ _
    refine call_pure c1 rfl ?_
    rintro x rfl
    refine ⟨fun g2 => go 300 ?_, fun g2 => go 300 ?_⟩
    · exact ⟨trivial, rfl, rfl, leafN (by unfold rowO; rw [decide_eq_true k1, g2]; rfl)⟩
    refine ⟨fun g3 => go 300 ?_, fun g3 => go 300 ?_⟩
    · have k3 : b.kind = 3 := eq_of g3
      show CallThen _ _ _ _ _ _
      refine call_pure c2 rfl ?_
      rintro x rfl
      refine ⟨fun g4 => go 300 ?_, fun g4 => go 300 ?_⟩
      · show CallThen _ _ _ _ _ _
        refine call_pure (w_NodeB a b.path ha (by omega) qb) rfl ?_
        rintro x ⟨q1, v, hq1, rfl⟩
        show CallThen _ _ _ _ _ _
        refine call_pure (w_drop q1) rfl ?_
        rintro x rfl
        refine ⟨⟨rfl, trivial⟩, ?_⟩
        exact ⟨trivial, rfl, rfl, leaf1 (dropO q1) (by unfold rowO; rw [decide_eq_true k1, g2, decide_eq_true k3, g4, hq1]; rfl)⟩
      · show CallThen _ _ _ _ _ _
        refine call_pure hsh rfl ?_
        rintro x rfl
        refine ⟨⟨rfl, trivial⟩, ?_⟩
        exact ⟨trivial, rfl, rfl, leaf1 (shiftedO b a prior) (by unfold rowO; rw [decide_eq_true k1, g2, decide_eq_true k3, g4]; rfl)⟩
    · have k3 : b.kind ≠ 3 := ne_of g3
      show CallThen _ _ _ _ _ _
      refine call_pure hsh rfl ?_
      rintro x rfl
      refine ⟨⟨rfl, trivial⟩, ?_⟩
      exact ⟨trivial, rfl, rfl, leaf1 (shiftedO b a prior) (by unfold rowO; rw [decide_eq_true k1, g2, decide_eq_false k3]; rfl)⟩
  have k1 : a.kind ≠ 2 := ne_of g1
  show CallThen _ _ _ _ _ _
  refine call_pure (w_won b a ha) rfl ?_
  rintro x rfl
  refine ⟨fun g2 => go 300 ?_, fun g2 => go 300 ?_⟩
  · refine ⟨fun g3 => go 300 ?_, fun g3 => go 300 ?_⟩
    · have g3 : prior = false := by simpa using g3
      exact ⟨trivial, rfl, rfl, leafN (by unfold rowO; rw [decide_eq_false k1, g2, g3]; rfl)⟩
    · have g3 : prior = true := by simpa using g3
      show CallThen _ _ _ _ _ _
      refine call_pure hsh rfl ?_
      rintro x rfl
      refine ⟨⟨rfl, trivial⟩, ?_⟩
      exact ⟨trivial, rfl, rfl, leaf1 (shiftedO b a prior) (by unfold rowO; rw [decide_eq_false k1, g2]; rw [g3]; rfl)⟩
  refine ⟨fun g3 => go 300 ?_, fun g3 => go 300 ?_⟩
  · have k3 : a.kind ≠ 3 := ne_of' g3
    have er : rowO b a prior = [shiftedO b a prior] := by unfold rowO; rw [decide_eq_false k1, g2, decide_eq_false k3]; rfl
    refine ⟨fun g4 => go 300 ?_, fun g4 => go 300 ?_⟩
    · refine ⟨fun g5 => go 300 ?_, fun g5 => go 300 ?_⟩
      · show CallThen _ _ _ _ _ _
        refine call_pure c6 rfl ?_
        rintro x rfl
        refine ⟨fun g6 => ?_, fun g6 => go 300 ?_⟩
        · exfalso
          unfold bothEdit at he
          rw [g4, g5, g6] at he
          cases he
        · show CallThen _ _ _ _ _ _
          refine call_pure hsh rfl ?_
          rintro x rfl
          refine ⟨⟨rfl, trivial⟩, ?_⟩
          exact ⟨trivial, rfl, rfl, leaf1 (shiftedO b a prior) er⟩
      · show CallThen _ _ _ _ _ _
        refine call_pure hsh rfl ?_
        rintro x rfl
        refine ⟨⟨rfl, trivial⟩, ?_⟩
        exact ⟨trivial, rfl, rfl, leaf1 (shiftedO b a prior) er⟩
    · show CallThen _ _ _ _ _ _
      refine call_pure hsh rfl ?_
      rintro x rfl
      refine ⟨⟨rfl, trivial⟩, ?_⟩
      exact ⟨trivial, rfl, rfl, leaf1 (shiftedO b a prior) er⟩
  have k3 : a.kind = 3 := eq_of' g3
  refine ⟨fun g4 => go 300 ?_, fun g4 => go 300 ?_⟩
  · have k4 : b.kind = 2 := eq_of g4
    show CallThen _ _ _ _ _ _
    refine call_pure c3 rfl ?_
    rintro x rfl
    refine ⟨fun g5 => go 300 ?_, fun g5 => go 300 ?_⟩
    case refine_2 =>
      have er : rowO b a prior = [shiftedO b a prior] := by unfold rowO; rw [decide_eq_false k1, g2, decide_eq_true k3, decide_eq_true k4, g5]; rfl
      show CallThen _ _ _ _ _ _
      refine call_pure hsh rfl ?_
      rintro x rfl
      refine ⟨⟨rfl, trivial⟩, ?_⟩
      exact ⟨trivial, rfl, rfl, leaf1 (shiftedO b a prior) er⟩
    show CallThen _ _ _ _ _ _
    refine call_pure c5 rfl ?_
    rintro x rfl
    refine ⟨fun g6 => go 300 ?_, fun g6 => go 300 ?_⟩
    case refine_2 =>
      have g6 : decide (b.path = a.path) = true := by simpa using g6
      have er : rowO b a prior = [shiftedO b a prior] := by unfold rowO; rw [decide_eq_false k1, g2, decide_eq_true k3, decide_eq_true k4, g5, g6]; rfl
      show CallThen _ _ _ _ _ _
      refine call_pure hsh rfl ?_
      rintro x rfl
      refine ⟨⟨rfl, trivial⟩, ?_⟩
      exact ⟨trivial, rfl, rfl, leaf1 (shiftedO b a prior) er⟩
    have g6 : decide (b.path = a.path) = false := by simpa using g6
    show CallThen _ _ _ _ _ _
    refine call_pure c4 rfl ?_
    rintro x rfl
    refine ⟨fun g7 => go 300 ?_, fun g7 => go 300 ?_⟩
    case refine_2 =>
      have g7 : within b.path a.to = true := by simpa using g7
      have er : rowO b a prior = [shiftedO b a prior] := by unfold rowO; rw [decide_eq_false k1, g2, decide_eq_true k3, decide_eq_true k4, g5, g6, g7]; rfl
      show CallThen _ _ _ _ _ _
      refine call_pure hsh rfl ?_
      rintro x rfl
      refine ⟨⟨rfl, trivial⟩, ?_⟩
      exact ⟨trivial, rfl, rfl, leaf1 (shiftedO b a prior) er⟩
    have g7 : within b.path a.to = false := by simpa using g7
    have er : rowO b a prior = [dropO ((nodeP a a.path).getD []), dropO ((nodeP (dropO ((nodeP a a.path).getD [])) ((nodeP a b.path).getD [])).getD [])] := by unfold rowO; rw [decide_eq_false k1, g2, decide_eq_true k3, decide_eq_true k4, g5, g6, g7]; rfl
    have hqs := node_steps (a := a) (p := b.path) (may_strict (formed_path fb))
    show CallThen _ _ _ _ _ _
    refine call_pure (w_NodeB a a.path ha (by omega) qa) rfl ?_
    rintro x ⟨p1, v1, hp1, rfl⟩
    show CallThen _ _ _ _ _ _
    refine call_pure (w_NodeB a b.path ha (by omega) qb) rfl ?_
    rintro x ⟨q1, v2, hq1, rfl⟩
    rw [hp1, hq1] at er
    rw [hq1] at hqs hnb
    rw [hp1] at hna
    show CallThen _ _ _ _ _ _
    refine call_pure (w_drop p1) rfl ?_
    rintro x rfl
    show CallThen _ _ _ _ _ _
    have hat64 := may_len (good_to fa k3)
    refine call_pure (w_NodeB (dropO p1) q1 (drop_ok (by omega)) (by omega) hqs) rfl ?_
    rintro x ⟨q2, v3, hq2, rfl⟩
    rw [hq2] at er
    show CallThen _ _ _ _ _ _
    refine call_pure (w_drop p1) rfl ?_
    rintro x rfl
    show CallThen _ _ _ _ _ _
    refine call_pure (w_drop q2) rfl ?_
    rintro x rfl
    refine ⟨⟨rfl, rfl, trivial⟩, ?_⟩
    exact ⟨trivial, rfl, rfl, leaf2 _ _ er⟩
  have k4 : b.kind ≠ 2 := ne_of g4
  refine ⟨fun g5 => go 300 ?_, fun g5 => go 300 ?_⟩
  · have k5 : b.kind = 3 := eq_of g5
    show CallThen _ _ _ _ _ _
    refine call_pure c4 rfl ?_
    rintro x rfl
    refine ⟨fun g6 => go 300 ?_, fun g6 => go 300 ?_⟩
    case refine_2 =>
      have er : rowO b a prior = [shiftedO b a prior] := by unfold rowO; rw [decide_eq_false k1, g2, decide_eq_true k3, decide_eq_false k4, decide_eq_true k5, g6]; rfl
      show CallThen _ _ _ _ _ _
      refine call_pure hsh rfl ?_
      rintro x rfl
      refine ⟨⟨rfl, trivial⟩, ?_⟩
      exact ⟨trivial, rfl, rfl, leaf1 (shiftedO b a prior) er⟩
    show CallThen _ _ _ _ _ _
    refine call_pure c2 rfl ?_
    rintro x rfl
    refine ⟨fun g7 => go 300 ?_, fun g7 => go 300 ?_⟩
    case refine_2 =>
      have er : rowO b a prior = [shiftedO b a prior] := by unfold rowO; rw [decide_eq_false k1, g2, decide_eq_true k3, decide_eq_false k4, decide_eq_true k5, g6, g7]; rfl
      show CallThen _ _ _ _ _ _
      refine call_pure hsh rfl ?_
      rintro x rfl
      refine ⟨⟨rfl, trivial⟩, ?_⟩
      exact ⟨trivial, rfl, rfl, leaf1 (shiftedO b a prior) er⟩
    refine ⟨fun g8 => go 300 ?_, fun g8 => go 300 ?_⟩
    · have g8 : prior = false := by simpa using g8
      exact ⟨trivial, rfl, rfl, leafN (by unfold rowO; rw [decide_eq_false k1, g2, decide_eq_true k3, decide_eq_false k4, decide_eq_true k5, g6, g7, g8]; rfl)⟩
    · have g8 : prior = true := by simpa using g8
      show Goes _ _ _ _
      refine goes_draw 300 ⟨_, w_UndoM a ha, rfl, rfl, ⟨rfl, rfl, trivial⟩, ?_⟩
      refine ⟨by kernel_rfl, ?_⟩
      refine ⟨by kernel_rfl, ?_⟩
      exact ⟨trivial, rfl, rfl, leaf2 (undoO a) b (by unfold rowO; rw [decide_eq_false k1, g2, decide_eq_true k3, decide_eq_false k4, decide_eq_true k5, g6, g7]; rw [g8]; rfl)⟩
  · have k5 : b.kind ≠ 3 := ne_of g5
    have er : rowO b a prior = [shiftedO b a prior] := by unfold rowO; rw [decide_eq_false k1, g2, decide_eq_true k3, decide_eq_false k4, decide_eq_false k5]; rfl
    show CallThen _ _ _ _ _ _
    refine call_pure hsh rfl ?_
    rintro x rfl
    refine ⟨⟨rfl, trivial⟩, ?_⟩
    exact ⟨trivial, rfl, rfl, leaf1 (shiftedO b a prior) er⟩
end Bow
/- W54: square.Behind, Both (but for two edits of one leaf). -/
namespace Bow
open Go Go.Proofs

theorem undo_ok {a : OpT} (h1 : a.path.length ≤ 1000) (h2 : a.to.length ≤ 1000) : (undoO a).Ok := by
  unfold undoO
  cases decide (a.kind = 3) && movesO a with
  | false => exact ⟨⟨Nat.zero_le _, Nat.zero_le _, Nat.zero_le _, Nat.zero_le _, Nat.zero_le _, Nat.zero_le _⟩, Nat.zero_le _⟩
  | true =>
    have q1 := nodeP_len a a.path
    have q2 := nodeP_len a (chgO a).frm
    have q3 : (chgO a).frm.length ≤ a.path.length := by
      unfold chgO
      cases decide (a.kind = 1) <;> simp
    exact ⟨⟨by show ((nodeP a a.path).getD []).length ≤ _; omega, by show ((nodeP a (chgO a).frm).getD []).length ≤ _; omega, Nat.zero_le _, Nat.zero_le _, Nat.zero_le _, Nat.zero_le _⟩, Nat.zero_le _⟩
theorem row_mem {b a o : OpT} {prior : Bool} (h : o ∈ rowO b a prior) : o = shiftedO b a prior ∨ o = dropO ((nodeP a b.path).getD []) ∨ o = dropO ((nodeP a a.path).getD []) ∨
    o = dropO ((nodeP (dropO ((nodeP a a.path).getD [])) ((nodeP a b.path).getD [])).getD []) ∨ o = undoO a ∨ o = b := by
  unfold rowO at h
  have one : ∀ {x : OpT}, o ∈ [x] → o = x := fun h => List.mem_singleton.1 h
  cases h1 : decide (a.kind = 2) with
  | true =>
    rw [h1] at h
    cases h2 : within a.path b.path with
    | true => rw [h2] at h; cases h
    | false =>
      rw [h2] at h
      cases h3 : decide (b.kind = 3) && within a.path b.to with
      | true => rw [h3] at h; exact .inr (.inl (one h))
      | false => rw [h3] at h; exact .inl (one h)
  | false =>
    rw [h1] at h
    cases h2 : wonO b a with
    | true =>
      rw [h2] at h
      cases prior with
      | true => exact .inl (one h)
      | false => cases h
    | false =>
      rw [h2] at h
      cases h3 : decide (a.kind = 3) with
      | false => rw [h3] at h; exact .inl (one h)
      | true =>
        rw [h3] at h
        cases h4 : decide (b.kind = 2) with
        | true =>
          rw [h4] at h
          cases h5 : within b.path a.path && (!decide (b.path = a.path) && !within b.path a.to) with
          | true =>
            rw [h5] at h
            rcases List.mem_cons.1 h with h | h
            · exact .inr (.inr (.inl h))
            · exact .inr (.inr (.inr (.inl (one h))))
          | false => rw [h5] at h; exact .inl (one h)
        | false =>
          rw [h4] at h
          cases h5 : decide (b.kind = 3) && (within b.path a.to && within a.path b.to) with
          | true =>
            rw [h5] at h
            cases prior with
            | true =>
              rcases List.mem_cons.1 h with h | h
              · exact .inr (.inr (.inr (.inr (.inl h))))
              · exact .inr (.inr (.inr (.inr (.inr (one h)))))
            | false => cases h
          | false => rw [h5] at h; exact .inl (one h)
theorem row_ok {b a : OpT} {prior : Bool} (ha : a.Ok) (hb : b.Ok) (pa : a.path.length ≤ 1000) (pb : b.path.length ≤ 1000) (ta : a.to.length ≤ 1000) (tb : b.to.length ≤ 1000) : ∀ o ∈ rowO b a prior, o.Ok := by
  have hs := shifted_ok (prior := prior) ha hb pb tb ta
  have hu := undo_ok pa ta
  have q1 := nodeP_len a b.path
  have q2 := nodeP_len a a.path
  have q3 := nodeP_len (dropO ((nodeP a a.path).getD [])) ((nodeP a b.path).getD [])
  have q4 : (dropO ((nodeP a a.path).getD [])).to.length = 0 := rfl
  have d1 := drop_ok (p := (nodeP a b.path).getD []) (by omega)
  have d2 := drop_ok (p := (nodeP a a.path).getD []) (by omega)
  have d3 := drop_ok (p := (nodeP (dropO ((nodeP a a.path).getD [])) ((nodeP a b.path).getD [])).getD []) (by omega)
  intro o ho
  rcases row_mem ho with rfl | rfl | rfl | rfl | rfl | rfl <;> assumption

theorem set_step {l : List OpT} {i : Nat} (hi : i < l.length) : (((l.take i).map bareO ++ l.drop i).map opV).set (0 + ((i : Nat) : Int).toNat) (opV (bareO l[i])) = ((l.take (i + 1)).map bareO ++ l.drop (i + 1)).map opV := by
  rw [List.drop_eq_getElem_cons hi, List.take_succ_eq_append_getElem hi, List.map_append, List.map_append, List.map_append, List.map_append, Nat.zero_add, show ((i : Nat) : Int).toNat = i from rfl]
  rw [List.set_append_right _ _ (by simp; omega)]
  have : i - (List.map opV (List.map bareO (List.take i l))).length = 0 := by simp; omega
  rw [this, List.map_cons, List.set_cons_zero]
  simp
def BehV (r : List OpT × Int) : V := .tup [opsV r.1, .int .i64 r.2]
theorem behZ (e : Int) : ∃ y, Wk (.tup [.nilsl, .int .i64 e]) y ∧ y.pureB = true ∧ y = BehV ([], e) := ⟨BehV ([], e), Wk.tup ⟨Wk.nil 11, .refl _, trivial⟩, rfl, rfl⟩

set_option maxHeartbeats 4000000 in
set_option maxRecDepth 100000 in
theorem w_Behind (b a : OpT) (prior : Bool) (ha : a.Ok) (hb : b.Ok) (he : bothEdit b a = false) (hto : a.to.length ≤ 1000 ∧ b.to.length ≤ 1000) :
    Pure Try.prog 14 [opV b, opV a, .bool prior] (fun x => x = BehV (behindO b a prior)) := by
  refine pure_wk (pure_fn 300 Try.func14 rfl rfl rfl fun B => ?_)
  show CallThen _ _ _ _ _ _
  refine call_pure (w_sound a ha) rfl ?_
  rintro x rfl
  refine ⟨fun g1 => go 300 ?_, fun g1 => go 300 ?_⟩
  · have g1 : soundO a = false := by simpa using g1
    have e : behindO b a prior = ([], 80) := by unfold behindO; rw [g1]; rfl
    rw [e]
    exact ⟨trivial, rfl, rfl, rfl, behZ 80⟩
  have sa : soundO a = true := by simpa using g1
  show CallThen _ _ _ _ _ _
  refine call_pure (w_sound b hb) rfl ?_
  rintro x rfl
  refine ⟨fun g2 => go 300 ?_, fun g2 => go 300 ?_⟩
  · have g2 : soundO b = false := by simpa using g2
    have e : behindO b a prior = ([], 80) := by unfold behindO; rw [sa, g2]; rfl
    rw [e]
    exact ⟨trivial, rfl, rfl, rfl, behZ 80⟩
  have sb : soundO b = true := by simpa using g2
  have fa : formedB a = true := by unfold soundO at sa; rw [Bool.and_eq_true] at sa; exact sa.1
  have fb : formedB b = true := by unfold soundO at sb; rw [Bool.and_eq_true] at sb; exact sb.1
  have pa := may_len (formed_path fa)
  have pb := may_len (formed_path fb)
  have hrow := w_row b a prior ha hb sa sb he hto
  have hrok := row_ok (prior := prior) ha hb (by omega) (by omega) hto.1 hto.2
  have e : behindO b a prior = bif (rowO b a prior).all formedB then ((rowO b a prior).map bareO, 0) else ([], 3) := by unfold behindO; rw [sa, sb]; rfl
  rw [e]
  obtain ⟨l, hl⟩ : ∃ l, rowO b a prior = l := ⟨_, rfl⟩
  have hlen : l.length ≤ 2 := by rw [← hl]; exact row_len b a prior
  rw [hl] at hrow hrok ⊢
  show CallThen _ _ _ _ _ _
  refine call_sub [] hrow rfl rfl trivial rfl rfl rfl ?_
  rintro x T1 (⟨rfl, rfl, rfl⟩ | ⟨G, rfl, rfl⟩)
  · refine ⟨rfl, ?_⟩
    refine ⟨fun q => absurd rfl (ne_of' q), fun _ => go 300 ?_⟩
    show Goes _ _ _ _
    refine goes_loop ?_
    refine go 300 ?_
    refine ⟨fun q => absurd (lt_of q) (by decide), fun _ => go 300 ?_⟩
    exact ⟨trivial, rfl, rfl, rfl, behZ 0⟩
  · refine ⟨rfl, ?_⟩
    refine ⟨fun q => absurd rfl (ne_of' q), fun _ => go 300 ?_⟩
    refine ⟨rfl, ?_⟩
    show Goes _ _ _ _
    refine goes_iter (ι := Nat) (fun i => i ≤ l.length ∧ (l.take i).all formedB = true) (fun i => l.length - i) (fun i => [(31, .int .i64 i), (30, .int .i64 l.length), (29, .osl (.loc 4) G 0 l.length), (8, .osl (.loc 4) G 0 l.length)])
      (fun i => [some (.box (opV b).cells), some (.box (opV a).cells), some (.box (opV b).cells), some (.box (opV a).cells), some (.vec G 11 (((l.take i).map bareO ++ l.drop i).map opV))]) 0 300 (fun _ => rfl) (fun _ => rfl) ⟨⟨Nat.zero_le _, by simp⟩, ⟨⟨rfl, rfl⟩, ⟨rfl, rfl⟩, ⟨rfl, rfl⟩, ⟨rfl, rfl⟩, trivial⟩, ⟨⟨rfl, rfl⟩, ⟨rfl, rfl⟩, ⟨rfl, rfl⟩, ⟨rfl, rfl⟩, ⟨rfl, rfl⟩, trivial⟩⟩ ?_
    rintro i ⟨k1, k2⟩ next
    refine ⟨fun hlt => go 300 ?_, fun hge => go 300 ?_⟩
    · have hi : i < l.length := by have := lt_of hlt; omega
      have hx : ((((l.take i).map bareO ++ l.drop i).map opV))[0 + ((i : Nat) : Int).toNat]? = some (opV l[i]) := by
        simp [List.getElem?_append_right, hi, Nat.min_eq_left (Nat.le_of_lt hi)]
      have hok := hrok l[i] (List.getElem_mem hi)
      refine ⟨rfl, Int.natCast_nonneg i, by omega, rfl, _, hx, ?_⟩
      show CallThen _ _ _ _ _ _
      refine call_pure (w_Formed l[i] hok.lt hok.each) rfl ?_
      rintro x rfl
      refine ⟨fun g3 => go 300 ?_, fun g3 => go 300 ?_⟩
      · have g3 : formedB l[i] = false := by simpa using g3
        have e : l.all formedB = false := List.all_eq_false.2 ⟨l[i], List.getElem_mem hi, by simpa using g3⟩
        rw [e]
        exact ⟨trivial, rfl, rfl, rfl, behZ 3⟩
      have g3 : formedB l[i] = true := by simpa using g3
      show CallThen _ _ _ _ _ _
      refine call_pure (w_Bare l[i] hok.lt) rfl ?_
      rintro x rfl
      refine ⟨rfl, Int.natCast_nonneg i, by omega, rfl, _, hx, ?_⟩
      refine ⟨by constructor <;> omega, ?_⟩
      show Goes _ _ _ _
      refine next (i + 1) _ _ ⟨⟨hi, ?_⟩, by omega, ⟨⟨rfl, rfl⟩, ⟨rfl, rfl⟩, ⟨rfl, rfl⟩, ⟨rfl, rfl⟩, trivial⟩, ⟨⟨rfl, rfl⟩, ⟨rfl, rfl⟩, ⟨rfl, rfl⟩, ⟨rfl, rfl⟩, ⟨?_, rfl⟩, trivial⟩⟩
      · rw [List.take_succ_eq_append_getElem hi, List.all_append, k2]
        simp [g3]
      · show some (HObj.vec G 11 (((((l.take i).map bareO ++ l.drop i).map opV)).set (0 + ((i : Nat) : Int).toNat) (opV (bareO l[i])))) = _
        rw [set_step hi]
    · have hi : i = l.length := by have := not_lt_of hge; omega
      subst hi
      rw [List.take_length] at k2
      rw [k2]
      refine ⟨trivial, rfl, rfl, rfl, by simp, rfl, ?_⟩
      refine ⟨BehV (l.map bareO, 0), ?_, rfl, rfl⟩
      simp [BehV, opsV]
      exact Wk.refl _

def bothO (a b : OpT) (prior : Bool) : List OpT × List OpT × Int :=
  bif decide ((behindO a b prior).2 = 0) then (bif decide ((behindO b a (!prior)).2 = 0) then ((behindO a b prior).1, (behindO b a (!prior)).1, 0) else ([], [], (behindO b a (!prior)).2)) else ([], [], (behindO a b prior).2)
def BothV (r : List OpT × List OpT × Int) : V := .tup [opsV r.1, opsV r.2.1, .int .i64 r.2.2]
theorem bothZ (e : Int) : ∃ y, Wk (.tup [.nilsl, .nilsl, .int .i64 e]) y ∧ y.pureB = true ∧ y = BothV ([], [], e) := ⟨BothV ([], [], e), Wk.tup ⟨Wk.nil 11, Wk.nil 11, .refl _, trivial⟩, rfl, rfl⟩
set_option maxRecDepth 100000 in
theorem w_Both (a b : OpT) (prior : Bool) (ha : a.Ok) (hb : b.Ok) (he : bothEdit b a = false) (hto : a.to.length ≤ 1000 ∧ b.to.length ≤ 1000) :
    Pure Try.prog 18 [opV a, opV b, .bool prior] (fun x => x = BothV (bothO a b prior)) := by
  refine pure_wk (pure_fn 300 Try.func18 rfl rfl rfl fun B => ?_)
  show CallThen _ _ _ _ _ _
  refine call_pure (w_Behind a b prior hb ha (by rw [bothEdit_comm]; exact he) ⟨hto.2, hto.1⟩) rfl ?_
  rintro x rfl
  refine ⟨fun g1 => go 300 ?_, fun g1 => go 300 ?_⟩
  · have g1 : (behindO a b prior).2 ≠ 0 := ne_of' g1
    have e : bothO a b prior = ([], [], (behindO a b prior).2) := by unfold bothO; rw [decide_eq_false g1]; rfl
    rw [e]
    exact ⟨trivial, rfl, rfl, rfl, bothZ _⟩
  have g1 : (behindO a b prior).2 = 0 := eq_of' g1
  show CallThen _ _ _ _ _ _
  refine call_pure (w_Behind b a (!prior) ha hb he hto) rfl ?_
  rintro x rfl
  refine ⟨fun g2 => go 300 ?_, fun g2 => go 300 ?_⟩
  · have g2 : (behindO b a (!prior)).2 ≠ 0 := ne_of' g2
    have e : bothO a b prior = ([], [], (behindO b a (!prior)).2) := by unfold bothO; rw [decide_eq_true g1, decide_eq_false g2]; rfl
    rw [e]
    exact ⟨trivial, rfl, rfl, rfl, bothZ _⟩
  have g2 : (behindO b a (!prior)).2 = 0 := eq_of' g2
  have e : bothO a b prior = ((behindO a b prior).1, (behindO b a (!prior)).1, 0) := by unfold bothO; rw [decide_eq_true g1, decide_eq_true g2]; rfl
  rw [e]
  exact ⟨trivial, rfl, rfl, rfl, BothV ((behindO a b prior).1, (behindO b a (!prior)).1, 0), Wk.refl _, rfl, rfl⟩
end Bow
