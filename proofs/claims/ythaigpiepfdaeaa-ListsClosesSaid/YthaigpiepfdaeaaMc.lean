/- The library, part 3: AE21, AE22, AE23, AE24, AE25, AE26, AE27, AE28, AE29, AE30, AE31, AE32, TR1, TR2, SP1, AE33, AE34, AE35, SP2, SP3, SP4, SP5, SP6, SP7, SP8, SP10, SP11, SP12, SP13, SP14, SP21, SP22. -/
import Derived.Test.YthaigpiepfdaeaaMb
import Derived.Laws.MakeOwn
import Derived.Orders
import Derived.RangeFuncIn
import Derived.RangeFuncRecord
import Derived.Laws.BytesArg
import Derived.Lib.Bytealg
/- AE21: operations that make an object, into a reserved name. -/
namespace Bow
open Go

variable {c : Cx} {ops : Array Oper} {i : Nat} {o : Oper} {E : Env} {T : Heap} {gs : List Tmp} {F : Prop}

def kill1 : V → List (Nat × Option HObj)
  | .osl (.loc k) _ _ _ => [(k, none)]
  | _ => []
def killL : List V → List (Nat × Option HObj)
  | [] => []
  | v :: vs => kill1 v ++ killL vs
def killV : V → List (Nat × Option HObj)
  | .agg cs => killL cs
  | .tup cs => killL cs
  | v => kill1 v
def killsOf : List V → List (Nat × Option HObj)
  | [] => []
  | v :: vs => killV v ++ killsOf vs
def keysOf : List (Nat × Option HObj) → List Nat
  | [] => []
  | e :: es => e.1 :: keysOf es

theorem app_append : ∀ (e1 e2 : List (Nat × Option HObj)) (T : Heap), app T (e1 ++ e2) = app (app T e1) e2
  | [], _, _ => rfl
  | (k, o) :: e1, e2, T => by rw [List.cons_append, app, app, app_append e1 e2]
theorem app_get : ∀ (es : List (Nat × Option HObj)) (T T' : Heap) (k : Nat), T.length = T'.length → T[k]? = T'[k]? → (app T es)[k]? = (app T' es)[k]?
  | [], _, _, _, _, h => h
  | (j, o) :: es, T, T', k, hl, h => by
    rw [app, app]
    refine app_get es _ _ k (by simp [hl]) ?_
    by_cases e : j = k
    · subst e
      simp [List.getElem?_set, hl]
    · rw [List.getElem?_set_ne e, List.getElem?_set_ne e, h]
theorem app_other : ∀ (es : List (Nat × Option HObj)) (T : Heap) (k : Nat), k ∉ keysOf es → (app T es)[k]? = T[k]?
  | [], _, _, _ => rfl
  | (j, o) :: es, T, k, h => by
    simp only [keysOf, List.mem_cons, not_or] at h
    rw [app, app_other es _ k h.2, List.getElem?_set_ne (fun e => h.1 e.symm)]
theorem keysOf_append (a b : List (Nat × Option HObj)) : keysOf (a ++ b) = keysOf a ++ keysOf b := by
  induction a with
  | nil => rfl
  | cons x a ih => simp [keysOf, ih]

theorem frz1_det {v : V} {T : Heap} {K : V → Heap → Prop} (h : frz1 v T F K) : F ∨ ∃ v', K v' (app T (kill1 v)) ∧ ∀ T', (∀ k ∈ keysOf (kill1 v), T'[k]? = T[k]?) → ∀ F' K', K' v' (app T' (kill1 v)) → frz1 v T' F' K' := by
  unfold frz1 at h
  split at h
  · rename_i k g l
    split at h
    · rename_i g' sz xs hk
      obtain ⟨h1, h2, h⟩ := h
      rw [lset_eq] at h
      refine .inr ⟨_, h, fun T' hT F' K' hk' => ?_⟩
      unfold frz1
      simp only
      rw [lget_eq, hT k (by simp [kill1, keysOf]), ← lget_eq, hk]
      refine ⟨h1, h2, ?_⟩
      rw [lset_eq]
      exact hk'
    · exact .inl h
  · rename_i hv
    cases hp : v.pureB with
    | false => rw [hp] at h; exact .inl h
    | true =>
      rw [hp] at h
      have hkl : kill1 v = [] := by
        cases v with
        | osl r _ _ _ => cases r <;> first | rfl | cases hp
        | _ => rfl
      rw [hkl]
      refine .inr ⟨_, h, fun T' _ F' K' hk' => ?_⟩
      unfold frz1
      split
      · rename_i k g l
        cases hp
      · rw [hp]
        exact hk'
theorem frzL_det : ∀ (vs : List V) (T : Heap) (K : List V → Heap → Prop), frzL vs T F K → F ∨ ∃ vs', K vs' (app T (killL vs)) ∧ ∀ T', T'.length = T.length → (∀ k ∈ keysOf (killL vs), T'[k]? = T[k]?) → ∀ F' K', K' vs' (app T' (killL vs)) → frzL vs T' F' K'
  | [], T, K, h => .inr ⟨[], h, fun T' _ _ F' K' hk => hk⟩
  | v :: vs, T, K, h => by
    rw [frzL, fv_eq] at h
    rcases frz1_det h with h | ⟨v', h, h1⟩
    · exact .inl h
    rcases frzL_det vs _ _ h with h | ⟨vs', h, h2⟩
    · exact .inl h
    refine .inr ⟨v' :: vs', by rw [killL, app_append]; exact h, fun T' hl hT F' K' hk => ?_⟩
    rw [killL, keysOf_append] at hT
    rw [killL, app_append] at hk
    rw [frzL, fv_eq]
    exact h1 T' (fun k hk => hT k (List.mem_append_left _ hk)) F' _ (h2 _ (by rw [app_length, app_length]; exact hl) (fun k hk => app_get _ _ _ k hl (hT k (List.mem_append_right _ hk))) F' _ hk)
theorem frz_det {v : V} {T : Heap} {K : V → Heap → Prop} (h : frz v T F K) : F ∨ ∃ v', K v' (app T (killV v)) ∧ ∀ T', T'.length = T.length → (∀ k ∈ keysOf (killV v), T'[k]? = T[k]?) → ∀ F' K', K' v' (app T' (killV v)) → frz v T' F' K' := by
  have gen : ∀ u : V, frz u T F K → (frz u T F K = frz1 u T F K) → killV u = kill1 u → (∀ T' F' K', frz u T' F' K' = frz1 u T' F' K') →
      F ∨ ∃ v', K v' (app T (killV u)) ∧ ∀ T', T'.length = T.length → (∀ k ∈ keysOf (killV u), T'[k]? = T[k]?) → ∀ F' K', K' v' (app T' (killV u)) → frz u T' F' K' := by
    intro u hu e1 e2 e3
    rw [e1] at hu
    rcases frz1_det hu with h | ⟨v', h, h1⟩
    · exact .inl h
    · refine .inr ⟨v', by rw [e2]; exact h, fun T' hl hT F' K' hk => ?_⟩
      rw [e3]
      rw [e2] at hT hk
      exact h1 T' hT F' _ hk
  cases v with
  | agg cs =>
    rcases frzL_det _ _ _ h with h | ⟨vs', h, h1⟩
    · exact .inl h
    · exact .inr ⟨_, h, fun T' hl hT F' K' hk => h1 T' hl hT F' _ hk⟩
  | tup cs =>
    rcases frzL_det _ _ _ h with h | ⟨vs', h, h1⟩
    · exact .inl h
    · exact .inr ⟨_, h, fun T' hl hT F' K' hk => h1 T' hl hT F' _ hk⟩
  | _ => exact gen _ h rfl rfl fun _ _ _ => rfl
theorem frzAll_det : ∀ (vs : List V) (T : Heap) (K : List V → Heap → Prop), frzAll vs T F K → F ∨ ∃ vs', K vs' (app T (killsOf vs)) ∧ ∀ T', T'.length = T.length → (∀ k ∈ keysOf (killsOf vs), T'[k]? = T[k]?) → ∀ F' K', K' vs' (app T' (killsOf vs)) → frzAll vs T' F' K'
  | [], T, K, h => .inr ⟨[], h, fun T' _ _ F' K' hk => hk⟩
  | v :: vs, T, K, h => by
    rw [frzAll, fv_eq] at h
    rcases frz_det h with h | ⟨v', h, h1⟩
    · exact .inl h
    rcases frzAll_det vs _ _ h with h | ⟨vs', h, h2⟩
    · exact .inl h
    refine .inr ⟨v' :: vs', by rw [killsOf, app_append]; exact h, fun T' hl hT F' K' hk => ?_⟩
    rw [killsOf, keysOf_append] at hT
    rw [killsOf, app_append] at hk
    rw [frzAll, fv_eq]
    exact h1 T' hl (fun k hk => hT k (List.mem_append_left _ hk)) F' _ (h2 _ (by rw [app_length, app_length]; exact hl) (fun k hk => app_get _ _ _ k hl (hT k (List.mem_append_right _ hk))) F' _ hk)

/-! ### The makers -/
def memB : List Nat → Nat → Bool
  | [], _ => false
  | x :: xs, n => Nat.beq x n || memB xs n
theorem memB_iff : ∀ (xs : List Nat) (n : Nat), memB xs n = true ↔ n ∈ xs
  | [], n => by simp [memB]
  | x :: xs, n => by
    have h : Nat.beq x n = true ↔ n = x := ⟨fun h => (Nat.eq_of_beq_eq_true h).symm, fun h => by subst h; exact Nat.beq_refl n⟩
    simp [memB, memB_iff xs n, h]

/-- A maker's value, object, the own slices that it freezes, the objects that it looks at. -/
def evMk (c : Cx) (o : Op) (E : Env) (T : Heap) (p : Nat) (K : V → HObj → List (Nat × Option HObj) → List Nat → Prop) : Prop :=
  match o with
  | .box t x => match tyI c.P t, lget T p with
    | some _, some (some (.box [])) => fv (opd E x) fun v => onesB v.cells = true ∧ K (.ptr (.loc p) 0) (.box v.cells) [] []
    | _, _ => False
  | .alloc t => match zeroOf c.P t, lget T p with
    | some z, some (some (.box [])) => onesB z.cells = true ∧ K (.ptr (.loc p) 0) (.box z.cells) [] []
    | _, _ => False
  | .buildSlice t len ps => match tyU c.P t, lget T p with
    | some (.slice e), some (some (.vec 0 0 [])) => match tyI c.P e with
      | some i => match i.zero with
        | some _ => (Nat.beq (lcount ps.toList 0) len && Nat.ble (len * i.size) 16777216 && Nat.ble 1 i.size) = true ∧ elems E ps.toList 0 (fun vs => frzAll vs T False fun vs' _ =>
          okEs i.size vs' ∧ memB (keysOf (killsOf vs)) p = false ∧ K (.osl (.loc p) 2 0 len) (.vec 2 i.size vs') (killsOf vs) (keysOf (killsOf vs))) False
        | none => False
      | none => False
    | _, _ => False
  | .makeSlice t xl xc => match tyU c.P t, lget T p, opd E xl, opd E xc with
    | some (.slice e), some (some (.vec 0 0 [])), .int .i64 n, .int .i64 n' => match tyI c.P e with
      | some ti => match ti.zero with
        | some z => (0 ≤ n ∧ n' = n ∧ ti.bytes * n.toNat ≤ 281474976710656) ∧ (Nat.beq z.cells.size ti.size && Nat.ble 1 ti.size && Nat.ble 1 ti.bytes && onesB (ofVal z).cells && Nat.beq (lcount (ofVal z).cells 0) ti.size) = true ∧ K (.osl (.loc p) 2 0 n.toNat) (.vec 2 ti.size (List.replicate n.toNat (ofVal z))) [] []
        | none => False
      | none => False
    | _, _, _, _ => False
  | .call { callee := .builtin .append, args, argTypes } => match args.toList, argTypes.toList, lget T p with
    | [x, y], [t, t'], some (some (.vec 0 0 [])) => match tyU c.P t', tyU c.P t with
      | some (.slice _), some (.slice e) => match tyI c.P e with
        | some i => match i.zero with
          | some z => isNilsl (opd E x) = true ∧ (Nat.ble 1 i.size && Nat.beq z.cells.size i.size && Nat.ble 1 i.bytes) = true ∧ appSrc (opd E y) i.size T False fun ys => room ys.length i.bytes ∧ K (.osl (.loc p) 2 0 ys.length) (.vec 2 i.size ys) [] (vloc (opd E y))
          | none => False
        | none => False
      | _, _ => False
    | _, _, _ => False
  | _ => False

theorem fact_box {t : TypeId} {x : Operand} {p : Nat} (ho : ops[i]? = some o) (hop : o.op = .box t x) (hg : Guarded ops o E gs true) (hd : T[p]? = some (some (.box []))) (h1 : onesB (opd E x).cells = true) :
    Fact c ops i E T ⟨o.dst, gs ++ tmpsOf o.op.operands.toList, [], .ptr (.loc p) 0, [] ++ [(p, some (.box (opd E x).cells))], some p⟩ := by
  refine fact_into ho hg (fun cl e => by rw [hop] at e; cases e) hd fun E' T' _ hE _ hT' w β H m a q hs hp hv => ?_
  have hx : opd E' x = opd E x := hE x (by rw [hop]; simp [Op.operands])
  have hr : Rep w β H ((opd E' x).conv m) (a.eval x) := opd_rep hs x
  rw [hx] at hr
  obtain ⟨hl, hc, _⟩ := rep_cells hr (by rw [cells_conv, onesB_conv]; exact h1)
  rw [cells_conv] at hl hc
  obtain ⟨β', H', k1, k2, k3, k4⟩ := hs.intoBox hp hv hT' (opd E x).cells (a.eval x).cells t (by rw [V.convL_eq] at hl; simpa using hl) hc
  exact ⟨_, _, β', H', by simp [execOp, hop, Instr.box, newVar, newRow], k1, k2, fun r _ hne hn => by rw [k3 r hne]; exact hn, k4⟩

theorem fact_alloc {t : TypeId} {z : V} {p : Nat} (ho : ops[i]? = some o) (hop : o.op = .alloc t) (hg : Guarded ops o E gs true) (hd : T[p]? = some (some (.box []))) (hz : zeroOf c.P t = some z) (h1 : onesB z.cells = true) :
    Fact c ops i E T ⟨o.dst, gs ++ tmpsOf o.op.operands.toList, [], .ptr (.loc p) 0, [] ++ [(p, some (.box z.cells))], some p⟩ := by
  obtain ⟨it, v, hi, hv, rfl⟩ := zeroOf_sound hz
  refine fact_into ho hg (fun cl e => by rw [hop] at e; cases e) hd fun E' T' _ hE _ hT' w β H m a q hs hp hvq => ?_
  have hzr : RowRep w β H (V.convL m (ofVal v).cells) v.cells.toList := ofVal_row m v
  obtain ⟨β', H', k1, k2, k3, k4⟩ := hs.intoBox hp hvq hT' (ofVal v).cells v.cells t (by have := hzr.1; rw [V.convL_eq] at this; simpa using this) (fun j c u e1 e2 => hzr.2 j c u e1 (by simpa using e2))
  exact ⟨_, _, β', H', by simp [execOp, hop, Instr.alloc, run_zeroValue' hi hv, newVar, newRow], k1, k2, fun r _ hne hn => by rw [k3 r hne]; exact hn, k4⟩

theorem fact_buildSlice {t e : TypeId} {len : Nat} {ps : Array (Nat × Operand)} {ti : TypeInfo} {z : Value} {vs' : List V} {p : Nat} (ho : ops[i]? = some o) (hop : o.op = .buildSlice t len ps) (hg : Guarded ops o E gs true) (hd : T[p]? = some (some (.vec 0 0 [])))
    (ht : tyU c.P t = some (.slice e)) (hi : tyI c.P e = some ti) (hz : ti.zero = some z) (hlen : ps.toList.length = len) (hsm : len * ti.size ≤ 16777216) (hsz : 0 < ti.size)
    (hparts : ∀ f : Operand → Value, (ps.toList.map fun p => (p.1, f p.2)) = ((ps.toList.map fun p => f p.2).zipIdx 0).map fun x => (x.2, x.1))
    (hfz : ∀ T', T'.length = T.length → (∀ k ∈ keysOf (killsOf (ps.toList.map fun p => opd E p.2)), T'[k]? = T[k]?) → ∀ F' K', K' vs' (app T' (killsOf (ps.toList.map fun p => opd E p.2))) → frzAll (ps.toList.map fun p => opd E p.2) T' F' K')
    (hok : okEs ti.size vs') (hp : p ∉ keysOf (killsOf (ps.toList.map fun p => opd E p.2))) :
    Fact c ops i E T ⟨o.dst, gs ++ tmpsOf o.op.operands.toList, keysOf (killsOf (ps.toList.map fun p => opd E p.2)), .osl (.loc p) 2 0 len, killsOf (ps.toList.map fun p => opd E p.2) ++ [(p, some (.vec 2 ti.size vs'))], some p⟩ := by
  intro E' T' e1 e2 e3 w β H m a b cs rest k hs k1 k2 k4
  have key := fact_into (c := c) (ops := ops) (i := i) (o := o) (E := E) (T := T) (gs := gs) (p := p) (x := .osl (.loc p) 2 0 len) (ob := .vec 2 ti.size vs') (d := .vec 0 0 []) (kills := killsOf (ps.toList.map fun p => opd E p.2))
    (tc := keysOf (killsOf (ps.toList.map fun p => opd E p.2))) ho hg (fun cl e => by rw [hop] at e; cases e) hd
  refine key ?_ E' T' e1 e2 e3 w β H m a b cs rest k hs k1 k2 k4
  intro E' T' hl hE htc hT' w β H m a q hs hpq hv
  have hvs : (ps.toList.map fun p => opd E' p.2) = ps.toList.map fun p => opd E p.2 := List.map_congr_left fun p hp => hE _ (by rw [hop]; simp only [Op.operands]; exact List.mem_map.2 ⟨p, hp, rfl⟩)
  rcases frzAll_sound (F := False) _ T' (fun ys T1 => ys = vs' ∧ T1 = app T' (killsOf (ps.toList.map fun p => opd E p.2))) (hfz T' hl htc False _ ⟨rfl, rfl⟩) with h | ⟨ys, T1, ⟨rfl, rfl⟩, hto⟩
  · exact h.elim
  rw [← hvs] at hto
  obtain ⟨H', cells, g1, g2, hrun, c1, c2, c3, c4⟩ := buildSlice_core (c := c) ht hi hz hlen hsm hsz hparts hto (okEs_iff hok) hop hs
  have hTp : (app T' (killsOf (ps.toList.map fun p => opd E p.2)))[p]? = some (some (.vec 0 0 [])) := by rw [app_other _ _ _ hp]; exact hT'
  rw [hvs] at g1
  obtain ⟨β', H'', q1, q2, q3, q4⟩ := g1.intoVec hpq hv hTp ti.size ys cells e len len hsz (okEs_iff hok) c1 (Nat.le_refl _) c2 c3 c4
  rw [app_append]
  exact ⟨_, _, β', H'', hrun, q1, g2.toFr0.trans q2, fun r _ hne hn => by rw [q3 r hne]; exact hn, q4⟩

theorem append_nil_core {t t' : TypeId} {x y : Operand} {e : TypeId} {ti : TypeInfo} {z : Value} {ys : List V} (ht : tyU c.P t = some (.slice e)) {e' : TypeId} (ht' : tyU c.P t' = some (.slice e')) (hi : tyI c.P e = some ti) (hz : ti.zero = some z)
    (hb : (Nat.ble 1 ti.size && Nat.beq z.cells.size ti.size && Nat.ble 1 ti.bytes) = true) (hx : opd E x = .nilsl) (hroom : room ys.length ti.bytes)
    {o : Oper} (ho : o.op = .call { callee := .builtin .append, args := #[x, y], argTypes := #[t, t'] }) {w : World} {β : Nat → Loc} {H : Heap} {m : List Nat} {a : Act} (hs : SRel c.imps c.nt w β H m ⟨E, T, c.B, c.D⟩ a)
    (hsrc : (∀ y ∈ ys, okE ti.size y) ∧ ∃ news, SrcIs c.P w ti.size (a.eval y) ys.length news ∧ (∀ (k : Nat) (c : V) (u : Value), (flat ys)[k]? = some c → news[k]? = some u → Rep w β H c u)) :
    (ys = [] ∧ (execOp a.eval o).run c.P w = .ok (.value (.slice none 0 0)) w) ∨
    ∃ (vs : Array Value) (cap : Nat), (execOp a.eval o).run c.P w = .ok (.value (.slice (some ⟨w.heap.size, 0, none⟩) ys.length cap)) (w.drew.alloc (.cells vs e)) ∧ ys.length ≤ cap ∧ cap ≤ maxLen ∧ cap * ti.size = vs.size ∧
      (∀ (i : Nat) (x : V) (j : Nat) (c : V) (v : Value), ys[i]? = some x → x.cells[j]? = some c → vs[i * ti.size + j]? = some v → Rep w β H c v) := by
  have ht := tyU_sound ht
  have ht' := tyU_sound ht'
  have hI := tyI_sound hi
  simp only [Bool.and_eq_true] at hb
  have hsz : 0 < ti.size := Nat.le_of_ble_eq_true hb.1.1
  have hzs : z.cells.size = ti.size := Nat.eq_of_beq_eq_true hb.1.2
  have hby : 1 ≤ ti.bytes := Nat.le_of_ble_eq_true hb.2
  have exec : ∀ (w w' : World) (v : Value), (Builtin.append_ #[t, t'] o.type #[a.eval x, a.eval y]).run c.P w = .ok v w' → (execOp a.eval o).run c.P w = .ok (.value v) w' := by
    intro w w' v hr
    simp [execOp, ho, resolve, invoke, builtin, hr]
  have small : ∀ n, room n ti.bytes → n ≤ 70368744177664 := fun n hn => by
    unfold room at hn
    exact Nat.le_trans (Nat.le_mul_of_pos_right n hby) hn
  obtain ⟨hok, news, hsI, hrep⟩ := hsrc
  have hv := opd_rep hs x
  simp only [hx, V.conv] at hv
  generalize hq : a.eval x = q at hv
  cases hv
  by_cases hm : ys.length = 0
  · have hys : ys = [] := List.eq_nil_of_length_eq_zero hm
    subst hys
    have hnews : news = [] := List.eq_nil_of_length_eq_zero (by simpa using hsI.size)
    subst hnews
    exact .inl ⟨rfl, exec w w _ (by rw [hq]; exact run_append_none ht ht' hI o.type hsI (Nat.zero_le _))⟩
  · have hfl := flat_length ys hok
    have hro : RowRep w β H (flat ys) news := ⟨by rw [hfl, hsI.size], hrep⟩
    have hle := small _ hroom
    have hroom' : (0 + ys.length) * ti.bytes ≤ 70368744177664 := by rw [Nat.zero_add]; exact hroom
    have holds : SrcIs c.P w ti.size (.slice none 0 0) 0 [] := SrcIs.of_cells (by simp) (fun hne => absurd rfl hne)
    have hrun := run_append_more (P := c.P) (w := w) ht ht' hI hz o.type hsI holds (by omega) (by omega) (growslice_fits (by omega) (by omega))
    simp only [Nat.zero_add, List.nil_append] at hrun
    have hge := grownCap_ge w ys.length 0 e
    have hcm := grownCap_le_maxLen w ys.length 0 e (by unfold maxLen; omega)
    obtain ⟨cap, hcap⟩ : ∃ cap, cap = grownCap w ys.length 0 e := ⟨_, rfl⟩
    rw [← hcap] at hge hcm hrun
    have hvec := vec_of_row (vs := news.toArray ++ Builtin.zeroCells z.cells (cap - ys.length)) hok hro (fun k hk => by rw [Array.getElem?_append_left (by simpa using hk)]; simp)
    have hvsz : (news.toArray ++ Builtin.zeroCells z.cells (cap - ys.length)).size = cap * ti.size := by
      simp only [Array.size_append, List.size_toArray, zeroCells_size', hzs, hsI.size, ← Nat.add_mul]
      congr 1
      omega
    exact .inr ⟨_, cap, exec w _ _ (by rw [hq]; exact hrun), hge, hcm, hvsz.symm, hvec.2⟩

theorem fact_append {t t' e e' : TypeId} {x y : Operand} {ti : TypeInfo} {z : Value} {ys : List V} {p : Nat} (ho : ops[i]? = some o) (hop : o.op = .call { callee := .builtin .append, args := #[x, y], argTypes := #[t, t'] }) (hg : Guarded ops o E gs true)
    (hd : T[p]? = some (some (.vec 0 0 []))) (ht : tyU c.P t = some (.slice e)) (ht' : tyU c.P t' = some (.slice e')) (hi : tyI c.P e = some ti) (hz : ti.zero = some z) (hb : (Nat.ble 1 ti.size && Nat.beq z.cells.size ti.size && Nat.ble 1 ti.bytes) = true)
    (hx : opd E x = .nilsl) (hroom : room ys.length ti.bytes) (hsrc : ∀ T', (∀ k ∈ vloc (opd E y), T'[k]? = T[k]?) → ∀ F' K', K' ys → appSrc (opd E y) ti.size T' F' K') :
    Fact c ops i E T ⟨o.dst, gs ++ tmpsOf o.op.operands.toList, vloc (opd E y), .osl (.loc p) 2 0 ys.length, [] ++ [(p, some (.vec 2 ti.size ys))], some p⟩ := by
  refine fact_into ho hg (fun cl e => by rw [hop] at e; cases e) hd fun E' T' _ hE htc hT' w β H m a q hs hp hv => ?_
  have hx' : opd E' x = .nilsl := by rw [hE x (by rw [hop]; simp [Op.operands, Call.operands])]; exact hx
  have hy' : opd E' y = opd E y := hE y (by rw [hop]; simp [Op.operands, Call.operands])
  have hsz : 0 < ti.size := by
    simp only [Bool.and_eq_true] at hb
    exact Nat.le_of_ble_eq_true hb.1.1
  have hs1 := hsrc T' htc False (fun zs => zs = ys) rfl
  rw [← hy'] at hs1
  rcases appSrc_sound hsz hs1 with h | ⟨zs, rfl, hs2⟩
  · exact h.elim
  have hs3 := hs2 _ _ w β H m _ _ a c.P hs
  rcases append_nil_core (c := c) ht ht' hi hz hb hx' hroom hop hs hs3 with ⟨rfl, hrun⟩ | ⟨vs, cap, hrun, c1, c2, c3, c4⟩
  · obtain ⟨β', H', k1, k2, k3, k4⟩ := hs.intoNil hp hv hT' ti.size none
    exact ⟨_, _, β', H', hrun, k1, k2, fun r _ hne hn => by rw [k3 r hne]; exact hn, k4⟩
  · have hf0 : Fr w β H w.drew β H := Fr.of_heap rfl rfl rfl rfl
    have hsame : SRel c.imps c.nt w.drew β H m ⟨E', T', c.B, c.D⟩ a := hs.same hf0 (hs.hrel.of_heap rfl rfl rfl rfl)
    obtain ⟨β', H', k1, k2, k3, k4⟩ := hsame.intoVec hp hv hT' ti.size zs vs e zs.length cap hsz hs3.1 rfl c1 c2 c3 (fun i x j c v h1 h2 h3 => (c4 i x j c v h1 h2 h3).mono hf0)
    exact ⟨_, _, β', H', hrun, k1, hf0.toFr0.trans k2, fun r _ hne hn => by rw [k3 r hne]; exact hn, k4⟩

theorem madeCells_get (z : Array Value) (n j : Nat) (hj : j < n) (_hz : 0 < z.size) : (madeCells z n)[j]? = some z[j % z.size]! := by
  simp [madeCells, hj]
theorem fact_make {t e : TypeId} {xl xc : Operand} {ti : TypeInfo} {z : Value} {N p : Nat} (ho : ops[i]? = some o) (hop : o.op = .makeSlice t xl xc) (hg : Guarded ops o E gs true) (hd : T[p]? = some (some (.vec 0 0 [])))
    (h1 : opd E xl = .int .i64 N) (h2 : opd E xc = .int .i64 N) (ht : tyU c.P t = some (.slice e)) (hi : tyI c.P e = some ti) (hz : ti.zero = some z)
    (hsz : (Nat.beq z.cells.size ti.size && Nat.ble 1 ti.size && Nat.ble 1 ti.bytes && onesB (ofVal z).cells && Nat.beq (lcount (ofVal z).cells 0) ti.size) = true) (hb : ti.bytes * N ≤ 281474976710656) :
    Fact c ops i E T ⟨o.dst, gs ++ tmpsOf o.op.operands.toList, [], .osl (.loc p) 2 0 N, [] ++ [(p, some (.vec 2 ti.size (List.replicate N (ofVal z))))], some p⟩ := by
  simp only [Bool.and_eq_true, lcount_eq, Nat.add_zero] at hsz
  obtain ⟨⟨⟨⟨s1, s2⟩, s3⟩, s4⟩, s5⟩ := hsz
  have s1 := Nat.eq_of_beq_eq_true s1
  have s2 : 1 ≤ ti.size := Nat.le_of_ble_eq_true s2
  have s3 : 1 ≤ ti.bytes := Nat.le_of_ble_eq_true s3
  have s5 := Nat.eq_of_beq_eq_true s5
  have hN : N ≤ 281474976710656 := by
    have : 1 * N ≤ ti.bytes * N := Nat.mul_le_mul_right _ s3
    omega
  refine fact_into ho hg (fun cl e => by rw [hop] at e; cases e) hd fun E' T' _ hE _ hT' w β H m a q hs hp hv => ?_
  have h1' : opd E' xl = .int .i64 N := by rw [hE xl (by rw [hop]; simp [Op.operands])]; exact h1
  have h2' : opd E' xc = .int .i64 N := by rw [hE xc (by rw [hop]; simp [Op.operands])]; exact h2
  have e1 := rep_int (by have := opd_rep hs xl; rwa [h1'] at this)
  have e2 := rep_int (by have := opd_rep hs xc; rwa [h2'] at this)
  have hb' : (ti.bytes : Int) * (N : Int) ≤ 281474976710656 := by
    have h : ((ti.bytes * N : Nat) : Int) ≤ 281474976710656 := by omega
    rwa [Int.natCast_mul] at h
  have hrun := run_make (P := c.P) w t e ti z (tyU_sound ht) (tyI_sound hi) hz .i64 .i64 N N (by omega) (by omega) hb' (by omega)
  simp only [Int.toNat_natCast] at hrun
  have hzr : RowRep w β H (V.convL m (ofVal z).cells) z.cells.toList := ofVal_row m z
  have hzp : V.convL m (ofVal z).cells = (ofVal z).cells := by
    refine pureL_conv m _ ?_
    have key1 : ∀ v, (ofVal1 v).pureB = true := fun v => by
      unfold ofVal1
      split <;> first | rfl | skip
      cases (Nat.ble _ 1000000) <;> rfl
    have key : ∀ l : List Value, V.pureL (lmap ofVal1 l) = true := fun l => by
      induction l with
      | nil => rfl
      | cons x l ih => simp only [lmap, V.pureL, key1, ih, Bool.and_self]
    unfold ofVal
    split
    · exact key _
    · rw [ofVal1_cells]
      simp [V.pureL, key1]
  rw [hzp] at hzr
  obtain ⟨β', H', k1, k2, k3, k4⟩ := hs.intoVec hp hv hT' ti.size (List.replicate N (ofVal z)) (madeCells z.cells (N * ti.size)) e N N s2 (fun x hx => by rw [List.eq_of_mem_replicate hx]; exact ⟨s5, s4⟩) (by simp) (Nat.le_refl _) (by unfold maxLen; omega) (by simp [madeCells])
    (fun ix x j cc v hx hj hv => by
      have hxl := lt_of_get hx
      rw [List.length_replicate] at hxl
      have hxe := List.eq_of_mem_replicate (List.mem_of_getElem? hx)
      subst hxe
      have hjl := lt_of_get hj
      have hlt : ix * ti.size + j < N * ti.size := by
        have : (ix + 1) * ti.size ≤ N * ti.size := Nat.mul_le_mul_right _ hxl
        rw [Nat.add_mul] at this
        omega
      rw [madeCells_get z.cells _ _ hlt (by omega)] at hv
      injection hv with hv
      have hmod : (ix * ti.size + j) % z.cells.size = j := by rw [s1, Nat.add_comm, Nat.add_mul_mod_self_right, Nat.mod_eq_of_lt (by omega)]
      rw [hmod] at hv
      refine hzr.2 j cc v hj ?_
      rw [← hv]
      have : j < z.cells.size := by omega
      simp [this])
  refine ⟨_, _, β', H', ?_, k1, k2, fun r _ hne hn => by rw [k3 r hne]; exact hn, k4⟩
  simp only [execOp, hop, Sem.run_bind, e1, e2, hrun, Result.andThen_ok]
  rfl

/-- A maker's keys: the name reserved, and what it freezes. -/
theorem fact_mk {p : Nat} {K : V → HObj → List (Nat × Option HObj) → List Nat → Prop} (ho : ops[i]? = some o) (hg : Guarded ops o E gs true) (h : evMk c o.op E T p K) :
    ∃ x ob kills tc, K x ob kills tc ∧ Fact c ops i E T ⟨o.dst, gs ++ tmpsOf o.op.operands.toList, tc, x, kills ++ [(p, some ob)], some p⟩ ∧ p < T.length := by
  unfold evMk at h
  split at h
  · rename_i t x hop
    split at h
    · rename_i hi hd
      rw [fv_eq] at h
      rw [lget_eq] at hd
      exact ⟨_, _, _, _, h.2, fact_box ho hop hg hd h.1, lt_of_get hd⟩
    · exact h.elim
  · rename_i t hop
    split at h
    · rename_i z hz hd
      rw [lget_eq] at hd
      exact ⟨_, _, _, _, h.2, fact_alloc ho hop hg hd hz h.1, lt_of_get hd⟩
    · exact h.elim
  · rename_i t len ps hop
    split at h
    case h_2 => exact h.elim
    rename_i e ht hd
    rw [lget_eq] at hd
    split at h
    case h_2 => exact h.elim
    rename_i ti hi
    split at h
    case h_2 => exact h.elim
    rename_i z hz
    obtain ⟨hb, h⟩ := h
    simp only [Bool.and_eq_true] at hb
    obtain ⟨⟨hb1, hb2⟩, hb3⟩ := hb
    have hlen := Nat.eq_of_beq_eq_true hb1
    rw [lcount_eq, Nat.add_zero] at hlen
    rcases elems_sound _ _ _ h with h | ⟨h, hparts⟩
    · exact h.elim
    rcases frzAll_det _ _ _ h with h | ⟨vs', ⟨hok, hm, hK⟩, hfz⟩
    · exact h.elim
    refine ⟨_, _, _, _, hK, fact_buildSlice ho hop hg hd ht hi hz hlen (Nat.le_of_ble_eq_true hb2) (Nat.le_of_ble_eq_true hb3) hparts hfz hok fun hmem => ?_, lt_of_get hd⟩
    rw [(memB_iff _ _).2 hmem] at hm
    cases hm
  · rename_i t xl xc hop
    split at h
    case h_2 => exact h.elim
    rename_i e n n' ht hd h1 h2
    rw [lget_eq] at hd
    split at h
    case h_2 => exact h.elim
    rename_i ti hi
    split at h
    case h_2 => exact h.elim
    rename_i z hz
    obtain ⟨⟨h0, hn, hb⟩, hsz, hK⟩ := h
    subst hn
    have e0 : ((n'.toNat : Nat) : Int) = n' := by omega
    exact ⟨_, _, _, _, hK, fact_make ho hop hg hd (N := n'.toNat) (by rw [h1, e0]) (by rw [h2, e0]) ht hi hz hsz hb, lt_of_get hd⟩
  · rename_i args ts hop
    split at h
    case h_2 => exact h.elim
    rename_i x y t t' hx ht0 hd
    rw [lget_eq] at hd
    have hx : args = #[x, y] := by rw [← Array.toArray_toList (xs := args), hx]
    have ht0 : ts = #[t, t'] := by rw [← Array.toArray_toList (xs := ts), ht0]
    subst hx ht0
    split at h
    case h_2 => exact h.elim
    rename_i e' e ht' ht
    split at h
    case h_2 => exact h.elim
    rename_i ti hi
    split at h
    case h_2 => exact h.elim
    rename_i z hz
    obtain ⟨hn, hb, h⟩ := h
    have hx : opd E x = .nilsl := by
      revert hn
      cases opd E x <;> simp [isNilsl]
    rcases appSrc_det h with h | ⟨ys, ⟨hroom, hK⟩, hs⟩
    · exact h.elim
    exact ⟨_, _, _, _, hK, fact_append ho hop hg hd ht ht' hi hz hb hx hroom hs, lt_of_get hd⟩
  · exact h.elim
end Bow
/- AE22: which operations of a region may change places: the check, and what it comes to. -/
namespace Bow
open Go

structure Sig where
  dst : Option Tmp
  reads : List Nat
  touch : List Nat
  keys : List Nat

def disjB : List Nat → List Nat → Bool
  | [], _ => true
  | x :: xs, ys => !memB ys x && disjB xs ys
theorem disjB_iff : ∀ (xs ys : List Nat), disjB xs ys = true → ∀ x ∈ xs, x ∉ ys
  | [], _, _, x, hx, _ => by cases hx
  | y :: xs, ys, h, x, hx, hy => by
    simp only [disjB, Bool.and_eq_true, Bool.not_eq_true'] at h
    rcases List.mem_cons.1 hx with rfl | hx
    · rw [(memB_iff _ _).2 hy] at h
      cases h.1
    · exact disjB_iff xs ys h.2 x hx hy
def optMem (d : Option Tmp) (ys : List Nat) : Bool :=
  match d with
  | none => false
  | some t => memB ys t
def optEq (d e : Option Tmp) : Bool :=
  match d, e with
  | some a, some b => Nat.beq a b
  | _, _ => false
def indB (r s : Sig) : Bool := !optMem r.dst s.reads && !optMem s.dst r.reads && !optEq r.dst s.dst && disjB r.keys s.touch && disjB s.keys r.touch && disjB r.keys s.keys

/-- They may change places. -/
structure Ind (r s : Sig) : Prop where
  rs : ∀ t, r.dst = some t → t ∉ s.reads
  sr : ∀ t, s.dst = some t → t ∉ r.reads
  dd : ∀ t, r.dst = some t → s.dst ≠ some t
  kt : ∀ k ∈ r.keys, k ∉ s.touch
  tk : ∀ k ∈ s.keys, k ∉ r.touch
  kk : ∀ k ∈ r.keys, k ∉ s.keys
theorem Ind.symm {r s : Sig} (h : Ind r s) : Ind s r := ⟨h.sr, h.rs, fun t ht hr => h.dd t hr ht, h.tk, h.kt, fun k hk hk' => h.kk k hk' hk⟩
theorem indB_ind {r s : Sig} (h : indB r s = true) : Ind r s := by
  simp only [indB, Bool.and_eq_true, Bool.not_eq_true'] at h
  obtain ⟨⟨⟨⟨⟨h1, h2⟩, h3⟩, h4⟩, h5⟩, h6⟩ := h
  refine ⟨fun t ht hm => ?_, fun t ht hm => ?_, fun t ht hs => ?_, disjB_iff _ _ h4, disjB_iff _ _ h5, disjB_iff _ _ h6⟩
  · rw [ht] at h1
    simp only [optMem] at h1
    rw [(memB_iff _ _).2 hm] at h1
    cases h1
  · rw [ht] at h2
    simp only [optMem] at h2
    rw [(memB_iff _ _).2 hm] at h2
    cases h2
  · rw [ht, hs] at h3
    simp only [optEq, Nat.beq_refl] at h3
    cases h3

/-! ### Order -/
def maskOf (ms : List Nat) : List Edge → Nat
  | [] => 0
  | e :: es => bif Region.binds .any e then Nat.lor (Nat.lor (2 ^ e.on) ((lget ms e.on).getD 0)) (maskOf ms es) else maskOf ms es
def edgesOk (i : Nat) : List Edge → Bool
  | [] => true
  | e :: es => bif Region.binds .text e then (Nat.blt e.on i && edgesOk i es) else edgesOk i es
/-! An order that the stores' late way takes: each operation behind those that it waits for. -/
def rdyE (done : List Nat) : List Edge → Bool
  | [] => true
  | e :: es => bif Region.binds .gc e then (memN done e.on && rdyE done es) else rdyE done es
def firstR (done : List Nat) : List Oper → Nat → Option Nat
  | [], _ => none
  | o :: os, i => bif !memN done i && rdyE done o.after.toList then some i else firstR done os (i + 1)
def gcOrd (ops : List Oper) : Nat → List Nat → List Nat
  | 0, done => done
  | n + 1, done => match firstR done ops 0 with
    | some i => gcOrd ops n (i :: done)
    | none => done
def coversB (done : List Nat) : Nat → Bool
  | 0 => true
  | n + 1 => memN done n && coversB done n
theorem memN_iff : ∀ (xs : List Nat) (n : Nat), memN xs n = true ↔ n ∈ xs
  | [], n => by simp [memN]
  | x :: xs, n => by
    rw [memN]
    cases hb : Nat.beq x n with
    | true => have := Nat.eq_of_beq_eq_true hb; subst this; simp
    | false =>
      have hne : n ≠ x := fun e => by subst e; simp at hb
      simp only [cond_false, memN_iff xs n, List.mem_cons]
      exact ⟨.inr, fun h => h.resolve_left hne⟩
theorem rdyE_get {done : List Nat} : ∀ (es : List Edge), rdyE done es = true → ∀ e ∈ es, Region.binds .gc e = true → e.on ∈ done
  | [], _, e, he, _ => by cases he
  | x :: es, h, e, he, hb => by
    rw [rdyE] at h
    cases hx : Region.binds .gc x with
    | true =>
      rw [hx] at h
      simp only [cond_true, Bool.and_eq_true] at h
      rcases List.mem_cons.1 he with rfl | he
      · exact (memN_iff _ _).1 h.1
      · exact rdyE_get es h.2 e he hb
    | false =>
      rw [hx] at h
      rcases List.mem_cons.1 he with rfl | he
      · rw [hx] at hb; cases hb
      · exact rdyE_get es h e he hb
theorem firstR_get {done : List Nat} : ∀ (os : List Oper) (i0 i : Nat), firstR done os i0 = some i → ∃ k o, i = i0 + k ∧ os[k]? = some o ∧ rdyE done o.after.toList = true
  | [], _, _, h => by cases h
  | o :: os, i0, i, h => by
    rw [firstR] at h
    cases hb : (!memN done i0 && rdyE done o.after.toList) with
    | true =>
      rw [hb] at h
      injection h with h
      simp only [Bool.and_eq_true] at hb
      exact ⟨0, o, h.symm, rfl, hb.2⟩
    | false =>
      rw [hb] at h
      obtain ⟨k, o', h1, h2, h3⟩ := firstR_get os (i0 + 1) i h
      exact ⟨k + 1, o', by omega, by simpa using h2, h3⟩
inductive GcChain (ops : List Oper) : List Nat → Prop
  | nil : GcChain ops []
  | cons {i o L} (ho : ops[i]? = some o) (hr : rdyE L o.after.toList = true) (h : GcChain ops L) : GcChain ops (i :: L)
theorem gcOrd_chain {ops : List Oper} : ∀ (n : Nat) (L : List Nat), GcChain ops L → GcChain ops (gcOrd ops n L)
  | 0, L, h => h
  | n + 1, L, h => by
    rw [gcOrd]
    split
    · rename_i i hi
      obtain ⟨k, o, h1, h2, h3⟩ := firstR_get _ _ _ hi
      rw [Nat.zero_add] at h1
      subst h1
      exact gcOrd_chain n _ (.cons h2 h3 h)
    · exact h
theorem GcChain.next {ops : List Oper} {S : Nat → Bool} : ∀ {L : List Nat}, GcChain ops L → (∀ i ∈ L, S i = true) ∨ ∃ i o, ops[i]? = some o ∧ S i = false ∧ ∀ e ∈ o.after.toList, Region.binds .gc e = true → S e.on = true
  | [], _ => .inl (by simp)
  | i :: L, h => by
    cases h with
    | cons ho hr h =>
      rcases GcChain.next (S := S) h with h1 | h1
      · cases hS : S i with
        | true => exact .inl fun j hj => by rcases List.mem_cons.1 hj with rfl | hj; exact hS; exact h1 j hj
        | false => exact .inr ⟨i, _, ho, hS, fun e he hb => h1 _ (rdyE_get _ hr e he hb)⟩
      · exact .inr h1
theorem coversB_get {done : List Nat} : ∀ (n : Nat), coversB done n = true → ∀ i, i < n → i ∈ done
  | 0, _, i, hi => by omega
  | n + 1, h, i, hi => by
    simp only [coversB, Bool.and_eq_true] at h
    rcases Nat.lt_or_ge i n with h1 | h1
    · exact coversB_get n h.2 i h1
    · obtain rfl : i = n := by omega
      exact (memN_iff _ _).1 h.1
def hasGcE : List Edge → Bool
  | [] => false
  | e :: es => bif Region.binds .gc e && !Region.binds .text e then true else hasGcE es
def hasGc : List Oper → Bool
  | [] => false
  | o :: os => bif hasGcE o.after.toList then true else hasGc os
theorem hasGcE_get : ∀ (es : List Edge), hasGcE es = false → ∀ e ∈ es, Region.binds .gc e = true → Region.binds .text e = true
  | [], _, e, he, _ => by cases he
  | x :: es, h, e, he, hb => by
    rw [hasGcE] at h
    cases hx : (Region.binds .gc x && !Region.binds .text x) with
    | true => rw [hx] at h; cases h
    | false =>
      rw [hx] at h
      rcases List.mem_cons.1 he with rfl | he
      · rw [hb] at hx; simpa using hx
      · exact hasGcE_get es h e he hb
theorem hasGc_get : ∀ (os : List Oper), hasGc os = false → ∀ o ∈ os, hasGcE o.after.toList = false
  | [], _, o, ho => by cases ho
  | x :: os, h, o, ho => by
    rw [hasGc] at h
    cases hx : hasGcE x.after.toList with
    | true => rw [hx] at h; cases h
    | false =>
      rw [hx] at h
      rcases List.mem_cons.1 ho with rfl | ho
      · exact hx
      · exact hasGc_get os h o ho
def gcOk (ops : List Oper) : Bool := bif hasGc ops then coversB (gcOrd ops (lcount ops 0) []) (lcount ops 0) else true
def pairsB (mk : Nat) (s : Sig) : Nat → List Sig → Bool
  | _, [] => true
  | j, e :: es => (Nat.testBit mk j || indB e s) && pairsB mk s (j + 1) es
def chk0 : List Oper → List Sig → Nat → List Nat → List Sig → Bool
  | [], [], _, _, _ => true
  | o :: os, s :: ss, i, ms, es => edgesOk i o.after.toList && (pairsB (maskOf ms o.after.toList) s 0 es && chk0 os ss (i + 1) (ms ++ [maskOf ms o.after.toList]) (es ++ [s]))
  | _, _, _, _, _ => false
def chk (os : List Oper) (ss : List Sig) (i : Nat) (ms : List Nat) (es : List Sig) : Bool := chk0 os ss i ms es && gcOk os

def Ready (ops : List Oper) (S : Nat → Bool) (i : Nat) : Prop := ∀ o, ops[i]? = some o → ∀ e ∈ o.after.toList, Region.binds .any e = true → S e.on = true
def Closed (ops : List Oper) (S : Nat → Bool) : Prop := ∀ i, S i = true → Ready ops S i
/-- Operation j stands ahead of operation i in each order. -/
def Anc (ops : List Oper) (j i : Nat) : Prop := ∀ S, Closed ops S → Ready ops S i → S j = true

theorem maskOf_bit {ops : List Oper} {ms : List Nat} {S : Nat → Bool} (hS : Closed ops S) (hms : ∀ l mk, ms[l]? = some mk → S l = true → ∀ j, Nat.testBit mk j = true → S j = true) :
    ∀ (es : List Edge), (∀ e ∈ es, Region.binds .any e = true → S e.on = true) → ∀ j, Nat.testBit (maskOf ms es) j = true → S j = true
  | [], _, j, h => by simp [maskOf] at h
  | e :: es, he, j, h => by
    rw [maskOf] at h
    have ih := maskOf_bit hS hms es (fun e' h' => he e' (List.mem_cons_of_mem _ h')) j
    cases hb : Region.binds .any e with
    | false => rw [hb] at h; exact ih h
    | true =>
      rw [hb] at h
      have hon := he e List.mem_cons_self hb
      have h : Nat.testBit ((2 ^ e.on ||| (lget ms e.on).getD 0) ||| maskOf ms es) j = true := h
      rw [Nat.testBit_or, Nat.testBit_or, Nat.testBit_two_pow] at h
      simp only [Bool.or_eq_true, decide_eq_true_eq] at h
      rcases h with (h | h) | h
      · rw [← h]; exact hon
      · rw [lget_eq] at h
        cases hm : ms[e.on]? with
        | none => rw [hm] at h; simp at h
        | some mk =>
          rw [hm] at h
          exact hms e.on mk hm hon j h
      · exact ih h

theorem pairsB_get {mk : Nat} {s : Sig} : ∀ (es : List Sig) (j0 : Nat), pairsB mk s j0 es = true → ∀ j e, es[j]? = some e → Nat.testBit mk (j0 + j) = true ∨ Ind e s
  | [], _, _, j, e, h => by simp at h
  | x :: es, j0, h, j, e, hj => by
    simp only [pairsB, Bool.and_eq_true, Bool.or_eq_true] at h
    cases j with
    | zero =>
      simp only [List.getElem?_cons_zero, Option.some.injEq] at hj
      subst hj
      rcases h.1 with h1 | h1
      · exact .inl h1
      · exact .inr (indB_ind h1)
    | succ j =>
      have := pairsB_get es (j0 + 1) h.2 j e hj
      rwa [Nat.add_assoc, Nat.add_comm 1 j] at this

theorem edgesOk_get {i : Nat} : ∀ (es : List Edge), edgesOk i es = true → ∀ e ∈ es, Region.binds .text e = true → e.on < i
  | [], _, e, h, _ => by cases h
  | x :: es, h, e, he, hb => by
    rw [edgesOk] at h
    cases hx : Region.binds .text x with
    | true =>
      rw [hx] at h
      simp only [cond_true, Bool.and_eq_true] at h
      rcases List.mem_cons.1 he with rfl | he
      · exact Nat.le_of_ble_eq_true h.1
      · exact edgesOk_get es h.2 e he hb
    | false =>
      rw [hx] at h
      rcases List.mem_cons.1 he with rfl | he
      · rw [hx] at hb; cases hb
      · exact edgesOk_get es h e he hb

theorem chk_sound {ops : List Oper} : ∀ (os : List Oper) (ss : List Sig) (i : Nat) (ms : List Nat) (es : List Sig), chk0 os ss i ms es = true → (∀ k, os[k]? = ops[i + k]?) → ms.length = i → es.length = i →
    (∀ l mk, ms[l]? = some mk → ∀ S, Closed ops S → Ready ops S l → ∀ j, Nat.testBit mk j = true → S j = true) →
    os.length = ss.length ∧ (∀ k o, os[k]? = some o → ∀ e ∈ o.after.toList, Region.binds .text e = true → e.on < i + k) ∧
      ∀ (k j : Nat) (sj sk : Sig), ss[k]? = some sk → j < i + k → (es ++ ss)[j]? = some sj → Ind sj sk ∨ Anc ops j (i + k)
  | [], [], i, ms, es, h, _, _, _, _ => ⟨rfl, by simp, by simp⟩
  | [], _ :: _, i, ms, es, h, _, _, _, _ => by simp [chk0] at h
  | _ :: _, [], i, ms, es, h, _, _, _, _ => by simp [chk0] at h
  | o :: os, s :: ss, i, ms, es, h, hos, hml, hel, hms => by
    simp only [chk0, Bool.and_eq_true] at h
    obtain ⟨h1, h2, h3⟩ := h
    have ho : ops[i]? = some o := by have := hos 0; simpa using this.symm
    have hmask : ∀ S, Closed ops S → Ready ops S i → ∀ j, Nat.testBit (maskOf ms o.after.toList) j = true → S j = true := fun S hS hR =>
      maskOf_bit hS (fun l mk hl hSl j hj => hms l mk hl S hS (hS l hSl) j hj) _ (fun e he hb => hR o ho e he hb)
    obtain ⟨g1, g2, g3⟩ := chk_sound os ss (i + 1) (ms ++ [maskOf ms o.after.toList]) (es ++ [s]) h3 (fun k => by have := hos (k + 1); rw [List.getElem?_cons_succ] at this; rw [this]; congr 1; omega) (by simp [hml]) (by simp [hel]) (fun l mk hl => by
      rcases get_snoc hl with ⟨_, h⟩ | ⟨h, e⟩
      · exact hms l mk h
      · subst e
        rw [h, hml]
        exact hmask)
    refine ⟨by simp [g1], fun k o' hk e he hb => ?_, fun k j sj sk hk hj hsj => ?_⟩
    · cases k with
      | zero =>
        simp only [List.getElem?_cons_zero, Option.some.injEq] at hk
        subst hk
        exact edgesOk_get _ h1 e he hb
      | succ k =>
        have := g2 k o' hk e he hb
        omega
    · cases k with
      | zero =>
        simp only [List.getElem?_cons_zero, Option.some.injEq] at hk
        subst hk
        have hje : j < es.length := by omega
        rw [List.getElem?_append_left hje] at hsj
        rcases pairsB_get es 0 h2 j sj hsj with h | h
        · right
          intro S hS hR
          rw [Nat.zero_add] at h
          exact hmask S hS hR j h
        · exact .inl h
      | succ k =>
        have := g3 k j sj sk hk (by omega) (by simpa using hsj)
        have e : i + 1 + k = i + (k + 1) := by omega
        rwa [e] at this

theorem chk_pairs {ops : List Oper} {ss : List Sig} (h : chk ops ss 0 [] [] = true) :
    ops.length = ss.length ∧ (∀ (md : Region.Mode) (S : Nat → Bool), (∃ j, j < ops.length ∧ S j = false) → ∃ i o, ops[i]? = some o ∧ S i = false ∧ ∀ e ∈ o.after.toList, Region.binds md e = true → S e.on = true) ∧
      ∀ (i j : Nat) (si sj : Sig), j < i → ss[i]? = some si → ss[j]? = some sj → Ind sj si ∨ Anc ops j i := by
  simp only [chk, Bool.and_eq_true] at h
  obtain ⟨h, hg⟩ := h
  obtain ⟨h1, h2, h3⟩ := chk_sound (ops := ops) ops ss 0 [] [] h (fun k => by rw [Nat.zero_add]) rfl rfl (fun l mk hl => by simp at hl)
  refine ⟨h1, fun md S hS => ?_, fun i j si sj hji hi hj => ?_⟩
  · -- by the text's order
    have text : (∀ (i : Nat) (o : Oper), ops[i]? = some o → ∀ e ∈ o.after.toList, Region.binds md e = true → Region.binds .text e = true) → ∃ i o, ops[i]? = some o ∧ S i = false ∧ ∀ e ∈ o.after.toList, Region.binds md e = true → S e.on = true := by
      intro hm
      obtain ⟨j, hj, hSj⟩ := hS
      induction j using Nat.strongRecOn with
      | _ j ih =>
        have ho : ops[j]? = some ops[j] := List.getElem?_eq_getElem hj
        by_cases hall : ∀ e ∈ (ops[j]).after.toList, Region.binds md e = true → S e.on = true
        · exact ⟨j, _, ho, hSj, hall⟩
        · have : ∃ e, e ∈ (ops[j]).after.toList ∧ Region.binds md e = true ∧ S e.on = false := by
            refine Classical.byContradiction fun hn => hall fun e he hb => ?_
            cases hx : S e.on with
            | true => rfl
            | false => exact absurd ⟨e, he, hb, hx⟩ hn
          obtain ⟨e, he, hb, hx⟩ := this
          have hlt := h2 j _ ho e he (hm j _ ho e he hb)
          exact ih e.on (by omega) (by omega) hx
    cases md with
    | text => exact text fun _ _ _ _ _ hb => hb
    | any =>
      refine text fun _ _ _ e _ hb => ?_
      unfold Region.binds at hb ⊢
      split at hb <;> first | rfl | (cases hb)
    | gc =>
      unfold gcOk at hg
      cases hh : hasGc ops with
      | false =>
        refine text fun i o ho e he hb => ?_
        exact hasGcE_get _ (hasGc_get _ hh o (List.mem_of_getElem? ho)) e he hb
      | true =>
        rw [hh] at hg
        simp only [cond_true, lcount_eq, Nat.add_zero] at hg
        rcases GcChain.next (S := S) (gcOrd_chain (ops := ops) ops.length [] .nil) with h4 | h4
        · obtain ⟨j, hj, hSj⟩ := hS
          have := h4 j (coversB_get _ hg j hj)
          rw [hSj] at this
          cases this
        · exact h4
  · have := h3 i j sj si hi (by omega) (by simpa using hj)
    rwa [Nat.zero_add] at this
end Bow
/- AE23: a region that draws its order, run: every order ends as the text's own does. -/
namespace Bow
open Go

theorem sa (i k : Nat) : i + 1 + k = i + (k + 1) := by omega

def putD (d : Option Tmp) (x : V) (E : Env) : Env :=
  match d with
  | none => E
  | some t => (t, x) :: E

/-- The slots once those operations that S says are done. -/
def envS (S : Nat → Bool) : Nat → List Rec → Env → Env
  | _, [], E => E
  | i, r :: rs, E => envS S (i + 1) rs (if S i = true then putD r.dst r.x E else E)
def heapS (S : Nat → Bool) : Nat → List Rec → Heap → Heap
  | _, [], T => T
  | i, r :: rs, T => heapS S (i + 1) rs (if S i = true then app T r.eff else T)

theorem lk_putD (d : Option Tmp) (x : V) (E : Env) (t : Tmp) : lk (putD d x E) t = if d = some t then x else lk E t := by
  cases d with
  | none => simp [putD]
  | some s =>
    simp only [putD, lk, Option.some.injEq]
    cases hb : Nat.beq s t with
    | true => rw [if_pos (Nat.eq_of_beq_eq_true hb)]; rfl
    | false => rw [if_neg (Nat.ne_of_beq_eq_false hb)]; rfl

theorem lk_envS {S S' : Nat → Bool} {t : Tmp} : ∀ (rs : List Rec) (i : Nat) (E E' : Env), lk E t = lk E' t → (∀ (k : Nat) (r : Rec), rs[k]? = some r → r.dst = some t → S (i + k) = S' (i + k)) → lk (envS S i rs E) t = lk (envS S' i rs E') t
  | [], _, _, _, h, _ => h
  | r :: rs, i, E, E', h, hS => by
    rw [envS, envS]
    refine lk_envS rs (i + 1) _ _ ?_ (fun k r' hk hd => by rw [sa i k]; exact hS (k + 1) r' (by simpa using hk) hd)
    by_cases hd : r.dst = some t
    · have := hS 0 r rfl hd
      rw [Nat.add_zero] at this
      rw [this]
      split
      · rw [lk_putD, lk_putD, if_pos hd, if_pos hd]
      · exact h
    · have e1 : ∀ (b : Bool) (E : Env), lk (if b = true then putD r.dst r.x E else E) t = lk E t := fun b E => by
        split
        · rw [lk_putD, if_neg hd]
        · rfl
      rw [e1, e1, h]

theorem heapS_length {S : Nat → Bool} : ∀ (rs : List Rec) (i : Nat) (T : Heap), (heapS S i rs T).length = T.length
  | [], _, _ => rfl
  | r :: rs, i, T => by
    rw [heapS, heapS_length rs]
    split
    · exact app_length _ _
    · rfl

theorem heapS_get {S S' : Nat → Bool} {k : Nat} : ∀ (rs : List Rec) (i : Nat) (T T' : Heap), T.length = T'.length → T[k]? = T'[k]? → (∀ (j : Nat) (r : Rec), rs[j]? = some r → k ∈ keysOf r.eff → S (i + j) = S' (i + j)) → (heapS S i rs T)[k]? = (heapS S' i rs T')[k]?
  | [], _, _, _, _, h, _ => h
  | r :: rs, i, T, T', hl, h, hS => by
    rw [heapS, heapS]
    refine heapS_get rs (i + 1) _ _ ?_ ?_ (fun j r' hj hk => by rw [sa i j]; exact hS (j + 1) r' (by simpa using hj) hk)
    · split <;> split <;> simp [app_length, hl]
    · by_cases hk : k ∈ keysOf r.eff
      · have := hS 0 r rfl hk
        rw [Nat.add_zero] at this
        rw [this]
        split
        · exact app_get _ _ _ k hl h
        · exact h
      · have e1 : ∀ (b : Bool) (T : Heap), (if b = true then app T r.eff else T)[k]? = T[k]? := fun b T => by
          split
          · exact app_other _ _ _ hk
          · rfl
        rw [e1, e1, h]

theorem app_app_comm {e1 e2 : List (Nat × Option HObj)} (h : ∀ k ∈ keysOf e1, k ∉ keysOf e2) (T : Heap) : app (app T e1) e2 = app (app T e2) e1 := by
  refine List.ext_getElem? fun k => ?_
  by_cases h1 : k ∈ keysOf e1
  · have h2 := h k h1
    rw [app_other e2 _ k h2]
    exact app_get e1 _ _ k (by rw [app_length]) (by rw [app_other e2 _ k h2])
  · rw [app_other e1 (app T e2) k h1]
    exact app_get e2 _ _ k (by rw [app_length]) (app_other e1 T k h1)

theorem heapS_app {S : Nat → Bool} {e : List (Nat × Option HObj)} : ∀ (rs : List Rec) (i : Nat) (T : Heap), (∀ (j : Nat) (r : Rec), rs[j]? = some r → S (i + j) = true → ∀ k ∈ keysOf r.eff, k ∉ keysOf e) → heapS S i rs (app T e) = app (heapS S i rs T) e
  | [], _, _, _ => rfl
  | r :: rs, i, T, h => by
    rw [heapS, heapS]
    have ih := fun T => heapS_app (S := S) (e := e) rs (i + 1) T fun j r' hj hS k hk => by
      have e0 : i + 1 + j = i + (j + 1) := by omega
      rw [e0] at hS
      exact h (j + 1) r' (by simpa using hj) hS k hk
    by_cases hs : S i = true
    · rw [if_pos hs, if_pos hs, ← ih]
      rw [app_app_comm (fun k hk hk' => h 0 r rfl (by simpa using hs) k hk' hk)]
    · rw [if_neg hs, if_neg hs, ih]

/-- One more is done. -/
def addS (S : Nat → Bool) (i : Nat) : Nat → Bool := fun j => S j || Nat.beq j i
theorem addS_self (S : Nat → Bool) (i : Nat) : addS S i i = true := by simp [addS]
theorem addS_ne {S : Nat → Bool} {i j : Nat} (h : j ≠ i) : addS S i j = S j := by
  unfold addS
  cases hb : Nat.beq j i with
  | true => exact absurd (Nat.eq_of_beq_eq_true hb) h
  | false => simp

theorem heapS_congr {S S' : Nat → Bool} : ∀ (rs : List Rec) (i : Nat) (T : Heap), (∀ j, j < rs.length → S (i + j) = S' (i + j)) → heapS S i rs T = heapS S' i rs T
  | [], _, _, _ => rfl
  | r :: rs, i, T, h => by
    have h0 := h 0 (by simp)
    rw [Nat.add_zero] at h0
    rw [heapS, heapS, h0]
    exact heapS_congr rs (i + 1) _ fun j hj => by
      have := h (j + 1) (by simpa using hj)
      have e : i + 1 + j = i + (j + 1) := by omega
      rwa [e]
theorem envS_congr {S S' : Nat → Bool} : ∀ (rs : List Rec) (i : Nat) (E : Env), (∀ j, j < rs.length → S (i + j) = S' (i + j)) → envS S i rs E = envS S' i rs E
  | [], _, _, _ => rfl
  | r :: rs, i, E, h => by
    have h0 := h 0 (by simp)
    rw [Nat.add_zero] at h0
    rw [envS, envS, h0]
    exact envS_congr rs (i + 1) _ fun j hj => by
      have := h (j + 1) (by simpa using hj)
      have e : i + 1 + j = i + (j + 1) := by omega
      rwa [e]

theorem heapS_add {S : Nat → Bool} {n : Nat} {r : Rec} : ∀ (rs : List Rec) (i : Nat) (T : Heap), rs[n]? = some r → S (i + n) = false → (∀ (j : Nat) (r' : Rec), rs[j]? = some r' → n < j → S (i + j) = true → ∀ k ∈ keysOf r'.eff, k ∉ keysOf r.eff) →
    heapS (addS S (i + n)) i rs T = app (heapS S i rs T) r.eff := by
  induction n with
  | zero =>
    intro rs i T hr hS h
    cases rs with
    | nil => simp at hr
    | cons x rs =>
      simp only [List.getElem?_cons_zero, Option.some.injEq] at hr
      subst hr
      rw [Nat.add_zero] at hS ⊢
      rw [heapS, heapS, if_pos (addS_self S i), if_neg (by simp [hS])]
      rw [heapS_congr rs (i + 1) (app T x.eff) (S' := S) (fun j _ => addS_ne (by omega))]
      refine heapS_app rs (i + 1) T fun j r' hj hs k hk => ?_
      have e0 : i + 1 + j = i + (j + 1) := by omega
      rw [e0] at hs
      exact h (j + 1) r' (by simpa using hj) (by omega) hs k hk
  | succ n ih =>
    intro rs i T hr hS h
    cases rs with
    | nil => simp at hr
    | cons x rs =>
      have e0 : i + (n + 1) = i + 1 + n := by omega
      rw [heapS, heapS, addS_ne (by omega), e0]
      exact ih rs (i + 1) _ (by simpa using hr) (by rw [← e0]; exact hS) fun j r' hj hn hs k hk => by
        have e1 : i + 1 + j = i + (j + 1) := by omega
        rw [e1] at hs
        exact h (j + 1) r' (by simpa using hj) (by omega) hs k hk

theorem envS_add {S : Nat → Bool} {n : Nat} {r : Rec} {t : Tmp} : ∀ (rs : List Rec) (i : Nat) (E : Env), rs[n]? = some r → S (i + n) = false → (∀ (j : Nat) (r' : Rec), rs[j]? = some r' → n < j → S (i + j) = true → ∀ t, r'.dst = some t → r.dst ≠ some t) →
    lk (envS (addS S (i + n)) i rs E) t = lk (putD r.dst r.x (envS S i rs E)) t := by
  intro rs i E hr hS h
  by_cases hd : r.dst = some t
  · rw [lk_putD, if_pos hd]
    -- the last one that sets t is this one
    have gen : ∀ (rs : List Rec) (i n : Nat) (E : Env), rs[n]? = some r → (∀ (j : Nat) (r' : Rec), rs[j]? = some r' → n < j → addS S (i + n) (i + j) = true → r'.dst ≠ some t) → addS S (i + n) (i + n) = true → lk (envS (addS S (i + n)) i rs E) t = r.x := by
      intro rs
      induction rs with
      | nil => intro i n E hr; simp at hr
      | cons x rs ih =>
        intro i n E hr hg hn
        cases n with
        | zero =>
          simp only [List.getElem?_cons_zero, Option.some.injEq] at hr
          subst hr
          simp only [Nat.add_zero] at hn hg ⊢
          rw [envS, if_pos hn]
          have stay : ∀ (rs : List Rec) (i0 : Nat) (S : Nat → Bool) (E : Env), (∀ (j : Nat) (r' : Rec), rs[j]? = some r' → S (i0 + j) = true → r'.dst ≠ some t) → lk (envS S i0 rs E) t = lk E t := by
            intro rs
            induction rs with
            | nil => intro _ _ _ _; rfl
            | cons y rs ih =>
              intro i0 S E h
              rw [envS, ih (i0 + 1) S _ fun j r' hj hs => h (j + 1) r' (by simpa using hj) (by rw [← sa i0 j]; exact hs)]
              split
              · rename_i hs
                rw [lk_putD, if_neg (h 0 y rfl (by simpa using hs))]
              · rfl
          rw [stay rs (i + 1) _ _ fun j r' hj hs => hg (j + 1) r' (by simpa using hj) (by omega) (by rw [← sa i j]; exact hs), lk_putD, if_pos hd]
        | succ n =>
          have e0 : i + (n + 1) = i + 1 + n := by omega
          rw [envS, e0]
          refine ih (i + 1) n _ (by simpa using hr) (fun j r' hj hn' hs => ?_) (by rw [← e0]; exact hn)
          have e1 : i + 1 + j = i + (j + 1) := by omega
          rw [e1, ← e0] at hs
          exact hg (j + 1) r' (by simpa using hj) (by omega) hs
    refine gen rs i n E hr (fun j r' hj hn hs hd' => ?_) (addS_self _ _)
    rw [addS_ne (by omega)] at hs
    exact h j r' hj hn hs t hd' hd
  · rw [lk_putD, if_neg hd]
    refine lk_envS rs i E E rfl fun k r' hk hd' => ?_
    refine addS_ne fun e => ?_
    have : k = n := by omega
    subst this
    rw [hr] at hk
    injection hk with hk
    subst hk
    exact hd hd'

theorem envS_mem {S : Nat → Bool} : ∀ (rs : List Rec) (i : Nat) (E : Env) (p : Nat × V), p ∈ envS S i rs E → p ∈ E ∨ ∃ j r, rs[j]? = some r ∧ S (i + j) = true ∧ p.2 = r.x
  | [], _, _, _, h => .inl h
  | r :: rs, i, E, p, h => by
    rw [envS] at h
    rcases envS_mem rs (i + 1) _ p h with h | ⟨j, r', h1, h2, h3⟩
    · split at h
      · rename_i hs
        unfold putD at h
        split at h
        · exact .inl h
        · rcases List.mem_cons.1 h with rfl | h
          · exact .inr ⟨0, r, rfl, by simpa using hs, rfl⟩
          · exact .inl h
      · exact .inl h
    · refine .inr ⟨j + 1, r', by simpa using h1, ?_, h3⟩
      have e : i + 1 + j = i + (j + 1) := by omega
      rw [← e]
      exact h2
end Bow
/- AE24: a region that draws its order, run. -/
namespace Bow
open Go

def ltS (i : Nat) : Nat → Bool := fun j => Nat.blt j i
theorem ltS_lt {i j : Nat} (h : j < i) : ltS i j = true := Nat.ble_eq_true_of_le h
theorem ltS_ge {i j : Nat} (h : i ≤ j) : ltS i j = false := by
  unfold ltS
  cases hb : Nat.blt j i with
  | false => rfl
  | true => have := Nat.le_of_ble_eq_true hb; omega

structure SigOf (r : Rec) (s : Sig) : Prop where
  dst : s.dst = r.dst
  reads : ∀ t ∈ r.reads, t ∈ s.reads
  touch : ∀ k ∈ r.touch, k ∈ s.touch
  keys : ∀ k ∈ keysOf r.eff, k ∈ s.keys
  virt : ∀ p, r.virt = some p → p ∈ s.touch

structure Good (c : Cx) (ops : Array Oper) (rs : List Rec) (ss : List Sig) (E : Env) (T : Heap) (p0 : Nat) : Prop where
  len : rs.length = ops.size
  slen : ss.length = ops.size
  fact : ∀ (i : Nat) (r : Rec), rs[i]? = some r → Fact c ops i (envS (ltS i) 0 rs E) (heapS (ltS i) 0 rs T) r
  dst : ∀ (i : Nat) (r : Rec), rs[i]? = some r → (r.dst = none ∨ ∃ t, r.dst = some t ∧ t < c.nt)
  sig : ∀ (i : Nat) (r : Rec) (s : Sig), rs[i]? = some r → ss[i]? = some s → SigOf r s
  virt : ∀ (i : Nat) (r : Rec) (p : Nat), rs[i]? = some r → r.virt = some p → p0 ≤ p
  apart : ∀ (i j : Nat) (r r' : Rec) (p : Nat), rs[i]? = some r → rs[j]? = some r' → r.virt = some p → r'.virt = some p → i = j

theorem binds_any {md : Region.Mode} {e : Edge} (h : Region.binds .any e = true) : Region.binds md e = true := by
  unfold Region.binds at h ⊢
  split at h <;> first | rfl | (cases h)

section
variable {c : Cx} {ops : Array Oper} {rs : List Rec} {ss : List Sig} {E : Env} {T : Heap} {p0 : Nat}

/-- An operation that is ready, and one that the order S and the text's order place otherwise: they may change places. -/
theorem sep_of {S : Nat → Bool} (hc : chk ops.toList ss 0 [] [] = true) (hS : Closed ops.toList S) {i k : Nat} (hi : S i = false) (hr : Ready ops.toList S i) {si sk : Sig} (hsi : ss[i]? = some si) (hsk : ss[k]? = some sk) (hne : S k ≠ ltS i k) : Ind sk si := by
  obtain ⟨_, _, h⟩ := chk_pairs hc
  rcases Nat.lt_trichotomy k i with hk | hk | hk
  · rw [ltS_lt hk] at hne
    rcases h i k si sk hk hsi hsk with h1 | h1
    · exact h1
    · exact absurd (h1 S hS hr) hne
  · subst hk
    rw [ltS_ge (Nat.le_refl _)] at hne
    exact absurd hi hne
  · rw [ltS_ge (Nat.le_of_lt hk)] at hne
    have hkt : S k = true := by simpa using hne
    rcases h k i sk si hk hsk hsi with h1 | h1
    · exact h1.symm
    · have := h1 S hS (hS k hkt)
      rw [hi] at this
      cases this

def unl (n : Nat) (S : Nat → Bool) : Nat := ((List.range n).filter fun i => !S i).length
theorem unl_add {n i : Nat} {S : Nat → Bool} (hi : i < n) (hS : S i = false) : unl n (addS S i) < unl n S := by
  unfold unl
  have e : (List.range n).filter (fun j => !addS S i j) = ((List.range n).filter fun j => !S j).filter fun j => !addS S i j := by
    rw [List.filter_filter]
    refine List.filter_congr fun j _ => ?_
    cases h : S j <;> simp [addS, h]
  rw [e]
  refine List.length_filter_lt_length_iff_exists.2 ⟨i, ?_, by simp [addS_self]⟩
  simp [List.mem_filter, hi, hS]

theorem run_draw (md : Region.Mode) (hG : Good c ops rs ss E T p0) (hc : chk ops.toList ss 0 [] [] = true) (hE : ∀ p ∈ E, p.2.sc T.length) :
    ∀ (fuel t : Nat) (listed : Array Bool) (S : Nat → Bool) (w : World) (β : Nat → Loc) (H : Heap) (m : List Nat) (a : Act) (b : Frame) (cs : List Frame) (k : List Item),
      (∀ j, S j = listed.getD j false) → listed.size = ops.size → unl ops.size S ≤ fuel → Closed ops.toList S → SRel c.imps c.nt w β H m ⟨envS S 0 rs E, heapS S 0 rs T, c.B, c.D⟩ a →
      (∀ (j : Nat) (r : Rec) (p : Nat), rs[j]? = some r → S j = false → r.virt = some p → ∃ q, m[p]? = some q ∧ β q = .none) → (∀ (j : Nat) (r : Rec), rs[j]? = some r → S j = true → r.x.sc T.length) → b.fn = c.fn → b.kind = .normal →
      ∃ (w' : World) (β' : Nat → Loc) (H' : Heap) (a' : Act), Steps c.P (lone (b.atR a (.inRegion ops (Region.linearise.go md ops fuel t listed []) :: k)) cs w) (lone (b.atR a' (.inRegion ops [] :: k)) cs w') ∧
        SRel c.imps c.nt w' β' H' m ⟨envS (fun _ => true) 0 rs E, heapS (fun _ => true) 0 rs T, c.B, c.D⟩ a' ∧ Fr0 w β H w' β' H' ∧ (∀ q, q < H.length → β q = .none → (∀ p, p0 ≤ p → m[p]? ≠ some q) → β' q = .none) := by
  obtain ⟨hlen, hprog, _⟩ := chk_pairs hc
  intro fuel
  induction fuel with
  | zero =>
    intro t listed S w β H m a b cs k hS hsz hun hcl hs _ _ _ _
    have hall : ∀ j, j < ops.size → S j = true := fun j hj => by
      have : ((List.range ops.size).filter fun i => !S i) = [] := List.length_eq_zero_iff.1 (by unfold unl at hun; omega)
      have := List.filter_eq_nil_iff.1 this j (List.mem_range.2 hj)
      simpa using this
    have e1 : envS S 0 rs E = envS (fun _ => true) 0 rs E := envS_congr rs 0 E fun j hj => by rw [Nat.zero_add]; exact hall j (by rw [← hG.len]; exact hj)
    have e2 : heapS S 0 rs T = heapS (fun _ => true) 0 rs T := heapS_congr rs 0 T fun j hj => by rw [Nat.zero_add]; exact hall j (by rw [← hG.len]; exact hj)
    rw [e1, e2] at hs
    exact ⟨w, β, H, a, by simp only [Region.linearise.go, List.reverse_nil]; exact .refl _ _, hs, Fr0.refl _ _ _, fun _ _ h _ => h⟩
  | succ fuel ih =>
    intro t listed S w β H m a b cs k hS hsz hun hcl hs hv hx h1 h2
    have hgo : Region.linearise.go md ops (fuel + 1) t listed [] = match (Region.ready md ops listed)[t % (Region.ready md ops listed).length]? with
        | some i => Region.linearise.go md ops fuel (t / (Region.ready md ops listed).length) (listed.setIfInBounds i true) [i]
        | none => [] := by
      simp only [Region.linearise.go]
      rfl
    rw [hgo]
    cases hi : (Region.ready md ops listed)[t % (Region.ready md ops listed).length]? with
    | none =>
      have hnil : Region.ready md ops listed = [] := by
        cases hr : Region.ready md ops listed with
        | nil => rfl
        | cons x xs =>
          rw [hr] at hi
          have hlt : t % (x :: xs).length < (x :: xs).length := Nat.mod_lt _ (by simp)
          simp at hi
          simp at hlt
          omega
      -- the least one that is not done would be ready
      have hall : ∀ j, j < ops.size → S j = true := by
        intro j hj
        refine Classical.byContradiction fun hne => ?_
        have hSj : S j = false := by simpa using hne
        obtain ⟨i, o, ho, hSi, he⟩ := hprog md S ⟨j, by rw [Array.length_toList]; exact hj, hSj⟩
        have hil : i < ops.size := by have := lt_of_get ho; rwa [Array.length_toList] at this
        have : i ∈ Region.ready md ops listed := by
          unfold Region.ready
          rw [List.mem_filter]
          refine ⟨List.mem_range.2 hil, ?_⟩
          have hl : listed.getD i true = false := by
            have := hS i
            rw [hSi] at this
            have hjl : i < listed.size := by omega
            simp [Array.getD, hjl] at this ⊢
            exact this
          rw [Array.getElem?_toList] at ho
          simp only [hl, ho, Option.map_some, Option.getD_some, Bool.not_false, Bool.true_and]
          rw [Array.all_eq_true']
          intro e hee
          have := he e (by simpa using hee)
          rw [hS] at this
          cases hb : Region.binds md e with
          | false => simp
          | true => simp [this hb]
        rw [hnil] at this
        cases this
      have e1 : envS S 0 rs E = envS (fun _ => true) 0 rs E := envS_congr rs 0 E fun j hj => by rw [Nat.zero_add]; exact hall j (by rw [← hG.len]; exact hj)
      have e2 : heapS S 0 rs T = heapS (fun _ => true) 0 rs T := heapS_congr rs 0 T fun j hj => by rw [Nat.zero_add]; exact hall j (by rw [← hG.len]; exact hj)
      rw [e1, e2] at hs
      exact ⟨w, β, H, a, .refl _ _, hs, Fr0.refl _ _ _, fun _ _ h _ => h⟩
    | some i =>
      simp only []
      rw [linearise_go_acc, List.reverse_singleton, List.singleton_append]
      have hmem := List.mem_of_getElem? hi
      unfold Region.ready at hmem
      rw [List.mem_filter] at hmem
      obtain ⟨hir, hmem⟩ := hmem
      have hin := List.mem_range.1 hir
      have ho : ops[i]? = some ops[i] := Array.getElem?_eq_getElem hin
      simp only [ho, Option.map_some, Option.getD_some, Bool.and_eq_true, Bool.not_eq_true'] at hmem
      obtain ⟨hl, hedges⟩ := hmem
      have hil : i < listed.size := by omega
      have hSi : S i = false := by
        rw [hS]
        simp [Array.getD, hil] at hl ⊢
        exact hl
      have hready : Ready ops.toList S i := by
        intro o ho' e he hb
        rw [Array.getElem?_toList, ho] at ho'
        injection ho' with ho'
        subst ho'
        rw [Array.all_eq_true'] at hedges
        have := hedges e (by simpa using he)
        rw [binds_any hb] at this
        rw [hS]
        simpa using this
      have hri : i < rs.length := by rw [hG.len]; exact hin
      have hsi' : i < ss.length := by rw [hG.slen]; exact hin
      have hr : rs[i]? = some rs[i] := List.getElem?_eq_getElem hri
      have hsg : ss[i]? = some ss[i] := List.getElem?_eq_getElem hsi'
      have hsig := hG.sig i _ _ hr hsg
      have sep : ∀ (j : Nat) (r' : Rec), rs[j]? = some r' → S j ≠ ltS i j → ∃ sj, ss[j]? = some sj ∧ SigOf r' sj ∧ Ind sj ss[i] := fun j r' hj hne => by
        have hjl : j < ss.length := by have := lt_of_get hj; rw [hG.len] at this; rw [hG.slen]; exact this
        have hsj : ss[j]? = some ss[j] := List.getElem?_eq_getElem hjl
        exact ⟨_, hsj, hG.sig j _ _ hj hsj, sep_of hc hcl hSi hready hsg hsj hne⟩
      have heap_at : ∀ k, k ∈ (ss[i]).touch → (heapS S 0 rs T)[k]? = (heapS (ltS i) 0 rs T)[k]? := fun k hk =>
        heapS_get rs 0 T T rfl rfl fun j r' hj hkr => by
          rw [Nat.zero_add]
          exact Classical.byContradiction fun hne => by
            obtain ⟨sj, _, q2, q3⟩ := sep j r' hj hne
            exact q3.kt k (q2.keys k hkr) hk
      obtain ⟨v, w1, β1, H1, f1, f2, f3, f4, f5⟩ := hG.fact i _ hr (envS S 0 rs E) (heapS S 0 rs T) (by rw [heapS_length, heapS_length])
        (fun t ht => lk_envS rs 0 E E rfl fun j r' hj hd => by
          rw [Nat.zero_add]
          exact Classical.byContradiction fun hne => by
            obtain ⟨sj, _, q2, q3⟩ := sep j r' hj hne
            exact q3.rs t (q2.dst.trans hd) (hsig.reads t ht))
        (fun k hk => heap_at k (hsig.touch k hk)) w β H m a b cs (Region.linearise.go md ops fuel (t / (Region.ready md ops listed).length) (listed.setIfInBounds i true) []) k hs h1 h2
        (fun p hp => by
          obtain ⟨q, q1, q2⟩ := hv i _ p hr hSi hp
          exact ⟨q, q1, q2, heap_at p (hsig.virt p hp)⟩)
      have hml : m.length = T.length := by have := hs.mlen; simp only [heapS_length] at this; exact this
      have hxs : (rs[i]).x.sc T.length := by rw [← hml]; exact sc_of_rep _ f5
      have hput := f2.putTo (d := (rs[i]).dst) (E' := putD (rs[i]).dst (rs[i]).x (envS S 0 rs E)) f5 (by
        rcases hG.dst i _ hr with h | ⟨t, h, h'⟩
        · exact .inl ⟨h, by rw [h]; rfl⟩
        · exact .inr ⟨t, h, h', by rw [h]; rfl⟩)
      have hxs' : ∀ (j : Nat) (r : Rec), rs[j]? = some r → addS S i j = true → r.x.sc T.length := fun j r hj hSj => by
        by_cases e : j = i
        · subst e
          rw [hr] at hj
          injection hj with hj
          subst hj
          exact hxs
        · rw [addS_ne e] at hSj
          exact hx j r hj hSj
      have hheap : heapS (addS S i) 0 rs T = app (heapS S 0 rs T) (rs[i]).eff := by
        have := heapS_add (S := S) (n := i) rs 0 T hr (by rw [Nat.zero_add]; exact hSi) (fun j r' hj hn hSj k hk hk' => by
          rw [Nat.zero_add] at hSj
          obtain ⟨sj, _, q2, q3⟩ := sep j r' hj (by rw [hSj, ltS_ge (Nat.le_of_lt hn)]; simp)
          exact q3.kk k (q2.keys k hk) (hsig.keys k hk'))
        rwa [Nat.zero_add] at this
      have henv : ∀ t, lk (envS (addS S i) 0 rs E) t = lk (putD (rs[i]).dst (rs[i]).x (envS S 0 rs E)) t := fun t => by
        have := envS_add (S := S) (n := i) (t := t) rs 0 E hr (by rw [Nat.zero_add]; exact hSi) (fun j r' hj hn hSj t ht ht' => by
          rw [Nat.zero_add] at hSj
          obtain ⟨sj, _, q2, q3⟩ := sep j r' hj (by rw [hSj, ltS_ge (Nat.le_of_lt hn)]; simp)
          exact q3.dd t (q2.dst.trans ht) (hsig.dst.trans ht'))
        rwa [Nat.zero_add] at this
      have hs' : SRel c.imps c.nt w1 β1 H1 m ⟨envS (addS S i) 0 rs E, heapS (addS S i) 0 rs T, c.B, c.D⟩ (a.put (rs[i]).dst v) := by
        rw [hheap]
        refine hput.forget (fun t => .inl (henv t)) fun p hp => ?_
        rw [app_length, heapS_length]
        rcases envS_mem rs 0 E p hp with h | ⟨j, r, q1, q2, q3⟩
        · exact hE p h
        · rw [q3]
          exact hxs' j r q1 (by rw [Nat.zero_add] at q2; exact q2)
      have hsS : ∀ j, addS S i j = (listed.setIfInBounds i true).getD j false := fun j => by
        by_cases e : j = i
        · subst e
          rw [addS_self]
          simp [Array.getD, hil]
        · rw [addS_ne e, hS]
          by_cases hjl : j < listed.size
          · have hne : i ≠ j := fun x => e x.symm
            simp [Array.getD, hjl, hne]
          · simp [Array.getD, hjl]
      obtain ⟨w2, β2, H2, a2, g1, g2, g3, g4⟩ := ih (t / (Region.ready md ops listed).length) (listed.setIfInBounds i true) (addS S i) w1 β1 H1 m (a.put (rs[i]).dst v) b cs k hsS (by simpa using hsz)
        (by have := unl_add (n := ops.size) hin hSi; omega)
        (fun j hj o ho' e he hb => by
          by_cases ej : j = i
          · subst ej
            have hon := hready o ho' e he hb
            unfold addS
            rw [hon]
            rfl
          · rw [addS_ne ej] at hj
            have hon := hcl j hj o ho' e he hb
            unfold addS
            rw [hon]
            rfl)
        hs'
        (fun j r p hj hSj hp => by
          have ej : j ≠ i := fun e => by subst e; rw [addS_self] at hSj; cases hSj
          rw [addS_ne ej] at hSj
          obtain ⟨q, q1, q2⟩ := hv j r p hj hSj hp
          refine ⟨q, q1, f4 q (hs.lt q1) q2 fun p' hp' hq' => ?_⟩
          have := hs.inj q1 hq'
          subst this
          exact ej (hG.apart j i r _ p hj hr hp hp'))
        hxs' h1 h2
      refine ⟨w2, β2, H2, a2, f1.trans g1, g2, f3.trans g3, fun q hq hn hp => ?_⟩
      exact g4 q (Nat.lt_of_lt_of_le hq f3.len) (f4 q hq hn fun p hp' => hp p (hG.virt i _ p hr hp')) hp
end
end Bow
/- AE25: regions that draw their order, evaluated in the text's order. -/
namespace Bow
open Go

/-! ### From the text's order -/
def RunP (c : Cx) (ops : Array Oper) : Nat → Nat → Env → Heap → List Rec → List Sig → Env → Heap → Prop
  | i, _, E, T, [], [], En, Tn => i = ops.size ∧ En = E ∧ Tn = T
  | i, p, E, T, r :: rs, s :: ss, En, Tn => Fact c ops i E T r ∧ (r.dst = none ∨ ∃ t, r.dst = some t ∧ t < c.nt) ∧ SigOf r s ∧ i < ops.size ∧ ∃ p', p ≤ p' ∧ (∀ q, r.virt = some q → q = p ∧ p + 1 ≤ p' ∧ p < T.length) ∧ RunP c ops (i + 1) p' (putD r.dst r.x E) (app T r.eff) rs ss En Tn
  | _, _, _, _, _, _, _, _ => False

theorem envS_none {S : Nat → Bool} : ∀ (rs : List Rec) (i : Nat) (E : Env), (∀ j, i ≤ j → S j = false) → envS S i rs E = E
  | [], _, _, _ => rfl
  | r :: rs, i, E, h => by
    rw [envS, if_neg (by rw [h i (Nat.le_refl _)]; simp)]
    exact envS_none rs (i + 1) E fun j hj => h j (by omega)
theorem heapS_none {S : Nat → Bool} : ∀ (rs : List Rec) (i : Nat) (T : Heap), (∀ j, i ≤ j → S j = false) → heapS S i rs T = T
  | [], _, _, _ => rfl
  | r :: rs, i, T, h => by
    rw [heapS, if_neg (by rw [h i (Nat.le_refl _)]; simp)]
    exact heapS_none rs (i + 1) T fun j hj => h j (by omega)

theorem runP_get {c : Cx} {ops : Array Oper} : ∀ (rs : List Rec) (ss : List Sig) (i p : Nat) (E : Env) (T : Heap) (En : Env) (Tn : Heap), RunP c ops i p E T rs ss En Tn →
    i + rs.length = ops.size ∧ ss.length = rs.length ∧ En = envS (fun _ => true) i rs E ∧ Tn = heapS (fun _ => true) i rs T ∧
      (∀ (n : Nat) (r : Rec), rs[n]? = some r → Fact c ops (i + n) (envS (ltS (i + n)) i rs E) (heapS (ltS (i + n)) i rs T) r ∧ (r.dst = none ∨ ∃ t, r.dst = some t ∧ t < c.nt) ∧ (∀ q, r.virt = some q → p ≤ q ∧ q < T.length)) ∧
      (∀ (n : Nat) (r : Rec) (s : Sig), rs[n]? = some r → ss[n]? = some s → SigOf r s) ∧
      (∀ (n n' : Nat) (r r' : Rec) (q : Nat), rs[n]? = some r → rs[n']? = some r' → r.virt = some q → r'.virt = some q → n = n')
  | [], [], i, p, E, T, En, Tn, h => by
    obtain ⟨h1, h2, h3⟩ := h
    exact ⟨by simpa using h1, rfl, h2, h3, by simp, by simp, by simp⟩
  | [], _ :: _, i, p, E, T, En, Tn, h => h.elim
  | _ :: _, [], i, p, E, T, En, Tn, h => h.elim
  | r :: rs, s :: ss, i, p, E, T, En, Tn, h => by
    obtain ⟨h1, h2, h3, h4, p', h5, h6, h7⟩ := h
    obtain ⟨g1, g2, g3, g4, g5, g6, g7⟩ := runP_get rs ss (i + 1) p' _ _ En Tn h7
    refine ⟨by simp; omega, by simp [g2], by rw [envS, if_pos rfl]; exact g3, by rw [heapS, if_pos rfl]; exact g4, ?_, ?_, ?_⟩
    · intro n x hn
      cases n with
      | zero =>
        simp only [List.getElem?_cons_zero, Option.some.injEq] at hn
        subst hn
        rw [Nat.add_zero, envS_none _ _ _ fun j hj => ltS_ge hj, heapS_none _ _ _ fun j hj => ltS_ge hj]
        exact ⟨h1, h2, fun q hq => by have := h6 q hq; omega⟩
      | succ n =>
        obtain ⟨k1, k2, k3⟩ := g5 n x (by simpa using hn)
        rw [sa] at k1
        refine ⟨?_, k2, fun q hq => by have := k3 q hq; rw [app_length] at this; omega⟩
        rw [envS, heapS, if_pos (ltS_lt (by omega)), if_pos (ltS_lt (by omega))]
        exact k1
    · intro n x y hn hy
      cases n with
      | zero =>
        simp only [List.getElem?_cons_zero, Option.some.injEq] at hn hy
        subst hn hy
        exact h3
      | succ n => exact g6 n x y (by simpa using hn) (by simpa using hy)
    · intro n n' x x' q hn hn' hv hv'
      cases n with
      | zero =>
        cases n' with
        | zero => rfl
        | succ n' =>
          simp only [List.getElem?_cons_zero, Option.some.injEq] at hn
          subst hn
          have a1 := h6 q hv
          have a2 := (g5 n' x' (by simpa using hn')).2.2 q hv'
          omega
      | succ n =>
        cases n' with
        | zero =>
          simp only [List.getElem?_cons_zero, Option.some.injEq] at hn'
          subst hn'
          have a1 := h6 q hv'
          have a2 := (g5 n x (by simpa using hn)).2.2 q hv
          omega
        | succ n' => rw [g7 n n' x x' q (by simpa using hn) (by simpa using hn') hv hv']

theorem good_of_run {c : Cx} {ops : Array Oper} {rs : List Rec} {ss : List Sig} {p0 : Nat} {E : Env} {T : Heap} {En : Env} {Tn : Heap} (h : RunP c ops 0 p0 E T rs ss En Tn) :
    Good c ops rs ss E T p0 ∧ En = envS (fun _ => true) 0 rs E ∧ Tn = heapS (fun _ => true) 0 rs T ∧ ∀ (i : Nat) (r : Rec) (p : Nat), rs[i]? = some r → r.virt = some p → p < T.length := by
  obtain ⟨g1, g2, g3, g4, g5, g6, g7⟩ := runP_get rs ss 0 p0 E T En Tn h
  refine ⟨⟨by omega, by omega, fun i r hr => ?_, fun i r hr => (g5 i r hr).2.1, g6, fun i r p hr hp => ((g5 i r hr).2.2 p hp).1, g7⟩, g3, g4, fun i r p hr hp => ((g5 i r hr).2.2 p hp).2⟩
  have := (g5 i r hr).1
  rwa [Nat.zero_add] at this

/-! ### Names reserved for a whole region -/
def makesS : Op → Bool
  | .box .. | .alloc _ | .buildSlice .. | .makeSlice .. => true
  | .call { callee := .builtin .append, .. } => true
  | _ => false
def dummyOf : Op → HObj
  | .box .. | .alloc _ => .box []
  | _ => .vec 0 0 []
def dums : List Oper → Heap
  | [] => []
  | o :: os => bif makesS o.op then some (dummyOf o.op) :: dums os else dums os
theorem dums_mem : ∀ (os : List Oper) (x : Option HObj), x ∈ dums os → ∃ d, x = some d ∧ (d = .box [] ∨ d = .vec 0 0 [])
  | [], x, h => by cases h
  | o :: os, x, h => by
    rw [dums] at h
    cases hb : makesS o.op with
    | false => rw [hb] at h; exact dums_mem os x h
    | true =>
      rw [hb] at h
      rcases List.mem_cons.1 h with rfl | h
      · refine ⟨_, rfl, ?_⟩
        unfold dummyOf
        split <;> simp
      · exact dums_mem os x h

theorem reserveAll {imps : List Nat} {nt : Nat} {w : World} {E : Env} {B : Base} {D : List Nat} {a : Act} : ∀ (ds : Heap) {β : Nat → Loc} {H : Heap} {m : List Nat} {T : Heap}, (∀ x ∈ ds, ∃ d, x = some d ∧ (d = .box [] ∨ d = .vec 0 0 [])) → SRel imps nt w β H m ⟨E, T, B, D⟩ a →
    ∃ β' H' m', SRel imps nt w β' H' m' ⟨E, T ++ ds, B, D⟩ a ∧ Fr w β H w β' H' ∧ m <+: m' ∧ ∀ p, T.length ≤ p → p < T.length + ds.length → ∃ q, m'[p]? = some q ∧ β' q = .none ∧ H.length ≤ q
  | [], β, H, m, T, _, h => ⟨β, H, m, by rw [List.append_nil]; exact h, Fr.refl _ _ _, List.prefix_refl _, fun p h1 h2 => by simp at h2; omega⟩
  | x :: ds, β, H, m, T, hd, h => by
    obtain ⟨d, rfl, hd1⟩ := hd x List.mem_cons_self
    obtain ⟨β1, H1, k1, k2, k3, k4, k5⟩ := h.reserve d hd1
    obtain ⟨β2, H2, m2, g1, g2, g3, g4⟩ := reserveAll ds (fun x hx => hd x (List.mem_cons_of_mem _ hx)) k1
    refine ⟨β2, H2, m2, by simpa using g1, k2.trans g2, (List.prefix_append _ _).trans g3, fun p h1 h2 => ?_⟩
    rcases Nat.eq_or_lt_of_le h1 with e | h1
    · subst e
      refine ⟨H.length, ?_, g2.virt _ (by omega) k3, Nat.le_refl _⟩
      have hml : m.length = T.length := h.mlen
      have : (m ++ [H.length])[T.length]? = some H.length := by rw [← hml]; simp
      obtain ⟨l, rfl⟩ := g3
      rw [List.getElem?_append_left (by simp; omega)]
      exact this
    · obtain ⟨q, q1, q2, q3⟩ := g4 p (by simp; omega) (by simp at h2 ⊢; omega)
      exact ⟨q, q1, q2, by omega⟩

/-- A region that draws its order, when its text's order does it. -/
theorem goes_draw_of {c : Cx} {ops : Array Oper} {id : Nat} {k : List Item} {E : Env} {T : Heap} {rs : List Rec} {ss : List Sig} {En : Env} {Tn : Heap} (h : RunP c ops 0 T.length E (T ++ dums ops.toList) rs ss En Tn) (hc : chk ops.toList ss 0 [] [] = true) (hk : Goes c k En Tn) : Goes c (.code (.region id ops true) :: k) E T := by
  obtain ⟨hG, rfl, rfl, hp⟩ := good_of_run h
  refine goes_step fun w β H m a b cs hs h1 h2 h3 => ?_
  -- the draw
  have hsched : ∃ md t, Region.schedule (c.P.follows .mixedOrders) ops (w.tape w.drawn (.order b.fn id)) = Region.linearise md ops t := by
    unfold Region.schedule
    split
    · exact ⟨_, _, rfl⟩
    · exact ⟨_, _, rfl⟩
  obtain ⟨md, t, hmd⟩ := hsched
  have hf0 : Fr w β H { w with drawn := w.drawn + 1 } β H := Fr.of_heap rfl rfl rfl rfl
  have hs0 : SRel c.imps c.nt { w with drawn := w.drawn + 1 } β H m ⟨E, T, c.B, c.D⟩ a := hs.same hf0 (hs.hrel.of_heap rfl rfl rfl rfl)
  obtain ⟨β1, H1, m1, k1, k2, k3, k4⟩ := reserveAll (dums ops.toList) (dums_mem _) hs0
  have hml : m1.length = (T ++ dums ops.toList).length := k1.mlen
  have hzero : ∀ j, (fun _ : Nat => false) j = (Array.replicate ops.size false).getD j false := fun j => by
    by_cases hj : j < ops.size
    · simp [Array.getD, hj]
    · simp [Array.getD, hj]
  obtain ⟨w2, β2, H2, a2, g1, g2, g3, g4⟩ := run_draw md hG hc k1.scE ops.size t (Array.replicate ops.size false) (fun _ => false) { w with drawn := w.drawn + 1 } β1 H1 m1 a b cs k hzero (by simp)
    (by unfold unl; exact Nat.le_trans (List.length_filter_le _ _) (by simp)) (fun i hi => by cases hi) (by
      rw [envS_none _ _ _ fun _ _ => rfl, heapS_none _ _ _ fun _ _ => rfl]
      exact k1) (fun j r p hj _ hv => by
        obtain ⟨q, q1, q2, _⟩ := k4 p (hG.virt j r p hj hv) (by have := hp j r p hj hv; simpa using this)
        exact ⟨q, q1, q2⟩) (fun j r _ hj => by cases hj) h1 h2
  refine ⟨w2, β2, H2, m1, a2, k, ⟨_, _, c.B, c.D⟩, ?_, g2, ?_, hk⟩
  · refine .head stepR_region_draw ?_
    rw [hmd]
    exact g1.trans (.one stepR_region_end)
  · refine ⟨(hf0.toFr0.trans k2.toFr0).trans g3, fun r hr hn => ?_⟩
    have hn1 := k2.virt r hr hn
    refine g4 r (Nat.lt_of_lt_of_le hr k2.len) hn1 fun p hp hq => ?_
    by_cases hlt : p < T.length + (dums ops.toList).length
    · obtain ⟨q, q1, _, q3⟩ := k4 p hp hlt
      rw [hq] at q1
      injection q1 with q1
      omega
    · have := lt_of_get hq
      rw [hml, List.length_append] at this
      omega
end Bow
/- AE26: the evaluation of a region that draws its order. -/
namespace Bow
open Go

def lfix : List Nat → (List Nat → Prop) → Prop
  | [], K => K []
  | x :: xs, K => lfix xs fun ys => K (x :: ys)
theorem lfix_eq : ∀ (xs : List Nat) (K : List Nat → Prop), lfix xs K = K xs
  | [], _ => rfl
  | x :: xs, K => by rw [lfix, lfix_eq xs]

def appC : Heap → List (Nat × Option HObj) → (Heap → Prop) → Prop
  | T, [], K => K T
  | T, (k, o) :: es, K => lset T k o fun T' => appC T' es K
theorem appC_eq : ∀ (es : List (Nat × Option HObj)) (T : Heap) (K : Heap → Prop), appC T es K = K (app T es)
  | [], _, _ => rfl
  | (k, o) :: es, T, K => by rw [appC, lset_eq, appC_eq es]; rfl
def catC : Heap → Heap → (Heap → Prop) → Prop
  | [], ys, K => K ys
  | x :: xs, ys, K => catC xs ys fun zs => K (x :: zs)
theorem catC_eq : ∀ (xs ys : Heap) (K : Heap → Prop), catC xs ys K = K (xs ++ ys)
  | [], _, _ => rfl
  | x :: xs, ys, K => by rw [catC, catC_eq xs]; rfl

/-- The guard of an operation, from the slots. -/
def gK (ops : List Oper) (o : Oper) (E : Env) (skip : List Nat → Prop) (go : List Nat → Prop) : Prop :=
  match o.guard with
  | none => go []
  | some (j, want) => match lget ops j with
    | none => False
    | some oj => match oj.dst with
      | none => False
      | some s => match lk E s with
        | .tt => bif want then go [s] else skip [s]
        | .ff => bif want then skip [s] else go [s]
        | .tup [] => skip [s]
        | _ => False
theorem gK_sound {ops : Array Oper} {o : Oper} {E : Env} {skip go : List Nat → Prop} (h : gK ops.toList o E skip go) :
    (∃ gs, Guarded ops o E gs false ∧ skip gs) ∨ (∃ gs, Guarded ops o E gs true ∧ go gs) := by
  unfold gK at h
  split at h
  · rename_i hg
    exact .inr ⟨[], by unfold Guarded; rw [hg]; exact ⟨rfl, rfl⟩, h⟩
  · rename_i j want hg
    rw [lget_eq, Array.getElem?_toList] at h
    split at h
    · exact h.elim
    rename_i oj hoj
    split at h
    · exact h.elim
    rename_i s hs
    have mk : ∀ b : Bool, ((lk E s = .tt ∧ b = want) ∨ (lk E s = .ff ∧ b = !want) ∨ (lk E s = .tup [] ∧ b = false)) → Guarded ops o E [s] b := fun b hb => by
      unfold Guarded
      rw [hg]
      exact ⟨oj, s, hoj, hs, rfl, hb⟩
    split at h
    · rename_i hx
      cases want with
      | true => exact .inr ⟨_, mk true (.inl ⟨hx, rfl⟩), h⟩
      | false => exact .inl ⟨_, mk false (.inl ⟨hx, rfl⟩), h⟩
    · rename_i hx
      cases want with
      | true => exact .inl ⟨_, mk false (.inr (.inl ⟨hx, rfl⟩)), h⟩
      | false => exact .inr ⟨_, mk true (.inr (.inl ⟨hx, rfl⟩)), h⟩
    · rename_i hx
      exact .inl ⟨_, mk false (.inr (.inr ⟨hx, rfl⟩)), h⟩
    · exact h.elim

/-- The slots with the value; a truth value that guards operations is told apart here. -/
def putR (nt : Nat) (gt : List Tmp) (d : Option Tmp) (x : V) (E : Env) (K : Env → Prop) : Prop :=
  match d with
  | none => K E
  | some t => bif Nat.blt t nt then (match x with
    | .bool b => bif memB gt t then (b = true → K ((t, .tt) :: E)) ∧ (b = false → K ((t, .ff) :: E)) else K ((t, .bool b) :: E)
    | x => K ((t, x) :: E)) else False
theorem putR_sound {nt : Nat} {gt : List Tmp} {d : Option Tmp} {x : V} {E : Env} {K : Env → Prop} (h : putR nt gt d x E K) :
    ∃ x', K (putD d x' E) ∧ (d = none ∨ ∃ t, d = some t ∧ t < nt) ∧ (x' = x ∨ (x = .bool true ∧ x' = .tt) ∨ (x = .bool false ∧ x' = .ff)) := by
  unfold putR at h
  cases d with
  | none => exact ⟨x, h, .inl rfl, .inl rfl⟩
  | some t =>
    simp only at h
    cases hb : Nat.blt t nt with
    | false => rw [hb] at h; exact h.elim
    | true =>
      rw [hb] at h
      have ht : t < nt := Nat.le_of_ble_eq_true hb
      simp only [cond_true] at h
      split at h
      · rename_i b
        cases hm : memB gt t with
        | false => rw [hm] at h; exact ⟨_, h, .inr ⟨t, rfl, ht⟩, .inl rfl⟩
        | true =>
          rw [hm] at h
          cases b with
          | true => exact ⟨_, h.1 rfl, .inr ⟨t, rfl, ht⟩, .inr (.inl ⟨rfl, rfl⟩)⟩
          | false => exact ⟨_, h.2 rfl, .inr ⟨t, rfl, ht⟩, .inr (.inr ⟨rfl, rfl⟩)⟩
      · exact ⟨_, h, .inr ⟨t, rfl, ht⟩, .inl rfl⟩

def guardTmps (ops : List Oper) : List Oper → List Tmp
  | [] => []
  | o :: os => match o.guard with
    | none => guardTmps ops os
    | some (j, _) => match lget ops j with
      | none => guardTmps ops os
      | some oj => match oj.dst with
        | none => guardTmps ops os
        | some s => s :: guardTmps ops os

/-- Of one cell, and nothing behind it. -/
def flatB : V → Bool
  | .int .. => true
  | .bool _ => true
  | .str _ => true
  | _ => false
def evd (c : Cx) (ops : List Oper) (gt : List Tmp) : List Oper → Nat → Env → Heap → (Env → Heap → List Sig → Prop) → Prop
  | [], _, E, T, K => K E T []
  | o :: os, p, E, T, K =>
    let next (x : V) (T' : Heap) (g touch keys : List Nat) : Prop := bif makesS o.op then putR c.nt gt o.dst x E fun E' => evd c ops gt os (p + 1) E' T' fun En Tn ss => K En Tn (⟨o.dst, g, touch, keys⟩ :: ss) else putR c.nt gt o.dst x E fun E' => evd c ops gt os p E' T' fun En Tn ss => K En Tn (⟨o.dst, g, touch, keys⟩ :: ss)
    gK ops o E (fun g => next (.tup []) T g [] []) fun g =>
      lfix (g ++ tmpsOf o.op.operands.toList) fun g =>
      bif makes E o.op then evMk c o.op E T p fun x ob kills tc => lfix tc fun tc => lfix (keysOf kills) fun ks => appC T (kills ++ [(p, some ob)]) fun T' => next x T' g (p :: tc) (p :: ks)
      else match o.op with
        | .call { callee := .value f, args, .. } => match opd E f with
          | .fn (.func h) first cap => opds E args.toList fun vs => frzAll (first ++ vs ++ cap) T False fun ws _ => lfix (keysOf (killsOf (first ++ vs ++ cap))) fun ks =>
            ∃ x, Pure c.P h ws (fun y => y = x) ∧ V.pureL ws = true ∧ bif flatB x then next x T g ks [] else appC T (killsOf (first ++ vs ++ cap)) fun T' => next x T' g ks ks
          | _ => False
        | op => evOp c op E T False fun x T' => lfix (touch E op) fun tc => lfix (wr E op) fun ks => next x T' g tc ks

theorem pureL_mem' : ∀ (l : List V), V.pureL l = true → ∀ x ∈ l, x.pureB = true
  | [], _, x, hx => by cases hx
  | y :: l, h, x, hx => by
    simp only [V.pureL, Bool.and_eq_true] at h
    rcases List.mem_cons.1 hx with rfl | hx
    · exact h.1
    · exact pureL_mem' l h.2 x hx
theorem Fact.put {c : Cx} {ops : Array Oper} {i : Nat} {E : Env} {T : Heap} {r : Rec} {x' : V} (h : Fact c ops i E T r) (hx : x' = r.x ∨ (r.x = .bool true ∧ x' = .tt) ∨ (r.x = .bool false ∧ x' = .ff)) : Fact c ops i E T { r with x := x' } := by
  rcases hx with rfl | ⟨h1, rfl⟩ | ⟨h1, rfl⟩
  · exact h
  · exact h.tt h1
  · exact h.ff h1

theorem makes_S {E : Env} {o : Op} (h : makes E o = true) : makesS o = true := by
  unfold makes at h
  split at h <;> first | rfl | cases h

/-- A call whose arguments are frozen ahead of it. -/
theorem fact_call_frz {c : Cx} {ops : Array Oper} {i : Nat} {o : Oper} {E : Env} {T : Heap} {gs : List Tmp} {f : Operand} {args : Array Operand} {ts : Array TypeId} {g : FuncId} {first cap ws : List V} {x : V} (ho : ops[i]? = some o) (hg : Guarded ops o E gs true)
    (hop : o.op = .call { callee := .value f, args := args, argTypes := ts }) (hf : opd E f = .fn (.func g) first cap) (ha : V.pureL ws = true)
    (hfz : ∀ T', T'.length = T.length → (∀ k ∈ keysOf (killsOf (first ++ args.toList.map (opd E) ++ cap)), T'[k]? = T[k]?) → ∀ (F' : Prop) (K' : List V → Heap → Prop), K' ws (app T' (killsOf (first ++ args.toList.map (opd E) ++ cap))) → frzAll (first ++ args.toList.map (opd E) ++ cap) T' F' K')
    (h : Pure c.P g ws (fun y => y = x)) : Fact c ops i E T ⟨o.dst, gs ++ tmpsOf o.op.operands.toList, keysOf (killsOf (first ++ args.toList.map (opd E) ++ cap)), x, killsOf (first ++ args.toList.map (opd E) ++ cap), none⟩ := by
  intro E' T' e1 e2 e3 w β H m a b cs rest k hs k1 k2 _
  have hag := opd_agree (E := E) (E' := E') (xs := o.op.operands.toList) fun t ht => e2 t (List.mem_append_right _ ht)
  rw [hop] at hag
  have hf' : opd E' f = .fn (.func g) first cap := by rw [hag f (by simp [Op.operands, Call.operands])]; exact hf
  have ha' : args.toList.map (opd E') = args.toList.map (opd E) := List.map_congr_left fun z hz => hag z (by simp [Op.operands, Call.operands]; exact .inr (by simpa using hz))
  obtain ⟨va, vc, hq, hl, hr⟩ := fn_rep hs hf' args
  rw [ha'] at hl hr
  have hen : Enterable c.P g := by
    unfold Pure Fun at h
    exact h.1
  rcases frzAll_sound (F := False) _ T' (fun ys T1 => ys = ws ∧ T1 = app T' (killsOf (first ++ args.toList.map (opd E) ++ cap))) (hfz T' e1 e3 False _ ⟨rfl, rfl⟩) with hh | ⟨ys, T1, ⟨rfl, rfl⟩, hto⟩
  · exact hh.elim
  obtain ⟨H1, q1, q2, q3⟩ := hto.2 _ _ _ _ _ _ _ _ _ _ hs
  obtain ⟨y, v, w', β', H', fr, rfl, hp, g1, g2, g3, g4, g5, g6⟩ := pure_step h ha q1 (b.atR a (.inRegion ops (i :: rest) :: k) :: cs) (by rw [hto.1]; exact hl) (fun j x v hj hv => by
    have hjl : j < (first ++ args.toList.map (opd E) ++ cap).length := by have := lt_of_get hj; rw [hto.1] at this; exact this
    have e := List.getElem?_eq_getElem hjl
    rw [pure_conv _ _ (pureL_mem' _ ha x (List.mem_of_getElem? hj))]
    exact q3 j _ x v e hj (hr j _ v e hv))
  have g2' := q2.trans g2
  exact ⟨v, w', β', H', call_steps ho (hg.wanted (fun t ht => e2 t (List.mem_append_left _ ht)) hs) hop hq hen g4 g6, g1, g2'.toFr0, fun q hq hn _ => g2'.virt q hq hn, by rw [pure_conv _ _ hp]; exact g3⟩

/-! ### Calls that leave the caller's objects alone -/
theorem Rep.flat {w w' : World} {β β' : Nat → Loc} {H H' : Heap} {x : V} {v : Value} (hx : flatB x = true) (h : Rep w β H x v) : Rep w' β' H' x v := by
  cases h <;> first | exact Rep.int .. | exact Rep.bool _ | exact Rep.str _ (by assumption) | cases hx
theorem Fr.of_below {w w' : World} {β : Nat → Loc} {H : Heap} (h : RowKit.Below w.heap.size w w') : Fr w β H w' β H :=
  ⟨⟨h.os, h.tape, h.output, h.size, Nat.le_refl _, fun _ o' _ ho => ⟨o', ho, Evo.refl o', fun _ _ => rfl⟩, fun b hb _ => h.block b hb, fun _ hb => .inr hb, fun _ _ => rfl, fun _ _ h => ⟨h, rfl⟩⟩, fun _ _ h => h⟩
theorem HRel.of_below {w w' : World} {β : Nat → Loc} {H : Heap} (hr : HRel w β H) (h : RowKit.Below w.heap.size w w') : HRel w' β H :=
  ⟨fun r o ho => (hr.obj r o ho).mono (Fr.of_below h).toFr0 (fun b N hb => h.block b (by
    have := hr.obj r o ho
    rw [hb] at this
    exact this.lt)), hr.inj⟩
/-- A function that leaves nothing behind, called where nothing is own: what was there stands as it stood. -/
theorem pure_still {P : Program} {g : FuncId} {args : List V} {Q : V → Prop} (hf : Pure P g args Q) (ha : V.pureL args = true) {w : World} {β : Nat → Loc} {H : Heap} {vals : Array Value} (cs : List Frame) (hl : args.length = vals.size)
    (hr : ∀ (j : Nat) (x : V) (v : Value), args[j]? = some x → vals[j]? = some v → Rep w β H x v) :
    ∃ (x : V) (v : Value) (w' : World) (β' : Nat → Loc) (H' : Heap) (fr : Frame), Q x ∧ x.pureB = true ∧ Rep w' β' H' x v ∧ RowKit.Below w.heap.size w w' ∧ Steps P (lone (Frame.enter P g vals .normal) cs w) (lone fr cs w') ∧ fr.fn = g ∧ fr.leaving P w' (.returned v) := by
  have hnone : ∀ r o, (H.map fun _ => (none : Option HObj))[r]? ≠ some (some o) := fun r o h => by rw [List.getElem?_map] at h; cases hh : H[r]? <;> rw [hh] at h <;> cases h
  have hno : ∀ b, ¬ ownB β (H.map fun _ => none) b := fun b ⟨r, N, ⟨o, h, _⟩, _⟩ => hnone r o h
  have hfr : Fr0 w β H w β (H.map fun _ => none) :=
    ⟨rfl, rfl, rfl, Nat.le_refl _, by simp, fun r o' _ ho => absurd ho (hnone r o'), fun _ _ _ => rfl, fun b hb => absurd hb (hno b), fun _ _ => rfl, fun r s h => absurd h (hnone r _)⟩
  have hrel : HRel w β (H.map fun _ => none) := ⟨fun r o h => absurd h (hnone r o), fun r r' b N N' hl => by obtain ⟨o, h⟩ := hl; exact absurd h (hnone r o)⟩
  have hs : SRel [] 0 w β (H.map fun _ => none) [] ⟨[], [], fun _ => none, []⟩ bare := by
    refine ⟨hrel, rfl, fun k => by simp [lk, V.conv]; exact .undef _, rfl, List.nodup_nil, by simp, rfl, fun r h _ => ?_, fun r _ => rfl, by simp, by simp, by simp, rfl, by simp⟩
    have h : r < (H.map fun _ => (none : Option HObj)).length := h
    rw [List.length_map] at h
    rw [List.getElem?_map, List.getElem?_eq_getElem h]
    rfl
  obtain ⟨x, v, w', β', H', fr, hq, hp, _, k2, k3, k4, k5, k6⟩ := pure_step hf ha hs cs hl (fun j x v hj hv => by
    rw [pure_conv _ _ (pureL_mem' _ ha x (List.mem_of_getElem? hj))]
    exact (hr j x v hj hv).mono0 hfr)
  exact ⟨x, v, w', β', H', fr, hq, hp, k3, ⟨k2.os, k2.tape, k2.output, k2.size, fun q hq => k2.keep q hq (hno q)⟩, k4, k5, k6⟩
/-- The same, out of an operation: what comes back is a number, a truth value or a text; own slices among the arguments stay own. -/
theorem fact_call_flat {c : Cx} {ops : Array Oper} {i : Nat} {o : Oper} {E : Env} {T : Heap} {gs : List Tmp} {f : Operand} {args : Array Operand} {ts : Array TypeId} {g : FuncId} {first cap ws : List V} {x : V} (ho : ops[i]? = some o) (hg : Guarded ops o E gs true)
    (hop : o.op = .call { callee := .value f, args := args, argTypes := ts }) (hf : opd E f = .fn (.func g) first cap) (ha : V.pureL ws = true) (hx : flatB x = true)
    (hfz : ∀ T', T'.length = T.length → (∀ k ∈ keysOf (killsOf (first ++ args.toList.map (opd E) ++ cap)), T'[k]? = T[k]?) → ∀ (F' : Prop) (K' : List V → Heap → Prop), K' ws (app T' (killsOf (first ++ args.toList.map (opd E) ++ cap))) → frzAll (first ++ args.toList.map (opd E) ++ cap) T' F' K')
    (h : Pure c.P g ws (fun y => y = x)) : Fact c ops i E T ⟨o.dst, gs ++ tmpsOf o.op.operands.toList, keysOf (killsOf (first ++ args.toList.map (opd E) ++ cap)), x, [], none⟩ := by
  intro E' T' e1 e2 e3 w β H m a b cs rest k hs k1 k2 _
  have hag := opd_agree (E := E) (E' := E') (xs := o.op.operands.toList) fun t ht => e2 t (List.mem_append_right _ ht)
  rw [hop] at hag
  have hf' : opd E' f = .fn (.func g) first cap := by rw [hag f (by simp [Op.operands, Call.operands])]; exact hf
  have ha' : args.toList.map (opd E') = args.toList.map (opd E) := List.map_congr_left fun z hz => hag z (by simp [Op.operands, Call.operands]; exact .inr (by simpa using hz))
  obtain ⟨va, vc, hq, hl, hr⟩ := fn_rep hs hf' args
  rw [ha'] at hl hr
  have hen : Enterable c.P g := by
    unfold Pure Fun at h
    exact h.1
  rcases frzAll_sound (F := False) _ T' (fun ys T1 => ys = ws ∧ T1 = app T' (killsOf (first ++ args.toList.map (opd E) ++ cap))) (hfz T' e1 e3 False _ ⟨rfl, rfl⟩) with hh | ⟨ys, T1, ⟨rfl, rfl⟩, hto⟩
  · exact hh.elim
  obtain ⟨H1, q1, q2, q3⟩ := hto.2 _ _ _ _ _ _ _ _ _ _ hs
  obtain ⟨y, v, w', β', H', fr, rfl, hp, g3, hb, g4, g5, g6⟩ := pure_still h ha (b.atR a (.inRegion ops (i :: rest) :: k) :: cs) (by rw [hto.1]; exact hl) (fun j x v hj hv => by
    have hjl : j < (first ++ args.toList.map (opd E) ++ cap).length := by have := lt_of_get hj; rw [hto.1] at this; exact this
    have e := List.getElem?_eq_getElem hjl
    exact q3 j _ x v e hj (hr j _ v e hv))
  have g2' : Fr w β H w' β H := Fr.of_below hb
  refine ⟨v, w', β, H, call_steps ho (hg.wanted (fun t ht => e2 t (List.mem_append_left _ ht)) hs) hop hq hen g4 g6, hs.same g2' (hs.hrel.of_below hb), g2'.toFr0, fun q _ hn _ => hn, ?_⟩
  rw [pure_conv _ _ hp]
  exact g3.flat hx

theorem evd_sound {c : Cx} {ops : Array Oper} {gt : List Tmp} : ∀ (os : List Oper) (i p : Nat) (E : Env) (T : Heap) (K : Env → Heap → List Sig → Prop), evd c ops.toList gt os p E T K → (∀ k, os[k]? = ops[i + k]?) → i + os.length = ops.size →
    ∃ rs ss En Tn, RunP c ops i p E T rs ss En Tn ∧ K En Tn ss
  | [], i, p, E, T, K, h, _, hi => ⟨[], [], E, T, ⟨by simpa using hi, rfl, rfl⟩, h⟩
  | o :: os, i, p, E, T, K, h, hos, hi => by
    unfold evd at h
    extract_lets next at h
    have ho : ops[i]? = some o := by have := hos 0; simpa using this.symm
    have hos' : ∀ k, os[k]? = ops[i + 1 + k]? := fun k => by have := hos (k + 1); rw [List.getElem?_cons_succ] at this; rw [this, sa]
    have hi' : i + 1 + os.length = ops.size := by simp at hi; omega
    have hlt : i < ops.size := by simp at hi; omega
    -- what follows, from a fact
    have go : ∀ (r : Rec) (g tc ks : List Nat), Fact c ops i E T r → r.dst = o.dst → next r.x (app T r.eff) g tc ks → (∀ t ∈ r.reads, t ∈ g) → (∀ k ∈ r.touch, k ∈ tc) → (∀ k ∈ keysOf r.eff, k ∈ ks) →
        (∀ q, r.virt = some q → q = p ∧ p ∈ tc ∧ p < T.length ∧ makesS o.op = true) → ∃ rs ss En Tn, RunP c ops i p E T rs ss En Tn ∧ K En Tn ss := by
      intro r g tc ks hf hd hn h1 h2 h3 h4
      have hn : putR c.nt gt o.dst r.x E fun E' => evd c ops.toList gt os (bif makesS o.op then p + 1 else p) E' (app T r.eff) fun En Tn ss => K En Tn (⟨o.dst, g, tc, ks⟩ :: ss) := by
        have h0 := hn
        simp only [next] at h0
        cases hm : makesS o.op <;> (rw [hm] at h0; exact h0)
      obtain ⟨x', hk, hdst, hx⟩ := putR_sound hn
      obtain ⟨rs, ss, En, Tn, k1, k2⟩ := evd_sound os (i + 1) _ _ _ _ hk hos' hi'
      refine ⟨{ r with x := x' } :: rs, ⟨o.dst, g, tc, ks⟩ :: ss, En, Tn, ⟨hf.put hx, by rw [hd]; exact hdst, ⟨hd.symm, h1, h2, h3, fun q hq => ?_⟩, hlt, (bif makesS o.op then p + 1 else p), ?_, ?_, ?_⟩, k2⟩
      · obtain ⟨e, hp, _⟩ := h4 q hq
        rw [e]
        exact hp
      · cases makesS o.op <;> simp
      · intro q hq
        obtain ⟨e, _, hp, hm⟩ := h4 q hq
        rw [hm]
        exact ⟨e, Nat.le_refl _, hp⟩
      · rw [hd]
        exact k1
    rcases gK_sound h with ⟨gs, hg, h⟩ | ⟨gs, hg, h⟩
    · exact go _ gs [] [] (fact_skip ho hg) rfl h (fun t ht => ht) (fun k hk => hk) (fun k hk => hk) (fun q hq => by cases hq)
    · rw [lfix_eq] at h
      cases hm : makes E o.op with
      | true =>
        rw [hm] at h
        simp only [cond_true] at h
        obtain ⟨x, ob, kills, tc, hk, hf, hp⟩ := fact_mk (gs := gs) ho hg h
        rw [lfix_eq, lfix_eq, appC_eq] at hk
        refine go _ _ _ _ hf rfl hk (fun t ht => ht) (fun k hk => List.mem_cons_of_mem _ hk) (fun k hk => ?_) (fun q hq => ?_)
        · rw [keysOf_append] at hk
          rcases List.mem_append.1 hk with h | h
          · exact List.mem_cons_of_mem _ h
          · simp only [keysOf, List.mem_singleton] at h
            rw [h]
            exact List.mem_cons_self
        · injection hq with hq
          subst hq
          exact ⟨rfl, List.mem_cons_self, hp, makes_S hm⟩
      | false =>
        rw [hm] at h
        simp only [cond_false] at h
        split at h
        · rename_i f args ts hop
          split at h
          · rename_i h' first cap hfv
            rw [opds_eq] at h
            rcases frzAll_det (F := False) _ T _ h with h | ⟨ws, h, hdet⟩
            · exact h.elim
            rw [lfix_eq] at h
            obtain ⟨x, hpu, hpl, hk⟩ := h
            cases hx : flatB x with
            | true =>
              rw [hx] at hk
              exact go _ _ _ _ (fact_call_flat ho hg hop hfv hpl hx hdet hpu) rfl hk (fun t ht => ht) (fun k hk => hk) (fun k hk => by cases hk) (fun q hq => by cases hq)
            | false =>
              rw [hx] at hk
              simp only [cond_false] at hk
              rw [appC_eq] at hk
              exact go _ _ _ _ (fact_call_frz ho hg hop hfv hpl hdet hpu) rfl hk (fun t ht => ht) (fun k hk => hk) (fun k hk => hk) (fun q hq => by cases hq)
          · exact h.elim
        · rcases fact_op ho hg hm h with h | ⟨x, eff, hk, hf, hw⟩
          · exact h.elim
          rw [lfix_eq, lfix_eq] at hk
          refine go _ _ _ _ hf rfl hk (fun t ht => ht) (fun k hk => hk) (fun k hk => ?_) (fun q hq => by cases hq)
          have : ∀ (es : List (Nat × Option HObj)), k ∈ keysOf es → ∃ e ∈ es, e.1 = k := by
            intro es
            induction es with
            | nil => intro h; cases h
            | cons e es ih =>
              intro h
              rcases List.mem_cons.1 h with rfl | h
              · exact ⟨e, List.mem_cons_self, rfl⟩
              · obtain ⟨e', h1, h2⟩ := ih h
                exact ⟨e', List.mem_cons_of_mem _ h1, h2⟩
          obtain ⟨e, he, rfl⟩ := this eff hk
          exact hw e he

theorem goes_draw {c : Cx} {ops : Array Oper} {id : Nat} {k : List Item} {E : Env} {T : Heap} (n : Nat) (h : catC T (dums ops.toList) fun T0 => evd c ops.toList (guardTmps ops.toList ops.toList) ops.toList T.length E T0 fun En Tn ss => chk ops.toList ss 0 [] [] = true ∧ evp c n k En Tn) :
    Goes c (.code (.region id ops true) :: k) E T := by
  rw [catC_eq] at h
  obtain ⟨rs, ss, En, Tn, h1, h2, h3⟩ := evd_sound ops.toList 0 T.length E _ _ h (fun k => by rw [Nat.zero_add, Array.getElem?_toList]) (by simp)
  exact goes_draw_of h1 h2 (evp_sound n _ _ _ _ h3)
end Bow
/- AE27: range-over-func, the statement. -/
namespace Bow
open Go

section
variable {imps : List Nat} {nt : Nat} {w : World} {β : Nat → Loc} {H : Heap} {m : List Nat} {E : Env} {T : Heap} {B : Base} {D : List Nat} {a : Act}

end

end Bow
/- AE28: functions that call yield: whoever ranges over them holds objects elsewhere, which the rounds turn. -/
namespace Bow
open Go

/-- One round: yield, called with y, turns the objects T to T' and hands back b. -/
def YieldOk (P : Program) (T : Heap) (kl : Nat) (y : List V) (b : Bool) (T' : Heap) : Prop :=
  T'.length = T.length ∧ (∀ (k : Nat) (o : Option HObj), T'[k]? = some o → o ≠ none) ∧
  ∀ (w : World) (β : Nat → Loc) (H : Heap) (m : List Nat) (B : Base) (vals : Array Value) (c : Frame) (cs : List Frame) (r l N : Nat), SRel m 0 w β H m ⟨[], T, B, []⟩ bare → m[kl]? = some r → β r = .blk l N → y.length = vals.size →
    (∀ (j : Nat) (x : V) (v : Value), y[j]? = some x → vals[j]? = some v → Rep w β H x v) →
    ∃ (rl : Loop) (w' : World) (β' : Nat → Loc) (H' : Heap), w.heap[l]? = some (.loop rl) ∧ vals.size = rl.params.size ∧ SRel m 0 w' β' H' m ⟨[], T', B, []⟩ bare ∧ Fr w β H w' β' H' ∧
      Steps P (lone (Frame.round l rl.fn ((rl.params.zip vals).foldl (fun tmps (t, a) => tmps.setIfInBounds t a) rl.tmps) rl.assign rl.body .normal) (c :: cs) w) (lone (c.finish (.bool b)) cs w')

theorem pureL_mem : ∀ (l : List V), V.pureL l = true → ∀ x ∈ l, x.pureB = true
  | [], _, x, hx => by cases hx
  | y :: l, h, x, hx => by
    simp only [V.pureL, Bool.and_eq_true] at h
    rcases List.mem_cons.1 hx with rfl | hx
    · exact h.1
    · exact pureL_mem l h.2 x hx

end Bow
/- AE29: calls that turn objects held elsewhere. -/
namespace Bow
open Go

end Bow
/- AE30: calls of functions that are handed objects; loops over turning bases; rounds of ranges over functions. -/
namespace Bow
open Go

/-! ### Loops, the base turning -/
section
variable {w w' : World} {β β' : Nat → Loc} {H H' : Heap}
/-- A mark's object stays where it was. -/
theorem dfr_stays (f : Fr w β H w' β' H') {r b N : Nat} (hH : H[r]? = some (some .dfr)) (hβ : β r = .blk b N) (hH' : H'[r]? = some (some .dfr)) : β' r = .blk b N := by
  obtain ⟨o, ho, _, hb⟩ := f.evo r .dfr (lt_of_get hH) hH'
  rw [hH] at ho
  injection ho with ho
  injection ho with ho
  subst ho
  exact (hb (by rw [hβ]; simp) trivial).trans hβ
end

/-! ### A call that is handed all that the caller holds -/
/-! ### Calls of functions that call yield -/
/-- All objects are there. -/
def allLive : Heap → Bool
  | [] => true
  | none :: _ => false
  | some _ :: T => allLive T
theorem allLive_get : ∀ {T : Heap}, allLive T = true → ∀ (k : Nat) (o : Option HObj), T[k]? = some o → ∃ ob, o = some ob
  | [], _, k, o, h => by simp at h
  | none :: _, hl, _, _, _ => by cases hl
  | some x :: T, hl, k, o, h => by
    cases k with
    | zero => simp at h; exact ⟨x, h.symm⟩
    | succ k => exact allLive_get (T := T) hl k o (by simpa using h)

/-! ### Rounds -/
end Bow
/- AE31: an own object is frozen: what names it reads it from here on. -/
namespace Bow
open Go


section
variable {w : World} {β : Nat → Loc} {H : Heap} {m : List Nat} {k r : Nat} {o : HObj}

end

end Bow
/- AE32: ranges over functions, by what each round does. -/
namespace Bow
open Go

/-- Rounds with these values, in this order, till one hands back false. -/
inductive Rounds (P : Program) (kl : Nat) : List (List V) → Heap → Heap → Bool → Prop
  | nil (T) : Rounds P kl [] T T true
  | go {y ys T T1 T' b} (hl : ∃ ob, T[kl]? = some (some ob) ∧ isLoop ob) (h : YieldOk P T kl y true T1) (k : Rounds P kl ys T1 T' b) : Rounds P kl (y :: ys) T T' b
  | stop {y ys T T1} (hl : ∃ ob, T[kl]? = some (some ob) ∧ isLoop ob) (h : YieldOk P T kl y false T1) : Rounds P kl (y :: ys) T T1 false

theorem Rounds.cut {P : Program} {kl : Nat} {ys : List (List V)} : ∀ {xs : List (List V)} {T T' : Heap} {b : Bool}, Rounds P kl (xs ++ ys) T T' b →
    ∃ T1 b1, Rounds P kl xs T T1 b1 ∧ ((b1 = true ∧ Rounds P kl ys T1 T' b) ∨ (b1 = false ∧ T' = T1 ∧ b = false))
  | [], T, T', b, h => ⟨T, true, .nil T, .inl ⟨rfl, h⟩⟩
  | x :: xs, T, T', b, h => by
    cases h with
    | go hl h k =>
      obtain ⟨T1, b1, h1, h2⟩ := Rounds.cut k
      exact ⟨T1, b1, .go hl h h1, h2⟩
    | stop hl h => exact ⟨_, false, .stop hl h, .inr ⟨rfl, rfl, rfl⟩⟩

end Bow
/- TR1: trees, as values. -/
namespace Bow
open Go

inductive Tree where
  | mk (id : Int) (leaf : Bool) (label : List UInt8) (attrs : List (List UInt8 × List UInt8)) (text : List UInt8) (subs : List Tree)

namespace Tree
def id : Tree → Int | mk i _ _ _ _ _ => i
def leaf : Tree → Bool | mk _ l _ _ _ _ => l
def label : Tree → List UInt8 | mk _ _ l _ _ _ => l
def attrs : Tree → List (List UInt8 × List UInt8) | mk _ _ _ a _ _ => a
def text : Tree → List UInt8 | mk _ _ _ _ t _ => t
def subs : Tree → List Tree | mk _ _ _ _ _ s => s
end Tree

def attrV (a : List UInt8 × List UInt8) : V := .agg [.str a.1, .str a.2]
mutual
def Tree.subV : Tree → List V
  | .mk _ _ _ _ _ s => nodesV s
def nodesV : List Tree → List V
  | [] => []
  | s :: ss => .agg [.int .u64 s.id, .bool s.leaf, .str s.label, .sl 2 (s.attrs.map attrV), .str s.text, .sl 6 s.subV] :: nodesV ss
end
def nodeV (t : Tree) : V := .agg [.int .u64 t.id, .bool t.leaf, .str t.label, .sl 2 (t.attrs.map attrV), .str t.text, .sl 6 t.subV]
theorem nodesV_eq : ∀ ss : List Tree, nodesV ss = ss.map nodeV
  | [] => by rw [nodesV]; rfl
  | s :: ss => by rw [nodesV, nodesV_eq ss]; rfl
theorem subV_eq : ∀ t : Tree, t.subV = t.subs.map nodeV
  | .mk _ _ _ _ _ s => by rw [Tree.subV, nodesV_eq]; rfl

mutual
def Tree.size : Tree → Nat
  | .mk _ _ _ _ _ s => 1 + sizes s
def sizes : List Tree → Nat
  | [] => 0
  | s :: ss => s.size + sizes ss
end
theorem size_mem : ∀ {ss : List Tree} {s : Tree}, s ∈ ss → s.size ≤ sizes ss
  | x :: ss, s, h => by
    rw [sizes]
    rcases List.mem_cons.1 h with rfl | h
    · omega
    · have := size_mem h; omega
theorem Tree.size_sub {t s : Tree} (h : s ∈ t.subs) : s.size < t.size := by
  cases t with
  | mk i l a b c ss =>
    have := size_mem (ss := ss) h
    rw [Tree.size]
    omega
theorem Tree.ind {P : Tree → Prop} (h : ∀ t, (∀ s ∈ t.subs, P s) → P t) (t : Tree) : P t := by
  induction hn : t.size using Nat.strongRecOn generalizing t with
  | _ n ih =>
    subst hn
    exact h t fun s hs => ih s.size (Tree.size_sub hs) s rfl

end Bow
/- TR2: a tree's nodes in a row. -/
namespace Bow
open Go

mutual
/-- The nodes ahead of those below them, with how deep they are. -/
def Tree.pre (d : Int) : Tree → List (Int × Tree)
  | .mk i l a b c ss => (d, .mk i l a b c ss) :: pres (d + 1) ss
def pres (d : Int) : List Tree → List (Int × Tree)
  | [] => []
  | s :: ss => s.pre d ++ pres d ss
end
theorem drop_cons {α : Type} {l : List α} {i : Nat} (h : i < l.length) : l.drop i = l[i] :: l.drop (i + 1) := by simp
end Bow
/- SP1: trees, in plain Lean: weight, depth, the most text of a node. -/
namespace Bow
open Go

def attrLen (asg : List (List UInt8 × List UInt8)) : Nat := asg.foldr (fun a n => a.1.length + a.2.length + n) 0
mutual
def Tree.weight : Tree → Nat
  | .mk _ _ l asg t ss => 1 + l.length + t.length + (asg.length + attrLen asg) + weights ss
def weights : List Tree → Nat
  | [] => 0
  | s :: ss => s.weight + weights ss
end
mutual
def Tree.depth : Tree → Nat
  | .mk _ _ _ _ _ ss => depths ss
def depths : List Tree → Nat
  | [] => 0
  | s :: ss => max (1 + s.depth) (depths ss)
end
def Tree.len (t : Tree) : Nat := t.text.length + attrLen t.attrs
theorem weight_eq (t : Tree) : t.weight = 1 + t.label.length + t.text.length + (t.attrs.length + attrLen t.attrs) + weights t.subs := by cases t; rw [Tree.weight]; rfl
theorem weights_cons (s : Tree) (ss : List Tree) : weights (s :: ss) = s.weight + weights ss := by rw [weights]
theorem weight_mem : ∀ {ss : List Tree} {s : Tree}, s ∈ ss → s.weight ≤ weights ss
  | x :: ss, s, h => by
    rw [weights]
    rcases List.mem_cons.1 h with rfl | h
    · omega
    · have := weight_mem h; omega
theorem weight_sub {t s : Tree} (h : s ∈ t.subs) : s.weight < t.weight := by
  have := weight_mem h
  have := weight_eq t
  omega
theorem attrLen_cons (a : List UInt8 × List UInt8) (asg : List (List UInt8 × List UInt8)) : attrLen (a :: asg) = a.1.length + a.2.length + attrLen asg := rfl

/-! ### The same by the nodes in a row -/
end Bow
/- AE33: values that say less. -/
namespace Bow
open Go

/-- Whatever stands for v stands for v', too. -/
def Wk (v v' : V) : Prop := ∀ (w : World) (β : Nat → Loc) (H : Heap) (u : Value), Rep w β H v u → Rep w β H v' u
theorem Wk.refl (v : V) : Wk v v := fun _ _ _ _ h => h
theorem Wk.of_eq {v v' : V} (h : v = v') : Wk v v' := h ▸ Wk.refl v
theorem Wk.trans {a b c : V} (h : Wk a b) (k : Wk b c) : Wk a c := fun w β H u r => k w β H u (h w β H u r)
theorem Wk.nil (sz : Nat) : Wk .nilsl (.sl sz []) := fun w β H u h => by
  cases h
  exact .sl sz [] none 0 (fun _ => Go.undef) (Nat.le_refl _) (Nat.zero_le _) (by simp) (fun hne => absurd rfl hne) (fun i x j c hi => by simp at hi)
theorem Wk.ff : Wk .ff (.bool false) := fun w β H u h => by cases h; exact .bool false
theorem Wk.tt : Wk .tt (.bool true) := fun w β H u h => by cases h; exact .bool true
/-- Cell by cell. -/
def WkL : List V → List V → Prop
  | [], [] => True
  | x :: xs, y :: ys => Wk x y ∧ WkL xs ys
  | _, _ => False
theorem WkL.refl : ∀ xs, WkL xs xs
  | [] => trivial
  | x :: xs => ⟨.refl x, WkL.refl xs⟩
theorem WkL.len : ∀ {xs ys : List V}, WkL xs ys → ys.length = xs.length
  | [], [], _ => rfl
  | _ :: xs, _ :: ys, h => by simp [WkL.len h.2]
  | [], _ :: _, h => h.elim
  | _ :: _, [], h => h.elim
theorem WkL.get : ∀ {xs ys : List V}, WkL xs ys → ∀ (j : Nat) (y : V), ys[j]? = some y → ∃ x, xs[j]? = some x ∧ Wk x y
  | x :: xs, y :: ys, h, 0, z, hz => by simp at hz; subst hz; exact ⟨x, rfl, h.1⟩
  | x :: xs, y :: ys, h, j + 1, z, hz => by simpa using WkL.get h.2 j z (by simpa using hz)
  | [], [], _, j, z, hz => by simp at hz
  | [], _ :: _, h, _, _, _ => h.elim
  | _ :: _, [], h, _, _, _ => h.elim
theorem Wk.agg {xs ys : List V} (h : WkL xs ys) : Wk (.agg xs) (.agg ys) := fun w β H u r => by
  cases r with
  | agg _ vs hl hc =>
    refine .agg ys vs (h.len.trans hl) fun j c v hj hv => ?_
    obtain ⟨x, hx, hw⟩ := h.get j c hj
    exact hw w β H v (hc j x v hx hv)
theorem Wk.tup {xs ys : List V} (h : WkL xs ys) : Wk (.tup xs) (.tup ys) := fun w β H u r => by
  cases r with
  | tup _ vs hl hc =>
    refine .tup ys vs (h.len.trans hl) fun j c v hj hv => ?_
    obtain ⟨x, hx, hw⟩ := h.get j c hj
    exact hw w β H v (hc j x v hx hv)
/-- Element by element. -/
def WkE (sz : Nat) : List V → List V → Prop
  | [], [] => True
  | x :: xs, y :: ys => (WkL x.cells y.cells ∧ okE sz y) ∧ WkE sz xs ys
  | _, _ => False
theorem WkE.len {sz : Nat} : ∀ {xs ys : List V}, WkE sz xs ys → ys.length = xs.length
  | [], [], _ => rfl
  | _ :: xs, _ :: ys, h => by simp [WkE.len h.2]
  | [], _ :: _, h => h.elim
  | _ :: _, [], h => h.elim
theorem WkE.get {sz : Nat} : ∀ {xs ys : List V}, WkE sz xs ys → ∀ (j : Nat) (y : V), ys[j]? = some y → ∃ x, xs[j]? = some x ∧ WkL x.cells y.cells ∧ okE sz y
  | x :: xs, y :: ys, h, 0, z, hz => by simp at hz; subst hz; exact ⟨x, rfl, h.1⟩
  | x :: xs, y :: ys, h, j + 1, z, hz => by simpa using WkE.get h.2 j z (by simpa using hz)
  | [], [], _, j, z, hz => by simp at hz
  | [], _ :: _, h, _, _, _ => h.elim
  | _ :: _, [], h, _, _, _ => h.elim
theorem Wk.sl {sz : Nat} {xs ys : List V} (h : WkE sz xs ys) : Wk (.sl sz xs) (.sl sz ys) := fun w β H u r => by
  generalize hn : V.sl sz xs = q at r
  cases r with
  | sl sz' xs' a cap vals hcap hmax hsz ha hr =>
    injection hn with h1 h2
    subst h1 h2
    have e := h.len
    rw [← e] at hcap ha ⊢
    refine .sl sz ys a cap vals hcap hmax (fun y hy => ?_) (fun hne => ha (fun hx => hne (by rw [hx] at e; exact List.length_eq_zero_iff.1 e))) (fun i y j c hi hj => ?_)
    · obtain ⟨j, hj, rfl⟩ := List.mem_iff_getElem.1 hy
      obtain ⟨x, _, _, h3⟩ := h.get j _ (List.getElem?_eq_getElem hj)
      exact h3
    · obtain ⟨x, hx, h2, _⟩ := h.get i y hi
      obtain ⟨z, hz, hw⟩ := h2.get j c hj
      exact hw w β H _ (hr i x j z hx hz)
  | _ => cases hn

/-- A result that says less. -/
theorem pure_wk {P : Program} {f : FuncId} {args : List V} {Q : V → Prop} (h : Pure P f args fun x => ∃ y, Wk x y ∧ y.pureB = true ∧ Q y) : Pure P f args Q := by
  unfold Pure Fun at *
  refine ⟨h.1, fun w β H m B vals cs hs hl hr => ?_⟩
  obtain ⟨x, T', v, w', β', H', m', fr, ⟨h1, h2, y, h3, h4, h5⟩, k1, k2, k3, k4⟩ := h.2 w β H m B vals cs hs hl hr
  rw [pure_conv _ _ h2] at k3
  exact ⟨y, T', v, w', β', H', m', fr, ⟨h1, h4, h5⟩, k1, k2, by rw [pure_conv _ _ h4]; exact h3 _ _ _ _ k3, k4⟩
theorem Pure.mono {P : Program} {f : FuncId} {args : List V} {Q Q' : V → Prop} (h : Pure P f args Q) (hq : ∀ x, Q x → Q' x) : Pure P f args Q' := by
  unfold Pure at *
  exact h.mono fun x T ⟨h1, h2, h3⟩ => ⟨h1, h2, hq x h3⟩
/-- Arguments that say more. -/
theorem pure_args {P : Program} {f : FuncId} {args args' : List V} {Q : V → Prop} (h : Pure P f args' Q) (hw : WkL args args') (hp : V.pureL args = true) (hp' : V.pureL args' = true) : Pure P f args Q := by
  unfold Pure Fun at *
  refine ⟨h.1, fun w β H m B vals cs hs hl hr => h.2 w β H m B vals cs hs (hw.len.trans hl) fun j x v hj hv => ?_⟩
  obtain ⟨y, hy, hyx⟩ := hw.get j x hj
  have h1 := hr j y v hy hv
  rw [pure_conv _ _ (pureL_mem _ hp y (List.mem_of_getElem? hy))] at h1
  rw [pure_conv _ _ (pureL_mem _ hp' x (List.mem_of_getElem? hj))]
  exact hyx _ _ _ _ h1

/-- A call of a function that leaves nothing behind; own slices among the arguments are frozen. -/
theorem call_pure_frz {c : Cx} {g : FuncId} {args : List V} {E : Env} {T : Heap} {K : V → St → Prop} (h : frzAll args T False fun args' T' => ∃ Q, Pure c.P g args' Q ∧ V.pureL args' = true ∧ ∀ x, Q x → K x ⟨E, T', c.B, c.D⟩) : CallThen c g args E T K := by
  rcases frzAll_sound (F := False) _ _ _ h with h | ⟨args', T', ⟨Q, hf, ha, hk⟩, hz⟩
  · exact h.elim
  have hen : Enterable c.P g := by
    unfold Pure Fun at hf
    exact hf.1
  unfold CallThen
  refine ⟨hen, fun w β H m a vals cs hs hl hr => ?_⟩
  obtain ⟨H1, h1, h2, h3⟩ := hz.2 _ _ _ _ _ _ _ _ _ _ hs
  obtain ⟨x, v, w', β', H', fr, hq, hp, k1, k2, k3, k4⟩ := pure_step hf ha h1 cs (by rw [hz.1]; exact hl) (fun j x v hj hv => by
    have hjl : j < args.length := by have := lt_of_get hj; rw [hz.1] at this; exact this
    have e := List.getElem?_eq_getElem hjl
    rw [pure_conv _ _ (pureL_mem _ ha x (List.mem_of_getElem? hj))]
    exact h3 j _ x v e hj (hr j _ v e hv))
  exact ⟨x, _, v, w', β', H', m, fr, hk x hq, k1, h2.trans k2, by rw [pure_conv _ _ hp]; exact k3, k4.1, k4.2.1, k4.2.2, List.prefix_refl _⟩

/-! ### Loops at whose head the objects are what they were -/
/-! ### Loops that are left at several places -/
theorem goes_stop {c : Cx} {todo : List Item} {E : Env} {T : Heap} (s : List Nat) (h : Goes { c with stop := s } todo E T) : Goes c todo E T := by
  unfold Goes at *
  exact h
theorem goes_while {c : Cx} {body : Code} {id : Nat} {k : List Item} {E : Env} {T : Heap} {ι κ : Type} (Inv : ι → Prop) (μ : ι → Nat) (Eo : ι → Env) (To : ι → Heap) (i0 : ι) (Post : κ → Prop) (Ex : κ → Env) (Tx : κ → Heap) (n : Nat) (hD : ∀ i, c.D.all (Nat.blt · (To i).length) = true) (hi : ∀ i, Nat.ble c.imps.length (To i).length = true)
    (hDx : ∀ i, c.D.all (Nat.blt · (Tx i).length) = true) (hix : ∀ i, Nat.ble c.imps.length (Tx i).length = true)
    (h0 : Inv i0 ∧ envIs (To i0).length E (Eo i0) ∧ heapIs (To i0).length T (To i0)) (fin : ∀ x, Post x → evp c n k (Ex x) (Tx x))
    (step : ∀ i, Inv i → (∀ j E T, Inv j ∧ μ j < μ i ∧ envIs (To j).length E (Eo j) ∧ heapIs (To j).length T (To j) → Goes { c with stop := [id] } (.inLoop body :: .inBlock id :: k) E T) →
      (∀ x kk E T, exitTo id kk = some k → Post x ∧ envIs (Tx x).length E (Ex x) ∧ heapIs (Tx x).length T (Tx x) → Goes { c with stop := [id] } (.code (.exit id) :: kk) E T) →
      evp { c with stop := [id] } n (.code body :: .inLoop body :: .inBlock id :: k) (Eo i) (To i)) : Goes c (.code (.loop body) :: .inBlock id :: k) E T := by
  refine goes_stop [id] (goes_iter (c := { c with stop := [id] }) Inv μ Eo To i0 n hD hi h0 fun i hinv next => step i hinv next fun x kk E T hk ⟨hp, hE, hT⟩ => ?_)
  refine goes_still (fun b a cs w => stepR_exit hk) ?_
  refine goes_to (c := { c with stop := [id] }) (Ex x) (Tx x) (hDx x) (Nat.le_of_ble_eq_true (hix x)) hE hT ?_
  exact goes_stop (c := { c with stop := [id] }) c.stop (evp_sound n _ _ _ _ (fin x hp))
end Bow
/- AE34: operations that a walk steps over by a rule of their own: makes of slices, bytes to a string, a slice held against nil. -/
namespace Bow
open Go

section
variable {c : Cx} {E : Env} {T : Heap} {ops : Array Oper} {i : Nat} {rest : List Nat} {k : List Item} {o : Oper}

theorem goes_opTo {op : Op} {u : V} {T' : Heap} (n : Nat) (ho : lget ops.toList i = some o) (hg : o.guard = none) (hop : o.op = op) (hto : OpTo c op E T u T') (hnd : ∀ cl, op ≠ .defer cl)
    (h : putE c.nt o.dst u E False fun E' => evp c n (.inRegion ops rest :: k) E' T') : Goes c (.inRegion ops (i :: rest) :: k) E T := by
  rw [lget_eq, Array.getElem?_toList] at ho
  subst hop
  obtain ⟨E', h, hd⟩ := (putE_some h).resolve_left id
  exact goes_op ho (fun _ _ _ _ _ _ => wanted_none hg _) hto hnd hd (evp_sound _ _ _ _ _ h)

/-- A slice that is only read, held against nil: with elements it is not nil; else it may be. -/
theorem goes_nileq {t t' e : TypeId} {x : Operand} {sz : Nat} {xs : List V} {y : Operand} (n : Nat) (ho : lget ops.toList i = some o) (hg : o.guard = none) (hop : o.op = .binOp .eql t x y t') (hx : opd E x = .sl sz xs) (hy : y = .const (.slice none 0 0))
    (ht : tyU c.P t = some (.slice e)) (h : ∀ b : Bool, (b = true → xs = []) → putE c.nt o.dst (.bool b) E False fun E' => evp c n (.inRegion ops rest :: k) E' T) : Goes c (.inRegion ops (i :: rest) :: k) E T := by
  have step : ∀ (w : World) (β : Nat → Loc) (H : Heap) (m : List Nat) (a : Act), SRel c.imps c.nt w β H m ⟨E, T, c.B, c.D⟩ a → ∃ b : Bool, (b = true → xs = []) ∧ (execOp a.eval o).run c.P w = .ok (.value (.bool b)) w := by
    intro w β H m a hs
    have hr := opd_rep hs x
    simp only [hx, V.conv] at hr
    generalize hq : a.eval x = q at hr
    generalize hyy : V.sl sz xs = yy at hr
    cases hr with
    | sl sz' xs' ad cap vals hcap hmax hok ha hc =>
      injection hyy with y1 y2
      subst y1 y2
      subst hy
      refine ⟨ad.isNone, fun hn => ?_, ?_⟩
      · refine Classical.byContradiction fun hne => ?_
        obtain ⟨ad', rfl, _⟩ := ha hne
        cases hn
      · have e2 : a.eval (.const (.slice none 0 0)) = .slice none 0 0 := rfl
        simp only [execOp, hop, hq, e2]
        have heq : (Op.equal t (.slice ad xs.length cap) (.slice none 0 0)).run c.P w = .ok ad.isNone w := by
          unfold Op.equal Op.maxDepth Op.equalIn
          cases ad <;> simp [Sem.run_bind, run_underlying (tyU_sound ht)]
        have hbin : (binOp .eql t (.slice ad xs.length cap) (.slice none 0 0)).run c.P w = .ok (.bool ad.isNone) w := by
          unfold binOp
          simp only [Sem.run_bind, heq]
          simp
        have hgd : (eqGuard .eql t x (.const (.slice none 0 0)) (.slice ad xs.length cap) (.slice none 0 0)).run c.P w = .ok () w := by
          simp [eqGuard]
        simp only [Sem.run_bind, hgd, Result.andThen_ok, hbin]
        rfl
    | _ => cases hyy
  refine goes_step fun w β H m a b cs hs h1 h2 h3 => ?_
  obtain ⟨bb, hb1, hb2⟩ := step w β H m a hs
  obtain ⟨E', h, hd⟩ := (putE_some (h bb hb1)).resolve_left id
  rw [lget_eq, Array.getElem?_toList] at ho
  have hfin : (b.atR a (.inRegion ops (i :: rest) :: k)).finish (.bool bb) = b.atR (a.put o.dst (.bool bb)) (.inRegion ops rest :: k) := by
    rw [Frame.finish_atR]
    simp [ho]
  refine ⟨w, β, H, m, a.put o.dst (.bool bb), .inRegion ops rest :: k, ⟨E', T, c.B, c.D⟩, .one ?_, hs.putTo (.bool bb) hd, Fr.refl _ _ _, evp_sound _ _ _ _ _ h⟩
  refine step_lone_go ?_
  rw [stepGR_op ho (wanted_none hg _), Oper.semAt_eq _ _ _ (by intro cl; rw [hop]; exact fun h => by cases h)]
  simp [stepG.apply, hb2, Sem.runT_eq, hfin]
end
end Bow
/- AE35: an own object is frozen, within rows of cells, too. -/
namespace Bow
open Go

section
variable {w : World} {β : Nat → Loc} {H : Heap}
theorem Fr.swap {r : Nat} {o o' : HObj} (ho : H[r]? = some (some o)) (he : Evo o o') (hns : ¬ isSeal o := by exact fun h => h) : Fr w β H w β (H.set r (some o')) := by
  refine ⟨⟨rfl, rfl, rfl, Nat.le_refl _, by simp, ?_, fun _ _ _ => rfl, ?_, fun _ _ => rfl, fun q s hs => ⟨?_, rfl⟩⟩, fun _ _ h => h⟩
  · intro q p _ hp
    rcases get_set_some hp with ⟨h1, h2, _⟩ | ⟨_, h2⟩
    · injection h2 with h2
      subst h1 h2
      exact ⟨o, ho, he, fun _ _ => rfl⟩
    · exact ⟨p, h2, Evo.refl _, fun _ _ => rfl⟩
  · rintro k ⟨q, M, ⟨p, hl, hpn⟩, hb⟩
    rcases get_set_some hl with ⟨h1, _, _⟩ | ⟨_, h2⟩
    · subst h1
      exact .inr ⟨q, M, ⟨o, ho, hns⟩, hb⟩
    · exact .inr ⟨q, M, ⟨p, h2, hpn⟩, hb⟩
  · rcases get_set_some hs with ⟨_, h2, _⟩ | ⟨_, h2⟩
    · injection h2 with h2
      subst h2
      exact (hns (by cases o <;> first | exact he.elim | trivial)).elim
    · exact h2
theorem HRel.swap (h : HRel w β H) {r : Nat} {o o' : HObj} (ho : H[r]? = some (some o)) (he : Evo o o') (hn : ORel w β (H.set r (some o')) (β r) o') (hns : ¬ isSeal o := by exact fun h => h) : HRel w β (H.set r (some o')) := by
  have go : ∀ {q : Nat}, live (H.set r (some o')) q → live H q := fun {q} hq => by
    obtain ⟨p, hp⟩ := hq
    rcases get_set_some hp with ⟨h1, _, _⟩ | ⟨_, h2⟩
    · subst h1; exact ⟨o, ho⟩
    · exact ⟨p, h2⟩
  refine h.step (Fr.swap ho he hns) ?_ (fun q q' b M M' hl hl' hb hb' => h.inj q q' b M M' (go hl) (go hl') hb hb')
  intro q p hp
  rcases get_set_some hp with ⟨h1, h2, _⟩ | ⟨_, h2⟩
  · injection h2 with h2
    subst h1 h2
    exact .inr hn
  · exact .inl ⟨h2, rfl, fun _ _ _ => rfl⟩
end

end Bow
/- SP2: operations, as values; which are formed. -/
namespace Bow
open Go

structure PieceT where
  keep : Int
  drop : Int
  put : List UInt8
structure OpT where
  kind : Int
  path : List Int
  at_ : Int
  to : List Int
  id : Int
  leaf : Bool
  label : List UInt8
  key : List UInt8
  value : List UInt8
  gone : Bool
  pieces : List PieceT

def intV (n : Int) : V := .int .i64 n
def pieceV (p : PieceT) : V := .agg [.int .i64 p.keep, .int .i64 p.drop, .str p.put]
def pathV (p : List Int) : V := .sl 1 (p.map intV)
def piecesV (l : List PieceT) : V := .sl 3 (l.map pieceV)
def opV (o : OpT) : V := .agg [.int .u8 o.kind, pathV o.path, .int .i64 o.at_, pathV o.to, .int .u64 o.id, .bool o.leaf, .str o.label, .str o.key, .str o.value, .bool o.gone, piecesV o.pieces]

/-! ### Leaves of walks that end in a truth value -/
theorem leaf_tt {b : Bool} (h : b = true) : ∃ y, Wk .tt y ∧ y.pureB = true ∧ y = .bool b := ⟨_, Wk.tt, rfl, by rw [h]⟩
theorem leaf_ff {b : Bool} (h : b = false) : ∃ y, Wk .ff y ∧ y.pureB = true ∧ y = .bool b := ⟨_, Wk.ff, rfl, by rw [h]⟩
theorem leaf_b {b b' : Bool} (h : b' = b) : ∃ y, Wk (.bool b') y ∧ y.pureB = true ∧ y = .bool b := ⟨_, Wk.refl _, rfl, by rw [h]⟩
/-! ### Formed -/
def stepOk (n : Int) : Bool := decide (0 ≤ n) && decide (n < 1048576)
def mayP (p : List Int) : Bool := decide (p.length ≤ 64) && p.all stepOk
def keyOk (s : List UInt8) : Bool := decide (1 ≤ s.length) && decide (s.length ≤ 64)
/-- Pieces that are right, when so many bytes have been put ahead. -/
def rightGo : Nat → List PieceT → Bool
  | _, [] => true
  | n, p :: l => (decide (0 ≤ p.keep) && decide (p.keep ≤ 1048576) && decide (0 ≤ p.drop) && decide (p.drop ≤ 1048576) && decide (n + p.put.length ≤ 1048576)) && rightGo (n + p.put.length) l
def rightP (l : List PieceT) : Bool := decide (l.length ≤ 4096) && rightGo 0 l
def gapOk (n : Int) : Bool := decide (0 ≤ n) && decide (n ≤ 1048576)
def formedB (o : OpT) : Bool :=
  mayP o.path && (bif o.kind == 1 then gapOk o.at_ && decide ((o.label.length : Int) ≤ 64) else bif o.kind == 2 then true else bif o.kind == 3 then gapOk o.at_ && mayP o.to
    else bif o.kind == 4 then keyOk o.key && (o.gone || decide ((o.value.length : Int) ≤ 256)) else bif o.kind == 5 then decide ((o.label.length : Int) ≤ 64) else bif o.kind == 6 then rightP o.pieces else false)

/-! ### Bare -/
def noOp (k : Int) : OpT := ⟨k, [], 0, [], 0, false, [], [], [], false, []⟩
def bareO (o : OpT) : OpT :=
  bif o.kind == 1 then { noOp 1 with path := o.path, at_ := o.at_, id := o.id, leaf := o.leaf, label := o.label }
  else bif o.kind == 2 then { noOp 2 with path := o.path }
  else bif o.kind == 3 then { noOp 3 with path := o.path, at_ := o.at_, to := o.to }
  else bif o.kind == 4 then { noOp 4 with path := o.path, key := o.key, gone := o.gone, value := bif o.gone then [] else o.value }
  else bif o.kind == 5 then { noOp 5 with path := o.path, label := o.label }
  else bif o.kind == 6 then { noOp 6 with path := o.path, pieces := o.pieces }
  else noOp o.kind
/-- So much, at most. -/
structure OpT.Lt (o : OpT) (n : Nat) : Prop where
  path : o.path.length ≤ n
  to : o.to.length ≤ n
  label : o.label.length ≤ n
  key : o.key.length ≤ n
  value : o.value.length ≤ n
  pieces : o.pieces.length ≤ n
def putsLen (l : List PieceT) : Nat := l.foldr (fun p n => p.put.length + n) 0
end Bow
/- SP3: paths, in plain Lean. -/
namespace Bow
open Go

def common : List Int → List Int → Nat
  | p :: ps, q :: qs => bif decide (p = q) then common ps qs + 1 else 0
  | _, _ => 0
/-- Is a path another one, or does it lead to above it? -/
def within (p q : List Int) : Bool := decide (p = q.take p.length)
theorem common_within : ∀ p q : List Int, decide (common p q = p.length) = within p q
  | [], q => by simp [common, within]
  | p :: ps, [] => by simp [common, within]
  | p :: ps, q :: qs => by
    have ih := common_within ps qs
    unfold within at ih ⊢
    rw [common]
    by_cases h : p = q
    · subst h
      simp only [decide_true, cond_true, List.length_cons, Nat.add_right_cancel_iff, List.take_succ_cons, List.cons.injEq, true_and]
      exact ih
    · rw [decide_eq_false h]
      simp [h]
theorem within_len {p q : List Int} (h : within p q = true) : p.length ≤ q.length := by
  unfold within at h
  have h := of_decide_eq_true h
  have := congrArg List.length h
  simp at this
  omega
end Bow
/- SP4: nodes by their paths, in plain Lean. -/
namespace Bow
open Go

def subT (t : Tree) (i : Int) : Option Tree := bif decide (i < 0) then none else t.subs[i.toNat]?
def atT : Tree → List Int → Option Tree
  | t, [] => some t
  | t, i :: p => match subT t i with
    | none => none
    | some s => atT s p
theorem subT_some {t s : Tree} {i : Int} (h : subT t i = some s) : 0 ≤ i ∧ t.subs[i.toNat]? = some s ∧ s ∈ t.subs := by
  unfold subT at h
  by_cases hi : i < 0
  · rw [decide_eq_true hi] at h; cases h
  · rw [decide_eq_false hi] at h
    exact ⟨by omega, h, List.mem_of_getElem? h⟩
theorem subT_neg {t : Tree} {i : Int} (h : i < 0) : subT t i = none := by unfold subT; rw [decide_eq_true h]; rfl
theorem subT_big {t : Tree} {i : Int} (h : (t.subs.length : Int) ≤ i) : subT t i = none := by
  unfold subT
  rw [decide_eq_false (by omega)]
  simp
  omega
theorem subT_at {t : Tree} {i : Int} (h0 : 0 ≤ i) (h1 : i < t.subs.length) : ∃ s, subT t i = some s ∧ t.subs[i.toNat]? = some s := by
  have hlt : i.toNat < t.subs.length := by omega
  refine ⟨t.subs[i.toNat], ?_, List.getElem?_eq_getElem hlt⟩
  unfold subT
  rw [decide_eq_false (by omega)]
  exact List.getElem?_eq_getElem hlt
theorem atT_weight {s : Tree} : ∀ {p : List Int} {t : Tree}, atT t p = some s → s.weight ≤ t.weight
  | [], t, h => by rw [atT] at h; injection h with h; subst h; exact Nat.le_refl _
  | i :: p, t, h => by
    rw [atT] at h
    cases hs : subT t i with
    | none => rw [hs] at h; cases h
    | some u =>
      rw [hs] at h
      have := atT_weight (p := p) h
      have := weight_sub (subT_some hs).2.2
      omega
/-- What At answers. -/
def atV (t0 : Tree) : Option Tree → V
  | some s => .tup [nodeV s, .tt]
  | none => .tup [nodeV t0, .ff]
def intoE (t : Tree) (at_ : Int) : Int := bif t.leaf then 83 else bif decide ((t.subs.length : Int) < at_) then 81 else 0
/-! ### Changes -/
def Tree.withSubs : Tree → List Tree → Tree
  | .mk i l a b c _, ss => .mk i l a b c ss
def changeT (F : Tree → Tree) : Tree → List Int → Tree
  | t, [] => F t
  | t, i :: p => match subT t i with
    | none => t
    | some s => t.withSubs (t.subs.set i.toNat (changeT F s p))
theorem withSubs_V (t : Tree) (ss : List Tree) : nodeV (t.withSubs ss) = .agg [.int .u64 t.id, .bool t.leaf, .str t.label, .sl 2 (t.attrs.map attrV), .str t.text, .sl 6 (ss.map nodeV)] := by
  cases t
  unfold nodeV
  rw [subV_eq]
  rfl
theorem withSubs_subs (t : Tree) (ss : List Tree) : (t.withSubs ss).subs = ss := by cases t; rfl
/-- A node at a gap. -/
def insT (at_ : Int) (x : Tree) (y : Tree) : Tree := y.withSubs (y.subs.take at_.toNat ++ x :: y.subs.drop at_.toNat)
/-- A node less. -/
def delT (at_ : Int) (y : Tree) : Tree := y.withSubs (y.subs.take at_.toNat ++ y.subs.drop (at_.toNat + 1))
/-- Where a moved node's target and gap are, when it has been taken out of place i of the node at q. -/
def landT (q : List Int) (i : Int) (to : List Int) (at_ : Int) : List Int × Int :=
  bif decide (q = to) && decide (i < at_) then (to, at_ - 1)
  else bif within q to && (decide (q.length < to.length) && decide (i < to.getD q.length 0)) then (to.set q.length (to.getD q.length 0 - 1), at_)
  else (to, at_)
end Bow
/- SP5: right trees, in plain Lean. -/
namespace Bow
open Go

def leS (a b : List UInt8) : Bool := Op.bytesLess a b || decide (a = b)
def ordOk : Option (List UInt8) → List UInt8 → Bool
  | none, _ => true
  | some k, s => !leS s k
def attrOk (k : Option (List UInt8)) (a : List UInt8 × List UInt8) : Bool := keyOk a.1 && (decide ((a.2.length : Int) ≤ 256) && ordOk k a.1)
/-- Attributes that are right, behind one of the key k. -/
def attrsOk : Option (List UInt8) → List (List UInt8 × List UInt8) → Bool
  | _, [] => true
  | k, a :: l => attrOk k a && attrsOk (some a.1) l
def headOk (t : Tree) : Bool := !decide ((64 : Int) < t.label.length) && (!(t.leaf && decide ((0 : Int) < t.subs.length)) && !(!t.leaf && !decide (t.text = [])))
/-- A node itself is right. -/
def rightN (t : Tree) : Bool := headOk t && attrsOk none t.attrs
mutual
def Tree.rightA : Tree → Bool
  | .mk i l a b c ss => rightN (.mk i l a b c ss) && rightsA ss
def rightsA : List Tree → Bool
  | [] => true
  | s :: ss => s.rightA && rightsA ss
end
theorem rightA_eq (t : Tree) : t.rightA = (rightN t && rightsA t.subs) := by cases t; rw [Tree.rightA]; rfl
theorem rightsA_all : ∀ ss : List Tree, rightsA ss = ss.all Tree.rightA
  | [] => by rw [rightsA]; rfl
  | s :: ss => by rw [rightsA, rightsA_all ss]; rfl
def rightT (t : Tree) : Bool := !t.leaf && t.rightA

/-- The key ahead of place i. -/
def prevK (l : List (List UInt8 × List UInt8)) : Nat → Option (List UInt8)
  | 0 => none
  | i + 1 => some (l.getD i ([], [])).1
theorem attrs_at {l : List (List UInt8 × List UInt8)} {i : Nat} (hi : i < l.length) : attrsOk (prevK l i) (l.drop i) = (attrOk (prevK l i) l[i] && attrsOk (prevK l (i + 1)) (l.drop (i + 1))) := by
  rw [List.drop_eq_getElem_cons hi, attrsOk, prevK, List.getD_eq_getElem?_getD, List.getElem?_eq_getElem hi]
  rfl
end Bow
/- SP6: edits of a text, in plain Lean. -/
namespace Bow
open Go

def extentP (l : List PieceT) : Int := l.foldr (fun p n => p.keep + p.drop + n) 0
def editP : List UInt8 → List PieceT → List UInt8
  | t, [] => t
  | t, p :: l => t.take p.keep.toNat ++ p.put ++ editP (t.drop (p.keep + p.drop).toNat) l
/-- What Apply answers. -/
def applyE (t : List UInt8) (l : List PieceT) : List UInt8 × Int :=
  bif !rightP l then ([], 2) else bif decide ((t.length : Int) < extentP l) then ([], 50) else (editP t l, 0)
def strE (r : List UInt8 × Int) : V := .tup [.str r.1, .int .i64 r.2]
theorem extentP_cons (p : PieceT) (l : List PieceT) : extentP (p :: l) = p.keep + p.drop + extentP l := rfl
structure PieceT.Ok (p : PieceT) : Prop where
  k0 : 0 ≤ p.keep
  k1 : p.keep ≤ 1048576
  d0 : 0 ≤ p.drop
  d1 : p.drop ≤ 1048576
theorem rightGo_ok : ∀ {l : List PieceT} {n : Nat}, rightGo n l = true → (∀ p ∈ l, p.Ok) ∧ (l = [] ∨ n + putsLen l ≤ 1048576)
  | [], n, _ => ⟨(fun p h => by cases h), .inl rfl⟩
  | p :: l, n, h => by
    rw [rightGo] at h
    simp only [Bool.and_eq_true, decide_eq_true_eq] at h
    obtain ⟨⟨⟨⟨⟨h1, h2⟩, h3⟩, h4⟩, h5⟩, h6⟩ := h
    obtain ⟨k1, k2⟩ := rightGo_ok h6
    refine ⟨fun q hq => ?_, .inr ?_⟩
    · rcases List.mem_cons.1 hq with rfl | hq
      · exact ⟨h1, h2, h3, h4⟩
      · exact k1 q hq
    · have e : putsLen (p :: l) = p.put.length + putsLen l := rfl
      rw [e]
      rcases k2 with rfl | k2
      · have : putsLen [] = 0 := rfl
        omega
      · omega
theorem rightP_ok {l : List PieceT} (h : rightP l = true) : l.length ≤ 4096 ∧ (∀ p ∈ l, p.Ok) ∧ putsLen l ≤ 1048576 := by
  unfold rightP at h
  simp only [Bool.and_eq_true, decide_eq_true_eq] at h
  obtain ⟨h1, h2⟩ := h
  obtain ⟨k1, k2⟩ := rightGo_ok h2
  refine ⟨h1, k1, ?_⟩
  rcases k2 with rfl | k2
  · exact Nat.zero_le _
  · omega
theorem extentP_nonneg : ∀ {l : List PieceT}, (∀ p ∈ l, p.Ok) → 0 ≤ extentP l
  | [], _ => Int.le_refl _
  | p :: l, h => by
    have := extentP_nonneg (l := l) fun q hq => h q (List.mem_cons_of_mem _ hq)
    have hp := h p List.mem_cons_self
    have := hp.k0
    have := hp.d0
    rw [extentP_cons]
    omega
theorem extentP_le : ∀ {l : List PieceT}, (∀ p ∈ l, p.Ok) → extentP l ≤ l.length * 2097152
  | [], _ => by simp [extentP]
  | p :: l, h => by
    have := extentP_le (l := l) fun q hq => h q (List.mem_cons_of_mem _ hq)
    have hp := h p List.mem_cons_self
    have := hp.k1
    have := hp.d1
    rw [extentP_cons, List.length_cons]
    omega
theorem editP_len : ∀ {l : List PieceT} {t : List UInt8}, (∀ p ∈ l, p.Ok) → extentP l ≤ t.length → (editP t l).length ≤ t.length + putsLen l
  | [], t, _, _ => by simp [editP, putsLen]
  | p :: l, t, h, he => by
    rw [extentP_cons] at he
    have hp := h p List.mem_cons_self
    have hl := fun q hq => h q (List.mem_cons_of_mem p hq)
    have := extentP_nonneg hl
    have ih := editP_len (l := l) (t := t.drop (p.keep + p.drop).toNat) hl (by have := hp.k0; have := hp.d0; simp; omega)
    have e : putsLen (p :: l) = p.put.length + putsLen l := rfl
    rw [editP, e]
    simp at ih ⊢
    have := hp.k0
    have := hp.d0
    omega
end Bow
/- SP7: which operations are valid, and what becomes of a tree. -/
namespace Bow
open Go

/-- Of an operation that is formed, on a tree that is right. -/
def validE (t : Tree) (o : OpT) : Int :=
  bif (decide (o.kind = 2) || decide (o.kind = 3)) && decide (o.path = []) then 82
  else match atT t o.path with
    | none => 81
    | some x => bif decide (o.kind = 1) then intoE x o.at_
      else bif decide (o.kind = 3) then (bif within o.path o.to then 84 else match atT t o.to with
        | none => 81
        | some y => intoE y o.at_)
      else bif decide (o.kind = 6) then (bif !x.leaf then 83 else (applyE x.text o.pieces).2)
      else 0
def ValidE (t : Tree) (o : OpT) : Int := bif !rightT t then 2 else bif !formedB o then 80 else validE t o
end Bow
/- SP8: a moved node's landing, in plain Lean. -/
namespace Bow
open Go

theorem weights_append : ∀ (a b : List Tree), weights (a ++ b) = weights a + weights b
  | [], b => by rw [weights]; simp
  | x :: a, b => by rw [List.cons_append, weights, weights, weights_append a b]; omega
theorem withSubs_weight (t : Tree) (ss : List Tree) : (t.withSubs ss).weight + weights t.subs = t.weight + weights ss := by
  cases t
  rw [weight_eq, weight_eq]
  simp only [Tree.withSubs, Tree.label, Tree.text, Tree.attrs, Tree.subs]
  omega
theorem subT_with (t : Tree) (ss : List Tree) (j : Int) (h : 0 ≤ j) : subT (t.withSubs ss) j = ss[j.toNat]? := by
  unfold subT
  rw [withSubs_subs, decide_eq_false (by omega)]
  rfl
theorem within_cons (k j : Int) (p q : List Int) : within (k :: p) (j :: q) = (decide (k = j) && within p q) := by
  unfold within
  simp
theorem within_nil (q : List Int) : within [] q = true := by unfold within; simp
theorem within_cons_nil (k : Int) (p : List Int) : within (k :: p) [] = false := by unfold within; simp
theorem landT_cons (k i at_ : Int) (q to : List Int) : landT (k :: q) i (k :: to) at_ = (k :: (landT q i to at_).1, (landT q i to at_).2) := by
  unfold landT
  rw [within_cons]
  simp only [List.cons.injEq, true_and, decide_true, Bool.true_and, List.length_cons, Nat.add_lt_add_iff_right, List.getD_cons_succ, List.set_cons_succ]
  cases (decide (q = to) && decide (i < at_)) <;> cases (within q to && (decide (q.length < to.length) && decide (i < to.getD q.length 0))) <;> rfl
theorem landT_other {k j i at_ : Int} {q to : List Int} (h : k ≠ j) : landT (k :: q) i (j :: to) at_ = (j :: to, at_) := by
  unfold landT
  rw [within_cons]
  simp [h]
theorem landT_top (k i at_ : Int) (q : List Int) : landT (k :: q) i [] at_ = ([], at_) := by
  unfold landT
  rw [within_cons_nil]
  simp

theorem withSubs_leaf (t : Tree) (ss : List Tree) : (t.withSubs ss).leaf = t.leaf := by cases t; rfl
theorem withSubs_id (t : Tree) (ss : List Tree) : (t.withSubs ss).id = t.id := by cases t; rfl
/-- Where a moved node lands there is a node, with such a gap. -/
theorem land_at2 {i at_ : Int} (hi : 0 ≤ i) (h0 : 0 ≤ at_) : ∀ (q to : List Int) (t y z : Tree), atT t q = some y → i < y.subs.length → within (q ++ [i]) to = false → atT t to = some z → at_ ≤ z.subs.length →
    ∃ z', atT (changeT (delT i) t q) (landT q i to at_).1 = some z' ∧ 0 ≤ (landT q i to at_).2 ∧ (landT q i to at_).2 ≤ z'.subs.length ∧ z'.leaf = z.leaf ∧ z'.id = z.id
  | [], [], t, y, z, hy, hiy, hw, hz, hat => by
    rw [atT] at hy hz
    injection hy with hy
    injection hz with hz
    subst hy hz
    have hl : (delT i t).subs.length + 1 = t.subs.length := by
      unfold delT
      rw [withSubs_subs]
      simp
      omega
    unfold landT
    rw [changeT]
    by_cases h : i < at_
    · rw [decide_eq_true h]
      exact ⟨_, rfl, by show 0 ≤ at_ - 1; omega, by show at_ - 1 ≤ _; omega, withSubs_leaf _ _, withSubs_id _ _⟩
    · rw [decide_eq_false h]
      simp only [decide_true, Bool.and_false, within_nil, List.length_nil, cond_false, Nat.lt_irrefl, decide_false, Bool.false_and]
      exact ⟨_, rfl, h0, by omega, withSubs_leaf _ _, withSubs_id _ _⟩
  | [], j :: to, t, y, z, hy, hiy, hw, hz, hat => by
    rw [atT] at hy
    injection hy with hy
    subst hy
    rw [atT] at hz
    cases hs : subT t j with
    | none => rw [hs] at hz; cases hz
    | some s =>
    rw [hs] at hz
    simp only at hz
    obtain ⟨hj, hsj, _⟩ := subT_some hs
    have hji : j ≠ i := by
      rintro rfl
      simp [within] at hw
    rw [changeT]
    have e : landT [] i (j :: to) at_ = (bif decide (i < j) then ((j - 1) :: to, at_) else (j :: to, at_)) := by
      unfold landT
      simp [within_nil]
    rw [e]
    by_cases h : i < j
    · rw [decide_eq_true h]
      refine ⟨z, ?_, h0, hat, rfl, rfl⟩
      simp only [cond_true]
      rw [atT]
      have : subT (delT i t) (j - 1) = some s := by
        unfold delT
        rw [subT_with _ _ _ (by omega), List.getElem?_append_right (by simp; omega), List.getElem?_drop, ← hsj]
        congr 1
        simp
        omega
      rw [this]
      exact hz
    · rw [decide_eq_false h]
      refine ⟨z, ?_, h0, hat, rfl, rfl⟩
      simp only [cond_false]
      rw [atT]
      have : subT (delT i t) j = some s := by
        unfold delT
        rw [subT_with _ _ _ hj, List.getElem?_append_left (by simp; omega), List.getElem?_take, if_pos (by omega), hsj]
      rw [this]
      exact hz
  | k :: q, [], t, y, z, hy, hiy, hw, hz, hat => by
    rw [atT] at hz
    injection hz with hz
    subst hz
    rw [landT_top, atT]
    refine ⟨_, rfl, h0, ?_⟩
    rw [changeT]
    cases subT t k with
    | none => exact ⟨hat, rfl, rfl⟩
    | some s =>
      simp only
      rw [withSubs_subs, List.length_set]
      exact ⟨hat, withSubs_leaf _ _, withSubs_id _ _⟩
  | k :: q, j :: to, t, y, z, hy, hiy, hw, hz, hat => by
    rw [atT] at hy hz
    cases hs : subT t k with
    | none => rw [hs] at hy; cases hy
    | some s =>
    rw [hs] at hy
    simp only at hy
    obtain ⟨hk, hsk, _⟩ := subT_some hs
    have hkl := lt_of_get hsk
    rw [changeT, hs]
    simp only
    by_cases h : k = j
    · subst h
      rw [hs] at hz
      simp only at hz
      rw [List.cons_append, within_cons] at hw
      simp only [decide_true, Bool.true_and] at hw
      rw [landT_cons]
      obtain ⟨z', h1, h2, h3, h4⟩ := land_at2 hi h0 q to s y z hy hiy hw hz hat
      refine ⟨z', ?_, h2, h3, h4⟩
      simp only
      rw [atT, subT_with _ _ _ hk, List.getElem?_set_self hkl]
      exact h1
    · rw [landT_other h]
      refine ⟨z, ?_, h0, hat, rfl, rfl⟩
      cases hs2 : subT t j with
      | none => rw [hs2] at hz; cases hz
      | some s2 =>
      rw [hs2] at hz
      simp only at hz
      obtain ⟨hj, hsj, _⟩ := subT_some hs2
      simp only
      rw [atT, subT_with _ _ _ hj, List.getElem?_set_ne (by omega), hsj]
      exact hz

/-! ### The path of a node's parent -/
theorem at_parent : ∀ {p : List Int} (hne : p ≠ []) {t x : Tree}, atT t p = some x → ∃ y, atT t p.dropLast = some y ∧ 0 ≤ p.getLast hne ∧ p.getLast hne < y.subs.length ∧ y.subs[(p.getLast hne).toNat]? = some x
  | [i], _, t, x, h => by
    rw [atT] at h
    cases hs : subT t i with
    | none => rw [hs] at h; cases h
    | some s =>
      rw [hs] at h
      simp only [atT] at h
      injection h with h
      subst h
      obtain ⟨h1, h2, _⟩ := subT_some hs
      have := lt_of_get h2
      exact ⟨t, rfl, h1, by show i < _; omega, h2⟩
  | i :: j :: p, hne, t, x, h => by
    rw [atT] at h
    cases hs : subT t i with
    | none => rw [hs] at h; cases h
    | some s =>
      rw [hs] at h
      obtain ⟨y, h1, h2, h3, h4⟩ := at_parent (p := j :: p) (by simp) h
      refine ⟨y, ?_, ?_⟩
      · rw [List.dropLast_cons_of_ne_nil (by simp), atT, hs]
        exact h1
      · rw [List.getLast_cons (by simp)]
        exact ⟨h2, h3, h4⟩
/-! ### What becomes of a tree -/
/-- A node new. -/
def freshT (o : OpT) : Tree := .mk o.id o.leaf o.label [] [] []
def relabelT (s : List UInt8) : Tree → Tree
  | .mk i l _ a c ss => .mk i l s a c ss
def retextT (l : List PieceT) : Tree → Tree
  | .mk i lf b a c ss => .mk i lf b a (applyE c l).1 ss
def lastP (p : List Int) : Int := p.getLastD 0
theorem lastP_eq {p : List Int} (h : p ≠ []) : p.getLast h = lastP p := by
  unfold lastP
  cases p with
  | nil => exact absurd rfl h
  | cons a p => rw [List.getLastD_eq_getLast?, List.getLast?_eq_some_getLast h]; rfl
def moveT (x t : Tree) (o : OpT) : Tree :=
  changeT (insT (landT o.path.dropLast (lastP o.path) o.to o.at_).2 x) (changeT (delT (lastP o.path)) t o.path.dropLast) (landT o.path.dropLast (lastP o.path) o.to o.at_).1
end Bow
/- SP10: a move, by taking out first or by putting in first, in plain Lean. -/
namespace Bow
open Go

/-! ### Rows -/
section
variable {α : Type}
def insL (m : Nat) (x : α) (l : List α) : List α := l.take m ++ x :: l.drop m
def delL (n : Nat) (l : List α) : List α := l.take n ++ l.drop (n + 1)
theorem insL_succ (m : Nat) (x a : α) (l : List α) : insL (m + 1) x (a :: l) = a :: insL m x l := rfl
theorem delL_succ (n : Nat) (a : α) (l : List α) : delL (n + 1) (a :: l) = a :: delL n l := rfl
theorem del_ins_lt (x : α) : ∀ (l : List α) (n m : Nat), n < m → m ≤ l.length → delL n (insL m x l) = insL (m - 1) x (delL n l)
  | [], n, m, h, hm => by simp at hm; omega
  | a :: l, 0, m + 1, _, _ => rfl
  | a :: l, n + 1, m + 1, h, hm => by
    have hm' : m ≤ l.length := by simpa using hm
    obtain ⟨k, rfl⟩ : ∃ k, m = k + 1 := ⟨m - 1, by omega⟩
    rw [insL_succ, delL_succ, del_ins_lt x l n (k + 1) (by omega) hm', delL_succ]
    rfl
theorem del_ins_ge (x : α) : ∀ (l : List α) (n m : Nat), m ≤ n → n < l.length → delL (n + 1) (insL m x l) = insL m x (delL n l)
  | [], n, m, h, hm => by simp at hm
  | a :: l, n, 0, _, _ => rfl
  | a :: l, n + 1, m + 1, h, hm => by
    have hm' : n < l.length := by simpa using hm
    rw [insL_succ, delL_succ, del_ins_ge x l n m (by omega) hm', delL_succ, insL_succ]
theorem del_set_lt (K : α) : ∀ (l : List α) (i j : Nat), i < j → delL i (l.set j K) = (delL i l).set (j - 1) K
  | [], i, j, h => by simp [delL]
  | a :: l, 0, j + 1, _ => rfl
  | a :: l, i + 1, j + 1, h => by
    obtain ⟨k, rfl⟩ : ∃ k, j = k + 1 := ⟨j - 1, by omega⟩
    rw [List.set_cons_succ, delL_succ, del_set_lt K l i (k + 1) (by omega), delL_succ]
    rfl
theorem del_set_gt (K : α) : ∀ (l : List α) (i j : Nat), j < i → delL i (l.set j K) = (delL i l).set j K
  | [], i, j, h => by simp [delL]
  | a :: l, i + 1, 0, h => rfl
  | a :: l, i + 1, j + 1, h => by
    rw [List.set_cons_succ, delL_succ, del_set_gt K l i j (by omega), delL_succ, List.set_cons_succ]
theorem ins_set_lt (x K : α) : ∀ (l : List α) (m k : Nat), k < m → (insL m x l).set k K = insL m x (l.set k K) ∨ l.length ≤ k
  | [], m, k, h => .inr (by simp)
  | a :: l, m + 1, 0, _ => .inl rfl
  | a :: l, m + 1, k + 1, h => by
    rcases ins_set_lt x K l m k (by omega) with h1 | h1
    · left
      rw [insL_succ, List.set_cons_succ, h1, List.set_cons_succ, insL_succ]
    · right
      simpa using h1
theorem ins_set_ge (x K : α) : ∀ (l : List α) (m k : Nat), m ≤ k → (insL m x l).set (k + 1) K = insL m x (l.set k K)
  | [], m, k, h => by cases m <;> simp [insL]
  | a :: l, 0, k, _ => rfl
  | a :: l, m + 1, k + 1, h => by
    rw [insL_succ, List.set_cons_succ, ins_set_ge x K l m k (by omega), List.set_cons_succ, insL_succ]
theorem ins_get_lt (x : α) : ∀ (l : List α) (m k : Nat), k < m → k < l.length → (insL m x l)[k]? = l[k]?
  | [], m, k, h, hk => by simp at hk
  | a :: l, m + 1, 0, _, _ => rfl
  | a :: l, m + 1, k + 1, h, hk => by
    rw [insL_succ, List.getElem?_cons_succ, List.getElem?_cons_succ]
    exact ins_get_lt x l m k (by omega) (by simpa using hk)
theorem ins_get_ge (x : α) : ∀ (l : List α) (m k : Nat), m ≤ k → m ≤ l.length → (insL m x l)[k + 1]? = l[k]?
  | [], m, k, h, hm => by
    have : m = 0 := by simpa using hm
    subst this
    simp [insL]
  | a :: l, 0, k, _, _ => rfl
  | a :: l, m + 1, k + 1, h, hm => by
    rw [insL_succ, List.getElem?_cons_succ, List.getElem?_cons_succ]
    exact ins_get_ge x l m k (by omega) (by simpa using hm)
end
theorem insT_eq (at_ : Int) (x y : Tree) : insT at_ x y = y.withSubs (insL at_.toNat x y.subs) := rfl
theorem delT_eq (i : Int) (y : Tree) : delT i y = y.withSubs (delL i.toNat y.subs) := rfl
theorem withSubs_withSubs (t : Tree) (a b : List Tree) : (t.withSubs a).withSubs b = t.withSubs b := by cases t; rfl

/-! ### Without a node -/
def withoutT (t : Tree) (p : List Int) : Tree := changeT (delT (lastP p)) t p.dropLast
theorem lastP_cons {p : List Int} (k : Int) (h : p ≠ []) : lastP (k :: p) = lastP p := by
  rw [← lastP_eq (by simp), ← lastP_eq h, List.getLast_cons h]
theorem without_one (t : Tree) (i : Int) : withoutT t [i] = delT i t := rfl
theorem without_cons (t : Tree) (k : Int) {p : List Int} (h : p ≠ []) {s : Tree} (hs : subT t k = some s) : withoutT t (k :: p) = t.withSubs (t.subs.set k.toNat (withoutT s p)) := by
  unfold withoutT
  rw [lastP_cons k h, List.dropLast_cons_of_ne_nil h, changeT, hs]
theorem change_cons (F : Tree → Tree) (t : Tree) (k : Int) (p : List Int) {s : Tree} (hs : subT t k = some s) : changeT F t (k :: p) = t.withSubs (t.subs.set k.toNat (changeT F s p)) := by
  rw [changeT, hs]

/-- A node's path, when another one has been put at a gap. -/
def liftP (to : List Int) (at_ : Int) (fr : List Int) : List Int :=
  bif decide (to.length < fr.length) && (within to fr && decide (at_ ≤ fr.getD to.length 0)) then fr.set to.length (fr.getD to.length 0 + 1) else fr
theorem lift_cons (k at_ : Int) (to fr : List Int) : liftP (k :: to) at_ (k :: fr) = k :: liftP to at_ fr := by
  unfold liftP
  rw [within_cons]
  simp only [decide_true, Bool.true_and, List.length_cons, Nat.add_lt_add_iff_right, List.getD_cons_succ, List.set_cons_succ]
  cases (decide (to.length < fr.length) && (within to fr && decide (at_ ≤ fr.getD to.length 0))) <;> rfl
theorem lift_other {k j : Int} (at_ : Int) (to fr : List Int) (h : j ≠ k) : liftP (j :: to) at_ (k :: fr) = k :: fr := by
  unfold liftP
  rw [within_cons, decide_eq_false h]
  simp
theorem lift_nil (k at_ : Int) (fr : List Int) : liftP [] at_ (k :: fr) = (bif decide (at_ ≤ k) then k + 1 else k) :: fr := by
  unfold liftP
  rw [within_nil]
  by_cases h : at_ ≤ k <;> simp [h]
theorem lift_short (i j at_ : Int) (to : List Int) : liftP (j :: to) at_ [i] = [i] := by
  unfold liftP
  simp

/-- Put in first, then taken out where it stands now: as taken out first, then put in. -/
theorem move_law {at_ : Int} (h0 : 0 ≤ at_) (x : Tree) : ∀ (fr to : List Int) (t s z : Tree), fr ≠ [] → atT t fr = some s → within fr to = false → atT t to = some z → at_ ≤ z.subs.length →
    withoutT (changeT (insT at_ x) t to) (liftP to at_ fr) = changeT (insT (landT fr.dropLast (lastP fr) to at_).2 x) (withoutT t fr) (landT fr.dropLast (lastP fr) to at_).1
  | [], _, _, _, _, h, _, _, _, _ => absurd rfl h
  | [i], [], t, s, z, _, hs, hw, hz, hat => by
    rw [atT] at hz
    injection hz with hz
    subst hz
    rw [atT] at hs
    cases hu : subT t i with
    | none => rw [hu] at hs; cases hs
    | some u =>
    obtain ⟨hi, hsi, _⟩ := subT_some hu
    have hil := lt_of_get hsi
    rw [lift_nil, without_one, without_one]
    show delT _ (insT at_ x t) = _
    have e : landT ([i] : List Int).dropLast (lastP [i]) [] at_ = (bif decide (i < at_) then ([], at_ - 1) else ([], at_)) := by
      unfold landT lastP
      by_cases h : i < at_ <;> simp [h, within_nil]
    rw [e]
    by_cases h : i < at_
    · rw [decide_eq_true h, decide_eq_false (by omega : ¬ at_ ≤ i)]
      simp only [cond_true, cond_false]
      show _ = insT (at_ - 1) x (delT i t)
      rw [insT_eq, insT_eq, delT_eq, delT_eq, withSubs_subs, withSubs_subs, withSubs_withSubs, withSubs_withSubs, del_ins_lt x t.subs i.toNat at_.toNat (by omega) (by omega)]
      congr 2
      omega
    · rw [decide_eq_false h, decide_eq_true (by omega : at_ ≤ i)]
      simp only [cond_true, cond_false]
      show _ = insT at_ x (delT i t)
      rw [insT_eq, insT_eq, delT_eq, delT_eq, withSubs_subs, withSubs_subs, withSubs_withSubs, withSubs_withSubs]
      have : (i + 1).toNat = i.toNat + 1 := by omega
      rw [this, del_ins_ge x t.subs i.toNat at_.toNat (by omega) (by omega)]
  | [i], j :: to, t, s, z, _, hs, hw, hz, hat => by
    rw [atT] at hs hz
    cases hu : subT t i with
    | none => rw [hu] at hs; cases hs
    | some u =>
    cases hv : subT t j with
    | none => rw [hv] at hz; cases hz
    | some v =>
    obtain ⟨hi, hsi, _⟩ := subT_some hu
    obtain ⟨hj, hsj, _⟩ := subT_some hv
    have hil := lt_of_get hsi
    have hjl := lt_of_get hsj
    have hji : j ≠ i := by
      rintro rfl
      simp [within] at hw
    rw [lift_short, without_one, without_one, change_cons _ _ _ _ hv]
    have e : landT ([i] : List Int).dropLast (lastP [i]) (j :: to) at_ = (bif decide (i < j) then ((j - 1) :: to, at_) else (j :: to, at_)) := by
      unfold landT lastP
      simp [within_nil]
    rw [e]
    by_cases h : i < j
    · rw [decide_eq_true h]
      simp only [cond_true]
      have hv' : subT (delT i t) (j - 1) = some v := by
        unfold delT
        rw [subT_with _ _ _ (by omega), List.getElem?_append_right (by simp; omega), List.getElem?_drop, ← hsj]
        congr 1
        simp
        omega
      rw [change_cons _ _ _ _ hv', delT_eq, delT_eq, withSubs_withSubs, withSubs_withSubs, withSubs_subs, withSubs_subs, del_set_lt _ _ _ _ (by omega)]
      congr 2
      omega
    · rw [decide_eq_false h]
      simp only [cond_false]
      have hv' : subT (delT i t) j = some v := by
        unfold delT
        rw [subT_with _ _ _ hj, List.getElem?_append_left (by simp; omega), List.getElem?_take, if_pos (by omega), hsj]
      rw [change_cons _ _ _ _ hv', delT_eq, delT_eq, withSubs_withSubs, withSubs_withSubs, withSubs_subs, withSubs_subs, del_set_gt _ _ _ _ (by omega)]
  | k :: k2 :: q, [], t, s, z, _, hs, hw, hz, hat => by
    rw [atT] at hz
    injection hz with hz
    subst hz
    rw [atT] at hs
    cases hu : subT t k with
    | none => rw [hu] at hs; cases hs
    | some u =>
    obtain ⟨hk, hsk, _⟩ := subT_some hu
    have hkl := lt_of_get hsk
    rw [lift_nil, List.dropLast_cons_of_ne_nil (by simp), landT_top]
    show withoutT (insT at_ x t) _ = insT at_ x (withoutT t _)
    rw [without_cons t k (by simp) hu]
    by_cases h : at_ ≤ k
    · rw [decide_eq_true h]
      simp only [cond_true]
      have e : (k + 1).toNat = k.toNat + 1 := by omega
      have hu' : subT (insT at_ x t) (k + 1) = some u := by
        rw [insT_eq, subT_with _ _ _ (by omega), e, ins_get_ge _ _ _ _ (by omega) (by omega), hsk]
      rw [without_cons _ _ (by simp) hu', insT_eq, insT_eq, withSubs_withSubs, withSubs_withSubs, withSubs_subs, withSubs_subs, e, ins_set_ge _ _ _ _ _ (by omega)]
    · rw [decide_eq_false h]
      simp only [cond_false]
      have hu' : subT (insT at_ x t) k = some u := by
        rw [insT_eq, subT_with _ _ _ hk, ins_get_lt _ _ _ _ (by omega) hkl, hsk]
      rw [without_cons _ _ (by simp) hu', insT_eq, insT_eq, withSubs_withSubs, withSubs_withSubs, withSubs_subs, withSubs_subs, (ins_set_lt x _ t.subs at_.toNat k.toNat (by omega)).resolve_right (by omega)]
  | k :: k2 :: q, j :: to, t, s, z, _, hs, hw, hz, hat => by
    rw [atT] at hs hz
    cases hu : subT t k with
    | none => rw [hu] at hs; cases hs
    | some u =>
    rw [hu] at hs
    simp only at hs
    obtain ⟨hk, hsk, _⟩ := subT_some hu
    have hkl := lt_of_get hsk
    rw [List.dropLast_cons_of_ne_nil (by simp), lastP_cons k (by simp)]
    rw [without_cons t k (by simp) hu]
    by_cases h : k = j
    · subst h
      rw [hu] at hz
      simp only at hz
      rw [within_cons] at hw
      simp only [decide_true, Bool.true_and] at hw
      have ih := move_law h0 x (k2 :: q) to u s z (by simp) hs hw hz hat
      have hle : liftP to at_ (k2 :: q) ≠ [] := by
        unfold liftP
        cases (decide (to.length < (k2 :: q).length) && (within to (k2 :: q) && decide (at_ ≤ (k2 :: q).getD to.length 0))) with
        | false => simp
        | true => intro hh; have := congrArg List.length hh; simp at this
      rw [lift_cons, landT_cons, change_cons _ _ _ _ hu]
      have hu1 : subT (t.withSubs (t.subs.set k.toNat (changeT (insT at_ x) u to))) k = some (changeT (insT at_ x) u to) := by
        rw [subT_with _ _ _ hk, List.getElem?_set_self hkl]
      have hu2 : subT (t.withSubs (t.subs.set k.toNat (withoutT u (k2 :: q)))) k = some (withoutT u (k2 :: q)) := by
        rw [subT_with _ _ _ hk, List.getElem?_set_self hkl]
      rw [without_cons _ _ hle hu1, change_cons _ _ _ _ hu2, withSubs_withSubs, withSubs_withSubs, withSubs_subs, withSubs_subs, List.set_set, List.set_set, ih]
    · cases hv : subT t j with
      | none => rw [hv] at hz; cases hz
      | some v =>
      obtain ⟨hj, hsj, _⟩ := subT_some hv
      rw [lift_other _ _ _ (fun e => h e.symm), landT_other h, change_cons _ _ _ _ hv]
      have hne : k.toNat ≠ j.toNat := by omega
      have hu1 : subT (t.withSubs (t.subs.set j.toNat (changeT (insT at_ x) v to))) k = some u := by
        rw [subT_with _ _ _ hk, List.getElem?_set_ne (fun e => hne e.symm), hsk]
      have hv1 : subT (t.withSubs (t.subs.set k.toNat (withoutT u (k2 :: q)))) j = some v := by
        rw [subT_with _ _ _ hj, List.getElem?_set_ne hne, hsj]
      rw [without_cons _ _ (by simp) hu1, change_cons _ _ _ _ hv1, withSubs_withSubs, withSubs_withSubs, withSubs_subs, withSubs_subs, List.set_comm _ _ (fun e => hne e.symm)]
end Bow
/- SP11: an attribute set, in plain Lean. -/
namespace Bow
open Go

/-! ### The order of texts -/
theorem cmp_less : ∀ a b : List UInt8, Lib.compareBytes a b < 0 ↔ Op.bytesLess a b = true
  | [], [] => by simp [Lib.compareBytes, Op.bytesLess]
  | [], _ :: _ => by simp [Lib.compareBytes, Op.bytesLess]
  | _ :: _, [] => by simp [Lib.compareBytes, Op.bytesLess]
  | x :: a, y :: b => by
    have ih := cmp_less a b
    unfold Lib.compareBytes Op.bytesLess
    by_cases h1 : x < y
    · simp [h1]
    · by_cases h2 : y < x
      · have : x ≠ y := fun e => by subst e; exact h1 h2
        simp [h1, h2, this]
      · have : x = y := UInt8.le_antisymm (UInt8.not_lt.1 h2) (UInt8.not_lt.1 h1)
        subst this
        simp only [h1, if_false, decide_false, beq_self_eq_true, Bool.true_and, Bool.false_or]
        exact ih
theorem cmp_zero : ∀ a b : List UInt8, Lib.compareBytes a b = 0 ↔ a = b
  | [], [] => by simp [Lib.compareBytes]
  | [], _ :: _ => by simp [Lib.compareBytes]
  | _ :: _, [] => by simp [Lib.compareBytes]
  | x :: a, y :: b => by
    have ih := cmp_zero a b
    unfold Lib.compareBytes
    by_cases h1 : x < y
    · have : x ≠ y := fun e => by subst e; exact UInt8.lt_irrefl x h1
      simp [h1, this]
    · by_cases h2 : y < x
      · have : x ≠ y := fun e => by subst e; exact h1 h2
        simp [h1, h2, this]
      · have : x = y := UInt8.le_antisymm (UInt8.not_lt.1 h2) (UInt8.not_lt.1 h1)
        subst this
        simp only [h1, if_false, ih, List.cons.injEq, true_and]
theorem less_irrefl (a : List UInt8) : Op.bytesLess a a = false := by
  cases h : Op.bytesLess a a with
  | false => rfl
  | true =>
    have h1 := (cmp_less a a).2 h
    have h2 := (cmp_zero a a).2 rfl
    omega
theorem less_trans : ∀ {a b c : List UInt8}, Op.bytesLess a b = true → Op.bytesLess b c = true → Op.bytesLess a c = true
  | _, [], _, h, _ => by unfold Op.bytesLess at h; simp at h
  | _, _ :: _, [], _, h => by unfold Op.bytesLess at h; simp at h
  | [], _ :: _, _ :: _, _, _ => by unfold Op.bytesLess; rfl
  | x :: a, y :: b, z :: c, h, k => by
    unfold Op.bytesLess at h k ⊢
    simp only [Bool.or_eq_true, decide_eq_true_eq, Bool.and_eq_true, beq_iff_eq] at h k ⊢
    rcases h with h | ⟨rfl, h⟩ <;> rcases k with k | ⟨rfl, k⟩
    · exact .inl (UInt8.lt_trans h k)
    · exact .inl h
    · exact .inl k
    · exact .inr ⟨rfl, less_trans h k⟩
theorem less_tri : ∀ {a b : List UInt8}, Op.bytesLess a b = false → Op.bytesLess b a = false → a = b
  | [], [], _, _ => rfl
  | [], _ :: _, h, _ => by unfold Op.bytesLess at h; simp at h
  | _ :: _, [], _, h => by unfold Op.bytesLess at h; simp at h
  | x :: a, y :: b, h, k => by
    unfold Op.bytesLess at h k
    simp only [Bool.or_eq_false_iff, decide_eq_false_iff_not, Bool.and_eq_false_iff, beq_eq_false_iff_ne] at h k
    have e : x = y := UInt8.le_antisymm (UInt8.not_lt.1 k.1) (UInt8.not_lt.1 h.1)
    subst e
    rw [less_tri (h.2.resolve_left fun q => q rfl) (k.2.resolve_left fun q => q rfl)]
theorem less_ne {a b : List UInt8} (h : Op.bytesLess a b = true) : a ≠ b := by
  rintro rfl
  rw [less_irrefl] at h
  cases h
theorem less_asymm {a b : List UInt8} (h : Op.bytesLess a b = true) : Op.bytesLess b a = false := by
  cases k : Op.bytesLess b a with
  | false => rfl
  | true =>
    have := less_trans h k
    rw [less_irrefl] at this
    cases this

/-! ### Attributes in order -/
theorem ordOk_less {k s : List UInt8} (h : ordOk (some k) s = true) : Op.bytesLess k s = true := by
  unfold ordOk leS at h
  simp only [Bool.not_eq_true', Bool.or_eq_false_iff, decide_eq_false_iff_not] at h
  cases hk : Op.bytesLess k s with
  | true => rfl
  | false => exact absurd (less_tri h.1 hk) h.2
theorem attrs_behind : ∀ {l : List (List UInt8 × List UInt8)} {k : List UInt8}, attrsOk (some k) l = true → ∀ a ∈ l, Op.bytesLess k a.1 = true
  | [], _, _, a, h => by cases h
  | b :: l, k, h, a, ha => by
    rw [attrsOk, Bool.and_eq_true] at h
    have h1 : Op.bytesLess k b.1 = true := by
      have := h.1
      unfold attrOk at this
      simp only [Bool.and_eq_true] at this
      exact ordOk_less this.2.2
    rcases List.mem_cons.1 ha with rfl | ha
    · exact h1
    · exact less_trans h1 (attrs_behind h.2 a ha)
theorem attrsOk_tail {k : Option (List UInt8)} {a : List UInt8 × List UInt8} {l : List (List UInt8 × List UInt8)} (h : attrsOk k (a :: l) = true) : attrsOk (some a.1) l = true := by
  rw [attrsOk, Bool.and_eq_true] at h
  exact h.2
/-- How many keys are ahead of one. -/
def posK (k : List UInt8) : List (List UInt8 × List UInt8) → Nat
  | [] => 0
  | a :: l => bif Op.bytesLess a.1 k then posK k l + 1 else 0
/-- Is there one of that key? -/
def hasK (k : List UInt8) (l : List (List UInt8 × List UInt8)) : Bool := decide (posK k l < l.length) && decide ((l.getD (posK k l) ([], [])).1 = k)
def midA (o : OpT) : List (List UInt8 × List UInt8) := bif o.gone then [] else [(o.key, o.value)]
/-- As the program sets one. -/
def setA (o : OpT) (l : List (List UInt8 × List UInt8)) : List (List UInt8 × List UInt8) := l.take (posK o.key l) ++ (midA o ++ l.drop (posK o.key l + (bif hasK o.key l then 1 else 0)))
/-- As the document sets one. -/
def refA (o : OpT) : Bool → List (List UInt8 × List UInt8) → List (List UInt8 × List UInt8)
  | done, [] => bif done then [] else [(o.key, o.value)]
  | done, a :: l => (bif !done && !Op.bytesLess a.1 o.key then [(o.key, o.value)] else []) ++ ((bif decide (a.1 = o.key) then [] else [a]) ++ refA o (done || !Op.bytesLess a.1 o.key) l)
theorem refA_done (o : OpT) : ∀ {l : List (List UInt8 × List UInt8)}, (∀ a ∈ l, a.1 ≠ o.key) → refA o true l = l
  | [], _ => rfl
  | a :: l, h => by
    rw [refA, decide_eq_false (h a List.mem_cons_self)]
    simp [refA_done o fun b hb => h b (List.mem_cons_of_mem _ hb)]
theorem attr_law (o : OpT) : ∀ {l : List (List UInt8 × List UInt8)} {k0 : Option (List UInt8)}, attrsOk k0 l = true → refA o o.gone l = setA o l
  | [], _, _ => by
    unfold setA midA
    rw [refA]
    simp [posK]
  | a :: l, k0, h => by
    have ih := attr_law o (attrsOk_tail h)
    have hb := attrs_behind (attrsOk_tail h)
    rw [refA]
    cases ha : Op.bytesLess a.1 o.key with
    | true =>
      have hne := less_ne ha
      have e1 : posK o.key (a :: l) = posK o.key l + 1 := by rw [posK, ha]; rfl
      have e2 : hasK o.key (a :: l) = hasK o.key l := by
        unfold hasK
        rw [e1]
        simp
      simp only [Bool.not_true, Bool.and_false, cond_false, List.nil_append, Bool.or_false, decide_eq_false hne]
      rw [ih]
      unfold setA
      rw [e1, e2]
      rw [List.take_succ_cons, Nat.add_right_comm (posK o.key l) 1, List.drop_succ_cons]
      simp
    | false =>
      have e1 : posK o.key (a :: l) = 0 := by rw [posK, ha]; rfl
      simp only [Bool.not_false, Bool.and_true, Bool.or_true]
      by_cases he : a.1 = o.key
      · have e2 : hasK o.key (a :: l) = true := by unfold hasK; rw [e1]; simp [he]
        rw [decide_eq_true he, refA_done o fun b hm e => by
          have := hb b hm
          rw [he, ← e, less_irrefl] at this
          cases this]
        unfold setA midA
        rw [e1, e2]
        cases o.gone <;> rfl
      · have e2 : hasK o.key (a :: l) = false := by unfold hasK; rw [e1]; simp [he]
        have hka : Op.bytesLess o.key a.1 = true := by
          cases hk : Op.bytesLess o.key a.1 with
          | true => rfl
          | false => exact absurd (less_tri ha hk) he
        rw [decide_eq_false he, refA_done o fun b hm e => by
          have := less_trans hka (hb b hm)
          rw [← e, less_irrefl] at this
          cases this]
        unfold setA midA
        rw [e1, e2]
        cases o.gone <;> rfl
end Bow
/- SP12: a moved node, when it has been put in: it still stands where it stood, or one on; weights. -/
namespace Bow
open Go

theorem at_cons {t s : Tree} {k : Int} (p : List Int) (h : subT t k = some s) : atT t (k :: p) = atT s p := by rw [atT, h]
theorem lift_at {at_ : Int} (h0 : 0 ≤ at_) (x : Tree) : ∀ (fr to : List Int) (t s z : Tree), fr ≠ [] → atT t fr = some s → within fr to = false → atT t to = some z → at_ ≤ z.subs.length →
    ∃ s', atT (changeT (insT at_ x) t to) (liftP to at_ fr) = some s'
  | [], _, _, _, _, h, _, _, _, _ => absurd rfl h
  | k :: q, [], t, s, z, _, hs, hw, hz, hat => by
    rw [atT] at hz
    injection hz with hz
    subst hz
    rw [atT] at hs
    cases hu : subT t k with
    | none => rw [hu] at hs; cases hs
    | some u =>
    rw [hu] at hs
    obtain ⟨hk, hsk, _⟩ := subT_some hu
    have hkl := lt_of_get hsk
    rw [lift_nil]
    show ∃ s', atT (insT at_ x t) _ = some s'
    by_cases h : at_ ≤ k
    · rw [decide_eq_true h]
      simp only [cond_true]
      have e : (k + 1).toNat = k.toNat + 1 := by omega
      have hu' : subT (insT at_ x t) (k + 1) = some u := by
        rw [insT_eq, subT_with _ _ _ (by omega), e, ins_get_ge _ _ _ _ (by omega) (by omega), hsk]
      exact ⟨s, by rw [at_cons _ hu']; exact hs⟩
    · rw [decide_eq_false h]
      simp only [cond_false]
      have hu' : subT (insT at_ x t) k = some u := by
        rw [insT_eq, subT_with _ _ _ hk, ins_get_lt _ _ _ _ (by omega) hkl, hsk]
      exact ⟨s, by rw [at_cons _ hu']; exact hs⟩
  | k :: q, j :: to, t, s, z, _, hs, hw, hz, hat => by
    rw [atT] at hs hz
    cases hu : subT t k with
    | none => rw [hu] at hs; cases hs
    | some u =>
    rw [hu] at hs
    simp only at hs
    obtain ⟨hk, hsk, _⟩ := subT_some hu
    have hkl := lt_of_get hsk
    by_cases h : k = j
    · subst h
      rw [hu] at hz
      simp only at hz
      rw [within_cons] at hw
      simp only [decide_true, Bool.true_and] at hw
      have hq : q ≠ [] := by
        rintro rfl
        rw [within_nil] at hw
        cases hw
      obtain ⟨s', ih⟩ := lift_at h0 x q to u s z hq hs hw hz hat
      rw [lift_cons, change_cons _ _ _ _ hu]
      have hu1 : subT (t.withSubs (t.subs.set k.toNat (changeT (insT at_ x) u to))) k = some (changeT (insT at_ x) u to) := by
        rw [subT_with _ _ _ hk, List.getElem?_set_self hkl]
      exact ⟨s', by rw [at_cons _ hu1]; exact ih⟩
    · cases hv : subT t j with
      | none => rw [hv] at hz; cases hz
      | some v =>
      obtain ⟨hj, hsj, _⟩ := subT_some hv
      rw [lift_other _ _ _ (fun e => h e.symm), change_cons _ _ _ _ hv]
      have hne : k.toNat ≠ j.toNat := by omega
      have hu1 : subT (t.withSubs (t.subs.set j.toNat (changeT (insT at_ x) v to))) k = some u := by
        rw [subT_with _ _ _ hk, List.getElem?_set_ne (fun e => hne e.symm), hsk]
      exact ⟨s, by rw [at_cons _ hu1]; exact hs⟩

theorem weights_set_add {s u : Tree} {n : Nat} : ∀ {l : List Tree} {i : Nat}, l[i]? = some s → u.weight ≤ s.weight + n → weights (l.set i u) ≤ weights l + n
  | [], i, h, _ => by simp at h
  | x :: l, 0, h, hu => by
    simp at h
    subst h
    rw [List.set_cons_zero, weights, weights]
    omega
  | x :: l, i + 1, h, hu => by
    simp at h
    have := weights_set_add (l := l) h hu
    rw [List.set_cons_succ, weights, weights]
    omega
theorem change_weight_add {F : Tree → Tree} {n : Nat} (hF : ∀ y, (F y).weight ≤ y.weight + n) : ∀ (p : List Int) (t : Tree), (changeT F t p).weight ≤ t.weight + n
  | [], t => hF t
  | i :: p, t => by
    rw [changeT]
    cases hs : subT t i with
    | none => simp only; omega
    | some s =>
      have ih := change_weight_add hF p s
      have h := weights_set_add (subT_some hs).2.1 ih
      have := withSubs_weight t (t.subs.set i.toNat (changeT F s p))
      simp only
      omega
theorem ins_weight (at_ : Int) (x y : Tree) : (insT at_ x y).weight ≤ y.weight + x.weight := by
  have h1 := withSubs_weight y (y.subs.take at_.toNat ++ x :: y.subs.drop at_.toNat)
  have h2 : weights (y.subs.take at_.toNat ++ x :: y.subs.drop at_.toNat) = weights y.subs + x.weight := by
    conv => rhs; rw [← List.take_append_drop at_.toNat y.subs]
    rw [weights_append, weights_append, weights]
    omega
  unfold insT
  omega
theorem lift_len (to : List Int) (at_ : Int) (fr : List Int) : (liftP to at_ fr).length = fr.length := by
  unfold liftP
  cases (decide (to.length < fr.length) && (within to fr && decide (at_ ≤ fr.getD to.length 0))) <;> simp
theorem moveT_eq (x t : Tree) (o : OpT) : moveT x t o = changeT (insT (landT o.path.dropLast (lastP o.path) o.to o.at_).2 x) (withoutT t o.path) (landT o.path.dropLast (lastP o.path) o.to o.at_).1 := rfl
end Bow
/- SP13: what becomes of a tree, in plain Lean; what is known of a valid operation. -/
namespace Bow
open Go

abbrev AttrL := List (List UInt8 × List UInt8)
def Tree.withAttrs : Tree → AttrL → Tree
  | .mk i l b _ c ss, a => .mk i l b a c ss
def setAT (o : OpT) (y : Tree) : Tree := y.withAttrs (setA o y.attrs)
/-- What an operation that is valid makes of a tree. -/
def applyT (t : Tree) (o : OpT) : Tree :=
  bif decide (o.kind = 1) then changeT (insT o.at_ (freshT o)) t o.path
  else bif decide (o.kind = 2) then withoutT t o.path
  else bif decide (o.kind = 3) then (match atT t o.path with | some x => moveT x t o | none => t)
  else bif decide (o.kind = 4) then changeT (setAT o) t o.path
  else bif decide (o.kind = 5) then changeT (relabelT o.label) t o.path
  else changeT (retextT o.pieces) t o.path
def applyR (t : Tree) (o : OpT) : Tree × Int := bif decide (ValidE t o = 0) then (applyT t o, 0) else (.mk 0 false [] [] [] [], ValidE t o)

theorem right_sub {t s : Tree} {i : Int} (ht : t.rightA = true) (h : subT t i = some s) : s.rightA = true := by
  rw [rightA_eq, Bool.and_eq_true, rightsA_all] at ht
  exact List.all_eq_true.1 ht.2 s (subT_some h).2.2
theorem right_at {y : Tree} : ∀ {p : List Int} {t : Tree}, t.rightA = true → atT t p = some y → y.rightA = true
  | [], t, ht, h => by
    rw [atT] at h
    injection h with h
    subst h
    exact ht
  | i :: p, t, ht, h => by
    rw [atT] at h
    cases hs : subT t i with
    | none => rw [hs] at h; cases h
    | some s =>
      rw [hs] at h
      exact right_at (p := p) (right_sub ht hs) h
theorem right_attrs {y : Tree} (h : y.rightA = true) : attrsOk none y.attrs = true := by
  rw [rightA_eq, Bool.and_eq_true] at h
  have := h.1
  unfold rightN at this
  rw [Bool.and_eq_true] at this
  exact this.2

/-- What is known of an operation that is valid. -/
inductive GoodO (t : Tree) (o : OpT) : Prop
  | ins (y) (hk : o.kind = 1) (hy : atT t o.path = some y) (hl : y.leaf = false) (h0 : 0 ≤ o.at_) (h1 : o.at_ ≤ y.subs.length) (h2 : o.label.length ≤ 64) : GoodO t o
  | del (x) (hk : o.kind = 2) (hne : o.path ≠ []) (hx : atT t o.path = some x) : GoodO t o
  | mov (x z) (hk : o.kind = 3) (hne : o.path ≠ []) (hx : atT t o.path = some x) (hw : within o.path o.to = false) (hz : atT t o.to = some z) (hl : z.leaf = false) (h0 : 0 ≤ o.at_) (h1 : o.at_ ≤ z.subs.length) : GoodO t o
  | att (y) (hk : o.kind = 4) (hy : atT t o.path = some y) (h1 : keyOk o.key = true) (h2 : o.gone = true ∨ o.value.length ≤ 256) : GoodO t o
  | lab (y) (hk : o.kind = 5) (hy : atT t o.path = some y) (h2 : o.label.length ≤ 64) : GoodO t o
  | edt (y) (hk : o.kind = 6) (hy : atT t o.path = some y) (hl : y.leaf = true) (he : (applyE y.text o.pieces).2 = 0) : GoodO t o

theorem into_zero {y : Tree} {n : Int} (h : intoE y n = 0) : y.leaf = false ∧ n ≤ y.subs.length := by
  unfold intoE at h
  cases hl : y.leaf with
  | true => rw [hl] at h; cases h
  | false =>
    rw [hl] at h
    by_cases hn : (y.subs.length : Int) < n
    · rw [decide_eq_true hn] at h; cases h
    · exact ⟨rfl, by omega⟩
theorem valid_right {t : Tree} {o : OpT} (h : ValidE t o = 0) : rightT t = true ∧ formedB o = true ∧ validE t o = 0 := by
  unfold ValidE at h
  cases hr : rightT t with
  | false => rw [hr] at h; cases h
  | true =>
    cases hf : formedB o with
    | false => rw [hr, hf] at h; cases h
    | true => rw [hr, hf] at h; exact ⟨rfl, rfl, h⟩
theorem formed_path {o : OpT} (h : formedB o = true) : mayP o.path = true := by
  unfold formedB at h
  rw [Bool.and_eq_true] at h
  exact h.1
theorem may_step {p : List Int} (h : mayP p = true) : ∀ i ∈ p, 0 ≤ i ∧ i ≤ 1048576 := by
  unfold mayP at h
  rw [Bool.and_eq_true] at h
  intro i hi
  have := List.all_eq_true.1 h.2 i hi
  unfold stepOk at this
  simp only [Bool.and_eq_true, decide_eq_true_eq] at this
  omega
theorem good_of {t : Tree} {o : OpT} (h : ValidE t o = 0) : GoodO t o := by
  obtain ⟨hr, hf, hv⟩ := valid_right h
  have hk : o.kind = 1 ∨ o.kind = 2 ∨ o.kind = 3 ∨ o.kind = 4 ∨ o.kind = 5 ∨ o.kind = 6 := by
    unfold formedB at hf
    rw [Bool.and_eq_true] at hf
    have h2 := hf.2
    by_cases e1 : o.kind = 1 <;> by_cases e2 : o.kind = 2 <;> by_cases e3 : o.kind = 3 <;> by_cases e4 : o.kind = 4 <;> by_cases e5 : o.kind = 5 <;> by_cases e6 : o.kind = 6 <;> simp_all
  unfold validE at hv
  unfold formedB at hf
  rw [Bool.and_eq_true] at hf
  have hf2 := hf.2
  by_cases hroot : (decide (o.kind = 2) || decide (o.kind = 3)) && decide (o.path = [])
  · rw [hroot] at hv
    cases hv
  · have hroot : ((decide (o.kind = 2) || decide (o.kind = 3)) && decide (o.path = [])) = false := by simpa using hroot
    rw [hroot] at hv
    simp only [cond_false] at hv
    cases hx : atT t o.path with
    | none => rw [hx] at hv; cases hv
    | some x =>
    rw [hx] at hv
    simp only at hv
    rcases hk with hk | hk | hk | hk | hk | hk
    · simp only [hk] at hv hf2
      obtain ⟨h1, h2⟩ := into_zero hv
      have hf3 : (gapOk o.at_ && decide ((o.label.length : Int) ≤ 64)) = true := hf2
      unfold gapOk at hf3
      simp only [Bool.and_eq_true, decide_eq_true_eq] at hf3
      exact .ins x hk hx h1 hf3.1.1 h2 (by omega)
    · have hne : o.path ≠ [] := by
        intro e
        rw [hk, e] at hroot
        cases hroot
      exact .del x hk hne hx
    · have hne : o.path ≠ [] := by
        intro e
        rw [hk, e] at hroot
        cases hroot
      simp only [hk] at hv hf2
      have hv : (bif within o.path o.to then (84 : Int) else match atT t o.to with | none => 81 | some y => intoE y o.at_) = 0 := hv
      have hf3 : (gapOk o.at_ && mayP o.to) = true := hf2
      unfold gapOk at hf3
      simp only [Bool.and_eq_true, decide_eq_true_eq] at hf3
      cases hw : within o.path o.to with
      | true => rw [hw] at hv; cases hv
      | false =>
        rw [hw] at hv
        cases hz : atT t o.to with
        | none => rw [hz] at hv; cases hv
        | some z =>
          rw [hz] at hv
          obtain ⟨h1, h2⟩ := into_zero hv
          exact .mov x z hk hne hx hw hz h1 hf3.1.1 h2
    · simp only [hk] at hf2
      have hf3 : (keyOk o.key && (o.gone || decide ((o.value.length : Int) ≤ 256))) = true := hf2
      simp only [Bool.and_eq_true, Bool.or_eq_true, decide_eq_true_eq] at hf3
      exact .att x hk hx hf3.1 (hf3.2.imp id fun h => by omega)
    · simp only [hk] at hf2
      have hf3 : decide ((o.label.length : Int) ≤ 64) = true := hf2
      simp only [decide_eq_true_eq] at hf3
      exact .lab x hk hx (by omega)
    · simp only [hk] at hv
      have hv : (bif !x.leaf then (83 : Int) else (applyE x.text o.pieces).2) = 0 := hv
      cases hl : x.leaf with
      | false => rw [hl] at hv; cases hv
      | true => rw [hl] at hv; exact .edt x hk hx hl hv
theorem good_to {o : OpT} (hf : formedB o = true) (hk : o.kind = 3) : mayP o.to = true := by
  unfold formedB at hf
  rw [Bool.and_eq_true] at hf
  have hf2 := hf.2
  simp only [hk] at hf2
  have hf3 : (gapOk o.at_ && mayP o.to) = true := hf2
  rw [Bool.and_eq_true] at hf3
  exact hf3.2
end Bow
/- SP14: how heavy a tree becomes, in plain Lean. -/
namespace Bow
open Go

theorem weights_set_eq {s u : Tree} : ∀ {l : List Tree} {i : Nat}, l[i]? = some s → weights (l.set i u) + s.weight = weights l + u.weight
  | [], i, h => by simp at h
  | x :: l, 0, h => by
    simp at h
    subst h
    rw [List.set_cons_zero, weights, weights]
    omega
  | x :: l, i + 1, h => by
    simp at h
    have := weights_set_eq (u := u) (l := l) h
    rw [List.set_cons_succ, weights, weights]
    omega
theorem change_weight_eq {F : Tree → Tree} {y : Tree} : ∀ {p : List Int} {t : Tree}, atT t p = some y → (changeT F t p).weight + y.weight = t.weight + (F y).weight
  | [], t, h => by
    rw [atT] at h
    injection h with h
    subst h
    rw [changeT]
    omega
  | i :: p, t, h => by
    rw [atT] at h
    cases hs : subT t i with
    | none => rw [hs] at h; cases h
    | some s =>
      rw [hs] at h
      have ih := change_weight_eq (F := F) (p := p) h
      rw [changeT, hs]
      simp only
      have h1 := weights_set_eq (u := changeT F s p) (subT_some hs).2.1
      have h2 := withSubs_weight t (t.subs.set i.toNat (changeT F s p))
      omega
theorem del_weight_eq {y x : Tree} {i : Int} (h : y.subs[i.toNat]? = some x) : (delT i y).weight + x.weight = y.weight := by
  have h1 := withSubs_weight y (y.subs.take i.toNat ++ y.subs.drop (i.toNat + 1))
  have h2 : weights (y.subs.take i.toNat ++ y.subs.drop (i.toNat + 1)) + x.weight = weights y.subs := by
    have hl := lt_of_get h
    conv => rhs; rw [← List.take_append_drop i.toNat y.subs]
    rw [weights_append, weights_append, List.drop_eq_getElem_cons hl, weights]
    have : y.subs[i.toNat] = x := by rw [List.getElem?_eq_getElem hl] at h; injection h
    rw [this]
    omega
  unfold delT
  omega
theorem without_weight {t x : Tree} {p : List Int} (hne : p ≠ []) (hx : atT t p = some x) : (withoutT t p).weight + x.weight = t.weight := by
  obtain ⟨y, y1, y2, y3, y4⟩ := at_parent hne hx
  rw [lastP_eq hne] at y4
  have h1 := change_weight_eq (F := delT (lastP p)) y1
  have h2 := del_weight_eq y4
  unfold withoutT
  omega
def costO (o : OpT) : Nat := 2 + o.label.length + o.key.length + o.value.length + putsLen o.pieces
theorem attrLen_append : ∀ a b : AttrL, attrLen (a ++ b) = attrLen a + attrLen b
  | [], b => by simp [attrLen]
  | x :: a, b => by
    have := attrLen_append a b
    rw [List.cons_append, attrLen_cons, attrLen_cons]
    omega
theorem setA_weight (o : OpT) (y : Tree) : (setAT o y).weight ≤ y.weight + (1 + o.key.length + o.value.length) := by
  have h1 : (setA o y.attrs).length + attrLen (setA o y.attrs) ≤ y.attrs.length + attrLen y.attrs + (1 + o.key.length + o.value.length) := by
    unfold setA
    rw [attrLen_append, attrLen_append]
    have e : attrLen y.attrs = attrLen (y.attrs.take (posK o.key y.attrs)) + attrLen (y.attrs.drop (posK o.key y.attrs)) := by rw [← attrLen_append, List.take_append_drop]
    have e2 : attrLen (y.attrs.drop (posK o.key y.attrs + (bif hasK o.key y.attrs then 1 else 0))) ≤ attrLen (y.attrs.drop (posK o.key y.attrs)) := by
      rw [← List.drop_drop]
      cases hasK o.key y.attrs with
      | false => simp
      | true =>
        cases y.attrs.drop (posK o.key y.attrs) with
        | nil => simp
        | cons a l => rw [attrLen_cons]; simp only [cond_true, List.drop_succ_cons, List.drop_zero]; omega
    have e3 : (midA o).length + attrLen (midA o) ≤ 1 + o.key.length + o.value.length := by
      unfold midA
      cases o.gone <;> simp [attrLen]
      omega
    simp only [List.length_append, List.length_take, List.length_drop]
    omega
  have w1 := weight_eq y
  have w2 := weight_eq (setAT o y)
  have : (setAT o y).label = y.label ∧ (setAT o y).text = y.text ∧ (setAT o y).attrs = setA o y.attrs ∧ (setAT o y).subs = y.subs := by cases y; exact ⟨rfl, rfl, rfl, rfl⟩
  obtain ⟨q1, q2, q3, q4⟩ := this
  rw [q1, q2, q3, q4] at w2
  omega
theorem relabel_weight (s : List UInt8) (y : Tree) : (relabelT s y).weight ≤ y.weight + s.length := by
  have w1 := weight_eq y
  have w2 := weight_eq (relabelT s y)
  have : (relabelT s y).label = s ∧ (relabelT s y).text = y.text ∧ (relabelT s y).attrs = y.attrs ∧ (relabelT s y).subs = y.subs := by cases y; exact ⟨rfl, rfl, rfl, rfl⟩
  obtain ⟨q1, q2, q3, q4⟩ := this
  rw [q1, q2, q3, q4] at w2
  omega
theorem applyE_length (t : List UInt8) (l : List PieceT) : (applyE t l).1.length ≤ t.length + putsLen l := by
  unfold applyE
  cases hr : rightP l with
  | false => simp
  | true =>
    obtain ⟨r1, r2, r3⟩ := rightP_ok hr
    by_cases h : (t.length : Int) < extentP l
    · rw [decide_eq_true h]; simp
    · rw [decide_eq_false h]
      exact editP_len r2 (by omega)
theorem retext_weight (l : List PieceT) (y : Tree) : (retextT l y).weight ≤ y.weight + putsLen l := by
  have w1 := weight_eq y
  have w2 := weight_eq (retextT l y)
  have : (retextT l y).label = y.label ∧ (retextT l y).text = (applyE y.text l).1 ∧ (retextT l y).attrs = y.attrs ∧ (retextT l y).subs = y.subs := by cases y; exact ⟨rfl, rfl, rfl, rfl⟩
  obtain ⟨q1, q2, q3, q4⟩ := this
  rw [q1, q2, q3, q4] at w2
  have := applyE_length y.text l
  omega
theorem fresh_weight (o : OpT) : (freshT o).weight = 1 + o.label.length := by
  have := weight_eq (freshT o)
  have e : (freshT o).label = o.label ∧ (freshT o).text = [] ∧ (freshT o).attrs = [] ∧ (freshT o).subs = [] := ⟨rfl, rfl, rfl, rfl⟩
  obtain ⟨q1, q2, q3, q4⟩ := e
  rw [q1, q2, q3, q4] at this
  simp [attrLen, weights] at this
  omega
theorem applyT_weight {t : Tree} {o : OpT} (h : ValidE t o = 0) : (applyT t o).weight ≤ t.weight + costO o := by
  unfold costO
  cases good_of h with
  | ins y hk hy hl h0 h1 h2 =>
    have e : applyT t o = changeT (insT o.at_ (freshT o)) t o.path := by unfold applyT; rw [hk]; rfl
    have := change_weight_eq (F := insT o.at_ (freshT o)) hy
    have := ins_weight o.at_ (freshT o) y
    have := fresh_weight o
    rw [e]
    omega
  | del x hk hne hx =>
    have e : applyT t o = withoutT t o.path := by unfold applyT; rw [hk]; rfl
    have := without_weight hne hx
    rw [e]
    omega
  | mov x z hk hne hx hw hz hl h0 h1 =>
    have e : applyT t o = moveT x t o := by unfold applyT; rw [hk, hx]; rfl
    have := without_weight hne hx
    have := change_weight_add (F := insT (landT o.path.dropLast (lastP o.path) o.to o.at_).2 x) (n := x.weight) (ins_weight _ x) (landT o.path.dropLast (lastP o.path) o.to o.at_).1 (withoutT t o.path)
    rw [e, moveT_eq]
    omega
  | att y hk hy h1 h2 =>
    have e : applyT t o = changeT (setAT o) t o.path := by unfold applyT; rw [hk]; rfl
    have := change_weight_eq (F := setAT o) hy
    have := setA_weight o y
    rw [e]
    omega
  | lab y hk hy h2 =>
    have e : applyT t o = changeT (relabelT o.label) t o.path := by unfold applyT; rw [hk]; rfl
    have := change_weight_eq (F := relabelT o.label) hy
    have := relabel_weight o.label y
    rw [e]
    omega
  | edt y hk hy hl he =>
    have e : applyT t o = changeT (retextT o.pieces) t o.path := by unfold applyT; rw [hk]; rfl
    have := change_weight_eq (F := retextT o.pieces) hy
    have := retext_weight o.pieces y
    rw [e]
    omega
end Bow
/- SP21: where nodes and gaps are behind an operation (shift), in plain Lean. -/
namespace Bow
open Go

def movesO (o : OpT) : Bool := formedB o && (bif decide (o.kind = 1) then true else bif decide (o.kind = 2) then decide (0 < o.path.length) else bif decide (o.kind = 3) then decide (0 < o.path.length) && !within o.path o.to else false)
structure Chg where
  takes : Bool
  puts : Bool
  frm : List Int
  to : List Int
  at_ : Int
  gap : Int
def chgO (o : OpT) : Chg := ⟨!decide (o.kind = 1), !decide (o.kind = 2), bif decide (o.kind = 1) then [] else o.path.dropLast, bif decide (o.kind = 1) then o.path else o.to, bif decide (o.kind = 1) then 0 else lastP o.path, o.at_⟩
def Chg.number (c : Chg) (p : List Int) (k : Int) : Int :=
  (bif c.takes && (decide (c.at_ < k) && decide (p = c.frm)) then k - 1 else k) + (bif c.puts && (decide (c.gap ≤ k) && decide (p = c.to)) then 1 else 0)
def Chg.land (c : Chg) : Int := bif decide (c.at_ < c.gap) && decide (c.frm = c.to) then c.gap - 1 else c.gap
/-- The numbers of a path, each shifted in its parent as it was. -/
def Chg.nums (c : Chg) : List Int → List Int → List Int
  | _, [] => []
  | q, k :: p => c.number q k :: Chg.nums c (q ++ [k]) p
def nodeP (o : OpT) (p : List Int) : Option (List Int) :=
  bif !movesO o then some p
  else bif (chgO o).takes && within o.path p then (bif !(chgO o).puts then none else some ((chgO o).nums [] o.to ++ [(chgO o).land] ++ p.drop o.path.length))
  else some ((chgO o).nums [] p)
def gapP (o : OpT) (p : List Int) (at_ : Int) (first : Bool) : List Int × Int × Bool :=
  match nodeP o p with
  | none => ([], 0, false)
  | some q => bif !movesO o then (q, at_, true)
    else (q, (bif (chgO o).takes && (decide ((chgO o).at_ < at_) && decide (p = (chgO o).frm)) then at_ - 1 else at_) + (bif (chgO o).puts && (decide (p = (chgO o).to) && (decide ((chgO o).gap < at_) || (decide (at_ = (chgO o).gap) && !first))) then 1 else 0), true)
def undoO (o : OpT) : OpT :=
  bif decide (o.kind = 3) && movesO o then { noOp 3 with path := (nodeP o o.path).getD [], to := (nodeP o (chgO o).frm).getD [], at_ := (chgO o).at_ + (bif decide ((chgO o).frm = (chgO o).to) && decide ((chgO o).land < (chgO o).at_) then 1 else 0) } else noOp 0

/-! ### What becomes of an operation behind another one (but for two edits of one leaf) -/
def soundO (o : OpT) : Bool := formedB o && (bif decide (o.kind = 2) then decide (0 < o.path.length) else bif decide (o.kind = 3) then decide (0 < o.path.length) && !within o.path o.to else true)
def dropO (p : List Int) : OpT := { noOp 2 with path := p }
def shiftedO (b a : OpT) (prior : Bool) : OpT :=
  bif decide (b.kind = 1) then { b with at_ := (gapP a b.path b.at_ prior).2.1, path := (nodeP a b.path).getD [] }
  else bif decide (b.kind = 3) then { b with to := (gapP a b.to b.at_ prior).1, at_ := (gapP a b.to b.at_ prior).2.1, path := (nodeP a b.path).getD [] }
  else { b with path := (nodeP a b.path).getD [] }
def wonO (b a : OpT) : Bool := (decide (a.kind = b.kind) && decide (a.path = b.path)) && (decide (b.kind = 3) || (decide (b.kind = 5) || (decide (b.kind = 4) && decide (a.key = b.key))))
def bothEdit (b a : OpT) : Bool := decide (a.kind = 6) && (decide (b.kind = 6) && decide (a.path = b.path))
def rowO (b a : OpT) (prior : Bool) : List OpT :=
  bif decide (a.kind = 2) then
    (bif within a.path b.path then []
     else bif decide (b.kind = 3) && within a.path b.to then [dropO ((nodeP a b.path).getD [])]
     else [shiftedO b a prior])
  else bif wonO b a then (bif prior then [shiftedO b a prior] else [])
  else bif !decide (a.kind = 3) then [shiftedO b a prior]
  else bif decide (b.kind = 2) then
    (bif within b.path a.path && (!decide (b.path = a.path) && !within b.path a.to) then
      [dropO ((nodeP a a.path).getD []), dropO ((nodeP (dropO ((nodeP a a.path).getD [])) ((nodeP a b.path).getD [])).getD [])]
     else [shiftedO b a prior])
  else bif decide (b.kind = 3) && (within b.path a.to && within a.path b.to) then (bif prior then [undoO a, b] else [])
  else [shiftedO b a prior]
def behindO (b a : OpT) (prior : Bool) : List OpT × Int :=
  bif !soundO a || !soundO b then ([], 80)
  else bif (rowO b a prior).all formedB then ((rowO b a prior).map bareO, 0) else ([], 3)
end Bow
/- SP22: edits made normal; two edits behind each other (leaftext), in plain Lean. -/
namespace Bow
open Go

/-! ### A maker of a normal edit -/
structure Mk where
  l : List PieceT
  keep : Int
def Mk.nil : Mk := ⟨[], 0⟩
/-- The last piece, turned. -/
def modL (f : PieceT → PieceT) : List PieceT → List PieceT
  | [] => []
  | [p] => [f p]
  | p :: q :: r => p :: modL f (q :: r)
def Mk.last (m : Mk) : Mk := bif decide (0 < m.keep) || m.l.isEmpty then ⟨m.l ++ [⟨m.keep, 0, []⟩], 0⟩ else m
def Mk.put (s : List UInt8) (m : Mk) : Mk := bif s.isEmpty then m else ⟨modL (fun p => { p with put := p.put ++ s }) m.last.l, m.last.keep⟩
def Mk.drop (n : Int) (m : Mk) : Mk := bif decide (0 < n) then ⟨modL (fun p => { p with drop := p.drop + n }) m.last.l, m.last.keep⟩ else m
def Mk.kept (n : Int) (m : Mk) : Mk := ⟨m.l, m.keep + n⟩
def Mk.piece (m : Mk) (p : PieceT) : Mk := ((m.kept p.keep).put p.put).drop p.drop
def normP (l : List PieceT) : List PieceT := (l.foldl Mk.piece Mk.nil).l

/-! ### What is left of a normal edit -/
def rowHas : List PieceT → Bool
  | [] => false
  | p :: _ => !(decide (0 < p.keep) || p.put.isEmpty)
def rowPut : List PieceT → List UInt8 × List PieceT
  | [] => ([], [])
  | p :: r => bif decide (0 < p.keep) || p.put.isEmpty then ([], p :: r) else (p.put, { p with put := [] } :: r)
def rowRun : List PieceT → (Int × Bool × Bool) × List PieceT
  | [] => ((0, false, false), [])
  | p :: r => bif decide (0 < p.keep) then ((p.keep, false, true), p :: r) else bif decide (0 < p.drop) then ((p.drop, true, true), p :: r) else rowRun r
def rowTake (n : Int) : List PieceT → List PieceT
  | [] => []
  | p :: r => bif decide (0 < p.keep) then { p with keep := p.keep - n } :: r else { p with drop := p.drop - n } :: r
/-- How many bytes two rows go on with alike; whether each drops them; whether there are any; what is left. -/
def bothR (a b : List PieceT) : (Int × Bool × Bool × Bool) × List PieceT × List PieceT :=
  match rowRun a, rowRun b with
  | ((n, x, any), a'), ((m, y, more), b') =>
    bif !any && !more then ((0, false, false, false), a', b')
    else match bif !any then m else bif more then min n m else n with
      | k => ((k, x, y, true), rowTake k a', rowTake k b')

/-! ### Transform -/
structure Tr where
  p : List PieceT
  q : List PieceT
  x : Mk
  y : Mk
def Tr.puts (prior : Bool) (s : Tr) : Tr :=
  match rowPut s.p, rowPut s.q with
  | (a, p), (b, q) => bif prior then ⟨p, q, (s.x.put a).kept b.length, (s.y.kept a.length).put b⟩ else ⟨p, q, (s.x.kept b.length).put a, (s.y.put b).kept a.length⟩
def Tr.does (s : Tr) (n : Int) (x y : Bool) : Tr :=
  bif x then (bif y then s else { s with x := s.x.drop n }) else bif y then { s with y := s.y.drop n } else { s with x := s.x.kept n, y := s.y.kept n }
def Tr.go (prior : Bool) : Nat → Tr → Tr
  | 0, s => s
  | f + 1, s => match s.puts prior with
    | ⟨p, q, x, y⟩ => match bothR p q with
      | ((n, d, g, any), p', q') => bif any then Tr.go prior f (Tr.does ⟨p', q', x, y⟩ n d g) else ⟨p', q', x, y⟩
def extN : List PieceT → Nat
  | [] => 0
  | p :: l => p.keep.toNat + p.drop.toNat + extN l
def transP (a b : List PieceT) (prior : Bool) : List PieceT × List PieceT × Int :=
  bif !rightP a || !rightP b then ([], [], 2)
  else match Tr.go prior (extN (normP a) + extN (normP b) + 1) ⟨normP a, normP b, Mk.nil, Mk.nil⟩ with
    | ⟨_, _, x, y⟩ => bif !rightP x.l || !rightP y.l then ([], [], 3) else (x.l, y.l, 0)

/-! ### Bounds -/
structure PieceT.Nn (p : PieceT) : Prop where
  k : 0 ≤ p.keep
  d : 0 ≤ p.drop
def PieceT.w (p : PieceT) : Int := p.keep + p.drop + p.put.length + 1
def sumW : List PieceT → Int
  | [] => 0
  | p :: l => p.w + sumW l
def Mk.w (m : Mk) : Int := m.keep + sumW m.l
structure Mk.Ok (m : Mk) : Prop where
  k : 0 ≤ m.keep
  l : ∀ p ∈ m.l, p.Nn
theorem Mk.nil_ok : Mk.nil.Ok := ⟨by decide, by simp [Mk.nil]⟩
theorem sumW_append (a b : List PieceT) : sumW (a ++ b) = sumW a + sumW b := by
  induction a with
  | nil => simp [sumW]
  | cons p a ih => simp only [List.cons_append, sumW, ih]; omega
theorem PieceT.Nn.w_pos {p : PieceT} (h : p.Nn) : 1 ≤ p.w := by
  have := h.k
  have := h.d
  unfold PieceT.w
  omega
theorem sumW_len : ∀ {l : List PieceT}, (∀ p ∈ l, p.Nn) → (l.length : Int) ≤ sumW l
  | [], _ => by simp [sumW]
  | p :: l, h => by
    have h1 := (h p List.mem_cons_self).w_pos
    have h2 := sumW_len fun q hq => h q (List.mem_cons_of_mem _ hq)
    simp only [List.length_cons, sumW]
    omega
theorem sumW_mem : ∀ {l : List PieceT}, (∀ p ∈ l, p.Nn) → ∀ p ∈ l, p.w ≤ sumW l
  | [], _, p, hp => by cases hp
  | q :: l, h, p, hp => by
    have h1 := (h q List.mem_cons_self).w_pos
    have h3 := sumW_len fun q hq => h q (List.mem_cons_of_mem _ hq)
    simp only [sumW]
    rcases List.mem_cons.1 hp with rfl | hp
    · omega
    · have h2 := sumW_mem (fun q hq => h q (List.mem_cons_of_mem _ hq)) p hp
      omega
theorem modL_ne {f : PieceT → PieceT} : ∀ {l : List PieceT}, l ≠ [] → modL f l ≠ []
  | [], h => absurd rfl h
  | [p], _ => by simp [modL]
  | p :: q :: r, _ => by simp [modL]
theorem modL_len (f : PieceT → PieceT) : ∀ l : List PieceT, (modL f l).length = l.length
  | [] => rfl
  | [p] => rfl
  | p :: q :: r => by rw [modL, List.length_cons, modL_len f (q :: r)]; rfl
theorem modL_set (f : PieceT → PieceT) : ∀ (l : List PieceT) (h : l.length - 1 < l.length), modL f l = l.set (l.length - 1) (f l[l.length - 1])
  | [], h => by simp at h
  | [p], _ => rfl
  | p :: q :: r, _ => by
    rw [modL, modL_set f (q :: r) (by simp)]
    simp
theorem modL_nn {f : PieceT → PieceT} (hf : ∀ p, p.Nn → (f p).Nn) : ∀ {l : List PieceT}, (∀ p ∈ l, p.Nn) → ∀ p ∈ modL f l, p.Nn
  | [], _, p, hp => by cases hp
  | [q], h, p, hp => by
    rw [modL, List.mem_singleton] at hp
    exact hp ▸ hf q (h q List.mem_cons_self)
  | q :: q' :: r, h, p, hp => by
    rw [modL] at hp
    rcases List.mem_cons.1 hp with rfl | hp
    · exact h _ List.mem_cons_self
    · exact modL_nn hf (fun z hz => h z (List.mem_cons_of_mem _ hz)) p hp
theorem modL_w {f : PieceT → PieceT} {k : Int} (hf : ∀ p : PieceT, (f p).w = p.w + k) : ∀ {l : List PieceT}, l ≠ [] → sumW (modL f l) = sumW l + k
  | [], h => absurd rfl h
  | [p], _ => by simp only [modL, sumW, hf]; omega
  | p :: q :: r, _ => by
    have ih := modL_w hf (l := q :: r) (by simp)
    rw [modL, sumW, ih, sumW]
    simp only [sumW]
    omega

theorem Mk.last_ne (m : Mk) : m.last.l ≠ [] := by
  unfold Mk.last
  cases h : decide (0 < m.keep) || m.l.isEmpty with
  | true => simp
  | false =>
    intro e
    rw [cond_false] at e
    rw [e] at h
    simp at h
theorem Mk.last_ok {m : Mk} (h : m.Ok) : m.last.Ok ∧ m.last.w ≤ m.w + 1 := by
  unfold Mk.last
  cases decide (0 < m.keep) || m.l.isEmpty with
  | true =>
    refine ⟨⟨Int.le_refl 0, fun p hp => ?_⟩, ?_⟩
    · rcases List.mem_append.1 hp with hp | hp
      · exact h.l p hp
      · rw [List.mem_singleton] at hp
        exact hp ▸ ⟨h.k, Int.le_refl _⟩
    · show (0 : Int) + sumW (m.l ++ [_]) ≤ _
      rw [sumW_append]
      simp only [sumW, PieceT.w, Mk.w, List.length_nil]
      omega
  | false => exact ⟨h, by rw [cond_false]; omega⟩
theorem Mk.put_ok {m : Mk} {s : List UInt8} (h : m.Ok) : (m.put s).Ok ∧ (m.put s).w ≤ m.w + s.length + 1 := by
  unfold Mk.put
  cases hs : s.isEmpty with
  | true => exact ⟨h, by rw [cond_true]; omega⟩
  | false =>
    obtain ⟨h1, h2⟩ := Mk.last_ok h
    refine ⟨⟨h1.k, modL_nn (f := fun p => { p with put := p.put ++ s }) (fun p hp => ⟨hp.k, hp.d⟩) h1.l⟩, ?_⟩
    have := modL_w (f := fun p => { p with put := p.put ++ s }) (k := s.length) (fun p => by simp [PieceT.w]; omega) m.last_ne
    unfold Mk.w at h2 ⊢
    simp only [cond_false]
    omega
theorem Mk.drop_ok {m : Mk} {n : Int} (h : m.Ok) (hn : 0 ≤ n) : (m.drop n).Ok ∧ (m.drop n).w ≤ m.w + n + 1 := by
  unfold Mk.drop
  cases hs : decide (0 < n) with
  | false => exact ⟨h, by rw [cond_false]; omega⟩
  | true =>
    obtain ⟨h1, h2⟩ := Mk.last_ok h
    refine ⟨⟨h1.k, modL_nn (f := fun p => { p with drop := p.drop + n }) (fun p hp => ⟨hp.k, by have := hp.d; show 0 ≤ p.drop + n; omega⟩) h1.l⟩, ?_⟩
    have := modL_w (f := fun p => { p with drop := p.drop + n }) (k := n) (fun p => by simp [PieceT.w]; omega) m.last_ne
    unfold Mk.w at h2 ⊢
    simp only [cond_true]
    omega
theorem Mk.kept_ok {m : Mk} {n : Int} (h : m.Ok) (hn : 0 ≤ n) : (m.kept n).Ok ∧ (m.kept n).w = m.w + n := by
  refine ⟨⟨by have := h.k; show 0 ≤ m.keep + n; omega, h.l⟩, ?_⟩
  unfold Mk.w Mk.kept
  simp only
  omega
theorem Mk.piece_ok {m : Mk} {p : PieceT} (h : m.Ok) (hp : p.Nn) : (m.piece p).Ok ∧ (m.piece p).w ≤ m.w + p.w + 1 := by
  obtain ⟨a1, a2⟩ := Mk.kept_ok h hp.k
  obtain ⟨b1, b2⟩ := Mk.put_ok (s := p.put) a1
  obtain ⟨c1, c2⟩ := Mk.drop_ok b1 hp.d
  refine ⟨c1, ?_⟩
  unfold PieceT.w Mk.piece
  omega
theorem foldl_ok : ∀ {l : List PieceT} {m : Mk}, m.Ok → (∀ p ∈ l, p.Nn) → (l.foldl Mk.piece m).Ok ∧ (l.foldl Mk.piece m).w ≤ m.w + 2 * sumW l
  | [], m, h, _ => ⟨h, by simp [sumW]⟩
  | p :: l, m, h, hl => by
    have hp := hl p List.mem_cons_self
    obtain ⟨h1, h2⟩ := Mk.piece_ok h hp
    obtain ⟨k1, k2⟩ := foldl_ok (l := l) h1 fun q hq => hl q (List.mem_cons_of_mem _ hq)
    refine ⟨k1, ?_⟩
    have := hp.w_pos
    simp only [List.foldl_cons, sumW]
    omega
theorem right_nn {l : List PieceT} (h : rightP l = true) : (∀ p ∈ l, p.Nn) ∧ sumW l ≤ 20000000000 := by
  unfold rightP at h
  rw [Bool.and_eq_true, decide_eq_true_eq] at h
  obtain ⟨h1, h2⟩ := h
  have key : ∀ (l : List PieceT) (n : Nat), rightGo n l = true → (∀ p ∈ l, p.Nn) ∧ sumW l ≤ 3200000 * l.length := by
    intro l
    induction l with
    | nil => intro n _; exact ⟨by simp, by simp [sumW]⟩
    | cons p l ih =>
      intro n h
      rw [rightGo] at h
      simp only [Bool.and_eq_true, decide_eq_true_eq] at h
      obtain ⟨⟨⟨⟨⟨q1, q2⟩, q3⟩, q4⟩, q5⟩, q6⟩ := h
      obtain ⟨i1, i2⟩ := ih _ q6
      refine ⟨fun z hz => ?_, ?_⟩
      · rcases List.mem_cons.1 hz with rfl | hz
        · exact ⟨q1, q3⟩
        · exact i1 z hz
      · simp only [sumW, PieceT.w, List.length_cons]
        omega
  obtain ⟨k1, k2⟩ := key l 0 h2
  exact ⟨k1, by omega⟩
theorem norm_nn {l : List PieceT} (h : rightP l = true) : (∀ p ∈ normP l, p.Nn) ∧ sumW (normP l) ≤ 40000000000 := by
  obtain ⟨h1, h2⟩ := right_nn h
  obtain ⟨k1, k2⟩ := foldl_ok (l := l) Mk.nil_ok h1
  have := k1.k
  have e : Mk.nil.w = 0 := rfl
  unfold Mk.w at k2
  unfold Mk.w at e
  exact ⟨k1.l, by unfold normP; omega⟩
end Bow
