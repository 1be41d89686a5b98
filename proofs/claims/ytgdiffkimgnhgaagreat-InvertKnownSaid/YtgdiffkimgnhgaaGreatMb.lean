/- The library, part 2: AE11, AE12, AE13, AE14, AE15, AE16, AE17, AE18, AE19, AE20. -/
import Derived.Test.YtgdiffkimgnhgaaGreatMa
import Derived.Laws.AppendOwn
import Derived.Great.BuildSlice
import Derived.RangeFuncRecord
/- AE11: the operations, one by one: the built-in functions. -/
namespace Bow
open Go

variable {c : Cx} {E : Env} {T : Heap} {F : Prop} {K : V → Heap → Prop}

/-- What the built-in append reads of a slice. -/
structure SrcIs (P : Program) (w : World) (size : Nat) (x : Value) (m : Nat) (news : List Value) : Prop where
  len : ∀ w', (Builtin.lenOf x).run P w' = .ok m w'
  cells : ∀ w', w'.heap = w.heap → (Builtin.firstCells size m x).run P w' = .ok news.toArray w'
  size : news.length = m * size

theorem SrcIs.of_cells {P : Program} {w : World} {size m c : Nat} {a : Option Addr} {news : List Value} (hl : news.length = m * size) (h : news ≠ [] → ∃ ad, a = some ad ∧ ∀ (j : Nat) (v : Value), news[j]? = some v → w.cell? (ad.add j) = some v) :
    SrcIs P w size (.slice a m c) m news := by
  refine ⟨fun w' => rfl, fun w' hw => ?_, hl⟩
  cases a with
  | none =>
    have : news = [] := by
      rcases Classical.em (news = []) with h1 | h1
      · exact h1
      · obtain ⟨ad, e, _⟩ := h h1; cases e
    subst this
    rfl
  | some ad =>
    have key : ∀ (j : Nat) (v : Value), news[j]? = some v → w'.cell? (ad.add j) = some v := fun j v hj => by
      have hne : news ≠ [] := by rintro rfl; simp at hj
      obtain ⟨ad', e, h2⟩ := h hne
      injection e with e
      subst e
      rw [← h2 j v hj]
      exact World.cell?_of_block (by rw [hw])
    have := run_loadCells_list (P := P) w' ad news key
    simp only [Builtin.firstCells]
    rw [hl] at this
    simpa using this

section
variable {P : Program} {w : World} {t t' e e' : TypeId} {i : TypeInfo}

theorem run_append_fit (ht : P.underlying t = some (.slice e)) (ht' : P.underlying t' = some (.slice e')) (hi : P.info? e = some i) {g sLen sCap m : Nat} {cur : Array Value} {et : TypeId} {x : Value} {news : List Value} (ty : TypeId)
    (hg : w.heap[g]? = some (.cells cur et (0, 0))) (hx : SrcIs P w i.size x m news) (h1 : ∀ u ∈ news, u.oneCell' = true) (hroom : sLen + m ≤ sCap) (hfit : sLen * i.size + news.length ≤ cur.size) :
    (Builtin.append_ #[t, t'] ty #[.slice (some ⟨g, 0, none⟩) sLen sCap, x]).run P w =
      .ok (.slice (some ⟨g, 0, none⟩) (sLen + m) sCap) (w.setRow g (cur.toList.take (sLen * i.size) ++ news ++ cur.toList.drop (sLen * i.size + news.length)).toArray) := by
  have hst := run_storeCells_at P g (sLen * i.size) et news 0 cur w hg (by simpa using hfit) h1
  simp only [Nat.add_zero] at hst
  simp [Builtin.append_, run_underlying ht, run_underlying ht', run_sizeOf' hi, hx.len, hroom, hx.cells w rfl, at_add, hst]

theorem run_append_none (ht : P.underlying t = some (.slice e)) (ht' : P.underlying t' = some (.slice e')) (hi : P.info? e = some i) {sLen sCap : Nat} {a : Option Addr} {x : Value} (ty : TypeId)
    (hx : SrcIs P w i.size x 0 []) (hroom : sLen ≤ sCap) :
    (Builtin.append_ #[t, t'] ty #[.slice a sLen sCap, x]).run P w = .ok (.slice a sLen sCap) w := by
  cases a with
  | none => simp [Builtin.append_, run_underlying ht, run_underlying ht', run_sizeOf' hi, hx.len, hroom, hx.cells w rfl]
  | some ad => simp [Builtin.append_, run_underlying ht, run_underlying ht', run_sizeOf' hi, hx.len, hroom, hx.cells w rfl, storeCells]

theorem run_append_more (ht : P.underlying t = some (.slice e)) (ht' : P.underlying t' = some (.slice e')) (hi : P.info? e = some i) {z : Value} (hz : i.zero = some z) {sLen sCap m : Nat} {a : Option Addr} {x : Value} {olds news : List Value} (ty : TypeId)
    (hx : SrcIs P w i.size x m news) (ho : SrcIs P w i.size (.slice a sLen sCap) sLen olds) (hg : sCap < sLen + m) (h63 : sLen + m ≤ 9223372036854775807) (hfit : Builtin.nextslicecap (sLen + m) sCap * i.bytes ≤ 281474976710656) :
    (Builtin.append_ #[t, t'] ty #[.slice a sLen sCap, x]).run P w =
      .ok (.slice (some ⟨w.heap.size, 0, none⟩) (sLen + m) (grownCap w (sLen + m) sCap e))
        (w.drew.alloc (.cells ((olds ++ news).toArray ++ Builtin.zeroCells z.cells (grownCap w (sLen + m) sCap e - (sLen + m))) e)) := by
  have hn : ¬ (sLen + m ≤ sCap) := by omega
  have h63' : ¬ (9223372036854775807 < ((sLen : Int) + (m : Int))) := by omega
  have h48' : ¬ (281474976710656 < Builtin.nextslicecap (sLen + m) sCap * i.bytes) := by omega
  have e1 : IntKind.i64.max = 9223372036854775807 := by decide
  have h63'' : ¬ (((sLen + m : Nat) : Int) > IntKind.i64.max) := by rw [e1]; omega
  have hold := ho.cells w.drew rfl
  have hnew := hx.cells w.drew rfl
  simp [Builtin.append_, run_underlying ht, run_underlying ht', run_sizeOf' hi, typeInfo, zeroValue, hi, hz, hx.len, hn, h63', h48', Question.forced, newRow, grownCap, hold, hnew, e1]
  have : ∀ Z : Array Value, olds.toArray ++ (news.toArray ++ Z) = (olds ++ news).toArray ++ Z := fun Z => by
    rw [← Array.append_assoc]
    simp
  rw [this]
end

theorem ev_len {x : Operand} {t : TypeId} {K : V → Heap → Prop} (h : evOp c (.call { callee := .builtin .len, args := #[x], argTypes := #[t] }) E T F K) :
    F ∨ ∃ u T', K u T' ∧ OpTo c (.call { callee := .builtin .len, args := #[x], argTypes := #[t] }) E T u T' := by
  simp only [evOp] at h
  split at h
  · rename_i e sz xs hu hx
    have hu := tyU_sound hu
    refine .inr ⟨_, _, h, OpTo.still fun o ho w β H m a hs => ⟨.int .i64 xs.length, ?_, .int _ _⟩⟩
    have hr := opd_rep hs x
    simp only [hx, V.conv] at hr
    generalize hq : a.eval x = q at hr
    cases hr
    simp [execOp, ho, resolve, invoke, builtin, Builtin.len_, hq, run_underlying hu, goInt]
  · rename_i e hu hx
    have hu := tyU_sound hu
    refine .inr ⟨_, _, h, OpTo.still fun o ho w β H m a hs => ⟨.int .i64 0, ?_, .int _ _⟩⟩
    have hr := opd_rep hs x
    simp only [hx, V.conv] at hr
    generalize hq : a.eval x = q at hr
    cases hr
    simp [execOp, ho, resolve, invoke, builtin, Builtin.len_, hq, run_underlying hu, goInt]
  · rename_i e k g off l hu hx
    have hu := tyU_sound hu
    rw [lget_eq] at h
    split at h
    · rename_i g' sz xs hk
      obtain ⟨rfl, h⟩ := h
      refine .inr ⟨_, _, h, OpTo.still fun o ho w β H m a hs => ⟨.int .i64 l, ?_, .int _ _⟩⟩
      have hr := opd_rep hs x
      obtain ⟨r, hr', hH⟩ := hs.at hk
      simp only [hx, V.conv, Ref.conv, hr'] at hr
      simp only [HObj.conv] at hH
      generalize hq : a.eval x = q at hr
      cases hr with
      | oslNil => simp [execOp, ho, resolve, invoke, builtin, Builtin.len_, hq, run_underlying hu, goInt]
      | oslBlk => simp [execOp, ho, resolve, invoke, builtin, Builtin.len_, hq, run_underlying hu, goInt]
      | oslStale _ _ _ _ g' sz' xs' _ hH' hg =>
        rw [hH] at hH'
        injection hH' with hH'
        injection hH' with hH'
        injection hH' with e0 _ _
        omega
      | oslDead _ _ _ _ _ hd => rw [hH] at hd; cases hd
    · exact .inl h
  · rename_i s hu hx
    have hu := tyU_sound hu
    refine .inr ⟨_, _, h, OpTo.still fun o ho w β H m a hs => ⟨.int .i64 s.length, ?_, .int _ _⟩⟩
    have hr := opd_rep hs x
    simp only [hx] at hr
    obtain ⟨hv, _⟩ := rep_str hr
    have hsz : (⟨s.toArray⟩ : ByteArray).size = s.length := by simp [ByteArray.size]
    simp [execOp, ho, resolve, invoke, builtin, Builtin.len_, hv, run_underlying hu, goInt, hsz]
  · exact .inl h

theorem ev_max {x y : Operand} {ts : Array TypeId} (h : evOp c (.call { callee := .builtin .max, args := #[x, y], argTypes := ts }) E T F K) :
    F ∨ ∃ u T', K u T' ∧ OpTo c (.call { callee := .builtin .max, args := #[x, y], argTypes := ts }) E T u T' := by
  simp only [evOp] at h
  split at h
  · rename_i k p k' q hx hy
    refine .inr ⟨_, _, h, OpTo.still fun o ho w β H m a hs => ⟨.int k (if q > p then q else p), ?_, .int _ _⟩⟩
    have h1 := opd_rep hs x
    have h2 := opd_rep hs y
    simp only [hx] at h1
    simp only [hy] at h2
    simp [execOp, ho, resolve, invoke, builtin, Builtin.max_, Builtin.max2, rep_int h1, rep_int h2]
  · exact .inl h
theorem ev_min {x y : Operand} {ts : Array TypeId} (h : evOp c (.call { callee := .builtin .min, args := #[x, y], argTypes := ts }) E T F K) :
    F ∨ ∃ u T', K u T' ∧ OpTo c (.call { callee := .builtin .min, args := #[x, y], argTypes := ts }) E T u T' := by
  simp only [evOp] at h
  split at h
  · rename_i k p k' q hx hy
    refine .inr ⟨_, _, h, OpTo.still fun o ho w β H m a hs => ⟨.int k (if q < p then q else p), ?_, .int _ _⟩⟩
    have h1 := opd_rep hs x
    have h2 := opd_rep hs y
    simp only [hx] at h1
    simp only [hy] at h2
    simp [execOp, ho, resolve, invoke, builtin, Builtin.min_, Builtin.min2, rep_int h1, rep_int h2]
  · exact .inl h

/-! ### append -/
/-- The cells of elements, one behind the other. -/
def flat (xs : List V) : List V := xs.flatMap V.cells
theorem flat_length {sz : Nat} : ∀ (xs : List V), (∀ x ∈ xs, okE sz x) → (flat xs).length = xs.length * sz
  | [], _ => by simp [flat]
  | x :: xs, h => by
    have h1 := (h x (List.mem_cons_self ..)).1
    have ih := flat_length xs fun y hy => h y (List.mem_cons_of_mem _ hy)
    simp only [flat, List.flatMap_cons, List.length_append, List.length_cons] at ih ⊢
    rw [ih, h1, Nat.add_mul]
    omega
theorem flat_get {sz : Nat} : ∀ (xs : List V), (∀ x ∈ xs, okE sz x) → ∀ (i : Nat) (x : V) (j : Nat) (c : V), xs[i]? = some x → x.cells[j]? = some c → (flat xs)[i * sz + j]? = some c
  | [], _, i, x, j, c, hi, _ => by simp at hi
  | y :: xs, h, 0, x, j, c, hi, hj => by
    simp at hi
    subst hi
    have hl := (h y (List.mem_cons_self ..)).1
    have := lt_of_get hj
    simp only [flat, List.flatMap_cons, Nat.zero_mul, Nat.zero_add]
    rw [List.getElem?_append_left this]
    exact hj
  | y :: xs, h, i + 1, x, j, c, hi, hj => by
    have h1 := (h y (List.mem_cons_self ..)).1
    have ih := flat_get xs (fun z hz => h z (List.mem_cons_of_mem _ hz)) i x j c (by simpa using hi) hj
    simp only [flat, List.flatMap_cons] at ih ⊢
    rw [List.getElem?_append_right (by rw [h1, Nat.add_mul]; omega), h1, Nat.add_mul, Nat.one_mul]
    rw [show i * sz + sz + j - sz = i * sz + j by omega]
    exact ih
theorem flat_ones {sz : Nat} (xs : List V) (h : ∀ x ∈ xs, okE sz x) : ∀ c ∈ flat xs, c.one = true := by
  intro c hc
  obtain ⟨x, hx, hc⟩ := List.mem_flatMap.1 hc
  exact (onesB_iff _).1 (h x hx).2 c hc
/-- Each place of the flattened row is a cell of an element. -/
theorem flat_at {sz : Nat} (hsz : 0 < sz) : ∀ (xs : List V), (∀ x ∈ xs, okE sz x) → ∀ (k : Nat) (c : V), (flat xs)[k]? = some c → ∃ i x j, k = i * sz + j ∧ xs[i]? = some x ∧ x.cells[j]? = some c
  | [], _, k, c, hk => by simp [flat] at hk
  | y :: xs, h, k, c, hk => by
    have h1 := (h y (List.mem_cons_self ..)).1
    simp only [flat, List.flatMap_cons] at hk
    rcases Nat.lt_or_ge k sz with hlt | hge
    · rw [List.getElem?_append_left (by omega)] at hk
      exact ⟨0, y, k, by simp, rfl, hk⟩
    · rw [List.getElem?_append_right (by omega), h1] at hk
      obtain ⟨i, x, j, e, h2, h3⟩ := flat_at hsz xs (fun z hz => h z (List.mem_cons_of_mem _ hz)) (k - sz) c hk
      exact ⟨i + 1, x, j, by rw [Nat.add_mul]; omega, by simpa using h2, h3⟩

/-- A source of the append: elements, read off memory. -/
theorem appSrc_sound {x : Operand} {sz : Nat} {K : List V → Prop} (hsz : 0 < sz) (h : appSrc (opd E x) sz T F K) :
    F ∨ ∃ ys, K ys ∧ ∀ (imps : List Nat) (nt : Nat) (w : World) (β : Nat → Loc) (H : Heap) (m : List Nat) (B : Base) (D : List Nat) (a : Act) (P : Program), SRel imps nt w β H m ⟨E, T, B, D⟩ a →
      (∀ y ∈ ys, okE sz y) ∧ ∃ news, SrcIs P w sz (a.eval x) ys.length news ∧ (∀ (k : Nat) (c : V) (u : Value), (flat ys)[k]? = some c → news[k]? = some u → Rep w β H c u) := by
  unfold appSrc at h
  split at h
  · rename_i sz' ys hx
    cases hb : Nat.beq sz' sz with
    | false => rw [hb] at h; exact .inl h
    | true =>
      rw [hb] at h
      obtain rfl := Nat.eq_of_beq_eq_true hb
      refine .inr ⟨ys, h, fun imps nt w β H m B D a P hs => ?_⟩
      have hr := opd_rep hs x
      simp only [hx, V.conv] at hr
      generalize hq : a.eval x = q at hr
      cases hr with
      | sl _ _ ad cap vals hcap hmax hok ha hrr =>
        refine ⟨hok, (List.range (ys.length * sz')).map vals, SrcIs.of_cells (by simp) (fun hne => ?_), fun k c u hc hu => ?_⟩
        · have hys : ys ≠ [] := by rintro rfl; simp at hne
          obtain ⟨ad', e, _, _, h4⟩ := ha hys
          refine ⟨ad', e, fun j v hj => ?_⟩
          have hjl := lt_of_get hj
          simp only [List.length_map, List.length_range] at hjl
          simp [hjl] at hj
          subst hj
          exact h4 j hjl
        · obtain ⟨i, y, j, e, h1, h2⟩ := flat_at hsz ys hok k c hc
          have hkl := lt_of_get hu
          simp only [List.length_map, List.length_range] at hkl
          simp [hkl] at hu
          subst hu e
          exact hrr i y j c h1 h2
  · rename_i hx
    refine .inr ⟨[], h, fun imps nt w β H m B D a P hs => ⟨by simp, [], ?_, fun k c u hc _ => by simp [flat] at hc⟩⟩
    have hr := opd_rep hs x
    simp only [hx, V.conv] at hr
    generalize hq : a.eval x = q at hr
    cases hr
    exact SrcIs.of_cells (by simp) (fun hne => absurd rfl hne)
  · rename_i k g l hx
    rw [lget_eq] at h
    split at h
    · rename_i g' sz' ys hk
      cases hb : Nat.beq sz' sz with
      | false => rw [hb] at h; exact .inl h
      | true =>
        rw [hb] at h
        obtain rfl := Nat.eq_of_beq_eq_true hb
        obtain ⟨rfl, rfl, h⟩ := h
        refine .inr ⟨ys, h, fun imps nt w β H m B D a P hs => ?_⟩
        have hr := opd_rep hs x
        obtain ⟨r, hr', hH⟩ := hs.at hk
        simp only [hx, V.conv, Ref.conv, hr'] at hr
        simp only [HObj.conv] at hH
        generalize hq : a.eval x = q at hr
        have hob := hs.hrel.obj r _ hH
        have hvec : ∀ sz2 xs2, H[r]? = some (some (.vec g sz2 xs2)) → sz2 = sz' ∧ xs2 = ys := fun sz2 xs2 h2 => by
          rw [hH] at h2
          injection h2 with h2
          injection h2 with h2
          injection h2 with _ e1 e2
          exact ⟨e1.symm, e2.symm⟩
        generalize hn : ys.length = n at hr
        cases hr with
        | oslNil _ _ sz2 xs2 ad hH' hβ =>
          rw [hβ] at hob
          have : ys = [] := hob
          subst this
          exact ⟨by simp, [], SrcIs.of_cells (by simp) (fun hne => absurd rfl hne), fun k c u hc _ => by simp [flat] at hc⟩
        | oslBlk _ _ _ _ sz2 xs2 b N ad cap hH' hβ hl hN hcap ha hlen =>
          obtain ⟨rfl, rfl⟩ := hvec _ _ hH'
          rw [hβ] at hob
          obtain ⟨vs, e, _, h1, h2, h3, h4, h5, h6⟩ := hob
          have hN' : n * sz2 ≤ vs.size := by rw [← hn, h2]; exact h3
          refine ⟨h5, (List.range (n * sz2)).map (fun j => vs.getD j Go.undef), SrcIs.of_cells (by simp) (fun hne => ?_), fun k c u hc hu => ?_⟩
          · have hn0 : 0 < n := by
              rcases Nat.eq_zero_or_pos n with h0 | h0
              · subst h0; simp at hne
              · exact h0
            have := ha (by omega)
            subst this
            refine ⟨_, rfl, fun j v hj => ?_⟩
            have hjl := lt_of_get hj
            simp only [List.length_map, List.length_range] at hjl
            have hjv : j < vs.size := by omega
            simp [hjl, hjv] at hj
            subst hj
            rw [Nat.zero_mul, at_add, cell_of_row w b j vs e (0, 0) h1]
            simp [hjv]
          · obtain ⟨i, y, j, e1, k1, k2⟩ := flat_at hsz xs2 h5 k c hc
            have hkl := lt_of_get hu
            simp only [List.length_map, List.length_range] at hkl
            have hjv : k < vs.size := by omega
            simp [hkl, hjv] at hu
            subst hu e1
            exact h6 i y j c _ k1 k2 (by simp [hjv])
        | oslStale _ _ _ _ g' sz' xs' _ hH' hg =>
          rw [hH] at hH'
          injection hH' with hH'
          injection hH' with hH'
          injection hH' with e0 _ _
          omega
        | oslDead _ _ _ _ _ hd => rw [hH] at hd; cases hd
    · exact .inl h
  · exact .inl h

/-! ### An own row that grows -/
section
variable {w w' : World} {β : Nat → Loc} {H : Heap} {r g g' sz sz' : Nat} {xs xs' : List V} {l' : Loc}

theorem Fr.regen (hgg : g < g') (hβn : β r ≠ .none) (ho : H[r]? = some (some (.vec g sz xs))) (hos : w'.os = w.os) (ht : w'.tape = w.tape) (hu : w'.output = w.output) (hs : w.heap.size ≤ w'.heap.size)
    (hk : ∀ b, b < w.heap.size → (∀ N, β r ≠ .blk b N) → w'.heap[b]? = w.heap[b]?) (hl : ∀ b N, l' = .blk b N → w.heap.size ≤ b ∨ ∃ N', β r = .blk b N') :
    Fr w β H w' (upd β r l') (H.set r (some (.vec g' sz' xs'))) := by
  refine ⟨⟨hos, ht, hu, hs, by simp, ?_, ?_, ?_, fun q hq => upd_ne (hq.ne ho (fun h => h)), fun q s hs => ?_⟩, fun q _ hn => by
    by_cases e : q = r
    · subst e; exact absurd hn hβn
    · rw [upd_ne e]; exact hn⟩
  · intro q o' _ ho'
    rcases get_set_some ho' with ⟨h1, h2, _⟩ | ⟨h1, h2⟩
    · injection h2 with h2
      subst h1 h2
      exact ⟨_, ho, ⟨by omega, fun e => by omega⟩, fun _ hsg => by simp [SameGen] at hsg; omega⟩
    · exact ⟨o', h2, Evo.refl _, fun _ _ => upd_ne h1⟩
  · intro b hb hno
    exact hk b hb fun N hN => hno ⟨r, N, ⟨_, ho, fun h => h⟩, hN⟩
  · rintro b ⟨q, N, ⟨o, hq, hqn⟩, hb⟩
    rcases get_set_some hq with ⟨h1, h2, _⟩ | ⟨h1, h2⟩
    · subst h1
      rw [upd_same] at hb
      rcases hl b N hb with h3 | ⟨N', h3⟩
      · exact .inl h3
      · exact .inr ⟨_, N', ⟨_, ho, fun h => h⟩, h3⟩
    · rw [upd_ne h1] at hb
      exact .inr ⟨q, N, ⟨o, h2, hqn⟩, hb⟩
  · rcases get_set_some hs with ⟨_, h2, _⟩ | ⟨h1, h2⟩
    · injection h2 with h2
      cases h2
    · exact ⟨h2, upd_ne h1⟩

theorem HRel.regen (h : HRel w β H) (hgg : g < g') (hβn : β r ≠ .none) (ho : H[r]? = some (some (.vec g sz xs))) (hos : w'.os = w.os) (ht : w'.tape = w.tape) (hu : w'.output = w.output) (hs : w.heap.size ≤ w'.heap.size)
    (hk : ∀ b, b < w.heap.size → (∀ N, β r ≠ .blk b N) → w'.heap[b]? = w.heap[b]?) (hl : ∀ b N, l' = .blk b N → w.heap.size ≤ b ∨ ∃ N', β r = .blk b N')
    (hn : ORel w' (upd β r l') (H.set r (some (.vec g' sz' xs'))) l' (.vec g' sz' xs')) : HRel w' (upd β r l') (H.set r (some (.vec g' sz' xs'))) := by
  have other : ∀ q p b N, q ≠ r → H[q]? = some (some p) → β q = .blk b N → b < w.heap.size ∧ ∀ N', β r ≠ .blk b N' := fun q p b N hq hp hb =>
    ⟨h.lt ⟨p, hp⟩ hb, fun N' hN' => hq (h.inj q r b N N' ⟨p, hp⟩ ⟨_, ho⟩ hb hN')⟩
  refine h.step (Fr.regen hgg hβn ho hos ht hu hs hk hl) ?_ ?_
  · intro q p hp
    rcases get_set_some hp with ⟨h1, h2, _⟩ | ⟨h1, h2⟩
    · injection h2 with h2
      subst h1 h2
      rw [upd_same]
      exact .inr hn
    · refine .inl ⟨h2, upd_ne h1, fun b N hb => ?_⟩
      obtain ⟨k1, k2⟩ := other q p b N h1 h2 hb
      exact hk b k1 k2
  · rintro q q' b N N' ⟨p, hp⟩ ⟨p', hp'⟩ hb hb'
    rcases get_set_some hp with ⟨h1, _, _⟩ | ⟨h1, h2⟩ <;> rcases get_set_some hp' with ⟨k1, _, _⟩ | ⟨k1, k2⟩
    · rw [h1, k1]
    · subst h1
      rw [upd_same] at hb
      rw [upd_ne k1] at hb'
      obtain ⟨e1, e2⟩ := other q' p' b N' k1 k2 hb'
      rcases hl b N hb with e3 | ⟨N2, e3⟩
      · omega
      · exact absurd e3 (e2 N2)
    · subst k1
      rw [upd_same] at hb'
      rw [upd_ne h1] at hb
      obtain ⟨e1, e2⟩ := other q p b N h1 h2 hb
      rcases hl b N' hb' with e3 | ⟨N2, e3⟩
      · omega
      · exact absurd e3 (e2 N2)
    · rw [upd_ne h1] at hb
      rw [upd_ne k1] at hb'
      exact h.inj q q' b N N' ⟨p, h2⟩ ⟨p', k2⟩ hb hb'

variable {imps : List Nat} {nt : Nat} {m : List Nat} {E : Env} {T : Heap} {B : Base} {D : List Nat} {a : Act}
theorem SRel.regen (h : SRel imps nt w β H m ⟨E, T, B, D⟩ a) {k : Nat} (hk : T[k]? = some (some (.vec g sz xs))) (hr : m[k]? = some r)
    (f : Fr w β H w' (upd β r l') (H.set r (some (.vec g' sz' xs')))) (hrel : HRel w' (upd β r l') (H.set r (some (.vec g' sz' xs')))) :
    SRel imps nt w' (upd β r l') (H.set r (some (.vec g' sz' xs'))) m ⟨E, T.set k (some (.vec g' sz' xs')), B, D⟩ a := by
  have hml : m.length = T.length := h.mlen
  have hrl := h.lt hr
  have hrm : r ∈ m := List.mem_of_getElem? hr
  have hkT : k < T.length := by have := lt_of_get hr; omega
  refine ⟨hrel, h.size, fun j => (h.env j).mono f, by simpa using hml, h.nodup, ?_, h.imp, ?_, fun r hr => h.fut r (by simpa using hr), h.own, ?_, ?_, h.defs, ?_⟩
  · intro j q o hj ho
    by_cases e : j = k
    · subst e
      have : q = r := Option.some.inj (hj.symm.trans hr)
      subst this
      simp only [List.getElem?_set, hkT, if_true] at ho
      injection ho with ho
      subst ho
      simp [hrl, HObj.conv]
    · have hne : q ≠ r := fun e' => e (h.inj hj (e' ▸ hr))
      simp only at ho
      rw [List.getElem?_set_ne (fun x => e x.symm)] at ho
      rw [List.getElem?_set_ne (fun x => hne x.symm)]
      exact h.loc j q o hj ho
  · intro q hq hqm
    rw [List.getElem?_set_ne (fun x : r = q => hqm (x ▸ hrm))]
    exact h.base q (by simpa using hq) hqm
  · intro p hp
    simpa using h.scE p hp
  · intro j o ho
    simp only [List.length_set]
    by_cases e : j = k
    · subst e
      simp only [List.getElem?_set, hkT, if_true] at ho
      injection ho with ho
      injection ho with ho
      subst ho
      trivial
    · simp only at ho
      rw [List.getElem?_set_ne (fun x => e x.symm)] at ho
      exact h.scT j o ho
  · intro j q hj
    obtain ⟨r', b, N, h1, h2, h3, h4⟩ := h.marks j q hj
    have hqk : q ≠ k := fun e => by
      subst e
      simp only at h2
      rw [hk] at h2
      cases h2
    have hne : r' ≠ r := fun e' => hqk (h.inj h1 (e' ▸ hr))
    refine ⟨r', b, N, h1, ?_, by rw [upd_ne hne]; exact h3, h4⟩
    simp only
    rw [List.getElem?_set_ne (fun x => hqk x.symm)]
    exact h2
end
end Bow
/- AE12: the built-in append. -/
namespace Bow
open Go

variable {c : Cx} {E : Env} {T : Heap} {F : Prop} {K : V → Heap → Prop}

/-- A row of values stands for a row of cells. -/
def RowRep (w : World) (β : Nat → Loc) (H : Heap) (cs : List V) (us : List Value) : Prop :=
  cs.length = us.length ∧ ∀ (k : Nat) (c : V) (u : Value), cs[k]? = some c → us[k]? = some u → Rep w β H c u

theorem RowRep.append {w : World} {β : Nat → Loc} {H : Heap} {cs cs' : List V} {us us' : List Value} (h : RowRep w β H cs us) (h' : RowRep w β H cs' us') : RowRep w β H (cs ++ cs') (us ++ us') := by
  refine ⟨by simp [h.1, h'.1], fun k c u hc hu => ?_⟩
  rcases Nat.lt_or_ge k cs.length with h1 | h1
  · rw [List.getElem?_append_left h1] at hc
    rw [List.getElem?_append_left (by rw [← h.1]; exact h1)] at hu
    exact h.2 k c u hc hu
  · rw [List.getElem?_append_right h1] at hc
    rw [List.getElem?_append_right (by rw [← h.1]; exact h1), ← h.1] at hu
    exact h'.2 _ c u hc hu

theorem RowRep.ones {w : World} {β : Nat → Loc} {H : Heap} {cs : List V} {us : List Value} (h : RowRep w β H cs us) (h1 : ∀ c ∈ cs, c.one = true) : ∀ u ∈ us, u.oneCell' = true := by
  intro u hu
  obtain ⟨k, hk, rfl⟩ := List.mem_iff_getElem.1 hu
  have hkc : k < cs.length := by rw [h.1]; exact hk
  exact rep_one (h.2 k cs[k] us[k] (List.getElem?_eq_getElem hkc) (List.getElem?_eq_getElem hk)) (h1 _ (List.getElem_mem hkc))

theorem flat_append (xs ys : List V) : flat (xs ++ ys) = flat xs ++ flat ys := by simp [flat]

/-- A block whose first cells stand for the elements. -/
theorem vec_of_row {w : World} {β : Nat → Loc} {H : Heap} {sz : Nat} {xs : List V} {us : List Value} {vs : Array Value} (hok : ∀ x ∈ xs, okE sz x) (h : RowRep w β H (flat xs) us) (hp : ∀ k, k < us.length → vs[k]? = us[k]?) :
    xs.length * sz ≤ us.length ∧ ∀ (i : Nat) (x : V) (j : Nat) (c : V) (v : Value), xs[i]? = some x → x.cells[j]? = some c → vs[i * sz + j]? = some v → Rep w β H c v := by
  refine ⟨by rw [← h.1, flat_length xs hok]; exact Nat.le_refl _, fun i x j c v hi hj hv => ?_⟩
  have hc := flat_get xs hok i x j c hi hj
  have hlt := lt_of_get hc
  rw [h.1] at hlt
  rw [hp _ hlt] at hv
  exact h.2 _ c v hc hv

theorem zeroCells_size' (z : Array Value) (n : Nat) : (Builtin.zeroCells z n).size = n * z.size := by simp [Builtin.zeroCells]

theorem ev_append {x y : Operand} {t t' : TypeId} (h : evOp c (.call { callee := .builtin .append, args := #[x, y], argTypes := #[t, t'] }) E T F K) :
    F ∨ ∃ u T', K u T' ∧ OpTo c (.call { callee := .builtin .append, args := #[x, y], argTypes := #[t, t'] }) E T u T' := by
  simp only [evOp] at h
  split at h
  case h_2 => exact .inl h
  rename_i e' ht'
  have ht' := tyU_sound ht'
  unfold appK at h
  split at h
  case h_2 => exact .inl h
  rename_i e ht
  have ht := tyU_sound ht
  split at h
  case h_2 => exact .inl h
  rename_i i hi
  have hI := tyI_sound hi
  split at h
  case h_2 => exact .inl h
  rename_i z hz
  cases hb : (Nat.ble 1 i.size && Nat.beq z.cells.size i.size && Nat.ble 1 i.bytes) with
  | false => rw [hb] at h; exact .inl h
  | true =>
  rw [hb] at h
  simp only [Bool.and_eq_true] at hb
  have hsz : 0 < i.size := Nat.le_of_ble_eq_true hb.1.1
  have hzs : z.cells.size = i.size := Nat.eq_of_beq_eq_true hb.1.2
  have hby : 1 ≤ i.bytes := Nat.le_of_ble_eq_true hb.2
  simp only [cond_true] at h
  rcases appSrc_sound hsz h with h | ⟨ys, h, hsrc⟩
  · exact .inl h
  have exec : ∀ (o : Oper), o.op = .call { callee := .builtin .append, args := #[x, y], argTypes := #[t, t'] } → ∀ (a : Act) (w w' : World) (v : Value),
      (Builtin.append_ #[t, t'] o.type #[a.eval x, a.eval y]).run c.P w = .ok v w' → (execOp a.eval o).run c.P w = .ok (.value v) w' := by
    intro o ho a w w' v hr
    simp [execOp, ho, resolve, invoke, builtin, hr]
  have small : ∀ n, room n i.bytes → n ≤ 70368744177664 := fun n hn => by
    unfold room at hn
    exact Nat.le_trans (Nat.le_mul_of_pos_right n hby) hn
  split at h
  · rename_i hx
    obtain ⟨hroom, h⟩ := h
    rw [lnum_eq, lsnoc_eq] at h
    refine .inr ⟨_, _, h, fun o ho w β H m a hs => ?_⟩
    obtain ⟨hok, news, hsI, hrep⟩ := hsrc _ _ w β H m _ _ a c.P hs
    have hv := opd_rep hs x
    simp only [hx, V.conv] at hv
    generalize hq : a.eval x = q at hv
    cases hv
    by_cases hm : ys.length = 0
    · have hys : ys = [] := List.eq_nil_of_length_eq_zero hm
      subst hys
      have hnews : news = [] := List.eq_nil_of_length_eq_zero (by simpa using hsI.size)
      subst hnews
      obtain ⟨β', H', k1, k2, k3⟩ := hs.newNil 0 i.size none
      exact ⟨_, _, w, β', H', _, exec o ho a w w _ (by rw [hq]; exact run_append_none ht ht' hI o.type hsI (Nat.zero_le _)), .inl rfl, k1, k2, k3, List.prefix_append _ _⟩
    · have hfl := flat_length ys hok
      have hro : RowRep w β H (flat ys) news := ⟨by rw [hfl, hsI.size], hrep⟩
      have hle := small _ hroom
      have hroom' : (0 + ys.length) * i.bytes ≤ 70368744177664 := by rw [Nat.zero_add]; exact hroom
      have holds : SrcIs c.P w i.size (.slice none 0 0) 0 [] := SrcIs.of_cells (by simp) (fun hne => absurd rfl hne)
      have hrun := run_append_more (P := c.P) (w := w) ht ht' hI hz o.type hsI holds (by omega) (by omega) (growslice_fits (by omega) (by omega))
      simp only [Nat.zero_add, List.nil_append] at hrun
      have hge := grownCap_ge w ys.length 0 e
      have hcm := grownCap_le_maxLen w ys.length 0 e (by unfold maxLen; omega)
      have hsame : SRel c.imps c.nt w.drew β H m ⟨E, T, c.B, c.D⟩ a := hs.same (Fr.of_heap rfl rfl rfl rfl) (hs.hrel.of_heap rfl rfl rfl rfl)
      obtain ⟨cap, hcap⟩ : ∃ cap, cap = grownCap w ys.length 0 e := ⟨_, rfl⟩
      rw [← hcap] at hge hcm hrun
      have hvec := vec_of_row (vs := news.toArray ++ Builtin.zeroCells z.cells (cap - ys.length)) hok hro (fun k hk => by rw [Array.getElem?_append_left (by simpa using hk)]; simp)
      have hvsz : (news.toArray ++ Builtin.zeroCells z.cells (cap - ys.length)).size = cap * i.size := by
        simp only [Array.size_append, List.size_toArray, zeroCells_size', hzs, hsI.size, ← Nat.add_mul]
        congr 1
        omega
      obtain ⟨β', H', k1, k2, k3⟩ := hsame.newVec 0 i.size ys (news.toArray ++ Builtin.zeroCells z.cells (cap - ys.length)) e ys.length cap (tyG_zero _) hsz hok rfl hge hcm hvsz.symm
        (fun i x j c v hi hj hv => (hvec.2 i x j c v hi hj hv).mono (Fr.of_heap rfl rfl rfl rfl))
      exact ⟨_, _, _, β', H', _, exec o ho a w _ _ (by rw [hq]; exact hrun), .inl rfl, k1, (show Fr w β H w.drew β H from Fr.of_heap rfl rfl rfl rfl).trans k2, k3, List.prefix_append _ _⟩
  · rename_i k g l hx
    rw [lget_eq] at h
    split at h
    case h_2 => exact .inl h
    rename_i g' sz xs hk
    cases hbs : Nat.beq sz i.size with
    | false => rw [hbs] at h; exact .inl h
    | true =>
    rw [hbs] at h
    obtain rfl := Nat.eq_of_beq_eq_true hbs
    simp only [cond_true, lset_eq] at h
    obtain ⟨rfl, rfl, hroom, h⟩ := h
    refine .inr ⟨_, _, h, fun o ho w β H m a hs => ?_⟩
    obtain ⟨hok, news, hsI, hrep⟩ := hsrc _ _ w β H m _ _ a c.P hs
    have hfl := flat_length ys hok
    have hro : RowRep w β H (flat ys) news := ⟨by rw [hfl, hsI.size], hrep⟩
    have hle := small _ hroom
    have hroom' : (xs.length + ys.length) * i.bytes ≤ 70368744177664 := hroom
    have hv := opd_rep hs x
    obtain ⟨r, hr, hH⟩ := hs.at hk
    simp only [hx, V.conv, Ref.conv, hr] at hv
    simp only [HObj.conv] at hH
    have hob := hs.hrel.obj r _ hH
    generalize hq : a.eval x = q at hv
    have hvec2 : ∀ sz2 xs2, H[r]? = some (some (.vec g sz2 xs2)) → sz2 = i.size ∧ xs2 = xs := fun sz2 xs2 h2 => by
      rw [hH] at h2
      injection h2 with h2
      injection h2 with h2
      injection h2 with _ e1 e2
      exact ⟨e1.symm, e2.symm⟩
    have hrl := hs.lt hr
    -- what is made of a row that grows into a new block
    have grow : ∀ (ad : Option Addr) (sCap : Nat) (olds : List Value), β r ≠ .none → q = .slice ad xs.length sCap → (∀ x ∈ xs, okE i.size x) → RowRep w β H (flat xs) olds → SrcIs c.P w i.size (.slice ad xs.length sCap) xs.length olds → sCap < xs.length + ys.length →
        ∃ (nx : Next) (v : Value) (w' : World) (β' : Nat → Loc) (H' : Heap) (m' : List Nat), (execOp a.eval o).run c.P w = .ok nx w' ∧ (nx = .value v ∨ nx = .skip ∧ v = Go.undef) ∧
          SRel c.imps c.nt w' β' H' m' ⟨E, T.set k (some (.vec (bump g) i.size (xs ++ ys))), c.B, c.D⟩ a ∧ Fr w β H w' β' H' ∧ Rep w' β' H' ((V.osl (.loc k) (bump g) 0 (xs.length + ys.length)).conv m') v ∧ m <+: m' := by
      intro ad sCap olds hβn hqe hokx hrx holds hlt
      have hrun := run_append_more (P := c.P) (w := w) ht ht' hI hz o.type hsI holds hlt (by omega) (growslice_fits (by omega) (by omega))
      have hge := grownCap_ge w (xs.length + ys.length) sCap e
      have hcm := grownCap_le_maxLen w (xs.length + ys.length) sCap e (by unfold maxLen; omega)
      obtain ⟨cap, hcap⟩ : ∃ cap, cap = grownCap w (xs.length + ys.length) sCap e := ⟨_, rfl⟩
      rw [← hcap] at hge hcm hrun
      obtain ⟨vs, hvs⟩ : ∃ vs, vs = (olds ++ news).toArray ++ Builtin.zeroCells z.cells (cap - (xs.length + ys.length)) := ⟨_, rfl⟩
      rw [← hvs] at hrun
      have hok2 : ∀ x ∈ xs ++ ys, okE i.size x := fun x hx => by rcases List.mem_append.1 hx with h | h; exact hokx x h; exact hok x h
      have hrow : RowRep w β H (flat (xs ++ ys)) (olds ++ news) := by rw [flat_append]; exact hrx.append hro
      have hvec := vec_of_row (vs := vs) hok2 hrow (fun k hk => by rw [hvs, Array.getElem?_append_left (by simpa using hk)]; simp)
      have hvsz : vs.size = cap * i.size := by
        rw [hvs]
        simp only [Array.size_append, List.size_toArray, List.length_append, zeroCells_size', hzs, hsI.size, holds.size, ← Nat.add_mul]
        congr 1
        omega
      have hnew : (w.drew.alloc (.cells vs e)).heap[w.heap.size]? = some (.cells vs e (0, 0)) := by
        show (w.heap.push _)[w.heap.size]? = _
        simp
      have hfr : Fr w β H (w.drew.alloc (.cells vs e)) (upd β r (.blk w.heap.size vs.size)) (H.set r (some (.vec (bump g) i.size (xs ++ ys)))) :=
        Fr.regen (lt_bump g) hβn hH rfl rfl rfl (by simp) (fun b hb _ => RowKit.Below.heap_alloc w.drew _ b hb) (fun b N hb => by injection hb with hb _; exact .inl (by omega))
      have hrel : HRel (w.drew.alloc (.cells vs e)) (upd β r (.blk w.heap.size vs.size)) (H.set r (some (.vec (bump g) i.size (xs ++ ys)))) :=
        hs.hrel.regen (lt_bump g) hβn hH rfl rfl rfl (by simp) (fun b hb _ => RowKit.Below.heap_alloc w.drew _ b hb) (fun b N hb => by injection hb with hb _; exact .inl (by omega))
          ⟨vs, e, tyG_bump _ _, hnew, rfl, by rw [hvsz, List.length_append]; exact Nat.mul_le_mul_right _ hge, hsz, hok2, fun i x j c v hi hj hv => (hvec.2 i x j c v hi hj hv).mono hfr⟩
      refine ⟨_, _, _, _, _, m, exec o ho a w _ _ (by rw [hq, hqe]; exact hrun), .inl rfl, hs.regen hk hr hfr hrel, hfr, ?_, List.prefix_refl _⟩
      simp only [V.conv, Ref.conv, hr]
      exact .oslBlk r _ 0 _ i.size (xs ++ ys) w.heap.size vs.size _ _ (by simp [hrl]) (upd_same _ _ _) hge (by simpa using Nat.le_of_eq hvsz.symm) (by simpa using hcm) (fun _ => by simp) (by simp)
    generalize hn : xs.length = n at hv
    cases hv with
    | oslNil _ _ sz2 xs2 ad hH' hβ =>
      rw [hβ] at hob
      have hxs : xs = [] := hob
      subst hxs
      by_cases hm : ys.length = 0
      · have hys : ys = [] := List.eq_nil_of_length_eq_zero hm
        subst hys
        have hnews : news = [] := List.eq_nil_of_length_eq_zero (by simpa using hsI.size)
        subst hnews
        have hfr : Fr w β H w (upd β r .nil) (H.set r (some (.vec (bump g) i.size []))) := Fr.regen (lt_bump g) (by rw [hβ]; simp) hH rfl rfl rfl (Nat.le_refl _) (fun _ _ _ => rfl) (fun b N hb => by cases hb)
        have hrel : HRel w (upd β r .nil) (H.set r (some (.vec (bump g) i.size []))) := hs.hrel.regen (lt_bump g) (by rw [hβ]; simp) hH rfl rfl rfl (Nat.le_refl _) (fun _ _ _ => rfl) (fun b N hb => by cases hb) rfl
        refine ⟨_, _, w, _, _, m, exec o ho a w w _ (by rw [hq]; exact run_append_none ht ht' hI o.type hsI (Nat.zero_le _)), .inl rfl, hs.regen hk hr hfr hrel, hfr, ?_, List.prefix_refl _⟩
        simp only [V.conv, Ref.conv, hr]
        exact .oslNil r _ i.size [] _ (by simp [hrl]) (upd_same _ _ _)
      · exact grow ad 0 [] (by rw [hβ]; simp) rfl (by simp) ⟨rfl, fun k c u hc _ => by simp [flat] at hc⟩ (SrcIs.of_cells (by simp) (fun hne => absurd rfl hne)) (by simp; omega)
    | oslBlk _ _ _ _ sz2 xs2 b N ad cap hH' hβ hl hN hcap ha hlen =>
      obtain ⟨rfl, rfl⟩ := hvec2 _ _ hH'
      rw [hβ] at hob
      obtain ⟨vs, et, _, h1, h2, h3, h4, h5, h6⟩ := hob
      have hrx : RowRep w β H (flat xs2) (vs.toList.take (xs2.length * i.size)) := by
        refine ⟨by rw [flat_length xs2 h5]; simp; omega, fun k c u hc hu => ?_⟩
        obtain ⟨p, y, j, e1, k1, k2⟩ := flat_at hsz xs2 h5 k c hc
        have hkl := lt_of_get hu
        rw [List.getElem?_take] at hu
        split at hu
        · subst e1
          exact h6 p y j c u k1 k2 (by simpa using hu)
        · cases hu
      have holds : SrcIs c.P w i.size (.slice ad n cap) n (vs.toList.take (xs2.length * i.size)) := by
        refine SrcIs.of_cells (by rw [← hn]; simp; omega) (fun hne => ?_)
        have hn0 : 0 < n := by
          rcases Nat.eq_zero_or_pos n with h0 | h0
          · rw [hn, h0] at hne; simp at hne
          · exact h0
        have := ha (by omega)
        subst this
        refine ⟨_, rfl, fun j v hj => ?_⟩
        rw [List.getElem?_take] at hj
        split at hj
        · rw [Nat.zero_mul, at_add, cell_of_row w b j vs et (0, 0) h1]
          simpa using hj
        · cases hj
      by_cases hfit : n + ys.length ≤ cap
      · by_cases hm : ys.length = 0
        · have hys : ys = [] := List.eq_nil_of_length_eq_zero hm
          subst hys
          have hnews : news = [] := List.eq_nil_of_length_eq_zero (by simpa using hsI.size)
          subst hnews
          have hfr : Fr w β H w (upd β r (.blk b N)) (H.set r (some (.vec (bump g) i.size (xs2 ++ [])))) := Fr.regen (lt_bump g) (by rw [hβ]; simp) hH rfl rfl rfl (Nat.le_refl _) (fun _ _ _ => rfl) (fun b' N' hb' => by injection hb' with e1 e2; subst e1; exact .inr ⟨N, hβ⟩)
          have hrel : HRel w (upd β r (.blk b N)) (H.set r (some (.vec (bump g) i.size (xs2 ++ [])))) :=
            hs.hrel.regen (lt_bump g) (by rw [hβ]; simp) hH rfl rfl rfl (Nat.le_refl _) (fun _ _ _ => rfl) (fun b' N' hb' => by injection hb' with e1 e2; subst e1; exact .inr ⟨N, hβ⟩)
              (by rw [List.append_nil]; exact ⟨vs, et, tyG_bump _ _, h1, h2, h3, h4, h5, fun p x j c v hi hj hv => (h6 p x j c v hi hj hv).mono (by rw [List.append_nil] at hfr; exact hfr)⟩)
          refine ⟨_, _, w, _, _, m, exec o ho a w w _ (by rw [hq]; exact run_append_none ht ht' hI o.type hsI (by omega)), .inl rfl, hs.regen hk hr hfr hrel, hfr, ?_, List.prefix_refl _⟩
          simp only [V.conv, Ref.conv, hr]
          exact .oslBlk r _ 0 _ i.size (xs2 ++ []) b N _ _ (by simp [hrl]) (upd_same _ _ _) (by simp; omega) hN hcap ha (by simp; omega)
        · have hc0 : 0 < cap := by omega
          have := ha hc0
          subst this
          rw [Nat.zero_mul] at hq
          have hfitN : n * i.size + news.length ≤ vs.size := by
            rw [hsI.size, ← Nat.add_mul, h2]
            rw [Nat.zero_add] at hN
            exact Nat.le_trans (Nat.mul_le_mul_right _ hfit) hN
          have hones : ∀ u ∈ news, u.oneCell' = true := hro.ones (flat_ones ys hok)
          have hrun := run_append_fit (P := c.P) (w := w) ht ht' hI o.type h1 hsI hones hfit hfitN
          obtain ⟨vs', hvs'⟩ : ∃ vs', vs' = (vs.toList.take (n * i.size) ++ news ++ vs.toList.drop (n * i.size + news.length)).toArray := ⟨_, rfl⟩
          rw [← hvs'] at hrun
          have hheap : (w.setRow b vs').heap[b]? = some (.cells vs' et (0, 0)) := setRow_heap w b vs _ et _ h1
          have hvsz : vs'.size = vs.size := by rw [hvs']; simp; omega
          have hkeep : ∀ b', b' < w.heap.size → (∀ N', β r ≠ .blk b' N') → (w.setRow b vs').heap[b']? = w.heap[b']? := fun b' _ hne => setRow_other w b b' _ (fun e => hne N (by rw [e]; exact hβ))
          have hl' : ∀ b' N', Loc.blk b N = Loc.blk b' N' → w.heap.size ≤ b' ∨ ∃ N2, β r = .blk b' N2 := fun b' N' hb' => by injection hb' with e1 e2; subst e1; exact .inr ⟨N, hβ⟩
          have hfr : Fr w β H (w.setRow b vs') (upd β r (.blk b N)) (H.set r (some (.vec (bump g) i.size (xs2 ++ ys)))) := Fr.regen (lt_bump g) (by rw [hβ]; simp) hH rfl rfl rfl (by simp) hkeep hl'
          have hok2 : ∀ x ∈ xs2 ++ ys, okE i.size x := fun x hx => by rcases List.mem_append.1 hx with h | h; exact h5 x h; exact hok x h
          have hrow : RowRep w β H (flat (xs2 ++ ys)) (vs.toList.take (n * i.size) ++ news) := by rw [flat_append, ← hn]; exact hrx.append hro
          have hvec := vec_of_row (vs := vs') hok2 hrow (fun k hk => by
            rw [hvs', List.getElem?_toArray, List.getElem?_append_left hk])
          have hrel : HRel (w.setRow b vs') (upd β r (.blk b N)) (H.set r (some (.vec (bump g) i.size (xs2 ++ ys)))) :=
            hs.hrel.regen (lt_bump g) (by rw [hβ]; simp) hH rfl rfl rfl (by simp) hkeep hl'
              ⟨vs', et, tyG_bump _ _, hheap, by omega, by rw [List.length_append, hn]; rw [Nat.zero_add] at hN; exact Nat.le_trans (Nat.mul_le_mul_right _ hfit) hN, hsz, hok2, fun p x j c v hi hj hv => (hvec.2 p x j c v hi hj hv).mono hfr⟩
          refine ⟨_, _, _, _, _, m, exec o ho a w _ _ (by rw [hq]; exact hrun), .inl rfl, hs.regen hk hr hfr hrel, hfr, ?_, List.prefix_refl _⟩
          simp only [V.conv, Ref.conv, hr]
          exact .oslBlk r _ 0 _ i.size (xs2 ++ ys) b N _ _ (by simp [hrl]) (upd_same _ _ _) hfit hN hcap (fun _ => by rw [Nat.zero_mul]) (by simp; omega)
      · subst hn
        exact grow ad cap _ (by rw [hβ]; simp) rfl h5 hrx holds (by omega)
    | oslStale _ _ _ _ g' sz' xs' _ hH' hg =>
      rw [hH] at hH'
      injection hH' with hH'
      injection hH' with hH'
      injection hH' with e0 _ _
      omega
    | oslDead _ _ _ _ _ hd => rw [hH] at hd; cases hd
  · exact .inl h
end Bow
/- AE13: literals: structs, slices; own slices frozen. -/
namespace Bow
open Go

variable {c : Cx} {E : Env} {T : Heap} {F : Prop} {K : V → Heap → Prop}

theorem okEs_iff {sz : Nat} : ∀ {xs : List V}, okEs sz xs → ∀ x ∈ xs, okE sz x
  | [], _, x, hx => by cases hx
  | y :: ys, h, x, hx => by
    rcases List.mem_cons.1 hx with rfl | hx
    · have h1 := h.1
      rw [lcount_eq] at h1
      simp only [Bool.and_eq_true, Nat.add_zero] at h1
      exact ⟨Nat.eq_of_beq_eq_true h1.1, h1.2⟩
    · exact okEs_iff h.2 x hx

/-- These values, read from the state with the objects T, read as those in the state with the objects T'. -/
def FrzTo (T : Heap) (vs : List V) (T' : Heap) (vs' : List V) : Prop :=
  vs'.length = vs.length ∧ ∀ (imps : List Nat) (nt : Nat) (w : World) (β : Nat → Loc) (H : Heap) (m : List Nat) (E : Env) (B : Base) (D : List Nat) (a : Act), SRel imps nt w β H m ⟨E, T, B, D⟩ a →
    ∃ H', SRel imps nt w β H' m ⟨E, T', B, D⟩ a ∧ Fr w β H w β H' ∧ ∀ (k : Nat) (x x' : V) (u : Value), vs[k]? = some x → vs'[k]? = some x' → Rep w β H (x.conv m) u → Rep w β H' x' u

theorem FrzTo.nil (T : Heap) : FrzTo T [] T [] := ⟨rfl, fun _ _ w β H _ _ _ _ _ hs => ⟨H, hs, Fr.refl _ _ _, fun k x x' u h => by simp at h⟩⟩

theorem FrzTo.cons {T T' T'' : Heap} {v v' : V} {vs vs' : List V} (h : FrzTo T [v] T' [v']) (k : FrzTo T' vs T'' vs') : FrzTo T (v :: vs) T'' (v' :: vs') := by
  refine ⟨by simp [k.1], fun imps nt w β H m E B D a hs => ?_⟩
  obtain ⟨H', h1, h2, h3⟩ := h.2 imps nt w β H m E B D a hs
  obtain ⟨H'', k1, k2, k3⟩ := k.2 imps nt w β H' m E B D a h1
  refine ⟨H'', k1, h2.trans k2, fun n x x' u hx hx' hr => ?_⟩
  cases n with
  | zero => exact (h3 0 x x' u hx hx' hr).mono k2
  | succ n => exact k3 n x x' u hx hx' (hr.mono h2)

theorem frz1_sound {v : V} (h : frz1 v T F K) : F ∨ ∃ v' T', K v' T' ∧ FrzTo T [v] T' [v'] := by
  have plain : (bif v.pureB then K v T else F) → F ∨ ∃ v' T', K v' T' ∧ FrzTo T [v] T' [v'] := by
    intro h
    cases hp : v.pureB with
    | false => rw [hp] at h; exact .inl h
    | true =>
      rw [hp] at h
      refine .inr ⟨v, T, h, rfl, fun imps nt w β H m E B D a hs => ⟨H, hs, Fr.refl _ _ _, fun k x x' u hx hx' hr => ?_⟩⟩
      cases k with
      | zero =>
        simp only [List.getElem?_cons_zero, Option.some.injEq] at hx hx'
        subst hx hx'
        rwa [pure_conv m v hp] at hr
      | succ k => simp at hx
  unfold frz1 at h
  split at h
  · rename_i k g l
    rw [lget_eq] at h
    split at h
    · rename_i g' sz xs hk
      obtain ⟨rfl, rfl, h⟩ := h
      rw [lset_eq] at h
      refine .inr ⟨_, _, h, rfl, fun imps nt w β H m E B D a hs => ?_⟩
      obtain ⟨r, hr, hH⟩ := hs.at hk
      have hset := hs.set (o' := none) (w' := w) hr (fun o h => by cases h) (fun o h1 h2 => by rw [hk] at h1; injection h1 with h1; injection h1 with h1; subst h1; cases h2) (Fr.kill r) (hs.hrel.kill r)
      refine ⟨_, hset, Fr.kill r, fun n x x' u hx hx' hrep => ?_⟩
      cases n with
      | succ n => simp at hx
      | zero =>
      simp only [List.getElem?_cons_zero, Option.some.injEq] at hx hx'
      subst hx hx'
      simp only [V.conv, Ref.conv, hr] at hrep
      simp only [HObj.conv] at hH
      have hob := hs.hrel.obj r _ hH
      have hvec : ∀ sz2 xs2, H[r]? = some (some (.vec g sz2 xs2)) → sz2 = sz ∧ xs2 = xs := fun sz2 xs2 h2 => by
        rw [hH] at h2
        injection h2 with h2
        injection h2 with h2
        injection h2 with _ e1 e2
        exact ⟨e1.symm, e2.symm⟩
      generalize hn : xs.length = n at hrep
      cases hrep with
      | oslNil _ _ sz2 xs2 ad hH' hβ =>
        rw [hβ] at hob
        have : xs = [] := hob
        subst this
        exact .sl sz [] ad 0 (fun _ => Go.undef) (Nat.le_refl _) (Nat.zero_le _) (by simp) (fun hne => absurd rfl hne) (fun i x j c hi => by simp at hi)
      | oslBlk _ _ _ _ sz2 xs2 b N ad cap hH' hβ hl hN hcap ha hlen =>
        obtain ⟨rfl, rfl⟩ := hvec _ _ hH'
        rw [hβ] at hob
        obtain ⟨vs, e, h0, h1, h2, h3, h4, h5, h6⟩ := hob
        subst hn
        refine .sl sz2 xs2 ad cap (fun j => vs.getD j Go.undef) hl (by omega) h5 (fun hne => ?_) (fun i x j c hi hj => ?_)
        · have h0 : 0 < xs2.length := List.length_pos_iff.2 hne
          have := ha (by omega)
          subst this
          refine ⟨_, rfl, ?_, (Array.getElem?_eq_some_iff.1 h1).1, fun j hj => ?_⟩
          · exact hs.hrel.free hH hβ _
          · have hjv : j < vs.size := by omega
            rw [Nat.zero_mul, at_add, cell_of_row w b j vs e (0, 0) h1]
            simp [hjv]
        · have hlt : i * sz2 + j < vs.size := by
            have e1 := lt_of_get hi
            have e2 := lt_of_get hj
            have e3 := (h5 x (List.mem_of_getElem? hi)).1
            have : (i + 1) * sz2 ≤ xs2.length * sz2 := Nat.mul_le_mul_right _ e1
            rw [Nat.add_mul] at this
            omega
          exact (h6 i x j c (vs.getD (i * sz2 + j) Go.undef) hi hj (by simp [hlt])).mono (Fr.kill r)
      | oslStale _ _ _ _ g' sz' xs' _ hH' hg =>
        rw [hH] at hH'
        injection hH' with hH'
        injection hH' with hH'
        injection hH' with e0 _ _
        omega
      | oslDead _ _ _ _ _ hd => rw [hH] at hd; cases hd
    · exact .inl h
  · exact plain h

theorem frzL_sound : ∀ (vs : List V) (T : Heap) (K : List V → Heap → Prop), frzL vs T F K → F ∨ ∃ vs' T', K vs' T' ∧ FrzTo T vs T' vs'
  | [], T, K, h => .inr ⟨[], T, h, FrzTo.nil T⟩
  | v :: vs, T, K, h => by
    rw [frzL, fv_eq] at h
    rcases frz1_sound h with h | ⟨v', T', h, h1⟩
    · exact .inl h
    · rcases frzL_sound vs T' _ h with h | ⟨vs', T'', h, h2⟩
      · exact .inl h
      · exact .inr ⟨_, _, h, h1.cons h2⟩

theorem FrzTo.agg {T T' : Heap} {vs vs' : List V} (h : FrzTo T vs T' vs') : FrzTo T [.agg vs] T' [.agg vs'] := by
  refine ⟨rfl, fun imps nt w β H m E B D a hs => ?_⟩
  obtain ⟨H', h1, h2, h3⟩ := h.2 imps nt w β H m E B D a hs
  refine ⟨H', h1, h2, fun n x x' u hx hx' hr => ?_⟩
  cases n with
  | succ n => simp at hx
  | zero =>
    simp only [List.getElem?_cons_zero, Option.some.injEq] at hx hx'
    subst hx hx'
    simp only [V.conv] at hr
    cases hr with
    | agg _ us hl hc =>
      have hll : vs.length = us.size := by rw [V.convL_eq] at hl; simpa using hl
      refine .agg _ us (by rw [h.1]; exact hll) fun j c' u hj hu => ?_
      have hjl : j < vs.length := by have := lt_of_get hj; rw [h.1] at this; exact this
      exact h3 j vs[j] c' u (List.getElem?_eq_getElem hjl) hj (hc j _ u (by rw [V.convL_eq]; simp [hjl]) hu)
theorem FrzTo.tup {T T' : Heap} {vs vs' : List V} (h : FrzTo T vs T' vs') : FrzTo T [.tup vs] T' [.tup vs'] := by
  refine ⟨rfl, fun imps nt w β H m E B D a hs => ?_⟩
  obtain ⟨H', h1, h2, h3⟩ := h.2 imps nt w β H m E B D a hs
  refine ⟨H', h1, h2, fun n x x' u hx hx' hr => ?_⟩
  cases n with
  | succ n => simp at hx
  | zero =>
    simp only [List.getElem?_cons_zero, Option.some.injEq] at hx hx'
    subst hx hx'
    simp only [V.conv] at hr
    cases hr with
    | tup _ us hl hc =>
      have hll : vs.length = us.size := by rw [V.convL_eq] at hl; simpa using hl
      refine .tup _ us (by rw [h.1]; exact hll) fun j c' u hj hu => ?_
      have hjl : j < vs.length := by have := lt_of_get hj; rw [h.1] at this; exact this
      exact h3 j vs[j] c' u (List.getElem?_eq_getElem hjl) hj (hc j _ u (by rw [V.convL_eq]; simp [hjl]) hu)

theorem frz_sound {v : V} {T : Heap} {K : V → Heap → Prop} (h : frz v T F K) : F ∨ ∃ v' T', K v' T' ∧ FrzTo T [v] T' [v'] := by
  unfold frz at h
  split at h
  · rcases frzL_sound _ _ _ h with h | ⟨vs', T', h, h1⟩
    · exact .inl h
    · exact .inr ⟨_, _, h, h1.agg⟩
  · rcases frzL_sound _ _ _ h with h | ⟨vs', T', h, h1⟩
    · exact .inl h
    · exact .inr ⟨_, _, h, h1.tup⟩
  · exact frz1_sound h

theorem frzAll_sound : ∀ (vs : List V) (T : Heap) (K : List V → Heap → Prop), frzAll vs T F K → F ∨ ∃ vs' T', K vs' T' ∧ FrzTo T vs T' vs'
  | [], T, K, h => .inr ⟨[], T, h, FrzTo.nil T⟩
  | v :: vs, T, K, h => by
    rw [frzAll, fv_eq] at h
    rcases frz_sound h with h | ⟨v', T', h, h1⟩
    · exact .inl h
    · rcases frzAll_sound vs T' _ h with h | ⟨vs', T'', h, h2⟩
      · exact .inl h
      · exact .inr ⟨_, _, h, h1.cons h2⟩

theorem elems_sound : ∀ (ps : List (Nat × Operand)) (n : Nat) (K : List V → Prop), elems E ps n K F → F ∨ (K (ps.map fun p => opd E p.2) ∧ ∀ f : Operand → Value, (ps.map fun p => (p.1, f p.2)) = ((ps.map fun p => f p.2).zipIdx n).map fun x => (x.2, x.1))
  | [], n, K, h => .inr ⟨h, fun f => rfl⟩
  | (i, x) :: ps, n, K, h => by
    rw [elems] at h
    cases hb : Nat.beq i n with
    | false => rw [hb] at h; exact .inl h
    | true =>
      rw [hb] at h
      obtain rfl := Nat.eq_of_beq_eq_true hb
      simp only [cond_true, fv_eq] at h
      rcases elems_sound ps (i + 1) _ h with h | ⟨h, h1⟩
      · exact .inl h
      · refine .inr ⟨h, fun f => ?_⟩
        simp only [List.map_cons, List.zipIdx_cons]
        rw [h1 f]

/-- A slice literal's run: its cells, of elements that are frozen. -/
theorem buildSlice_core {t e : TypeId} {len : Nat} {ps : Array (Nat × Operand)} {i : TypeInfo} {z : Value} {vs' : List V} {T' : Heap} (ht : tyU c.P t = some (.slice e)) (hi : tyI c.P e = some i) (hz : i.zero = some z)
    (hlen : ps.toList.length = len) (hsm : len * i.size ≤ 16777216) (hsz : 0 < i.size)
    (hparts : ∀ f : Operand → Value, (ps.toList.map fun p => (p.1, f p.2)) = ((ps.toList.map fun p => f p.2).zipIdx 0).map fun x => (x.2, x.1))
    (hfz : FrzTo T (ps.toList.map fun p => opd E p.2) T' vs') (hok : ∀ x ∈ vs', okE i.size x) {o : Oper} (hop : o.op = .buildSlice t len ps) {w : World} {β : Nat → Loc} {H : Heap} {m : List Nat} {a : Act} (hs : SRel c.imps c.nt w β H m ⟨E, T, c.B, c.D⟩ a) :
    ∃ (H' : Heap) (cells : Array Value), SRel c.imps c.nt w β H' m ⟨E, T', c.B, c.D⟩ a ∧ Fr w β H w β H' ∧ (execOp a.eval o).run c.P w = .ok (.value (.slice (some ⟨w.heap.size, 0, none⟩) len len)) (w.alloc (.cells cells e)) ∧
      len = vs'.length ∧ len ≤ maxLen ∧ len * i.size = cells.size ∧ (∀ (p : Nat) (x : V) (j : Nat) (cc : V) (v : Value), vs'[p]? = some x → x.cells[j]? = some cc → cells[p * i.size + j]? = some v → Rep w β H' cc v) := by
  obtain ⟨H', h1, h2, h3⟩ := hfz.2 _ _ _ _ _ _ _ _ _ _ hs
  have hI := tyI_sound hi
  have hU := tyU_sound ht
  have hvl : vs'.length = len := by rw [hfz.1, List.length_map]; exact hlen
  -- the values
  have hus : ∀ (k : Nat) (x' : V) (u : Value), vs'[k]? = some x' → (ps.toList.map fun p => a.eval p.2)[k]? = some u → Rep w β H' x' u := by
    intro k x' u hx hu
    have hk : k < ps.toList.length := by have := lt_of_get hu; simpa using this
    simp only [List.getElem?_map, List.getElem?_eq_getElem hk, Option.map_some, Option.some.injEq] at hu
    subst hu
    exact h3 k (opd E ps.toList[k].2) x' _ (by simp only [List.getElem?_map, List.getElem?_eq_getElem hk, Option.map_some]) hx (opd_rep hs _)
  have hcell : ∀ u ∈ (ps.toList.map fun p => a.eval p.2), u.cells.size = i.size := by
    intro u hu
    obtain ⟨k, hk, rfl⟩ := List.mem_iff_getElem.1 hu
    have hkv : k < vs'.length := by simp only [List.length_map] at hk; omega
    have hx := hok _ (List.getElem_mem hkv)
    obtain ⟨e1, _, _⟩ := rep_cells (hus k vs'[k] _ (List.getElem?_eq_getElem hkv) (List.getElem?_eq_getElem hk)) hx.2
    rw [← e1]
    exact hx.1
  obtain ⟨cells, hf, hcs, hck⟩ := Great.fill_dense hsz (ps.toList.map fun p => a.eval p.2) 0 ((Array.range (len * i.size)).map (z.cells[· % z.cells.size]!)) hcell (by simp [hlen])
  simp only [Nat.zero_mul, Nat.zero_le, true_and, Nat.zero_add, List.length_map, Nat.sub_zero] at hck
  rw [hlen] at hck
  have hrun : (Instr.buildSlice t len (ps.map fun (i, x) => (i, a.eval x))).run c.P w = .ok (.slice (some ⟨w.heap.size, 0, none⟩) len len) (w.alloc (.cells cells e)) := by
    have hpl : (ps.map fun (i, x) => (i, a.eval x)).toList = ((ps.toList.map fun p => a.eval p.2).zipIdx 0).map fun x => (x.2, x.1) := by
      rw [Array.toList_map]
      exact hparts a.eval
    rcases Nat.eq_zero_or_pos (len * i.size) with h0 | h0
    · have hl0 : len = 0 := by
        rcases Nat.mul_eq_zero.1 h0 with h | h
        · exact h
        · omega
      subst hl0
      have hps : ps.toList = [] := List.length_eq_zero_iff.1 hlen
      rw [hps] at hf hpl
      simp only [List.map_nil, List.zipIdx_nil] at hf hpl
      have he : cells = #[] := by
        have := hcs
        simp at this
        exact this
      subst he
      have hpa : (ps.map fun (i, x) => (i, a.eval x)) = #[] := by simpa using hpl
      simp only [hpa]
      simp [Instr.buildSlice, run_underlying hU, run_sizeOf' hI, newRow, Instr.fill]
      congr 2
      exact Array.eq_empty_of_size_eq_zero (by simp)
    · exact run_buildSlice w t e len _ cells i z hU hI hz (by omega) (by omega) (by rw [hpl]; exact hf)
  have hrun' : (execOp a.eval o).run c.P w = .ok (.value (.slice (some ⟨w.heap.size, 0, none⟩) len len)) (w.alloc (.cells cells e)) := by
    simp only [execOp, hop, Sem.run_bind, hrun, Result.andThen_ok]
    rfl
  have hcsz : cells.size = len * i.size := by rw [hcs]; simp
  refine ⟨H', cells, h1, h2, hrun', hvl.symm, ?_, hcsz.symm, fun p x j cc v hp hj hv => ?_⟩
  · unfold maxLen
    have : len * 1 ≤ len * i.size := Nat.mul_le_mul_left _ hsz
    omega
  · have hx := hok x (List.mem_of_getElem? hp)
    have hjl := lt_of_get hj
    rw [hx.1] at hjl
    have hpl := lt_of_get hp
    have hlt : p * i.size + j < len * i.size := by
      have : (p + 1) * i.size ≤ len * i.size := Nat.mul_le_mul_right _ (by omega)
      rw [Nat.add_mul] at this
      omega
    have hd : (p * i.size + j) / i.size = p := Nat.div_eq_of_lt_le (by omega) (by rw [Nat.add_mul]; omega)
    have hm : (p * i.size + j) % i.size = j := by rw [Nat.mul_comm, Nat.mul_add_mod]; exact Nat.mod_eq_of_lt hjl
    have := hck (p * i.size + j)
    rw [if_pos hlt, hd, hm, hv] at this
    have hpk : p < (ps.toList.map fun q => a.eval q.2).length := by simp; rw [← Array.length_toList]; omega
    rw [List.getElem?_eq_getElem hpk] at this
    simp only [Option.bind_some] at this
    obtain ⟨_, e2, _⟩ := rep_cells (hus p x _ hp (List.getElem?_eq_getElem hpk)) hx.2
    exact e2 j cc v hj this.symm

theorem ev_buildSlice {t : TypeId} {len : Nat} {ps : Array (Nat × Operand)} (h : evOp c (.buildSlice t len ps) E T F K) : F ∨ ∃ u T', K u T' ∧ OpTo c (.buildSlice t len ps) E T u T' := by
  simp only [evOp] at h
  split at h
  case h_2 => exact .inl h
  rename_i e ht
  split at h
  case h_2 => exact .inl h
  rename_i i hi
  split at h
  case h_2 => exact .inl h
  rename_i z hz
  cases hb : (Nat.beq (lcount ps.toList 0) len && Nat.ble (len * i.size) 16777216 && Nat.ble 1 i.size) with
  | false => rw [hb] at h; exact .inl h
  | true =>
  rw [hb] at h
  simp only [Bool.and_eq_true] at hb
  obtain ⟨⟨hb1, hb2⟩, hb3⟩ := hb
  have hlen := Nat.eq_of_beq_eq_true hb1
  have hsm := Nat.le_of_ble_eq_true hb2
  have hsz : 0 < i.size := Nat.le_of_ble_eq_true hb3
  rw [lcount_eq, Nat.add_zero] at hlen
  rcases elems_sound _ _ _ h with h | ⟨h, hparts⟩
  · exact .inl h
  rcases frzAll_sound _ _ _ h with h | ⟨vs', T', h, hfz⟩
  · exact .inl h
  obtain ⟨hok, h⟩ := h
  have hok := okEs_iff hok
  rw [lnum_eq, lsnoc_eq] at h
  refine .inr ⟨_, _, h, fun o hop w β H m a hs => ?_⟩
  obtain ⟨H', cells, h1, h2, hrun, c1, c2, c3, c4⟩ := buildSlice_core ht hi hz hlen hsm hsz hparts hfz hok hop hs
  obtain ⟨β', H'', k1, k2, k3⟩ := h1.newVec 0 i.size vs' cells e len len (tyG_zero _) hsz hok c1 (Nat.le_refl _) c2 c3 c4
  exact ⟨_, _, _, β', H'', _, hrun, .inl rfl, k1, h2.trans k2, k3, List.prefix_append _ _⟩

/-! ### Struct literals -/
theorem places_sound {P : Program} : ∀ (fs : List Field) (pl : List (Nat × Nat)), places P fs = some pl → fs.mapM (fun f => (P.info? f.type).map fun i => (f.offset, i.size)) = some pl
  | [], pl, h => by
    rw [places] at h
    simpa using h
  | f :: fs, pl, h => by
    rw [places] at h
    split at h
    · rename_i i ps hi hps
      injection h with h
      subst h
      simp [places_sound fs ps hps, tyI_sound hi]
    · cases h

theorem buildK_sound {pl : List (Nat × Nat)} : ∀ (ps : List (Nat × Operand)) (cs : List V) (K : List V → Prop), buildK pl E ps cs F K → F ∨ ∃ cs', K cs' ∧
    ∀ (imps : List Nat) (nt : Nat) (w : World) (β : Nat → Loc) (H : Heap) (m : List Nat) (T : Heap) (B : Base) (D : List Nat) (a : Act), SRel imps nt w β H m ⟨E, T, B, D⟩ a →
      ∀ vals : Array Value, RowRep w β H (V.convL m cs) vals.toList → ∃ vals', Instr.fill (pl.toArray[·]?) vals (ps.map fun p => (p.1, a.eval p.2)) = some vals' ∧ RowRep w β H (V.convL m cs') vals'.toList
  | [], cs, K, h => .inr ⟨cs, h, fun _ _ _ _ _ _ _ _ _ _ _ vals hv => ⟨vals, rfl, hv⟩⟩
  | (i, x) :: ps, cs, K, h => by
    rw [buildK] at h
    rw [lget_eq] at h
    split at h
    case h_2 => exact .inl h
    rename_i off sz hpl
    rw [fv_eq, lcount_eq] at h
    cases hb : (Nat.beq ((opd E x).cells.length + 0) sz && onesB (opd E x).cells) with
    | false => rw [hb] at h; exact .inl h
    | true =>
    rw [hb] at h
    simp only [Bool.and_eq_true, Nat.add_zero] at hb
    obtain ⟨hb1, hb2⟩ := hb
    obtain rfl := Nat.eq_of_beq_eq_true hb1
    rcases lover_sound _ _ _ _ h with h | ⟨cs', ho, h⟩
    · exact .inl h
    rcases buildK_sound ps cs' K h with h | ⟨cs'', h, hk⟩
    · exact .inl h
    refine .inr ⟨cs'', h, fun imps nt w β H m T B D a hs vals hv => ?_⟩
    have hx : Rep w β H ((opd E x).conv m) (a.eval x) := opd_rep hs x
    obtain ⟨hxl, hxc, _⟩ := rep_cells hx (by rw [cells_conv, onesB_conv]; exact hb2)
    rw [cells_conv] at hxl hxc
    have hxl' : (opd E x).cells.length = (a.eval x).cells.size := by rw [V.convL_eq] at hxl; simpa using hxl
    have hcl : cs.length = vals.size := by have := hv.1; rw [V.convL_eq] at this; simpa using this
    obtain ⟨g1, g2⟩ := Great.foldl_set off (a.eval x).cells.toList 0 vals
    have ho' := over_conv (m := m) ho
    obtain ⟨v1, hv1⟩ : ∃ v1, v1 = ((a.eval x).cells.toList.zipIdx 0).foldl (fun cs (x : Value × Nat) => cs.setIfInBounds (off + x.2) x.1) vals := ⟨_, rfl⟩
    rw [← hv1] at g1 g2
    have hfit := ho.1
    obtain ⟨vals', h1, h2⟩ := hk imps nt w β H m T B D a hs v1 ⟨by rw [ho'.2.1, V.convL_eq]; simp only [List.length_map, Array.length_toList]; rw [g1]; exact hcl, fun k z u hz hu => by
      rw [Array.getElem?_toList, g2 k] at hu
      simp only [Nat.add_zero, Array.length_toList] at hu
      rw [ho'.2.2 k] at hz
      have hll : (V.convL m (opd E x).cells).length = (opd E x).cells.length := by rw [V.convL_eq]; simp
      rw [hll] at hz
      split at hz
      · rename_i hj
        rw [if_pos (by omega)] at hu
        exact hxc _ z u hz (by simpa using hu)
      · rename_i hj
        rw [if_neg (by omega)] at hu
        exact hv.2 k z u hz (by simpa using hu)⟩
    refine ⟨vals', ?_, h2⟩
    simp only [List.map_cons]
    unfold Instr.fill
    simp only [List.getElem?_toArray, hpl]
    rw [if_neg (by simp; omega), ← h1, hv1]
    have hf : (fun (x : Nat) => pl[x]?) = fun (x : Nat) => pl.toArray[x]? := by funext y; simp
    rw [hf, ← Array.foldl_toList, Array.toList_zipIdx]

theorem ofVal1_cells (v : Value) : (ofVal1 v).cells = [ofVal1 v] := by
  unfold ofVal1
  split <;> first | rfl | (cases Nat.ble _ 1000000 <;> rfl)
theorem ofVal_row {w : World} {β : Nat → Loc} {H : Heap} (m : List Nat) (v : Value) : RowRep w β H (V.convL m (ofVal v).cells) v.cells.toList := by
  have hr : Rep w β H ((ofVal v).conv m) v := ofVal_rep v
  by_cases hv : ∃ vs, v = .agg vs
  · obtain ⟨vs, rfl⟩ := hv
    simp only [ofVal, V.conv] at hr
    cases hr with
    | agg _ _ hl hc => exact ⟨hl, fun k c u h1 h2 => hc k c u h1 (by simpa [Value.cells] using h2)⟩
  · have e1 : ofVal v = ofVal1 v := by
      cases v <;> first | rfl | exact absurd ⟨_, rfl⟩ hv
    have e2 : v.cells = #[v] := by
      cases v <;> first | rfl | exact absurd ⟨_, rfl⟩ hv
    rw [e1] at hr ⊢
    rw [ofVal1_cells, e2]
    refine ⟨rfl, fun k c u h1 h2 => ?_⟩
    cases k with
    | zero => simp [V.convL] at h1 h2; subst h1 h2; exact hr
    | succ k => simp [V.convL] at h1

theorem arrPl_get (sz : Nat) : ∀ (n i j : Nat) (p : Nat × Nat), (arrPl sz n i)[j]? = some p → p = ((i + j) * sz, sz)
  | 0, i, j, p, h => by simp [arrPl] at h
  | n + 1, i, j, p, h => by
    cases j with
    | zero => simp [arrPl] at h; rw [← h]; rfl
    | succ j =>
      have := arrPl_get sz n (i + 1) j p (by simpa [arrPl] using h)
      rw [this, show i + 1 + j = i + (j + 1) by omega]
theorem fill_mono {f g : Nat → Option (Nat × Nat)} (hfg : ∀ i v, f i = some v → g i = some v) : ∀ (parts : List (Nat × Value)) (cells r : Array Value), Instr.fill f cells parts = some r → Instr.fill g cells parts = some r
  | [], cells, r, h => h
  | (i, v) :: rest, cells, r, h => by
    rw [Instr.fill] at h ⊢
    cases hf : f i with
    | none => rw [hf] at h; cases h
    | some p =>
      rw [hf] at h
      rw [hfg i p hf]
      obtain ⟨off, size⟩ := p
      simp only at h ⊢
      split at h
      · cases h
      · rename_i hc
        rw [if_neg hc]
        exact fill_mono hfg rest _ r h

theorem ev_build {t : TypeId} {ps : Array (Nat × Operand)} (h : evOp c (.build t ps) E T F K) : F ∨ ∃ u T', K u T' ∧ OpTo c (.build t ps) E T u T' := by
  have fin : ∀ (pl : List (Nat × Nat)) (z : V) (v : Value) (it : TypeInfo), c.P.info? t = some it → it.zero = some v → z = ofVal v → (∀ parts : List (Nat × Value), ∀ vals', Instr.fill (pl.toArray[·]?) v.cells parts = some vals' → c.P.built t parts = some vals') →
      buildK pl E ps.toList z.cells F (fun cs => K (.agg cs) T) → F ∨ ∃ u T', K u T' ∧ OpTo c (.build t ps) E T u T' := by
    intro pl z v it hit hzv hz hbt h
    subst hz
    rcases buildK_sound _ _ _ h with h | ⟨cs, h, hk⟩
    · exact .inl h
    refine .inr ⟨_, _, h, OpTo.still fun o hop w β H m a hs => ?_⟩
    have hzr : RowRep w β H (V.convL m (ofVal v).cells) v.cells.toList := ofVal_row m v
    obtain ⟨vals', h1, h2⟩ := hk _ _ _ _ _ _ _ _ _ _ hs v.cells hzr
    have hb : c.P.built t (ps.map fun (i, x) => (i, a.eval x)).toList = some vals' := by
      refine hbt _ _ ?_
      simp only [Array.toList_map]
      exact h1
    refine ⟨.agg vals', ?_, ?_⟩
    · simp only [execOp, hop, Sem.run_bind, run_build w t _ _ hb, Result.andThen_ok]
      rfl
    · simp only [V.conv]
      exact .agg _ _ (by simpa using h2.1) fun j c u e1 e2 => h2.2 j c u e1 (by simpa using e2)
  simp only [evOp] at h
  split at h
  · rename_i fs z ht hz
    split at h
    · rename_i pl hpl
      obtain ⟨it, v, hit, hzv, hze⟩ := zeroOf_sound hz
      refine fin pl z v it hit hzv hze (fun parts vals' hf => ?_) h
      unfold Program.built
      simp only [hit, tyU_sound ht, hzv, places_sound _ _ hpl]
      exact hf
    · exact .inl h
  · rename_i n e z ht hz
    split at h
    · rename_i ti hti
      obtain ⟨it, v, hit, hzv, hze⟩ := zeroOf_sound hz
      refine fin _ z v it hit hzv hze (fun parts vals' hf => ?_) h
      unfold Program.built
      simp only [hit, tyU_sound ht, hzv, tyI_sound hti]
      refine fill_mono (fun i p hp => ?_) _ _ _ hf
      have := arrPl_get _ _ _ _ _ (by simpa using hp)
      rw [this]
      simp
    · exact .inl h
  · exact .inl h
end Bow
/- AE14: the evaluation is sound. -/
namespace Bow
open Go

variable {c : Cx} {E : Env} {T : Heap} {F : Prop}

theorem evOp_sound {K : V → Heap → Prop} {o : Op} (h : evOp c o E T F K) : F ∨ ∃ u T', K u T' ∧ OpTo c o E T u T' := by
  cases o with
  | move x => exact ev_move h
  | assign x => exact ev_assign h
  | pick x y z => exact ev_pick h
  | box t x => exact ev_box h
  | alloc t => exact ev_alloc h
  | build t ps => exact ev_build h
  | buildSlice t l ps => exact ev_buildSlice h
  | load t x => exact ev_load h
  | store t x y => exact ev_store h
  | nilCheck x => exact ev_nilCheck h
  | binOp op t x y t' => exact ev_binOp h
  | unOp op t x => exact ev_unOp h
  | convert s d x => exact ev_convert h
  | makeFunc f xs ys => exact ev_makeFunc h
  | slice t x lo hi mx => exact ev_slice h
  | fieldAddr t x f => exact ev_fieldAddr h
  | field t x f => exact ev_field h
  | indexAddr t x ix => exact ev_indexAddr h
  | index t x ix => exact ev_index h
  | extract x i => exact ev_extract h
  | call cl =>
    obtain ⟨callee, args, ts⟩ := cl
    cases callee with
    | builtin b =>
      obtain ⟨args⟩ := args
      obtain ⟨ts⟩ := ts
      unfold evOp at h
      simp only at h
      split at h
      · exact ev_len h
      · exact ev_max h
      · exact ev_min h
      · exact ev_append h
      · exact .inl h
    | _ => exact .inl h
  | _ => exact .inl h

theorem Ends.of_steps {P : Program} {M M' : Machine} {b : Frame} {cs : List Frame} {e : Exit} {a : Act} {w : World} (h : Steps P M M') (k : Ends P M' b cs e a w) : Ends P M b cs e a w := by
  cases e with
  | normal => exact h.trans k
  | ret => obtain ⟨k', k⟩ := k; exact ⟨k', h.trans k⟩
  | exit id => obtain ⟨k', k1, k⟩ := k; exact ⟨k', k1, h.trans k⟩
  | goto l => obtain ⟨k', k1, k⟩ := k; exact ⟨k', k1, h.trans k⟩
  | panic chain => obtain ⟨k', k⟩ := k; exact ⟨k', h.trans k⟩
  | outgrown => exact k

/-- Steps of the machine first, then the rest. -/
theorem goes_step {todo : List Item} (h : ∀ (w : World) (β : Nat → Loc) (H : Heap) (m : List Nat) (a : Act) (b : Frame) (cs : List Frame), SRel c.imps c.nt w β H m ⟨E, T, c.B, c.D⟩ a → b.fn = c.fn → b.kind = .normal → RoundOk β H c.ro b.roundOf →
    ∃ (w' : World) (β' : Nat → Loc) (H' : Heap) (m' : List Nat) (a' : Act) (todo' : List Item) (s' : St), Steps c.P (lone (b.atR a todo) cs w) (lone (b.atR a' todo') cs w') ∧ SRel c.imps c.nt w' β' H' m' s' a' ∧ Fr w β H w' β' H' ∧
      Goes { c with B := s'.B, D := s'.D } todo' s'.E s'.T) : Goes c todo E T := by
  unfold Goes
  intro w β H m a b cs hs h1 h2 h3
  obtain ⟨w', β', H', m', a', todo', s', k1, k2, k3, k4⟩ := h w β H m a b cs hs h1 h2 h3
  unfold Goes at k4
  obtain ⟨e, s'', w'', β'', H'', m'', a'', g1, g2, g3, g4⟩ := k4 w' β' H' m' a' b cs k2 h1 h2 (h3.mono k3)
  exact ⟨e, s'', w'', β'', H'', m'', a'', g1, g2, k3.trans g3, g4.of_steps k1⟩

/-- A step that leaves the state as it is. -/
theorem goes_still {todo todo' : List Item} (h : ∀ (b : Frame) (a : Act) (cs : List Frame) (w : World), step c.P (lone (b.atR a todo) cs w) = .next (lone (b.atR a todo') cs w)) (k : Goes c todo' E T) : Goes c todo E T :=
  goes_step fun w β H m a b cs hs _ _ _ => ⟨w, β, H, m, a, todo', ⟨E, T, c.B, c.D⟩, .one (h b a cs w), hs, Fr.refl _ _ _, k⟩

theorem idxs_eq {α : Type} : ∀ (l : List α) (i : Nat), idxs i l = List.range' i l.length
  | [], i => rfl
  | x :: l, i => by rw [idxs, idxs_eq l (i + 1)]; rfl

theorem putE_some {nt : Nat} {d : Option Tmp} {v : V} {K : Env → Prop} (h : putE nt d v E F K) : F ∨ ∃ E', K E' ∧ ((d = none ∧ E' = E) ∨ ∃ t, d = some t ∧ t < nt ∧ E' = (t, v) :: E) := by
  unfold putE at h
  cases d with
  | none => exact .inr ⟨E, h, .inl ⟨rfl, rfl⟩⟩
  | some t =>
    simp only at h
    cases hb : Nat.blt t nt with
    | false => rw [hb] at h; exact .inl h
    | true =>
      rw [hb] at h
      exact .inr ⟨_, h, .inr ⟨t, rfl, Nat.le_of_ble_eq_true hb, rfl⟩⟩

theorem putE_ok {nt : Nat} {d : Option Tmp} {v : V} {K : Env → Prop} (hd : d = none ∨ ∃ t, d = some t ∧ t < nt) (h : putE nt d v E F K) : ∃ E', K E' ∧ ((d = none ∧ E' = E) ∨ ∃ t, d = some t ∧ t < nt ∧ E' = (t, v) :: E) := by
  rcases hd with rfl | ⟨t, rfl, ht⟩
  · exact ⟨E, h, .inl ⟨rfl, rfl⟩⟩
  · unfold putE at h
    simp only at h
    have hb : Nat.blt t nt = true := Nat.ble_eq_true_of_le ht
    rw [hb] at h
    exact ⟨_, h, .inr ⟨t, rfl, ht, rfl⟩⟩
theorem CallThen.mono {g : FuncId} {args : List V} {K K' : V → St → Prop} (h : CallThen c g args E T K) (hk : ∀ x s', K x s' → K' x s') : CallThen c g args E T K' := by
  unfold CallThen at h ⊢
  refine ⟨h.1, fun w β H m a vals cs hs hl hr => ?_⟩
  obtain ⟨x, s', v, w', β', H', m', fr, k1, k2⟩ := h.2 w β H m a vals cs hs hl hr
  exact ⟨x, s', v, w', β', H', m', fr, hk _ _ k1, k2⟩

theorem SRel.putTo {imps : List Nat} {nt : Nat} {w : World} {β : Nat → Loc} {H : Heap} {m : List Nat} {B : Base} {D : List Nat} {a : Act} {d : Option Tmp} {x : V} {v : Value} {E' : Env} (h : SRel imps nt w β H m ⟨E, T, B, D⟩ a) (hx : Rep w β H (x.conv m) v)
    (hd : (d = none ∧ E' = E) ∨ ∃ t, d = some t ∧ t < nt ∧ E' = (t, x) :: E) : SRel imps nt w β H m ⟨E', T, B, D⟩ (a.put d v) := by
  rcases hd with ⟨rfl, rfl⟩ | ⟨t, rfl, ht, rfl⟩
  · exact h
  · exact h.put ht hx

theorem yielded_of {ops : Array Oper} {j : Nat} {oj : Oper} {s : Tmp} {a : Act} (h1 : ops[j]? = some oj) (h2 : oj.dst = some s) :
    yielded ops a.tmps j = match a.tmps.getD s Go.undef with | .bool b => some b | _ => none := by
  unfold yielded
  simp only [h1, Option.bind_some, h2]
  cases hx : a.tmps[s]? with
  | none => simp [Array.getD_eq_getD_getElem?, hx, Go.undef]
  | some v =>
    simp only [Array.getD_eq_getD_getElem?, hx, Option.getD_some]
    cases v <;> rfl

section region
variable {ops : Array Oper} {i : Nat} {rest : List Nat} {k : List Item} {o : Oper} {n : Nat}

theorem goes_op {u : V} {T' : Heap} {E' : Env} (ho : ops[i]? = some o) (hw : ∀ (w : World) (β : Nat → Loc) (H : Heap) (m : List Nat) (a : Act), SRel c.imps c.nt w β H m ⟨E, T, c.B, c.D⟩ a → Region.wanted o (yielded ops a.tmps) = true)
    (hop : OpTo c o.op E T u T') (hnd : ∀ cl, o.op ≠ .defer cl) (hd : (o.dst = none ∧ E' = E) ∨ ∃ t, o.dst = some t ∧ t < c.nt ∧ E' = (t, u) :: E) (h : Goes c (.inRegion ops rest :: k) E' T') :
    Goes c (.inRegion ops (i :: rest) :: k) E T := by
  refine goes_step fun w β H m a b cs hs h1 h2 h3 => ?_
  obtain ⟨nx, v, w', β', H', m', hrun, hnx, g1, g2, g3, _⟩ := hop o rfl w β H m a hs
  have hfin : (b.atR a (.inRegion ops (i :: rest) :: k)).finish v = b.atR (a.put o.dst v) (.inRegion ops rest :: k) := by
    rw [Frame.finish_atR]
    simp [ho]
  refine ⟨w', β', H', m', a.put o.dst v, .inRegion ops rest :: k, ⟨E', T', c.B, c.D⟩, .one ?_, g1.putTo g3 hd, g2, h⟩
  refine step_lone_go ?_
  rw [stepGR_op ho (hw w β H m a hs), Oper.semAt_eq _ _ _ hnd]
  rcases hnx with rfl | ⟨rfl, rfl⟩
  · simp [stepG.apply, hrun, Sem.runT_eq, hfin]
  · simp [stepG.apply, hrun, Sem.runT_eq, hfin]

theorem goes_skip {E' : Env} (ho : ops[i]? = some o) (hw : ∀ (w : World) (β : Nat → Loc) (H : Heap) (m : List Nat) (a : Act), SRel c.imps c.nt w β H m ⟨E, T, c.B, c.D⟩ a → Region.wanted o (yielded ops a.tmps) = false)
    (hd : (o.dst = none ∧ E' = E) ∨ ∃ t, o.dst = some t ∧ t < c.nt ∧ E' = (t, .tup []) :: E) (h : Goes c (.inRegion ops rest :: k) E' T) :
    Goes c (.inRegion ops (i :: rest) :: k) E T := by
  refine goes_step fun w β H m a b cs hs h1 h2 h3 => ?_
  refine ⟨w, β, H, m, a.put o.dst Go.undef, .inRegion ops rest :: k, ⟨E', T, c.B, c.D⟩, .one ?_, hs.putTo (x := .tup []) (.tup [] #[] rfl fun j z u h1 _ => by simp at h1) hd, Fr.refl _ _ _, h⟩
  have := stepR_op_skip (P := c.P) (b := b) (a := a) (k := k) (cs := cs) (w := w) (ops := ops) (i := i) (rest := rest) (by simp [ho, hw w β H m a hs])
  simpa [ho] using this

/-- A call of a function value that is known. -/
theorem goes_call {f : Operand} {args : Array Operand} {ts : Array TypeId} {g : FuncId} {first cap : List V} (ho : ops[i]? = some o) (hw : ∀ (w : World) (β : Nat → Loc) (H : Heap) (m : List Nat) (a : Act), SRel c.imps c.nt w β H m ⟨E, T, c.B, c.D⟩ a → Region.wanted o (yielded ops a.tmps) = true)
    (hop : o.op = .call { callee := .value f, args := args, argTypes := ts }) (hf : opd E f = .fn (.func g) first cap)
    (h : CallThen c g (first ++ args.toList.map (opd E) ++ cap) E T fun x s' => ∃ E', Goes { c with B := s'.B, D := s'.D } (.inRegion ops rest :: k) E' s'.T ∧ ((o.dst = none ∧ E' = s'.E) ∨ ∃ t, o.dst = some t ∧ t < c.nt ∧ E' = (t, x) :: s'.E)) :
    Goes c (.inRegion ops (i :: rest) :: k) E T := by
  refine goes_step fun w β H m a b cs hs h1 h2 h3 => ?_
  unfold CallThen at h
  obtain ⟨⟨fn, hfn, hnm, hbd⟩, h⟩ := h
  have hfv : Rep w β H ((opd E f).conv m) (a.eval f) := opd_rep hs f
  rw [hf] at hfv
  simp only [V.conv] at hfv
  generalize hq : a.eval f = q at hfv
  cases hfv with
  | fn _ _ _ va vc hla hlc r1 r2 =>
    have hall : ∀ (j : Nat) (x : V) (v : Value), (first ++ args.toList.map (opd E) ++ cap)[j]? = some x → (va ++ args.map a.eval ++ vc)[j]? = some v → Rep w β H (x.conv m) v := by
      intro j x v hj hv
      rw [V.convL_eq, List.length_map] at hla hlc
      rcases Nat.lt_or_ge j (va.size + args.size) with hlt | hge
      · rw [List.getElem?_append_left (by simp; omega)] at hj
        rw [Array.getElem?_append_left (by simp; omega)] at hv
        rcases Nat.lt_or_ge j va.size with hlt2 | hge2
        · rw [List.getElem?_append_left (by omega)] at hj
          rw [Array.getElem?_append_left hlt2] at hv
          exact r1 j _ v (by rw [V.convL_eq, List.getElem?_map, hj]; rfl) hv
        · rw [List.getElem?_append_right (by omega)] at hj
          rw [Array.getElem?_append_right hge2] at hv
          simp only [List.getElem?_map, Array.getElem?_toList, Option.map_eq_some_iff, Array.getElem?_map] at hj hv
          obtain ⟨z, e1, e2⟩ := hj
          obtain ⟨z', e3, e4⟩ := hv
          rw [hla] at e1
          rw [e1] at e3
          injection e3 with e3
          subst e3 e2 e4
          exact opd_rep hs z
      · rw [List.getElem?_append_right (by simp; omega)] at hj
        rw [Array.getElem?_append_right (by simp; omega)] at hv
        refine r2 (j - (va.size + args.size)) _ v (by rw [V.convL_eq, List.getElem?_map]; simp only [List.length_append, List.length_map, Array.length_toList, hla] at hj; rw [hj]; rfl) (by simpa using hv)
    obtain ⟨x, s', v, w', β', H', m', fr, ⟨E', kk, hd⟩, g2, g3, g4, g5, g6, g7, _⟩ := h w β H m a (va ++ args.map a.eval ++ vc) (b.atR a (.inRegion ops (i :: rest) :: k) :: cs) hs
      (by rw [V.convL_eq, List.length_map] at hla hlc; simp [hla, hlc]) hall
    have hfin : (b.atR a (.inRegion ops (i :: rest) :: k)).finish v = b.atR (a.put o.dst v) (.inRegion ops rest :: k) := by
      rw [Frame.finish_atR]
      simp [ho]
    have s1 : step c.P (lone (b.atR a (.inRegion ops (i :: rest) :: k)) cs w) = .next (lone (Frame.enter c.P g (va ++ args.map a.eval ++ vc) .normal) (b.atR a (.inRegion ops (i :: rest) :: k) :: cs) w) := by
      refine step_lone_go ?_
      rw [stepGR_op ho (hw w β H m a hs), Oper.semAt_eq _ _ _ (by intro cl; rw [hop]; exact fun h => by cases h)]
      have hrun : (execOp a.eval o).run c.P w = .ok (.enter g (va ++ args.map a.eval ++ vc)) w := by
        have hne : fn.name ≠ "runtime.NumGoroutine" := by simpa using hnm
        have hbn : fn.body ≠ none := by intro h; rw [h] at hbd; cases hbd
        simp [execOp, hop, resolve, Deferred.ofValue, hq, invoke, callFunc, hfn, hne, hbn]
      simp [stepG.apply, hrun, Sem.runT_eq, Frame.atR]
    have s2 : step c.P (lone fr (b.atR a (.inRegion ops (i :: rest) :: k) :: cs) w') = .next (lone (b.atR (a.put o.dst v) (.inRegion ops rest :: k)) cs w') := by
      rw [← hfin]
      exact step_leave_returned g7
    exact ⟨w', β', H', m', a.put o.dst v, .inRegion ops rest :: k, ⟨E', s'.T, s'.B, s'.D⟩, .head s1 (g5.trans (.one s2)), g2.putTo g4 hd, g3, kk⟩
end region

theorem wanted_none {o : Oper} (hg : o.guard = none) (y : Nat → Option Bool) : Region.wanted o y = true := by simp [Region.wanted, hg]

theorem evp_sound : ∀ (n : Nat) (c : Cx) (todo : List Item) (E : Env) (T : Heap), evp c n todo E T → Goes c todo E T
  | 0, c, todo, E, T, h => h
  | n + 1, c, todo, E, T, h => by
    unfold evp at h
    split at h
    · -- the end
      unfold Goes
      intro w β H m a b cs hs _ _ _
      exact ⟨.normal, _, w, β, H, m, a, h, hs, Fr.refl _ _ _, .refl _ _⟩
    · exact goes_still (fun b a cs w => stepR_seq) (evp_sound n _ _ _ _ h)
    · exact goes_still (fun b a cs w => stepR_skip) (evp_sound n _ _ _ _ h)
    · exact goes_still (fun b a cs w => stepR_label) (evp_sound n _ _ _ _ h)
    · exact goes_still (fun b a cs w => stepR_inBlock) (evp_sound n _ _ _ _ h)
    · exact goes_still (fun b a cs w => step_lone_go (by simp [stepG, stepG.exec, Frame.atR])) (evp_sound n _ _ _ _ h)
    · unfold Goes
      intro w β H m a b cs hs _ _ _
      exact ⟨.ret, _, w, β, H, m, a, h, hs, Fr.refl _ _ _, ⟨_, .refl _ _⟩⟩
    · rename_i s x y k
      have key : ∀ (t : Bool) (E' : Env), (∀ (w : World) (β : Nat → Loc) (H : Heap) (m : List Nat) (a : Act), SRel c.imps c.nt w β H m ⟨E, T, c.B, c.D⟩ a → (E' = E ∨ a.tmps.getD s Go.undef = .bool t → SRel c.imps c.nt w β H m ⟨E', T, c.B, c.D⟩ a) ∧ a.eval (.tmp s) = .bool t) →
          Goes c (.code (if t then x else y) :: k) E' T → Goes c (.code (.cond (.tmp s) x y) :: k) E T := fun t E' h1 h2 =>
        goes_step fun w β H m a b cs hs _ _ _ =>
          have hv := (h1 w β H m a hs).2
          ⟨w, β, H, m, a, _, ⟨E', T, c.B, c.D⟩, .one (stepR_cond hv), (h1 w β H m a hs).1 (.inr hv), Fr.refl _ _ _, h2⟩
      split at h
      · rename_i hx
        refine key true E (fun w β H m a hs => ⟨fun _ => hs, ?_⟩) (evp_sound n _ _ _ _ h)
        have := opd_rep hs (.tmp s)
        simp only [opd, hx] at this
        exact rep_tt this
      · rename_i hx
        refine key false E (fun w β H m a hs => ⟨fun _ => hs, ?_⟩) (evp_sound n _ _ _ _ h)
        have := opd_rep hs (.tmp s)
        simp only [opd, hx] at this
        exact rep_ff this
      · rename_i t hx
        have hv : ∀ (w : World) (β : Nat → Loc) (H : Heap) (m : List Nat) (a : Act), SRel c.imps c.nt w β H m ⟨E, T, c.B, c.D⟩ a → a.tmps.getD s Go.undef = .bool t := fun w β H m a hs => by
          have := opd_rep hs (.tmp s)
          simp only [opd, hx] at this
          exact rep_bool this
        cases t with
        | true => exact key true _ (fun w β H m a hs => ⟨fun _ => hs.know (by rw [hv w β H m a hs]; exact .tt), hv w β H m a hs⟩) (h.1 rfl)
        | false => exact key false _ (fun w β H m a hs => ⟨fun _ => hs.know (by rw [hv w β H m a hs]; exact .ff), hv w β H m a hs⟩) (h.2 rfl)
      · exact h
    · exact goes_still (fun b a cs w => stepR_block) (evp_sound n _ _ _ _ h)
    · exact goes_still (fun b a cs w => step_lone_go (by simp [stepG, stepG.exec, Frame.atR])) (evp_sound n _ _ _ _ h)
    · rename_i id k
      cases hm : memN c.stop id with
      | true => rw [hm] at h; exact h
      | false =>
      rw [hm] at h
      simp only [cond_false] at h
      split at h
      · rename_i hx
        exact goes_still (fun b a cs w => stepR_exit hx) (evp_sound n _ _ _ _ h)
      · exact h
    · split at h
      · rename_i hx
        exact goes_still (fun b a cs w => stepR_goto hx) (evp_sound n _ _ _ _ h)
      · exact h
    · rename_i id ops k
      refine goes_still (fun b a cs w => stepR_region) (evp_sound n _ _ _ _ ?_)
      rw [idxs_eq, Array.length_toList, ← List.range_eq_range'] at h
      exact h
    · exact goes_still (fun b a cs w => stepR_region_end) (evp_sound n _ _ _ _ h)
    · rename_i ops i rest k
      rw [lget_eq, Array.getElem?_toList] at h
      split at h
      · exact h
      rename_i o ho
      -- the operation itself, wanted
      have doit : ∀ (Fl : Prop) (E1 : Env), (∀ (w : World) (β : Nat → Loc) (H : Heap) (m : List Nat) (a : Act), SRel c.imps c.nt w β H m ⟨E1, T, c.B, c.D⟩ a → Region.wanted o (yielded ops a.tmps) = true) →
          (match o.op with
          | .call { callee := .value f, args, .. } => match opd E1 f with
            | .fn (.func g) first cap => opds E1 args.toList fun vs => putE c.nt o.dst .undef E1 Fl fun _ => CallThen c g (first ++ vs ++ cap) E1 T fun x s' => putE c.nt o.dst x s'.E Fl fun E' => evp { c with B := s'.B, D := s'.D } n (.inRegion ops rest :: k) E' s'.T
            | _ => Fl
          | op => evOp c op E1 T Fl fun v T' => putE c.nt o.dst v E1 Fl fun E' => evp c n (.inRegion ops rest :: k) E' T') → Fl ∨ Goes c (.inRegion ops (i :: rest) :: k) E1 T := by
        intro Fl E1 hw h
        split at h
        · rename_i f args ts hop
          split at h
          · rename_i g first cap hf
            rw [opds_eq] at h
            rcases putE_some h with h | ⟨_, h, hd⟩
            · exact .inl h
            refine .inr (goes_call ho hw hop hf (h.mono fun x s' hk => ?_))
            obtain ⟨E', hk, hd'⟩ := putE_ok (by rcases hd with ⟨hd, _⟩ | ⟨t, hd, hl, _⟩; exact .inl hd; exact .inr ⟨t, hd, hl⟩) hk
            exact ⟨E', evp_sound n _ _ _ _ hk, hd'⟩
          · exact .inl h
        · rename_i hnc
          by_cases hdf : ∃ cl, o.op = .defer cl
          · obtain ⟨cl, hcl⟩ := hdf
            rw [hcl] at h
            exact .inl h
          rcases evOp_sound h with h | ⟨u, T', h, hto⟩
          · exact .inl h
          rcases putE_some h with h | ⟨E', h, hd⟩
          · exact .inl h
          exact .inr (goes_op ho hw hto (fun cl hcl => hdf ⟨cl, hcl⟩) hd (evp_sound n _ _ _ _ h))
      extract_lets skip step at h
      split at h
      · rename_i hg
        exact (doit _ E (fun w β H m a hs => wanted_none hg _) h).elim id id
      · rename_i j want hg
        rw [lget_eq, Array.getElem?_toList] at h
        split at h
        · exact h
        rename_i oj hoj
        split at h
        · exact h
        rename_i s hdst
        have hwant : ∀ (t : Bool) (a : Act), a.tmps.getD s Go.undef = .bool t → Region.wanted o (yielded ops a.tmps) = (t == want) := fun t a ha => by
          simp only [Region.wanted, hg, yielded_of hoj hdst, ha]
          cases t <;> cases want <;> rfl
        have dont : ∀ E1 : Env, (∀ (w : World) (β : Nat → Loc) (H : Heap) (m : List Nat) (a : Act), SRel c.imps c.nt w β H m ⟨E1, T, c.B, c.D⟩ a → Region.wanted o (yielded ops a.tmps) = false) →
            (putE c.nt o.dst (.tup []) E1 (Goes c (.inRegion ops (i :: rest) :: k) E T) fun E' => evp c n (.inRegion ops rest :: k) E' T) → Goes c (.inRegion ops (i :: rest) :: k) E T ∨ Goes c (.inRegion ops (i :: rest) :: k) E1 T := by
          intro E1 hw h
          rcases putE_some h with h | ⟨E', h, hd⟩
          · exact .inl h
          · exact .inr (goes_skip ho hw hd (evp_sound n _ _ _ _ h))
        have know : ∀ (x : V), (∀ (w : World) (β : Nat → Loc) (H : Heap) (m : List Nat) (a : Act), SRel c.imps c.nt w β H m ⟨E, T, c.B, c.D⟩ a → Rep w β H (x.conv m) (a.tmps.getD s Go.undef)) → Goes c (.inRegion ops (i :: rest) :: k) ((s, x) :: E) T → Goes c (.inRegion ops (i :: rest) :: k) E T := fun x hx hk =>
          goes_step fun w β H m a b cs hs _ _ _ => ⟨w, β, H, m, a, _, ⟨(s, x) :: E, T, c.B, c.D⟩, .refl _ _, hs.know (hx w β H m a hs), Fr.refl _ _ _, hk⟩
        split at h
        · rename_i hx
          have hv : ∀ (w : World) (β : Nat → Loc) (H : Heap) (m : List Nat) (a : Act), SRel c.imps c.nt w β H m ⟨E, T, c.B, c.D⟩ a → a.tmps.getD s Go.undef = .bool true := fun w β H m a hs => by
            have := opd_rep hs (.tmp s)
            simp only [opd, hx] at this
            exact rep_tt this
          cases want with
          | true => exact (doit _ E (fun w β H m a hs => by rw [hwant true a (hv w β H m a hs)]; rfl) h).elim id id
          | false => exact (dont E (fun w β H m a hs => by rw [hwant true a (hv w β H m a hs)]; rfl) h).elim id id
        · rename_i hx
          have hv : ∀ (w : World) (β : Nat → Loc) (H : Heap) (m : List Nat) (a : Act), SRel c.imps c.nt w β H m ⟨E, T, c.B, c.D⟩ a → a.tmps.getD s Go.undef = .bool false := fun w β H m a hs => by
            have := opd_rep hs (.tmp s)
            simp only [opd, hx] at this
            exact rep_ff this
          cases want with
          | true => exact (dont E (fun w β H m a hs => by rw [hwant false a (hv w β H m a hs)]; rfl) h).elim id id
          | false => exact (doit _ E (fun w β H m a hs => by rw [hwant false a (hv w β H m a hs)]; rfl) h).elim id id
        · rename_i t hx
          have hv : ∀ (w : World) (β : Nat → Loc) (H : Heap) (m : List Nat) (a : Act), SRel c.imps c.nt w β H m ⟨E, T, c.B, c.D⟩ a → a.tmps.getD s Go.undef = .bool t := fun w β H m a hs => by
            have := opd_rep hs (.tmp s)
            simp only [opd, hx] at this
            exact rep_bool this
          cases t with
          | true => exact know .tt (fun w β H m a hs => by rw [hv w β H m a hs]; exact .tt) (h.1 rfl)
          | false => exact know .ff (fun w β H m a hs => by rw [hv w β H m a hs]; exact .ff) (h.2 rfl)
        · rename_i hx
          refine (dont E (fun w β H m a hs => ?_) h).elim id id
          have := opd_rep hs (.tmp s)
          simp only [opd, hx, V.conv, V.convL] at this
          simp only [Region.wanted, hg, yielded_of hoj hdst]
          have e : a.tmps.getD s Go.undef = .tuple #[] := by
            generalize hq : a.eval (.tmp s) = q at this
            have hq' : a.tmps.getD s Go.undef = q := hq
            rw [hq']
            cases this with
            | tup _ vs hl _ =>
              have : vs.size = 0 := hl.symm
              rw [Array.eq_empty_of_size_eq_zero this]
          rw [e]
          rfl
        · exact h
    · exact h

theorem go {c : Cx} {todo : List Item} {E : Env} {T : Heap} (n : Nat) (h : evp c n todo E T) : Goes c todo E T := evp_sound n c todo E T h
end Bow
/- AE15: functions: what a call of one comes to, out of its body's evaluation; the states' weakening; loops. -/
namespace Bow
open Go

def bare : Act := { tmps := #[], defers := [] }

theorem SRel.bare {imps : List Nat} {nt : Nat} {w : World} {β : Nat → Loc} {H : Heap} {m : List Nat} {E : Env} {T : Heap} {B : Base} {D : List Nat} {a : Act} (h : SRel imps nt w β H m ⟨E, T, B, D⟩ a) : SRel imps 0 w β H m ⟨[], T, B, []⟩ bare :=
  ⟨h.hrel, rfl, fun k => by simp [lk, V.conv]; exact .undef _, h.mlen, h.nodup, h.loc, h.imp, h.base, h.fut, h.own, by simp, h.scT, rfl, by simp⟩

/-- The function, called with the objects T under whatever names, comes back with a value and objects that Q takes; the objects of T come first there. -/
@[irreducible] def Fun (P : Program) (f : FuncId) (T : Heap) (args : List V) (Q : V → Heap → Prop) : Prop :=
  Enterable P f ∧ ∀ (w : World) (β : Nat → Loc) (H : Heap) (m : List Nat) (B : Base) (vals : Array Value) (cs : List Frame), SRel m 0 w β H m ⟨[], T, B, []⟩ bare → args.length = vals.size →
    (∀ (j : Nat) (x : V) (v : Value), args[j]? = some x → vals[j]? = some v → Rep w β H (x.conv m) v) →
    ∃ (x : V) (T' : Heap) (v : Value) (w' : World) (β' : Nat → Loc) (H' : Heap) (m' : List Nat) (fr : Frame), Q x T' ∧ SRel m 0 w' β' H' m' ⟨[], T', B, []⟩ bare ∧ Fr w β H w' β' H' ∧ Rep w' β' H' (x.conv m') v ∧
      Steps P (lone (Frame.enter P f vals .normal) cs w) (lone fr cs w') ∧ fr.fn = f ∧ fr.leaving P w' (.returned v)

theorem Fun.mono {P : Program} {f : FuncId} {T : Heap} {args : List V} {Q Q' : V → Heap → Prop} (h : Fun P f T args Q) (hq : ∀ x T', Q x T' → Q' x T') : Fun P f T args Q' := by
  unfold Fun at h ⊢
  refine ⟨h.1, fun w β H m B vals cs h1 h2 h3 => ?_⟩
  obtain ⟨x, T', v, w', β', H', m', fr, k1, k2⟩ := h.2 w β H m B vals cs h1 h2 h3
  exact ⟨x, T', v, w', β', H', m', fr, hq _ _ k1, k2⟩

/-! ### Results -/
def resK (P : Program) (imps : List Nat) (B : Base) : List ResultVar → Env → Heap → Prop → (List V → Prop) → Prop
  | [], _, _, _, K => K []
  | .tmp t :: rs, E, T, F, K => fv (lk E t) fun v => resK P imps B rs E T F fun vs => K (v :: vs)
  | .cell a t :: rs, E, T, F, K => loadK P t (lk E a) T B imps F fun v => resK P imps B rs E T F fun vs => K (v :: vs)
def resV : List V → V
  | [x] => x
  | xs => .tup xs

theorem loadVar_of {P : Program} {t : TypeId} {q v : Value} {w : World} (h : (Instr.loadAt t q).run P w = .ok v w) : (do loadVar t (← asAddr q)).run P w = .ok v w := by
  unfold Instr.loadAt at h
  cases q with
  | pointer a =>
    cases a with
    | none => simp [Instr.sureAddr, stuck, Sem.run] at h
    | some a => simpa [Instr.sureAddr, asAddr] using h
  | _ => simp [Instr.sureAddr, stuck, Sem.run] at h

def resOf (tmps : Array Value) : ResultVar → Sem Value
  | .tmp t => pure (tmps.getD t Go.undef)
  | .cell x t => do loadVar t (← asAddr (tmps.getD x Go.undef))
theorem resOf_eq (fn : Func) (tmps : Array Value) : results fn tmps = (do let vs ← fn.results.mapM (resOf tmps); pure (if h : vs.size = 1 then vs[0] else .tuple vs)) := by
  unfold results
  congr 1

theorem resK_sound {c : Cx} {F : Prop} : ∀ (rs : List ResultVar) (E : Env) (T : Heap) (K : List V → Prop), resK c.P c.imps c.B rs E T F K → F ∨ ∃ xs, K xs ∧ ∀ (w : World) (β : Nat → Loc) (H : Heap) (m : List Nat) (a : Act), SRel c.imps c.nt w β H m ⟨E, T, c.B, c.D⟩ a →
      ∃ vs : List Value, (rs.mapM (resOf a.tmps)).run c.P w = .ok vs w ∧ xs.length = vs.length ∧ ∀ (j : Nat) (x : V) (v : Value), xs[j]? = some x → vs[j]? = some v → Rep w β H (x.conv m) v
  | [], E, T, K, h => .inr ⟨[], h, fun w β H m a hs => ⟨[], by simp, rfl, fun j x v h => by simp at h⟩⟩
  | .tmp t :: rs, E, T, K, h => by
    rw [resK, fv_eq] at h
    rcases resK_sound rs E T _ h with h | ⟨xs, h, h1⟩
    · exact .inl h
    refine .inr ⟨_, h, fun w β H m a hs => ?_⟩
    obtain ⟨vs, k1, k2, k3⟩ := h1 w β H m a hs
    refine ⟨a.tmps.getD t Go.undef :: vs, by simp only [List.mapM_cons, Sem.run_bind, resOf]; simp [k1], by simp [k2], fun j x v hj hv => ?_⟩
    cases j with
    | zero => simp only [List.getElem?_cons_zero, Option.some.injEq] at hj hv; subst hj hv; exact hs.env t
    | succ j => exact k3 j x v hj hv
  | .cell x t :: rs, E, T, K, h => by
    rw [resK] at h
    rcases loadK_sound (c := c) (x := .tmp x) (E := E) rfl h with h | ⟨u, h, hst⟩
    · exact .inl h
    rcases resK_sound rs E T _ h with h | ⟨xs, h, h1⟩
    · exact .inl h
    refine .inr ⟨_, h, fun w β H m a hs => ?_⟩
    obtain ⟨vs, k1, k2, k3⟩ := h1 w β H m a hs
    obtain ⟨v, e1, e2⟩ := hst { (default : Oper) with op := .load t (.tmp x) } rfl w β H m a hs
    have hl : (Instr.loadAt t (a.tmps.getD x Go.undef)).run c.P w = .ok v w := by
      simp only [execOp] at e1
      have e1' : ((Instr.loadAt t (a.tmps.getD x Go.undef)).run c.P w).andThen (fun v w => .ok (Next.value v) w) = .ok (.value v) w := by
        simpa [Act.eval] using e1
      generalize (Instr.loadAt t (a.tmps.getD x Go.undef)).run c.P w = q at e1'
      cases q with
      | ok v' w' => simp at e1'; rw [e1'.1, e1'.2]
      | halt _ _ => simp at e1'
    have hl' := loadVar_of hl
    refine ⟨v :: vs, by simp only [List.mapM_cons, resOf]; rw [Sem.run_bind, hl']; simp [k1], by simp [k2], fun j y z hj hv => ?_⟩
    cases j with
    | zero => simp at hj hv; subst hj hv; exact e2
    | succ j => exact k3 j y z hj hv

theorem run_results {P : Program} {fn : Func} {tmps : Array Value} {vs : List Value} {w : World}
    (h : (fn.results.toList.mapM (resOf tmps)).run P w = .ok vs w) :
    (results fn tmps).run P w = .ok (if h : vs.toArray.size = 1 then vs.toArray[0] else .tuple vs.toArray) w := by
  rw [resOf_eq, Sem.run_bind]
  have e : (fn.results.mapM (resOf tmps)).run P w = .ok vs.toArray w := by
    rw [← Array.toArray_toList (xs := fn.results), List.mapM_toArray]
    simp only [Sem.run_map, h, Result.andThen_ok]
  rw [e]
  rfl

/-! ### The marks of ranges over functions, on the way out -/
section
variable {imps : List Nat} {nt : Nat} {w w' : World} {β : Nat → Loc} {H : Heap} {m : List Nat} {E : Env} {T : Heap} {B : Base} {a : Act}

theorem Fr.killAt {r b N : Nat} {o : HObj} (ho : H[r]? = some (some o)) (hβ : β r = .blk b N) (hos : w'.os = w.os) (ht : w'.tape = w.tape) (hu : w'.output = w.output)
    (hs : w'.heap.size = w.heap.size) (hk : ∀ k, k ≠ b → w'.heap[k]? = w.heap[k]?) (hns : ¬ isSeal o := by exact fun h => h) : Fr w β H w' β (H.set r none) := by
  refine ⟨⟨hos, ht, hu, by rw [hs]; exact Nat.le_refl _, by simp, ?_, ?_, ?_, fun _ _ => rfl, fun q s hs => ⟨?_, rfl⟩⟩, fun _ _ h => h⟩
  · intro q o' _ ho'
    rcases get_set_some ho' with ⟨_, h2, _⟩ | ⟨_, h2⟩
    · cases h2
    · exact ⟨o', h2, Evo.refl _, fun _ _ => rfl⟩
  · intro k _ hno
    refine hk k (fun e => hno ?_)
    subst e
    exact ⟨r, N, ⟨o, ho, hns⟩, hβ⟩
  · rintro k ⟨q, M, ⟨o, hl, hn⟩, hb⟩
    rcases get_set_some hl with ⟨_, h2, _⟩ | ⟨_, h2⟩
    · cases h2
    · exact .inr ⟨q, M, ⟨o, h2, hn⟩, hb⟩
  · rcases get_set_some hs with ⟨_, h2, _⟩ | ⟨_, h2⟩
    · cases h2
    · exact h2
theorem HRel.killAt (h : HRel w β H) {r b N : Nat} {o : HObj} (ho : H[r]? = some (some o)) (hβ : β r = .blk b N) (hos : w'.os = w.os) (ht : w'.tape = w.tape) (hu : w'.output = w.output)
    (hs : w'.heap.size = w.heap.size) (hk : ∀ k, k ≠ b → w'.heap[k]? = w.heap[k]?) (hns : ¬ isSeal o := by exact fun h => h) : HRel w' β (H.set r none) := by
  refine h.step (Fr.killAt ho hβ hos ht hu hs hk hns) ?_ ?_
  · intro q p hp
    rcases get_set_some hp with ⟨_, h2, _⟩ | ⟨h1, h2⟩
    · cases h2
    · refine .inl ⟨h2, rfl, fun k M hb => hk k (fun e => h1 ?_)⟩
      subst e
      exact h.inj q r _ M N ⟨p, h2⟩ ⟨o, ho⟩ hb hβ
  · rintro q q' b M M' ⟨o, hl⟩ ⟨o', hl'⟩ hb hb'
    rcases get_set_some hl with ⟨_, h2, _⟩ | ⟨_, h2⟩
    · cases h2
    · rcases get_set_some hl' with ⟨_, k2, _⟩ | ⟨_, k2⟩
      · cases k2
      · exact h.inj q q' b M M' ⟨o, h2⟩ ⟨o', k2⟩ hb hb'

def killD : List Nat → Heap → Heap
  | [], T => T
  | k :: D, T => killD D (T.set k none)

theorem unmark {P : Program} : ∀ (D : List Nat) {w : World} {H : Heap} {T : Heap} {a : Act} (b : Frame) (todo : List Item) (cs : List Frame), SRel imps nt w β H m ⟨E, T, B, D⟩ a → D.Nodup →
    ∃ w' H' a', SRel imps nt w' β H' m ⟨E, killD D T, B, []⟩ a' ∧ a'.tmps = a.tmps ∧ a'.defers = [] ∧ Fr w β H w' β H' ∧ Steps P (lone { b.atR a todo with mode := .returning } cs w) (lone { b.atR a' todo with mode := .returning } cs w')
  | [], w, H, T, a, b, todo, cs, h, _ => ⟨w, H, a, h, rfl, List.length_eq_zero_iff.1 h.defs, Fr.refl _ _ _, .refl _ _⟩
  | k :: D, w, H, T, a, b, todo, cs, h, hn => by
    obtain ⟨hn1, hn2⟩ := List.nodup_cons.1 hn
    obtain ⟨r, blk, N, h1, h2, h3, h4⟩ := h.marks 0 k rfl
    simp only at h2
    obtain ⟨d, ds, hds⟩ : ∃ d ds, a.defers = d :: ds := by
      have := h.defs
      cases hh : a.defers with
      | nil => rw [hh] at this; simp at this
      | cons d ds => exact ⟨d, ds, rfl⟩
    have hd : d = { target := .collected blk, args := #[] } := by
      rw [hds] at h4
      simpa using h4
    have hH := h.loc k r _ h1 h2
    have hob := h.hrel.obj r _ hH
    rw [h3] at hob
    have hob : w.heap[blk]? = some (.deferred (some [])) := hob
    have hlt : blk < w.heap.size := (Array.getElem?_eq_some_iff.1 hob).1
    obtain ⟨w1, hw1⟩ : ∃ w1 : World, w1 = { w with heap := w.heap.setIfInBounds blk (.deferred none) } := ⟨_, rfl⟩
    have hrun : (Instr.takeDeferred blk).run P w = .ok [] w1 := by
      rw [hw1]
      simp [Instr.takeDeferred, Sem.run_bind, getObj, setObj, Sem.run, hob, Result.andThen]
    have hother : ∀ q, q ≠ blk → w1.heap[q]? = w.heap[q]? := fun q hq => by
      rw [hw1]
      simp [Array.getElem?_setIfInBounds_ne (Ne.symm hq)]
    have hf : Fr w β H w1 β (H.set r none) := Fr.killAt hH h3 (by rw [hw1]) (by rw [hw1]) (by rw [hw1]) (by rw [hw1]; simp) hother
    have hr : HRel w1 β (H.set r none) := h.hrel.killAt hH h3 (by rw [hw1]) (by rw [hw1]) (by rw [hw1]) (by rw [hw1]; simp) hother
    have hs0 : SRel imps nt w β H m ⟨E, T, B, D⟩ { a with defers := ds } := by
      refine ⟨h.hrel, h.size, h.env, h.mlen, h.nodup, h.loc, h.imp, h.base, h.fut, h.own, h.scE, h.scT, ?_, ?_⟩
      · have := h.defs
        rw [hds] at this
        simpa using this
      · intro j q hj
        obtain ⟨r', b', N', e1, e2, e3, e4⟩ := h.marks (j + 1) q (by simpa using hj)
        exact ⟨r', b', N', e1, e2, e3, by rw [hds] at e4; simpa using e4⟩
    have hs1 := hs0.setAt (o' := none) (w' := w1) h1 (fun o h => by cases h) (fun hm => absurd hm hn1) hf hr
    obtain ⟨w2, H2, a2, g1, g2, g3, g4, g5⟩ := unmark (P := P) D b todo cs hs1 hn2
    refine ⟨w2, H2, a2, g1, g2, g3, hf.trans g4, .head ?_ g5⟩
    have := step_collected (P := P) (fr := { b.atR a todo with mode := .returning }) (cs := cs) (w := w) (w' := w1) (d := d) (r := blk) (ds := ds) (calls := []) (by simp) (by simpa [Frame.atR] using hds) (by rw [hd]) hrun
    rw [this]
    simp [Frame.atR]
end

def nodupB : List Nat → Bool
  | [] => true
  | k :: D => D.all (fun j => !Nat.beq j k) && nodupB D
theorem nodupB_iff : ∀ D : List Nat, nodupB D = true → D.Nodup
  | [], _ => List.nodup_nil
  | k :: D, h => by
    simp only [nodupB, Bool.and_eq_true, List.all_eq_true] at h
    refine List.nodup_cons.2 ⟨fun hm => ?_, nodupB_iff D h.2⟩
    have := h.1 k hm
    simp at this

/-- What a body's end has to be. -/
def XR (P : Program) (imps : List Nat) (rs : Array ResultVar) (B : Base) (Q : V → Heap → Prop) (e : Exit) (s : St) : Prop :=
  (match e with | .normal | .ret => True | _ => False) ∧ nodupB s.D = true ∧ s.B = B ∧ resK P imps B rs.toList s.E (killD s.D s.T) False fun xs => Q (resV xs) (killD s.D s.T)

def env0 : Nat → List V → Env
  | _, [] => []
  | n, x :: xs => (n, x) :: env0 (n + 1) xs
theorem lk_env0 : ∀ (n : Nat) (xs : List V) (k : Nat), lk (env0 n xs) k = if n ≤ k then xs[k - n]?.getD .undef else .undef
  | n, [], k => by simp [env0, lk]
  | n, x :: xs, k => by
    rw [env0, lk]
    cases hb : Nat.beq n k with
    | true =>
      have := Nat.eq_of_beq_eq_true hb
      subst this
      simp
    | false =>
      have hne : n ≠ k := Nat.ne_of_beq_eq_false hb
      rw [cond_false, lk_env0 (n + 1) xs k]
      by_cases h : n + 1 ≤ k
      · rw [if_pos h, if_pos (by omega)]
        have : k - n = (k - (n + 1)) + 1 := by omega
        rw [this, List.getElem?_cons_succ]
      · rw [if_neg h, if_neg (by omega)]

theorem env0_mem : ∀ (n : Nat) (xs : List V) (p : Nat × V), p ∈ env0 n xs → p.2 ∈ xs
  | n, [], p, h => by cases h
  | n, x :: xs, p, h => by
    rcases List.mem_cons.1 h with rfl | h
    · exact List.mem_cons_self
    · exact List.mem_cons_of_mem _ (env0_mem _ xs p h)

theorem fun_of_goes {P : Program} {f : FuncId} {fn : Func} {body : Code} {T : Heap} {args : List V} {Q : V → Heap → Prop} (hf : P.funcs[f]? = some fn) (hn : (fn.name == "runtime.NumGoroutine") = false) (hb : fn.body = some body) (hnt : Nat.ble args.length fn.ntmps = true)
    (h : ∀ (imps : List Nat) (B : Base), imps.length = T.length → Goes { P := P, nt := fn.ntmps, fn := f, ro := none, imps := imps, X := XR P imps fn.results B Q, B := B, D := [] } [.code body] (env0 0 args) T) : Fun P f T args Q := by
  unfold Fun
  refine ⟨⟨fn, hf, hn, by rw [hb]; rfl⟩, fun w β H m B vals cs hs hl hr => ?_⟩
  have hnt := Nat.le_of_ble_eq_true hnt
  have g := h m B hs.mlen
  unfold Goes at g
  let b : Frame := { fn := f, tmps := #[], todo := [], defers := [], mode := .run, kind := .normal }
  let a : Act := { tmps := vals ++ Array.replicate (fn.ntmps - vals.size) Go.undef, defers := [] }
  have henter : Frame.enter P f vals .normal = b.atR a [.code body] := by
    simp [Frame.enter, Frame.atR, hf, hb, b, a]
  have hasz : a.tmps.size = fn.ntmps := by simp [a]; omega
  have hget : ∀ k, Rep w β H ((lk (env0 0 args) k).conv m) (a.tmps.getD k Go.undef) := by
    intro k
    rw [lk_env0]
    simp only [Nat.zero_le, if_true, Nat.sub_zero]
    cases hk : args[k]? with
    | none => exact .undef _
    | some x =>
      have hkl := lt_of_get hk
      have hkv : k < vals.size := by omega
      have e : a.tmps.getD k Go.undef = vals[k] := by
        simp only [a, Array.getD_eq_getD_getElem?]
        rw [Array.getElem?_append_left hkv]
        simp [hkv]
      rw [e]
      exact hr k x vals[k] hk (Array.getElem?_eq_getElem hkv)
  have hs0 : SRel m fn.ntmps w β H m ⟨env0 0 args, T, B, []⟩ a := by
    refine ⟨hs.hrel, hasz, hget, hs.mlen, hs.nodup, hs.loc, hs.imp, hs.base, hs.fut, hs.own, fun p hp => ?_, hs.scT, rfl, by simp⟩
    obtain ⟨k, hk, hx⟩ := List.mem_iff_getElem.1 (env0_mem 0 args p hp)
    have hkv : k < vals.size := by omega
    have := sc_of_rep p.2 (hr k p.2 vals[k] (by rw [List.getElem?_eq_getElem hk, hx]) (Array.getElem?_eq_getElem hkv))
    have e := hs.mlen
    simp only at e ⊢
    rwa [← e]
  obtain ⟨e, s', w', β', H', m', a', hX, hs', hfr, hend⟩ := g w β H m a b cs hs0 rfl rfl rfl
  obtain ⟨E', T', B', D'⟩ := s'
  obtain ⟨he, hD, hB, hres⟩ := hX
  simp only at hD hB hres
  subst hB
  have key : ∀ todo, Steps P (lone (Frame.enter P f vals .normal) cs w) (lone { b.atR a' todo with mode := .returning } cs w') →
      ∃ (x : V) (T' : Heap) (v : Value) (w' : World) (β' : Nat → Loc) (H' : Heap) (m' : List Nat) (fr : Frame), Q x T' ∧ SRel m 0 w' β' H' m' ⟨[], T', B', []⟩ bare ∧ Fr w β H w' β' H' ∧ Rep w' β' H' (x.conv m') v ∧
        Steps P (lone (Frame.enter P f vals .normal) cs w) (lone fr cs w') ∧ fr.fn = f ∧ fr.leaving P w' (.returned v) := fun todo hst => by
    obtain ⟨w2, H2, a2, u1, u2, u3, u4, u5⟩ := unmark (P := P) D' b todo cs hs' (nodupB_iff _ hD)
    rcases resK_sound (c := { P := P, nt := fn.ntmps, fn := f, ro := none, imps := m, X := fun _ _ => True, B := B', D := [] }) _ _ _ _ hres with h | ⟨xs, hq, hx⟩
    · exact h.elim
    obtain ⟨vs, h1, h2, h3⟩ := hx w2 β' H2 m' a2 u1
    have hrun := run_results h1
    have hrep : Rep w2 β' H2 ((resV xs).conv m') (if h : vs.toArray.size = 1 then vs.toArray[0] else .tuple vs.toArray) := by
      by_cases h1 : vs.length = 1
      · rw [dif_pos (by simpa using h1)]
        match xs, h2, h3 with
        | [x], _, h3 => exact h3 0 x _ rfl (by simp [h1])
        | [], h2, _ => simp at h2; omega
        | _ :: _ :: _, h2, _ => simp at h2; omega
      · rw [dif_neg (by simpa using h1)]
        have e : resV xs = .tup xs := by
          match xs, h2 with
          | [x], h2 => simp at h2; omega
          | [], _ => rfl
          | _ :: _ :: _, _ => rfl
        rw [e]
        simp only [V.conv, V.convL_eq]
        refine .tup _ _ (by simp [h2]) fun j c v hj hv => ?_
        simp only [List.getElem?_map, Option.map_eq_some_iff] at hj
        obtain ⟨x, hj, rfl⟩ := hj
        exact h3 j x v hj (by simpa using hv)
    exact ⟨_, _, _, w2, β', H2, m', { b.atR a2 todo with mode := .returning }, hq, u1.bare, hfr.trans u4, hrep, hst.trans u5, rfl, rfl, u3, rfl, fn, hf, hrun⟩
  cases e with
  | normal => exact key [] (by rw [henter]; exact Steps.trans hend (.one (stepR_end rfl)))
  | ret =>
    obtain ⟨k, hend⟩ := hend
    exact key _ (by rw [henter]; exact Steps.trans hend (.one (stepR_ret rfl)))
  | exit id => exact he.elim
  | goto l => exact he.elim
  | panic ch => exact he.elim
  | outgrown => exact he.elim
end Bow
/- AE16: states weakened: objects let go, slots forgotten; calls; loops. -/
namespace Bow
open Go

/-! ### Of no name from n on -/
mutual
def V.scB (n : Nat) : V → Bool
  | .osl r _ _ _ => r.scB' n
  | .ptr r _ => r.scB' n
  | .eptr r _ _ _ => r.scB' n
  | .agg cs => V.scBL n cs
  | .tup cs => V.scBL n cs
  | .fn _ a c => V.scBL n a && V.scBL n c
  | .yld r => r.scB' n
  | .iface _ v => v.scB n
  | _ => true
def V.scBL (n : Nat) : List V → Bool
  | [] => true
  | v :: vs => v.scB n && V.scBL n vs
def Ref.scB' (n : Nat) : Ref → Bool
  | .loc k => Nat.blt k n
  | _ => true
end
theorem Ref.scB_sc {n : Nat} : ∀ r : Ref, r.scB' n = true → r.sc n
  | .loc _, h => Nat.le_of_ble_eq_true h
  | .abs _, _ => trivial
  | .bad, _ => trivial
mutual
theorem V.scB_sc {n : Nat} : ∀ v : V, v.scB n = true → v.sc n
  | .osl r _ _ _, h | .ptr r _, h | .eptr r _ _ _, h | .yld r, h => r.scB_sc h
  | .agg cs, h | .tup cs, h => V.scBL_sc cs h
  | .fn _ a c, h => by
    simp only [V.scB, Bool.and_eq_true] at h
    exact ⟨V.scBL_sc a h.1, V.scBL_sc c h.2⟩
  | .iface _ v, h => V.scB_sc v h
  | .int .., _ | .bool _, _ | .tt, _ | .ff, _ | .str _, _ | .sl .., _ | .nilsl, _ | .iptr .., _ | .nilp, _ | .nilf, _ | .nili, _ | .nilmap, _ | .undef, _ => trivial
theorem V.scBL_sc {n : Nat} : ∀ vs : List V, V.scBL n vs = true → V.scL n vs
  | [], _ => trivial
  | v :: vs, h => by
    simp only [V.scBL, Bool.and_eq_true] at h
    exact ⟨V.scB_sc v h.1, V.scBL_sc vs h.2⟩
end

def Env.scB (n : Nat) : Env → Bool
  | [] => true
  | p :: E => p.2.scB n && Env.scB n E
theorem Env.scB_sc {n : Nat} : ∀ E : Env, Env.scB n E = true → ∀ p ∈ E, p.2.sc n
  | [], _, p, hp => by cases hp
  | q :: E, h, p, hp => by
    simp only [Env.scB, Bool.and_eq_true] at h
    rcases List.mem_cons.1 hp with rfl | hp
    · exact V.scB_sc _ h.1
    · exact Env.scB_sc E h.2 p hp
def HObj.scB (n : Nat) : HObj → Bool
  | .box cs => V.scBL n cs
  | .vec .. => true
  | .dfr => true
  | .held _ => true
  | .loop _ _ _ E _ _ _ _ => Env.scB n E
theorem HObj.scB_sc {n : Nat} : ∀ o : HObj, o.scB n = true → o.sc n
  | .box cs, h => V.scBL_sc cs h
  | .vec .., _ => trivial
  | .dfr, _ => trivial
  | .held _, _ => trivial
  | .loop _ _ _ E _ _ _ _, h => Env.scB_sc E h

/-- The slots that E' says hold that in E, and speak of objects below n alone. -/
def envIs (n : Nat) (E : Env) : Env → Prop
  | [] => True
  | (k, v) :: E' => (lk E k = v ∧ v.scB n = true) ∧ envIs n E E'
/-- The objects begin with these, which speak of objects below n alone. -/
def heapIs (n : Nat) : Heap → Heap → Prop
  | _, [] => True
  | [], _ :: _ => False
  | o :: T, none :: T' => o = none ∧ heapIs n T T'
  | o :: T, some o' :: T' => (o = some o' ∧ o'.scB n = true) ∧ heapIs n T T'

theorem envIs_lk {n : Nat} {E : Env} : ∀ {E' : Env}, envIs n E E' → ∀ k, (lk E' k = lk E k ∨ lk E' k = .undef) ∧ (∀ p ∈ E', p.2.sc n)
  | [], _, k => ⟨.inr rfl, by simp⟩
  | (j, v) :: E', h, k => by
    have ih := envIs_lk h.2 k
    refine ⟨?_, fun p hp => ?_⟩
    · rw [lk]
      cases hb : Nat.beq j k with
      | true =>
        have := Nat.eq_of_beq_eq_true hb
        subst this
        exact .inl h.1.1.symm
      | false => exact ih.1
    · rcases List.mem_cons.1 hp with rfl | hp
      · exact V.scB_sc _ h.1.2
      · exact ih.2 p hp
theorem heapIs_eq {n : Nat} : ∀ {T T' : Heap}, heapIs n T T' → ∃ T'', T = T' ++ T'' ∧ ∀ (k : Nat) (o : HObj), T'[k]? = some (some o) → o.sc n
  | T, [], _ => ⟨T, rfl, fun k o h => by simp at h⟩
  | [], o :: T', h => by cases o <;> exact h.elim
  | o :: T, none :: T', h => by
    obtain ⟨T'', e, k⟩ := heapIs_eq h.2
    refine ⟨T'', by rw [h.1, e]; rfl, fun j q hj => ?_⟩
    cases j with
    | zero => simp at hj
    | succ j => exact k j q hj
  | o :: T, some o' :: T', h => by
    obtain ⟨T'', e, k⟩ := heapIs_eq h.2
    refine ⟨T'', by rw [h.1.1, e]; rfl, fun j q hj => ?_⟩
    cases j with
    | zero => simp at hj; subst hj; exact o'.scB_sc h.1.2
    | succ j => exact k j q hj

section
variable {imps : List Nat} {nt : Nat} {w w' : World} {β β' : Nat → Loc} {H H' : Heap} {m : List Nat} {E E' : Env} {T : Heap} {B : Base} {D : List Nat} {a : Act}

/-- Slots forgotten. -/
theorem SRel.forget (h : SRel imps nt w β H m ⟨E, T, B, D⟩ a) (hl : ∀ k, lk E' k = lk E k ∨ lk E' k = .undef) (hsc : ∀ p ∈ E', p.2.sc T.length) : SRel imps nt w β H m ⟨E', T, B, D⟩ a := by
  refine ⟨h.hrel, h.size, fun k => ?_, h.mlen, h.nodup, h.loc, h.imp, h.base, h.fut, h.own, hsc, h.scT, h.defs, h.marks⟩
  rcases hl k with e | e
  · simp only [e]; exact h.env k
  · simp only [e]; exact .undef _

/-- The last object is let go. -/
theorem SRel.drop1 {o : Option HObj} (h : SRel imps nt w β H m ⟨E, T ++ [o], B, D⟩ a) (hn : imps.length ≤ T.length) (hE : ∀ p ∈ E, p.2.sc T.length) (hT : ∀ (k : Nat) (o : HObj), T[k]? = some (some o) → o.sc T.length)
    (hD : ∀ k ∈ D, k < T.length) : ∃ m' H', SRel imps nt w β H' m' ⟨E, T, B, D⟩ a ∧ Fr w β H w β H' ∧ m' = m.take T.length := by
  have hml : m.length = T.length + 1 := by have := h.mlen; simpa using this
  obtain ⟨m', r, rfl⟩ : ∃ m' r, m = m' ++ [r] := ⟨m.dropLast, m.getLast (by intro e; rw [e] at hml; simp at hml), (List.dropLast_concat_getLast _).symm⟩
  have hml' : m'.length = T.length := by simp at hml; exact hml
  have hnd := List.nodup_append.1 h.nodup
  have hr : r ∉ m' := fun hm => hnd.2.2 r hm r (by simp) rfl
  have hrk : (m' ++ [r])[T.length]? = some r := by rw [← hml']; simp
  have hrB : B r = none := h.own T.length r hn hrk
  have hrl := h.lt hrk
  refine ⟨m', H.set r none, ?_, Fr.kill r, by rw [← hml']; simp⟩
  have hcv : ∀ v : V, v.sc T.length → v.conv (m' ++ [r]) = v.conv m' := fun v hv => V.conv_ext (by omega) v hv
  refine ⟨h.hrel.kill r, h.size, fun k => ?_, hml', hnd.1, ?_, ?_, ?_, fun r hr => h.fut r (by simpa using hr), ?_, hE, hT, h.defs, ?_⟩
  · rw [← hcv _ (lk_sc E k hE)]
    exact (h.env k).mono (Fr.kill r)
  · intro k q o hk ho
    have hkl := lt_of_get hk
    have hne : q ≠ r := fun e => hr (e ▸ List.mem_of_getElem? hk)
    rw [List.getElem?_set_ne (fun x => hne x.symm)]
    have := h.loc k q o (by rw [List.getElem?_append_left hkl]; exact hk) (by simp only; rw [List.getElem?_append_left (by omega)]; exact ho)
    rw [this]
    cases o with
    | none => rfl
    | some o =>
      simp only [Option.map_some, Option.some.injEq]
      exact HObj.conv_ext (by omega) o (hT k o ho)
  · have := h.imp
    rwa [List.take_append_of_le_length (by omega)] at this
  · intro q hq hqm
    by_cases e : q = r
    · subst e
      simp only [hrB]
      simp [hrl]
    · rw [List.getElem?_set_ne (fun x => e x.symm)]
      exact h.base q (by simpa using hq) (by simp [hqm, e])
  · intro k q hk hq
    exact h.own k q hk (by rw [List.getElem?_append_left (lt_of_get hq)]; exact hq)
  · intro j k hj
    obtain ⟨r', b, N, h1, h2, h3, h4⟩ := h.marks j k hj
    have hk := hD k (List.mem_of_getElem? hj)
    simp only at h1 h2
    rw [List.getElem?_append_left (by omega)] at h1 h2
    exact ⟨r', b, N, h1, h2, h3, h4⟩

theorem SRel.killTo : ∀ (T2 T : Heap) {H : Heap}, SRel imps nt w β H m ⟨E, T ++ T2, B, D⟩ a → (∀ k ∈ D, k < T.length) → ∃ H', SRel imps nt w β H' m ⟨E, T ++ T2.map (fun _ => none), B, D⟩ a ∧ Fr w β H w β H'
  | [], T, H, h, _ => ⟨H, h, Fr.refl _ _ _⟩
  | o :: T2, T, H, h, hD => by
    have hml : m.length = T.length + (T2.length + 1) := by have := h.mlen; simpa using this
    have hk : m[T.length]? = some m[T.length] := List.getElem?_eq_getElem (by omega)
    have h1 := h.setAt (o' := none) (w' := w) hk (fun o h => by cases h) (fun hm => absurd (hD _ hm) (Nat.lt_irrefl _)) (Fr.kill _) (h.hrel.kill _)
    have e : (T ++ o :: T2).set T.length none = (T ++ [none]) ++ T2 := by simp
    rw [e] at h1
    obtain ⟨H', k1, k2⟩ := SRel.killTo T2 (T ++ [none]) h1 (fun k hk => by have := hD k hk; simp; omega)
    refine ⟨H', ?_, (Fr.kill _).trans k2⟩
    simpa using k1

theorem SRel.dropNone (hn : imps.length ≤ T.length) (hE : ∀ p ∈ E, p.2.sc T.length) (hT : ∀ (k : Nat) (o : HObj), T[k]? = some (some o) → o.sc T.length) (hD : ∀ k ∈ D, k < T.length) :
    ∀ (n : Nat) {m : List Nat} {H : Heap}, SRel imps nt w β H m ⟨E, T ++ List.replicate n none, B, D⟩ a → ∃ m' H', SRel imps nt w β H' m' ⟨E, T, B, D⟩ a ∧ Fr w β H w β H' ∧ m' = m.take T.length
  | 0, m, H, h => by
    rw [List.replicate_zero, List.append_nil] at h
    exact ⟨m, H, h, Fr.refl _ _ _, by rw [List.take_of_length_le (by have := h.mlen; simp only at this; omega)]⟩
  | n + 1, m, H, h => by
    have e : T ++ List.replicate (n + 1) none = (T ++ List.replicate n none) ++ [none] := by rw [List.replicate_succ', List.append_assoc]
    rw [e] at h
    have hle : T.length ≤ (T ++ List.replicate n (none : Option HObj)).length := by simp
    obtain ⟨m1, H1, k1, k2, k3⟩ := SRel.drop1 h (by omega) (fun p hp => V.sc_mono hle _ (hE p hp)) (fun k o ho => by
      rcases Nat.lt_or_ge k T.length with h1 | h1
      · rw [List.getElem?_append_left h1] at ho
        exact HObj.sc_mono hle o (hT k o ho)
      · rw [List.getElem?_append_right h1] at ho
        have := List.mem_replicate.1 (List.mem_of_getElem? ho)
        cases this.2) (fun k hk => by have := hD k hk; omega)
    obtain ⟨m2, H2, g1, g2, g3⟩ := SRel.dropNone hn hE hT hD n k1
    refine ⟨m2, H2, g1, k2.trans g2, ?_⟩
    rw [g3, k3, List.take_take, Nat.min_eq_left hle]

theorem SRel.dropTo (T2 : Heap) (h : SRel imps nt w β H m ⟨E, T ++ T2, B, D⟩ a) (hn : imps.length ≤ T.length) (hE : ∀ p ∈ E, p.2.sc T.length) (hT : ∀ (k : Nat) (o : HObj), T[k]? = some (some o) → o.sc T.length) (hD : ∀ k ∈ D, k < T.length) :
    ∃ m' H', SRel imps nt w β H' m' ⟨E, T, B, D⟩ a ∧ Fr w β H w β H' ∧ m' = m.take T.length := by
  obtain ⟨H1, k1, k2⟩ := SRel.killTo T2 T h hD
  have e : T2.map (fun _ => (none : Option HObj)) = List.replicate T2.length none := by
    simp [List.map_const']
  rw [e] at k1
  obtain ⟨m', H', g1, g2, g3⟩ := SRel.dropNone hn hE hT hD _ k1
  exact ⟨m', H', g1, k2.trans g2, g3⟩
end

/-! ### A body's own weakening -/
/-- All that is said of the objects and slots from here on is what T' and E' say. -/
theorem goes_to {c : Cx} {todo : List Item} {E : Env} {T : Heap} (E' : Env) (T' : Heap) (hD : c.D.all (Nat.blt · T'.length) = true) (hi : c.imps.length ≤ T'.length) (hE : envIs T'.length E E') (hT : heapIs T'.length T T')
    (h : Goes c todo E' T') : Goes c todo E T := by
  refine goes_step fun w β H m a b cs hs _ _ _ => ?_
  obtain ⟨T'', rfl, hsc⟩ := heapIs_eq hT
  have hE' : ∀ p ∈ E', p.2.sc T'.length := (envIs_lk hE 0).2
  have h1 := hs.forget (E' := E') (fun k => (envIs_lk hE k).1) (fun p hp => V.sc_mono (by simp) _ (hE' p hp))
  obtain ⟨m', H', k1, k2, _⟩ := SRel.dropTo T'' h1 hi hE' hsc (fun k hk => Nat.le_of_ble_eq_true (List.all_eq_true.1 hD k hk))
  exact ⟨w, β, H', m', a, todo, ⟨E', T', c.B, c.D⟩, .refl _ _, k1, k2, h⟩

/-! ### Calls of functions that leave nothing behind -/
def Pure (P : Program) (f : FuncId) (args : List V) (Q : V → Prop) : Prop := Fun P f [] args fun x T => T = [] ∧ x.pureB = true ∧ Q x

theorem pure_of_fun {P : Program} {f : FuncId} {args : List V} {Q : V → Prop} (h : Fun P f [] args fun x T => frz x T False fun x' _ => x'.pureB = true ∧ Q x') : Pure P f args Q := by
  unfold Pure Fun at *
  refine ⟨h.1, fun w β H m B vals cs hs hl hr => ?_⟩
  obtain ⟨x, T', v, w', β', H', m', fr, hq, k1, k2, k3, k4⟩ := h.2 w β H m B vals cs hs hl hr
  rcases frz_sound hq with hq | ⟨x', T'', hq, hfz⟩
  · exact hq.elim
  have hm0 : m.length = 0 := hs.mlen
  have hmn : m = [] := List.length_eq_zero_iff.1 hm0
  subst hmn
  obtain ⟨H1, g1, g2, g3⟩ := hfz.2 _ _ _ _ _ _ _ _ _ _ k1
  obtain ⟨m2, H2, e1, e2, e3⟩ := SRel.dropTo (T := []) T'' g1 (by simp) (by simp) (by simp) (by simp)
  refine ⟨x', [], v, w', β', H2, m2, fr, ⟨rfl, hq⟩, e1, (k2.trans g2).trans e2, ?_, k4⟩
  rw [pure_conv _ _ hq.1]
  exact (g3 0 x x' v rfl rfl k3).mono e2

theorem pure_step {P : Program} {g : FuncId} {args : List V} {Q : V → Prop} (hf : Pure P g args Q) (ha : V.pureL args = true) {imps : List Nat} {nt : Nat} {w : World} {β : Nat → Loc} {H : Heap} {m : List Nat} {s : St} {a : Act} (hs : SRel imps nt w β H m s a)
    {vals : Array Value} (cs : List Frame) (hl : args.length = vals.size) (hr : ∀ (j : Nat) (x : V) (v : Value), args[j]? = some x → vals[j]? = some v → Rep w β H (x.conv m) v) :
    ∃ (x : V) (v : Value) (w' : World) (β' : Nat → Loc) (H' : Heap) (fr : Frame), Q x ∧ x.pureB = true ∧ SRel imps nt w' β' H' m s a ∧ Fr w β H w' β' H' ∧ Rep w' β' H' x v ∧
      Steps P (lone (Frame.enter P g vals .normal) cs w) (lone fr cs w') ∧ fr.fn = g ∧ fr.leaving P w' (.returned v) := by
  unfold Pure Fun at hf
  have hs0 : SRel [] 0 w β H [] ⟨[], [], fun r => (H[r]?).getD none, []⟩ bare := by
    refine ⟨hs.hrel, rfl, fun k => by simp [lk, V.conv]; exact .undef _, rfl, List.nodup_nil, by simp, rfl, fun r h _ => ?_, fun r h1 => ?_, by simp, by simp, by simp, rfl, by simp⟩
    · simp [h]
    · simp [List.getElem?_eq_none h1]
  obtain ⟨x, T', v, w', β', H', m', fr, ⟨hT, hp, hq⟩, k1, k2, k3, k4⟩ := hf.2 w β H [] _ vals cs hs0 hl (fun j x v hj hv => by
    have h1 := hr j x v hj hv
    have hx : x.pureB = true := by
      have : ∀ (l : List V), V.pureL l = true → ∀ x ∈ l, x.pureB = true := by
        intro l
        induction l with
        | nil => simp
        | cons y l ih =>
          intro h x hx
          simp only [V.pureL, Bool.and_eq_true] at h
          rcases List.mem_cons.1 hx with rfl | hx
          · exact h.1
          · exact ih h.2 x hx
      exact this args ha x (List.mem_of_getElem? hj)
    rw [pure_conv _ _ hx] at h1 ⊢
    exact h1)
  subst hT
  have hm' : m' = [] := List.length_eq_zero_iff.1 k1.mlen
  subst hm'
  rw [pure_conv _ _ hp] at k3
  refine ⟨x, v, w', β', H', fr, hq, hp, ?_, k2, k3, k4⟩
  -- the caller's state over the call
  have hlen : H.length ≤ H'.length := k2.len
  have hnew : ∀ r, r < H'.length → H'[r]? = some ((H[r]?).getD none) := fun r hr => k1.base r hr (by simp)
  have hold : ∀ r, r < H.length → H'[r]? = H[r]? := fun r hr => by
    rw [hnew r (Nat.lt_of_lt_of_le hr hlen)]
    simp [hr]
  refine ⟨k1.hrel, hs.size, fun k => (hs.env k).mono k2, hs.mlen, hs.nodup, ?_, hs.imp, ?_, fun r hr => hs.fut r (Nat.le_trans hlen hr), hs.own, hs.scE, hs.scT, hs.defs, ?_⟩
  · intro k r o hk ho
    rw [hold r (hs.lt hk)]
    exact hs.loc k r o hk ho
  · intro r hr hm
    rcases Nat.lt_or_ge r H.length with h1 | h1
    · rw [hold r h1]
      exact hs.base r h1 hm
    · rw [hnew r hr, hs.fut r h1, List.getElem?_eq_none h1]
      rfl
  · intro j k hj
    obtain ⟨r, b, N, h1, h2, h3, h4⟩ := hs.marks j k hj
    refine ⟨r, b, N, h1, h2, ?_, h4⟩
    have hH := hs.loc k r _ h1 h2
    have hH' : H'[r]? = some (some .dfr) := by rw [hold r (hs.lt h1), hH]; rfl
    obtain ⟨o, ho, _, hb⟩ := k2.evo r .dfr (hs.lt h1) hH'
    rw [hH] at ho
    injection ho with ho
    injection ho with ho
    subst ho
    exact (hb (by rw [h3]; simp) trivial).trans h3

theorem call_pure {c : Cx} {g : FuncId} {args : List V} {E : Env} {T : Heap} {K : V → St → Prop} {Q : V → Prop} (hf : Pure c.P g args Q) (ha : V.pureL args = true) (h : ∀ x, Q x → K x ⟨E, T, c.B, c.D⟩) : CallThen c g args E T K := by
  have hen : Enterable c.P g := by
    unfold Pure Fun at hf
    exact hf.1
  unfold CallThen
  refine ⟨hen, fun w β H m a vals cs hs hl hr => ?_⟩
  obtain ⟨x, v, w', β', H', fr, hq, hp, k1, k2, k3, k4⟩ := pure_step hf ha hs cs hl hr
  exact ⟨x, _, v, w', β', H', m, fr, h x hq, k1, k2, by rw [pure_conv _ _ hp]; exact k3, k4.1, k4.2.1, k4.2.2, List.prefix_refl _⟩

theorem pure_fn {P : Program} {f : FuncId} {fn : Func} {body : Code} {args : List V} {Q : V → Prop} (n : Nat) (hf : P.funcs[f]? = some fn) (hn : (fn.name == "runtime.NumGoroutine") = false) (hb : fn.body = some body) (hnt : Nat.ble args.length fn.ntmps = true)
    (h : ∀ B : Base, evp { P := P, nt := fn.ntmps, fn := f, ro := none, imps := [], X := XR P [] fn.results B fun x T => frz x T False fun x' _ => x'.pureB = true ∧ Q x', B := B, D := [] } n [.code body] (env0 0 args) []) : Pure P f args Q :=
  pure_of_fun (fun_of_goes hf hn hb hnt fun imps B hi => by
    have : imps = [] := List.length_eq_zero_iff.1 hi
    subst this
    exact evp_sound _ _ _ _ _ (h B))

/-! ### Loops -/
/-- A loop, by a measure: at its head the slots and objects are what Eo and To say of some i. -/
theorem goes_iter {c : Cx} {body : Code} {k : List Item} {E : Env} {T : Heap} {ι : Type} (Inv : ι → Prop) (μ : ι → Nat) (Eo : ι → Env) (To : ι → Heap) (i0 : ι) (n : Nat) (hD : ∀ i, c.D.all (Nat.blt · (To i).length) = true) (hi : ∀ i, Nat.ble c.imps.length (To i).length = true)
    (h0 : Inv i0 ∧ envIs (To i0).length E (Eo i0) ∧ heapIs (To i0).length T (To i0))
    (step : ∀ i, Inv i → (∀ j E T, Inv j ∧ μ j < μ i ∧ envIs (To j).length E (Eo j) ∧ heapIs (To j).length T (To j) → Goes c (.inLoop body :: k) E T) → evp c n (.code body :: .inLoop body :: k) (Eo i) (To i)) : Goes c (.code (.loop body) :: k) E T := by
  have key : ∀ (m : Nat) (i : ι), μ i = m → Inv i → Goes c (.code body :: .inLoop body :: k) (Eo i) (To i) := by
    intro m
    induction m using Nat.strongRecOn with
    | _ m ih =>
      intro i hm hinv
      refine evp_sound n _ _ _ _ (step i hinv fun j E T ⟨h1, h2, h3, h4⟩ => goes_to (Eo j) (To j) (hD j) (Nat.le_of_ble_eq_true (hi j)) h3 h4 (goes_still (fun b a cs w => stepR_inLoop) (ih (μ j) (by omega) j rfl h1)))
  exact goes_to (Eo i0) (To i0) (hD i0) (Nat.le_of_ble_eq_true (hi i0)) h0.2.1 h0.2.2 (goes_still (fun b a cs w => stepR_loop) (key _ i0 rfl h0.1))

end Bow
/- AE17: what an operation's evaluation hangs on: its operands, and the objects that these name. -/
namespace Bow
open Go

variable {F : Prop}

theorem ltake_det {α : Type} : ∀ (xs : List α) (n : Nat) (K : List α → Prop), ltake xs n F K → F ∨ ∃ ys, K ys ∧ ∀ F' K', K' ys → ltake xs n F' K'
  | xs, 0, K, h => .inr ⟨[], by cases xs <;> exact h, fun F' K' hk => by cases xs <;> exact hk⟩
  | [], n + 1, K, h => .inl h
  | x :: xs, n + 1, K, h => by
    rw [ltake] at h
    rcases ltake_det xs n _ h with h | ⟨ys, h1, h2⟩
    · exact .inl h
    · exact .inr ⟨_, h1, fun F' K' hk => by rw [ltake]; exact h2 F' _ hk⟩
theorem lover_det {α : Type} : ∀ (xs : List α) (n : Nat) (cs : List α) (K : List α → Prop), lover xs n cs F K → F ∨ ∃ ys, K ys ∧ ∀ F' K', K' ys → lover xs n cs F' K'
  | [], n, c :: cs, K, h => by cases n <;> exact .inl h
  | [], 0, [], K, h => .inr ⟨[], h, fun _ _ hk => hk⟩
  | [], n + 1, [], K, h => .inl h
  | x :: xs, 0, [], K, h => .inr ⟨x :: xs, h, fun _ _ hk => hk⟩
  | x :: xs, 0, c :: cs, K, h => by
    rw [lover] at h
    rcases lover_det xs 0 cs _ h with h | ⟨ys, h1, h2⟩
    · exact .inl h
    · exact .inr ⟨_, h1, fun F' K' hk => by rw [lover]; exact h2 F' _ hk⟩
  | x :: xs, n + 1, cs, K, h => by
    rw [lover] at h
    rcases lover_det xs n cs _ h with h | ⟨ys, h1, h2⟩
    · exact .inl h
    · exact .inr ⟨_, h1, fun F' K' hk => by rw [lover]; exact h2 F' _ hk⟩
theorem partK_det {P : Program} {t : TypeId} {cs : List V} {off : Nat} {K : V → Prop} (h : partK P t cs off F K) : F ∨ ∃ v, K v ∧ ∀ F' K', K' v → partK P t cs off F' K' := by
  unfold partK at h ⊢
  split at h
  · rename_i d i _ _
    cases hb : aggT d with
    | true =>
      rw [hb] at h
      simp only [cond_true] at h ⊢
      rcases ltake_det _ _ _ h with h | ⟨ys, h1, h2⟩
      · exact .inl h
      · exact .inr ⟨_, h1, fun F' K' hk => h2 F' _ hk⟩
    | false =>
      rw [hb] at h
      simp only [cond_false] at h ⊢
      split at h
      · simp only [fv_eq] at h ⊢
        exact .inr ⟨_, h, fun F' K' hk => hk⟩
      · exact .inl h
  · exact .inl h
theorem eqF_det {P : Program} : ∀ (fs : List Field) (i : Nat) (xs ys : List V) (K : Bool → Prop), eqF P i fs xs ys F K → F ∨ ∃ b, K b ∧ ∀ F' K', K' b → eqF P i fs xs ys F' K'
  | [], i, xs, ys, K, h => .inr ⟨true, h, fun _ _ hk => hk⟩
  | f :: fs, i, [], ys, K, h => .inl h
  | f :: fs, i, x :: xs, [], K, h => .inl h
  | f :: fs, i, x :: xs, y :: ys, K, h => by
    rw [eqF] at h
    cases hb : Nat.beq f.offset i with
    | false => rw [hb] at h; exact .inl h
    | true =>
      rw [hb] at h
      simp only [cond_true] at h
      cases he : eq1 P f.type x y with
      | none => rw [he] at h; exact .inl h
      | some e =>
        rw [he] at h
        rcases eqF_det fs _ xs ys _ h with h | ⟨r, h1, h2⟩
        · exact .inl h
        · exact .inr ⟨_, h1, fun F' K' hk => by rw [eqF]; simp only [hb, cond_true, he]; exact h2 _ _ hk⟩
theorem binK_det {P : Program} {t : TypeId} {op : BinOp} {x y : V} {K : V → Prop} (h : binK P t op x y F K) : F ∨ ∃ v, K v ∧ ∀ F' K', K' v → binK P t op x y F' K' := by
  unfold binK at h ⊢
  split at h
  all_goals first
    | exact .inl h
    | skip
  all_goals (split at h)
  all_goals first
    | exact .inl h
    | exact .inr ⟨_, h, fun _ _ hk => hk⟩
    | exact .inr ⟨_, h.2, fun _ _ hk => ⟨h.1, hk⟩⟩
    | exact .inr ⟨_, h.2.2, fun _ _ hk => ⟨h.1, h.2.1, hk⟩⟩
    | skip
  all_goals (split at h)
  all_goals first
    | exact .inl h
    | (obtain ⟨h0, h⟩ := h
       rcases eqF_det _ _ _ _ _ h with h | ⟨r, h1, h2⟩
       · exact .inl h
       · exact .inr ⟨_, h1, fun F' K' hk => ⟨h0, h2 _ _ hk⟩⟩)
theorem unK_det {op : UnOp} {x : V} {K : V → Prop} (h : unK op x F K) : F ∨ ∃ v, K v ∧ ∀ F' K', K' v → unK op x F' K' := by
  unfold unK at h ⊢
  split at h
  all_goals first
    | exact .inl h
    | exact .inr ⟨_, h, fun _ _ hk => hk⟩
    | exact .inr ⟨_, h.2, fun _ _ hk => ⟨h.1, hk⟩⟩
theorem lo?_det {E : Env} {o : Option Operand} {d : Int} {K : Int → Prop} (h : lo? E o d K F) : F ∨ ∃ n, K n ∧ ∀ K' F', K' n → lo? E o d K' F' := by
  unfold lo? at h ⊢
  split at h
  · exact .inr ⟨_, h, fun _ _ hk => hk⟩
  · split at h
    · exact .inr ⟨_, h, fun _ _ hk => hk⟩
    · exact .inl h
theorem buildK_det {pl : List (Nat × Nat)} {E : Env} : ∀ (ps : List (Nat × Operand)) (cs : List V) (K : List V → Prop), buildK pl E ps cs F K → F ∨ ∃ ys, K ys ∧ ∀ F' K', K' ys → buildK pl E ps cs F' K'
  | [], cs, K, h => .inr ⟨cs, h, fun _ _ hk => hk⟩
  | (i, x) :: ps, cs, K, h => by
    rw [buildK] at h
    split at h
    · rename_i off sz hl
      rw [fv_eq] at h
      cases hb : (Nat.beq (lcount (opd E x).cells 0) sz && onesB (opd E x).cells) with
      | false => rw [hb] at h; exact .inl h
      | true =>
        rw [hb] at h
        rcases lover_det _ _ _ _ h with h | ⟨cs', h, h1⟩
        · exact .inl h
        rcases buildK_det ps cs' K h with h | ⟨ys, h, h2⟩
        · exact .inl h
        · exact .inr ⟨ys, h, fun F' K' hk => by rw [buildK]; simp only [hl, fv_eq, hb, cond_true]; exact h1 F' _ (h2 F' K' hk)⟩
    · exact .inl h

def vloc : V → List Nat
  | .osl (.loc k) .. => [k]
  | .ptr (.loc k) _ => [k]
  | .eptr (.loc k) .. => [k]
  | _ => []
def touch (E : Env) : Op → List Nat
  | .load _ x | .nilCheck x | .fieldAddr _ x _ | .indexAddr _ x _ | .slice _ x _ _ _ => vloc (opd E x)
  | .store _ x _ => vloc (opd E x)
  | .call { callee := .builtin _, args, .. } => args.toList.flatMap fun x => vloc (opd E x)
  | _ => []

/-- The objects that an operation sets. -/
def wr (E : Env) : Op → List Nat
  | .store _ x _ => vloc (opd E x)
  | .call { callee := .builtin .append, args, .. } => match args.toList with
    | x :: _ => vloc (opd E x)
    | [] => []
  | _ => []

theorem loadK_det {P : Program} {t : TypeId} {p : V} {T : Heap} {B : Base} {imps : List Nat} {K : V → Prop} (h : loadK P t p T B imps F K) :
    F ∨ ∃ v, K v ∧ ∀ T', (∀ k ∈ vloc p, T'[k]? = T[k]?) → ∀ F' K', K' v → loadK P t p T' B imps F' K' := by
  unfold loadK at h
  split at h
  · split at h
    · rename_i hk
      rcases partK_det h with h | ⟨v, h1, h2⟩
      · exact .inl h
      · refine .inr ⟨v, h1, fun T' hT F' K' hk' => ?_⟩
        unfold loadK
        simp only
        rw [lget_eq, hT _ (by simp [vloc]), ← lget_eq, hk]
        exact h2 F' K' hk'
    · exact .inl h
  · rcases partK_det h with h | ⟨v, h1, h2⟩
    · exact .inl h
    · exact .inr ⟨v, h1, fun T' _ F' K' hk' => by unfold loadK; exact h2 F' K' hk'⟩
  · obtain ⟨h0, cs, h3, h⟩ := h
    rcases partK_det h with h | ⟨v, h1, h2⟩
    · exact .inl h
    · exact .inr ⟨v, h1, fun T' _ F' K' hk' => by unfold loadK; exact ⟨h0, cs, h3, h2 F' K' hk'⟩⟩
  · split at h
    · rename_i hk
      obtain ⟨h0, x, h3, h⟩ := h
      rcases partK_det h with h | ⟨v, h1, h2⟩
      · exact .inl h
      · refine .inr ⟨v, h1, fun T' hT F' K' hk' => ?_⟩
        unfold loadK
        simp only
        rw [lget_eq, hT _ (by simp [vloc]), ← lget_eq, hk]
        exact ⟨h0, x, h3, h2 F' K' hk'⟩
    · exact .inl h
  · exact .inl h

/-- Objects set, one by one. -/
def app (T : Heap) : List (Nat × Option HObj) → Heap
  | [] => T
  | (k, o) :: es => app (T.set k o) es

theorem storeK_det {P : Program} {t : TypeId} {p x : V} {T : Heap} {K : Heap → Prop} (h : storeK P t p x T F K) :
    F ∨ ∃ k o, k ∈ vloc p ∧ K (T.set k o) ∧ ∀ T', (∀ k ∈ vloc p, T'[k]? = T[k]?) → ∀ F' K', K' (T'.set k o) → storeK P t p x T' F' K' := by
  unfold storeK at h
  split at h
  · rename_i k g ix off i hi
    split at h
    · rename_i g' sz xs hk
      obtain ⟨hg, x0, hx0, h⟩ := h
      cases hb : (Nat.beq (lcount x.cells 0) i.size && onesB x.cells && V.pureL x.cells) with
      | false => rw [hb] at h; exact .inl h
      | true =>
        rw [hb] at h
        rcases lover_det _ _ _ _ h with h | ⟨cs', h, h1⟩
        · exact .inl h
        · rw [lset_eq] at h
          refine .inr ⟨k, _, by simp [vloc], h, fun T' hT F' K' hk' => ?_⟩
          unfold storeK
          simp only [hi]
          rw [lget_eq, hT _ (by simp [vloc]), ← lget_eq, hk]
          refine ⟨hg, x0, hx0, ?_⟩
          simp only [hb, cond_true]
          refine h1 F' _ ?_
          rw [lset_eq]
          exact hk'
    · exact .inl h
  · rename_i k off i hi
    split at h
    · rename_i cs hk
      cases hb : (Nat.beq (lcount x.cells 0) i.size && onesB x.cells) with
      | false => rw [hb] at h; exact .inl h
      | true =>
        rw [hb] at h
        rcases lover_det _ _ _ _ h with h | ⟨cs', h, h1⟩
        · exact .inl h
        · rw [lset_eq] at h
          refine .inr ⟨k, _, by simp [vloc], h, fun T' hT F' K' hk' => ?_⟩
          unfold storeK
          simp only [hi]
          rw [lget_eq, hT _ (by simp [vloc]), ← lget_eq, hk]
          simp only [hb, cond_true]
          refine h1 F' _ ?_
          rw [lset_eq]
          exact hk'
    · exact .inl h
  · exact .inl h
theorem appSrc_det {x : V} {sz : Nat} {T : Heap} {K : List V → Prop} (h : appSrc x sz T F K) : F ∨ ∃ ys, K ys ∧ ∀ T', (∀ k ∈ vloc x, T'[k]? = T[k]?) → ∀ F' K', K' ys → appSrc x sz T' F' K' := by
  unfold appSrc at h
  split at h
  · rename_i sz' ys
    cases hb : Nat.beq sz' sz with
    | false => rw [hb] at h; exact .inl h
    | true => rw [hb] at h; exact .inr ⟨ys, h, fun T' _ F' K' hk => by unfold appSrc; simp only [hb, cond_true]; exact hk⟩
  · exact .inr ⟨[], h, fun T' _ F' K' hk => by unfold appSrc; exact hk⟩
  · split at h
    · rename_i g' sz' ys hk
      cases hb : Nat.beq sz' sz with
      | false => rw [hb] at h; exact .inl h
      | true =>
        rw [hb] at h
        refine .inr ⟨ys, h.2.2, fun T' hT F' K' hk' => ?_⟩
        unfold appSrc
        simp only
        rw [lget_eq, hT _ (by simp [vloc]), ← lget_eq, hk]
        simp only [hb, cond_true]
        exact ⟨h.1, h.2.1, hk'⟩
    · exact .inl h
  · exact .inl h
/-- Of an append to own memory. -/
theorem appK_det {P : Program} {t : TypeId} {s x : V} {T : Heap} {K : V → Heap → Prop} (hs : s ≠ .nilsl) (h : appK P t s x T F K) :
    F ∨ ∃ v k o, k ∈ vloc s ∧ K v (T.set k o) ∧ ∀ T', (∀ k ∈ vloc s, T'[k]? = T[k]?) → (∀ k ∈ vloc x, T'[k]? = T[k]?) → ∀ F' K', K' v (T'.set k o) → appK P t s x T' F' K' := by
  unfold appK at h
  split at h
  case h_2 => exact .inl h
  rename_i e ht
  split at h
  case h_2 => exact .inl h
  rename_i i hi
  split at h
  case h_2 => exact .inl h
  rename_i z hz
  cases hb : (Nat.ble 1 i.size && Nat.beq z.cells.size i.size && Nat.ble 1 i.bytes) with
  | false => rw [hb] at h; exact .inl h
  | true =>
  rw [hb] at h
  simp only [cond_true] at h
  rcases appSrc_det h with h | ⟨ys, h, hd⟩
  · exact .inl h
  split at h
  · exact absurd rfl hs
  · rename_i k g l _
    split at h
    · rename_i g' sz xs hk
      cases hb2 : Nat.beq sz i.size with
      | false => rw [hb2] at h; exact .inl h
      | true =>
        rw [hb2] at h
        obtain ⟨h1, h2, h3, h⟩ := h
        rw [lset_eq] at h
        refine .inr ⟨_, k, _, by simp [vloc], h, fun T' hT hT2 F' K' hk' => ?_⟩
        unfold appK
        simp only [ht, hi, hz, hb, cond_true]
        refine hd T' hT2 F' _ ?_
        rw [lget_eq, hT _ (by simp [vloc]), ← lget_eq, hk]
        simp only [hb2, cond_true]
        refine ⟨h1, h2, h3, ?_⟩
        rw [lset_eq]
        exact hk'
    · exact .inl h
  · exact .inl h
end Bow
/- AE18: the operations' evaluation, elsewhere. -/
namespace Bow
open Go

variable {c : Cx} {E E' : Env} {T : Heap} {F : Prop} {K : V → Heap → Prop}

def isNilsl : V → Bool
  | .nilsl => true
  | _ => false
/-- It makes an object. -/
def makes (E : Env) : Op → Bool
  | .box .. | .alloc _ | .buildSlice .. | .makeSlice .. => true
  | .call { callee := .builtin .append, args, .. } => match args.toList with
    | x :: _ => isNilsl (opd E x)
    | [] => false
  | _ => false

theorem evOp_det {o : Op} (hm : makes E o = false) (h : evOp c o E T F K) :
    F ∨ ∃ x eff, K x (app T eff) ∧ (∀ p ∈ eff, p.1 ∈ wr E o) ∧ ∀ T', (∀ k ∈ touch E o, T'[k]? = T[k]?) → ∀ F' K', K' x (app T' eff) → evOp c o E T' F' K' := by
  have none_ : ∀ (x : V), K x T → (∀ T', (∀ k ∈ touch E o, T'[k]? = T[k]?) → ∀ (F' : Prop) (K' : V → Heap → Prop), K' x T' → evOp c o E T' F' K') →
      F ∨ ∃ x eff, K x (app T eff) ∧ (∀ p ∈ eff, p.1 ∈ wr E o) ∧ ∀ T', (∀ k ∈ touch E o, T'[k]? = T[k]?) → ∀ F' K', K' x (app T' eff) → evOp c o E T' F' K' :=
    fun x h1 h2 => .inr ⟨x, [], h1, by simp, h2⟩
  cases o with
  | move x => simp only [evOp, fv_eq] at h; exact none_ _ h fun T' _ F' K' hk => by simp only [evOp, fv_eq]; exact hk
  | assign x => simp only [evOp, fv_eq] at h; exact none_ _ h fun T' _ F' K' hk => by simp only [evOp, fv_eq]; exact hk
  | pick x y z =>
    simp only [evOp] at h
    simp only [fv_eq] at h
    split at h
    · rename_i hx; exact none_ _ h fun T' _ F' K' hk => by simp only [evOp, hx, fv_eq]; exact hk
    · rename_i hx; exact none_ _ h fun T' _ F' K' hk => by simp only [evOp, hx, fv_eq]; exact hk
    · rename_i t hx
      cases t with
      | true => exact none_ _ (h.1 rfl) fun T' _ F' K' hk => by simp only [evOp, hx, fv_eq]; exact ⟨fun _ => hk, fun h => by cases h⟩
      | false => exact none_ _ (h.2 rfl) fun T' _ F' K' hk => by simp only [evOp, hx, fv_eq]; exact ⟨fun h => by (cases h), fun _ => hk⟩
    · exact .inl h
  | box t x => cases hm
  | alloc t => cases hm
  | buildSlice t l ps => cases hm
  | makeSlice t xl xc => cases hm
  | build t ps =>
    simp only [evOp] at h
    split at h
    · rename_i fs z ht hz
      split at h
      · rename_i pl hpl
        rcases buildK_det _ _ _ h with h | ⟨ys, h1, h2⟩
        · exact .inl h
        · exact none_ _ h1 fun T' _ F' K' hk => by simp only [evOp, ht, hz, hpl]; exact h2 F' _ hk
      · exact .inl h
    · rename_i n e z ht hz
      split at h
      · rename_i ti hti
        rcases buildK_det _ _ _ h with h | ⟨ys, h1, h2⟩
        · exact .inl h
        · exact none_ _ h1 fun T' _ F' K' hk => by simp only [evOp, ht, hz, hti]; exact h2 F' _ hk
      · exact .inl h
    · exact .inl h
  | load t x =>
    simp only [evOp] at h
    rcases loadK_det h with h | ⟨v, h1, h2⟩
    · exact .inl h
    · exact none_ _ h1 fun T' hT F' K' hk => by simp only [evOp]; exact h2 T' hT F' _ hk
  | store t x y =>
    simp only [evOp] at h
    rw [fv_eq] at h
    rcases storeK_det h with h | ⟨k, ob, hk, h1, h2⟩
    · exact .inl h
    · exact .inr ⟨_, [(k, ob)], h1, by simpa [wr] using hk, fun T' hT F' K' hk' => by simp only [evOp, fv_eq]; exact h2 T' hT F' _ hk'⟩
  | nilCheck x =>
    simp only [evOp] at h
    split at h
    · rename_i k of hx
      split at h
      · rename_i cs hk
        exact none_ _ h fun T' hT F' K' hk' => by
          simp only [evOp, hx]
          rw [lget_eq, hT k (by simp [touch, hx, vloc]), ← lget_eq, hk]
          exact hk'
      · exact .inl h
    · rename_i r of hx
      exact none_ _ h.2.2 fun T' hT F' K' hk' => by simp only [evOp, hx]; exact ⟨h.1, h.2.1, hk'⟩
    · rename_i hx
      exact none_ _ h fun T' hT F' K' hk' => by simp only [evOp, hx]; exact hk'
    · rename_i f a cap hx
      split at h
      · exact none_ _ h fun T' hT F' K' hk' => by simp only [evOp, hx]; exact hk'
      · exact .inl h
    · exact .inl h
  | binOp op t x y t' =>
    simp only [evOp] at h
    rcases binK_det h with h | ⟨v, h1, h2⟩
    · exact .inl h
    · exact none_ _ h1 fun T' _ F' K' hk => by simp only [evOp]; exact h2 F' _ hk
  | unOp op t x =>
    simp only [evOp] at h
    rcases unK_det h with h | ⟨v, h1, h2⟩
    · exact .inl h
    · exact none_ _ h1 fun T' _ F' K' hk => by simp only [evOp]; exact h2 F' _ hk
  | convert s d x =>
    simp only [evOp] at h
    split at h
    · rename_i h1 h2 h3
      exact none_ _ h fun T' _ F' K' hk => by simp only [evOp, h1, h2, h3]; exact hk
    · exact .inl h
  | makeFunc f xs ys =>
    simp only [evOp, opds_eq] at h
    exact none_ _ h fun T' _ F' K' hk => by simp only [evOp, opds_eq]; exact hk
  | slice t x lo hi mx =>
    simp only [evOp] at h
    split at h
    · rename_i h1 h2
      rcases lo?_det h with h | ⟨l, h, k1⟩
      · exact .inl h
      rcases lo?_det h with h | ⟨r, h, k2⟩
      · exact .inl h
      exact none_ _ h.2.2.2 fun T' _ F' K' hk => by simp only [evOp, h1, h2]; exact k1 _ F' (k2 _ F' ⟨h.1, h.2.1, h.2.2.1, hk⟩)
    · rename_i h1 h2
      split at h
      · rename_i ti hti
        rename_i sz xs _
        cases hb : Nat.beq sz ti.size with
        | false => rw [hb] at h; exact .inl h
        | true =>
          rw [hb] at h
          simp only [cond_true] at h
          rcases lo?_det h with h | ⟨l, h, k1⟩
          · exact .inl h
          rcases lo?_det h with h | ⟨r, h, k2⟩
          · exact .inl h
          exact none_ _ h.2.2.2 fun T' _ F' K' hk => by simp only [evOp, h1, h2, hti, hb, cond_true]; exact k1 _ F' (k2 _ F' ⟨h.1, h.2.1, h.2.2.1, hk⟩)
      · exact .inl h
    · exact .inl h
  | fieldAddr t x f =>
    simp only [evOp] at h
    split at h
    case h_2 => exact .inl h
    rename_i fs ht
    split at h
    case h_2 => exact .inl h
    rename_i fd hfd
    split at h
    case h_2 => exact .inl h
    rename_i ti hti
    cases hb : Nat.ble 1 ti.size with
    | false => rw [hb] at h; exact .inl h
    | true =>
    rw [hb] at h
    simp only [cond_true] at h
    split at h
    · rename_i k of hx
      split at h
      · rename_i cs hk
        exact none_ _ h fun T' hT F' K' hk' => by
          simp only [evOp, ht, hfd, hti, hb, hx, cond_true]
          rw [lget_eq, hT k (by simp [touch, hx, vloc]), ← lget_eq, hk]
          exact hk'
      · exact .inl h
    · rename_i r of hx
      exact none_ _ h.2.2 fun T' hT F' K' hk' => by simp only [evOp, ht, hfd, hti, hb, hx, cond_true]; exact ⟨h.1, h.2.1, hk'⟩
    · rename_i cs of hx
      exact none_ _ h fun T' hT F' K' hk' => by simp only [evOp, ht, hfd, hti, hb, hx, cond_true]; exact hk'
    · rename_i k g i of hx
      split at h
      · rename_i g' sz xs hk
        exact none_ _ h.2 fun T' hT F' K' hk' => by
          simp only [evOp, ht, hfd, hti, hb, hx, cond_true]
          rw [lget_eq, hT k (by simp [touch, hx, vloc]), ← lget_eq, hk]
          exact ⟨h.1, hk'⟩
      · exact .inl h
    · exact .inl h
  | field t x f =>
    simp only [evOp] at h
    split at h
    · rename_i fs cs h1 h2
      split at h
      · rename_i fd hfd
        rcases partK_det h with h | ⟨v, h3, h4⟩
        · exact .inl h
        · exact none_ _ h3 fun T' _ F' K' hk => by simp only [evOp, h1, h2, hfd]; exact h4 F' _ hk
      · exact .inl h
    · exact .inl h
  | indexAddr t x ix =>
    simp only [evOp] at h
    split at h
    · rename_i h1 h2 h3
      split at h
      · rename_i ti hti
        rename_i e sz xs _ i _
        cases hb : (Nat.beq sz ti.size && Nat.ble 1 sz) with
        | false => rw [hb] at h; exact .inl h
        | true =>
          rw [hb] at h
          obtain ⟨k1, v, k2, h⟩ := h
          exact none_ _ h fun T' _ F' K' hk => by simp only [evOp, h1, h2, h3, hti, hb, cond_true]; exact ⟨k1, v, k2, hk⟩
      · exact .inl h
    · rename_i e k g off len kk i h1 h2 h3
      split at h
      · rename_i ti g' sz xs hti hk
        cases hb : (Nat.beq sz ti.size && Nat.ble 1 sz) with
        | false => rw [hb] at h; exact .inl h
        | true =>
          rw [hb] at h
          obtain ⟨k1, k2, k3, h⟩ := h
          exact none_ _ h fun T' hT F' K' hk' => by
            simp only [evOp, h1, h2, h3, hti]
            rw [lget_eq, hT k (by simp [touch, h2, vloc]), ← lget_eq, hk]
            simp only [hb, cond_true]
            exact ⟨k1, k2, k3, hk'⟩
      · exact .inl h
    · exact .inl h
  | index t x ix =>
    simp only [evOp] at h
    split at h
    · rename_i h1 h2 h3
      obtain ⟨k1, b, k2, h⟩ := h
      exact none_ _ h fun T' _ F' K' hk => by simp only [evOp, h1, h2, h3]; exact ⟨k1, b, k2, hk⟩
    · rename_i h1 h2 h3
      split at h
      · rename_i ti hti
        obtain ⟨k1, k2, h⟩ := h
        rcases partK_det h with h | ⟨v, h4, h5⟩
        · exact .inl h
        · exact none_ _ h4 fun T' _ F' K' hk => by simp only [evOp, h1, h2, h3, hti]; exact ⟨k1, k2, h5 F' _ hk⟩
      · exact .inl h
    · exact .inl h
  | extract x i =>
    simp only [evOp] at h
    split at h
    · rename_i vs h1
      split at h
      · rename_i v h2
        rw [fv_eq] at h
        exact none_ _ h fun T' _ F' K' hk => by simp only [evOp, h1, h2, fv_eq]; exact hk
      · exact .inl h
    · exact .inl h
  | call cl =>
    obtain ⟨callee, args, ts⟩ := cl
    cases callee with
    | builtin b =>
      obtain ⟨args⟩ := args
      obtain ⟨ts⟩ := ts
      simp only [evOp] at h
      split at h
      · rename_i x t
        split at h
        · rename_i h1 h2; exact none_ _ h fun T' _ F' K' hk => by simp only [evOp, h1, h2]; exact hk
        · rename_i h1 h2; exact none_ _ h fun T' _ F' K' hk => by simp only [evOp, h1, h2]; exact hk
        · rename_i e k g of l h1 h2
          split at h
          · rename_i g' sz xs hk
            exact none_ _ h.2 fun T' hT F' K' hk' => by
              simp only [evOp, h1, h2]
              rw [lget_eq, hT k (by simp [touch, h2, vloc]), ← lget_eq, hk]
              exact ⟨h.1, hk'⟩
          · exact .inl h
        · rename_i h1 h2; exact none_ _ h fun T' _ F' K' hk => by simp only [evOp, h1, h2]; exact hk
        · exact .inl h
      · split at h
        · rename_i h1 h2; exact none_ _ h fun T' _ F' K' hk => by simp only [evOp, h1, h2]; exact hk
        · exact .inl h
      · split at h
        · rename_i h1 h2; exact none_ _ h fun T' _ F' K' hk => by simp only [evOp, h1, h2]; exact hk
        · exact .inl h
      · rename_i x y t t'
        split at h
        · rename_i h1
          have hne : opd E x ≠ .nilsl := fun e => by simp [makes, e, isNilsl] at hm
          rcases appK_det hne h with h | ⟨v, k, ob, hk, h2, h3⟩
          · exact .inl h
          · refine .inr ⟨v, [(k, ob)], h2, ?_, fun T' hT F' K' hk' => ?_⟩
            · simp [wr, hk]
            · simp only [evOp, h1]
              exact h3 T' (fun k hk => hT k (by simp [touch, hk])) (fun k hk => hT k (by simp [touch, hk])) F' K' hk'
        · exact .inl h
      · exact .inl h
    | _ => exact .inl h
  | _ => exact .inl h

/-! ### Other slots -/
theorem lo?_congE {o : Option Operand} {d : Int} {K : Int → Prop} (h : ∀ x, o = some x → opd E' x = opd E x) : lo? E' o d K F = lo? E o d K F := by
  cases o with
  | none => rfl
  | some x => simp only [lo?, h x rfl]
theorem buildK_congE {pl : List (Nat × Nat)} : ∀ (ps : List (Nat × Operand)) (cs : List V) (K : List V → Prop), (∀ p ∈ ps, opd E' p.2 = opd E p.2) → buildK pl E' ps cs F K = buildK pl E ps cs F K
  | [], cs, K, _ => rfl
  | (i, x) :: ps, cs, K, h => by
    have hx : opd E' x = opd E x := h (i, x) List.mem_cons_self
    rw [buildK, buildK, hx]
    have ih : ∀ cs K, buildK pl E' ps cs F K = buildK pl E ps cs F K := fun cs K => buildK_congE ps cs K fun p hp => h p (List.mem_cons_of_mem _ hp)
    simp only [ih]
theorem elems_congE : ∀ (ps : List (Nat × Operand)) (n : Nat) (K : List V → Prop), (∀ p ∈ ps, opd E' p.2 = opd E p.2) → elems E' ps n K F = elems E ps n K F
  | [], n, K, _ => rfl
  | (i, x) :: ps, n, K, h => by
    have hx : opd E' x = opd E x := h (i, x) List.mem_cons_self
    rw [elems, elems, hx]
    have ih : ∀ n K, elems E' ps n K F = elems E ps n K F := fun n K => elems_congE ps n K fun p hp => h p (List.mem_cons_of_mem _ hp)
    simp only [ih]

theorem evOp_congE {o : Op} (h : ∀ x ∈ o.operands.toList, opd E' x = opd E x) : evOp c o E' T F K = evOp c o E T F K := by
  cases o with
  | move x => simp only [evOp, h x (by simp [Op.operands])]
  | assign x => simp only [evOp, h x (by simp [Op.operands])]
  | pick x y z => simp only [evOp, h x (by simp [Op.operands]), h y (by simp [Op.operands]), h z (by simp [Op.operands])]
  | box t x => simp only [evOp, h x (by simp [Op.operands])]
  | build t ps =>
    have hk : ∀ (pl : List (Nat × Nat)) (cs : List V) (K : List V → Prop), buildK pl E' ps.toList cs F K = buildK pl E ps.toList cs F K := fun pl cs K => buildK_congE _ _ _ fun p hp => h _ (by simp only [Op.operands]; exact List.mem_map.2 ⟨p, hp, rfl⟩)
    simp only [evOp, hk]
  | buildSlice t l ps =>
    have hk : ∀ (n : Nat) (K : List V → Prop), elems E' ps.toList n K F = elems E ps.toList n K F := fun n K => elems_congE _ _ _ fun p hp => h _ (by simp only [Op.operands]; exact List.mem_map.2 ⟨p, hp, rfl⟩)
    simp only [evOp, hk]
  | load t x => simp only [evOp, h x (by simp [Op.operands])]
  | store t x y => simp only [evOp, h x (by simp [Op.operands]), h y (by simp [Op.operands])]
  | nilCheck x => simp only [evOp, h x (by simp [Op.operands])]
  | binOp op t x y t' => simp only [evOp, h x (by simp [Op.operands]), h y (by simp [Op.operands])]
  | unOp op t x => simp only [evOp, h x (by simp [Op.operands])]
  | convert s d x => simp only [evOp, h x (by simp [Op.operands])]
  | makeFunc f xs ys =>
    have h1 : xs.toList.map (opd E') = xs.toList.map (opd E) := List.map_congr_left fun x hx => h x (by simp [Op.operands]; exact .inl (by simpa using hx))
    have h2 : ys.toList.map (opd E') = ys.toList.map (opd E) := List.map_congr_left fun x hx => h x (by simp [Op.operands]; exact .inr (by simpa using hx))
    simp only [evOp, opds_eq, h1, h2]
  | slice t x lo hi mx =>
    have h1 : ∀ (d : Int) (K : Int → Prop), lo? E' lo d K F = lo? E lo d K F := fun d K => lo?_congE fun x hx => h x (by simp [Op.operands, hx])
    have h2 : ∀ (d : Int) (K : Int → Prop), lo? E' hi d K F = lo? E hi d K F := fun d K => lo?_congE fun x hx => h x (by simp [Op.operands, hx])
    simp only [evOp, h x (by simp [Op.operands]), h1, h2]
  | fieldAddr t x f => simp only [evOp, h x (by simp [Op.operands])]
  | field t x f => simp only [evOp, h x (by simp [Op.operands])]
  | indexAddr t x ix => simp only [evOp, h x (by simp [Op.operands]), h ix (by simp [Op.operands])]
  | index t x ix => simp only [evOp, h x (by simp [Op.operands]), h ix (by simp [Op.operands])]
  | extract x i => simp only [evOp, h x (by simp [Op.operands])]
  | call cl =>
    obtain ⟨callee, args, ts⟩ := cl
    cases callee with
    | builtin b =>
      obtain ⟨args⟩ := args
      obtain ⟨ts⟩ := ts
      simp only [Op.operands, Call.operands] at h
      simp only [evOp]
      split
      · rename_i x t; simp only [h x (by simp)]
      · rename_i x y; simp only [h x (by simp), h y (by simp)]
      · rename_i x y; simp only [h x (by simp), h y (by simp)]
      · rename_i x y t t'; simp only [h x (by simp), h y (by simp)]
      · rfl
    | _ => rfl
  | _ => rfl
end Bow
/- AE19: what lay nowhere yet, laid: states with names reserved; the operations that make an object, into a reserved name. -/
namespace Bow
open Go

section
variable {imps : List Nat} {nt : Nat} {w w' : World} {β β' : Nat → Loc} {H : Heap} {m : List Nat} {E : Env} {T : Heap} {B : Base} {D : List Nat} {a : Act}

theorem SRel.setG (h : SRel imps nt w β H m ⟨E, T, B, D⟩ a) {k r : Nat} {o' : Option HObj} (hk : m[k]? = some r) (hsc : ∀ o, o' = some o → o.sc m.length) (hD : k ∉ D)
    (f : Fr0 w β H w' β' (H.set r (o'.map (HObj.conv m)))) (hr : HRel w' β' (H.set r (o'.map (HObj.conv m)))) (hβ : ∀ q, q ≠ r → β' q = β q) :
    SRel imps nt w' β' (H.set r (o'.map (HObj.conv m))) m ⟨E, T.set k o', B, D⟩ a := by
  have hml : m.length = T.length := h.mlen
  have hrl := h.lt hk
  have hrm : r ∈ m := List.mem_of_getElem? hk
  refine ⟨hr, h.size, fun j => (h.env j).mono0 f, by simpa using hml, h.nodup, ?_, h.imp, ?_, fun r hr => h.fut r (by simpa using hr), h.own, ?_, ?_, h.defs, ?_⟩
  · intro j q o hj ho
    by_cases e : j = k
    · subst e
      have : q = r := Option.some.inj (hj.symm.trans hk)
      subst this
      have hjT : j < T.length := by have := lt_of_get hk; omega
      simp only [List.getElem?_set, hjT, if_true] at ho
      injection ho with ho
      subst ho
      simp [hrl]
    · have hne : q ≠ r := fun e' => e (h.inj hj (e' ▸ hk))
      simp only at ho
      rw [List.getElem?_set_ne (fun x => e x.symm)] at ho
      rw [List.getElem?_set_ne (fun x => hne x.symm)]
      exact h.loc j q o hj ho
  · intro q hq hqm
    rw [List.getElem?_set_ne (fun x : r = q => hqm (x ▸ hrm))]
    exact h.base q (by simpa using hq) hqm
  · intro p hp
    simpa using h.scE p hp
  · intro j o ho
    simp only [List.length_set]
    by_cases e : j = k
    · subst e
      have hjT : j < T.length := by have := lt_of_get hk; omega
      simp only [List.getElem?_set, hjT, if_true] at ho
      injection ho with ho
      rw [← hml]
      exact hsc o ho
    · simp only at ho
      rw [List.getElem?_set_ne (fun x => e x.symm)] at ho
      exact h.scT j o ho
  · intro j q hj
    obtain ⟨r', b, N, h1, h2, h3, h4⟩ := h.marks j q hj
    have hqk : q ≠ k := fun e => hD (e ▸ List.mem_of_getElem? hj)
    have hne : r' ≠ r := fun e' => hqk (h.inj h1 (e' ▸ hk))
    refine ⟨r', b, N, h1, ?_, by rw [hβ r' hne]; exact h3, h4⟩
    simp only
    rw [List.getElem?_set_ne (fun x => hqk x.symm)]
    exact h2

theorem SRel.notD (h : SRel imps nt w β H m ⟨E, T, B, D⟩ a) {k : Nat} {o : HObj} (hk : T[k]? = some (some o)) (ho : o ≠ .dfr) : k ∉ D := fun hm => by
  obtain ⟨j, hj, e⟩ := List.mem_iff_getElem.1 hm
  obtain ⟨r', b, N, h1, h2, h3, h4⟩ := h.marks j k (by simp only; rw [List.getElem?_eq_getElem hj, e])
  simp only at h2
  rw [hk] at h2
  injection h2 with h2
  injection h2 with h2
  exact ho h2

/-- What a step into a reserved name comes to. -/
def Into (imps : List Nat) (nt : Nat) (w : World) (β : Nat → Loc) (H : Heap) (m : List Nat) (E : Env) (T : Heap) (B : Base) (D : List Nat) (a : Act) (p q : Nat) (w' : World) (o' : HObj) (x : V) (v : Value) : Prop :=
  ∃ β' H', SRel imps nt w' β' H' m ⟨E, T.set p (some o'), B, D⟩ a ∧ Fr0 w β H w' β' H' ∧ (∀ r, r ≠ q → β' r = β r) ∧ Rep w' β' H' (x.conv m) v

theorem SRel.intoBox (h : SRel imps nt w β H m ⟨E, T, B, D⟩ a) {p q : Nat} (hp : m[p]? = some q) (hv : β q = .none) (hd : T[p]? = some (some (.box []))) (cs : List V) (vs : Array Value) (e : TypeId) (hl : cs.length = vs.size)
    (hr : ∀ (j : Nat) (c : V) (v : Value), (V.convL m cs)[j]? = some c → vs[j]? = some v → Rep w β H c v) :
    Into imps nt w β H m E T B D a p q (w.alloc (.cells vs e)) (.box cs) (.ptr (.loc p) 0) (.pointer (some ⟨w.heap.size, 0, none⟩)) := by
  have hq := h.lt hp
  have hH : H[q]? = some (some ((HObj.box []).conv m)) := h.loc p q _ hp hd
  have hf : Fr0 w β H (w.alloc (.cells vs e)) (upd β q (.blk w.heap.size vs.size)) (H.set q (some ((HObj.box cs).conv m))) := Fr0.into _ _ hH hv trivial (fun h => h)
  have hrel : HRel (w.alloc (.cells vs e)) (upd β q (.blk w.heap.size vs.size)) (H.set q (some ((HObj.box cs).conv m))) :=
    h.hrel.into _ _ hH hv trivial (fun h => h) ⟨vs, e, by show (w.heap.push _)[w.heap.size]? = _; simp, rfl, by rw [V.convL_eq]; simpa using hl, fun j c v h1 h2 => (hr j c v h1 h2).mono0 hf⟩
  have hsc : (HObj.box cs).sc m.length := scL_of_rep' hl hr
  refine ⟨_, _, h.setG (o' := some (.box cs)) hp (fun o e => by injection e with e; subst e; exact hsc) (h.notD hd (by intro e; cases e)) hf hrel (fun r hr => upd_ne hr), hf, fun r hr => upd_ne hr, ?_⟩
  simp only [V.conv, Ref.conv, hp]
  exact .ptrLive _ _ _ vs.size (V.convL m cs) (by simp [HObj.conv, hq]) (upd_same _ _ _)

theorem SRel.intoVec (h : SRel imps nt w β H m ⟨E, T, B, D⟩ a) {p q : Nat} (hp : m[p]? = some q) (hv : β q = .none) (hd : T[p]? = some (some (.vec 0 0 []))) (sz : Nat) (xs : List V) (vs : Array Value) (e : TypeId) (n cap : Nat) (hsz : 0 < sz)
    (hx : ∀ x ∈ xs, okE sz x) (hn : n = xs.length) (hcap : n ≤ cap) (hmax : cap ≤ maxLen) (hl : cap * sz = vs.size)
    (hr : ∀ (i : Nat) (x : V) (j : Nat) (c : V) (v : Value), xs[i]? = some x → x.cells[j]? = some c → vs[i * sz + j]? = some v → Rep w β H c v) :
    Into imps nt w β H m E T B D a p q (w.alloc (.cells vs e)) (.vec 2 sz xs) (.osl (.loc p) 2 0 n) (.slice (some ⟨w.heap.size, 0, none⟩) n cap) := by
  subst hn
  have hq := h.lt hp
  have hle : xs.length * sz ≤ vs.size := by rw [← hl]; exact Nat.mul_le_mul_right _ hcap
  have hH : H[q]? = some (some (.vec 0 0 [])) := h.loc p q _ hp hd
  have hev : Evo (.vec 0 0 []) (.vec 2 sz xs) := ⟨by omega, fun e => by omega⟩
  have hf : Fr0 w β H (w.alloc (.cells vs e)) (upd β q (.blk w.heap.size vs.size)) (H.set q (some (.vec 2 sz xs))) := Fr0.into _ _ hH hv hev (fun h => h)
  have hrel : HRel (w.alloc (.cells vs e)) (upd β q (.blk w.heap.size vs.size)) (H.set q (some (.vec 2 sz xs))) :=
    h.hrel.into _ _ hH hv hev (fun h => h) ⟨vs, e, tyG_two _, by show (w.heap.push _)[w.heap.size]? = _; simp, rfl, hle, hsz, hx, fun i x j c v h1 h2 h3 => (hr i x j c v h1 h2 h3).mono0 hf⟩
  refine ⟨_, _, h.setG (o' := some (.vec 2 sz xs)) hp (fun o e => by injection e with e; subst e; trivial) (h.notD hd (by intro e; cases e)) hf hrel (fun r hr => upd_ne hr), hf, fun r hr => upd_ne hr, ?_⟩
  simp only [V.conv, Ref.conv, hp]
  exact .oslBlk _ _ _ _ sz xs w.heap.size vs.size _ _ (by simp [hq, HObj.conv]) (upd_same _ _ _) hcap (by simpa using Nat.le_of_eq hl) (by simpa using hmax) (fun _ => by simp) (by simp)

/-- A nil slice, into a reserved name. -/
theorem SRel.intoNil (h : SRel imps nt w β H m ⟨E, T, B, D⟩ a) {p q : Nat} (hp : m[p]? = some q) (hv : β q = .none) (hd : T[p]? = some (some (.vec 0 0 []))) (sz : Nat) (ad : Option Addr) :
    Into imps nt w β H m E T B D a p q w (.vec 2 sz []) (.osl (.loc p) 2 0 0) (.slice ad 0 0) := by
  have hq := h.lt hp
  have hH : H[q]? = some (some (.vec 0 0 [])) := h.loc p q _ hp hd
  have hf : Fr0 w β H w (upd β q .nil) (H.set q (some (.vec 2 sz []))) := by
    refine ⟨rfl, rfl, rfl, Nat.le_refl _, by simp, ?_, fun _ _ _ => rfl, ?_, fun r hr => upd_ne (hr.ne hH (fun h => h)), fun r s hs => ?_⟩
    · intro r o' _ ho
      rcases get_set_some ho with ⟨h1, h2, _⟩ | ⟨h1, h2⟩
      · injection h2 with h2
        subst h1 h2
        exact ⟨_, hH, ⟨by omega, fun e => by omega⟩, fun hn => absurd hv hn⟩
      · exact ⟨o', h2, Evo.refl _, fun _ _ => upd_ne h1⟩
    · rintro b ⟨r, M, ⟨o, hl, hln⟩, hb⟩
      rcases get_set_some hl with ⟨h1, _, _⟩ | ⟨h1, h2⟩
      · subst h1; rw [upd_same] at hb; cases hb
      · rw [upd_ne h1] at hb; exact .inr ⟨r, M, ⟨o, h2, hln⟩, hb⟩
    · rcases get_set_some hs with ⟨_, h2, _⟩ | ⟨h1, h2⟩
      · injection h2 with h2
        cases h2
      · exact ⟨h2, upd_ne h1⟩
  have hrel : HRel w (upd β q .nil) (H.set q (some (.vec 2 sz []))) := by
    refine h.hrel.step0 hf ?_ ?_
    · intro r o ho
      rcases get_set_some ho with ⟨h1, h2, _⟩ | ⟨h1, h2⟩
      · injection h2 with h2
        subst h1 h2
        rw [upd_same]
        exact .inr rfl
      · exact .inl ⟨h2, upd_ne h1, fun _ _ _ => rfl⟩
    · rintro r r' b M M' ⟨o, hl⟩ ⟨o', hl'⟩ hb hb'
      rcases get_set_some hl with ⟨h1, _, _⟩ | ⟨h1, h2⟩
      · subst h1; rw [upd_same] at hb; cases hb
      rcases get_set_some hl' with ⟨k1, _, _⟩ | ⟨k1, k2⟩
      · subst k1; rw [upd_same] at hb'; cases hb'
      rw [upd_ne h1] at hb
      rw [upd_ne k1] at hb'
      exact h.hrel.inj r r' b M M' ⟨o, h2⟩ ⟨o', k2⟩ hb hb'
  refine ⟨_, _, h.setG (o' := some (.vec 2 sz [])) hp (fun o e => by injection e with e; subst e; trivial) (h.notD hd (by intro e; cases e)) hf hrel (fun r hr => upd_ne hr), hf, fun r hr => upd_ne hr, ?_⟩
  simp only [V.conv, Ref.conv, hp]
  exact .oslNil _ _ sz [] _ (by simp [hq, HObj.conv]) (upd_same _ _ _)

/-- A name reserved. -/
theorem SRel.reserve (h : SRel imps nt w β H m ⟨E, T, B, D⟩ a) (d : HObj) (hd : d = .box [] ∨ d = .vec 0 0 []) :
    ∃ β' H', SRel imps nt w β' H' (m ++ [H.length]) ⟨E, T ++ [some d], B, D⟩ a ∧ Fr w β H w β' H' ∧ β' H.length = .none ∧ (∀ r, r < H.length → β' r = β r) ∧ H'.length = H.length + 1 := by
  have hdc : d.conv m = d := by rcases hd with rfl | rfl <;> rfl
  have hsc : d.sc m.length := by rcases hd with rfl | rfl <;> exact trivial
  have hdn : ¬ isSeal d := by rcases hd with rfl | rfl <;> exact fun h => h
  have hf : Fr w β H w (upd β H.length .none) (H ++ [some d]) := by
    refine ⟨⟨rfl, rfl, rfl, Nat.le_refl _, by simp, ?_, fun _ _ _ => rfl, ?_, fun r hr => upd_ne (Nat.ne_of_lt hr.lt), fun r s hs => ⟨(seal_snoc hdn hs).2, upd_ne (Nat.ne_of_lt (seal_snoc hdn hs).1)⟩⟩, fun r hr hn => by rw [upd_ne (Nat.ne_of_lt hr)]; exact hn⟩
    · intro r o' hr ho'
      rw [List.getElem?_append_left hr] at ho'
      exact ⟨o', ho', Evo.refl _, fun _ _ => upd_ne (Nat.ne_of_lt hr)⟩
    · rintro b ⟨r, M, hl, hb⟩
      rcases open_snoc hl with ⟨h1, h2⟩ | ⟨h1, h2⟩
      · rw [upd_ne (Nat.ne_of_lt h1)] at hb
        exact .inr ⟨r, M, h2, hb⟩
      · subst h1
        rw [upd_same] at hb
        cases hb
  have hrel : HRel w (upd β H.length .none) (H ++ [some d]) := by
    refine h.hrel.step hf ?_ ?_
    · intro r o' ho'
      rcases get_snoc ho' with ⟨h1, h2⟩ | ⟨h1, h2⟩
      · exact .inl ⟨h2, upd_ne (Nat.ne_of_lt h1), fun _ _ _ => rfl⟩
      · subst h1
        rw [upd_same]
        refine .inr ?_
        injection h2 with h2
        subst h2
        rcases hd with rfl | rfl <;> trivial
    · rintro r r' b M M' hl hl' hb hb'
      rcases live_snoc hl with ⟨h1, h2⟩ | ⟨h1, _⟩
      · rcases live_snoc hl' with ⟨k1, k2⟩ | ⟨k1, _⟩
        · rw [upd_ne (Nat.ne_of_lt h1)] at hb
          rw [upd_ne (Nat.ne_of_lt k1)] at hb'
          exact h.hrel.inj r r' b M M' h2 k2 hb hb'
        · subst k1; rw [upd_same] at hb'; cases hb'
      · subst h1; rw [upd_same] at hb; cases hb
  refine ⟨_, _, h.snoc (o := d) hsc (by rw [hdc]; exact hf) (by rw [hdc]; exact hrel), by rw [hdc]; exact hf, upd_same _ _ _, fun r hr => upd_ne (Nat.ne_of_lt hr), by simp⟩
end
end Bow
/- AE20: regions that draw their order: what each operation comes to, wherever it stands. -/
namespace Bow
open Go

structure Rec where
  dst : Option Tmp
  reads : List Tmp
  touch : List Nat
  x : V
  eff : List (Nat × Option HObj)
  virt : Option Nat

def tmpsOf : List Operand → List Tmp
  | [] => []
  | .tmp t :: xs => t :: tmpsOf xs
  | _ :: xs => tmpsOf xs
theorem tmpsOf_mem : ∀ (xs : List Operand) (t : Tmp), Operand.tmp t ∈ xs → t ∈ tmpsOf xs
  | [], t, h => by cases h
  | x :: xs, t, h => by
    rcases List.mem_cons.1 h with rfl | h
    · exact List.mem_cons_self
    · have ih := tmpsOf_mem xs t h
      cases x <;> first | exact ih | exact List.mem_cons_of_mem _ ih
theorem opd_agree {E E' : Env} {xs : List Operand} (h : ∀ t ∈ tmpsOf xs, lk E' t = lk E t) : ∀ x ∈ xs, opd E' x = opd E x := by
  intro x hx
  cases x with
  | tmp t => exact h t (tmpsOf_mem xs t hx)
  | _ => rfl

/-- What operation i comes to from any state that agrees with this one on what it looks at. -/
def Fact (c : Cx) (ops : Array Oper) (i : Nat) (E : Env) (T : Heap) (r : Rec) : Prop :=
  ∀ (E' : Env) (T' : Heap), T'.length = T.length → (∀ t ∈ r.reads, lk E' t = lk E t) → (∀ k ∈ r.touch, T'[k]? = T[k]?) →
  ∀ (w : World) (β : Nat → Loc) (H : Heap) (m : List Nat) (a : Act) (b : Frame) (cs : List Frame) (rest : List Nat) (k : List Item), SRel c.imps c.nt w β H m ⟨E', T', c.B, c.D⟩ a → b.fn = c.fn → b.kind = .normal →
    (∀ p, r.virt = some p → ∃ q, m[p]? = some q ∧ β q = .none ∧ T'[p]? = T[p]?) →
    ∃ (v : Value) (w' : World) (β' : Nat → Loc) (H' : Heap), Steps c.P (lone (b.atR a (.inRegion ops (i :: rest) :: k)) cs w) (lone (b.atR (a.put r.dst v) (.inRegion ops rest :: k)) cs w') ∧
      SRel c.imps c.nt w' β' H' m ⟨E', app T' r.eff, c.B, c.D⟩ a ∧ Fr0 w β H w' β' H' ∧ (∀ q, q < H.length → β q = .none → (∀ p, r.virt = some p → m[p]? ≠ some q) → β' q = .none) ∧ Rep w' β' H' (r.x.conv m) v

theorem Fact.tt {c : Cx} {ops : Array Oper} {i : Nat} {E : Env} {T : Heap} {r : Rec} (h : Fact c ops i E T r) (hx : r.x = .bool true) : Fact c ops i E T { r with x := .tt } := by
  intro E' T' h1 h2 h3 w β H m a b cs rest k hs k1 k2 k4
  obtain ⟨v, w', β', H', g1, g2, g3, g4, g5⟩ := h E' T' h1 h2 h3 w β H m a b cs rest k hs k1 k2 k4
  rw [hx] at g5
  exact ⟨v, w', β', H', g1, g2, g3, g4, by rw [rep_bool g5]; exact .tt⟩
theorem Fact.ff {c : Cx} {ops : Array Oper} {i : Nat} {E : Env} {T : Heap} {r : Rec} (h : Fact c ops i E T r) (hx : r.x = .bool false) : Fact c ops i E T { r with x := .ff } := by
  intro E' T' h1 h2 h3 w β H m a b cs rest k hs k1 k2 k4
  obtain ⟨v, w', β', H', g1, g2, g3, g4, g5⟩ := h E' T' h1 h2 h3 w β H m a b cs rest k hs k1 k2 k4
  rw [hx] at g5
  exact ⟨v, w', β', H', g1, g2, g3, g4, by rw [rep_bool g5]; exact .ff⟩

/-- The guard, by the temps that it reads. -/
def Guarded (ops : Array Oper) (o : Oper) (E : Env) (gs : List Tmp) (want : Bool) : Prop :=
  match o.guard with
  | none => gs = [] ∧ want = true
  | some (j, t) => ∃ oj s, ops[j]? = some oj ∧ oj.dst = some s ∧ gs = [s] ∧ ((lk E s = .tt ∧ want = t) ∨ (lk E s = .ff ∧ want = !t) ∨ (lk E s = .tup [] ∧ want = false))

theorem Guarded.wanted {ops : Array Oper} {o : Oper} {E E' : Env} {gs : List Tmp} {want : Bool} (h : Guarded ops o E gs want) (hE : ∀ t ∈ gs, lk E' t = lk E t) {imps : List Nat} {nt : Nat} {w : World} {β : Nat → Loc} {H : Heap} {m : List Nat} {T : Heap} {B : Base} {D : List Nat} {a : Act}
    (hs : SRel imps nt w β H m ⟨E', T, B, D⟩ a) : Region.wanted o (yielded ops a.tmps) = want := by
  unfold Guarded at h
  unfold Region.wanted
  split at h
  · rename_i hg
    simp only [hg, h.2]
  · rename_i j t hg
    obtain ⟨oj, s, h1, h2, rfl, h3⟩ := h
    simp only [hg, yielded_of h1 h2]
    have e := hE s (by simp)
    have hv := opd_rep hs (.tmp s)
    simp only [opd, e] at hv
    have hav : a.tmps.getD s Go.undef = a.eval (.tmp s) := rfl
    rw [hav]
    rcases h3 with ⟨h4, rfl⟩ | ⟨h4, rfl⟩ | ⟨h4, rfl⟩
    · rw [h4] at hv
      rw [rep_tt hv]
      cases want <;> rfl
    · rw [h4] at hv
      rw [rep_ff hv]
      cases t <;> rfl
    · rw [h4] at hv
      simp only [V.conv, V.convL] at hv
      generalize a.eval (.tmp s) = q at hv
      cases hv with
      | tup _ vs hl _ =>
        have : vs.size = 0 := hl.symm
        rw [Array.eq_empty_of_size_eq_zero this]
        rfl

theorem app_length : ∀ (es : List (Nat × Option HObj)) (T : Heap), (app T es).length = T.length
  | [], T => rfl
  | (k, o) :: es, T => by rw [app, app_length es]; simp

section
variable {c : Cx} {ops : Array Oper} {i : Nat} {o : Oper} {E : Env} {T : Heap} {gs : List Tmp} {F : Prop}

theorem fact_skip (ho : ops[i]? = some o) (hg : Guarded ops o E gs false) : Fact c ops i E T ⟨o.dst, gs, [], .tup [], [], none⟩ := by
  intro E' T' h1 h2 h3 w β H m a b cs rest k hs k1 k2 _
  refine ⟨Go.undef, w, β, H, .one ?_, hs, Fr0.refl _ _ _, fun _ _ h _ => h, .tup [] #[] rfl fun j z u h1 _ => by simp at h1⟩
  have := stepR_op_skip (P := c.P) (b := b) (a := a) (k := k) (cs := cs) (w := w) (ops := ops) (i := i) (rest := rest) (by simp [ho, hg.wanted h2 hs])
  simpa [ho] using this

/-- A step of an operation that yields a value, or nothing. -/
theorem op_step {c : Cx} {w w' : World} {a : Act} {b : Frame} {cs : List Frame} {rest : List Nat} {k : List Item} {nx : Next} {v : Value} (ho : ops[i]? = some o) (hw : Region.wanted o (yielded ops a.tmps) = true) (hnd : ∀ cl, o.op ≠ .defer cl)
    (hrun : (execOp a.eval o).run c.P w = .ok nx w') (hnx : nx = .value v ∨ nx = .skip ∧ v = Go.undef) :
    Steps c.P (lone (b.atR a (.inRegion ops (i :: rest) :: k)) cs w) (lone (b.atR (a.put o.dst v) (.inRegion ops rest :: k)) cs w') := by
  have hfin : (b.atR a (.inRegion ops (i :: rest) :: k)).finish v = b.atR (a.put o.dst v) (.inRegion ops rest :: k) := by
    rw [Frame.finish_atR]
    simp [ho]
  refine .one (step_lone_go ?_)
  rw [stepGR_op ho hw, Oper.semAt_eq _ _ _ hnd]
  rcases hnx with rfl | ⟨rfl, rfl⟩
  · simp [stepG.apply, hrun, Sem.runT_eq, hfin]
  · simp [stepG.apply, hrun, Sem.runT_eq, hfin]

/-- An operation that makes no object. -/
theorem fact_op {K : V → Heap → Prop} (ho : ops[i]? = some o) (hg : Guarded ops o E gs true) (hm : makes E o.op = false) (h : evOp c o.op E T F K) :
    F ∨ ∃ x eff, K x (app T eff) ∧ Fact c ops i E T ⟨o.dst, gs ++ tmpsOf o.op.operands.toList, touch E o.op, x, eff, none⟩ ∧ (∀ p ∈ eff, p.1 ∈ wr E o.op) := by
  by_cases hnd : ∃ cl, o.op = .defer cl
  · obtain ⟨cl, hcl⟩ := hnd
    rw [hcl] at h
    exact .inl h
  have hnd : ∀ cl, o.op ≠ .defer cl := fun cl e => hnd ⟨cl, e⟩
  rcases evOp_det hm h with h | ⟨x, eff, h1, hk, h2⟩
  · exact .inl h
  refine .inr ⟨x, eff, h1, ?_, hk⟩
  intro E' T' e1 e2 e3 w β H m a b cs rest k hs k1 k2 _
  have ho' : evOp c o.op E' T' False (fun y T1 => y = x ∧ T1 = app T' eff) := by
    rw [evOp_congE (opd_agree fun t ht => e2 t (List.mem_append_right _ ht))]
    exact h2 T' e3 _ _ ⟨rfl, rfl⟩
  rcases evOp_sound ho' with h | ⟨y, T1, ⟨rfl, rfl⟩, hto⟩
  · exact h.elim
  obtain ⟨nx, v, w', β', H', m', hrun, hnx, g1, g2, g3, g4⟩ := hto o rfl w β H m a hs
  have hmm : m = m' := g4.eq_of_length (by
    have a1 := hs.mlen
    have a2 := g1.mlen
    simp only [app_length] at a1 a2
    rw [a1, a2])
  subst hmm
  exact ⟨v, w', β', H', op_step ho (hg.wanted (fun t ht => e2 t (List.mem_append_left _ ht)) hs) hnd hrun hnx, g1, g2.toFr0, fun q hq hn _ => g2.virt q hq hn, g3⟩

theorem call_steps {c : Cx} {f : Operand} {args : Array Operand} {ts : Array TypeId} {g : FuncId} {va vc : Array Value} {w w' : World} {a : Act} {b fr : Frame} {cs : List Frame} {rest : List Nat} {k : List Item} {v : Value} (ho : ops[i]? = some o) (hw : Region.wanted o (yielded ops a.tmps) = true)
    (hop : o.op = .call { callee := .value f, args := args, argTypes := ts }) (hq : a.eval f = .func (.func g) va vc) (hen : Enterable c.P g)
    (hst : Steps c.P (lone (Frame.enter c.P g (va ++ args.map a.eval ++ vc) .normal) (b.atR a (.inRegion ops (i :: rest) :: k) :: cs) w) (lone fr (b.atR a (.inRegion ops (i :: rest) :: k) :: cs) w')) (hl : fr.leaving c.P w' (.returned v)) :
    Steps c.P (lone (b.atR a (.inRegion ops (i :: rest) :: k)) cs w) (lone (b.atR (a.put o.dst v) (.inRegion ops rest :: k)) cs w') := by
  obtain ⟨fn, hfn, hnm, hbd⟩ := hen
  have hfin : (b.atR a (.inRegion ops (i :: rest) :: k)).finish v = b.atR (a.put o.dst v) (.inRegion ops rest :: k) := by
    rw [Frame.finish_atR]
    simp [ho]
  have s1 : step c.P (lone (b.atR a (.inRegion ops (i :: rest) :: k)) cs w) = .next (lone (Frame.enter c.P g (va ++ args.map a.eval ++ vc) .normal) (b.atR a (.inRegion ops (i :: rest) :: k) :: cs) w) := by
    refine step_lone_go ?_
    rw [stepGR_op ho hw, Oper.semAt_eq _ _ _ (by intro cl; rw [hop]; exact fun h => by cases h)]
    have hrun : (execOp a.eval o).run c.P w = .ok (.enter g (va ++ args.map a.eval ++ vc)) w := by
      have hne : fn.name ≠ "runtime.NumGoroutine" := by simpa using hnm
      have hbn : fn.body ≠ none := by intro h; rw [h] at hbd; cases hbd
      simp [execOp, hop, resolve, Deferred.ofValue, hq, invoke, callFunc, hfn, hne, hbn]
    simp [stepG.apply, hrun, Sem.runT_eq, Frame.atR]
  have s2 : step c.P (lone fr (b.atR a (.inRegion ops (i :: rest) :: k) :: cs) w') = .next (lone (b.atR (a.put o.dst v) (.inRegion ops rest :: k)) cs w') := by
    rw [← hfin]
    exact step_leave_returned hl
  exact .head s1 (hst.trans (.one s2))

theorem fn_rep {w : World} {β : Nat → Loc} {H : Heap} {m : List Nat} {imps : List Nat} {nt : Nat} {E : Env} {T : Heap} {B : Base} {D : List Nat} {a : Act} (hs : SRel imps nt w β H m ⟨E, T, B, D⟩ a) {f : Operand} {g : FuncId} {first cap : List V} (hf : opd E f = .fn (.func g) first cap) (args : Array Operand) :
    ∃ va vc, a.eval f = .func (.func g) va vc ∧ (first ++ args.toList.map (opd E) ++ cap).length = (va ++ args.map a.eval ++ vc).size ∧
      ∀ (j : Nat) (x : V) (v : Value), (first ++ args.toList.map (opd E) ++ cap)[j]? = some x → (va ++ args.map a.eval ++ vc)[j]? = some v → Rep w β H (x.conv m) v := by
  have hfv : Rep w β H ((opd E f).conv m) (a.eval f) := opd_rep hs f
  rw [hf] at hfv
  simp only [V.conv] at hfv
  generalize hq : a.eval f = q at hfv
  cases hfv with
  | fn _ _ _ va vc hla hlc r1 r2 =>
    refine ⟨va, vc, rfl, by rw [V.convL_eq, List.length_map] at hla hlc; simp [hla, hlc], ?_⟩
    intro j x v hj hv
    rw [V.convL_eq, List.length_map] at hla hlc
    rcases Nat.lt_or_ge j (va.size + args.size) with hlt | hge
    · rw [List.getElem?_append_left (by simp; omega)] at hj
      rw [Array.getElem?_append_left (by simp; omega)] at hv
      rcases Nat.lt_or_ge j va.size with hlt2 | hge2
      · rw [List.getElem?_append_left (by omega)] at hj
        rw [Array.getElem?_append_left hlt2] at hv
        exact r1 j _ v (by rw [V.convL_eq, List.getElem?_map, hj]; rfl) hv
      · rw [List.getElem?_append_right (by omega)] at hj
        rw [Array.getElem?_append_right hge2] at hv
        simp only [List.getElem?_map, Array.getElem?_toList, Option.map_eq_some_iff, Array.getElem?_map] at hj hv
        obtain ⟨z, e1, e2⟩ := hj
        obtain ⟨z', e3, e4⟩ := hv
        rw [hla] at e1
        rw [e1] at e3
        injection e3 with e3
        subst e3 e2 e4
        exact opd_rep hs z
    · rw [List.getElem?_append_right (by simp; omega)] at hj
      rw [Array.getElem?_append_right (by simp; omega)] at hv
      refine r2 (j - (va.size + args.size)) _ v (by rw [V.convL_eq, List.getElem?_map]; simp only [List.length_append, List.length_map, Array.length_toList, hla] at hj; rw [hj]; rfl) (by simpa using hv)

/-- What an operation that makes an object comes to. -/
theorem fact_into {p : Nat} {x : V} {ob d : HObj} {kills : List (Nat × Option HObj)} {tc : List Nat} (ho : ops[i]? = some o) (hg : Guarded ops o E gs true) (hnd : ∀ cl, o.op ≠ .defer cl) (hd : T[p]? = some (some d))
    (h : ∀ (E' : Env) (T' : Heap), T'.length = T.length → (∀ z ∈ o.op.operands.toList, opd E' z = opd E z) → (∀ k ∈ tc, T'[k]? = T[k]?) → T'[p]? = some (some d) →
      ∀ (w : World) (β : Nat → Loc) (H : Heap) (m : List Nat) (a : Act) (q : Nat), SRel c.imps c.nt w β H m ⟨E', T', c.B, c.D⟩ a → m[p]? = some q → β q = .none →
        ∃ v w' β' H', (execOp a.eval o).run c.P w = .ok (.value v) w' ∧ SRel c.imps c.nt w' β' H' m ⟨E', app T' (kills ++ [(p, some ob)]), c.B, c.D⟩ a ∧ Fr0 w β H w' β' H' ∧ (∀ r, r < H.length → r ≠ q → β r = .none → β' r = .none) ∧ Rep w' β' H' (x.conv m) v) :
    Fact c ops i E T ⟨o.dst, gs ++ tmpsOf o.op.operands.toList, tc, x, kills ++ [(p, some ob)], some p⟩ := by
  intro E' T' e1 e2 e3 w β H m a b cs rest k hs k1 k2 k4
  obtain ⟨q, q1, q2, q3⟩ := k4 p rfl
  obtain ⟨v, w', β', H', g1, g2, g3, g4, g5⟩ := h E' T' e1 (opd_agree fun t ht => e2 t (List.mem_append_right _ ht)) e3 (by rw [q3]; exact hd) w β H m a q hs q1 q2
  exact ⟨v, w', β', H', op_step ho (hg.wanted (fun t ht => e2 t (List.mem_append_left _ ht)) hs) hnd g1 (.inl rfl), g2, g3, fun r hr hn hne => g4 r hr (fun e => hne p rfl (e ▸ q1)) hn, g5⟩
end
end Bow
