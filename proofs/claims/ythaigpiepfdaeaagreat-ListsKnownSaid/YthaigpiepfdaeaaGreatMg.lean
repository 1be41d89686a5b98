/- The library, part 7: SP27, SP31, W70, W71, W72, AE47, W79, W28, W29, W30, W40, W41, W42, W43, SP18, W44, SP34, W86, W88, SP32, W73, W75, SP33, W80. -/
import Derived.Test.YthaigpiepfdaeaaGreatMd
import Derived.Test.YthaigpiepfdaeaaGreatMe
import Derived.Test.YthaigpiepfdaeaaGreatMf
import Derived.Test.YthaigpiepfdaeaaGreatMc
/- SP27: two edits behind each other, place by place, in plain Lean: as leaftext goes, by runs, it is the same. -/
namespace Bow
open Go

def Later (l : List PieceT) : Prop := ∀ p ∈ l, 0 < p.keep ∧ 0 ≤ p.drop
def RN : List PieceT → Prop
  | [] => True
  | p :: l => 0 ≤ p.keep ∧ 0 ≤ p.drop ∧ Later l
theorem Later.rn {l : List PieceT} (h : Later l) : RN l := by
  cases l with
  | nil => trivial
  | cons p l =>
    have := h p List.mem_cons_self
    exact ⟨by omega, this.2, fun q hq => h q (List.mem_cons_of_mem _ hq)⟩

/-! ### What a maker makes is normal -/
structure Mk.Rn (m : Mk) : Prop where
  k : 0 ≤ m.keep
  l : RN m.l
theorem later_append {l : List PieceT} {p : PieceT} (h : Later l) (hp : 0 < p.keep ∧ 0 ≤ p.drop) : Later (l ++ [p]) := by
  intro q hq
  rcases List.mem_append.1 hq with hq | hq
  · exact h q hq
  · rw [List.mem_singleton] at hq
    exact hq ▸ hp
theorem rn_append {l : List PieceT} {p : PieceT} (h : RN l) (hp : 0 < p.keep ∧ 0 ≤ p.drop) : RN (l ++ [p]) := by
  cases l with
  | nil => exact ⟨by omega, hp.2, by intro q hq; cases hq⟩
  | cons q l => exact ⟨h.1, h.2.1, later_append h.2.2 hp⟩
theorem Mk.last_rn {m : Mk} (h : m.Rn) : m.last.Rn := by
  unfold Mk.last
  cases hk : decide (0 < m.keep) with
  | true => exact ⟨Int.le_refl 0, rn_append h.l ⟨of_decide_eq_true hk, Int.le_refl _⟩⟩
  | false =>
    cases hl : m.l with
    | nil => exact ⟨Int.le_refl 0, ⟨h.k, Int.le_refl _, by intro q hq; cases hq⟩⟩
    | cons p l => exact h
theorem modL_later {f : PieceT → PieceT} (hf : ∀ p, (f p).keep = p.keep) (hd : ∀ p, 0 ≤ p.drop → 0 ≤ (f p).drop) : ∀ {l : List PieceT}, Later l → Later (modL f l)
  | [], h => h
  | [p], h => by
    intro q hq
    rw [modL, List.mem_singleton] at hq
    have := h p List.mem_cons_self
    rw [hq, hf]
    exact ⟨this.1, hd _ this.2⟩
  | p :: q :: r, h => by
    intro z hz
    rw [modL] at hz
    rcases List.mem_cons.1 hz with rfl | hz
    · exact h _ List.mem_cons_self
    · exact modL_later hf hd (fun y hy => h y (List.mem_cons_of_mem _ hy)) z hz
theorem modL_rn {f : PieceT → PieceT} (hf : ∀ p, (f p).keep = p.keep) (hd : ∀ p, 0 ≤ p.drop → 0 ≤ (f p).drop) : ∀ {l : List PieceT}, RN l → RN (modL f l)
  | [], h => h
  | [p], h => by
    rw [modL]
    exact ⟨by rw [hf]; exact h.1, hd _ h.2.1, h.2.2⟩
  | p :: q :: r, h => ⟨h.1, h.2.1, modL_later hf hd h.2.2⟩
theorem Mk.put_rn {m : Mk} (s : List UInt8) (h : m.Rn) : (m.put s).Rn := by
  unfold Mk.put
  cases s.isEmpty with
  | true => exact h
  | false => exact ⟨(Mk.last_rn h).k, modL_rn (f := fun p => { p with put := p.put ++ s }) (fun _ => rfl) (fun _ h => h) (Mk.last_rn h).l⟩
theorem Mk.drop_rn {m : Mk} (n : Int) (h : m.Rn) : (m.drop n).Rn := by
  unfold Mk.drop
  cases hn : decide (0 < n) with
  | false => exact h
  | true => exact ⟨(Mk.last_rn h).k, modL_rn (f := fun p => { p with drop := p.drop + n }) (fun _ => rfl) (fun p h => by have := of_decide_eq_true hn; show 0 ≤ p.drop + n; omega) (Mk.last_rn h).l⟩
theorem Mk.piece_rn {m : Mk} {p : PieceT} (h : m.Rn) (hp : p.Nn) : (m.piece p).Rn :=
  Mk.drop_rn _ (Mk.put_rn _ ⟨by have := h.k; have := hp.k; show 0 ≤ m.keep + p.keep; omega, h.l⟩)
theorem foldl_rn : ∀ {l : List PieceT} {m : Mk}, m.Rn → (∀ p ∈ l, p.Nn) → (l.foldl Mk.piece m).Rn
  | [], _, h, _ => h
  | p :: l, m, h, hl => foldl_rn (l := l) (m := m.piece p) (Mk.piece_rn h (hl p List.mem_cons_self)) (fun q hq => hl q (List.mem_cons_of_mem _ hq))
theorem norm_rn {l : List PieceT} (h : rightP l = true) : RN (normP l) := (foldl_rn (m := ⟨[], 0⟩) ⟨Int.le_refl 0, trivial⟩ (right_nn h).1).l

/-! ### A row that stands at a run -/
def Run (n : Int) (d s : Bool) (r : List PieceT) : Prop :=
  (s = false ∧ d = false ∧ n = 0 ∧ r = []) ∨ (s = true ∧ 0 < n ∧ ∃ p l, r = p :: l ∧ 0 ≤ p.drop ∧ Later l ∧ ((d = false ∧ n = p.keep) ∨ (d = true ∧ p.keep = 0 ∧ p.put = [] ∧ n = p.drop)))
def Clean : List PieceT → Prop
  | [] => True
  | p :: _ => p.keep ≤ 0 → p.put = []
theorem put_clean {r : List PieceT} (h : RN r) : RN (rowPut r).2 ∧ Clean (rowPut r).2 ∧ extN (rowPut r).2 = extN r := by
  cases r with
  | nil => exact ⟨trivial, trivial, rfl⟩
  | cons p l =>
    rw [rowPut]
    cases hk : decide (0 < p.keep) with
    | true => exact ⟨h, fun g => absurd (of_decide_eq_true hk) (by omega), rfl⟩
    | false =>
      cases hp : p.put.isEmpty with
      | true => exact ⟨h, fun _ => List.isEmpty_iff.1 hp, rfl⟩
      | false => exact ⟨h, fun _ => rfl, rfl⟩
theorem run_stand {r : List PieceT} (h : RN r) (hc : Clean r) : Run (rowRun r).1.1 (rowRun r).1.2.1 (rowRun r).1.2.2 (rowRun r).2 ∧ extN (rowRun r).2 = extN r := by
  cases r with
  | nil => exact ⟨.inl ⟨rfl, rfl, rfl, rfl⟩, rfl⟩
  | cons p l =>
    obtain ⟨h1, h2, h3⟩ := h
    rw [rowRun]
    cases hk : decide (0 < p.keep) with
    | true => exact ⟨.inr ⟨rfl, of_decide_eq_true hk, p, l, rfl, h2, h3, .inl ⟨rfl, rfl⟩⟩, rfl⟩
    | false =>
      have hk := of_decide_eq_false hk
      cases hd : decide (0 < p.drop) with
      | true => exact ⟨.inr ⟨rfl, of_decide_eq_true hd, p, l, rfl, h2, h3, .inr ⟨rfl, by omega, hc (by omega), rfl⟩⟩, rfl⟩
      | false =>
        have hd := of_decide_eq_false hd
        rw [cond_false, cond_false]
        have e : extN (p :: l) = extN l := by rw [extN]; omega
        rw [e]
        cases l with
        | nil => exact ⟨.inl ⟨rfl, rfl, rfl, rfl⟩, rfl⟩
        | cons q m =>
          have hq := h3 q List.mem_cons_self
          rw [rowRun, decide_eq_true hq.1]
          exact ⟨.inr ⟨rfl, hq.1, q, m, rfl, hq.2, fun z hz => h3 z (List.mem_cons_of_mem _ hz), .inl ⟨rfl, rfl⟩⟩, rfl⟩
theorem Run.put {n : Int} {d s : Bool} {r : List PieceT} (h : Run n d s r) : rowPut r = ([], r) := by
  rcases h with ⟨_, _, _, rfl⟩ | ⟨_, hn, p, l, rfl, _, _, ⟨_, rfl⟩ | ⟨_, hk, hp, _⟩⟩
  · rfl
  · rw [rowPut, decide_eq_true hn]; rfl
  · rw [rowPut, hp]; simp
theorem Run.run {n : Int} {d s : Bool} {r : List PieceT} (h : Run n d s r) : rowRun r = ((n, d, s), r) := by
  rcases h with ⟨rfl, rfl, rfl, rfl⟩ | ⟨rfl, hn, p, l, rfl, _, _, ⟨rfl, rfl⟩ | ⟨rfl, hk, hp, rfl⟩⟩
  · rfl
  · rw [rowRun, decide_eq_true hn]; rfl
  · rw [rowRun, decide_eq_false (by omega : ¬ 0 < p.keep), decide_eq_true hn]; rfl
theorem Run.take {n j : Int} {d s : Bool} {r : List PieceT} (h : Run n d s r) (hj : 0 ≤ j) (hs : s = true → j < n) : Run (bif s then n - j else 0) d s (rowTake j r) := by
  rcases h with ⟨rfl, rfl, rfl, rfl⟩ | ⟨rfl, hn, p, l, rfl, hd, hl, ⟨rfl, rfl⟩ | ⟨rfl, hk, hp, rfl⟩⟩
  · exact .inl ⟨rfl, rfl, rfl, rfl⟩
  · have := hs rfl
    rw [rowTake, decide_eq_true hn]
    exact .inr ⟨rfl, by rw [cond_true]; omega, _, l, rfl, hd, hl, .inl ⟨rfl, rfl⟩⟩
  · have := hs rfl
    rw [rowTake, decide_eq_false (by omega : ¬ 0 < p.keep)]
    exact .inr ⟨rfl, by rw [cond_true]; omega, _, l, rfl, by show 0 ≤ p.drop - j; omega, hl, .inr ⟨rfl, hk, hp, rfl⟩⟩
theorem Run.take_take {n j : Int} {d s : Bool} {r : List PieceT} (h : Run n d s r) (hj : 0 ≤ j) (hs : s = true → j < n) : rowTake 1 (rowTake j r) = rowTake (j + 1) r := by
  rcases h with ⟨rfl, rfl, rfl, rfl⟩ | ⟨rfl, hn, p, l, rfl, hd, hl, ⟨rfl, rfl⟩ | ⟨rfl, hk, hp, rfl⟩⟩
  · rfl
  · have := hs rfl
    rw [rowTake, decide_eq_true hn, cond_true, rowTake, decide_eq_true (by show 0 < p.keep - j; omega), cond_true, rowTake, decide_eq_true hn, cond_true, show p.keep - j - 1 = p.keep - (j + 1) by omega]
  · have := hs rfl
    have e : decide (0 < p.keep) = false := decide_eq_false (by omega)
    rw [rowTake, e, cond_false, rowTake, e, cond_false, rowTake, e, cond_false, show p.drop - j - 1 = p.drop - (j + 1) by omega]
theorem Run.rn {n j : Int} {d s : Bool} {r : List PieceT} (h : Run n d s r) (hj : 0 ≤ j) (hs : s = true → j ≤ n) : RN (rowTake j r) ∧ extN (rowTake j r) = extN r - (bif s then j.toNat else 0) ∧ (s = true → n.toNat ≤ extN r) ∧ (s = false → extN r = 0) := by
  rcases h with ⟨rfl, rfl, rfl, rfl⟩ | ⟨rfl, hn, p, l, rfl, hd, hl, ⟨rfl, rfl⟩ | ⟨rfl, hk, hp, rfl⟩⟩
  · exact ⟨trivial, rfl, (fun g => (by cases g)), (fun _ => rfl)⟩
  · have := hs rfl
    rw [rowTake, decide_eq_true hn]
    refine ⟨⟨by show 0 ≤ p.keep - j; omega, hd, hl⟩, ?_, (fun _ => ?_), (fun g => (by cases g))⟩
    · simp only [cond_true, extN]; omega
    · simp only [extN]; omega
  · have := hs rfl
    rw [rowTake, decide_eq_false (by omega : ¬ 0 < p.keep)]
    refine ⟨⟨by show 0 ≤ p.keep; omega, by show 0 ≤ p.drop - j; omega, hl⟩, ?_, (fun _ => ?_), (fun g => (by cases g))⟩
    · simp only [cond_false, cond_true, extN]; omega
    · simp only [extN]; omega

/-! ### Makers, byte by byte -/
def dX (m : Mk) (n : Int) (mine other : Bool) : Mk := bif other then m else bif mine then m.drop n else m.kept n
theorem does_eq (s : Tr) (n : Int) (d g : Bool) : s.does n d g = ⟨s.p, s.q, dX s.x n d g, dX s.y n g d⟩ := by
  cases d <;> cases g <;> rfl
theorem modL_modL (f g : PieceT → PieceT) : ∀ l : List PieceT, modL f (modL g l) = modL (fun p => f (g p)) l
  | [] => rfl
  | [p] => rfl
  | [p, q] => rfl
  | p :: q :: r :: l => by
    have ih := modL_modL f g (q :: r :: l)
    simp only [modL] at ih ⊢
    rw [ih]
theorem Mk.last_done (m : Mk) : ¬ 0 < m.last.keep ∧ m.last.l ≠ [] := by
  refine ⟨?_, m.last_ne⟩
  unfold Mk.last
  cases h : decide (0 < m.keep) || m.l.isEmpty with
  | true => simp
  | false =>
    rw [Bool.or_eq_false_iff] at h
    exact of_decide_eq_false h.1
theorem Mk.last_of {m : Mk} (h1 : ¬ 0 < m.keep) (h2 : m.l ≠ []) : m.last = m := by
  unfold Mk.last
  rw [decide_eq_false h1]
  cases h : m.l with
  | nil => exact absurd h h2
  | cons p l => rfl
theorem drop_drop (m : Mk) {j : Int} (hj : 0 < j) : (m.drop j).drop 1 = m.drop (j + 1) := by
  obtain ⟨h1, h2⟩ := m.last_done
  unfold Mk.drop
  rw [decide_eq_true hj, decide_eq_true (by omega : (0 : Int) < j + 1), cond_true, cond_true]
  rw [Mk.last_of (m := ⟨modL (fun p => { p with drop := p.drop + j }) m.last.l, m.last.keep⟩) h1 (modL_ne h2)]
  simp only [modL_modL]
  simp only [show (decide ((0 : Int) < 1)) = true from rfl, cond_true, Int.add_assoc]
theorem dX_dX (m : Mk) {j : Int} (hj : 0 < j) (d g : Bool) : dX (dX m j d g) 1 d g = dX m (j + 1) d g := by
  cases g with
  | true => rfl
  | false =>
    cases d with
    | true => exact drop_drop m hj
    | false =>
      unfold dX Mk.kept
      simp only [cond_false, Int.add_assoc]
theorem put_nil (m : Mk) : m.put [] = m := rfl
theorem kept_zero (m : Mk) : m.kept 0 = m := by
  unfold Mk.kept
  rw [Int.add_zero]

/-! ### Place by place -/
def Tr.one (prior : Bool) (s : Tr) : Tr :=
  match s.puts prior with
  | ⟨p, q, x, y⟩ => Tr.does ⟨rowTake 1 (rowRun p).2, rowTake 1 (rowRun q).2, x, y⟩ 1 (rowRun p).1.2.1 (rowRun q).1.2.1
def Tr.bytes (prior : Bool) : Nat → Tr → Tr
  | 0, s => s
  | k + 1, s => Tr.bytes prior k (s.one prior)
theorem bytes_add (prior : Bool) : ∀ (j k : Nat) (s : Tr), Tr.bytes prior (j + k) s = Tr.bytes prior k (Tr.bytes prior j s)
  | 0, k, s => by rw [Nat.zero_add]; rfl
  | j + 1, k, s => by rw [Nat.succ_add]; exact bytes_add prior j k (s.one prior)
theorem puts_run {prior : Bool} {p q : List PieceT} {x y : Mk} (hp : rowPut p = ([], p)) (hq : rowPut q = ([], q)) : Tr.puts prior ⟨p, q, x, y⟩ = ⟨p, q, x, y⟩ := by
  unfold Tr.puts
  simp only [hp, hq]
  cases prior <;> simp [put_nil, kept_zero]
/-- So many bytes at once, of two rows that go on alike. -/
theorem bytes_run {prior : Bool} {s : Tr} {p q p' q' : List PieceT} {x y : Mk} {na nb : Int} {d g sa sb : Bool} (h1 : s.puts prior = ⟨p, q, x, y⟩) (h2 : rowRun p = ((na, d, sa), p')) (h3 : rowRun q = ((nb, g, sb), q')) (h4 : Run na d sa p') (h5 : Run nb g sb q') :
    ∀ j : Nat, (sa = true → (j : Int) + 1 ≤ na) → (sb = true → (j : Int) + 1 ≤ nb) → Tr.bytes prior (j + 1) s = Tr.does ⟨rowTake (j + 1 : Nat) p', rowTake (j + 1 : Nat) q', x, y⟩ (j + 1 : Nat) d g
  | 0, _, _ => by
    show s.one prior = _
    unfold Tr.one
    rw [h1]
    simp only [h2, h3]
    rfl
  | j + 1, ha, hb => by
    rw [bytes_add prior (j + 1) 1, bytes_run h1 h2 h3 h4 h5 j (fun e => by have := ha e; omega) (fun e => by have := hb e; omega)]
    have ja : sa = true → ((j + 1 : Nat) : Int) < na := fun e => by have := ha e; omega
    have jb : sb = true → ((j + 1 : Nat) : Int) < nb := fun e => by have := hb e; omega
    have ka := h4.take (Int.natCast_nonneg (j + 1)) ja
    have kb := h5.take (Int.natCast_nonneg (j + 1)) jb
    rw [does_eq]
    show Tr.one prior _ = _
    unfold Tr.one
    rw [puts_run ka.put kb.put]
    simp only [ka.run, kb.run]
    rw [does_eq, does_eq, h4.take_take (Int.natCast_nonneg (j + 1)) ja, h5.take_take (Int.natCast_nonneg (j + 1)) jb]
    simp only
    rw [dX_dX x (by omega), dX_dX y (by omega)]
    rfl
theorem bytes_end {prior : Bool} : ∀ (k : Nat) (x y : Mk), (Tr.bytes prior k ⟨[], [], x, y⟩).x.l = x.l ∧ (Tr.bytes prior k ⟨[], [], x, y⟩).y.l = y.l
  | 0, _, _ => ⟨rfl, rfl⟩
  | k + 1, x, y => by
    have e : Tr.one prior ⟨[], [], x, y⟩ = ⟨[], [], x.kept 1, y.kept 1⟩ := by
      unfold Tr.one
      rw [puts_run rfl rfl]
      rfl
    show (Tr.bytes prior k (Tr.one prior ⟨[], [], x, y⟩)).x.l = _ ∧ (Tr.bytes prior k (Tr.one prior ⟨[], [], x, y⟩)).y.l = _
    rw [e]
    exact bytes_end k _ _
theorem puts_rows (prior : Bool) (s : Tr) : (s.puts prior).p = (rowPut s.p).2 ∧ (s.puts prior).q = (rowPut s.q).2 := by
  unfold Tr.puts
  cases prior <;> exact ⟨rfl, rfl⟩
theorem go_bytes (prior : Bool) : ∀ (f : Nat) (s : Tr) (k : Nat), RN s.p → RN s.q → extN s.p + extN s.q < f → extN s.p < k → extN s.q < k →
    (Tr.go prior f s).x.l = (Tr.bytes prior k s).x.l ∧ (Tr.go prior f s).y.l = (Tr.bytes prior k s).y.l
  | 0, _, _, _, _, h, _, _ => absurd h (by omega)
  | f + 1, s, k, hp, hq, hf, hk, hk' => by
    obtain ⟨p1, p2, p3⟩ := put_clean hp
    obtain ⟨q1, q2, q3⟩ := put_clean hq
    obtain ⟨e1, e2⟩ := puts_rows prior s
    rw [Tr.go]
    cases hs : s.puts prior with
    | mk p q x y =>
      rw [hs] at e1 e2
      simp only at e1 e2
      subst e1 e2
      obtain ⟨r1, r2⟩ := run_stand p1 p2
      obtain ⟨t1, t2⟩ := run_stand q1 q2
      cases ha : rowRun (rowPut s.p).2 with
      | mk a p' =>
        obtain ⟨na, d, sa⟩ := a
        cases hb : rowRun (rowPut s.q).2 with
        | mk b q' =>
          obtain ⟨nb, g, sb⟩ := b
          rw [ha] at r1 r2
          rw [hb] at t1 t2
          simp only at r1 r2 t1 t2 ⊢
          rw [bothR_eq ha hb]
          cases hsab : !sa && !sb with
          | true =>
            have hsa : sa = false := by cases sa <;> simp_all
            have hsb : sb = false := by cases sb <;> simp_all
            subst hsa hsb
            rcases r1 with ⟨_, rfl, rfl, rfl⟩ | ⟨g, _⟩
            · rcases t1 with ⟨_, rfl, rfl, rfl⟩ | ⟨g, _⟩
              · simp only [cond_true, cond_false]
                cases k with
                | zero => omega
                | succ k =>
                  have e : Tr.one prior s = ⟨[], [], x.kept 1, y.kept 1⟩ := by
                    unfold Tr.one
                    rw [hs]
                    simp only [ha, hb]
                    rfl
                  show _ = (Tr.bytes prior k (Tr.one prior s)).x.l ∧ _ = (Tr.bytes prior k (Tr.one prior s)).y.l
                  rw [e]
                  obtain ⟨z1, z2⟩ := bytes_end (prior := prior) k (x.kept 1) (y.kept 1)
                  exact ⟨z1.symm, z2.symm⟩
              · cases g
            · cases g
          | false =>
            have hn : ∃ n : Int, (bif !sa then nb else bif sb then min na nb else na) = n ∧ 0 < n ∧ (sa = true → n ≤ na) ∧ (sb = true → n ≤ nb) := by
              refine ⟨_, rfl, ?_⟩
              have ra : sa = true → 0 < na := fun e => by rcases r1 with ⟨h, _⟩ | ⟨_, h, _⟩; (· rw [e] at h; cases h); exact h
              have rb : sb = true → 0 < nb := fun e => by rcases t1 with ⟨h, _⟩ | ⟨_, h, _⟩; (· rw [e] at h; cases h); exact h
              cases sa <;> cases sb <;> simp_all <;> omega
            obtain ⟨n, hn, h0, h1, h2⟩ := hn
            simp only [cond_false]
            rw [hn]
            simp only [cond_true]
            obtain ⟨m, rfl⟩ : ∃ m : Nat, n = ((m + 1 : Nat) : Int) := ⟨n.toNat - 1, by omega⟩
            obtain ⟨u1, u2, u3, u4⟩ := r1.rn (j := ((m + 1 : Nat) : Int)) (by omega) h1
            obtain ⟨v1, v2, v3, v4⟩ := t1.rn (j := ((m + 1 : Nat) : Int)) (by omega) h2
            have hb := bytes_run hs ha hb r1 t1 m (fun e => by have := h1 e; omega) (fun e => by have := h2 e; omega)
            have hmk : m + 1 < k := by
              cases sa with
              | true => have := u3 rfl; have := h1 rfl; omega
              | false =>
                cases sb with
                | true => have := v3 rfl; have := h2 rfl; omega
                | false => cases hsab
            obtain ⟨k', rfl⟩ : ∃ k', k = (m + 1) + k' := ⟨k - (m + 1), by omega⟩
            rw [bytes_add, hb]
            refine go_bytes prior f _ k' ?_ ?_ ?_ ?_ ?_
            all_goals rw [does_eq]
            · exact u1
            · exact v1
            all_goals simp only
            · rw [u2, v2]
              cases sa with
              | true => have := u3 rfl; have := h1 rfl; simp only [cond_true]; cases sb <;> simp only [cond_true, cond_false] <;> omega
              | false =>
                cases sb with
                | true => have := v3 rfl; have := h2 rfl; simp only [cond_true, cond_false]; omega
                | false => cases hsab
            · rw [u2]
              cases sa with
              | true => simp only [cond_true]; omega
              | false => have := u4 rfl; simp only [cond_false]; omega
            · rw [v2]
              cases sb with
              | true => simp only [cond_true]; omega
              | false => have := v4 rfl; simp only [cond_false]; omega

/-! ### An edit, place by place -/
def putAt : List PieceT → Nat → List UInt8
  | [], _ => []
  | p :: l, i => bif decide (i < p.keep.toNat) then [] else bif decide (i = p.keep.toNat) then p.put else bif decide (i < p.keep.toNat + p.drop.toNat) then [] else putAt l (i - (p.keep.toNat + p.drop.toNat))
def dropAt : List PieceT → Nat → Bool
  | [], _ => false
  | p :: l, i => bif decide (i < p.keep.toNat) then false else bif decide (i < p.keep.toNat + p.drop.toNat) then true else dropAt l (i - (p.keep.toNat + p.drop.toNat))
theorem later_put0 {l : List PieceT} (h : Later l) : putAt l 0 = [] := by
  cases l with
  | nil => rfl
  | cons p l =>
    have := (h p List.mem_cons_self).1
    rw [putAt, decide_eq_true (by omega)]; rfl
def rowNext (r : List PieceT) : List PieceT := rowTake 1 (rowRun (rowPut r).2).2
theorem putAt_keep {p : PieceT} {l : List PieceT} (h : 0 < p.keep) (i : Nat) : putAt ({ p with keep := p.keep - 1 } :: l) i = putAt (p :: l) (i + 1) := by
  rw [putAt, putAt]
  simp only
  have e1 : decide (i < (p.keep - 1).toNat) = decide (i + 1 < p.keep.toNat) := by simp only [decide_eq_decide]; omega
  have e2 : decide (i = (p.keep - 1).toNat) = decide (i + 1 = p.keep.toNat) := by simp only [decide_eq_decide]; omega
  have e3 : decide (i < (p.keep - 1).toNat + p.drop.toNat) = decide (i + 1 < p.keep.toNat + p.drop.toNat) := by simp only [decide_eq_decide]; omega
  have e4 : i - ((p.keep - 1).toNat + p.drop.toNat) = i + 1 - (p.keep.toNat + p.drop.toNat) := by omega
  rw [e1, e2, e3, e4]
theorem dropAt_keep {p : PieceT} {l : List PieceT} (h : 0 < p.keep) (i : Nat) : dropAt ({ p with keep := p.keep - 1 } :: l) i = dropAt (p :: l) (i + 1) := by
  rw [dropAt, dropAt]
  simp only
  have e1 : decide (i < (p.keep - 1).toNat) = decide (i + 1 < p.keep.toNat) := by simp only [decide_eq_decide]; omega
  have e3 : decide (i < (p.keep - 1).toNat + p.drop.toNat) = decide (i + 1 < p.keep.toNat + p.drop.toNat) := by simp only [decide_eq_decide]; omega
  have e4 : i - ((p.keep - 1).toNat + p.drop.toNat) = i + 1 - (p.keep.toNat + p.drop.toNat) := by omega
  rw [e1, e3, e4]
theorem row_place {r : List PieceT} (h : RN r) : (rowPut r).1 = putAt r 0 ∧ (rowRun (rowPut r).2).1.2.1 = dropAt r 0 ∧ RN (rowNext r) ∧ (∀ i, putAt (rowNext r) i = putAt r (i + 1)) ∧ (∀ i, dropAt (rowNext r) i = dropAt r (i + 1)) := by
  cases r with
  | nil => exact ⟨rfl, rfl, trivial, fun _ => rfl, fun _ => rfl⟩
  | cons p l =>
    obtain ⟨h1, h2, h3⟩ := h
    unfold rowNext
    rw [rowPut]
    by_cases hk : 0 < p.keep
    · rw [decide_eq_true hk, Bool.true_or, cond_true]
      simp only
      rw [rowRun, decide_eq_true hk, cond_true, rowTake, decide_eq_true hk, cond_true]
      refine ⟨?_, ?_, ⟨by show 0 ≤ p.keep - 1; omega, h2, h3⟩, putAt_keep hk, dropAt_keep hk⟩
      · rw [putAt, decide_eq_true (by omega)]; rfl
      · rw [dropAt, decide_eq_true (by omega)]; rfl
    · have e : p.keep.toNat = 0 := by omega
      have hc : ∃ p', (bif decide (0 < p.keep) || p.put.isEmpty then (([] : List UInt8), p :: l) else (p.put, { p with put := [] } :: l)) = (p.put, p' :: l) ∧ p'.keep = p.keep ∧ p'.drop = p.drop ∧ p'.put = [] := by
        rw [decide_eq_false hk, Bool.false_or]
        cases hp : p.put.isEmpty with
        | true =>
          have := List.isEmpty_iff.1 hp
          exact ⟨p, by rw [this]; rfl, rfl, rfl, this⟩
        | false => exact ⟨{ p with put := [] }, rfl, rfl, rfl, rfl⟩
      obtain ⟨p', hc, c1, c2, c3⟩ := hc
      rw [hc]
      simp only
      have p0 : p.put = putAt (p :: l) 0 := by rw [putAt, e]; rfl
      rw [rowRun, decide_eq_false (by rw [c1]; exact hk), cond_false, c2]
      by_cases hd : 0 < p.drop
      · rw [decide_eq_true hd, cond_true, rowTake, decide_eq_false (by rw [c1]; exact hk), cond_false]
        refine ⟨p0, ?_, ⟨by show 0 ≤ p'.keep; omega, by show 0 ≤ p'.drop - 1; omega, h3⟩, fun i => ?_, fun i => ?_⟩
        · rw [dropAt, e, decide_eq_false (by omega), decide_eq_true (by omega)]; rfl
        · rw [putAt, putAt]
          simp only [c1, c2, e]
          rw [decide_eq_false (by omega : ¬ i < 0), decide_eq_false (by omega : ¬ i + 1 < 0), cond_false, cond_false, decide_eq_false (by omega : ¬ i + 1 = 0), cond_false]
          have e3 : decide (i < 0 + (p.drop - 1).toNat) = decide (i + 1 < 0 + p.drop.toNat) := by simp only [decide_eq_decide]; omega
          have e4 : i - (0 + (p.drop - 1).toNat) = i + 1 - (0 + p.drop.toNat) := by omega
          rw [e3, e4]
          by_cases hi : i = 0
          · subst hi
            rw [decide_eq_true rfl, cond_true, c3]
            by_cases h5 : p.drop = 1
            · rw [h5]
              exact (later_put0 h3).symm
            · rw [decide_eq_true (by omega), cond_true]
          · rw [decide_eq_false hi, cond_false]
        · rw [dropAt, dropAt]
          simp only [c1, c2, e]
          rw [decide_eq_false (by omega : ¬ i < 0), decide_eq_false (by omega : ¬ i + 1 < 0), cond_false, cond_false]
          have e3 : decide (i < 0 + (p.drop - 1).toNat) = decide (i + 1 < 0 + p.drop.toNat) := by simp only [decide_eq_decide]; omega
          have e4 : i - (0 + (p.drop - 1).toNat) = i + 1 - (0 + p.drop.toNat) := by omega
          rw [e3, e4]
      · rw [decide_eq_false hd, cond_false]
        have f : p.drop.toNat = 0 := by omega
        have up : ∀ i, putAt (p :: l) (i + 1) = putAt l (i + 1) := fun i => by
          rw [putAt, e, f, decide_eq_false (by omega : ¬ i + 1 < 0), decide_eq_false (by omega : ¬ i + 1 = 0)]; rfl
        have ud : ∀ i, dropAt (p :: l) i = dropAt l i := fun i => by
          rw [dropAt, e, f, decide_eq_false (by omega : ¬ i < 0)]; rfl
        cases l with
        | nil => exact ⟨p0, by rw [ud]; rfl, trivial, fun i => by rw [up]; rfl, fun i => by rw [ud]; rfl⟩
        | cons q m =>
          have hq := h3 q List.mem_cons_self
          rw [rowRun, decide_eq_true hq.1, cond_true, rowTake, decide_eq_true hq.1, cond_true]
          refine ⟨p0, ?_, ⟨by show 0 ≤ q.keep - 1; omega, hq.2, fun z hz => h3 z (List.mem_cons_of_mem _ hz)⟩, fun i => ?_, fun i => ?_⟩
          · rw [ud, dropAt, decide_eq_true (by omega)]; rfl
          · rw [up, putAt_keep hq.1]
          · rw [ud, dropAt_keep hq.1]

/-! ### The document's answer -/
abbrev Pl := List UInt8 × Bool
/-- What a maker is told of one place. -/
def placeX (first : Bool) (a b : Pl) (m : Mk) : Mk := dX (bif first then (m.put a.1).kept b.1.length else (m.kept b.1.length).put a.1) 1 a.2 b.2
def placeP (first : Bool) (a b : Pl) : List PieceT :=
  (bif first then [⟨0, 0, a.1⟩, ⟨b.1.length, 0, []⟩] else [⟨b.1.length, 0, []⟩, ⟨0, 0, a.1⟩]) ++ (bif b.2 then [] else bif a.2 then [⟨0, 1, []⟩] else [⟨1, 0, []⟩])
theorem place_fold (first : Bool) (a b : Pl) (m : Mk) : (placeP first a b).foldl Mk.piece m = placeX first a b m := by
  have h1 : ∀ (m : Mk) (s : List UInt8), m.piece ⟨0, 0, s⟩ = m.put s := fun m s => by
    unfold Mk.piece
    rw [kept_zero]
    rfl
  have h2 : ∀ (m : Mk) (n : Int), m.piece ⟨n, 0, []⟩ = m.kept n := fun m n => rfl
  have h3 : ∀ (m : Mk), m.piece ⟨0, 1, []⟩ = m.drop 1 := fun m => by
    unfold Mk.piece
    rw [kept_zero]
    rfl
  unfold placeP placeX
  cases first <;> cases b.2 <;> cases a.2 <;> simp [h1, h2, h3, dX]
def placesP (first : Bool) : List Pl → List Pl → List PieceT
  | a :: va, b :: vb => placeP first a b ++ placesP first va vb
  | _, _ => []
def viewP (l : List PieceT) (n : Nat) : List Pl := (List.range' 0 (n + 1)).map fun i => (putAt l i, dropAt l i)
theorem one_place {prior : Bool} {s : Tr} (hp : RN s.p) (hq : RN s.q) : s.one prior = ⟨rowNext s.p, rowNext s.q, placeX prior (putAt s.p 0, dropAt s.p 0) (putAt s.q 0, dropAt s.q 0) s.x, placeX (!prior) (putAt s.q 0, dropAt s.q 0) (putAt s.p 0, dropAt s.p 0) s.y⟩ := by
  obtain ⟨a1, a2, a3, a4, a5⟩ := row_place hp
  obtain ⟨b1, b2, b3, b4, b5⟩ := row_place hq
  unfold Tr.one Tr.puts
  rw [← a1, ← b1, ← a2, ← b2]
  cases prior <;> simp only [cond_true, cond_false, does_eq] <;> rfl
theorem bytes_places {prior : Bool} : ∀ (k : Nat) (s : Tr) (p q : List PieceT) (j : Nat), RN s.p → RN s.q → (∀ i, putAt s.p i = putAt p (j + i)) → (∀ i, dropAt s.p i = dropAt p (j + i)) → (∀ i, putAt s.q i = putAt q (j + i)) → (∀ i, dropAt s.q i = dropAt q (j + i)) →
    (Tr.bytes prior k s).x = (placesP prior ((List.range' j k).map fun i => (putAt p i, dropAt p i)) ((List.range' j k).map fun i => (putAt q i, dropAt q i))).foldl Mk.piece s.x ∧
    (Tr.bytes prior k s).y = (placesP (!prior) ((List.range' j k).map fun i => (putAt q i, dropAt q i)) ((List.range' j k).map fun i => (putAt p i, dropAt p i))).foldl Mk.piece s.y
  | 0, _, _, _, _, _, _, _, _, _, _ => ⟨rfl, rfl⟩
  | k + 1, s, p, q, j, hp, hq, h1, h2, h3, h4 => by
    obtain ⟨a1, a2, a3, a4, a5⟩ := row_place hp
    obtain ⟨b1, b2, b3, b4, b5⟩ := row_place hq
    have ih := bytes_places (prior := prior) k (s.one prior) p q (j + 1)
    rw [one_place hp hq] at ih
    simp only at ih
    have ih := ih a3 b3 (fun i => by rw [a4, h1]; congr 1; omega) (fun i => by rw [a5, h2]; congr 1; omega) (fun i => by rw [b4, h3]; congr 1; omega) (fun i => by rw [b5, h4]; congr 1; omega)
    rw [List.range'_succ, List.map_cons, List.map_cons, placesP, placesP, List.foldl_append, List.foldl_append, place_fold, place_fold]
    show (Tr.bytes prior k (s.one prior)).x = _ ∧ (Tr.bytes prior k (s.one prior)).y = _
    rw [one_place hp hq]
    have e1 := h1 0
    have e2 := h2 0
    have e3 := h3 0
    have e4 := h4 0
    simp only [Nat.add_zero] at e1 e2 e3 e4
    rw [e1, e2, e3, e4] at ih ⊢
    exact ih
/-- The document's answer: by places. -/
def transR (a b : List PieceT) (prior : Bool) : List PieceT × List PieceT × Int :=
  bif !rightP a || !rightP b then ([], [], 2)
  else match max (extN (normP a)) (extN (normP b)) with
    | n => match normP (placesP prior (viewP (normP a) n) (viewP (normP b) n)), normP (placesP (!prior) (viewP (normP b) n) (viewP (normP a) n)) with
      | x, y => bif !rightP x || !rightP y then ([], [], 3) else (x, y, 0)
theorem transR_eq (a b : List PieceT) (prior : Bool) : transR a b prior = transP a b prior := by
  unfold transR transP
  cases h : !rightP a || !rightP b with
  | true => rfl
  | false =>
    rw [Bool.or_eq_false_iff] at h
    have ra : rightP a = true := by simpa using h.1
    have rb : rightP b = true := by simpa using h.2
    simp only [cond_false]
    have g := go_bytes prior (extN (normP a) + extN (normP b) + 1) ⟨normP a, normP b, Mk.nil, Mk.nil⟩ (max (extN (normP a)) (extN (normP b)) + 1) (norm_rn ra) (norm_rn rb) (by simp only; omega) (by simp only; omega) (by simp only; omega)
    have p := bytes_places (prior := prior) (max (extN (normP a)) (extN (normP b)) + 1) ⟨normP a, normP b, Mk.nil, Mk.nil⟩ (normP a) (normP b) 0 (norm_rn ra) (norm_rn rb) (fun i => by rw [Nat.zero_add]) (fun i => by rw [Nat.zero_add]) (fun i => by rw [Nat.zero_add]) (fun i => by rw [Nat.zero_add])
    cases hg : Tr.go prior (extN (normP a) + extN (normP b) + 1) ⟨normP a, normP b, Mk.nil, Mk.nil⟩ with
    | mk p' q' x y =>
      rw [hg] at g
      simp only at g ⊢
      have e1 : normP (placesP prior (viewP (normP a) (max (extN (normP a)) (extN (normP b)))) (viewP (normP b) (max (extN (normP a)) (extN (normP b))))) = x.l := by
        rw [g.1, p.1]; rfl
      have e2 : normP (placesP (!prior) (viewP (normP b) (max (extN (normP a)) (extN (normP b)))) (viewP (normP a) (max (extN (normP a)) (extN (normP b))))) = y.l := by
        rw [g.2, p.2]; rfl
      rw [e1, e2]
end Bow
/- SP31: the document's normal form and views, step by step, in plain Lean. -/
namespace Bow
open Go

theorem modL_snoc (f : PieceT → PieceT) : ∀ (l : List PieceT) (x : PieceT), modL f (l ++ [x]) = l ++ [f x]
  | [], _ => rfl
  | [_], _ => rfl
  | p :: q :: r, x => by
    have ih := modL_snoc f (q :: r) x
    rw [List.cons_append, List.cons_append, modL, ← List.cons_append, ih]
    rfl
theorem modL_ext {f g : PieceT → PieceT} (h : ∀ p, f p = g p) (l : List PieceT) : modL f l = modL g l := by
  rw [show f = g from funext h]
def addP (p q : PieceT) : PieceT := { q with put := q.put ++ p.put, drop := q.drop + p.drop }
theorem piece_some {m : Mk} {p : PieceT} (hd : 0 ≤ p.drop) (h0 : ¬ (p.put = [] ∧ p.drop = 0)) : m.piece p = ⟨modL (addP p) (m.kept p.keep).last.l, (m.kept p.keep).last.keep⟩ := by
  unfold Mk.piece
  generalize m.kept p.keep = K
  obtain ⟨d1, d2⟩ := K.last_done
  by_cases hp : p.put = []
  · have h1 : 0 < p.drop := by
      rcases Int.lt_or_eq_of_le hd with h | h
      · exact h
      · exact absurd ⟨hp, h.symm⟩ h0
    rw [hp, put_nil]
    unfold Mk.drop
    rw [decide_eq_true h1, cond_true]
    congr 1
    exact modL_ext (fun q => by unfold addP; rw [hp, List.append_nil]) _
  · have e : K.put p.put = ⟨modL (fun q => { q with put := q.put ++ p.put }) K.last.l, K.last.keep⟩ := by
      unfold Mk.put
      cases hq : p.put with
      | nil => exact absurd hq hp
      | cons a s => rfl
    rw [e]
    by_cases h1 : 0 < p.drop
    · unfold Mk.drop
      rw [decide_eq_true h1, cond_true]
      rw [Mk.last_of (m := ⟨modL (fun q => { q with put := q.put ++ p.put }) K.last.l, K.last.keep⟩) d1 (modL_ne d2)]
      simp only [modL_modL]
      rfl
    · have h2 : p.drop = 0 := by omega
      unfold Mk.drop
      rw [decide_eq_false h1, cond_false]
      congr 1
      exact modL_ext (fun q => by unfold addP; rw [h2, Int.add_zero]) _
theorem piece_skip {m : Mk} {p : PieceT} (h1 : p.put = []) (h2 : p.drop = 0) : m.piece p = ⟨m.l, m.keep + p.keep⟩ := by
  unfold Mk.piece
  rw [h1, put_nil]
  unfold Mk.drop
  rw [h2]
  rfl
theorem piece_merge {m : Mk} {p : PieceT} (hd : 0 ≤ p.drop) (h0 : ¬ (p.put = [] ∧ p.drop = 0)) (hk : m.keep + p.keep = 0) (hl : m.l ≠ []) : m.piece p = ⟨modL (addP p) m.l, 0⟩ := by
  rw [piece_some hd h0]
  have e : (m.kept p.keep).last = m.kept p.keep := Mk.last_of (by show ¬ 0 < m.keep + p.keep; omega) hl
  rw [e]
  show (⟨modL (addP p) m.l, m.keep + p.keep⟩ : Mk) = _
  rw [hk]
theorem piece_new {m : Mk} {p : PieceT} (hd : 0 ≤ p.drop) (h0 : ¬ (p.put = [] ∧ p.drop = 0)) (hk : 0 < m.keep + p.keep ∨ m.l = []) : m.piece p = ⟨m.l ++ [⟨m.keep + p.keep, p.drop, p.put⟩], 0⟩ := by
  rw [piece_some hd h0]
  have e : (m.kept p.keep).last = ⟨m.l ++ [⟨m.keep + p.keep, 0, []⟩], 0⟩ := by
    unfold Mk.last Mk.kept
    have : (decide (0 < m.keep + p.keep) || m.l.isEmpty) = true := by
      rcases hk with h | h
      · simp [h]
      · simp [h]
    simp only [this, cond_true]
  rw [e]
  simp only [modL_snoc, addP, List.nil_append, Int.zero_add]

/-! ### Views -/
theorem extN_snoc (l : List PieceT) (p : PieceT) : extN (l ++ [p]) = extN l + p.keep.toNat + p.drop.toNat := by
  induction l with
  | nil => simp [extN]
  | cons q l ih => rw [List.cons_append, extN, extN, ih]; omega
theorem putAt_later : ∀ {l : List PieceT} {p : PieceT}, Later (l ++ [p]) → ∀ j, putAt (l ++ [p]) j = bif decide (j = extN l + p.keep.toNat) then p.put else putAt l j
  | [], p, _, j => by
    rw [List.nil_append, putAt, putAt, extN, Nat.zero_add]
    by_cases h : j = p.keep.toNat
    · rw [decide_eq_true h, decide_eq_false (by omega)]; rfl
    · rw [decide_eq_false h]
      cases decide (j < p.keep.toNat) <;> cases decide (j < p.keep.toNat + p.drop.toNat) <;> rfl
  | q :: l, p, h, j => by
    have hl : Later (l ++ [p]) := fun z hz => h z (List.mem_cons_of_mem _ hz)
    have hp : 0 < p.keep := (hl p (List.mem_append_right _ (List.mem_singleton.2 rfl))).1
    have ih := putAt_later hl (j - (q.keep.toNat + q.drop.toNat))
    rw [List.cons_append, putAt, putAt, extN, ih]
    by_cases h1 : j < q.keep.toNat
    · rw [decide_eq_true h1, decide_eq_false (by omega : ¬ j = q.keep.toNat + q.drop.toNat + extN l + p.keep.toNat)]; rfl
    by_cases h2 : j = q.keep.toNat
    · rw [decide_eq_false h1, decide_eq_true h2, decide_eq_false (by omega : ¬ j = q.keep.toNat + q.drop.toNat + extN l + p.keep.toNat)]; rfl
    by_cases h3 : j < q.keep.toNat + q.drop.toNat
    · rw [decide_eq_false h1, decide_eq_false h2, decide_eq_true h3, decide_eq_false (by omega : ¬ j = q.keep.toNat + q.drop.toNat + extN l + p.keep.toNat)]; rfl
    rw [decide_eq_false h1, decide_eq_false h2, decide_eq_false h3]
    have e : decide (j - (q.keep.toNat + q.drop.toNat) = extN l + p.keep.toNat) = decide (j = q.keep.toNat + q.drop.toNat + extN l + p.keep.toNat) := by
      rw [decide_eq_decide]; omega
    rw [e]
    rfl
theorem putAt_snoc {l : List PieceT} {p : PieceT} (h : RN (l ++ [p])) (j : Nat) : putAt (l ++ [p]) j = bif decide (j = extN l + p.keep.toNat) then p.put else putAt l j := by
  cases l with
  | nil =>
    rw [List.nil_append, putAt, putAt, extN, Nat.zero_add]
    by_cases h : j = p.keep.toNat
    · rw [decide_eq_true h, decide_eq_false (by omega)]; rfl
    · rw [decide_eq_false h]
      cases decide (j < p.keep.toNat) <;> cases decide (j < p.keep.toNat + p.drop.toNat) <;> rfl
  | cons q l =>
    have hl : Later (l ++ [p]) := h.2.2
    have hp : 0 < p.keep := (hl p (List.mem_append_right _ (List.mem_singleton.2 rfl))).1
    have ih := putAt_later hl (j - (q.keep.toNat + q.drop.toNat))
    rw [List.cons_append, putAt, putAt, extN, ih]
    by_cases h1 : j < q.keep.toNat
    · rw [decide_eq_true h1, decide_eq_false (by omega : ¬ j = q.keep.toNat + q.drop.toNat + extN l + p.keep.toNat)]; rfl
    by_cases h2 : j = q.keep.toNat
    · rw [decide_eq_false h1, decide_eq_true h2, decide_eq_false (by omega : ¬ j = q.keep.toNat + q.drop.toNat + extN l + p.keep.toNat)]; rfl
    by_cases h3 : j < q.keep.toNat + q.drop.toNat
    · rw [decide_eq_false h1, decide_eq_false h2, decide_eq_true h3, decide_eq_false (by omega : ¬ j = q.keep.toNat + q.drop.toNat + extN l + p.keep.toNat)]; rfl
    rw [decide_eq_false h1, decide_eq_false h2, decide_eq_false h3]
    have e : decide (j - (q.keep.toNat + q.drop.toNat) = extN l + p.keep.toNat) = decide (j = q.keep.toNat + q.drop.toNat + extN l + p.keep.toNat) := by
      rw [decide_eq_decide]; omega
    rw [e]
    rfl
theorem dropAt_snoc : ∀ (l : List PieceT) (p : PieceT) (j : Nat), dropAt (l ++ [p]) j = (dropAt l j || (decide (extN l + p.keep.toNat ≤ j) && decide (j < extN l + p.keep.toNat + p.drop.toNat)))
  | [], p, j => by
    rw [List.nil_append, dropAt, dropAt, extN, Nat.zero_add]
    by_cases h1 : j < p.keep.toNat
    · rw [decide_eq_true h1, decide_eq_false (by omega : ¬ p.keep.toNat ≤ j)]; rfl
    · rw [decide_eq_false h1, decide_eq_true (by omega : p.keep.toNat ≤ j)]
      cases decide (j < p.keep.toNat + p.drop.toNat) <;> rfl
  | q :: l, p, j => by
    rw [List.cons_append, dropAt, dropAt, extN, dropAt_snoc l p]
    by_cases h1 : j < q.keep.toNat
    · rw [decide_eq_true h1, decide_eq_false (by omega : ¬ q.keep.toNat + q.drop.toNat + extN l + p.keep.toNat ≤ j)]; rfl
    by_cases h2 : j < q.keep.toNat + q.drop.toNat
    · rw [decide_eq_false h1, decide_eq_true h2]; rfl
    rw [decide_eq_false h1, decide_eq_false h2, cond_false, cond_false, cond_false, cond_false]
    have e1 : decide (extN l + p.keep.toNat ≤ j - (q.keep.toNat + q.drop.toNat)) = decide (q.keep.toNat + q.drop.toNat + extN l + p.keep.toNat ≤ j) := by rw [decide_eq_decide]; omega
    have e2 : decide (j - (q.keep.toNat + q.drop.toNat) < extN l + p.keep.toNat + p.drop.toNat) = decide (j < q.keep.toNat + q.drop.toNat + extN l + p.keep.toNat + p.drop.toNat) := by rw [decide_eq_decide]; omega
    rw [e1, e2]
theorem dropAt_ge : ∀ (l : List PieceT) (j : Nat), extN l ≤ j → dropAt l j = false
  | [], _, _ => rfl
  | p :: l, j, h => by
    rw [extN] at h
    rw [dropAt, decide_eq_false (by omega : ¬ j < p.keep.toNat), decide_eq_false (by omega : ¬ j < p.keep.toNat + p.drop.toNat)]
    exact dropAt_ge l _ (by omega)
theorem rn_take {l : List PieceT} (h : RN l) (i : Nat) : RN (l.take i) := by
  cases l with
  | nil => rw [List.take_nil]; trivial
  | cons p l =>
    cases i with
    | zero => trivial
    | succ i => exact ⟨h.1, h.2.1, fun q hq => h.2.2 q (List.mem_of_mem_take hq)⟩
theorem rn_nn {l : List PieceT} (h : RN l) : ∀ p ∈ l, p.Nn := by
  cases l with
  | nil => intro p hp; cases hp
  | cons q l =>
    intro p hp
    rcases List.mem_cons.1 hp with rfl | hp
    · exact ⟨h.1, h.2.1⟩
    · have := h.2.2 p hp; exact ⟨by omega, this.2⟩
theorem extN_take {l : List PieceT} {i : Nat} (hi : i < l.length) : extN (l.take (i + 1)) = extN (l.take i) + l[i].keep.toNat + l[i].drop.toNat := by
  rw [List.take_succ_eq_append_getElem hi, extN_snoc]
theorem extN_take_le (l : List PieceT) (i : Nat) : extN (l.take i) ≤ extN l := by
  induction l generalizing i with
  | nil => rw [List.take_nil]; exact Nat.le_refl _
  | cons p l ih =>
    cases i with
    | zero => exact Nat.zero_le _
    | succ i => have := ih i; rw [List.take_succ_cons, extN, extN]; omega
theorem extN_le : ∀ {l : List PieceT}, (∀ p ∈ l, p.Nn) → (extN l : Int) ≤ sumW l
  | [], _ => by simp [extN, sumW]
  | p :: l, h => by
    have h1 := h p List.mem_cons_self
    have h2 := h1.k
    have h3 := h1.d
    have ih := extN_le fun q hq => h q (List.mem_cons_of_mem _ hq)
    simp only [extN, sumW, PieceT.w]
    omega
theorem set_range {α : Type} (f : Nat → α) (N a : Nat) (v : α) : ((List.range' 0 N).map f).set a v = (List.range' 0 N).map fun j => bif decide (j = a) then v else f j := by
  apply List.ext_getElem
  · simp
  · intro j h1 h2
    simp only [List.length_set, List.length_map, List.length_range'] at h1
    rw [List.getElem_set]
    by_cases h : a = j
    · subst h
      simp
    · rw [if_neg h]
      simp [show ¬ j = a from fun e => h e.symm]

/-! ### Places -/
theorem placesP_snoc (first : Bool) : ∀ {va vb : List Pl} {i : Nat} (h1 : i < va.length) (h2 : i < vb.length), placesP first (va.take (i + 1)) (vb.take (i + 1)) = placesP first (va.take i) (vb.take i) ++ placeP first va[i] vb[i]
  | a :: va, b :: vb, 0, _, _ => by simp [placesP]
  | a :: va, b :: vb, i + 1, h1, h2 => by
    have ih := placesP_snoc first (va := va) (vb := vb) (i := i) (Nat.lt_of_succ_lt_succ h1) (Nat.lt_of_succ_lt_succ h2)
    rw [List.take_succ_cons, List.take_succ_cons, placesP, ih, List.take_succ_cons, List.take_succ_cons, placesP, List.append_assoc]
    rfl
theorem place_nn (first : Bool) (a b : Pl) : (∀ p ∈ placeP first a b, p.Nn) ∧ (placeP first a b).length ≤ 3 ∧ sumW (placeP first a b) ≤ a.1.length + b.1.length + 4 := by
  unfold placeP
  cases first <;> cases b.2 <;> cases a.2 <;> refine ⟨?_, by simp, by simp [sumW, PieceT.w]; omega⟩ <;> intro p hp <;> simp at hp <;> rcases hp with rfl | rfl | rfl <;> exact ⟨by simp, by simp⟩
def sumL : List Pl → Nat
  | [] => 0
  | a :: l => a.1.length + sumL l
theorem places_nn (first : Bool) : ∀ (va vb : List Pl), (∀ p ∈ placesP first va vb, p.Nn) ∧ (placesP first va vb).length ≤ 3 * va.length ∧ sumW (placesP first va vb) ≤ sumL va + sumL vb + 4 * va.length
  | [], vb => by
    refine ⟨(fun p hp => (by cases hp)), Nat.zero_le _, ?_⟩
    show (0 : Int) ≤ _
    omega
  | _ :: _, [] => by
    refine ⟨(fun p hp => (by cases hp)), Nat.zero_le _, ?_⟩
    show (0 : Int) ≤ _
    omega
  | a :: va, b :: vb => by
    obtain ⟨h1, h2, h3⟩ := places_nn first va vb
    obtain ⟨g1, g2, g3⟩ := place_nn first a b
    refine ⟨fun p hp => ?_, ?_, ?_⟩
    · rw [placesP] at hp
      rcases List.mem_append.1 hp with hp | hp
      · exact g1 p hp
      · exact h1 p hp
    · rw [placesP, List.length_append, List.length_cons]; omega
    · rw [placesP, sumW_append, sumL, sumL, List.length_cons]; omega
def sumF (f : Nat → Nat) : List Nat → Nat
  | [] => 0
  | j :: l => f j + sumF f l
theorem sumF_out {f : Nat → Nat} {c v : Nat} : ∀ (N s : Nat), c < s → sumF (fun j => bif decide (j = c) then v else f j) (List.range' s N) = sumF f (List.range' s N)
  | 0, _, _ => rfl
  | N + 1, s, h => by
    rw [List.range'_succ, sumF, sumF, sumF_out N (s + 1) (by omega), decide_eq_false (by omega : ¬ s = c)]
    rfl
theorem sumF_one {f : Nat → Nat} {c v : Nat} : ∀ (N s : Nat), sumF (fun j => bif decide (j = c) then v else f j) (List.range' s N) ≤ v + sumF f (List.range' s N)
  | 0, _ => Nat.zero_le _
  | N + 1, s => by
    rw [List.range'_succ, sumF, sumF]
    by_cases h : s = c
    · rw [decide_eq_true h, sumF_out N (s + 1) (by omega)]
      simp only [cond_true]
      omega
    · have := sumF_one (f := f) (c := c) (v := v) N (s + 1)
      rw [decide_eq_false h]
      simp only [cond_false]
      omega
theorem sum_puts : ∀ (i : Nat) {l : List PieceT}, RN l → i ≤ l.length → ∀ N, (sumF (fun j => (putAt (l.take i) j).length) (List.range' 0 N) : Int) ≤ sumW (l.take i)
  | 0, l, _, _, N => by
    have : ∀ (L : List Nat), sumF (fun j => (putAt (l.take 0) j).length) L = 0 := by
      intro L
      induction L with
      | nil => rfl
      | cons a L ih => rw [sumF, ih]; rfl
    rw [this]
    simp [sumW]
  | i + 1, l, h, hi, N => by
    have ih := sum_puts i h (by omega) N
    have e : l.take (i + 1) = l.take i ++ [l[i]] := List.take_succ_eq_append_getElem (by omega)
    have hr := rn_take h (i + 1)
    have hn := rn_nn h _ (List.getElem_mem (by omega : i < l.length))
    have h1 := hn.k
    have h2 := hn.d
    rw [e] at hr
    have e2 : sumF (fun j => (putAt (l.take (i + 1)) j).length) (List.range' 0 N) = sumF (fun j => bif decide (j = extN (l.take i) + l[i].keep.toNat) then l[i].put.length else (putAt (l.take i) j).length) (List.range' 0 N) := by
      congr 1
      funext j
      rw [e, putAt_snoc hr]
      cases decide (j = extN (l.take i) + l[i].keep.toNat) <;> rfl
    have h3 := sumF_one (f := fun j => (putAt (l.take i) j).length) (c := extN (l.take i) + l[i].keep.toNat) (v := l[i].put.length) N 0
    rw [e2, e, sumW_append]
    simp only [sumW, PieceT.w]
    omega
theorem sumL_view {l : List PieceT} (h : RN l) (n : Nat) : (sumL (viewP l n) : Int) ≤ sumW l := by
  have := sum_puts l.length h (Nat.le_refl _) (n + 1)
  rw [List.take_length] at this
  have e : ∀ L : List Nat, sumL (L.map fun i => (putAt l i, dropAt l i)) = sumF (fun j => (putAt l j).length) L := by
    intro L
    induction L with
    | nil => rfl
    | cons a L ih => rw [List.map_cons, sumL, sumF, ih]
  unfold viewP
  rw [e]
  exact this
theorem viewP_len (l : List PieceT) (n : Nat) : (viewP l n).length = n + 1 := by simp [viewP]
end Bow
/- W70: the document's answer of chapter 5: norm, Extent, view, behind, Transform. -/
namespace Bow
open Go Go.Proofs

set_option maxRecDepth 100000 in
theorem w_refRightW (l : List PieceT) (hl : l.length ≤ 1000000000000) (hpl : ∀ p ∈ l, p.put.length ≤ 1000000000000) : Pure Tryz.prog 116 [piecesV l] (fun x => x = .bool (rightP l)) := by
  refine pure_wk (pure_fn 100 Tryz.func116 rfl rfl rfl fun B => ?_)
  refine ⟨fun g0 => go 200 ?_, fun g0 => go 200 ?_⟩
  · have g0 : 4096 < l.length := by have := lt_of g0; simp at this; omega
    exact ⟨trivial, rfl, rfl, rfl, leaf_ff (by unfold rightP; rw [decide_eq_false (by omega)]; rfl)⟩
  have g0 : l.length ≤ 4096 := by have := not_lt_of g0; simp at this; omega
  show Goes _ _ _ _
  refine goes_iter (ι := Nat × Nat) (fun i => i.1 ≤ l.length ∧ i.2 ≤ 1048576 ∧ rightP l = rightGo i.2 (l.drop i.1)) (fun i => l.length - i.1) (fun i => [(4, .int .i64 i.1), (0, piecesV l), (3, .int .i64 i.2)]) (fun _ => []) (0, 0) 200 (fun _ => rfl) (fun _ => rfl) ⟨⟨Nat.zero_le _, Nat.zero_le _, ?_⟩, ?_, ?_⟩ ?_
  · unfold rightP
    rw [decide_eq_true g0]
    rfl
  · exact ⟨⟨rfl, rfl⟩, ⟨rfl, rfl⟩, ⟨rfl, rfl⟩, trivial⟩
  · trivial
  · rintro ⟨i, n⟩ ⟨h1, h3, h2⟩ next
    simp only at h1 h2 h3
    refine ⟨fun hlt => go 200 ?_, fun hge => go 200 ?_⟩
    · have hi : i < l.length := by simpa using hlt
      have hx : (l.map pieceV)[i]? = some (pieceV l[i]) := by simp [hi]
      have hput := hpl l[i] (List.getElem_mem hi)
      rw [drop_cons hi] at h2
      refine ⟨Int.natCast_nonneg i, _, hx, ?_⟩
      refine ⟨fun g1 => go 200 ?_, fun g1 => go 200 ?_⟩
      · have g1 := lt_of g1
        exact ⟨trivial, rfl, rfl, rfl, leaf_ff (by rw [h2]; exact rightGo_bad (by omega))⟩
      have g1 := not_lt_of g1
      refine ⟨Int.natCast_nonneg i, _, hx, ?_⟩
      refine ⟨fun g2 => go 200 ?_, fun g2 => go 200 ?_⟩
      · have g2 := lt_of g2
        exact ⟨trivial, rfl, rfl, rfl, leaf_ff (by rw [h2]; exact rightGo_bad (by omega))⟩
      have g2 := not_lt_of g2
      refine ⟨Int.natCast_nonneg i, _, hx, ?_⟩
      refine ⟨fun g3 => go 200 ?_, fun g3 => go 200 ?_⟩
      · have g3 := lt_of g3
        exact ⟨trivial, rfl, rfl, rfl, leaf_ff (by rw [h2]; exact rightGo_bad (by omega))⟩
      have g3 := not_lt_of g3
      refine ⟨Int.natCast_nonneg i, _, hx, ?_⟩
      refine ⟨fun g4 => go 200 ?_, fun g4 => go 200 ?_⟩
      · have g4 := lt_of g4
        exact ⟨trivial, rfl, rfl, rfl, leaf_ff (by rw [h2]; exact rightGo_bad (by omega))⟩
      have g4 := not_lt_of g4
      refine ⟨Int.natCast_nonneg i, _, hx, ?_⟩
      refine ⟨by constructor <;> omega, ?_⟩
      refine ⟨fun g5 => go 200 ?_, fun g5 => go 200 ?_⟩
      · have g5 := lt_of g5
        exact ⟨trivial, rfl, rfl, rfl, leaf_ff (by rw [h2]; exact rightGo_bad (by omega))⟩
      have g5 := not_lt_of g5
      refine ⟨Int.natCast_nonneg i, _, hx, ?_⟩
      refine ⟨by constructor <;> omega, ?_⟩
      refine ⟨by constructor <;> omega, ?_⟩
      show Goes _ _ _ _
      refine next (i + 1, n + (l[i]).put.length) _ _ ⟨⟨hi, by simp only; omega, ?_⟩, ?_, ⟨⟨rfl, rfl⟩, ⟨rfl, rfl⟩, ⟨rfl, rfl⟩, trivial⟩, trivial⟩
      · rw [h2]
        exact rightGo_good (by omega) (by omega) (by omega) (by omega) (by omega)
      · simp only; omega
    · have hi : l.length ≤ i := by simpa using hge
      rw [List.drop_eq_nil_of_le hi] at h2
      exact ⟨trivial, rfl, rfl, rfl, leaf_tt h2⟩
/-! ### norm -/
def mkN (l : List PieceT) (i : Nat) : Mk := (l.take i).foldl Mk.piece Mk.nil
theorem mkN_succ {l : List PieceT} {i : Nat} (hi : i < l.length) : mkN l (i + 1) = (mkN l i).piece l[i] := by
  unfold mkN
  rw [List.take_succ_eq_append_getElem hi, List.foldl_append]
  rfl
theorem sumW_take' (l : List PieceT) (i : Nat) (h : ∀ p ∈ l, p.Nn) : sumW (l.take i) ≤ sumW l := by
  have e := sumW_append (l.take i) (l.drop i)
  rw [List.take_append_drop] at e
  have := sumW_len (l := l.drop i) fun p hp => h p (List.mem_of_mem_drop hp)
  omega
theorem piece_at {l : List PieceT} {i : Nat} (h : i < l.length) : (l.map pieceV)[i]? = some (pieceV l[i]) := by simp [h]
theorem lastP_at {l : List PieceT} (h : 0 < l.length) : (l.map pieceV)[0 + ((l.length : Int) - 1).toNat]? = some (pieceV (l[l.length - 1]'(by omega))) := by
  have : 0 + ((l.length : Int) - 1).toNat = l.length - 1 := by omega
  rw [this]
  simp [show l.length - 1 < l.length by omega]
theorem set_lastP {f : PieceT → PieceT} {l : List PieceT} (h : 0 < l.length) : (l.map pieceV).set (0 + ((l.length : Int) - 1).toNat) (pieceV (f (l[l.length - 1]'(by omega)))) = (modL f l).map pieceV := by
  have : 0 + ((l.length : Int) - 1).toNat = l.length - 1 := by omega
  rw [this, modL_set f l (by omega), List.map_set]
set_option pp.maxSteps 300 in
set_option maxHeartbeats 2000000 in
set_option maxRecDepth 100000 in
theorem w_ref5norm (l : List PieceT) (h : ∀ p ∈ l, p.Nn) (hw : sumW l ≤ 400000000000) : Pure Tryz.prog 168 [piecesV l] (fun x => x = piecesV (normP l)) := by
  have hlen := sumW_len h
  refine pure_wk (pure_fn 100 Tryz.func168 rfl rfl rfl fun B => ?_)
  show Goes _ _ _ _
  refine goes_own 3 3 rfl ?_
  refine goes_iter (ι := Nat × Nat) (fun i => i.1 ≤ l.length) (fun i => l.length - i.1) (fun i => [(5, .int .i64 i.1), (4, .int .i64 (mkN l i.1).keep), (3, .osl (.loc 0) i.2 0 (mkN l i.1).l.length), (0, piecesV l)]) (fun i => [some (.vec i.2 3 ((mkN l i.1).l.map pieceV))]) (0, 0) 100 (fun _ => rfl) (fun _ => rfl) ⟨Nat.zero_le _, ⟨⟨rfl, rfl⟩, ⟨rfl, rfl⟩, ⟨rfl, rfl⟩, ⟨rfl, rfl⟩, trivial⟩, ⟨⟨rfl, rfl⟩, trivial⟩⟩ ?_
  rintro ⟨i, g⟩ k1 next
  simp only at k1
  refine ⟨fun hlt => go 100 ?_, fun hge => go 100 ?_⟩
  · have hi : i < l.length := by have := lt_of hlt; simp at this; omega
    have hm : l[i] ∈ l := List.getElem_mem hi
    have hn := h _ hm
    obtain ⟨q1, q2⟩ := foldl_ok (l := l.take i) Mk.nil_ok fun p hp => h p (List.mem_of_mem_take hp)
    have q1 : (mkN l i).Ok := q1
    have q2 : (mkN l i).w ≤ Mk.nil.w + 2 * sumW (l.take i) := q2
    have s1 : (mkN l (i, g).fst).keep = (mkN l i).keep := rfl
    have s2 : (((mkN l (i, g).fst).l.length : Nat) : Int) = ((mkN l i).l.length : Nat) := rfl
    have q3 := sumW_take' l i h
    have q4 := sumW_mem h _ hm
    have e1 := mkN_succ hi
    have d1 := q1.k
    have d2 := sumW_len q1.l
    have d3 := hn.k
    have d4 := hn.d
    have d5 : Mk.nil.w = 0 := rfl
    have d6 : (mkN l i).w = (mkN l i).keep + sumW (mkN l i).l := rfl
    have d7 : l[i].w = l[i].keep + l[i].drop + l[i].put.length + 1 := rfl
    have hx := piece_at hi
    have hroom : room (((mkN l i).l.map pieceV).length + 1) 32 := by
      unfold room
      simp only [List.length_map]
      omega
    refine ⟨Int.natCast_nonneg i, _, hx, ?_⟩
    refine ⟨by constructor <;> omega, ?_⟩
    refine ⟨Int.natCast_nonneg i, _, hx, ?_⟩
    refine ⟨fun g1 => go 60 ?_, fun g1 => go 60 ?_⟩
    · have p0 : l[i].put = [] := of_decide_eq_true g1
      refine ⟨Int.natCast_nonneg i, _, hx, ?_⟩
      refine ⟨fun g2 => go 60 ?_, fun g2 => go 60 ?_⟩
      · have p1 : l[i].drop = 0 := eq_of g2
        have e2 : mkN l (i + 1) = ⟨(mkN l i).l, (mkN l i).keep + l[i].keep⟩ := by rw [e1]; exact piece_skip p0 p1
        refine ⟨by constructor <;> omega, ?_⟩
        show Goes _ _ _ _
        refine next (i + 1, g) _ _ ⟨hi, by simp only; omega, ?_, ?_⟩
        · rw [e2]
          exact ⟨⟨rfl, rfl⟩, ⟨rfl, rfl⟩, ⟨rfl, rfl⟩, ⟨rfl, rfl⟩, trivial⟩
        · rw [e2]
          exact ⟨⟨rfl, rfl⟩, trivial⟩
      · have p1 : l[i].drop ≠ 0 := ne_of g2
        have h0 : ¬ (l[i].put = [] ∧ l[i].drop = 0) := fun e => p1 e.2
        refine ⟨fun g3 => go 60 ?_, fun g3 => go 60 ?_⟩
        · have g3 := eq_of g3
          refine ⟨rfl, ?_⟩
          refine ⟨fun g4 => go 60 ?_, fun g4 => go 60 ?_⟩
          · have g4 := lt_of g4
            have hne : (mkN l i).l ≠ [] := fun e => by rw [e] at g4; simp at g4
            have e2 : mkN l (i + 1) = ⟨modL (addP l[i]) (mkN l i).l, 0⟩ := by rw [e1]; exact piece_merge d4 h0 g3 hne
            have hpos : 0 < (mkN l i).l.length := List.length_pos_iff.2 hne
            have hL := lastP_at hpos
            have hLm := sumW_mem q1.l _ (List.getElem_mem (by omega : (mkN l i).l.length - 1 < (mkN l i).l.length))
            have hLn := q1.l _ (List.getElem_mem (by omega : (mkN l i).l.length - 1 < (mkN l i).l.length))
            have hLk := hLn.k
            have hLd := hLn.d
            unfold PieceT.w at hLm
            refine ⟨rfl, ⟨by omega, by omega⟩, rfl, by omega, by omega, rfl, _, hL, ?_⟩
            show Goes _ _ _ _
            refine goes_draw 60 ⟨Int.natCast_nonneg i, _, hx, by rw [List.length_append]; omega, ?_⟩
            refine ⟨by kernel_rfl, ?_⟩
            show Goes _ _ _ _
            refine goes_draw 60 ⟨Int.natCast_nonneg i, _, hx, ⟨by omega, by omega⟩, ?_⟩
            refine ⟨by kernel_rfl, ?_⟩
            refine ⟨rfl, ⟨by omega, by omega⟩, rfl, by omega, by omega, rfl, _, hL, ?_⟩
            refine ⟨⟨by omega, by omega⟩, ?_⟩
            show Goes _ _ _ _
            have e3 := set_lastP (f := addP l[i]) hpos
            refine next (i + 1, g) _ _ ⟨hi, by simp only; omega, ⟨⟨rfl, rfl⟩, ⟨?_, rfl⟩, ⟨?_, rfl⟩, ⟨rfl, rfl⟩, trivial⟩, ⟨⟨?_, rfl⟩, trivial⟩⟩
            · show V.int .i64 ((mkN l i).keep + l[i].keep) = V.int .i64 (mkN l (i + 1)).keep
              rw [e2, g3]
            · show V.osl (.loc 0) g 0 (mkN l i).l.length = V.osl (.loc 0) g 0 (mkN l (i + 1)).l.length
              rw [e2]
              simp only [modL_len]
            · rw [e2]
              exact congrArg (fun z => some (HObj.vec g 3 z)) e3
          · have g4 := not_lt_of g4
            have hnil : (mkN l i).l = [] := List.length_eq_zero_iff.1 (by omega)
            have e2 : mkN l (i + 1) = ⟨(mkN l i).l ++ [⟨(mkN l i).keep + l[i].keep, l[i].drop, l[i].put⟩], 0⟩ := by rw [e1]; exact piece_new d4 h0 (.inr hnil)
            show Goes _ _ _ _
            refine goes_draw 60 ⟨Int.natCast_nonneg i, _, hx, Int.natCast_nonneg i, _, hx, rfl, ⟨rfl, trivial⟩, rfl, rfl, rfl, rfl, by simp, hroom, ?_⟩
            refine ⟨by kernel_rfl, ?_⟩
            refine ⟨⟨by omega, by omega⟩, ?_⟩
            show Goes _ _ _ _
            refine next (i + 1, bump g) _ _ ⟨hi, by simp only; omega, ⟨⟨rfl, rfl⟩, ⟨?_, rfl⟩, ⟨?_, rfl⟩, ⟨rfl, rfl⟩, trivial⟩, ⟨⟨?_, rfl⟩, trivial⟩⟩
            · rw [e2]
              rfl
            · rw [e2]
              exact congrArg (V.osl (.loc 0) (bump g) 0) (by simp)
            · rw [e2]
              exact congrArg (fun z => some (HObj.vec (bump g) 3 z)) (by rw [List.map_append]; rfl)
        · have g3 := ne_of g3
          have e2 : mkN l (i + 1) = ⟨(mkN l i).l ++ [⟨(mkN l i).keep + l[i].keep, l[i].drop, l[i].put⟩], 0⟩ := by rw [e1]; exact piece_new d4 h0 (.inl (by omega))
          show Goes _ _ _ _
          refine goes_draw 60 ⟨Int.natCast_nonneg i, _, hx, Int.natCast_nonneg i, _, hx, rfl, ⟨rfl, trivial⟩, rfl, rfl, rfl, rfl, by simp, hroom, ?_⟩
          refine ⟨by kernel_rfl, ?_⟩
          refine ⟨⟨by omega, by omega⟩, ?_⟩
          show Goes _ _ _ _
          refine next (i + 1, bump g) _ _ ⟨hi, by simp only; omega, ⟨⟨rfl, rfl⟩, ⟨?_, rfl⟩, ⟨?_, rfl⟩, ⟨rfl, rfl⟩, trivial⟩, ⟨⟨?_, rfl⟩, trivial⟩⟩
          · rw [e2]
            rfl
          · rw [e2]
            exact congrArg (V.osl (.loc 0) (bump g) 0) (by simp)
          · rw [e2]
            exact congrArg (fun z => some (HObj.vec (bump g) 3 z)) (by rw [List.map_append]; rfl)
    · have p0 : l[i].put ≠ [] := of_decide_eq_false g1
      have h0 : ¬ (l[i].put = [] ∧ l[i].drop = 0) := fun e => p0 e.1
      refine ⟨fun g3 => go 60 ?_, fun g3 => go 60 ?_⟩
      · have g3 := eq_of g3
        refine ⟨rfl, ?_⟩
        refine ⟨fun g4 => go 60 ?_, fun g4 => go 60 ?_⟩
        · have g4 := lt_of g4
          have hne : (mkN l i).l ≠ [] := fun e => by rw [e] at g4; simp at g4
          have e2 : mkN l (i + 1) = ⟨modL (addP l[i]) (mkN l i).l, 0⟩ := by rw [e1]; exact piece_merge d4 h0 g3 hne
          have hpos : 0 < (mkN l i).l.length := List.length_pos_iff.2 hne
          have hL := lastP_at hpos
          have hLm := sumW_mem q1.l _ (List.getElem_mem (by omega : (mkN l i).l.length - 1 < (mkN l i).l.length))
          have hLn := q1.l _ (List.getElem_mem (by omega : (mkN l i).l.length - 1 < (mkN l i).l.length))
          have hLk := hLn.k
          have hLd := hLn.d
          unfold PieceT.w at hLm
          refine ⟨rfl, ⟨by omega, by omega⟩, rfl, by omega, by omega, rfl, _, hL, ?_⟩
          show Goes _ _ _ _
          refine goes_draw 60 ⟨Int.natCast_nonneg i, _, hx, by rw [List.length_append]; omega, ?_⟩
          refine ⟨by kernel_rfl, ?_⟩
          show Goes _ _ _ _
          refine goes_draw 60 ⟨Int.natCast_nonneg i, _, hx, ⟨by omega, by omega⟩, ?_⟩
          refine ⟨by kernel_rfl, ?_⟩
          refine ⟨rfl, ⟨by omega, by omega⟩, rfl, by omega, by omega, rfl, _, hL, ?_⟩
          refine ⟨⟨by omega, by omega⟩, ?_⟩
          show Goes _ _ _ _
          have e3 := set_lastP (f := addP l[i]) hpos
          refine next (i + 1, g) _ _ ⟨hi, by simp only; omega, ⟨⟨rfl, rfl⟩, ⟨?_, rfl⟩, ⟨?_, rfl⟩, ⟨rfl, rfl⟩, trivial⟩, ⟨⟨?_, rfl⟩, trivial⟩⟩
          · show V.int .i64 ((mkN l i).keep + l[i].keep) = V.int .i64 (mkN l (i + 1)).keep
            rw [e2, g3]
          · show V.osl (.loc 0) g 0 (mkN l i).l.length = V.osl (.loc 0) g 0 (mkN l (i + 1)).l.length
            rw [e2]
            simp only [modL_len]
          · rw [e2]
            exact congrArg (fun z => some (HObj.vec g 3 z)) e3
        · have g4 := not_lt_of g4
          have hnil : (mkN l i).l = [] := List.length_eq_zero_iff.1 (by omega)
          have e2 : mkN l (i + 1) = ⟨(mkN l i).l ++ [⟨(mkN l i).keep + l[i].keep, l[i].drop, l[i].put⟩], 0⟩ := by rw [e1]; exact piece_new d4 h0 (.inr hnil)
          show Goes _ _ _ _
          refine goes_draw 60 ⟨Int.natCast_nonneg i, _, hx, Int.natCast_nonneg i, _, hx, rfl, ⟨rfl, trivial⟩, rfl, rfl, rfl, rfl, by simp, hroom, ?_⟩
          refine ⟨by kernel_rfl, ?_⟩
          refine ⟨⟨by omega, by omega⟩, ?_⟩
          show Goes _ _ _ _
          refine next (i + 1, bump g) _ _ ⟨hi, by simp only; omega, ⟨⟨rfl, rfl⟩, ⟨?_, rfl⟩, ⟨?_, rfl⟩, ⟨rfl, rfl⟩, trivial⟩, ⟨⟨?_, rfl⟩, trivial⟩⟩
          · rw [e2]
            rfl
          · rw [e2]
            exact congrArg (V.osl (.loc 0) (bump g) 0) (by simp)
          · rw [e2]
            exact congrArg (fun z => some (HObj.vec (bump g) 3 z)) (by rw [List.map_append]; rfl)
      · have g3 := ne_of g3
        have e2 : mkN l (i + 1) = ⟨(mkN l i).l ++ [⟨(mkN l i).keep + l[i].keep, l[i].drop, l[i].put⟩], 0⟩ := by rw [e1]; exact piece_new d4 h0 (.inl (by omega))
        show Goes _ _ _ _
        refine goes_draw 60 ⟨Int.natCast_nonneg i, _, hx, Int.natCast_nonneg i, _, hx, rfl, ⟨rfl, trivial⟩, rfl, rfl, rfl, rfl, by simp, hroom, ?_⟩
        refine ⟨by kernel_rfl, ?_⟩
        refine ⟨⟨by omega, by omega⟩, ?_⟩
        show Goes _ _ _ _
        refine next (i + 1, bump g) _ _ ⟨hi, by simp only; omega, ⟨⟨rfl, rfl⟩, ⟨?_, rfl⟩, ⟨?_, rfl⟩, ⟨rfl, rfl⟩, trivial⟩, ⟨⟨?_, rfl⟩, trivial⟩⟩
        · rw [e2]
          rfl
        · rw [e2]
          exact congrArg (V.osl (.loc 0) (bump g) 0) (by simp)
        · rw [e2]
          exact congrArg (fun z => some (HObj.vec (bump g) 3 z)) (by rw [List.map_append]; rfl)
  · have hi : i = l.length := by have := not_lt_of hge; simp at this; omega
    subst hi
    have e : (mkN l l.length).l = normP l := by unfold mkN normP; rw [List.take_length]
    refine ⟨trivial, rfl, rfl, rfl, by simp, rfl, piecesV (normP l), ?_, rfl, rfl⟩
    rw [← e]
    exact Wk.refl _

/-! ### Extent -/
theorem extN_drop {l : List PieceT} {i : Nat} (hi : i < l.length) : extN (l.drop i) = l[i].keep.toNat + l[i].drop.toNat + extN (l.drop (i + 1)) := by
  rw [List.drop_eq_getElem_cons hi, extN]
set_option maxRecDepth 100000 in
theorem w_ref5Extent (l : List PieceT) (h : ∀ p ∈ l, p.Nn) (hw : sumW l ≤ 1000000000000) : Pure Tryz.prog 136 [piecesV l] (fun x => x = .int .i64 (extN l)) := by
  have hlen := sumW_len h
  have hext := extN_le h
  refine pure_fn 100 Tryz.func136 rfl rfl rfl fun B => ?_
  show Goes _ _ _ _
  refine goes_iter (ι := Nat × Nat) (fun i => i.1 ≤ l.length ∧ i.2 + extN (l.drop i.1) = extN l) (fun i => l.length - i.1) (fun i => [(4, .int .i64 i.1), (0, piecesV l), (3, .int .i64 i.2)]) (fun _ => []) (0, 0) 100 (fun _ => rfl) (fun _ => rfl) ⟨⟨Nat.zero_le _, by simp⟩, ⟨⟨rfl, rfl⟩, ⟨rfl, rfl⟩, ⟨rfl, rfl⟩, trivial⟩, trivial⟩ ?_
  rintro ⟨i, n⟩ ⟨k1, k3⟩ next
  simp only at k1 k3
  refine ⟨fun hlt => go 100 ?_, fun hge => go 100 ?_⟩
  · have hi : i < l.length := by simpa using hlt
    have hx := piece_at hi
    have hp := h l[i] (List.getElem_mem hi)
    have := hp.k
    have := hp.d
    rw [extN_drop hi] at k3
    show Goes _ _ _ _
    refine goes_draw 100 ⟨Int.natCast_nonneg i, _, hx, ⟨by omega, by omega⟩, Int.natCast_nonneg i, _, hx, ⟨by omega, by omega⟩, ?_⟩
    refine ⟨by kernel_rfl, ?_⟩
    refine ⟨⟨by omega, by omega⟩, ?_⟩
    show Goes _ _ _ _
    refine next (i + 1, n + l[i].keep.toNat + l[i].drop.toNat) _ _ ⟨⟨hi, by simp only; omega⟩, by simp only; omega, ⟨⟨rfl, rfl⟩, ⟨rfl, rfl⟩, ⟨?_, rfl⟩, trivial⟩, trivial⟩
    show V.int .i64 _ = V.int .i64 _
    congr 1
    omega
  · have hi : l.length ≤ i := by simpa using hge
    rw [List.drop_eq_nil_of_le hi] at k3
    refine ⟨trivial, rfl, rfl, rfl, ?_⟩
    show V.int .i64 _ = V.int .i64 _
    rw [← k3]
    rfl

/-! ### view -/
def bitV (b : Bool) : V := bif b then .tt else .ff
def viewV (l : List PieceT) (n : Nat) : V := .agg [.sl 1 ((List.range' 0 (n + 1)).map fun j => .str (putAt l j)), .sl 1 ((List.range' 0 (n + 1)).map fun j => .bool (dropAt l j))]
theorem wk_bits (f : Nat → Bool) : ∀ L : List Nat, WkE 1 (L.map fun j => bitV (f j)) (L.map fun j => .bool (f j))
  | [] => trivial
  | a :: L => by
    refine ⟨?_, wk_bits f L⟩
    show WkL (bitV (f a)).cells (V.bool (f a)).cells ∧ okE 1 (V.bool (f a))
    cases f a with
    | true => exact ⟨⟨Wk.tt, trivial⟩, rfl, rfl⟩
    | false => exact ⟨⟨Wk.ff, trivial⟩, rfl, rfl⟩
theorem rep_range {α : Type} (x : α) (N : Nat) : List.replicate N x = (List.range' 0 N).map fun _ => x := by
  apply List.ext_getElem
  · simp
  · intro j h1 h2
    simp
theorem range_at {α : Type} (f : Nat → α) {N j : Nat} (h : j < N) : ((List.range' 0 N).map f)[j]? = some (f j) := by simp [h]
set_option pp.maxSteps 300 in
set_option maxHeartbeats 2000000 in
set_option maxRecDepth 100000 in
theorem w_view (l : List PieceT) (n : Nat) (h : RN l) (hw : sumW l ≤ 400000000000) (hn : extN l ≤ n) (hb : n ≤ 1000000000000) : Pure Tryz.prog 242 [piecesV l, .int .i64 n] (fun x => x = viewV l n) := by
  have hnn := rn_nn h
  have hlen := sumW_len hnn
  have hN : ((n : Int) + 1).toNat = n + 1 := by omega
  have hb1 : ((n : Int) + 1).toNat ≤ 1000000000001 := by omega
  refine pure_wk (pure_fn 100 Tryz.func242 rfl rfl rfl fun B => ?_)
  show Goes _ _ _ _
  refine goes_draw 60 ⟨⟨by omega, by omega⟩, ⟨by omega, rfl, Nat.le_trans (Nat.mul_le_mul_left _ hb1) (by decide)⟩, rfl, ⟨by omega, by omega⟩, ⟨by omega, rfl, Nat.le_trans (Nat.mul_le_mul_left _ hb1) (by decide)⟩, rfl, rfl, ?_⟩
  refine ⟨by kernel_rfl, ?_⟩
  show Goes _ _ _ _
  refine goes_iter (ι := Nat) (fun i => i ≤ l.length) (fun i => l.length - i) (fun i => [(7, .int .i64 i), (6, .int .i64 (extN (l.take i))), (5, .ptr (.loc 3) 0), (4, .ptr (.loc 0) 0), (0, piecesV l)])
    (fun i => [some (.box [.nilsl, .nilsl]), some (.vec 2 1 ((List.range' 0 (n + 1)).map fun j => .str (putAt (l.take i) j))), some (.vec 2 1 ((List.range' 0 (n + 1)).map fun j => bitV (dropAt (l.take i) j))), some (.box [.osl (.loc 1) 2 0 (n + 1), .osl (.loc 2) 2 0 (n + 1)])]) 0 60 (fun _ => rfl) (fun _ => rfl)
    ⟨Nat.zero_le _, ⟨⟨rfl, rfl⟩, ⟨rfl, rfl⟩, ⟨rfl, rfl⟩, ⟨rfl, rfl⟩, ⟨rfl, rfl⟩, trivial⟩, ⟨⟨rfl, rfl⟩, ⟨?_, rfl⟩, ⟨?_, rfl⟩, ⟨?_, rfl⟩, trivial⟩⟩ ?_
  · rw [hN]
    exact congrArg (fun z => some (HObj.vec 2 1 z)) (rep_range _ _)
  · rw [hN]
    exact congrArg (fun z => some (HObj.vec 2 1 z)) (rep_range _ _)
  · rw [hN]
    rfl
  rintro i k1 next
  refine ⟨fun hlt => go 60 ?_, fun hge => go 60 ?_⟩
  · have hi : i < l.length := by have := lt_of hlt; simp at this; omega
    have hx := piece_at hi
    have hm := hnn _ (List.getElem_mem hi)
    have d1 := hm.k
    have d2 := hm.d
    have hext := extN_take hi
    have hle := extN_take_le l (i + 1)
    have e1 : l.take (i + 1) = l.take i ++ [l[i]] := List.take_succ_eq_append_getElem hi
    have hr := rn_take h (i + 1)
    rw [e1] at hr
    obtain ⟨c, hc⟩ : ∃ c : Nat, ((extN (l.take i) : Nat) : Int) + l[i].keep = (c : Int) := ⟨extN (l.take i) + l[i].keep.toNat, by omega⟩
    have hc' : c = extN (l.take i) + l[i].keep.toNat := by omega
    have hcn : c + l[i].drop.toNat ≤ n := by omega
    have hct : 0 + (((extN (l.take i) : Nat) : Int) + l[i].keep).toNat = c := by omega
    have hpx : ((List.range' 0 (n + 1)).map fun j => V.str (putAt (l.take i) j))[0 + (((extN (l.take i) : Nat) : Int) + l[i].keep).toNat]? = some (.str (putAt (l.take i) c)) := by
      rw [hct]
      exact range_at _ (by omega)
    refine ⟨Int.natCast_nonneg i, _, hx, ⟨by omega, by omega⟩, ?_⟩
    show Goes _ _ _ _
    refine goes_draw 60 ⟨Int.natCast_nonneg i, _, hx, rfl, by omega, by omega, rfl, _, hpx, ?_⟩
    refine ⟨by kernel_rfl, ?_⟩
    show Goes _ _ _ _
    have eputs : ((List.range' 0 (n + 1)).map fun j => V.str (putAt (l.take i) j)).set (0 + (((extN (l.take i) : Nat) : Int) + l[i].keep).toNat) (.str l[i].put) = (List.range' 0 (n + 1)).map fun j => V.str (putAt (l.take (i + 1)) j) := by
      rw [hct, set_range]
      refine List.map_congr_left fun j _ => ?_
      rw [e1, putAt_snoc hr, ← hc']
      cases decide (j = c) <;> rfl
    refine goes_iter (ι := Nat) (fun k => k ≤ l[i].drop.toNat) (fun k => l[i].drop.toNat - k) (fun k => [(8, .int .i64 k), (7, .int .i64 i), (6, .int .i64 c), (5, .ptr (.loc 3) 0), (4, .ptr (.loc 0) 0), (0, piecesV l)])
      (fun k => [some (.box [.nilsl, .nilsl]), some (.vec 2 1 ((List.range' 0 (n + 1)).map fun j => .str (putAt (l.take (i + 1)) j))), some (.vec 2 1 ((List.range' 0 (n + 1)).map fun j => bitV (dropAt (l.take i) j || (decide (c ≤ j) && decide (j < c + k))))), some (.box [.osl (.loc 1) 2 0 (n + 1), .osl (.loc 2) 2 0 (n + 1)])]) 0 60 (fun _ => rfl) (fun _ => rfl)
      ⟨Nat.zero_le _, ⟨⟨rfl, rfl⟩, ⟨rfl, rfl⟩, ⟨?_, rfl⟩, ⟨rfl, rfl⟩, ⟨rfl, rfl⟩, ⟨rfl, rfl⟩, trivial⟩, ⟨⟨rfl, rfl⟩, ⟨?_, rfl⟩, ⟨?_, rfl⟩, ⟨rfl, rfl⟩, trivial⟩⟩ ?_
    · exact congrArg (V.int .i64) hc
    · exact congrArg (fun z => some (HObj.vec 2 1 z)) eputs
    · refine congrArg (fun z => some (HObj.vec 2 1 z)) (List.map_congr_left fun j _ => ?_)
      congr 1
      by_cases h1 : c ≤ j
      · rw [decide_eq_true h1, decide_eq_false (by omega : ¬ j < c + 0)]; simp
      · rw [decide_eq_false h1]; simp
    rintro k k2 next2
    refine ⟨Int.natCast_nonneg i, _, hx, ?_⟩
    refine ⟨fun hlt2 => go 60 ?_, fun hge2 => go 60 ?_⟩
    · have hk : k < l[i].drop.toNat := by have := lt_of hlt2; omega
      have hck : 0 + ((c : Int) + (k : Int)).toNat = c + k := by omega
      have hdx : ((List.range' 0 (n + 1)).map fun j => bitV (dropAt (l.take i) j || (decide (c ≤ j) && decide (j < c + k))))[0 + ((c : Int) + (k : Int)).toNat]? = some .ff := by
        rw [hck, range_at _ (by omega)]
        rw [dropAt_ge _ _ (by omega), decide_eq_false (by omega : ¬ c + k < c + k)]
        simp [bitV]
      refine ⟨⟨by omega, by omega⟩, rfl, by omega, by omega, rfl, _, hdx, ?_⟩
      refine ⟨⟨by omega, by omega⟩, ?_⟩
      show Goes _ _ _ _
      refine next2 (k + 1) _ _ ⟨hk, by omega, ⟨⟨rfl, rfl⟩, ⟨rfl, rfl⟩, ⟨rfl, rfl⟩, ⟨rfl, rfl⟩, ⟨rfl, rfl⟩, ⟨rfl, rfl⟩, trivial⟩, ⟨⟨rfl, rfl⟩, ⟨rfl, rfl⟩, ⟨?_, rfl⟩, ⟨rfl, rfl⟩, trivial⟩⟩
      show some (HObj.vec 2 1 (List.set _ (0 + ((c : Int) + (k : Int)).toNat) .tt)) = _
      rw [hck, set_range]
      refine congrArg (fun z => some (HObj.vec 2 1 z)) (List.map_congr_left fun j _ => ?_)
      by_cases h1 : j = c + k
      · rw [decide_eq_true h1, h1, decide_eq_true (by omega : c ≤ c + k), decide_eq_true (by omega : c + k < c + (k + 1))]
        simp [bitV]
      · rw [decide_eq_false h1]
        have : decide (j < c + k) = decide (j < c + (k + 1)) := by rw [decide_eq_decide]; omega
        rw [this]
        rfl
    · have hk : k = l[i].drop.toNat := by have := not_lt_of hge2; omega
      refine ⟨Int.natCast_nonneg i, _, hx, ⟨by omega, by omega⟩, ?_⟩
      refine ⟨⟨by omega, by omega⟩, ?_⟩
      show Goes _ _ _ _
      refine next (i + 1) _ _ ⟨hi, by omega, ⟨⟨rfl, rfl⟩, ⟨?_, rfl⟩, ⟨rfl, rfl⟩, ⟨rfl, rfl⟩, ⟨rfl, rfl⟩, trivial⟩, ⟨⟨rfl, rfl⟩, ⟨rfl, rfl⟩, ⟨?_, rfl⟩, ⟨rfl, rfl⟩, trivial⟩⟩
      · exact congrArg (V.int .i64) (by omega)
      · refine congrArg (fun z => some (HObj.vec 2 1 z)) (List.map_congr_left fun j _ => ?_)
        rw [e1, dropAt_snoc, ← hc', hk]
  · have hi : i = l.length := by have := not_lt_of hge; simp at this; omega
    subst hi
    refine ⟨trivial, rfl, rfl, rfl, (by rw [List.length_map, List.length_range']), rfl, (by rw [List.length_map, List.length_range']), rfl, viewV l n, ?_, rfl, rfl⟩
    rw [List.take_length]
    exact Wk.agg ⟨.refl _, Wk.sl (wk_bits _ _), trivial⟩

/-! ### behind -/
theorem viewP_at (l : List PieceT) {n j : Nat} (h : j < (viewP l n).length) : (viewP l n)[j] = (putAt l j, dropAt l j) := by
  have h2 : j < n + 1 := by rw [viewP_len] at h; exact h
  have e : (viewP l n)[j]? = some (putAt l j, dropAt l j) := by unfold viewP; exact range_at _ h2
  rw [List.getElem?_eq_getElem h] at e
  exact Option.some.inj e
set_option pp.maxSteps 300 in
set_option maxHeartbeats 2000000 in
set_option maxRecDepth 100000 in
theorem w_behind5 (la lb : List PieceT) (n : Nat) (first : Bool) (ha : RN la) (hb : RN lb) (wa : sumW la ≤ 40000000000) (wb : sumW lb ≤ 40000000000) (hn : n ≤ 40000000000) :
    Pure Tryz.prog 243 [viewV la n, viewV lb n, .bool first] (fun x => x = piecesV (normP (placesP first (viewP la n) (viewP lb n)))) := by
  have sa := sumL_view ha n
  have sb := sumL_view hb n
  have lva := viewP_len la n
  have lvb := viewP_len lb n
  obtain ⟨nn, len, sw⟩ := places_nn first (viewP la n) (viewP lb n)
  have hnorm := w_ref5norm (placesP first (viewP la n) (viewP lb n)) nn (by omega)
  refine pure_wk (pure_fn 100 Tryz.func243 rfl rfl rfl fun B => ?_)
  show Goes _ _ _ _
  refine goes_own 7 3 rfl ?_
  refine goes_iter (ι := Nat × Nat) (fun i => i.1 ≤ n + 1) (fun i => n + 1 - i.1) (fun i => [(8, .int .i64 i.1), (7, .osl (.loc 2) i.2 0 (placesP first ((viewP la n).take i.1) ((viewP lb n).take i.1)).length), (2, .bool first), (3, .ptr (.loc 0) 0), (4, .ptr (.loc 1) 0)])
    (fun i => [some (.box (viewV la n).cells), some (.box (viewV lb n).cells), some (.vec i.2 3 ((placesP first ((viewP la n).take i.1) ((viewP lb n).take i.1)).map pieceV))]) (0, 0) 100 (fun _ => rfl) (fun _ => rfl)
    ⟨Nat.zero_le _, ⟨⟨rfl, rfl⟩, ⟨rfl, rfl⟩, ⟨rfl, rfl⟩, ⟨rfl, rfl⟩, ⟨rfl, rfl⟩, trivial⟩, ⟨⟨rfl, rfl⟩, ⟨rfl, rfl⟩, ⟨rfl, rfl⟩, trivial⟩⟩ ?_
  rintro ⟨i, g⟩ k1 next
  simp only at k1
  refine ⟨fun hlt => go 100 ?_, fun hge => go 100 ?_⟩
  · have hi : i < n + 1 := by have := lt_of hlt; simp at this; omega
    have px : ((List.range' 0 (n + 1)).map fun j => V.str (putAt la j))[i]? = some (.str (putAt la i)) := range_at _ hi
    have py : ((List.range' 0 (n + 1)).map fun j => V.str (putAt lb j))[i]? = some (.str (putAt lb i)) := range_at _ hi
    have dx : ((List.range' 0 (n + 1)).map fun j => V.bool (dropAt la j))[i]? = some (.bool (dropAt la i)) := range_at _ hi
    have dy : ((List.range' 0 (n + 1)).map fun j => V.bool (dropAt lb j))[i]? = some (.bool (dropAt lb i)) := range_at _ hi
    have hsn := placesP_snoc first (va := viewP la n) (vb := viewP lb n) (i := i) (by omega) (by omega)
    rw [viewP_at, viewP_at] at hsn
    obtain ⟨_, len2, _⟩ := places_nn first ((viewP la n).take i) ((viewP lb n).take i)
    have hl2 : (placesP first ((viewP la n).take i) ((viewP lb n).take i)).length ≤ 3 * i := by
      refine Nat.le_trans len2 ?_
      rw [List.length_take]
      omega
    obtain ⟨P, hP⟩ : ∃ P, placesP first ((viewP la n).take i) ((viewP lb n).take i) = P := ⟨_, rfl⟩
    have room1 : ∀ m : Nat, m ≤ 3 * i + 3 → room m 32 := fun m h => by unfold room; omega
    refine ⟨Int.natCast_nonneg i, _, py, ?_⟩
    refine ⟨Int.natCast_nonneg i, _, px, ?_⟩
    refine ⟨fun g1 => go 100 ?_, fun g1 => go 100 ?_⟩
    · refine ⟨⟨rfl, rfl, trivial⟩, rfl, rfl, rfl, by simp, room1 _ (by simp only [List.length_map, List.length_cons, List.length_nil]; omega), ?_⟩
      refine ⟨Int.natCast_nonneg i, _, dy, ?_⟩
      refine ⟨fun g2 => go 100 ?_, fun g2 => go 100 ?_⟩
      · have hQ : placeP first (putAt la i, dropAt la i) (putAt lb i, dropAt lb i) = [⟨0, 0, putAt la i⟩, ⟨(putAt lb i).length, 0, []⟩] := by unfold placeP; rw [g1, g2]; rfl
        refine ⟨⟨by omega, by omega⟩, ?_⟩
        show Goes _ _ _ _
        refine next (i + 1, bump g) _ _ ⟨hi, by simp only; omega, ⟨⟨rfl, rfl⟩, ⟨?_, rfl⟩, ⟨rfl, rfl⟩, ⟨rfl, rfl⟩, ⟨rfl, rfl⟩, trivial⟩, ⟨⟨rfl, rfl⟩, ⟨rfl, rfl⟩, ⟨?_, rfl⟩, trivial⟩⟩
        · exact congrArg (V.osl (.loc 2) (bump g) 0) (by rw [hsn, hQ, List.length_append, List.length_map]; rfl)
        · exact congrArg (fun z => some (HObj.vec (bump g) 3 z)) (by rw [hsn, hQ, List.map_append]; rfl)
      · refine ⟨Int.natCast_nonneg i, _, dx, ?_⟩
        refine ⟨fun g3 => go 100 ?_, fun g3 => go 100 ?_⟩
        · have hQ : placeP first (putAt la i, dropAt la i) (putAt lb i, dropAt lb i) = [⟨0, 0, putAt la i⟩, ⟨(putAt lb i).length, 0, []⟩, ⟨0, 1, []⟩] := by unfold placeP; rw [g1, g2, g3]; rfl
          refine ⟨⟨rfl, trivial⟩, rfl, rfl, rfl, by simp, room1 _ (by simp only [List.length_append, List.length_map, List.length_cons, List.length_nil]; omega), ?_⟩
          refine ⟨⟨by omega, by omega⟩, ?_⟩
          show Goes _ _ _ _
          refine next (i + 1, bump (bump g)) _ _ ⟨hi, by simp only; omega, ⟨⟨rfl, rfl⟩, ⟨?_, rfl⟩, ⟨rfl, rfl⟩, ⟨rfl, rfl⟩, ⟨rfl, rfl⟩, trivial⟩, ⟨⟨rfl, rfl⟩, ⟨rfl, rfl⟩, ⟨?_, rfl⟩, trivial⟩⟩
          · exact congrArg (V.osl (.loc 2) (bump (bump g)) 0) (by rw [hsn, hQ, List.length_append, List.length_append, List.length_map]; rfl)
          · exact congrArg (fun z => some (HObj.vec (bump (bump g)) 3 z)) (by rw [hsn, hQ, List.map_append, List.append_assoc]; rfl)
        · have hQ : placeP first (putAt la i, dropAt la i) (putAt lb i, dropAt lb i) = [⟨0, 0, putAt la i⟩, ⟨(putAt lb i).length, 0, []⟩, ⟨1, 0, []⟩] := by unfold placeP; rw [g1, g2, g3]; rfl
          refine ⟨⟨rfl, trivial⟩, rfl, rfl, rfl, by simp, room1 _ (by simp only [List.length_append, List.length_map, List.length_cons, List.length_nil]; omega), ?_⟩
          refine ⟨⟨by omega, by omega⟩, ?_⟩
          show Goes _ _ _ _
          refine next (i + 1, bump (bump g)) _ _ ⟨hi, by simp only; omega, ⟨⟨rfl, rfl⟩, ⟨?_, rfl⟩, ⟨rfl, rfl⟩, ⟨rfl, rfl⟩, ⟨rfl, rfl⟩, trivial⟩, ⟨⟨rfl, rfl⟩, ⟨rfl, rfl⟩, ⟨?_, rfl⟩, trivial⟩⟩
          · exact congrArg (V.osl (.loc 2) (bump (bump g)) 0) (by rw [hsn, hQ, List.length_append, List.length_append, List.length_map]; rfl)
          · exact congrArg (fun z => some (HObj.vec (bump (bump g)) 3 z)) (by rw [hsn, hQ, List.map_append, List.append_assoc]; rfl)
    · refine ⟨⟨rfl, rfl, trivial⟩, rfl, rfl, rfl, by simp, room1 _ (by simp only [List.length_map, List.length_cons, List.length_nil]; omega), ?_⟩
      refine ⟨Int.natCast_nonneg i, _, dy, ?_⟩
      refine ⟨fun g2 => go 100 ?_, fun g2 => go 100 ?_⟩
      · have hQ : placeP first (putAt la i, dropAt la i) (putAt lb i, dropAt lb i) = [⟨(putAt lb i).length, 0, []⟩, ⟨0, 0, putAt la i⟩] := by unfold placeP; rw [g1, g2]; rfl
        refine ⟨⟨by omega, by omega⟩, ?_⟩
        show Goes _ _ _ _
        refine next (i + 1, bump g) _ _ ⟨hi, by simp only; omega, ⟨⟨rfl, rfl⟩, ⟨?_, rfl⟩, ⟨rfl, rfl⟩, ⟨rfl, rfl⟩, ⟨rfl, rfl⟩, trivial⟩, ⟨⟨rfl, rfl⟩, ⟨rfl, rfl⟩, ⟨?_, rfl⟩, trivial⟩⟩
        · exact congrArg (V.osl (.loc 2) (bump g) 0) (by rw [hsn, hQ, List.length_append, List.length_map]; rfl)
        · exact congrArg (fun z => some (HObj.vec (bump g) 3 z)) (by rw [hsn, hQ, List.map_append]; rfl)
      · refine ⟨Int.natCast_nonneg i, _, dx, ?_⟩
        refine ⟨fun g3 => go 100 ?_, fun g3 => go 100 ?_⟩
        · have hQ : placeP first (putAt la i, dropAt la i) (putAt lb i, dropAt lb i) = [⟨(putAt lb i).length, 0, []⟩, ⟨0, 0, putAt la i⟩, ⟨0, 1, []⟩] := by unfold placeP; rw [g1, g2, g3]; rfl
          refine ⟨⟨rfl, trivial⟩, rfl, rfl, rfl, by simp, room1 _ (by simp only [List.length_append, List.length_map, List.length_cons, List.length_nil]; omega), ?_⟩
          refine ⟨⟨by omega, by omega⟩, ?_⟩
          show Goes _ _ _ _
          refine next (i + 1, bump (bump g)) _ _ ⟨hi, by simp only; omega, ⟨⟨rfl, rfl⟩, ⟨?_, rfl⟩, ⟨rfl, rfl⟩, ⟨rfl, rfl⟩, ⟨rfl, rfl⟩, trivial⟩, ⟨⟨rfl, rfl⟩, ⟨rfl, rfl⟩, ⟨?_, rfl⟩, trivial⟩⟩
          · exact congrArg (V.osl (.loc 2) (bump (bump g)) 0) (by rw [hsn, hQ, List.length_append, List.length_append, List.length_map]; rfl)
          · exact congrArg (fun z => some (HObj.vec (bump (bump g)) 3 z)) (by rw [hsn, hQ, List.map_append, List.append_assoc]; rfl)
        · have hQ : placeP first (putAt la i, dropAt la i) (putAt lb i, dropAt lb i) = [⟨(putAt lb i).length, 0, []⟩, ⟨0, 0, putAt la i⟩, ⟨1, 0, []⟩] := by unfold placeP; rw [g1, g2, g3]; rfl
          refine ⟨⟨rfl, trivial⟩, rfl, rfl, rfl, by simp, room1 _ (by simp only [List.length_append, List.length_map, List.length_cons, List.length_nil]; omega), ?_⟩
          refine ⟨⟨by omega, by omega⟩, ?_⟩
          show Goes _ _ _ _
          refine next (i + 1, bump (bump g)) _ _ ⟨hi, by simp only; omega, ⟨⟨rfl, rfl⟩, ⟨?_, rfl⟩, ⟨rfl, rfl⟩, ⟨rfl, rfl⟩, ⟨rfl, rfl⟩, trivial⟩, ⟨⟨rfl, rfl⟩, ⟨rfl, rfl⟩, ⟨?_, rfl⟩, trivial⟩⟩
          · exact congrArg (V.osl (.loc 2) (bump (bump g)) 0) (by rw [hsn, hQ, List.length_append, List.length_append, List.length_map]; rfl)
          · exact congrArg (fun z => some (HObj.vec (bump (bump g)) 3 z)) (by rw [hsn, hQ, List.map_append, List.append_assoc]; rfl)
  · have hi : i = n + 1 := by have := not_lt_of hge; simp at this; omega
    subst hi
    have e1 : (viewP la n).take (n + 1) = viewP la n := List.take_of_length_le (by omega)
    have e2 : (viewP lb n).take (n + 1) = viewP lb n := List.take_of_length_le (by omega)
    have hnorm' : Pure Tryz.prog 168 [.sl 3 ((placesP first ((viewP la n).take (n + 1)) ((viewP lb n).take (n + 1))).map pieceV)] (fun x => x = piecesV (normP (placesP first (viewP la n) (viewP lb n)))) := by
      rw [e1, e2]
      exact hnorm
    show CallThen _ _ _ _ _ _
    refine call_pure_frz ?_
    refine ⟨rfl, by simp, _, hnorm', rfl, ?_⟩
    rintro x rfl
    exact ⟨trivial, rfl, rfl, rfl, _, Wk.refl _, rfl, rfl⟩

/-! ### Transform -/
theorem norm_big {l : List PieceT} (h : ∀ p ∈ l, p.Nn) (W : Int) (hw : 2 * sumW l ≤ W) : (∀ p ∈ normP l, p.Nn) ∧ sumW (normP l) ≤ W ∧ ((normP l).length : Int) ≤ W ∧ ∀ p ∈ normP l, (p.put.length : Int) ≤ W := by
  obtain ⟨q1, q2⟩ := foldl_ok (l := l) Mk.nil_ok h
  have d1 := q1.k
  have d5 : Mk.nil.w = 0 := rfl
  have d6 : (l.foldl Mk.piece Mk.nil).w = (l.foldl Mk.piece Mk.nil).keep + sumW (normP l) := rfl
  have d2 : ((normP l).length : Int) ≤ sumW (normP l) := sumW_len q1.l
  refine ⟨q1.l, by omega, by omega, fun p hp => ?_⟩
  have h1 := sumW_mem q1.l p hp
  have h2 := (q1.l p hp).k
  have h3 := (q1.l p hp).d
  unfold PieceT.w at h1
  have h1 : p.keep + p.drop + p.put.length + 1 ≤ sumW (normP l) := h1
  omega
def TrV (r : List PieceT × List PieceT × Int) : V := .tup [piecesV r.1, piecesV r.2.1, .int .i64 r.2.2]
theorem leafT {r : List PieceT × List PieceT × Int} {e : Int} (h : r = ([], [], e)) : ∃ y, Wk (.tup [.nilsl, .nilsl, .int .i64 e]) y ∧ y.pureB = true ∧ y = TrV r := ⟨TrV ([], [], e), Wk.tup ⟨Wk.nil 3, Wk.nil 3, .refl _, trivial⟩, rfl, by rw [h]⟩
set_option pp.maxSteps 300 in
set_option maxHeartbeats 2000000 in
set_option maxRecDepth 100000 in
theorem w_ref5Trans (a b : List PieceT) (prior : Bool) (la : a.length ≤ 1000000) (lb : b.length ≤ 1000000) (pa : ∀ p ∈ a, p.put.length ≤ 1000000000) (pb : ∀ p ∈ b, p.put.length ≤ 1000000000) :
    Pure Tryz.prog 222 [piecesV a, piecesV b, .bool prior] (fun x => x = TrV (transP a b prior)) := by
  rw [← transR_eq]
  obtain ⟨R, hR⟩ : ∃ R, transR a b prior = R := ⟨_, rfl⟩
  rw [hR]
  refine pure_wk (pure_fn 100 Tryz.func222 rfl rfl rfl fun B => ?_)
  show CallThen _ _ _ _ _ _
  refine call_pure (w_refRight a la pa) rfl ?_
  rintro x rfl
  refine ⟨fun g1 => go 100 ?_, fun g1 => go 100 ?_⟩
  · have g1 : rightP a = false := by simpa using g1
    exact ⟨trivial, rfl, rfl, rfl, leafT (by rw [← hR]; unfold transR; rw [g1]; rfl)⟩
  have ra : rightP a = true := by simpa using g1
  show CallThen _ _ _ _ _ _
  refine call_pure (w_refRight b lb pb) rfl ?_
  rintro x rfl
  refine ⟨fun g2 => go 100 ?_, fun g2 => go 100 ?_⟩
  · have g2 : rightP b = false := by simpa using g2
    exact ⟨trivial, rfl, rfl, rfl, leafT (by rw [← hR]; unfold transR; rw [ra, g2]; rfl)⟩
  have rb : rightP b = true := by simpa using g2
  obtain ⟨na, wa⟩ := right_nn ra
  obtain ⟨nb, wb⟩ := right_nn rb
  have ca := w_ref5norm a na (by omega)
  have cb := w_ref5norm b nb (by omega)
  obtain ⟨qa1, qa2, _, _⟩ := norm_big na 40000000000 (by omega)
  obtain ⟨qb1, qb2, _, _⟩ := norm_big nb 40000000000 (by omega)
  have rna := norm_rn ra
  have rnb := norm_rn rb
  have hT : R = bif !rightP (normP (placesP prior (viewP (normP a) (max (extN (normP a)) (extN (normP b)))) (viewP (normP b) (max (extN (normP a)) (extN (normP b)))))) || !rightP (normP (placesP (!prior) (viewP (normP b) (max (extN (normP a)) (extN (normP b)))) (viewP (normP a) (max (extN (normP a)) (extN (normP b)))))) then ([], [], 3) else (normP (placesP prior (viewP (normP a) (max (extN (normP a)) (extN (normP b)))) (viewP (normP b) (max (extN (normP a)) (extN (normP b))))), normP (placesP (!prior) (viewP (normP b) (max (extN (normP a)) (extN (normP b)))) (viewP (normP a) (max (extN (normP a)) (extN (normP b))))), 0) := by
    rw [← hR]
    unfold transR
    rw [ra, rb]
    rfl
  have ea := extN_le qa1
  have eb := extN_le qb1
  have cea := w_ref5Extent _ qa1 (by omega)
  have ceb := w_ref5Extent _ qb1 (by omega)
  generalize normP a = A at *
  generalize normP b = B' at *
  obtain ⟨N, hN⟩ : ∃ N, max (extN A) (extN B') = N := ⟨_, rfl⟩
  rw [hN] at hT
  have hmax : (if ((extN B' : Nat) : Int) > ((extN A : Nat) : Int) then ((extN B' : Nat) : Int) else ((extN A : Nat) : Int)) = (N : Int) := by
    split <;> omega
  have cva := w_view A N rna (by omega) (by omega) (by omega)
  have cvb := w_view B' N rnb (by omega) (by omega) (by omega)
  have cx := w_behind5 A B' N prior rna rnb (by omega) (by omega) (by omega)
  have cy := w_behind5 B' A N (!prior) rnb rna (by omega) (by omega) (by omega)
  have sA := sumL_view rna N
  have sB := sumL_view rnb N
  have lA := viewP_len A N
  have lB := viewP_len B' N
  obtain ⟨x1, _, x3⟩ := places_nn prior (viewP A N) (viewP B' N)
  obtain ⟨y1, _, y3⟩ := places_nn (!prior) (viewP B' N) (viewP A N)
  obtain ⟨_, _, x4, x5⟩ := norm_big x1 1000000000000 (by omega)
  obtain ⟨_, _, y4, y5⟩ := norm_big y1 1000000000000 (by omega)
  have crx := w_refRightW (normP (placesP prior (viewP A N) (viewP B' N))) (by omega) (fun p hp => by have := x5 p hp; omega)
  have cry := w_refRightW (normP (placesP (!prior) (viewP B' N) (viewP A N))) (by omega) (fun p hp => by have := y5 p hp; omega)
  generalize normP (placesP prior (viewP A N) (viewP B' N)) = X at *
  generalize normP (placesP (!prior) (viewP B' N) (viewP A N)) = Y at *
  show CallThen _ _ _ _ _ _
  refine call_pure ca rfl ?_
  rintro x rfl
  show CallThen _ _ _ _ _ _
  refine call_pure cb rfl ?_
  rintro x rfl
  show CallThen _ _ _ _ _ _
  refine call_pure cea rfl ?_
  rintro x rfl
  show CallThen _ _ _ _ _ _
  refine call_pure ceb rfl ?_
  rintro x rfl
  have cva' : Pure Tryz.prog 242 [piecesV A, .int .i64 (if ((extN B' : Nat) : Int) > ((extN A : Nat) : Int) then ((extN B' : Nat) : Int) else ((extN A : Nat) : Int))] (fun x => x = viewV A N) := by rw [hmax]; exact cva
  have cvb' : Pure Tryz.prog 242 [piecesV B', .int .i64 (if ((extN B' : Nat) : Int) > ((extN A : Nat) : Int) then ((extN B' : Nat) : Int) else ((extN A : Nat) : Int))] (fun x => x = viewV B' N) := by rw [hmax]; exact cvb
  show CallThen _ _ _ _ _ _
  refine call_pure cva' rfl ?_
  rintro x rfl
  show CallThen _ _ _ _ _ _
  refine call_pure cvb' rfl ?_
  rintro x rfl
  show Goes _ _ _ _
  refine goes_draw 60 ⟨_, cx, rfl, _, cy, rfl, ?_⟩
  refine ⟨by kernel_rfl, ?_⟩
  show CallThen _ _ _ _ _ _
  refine call_pure crx rfl ?_
  rintro x rfl
  refine ⟨fun g3 => go 100 ?_, fun g3 => go 100 ?_⟩
  · have g3 : rightP X = false := by simpa using g3
    exact ⟨trivial, rfl, rfl, rfl, leafT (by rw [hT, g3]; rfl)⟩
  have g3 : rightP X = true := by simpa using g3
  show CallThen _ _ _ _ _ _
  refine call_pure cry rfl ?_
  rintro x rfl
  refine ⟨fun g4 => go 100 ?_, fun g4 => go 100 ?_⟩
  · have g4 : rightP Y = false := by simpa using g4
    exact ⟨trivial, rfl, rfl, rfl, leafT (by rw [hT, g3, g4]; rfl)⟩
  have g4 : rightP Y = true := by simpa using g4
  exact ⟨trivial, rfl, rfl, rfl, TrV (X, Y, 0), Wk.refl _, rfl, by rw [hT, g3, g4]; rfl⟩
end Bow
/- W71: the document's answer of chapter 12: what becomes of an operation behind another one. -/
namespace Bow
open Go Go.Proofs

theorem w_one (o : OpT) : Pure Tryz.prog 218 [opV o] (fun x => x = opsV [o]) := by
  refine pure_fn 300 Tryz.func218 rfl rfl rfl fun B => ?_
  refine ⟨⟨rfl, trivial⟩, ?_⟩
  exact ⟨trivial, rfl, rfl, rfl, rfl, rfl, rfl⟩
theorem w_keep (h : Bool) (l : List OpT) : Pure Tryz.prog 221 [.bool h, opsV l] (fun x => x = opsV (bif h then l else [])) := by
  refine pure_wk (pure_fn 300 Tryz.func221 rfl rfl rfl fun B => ?_)
  refine ⟨fun g => go 300 ?_, fun g => go 300 ?_⟩
  · have g : h = false := by simpa using g
    exact ⟨trivial, rfl, rfl, rfl, opsV [], Wk.nil 11, rfl, by rw [g]; rfl⟩
  · have g : h = true := by simpa using g
    exact ⟨trivial, rfl, rfl, rfl, opsV l, Wk.refl _, rfl, by rw [g]; rfl⟩
theorem w_drop12 (p : List Int) : Pure Tryz.prog 219 [pathV p] (fun x => x = opV (dropO p)) := by
  refine pure_wk (pure_fn 300 Tryz.func219 rfl rfl rfl fun B => ?_)
  exact ⟨trivial, rfl, rfl, rfl, opV (dropO p), Wk.agg ⟨.refl _, .refl _, .refl _, Wk.nil 1, .refl _, Wk.ff, .refl _, .refl _, .refl _, Wk.ff, Wk.nil 3, trivial⟩, rfl, rfl⟩
set_option maxRecDepth 100000 in
theorem w_Sound12 (o : OpT) (ho : o.Ok) : Pure Tryz.prog 182 [opV o] (fun x => x = .bool (soundO o)) := by
  refine pure_wk (pure_fn 300 Tryz.func182 rfl rfl rfl fun B => ?_)
  have hW := w_refWithin o.path o.to ho.lt.path
  show CallThen _ _ _ _ _ _
  refine call_pure (w_refFormed o ho.lt ho.each) rfl ?_
  rintro x rfl
  repeat' first
    | (refine ⟨fun _ => go 300 ?_, fun _ => go 300 ?_⟩)
    | (show CallThen _ _ _ _ _ _; refine call_pure hW rfl ?_; rintro z rfl)
    | (refine ⟨trivial, rfl, rfl, rfl, leaf_tt ?_⟩)
    | (refine ⟨trivial, rfl, rfl, rfl, leaf_ff ?_⟩)
    | (refine ⟨trivial, rfl, rfl, rfl, leaf_b ?_⟩)
    | fail
  all_goals clear hW
  all_goals (unfold soundO; cases hf : formedB o with
    | false => simp_all
    | true => rcases formed_kinds hf with k | k | k | k | k | k <;> simp_all <;> (try intro _) <;> exact List.length_pos_iff.2 (by assumption))

theorem gapP_node (o : OpT) (p : List Int) (n : Int) (f : Bool) : (gapP o p n f).1 = (nodeP o p).getD [] := by
  unfold gapP
  cases nodeP o p with
  | none => rfl
  | some q => cases movesO o <;> rfl
set_option maxHeartbeats 4000000 in
set_option maxRecDepth 100000 in
theorem w_row9 (b a : OpT) (prior : Bool) (ha : a.Ok) (hb : b.Ok) (hf : formedB b = true) :
    Pure Tryz.prog 223 [opV b, opV a, .bool prior] (fun x => x = opV (shiftedO b a prior)) := by
  have hpl := may_len (formed_path hf)
  have hps := may_step (formed_path hf)
  refine pure_fn 300 Tryz.func223 rfl rfl rfl fun B => ?_
  refine ⟨fun g1 => go 300 ?_, fun g1 => go 300 ?_⟩
  · have hk : b.kind = 1 := eq_of g1
    have hg := formed_gap hf (.inl hk)
    show CallThen _ _ _ _ _ _
    refine call_pure (w_refGap a b.path b.at_ prior ha (by omega) hps ⟨by omega, by omega⟩) rfl ?_
    rintro x rfl
    refine ⟨trivial, rfl, rfl, rfl, ?_⟩
    have e := gapP_node a b.path b.at_ prior
    unfold shiftedO
    rw [decide_eq_true hk, ← e]
    rfl
  have hk1 : b.kind ≠ 1 := ne_of g1
  refine ⟨fun g2 => go 300 ?_, fun g2 => go 300 ?_⟩
  · have hk : b.kind = 3 := eq_of g2
    have hg := formed_gap hf (.inr hk)
    have htl := may_len (good_to hf hk)
    have hts := may_step (good_to hf hk)
    show CallThen _ _ _ _ _ _
    refine call_pure (w_refNode a b.path ha (by omega) hps) rfl ?_
    rintro x rfl
    show CallThen _ _ _ _ _ _
    refine call_pure (w_refGap a b.to b.at_ prior ha (by omega) hts ⟨by omega, by omega⟩) rfl ?_
    rintro x rfl
    refine ⟨trivial, rfl, rfl, rfl, ?_⟩
    unfold shiftedO
    rw [decide_eq_false hk1, decide_eq_true hk]
    rfl
  · have hk3 : b.kind ≠ 3 := ne_of g2
    show CallThen _ _ _ _ _ _
    refine call_pure (w_refNode a b.path ha (by omega) hps) rfl ?_
    rintro x rfl
    refine ⟨trivial, rfl, rfl, rfl, ?_⟩
    unfold shiftedO
    rw [decide_eq_false hk1, decide_eq_false hk3]
    rfl

theorem leafO {l r : List OpT} (h : r = l) : ∃ y, Wk (opsV l) y ∧ y.pureB = true ∧ y = opsV r := ⟨opsV r, by rw [h]; exact Wk.refl _, rfl, rfl⟩
set_option maxHeartbeats 4000000 in
set_option maxRecDepth 100000 in
theorem w_twoMoves (b a : OpT) (prior : Bool) (ha : a.Ok) (hb : b.Ok) (fa : formedB a = true) (fb : formedB b = true) (ka : a.kind = 3) (kb : b.kind = 3) :
    Pure Tryz.prog 220 [opV b, opV a, .bool prior] (fun x => x = opsV (rowO b a prior)) := by
  have pa := may_len (formed_path fa)
  have pb := may_len (formed_path fb)
  have hrow : rowO b a prior = bif decide (a.path = b.path) then (bif prior then [shiftedO b a prior] else []) else bif within b.path a.to && within a.path b.to then (bif prior then [undoO a, b] else []) else [shiftedO b a prior] := by
    unfold rowO wonO
    rw [ka, kb]
    simp
  have h9 := w_row9 b a prior ha hb fb
  have c1 := w_refSame a.path b.path (by omega)
  have c2 := w_refWithin b.path a.to (by omega)
  have c3 := w_refWithin a.path b.to (by omega)
  have ck1 := w_keep prior [shiftedO b a prior]
  have ck2 := w_keep prior [undoO a, b]
  rw [hrow]
  clear hrow
  refine pure_wk (pure_fn 300 Tryz.func220 rfl rfl rfl fun B => ?_)
  show CallThen _ _ _ _ _ _
  refine call_pure c1 rfl ?_
  rintro x rfl
  refine ⟨fun g1 => go 300 ?_, fun g1 => go 300 ?_⟩
  · show CallThen _ _ _ _ _ _
    refine call_pure h9 rfl ?_
    rintro x rfl
    show CallThen _ _ _ _ _ _
    refine call_pure (w_one _) rfl ?_
    rintro x rfl
    show CallThen _ _ _ _ _ _
    refine call_pure ck1 rfl ?_
    rintro x rfl
    exact ⟨trivial, rfl, rfl, rfl, leafO (by rw [g1]; rfl)⟩
  show CallThen _ _ _ _ _ _
  refine call_pure c2 rfl ?_
  rintro x rfl
  refine ⟨fun g2 => go 300 ?_, fun g2 => go 300 ?_⟩
  · show CallThen _ _ _ _ _ _
    refine call_pure c3 rfl ?_
    rintro x rfl
    refine ⟨fun g3 => go 300 ?_, fun g3 => go 300 ?_⟩
    · show Goes _ _ _ _
      refine goes_draw 300 ⟨_, w_ref11Undo a ha, rfl, rfl, ⟨rfl, rfl, trivial⟩, by kernel_rfl, rfl, rfl, _, ck2, rfl, ?_⟩
      refine ⟨by kernel_rfl, ?_⟩
      exact ⟨trivial, rfl, rfl, rfl, leafO (by rw [g1, g2, g3]; rfl)⟩
    · show CallThen _ _ _ _ _ _
      refine call_pure h9 rfl ?_
      rintro x rfl
      show CallThen _ _ _ _ _ _
      refine call_pure (w_one _) rfl ?_
      rintro x rfl
      exact ⟨trivial, rfl, rfl, rfl, leafO (by rw [g1, g2, g3]; rfl)⟩
  · show CallThen _ _ _ _ _ _
    refine call_pure h9 rfl ?_
    rintro x rfl
    show CallThen _ _ _ _ _ _
    refine call_pure (w_one _) rfl ?_
    rintro x rfl
    exact ⟨trivial, rfl, rfl, rfl, leafO (by rw [g1, g2]; rfl)⟩
def RowV (l : List OpT) : V := .tup [opsV l, .int .i64 0]
theorem leafR {l r : List OpT} (h : r = l) : ∃ y, Wk (.tup [opsV l, .int .i64 0]) y ∧ y.pureB = true ∧ y = RowV r := ⟨RowV r, by rw [h]; exact Wk.refl _, rfl, rfl⟩
theorem leafR0 {r : List OpT} (h : r = []) : ∃ y, Wk (.tup [.nilsl, .int .i64 0]) y ∧ y.pureB = true ∧ y = RowV r := ⟨RowV [], Wk.tup ⟨Wk.nil 11, .refl _, trivial⟩, rfl, by rw [h]⟩
theorem node_idle {a : OpT} (h : a.kind ≠ 1 ∧ a.kind ≠ 2 ∧ a.kind ≠ 3) : movesO a = false := by
  unfold movesO
  rw [decide_eq_false h.1, decide_eq_false h.2.1, decide_eq_false h.2.2]
  simp
/-- Behind an operation that moves no node nothing is shifted. -/
theorem shifted_idle {a : OpT} (b : OpT) (p : Bool) (h : a.kind ≠ 1 ∧ a.kind ≠ 2 ∧ a.kind ≠ 3) : shiftedO b a p = b := by
  have hm := node_idle h
  have hg : ∀ q n f, gapP a q n f = (q, n, true) := fun q n f => by unfold gapP; rw [node_still q hm, hm]; rfl
  unfold shiftedO
  rw [node_still b.path hm, hg, hg]
  simp only [Option.getD_some]
  cases decide (b.kind = 1) <;> cases decide (b.kind = 3) <;> rfl
theorem within_eq {p q : List Int} (h : within p q = true) (hl : q.length ≤ p.length) : p = q := by
  unfold within at h
  rw [List.take_of_length_le hl] at h
  exact of_decide_eq_true h
theorem eqB {a b : Int} {p : Prop} (h : (a = b) → p) (g : decide (a = b) = true) : p := h (eq_of g)
theorem neB {a b : Int} {p : Prop} (h : (a ≠ b) → p) (g : decide (a = b) = false) : p := h (ne_of g)
set_option maxHeartbeats 8000000 in
set_option maxRecDepth 100000 in
theorem w_behind12 (b a : OpT) (prior : Bool) (ha : a.Ok) (hb : b.Ok) (sa : soundO a = true) (sb : soundO b = true) (he : bothEdit b a = false) :
    Pure Tryz.prog 183 [opV b, opV a, .bool prior] (fun x => x = RowV (rowO b a prior)) := by
  have fa : formedB a = true := by unfold soundO at sa; rw [Bool.and_eq_true] at sa; exact sa.1
  have fb : formedB b = true := by unfold soundO at sb; rw [Bool.and_eq_true] at sb; exact sb.1
  have pa := may_len (formed_path fa)
  have pb := may_len (formed_path fb)
  have qa := may_step (formed_path fa)
  have qb := may_step (formed_path fb)
  have ka := formed_kinds fa
  have kb := formed_kinds fb
  have h9 := w_row9 b a prior ha hb fb
  have c1 := w_refSame a.path b.path (by omega)
  have c2 := w_refWithin a.path b.path (by omega)
  have c3 := w_refWithin a.path b.to (by omega)
  have c4 := w_refWithin b.path a.path (by omega)
  have c5 := w_refWithin b.path a.to (by omega)
  have n1 := w_refNode a b.path ha (by omega) qb
  have n2 := w_refNode a a.path ha (by omega) qa
  have hna := nodeP_len64 a a.path
  have hnb := nodeP_len64 a b.path
  have hqs := node_steps (a := a) (p := b.path) (may_strict (formed_path fb))
  have d1 := w_drop12 ((nodeP a b.path).getD [])
  have d2 := w_drop12 ((nodeP a a.path).getD [])
  have n3 := w_refNode (dropO ((nodeP a a.path).getD [])) ((nodeP a b.path).getD []) (drop_ok (by omega)) (by omega) hqs
  have d3 := w_drop12 ((nodeP (dropO ((nodeP a a.path).getD [])) ((nodeP a b.path).getD [])).getD [])
  have o1 := w_one (shiftedO b a prior)
  have o2 := w_one b
  have o3 := w_one (dropO ((nodeP a b.path).getD []))
  have k1 := w_keep prior [b]
  have len : ∀ p : List Int, (List.map intV p).length = p.length := fun p => List.length_map _
  refine pure_wk (pure_fn 100 Tryz.func183 rfl rfl rfl fun B => ?_)
  repeat' first
    | (refine ⟨fun g => absurd (eq_of g) (by omega), fun _ => go 100 ?_⟩)
    | (refine ⟨fun _ => go 100 ?_, fun g => absurd (by omega) (ne_of g)⟩)
    | (refine ⟨fun g => absurd (lt_of g) (by simp only [len]; omega), fun _ => go 100 ?_⟩)
    | (refine ⟨eqB fun k => go 100 ?_, neB fun k => go 100 ?_⟩)
    | (refine ⟨fun _ => go 100 ?_, fun _ => go 100 ?_⟩)
    | (show CallThen _ _ _ _ _ _; refine call_pure c1 rfl ?_; rintro z rfl)
    | (show CallThen _ _ _ _ _ _; refine call_pure c2 rfl ?_; rintro z rfl)
    | (show CallThen _ _ _ _ _ _; refine call_pure c3 rfl ?_; rintro z rfl)
    | (show CallThen _ _ _ _ _ _; refine call_pure c4 rfl ?_; rintro z rfl)
    | (show CallThen _ _ _ _ _ _; refine call_pure c5 rfl ?_; rintro z rfl)
    | (show CallThen _ _ _ _ _ _; refine call_pure n1 rfl ?_; rintro z rfl)
    | (show CallThen _ _ _ _ _ _; refine call_pure n2 rfl ?_; rintro z rfl)
    | (show CallThen _ _ _ _ _ _; refine call_pure n3 rfl ?_; rintro z rfl)
    | (show CallThen _ _ _ _ _ _; refine call_pure d1 rfl ?_; rintro z rfl)
    | (show CallThen _ _ _ _ _ _; refine call_pure d2 rfl ?_; rintro z rfl)
    | (show CallThen _ _ _ _ _ _; refine call_pure d3 rfl ?_; rintro z rfl)
    | (show CallThen _ _ _ _ _ _; refine call_pure h9 rfl ?_; rintro z rfl)
    | (show CallThen _ _ _ _ _ _; refine call_pure o1 rfl ?_; rintro z rfl)
    | (show CallThen _ _ _ _ _ _; refine call_pure o2 rfl ?_; rintro z rfl)
    | (show CallThen _ _ _ _ _ _; refine call_pure o3 rfl ?_; rintro z rfl)
    | (show CallThen _ _ _ _ _ _; refine call_pure k1 rfl ?_; rintro z rfl)
    | (show CallThen _ _ _ _ _ _; refine call_pure (w_twoMoves b a prior ha hb fa fb (by omega) (by omega)) rfl ?_; rintro z rfl)
    | (refine ⟨trivial, rfl, rfl, rfl, leafR0 ?_⟩)
    | (refine ⟨trivial, rfl, rfl, rfl, leafR ?_⟩)
    | (refine ⟨⟨rfl, rfl, trivial⟩, ?_⟩; refine ⟨trivial, rfl, rfl, rfl, rfl, rfl, leafR (l := [dropO ((nodeP a a.path).getD []), dropO ((nodeP (dropO ((nodeP a a.path).getD [])) ((nodeP a b.path).getD [])).getD [])]) ?_⟩)
    | fail
  all_goals clear c1 c2 c3 c4 c5 n1 n2 n3 d1 d2 d3 o1 o2 o3 k1 h9
  all_goals try rfl
  all_goals try (exfalso; have hk6 : a.kind = 6 := (by omega); unfold bothEdit at he; simp_all; done)
  all_goals (unfold rowO wonO)
  all_goals try (simp_all; done)
  all_goals first
    | (have hid : shiftedO b a prior = b := shifted_idle b prior ⟨by omega, by omega, by omega⟩; rw [hid]; simp_all; done)
    | (have hne : ¬ b.path = a.path := (by intro e; simp_all); simp_all; done)
    | (cases hw : within b.path a.path with
       | false => simp_all
       | true =>
         have hl := within_len hw
         have hge : a.path.length ≤ b.path.length := by simp_all
         have heq := within_eq hw hge
         simp_all)
set_option pp.maxSteps 300 in
set_option maxHeartbeats 4000000 in
set_option maxRecDepth 100000 in
theorem w_behind12E (b a : OpT) (prior : Bool) (ha : a.Ok) (hb : b.Ok) (sa : soundO a = true) (sb : soundO b = true) (he : bothEdit b a = true) :
    Pure Tryz.prog 183 [opV b, opV a, .bool prior] (fun x => x = .tup [opsV [editO b a prior], .int .i64 (transP b.pieces a.pieces prior).2.2]) := by
  unfold bothEdit at he
  simp only [Bool.and_eq_true, decide_eq_true_eq] at he
  obtain ⟨k1, k2, k3⟩ := he
  have fa : formedB a = true := by unfold soundO at sa; rw [Bool.and_eq_true] at sa; exact sa.1
  have fb : formedB b = true := by unfold soundO at sb; rw [Bool.and_eq_true] at sb; exact sb.1
  have pa := may_len (formed_path fa)
  obtain ⟨l1, l2⟩ := right_bounds (formed_pieces fa k1)
  obtain ⟨l3, l4⟩ := right_bounds (formed_pieces fb k2)
  have ct := w_ref5Trans b.pieces a.pieces prior (by omega) (by omega) l4 l2
  have c1 := w_refSame a.path b.path (by omega)
  rw [decide_eq_true k3] at c1
  have o1 := w_one (editO b a prior)
  have ee : editO b a prior = { b with pieces := (transP b.pieces a.pieces prior).1 } := rfl
  rw [ee] at o1 ⊢
  clear ee
  obtain ⟨⟨r1, r2, e⟩, hr⟩ : ∃ r, transP b.pieces a.pieces prior = r := ⟨_, rfl⟩
  rw [hr] at ct o1 ⊢
  refine pure_fn 100 Tryz.func183 rfl rfl rfl fun B => ?_
  refine ⟨fun g => go 100 ?_, fun g => absurd (by omega) (ne_of g)⟩
  show CallThen _ _ _ _ _ _
  refine call_pure c1 rfl ?_
  rintro x rfl
  refine ⟨fun g => absurd (eq_of g) (by omega), fun _ => go 100 ?_⟩
  refine ⟨fun g => absurd (eq_of g) (by omega), fun _ => go 100 ?_⟩
  refine ⟨fun g => absurd (eq_of g) (by omega), fun _ => go 100 ?_⟩
  refine ⟨fun g => absurd (eq_of g) (by omega), fun _ => go 100 ?_⟩
  refine ⟨fun _ => go 100 ?_, fun g => (by cases g)⟩
  refine ⟨fun g => absurd (eq_of g) (by omega), fun _ => go 100 ?_⟩
  refine ⟨fun _ => go 100 ?_, fun g => (by cases g)⟩
  refine ⟨fun g => absurd (eq_of g) (by omega), fun _ => go 100 ?_⟩
  refine ⟨fun _ => go 100 ?_, fun g => (by cases g)⟩
  refine ⟨fun _ => go 100 ?_, fun g => absurd (by omega) (ne_of g)⟩
  show CallThen _ _ _ _ _ _
  refine call_pure ct rfl ?_
  rintro x rfl
  show CallThen _ _ _ _ _ _
  refine call_pure o1 rfl ?_
  rintro x rfl
  exact ⟨trivial, rfl, rfl, rfl, rfl⟩
end Bow
/- W72: the document's Behind and Both (chapter 12); the law SquareBehind, walked. -/
namespace Bow
open Go Go.Proofs

theorem row_ok' {b a : OpT} {prior : Bool} (ha : a.Ok) (hb : b.Ok) (sa : soundO a = true) (sb : soundO b = true) (hto : a.to.length ≤ 1000 ∧ b.to.length ≤ 1000) : ∀ o ∈ rowO b a prior, o.Ok := by
  have fa : formedB a = true := by unfold soundO at sa; rw [Bool.and_eq_true] at sa; exact sa.1
  have fb : formedB b = true := by unfold soundO at sb; rw [Bool.and_eq_true] at sb; exact sb.1
  have pa := may_len (formed_path fa)
  have pb := may_len (formed_path fb)
  exact row_ok (prior := prior) ha hb (by omega) (by omega) hto.1 hto.2
/-- What behind hands to Behind. -/
def rowX (b a : OpT) (prior : Bool) : List OpT × Int := bif bothEdit b a then ([editO b a prior], (transP b.pieces a.pieces prior).2.2) else (rowO b a prior, 0)
theorem w_behind12X (b a : OpT) (prior : Bool) (ha : a.Ok) (hb : b.Ok) (sa : soundO a = true) (sb : soundO b = true) :
    Pure Tryz.prog 183 [opV b, opV a, .bool prior] (fun x => x = BehV (rowX b a prior)) := by
  unfold rowX
  cases he : bothEdit b a with
  | false => exact w_behind12 b a prior ha hb sa sb he
  | true => exact w_behind12E b a prior ha hb sa sb he
theorem rowX_len (b a : OpT) (prior : Bool) : (rowX b a prior).1.length ≤ 2 := by
  unfold rowX
  cases bothEdit b a with
  | false => exact row_len b a prior
  | true => exact Nat.le_succ _
theorem behX_rowX {b a : OpT} {prior : Bool} (sa : soundO a = true) (sb : soundO b = true) : behindX b a prior = bif !decide ((rowX b a prior).2 = 0) then ([], 3) else bif (rowX b a prior).1.all formedB then (bareL (rowX b a prior).1, 0) else ([], 3) := by
  unfold behindX rowX
  cases bothEdit b a with
  | false =>
    unfold behindO
    rw [sa, sb]
    rfl
  | true =>
    simp only [cond_true]
    unfold behindE
    rw [sa, sb]
    simp only [Bool.not_true, Bool.or_self, cond_false]
    cases decide ((transP b.pieces a.pieces prior).2.2 = 0) with
    | false => rfl
    | true =>
      simp only [Bool.true_and, Bool.not_true, cond_false, List.all_cons, List.all_nil, Bool.and_true]
      rfl
set_option pp.maxSteps 300 in
set_option maxHeartbeats 4000000 in
set_option maxRecDepth 100000 in
theorem w_refBehind (b a : OpT) (prior : Bool) (ha : a.Ok) (hb : b.Ok) (hto : a.to.length ≤ 1000 ∧ b.to.length ≤ 1000) :
    Pure Tryz.prog 143 [opV b, opV a, .bool prior] (fun x => x = BehV (behindX b a prior)) := by
  obtain ⟨R, hR⟩ : ∃ R, behindX b a prior = R := ⟨_, rfl⟩
  rw [hR]
  refine pure_wk (pure_fn 300 Tryz.func143 rfl rfl rfl fun B => ?_)
  show CallThen _ _ _ _ _ _
  refine call_pure (w_Sound12 a ha) rfl ?_
  rintro x rfl
  refine ⟨fun g1 => go 300 ?_, fun g1 => go 300 ?_⟩
  · have g1 : soundO a = false := by simpa using g1
    exact ⟨trivial, rfl, rfl, rfl, behZ' (by rw [← hR, behX_bad (by rw [g1]; rfl)])⟩
  have sa : soundO a = true := by simpa using g1
  show CallThen _ _ _ _ _ _
  refine call_pure (w_Sound12 b hb) rfl ?_
  rintro x rfl
  refine ⟨fun g2 => go 300 ?_, fun g2 => go 300 ?_⟩
  · have g2 : soundO b = false := by simpa using g2
    exact ⟨trivial, rfl, rfl, rfl, behZ' (by rw [← hR, behX_bad (by rw [g2]; simp)])⟩
  have sb : soundO b = true := by simpa using g2
  have hcall := w_behind12X b a prior ha hb sa sb
  have hlen := rowX_len b a prior
  rw [behX_rowX sa sb] at hR
  have hok : ∀ o ∈ (rowX b a prior).1, o.Lt 1000000 ∧ ∀ p ∈ o.pieces, p.put.length ≤ 1000000000 := by
    unfold rowX
    cases bothEdit b a with
    | false => intro o ho; have := row_ok' (prior := prior) ha hb sa sb hto o ho; exact ⟨this.lt, this.each⟩
    | true =>
      intro o ho
      simp only [cond_true, List.mem_singleton] at ho
      subst ho
      exact edit_lt hb
  obtain ⟨⟨l, e⟩, hl⟩ : ∃ r, rowX b a prior = r := ⟨_, rfl⟩
  rw [hl] at hcall hlen hok hR
  simp only at hlen hok hR
  show CallThen _ _ _ _ _ _
  refine call_pure hcall rfl ?_
  rintro x rfl
  refine ⟨fun g3 => go 300 ?_, fun g3 => go 300 ?_⟩
  · have g3 := ne_of' g3
    rw [decide_eq_false g3] at hR
    exact ⟨trivial, rfl, rfl, rfl, behZ' hR.symm⟩
  have g3 := eq_of' g3
  rw [decide_eq_true g3] at hR
  simp only [Bool.not_true, cond_false] at hR
  show Goes _ _ _ _
  refine goes_own 10 11 rfl ?_
  refine goes_iter (ι := Nat × Nat) (fun i => i.1 ≤ l.length ∧ (l.take i.1).all formedB = true) (fun i => l.length - i.1) (fun i => [(11, .int .i64 i.1), (10, .osl (.loc 2) i.2 0 i.1), (8, opsV l)]) (fun i => [some (.box (opV b).cells), some (.box (opV a).cells), some (.vec i.2 11 ((bareL (l.take i.1)).map opV))]) (0, 0) 300 (fun _ => rfl) (fun _ => rfl) ⟨⟨Nat.zero_le _, by simp⟩, ⟨⟨rfl, rfl⟩, ⟨rfl, rfl⟩, ⟨rfl, rfl⟩, trivial⟩, ⟨⟨rfl, rfl⟩, ⟨rfl, rfl⟩, ⟨rfl, rfl⟩, trivial⟩⟩ ?_
  rintro ⟨i, g⟩ ⟨k1, k2⟩ next
  simp only at k1 k2
  have hbl : (bareL (l.take i)).length = i := by simp [bareL]; omega
  refine ⟨fun hlt => go 300 ?_, fun hge => go 300 ?_⟩
  · have hi : i < l.length := by simpa using hlt
    obtain ⟨h1, h2⟩ := hok _ (List.getElem_mem hi)
    refine ⟨Int.natCast_nonneg i, _, op_at hi, ?_⟩
    show CallThen _ _ _ _ _ _
    refine call_pure (w_refFormed l[i] h1 h2) rfl ?_
    rintro x rfl
    refine ⟨fun g4 => go 300 ?_, fun g4 => go 300 ?_⟩
    · have g4 : formedB l[i] = false := by simpa using g4
      have e : l.all formedB = false := List.all_eq_false.2 ⟨l[i], List.getElem_mem hi, by simpa using g4⟩
      rw [e] at hR
      exact ⟨trivial, rfl, rfl, rfl, behZ' hR.symm⟩
    have g4 : formedB l[i] = true := by simpa using g4
    refine ⟨Int.natCast_nonneg i, _, op_at hi, ?_⟩
    show CallThen _ _ _ _ _ _
    refine call_pure (w_refBare l[i] h1) rfl ?_
    rintro x rfl
    refine ⟨⟨rfl, trivial⟩, rfl, rfl, rfl, (by rw [List.length_map]; exact hbl.symm), Nat.le_trans (Nat.mul_le_mul_right _ (show _ ≤ 1000001 by rw [List.length_map, hbl]; simp only [List.length_cons, List.length_nil]; omega)) (by decide), ?_⟩
    refine ⟨by constructor <;> omega, ?_⟩
    show Goes _ _ _ _
    have e : (bareL (l.take (i + 1))).map opV = (bareL (l.take i)).map opV ++ [opV (bareO l[i])] := by
      rw [List.take_succ_eq_append_getElem hi]
      simp only [bareL, List.map_append, List.map_cons, List.map_nil]
    refine next (i + 1, bump g) _ _ ⟨⟨hi, ?_⟩, by simp only; omega, ⟨⟨rfl, rfl⟩, ⟨?_, rfl⟩, ⟨rfl, rfl⟩, trivial⟩, ⟨⟨rfl, rfl⟩, ⟨rfl, rfl⟩, ⟨?_, rfl⟩, trivial⟩⟩
    · simp only
      rw [List.take_succ_eq_append_getElem hi, List.all_append, k2]
      simp [g4]
    · simp only [lk]
      exact congrArg (V.osl _ _ _) (by rw [List.length_map, hbl]; rfl)
    · exact congrArg (fun z => some (HObj.vec (bump g) 11 z)) e.symm
  · have hi : i = l.length := by have : l.length ≤ i := by simpa using hge
                                 omega
    subst hi
    rw [List.take_length] at k2
    rw [k2] at hR
    refine ⟨trivial, rfl, rfl, rfl, by simp [bareL], rfl, BehV R, ?_, rfl, rfl⟩
    rw [← hR]
    show Wk (.tup [.sl 11 ((bareL (l.take l.length)).map opV), .int .i64 0]) _
    rw [List.take_length]
    exact .refl _
set_option maxRecDepth 100000 in
theorem w_refBoth (a b : OpT) (prior : Bool) (ha : a.Ok) (hb : b.Ok) (hto : a.to.length ≤ 1000 ∧ b.to.length ≤ 1000) :
    Pure Tryz.prog 97 [opV a, opV b, .bool prior] (fun x => x = BothV (bothX a b prior)) := by
  refine pure_wk (pure_fn 300 Tryz.func97 rfl rfl rfl fun B => ?_)
  show CallThen _ _ _ _ _ _
  refine call_pure (w_refBehind a b prior hb ha ⟨hto.2, hto.1⟩) rfl ?_
  rintro x rfl
  show CallThen _ _ _ _ _ _
  refine call_pure (w_refBehind b a (!prior) ha hb hto) rfl ?_
  rintro x rfl
  refine ⟨fun g1 => go 300 ?_, fun g1 => go 300 ?_⟩
  · have g1 : (behindX a b prior).2 ≠ 0 := ne_of' g1
    have e : bothX a b prior = ([], [], (behindX a b prior).2) := by unfold bothX; rw [decide_eq_false g1]; rfl
    rw [e]
    exact ⟨trivial, rfl, rfl, rfl, bothZ _⟩
  have g1 : (behindX a b prior).2 = 0 := eq_of' g1
  refine ⟨fun g2 => go 300 ?_, fun g2 => go 300 ?_⟩
  · have g2 : (behindX b a (!prior)).2 ≠ 0 := ne_of' g2
    have e : bothX a b prior = ([], [], (behindX b a (!prior)).2) := by unfold bothX; rw [decide_eq_true g1, decide_eq_false g2]; rfl
    rw [e]
    exact ⟨trivial, rfl, rfl, rfl, bothZ _⟩
  have g2 : (behindX b a (!prior)).2 = 0 := eq_of' g2
  have e : bothX a b prior = ((behindX a b prior).1, (behindX b a (!prior)).1, 0) := by unfold bothX; rw [decide_eq_true g1, decide_eq_true g2]; rfl
  rw [e]
  exact ⟨trivial, rfl, rfl, rfl, BothV _, Wk.refl _, rfl, rfl⟩
end Bow
/- AE47: a function whose named memory nobody looks at any more. -/
namespace Bow
open Go

/-- Names let go. -/
theorem letGo {w : World} {β : Nat → Loc} {H : Heap} {B N : Base} (h : SRel [] 0 w β H [] ⟨[], [], B.add N, []⟩ bare) : ∃ H2, SRel [] 0 w β H2 [] ⟨[], [], B, []⟩ bare ∧ Fr w β H w β H2 := by
  have hH : ∀ q, q < H.length → H[q]? = some ((B.add N) q) := fun q hq => h.base q hq (by simp)
  obtain ⟨H2, hH2⟩ : ∃ H2 : Heap, H2 = (List.range H.length).map B := ⟨_, rfl⟩
  have hl : H2.length = H.length := by rw [hH2]; simp
  have hg : ∀ q, q < H.length → H2[q]? = some (B q) := fun q hq => by rw [hH2]; simp [hq]
  have hsub : ∀ q o, H2[q]? = some (some o) → H[q]? = some (some o) := fun q o hq => by
    have hlt : q < H.length := by rw [← hl]; exact lt_of_get hq
    rw [hg q hlt] at hq
    injection hq with hq
    rw [hH q hlt, Ext.add B N q o hq]
  have f : Fr w β H w β H2 := by
    refine ⟨⟨rfl, rfl, rfl, Nat.le_refl _, by rw [hl]; exact Nat.le_refl _, fun r o' _ ho => ⟨o', hsub r o' ho, Evo.refl _, fun _ _ => rfl⟩, fun _ _ _ => rfl, ?_, fun _ _ => rfl, fun r s hs => ⟨hsub r _ hs, rfl⟩⟩, fun _ _ h => h⟩
    rintro b ⟨r, M, ⟨o, ho, hn⟩, hb⟩
    exact .inr ⟨r, M, ⟨o, hsub r o ho, hn⟩, hb⟩
  refine ⟨H2, ⟨?_, rfl, fun k => by simp [lk, V.conv]; exact .undef _, rfl, List.nodup_nil, by simp, rfl, fun r hr _ => ?_, fun r hr => ?_, by simp, by simp, by simp, rfl, by simp⟩, f⟩
  · refine h.hrel.step f (fun r o ho => .inl ⟨hsub r o ho, rfl, fun _ _ _ => rfl⟩) ?_
    rintro r r' b M M' ⟨o, ho⟩ ⟨o', ho'⟩ hb hb'
    exact h.hrel.inj r r' b M M' ⟨o, hsub r o ho⟩ ⟨o', hsub r' o' ho'⟩ hb hb'
  · exact hg r (by rw [← hl]; exact hr)
  · have h1 : (B.add N) r = none := h.fut r (by rw [← hl]; exact hr)
    show B r = none
    cases hb : B r with
    | none => rfl
    | some o => rw [Ext.add B N r o hb] at h1; cases h1
theorem pure_of_funN {P : Program} {g : FuncId} {args : List V} {Q : V → Prop} (h : FunN P g args fun x _ => Q x) (ha : V.pureL args = true) : Pure P g args Q := by
  unfold FunN at h
  unfold Pure Fun
  refine ⟨h.1, fun w β H m B vals cs hs hl hr => ?_⟩
  have hm : m = [] := List.length_eq_zero_iff.1 hs.mlen
  subst hm
  obtain ⟨x, N, v, w', β', H', fr, hq, hN, k1, k2, k3, k4, k5⟩ := h.2 w β H B vals cs hs hl (fun j x v hj hv => by
    have h1 := hr j x v hj hv
    rwa [pure_conv _ _ (pureL_mem _ ha x (List.mem_of_getElem? hj))] at h1)
  obtain ⟨H2, e1, e2⟩ := letGo k1
  exact ⟨x, [], v, w', β', H2, [], fr, ⟨rfl, k4, hq⟩, e1, k2.trans e2, by rw [pure_conv _ _ k4]; exact k3.mono e2, k5⟩
end Bow
/- W79: the law SquareBoth, walked. -/
namespace Bow
open Go Go.Proofs

theorem OpsOk.add {B N : Base} {zs : List (Ns × OpT)} (h : OpsOk N zs) (hN : ∀ q o, N q = some o → B q = none) : OpsOk (B.add N) zs := h.ext fun q o e => add_new e (hN q o e)
theorem fz_opsE {B : Base} {zs : List (Ns × OpT)} {l : List OpT} (h : OpsOk B zs) (e : zs.map Prod.snd = l) : Fz B (opsNV zs) (opsV l) := e ▸ fz_ops h
/-- All these operations' rows stand there. -/
def AllShp (B : Base) (zs : List (Ns × OpT)) : Prop := ∀ z ∈ zs, NsShp B z.1 z.2
theorem OpsOk.allShp {B : Base} {zs : List (Ns × OpT)} (h : OpsOk B zs) : AllShp B zs := fun z hz => (h z hz).shp
theorem AllShp.to' {B B' : Base} {zs : List (Ns × OpT)} (h : AllShp B zs) (k : ShpEq B B') : AllShp B' zs := fun z hz => (h z hz).to' k
theorem NsShp.names {B : Base} {ns : Ns} {o : OpT} (h : NsShp B ns o) : ∀ q ∈ [ns.p, ns.t, ns.s], ∃ ob, B q = some ob := by
  obtain ⟨⟨xs, h1, _⟩, ⟨ys, h2, _⟩, ⟨zs, h3, _⟩⟩ := h
  intro q hq
  simp only [List.mem_cons, List.not_mem_nil, or_false] at hq
  rcases hq with rfl | rfl | rfl
  · exact ⟨_, h1⟩
  · exact ⟨_, h2⟩
  · exact ⟨_, h3⟩
/-- Names that nobody held ahead. -/
def NewNs (B : Base) (ns : Ns) : Prop := ∀ q ∈ [ns.p, ns.t, ns.s], B q = none
theorem NsOk.fresh {B N : Base} {ns : Ns} {o : OpT} (h : NsOk N ns o) (hN : ∀ q ob, N q = some ob → B q = none) : NewNs B ns := by
  intro q hq
  simp only [List.mem_cons, List.not_mem_nil, or_false] at hq
  rcases hq with rfl | rfl | rfl
  · exact hN _ _ h.path
  · exact hN _ _ h.to
  · exact hN _ _ h.pieces
theorem sameO_bare (o : OpT) : sameO (bareO o) o = true := by
  have := sameO_refl o
  unfold sameO at this ⊢
  rw [bare_idem]
  exact this

end Bow
/- W28: the chapter's examples. -/
namespace Bow
open Go Go.Proofs

end Bow
/- W29: the chapter's examples, all. -/
namespace Bow
open Go Go.Proofs

end Bow
/- W30: the laws' functions: TreeopsFormed, TreeopsValid. -/
namespace Bow
open Go Go.Proofs

end Bow
/- W40: the law's function TreeopsApply. -/
namespace Bow
open Go Go.Proofs

end Bow
/- W41: the program's IDs; count. -/
namespace Bow
open Go Go.Proofs

end Bow
/- W42: the law's function TreeopsRight. -/
namespace Bow
open Go Go.Proofs

end Bow
/- W43: the law's function TreeopsAll. -/
namespace Bow
open Go Go.Proofs

end Bow
/- SP18: the paths of a tree's nodes; a move to a gap beside itself; in plain Lean. -/
namespace Bow
open Go

mutual
def pathsT : Tree → List (List Int)
  | .mk _ _ _ _ _ ss => [] :: pathsTs 0 ss
def pathsTs : Nat → List Tree → List (List Int)
  | _, [] => []
  | i, s :: ss => (pathsT s).map (fun p => (i : Int) :: p) ++ pathsTs (i + 1) ss
end
theorem pathsT_eq (t : Tree) : pathsT t = [] :: pathsTs 0 t.subs := by cases t; rw [pathsT]; rfl
mutual
theorem pathsT_len : ∀ t : Tree, (pathsT t).length = t.size
  | .mk i l a b c ss => by rw [pathsT, Tree.size, List.length_cons, pathsTs_len 0 ss]; omega
theorem pathsTs_len : ∀ (i : Nat) (ss : List Tree), (pathsTs i ss).length = sizes ss
  | _, [] => by rw [pathsTs]; rfl
  | i, s :: ss => by rw [pathsTs, sizes, List.length_append, List.length_map, pathsT_len s, pathsTs_len (i + 1) ss]
end
theorem mem_pathsTs {q : List Int} : ∀ {ss : List Tree} {i : Nat}, q ∈ pathsTs i ss → ∃ (k : Nat) (s : Tree) (p : List Int), ss[k]? = some s ∧ q = ((i + k : Nat) : Int) :: p ∧ p ∈ pathsT s
  | [], i, h => by rw [pathsTs] at h; cases h
  | s :: ss, i, h => by
    rw [pathsTs] at h
    rcases List.mem_append.1 h with h | h
    · obtain ⟨p, hp, rfl⟩ := List.mem_map.1 h
      exact ⟨0, s, p, rfl, rfl, hp⟩
    · obtain ⟨k, s', p, h1, h2, h3⟩ := mem_pathsTs h
      exact ⟨k + 1, s', p, h1, by rw [h2]; congr 2; omega, h3⟩
theorem paths_deep {t : Tree} : ∀ {p : List Int}, p ∈ pathsT t → p.length < t.size := by
  induction t using Tree.ind with
  | _ t ih =>
  intro p h
  have hs : 0 < t.size := by cases t; rw [Tree.size]; omega
  rw [pathsT_eq] at h
  rcases List.mem_cons.1 h with rfl | h
  · exact hs
  · obtain ⟨k, s, q, h1, rfl, h3⟩ := mem_pathsTs h
    have hm := List.mem_of_getElem? h1
    have := ih s hm h3
    have := Tree.size_sub hm
    simp only [List.length_cons]
    omega
theorem pathsTs_drop : ∀ {ss : List Tree} {i k : Nat} (h : k < ss.length), pathsTs (i + k) (ss.drop k) = (pathsT ss[k]).map (fun p => ((i + k : Nat) : Int) :: p) ++ pathsTs (i + (k + 1)) (ss.drop (k + 1)) := by
  intro ss i k h
  rw [List.drop_eq_getElem_cons h, pathsTs]
  rfl

end Bow
/- W44: the paths of all nodes. -/
namespace Bow
open Go Go.Proofs

def pathsV (l : List (List Int)) : V := .sl 1 (l.map pathV)
theorem okE_path (p : List Int) : okE 1 (pathV p) := ⟨rfl, rfl⟩
theorem wkE_paths : ∀ l : List (List Int), WkE 1 (l.map pathV) (l.map pathV)
  | [] => trivial
  | p :: l => ⟨⟨⟨.refl _, trivial⟩, okE_path p⟩, wkE_paths l⟩

set_option maxHeartbeats 1000000 in
set_option maxRecDepth 100000 in
theorem w_Paths (t : Tree) : t.weight ≤ 100000 → Pure Tryz.prog 10 [nodeV t] (fun x => x = pathsV (pathsT t)) := by
  induction t using Tree.ind with
  | _ t ih =>
  intro ht
  have hsl := subs_le_weight t
  have hsz := size_le_weight t
  have hpl := pathsT_len t
  refine pure_wk (pure_fn 300 Tryz.func10 rfl rfl rfl fun B => ?_)
  refine ⟨⟨rfl, trivial⟩, ?_⟩
  show Goes _ _ _ _
  refine goes_iter (ι := Nat × Nat × Nat × List V) (fun i => i.1 ≤ t.subs.length ∧ ∃ acc : List (List Int), i.2.2.2 = .nilsl :: acc.map pathV ∧ i.2.2.1 = acc.length + 1 ∧ acc ++ pathsTs i.1 (t.subs.drop i.1) = pathsTs 0 t.subs) (fun i => t.subs.length - i.1)
    (fun i => [(4, .int .i64 i.1), (3, .osl (.loc 1) i.2.1 0 i.2.2.1), (1, .ptr (.loc 0) 0)]) (fun i => [some (.box (nodeV t).cells), some (.vec i.2.1 1 i.2.2.2)]) (0, 0, 1, [.nilsl]) 300 (fun _ => rfl) (fun _ => rfl) ⟨⟨Nat.zero_le _, [], rfl, rfl, rfl⟩, ⟨⟨rfl, rfl⟩, ⟨rfl, rfl⟩, ⟨rfl, rfl⟩, trivial⟩, ⟨⟨rfl, rfl⟩, ⟨rfl, rfl⟩, trivial⟩⟩ ?_
  rintro ⟨i, g, n, xs⟩ ⟨k1, acc, rfl, rfl, k2⟩ next
  simp only at k1 k2
  refine ⟨fun hlt => go 300 ?_, fun hge => go 300 ?_⟩
  · have hi : i < t.subs.length := by simpa [subV_eq] using hlt
    have hx : t.subV[i]? = some (nodeV t.subs[i]) := by simp [subV_eq, hi]
    have hws := weight_sub (List.getElem_mem hi)
    have hsw := size_le_weight t.subs[i]
    have hd := pathsTs_drop (ss := t.subs) (i := 0) hi
    simp only [Nat.zero_add] at hd
    rw [hd] at k2
    have hlen := congrArg List.length k2
    simp only [List.length_append, List.length_map] at hlen
    have hpl' := pathsTs_len 0 t.subs
    have hts := pathsT_eq t
    have hpi := pathsT_len t.subs[i]
    have hle : (pathsTs 0 t.subs).length ≤ 100000 := by
      rw [hts] at hpl
      simp at hpl
      omega
    refine ⟨Int.natCast_nonneg i, _, hx, ?_⟩
    show CallThen _ _ _ _ _ _
    refine call_pure (ih _ (List.getElem_mem hi) (by omega)) rfl ?_
    rintro x rfl
    show Goes _ _ _ _
    refine goes_while (ι := Nat × Nat × Nat × List V) (κ := Nat × Nat × List V) (fun k => k.1 ≤ (pathsT t.subs[i]).length ∧ ∃ acc' : List (List Int), k.2.2.2 = .nilsl :: acc'.map pathV ∧ k.2.2.1 = acc'.length + 1 ∧ acc' ++ (((pathsT t.subs[i]).drop k.1).map (fun p => (i : Int) :: p) ++ pathsTs (i + 1) (t.subs.drop (i + 1))) = pathsTs 0 t.subs) (fun k => (pathsT t.subs[i]).length - k.1)
      (fun k => [(6, .int .i64 k.1), (5, pathsV (pathsT t.subs[i])), (4, .int .i64 i), (3, .osl (.loc 1) k.2.1 0 k.2.2.1), (1, .ptr (.loc 0) 0)]) (fun k => [some (.box (nodeV t).cells), some (.vec k.2.1 1 k.2.2.2)]) (0, g, acc.length + 1, .nilsl :: acc.map pathV)
      (fun k => ∃ acc' : List (List Int), k.2.2 = .nilsl :: acc'.map pathV ∧ k.2.1 = acc'.length + 1 ∧ acc' ++ pathsTs (i + 1) (t.subs.drop (i + 1)) = pathsTs 0 t.subs)
      (fun k => [(4, .int .i64 i), (3, .osl (.loc 1) k.1 0 k.2.1), (1, .ptr (.loc 0) 0)]) (fun k => [some (.box (nodeV t).cells), some (.vec k.1 1 k.2.2)]) 300 (fun _ => rfl) (fun _ => rfl) (fun _ => rfl) (fun _ => rfl)
      ⟨⟨Nat.zero_le _, acc, rfl, rfl, k2⟩, ⟨⟨rfl, rfl⟩, ⟨rfl, rfl⟩, ⟨rfl, rfl⟩, ⟨rfl, rfl⟩, ⟨rfl, rfl⟩, trivial⟩, ⟨⟨rfl, rfl⟩, ⟨rfl, rfl⟩, trivial⟩⟩ ?_ ?_
    · rintro ⟨g', n', xs'⟩ ⟨acc', rfl, rfl, q⟩
      refine ⟨by constructor <;> omega, ?_⟩
      show Goes _ _ _ _
      exact next (i + 1, g', _, _) _ _ ⟨⟨hi, acc', rfl, rfl, q⟩, by simp only; omega, ⟨⟨rfl, rfl⟩, ⟨rfl, rfl⟩, ⟨rfl, rfl⟩, trivial⟩, ⟨⟨rfl, rfl⟩, ⟨rfl, rfl⟩, trivial⟩⟩
    · rintro ⟨k, g', n', xs'⟩ ⟨j1, acc', rfl, rfl, j2⟩ next2 post
      simp only at j1 j2
      refine ⟨fun hlt => go 300 ?_, fun hge => go 300 ?_⟩
      · have hk : k < (pathsT t.subs[i]).length := by simpa using hlt
        have hy : ((pathsT t.subs[i]).map pathV)[k]? = some (pathV (pathsT t.subs[i])[k]) := by simp [hk]
        have hdp := paths_deep (List.getElem_mem hk)
        rw [List.drop_eq_getElem_cons hk] at j2
        have hlen2 := congrArg List.length j2
        simp only [List.length_append, List.length_map, List.length_cons] at hlen2
        refine ⟨⟨rfl, trivial⟩, ?_⟩
        refine ⟨Int.natCast_nonneg k, _, hy, ?_⟩
        refine ⟨rfl, rfl, room_of (by simp; omega) (by decide), ?_⟩
        refine ⟨rfl, by simp; omega, ⟨rfl, trivial⟩, rfl, rfl, rfl, by simp, room_of (by simp; omega) (by decide), ?_⟩
        refine ⟨by constructor <;> omega, ?_⟩
        show Goes _ _ _ _
        refine next2 (k + 1, bump g', _, _) _ _ ⟨⟨hk, acc' ++ [(i : Int) :: (pathsT t.subs[i])[k]], ?_, ?_, ?_⟩, ?_, ⟨⟨rfl, rfl⟩, ⟨rfl, rfl⟩, ⟨rfl, rfl⟩, ⟨rfl, rfl⟩, ⟨rfl, rfl⟩, trivial⟩, ⟨⟨rfl, rfl⟩, ⟨rfl, rfl⟩, trivial⟩⟩
        · simp [pathV, intV]
          rfl
        · simp
        · rw [List.map_cons] at j2
          rw [← j2]
          simp only [List.append_assoc, List.cons_append, List.nil_append]
        · simp only; omega
      · have hk : k = (pathsT t.subs[i]).length := by have : (pathsT t.subs[i]).length ≤ k := by simpa using hge
                                                      omega
        subst hk
        rw [List.drop_length] at j2
        exact post (g', _, _) _ _ _ rfl ⟨⟨acc', rfl, rfl, j2⟩, ⟨⟨rfl, rfl⟩, ⟨rfl, rfl⟩, ⟨rfl, rfl⟩, trivial⟩, ⟨⟨rfl, rfl⟩, ⟨rfl, rfl⟩, trivial⟩⟩
  · have hi : t.subs.length ≤ i := by simpa [subV_eq] using hge
    rw [List.drop_eq_nil_of_le hi, pathsTs, List.append_nil] at k2
    subst k2
    refine ⟨trivial, rfl, rfl, rfl, by simp, rfl, pathsV (pathsT t), ?_, rfl, rfl⟩
    rw [pathsT_eq]
    exact Wk.sl ⟨⟨⟨Wk.nil 1, trivial⟩, okE_path []⟩, wkE_paths _⟩
end Bow
/- SP34: the grove, and all pairs of operations of all kinds on it: both ways round end in the same tree; computed in plain Lean. -/
namespace Bow
open Go

def groveT : Tree := .mk 1 false [114] [] [] [
  .mk 2 false [97] [([107], [49])] [] [.mk 3 true [120] [] [104, 105] [], .mk 4 false [99] [] [] []],
  .mk 5 true [98] [] [98, 101, 101] [],
  .mk 6 false [100] [] [] [.mk 7 false [101] [] [] [.mk 8 false [102] [] [] []]]]
def headO (p : List Int) : List OpT := [{ noOp 2 with path := p }, { noOp 5 with path := p, label := [113] }, { noOp 4 with path := p, key := [107], value := [57] }, { noOp 4 with path := p, key := [107], gone := true }, { noOp 6 with path := p, pieces := [⟨1, 1, [33]⟩] }]
def putO (i : Nat) (p : List Int) (k : Nat) : OpT := { noOp 1 with path := p, at_ := k, id := IntKind.u64.wrap (100 + 10 * (i : Int) + (k : Int)), label := [110] }
def movO (p : List Int) (k : Nat) (q : List Int) : OpT := { noOp 3 with path := q, to := p, at_ := k }
/-- .. at the gaps below n. -/
def gapsO (ps : List (List Int)) (i : Nat) (p : List Int) : Nat → List OpT
  | 0 => []
  | n + 1 => gapsO ps i p n ++ (putO i p n :: ps.map (movO p n))
def manyO (ps : List (List Int)) (top : Nat) : Nat → List OpT
  | 0 => []
  | i + 1 => manyO ps top i ++ (headO (ps.getD i []) ++ gapsO ps i (ps.getD i []) (top + 1))

def smallO (o : OpT) : Bool := decide (o.path.length ≤ 100) && (decide (o.to.length ≤ 100) && (decide (o.label.length ≤ 100) && (decide (o.key.length ≤ 100) && (decide (o.value.length ≤ 100) && (decide (o.pieces.length ≤ 100) && decide (putsLen o.pieces ≤ 1000))))))
end Bow
/- W86: bowerkit's Grove and Many; bowerlaw12.closes. -/
namespace Bow
open Go Go.Proofs

theorem wkE_app {sz : Nat} : ∀ {xs ys us vs : List V}, WkE sz xs ys → WkE sz us vs → WkE sz (xs ++ us) (ys ++ vs)
  | [], [], _, _, _, h => h
  | x :: xs, y :: ys, _, _, h, k => ⟨h.1, wkE_app h.2 k⟩
  | [], _ :: _, _, _, h, _ => h.elim
  | _ :: _, [], _, _, h, _ => h.elim
theorem wkL_mk {b : Bool} {i : Int} {label text : List UInt8} {ats ks leaf : V} {al : List (List UInt8 × List UInt8)} {ss : List Tree} (hl : Wk leaf (.bool b)) (ha : Wk ats (.sl 2 (al.map attrV))) (hk : Wk ks (.sl 6 (ss.map nodeV))) :
    WkL [.int .u64 i, leaf, .str label, ats, .str text, ks] (nodeV (.mk i b label al text ss)).cells := by
  refine ⟨.refl _, hl, .refl _, ha, .refl _, ?_, trivial⟩
  rw [subV_eq]
  exact hk
theorem wk_grove : Wk (.agg [.int .u64 1, .ff, .str [114], .nilsl, .str [], .sl 6 [
    .agg [.int .u64 2, .ff, .str [97], .sl 2 [.agg [.str [107], .str [49]]], .str [], .sl 6 [.agg [.int .u64 3, .tt, .str [120], .nilsl, .str [104, 105], .nilsl], .agg [.int .u64 4, .ff, .str [99], .nilsl, .str [], .nilsl]]],
    .agg [.int .u64 5, .tt, .str [98], .nilsl, .str [98, 101, 101], .nilsl],
    .agg [.int .u64 6, .ff, .str [100], .nilsl, .str [], .sl 6 [.agg [.int .u64 7, .ff, .str [101], .nilsl, .str [], .sl 6 [.agg [.int .u64 8, .ff, .str [102], .nilsl, .str [], .nilsl]]]]]]]) (nodeV groveT) := by
  refine Wk.agg (wkL_mk Wk.ff (Wk.nil 2) (Wk.sl ⟨⟨?_, okE_node _⟩, ⟨?_, okE_node _⟩, ⟨?_, okE_node _⟩, trivial⟩))
  · exact wkL_mk Wk.ff (.refl _) (Wk.sl ⟨⟨wkL_mk Wk.tt (Wk.nil 2) (Wk.nil 6), okE_node _⟩, ⟨wkL_mk Wk.ff (Wk.nil 2) (Wk.nil 6), okE_node _⟩, trivial⟩)
  · exact wkL_mk Wk.tt (Wk.nil 2) (Wk.nil 6)
  · exact wkL_mk Wk.ff (Wk.nil 2) (Wk.sl ⟨⟨wkL_mk Wk.ff (Wk.nil 2) (Wk.sl ⟨⟨wkL_mk Wk.ff (Wk.nil 2) (Wk.nil 6), okE_node _⟩, trivial⟩), okE_node _⟩, trivial⟩)

set_option maxRecDepth 100000 in
theorem w_Grove : Pure Tryz.prog 9 [] (fun x => x = nodeV groveT) := by
  refine pure_wk (pure_fn 60 Tryz.func9 rfl rfl rfl fun B => ?_)
  refine ⟨⟨rfl, trivial⟩, ⟨rfl, rfl, trivial⟩, ⟨rfl, trivial⟩, rfl, rfl, ⟨rfl, trivial⟩, rfl, rfl, rfl, rfl, rfl, rfl, ⟨rfl, rfl, rfl, trivial⟩, ?_⟩
  exact ⟨trivial, rfl, rfl, rfl, rfl, rfl, nodeV groveT, wk_grove, rfl, rfl⟩

theorem gaps_len (ps : List (List Int)) (i : Nat) (p : List Int) : ∀ n, (gapsO ps i p n).length = n * (1 + ps.length)
  | 0 => by simp [gapsO]
  | n + 1 => by
    rw [gapsO, List.length_append, gaps_len ps i p n]
    simp only [List.length_cons, List.length_map, Nat.add_mul]
    omega
theorem many_len (ps : List (List Int)) (top : Nat) : ∀ i, (manyO ps top i).length = i * (5 + (top + 1) * (1 + ps.length))
  | 0 => by simp [manyO]
  | i + 1 => by
    rw [manyO, List.length_append, many_len ps top i, List.length_append, gaps_len, Nat.add_mul i 1]
    simp [headO]
theorem wkO {k at_ id : Int} {p : List Int} {t l e s : V} {to : List Int} {label key value : List UInt8} {leaf gone : Bool} {pc : List PieceT} (ht : Wk t (pathV to)) (hl : Wk l (.bool leaf)) (he : Wk e (.bool gone)) (hs : Wk s (piecesV pc)) :
    WkE 11 [.agg [.int .u8 k, pathV p, .int .i64 at_, t, .int .u64 id, l, .str label, .str key, .str value, e, s]] ([⟨k, p, at_, to, id, leaf, label, key, value, gone, pc⟩].map opV) :=
  ⟨⟨⟨.refl _, .refl _, .refl _, ht, .refl _, hl, .refl _, .refl _, .refl _, he, hs, trivial⟩, rfl, rfl⟩, trivial⟩
theorem wk_head (p : List Int) : WkE 11 [.agg [.int .u8 2, pathV p, .int .i64 0, .nilsl, .int .u64 0, .ff, .str [], .str [], .str [], .ff, .nilsl], .agg [.int .u8 5, pathV p, .int .i64 0, .nilsl, .int .u64 0, .ff, .str [113], .str [], .str [], .ff, .nilsl],
    .agg [.int .u8 4, pathV p, .int .i64 0, .nilsl, .int .u64 0, .ff, .str [], .str [107], .str [57], .ff, .nilsl], .agg [.int .u8 4, pathV p, .int .i64 0, .nilsl, .int .u64 0, .ff, .str [], .str [107], .str [], .tt, .nilsl],
    .agg [.int .u8 6, pathV p, .int .i64 0, .nilsl, .int .u64 0, .ff, .str [], .str [], .str [], .ff, .sl 3 [.agg [.int .i64 1, .int .i64 1, .str [33]]]]] ((headO p).map opV) :=
  wkE_app (wkO (Wk.nil 1) Wk.ff Wk.ff (Wk.nil 3)) (wkE_app (wkO (Wk.nil 1) Wk.ff Wk.ff (Wk.nil 3)) (wkE_app (wkO (Wk.nil 1) Wk.ff Wk.ff (Wk.nil 3)) (wkE_app (wkO (Wk.nil 1) Wk.ff Wk.tt (Wk.nil 3)) (wkO (Wk.nil 1) Wk.ff Wk.ff (.refl _)))))
theorem room_of2 {n m b : Nat} (h : n + m ≤ 1000000) (hb : b ≤ 10000) : room (n + m) b := Nat.le_trans (Nat.mul_le_mul h hb) (by decide)

theorem many_osl {g : Nat} {xs ys : List V} : V.osl (.loc 0) g 0 (xs.length + ys.length) = V.osl (.loc 0) g 0 (xs ++ ys).length := by rw [List.length_append]
theorem small_ok {o : OpT} (h : smallO o = true) : o.Ok := by
  unfold smallO at h
  simp only [Bool.and_eq_true, decide_eq_true_eq] at h
  obtain ⟨h1, h2, h3, h4, h5, h6, h7⟩ := h
  exact ⟨⟨by omega, by omega, by omega, by omega, by omega, by omega⟩, by omega⟩
theorem small_to {o : OpT} (h : smallO o = true) : o.to.length ≤ 100 := by
  unfold smallO at h
  simp only [Bool.and_eq_true, decide_eq_true_eq] at h
  exact h.2.1
theorem ok_all {l : List OpT} (h : l.all smallO = true) : ∀ o ∈ l, o.Ok := fun o ho => small_ok (List.all_eq_true.1 h o ho)

end Bow
/- W88: bowerkit's Many, with any number of gaps. -/
namespace Bow
open Go Go.Proofs

theorem many_headT {top : Nat} {ps : List (List Int)} {i : Nat} {p : List Int} {xs : List V} (h : WkE 11 xs ((manyO ps top i).map opV)) : WkE 11 (xs ++ [.agg [.int .u8 2, pathV p, .int .i64 0, .nilsl, .int .u64 0, .ff, .str [], .str [], .str [], .ff, .nilsl], .agg [.int .u8 5, pathV p, .int .i64 0, .nilsl, .int .u64 0, .ff, .str [113], .str [], .str [], .ff, .nilsl],
    .agg [.int .u8 4, pathV p, .int .i64 0, .nilsl, .int .u64 0, .ff, .str [], .str [107], .str [57], .ff, .nilsl], .agg [.int .u8 4, pathV p, .int .i64 0, .nilsl, .int .u64 0, .ff, .str [], .str [107], .str [], .tt, .nilsl],
    .agg [.int .u8 6, pathV p, .int .i64 0, .nilsl, .int .u64 0, .ff, .str [], .str [], .str [], .ff, .sl 3 [.agg [.int .i64 1, .int .i64 1, .str [33]]]]]) ((manyO ps top i ++ (headO p ++ gapsO ps i p 0)).map opV) := by
  rw [gapsO, List.append_nil, List.map_append]
  exact wkE_app h (wk_head p)
theorem many_putT {top : Nat} {ps : List (List Int)} {i n : Nat} {p : List Int} {ys : List V} (h : WkE 11 ys ((manyO ps top i ++ (headO p ++ gapsO ps i p n)).map opV)) :
    WkE 11 (ys ++ [.agg [.int .u8 1, pathV p, .int .i64 n, .nilsl, .int .u64 (IntKind.u64.wrap (100 + 10 * (i : Int) + (n : Int))), .ff, .str [110], .str [], .str [], .ff, .nilsl]]) ((manyO ps top i ++ (headO p ++ (gapsO ps i p n ++ (putO i p n :: (ps.take 0).map (movO p n))))).map opV) := by
  have e : (manyO ps top i ++ (headO p ++ (gapsO ps i p n ++ (putO i p n :: (ps.take 0).map (movO p n))))).map opV = (manyO ps top i ++ (headO p ++ gapsO ps i p n)).map opV ++ [putO i p n].map opV := by simp
  rw [e]
  exact wkE_app h (wkO (Wk.nil 1) Wk.ff Wk.ff (Wk.nil 3))
theorem many_movT {top : Nat} {ps : List (List Int)} {i n k : Nat} {p : List Int} {us : List V} (h : WkE 11 us ((manyO ps top i ++ (headO p ++ (gapsO ps i p n ++ (putO i p n :: (ps.take k).map (movO p n))))).map opV)) (hk : k < ps.length) :
    WkE 11 (us ++ [.agg [.int .u8 3, pathV ps[k], .int .i64 n, pathV p, .int .u64 0, .ff, .str [], .str [], .str [], .ff, .nilsl]]) ((manyO ps top i ++ (headO p ++ (gapsO ps i p n ++ (putO i p n :: (ps.take (k + 1)).map (movO p n))))).map opV) := by
  have e : (manyO ps top i ++ (headO p ++ (gapsO ps i p n ++ (putO i p n :: (ps.take (k + 1)).map (movO p n))))).map opV = (manyO ps top i ++ (headO p ++ (gapsO ps i p n ++ (putO i p n :: (ps.take k).map (movO p n))))).map opV ++ [movO p n ps[k]].map opV := by
    rw [List.take_succ_eq_append_getElem hk, List.map_append]
    simp only [List.map_append, List.map_cons, List.map_nil, List.append_assoc, List.cons_append]
  rw [e]
  exact wkE_app h (wkO (.refl _) Wk.ff Wk.ff (Wk.nil 3))
set_option maxHeartbeats 4000000 in
set_option maxRecDepth 100000 in
theorem w_ManyT (ps : List (List Int)) (top : Nat) (hps : ps.length ≤ 100) (htop : top ≤ 3) : Pure Tryz.prog 19 [pathsV ps, .int .i64 top] (fun x => x = opsV (manyO ps top ps.length)) := by
  refine pure_wk (pure_fn 60 Tryz.func19 rfl rfl rfl fun B => ?_)
  show Goes _ _ _ _
  refine goes_own 5 11 rfl ?_
  refine goes_iter (ι := Nat × Nat × List V) (fun i => i.1 ≤ ps.length ∧ WkE 11 i.2.2 ((manyO ps top i.1).map opV)) (fun i => ps.length - i.1) (fun i => [(6, .int .i64 i.1), (5, .osl (.loc 0) i.2.1 0 i.2.2.length), (1, .int .i64 top), (0, pathsV ps)]) (fun i => [some (.vec i.2.1 11 i.2.2)]) (0, 0, []) 60 (fun _ => rfl) (fun _ => rfl) ⟨⟨Nat.zero_le _, trivial⟩, ⟨⟨rfl, rfl⟩, ⟨rfl, rfl⟩, ⟨rfl, rfl⟩, ⟨rfl, rfl⟩, trivial⟩, ⟨⟨rfl, rfl⟩, trivial⟩⟩ ?_
  rintro ⟨i, g, xs⟩ ⟨k1, k2⟩ next
  simp only at k1 k2
  have hlen : xs.length ≤ 40900 := by
    have h1 := k2.len
    rw [List.length_map, many_len] at h1
    have : i * (5 + (top + 1) * (1 + ps.length)) ≤ 100 * 409 := Nat.mul_le_mul (by omega) (by have := Nat.mul_le_mul (show top + 1 ≤ 4 by omega) (show 1 + ps.length ≤ 101 by omega); omega)
    omega
  refine ⟨fun hlt => go 60 ?_, fun hge => go 60 ?_⟩
  · have hi : i < ps.length := by simpa using hlt
    have hx : (ps.map pathV)[((i : Nat) : Int).toNat]? = some (pathV ps[i]) := by simp [hi]
    have hp : ps.getD i [] = ps[i] := by simp [hi]
    have hm : manyO ps top (i + 1) = manyO ps top i ++ (headO ps[i] ++ gapsO ps i ps[i] (top + 1)) := by rw [manyO, hp]
    generalize ps[i] = p at hx hm
    refine ⟨Int.natCast_nonneg i, _, hx, ⟨rfl, trivial⟩, rfl, rfl, ⟨rfl, rfl, rfl, rfl, rfl, trivial⟩, rfl, rfl, rfl, rfl, room_of2 (by simp only [List.length_cons, List.length_nil]; omega) (by decide), ?_⟩
    show Goes _ _ _ _
    refine goes_iter (ι := Nat × Nat × List V) (fun n => n.1 ≤ top + 1 ∧ WkE 11 n.2.2 ((manyO ps top i ++ (headO p ++ gapsO ps i p n.1)).map opV)) (fun n => top + 1 - n.1) (fun n => [(8, .int .i64 n.1), (7, pathV p), (6, .int .i64 i), (5, .osl (.loc 0) n.2.1 0 n.2.2.length), (1, .int .i64 top), (0, pathsV ps)]) (fun n => [some (.vec n.2.1 11 n.2.2)]) (0, bump g, _) 60 (fun _ => rfl) (fun _ => rfl)
      ⟨⟨Nat.zero_le _, many_headT k2⟩, ⟨⟨rfl, rfl⟩, ⟨rfl, rfl⟩, ⟨rfl, rfl⟩, ⟨(many_osl ..), rfl⟩, ⟨rfl, rfl⟩, ⟨rfl, rfl⟩, trivial⟩, ⟨⟨rfl, rfl⟩, trivial⟩⟩ ?_
    rintro ⟨n, g2, ys⟩ ⟨j1, j2⟩ next2
    simp only at j1 j2
    have hl2 : ys.length ≤ 50000 := by
      have h1 := j2.len
      rw [List.length_map, List.length_append, List.length_append, many_len, gaps_len] at h1
      have h2 : i * (5 + (top + 1) * (1 + ps.length)) ≤ 100 * 409 := Nat.mul_le_mul (by omega) (by have := Nat.mul_le_mul (show top + 1 ≤ 4 by omega) (show 1 + ps.length ≤ 101 by omega); omega)
      have h3 : n * (1 + ps.length) ≤ 4 * 101 := Nat.mul_le_mul (show n ≤ 4 by omega) (by omega)
      have h4 : (headO p).length = 5 := rfl
      omega
    refine ⟨fun hlt => go 60 ?_, fun hge => go 60 ?_⟩
    · have hn : n ≤ top := by have := of_decide_eq_true hlt; omega
      refine ⟨by constructor <;> omega, by constructor <;> omega, by constructor <;> omega, ⟨rfl, trivial⟩, rfl, rfl, rfl, rfl, room_of2 (by simp only [List.length_cons, List.length_nil]; omega) (by decide), ?_⟩
      show Goes _ _ _ _
      refine goes_iter (ι := Nat × Nat × List V) (fun k => k.1 ≤ ps.length ∧ WkE 11 k.2.2 ((manyO ps top i ++ (headO p ++ (gapsO ps i p n ++ (putO i p n :: (ps.take k.1).map (movO p n))))).map opV)) (fun k => ps.length - k.1) (fun k => [(9, .int .i64 k.1), (8, .int .i64 n), (7, pathV p), (6, .int .i64 i), (5, .osl (.loc 0) k.2.1 0 k.2.2.length), (1, .int .i64 top), (0, pathsV ps)]) (fun k => [some (.vec k.2.1 11 k.2.2)]) (0, bump g2, _) 60 (fun _ => rfl) (fun _ => rfl)
        ⟨⟨Nat.zero_le _, many_putT j2⟩, ⟨⟨rfl, rfl⟩, ⟨rfl, rfl⟩, ⟨rfl, rfl⟩, ⟨rfl, rfl⟩, ⟨(many_osl ..), rfl⟩, ⟨rfl, rfl⟩, ⟨rfl, rfl⟩, trivial⟩, ⟨⟨rfl, rfl⟩, trivial⟩⟩ ?_
      rintro ⟨k, g3, us⟩ ⟨m1, m2⟩ next3
      simp only at m1 m2
      have hl3 : us.length ≤ 60000 := by
        have h1 := m2.len
        rw [List.length_map, List.length_append, List.length_append, List.length_append, many_len, gaps_len, List.length_cons, List.length_map, List.length_take] at h1
        have h2 : i * (5 + (top + 1) * (1 + ps.length)) ≤ 100 * 409 := Nat.mul_le_mul (by omega) (by have := Nat.mul_le_mul (show top + 1 ≤ 4 by omega) (show 1 + ps.length ≤ 101 by omega); omega)
        have h3 : n * (1 + ps.length) ≤ 4 * 101 := Nat.mul_le_mul (show n ≤ 4 by omega) (by omega)
        have h4 : (headO p).length = 5 := rfl
        omega
      refine ⟨fun hlt => go 60 ?_, fun hge => go 60 ?_⟩
      · have hk : k < ps.length := by simpa using hlt
        have hy : (ps.map pathV)[((k : Nat) : Int).toNat]? = some (pathV ps[k]) := by simp [hk]
        have m3 := many_movT m2 hk
        refine ⟨Int.natCast_nonneg k, _, hy, ⟨rfl, trivial⟩, rfl, rfl, rfl, rfl, room_of2 (by simp only [List.length_cons, List.length_nil]; omega) (by decide), ?_⟩
        refine ⟨by constructor <;> omega, ?_⟩
        show Goes _ _ _ _
        exact next3 (k + 1, bump g3, _) _ _ ⟨⟨hk, m3⟩, by simp only; omega, ⟨⟨rfl, rfl⟩, ⟨rfl, rfl⟩, ⟨rfl, rfl⟩, ⟨rfl, rfl⟩, ⟨(many_osl ..), rfl⟩, ⟨rfl, rfl⟩, ⟨rfl, rfl⟩, trivial⟩, ⟨⟨rfl, rfl⟩, trivial⟩⟩
      · have hk : k = ps.length := by have : ps.length ≤ k := by simpa using hge
                                      omega
        have m3 : WkE 11 us ((manyO ps top i ++ (headO p ++ gapsO ps i p (n + 1))).map opV) := by
          rw [hk, List.take_length] at m2
          rw [gapsO]
          exact m2
        refine ⟨by constructor <;> omega, ?_⟩
        show Goes _ _ _ _
        exact next2 (n + 1, g3, us) _ _ ⟨⟨by simp only; omega, m3⟩, by simp only; omega, ⟨⟨rfl, rfl⟩, ⟨rfl, rfl⟩, ⟨rfl, rfl⟩, ⟨rfl, rfl⟩, ⟨rfl, rfl⟩, ⟨rfl, rfl⟩, trivial⟩, ⟨⟨rfl, rfl⟩, trivial⟩⟩
    · have hn : n = top + 1 := by have := of_decide_eq_false hge; omega
      have m3 : WkE 11 ys ((manyO ps top (i + 1)).map opV) := by rw [hm, ← hn]; exact j2
      refine ⟨by constructor <;> omega, ?_⟩
      show Goes _ _ _ _
      exact next (i + 1, g2, ys) _ _ ⟨⟨hi, m3⟩, by simp only; omega, ⟨⟨rfl, rfl⟩, ⟨rfl, rfl⟩, ⟨rfl, rfl⟩, ⟨rfl, rfl⟩, trivial⟩, ⟨⟨rfl, rfl⟩, trivial⟩⟩
  · have hi : i = ps.length := by have : ps.length ≤ i := by simpa using hge
                                  omega
    subst hi
    exact ⟨trivial, rfl, rfl, rfl, rfl, rfl, opsV (manyO ps top ps.length), Wk.sl k2, rfl, rfl⟩

end Bow
/- SP32: the errors of lists brought by each other; a list brought by rows, in plain Lean. -/
namespace Bow
open Go

theorem behX_code (b a : OpT) (p : Bool) : (behindX b a p).2 = 0 ∨ 3 ≤ (behindX b a p).2 := by
  unfold behindX behindE behindO
  cases bothEdit b a <;> cases !soundO a || !soundO b <;> simp only [cond_true, cond_false]
  · cases (rowO b a p).all formedB <;> simp
  · simp
  · cases decide ((transP b.pieces a.pieces p).2.2 = 0) && formedB (editO b a p) <;> simp
  · simp
theorem bothX_code (a b : OpT) (p : Bool) : (bothX a b p).2.2 = 0 ∨ 3 ≤ (bothX a b p).2.2 := by
  have h1 := behX_code a b p
  have h2 := behX_code b a (!p)
  unfold bothX
  cases decide ((behindX a b p).2 = 0) with
  | false => exact h1
  | true => cases decide ((behindX b a (!p)).2 = 0) with
    | false => exact h2
    | true => exact .inl rfl
theorem bringF_code {prior : Bool} : ∀ {n : Nat} {xs ys : List OpT} {r}, bringF prior n xs ys = some r → r.2.2 = 0 ∨ 3 ≤ r.2.2
  | 0, _, _, _, h => by cases h
  | n + 1, xs, ys, r, h => by
    rw [bringF_succ] at h
    unfold bringS at h
    cases hm : muchP xs ys with
    | true => rw [hm] at h; simp at h; subst h; exact .inr (by decide)
    | false =>
      rw [hm, cond_false] at h
      match xs, ys, h with
      | [], ys, h => simp at h; subst h; exact .inl rfl
      | a :: xs, [], h => simp at h; subst h; exact .inl rfl
      | [a], [b], h =>
        simp only [Option.some.injEq] at h
        subst h
        exact bothX_code a b prior
      | a :: a' :: xs, b :: ys, h =>
        simp only at h
        cases h1 : bringF prior n [a] (b :: ys) with
        | none => rw [h1] at h; cases h
        | some r1 =>
          have ih := bringF_code h1
          obtain ⟨x1, y1, e1⟩ := r1
          rw [h1] at h
          simp only at h ih
          cases h3 : !decide (e1 = 0) with
          | true => rw [h3] at h; simp at h; subst h; exact ih
          | false =>
            rw [h3, cond_false] at h
            cases h2 : bringF prior n (a' :: xs) y1 with
            | none => rw [h2] at h; cases h
            | some r2 =>
              have ih2 := bringF_code h2
              obtain ⟨z, w, e2⟩ := r2
              rw [h2] at h
              simp only at h ih2
              cases h4 : !decide (e2 = 0) with
              | true => rw [h4] at h; simp at h; subst h; exact ih2
              | false =>
                rw [h4, cond_false] at h
                cases hmm : muchP (x1 ++ z) w with
                | true => rw [hmm] at h; simp at h; subst h; exact .inr (by decide)
                | false => rw [hmm] at h; simp at h; subst h; exact .inl rfl
      | [a], b :: b' :: ys, h =>
        simp only at h
        cases h1 : bringF prior n [a] [b] with
        | none => rw [h1] at h; cases h
        | some r1 =>
          have ih := bringF_code h1
          obtain ⟨x1, y1, e1⟩ := r1
          rw [h1] at h
          simp only at h ih
          cases h3 : !decide (e1 = 0) with
          | true => rw [h3] at h; simp at h; subst h; exact ih
          | false =>
            rw [h3, cond_false] at h
            cases h2 : bringF prior n x1 (b' :: ys) with
            | none => rw [h2] at h; cases h
            | some r2 =>
              have ih2 := bringF_code h2
              obtain ⟨z, w, e2⟩ := r2
              rw [h2] at h
              simp only at h ih2
              cases h4 : !decide (e2 = 0) with
              | true => rw [h4] at h; simp at h; subst h; exact ih2
              | false =>
                rw [h4, cond_false] at h
                cases hmm : muchP z (y1 ++ w) with
                | true => rw [hmm] at h; simp at h; subst h; exact .inr (by decide)
                | false => rw [hmm] at h; simp at h; subst h; exact .inl rfl

/-- A list brought by rows, from here on. -/
noncomputable def thrG (prior : Bool) : List OpT → List (List OpT) → List (List OpT) → List OpT × List (List OpT) × Int
  | bs, out, [] => (bs, out, 0)
  | bs, out, r :: rows => bif !decide ((listsX prior bs r).2.2 = 0) then ([], [], (listsX prior bs r).2.2) else thrG prior (listsX prior bs r).1 (out ++ [(listsX prior bs r).2.1]) rows
theorem thrG_drop {prior : Bool} {bs : List OpT} {out rows : List (List OpT)} {i : Nat} (h : i < rows.length) : thrG prior bs out (rows.drop i) = bif !decide ((listsX prior bs rows[i]).2.2 = 0) then ([], [], (listsX prior bs rows[i]).2.2) else thrG prior (listsX prior bs rows[i]).1 (out ++ [(listsX prior bs rows[i]).2.1]) (rows.drop (i + 1)) := by
  rw [List.drop_eq_getElem_cons h, thrG]
end Bow
/- W73: the document's answer of chapter 13: bare, joined, much, both, Both, Through; lists.Through. -/
namespace Bow
open Go Go.Proofs

theorem w_ref13bare (l : List OpT) (hl : l.length ≤ 1000000) (hok : ∀ o ∈ l, o.Lt 1000000) : Pure Tryz.prog 138 [opsV l] (fun x => x = opsV (bareL l)) := by
  refine pure_wk (pure_fn 300 Tryz.func138 rfl rfl rfl fun B => ?_)
  show Goes _ _ _ _
  refine goes_own 3 11 rfl ?_
  refine goes_iter (ι := Nat × Nat) (fun i => i.1 ≤ l.length) (fun i => l.length - i.1) (fun i => [(4, .int .i64 i.1), (0, opsV l), (3, .osl (.loc 0) i.2 0 i.1)]) (fun i => [some (.vec i.2 11 ((bareL (l.take i.1)).map opV))]) (0, 0) 300 (fun _ => rfl) (fun _ => rfl) ⟨Nat.zero_le _, ⟨⟨rfl, rfl⟩, ⟨rfl, rfl⟩, ⟨rfl, rfl⟩, trivial⟩, ⟨⟨rfl, rfl⟩, trivial⟩⟩ ?_
  rintro ⟨i, g⟩ k1 next
  simp only at k1
  have hbl : (bareL (l.take i)).length = i := by simp [bareL]; omega
  refine ⟨fun hlt => go 300 ?_, fun hge => go 300 ?_⟩
  · have hi : i < l.length := by simpa using hlt
    refine ⟨Int.natCast_nonneg i, _, op_at hi, ?_⟩
    show CallThen _ _ _ _ _ _
    refine call_pure (w_refBare l[i] (hok _ (List.getElem_mem hi))) rfl ?_
    rintro x rfl
    refine ⟨⟨rfl, trivial⟩, rfl, rfl, rfl, (by rw [List.length_map]; exact hbl.symm), Nat.le_trans (Nat.mul_le_mul_right _ (show _ ≤ 1000001 by rw [List.length_map, hbl]; simp only [List.length_cons, List.length_nil]; omega)) (by decide), ?_⟩
    refine ⟨by constructor <;> omega, ?_⟩
    show Goes _ _ _ _
    have e : (bareL (l.take (i + 1))).map opV = (bareL (l.take i)).map opV ++ [opV (bareO l[i])] := by
      rw [List.take_succ_eq_append_getElem hi]
      simp only [bareL, List.map_append, List.map_cons, List.map_nil]
    refine next (i + 1, bump g) _ _ ⟨hi, by simp only; omega, ⟨⟨rfl, rfl⟩, ⟨rfl, rfl⟩, ⟨?_, rfl⟩, trivial⟩, ⟨⟨?_, rfl⟩, trivial⟩⟩
    · simp only [lk]
      exact congrArg (V.osl _ _ _) (by rw [List.length_map, hbl]; rfl)
    · exact congrArg (fun z => some (HObj.vec (bump g) 11 z)) e.symm
  · have hi : i = l.length := by have : l.length ≤ i := by simpa using hge
                                 omega
    subst hi
    refine ⟨trivial, rfl, rfl, rfl, by simp [bareL], rfl, opsV (bareL l), ?_, rfl, rfl⟩
    show Wk (.sl 11 ((bareL (l.take l.length)).map opV)) _
    rw [List.take_length]
    exact .refl _
theorem w_joined (x z : List OpT) (h : x.length + z.length ≤ 1000000) : Pure Tryz.prog 172 [opsV x, opsV z] (fun v => v = opsV (x ++ z)) := by
  refine pure_wk (pure_fn 300 Tryz.func172 rfl rfl rfl fun B => ?_)
  refine ⟨Nat.le_trans (Nat.mul_le_mul_right _ (show (x.map opV).length ≤ 1000000 by simp; omega)) (by decide), ?_⟩
  refine ⟨rfl, rfl, Nat.le_trans (Nat.mul_le_mul_right _ (show (x.map opV).length + (z.map opV).length ≤ 1000000 by simp; omega)) (by decide), ?_⟩
  refine ⟨trivial, rfl, rfl, rfl, by simp, rfl, opsV (x ++ z), ?_, rfl, rfl⟩
  unfold opsV
  rw [List.map_append]
  exact Wk.refl _
theorem w_ref13much (x z : List OpT) : Pure Tryz.prog 171 [opsV x, opsV z] (fun v => v = .bool (muchP x z)) := by
  refine pure_wk (pure_fn 300 Tryz.func171 rfl rfl rfl fun B => ?_)
  unfold muchP
  refine ⟨fun g1 => go 300 ?_, fun g1 => go 300 ?_⟩
  · have g1 : 4096 < x.length := by have := lt_of g1; simp at this; omega
    exact ⟨trivial, rfl, rfl, rfl, leaf_tt (by rw [decide_eq_true g1]; rfl)⟩
  · have g1 : ¬ 4096 < x.length := by have := not_lt_of g1; simp at this; omega
    exact ⟨trivial, rfl, rfl, rfl, leaf_b (by rw [decide_eq_false g1]; simp; omega)⟩
theorem maxI {e : Int} (h : 3 ≤ e) : (if (3 : Int) > e then (3 : Int) else e) = e := by
  rw [if_neg (by omega)]
set_option maxHeartbeats 4000000 in
set_option maxRecDepth 100000 in
theorem w_ref13both (prior : Bool) : ∀ (n : Nat) (xs ys : List OpT) (R), bringF prior n xs ys = some R → OkL xs → OkL ys → Pure Tryz.prog 137 [opsV xs, opsV ys, .bool prior] (fun x => x = BothV R)
  | 0, _, _, _, h, _, _ => by cases h
  | n + 1, xs, ys, R, h, ox, oy => by
    have cm := w_ref13much xs ys
    rw [bringF_succ] at h
    unfold bringS at h
    refine pure_wk (pure_fn 300 Tryz.func137 rfl rfl rfl fun B => ?_)
    show CallThen _ _ _ _ _ _
    refine call_pure cm rfl ?_
    rintro x rfl
    refine ⟨fun g1 => go 300 ?_, fun g1 => go 300 ?_⟩
    · rw [g1] at h
      simp only [cond_true, Option.some.injEq] at h
      exact ⟨trivial, rfl, rfl, rfl, bothZ' h.symm⟩
    rw [g1, cond_false] at h
    have hlen := muchP_le g1
    match xs, ys, h, ox, oy, hlen with
    | [], ys, h, _, _, _ =>
      simp only [Option.some.injEq] at h
      refine ⟨fun g2 => go 300 ?_, fun g2 => absurd rfl (ne_of g2)⟩
      exact ⟨trivial, rfl, rfl, rfl, BothV ([], ys, 0), Wk.refl _, rfl, by rw [h]⟩
    | a :: xs, [], h, _, _, _ =>
      simp only [Option.some.injEq] at h
      refine ⟨fun g2 => absurd (eq_of g2) (by simp; omega), fun g2 => go 300 ?_⟩
      refine ⟨fun g3 => go 300 ?_, fun g3 => absurd rfl (ne_of g3)⟩
      exact ⟨trivial, rfl, rfl, rfl, BothV (a :: xs, [], 0), Wk.refl _, rfl, by rw [h]⟩
    | [a], [b], h, ox, oy, _ =>
      simp only [Option.some.injEq] at h
      have cb := w_refBoth a b prior (ox a List.mem_cons_self).1 (oy b List.mem_cons_self).1 ⟨(ox a List.mem_cons_self).2, (oy b List.mem_cons_self).2⟩
      rw [h] at cb
      refine ⟨fun g2 => absurd (eq_of g2) (by simp), fun g2 => go 300 ?_⟩
      refine ⟨fun g3 => absurd (eq_of g3) (by simp), fun g3 => go 300 ?_⟩
      refine ⟨fun g4 => go 300 ?_, fun g4 => absurd rfl (ne_of g4)⟩
      refine ⟨fun g5 => go 300 ?_, fun g5 => absurd rfl (ne_of g5)⟩
      show Goes _ _ _ _
      refine goes_draw 300 ⟨by decide, _, rfl, by decide, _, rfl, _, cb, rfl, ?_⟩
      refine ⟨by kernel_rfl, ?_⟩
      exact ⟨trivial, rfl, rfl, rfl, BothV R, Wk.refl _, rfl, rfl⟩
    | a :: a' :: xs, b :: ys, h, ox, oy, hlen =>
      simp only at h
      obtain ⟨r1, h1⟩ : ∃ r1, bringF prior n [a] (b :: ys) = r1 := ⟨_, rfl⟩
      rw [h1] at h
      match r1, h1, h with
      | none, _, h => cases h
      | some (x1, y1, e1), h1, h =>
      simp only at h
      have c1 := w_ref13both prior n _ _ _ h1 ox.head oy
      obtain ⟨o1, o2⟩ := bringF_okL prior n _ _ _ h1 ox.head oy
      refine ⟨fun g2 => absurd (eq_of g2) (by simp; omega), fun g2 => go 300 ?_⟩
      refine ⟨fun g3 => absurd (eq_of g3) (by simp; omega), fun g3 => go 300 ?_⟩
      refine ⟨fun g4 => absurd (eq_of g4) (by simp; omega), fun g4 => go 300 ?_⟩
      refine ⟨fun g5 => absurd (eq_of g5) (by simp; omega), fun g5 => go 300 ?_⟩
      refine ⟨by decide, by decide, by simp; omega, ?_⟩
      show CallThen _ _ _ _ _ _
      refine call_pure c1 rfl ?_
      rintro x rfl
      refine ⟨fun g5 => go 300 ?_, fun g5 => go 300 ?_⟩
      · have g5 := ne_of' g5
        rw [decide_eq_false g5] at h
        simp only [Bool.not_false, cond_true, Option.some.injEq] at h
        exact ⟨trivial, rfl, rfl, rfl, bothZ' h.symm⟩
      have g5 := eq_of' g5
      subst g5
      simp only [decide_true, Bool.not_true, cond_false] at h
      obtain ⟨r2, h2⟩ : ∃ r2, bringF prior n (a' :: xs) y1 = r2 := ⟨_, rfl⟩
      rw [h2] at h
      match r2, h2, h with
      | none, _, h => cases h
      | some (z, w, e2), h2, h =>
      simp only at h
      have c2 := w_ref13both prior n _ _ _ h2 ox.tail o2
      refine ⟨by decide, by simp only [List.length_map, List.length_cons]; omega, Int.le_refl _, ?_⟩
      show CallThen _ _ _ _ _ _
      refine call_pure (pure_args c2 ⟨Wk.of_eq (cut1 a (a' :: xs)), .refl _, .refl _, trivial⟩ rfl rfl) rfl ?_
      rintro x rfl
      have hcode : e2 = 0 ∨ 3 ≤ e2 := bringF_code h2
      refine ⟨fun g6 => go 300 ?_, fun g6 => go 300 ?_⟩
      · have g6 := ne_of' g6
        rw [decide_eq_false g6] at h
        simp only [Bool.not_false, cond_true, Option.some.injEq] at h
        exact ⟨trivial, rfl, rfl, rfl, bothZ' (by have g7 : e2 ≠ 0 := g6; rw [maxI (e := (z, w, e2).2.2) (by show 3 ≤ e2; omega)]; exact h.symm)⟩
      have g6 := eq_of' g6
      subst g6
      simp only [decide_true, Bool.not_true, cond_false] at h
      have i1 := (bringF_inv prior n _ _ _ _ h1).s
      have i2 := (bringF_inv prior n _ _ _ _ h2).s
      simp only [List.length_cons, List.length_nil] at i1 i2 hlen
      show CallThen _ _ _ _ _ _
      refine call_pure (w_joined x1 z (by omega)) rfl ?_
      rintro x rfl
      show CallThen _ _ _ _ _ _
      refine call_pure (w_ref13much (x1 ++ z) w) rfl ?_
      rintro x rfl
      refine ⟨fun g7 => go 300 ?_, fun g7 => go 300 ?_⟩
      · rw [g7] at h
        simp only [cond_true, Option.some.injEq] at h
        exact ⟨trivial, rfl, rfl, rfl, bothZ' h.symm⟩
      rw [g7] at h
      simp only [cond_false, Option.some.injEq] at h
      show CallThen _ _ _ _ _ _
      refine call_pure (w_joined x1 z (by omega)) rfl ?_
      rintro x rfl
      exact ⟨trivial, rfl, rfl, rfl, BothV (x1 ++ z, w, 0), Wk.refl _, rfl, by rw [h]⟩
    | [a], b :: b' :: ys, h, ox, oy, hlen =>
      simp only at h
      obtain ⟨r1, h1⟩ : ∃ r1, bringF prior n [a] [b] = r1 := ⟨_, rfl⟩
      rw [h1] at h
      match r1, h1, h with
      | none, _, h => cases h
      | some (x1, y1, e1), h1, h =>
      simp only at h
      have c1 := w_ref13both prior n _ _ _ h1 ox oy.head
      obtain ⟨o1, o2⟩ := bringF_okL prior n _ _ _ h1 ox oy.head
      refine ⟨fun g2 => absurd (eq_of g2) (by simp), fun g2 => go 300 ?_⟩
      refine ⟨fun g3 => absurd (eq_of g3) (by simp; omega), fun g3 => go 300 ?_⟩
      refine ⟨fun g4 => go 300 ?_, fun g4 => absurd rfl (ne_of g4)⟩
      refine ⟨fun g5 => absurd (eq_of g5) (by simp; omega), fun g5 => go 300 ?_⟩
      refine ⟨fun g6 => go 300 ?_, fun g6 => absurd rfl (ne_of g6)⟩
      refine ⟨by decide, by decide, by simp; omega, ?_⟩
      show CallThen _ _ _ _ _ _
      refine call_pure c1 rfl ?_
      rintro x rfl
      refine ⟨fun g5 => go 300 ?_, fun g5 => go 300 ?_⟩
      · have g5 := ne_of' g5
        rw [decide_eq_false g5] at h
        simp only [Bool.not_false, cond_true, Option.some.injEq] at h
        exact ⟨trivial, rfl, rfl, rfl, bothZ' h.symm⟩
      have g5 := eq_of' g5
      subst g5
      simp only [decide_true, Bool.not_true, cond_false] at h
      obtain ⟨r2, h2⟩ : ∃ r2, bringF prior n x1 (b' :: ys) = r2 := ⟨_, rfl⟩
      rw [h2] at h
      match r2, h2, h with
      | none, _, h => cases h
      | some (z, w, e2), h2, h =>
      simp only at h
      have c2 := w_ref13both prior n _ _ _ h2 o1 oy.tail
      refine ⟨by decide, by simp only [List.length_map, List.length_cons]; omega, Int.le_refl _, ?_⟩
      show CallThen _ _ _ _ _ _
      refine call_pure (pure_args c2 ⟨.refl _, Wk.of_eq (cut1 b (b' :: ys)), .refl _, trivial⟩ rfl rfl) rfl ?_
      rintro x rfl
      have hcode : e2 = 0 ∨ 3 ≤ e2 := bringF_code h2
      refine ⟨fun g6 => go 300 ?_, fun g6 => go 300 ?_⟩
      · have g6 := ne_of' g6
        rw [decide_eq_false g6] at h
        simp only [Bool.not_false, cond_true, Option.some.injEq] at h
        exact ⟨trivial, rfl, rfl, rfl, bothZ' (by have g7 : e2 ≠ 0 := g6; rw [maxI (e := (z, w, e2).2.2) (by show 3 ≤ e2; omega)]; exact h.symm)⟩
      have g6 := eq_of' g6
      subst g6
      simp only [decide_true, Bool.not_true, cond_false] at h
      have i1 := (bringF_inv prior n _ _ _ _ h1).s
      have i2 := (bringF_inv prior n _ _ _ _ h2).s
      simp only [List.length_cons, List.length_nil] at i1 i2 hlen
      show CallThen _ _ _ _ _ _
      refine call_pure (w_joined y1 w (by omega)) rfl ?_
      rintro x rfl
      show CallThen _ _ _ _ _ _
      refine call_pure (w_ref13much z (y1 ++ w)) rfl ?_
      rintro x rfl
      refine ⟨fun g7 => go 300 ?_, fun g7 => go 300 ?_⟩
      · rw [g7] at h
        simp only [cond_true, Option.some.injEq] at h
        exact ⟨trivial, rfl, rfl, rfl, bothZ' h.symm⟩
      rw [g7] at h
      simp only [cond_false, Option.some.injEq] at h
      show CallThen _ _ _ _ _ _
      refine call_pure (w_joined y1 w (by omega)) rfl ?_
      rintro x rfl
      exact ⟨trivial, rfl, rfl, rfl, BothV (z, y1 ++ w, 0), Wk.refl _, rfl, by rw [h]⟩
theorem listsX_err {prior : Bool} {xs ys : List OpT} (h : (listsX prior xs ys).2.2 ≠ 0) : listsX prior xs ys = ([], [], (listsX prior xs ys).2.2) := by
  obtain ⟨n, hb⟩ := bringX_spec prior xs ys
  unfold listsX at h ⊢
  obtain ⟨⟨x, y, e⟩, hr⟩ : ∃ r, bringX prior xs ys = r := ⟨_, rfl⟩
  rw [hr] at h hb ⊢
  obtain ⟨h1, h2⟩ := bringF_err hb h
  simp only [h1, h2]
  rfl
set_option maxRecDepth 100000 in
theorem w_ref13Both (xs ys : List OpT) (prior : Bool) (ox : OkL xs) (oy : OkL ys) (hl : xs.length + ys.length ≤ 1000000) : Pure Tryz.prog 85 [opsV xs, opsV ys, .bool prior] (fun x => x = BothV (listsX prior xs ys)) := by
  obtain ⟨n, h⟩ := bringX_spec prior xs ys
  have cb := w_ref13both prior n xs ys _ h ox oy
  have hi := bringX_inv prior xs ys
  obtain ⟨o1, o2⟩ := bringX_okL (prior := prior) ox oy
  have herr := listsX_err (prior := prior) (xs := xs) (ys := ys)
  have e0 : (listsX prior xs ys).2.2 = (bringX prior xs ys).2.2 := rfl
  refine pure_wk (pure_fn 300 Tryz.func85 rfl rfl rfl fun B => ?_)
  show CallThen _ _ _ _ _ _
  refine call_pure cb rfl ?_
  rintro x rfl
  refine ⟨fun g1 => go 300 ?_, fun g1 => go 300 ?_⟩
  · have g1 := ne_of' g1
    refine ⟨trivial, rfl, rfl, rfl, bothZ' ?_⟩
    rw [herr (by rw [e0]; exact g1), e0]
  show CallThen _ _ _ _ _ _
  refine call_pure (w_ref13bare _ (by omega) (fun o ho => (o1 o ho).1.lt)) rfl ?_
  rintro x rfl
  show CallThen _ _ _ _ _ _
  refine call_pure (w_ref13bare _ (by omega) (fun o ho => (o2 o ho).1.lt)) rfl ?_
  rintro x rfl
  have g1 := eq_of' g1
  refine ⟨trivial, rfl, rfl, rfl, BothV (listsX prior xs ys), Wk.of_eq ?_, rfl, rfl⟩
  unfold BothV
  rw [e0, g1]
  rfl
end Bow
/- W75: a list brought by rows: lists.Through, the document's; the law ListsThrough, walked. -/
namespace Bow
open Go Go.Proofs

def ThrV (r : List OpT × List (List OpT) × Int) : V := .tup [opsV r.1, listsV r.2.1, .int .i64 r.2.2]
theorem thrZ {r : List OpT × List (List OpT) × Int} {e : Int} (h : r = ([], [], e)) : ∃ y, Wk (.tup [.nilsl, .nilsl, .int .i64 e]) y ∧ y.pureB = true ∧ y = ThrV r := ⟨ThrV ([], [], e), Wk.tup ⟨Wk.nil 11, Wk.nil 1, .refl _, trivial⟩, rfl, by rw [h]⟩
theorem row_at {l : List (List OpT)} {i : Nat} (h : i < l.length) : (l.map opsV)[i]? = some (opsV l[i]) := by simp [h]
theorem listsX_ok {prior : Bool} {xs ys : List OpT} (ox : OkL xs) (oy : OkL ys) : OkL (listsX prior xs ys).1 ∧ OkL (listsX prior xs ys).2.1 ∧ (listsX prior xs ys).1.length + (listsX prior xs ys).2.1.length ≤ xs.length + ys.length := by
  obtain ⟨o1, o2⟩ := bringX_okL (prior := prior) ox oy
  have := bringX_inv prior xs ys
  refine ⟨bareL_okL o1, bareL_okL o2, ?_⟩
  show (bareL (bringX prior xs ys).1).length + (bareL (bringX prior xs ys).2.1).length ≤ _
  rw [bareL_len, bareL_len]
  exact this
/-- How far a row of lists has been brought. -/
structure ThrI (prior : Bool) (R : List OpT × List (List OpT) × Int) (rows : List (List OpT)) (i : Nat) (bs : List OpT) (out : List (List OpT)) : Prop where
  le : i ≤ rows.length
  eq : R = thrG prior bs out (rows.drop i)
  ok : OkL bs
  len : bs.length ≤ 1000 + 1000 * i
  ol : out.length = i
set_option pp.maxSteps 300 in
set_option maxHeartbeats 2000000 in
set_option maxRecDepth 100000 in
theorem w_lThrough (bs : List OpT) (rows : List (List OpT)) (prior : Bool) (ob : OkL bs) (orr : ∀ r ∈ rows, OkL r ∧ r.length ≤ 1000) (lb : bs.length ≤ 1000) (lr : rows.length ≤ 100) :
    Pure Tryz.prog 88 [opsV bs, listsV rows, .bool prior] (fun x => x = ThrV (thrG prior (bareL bs) [] rows)) := by
  obtain ⟨R, hR⟩ : ∃ R, thrG prior (bareL bs) [] rows = R := ⟨_, rfl⟩
  rw [hR]
  refine pure_wk (pure_fn 60 Tryz.func88 rfl rfl rfl fun B => ?_)
  show CallThen _ _ _ _ _ _
  refine call_pure (w_lbare bs (by omega) (fun o ho => (ob o ho).1.lt)) rfl ?_
  rintro x rfl
  show Goes _ _ _ _
  refine goes_own 9 1 rfl ?_
  refine goes_iter (ι := Nat × List OpT × List (List OpT) × Nat) (fun s => ThrI prior R rows s.1 s.2.1 s.2.2.1) (fun s => rows.length - s.1) (fun s => [(19, .int .i64 s.1), (18, .int .i64 rows.length), (17, listsV rows), (0, opsV s.2.1), (2, .bool prior), (9, .osl (.loc 0) s.2.2.2 0 s.2.2.1.length)])
    (fun s => [some (.vec s.2.2.2 1 (s.2.2.1.map opsV))]) (0, bareL bs, [], 0) 60 (fun _ => rfl) (fun _ => rfl)
    ⟨⟨Nat.zero_le _, hR.symm, bareL_okL ob, by simp only [bareL_len]; omega, rfl⟩, ⟨⟨rfl, rfl⟩, ⟨?_, rfl⟩, ⟨rfl, rfl⟩, ⟨rfl, rfl⟩, ⟨rfl, rfl⟩, ⟨rfl, rfl⟩, trivial⟩, ⟨⟨rfl, rfl⟩, trivial⟩⟩ ?_
  · show V.int _ _ = _
    simp
  rintro ⟨i, cs, out, g⟩ hI next
  simp only at hI
  obtain ⟨k1, k2, k3, k4, k5⟩ := hI
  refine ⟨fun hlt => go 60 ?_, fun hge => go 60 ?_⟩
  · have hi : i < rows.length := by have := lt_of hlt; omega
    obtain ⟨o1, o2⟩ := orr _ (List.getElem_mem hi)
    obtain ⟨q1, q2, q3⟩ := listsX_ok (prior := prior) k3 o1
    have hcall := w_listsBoth cs rows[i] prior k3 o1 (by omega)
    rw [thrG_drop hi] at k2
    obtain ⟨⟨x, y, e⟩, hr⟩ : ∃ r, listsX prior cs rows[i] = r := ⟨_, rfl⟩
    rw [hr] at k2 q1 q2 q3 hcall
    simp only at k2 q1 q2 q3
    refine ⟨Int.natCast_nonneg i, _, row_at hi, ?_⟩
    show CallThen _ _ _ _ _ _
    refine call_pure hcall rfl ?_
    rintro v rfl
    refine ⟨fun g1 => go 60 ?_, fun g1 => go 60 ?_⟩
    · have g1 := ne_of' g1
      rw [decide_eq_false g1] at k2
      exact ⟨trivial, rfl, rfl, rfl, thrZ k2⟩
    have g1 := eq_of' g1
    rw [decide_eq_true g1] at k2
    refine ⟨⟨rfl, trivial⟩, rfl, rfl, rfl, by simp, Nat.le_trans (Nat.mul_le_mul_right _ (show _ ≤ 1000001 by simp only [List.length_map, List.length_cons, List.length_nil]; omega)) (by decide), ?_⟩
    refine ⟨⟨by omega, by omega⟩, ?_⟩
    show Goes _ _ _ _
    refine next (i + 1, x, out ++ [y], bump g) _ _ ⟨⟨hi, k2, q1, by simp only; omega, by simp [k5]⟩, by simp only; omega, ⟨⟨rfl, rfl⟩, ⟨rfl, rfl⟩, ⟨rfl, rfl⟩, ⟨rfl, rfl⟩, ⟨rfl, rfl⟩, ⟨?_, rfl⟩, trivial⟩, ⟨⟨?_, rfl⟩, trivial⟩⟩
    · exact congrArg (V.osl (.loc 0) (bump g) 0) (by simp)
    · exact congrArg (fun z => some (HObj.vec (bump g) 1 z)) (by simp; rfl)
  · have hi : i = rows.length := by have := not_lt_of hge; omega
    subst hi
    rw [List.drop_length, thrG] at k2
    refine ⟨trivial, rfl, rfl, rfl, by simp, rfl, ThrV R, ?_, rfl, rfl⟩
    rw [k2]
    exact Wk.refl _
set_option pp.maxSteps 300 in
set_option maxHeartbeats 2000000 in
set_option maxRecDepth 100000 in
theorem w_refThrough (bs : List OpT) (rows : List (List OpT)) (prior : Bool) (ob : OkL bs) (orr : ∀ r ∈ rows, OkL r ∧ r.length ≤ 1000) (lb : bs.length ≤ 1000) (lr : rows.length ≤ 100) :
    Pure Tryz.prog 89 [opsV bs, listsV rows, .bool prior] (fun x => x = ThrV (thrG prior (bareL bs) [] rows)) := by
  obtain ⟨R, hR⟩ : ∃ R, thrG prior (bareL bs) [] rows = R := ⟨_, rfl⟩
  rw [hR]
  refine pure_wk (pure_fn 60 Tryz.func89 rfl rfl rfl fun B => ?_)
  show CallThen _ _ _ _ _ _
  refine call_pure (w_ref13bare bs (by omega) (fun o ho => (ob o ho).1.lt)) rfl ?_
  rintro x rfl
  show Goes _ _ _ _
  refine goes_own 9 1 rfl ?_
  refine goes_iter (ι := Nat × List OpT × List (List OpT) × Nat) (fun s => ThrI prior R rows s.1 s.2.1 s.2.2.1) (fun s => rows.length - s.1) (fun s => [(10, .int .i64 s.1), (1, listsV rows), (0, opsV s.2.1), (2, .bool prior), (9, .osl (.loc 0) s.2.2.2 0 s.2.2.1.length)])
    (fun s => [some (.vec s.2.2.2 1 (s.2.2.1.map opsV))]) (0, bareL bs, [], 0) 60 (fun _ => rfl) (fun _ => rfl)
    ⟨⟨Nat.zero_le _, hR.symm, bareL_okL ob, by simp only [bareL_len]; omega, rfl⟩, ⟨⟨rfl, rfl⟩, ⟨rfl, rfl⟩, ⟨rfl, rfl⟩, ⟨rfl, rfl⟩, ⟨rfl, rfl⟩, trivial⟩, ⟨⟨rfl, rfl⟩, trivial⟩⟩ ?_
  rintro ⟨i, cs, out, g⟩ hI next
  simp only at hI
  obtain ⟨k1, k2, k3, k4, k5⟩ := hI
  refine ⟨fun hlt => go 60 ?_, fun hge => go 60 ?_⟩
  · have hi : i < rows.length := by have := lt_of hlt; simp at this; omega
    obtain ⟨o1, o2⟩ := orr _ (List.getElem_mem hi)
    obtain ⟨q1, q2, q3⟩ := listsX_ok (prior := prior) k3 o1
    have hcall := w_ref13Both cs rows[i] prior k3 o1 (by omega)
    rw [thrG_drop hi] at k2
    obtain ⟨⟨x, y, e⟩, hr⟩ : ∃ r, listsX prior cs rows[i] = r := ⟨_, rfl⟩
    rw [hr] at k2 q1 q2 q3 hcall
    simp only at k2 q1 q2 q3
    refine ⟨Int.natCast_nonneg i, _, row_at hi, ?_⟩
    show CallThen _ _ _ _ _ _
    refine call_pure hcall rfl ?_
    rintro v rfl
    refine ⟨fun g1 => go 60 ?_, fun g1 => go 60 ?_⟩
    · have g1 := ne_of' g1
      rw [decide_eq_false g1] at k2
      exact ⟨trivial, rfl, rfl, rfl, thrZ k2⟩
    have g1 := eq_of' g1
    rw [decide_eq_true g1] at k2
    refine ⟨⟨rfl, trivial⟩, rfl, rfl, rfl, by simp, Nat.le_trans (Nat.mul_le_mul_right _ (show _ ≤ 1000001 by simp only [List.length_map, List.length_cons, List.length_nil]; omega)) (by decide), ?_⟩
    refine ⟨⟨by omega, by omega⟩, ?_⟩
    show Goes _ _ _ _
    refine next (i + 1, x, out ++ [y], bump g) _ _ ⟨⟨hi, k2, q1, by simp only; omega, by simp [k5]⟩, by simp only; omega, ⟨⟨rfl, rfl⟩, ⟨rfl, rfl⟩, ⟨rfl, rfl⟩, ⟨rfl, rfl⟩, ⟨?_, rfl⟩, trivial⟩, ⟨⟨?_, rfl⟩, trivial⟩⟩
    · exact congrArg (V.osl (.loc 0) (bump g) 0) (by simp)
    · exact congrArg (fun z => some (HObj.vec (bump g) 1 z)) (by simp; rfl)
  · have hi : i = rows.length := by have := not_lt_of hge; simp at this; omega
    subst hi
    rw [List.drop_length, thrG] at k2
    refine ⟨trivial, rfl, rfl, rfl, by simp, rfl, ThrV R, ?_, rfl, rfl⟩
    rw [k2]
    exact Wk.refl _
/-- What comes of rows is as small as they are. -/
theorem thrG_ok {prior : Bool} : ∀ {rows : List (List OpT)} {bs : List OpT} {out : List (List OpT)}, OkL bs → (∀ r ∈ rows, OkL r ∧ r.length ≤ 1000) → (∀ r ∈ out, OkL r ∧ r.length ≤ 1000000) → bs.length + 1000 * rows.length ≤ 900000 →
    OkL (thrG prior bs out rows).1 ∧ (thrG prior bs out rows).1.length ≤ 1000000 ∧ (∀ r ∈ (thrG prior bs out rows).2.1, OkL r ∧ r.length ≤ 1000000) ∧ (thrG prior bs out rows).2.1.length ≤ out.length + rows.length
  | [], bs, out, ob, _, oo, hl => by
    rw [thrG]
    exact ⟨ob, by simp only; omega, oo, by simp⟩
  | r :: rows, bs, out, ob, orr, oo, hl => by
    obtain ⟨o1, o2⟩ := orr r List.mem_cons_self
    obtain ⟨q1, q2, q3⟩ := listsX_ok (prior := prior) ob o1
    simp only [List.length_cons] at hl
    rw [thrG]
    cases !decide ((listsX prior bs r).2.2 = 0) with
    | true => exact ⟨okL_nil, Nat.zero_le _, (by intro r hr; cases hr), Nat.zero_le _⟩
    | false =>
      have ih := thrG_ok (prior := prior) (out := out ++ [(listsX prior bs r).2.1]) q1 (fun r hr => orr r (List.mem_cons_of_mem _ hr)) (fun z hz => by
        rcases List.mem_append.1 hz with hz | hz
        · exact oo z hz
        · rw [List.mem_singleton] at hz
          subst hz
          exact ⟨q2, by omega⟩) (by omega)
      refine ⟨ih.1, ih.2.1, ih.2.2.1, ?_⟩
      have := ih.2.2.2
      simp only [List.length_append, List.length_cons, List.length_nil] at this ⊢
      simp only [cond_false]
      omega
set_option pp.maxSteps 300 in
set_option maxHeartbeats 2000000 in
set_option maxRecDepth 100000 in
theorem w_ListsThrough (bs : List OpT) (rows : List (List OpT)) (prior : Bool) (_h1 : bs.length ≤ maxLen) (_h2 : rows.length ≤ maxLen) : Pure Tryz.prog 29 [opsV bs, listsV rows, .bool prior] (fun x => x = .bool true) := by
  refine pure_wk (pure_fn 60 Tryz.func29 rfl rfl rfl fun B => ?_)
  have hw := w_works13
  show CallThen _ _ _ _ _ _
  refine call_pure (w_few bs 4 (by decide)) rfl ?_
  rintro v ⟨b1, rfl, h1⟩
  refine ⟨fun g1 => go 60 ?_, fun g1 => go 60 ?_⟩
  · show CallThen _ _ _ _ _ _
    refine call_pure hw rfl ?_
    rintro v rfl
    exact ⟨trivial, rfl, rfl, rfl, leaf_b rfl⟩
  have h1 := h1 (by simpa using g1)
  refine ⟨fun g2 => go 60 ?_, fun g2 => go 60 ?_⟩
  · show CallThen _ _ _ _ _ _
    refine call_pure hw rfl ?_
    rintro v rfl
    exact ⟨trivial, rfl, rfl, rfl, leaf_b rfl⟩
  have lr : rows.length ≤ 5 := by have := not_lt_of g2; simp at this; omega
  show Goes _ _ _ _
  refine goes_iter (ι := Nat) (fun i => i ≤ rows.length ∧ ∀ r ∈ rows.take i, LightL r 4 60) (fun i => rows.length - i) (fun i => [(7, .int .i64 i), (0, opsV bs), (1, listsV rows), (2, .bool prior)]) (fun _ => []) 0 60 (fun _ => rfl) (fun _ => rfl) ⟨⟨Nat.zero_le _, by simp⟩, ⟨⟨rfl, rfl⟩, ⟨rfl, rfl⟩, ⟨rfl, rfl⟩, ⟨rfl, rfl⟩, trivial⟩, trivial⟩ ?_
  rintro i ⟨k1, k2⟩ next
  refine ⟨fun hlt => go 60 ?_, fun hge => go 60 ?_⟩
  · have hi : i < rows.length := by have := lt_of hlt; simp at this; omega
    refine ⟨Int.natCast_nonneg i, _, row_at hi, ?_⟩
    show CallThen _ _ _ _ _ _
    refine call_pure (w_few rows[i] 4 (by decide)) rfl ?_
    rintro v ⟨b2, rfl, h2⟩
    refine ⟨fun g3 => go 60 ?_, fun g3 => go 60 ?_⟩
    · show CallThen _ _ _ _ _ _
      refine call_pure hw rfl ?_
      rintro v rfl
      exact ⟨trivial, rfl, rfl, rfl, leaf_b rfl⟩
    have h2 := h2 (by simpa using g3)
    refine ⟨⟨by omega, by omega⟩, ?_⟩
    show Goes _ _ _ _
    refine next (i + 1) _ _ ⟨⟨hi, fun r hr => ?_⟩, by omega, ⟨⟨rfl, rfl⟩, ⟨rfl, rfl⟩, ⟨rfl, rfl⟩, ⟨rfl, rfl⟩, trivial⟩, trivial⟩
    rw [List.take_succ_eq_append_getElem hi] at hr
    rcases List.mem_append.1 hr with hr | hr
    · exact k2 r hr
    · rw [List.mem_singleton] at hr
      exact hr ▸ h2
  have hi : i = rows.length := by have := not_lt_of hge; simp at this; omega
  subst hi
  rw [List.take_length] at k2
  have l1 := h1.len
  have o1 := lightL_ok h1
  have orr : ∀ r ∈ rows, OkL r ∧ r.length ≤ 1000 := fun r hr => ⟨lightL_ok (k2 r hr), by have := (k2 r hr).len; omega⟩
  have c1 := w_lThrough bs rows prior o1 orr (by omega) (by omega)
  have c2 := w_refThrough bs rows prior o1 orr (by omega) (by omega)
  obtain ⟨q1, q2, q3, q4⟩ := thrG_ok (prior := prior) (out := []) (bareL_okL o1) orr (by simp) (by rw [bareL_len]; omega)
  obtain ⟨⟨x, out, e⟩, hr⟩ : ∃ r, thrG prior (bareL bs) [] rows = r := ⟨_, rfl⟩
  rw [hr] at c1 c2 q1 q2 q3 q4
  simp only [List.length_nil] at q1 q2 q3 q4
  have cs := w_same13 x x q2 (fun o ho => (q1 o ho).1.lt) (fun o ho => (q1 o ho).1.lt)
  rw [sameL_refl] at cs
  have co : ∀ r ∈ out, Pure Tryz.prog 86 [opsV r, opsV r] (fun v => v = .bool true) := fun r hr => by
    have := w_same13 r r (q3 r hr).2 (fun o ho => ((q3 r hr).1 o ho).1.lt) (fun o ho => ((q3 r hr).1 o ho).1.lt)
    rwa [sameL_refl] at this
  show CallThen _ _ _ _ _ _
  refine call_pure c1 rfl ?_
  rintro v rfl
  show CallThen _ _ _ _ _ _
  refine call_pure c2 rfl ?_
  rintro v rfl
  refine ⟨fun g => absurd rfl (ne_of' g), fun _ => go 60 ?_⟩
  show CallThen _ _ _ _ _ _
  refine call_pure cs rfl ?_
  rintro v rfl
  refine ⟨fun g => (by cases g), fun _ => go 60 ?_⟩
  refine ⟨fun g => absurd rfl (ne_of' g), fun _ => go 60 ?_⟩
  show Goes _ _ _ _
  refine goes_iter (ι := Nat) (fun i => i ≤ out.length) (fun i => out.length - i) (fun i => [(14, .int .i64 i), (9, listsV out), (12, listsV out)]) (fun _ => []) 0 60 (fun _ => rfl) (fun _ => rfl) ⟨Nat.zero_le _, ⟨⟨rfl, rfl⟩, ⟨rfl, rfl⟩, ⟨rfl, rfl⟩, trivial⟩, trivial⟩ ?_
  rintro i j1 next2
  refine ⟨fun hlt => go 60 ?_, fun hge => go 60 ?_⟩
  · have hi : i < out.length := by have := lt_of hlt; simp at this; omega
    show Goes _ _ _ _
    refine goes_draw 60 ⟨Int.natCast_nonneg i, _, row_at hi, Int.natCast_nonneg i, _, row_at hi, _, co _ (List.getElem_mem hi), rfl, ?_⟩
    refine ⟨by kernel_rfl, ?_⟩
    refine ⟨fun g => (by cases g), fun _ => go 60 ?_⟩
    refine ⟨⟨by omega, by omega⟩, ?_⟩
    show Goes _ _ _ _
    exact next2 (i + 1) _ _ ⟨hi, by omega, ⟨⟨rfl, rfl⟩, ⟨rfl, rfl⟩, ⟨rfl, rfl⟩, trivial⟩, trivial⟩
  · show CallThen _ _ _ _ _ _
    refine call_pure hw rfl ?_
    rintro v rfl
    exact ⟨trivial, rfl, rfl, rfl, leaf_b rfl⟩
end Bow
/- SP33: lists, both sides named the other way round; bare ones; in plain Lean. -/
namespace Bow
open Go

section
variable {prior : Bool}
theorem Br.cons2 {a b b' : OpT} {ys x1 y1 Z w : List OpT} (h1 : Br prior [a] [b] x1 y1) (h2 : Br prior x1 (b' :: ys) Z w) (m1 : muchP [a] (b :: b' :: ys) = false) (m2 : muchP Z (y1 ++ w) = false) : Br prior [a] (b :: b' :: ys) Z (y1 ++ w) := by
  obtain ⟨n1, h1⟩ := h1
  obtain ⟨n2, h2⟩ := h2
  refine ⟨max n1 n2 + 1, ?_⟩
  rw [bringF_succ]
  unfold bringS
  rw [m1, cond_false]
  simp only
  rw [bringF_le h1 (Nat.le_max_left _ _)]
  simp only [decide_true, Bool.not_true, cond_false]
  rw [bringF_le h2 (Nat.le_max_right _ _)]
  simp only [decide_true, Bool.not_true, cond_false]
  rw [m2]
  rfl
theorem Br.sum {xs ys x y : List OpT} (h : Br prior xs ys x y) : x.length + y.length ≤ xs.length + ys.length := by
  obtain ⟨n, h⟩ := h
  exact (bringF_inv prior n _ _ _ _ h).s
theorem muchP_of {x y : List OpT} (h : x.length + y.length ≤ 4096) : muchP x y = false := muchP_iff.2 ⟨by omega, by omega⟩
/-- By one list, and then by another one: so by both in one. -/
theorem Br.join : ∀ (n : Nat) {cs us vs x p y q : List OpT}, cs.length + us.length + vs.length ≤ 4096 → bringF prior n cs us = some (x, p, 0) → Br prior x vs y q → Br prior cs (us ++ vs) y (p ++ q)
  | 0, _, _, _, _, _, _, _, _, h, _ => by cases h
  | n + 1, [], us, vs, x, p, y, q, hl, h1, h2 => by
    obtain ⟨rfl, rfl⟩ := Br.nil_inv ⟨_, h1⟩
    obtain ⟨rfl, rfl⟩ := h2.nil_inv
    exact Br.nil (muchP_of (by simp at hl ⊢; omega))
  | n + 1, c :: cs, [], vs, x, p, y, q, hl, h1, h2 => by
    obtain ⟨rfl, rfl⟩ := Br.nil2_inv ⟨_, h1⟩
    exact h2
  | n + 1, c :: c' :: cs, u :: us, vs, x, p, y, q, hl, h1, h2 => by
    obtain ⟨x1, y1, x2, k1, k2, rfl, _⟩ := bringF_cons h1
    obtain ⟨s, b1, t, q1, q2, rfl⟩ := h2.split
    have l1 := Br.sum ⟨n, k1⟩
    have l2 := q1.sum
    have l3 := Br.sum ⟨n, k2⟩
    have l4 := q2.sum
    simp only [List.length_cons, List.length_nil] at hl l1 l2 l3 l4
    have j1 := Br.join n (cs := [c]) (us := u :: us) (vs := vs) (by simp only [List.length_cons, List.length_nil]; omega) k1 q1
    have j2 := Br.join n (cs := c' :: cs) (us := y1) (vs := b1) (by simp only [List.length_cons]; omega) k2 q2
    exact Br.cons j1 j2 (muchP_of (x := c :: c' :: cs) (y := u :: (us ++ vs)) (by simp only [List.length_cons, List.length_append]; omega)) (muchP_of (by simp only [List.length_append]; omega))
  | n + 1, [c], [u], [], x, p, y, q, hl, h1, h2 => by
    obtain ⟨rfl, rfl⟩ := h2.nil2_inv
    rw [List.append_nil, List.append_nil]
    exact ⟨_, h1⟩
  | n + 1, [c], [u], v :: vs, x, p, y, q, hl, h1, h2 => by
    have l1 := Br.sum ⟨_, h1⟩
    have l2 := h2.sum
    simp only [List.length_cons, List.length_nil] at hl l1 l2
    exact Br.cons2 ⟨_, h1⟩ h2 (muchP_of (by simp only [List.length_cons, List.length_nil]; omega)) (muchP_of (by simp only [List.length_append]; omega))
  | n + 1, [c], u :: u' :: us, vs, x, p, y, q, hl, h1, h2 => by
    obtain ⟨x1, y1, w, g1, g2, rfl, _⟩ := bringF_cons2 h1
    have l1 := Br.sum ⟨_, g1⟩
    have l2 := Br.sum ⟨_, g2⟩
    have l3 := h2.sum
    simp only [List.length_cons, List.length_nil] at hl l1 l2 l3
    have j := Br.join n (cs := x1) (us := u' :: us) (vs := vs) (by simp only [List.length_cons]; omega) g2 h2
    have := Br.cons2 ⟨_, g1⟩ j (muchP_of (x := [c]) (y := u :: u' :: (us ++ vs)) (by simp only [List.length_cons, List.length_nil, List.length_append]; omega)) (muchP_of (by simp only [List.length_append]; omega))
    rw [List.append_assoc]
    exact this
theorem both_turn0 (a b : OpT) (prior : Bool) : bothX b a (!prior) = ((bothX a b prior).2.1, (bothX a b prior).1, (bothX b a (!prior)).2.2) ∧ (decide ((bothX a b prior).2.2 = 0) = decide ((bothX b a (!prior)).2.2 = 0)) := by
  unfold bothX
  rw [Bool.not_not]
  by_cases h1 : (behindX a b prior).2 = 0 <;> by_cases h2 : (behindX b a (!prior)).2 = 0 <;> simp [h1, h2]
theorem Br.one_turn {a b : OpT} {x y : List OpT} (h : Br prior [a] [b] x y) : Br (!prior) [b] [a] y x := by
  obtain ⟨n, h⟩ := h
  cases n with
  | zero => cases h
  | succ n =>
    have e : bringF prior (n + 1) [a] [b] = some (bothX a b prior) := rfl
    rw [e] at h
    injection h with h
    refine ⟨1, ?_⟩
    have e' : bringF (!prior) 1 [b] [a] = some (bothX b a (!prior)) := rfl
    rw [e']
    obtain ⟨t1, t2⟩ := both_turn0 a b prior
    rw [t1]
    rw [h] at t2 ⊢
    simp only [decide_true] at t2
    have := of_decide_eq_true t2.symm
    rw [this]
/-- Both sides, the other way round. -/
theorem Br.turn : ∀ (n : Nat) {xs ys x y : List OpT}, xs.length + ys.length ≤ 4096 → bringF prior n xs ys = some (x, y, 0) → Br (!prior) ys xs y x
  | 0, _, _, _, _, _, h => by cases h
  | n + 1, [], ys, x, y, hl, h => by
    obtain ⟨rfl, rfl⟩ := Br.nil_inv ⟨_, h⟩
    exact Br.nil2 (muchP_of (by simp at hl ⊢; omega))
  | n + 1, a :: xs, [], x, y, hl, h => by
    obtain ⟨rfl, rfl⟩ := Br.nil2_inv ⟨_, h⟩
    exact Br.nil (muchP_of (by simp at hl ⊢; omega))
  | n + 1, [a], [b], x, y, hl, h => Br.one_turn ⟨_, h⟩
  | n + 1, a :: a' :: xs, b :: ys, x, y, hl, h => by
    obtain ⟨x1, y1, z, h1, h2, rfl, _⟩ := bringF_cons h
    have l1 := Br.sum ⟨_, h1⟩
    have l2 := Br.sum ⟨_, h2⟩
    simp only [List.length_cons, List.length_nil] at hl l1 l2
    have t1 := Br.turn n (by simp only [List.length_cons, List.length_nil]; omega) h1
    have t2 := Br.turn n (by simp only [List.length_cons]; omega) h2
    obtain ⟨m, t1⟩ := t1
    exact Br.join m (cs := b :: ys) (us := [a]) (vs := a' :: xs) (by simp only [List.length_cons, List.length_nil]; omega) t1 t2
  | n + 1, [a], b :: b' :: ys, x, y, hl, h => by
    obtain ⟨x1, y1, w, h1, h2, rfl, _⟩ := bringF_cons2 h
    have l1 := Br.sum ⟨_, h1⟩
    have l2 := Br.sum ⟨_, h2⟩
    simp only [List.length_cons, List.length_nil] at hl l1 l2
    have t2 := Br.turn n (by simp only [List.length_cons]; omega) h2
    exact Br.cons (Br.one_turn ⟨_, h1⟩) t2 (muchP_of (by simp only [List.length_cons, List.length_nil]; omega)) (muchP_of (by simp only [List.length_append]; omega))
end

theorem bringX_turn {prior : Bool} {xs ys x y : List OpT} (hl : xs.length + ys.length ≤ 4096) (h : bringX prior xs ys = (x, y, 0)) : bringX (!prior) ys xs = (y, x, 0) := by
  obtain ⟨n, hn⟩ := bringX_spec prior xs ys
  rw [h] at hn
  obtain ⟨m, hm⟩ := Br.turn n hl hn
  exact bringX_eq hm
theorem listsX_turn {prior : Bool} {xs ys : List OpT} (hl : xs.length + ys.length ≤ 4096) :
    decide ((listsX (!prior) ys xs).2.2 = 0) = decide ((listsX prior xs ys).2.2 = 0) ∧ ((listsX prior xs ys).2.2 = 0 → (listsX (!prior) ys xs).1 = (listsX prior xs ys).2.1) := by
  have key : ∀ (p : Bool) (us vs : List OpT), us.length + vs.length ≤ 4096 → (listsX p us vs).2.2 = 0 → (listsX (!p) vs us).2.2 = 0 ∧ (listsX (!p) vs us).1 = (listsX p us vs).2.1 := fun p us vs hl h => by
    obtain ⟨⟨x, y, e⟩, hr⟩ : ∃ r, bringX p us vs = r := ⟨_, rfl⟩
    have he : e = 0 := by
      unfold listsX at h
      rw [hr] at h
      exact h
    subst he
    have ht := bringX_turn hl hr
    unfold listsX
    rw [ht, hr]
    exact ⟨rfl, rfl⟩
  refine ⟨decide_eq_decide.2 ⟨fun h => ?_, fun h => (key prior xs ys hl h).1⟩, fun h => (key prior xs ys hl h).2⟩
  have := (key (!prior) ys xs (by omega) h).1
  rwa [Bool.not_not] at this
theorem listsX_bare (prior : Bool) (xs ys : List OpT) : listsX prior (bareL xs) ys = listsX prior xs ys := by
  obtain ⟨n, h⟩ := bringX_spec prior xs ys
  obtain ⟨r', h', q1, q2, q3⟩ := bringF_same prior n xs ys (bareL xs) ys _ (bareL_same xs) rfl h
  have e := bringX_eq h'
  unfold listsX
  rw [e]
  have b : ∀ l : List OpT, bareL l = l.map bareO := fun l => rfl
  rw [b, b, b, b, q1, q2, q3]
end Bow
/- W80: the law ListsBoth, walked. -/
namespace Bow
open Go Go.Proofs

set_option maxRecDepth 100000 in
theorem w_listsBehind (xs ys : List OpT) (prior : Bool) (ox : OkL xs) (oy : OkL ys) (hl : xs.length + ys.length ≤ 1000000) : Pure Tryz.prog 87 [opsV xs, opsV ys, .bool prior] (fun x => x = .tup [opsV (listsX prior xs ys).1, .int .i64 (listsX prior xs ys).2.2]) := by
  have h := w_listsBoth xs ys prior ox oy hl
  obtain ⟨R, hR⟩ : ∃ R, listsX prior xs ys = R := ⟨_, rfl⟩
  rw [hR] at h ⊢
  refine pure_fn 60 Tryz.func87 rfl rfl rfl fun B => ?_
  show CallThen _ _ _ _ _ _
  refine call_pure h rfl ?_
  rintro x rfl
  exact ⟨trivial, rfl, rfl, rfl, rfl⟩
theorem sameL_bare : ∀ l : List OpT, sameL (bareL l) l = true
  | [] => rfl
  | o :: l => by
    have : bareL (o :: l) = bareO o :: bareL l := rfl
    rw [this, sameL, sameO_bare, sameL_bare l]
    rfl

theorem shp_one {B B' : Base} {r g sz : Nat} {xs xs' : List V} (hr : B r = some (.vec g sz xs)) (h1 : B' r = some (.vec g sz xs')) (hl : xs'.length = xs.length) (hq : ∀ q, q ≠ r → B' q = B q) : ShpEq B B' :=
  (shp_step (m := [r]) (ShpEq.refl _) (fun _ _ => rfl) hr (by simp) h1 hl hq).1
theorem ext_one {B Bc B' : Base} {r : Nat} (h : Ext B Bc) (hn : B r = none) (hq : ∀ q, q ≠ r → B' q = Bc q) : Ext B B' := fun q o e => by
  rw [hq q (fun hm => by rw [hm, hn] at e; cases e)]
  exact h q o e
set_option maxHeartbeats 8000000 in
set_option maxRecDepth 100000 in
theorem w_ListsBoth (us vs : List OpT) (prior : Bool) (_h1 : us.length ≤ maxLen) (_h2 : vs.length ≤ maxLen) : Pure Tryz.prog 28 [opsV us, opsV vs, .bool prior] (fun v => v = .bool true) := by
  have hw := w_works13
  refine pure_of_funN (funN_of_goes 60 Tryz.func28 rfl rfl rfl fun B => ?_) rfl
  show CallThen _ _ _ _ _ _
  refine call_pure (w_few us 6 (by decide)) rfl ?_
  rintro v ⟨b1, rfl, h1⟩
  refine ⟨fun g1 => go 60 ?_, fun g1 => go 60 ?_⟩
  · show CallThen _ _ _ _ _ _
    refine call_pure hw rfl ?_
    rintro v rfl
    exact ⟨trivial, rfl, Ext.refl _, rfl, leaf_b rfl⟩
  have h1 := h1 (by simpa using g1)
  show CallThen _ _ _ _ _ _
  refine call_pure (w_few vs 6 (by decide)) rfl ?_
  rintro v ⟨b2, rfl, h2⟩
  refine ⟨fun g2 => go 60 ?_, fun g2 => go 60 ?_⟩
  · show CallThen _ _ _ _ _ _
    refine call_pure hw rfl ?_
    rintro v rfl
    exact ⟨trivial, rfl, Ext.refl _, rfl, leaf_b rfl⟩
  have h2 := h2 (by simpa using g2)
  have l1 := h1.len
  have l2 := h2.len
  have o1 := lightL_ok h1
  have o2 := lightL_ok h2
  have ob : OkL (bareL us) := bareL_okL o1
  have lb : (bareL us).length = us.length := bareL_len us
  have c1 := w_listsBothN (bareL us) vs prior ob o2 (by omega)
  rw [listsX_bare] at c1
  have c2 := w_ref13Both us vs prior o1 o2 (by omega)
  have c3 := w_listsBehind vs us (!prior) o2 o1 (by omega)
  have i1 := bringX_inv prior us vs
  have i2 := bringX_inv (!prior) vs us
  have k1 := bringX_okL (prior := prior) o1 o2
  have k2 := bringX_okL (prior := !prior) o2 o1
  obtain ⟨t1, t2⟩ := listsX_turn (prior := prior) (xs := us) (ys := vs) (by omega)
  have er := @listsX_err prior us vs
  have es := @listsX_err (!prior) vs us
  have ox : OkL (listsX prior us vs).1 := bareL_okL k1.1
  have oy : OkL (listsX prior us vs).2.1 := bareL_okL k1.2
  have oz : OkL (listsX (!prior) vs us).1 := bareL_okL k2.1
  have lx : (listsX prior us vs).1.length + (listsX prior us vs).2.1.length ≤ 12 := by
    show (bareL _).length + (bareL _).length ≤ 12
    rw [bareL_len, bareL_len]; omega
  have lz : (listsX (!prior) vs us).1.length ≤ 12 := by
    show (bareL _).length ≤ 12
    rw [bareL_len]; omega
  obtain ⟨⟨x, y, e⟩, r1⟩ : ∃ r, listsX prior us vs = r := ⟨_, rfl⟩
  obtain ⟨⟨b, b', g⟩, r2⟩ : ∃ r, listsX (!prior) vs us = r := ⟨_, rfl⟩
  rw [r1] at c1 c2 t1 t2 er ox oy lx
  rw [r2] at c3 t1 t2 es oz lz
  simp only at t1 t2 er es ox oy oz lx lz
  have c4 := w_same13 x x (by omega) (fun o ho => (ox o ho).1.lt) (fun o ho => (ox o ho).1.lt)
  have c5 := w_same13 y y (by omega) (fun o ho => (oy o ho).1.lt) (fun o ho => (oy o ho).1.lt)
  rw [sameL_refl] at c4 c5
  have hby : b = y := by
    by_cases he : e = 0
    · exact t2 he
    · have hg : g ≠ 0 := fun h => he (by subst h; simpa using t1)
      have q1 := er he
      have q2 := es hg
      simp only [Prod.mk.injEq] at q1 q2
      rw [q1.2.1, q2.1]
  subst hby
  have c7 := w_same13 (bareL us) us (by omega) (fun o ho => (ob o ho).1.lt) (fun o ho => (o1 o ho).1.lt)
  rw [sameL_bare] at c7
  have lt1 : ∀ o ∈ us, o.Lt 1000000 := fun o ho => (o1 o ho).1.lt
  have ltx : ∀ o ∈ x, o.Lt 1000000 := fun o ho => (ox o ho).1.lt
  clear r1 r2 i1 i2 k1 k2 o1 o2 ob ox oy oz t2 es h1 h2 lb
  show Goes _ _ _ _
  refine goes_own 7 11 rfl ?_
  refine goes_iter (ι := Nat × Nat × List OpT) (fun i => i.1 ≤ us.length ∧ i.2.2 = bareL (us.take i.1)) (fun i => us.length - i.1) (fun i => [(8, .int .i64 i.1), (7, .osl (.loc 0) i.2.1 0 i.1), (6, .ff), (2, .bool prior), (1, opsV vs), (0, opsV us)]) (fun i => [some (.vec i.2.1 11 (i.2.2.map opV))]) (0, 0, []) 60 (fun _ => rfl) (fun _ => rfl) ⟨⟨Nat.zero_le _, rfl⟩, ⟨⟨rfl, rfl⟩, ⟨rfl, rfl⟩, ⟨rfl, rfl⟩, ⟨rfl, rfl⟩, ⟨rfl, rfl⟩, ⟨rfl, rfl⟩, trivial⟩, ⟨⟨rfl, rfl⟩, trivial⟩⟩ ?_
  rintro ⟨i, G, L⟩ ⟨k1, k2⟩ next
  simp only at k1 k2
  have hbl : L.length = i := by rw [k2]; simp [bareL]; omega
  refine ⟨fun hlt => go 60 ?_, fun hge => ?_⟩
  · have hi : i < us.length := by simpa using hlt
    refine ⟨Int.natCast_nonneg i, _, op_at hi, ?_⟩
    show CallThen _ _ _ _ _ _
    refine call_pure (w_refBare us[i] (lt1 _ (List.getElem_mem hi))) rfl ?_
    rintro v rfl
    refine ⟨⟨rfl, trivial⟩, rfl, rfl, rfl, (by rw [List.length_map]; exact hbl.symm), Nat.le_trans (Nat.mul_le_mul_right _ (show _ ≤ 1000001 by rw [List.length_map, hbl]; simp only [List.length_cons, List.length_nil]; omega)) (by decide), ?_⟩
    refine ⟨by constructor <;> omega, ?_⟩
    show Goes _ _ _ _
    refine next (i + 1, bump G, L ++ [bareO us[i]]) _ _ ⟨⟨hi, ?_⟩, by simp only; omega, ⟨⟨rfl, rfl⟩, ⟨?_, rfl⟩, ⟨rfl, rfl⟩, ⟨rfl, rfl⟩, ⟨rfl, rfl⟩, ⟨rfl, rfl⟩, trivial⟩, ⟨⟨?_, rfl⟩, trivial⟩⟩
    · rw [List.take_succ_eq_append_getElem hi, k2]
      simp only [bareL, List.map_append, List.map_cons, List.map_nil]
    · simp only [lk]
      exact congrArg (V.osl _ _ _) (by rw [List.length_map, hbl]; rfl)
    · exact congrArg (fun z => some (HObj.vec (bump G) 11 z)) (by rw [List.map_append]; rfl)
  clear next
  have hi : i = us.length := by have : us.length ≤ i := by simpa using hge
                                omega
  have hLL : L = bareL us := by rw [k2, hi, List.take_length]
  rw [← hLL] at c1 c7
  refine goes_fzSlot 7 0 rfl rfl (by rw [List.length_map, hbl]) ?_
  show Goes _ _ _ _
  refine go 60 ?_
  clear hLL k2 hbl hge k1
  show CallThen _ _ _ _ _ _
  refine call_funN c1 rfl ?_
  rintro v N ⟨zs, ws, z1, u1, rfl, z2, u2⟩ _ hN
  have nz : ∀ z ∈ zs, NewNs B z.1 := fun z hz => (z2 z hz).fresh hN
  have z2 := z2.add hN
  have u2 := u2.add hN
  have hE := Ext.add B N
  simp only at z1 u1
  clear c1 hN
  generalize Base.add B N = B1 at z2 u2 hE ⊢
  show CallThen _ _ _ _ _ _
  refine call_pure c2 rfl ?_
  rintro v rfl
  refine ⟨fun q => absurd rfl (ne_of' q), fun _ => go 60 ?_⟩
  show CallThen _ _ _ _ _ _
  refine call_flatN c4 ⟨fz_opsE z2 z1, .wk (.refl _), trivial⟩ rfl rfl rfl rfl ?_
  refine ⟨fun q => (by cases q), fun _ => go 60 ?_⟩
  show CallThen _ _ _ _ _ _
  refine call_flatN c5 ⟨fz_opsE u2 u1, .wk (.refl _), trivial⟩ rfl rfl rfl rfl ?_
  refine ⟨fun q => (by cases q), fun _ => go 60 ?_⟩
  show CallThen _ _ _ _ _ _
  refine call_pure c3 rfl ?_
  rintro v rfl
  have lz' : ∀ z ∈ zs, z.2.Lt 1000000 := fun z hz => ltx z.2 (by rw [← z1]; exact List.mem_map.2 ⟨z, hz, rfl⟩)
  have hzl : zs.length = x.length := by rw [← z1]; simp
  have hx0 : e ≠ 0 → zs.length = 0 := fun h => by
    have := er h
    simp only [Prod.mk.injEq] at this
    rw [hzl, this.1]
    rfl
  clear c2 c3 c4 u2 u1 z1 er
  refine ⟨fun q1 => go 60 ?_, fun q1 => go 60 ?_⟩
  · have q1 : g ≠ e := ne_of' q1
    have hne : g ≠ 0 := fun h => q1 (by
      subst h
      have : e = 0 := by simpa using t1.symm
      exact this.symm)
    have hne' : e ≠ 0 := fun h => hne (by subst h; simpa using t1)
    have hz0 := hx0 hne'
    refine ⟨fun q => absurd (of_decide_eq_true q) hne, fun _ => go 60 ?_⟩
    refine ⟨fun q => absurd (of_decide_eq_true q) hne', fun _ => go 60 ?_⟩
    show CallThen _ _ _ _ _ _
    refine call_pure c5 rfl ?_
    rintro v rfl
    refine ⟨fun q => (by cases q), fun _ => go 60 ?_⟩
    show Goes _ _ _ _
    refine goes_loop ?_
    refine go 60 ?_
    refine ⟨fun hlt => absurd (lt_of hlt) (by rw [List.length_map, hz0]; decide), fun hge => go 60 ?_⟩
    show CallThen _ _ _ _ _ _
    refine call_pure c7 rfl ?_
    rintro v rfl
    refine ⟨fun _ => go 60 ?_, fun q => (by cases q)⟩
    show CallThen _ _ _ _ _ _
    refine call_pure hw rfl ?_
    rintro v rfl
    exact ⟨trivial, rfl, hE, rfl, leaf_b rfl⟩
  show CallThen _ _ _ _ _ _
  refine call_pure c5 rfl ?_
  rintro v rfl
  refine ⟨fun q => (by cases q), fun _ => go 60 ?_⟩
  clear c5 q1 t1 hx0
  show Goes _ _ _ _
  refine goes_iterB (ι := Nat) (fun i B' => i ≤ zs.length ∧ Ext B B' ∧ AllShp B' zs) (fun i => zs.length - i) (fun i => [(17, .int .i64 i), (9, opsNV zs), (7, opsV L), (0, opsV us)]) (fun _ => []) 0 60 (fun _ => rfl) (fun _ => rfl) ⟨⟨Nat.zero_le _, hE, z2.allShp⟩, ⟨⟨rfl, rfl⟩, ⟨rfl, rfl⟩, ⟨rfl, rfl⟩, ⟨rfl, rfl⟩, trivial⟩, trivial⟩ ?_
  clear hE z2
  rintro i Bc ⟨k1, kE, k2⟩ next
  refine ⟨fun hlt => go 60 ?_, fun hge => go 60 ?_⟩
  · have hi : i < zs.length := by simpa using hlt
    have hx : (zs.map nV)[((i : Nat) : Int).toNat]? = some (opN zs[i].1 zs[i].2) := by simp [hi, nV]
    have hlo := lz' _ (List.getElem_mem hi)
    have hnew := nz _ (List.getElem_mem hi)
    have bp : (zs[i].2.path.map intV).length ≤ 1000000 := by rw [List.length_map]; exact hlo.path
    have bq : (zs[i].2.pieces.map pieceV).length ≤ 1000000 := by rw [List.length_map]; exact hlo.pieces
    show Goes _ _ _ _
    refine goes_iterB (ι := Nat) (fun j B' => j ≤ (zs[i].2.path.map intV).length ∧ Ext B B' ∧ AllShp B' zs) (fun j => (zs[i].2.path.map intV).length - j) (fun j => [(18, .int .i64 j), (17, .int .i64 i), (9, opsNV zs), (7, opsV L), (0, opsV us)]) (fun _ => []) 0 60 (fun _ => rfl) (fun _ => rfl) ⟨⟨Nat.zero_le _, kE, k2⟩, ⟨⟨rfl, rfl⟩, ⟨rfl, rfl⟩, ⟨rfl, rfl⟩, ⟨rfl, rfl⟩, ⟨rfl, rfl⟩, trivial⟩, trivial⟩ ?_
    clear kE k2
    rintro j Bd ⟨m1, mE, m2⟩ next1
    refine Exists.elim (m2 zs[i] (List.getElem_mem hi)).path fun xs hxs => ?_
    have h1 := hxs.1
    have e1 := hxs.2
    refine ⟨Int.natCast_nonneg i, _, hx, ?_⟩
    show Goes _ _ _ _
    refine goes_lenA 60 rfl rfl rfl rfl rfl (by simp) h1 ?_
    refine ⟨fun hlt => go 60 ?_, fun hge => go 60 ?_⟩
    · have hj : j < (zs[i].2.path.map intV).length := by have := lt_of hlt; omega
      refine ⟨Int.natCast_nonneg i, _, hx, ?_⟩
      show Goes _ _ _ _
      refine goes_indexA 60 rfl rfl rfl rfl rfl rfl rfl rfl (by simp) h1 (Int.natCast_nonneg j) (by omega) ?_
      show Goes _ _ _ _
      refine goes_storeA 60 rfl rfl rfl rfl rfl rfl (by simp) h1 (by rw [e1, Nat.zero_add]; exact hj) (Nat.le_refl _) fun B' xs' hx' hr hq => ?_
      refine ⟨by constructor <;> omega, ?_⟩
      show Goes _ _ _ _
      exact next1 (j + 1) B' _ _ ⟨⟨hj, ext_one mE (hnew _ (by simp)) hq, m2.to' (shp_one h1 hr hx' hq)⟩, by omega, ⟨⟨rfl, rfl⟩, ⟨rfl, rfl⟩, ⟨rfl, rfl⟩, ⟨rfl, rfl⟩, ⟨rfl, rfl⟩, trivial⟩, trivial⟩
    clear next1 h1 e1 hxs xs m1 hge
    show Goes _ _ _ _
    refine goes_iterB (ι := Nat) (fun j B' => j ≤ (zs[i].2.pieces.map pieceV).length ∧ Ext B B' ∧ AllShp B' zs) (fun j => (zs[i].2.pieces.map pieceV).length - j) (fun j => [(19, .int .i64 j), (17, .int .i64 i), (9, opsNV zs), (7, opsV L), (0, opsV us)]) (fun _ => []) 0 60 (fun _ => rfl) (fun _ => rfl) ⟨⟨Nat.zero_le _, mE, m2⟩, ⟨⟨rfl, rfl⟩, ⟨rfl, rfl⟩, ⟨rfl, rfl⟩, ⟨rfl, rfl⟩, ⟨rfl, rfl⟩, trivial⟩, trivial⟩ ?_
    clear mE m2
    rintro j Be ⟨m1, mE, m2⟩ next1
    refine Exists.elim (m2 zs[i] (List.getElem_mem hi)).pieces fun xs hxs => ?_
    have h1 := hxs.1
    have e1 := hxs.2
    refine ⟨Int.natCast_nonneg i, _, hx, ?_⟩
    show Goes _ _ _ _
    refine goes_lenA 60 rfl rfl rfl rfl rfl (by simp) h1 ?_
    refine ⟨fun hlt => go 60 ?_, fun hge => go 60 ?_⟩
    · have hj : j < (zs[i].2.pieces.map pieceV).length := by have := lt_of hlt; omega
      refine ⟨Int.natCast_nonneg i, _, hx, ?_⟩
      show Goes _ _ _ _
      refine goes_indexA 60 rfl rfl rfl rfl rfl rfl rfl rfl (by simp) h1 (Int.natCast_nonneg j) (by omega) ?_
      show Goes _ _ _ _
      refine goes_fieldA 60 rfl rfl rfl rfl rfl rfl rfl rfl (by simp) h1 ?_
      show Goes _ _ _ _
      refine goes_storeA 60 rfl rfl rfl rfl rfl rfl (by simp) h1 (by rw [e1, Nat.zero_add]; exact hj) (by decide) fun B' xs' hx' hr hq => ?_
      refine ⟨by constructor <;> omega, ?_⟩
      show Goes _ _ _ _
      exact next1 (j + 1) B' _ _ ⟨⟨hj, ext_one mE (hnew _ (by simp)) hq, m2.to' (shp_one h1 hr hx' hq)⟩, by omega, ⟨⟨rfl, rfl⟩, ⟨rfl, rfl⟩, ⟨rfl, rfl⟩, ⟨rfl, rfl⟩, ⟨rfl, rfl⟩, trivial⟩, trivial⟩
    clear next1 h1 e1 hxs xs m1 hge
    refine ⟨by constructor <;> omega, ?_⟩
    show Goes _ _ _ _
    exact next (i + 1) Be _ _ ⟨⟨hi, mE, m2⟩, by omega, ⟨⟨rfl, rfl⟩, ⟨rfl, rfl⟩, ⟨rfl, rfl⟩, ⟨rfl, rfl⟩, trivial⟩, trivial⟩
  clear next
  show CallThen _ _ _ _ _ _
  refine call_pure c7 rfl ?_
  rintro v rfl
  refine ⟨fun _ => go 60 ?_, fun q => (by cases q)⟩
  show CallThen _ _ _ _ _ _
  refine call_pure hw rfl ?_
  rintro v rfl
  exact ⟨trivial, rfl, kE, rfl, leaf_b rfl⟩
end Bow
