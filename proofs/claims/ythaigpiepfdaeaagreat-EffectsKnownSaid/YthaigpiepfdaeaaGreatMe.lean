/- The library, part 5: SP23, SP29, SP37, W93, AE36, AE37, AE38, W2, W3, W4, W5, W6, W7, W8, W9, W10, W11, W12, W13, W14, W15, W16, W17, W18, W19, W20, W21, W22, W23, AE39, AE40, WB1. -/
import Derived.Test.YthaigpiepfdaeaaGreatMd
import Derived.ChangeArms
import Derived.ChangeOld
import Derived.DataReads
import Derived.Test.YthaigpiepfdaeaaGreatMc
import Derived.Shelf.Strings.BuilderK
import Derived.Test.YthaigpiepfdaeaaGreatProg
/- SP23: bounds of two edits that go on alike, in plain Lean. -/
namespace Bow
open Go

structure RowOk (r : List PieceT) : Prop where
  p : ∀ p ∈ r, p.Nn ∧ p.w ≤ 1000000000000
  l : r.length ≤ 1000000000000
/-- What is begun of a row and what is left; it goes on to where something is left. -/
theorem rowRun_split : ∀ (r : List PieceT), ∃ e, r = e ++ (rowRun r).2
  | [] => ⟨[], rfl⟩
  | p :: r => by
    rw [rowRun]
    cases decide (0 < p.keep) with
    | true => exact ⟨[], rfl⟩
    | false =>
      cases decide (0 < p.drop) with
      | true => exact ⟨[], rfl⟩
      | false =>
        obtain ⟨e, h⟩ := rowRun_split r
        exact ⟨p :: e, by rw [cond_false, cond_false, List.cons_append, ← h]⟩
theorem rowRun_ok {r : List PieceT} (h : RowOk r) : RowOk (rowRun r).2 ∧ 0 ≤ (rowRun r).1.1 ∧ (rowRun r).1.1 ≤ 1000000000000 := by
  obtain ⟨e, he⟩ := rowRun_split r
  have h1 : RowOk (rowRun r).2 := by
    have hl := congrArg List.length he
    rw [List.length_append] at hl
    exact ⟨fun p hp => h.p p (he ▸ List.mem_append_right _ hp), by have := h.l; omega⟩
  refine ⟨h1, ?_⟩
  have key : ∀ (r : List PieceT), (∀ p ∈ r, p.Nn ∧ p.w ≤ 1000000000000) → 0 ≤ (rowRun r).1.1 ∧ (rowRun r).1.1 ≤ 1000000000000 := by
    intro r
    induction r with
    | nil => intro _; exact ⟨by decide, by decide⟩
    | cons p r ih =>
      intro h
      obtain ⟨h2, h3⟩ := h p List.mem_cons_self
      have h4 := h2.k
      have h5 := h2.d
      unfold PieceT.w at h3
      rw [rowRun]
      cases decide (0 < p.keep) with
      | true => exact ⟨h4, by rw [cond_true]; simp only; omega⟩
      | false =>
        cases decide (0 < p.drop) with
        | true => exact ⟨h5, by rw [cond_false, cond_true]; simp only; omega⟩
        | false => exact ih fun q hq => h q (List.mem_cons_of_mem _ hq)
  exact key r h.p
/-- The weight of what is left of a row. -/
def rowR : List PieceT → Int
  | [] => 0
  | p :: l => p.keep + p.drop + p.put.length + rowR l
theorem rowR_le : ∀ {l : List PieceT}, rowR l ≤ sumW l
  | [] => by simp [rowR, sumW]
  | p :: l => by
    have := rowR_le (l := l)
    simp only [rowR, sumW, PieceT.w]
    omega
theorem rowR_nn : ∀ {l : List PieceT}, (∀ p ∈ l, p.Nn) → 0 ≤ rowR l
  | [], _ => by simp [rowR]
  | p :: l, h => by
    have h1 := h p List.mem_cons_self
    have := h1.k
    have := h1.d
    have := rowR_nn fun q hq => h q (List.mem_cons_of_mem _ hq)
    simp only [rowR]
    omega
theorem RowOk.nn {r : List PieceT} (h : RowOk r) : ∀ p ∈ r, p.Nn := fun p hp => (h.p p hp).1
theorem rowPut_len (r : List PieceT) : (rowPut r).2.length = r.length := by
  cases r with
  | nil => rfl
  | cons p r =>
    rw [rowPut]
    cases decide (0 < p.keep) || p.put.isEmpty <;> rfl
theorem rowTake_len (n : Int) (r : List PieceT) : (rowTake n r).length = r.length := by
  cases r with
  | nil => rfl
  | cons p r =>
    rw [rowTake]
    cases decide (0 < p.keep) <;> rfl
theorem rowPut_ok {r : List PieceT} (h : RowOk r) : RowOk (rowPut r).2 ∧ rowR (rowPut r).2 = rowR r - (rowPut r).1.length ∧ extN (rowPut r).2 = extN r ∧ ((rowPut r).1.length : Int) ≤ 1000000000000 := by
  cases r with
  | nil => exact ⟨h, by simp [rowPut, rowR], rfl, by simp [rowPut]⟩
  | cons p r =>
    rw [rowPut]
    cases decide (0 < p.keep) || p.put.isEmpty with
    | true => exact ⟨h, by simp, rfl, by simp⟩
    | false =>
      obtain ⟨h1, h2⟩ := h.p p List.mem_cons_self
      have h3 := h1.k
      have h4 := h1.d
      unfold PieceT.w at h2
      refine ⟨⟨fun q hq => ?_, h.l⟩, ?_, rfl, ?_⟩
      · rcases List.mem_cons.1 hq with rfl | hq
        · exact ⟨⟨h3, h4⟩, by unfold PieceT.w; simp only [List.length_nil]; omega⟩
        · exact h.p q (List.mem_cons_of_mem _ hq)
      · simp only [cond_false, rowR, List.length_nil]
        omega
      · simp only [cond_false]
        omega
theorem rowRun_R : ∀ {r : List PieceT}, (∀ p ∈ r, p.Nn) → rowR (rowRun r).2 ≤ rowR r ∧ extN (rowRun r).2 ≤ extN r
  | [], _ => ⟨Int.le_refl _, Nat.le_refl _⟩
  | p :: r, h => by
    have h1 := h p List.mem_cons_self
    have := h1.k
    have := h1.d
    obtain ⟨i1, i2⟩ := rowRun_R fun q hq => h q (List.mem_cons_of_mem _ hq)
    rw [rowRun]
    cases decide (0 < p.keep) with
    | true => exact ⟨Int.le_refl _, Nat.le_refl _⟩
    | false =>
      cases decide (0 < p.drop) with
      | true => exact ⟨Int.le_refl _, Nat.le_refl _⟩
      | false =>
        simp only [cond_false, rowR, extN]
        constructor <;> omega
/-- What a run says: none, and nothing is left; or so many bytes, of the first piece. -/
def RunIs (n : Int) (x s : Bool) (r : List PieceT) : Prop :=
  (s = false ∧ x = false ∧ n = 0 ∧ r = []) ∨ (s = true ∧ ∃ p l, r = p :: l ∧ ((x = false ∧ n = p.keep ∧ 0 < p.keep) ∨ (x = true ∧ n = p.drop ∧ 0 < p.drop ∧ ¬ 0 < p.keep)))
theorem rowRun_is : ∀ (r : List PieceT), RunIs (rowRun r).1.1 (rowRun r).1.2.1 (rowRun r).1.2.2 (rowRun r).2
  | [] => .inl ⟨rfl, rfl, rfl, rfl⟩
  | p :: r => by
    rw [rowRun]
    cases h1 : decide (0 < p.keep) with
    | true => exact .inr ⟨rfl, p, r, rfl, .inl ⟨rfl, rfl, of_decide_eq_true h1⟩⟩
    | false =>
      cases h2 : decide (0 < p.drop) with
      | true => exact .inr ⟨rfl, p, r, rfl, .inr ⟨rfl, rfl, of_decide_eq_true h2, of_decide_eq_false h1⟩⟩
      | false => exact rowRun_is r
theorem rowTake_ok {n m : Int} {x s : Bool} {r : List PieceT} (h : RowOk r) (hr : RunIs m x s r) (hn : 0 ≤ n) (hm : s = true → n ≤ m) : RowOk (rowTake n r) ∧ rowR (rowTake n r) = rowR r - (bif s then n else 0) ∧ (extN (rowTake n r) : Int) = extN r - (bif s then n else 0) := by
  rcases hr with ⟨rfl, -, -, rfl⟩ | ⟨rfl, p, l, rfl, hp⟩
  · exact ⟨h, by simp [rowTake, rowR], by simp [rowTake, extN]⟩
  · obtain ⟨h1, h2⟩ := h.p p List.mem_cons_self
    have h3 := h1.k
    have h4 := h1.d
    have h5 := hm rfl
    unfold PieceT.w at h2
    rcases hp with ⟨-, rfl, h6⟩ | ⟨-, rfl, h6, h7⟩
    · rw [rowTake, decide_eq_true h6]
      refine ⟨⟨fun q hq => ?_, h.l⟩, ?_, ?_⟩
      · rcases List.mem_cons.1 hq with rfl | hq
        · exact ⟨⟨by show 0 ≤ p.keep - n; omega, h4⟩, by unfold PieceT.w; simp only; omega⟩
        · exact h.p q (List.mem_cons_of_mem _ hq)
      · simp only [cond_true, rowR]
        omega
      · simp only [cond_true, extN]
        omega
    · rw [rowTake, decide_eq_false h7]
      refine ⟨⟨fun q hq => ?_, h.l⟩, ?_, ?_⟩
      · rcases List.mem_cons.1 hq with rfl | hq
        · exact ⟨⟨h3, by show 0 ≤ p.drop - n; omega⟩, by unfold PieceT.w; simp only; omega⟩
        · exact h.p q (List.mem_cons_of_mem _ hq)
      · simp only [cond_false, cond_true, rowR]
        omega
      · simp only [cond_false, cond_true, extN]
        omega
theorem bothR_eq {a b a' b' : List PieceT} {n m : Int} {x1 s1 y1 s2 : Bool} (h : rowRun a = ((n, x1, s1), a')) (h2 : rowRun b = ((m, y1, s2), b')) : bothR a b = bif !s1 && !s2 then ((0, false, false, false), a', b')
    else match bif !s1 then m else bif s2 then min n m else n with
      | k => ((k, x1, y1, true), rowTake k a', rowTake k b') := by
  unfold bothR
  rw [h, h2]
theorem bothR_ok {a b : List PieceT} (ha : RowOk a) (hb : RowOk b) : RowOk (bothR a b).2.1 ∧ RowOk (bothR a b).2.2 ∧ 0 ≤ (bothR a b).1.1 ∧ (bothR a b).1.1 ≤ 1000000000000 ∧
    ((bothR a b).1.2.2.2 = true → 1 ≤ (bothR a b).1.1 ∧ rowR (bothR a b).2.1 + rowR (bothR a b).2.2 ≤ rowR a + rowR b - (bothR a b).1.1 ∧ extN (bothR a b).2.1 + extN (bothR a b).2.2 < extN a + extN b) ∧
    ((bothR a b).1.2.2.2 = false → rowR (bothR a b).2.1 + rowR (bothR a b).2.2 ≤ rowR a + rowR b) := by
  obtain ⟨oa, na, na'⟩ := rowRun_ok ha
  obtain ⟨ob, nb, nb'⟩ := rowRun_ok hb
  obtain ⟨ra, ea⟩ := rowRun_R ha.nn
  obtain ⟨rb, eb⟩ := rowRun_R hb.nn
  have ia := rowRun_is a
  have ib := rowRun_is b
  obtain ⟨⟨⟨n, x1, s1⟩, a'⟩, hra⟩ : ∃ z, rowRun a = z := ⟨_, rfl⟩
  obtain ⟨⟨⟨m, y1, s2⟩, b'⟩, hrb⟩ : ∃ z, rowRun b = z := ⟨_, rfl⟩
  rw [bothR_eq hra hrb]
  rw [hra] at oa na na' ra ea ia
  rw [hrb] at ob nb nb' rb eb ib
  simp only at oa na na' ra ea ia ob nb nb' rb eb ib
  have pa : s1 = true → 1 ≤ n := by
    rcases ia with ⟨rfl, -⟩ | ⟨-, p, l, -, ⟨-, h, h'⟩ | ⟨-, h, h', -⟩⟩
    · intro h; cases h
    · intro _; omega
    · intro _; omega
  have pb : s2 = true → 1 ≤ m := by
    rcases ib with ⟨rfl, -⟩ | ⟨-, p, l, -, ⟨-, h, h'⟩ | ⟨-, h, h', -⟩⟩
    · intro h; cases h
    · intro _; omega
    · intro _; omega
  cases s1 with
  | false =>
    cases s2 with
    | false => exact ⟨oa, ob, Int.le_refl 0, by show (0 : Int) ≤ 1000000000000; omega, fun h => (by cases h), fun _ => by show rowR a' + rowR b' ≤ _; omega⟩
    | true =>
      obtain ⟨t1, t2, t3⟩ := rowTake_ok oa ia nb (fun h => by cases h)
      obtain ⟨u1, u2, u3⟩ := rowTake_ok ob ib nb (fun _ => Int.le_refl _)
      have := pb rfl
      refine ⟨t1, u1, nb, nb', fun _ => ⟨this, ?_, ?_⟩, fun h => by cases h⟩
      · simp only [Bool.not_false, Bool.not_true, Bool.and_false, cond_true, cond_false] at t2 u2 ⊢
        omega
      · simp only [Bool.not_false, Bool.not_true, Bool.and_false, cond_true, cond_false] at t3 u3 ⊢
        omega
  | true =>
    cases s2 with
    | false =>
      obtain ⟨t1, t2, t3⟩ := rowTake_ok oa ia na (fun _ => Int.le_refl _)
      obtain ⟨u1, u2, u3⟩ := rowTake_ok ob ib na (fun h => by cases h)
      have := pa rfl
      refine ⟨t1, u1, na, na', fun _ => ⟨this, ?_, ?_⟩, fun h => by cases h⟩
      · simp only [Bool.not_false, Bool.not_true, Bool.false_and, cond_true, cond_false] at t2 u2 ⊢
        omega
      · simp only [Bool.not_false, Bool.not_true, Bool.false_and, cond_true, cond_false] at t3 u3 ⊢
        omega
    | true =>
      have hmin : 0 ≤ min n m ∧ min n m ≤ n ∧ min n m ≤ m := by omega
      obtain ⟨t1, t2, t3⟩ := rowTake_ok oa ia hmin.1 (fun _ => hmin.2.1)
      obtain ⟨u1, u2, u3⟩ := rowTake_ok ob ib hmin.1 (fun _ => hmin.2.2)
      have := pa rfl
      have := pb rfl
      refine ⟨t1, u1, hmin.1, ?_, fun _ => ⟨?_, ?_, ?_⟩, fun h => by cases h⟩
      · show min n m ≤ _
        omega
      · show 1 ≤ min n m
        omega
      · simp only [Bool.not_true, Bool.false_and, cond_true, cond_false] at t2 u2 ⊢
        omega
      · simp only [Bool.not_true, Bool.false_and, cond_true, cond_false] at t3 u3 ⊢
        omega

theorem norm_ok {l : List PieceT} (h : rightP l = true) : RowOk (normP l) ∧ rowR (normP l) ≤ 40000000000 := by
  obtain ⟨h1, h2⟩ := norm_nn h
  have h3 := sumW_len h1
  have h4 := rowR_le (l := normP l)
  exact ⟨⟨fun p hp => ⟨h1 p hp, by have := sumW_mem h1 p hp; omega⟩, by omega⟩, by omega⟩
theorem Mk.put_ok2 {m : Mk} {s : List UInt8} (h : m.Ok) : (m.put s).Ok ∧ (m.put s).w ≤ m.w + 2 * s.length := by
  refine ⟨(Mk.put_ok h).1, ?_⟩
  cases s with
  | nil => exact Int.le_of_eq (by simp [Mk.put])
  | cons a s =>
    have := (Mk.put_ok (s := a :: s) h).2
    simp only [List.length_cons] at this ⊢
    omega
theorem Mk.drop_ok2 {m : Mk} {n : Int} (h : m.Ok) (hn : 0 ≤ n) : (m.drop n).Ok ∧ (m.drop n).w ≤ m.w + 2 * n := by
  refine ⟨(Mk.drop_ok h hn).1, ?_⟩
  by_cases h1 : 0 < n
  · have := (Mk.drop_ok (n := n) h hn).2
    omega
  · have e : m.drop n = m := by unfold Mk.drop; rw [decide_eq_false h1]; rfl
    rw [e]
    omega
/-- The state of two edits that go on alike. -/
structure Tr.Ok (s : Tr) : Prop where
  p : RowOk s.p
  q : RowOk s.q
  x : s.x.Ok
  y : s.y.Ok
  wx : s.x.w + 3 * (rowR s.p + rowR s.q) ≤ 900000000000
  wy : s.y.w + 3 * (rowR s.p + rowR s.q) ≤ 900000000000
theorem Tr.puts_ok {s : Tr} (h : s.Ok) (prior : Bool) : (s.puts prior).Ok ∧ extN (s.puts prior).p = extN s.p ∧ extN (s.puts prior).q = extN s.q := by
  obtain ⟨p, q, x, y⟩ := s
  obtain ⟨hp, hq, hx, hy, wx, wy⟩ := h
  simp only at hp hq hx hy wx wy
  obtain ⟨op, rp, ep, -⟩ := rowPut_ok hp
  obtain ⟨oq, rq, eq, -⟩ := rowPut_ok hq
  have e : Tr.puts prior ⟨p, q, x, y⟩ = bif prior then ⟨(rowPut p).2, (rowPut q).2, (x.put (rowPut p).1).kept (rowPut q).1.length, (y.kept (rowPut p).1.length).put (rowPut q).1⟩ else ⟨(rowPut p).2, (rowPut q).2, (x.kept (rowPut q).1.length).put (rowPut p).1, (y.put (rowPut q).1).kept (rowPut p).1.length⟩ := rfl
  rw [e]
  cases prior with
  | true =>
    obtain ⟨a1, a2⟩ := Mk.put_ok2 (s := (rowPut p).1) hx
    obtain ⟨b1, b2⟩ := Mk.kept_ok (n := ((rowPut q).1.length : Int)) a1 (Int.natCast_nonneg _)
    obtain ⟨c1, c2⟩ := Mk.kept_ok (n := ((rowPut p).1.length : Int)) hy (Int.natCast_nonneg _)
    obtain ⟨d1, d2⟩ := Mk.put_ok2 (s := (rowPut q).1) c1
    exact ⟨⟨op, oq, b1, d1, by simp only [cond_true]; omega, by simp only [cond_true]; omega⟩, ep, eq⟩
  | false =>
    obtain ⟨a1, a2⟩ := Mk.kept_ok (n := ((rowPut q).1.length : Int)) hx (Int.natCast_nonneg _)
    obtain ⟨b1, b2⟩ := Mk.put_ok2 (s := (rowPut p).1) a1
    obtain ⟨c1, c2⟩ := Mk.put_ok2 (s := (rowPut q).1) hy
    obtain ⟨d1, d2⟩ := Mk.kept_ok (n := ((rowPut p).1.length : Int)) c1 (Int.natCast_nonneg _)
    exact ⟨⟨op, oq, b1, d1, by simp only [cond_false]; omega, by simp only [cond_false]; omega⟩, ep, eq⟩
theorem Tr.does_ok {p q : List PieceT} {x y : Mk} {n R : Int} (hp : RowOk p) (hq : RowOk q) (hx : x.Ok) (hy : y.Ok) (hn : 0 ≤ n) (hR : rowR p + rowR q ≤ R - n) (wx : x.w + 3 * R ≤ 900000000000) (wy : y.w + 3 * R ≤ 900000000000) (d g : Bool) :
    (Tr.does ⟨p, q, x, y⟩ n d g).Ok ∧ (Tr.does ⟨p, q, x, y⟩ n d g).p = p ∧ (Tr.does ⟨p, q, x, y⟩ n d g).q = q := by
  obtain ⟨a1, a2⟩ := Mk.drop_ok2 (n := n) hx hn
  obtain ⟨b1, b2⟩ := Mk.drop_ok2 (n := n) hy hn
  obtain ⟨c1, c2⟩ := Mk.kept_ok (n := n) hx hn
  obtain ⟨d1, d2⟩ := Mk.kept_ok (n := n) hy hn
  cases d <;> cases g
  · exact ⟨⟨hp, hq, c1, d1, by show (x.kept n).w + _ ≤ _; simp only [Tr.does, cond_false]; omega, by show (y.kept n).w + _ ≤ _; simp only [Tr.does, cond_false]; omega⟩, rfl, rfl⟩
  · exact ⟨⟨hp, hq, hx, b1, by show x.w + _ ≤ _; simp only [Tr.does, cond_false, cond_true]; omega, by show (y.drop n).w + _ ≤ _; simp only [Tr.does, cond_false, cond_true]; omega⟩, rfl, rfl⟩
  · exact ⟨⟨hp, hq, a1, hy, by show (x.drop n).w + _ ≤ _; simp only [Tr.does, cond_false, cond_true]; omega, by show y.w + _ ≤ _; simp only [Tr.does, cond_false, cond_true]; omega⟩, rfl, rfl⟩
  · exact ⟨⟨hp, hq, hx, hy, by show x.w + _ ≤ _; simp only [Tr.does, cond_true]; omega, by show y.w + _ ≤ _; simp only [Tr.does, cond_true]; omega⟩, rfl, rfl⟩
theorem Tr.go_succ {prior : Bool} {f : Nat} {s : Tr} {p q p' q' : List PieceT} {x y : Mk} {n : Int} {d g any : Bool} (h1 : s.puts prior = ⟨p, q, x, y⟩) (h2 : bothR p q = ((n, d, g, any), p', q')) :
    Tr.go prior (f + 1) s = bif any then Tr.go prior f (Tr.does ⟨p', q', x, y⟩ n d g) else ⟨p', q', x, y⟩ := by
  rw [Tr.go, h1]
  simp only
  rw [h2]
end Bow
/- SP29: two edits of one leaf behind each other; what becomes of any operation behind any other one, in plain Lean. -/
namespace Bow
open Go

def editO (b a : OpT) (prior : Bool) : OpT := { b with pieces := (transP b.pieces a.pieces prior).1 }
def behindE (b a : OpT) (prior : Bool) : List OpT × Int :=
  bif !soundO a || !soundO b then ([], 80) else bif decide ((transP b.pieces a.pieces prior).2.2 = 0) && formedB (editO b a prior) then ([bareO (editO b a prior)], 0) else ([], 3)
def behindX (b a : OpT) (prior : Bool) : List OpT × Int := bif bothEdit b a then behindE b a prior else behindO b a prior
theorem formed_pieces {o : OpT} (h : formedB o = true) (hk : o.kind = 6) : rightP o.pieces = true := by
  unfold formedB at h
  simpa [hk] using (Bool.and_eq_true_iff.1 h).2
theorem right_bounds {l : List PieceT} (h : rightP l = true) : l.length ≤ 4096 ∧ ∀ p ∈ l, p.put.length ≤ 1000000000 := by
  have h1 : l.length ≤ 4096 := by
    unfold rightP at h
    rw [Bool.and_eq_true, decide_eq_true_eq] at h
    exact h.1
  obtain ⟨h2, h3⟩ := right_nn h
  have h4 := sumW_mem h2
  refine ⟨h1, fun p hp => ?_⟩
  have : ∀ (l : List PieceT) (n : Nat), rightGo n l = true → ∀ p ∈ l, p.put.length ≤ 1048576 := by
    intro l
    induction l with
    | nil => intro n _ p hp; cases hp
    | cons q l ih =>
      intro n h p hp
      rw [rightGo] at h
      simp only [Bool.and_eq_true, decide_eq_true_eq] at h
      rcases List.mem_cons.1 hp with rfl | hp
      · omega
      · exact ih _ h.2 p hp
  unfold rightP at h
  rw [Bool.and_eq_true] at h
  have := this l 0 h.2 p hp
  omega
theorem trans_right (a b : List PieceT) (prior : Bool) : rightP (transP a b prior).1 = true ∧ rightP (transP a b prior).2.1 = true := by
  unfold transP
  cases h1 : !rightP a || !rightP b with
  | true => exact ⟨rfl, rfl⟩
  | false =>
    simp only [cond_false]
    cases Tr.go prior (extN (normP a) + extN (normP b) + 1) ⟨normP a, normP b, Mk.nil, Mk.nil⟩ with
    | mk p q x y =>
      simp only
      cases h2 : !rightP x.l || !rightP y.l with
      | true => exact ⟨rfl, rfl⟩
      | false =>
        simp only [Bool.or_eq_false_iff, Bool.not_eq_false'] at h2
        exact h2

theorem row_len (b a : OpT) (prior : Bool) : (rowO b a prior).length ≤ 2 := by
  unfold rowO
  cases decide (a.kind = 2) with
  | true =>
    cases within a.path b.path with
    | true => exact Nat.zero_le _
    | false => cases decide (b.kind = 3) && within a.path b.to <;> exact Nat.le_succ _
  | false =>
    cases wonO b a with
    | true => cases prior <;> simp
    | false =>
      cases decide (a.kind = 3) with
      | false => exact Nat.le_succ _
      | true =>
        cases decide (b.kind = 2) with
        | true => cases within b.path a.path && (!decide (b.path = a.path) && !within b.path a.to) <;> simp
        | false => cases decide (b.kind = 3) && (within b.path a.to && within a.path b.to) <;> cases prior <;> simp
def bothX (a b : OpT) (prior : Bool) : List OpT × List OpT × Int :=
  bif decide ((behindX a b prior).2 = 0) then (bif decide ((behindX b a (!prior)).2 = 0) then ((behindX a b prior).1, (behindX b a (!prior)).1, 0) else ([], [], (behindX b a (!prior)).2)) else ([], [], (behindX a b prior).2)
def bareL (l : List OpT) : List OpT := l.map bareO
end Bow
/- SP37: whether both sides' effects stand: of deletes and labels, in plain Lean. -/
namespace Bow
open Go

/-- An operation beside another one: the tree, the corner, both operations, whether the first one's side is prior, the node at its path. -/
structure Bes where
  n : Tree
  c : Tree
  o : OpT
  p : OpT
  prior : Bool
  x : Tree
def besV (b : Bes) : V := .agg [.int .u64 b.n.id, .bool b.n.leaf, .str b.n.label, .sl 2 (b.n.attrs.map attrV), .str b.n.text, .sl 6 b.n.subV, .int .u64 b.c.id, .bool b.c.leaf, .str b.c.label, .sl 2 (b.c.attrs.map attrV), .str b.c.text, .sl 6 b.c.subV,
  .int .u8 b.o.kind, pathV b.o.path, .int .i64 b.o.at_, pathV b.o.to, .int .u64 b.o.id, .bool b.o.leaf, .str b.o.label, .str b.o.key, .str b.o.value, .bool b.o.gone, piecesV b.o.pieces,
  .int .u8 b.p.kind, pathV b.p.path, .int .i64 b.p.at_, pathV b.p.to, .int .u64 b.p.id, .bool b.p.leaf, .str b.p.label, .str b.p.key, .str b.p.value, .bool b.p.gone, piecesV b.p.pieces, .bool b.prior,
  .int .u64 b.x.id, .bool b.x.leaf, .str b.x.label, .sl 2 (b.x.attrs.map attrV), .str b.x.text, .sl 6 b.x.subV]
def findR (t : Tree) (id : Int) : Tree × Int × Bool := match findK t id with
  | some y => (y.1, y.2, true)
  | none => (zeroT0, 0, false)
def findV (r : Tree × Int × Bool) : V := .tup [nodeV r.1, .int .u64 r.2.1, .bool r.2.2]
def cutB (p : OpT) (q : List Int) : Bool := decide (p.kind = 2) && within p.path q
def lostB (b : Bes) : Bool := !b.prior && (decide (b.p.kind = b.o.kind) && decide (b.p.path = b.o.path))
def dropB (b : Bes) : Bool := (b.x.kin 0).all fun y => !(findR b.c y.1.id).2.2
def labelB (b : Bes) : Bool := (cutB b.p b.o.path || lostB b) || ((findR b.c b.x.id).2.2 && decide ((findR b.c b.x.id).1.label = b.o.label))

/-- The corner. -/
def cornerT (t : Tree) (a b : OpT) (prior : Bool) : Tree × Int :=
  let m := applyR t a
  if m.2 ≠ 0 then (zeroT0, m.2) else
  if ValidE t b ≠ 0 then (zeroT0, ValidE t b) else
  let r := bothX a b prior
  if r.2.2 ≠ 0 then (zeroT0, r.2.2) else ((AllR m.1 r.2.1).1, (AllR m.1 r.2.1).2.2)
end Bow
/- W93: effects.Find, and the document's. -/
namespace Bow
open Go Go.Proofs

def updF (id : Int) (_ : Option (Tree × Int)) (a : Tree × Int) : Option (Tree × Int) × Option Code := if a.1.id = id then (some a, some .ret) else (none, none)
theorem rfold_find (id : Int) : ∀ l : List (Tree × Int), rfold (updF id) none l = match l.find? (fun x => decide (x.1.id = id)) with
    | some a => (some a, some .ret)
    | none => (none, none)
  | [] => rfl
  | a :: l => by
    rw [rfold, List.find?_cons]
    by_cases h : a.1.id = id
    · rw [decide_eq_true h]
      unfold updF
      rw [if_pos h]
    · rw [decide_eq_false h]
      unfold updF
      rw [if_neg h]
      exact rfold_find id l
def zeroC : List V := [.int .u64 0, .ff, .str [], .nilsl, .str [], .nilsl]
theorem wk_zeroC : Wk (.agg zeroC) (nodeV zeroT0) := Wk.agg ⟨.refl _, Wk.ff, .refl _, Wk.nil 2, .refl _, Wk.nil 6, trivial⟩
def preF (t : Tree) (id : Int) : Option (Tree × Int) → Heap
  | none => [some (.box (nodeV t).cells), some (.box [.int .u64 id]), some (.box zeroC), some (.box [.int .u64 0]), some (.box [.ff])]
  | some y => [some (.box (nodeV t).cells), some (.box [.int .u64 id]), some (.box (nodeV y.1).cells), some (.box [.int .u64 y.2]), some (.box [.tt])]

set_option maxRecDepth 100000 in
theorem w_Find (t : Tree) (id : Int) (h : t.size ≤ 1000000000) : Pure Tryz.prog 43 [nodeV t, .int .u64 id] (fun x => x = findV (findR t id)) := by
  refine pure_wk (pure_fn 60 Tryz.func43 rfl rfl rfl fun B => ?_)
  show CallThen _ _ _ _ _ _
  refine call_pure (w_kin t 0) rfl ?_
  rintro x rfl
  show Goes _ _ _ _
  refine goes_rangeM 60 5 (preF t id) (updF id) kinV (fun s _ => s = none) none (t.kin 0) rfl rfl rfl (w_kin1 t 0 h) rfl (fun s => by cases s <;> rfl) (fun s => by cases s <;> rfl) (fun _ => rfl) rfl (fun _ => rfl) (fun _ _ h => by cases h) (fun s => by cases s <;> rfl) rfl rfl ?_ ?_
  · rintro s a asg rfl
    by_cases e : a.1.id = id
    · have hu : updF id none a = (some a, some .ret) := by unfold updF; rw [if_pos e]
      rw [hu]
      refine ⟨fun hn => (by cases hn), fun imps B r l h1 h2 => ?_⟩
      show Goes _ _ _ _
      refine goes_beginRound 60 rfl h2 rfl ?_
      refine ⟨fun _ => go 60 ?_, fun g => absurd e (of_decide_eq_false g)⟩
      exact ⟨rfl, rfl, trivial, ⟨⟨rfl, rfl⟩, ⟨rfl, rfl⟩, ⟨rfl, rfl⟩, ⟨rfl, rfl⟩, ⟨rfl, rfl⟩, ⟨rfl, rfl⟩, ⟨rfl, rfl⟩, trivial⟩⟩
    · have hu : updF id none a = (none, none) := by unfold updF; rw [if_neg e]
      rw [hu]
      refine ⟨fun _ => rfl, fun imps B r l h1 h2 => ?_⟩
      show Goes _ _ _ _
      refine goes_beginRound 60 rfl h2 rfl ?_
      refine ⟨fun g => absurd (of_decide_eq_true g) e, fun _ => go 60 ?_⟩
      exact ⟨rfl, rfl, trivial, ⟨⟨rfl, rfl⟩, ⟨rfl, rfl⟩, ⟨rfl, rfl⟩, ⟨rfl, rfl⟩, ⟨rfl, rfl⟩, ⟨rfl, rfl⟩, ⟨rfl, rfl⟩, trivial⟩⟩
  · rw [rfold_find]
    unfold findR findK
    cases hf : (t.kin 0).find? (fun x => decide (x.1.id = id)) with
    | none =>
      simp only
      refine ⟨trivial, rfl, rfl, rfl, findV (zeroT0, 0, false), ?_, rfl, rfl⟩
      exact Wk.tup ⟨wk_zeroC, .refl _, Wk.ff, trivial⟩
    | some y =>
      simp only
      refine ⟨trivial, rfl, rfl, rfl, findV (y.1, y.2, true), ?_, rfl, rfl⟩
      exact Wk.tup ⟨.refl _, .refl _, Wk.tt, trivial⟩

/-! ### The document's -/
theorem findR_eq (t : Tree) (id : Int) : findR t id = if t.id = id then (t, 0, true) else match t.subs.findSome? (fun s => (findK s id).map fun x => (x.1, if s.id = id then t.id else x.2)) with
    | some y => (y.1, y.2, true)
    | none => (zeroT0, 0, false) := by
  unfold findR
  rw [find_eq, find_kins]
  by_cases h : t.id = id
  · rw [if_pos h, if_pos h]
  · rw [if_neg h, if_neg h]
    all_goals (cases t.subs.findSome? (fun s => (findK s id).map fun x => (x.1, if s.id = id then t.id else x.2)) <;> rfl)

set_option maxRecDepth 100000 in
theorem w_refFind (t : Tree) (id : Int) : t.size ≤ 1000000000 → Pure Tryz.prog 44 [nodeV t, .int .u64 id] (fun x => x = findV (findR t id)) := by
  induction t using Tree.ind with
  | _ t ih =>
  intro hsz
  have hst := size_eq t
  have hsl := length_sizes t.subs
  refine pure_wk (pure_fn 60 Tryz.func44 rfl rfl rfl fun B => ?_)
  rw [findR_eq]
  refine ⟨fun g => go 60 ?_, fun g => go 60 ?_⟩
  · have g := of_decide_eq_true g
    rw [if_pos g]
    refine ⟨trivial, rfl, rfl, rfl, findV (t, 0, true), ?_, rfl, rfl⟩
    exact Wk.tup ⟨.refl _, .refl _, Wk.tt, trivial⟩
  have g := of_decide_eq_false g
  rw [if_neg g]
  obtain ⟨fs, hfs⟩ : ∃ fs : Tree → Option (Tree × Int), fs = fun s => (findK s id).map fun x => (x.1, if s.id = id then t.id else x.2) := ⟨_, rfl⟩
  rw [← hfs]
  show Goes _ _ _ _
  refine goes_iter (ι := Nat) (fun i => i ≤ t.subs.length ∧ t.subs.findSome? fs = (t.subs.drop i).findSome? fs) (fun i => t.subs.length - i) (fun i => [(7, .int .i64 i), (6, .ff), (5, .int .u64 0), (4, .ptr (.loc 1) 0), (2, .ptr (.loc 0) 0), (1, .int .u64 id)]) (fun _ => [some (.box (nodeV t).cells), some (.box zeroC)]) 0 60 (fun _ => rfl) (fun _ => rfl)
    ⟨⟨Nat.zero_le _, rfl⟩, ⟨⟨rfl, rfl⟩, ⟨rfl, rfl⟩, ⟨rfl, rfl⟩, ⟨rfl, rfl⟩, ⟨rfl, rfl⟩, ⟨rfl, rfl⟩, trivial⟩, ⟨⟨rfl, rfl⟩, ⟨rfl, rfl⟩, trivial⟩⟩ ?_
  rintro i ⟨k1, k2⟩ next
  refine ⟨fun hlt => go 60 ?_, fun hge => go 60 ?_⟩
  · have hi : i < t.subs.length := by simpa [subV_eq] using hlt
    have hx : t.subV[((i : Nat) : Int).toNat]? = some (nodeV t.subs[i]) := by simp [subV_eq, hi]
    have hmem := List.getElem_mem hi
    have hs := Tree.size_sub hmem
    have c1 := ih _ hmem (by omega)
    rw [drop_cons hi, List.findSome?_cons] at k2
    generalize t.subs[i] = s at hx c1 k2
    have hf : fs s = (findK s id).map fun x => (x.1, if s.id = id then t.id else x.2) := by rw [hfs]
    rw [hf] at k2
    clear hf hfs
    unfold findR at c1
    refine ⟨Int.natCast_nonneg i, _, hx, ?_⟩
    generalize findK s id = fk at c1 k2
    rcases fk with - | y
    · simp only [Option.map_none] at c1 k2
      show CallThen _ _ _ _ _ _
      refine call_pure c1 rfl ?_
      rintro z rfl
      refine ⟨fun q => (by cases q), fun _ => go 60 ?_⟩
      refine ⟨by constructor <;> omega, ?_⟩
      show Goes _ _ _ _
      exact next (i + 1) _ _ ⟨⟨hi, k2⟩, by omega, ⟨⟨rfl, rfl⟩, ⟨rfl, rfl⟩, ⟨rfl, rfl⟩, ⟨rfl, rfl⟩, ⟨rfl, rfl⟩, ⟨rfl, rfl⟩, trivial⟩, ⟨⟨rfl, rfl⟩, ⟨rfl, rfl⟩, trivial⟩⟩
    · simp only [Option.map_some] at c1 k2
      show CallThen _ _ _ _ _ _
      refine call_pure c1 rfl ?_
      rintro z rfl
      rw [k2]
      refine ⟨fun _ => go 60 ?_, fun q => (by cases q)⟩
      refine ⟨Int.natCast_nonneg i, _, hx, ?_⟩
      refine ⟨fun q => go 60 ?_, fun q => go 60 ?_⟩
      · have q := of_decide_eq_true q
        refine ⟨trivial, rfl, rfl, rfl, findV (y.1, t.id, true), ?_, rfl, ?_⟩
        · exact Wk.tup ⟨.refl _, .refl _, Wk.tt, trivial⟩
        · first | (rw [if_pos q]; done) | simp only [Option.map_some, if_pos q]
      · have q := of_decide_eq_false q
        refine ⟨trivial, rfl, rfl, rfl, findV (y.1, y.2, true), ?_, rfl, ?_⟩
        · exact Wk.tup ⟨.refl _, .refl _, Wk.tt, trivial⟩
        · first | (rw [if_neg q]; done) | simp only [Option.map_some, if_neg q]
  · have hi : t.subs.length ≤ i := by simpa [subV_eq] using hge
    rw [List.drop_eq_nil_of_le hi] at k2
    rw [k2]
    refine ⟨trivial, rfl, rfl, rfl, findV (zeroT0, 0, false), ?_, rfl, rfl⟩
    exact Wk.tup ⟨wk_zeroC, .refl _, Wk.ff, trivial⟩
end Bow
/- AE36: arguments that are read as data, as deep values; a call's contract out of a function's. -/
namespace Bow
open Go

def β0 : Nat → Loc := fun _ => .none

/-! ### Types that are read -/
section
variable {H : Type} {enc : TypeId × Value → H} {P : Program} {w : World} {base : Nat} {spare : Nat → Bool} {held : Bool}

theorem notOwn0 (b : Nat) {sz : Nat} : freeB β0 [] b sz := free_none (fun r o h => by simp at h) b sz

/-! ### Calls -/
theorem calls_of_pure {f : FuncId} {args : List V} {vals : Array Value} {b : Bool} (h : Pure P f args fun x => x = .bool b) (hp : V.pureL args = true) (hl : args.length = vals.size)
    (hr : ∀ (j : Nat) (x : V) (v : Value), args[j]? = some x → vals[j]? = some v → Rep w β0 [] x v) : Calls P f vals w fun e w' => e = .returned (.bool b) ∧ RowKit.Below w.heap.size w w' := by
  intro cs
  have hrel : HRel w β0 [] := ⟨fun r o h => by simp at h, fun r r' b N N' hl => by obtain ⟨o, h⟩ := hl; simp at h⟩
  have hs : SRel [] 0 w β0 [] [] ⟨[], [], fun _ => none, []⟩ bare := by
    refine ⟨hrel, rfl, fun k => by simp [lk, V.conv]; exact .undef _, rfl, List.nodup_nil, by simp, rfl, fun r h _ => by simp at h, fun r _ => rfl, by simp, by simp, by simp, rfl, by simp⟩
  obtain ⟨x, v, w', β', H', fr, hq, _, _, k2, k3, k4, k5, k6⟩ := pure_step h hp hs cs hl (fun j x v hj hv => by
    rw [pure_conv _ _ (pureL_mem _ hp x (List.mem_of_getElem? hj))]
    exact hr j x v hj hv)
  subst hq
  have hv : v = .bool b := rep_bool (m := []) k3
  subst hv
  exact ⟨.returned (.bool b), w', fr, ⟨rfl, k2.os, k2.tape, k2.output, k2.size, fun q hq => k2.keep q hq (notOwn0 q (sz := 0)).1⟩, k4, k5, k6⟩
end
end Bow
/- AE37: calls of functions that are handed some of the caller's objects, and leave objects of their own. -/
namespace Bow
open Go

/-! ### Names, renamed -/
def Ref.ren (ρ : List Nat) : Ref → Ref
  | .loc k => match ρ[k]? with
    | some j => .loc j
    | none => .bad
  | .abs n => .abs n
  | .bad => .bad
mutual
def V.ren (ρ : List Nat) : V → V
  | .osl r g o l => .osl (r.ren ρ) g o l
  | .ptr r o => .ptr (r.ren ρ) o
  | .eptr r g i o => .eptr (r.ren ρ) g i o
  | .agg cs => .agg (V.renL ρ cs)
  | .tup vs => .tup (V.renL ρ vs)
  | .fn f a c => .fn f (V.renL ρ a) (V.renL ρ c)
  | .yld r => .yld (r.ren ρ)
  | .iface t v => .iface t (v.ren ρ)
  | .int k n => .int k n
  | .bool b => .bool b
  | .tt => .tt
  | .ff => .ff
  | .str s => .str s
  | .sl s xs => .sl s xs
  | .nilsl => .nilsl
  | .iptr cs o => .iptr cs o
  | .nilp => .nilp
  | .nilf => .nilf
  | .nili => .nili
  | .nilmap => .nilmap
  | .undef => .undef
def V.renL (ρ : List Nat) : List V → List V
  | [] => []
  | v :: vs => v.ren ρ :: V.renL ρ vs
end
theorem V.renL_eq (ρ : List Nat) : ∀ vs, V.renL ρ vs = vs.map (V.ren ρ)
  | [] => rfl
  | v :: vs => by rw [V.renL, V.renL_eq ρ vs]; rfl
def HObj.ren (ρ : List Nat) : HObj → HObj
  | .box cs => .box (V.renL ρ cs)
  | .vec g sz xs => .vec g sz xs
  | .loop st pe fn E nt ps asg bo => .loop st pe fn (E.map fun p => (p.1, p.2.ren ρ)) nt ps asg bo
  | .dfr => .dfr
  | .held s => .held s

/-- The names ρ of the objects m are m1. -/
def Sub (ρ m m1 : List Nat) : Prop := m1.length = ρ.length ∧ ∀ i k : Nat, ρ[i]? = some k → ∃ r : Nat, m[k]? = some r ∧ m1[i]? = some r

theorem Ref.ren_conv {ρ m m1 : List Nat} (h : Sub ρ m m1) : ∀ r : Ref, r.sc ρ.length → (r.ren ρ).conv m = r.conv m1
  | .loc i, hi => by
    have hi : i < ρ.length := hi
    have e := List.getElem?_eq_getElem hi
    obtain ⟨r, h1, h2⟩ := h.2 i _ e
    simp only [Ref.ren, e, Ref.conv, h1, h2]
  | .abs _, _ => rfl
  | .bad, _ => rfl
theorem Ref.ren_sc {ρ m m1 : List Nat} (h : Sub ρ m m1) : ∀ r : Ref, r.sc ρ.length → (r.ren ρ).sc m.length
  | .loc i, hi => by
    have hi : i < ρ.length := hi
    have e := List.getElem?_eq_getElem hi
    obtain ⟨r, h1, h2⟩ := h.2 i _ e
    simp only [Ref.ren, e]
    exact lt_of_get h1
  | .abs _, _ => trivial
  | .bad, _ => trivial
mutual
theorem V.ren_conv {ρ m m1 : List Nat} (h : Sub ρ m m1) : ∀ v : V, v.sc ρ.length → (v.ren ρ).conv m = v.conv m1
  | .osl r _ _ _, hs => by simp only [V.ren, V.conv, r.ren_conv h hs]
  | .ptr r _, hs => by simp only [V.ren, V.conv, r.ren_conv h hs]
  | .eptr r _ _ _, hs => by simp only [V.ren, V.conv, r.ren_conv h hs]
  | .yld r, hs => by simp only [V.ren, V.conv, r.ren_conv h hs]
  | .agg cs, hs => by simp only [V.ren, V.conv, V.renL_conv h cs hs]
  | .tup cs, hs => by simp only [V.ren, V.conv, V.renL_conv h cs hs]
  | .fn _ a c, hs => by simp only [V.ren, V.conv, V.renL_conv h a hs.1, V.renL_conv h c hs.2]
  | .iface _ v, hs => by simp only [V.ren, V.conv, v.ren_conv h hs]
  | .int .., _ | .bool _, _ | .tt, _ | .ff, _ | .str _, _ | .sl .., _ | .nilsl, _ | .iptr .., _ | .nilp, _ | .nilf, _ | .nili, _ | .nilmap, _ | .undef, _ => rfl
theorem V.renL_conv {ρ m m1 : List Nat} (h : Sub ρ m m1) : ∀ vs : List V, V.scL ρ.length vs → V.convL m (V.renL ρ vs) = V.convL m1 vs
  | [], _ => rfl
  | v :: vs, hs => by simp only [V.renL, V.convL, v.ren_conv h hs.1, V.renL_conv h vs hs.2]
end
mutual
theorem V.ren_sc {ρ m m1 : List Nat} (h : Sub ρ m m1) : ∀ v : V, v.sc ρ.length → (v.ren ρ).sc m.length
  | .osl r _ _ _, hs | .ptr r _, hs | .eptr r _ _ _, hs | .yld r, hs => r.ren_sc h hs
  | .agg cs, hs | .tup cs, hs => V.renL_sc h cs hs
  | .fn _ a c, hs => ⟨V.renL_sc h a hs.1, V.renL_sc h c hs.2⟩
  | .iface _ v, hs => v.ren_sc h hs
  | .int .., _ | .bool _, _ | .tt, _ | .ff, _ | .str _, _ | .sl .., _ | .nilsl, _ | .iptr .., _ | .nilp, _ | .nilf, _ | .nili, _ | .nilmap, _ | .undef, _ => trivial
theorem V.renL_sc {ρ m m1 : List Nat} (h : Sub ρ m m1) : ∀ vs : List V, V.scL ρ.length vs → V.scL m.length (V.renL ρ vs)
  | [], _ => trivial
  | v :: vs, hs => ⟨v.ren_sc h hs.1, V.renL_sc h vs hs.2⟩
end
theorem HObj.ren_conv {ρ m m1 : List Nat} (h : Sub ρ m m1) : ∀ o : HObj, o.sc ρ.length → (o.ren ρ).conv m = o.conv m1
  | .box cs, hs => by simp only [HObj.ren, HObj.conv, V.renL_conv h cs hs]
  | .vec .., _ => rfl
  | .dfr, _ => rfl
  | .held _, _ => rfl
  | .loop _ _ _ E _ _ _ _, hs => by
    simp only [HObj.ren, HObj.conv, Env.conv, List.map_map, HObj.loop.injEq, true_and, and_true]
    exact List.map_congr_left fun p hp => by simp only [Function.comp_apply]; rw [V.ren_conv h p.2 (hs p hp)]
theorem HObj.ren_sc {ρ m m1 : List Nat} (h : Sub ρ m m1) : ∀ o : HObj, o.sc ρ.length → (o.ren ρ).sc m.length
  | .box cs, hs => V.renL_sc h cs hs
  | .vec .., _ => trivial
  | .dfr, _ => trivial
  | .held _, _ => trivial
  | .loop _ _ _ E _ _ _ _, hs => fun p hp => by
    obtain ⟨q, hq, rfl⟩ := List.mem_map.1 hp
    exact V.ren_sc h q.2 (hs q hq)

/-! ### The caller's objects behind the call -/
def omap (ρ : List Nat) (o : Option HObj) : Option HObj :=
  match o with
  | none => none
  | some o => some (o.ren ρ)
def setAll (ρ : List Nat) : List Nat → Heap → Heap → Heap
  | k :: ks, o :: os, T => setAll ρ ks os (T.set k (omap ρ o))
  | _, os, T => T ++ os.map (omap ρ)
def setAllK (ρ : List Nat) : List Nat → Heap → Heap → (Heap → Prop) → Prop
  | k :: ks, o :: os, T, K => lset T k (omap ρ o) fun T' => setAllK ρ ks os T' K
  | _, os, T, K => K (T ++ lmap (omap ρ) os)
theorem setAllK_eq (ρ : List Nat) : ∀ (ks : List Nat) (os T : Heap) (K : Heap → Prop), setAllK ρ ks os T K = K (setAll ρ ks os T)
  | k :: ks, o :: os, T, K => by rw [setAllK, lset_eq, setAllK_eq ρ ks os]; rfl
  | [], os, T, K => by simp only [setAllK, setAll, lmap_eq]
  | k :: ks, [], T, K => by simp only [setAllK, setAll, lmap_eq]
theorem setAll_len (ρ : List Nat) : ∀ (ks : List Nat) (os T : Heap), ks.length ≤ os.length → (setAll ρ ks os T).length = T.length + (os.length - ks.length)
  | k :: ks, o :: os, T, h => by
    rw [setAll, setAll_len ρ ks os _ (by simpa using h)]
    simp
  | [], os, T, _ => by simp [setAll]
  | k :: ks, [], T, h => by simp at h
theorem setAll_other (ρ : List Nat) {j : Nat} : ∀ (ks : List Nat) (os T : Heap), j ∉ ks → j < T.length → (setAll ρ ks os T)[j]? = T[j]?
  | k :: ks, o :: os, T, h, hj => by
    rw [setAll, setAll_other ρ ks os _ (fun hm => h (List.mem_cons_of_mem _ hm)) (by simpa using hj), List.getElem?_set_ne (fun e : k = j => by subst e; exact h List.mem_cons_self)]
  | [], os, T, _, hj => by simp only [setAll]; rw [List.getElem?_append_left hj]
  | k :: ks, [], T, _, hj => by simp only [setAll]; rw [List.getElem?_append_left hj]
theorem setAll_at (ρ : List Nat) : ∀ (ks : List Nat) (os T : Heap), ks.Nodup → (∀ k ∈ ks, k < T.length) → ks.length ≤ os.length → ∀ (i k : Nat), ks[i]? = some k → (setAll ρ ks os T)[k]? = os[i]?.map (omap ρ)
  | k0 :: ks, o :: os, T, hn, hl, hle, i, k, hk => by
    obtain ⟨h1, h2⟩ := List.nodup_cons.1 hn
    have hk0 := hl k0 List.mem_cons_self
    rw [setAll]
    cases i with
    | zero =>
      simp only [List.getElem?_cons_zero, Option.some.injEq] at hk
      subst hk
      rw [setAll_other ρ ks os _ h1 (by simpa using hk0)]
      simp [hk0]
    | succ i =>
      simp only [List.getElem?_cons_succ] at hk ⊢
      exact setAll_at ρ ks os _ h2 (fun k hk => by simpa using hl k (List.mem_cons_of_mem _ hk)) (by simpa using hle) i k hk
  | [], os, T, _, _, _, i, k, hk => by simp at hk
  | k0 :: ks, [], T, _, _, hle, i, k, hk => by simp at hle
theorem setAll_new (ρ : List Nat) : ∀ (ks : List Nat) (os T : Heap), ks.length ≤ os.length → ∀ j, (setAll ρ ks os T)[T.length + j]? = os[ks.length + j]?.map (omap ρ)
  | k0 :: ks, o :: os, T, hle, j => by
    rw [setAll]
    have := setAll_new ρ ks os (T.set k0 (omap ρ o)) (by simpa using hle) j
    simp only [List.length_set] at this
    rw [this, List.length_cons, show ks.length + 1 + j = (ks.length + j) + 1 by omega, List.getElem?_cons_succ]
  | [], os, T, _, j => by
    simp only [setAll]
    rw [List.getElem?_append_right (by omega)]
    simp
  | k0 :: ks, [], T, hle, j => by simp at hle

def subB : List Nat → Nat → Bool
  | [], _ => true
  | k :: ks, n => Nat.blt k n && subB ks n
theorem subB_get : ∀ (ks : List Nat) (n : Nat), subB ks n = true → ∀ k ∈ ks, k < n
  | [], _, _, k, h => by cases h
  | x :: ks, n, hs, k, h => by
    simp only [subB, Bool.and_eq_true] at hs
    rcases List.mem_cons.1 h with rfl | h
    · exact Nat.le_of_ble_eq_true hs.1
    · exact subB_get ks n hs.2 k h

/-- The objects ks of the caller, as the called one sees them. -/
def objsAre (ks : List Nat) (T : Heap) : List Nat → Heap → Prop
  | [], [] => True
  | k :: l, some o :: os => (lget T k = some (some (o.ren ks)) ∧ o.scB ks.length = true) ∧ objsAre ks T l os
  | _, _ => False
theorem objsAre_get {ks0 : List Nat} {T : Heap} : ∀ {l : List Nat} {os : Heap}, objsAre ks0 T l os → l.length = os.length ∧ ∀ (i k : Nat), l[i]? = some k → ∃ o, os[i]? = some (some o) ∧ T[k]? = some (some (o.ren ks0)) ∧ o.sc ks0.length
  | [], [], _ => ⟨rfl, fun i k h => by simp at h⟩
  | k0 :: l, some o :: os, h => by
    obtain ⟨h1, h2⟩ := objsAre_get h.2
    refine ⟨by simp [h1], fun i k hk => ?_⟩
    cases i with
    | zero =>
      simp only [List.getElem?_cons_zero, Option.some.injEq] at hk
      subst hk
      exact ⟨o, rfl, by rw [← lget_eq]; exact h.1.1, HObj.scB_sc o h.1.2⟩
    | succ i => simpa using h2 i k (by simpa using hk)
  | [], _ :: _, h => h.elim
  | _ :: _, [], h => h.elim
  | _ :: _, none :: _, h => h.elim

def rangeFrom : Nat → Nat → List Nat
  | _, 0 => []
  | n, k + 1 => n :: rangeFrom (n + 1) k
theorem rangeFrom_len : ∀ (k n : Nat), (rangeFrom n k).length = k
  | 0, _ => rfl
  | k + 1, n => by simp [rangeFrom, rangeFrom_len k]
theorem rangeFrom_get : ∀ (k n i : Nat), i < k → (rangeFrom n k)[i]? = some (n + i)
  | k + 1, n, 0, _ => rfl
  | k + 1, n, i + 1, h => by
    rw [rangeFrom, List.getElem?_cons_succ, rangeFrom_get k (n + 1) i (by omega)]
    congr 1
    omega
/-- The names of what the called one has: those that it was handed, and new ones. -/
def subρ (ks : List Nat) (n : Nat) (T1 : Heap) : List Nat := ks ++ rangeFrom n (lcount T1 0 - lcount ks 0)

theorem call_sub {c : Cx} {g : FuncId} {args args' : List V} {E : Env} {T T1 : Heap} {K : V → St → Prop} {Q : V → Heap → Prop} (ks : List Nat) (hf : Fun c.P g T1 args' Q) (hnd : nodupB ks = true) (hlt : subB ks T.length = true) (ho : objsAre ks T ks T1) (ha : args = V.renL ks args') (hsc : V.scBL ks.length args' = true)
    (hD : c.D.all (fun k => !memN ks k) = true)
    (h : ∀ x T1', Q x T1' → allLive (ldrop T1' ks.length) = true ∧ setAllK (subρ ks T.length T1') ks T1' T fun T2 => K (x.ren (subρ ks T.length T1')) ⟨E, T2, c.B, c.D⟩) : CallThen c g args E T K := by
  have hen : Enterable c.P g := by unfold Fun at hf; exact hf.1
  unfold CallThen
  unfold Fun at hf
  refine ⟨hen, fun w β H m a vals cs hs hl hr => ?_⟩
  have hml : m.length = T.length := hs.mlen
  have hnd' := nodupB_iff _ hnd
  have hlt' := subB_get _ _ hlt
  obtain ⟨hol, hoo⟩ := objsAre_get ho
  obtain ⟨m1, hm1⟩ : ∃ m1, m1 = ks.map fun k => (m[k]?).getD 0 := ⟨_, rfl⟩
  have hsub : Sub ks m m1 := by
    refine ⟨by rw [hm1]; simp, fun i k hk => ?_⟩
    have hkm : k < m.length := by rw [hml]; exact hlt' k (List.mem_of_getElem? hk)
    have e := List.getElem?_eq_getElem hkm
    exact ⟨m[k], e, by rw [hm1, List.getElem?_map, hk]; simp [e]⟩
  have hm1l : m1.length = T1.length := by rw [hsub.1]; exact hol
  have hm1nd : m1.Nodup := by
    rw [hm1]
    refine List.Pairwise.map _ (fun x y h => ?_) (List.Pairwise.and_mem.1 hnd')
    obtain ⟨hx, hy, hne⟩ := h
    have hxm : x < m.length := by rw [hml]; exact hlt' x hx
    have hym : y < m.length := by rw [hml]; exact hlt' y hy
    intro e
    simp only [List.getElem?_eq_getElem hxm, List.getElem?_eq_getElem hym, Option.getD_some] at e
    exact hne (hs.inj (List.getElem?_eq_getElem hxm) (by rw [e]; exact List.getElem?_eq_getElem hym))
  have hmem : ∀ r, r ∈ m1 → ∃ i k, ks[i]? = some k ∧ m[k]? = some r ∧ m1[i]? = some r := fun r hr => by
    obtain ⟨i, hi⟩ := List.getElem?_of_mem hr
    have hil : i < ks.length := by have := lt_of_get hi; rw [hsub.1] at this; exact this
    obtain ⟨r', h1, h2⟩ := hsub.2 i _ (List.getElem?_eq_getElem hil)
    rw [hi] at h2
    injection h2 with h2
    subst h2
    exact ⟨i, _, List.getElem?_eq_getElem hil, h1, hi⟩
  have hargsc := (V.scL_iff _ _).1 (V.scBL_sc _ hsc)
  have hs1 : SRel m1 0 w β H m1 ⟨[], T1, fun r => (H[r]?).getD none, []⟩ bare := by
    refine ⟨hs.hrel, rfl, fun k => by simp [lk, V.conv]; exact .undef _, hm1l, hm1nd, fun i r o hi hoi => ?_, by simp, fun r hr hn => by simp [hr], fun r hr => by simp [List.getElem?_eq_none hr], fun k r hk hm => by have := lt_of_get hm; omega, by simp, fun i o hoi => ?_, rfl, by simp⟩
    · have hil : i < ks.length := by have := lt_of_get hi; rw [hsub.1] at this; exact this
      have hk := List.getElem?_eq_getElem hil
      obtain ⟨r', h1, h2⟩ := hsub.2 i _ hk
      rw [hi] at h2
      injection h2 with h2
      subst h2
      obtain ⟨o', e1, e2, e3⟩ := hoo i _ hk
      simp only at hoi
      rw [e1] at hoi
      injection hoi with hoi
      subst hoi
      rw [hs.loc _ r _ h1 e2]
      simp only [Option.map_some]
      rw [HObj.ren_conv hsub o' e3]
    · have hil : i < ks.length := by have := lt_of_get hoi; simp only at this; omega
      obtain ⟨o', e1, e2, e3⟩ := hoo i _ (List.getElem?_eq_getElem hil)
      simp only at hoi ⊢
      rw [e1] at hoi
      injection hoi with hoi
      injection hoi with hoi
      subst hoi
      rw [← hol]
      exact e3
  obtain ⟨x, T1', v, w', β', H', m1', fr, hq, k1, k2, k3, k4, k5, k6⟩ := hf.2 w β H m1 _ vals cs hs1 (by rw [← hl, ha, V.renL_eq]; simp) (fun j y u hj hu => by
    have := hr j (y.ren ks) u (by rw [ha, V.renL_eq, List.getElem?_map, hj]; rfl) hu
    rwa [V.ren_conv hsub y (hargsc y (List.mem_of_getElem? hj))] at this)
  obtain ⟨hlive, h⟩ := h x T1' hq
  rw [setAllK_eq] at h
  rw [ldrop_eq] at hlive
  obtain ⟨ρ, hρ⟩ : ∃ ρ, ρ = subρ ks T.length T1' := ⟨_, rfl⟩
  rw [← hρ] at h
  -- the names behind the call
  have hpre : m1 = m1'.take m1.length := by have := k1.imp; rw [this]
  obtain ⟨new, hnew⟩ : ∃ new, m1' = m1 ++ new := ⟨m1'.drop m1.length, by conv => lhs; rw [← List.take_append_drop m1.length m1', ← hpre]⟩
  have hm1'l : m1'.length = T1'.length := k1.mlen
  have hks' : ks.length ≤ T1'.length := by rw [hnew] at hm1'l; simp at hm1'l; have := hsub.1; omega
  have hnl : new.length = T1'.length - ks.length := by rw [hnew] at hm1'l; simp at hm1'l; have := hsub.1; omega
  have hnget : ∀ j r, new[j]? = some r → m1'[ks.length + j]? = some r := fun j r hj => by
    rw [hnew, List.getElem?_append_right (by rw [hsub.1]; omega), hsub.1, Nat.add_sub_cancel_left]
    exact hj
  have hlen : H.length ≤ H'.length := k2.len
  have hfresh : ∀ r, r ∈ new → H.length ≤ r := fun r hr => by
    obtain ⟨j, hj⟩ := List.getElem?_of_mem hr
    have hm := hnget j r hj
    have hjl : ks.length + j < T1'.length := by have := lt_of_get hm; omega
    have hT := List.getElem?_eq_getElem hjl
    obtain ⟨o, ho⟩ := allLive_get hlive j _ (by rw [List.getElem?_drop]; exact hT)
    rw [ho] at hT
    have hH' := k1.loc _ r _ hm hT
    have hz := k1.own (ks.length + j) r (by rw [hsub.1]; omega) hm
    simp only at hz
    rcases Nat.lt_or_ge r H.length with h1 | h1
    · obtain ⟨o1, e1, _⟩ := k2.evo r _ h1 hH'
      rw [e1] at hz
      cases hz
    · exact h1
  have hρe : ρ = ks ++ rangeFrom T.length new.length := by rw [hρ]; unfold subρ; rw [lcount_eq, lcount_eq, hnl]; simp
  have hρl : ρ.length = T1'.length := by rw [hρe]; simp [rangeFrom_len]; omega
  obtain ⟨m', hm'⟩ : ∃ m', m' = m ++ new := ⟨_, rfl⟩
  have hm'l : m'.length = T.length + new.length := by rw [hm']; simp [hml]
  have hsub' : Sub ρ m' m1' := by
    refine ⟨by rw [hm1'l, hρl], fun i k hk => ?_⟩
    rw [hρe] at hk
    rcases Nat.lt_or_ge i ks.length with h1 | h1
    · rw [List.getElem?_append_left h1] at hk
      obtain ⟨r, e1, e2⟩ := hsub.2 i k hk
      exact ⟨r, by rw [hm', List.getElem?_append_left (lt_of_get e1)]; exact e1, by rw [hnew, List.getElem?_append_left (lt_of_get e2)]; exact e2⟩
    · rw [List.getElem?_append_right h1] at hk
      have hi := lt_of_get hk
      rw [rangeFrom_len] at hi
      rw [rangeFrom_get _ _ _ hi] at hk
      injection hk with hk
      subst hk
      refine ⟨new[i - ks.length], by rw [hm', List.getElem?_append_right (by omega), hml, Nat.add_sub_cancel_left]; exact List.getElem?_eq_getElem hi, ?_⟩
      rw [hnew, List.getElem?_append_right (by rw [hsub.1]; exact h1), hsub.1]
      exact List.getElem?_eq_getElem hi
  have hext : ∀ u : V, u.sc m.length → u.conv m' = u.conv m := fun u hu => by rw [hm']; exact V.conv_ext (Nat.le_refl _) u hu
  have hin : ∀ r, r ∈ m1' → r ∈ m1 ∨ r ∈ new := fun r hr => by rw [hnew] at hr; exact List.mem_append.1 hr
  have hold : ∀ r, r < H.length → r ∉ m1 → H'[r]? = H[r]? := fun r hr hn => by
    have hn' : r ∉ m1' := fun hm => by
      rcases hin r hm with h1 | h1
      · exact hn h1
      · have := hfresh r h1; omega
    rw [k1.base r (Nat.lt_of_lt_of_le hr hlen) hn']
    simp [hr]
  have hscT1 : ∀ (i : Nat) (o : HObj), T1'[i]? = some (some o) → o.sc ρ.length := fun i o ho => by rw [hρl]; exact k1.scT i o ho
  have hT2l : (setAll ρ ks T1' T).length = T.length + new.length := by rw [setAll_len _ _ _ _ hks', hnl]
  -- an object, handed over or new
  have hobj : ∀ (i k r : Nat) (o : Option HObj), ρ[i]? = some k → m'[k]? = some r → T1'[i]? = some o → H'[r]? = some ((omap ρ o).map (HObj.conv m')) := fun i k r o hi hk ho => by
    obtain ⟨r', e1, e2⟩ := hsub'.2 i k hi
    rw [hk] at e1
    injection e1 with e1
    subst e1
    rw [k1.loc i r o e2 ho]
    cases o with
    | none => rfl
    | some o => simp only [omap, Option.map_some]; rw [HObj.ren_conv hsub' o (hscT1 i o ho)]
  have hcase : ∀ k, k < T.length + new.length → (∃ i, ρ[i]? = some k ∧ (setAll ρ ks T1' T)[k]? = T1'[i]?.map (omap ρ)) ∨ (k < T.length ∧ k ∉ ks ∧ (setAll ρ ks T1' T)[k]? = T[k]?) := fun k hk => by
    rcases Nat.lt_or_ge k T.length with h1 | h1
    · by_cases hm : k ∈ ks
      · obtain ⟨i, hi⟩ := List.getElem?_of_mem hm
        exact .inl ⟨i, by rw [hρe, List.getElem?_append_left (lt_of_get hi)]; exact hi, setAll_at ρ ks T1' T hnd' hlt' hks' i k hi⟩
      · exact .inr ⟨h1, hm, setAll_other ρ ks T1' T hm h1⟩
    · refine .inl ⟨ks.length + (k - T.length), ?_, ?_⟩
      · rw [hρe, List.getElem?_append_right (by omega), Nat.add_sub_cancel_left, rangeFrom_get _ _ _ (by omega)]
        congr 1
        omega
      · have := setAll_new ρ ks T1' T hks' (k - T.length)
        rwa [Nat.add_sub_cancel' h1] at this
  refine ⟨_, _, v, w', β', H', m', fr, h, ?_, k2, by rw [V.ren_conv hsub' x (by rw [hρl, ← hm1'l]; exact sc_of_rep x k3)]; exact k3, k4, k5, k6, by rw [hm']; exact List.prefix_append _ _⟩
  refine ⟨k1.hrel, hs.size, fun k => ?_, by rw [hm'l, hT2l], ?_, fun k r o hk ho' => ?_, ?_, fun r hr hn => ?_, fun r hr => hs.fut r (Nat.le_trans hlen hr), fun k r hk hm => ?_, fun p hp => ?_, fun k o ho' => ?_, hs.defs, ?_⟩
  · simp only
    rw [hext _ (by have := lk_sc E k hs.scE; rwa [hml])]
    exact (hs.env k).mono k2
  · rw [hm']
    refine List.nodup_append.2 ⟨hs.nodup, ?_, fun a ha b hb e => ?_⟩
    · have := k1.nodup
      rw [hnew] at this
      exact (List.nodup_append.1 this).2.1
    · subst e
      obtain ⟨j, hj⟩ := List.getElem?_of_mem ha
      have := hs.lt hj
      have := hfresh _ hb
      omega
  · have hkl : k < T.length + new.length := by have := lt_of_get hk; omega
    simp only at ho'
    rcases hcase k hkl with ⟨i, e1, e2⟩ | ⟨e1, e2, e3⟩
    · rw [e2] at ho'
      rw [Option.map_eq_some_iff] at ho'
      obtain ⟨o1, e4, e5⟩ := ho'
      subst e5
      exact hobj i k r o1 e1 hk e4
    · rw [e3] at ho'
      have hkm : m[k]? = some r := by rw [hm', List.getElem?_append_left (by omega)] at hk; exact hk
      have hrn : r ∉ m1 := fun hm => by
        obtain ⟨i, k2', q1, q2, _⟩ := hmem r hm
        have := hs.inj q2 hkm
        subst this
        exact e2 (List.mem_of_getElem? q1)
      rw [hold r (hs.lt hkm) hrn, hs.loc k r o hkm ho']
      cases o with
      | none => rfl
      | some o =>
        simp only [Option.map_some, Option.some.injEq]
        have := hs.scT k o ho'
        rw [hm']
        exact (HObj.conv_ext (Nat.le_refl _) o (by rw [hml]; exact this)).symm
  · have := hs.imp
    rw [hm', List.take_append_of_le_length]
    · exact this
    · have := congrArg List.length this
      simp at this
      omega
  · simp only
    have hrm : r ∉ m := fun hm => hn (by rw [hm']; exact List.mem_append_left _ hm)
    have hrnew : r ∉ new := fun hm => hn (by rw [hm']; exact List.mem_append_right _ hm)
    have hr1 : r ∉ m1 := fun hm => by
      obtain ⟨i, k2', q1, q2, _⟩ := hmem r hm
      exact hrm (List.mem_of_getElem? q2)
    have hr1' : r ∉ m1' := fun hm => by rcases hin r hm with h1 | h1; exact hr1 h1; exact hrnew h1
    rw [k1.base r hr hr1']
    simp only
    rcases Nat.lt_or_ge r H.length with h1 | h1
    · rw [hs.base r h1 hrm]
      rfl
    · have e0 : c.B r = none := hs.fut r h1
      rw [e0, List.getElem?_eq_none h1]
      rfl
  · rcases Nat.lt_or_ge k m.length with h1 | h1
    · rw [hm', List.getElem?_append_left h1] at hm
      exact hs.own k r hk hm
    · rw [hm', List.getElem?_append_right h1] at hm
      exact hs.fut r (hfresh r (List.mem_of_getElem? hm))
  · simp only
    rw [hT2l]
    exact V.sc_mono (Nat.le_add_right _ _) _ (hs.scE p hp)
  · have hkl : k < T.length + new.length := by have := lt_of_get ho'; simp only at this; omega
    simp only at ho' ⊢
    rw [hT2l]
    rcases hcase k hkl with ⟨i, e1, e2⟩ | ⟨e1, e2, e3⟩
    · rw [e2, Option.map_eq_some_iff] at ho'
      obtain ⟨o1, e4, e5⟩ := ho'
      cases o1 with
      | none => cases e5
      | some o1 =>
        simp only [omap, Option.some.injEq] at e5
        subst e5
        rw [← hm'l]
        exact HObj.ren_sc hsub' o1 (hscT1 i o1 e4)
    · rw [e3] at ho'
      exact HObj.sc_mono (Nat.le_add_right _ _) _ (hs.scT k o ho')
  · intro j k hj
    obtain ⟨r', b, N, e1, e2, e3, e4⟩ := hs.marks j k hj
    have hkm : k < T.length := by have := lt_of_get e1; omega
    have hkn : k ∉ ks := fun hm => by
      have := List.all_eq_true.1 hD k (List.mem_of_getElem? hj)
      rw [(memN_iff _ _).2 hm] at this
      cases this
    have hr1 : r' ∉ m1 := fun hm => by
      obtain ⟨i, k2', q1, q2, _⟩ := hmem r' hm
      have := hs.inj q2 e1
      subst this
      exact hkn (List.mem_of_getElem? q1)
    have hH0 := hs.loc k r' _ e1 e2
    refine ⟨r', b, N, by rw [hm', List.getElem?_append_left (lt_of_get e1)]; exact e1, by simp only; rw [setAll_other ρ ks T1' T hkn hkm]; exact e2, ?_, e4⟩
    exact dfr_stays k2 (by simpa [HObj.conv] using hH0) e3 (by rw [hold r' (hs.lt e1) hr1, hH0]; rfl)

/-- A function's contract, out of its body's evaluation. -/
theorem fun_fn {P : Program} {f : FuncId} {fn : Func} {body : Code} {T : Heap} {args : List V} {Q : V → Heap → Prop} (n : Nat) (hf : P.funcs[f]? = some fn) (hn : (fn.name == "runtime.NumGoroutine") = false) (hb : fn.body = some body) (hnt : Nat.ble args.length fn.ntmps = true)
    (h : ∀ (imps : List Nat) (B : Base), imps.length = T.length → evp { P := P, nt := fn.ntmps, fn := f, ro := none, imps := imps, X := XR P imps fn.results B Q, B := B, D := [] } n [.code body] (env0 0 args) T) : Fun P f T args Q :=
  fun_of_goes hf hn hb hnt fun imps B hi => evp_sound _ _ _ _ _ (h imps B hi)

/-- What a call leaves, but for what nobody names: the first n objects. -/
def keepK (n : Nat) (x : V) (T : Heap) (Q : V → Heap → Prop) : Prop := ∃ T1, T1.length = n ∧ x.scB n = true ∧ heapIs n T T1 ∧ Q x T1
theorem fun_keep {P : Program} {f : FuncId} {T : Heap} {args : List V} {Q : V → Heap → Prop} (n : Nat) (hn : Nat.ble T.length n = true) (h : Fun P f T args fun x T' => keepK n x T' Q) : Fun P f T args Q := by
  unfold Fun at *
  refine ⟨h.1, fun w β H m B vals cs hs hl hr => ?_⟩
  obtain ⟨x, T', v, w', β', H', m', fr, ⟨T1, q1, q2, q3, q4⟩, k1, k2, k3, k4⟩ := h.2 w β H m B vals cs hs hl hr
  subst q1
  obtain ⟨T'', rfl, hsc⟩ := heapIs_eq q3
  have hml : m.length = T.length := hs.mlen
  obtain ⟨m2, H2, e1, e2, e3⟩ := SRel.dropTo T'' k1 (by rw [hml]; exact Nat.le_of_ble_eq_true hn) (by simp) hsc (by simp)
  refine ⟨x, T1, v, w', β', H2, m2, fr, q4, e1, k2.trans e2, ?_, k4⟩
  have hx := V.scB_sc x q2
  have : x.conv m2 = x.conv m' := by
    rw [e3]
    have hle : T1.length ≤ (m'.take T1.length).length := by
      have := k1.mlen
      simp at this ⊢
      omega
    conv => rhs; rw [← List.take_append_drop T1.length m']
    exact (V.conv_ext hle x hx).symm
  rw [this]
  exact k3.mono e2
end Bow
/- AE38: a row that grows for more; own slices cut; a nil slice as own memory. -/
namespace Bow
open Go

theorem run_append_zeros {P : Program} {w : World} {t t' e : TypeId} {i : TypeInfo} {z : Value} {kd kk : IntKind} (n : Nat) (ht : P.underlying t = some (.slice e)) (ht' : P.underlying t' = some (.int kd)) (hi : P.info? e = some i) (hz : i.zero = some z) (ty : TypeId)
    (_hzs : z.cells.size = i.size) (hsz : 0 < i.size) (h1 : 1 ≤ n) (h63 : n ≤ 9223372036854775807) (hb : n * i.bytes ≤ 281474976710656) (hfit : Builtin.nextslicecap n 0 * i.bytes ≤ 281474976710656) :
    (Builtin.append_ #[t, t'] ty #[.slice none 0 0, .int kk n]).run P w =
      .ok (.slice (some ⟨w.heap.size, 0, none⟩) n (grownCap w n 0 e)) (w.drew.alloc (.cells (Builtin.zeroCells z.cells n ++ Builtin.zeroCells z.cells (grownCap w n 0 e - n)) e)) := by
  have hn : ¬ (n ≤ 0) := by omega
  have hn0 : ¬ n = 0 := by omega
  have hs0 : ¬ i.size = 0 := by omega
  have e1 : IntKind.i64.max = 9223372036854775807 := by decide
  have hw : IntKind.i64.wrap (n : Int) = n := by
    rw [IntKind.wrap_i64]; omega
  have h48 : ¬ (281474976710656 < Builtin.nextslicecap n 0 * i.bytes) := by omega
  have hb' : ¬ (281474976710656 < (n : Int) * (i.bytes : Int)) := by
    have h : ((n * i.bytes : Nat) : Int) ≤ 281474976710656 := by omega
    rw [Int.natCast_mul] at h
    omega
  have h63' : ¬ ((9223372036854775807 : Int) < (n : Int)) := by omega
  have hneg : ¬ ((n : Int) < 0) := by omega
  simp [Builtin.append_, run_underlying ht, run_underlying ht', run_sizeOf' hi, typeInfo, zeroValue, hi, hz, hn0, h63', h48, hb', hneg, hw, Question.forced, newRow, grownCap, e1, asInt, asIntOf, Builtin.firstCells]
  intro h
  exact absurd h (Nat.ne_of_gt (Nat.mul_pos h1 hsz))

section
variable {c : Cx} {E : Env} {T : Heap} {ops : Array Oper} {i : Nat} {rest : List Nat} {k : List Item} {o : Oper}

theorem goes_cap0 {t e : TypeId} {x : Operand} (n : Nat) (ho : lget ops.toList i = some o) (hg : o.guard = none) (hop : o.op = .call { callee := .builtin .cap, args := #[x], argTypes := #[t] }) (hx : opd E x = .nilsl) (ht : tyU c.P t = some (.slice e))
    (h : putE c.nt o.dst (.int .i64 0) E False fun E' => evp c n (.inRegion ops rest :: k) E' T) : Goes c (.inRegion ops (i :: rest) :: k) E T := by
  refine goes_opTo n ho hg hop (OpTo.still fun o hop w β H m a hs => ⟨.int .i64 0, ?_, .int _ _⟩) (fun cl h => by cases h) h
  have hr := opd_rep hs x
  simp only [hx, V.conv] at hr
  generalize hq : a.eval x = q at hr
  cases hr
  simp [execOp, hop, resolve, invoke, builtin, Builtin.cap_, hq, run_underlying (tyU_sound ht), goInt]

theorem goes_nilcut {t e : TypeId} {x hi : Operand} {kk : IntKind} {ti : TypeInfo} (n : Nat) (ho : lget ops.toList i = some o) (hg : o.guard = none) (hop : o.op = .slice t x none (some hi) none) (hx : opd E x = .nilsl) (hh : opd E hi = .int kk 0) (ht : tyU c.P t = some (.slice e)) (hi' : tyI c.P e = some ti)
    (h : putE c.nt o.dst .nilsl E False fun E' => evp c n (.inRegion ops rest :: k) E' T) : Goes c (.inRegion ops (i :: rest) :: k) E T := by
  refine goes_opTo n ho hg hop (OpTo.still fun o hop w β H m a hs => ⟨.slice none 0 0, ?_, .nilsl⟩) (fun cl h => by cases h) h
  have hr := opd_rep hs x
  simp only [hx, V.conv] at hr
  have hr2 := rep_int (m := m) (by have := opd_rep hs hi; rwa [hh] at this)
  generalize hq : a.eval x = q at hr
  cases hr
  simp [execOp, hop, hq, hr2, Instr.sliceAt, Instr.slice, Instr.sliceBounds, Instr.sliceBound, asIntOf, run_underlying (tyU_sound ht), run_sizeOf' (tyI_sound hi')]

/-- The built-in append of so many zeros, onto nil. -/
theorem goes_growTo {t t' e : TypeId} {x y : Operand} {kd : IntKind} {ti : TypeInfo} {z : Value} (n N : Nat) (ho : lget ops.toList i = some o) (hg : o.guard = none) (hop : o.op = .call { callee := .builtin .append, args := #[x, y], argTypes := #[t, t'] }) (hx : opd E x = .nilsl) (hy : opd E y = .int .i64 N) (h1 : 1 ≤ N)
    (ht : tyU c.P t = some (.slice e)) (ht' : tyU c.P t' = some (.int kd)) (hi : tyI c.P e = some ti) (hz : ti.zero = some z) (hsz : (Nat.beq z.cells.size ti.size && Nat.ble 1 ti.size && Nat.ble 1 ti.bytes && onesB (ofVal z).cells && Nat.beq (lcount (ofVal z).cells 0) ti.size) = true) (hb : room N ti.bytes)
    (h : putE c.nt o.dst (.osl (.loc T.length) 0 0 N) E False fun E' => lsnoc T (some (.vec 0 ti.size (List.replicate N (ofVal z)))) fun T' => evp c n (.inRegion ops rest :: k) E' T') : Goes c (.inRegion ops (i :: rest) :: k) E T := by
  simp only [lsnoc_eq] at h
  simp only [Bool.and_eq_true, lcount_eq, Nat.add_zero] at hsz
  obtain ⟨⟨⟨⟨s1, s2⟩, s3⟩, s4⟩, s5⟩ := hsz
  have s1 := Nat.eq_of_beq_eq_true s1
  have s2 : 1 ≤ ti.size := Nat.le_of_ble_eq_true s2
  have s3 : 1 ≤ ti.bytes := Nat.le_of_ble_eq_true s3
  have s5 := Nat.eq_of_beq_eq_true s5
  unfold room at hb
  have hN : N ≤ 70368744177664 := Nat.le_trans (Nat.le_mul_of_pos_right N s3) hb
  refine goes_opTo n ho hg hop (fun o hop w β H m a hs => ?_) (fun cl h => by cases h) h
  have hr := opd_rep hs x
  simp only [hx, V.conv] at hr
  have e2 := rep_int (m := m) (by have := opd_rep hs y; rwa [hy] at this)
  generalize hq : a.eval x = q at hr
  cases hr
  have hrun := run_append_zeros (P := c.P) (w := w) (kk := .i64) N (tyU_sound ht) (tyU_sound ht') (tyI_sound hi) hz o.type s1 (by omega) h1 (by omega) (by omega) (growslice_fits (by omega) (by omega))
  have hge := grownCap_ge w N 0 e
  have hcm := grownCap_le_maxLen w N 0 e (by unfold maxLen; omega)
  obtain ⟨cap, hcap⟩ : ∃ cap, cap = grownCap w N 0 e := ⟨_, rfl⟩
  rw [← hcap] at hge hcm hrun
  have hzr : RowRep w β H (V.convL m (ofVal z).cells) z.cells.toList := ofVal_row m z
  have hzp : V.convL m (ofVal z).cells = (ofVal z).cells := by
    refine pureL_conv m _ ?_
    have key1 : ∀ v, (ofVal1 v).pureB = true := fun v => by
      unfold ofVal1
      split <;> first | rfl | skip
      cases (Nat.ble _ 1000000) <;> rfl
    have key : ∀ l : List Value, V.pureL (lmap ofVal1 l) = true := fun l => by
      induction l with
      | nil => rfl
      | cons x l ih => simp only [lmap, V.pureL, key1, ih, Bool.and_self]
    unfold ofVal
    split
    · exact key _
    · rw [ofVal1_cells]
      simp [V.pureL, key1]
  rw [hzp] at hzr
  have hsame : SRel c.imps c.nt w.drew β H m ⟨E, T, c.B, c.D⟩ a := hs.same (Fr.of_heap rfl rfl rfl rfl) (hs.hrel.of_heap rfl rfl rfl rfl)
  obtain ⟨cells, hcells⟩ : ∃ cells, cells = Builtin.zeroCells z.cells N ++ Builtin.zeroCells z.cells (cap - N) := ⟨_, rfl⟩
  rw [← hcells] at hrun
  have hcs : cells.size = cap * ti.size := by
    rw [hcells]
    simp only [Array.size_append, zeroCells_size', s1, ← Nat.add_mul]
    congr 1
    omega
  obtain ⟨β', H', k1, k2, k3⟩ := hsame.newVec 0 ti.size (List.replicate N (ofVal z)) cells e N cap (tyG_zero _) s2 (fun x hx => by rw [List.eq_of_mem_replicate hx]; exact ⟨s5, s4⟩) (by simp) hge hcm hcs.symm
    (fun ix x j cc v hx hj hv => by
      have hxl := lt_of_get hx
      rw [List.length_replicate] at hxl
      have hxe := List.eq_of_mem_replicate (List.mem_of_getElem? hx)
      subst hxe
      have hjl := lt_of_get hj
      have hlt : ix * ti.size + j < N * ti.size := by
        have : (ix + 1) * ti.size ≤ N * ti.size := Nat.mul_le_mul_right _ hxl
        rw [Nat.add_mul] at this
        omega
      rw [hcells, Array.getElem?_append_left (by rw [zeroCells_size', s1]; exact hlt)] at hv
      have hget : (Builtin.zeroCells z.cells N)[ix * ti.size + j]? = some z.cells[(ix * ti.size + j) % z.cells.size]! := by
        simp [Builtin.zeroCells, s1, hlt]
      rw [hget] at hv
      injection hv with hv
      have hmod : (ix * ti.size + j) % z.cells.size = j := by rw [s1, Nat.add_comm, Nat.add_mul_mod_self_right, Nat.mod_eq_of_lt (by omega)]
      rw [hmod] at hv
      refine (hzr.2 j cc v hj ?_).mono (Fr.of_heap rfl rfl rfl rfl)
      rw [← hv]
      have : j < z.cells.size := by omega
      simp [this])
  refine ⟨_, _, _, β', H', _, ?_, .inl rfl, k1, (show Fr w β H w.drew β H from Fr.of_heap rfl rfl rfl rfl).trans k2, k3, List.prefix_append _ _⟩
  rw [← hq, ← e2] at hrun
  simp [execOp, hop, resolve, invoke, builtin, hrun]

/-- An own slice, cut behind its first elements: of the next generation. -/
theorem goes_cut {t e : TypeId} {x hi : Operand} {kk : IntKind} {ti : TypeInfo} {kn g l sz h : Nat} {xs : List V} (n : Nat) (ho : lget ops.toList i = some o) (hg : o.guard = none) (hop : o.op = .slice t x none (some hi) none) (hx : opd E x = .osl (.loc kn) g 0 l) (hh : opd E hi = .int kk h) (ht : tyU c.P t = some (.slice e)) (hi' : tyI c.P e = some ti)
    (hk : lget T kn = some (some (.vec g sz xs))) (hle : h ≤ l)
    (hn : putE c.nt o.dst (.osl (.loc kn) (bump g) 0 h) E False fun E' => lset T kn (some (.vec (bump g) sz (xs.take h))) fun T' => evp c n (.inRegion ops rest :: k) E' T') : Goes c (.inRegion ops (i :: rest) :: k) E T := by
  simp only [lset_eq] at hn
  rw [lget_eq] at hk
  refine goes_opTo n ho hg hop (fun o hop w β H m a hs => ?_) (fun cl h => by cases h) hn
  have hv := opd_rep hs x
  obtain ⟨r, hr, hH⟩ := hs.at hk
  simp only [hx, V.conv, Ref.conv, hr] at hv
  simp only [HObj.conv] at hH
  have hob := hs.hrel.obj r _ hH
  have hrl := hs.lt hr
  have e2 := rep_int (m := m) (by have := opd_rep hs hi; rwa [hh] at this)
  have hvec2 : ∀ sz2 xs2, H[r]? = some (some (.vec g sz2 xs2)) → sz2 = sz ∧ xs2 = xs := fun sz2 xs2 h2 => by
    rw [hH] at h2
    injection h2 with h2
    injection h2 with h2
    injection h2 with _ e1 e2
    exact ⟨e1.symm, e2.symm⟩
  generalize hq : a.eval x = q at hv
  have hrun : ∀ (ad : Option Addr) (cap : Nat), q = .slice ad l cap → l ≤ cap → (execOp a.eval o).run c.P w = .ok (.value (.slice (if cap = 0 then ad else Option.map (fun x => x.add 0) ad) h cap)) w := by
    intro ad cap hqe hlc
    subst hqe
    have hhc : h ≤ cap := by omega
    simp [execOp, hop, hq, e2, Instr.sliceAt, Instr.slice, Instr.sliceBounds, Instr.sliceBound, asIntOf, run_underlying (tyU_sound ht), run_sizeOf' (tyI_sound hi'), hhc]
  cases hv with
  | oslNil _ _ sz2 xs2 ad hH' hβ =>
    rw [hβ] at hob
    have hxs : xs = [] := hob
    subst hxs
    obtain rfl : h = 0 := by omega
    have hfr : Fr w β H w (upd β r .nil) (H.set r (some (.vec (bump g) sz ([] : List V)))) := Fr.regen (lt_bump g) (by rw [hβ]; simp) hH rfl rfl rfl (Nat.le_refl _) (fun _ _ _ => rfl) (fun b N hb => by cases hb)
    have hrel : HRel w (upd β r .nil) (H.set r (some (.vec (bump g) sz ([] : List V)))) := hs.hrel.regen (lt_bump g) (by rw [hβ]; simp) hH rfl rfl rfl (Nat.le_refl _) (fun _ _ _ => rfl) (fun b N hb => by cases hb) rfl
    refine ⟨_, _, w, _, _, m, hrun ad 0 rfl (Nat.le_refl _), .inl rfl, by simpa using hs.regen hk hr hfr hrel, hfr, ?_, List.prefix_refl _⟩
    simp only [V.conv, Ref.conv, hr]
    exact .oslNil r _ sz [] _ (by simp [hrl]) (upd_same _ _ _)
  | oslBlk _ _ _ _ sz2 xs2 b N ad cap hH' hβ hl hN hcap ha hlen =>
    obtain ⟨rfl, rfl⟩ := hvec2 _ _ hH'
    rw [hβ] at hob
    obtain ⟨vs, et, _, h1, h2, h3, h4, h5, h6⟩ := hob
    have hl' : ∀ b' N', Loc.blk b N = Loc.blk b' N' → w.heap.size ≤ b' ∨ ∃ N2, β r = .blk b' N2 := fun b' N' hb' => by injection hb' with e1 e2; subst e1; exact .inr ⟨N, hβ⟩
    have hfr : Fr w β H w (upd β r (.blk b N)) (H.set r (some (.vec (bump g) sz2 (xs2.take h)))) := Fr.regen (lt_bump g) (by rw [hβ]; simp) hH rfl rfl rfl (Nat.le_refl _) (fun _ _ _ => rfl) hl'
    have hrel : HRel w (upd β r (.blk b N)) (H.set r (some (.vec (bump g) sz2 (xs2.take h)))) :=
      hs.hrel.regen (lt_bump g) (by rw [hβ]; simp) hH rfl rfl rfl (Nat.le_refl _) (fun _ _ _ => rfl) hl'
        ⟨vs, et, tyG_bump _ _, h1, h2, Nat.le_trans (Nat.mul_le_mul_right _ (by simp; omega)) h3, h4, fun x hx => h5 x (List.mem_of_mem_take hx), fun p x j c v hi hj hv => by
          rw [List.getElem?_take] at hi
          split at hi
          · exact (h6 p x j c v hi hj hv).mono hfr
          · cases hi⟩
    refine ⟨_, _, w, _, _, m, hrun ad cap rfl hl, .inl rfl, hs.regen hk hr hfr hrel, hfr, ?_, List.prefix_refl _⟩
    simp only [V.conv, Ref.conv, hr]
    exact .oslBlk r _ 0 _ sz2 (xs2.take h) b N _ _ (by simp [hrl]) (upd_same _ _ _) (by omega) hN hcap (fun hc => by
      rw [if_neg (by omega), ha hc]
      simp [at_add]) (by simp; omega)
  | oslStale _ _ _ _ g' sz' xs' _ hH' hg =>
    rw [hH] at hH'
    injection hH' with hH'
    injection hH' with hH'
    injection hH' with e0 _ _
    omega
  | oslDead _ _ _ _ _ hd => rw [hH] at hd; cases hd
end

/-- A nil slice, as own memory. -/
theorem goes_own {c : Cx} {todo : List Item} {E : Env} {T : Heap} (t sz : Nat) (hx : lk E t = .nilsl) (h : Goes c todo ((t, .osl (.loc T.length) 0 0 0) :: E) (T ++ [some (.vec 0 sz [])])) : Goes c todo E T := by
  refine goes_step fun w β H m a b cs hs _ _ _ => ?_
  obtain ⟨β', H', k1, k2, k3⟩ := hs.newNil 0 sz none
  have hr := hs.env t
  simp only [hx, V.conv] at hr
  generalize hq : a.tmps.getD t Go.undef = q at hr
  cases hr
  refine ⟨w, β', H', m ++ [H.length], a, todo, ⟨(t, .osl (.loc T.length) 0 0 0) :: E, T ++ [some (.vec 0 sz [])], c.B, c.D⟩, .refl _ _, ?_, k2, h⟩
  refine { k1 with env := fun j => ?_, scE := fun p hp => ?_ }
  · simp only [lk]
    cases hb : Nat.beq t j with
    | false => exact k1.env j
    | true =>
      obtain rfl := Nat.eq_of_beq_eq_true hb
      simp only [cond_true, hq]
      exact k3
  · simp only [List.mem_cons] at hp
    rcases hp with rfl | hp
    · show T.length < (T ++ _).length
      simp
    · exact k1.scE p hp
end Bow
/- W2: trees measured. -/
namespace Bow
open Go Go.Proofs

/-- The text of a node: its attributes' part is summed up round by round. -/
theorem attrLen_drop {l : List (List UInt8 × List UInt8)} {i : Nat} (h : i < l.length) : attrLen (l.drop i) = l[i].1.length + l[i].2.length + attrLen (l.drop (i + 1)) := by rw [drop_cons h, attrLen_cons]

end Bow
/- W3: trees measured, more. -/
namespace Bow
open Go Go.Proofs

end Bow
/- W4: Weight. -/
namespace Bow
open Go Go.Proofs

theorem not_lt_of {a b : Int} (h : decide (a < b) = false) : b ≤ a := by simpa using h
theorem lt_of {a b : Int} (h : decide (a < b) = true) : a < b := by simpa using h
theorem le_of {a b : Int} (h : decide (a ≤ b) = true) : a ≤ b := by simpa using h
theorem not_le_of {a b : Int} (h : decide (a ≤ b) = false) : b < a := by simpa using h
theorem eq_of {a b : Int} (h : decide (a = b) = true) : a = b := by simpa using h
theorem ne_of {a b : Int} (h : decide (a = b) = false) : a ≠ b := by simpa using h
theorem ne_of' {a b : Int} (h : (!decide (a = b)) = true) : a ≠ b := by simpa using h
theorem eq_of' {a b : Int} (h : (!decide (a = b)) = false) : a = b := by simpa using h

set_option maxRecDepth 100000 in
theorem w_Weight (t : Tree) : ∀ top : Nat, top ≤ 1000000 → Pure Tryz.prog 42 [nodeV t, .int .i64 top] (fun x => ∃ w : Nat, x = .int .i64 w ∧ 1 ≤ w ∧ w ≤ 4 * top + 4 ∧ (w ≤ top → t.weight ≤ w)) := by
  induction t using Tree.ind with
  | _ t ih =>
    intro top htop
    have hw := weight_eq t
    refine pure_fn 200 Tryz.func42 rfl rfl rfl fun B => ?_
    have early : ∃ w : Nat, V.int .i64 ((top : Int) + 1) = .int .i64 w ∧ 1 ≤ w ∧ w ≤ 4 * top + 4 ∧ (w ≤ top → t.weight ≤ w) := ⟨top + 1, rfl, by omega, by omega, fun h => by omega⟩
    have hin : inI ((top : Int) + 1) := by constructor <;> omega
    refine ⟨fun g1 => go 200 ?_, fun g1 => go 200 ?_⟩
    · exact ⟨hin, trivial, rfl, rfl, rfl, early⟩
    refine ⟨fun g2 => go 200 ?_, fun g2 => go 200 ?_⟩
    · exact ⟨hin, trivial, rfl, rfl, rfl, early⟩
    refine ⟨fun g3 => go 200 ?_, fun g3 => go 200 ?_⟩
    · exact ⟨hin, trivial, rfl, rfl, rfl, early⟩
    have g1 := not_lt_of g1
    have g2 := not_lt_of g2
    have g3 := not_lt_of g3
    simp only [List.length_map] at g3
    refine ⟨by constructor <;> omega, by constructor <;> omega, ?_⟩
    show Goes _ _ _ _
    refine goes_while (ι := Nat × Nat) (fun i => i.1 ≤ t.attrs.length ∧ 1 ≤ i.2 ∧ i.2 ≤ 3 * top + 1 ∧ (i.2 ≤ top → 1 + t.label.length + t.text.length + (t.attrs.length + attrLen t.attrs) ≤ i.2 + (t.attrs.length - i.1) + attrLen (t.attrs.drop i.1))) (fun i => t.attrs.length - i.1)
      (fun i => [(6, .int .i64 i.1), (5, .int .i64 i.2), (1, .int .i64 top), (2, .ptr (.loc 0) 0)]) (fun i => [some (.box (nodeV t).cells)]) (0, 1 + t.label.length + t.text.length)
      (fun w : Nat => 1 ≤ w ∧ w ≤ 3 * top + 1 ∧ (w ≤ top → 1 + t.label.length + t.text.length + (t.attrs.length + attrLen t.attrs) ≤ w)) (fun w => [(5, .int .i64 w), (1, .int .i64 top), (2, .ptr (.loc 0) 0)]) (fun _ => [some (.box (nodeV t).cells)])
      200 (fun _ => rfl) (fun _ => rfl) (fun _ => rfl) (fun _ => rfl) ⟨?_, ?_, ?_⟩ ?_ ?_
    · exact ⟨Nat.zero_le _, by simp only; omega, by simp only; omega, fun _ => by simp only [List.drop_zero]; omega⟩
    · exact ⟨⟨rfl, rfl⟩, ⟨by simp only [lk]; rfl, rfl⟩, ⟨rfl, rfl⟩, ⟨rfl, rfl⟩, trivial⟩
    · exact ⟨⟨rfl, rfl⟩, trivial⟩
    · -- the nodes below
      rintro w0 ⟨q1, q2, q3⟩
      show Goes _ _ _ _
      refine goes_iter (ι := Nat × Nat) (fun i => i.1 ≤ t.subs.length ∧ i.1 + 1 ≤ i.2 ∧ i.2 ≤ 4 * top + 4 ∧ (i.2 ≤ top → t.weight ≤ i.2 + weights (t.subs.drop i.1))) (fun i => t.subs.length - i.1)
        (fun i => [(7, .int .i64 i.1), (5, .int .i64 i.2), (1, .int .i64 top), (2, .ptr (.loc 0) 0)]) (fun i => [some (.box (nodeV t).cells)]) (0, w0) 200 (fun _ => rfl) (fun _ => rfl) ⟨?_, ?_, ?_⟩ ?_
      · exact ⟨Nat.zero_le _, by simpa using q1, by simp only; omega, fun h => by simp only [List.drop_zero]; simp only at h; have := q3 h; omega⟩
      · exact ⟨⟨rfl, rfl⟩, ⟨rfl, rfl⟩, ⟨rfl, rfl⟩, ⟨rfl, rfl⟩, trivial⟩
      · exact ⟨⟨rfl, rfl⟩, trivial⟩
      · rintro ⟨i, w⟩ ⟨k1, k2, k3, k4⟩ next
        simp only at k1 k2 k3 k4
        refine ⟨fun hlt => go 200 ?_, fun hge => go 200 ?_⟩
        · have hi : i < t.subs.length := by simpa [subV_eq] using hlt
          have hmem : t.subs[i] ∈ t.subs := List.getElem_mem hi
          have hx : t.subV[i]? = some (nodeV t.subs[i]) := by simp [subV_eq, hi]
          refine ⟨fun h5 => go 200 ?_, fun h5 => go 200 ?_⟩
          · have h5 : (w : Int) ≤ top := le_of h5
            have h5' : w ≤ top := by omega
            rw [drop_cons hi, weights_cons] at k4
            refine ⟨Int.natCast_nonneg i, nodeV t.subs[i], hx, ?_⟩
            refine ⟨by constructor <;> omega, ?_⟩
            show CallThen _ _ _ _ _ _
            have hsub : (top : Int) - w = ((top - w : Nat) : Int) := by omega
            rw [hsub]
            refine call_pure (ih _ hmem (top - w) (by omega)) rfl ?_
            rintro x ⟨v, rfl, v0, v1, v2⟩
            refine ⟨by constructor <;> omega, ?_⟩
            refine ⟨by constructor <;> omega, ?_⟩
            show Goes _ _ _ _
            refine next (i + 1, w + v) _ _ ⟨⟨hi, by simp only; omega, by simp only; omega, fun h => ?_⟩, ?_, ?_, ?_⟩
            · have h : w + v ≤ top := h
              have := v2 (by omega)
              have := k4 h5'
              simp only
              omega
            · simp only; omega
            · exact ⟨⟨rfl, rfl⟩, ⟨rfl, rfl⟩, ⟨rfl, rfl⟩, ⟨rfl, rfl⟩, trivial⟩
            · exact ⟨⟨rfl, rfl⟩, trivial⟩
          · have h5 : ¬ (w : Int) ≤ top := by simpa using h5
            exact ⟨trivial, rfl, rfl, rfl, w, rfl, by omega, k3, fun h => by omega⟩
        · have hi : t.subs.length ≤ i := by simpa [subV_eq] using hge
          rw [List.drop_eq_nil_of_le hi, weights, Nat.add_zero] at k4
          exact ⟨trivial, rfl, rfl, rfl, w, rfl, by omega, k3, k4⟩
    · rintro ⟨i, w⟩ ⟨k1, k2, k3, k4⟩ next leave
      simp only at k1 k2 k3 k4
      refine ⟨fun hlt => go 200 ?_, fun hge => go 200 ?_⟩
      · have hi : i < t.attrs.length := by simpa using hlt
        have hix : (t.attrs.map attrV)[i]? = some (attrV t.attrs[i]) := by simp [hi]
        refine ⟨fun h5 => go 200 ?_, fun h5 => go 200 ?_⟩
        · have h5 := le_of h5
          rw [attrLen_drop hi] at k4
          refine ⟨Int.natCast_nonneg i, attrV t.attrs[i], hix, ?_⟩
          refine ⟨fun h6 => go 200 ?_, fun h6 => go 200 ?_⟩
          · exact ⟨hin, trivial, rfl, rfl, rfl, early⟩
          refine ⟨Int.natCast_nonneg i, attrV t.attrs[i], hix, ?_⟩
          refine ⟨fun h7 => go 200 ?_, fun h7 => go 200 ?_⟩
          · exact ⟨hin, trivial, rfl, rfl, rfl, early⟩
          have h6 := not_lt_of h6
          have h7 := not_lt_of h7
          show Goes _ _ _ _
          refine goes_draw 300 ?_
          refine ⟨by constructor <;> omega, ?_⟩
          refine ⟨Int.natCast_nonneg i, attrV t.attrs[i], hix, ?_⟩
          refine ⟨by constructor <;> omega, ?_⟩
          refine ⟨Int.natCast_nonneg i, attrV t.attrs[i], hix, ?_⟩
          refine ⟨by constructor <;> omega, ?_⟩
          refine ⟨by kernel_rfl, ?_⟩
          refine ⟨by constructor <;> omega, ?_⟩
          show Goes _ _ _ _
          refine next (i + 1, w + 1 + t.attrs[i].1.length + t.attrs[i].2.length) _ _ ⟨⟨hi, ?_, ?_, ?_⟩, ?_, ?_, ?_⟩
          · simp only; omega
          · simp only; omega
          · simp only; omega
          · simp only; omega
          · exact ⟨⟨rfl, rfl⟩, ⟨rfl, rfl⟩, ⟨rfl, rfl⟩, ⟨rfl, rfl⟩, trivial⟩
          · exact ⟨⟨rfl, rfl⟩, trivial⟩
        · have h5 : ¬ (w : Int) ≤ top := by simpa using h5
          exact leave w _ _ _ rfl ⟨⟨k2, k3, fun h => by omega⟩, ⟨⟨rfl, rfl⟩, ⟨rfl, rfl⟩, ⟨rfl, rfl⟩, trivial⟩, ⟨⟨rfl, rfl⟩, trivial⟩⟩
      · have hi : t.attrs.length ≤ i := by simpa using hge
        simp only [List.drop_eq_nil_of_le hi, attrLen, List.foldr_nil] at k4
        exact leave w _ _ _ rfl ⟨⟨k2, k3, fun h => by have := k4 h; unfold attrLen; omega⟩, ⟨⟨rfl, rfl⟩, ⟨rfl, rfl⟩, ⟨rfl, rfl⟩, trivial⟩, ⟨⟨rfl, rfl⟩, trivial⟩⟩
end Bow
/- W5: limits.Check; the trees of the chapter's examples. -/
namespace Bow
open Go Go.Proofs

/-! ### The examples' trees -/
def zeroT (ss : List Tree) : Tree := .mk 0 false [] [] [] ss
/-- As a literal lays it: what it does not name is nil. -/
def zeroV (k : V) : V := .agg [.int .u64 0, .ff, .str [], .nilsl, .str [], k]
theorem wk_zero {k : V} {ss : List Tree} (h : Wk k (.sl 6 (ss.map nodeV))) : Wk (zeroV k) (nodeV (zeroT ss)) := by
  refine Wk.agg ⟨.refl _, Wk.ff, .refl _, Wk.nil 2, .refl _, ?_, trivial⟩
  rw [subV_eq]
  exact h
theorem okE_node (t : Tree) : okE 6 (nodeV t) := ⟨rfl, rfl⟩
end Bow
/- W6: which operations are formed. -/
namespace Bow
open Go Go.Proofs

theorem w_May1 (n : Int) : Pure Tryz.prog 163 [intV n] (fun x => x = .bool (!stepOk n)) := by
  refine pure_wk (pure_fn 100 Tryz.func163 rfl rfl rfl fun B => ?_)
  refine ⟨fun g1 => go 200 ?_, fun g1 => go 200 ?_⟩
  · have g1 := lt_of g1
    exact ⟨trivial, rfl, rfl, rfl, leaf_tt (by unfold stepOk; rw [decide_eq_false (by omega)]; rfl)⟩
  · have g1 := not_lt_of g1
    refine ⟨trivial, rfl, rfl, rfl, leaf_b ?_⟩
    unfold stepOk
    rw [decide_eq_true (p := 0 ≤ n) (by omega), Bool.true_and]
    by_cases h : n < 1048576
    · rw [decide_eq_true h, decide_eq_false (by omega)]; rfl
    · rw [decide_eq_false h, decide_eq_true (by omega)]; rfl

/-- The first place where a predicate holds, or -1. -/
def findIx (f : Int → Bool) : Nat → List Int → Int
  | _, [] => -1
  | i, x :: xs => bif f x then i else findIx f (i + 1) xs
theorem findIx_any (f : Int → Bool) : ∀ (xs : List Int) (i : Nat), decide (0 ≤ findIx f i xs) = xs.any f
  | [], i => by simp [findIx]
  | x :: xs, i => by
    rw [findIx, List.any_cons]
    cases h : f x with
    | true => simp
    | false => simpa using findIx_any f xs (i + 1)

set_option maxRecDepth 100000 in
theorem w_IndexInt (f : Int → Bool) (g : FuncId) (xs : List Int) (hl : xs.length ≤ 1000000) (hg : ∀ n, Pure Tryz.prog g [intV n] (fun x => x = .bool (f n))) :
    Pure Tryz.prog 201 [pathV xs, .fn (.func g) [] []] (fun x => x = .int .i64 (findIx f 0 xs)) := by
  refine pure_fn 100 Tryz.func201 rfl rfl rfl fun B => ?_
  show Goes _ _ _ _
  refine goes_iter (ι := Nat) (fun i => i ≤ xs.length ∧ findIx f i (xs.drop i) = findIx f 0 xs) (fun i => xs.length - i) (fun i => [(8, .int .i64 i), (7, .int .i64 (xs.map intV).length), (1, .fn (.func g) [] []), (0, pathV xs)]) (fun _ => []) 0 200 (fun _ => rfl) (fun _ => rfl) ⟨⟨Nat.zero_le _, rfl⟩, ?_, ?_⟩ ?_
  · exact ⟨⟨rfl, rfl⟩, ⟨rfl, rfl⟩, ⟨rfl, rfl⟩, ⟨rfl, rfl⟩, trivial⟩
  · trivial
  · rintro i ⟨h1, h2⟩ next
    refine ⟨fun hlt => go 200 ?_, fun hge => go 200 ?_⟩
    · have hi : i < xs.length := by simpa using hlt
      have hx : (xs.map intV)[i]? = some (intV xs[i]) := by simp [hi]
      rw [drop_cons hi, findIx] at h2
      refine ⟨Int.natCast_nonneg i, _, hx, ?_⟩
      show CallThen _ _ _ _ _ _
      refine call_pure (hg xs[i]) rfl ?_
      rintro x rfl
      refine ⟨fun h => go 200 ?_, fun h => go 200 ?_⟩
      · rw [h] at h2
        exact ⟨trivial, rfl, rfl, rfl, by rw [← h2]; rfl⟩
      · rw [h] at h2
        refine ⟨by constructor <;> omega, ?_⟩
        show Goes _ _ _ _
        exact next (i + 1) _ _ ⟨⟨hi, h2⟩, by omega, ⟨⟨rfl, rfl⟩, ⟨rfl, rfl⟩, ⟨rfl, rfl⟩, ⟨rfl, rfl⟩, trivial⟩, trivial⟩
    · have hi : xs.length ≤ i := by simpa using hge
      rw [List.drop_eq_nil_of_le hi] at h2
      exact ⟨trivial, rfl, rfl, rfl, by rw [← h2]; rfl⟩

theorem w_ContainsInt (f : Int → Bool) (g : FuncId) (xs : List Int) (hl : xs.length ≤ 1000000) (hg : ∀ n, Pure Tryz.prog g [intV n] (fun x => x = .bool (f n))) :
    Pure Tryz.prog 162 [pathV xs, .fn (.func g) [] []] (fun x => x = .bool (xs.any f)) := by
  refine pure_fn 100 Tryz.func162 rfl rfl rfl fun B => ?_
  show CallThen _ _ _ _ _ _
  refine call_pure (w_IndexInt f g xs hl hg) rfl ?_
  rintro x rfl
  exact ⟨trivial, rfl, rfl, rfl, by rw [← findIx_any f xs 0]; rfl⟩

theorem any_not_all (xs : List Int) : (xs.any fun n => !stepOk n) = !xs.all stepOk := by
  induction xs with
  | nil => rfl
  | cons x xs ih => simp [ih]

theorem w_May (p : List Int) : Pure Tryz.prog 111 [pathV p] (fun x => x = .bool (mayP p)) := by
  refine pure_wk (pure_fn 100 Tryz.func111 rfl rfl rfl fun B => ?_)
  refine ⟨fun g1 => go 200 ?_, fun g1 => go 200 ?_⟩
  · have g1 : p.length ≤ 64 := by have := le_of g1; simp at this; omega
    show CallThen _ _ _ _ _ _
    refine call_pure (w_ContainsInt (fun n => !stepOk n) _ p (by omega) w_May1) rfl ?_
    rintro x rfl
    exact ⟨trivial, rfl, rfl, rfl, leaf_b (by rw [any_not_all]; simp [mayP, g1])⟩
  · have g1 : 64 < p.length := by have := not_le_of g1; simp at this; omega
    exact ⟨trivial, rfl, rfl, rfl, leaf_ff (by unfold mayP; rw [decide_eq_false (by omega)]; rfl)⟩

theorem w_Key (s : List UInt8) : Pure Tryz.prog 112 [.str s] (fun x => x = .bool (keyOk s)) := by
  refine pure_wk (pure_fn 100 Tryz.func112 rfl rfl rfl fun B => ?_)
  refine ⟨fun g1 => go 200 ?_, fun g1 => go 200 ?_⟩
  · have g1 : s ≠ [] := by simpa using g1
    have : 0 < s.length := List.length_pos_iff.2 g1
    exact ⟨trivial, rfl, rfl, rfl, leaf_b (by unfold keyOk; rw [decide_eq_true (p := 1 ≤ s.length) (by omega), Bool.true_and]; simp; omega)⟩
  · have g1 : s = [] := by simpa using g1
    exact ⟨trivial, rfl, rfl, rfl, leaf_ff (by rw [g1]; rfl)⟩
theorem w_refKey (s : List UInt8) : Pure Tryz.prog 115 [.str s] (fun x => x = .bool (keyOk s)) := by
  refine pure_wk (pure_fn 100 Tryz.func115 rfl rfl rfl fun B => ?_)
  refine ⟨fun g1 => go 200 ?_, fun g1 => go 200 ?_⟩
  · have g1 : (1 : Int) ≤ s.length := by simpa using g1
    exact ⟨trivial, rfl, rfl, rfl, leaf_b (by unfold keyOk; rw [decide_eq_true (p := 1 ≤ s.length) (by omega), Bool.true_and]; simp; omega)⟩
  · have g1 : ¬ (1 : Int) ≤ s.length := by simpa using g1
    exact ⟨trivial, rfl, rfl, rfl, leaf_ff (by unfold keyOk; rw [decide_eq_false (p := 1 ≤ s.length) (by omega)]; rfl)⟩
end Bow
/- W7: pieces that are right; Formed. -/
namespace Bow
open Go Go.Proofs

theorem may_cons_drop (p : List Int) (i : Nat) (h : i < p.length) : (p.drop i).all stepOk = (stepOk p[i] && (p.drop (i + 1)).all stepOk) := by rw [drop_cons h, List.all_cons]

set_option maxRecDepth 100000 in
theorem w_refMay (p : List Int) (hp : p.length ≤ 1000000) : Pure Tryz.prog 114 [pathV p] (fun x => x = .bool (mayP p)) := by
  refine pure_wk (pure_fn 100 Tryz.func114 rfl rfl rfl fun B => ?_)
  show Goes _ _ _ _
  refine goes_iter (ι := Nat) (fun i => i ≤ p.length ∧ i ≤ 64 ∧ mayP p = (decide (p.length ≤ 64) && (p.drop i).all stepOk)) (fun i => p.length - i) (fun i => [(3, .int .i64 i), (0, pathV p)]) (fun _ => []) 0 200 (fun _ => rfl) (fun _ => rfl) ⟨⟨Nat.zero_le _, Nat.zero_le _, rfl⟩, ?_, ?_⟩ ?_
  · exact ⟨⟨rfl, rfl⟩, ⟨rfl, rfl⟩, trivial⟩
  · trivial
  · rintro i ⟨h1, h3, h2⟩ next
    refine ⟨fun hlt => go 200 ?_, fun hge => go 200 ?_⟩
    · have hi : i < p.length := by simpa using hlt
      have hx : (p.map intV)[i]? = some (intV p[i]) := by simp [hi]
      rw [may_cons_drop p i hi] at h2
      refine ⟨fun g1 => go 200 ?_, fun g1 => go 200 ?_⟩
      · have g1 : (64 : Int) ≤ i := by simpa using g1
        exact ⟨trivial, rfl, rfl, rfl, leaf_ff (by rw [h2, decide_eq_false (p := p.length ≤ 64) (by omega)]; rfl)⟩
      have g1 : ¬ (64 : Int) ≤ i := by simpa using g1
      refine ⟨Int.natCast_nonneg i, _, hx, ?_⟩
      refine ⟨fun g2 => go 200 ?_, fun g2 => go 200 ?_⟩
      · have g2 := lt_of g2
        exact ⟨trivial, rfl, rfl, rfl, leaf_ff (by rw [h2]; unfold stepOk; rw [decide_eq_false (p := 0 ≤ p[i]) (by omega)]; simp)⟩
      have g2 := not_lt_of g2
      refine ⟨Int.natCast_nonneg i, _, hx, ?_⟩
      refine ⟨fun g3 => go 200 ?_, fun g3 => go 200 ?_⟩
      · have g3 := le_of g3
        exact ⟨trivial, rfl, rfl, rfl, leaf_ff (by rw [h2]; unfold stepOk; rw [decide_eq_false (p := p[i] < 1048576) (by omega)]; simp)⟩
      have g3 := not_le_of g3
      refine ⟨by constructor <;> omega, ?_⟩
      show Goes _ _ _ _
      refine next (i + 1) _ _ ⟨⟨hi, by omega, ?_⟩, by omega, ⟨⟨rfl, rfl⟩, ⟨rfl, rfl⟩, trivial⟩, trivial⟩
      have : stepOk p[i] = true := by unfold stepOk; rw [decide_eq_true (by omega), decide_eq_true (by omega)]; rfl
      rw [h2, this, Bool.true_and]
    · have hi : p.length ≤ i := by simpa using hge
      rw [List.drop_eq_nil_of_le hi] at h2
      exact ⟨trivial, rfl, rfl, rfl, leaf_tt (by rw [h2, decide_eq_true (p := p.length ≤ 64) (by omega)]; rfl)⟩

theorem rightGo_bad {n : Nat} {p : PieceT} {l : List PieceT} (h : p.keep < 0 ∨ 1048576 < p.keep ∨ p.drop < 0 ∨ 1048576 < p.drop ∨ 1048576 < n + p.put.length) : rightGo n (p :: l) = false := by
  rw [rightGo]
  rcases h with h | h | h | h | h
  · rw [decide_eq_false (p := 0 ≤ p.keep) (by omega)]; rfl
  · rw [decide_eq_false (p := p.keep ≤ 1048576) (by omega)]; simp
  · rw [decide_eq_false (p := 0 ≤ p.drop) (by omega)]; simp
  · rw [decide_eq_false (p := p.drop ≤ 1048576) (by omega)]; simp
  · rw [decide_eq_false (p := n + p.put.length ≤ 1048576) (by omega)]; simp
theorem rightGo_good {n : Nat} {p : PieceT} {l : List PieceT} (h1 : 0 ≤ p.keep) (h2 : p.keep ≤ 1048576) (h3 : 0 ≤ p.drop) (h4 : p.drop ≤ 1048576) (h5 : n + p.put.length ≤ 1048576) : rightGo n (p :: l) = rightGo (n + p.put.length) l := by
  rw [rightGo, decide_eq_true h1, decide_eq_true h2, decide_eq_true h3, decide_eq_true h4, decide_eq_true h5]
  rfl

set_option maxRecDepth 100000 in
theorem w_RightW (l : List PieceT) (hl : l.length ≤ 1000000000000) (hpl : ∀ p ∈ l, p.put.length ≤ 1000000000000) : Pure Tryz.prog 113 [piecesV l] (fun x => x = .bool (rightP l)) := by
  refine pure_wk (pure_fn 100 Tryz.func113 rfl rfl rfl fun B => ?_)
  refine ⟨fun g0 => go 200 ?_, fun g0 => go 200 ?_⟩
  · have g0 : 4096 < l.length := by have := lt_of g0; simp at this; omega
    exact ⟨trivial, rfl, rfl, rfl, leaf_ff (by unfold rightP; rw [decide_eq_false (by omega)]; rfl)⟩
  have g0 : l.length ≤ 4096 := by have := not_lt_of g0; simp at this; omega
  show Goes _ _ _ _
  refine goes_iter (ι := Nat × Nat) (fun i => i.1 ≤ l.length ∧ i.2 ≤ 1048576 ∧ rightP l = rightGo i.2 (l.drop i.1)) (fun i => l.length - i.1) (fun i => [(11, .int .i64 i.1), (10, .int .i64 (l.map pieceV).length), (9, piecesV l), (3, .int .i64 i.2)]) (fun _ => []) (0, 0) 200 (fun _ => rfl) (fun _ => rfl) ⟨⟨Nat.zero_le _, Nat.zero_le _, ?_⟩, ?_, ?_⟩ ?_
  · unfold rightP
    rw [decide_eq_true g0]
    rfl
  · exact ⟨⟨rfl, rfl⟩, ⟨rfl, rfl⟩, ⟨rfl, rfl⟩, ⟨rfl, rfl⟩, trivial⟩
  · trivial
  · rintro ⟨i, n⟩ ⟨h1, h3, h2⟩ next
    simp only at h1 h2 h3
    refine ⟨fun hlt => go 200 ?_, fun hge => go 200 ?_⟩
    · have hi : i < l.length := by simpa using hlt
      have hx : (l.map pieceV)[i]? = some (pieceV l[i]) := by simp [hi]
      have hput := hpl l[i] (List.getElem_mem hi)
      rw [drop_cons hi] at h2
      refine ⟨Int.natCast_nonneg i, _, hx, ?_⟩
      refine ⟨fun g1 => go 200 ?_, fun g1 => go 200 ?_⟩
      · have g1 := lt_of g1
        refine ⟨trivial, rfl, rfl, rfl, leaf_ff ?_⟩
        rw [h2]
        refine rightGo_bad ?_
        split at g1 <;> omega
      have g1 := not_lt_of g1
      have q1 : 0 ≤ (l[i]).keep ∧ 0 ≤ (l[i]).drop := by split at g1 <;> omega
      refine ⟨fun g2 => go 200 ?_, fun g2 => go 200 ?_⟩
      · have g2 := lt_of g2
        refine ⟨trivial, rfl, rfl, rfl, leaf_ff ?_⟩
        rw [h2]
        refine rightGo_bad ?_
        split at g2 <;> omega
      have g2 := not_lt_of g2
      have q2 : (l[i]).keep ≤ 1048576 ∧ (l[i]).drop ≤ 1048576 := by split at g2 <;> omega
      refine ⟨by constructor <;> omega, ?_⟩
      refine ⟨fun g3 => go 200 ?_, fun g3 => go 200 ?_⟩
      · have g3 := lt_of g3
        refine ⟨trivial, rfl, rfl, rfl, leaf_ff ?_⟩
        rw [h2]
        exact rightGo_bad (by omega)
      have g3 := not_lt_of g3
      refine ⟨by constructor <;> omega, ?_⟩
      refine ⟨by constructor <;> omega, ?_⟩
      show Goes _ _ _ _
      refine next (i + 1, n + (l[i]).put.length) _ _ ⟨⟨hi, by simp only; omega, ?_⟩, ?_, ⟨⟨rfl, rfl⟩, ⟨rfl, rfl⟩, ⟨rfl, rfl⟩, ⟨rfl, rfl⟩, trivial⟩, trivial⟩
      · rw [h2]
        exact rightGo_good q1.1 q2.1 q1.2 q2.2 (by omega)
      · simp only; omega
    · have hi : l.length ≤ i := by simpa using hge
      rw [List.drop_eq_nil_of_le hi] at h2
      exact ⟨trivial, rfl, rfl, rfl, leaf_tt h2⟩
theorem w_Right (l : List PieceT) (hl : l.length ≤ 1000000) (hpl : ∀ p ∈ l, p.put.length ≤ 1000000000) : Pure Tryz.prog 113 [piecesV l] (fun x => x = .bool (rightP l)) :=
  w_RightW l (by omega) fun p hp => by have := hpl p hp; omega

set_option maxRecDepth 100000 in
theorem w_refRight (l : List PieceT) (hl : l.length ≤ 1000000) (hpl : ∀ p ∈ l, p.put.length ≤ 1000000000) : Pure Tryz.prog 116 [piecesV l] (fun x => x = .bool (rightP l)) := by
  refine pure_wk (pure_fn 100 Tryz.func116 rfl rfl rfl fun B => ?_)
  refine ⟨fun g0 => go 200 ?_, fun g0 => go 200 ?_⟩
  · have g0 : 4096 < l.length := by have := lt_of g0; simp at this; omega
    exact ⟨trivial, rfl, rfl, rfl, leaf_ff (by unfold rightP; rw [decide_eq_false (by omega)]; rfl)⟩
  have g0 : l.length ≤ 4096 := by have := not_lt_of g0; simp at this; omega
  show Goes _ _ _ _
  refine goes_iter (ι := Nat × Nat) (fun i => i.1 ≤ l.length ∧ i.2 ≤ 1048576 ∧ rightP l = rightGo i.2 (l.drop i.1)) (fun i => l.length - i.1) (fun i => [(4, .int .i64 i.1), (0, piecesV l), (3, .int .i64 i.2)]) (fun _ => []) (0, 0) 200 (fun _ => rfl) (fun _ => rfl) ⟨⟨Nat.zero_le _, Nat.zero_le _, ?_⟩, ?_, ?_⟩ ?_
  · unfold rightP
    rw [decide_eq_true g0]
    rfl
  · exact ⟨⟨rfl, rfl⟩, ⟨rfl, rfl⟩, ⟨rfl, rfl⟩, trivial⟩
  · trivial
  · rintro ⟨i, n⟩ ⟨h1, h3, h2⟩ next
    simp only at h1 h2 h3
    refine ⟨fun hlt => go 200 ?_, fun hge => go 200 ?_⟩
    · have hi : i < l.length := by simpa using hlt
      have hx : (l.map pieceV)[i]? = some (pieceV l[i]) := by simp [hi]
      have hput := hpl l[i] (List.getElem_mem hi)
      rw [drop_cons hi] at h2
      refine ⟨Int.natCast_nonneg i, _, hx, ?_⟩
      refine ⟨fun g1 => go 200 ?_, fun g1 => go 200 ?_⟩
      · have g1 := lt_of g1
        exact ⟨trivial, rfl, rfl, rfl, leaf_ff (by rw [h2]; exact rightGo_bad (by omega))⟩
      have g1 := not_lt_of g1
      refine ⟨Int.natCast_nonneg i, _, hx, ?_⟩
      refine ⟨fun g2 => go 200 ?_, fun g2 => go 200 ?_⟩
      · have g2 := lt_of g2
        exact ⟨trivial, rfl, rfl, rfl, leaf_ff (by rw [h2]; exact rightGo_bad (by omega))⟩
      have g2 := not_lt_of g2
      refine ⟨Int.natCast_nonneg i, _, hx, ?_⟩
      refine ⟨fun g3 => go 200 ?_, fun g3 => go 200 ?_⟩
      · have g3 := lt_of g3
        exact ⟨trivial, rfl, rfl, rfl, leaf_ff (by rw [h2]; exact rightGo_bad (by omega))⟩
      have g3 := not_lt_of g3
      refine ⟨Int.natCast_nonneg i, _, hx, ?_⟩
      refine ⟨fun g4 => go 200 ?_, fun g4 => go 200 ?_⟩
      · have g4 := lt_of g4
        exact ⟨trivial, rfl, rfl, rfl, leaf_ff (by rw [h2]; exact rightGo_bad (by omega))⟩
      have g4 := not_lt_of g4
      refine ⟨Int.natCast_nonneg i, _, hx, ?_⟩
      refine ⟨by constructor <;> omega, ?_⟩
      refine ⟨fun g5 => go 200 ?_, fun g5 => go 200 ?_⟩
      · have g5 := lt_of g5
        exact ⟨trivial, rfl, rfl, rfl, leaf_ff (by rw [h2]; exact rightGo_bad (by omega))⟩
      have g5 := not_lt_of g5
      refine ⟨Int.natCast_nonneg i, _, hx, ?_⟩
      refine ⟨by constructor <;> omega, ?_⟩
      refine ⟨by constructor <;> omega, ?_⟩
      show Goes _ _ _ _
      refine next (i + 1, n + (l[i]).put.length) _ _ ⟨⟨hi, by simp only; omega, ?_⟩, ?_, ⟨⟨rfl, rfl⟩, ⟨rfl, rfl⟩, ⟨rfl, rfl⟩, trivial⟩, trivial⟩
      · rw [h2]
        exact rightGo_good (by omega) (by omega) (by omega) (by omega) (by omega)
      · simp only; omega
    · have hi : l.length ≤ i := by simpa using hge
      rw [List.drop_eq_nil_of_le hi] at h2
      exact ⟨trivial, rfl, rfl, rfl, leaf_tt h2⟩
end Bow
/- W8: Formed. -/
namespace Bow
open Go Go.Proofs

set_option maxRecDepth 100000 in
theorem w_Formed (o : OpT) (ho : o.Lt 1000000) (hpl : ∀ p ∈ o.pieces, p.put.length ≤ 1000000000) : Pure Tryz.prog 59 [opV o] (fun x => x = .bool (formedB o)) := by
  have hm := w_May o.path
  have hm2 := w_May o.to
  have hk := w_Key o.key
  have hr := w_Right o.pieces ho.pieces hpl
  refine pure_wk (pure_fn 300 Tryz.func59 rfl rfl rfl fun B => ?_)
  clear ho hpl
  repeat' first
    | (refine ⟨fun _ => go 300 ?_, fun _ => go 300 ?_⟩)
    | (show CallThen _ _ _ _ _ _; refine call_pure hm rfl ?_; rintro x rfl)
    | (show CallThen _ _ _ _ _ _; refine call_pure hm2 rfl ?_; rintro x rfl)
    | (show CallThen _ _ _ _ _ _; refine call_pure hk rfl ?_; rintro x rfl)
    | (show CallThen _ _ _ _ _ _; refine call_pure hr rfl ?_; rintro x rfl)
    | (refine ⟨trivial, rfl, rfl, rfl, leaf_tt ?_⟩)
    | (refine ⟨trivial, rfl, rfl, rfl, leaf_ff ?_⟩)
    | (refine ⟨trivial, rfl, rfl, rfl, leaf_b ?_⟩)
    | fail
  all_goals (first | (simp_all [formedB, gapOk]; done) | (simp_all [formedB, gapOk]; intros; omega))

set_option maxRecDepth 100000 in
theorem w_refFormed (o : OpT) (ho : o.Lt 1000000) (hpl : ∀ p ∈ o.pieces, p.put.length ≤ 1000000000) : Pure Tryz.prog 60 [opV o] (fun x => x = .bool (formedB o)) := by
  have hm := w_refMay o.path ho.path
  have hm2 := w_refMay o.to ho.to
  have hk := w_refKey o.key
  have hr := w_refRight o.pieces ho.pieces hpl
  refine pure_wk (pure_fn 300 Tryz.func60 rfl rfl rfl fun B => ?_)
  clear ho hpl
  repeat' first
    | (refine ⟨fun _ => go 300 ?_, fun _ => go 300 ?_⟩)
    | (show CallThen _ _ _ _ _ _; refine call_pure hm rfl ?_; rintro x rfl)
    | (show CallThen _ _ _ _ _ _; refine call_pure hm2 rfl ?_; rintro x rfl)
    | (show CallThen _ _ _ _ _ _; refine call_pure hk rfl ?_; rintro x rfl)
    | (show CallThen _ _ _ _ _ _; refine call_pure hr rfl ?_; rintro x rfl)
    | (refine ⟨trivial, rfl, rfl, rfl, leaf_tt ?_⟩)
    | (refine ⟨trivial, rfl, rfl, rfl, leaf_ff ?_⟩)
    | (refine ⟨trivial, rfl, rfl, rfl, leaf_b ?_⟩)
    | fail
  all_goals (first | (simp_all [formedB, gapOk]; done) | (simp_all [formedB, gapOk]; intros; omega))

def opsV (l : List OpT) : V := .sl 11 (l.map opV)
end Bow
/- W9: Bare; puts; Fits. -/
namespace Bow
open Go Go.Proofs

theorem w_someInt (p : List Int) (h : p.length ≤ 1000000) : Pure Tryz.prog 117 [pathV p] (fun x => x = pathV p) := by
  refine pure_fn 100 Tryz.func117 rfl rfl rfl fun B => ?_
  refine ⟨Nat.le_trans (Nat.mul_le_mul_right _ (show (p.map intV).length ≤ 1000000 by simpa using h)) (by decide), ?_⟩
  exact ⟨trivial, rfl, rfl, rfl, rfl, rfl, rfl⟩
theorem w_somePiece (p : List PieceT) (h : p.length ≤ 1000000) : Pure Tryz.prog 118 [piecesV p] (fun x => x = piecesV p) := by
  refine pure_fn 100 Tryz.func118 rfl rfl rfl fun B => ?_
  refine ⟨Nat.le_trans (Nat.mul_le_mul_right _ (show (p.map pieceV).length ≤ 1000000 by simpa using h)) (by decide), ?_⟩
  exact ⟨trivial, rfl, rfl, rfl, rfl, rfl, rfl⟩

/-- An operation as a literal lays it. -/
theorem wk_op {o : OpT} {cs : List V} (h : WkL cs (opV o).cells) : Wk (.agg cs) (opV o) := Wk.agg h

set_option maxRecDepth 100000 in
theorem w_Bare (o : OpT) (ho : o.Lt 1000000) : Pure Tryz.prog 61 [opV o] (fun x => x = opV (bareO o)) := by
  refine pure_wk (pure_fn 300 Tryz.func61 rfl rfl rfl fun B => ?_)
  show Goes _ _ _ _
  refine goes_draw 300 ?_
  refine ⟨_, w_someInt o.path ho.path, rfl, ?_⟩
  refine ⟨by kernel_rfl, ?_⟩
  refine ⟨by kernel_rfl, ?_⟩
  have hp := ho.path
  have ht := ho.to
  have hpc := ho.pieces
  refine ⟨fun g1 => go 300 ?_, fun g1 => go 300 ?_⟩
  · have g1 := eq_of g1
    show Goes _ _ _ _
    refine goes_draw 300 ?_
    refine ⟨by kernel_rfl, ?_⟩
    refine ⟨trivial, rfl, rfl, rfl, _, ?_, ?_, rfl⟩
    · simp only [bareO, g1]
      refine wk_op ⟨.refl _, .refl _, .refl _, Wk.nil 1, .refl _, .refl _, .refl _, .refl _, .refl _, Wk.ff, Wk.nil 3, trivial⟩
    · rfl
  refine ⟨fun g2 => go 300 ?_, fun g2 => go 300 ?_⟩
  · have g2 := eq_of g2
    refine ⟨trivial, rfl, rfl, rfl, _, ?_, ?_, rfl⟩
    · simp only [bareO, g2]
      refine wk_op ⟨.refl _, .refl _, .refl _, Wk.nil 1, .refl _, Wk.ff, .refl _, .refl _, .refl _, Wk.ff, Wk.nil 3, trivial⟩
    · rfl
  refine ⟨fun g3 => go 300 ?_, fun g3 => go 300 ?_⟩
  · have g3 := eq_of g3
    show Goes _ _ _ _
    refine goes_draw 300 ?_
    refine ⟨_, w_someInt o.to ho.to, rfl, ?_⟩
    refine ⟨by kernel_rfl, ?_⟩
    refine ⟨trivial, rfl, rfl, rfl, _, ?_, ?_, rfl⟩
    · simp only [bareO, g3]
      refine wk_op ⟨.refl _, .refl _, .refl _, .refl _, .refl _, Wk.ff, .refl _, .refl _, .refl _, Wk.ff, Wk.nil 3, trivial⟩
    · rfl
  refine ⟨fun g4 => go 300 ?_, fun g4 => go 300 ?_⟩
  · have g4 := eq_of g4
    show Goes _ _ _ _
    refine goes_draw 300 ?_
    refine ⟨by kernel_rfl, ?_⟩
    refine ⟨fun h => go 300 ?_, fun h => go 300 ?_⟩
    · have h : o.gone = false := by simpa using h
      refine ⟨trivial, rfl, rfl, rfl, _, ?_, ?_, rfl⟩
      · simp only [bareO, g4, h]
        refine wk_op ⟨.refl _, .refl _, .refl _, Wk.nil 1, .refl _, Wk.ff, .refl _, .refl _, .refl _, .refl _, Wk.nil 3, trivial⟩
      · rfl
    · have h : o.gone = true := by simpa using h
      refine ⟨trivial, rfl, rfl, rfl, _, ?_, ?_, rfl⟩
      · simp only [bareO, g4, h]
        refine wk_op ⟨.refl _, .refl _, .refl _, Wk.nil 1, .refl _, Wk.ff, .refl _, .refl _, .refl _, .refl _, Wk.nil 3, trivial⟩
      · rfl
  refine ⟨fun g5 => go 300 ?_, fun g5 => go 300 ?_⟩
  · have g5 := eq_of g5
    refine ⟨trivial, rfl, rfl, rfl, _, ?_, ?_, rfl⟩
    · simp only [bareO, g5]
      refine wk_op ⟨.refl _, .refl _, .refl _, Wk.nil 1, .refl _, Wk.ff, .refl _, .refl _, .refl _, Wk.ff, Wk.nil 3, trivial⟩
    · rfl
  refine ⟨fun g6 => go 300 ?_, fun g6 => go 300 ?_⟩
  · have g6 := eq_of g6
    show CallThen _ _ _ _ _ _
    refine call_pure (w_somePiece o.pieces ho.pieces) rfl ?_
    rintro x rfl
    refine ⟨trivial, rfl, rfl, rfl, _, ?_, ?_, rfl⟩
    · simp only [bareO, g6]
      refine wk_op ⟨.refl _, .refl _, .refl _, Wk.nil 1, .refl _, Wk.ff, .refl _, .refl _, .refl _, Wk.ff, .refl _, trivial⟩
    · rfl
  · have g1 := ne_of g1
    have g2 := ne_of g2
    have g3 := ne_of g3
    have g4 := ne_of g4
    have g5 := ne_of g5
    have g6 := ne_of g6
    refine ⟨trivial, rfl, rfl, rfl, _, ?_, ?_, rfl⟩
    · have e : bareO o = noOp o.kind := by
        unfold bareO
        rw [show (o.kind == 1) = false by simpa using g1, show (o.kind == 2) = false by simpa using g2, show (o.kind == 3) = false by simpa using g3, show (o.kind == 4) = false by simpa using g4, show (o.kind == 5) = false by simpa using g5, show (o.kind == 6) = false by simpa using g6]
        rfl
      rw [e]
      refine wk_op ⟨.refl _, Wk.nil 1, .refl _, Wk.nil 1, .refl _, Wk.ff, .refl _, .refl _, .refl _, Wk.ff, Wk.nil 3, trivial⟩
    · rfl
end Bow
/- W10: the reference's Bare; puts; Fits. -/
namespace Bow
open Go Go.Proofs

theorem room_of {n b : Nat} (h : n ≤ 1000000) (hb : b ≤ 70368744) : room n b := Nat.le_trans (Nat.mul_le_mul h hb) (by decide)

set_option maxRecDepth 100000 in
theorem w_refBare (o : OpT) (ho : o.Lt 1000000) : Pure Tryz.prog 37 [opV o] (fun x => x = opV (bareO o)) := by
  refine pure_wk (pure_fn 300 Tryz.func37 rfl rfl rfl fun B => ?_)
  have hp := ho.path
  have ht := ho.to
  have hpc := ho.pieces
  refine ⟨room_of (by simpa using ho.path) (by decide), ?_⟩
  refine ⟨room_of (by simpa using ho.to) (by decide), ?_⟩
  refine ⟨fun g1 => go 300 ?_, fun g1 => go 300 ?_⟩
  · have g1 := eq_of g1
    refine ⟨trivial, rfl, rfl, rfl, rfl, rfl, _, ?_, ?_, rfl⟩
    · simp only [bareO, g1]
      refine wk_op ⟨.refl _, .refl _, .refl _, Wk.nil 1, .refl _, .refl _, .refl _, .refl _, .refl _, Wk.ff, Wk.nil 3, trivial⟩
    · rfl
  refine ⟨fun g2 => go 300 ?_, fun g2 => go 300 ?_⟩
  · have g2 := eq_of g2
    refine ⟨trivial, rfl, rfl, rfl, rfl, rfl, _, ?_, ?_, rfl⟩
    · simp only [bareO, g2]
      refine wk_op ⟨.refl _, .refl _, .refl _, Wk.nil 1, .refl _, Wk.ff, .refl _, .refl _, .refl _, Wk.ff, Wk.nil 3, trivial⟩
    · rfl
  refine ⟨fun g3 => go 300 ?_, fun g3 => go 300 ?_⟩
  · have g3 := eq_of g3
    refine ⟨trivial, rfl, rfl, rfl, rfl, rfl, rfl, rfl, _, ?_, ?_, rfl⟩
    · simp only [bareO, g3]
      refine wk_op ⟨.refl _, .refl _, .refl _, .refl _, .refl _, Wk.ff, .refl _, .refl _, .refl _, Wk.ff, Wk.nil 3, trivial⟩
    · rfl
  refine ⟨fun g4 => go 300 ?_, fun g4 => go 300 ?_⟩
  · have g4 := eq_of g4
    refine ⟨fun h => go 300 ?_, fun h => go 300 ?_⟩
    · have h : o.gone = false := by simpa using h
      refine ⟨trivial, rfl, rfl, rfl, rfl, rfl, _, ?_, ?_, rfl⟩
      · simp only [bareO, g4, h]
        refine wk_op ⟨.refl _, .refl _, .refl _, Wk.nil 1, .refl _, Wk.ff, .refl _, .refl _, .refl _, .refl _, Wk.nil 3, trivial⟩
      · rfl
    · have h : o.gone = true := by simpa using h
      refine ⟨trivial, rfl, rfl, rfl, rfl, rfl, _, ?_, ?_, rfl⟩
      · simp only [bareO, g4, h]
        refine wk_op ⟨.refl _, .refl _, .refl _, Wk.nil 1, .refl _, Wk.ff, .refl _, .refl _, .refl _, .refl _, Wk.nil 3, trivial⟩
      · rfl
  refine ⟨fun g5 => go 300 ?_, fun g5 => go 300 ?_⟩
  · have g5 := eq_of g5
    refine ⟨trivial, rfl, rfl, rfl, rfl, rfl, _, ?_, ?_, rfl⟩
    · simp only [bareO, g5]
      refine wk_op ⟨.refl _, .refl _, .refl _, Wk.nil 1, .refl _, Wk.ff, .refl _, .refl _, .refl _, Wk.ff, Wk.nil 3, trivial⟩
    · rfl
  refine ⟨fun g6 => go 300 ?_, fun g6 => go 300 ?_⟩
  · have g6 := eq_of g6
    refine ⟨room_of (by simpa using ho.pieces) (by decide), ?_⟩
    refine ⟨trivial, rfl, rfl, rfl, rfl, rfl, rfl, rfl, _, ?_, ?_, rfl⟩
    · simp only [bareO, g6]
      refine wk_op ⟨.refl _, .refl _, .refl _, Wk.nil 1, .refl _, Wk.ff, .refl _, .refl _, .refl _, Wk.ff, .refl _, trivial⟩
    · rfl
  · have g1 := ne_of g1
    have g2 := ne_of g2
    have g3 := ne_of g3
    have g4 := ne_of g4
    have g5 := ne_of g5
    have g6 := ne_of g6
    refine ⟨trivial, rfl, rfl, rfl, _, ?_, ?_, rfl⟩
    · have e : bareO o = noOp o.kind := by
        unfold bareO
        rw [show (o.kind == 1) = false by simpa using g1, show (o.kind == 2) = false by simpa using g2, show (o.kind == 3) = false by simpa using g3, show (o.kind == 4) = false by simpa using g4, show (o.kind == 5) = false by simpa using g5, show (o.kind == 6) = false by simpa using g6]
        rfl
      rw [e]
      refine wk_op ⟨.refl _, Wk.nil 1, .refl _, Wk.nil 1, .refl _, Wk.ff, .refl _, .refl _, .refl _, Wk.ff, Wk.nil 3, trivial⟩
    · rfl

/-! ### What is put -/
theorem putsLen_cons (p : PieceT) (l : List PieceT) : putsLen (p :: l) = p.put.length + putsLen l := rfl
theorem bare_lt {o : OpT} {n : Nat} (h : o.Lt n) : (bareO o).Lt n := by
  unfold bareO noOp
  rcases Bool.eq_false_or_eq_true (o.kind == 1) with e | e <;> rw [e] <;> simp only [cond_true, cond_false]
  · exact ⟨h.path, Nat.zero_le _, h.label, Nat.zero_le _, Nat.zero_le _, Nat.zero_le _⟩
  rcases Bool.eq_false_or_eq_true (o.kind == 2) with e | e <;> rw [e] <;> simp only [cond_true, cond_false]
  · exact ⟨h.path, Nat.zero_le _, Nat.zero_le _, Nat.zero_le _, Nat.zero_le _, Nat.zero_le _⟩
  rcases Bool.eq_false_or_eq_true (o.kind == 3) with e | e <;> rw [e] <;> simp only [cond_true, cond_false]
  · exact ⟨h.path, h.to, Nat.zero_le _, Nat.zero_le _, Nat.zero_le _, Nat.zero_le _⟩
  rcases Bool.eq_false_or_eq_true (o.kind == 4) with e | e <;> rw [e] <;> simp only [cond_true, cond_false]
  · refine ⟨h.path, Nat.zero_le _, Nat.zero_le _, h.key, ?_, Nat.zero_le _⟩
    cases o.gone <;> simp [h.value]
  rcases Bool.eq_false_or_eq_true (o.kind == 5) with e | e <;> rw [e] <;> simp only [cond_true, cond_false]
  · exact ⟨h.path, Nat.zero_le _, h.label, Nat.zero_le _, Nat.zero_le _, Nat.zero_le _⟩
  rcases Bool.eq_false_or_eq_true (o.kind == 6) with e | e <;> rw [e] <;> simp only [cond_true, cond_false]
  · exact ⟨h.path, Nat.zero_le _, Nat.zero_le _, Nat.zero_le _, Nat.zero_le _, h.pieces⟩
  · exact ⟨Nat.zero_le _, Nat.zero_le _, Nat.zero_le _, Nat.zero_le _, Nat.zero_le _, Nat.zero_le _⟩
theorem bare_puts {o : OpT} : putsLen (bareO o).pieces ≤ putsLen o.pieces := by
  unfold bareO noOp
  rcases Bool.eq_false_or_eq_true (o.kind == 1) with e | e <;> rw [e] <;> simp only [cond_true, cond_false]
  · exact Nat.zero_le _
  rcases Bool.eq_false_or_eq_true (o.kind == 2) with e | e <;> rw [e] <;> simp only [cond_true, cond_false]
  · exact Nat.zero_le _
  rcases Bool.eq_false_or_eq_true (o.kind == 3) with e | e <;> rw [e] <;> simp only [cond_true, cond_false]
  · exact Nat.zero_le _
  rcases Bool.eq_false_or_eq_true (o.kind == 4) with e | e <;> rw [e] <;> simp only [cond_true, cond_false]
  · exact Nat.zero_le _
  rcases Bool.eq_false_or_eq_true (o.kind == 5) with e | e <;> rw [e] <;> simp only [cond_true, cond_false]
  · exact Nat.zero_le _
  rcases Bool.eq_false_or_eq_true (o.kind == 6) with e | e <;> rw [e] <;> simp only [cond_true, cond_false]
  · exact Nat.le_refl _
  · exact Nat.zero_le _

end Bow
/- W11: Fits; the chapter's examples; the laws' functions. -/
namespace Bow
open Go Go.Proofs

structure OpT.Ok (o : OpT) : Prop where
  lt : o.Lt 1000000
  puts : putsLen o.pieces ≤ 1048576
theorem put_le {l : List PieceT} : ∀ p ∈ l, p.put.length ≤ putsLen l := by
  induction l with
  | nil => intro p h; cases h
  | cons q l ih =>
    intro p h
    rw [putsLen_cons]
    rcases List.mem_cons.1 h with rfl | h
    · omega
    · have := ih p h; omega
theorem OpT.Ok.each {o : OpT} (h : o.Ok) : ∀ p ∈ o.pieces, p.put.length ≤ 1000000000 := fun p hp => by have := put_le p hp; have := h.puts; omega
theorem bare_ok {o : OpT} (h : o.Ok) : (bareO o).Ok := ⟨bare_lt h.lt, Nat.le_trans bare_puts h.puts⟩
end Bow
/- W12: the chapter's examples; the laws' functions. -/
namespace Bow
open Go Go.Proofs

end Bow
/- W13: the laws' functions: LimitsCheck, LimitsFits. -/
namespace Bow
open Go Go.Proofs

end Bow
/- W14: slices.Grow of nil, slices.Concat: printed by gen_w14.py. -/
namespace Bow
open Go Go.Proofs

theorem flatten_take_succ {α : Type} {l : List (List α)} {i : Nat} (hi : i < l.length) : (l.take (i + 1)).flatten = (l.take i).flatten ++ l[i] := by
  rw [List.take_succ_eq_append_getElem hi, List.flatten_append]
  simp
theorem flatten_take_le {α : Type} (l : List (List α)) (i : Nat) : (l.take i).flatten.length ≤ l.flatten.length := by
  conv => rhs; rw [← List.take_append_drop i l]
  rw [List.flatten_append, List.length_append]
  omega

theorem w_GrowNode (n : Nat) (h : n ≤ 10000000) : Fun Tryz.prog 225 [] [.nilsl, .int .i64 n] (fun x T => ∃ g, x = .osl (.loc 0) g 0 0 ∧ T = [some (.vec g 6 [])]) := by
  refine fun_fn 100 Tryz.func225 rfl rfl rfl fun imps B hi => ?_
  have : imps = [] := List.length_eq_zero_iff.1 hi
  subst this
  refine ⟨fun g1 => go 100 ?_, fun g1 => go 100 ?_⟩
  · have := lt_of g1; omega
  show Goes _ _ _ _
  refine goes_cap0 100 rfl rfl rfl rfl rfl ?_
  refine ⟨by constructor <;> omega, by constructor <;> omega, ?_⟩
  refine ⟨fun g2 => go 100 ?_, fun g2 => ?_⟩
  · have g2 := lt_of g2
    show Goes _ _ _ _
    refine goes_cap0 100 rfl rfl rfl rfl rfl ?_
    show Goes _ _ _ _
    refine goes_nilcut 100 rfl rfl rfl rfl rfl rfl rfl ?_
    show Goes _ _ _ _
    refine goes_growTo 100 n rfl rfl rfl rfl (congrArg (V.int .i64) (by omega)) (by omega) rfl rfl rfl rfl rfl (Nat.le_trans (Nat.mul_le_mul_right _ h) (by decide)) ?_
    show Goes _ _ _ _
    refine goes_cut (h := 0) 100 rfl rfl rfl rfl rfl rfl rfl rfl (Nat.zero_le _) ?_
    exact ⟨trivial, rfl, rfl, 2, rfl, rfl⟩
  · refine goes_own 0 6 rfl ?_
    refine go 100 ?_
    exact ⟨trivial, rfl, rfl, 0, rfl, rfl⟩
set_option maxRecDepth 100000 in
theorem w_ConcatNode (ls : List (List V)) (h : ls.flatten.length ≤ 1000000) (hl : ls.length ≤ 1000000) : Pure Tryz.prog 194 [.sl 1 (ls.map (V.sl 6))] (fun x => x = .sl 6 ls.flatten) := by
  refine pure_fn 100 Tryz.func194 rfl rfl rfl fun B => ?_
  show Goes _ _ _ _
  refine goes_iter (ι := Nat) (fun i => i ≤ ls.length) (fun i => ls.length - i) (fun i => [(3, .int .i64 (ls.take i).flatten.length), (11, .int .i64 i), (10, .int .i64 (ls.map (V.sl 6)).length), (9, .sl 1 (ls.map (V.sl 6))), (0, .sl 1 (ls.map (V.sl 6)))]) (fun _ => []) 0 100 (fun _ => rfl) (fun _ => rfl) ⟨Nat.zero_le _, ?_, trivial⟩ ?_
  · exact ⟨⟨rfl, rfl⟩, ⟨rfl, rfl⟩, ⟨rfl, rfl⟩, ⟨rfl, rfl⟩, ⟨rfl, rfl⟩, trivial⟩
  intro i k1 next
  have hb1 := flatten_take_le ls i
  refine ⟨fun hlt => go 100 ?_, fun hge => go 100 ?_⟩
  · have hi : i < ls.length := by simpa using hlt
    have hx : (ls.map (V.sl 6))[i]? = some (.sl 6 ls[i]) := by simp [hi]
    have hb2 := flatten_take_le ls (i + 1)
    have hs := flatten_take_succ hi
    have hsl : (ls.take (i + 1)).flatten.length = (ls.take i).flatten.length + ls[i].length := by rw [hs, List.length_append]
    refine ⟨Int.natCast_nonneg i, _, hx, ?_⟩
    refine ⟨by constructor <;> omega, ?_⟩
    refine ⟨fun g1 => go 100 ?_, fun g1 => go 100 ?_⟩
    · have := lt_of g1; omega
    refine ⟨by constructor <;> omega, ?_⟩
    refine next (i + 1) _ _ ⟨by omega, by omega, ?_, trivial⟩
    exact ⟨⟨by simp only [lk]; exact congrArg (V.int .i64) (by omega), rfl⟩, ⟨rfl, rfl⟩, ⟨rfl, rfl⟩, ⟨rfl, rfl⟩, ⟨rfl, rfl⟩, trivial⟩
  · have hi : i = ls.length := by have : ls.length ≤ i := by simpa using hge
                                  omega
    subst hi
    rw [List.take_length]
    show CallThen _ _ _ _ _ _
    refine call_sub [] (w_GrowNode ls.flatten.length (by omega)) rfl rfl trivial rfl rfl rfl ?_
    rintro x T1 ⟨g, rfl, rfl⟩
    refine ⟨rfl, ?_⟩
    show Goes _ _ _ _
    refine goes_iter (ι := Nat × Nat) (fun i => i.1 ≤ ls.length) (fun i => ls.length - i.1) (fun i => [(6, .osl (.loc 0) i.2 0 (ls.take i.1).flatten.length), (27, .int .i64 i.1), (26, .int .i64 (ls.map (V.sl 6)).length), (25, .sl 1 (ls.map (V.sl 6)))]) (fun i => [some (.vec i.2 6 (ls.take i.1).flatten)]) (0, g) 100 (fun _ => rfl) (fun _ => rfl) ⟨Nat.zero_le _, ?_, ?_⟩ ?_
    · exact ⟨⟨rfl, rfl⟩, ⟨rfl, rfl⟩, ⟨rfl, rfl⟩, ⟨rfl, rfl⟩, trivial⟩
    · exact ⟨⟨rfl, rfl⟩, trivial⟩
    rintro ⟨i, g⟩ k1 next
    have hb1 := flatten_take_le ls i
    simp only at k1 hb1
    refine ⟨fun hlt => go 100 ?_, fun hge => go 100 ?_⟩
    · have hi : i < ls.length := by simpa using hlt
      have hx : (ls.map (V.sl 6))[i]? = some (.sl 6 ls[i]) := by simp [hi]
      have hb2 := flatten_take_le ls (i + 1)
      have hs := flatten_take_succ hi
      have hsl : (ls.take (i + 1)).flatten.length = (ls.take i).flatten.length + ls[i].length := by rw [hs, List.length_append]
      refine ⟨Int.natCast_nonneg i, _, hx, ?_⟩
      simp only
      refine ⟨rfl, rfl, Nat.le_trans (Nat.mul_le_mul_right _ (show _ ≤ 1000000 by omega)) (by decide), ?_⟩
      refine ⟨by constructor <;> omega, ?_⟩
      refine next (i + 1, bump g) _ _ ⟨by simp only; omega, by simp only; omega, ?_, ?_⟩
      · exact ⟨⟨by simp only [lk]; exact congrArg (V.osl _ _ _) hsl.symm, rfl⟩, ⟨rfl, rfl⟩, ⟨rfl, rfl⟩, ⟨rfl, rfl⟩, trivial⟩
      · exact ⟨⟨by rw [hs], rfl⟩, trivial⟩
    · have hi : i = ls.length := by have : ls.length ≤ i := by simpa using hge
                                    omega
      subst hi
      exact ⟨trivial, rfl, rfl, rfl, rfl, rfl, by simp only [List.take_length]⟩

theorem w_GrowAttr (n : Nat) (h : n ≤ 10000000) : Fun Tryz.prog 227 [] [.nilsl, .int .i64 n] (fun x T => ∃ g, x = .osl (.loc 0) g 0 0 ∧ T = [some (.vec g 2 [])]) := by
  refine fun_fn 100 Tryz.func227 rfl rfl rfl fun imps B hi => ?_
  have : imps = [] := List.length_eq_zero_iff.1 hi
  subst this
  refine ⟨fun g1 => go 100 ?_, fun g1 => go 100 ?_⟩
  · have := lt_of g1; omega
  show Goes _ _ _ _
  refine goes_cap0 100 rfl rfl rfl rfl rfl ?_
  refine ⟨by constructor <;> omega, by constructor <;> omega, ?_⟩
  refine ⟨fun g2 => go 100 ?_, fun g2 => ?_⟩
  · have g2 := lt_of g2
    show Goes _ _ _ _
    refine goes_cap0 100 rfl rfl rfl rfl rfl ?_
    show Goes _ _ _ _
    refine goes_nilcut 100 rfl rfl rfl rfl rfl rfl rfl ?_
    show Goes _ _ _ _
    refine goes_growTo 100 n rfl rfl rfl rfl (congrArg (V.int .i64) (by omega)) (by omega) rfl rfl rfl rfl rfl (Nat.le_trans (Nat.mul_le_mul_right _ h) (by decide)) ?_
    show Goes _ _ _ _
    refine goes_cut (h := 0) 100 rfl rfl rfl rfl rfl rfl rfl rfl (Nat.zero_le _) ?_
    exact ⟨trivial, rfl, rfl, 2, rfl, rfl⟩
  · refine goes_own 0 2 rfl ?_
    refine go 100 ?_
    exact ⟨trivial, rfl, rfl, 0, rfl, rfl⟩
set_option maxRecDepth 100000 in
theorem w_ConcatAttr (ls : List (List V)) (h : ls.flatten.length ≤ 1000000) (hl : ls.length ≤ 1000000) : Pure Tryz.prog 200 [.sl 1 (ls.map (V.sl 2))] (fun x => x = .sl 2 ls.flatten) := by
  refine pure_fn 100 Tryz.func200 rfl rfl rfl fun B => ?_
  show Goes _ _ _ _
  refine goes_iter (ι := Nat) (fun i => i ≤ ls.length) (fun i => ls.length - i) (fun i => [(3, .int .i64 (ls.take i).flatten.length), (11, .int .i64 i), (10, .int .i64 (ls.map (V.sl 2)).length), (9, .sl 1 (ls.map (V.sl 2))), (0, .sl 1 (ls.map (V.sl 2)))]) (fun _ => []) 0 100 (fun _ => rfl) (fun _ => rfl) ⟨Nat.zero_le _, ?_, trivial⟩ ?_
  · exact ⟨⟨rfl, rfl⟩, ⟨rfl, rfl⟩, ⟨rfl, rfl⟩, ⟨rfl, rfl⟩, ⟨rfl, rfl⟩, trivial⟩
  intro i k1 next
  have hb1 := flatten_take_le ls i
  refine ⟨fun hlt => go 100 ?_, fun hge => go 100 ?_⟩
  · have hi : i < ls.length := by simpa using hlt
    have hx : (ls.map (V.sl 2))[i]? = some (.sl 2 ls[i]) := by simp [hi]
    have hb2 := flatten_take_le ls (i + 1)
    have hs := flatten_take_succ hi
    have hsl : (ls.take (i + 1)).flatten.length = (ls.take i).flatten.length + ls[i].length := by rw [hs, List.length_append]
    refine ⟨Int.natCast_nonneg i, _, hx, ?_⟩
    refine ⟨by constructor <;> omega, ?_⟩
    refine ⟨fun g1 => go 100 ?_, fun g1 => go 100 ?_⟩
    · have := lt_of g1; omega
    refine ⟨by constructor <;> omega, ?_⟩
    refine next (i + 1) _ _ ⟨by omega, by omega, ?_, trivial⟩
    exact ⟨⟨by simp only [lk]; exact congrArg (V.int .i64) (by omega), rfl⟩, ⟨rfl, rfl⟩, ⟨rfl, rfl⟩, ⟨rfl, rfl⟩, ⟨rfl, rfl⟩, trivial⟩
  · have hi : i = ls.length := by have : ls.length ≤ i := by simpa using hge
                                  omega
    subst hi
    rw [List.take_length]
    show CallThen _ _ _ _ _ _
    refine call_sub [] (w_GrowAttr ls.flatten.length (by omega)) rfl rfl trivial rfl rfl rfl ?_
    rintro x T1 ⟨g, rfl, rfl⟩
    refine ⟨rfl, ?_⟩
    show Goes _ _ _ _
    refine goes_iter (ι := Nat × Nat) (fun i => i.1 ≤ ls.length) (fun i => ls.length - i.1) (fun i => [(6, .osl (.loc 0) i.2 0 (ls.take i.1).flatten.length), (27, .int .i64 i.1), (26, .int .i64 (ls.map (V.sl 2)).length), (25, .sl 1 (ls.map (V.sl 2)))]) (fun i => [some (.vec i.2 2 (ls.take i.1).flatten)]) (0, g) 100 (fun _ => rfl) (fun _ => rfl) ⟨Nat.zero_le _, ?_, ?_⟩ ?_
    · exact ⟨⟨rfl, rfl⟩, ⟨rfl, rfl⟩, ⟨rfl, rfl⟩, ⟨rfl, rfl⟩, trivial⟩
    · exact ⟨⟨rfl, rfl⟩, trivial⟩
    rintro ⟨i, g⟩ k1 next
    have hb1 := flatten_take_le ls i
    simp only at k1 hb1
    refine ⟨fun hlt => go 100 ?_, fun hge => go 100 ?_⟩
    · have hi : i < ls.length := by simpa using hlt
      have hx : (ls.map (V.sl 2))[i]? = some (.sl 2 ls[i]) := by simp [hi]
      have hb2 := flatten_take_le ls (i + 1)
      have hs := flatten_take_succ hi
      have hsl : (ls.take (i + 1)).flatten.length = (ls.take i).flatten.length + ls[i].length := by rw [hs, List.length_append]
      refine ⟨Int.natCast_nonneg i, _, hx, ?_⟩
      simp only
      refine ⟨rfl, rfl, Nat.le_trans (Nat.mul_le_mul_right _ (show _ ≤ 1000000 by omega)) (by decide), ?_⟩
      refine ⟨by constructor <;> omega, ?_⟩
      refine next (i + 1, bump g) _ _ ⟨by simp only; omega, by simp only; omega, ?_, ?_⟩
      · exact ⟨⟨by simp only [lk]; exact congrArg (V.osl _ _ _) hsl.symm, rfl⟩, ⟨rfl, rfl⟩, ⟨rfl, rfl⟩, ⟨rfl, rfl⟩, trivial⟩
      · exact ⟨⟨by rw [hs], rfl⟩, trivial⟩
    · have hi : i = ls.length := by have : ls.length ≤ i := by simpa using hge
                                    omega
      subst hi
      exact ⟨trivial, rfl, rfl, rfl, rfl, rfl, by simp only [List.take_length]⟩

end Bow
/- W15: slices.Equal, slices.Clone, paths: printed by gen_w15.py. -/
namespace Bow
open Go Go.Proofs

theorem take_succ_eq {α : Type} {xs ys : List α} {i : Nat} (hx : i < xs.length) (hy : i < ys.length) : xs.drop i = ys.drop i ↔ xs[i] = ys[i] ∧ xs.drop (i + 1) = ys.drop (i + 1) := by
  rw [List.drop_eq_getElem_cons hx, List.drop_eq_getElem_cons hy, List.cons.injEq]

theorem PieceT.ext {a b : PieceT} (h1 : a.keep = b.keep) (h2 : a.drop = b.drop) (h3 : a.put = b.put) : a = b := by cases a; cases b; simp_all
instance : DecidableEq PieceT := fun a b => decidable_of_iff (a.keep = b.keep ∧ a.drop = b.drop ∧ a.put = b.put) ⟨fun h => PieceT.ext h.1 h.2.1 h.2.2, fun h => by subst h; exact ⟨rfl, rfl, rfl⟩⟩

set_option maxRecDepth 100000 in
theorem w_EqualInt (xs ys : List Int) (hl : xs.length ≤ 1000000) : Pure Tryz.prog 164 [.sl 1 (xs.map intV), .sl 1 (ys.map intV)] (fun x => x = .bool (decide (xs = ys))) := by
  refine pure_wk (pure_fn 100 Tryz.func164 rfl rfl rfl fun B => ?_)
  refine ⟨fun g1 => go 100 ?_, fun g1 => go 100 ?_⟩
  · have g1 := ne_of' g1
    refine ⟨trivial, rfl, rfl, rfl, leaf_ff (decide_eq_false fun e => g1 ?_)⟩
    rw [e]
  have g1 : xs.length = ys.length := by have := eq_of' g1; simp at this; omega
  show Goes _ _ _ _
  refine goes_iter (ι := Nat) (fun i => i ≤ xs.length ∧ (xs.drop i = ys.drop i ↔ xs = ys)) (fun i => xs.length - i) (fun i => [(13, .int .i64 i), (12, .int .i64 (xs.map intV).length), (1, .sl 1 (ys.map intV)), (0, .sl 1 (xs.map intV))]) (fun _ => []) 0 100 (fun _ => rfl) (fun _ => rfl) ⟨⟨Nat.zero_le _, Iff.rfl⟩, ?_, trivial⟩ ?_
  · exact ⟨⟨rfl, rfl⟩, ⟨rfl, rfl⟩, ⟨rfl, rfl⟩, ⟨rfl, rfl⟩, trivial⟩
  rintro i ⟨k1, k2⟩ next
  refine ⟨fun hlt => go 100 ?_, fun hge => go 100 ?_⟩
  · have hi : i < xs.length := by simpa using hlt
    have hi' : i < ys.length := by omega
    have hx : (xs.map intV)[i]? = some (intV xs[i]) := by simp [hi]
    have hy : (ys.map intV)[i]? = some (intV ys[i]) := by simp [hi']
    rw [take_succ_eq hi hi'] at k2
    show Goes _ _ _ _
    refine goes_draw 100 ?_
    refine ⟨Int.natCast_nonneg i, _, hx, Int.natCast_nonneg i, _, hy, ?_⟩
    refine ⟨by kernel_rfl, ?_⟩
    refine ⟨fun g2 => go 100 ?_, fun g2 => go 100 ?_⟩
    · refine ⟨trivial, rfl, rfl, rfl, leaf_ff (decide_eq_false fun e => ?_)⟩
      have := (k2.2 e).1
      rw [this] at g2
      simp at g2
    · refine ⟨by constructor <;> omega, ?_⟩
      have he : xs[i] = ys[i] := by
        exact eq_of' g2
      exact next (i + 1) _ _ ⟨⟨hi, by rw [← k2]; exact ⟨fun h => ⟨he, h⟩, fun h => h.2⟩⟩, by omega, ⟨⟨rfl, rfl⟩, ⟨rfl, rfl⟩, ⟨rfl, rfl⟩, ⟨rfl, rfl⟩, trivial⟩, trivial⟩
  · have hi : i = xs.length := by have : xs.length ≤ i := by simpa using hge
                                  omega
    subst hi
    refine ⟨trivial, rfl, rfl, rfl, leaf_tt (decide_eq_true (k2.1 ?_))⟩
    rw [List.drop_eq_nil_of_le (Nat.le_refl _), List.drop_eq_nil_of_le (by omega)]

/-- What a clone leaves: nil, or own memory. -/
def CloneQ (sz : Nat) (xs : List V) (x : V) (T : Heap) : Prop := (xs = [] ∧ x = .nilsl ∧ T = []) ∨ (x = .osl (.loc 0) 2 0 xs.length ∧ T = [some (.vec 2 sz xs)])

theorem w_CloneInt (xs : List V) (hl : xs.length ≤ 1000000) : Fun Tryz.prog 132 [] [.sl 1 xs] (CloneQ 1 xs) := by
  refine fun_fn 100 Tryz.func132 rfl rfl rfl fun imps B hi => ?_
  have : imps = [] := List.length_eq_zero_iff.1 hi
  subst this
  show Goes _ _ _ _
  refine goes_nileq 100 rfl rfl rfl rfl rfl rfl fun b hb => ?_
  refine ⟨fun g => go 100 ?_, fun g => go 100 ?_⟩
  · exact ⟨trivial, rfl, rfl, .inl ⟨hb g, rfl, rfl⟩⟩
  · refine ⟨trivial, rfl, rfl, Nat.le_trans (Nat.mul_le_mul_right _ (show _ ≤ 1000000 by simpa using hl)) (by decide), ?_⟩
    refine ⟨trivial, rfl, rfl, .inr ⟨?_, rfl⟩⟩
    simp [resV, bump]

theorem w_CloneNode (xs : List V) (hl : xs.length ≤ 1000000) : Fun Tryz.prog 196 [] [.sl 6 xs] (CloneQ 6 xs) := by
  refine fun_fn 100 Tryz.func196 rfl rfl rfl fun imps B hi => ?_
  have : imps = [] := List.length_eq_zero_iff.1 hi
  subst this
  show Goes _ _ _ _
  refine goes_nileq 100 rfl rfl rfl rfl rfl rfl fun b hb => ?_
  refine ⟨fun g => go 100 ?_, fun g => go 100 ?_⟩
  · exact ⟨trivial, rfl, rfl, .inl ⟨hb g, rfl, rfl⟩⟩
  · refine ⟨trivial, rfl, rfl, Nat.le_trans (Nat.mul_le_mul_right _ (show _ ≤ 1000000 by simpa using hl)) (by decide), ?_⟩
    refine ⟨trivial, rfl, rfl, .inr ⟨?_, rfl⟩⟩
    simp [resV, bump]

end Bow
/- W16: paths, further. -/
namespace Bow
open Go Go.Proofs

theorem common_at {p q : List Int} {i : Nat} (hp : i < p.length) (hq : i < q.length) : common (p.drop i) (q.drop i) = bif decide (p[i] = q[i]) then common (p.drop (i + 1)) (q.drop (i + 1)) + 1 else 0 := by
  rw [List.drop_eq_getElem_cons hp, List.drop_eq_getElem_cons hq, common]
theorem common_nil {p q : List Int} {i : Nat} (h : p.length ≤ i ∨ q.length ≤ i) : common (p.drop i) (q.drop i) = 0 := by
  rcases h with h | h
  · rw [List.drop_eq_nil_of_le h]; simp [common]
  · rw [List.drop_eq_nil_of_le h]; cases p.drop i <;> simp [common]

set_option maxRecDepth 100000 in
theorem w_refCommon (p q : List Int) (hp : p.length ≤ 1000000) : Pure Tryz.prog 110 [pathV p, pathV q] (fun x => x = .int .i64 (common p q)) := by
  refine pure_fn 100 Tryz.func110 rfl rfl rfl fun B => ?_
  show Goes _ _ _ _
  refine goes_iter (ι := Nat) (fun i => i ≤ p.length ∧ i + common (p.drop i) (q.drop i) = common p q) (fun i => p.length - i) (fun i => [(5, .int .i64 i), (1, pathV q), (0, pathV p)]) (fun _ => []) 0 100 (fun _ => rfl) (fun _ => rfl) ⟨⟨Nat.zero_le _, by simp⟩, ?_, trivial⟩ ?_
  · exact ⟨⟨rfl, rfl⟩, ⟨rfl, rfl⟩, ⟨rfl, rfl⟩, trivial⟩
  rintro i ⟨k1, k2⟩ next
  show Goes _ _ _ _
  have fin : common (p.drop i) (q.drop i) = 0 → V.int .i64 (i : Nat) = .int .i64 (common p q) := fun h => by rw [← k2, h]; rfl
  refine goes_draw 100 ⟨fun g1 => ⟨fun g2 => ?_, fun g2 => ?_⟩, fun g1 => ?_⟩
  · have hi : i < p.length := by simpa using g1
    have hi' : i < q.length := by simpa using g2
    have hx : (p.map intV)[i]? = some (intV p[i]) := by simp [hi]
    have hy : (q.map intV)[i]? = some (intV q[i]) := by simp [hi']
    rw [common_at hi hi'] at k2 fin
    refine ⟨Int.natCast_nonneg i, _, hx, Int.natCast_nonneg i, _, hy, ?_⟩
    refine ⟨by kernel_rfl, ?_⟩
    refine ⟨fun g3 => go 100 ?_, fun g3 => go 100 ?_⟩
    · rw [g3] at k2
      refine ⟨by constructor <;> omega, ?_⟩
      exact next (i + 1) _ _ ⟨⟨hi, by simp only [cond_true] at k2; omega⟩, by omega, ⟨⟨rfl, rfl⟩, ⟨rfl, rfl⟩, ⟨rfl, rfl⟩, trivial⟩, trivial⟩
    · rw [g3] at fin
      exact ⟨trivial, rfl, rfl, rfl, fin rfl⟩
  · have hi' : q.length ≤ i := by simpa using g2
    refine ⟨by kernel_rfl, ?_⟩
    exact ⟨trivial, rfl, rfl, rfl, fin (common_nil (.inr hi'))⟩
  · have hi : p.length ≤ i := by simpa using g1
    refine ⟨by kernel_rfl, ?_⟩
    exact ⟨trivial, rfl, rfl, rfl, fin (common_nil (.inl hi))⟩

theorem w_refWithin (p q : List Int) (hp : p.length ≤ 1000000) : Pure Tryz.prog 102 [pathV p, pathV q] (fun x => x = .bool (within p q)) := by
  refine pure_wk (pure_fn 100 Tryz.func102 rfl rfl rfl fun B => ?_)
  show CallThen _ _ _ _ _ _
  refine call_pure (w_refCommon p q hp) rfl ?_
  rintro x rfl
  refine ⟨trivial, rfl, rfl, rfl, leaf_b ?_⟩
  rw [← common_within]
  simp
  omega

theorem w_refSame (p q : List Int) (hp : p.length ≤ 1000000) : Pure Tryz.prog 57 [pathV p, pathV q] (fun x => x = .bool (decide (p = q))) := by
  refine pure_wk (pure_fn 100 Tryz.func57 rfl rfl rfl fun B => ?_)
  refine ⟨fun g1 => go 100 ?_, fun g1 => go 100 ?_⟩
  · have g1 : p.length = q.length := by have := eq_of g1; simp at this; omega
    show CallThen _ _ _ _ _ _
    refine call_pure (w_refCommon p q hp) rfl ?_
    rintro x rfl
    refine ⟨trivial, rfl, rfl, rfl, leaf_b ?_⟩
    rw [← common_same p q g1]
    simp
    omega
  · have g1 := ne_of g1
    exact ⟨trivial, rfl, rfl, rfl, leaf_ff (decide_eq_false fun e => g1 (by rw [e]))⟩

theorem w_refCopied (p : List Int) (h : p.length ≤ 1000000) : Pure Tryz.prog 122 [pathV p] (fun x => x = pathV p) := by
  refine pure_fn 100 Tryz.func122 rfl rfl rfl fun B => ?_
  refine ⟨Nat.le_trans (Nat.mul_le_mul_right _ (show (p.map intV).length ≤ 1000000 by simpa using h)) (by decide), ?_⟩
  exact ⟨trivial, rfl, rfl, rfl, rfl, rfl, rfl⟩

theorem w_pathSame (p q : List Int) (hp : p.length ≤ 1000000) : Pure Tryz.prog 119 [pathV p, pathV q] (fun x => x = .bool (decide (p = q))) := by
  refine pure_fn 100 Tryz.func119 rfl rfl rfl fun B => ?_
  show CallThen _ _ _ _ _ _
  refine call_pure (w_EqualInt p q hp) rfl ?_
  rintro x rfl
  exact ⟨trivial, rfl, rfl, rfl, rfl⟩

theorem w_pathWithin (p q : List Int) (hp : p.length ≤ 1000000) : Pure Tryz.prog 147 [pathV p, pathV q] (fun x => x = .bool (within p q)) := by
  refine pure_wk (pure_fn 100 Tryz.func147 rfl rfl rfl fun B => ?_)
  refine ⟨fun g1 => go 100 ?_, fun g1 => go 100 ?_⟩
  · have g1 : p.length ≤ q.length := by have := le_of g1; simp at this; omega
    refine ⟨by decide, by simp, by simpa using g1, ?_⟩
    show CallThen _ _ _ _ _ _
    have e : V.sl 1 ((((q.map intV).drop (Int.toNat 0)).take (((p.map intV).length : Int).toNat - Int.toNat 0))) = pathV (q.take p.length) := by
      unfold pathV
      simp
    refine call_pure (Q := fun x => x = .bool (decide (p = q.take p.length))) (by have h := w_EqualInt p (q.take p.length) hp; unfold pathV at e; rw [← e] at h; exact h) rfl ?_
    rintro x rfl
    exact ⟨trivial, rfl, rfl, rfl, leaf_b rfl⟩
  · have g1 : q.length < p.length := by have := not_le_of g1; simp at this; omega
    refine ⟨trivial, rfl, rfl, rfl, leaf_ff ?_⟩
    cases h : within p q with
    | false => rfl
    | true => have := within_len h; omega

theorem pure_clone {P : Program} {f : FuncId} {sz : Nat} {xs : List V} (h : Fun P f [] [.sl sz xs] (CloneQ sz xs)) : Pure P f [.sl sz xs] (fun x => x = .sl sz xs) := by
  refine pure_wk (pure_of_fun (h.mono fun x T hx => ?_))
  rcases hx with ⟨e, rfl, rfl⟩ | ⟨rfl, rfl⟩
  · subst e
    exact ⟨rfl, _, Wk.nil sz, rfl, rfl⟩
  · exact ⟨rfl, rfl, rfl, _, Wk.refl _, rfl, rfl⟩

/-- The path of the parent, of one that is not the root's; where in it. -/
theorem w_Parent (p : List Int) (hp : p.length ≤ 1000000) (hne : p ≠ []) : Pure Tryz.prog 131 [pathV p] (fun x => x = .tup [pathV p.dropLast, intV (p.getLast hne), .tt]) := by
  have hpos : 0 < p.length := List.length_pos_iff.2 hne
  refine pure_fn 100 Tryz.func131 rfl rfl rfl fun B => ?_
  refine ⟨fun g1 => go 100 ?_, fun g1 => go 100 ?_⟩
  · have := eq_of g1
    simp at this
    exact absurd this hne
  refine ⟨by constructor <;> simp <;> omega, ?_⟩
  show Goes _ _ _ _
  have e : V.sl 1 ((((p.map intV).drop (Int.toNat 0)).take ((((p.map intV).length : Int) - 1).toNat - Int.toNat 0))) = .sl 1 (p.dropLast.map intV) := by
    rw [List.dropLast_eq_take, List.map_take]
    congr 2
    simp
  have hx : (p.map intV)[(((p.map intV).length : Int) - 1).toNat]? = some (intV (p.getLast hne)) := by
    rw [List.getElem?_map, List.getLast_eq_getElem]
    have : (((p.map intV).length : Int) - 1).toNat = p.length - 1 := by simp
    rw [this, List.getElem?_eq_getElem (by omega)]
    rfl
  refine goes_draw 100 ⟨by decide, by simp; omega, by omega, ?_⟩
  have h := pure_clone (w_CloneInt (p.dropLast.map intV) (by rw [List.length_map, List.length_dropLast]; omega))
  rw [← e] at h
  refine ⟨_, h, rfl, ?_⟩
  refine ⟨by simp only [List.length_map]; omega, _, hx, ?_⟩
  refine ⟨by kernel_rfl, ?_⟩
  refine ⟨trivial, rfl, rfl, rfl, ?_⟩
  rw [e]
  rfl
end Bow
/- W17: the node at a path. -/
namespace Bow
open Go Go.Proofs

theorem subs_le_weights : ∀ l : List Tree, l.length ≤ weights l
  | [] => by rw [weights]; simp
  | s :: l => by
    have := subs_le_weights l
    have := weight_eq s
    rw [weights_cons, List.length_cons]
    omega
theorem subs_le_weight (t : Tree) : t.subs.length < t.weight := by have := weight_eq t; have := subs_le_weights t.subs; omega
theorem subV_at {t s : Tree} {i : Nat} (h : t.subs[i]? = some s) : t.subV[i]? = some (nodeV s) := by rw [subV_eq, List.getElem?_map, h]; rfl
theorem subV_len (t : Tree) : t.subV.length = t.subs.length := by rw [subV_eq, List.length_map]
theorem wk_at0 : Wk (.tup [zeroV .nilsl, .ff]) (atV (zeroT []) none) := Wk.tup ⟨wk_zero (ss := []) (Wk.nil 6), .refl _, trivial⟩

set_option maxRecDepth 100000 in
theorem w_At (t : Tree) (p : List Int) (hp : p.length ≤ 1000000) : Pure Tryz.prog 54 [nodeV t, pathV p] (fun x => x = atV (zeroT []) (atT t p)) := by
  refine pure_wk (pure_fn 100 Tryz.func54 rfl rfl rfl fun B => ?_)
  show Goes _ _ _ _
  refine goes_iter (ι := Nat × Tree) (fun i => i.1 ≤ p.length ∧ atT i.2 (p.drop i.1) = atT t p) (fun i => p.length - i.1) (fun i => [(10, .int .i64 i.1), (9, .int .i64 (p.map intV).length), (8, pathV p), (2, .ptr (.loc 0) 0), (4, .ptr (.loc 1) 0)]) (fun i => [some (.box (nodeV i.2).cells), some (.box (zeroV .nilsl).cells)]) (0, t) 100 (fun _ => rfl) (fun _ => rfl) ⟨⟨Nat.zero_le _, rfl⟩, ?_, ?_⟩ ?_
  · exact ⟨⟨rfl, rfl⟩, ⟨rfl, rfl⟩, ⟨rfl, rfl⟩, ⟨rfl, rfl⟩, ⟨rfl, rfl⟩, trivial⟩
  · exact ⟨⟨rfl, rfl⟩, ⟨rfl, rfl⟩, trivial⟩
  rintro ⟨i, s⟩ ⟨k1, k2⟩ next
  simp only at k1 k2
  refine ⟨fun hlt => go 100 ?_, fun hge => go 100 ?_⟩
  · have hi : i < p.length := by simpa using hlt
    have hx : (p.map intV)[i]? = some (intV p[i]) := by simp [hi]
    rw [drop_cons hi, atT] at k2
    refine ⟨Int.natCast_nonneg i, _, hx, ?_⟩
    refine ⟨fun g1 => go 100 ?_, fun g1 => go 100 ?_⟩
    · have g1 := lt_of g1
      rw [subT_neg g1] at k2
      exact ⟨trivial, rfl, rfl, rfl, _, wk_at0, rfl, by rw [← k2]⟩
    have g1 := not_lt_of g1
    refine ⟨fun g2 => go 100 ?_, fun g2 => go 100 ?_⟩
    · have g2 := le_of g2
      rw [subV_len] at g2
      rw [subT_big g2] at k2
      exact ⟨trivial, rfl, rfl, rfl, _, wk_at0, rfl, by rw [← k2]⟩
    · have g2 := not_le_of g2
      rw [subV_len] at g2
      obtain ⟨u, hu, hv⟩ := subT_at g1 g2
      rw [hu] at k2
      refine ⟨g1, _, subV_at hv, ?_⟩
      refine ⟨by constructor <;> omega, ?_⟩
      exact next (i + 1, u) _ _ ⟨⟨hi, k2⟩, by simp only; omega, ⟨⟨rfl, rfl⟩, ⟨rfl, rfl⟩, ⟨rfl, rfl⟩, ⟨rfl, rfl⟩, ⟨rfl, rfl⟩, trivial⟩, ⟨⟨rfl, rfl⟩, ⟨rfl, rfl⟩, trivial⟩⟩
  · have hi : p.length ≤ i := by simpa using hge
    rw [List.drop_eq_nil_of_le hi, atT] at k2
    exact ⟨trivial, rfl, rfl, rfl, _, .refl _, rfl, by rw [← k2]; rfl⟩

set_option maxRecDepth 100000 in
theorem w_refAt (t : Tree) (p : List Int) (hp : p.length ≤ 1000000) : Pure Tryz.prog 77 [nodeV t, pathV p] (fun x => x = atV (zeroT []) (atT t p)) := by
  refine pure_wk (pure_fn 100 Tryz.func77 rfl rfl rfl fun B => ?_)
  show Goes _ _ _ _
  refine goes_iter (ι := Nat × Tree) (fun i => i.1 ≤ p.length ∧ atT i.2 (p.drop i.1) = atT t p) (fun i => p.length - i.1) (fun i => [(6, .int .i64 i.1), (1, pathV p), (2, .ptr (.loc 0) 0), (4, .ptr (.loc 1) 0)]) (fun i => [some (.box (nodeV i.2).cells), some (.box (zeroV .nilsl).cells)]) (0, t) 100 (fun _ => rfl) (fun _ => rfl) ⟨⟨Nat.zero_le _, rfl⟩, ?_, ?_⟩ ?_
  · exact ⟨⟨rfl, rfl⟩, ⟨rfl, rfl⟩, ⟨rfl, rfl⟩, ⟨rfl, rfl⟩, trivial⟩
  · exact ⟨⟨rfl, rfl⟩, ⟨rfl, rfl⟩, trivial⟩
  rintro ⟨i, s⟩ ⟨k1, k2⟩ next
  simp only at k1 k2
  refine ⟨fun hlt => go 100 ?_, fun hge => go 100 ?_⟩
  · have hi : i < p.length := by simpa using hlt
    have hx : (p.map intV)[i]? = some (intV p[i]) := by simp [hi]
    rw [drop_cons hi, atT] at k2
    show Goes _ _ _ _
    refine goes_draw 100 ⟨Int.natCast_nonneg i, _, hx, ⟨fun g1 => ?_, fun g1 => ?_⟩⟩
    · have g1 := lt_of g1
      rw [subT_neg g1] at k2
      refine ⟨by kernel_rfl, ?_⟩
      exact ⟨trivial, rfl, rfl, rfl, _, wk_at0, rfl, by rw [← k2]⟩
    have g1 := not_lt_of g1
    refine ⟨Int.natCast_nonneg i, _, hx, ?_⟩
    refine ⟨by kernel_rfl, ?_⟩
    refine ⟨fun g2 => go 100 ?_, fun g2 => go 100 ?_⟩
    · have g2 := le_of g2
      rw [subV_len] at g2
      rw [subT_big g2] at k2
      exact ⟨trivial, rfl, rfl, rfl, _, wk_at0, rfl, by rw [← k2]⟩
    · have g2 := not_le_of g2
      rw [subV_len] at g2
      obtain ⟨u, hu, hv⟩ := subT_at g1 g2
      rw [hu] at k2
      show Goes _ _ _ _
      refine goes_draw 100 ⟨Int.natCast_nonneg i, _, hx, g1, _, subV_at hv, ?_⟩
      refine ⟨by kernel_rfl, ?_⟩
      refine ⟨by constructor <;> omega, ?_⟩
      exact next (i + 1, u) _ _ ⟨⟨hi, k2⟩, by simp only; omega, ⟨⟨rfl, rfl⟩, ⟨rfl, rfl⟩, ⟨rfl, rfl⟩, ⟨rfl, rfl⟩, trivial⟩, ⟨⟨rfl, rfl⟩, ⟨rfl, rfl⟩, trivial⟩⟩
  · have hi : p.length ≤ i := by simpa using hge
    rw [List.drop_eq_nil_of_le hi, atT] at k2
    exact ⟨trivial, rfl, rfl, rfl, _, .refl _, rfl, by rw [← k2]; rfl⟩

theorem w_into (t : Tree) (at_ : Int) : Pure Tryz.prog 146 [nodeV t, intV at_] (fun x => x = .int .i64 (intoE t at_)) := by
  refine pure_fn 100 Tryz.func146 rfl rfl rfl fun B => ?_
  refine ⟨fun g1 => go 100 ?_, fun g1 => go 100 ?_⟩
  · exact ⟨trivial, rfl, rfl, rfl, by unfold intoE; rw [g1]; rfl⟩
  refine ⟨fun g2 => go 100 ?_, fun g2 => go 100 ?_⟩
  · rw [subV_len] at g2
    exact ⟨trivial, rfl, rfl, rfl, by unfold intoE; rw [g1, g2]; rfl⟩
  · rw [subV_len] at g2
    exact ⟨trivial, rfl, rfl, rfl, by unfold intoE; rw [g1, g2]; rfl⟩
theorem w_refInto (t : Tree) (at_ : Int) : Pure Tryz.prog 101 [nodeV t, intV at_] (fun x => x = .int .i64 (intoE t at_)) := by
  refine pure_fn 100 Tryz.func101 rfl rfl rfl fun B => ?_
  refine ⟨fun g1 => go 100 ?_, fun g1 => go 100 ?_⟩
  · exact ⟨trivial, rfl, rfl, rfl, by unfold intoE; rw [g1]; rfl⟩
  refine ⟨fun g2 => go 100 ?_, fun g2 => go 100 ?_⟩
  · rw [subV_len] at g2
    exact ⟨trivial, rfl, rfl, rfl, by unfold intoE; rw [g1, g2]; rfl⟩
  · rw [subV_len] at g2
    exact ⟨trivial, rfl, rfl, rfl, by unfold intoE; rw [g1, g2]; rfl⟩
end Bow
/- W18: changes of the node at a path: printed by gen_w18.py. -/
namespace Bow
open Go Go.Proofs

theorem subV_set (t : Tree) (i : Nat) (s : Tree) : t.subV.set i (nodeV s) = (t.subs.set i s).map nodeV := by rw [subV_eq, List.map_set]

set_option maxRecDepth 100000 in
theorem w_change1 (g : FuncId) (c1 : List V) (F : Tree → Tree) (y : Tree)
    (hg : Fun Tryz.prog g [some (.box (nodeV y).cells)] [.ptr (.loc 0) 0, .iptr c1 0] (fun _ T => T = [some (.box (nodeV (F y)).cells)])) :
    ∀ (p : List Int) (t : Tree), p.length ≤ 1000000 → t.weight ≤ 1000000 → atT t p = some y → Pure Tryz.prog 152 [nodeV t, pathV p, .fn (.func g) [] [.iptr c1 0]] (fun x => x = nodeV (changeT F t p))
  | [], t, hp, ht, hy => by
    rw [atT] at hy
    injection hy with hy
    subst hy
    refine pure_fn 100 Tryz.func152 rfl rfl rfl fun B => ?_
    refine ⟨fun g1 => go 100 ?_, fun g1 => ?_⟩
    case refine_2 => exact absurd rfl (ne_of g1)
    show CallThen _ _ _ _ _ _
    refine call_sub [0] hg rfl rfl ⟨⟨rfl, rfl⟩, trivial⟩ rfl rfl rfl ?_
    rintro x T1 rfl
    refine ⟨rfl, ?_⟩
    exact ⟨trivial, rfl, rfl, rfl, rfl⟩
  | i :: p, t, hp, ht, hy => by
    rw [atT] at hy
    cases hs : subT t i with
    | none => rw [hs] at hy; cases hy
    | some s =>
    rw [hs] at hy
    simp only at hy
    obtain ⟨hi0, hat, hmem⟩ := subT_some hs
    have hlt := lt_of_get hat
    have hw := weight_sub hmem
    have hsl := subs_le_weight t
    have ih := w_change1 g c1 F y hg p s (by simp at hp; omega) (by omega) hy
    refine pure_fn 100 Tryz.func152 rfl rfl rfl fun B => ?_
    refine ⟨fun g1 => ?_, fun g1 => go 100 ?_⟩
    · have := eq_of g1
      simp at this
      omega
    show CallThen _ _ _ _ _ _
    refine call_sub [] (w_CloneNode t.subV (by rw [subV_len]; omega)) rfl rfl trivial rfl rfl rfl ?_
    rintro x T1 (⟨e, _⟩ | ⟨rfl, rfl⟩)
    · have := congrArg List.length e
      rw [subV_len, List.length_nil] at this
      omega
    refine ⟨rfl, ?_⟩
    show Goes _ _ _ _
    have hx : t.subV[0 + i.toNat]? = some (nodeV s) := by rw [Nat.zero_add]; exact subV_at hat
    have hil : i < (t.subV.length : Int) := by rw [subV_len]; omega
    have e : V.sl 1 ((((i :: p).map intV).drop (Int.toNat 1)).take (((((i :: p).map intV).length : Nat) : Int).toNat - Int.toNat 1)) = pathV p := by
      unfold pathV
      rw [List.take_of_length_le (by simp)]
      rfl
    refine goes_draw 100 ⟨by decide, _, rfl, by decide, _, rfl, rfl, hi0, hil, rfl, _, hx, by decide, by simp; omega, by omega, nodeV (changeT F s p), ?_, rfl, rfl, hi0, hil, rfl, _, hx, ?_⟩
    · unfold pathV at e ih
      rw [e]
      exact ih
    refine ⟨by kernel_rfl, ?_⟩
    refine ⟨trivial, rfl, rfl, rfl, (by simp), rfl, ?_⟩
    rw [changeT, hs]
    simp only
    rw [withSubs_V, ← subV_set, Nat.zero_add]
    rfl

set_option maxRecDepth 100000 in
theorem w_change2 (g : FuncId) (c1 c2 : List V) (F : Tree → Tree) (y : Tree)
    (hg : Fun Tryz.prog g [some (.box (nodeV y).cells)] [.ptr (.loc 0) 0, .iptr c1 0, .iptr c2 0] (fun _ T => T = [some (.box (nodeV (F y)).cells)])) :
    ∀ (p : List Int) (t : Tree), p.length ≤ 1000000 → t.weight ≤ 1000000 → atT t p = some y → Pure Tryz.prog 152 [nodeV t, pathV p, .fn (.func g) [] [.iptr c1 0, .iptr c2 0]] (fun x => x = nodeV (changeT F t p))
  | [], t, hp, ht, hy => by
    rw [atT] at hy
    injection hy with hy
    subst hy
    refine pure_fn 100 Tryz.func152 rfl rfl rfl fun B => ?_
    refine ⟨fun g1 => go 100 ?_, fun g1 => ?_⟩
    case refine_2 => exact absurd rfl (ne_of g1)
    show CallThen _ _ _ _ _ _
    refine call_sub [0] hg rfl rfl ⟨⟨rfl, rfl⟩, trivial⟩ rfl rfl rfl ?_
    rintro x T1 rfl
    refine ⟨rfl, ?_⟩
    exact ⟨trivial, rfl, rfl, rfl, rfl⟩
  | i :: p, t, hp, ht, hy => by
    rw [atT] at hy
    cases hs : subT t i with
    | none => rw [hs] at hy; cases hy
    | some s =>
    rw [hs] at hy
    simp only at hy
    obtain ⟨hi0, hat, hmem⟩ := subT_some hs
    have hlt := lt_of_get hat
    have hw := weight_sub hmem
    have hsl := subs_le_weight t
    have ih := w_change2 g c1 c2 F y hg p s (by simp at hp; omega) (by omega) hy
    refine pure_fn 100 Tryz.func152 rfl rfl rfl fun B => ?_
    refine ⟨fun g1 => ?_, fun g1 => go 100 ?_⟩
    · have := eq_of g1
      simp at this
      omega
    show CallThen _ _ _ _ _ _
    refine call_sub [] (w_CloneNode t.subV (by rw [subV_len]; omega)) rfl rfl trivial rfl rfl rfl ?_
    rintro x T1 (⟨e, _⟩ | ⟨rfl, rfl⟩)
    · have := congrArg List.length e
      rw [subV_len, List.length_nil] at this
      omega
    refine ⟨rfl, ?_⟩
    show Goes _ _ _ _
    have hx : t.subV[0 + i.toNat]? = some (nodeV s) := by rw [Nat.zero_add]; exact subV_at hat
    have hil : i < (t.subV.length : Int) := by rw [subV_len]; omega
    have e : V.sl 1 ((((i :: p).map intV).drop (Int.toNat 1)).take (((((i :: p).map intV).length : Nat) : Int).toNat - Int.toNat 1)) = pathV p := by
      unfold pathV
      rw [List.take_of_length_le (by simp)]
      rfl
    refine goes_draw 100 ⟨by decide, _, rfl, by decide, _, rfl, rfl, hi0, hil, rfl, _, hx, by decide, by simp; omega, by omega, nodeV (changeT F s p), ?_, rfl, rfl, hi0, hil, rfl, _, hx, ?_⟩
    · unfold pathV at e ih
      rw [e]
      exact ih
    refine ⟨by kernel_rfl, ?_⟩
    refine ⟨trivial, rfl, rfl, rfl, (by simp), rfl, ?_⟩
    rw [changeT, hs]
    simp only
    rw [withSubs_V, ← subV_set, Nat.zero_add]
    rfl

end Bow
/- W19: nodes put in and taken out. -/
namespace Bow
open Go Go.Proofs

set_option maxRecDepth 100000 in
theorem w_insert1 (x y : Tree) (n : Int) (h0 : 0 ≤ n) (h1 : n ≤ y.subs.length) (hl : y.subs.length ≤ 900000) : Fun Tryz.prog 193 [some (.box (nodeV y).cells)] [.ptr (.loc 0) 0, .iptr [intV n] 0, .iptr (nodeV x).cells 0] (fun _ T => T = [some (.box (nodeV (insT n x y)).cells)]) := by
  refine fun_keep 1 rfl (fun_fn 100 Tryz.func193 rfl rfl rfl fun imps B hi => ?_)
  obtain ⟨r, rfl⟩ := List.length_eq_one_iff.1 hi
  show Goes _ _ _ _
  have hnl : n ≤ (y.subV.length : Int) := by rw [subV_len]; exact h1
  have hc := w_ConcatNode [(y.subV.drop (Int.toNat 0)).take (n.toNat - Int.toNat 0), [nodeV x], (y.subV.drop n.toNat).take ((y.subV.length : Int).toNat - n.toNat)] (by
    simp [subV_len]; omega) (by simp)
  refine goes_draw 100 ⟨by decide, h0, hnl, ?_⟩
  refine ⟨by kernel_rfl, ⟨rfl, trivial⟩, rfl, h0, hnl, Int.le_refl _, ?_⟩
  refine ⟨by kernel_rfl, rfl, rfl, ⟨rfl, rfl, rfl, trivial⟩, rfl, rfl, rfl, _, hc, rfl, ?_⟩
  refine ⟨by kernel_rfl, ?_⟩
  refine ⟨trivial, rfl, rfl, [some (.box [.int .u64 y.id, .bool y.leaf, .str y.label, .sl 2 (y.attrs.map attrV), .str y.text, .sl 6 [(y.subV.drop (Int.toNat 0)).take (n.toNat - Int.toNat 0), [nodeV x], (y.subV.drop n.toNat).take ((y.subV.length : Int).toNat - n.toNat)].flatten])], rfl, rfl, ⟨⟨rfl, rfl⟩, trivial⟩, ?_⟩
  have e : [(y.subV.drop (Int.toNat 0)).take (n.toNat - Int.toNat 0), [nodeV x], (y.subV.drop n.toNat).take ((y.subV.length : Int).toNat - n.toNat)].flatten = (y.subs.take n.toNat ++ x :: y.subs.drop n.toNat).map nodeV := by
    rw [subV_eq]
    simp [List.map_take, List.map_drop]
    rw [List.take_of_length_le (by simp)]
  rw [e, insT, withSubs_V]
  rfl

set_option maxRecDepth 100000 in
theorem w_remove1 (y : Tree) (n : Int) (h0 : 0 ≤ n) (h1 : n < y.subs.length) (hl : y.subs.length ≤ 900000) : Fun Tryz.prog 195 [some (.box (nodeV y).cells)] [.ptr (.loc 0) 0, .iptr [intV n] 0] (fun _ T => T = [some (.box (nodeV (delT n y)).cells)]) := by
  refine fun_keep 1 rfl (fun_fn 100 Tryz.func195 rfl rfl rfl fun imps B hi => ?_)
  obtain ⟨r, rfl⟩ := List.length_eq_one_iff.1 hi
  show Goes _ _ _ _
  have hnl : n ≤ (y.subV.length : Int) := by rw [subV_len]; omega
  have hnl' : n + 1 ≤ (y.subV.length : Int) := by rw [subV_len]; omega
  have hc := w_ConcatNode [(y.subV.drop (Int.toNat 0)).take (n.toNat - Int.toNat 0), (y.subV.drop (n + 1).toNat).take ((y.subV.length : Int).toNat - (n + 1).toNat)] (by
    simp [subV_len]; omega) (by simp)
  refine goes_draw 100 ⟨by decide, h0, hnl, ?_⟩
  refine ⟨⟨by omega, by omega⟩, by omega, hnl', Int.le_refl _, ?_⟩
  refine ⟨by kernel_rfl, ⟨rfl, rfl, trivial⟩, rfl, rfl, rfl, _, hc, rfl, ?_⟩
  refine ⟨by kernel_rfl, ?_⟩
  refine ⟨trivial, rfl, rfl, [some (.box [.int .u64 y.id, .bool y.leaf, .str y.label, .sl 2 (y.attrs.map attrV), .str y.text, .sl 6 [(y.subV.drop (Int.toNat 0)).take (n.toNat - Int.toNat 0), (y.subV.drop (n + 1).toNat).take ((y.subV.length : Int).toNat - (n + 1).toNat)].flatten])], rfl, rfl, ⟨⟨rfl, rfl⟩, trivial⟩, ?_⟩
  have e : [(y.subV.drop (Int.toNat 0)).take (n.toNat - Int.toNat 0), (y.subV.drop (n + 1).toNat).take ((y.subV.length : Int).toNat - (n + 1).toNat)].flatten = (y.subs.take n.toNat ++ y.subs.drop (n.toNat + 1)).map nodeV := by
    have e1 : (n + 1).toNat = n.toNat + 1 := by omega
    rw [subV_eq, e1]
    simp [List.map_take, List.map_drop]
    rw [List.take_of_length_le (by simp)]
  rw [e, delT, withSubs_V]
  rfl

set_option maxRecDepth 100000 in
theorem w_insert (t x y : Tree) (p : List Int) (n : Int) (hp : p.length ≤ 1000000) (ht : t.weight ≤ 900000) (hy : atT t p = some y) (h0 : 0 ≤ n) (h1 : n ≤ y.subs.length) :
    Pure Tryz.prog 149 [nodeV t, pathV p, intV n, nodeV x] (fun z => z = nodeV (changeT (insT n x) t p)) := by
  have hyw := atT_weight hy
  have hys := subs_le_weight y
  refine pure_fn 100 Tryz.func149 rfl rfl rfl fun B => ?_
  show CallThen _ _ _ _ _ _
  refine call_freeze 1 rfl rfl ?_
  refine call_freeze 2 rfl rfl ?_
  refine call_pure (w_change2 193 [intV n] (nodeV x).cells (insT n x) y (w_insert1 x y n h0 h1 (by omega)) p t hp (by omega) hy) rfl ?_
  rintro z rfl
  exact ⟨trivial, rfl, rfl, rfl, rfl⟩

set_option maxRecDepth 100000 in
theorem w_remove (t y : Tree) (p : List Int) (hp : p.length ≤ 1000000) (hne : p ≠ []) (ht : t.weight ≤ 900000) (hy : atT t p.dropLast = some y) (h0 : 0 ≤ p.getLast hne) (h1 : p.getLast hne < y.subs.length) :
    Pure Tryz.prog 150 [nodeV t, pathV p] (fun z => z = nodeV (changeT (delT (p.getLast hne)) t p.dropLast)) := by
  have hyw := atT_weight hy
  have hys := subs_le_weight y
  refine pure_fn 100 Tryz.func150 rfl rfl rfl fun B => ?_
  show CallThen _ _ _ _ _ _
  refine call_pure (w_Parent p hp hne) rfl ?_
  rintro z rfl
  show CallThen _ _ _ _ _ _
  refine call_freeze 2 rfl rfl ?_
  refine call_pure (w_change1 195 [intV (p.getLast hne)] (delT (p.getLast hne)) y (w_remove1 y _ h0 h1 (by omega)) p.dropLast t (by simp; omega) (by omega) hy) rfl ?_
  rintro z rfl
  exact ⟨trivial, rfl, rfl, rfl, rfl⟩
end Bow
/- W20: where a moved node lands. -/
namespace Bow
open Go Go.Proofs

def landV (r : List Int × Int) : V := .tup [pathV r.1, intV r.2]

set_option maxRecDepth 100000 in
theorem w_landing (p to : List Int) (n : Int) (hp : p.length ≤ 1000000) (ht : to.length ≤ 1000000) (hne : p ≠ []) (hn : inI n) (hr : ∀ x ∈ to, inI x) (h0 : 0 ≤ p.getLast hne) :
    Pure Tryz.prog 151 [pathV p, pathV to, intV n] (fun z => z = landV (landT p.dropLast (p.getLast hne) to n)) := by
  obtain ⟨hn1, hn2⟩ := hn
  have hq : p.dropLast.length ≤ 1000000 := by simp; omega
  refine pure_fn 100 Tryz.func151 rfl rfl rfl fun B => ?_
  show CallThen _ _ _ _ _ _
  refine call_pure (w_Parent p hp hne) rfl ?_
  rintro z rfl
  show CallThen _ _ _ _ _ _
  refine call_pure (w_pathSame p.dropLast to hq) rfl ?_
  rintro z rfl
  have other : (decide (p.dropLast = to) && decide (p.getLast hne < n)) = false → landT p.dropLast (p.getLast hne) to n = bif within p.dropLast to && (decide (p.dropLast.length < to.length) && decide (p.getLast hne < to.getD p.dropLast.length 0)) then (to.set p.dropLast.length (to.getD p.dropLast.length 0 - 1), n) else (to, n) := fun h => by
    unfold landT
    rw [h]
    rfl
  have hlen : ((p.dropLast.map intV).length : Int) = (p.dropLast.length : Int) := by simp
  refine ⟨fun g1 => go 100 ⟨fun g2 => go 100 ?_, fun g2 => ?_⟩, fun g1 => ?_⟩
  · have g2' := lt_of g2
    refine ⟨by constructor <;> omega, ?_⟩
    refine ⟨trivial, rfl, rfl, rfl, ?_⟩
    unfold landT
    rw [g1, g2]
    rfl
  case refine_2 =>
    replace other := other (by rw [g1, g2]; rfl)
    refine go 100 ?_
    show CallThen _ _ _ _ _ _
    refine call_pure (w_pathWithin p.dropLast to hq) rfl ?_
    rintro z rfl
    refine ⟨fun g3 => go 100 ⟨fun g4 => go 100 ?_, fun g4 => go 100 ?_⟩, fun g3 => go 100 ?_⟩
    · have g4' := lt_of g4
      rw [hlen] at g4'
      simp only [List.length_map] at g4'
      have g4l : p.dropLast.length < to.length := by omega
      have hx : (to.map intV)[(((p.dropLast.map intV).length : Nat) : Int).toNat]? = some (intV (to.getD p.dropLast.length 0)) := by
        have e : (((p.dropLast.map intV).length : Nat) : Int).toNat = p.dropLast.length := by simp
        rw [e, List.getElem?_map, List.getElem?_eq_getElem g4l, List.getD_eq_getElem?_getD, List.getElem?_eq_getElem g4l]
        rfl
      refine ⟨Int.natCast_nonneg _, _, hx, ?_⟩
      refine ⟨fun g5 => go 100 ?_, fun g5 => go 100 ?_⟩
      · show CallThen _ _ _ _ _ _
        refine call_sub [] (w_CloneInt (to.map intV) (by simpa using ht)) rfl rfl trivial rfl rfl rfl ?_
        rintro z T1 (⟨e, _⟩ | ⟨rfl, rfl⟩)
        · have := congrArg List.length e
          simp at this
          subst this
          simp at g4l
        refine ⟨rfl, ?_⟩
        have hx' : (to.map intV)[0 + (((p.dropLast.map intV).length : Nat) : Int).toNat]? = some (intV (to.getD p.dropLast.length 0)) := by rw [Nat.zero_add]; exact hx
        have hlt : (((p.dropLast.map intV).length : Nat) : Int) < ((to.map intV).length : Nat) := by simp; simp at g4l; omega
        have hr' := hr (to.getD p.dropLast.length 0) (by rw [List.getD_eq_getElem?_getD, List.getElem?_eq_getElem g4l]; exact List.getElem_mem g4l)
        have g5' := lt_of g5
        obtain ⟨r1, r2⟩ := hr'
        refine ⟨rfl, Int.natCast_nonneg _, hlt, rfl, _, hx', ⟨by omega, by omega⟩, rfl, Int.natCast_nonneg _, hlt, rfl, _, hx', ?_⟩
        refine ⟨trivial, rfl, rfl, rfl, by simp, rfl, ?_⟩
        rw [other]
        rw [g3, decide_eq_true g4l, g5]
        have e : 0 + (((p.dropLast.map intV).length : Nat) : Int).toNat = p.dropLast.length := by simp
        show V.tup [V.sl 1 (((to.map intV)).set _ (intV (to.getD p.dropLast.length 0 - 1))), intV n] = landV (to.set p.dropLast.length (to.getD p.dropLast.length 0 - 1), n)
        rw [e, ← List.map_set]
        rfl
      · refine ⟨trivial, rfl, rfl, rfl, ?_⟩
        rw [other, g3, decide_eq_true g4l, g5]
        rfl
    · refine ⟨trivial, rfl, rfl, rfl, ?_⟩
      have g4' := not_lt_of g4
      rw [hlen] at g4'
      simp only [List.length_map] at g4'
      have g4l : ¬ p.dropLast.length < to.length := by omega
      rw [other, g3, decide_eq_false g4l]
      rfl
    · refine ⟨trivial, rfl, rfl, rfl, ?_⟩
      rw [other, g3]
      rfl
  case refine_3 =>
    replace other := other (by rw [g1]; rfl)
    refine go 100 ?_
    show CallThen _ _ _ _ _ _
    refine call_pure (w_pathWithin p.dropLast to hq) rfl ?_
    rintro z rfl
    refine ⟨fun g3 => go 100 ⟨fun g4 => go 100 ?_, fun g4 => go 100 ?_⟩, fun g3 => go 100 ?_⟩
    · have g4' := lt_of g4
      rw [hlen] at g4'
      simp only [List.length_map] at g4'
      have g4l : p.dropLast.length < to.length := by omega
      have hx : (to.map intV)[(((p.dropLast.map intV).length : Nat) : Int).toNat]? = some (intV (to.getD p.dropLast.length 0)) := by
        have e : (((p.dropLast.map intV).length : Nat) : Int).toNat = p.dropLast.length := by simp
        rw [e, List.getElem?_map, List.getElem?_eq_getElem g4l, List.getD_eq_getElem?_getD, List.getElem?_eq_getElem g4l]
        rfl
      refine ⟨Int.natCast_nonneg _, _, hx, ?_⟩
      refine ⟨fun g5 => go 100 ?_, fun g5 => go 100 ?_⟩
      · show CallThen _ _ _ _ _ _
        refine call_sub [] (w_CloneInt (to.map intV) (by simpa using ht)) rfl rfl trivial rfl rfl rfl ?_
        rintro z T1 (⟨e, _⟩ | ⟨rfl, rfl⟩)
        · have := congrArg List.length e
          simp at this
          subst this
          simp at g4l
        refine ⟨rfl, ?_⟩
        have hx' : (to.map intV)[0 + (((p.dropLast.map intV).length : Nat) : Int).toNat]? = some (intV (to.getD p.dropLast.length 0)) := by rw [Nat.zero_add]; exact hx
        have hlt : (((p.dropLast.map intV).length : Nat) : Int) < ((to.map intV).length : Nat) := by simp; simp at g4l; omega
        have hr' := hr (to.getD p.dropLast.length 0) (by rw [List.getD_eq_getElem?_getD, List.getElem?_eq_getElem g4l]; exact List.getElem_mem g4l)
        have g5' := lt_of g5
        obtain ⟨r1, r2⟩ := hr'
        refine ⟨rfl, Int.natCast_nonneg _, hlt, rfl, _, hx', ⟨by omega, by omega⟩, rfl, Int.natCast_nonneg _, hlt, rfl, _, hx', ?_⟩
        refine ⟨trivial, rfl, rfl, rfl, by simp, rfl, ?_⟩
        rw [other]
        rw [g3, decide_eq_true g4l, g5]
        have e : 0 + (((p.dropLast.map intV).length : Nat) : Int).toNat = p.dropLast.length := by simp
        show V.tup [V.sl 1 (((to.map intV)).set _ (intV (to.getD p.dropLast.length 0 - 1))), intV n] = landV (to.set p.dropLast.length (to.getD p.dropLast.length 0 - 1), n)
        rw [e, ← List.map_set]
        rfl
      · refine ⟨trivial, rfl, rfl, rfl, ?_⟩
        rw [other, g3, decide_eq_true g4l, g5]
        rfl
    · refine ⟨trivial, rfl, rfl, rfl, ?_⟩
      have g4' := not_lt_of g4
      rw [hlen] at g4'
      simp only [List.length_map] at g4'
      have g4l : ¬ p.dropLast.length < to.length := by omega
      rw [other, g3, decide_eq_false g4l]
      rfl
    · refine ⟨trivial, rfl, rfl, rfl, ?_⟩
      rw [other, g3]
      rfl
end Bow
/- W21: right trees. -/
namespace Bow
open Go Go.Proofs

set_option maxRecDepth 100000 in
theorem w_rightN (t : Tree) (h : t.weight ≤ 1000000) : Pure Tryz.prog 109 [nodeV t] (fun x => x = .bool (rightN t)) := by
  have hw := weight_eq t
  refine pure_wk (pure_fn 300 Tryz.func109 rfl rfl rfl fun B => ?_)
  repeat' first
    | (refine ⟨fun _ => go 300 ?_, fun _ => go 300 ?_⟩)
    | (refine ⟨trivial, rfl, rfl, rfl, leaf_ff ?_⟩)
    | (show Goes _ _ _ _
       suffices hr : rightN t = attrsOk none t.attrs by
         refine goes_iter (ι := Nat) (fun i => i ≤ t.attrs.length ∧ attrsOk (prevK t.attrs i) (t.attrs.drop i) = rightN t) (fun i => t.attrs.length - i) (fun i => [(32, .int .i64 i), (31, .int .i64 (t.attrs.map attrV).length), (30, .sl 2 (t.attrs.map attrV)), (1, .ptr (.loc 0) 0)]) (fun i => [some (.box (nodeV t).cells)]) 0 300 (fun _ => rfl) (fun _ => rfl) ⟨⟨Nat.zero_le _, hr.symm⟩, ⟨⟨rfl, rfl⟩, ⟨rfl, rfl⟩, ⟨rfl, rfl⟩, ⟨rfl, rfl⟩, trivial⟩, ⟨⟨rfl, rfl⟩, trivial⟩⟩ ?_
         rintro i ⟨k1, k2⟩ next
         refine ⟨fun hlt => go 300 ?_, fun hge => go 300 ?_⟩
         · have hi : i < t.attrs.length := by simpa using hlt
           have hx : (t.attrs.map attrV)[i]? = some (attrV t.attrs[i]) := by simp [hi]
           rw [attrs_at hi] at k2
           unfold attrOk at k2
           have cont : keyOk t.attrs[i].1 = true → decide ((t.attrs[i].2.length : Int) ≤ 256) = true → ordOk (prevK t.attrs i) t.attrs[i].1 = true → attrsOk (prevK t.attrs (i + 1)) (t.attrs.drop (i + 1)) = rightN t := fun a b c => by rw [a, b, c] at k2; simpa using k2
           have stop1 : keyOk t.attrs[i].1 = false → rightN t = false := fun a => by rw [← k2, a]; rfl
           have stop2 : decide ((t.attrs[i].2.length : Int) ≤ 256) = false → rightN t = false := fun a => by rw [← k2, a]; simp
           have stop3 : ordOk (prevK t.attrs i) t.attrs[i].1 = false → rightN t = false := fun a => by rw [← k2, a]; simp
           refine ⟨Int.natCast_nonneg i, _, hx, ?_⟩
           show Goes _ _ _ _
           refine goes_draw 300 ⟨_, w_Key t.attrs[i].1, rfl, ⟨fun q1 => ?_, fun q1 => ⟨fun q2 => ?_, fun q2 => ⟨fun q3 => ?_, fun q3 => ?_⟩⟩⟩⟩
           · refine ⟨by kernel_rfl, ?_⟩
             exact ⟨trivial, rfl, rfl, rfl, leaf_ff (stop1 (by simpa using q1))⟩
           · refine ⟨by kernel_rfl, ?_⟩
             exact ⟨trivial, rfl, rfl, rfl, leaf_ff (stop2 (by have := lt_of q2; simp; omega))⟩
           · have q3' : 0 < i := by have := lt_of q3; omega
             have hx' : (t.attrs.map attrV)[((i : Int) - 1).toNat]? = some (attrV t.attrs[i - 1]) := by
               have : ((i : Int) - 1).toNat = i - 1 := by omega
               rw [this]
               simp [show i - 1 < t.attrs.length by omega]
             have hp : prevK t.attrs i = some t.attrs[i - 1].1 := by
               obtain ⟨j, rfl⟩ : ∃ j, i = j + 1 := ⟨i - 1, by omega⟩
               rw [prevK, List.getD_eq_getElem?_getD, List.getElem?_eq_getElem (by omega)]
               rfl
             rw [hp] at cont stop3
             refine ⟨⟨by omega, by omega⟩, by omega, _, hx', ?_⟩
             refine ⟨by kernel_rfl, ?_⟩
             refine ⟨fun q4 => go 300 ?_, fun q4 => go 300 ?_⟩
             · exact ⟨trivial, rfl, rfl, rfl, leaf_ff (stop3 (congrArg Bool.not q4))⟩
             · refine ⟨by constructor <;> omega, ?_⟩
               exact next (i + 1) _ _ ⟨⟨hi, cont (by simpa using q1) (by have := not_lt_of q2; simp; omega) (congrArg Bool.not q4)⟩, by omega, ⟨⟨rfl, rfl⟩, ⟨rfl, rfl⟩, ⟨rfl, rfl⟩, ⟨rfl, rfl⟩, trivial⟩, ⟨⟨rfl, rfl⟩, trivial⟩⟩
           · have q3' : i = 0 := by have := not_lt_of q3; omega
             subst q3'
             refine ⟨by kernel_rfl, ?_⟩
             refine ⟨by constructor <;> omega, ?_⟩
             exact next 1 _ _ ⟨⟨hi, cont (by simpa using q1) (by have := not_lt_of q2; simp; omega) rfl⟩, by omega, ⟨⟨rfl, rfl⟩, ⟨rfl, rfl⟩, ⟨rfl, rfl⟩, ⟨rfl, rfl⟩, trivial⟩, ⟨⟨rfl, rfl⟩, trivial⟩⟩
         · have hi : i = t.attrs.length := by have : t.attrs.length ≤ i := by simpa using hge
                                              omega
           subst hi
           rw [List.drop_eq_nil_of_le (Nat.le_refl _), attrsOk] at k2
           exact ⟨trivial, rfl, rfl, rfl, leaf_tt k2.symm⟩)
    | fail
  all_goals (simp_all [rightN, headOk, subV_eq])
def rightUpd (_ : Unit) (p : Int × Tree) : Unit × Option Code := bif rightN p.2 then ((), none) else ((), some .ret)
theorem rightUpd_all : ∀ l : List (Int × Tree), rfold rightUpd () l = bif l.all (fun p => rightN p.2) then ((), none) else ((), some .ret)
  | [] => rfl
  | p :: l => by
    rw [rfold, List.all_cons]
    cases h : rightN p.2 with
    | false => simp [rightUpd, h]
    | true =>
      simp only [rightUpd, h, cond_true, Bool.true_and]
      exact rightUpd_all l

set_option maxRecDepth 100000 in
theorem w_RightT (t : Tree) (h : t.weight ≤ 1000000) : Pure Tryz.prog 56 [nodeV t] (fun x => x = .bool (rightT t)) := by
  have hs := size_le_weight t
  refine pure_wk (pure_fn 100 Tryz.func56 rfl rfl rfl fun B => ?_)
  refine ⟨fun g1 => go 100 ?_, fun g1 => go 100 ?_⟩
  · exact ⟨trivial, rfl, rfl, rfl, leaf_ff (by unfold rightT; rw [g1]; rfl)⟩
  show CallThen _ _ _ _ _ _
  refine call_pure (w_nodes t) rfl ?_
  rintro x rfl
  show Goes _ _ _ _
  refine goes_range (σ := Unit) 100 2 (fun _ => [some (.box (nodeV t).cells), some (.box [.ff])]) rightUpd preV (fun _ l => ∀ p ∈ l, p.2.weight ≤ 1000000) () (t.pre 0) rfl rfl rfl (w_iter t (by omega)) rfl (fun _ => rfl) (fun _ => rfl) (fun _ => rfl) rfl (fun _ => rfl) (fun _ _ h => by cases h) ?_ ?_ ?_
  · exact fun p hp => Nat.le_trans (pre_mem_weight t 0 p hp).1 h
  · intro s a l hI
    refine ⟨fun _ p hp => hI p (List.mem_cons_of_mem _ hp), fun imps B r l h1 h2 => ?_⟩
    have h0 := hI a List.mem_cons_self
    have hr := w_rightN a.2 h0
    show Goes _ _ _ _
    refine goes_beginRound 100 rfl h2 rfl ?_
    show CallThen _ _ _ _ _ _
    refine call_pure hr rfl ?_
    rintro x rfl
    unfold rightUpd
    refine ⟨fun g => go 100 ?_, fun g => go 100 ?_⟩
    · have g : rightN a.2 = false := by simpa using g
      rw [g]
      exact ⟨rfl, rfl, trivial, ⟨rfl, rfl⟩, ⟨rfl, rfl⟩, ⟨rfl, rfl⟩, ⟨rfl, rfl⟩, trivial⟩
    · have g : rightN a.2 = true := by simpa using g
      rw [g]
      exact ⟨rfl, rfl, trivial, ⟨rfl, rfl⟩, ⟨rfl, rfl⟩, ⟨rfl, rfl⟩, ⟨rfl, rfl⟩, trivial⟩
  · rw [rightUpd_all, pre_right]
    cases hr : t.rightA with
    | true => exact ⟨trivial, rfl, rfl, rfl, leaf_tt (by unfold rightT; rw [g1, hr]; rfl)⟩
    | false => exact ⟨trivial, rfl, rfl, rfl, leaf_ff (by unfold rightT; rw [g1, hr]; rfl)⟩
end Bow
/- W22: right trees, in the document's words. -/
namespace Bow
open Go Go.Proofs

theorem rightsA_at {l : List Tree} {i : Nat} (hi : i < l.length) : rightsA (l.drop i) = (l[i].rightA && rightsA (l.drop (i + 1))) := by rw [List.drop_eq_getElem_cons hi, rightsA]

set_option maxRecDepth 100000 in
theorem w_refRightA (t : Tree) : t.weight ≤ 1000000 → Pure Tryz.prog 133 [nodeV t] (fun x => x = .bool t.rightA) := by
  induction t using Tree.ind with
  | _ t ih =>
  intro h
  have hw := weight_eq t
  refine pure_wk (pure_fn 300 Tryz.func133 rfl rfl rfl fun B => ?_)
  have hA := rightA_eq t
  have no : rightN t = false → t.rightA = false := fun e => by rw [hA, e]; rfl
  repeat' first
    | (refine ⟨fun _ => go 300 ?_, fun _ => go 300 ?_⟩)
    | (refine ⟨trivial, rfl, rfl, rfl, leaf_ff ?_⟩)
    | (show Goes _ _ _ _
       suffices hr : rightN t = attrsOk none t.attrs by
         refine goes_while (ι := Nat) (fun i => i ≤ t.attrs.length ∧ attrsOk (prevK t.attrs i) (t.attrs.drop i) = rightN t) (fun i => t.attrs.length - i) (fun i => [(3, .int .i64 i), (1, .ptr (.loc 0) 0)]) (fun i => [some (.box (nodeV t).cells)]) 0
           (fun _ : Unit => rightN t = true) (fun _ => [(1, .ptr (.loc 0) 0)]) (fun _ => [some (.box (nodeV t).cells)]) 300 (fun _ => rfl) (fun _ => rfl) (fun _ => rfl) (fun _ => rfl) ⟨⟨Nat.zero_le _, hr.symm⟩, ⟨⟨rfl, rfl⟩, ⟨rfl, rfl⟩, trivial⟩, ⟨⟨rfl, rfl⟩, trivial⟩⟩ ?_ ?_
         · rintro ⟨⟩ hN
           show Goes _ _ _ _
           refine goes_iter (ι := Nat) (fun i => i ≤ t.subs.length ∧ rightsA (t.subs.drop i) = rightsA t.subs) (fun i => t.subs.length - i) (fun i => [(4, .int .i64 i), (1, .ptr (.loc 0) 0)]) (fun i => [some (.box (nodeV t).cells)]) 0 300 (fun _ => rfl) (fun _ => rfl) ⟨⟨Nat.zero_le _, rfl⟩, ⟨⟨rfl, rfl⟩, ⟨rfl, rfl⟩, trivial⟩, ⟨⟨rfl, rfl⟩, trivial⟩⟩ ?_
           rintro i ⟨k1, k2⟩ next
           refine ⟨fun hlt => go 300 ?_, fun hge => go 300 ?_⟩
           · have hi : i < t.subs.length := by simpa [subV_eq] using hlt
             have hmem : t.subs[i] ∈ t.subs := List.getElem_mem hi
             have hws := weight_sub hmem
             have hsl := subs_le_weight t
             rw [rightsA_at hi] at k2
             refine ⟨Int.natCast_nonneg i, nodeV t.subs[i], by simp [subV_eq, hi], ?_⟩
             show CallThen _ _ _ _ _ _
             refine call_pure (ih _ hmem (by omega)) rfl ?_
             rintro x rfl
             refine ⟨fun g => go 300 ?_, fun g => go 300 ?_⟩
             · have g : (t.subs[i]).rightA = false := by simpa using g
               exact ⟨trivial, rfl, rfl, rfl, leaf_ff (by rw [hA, ← k2, g]; simp)⟩
             · have g : (t.subs[i]).rightA = true := by simpa using g
               rw [g, Bool.true_and] at k2
               refine ⟨by constructor <;> omega, ?_⟩
               exact next (i + 1) _ _ ⟨⟨hi, k2⟩, by omega, ⟨⟨rfl, rfl⟩, ⟨rfl, rfl⟩, trivial⟩, ⟨⟨rfl, rfl⟩, trivial⟩⟩
           · have hi : t.subs.length ≤ i := by simpa [subV_eq] using hge
             rw [List.drop_eq_nil_of_le hi, rightsA] at k2
             exact ⟨trivial, rfl, rfl, rfl, leaf_tt (by rw [hA, hN, ← k2]; rfl)⟩
         · rintro i ⟨k1, k2⟩ next post
           refine ⟨fun hlt => go 300 ?_, fun hge => go 300 ?_⟩
           · have hi : i < t.attrs.length := by simpa using hlt
             have hx : (t.attrs.map attrV)[i]? = some (attrV t.attrs[i]) := by simp [hi]
             rw [attrs_at hi] at k2
             unfold attrOk at k2
             have cont : keyOk t.attrs[i].1 = true → decide ((t.attrs[i].2.length : Int) ≤ 256) = true → ordOk (prevK t.attrs i) t.attrs[i].1 = true → attrsOk (prevK t.attrs (i + 1)) (t.attrs.drop (i + 1)) = rightN t := fun a b c => by rw [a, b, c] at k2; simpa using k2
             have stop1 : keyOk t.attrs[i].1 = false → rightN t = false := fun a => by rw [← k2, a]; rfl
             have stop2 : decide ((t.attrs[i].2.length : Int) ≤ 256) = false → rightN t = false := fun a => by rw [← k2, a]; simp
             have stop3 : ordOk (prevK t.attrs i) t.attrs[i].1 = false → rightN t = false := fun a => by rw [← k2, a]; simp
             show Goes _ _ _ _
             refine goes_draw 300 ⟨Int.natCast_nonneg i, _, hx, _, w_refKey t.attrs[i].1, rfl, ⟨fun q1 => ?_, fun q1 => ⟨Int.natCast_nonneg i, _, hx, ⟨fun q2 => ?_, fun q2 => ⟨fun q3 => ?_, fun q3 => ?_⟩⟩⟩⟩⟩
             · refine ⟨by kernel_rfl, ?_⟩
               exact ⟨trivial, rfl, rfl, rfl, leaf_ff (no (stop1 (by simpa using q1)))⟩
             · refine ⟨by kernel_rfl, ?_⟩
               exact ⟨trivial, rfl, rfl, rfl, leaf_ff (no (stop2 (by have := lt_of q2; simp; omega)))⟩
             · have q3' : 0 < i := by have := lt_of q3; omega
               have hx' : (t.attrs.map attrV)[((i : Int) - 1).toNat]? = some (attrV t.attrs[i - 1]) := by
                 have : ((i : Int) - 1).toNat = i - 1 := by omega
                 rw [this]
                 simp [show i - 1 < t.attrs.length by omega]
               have hp : prevK t.attrs i = some t.attrs[i - 1].1 := by
                 obtain ⟨j, rfl⟩ : ∃ j, i = j + 1 := ⟨i - 1, by omega⟩
                 rw [prevK, List.getD_eq_getElem?_getD, List.getElem?_eq_getElem (by omega)]
                 rfl
               rw [hp] at cont stop3
               refine ⟨Int.natCast_nonneg i, _, hx, ⟨by omega, by omega⟩, by omega, _, hx', ?_⟩
               refine ⟨by kernel_rfl, ?_⟩
               refine ⟨fun q4 => go 300 ?_, fun q4 => go 300 ?_⟩
               · exact ⟨trivial, rfl, rfl, rfl, leaf_ff (no (stop3 (congrArg Bool.not q4)))⟩
               · refine ⟨by constructor <;> omega, ?_⟩
                 exact next (i + 1) _ _ ⟨⟨hi, cont (by simpa using q1) (by have := not_lt_of q2; simp; omega) (congrArg Bool.not q4)⟩, by omega, ⟨⟨rfl, rfl⟩, ⟨rfl, rfl⟩, trivial⟩, ⟨⟨rfl, rfl⟩, trivial⟩⟩
             · have q3' : i = 0 := by have := not_lt_of q3; omega
               subst q3'
               refine ⟨by kernel_rfl, ?_⟩
               refine ⟨by constructor <;> omega, ?_⟩
               exact next 1 _ _ ⟨⟨hi, cont (by simpa using q1) (by have := not_lt_of q2; simp; omega) rfl⟩, by omega, ⟨⟨rfl, rfl⟩, ⟨rfl, rfl⟩, trivial⟩, ⟨⟨rfl, rfl⟩, trivial⟩⟩
           · have hi : i = t.attrs.length := by have : t.attrs.length ≤ i := by simpa using hge
                                                omega
             subst hi
             rw [List.drop_eq_nil_of_le (Nat.le_refl _), attrsOk] at k2
             exact post () _ _ _ rfl ⟨k2.symm, ⟨⟨rfl, rfl⟩, trivial⟩, ⟨⟨rfl, rfl⟩, trivial⟩⟩)
    | fail
  all_goals (first | refine no ?_ | skip)
  all_goals (simp_all [rightN, headOk, subV_eq])

theorem w_refRightT (t : Tree) (h : t.weight ≤ 1000000) : Pure Tryz.prog 75 [nodeV t] (fun x => x = .bool (rightT t)) := by
  refine pure_wk (pure_fn 100 Tryz.func75 rfl rfl rfl fun B => ?_)
  refine ⟨fun g1 => go 100 ?_, fun g1 => go 100 ?_⟩
  · show CallThen _ _ _ _ _ _
    refine call_pure (w_refRightA t h) rfl ?_
    rintro x rfl
    refine ⟨trivial, rfl, rfl, rfl, leaf_b ?_⟩
    unfold rightT
    rw [g1]
    rfl
  · refine ⟨trivial, rfl, rfl, rfl, leaf_ff ?_⟩
    unfold rightT
    rw [g1]
    rfl
end Bow
/- W23: edits of a text, in the document's words. -/
namespace Bow
open Go Go.Proofs

set_option maxRecDepth 100000 in
theorem w_extent (l : List PieceT) (hl : l.length ≤ 4096) (hok : ∀ p ∈ l, p.Ok) : Pure Tryz.prog 190 [piecesV l] (fun x => x = .int .i64 (extentP l)) := by
  refine pure_fn 100 Tryz.func190 rfl rfl rfl fun B => ?_
  show Goes _ _ _ _
  refine goes_iter (ι := Nat × Int) (fun i => i.1 ≤ l.length ∧ 0 ≤ i.2 ∧ i.2 + extentP (l.drop i.1) = extentP l) (fun i => l.length - i.1) (fun i => [(8, .int .i64 i.1), (7, .int .i64 (l.map pieceV).length), (6, piecesV l), (3, .int .i64 i.2)]) (fun _ => []) (0, 0) 100 (fun _ => rfl) (fun _ => rfl) ⟨⟨Nat.zero_le _, Int.le_refl _, by simp⟩, ⟨⟨rfl, rfl⟩, ⟨rfl, rfl⟩, ⟨rfl, rfl⟩, ⟨rfl, rfl⟩, trivial⟩, trivial⟩ ?_
  rintro ⟨i, n⟩ ⟨k1, k2, k3⟩ next
  simp only at k1 k2 k3
  have hle := extentP_le hok
  refine ⟨fun hlt => go 100 ?_, fun hge => go 100 ?_⟩
  · have hi : i < l.length := by simpa using hlt
    have hx : (l.map pieceV)[i]? = some (pieceV l[i]) := by simp [hi]
    have hp := hok l[i] (List.getElem_mem hi)
    have := hp.k0
    have := hp.d0
    have hn := extentP_nonneg (l := l.drop (i + 1)) fun q hq => hok q (List.mem_of_mem_drop hq)
    rw [drop_cons hi, extentP_cons] at k3
    refine ⟨Int.natCast_nonneg i, _, hx, ⟨by omega, by omega⟩, ⟨by omega, by omega⟩, ⟨by omega, by omega⟩, ?_⟩
    exact next (i + 1, n + (l[i].keep + l[i].drop)) _ _ ⟨⟨hi, by simp only; omega, by simp only; omega⟩, by simp only; omega, ⟨⟨rfl, rfl⟩, ⟨rfl, rfl⟩, ⟨rfl, rfl⟩, ⟨rfl, rfl⟩, trivial⟩, trivial⟩
  · have hi : l.length ≤ i := by simpa using hge
    rw [List.drop_eq_nil_of_le hi] at k3
    exact ⟨trivial, rfl, rfl, rfl, by rw [← k3]; simp [extentP]; rfl⟩

set_option maxRecDepth 100000 in
theorem w_refExtent (l : List PieceT) (hl : l.length ≤ 4096) (hok : ∀ p ∈ l, p.Ok) : Pure Tryz.prog 136 [piecesV l] (fun x => x = .int .i64 (extentP l)) := by
  refine pure_fn 100 Tryz.func136 rfl rfl rfl fun B => ?_
  show Goes _ _ _ _
  refine goes_iter (ι := Nat × Int) (fun i => i.1 ≤ l.length ∧ 0 ≤ i.2 ∧ i.2 + extentP (l.drop i.1) = extentP l) (fun i => l.length - i.1) (fun i => [(4, .int .i64 i.1), (0, piecesV l), (3, .int .i64 i.2)]) (fun _ => []) (0, 0) 100 (fun _ => rfl) (fun _ => rfl) ⟨⟨Nat.zero_le _, Int.le_refl _, by simp⟩, ⟨⟨rfl, rfl⟩, ⟨rfl, rfl⟩, ⟨rfl, rfl⟩, trivial⟩, trivial⟩ ?_
  rintro ⟨i, n⟩ ⟨k1, k2, k3⟩ next
  simp only at k1 k2 k3
  have hle := extentP_le hok
  refine ⟨fun hlt => go 100 ?_, fun hge => go 100 ?_⟩
  · have hi : i < l.length := by simpa using hlt
    have hx : (l.map pieceV)[i]? = some (pieceV l[i]) := by simp [hi]
    have hp := hok l[i] (List.getElem_mem hi)
    have := hp.k0
    have := hp.d0
    have hn := extentP_nonneg (l := l.drop (i + 1)) fun q hq => hok q (List.mem_of_mem_drop hq)
    rw [drop_cons hi, extentP_cons] at k3
    show Goes _ _ _ _
    refine goes_draw 100 ⟨Int.natCast_nonneg i, _, hx, ⟨by omega, by omega⟩, Int.natCast_nonneg i, _, hx, ⟨by omega, by omega⟩, ?_⟩
    refine ⟨by kernel_rfl, ?_⟩
    refine ⟨⟨by omega, by omega⟩, ?_⟩
    exact next (i + 1, n + l[i].keep + l[i].drop) _ _ ⟨⟨hi, by simp only; omega, by simp only; omega⟩, by simp only; omega, ⟨⟨rfl, rfl⟩, ⟨rfl, rfl⟩, ⟨rfl, rfl⟩, trivial⟩, trivial⟩
  · have hi : l.length ≤ i := by simpa using hge
    rw [List.drop_eq_nil_of_le hi] at k3
    exact ⟨trivial, rfl, rfl, rfl, by rw [← k3]; simp [extentP]; rfl⟩

set_option maxRecDepth 100000 in
theorem w_refEdit (t : List UInt8) (l : List PieceT) (ht : t.length ≤ 1000000000) (hl : l.length ≤ 1000000) (hpl : ∀ p ∈ l, p.put.length ≤ 1000000000) :
    Pure Tryz.prog 83 [.str t, piecesV l] (fun x => x = strE (applyE t l)) := by
  refine pure_fn 100 Tryz.func83 rfl rfl rfl fun B => ?_
  show CallThen _ _ _ _ _ _
  refine call_pure (w_refRight l hl hpl) rfl ?_
  rintro x rfl
  refine ⟨fun g1 => go 100 ?_, fun g1 => go 100 ?_⟩
  · exact ⟨trivial, rfl, rfl, rfl, by unfold applyE; rw [g1]; rfl⟩
  have hr : rightP l = true := by simpa using g1
  obtain ⟨r1, r2, r3⟩ := rightP_ok hr
  show CallThen _ _ _ _ _ _
  refine call_pure (w_refExtent l r1 r2) rfl ?_
  rintro x rfl
  refine ⟨fun g2 => go 100 ?_, fun g2 => go 100 ?_⟩
  · exact ⟨trivial, rfl, rfl, rfl, by unfold applyE; rw [g1, g2]; rfl⟩
  have g2' := not_lt_of g2
  have hfin : applyE t l = (editP t l, 0) := by unfold applyE; rw [g1, g2]; rfl
  show Goes _ _ _ _
  refine goes_iter (ι := Nat × List UInt8 × List UInt8) (fun i => i.1 ≤ l.length ∧ extentP (l.drop i.1) ≤ i.2.2.length ∧ i.2.1.length + i.2.2.length + putsLen (l.drop i.1) ≤ t.length + putsLen l ∧ i.2.1 ++ editP i.2.2 (l.drop i.1) = editP t l) (fun i => l.length - i.1)
    (fun i => [(7, .int .i64 i.1), (6, .str i.2.1), (0, .str i.2.2), (1, piecesV l)]) (fun _ => []) (0, [], t) 100 (fun _ => rfl) (fun _ => rfl) ⟨⟨Nat.zero_le _, g2', by simp, rfl⟩, ⟨⟨rfl, rfl⟩, ⟨rfl, rfl⟩, ⟨rfl, rfl⟩, ⟨rfl, rfl⟩, trivial⟩, trivial⟩ ?_
  rintro ⟨i, o, u⟩ ⟨k1, k2, k3, k4⟩ next
  simp only at k1 k2 k3 k4
  refine ⟨fun hlt => go 100 ?_, fun hge => go 100 ?_⟩
  · have hi : i < l.length := by simpa using hlt
    have hx : (l.map pieceV)[i]? = some (pieceV l[i]) := by simp [hi]
    have hp := r2 l[i] (List.getElem_mem hi)
    have p1 := hp.k0
    have p2 := hp.d0
    have p3 := hp.k1
    have p4 := hp.d1
    have hn := extentP_nonneg (l := l.drop (i + 1)) fun q hq => r2 q (List.mem_of_mem_drop hq)
    have e : putsLen (l[i] :: l.drop (i + 1)) = l[i].put.length + putsLen (l.drop (i + 1)) := rfl
    rw [drop_cons hi, extentP_cons] at k2
    rw [drop_cons hi, e] at k3
    rw [drop_cons hi, editP] at k4
    have hlen1 : ((u.drop (Int.toNat 0)).take (l[i].keep.toNat - Int.toNat 0)).length = l[i].keep.toNat := by simp; omega
    show Goes _ _ _ _
    refine goes_draw 100 ⟨Int.natCast_nonneg i, _, hx, by decide, p1, by simp only; omega, ?_, Int.natCast_nonneg i, _, hx, ?_, ?_⟩
    · simp only; rw [List.length_append, hlen1]; omega
    · simp only; rw [List.length_append, List.length_append, hlen1]; omega
    refine ⟨by kernel_rfl, ?_⟩
    show Goes _ _ _ _
    refine goes_draw 100 ⟨Int.natCast_nonneg i, _, hx, Int.natCast_nonneg i, _, hx, ⟨by omega, by omega⟩, by omega, by simp only; omega, Int.le_refl _, ?_⟩
    refine ⟨by kernel_rfl, ?_⟩
    refine ⟨⟨by omega, by omega⟩, ?_⟩
    have hlen2 : ((u.drop (l[i].keep + l[i].drop).toNat).take ((u.length : Int).toNat - (l[i].keep + l[i].drop).toNat)) = u.drop (l[i].keep + l[i].drop).toNat := List.take_of_length_le (by simp)
    refine next (i + 1, o ++ (u.drop (Int.toNat 0)).take (l[i].keep.toNat - Int.toNat 0) ++ l[i].put, (u.drop (l[i].keep + l[i].drop).toNat).take ((u.length : Int).toNat - (l[i].keep + l[i].drop).toNat)) _ _ ⟨⟨hi, ?_, ?_, ?_⟩, by simp only; omega, ⟨⟨rfl, rfl⟩, ⟨rfl, rfl⟩, ⟨rfl, rfl⟩, ⟨rfl, rfl⟩, trivial⟩, trivial⟩
    · simp only
      rw [hlen2, List.length_drop]
      omega
    · simp only
      rw [hlen2, List.length_drop, List.length_append, List.length_append, hlen1]
      omega
    · simp only
      rw [hlen2, ← k4]
      simp
  · have hi : l.length ≤ i := by simpa using hge
    rw [List.drop_eq_nil_of_le hi, editP] at k4
    rw [List.drop_eq_nil_of_le hi] at k3
    have e : putsLen [] = 0 := rfl
    rw [e] at k3
    refine ⟨by simp only; rw [List.length_append]; omega, ?_⟩
    exact ⟨trivial, rfl, rfl, rfl, by rw [hfin, ← k4]; rfl⟩
end Bow
/- AE39: a box whose cells are to say less. -/
namespace Bow
open Go

theorem goes_wkbox {c : Cx} {todo : List Item} {E : Env} {T : Heap} (k : Nat) {cs : List V} (cs' : List V) (hk : lget T k = some (some (.box cs))) (hp : V.pureL cs = true) (hp' : V.pureL cs' = true) (hw : WkL cs cs')
    (h : lset T k (some (.box cs')) fun T' => Goes c todo E T') : Goes c todo E T := by
  rw [lset_eq] at h
  rw [lget_eq] at hk
  refine goes_step fun w β H m a b cs0 hs _ _ _ => ?_
  obtain ⟨r, hr, hH⟩ := hs.at hk
  simp only [HObj.conv] at hH
  have hob := hs.hrel.obj r _ hH
  have hc : V.convL m cs = cs := pureL_conv m _ hp
  have hc' : V.convL m cs' = cs' := pureL_conv m _ hp'
  have hfr : Fr w β H w β (H.set r (some ((HObj.box cs').conv m))) := Fr.swap hH trivial
  have hrel : HRel w β (H.set r (some ((HObj.box cs').conv m))) := by
    refine hs.hrel.swap hH trivial ?_
    simp only [HObj.conv]
    cases hβ : β r with
    | none => trivial
    | nil => rw [hβ] at hob; exact hob
    | blk bb N =>
      rw [hβ] at hob
      obtain ⟨vs, e, q1, q2, q3, q4⟩ := hob
      rw [hc] at q3 q4
      refine ⟨vs, e, q1, q2, by rw [hc', hw.len]; exact q3, fun i x v hi hv => ?_⟩
      rw [hc'] at hi
      obtain ⟨x0, h1, h2⟩ := hw.get i x hi
      exact (h2 w β H v (q4 i x0 v h1 hv)).mono (by rw [← HObj.conv]; exact hfr)
  have hset := hs.setAt (o' := some (.box cs')) (w' := w) hr (fun o1 e1 => by
      injection e1 with e1
      subst e1
      have h1 := hc'
      exact (V.scL_iff _ _).2 fun v hv => pureSc _ v (pureL_mem _ hp' v hv))
    (fun hm => absurd hm (hs.notD hk (by simp))) hfr hrel
  exact ⟨w, β, _, m, a, todo, ⟨E, _, c.B, c.D⟩, .refl _ _, hset, hfr, h⟩
end Bow
/- AE40: a function's contract out of a walk by the kit's own tactics: all that it wrote lies in new memory. -/
namespace Bow
open Go

theorem pure_of_calls {P : Program} {f : FuncId} {args : List V} {Q : V → Prop} (he : Enterable P f) (hp : V.pureL args = true)
    (h : ∀ (w : World) (β : Nat → Loc) (H : Heap) (vals : Array Value), args.length = vals.size → (∀ (j : Nat) (x : V) (v : Value), args[j]? = some x → vals[j]? = some v → Rep w β H x v) →
      Calls P f vals w fun e w' => RowKit.Below w.heap.size w w' ∧ ∃ (x : V) (v : Value), e = .returned v ∧ Q x ∧ x.pureB = true ∧ Rep w' β H x v) : Pure P f args Q := by
  unfold Pure Fun
  refine ⟨he, fun w β H m B vals cs hs hl hr => ?_⟩
  obtain ⟨e, w', fr, ⟨hb, x, v, rfl, hq, hx, hv⟩, k1, k2, k3⟩ := h w β H vals hl (fun j x v hj hv => by
    have := hr j x v hj hv
    rwa [pure_conv _ _ (pureL_mem _ hp x (List.mem_of_getElem? hj))] at this) cs
  refine ⟨x, [], v, w', β, H, m, fr, ⟨rfl, hx, hq⟩, hs.same (Fr.of_below hb) (hs.hrel.of_below hb), Fr.of_below hb, ?_, k1, k2, k3⟩
  rwa [pure_conv _ _ hx]

def flatL : List V → Bool
  | [] => true
  | v :: vs => flatB v && flatL vs
theorem flatL_get : ∀ {vs : List V}, flatL vs = true → ∀ v ∈ vs, flatB v = true
  | [], _, v, h => by cases h
  | x :: vs, hg, v, h => by
    simp only [flatL, Bool.and_eq_true] at hg
    rcases List.mem_cons.1 h with rfl | h
    · exact hg.1
    · exact flatL_get hg.2 v h

section
variable {P : Program} {w w' : World} {β β' : Nat → Loc} {H H' : Heap}
theorem Rep.flat_sl {sz : Nat} {xs : List V} {v : Value} (hx : ∀ x ∈ xs, flatL x.cells = true) (h : Rep w β H (.sl sz xs) v) : Rep w β0 [] (.sl sz xs) v := by
  cases h with
  | sl _ _ a cap vals hcap hmax hsz ha hr =>
    refine .sl sz xs a cap vals hcap hmax hsz (fun hne => ?_) (fun i x j c hi hj => ?_)
    · obtain ⟨ad, h1, _, h3⟩ := ha hne
      exact ⟨ad, h1, notOwn0 _, h3⟩
    · exact (hr i x j c hi hj).flat (flatL_get (hx x (List.mem_of_getElem? hi)) c (List.mem_of_getElem? hj))
/-- What a slice's cells hold. -/
theorem sl_cells {sz : Nat} {xs : List V} {v : Value} (h : Rep w β H (.sl sz xs) v) : ∃ (a : Option Addr) (cap : Nat), v = .slice a xs.length cap ∧ xs.length ≤ cap ∧ cap ≤ maxLen ∧
    (xs ≠ [] → ∃ ad, a = some ad ∧ ad.block < w.heap.size ∧ ∀ (i : Nat) (x : V) (j : Nat) (c : V), xs[i]? = some x → x.cells[j]? = some c → ∃ u, w.cell? (ad.add (i * sz + j)) = some u ∧ Rep w β H c u) := by
  cases h with
  | sl _ _ a cap vals hcap hmax hsz ha hr =>
    refine ⟨a, cap, rfl, hcap, hmax, fun hne => ?_⟩
    obtain ⟨ad, h1, _, h3, h4⟩ := ha hne
    refine ⟨ad, h1, h3, fun i x j c hi hj => ⟨_, h4 _ ?_, hr i x j c hi hj⟩⟩
    have h5 : i < xs.length := lt_of_get hi
    have h6 : j < sz := by rw [← (hsz x (List.mem_of_getElem? hi)).1]; exact lt_of_get hj
    have : (i + 1) * sz ≤ xs.length * sz := Nat.mul_le_mul_right sz h5
    rw [Nat.succ_mul] at this
    omega

theorem calls_of_pureQ {f : FuncId} {args : List V} {vals : Array Value} {Q : V → Prop} {c : Value} (h : Pure P f args Q) (hc : ∀ (x : V) (v : Value) (w' : World) (β' : Nat → Loc) (H' : Heap), Q x → Rep w' β' H' x v → v = c) (hp : V.pureL args = true) (hl : args.length = vals.size)
    (hr : ∀ (j : Nat) (x : V) (v : Value), args[j]? = some x → vals[j]? = some v → Rep w β H x v) : Calls P f vals w fun e w' => e = .returned c ∧ RowKit.Below w.heap.size w w' := by
  intro cs
  obtain ⟨x, v, w', β', H', fr, hq, _, k3, hb, k4, k5, k6⟩ := pure_still h hp cs hl hr
  have hv := hc x v _ _ _ hq k3
  subst hv
  exact ⟨.returned v, w', fr, ⟨rfl, hb⟩, k4, k5, k6⟩

end
end Bow
/- WB1: strings.Builder's methods at this program: by the kit's own tactics. -/
namespace Bow
open Go Go.Proofs Go.RowKit Go.Shelf

theorem b_size : ((Tryz.prog).info? 160).map (·.size) = some 2 := by kernel_rfl
theorem b_lies : liesAt Tryz.prog Tryz.prog.depth 160 (2 / (Tryz.prog).cellsOf 160) 0 160 1 = true := by kernel_rfl
theorem b_byte : ((Tryz.prog).info? 5).map (fun i => (i.zero, i.size, i.bytes)) = some (some (.int .u8 0), 1, 1) := by kernel_rfl

set_option maxHeartbeats 1000000 in
set_option maxRecDepth 100000 in
theorem b_copyCheck_used (b : Nat) (w : World) (h0 : w.cell? ⟨b, 0, none⟩ = some (.pointer (some ⟨b, 0, none⟩))) :
    Calls Tryz.prog 224 #[.pointer (some ⟨b, 0, none⟩)] w fun e w' => e = .returned (.tuple #[]) ∧ w' = w := by
  obtain ⟨j, hj, _⟩ := Option.map_eq_some_iff.1 b_size
  go_enter Tryz.func224, Tryz.ntmps224
  go_wp2
  rw [Lib.run_neq_ptr_same w _ Tryz.underlying158 hj]
  go_wp2
  go_end0
  exact ⟨rfl, rfl⟩

set_option maxHeartbeats 1000000 in
set_option maxRecDepth 100000 in
theorem b_copyCheck_fresh (b : Nat) (w : World) (h0 : w.cell? ⟨b, 0, none⟩ = some (.pointer none)) (hsh : w.shape? b = some (160, 2)) (hfz : w.frozen? ⟨b, 0, none⟩ = false) :
    Calls Tryz.prog 224 #[.pointer (some ⟨b, 0, none⟩)] w fun e w' => e = .returned (.tuple #[]) ∧ w' = w.setCell ⟨b, 0, none⟩ (.pointer (some ⟨b, 0, none⟩)) := by
  obtain ⟨j, hj, hjs⟩ := Option.map_eq_some_iff.1 b_size
  go_enter Tryz.func224, Tryz.ntmps224
  go_wp2
  rw [Lib.run_to_unsafe w ⟨b, 0, none⟩ Tryz.underlying158 Tryz.underlying220 hj (by rw [hjs]; decide) hsh (Nat.zero_lt_succ 1)]
  simp only [Result.andThen]
  rw [Oper.upon_value]
  go_wp2
  rw [run_callFunc_extern Tryz.func245 (by kernel_rfl) (by kernel_rfl) (by kernel_rfl) (e := Extern.AbiNoEscape.same) (by kernel_rfl)]
  rw [Lib.run_noEscape]
  simp only [Result.andThen]
  rw [Oper.upon_value]
  go_wp2
  rw [Lib.run_from_unsafe w ⟨b, 0, none⟩ Tryz.underlying220 Tryz.underlying158 hj hsh b_lies]
  simp only [Result.andThen]
  rw [Oper.upon_value]
  go_wp2
  go_end0
  exact ⟨rfl, rfl⟩

theorem b_copyCheck (B b : Nat) (bs : List Value) (w : World) (h : Lib.IsBuilderF 160 5 B b bs w) :
    Calls Tryz.prog 224 #[.pointer (some ⟨b, 0, none⟩)] w fun e w' => e = .returned (.tuple #[]) ∧ (Lib.BuilderAtF 160 5 B b (.pointer (some ⟨b, 0, none⟩)) bs w' ∧ Below B w w' ∧ Lib.OthersKept 5 (some b) w w') := by
  rcases h with h | h
  · refine (b_copyCheck_fresh b w h.cell0 h.shape h.frozen0).mono ?_
    rintro e w' ⟨rfl, rfl⟩
    exact ⟨rfl, h.used _, (Below.refl B w).setCell (p := ⟨b, 0, none⟩) h.1 _, (Lib.OthersKept.refl _ _ w).setCell ⟨b, 0, none⟩ rfl _⟩
  · refine (b_copyCheck_used b w h.cell0).mono ?_
    rintro e w' ⟨rfl, rfl⟩
    exact ⟨rfl, h, Below.refl B _, Lib.OthersKept.refl _ _ _⟩

set_option maxHeartbeats 2000000 in
set_option maxRecDepth 100000 in
theorem b_WriteString (B b : Nat) (bs : List Value) (s : ByteArray) (w : World) (h : Lib.IsBuilderF 160 5 B b bs w) (hlen : bs.length + s.size ≤ 140737488355328) (hBw : B ≤ w.heap.size) :
    Calls Tryz.prog 191 #[.pointer (some ⟨b, 0, none⟩), .string s] w fun e w' => e = .returned (.tuple #[.int .i64 s.size, .nilIface]) ∧ (Lib.BuilderAtF 160 5 B b (.pointer (some ⟨b, 0, none⟩)) (bs ++ Lib.strCells s) w' ∧ Below B w w' ∧ Lib.OthersKept 5 (some b) w w') := by
  obtain ⟨i0, hi, hz0, hz1, hz2⟩ := info_parts b_byte
  go_enter Tryz.func191, Tryz.ntmps191
  go_wp2_with (go_at_call 224; refine (b_copyCheck B b bs _ h).mono ?_)
  rintro e w1 ⟨rfl, h1, hb1, hk1⟩
  obtain ⟨hB, v, hbk, hown, hne⟩ := h1
  have c0 : w1.cell? ⟨b, 0, none⟩ = some (.pointer (some ⟨b, 0, none⟩)) := by rw [Lib.cell_of_heap hbk]; rfl
  have c1 : w1.cell? ⟨b, 1, none⟩ = some v := by rw [Lib.cell_of_heap hbk]; rfl
  go_wp2_with (at_builtin; refine Lib.wpList_append_own_stringF _ rfl _ _ 42 9 rfl B 5 i0 Tryz.underlying42 Tryz.underlying9 hi hz0 hz1 hz2 _ _ _ rfl hown s rfl ?c3 ?c4 ?c5 ?_)
  case c3 => unfold maxLen; omega
  case c4 => omega
  case c5 => have := hb1.size; omega
  intro v' w2 hown' hgrow _
  have hlt : b < w1.heap.size := by
    rcases Nat.lt_or_ge b w1.heap.size with h' | h'
    · exact h'
    · simp [Array.getElem?_eq_none h'] at hbk
  have hb2 : w2.heap[b]? = some (.cells #[.pointer (some ⟨b, 0, none⟩), v] 160 (0, 0)) := by
    rw [hgrow.block b hlt (fun e => hne e.symm)]
    exact hbk
  have d0 : w2.cell? ⟨b, 0, none⟩ = some (.pointer (some ⟨b, 0, none⟩)) := by rw [Lib.cell_of_heap hb2]; rfl
  have d1 : w2.cell? ⟨b, 1, none⟩ = some v := by rw [Lib.cell_of_heap hb2]; rfl
  have f1 : w2.frozen? ⟨b, 1, none⟩ = false := Lib.frozen_of_heap hb2 1
  obtain ⟨ao, n', cap, rfl⟩ : ∃ ao n' cap, v' = .slice ao n' cap := by
    rcases hown'.2 with ⟨hv, _⟩ | ⟨g, cap, cur, fz, hv, _⟩
    · exact ⟨_, _, _, hv⟩
    · exact ⟨_, _, _, hv⟩
  go_wp2
  go_ret2
  refine ⟨rfl, ?_, ?_, (hk1.grown hgrow (Lib.ownsRowF_kind hown)).setCell ⟨b, 1, none⟩ rfl _⟩
  · exact Lib.BuilderAtF.put (T := 160) (e := 5) hB hb2 (bs' := bs ++ Lib.strCells s) (by simpa [Lib.strCells_length] using hown') (by decide)
  · exact (hb1.grown hgrow (by have := hb1.size; omega) (fun k hk => (hown.lt k hk).1)).setCell (p := ⟨b, 1, none⟩) hB _

def bRen : Ren where
  f := fun | 169 => 192 | n => n
  t := fun | 0 => 0 | 3 => 3 | 9 => 9 | 37 => 42 | 70 => 158 | 72 => 160 | 127 => 192 | 5 => 5 | n => n
  g := fun n => n
theorem bLays : Lays.n169 Tryz.prog bRen := {
  mixed := by kernel_rfl
  f169 := Tryz.func192.trans (congrArg some (by kernel_rfl))
  t0 := Tryz.underlying0
  a0 := Tryz.isAgg0
  z0 := Tryz.sizeOf0
  v0 := Tryz.zeroValue0
  t3 := Tryz.underlying3
  a3 := Tryz.isAgg3
  z3 := Tryz.sizeOf3
  v3 := Tryz.zeroValue3
  t9 := Tryz.underlying9
  a9 := Tryz.isAgg9
  z9 := Tryz.sizeOf9
  v9 := Tryz.zeroValue9
  t37 := Tryz.underlying42
  a37 := Tryz.isAgg42
  z37 := Tryz.sizeOf42
  v37 := Tryz.zeroValue42
  t70 := Tryz.underlying158
  a70 := Tryz.isAgg158
  z70 := Tryz.sizeOf158
  v70 := Tryz.zeroValue158
  t72 := Tryz.underlying160
  a72 := Tryz.isAgg160
  z72 := Tryz.sizeOf160
  v72 := Tryz.zeroValue160
  t127 := Tryz.underlying192
  a127 := Tryz.isAgg192
  z127 := Tryz.sizeOf192
  v127 := Tryz.zeroValue192
}
theorem bExtra : Builder.Extra Tryz.prog bRen := {
  sizeBuilder := by kernel_rfl
  liesBuilder := by kernel_rfl
  t5 := Tryz.underlying5
  a5 := Tryz.isAgg5
  z5 := Tryz.sizeOf5
  v5 := Tryz.zeroValue5
  infoByte := by kernel_rfl
  cellsByte := by kernel_rfl
  sizeByte := by kernel_rfl
  neB5 := by decide
}
theorem b_String (B b : Nat) (l : List UInt8) (w : World) (h : Lib.IsBuilderF 160 5 B b (Lib.byteCells l) w) (hBw : B ≤ w.heap.size) :
    Calls Tryz.prog 192 #[.pointer (some ⟨b, 0, none⟩)] w fun e w' => e = .returned (.string ⟨l.toArray⟩) ∧ (Lib.IsBuilderF 160 5 B b (Lib.byteCells l) w' ∧ Below B w w' ∧ Lib.OthersKept 5 (some b) w w') :=
  Any.Builder_String_any_k bLays bExtra B b l w h hBw
end Bow
