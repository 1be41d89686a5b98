/- The library, part 6: W65, W66, W68, W69, AE43, AE44, AE45, AE46, W76, W77, W78, SP28, W67, SP27, SP31, W70, W71, W72, AE47, W79, SP32, W73, SP33, W80, SP58, SP59, SP60, SP61, SP40, SP41, SP42, SP43, SP44, SP45, SP46, SP47, SP48, SP49. -/
import Derived.Test.YthaigpiepfdaeaaMd
import Derived.Test.YthaigpiepfdaeaaMe
import Derived.Test.YthaigpiepfdaeaaMc
/- W65: lists.bring's walk. -/
namespace Bow
open Go Go.Proofs

theorem muchP_le {x y : List OpT} (h : muchP x y = false) : x.length ≤ 4096 ∧ y.length ≤ 4096 := by
  unfold muchP at h
  simp only [Bool.or_eq_false_iff, decide_eq_false_iff_not] at h
  omega
theorem cut1 (o : OpT) (l : List OpT) : V.sl 11 ((((o :: l).map opV).drop (1 : Int).toNat).take (((((o :: l).map opV).length : Nat) : Int).toNat - (1 : Int).toNat)) = opsV l := by
  show V.sl 11 ((l.map opV).take (((((o :: l).map opV).length : Nat) : Int).toNat - (1 : Int).toNat)) = V.sl 11 (l.map opV)
  rw [List.take_of_length_le]
  simp
set_option maxHeartbeats 4000000 in
set_option maxRecDepth 100000 in
theorem w_bring (prior : Bool) : ∀ (n : Nat) (xs ys : List OpT) (R), bringF prior n xs ys = some R → OkL xs → OkL ys → Pure Try.prog 35 [opsV xs, opsV ys, .bool prior] (fun x => x = BothV R)
  | 0, _, _, _, h, _, _ => by cases h
  | n + 1, xs, ys, R, h, ox, oy => by
    have cm := w_much2 xs ys
    rw [bringF_succ] at h
    unfold bringS at h
    refine pure_wk (pure_fn 300 Try.func35 rfl rfl rfl fun B => ?_)
    refine ⟨⟨rfl, rfl, trivial⟩, ?_⟩
    show CallThen _ _ _ _ _ _
    refine call_pure_frz ?_
    refine ⟨rfl, rfl, _, cm, rfl, ?_⟩
    rintro x rfl
    refine ⟨fun g1 => go 300 ?_, fun g1 => go 300 ?_⟩
    · rw [g1] at h
      simp only [cond_true, Option.some.injEq] at h
      exact ⟨trivial, rfl, rfl, rfl, bothZ' h.symm⟩
    rw [g1, cond_false] at h
    have hlen := muchP_le g1
    match xs, ys, h, ox, oy, hlen with
    | [], ys, h, _, _, _ =>
      simp only [Option.some.injEq] at h
      refine ⟨fun g2 => go 300 ?_, fun g2 => absurd rfl (ne_of g2)⟩
      exact ⟨trivial, rfl, rfl, rfl, BothV ([], ys, 0), Wk.refl _, rfl, by rw [h]⟩
    | a :: xs, [], h, _, _, _ =>
      simp only [Option.some.injEq] at h
      refine ⟨fun g2 => absurd (eq_of g2) (by simp; omega), fun g2 => go 300 ?_⟩
      refine ⟨fun g3 => go 300 ?_, fun g3 => absurd rfl (ne_of g3)⟩
      exact ⟨trivial, rfl, rfl, rfl, BothV (a :: xs, [], 0), Wk.refl _, rfl, by rw [h]⟩
    | [a], [b], h, ox, oy, _ =>
      simp only [Option.some.injEq] at h
      have cb := w_BothX a b prior (ox a List.mem_cons_self).1 (oy b List.mem_cons_self).1 ⟨(ox a List.mem_cons_self).2, (oy b List.mem_cons_self).2⟩
      rw [h] at cb
      refine ⟨fun g2 => absurd (eq_of g2) (by simp), fun g2 => go 300 ?_⟩
      refine ⟨fun g3 => absurd (eq_of g3) (by simp), fun g3 => go 300 ?_⟩
      refine ⟨fun g4 => absurd (lt_of g4) (by simp), fun g4 => go 300 ?_⟩
      refine ⟨fun g5 => absurd (lt_of g5) (by simp), fun g5 => go 300 ?_⟩
      show Goes _ _ _ _
      refine goes_draw 300 ⟨by decide, _, rfl, by decide, _, rfl, _, cb, rfl, ?_⟩
      refine ⟨by kernel_rfl, ?_⟩
      exact ⟨trivial, rfl, rfl, rfl, BothV R, Wk.refl _, rfl, rfl⟩
    | a :: a' :: xs, b :: ys, h, ox, oy, hlen =>
      simp only at h
      obtain ⟨r1, h1⟩ : ∃ r1, bringF prior n [a] (b :: ys) = r1 := ⟨_, rfl⟩
      rw [h1] at h
      match r1, h1, h with
      | none, _, h => cases h
      | some (x1, y1, e1), h1, h =>
      simp only at h
      have c1 := w_bring prior n _ _ _ h1 ox.head oy
      obtain ⟨o1, o2⟩ := bringF_okL prior n _ _ _ h1 ox.head oy
      refine ⟨fun g2 => absurd (eq_of g2) (by simp; omega), fun g2 => go 300 ?_⟩
      refine ⟨fun g3 => absurd (eq_of g3) (by simp; omega), fun g3 => go 300 ?_⟩
      refine ⟨fun g4 => go 300 ?_, fun g4 => absurd (not_lt_of g4) (by simp; omega)⟩
      refine ⟨by decide, by decide, by simp; omega, ?_⟩
      show CallThen _ _ _ _ _ _
      refine call_pure c1 rfl ?_
      rintro x rfl
      refine ⟨fun g5 => go 300 ?_, fun g5 => go 300 ?_⟩
      · have g5 := ne_of' g5
        rw [decide_eq_false g5] at h
        simp only [Bool.not_false, cond_true, Option.some.injEq] at h
        exact ⟨trivial, rfl, rfl, rfl, bothZ' h.symm⟩
      have g5 := eq_of' g5
      subst g5
      simp only [decide_true, Bool.not_true, cond_false] at h
      obtain ⟨r2, h2⟩ : ∃ r2, bringF prior n (a' :: xs) y1 = r2 := ⟨_, rfl⟩
      rw [h2] at h
      match r2, h2, h with
      | none, _, h => cases h
      | some (z, w, e2), h2, h =>
      simp only at h
      have c2 := w_bring prior n _ _ _ h2 ox.tail o2
      refine ⟨by decide, by simp only [List.length_map, List.length_cons]; omega, Int.le_refl _, ?_⟩
      show CallThen _ _ _ _ _ _
      refine call_pure (pure_args c2 ⟨Wk.of_eq (cut1 a (a' :: xs)), .refl _, .refl _, trivial⟩ rfl rfl) rfl ?_
      rintro x rfl
      refine ⟨fun g6 => go 300 ?_, fun g6 => go 300 ?_⟩
      · have g6 := ne_of' g6
        rw [decide_eq_false g6] at h
        simp only [Bool.not_false, cond_true, Option.some.injEq] at h
        exact ⟨trivial, rfl, rfl, rfl, bothZ' h.symm⟩
      have g6 := eq_of' g6
      subst g6
      simp only [decide_true, Bool.not_true, cond_false] at h
      have i1 := (bringF_inv prior n _ _ _ _ h1).s
      have i2 := (bringF_inv prior n _ _ _ _ h2).s
      simp only [List.length_cons, List.length_nil] at i1 i2 hlen
      refine ⟨⟨rfl, rfl, trivial⟩, ?_⟩
      show CallThen _ _ _ _ _ _
      refine call_pure_frz ?_
      refine ⟨rfl, rfl, _, w_Concat2 x1 z (by omega), rfl, ?_⟩
      rintro x rfl
      refine ⟨⟨rfl, rfl, trivial⟩, ?_⟩
      show CallThen _ _ _ _ _ _
      refine call_pure_frz ?_
      refine ⟨rfl, rfl, _, w_much2 (x1 ++ z) w, rfl, ?_⟩
      rintro x rfl
      refine ⟨fun g7 => go 300 ?_, fun g7 => go 300 ?_⟩
      · have g7 : muchP (x1 ++ z) w = false := by simpa using g7
        rw [g7] at h
        simp only [cond_false, Option.some.injEq] at h
        exact ⟨trivial, rfl, rfl, rfl, BothV (x1 ++ z, w, 0), Wk.refl _, rfl, by rw [h]⟩
      · have g7 : muchP (x1 ++ z) w = true := by simpa using g7
        rw [g7] at h
        simp only [cond_true, Option.some.injEq] at h
        exact ⟨trivial, rfl, rfl, rfl, bothZ' h.symm⟩
    | [a], b :: b' :: ys, h, ox, oy, hlen =>
      simp only at h
      obtain ⟨r1, h1⟩ : ∃ r1, bringF prior n [a] [b] = r1 := ⟨_, rfl⟩
      rw [h1] at h
      match r1, h1, h with
      | none, _, h => cases h
      | some (x1, y1, e1), h1, h =>
      simp only at h
      have c1 := w_bring prior n _ _ _ h1 ox oy.head
      obtain ⟨o1, o2⟩ := bringF_okL prior n _ _ _ h1 ox oy.head
      refine ⟨fun g2 => absurd (eq_of g2) (by simp), fun g2 => go 300 ?_⟩
      refine ⟨fun g3 => absurd (eq_of g3) (by simp; omega), fun g3 => go 300 ?_⟩
      refine ⟨fun g4 => absurd (lt_of g4) (by simp), fun g4 => go 300 ?_⟩
      refine ⟨fun g4 => go 300 ?_, fun g4 => absurd (not_lt_of g4) (by simp; omega)⟩
      refine ⟨by decide, by decide, by simp; omega, ?_⟩
      show CallThen _ _ _ _ _ _
      refine call_pure c1 rfl ?_
      rintro x rfl
      refine ⟨fun g5 => go 300 ?_, fun g5 => go 300 ?_⟩
      · have g5 := ne_of' g5
        rw [decide_eq_false g5] at h
        simp only [Bool.not_false, cond_true, Option.some.injEq] at h
        exact ⟨trivial, rfl, rfl, rfl, bothZ' h.symm⟩
      have g5 := eq_of' g5
      subst g5
      simp only [decide_true, Bool.not_true, cond_false] at h
      obtain ⟨r2, h2⟩ : ∃ r2, bringF prior n x1 (b' :: ys) = r2 := ⟨_, rfl⟩
      rw [h2] at h
      match r2, h2, h with
      | none, _, h => cases h
      | some (z, w, e2), h2, h =>
      simp only at h
      have c2 := w_bring prior n _ _ _ h2 o1 oy.tail
      refine ⟨by decide, by simp only [List.length_map, List.length_cons]; omega, Int.le_refl _, ?_⟩
      show CallThen _ _ _ _ _ _
      refine call_pure (pure_args c2 ⟨.refl _, Wk.of_eq (cut1 b (b' :: ys)), .refl _, trivial⟩ rfl rfl) rfl ?_
      rintro x rfl
      refine ⟨fun g6 => go 300 ?_, fun g6 => go 300 ?_⟩
      · have g6 := ne_of' g6
        rw [decide_eq_false g6] at h
        simp only [Bool.not_false, cond_true, Option.some.injEq] at h
        exact ⟨trivial, rfl, rfl, rfl, bothZ' h.symm⟩
      have g6 := eq_of' g6
      subst g6
      simp only [decide_true, Bool.not_true, cond_false] at h
      have i1 := (bringF_inv prior n _ _ _ _ h1).s
      have i2 := (bringF_inv prior n _ _ _ _ h2).s
      simp only [List.length_cons, List.length_nil] at i1 i2 hlen
      refine ⟨⟨rfl, rfl, trivial⟩, ?_⟩
      show CallThen _ _ _ _ _ _
      refine call_pure_frz ?_
      refine ⟨rfl, rfl, _, w_Concat2 y1 w (by omega), rfl, ?_⟩
      rintro x rfl
      refine ⟨⟨rfl, rfl, trivial⟩, ?_⟩
      show CallThen _ _ _ _ _ _
      refine call_pure_frz ?_
      refine ⟨rfl, rfl, _, w_much2 z (y1 ++ w), rfl, ?_⟩
      rintro x rfl
      refine ⟨fun g7 => go 300 ?_, fun g7 => go 300 ?_⟩
      · have g7 : muchP z (y1 ++ w) = false := by simpa using g7
        rw [g7] at h
        simp only [cond_false, Option.some.injEq] at h
        exact ⟨trivial, rfl, rfl, rfl, BothV (z, y1 ++ w, 0), Wk.refl _, rfl, by rw [h]⟩
      · have g7 : muchP z (y1 ++ w) = true := by simpa using g7
        rw [g7] at h
        simp only [cond_true, Option.some.injEq] at h
        exact ⟨trivial, rfl, rfl, rfl, bothZ' h.symm⟩
theorem bringX_inv (prior : Bool) (xs ys : List OpT) : (bringX prior xs ys).1.length + (bringX prior xs ys).2.1.length ≤ xs.length + ys.length := by
  obtain ⟨n, h⟩ := bringX_spec prior xs ys
  obtain ⟨⟨x, y, e⟩, hr⟩ : ∃ r, bringX prior xs ys = r := ⟨_, rfl⟩
  rw [hr] at h ⊢
  by_cases he : e = 0
  · subst he
    exact (bringF_inv prior n _ _ _ _ h).s
  · obtain ⟨q1, q2⟩ := bringF_err h he
    simp only [q1, q2, List.length_nil]
    omega
theorem bringX_okL {prior : Bool} {xs ys : List OpT} (ox : OkL xs) (oy : OkL ys) : OkL (bringX prior xs ys).1 ∧ OkL (bringX prior xs ys).2.1 := by
  obtain ⟨n, h⟩ := bringX_spec prior xs ys
  exact bringF_okL prior n _ _ _ h ox oy
theorem bareL_len (l : List OpT) : (bareL l).length = l.length := by simp [bareL]
theorem bareL_okL {l : List OpT} (h : OkL l) : OkL (bareL l) := fun o ho => by
  obtain ⟨o', h1, rfl⟩ := List.mem_map.1 ho
  refine ⟨bare_ok (h o' h1).1, ?_⟩
  have := (h o' h1).2
  unfold bareO
  cases o'.kind == 1 <;> cases o'.kind == 2 <;> cases o'.kind == 3 <;> cases o'.kind == 4 <;> cases o'.kind == 5 <;> cases o'.kind == 6 <;> simp [noOp] <;> omega
set_option maxRecDepth 100000 in
theorem w_listsBoth (xs ys : List OpT) (prior : Bool) (ox : OkL xs) (oy : OkL ys) (hl : xs.length + ys.length ≤ 1000000) : Pure Try.prog 19 [opsV xs, opsV ys, .bool prior] (fun x => x = BothV (listsX prior xs ys)) := by
  obtain ⟨n, h⟩ := bringX_spec prior xs ys
  have cb := w_bring prior n xs ys _ h ox oy
  have hi := bringX_inv prior xs ys
  obtain ⟨o1, o2⟩ := bringX_okL (prior := prior) ox oy
  refine pure_fn 300 Try.func19 rfl rfl rfl fun B => ?_
  show CallThen _ _ _ _ _ _
  refine call_pure cb rfl ?_
  rintro x rfl
  show CallThen _ _ _ _ _ _
  refine call_pure (w_lbare _ (by omega) (fun o ho => (o1 o ho).1.lt)) rfl ?_
  rintro x rfl
  show CallThen _ _ _ _ _ _
  refine call_pure (w_lbare _ (by omega) (fun o ho => (o2 o ho).1.lt)) rfl ?_
  rintro x rfl
  exact ⟨trivial, rfl, rfl, rfl, rfl⟩
end Bow
/- W66: the laws of chapter 13: what they use; the examples; which lists say the same. -/
namespace Bow
open Go Go.Proofs

theorem okE_op (o : OpT) : okE 11 (opV o) := ⟨rfl, rfl⟩
theorem okLK {l : List OpT} (h : (l.all fun o => Nat.ble o.path.length 1000000 && Nat.ble o.to.length 1000 && Nat.ble o.label.length 1000000 && Nat.ble o.key.length 1000000 && Nat.ble o.value.length 1000000 && Nat.ble o.pieces.length 1000000 && Nat.ble (putsLen o.pieces) 1000000) = true) : OkL l := by
  intro o ho
  have := List.all_eq_true.1 h o ho
  simp only [Bool.and_eq_true, Nat.ble_eq] at this
  obtain ⟨⟨⟨⟨⟨⟨h1, h2⟩, h3⟩, h4⟩, h5⟩, h6⟩, h7⟩ := this
  exact ⟨⟨⟨h1, by omega, h3, h4, h5, h6⟩, by omega⟩, h2⟩
/-- Numbers that are the same as themselves. -/
theorem w_SameInts (p : List Int) (hp : p.length ≤ 1000000) : Pure Try.prog 32 [pathV p, pathV p] (fun x => x = .bool true) := by
  refine pure_wk (pure_fn 300 Try.func32 rfl rfl rfl fun B => ?_)
  refine ⟨fun g => absurd rfl (ne_of' g), fun _ => go 300 ?_⟩
  show Goes _ _ _ _
  refine goes_iter (ι := Nat) (fun i => i ≤ p.length) (fun i => p.length - i) (fun i => [(5, .int .i64 i), (0, pathV p), (1, pathV p)]) (fun _ => []) 0 300 (fun _ => rfl) (fun _ => rfl) ⟨Nat.zero_le _, ⟨⟨rfl, rfl⟩, ⟨rfl, rfl⟩, ⟨rfl, rfl⟩, trivial⟩, trivial⟩ ?_
  rintro i k1 next
  refine ⟨fun hlt => go 300 ?_, fun hge => go 300 ?_⟩
  · have hi : i < p.length := by simpa using hlt
    have hx : (p.map intV)[i]? = some (intV p[i]) := by simp [hi]
    show Goes _ _ _ _
    refine goes_draw 300 ⟨Int.natCast_nonneg i, _, hx, Int.natCast_nonneg i, _, hx, ?_⟩
    refine ⟨by kernel_rfl, ?_⟩
    refine ⟨fun g => absurd rfl (ne_of' g), fun _ => go 300 ?_⟩
    refine ⟨by constructor <;> omega, ?_⟩
    show Goes _ _ _ _
    exact next (i + 1) _ _ ⟨hi, by omega, ⟨⟨rfl, rfl⟩, ⟨rfl, rfl⟩, ⟨rfl, rfl⟩, trivial⟩, trivial⟩
  · exact ⟨trivial, rfl, rfl, rfl, leaf_tt rfl⟩
theorem ex13_0 : Pure Try.prog 19 [opsV [noOp 1, { noOp 1 with at_ := 2 }], opsV [{ noOp 2 with path := [1] }], .bool true] (fun x => x = BothV ([noOp 1, { noOp 1 with at_ := 2 }], [{ noOp 2 with path := [3] }], 0)) := by
  have h := w_listsBoth [noOp 1, { noOp 1 with at_ := 2 }] [{ noOp 2 with path := [1] }] true (okLK (by decide)) (okLK (by decide)) (by decide)
  have e : bringX true [noOp 1, { noOp 1 with at_ := 2 }] [{ noOp 2 with path := [1] }] = ([noOp 1, { noOp 1 with at_ := 2 }], [{ noOp 2 with path := [3] }], 0) := bringX_eq (n := 9) (by kernel_rfl)
  rwa [show listsX true [noOp 1, { noOp 1 with at_ := 2 }] [{ noOp 2 with path := [1] }] = ([noOp 1, { noOp 1 with at_ := 2 }], [{ noOp 2 with path := [3] }], 0) by unfold listsX; rw [e]; kernel_rfl] at h
theorem ex13_1 : Pure Try.prog 19 [opsV [{ noOp 2 with path := [0] }, { noOp 2 with path := [0] }], opsV [{ noOp 5 with path := [0] }, { noOp 5 with path := [1] }], .bool true] (fun x => x = BothV ([{ noOp 2 with path := [0] }, { noOp 2 with path := [0] }], [], 0)) := by
  have h := w_listsBoth [{ noOp 2 with path := [0] }, { noOp 2 with path := [0] }] [{ noOp 5 with path := [0] }, { noOp 5 with path := [1] }] true (okLK (by decide)) (okLK (by decide)) (by decide)
  have e : bringX true [{ noOp 2 with path := [0] }, { noOp 2 with path := [0] }] [{ noOp 5 with path := [0] }, { noOp 5 with path := [1] }] = ([{ noOp 2 with path := [0] }, { noOp 2 with path := [0] }], [], 0) := bringX_eq (n := 9) (by kernel_rfl)
  rwa [show listsX true [{ noOp 2 with path := [0] }, { noOp 2 with path := [0] }] [{ noOp 5 with path := [0] }, { noOp 5 with path := [1] }] = ([{ noOp 2 with path := [0] }, { noOp 2 with path := [0] }], [], 0) by unfold listsX; rw [e]; kernel_rfl] at h
theorem ex13_2 : Pure Try.prog 19 [opsV [], opsV [{ noOp 2 with path := [1] }], .bool true] (fun x => x = BothV ([], [{ noOp 2 with path := [1] }], 0)) := by
  have h := w_listsBoth [] [{ noOp 2 with path := [1] }] true (okLK (by decide)) (okLK (by decide)) (by decide)
  have e : bringX true [] [{ noOp 2 with path := [1] }] = ([], [{ noOp 2 with path := [1] }], 0) := bringX_eq (n := 9) (by kernel_rfl)
  rwa [show listsX true [] [{ noOp 2 with path := [1] }] = ([], [{ noOp 2 with path := [1] }], 0) by unfold listsX; rw [e]; kernel_rfl] at h
set_option pp.maxSteps 300 in
set_option maxHeartbeats 4000000 in
set_option maxRecDepth 100000 in
theorem w_works13 : Pure Try.prog 17 [] (fun x => x = .bool true) := by
  refine pure_wk (pure_fn 20 Try.func17 rfl rfl rfl fun B => ?_)
  refine ⟨⟨rfl, rfl, trivial⟩, ⟨rfl, trivial⟩, ?_⟩
  refine ⟨rfl, rfl, ⟨rfl, trivial⟩, ?_⟩
  show CallThen _ _ _ _ _ _
  refine call_pure_frz ?_
  refine ⟨rfl, rfl, rfl, rfl, _, pure_args ex13_0 ⟨Wk.sl ⟨⟨⟨.refl _, Wk.nil 1, .refl _, Wk.nil 1, .refl _, Wk.ff, .refl _, .refl _, .refl _, Wk.ff, Wk.nil 3, trivial⟩, okE_op _⟩, ⟨⟨.refl _, Wk.nil 1, .refl _, Wk.nil 1, .refl _, Wk.ff, .refl _, .refl _, .refl _, Wk.ff, Wk.nil 3, trivial⟩, okE_op _⟩, trivial⟩, Wk.sl ⟨⟨⟨.refl _, .refl _, .refl _, Wk.nil 1, .refl _, Wk.ff, .refl _, .refl _, .refl _, Wk.ff, Wk.nil 3, trivial⟩, okE_op _⟩, trivial⟩, Wk.tt, trivial⟩ rfl rfl, rfl, ?_⟩
  rintro x rfl
  show Goes _ _ _ _
  refine go 22 ?_
  refine ⟨⟨rfl, trivial⟩, ⟨rfl, trivial⟩, ?_⟩
  refine ⟨rfl, rfl, rfl, rfl, ⟨rfl, rfl, trivial⟩, ?_⟩
  refine ⟨⟨rfl, trivial⟩, ⟨rfl, trivial⟩, ?_⟩
  refine ⟨rfl, rfl, rfl, rfl, ⟨rfl, rfl, trivial⟩, ?_⟩
  show CallThen _ _ _ _ _ _
  refine call_pure_frz ?_
  refine ⟨rfl, rfl, rfl, rfl, _, pure_args ex13_1 ⟨Wk.sl ⟨⟨⟨.refl _, .refl _, .refl _, Wk.nil 1, .refl _, Wk.ff, .refl _, .refl _, .refl _, Wk.ff, Wk.nil 3, trivial⟩, okE_op _⟩, ⟨⟨.refl _, .refl _, .refl _, Wk.nil 1, .refl _, Wk.ff, .refl _, .refl _, .refl _, Wk.ff, Wk.nil 3, trivial⟩, okE_op _⟩, trivial⟩, Wk.sl ⟨⟨⟨.refl _, .refl _, .refl _, Wk.nil 1, .refl _, Wk.ff, .refl _, .refl _, .refl _, Wk.ff, Wk.nil 3, trivial⟩, okE_op _⟩, ⟨⟨.refl _, .refl _, .refl _, Wk.nil 1, .refl _, Wk.ff, .refl _, .refl _, .refl _, Wk.ff, Wk.nil 3, trivial⟩, okE_op _⟩, trivial⟩, Wk.tt, trivial⟩ rfl rfl, rfl, ?_⟩
  rintro x rfl
  show Goes _ _ _ _
  refine go 18 ?_
  refine ⟨⟨rfl, trivial⟩, ?_⟩
  refine ⟨rfl, rfl, ⟨rfl, trivial⟩, ?_⟩
  show CallThen _ _ _ _ _ _
  refine call_pure_frz ?_
  refine ⟨rfl, rfl, _, pure_args ex13_2 ⟨Wk.nil 11, Wk.sl ⟨⟨⟨.refl _, .refl _, .refl _, Wk.nil 1, .refl _, Wk.ff, .refl _, .refl _, .refl _, Wk.ff, Wk.nil 3, trivial⟩, okE_op _⟩, trivial⟩, Wk.tt, trivial⟩ rfl rfl, rfl, ?_⟩
  rintro x rfl
  show Goes _ _ _ _
  refine go 40 ?_
  iterate 4 refine ⟨fun _ => go 60 ?_, fun g => absurd rfl (ne_of g)⟩
  refine ⟨by decide, _, rfl, ?_⟩
  iterate 2 refine ⟨fun _ => go 60 ?_, fun g => absurd rfl (ne_of g)⟩
  refine ⟨by decide, _, rfl, ⟨rfl, trivial⟩, ?_⟩
  show CallThen _ _ _ _ _ _
  refine call_pure_frz ?_
  refine ⟨rfl, rfl, _, w_SameInts [3] (by decide), rfl, ?_⟩
  rintro x rfl
  iterate 4 refine ⟨fun _ => go 60 ?_, fun g => absurd g (by decide)⟩
  exact ⟨trivial, rfl, rfl, rfl, leaf_b (by decide)⟩
end Bow
/- W68: which lists say the same; chapter 13's few. -/
namespace Bow
open Go Go.Proofs

theorem op_at {l : List OpT} {i : Nat} (h : i < l.length) : (l.map opV)[i]? = some (opV l[i]) := by simp [h]
end Bow
/- W69: the laws ListsSame and ListsJoined, walked. -/
namespace Bow
open Go Go.Proofs

theorem lt_mono {o : OpT} {a b : Nat} (h : o.Lt a) (hab : a ≤ b) : o.Lt b := ⟨Nat.le_trans h.path hab, Nat.le_trans h.to hab, Nat.le_trans h.label hab, Nat.le_trans h.key hab, Nat.le_trans h.value hab, Nat.le_trans h.pieces hab⟩
theorem lightL_ok {l : List OpT} {c : Nat} (h : LightL l c 60) : OkL l := fun o ho => by
  obtain ⟨h1, h2⟩ := h.ops o ho
  have := h1.to
  exact ⟨⟨lt_mono h1 (by decide), by omega⟩, by omega⟩
set_option maxRecDepth 100000 in
theorem w_few (l : List OpT) (top : Nat) (ht : top ≤ 1000000) : Pure Try.prog 16 [opsV l, .int .i64 top] (fun x => ∃ b : Bool, x = .bool b ∧ (b = true → LightL l top 60)) := by
  have bad : ∃ y, Wk .ff y ∧ y.pureB = true ∧ ∃ b : Bool, y = .bool b ∧ (b = true → LightL l top 60) := ⟨_, Wk.ff, rfl, false, rfl, fun h => by cases h⟩
  refine pure_wk (pure_fn 300 Try.func16 rfl rfl rfl fun B => ?_)
  show CallThen _ _ _ _ _ _
  refine call_pure (w_LightList l top 60 ht (by decide)) rfl ?_
  rintro x ⟨b, rfl, hb⟩
  refine ⟨fun g => go 300 ?_, fun g => go 300 ?_⟩
  · exact ⟨trivial, rfl, rfl, rfl, bad⟩
  have hl := hb (by simpa using g)
  have hlen := hl.len
  show Goes _ _ _ _
  refine goes_iter (ι := Nat) (fun i => i ≤ l.length) (fun i => l.length - i) (fun i => [(5, .int .i64 i), (0, opsV l)]) (fun _ => []) 0 300 (fun _ => rfl) (fun _ => rfl) ⟨Nat.zero_le _, ⟨⟨rfl, rfl⟩, ⟨rfl, rfl⟩, trivial⟩, trivial⟩ ?_
  rintro i k1 next
  refine ⟨fun hlt => go 300 ?_, fun hge => go 300 ?_⟩
  · have hi : i < l.length := by simpa using hlt
    have hp := (hl.ops _ (List.getElem_mem hi)).1.pieces
    refine ⟨Int.natCast_nonneg i, _, op_at hi, ?_⟩
    show CallThen _ _ _ _ _ _
    refine call_pure (w_Small l[i].pieces 100 (by omega) (by decide)) rfl ?_
    rintro x ⟨s, rfl⟩
    refine ⟨fun g => go 300 ?_, fun g => go 300 ?_⟩
    · exact ⟨trivial, rfl, rfl, rfl, bad⟩
    refine ⟨by constructor <;> omega, ?_⟩
    show Goes _ _ _ _
    exact next (i + 1) _ _ ⟨hi, by omega, ⟨⟨rfl, rfl⟩, ⟨rfl, rfl⟩, trivial⟩, trivial⟩
  · exact ⟨trivial, rfl, rfl, rfl, .bool true, Wk.tt, rfl, true, rfl, fun _ => hl⟩
end Bow
/- AE43: own memory that stands elsewhere, read: its length, an element's place, what lies there; pointers held against nil; a range over a function that holds own objects. -/
namespace Bow
open Go

section
variable {c : Cx} {E : Env} {T : Heap} {ops : Array Oper} {i : Nat} {rest : List Nat} {k : List Item} {o : Oper}

/-! ### Pointers held against nil -/
end
end Bow
/- AE44: regions that draw their order and hold a call that hands back own memory. -/
namespace Bow
open Go

/-! ### The evaluation of such a region -/
end Bow
/- AE45: own memory under names: calls that hand back named memory, calls that write over it, calls that only read it; stores into it. -/
namespace Bow
open Go

def Ext (B B' : Base) : Prop := ∀ q o, B q = some o → B' q = some o
def Base.add (B N : Base) : Base := fun q => match B q with | some o => some o | none => N q
theorem Ext.refl (B : Base) : Ext B B := fun _ _ h => h
theorem Ext.trans {A B C : Base} (h : Ext A B) (k : Ext B C) : Ext A C := fun q o e => k q o (h q o e)
theorem Ext.add (B N : Base) : Ext B (B.add N) := fun q o h => by simp [Base.add, h]
theorem add_new {B N : Base} {q : Nat} {o : HObj} (h : N q = some o) (hb : B q = none) : (B.add N) q = some o := by simp [Base.add, h, hb]

/-! ### Functions that hand back memory of their own, under names -/
@[irreducible] def FunN (P : Program) (g : FuncId) (args : List V) (Q : V → Base → Prop) : Prop :=
  Enterable P g ∧ ∀ (w : World) (β : Nat → Loc) (H : Heap) (B : Base) (vals : Array Value) (cs : List Frame), SRel [] 0 w β H [] ⟨[], [], B, []⟩ bare → args.length = vals.size →
    (∀ (j : Nat) (x : V) (v : Value), args[j]? = some x → vals[j]? = some v → Rep w β H x v) →
    ∃ (x : V) (N : Base) (v : Value) (w' : World) (β' : Nat → Loc) (H' : Heap) (fr : Frame), Q x N ∧ (∀ q o, N q = some o → B q = none) ∧ SRel [] 0 w' β' H' [] ⟨[], [], B.add N, []⟩ bare ∧ Fr w β H w' β' H' ∧ Rep w' β' H' x v ∧ x.pureB = true ∧
      Steps P (lone (Frame.enter P g vals .normal) cs w) (lone fr cs w') ∧ fr.fn = g ∧ fr.leaving P w' (.returned v)

theorem FunN.mono {P : Program} {g : FuncId} {args : List V} {Q Q' : V → Base → Prop} (h : FunN P g args Q) (hq : ∀ x N, Q x N → Q' x N) : FunN P g args Q' := by
  unfold FunN at *
  refine ⟨h.1, fun w β H B vals cs hs hl hr => ?_⟩
  obtain ⟨x, N, v, w', β', H', fr, k, r⟩ := h.2 w β H B vals cs hs hl hr
  exact ⟨x, N, v, w', β', H', fr, hq _ _ k, r⟩

section
variable {w w' : World} {β β' : Nat → Loc} {H H' : Heap}
/-- What a function with nothing of its own sees of a world. -/
theorem seen {imps : List Nat} {nt : Nat} {m : List Nat} {s : St} {a : Act} (hs : SRel imps nt w β H m s a) : SRel [] 0 w β H [] ⟨[], [], fun r => (H[r]?).getD none, []⟩ bare := by
  refine ⟨hs.hrel, rfl, fun k => by simp [lk, V.conv]; exact .undef _, rfl, List.nodup_nil, by simp, rfl, fun r h _ => ?_, fun r h1 => ?_, by simp, by simp, by simp, rfl, by simp⟩
  · simp [h]
  · simp [List.getElem?_eq_none h1]
end

/-! ### Named memory, read by functions that leave nothing behind -/
inductive Fz (B : Base) : V → V → Prop
  | wk {x y : V} (h : Wk x y) : Fz B x y
  | row (r g sz : Nat) (xs : List V) (h : B r = some (.vec g sz xs)) : Fz B (.osl (.abs r) g 0 xs.length) (.sl sz xs)
  | agg (cs ds : List V) (hl : cs.length = ds.length) (h : ∀ (j : Nat) (c d : V), cs[j]? = some c → ds[j]? = some d → Fz B c d) : Fz B (.agg cs) (.agg ds)
  | sl (sz : Nat) (xs ys : List V) (hl : xs.length = ys.length) (hy : ∀ y ∈ ys, okE sz y) (h : ∀ (i : Nat) (x y : V) (j : Nat) (c d : V), xs[i]? = some x → ys[i]? = some y → x.cells[j]? = some c → y.cells[j]? = some d → Fz B c d) : Fz B (.sl sz xs) (.sl sz ys)

/-- .. all at once. -/
def FzL (B : Base) : List V → List V → Prop
  | [], [] => True
  | x :: xs, y :: ys => Fz B x y ∧ FzL B xs ys
  | _, _ => False
theorem FzL.get {B : Base} : ∀ {xs ys : List V}, FzL B xs ys → xs.length = ys.length ∧ ∀ (j : Nat) (y : V), ys[j]? = some y → ∃ x, xs[j]? = some x ∧ Fz B x y
  | [], [], _ => ⟨rfl, fun j y h => by simp at h⟩
  | x :: xs, y :: ys, h => by
    obtain ⟨h1, h2⟩ := FzL.get h.2
    refine ⟨by simp [h1], fun j z hz => ?_⟩
    cases j with
    | zero => simp at hz; subst hz; exact ⟨x, rfl, h.1⟩
    | succ j => simpa using h2 j z (by simpa using hz)
  | [], _ :: _, h => h.elim
  | _ :: _, [], h => h.elim

/-! ### Functions that write over named memory -/
/-- The same rows, of the same shapes. -/
def ShpEq (B B' : Base) : Prop := ∀ r g sz xs, B r = some (.vec g sz xs) → ∃ xs' : List V, B' r = some (.vec g sz xs') ∧ xs'.length = xs.length
theorem ShpEq.refl (B : Base) : ShpEq B B := fun _ _ _ xs h => ⟨xs, h, rfl⟩
theorem ShpEq.trans {A B C : Base} (h : ShpEq A B) (k : ShpEq B C) : ShpEq A C := fun r g sz xs e => by
  obtain ⟨xs', h1, h2⟩ := h r g sz xs e
  obtain ⟨xs'', k1, k2⟩ := k r g sz xs' h1
  exact ⟨xs'', k1, k2.trans h2⟩
/-! ### Stores into named memory -/
section
variable {c : Cx} {E : Env} {T : Heap} {ops : Array Oper} {i : Nat} {rest : List Nat} {k : List Item} {o : Oper}

end
end Bow
/- AE46: a nil slice in a cell of a box, as own memory; named results that say less. -/
namespace Bow
open Go

section
variable {c : Cx} {E : Env} {T : Heap}
end

end Bow
/- W76: treeops.Bare, seen to hand back rows of its own. -/
namespace Bow
open Go Go.Proofs

/-- The names of an operation's rows, and their generations. -/
structure Ns where
  p : Nat
  gp : Nat
  t : Nat
  gt : Nat
  s : Nat
  gs : Nat
structure NsOk (N : Base) (ns : Ns) (o : OpT) : Prop where
  path : N ns.p = some (.vec ns.gp 1 (o.path.map intV))
  to : N ns.t = some (.vec ns.gt 1 (o.to.map intV))
  pieces : N ns.s = some (.vec ns.gs 3 (o.pieces.map pieceV))
theorem NsOk.ext {N N' : Base} {ns : Ns} {o : OpT} (h : NsOk N ns o) (e : Ext N N') : NsOk N' ns o := ⟨e _ _ h.path, e _ _ h.to, e _ _ h.pieces⟩

end Bow
/- W77: lists of operations whose rows have names; lists.bare, square.Behind, square.Both, lists.Both, seen to hand back memory of their own. -/
namespace Bow
open Go Go.Proofs

def OpsOk (N : Base) (zs : List (Ns × OpT)) : Prop := ∀ z ∈ zs, NsOk N z.1 z.2
theorem OpsOk.ext {N N' : Base} {zs : List (Ns × OpT)} (h : OpsOk N zs) (e : Ext N N') : OpsOk N' zs := fun z hz => (h z hz).ext e
theorem OpsOk.nil (N : Base) : OpsOk N [] := fun z hz => by cases hz
theorem OpsOk.snoc {N : Base} {zs : List (Ns × OpT)} {ns : Ns} {o : OpT} (h : OpsOk N zs) (k : NsOk N ns o) : OpsOk N (zs ++ [(ns, o)]) := fun z hz => by
  rcases List.mem_append.1 hz with hz | hz
  · exact h z hz
  · rw [List.mem_singleton.1 hz]; exact k

end Bow
/- W78: bowerlaw12.spoil, which writes over an operation's own rows. -/
namespace Bow
open Go Go.Proofs

/-- The operation's rows stand there, whatever they hold. -/
structure NsShp (B : Base) (ns : Ns) (o : OpT) : Prop where
  path : ∃ xs : List V, B ns.p = some (.vec ns.gp 1 xs) ∧ xs.length = (o.path.map intV).length
  to : ∃ xs : List V, B ns.t = some (.vec ns.gt 1 xs) ∧ xs.length = (o.to.map intV).length
  pieces : ∃ xs : List V, B ns.s = some (.vec ns.gs 3 xs) ∧ xs.length = (o.pieces.map pieceV).length
theorem NsShp.ext {B B' : Base} {ns : Ns} {o : OpT} (h : NsShp B ns o) (e : Ext B B') : NsShp B' ns o := by
  obtain ⟨⟨xs, h1, e1⟩, ⟨ys, h2, e2⟩, ⟨zs, h3, e3⟩⟩ := h
  exact ⟨⟨xs, e _ _ h1, e1⟩, ⟨ys, e _ _ h2, e2⟩, ⟨zs, e _ _ h3, e3⟩⟩
end Bow
/- SP28: where a node is, number by number (the document's answer), in plain Lean. -/
namespace Bow
open Go

theorem nums_snocR (c : Chg) : ∀ (p q : List Int) (k : Int), c.nums q (p ++ [k]) = c.nums q p ++ [c.number (q ++ p) k]
  | [], q, k => by simp [Chg.nums]
  | j :: p, q, k => by
    rw [List.cons_append, Chg.nums, Chg.nums, nums_snocR c p (q ++ [j]) k]
    simp
theorem within_snoc (p q : List Int) (k : Int) : within p (q ++ [k]) = (within p q || decide (p = q ++ [k])) := by
  unfold within
  by_cases h1 : p.length ≤ q.length
  · rw [List.take_append_of_le_length h1]
    have : p ≠ q ++ [k] := fun e => by rw [e] at h1; simp at h1; omega
    rw [decide_eq_false this, Bool.or_false]
  · have hq : q.take p.length = q := List.take_of_length_le (by omega)
    have h2 : (q ++ [k]).take p.length = q ++ [k] := List.take_of_length_le (by simp; omega)
    have : p ≠ q := fun e => by rw [e] at h1; omega
    rw [hq, h2, decide_eq_false this, Bool.false_or]
theorem moves_kinds {o : OpT} (h : movesO o = true) : o.kind = 1 ∨ (o.kind = 2 ∧ o.path ≠ []) ∨ (o.kind = 3 ∧ o.path ≠ [] ∧ within o.path o.to = false) := by
  unfold movesO at h
  rw [Bool.and_eq_true] at h
  have h := h.2
  by_cases h1 : o.kind = 1
  · exact .inl h1
  · rw [decide_eq_false h1, cond_false] at h
    by_cases h2 : o.kind = 2
    · rw [decide_eq_true h2, cond_true] at h
      exact .inr (.inl ⟨h2, fun e => by rw [e] at h; cases h⟩)
    · rw [decide_eq_false h2, cond_false] at h
      by_cases h3 : o.kind = 3
      · rw [decide_eq_true h3, cond_true, Bool.and_eq_true] at h
        exact .inr (.inr ⟨h3, (fun e => (by rw [e] at h; cases h.1)), (by simpa using h.2)⟩)
      · rw [decide_eq_false h3, cond_false] at h
        cases h
def childR (o : OpT) (p : List Int) (k : Int) : Option Int :=
  bif decide (o.kind = 1) then some (bif decide (p = o.path) && decide (o.at_ ≤ k) then k + 1 else k)
  else bif decide (p = o.path.dropLast) && decide (k = lastP o.path) then none
  else some ((bif decide (p = o.path.dropLast) && decide (lastP o.path < k) then k - 1 else k) + (bif decide (o.kind = 3) && (decide (p = o.to) && decide (o.at_ ≤ k)) then 1 else 0))
theorem snoc_last {p : List Int} (h : p ≠ []) : p.dropLast ++ [lastP p] = p := by
  rw [← lastP_eq h]
  exact List.dropLast_concat_getLast h
theorem snoc_iff {p q : List Int} (k : Int) (h : p ≠ []) : p = q ++ [k] ↔ q = p.dropLast ∧ k = lastP p := by
  constructor
  · intro e
    subst e
    simp [lastP]
  · rintro ⟨rfl, rfl⟩
    exact (snoc_last h).symm
def nodeR (a : Option (List Int)) (b : Option Int) : Option (List Int) :=
  match a, b with
  | some r, some n => some (r ++ [n])
  | _, _ => none
theorem node_snoc {o : OpT} (hm : movesO o = true) (q : List Int) (k : Int) (hne : ¬ (o.kind = 3 ∧ o.path = q ++ [k])) : nodeP o (q ++ [k]) = nodeR (nodeP o q) (childR o q k) := by
  unfold nodeP
  rw [hm, Bool.not_true, cond_false, cond_false]
  rcases moves_kinds hm with h1 | ⟨h2, hn⟩ | ⟨h3, hn, hw⟩
  · have ht : (chgO o).takes = false := by unfold chgO; simp [h1]
    have hc : childR o q k = some ((chgO o).number q k) := by
      unfold childR Chg.number chgO
      rw [h1]
      simp only [decide_true, cond_true, Bool.not_true, Bool.false_and, cond_false, Bool.true_and, show decide ((1 : Int) = 2) = false from rfl, Bool.not_false]
      by_cases e1 : q = o.path <;> by_cases e2 : o.at_ ≤ k <;> simp [e1, e2]
    rw [ht, Bool.false_and, Bool.false_and, cond_false, cond_false, nums_snocR, hc, List.nil_append]
    rfl
  · have ht : (chgO o).takes = true := by unfold chgO; simp [h2]
    have hp : (chgO o).puts = false := by unfold chgO; simp [h2]
    rw [ht, hp, Bool.true_and, Bool.true_and, within_snoc]
    cases hwq : within o.path q with
    | true => rfl
    | false =>
      simp only [Bool.false_or, cond_false]
      by_cases e : o.path = q ++ [k]
      · rw [decide_eq_true e]
        obtain ⟨e1, e2⟩ := (snoc_iff k hn).1 e
        have hc : childR o q k = none := by
          unfold childR
          rw [h2, decide_eq_true e1, decide_eq_true e2]
          rfl
        rw [hc]; rfl
      · rw [decide_eq_false e, cond_false, nums_snocR, List.nil_append]
        have hnot : ¬ (q = o.path.dropLast ∧ k = lastP o.path) := fun g => e ((snoc_iff k hn).2 g)
        have hc : childR o q k = some ((chgO o).number q k) := by
          unfold childR Chg.number chgO
          rw [h2]
          by_cases e1 : q = o.path.dropLast <;> by_cases e2 : k = lastP o.path
          · exact absurd ⟨e1, e2⟩ hnot
          · by_cases e3 : lastP o.path < k <;> simp [e1, e2, e3]
          · simp [e1, e2]
          · simp [e1, e2]
        rw [hc]; rfl
  · have ht : (chgO o).takes = true := by unfold chgO; simp [h3]
    have hp : (chgO o).puts = true := by unfold chgO; simp [h3]
    have e : o.path ≠ q ++ [k] := fun e => hne ⟨h3, e⟩
    have hnot : ¬ (q = o.path.dropLast ∧ k = lastP o.path) := fun g => e ((snoc_iff k hn).2 g)
    rw [ht, hp, Bool.true_and, Bool.true_and, within_snoc, decide_eq_false e, Bool.or_false]
    cases hwq : within o.path q with
    | true =>
      simp only [Bool.not_true, cond_false, cond_true]
      have hl := within_len hwq
      have e1 : q ≠ o.path.dropLast := fun g => by
        have : o.path.length ≤ o.path.dropLast.length := g ▸ hl
        have h0 := List.length_pos_iff.2 hn
        simp at this
        omega
      have e2 : q ≠ o.to := fun g => by rw [g, hw] at hwq; cases hwq
      have hc : childR o q k = some k := by
        unfold childR
        simp [h3, e1, e2]
      rw [hc, List.drop_append_of_le_length hl]
      simp [nodeR]
    | false =>
      simp only [cond_false]
      rw [nums_snocR, List.nil_append]
      have hc : childR o q k = some ((chgO o).number q k) := by
        unfold childR Chg.number chgO
        rw [h3]
        by_cases e1 : q = o.path.dropLast <;> by_cases e2 : k = lastP o.path
        · exact absurd ⟨e1, e2⟩ hnot
        all_goals by_cases e3 : lastP o.path < k <;> by_cases e4 : q = o.to <;> by_cases e5 : o.at_ ≤ k <;> simp_all
      rw [hc]; rfl
theorem node_moved {o : OpT} (hm : movesO o = true) (hk : o.kind = 3) : nodeP o o.path = some ((nodeP o o.to).getD [] ++ [bif decide (o.path.dropLast = o.to) && decide (lastP o.path < o.at_) then o.at_ - 1 else o.at_]) := by
  rcases moves_kinds hm with h1 | ⟨h2, hn⟩ | ⟨h3, hn, hw⟩
  · omega
  · omega
  · have ht : (chgO o).takes = true := by unfold chgO; simp [h3]
    have hp : (chgO o).puts = true := by unfold chgO; simp [h3]
    have hpp : within o.path o.path = true := by unfold within; simp
    unfold nodeP
    rw [hm, ht, hp, hpp, hw]
    simp only [Bool.not_true, cond_false, Bool.and_self, cond_true, Bool.and_false, List.drop_length, List.append_nil, Option.getD_some, Option.some.injEq, List.append_cancel_left_eq, List.cons.injEq, and_true]
    unfold Chg.land chgO
    rw [h3]
    by_cases e1 : o.path.dropLast = o.to <;> by_cases e2 : lastP o.path < o.at_ <;> simp [e1, e2]
theorem node_still {o : OpT} (p : List Int) (h : movesO o = false) : nodeP o p = some p := by
  unfold nodeP
  rw [h]; rfl
theorem node_root {o : OpT} : nodeP o [] = some [] := by
  unfold nodeP
  cases hm : movesO o with
  | false => rfl
  | true =>
    simp only [Bool.not_true, cond_false]
    have : ((chgO o).takes && within o.path []) = false := by
      rcases moves_kinds hm with h1 | ⟨h2, hn⟩ | ⟨h3, hn, hw⟩
      · unfold chgO; simp [h1]
      all_goals
        cases hp : o.path with
        | nil => exact absurd hp hn
        | cons a l => rw [within_cons_nil, Bool.and_false]
    rw [this]; rfl
end Bow
/- W67: the document's answer of chapter 11: Moves, parent, child, Node, Gap, Undo. -/
namespace Bow
open Go Go.Proofs

end Bow
/- SP27: two edits behind each other, place by place, in plain Lean: as leaftext goes, by runs, it is the same. -/
namespace Bow
open Go

def Later (l : List PieceT) : Prop := ∀ p ∈ l, 0 < p.keep ∧ 0 ≤ p.drop
def RN : List PieceT → Prop
  | [] => True
  | p :: l => 0 ≤ p.keep ∧ 0 ≤ p.drop ∧ Later l
theorem Later.rn {l : List PieceT} (h : Later l) : RN l := by
  cases l with
  | nil => trivial
  | cons p l =>
    have := h p List.mem_cons_self
    exact ⟨by omega, this.2, fun q hq => h q (List.mem_cons_of_mem _ hq)⟩

/-! ### What a maker makes is normal -/
structure Mk.Rn (m : Mk) : Prop where
  k : 0 ≤ m.keep
  l : RN m.l
theorem later_append {l : List PieceT} {p : PieceT} (h : Later l) (hp : 0 < p.keep ∧ 0 ≤ p.drop) : Later (l ++ [p]) := by
  intro q hq
  rcases List.mem_append.1 hq with hq | hq
  · exact h q hq
  · rw [List.mem_singleton] at hq
    exact hq ▸ hp
theorem rn_append {l : List PieceT} {p : PieceT} (h : RN l) (hp : 0 < p.keep ∧ 0 ≤ p.drop) : RN (l ++ [p]) := by
  cases l with
  | nil => exact ⟨by omega, hp.2, by intro q hq; cases hq⟩
  | cons q l => exact ⟨h.1, h.2.1, later_append h.2.2 hp⟩
theorem Mk.last_rn {m : Mk} (h : m.Rn) : m.last.Rn := by
  unfold Mk.last
  cases hk : decide (0 < m.keep) with
  | true => exact ⟨Int.le_refl 0, rn_append h.l ⟨of_decide_eq_true hk, Int.le_refl _⟩⟩
  | false =>
    cases hl : m.l with
    | nil => exact ⟨Int.le_refl 0, ⟨h.k, Int.le_refl _, by intro q hq; cases hq⟩⟩
    | cons p l => exact h
theorem modL_later {f : PieceT → PieceT} (hf : ∀ p, (f p).keep = p.keep) (hd : ∀ p, 0 ≤ p.drop → 0 ≤ (f p).drop) : ∀ {l : List PieceT}, Later l → Later (modL f l)
  | [], h => h
  | [p], h => by
    intro q hq
    rw [modL, List.mem_singleton] at hq
    have := h p List.mem_cons_self
    rw [hq, hf]
    exact ⟨this.1, hd _ this.2⟩
  | p :: q :: r, h => by
    intro z hz
    rw [modL] at hz
    rcases List.mem_cons.1 hz with rfl | hz
    · exact h _ List.mem_cons_self
    · exact modL_later hf hd (fun y hy => h y (List.mem_cons_of_mem _ hy)) z hz
theorem modL_rn {f : PieceT → PieceT} (hf : ∀ p, (f p).keep = p.keep) (hd : ∀ p, 0 ≤ p.drop → 0 ≤ (f p).drop) : ∀ {l : List PieceT}, RN l → RN (modL f l)
  | [], h => h
  | [p], h => by
    rw [modL]
    exact ⟨by rw [hf]; exact h.1, hd _ h.2.1, h.2.2⟩
  | p :: q :: r, h => ⟨h.1, h.2.1, modL_later hf hd h.2.2⟩
theorem Mk.put_rn {m : Mk} (s : List UInt8) (h : m.Rn) : (m.put s).Rn := by
  unfold Mk.put
  cases s.isEmpty with
  | true => exact h
  | false => exact ⟨(Mk.last_rn h).k, modL_rn (f := fun p => { p with put := p.put ++ s }) (fun _ => rfl) (fun _ h => h) (Mk.last_rn h).l⟩
theorem Mk.drop_rn {m : Mk} (n : Int) (h : m.Rn) : (m.drop n).Rn := by
  unfold Mk.drop
  cases hn : decide (0 < n) with
  | false => exact h
  | true => exact ⟨(Mk.last_rn h).k, modL_rn (f := fun p => { p with drop := p.drop + n }) (fun _ => rfl) (fun p h => by have := of_decide_eq_true hn; show 0 ≤ p.drop + n; omega) (Mk.last_rn h).l⟩
theorem Mk.piece_rn {m : Mk} {p : PieceT} (h : m.Rn) (hp : p.Nn) : (m.piece p).Rn :=
  Mk.drop_rn _ (Mk.put_rn _ ⟨by have := h.k; have := hp.k; show 0 ≤ m.keep + p.keep; omega, h.l⟩)
theorem foldl_rn : ∀ {l : List PieceT} {m : Mk}, m.Rn → (∀ p ∈ l, p.Nn) → (l.foldl Mk.piece m).Rn
  | [], _, h, _ => h
  | p :: l, m, h, hl => foldl_rn (l := l) (m := m.piece p) (Mk.piece_rn h (hl p List.mem_cons_self)) (fun q hq => hl q (List.mem_cons_of_mem _ hq))
theorem norm_rn {l : List PieceT} (h : rightP l = true) : RN (normP l) := (foldl_rn (m := ⟨[], 0⟩) ⟨Int.le_refl 0, trivial⟩ (right_nn h).1).l

/-! ### A row that stands at a run -/
def Run (n : Int) (d s : Bool) (r : List PieceT) : Prop :=
  (s = false ∧ d = false ∧ n = 0 ∧ r = []) ∨ (s = true ∧ 0 < n ∧ ∃ p l, r = p :: l ∧ 0 ≤ p.drop ∧ Later l ∧ ((d = false ∧ n = p.keep) ∨ (d = true ∧ p.keep = 0 ∧ p.put = [] ∧ n = p.drop)))
def Clean : List PieceT → Prop
  | [] => True
  | p :: _ => p.keep ≤ 0 → p.put = []
theorem put_clean {r : List PieceT} (h : RN r) : RN (rowPut r).2 ∧ Clean (rowPut r).2 ∧ extN (rowPut r).2 = extN r := by
  cases r with
  | nil => exact ⟨trivial, trivial, rfl⟩
  | cons p l =>
    rw [rowPut]
    cases hk : decide (0 < p.keep) with
    | true => exact ⟨h, fun g => absurd (of_decide_eq_true hk) (by omega), rfl⟩
    | false =>
      cases hp : p.put.isEmpty with
      | true => exact ⟨h, fun _ => List.isEmpty_iff.1 hp, rfl⟩
      | false => exact ⟨h, fun _ => rfl, rfl⟩
theorem run_stand {r : List PieceT} (h : RN r) (hc : Clean r) : Run (rowRun r).1.1 (rowRun r).1.2.1 (rowRun r).1.2.2 (rowRun r).2 ∧ extN (rowRun r).2 = extN r := by
  cases r with
  | nil => exact ⟨.inl ⟨rfl, rfl, rfl, rfl⟩, rfl⟩
  | cons p l =>
    obtain ⟨h1, h2, h3⟩ := h
    rw [rowRun]
    cases hk : decide (0 < p.keep) with
    | true => exact ⟨.inr ⟨rfl, of_decide_eq_true hk, p, l, rfl, h2, h3, .inl ⟨rfl, rfl⟩⟩, rfl⟩
    | false =>
      have hk := of_decide_eq_false hk
      cases hd : decide (0 < p.drop) with
      | true => exact ⟨.inr ⟨rfl, of_decide_eq_true hd, p, l, rfl, h2, h3, .inr ⟨rfl, by omega, hc (by omega), rfl⟩⟩, rfl⟩
      | false =>
        have hd := of_decide_eq_false hd
        rw [cond_false, cond_false]
        have e : extN (p :: l) = extN l := by rw [extN]; omega
        rw [e]
        cases l with
        | nil => exact ⟨.inl ⟨rfl, rfl, rfl, rfl⟩, rfl⟩
        | cons q m =>
          have hq := h3 q List.mem_cons_self
          rw [rowRun, decide_eq_true hq.1]
          exact ⟨.inr ⟨rfl, hq.1, q, m, rfl, hq.2, fun z hz => h3 z (List.mem_cons_of_mem _ hz), .inl ⟨rfl, rfl⟩⟩, rfl⟩
theorem Run.put {n : Int} {d s : Bool} {r : List PieceT} (h : Run n d s r) : rowPut r = ([], r) := by
  rcases h with ⟨_, _, _, rfl⟩ | ⟨_, hn, p, l, rfl, _, _, ⟨_, rfl⟩ | ⟨_, hk, hp, _⟩⟩
  · rfl
  · rw [rowPut, decide_eq_true hn]; rfl
  · rw [rowPut, hp]; simp
theorem Run.run {n : Int} {d s : Bool} {r : List PieceT} (h : Run n d s r) : rowRun r = ((n, d, s), r) := by
  rcases h with ⟨rfl, rfl, rfl, rfl⟩ | ⟨rfl, hn, p, l, rfl, _, _, ⟨rfl, rfl⟩ | ⟨rfl, hk, hp, rfl⟩⟩
  · rfl
  · rw [rowRun, decide_eq_true hn]; rfl
  · rw [rowRun, decide_eq_false (by omega : ¬ 0 < p.keep), decide_eq_true hn]; rfl
theorem Run.take {n j : Int} {d s : Bool} {r : List PieceT} (h : Run n d s r) (_ : 0 ≤ j) (hs : s = true → j < n) : Run (bif s then n - j else 0) d s (rowTake j r) := by
  rcases h with ⟨rfl, rfl, rfl, rfl⟩ | ⟨rfl, hn, p, l, rfl, hd, hl, ⟨rfl, rfl⟩ | ⟨rfl, hk, hp, rfl⟩⟩
  · exact .inl ⟨rfl, rfl, rfl, rfl⟩
  · have := hs rfl
    rw [rowTake, decide_eq_true hn]
    exact .inr ⟨rfl, by rw [cond_true]; omega, _, l, rfl, hd, hl, .inl ⟨rfl, rfl⟩⟩
  · have := hs rfl
    rw [rowTake, decide_eq_false (by omega : ¬ 0 < p.keep)]
    exact .inr ⟨rfl, by rw [cond_true]; omega, _, l, rfl, by show 0 ≤ p.drop - j; omega, hl, .inr ⟨rfl, hk, hp, rfl⟩⟩
theorem Run.take_take {n j : Int} {d s : Bool} {r : List PieceT} (h : Run n d s r) (_ : 0 ≤ j) (hs : s = true → j < n) : rowTake 1 (rowTake j r) = rowTake (j + 1) r := by
  rcases h with ⟨rfl, rfl, rfl, rfl⟩ | ⟨rfl, hn, p, l, rfl, hd, hl, ⟨rfl, rfl⟩ | ⟨rfl, hk, hp, rfl⟩⟩
  · rfl
  · have := hs rfl
    rw [rowTake, decide_eq_true hn, cond_true, rowTake, decide_eq_true (by show 0 < p.keep - j; omega), cond_true, rowTake, decide_eq_true hn, cond_true, show p.keep - j - 1 = p.keep - (j + 1) by omega]
  · have := hs rfl
    have e : decide (0 < p.keep) = false := decide_eq_false (by omega)
    rw [rowTake, e, cond_false, rowTake, e, cond_false, rowTake, e, cond_false, show p.drop - j - 1 = p.drop - (j + 1) by omega]
theorem Run.rn {n j : Int} {d s : Bool} {r : List PieceT} (h : Run n d s r) (hj : 0 ≤ j) (hs : s = true → j ≤ n) : RN (rowTake j r) ∧ extN (rowTake j r) = extN r - (bif s then j.toNat else 0) ∧ (s = true → n.toNat ≤ extN r) ∧ (s = false → extN r = 0) := by
  rcases h with ⟨rfl, rfl, rfl, rfl⟩ | ⟨rfl, hn, p, l, rfl, hd, hl, ⟨rfl, rfl⟩ | ⟨rfl, hk, hp, rfl⟩⟩
  · exact ⟨trivial, rfl, (fun g => (by cases g)), (fun _ => rfl)⟩
  · have := hs rfl
    rw [rowTake, decide_eq_true hn]
    refine ⟨⟨by show 0 ≤ p.keep - j; omega, hd, hl⟩, ?_, (fun _ => ?_), (fun g => (by cases g))⟩
    · simp only [cond_true, extN]; omega
    · simp only [extN]; omega
  · have := hs rfl
    rw [rowTake, decide_eq_false (by omega : ¬ 0 < p.keep)]
    refine ⟨⟨by show 0 ≤ p.keep; omega, by show 0 ≤ p.drop - j; omega, hl⟩, ?_, (fun _ => ?_), (fun g => (by cases g))⟩
    · simp only [cond_false, cond_true, extN]; omega
    · simp only [extN]; omega

/-! ### Makers, byte by byte -/
def dX (m : Mk) (n : Int) (mine other : Bool) : Mk := bif other then m else bif mine then m.drop n else m.kept n
theorem does_eq (s : Tr) (n : Int) (d g : Bool) : s.does n d g = ⟨s.p, s.q, dX s.x n d g, dX s.y n g d⟩ := by
  cases d <;> cases g <;> rfl
theorem modL_modL (f g : PieceT → PieceT) : ∀ l : List PieceT, modL f (modL g l) = modL (fun p => f (g p)) l
  | [] => rfl
  | [p] => rfl
  | [p, q] => rfl
  | p :: q :: r :: l => by
    have ih := modL_modL f g (q :: r :: l)
    simp only [modL] at ih ⊢
    rw [ih]
theorem Mk.last_done (m : Mk) : ¬ 0 < m.last.keep ∧ m.last.l ≠ [] := by
  refine ⟨?_, m.last_ne⟩
  unfold Mk.last
  cases h : decide (0 < m.keep) || m.l.isEmpty with
  | true => simp
  | false =>
    rw [Bool.or_eq_false_iff] at h
    exact of_decide_eq_false h.1
theorem Mk.last_of {m : Mk} (h1 : ¬ 0 < m.keep) (h2 : m.l ≠ []) : m.last = m := by
  unfold Mk.last
  rw [decide_eq_false h1]
  cases h : m.l with
  | nil => exact absurd h h2
  | cons p l => rfl
theorem drop_drop (m : Mk) {j : Int} (hj : 0 < j) : (m.drop j).drop 1 = m.drop (j + 1) := by
  obtain ⟨h1, h2⟩ := m.last_done
  unfold Mk.drop
  rw [decide_eq_true hj, decide_eq_true (by omega : (0 : Int) < j + 1), cond_true, cond_true]
  rw [Mk.last_of (m := ⟨modL (fun p => { p with drop := p.drop + j }) m.last.l, m.last.keep⟩) h1 (modL_ne h2)]
  simp only [modL_modL]
  simp only [show (decide ((0 : Int) < 1)) = true from rfl, cond_true, Int.add_assoc]
theorem dX_dX (m : Mk) {j : Int} (hj : 0 < j) (d g : Bool) : dX (dX m j d g) 1 d g = dX m (j + 1) d g := by
  cases g with
  | true => rfl
  | false =>
    cases d with
    | true => exact drop_drop m hj
    | false =>
      unfold dX Mk.kept
      simp only [cond_false, Int.add_assoc]
theorem put_nil (m : Mk) : m.put [] = m := rfl
theorem kept_zero (m : Mk) : m.kept 0 = m := by
  unfold Mk.kept
  rw [Int.add_zero]

/-! ### Place by place -/
def Tr.one (prior : Bool) (s : Tr) : Tr :=
  match s.puts prior with
  | ⟨p, q, x, y⟩ => Tr.does ⟨rowTake 1 (rowRun p).2, rowTake 1 (rowRun q).2, x, y⟩ 1 (rowRun p).1.2.1 (rowRun q).1.2.1
def Tr.bytes (prior : Bool) : Nat → Tr → Tr
  | 0, s => s
  | k + 1, s => Tr.bytes prior k (s.one prior)
theorem bytes_add (prior : Bool) : ∀ (j k : Nat) (s : Tr), Tr.bytes prior (j + k) s = Tr.bytes prior k (Tr.bytes prior j s)
  | 0, k, s => by rw [Nat.zero_add]; rfl
  | j + 1, k, s => by rw [Nat.succ_add]; exact bytes_add prior j k (s.one prior)
theorem puts_run {prior : Bool} {p q : List PieceT} {x y : Mk} (hp : rowPut p = ([], p)) (hq : rowPut q = ([], q)) : Tr.puts prior ⟨p, q, x, y⟩ = ⟨p, q, x, y⟩ := by
  unfold Tr.puts
  simp only [hp, hq]
  cases prior <;> simp [put_nil, kept_zero]
/-- So many bytes at once, of two rows that go on alike. -/
theorem bytes_run {prior : Bool} {s : Tr} {p q p' q' : List PieceT} {x y : Mk} {na nb : Int} {d g sa sb : Bool} (h1 : s.puts prior = ⟨p, q, x, y⟩) (h2 : rowRun p = ((na, d, sa), p')) (h3 : rowRun q = ((nb, g, sb), q')) (h4 : Run na d sa p') (h5 : Run nb g sb q') :
    ∀ j : Nat, (sa = true → (j : Int) + 1 ≤ na) → (sb = true → (j : Int) + 1 ≤ nb) → Tr.bytes prior (j + 1) s = Tr.does ⟨rowTake (j + 1 : Nat) p', rowTake (j + 1 : Nat) q', x, y⟩ (j + 1 : Nat) d g
  | 0, _, _ => by
    show s.one prior = _
    unfold Tr.one
    rw [h1]
    simp only [h2, h3]
    rfl
  | j + 1, ha, hb => by
    rw [bytes_add prior (j + 1) 1, bytes_run h1 h2 h3 h4 h5 j (fun e => by have := ha e; omega) (fun e => by have := hb e; omega)]
    have ja : sa = true → ((j + 1 : Nat) : Int) < na := fun e => by have := ha e; omega
    have jb : sb = true → ((j + 1 : Nat) : Int) < nb := fun e => by have := hb e; omega
    have ka := h4.take (Int.natCast_nonneg (j + 1)) ja
    have kb := h5.take (Int.natCast_nonneg (j + 1)) jb
    rw [does_eq]
    show Tr.one prior _ = _
    unfold Tr.one
    rw [puts_run ka.put kb.put]
    simp only [ka.run, kb.run]
    rw [does_eq, does_eq, h4.take_take (Int.natCast_nonneg (j + 1)) ja, h5.take_take (Int.natCast_nonneg (j + 1)) jb]
    simp only
    rw [dX_dX x (by omega), dX_dX y (by omega)]
    rfl
theorem bytes_end {prior : Bool} : ∀ (k : Nat) (x y : Mk), (Tr.bytes prior k ⟨[], [], x, y⟩).x.l = x.l ∧ (Tr.bytes prior k ⟨[], [], x, y⟩).y.l = y.l
  | 0, _, _ => ⟨rfl, rfl⟩
  | k + 1, x, y => by
    have e : Tr.one prior ⟨[], [], x, y⟩ = ⟨[], [], x.kept 1, y.kept 1⟩ := by
      unfold Tr.one
      rw [puts_run rfl rfl]
      rfl
    show (Tr.bytes prior k (Tr.one prior ⟨[], [], x, y⟩)).x.l = _ ∧ (Tr.bytes prior k (Tr.one prior ⟨[], [], x, y⟩)).y.l = _
    rw [e]
    exact bytes_end k _ _
theorem puts_rows (prior : Bool) (s : Tr) : (s.puts prior).p = (rowPut s.p).2 ∧ (s.puts prior).q = (rowPut s.q).2 := by
  unfold Tr.puts
  cases prior <;> exact ⟨rfl, rfl⟩
theorem go_bytes (prior : Bool) : ∀ (f : Nat) (s : Tr) (k : Nat), RN s.p → RN s.q → extN s.p + extN s.q < f → extN s.p < k → extN s.q < k →
    (Tr.go prior f s).x.l = (Tr.bytes prior k s).x.l ∧ (Tr.go prior f s).y.l = (Tr.bytes prior k s).y.l
  | 0, _, _, _, _, h, _, _ => absurd h (by omega)
  | f + 1, s, k, hp, hq, hf, hk, hk' => by
    obtain ⟨p1, p2, p3⟩ := put_clean hp
    obtain ⟨q1, q2, q3⟩ := put_clean hq
    obtain ⟨e1, e2⟩ := puts_rows prior s
    rw [Tr.go]
    cases hs : s.puts prior with
    | mk p q x y =>
      rw [hs] at e1 e2
      simp only at e1 e2
      subst e1 e2
      obtain ⟨r1, r2⟩ := run_stand p1 p2
      obtain ⟨t1, t2⟩ := run_stand q1 q2
      cases ha : rowRun (rowPut s.p).2 with
      | mk a p' =>
        obtain ⟨na, d, sa⟩ := a
        cases hb : rowRun (rowPut s.q).2 with
        | mk b q' =>
          obtain ⟨nb, g, sb⟩ := b
          rw [ha] at r1 r2
          rw [hb] at t1 t2
          simp only at r1 r2 t1 t2 ⊢
          rw [bothR_eq ha hb]
          cases hsab : !sa && !sb with
          | true =>
            have hsa : sa = false := by cases sa <;> simp_all
            have hsb : sb = false := by cases sb <;> simp_all
            subst hsa hsb
            rcases r1 with ⟨_, rfl, rfl, rfl⟩ | ⟨g, _⟩
            · rcases t1 with ⟨_, rfl, rfl, rfl⟩ | ⟨g, _⟩
              · simp only [cond_true, cond_false]
                cases k with
                | zero => omega
                | succ k =>
                  have e : Tr.one prior s = ⟨[], [], x.kept 1, y.kept 1⟩ := by
                    unfold Tr.one
                    rw [hs]
                    simp only [ha, hb]
                    rfl
                  show _ = (Tr.bytes prior k (Tr.one prior s)).x.l ∧ _ = (Tr.bytes prior k (Tr.one prior s)).y.l
                  rw [e]
                  obtain ⟨z1, z2⟩ := bytes_end (prior := prior) k (x.kept 1) (y.kept 1)
                  exact ⟨z1.symm, z2.symm⟩
              · cases g
            · cases g
          | false =>
            have hn : ∃ n : Int, (bif !sa then nb else bif sb then min na nb else na) = n ∧ 0 < n ∧ (sa = true → n ≤ na) ∧ (sb = true → n ≤ nb) := by
              refine ⟨_, rfl, ?_⟩
              have ra : sa = true → 0 < na := fun e => by rcases r1 with ⟨h, _⟩ | ⟨_, h, _⟩; (· rw [e] at h; cases h); exact h
              have rb : sb = true → 0 < nb := fun e => by rcases t1 with ⟨h, _⟩ | ⟨_, h, _⟩; (· rw [e] at h; cases h); exact h
              cases sa <;> cases sb <;> simp_all <;> omega
            obtain ⟨n, hn, h0, h1, h2⟩ := hn
            simp only [cond_false]
            rw [hn]
            simp only [cond_true]
            obtain ⟨m, rfl⟩ : ∃ m : Nat, n = ((m + 1 : Nat) : Int) := ⟨n.toNat - 1, by omega⟩
            obtain ⟨u1, u2, u3, u4⟩ := r1.rn (j := ((m + 1 : Nat) : Int)) (by omega) h1
            obtain ⟨v1, v2, v3, v4⟩ := t1.rn (j := ((m + 1 : Nat) : Int)) (by omega) h2
            have hb := bytes_run hs ha hb r1 t1 m (fun e => by have := h1 e; omega) (fun e => by have := h2 e; omega)
            have hmk : m + 1 < k := by
              cases sa with
              | true => have := u3 rfl; have := h1 rfl; omega
              | false =>
                cases sb with
                | true => have := v3 rfl; have := h2 rfl; omega
                | false => cases hsab
            obtain ⟨k', rfl⟩ : ∃ k', k = (m + 1) + k' := ⟨k - (m + 1), by omega⟩
            rw [bytes_add, hb]
            refine go_bytes prior f _ k' ?_ ?_ ?_ ?_ ?_
            all_goals rw [does_eq]
            · exact u1
            · exact v1
            all_goals simp only
            · rw [u2, v2]
              cases sa with
              | true => have := u3 rfl; have := h1 rfl; simp only [cond_true]; cases sb <;> simp only [cond_true, cond_false] <;> omega
              | false =>
                cases sb with
                | true => have := v3 rfl; have := h2 rfl; simp only [cond_true, cond_false]; omega
                | false => cases hsab
            · rw [u2]
              cases sa with
              | true => simp only [cond_true]; omega
              | false => have := u4 rfl; simp only [cond_false]; omega
            · rw [v2]
              cases sb with
              | true => simp only [cond_true]; omega
              | false => have := v4 rfl; simp only [cond_false]; omega

/-! ### An edit, place by place -/
def putAt : List PieceT → Nat → List UInt8
  | [], _ => []
  | p :: l, i => bif decide (i < p.keep.toNat) then [] else bif decide (i = p.keep.toNat) then p.put else bif decide (i < p.keep.toNat + p.drop.toNat) then [] else putAt l (i - (p.keep.toNat + p.drop.toNat))
def dropAt : List PieceT → Nat → Bool
  | [], _ => false
  | p :: l, i => bif decide (i < p.keep.toNat) then false else bif decide (i < p.keep.toNat + p.drop.toNat) then true else dropAt l (i - (p.keep.toNat + p.drop.toNat))
theorem later_put0 {l : List PieceT} (h : Later l) : putAt l 0 = [] := by
  cases l with
  | nil => rfl
  | cons p l =>
    have := (h p List.mem_cons_self).1
    rw [putAt, decide_eq_true (by omega)]; rfl
def rowNext (r : List PieceT) : List PieceT := rowTake 1 (rowRun (rowPut r).2).2
theorem putAt_keep {p : PieceT} {l : List PieceT} (h : 0 < p.keep) (i : Nat) : putAt ({ p with keep := p.keep - 1 } :: l) i = putAt (p :: l) (i + 1) := by
  rw [putAt, putAt]
  simp only
  have e1 : decide (i < (p.keep - 1).toNat) = decide (i + 1 < p.keep.toNat) := by simp only [decide_eq_decide]; omega
  have e2 : decide (i = (p.keep - 1).toNat) = decide (i + 1 = p.keep.toNat) := by simp only [decide_eq_decide]; omega
  have e3 : decide (i < (p.keep - 1).toNat + p.drop.toNat) = decide (i + 1 < p.keep.toNat + p.drop.toNat) := by simp only [decide_eq_decide]; omega
  have e4 : i - ((p.keep - 1).toNat + p.drop.toNat) = i + 1 - (p.keep.toNat + p.drop.toNat) := by omega
  rw [e1, e2, e3, e4]
theorem dropAt_keep {p : PieceT} {l : List PieceT} (h : 0 < p.keep) (i : Nat) : dropAt ({ p with keep := p.keep - 1 } :: l) i = dropAt (p :: l) (i + 1) := by
  rw [dropAt, dropAt]
  simp only
  have e1 : decide (i < (p.keep - 1).toNat) = decide (i + 1 < p.keep.toNat) := by simp only [decide_eq_decide]; omega
  have e3 : decide (i < (p.keep - 1).toNat + p.drop.toNat) = decide (i + 1 < p.keep.toNat + p.drop.toNat) := by simp only [decide_eq_decide]; omega
  have e4 : i - ((p.keep - 1).toNat + p.drop.toNat) = i + 1 - (p.keep.toNat + p.drop.toNat) := by omega
  rw [e1, e3, e4]
theorem row_place {r : List PieceT} (h : RN r) : (rowPut r).1 = putAt r 0 ∧ (rowRun (rowPut r).2).1.2.1 = dropAt r 0 ∧ RN (rowNext r) ∧ (∀ i, putAt (rowNext r) i = putAt r (i + 1)) ∧ (∀ i, dropAt (rowNext r) i = dropAt r (i + 1)) := by
  cases r with
  | nil => exact ⟨rfl, rfl, trivial, fun _ => rfl, fun _ => rfl⟩
  | cons p l =>
    obtain ⟨h1, h2, h3⟩ := h
    unfold rowNext
    rw [rowPut]
    by_cases hk : 0 < p.keep
    · rw [decide_eq_true hk, Bool.true_or, cond_true]
      simp only
      rw [rowRun, decide_eq_true hk, cond_true, rowTake, decide_eq_true hk, cond_true]
      refine ⟨?_, ?_, ⟨by show 0 ≤ p.keep - 1; omega, h2, h3⟩, putAt_keep hk, dropAt_keep hk⟩
      · rw [putAt, decide_eq_true (by omega)]; rfl
      · rw [dropAt, decide_eq_true (by omega)]; rfl
    · have e : p.keep.toNat = 0 := by omega
      have hc : ∃ p', (bif decide (0 < p.keep) || p.put.isEmpty then (([] : List UInt8), p :: l) else (p.put, { p with put := [] } :: l)) = (p.put, p' :: l) ∧ p'.keep = p.keep ∧ p'.drop = p.drop ∧ p'.put = [] := by
        rw [decide_eq_false hk, Bool.false_or]
        cases hp : p.put.isEmpty with
        | true =>
          have := List.isEmpty_iff.1 hp
          exact ⟨p, by rw [this]; rfl, rfl, rfl, this⟩
        | false => exact ⟨{ p with put := [] }, rfl, rfl, rfl, rfl⟩
      obtain ⟨p', hc, c1, c2, c3⟩ := hc
      rw [hc]
      simp only
      have p0 : p.put = putAt (p :: l) 0 := by rw [putAt, e]; rfl
      rw [rowRun, decide_eq_false (by rw [c1]; exact hk), cond_false, c2]
      by_cases hd : 0 < p.drop
      · rw [decide_eq_true hd, cond_true, rowTake, decide_eq_false (by rw [c1]; exact hk), cond_false]
        refine ⟨p0, ?_, ⟨by show 0 ≤ p'.keep; omega, by show 0 ≤ p'.drop - 1; omega, h3⟩, fun i => ?_, fun i => ?_⟩
        · rw [dropAt, e, decide_eq_false (by omega), decide_eq_true (by omega)]; rfl
        · rw [putAt, putAt]
          simp only [c1, c2, e]
          rw [decide_eq_false (by omega : ¬ i < 0), decide_eq_false (by omega : ¬ i + 1 < 0), cond_false, cond_false, decide_eq_false (by omega : ¬ i + 1 = 0), cond_false]
          have e3 : decide (i < 0 + (p.drop - 1).toNat) = decide (i + 1 < 0 + p.drop.toNat) := by simp only [decide_eq_decide]; omega
          have e4 : i - (0 + (p.drop - 1).toNat) = i + 1 - (0 + p.drop.toNat) := by omega
          rw [e3, e4]
          by_cases hi : i = 0
          · subst hi
            rw [decide_eq_true rfl, cond_true, c3]
            by_cases h5 : p.drop = 1
            · rw [h5]
              exact (later_put0 h3).symm
            · rw [decide_eq_true (by omega), cond_true]
          · rw [decide_eq_false hi, cond_false]
        · rw [dropAt, dropAt]
          simp only [c1, c2, e]
          rw [decide_eq_false (by omega : ¬ i < 0), decide_eq_false (by omega : ¬ i + 1 < 0), cond_false, cond_false]
          have e3 : decide (i < 0 + (p.drop - 1).toNat) = decide (i + 1 < 0 + p.drop.toNat) := by simp only [decide_eq_decide]; omega
          have e4 : i - (0 + (p.drop - 1).toNat) = i + 1 - (0 + p.drop.toNat) := by omega
          rw [e3, e4]
      · rw [decide_eq_false hd, cond_false]
        have f : p.drop.toNat = 0 := by omega
        have up : ∀ i, putAt (p :: l) (i + 1) = putAt l (i + 1) := fun i => by
          rw [putAt, e, f, decide_eq_false (by omega : ¬ i + 1 < 0), decide_eq_false (by omega : ¬ i + 1 = 0)]; rfl
        have ud : ∀ i, dropAt (p :: l) i = dropAt l i := fun i => by
          rw [dropAt, e, f, decide_eq_false (by omega : ¬ i < 0)]; rfl
        cases l with
        | nil => exact ⟨p0, by rw [ud]; rfl, trivial, fun i => by rw [up]; rfl, fun i => by rw [ud]; rfl⟩
        | cons q m =>
          have hq := h3 q List.mem_cons_self
          rw [rowRun, decide_eq_true hq.1, cond_true, rowTake, decide_eq_true hq.1, cond_true]
          refine ⟨p0, ?_, ⟨by show 0 ≤ q.keep - 1; omega, hq.2, fun z hz => h3 z (List.mem_cons_of_mem _ hz)⟩, fun i => ?_, fun i => ?_⟩
          · rw [ud, dropAt, decide_eq_true (by omega)]; rfl
          · rw [up, putAt_keep hq.1]
          · rw [ud, dropAt_keep hq.1]

/-! ### The document's answer -/
abbrev Pl := List UInt8 × Bool
/-- What a maker is told of one place. -/
def placeX (first : Bool) (a b : Pl) (m : Mk) : Mk := dX (bif first then (m.put a.1).kept b.1.length else (m.kept b.1.length).put a.1) 1 a.2 b.2
def placeP (first : Bool) (a b : Pl) : List PieceT :=
  (bif first then [⟨0, 0, a.1⟩, ⟨b.1.length, 0, []⟩] else [⟨b.1.length, 0, []⟩, ⟨0, 0, a.1⟩]) ++ (bif b.2 then [] else bif a.2 then [⟨0, 1, []⟩] else [⟨1, 0, []⟩])
theorem place_fold (first : Bool) (a b : Pl) (m : Mk) : (placeP first a b).foldl Mk.piece m = placeX first a b m := by
  have h1 : ∀ (m : Mk) (s : List UInt8), m.piece ⟨0, 0, s⟩ = m.put s := fun m s => by
    unfold Mk.piece
    rw [kept_zero]
    rfl
  have h2 : ∀ (m : Mk) (n : Int), m.piece ⟨n, 0, []⟩ = m.kept n := fun m n => rfl
  have h3 : ∀ (m : Mk), m.piece ⟨0, 1, []⟩ = m.drop 1 := fun m => by
    unfold Mk.piece
    rw [kept_zero]
    rfl
  unfold placeP placeX
  cases first <;> cases b.2 <;> cases a.2 <;> simp [h1, h2, h3, dX]
def placesP (first : Bool) : List Pl → List Pl → List PieceT
  | a :: va, b :: vb => placeP first a b ++ placesP first va vb
  | _, _ => []
def viewP (l : List PieceT) (n : Nat) : List Pl := (List.range' 0 (n + 1)).map fun i => (putAt l i, dropAt l i)
theorem one_place {prior : Bool} {s : Tr} (hp : RN s.p) (hq : RN s.q) : s.one prior = ⟨rowNext s.p, rowNext s.q, placeX prior (putAt s.p 0, dropAt s.p 0) (putAt s.q 0, dropAt s.q 0) s.x, placeX (!prior) (putAt s.q 0, dropAt s.q 0) (putAt s.p 0, dropAt s.p 0) s.y⟩ := by
  obtain ⟨a1, a2, a3, a4, a5⟩ := row_place hp
  obtain ⟨b1, b2, b3, b4, b5⟩ := row_place hq
  unfold Tr.one Tr.puts
  rw [← a1, ← b1, ← a2, ← b2]
  cases prior <;> simp only [cond_true, cond_false, does_eq] <;> rfl
theorem bytes_places {prior : Bool} : ∀ (k : Nat) (s : Tr) (p q : List PieceT) (j : Nat), RN s.p → RN s.q → (∀ i, putAt s.p i = putAt p (j + i)) → (∀ i, dropAt s.p i = dropAt p (j + i)) → (∀ i, putAt s.q i = putAt q (j + i)) → (∀ i, dropAt s.q i = dropAt q (j + i)) →
    (Tr.bytes prior k s).x = (placesP prior ((List.range' j k).map fun i => (putAt p i, dropAt p i)) ((List.range' j k).map fun i => (putAt q i, dropAt q i))).foldl Mk.piece s.x ∧
    (Tr.bytes prior k s).y = (placesP (!prior) ((List.range' j k).map fun i => (putAt q i, dropAt q i)) ((List.range' j k).map fun i => (putAt p i, dropAt p i))).foldl Mk.piece s.y
  | 0, _, _, _, _, _, _, _, _, _, _ => ⟨rfl, rfl⟩
  | k + 1, s, p, q, j, hp, hq, h1, h2, h3, h4 => by
    obtain ⟨a1, a2, a3, a4, a5⟩ := row_place hp
    obtain ⟨b1, b2, b3, b4, b5⟩ := row_place hq
    have ih := bytes_places (prior := prior) k (s.one prior) p q (j + 1)
    rw [one_place hp hq] at ih
    simp only at ih
    have ih := ih a3 b3 (fun i => by rw [a4, h1]; congr 1; omega) (fun i => by rw [a5, h2]; congr 1; omega) (fun i => by rw [b4, h3]; congr 1; omega) (fun i => by rw [b5, h4]; congr 1; omega)
    rw [List.range'_succ, List.map_cons, List.map_cons, placesP, placesP, List.foldl_append, List.foldl_append, place_fold, place_fold]
    show (Tr.bytes prior k (s.one prior)).x = _ ∧ (Tr.bytes prior k (s.one prior)).y = _
    rw [one_place hp hq]
    have e1 := h1 0
    have e2 := h2 0
    have e3 := h3 0
    have e4 := h4 0
    simp only [Nat.add_zero] at e1 e2 e3 e4
    rw [e1, e2, e3, e4] at ih ⊢
    exact ih
/-- The document's answer: by places. -/
def transR (a b : List PieceT) (prior : Bool) : List PieceT × List PieceT × Int :=
  bif !rightP a || !rightP b then ([], [], 2)
  else match max (extN (normP a)) (extN (normP b)) with
    | n => match normP (placesP prior (viewP (normP a) n) (viewP (normP b) n)), normP (placesP (!prior) (viewP (normP b) n) (viewP (normP a) n)) with
      | x, y => bif !rightP x || !rightP y then ([], [], 3) else (x, y, 0)
theorem transR_eq (a b : List PieceT) (prior : Bool) : transR a b prior = transP a b prior := by
  unfold transR transP
  cases h : !rightP a || !rightP b with
  | true => rfl
  | false =>
    rw [Bool.or_eq_false_iff] at h
    have ra : rightP a = true := by simpa using h.1
    have rb : rightP b = true := by simpa using h.2
    simp only [cond_false]
    have g := go_bytes prior (extN (normP a) + extN (normP b) + 1) ⟨normP a, normP b, Mk.nil, Mk.nil⟩ (max (extN (normP a)) (extN (normP b)) + 1) (norm_rn ra) (norm_rn rb) (by simp only; omega) (by simp only; omega) (by simp only; omega)
    have p := bytes_places (prior := prior) (max (extN (normP a)) (extN (normP b)) + 1) ⟨normP a, normP b, Mk.nil, Mk.nil⟩ (normP a) (normP b) 0 (norm_rn ra) (norm_rn rb) (fun i => by rw [Nat.zero_add]) (fun i => by rw [Nat.zero_add]) (fun i => by rw [Nat.zero_add]) (fun i => by rw [Nat.zero_add])
    cases hg : Tr.go prior (extN (normP a) + extN (normP b) + 1) ⟨normP a, normP b, Mk.nil, Mk.nil⟩ with
    | mk p' q' x y =>
      rw [hg] at g
      simp only at g ⊢
      have e1 : normP (placesP prior (viewP (normP a) (max (extN (normP a)) (extN (normP b)))) (viewP (normP b) (max (extN (normP a)) (extN (normP b))))) = x.l := by
        rw [g.1, p.1]; rfl
      have e2 : normP (placesP (!prior) (viewP (normP b) (max (extN (normP a)) (extN (normP b)))) (viewP (normP a) (max (extN (normP a)) (extN (normP b))))) = y.l := by
        rw [g.2, p.2]; rfl
      rw [e1, e2]
end Bow
/- SP31: the document's normal form and views, step by step, in plain Lean. -/
namespace Bow
open Go

theorem modL_snoc (f : PieceT → PieceT) : ∀ (l : List PieceT) (x : PieceT), modL f (l ++ [x]) = l ++ [f x]
  | [], _ => rfl
  | [_], _ => rfl
  | p :: q :: r, x => by
    have ih := modL_snoc f (q :: r) x
    rw [List.cons_append, List.cons_append, modL, ← List.cons_append, ih]
    rfl
theorem modL_ext {f g : PieceT → PieceT} (h : ∀ p, f p = g p) (l : List PieceT) : modL f l = modL g l := by
  rw [show f = g from funext h]
def addP (p q : PieceT) : PieceT := { q with put := q.put ++ p.put, drop := q.drop + p.drop }
theorem piece_some {m : Mk} {p : PieceT} (hd : 0 ≤ p.drop) (h0 : ¬ (p.put = [] ∧ p.drop = 0)) : m.piece p = ⟨modL (addP p) (m.kept p.keep).last.l, (m.kept p.keep).last.keep⟩ := by
  unfold Mk.piece
  generalize m.kept p.keep = K
  obtain ⟨d1, d2⟩ := K.last_done
  by_cases hp : p.put = []
  · have h1 : 0 < p.drop := by
      rcases Int.lt_or_eq_of_le hd with h | h
      · exact h
      · exact absurd ⟨hp, h.symm⟩ h0
    rw [hp, put_nil]
    unfold Mk.drop
    rw [decide_eq_true h1, cond_true]
    congr 1
    exact modL_ext (fun q => by unfold addP; rw [hp, List.append_nil]) _
  · have e : K.put p.put = ⟨modL (fun q => { q with put := q.put ++ p.put }) K.last.l, K.last.keep⟩ := by
      unfold Mk.put
      cases hq : p.put with
      | nil => exact absurd hq hp
      | cons a s => rfl
    rw [e]
    by_cases h1 : 0 < p.drop
    · unfold Mk.drop
      rw [decide_eq_true h1, cond_true]
      rw [Mk.last_of (m := ⟨modL (fun q => { q with put := q.put ++ p.put }) K.last.l, K.last.keep⟩) d1 (modL_ne d2)]
      simp only [modL_modL]
      rfl
    · have h2 : p.drop = 0 := by omega
      unfold Mk.drop
      rw [decide_eq_false h1, cond_false]
      congr 1
      exact modL_ext (fun q => by unfold addP; rw [h2, Int.add_zero]) _
theorem piece_skip {m : Mk} {p : PieceT} (h1 : p.put = []) (h2 : p.drop = 0) : m.piece p = ⟨m.l, m.keep + p.keep⟩ := by
  unfold Mk.piece
  rw [h1, put_nil]
  unfold Mk.drop
  rw [h2]
  rfl
theorem piece_merge {m : Mk} {p : PieceT} (hd : 0 ≤ p.drop) (h0 : ¬ (p.put = [] ∧ p.drop = 0)) (hk : m.keep + p.keep = 0) (hl : m.l ≠ []) : m.piece p = ⟨modL (addP p) m.l, 0⟩ := by
  rw [piece_some hd h0]
  have e : (m.kept p.keep).last = m.kept p.keep := Mk.last_of (by show ¬ 0 < m.keep + p.keep; omega) hl
  rw [e]
  show (⟨modL (addP p) m.l, m.keep + p.keep⟩ : Mk) = _
  rw [hk]
theorem piece_new {m : Mk} {p : PieceT} (hd : 0 ≤ p.drop) (h0 : ¬ (p.put = [] ∧ p.drop = 0)) (hk : 0 < m.keep + p.keep ∨ m.l = []) : m.piece p = ⟨m.l ++ [⟨m.keep + p.keep, p.drop, p.put⟩], 0⟩ := by
  rw [piece_some hd h0]
  have e : (m.kept p.keep).last = ⟨m.l ++ [⟨m.keep + p.keep, 0, []⟩], 0⟩ := by
    unfold Mk.last Mk.kept
    have : (decide (0 < m.keep + p.keep) || m.l.isEmpty) = true := by
      rcases hk with h | h
      · simp [h]
      · simp [h]
    simp only [this, cond_true]
  rw [e]
  simp only [modL_snoc, addP, List.nil_append, Int.zero_add]

/-! ### Views -/
theorem dropAt_ge : ∀ (l : List PieceT) (j : Nat), extN l ≤ j → dropAt l j = false
  | [], _, _ => rfl
  | p :: l, j, h => by
    rw [extN] at h
    rw [dropAt, decide_eq_false (by omega : ¬ j < p.keep.toNat), decide_eq_false (by omega : ¬ j < p.keep.toNat + p.drop.toNat)]
    exact dropAt_ge l _ (by omega)
theorem rn_nn {l : List PieceT} (h : RN l) : ∀ p ∈ l, p.Nn := by
  cases l with
  | nil => intro p hp; cases hp
  | cons q l =>
    intro p hp
    rcases List.mem_cons.1 hp with rfl | hp
    · exact ⟨h.1, h.2.1⟩
    · have := h.2.2 p hp; exact ⟨by omega, this.2⟩
/-! ### Places -/
theorem place_nn (first : Bool) (a b : Pl) : (∀ p ∈ placeP first a b, p.Nn) ∧ (placeP first a b).length ≤ 3 ∧ sumW (placeP first a b) ≤ a.1.length + b.1.length + 4 := by
  unfold placeP
  cases first <;> cases b.2 <;> cases a.2 <;> refine ⟨?_, by simp, by simp [sumW, PieceT.w]; omega⟩ <;> intro p hp <;> simp at hp <;> rcases hp with rfl | rfl | rfl <;> exact ⟨by simp, by simp⟩
def sumL : List Pl → Nat
  | [] => 0
  | a :: l => a.1.length + sumL l
theorem places_nn (first : Bool) : ∀ (va vb : List Pl), (∀ p ∈ placesP first va vb, p.Nn) ∧ (placesP first va vb).length ≤ 3 * va.length ∧ sumW (placesP first va vb) ≤ sumL va + sumL vb + 4 * va.length
  | [], vb => by
    refine ⟨(fun p hp => (by cases hp)), Nat.zero_le _, ?_⟩
    show (0 : Int) ≤ _
    omega
  | _ :: _, [] => by
    refine ⟨(fun p hp => (by cases hp)), Nat.zero_le _, ?_⟩
    show (0 : Int) ≤ _
    omega
  | a :: va, b :: vb => by
    obtain ⟨h1, h2, h3⟩ := places_nn first va vb
    obtain ⟨g1, g2, g3⟩ := place_nn first a b
    refine ⟨fun p hp => ?_, ?_, ?_⟩
    · rw [placesP] at hp
      rcases List.mem_append.1 hp with hp | hp
      · exact g1 p hp
      · exact h1 p hp
    · rw [placesP, List.length_append, List.length_cons]; omega
    · rw [placesP, sumW_append, sumL, sumL, List.length_cons]; omega
theorem viewP_len (l : List PieceT) (n : Nat) : (viewP l n).length = n + 1 := by simp [viewP]
end Bow
/- W70: the document's answer of chapter 5: norm, Extent, view, behind, Transform. -/
namespace Bow
open Go Go.Proofs

/-! ### norm -/
/-! ### Extent -/
/-! ### view -/
/-! ### behind -/
/-! ### Transform -/
end Bow
/- W71: the document's answer of chapter 12: what becomes of an operation behind another one. -/
namespace Bow
open Go Go.Proofs

end Bow
/- W72: the document's Behind and Both (chapter 12); the law SquareBehind, walked. -/
namespace Bow
open Go Go.Proofs

end Bow
/- AE47: a function whose named memory nobody looks at any more. -/
namespace Bow
open Go

end Bow
/- W79: the law SquareBoth, walked. -/
namespace Bow
open Go Go.Proofs

theorem OpsOk.add {B N : Base} {zs : List (Ns × OpT)} (h : OpsOk N zs) (hN : ∀ q o, N q = some o → B q = none) : OpsOk (B.add N) zs := h.ext fun q o e => add_new e (hN q o e)
theorem NsShp.names {B : Base} {ns : Ns} {o : OpT} (h : NsShp B ns o) : ∀ q ∈ [ns.p, ns.t, ns.s], ∃ ob, B q = some ob := by
  obtain ⟨⟨xs, h1, _⟩, ⟨ys, h2, _⟩, ⟨zs, h3, _⟩⟩ := h
  intro q hq
  simp only [List.mem_cons, List.not_mem_nil, or_false] at hq
  rcases hq with rfl | rfl | rfl
  · exact ⟨_, h1⟩
  · exact ⟨_, h2⟩
  · exact ⟨_, h3⟩
/-- Names that nobody held ahead. -/
def NewNs (B : Base) (ns : Ns) : Prop := ∀ q ∈ [ns.p, ns.t, ns.s], B q = none
theorem NsOk.fresh {B N : Base} {ns : Ns} {o : OpT} (h : NsOk N ns o) (hN : ∀ q ob, N q = some ob → B q = none) : NewNs B ns := by
  intro q hq
  simp only [List.mem_cons, List.not_mem_nil, or_false] at hq
  rcases hq with rfl | rfl | rfl
  · exact hN _ _ h.path
  · exact hN _ _ h.to
  · exact hN _ _ h.pieces
end Bow
/- SP32: the errors of lists brought by each other; a list brought by rows, in plain Lean. -/
namespace Bow
open Go

end Bow
/- W73: the document's answer of chapter 13: bare, joined, much, both, Both, Through; lists.Through. -/
namespace Bow
open Go Go.Proofs

end Bow
/- SP33: lists, both sides named the other way round; bare ones; in plain Lean. -/
namespace Bow
open Go

section
variable {prior : Bool}
theorem Br.cons2 {a b b' : OpT} {ys x1 y1 Z w : List OpT} (h1 : Br prior [a] [b] x1 y1) (h2 : Br prior x1 (b' :: ys) Z w) (m1 : muchP [a] (b :: b' :: ys) = false) (m2 : muchP Z (y1 ++ w) = false) : Br prior [a] (b :: b' :: ys) Z (y1 ++ w) := by
  obtain ⟨n1, h1⟩ := h1
  obtain ⟨n2, h2⟩ := h2
  refine ⟨max n1 n2 + 1, ?_⟩
  rw [bringF_succ]
  unfold bringS
  rw [m1, cond_false]
  simp only
  rw [bringF_le h1 (Nat.le_max_left _ _)]
  simp only [decide_true, Bool.not_true, cond_false]
  rw [bringF_le h2 (Nat.le_max_right _ _)]
  simp only [decide_true, Bool.not_true, cond_false]
  rw [m2]
  rfl
theorem Br.sum {xs ys x y : List OpT} (h : Br prior xs ys x y) : x.length + y.length ≤ xs.length + ys.length := by
  obtain ⟨n, h⟩ := h
  exact (bringF_inv prior n _ _ _ _ h).s
theorem muchP_of {x y : List OpT} (h : x.length + y.length ≤ 4096) : muchP x y = false := muchP_iff.2 ⟨by omega, by omega⟩
/-- By one list, and then by another one: so by both in one. -/
theorem Br.join : ∀ (n : Nat) {cs us vs x p y q : List OpT}, cs.length + us.length + vs.length ≤ 4096 → bringF prior n cs us = some (x, p, 0) → Br prior x vs y q → Br prior cs (us ++ vs) y (p ++ q)
  | 0, _, _, _, _, _, _, _, _, h, _ => by cases h
  | n + 1, [], us, vs, x, p, y, q, hl, h1, h2 => by
    obtain ⟨rfl, rfl⟩ := Br.nil_inv ⟨_, h1⟩
    obtain ⟨rfl, rfl⟩ := h2.nil_inv
    exact Br.nil (muchP_of (by simp at hl ⊢; omega))
  | n + 1, c :: cs, [], vs, x, p, y, q, hl, h1, h2 => by
    obtain ⟨rfl, rfl⟩ := Br.nil2_inv ⟨_, h1⟩
    exact h2
  | n + 1, c :: c' :: cs, u :: us, vs, x, p, y, q, hl, h1, h2 => by
    obtain ⟨x1, y1, x2, k1, k2, rfl, _⟩ := bringF_cons h1
    obtain ⟨s, b1, t, q1, q2, rfl⟩ := h2.split
    have l1 := Br.sum ⟨n, k1⟩
    have l2 := q1.sum
    have l3 := Br.sum ⟨n, k2⟩
    have l4 := q2.sum
    simp only [List.length_cons, List.length_nil] at hl l1 l2 l3 l4
    have j1 := Br.join n (cs := [c]) (us := u :: us) (vs := vs) (by simp only [List.length_cons, List.length_nil]; omega) k1 q1
    have j2 := Br.join n (cs := c' :: cs) (us := y1) (vs := b1) (by simp only [List.length_cons]; omega) k2 q2
    exact Br.cons j1 j2 (muchP_of (x := c :: c' :: cs) (y := u :: (us ++ vs)) (by simp only [List.length_cons, List.length_append]; omega)) (muchP_of (by simp only [List.length_append]; omega))
  | n + 1, [c], [u], [], x, p, y, q, hl, h1, h2 => by
    obtain ⟨rfl, rfl⟩ := h2.nil2_inv
    rw [List.append_nil, List.append_nil]
    exact ⟨_, h1⟩
  | n + 1, [c], [u], v :: vs, x, p, y, q, hl, h1, h2 => by
    have l1 := Br.sum ⟨_, h1⟩
    have l2 := h2.sum
    simp only [List.length_cons, List.length_nil] at hl l1 l2
    exact Br.cons2 ⟨_, h1⟩ h2 (muchP_of (by simp only [List.length_cons, List.length_nil]; omega)) (muchP_of (by simp only [List.length_append]; omega))
  | n + 1, [c], u :: u' :: us, vs, x, p, y, q, hl, h1, h2 => by
    obtain ⟨x1, y1, w, g1, g2, rfl, _⟩ := bringF_cons2 h1
    have l1 := Br.sum ⟨_, g1⟩
    have l2 := Br.sum ⟨_, g2⟩
    have l3 := h2.sum
    simp only [List.length_cons, List.length_nil] at hl l1 l2 l3
    have j := Br.join n (cs := x1) (us := u' :: us) (vs := vs) (by simp only [List.length_cons]; omega) g2 h2
    have := Br.cons2 ⟨_, g1⟩ j (muchP_of (x := [c]) (y := u :: u' :: (us ++ vs)) (by simp only [List.length_cons, List.length_nil, List.length_append]; omega)) (muchP_of (by simp only [List.length_append]; omega))
    rw [List.append_assoc]
    exact this
theorem both_turn0 (a b : OpT) (prior : Bool) : bothX b a (!prior) = ((bothX a b prior).2.1, (bothX a b prior).1, (bothX b a (!prior)).2.2) ∧ (decide ((bothX a b prior).2.2 = 0) = decide ((bothX b a (!prior)).2.2 = 0)) := by
  unfold bothX
  rw [Bool.not_not]
  by_cases h1 : (behindX a b prior).2 = 0 <;> by_cases h2 : (behindX b a (!prior)).2 = 0 <;> simp [h1, h2]
theorem Br.one_turn {a b : OpT} {x y : List OpT} (h : Br prior [a] [b] x y) : Br (!prior) [b] [a] y x := by
  obtain ⟨n, h⟩ := h
  cases n with
  | zero => cases h
  | succ n =>
    have e : bringF prior (n + 1) [a] [b] = some (bothX a b prior) := rfl
    rw [e] at h
    injection h with h
    refine ⟨1, ?_⟩
    have e' : bringF (!prior) 1 [b] [a] = some (bothX b a (!prior)) := rfl
    rw [e']
    obtain ⟨t1, t2⟩ := both_turn0 a b prior
    rw [t1]
    rw [h] at t2 ⊢
    simp only [decide_true] at t2
    have := of_decide_eq_true t2.symm
    rw [this]
/-- Both sides, the other way round. -/
theorem Br.turn : ∀ (n : Nat) {xs ys x y : List OpT}, xs.length + ys.length ≤ 4096 → bringF prior n xs ys = some (x, y, 0) → Br (!prior) ys xs y x
  | 0, _, _, _, _, _, h => by cases h
  | n + 1, [], ys, x, y, hl, h => by
    obtain ⟨rfl, rfl⟩ := Br.nil_inv ⟨_, h⟩
    exact Br.nil2 (muchP_of (by simp at hl ⊢; omega))
  | n + 1, a :: xs, [], x, y, hl, h => by
    obtain ⟨rfl, rfl⟩ := Br.nil2_inv ⟨_, h⟩
    exact Br.nil (muchP_of (by simp at hl ⊢; omega))
  | n + 1, [a], [b], x, y, hl, h => Br.one_turn ⟨_, h⟩
  | n + 1, a :: a' :: xs, b :: ys, x, y, hl, h => by
    obtain ⟨x1, y1, z, h1, h2, rfl, _⟩ := bringF_cons h
    have l1 := Br.sum ⟨_, h1⟩
    have l2 := Br.sum ⟨_, h2⟩
    simp only [List.length_cons, List.length_nil] at hl l1 l2
    have t1 := Br.turn n (by simp only [List.length_cons, List.length_nil]; omega) h1
    have t2 := Br.turn n (by simp only [List.length_cons]; omega) h2
    obtain ⟨m, t1⟩ := t1
    exact Br.join m (cs := b :: ys) (us := [a]) (vs := a' :: xs) (by simp only [List.length_cons, List.length_nil]; omega) t1 t2
  | n + 1, [a], b :: b' :: ys, x, y, hl, h => by
    obtain ⟨x1, y1, w, h1, h2, rfl, _⟩ := bringF_cons2 h
    have l1 := Br.sum ⟨_, h1⟩
    have l2 := Br.sum ⟨_, h2⟩
    simp only [List.length_cons, List.length_nil] at hl l1 l2
    have t2 := Br.turn n (by simp only [List.length_cons]; omega) h2
    exact Br.cons (Br.one_turn ⟨_, h1⟩) t2 (muchP_of (by simp only [List.length_cons, List.length_nil]; omega)) (muchP_of (by simp only [List.length_append]; omega))
end

end Bow
/- W80: the law ListsBoth, walked. -/
namespace Bow
open Go Go.Proofs

end Bow
/- SP58: a text, turned place by place by two. -/
namespace Bow
open Go

/-- What is put at each place, and which bytes are dropped, done to a text. -/
def appV : List Pl → List UInt8 → List UInt8
  | [], t => t
  | p :: vs, [] => p.1 ++ appV vs []
  | p :: vs, c :: t => p.1 ++ ((bif p.2 then [] else [c]) ++ appV vs t)
/-- Of both. -/
def mergeV (first : Bool) : List Pl → List Pl → List Pl
  | a :: va, b :: vb => ((bif first then a.1 ++ b.1 else b.1 ++ a.1), a.2 || b.2) :: mergeV first va vb
  | _, _ => []
theorem merge_turn (first : Bool) : ∀ va vb : List Pl, mergeV first va vb = mergeV (!first) vb va
  | [], [] => rfl
  | [], _ :: _ => rfl
  | _ :: _, [] => rfl
  | a :: va, b :: vb => by
    rw [mergeV, mergeV, merge_turn first va vb, Bool.or_comm]
    cases first <;> rfl
theorem edit_keep (s w : List UInt8) (l : List PieceT) : editP (s ++ w) (⟨s.length, 0, []⟩ :: l) = s ++ editP w l := by
  rw [editP]
  simp
theorem edit_put (p w : List UInt8) (l : List PieceT) : editP w (⟨0, 0, p⟩ :: l) = p ++ editP w l := by
  rw [editP]
  simp
theorem edit_byte (d : Bool) (c : UInt8) (w : List UInt8) (l : List PieceT) : editP (c :: w) ((bif d then [⟨0, 1, []⟩] else [⟨1, 0, []⟩]) ++ l) = (bif d then [] else [c]) ++ editP w l := by
  cases d <;> simp [editP]
theorem edit_end (d : Bool) (l : List PieceT) : editP [] ((bif d then [⟨0, 1, []⟩] else [⟨1, 0, []⟩]) ++ l) = editP [] l := by
  cases d <;> simp [editP]
/-- One behind the other one: both. -/
theorem places_edit (first : Bool) : ∀ (va vb : List Pl) (t : List UInt8), va.length = vb.length → vb.length ≤ t.length + 1 → editP (appV vb t) (placesP first va vb) = appV (mergeV first va vb) t
  | [], [], t, _, _ => by cases t <;> simp [placesP, mergeV, appV, editP]
  | [], _ :: _, _, h, _ => by simp at h
  | _ :: _, [], _, h, _ => by simp at h
  | a :: va, b :: vb, t, h, hl => by
    rw [placesP, mergeV]
    have put : ∀ (w : List UInt8) (l : List PieceT), editP (b.1 ++ w) ((bif first then [⟨0, 0, a.1⟩, ⟨b.1.length, 0, []⟩] else [⟨b.1.length, 0, []⟩, ⟨0, 0, a.1⟩]) ++ l) = (bif first then a.1 ++ b.1 else b.1 ++ a.1) ++ editP w l := by
      intro w l
      cases first
      · simp only [cond_false, List.cons_append, List.nil_append, List.append_assoc]
        rw [edit_keep, edit_put]
      · simp only [cond_true, List.cons_append, List.nil_append, List.append_assoc]
        rw [edit_put, edit_keep]
    unfold placeP
    cases t with
    | nil =>
      have hvb : vb = [] := by simpa using hl
      have hva : va = [] := List.length_eq_zero_iff.1 (by rw [hvb] at h; simpa using h)
      subst hvb
      subst hva
      rw [appV, appV, List.append_assoc, put]
      simp only [appV, mergeV, placesP]
      cases b.2 with
      | true => simp [editP]
      | false => simp only [cond_false]; rw [edit_end, editP]
    | cons c t =>
      have ih := places_edit first va vb t (by simpa using h) (by simp at hl ⊢; omega)
      rw [appV, appV, List.append_assoc, put]
      congr 1
      cases b.2 with
      | true => simp only [cond_true, List.nil_append, Bool.or_true]; exact ih
      | false => simp only [cond_false, Bool.or_false, List.cons_append, List.nil_append]; rw [edit_byte, ih]
end Bow
/- SP59: an edit, done place by place. -/
namespace Bow
open Go

/-- All places of a text. -/
def appF (f : Nat → Pl) : List UInt8 → List UInt8
  | [] => (f 0).1
  | c :: t => (f 0).1 ++ ((bif (f 0).2 then [] else [c]) ++ appF (fun i => f (i + 1)) t)
theorem appF_id : ∀ (t : List UInt8) (f : Nat → Pl), (∀ i, f i = ([], false)) → appF f t = t
  | [], f, h => by rw [appF, h]
  | c :: t, f, h => by
    rw [appF, h, appF_id t _ fun i => h (i + 1)]
    rfl
theorem appF_V : ∀ (n : Nat) (t : List UInt8) (f : Nat → Pl), n ≤ t.length → (∀ i, n < i → f i = ([], false)) → appV ((List.range' 0 (n + 1)).map f) t = appF f t
  | 0, [], f, _, _ => by simp [appV, appF]
  | 0, c :: t, f, _, h => by
    have e := appF_id t (fun i => f (i + 1)) fun i => h (i + 1) (by omega)
    rw [appF, e]
    simp [appV]
  | n + 1, [], f, hl, _ => by simp at hl
  | n + 1, c :: t, f, hl, h => by
    have ih := appF_V n t (fun i => f (i + 1)) (by simpa using hl) fun i hi => h (i + 1) (by omega)
    have e : (List.range' 0 (n + 1 + 1)).map f = f 0 :: (List.range' 0 (n + 1)).map fun i => f (i + 1) := by
      rw [List.range'_succ, List.map_cons]
      congr 1
      have : List.range' (0 + 1) (n + 1) = (List.range' 0 (n + 1)).map (· + 1) := by
        rw [show (fun x : Nat => x + 1) = (fun x => 1 + x) from funext fun x => Nat.add_comm x 1, List.map_add_range']
      rw [this, List.map_map]
      rfl
    rw [e, appV, appF, ih]
end Bow
/- SP60: an edit that is normal, done place by place. -/
namespace Bow
open Go

theorem extentP_nn : ∀ {l : List PieceT}, Later l → 0 ≤ extentP l
  | [], _ => Int.le_refl _
  | p :: l, h => by
    have := extentP_nn (l := l) fun q hq => h q (by simp [hq])
    have := h p (by simp)
    rw [extentP_cons]
    omega
def placesF (l : List PieceT) (i : Nat) : Pl := (putAt l i, dropAt l i)
theorem edit_drop {l : List PieceT} (hl : Later l) (ih : ∀ t : List UInt8, extentP l ≤ t.length → editP t l = appF (placesF l) t) : ∀ (d : Nat) (s : List UInt8) (t : List UInt8), (d : Int) + extentP l ≤ t.length → 0 ≤ extentP l → editP t (⟨0, d, s⟩ :: l) = appF (placesF (⟨0, d, s⟩ :: l)) t
  | 0, s, t, h, _ => by
    have e := ih t (by simpa using h)
    have h0 := later_put0 hl
    have hs : ∀ i, placesF (⟨0, ((0 : Nat) : Int), s⟩ :: l) (i + 1) = placesF l (i + 1) := fun i => by
      unfold placesF
      rw [putAt, dropAt]
      simp
    have hz : placesF (⟨0, ((0 : Nat) : Int), s⟩ :: l) 0 = (s, dropAt l 0) := by
      unfold placesF
      rw [putAt, dropAt]
      simp
    rw [editP]
    simp only [Int.toNat_zero, List.take_zero, List.nil_append, Int.natCast_zero, Int.add_zero, List.drop_zero]
    rw [e]
    cases t with
    | nil =>
      rw [appF, appF]
      have : (placesF (⟨0, 0, s⟩ :: l) 0) = _ := hz
      rw [this]
      show s ++ putAt l 0 = s
      rw [h0, List.append_nil]
    | cons c t =>
      rw [appF, appF]
      have e1 : (placesF (⟨0, 0, s⟩ :: l) 0) = _ := hz
      have e2 : (fun i => placesF (⟨0, 0, s⟩ :: l) (i + 1)) = fun i => placesF l (i + 1) := funext hs
      rw [e1, e2]
      show s ++ (putAt l 0 ++ _) = _
      rw [h0, List.nil_append]
      rfl
  | d + 1, s, [], h, h2 => by
    simp at h
    omega
  | d + 1, s, c :: t, h, h2 => by
    have e := edit_drop hl ih d [] t (by simp at h ⊢; omega) h2
    have hz : placesF (⟨0, ((d + 1 : Nat) : Int), s⟩ :: l) 0 = (s, true) := by
      unfold placesF
      rw [putAt, dropAt]
      simp
    have hs : (fun i => placesF (⟨0, ((d + 1 : Nat) : Int), s⟩ :: l) (i + 1)) = placesF (⟨0, (d : Int), []⟩ :: l) := funext fun i => by
      unfold placesF
      rw [putAt, dropAt, putAt, dropAt]
      by_cases c1 : i < d
      · simp [c1]
      · have : i + 1 - (d + 1) = i - d := by omega
        simp [c1]
        by_cases c2 : i = 0 <;> simp_all [later_put0 hl]
    rw [appF, hz, hs, ← e, editP, editP]
    simp
theorem edit_keep2 {l : List PieceT} (hl : Later l) (ih : ∀ t : List UInt8, extentP l ≤ t.length → editP t l = appF (placesF l) t) (d : Nat) (s : List UInt8) (h2 : 0 ≤ extentP l) : ∀ (k : Nat) (t : List UInt8), (k : Int) + d + extentP l ≤ t.length → editP t (⟨k, d, s⟩ :: l) = appF (placesF (⟨k, d, s⟩ :: l)) t
  | 0, t, h => edit_drop hl ih d s t (by omega) h2
  | k + 1, [], h => by
    simp at h
    omega
  | k + 1, c :: t, h => by
    have e := edit_keep2 hl ih d s h2 k t (by simp at h ⊢; omega)
    have hz : placesF (⟨((k + 1 : Nat) : Int), (d : Int), s⟩ :: l) 0 = ([], false) := by
      unfold placesF
      rw [putAt, dropAt]
      simp
    have hs : (fun i => placesF (⟨((k + 1 : Nat) : Int), (d : Int), s⟩ :: l) (i + 1)) = placesF (⟨(k : Int), (d : Int), s⟩ :: l) := funext fun i => by
      have h1 := putAt_keep (p := ⟨((k + 1 : Nat) : Int), (d : Int), s⟩) (l := l) (show (0 : Int) < ((k + 1 : Nat) : Int) by omega) i
      have h3 := dropAt_keep (p := ⟨((k + 1 : Nat) : Int), (d : Int), s⟩) (l := l) (show (0 : Int) < ((k + 1 : Nat) : Int) by omega) i
      have e1 : ((k + 1 : Nat) : Int) - 1 = (k : Int) := by omega
      simp only [e1] at h1 h3
      unfold placesF
      rw [← h1, ← h3]
    rw [appF, hz, hs, ← e, editP, editP]
    have e2 : (((k + 1 : Nat) : Int) + (d : Int)).toNat = ((k : Int) + (d : Int)).toNat + 1 := by omega
    simp only [e2, List.drop_succ_cons]
    simp
/-- An edit that is normal, by places. -/
theorem edit_F : ∀ (l : List PieceT) (t : List UInt8), Later l → extentP l ≤ t.length → editP t l = appF (placesF l) t
  | [], t, _, _ => by
    rw [editP, appF_id]
    intro i
    rfl
  | p :: l, t, hl, h => by
    have hp := hl p (by simp)
    have hl' : Later l := fun q hq => hl q (by simp [hq])
    have hx : 0 ≤ extentP l := extentP_nn hl'
    obtain ⟨k, d, s⟩ := p
    simp only at hp
    have e := edit_keep2 hl' (fun t h => edit_F l t hl' h) d.toNat s hx k.toNat t (by rw [extentP_cons] at h; simp only at h; omega)
    rw [show ((k.toNat : Nat) : Int) = k by omega, show ((d.toNat : Nat) : Int) = d by omega] at e
    exact e
end Bow
/- SP61: an edit made normal does what it did; two edits of one text behind each other end in one text. -/
namespace Bow
open Go

theorem edit_cong {r r' : List PieceT} (h : ∀ t, editP t r = editP t r') : ∀ (l : List PieceT) (t : List UInt8), editP t (l ++ r) = editP t (l ++ r')
  | [], t => h t
  | p :: l, t => by rw [List.cons_append, List.cons_append, editP, editP, edit_cong h l]
theorem edit_trail (k : Int) (l : List PieceT) (t : List UInt8) : editP t (l ++ [⟨k, 0, []⟩]) = editP t l := by
  have := edit_cong (r := [⟨k, 0, []⟩]) (r' := []) (fun t => by simp [editP]) l t
  rwa [List.append_nil] at this
theorem edit_keeps {a b d : Int} (s : List UInt8) (w : List PieceT) (ha : 0 ≤ a) (hb : 0 ≤ b) (hd : 0 ≤ d) (t : List UInt8) : editP t (⟨a, 0, []⟩ :: ⟨b, d, s⟩ :: w) = editP t (⟨a + b, d, s⟩ :: w) := by
  rw [editP, editP, editP]
  simp only [List.append_nil, Int.add_zero]
  have e1 : (a + b).toNat = a.toNat + b.toNat := by omega
  have e2 : (a + b + d).toNat = a.toNat + (b + d).toNat := by omega
  rw [e1, e2, List.take_add, List.drop_drop]
  simp only [List.append_assoc]
theorem edit_zero (w : List PieceT) (t : List UInt8) : editP t (⟨0, 0, []⟩ :: w) = editP t w := by
  rw [editP]
  simp
theorem edit_join {k d e : Int} (s p : List UInt8) (w : List PieceT) (hk : 0 ≤ k) (hd : 0 ≤ d) (he : 0 ≤ e) (t : List UInt8) : editP t (⟨k, d, s⟩ :: ⟨0, e, p⟩ :: w) = editP t (⟨k, d + e, s ++ p⟩ :: w) := by
  rw [editP, editP, editP]
  have e2 : (k + (d + e)).toNat = (k + d).toNat + (0 + e).toNat := by omega
  simp only [e2, List.drop_drop, Int.toNat_zero, List.take_zero, List.nil_append, List.append_assoc]
theorem piece_edit {m : Mk} {p : PieceT} (hm : m.Ok) (hp : p.Nn) (w : List PieceT) (t : List UInt8) : editP t ((m.piece p).l ++ ⟨(m.piece p).keep, 0, []⟩ :: w) = editP t (m.l ++ ⟨m.keep, 0, []⟩ :: p :: w) := by
  have mk := hm.k
  have pk := hp.k
  have pd := hp.d
  by_cases h0 : p.put = [] ∧ p.drop = 0
  · rw [piece_skip h0.1 h0.2]
    refine edit_cong (fun t => ?_) m.l t
    obtain ⟨k, d, s⟩ := p
    simp only at h0
    obtain ⟨rfl, rfl⟩ := h0
    exact (edit_keeps [] w mk pk (Int.le_refl 0) t).symm
  · by_cases hk : 0 < m.keep + p.keep ∨ m.l = []
    · rw [piece_new pd h0 hk]
      simp only [List.append_assoc, List.cons_append, List.nil_append]
      refine edit_cong (fun t => ?_) m.l t
      rw [edit_keeps _ _ mk pk pd, editP, edit_zero, ← editP]
    · have hk0 : m.keep + p.keep = 0 := by
        have : ¬ 0 < m.keep + p.keep := fun c => hk (.inl c)
        omega
      have hl0 : m.l ≠ [] := fun c => hk (.inr c)
      have k1 : m.keep = 0 := by omega
      have k2 : p.keep = 0 := by omega
      rw [piece_merge pd h0 hk0 hl0]
      obtain ⟨l', q, hl⟩ : ∃ l' q, m.l = l' ++ [q] := ⟨m.l.dropLast, m.l.getLast hl0, (List.dropLast_concat_getLast hl0).symm⟩
      have hq := hm.l q (by simp [hl])
      rw [hl, modL_snoc]
      simp only [List.append_assoc, List.cons_append, List.nil_append]
      refine edit_cong (fun t => ?_) l' t
      obtain ⟨k, d, s⟩ := p
      obtain ⟨qk, qd, qs⟩ := q
      simp only at k2 pd
      subst k2
      have e := edit_join qs s w hq.k hq.d pd t
      rw [k1]
      show editP t (⟨qk, qd + d, qs ++ s⟩ :: ⟨0, 0, []⟩ :: w) = _
      have e1 : editP t (⟨qk, qd + d, qs ++ s⟩ :: ⟨0, 0, []⟩ :: w) = editP t (⟨qk, qd + d, qs ++ s⟩ :: w) := edit_cong (r := ⟨0, 0, []⟩ :: w) (r' := w) (edit_zero w) [⟨qk, qd + d, qs ++ s⟩] t
      have e2 : editP t (⟨qk, qd, qs⟩ :: ⟨0, 0, []⟩ :: ⟨0, d, s⟩ :: w) = editP t (⟨qk, qd, qs⟩ :: ⟨0, d, s⟩ :: w) := edit_cong (r := ⟨0, 0, []⟩ :: ⟨0, d, s⟩ :: w) (r' := ⟨0, d, s⟩ :: w) (edit_zero _) [⟨qk, qd, qs⟩] t
      rw [e1, e2, e]
theorem fold_edit : ∀ (l : List PieceT) (m : Mk) (t : List UInt8), m.Ok → (∀ p ∈ l, p.Nn) → editP t (l.foldl Mk.piece m).l = editP t (m.l ++ ⟨m.keep, 0, []⟩ :: l)
  | [], m, t, _, _ => (edit_trail m.keep m.l t).symm
  | p :: l, m, t, hm, hl => by
    rw [List.foldl_cons, fold_edit l (m.piece p) t (Mk.piece_ok hm (hl p (by simp))).1 (fun q hq => hl q (by simp [hq])), piece_edit hm (hl p (by simp))]
/-- Made normal, it does what it did. -/
theorem norm_edit {l : List PieceT} (h : ∀ p ∈ l, p.Nn) (t : List UInt8) : editP t (normP l) = editP t l := by
  unfold normP
  rw [fold_edit l Mk.nil t Mk.nil_ok h]
  exact edit_zero l t

/-! ### How far it goes -/
theorem extent_app (l r : List PieceT) : extentP (l ++ r) = extentP l + extentP r := by
  induction l with
  | nil => rw [List.nil_append]; show _ = 0 + _; omega
  | cons p l ih => rw [List.cons_append, extentP_cons, extentP_cons, ih]; omega
theorem piece_ext {m : Mk} {p : PieceT} (hm : m.Ok) (hp : p.Nn) : extentP (m.piece p).l + (m.piece p).keep = extentP m.l + m.keep + p.keep + p.drop := by
  have mk := hm.k
  have pk := hp.k
  have pd := hp.d
  have nil : extentP [] = 0 := rfl
  by_cases h0 : p.put = [] ∧ p.drop = 0
  · rw [piece_skip h0.1 h0.2]
    simp only
    omega
  · by_cases hk : 0 < m.keep + p.keep ∨ m.l = []
    · rw [piece_new pd h0 hk]
      simp only
      rw [extent_app, extentP_cons, nil]
      simp only
      omega
    · have hk0 : m.keep + p.keep = 0 := by
        have : ¬ 0 < m.keep + p.keep := fun c => hk (.inl c)
        omega
      have hl0 : m.l ≠ [] := fun c => hk (.inr c)
      rw [piece_merge pd h0 hk0 hl0]
      obtain ⟨l', q, hl⟩ : ∃ l' q, m.l = l' ++ [q] := ⟨m.l.dropLast, m.l.getLast hl0, (List.dropLast_concat_getLast hl0).symm⟩
      rw [hl, modL_snoc]
      simp only
      rw [extent_app, extent_app, extentP_cons, extentP_cons, nil]
      unfold addP
      simp only
      omega
theorem fold_ext : ∀ (l : List PieceT) (m : Mk), m.Ok → (∀ p ∈ l, p.Nn) → (l.foldl Mk.piece m).Ok ∧ extentP (l.foldl Mk.piece m).l + (l.foldl Mk.piece m).keep = extentP m.l + m.keep + extentP l
  | [], m, hm, _ => ⟨hm, by show _ = _ + (0 : Int); rw [List.foldl_nil]; omega⟩
  | p :: l, m, hm, hl => by
    have hp := hl p (by simp)
    have ih := fold_ext l (m.piece p) (Mk.piece_ok hm hp).1 fun q hq => hl q (by simp [hq])
    have e := piece_ext hm hp
    rw [List.foldl_cons, extentP_cons]
    exact ⟨ih.1, by rw [ih.2]; omega⟩
theorem norm_ext {l : List PieceT} (h : ∀ p ∈ l, p.Nn) : extentP (normP l) ≤ extentP l := by
  have e := fold_ext l Mk.nil Mk.nil_ok h
  have k := e.1.k
  have e := e.2
  have n1 : extentP Mk.nil.l = 0 := rfl
  have n2 : Mk.nil.keep = 0 := rfl
  unfold normP
  omega
theorem norm_trail (l : List PieceT) (k : Int) : normP (l ++ [⟨k, 0, []⟩]) = normP l := by
  unfold normP
  rw [List.foldl_append]
  rfl
theorem extN_ext : ∀ {l : List PieceT}, (∀ p ∈ l, p.Nn) → (extN l : Int) = extentP l
  | [], _ => rfl
  | p :: l, h => by
    have hp := h p (by simp)
    have := hp.k
    have := hp.d
    have ih := extN_ext (l := l) fun q hq => h q (by simp [hq])
    rw [extN, extentP_cons]
    omega
theorem putAt_ge : ∀ (l : List PieceT) (j : Nat), extN l < j → putAt l j = []
  | [], _, _ => rfl
  | p :: l, j, h => by
    rw [extN] at h
    rw [putAt, decide_eq_false (by omega : ¬ j < p.keep.toNat), decide_eq_false (by omega : ¬ j = p.keep.toNat), decide_eq_false (by omega : ¬ j < p.keep.toNat + p.drop.toNat)]
    exact putAt_ge l _ (by omega)
def szV : List Pl → Nat
  | [] => 0
  | b :: vb => b.1.length + (bif b.2 then 0 else 1) + szV vb
theorem place_ext (first : Bool) (a b : Pl) : extentP (placeP first a b) = b.1.length + (bif b.2 then 0 else 1) := by
  unfold placeP
  cases first <;> cases b.2 <;> cases a.2 <;> simp [extentP]
theorem places_ext (first : Bool) : ∀ (va vb : List Pl), va.length = vb.length → extentP (placesP first va vb) = szV vb
  | [], [], _ => rfl
  | [], _ :: _, h => by simp at h
  | _ :: _, [], h => by simp at h
  | a :: va, b :: vb, h => by
    rw [placesP, extent_app, place_ext, places_ext first va vb (by simpa using h), szV]
    cases b.2 <;> simp
theorem appV_len (b : Pl) : ∀ (vb : List Pl) (t : List UInt8), vb.length ≤ t.length → szV vb + b.1.length ≤ (appV (vb ++ [b]) t).length
  | [], [], _ => by simp [szV, appV]
  | [], c :: t, _ => by simp [szV, appV]
  | a :: vb, [], h => by simp at h
  | a :: vb, c :: t, h => by
    have ih := appV_len b vb t (by simpa using h)
    rw [List.cons_append, appV, szV, List.length_append, List.length_append]
    cases a.2 <;> simp <;> omega
theorem placesP_app (first : Bool) (a b : Pl) : ∀ (va vb : List Pl), va.length = vb.length → placesP first (va ++ [a]) (vb ++ [b]) = placesP first va vb ++ placeP first a b
  | [], [], _ => by simp [placesP]
  | [], _ :: _, h => by simp at h
  | _ :: _, [], h => by simp at h
  | c :: va, d :: vb, h => by
    rw [List.cons_append, List.cons_append, placesP, placesP, placesP_app first a b va vb (by simpa using h), List.append_assoc]
theorem places_fit (first : Bool) {va vb : List Pl} {a b : Pl} {t : List UInt8} (h : va.length = vb.length) (hl : vb.length ≤ t.length) (ha : a.2 = false) (hb : b.2 = false) : extentP (normP (placesP first (va ++ [a]) (vb ++ [b]))) ≤ ((appV (vb ++ [b]) t).length : Int) := by
  have hx : ∃ X, placeP first a b = X ++ [⟨1, 0, []⟩] ∧ extentP X = b.1.length ∧ ∀ p ∈ X, p.Nn := by
    unfold placeP
    rw [ha, hb]
    cases first
    · refine ⟨[⟨b.1.length, 0, []⟩, ⟨0, 0, a.1⟩], rfl, by simp [extentP], fun p hp => ?_⟩
      simp at hp
      rcases hp with rfl | rfl <;> exact ⟨by simp, by simp⟩
    · refine ⟨[⟨0, 0, a.1⟩, ⟨b.1.length, 0, []⟩], rfl, by simp [extentP], fun p hp => ?_⟩
      simp at hp
      rcases hp with rfl | rfl <;> exact ⟨by simp, by simp⟩
  obtain ⟨X, hX, hX1, hX2⟩ := hx
  have e := norm_ext (l := placesP first va vb ++ X) fun p hp => by
    rcases List.mem_append.1 hp with hp | hp
    · exact (places_nn first va vb).1 p hp
    · exact hX2 p hp
  have g := appV_len b vb t hl
  rw [placesP_app first a b va vb h, hX, ← List.append_assoc, norm_trail]
  rw [extent_app, places_ext first va vb h, hX1] at e
  omega
theorem view_snoc (l : List PieceT) (n : Nat) : viewP l n = (List.range' 0 n).map (placesF l) ++ [placesF l n] := by
  unfold viewP
  rw [List.range'_1_concat, List.map_append, Nat.zero_add]
  rfl

/-! ### Two edits -/
theorem applyE_ok {t : List UInt8} {l : List PieceT} (h : (applyE t l).2 = 0) : rightP l = true ∧ extentP l ≤ t.length ∧ applyE t l = (editP t l, 0) := by
  unfold applyE at h ⊢
  cases hr : rightP l with
  | false => rw [hr] at h; cases h
  | true =>
    rw [hr] at h
    simp only [Bool.not_true, cond_false] at h ⊢
    by_cases c : (t.length : Int) < extentP l
    · rw [decide_eq_true c] at h; cases h
    · rw [decide_eq_false c]
      simp only [cond_false, true_and, and_true]
      omega
theorem edit_RN {l : List PieceT} {t : List UInt8} (hl : RN l) (h : extentP l ≤ t.length) : editP t l = appF (placesF l) t := by
  cases l with
  | nil => exact edit_F [] t (by intro p hp; cases hp) h
  | cons p l =>
    obtain ⟨h1, h2, h3⟩ := hl
    have hx : 0 ≤ extentP l := extentP_nn h3
    obtain ⟨k, d, s⟩ := p
    simp only at h1 h2
    have e := edit_keep2 h3 (fun t h => edit_F l t h3 h) d.toNat s hx k.toNat t (by rw [extentP_cons] at h; simp only at h; omega)
    rw [show ((k.toNat : Nat) : Int) = k by omega, show ((d.toNat : Nat) : Int) = d by omega] at e
    exact e
theorem edit_view {t : List UInt8} {l : List PieceT} {n : Nat} (h : (applyE t l).2 = 0) (h1 : extN (normP l) ≤ n) (h2 : n ≤ t.length) : (applyE t l).1 = appV (viewP (normP l) n) t := by
  obtain ⟨hr, hx, he⟩ := applyE_ok h
  have nn := (right_nn hr).1
  have nx := norm_ext nn
  rw [he]
  show editP t l = _
  rw [← norm_edit nn t, edit_RN (norm_rn hr) (by omega)]
  exact (appF_V n t (placesF (normP l)) h2 fun i hi => by
    unfold placesF
    rw [putAt_ge _ _ (by omega), dropAt_ge _ _ (by omega)]).symm
theorem trans_half {t : List UInt8} {A B : List PieceT} {prior : Bool} (hA : (applyE t A).2 = 0) (hB : (applyE t B).2 = 0) (h : (transP A B prior).2.2 = 0) {n : Nat} (hn : n = max (extN (normP A)) (extN (normP B))) :
    applyE (applyE t B).1 (transP A B prior).1 = (appV (mergeV prior (viewP (normP A) n) (viewP (normP B) n)) t, 0) := by
  obtain ⟨ra, xa, _⟩ := applyE_ok hA
  obtain ⟨rb, xb, _⟩ := applyE_ok hB
  have ta := norm_ext (right_nn ra).1
  have tb := norm_ext (right_nn rb).1
  have na := extN_ext (rn_nn (norm_rn ra))
  have nb := extN_ext (rn_nn (norm_rn rb))
  have hnt : n ≤ t.length := by omega
  have eb := edit_view hB (by omega : extN (normP B) ≤ n) hnt
  have tr := (trans_right A B prior).1
  have e : (transP A B prior).1 = normP (placesP prior (viewP (normP A) n) (viewP (normP B) n)) := by
    rw [← transR_eq] at h ⊢
    unfold transR at h ⊢
    rw [ra, rb] at h ⊢
    simp only [Bool.not_true, Bool.or_self, cond_false, ← hn] at h ⊢
    revert h
    cases !rightP (normP (placesP prior (viewP (normP A) n) (viewP (normP B) n))) || !rightP (normP (placesP (!prior) (viewP (normP B) n) (viewP (normP A) n))) with
    | true => intro h; cases h
    | false => intro _; rfl
  have da : (placesF (normP A) n).2 = false := dropAt_ge _ _ (by omega)
  have db : (placesF (normP B) n).2 = false := dropAt_ge _ _ (by omega)
  have fit := places_fit prior (va := (List.range' 0 n).map (placesF (normP A))) (vb := (List.range' 0 n).map (placesF (normP B))) (t := t) (by simp) (by simpa using hnt) da db
  rw [← view_snoc, ← view_snoc, ← e, ← eb] at fit
  have pe := places_edit prior (viewP (normP A) n) (viewP (normP B) n) t (by rw [viewP_len, viewP_len]) (by rw [viewP_len]; omega)
  generalize (applyE t B).1 = w at *
  unfold applyE
  rw [tr, decide_eq_false (show ¬ ((w.length : Nat) : Int) < extentP (transP A B prior).1 by omega)]
  simp only [Bool.not_true, cond_false]
  rw [← pe, ← eb, e, norm_edit (places_nn ..).1]
/-- Both ways round it is the same text. -/
theorem trans_meet {t : List UInt8} {A B : List PieceT} {prior : Bool} (hA : (applyE t A).2 = 0) (hB : (applyE t B).2 = 0) (h1 : (transP A B prior).2.2 = 0) (h2 : (transP B A (!prior)).2.2 = 0) :
    applyE (applyE t B).1 (transP A B prior).1 = applyE (applyE t A).1 (transP B A (!prior)).1 ∧ (applyE (applyE t B).1 (transP A B prior).1).2 = 0 := by
  have e1 := trans_half hA hB h1 rfl
  have e2 := trans_half hB hA h2 (n := max (extN (normP A)) (extN (normP B))) (Nat.max_comm ..)
  rw [e1, e2, merge_turn prior]
  exact ⟨rfl, rfl⟩
end Bow
/- SP40: trees as what names unfold to: whose children are which, and what stands at each. -/
namespace Bow
open Go

structure Pay where
  id : Int
  leaf : Bool
  label : List UInt8
  attrs : AttrL
  text : List UInt8
def Tree.pay : Tree → Pay
  | .mk i l b a c _ => ⟨i, l, b, a, c⟩
structure Gr (α : Type) where
  kids : α → List α
  pay : α → Pay

section
variable {α : Type}
mutual
def Unf (S : Gr α) : α → Tree → Prop
  | u, .mk i l b a c ss => S.pay u = ⟨i, l, b, a, c⟩ ∧ Unfs S (S.kids u) ss
def Unfs (S : Gr α) : List α → List Tree → Prop
  | [], [] => True
  | u :: us, s :: ss => Unf S u s ∧ Unfs S us ss
  | [], _ :: _ => False
  | _ :: _, [] => False
end
mutual
/-- The names of a tree's nodes. -/
def labs (S : Gr α) : α → Tree → List α
  | u, .mk _ _ _ _ _ ss => u :: labss S (S.kids u) ss
def labss (S : Gr α) : List α → List Tree → List α
  | u :: us, s :: ss => labs S u s ++ labss S us ss
  | _, _ => []
end
theorem unf_eq {S : Gr α} {u : α} {t : Tree} : Unf S u t ↔ S.pay u = t.pay ∧ Unfs S (S.kids u) t.subs := by
  cases t
  rw [Unf]
  exact Iff.rfl
theorem labs_eq {S : Gr α} {u : α} {t : Tree} : labs S u t = u :: labss S (S.kids u) t.subs := by
  cases t
  rw [labs]
  rfl
theorem tree_eq {t u : Tree} (h : t.pay = u.pay) (k : t.subs = u.subs) : t = u := by
  cases t
  cases u
  simp only [Tree.pay, Pay.mk.injEq] at h
  obtain ⟨rfl, rfl, rfl, rfl, rfl⟩ := h
  simp only [Tree.subs] at k
  rw [k]
theorem unfs_len {S : Gr α} : ∀ {us : List α} {ss : List Tree}, Unfs S us ss → us.length = ss.length
  | [], [], _ => rfl
  | u :: us, s :: ss, h => by
    rw [Unfs] at h
    simp [unfs_len h.2]
  | [], _ :: _, h => by rw [Unfs] at h; exact h.elim
  | _ :: _, [], h => by rw [Unfs] at h; exact h.elim
theorem unfs_get {S : Gr α} : ∀ {us : List α} {ss : List Tree}, Unfs S us ss → ∀ (i : Nat) (s : Tree), ss[i]? = some s → ∃ u, us[i]? = some u ∧ Unf S u s
  | [], [], _, i, s, hs => by simp at hs
  | u :: us, s' :: ss, h, i, s, hs => by
    rw [Unfs] at h
    cases i with
    | zero => simp at hs; subst hs; exact ⟨u, rfl, h.1⟩
    | succ i => simpa using unfs_get h.2 i s (by simpa using hs)
  | [], _ :: _, h, _, _, _ => by rw [Unfs] at h; exact h.elim
  | _ :: _, [], h, _, _, _ => by rw [Unfs] at h; exact h.elim
theorem unfs_app {S : Gr α} : ∀ {us us' : List α} {ss ss' : List Tree}, Unfs S us ss → Unfs S us' ss' → Unfs S (us ++ us') (ss ++ ss')
  | [], _, [], _, _, k => k
  | u :: us, _, s :: ss, _, h, k => by
    rw [Unfs] at h
    rw [List.cons_append, List.cons_append, Unfs]
    exact ⟨h.1, unfs_app h.2 k⟩
  | [], _, _ :: _, _, h, _ => by rw [Unfs] at h; exact h.elim
  | _ :: _, _, [], _, h, _ => by rw [Unfs] at h; exact h.elim
theorem unfs_split {S : Gr α} : ∀ {us : List α} {ss : List Tree} (n : Nat), Unfs S us ss → Unfs S (us.take n) (ss.take n) ∧ Unfs S (us.drop n) (ss.drop n)
  | us, ss, 0, h => by simp only [List.take_zero, List.drop_zero]; exact ⟨by rw [Unfs]; trivial, h⟩
  | [], [], n + 1, _ => by simp only [List.take_nil, List.drop_nil]; exact ⟨by rw [Unfs]; trivial, by rw [Unfs]; trivial⟩
  | u :: us, s :: ss, n + 1, h => by
    rw [Unfs] at h
    have := unfs_split n h.2
    simp only [List.take_succ_cons, List.drop_succ_cons]
    rw [Unfs]
    exact ⟨⟨h.1, this.1⟩, this.2⟩
  | [], _ :: _, _ + 1, h => by rw [Unfs] at h; exact h.elim
  | _ :: _, [], _ + 1, h => by rw [Unfs] at h; exact h.elim
theorem labss_app {S : Gr α} : ∀ {us us' : List α} {ss ss' : List Tree}, us.length = ss.length → labss S (us ++ us') (ss ++ ss') = labss S us ss ++ labss S us' ss'
  | [], _, [], _, _ => by simp [labss]
  | u :: us, _, s :: ss, _, h => by
    rw [List.cons_append, List.cons_append, labss, labss, labss_app (by simpa using h), List.append_assoc]
  | [], _, _ :: _, _, h => by simp at h
  | _ :: _, _, [], _, h => by simp at h

/-- What two agree on, they unfold alike. -/
theorem unf_agree {S S' : Gr α} (t : Tree) : ∀ u : α, (∀ z ∈ labs S u t, S'.kids z = S.kids z ∧ S'.pay z = S.pay z) → (Unf S u t → Unf S' u t) ∧ labs S' u t = labs S u t := by
  induction t using Tree.ind with
  | _ t ih =>
  intro u h
  have key : ∀ (us : List α) (ss : List Tree), (∀ s ∈ ss, s ∈ t.subs) → (∀ z ∈ labss S us ss, S'.kids z = S.kids z ∧ S'.pay z = S.pay z) → (Unfs S us ss → Unfs S' us ss) ∧ labss S' us ss = labss S us ss := by
    intro us
    induction us with
    | nil =>
      intro ss _ _
      cases ss with
      | nil => exact ⟨fun _ => by rw [Unfs]; trivial, by simp [labss]⟩
      | cons s ss => exact ⟨fun h => by rw [Unfs] at h; exact h.elim, by simp [labss]⟩
    | cons v us ihu =>
      intro ss hss hz
      cases ss with
      | nil => exact ⟨fun h => by rw [Unfs] at h; exact h.elim, by simp [labss]⟩
      | cons s ss =>
        rw [labss] at hz
        have h1 := ih s (hss s (by simp)) v fun z hm => hz z (List.mem_append_left _ hm)
        have h2 := ihu ss (fun x hx => hss x (by simp [hx])) fun z hm => hz z (List.mem_append_right _ hm)
        refine ⟨fun h => ?_, ?_⟩
        · rw [Unfs] at h ⊢
          exact ⟨h1.1 h.1, h2.1 h.2⟩
        · rw [labss, labss, h1.2, h2.2]
  rw [labs_eq] at h
  have hu := h u (by simp)
  have hk := key (S.kids u) t.subs (fun _ h => h) fun z hz => h z (List.mem_cons_of_mem _ hz)
  refine ⟨fun hh => ?_, ?_⟩
  · rw [unf_eq] at hh ⊢
    rw [hu.1, hu.2]
    exact ⟨hh.1, hk.1 hh.2⟩
  · rw [labs_eq, labs_eq, hu.1, hk.2]
theorem unf_fun {S : Gr α} (t : Tree) : ∀ (u : α) (t' : Tree), Unf S u t → Unf S u t' → t = t' := by
  induction t using Tree.ind with
  | _ t ih =>
  intro u t' h h'
  rw [unf_eq] at h h'
  have key : ∀ (us : List α) (ss ss' : List Tree), (∀ s ∈ ss, s ∈ t.subs) → Unfs S us ss → Unfs S us ss' → ss = ss' := by
    intro us
    induction us with
    | nil =>
      intro ss ss' _ h1 h2
      have e1 := unfs_len h1
      have e2 := unfs_len h2
      rw [List.length_eq_zero_iff.1 e1.symm, List.length_eq_zero_iff.1 e2.symm]
    | cons v us ihu =>
      intro ss ss' hss h1 h2
      cases ss with
      | nil => rw [Unfs] at h1; exact h1.elim
      | cons s ss =>
        cases ss' with
        | nil => rw [Unfs] at h2; exact h2.elim
        | cons s' ss' =>
          rw [Unfs] at h1 h2
          rw [ih s (hss s (by simp)) v s' h1.1 h2.1, ihu ss ss' (fun x hx => hss x (by simp [hx])) h1.2 h2.2]
  exact tree_eq (h.1.symm.trans h'.1) (key _ _ _ (fun _ h => h) h.2 h'.2)

/-! ### Paths -/
def kidS (S : Gr α) (u : α) (i : Int) : Option α := bif decide (i < 0) then none else (S.kids u)[i.toNat]?
def res (S : Gr α) : α → List Int → Option α
  | u, [] => some u
  | u, i :: p => match kidS S u i with
    | none => none
    | some v => res S v p
theorem kid_sub {S : Gr α} {u : α} {t : Tree} (h : Unf S u t) (i : Int) : (kidS S u i = none ∧ subT t i = none) ∨ ∃ v s, kidS S u i = some v ∧ subT t i = some s ∧ Unf S v s := by
  rw [unf_eq] at h
  unfold kidS subT
  cases decide (i < 0) with
  | true => exact .inl ⟨rfl, rfl⟩
  | false =>
    simp only [cond_false]
    cases hs : t.subs[i.toNat]? with
    | none =>
      refine .inl ⟨?_, rfl⟩
      rw [List.getElem?_eq_none_iff] at hs ⊢
      rw [unfs_len h.2]
      exact hs
    | some s =>
      obtain ⟨v, h1, h2⟩ := unfs_get h.2 _ _ hs
      exact .inr ⟨v, s, h1, rfl, h2⟩
theorem res_at {S : Gr α} : ∀ (p : List Int) {u : α} {t : Tree}, Unf S u t → (res S u p = none ∧ atT t p = none) ∨ ∃ v s, res S u p = some v ∧ atT t p = some s ∧ Unf S v s
  | [], u, t, h => .inr ⟨u, t, rfl, rfl, h⟩
  | i :: p, u, t, h => by
    rw [res, atT]
    rcases kid_sub h i with ⟨h1, h2⟩ | ⟨v, s, h1, h2, h3⟩
    · rw [h1, h2]
      exact .inl ⟨rfl, rfl⟩
    · rw [h1, h2]
      exact res_at p h3
theorem res_snoc {S : Gr α} (k : Int) : ∀ (p : List Int) (u : α), res S u (p ++ [k]) = (res S u p).bind fun v => kidS S v k
  | [], u => by
    show (match kidS S u k with
      | none => none
      | some v => some v) = kidS S u k
    cases kidS S u k <;> rfl
  | i :: p, u => by
    rw [List.cons_append, res, res]
    cases kidS S u i with
    | none => rfl
    | some v => exact res_snoc k p v
theorem res_app {S : Gr α} (q : List Int) : ∀ (p : List Int) (u : α), res S u (p ++ q) = (res S u p).bind fun v => res S v q
  | [], u => rfl
  | i :: p, u => by
    rw [List.cons_append, res, res]
    cases kidS S u i with
    | none => rfl
    | some v => exact res_app q p v
end
end Bow
/- SP41: a change at a node, seen by names. -/
namespace Bow
open Go

section
variable {α : Type}
theorem unfs_agree {S S' : Gr α} : ∀ (us : List α) (ss : List Tree), (∀ z ∈ labss S us ss, S'.kids z = S.kids z ∧ S'.pay z = S.pay z) → (Unfs S us ss → Unfs S' us ss) ∧ labss S' us ss = labss S us ss
  | [], [], _ => ⟨fun _ => by rw [Unfs]; trivial, by simp [labss]⟩
  | [], _ :: _, _ => ⟨fun h => by rw [Unfs] at h; exact h.elim, by simp [labss]⟩
  | _ :: _, [], _ => ⟨fun h => by rw [Unfs] at h; exact h.elim, by simp [labss]⟩
  | u :: us, s :: ss, h => by
    rw [labss] at h
    have h1 := unf_agree s u fun z hz => h z (List.mem_append_left _ hz)
    have h2 := unfs_agree us ss fun z hz => h z (List.mem_append_right _ hz)
    refine ⟨fun k => ?_, ?_⟩
    · rw [Unfs] at k ⊢
      exact ⟨h1.1 k.1, h2.1 k.2⟩
    · rw [labss, labss, h1.2, h2.2]
theorem split_get {β : Type} {l : List β} {i : Nat} {x : β} (h : l[i]? = some x) : l = l.take i ++ x :: l.drop (i + 1) := by
  have hi := (List.getElem?_eq_some_iff.1 h).1
  have hx := (List.getElem?_eq_some_iff.1 h).2
  rw [← hx, List.getElem_cons_drop, List.take_append_drop]
theorem set_split {β : Type} {l : List β} {i : Nat} {x : β} (h : i < l.length) : l.set i x = l.take i ++ x :: l.drop (i + 1) := List.set_eq_take_append_cons_drop.trans (if_pos h)
/-- A child, among the others. -/
theorem kid_split {S : Gr α} {u : α} {t : Tree} (h : Unf S u t) {i : Int} {w : α} {s : Tree} (hk : kidS S u i = some w) (hs : subT t i = some s) :
    0 ≤ i ∧ S.kids u = (S.kids u).take i.toNat ++ w :: (S.kids u).drop (i.toNat + 1) ∧ t.subs = t.subs.take i.toNat ++ s :: t.subs.drop (i.toNat + 1) ∧ Unf S w s ∧ Unfs S ((S.kids u).take i.toNat) (t.subs.take i.toNat) ∧ Unfs S ((S.kids u).drop (i.toNat + 1)) (t.subs.drop (i.toNat + 1)) ∧
      labs S u t = u :: (labss S ((S.kids u).take i.toNat) (t.subs.take i.toNat) ++ (labs S w s ++ labss S ((S.kids u).drop (i.toNat + 1)) (t.subs.drop (i.toNat + 1)))) := by
  obtain ⟨h0, hs', _⟩ := subT_some hs
  have hk' : (S.kids u)[i.toNat]? = some w := by
    unfold kidS at hk
    rwa [decide_eq_false (by omega)] at hk
  have hh := unf_eq.1 h
  have e1 := split_get hk'
  have e2 := split_get hs'
  have k1 := unfs_split i.toNat hh.2
  have k2 := unfs_split (i.toNat + 1) hh.2
  have hw : Unf S w s := by
    obtain ⟨w', hw1, hw2⟩ := unfs_get hh.2 _ _ hs'
    rw [hk'] at hw1
    injection hw1 with hw1
    subst hw1
    exact hw2
  refine ⟨h0, e1, e2, hw, k1.1, k2.2, ?_⟩
  rw [labs_eq]
  have : labss S (S.kids u) t.subs = labss S ((S.kids u).take i.toNat ++ w :: (S.kids u).drop (i.toNat + 1)) (t.subs.take i.toNat ++ s :: t.subs.drop (i.toNat + 1)) := by rw [← e1, ← e2]
  rw [this, labss_app (unfs_len k1.1), labss]
theorem res_mem {S : Gr α} : ∀ (p : List Int) {u v : α} {t y : Tree}, Unf S u t → res S u p = some v → atT t p = some y → ∀ z ∈ labs S v y, z ∈ labs S u t
  | [], u, v, t, y, _, h1, h2, z, hz => by
    rw [res] at h1
    rw [atT] at h2
    injection h1 with h1
    injection h2 with h2
    subst h1 h2
    exact hz
  | i :: p, u, v, t, y, h, h1, h2, z, hz => by
    rw [res] at h1
    rw [atT] at h2
    rcases kid_sub h i with ⟨k1, k2⟩ | ⟨w, s, k1, k2, k3⟩
    · rw [k1] at h1; cases h1
    · rw [k1] at h1
      rw [k2] at h2
      have := res_mem p k3 h1 h2 z hz
      rw [(kid_split h k1 k2).2.2.2.2.2.2]
      exact List.mem_cons_of_mem _ (List.mem_append_right _ (List.mem_append_left _ this))
theorem res_self {S : Gr α} {p : List Int} {u v : α} {t : Tree} (h : Unf S u t) (h1 : res S u p = some v) : v ∈ labs S u t := by
  rcases res_at p h with ⟨k1, _⟩ | ⟨v', s, k1, k2, k3⟩
  · rw [k1] at h1; cases h1
  · rw [k1] at h1
    injection h1 with h1
    subst h1
    exact res_mem p h k1 k2 _ (by rw [labs_eq]; simp)
/-- A name stands at one path alone. -/
theorem res_inj {S : Gr α} : ∀ (p q : List Int) {u v : α} {t : Tree}, Unf S u t → (labs S u t).Nodup → res S u p = some v → res S u q = some v → p = q
  | [], [], _, _, _, _, _, _, _ => rfl
  | [], j :: q, u, v, t, h, hn, h1, h2 => by
    rw [res] at h1
    rw [res] at h2
    injection h1 with h1
    subst h1
    rcases kid_sub h j with ⟨k1, _⟩ | ⟨w, s, k1, k2, k3⟩
    · rw [k1] at h2; cases h2
    · rw [k1] at h2
      have hm := res_self k3 h2
      rw [(kid_split h k1 k2).2.2.2.2.2.2] at hn
      exact absurd (List.mem_append_right _ (List.mem_append_left _ hm)) (List.nodup_cons.1 hn).1
  | i :: p, [], u, v, t, h, hn, h1, h2 => by
    rw [res] at h1
    rw [res] at h2
    injection h2 with h2
    subst h2
    rcases kid_sub h i with ⟨k1, _⟩ | ⟨w, s, k1, k2, k3⟩
    · rw [k1] at h1; cases h1
    · rw [k1] at h1
      have hm := res_self k3 h1
      rw [(kid_split h k1 k2).2.2.2.2.2.2] at hn
      exact absurd (List.mem_append_right _ (List.mem_append_left _ hm)) (List.nodup_cons.1 hn).1
  | i :: p, j :: q, u, v, t, h, hn, h1, h2 => by
    rw [res] at h1
    rw [res] at h2
    rcases kid_sub h i with ⟨k1, _⟩ | ⟨w, s, k1, k2, k3⟩
    · rw [k1] at h1; cases h1
    rcases kid_sub h j with ⟨l1, _⟩ | ⟨w', s', l1, l2, l3⟩
    · rw [l1] at h2; cases h2
    rw [k1] at h1
    rw [l1] at h2
    have e := kid_split h k1 k2
    have e' := kid_split h l1 l2
    have m1 := res_self k3 h1
    have m2 := res_self l3 h2
    by_cases hij : i = j
    · subst hij
      rw [k1] at l1
      injection l1 with l1
      subst l1
      rw [k2] at l2
      injection l2 with l2
      subst l2
      rw [e.2.2.2.2.2.2] at hn
      have hn' := (List.nodup_append.1 (List.nodup_append.1 (List.nodup_cons.1 hn).2).2.1).1
      rw [res_inj p q k3 hn' h1 h2]
    · exfalso
      have hne : i.toNat ≠ j.toNat := by have := e.1; have := e'.1; omega
      -- the other child stands among those ahead, or behind
      have hn1 := hn
      rw [e.2.2.2.2.2.2] at hn1
      have hA := List.nodup_append.1 (List.nodup_cons.1 hn1).2
      have hB := List.nodup_append.1 hA.2.1
      have hj' : (S.kids u)[j.toNat]? = some w' := by
        have := l1
        unfold kidS at this
        rwa [decide_eq_false (by have := e'.1; omega)] at this
      have hs' := (subT_some l2).2.1
      rcases Nat.lt_or_gt_of_ne hne with hlt | hgt
      · -- j is behind i
        have hin : v ∈ labss S ((S.kids u).drop (i.toNat + 1)) (t.subs.drop (i.toNat + 1)) := by
          have g1 : ((S.kids u).drop (i.toNat + 1))[j.toNat - (i.toNat + 1)]? = some w' := by rw [List.getElem?_drop]; rw [show i.toNat + 1 + (j.toNat - (i.toNat + 1)) = j.toNat by omega]; exact hj'
          have g2 : (t.subs.drop (i.toNat + 1))[j.toNat - (i.toNat + 1)]? = some s' := by rw [List.getElem?_drop]; rw [show i.toNat + 1 + (j.toNat - (i.toNat + 1)) = j.toNat by omega]; exact hs'
          have f1 := split_get g1
          have f2 := split_get g2
          have hl := unfs_len (unfs_split (j.toNat - (i.toNat + 1)) e.2.2.2.2.2.1).1
          rw [f1, f2, labss_app hl, labss]
          exact List.mem_append_right _ (List.mem_append_left _ m2)
        exact hB.2.2 v m1 v hin rfl
      · have hin : v ∈ labss S ((S.kids u).take i.toNat) (t.subs.take i.toNat) := by
          have g1 : ((S.kids u).take i.toNat)[j.toNat]? = some w' := by rw [List.getElem?_take, if_pos hgt]; exact hj'
          have g2 : (t.subs.take i.toNat)[j.toNat]? = some s' := by rw [List.getElem?_take, if_pos hgt]; exact hs'
          have f1 := split_get g1
          have f2 := split_get g2
          have hl := unfs_len (unfs_split j.toNat e.2.2.2.2.1).1
          rw [f1, f2, labss_app hl, labss]
          exact List.mem_append_right _ (List.mem_append_left _ m2)
        exact hA.2.2 v hin v (List.mem_append_left _ m1) rfl

/-- A change at a node: what else there is stays. -/
theorem change_unf [DecidableEq α] {S S' : Gr α} {F : Tree → Tree} {v : α} {y : Tree} (hF : Unf S' v (F y)) : ∀ (p : List Int) (u : α) (t : Tree), Unf S u t → (labs S u t).Nodup → res S u p = some v → atT t p = some y → (∀ z ∈ labs S u t, z ≠ v → S'.kids z = S.kids z ∧ S'.pay z = S.pay z) →
    Unf S' u (changeT F t p) ∧ ∀ z, (labs S' u (changeT F t p)).count z + (labs S v y).count z = (labs S u t).count z + (labs S' v (F y)).count z
  | [], u, t, h, _, h1, h2, _ => by
    rw [res] at h1
    rw [atT] at h2
    injection h1 with h1
    injection h2 with h2
    subst h1 h2
    rw [changeT]
    exact ⟨hF, fun z => by omega⟩
  | i :: p, u, t, h, hn, h1, h2, ha => by
    rw [res] at h1
    rw [atT] at h2
    rcases kid_sub h i with ⟨k1, _⟩ | ⟨w, s, k1, k2, k3⟩
    · rw [k1] at h1; cases h1
    rw [k1] at h1
    rw [k2] at h2
    obtain ⟨e0, e1, e2, _, e4, e5, e6⟩ := kid_split h k1 k2
    have hvm := res_self k3 h1
    rw [e6] at hn ha
    obtain ⟨n1, n2⟩ := List.nodup_cons.1 hn
    obtain ⟨n3, n4, n5⟩ := List.nodup_append.1 n2
    obtain ⟨n6, n7, n8⟩ := List.nodup_append.1 n4
    have hu : u ≠ v := fun e => n1 (List.mem_append_right _ (List.mem_append_left _ (e ▸ hvm)))
    have hu' := ha u (by simp) hu
    have ih := change_unf hF p w s k3 n6 h1 h2 fun z hz hzv => ha z (List.mem_cons_of_mem _ (List.mem_append_right _ (List.mem_append_left _ hz))) hzv
    have a1 := unfs_agree (S := S) (S' := S') ((S.kids u).take i.toNat) (t.subs.take i.toNat) fun z hz => ha z (List.mem_cons_of_mem _ (List.mem_append_left _ hz)) fun e => n5 z hz v (List.mem_append_left _ hvm) e
    have a2 := unfs_agree (S := S) (S' := S') ((S.kids u).drop (i.toNat + 1)) (t.subs.drop (i.toNat + 1)) fun z hz => ha z (List.mem_cons_of_mem _ (List.mem_append_right _ (List.mem_append_right _ hz))) fun e => n8 v hvm z hz e.symm
    have hch : changeT F t (i :: p) = t.withSubs (t.subs.set i.toNat (changeT F s p)) := by rw [changeT, k2]
    have hlt : i.toNat < t.subs.length := (List.getElem?_eq_some_iff.1 (subT_some k2).2.1).1
    have hsub : (changeT F t (i :: p)).subs = t.subs.take i.toNat ++ changeT F s p :: t.subs.drop (i.toNat + 1) := by rw [hch, withSubs_subs, set_split hlt]
    have hpay : (changeT F t (i :: p)).pay = t.pay := by rw [hch]; cases t; rfl
    have hl := unfs_len e4
    refine ⟨?_, fun z => ?_⟩
    · rw [unf_eq, hpay, hsub, hu'.1, hu'.2, e1]
      refine ⟨(unf_eq.1 h).1, unfs_app (a1.1 e4) ?_⟩
      rw [Unfs]
      exact ⟨ih.1, a2.1 e5⟩
    · have hz := ih.2 z
      have hlab : labs S' u (changeT F t (i :: p)) = u :: (labss S ((S.kids u).take i.toNat) (t.subs.take i.toNat) ++ (labs S' w (changeT F s p) ++ labss S ((S.kids u).drop (i.toNat + 1)) (t.subs.drop (i.toNat + 1)))) := by
        rw [labs_eq, hsub, hu'.1]
        conv => lhs; rw [e1]
        rw [labss_app hl, labss, a1.2, a2.2]
      rw [hlab, e6]
      simp only [List.count_cons, List.count_append]
      omega
end
end Bow
/- SP42: nodes taken out, put in, changed, seen by names. -/
namespace Bow
open Go

section
variable {α : Type}
theorem mem_labss {S : Gr α} {z : α} : ∀ {us : List α} {ss : List Tree}, z ∈ labss S us ss → ∃ (i : Nat) (w : α) (s : Tree), us[i]? = some w ∧ ss[i]? = some s ∧ z ∈ labs S w s
  | [], [], h => by simp [labss] at h
  | [], _ :: _, h => by simp [labss] at h
  | _ :: _, [], h => by simp [labss] at h
  | u :: us, s :: ss, h => by
    rw [labss, List.mem_append] at h
    rcases h with h | h
    · exact ⟨0, u, s, rfl, rfl, h⟩
    · obtain ⟨i, w, s', h1, h2, h3⟩ := mem_labss h
      exact ⟨i + 1, w, s', by simpa using h1, by simpa using h2, h3⟩
theorem kidS_nat {S : Gr α} {u : α} (i : Nat) : kidS S u (i : Int) = (S.kids u)[i]? := by
  unfold kidS
  rw [decide_eq_false (by omega)]
  rfl
theorem labs_res {S : Gr α} {z : α} (t : Tree) : ∀ u : α, Unf S u t → z ∈ labs S u t → ∃ p, res S u p = some z := by
  induction t using Tree.ind with
  | _ t ih =>
  intro u h hz
  rw [labs_eq] at hz
  rcases List.mem_cons.1 hz with rfl | hz
  · exact ⟨[], rfl⟩
  · obtain ⟨i, w, s, h1, h2, h3⟩ := mem_labss hz
    obtain ⟨w', g1, g2⟩ := unfs_get (unf_eq.1 h).2 i s h2
    rw [h1] at g1
    injection g1 with g1
    subst g1
    obtain ⟨p, hp⟩ := ih s (List.mem_of_getElem? h2) w g2 h3
    exact ⟨(i : Int) :: p, by rw [res, kidS_nat, h1]; exact hp⟩
/-- A name has one parent, and one place there. -/
theorem parent_one {S : Gr α} {r u v z : α} {t : Tree} {i j : Nat} (h : Unf S r t) (hn : (labs S r t).Nodup) (hz : z ∈ labs S r t) (hv : v ∈ labs S r t) (h1 : (S.kids z)[i]? = some u) (h2 : (S.kids v)[j]? = some u) : z = v ∧ i = j := by
  obtain ⟨p, hp⟩ := labs_res t r h hz
  obtain ⟨q, hq⟩ := labs_res t r h hv
  have e1 : res S r (p ++ [(i : Int)]) = some u := by rw [res_snoc, hp]; exact (kidS_nat i).trans h1
  have e2 : res S r (q ++ [(j : Int)]) = some u := by rw [res_snoc, hq]; exact (kidS_nat j).trans h2
  have e := List.append_inj' (res_inj _ _ h hn e1 e2) rfl
  have hij : (i : Int) = (j : Int) := by simpa using e.2
  have hpq := e.1
  subst hpq
  rw [hp] at hq
  injection hq with hq
  exact ⟨hq, by omega⟩
theorem root_none {S : Gr α} {r z : α} {t : Tree} (h : Unf S r t) (hn : (labs S r t).Nodup) (hz : z ∈ labs S r t) : r ∉ S.kids z := fun hm => by
  obtain ⟨i, hi⟩ := List.getElem?_of_mem hm
  obtain ⟨p, hp⟩ := labs_res t r h hz
  have e1 : res S r (p ++ [(i : Int)]) = some r := by rw [res_snoc, hp]; exact (kidS_nat i).trans hi
  have := res_inj _ [] h hn e1 rfl
  simp at this
section
variable [DecidableEq α]
theorem res_count {S : Gr α} (z : α) : ∀ (p : List Int) {u v : α} {t y : Tree}, Unf S u t → res S u p = some v → atT t p = some y → (labs S v y).count z ≤ (labs S u t).count z
  | [], u, v, t, y, _, h1, h2 => by
    rw [res] at h1
    rw [atT] at h2
    injection h1 with h1
    injection h2 with h2
    subst h1 h2
    exact Nat.le_refl _
  | i :: p, u, v, t, y, h, h1, h2 => by
    rw [res] at h1
    rw [atT] at h2
    rcases kid_sub h i with ⟨k1, _⟩ | ⟨w, s, k1, k2, k3⟩
    · rw [k1] at h1; cases h1
    · rw [k1] at h1
      rw [k2] at h2
      have := res_count z p k3 h1 h2
      rw [(kid_split h k1 k2).2.2.2.2.2.2, List.count_cons, List.count_append, List.count_append]
      omega
theorem sub_nodup {S : Gr α} {p : List Int} {u v : α} {t y : Tree} (h : Unf S u t) (hn : (labs S u t).Nodup) (h1 : res S u p = some v) (h2 : atT t p = some y) : (labs S v y).Nodup := by
  rw [List.nodup_iff_count] at hn ⊢
  exact fun z => Nat.le_trans (res_count z p h h1 h2) (hn z)

def rm (u : α) (l : List α) : List α := l.filter fun x => decide (x ≠ u)
theorem rm_none {u : α} {l : List α} (h : u ∉ l) : rm u l = l := by
  unfold rm
  rw [List.filter_eq_self]
  intro x hx
  exact decide_eq_true fun e => h (e ▸ hx)
theorem rm_app (u : α) (a b : List α) : rm u (a ++ b) = rm u a ++ rm u b := List.filter_append ..
theorem rm_cons (u : α) (l : List α) : rm u (u :: l) = rm u l := by
  unfold rm
  rw [List.filter_cons, if_neg (by simp)]
theorem rm_cons_ne {u x : α} (h : x ≠ u) (l : List α) : rm u (x :: l) = x :: rm u l := by
  unfold rm
  rw [List.filter_cons, if_pos (by simpa using h)]
theorem rm_comm (u w : α) (l : List α) : rm u (rm w l) = rm w (rm u l) := by
  unfold rm
  rw [List.filter_filter, List.filter_filter]
  congr 1
  funext x
  exact Bool.and_comm _ _
def delS (S : Gr α) (u : α) : Gr α := ⟨fun z => rm u (S.kids z), S.pay⟩

/-- A node taken out, with all below it. -/
theorem del_unf {S : Gr α} {r v u : α} {t y s : Tree} {q : List Int} {k : Int} (h : Unf S r t) (hn : (labs S r t).Nodup) (hv : res S r q = some v) (hy : atT t q = some y) (hk : kidS S v k = some u) (hs : subT y k = some s) :
    Unf (delS S u) r (changeT (delT k) t q) ∧ (∀ z, (labs (delS S u) r (changeT (delT k) t q)).count z + (labs S u s).count z = (labs S r t).count z) := by
  have hvy : Unf S v y := by
    rcases res_at q h with ⟨k1, _⟩ | ⟨v', y', k1, k2, k3⟩
    · rw [hv] at k1; cases k1
    · rw [hv] at k1
      rw [hy] at k2
      injection k1 with k1
      injection k2 with k2
      subst k1 k2
      exact k3
  have hvm := res_self h hv
  obtain ⟨e0, e1, e2, e3, e4, e5, e6⟩ := kid_split hvy hk hs
  have hku : (S.kids v)[k.toNat]? = some u := by
    unfold kidS at hk
    rwa [decide_eq_false (by omega)] at hk
  have hsub := sub_nodup h hn hv hy
  have agree : ∀ z ∈ labs S r t, z ≠ v → (delS S u).kids z = S.kids z ∧ (delS S u).pay z = S.pay z := fun z hz hzv => by
    refine ⟨rm_none fun hm => ?_, rfl⟩
    obtain ⟨i, hi⟩ := List.getElem?_of_mem hm
    exact hzv (parent_one h hn hz hvm hi hku).1
  have nA : u ∉ (S.kids v).take k.toNat := fun hm => by
    obtain ⟨i, hi⟩ := List.getElem?_of_mem hm
    have hi' := hi
    rw [List.getElem?_take] at hi'
    split at hi'
    · have := (parent_one h hn hvm hvm hi' hku).2
      omega
    · cases hi'
  have nB : u ∉ (S.kids v).drop (k.toNat + 1) := fun hm => by
    obtain ⟨i, hi⟩ := List.getElem?_of_mem hm
    rw [List.getElem?_drop] at hi
    have := (parent_one h hn hvm hvm hi hku).2
    omega
  have hkids : (delS S u).kids v = (S.kids v).take k.toNat ++ (S.kids v).drop (k.toNat + 1) := by
    show rm u (S.kids v) = _
    conv => lhs; rw [e1]
    rw [rm_app, rm_cons, rm_none nA, rm_none nB]
  rw [e6] at hsub
  obtain ⟨n1, n2⟩ := List.nodup_cons.1 hsub
  have inl : ∀ z, z ∈ labs S v y → z ∈ labs S r t := fun z hz => res_mem q h hv hy z hz
  have a1 := unfs_agree (S := S) (S' := delS S u) ((S.kids v).take k.toNat) (y.subs.take k.toNat) fun z hz => agree z (inl z (by rw [e6]; exact List.mem_cons_of_mem _ (List.mem_append_left _ hz))) fun e => n1 (List.mem_append_left _ (e ▸ hz))
  have a2 := unfs_agree (S := S) (S' := delS S u) ((S.kids v).drop (k.toNat + 1)) (y.subs.drop (k.toNat + 1)) fun z hz => agree z (inl z (by rw [e6]; exact List.mem_cons_of_mem _ (List.mem_append_right _ (List.mem_append_right _ hz)))) fun e => n1 (List.mem_append_right _ (List.mem_append_right _ (e ▸ hz)))
  have hsubs : (delT k y).subs = y.subs.take k.toNat ++ y.subs.drop (k.toNat + 1) := by unfold delT; rw [withSubs_subs]
  have hpay : (delT k y).pay = y.pay := by unfold delT; cases y; rfl
  have hl := unfs_len e4
  have hF : Unf (delS S u) v (delT k y) := by
    rw [unf_eq, hkids, hsubs, hpay]
    exact ⟨(unf_eq.1 hvy).1, unfs_app (a1.1 e4) (a2.1 e5)⟩
  have c := change_unf (S' := delS S u) (F := delT k) hF q r t h hn hv hy agree
  refine ⟨c.1, fun z => ?_⟩
  have hz := c.2 z
  have hlab : labs (delS S u) v (delT k y) = v :: (labss S ((S.kids v).take k.toNat) (y.subs.take k.toNat) ++ labss S ((S.kids v).drop (k.toNat + 1)) (y.subs.drop (k.toNat + 1))) := by
    rw [labs_eq, hkids, hsubs, labss_app hl, a1.2, a2.2]
  rw [hlab, e6] at hz
  simp only [List.count_cons, List.count_append] at hz ⊢
  omega

/-- A node put in at a gap, with all below it. -/
theorem ins_unf {S S' : Gr α} {r v x : α} {t y X : Tree} {p : List Int} {g : Int} (h : Unf S r t) (hn : (labs S r t).Nodup) (hv : res S r p = some v) (hy : atT t p = some y) (hk : S'.kids v = (S.kids v).take g.toNat ++ x :: (S.kids v).drop g.toNat) (hp : S'.pay v = S.pay v)
    (ha : ∀ z ∈ labs S r t, z ≠ v → S'.kids z = S.kids z ∧ S'.pay z = S.pay z) (hx : Unf S' x X) :
    Unf S' r (changeT (insT g X) t p) ∧ (∀ z, (labs S' r (changeT (insT g X) t p)).count z = (labs S r t).count z + (labs S' x X).count z) := by
  have hvy : Unf S v y := by
    rcases res_at p h with ⟨k1, _⟩ | ⟨v', y', k1, k2, k3⟩
    · rw [hv] at k1; cases k1
    · rw [hv] at k1
      rw [hy] at k2
      injection k1 with k1
      injection k2 with k2
      subst k1 k2
      exact k3
  have hsub := sub_nodup h hn hv hy
  have hh := unf_eq.1 hvy
  have k1 := unfs_split g.toNat hh.2
  rw [labs_eq] at hsub
  obtain ⟨n1, _⟩ := List.nodup_cons.1 hsub
  have hl := unfs_len k1.1
  have hlab0 : labss S (S.kids v) y.subs = labss S ((S.kids v).take g.toNat) (y.subs.take g.toNat) ++ labss S ((S.kids v).drop g.toNat) (y.subs.drop g.toNat) := by
    conv => lhs; rw [← List.take_append_drop g.toNat (S.kids v), ← List.take_append_drop g.toNat y.subs]
    exact labss_app hl
  have inl : ∀ z, z ∈ labss S (S.kids v) y.subs → z ∈ labs S r t := fun z hz => res_mem p h hv hy z (by rw [labs_eq]; exact List.mem_cons_of_mem _ hz)
  have a1 := unfs_agree (S := S) (S' := S') ((S.kids v).take g.toNat) (y.subs.take g.toNat) fun z hz => ha z (inl z (by rw [hlab0]; exact List.mem_append_left _ hz)) fun e => n1 (by rw [hlab0]; exact List.mem_append_left _ (e ▸ hz))
  have a2 := unfs_agree (S := S) (S' := S') ((S.kids v).drop g.toNat) (y.subs.drop g.toNat) fun z hz => ha z (inl z (by rw [hlab0]; exact List.mem_append_right _ hz)) fun e => n1 (by rw [hlab0]; exact List.mem_append_right _ (e ▸ hz))
  have hsubs : (insT g X y).subs = y.subs.take g.toNat ++ X :: y.subs.drop g.toNat := by unfold insT; rw [withSubs_subs]
  have hpay : (insT g X y).pay = y.pay := by unfold insT; cases y; rfl
  have hF : Unf S' v (insT g X y) := by
    rw [unf_eq, hk, hsubs, hpay, hp]
    refine ⟨hh.1, unfs_app (a1.1 k1.1) ?_⟩
    rw [Unfs]
    exact ⟨hx, a2.1 k1.2⟩
  have c := change_unf (S' := S') (F := insT g X) hF p r t h hn hv hy ha
  refine ⟨c.1, fun z => ?_⟩
  have hz := c.2 z
  have hlab : labs S' v (insT g X y) = v :: (labss S ((S.kids v).take g.toNat) (y.subs.take g.toNat) ++ (labs S' x X ++ labss S ((S.kids v).drop g.toNat) (y.subs.drop g.toNat))) := by
    rw [labs_eq, hk, hsubs, labss_app hl, labss, a1.2, a2.2]
  have hlab1 : labs S v y = v :: (labss S ((S.kids v).take g.toNat) (y.subs.take g.toNat) ++ labss S ((S.kids v).drop g.toNat) (y.subs.drop g.toNat)) := by rw [labs_eq, hlab0]
  rw [hlab, hlab1] at hz
  simp only [List.count_cons, List.count_append] at hz ⊢
  omega

/-- What stands at a node, turned. -/
theorem pay_unf {S S' : Gr α} {r v : α} {t y : Tree} {p : List Int} {F : Tree → Tree} (h : Unf S r t) (hn : (labs S r t).Nodup) (hv : res S r p = some v) (hy : atT t p = some y) (hk : ∀ z ∈ labs S r t, S'.kids z = S.kids z) (hp : ∀ z ∈ labs S r t, z ≠ v → S'.pay z = S.pay z)
    (hF : (F y).subs = y.subs) (hF2 : S'.pay v = (F y).pay) : Unf S' r (changeT F t p) ∧ (∀ z, (labs S' r (changeT F t p)).count z = (labs S r t).count z) := by
  have hvy : Unf S v y := by
    rcases res_at p h with ⟨k1, _⟩ | ⟨v', y', k1, k2, k3⟩
    · rw [hv] at k1; cases k1
    · rw [hv] at k1
      rw [hy] at k2
      injection k1 with k1
      injection k2 with k2
      subst k1 k2
      exact k3
  have hvm := res_self h hv
  have hsub := sub_nodup h hn hv hy
  rw [labs_eq] at hsub
  obtain ⟨n1, _⟩ := List.nodup_cons.1 hsub
  have a := unfs_agree (S := S) (S' := S') (S.kids v) y.subs fun z hz => by
    have hzm : z ∈ labs S r t := res_mem p h hv hy z (by rw [labs_eq]; exact List.mem_cons_of_mem _ hz)
    exact ⟨hk z hzm, hp z hzm fun e => n1 (e ▸ hz)⟩
  have hU : Unf S' v (F y) := by
    rw [unf_eq, hF2, hk v hvm, hF]
    exact ⟨rfl, a.1 (unf_eq.1 hvy).2⟩
  have c := change_unf (S' := S') (F := F) hU p r t h hn hv hy fun z hz hzv => ⟨hk z hz, hp z hz hzv⟩
  refine ⟨c.1, fun z => ?_⟩
  have hz := c.2 z
  have e : labs S' v (F y) = labs S v y := by rw [labs_eq, labs_eq, hk v hvm, hF, a.2]
  rw [e] at hz
  omega
end
end
end Bow
/- SP43: what an operation does to the lists of children, by names; where a child stands then. -/
namespace Bow
open Go

theorem take_pre {β : Type} {l : List β} {i g : Nat} (h : i ≤ g) : l.take g = l.take i ++ (l.take g).drop i := by
  conv => lhs; rw [← List.take_append_drop i (l.take g)]
  rw [List.take_take, Nat.min_eq_left h]
theorem drop_pre {β : Type} {l : List β} {i g : Nat} (h : i ≤ g) : l.drop i = (l.take g).drop i ++ l.drop g := by
  conv => lhs; rw [← List.take_append_drop g l]
  by_cases hg : g ≤ l.length
  · rw [List.drop_append_of_le_length (by rw [List.length_take]; omega)]
  · rw [List.drop_eq_nil_of_le (show l.length ≤ g by omega), List.append_nil, List.append_nil]
theorem get_mid {β : Type} {a b : List β} {w : β} {n : Nat} (h : a.length = n) : (a ++ w :: b)[n]? = some w := by
  subst h
  rw [List.getElem?_append_right (Nat.le_refl _), Nat.sub_self]
  rfl

section
variable {α : Type} [DecidableEq α]
def rmo : Option α → List α → List α
  | none, l => l
  | some u, l => rm u l
theorem rm_mem {u x : α} {l : List α} : x ∈ rm u l ↔ x ∈ l ∧ x ≠ u := by
  unfold rm
  rw [List.mem_filter]
  simp
theorem rmo_mem {o : Option α} {x : α} {l : List α} (h : x ∈ rmo o l) : x ∈ l := by
  cases o with
  | none => exact h
  | some u => exact (rm_mem.1 h).1
theorem rmo_app (o : Option α) (a b : List α) : rmo o (a ++ b) = rmo o a ++ rmo o b := by
  cases o with
  | none => rfl
  | some u => exact rm_app u a b
theorem rmo_cons {o : Option α} {x : α} (h : o ≠ some x) (l : List α) : rmo o (x :: l) = x :: rmo o l := by
  cases o with
  | none => rfl
  | some u => exact rm_cons_ne (fun e => h (congrArg some e.symm)) l
theorem rmo_self (u : α) (l : List α) : rmo (some u) (u :: l) = rmo (some u) l := rm_cons u l
theorem rmo_comm (o o' : Option α) (l : List α) : rmo o (rmo o' l) = rmo o' (rmo o l) := by
  cases o <;> cases o' <;> first | rfl | exact rm_comm _ _ _
theorem rmo_twice (o : Option α) (l : List α) : rmo o (rmo o l) = rmo o l := by
  cases o with
  | none => rfl
  | some u => exact rm_none fun h => (rm_mem.1 h).2 rfl
/-- Put in at a gap, and taken out. -/
def putL (o : Option α) (g : Nat) (x : α) (l : List α) : List α := rmo o (l.take g) ++ x :: rmo o (l.drop g)
/-- How many there are ahead of a gap, when one has been taken out. -/
theorem len_out {l : List α} {u : α} {j : Nat} (hn : l.Nodup) (hj : l[j]? = some u) {g : Nat} (hg : g ≤ l.length) : (rm u (l.take g)).length = if j < g then g - 1 else g := by
  have e := split_get hj
  have hjl := (List.getElem?_eq_some_iff.1 hj).1
  have hn' := hn
  rw [e] at hn'
  obtain ⟨n1, n2, n3⟩ := List.nodup_append.1 hn'
  have hA : u ∉ l.take j := fun h => n3 u h u (by simp) rfl
  have hB : u ∉ l.drop (j + 1) := (List.nodup_cons.1 n2).1
  split
  · rename_i h
    have e2 : l.take g = l.take j ++ u :: (l.drop (j + 1)).take (g - (j + 1)) := by
      conv => lhs; rw [e]
      rw [List.take_append, List.take_of_length_le (by rw [List.length_take]; omega), List.length_take, Nat.min_eq_left (by omega), show g - j = (g - (j + 1)) + 1 by omega, List.take_succ_cons]
    rw [e2, rm_app, rm_cons, rm_none hA, rm_none fun h => hB (List.mem_of_mem_take h), List.length_append, List.length_take, List.length_take, List.length_drop]
    omega
  · rename_i h
    rw [rm_none fun hm => hA (by
      rw [take_pre (l := l) (show g ≤ j by omega)]
      exact List.mem_append_left _ hm), List.length_take, Nat.min_eq_left hg]
theorem len_none {l : List α} {u : α} (h : u ∉ l) {g : Nat} (hg : g ≤ l.length) : (rm u (l.take g)).length = g := by
  rw [rm_none fun hm => h (List.mem_of_mem_take hm), List.length_take, Nat.min_eq_left hg]
/-- Where another one stands, when one has been taken out. -/
theorem get_out {o : Option α} {l : List α} {k : Nat} {w : α} (hk : l[k]? = some w) (hw : o ≠ some w) : (rmo o l)[(rmo o (l.take k)).length]? = some w := by
  have e := split_get hk
  have e2 : rmo o l = rmo o (l.take k) ++ w :: rmo o (l.drop (k + 1)) := by
    conv => lhs; rw [e]
    rw [rmo_app, rmo_cons hw]
  rw [e2]
  exact get_mid rfl
/-- And when one has been put in, too. -/
theorem get_ins {o : Option α} {l : List α} {k g : Nat} {w x : α} (hk : l[k]? = some w) (hw : o ≠ some w) : (putL o g x l)[(rmo o (l.take k)).length + (if g ≤ k then 1 else 0)]? = some w := by
  have e := split_get hk
  have hkl := (List.getElem?_eq_some_iff.1 hk).1
  unfold putL
  split
  · rename_i h
    have e1 : l.drop g = (l.take k).drop g ++ w :: l.drop (k + 1) := by
      rw [drop_pre h, List.drop_eq_getElem_cons hkl]
      have := (List.getElem?_eq_some_iff.1 hk).2
      rw [this]
    have e3 : rmo o (l.take k) = rmo o (l.take g) ++ rmo o ((l.take k).drop g) := by
      conv => lhs; rw [take_pre h]
      rw [rmo_app]
    rw [e1, rmo_app, rmo_cons hw, e3]
    rw [show rmo o (l.take g) ++ x :: (rmo o ((l.take k).drop g) ++ w :: rmo o (l.drop (k + 1))) = (rmo o (l.take g) ++ x :: rmo o ((l.take k).drop g)) ++ w :: rmo o (l.drop (k + 1)) by simp]
    exact get_mid (by simp; omega)
  · rename_i h
    have h : k + 1 ≤ g := by omega
    have e1 : l.take g = l.take k ++ w :: (l.take g).drop (k + 1) := by
      have hkl2 : k < (l.take g).length := by rw [List.length_take]; omega
      have e4 := List.drop_eq_getElem_cons hkl2
      rw [List.getElem_take, (List.getElem?_eq_some_iff.1 hk).2] at e4
      rw [← e4]
      exact take_pre (by omega)
    rw [e1, rmo_app, rmo_cons hw, List.append_assoc, List.cons_append]
    exact get_mid rfl
theorem get_new {o : Option α} {l : List α} {g : Nat} {x : α} : (putL o g x l)[(rmo o (l.take g)).length]? = some x := get_mid rfl
end
end Bow
/- SP44: two changes of the lists of children, one behind the other, and the other way round. -/
namespace Bow
open Go

theorem gr_ext {α : Type} {S S' : Gr α} (h : ∀ z, S.kids z = S'.kids z) (k : ∀ z, S.pay z = S'.pay z) : S = S' := by
  cases S
  cases S'
  congr
  · exact funext h
  · exact funext k

section
variable {α : Type} [DecidableEq α]
theorem take_mid {β : Type} {a b : List β} {n : Nat} (h : a.length = n) : (a ++ b).take n = a ∧ (a ++ b).drop n = b := by
  subst h
  exact ⟨List.take_left, List.drop_left⟩
theorem cut_out (o : Option α) (g : Nat) (l : List α) : (rmo o l).take (rmo o (l.take g)).length = rmo o (l.take g) ∧ (rmo o l).drop (rmo o (l.take g)).length = rmo o (l.drop g) := by
  have e : rmo o l = rmo o (l.take g) ++ rmo o (l.drop g) := by rw [← rmo_app, List.take_append_drop]
  have := take_mid (a := rmo o (l.take g)) (b := rmo o (l.drop g)) rfl
  rw [← e] at this
  exact this
theorem cut_left {o : Option α} {b g : Nat} {x : α} {l : List α} (h : b ≤ g) : (putL o g x l).take (rmo o (l.take b)).length = rmo o (l.take b) ∧ (putL o g x l).drop (rmo o (l.take b)).length = rmo o ((l.take g).drop b) ++ x :: rmo o (l.drop g) := by
  have e : putL o g x l = rmo o (l.take b) ++ (rmo o ((l.take g).drop b) ++ x :: rmo o (l.drop g)) := by
    unfold putL
    conv => lhs; rw [take_pre h]
    rw [rmo_app, List.append_assoc]
  rw [e]
  exact take_mid rfl
theorem cut_right {o : Option α} {b g : Nat} {x : α} {l : List α} (h : g ≤ b) : (putL o g x l).take ((rmo o (l.take b)).length + 1) = rmo o (l.take g) ++ x :: rmo o ((l.take b).drop g) ∧ (putL o g x l).drop ((rmo o (l.take b)).length + 1) = rmo o (l.drop b) := by
  have e : putL o g x l = (rmo o (l.take g) ++ x :: rmo o ((l.take b).drop g)) ++ rmo o (l.drop b) := by
    unfold putL
    rw [drop_pre (l := l) h, rmo_app, List.append_assoc, List.cons_append]
  have e2 : rmo o (l.take b) = rmo o (l.take g) ++ rmo o ((l.take b).drop g) := by
    conv => lhs; rw [take_pre h]
    rw [rmo_app]
  rw [e]
  exact take_mid (by rw [e2]; simp; omega)
def after (g ga : Nat) (first : Bool) : Nat := if ga < g ∨ (ga = g ∧ first = false) then 1 else 0
theorem put_out {o o' : Option α} {g : Nat} {x : α} {l : List α} (h : o' ≠ some x) : rmo o' (putL o g x l) = putL o (rmo o' (l.take g)).length x (rmo o' l) := by
  have c := cut_out o' g l
  unfold putL
  rw [c.1, c.2, rmo_app, rmo_cons h, rmo_comm o' o, rmo_comm o' o]
theorem put_left {o o' : Option α} {b g : Nat} {x y : α} {l : List α} (h : b ≤ g) (hx : o' ≠ some x) (hy : o ≠ some y) :
    putL o' (rmo o (l.take b)).length y (putL o g x l) = putL o ((rmo o' (l.take g)).length + 1) x (putL o' b y l) := by
  have c1 := cut_left (o := o) (x := x) (l := l) h
  have c2 := cut_right (o := o') (x := y) (l := l) h
  conv => lhs; unfold putL
  conv => rhs; unfold putL
  rw [show rmo o (l.take g) ++ x :: rmo o (l.drop g) = putL o g x l from rfl, show rmo o' (l.take b) ++ y :: rmo o' (l.drop b) = putL o' b y l from rfl]
  rw [c1.1, c1.2, c2.1, c2.2, rmo_app, rmo_app, rmo_cons hx, rmo_cons hy, rmo_comm o', rmo_comm o', rmo_comm o']
  simp
theorem put_put {o o' : Option α} {b g : Nat} {x y : α} {l : List α} (prior : Bool) (hx : o' ≠ some x) (hy : o ≠ some y) :
    putL o' ((rmo o (l.take b)).length + after b g prior) y (putL o g x l) = putL o ((rmo o' (l.take g)).length + after g b (!prior)) x (putL o' b y l) := by
  unfold after
  rcases Nat.lt_trichotomy b g with h | h | h
  · rw [if_neg (by omega), if_pos (by omega)]
    exact put_left (Nat.le_of_lt h) hx hy
  · subst h
    cases prior
    · rw [if_pos (by simp), if_neg (by simp)]
      exact (put_left (Nat.le_refl _) hy hx).symm
    · rw [if_neg (by simp), if_pos (by simp)]
      exact put_left (Nat.le_refl _) hx hy
  · rw [if_pos (by omega), if_neg (by omega)]
    exact (put_left (Nat.le_of_lt h) hy hx).symm
/-- The same one moved twice stands where the second move puts it. -/
theorem put_again {u : α} {b g : Nat} {l : List α} (first : Bool) : putL (some u) ((rmo (some u) (l.take b)).length + after b g first) u (putL (some u) g u l) = putL (some u) b u l := by
  have key : ∀ n, ((putL (some u) g u l).take n = rmo (some u) (l.take b) ∧ (putL (some u) g u l).drop n = rmo (some u) ((l.take g).drop b) ++ u :: rmo (some u) (l.drop g) ∧ b ≤ g) ∨ ((putL (some u) g u l).take n = rmo (some u) (l.take g) ++ u :: rmo (some u) ((l.take b).drop g) ∧ (putL (some u) g u l).drop n = rmo (some u) (l.drop b) ∧ g ≤ b) → putL (some u) n u (putL (some u) g u l) = putL (some u) b u l := by
    intro n h
    conv => lhs; unfold putL
    rw [show rmo (some u) (l.take g) ++ u :: rmo (some u) (l.drop g) = putL (some u) g u l from rfl]
    rcases h with ⟨h1, h2, h3⟩ | ⟨h1, h2, h3⟩
    · rw [h1, h2, rmo_app, rmo_self, rmo_twice, rmo_twice, rmo_twice, ← rmo_app, ← drop_pre h3]
      rfl
    · rw [h1, h2, rmo_app, rmo_self, rmo_twice, rmo_twice, rmo_twice, ← rmo_app, ← take_pre h3]
      rfl
  unfold after
  rcases Nat.lt_trichotomy b g with h | h | h
  · rw [if_neg (by omega)]
    have c := cut_left (o := some u) (x := u) (l := l) (Nat.le_of_lt h)
    exact key _ (.inl ⟨c.1, c.2, Nat.le_of_lt h⟩)
  · subst h
    cases first
    · rw [if_pos (by simp)]
      have c := cut_right (o := some u) (x := u) (l := l) (Nat.le_refl b)
      exact key _ (.inr ⟨c.1, c.2, Nat.le_refl _⟩)
    · rw [if_neg (by simp)]
      have c := cut_left (o := some u) (x := u) (l := l) (Nat.le_refl b)
      exact key _ (.inl ⟨c.1, c.2, Nat.le_refl _⟩)
  · rw [if_pos (by omega)]
    have c := cut_right (o := some u) (x := u) (l := l) (Nat.le_of_lt h)
    exact key _ (.inr ⟨c.1, c.2, Nat.le_of_lt h⟩)

/-- What an operation does: one taken out, one put in at a gap of another one's children. -/
structure Eff (α : Type) where
  out : Option α
  into : Option (α × Nat × α)
def Eff.kids (e : Eff α) (z : α) (l : List α) : List α :=
  match e.into with
  | some (v, g, x) => if z = v then putL e.out g x l else rmo e.out l
  | none => rmo e.out l
def Eff.on (e : Eff α) (S : Gr α) : Gr α := ⟨fun z => e.kids z (S.kids z), S.pay⟩
/-- A gap, behind it. -/
def Eff.gap (e : Eff α) (S : Gr α) (z : α) (g : Nat) (first : Bool) : Nat :=
  (rmo e.out ((S.kids z).take g)).length + match e.into with
    | some (v, ga, _) => if z = v then after g ga first else 0
    | none => 0
def Eff.behind (b a : Eff α) (S : Gr α) (first : Bool) : Eff α := ⟨b.out, match b.into with
  | some (v, g, x) => some (v, a.gap S v g first, x)
  | none => none⟩
/-- Both ways round, the same. -/
theorem eff_square (S : Gr α) (a b : Eff α) (prior : Bool) (h1 : ∀ v g x, b.into = some (v, g, x) → a.out ≠ some x) (h2 : ∀ v g x, a.into = some (v, g, x) → b.out ≠ some x) :
    (b.behind a S prior).on (a.on S) = (a.behind b S (!prior)).on (b.on S) := by
  refine gr_ext (fun z => ?_) fun _ => rfl
  obtain ⟨oa, ia⟩ := a
  obtain ⟨ob, ib⟩ := b
  simp only [Eff.on, Eff.behind, Eff.kids, Eff.gap]
  cases ia with
  | none =>
    cases ib with
    | none => exact rmo_comm _ _ _
    | some p =>
      obtain ⟨v, g, x⟩ := p
      have h := h1 v g x rfl
      by_cases hz : z = v
      · subst hz
        simp only [if_pos]
        exact (put_out h).symm
      · simp only [if_neg hz]
        exact rmo_comm _ _ _
  | some q =>
    obtain ⟨w, ga, y⟩ := q
    have k := h2 w ga y rfl
    cases ib with
    | none =>
      by_cases hz : z = w
      · subst hz
        simp only [if_pos]
        exact put_out k
      · simp only [if_neg hz]
        exact rmo_comm _ _ _
    | some p =>
      obtain ⟨v, g, x⟩ := p
      have h := h1 v g x rfl
      by_cases hw : z = w <;> by_cases hv : z = v
      · subst hw
        subst hv
        simp only [if_pos]
        exact put_put prior k h
      · subst hw
        simp only [if_pos, if_neg hv]
        exact put_out k
      · subst hv
        simp only [if_pos, if_neg hw]
        exact (put_out h).symm
      · simp only [if_neg hw, if_neg hv]
        exact rmo_comm _ _ _
end
end Bow
/- SP45: where nodes and gaps are behind an operation: the same names. -/
namespace Bow
open Go

section
variable {α : Type} [DecidableEq α]
/-- What an operation does, by names. -/
inductive Act (S : Gr α) (r x0 : α) (o : OpT) : Eff α → Prop
  | ins (v : α) (hk : o.kind = 1) (hv : res S r o.path = some v) (h0 : 0 ≤ o.at_) (hg : o.at_.toNat ≤ (S.kids v).length) : Act S r x0 o ⟨none, some (v, o.at_.toNat, x0)⟩
  | del (u : α) (hk : o.kind = 2) (hne : o.path ≠ []) (hu : res S r o.path = some u) : Act S r x0 o ⟨some u, none⟩
  | mov (u v : α) (hk : o.kind = 3) (hne : o.path ≠ []) (hw : within o.path o.to = false) (hu : res S r o.path = some u) (hv : res S r o.to = some v) (h0 : 0 ≤ o.at_) (hg : o.at_.toNat ≤ (S.kids v).length) : Act S r x0 o ⟨some u, some (v, o.at_.toNat, u)⟩
omit [DecidableEq α] in
theorem kidS_some {S : Gr α} {z w : α} {k : Int} (h : kidS S z k = some w) : 0 ≤ k ∧ (S.kids z)[k.toNat]? = some w := by
  unfold kidS at h
  by_cases hk : k < 0
  · rw [decide_eq_true hk] at h
    cases h
  · rw [decide_eq_false hk] at h
    exact ⟨by omega, h⟩
omit [DecidableEq α] in
theorem res_last {S : Gr α} {r u : α} {p : List Int} (hne : p ≠ []) (h : res S r p = some u) : ∃ f, res S r p.dropLast = some f ∧ 0 ≤ lastP p ∧ (S.kids f)[(lastP p).toNat]? = some u := by
  rw [← snoc_last hne, res_snoc] at h
  cases hf : res S r p.dropLast with
  | none => rw [hf] at h; cases h
  | some f =>
    rw [hf] at h
    exact ⟨f, rfl, kidS_some h⟩
/-- How many stand ahead of a gap, behind one taken out. -/
theorem len_frm {S : Gr α} {r u z : α} {t : Tree} {path q : List Int} {g : Nat} (h : Unf S r t) (hn : (labs S r t).Nodup) (hne : path ≠ []) (hu : res S r path = some u) (hq : res S r q = some z) (hg : g ≤ (S.kids z).length) :
    ((rm u ((S.kids z).take g)).length : Int) = bif decide (q = path.dropLast) && decide (lastP path < (g : Int)) then (g : Int) - 1 else g := by
  obtain ⟨f, hf, hl, hj⟩ := res_last hne hu
  by_cases e : q = path.dropLast
  · subst e
    rw [hf] at hq
    injection hq with hq
    subst hq
    have hkn : (S.kids f).Nodup := by
      rw [List.nodup_iff_pairwise_ne, List.pairwise_iff_getElem]
      intro i j hi hjl hij he
      have hx := List.getElem?_eq_getElem hjl
      have hy : (S.kids f)[i]? = some (S.kids f)[j] := by rw [← he, List.getElem?_eq_getElem hi]
      have := (parent_one h hn (res_self h hf) (res_self h hf) hy hx).2
      omega
    rw [len_out hkn hj hg, decide_eq_true rfl, Bool.true_and]
    by_cases hlt : (lastP path).toNat < g
    · rw [if_pos hlt, decide_eq_true (by omega)]
      simp only [cond_true]
      omega
    · rw [if_neg hlt, decide_eq_false (by omega)]
      rfl
  · have hni : u ∉ S.kids z := fun hm => by
      obtain ⟨i, hi⟩ := List.getElem?_of_mem hm
      have := (parent_one h hn (res_self h hq) (res_self h hf) hi hj).1
      subst this
      exact e (res_inj _ _ h hn hq hf)
    rw [len_none hni hg, decide_eq_false e]
    rfl
theorem kid_step {S : Gr α} {r x0 z w : α} {t : Tree} {o : OpT} {e : Eff α} {q : List Int} {k : Int} (h : Unf S r t) (hn : (labs S r t).Nodup) (A : Act S r x0 o e) (hq : res S r q = some z) (hk : kidS S z k = some w) (hw : e.out ≠ some w) :
    ∃ k', childR o q k = some k' ∧ kidS (e.on S) z k' = some w := by
  obtain ⟨k0, hK⟩ := kidS_some hk
  have hkl := (List.getElem?_eq_some_iff.1 hK).1
  unfold childR
  cases A with
  | ins v hk1 hv h0 hg =>
    rw [decide_eq_true hk1, cond_true]
    refine ⟨_, rfl, ?_⟩
    by_cases e : q = o.path
    · subst e
      rw [hv] at hq
      injection hq with hq
      subst hq
      have hi := get_ins (o := none) (g := o.at_.toNat) (x := x0) hK (by simp)
      have hks : (Eff.on ⟨none, some (v, o.at_.toNat, x0)⟩ S).kids v = putL none o.at_.toNat x0 (S.kids v) := if_pos rfl
      rw [decide_eq_true rfl, Bool.true_and]
      have hlen : (rmo none ((S.kids v).take k.toNat)).length = k.toNat := by show ((S.kids v).take k.toNat).length = _; rw [List.length_take]; omega
      rw [hlen, ← hks] at hi
      by_cases e2 : o.at_ ≤ k
      · rw [decide_eq_true e2, cond_true]
        rw [if_pos (by omega)] at hi
        rw [show k + 1 = ((k.toNat + 1 : Nat) : Int) by omega, kidS_nat]
        exact hi
      · rw [decide_eq_false e2, cond_false]
        rw [if_neg (by omega)] at hi
        rw [show k = ((k.toNat : Nat) : Int) by omega, kidS_nat]
        exact hi
    · have hz : z ≠ v := fun c => by
        subst c
        exact e (res_inj _ _ h hn hq hv)
      rw [decide_eq_false e, Bool.false_and, cond_false]
      have hks : (Eff.on ⟨none, some (v, o.at_.toNat, x0)⟩ S).kids z = S.kids z := if_neg hz
      rw [show k = ((k.toNat : Nat) : Int) by omega, kidS_nat, hks]
      exact hK
  | del u hk1 hne hu =>
    obtain ⟨f, hf, hl, hj⟩ := res_last hne hu
    have hnk : ¬ (q = o.path.dropLast ∧ k = lastP o.path) := fun ⟨c1, c2⟩ => by
      subst c1
      subst c2
      rw [hf] at hq
      injection hq with hq
      subst hq
      rw [hj] at hK
      injection hK with hK
      exact hw (congrArg some hK)
    have hlen := len_frm (g := k.toNat) h hn hne hu hq (by omega)
    have hg := get_out (o := some u) hK hw
    rw [decide_eq_false (show ¬ o.kind = 1 by omega), cond_false, show (decide (q = o.path.dropLast) && decide (k = lastP o.path)) = false by rw [← Bool.decide_and]; exact decide_eq_false hnk, cond_false, decide_eq_false (show ¬ o.kind = 3 by omega), Bool.false_and, cond_false]
    refine ⟨_, rfl, ?_⟩
    rw [show ((k.toNat : Nat) : Int) = k by omega] at hlen
    rw [← hlen, Int.add_zero, kidS_nat]
    exact hg
  | mov u v hk1 hne hww hu hv h0 hgl =>
    obtain ⟨f, hf, hl, hj⟩ := res_last hne hu
    have hnk : ¬ (q = o.path.dropLast ∧ k = lastP o.path) := fun ⟨c1, c2⟩ => by
      subst c1
      subst c2
      rw [hf] at hq
      injection hq with hq
      subst hq
      rw [hj] at hK
      injection hK with hK
      exact hw (congrArg some hK)
    have hlen := len_frm (g := k.toNat) h hn hne hu hq (by omega)
    rw [decide_eq_false (show ¬ o.kind = 1 by omega), cond_false, show (decide (q = o.path.dropLast) && decide (k = lastP o.path)) = false by rw [← Bool.decide_and]; exact decide_eq_false hnk, cond_false, decide_eq_true hk1, Bool.true_and]
    refine ⟨_, rfl, ?_⟩
    rw [show ((k.toNat : Nat) : Int) = k by omega] at hlen
    rw [← hlen]
    by_cases e : q = o.to
    · subst e
      rw [hv] at hq
      injection hq with hq
      subst hq
      have hi := get_ins (o := some u) (g := o.at_.toNat) (x := u) hK hw
      have hks : (Eff.on ⟨some u, some (v, o.at_.toNat, u)⟩ S).kids v = putL (some u) o.at_.toNat u (S.kids v) := if_pos rfl
      rw [decide_eq_true rfl, Bool.true_and]
      rw [← hks] at hi
      by_cases e2 : o.at_ ≤ k
      · rw [decide_eq_true e2, cond_true]
        rw [if_pos (by omega)] at hi
        exact (kidS_nat (S := Eff.on ⟨some u, some (v, o.at_.toNat, u)⟩ S) _).trans hi
      · rw [decide_eq_false e2, cond_false, Int.add_zero]
        rw [if_neg (by omega)] at hi
        exact (kidS_nat _).trans hi
    · have hz : z ≠ v := fun c => by
        subst c
        exact e (res_inj _ _ h hn hq hv)
      rw [decide_eq_false e, Bool.false_and, cond_false, Int.add_zero]
      have hks : (Eff.on ⟨some u, some (v, o.at_.toNat, u)⟩ S).kids z = rmo (some u) (S.kids z) := if_neg hz
      have hg := get_out (o := some u) hK hw
      rw [kidS_nat, hks]
      exact hg
end
end Bow
/- SP46: nodes' paths and gaps behind an operation lead to the same names. -/
namespace Bow
open Go

section
variable {α : Type} [DecidableEq α]
omit [DecidableEq α] in
theorem within_split {p q : List Int} (h : within p q = true) : ∃ s, q = p ++ s := by
  unfold within at h
  have := of_decide_eq_true h
  exact ⟨q.drop p.length, by conv => lhs; rw [← List.take_append_drop p.length q, ← this]⟩
omit [DecidableEq α] in
theorem within_app (p s : List Int) : within p (p ++ s) = true := by
  unfold within
  simp
/-- One step down. -/
theorem node_step {S : Gr α} {r x0 z w : α} {t : Tree} {o : OpT} {e : Eff α} {q q' : List Int} {k : Int} (h : Unf S r t) (hn : (labs S r t).Nodup) (A : Act S r x0 o e) (hm : movesO o = true) (hq : res S r q = some z) (hk : kidS S z k = some w) (hne : o.kind = 1 ∨ o.path ≠ q ++ [k])
    (h1 : nodeP o q = some q') (h2 : res (e.on S) r q' = some z) : ∃ p', nodeP o (q ++ [k]) = some p' ∧ res (e.on S) r p' = some w := by
  have hqk : res S r (q ++ [k]) = some w := by rw [res_snoc, hq]; exact hk
  have hw : e.out ≠ some w := by
    cases A with
    | ins v hk1 => exact fun c => by cases c
    | del u hk1 hne' hu =>
      intro c
      injection c with c
      subst c
      rcases hne with c | c
      · omega
      · exact c (res_inj _ _ h hn hu hqk)
    | mov u v hk1 hne' hww hu =>
      intro c
      injection c with c
      subst c
      rcases hne with c | c
      · omega
      · exact c (res_inj _ _ h hn hu hqk)
  obtain ⟨k', c1, c2⟩ := kid_step h hn A hq hk hw
  refine ⟨q' ++ [k'], ?_, ?_⟩
  · rw [node_snoc hm q k (fun ⟨g1, g2⟩ => by
      rcases hne with c | c
      · omega
      · exact c g2), h1, c1]
    rfl
  · rw [res_snoc, h2]
    exact c2
/-- Of nodes that are not below one taken out. -/
theorem node_out {S : Gr α} {r x0 : α} {t : Tree} {o : OpT} {e : Eff α} (h : Unf S r t) (hn : (labs S r t).Nodup) (A : Act S r x0 o e) (hm : movesO o = true) :
    ∀ (n : Nat) (p : List Int) (z : α), p.length = n → res S r p = some z → (o.kind = 1 ∨ within o.path p = false) → ∃ p', nodeP o p = some p' ∧ res (e.on S) r p' = some z
  | 0, p, z, hl, hp, _ => by
    rw [List.length_eq_zero_iff] at hl
    subst hl
    exact ⟨[], node_root, hp⟩
  | n + 1, p, z, hl, hp, hw => by
    have hne : p ≠ [] := fun c => by rw [c] at hl; cases hl
    have e1 := snoc_last hne
    have hp' := hp
    rw [← e1, res_snoc] at hp'
    cases hq : res S r p.dropLast with
    | none => rw [hq] at hp'; cases hp'
    | some y =>
      rw [hq] at hp'
      have hw2 : o.kind = 1 ∨ within o.path p.dropLast = false := by
        rcases hw with c | c
        · exact .inl c
        · rw [← e1, within_snoc, Bool.or_eq_false_iff] at c
          exact .inr c.1
      obtain ⟨q', c1, c2⟩ := node_out h hn A hm n p.dropLast y (by simp [hl]) hq hw2
      have hne2 : o.kind = 1 ∨ o.path ≠ p.dropLast ++ [lastP p] := by
        rcases hw with c | c
        · exact .inl c
        · refine .inr fun g => ?_
          rw [e1] at g
          rw [g] at c
          have := within_app p []
          rw [List.append_nil] at this
          rw [this] at c
          cases c
      have := node_step h hn A hm hq hp' hne2 c1 c2
      rw [e1] at this
      exact this
theorem land_len2 {S : Gr α} {r u v : α} {t : Tree} {o : OpT} (h : Unf S r t) (hn : (labs S r t).Nodup) (hne : o.path ≠ []) (hu : res S r o.path = some u) (hv : res S r o.to = some v) (h0 : 0 ≤ o.at_) (hg : o.at_.toNat ≤ (S.kids v).length) :
    (bif decide (o.path.dropLast = o.to) && decide (lastP o.path < o.at_) then o.at_ - 1 else o.at_) = ((rm u ((S.kids v).take o.at_.toNat)).length : Int) := by
  rw [len_frm h hn hne hu hv hg, show ((o.at_.toNat : Nat) : Int) = o.at_ by omega, show decide (o.to = o.path.dropLast) = decide (o.path.dropLast = o.to) from decide_eq_decide.2 ⟨Eq.symm, Eq.symm⟩]
/-- A node of a tree is at its path behind an operation, but for those deleted. -/
theorem node_res {S : Gr α} {r x0 z : α} {t : Tree} {o : OpT} {e : Eff α} {p : List Int} (h : Unf S r t) (hn : (labs S r t).Nodup) (A : Act S r x0 o e) (hm : movesO o = true) (hp : res S r p = some z) (hd : ¬ (o.kind = 2 ∧ within o.path p = true)) :
    ∃ p', nodeP o p = some p' ∧ res (e.on S) r p' = some z := by
  by_cases hw : o.kind = 1 ∨ within o.path p = false
  · exact node_out h hn A hm _ p z rfl hp hw
  · have hw' : within o.path p = true := by
      cases hc : within o.path p with
      | true => rfl
      | false => exact absurd (.inr hc) hw
    obtain ⟨s, hs⟩ := within_split hw'
    subst hs
    cases A with
    | ins v hk1 => exact absurd (.inl hk1) hw
    | del u hk1 => exact absurd ⟨hk1, hw'⟩ hd
    | mov u v hk1 hne hww hu hv h0 hg =>
      have A : Act S r x0 o ⟨some u, some (v, o.at_.toNat, u)⟩ := .mov u v hk1 hne hww hu hv h0 hg
      have base : ∃ p', nodeP o o.path = some p' ∧ res (Eff.on ⟨some u, some (v, o.at_.toNat, u)⟩ S) r p' = some u := by
        obtain ⟨q', c1, c2⟩ := node_out h hn A hm _ o.to v rfl hv (.inr hww)
        refine ⟨_, node_moved hm hk1, ?_⟩
        rw [c1, Option.getD_some, res_snoc, c2, land_len2 h hn hne hu hv h0 hg]
        show kidS _ v _ = some u
        rw [kidS_nat]
        have hks : (Eff.on ⟨some u, some (v, o.at_.toNat, u)⟩ S).kids v = putL (some u) o.at_.toNat u (S.kids v) := if_pos rfl
        rw [hks]
        exact get_new
      have key : ∀ (n : Nat) (s : List Int) (y : α), s.length = n → res S r (o.path ++ s) = some y → ∃ p', nodeP o (o.path ++ s) = some p' ∧ res (Eff.on ⟨some u, some (v, o.at_.toNat, u)⟩ S) r p' = some y := by
        intro n
        induction n with
        | zero =>
          intro s y hl hy
          rw [List.length_eq_zero_iff] at hl
          subst hl
          rw [List.append_nil] at hy ⊢
          rw [hu] at hy
          injection hy with hy
          subst hy
          exact base
        | succ n ih =>
          intro s y hl hy
          have hne2 : s ≠ [] := fun c => by rw [c] at hl; cases hl
          have e1 := snoc_last hne2
          rw [← e1, ← List.append_assoc] at hy ⊢
          have hy' := hy
          rw [res_snoc] at hy'
          cases hq : res S r (o.path ++ s.dropLast) with
          | none => rw [hq] at hy'; cases hy'
          | some m =>
            rw [hq] at hy'
            obtain ⟨q', c1, c2⟩ := ih s.dropLast m (by simp [hl]) hq
            refine node_step h hn A hm hq hy' (.inr fun g => ?_) c1 c2
            have := congrArg List.length g
            simp only [List.length_append, List.length_cons, List.length_nil] at this
            omega
      exact key _ s z rfl hp
/-- And so is a gap. -/
theorem gap_res {S : Gr α} {r x0 z : α} {t : Tree} {o : OpT} {e : Eff α} {p p' : List Int} {g : Int} (first : Bool) (h : Unf S r t) (hn : (labs S r t).Nodup) (A : Act S r x0 o e) (hm : movesO o = true) (hp : res S r p = some z) (hN : nodeP o p = some p') (h0 : 0 ≤ g) (hg : g.toNat ≤ (S.kids z).length) :
    gapP o p g first = (p', (e.gap S z g.toNat first : Int), true) := by
  unfold gapP
  rw [hN]
  simp only [hm, Bool.not_true, cond_false, Prod.mk.injEq, true_and, and_true]
  unfold Eff.gap
  have hgi : ((g.toNat : Nat) : Int) = g := by omega
  have put : ∀ (v : α) (to : List Int), res S r to = some v → o.at_.toNat = o.at_ → ((bif (decide (p = to) && (decide (o.at_ < g) || (decide (g = o.at_) && !first))) then 1 else 0 : Int)) = ((if z = v then after g.toNat o.at_.toNat first else 0 : Nat) : Int) := by
    intro v to hv ha
    by_cases c : p = to
    · subst c
      rw [hp] at hv
      injection hv with hv
      rw [if_pos hv, decide_eq_true rfl, Bool.true_and]
      unfold after
      by_cases c1 : o.at_ < g
      · rw [decide_eq_true c1, if_pos (by omega)]
        rfl
      · rw [decide_eq_false c1, Bool.false_or]
        by_cases c2 : g = o.at_
        · rw [decide_eq_true c2, Bool.true_and]
          cases first
          · rw [if_pos (by simp; omega)]
            rfl
          · rw [if_neg (by simp; omega)]
            rfl
        · rw [decide_eq_false c2, if_neg (by omega)]
          rfl
    · have hz : z ≠ v := fun k => c (by
        subst k
        exact res_inj _ _ h hn hp hv)
      rw [if_neg hz, decide_eq_false c]
      rfl
  cases A with
  | ins v hk1 hv ha hga =>
    have e1 : (chgO o).takes = false := by unfold chgO; simp [hk1]
    have e2 : (chgO o).puts = true := by unfold chgO; simp [hk1]
    have e3 : (chgO o).to = o.path := by unfold chgO; simp [hk1]
    have e4 : (chgO o).gap = o.at_ := rfl
    rw [e1, e2, e3, e4, Bool.false_and, cond_false, Bool.true_and, put v o.path hv (by omega)]
    simp only [rmo, List.length_take, Nat.min_eq_left hg, Int.natCast_add, hgi]
  | del u hk1 hne hu =>
    have e1 : (chgO o).takes = true := by unfold chgO; simp [hk1]
    have e2 : (chgO o).puts = false := by unfold chgO; simp [hk1]
    have e3 : (chgO o).frm = o.path.dropLast := by unfold chgO; simp [hk1]
    have e4 : (chgO o).at_ = lastP o.path := by unfold chgO; simp [hk1]
    have hl := len_frm h hn hne hu hp hg
    rw [hgi] at hl
    rw [e1, e2, e3, e4, Bool.false_and, cond_false, Bool.true_and, Int.add_zero, Bool.and_comm]
    exact hl.symm
  | mov u v hk1 hne hww hu hv ha hga =>
    have e1 : (chgO o).takes = true := by unfold chgO; simp [hk1]
    have e2 : (chgO o).puts = true := by unfold chgO; simp [hk1]
    have e3 : (chgO o).frm = o.path.dropLast := by unfold chgO; simp [hk1]
    have e4 : (chgO o).at_ = lastP o.path := by unfold chgO; simp [hk1]
    have e5 : (chgO o).to = o.to := by unfold chgO; simp [hk1]
    have e6 : (chgO o).gap = o.at_ := rfl
    have hl := len_frm h hn hne hu hp hg
    rw [hgi] at hl
    rw [e1, e2, e3, e4, e5, e6, Bool.true_and, Bool.true_and, put v o.to hv (by omega), Int.natCast_add]
    congr 1
    rw [Bool.and_comm]
    exact hl.symm
end
end Bow
/- SP47: what becomes of a tree, by names. -/
namespace Bow
open Go

theorem nums_id {c : Chg} (ht : c.takes = true) (hp : c.puts = false) : ∀ (p pre : List Int), (∀ s, pre ++ s ≠ c.frm) → c.nums pre p = p
  | [], pre, _ => rfl
  | k :: p, pre, h => by
    rw [Chg.nums, nums_id ht hp p (pre ++ [k]) fun s e => h (k :: s) (by simpa using e)]
    have h0 : pre ≠ c.frm := fun e => h [] (by simpa using e)
    unfold Chg.number
    rw [ht, hp, decide_eq_false h0]
    simp
theorem nums_land {c : Chg} (ht : c.takes = true) (hp : c.puts = false) (at_ : Int) : ∀ (q to pre : List Int), c.frm = pre ++ q → c.nums pre to = (landT q c.at_ to at_).1
  | [], [], pre, _ => by
    unfold landT
    by_cases e : c.at_ < at_ <;> simp [Chg.nums, e]
  | [], k :: p, pre, h => by
    rw [List.append_nil] at h
    rw [Chg.nums, nums_id ht hp p (pre ++ [k]) fun s e => by
      rw [h] at e
      have := congrArg List.length e
      simp at this]
    unfold Chg.number landT
    rw [ht, hp, h, within_nil]
    by_cases e : c.at_ < k <;> simp [e]
  | j :: q, [], pre, h => by
    rw [landT_top]
    rfl
  | j :: q, k :: p, pre, h => by
    rw [Chg.nums]
    have h0 : pre ≠ c.frm := fun e => by
      rw [h] at e
      have := congrArg List.length e
      simp at this
    have hnum : c.number pre k = k := by
      unfold Chg.number
      rw [ht, hp, decide_eq_false h0]
      simp
    rw [hnum]
    by_cases e : j = k
    · subst e
      rw [landT_cons, nums_land ht hp at_ q p (pre ++ [j]) (by simpa using h)]
    · rw [landT_other e, nums_id ht hp p (pre ++ [k]) fun s e2 => by
        rw [h, List.append_assoc, List.append_cancel_left_eq] at e2
        simp only [List.cons_append, List.cons.injEq] at e2
        exact e e2.1.symm]
theorem drop_moves {o : OpT} (hf : formedB o = true) (hne : o.path ≠ []) : movesO (dropO o.path) = true := by
  have h := formed_path hf
  unfold movesO formedB dropO noOp
  simp [h]
  exact List.length_pos_iff.2 hne
theorem land_node {o : OpT} (hf : formedB o = true) (hne : o.path ≠ []) (hw : within o.path o.to = false) : nodeP (dropO o.path) o.to = some (landT o.path.dropLast (lastP o.path) o.to o.at_).1 := by
  unfold nodeP
  rw [drop_moves hf hne]
  have ht : (chgO (dropO o.path)).takes = true := rfl
  have hp : (chgO (dropO o.path)).puts = false := rfl
  have hw' : within (dropO o.path).path o.to = false := hw
  rw [ht, hw']
  simp only [Bool.not_true, cond_false, Bool.and_false]
  exact congrArg some (nums_land (c := chgO (dropO o.path)) rfl rfl o.at_ _ _ [] rfl)
theorem land_gap {q to : List Int} {i at_ : Int} : (landT q i to at_).2 = bif decide (q = to) && decide (i < at_) then at_ - 1 else at_ := by
  unfold landT
  cases (decide (q = to) && decide (i < at_)) <;> cases (within q to && (decide (q.length < to.length) && decide (i < to.getD q.length 0))) <;> rfl

section
variable {α : Type} [DecidableEq α]
theorem not_kid {S : Gr α} {r u z : α} {t : Tree} (h : Unf S r t) (hn : (labs S r t).Nodup) {p : List Int} {s : Tree} (hu : res S r p = some u) (hs : atT t p = some s) (hz : z ∈ labs S u s) : u ∉ S.kids z := by
  rcases res_at p h with ⟨k1, _⟩ | ⟨v', y', k1, k2, k3⟩
  · rw [hu] at k1; cases k1
  · rw [hu] at k1
    rw [hs] at k2
    injection k1 with k1
    injection k2 with k2
    subst k1 k2
    exact root_none k3 (sub_nodup h hn hu hs) hz
omit [DecidableEq α] in
theorem at_res {S : Gr α} {r u : α} {t : Tree} {p : List Int} (h : Unf S r t) (hu : res S r p = some u) : ∃ s, atT t p = some s ∧ Unf S u s := by
  rcases res_at p h with ⟨k1, _⟩ | ⟨v', y', k1, k2, k3⟩
  · rw [hu] at k1; cases k1
  · rw [hu] at k1
    injection k1 with k1
    subst k1
    exact ⟨y', k2, k3⟩
omit [DecidableEq α] in
theorem res_of_at {S : Gr α} {r : α} {t s : Tree} {p : List Int} (h : Unf S r t) (hs : atT t p = some s) : ∃ u, res S r p = some u ∧ Unf S u s := by
  rcases res_at p h with ⟨_, k1⟩ | ⟨v', y', k1, k2, k3⟩
  · rw [hs] at k1; cases k1
  · rw [hs] at k2
    injection k2 with k2
    subst k2
    exact ⟨v', k1, k3⟩
theorem at_snoc (k : Int) : ∀ (p : List Int) (t : Tree), atT t (p ++ [k]) = (atT t p).bind fun y => subT y k
  | [], t => by
    show (match subT t k with
      | none => none
      | some v => some v) = subT t k
    cases subT t k <;> rfl
  | i :: p, t => by
    rw [List.cons_append, atT, atT]
    cases subT t i with
    | none => rfl
    | some v => exact at_snoc k p v
omit [DecidableEq α] in
/-- All that is known of a node that is taken out. -/
theorem out_parts {S : Gr α} {r u : α} {t : Tree} {p : List Int} (h : Unf S r t) (hne : p ≠ []) (hu : res S r p = some u) :
    ∃ f y s, res S r p.dropLast = some f ∧ atT t p.dropLast = some y ∧ kidS S f (lastP p) = some u ∧ subT y (lastP p) = some s ∧ atT t p = some s ∧ Unf S u s := by
  obtain ⟨s, hs, hus⟩ := at_res h hu
  have e := snoc_last hne
  have hu' := hu
  have hs' := hs
  rw [← e, res_snoc] at hu'
  rw [← e, at_snoc] at hs'
  cases hf : res S r p.dropLast with
  | none => rw [hf] at hu'; cases hu'
  | some f =>
    cases hy : atT t p.dropLast with
    | none => rw [hy] at hs'; cases hs'
    | some y =>
      rw [hf] at hu'
      rw [hy] at hs'
      exact ⟨f, y, s, rfl, rfl, hu', hs', hs, hus⟩
structure Became (S' S : Gr α) (r : α) (t' t : Tree) (o : OpT) (x0 : α) : Prop where
  unf : Unf S' r t'
  nodup : (labs S' r t').Nodup
  old : ∀ z ∈ labs S' r t', z ∈ labs S r t ∨ (o.kind = 1 ∧ z = x0)
  gone : ∀ u s, o.kind = 2 → res S r o.path = some u → atT t o.path = some s → ∀ z ∈ labs S' r t', z ∉ labs S u s
theorem act_unf {S : Gr α} {r x0 : α} {t : Tree} {o : OpT} {e : Eff α} (h : Unf S r t) (hn : (labs S r t).Nodup) (A : Act S r x0 o e) (hf : formedB o = true) (hx : o.kind = 1 → Unf S x0 (freshT o) ∧ x0 ∉ labs S r t) :
    Became (e.on S) S r (applyT t o) t o x0 := by
  unfold applyT
  cases A with
  | ins v hk hv h0 hg =>
    rw [decide_eq_true hk, cond_true]
    obtain ⟨hx, hx0⟩ := hx hk
    obtain ⟨y, hy, _⟩ := at_res h hv
    have hxk : S.kids x0 = [] := List.length_eq_zero_iff.1 (unfs_len (unf_eq.1 hx).2)
    have hxv : x0 ≠ v := fun c => hx0 (c ▸ res_self h hv)
    have hkx : (Eff.on ⟨none, some (v, o.at_.toNat, x0)⟩ S).kids x0 = [] := by
      have : (Eff.on ⟨none, some (v, o.at_.toNat, x0)⟩ S).kids x0 = rmo none (S.kids x0) := if_neg hxv
      rw [this, hxk]
      rfl
    have hX : Unf (Eff.on ⟨none, some (v, o.at_.toNat, x0)⟩ S) x0 (freshT o) := by
      rw [unf_eq, hkx]
      rw [unf_eq, hxk] at hx
      refine ⟨hx.1, ?_⟩
      show Unfs _ [] []
      rw [Unfs]
      trivial
    have c := ins_unf (S' := Eff.on ⟨none, some (v, o.at_.toNat, x0)⟩ S) (g := o.at_) h hn hv hy (if_pos rfl) rfl (fun z _ hz => ⟨if_neg hz, rfl⟩) hX
    have hl : labs (Eff.on ⟨none, some (v, o.at_.toNat, x0)⟩ S) x0 (freshT o) = [x0] := by
      rw [labs_eq, hkx]
      rfl
    rw [hl] at c
    refine ⟨c.1, ?_, fun z hz => ?_, fun u s hk2 => by omega⟩
    · rw [List.nodup_iff_count]
      intro z
      rw [c.2 z]
      have h1 := (List.nodup_iff_count.1 hn) z
      by_cases e : z = x0
      · subst e
        rw [List.count_eq_zero.2 hx0]
        simp
      · rw [List.count_eq_zero.2 (show z ∉ [x0] by simpa using e)]
        exact h1
    · by_cases e : z = x0
      · exact .inr ⟨hk, e⟩
      · refine .inl ?_
        have h2 := c.2 z
        rw [List.count_eq_zero.2 (show z ∉ [x0] by simpa using e)] at h2
        rw [← List.count_pos_iff] at hz ⊢
        omega
  | del u hk hne hu =>
    rw [decide_eq_false (show ¬ o.kind = 1 by omega), cond_false, decide_eq_true hk, cond_true]
    obtain ⟨f, y, s, p1, p2, p3, p4, p5, p6⟩ := out_parts h hne hu
    have c := del_unf h hn p1 p2 p3 p4
    refine ⟨c.1, ?_, fun z hz => .inl ?_, fun u' s' _ hu' hs' z hz hzs => ?_⟩
    · rw [List.nodup_iff_count]
      intro z
      have h1 := (List.nodup_iff_count.1 hn) z
      have h2 := c.2 z
      have : (labs (Eff.on ⟨some u, none⟩ S) r (withoutT t o.path)).count z = (labs (delS S u) r (changeT (delT (lastP o.path)) t o.path.dropLast)).count z := rfl
      omega
    · have h2 := c.2 z
      have hz : z ∈ labs (delS S u) r (changeT (delT (lastP o.path)) t o.path.dropLast) := hz
      rw [← List.count_pos_iff] at hz ⊢
      omega
    · rw [hu] at hu'
      rw [p5] at hs'
      injection hu' with hu'
      injection hs' with hs'
      subst hu' hs'
      have h1 := (List.nodup_iff_count.1 hn) z
      have h2 := c.2 z
      have hz : z ∈ labs (delS S u) r (changeT (delT (lastP o.path)) t o.path.dropLast) := hz
      rw [← List.count_pos_iff] at hz hzs
      omega
  | mov u v hk hne hw hu hv h0 hg =>
    rw [decide_eq_false (show ¬ o.kind = 1 by omega), cond_false, decide_eq_false (show ¬ o.kind = 2 by omega), cond_false, decide_eq_true hk, cond_true]
    obtain ⟨f, y, s, p1, p2, p3, p4, p5, p6⟩ := out_parts h hne hu
    rw [p5]
    show Became _ _ _ (moveT s t o) _ _ _
    have c := del_unf h hn p1 p2 p3 p4
    have hD : Act S r x0 (dropO o.path) ⟨some u, none⟩ := .del u rfl hne hu
    obtain ⟨p', q1, q2⟩ := node_res h hn hD (drop_moves hf hne) hv (fun ⟨_, g⟩ => by
      have g : within o.path o.to = true := g
      rw [hw] at g
      cases g)
    rw [land_node hf hne hw] at q1
    injection q1 with q1
    subst q1
    have q2 : res (delS S u) r (landT o.path.dropLast (lastP o.path) o.to o.at_).1 = some v := q2
    have hn1 : (labs (delS S u) r (changeT (delT (lastP o.path)) t o.path.dropLast)).Nodup := by
      rw [List.nodup_iff_count]
      intro z
      have h1 := (List.nodup_iff_count.1 hn) z
      have h2 := c.2 z
      omega
    obtain ⟨y2, hy2, _⟩ := at_res c.1 q2
    have hgap : (landT o.path.dropLast (lastP o.path) o.to o.at_).2 = ((rm u ((S.kids v).take o.at_.toNat)).length : Int) := by
      rw [land_gap, land_len2 h hn hne hu hv h0 hg]
    have hks : (Eff.on ⟨some u, some (v, o.at_.toNat, u)⟩ S).kids v = putL (some u) o.at_.toNat u (S.kids v) := if_pos rfl
    have hcut := cut_out (some u) o.at_.toNat (S.kids v)
    have hX : Unf (Eff.on ⟨some u, some (v, o.at_.toNat, u)⟩ S) u s ∧ labs (Eff.on ⟨some u, some (v, o.at_.toNat, u)⟩ S) u s = labs S u s := by
      have ha := unf_agree (S := S) (S' := Eff.on ⟨some u, some (v, o.at_.toNat, u)⟩ S) s u fun z hz => by
        refine ⟨?_, rfl⟩
        have hzv : z ≠ v := fun c => by
          subst c
          obtain ⟨p2', hp2⟩ := labs_res s u p6 hz
          have hr : res S r (o.path ++ p2') = some z := by rw [res_app, hu]; exact hp2
          have := res_inj _ _ h hn hr hv
          rw [← this, within_app] at hw
          cases hw
        have : (Eff.on ⟨some u, some (v, o.at_.toNat, u)⟩ S).kids z = rmo (some u) (S.kids z) := if_neg hzv
        rw [this]
        exact rm_none (not_kid h hn hu p5 hz)
      exact ⟨ha.1 p6, ha.2⟩
    have c2 := ins_unf (S' := Eff.on ⟨some u, some (v, o.at_.toNat, u)⟩ S) (g := (landT o.path.dropLast (lastP o.path) o.to o.at_).2) c.1 hn1 q2 hy2
      (by
        rw [hks, hgap]
        show putL (some u) o.at_.toNat u (S.kids v) = (rm u (S.kids v)).take (rm u ((S.kids v).take o.at_.toNat)).length ++ u :: (rm u (S.kids v)).drop (rm u ((S.kids v).take o.at_.toNat)).length
        have h1 : (rm u (S.kids v)).take (rm u ((S.kids v).take o.at_.toNat)).length = _ := hcut.1
        have h2 : (rm u (S.kids v)).drop (rm u ((S.kids v).take o.at_.toNat)).length = _ := hcut.2
        rw [h1, h2]
        rfl) rfl (fun z _ hz => ⟨if_neg hz, rfl⟩) hX.1
    rw [hX.2] at c2
    have hcnt : ∀ z, (labs (Eff.on ⟨some u, some (v, o.at_.toNat, u)⟩ S) r (moveT s t o)).count z = (labs S r t).count z := fun z => by
      have h1 := c.2 z
      have h2 := c2.2 z
      have : (labs (Eff.on ⟨some u, some (v, o.at_.toNat, u)⟩ S) r (moveT s t o)).count z = (labs (Eff.on ⟨some u, some (v, o.at_.toNat, u)⟩ S) r (changeT (insT (landT o.path.dropLast (lastP o.path) o.to o.at_).2 s) (changeT (delT (lastP o.path)) t o.path.dropLast) (landT o.path.dropLast (lastP o.path) o.to o.at_).1)).count z := rfl
      omega
    refine ⟨c2.1, ?_, fun z hz => .inl ?_, fun u s hk2 => by omega⟩
    · rw [List.nodup_iff_count]
      intro z
      rw [hcnt z]
      exact (List.nodup_iff_count.1 hn) z
    · rw [← List.count_pos_iff] at hz ⊢
      rw [hcnt z] at hz
      exact hz
end
end Bow
/- SP48: operations that are valid, by names; one behind another one. -/
namespace Bow
open Go

def payF (o : OpT) (p : Pay) : Pay :=
  if o.kind = 4 then { p with attrs := setA o p.attrs } else if o.kind = 5 then { p with label := o.label } else { p with text := (applyE p.text o.pieces).1 }
theorem payF_leaf (o : OpT) (p : Pay) : (payF o p).leaf = p.leaf := by
  unfold payF
  split
  · rfl
  · split <;> rfl

section
variable {α : Type} [DecidableEq α]
def payS (S : Gr α) (v : α) (f : Pay → Pay) : Gr α := ⟨S.kids, fun z => if z = v then f (S.pay z) else S.pay z⟩
inductive Fit (S : Gr α) (r x0 : α) (o : OpT) : Gr α → Prop
  | act (e : Eff α) (A : Act S r x0 o e) (hl : ∀ v g x, e.into = some (v, g, x) → (S.pay v).leaf = false) : Fit S r x0 o (e.on S)
  | pay (v : α) (hk : 4 ≤ o.kind ∧ o.kind ≤ 6) (hv : res S r o.path = some v) (he : o.kind = 6 → (S.pay v).leaf = true ∧ (applyE (S.pay v).text o.pieces).2 = 0) : Fit S r x0 o (payS S v (payF o))
omit [DecidableEq α] in
theorem unf_pay {S : Gr α} {u : α} {t : Tree} (h : Unf S u t) : S.pay u = t.pay := (unf_eq.1 h).1
omit [DecidableEq α] in
theorem unf_len {S : Gr α} {u : α} {t : Tree} (h : Unf S u t) : (S.kids u).length = t.subs.length := unfs_len (unf_eq.1 h).2
theorem pay_leaf (t : Tree) : t.pay.leaf = t.leaf := by cases t; rfl
theorem pay_text (t : Tree) : t.pay.text = t.text := by cases t; rfl
theorem fit_of {S : Gr α} {r : α} (x0 : α) {t : Tree} {o : OpT} (h : Unf S r t) (hg : GoodO t o) : ∃ S', Fit S r x0 o S' := by
  cases hg with
  | ins y hk hy hl h0 h1 h2 =>
    obtain ⟨v, hv, hvy⟩ := res_of_at h hy
    refine ⟨_, .act _ (.ins v hk hv h0 (by rw [unf_len hvy]; omega)) fun v' g x e => ?_⟩
    injection e with e
    rw [← (Prod.mk.inj e).1, unf_pay hvy, pay_leaf, hl]
  | del x hk hne hx =>
    obtain ⟨u, hu, _⟩ := res_of_at h hx
    exact ⟨_, .act _ (.del u hk hne hu) fun v' g x e => by cases e⟩
  | mov x z hk hne hx hw hz hl h0 h1 =>
    obtain ⟨u, hu, _⟩ := res_of_at h hx
    obtain ⟨v, hv, hvy⟩ := res_of_at h hz
    refine ⟨_, .act _ (.mov u v hk hne hw hu hv h0 (by rw [unf_len hvy]; omega)) fun v' g x e => ?_⟩
    injection e with e
    rw [← (Prod.mk.inj e).1, unf_pay hvy, pay_leaf, hl]
  | att y hk hy h1 h2 =>
    obtain ⟨v, hv, hvy⟩ := res_of_at h hy
    exact ⟨_, .pay v (by omega) hv fun hk6 => by omega⟩
  | lab y hk hy h2 =>
    obtain ⟨v, hv, hvy⟩ := res_of_at h hy
    exact ⟨_, .pay v (by omega) hv fun hk6 => by omega⟩
  | edt y hk hy hl he =>
    obtain ⟨v, hv, hvy⟩ := res_of_at h hy
    exact ⟨_, .pay v (by omega) hv fun hk6 => by rw [unf_pay hvy, pay_leaf, pay_text]; exact ⟨hl, he⟩⟩
theorem into_ok {y : Tree} {n : Int} (hl : y.leaf = false) (h : n ≤ y.subs.length) : intoE y n = 0 := by
  unfold intoE
  rw [hl, decide_eq_false (by omega)]
  rfl
theorem fit_valid {S S' : Gr α} {r x0 : α} {t : Tree} {o : OpT} (h : Unf S r t) (hr : rightT t = true) (hf : formedB o = true) (F : Fit S r x0 o S') : ValidE t o = 0 := by
  unfold ValidE validE
  rw [hr, hf]
  simp only [Bool.not_true, cond_false]
  cases F with
  | act e A hl =>
    cases A with
    | ins v hk hv h0 hg =>
      obtain ⟨y, hy, hvy⟩ := at_res h hv
      have hlf := hl v _ _ rfl
      rw [unf_pay hvy, pay_leaf] at hlf
      rw [unf_len hvy] at hg
      rw [hy, show (decide (o.kind = 2) || decide (o.kind = 3)) = false by simp [hk], decide_eq_true hk]
      exact into_ok hlf (by omega)
    | del u hk hne hu =>
      obtain ⟨y, hy, _⟩ := at_res h hu
      rw [hy, decide_eq_false hne]
      simp [hk]
    | mov u v hk hne hw hu hv h0 hg =>
      obtain ⟨y, hy, _⟩ := at_res h hu
      obtain ⟨z, hz, hvz⟩ := at_res h hv
      have hlf := hl v _ _ rfl
      rw [unf_pay hvz, pay_leaf] at hlf
      rw [unf_len hvz] at hg
      rw [hy, hz, decide_eq_false hne, hw]
      simp [hk]
      exact into_ok hlf (by omega)
  | pay v hk hv he =>
    obtain ⟨y, hy, hvy⟩ := at_res h hv
    rw [hy, show (decide (o.kind = 2) || decide (o.kind = 3)) = false by simp; omega, decide_eq_false (show ¬ o.kind = 1 by omega), decide_eq_false (show ¬ o.kind = 3 by omega)]
    simp only [Bool.false_and, cond_false]
    by_cases h6 : o.kind = 6
    · have := he h6
      rw [unf_pay hvy, pay_leaf, pay_text] at this
      rw [decide_eq_true h6, this.1, this.2]
      rfl
    · rw [decide_eq_false h6]
      rfl
theorem fit_unf {S S' : Gr α} {r x0 : α} {t : Tree} {o : OpT} (h : Unf S r t) (hn : (labs S r t).Nodup) (F : Fit S r x0 o S') (hf : formedB o = true) (hx : o.kind = 1 → Unf S x0 (freshT o) ∧ x0 ∉ labs S r t) : Became S' S r (applyT t o) t o x0 := by
  cases F with
  | act e A hl => exact act_unf h hn A hf hx
  | pay v hk hv he =>
    obtain ⟨y, hy, hvy⟩ := at_res h hv
    have fin : ∀ (F : Tree → Tree), (∀ y, (F y).subs = y.subs) → (∀ y, payF o y.pay = (F y).pay) → Became (payS S v (payF o)) S r (changeT F t o.path) t o x0 := by
      intro F hF hF2
      have c := pay_unf (S' := payS S v (payF o)) (F := F) h hn hv hy (fun z _ => rfl) (fun z _ hz => if_neg hz) (hF y) (by
        have : (payS S v (payF o)).pay v = payF o (S.pay v) := if_pos rfl
        rw [this, unf_pay hvy]
        exact hF2 y)
      refine ⟨c.1, ?_, fun z hz => .inl ?_, fun u s hk2 => by omega⟩
      · rw [List.nodup_iff_count]
        intro z
        rw [c.2 z]
        exact (List.nodup_iff_count.1 hn) z
      · rw [← List.count_pos_iff] at hz ⊢
        rw [c.2 z] at hz
        exact hz
    unfold applyT
    rw [decide_eq_false (show ¬ o.kind = 1 by omega), decide_eq_false (show ¬ o.kind = 2 by omega), decide_eq_false (show ¬ o.kind = 3 by omega)]
    simp only [cond_false]
    by_cases h4 : o.kind = 4
    · rw [decide_eq_true h4]
      refine fin (setAT o) (fun y => by cases y; rfl) fun y => ?_
      unfold payF
      rw [if_pos h4]
      cases y
      rfl
    · rw [decide_eq_false h4, cond_false]
      by_cases h5 : o.kind = 5
      · rw [decide_eq_true h5]
        refine fin (relabelT o.label) (fun y => by cases y; rfl) fun y => ?_
        unfold payF
        rw [if_neg h4, if_pos h5]
        cases y
        rfl
      · rw [decide_eq_false h5, cond_false]
        refine fin (retextT o.pieces) (fun y => by cases y; rfl) fun y => ?_
        unfold payF
        rw [if_neg h4, if_neg h5]
        cases y
        rfl
end
end Bow
/- SP49: an operation behind another one, by names: it does what it did. -/
namespace Bow
open Go

section
variable {α : Type} [DecidableEq α]
theorem kids_mem {e : Eff α} {z m : α} {l : List α} (h : m ∈ e.kids z l) : m ∈ l ∨ ∃ g, e.into = some (z, g, m) := by
  obtain ⟨out, into⟩ := e
  cases into with
  | none => exact .inl (rmo_mem h)
  | some q =>
    obtain ⟨v, g, x⟩ := q
    have h : m ∈ (if z = v then putL out g x l else rmo out l) := h
    by_cases hz : z = v
    · subst hz
      rw [if_pos rfl] at h
      unfold putL at h
      rw [List.mem_append, List.mem_cons] at h
      rcases h with h | h | h
      · exact .inl (List.mem_of_mem_take (rmo_mem h))
      · subst h
        exact .inr ⟨g, rfl⟩
      · exact .inl (List.mem_of_mem_drop (rmo_mem h))
    · rw [if_neg hz] at h
      exact .inl (rmo_mem h)
omit [DecidableEq α] in
theorem res_kid {S : Gr α} {u n m : α} {s : List Int} (h : res S u s = some n) (hm : m ∈ S.kids n) : ∃ s', res S u s' = some m := by
  obtain ⟨i, hi⟩ := List.getElem?_of_mem hm
  exact ⟨s ++ [(i : Int)], by rw [res_snoc, h]; exact (kidS_nat i).trans hi⟩
/-- What is below a node behind an operation was below it, or came there with what is moved. -/
theorem below_after {S : Gr α} {r x0 u : α} {o : OpT} {e : Eff α} (A : Act S r x0 o e) (hx : S.kids x0 = []) (hx0 : ∀ p, res S r p ≠ some x0) : ∀ (n : Nat) (s : List Int) (m : α), s.length = n → res (e.on S) u s = some m →
    m = x0 ∨ (∃ s', res S u s' = some m) ∨ (o.kind = 3 ∧ ∃ w v s1 s2, res S r o.path = some w ∧ res S r o.to = some v ∧ res S u s1 = some v ∧ res S w s2 = some m)
  | 0, s, m, hl, h => by
    rw [List.length_eq_zero_iff] at hl
    subst hl
    rw [res] at h
    exact .inr (.inl ⟨[], h⟩)
  | n + 1, s, m, hl, h => by
    have hne : s ≠ [] := fun c => by rw [c] at hl; cases hl
    rw [← snoc_last hne, res_snoc] at h
    cases hq : res (e.on S) u s.dropLast with
    | none => rw [hq] at h; cases h
    | some y =>
      rw [hq] at h
      have ih := below_after A hx hx0 n s.dropLast y (by simp [hl]) hq
      have hm : m ∈ e.kids y (S.kids y) := List.mem_of_getElem? (kidS_some (S := e.on S) h).2
      rcases kids_mem hm with hm | ⟨g, hg⟩
      · rcases ih with rfl | ⟨s', hs'⟩ | ⟨h3, w, v, s1, s2, c1, c2, c3, c4⟩
        · rw [hx] at hm
          cases hm
        · exact .inr (.inl (res_kid hs' hm))
        · obtain ⟨s3, hs3⟩ := res_kid c4 hm
          exact .inr (.inr ⟨h3, w, v, s1, s3, c1, c2, c3, hs3⟩)
      · cases A with
        | ins v hk hv h0 hgl =>
          injection hg with hg
          exact .inl (by simpa using (Prod.mk.inj (Prod.mk.inj hg).2).2.symm)
        | del w hk hne' hw => cases hg
        | mov w v hk hne' hw hu hv h0 hgl =>
          injection hg with hg
          have e1 : v = y := (Prod.mk.inj hg).1
          have e2 : w = m := (Prod.mk.inj (Prod.mk.inj hg).2).2
          subst e1
          subst e2
          rcases ih with rfl | ⟨s', hs'⟩ | ⟨h3, w', v', s1, s2, c1, c2, c3, c4⟩
          · exact absurd hv (hx0 _)
          · exact .inr (.inr ⟨hk, w, v, s', [], hu, hv, hs', rfl⟩)
          · rw [hv] at c2
            injection c2 with c2
            subst c2
            exact .inr (.inr ⟨hk, w, v, s1, [], hu, hv, c3, rfl⟩)
theorem rmo_split (o : Option α) (g : Nat) (l : List α) : (rmo o l).length = (rmo o (l.take g)).length + (rmo o (l.drop g)).length := by
  conv => lhs; rw [← List.take_append_drop g l]
  rw [rmo_app, List.length_append]
theorem gap_le {S : Gr α} {e : Eff α} {z : α} {g : Nat} (first : Bool) : e.gap S z g first ≤ ((e.on S).kids z).length := by
  obtain ⟨out, into⟩ := e
  unfold Eff.gap Eff.on Eff.kids
  have h1 := rmo_split out g (S.kids z)
  cases into with
  | none =>
    simp only
    omega
  | some q =>
    obtain ⟨v, ga, x⟩ := q
    simp only
    by_cases hz : z = v
    · rw [if_pos hz, if_pos hz]
      have h2 := rmo_split out ga (S.kids z)
      have h3 : after g ga first ≤ 1 := by unfold after; split <;> omega
      unfold putL
      rw [List.length_append, List.length_cons]
      omega
    · rw [if_neg hz, if_neg hz]
      omega
/-- Both take out, or put in. -/
theorem shift_act {S : Gr α} {r xa xb : α} {t : Tree} {a b : OpT} {ea eb : Eff α} (first : Bool) (h : Unf S r t) (hn : (labs S r t).Nodup) (hm : movesO a = true) (A : Act S r xa a ea) (B : Act S r xb b eb)
    (hx : S.kids xa = []) (hx0 : xa ∉ labs S r t) (hd : ¬ (a.kind = 2 ∧ within a.path b.path = true)) (hd2 : ¬ (a.kind = 2 ∧ b.kind = 3 ∧ within a.path b.to = true))
    (hc : ¬ (a.kind = 3 ∧ b.kind = 3 ∧ within b.path a.to = true ∧ within a.path b.to = true)) : Act (ea.on S) r xb (shiftedO b a first) (eb.behind ea S first) := by
  have hx0' : ∀ p, res S r p ≠ some xa := fun p e => hx0 (res_self h e)
  cases B with
  | ins v hk hv h0 hg =>
    obtain ⟨p', q1, q2⟩ := node_res h hn A hm hv hd
    have q3 := gap_res first h hn A hm hv q1 h0 hg
    have e1 : shiftedO b a first = { b with at_ := (ea.gap S v b.at_.toNat first : Int), path := p' } := by
      unfold shiftedO
      rw [decide_eq_true hk, cond_true, q3, q1]
      rfl
    rw [e1]
    exact .ins v hk q2 (Int.natCast_nonneg _) (gap_le first)
  | del u hk hne hu =>
    obtain ⟨p', q1, q2⟩ := node_res h hn A hm hu hd
    have e1 : shiftedO b a first = { b with path := p' } := by
      unfold shiftedO
      rw [decide_eq_false (show ¬ b.kind = 1 by omega), decide_eq_false (show ¬ b.kind = 3 by omega), q1]
      rfl
    rw [e1]
    refine .del u hk (fun c => ?_) q2
    have c : p' = [] := c
    subst c
    rw [res] at q2
    injection q2 with q2
    subst q2
    exact hne (res_inj _ [] h hn hu rfl)
  | mov u v hk hne hw hu hv h0 hg =>
    obtain ⟨p', q1, q2⟩ := node_res h hn A hm hu hd
    obtain ⟨p2, q4, q5⟩ := node_res h hn A hm hv fun g => hd2 ⟨g.1, hk, g.2⟩
    have q3 := gap_res first h hn A hm hv q4 h0 hg
    have e1 : shiftedO b a first = { b with to := p2, at_ := (ea.gap S v b.at_.toNat first : Int), path := p' } := by
      unfold shiftedO
      rw [decide_eq_false (show ¬ b.kind = 1 by omega), decide_eq_true hk, q3, q1]
      rfl
    rw [e1]
    refine .mov u v hk (fun c => ?_) ?_ q2 q5 (Int.natCast_nonneg _) (gap_le first)
    · have c : p' = [] := c
      subst c
      rw [res] at q2
      injection q2 with q2
      subst q2
      exact hne (res_inj _ [] h hn hu rfl)
    · show within p' p2 = false
      cases hc2 : within p' p2 with
      | false => rfl
      | true =>
        exfalso
        obtain ⟨s, hs⟩ := within_split hc2
        subst hs
        rw [res_app, q2] at q5
        rcases below_after A hx hx0' _ s v rfl q5 with c | ⟨s', c⟩ | ⟨h3, w, va, s1, s2, c1, c2, c3, c4⟩
        · subst c
          exact hx0' _ hv
        · have : res S r (b.path ++ s') = some v := by rw [res_app, hu]; exact c
          have := res_inj _ _ h hn this hv
          rw [← this, within_app] at hw
          cases hw
        · refine hc ⟨h3, hk, ?_, ?_⟩
          · have : res S r (b.path ++ s1) = some va := by rw [res_app, hu]; exact c3
            rw [← res_inj _ _ h hn this c2, within_app]
          · have : res S r (a.path ++ s2) = some v := by rw [res_app, c1]; exact c4
            rw [← res_inj _ _ h hn this hv, within_app]
theorem behind_into {S : Gr α} {a b : Eff α} {first : Bool} {v x : α} {g : Nat} (h : (b.behind a S first).into = some (v, g, x)) : ∃ g', b.into = some (v, g', x) := by
  obtain ⟨out, into⟩ := b
  cases into with
  | none => cases h
  | some q =>
    obtain ⟨v', g', x'⟩ := q
    have h : some (v', a.gap S v' g' first, x') = some (v, g, x) := h
    injection h with h
    simp only [Prod.mk.injEq] at h
    obtain ⟨rfl, -, rfl⟩ := h
    exact ⟨g', rfl⟩
theorem shift_fit {S Sa Sb : Gr α} {r xa xb : α} {t : Tree} {a b : OpT} {ea eb : Eff α} (first : Bool) (h : Unf S r t) (hn : (labs S r t).Nodup) (hm : movesO a = true) (A : Act S r xa a ea) (hSa : Sa = ea.on S) (B : Act S r xb b eb) (hl : ∀ v g x, eb.into = some (v, g, x) → (S.pay v).leaf = false)
    (hx : S.kids xa = []) (hx0 : xa ∉ labs S r t) (hd : ¬ (a.kind = 2 ∧ within a.path b.path = true)) (hd2 : ¬ (a.kind = 2 ∧ b.kind = 3 ∧ within a.path b.to = true))
    (hc : ¬ (a.kind = 3 ∧ b.kind = 3 ∧ within b.path a.to = true ∧ within a.path b.to = true)) (hSb : Sb = (eb.behind ea S first).on Sa) : Fit Sa r xb (shiftedO b a first) Sb := by
  subst hSa
  subst hSb
  refine .act _ (shift_act first h hn hm A B hx hx0 hd hd2 hc) fun v g x e => ?_
  obtain ⟨g', hg'⟩ := behind_into e
  exact hl v g' x hg'
end
end Bow
