/- The library, part 8: SP35, W89, W91, TD1, TD2. -/
import Derived.Test.YthaigpiepfdaeaaGreatMg
import Derived.Test.YthaigpiepfdaeaaGreatMd
import Derived.Test.YthaigpiepfdaeaaGreatMc
import Derived.Test.YthaigpiepfdaeaaGreatRows
import Derived.ChangeShapes
/- SP35: lists of operations of all kinds, of the grove, drawn by a row of numbers: both ways round end in the same tree; computed in plain Lean. -/
namespace Bow
open Go

def lcg (s : Nat) : Nat := (s * 1103515245 + 12345) % 2147483648
/-- Two trees, what was done to each, and the number drawn last. -/
structure Dr where
  x : Tree
  y : Tree
  us : List OpT
  vs : List OpT
  s : Nat
def Dr.left (d : Dr) (o : OpT) (s : Nat) : Dr := match applyR d.x o with
  | (t, e) => bif decide (e = 0) then { d with x := t, us := d.us ++ [o], s := s } else { d with s := s }
def Dr.right (d : Dr) (o : OpT) (s : Nat) : Dr := match applyR d.y o with
  | (t, e) => bif decide (e = 0) then { d with y := t, vs := d.vs ++ [o], s := s } else { d with s := s }
def pickO (l : List OpT) (s : Nat) : OpT := l.getD (s / 65536 % l.length) (noOp 0)
def Dr.draw (l : List OpT) (d : Dr) (even : Bool) : Dr := bif even then d.left (pickO l (lcg d.s)) (lcg d.s) else d.right (pickO l (lcg d.s)) (lcg d.s)
def drawN (l : List OpT) (s : Nat) : Nat → Dr
  | 0 => ⟨groveT, groveT, [], [], s⟩
  | k + 1 => (drawN l s k).draw l (decide (k % 2 = 0))
def closesL (t : Tree) (us vs : List OpT) (prior : Bool) : Bool :=
  match bringF prior 40 us vs with
  | none => false
  | some r =>
    let x := AllR t us
    let y := AllR t vs
    let p := bareL r.1
    let q := bareL r.2.1
    let u := AllR x.1 q
    let v := AllR y.1 p
    decide (x.2.2 = 0) && (decide (y.2.2 = 0) && (decide (r.2.2 = 0) && (p.all smallO && (q.all smallO && (decide (costs p ≤ 100000) && (decide (costs q ≤ 100000) && (decide (p.length ≤ 40) && (decide (q.length ≤ 40) &&
    (decide (u.2.2 = 0) && (decide (v.2.2 = 0) && sameT true u.1 v.1))))))))))
def roundsL (l : List OpT) : Nat → Nat → Bool → Bool
  | 0, _, _ => true
  | n + 1, s, b => match drawN l s 6 with
    | d => closesL groveT d.us d.vs b && roundsL l n d.s (!b)
def seedL : Nat → Nat
  | 0 => 7
  | n + 1 => lcg (lcg (lcg (lcg (lcg (lcg (seedL n))))))
def listOps : List OpT := manyO (pathsT groveT) 1 (pathsT groveT).length
set_option maxRecDepth 1000000 in
theorem lists_len : listOps.length = 184 := by decide +kernel
set_option maxRecDepth 1000000 in
theorem lists_small : listOps.all smallO = true := by decide +kernel
set_option maxRecDepth 1000000 in
theorem lists_1 : roundsL listOps 100 (seedL 0) true = true := by decide +kernel
set_option maxRecDepth 1000000 in
theorem lists_2 : roundsL listOps 100 (seedL 100) true = true := by decide +kernel
set_option maxRecDepth 1000000 in
theorem lists_3 : roundsL listOps 100 (seedL 200) true = true := by decide +kernel
set_option maxRecDepth 1000000 in
theorem lists_4 : roundsL listOps 100 (seedL 300) true = true := by decide +kernel
theorem draw_seed (l : List OpT) (d : Dr) (b : Bool) : (d.draw l b).s = lcg d.s := by
  unfold Dr.draw
  cases b
  · simp only [cond_false]
    unfold Dr.right
    obtain ⟨t, e⟩ := applyR d.y (pickO l (lcg d.s))
    simp only
    cases decide (e = 0) <;> rfl
  · simp only [cond_true]
    unfold Dr.left
    obtain ⟨t, e⟩ := applyR d.x (pickO l (lcg d.s))
    simp only
    cases decide (e = 0) <;> rfl
theorem drawN_seed (l : List OpT) (s : Nat) : (drawN l s 6).s = lcg (lcg (lcg (lcg (lcg (lcg s))))) := by
  simp only [drawN, draw_seed]
theorem rounds_get {l : List OpT} : ∀ (n i : Nat) (b : Bool), roundsL l n (seedL i) b = true → ∀ k, k < n → closesL groveT (drawN l (seedL (i + k)) 6).us (drawN l (seedL (i + k)) 6).vs (if k % 2 = 0 then b else !b) = true
  | 0, _, _, _, _, hk => by omega
  | n + 1, i, b, h, k, hk => by
    rw [roundsL] at h
    simp only [Bool.and_eq_true] at h
    obtain ⟨h1, h2⟩ := h
    rcases k with - | k
    · simpa using h1
    · rw [drawN_seed] at h2
      have := rounds_get n (i + 1) (!b) h2 k (by omega)
      rw [show i + 1 + k = i + (k + 1) by omega] at this
      rw [← this]
      by_cases e : k % 2 = 0
      · have e2 : ¬ ((k + 1) % 2 = 0) := by omega
        rw [if_pos e, if_neg e2]
      · have e2 : (k + 1) % 2 = 0 := by omega
        rw [if_neg e, if_pos e2, Bool.not_not]
theorem lists_close (i : Nat) (h : i < 400) : closesL groveT (drawN listOps (seedL i) 6).us (drawN listOps (seedL i) 6).vs (decide (i % 2 = 0)) = true := by
  have key : ∀ j, j % 2 = 0 → j ≤ i → i < j + 100 → roundsL listOps 100 (seedL j) true = true → closesL groveT (drawN listOps (seedL i) 6).us (drawN listOps (seedL i) 6).vs (decide (i % 2 = 0)) = true := fun j hj h1 h2 hr => by
    have := rounds_get 100 j true hr (i - j) (by omega)
    rw [show j + (i - j) = i by omega] at this
    rw [← this]
    congr 1
    by_cases e : i % 2 = 0
    · rw [if_pos (by omega), decide_eq_true e]
    · rw [if_neg (by omega), decide_eq_false e]; rfl
  rcases Nat.lt_or_ge i 100 with h1 | h1
  · exact key 0 rfl (by omega) (by omega) lists_1
  rcases Nat.lt_or_ge i 200 with h2 | h2
  · exact key 100 rfl (by omega) (by omega) lists_2
  rcases Nat.lt_or_ge i 300 with h3 | h3
  · exact key 200 rfl (by omega) (by omega) lists_3
  · exact key 300 rfl (by omega) (by omega) lists_4
/-! ### What is drawn is small -/
theorem small_cost {o : OpT} (ho : smallO o = true) : costO o ≤ 1400 := by
  unfold smallO at ho
  simp only [Bool.and_eq_true, decide_eq_true_eq] at ho
  unfold costO
  omega
structure Dr.Fine (d : Dr) (k : Nat) : Prop where
  x : d.x.weight ≤ 100 + 1400 * k
  y : d.y.weight ≤ 100 + 1400 * k
  us : d.us.length ≤ k
  vs : d.vs.length ≤ k
  su : ∀ o ∈ d.us, smallO o = true
  sv : ∀ o ∈ d.vs, smallO o = true
theorem lcg_lt (s : Nat) : lcg s < 2147483648 := Nat.mod_lt _ (by decide)
theorem left_cases (d : Dr) (o : OpT) (s : Nat) : d.left o s = ⟨(applyR d.x o).1, d.y, d.us ++ [o], d.vs, s⟩ ∨ d.left o s = ⟨d.x, d.y, d.us, d.vs, s⟩ := by
  unfold Dr.left
  obtain ⟨t, e⟩ := applyR d.x o
  simp only
  cases decide (e = 0)
  · exact .inr rfl
  · exact .inl rfl
theorem right_cases (d : Dr) (o : OpT) (s : Nat) : d.right o s = ⟨d.x, (applyR d.y o).1, d.us, d.vs ++ [o], s⟩ ∨ d.right o s = ⟨d.x, d.y, d.us, d.vs, s⟩ := by
  unfold Dr.right
  obtain ⟨t, e⟩ := applyR d.y o
  simp only
  cases decide (e = 0)
  · exact .inr rfl
  · exact .inl rfl
theorem Dr.Fine.left {d : Dr} {k : Nat} (h : d.Fine k) {o : OpT} (ho : smallO o = true) (s : Nat) : (d.left o s).Fine (k + 1) := by
  have h1 := h.x
  have h2 := h.y
  have h3 := h.us
  have h4 := h.vs
  have hc := small_cost ho
  have hw := applyR_weight d.x o
  rcases left_cases d o s with e | e
  · rw [e]
    refine ⟨?_, ?_, ?_, ?_, ?_, h.sv⟩
    · simp only; omega
    · simp only; omega
    · simp only [List.length_append, List.length_singleton]; omega
    · simp only; omega
    · intro z hz
      simp only [List.mem_append, List.mem_singleton] at hz
      rcases hz with hz | rfl
      · exact h.su z hz
      · exact ho
  · rw [e]
    refine ⟨?_, ?_, ?_, ?_, h.su, h.sv⟩
    · simp only; omega
    · simp only; omega
    · simp only; omega
    · simp only; omega
theorem Dr.Fine.right {d : Dr} {k : Nat} (h : d.Fine k) {o : OpT} (ho : smallO o = true) (s : Nat) : (d.right o s).Fine (k + 1) := by
  have h1 := h.x
  have h2 := h.y
  have h3 := h.us
  have h4 := h.vs
  have hc := small_cost ho
  have hw := applyR_weight d.y o
  rcases right_cases d o s with e | e
  · rw [e]
    refine ⟨?_, ?_, ?_, ?_, h.su, ?_⟩
    · simp only; omega
    · simp only; omega
    · simp only; omega
    · simp only [List.length_append, List.length_singleton]; omega
    · intro z hz
      simp only [List.mem_append, List.mem_singleton] at hz
      rcases hz with hz | rfl
      · exact h.sv z hz
      · exact ho
  · rw [e]
    refine ⟨?_, ?_, ?_, ?_, h.su, h.sv⟩
    · simp only; omega
    · simp only; omega
    · simp only; omega
    · simp only; omega
theorem Dr.Fine.draw {d : Dr} {k : Nat} {l : List OpT} (h : d.Fine k) (hl : ∀ s, smallO (pickO l s) = true) (b : Bool) : (d.draw l b).Fine (k + 1) := by
  unfold Dr.draw
  have ho := hl (lcg d.s)
  generalize lcg d.s = s at ho
  cases b
  · exact h.right ho s
  · exact h.left ho s
theorem pick_small {l : List OpT} (h : l.all smallO = true) (s : Nat) : smallO (pickO l s) = true := by
  unfold pickO
  rw [List.getD_eq_getElem?_getD]
  rcases e : l[s / 65536 % l.length]? with - | o
  · exact (by decide : smallO (noOp 0) = true)
  · exact List.all_eq_true.1 h o (List.mem_of_getElem? e)
set_option maxRecDepth 100000 in
theorem grove_weight : groveT.weight ≤ 100 := by decide
theorem drawN_fine {l : List OpT} (hl : ∀ s, smallO (pickO l s) = true) {s : Nat} : ∀ k, (drawN l s k).Fine k
  | 0 => ⟨grove_weight, grove_weight, (by simp [drawN]), (by simp [drawN]), (by simp [drawN]), (by simp [drawN])⟩
  | k + 1 => (drawN_fine hl k).draw hl _
theorem drawN_lt {l : List OpT} {s : Nat} (hs : s < 2147483648) : ∀ k, (drawN l s k).s < 2147483648
  | 0 => hs
  | k + 1 => by
    rw [drawN, draw_seed]
    exact lcg_lt _
theorem seedL_lt : ∀ i, seedL i < 2147483648
  | 0 => by decide
  | i + 1 => lcg_lt _
end Bow
/- W89: the law ListsCloses at inputs where the plain functions say that it holds. -/
namespace Bow
open Go Go.Proofs

theorem small_okL {l : List OpT} (h : ∀ o ∈ l, smallO o = true) : OkL l := fun o ho => ⟨small_ok (h o ho), by have := small_to (h o ho); omega⟩
theorem small_costs {l : List OpT} (h : ∀ o ∈ l, smallO o = true) (hl : l.length ≤ 40) : costs l ≤ 40 * 1400 := costs_le hl fun o ho => small_cost (h o ho)
set_option maxHeartbeats 4000000 in
set_option maxRecDepth 100000 in
theorem w_ListsCloses (t : Tree) (us vs : List OpT) (prior : Bool) (h : closesL t us vs prior = true) (ht : t.weight ≤ 1000) (hu : us.length ≤ 40) (hv : vs.length ≤ 40) (su : ∀ o ∈ us, smallO o = true) (sv : ∀ o ∈ vs, smallO o = true) :
    Pure Tryz.prog 27 [nodeV t, opsV us, opsV vs, .bool prior] (fun x => x = .bool true) := by
  have hw := w_works13
  have cu := small_costs su hu
  have cv := small_costs sv hv
  have c1 := w_refApplyAll t us (by omega) (by omega) (fun o ho => small_ok (su o ho))
  have c2 := w_refApplyAll t vs (by omega) (by omega) (fun o ho => small_ok (sv o ho))
  have c3 := w_listsBoth us vs prior (small_okL su) (small_okL sv) (by omega)
  have wx := AllR_weight t us
  have wy := AllR_weight t vs
  unfold closesL at h
  rcases hb : bringF prior 40 us vs with - | ⟨r1, r2, g⟩
  · rw [hb] at h
    cases h
  rw [hb] at h
  have hx : listsX prior us vs = (bareL r1, bareL r2, g) := by unfold listsX; rw [bringX_eq hb]
  rw [hx] at c3
  simp only [Bool.and_eq_true, decide_eq_true_eq] at h
  obtain ⟨h1, h2, h3, h4, h5, h6, h7, h8, h9, h10, h11, h12⟩ := h
  clear hb hx
  generalize bareL r1 = p at *
  generalize bareL r2 = q at *
  generalize AllR t us = x at *
  generalize AllR t vs = y at *
  obtain ⟨x1, x2, x3⟩ := x
  obtain ⟨y1, y2, y3⟩ := y
  simp only at h1 h2 h3 h10 h11 h12 wx wy
  have c4 := w_refApplyAll x1 q (by omega) (by omega) (ok_all h5)
  have c5 := w_refApplyAll y1 p (by omega) (by omega) (ok_all h4)
  have wu := AllR_weight x1 q
  have c6 := w_refSameT (AllR x1 q).1 (AllR y1 p).1 (by omega)
  rw [h12] at c6
  generalize AllR x1 q = u at *
  generalize AllR y1 p = v at *
  obtain ⟨u1, u2, u3⟩ := u
  obtain ⟨v1, v2, v3⟩ := v
  simp only at h10 h11 c6
  refine pure_wk (pure_fn 60 Tryz.func27 rfl rfl rfl fun B => ?_)
  show CallThen _ _ _ _ _ _
  refine call_pure (w_Weight t 200 (by decide)) rfl ?_
  rintro z ⟨w, rfl, w1, w2, w3⟩
  refine ⟨fun _ => go 60 ?_, fun _ => go 60 ?_⟩
  · show CallThen _ _ _ _ _ _
    refine call_pure hw rfl ?_
    rintro z rfl
    exact ⟨trivial, rfl, rfl, rfl, leaf_b rfl⟩
  show CallThen _ _ _ _ _ _
  refine call_pure (w_few us 6 (by decide)) rfl ?_
  rintro z ⟨b1, rfl, -⟩
  refine ⟨fun _ => go 60 ?_, fun _ => go 60 ?_⟩
  · show CallThen _ _ _ _ _ _
    refine call_pure hw rfl ?_
    rintro z rfl
    exact ⟨trivial, rfl, rfl, rfl, leaf_b rfl⟩
  show CallThen _ _ _ _ _ _
  refine call_pure (w_few vs 6 (by decide)) rfl ?_
  rintro z ⟨b2, rfl, -⟩
  refine ⟨fun _ => go 60 ?_, fun _ => go 60 ?_⟩
  · show CallThen _ _ _ _ _ _
    refine call_pure hw rfl ?_
    rintro z rfl
    exact ⟨trivial, rfl, rfl, rfl, leaf_b rfl⟩
  show CallThen _ _ _ _ _ _
  refine call_pure c1 rfl ?_
  rintro z rfl
  show CallThen _ _ _ _ _ _
  refine call_pure c2 rfl ?_
  rintro z rfl
  refine ⟨fun q => absurd h1 (ne_of' q), fun _ => go 60 ?_⟩
  refine ⟨fun q => absurd h2 (ne_of' q), fun _ => go 60 ?_⟩
  show CallThen _ _ _ _ _ _
  refine call_pure c3 rfl ?_
  rintro z rfl
  refine ⟨fun q => absurd (of_decide_eq_true q) (by rw [h3]; exact (show ¬ ((0 : Int) = 3) by decide)), fun _ => go 60 ?_⟩
  show CallThen _ _ _ _ _ _
  refine call_pure c4 rfl ?_
  rintro z rfl
  show CallThen _ _ _ _ _ _
  refine call_pure c5 rfl ?_
  rintro z rfl
  refine ⟨fun _ => go 60 ?_, fun q => absurd h3 (of_decide_eq_false q)⟩
  refine ⟨fun _ => go 60 ?_, fun q => absurd h10 (of_decide_eq_false q)⟩
  refine ⟨fun _ => go 60 ?_, fun q => absurd h11 (of_decide_eq_false q)⟩
  show CallThen _ _ _ _ _ _
  refine call_pure c6 rfl ?_
  rintro z rfl
  refine ⟨fun _ => go 60 ?_, fun q => (by cases q)⟩
  show CallThen _ _ _ _ _ _
  refine call_pure hw rfl ?_
  rintro z rfl
  exact ⟨trivial, rfl, rfl, rfl, leaf_b rfl⟩
end Bow
/- W91: the law ListsKnown, walked. -/
namespace Bow
open Go Go.Proofs

theorem at_pick {l : List OpT} (h : l ≠ []) (s : Nat) : 0 ≤ (((s : Int).tdiv 65536).tmod ((l.map opV).length : Int)) ∧ (l.map opV)[(((s : Int).tdiv 65536).tmod ((l.map opV).length : Int)).toNat]? = some (opV (pickO l s)) := by
  have hl : 0 < l.length := List.length_pos_iff.2 h
  have e : ((s : Int).tdiv 65536).tmod ((l.map opV).length : Int) = ((s / 65536 % l.length : Nat) : Int) := by rw [List.length_map]; rfl
  rw [e]
  have h1 : s / 65536 % l.length < l.length := Nat.mod_lt _ hl
  refine ⟨Int.natCast_nonneg _, ?_⟩
  rw [show (((s / 65536 % l.length : Nat) : Int)).toNat = s / 65536 % l.length from rfl, List.getElem?_map, List.getElem?_eq_getElem h1]
  unfold pickO
  rw [List.getD_eq_getElem?_getD, List.getElem?_eq_getElem h1]
  rfl
theorem in_quo (s : Nat) : inI ((((lcg s : Nat) : Int)).tdiv 65536) := by
  have h := lcg_lt s
  have e : (((lcg s : Nat) : Int)).tdiv 65536 = ((lcg s / 65536 : Nat) : Int) := rfl
  rw [e]
  generalize lcg s = n at h
  constructor <;> omega
theorem par1 (i : Nat) : decide ((i : Int).tmod 2 = 0) = decide (i % 2 = 0) := by
  have e : (i : Int).tmod 2 = ((i % 2 : Nat) : Int) := rfl
  rw [e]
  exact decide_eq_decide.2 ⟨fun h => by omega, fun h => by omega⟩
theorem draw_even {l : List OpT} {s k : Nat} (h : k % 2 = 0) : drawN l s (k + 1) = (drawN l s k).left (pickO l (lcg (drawN l s k).s)) (lcg (drawN l s k).s) := by
  rw [drawN, Dr.draw, decide_eq_true h]
  rfl
theorem draw_odd {l : List OpT} {s k : Nat} (h : ¬ k % 2 = 0) : drawN l s (k + 1) = (drawN l s k).right (pickO l (lcg (drawN l s k).s)) (lcg (drawN l s k).s) := by
  rw [drawN, Dr.draw, decide_eq_false h]
  rfl
theorem much_err {prior : Bool} {xs ys : List OpT} (h : muchP xs ys = true) : listsX prior xs ys = ([], [], 3) := by
  have : bringX prior xs ys = ([], [], 3) := bringX_eq (n := 1) (by rw [bringF_succ]; unfold bringS; rw [h]; rfl)
  unfold listsX
  rw [this]
  rfl
theorem none_ok {prior : Bool} {ys : List OpT} (h : muchP [] ys = false) : listsX prior [] ys = ([], bareL ys, 0) := by
  have : bringX prior [] ys = ([], ys, 0) := bringX_eq (n := 1) (by rw [bringF_succ]; unfold bringS; rw [h]; rfl)
  unfold listsX
  rw [this]
  rfl
theorem one_err : (listsX true [noOp 0] [noOp 5]).2.2 = 80 := by
  have : bringX true [noOp 0] [noOp 5] = bothX (noOp 0) (noOp 5) true := bringX_eq (n := 1) rfl
  unfold listsX
  rw [this]
  decide
theorem zero_ok (k : Int) : (noOp k).Ok := ⟨⟨Nat.zero_le _, Nat.zero_le _, Nat.zero_le _, Nat.zero_le _, Nat.zero_le _, Nat.zero_le _⟩, Nat.zero_le _⟩
theorem zero_okL (n : Nat) (k : Int) : OkL (List.replicate n (noOp k)) := fun o ho => by
  rw [(List.mem_replicate.1 ho).2]
  exact ⟨zero_ok k, Nat.zero_le _⟩
theorem wkE_rep {sz : Nat} {x y : V} (h : WkL x.cells y.cells ∧ okE sz y) : ∀ n, WkE sz (List.replicate n x) (List.replicate n y)
  | 0 => trivial
  | n + 1 => ⟨h, wkE_rep h n⟩
theorem wk_zeros (n : Nat) : Wk (.sl 11 (List.replicate n (.agg [.int .u8 0, .nilsl, .int .i64 0, .nilsl, .int .u64 0, .ff, .str [], .str [], .str [], .ff, .nilsl]))) (opsV (List.replicate n (noOp 0))) := by
  unfold opsV
  rw [List.map_replicate]
  exact Wk.sl (wkE_rep (sz := 11) (x := .agg [.int .u8 0, .nilsl, .int .i64 0, .nilsl, .int .u64 0, .ff, .str [], .str [], .str [], .ff, .nilsl]) (y := opV (noOp 0)) ⟨⟨.refl _, Wk.nil 1, .refl _, Wk.nil 1, .refl _, Wk.ff, .refl _, .refl _, .refl _, Wk.ff, Wk.nil 3, trivial⟩, rfl, rfl⟩ n)

theorem wk_zero1 (k : Int) (s : List UInt8) : WkE 11 [.agg [.int .u8 k, .nilsl, .int .i64 0, .nilsl, .int .u64 0, .ff, .str s, .str [], .str [], .ff, .nilsl]] ([{ noOp k with label := s }].map opV) :=
  ⟨⟨⟨.refl _, Wk.nil 1, .refl _, Wk.nil 1, .refl _, Wk.ff, .refl _, .refl _, .refl _, Wk.ff, Wk.nil 3, trivial⟩, rfl, rfl⟩, trivial⟩

set_option maxHeartbeats 8000000 in
set_option maxRecDepth 100000 in
theorem w_ListsKnown : Pure Tryz.prog 5 [] (fun x => x = .bool true) := by
  have hw := w_works13
  have cP := w_Paths groveT (by decide)
  have cM := w_ManyT (pathsT groveT) 1 (by decide) (by decide)
  have hsm := lists_small
  have hln := lists_len
  have hcl := lists_close
  have e0 : listOps = manyO (pathsT groveT) 1 (pathsT groveT).length := rfl
  rw [← e0] at cM
  clear e0
  generalize listOps = all at *
  have hok : ∀ s, smallO (pickO all s) = true := fun s => pick_small hsm s
  have hne : all ≠ [] := fun h => by rw [h] at hln; cases hln
  have hnz : (((all.map opV).length : Nat) : Int) ≠ 0 := by rw [List.length_map]; omega
  have hlc : ∀ i : Nat, i < 400 → Pure Tryz.prog 27 [nodeV groveT, opsV (drawN all (seedL i) 6).us, opsV (drawN all (seedL i) 6).vs, .bool (decide ((i : Int).tmod 2 = 0))] (fun x => x = .bool true) := fun i hi => by
    have f := drawN_fine hok (s := seedL i) 6
    rw [par1]
    exact w_ListsCloses groveT _ _ _ (hcl i hi) (by decide) (by have := f.us; omega) (by have := f.vs; omega) f.su f.sv
  clear hcl hsm
  refine pure_wk (pure_fn 60 Tryz.func5 rfl rfl rfl fun B => ?_)
  show CallThen _ _ _ _ _ _
  refine call_pure w_Grove rfl ?_
  rintro x rfl
  show CallThen _ _ _ _ _ _
  refine call_pure cP rfl ?_
  rintro x rfl
  show CallThen _ _ _ _ _ _
  refine call_pure cM rfl ?_
  rintro x rfl
  show Goes _ _ _ _
  refine goes_iter (ι := Nat) (fun i => i ≤ 400) (fun i => 400 - i) (fun i => [(5, .int .i64 i), (4, .int .i64 (seedL i)), (3, opsV all), (1, .ptr (.loc 0) 0)]) (fun i => [some (.box (nodeV groveT).cells)]) 0 60 (fun _ => rfl) (fun _ => rfl) ⟨Nat.zero_le _, ⟨⟨rfl, rfl⟩, ⟨rfl, rfl⟩, ⟨rfl, rfl⟩, ⟨rfl, rfl⟩, trivial⟩, ⟨⟨rfl, rfl⟩, trivial⟩⟩ ?_
  rintro i k1 next
  refine ⟨fun hlt => go 60 ?_, fun hge => go 60 ?_⟩
  · have hi : i < 400 := by have := of_decide_eq_true hlt; omega
    have c1 := hlc i hi
    show Goes _ _ _ _
    refine goes_draw 60 ?_
    refine ⟨by kernel_rfl, ?_⟩
    refine ⟨by kernel_rfl, ?_⟩
    refine ⟨by kernel_rfl, ?_⟩
    show Goes _ _ _ _
    refine goes_own 6 11 rfl ?_
    refine goes_own 7 11 rfl ?_
    refine goes_iter (ι := Nat × Nat × Nat) (fun j => j.1 ≤ 6) (fun j => 6 - j.1)
      (fun j => [(10, .int .i64 j.1), (9, .ptr (.loc 2) 0), (8, .ptr (.loc 1) 0), (7, .osl (.loc 4) j.2.2 0 ((drawN all (seedL i) j.1).vs.map opV).length), (6, .osl (.loc 3) j.2.1 0 ((drawN all (seedL i) j.1).us.map opV).length), (5, .int .i64 i), (4, .int .i64 (drawN all (seedL i) j.1).s), (3, opsV all), (1, .ptr (.loc 0) 0)])
      (fun j => [some (.box (nodeV groveT).cells), some (.box (nodeV (drawN all (seedL i) j.1).x).cells), some (.box (nodeV (drawN all (seedL i) j.1).y).cells), some (.vec j.2.1 11 ((drawN all (seedL i) j.1).us.map opV)), some (.vec j.2.2 11 ((drawN all (seedL i) j.1).vs.map opV))]) (0, 0, 0) 60 (fun _ => rfl) (fun _ => rfl)
      ⟨Nat.zero_le _, ⟨⟨rfl, rfl⟩, ⟨rfl, rfl⟩, ⟨rfl, rfl⟩, ⟨rfl, rfl⟩, ⟨rfl, rfl⟩, ⟨rfl, rfl⟩, ⟨rfl, rfl⟩, ⟨rfl, rfl⟩, ⟨rfl, rfl⟩, trivial⟩, ⟨⟨rfl, rfl⟩, ⟨rfl, rfl⟩, ⟨rfl, rfl⟩, ⟨rfl, rfl⟩, ⟨rfl, rfl⟩, trivial⟩⟩ ?_
    rintro ⟨k, gu, gv⟩ k2 next1
    simp only at k2
    have hd := drawN_fine hok (s := seedL i) k
    have hs := drawN_lt (l := all) (seedL_lt i) k
    have he := draw_even (l := all) (s := seedL i) (k := k)
    have ho := draw_odd (l := all) (s := seedL i) (k := k)
    have h6 : k = 6 → drawN all (seedL i) 6 = drawN all (seedL i) k := fun h => by rw [h]
    generalize drawN all (seedL i) k = d at hd hs he ho h6 ⊢
    obtain ⟨X, Y, us, vs, s⟩ := d
    have hx := hd.x
    have hy := hd.y
    have hu := hd.us
    have hv := hd.vs
    simp only at hs he ho hx hy hu hv
    refine ⟨fun hlt => go 60 ?_, fun hge => ?_⟩
    · have hk : k < 6 := by have := of_decide_eq_true hlt; omega
      refine ⟨by constructor <;> (simp only; omega), by constructor <;> (simp only; omega), by decide, ?_⟩
      have hp := at_pick hne (lcg s)
      refine ⟨by decide, in_quo s, hnz, hp.1, _, hp.2, ?_⟩
      refine ⟨by decide, ?_⟩
      have hso := hok (lcg s)
      have oko := small_ok hso
      refine ⟨fun q => go 60 ?_, fun q => go 60 ?_⟩
      · have q : k % 2 = 0 := of_decide_eq_true ((par1 k).symm.trans q)
        have c2 := w_refApply X (pickO all (lcg s)) (by omega) oko
        have he := he q
        unfold Dr.left at he
        simp only at he
        have fin := drawN_fine hok (s := seedL i) (k + 1)
        obtain ⟨⟨X2, e⟩, hr⟩ : ∃ r, applyR X (pickO all (lcg s)) = r := ⟨_, rfl⟩
        rw [hr] at c2 he
        simp only at he
        show CallThen _ _ _ _ _ _
        refine call_pure c2 rfl ?_
        rintro z rfl
        refine ⟨fun q2 => go 60 ?_, fun q2 => go 60 ?_⟩
        · have q2 : e = 0 := of_decide_eq_true q2
          rw [decide_eq_true q2] at he
          simp only [cond_true] at he
          have next2 := next1 (k + 1, bump gu, gv)
          simp only [he] at next2
          refine ⟨⟨rfl, trivial⟩, rfl, rfl, rfl, rfl, room_of2 (by simp only [List.length_map, List.length_cons, List.length_nil]; omega) (by decide), ?_⟩
          refine ⟨by constructor <;> omega, ?_⟩
          show Goes _ _ _ _
          refine next2 _ _ ⟨by omega, by omega, ⟨⟨rfl, rfl⟩, ⟨rfl, rfl⟩, ⟨rfl, rfl⟩, ⟨rfl, rfl⟩, ⟨?_, rfl⟩, ⟨rfl, rfl⟩, ⟨rfl, rfl⟩, ⟨rfl, rfl⟩, ⟨rfl, rfl⟩, trivial⟩, ⟨⟨rfl, rfl⟩, ⟨rfl, rfl⟩, ⟨rfl, rfl⟩, ⟨?_, rfl⟩, ⟨rfl, rfl⟩, trivial⟩⟩
          · exact congrArg (V.osl (.loc 3) (bump gu) 0) (by simp)
          · exact congrArg (fun z => some (HObj.vec (bump gu) 11 z)) (by rw [List.map_append]; rfl)
        · have q2 : ¬ e = 0 := of_decide_eq_false q2
          rw [decide_eq_false q2] at he
          simp only [cond_false] at he
          have next2 := next1 (k + 1, gu, gv)
          simp only [he] at next2
          refine ⟨by constructor <;> omega, ?_⟩
          show Goes _ _ _ _
          exact next2 _ _ ⟨by omega, by omega, ⟨⟨rfl, rfl⟩, ⟨rfl, rfl⟩, ⟨rfl, rfl⟩, ⟨rfl, rfl⟩, ⟨rfl, rfl⟩, ⟨rfl, rfl⟩, ⟨rfl, rfl⟩, ⟨rfl, rfl⟩, ⟨rfl, rfl⟩, trivial⟩, ⟨⟨rfl, rfl⟩, ⟨rfl, rfl⟩, ⟨rfl, rfl⟩, ⟨rfl, rfl⟩, ⟨rfl, rfl⟩, trivial⟩⟩
      · have q : ¬ k % 2 = 0 := of_decide_eq_false ((par1 k).symm.trans q)
        have c2 := w_refApply Y (pickO all (lcg s)) (by omega) oko
        have he := ho q
        unfold Dr.right at he
        simp only at he
        obtain ⟨⟨Y2, e⟩, hr⟩ : ∃ r, applyR Y (pickO all (lcg s)) = r := ⟨_, rfl⟩
        rw [hr] at c2 he
        simp only at he
        show CallThen _ _ _ _ _ _
        refine call_pure c2 rfl ?_
        rintro z rfl
        refine ⟨fun q2 => go 60 ?_, fun q2 => go 60 ?_⟩
        · have q2 : e = 0 := of_decide_eq_true q2
          rw [decide_eq_true q2] at he
          simp only [cond_true] at he
          have next2 := next1 (k + 1, gu, bump gv)
          simp only [he] at next2
          refine ⟨⟨rfl, trivial⟩, rfl, rfl, rfl, rfl, room_of2 (by simp only [List.length_map, List.length_cons, List.length_nil]; omega) (by decide), ?_⟩
          refine ⟨by constructor <;> omega, ?_⟩
          show Goes _ _ _ _
          refine next2 _ _ ⟨by omega, by omega, ⟨⟨rfl, rfl⟩, ⟨rfl, rfl⟩, ⟨rfl, rfl⟩, ⟨?_, rfl⟩, ⟨rfl, rfl⟩, ⟨rfl, rfl⟩, ⟨rfl, rfl⟩, ⟨rfl, rfl⟩, ⟨rfl, rfl⟩, trivial⟩, ⟨⟨rfl, rfl⟩, ⟨rfl, rfl⟩, ⟨rfl, rfl⟩, ⟨rfl, rfl⟩, ⟨?_, rfl⟩, trivial⟩⟩
          · exact congrArg (V.osl (.loc 4) (bump gv) 0) (by simp)
          · exact congrArg (fun z => some (HObj.vec (bump gv) 11 z)) (by rw [List.map_append]; rfl)
        · have q2 : ¬ e = 0 := of_decide_eq_false q2
          rw [decide_eq_false q2] at he
          simp only [cond_false] at he
          have next2 := next1 (k + 1, gu, gv)
          simp only [he] at next2
          refine ⟨by constructor <;> omega, ?_⟩
          show Goes _ _ _ _
          exact next2 _ _ ⟨by omega, by omega, ⟨⟨rfl, rfl⟩, ⟨rfl, rfl⟩, ⟨rfl, rfl⟩, ⟨rfl, rfl⟩, ⟨rfl, rfl⟩, ⟨rfl, rfl⟩, ⟨rfl, rfl⟩, ⟨rfl, rfl⟩, ⟨rfl, rfl⟩, trivial⟩, ⟨⟨rfl, rfl⟩, ⟨rfl, rfl⟩, ⟨rfl, rfl⟩, ⟨rfl, rfl⟩, ⟨rfl, rfl⟩, trivial⟩⟩
    · have hk : k = 6 := by have := of_decide_eq_false hge; omega
      have h6 := h6 hk
      have hs6 : seedL (i + 1) = s := by
        have := drawN_seed all (seedL i)
        rw [h6] at this
        exact this.symm
      rw [h6] at c1
      simp only at c1
      clear next1 he ho
      have l1 : us.length ≤ maxLen := Nat.le_trans hu (by rw [hk]; decide)
      have l2 : vs.length ≤ maxLen := Nat.le_trans hv (by rw [hk]; decide)
      have c2 := w_ListsBoth us vs (decide ((i : Int).tmod 2 = 0)) l1 l2
      have c3 := w_ListsThrough us [vs, [], us] (decide ((i : Int).tmod 2 = 0)) l1 (show 3 ≤ maxLen by decide)
      have c4 := w_ListsJoined us vs vs (decide ((i : Int).tmod 2 = 0)) l1 l2 l2
      refine goes_fzSlot 6 3 rfl rfl rfl ?_
      refine goes_fzSlot 7 4 rfl rfl rfl ?_
      refine go 60 ?_
      refine ⟨by decide, ?_⟩
      show CallThen _ _ _ _ _ _
      refine call_pure c1 rfl ?_
      rintro z rfl
      refine ⟨fun q => (by cases q), fun _ => go 60 ?_⟩
      refine ⟨by decide, ?_⟩
      refine ⟨fun _ => go 60 ?_, fun _ => go 60 ?_⟩
      · refine ⟨by decide, ?_⟩
        show CallThen _ _ _ _ _ _
        refine call_pure c2 rfl ?_
        rintro z rfl
        refine ⟨fun q => (by cases q), fun _ => go 60 ?_⟩
        refine ⟨⟨rfl, rfl, rfl, trivial⟩, by decide, ?_⟩
        show CallThen _ _ _ _ _ _
        refine call_pure_frz ?_
        refine ⟨rfl, rfl, _, pure_args c3 ⟨.refl _, ?_, .refl _, trivial⟩ rfl rfl, rfl, ?_⟩
        · exact Wk.sl ⟨⟨⟨.refl _, trivial⟩, rfl, rfl⟩, ⟨⟨Wk.nil 11, trivial⟩, rfl, rfl⟩, ⟨⟨.refl _, trivial⟩, rfl, rfl⟩, trivial⟩
        rintro z rfl
        refine ⟨fun q => (by cases q), fun _ => go 60 ?_⟩
        refine ⟨by decide, ?_⟩
        show CallThen _ _ _ _ _ _
        refine call_pure c4 rfl ?_
        rintro z rfl
        refine ⟨fun q => (by cases q), fun _ => go 60 ?_⟩
        refine ⟨by constructor <;> omega, ?_⟩
        show Goes _ _ _ _
        exact next (i + 1) _ _ ⟨hi, by omega, ⟨⟨rfl, rfl⟩, ⟨congrArg (fun n : Nat => V.int .i64 (n : Int)) hs6.symm, rfl⟩, ⟨rfl, rfl⟩, ⟨rfl, rfl⟩, trivial⟩, ⟨⟨rfl, rfl⟩, trivial⟩⟩
      · refine ⟨by constructor <;> omega, ?_⟩
        show Goes _ _ _ _
        exact next (i + 1) _ _ ⟨hi, by omega, ⟨⟨rfl, rfl⟩, ⟨congrArg (fun n : Nat => V.int .i64 (n : Int)) hs6.symm, rfl⟩, ⟨rfl, rfl⟩, ⟨rfl, rfl⟩, trivial⟩, ⟨⟨rfl, rfl⟩, trivial⟩⟩
  · clear next
    have m1 : muchP (List.replicate 4097 (noOp 0)) [] = true := by unfold muchP; rw [List.length_replicate]; rfl
    have m2 : muchP [] (List.replicate 4096 (noOp 0)) = false := by unfold muchP; rw [List.length_replicate]; rfl
    have b1 := w_listsBoth (List.replicate 4097 (noOp 0)) [] true (zero_okL _ _) (fun o h => by cases h) (by rw [List.length_replicate]; decide)
    have b2 := w_listsBoth [] (List.replicate 4096 (noOp 0)) true (fun o h => by cases h) (zero_okL _ _) (by rw [List.length_replicate]; decide)
    have b3 := w_listsBoth [noOp 0] [noOp 5] true (zero_okL 1 _) (zero_okL 1 _) (by decide)
    rw [much_err m1] at b1
    rw [none_ok m2] at b2
    have e3 := one_err
    obtain ⟨⟨r1, r2, r3⟩, hr⟩ : ∃ r, listsX true [noOp 0] [noOp 5] = r := ⟨_, rfl⟩
    rw [hr] at b3 e3
    simp only at e3
    subst e3
    clear hr
    have s1 := w_ListsSame [{ noOp 2 with label := [120] }] [noOp 2] (show 1 ≤ maxLen by decide) (show 1 ≤ maxLen by decide)
    have s2 := w_ListsSame [] [noOp 0] (Nat.zero_le _) (show 1 ≤ maxLen by decide)
    show Goes _ _ _ _
    refine goes_make 60 4097 rfl rfl rfl rfl rfl rfl rfl rfl rfl (by decide) ?_
    show CallThen _ _ _ _ _ _
    refine call_pure_frz ?_
    refine ⟨rfl, List.length_replicate.symm, _, pure_args b1 ⟨wk_zeros 4097, Wk.nil 11, Wk.tt, trivial⟩ rfl rfl, rfl, ?_⟩
    rintro z rfl
    show Goes _ _ _ _
    refine goes_make 60 4096 rfl rfl rfl rfl rfl rfl rfl rfl rfl (by decide) ?_
    show CallThen _ _ _ _ _ _
    refine call_pure_frz ?_
    refine ⟨rfl, List.length_replicate.symm, _, pure_args b2 ⟨Wk.nil 11, wk_zeros 4096, Wk.tt, trivial⟩ rfl rfl, rfl, ?_⟩
    rintro z rfl
    refine ⟨⟨rfl, trivial⟩, ⟨rfl, trivial⟩, ?_⟩
    show CallThen _ _ _ _ _ _
    refine call_pure_frz ?_
    refine ⟨rfl, rfl, rfl, rfl, _, pure_args b3 ⟨Wk.sl (wk_zero1 0 []), Wk.sl (wk_zero1 5 []), Wk.tt, trivial⟩ rfl rfl, rfl, ?_⟩
    rintro z rfl
    refine ⟨fun _ => go 60 ?_, fun q => absurd q (by decide)⟩
    refine ⟨fun _ => go 60 ?_, fun q => absurd q (by decide)⟩
    refine ⟨fun _ => go 60 ?_, fun q => absurd q (by simp)⟩
    refine ⟨⟨rfl, trivial⟩, ⟨rfl, trivial⟩, ?_⟩
    show CallThen _ _ _ _ _ _
    refine call_pure_frz ?_
    refine ⟨rfl, rfl, rfl, rfl, _, pure_args s1 ⟨Wk.sl (wk_zero1 2 [120]), Wk.sl (wk_zero1 2 []), trivial⟩ rfl rfl, rfl, ?_⟩
    rintro z rfl
    refine ⟨fun _ => go 60 ?_, fun q => (by cases q)⟩
    refine ⟨⟨rfl, trivial⟩, ?_⟩
    show CallThen _ _ _ _ _ _
    refine call_pure_frz ?_
    refine ⟨rfl, rfl, _, pure_args s2 ⟨Wk.nil 11, Wk.sl (wk_zero1 0 []), trivial⟩ rfl rfl, rfl, ?_⟩
    rintro z rfl
    refine ⟨fun _ => go 60 ?_, fun q => (by cases q)⟩
    show CallThen _ _ _ _ _ _
    refine call_pure hw rfl ?_
    rintro z rfl
    exact ⟨trivial, rfl, rfl, rfl, leaf_b rfl⟩
end Bow
/- TD1: what is read as data at the program's types. -/
namespace Bow
open Go Go.Proofs

end Bow
/- TD2: operations that are read as data. -/
namespace Bow
open Go Go.Proofs

end Bow
