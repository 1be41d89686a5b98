/- The library, part 7: W95, W96, TD1, TD2. -/
import Derived.Test.YthaigpiepfdaeaaGreatMe
import Derived.Test.YthaigpiepfdaeaaGreatMf
import Derived.Test.YthaigpiepfdaeaaGreatMd
import Derived.Test.YthaigpiepfdaeaaGreatRows
import Derived.ChangeShapes
/- W95: effects.Corner; what stands of deletes and labels; the chapter's examples; the law EffectsFind. -/
namespace Bow
open Go Go.Proofs

def cornerV (r : Tree × Int) : V := .tup [nodeV r.1, .int .i64 r.2]
set_option maxHeartbeats 4000000 in
set_option maxRecDepth 100000 in
theorem w_Corner (t : Tree) (a b : OpT) (prior : Bool) (ht : t.weight ≤ 100000) (ha : a.Ok) (hb : b.Ok) (hto : a.to.length ≤ 1000 ∧ b.to.length ≤ 1000) (hc : (applyR t a).1.weight + costs (bothX a b prior).2.1 ≤ 400000) (hl : (bothX a b prior).2.1.length ≤ 1000000) (hok : ∀ o ∈ (bothX a b prior).2.1, o.Ok) :
    Pure Tryz.prog 38 [nodeV t, opV a, opV b, .bool prior] (fun x => x = cornerV (cornerT t a b prior)) := by
  have c1 := w_Apply t a (by omega) ha
  have c2 := w_Valid t b (by omega) hb
  have c3 := w_BothX a b prior ha hb hto
  have c4 := w_ApplyAll (applyR t a).1 (bothX a b prior).2.1 hc hl hok
  unfold cornerT
  generalize applyR t a = m at c1 c4 hc
  generalize bothX a b prior = r at c3 c4 hc hl hok
  generalize ValidE t b = v at c2
  obtain ⟨m1, m2⟩ := m
  obtain ⟨r1, r2, r3⟩ := r
  simp only at c4
  obtain ⟨u, hu⟩ : ∃ u, AllR m1 r2 = u := ⟨_, rfl⟩
  rw [hu] at c4
  obtain ⟨u1, u2, u3⟩ := u
  clear hc hl hok
  simp only
  refine pure_wk (pure_fn 60 Tryz.func38 rfl rfl rfl fun B => ?_)
  show CallThen _ _ _ _ _ _
  refine call_pure c1 rfl ?_
  rintro z rfl
  refine ⟨fun q => go 60 ?_, fun q => go 60 ?_⟩
  · have q : m2 = 0 := of_decide_eq_true q
    rw [if_neg (show ¬ m2 ≠ 0 from fun h => h q)]
    show CallThen _ _ _ _ _ _
    refine call_pure c2 rfl ?_
    rintro z rfl
    refine ⟨fun q1 => go 60 ?_, fun q1 => go 60 ?_⟩
    · have q1 : v ≠ 0 := ne_of' q1
      rw [if_pos q1]
      refine ⟨trivial, rfl, rfl, rfl, cornerV (zeroT0, v), ?_, rfl, rfl⟩
      exact Wk.tup ⟨wk_zeroC, .refl _, trivial⟩
    have q1 : v = 0 := eq_of' q1
    rw [if_neg (show ¬ v ≠ 0 from fun h => h q1)]
    show CallThen _ _ _ _ _ _
    refine call_pure c3 rfl ?_
    rintro z rfl
    refine ⟨fun q2 => go 60 ?_, fun q2 => go 60 ?_⟩
    · have q2 : r3 ≠ 0 := ne_of' q2
      rw [if_pos q2]
      refine ⟨trivial, rfl, rfl, rfl, cornerV (zeroT0, r3), ?_, rfl, rfl⟩
      exact Wk.tup ⟨wk_zeroC, .refl _, trivial⟩
    have q2 : r3 = 0 := eq_of' q2
    rw [if_neg (show ¬ r3 ≠ 0 from fun h => h q2)]
    show CallThen _ _ _ _ _ _
    refine call_pure c4 rfl ?_
    rintro z rfl
    exact ⟨trivial, rfl, rfl, rfl, cornerV (u1, u3), .refl _, rfl, by rw [hu]⟩
  · have q : m2 ≠ 0 := of_decide_eq_false q
    rw [if_pos q]
    refine ⟨fun _ => go 60 ?_, fun q1 => absurd (eq_of' q1) q⟩
    refine ⟨trivial, rfl, rfl, rfl, cornerV (zeroT0, m2), ?_, rfl, rfl⟩
    exact Wk.tup ⟨wk_zeroC, .refl _, trivial⟩

set_option maxRecDepth 100000 in
theorem w_cut (b : Bes) (q : List Int) (hp : b.p.path.length ≤ 1000000) : Pure Tryz.prog 209 [besV b, pathV q] (fun x => x = .bool (cutB b.p q)) := by
  have c1 := w_pathWithin b.p.path q hp
  refine pure_wk (pure_fn 60 Tryz.func209 rfl rfl rfl fun B => ?_)
  refine ⟨fun g => go 60 ?_, fun g => go 60 ?_⟩
  · show CallThen _ _ _ _ _ _
    refine call_pure c1 rfl ?_
    rintro z rfl
    refine ⟨trivial, rfl, rfl, rfl, leaf_b ?_⟩
    unfold cutB
    rw [g]
    rfl
  · refine ⟨trivial, rfl, rfl, rfl, leaf_ff ?_⟩
    unfold cutB
    rw [g]
    rfl
set_option maxRecDepth 100000 in
theorem w_lost (b : Bes) (hp : b.p.path.length ≤ 1000000) : Pure Tryz.prog 210 [besV b] (fun x => x = .bool (lostB b)) := by
  have c1 := w_pathSame b.p.path b.o.path hp
  refine pure_wk (pure_fn 60 Tryz.func210 rfl rfl rfl fun B => ?_)
  refine ⟨fun g => go 60 ?_, fun g => go 60 ?_⟩
  · refine ⟨fun g2 => go 60 ?_, fun g2 => go 60 ?_⟩
    · show CallThen _ _ _ _ _ _
      refine call_pure c1 rfl ?_
      rintro z rfl
      refine ⟨trivial, rfl, rfl, rfl, leaf_b ?_⟩
      unfold lostB
      rw [g, g2]
      rfl
    · refine ⟨trivial, rfl, rfl, rfl, leaf_ff ?_⟩
      unfold lostB
      rw [g, g2]
      rfl
  · refine ⟨trivial, rfl, rfl, rfl, leaf_ff ?_⟩
    unfold lostB
    rw [g]
    rfl

theorem rfold_any {α : Type} (f : α → Bool) : ∀ l : List α, rfold (fun (_ : Unit) a => ((), if f a = true then some Code.ret else none)) () l = ((), if l.all (fun a => !f a) = true then none else some .ret)
  | [] => rfl
  | a :: l => by
    rw [rfold, List.all_cons]
    cases h : f a with
    | true => rfl
    | false => exact rfold_any f l

set_option maxHeartbeats 2000000 in
set_option maxRecDepth 100000 in
theorem w_besDrop (b : Bes) (h1 : b.x.size ≤ 1000000000) (h2 : b.c.size ≤ 1000000000) : Pure Tryz.prog 176 [besV b] (fun x => x = .bool (dropB b)) := by
  refine pure_wk (pure_fn 60 Tryz.func176 rfl rfl rfl fun B => ?_)
  show CallThen _ _ _ _ _ _
  refine call_pure (w_kin b.x 0) rfl ?_
  rintro x rfl
  show Goes _ _ _ _
  refine goes_rangeM 60 2 (fun _ : Unit => [some (.box (besV b).cells), some (.box [.ff])]) (fun _ a => ((), if (findR b.c a.1.id).2.2 = true then some .ret else none)) kinV (fun _ _ => True) () (b.x.kin 0) rfl rfl rfl (w_kin1 b.x 0 h1) rfl (fun _ => rfl) (fun _ => rfl) (fun _ => rfl) rfl (fun _ => rfl) (fun _ _ h => by cases h) (fun _ => rfl) rfl trivial ?_ ?_
  · rintro ⟨⟩ a asg -
    have cf := w_Find b.c a.1.id h2
    generalize findR b.c a.1.id = r at cf ⊢
    obtain ⟨r1, r2, r3⟩ := r
    refine ⟨fun _ => trivial, fun imps B r l h1 h2 => ?_⟩
    cases r3
    · show Goes _ _ _ _
      refine goes_beginRound 60 rfl h2 rfl ?_
      show CallThen _ _ _ _ _ _
      refine call_pure cf rfl ?_
      rintro z rfl
      refine ⟨fun q => (by cases q), fun _ => go 60 ?_⟩
      exact ⟨rfl, rfl, trivial, ⟨⟨rfl, rfl⟩, ⟨rfl, rfl⟩, ⟨rfl, rfl⟩, ⟨rfl, rfl⟩, trivial⟩⟩
    · show Goes _ _ _ _
      refine goes_beginRound 60 rfl h2 rfl ?_
      show CallThen _ _ _ _ _ _
      refine call_pure cf rfl ?_
      rintro z rfl
      refine ⟨fun _ => go 60 ?_, fun q => (by cases q)⟩
      exact ⟨rfl, rfl, trivial, ⟨⟨rfl, rfl⟩, ⟨rfl, rfl⟩, ⟨rfl, rfl⟩, ⟨rfl, rfl⟩, trivial⟩⟩
  · rw [rfold_any]
    have hd : dropB b = (b.x.kin 0).all fun y => !(findR b.c y.1.id).2.2 := rfl
    rw [← hd]
    cases dropB b
    · exact ⟨trivial, rfl, rfl, rfl, leaf_ff rfl⟩
    · exact ⟨trivial, rfl, rfl, rfl, leaf_tt rfl⟩

set_option maxHeartbeats 2000000 in
set_option maxRecDepth 100000 in
theorem w_setL (b : Bes) (hk : b.o.kind = 5) (hp : b.p.path.length ≤ 1000000) (h2 : b.c.size ≤ 1000000000) : Pure Tryz.prog 179 [besV b] (fun x => x = .bool (labelB b)) := by
  have c1 := w_cut b b.o.path hp
  have c2 := w_lost b hp
  have c3 := w_Find b.c b.x.id h2
  have n4 : decide (b.o.kind = 4) = false := decide_eq_false (by rw [hk]; decide)
  unfold labelB
  generalize findR b.c b.x.id = r at c3
  obtain ⟨r1, r2, r3⟩ := r
  generalize cutB b.p b.o.path = g1 at c1
  generalize lostB b = g2 at c2
  refine pure_wk (pure_fn 60 Tryz.func179 rfl rfl rfl fun B => ?_)
  show CallThen _ _ _ _ _ _
  refine call_pure c1 rfl ?_
  rintro z rfl
  cases g1
  case true =>
    refine ⟨fun _ => go 60 ?_, fun q => (by cases q)⟩
    exact ⟨trivial, rfl, rfl, rfl, leaf_tt rfl⟩
  refine ⟨fun q => (by cases q), fun _ => go 60 ?_⟩
  show CallThen _ _ _ _ _ _
  refine call_pure c2 rfl ?_
  rintro z rfl
  cases g2
  case true =>
    refine ⟨fun _ => go 60 ?_, fun q => (by cases q)⟩
    refine ⟨fun _ => go 60 ?_, fun q => absurd q (by rw [n4]; decide)⟩
    exact ⟨trivial, rfl, rfl, rfl, leaf_tt rfl⟩
  refine ⟨fun q => (by cases q), fun _ => go 60 ?_⟩
  show CallThen _ _ _ _ _ _
  refine call_pure c3 rfl ?_
  rintro z rfl
  cases r3
  · refine ⟨fun _ => go 60 ?_, fun q => (by cases q)⟩
    refine ⟨fun q => (by cases q), fun _ => go 60 ?_⟩
    exact ⟨trivial, rfl, rfl, rfl, leaf_ff rfl⟩
  · refine ⟨fun q => (by cases q), fun _ => go 60 ?_⟩
    refine ⟨fun _ => go 60 ?_, fun q => absurd q (by rw [n4]; decide)⟩
    refine ⟨fun _ => go 60 ?_, fun q => (by cases q)⟩
    exact ⟨trivial, rfl, rfl, rfl, leaf_b rfl⟩

def wrongB (b : Bes) : Int := bif decide (b.o.kind = 2) then (bif dropB b then 0 else 3) else (bif labelB b then 0 else 5)
set_option maxRecDepth 100000 in
theorem w_wrong (b : Bes) (hk : b.o.kind = 2 ∨ b.o.kind = 5) (hp : b.p.path.length ≤ 1000000) (h1 : b.x.size ≤ 1000000000) (h2 : b.c.size ≤ 1000000000) : Pure Tryz.prog 141 [besV b] (fun x => x = .int .u8 (wrongB b)) := by
  have c1 := w_besDrop b h1 h2
  refine pure_fn 60 Tryz.func141 rfl rfl rfl fun B => ?_
  unfold wrongB
  rcases hk with hk | hk
  · rw [decide_eq_true hk]
    generalize dropB b = d at c1
    refine ⟨fun q => absurd (of_decide_eq_true q) (by rw [hk]; decide), fun _ => go 60 ?_⟩
    refine ⟨fun _ => go 60 ?_, fun q => absurd hk (of_decide_eq_false q)⟩
    show CallThen _ _ _ _ _ _
    refine call_pure c1 rfl ?_
    rintro z rfl
    cases d
    · refine ⟨fun q => (by cases q), fun _ => go 60 ?_⟩
      exact ⟨trivial, rfl, rfl, rfl, rfl⟩
    · refine ⟨fun _ => go 60 ?_, fun q => (by cases q)⟩
      exact ⟨trivial, rfl, rfl, rfl, rfl⟩
  · have c2 := w_setL b hk hp h2
    rw [decide_eq_false (p := b.o.kind = 2) (by rw [hk]; decide)]
    generalize labelB b = d at c2
    refine ⟨fun q => absurd (of_decide_eq_true q) (by rw [hk]; decide), fun _ => go 60 ?_⟩
    refine ⟨fun q => absurd (of_decide_eq_true q) (by rw [hk]; decide), fun _ => go 60 ?_⟩
    refine ⟨fun q => absurd (of_decide_eq_true q) (by rw [hk]; decide), fun _ => go 60 ?_⟩
    refine ⟨fun q => absurd (of_decide_eq_true q) (by rw [hk]; decide), fun _ => go 60 ?_⟩
    show CallThen _ _ _ _ _ _
    refine call_pure c2 rfl ?_
    rintro z rfl
    cases d
    · refine ⟨fun q => (by cases q), fun _ => go 60 ?_⟩
      exact ⟨trivial, rfl, rfl, rfl, rfl⟩
    · refine ⟨fun _ => go 60 ?_, fun q => (by cases q)⟩
      exact ⟨trivial, rfl, rfl, rfl, rfl⟩

/-! ### What stands -/
def nodeAt (t : Tree) (p : List Int) : Tree := (atT t p).getD zeroT0
theorem w_AtB (t : Tree) (p : List Int) (hp : p.length ≤ 1000000) : Pure Tryz.prog 54 [nodeV t, pathV p] (fun x => x = .tup [nodeV (nodeAt t p), .bool (atT t p).isSome]) := by
  refine pure_wk ((w_At t p hp).mono fun x hx => ⟨_, ?_, ?_, rfl⟩)
  · rw [hx]
    unfold nodeAt
    cases atT t p with
    | none => exact Wk.tup ⟨.refl _, Wk.ff, trivial⟩
    | some s => exact Wk.tup ⟨.refl _, Wk.tt, trivial⟩
  · rfl
def standsT (n c : Tree) (a b : OpT) (prior : Bool) : Int :=
  bif decide (ValidE n a = 0) && decide (ValidE n b = 0) then
    (bif decide (wrongB ⟨n, c, a, b, prior, nodeAt n a.path⟩ = 0) then wrongB ⟨n, c, b, a, !prior, nodeAt n b.path⟩ else wrongB ⟨n, c, a, b, prior, nodeAt n a.path⟩)
  else 1
theorem nodeAt_size (t : Tree) (p : List Int) : (nodeAt t p).size ≤ t.size := by
  unfold nodeAt
  cases h : atT t p with
  | none => exact size_pos t
  | some s => exact atT_size h
set_option maxHeartbeats 2000000 in
set_option maxRecDepth 100000 in
theorem w_Stands (n c : Tree) (a b : OpT) (prior : Bool) (hn : n.weight ≤ 1000000) (hs : n.size ≤ 1000000000) (hc : c.size ≤ 1000000000) (ha : a.Ok) (hb : b.Ok) (ka : a.kind = 2 ∨ a.kind = 5) (kb : b.kind = 2 ∨ b.kind = 5) :
    Pure Tryz.prog 95 [nodeV n, nodeV c, opV a, opV b, .bool prior] (fun x => x = .int .u8 (standsT n c a b prior)) := by
  have c1 := w_Valid n a hn ha
  have c2 := w_Valid n b hn hb
  have c3 := w_AtB n a.path ha.lt.path
  have c4 := w_AtB n b.path hb.lt.path
  have hx := nodeAt_size n a.path
  have hy := nodeAt_size n b.path
  have c5 := w_wrong ⟨n, c, a, b, prior, nodeAt n a.path⟩ ka hb.lt.path (by simp only; omega) hc
  have c6 := w_wrong ⟨n, c, b, a, !prior, nodeAt n b.path⟩ kb ha.lt.path (by simp only; omega) hc
  unfold standsT
  generalize nodeAt n a.path = X at c3 c5 ⊢
  generalize nodeAt n b.path = Y at c4 c6 ⊢
  generalize ValidE n a = va at c1
  generalize ValidE n b = vb at c2
  generalize wrongB ⟨n, c, a, b, prior, X⟩ = w1 at c5
  generalize wrongB ⟨n, c, b, a, !prior, Y⟩ = w2 at c6
  clear hx hy
  obtain ⟨R, hR⟩ : ∃ R : Int, (bif decide (va = 0) && decide (vb = 0) then (bif decide (w1 = 0) then w2 else w1) else 1) = R := ⟨_, rfl⟩
  rw [hR]
  refine pure_wk (pure_fn 60 Tryz.func95 rfl rfl rfl fun B => ?_)
  show CallThen _ _ _ _ _ _
  refine call_pure c1 rfl ?_
  rintro z rfl
  refine ⟨fun q => go 60 ?_, fun q1 => go 60 ?_⟩
  · exact ⟨trivial, rfl, rfl, rfl, _, .refl _, rfl, congrArg (V.int .u8) (by rw [← hR, decide_eq_false (ne_of' q)]; rfl)⟩
  show CallThen _ _ _ _ _ _
  refine call_pure c2 rfl ?_
  rintro z rfl
  refine ⟨fun q => go 60 ?_, fun q2 => go 60 ?_⟩
  · exact ⟨trivial, rfl, rfl, rfl, _, .refl _, rfl, congrArg (V.int .u8) (by rw [← hR, decide_eq_false (ne_of' q), Bool.and_false]; rfl)⟩
  show CallThen _ _ _ _ _ _
  refine call_pure c3 rfl ?_
  rintro z rfl
  show CallThen _ _ _ _ _ _
  refine call_pure c4 rfl ?_
  rintro z rfl
  show CallThen _ _ _ _ _ _
  refine call_pure c5 rfl ?_
  rintro z rfl
  refine ⟨fun q => go 60 ?_, fun q3 => go 60 ?_⟩
  · exact ⟨trivial, rfl, rfl, rfl, _, .refl _, rfl, congrArg (V.int .u8) (by rw [← hR, decide_eq_true (eq_of' q1), decide_eq_true (eq_of' q2), decide_eq_false (ne_of' q)]; rfl)⟩
  show CallThen _ _ _ _ _ _
  refine call_pure c6 rfl ?_
  rintro z rfl
  exact ⟨trivial, rfl, rfl, rfl, _, .refl _, rfl, congrArg (V.int .u8) (by rw [← hR, decide_eq_true (eq_of' q1), decide_eq_true (eq_of' q2), decide_eq_true (eq_of' q3)]; rfl)⟩
end Bow
/- W96: the examples of chapter 14; the law EffectsFind. -/
namespace Bow
open Go Go.Proofs

def ex14N : Tree := .mk 1 false [114] [] [] [.mk 2 false [97] [] [] [.mk 3 false [120] [] [] []], .mk 4 false [98] [] [] []]
def ex14Z : Tree := .mk 1 false [] [] [] [.mk 4 false [122] [] [] []]
def ex14D : OpT := { noOp 2 with path := [0] }
def ex14L : OpT := { noOp 5 with path := [0, 0], label := [121] }
def ex14P : OpT := { noOp 5 with path := [1], label := [112] }
def ex14Q : OpT := { noOp 5 with path := [1], label := [113] }
def ex14M : OpT := { noOp 3 with path := [0], to := [1] }
def ex14O : OpT := { noOp 3 with path := [1], to := [0] }
def ex14A : Tree := .mk 1 false [114] [] [] [.mk 4 false [98] [] [] []]
def ex14B : Tree := .mk 1 false [114] [] [] [.mk 2 false [97] [] [] [.mk 3 false [120] [] [] []], .mk 4 false [112] [] [] []]
def ex14C : Tree := .mk 1 false [114] [] [] [.mk 2 false [97] [] [] [.mk 4 false [98] [] [] [], .mk 3 false [120] [] [] []]]
set_option maxRecDepth 100000 in
theorem ex14_a : cornerT ex14N ex14D ex14L true = (ex14A, 0) := by kernel_rfl
set_option maxRecDepth 100000 in
theorem ex14_b : cornerT ex14N ex14P ex14Q true = (ex14B, 0) := by kernel_rfl
set_option maxRecDepth 100000 in
theorem ex14_c : cornerT ex14N ex14M ex14O false = (ex14C, 0) := by kernel_rfl
set_option maxRecDepth 100000 in
theorem ex14_d : standsT ex14N ex14A ex14D ex14L true = 0 := by kernel_rfl
set_option maxRecDepth 100000 in
theorem ex14_e : standsT ex14N ex14Z ex14P ex14Q true = 5 := by kernel_rfl
set_option maxRecDepth 100000 in
theorem ex14_f : findR ex14C 4 = (.mk 4 false [98] [] [] [], 2, true) := by kernel_rfl
theorem ok14 {o : OpT} (h : smallO o = true) : o.Ok ∧ o.to.length ≤ 1000 := ⟨small_ok h, by have := small_to h; omega⟩

theorem cw14 {t : Tree} {a b : OpT} {prior : Bool} {r : Tree} (h : cornerT t a b prior = (r, 0)) (ht : t.weight ≤ 100000) (ha : smallO a = true) (hb : smallO b = true) (hc : (decide ((applyR t a).1.weight + costs (bothX a b prior).2.1 ≤ 400000) && decide ((bothX a b prior).2.1.length ≤ 1000000) && (bothX a b prior).2.1.all smallO) = true) :
    Pure Tryz.prog 38 [nodeV t, opV a, opV b, .bool prior] (fun x => x = cornerV (r, 0)) := by
  simp only [Bool.and_eq_true, decide_eq_true_eq] at hc
  obtain ⟨⟨h1, h2⟩, h3⟩ := hc
  rw [← h]
  exact w_Corner t a b prior ht (ok14 ha).1 (ok14 hb).1 ⟨(ok14 ha).2, (ok14 hb).2⟩ h1 h2 (ok_all h3)
set_option maxRecDepth 100000 in
theorem w14a : Pure Tryz.prog 38 [nodeV ex14N, opV ex14D, opV ex14L, .bool true] (fun x => x = cornerV (ex14A, 0)) := cw14 ex14_a (by decide) (by decide) (by decide) (by decide +kernel)
set_option maxRecDepth 100000 in
theorem w14b : Pure Tryz.prog 38 [nodeV ex14N, opV ex14P, opV ex14Q, .bool true] (fun x => x = cornerV (ex14B, 0)) := cw14 ex14_b (by decide) (by decide) (by decide) (by decide +kernel)
set_option maxRecDepth 100000 in
theorem w14c : Pure Tryz.prog 38 [nodeV ex14N, opV ex14M, opV ex14O, .bool false] (fun x => x = cornerV (ex14C, 0)) := cw14 ex14_c (by decide) (by decide) (by decide) (by decide +kernel)
theorem w14d : Pure Tryz.prog 95 [nodeV ex14N, nodeV ex14A, opV ex14D, opV ex14L, .bool true] (fun x => x = .int .u8 0) := by
  rw [← ex14_d]
  exact w_Stands _ _ _ _ _ (by decide) (by decide) (by decide) (ok14 (by decide)).1 (ok14 (by decide)).1 (.inl rfl) (.inr rfl)
theorem w14e : Pure Tryz.prog 95 [nodeV ex14N, nodeV ex14Z, opV ex14P, opV ex14Q, .bool true] (fun x => x = .int .u8 5) := by
  rw [← ex14_e]
  exact w_Stands _ _ _ _ _ (by decide) (by decide) (by decide) (ok14 (by decide)).1 (ok14 (by decide)).1 (.inr rfl) (.inr rfl)
theorem w14f : Pure Tryz.prog 43 [nodeV ex14C, .int .u64 4] (fun x => x = findV (.mk 4 false [98] [] [] [], 2, true)) := by
  rw [← ex14_f]
  exact w_Find _ _ (by decide)

def opC (k : Int) (pt to : V) (s : List UInt8) : List V := [.int .u8 k, pt, .int .i64 0, to, .int .u64 0, .ff, .str s, .str [], .str [], .ff, .nilsl]
theorem wk_opC {k : Int} {pt to : V} {s : List UInt8} {p q : List Int} (hp : Wk pt (pathV p)) (hq : Wk to (pathV q)) : WkL (opC k pt to s) (opV { noOp k with path := p, to := q, label := s }).cells :=
  ⟨.refl _, hp, .refl _, hq, .refl _, Wk.ff, .refl _, .refl _, .refl _, Wk.ff, Wk.nil 3, trivial⟩
theorem wk_ex14N : WkL [.int .u64 1, .ff, .str [114], .nilsl, .str [], .sl 6 [.agg [.int .u64 2, .ff, .str [97], .nilsl, .str [], .sl 6 [.agg [.int .u64 3, .ff, .str [120], .nilsl, .str [], .nilsl]]], .agg [.int .u64 4, .ff, .str [98], .nilsl, .str [], .nilsl]]] (nodeV ex14N).cells :=
  wkL_mk Wk.ff (Wk.nil 2) (Wk.sl ⟨⟨wkL_mk Wk.ff (Wk.nil 2) (Wk.sl ⟨⟨wkL_mk Wk.ff (Wk.nil 2) (Wk.nil 6), okE_node _⟩, trivial⟩), okE_node _⟩, ⟨wkL_mk Wk.ff (Wk.nil 2) (Wk.nil 6), okE_node _⟩, trivial⟩)
theorem wk_ex14Z : WkL [.int .u64 1, .ff, .str [], .nilsl, .str [], .sl 6 [.agg [.int .u64 4, .ff, .str [122], .nilsl, .str [], .nilsl]]] (nodeV ex14Z).cells :=
  wkL_mk Wk.ff (Wk.nil 2) (Wk.sl ⟨⟨wkL_mk Wk.ff (Wk.nil 2) (Wk.nil 6), okE_node _⟩, trivial⟩)
set_option maxHeartbeats 4000000 in
set_option maxRecDepth 100000 in
theorem w_works14 : Pure Tryz.prog 35 [] (fun x => x = .bool true) := by
  refine pure_wk (pure_fn 17 Tryz.func35 rfl rfl rfl fun B => ?_)
  refine ⟨⟨rfl, trivial⟩, rfl, rfl, ⟨rfl, rfl, trivial⟩, ?_⟩
  show Goes _ _ _ _
  refine goes_freezeIn 1 [2] rfl rfl rfl ?_
  show Goes _ _ _ _
  refine goes_wkbox 2 (nodeV ex14N).cells rfl rfl rfl wk_ex14N ?_
  refine go 11 ?_
  refine ⟨⟨rfl, trivial⟩, ⟨rfl, rfl, trivial⟩, ?_⟩
  show Goes _ _ _ _
  refine goes_freezeIn 3 [5] rfl rfl rfl ?_
  show Goes _ _ _ _
  refine goes_freezeIn 4 [6] rfl rfl rfl ?_
  show Goes _ _ _ _
  refine goes_wkbox 5 (opV ex14D).cells rfl rfl rfl (wk_opC (.refl _) (Wk.nil 1)) ?_
  refine goes_wkbox 6 (opV ex14L).cells rfl rfl rfl (wk_opC (.refl _) (Wk.nil 1)) ?_
  refine go 11 ?_
  refine ⟨⟨rfl, trivial⟩, ⟨rfl, trivial⟩, ?_⟩
  show Goes _ _ _ _
  refine goes_freezeIn 7 [9] rfl rfl rfl ?_
  show Goes _ _ _ _
  refine goes_freezeIn 8 [10] rfl rfl rfl ?_
  show Goes _ _ _ _
  refine goes_wkbox 9 (opV ex14P).cells rfl rfl rfl (wk_opC (.refl _) (Wk.nil 1)) ?_
  refine goes_wkbox 10 (opV ex14Q).cells rfl rfl rfl (wk_opC (.refl _) (Wk.nil 1)) ?_
  refine go 300 ?_
  show CallThen _ _ _ _ _ _
  refine call_pure (pure_args w14a ⟨.refl _, .refl _, .refl _, Wk.tt, trivial⟩ rfl rfl) rfl ?_
  rintro z rfl
  show CallThen _ _ _ _ _ _
  refine call_pure (pure_args w14b ⟨.refl _, .refl _, .refl _, Wk.tt, trivial⟩ rfl rfl) rfl ?_
  rintro z rfl
  refine ⟨⟨rfl, trivial⟩, ?_⟩
  refine ⟨⟨rfl, trivial⟩, ⟨rfl, trivial⟩, ⟨rfl, trivial⟩, ⟨rfl, trivial⟩, ?_⟩
  show CallThen _ _ _ _ _ _
  refine call_pure_frz ?_
  refine ⟨rfl, rfl, rfl, rfl, rfl, rfl, rfl, rfl, _, pure_args w14c ⟨.refl _, Wk.agg (wk_opC (s := []) (.refl _) (.refl _)), Wk.agg (wk_opC (s := []) (.refl _) (.refl _)), Wk.ff, trivial⟩ rfl rfl, rfl, ?_⟩
  rintro z rfl
  show CallThen _ _ _ _ _ _
  refine call_pure w14f rfl ?_
  rintro z rfl
  iterate 3 refine ⟨fun _ => go 60 ?_, fun q => absurd q (by decide)⟩
  refine ⟨fun _ => go 60 ?_, fun q => absurd q (by decide)⟩
  show CallThen _ _ _ _ _ _
  refine call_pure (pure_args w14d ⟨.refl _, .refl _, .refl _, .refl _, Wk.tt, trivial⟩ rfl rfl) rfl ?_
  rintro z rfl
  refine ⟨fun _ => go 60 ?_, fun q => absurd q (by decide)⟩
  refine ⟨fun _ => go 60 ?_, fun q => absurd q (by decide)⟩
  refine ⟨by decide, _, rfl, ?_⟩
  refine ⟨fun _ => go 60 ?_, fun q => absurd q (by decide)⟩
  show CallThen _ _ _ _ _ _
  refine call_pure_frz ?_
  refine ⟨rfl, rfl, _, pure_args w14e ⟨.refl _, Wk.agg wk_ex14Z, .refl _, .refl _, Wk.tt, trivial⟩ rfl rfl, rfl, ?_⟩
  rintro z rfl
  refine ⟨fun _ => go 60 ?_, fun q => absurd q (by decide)⟩
  refine ⟨fun _ => go 60 ?_, fun q => absurd q (by decide)⟩
  refine ⟨fun _ => go 60 ?_, fun q => absurd q (by decide)⟩
  exact ⟨trivial, rfl, rfl, rfl, leaf_b (by decide)⟩

/-! ### The law -/
theorem find_weight (t : Tree) (id : Int) : (findR t id).1.weight ≤ t.weight + 1 := by
  have h : ∀ (t : Tree) (p : Int), ∀ y ∈ t.kin p, y.1.weight ≤ t.weight := by
    intro t
    induction t using Tree.ind with
    | _ t ih =>
    have hk : ∀ (up : Int) (l : List Tree), (∀ s ∈ l, s ∈ t.subs) → ∀ y ∈ kins up l, y.1.weight ≤ t.weight := by
      intro up l
      induction l with
      | nil => intro _ y hy; rw [kins] at hy; cases hy
      | cons s l ihl =>
        intro hl y hy
        rw [kins, List.mem_append] at hy
        rcases hy with hy | hy
        · have h1 := ih s (hl s (by simp)) up y hy
          have h2 := weight_sub (hl s (by simp))
          omega
        · exact ihl (fun z hz => hl z (by simp [hz])) y hy
    intro p y hy
    rw [kin_eq] at hy
    rcases List.mem_cons.1 hy with rfl | hy
    · exact Nat.le_refl _
    · exact hk _ _ (fun _ h => h) y hy
  unfold findR findK
  cases hf : (t.kin 0).find? (fun x => decide (x.1.id = id)) with
  | none => have : zeroT0.weight = 1 := by decide
            simp only; omega
  | some y => have := h t 0 y (List.mem_of_find?_eq_some hf)
              simp only; omega
set_option maxRecDepth 100000 in
theorem w_EffectsFind (t : Tree) (id : Int) (_h : (Lit.int .u64 id).wf = true) : Pure Tryz.prog 7 [nodeV t, .int .u64 id] (fun x => x = .bool true) := by
  have hw := w_works14
  refine pure_wk (pure_fn 60 Tryz.func7 rfl rfl rfl fun B => ?_)
  show CallThen _ _ _ _ _ _
  refine call_pure (w_Weight t 600 (by decide)) rfl ?_
  rintro z ⟨w, rfl, w1, w2, w3⟩
  refine ⟨fun _ => go 60 ?_, fun g0 => go 60 ?_⟩
  · show CallThen _ _ _ _ _ _
    refine call_pure hw rfl ?_
    rintro z rfl
    exact ⟨trivial, rfl, rfl, rfl, leaf_b rfl⟩
  have g0 : t.weight ≤ 600 := by
    have := of_decide_eq_false g0
    have := w3 (by omega)
    omega
  have hs := size_le_weight t
  have c1 := w_Find t id (by omega)
  have c2 := w_refFind t id (by omega)
  have fw := find_weight t id
  generalize findR t id = r at c1 c2 fw
  obtain ⟨r1, r2, r3⟩ := r
  simp only at fw
  have c3 := w_refSameT r1 r1 (by omega)
  rw [sameT_refl] at c3
  show CallThen _ _ _ _ _ _
  refine call_pure c1 rfl ?_
  rintro z rfl
  show CallThen _ _ _ _ _ _
  refine call_pure c2 rfl ?_
  rintro z rfl
  refine ⟨fun _ => go 60 ?_, fun q => absurd q (by simp)⟩
  refine ⟨fun _ => go 60 ?_, fun q => absurd q (by simp)⟩
  show CallThen _ _ _ _ _ _
  refine call_pure c3 rfl ?_
  rintro z rfl
  refine ⟨fun _ => go 60 ?_, fun q => (by cases q)⟩
  show CallThen _ _ _ _ _ _
  refine call_pure hw rfl ?_
  rintro z rfl
  exact ⟨trivial, rfl, rfl, rfl, leaf_b rfl⟩
end Bow
/- TD1: what is read as data at the program's types. -/
namespace Bow
open Go Go.Proofs

theorem take1 {vs : List V} {c : V} (h : vs.take 1 = [c]) : ∃ r, vs = c :: r ∧ vs.drop 1 = r := by
  cases vs with
  | nil => simp at h
  | cons x r => simp at h; subst h; exact ⟨r, rfl, rfl⟩

theorem map_exists {α β : Type} {f : α → V} {g : β → V} : ∀ {xs : List α}, (∀ x ∈ xs, ∃ y, f x = g y) → ∃ ys : List β, xs.map f = ys.map g
  | [], _ => ⟨[], rfl⟩
  | x :: xs, h => by
    obtain ⟨y, hy⟩ := h x List.mem_cons_self
    obtain ⟨ys, hys⟩ := map_exists (xs := xs) fun z hz => h z (List.mem_cons_of_mem _ hz)
    exact ⟨y :: ys, by simp [hy, hys]⟩

theorem vt_str {n : Nat} {vs : List V} (h : VT Tryz.prog n 9 vs) : ∃ s, vs = [.str s] := by
  cases n with
  | zero => exact h.elim
  | succ n =>
    obtain ⟨s, e, _⟩ : ∃ s : List UInt8, vs = [.str s] ∧ s.length ≤ maxLen := h
    exact ⟨s, e⟩
theorem vt_bool {n : Nat} {vs : List V} (h : VT Tryz.prog n 4 vs) : ∃ b, vs = [.bool b] := by
  cases n with
  | zero => exact h.elim
  | succ n => exact h
theorem vt_u64 {n : Nat} {vs : List V} (h : VT Tryz.prog n 22 vs) : ∃ i, vs = [.int .u64 i] := by
  cases n with
  | zero => exact h.elim
  | succ n =>
    obtain ⟨s, e, _⟩ : ∃ s : Int, vs = [.int .u64 s] ∧ (Lit.int .u64 s).wf = true := h
    exact ⟨s, e⟩
set_option maxRecDepth 100000 in
theorem vt_attr {n : Nat} {vs : List V} (h : VT Tryz.prog n 71 vs) : ∃ a, vs = (attrV a).cells := by
  cases n with
  | zero => exact h.elim
  | succ n =>
    obtain ⟨h0, h1, h2⟩ : VT Tryz.prog n 9 (vs.take 1) ∧ VT Tryz.prog n 9 ((vs.drop 1).take 1) ∧ (vs.drop 1).drop 1 = [] := h
    obtain ⟨a, e0⟩ := vt_str h0
    obtain ⟨b, e1⟩ := vt_str h1
    obtain ⟨r, rfl, d0⟩ := take1 e0
    rw [d0] at e1 h2
    obtain ⟨r1, rfl, d1⟩ := take1 e1
    rw [d1] at h2
    subst h2
    exact ⟨(a, b), rfl⟩
set_option maxRecDepth 100000 in
theorem vt_attrs {n : Nat} {vs : List V} (h : VT Tryz.prog n 23 vs) : ∃ l : List (List UInt8 × List UInt8), vs = [.sl 2 (l.map attrV)] := by
  cases n with
  | zero => exact h.elim
  | succ n =>
    obtain ⟨xs, e, _, hx⟩ : ∃ xs : List (List V), vs = [.sl 2 (xs.map (mkX Tryz.prog 71))] ∧ xs.length ≤ maxLen ∧ ∀ x ∈ xs, VT Tryz.prog n 71 x := h
    obtain ⟨l, hl⟩ := map_exists (f := mkX Tryz.prog 71) (g := attrV) (xs := xs) fun x hm => by
      obtain ⟨a, rfl⟩ := vt_attr (hx x hm)
      exact ⟨a, rfl⟩
    exact ⟨l, by rw [e, hl]⟩

set_option maxRecDepth 100000 in
theorem vt_node : ∀ (n : Nat) (vs : List V), VT Tryz.prog n 26 vs → ∃ t : Tree, vs = (nodeV t).cells := by
  intro n
  induction n using Nat.strongRecOn with
  | _ n ih =>
    intro vs h
    cases n with
    | zero => exact h.elim
    | succ n =>
      obtain ⟨h0, h1, h2, h3, h4, h5, h6⟩ : VT Tryz.prog n 22 (vs.take 1) ∧ VT Tryz.prog n 4 ((vs.drop 1).take 1) ∧ VT Tryz.prog n 9 (((vs.drop 1).drop 1).take 1) ∧ VT Tryz.prog n 23 ((((vs.drop 1).drop 1).drop 1).take 1) ∧
        VT Tryz.prog n 9 (((((vs.drop 1).drop 1).drop 1).drop 1).take 1) ∧ VT Tryz.prog n 24 ((((((vs.drop 1).drop 1).drop 1).drop 1).drop 1).take 1) ∧ (((((vs.drop 1).drop 1).drop 1).drop 1).drop 1).drop 1 = [] := h
      obtain ⟨i, e0⟩ := vt_u64 h0
      obtain ⟨l, e1⟩ := vt_bool h1
      obtain ⟨s, e2⟩ := vt_str h2
      obtain ⟨a, e3⟩ := vt_attrs h3
      obtain ⟨x, e4⟩ := vt_str h4
      obtain ⟨r, rfl, d0⟩ := take1 e0
      rw [d0] at e1 e2 e3 e4 h5 h6
      obtain ⟨r, rfl, d0⟩ := take1 e1
      rw [d0] at e2 e3 e4 h5 h6
      obtain ⟨r, rfl, d0⟩ := take1 e2
      rw [d0] at e3 e4 h5 h6
      obtain ⟨r, rfl, d0⟩ := take1 e3
      rw [d0] at e4 h5 h6
      obtain ⟨r, rfl, d0⟩ := take1 e4
      rw [d0] at h5 h6
      cases n with
      | zero => exact h5.elim
      | succ n =>
        obtain ⟨xs, e5, _, hx⟩ : ∃ xs : List (List V), r.take 1 = [.sl 6 (xs.map (mkX Tryz.prog 26))] ∧ xs.length ≤ maxLen ∧ ∀ x ∈ xs, VT Tryz.prog n 26 x := h5
        obtain ⟨ts, hts⟩ := map_exists (f := mkX Tryz.prog 26) (g := nodeV) (xs := xs) fun x hm => by
          obtain ⟨t, rfl⟩ := ih n (by omega) x (hx x hm)
          exact ⟨t, rfl⟩
        obtain ⟨r, rfl, d0⟩ := take1 e5
        rw [d0] at h6
        subst h6
        refine ⟨.mk i l s a x ts, ?_⟩
        rw [hts]
        simp only [nodeV, Tree.id, Tree.leaf, Tree.label, Tree.attrs, Tree.text, subV_eq, Tree.subs, V.cells]

theorem rep_of_cells {w : World} {vs : List V} {cs : Array Value} (h : RowRep w β0 [] vs cs.toList) : Rep w β0 [] (.agg vs) (.agg cs) :=
  .agg vs cs (by simpa using h.1) fun j c v hj hv => h.2 j c v hj (by simpa using hv)

set_option maxRecDepth 100000 in
/-- A node that is handed over. -/
theorem node_arg {H : Type} {enc : TypeId × Value → H} {w : World} {r : Reach} {base b0 : Nat} {sp : Nat → Bool} {held : Bool} {v : Value} {d : DataW H} {p : List MemPlace} (ho : Value.okWide Tryz.prog w r b0 26 v) (h : DataW.Trod enc Tryz.prog w base sp held 26 v d p) :
    ∃ t : Tree, Rep w β0 [] (nodeV t) v := by
  obtain ⟨fuel, hf⟩ := h
  obtain ⟨cs, rfl, _, _⟩ : ∃ cs, v = .agg cs ∧ cs.size = Tryz.prog.cellsOf 26 ∧ Row.okWide Tryz.prog w r b0 26 cs := ho
  obtain ⟨vs, h1, _, h3⟩ := read_data (G := [26, 24, 23, 71, 9, 22, 4]) (by kernel_rfl) fuel _ _ _ (by kernel_rfl) hf
  obtain ⟨t, rfl⟩ := vt_node _ _ h3
  exact ⟨t, rep_of_cells h1⟩
end Bow
/- TD2: operations that are read as data. -/
namespace Bow
open Go Go.Proofs

end Bow
