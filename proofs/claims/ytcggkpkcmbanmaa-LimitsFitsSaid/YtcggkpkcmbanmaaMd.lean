/- The library, part 4: W5, SP2, W6, W7, W8, W9, W10, W11, W12, W13, AE36, TD1, TD2. -/
import Derived.Test.YtcggkpkcmbanmaaMc
import Derived.ChangeArms
import Derived.ChangeOld
import Derived.DataReads
import Derived.Test.YtcggkpkcmbanmaaRows
import Derived.ChangeShapes
/- W5: limits.Check; the trees of the chapter's examples. -/
namespace Bow
open Go Go.Proofs

theorem w_Count' (t : Tree) (h : t.weight ≤ 1000000) : Pure Try.prog 39 [nodeV t] (fun x => x = .int .i64 t.size) := by
  have := w_Count t (by have := size_le_weight t; omega)
  rwa [pre_length] at this

def checkE (t : Tree) : Int := if 512 < t.size then 160 else if 12 < t.depth then 161 else if 2048 < t.long then 162 else 0

set_option maxRecDepth 100000 in
theorem w_Check (t : Tree) (h : t.weight ≤ 1000000) : Pure Try.prog 14 [nodeV t] (fun x => x = .int .i64 (checkE t)) := by
  refine pure_fn 100 Try.func14 rfl rfl rfl fun B => ?_
  show Goes _ _ _ _
  refine goes_draw 300 ?_
  refine ⟨_, w_Count' t h, rfl, ?_⟩
  refine ⟨_, w_Depth t h, rfl, ?_⟩
  refine ⟨_, w_Long t h, rfl, ?_⟩
  refine ⟨by kernel_rfl, ?_⟩
  show Goes _ _ _ _
  refine goes_loop (go 200 ?_)
  refine ⟨fun _ => go 200 ?_, fun h => absurd h (by decide)⟩
  refine ⟨by decide, by decide, ?_⟩
  refine ⟨fun g1 => go 200 ?_, fun g1 => go 200 ?_⟩
  · have g1 := lt_of g1
    exact ⟨trivial, rfl, rfl, rfl, by unfold checkE; rw [if_pos (by omega)]; rfl⟩
  have g1 := not_lt_of g1
  refine ⟨by constructor <;> decide, ?_⟩
  show Goes _ _ _ _
  refine goes_inLoop (go 200 ?_)
  refine ⟨fun _ => go 200 ?_, fun h => absurd h (by decide)⟩
  refine ⟨by decide, by decide, ?_⟩
  refine ⟨fun g2 => go 200 ?_, fun g2 => go 200 ?_⟩
  · have g2 := lt_of g2
    exact ⟨trivial, rfl, rfl, rfl, by unfold checkE; rw [if_neg (by omega), if_pos (by omega)]; rfl⟩
  have g2 := not_lt_of g2
  refine ⟨by constructor <;> decide, ?_⟩
  show Goes _ _ _ _
  refine goes_inLoop (go 200 ?_)
  refine ⟨fun _ => go 200 ?_, fun h => absurd h (by decide)⟩
  refine ⟨by decide, by decide, ?_⟩
  refine ⟨fun g3 => go 200 ?_, fun g3 => go 200 ?_⟩
  · have g3 := lt_of g3
    exact ⟨trivial, rfl, rfl, rfl, by unfold checkE; rw [if_neg (by omega), if_neg (by omega), if_pos (by omega)]; rfl⟩
  have g3 := not_lt_of g3
  refine ⟨by constructor <;> decide, ?_⟩
  show Goes _ _ _ _
  refine goes_inLoop (go 200 ?_)
  refine ⟨fun h => absurd h (by decide), fun _ => go 200 ?_⟩
  exact ⟨trivial, rfl, rfl, rfl, by unfold checkE; rw [if_neg (by omega), if_neg (by omega), if_neg (by omega)]; rfl⟩

set_option maxRecDepth 100000 in
theorem w_refCheck (t : Tree) (h : t.weight ≤ 1000000) : Pure Try.prog 17 [nodeV t] (fun x => x = .int .i64 (checkE t)) := by
  refine pure_fn 100 Try.func17 rfl rfl rfl fun B => ?_
  show CallThen _ _ _ _ _ _
  refine call_pure (w_refCount t h) rfl ?_
  rintro x rfl
  refine ⟨fun g1 => go 200 ?_, fun g1 => go 200 ?_⟩
  · have g1 := lt_of g1
    exact ⟨trivial, rfl, rfl, rfl, by unfold checkE; rw [if_pos (by omega)]; rfl⟩
  have g1 := not_lt_of g1
  show CallThen _ _ _ _ _ _
  refine call_pure (w_refDepth t h) rfl ?_
  rintro x rfl
  refine ⟨fun g2 => go 200 ?_, fun g2 => go 200 ?_⟩
  · have g2 := lt_of g2
    exact ⟨trivial, rfl, rfl, rfl, by unfold checkE; rw [if_neg (by omega), if_pos (by omega)]; rfl⟩
  have g2 := not_lt_of g2
  show CallThen _ _ _ _ _ _
  refine call_pure (w_refLong t h) rfl ?_
  rintro x rfl
  refine ⟨fun g3 => go 200 ?_, fun g3 => go 200 ?_⟩
  · have g3 := lt_of g3
    exact ⟨trivial, rfl, rfl, rfl, by unfold checkE; rw [if_neg (by omega), if_neg (by omega), if_pos (by omega)]; rfl⟩
  have g3 := not_lt_of g3
  exact ⟨trivial, rfl, rfl, rfl, by unfold checkE; rw [if_neg (by omega), if_neg (by omega), if_neg (by omega)]; rfl⟩

/-! ### The examples' trees -/
def zeroT (ss : List Tree) : Tree := .mk 0 false [] [] [] ss
/-- As a literal lays it: what it does not name is nil. -/
def zeroV (k : V) : V := .agg [.int .u64 0, .ff, .str [], .nilsl, .str [], k]
theorem wk_zero {k : V} {ss : List Tree} (h : Wk k (.sl 6 (ss.map nodeV))) : Wk (zeroV k) (nodeV (zeroT ss)) := by
  refine Wk.agg ⟨.refl _, Wk.ff, .refl _, Wk.nil 2, .refl _, ?_, trivial⟩
  rw [subV_eq]
  exact h
theorem okE_node (t : Tree) : okE 6 (nodeV t) := ⟨rfl, rfl⟩
theorem wkE_nodes : ∀ {xs : List V} {ts : List Tree}, xs.length = ts.length → (∀ (i : Nat) (x : V) (t : Tree), xs[i]? = some x → ts[i]? = some t → WkL x.cells (nodeV t).cells) → WkE 6 xs (ts.map nodeV)
  | [], [], _, _ => trivial
  | x :: xs, t :: ts, hl, h => ⟨⟨h 0 x t rfl rfl, okE_node t⟩, wkE_nodes (by simpa using hl) fun i y s hy hs => h (i + 1) y s (by simpa using hy) (by simpa using hs)⟩
  | [], _ :: _, hl, _ => by simp at hl
  | _ :: _, [], hl, _ => by simp at hl
theorem wkL_zero {k : V} {ss : List Tree} (h : Wk k (.sl 6 (ss.map nodeV))) : WkL (zeroV k).cells (nodeV (zeroT ss)).cells := by
  refine ⟨.refl _, Wk.ff, .refl _, Wk.nil 2, .refl _, ?_, trivial⟩
  rw [subV_eq]
  exact h

def flatT (n : Nat) : Tree := zeroT (List.replicate n (zeroT []))
theorem w_flat (n : Nat) (h : n ≤ 100000) : Pure Try.prog 47 [.int .i64 ((n + 1 : Nat) : Int)] (fun x => x = nodeV (flatT n)) := by
  refine pure_wk (pure_fn 100 Try.func47 rfl rfl rfl fun B => ?_)
  refine ⟨by constructor <;> omega, ?_⟩
  show Goes _ _ _ _
  refine goes_make 100 n rfl rfl rfl (congrArg (V.int .i64) (by omega)) (congrArg (V.int .i64) (by omega)) rfl rfl rfl rfl (Nat.le_trans (Nat.mul_le_mul_left _ h) (by decide)) ?_
  refine ⟨trivial, rfl, rfl, rfl, (by simp), rfl, nodeV (flatT n), ?_, rfl, rfl⟩
  refine wk_zero (Wk.sl (wkE_nodes (by simp) fun i x t hx ht => ?_))
  have e1 := List.eq_of_mem_replicate (List.mem_of_getElem? hx)
  have e2 := List.eq_of_mem_replicate (List.mem_of_getElem? ht)
  subst e1 e2
  exact wkL_zero (ss := []) (Wk.nil 6)

def chainT : Nat → Tree
  | 0 => zeroT []
  | n + 1 => zeroT [chainT n]
def chainV : Nat → V
  | 0 => zeroV .nilsl
  | n + 1 => zeroV (.sl 6 [chainV n])
theorem chainV_cells (n : Nat) : ∃ k, chainV n = zeroV k ∧ Wk k (.sl 6 ((match n with | 0 => [] | n + 1 => [chainT n]).map nodeV)) := by
  induction n with
  | zero => exact ⟨_, rfl, Wk.nil 6⟩
  | succ n ih =>
    obtain ⟨k, h1, h2⟩ := ih
    refine ⟨_, rfl, Wk.sl (wkE_nodes rfl fun i x t hx ht => ?_)⟩
    cases i with
    | succ i => simp at hx
    | zero =>
      simp at hx ht
      subst hx ht
      rw [h1]
      have := wkL_zero h2
      cases n <;> exact this
theorem wk_chain (n : Nat) : Wk (chainV n) (nodeV (chainT n)) := by
  obtain ⟨k, h1, h2⟩ := chainV_cells n
  rw [h1]
  have := wk_zero h2
  cases n <;> exact this
set_option maxRecDepth 100000 in
theorem w_chain (n : Nat) (h : n ≤ 100000) : Pure Try.prog 48 [.int .i64 n] (fun x => x = nodeV (chainT n)) := by
  refine pure_wk (pure_fn 100 Try.func48 rfl rfl rfl fun B => ?_)
  show Goes _ _ _ _
  refine goes_iter (ι := Nat) (fun i => i ≤ n) (fun i => n - i) (fun i => [(4, .int .i64 i), (3, .ptr (.loc 1) 0), (2, .ptr (.loc 0) 0), (0, .int .i64 n)])
    (fun i => [some (.box (zeroV .nilsl).cells), some (.box (chainV i).cells)]) 0 200 (fun _ => rfl) (fun _ => rfl) ⟨Nat.zero_le _, ?_, ?_⟩ ?_
  · exact ⟨⟨rfl, rfl⟩, ⟨rfl, rfl⟩, ⟨rfl, rfl⟩, ⟨rfl, rfl⟩, trivial⟩
  · exact ⟨⟨rfl, rfl⟩, ⟨rfl, rfl⟩, trivial⟩
  · intro i k1 next
    refine ⟨fun hlt => go 200 ?_, fun hge => go 200 ?_⟩
    · have hi : i < n := by have := lt_of hlt; omega
      cases i with
      | zero =>
        refine ⟨⟨rfl, trivial⟩, ?_⟩
        refine ⟨by constructor <;> omega, ?_⟩
        show Goes _ _ _ _
        refine goes_freezeIn 2 [1] rfl rfl rfl ?_
        show Goes _ _ _ _
        refine next 1 _ _ ⟨hi, by omega, ?_, ?_⟩
        · exact ⟨⟨rfl, rfl⟩, ⟨rfl, rfl⟩, ⟨rfl, rfl⟩, ⟨rfl, rfl⟩, trivial⟩
        · exact ⟨⟨rfl, rfl⟩, ⟨rfl, rfl⟩, trivial⟩
      | succ i =>
        refine ⟨⟨rfl, trivial⟩, ?_⟩
        refine ⟨by constructor <;> omega, ?_⟩
        show Goes _ _ _ _
        refine goes_freezeIn 2 [1] rfl rfl rfl ?_
        show Goes _ _ _ _
        refine next (i + 1 + 1) _ _ ⟨hi, by omega, ?_, ?_⟩
        · exact ⟨⟨rfl, rfl⟩, ⟨rfl, rfl⟩, ⟨rfl, rfl⟩, ⟨rfl, rfl⟩, trivial⟩
        · exact ⟨⟨rfl, rfl⟩, ⟨rfl, rfl⟩, trivial⟩
    · have hi : i = n := by have := not_lt_of hge; omega
      subst hi
      have hw := wk_chain i
      cases i with
      | zero => exact ⟨trivial, rfl, rfl, rfl, _, hw, rfl, rfl⟩
      | succ i => exact ⟨trivial, rfl, rfl, rfl, _, hw, rfl, rfl⟩

def longT (n : Nat) (l : List (List UInt8 × List UInt8)) : Tree := zeroT [.mk 0 true [] l (List.replicate n 0) []]
theorem w_long (n : Nat) (l : List (List UInt8 × List UInt8)) (h : n ≤ 100000) : Pure Try.prog 49 [.int .i64 n, .sl 2 (l.map attrV)] (fun x => x = nodeV (longT n l)) := by
  refine pure_wk (pure_fn 100 Try.func49 rfl rfl rfl fun B => ?_)
  show Goes _ _ _ _
  refine goes_make 100 n rfl rfl rfl rfl rfl rfl rfl rfl rfl (Nat.le_trans (Nat.mul_le_mul_left _ h) (by decide)) ?_
  show Goes _ _ _ _
  refine goes_freeze 1 rfl rfl ?_
  refine goes_bytesStr 100 (List.replicate n 0) rfl rfl rfl ?_ rfl rfl rfl ?_
  · show (bif Nat.beq 0 0 && Nat.beq 0 0 && Nat.beq n (List.replicate n (V.int .u8 0)).length then V.sl 1 (List.replicate n (V.int .u8 0)) else .undef) = _
    simp
  · refine ⟨⟨rfl, trivial⟩, ?_⟩
    refine ⟨trivial, rfl, rfl, rfl, rfl, rfl, nodeV (longT n l), ?_, rfl, rfl⟩
    refine wk_zero (Wk.sl (wkE_nodes rfl fun i x t hx ht => ?_))
    cases i with
    | succ i => simp at hx
    | zero =>
      simp at hx ht
      subst hx ht
      exact ⟨.refl _, Wk.tt, .refl _, .refl _, .refl _, Wk.nil 6, trivial⟩
end Bow
/- SP2: operations, as values; which are formed. -/
namespace Bow
open Go

structure PieceT where
  keep : Int
  drop : Int
  put : List UInt8
structure OpT where
  kind : Int
  path : List Int
  at_ : Int
  to : List Int
  id : Int
  leaf : Bool
  label : List UInt8
  key : List UInt8
  value : List UInt8
  gone : Bool
  pieces : List PieceT

def intV (n : Int) : V := .int .i64 n
def pieceV (p : PieceT) : V := .agg [.int .i64 p.keep, .int .i64 p.drop, .str p.put]
def pathV (p : List Int) : V := .sl 1 (p.map intV)
def piecesV (l : List PieceT) : V := .sl 3 (l.map pieceV)
def opV (o : OpT) : V := .agg [.int .u8 o.kind, pathV o.path, .int .i64 o.at_, pathV o.to, .int .u64 o.id, .bool o.leaf, .str o.label, .str o.key, .str o.value, .bool o.gone, piecesV o.pieces]

/-! ### Leaves of walks that end in a truth value -/
theorem leaf_tt {b : Bool} (h : b = true) : ∃ y, Wk .tt y ∧ y.pureB = true ∧ y = .bool b := ⟨_, Wk.tt, rfl, by rw [h]⟩
theorem leaf_ff {b : Bool} (h : b = false) : ∃ y, Wk .ff y ∧ y.pureB = true ∧ y = .bool b := ⟨_, Wk.ff, rfl, by rw [h]⟩
theorem leaf_b {b b' : Bool} (h : b' = b) : ∃ y, Wk (.bool b') y ∧ y.pureB = true ∧ y = .bool b := ⟨_, Wk.refl _, rfl, by rw [h]⟩
theorem leaf_of {x y : V} (h : x = y) (hp : y.pureB = true) : ∃ z, Wk x z ∧ z.pureB = true ∧ z = y := ⟨y, Wk.of_eq h, hp, rfl⟩

/-! ### Formed -/
def stepOk (n : Int) : Bool := decide (0 ≤ n) && decide (n < 1048576)
def mayP (p : List Int) : Bool := decide (p.length ≤ 64) && p.all stepOk
def keyOk (s : List UInt8) : Bool := decide (1 ≤ s.length) && decide (s.length ≤ 64)
/-- Pieces that are right, when so many bytes have been put ahead. -/
def rightGo : Nat → List PieceT → Bool
  | _, [] => true
  | n, p :: l => (decide (0 ≤ p.keep) && decide (p.keep ≤ 1048576) && decide (0 ≤ p.drop) && decide (p.drop ≤ 1048576) && decide (n + p.put.length ≤ 1048576)) && rightGo (n + p.put.length) l
def rightP (l : List PieceT) : Bool := decide (l.length ≤ 4096) && rightGo 0 l
def gapOk (n : Int) : Bool := decide (0 ≤ n) && decide (n ≤ 1048576)
def formedB (o : OpT) : Bool :=
  mayP o.path && (bif o.kind == 1 then gapOk o.at_ && decide ((o.label.length : Int) ≤ 64) else bif o.kind == 2 then true else bif o.kind == 3 then gapOk o.at_ && mayP o.to
    else bif o.kind == 4 then keyOk o.key && (o.gone || decide ((o.value.length : Int) ≤ 256)) else bif o.kind == 5 then decide ((o.label.length : Int) ≤ 64) else bif o.kind == 6 then rightP o.pieces else false)

/-! ### Bare -/
def noOp (k : Int) : OpT := ⟨k, [], 0, [], 0, false, [], [], [], false, []⟩
def bareO (o : OpT) : OpT :=
  bif o.kind == 1 then { noOp 1 with path := o.path, at_ := o.at_, id := o.id, leaf := o.leaf, label := o.label }
  else bif o.kind == 2 then { noOp 2 with path := o.path }
  else bif o.kind == 3 then { noOp 3 with path := o.path, at_ := o.at_, to := o.to }
  else bif o.kind == 4 then { noOp 4 with path := o.path, key := o.key, gone := o.gone, value := bif o.gone then [] else o.value }
  else bif o.kind == 5 then { noOp 5 with path := o.path, label := o.label }
  else bif o.kind == 6 then { noOp 6 with path := o.path, pieces := o.pieces }
  else noOp o.kind
/-- So much, at most. -/
structure OpT.Lt (o : OpT) (n : Nat) : Prop where
  path : o.path.length ≤ n
  to : o.to.length ≤ n
  label : o.label.length ≤ n
  key : o.key.length ≤ n
  value : o.value.length ≤ n
  pieces : o.pieces.length ≤ n
def putsLen (l : List PieceT) : Nat := l.foldr (fun p n => p.put.length + n) 0
end Bow
/- W6: which operations are formed. -/
namespace Bow
open Go Go.Proofs

theorem w_May1 (n : Int) : Pure Try.prog 83 [intV n] (fun x => x = .bool (!stepOk n)) := by
  refine pure_wk (pure_fn 100 Try.func83 rfl rfl rfl fun B => ?_)
  refine ⟨fun g1 => go 200 ?_, fun g1 => go 200 ?_⟩
  · have g1 := lt_of g1
    exact ⟨trivial, rfl, rfl, rfl, leaf_tt (by unfold stepOk; rw [decide_eq_false (by omega)]; rfl)⟩
  · have g1 := not_lt_of g1
    refine ⟨trivial, rfl, rfl, rfl, leaf_b ?_⟩
    unfold stepOk
    rw [decide_eq_true (p := 0 ≤ n) (by omega), Bool.true_and]
    by_cases h : n < 1048576
    · rw [decide_eq_true h, decide_eq_false (by omega)]; rfl
    · rw [decide_eq_false h, decide_eq_true (by omega)]; rfl

/-- The first place where a predicate holds, or -1. -/
def findIx (f : Int → Bool) : Nat → List Int → Int
  | _, [] => -1
  | i, x :: xs => bif f x then i else findIx f (i + 1) xs
theorem findIx_any (f : Int → Bool) : ∀ (xs : List Int) (i : Nat), decide (0 ≤ findIx f i xs) = xs.any f
  | [], i => by simp [findIx]
  | x :: xs, i => by
    rw [findIx, List.any_cons]
    cases h : f x with
    | true => simp
    | false => simpa using findIx_any f xs (i + 1)

set_option maxRecDepth 100000 in
theorem w_IndexInt (f : Int → Bool) (g : FuncId) (xs : List Int) (hl : xs.length ≤ 1000000) (hg : ∀ n, Pure Try.prog g [intV n] (fun x => x = .bool (f n))) :
    Pure Try.prog 106 [pathV xs, .fn (.func g) [] []] (fun x => x = .int .i64 (findIx f 0 xs)) := by
  refine pure_fn 100 Try.func106 rfl rfl rfl fun B => ?_
  show Goes _ _ _ _
  refine goes_iter (ι := Nat) (fun i => i ≤ xs.length ∧ findIx f i (xs.drop i) = findIx f 0 xs) (fun i => xs.length - i) (fun i => [(8, .int .i64 i), (7, .int .i64 (xs.map intV).length), (1, .fn (.func g) [] []), (0, pathV xs)]) (fun _ => []) 0 200 (fun _ => rfl) (fun _ => rfl) ⟨⟨Nat.zero_le _, rfl⟩, ?_, ?_⟩ ?_
  · exact ⟨⟨rfl, rfl⟩, ⟨rfl, rfl⟩, ⟨rfl, rfl⟩, ⟨rfl, rfl⟩, trivial⟩
  · trivial
  · rintro i ⟨h1, h2⟩ next
    refine ⟨fun hlt => go 200 ?_, fun hge => go 200 ?_⟩
    · have hi : i < xs.length := by simpa using hlt
      have hx : (xs.map intV)[i]? = some (intV xs[i]) := by simp [hi]
      rw [drop_cons hi, findIx] at h2
      refine ⟨Int.natCast_nonneg i, _, hx, ?_⟩
      show CallThen _ _ _ _ _ _
      refine call_pure (hg xs[i]) rfl ?_
      rintro x rfl
      refine ⟨fun h => go 200 ?_, fun h => go 200 ?_⟩
      · rw [h] at h2
        exact ⟨trivial, rfl, rfl, rfl, by rw [← h2]; rfl⟩
      · rw [h] at h2
        refine ⟨by constructor <;> omega, ?_⟩
        show Goes _ _ _ _
        exact next (i + 1) _ _ ⟨⟨hi, h2⟩, by omega, ⟨⟨rfl, rfl⟩, ⟨rfl, rfl⟩, ⟨rfl, rfl⟩, ⟨rfl, rfl⟩, trivial⟩, trivial⟩
    · have hi : xs.length ≤ i := by simpa using hge
      rw [List.drop_eq_nil_of_le hi] at h2
      exact ⟨trivial, rfl, rfl, rfl, by rw [← h2]; rfl⟩

theorem w_ContainsInt (f : Int → Bool) (g : FuncId) (xs : List Int) (hl : xs.length ≤ 1000000) (hg : ∀ n, Pure Try.prog g [intV n] (fun x => x = .bool (f n))) :
    Pure Try.prog 82 [pathV xs, .fn (.func g) [] []] (fun x => x = .bool (xs.any f)) := by
  refine pure_fn 100 Try.func82 rfl rfl rfl fun B => ?_
  show CallThen _ _ _ _ _ _
  refine call_pure (w_IndexInt f g xs hl hg) rfl ?_
  rintro x rfl
  exact ⟨trivial, rfl, rfl, rfl, by rw [← findIx_any f xs 0]; rfl⟩

theorem any_not_all (xs : List Int) : (xs.any fun n => !stepOk n) = !xs.all stepOk := by
  induction xs with
  | nil => rfl
  | cons x xs ih => simp [ih]

theorem w_May (p : List Int) : Pure Try.prog 54 [pathV p] (fun x => x = .bool (mayP p)) := by
  refine pure_wk (pure_fn 100 Try.func54 rfl rfl rfl fun B => ?_)
  refine ⟨fun g1 => go 200 ?_, fun g1 => go 200 ?_⟩
  · have g1 : p.length ≤ 64 := by have := le_of g1; simp at this; omega
    show CallThen _ _ _ _ _ _
    refine call_pure (w_ContainsInt (fun n => !stepOk n) _ p (by omega) w_May1) rfl ?_
    rintro x rfl
    exact ⟨trivial, rfl, rfl, rfl, leaf_b (by rw [any_not_all]; simp [mayP, g1])⟩
  · have g1 : 64 < p.length := by have := not_le_of g1; simp at this; omega
    exact ⟨trivial, rfl, rfl, rfl, leaf_ff (by unfold mayP; rw [decide_eq_false (by omega)]; rfl)⟩

theorem w_Key (s : List UInt8) : Pure Try.prog 55 [.str s] (fun x => x = .bool (keyOk s)) := by
  refine pure_wk (pure_fn 100 Try.func55 rfl rfl rfl fun B => ?_)
  refine ⟨fun g1 => go 200 ?_, fun g1 => go 200 ?_⟩
  · have g1 : s ≠ [] := by simpa using g1
    have : 0 < s.length := List.length_pos_iff.2 g1
    exact ⟨trivial, rfl, rfl, rfl, leaf_b (by unfold keyOk; rw [decide_eq_true (p := 1 ≤ s.length) (by omega), Bool.true_and]; simp; omega)⟩
  · have g1 : s = [] := by simpa using g1
    exact ⟨trivial, rfl, rfl, rfl, leaf_ff (by rw [g1]; rfl)⟩
theorem w_refKey (s : List UInt8) : Pure Try.prog 58 [.str s] (fun x => x = .bool (keyOk s)) := by
  refine pure_wk (pure_fn 100 Try.func58 rfl rfl rfl fun B => ?_)
  refine ⟨fun g1 => go 200 ?_, fun g1 => go 200 ?_⟩
  · have g1 : (1 : Int) ≤ s.length := by simpa using g1
    exact ⟨trivial, rfl, rfl, rfl, leaf_b (by unfold keyOk; rw [decide_eq_true (p := 1 ≤ s.length) (by omega), Bool.true_and]; simp; omega)⟩
  · have g1 : ¬ (1 : Int) ≤ s.length := by simpa using g1
    exact ⟨trivial, rfl, rfl, rfl, leaf_ff (by unfold keyOk; rw [decide_eq_false (p := 1 ≤ s.length) (by omega)]; rfl)⟩
end Bow
/- W7: pieces that are right; Formed. -/
namespace Bow
open Go Go.Proofs

theorem may_cons_drop (p : List Int) (i : Nat) (h : i < p.length) : (p.drop i).all stepOk = (stepOk p[i] && (p.drop (i + 1)).all stepOk) := by rw [drop_cons h, List.all_cons]

set_option maxRecDepth 100000 in
theorem w_refMay (p : List Int) (hp : p.length ≤ 1000000) : Pure Try.prog 57 [pathV p] (fun x => x = .bool (mayP p)) := by
  refine pure_wk (pure_fn 100 Try.func57 rfl rfl rfl fun B => ?_)
  show Goes _ _ _ _
  refine goes_iter (ι := Nat) (fun i => i ≤ p.length ∧ i ≤ 64 ∧ mayP p = (decide (p.length ≤ 64) && (p.drop i).all stepOk)) (fun i => p.length - i) (fun i => [(3, .int .i64 i), (0, pathV p)]) (fun _ => []) 0 200 (fun _ => rfl) (fun _ => rfl) ⟨⟨Nat.zero_le _, Nat.zero_le _, rfl⟩, ?_, ?_⟩ ?_
  · exact ⟨⟨rfl, rfl⟩, ⟨rfl, rfl⟩, trivial⟩
  · trivial
  · rintro i ⟨h1, h3, h2⟩ next
    refine ⟨fun hlt => go 200 ?_, fun hge => go 200 ?_⟩
    · have hi : i < p.length := by simpa using hlt
      have hx : (p.map intV)[i]? = some (intV p[i]) := by simp [hi]
      rw [may_cons_drop p i hi] at h2
      refine ⟨fun g1 => go 200 ?_, fun g1 => go 200 ?_⟩
      · have g1 : (64 : Int) ≤ i := by simpa using g1
        exact ⟨trivial, rfl, rfl, rfl, leaf_ff (by rw [h2, decide_eq_false (p := p.length ≤ 64) (by omega)]; rfl)⟩
      have g1 : ¬ (64 : Int) ≤ i := by simpa using g1
      refine ⟨Int.natCast_nonneg i, _, hx, ?_⟩
      refine ⟨fun g2 => go 200 ?_, fun g2 => go 200 ?_⟩
      · have g2 := lt_of g2
        exact ⟨trivial, rfl, rfl, rfl, leaf_ff (by rw [h2]; unfold stepOk; rw [decide_eq_false (p := 0 ≤ p[i]) (by omega)]; simp)⟩
      have g2 := not_lt_of g2
      refine ⟨Int.natCast_nonneg i, _, hx, ?_⟩
      refine ⟨fun g3 => go 200 ?_, fun g3 => go 200 ?_⟩
      · have g3 := le_of g3
        exact ⟨trivial, rfl, rfl, rfl, leaf_ff (by rw [h2]; unfold stepOk; rw [decide_eq_false (p := p[i] < 1048576) (by omega)]; simp)⟩
      have g3 := not_le_of g3
      refine ⟨by constructor <;> omega, ?_⟩
      show Goes _ _ _ _
      refine next (i + 1) _ _ ⟨⟨hi, by omega, ?_⟩, by omega, ⟨⟨rfl, rfl⟩, ⟨rfl, rfl⟩, trivial⟩, trivial⟩
      have : stepOk p[i] = true := by unfold stepOk; rw [decide_eq_true (by omega), decide_eq_true (by omega)]; rfl
      rw [h2, this, Bool.true_and]
    · have hi : p.length ≤ i := by simpa using hge
      rw [List.drop_eq_nil_of_le hi] at h2
      exact ⟨trivial, rfl, rfl, rfl, leaf_tt (by rw [h2, decide_eq_true (p := p.length ≤ 64) (by omega)]; rfl)⟩

theorem rightGo_bad {n : Nat} {p : PieceT} {l : List PieceT} (h : p.keep < 0 ∨ 1048576 < p.keep ∨ p.drop < 0 ∨ 1048576 < p.drop ∨ 1048576 < n + p.put.length) : rightGo n (p :: l) = false := by
  rw [rightGo]
  rcases h with h | h | h | h | h
  · rw [decide_eq_false (p := 0 ≤ p.keep) (by omega)]; rfl
  · rw [decide_eq_false (p := p.keep ≤ 1048576) (by omega)]; simp
  · rw [decide_eq_false (p := 0 ≤ p.drop) (by omega)]; simp
  · rw [decide_eq_false (p := p.drop ≤ 1048576) (by omega)]; simp
  · rw [decide_eq_false (p := n + p.put.length ≤ 1048576) (by omega)]; simp
theorem rightGo_good {n : Nat} {p : PieceT} {l : List PieceT} (h1 : 0 ≤ p.keep) (h2 : p.keep ≤ 1048576) (h3 : 0 ≤ p.drop) (h4 : p.drop ≤ 1048576) (h5 : n + p.put.length ≤ 1048576) : rightGo n (p :: l) = rightGo (n + p.put.length) l := by
  rw [rightGo, decide_eq_true h1, decide_eq_true h2, decide_eq_true h3, decide_eq_true h4, decide_eq_true h5]
  rfl

set_option maxRecDepth 100000 in
theorem w_Right (l : List PieceT) (hl : l.length ≤ 1000000) (hpl : ∀ p ∈ l, p.put.length ≤ 1000000000) : Pure Try.prog 56 [piecesV l] (fun x => x = .bool (rightP l)) := by
  refine pure_wk (pure_fn 100 Try.func56 rfl rfl rfl fun B => ?_)
  refine ⟨fun g0 => go 200 ?_, fun g0 => go 200 ?_⟩
  · have g0 : 4096 < l.length := by have := lt_of g0; simp at this; omega
    exact ⟨trivial, rfl, rfl, rfl, leaf_ff (by unfold rightP; rw [decide_eq_false (by omega)]; rfl)⟩
  have g0 : l.length ≤ 4096 := by have := not_lt_of g0; simp at this; omega
  show Goes _ _ _ _
  refine goes_iter (ι := Nat × Nat) (fun i => i.1 ≤ l.length ∧ i.2 ≤ 1048576 ∧ rightP l = rightGo i.2 (l.drop i.1)) (fun i => l.length - i.1) (fun i => [(11, .int .i64 i.1), (10, .int .i64 (l.map pieceV).length), (9, piecesV l), (3, .int .i64 i.2)]) (fun _ => []) (0, 0) 200 (fun _ => rfl) (fun _ => rfl) ⟨⟨Nat.zero_le _, Nat.zero_le _, ?_⟩, ?_, ?_⟩ ?_
  · unfold rightP
    rw [decide_eq_true g0]
    rfl
  · exact ⟨⟨rfl, rfl⟩, ⟨rfl, rfl⟩, ⟨rfl, rfl⟩, ⟨rfl, rfl⟩, trivial⟩
  · trivial
  · rintro ⟨i, n⟩ ⟨h1, h3, h2⟩ next
    simp only at h1 h2 h3
    refine ⟨fun hlt => go 200 ?_, fun hge => go 200 ?_⟩
    · have hi : i < l.length := by simpa using hlt
      have hx : (l.map pieceV)[i]? = some (pieceV l[i]) := by simp [hi]
      have hput := hpl l[i] (List.getElem_mem hi)
      rw [drop_cons hi] at h2
      refine ⟨Int.natCast_nonneg i, _, hx, ?_⟩
      refine ⟨fun g1 => go 200 ?_, fun g1 => go 200 ?_⟩
      · have g1 := lt_of g1
        refine ⟨trivial, rfl, rfl, rfl, leaf_ff ?_⟩
        rw [h2]
        refine rightGo_bad ?_
        split at g1 <;> omega
      have g1 := not_lt_of g1
      have q1 : 0 ≤ (l[i]).keep ∧ 0 ≤ (l[i]).drop := by split at g1 <;> omega
      refine ⟨fun g2 => go 200 ?_, fun g2 => go 200 ?_⟩
      · have g2 := lt_of g2
        refine ⟨trivial, rfl, rfl, rfl, leaf_ff ?_⟩
        rw [h2]
        refine rightGo_bad ?_
        split at g2 <;> omega
      have g2 := not_lt_of g2
      have q2 : (l[i]).keep ≤ 1048576 ∧ (l[i]).drop ≤ 1048576 := by split at g2 <;> omega
      refine ⟨by constructor <;> omega, ?_⟩
      refine ⟨fun g3 => go 200 ?_, fun g3 => go 200 ?_⟩
      · have g3 := lt_of g3
        refine ⟨trivial, rfl, rfl, rfl, leaf_ff ?_⟩
        rw [h2]
        exact rightGo_bad (by omega)
      have g3 := not_lt_of g3
      refine ⟨by constructor <;> omega, ?_⟩
      refine ⟨by constructor <;> omega, ?_⟩
      show Goes _ _ _ _
      refine next (i + 1, n + (l[i]).put.length) _ _ ⟨⟨hi, by simp only; omega, ?_⟩, ?_, ⟨⟨rfl, rfl⟩, ⟨rfl, rfl⟩, ⟨rfl, rfl⟩, ⟨rfl, rfl⟩, trivial⟩, trivial⟩
      · rw [h2]
        exact rightGo_good q1.1 q2.1 q1.2 q2.2 (by omega)
      · simp only; omega
    · have hi : l.length ≤ i := by simpa using hge
      rw [List.drop_eq_nil_of_le hi] at h2
      exact ⟨trivial, rfl, rfl, rfl, leaf_tt h2⟩

set_option maxRecDepth 100000 in
theorem w_refRight (l : List PieceT) (hl : l.length ≤ 1000000) (hpl : ∀ p ∈ l, p.put.length ≤ 1000000000) : Pure Try.prog 59 [piecesV l] (fun x => x = .bool (rightP l)) := by
  refine pure_wk (pure_fn 100 Try.func59 rfl rfl rfl fun B => ?_)
  refine ⟨fun g0 => go 200 ?_, fun g0 => go 200 ?_⟩
  · have g0 : 4096 < l.length := by have := lt_of g0; simp at this; omega
    exact ⟨trivial, rfl, rfl, rfl, leaf_ff (by unfold rightP; rw [decide_eq_false (by omega)]; rfl)⟩
  have g0 : l.length ≤ 4096 := by have := not_lt_of g0; simp at this; omega
  show Goes _ _ _ _
  refine goes_iter (ι := Nat × Nat) (fun i => i.1 ≤ l.length ∧ i.2 ≤ 1048576 ∧ rightP l = rightGo i.2 (l.drop i.1)) (fun i => l.length - i.1) (fun i => [(4, .int .i64 i.1), (0, piecesV l), (3, .int .i64 i.2)]) (fun _ => []) (0, 0) 200 (fun _ => rfl) (fun _ => rfl) ⟨⟨Nat.zero_le _, Nat.zero_le _, ?_⟩, ?_, ?_⟩ ?_
  · unfold rightP
    rw [decide_eq_true g0]
    rfl
  · exact ⟨⟨rfl, rfl⟩, ⟨rfl, rfl⟩, ⟨rfl, rfl⟩, trivial⟩
  · trivial
  · rintro ⟨i, n⟩ ⟨h1, h3, h2⟩ next
    simp only at h1 h2 h3
    refine ⟨fun hlt => go 200 ?_, fun hge => go 200 ?_⟩
    · have hi : i < l.length := by simpa using hlt
      have hx : (l.map pieceV)[i]? = some (pieceV l[i]) := by simp [hi]
      have hput := hpl l[i] (List.getElem_mem hi)
      rw [drop_cons hi] at h2
      refine ⟨Int.natCast_nonneg i, _, hx, ?_⟩
      refine ⟨fun g1 => go 200 ?_, fun g1 => go 200 ?_⟩
      · have g1 := lt_of g1
        exact ⟨trivial, rfl, rfl, rfl, leaf_ff (by rw [h2]; exact rightGo_bad (by omega))⟩
      have g1 := not_lt_of g1
      refine ⟨Int.natCast_nonneg i, _, hx, ?_⟩
      refine ⟨fun g2 => go 200 ?_, fun g2 => go 200 ?_⟩
      · have g2 := lt_of g2
        exact ⟨trivial, rfl, rfl, rfl, leaf_ff (by rw [h2]; exact rightGo_bad (by omega))⟩
      have g2 := not_lt_of g2
      refine ⟨Int.natCast_nonneg i, _, hx, ?_⟩
      refine ⟨fun g3 => go 200 ?_, fun g3 => go 200 ?_⟩
      · have g3 := lt_of g3
        exact ⟨trivial, rfl, rfl, rfl, leaf_ff (by rw [h2]; exact rightGo_bad (by omega))⟩
      have g3 := not_lt_of g3
      refine ⟨Int.natCast_nonneg i, _, hx, ?_⟩
      refine ⟨fun g4 => go 200 ?_, fun g4 => go 200 ?_⟩
      · have g4 := lt_of g4
        exact ⟨trivial, rfl, rfl, rfl, leaf_ff (by rw [h2]; exact rightGo_bad (by omega))⟩
      have g4 := not_lt_of g4
      refine ⟨Int.natCast_nonneg i, _, hx, ?_⟩
      refine ⟨by constructor <;> omega, ?_⟩
      refine ⟨fun g5 => go 200 ?_, fun g5 => go 200 ?_⟩
      · have g5 := lt_of g5
        exact ⟨trivial, rfl, rfl, rfl, leaf_ff (by rw [h2]; exact rightGo_bad (by omega))⟩
      have g5 := not_lt_of g5
      refine ⟨Int.natCast_nonneg i, _, hx, ?_⟩
      refine ⟨by constructor <;> omega, ?_⟩
      refine ⟨by constructor <;> omega, ?_⟩
      show Goes _ _ _ _
      refine next (i + 1, n + (l[i]).put.length) _ _ ⟨⟨hi, by simp only; omega, ?_⟩, ?_, ⟨⟨rfl, rfl⟩, ⟨rfl, rfl⟩, ⟨rfl, rfl⟩, trivial⟩, trivial⟩
      · rw [h2]
        exact rightGo_good (by omega) (by omega) (by omega) (by omega) (by omega)
      · simp only; omega
    · have hi : l.length ≤ i := by simpa using hge
      rw [List.drop_eq_nil_of_le hi] at h2
      exact ⟨trivial, rfl, rfl, rfl, leaf_tt h2⟩
end Bow
/- W8: Formed. -/
namespace Bow
open Go Go.Proofs

set_option maxRecDepth 100000 in
theorem w_Formed (o : OpT) (ho : o.Lt 1000000) (hpl : ∀ p ∈ o.pieces, p.put.length ≤ 1000000000) : Pure Try.prog 22 [opV o] (fun x => x = .bool (formedB o)) := by
  have hm := w_May o.path
  have hm2 := w_May o.to
  have hk := w_Key o.key
  have hr := w_Right o.pieces ho.pieces hpl
  refine pure_wk (pure_fn 300 Try.func22 rfl rfl rfl fun B => ?_)
  clear ho hpl
  repeat' first
    | (refine ⟨fun _ => go 300 ?_, fun _ => go 300 ?_⟩)
    | (show CallThen _ _ _ _ _ _; refine call_pure hm rfl ?_; rintro x rfl)
    | (show CallThen _ _ _ _ _ _; refine call_pure hm2 rfl ?_; rintro x rfl)
    | (show CallThen _ _ _ _ _ _; refine call_pure hk rfl ?_; rintro x rfl)
    | (show CallThen _ _ _ _ _ _; refine call_pure hr rfl ?_; rintro x rfl)
    | (refine ⟨trivial, rfl, rfl, rfl, leaf_tt ?_⟩)
    | (refine ⟨trivial, rfl, rfl, rfl, leaf_ff ?_⟩)
    | (refine ⟨trivial, rfl, rfl, rfl, leaf_b ?_⟩)
    | fail
  all_goals (first | (simp_all [formedB, gapOk]; done) | (simp_all [formedB, gapOk]; intros; omega))

set_option maxRecDepth 100000 in
theorem w_refFormed (o : OpT) (ho : o.Lt 1000000) (hpl : ∀ p ∈ o.pieces, p.put.length ≤ 1000000000) : Pure Try.prog 23 [opV o] (fun x => x = .bool (formedB o)) := by
  have hm := w_refMay o.path ho.path
  have hm2 := w_refMay o.to ho.to
  have hk := w_refKey o.key
  have hr := w_refRight o.pieces ho.pieces hpl
  refine pure_wk (pure_fn 300 Try.func23 rfl rfl rfl fun B => ?_)
  clear ho hpl
  repeat' first
    | (refine ⟨fun _ => go 300 ?_, fun _ => go 300 ?_⟩)
    | (show CallThen _ _ _ _ _ _; refine call_pure hm rfl ?_; rintro x rfl)
    | (show CallThen _ _ _ _ _ _; refine call_pure hm2 rfl ?_; rintro x rfl)
    | (show CallThen _ _ _ _ _ _; refine call_pure hk rfl ?_; rintro x rfl)
    | (show CallThen _ _ _ _ _ _; refine call_pure hr rfl ?_; rintro x rfl)
    | (refine ⟨trivial, rfl, rfl, rfl, leaf_tt ?_⟩)
    | (refine ⟨trivial, rfl, rfl, rfl, leaf_ff ?_⟩)
    | (refine ⟨trivial, rfl, rfl, rfl, leaf_b ?_⟩)
    | fail
  all_goals (first | (simp_all [formedB, gapOk]; done) | (simp_all [formedB, gapOk]; intros; omega))

set_option maxRecDepth 100000 in
/-- Light: within the bound, the lengths and what is put. -/
theorem w_Light (o : OpT) (top : Nat) (ht : top ≤ 1000000) : Pure Try.prog 21 [opV o, .int .i64 top] (fun x => ∃ b : Bool, x = .bool b ∧ (b = true → o.Lt top ∧ putsLen o.pieces ≤ top)) := by
  have bad : ∃ y, Wk .ff y ∧ y.pureB = true ∧ ∃ b : Bool, y = .bool b ∧ (b = true → o.Lt top ∧ putsLen o.pieces ≤ top) := ⟨_, Wk.ff, rfl, false, rfl, fun h => by cases h⟩
  refine pure_wk (pure_fn 300 Try.func21 rfl rfl rfl fun B => ?_)
  refine ⟨fun g1 => go 300 ?_, fun g1 => go 300 ?_⟩
  · exact ⟨trivial, rfl, rfl, rfl, bad⟩
  refine ⟨fun g2 => go 300 ?_, fun g2 => go 300 ?_⟩
  · exact ⟨trivial, rfl, rfl, rfl, bad⟩
  refine ⟨fun g3 => go 300 ?_, fun g3 => go 300 ?_⟩
  · exact ⟨trivial, rfl, rfl, rfl, bad⟩
  refine ⟨fun g4 => go 300 ?_, fun g4 => go 300 ?_⟩
  · exact ⟨trivial, rfl, rfl, rfl, bad⟩
  refine ⟨fun g5 => go 300 ?_, fun g5 => go 300 ?_⟩
  · exact ⟨trivial, rfl, rfl, rfl, bad⟩
  refine ⟨fun g6 => go 300 ?_, fun g6 => go 300 ?_⟩
  · exact ⟨trivial, rfl, rfl, rfl, bad⟩
  have g1 := not_lt_of g1
  have g2 := not_lt_of g2
  have g3 := not_lt_of g3
  have g4 := not_lt_of g4
  have g5 := not_lt_of g5
  have g6 := not_lt_of g6
  simp only [List.length_map] at g1 g2 g6
  have hlt : o.Lt top := ⟨by omega, by omega, by omega, by omega, by omega, by omega⟩
  show Goes _ _ _ _
  refine goes_iter (ι := Nat × Nat) (fun i => i.1 ≤ o.pieces.length ∧ i.2 ≤ top ∧ putsLen o.pieces = i.2 + putsLen (o.pieces.drop i.1)) (fun i => o.pieces.length - i.1) (fun i => [(6, .int .i64 i.1), (5, .int .i64 i.2), (1, .int .i64 top), (2, .ptr (.loc 0) 0)]) (fun _ => [some (.box (opV o).cells)]) (0, 0) 200 (fun _ => rfl) (fun _ => rfl) ⟨⟨Nat.zero_le _, Nat.zero_le _, by simp⟩, ?_, ?_⟩ ?_
  · exact ⟨⟨rfl, rfl⟩, ⟨rfl, rfl⟩, ⟨rfl, rfl⟩, ⟨rfl, rfl⟩, trivial⟩
  · exact ⟨⟨rfl, rfl⟩, trivial⟩
  · rintro ⟨i, n⟩ ⟨h1, h3, h2⟩ next
    simp only at h1 h2 h3
    refine ⟨fun hlt => go 200 ?_, fun hge => go 200 ?_⟩
    · have hi : i < o.pieces.length := by simpa using hlt
      have hx : (o.pieces.map pieceV)[i]? = some (pieceV o.pieces[i]) := by simp [hi]
      rw [drop_cons hi] at h2
      have h2 : putsLen o.pieces = n + ((o.pieces[i]).put.length + putsLen (o.pieces.drop (i + 1))) := h2
      refine ⟨Int.natCast_nonneg i, _, hx, ?_⟩
      refine ⟨by constructor <;> omega, ?_⟩
      refine ⟨fun g7 => go 200 ?_, fun g7 => go 200 ?_⟩
      · exact ⟨trivial, rfl, rfl, rfl, bad⟩
      have g7 := not_lt_of g7
      refine ⟨Int.natCast_nonneg i, _, hx, ?_⟩
      refine ⟨by constructor <;> omega, ?_⟩
      refine ⟨by constructor <;> omega, ?_⟩
      show Goes _ _ _ _
      refine next (i + 1, n + (o.pieces[i]).put.length) _ _ ⟨⟨hi, by simp only; omega, by simp only; omega⟩, ?_, ⟨⟨rfl, rfl⟩, ⟨rfl, rfl⟩, ⟨rfl, rfl⟩, ⟨rfl, rfl⟩, trivial⟩, ⟨⟨rfl, rfl⟩, trivial⟩⟩
      simp only; omega
    · have hi : o.pieces.length ≤ i := by simpa using hge
      rw [List.drop_eq_nil_of_le hi] at h2
      have h2 : putsLen o.pieces = n + 0 := h2
      exact ⟨trivial, rfl, rfl, rfl, _, Wk.tt, rfl, true, rfl, fun _ => ⟨hlt, by omega⟩⟩

/-- A list, light. -/
structure LightL (l : List OpT) (count top : Nat) : Prop where
  len : l.length ≤ count
  ops : ∀ o ∈ l, o.Lt top ∧ putsLen o.pieces ≤ top
def opsV (l : List OpT) : V := .sl 11 (l.map opV)
set_option maxRecDepth 100000 in
theorem w_LightList (l : List OpT) (count top : Nat) (hc : count ≤ 1000000) (ht : top ≤ 1000000) : Pure Try.prog 18 [opsV l, .int .i64 count, .int .i64 top] (fun x => ∃ b : Bool, x = .bool b ∧ (b = true → LightL l count top)) := by
  have bad : ∃ y, Wk .ff y ∧ y.pureB = true ∧ ∃ b : Bool, y = .bool b ∧ (b = true → LightL l count top) := ⟨_, Wk.ff, rfl, false, rfl, fun h => by cases h⟩
  refine pure_wk (pure_fn 300 Try.func18 rfl rfl rfl fun B => ?_)
  refine ⟨fun g1 => go 300 ?_, fun g1 => go 300 ?_⟩
  · exact ⟨trivial, rfl, rfl, rfl, bad⟩
  have g1 := not_lt_of g1
  simp only [List.length_map] at g1
  show Goes _ _ _ _
  refine goes_iter (ι := Nat) (fun i => i ≤ l.length ∧ ∀ o ∈ l.take i, o.Lt top ∧ putsLen o.pieces ≤ top) (fun i => l.length - i) (fun i => [(7, .int .i64 i), (2, .int .i64 top), (0, opsV l)]) (fun _ => []) 0 200 (fun _ => rfl) (fun _ => rfl) ⟨⟨Nat.zero_le _, by simp⟩, ?_, ?_⟩ ?_
  · exact ⟨⟨rfl, rfl⟩, ⟨rfl, rfl⟩, ⟨rfl, rfl⟩, trivial⟩
  · trivial
  · rintro i ⟨h1, h2⟩ next
    refine ⟨fun hlt => go 200 ?_, fun hge => go 200 ?_⟩
    · have hi : i < l.length := by simpa using hlt
      have hx : (l.map opV)[i]? = some (opV l[i]) := by simp [hi]
      refine ⟨Int.natCast_nonneg i, _, hx, ?_⟩
      show CallThen _ _ _ _ _ _
      refine call_pure (w_Light l[i] top ht) rfl ?_
      rintro x ⟨b, rfl, hb⟩
      refine ⟨fun g => go 200 ?_, fun g => go 200 ?_⟩
      · exact ⟨trivial, rfl, rfl, rfl, bad⟩
      have g : b = true := by simpa using g
      refine ⟨by constructor <;> omega, ?_⟩
      show Goes _ _ _ _
      refine next (i + 1) _ _ ⟨⟨hi, fun o ho => ?_⟩, by omega, ⟨⟨rfl, rfl⟩, ⟨rfl, rfl⟩, ⟨rfl, rfl⟩, trivial⟩, trivial⟩
      rw [List.take_add_one, List.getElem?_eq_getElem hi] at ho
      rcases List.mem_append.1 ho with ho | ho
      · exact h2 o ho
      · simp at ho
        subst ho
        exact hb g
    · have hi : l.length ≤ i := by simpa using hge
      rw [List.take_of_length_le hi] at h2
      exact ⟨trivial, rfl, rfl, rfl, _, Wk.tt, rfl, true, rfl, fun _ => ⟨by omega, h2⟩⟩
end Bow
/- W9: Bare; puts; Fits. -/
namespace Bow
open Go Go.Proofs

theorem w_someInt (p : List Int) (h : p.length ≤ 1000000) : Pure Try.prog 77 [pathV p] (fun x => x = pathV p) := by
  refine pure_fn 100 Try.func77 rfl rfl rfl fun B => ?_
  refine ⟨Nat.le_trans (Nat.mul_le_mul_right _ (show (p.map intV).length ≤ 1000000 by simpa using h)) (by decide), ?_⟩
  exact ⟨trivial, rfl, rfl, rfl, rfl, rfl, rfl⟩
theorem w_somePiece (p : List PieceT) (h : p.length ≤ 1000000) : Pure Try.prog 78 [piecesV p] (fun x => x = piecesV p) := by
  refine pure_fn 100 Try.func78 rfl rfl rfl fun B => ?_
  refine ⟨Nat.le_trans (Nat.mul_le_mul_right _ (show (p.map pieceV).length ≤ 1000000 by simpa using h)) (by decide), ?_⟩
  exact ⟨trivial, rfl, rfl, rfl, rfl, rfl, rfl⟩

/-- An operation as a literal lays it. -/
theorem wk_op {o : OpT} {cs : List V} (h : WkL cs (opV o).cells) : Wk (.agg cs) (opV o) := Wk.agg h

set_option maxRecDepth 100000 in
theorem w_Bare (o : OpT) (ho : o.Lt 1000000) : Pure Try.prog 42 [opV o] (fun x => x = opV (bareO o)) := by
  refine pure_wk (pure_fn 300 Try.func42 rfl rfl rfl fun B => ?_)
  show Goes _ _ _ _
  refine goes_draw 300 ?_
  refine ⟨_, w_someInt o.path ho.path, rfl, ?_⟩
  refine ⟨by kernel_rfl, ?_⟩
  refine ⟨by kernel_rfl, ?_⟩
  have hp := ho.path
  have ht := ho.to
  have hpc := ho.pieces
  refine ⟨fun g1 => go 300 ?_, fun g1 => go 300 ?_⟩
  · have g1 := eq_of g1
    show Goes _ _ _ _
    refine goes_draw 300 ?_
    refine ⟨by kernel_rfl, ?_⟩
    refine ⟨trivial, rfl, rfl, rfl, _, ?_, ?_, rfl⟩
    · simp only [bareO, g1]
      refine wk_op ⟨.refl _, .refl _, .refl _, Wk.nil 1, .refl _, .refl _, .refl _, .refl _, .refl _, Wk.ff, Wk.nil 3, trivial⟩
    · rfl
  refine ⟨fun g2 => go 300 ?_, fun g2 => go 300 ?_⟩
  · have g2 := eq_of g2
    refine ⟨trivial, rfl, rfl, rfl, _, ?_, ?_, rfl⟩
    · simp only [bareO, g2]
      refine wk_op ⟨.refl _, .refl _, .refl _, Wk.nil 1, .refl _, Wk.ff, .refl _, .refl _, .refl _, Wk.ff, Wk.nil 3, trivial⟩
    · rfl
  refine ⟨fun g3 => go 300 ?_, fun g3 => go 300 ?_⟩
  · have g3 := eq_of g3
    show Goes _ _ _ _
    refine goes_draw 300 ?_
    refine ⟨_, w_someInt o.to ho.to, rfl, ?_⟩
    refine ⟨by kernel_rfl, ?_⟩
    refine ⟨trivial, rfl, rfl, rfl, _, ?_, ?_, rfl⟩
    · simp only [bareO, g3]
      refine wk_op ⟨.refl _, .refl _, .refl _, .refl _, .refl _, Wk.ff, .refl _, .refl _, .refl _, Wk.ff, Wk.nil 3, trivial⟩
    · rfl
  refine ⟨fun g4 => go 300 ?_, fun g4 => go 300 ?_⟩
  · have g4 := eq_of g4
    show Goes _ _ _ _
    refine goes_draw 300 ?_
    refine ⟨by kernel_rfl, ?_⟩
    refine ⟨fun h => go 300 ?_, fun h => go 300 ?_⟩
    · have h : o.gone = false := by simpa using h
      refine ⟨trivial, rfl, rfl, rfl, _, ?_, ?_, rfl⟩
      · simp only [bareO, g4, h]
        refine wk_op ⟨.refl _, .refl _, .refl _, Wk.nil 1, .refl _, Wk.ff, .refl _, .refl _, .refl _, .refl _, Wk.nil 3, trivial⟩
      · rfl
    · have h : o.gone = true := by simpa using h
      refine ⟨trivial, rfl, rfl, rfl, _, ?_, ?_, rfl⟩
      · simp only [bareO, g4, h]
        refine wk_op ⟨.refl _, .refl _, .refl _, Wk.nil 1, .refl _, Wk.ff, .refl _, .refl _, .refl _, .refl _, Wk.nil 3, trivial⟩
      · rfl
  refine ⟨fun g5 => go 300 ?_, fun g5 => go 300 ?_⟩
  · have g5 := eq_of g5
    refine ⟨trivial, rfl, rfl, rfl, _, ?_, ?_, rfl⟩
    · simp only [bareO, g5]
      refine wk_op ⟨.refl _, .refl _, .refl _, Wk.nil 1, .refl _, Wk.ff, .refl _, .refl _, .refl _, Wk.ff, Wk.nil 3, trivial⟩
    · rfl
  refine ⟨fun g6 => go 300 ?_, fun g6 => go 300 ?_⟩
  · have g6 := eq_of g6
    show CallThen _ _ _ _ _ _
    refine call_pure (w_somePiece o.pieces ho.pieces) rfl ?_
    rintro x rfl
    refine ⟨trivial, rfl, rfl, rfl, _, ?_, ?_, rfl⟩
    · simp only [bareO, g6]
      refine wk_op ⟨.refl _, .refl _, .refl _, Wk.nil 1, .refl _, Wk.ff, .refl _, .refl _, .refl _, Wk.ff, .refl _, trivial⟩
    · rfl
  · have g1 := ne_of g1
    have g2 := ne_of g2
    have g3 := ne_of g3
    have g4 := ne_of g4
    have g5 := ne_of g5
    have g6 := ne_of g6
    refine ⟨trivial, rfl, rfl, rfl, _, ?_, ?_, rfl⟩
    · have e : bareO o = noOp o.kind := by
        unfold bareO
        rw [show (o.kind == 1) = false by simpa using g1, show (o.kind == 2) = false by simpa using g2, show (o.kind == 3) = false by simpa using g3, show (o.kind == 4) = false by simpa using g4, show (o.kind == 5) = false by simpa using g5, show (o.kind == 6) = false by simpa using g6]
        rfl
      rw [e]
      refine wk_op ⟨.refl _, Wk.nil 1, .refl _, Wk.nil 1, .refl _, Wk.ff, .refl _, .refl _, .refl _, Wk.ff, Wk.nil 3, trivial⟩
    · rfl
end Bow
/- W10: the reference's Bare; puts; Fits. -/
namespace Bow
open Go Go.Proofs

theorem room_of {n b : Nat} (h : n ≤ 1000000) (hb : b ≤ 70368744) : room n b := Nat.le_trans (Nat.mul_le_mul h hb) (by decide)

set_option maxRecDepth 100000 in
theorem w_refBare (o : OpT) (ho : o.Lt 1000000) : Pure Try.prog 43 [opV o] (fun x => x = opV (bareO o)) := by
  refine pure_wk (pure_fn 300 Try.func43 rfl rfl rfl fun B => ?_)
  have hp := ho.path
  have ht := ho.to
  have hpc := ho.pieces
  refine ⟨room_of (by simpa using ho.path) (by decide), ?_⟩
  refine ⟨room_of (by simpa using ho.to) (by decide), ?_⟩
  refine ⟨fun g1 => go 300 ?_, fun g1 => go 300 ?_⟩
  · have g1 := eq_of g1
    refine ⟨trivial, rfl, rfl, rfl, rfl, rfl, _, ?_, ?_, rfl⟩
    · simp only [bareO, g1]
      refine wk_op ⟨.refl _, .refl _, .refl _, Wk.nil 1, .refl _, .refl _, .refl _, .refl _, .refl _, Wk.ff, Wk.nil 3, trivial⟩
    · rfl
  refine ⟨fun g2 => go 300 ?_, fun g2 => go 300 ?_⟩
  · have g2 := eq_of g2
    refine ⟨trivial, rfl, rfl, rfl, rfl, rfl, _, ?_, ?_, rfl⟩
    · simp only [bareO, g2]
      refine wk_op ⟨.refl _, .refl _, .refl _, Wk.nil 1, .refl _, Wk.ff, .refl _, .refl _, .refl _, Wk.ff, Wk.nil 3, trivial⟩
    · rfl
  refine ⟨fun g3 => go 300 ?_, fun g3 => go 300 ?_⟩
  · have g3 := eq_of g3
    refine ⟨trivial, rfl, rfl, rfl, rfl, rfl, rfl, rfl, _, ?_, ?_, rfl⟩
    · simp only [bareO, g3]
      refine wk_op ⟨.refl _, .refl _, .refl _, .refl _, .refl _, Wk.ff, .refl _, .refl _, .refl _, Wk.ff, Wk.nil 3, trivial⟩
    · rfl
  refine ⟨fun g4 => go 300 ?_, fun g4 => go 300 ?_⟩
  · have g4 := eq_of g4
    refine ⟨fun h => go 300 ?_, fun h => go 300 ?_⟩
    · have h : o.gone = false := by simpa using h
      refine ⟨trivial, rfl, rfl, rfl, rfl, rfl, _, ?_, ?_, rfl⟩
      · simp only [bareO, g4, h]
        refine wk_op ⟨.refl _, .refl _, .refl _, Wk.nil 1, .refl _, Wk.ff, .refl _, .refl _, .refl _, .refl _, Wk.nil 3, trivial⟩
      · rfl
    · have h : o.gone = true := by simpa using h
      refine ⟨trivial, rfl, rfl, rfl, rfl, rfl, _, ?_, ?_, rfl⟩
      · simp only [bareO, g4, h]
        refine wk_op ⟨.refl _, .refl _, .refl _, Wk.nil 1, .refl _, Wk.ff, .refl _, .refl _, .refl _, .refl _, Wk.nil 3, trivial⟩
      · rfl
  refine ⟨fun g5 => go 300 ?_, fun g5 => go 300 ?_⟩
  · have g5 := eq_of g5
    refine ⟨trivial, rfl, rfl, rfl, rfl, rfl, _, ?_, ?_, rfl⟩
    · simp only [bareO, g5]
      refine wk_op ⟨.refl _, .refl _, .refl _, Wk.nil 1, .refl _, Wk.ff, .refl _, .refl _, .refl _, Wk.ff, Wk.nil 3, trivial⟩
    · rfl
  refine ⟨fun g6 => go 300 ?_, fun g6 => go 300 ?_⟩
  · have g6 := eq_of g6
    refine ⟨room_of (by simpa using ho.pieces) (by decide), ?_⟩
    refine ⟨trivial, rfl, rfl, rfl, rfl, rfl, rfl, rfl, _, ?_, ?_, rfl⟩
    · simp only [bareO, g6]
      refine wk_op ⟨.refl _, .refl _, .refl _, Wk.nil 1, .refl _, Wk.ff, .refl _, .refl _, .refl _, Wk.ff, .refl _, trivial⟩
    · rfl
  · have g1 := ne_of g1
    have g2 := ne_of g2
    have g3 := ne_of g3
    have g4 := ne_of g4
    have g5 := ne_of g5
    have g6 := ne_of g6
    refine ⟨trivial, rfl, rfl, rfl, _, ?_, ?_, rfl⟩
    · have e : bareO o = noOp o.kind := by
        unfold bareO
        rw [show (o.kind == 1) = false by simpa using g1, show (o.kind == 2) = false by simpa using g2, show (o.kind == 3) = false by simpa using g3, show (o.kind == 4) = false by simpa using g4, show (o.kind == 5) = false by simpa using g5, show (o.kind == 6) = false by simpa using g6]
        rfl
      rw [e]
      refine wk_op ⟨.refl _, Wk.nil 1, .refl _, Wk.nil 1, .refl _, Wk.ff, .refl _, .refl _, .refl _, Wk.ff, Wk.nil 3, trivial⟩
    · rfl

/-! ### What is put -/
def putsO (o : OpT) : Nat := o.label.length + o.key.length + o.value.length + putsLen o.pieces
theorem putsLen_cons (p : PieceT) (l : List PieceT) : putsLen (p :: l) = p.put.length + putsLen l := rfl
theorem bare_lt {o : OpT} {n : Nat} (h : o.Lt n) : (bareO o).Lt n := by
  unfold bareO noOp
  rcases Bool.eq_false_or_eq_true (o.kind == 1) with e | e <;> rw [e] <;> simp only [cond_true, cond_false]
  · exact ⟨h.path, Nat.zero_le _, h.label, Nat.zero_le _, Nat.zero_le _, Nat.zero_le _⟩
  rcases Bool.eq_false_or_eq_true (o.kind == 2) with e | e <;> rw [e] <;> simp only [cond_true, cond_false]
  · exact ⟨h.path, Nat.zero_le _, Nat.zero_le _, Nat.zero_le _, Nat.zero_le _, Nat.zero_le _⟩
  rcases Bool.eq_false_or_eq_true (o.kind == 3) with e | e <;> rw [e] <;> simp only [cond_true, cond_false]
  · exact ⟨h.path, h.to, Nat.zero_le _, Nat.zero_le _, Nat.zero_le _, Nat.zero_le _⟩
  rcases Bool.eq_false_or_eq_true (o.kind == 4) with e | e <;> rw [e] <;> simp only [cond_true, cond_false]
  · refine ⟨h.path, Nat.zero_le _, Nat.zero_le _, h.key, ?_, Nat.zero_le _⟩
    cases o.gone <;> simp [h.value]
  rcases Bool.eq_false_or_eq_true (o.kind == 5) with e | e <;> rw [e] <;> simp only [cond_true, cond_false]
  · exact ⟨h.path, Nat.zero_le _, h.label, Nat.zero_le _, Nat.zero_le _, Nat.zero_le _⟩
  rcases Bool.eq_false_or_eq_true (o.kind == 6) with e | e <;> rw [e] <;> simp only [cond_true, cond_false]
  · exact ⟨h.path, Nat.zero_le _, Nat.zero_le _, Nat.zero_le _, Nat.zero_le _, h.pieces⟩
  · exact ⟨Nat.zero_le _, Nat.zero_le _, Nat.zero_le _, Nat.zero_le _, Nat.zero_le _, Nat.zero_le _⟩
theorem bare_puts {o : OpT} : putsLen (bareO o).pieces ≤ putsLen o.pieces := by
  unfold bareO noOp
  rcases Bool.eq_false_or_eq_true (o.kind == 1) with e | e <;> rw [e] <;> simp only [cond_true, cond_false]
  · exact Nat.zero_le _
  rcases Bool.eq_false_or_eq_true (o.kind == 2) with e | e <;> rw [e] <;> simp only [cond_true, cond_false]
  · exact Nat.zero_le _
  rcases Bool.eq_false_or_eq_true (o.kind == 3) with e | e <;> rw [e] <;> simp only [cond_true, cond_false]
  · exact Nat.zero_le _
  rcases Bool.eq_false_or_eq_true (o.kind == 4) with e | e <;> rw [e] <;> simp only [cond_true, cond_false]
  · exact Nat.zero_le _
  rcases Bool.eq_false_or_eq_true (o.kind == 5) with e | e <;> rw [e] <;> simp only [cond_true, cond_false]
  · exact Nat.zero_le _
  rcases Bool.eq_false_or_eq_true (o.kind == 6) with e | e <;> rw [e] <;> simp only [cond_true, cond_false]
  · exact Nat.le_refl _
  · exact Nat.zero_le _

set_option maxRecDepth 100000 in
theorem w_puts (o : OpT) (ho : o.Lt 1000000) (hq : putsLen o.pieces ≤ 1000000) : Pure Try.prog 52 [opV o] (fun x => x = .int .i64 (putsO (bareO o))) := by
  refine pure_fn 300 Try.func52 rfl rfl rfl fun B => ?_
  show CallThen _ _ _ _ _ _
  refine call_pure (w_Bare o ho) rfl ?_
  rintro x rfl
  have hb := bare_lt ho
  have hbp := bare_puts (o := o)
  generalize bareO o = q at hb hbp
  have h1 := hb.label
  have h2 := hb.key
  have h3 := hb.value
  have h4 := hb.pieces
  refine ⟨by constructor <;> omega, ?_⟩
  refine ⟨by constructor <;> omega, ?_⟩
  show Goes _ _ _ _
  refine goes_iter (ι := Nat × Nat) (fun i => i.1 ≤ q.pieces.length ∧ putsO q = i.2 + putsLen (q.pieces.drop i.1)) (fun i => q.pieces.length - i.1) (fun i => [(22, .int .i64 i.1), (21, .int .i64 (q.pieces.map pieceV).length), (20, piecesV q.pieces), (3, .int .i64 i.2)]) (fun _ => []) (0, q.label.length + q.key.length + q.value.length) 200 (fun _ => rfl) (fun _ => rfl) ⟨⟨Nat.zero_le _, rfl⟩, ?_, ?_⟩ ?_
  · exact ⟨⟨rfl, rfl⟩, ⟨rfl, rfl⟩, ⟨rfl, rfl⟩, ⟨rfl, rfl⟩, trivial⟩
  · trivial
  · rintro ⟨i, n⟩ ⟨k1, k2⟩ next
    simp only at k1 k2
    have hpo : putsO q ≤ 4000000 := by unfold putsO; omega
    refine ⟨fun hlt => go 200 ?_, fun hge => go 200 ?_⟩
    · have hi : i < q.pieces.length := by simpa using hlt
      have hx : (q.pieces.map pieceV)[i]? = some (pieceV q.pieces[i]) := by simp [hi]
      rw [drop_cons hi, putsLen_cons] at k2
      refine ⟨Int.natCast_nonneg i, _, hx, ?_⟩
      refine ⟨by constructor <;> omega, ?_⟩
      refine ⟨by constructor <;> omega, ?_⟩
      show Goes _ _ _ _
      refine next (i + 1, n + (q.pieces[i]).put.length) _ _ ⟨⟨hi, by simp only; omega⟩, ?_, ⟨⟨rfl, rfl⟩, ⟨rfl, rfl⟩, ⟨rfl, rfl⟩, ⟨rfl, rfl⟩, trivial⟩, trivial⟩
      simp only; omega
    · have hi : q.pieces.length ≤ i := by simpa using hge
      rw [List.drop_eq_nil_of_le hi] at k2
      have k2 : putsO q = n + 0 := k2
      exact ⟨trivial, rfl, rfl, rfl, by rw [k2]; rfl⟩

/-- Up to 65537. -/
def capN (n : Nat) : Nat := min n 65537
def capPuts : Nat → List PieceT → Nat
  | n, [] => n
  | n, p :: l => capPuts (capN n + capN p.put.length) l
theorem capPuts_eq : ∀ (l : List PieceT) (n : Nat), capN (capPuts n l) = capN (n + putsLen l)
  | [], n => rfl
  | p :: l, n => by
    rw [capPuts, capPuts_eq l, putsLen_cons]
    unfold capN
    omega
theorem capPuts_le : ∀ (l : List PieceT) (n : Nat), n ≤ 4000000 → capPuts n l ≤ 4000000
  | [], n, h => h
  | p :: l, n, h => capPuts_le l _ (by unfold capN; omega)

set_option maxRecDepth 100000 in
theorem w_refPuts (o : OpT) (hb : o.Lt 1000000) (hq : putsLen o.pieces ≤ 1000000) : Pure Try.prog 53 [opV o] (fun x => x = .int .i64 (capN (putsO o))) := by
  refine pure_fn 300 Try.func53 rfl rfl rfl fun B => ?_
  have h1 := hb.label
  have h2 := hb.key
  have h3 := hb.value
  have h4 := hb.pieces
  refine ⟨by constructor <;> omega, ?_⟩
  refine ⟨by constructor <;> omega, ?_⟩
  show Goes _ _ _ _
  refine goes_iter (ι := Nat × Nat) (fun i => i.1 ≤ o.pieces.length ∧ i.2 ≤ 4000000 ∧ capN (putsO o) = capN (i.2 + putsLen (o.pieces.drop i.1))) (fun i => o.pieces.length - i.1) (fun i => [(4, .int .i64 i.1), (3, .int .i64 i.2), (1, .ptr (.loc 0) 0)]) (fun _ => [some (.box (opV o).cells)]) (0, o.label.length + o.key.length + o.value.length) 200 (fun _ => rfl) (fun _ => rfl) ⟨⟨Nat.zero_le _, by simp only; omega, rfl⟩, ?_, ?_⟩ ?_
  · exact ⟨⟨rfl, rfl⟩, ⟨rfl, rfl⟩, ⟨rfl, rfl⟩, trivial⟩
  · exact ⟨⟨rfl, rfl⟩, trivial⟩
  · rintro ⟨i, n⟩ ⟨k1, k3, k2⟩ next
    simp only at k1 k2 k3
    have emin : ∀ a : Nat, (if (65537 : Int) < (a : Int) then (65537 : Int) else (a : Int)) = ((capN a : Nat) : Int) := fun a => by unfold capN; split <;> omega
    refine ⟨fun hlt => go 200 ?_, fun hge => go 200 ?_⟩
    · have hi : i < o.pieces.length := by simpa using hlt
      have hx : (o.pieces.map pieceV)[i]? = some (pieceV o.pieces[i]) := by simp [hi]
      rw [drop_cons hi, putsLen_cons] at k2
      refine ⟨Int.natCast_nonneg i, _, hx, ?_⟩
      have c1 : capN n ≤ 65537 := Nat.min_le_right _ _
      have c2 : capN (o.pieces[i]).put.length ≤ 65537 := Nat.min_le_right _ _
      have e2 : (if (65537 : Int) < (n : Int) then (65537 : Int) else (n : Int)) + (if (65537 : Int) < ((o.pieces[i]).put.length : Int) then (65537 : Int) else ((o.pieces[i]).put.length : Int)) = ((capN n + capN (o.pieces[i]).put.length : Nat) : Int) := by rw [emin, emin]; rfl
      refine ⟨?_, ?_⟩
      · show inI ((if (65537 : Int) < (n : Int) then (65537 : Int) else (n : Int)) + (if (65537 : Int) < ((o.pieces[i]).put.length : Int) then (65537 : Int) else ((o.pieces[i]).put.length : Int)))
        rw [e2]
        constructor <;> omega
      refine ⟨by constructor <;> omega, ?_⟩
      show Goes _ _ _ _
      refine next (i + 1, capN n + capN (o.pieces[i]).put.length) _ _ ⟨⟨hi, by simp only; omega, ?_⟩, ?_, ⟨⟨rfl, rfl⟩, ⟨by simp only; rw [← e2]; rfl, rfl⟩, ⟨rfl, rfl⟩, trivial⟩, ⟨⟨rfl, rfl⟩, trivial⟩⟩
      · rw [k2]
        unfold capN
        simp only
        omega
      · simp only; omega
    · have hi : o.pieces.length ≤ i := by simpa using hge
      rw [List.drop_eq_nil_of_le hi] at k2
      have k2 : capN (putsO o) = capN (n + 0) := k2
      refine ⟨trivial, rfl, rfl, rfl, ?_⟩
      rw [k2, ← emin]
      rfl
end Bow
/- W11: Fits; the chapter's examples; the laws' functions. -/
namespace Bow
open Go Go.Proofs

def badO (o : OpT) : Bool := !formedB o || (decide (o.kind = 6) && decide ((64 : Int) < o.pieces.length))
def sumPuts (l : List OpT) : Nat := l.foldr (fun o n => putsO (bareO o) + n) 0
def fitsE (l : List OpT) : Int := bif decide (64 < l.length) then 3 else bif l.any badO then 80 else bif decide (65536 < sumPuts l) then 3 else 0
structure OpT.Ok (o : OpT) : Prop where
  lt : o.Lt 1000000
  puts : putsLen o.pieces ≤ 1000000
theorem put_le {l : List PieceT} : ∀ p ∈ l, p.put.length ≤ putsLen l := by
  induction l with
  | nil => intro p h; cases h
  | cons q l ih =>
    intro p h
    rw [putsLen_cons]
    rcases List.mem_cons.1 h with rfl | h
    · omega
    · have := ih p h; omega
theorem OpT.Ok.each {o : OpT} (h : o.Ok) : ∀ p ∈ o.pieces, p.put.length ≤ 1000000000 := fun p hp => by have := put_le p hp; have := h.puts; omega
theorem bare_ok {o : OpT} (h : o.Ok) : (bareO o).Ok := ⟨bare_lt h.lt, Nat.le_trans bare_puts h.puts⟩
theorem putsO_le {o : OpT} (h : o.Ok) : putsO o ≤ 4000000 := by
  have := h.lt.label
  have := h.lt.key
  have := h.lt.value
  have := h.puts
  unfold putsO
  omega
theorem sumPuts_cons (o : OpT) (l : List OpT) : sumPuts (o :: l) = putsO (bareO o) + sumPuts l := rfl

set_option maxRecDepth 100000 in
theorem w_Fits (l : List OpT) (hlen : l.length ≤ 1000000) (hok : ∀ o ∈ l, o.Ok) : Pure Try.prog 19 [opsV l] (fun x => x = .int .i64 (fitsE l)) := by
  refine pure_fn 300 Try.func19 rfl rfl rfl fun B => ?_
  refine ⟨fun g1 => go 300 ?_, fun g1 => go 300 ?_⟩
  · have g1 : 64 < l.length := by have := lt_of g1; simp at this; omega
    exact ⟨trivial, rfl, rfl, rfl, by unfold fitsE; rw [decide_eq_true g1]; rfl⟩
  have g1 : l.length ≤ 64 := by have := not_lt_of g1; simp at this; omega
  show Goes _ _ _ _
  refine goes_iter (ι := Nat × Nat) (fun i => i.1 ≤ l.length ∧ i.2 ≤ i.1 * 4000000 ∧ l.any badO = (l.drop i.1).any badO ∧ sumPuts l = i.2 + sumPuts (l.drop i.1)) (fun i => l.length - i.1) (fun i => [(11, .int .i64 i.1), (10, .int .i64 (l.map opV).length), (9, opsV l), (3, .int .i64 i.2)]) (fun _ => []) (0, 0) 300 (fun _ => rfl) (fun _ => rfl) ⟨⟨Nat.zero_le _, Nat.zero_le _, rfl, by simp⟩, ?_, ?_⟩ ?_
  · exact ⟨⟨rfl, rfl⟩, ⟨rfl, rfl⟩, ⟨rfl, rfl⟩, ⟨rfl, rfl⟩, trivial⟩
  · trivial
  · rintro ⟨i, n⟩ ⟨k1, k2, k3, k4⟩ next
    simp only at k1 k2 k3 k4
    refine ⟨fun hlt => go 300 ?_, fun hge => go 300 ?_⟩
    · have hi : i < l.length := by simpa using hlt
      have hx : (l.map opV)[i]? = some (opV l[i]) := by simp [hi]
      have ho := hok l[i] (List.getElem_mem hi)
      have hpu := putsO_le (bare_ok ho)
      rw [drop_cons hi, List.any_cons] at k3
      rw [drop_cons hi, sumPuts_cons] at k4
      refine ⟨Int.natCast_nonneg i, _, hx, ?_⟩
      show CallThen _ _ _ _ _ _
      refine call_pure (w_Formed l[i] ho.lt ho.each) rfl ?_
      rintro x rfl
      have err : badO l[i] = true → (80 : Int) = fitsE l := fun hb => by
        unfold fitsE
        rw [k3, hb, decide_eq_false (p := 64 < l.length) (by omega)]
        rfl
      have cont : badO l[i] = false → l.any badO = (l.drop (i + 1)).any badO := fun hb => by rw [k3, hb, Bool.false_or]
      have hin1 : inI ((n : Int) + ((putsO (bareO l[i]) : Nat) : Int)) := by constructor <;> omega
      have hin2 : inI ((i : Int) + 1) := by constructor <;> omega
      refine ⟨fun g2 => go 300 ?_, fun g2 => go 300 ?_⟩
      · have g2 : formedB l[i] = false := by simpa using g2
        exact ⟨trivial, rfl, rfl, rfl, by rw [← err (by unfold badO; rw [g2]; rfl)]; rfl⟩
      have g2 : formedB l[i] = true := by simpa using g2
      have fin : badO l[i] = false → Pure Try.prog 52 [opV l[i]] (fun x => x = .int .i64 (putsO (bareO l[i]))) := fun _ => w_puts l[i] ho.lt ho.puts
      refine ⟨fun g3 => go 300 ?_, fun g3 => go 300 ?_⟩
      · refine ⟨fun g4 => go 300 ?_, fun g4 => go 300 ?_⟩
        · simp only [List.length_map] at g4
          exact ⟨trivial, rfl, rfl, rfl, by rw [← err (by unfold badO; rw [g2, g3, g4]; rfl)]; rfl⟩
        simp only [List.length_map] at g4
        show CallThen _ _ _ _ _ _
        refine call_pure (w_puts l[i] ho.lt ho.puts) rfl ?_
        rintro x rfl
        refine ⟨hin1, hin2, ?_⟩
        show Goes _ _ _ _
        refine next (i + 1, n + putsO (bareO l[i])) _ _ ⟨⟨hi, ?_, cont (by unfold badO; rw [g2, g4]; simp), ?_⟩, ?_, ⟨⟨rfl, rfl⟩, ⟨rfl, rfl⟩, ⟨rfl, rfl⟩, ⟨rfl, rfl⟩, trivial⟩, trivial⟩
        · simp only; omega
        · simp only; omega
        · simp only; omega
      · show CallThen _ _ _ _ _ _
        refine call_pure (w_puts l[i] ho.lt ho.puts) rfl ?_
        rintro x rfl
        refine ⟨hin1, hin2, ?_⟩
        show Goes _ _ _ _
        refine next (i + 1, n + putsO (bareO l[i])) _ _ ⟨⟨hi, ?_, cont (by unfold badO; rw [g2, g3]; rfl), ?_⟩, ?_, ⟨⟨rfl, rfl⟩, ⟨rfl, rfl⟩, ⟨rfl, rfl⟩, ⟨rfl, rfl⟩, trivial⟩, trivial⟩
        · simp only; omega
        · simp only; omega
        · simp only; omega
    · have hi : l.length ≤ i := by simpa using hge
      rw [List.drop_eq_nil_of_le hi] at k3 k4
      have k4 : sumPuts l = n + 0 := k4
      have k3 : l.any badO = false := k3
      have e0 : decide (64 < l.length) = false := decide_eq_false (by omega)
      refine ⟨fun g => go 300 ?_, fun g => go 300 ?_⟩
      · have g := lt_of g
        exact ⟨trivial, rfl, rfl, rfl, by unfold fitsE; rw [e0, k3, decide_eq_true (by omega)]; rfl⟩
      · have g := not_lt_of g
        exact ⟨trivial, rfl, rfl, rfl, by unfold fitsE; rw [e0, k3, decide_eq_false (by omega)]; rfl⟩

theorem capN_sum (n a b : Nat) : capN (capN n + capN a + b) = capN (n + (a + b)) := by unfold capN; omega

set_option maxRecDepth 100000 in
theorem w_refFits (l : List OpT) (hlen : l.length ≤ 1000000) (hok : ∀ o ∈ l, o.Ok) : Pure Try.prog 20 [opsV l] (fun x => x = .int .i64 (fitsE l)) := by
  refine pure_fn 300 Try.func20 rfl rfl rfl fun B => ?_
  refine ⟨fun g1 => go 300 ?_, fun g1 => go 300 ?_⟩
  · have g1 : 64 < l.length := by have := lt_of g1; simp at this; omega
    exact ⟨trivial, rfl, rfl, rfl, by unfold fitsE; rw [decide_eq_true g1]; rfl⟩
  have g1 : l.length ≤ 64 := by have := not_lt_of g1; simp at this; omega
  have e0 : decide (64 < l.length) = false := decide_eq_false (by omega)
  show Goes _ _ _ _
  refine goes_iter (ι := Nat) (fun i => i ≤ l.length ∧ l.any badO = (l.drop i).any badO) (fun i => l.length - i) (fun i => [(3, .int .i64 i), (0, opsV l)]) (fun _ => []) 0 300 (fun _ => rfl) (fun _ => rfl) ⟨⟨Nat.zero_le _, rfl⟩, ?_, ?_⟩ ?_
  · exact ⟨⟨rfl, rfl⟩, ⟨rfl, rfl⟩, trivial⟩
  · trivial
  · rintro i ⟨k1, k3⟩ next
    refine ⟨fun hlt => go 300 ?_, fun hge => go 300 ?_⟩
    · have hi : i < l.length := by simpa using hlt
      have hx : (l.map opV)[i]? = some (opV l[i]) := by simp [hi]
      have ho := hok l[i] (List.getElem_mem hi)
      rw [drop_cons hi, List.any_cons] at k3
      refine ⟨Int.natCast_nonneg i, _, hx, ?_⟩
      show CallThen _ _ _ _ _ _
      refine call_pure (w_refFormed l[i] ho.lt ho.each) rfl ?_
      rintro x rfl
      have err : badO l[i] = true → (80 : Int) = fitsE l := fun hb => by
        unfold fitsE
        rw [k3, hb, e0]
        rfl
      have cont : badO l[i] = false → l.any badO = (l.drop (i + 1)).any badO := fun hb => by rw [k3, hb, Bool.false_or]
      have hin2 : inI ((i : Int) + 1) := by constructor <;> omega
      refine ⟨fun g2 => go 300 ?_, fun g2 => go 300 ?_⟩
      · have g2 : formedB l[i] = false := by simpa using g2
        exact ⟨trivial, rfl, rfl, rfl, by rw [← err (by unfold badO; rw [g2]; rfl)]; rfl⟩
      have g2 : formedB l[i] = true := by simpa using g2
      refine ⟨Int.natCast_nonneg i, _, hx, ?_⟩
      refine ⟨fun g3 => go 300 ?_, fun g3 => go 300 ?_⟩
      · refine ⟨Int.natCast_nonneg i, _, hx, ?_⟩
        refine ⟨fun g4 => go 300 ?_, fun g4 => go 300 ?_⟩
        · simp only [List.length_map] at g4
          exact ⟨trivial, rfl, rfl, rfl, by rw [← err (by unfold badO; rw [g2, g3, g4]; rfl)]; rfl⟩
        simp only [List.length_map] at g4
        refine ⟨hin2, ?_⟩
        show Goes _ _ _ _
        exact next (i + 1) _ _ ⟨⟨hi, cont (by unfold badO; rw [g2, g4]; simp)⟩, by omega, ⟨⟨rfl, rfl⟩, ⟨rfl, rfl⟩, trivial⟩, trivial⟩
      · refine ⟨hin2, ?_⟩
        show Goes _ _ _ _
        exact next (i + 1) _ _ ⟨⟨hi, cont (by unfold badO; rw [g2, g3]; rfl)⟩, by omega, ⟨⟨rfl, rfl⟩, ⟨rfl, rfl⟩, trivial⟩, trivial⟩
    · have hi : l.length ≤ i := by simpa using hge
      rw [List.drop_eq_nil_of_le hi] at k3
      have k3 : l.any badO = false := k3
      have emin : ∀ a : Nat, (if (65537 : Int) < (a : Int) then (65537 : Int) else (a : Int)) = ((capN a : Nat) : Int) := fun a => by unfold capN; split <;> omega
      show Goes _ _ _ _
      refine goes_iter (ι := Nat × Nat) (fun i => i.1 ≤ l.length ∧ i.2 ≤ 200000 ∧ capN (sumPuts l) = capN (i.2 + sumPuts (l.drop i.1))) (fun i => l.length - i.1) (fun i => [(5, .int .i64 i.1), (4, .int .i64 i.2), (0, opsV l)]) (fun _ => []) (0, 0) 300 (fun _ => rfl) (fun _ => rfl) ⟨⟨Nat.zero_le _, Nat.zero_le _, by simp⟩, ?_, ?_⟩ ?_
      · exact ⟨⟨rfl, rfl⟩, ⟨rfl, rfl⟩, ⟨rfl, rfl⟩, trivial⟩
      · trivial
      · rintro ⟨i, n⟩ ⟨k1, k2, k4⟩ next
        simp only at k1 k2 k4
        refine ⟨fun hlt => go 300 ?_, fun hge => go 300 ?_⟩
        · have hi : i < l.length := by simpa using hlt
          have hx : (l.map opV)[i]? = some (opV l[i]) := by simp [hi]
          have ho := hok l[i] (List.getElem_mem hi)
          rw [drop_cons hi, sumPuts_cons] at k4
          refine ⟨Int.natCast_nonneg i, _, hx, ?_⟩
          show CallThen _ _ _ _ _ _
          refine call_pure (w_refBare l[i] ho.lt) rfl ?_
          rintro x rfl
          show CallThen _ _ _ _ _ _
          refine call_pure (w_refPuts (bareO l[i]) (bare_ok ho).lt (bare_ok ho).puts) rfl ?_
          rintro x rfl
          have c1 : capN n ≤ 65537 := Nat.min_le_right _ _
          have c2 : capN (putsO (bareO l[i])) ≤ 65537 := Nat.min_le_right _ _
          have e2 : (if (65537 : Int) < (n : Int) then (65537 : Int) else (n : Int)) + ((capN (putsO (bareO l[i])) : Nat) : Int) = ((capN n + capN (putsO (bareO l[i])) : Nat) : Int) := by rw [emin]; rfl
          refine ⟨?_, ?_⟩
          · show inI ((if (65537 : Int) < (n : Int) then (65537 : Int) else (n : Int)) + ((capN (putsO (bareO l[i])) : Nat) : Int))
            rw [e2]
            constructor <;> omega
          refine ⟨by constructor <;> omega, ?_⟩
          show Goes _ _ _ _
          refine next (i + 1, capN n + capN (putsO (bareO l[i]))) _ _ ⟨⟨hi, by simp only; omega, ?_⟩, ?_, ⟨⟨rfl, rfl⟩, ⟨by simp only; rw [← e2]; rfl, rfl⟩, ⟨rfl, rfl⟩, trivial⟩, trivial⟩
          · rw [k4]
            exact (capN_sum _ _ _).symm
          · simp only; omega
        · have hi : l.length ≤ i := by simpa using hge
          rw [List.drop_eq_nil_of_le hi] at k4
          have k4 : capN (sumPuts l) = capN (n + 0) := k4
          have k5 : (65536 < sumPuts l) ↔ 65536 < n := by unfold capN at k4; omega
          refine ⟨fun g => go 300 ?_, fun g => go 300 ?_⟩
          · have g := lt_of g
            simp only at g
            exact ⟨trivial, rfl, rfl, rfl, by unfold fitsE; rw [e0, k3, decide_eq_true (k5.2 (by omega))]; rfl⟩
          · have g := not_lt_of g
            simp only at g
            exact ⟨trivial, rfl, rfl, rfl, by unfold fitsE; rw [e0, k3, decide_eq_false (fun h => by have := k5.1 h; omega)]; rfl⟩
end Bow
/- W12: the chapter's examples; the laws' functions. -/
namespace Bow
open Go Go.Proofs

theorem sizes_replicate (t : Tree) : ∀ n, sizes (List.replicate n t) = n * t.size
  | 0 => by simp [sizes]
  | n + 1 => by rw [List.replicate_succ, sizes, sizes_replicate t n, Nat.add_mul]; omega
theorem weights_replicate (t : Tree) : ∀ n, weights (List.replicate n t) = n * t.weight
  | 0 => by simp [weights]
  | n + 1 => by rw [List.replicate_succ, weights, weights_replicate t n, Nat.add_mul]; omega
theorem depths_replicate (t : Tree) : ∀ n, depths (List.replicate n t) ≤ 1 + t.depth
  | 0 => by simp [depths]
  | n + 1 => by rw [List.replicate_succ, depths]; have := depths_replicate t n; omega
theorem longs_replicate (t : Tree) : ∀ n, longs (List.replicate n t) ≤ t.long
  | 0 => by simp [longs]
  | n + 1 => by rw [List.replicate_succ, longs]; have := longs_replicate t n; omega
theorem flat_size (n : Nat) : (flatT n).size = n + 1 := by
  rw [flatT, zeroT, Tree.size, sizes_replicate, zeroT, Tree.size, sizes]
  omega
theorem flat_weight (n : Nat) : (flatT n).weight = n + 1 := by
  rw [flatT, zeroT, Tree.weight, weights_replicate, zeroT, Tree.weight, weights]
  simp [attrLen]
  omega
theorem flat_depth (n : Nat) : (flatT n).depth ≤ 1 := by
  have := depths_replicate (zeroT []) n
  rw [flatT, zeroT, Tree.depth]
  have e : (zeroT []).depth = 0 := by rw [zeroT, Tree.depth, depths]
  rw [e] at this
  exact this
theorem flat_long (n : Nat) : (flatT n).long = 0 := by
  have := longs_replicate (zeroT []) n
  have e : (zeroT []).long = 0 := by rw [zeroT, Tree.long, longs]; rfl
  rw [e] at this
  have h0 : longs (List.replicate n (zeroT [])) = 0 := by omega
  rw [flatT, zeroT, Tree.long, h0]
  rfl
theorem chain_facts : ∀ n, (chainT n).size = n + 1 ∧ (chainT n).weight = n + 1 ∧ (chainT n).depth = n ∧ (chainT n).long = 0
  | 0 => by
    simp only [chainT, zeroT]
    rw [Tree.size, Tree.weight, Tree.depth, Tree.long, sizes, weights, depths, longs]
    exact ⟨rfl, rfl, rfl, rfl⟩
  | n + 1 => by
    obtain ⟨h1, h2, h3, h4⟩ := chain_facts n
    simp only [chainT, zeroT]
    rw [Tree.size, Tree.weight, Tree.depth, Tree.long, sizes, weights, depths, longs, sizes, weights, depths, longs, h1, h2, h3, h4]
    refine ⟨by omega, by simp [attrLen]; omega, by omega, rfl⟩
theorem long_facts (n : Nat) (l : List (List UInt8 × List UInt8)) : (longT n l).size = 2 ∧ (longT n l).weight = n + 2 + (l.length + attrLen l) ∧ (longT n l).depth = 1 ∧ (longT n l).long = n + attrLen l := by
  simp only [longT, zeroT]
  rw [Tree.size, Tree.weight, Tree.depth, Tree.long, sizes, weights, depths, longs, sizes, weights, depths, longs, Tree.size, Tree.weight, Tree.depth, Tree.long, sizes, weights, depths, longs]
  refine ⟨rfl, ?_, rfl, ?_⟩
  · simp [attrLen]; omega
  · simp [Tree.len, Tree.text, Tree.attrs, attrLen]

theorem check_flat (n : Nat) : checkE (flatT n) = if 512 < n + 1 then 160 else 0 := by
  have := flat_depth n
  have := flat_long n
  unfold checkE
  rw [flat_size]
  split
  · rfl
  · rw [if_neg (by omega), if_neg (by omega)]
theorem check_chain (n : Nat) (h : n + 1 ≤ 512) : checkE (chainT n) = if 12 < n then 161 else 0 := by
  obtain ⟨h1, h2, h3, h4⟩ := chain_facts n
  unfold checkE
  rw [h1, h3, h4, if_neg (by omega)]
  split
  · rfl
  · rfl
theorem check_long (n : Nat) (l : List (List UInt8 × List UInt8)) : checkE (longT n l) = if 2048 < n + attrLen l then 162 else 0 := by
  obtain ⟨h1, h2, h3, h4⟩ := long_facts n l
  unfold checkE
  rw [h1, h3, h4, if_neg (by omega), if_neg (by omega)]

def insOp : OpT := noOp 1
theorem wk_insOp : Wk (.sl 11 [.agg [.int .u8 1, .nilsl, .int .i64 0, .nilsl, .int .u64 0, .ff, .str [], .str [], .str [], .ff, .nilsl]]) (opsV [insOp]) :=
  Wk.sl ⟨⟨⟨.refl _, Wk.nil 1, .refl _, Wk.nil 1, .refl _, Wk.ff, .refl _, .refl _, .refl _, Wk.ff, Wk.nil 3, trivial⟩, ⟨rfl, rfl⟩⟩, trivial⟩
theorem insOp_ok : insOp.Ok := ⟨⟨Nat.zero_le _, Nat.zero_le _, Nat.zero_le _, Nat.zero_le _, Nat.zero_le _, Nat.zero_le _⟩, Nat.zero_le _⟩

set_option maxRecDepth 100000 in
theorem w_works16 : Pure Try.prog 13 [] (fun x => x = .bool true) := by
  refine pure_wk (pure_fn 300 Try.func13 rfl rfl rfl fun B => ?_)
  show CallThen _ _ _ _ _ _
  refine call_pure (w_flat 511 (by decide)) rfl ?_
  rintro x rfl
  show CallThen _ _ _ _ _ _
  refine call_pure (w_Check (flatT 511) (by rw [flat_weight]; decide)) rfl ?_
  rintro x rfl
  refine ⟨fun g => go 300 ?_, fun g => absurd g (by rw [check_flat]; decide)⟩
  show CallThen _ _ _ _ _ _
  refine call_pure (w_flat 512 (by decide)) rfl ?_
  rintro x rfl
  show CallThen _ _ _ _ _ _
  refine call_pure (w_Check (flatT 512) (by rw [flat_weight]; decide)) rfl ?_
  rintro x rfl
  refine ⟨fun g => go 300 ?_, fun g => absurd g (by rw [check_flat]; decide)⟩
  show CallThen _ _ _ _ _ _
  refine call_pure (w_chain 12 (by decide)) rfl ?_
  rintro x rfl
  show CallThen _ _ _ _ _ _
  refine call_pure (w_Check (chainT 12) (by rw [(chain_facts 12).2.1]; decide)) rfl ?_
  rintro x rfl
  refine ⟨fun g => go 300 ?_, fun g => absurd g (by rw [check_chain _ (by decide)]; decide)⟩
  show CallThen _ _ _ _ _ _
  refine call_pure (w_chain 13 (by decide)) rfl ?_
  rintro x rfl
  show CallThen _ _ _ _ _ _
  refine call_pure (w_Check (chainT 13) (by rw [(chain_facts 13).2.1]; decide)) rfl ?_
  rintro x rfl
  refine ⟨fun g => go 300 ?_, fun g => absurd g (by rw [check_chain _ (by decide)]; decide)⟩
  show CallThen _ _ _ _ _ _
  refine call_pure (pure_args (w_long 2048 [] (by decide)) ⟨.refl _, Wk.nil 2, trivial⟩ rfl rfl) rfl ?_
  rintro x rfl
  show CallThen _ _ _ _ _ _
  refine call_pure (w_Check (longT 2048 []) (by rw [(long_facts _ _).2.1]; decide)) rfl ?_
  rintro x rfl
  refine ⟨fun g => go 300 ?_, fun g => absurd g (by rw [check_long]; decide)⟩
  refine ⟨⟨rfl, trivial⟩, ?_⟩
  show CallThen _ _ _ _ _ _
  refine call_pure_frz ?_
  refine ⟨rfl, rfl, _, w_long 2048 [([107], [])] (by decide), rfl, ?_⟩
  rintro x rfl
  show CallThen _ _ _ _ _ _
  refine call_pure (w_Check (longT 2048 [([107], [])]) (by rw [(long_facts _ _).2.1]; decide)) rfl ?_
  rintro x rfl
  refine ⟨fun g => go 300 ?_, fun g => absurd g (by rw [check_long]; decide)⟩
  refine ⟨⟨rfl, trivial⟩, ?_⟩
  show CallThen _ _ _ _ _ _
  refine call_pure_frz ?_
  refine ⟨rfl, rfl, _, pure_args (w_Fits [insOp] (by decide) (fun o ho => by rw [List.mem_singleton.1 ho]; exact insOp_ok)) ⟨wk_insOp, trivial⟩ rfl rfl, rfl, ?_⟩
  rintro x rfl
  exact ⟨trivial, rfl, rfl, rfl, leaf_b (by decide)⟩
end Bow
/- W13: the laws' functions: LimitsCheck, LimitsFits. -/
namespace Bow
open Go Go.Proofs

set_option maxRecDepth 100000 in
theorem w_LimitsCheck (t : Tree) : Pure Try.prog 3 [nodeV t] (fun x => x = .bool true) := by
  refine pure_wk (pure_fn 300 Try.func3 rfl rfl rfl fun B => ?_)
  show CallThen _ _ _ _ _ _
  refine call_pure (w_Weight t 3000 (by decide)) rfl ?_
  rintro x ⟨w, rfl, w1, w2, w3⟩
  refine ⟨fun g => go 300 ?_, fun g => go 300 ?_⟩
  · show CallThen _ _ _ _ _ _
    refine call_pure w_works16 rfl ?_
    rintro x rfl
    exact ⟨trivial, rfl, rfl, rfl, leaf_b rfl⟩
  have g : (w : Int) ≤ 3000 := not_lt_of g
  have hw : t.weight ≤ 3000 := by have := w3 (by omega); omega
  have hw' : t.weight ≤ 1000000 := by omega
  show CallThen _ _ _ _ _ _
  refine call_pure (w_Check t hw') rfl ?_
  rintro x rfl
  show Goes _ _ _ _
  refine goes_draw 300 ?_
  refine ⟨_, w_refCount t hw', rfl, ?_⟩
  refine ⟨_, w_refDepth t hw', rfl, ?_⟩
  refine ⟨by kernel_rfl, ?_⟩
  have e1 : checkE t = 161 → (t.size : Int) ≤ 512 ∧ (12 : Int) < t.depth := by
    unfold checkE
    intro h
    split at h
    · cases h
    · split at h
      · constructor <;> omega
      · split at h <;> cases h
  have e2 : checkE t = 162 → (t.size : Int) ≤ 512 ∧ (t.depth : Int) ≤ 12 := by
    unfold checkE
    intro h
    split at h
    · cases h
    · split at h
      · cases h
      · constructor <;> omega
  repeat' first
    | (refine ⟨fun _ => go 300 ?_, fun _ => go 300 ?_⟩)
    | (show CallThen _ _ _ _ _ _; refine call_pure (w_refCheck t hw') rfl ?_; rintro x rfl)
    | (show CallThen _ _ _ _ _ _; refine call_pure w_works16 rfl ?_; rintro x rfl)
    | (refine ⟨trivial, rfl, rfl, rfl, leaf_tt ?_⟩)
    | (refine ⟨trivial, rfl, rfl, rfl, leaf_ff ?_⟩)
    | (refine ⟨trivial, rfl, rfl, rfl, leaf_b ?_⟩)
    | fail
  all_goals (first | rfl | (exfalso; simp only [decide_eq_true_eq, decide_eq_false_iff_not, Bool.not_eq_true', Bool.not_eq_false', not_true_eq_false] at *; try omega))

set_option maxRecDepth 100000 in
theorem w_LimitsFits (l : List OpT) (_hlen : l.length ≤ maxLen) : Pure Try.prog 4 [opsV l] (fun x => x = .bool true) := by
  refine pure_wk (pure_fn 300 Try.func4 rfl rfl rfl fun B => ?_)
  show CallThen _ _ _ _ _ _
  refine call_pure (w_LightList l 200 3000 (by decide) (by decide)) rfl ?_
  rintro x ⟨b, rfl, hb⟩
  refine ⟨fun g => go 300 ?_, fun g => go 300 ?_⟩
  · show CallThen _ _ _ _ _ _
    refine call_pure w_works16 rfl ?_
    rintro x rfl
    exact ⟨trivial, rfl, rfl, rfl, leaf_b rfl⟩
  have g : b = true := by simpa using g
  have hL := hb g
  have hn : l.length ≤ 1000000 := by have := hL.len; omega
  have hok : ∀ o ∈ l, o.Ok := fun o ho => by
    obtain ⟨h1, h2⟩ := hL.ops o ho
    exact ⟨⟨by have := h1.path; omega, by have := h1.to; omega, by have := h1.label; omega, by have := h1.key; omega, by have := h1.value; omega, by have := h1.pieces; omega⟩, by omega⟩
  show CallThen _ _ _ _ _ _
  refine call_pure (w_Fits l hn hok) rfl ?_
  rintro x rfl
  show CallThen _ _ _ _ _ _
  refine call_pure (w_refFits l hn hok) rfl ?_
  rintro x rfl
  refine ⟨fun g => go 300 ?_, fun g => absurd g (by simp)⟩
  show CallThen _ _ _ _ _ _
  refine call_pure w_works16 rfl ?_
  rintro x rfl
  exact ⟨trivial, rfl, rfl, rfl, leaf_b rfl⟩
end Bow
/- AE36: arguments that are read as data, as deep values; a call's contract out of a function's. -/
namespace Bow
open Go

def β0 : Nat → Loc := fun _ => .none

/-! ### Types that are read -/
def tilesB (P : Program) : List Field → Nat → Nat → Bool
  | [], o, N => Nat.beq o N
  | f :: fs, o, N => Nat.beq f.offset o && tilesB P fs (o + P.cellsOf f.type) N
def fieldsIn (G : List TypeId) : List Field → Bool
  | [] => true
  | f :: fs => memN G f.type && fieldsIn G fs
def goodT (P : Program) (G : List TypeId) (t : TypeId) : Bool :=
  match tyU P t with
  | some .bool => true
  | some (.int _) => true
  | some .string => true
  | some (.slice e) => memN G e && Nat.ble 1 (P.cellsOf e)
  | some (.struct fs) => fieldsIn G fs.toList && tilesB P fs.toList 0 (P.cellsOf t)
  | _ => false
def goodL (P : Program) (G : List TypeId) : List TypeId → Bool
  | [] => true
  | t :: ts => goodT P G t && goodL P G ts

/-- An element of these cells, of this type. -/
def mkX (P : Program) (e : TypeId) (vs : List V) : V :=
  match tyU P e with
  | some (.struct _) => .agg vs
  | _ => match vs with
    | [c] => c
    | vs => .agg vs
def VTs (P : Program) (R : TypeId → List V → Prop) : List Field → List V → Prop
  | [], vs => vs = []
  | f :: fs, vs => R f.type (vs.take (P.cellsOf f.type)) ∧ VTs P R fs (vs.drop (P.cellsOf f.type))
/-- Values of a type, so deep at most. -/
def VT (P : Program) : Nat → TypeId → List V → Prop
  | 0, _, _ => False
  | n + 1, t, vs => match tyU P t with
    | some .bool => ∃ b, vs = [.bool b]
    | some (.int k) => ∃ i, vs = [.int k i] ∧ (Lit.int k i).wf = true
    | some .string => ∃ s : List UInt8, vs = [.str s] ∧ s.length ≤ maxLen
    | some (.slice e) => ∃ xs : List (List V), vs = [.sl (P.cellsOf e) (xs.map (mkX P e))] ∧ xs.length ≤ maxLen ∧ ∀ x ∈ xs, VT P n e x
    | some (.struct fs) => VTs P (VT P n) fs.toList vs
    | _ => False

section
variable {H : Type} {enc : TypeId × Value → H} {P : Program} {w : World} {base : Nat} {spare : Nat → Bool} {held : Bool}

theorem notOwn0 (b : Nat) : ¬ ownB β0 [] b := by
  rintro ⟨r, N, ⟨o, h⟩, _⟩
  simp at h

theorem goodL_get {G : List TypeId} : ∀ (ts : List TypeId), goodL P G ts = true → ∀ t ∈ ts, goodT P G t = true
  | [], _, t, h => by cases h
  | x :: ts, hg, t, h => by
    simp only [goodL, Bool.and_eq_true] at hg
    rcases List.mem_cons.1 h with rfl | h
    · exact hg.1
    · exact goodL_get ts hg.2 t h

theorem mkX_cells {e : TypeId} {vs : List V} (h1 : onesB vs = true) : (mkX P e vs).cells = vs := by
  unfold mkX
  split
  · rfl
  · split
    · rename_i c
      have := (onesB_iff _).1 h1 c (by simp)
      cases c <;> first | rfl | cases this
    · rfl

theorem read_data {G : List TypeId} (hG : goodL P G G = true) : ∀ (fuel : Nat) (t : TypeId) (cs : List Value) (x : DataW H × List MemPlace), memN G t = true → DataW.trod enc P w base spare held fuel t cs = some x →
    ∃ vs, RowRep w β0 [] vs cs ∧ onesB vs = true ∧ VT P fuel t vs := by
  intro fuel
  induction fuel with
  | zero => intro t cs x _ h; simp [DataW.trod] at h
  | succ n ih =>
    intro t cs x hm h
    have hg := goodL_get G hG t ((memN_iff _ _).1 hm)
    have one : ∀ (c : V) (v : Value), c.one = true → cs = [v] → Rep w β0 [] c v → RowRep w β0 [] [c] cs ∧ onesB [c] = true := fun c v h1 h2 h3 => by
      subst h2
      refine ⟨⟨rfl, fun k c' u hc hu => ?_⟩, by simp [onesB, h1]⟩
      cases k with
      | zero => simp at hc hu; subst hc hu; exact h3
      | succ k => simp at hc
    unfold goodT at hg
    split at hg
    · rename_i ht
      obtain ⟨b, rfl, _⟩ := DataW.trod_bool (tyU_sound ht) h
      obtain ⟨h1, h2⟩ := one (.bool b) _ rfl rfl (.bool b)
      exact ⟨_, h1, h2, by rw [VT, ht]; exact ⟨b, rfl⟩⟩
    · rename_i k ht
      obtain ⟨i, rfl, _, hw⟩ := DataW.trod_int (tyU_sound ht) h
      obtain ⟨h1, h2⟩ := one (.int k i) _ rfl rfl (.int k i)
      exact ⟨_, h1, h2, by rw [VT, ht]; exact ⟨i, rfl, hw⟩⟩
    · rename_i ht
      obtain ⟨s, rfl, _, hs⟩ := DataW.trod_string (tyU_sound ht) h
      have hsl : s.data.toList.length ≤ maxLen := by
        have e : s.size = s.data.toList.length := by simp only [ByteArray.size, Array.length_toList]
        rw [← e]
        exact hs
      have hr : Rep w β0 [] (.str s.data.toList) (.string s) := by
        have := Rep.str (w := w) (β := β0) (H := []) s.data.toList hsl
        simpa using this
      obtain ⟨h1, h2⟩ := one (.str s.data.toList) _ rfl rfl hr
      exact ⟨_, h1, h2, by rw [VT, ht]; exact ⟨_, rfl, hsl⟩⟩
    · rename_i e ht
      simp only [Bool.and_eq_true] at hg
      obtain ⟨hme, hse⟩ := hg
      have hse : 1 ≤ P.cellsOf e := Nat.le_of_ble_eq_true hse
      rcases DataW.trod_slice (tyU_sound ht) h with ⟨rfl, _⟩ | ⟨a, len, cap, elems, rest, n', hn, rfl, _, _, hlc, hcm, hel, hget, _⟩
      · have hr : Rep w β0 [] (.sl (P.cellsOf e) []) (.slice none 0 0) := .sl _ [] none 0 (fun _ => Go.undef) (Nat.le_refl _) (Nat.zero_le _) (by simp) (fun hne => absurd rfl hne) (fun i x j c hi => by simp at hi)
        obtain ⟨h1, h2⟩ := one (.sl (P.cellsOf e) []) _ rfl rfl hr
        exact ⟨_, h1, h2, by rw [VT, ht]; exact ⟨[], rfl, Nat.zero_le _, by simp⟩⟩
      · injection hn with hn
        subst hn
        have each : ∀ i, i < len → ∃ ci vs, w.cells? base (a.add (i * P.cellsOf e)) (P.cellsOf e) = some ci ∧ RowRep w β0 [] vs ci ∧ onesB vs = true ∧ VT P n e vs := fun i hi => by
          have hb := hget i hi
          rw [List.getElem?_eq_getElem (by omega), Option.bind_eq_some_iff] at hb
          obtain ⟨ci, hci, hti⟩ := hb
          obtain ⟨vs, q1, q2, q3⟩ := ih e ci _ hme hti
          exact ⟨ci, vs, hci, q1, q2, q3⟩
        obtain ⟨ff, hff⟩ : ∃ ff : Nat → List Value × List V, ∀ i, i < len → w.cells? base (a.add (i * P.cellsOf e)) (P.cellsOf e) = some (ff i).1 ∧ RowRep w β0 [] (ff i).2 (ff i).1 ∧ onesB (ff i).2 = true ∧ VT P n e (ff i).2 := by
          refine ⟨fun i => if h : i < len then (Classical.choose (each i h), Classical.choose (Classical.choose_spec (each i h))) else ([], []), fun i hi => ?_⟩
          simp only [hi, dif_pos]
          exact Classical.choose_spec (Classical.choose_spec (each i hi))
        obtain ⟨xs, hxs⟩ : ∃ xs, xs = (List.range len).map fun i => (ff i).2 := ⟨_, rfl⟩
        have hxl : xs.length = len := by rw [hxs]; simp
        have hxg : ∀ i x, (xs.map (mkX P e))[i]? = some x → i < len ∧ x = mkX P e (ff i).2 := fun i x hx => by
          have hi : i < len := by have := lt_of_get hx; simpa [hxl] using this
          refine ⟨hi, ?_⟩
          rw [hxs] at hx
          simp [hi] at hx
          exact hx.symm
        have hcell : ∀ i j, i < len → j < P.cellsOf e → w.cell? (a.add (i * P.cellsOf e + j)) = (ff i).1[j]? ∧ (ff i).1.length = P.cellsOf e := fun i j hi hj => by
          obtain ⟨q1, _⟩ := hff i hi
          obtain ⟨_, q3, q4⟩ := World.cells?_some q1
          exact ⟨by rw [← add_add']; exact q4 j hj, q3⟩
        have hok : ∀ i, i < len → okE (P.cellsOf e) (mkX P e (ff i).2) := fun i hi => by
          obtain ⟨q1, q2, q3, _⟩ := hff i hi
          obtain ⟨_, q4, _⟩ := World.cells?_some q1
          refine ⟨?_, ?_⟩
          · rw [mkX_cells q3, q2.1, q4]
          · rw [mkX_cells q3]; exact q3
        have hr : Rep w β0 [] (.sl (P.cellsOf e) (xs.map (mkX P e))) (.slice (some a) len cap) := by
          have hl : (xs.map (mkX P e)).length = len := by simp [hxl]
          rw [← hl] at hlc ⊢
          refine .sl _ _ _ cap (fun j => (w.cell? (a.add j)).getD Go.undef) hlc hcm (fun x hx => ?_) (fun hne => ?_) (fun i x j c hi hj => ?_)
          · obtain ⟨i, hi, rfl⟩ := List.mem_iff_getElem.1 hx
            obtain ⟨h1, h2⟩ := hxg i _ (List.getElem?_eq_getElem hi)
            rw [h2]
            exact hok i h1
          · have h0 : 0 < len := by rw [← hl]; exact List.length_pos_iff.2 hne
            obtain ⟨q1, _⟩ := hff 0 h0
            have hblk := World.cells?_block q1 hse
            refine ⟨a, rfl, notOwn0 _, ?_, fun j hj => ?_⟩
            · have : (a.add (0 * P.cellsOf e)).block = a.block := by unfold Addr.add; split <;> rfl
              rwa [this] at hblk
            · rw [hl] at hj
              have hi : j / P.cellsOf e < len := Nat.div_lt_of_lt_mul (by rw [Nat.mul_comm]; exact hj)
              have hjm : j % P.cellsOf e < P.cellsOf e := Nat.mod_lt _ hse
              obtain ⟨q2, q3⟩ := hcell (j / P.cellsOf e) (j % P.cellsOf e) hi hjm
              have hj' : j / P.cellsOf e * P.cellsOf e + j % P.cellsOf e = j := by rw [Nat.mul_comm]; exact Nat.div_add_mod _ _
              rw [hj'] at q2
              rw [q2, List.getElem?_eq_getElem (by omega)]
              rfl
          · obtain ⟨hil, rfl⟩ := hxg i x hi
            obtain ⟨q1, q2, q3, _⟩ := hff i hil
            rw [mkX_cells q3] at hj
            have hjl : j < P.cellsOf e := by have := lt_of_get hj; rw [q2.1] at this; obtain ⟨_, q4, _⟩ := World.cells?_some q1; omega
            obtain ⟨q5, q6⟩ := hcell i j hil hjl
            have q7 : (ff i).1[j]? = some (ff i).1[j] := List.getElem?_eq_getElem (by omega)
            simp only [q5, q7, Option.getD_some]
            exact q2.2 j c _ hj q7
        obtain ⟨h1, h2⟩ := one _ _ rfl rfl hr
        refine ⟨_, h1, h2, ?_⟩
        rw [VT, ht]
        refine ⟨xs, rfl, by rw [hxl]; omega, fun x hx => ?_⟩
        rw [hxs] at hx
        obtain ⟨i, hi, rfl⟩ := List.mem_map.1 hx
        exact (hff i (List.mem_range.1 hi)).2.2.2
    · rename_i fs ht
      simp only [Bool.and_eq_true] at hg
      obtain ⟨hfi, htl⟩ := hg
      obtain ⟨xs, n', hn, _, hlen, hxl, hget⟩ := DataW.trod_struct (tyU_sound ht) h
      injection hn with hn
      subst hn
      have key : ∀ (fs' : List Field) (o : Nat), (∀ f ∈ fs', ∃ y, DataW.trod enc P w base spare held n f.type ((cs.drop f.offset).take (P.cellsOf f.type)) = some y) → fieldsIn G fs' = true → tilesB P fs' o (P.cellsOf t) = true → o ≤ cs.length →
          ∃ vs, RowRep w β0 [] vs (cs.drop o) ∧ onesB vs = true ∧ VTs P (VT P n) fs' vs := by
        intro fs'
        induction fs' with
        | nil =>
          intro o _ _ ht _
          have ho := Nat.eq_of_beq_eq_true ht
          refine ⟨[], ?_, rfl, rfl⟩
          rw [List.drop_eq_nil_of_le (by omega)]
          exact ⟨rfl, fun k c u h => by simp at h⟩
        | cons f fs' ih2 =>
          intro o hy hin htl ho
          simp only [tilesB, Bool.and_eq_true] at htl
          simp only [fieldsIn, Bool.and_eq_true] at hin
          have hfo := Nat.eq_of_beq_eq_true htl.1
          obtain ⟨y, hy1⟩ := hy f List.mem_cons_self
          obtain ⟨v1, a1, a2, a3⟩ := ih f.type _ y hin.1 hy1
          have hle : o + P.cellsOf f.type ≤ cs.length := by
            have : ∀ (l : List Field) (o : Nat), tilesB P l o (P.cellsOf t) = true → o ≤ P.cellsOf t := by
              intro l
              induction l with
              | nil => intro o h; have := Nat.eq_of_beq_eq_true h; omega
              | cons g l ih3 =>
                intro o h
                simp only [tilesB, Bool.and_eq_true] at h
                have := ih3 _ h.2
                omega
            have := this _ _ htl.2
            omega
          obtain ⟨v2, b1, b2, b3⟩ := ih2 (o + P.cellsOf f.type) (fun g hg => hy g (List.mem_cons_of_mem _ hg)) hin.2 htl.2 hle
          rw [hfo] at a1
          have hv1 : v1.length = P.cellsOf f.type := by rw [a1.1]; simp; omega
          refine ⟨v1 ++ v2, ?_, ?_, ?_⟩
          · have := a1.append b1
            rwa [← List.drop_drop, List.take_append_drop] at this
          · rw [onesB_iff] at a2 b2 ⊢
            intro c hc
            rcases List.mem_append.1 hc with hc | hc
            · exact a2 c hc
            · exact b2 c hc
          · rw [VTs]
            rw [← hv1]
            simp only [List.take_left', List.drop_left']
            exact ⟨a3, b3⟩
      obtain ⟨vs, k1, k2, k3⟩ := key fs.toList 0 (fun f hf => by
        obtain ⟨i, hi⟩ := List.getElem?_of_mem hf
        have hil := lt_of_get hi
        have := hget i f (by simpa using hi)
        exact ⟨_, by rw [this]; exact List.getElem?_eq_getElem (by rw [hxl]; simpa using hil)⟩) hfi htl (Nat.zero_le _)
      refine ⟨vs, by simpa using k1, k2, ?_⟩
      rw [VT, ht]
      exact k3
    · cases hg

/-! ### Calls -/
theorem calls_of_pure {f : FuncId} {args : List V} {vals : Array Value} {b : Bool} (h : Pure P f args fun x => x = .bool b) (hp : V.pureL args = true) (hl : args.length = vals.size)
    (hr : ∀ (j : Nat) (x : V) (v : Value), args[j]? = some x → vals[j]? = some v → Rep w β0 [] x v) : Calls P f vals w fun e w' => e = .returned (.bool b) ∧ RowKit.Below w.heap.size w w' := by
  intro cs
  have hrel : HRel w β0 [] := ⟨fun r o h => by simp at h, fun r r' b N N' hl => by obtain ⟨o, h⟩ := hl; simp at h⟩
  have hs : SRel [] 0 w β0 [] [] ⟨[], [], fun _ => none, []⟩ bare := by
    refine ⟨hrel, rfl, fun k => by simp [lk, V.conv]; exact .undef _, rfl, List.nodup_nil, by simp, rfl, fun r h _ => by simp at h, fun r _ => rfl, by simp, by simp, by simp, rfl, by simp⟩
  obtain ⟨x, v, w', β', H', fr, hq, _, _, k2, k3, k4, k5, k6⟩ := pure_step h hp hs cs hl (fun j x v hj hv => by
    rw [pure_conv _ _ (pureL_mem _ hp x (List.mem_of_getElem? hj))]
    exact hr j x v hj hv)
  subst hq
  have hv : v = .bool b := rep_bool (m := []) k3
  subst hv
  exact ⟨.returned (.bool b), w', fr, ⟨rfl, k2.os, k2.tape, k2.output, k2.size, fun q hq => k2.keep q hq (notOwn0 q)⟩, k4, k5, k6⟩
end
end Bow
/- TD1: what is read as data at the program's types. -/
namespace Bow
open Go Go.Proofs

theorem take1 {vs : List V} {c : V} (h : vs.take 1 = [c]) : ∃ r, vs = c :: r ∧ vs.drop 1 = r := by
  cases vs with
  | nil => simp at h
  | cons x r => simp at h; subst h; exact ⟨r, rfl, rfl⟩

theorem map_exists {α β : Type} {f : α → V} {g : β → V} : ∀ {xs : List α}, (∀ x ∈ xs, ∃ y, f x = g y) → ∃ ys : List β, xs.map f = ys.map g
  | [], _ => ⟨[], rfl⟩
  | x :: xs, h => by
    obtain ⟨y, hy⟩ := h x List.mem_cons_self
    obtain ⟨ys, hys⟩ := map_exists (xs := xs) fun z hz => h z (List.mem_cons_of_mem _ hz)
    exact ⟨y :: ys, by simp [hy, hys]⟩

theorem vt_str {n : Nat} {vs : List V} (h : VT Try.prog n 9 vs) : ∃ s, vs = [.str s] := by
  cases n with
  | zero => exact h.elim
  | succ n =>
    obtain ⟨s, e, _⟩ : ∃ s : List UInt8, vs = [.str s] ∧ s.length ≤ maxLen := h
    exact ⟨s, e⟩
theorem vt_bool {n : Nat} {vs : List V} (h : VT Try.prog n 4 vs) : ∃ b, vs = [.bool b] := by
  cases n with
  | zero => exact h.elim
  | succ n => exact h
theorem vt_int {n : Nat} {vs : List V} (h : VT Try.prog n 3 vs) : ∃ i, vs = [.int .i64 i] ∧ (Lit.int .i64 i).wf = true := by
  cases n with
  | zero => exact h.elim
  | succ n => exact h
theorem vt_u64 {n : Nat} {vs : List V} (h : VT Try.prog n 22 vs) : ∃ i, vs = [.int .u64 i] := by
  cases n with
  | zero => exact h.elim
  | succ n =>
    obtain ⟨s, e, _⟩ : ∃ s : Int, vs = [.int .u64 s] ∧ (Lit.int .u64 s).wf = true := h
    exact ⟨s, e⟩
theorem vt_u8 {n : Nat} {vs : List V} (h : VT Try.prog n 5 vs) : ∃ i, vs = [.int .u8 i] := by
  cases n with
  | zero => exact h.elim
  | succ n =>
    obtain ⟨s, e, _⟩ : ∃ s : Int, vs = [.int .u8 s] ∧ (Lit.int .u8 s).wf = true := h
    exact ⟨s, e⟩
set_option maxRecDepth 100000 in
theorem vt_attr {n : Nat} {vs : List V} (h : VT Try.prog n 67 vs) : ∃ a, vs = (attrV a).cells := by
  cases n with
  | zero => exact h.elim
  | succ n =>
    obtain ⟨h0, h1, h2⟩ : VT Try.prog n 9 (vs.take 1) ∧ VT Try.prog n 9 ((vs.drop 1).take 1) ∧ (vs.drop 1).drop 1 = [] := h
    obtain ⟨a, e0⟩ := vt_str h0
    obtain ⟨b, e1⟩ := vt_str h1
    obtain ⟨r, rfl, d0⟩ := take1 e0
    rw [d0] at e1 h2
    obtain ⟨r1, rfl, d1⟩ := take1 e1
    rw [d1] at h2
    subst h2
    exact ⟨(a, b), rfl⟩
set_option maxRecDepth 100000 in
theorem vt_attrs {n : Nat} {vs : List V} (h : VT Try.prog n 23 vs) : ∃ l : List (List UInt8 × List UInt8), vs = [.sl 2 (l.map attrV)] := by
  cases n with
  | zero => exact h.elim
  | succ n =>
    obtain ⟨xs, e, _, hx⟩ : ∃ xs : List (List V), vs = [.sl 2 (xs.map (mkX Try.prog 67))] ∧ xs.length ≤ maxLen ∧ ∀ x ∈ xs, VT Try.prog n 67 x := h
    obtain ⟨l, hl⟩ := map_exists (f := mkX Try.prog 67) (g := attrV) (xs := xs) fun x hm => by
      obtain ⟨a, rfl⟩ := vt_attr (hx x hm)
      exact ⟨a, rfl⟩
    exact ⟨l, by rw [e, hl]⟩

set_option maxRecDepth 100000 in
theorem vt_node : ∀ (n : Nat) (vs : List V), VT Try.prog n 26 vs → ∃ t : Tree, vs = (nodeV t).cells := by
  intro n
  induction n using Nat.strongRecOn with
  | _ n ih =>
    intro vs h
    cases n with
    | zero => exact h.elim
    | succ n =>
      obtain ⟨h0, h1, h2, h3, h4, h5, h6⟩ : VT Try.prog n 22 (vs.take 1) ∧ VT Try.prog n 4 ((vs.drop 1).take 1) ∧ VT Try.prog n 9 (((vs.drop 1).drop 1).take 1) ∧ VT Try.prog n 23 ((((vs.drop 1).drop 1).drop 1).take 1) ∧
        VT Try.prog n 9 (((((vs.drop 1).drop 1).drop 1).drop 1).take 1) ∧ VT Try.prog n 24 ((((((vs.drop 1).drop 1).drop 1).drop 1).drop 1).take 1) ∧ (((((vs.drop 1).drop 1).drop 1).drop 1).drop 1).drop 1 = [] := h
      obtain ⟨i, e0⟩ := vt_u64 h0
      obtain ⟨l, e1⟩ := vt_bool h1
      obtain ⟨s, e2⟩ := vt_str h2
      obtain ⟨a, e3⟩ := vt_attrs h3
      obtain ⟨x, e4⟩ := vt_str h4
      obtain ⟨r, rfl, d0⟩ := take1 e0
      rw [d0] at e1 e2 e3 e4 h5 h6
      obtain ⟨r, rfl, d0⟩ := take1 e1
      rw [d0] at e2 e3 e4 h5 h6
      obtain ⟨r, rfl, d0⟩ := take1 e2
      rw [d0] at e3 e4 h5 h6
      obtain ⟨r, rfl, d0⟩ := take1 e3
      rw [d0] at e4 h5 h6
      obtain ⟨r, rfl, d0⟩ := take1 e4
      rw [d0] at h5 h6
      cases n with
      | zero => exact h5.elim
      | succ n =>
        obtain ⟨xs, e5, _, hx⟩ : ∃ xs : List (List V), r.take 1 = [.sl 6 (xs.map (mkX Try.prog 26))] ∧ xs.length ≤ maxLen ∧ ∀ x ∈ xs, VT Try.prog n 26 x := h5
        obtain ⟨ts, hts⟩ := map_exists (f := mkX Try.prog 26) (g := nodeV) (xs := xs) fun x hm => by
          obtain ⟨t, rfl⟩ := ih n (by omega) x (hx x hm)
          exact ⟨t, rfl⟩
        obtain ⟨r, rfl, d0⟩ := take1 e5
        rw [d0] at h6
        subst h6
        refine ⟨.mk i l s a x ts, ?_⟩
        rw [hts]
        simp only [nodeV, Tree.id, Tree.leaf, Tree.label, Tree.attrs, Tree.text, subV_eq, Tree.subs, V.cells]

theorem rep_of_cells {w : World} {vs : List V} {cs : Array Value} (h : RowRep w β0 [] vs cs.toList) : Rep w β0 [] (.agg vs) (.agg cs) :=
  .agg vs cs (by simpa using h.1) fun j c v hj hv => h.2 j c v hj (by simpa using hv)

set_option maxRecDepth 100000 in
/-- A node that is handed over. -/
theorem node_arg {H : Type} {enc : TypeId × Value → H} {w : World} {r : Reach} {base b0 : Nat} {sp : Nat → Bool} {held : Bool} {v : Value} {d : DataW H} {p : List MemPlace} (ho : Value.okWide Try.prog w r b0 26 v) (h : DataW.Trod enc Try.prog w base sp held 26 v d p) :
    ∃ t : Tree, Rep w β0 [] (nodeV t) v := by
  obtain ⟨fuel, hf⟩ := h
  obtain ⟨cs, rfl, _, _⟩ : ∃ cs, v = .agg cs ∧ cs.size = Try.prog.cellsOf 26 ∧ Row.okWide Try.prog w r b0 26 cs := ho
  obtain ⟨vs, h1, _, h3⟩ := read_data (G := [26, 24, 23, 67, 9, 22, 4]) (by kernel_rfl) fuel _ _ _ (by kernel_rfl) hf
  obtain ⟨t, rfl⟩ := vt_node _ _ h3
  exact ⟨t, rep_of_cells h1⟩
end Bow
/- TD2: operations that are read as data. -/
namespace Bow
open Go Go.Proofs

set_option maxRecDepth 100000 in
theorem vt_path {n : Nat} {vs : List V} (h : VT Try.prog n 37 vs) : ∃ l : List Int, vs = [pathV l] ∧ l.length ≤ maxLen ∧ ∀ i ∈ l, (Lit.int .i64 i).wf = true := by
  cases n with
  | zero => exact h.elim
  | succ n =>
    obtain ⟨xs, e, hl, hx⟩ : ∃ xs : List (List V), vs = [.sl 1 (xs.map (mkX Try.prog 3))] ∧ xs.length ≤ maxLen ∧ ∀ x ∈ xs, VT Try.prog n 3 x := h
    have key : ∀ xs : List (List V), (∀ x ∈ xs, VT Try.prog n 3 x) → ∃ l : List Int, xs.map (mkX Try.prog 3) = l.map intV ∧ ∀ i ∈ l, (Lit.int .i64 i).wf = true := by
      intro xs
      induction xs with
      | nil => intro _; exact ⟨[], rfl, by simp⟩
      | cons x xs ih =>
        intro hx
        obtain ⟨i, rfl, hw⟩ := vt_int (hx x List.mem_cons_self)
        obtain ⟨l, e, hl⟩ := ih fun z hz => hx z (List.mem_cons_of_mem _ hz)
        refine ⟨i :: l, by simp only [List.map_cons, e]; rfl, fun j hj => ?_⟩
        rcases List.mem_cons.1 hj with rfl | hj
        · exact hw
        · exact hl j hj
    obtain ⟨l, e1, e2⟩ := key xs hx
    refine ⟨l, by rw [e, e1]; rfl, ?_, e2⟩
    have := congrArg List.length e1
    simp at this
    omega
set_option maxRecDepth 100000 in
theorem vt_piece {n : Nat} {vs : List V} (h : VT Try.prog n 63 vs) : ∃ p, vs = (pieceV p).cells := by
  cases n with
  | zero => exact h.elim
  | succ n =>
    obtain ⟨h0, h1, h2, h3⟩ : VT Try.prog n 3 (vs.take 1) ∧ VT Try.prog n 3 ((vs.drop 1).take 1) ∧ VT Try.prog n 9 (((vs.drop 1).drop 1).take 1) ∧ ((vs.drop 1).drop 1).drop 1 = [] := h
    obtain ⟨a, e0, _⟩ := vt_int h0
    obtain ⟨b, e1, _⟩ := vt_int h1
    obtain ⟨s, e2⟩ := vt_str h2
    obtain ⟨r, rfl, d0⟩ := take1 e0
    rw [d0] at e1 e2 h3
    obtain ⟨r1, rfl, d1⟩ := take1 e1
    rw [d1] at e2 h3
    obtain ⟨r2, rfl, d2⟩ := take1 e2
    rw [d2] at h3
    subst h3
    exact ⟨⟨a, b, s⟩, rfl⟩
set_option maxRecDepth 100000 in
theorem vt_pieces {n : Nat} {vs : List V} (h : VT Try.prog n 38 vs) : ∃ l : List PieceT, vs = [piecesV l] := by
  cases n with
  | zero => exact h.elim
  | succ n =>
    obtain ⟨xs, e, _, hx⟩ : ∃ xs : List (List V), vs = [.sl 3 (xs.map (mkX Try.prog 63))] ∧ xs.length ≤ maxLen ∧ ∀ x ∈ xs, VT Try.prog n 63 x := h
    obtain ⟨l, hl⟩ := map_exists (f := mkX Try.prog 63) (g := pieceV) (xs := xs) fun x hm => by
      obtain ⟨a, rfl⟩ := vt_piece (hx x hm)
      exact ⟨a, rfl⟩
    exact ⟨l, by rw [e, hl]; rfl⟩

set_option maxRecDepth 100000 in
theorem vt_op {n : Nat} {vs : List V} (h : VT Try.prog n 40 vs) : ∃ o, vs = (opV o).cells := by
  cases n with
  | zero => exact h.elim
  | succ n =>
    obtain ⟨h0, h⟩ : VT Try.prog n 5 (vs.take 1) ∧ _ := h
    obtain ⟨a0, e0⟩ := vt_u8 h0
    obtain ⟨r, rfl, d0⟩ := take1 e0
    obtain ⟨h1, h⟩ : VT Try.prog n 37 (r.take 1) ∧ _ := h
    obtain ⟨a1, e1, _⟩ := vt_path h1
    obtain ⟨r, rfl, d0⟩ := take1 e1
    obtain ⟨h2, h⟩ : VT Try.prog n 3 (r.take 1) ∧ _ := h
    obtain ⟨a2, e2, _⟩ := vt_int h2
    obtain ⟨r, rfl, d0⟩ := take1 e2
    obtain ⟨h3, h⟩ : VT Try.prog n 37 (r.take 1) ∧ _ := h
    obtain ⟨a3, e3, _⟩ := vt_path h3
    obtain ⟨r, rfl, d0⟩ := take1 e3
    obtain ⟨h4, h⟩ : VT Try.prog n 22 (r.take 1) ∧ _ := h
    obtain ⟨a4, e4⟩ := vt_u64 h4
    obtain ⟨r, rfl, d0⟩ := take1 e4
    obtain ⟨h5, h⟩ : VT Try.prog n 4 (r.take 1) ∧ _ := h
    obtain ⟨a5, e5⟩ := vt_bool h5
    obtain ⟨r, rfl, d0⟩ := take1 e5
    obtain ⟨h6, h⟩ : VT Try.prog n 9 (r.take 1) ∧ _ := h
    obtain ⟨a6, e6⟩ := vt_str h6
    obtain ⟨r, rfl, d0⟩ := take1 e6
    obtain ⟨h7, h⟩ : VT Try.prog n 9 (r.take 1) ∧ _ := h
    obtain ⟨a7, e7⟩ := vt_str h7
    obtain ⟨r, rfl, d0⟩ := take1 e7
    obtain ⟨h8, h⟩ : VT Try.prog n 9 (r.take 1) ∧ _ := h
    obtain ⟨a8, e8⟩ := vt_str h8
    obtain ⟨r, rfl, d0⟩ := take1 e8
    obtain ⟨h9, h⟩ : VT Try.prog n 4 (r.take 1) ∧ _ := h
    obtain ⟨a9, e9⟩ := vt_bool h9
    obtain ⟨r, rfl, d0⟩ := take1 e9
    obtain ⟨h10, h⟩ : VT Try.prog n 38 (r.take 1) ∧ _ := h
    obtain ⟨a10, e10⟩ := vt_pieces h10
    obtain ⟨r, rfl, d0⟩ := take1 e10
    have h : r = [] := h
    subst h
    exact ⟨⟨a0, a1, a2, a3, a4, a5, a6, a7, a8, a9, a10⟩, rfl⟩
set_option maxRecDepth 100000 in
theorem vt_ops {n : Nat} {vs : List V} (h : VT Try.prog n 33 vs) : ∃ l : List OpT, vs = [.sl 11 (l.map opV)] ∧ l.length ≤ maxLen := by
  cases n with
  | zero => exact h.elim
  | succ n =>
    obtain ⟨xs, e, hl, hx⟩ : ∃ xs : List (List V), vs = [.sl 11 (xs.map (mkX Try.prog 40))] ∧ xs.length ≤ maxLen ∧ ∀ x ∈ xs, VT Try.prog n 40 x := h
    obtain ⟨l, e1⟩ := map_exists (f := mkX Try.prog 40) (g := opV) (xs := xs) fun x hm => by
      obtain ⟨a, rfl⟩ := vt_op (hx x hm)
      exact ⟨a, rfl⟩
    refine ⟨l, by rw [e, e1], ?_⟩
    have := congrArg List.length e1
    simp at this
    omega

set_option maxRecDepth 100000 in
/-- An operation that is handed over. -/
theorem op_arg {H : Type} {enc : TypeId × Value → H} {w : World} {r : Reach} {base b0 : Nat} {sp : Nat → Bool} {held : Bool} {v : Value} {d : DataW H} {p : List MemPlace} (ho : Value.okWide Try.prog w r b0 40 v) (h : DataW.Trod enc Try.prog w base sp held 40 v d p) :
    ∃ o : OpT, Rep w β0 [] (opV o) v := by
  obtain ⟨fuel, hf⟩ := h
  obtain ⟨cs, rfl, _, _⟩ : ∃ cs, v = .agg cs ∧ cs.size = Try.prog.cellsOf 40 ∧ Row.okWide Try.prog w r b0 40 cs := ho
  obtain ⟨vs, h1, _, h3⟩ := read_data (G := [40, 37, 38, 63, 3, 9, 22, 5, 4]) (by kernel_rfl) fuel _ _ _ (by kernel_rfl) hf
  obtain ⟨t, rfl⟩ := vt_op h3
  exact ⟨t, rep_of_cells h1⟩
set_option maxRecDepth 100000 in
/-- A list of operations that is handed over. -/
theorem ops_arg {H : Type} {enc : TypeId × Value → H} {w : World} {r : Reach} {base b0 : Nat} {sp : Nat → Bool} {held : Bool} {v : Value} {d : DataW H} {p : List MemPlace} (ho : Value.okWide Try.prog w r b0 33 v) (h : DataW.Trod enc Try.prog w base sp held 33 v d p) :
    ∃ l : List OpT, Rep w β0 [] (.sl 11 (l.map opV)) v ∧ l.length ≤ maxLen := by
  obtain ⟨a, len, cap, rfl⟩ := WideShapes.okWide_slice Try.underlying33 ho
  obtain ⟨fuel, hf⟩ := h
  obtain ⟨vs, h1, _, h3⟩ := read_data (G := [33, 40, 37, 38, 63, 3, 9, 22, 5, 4]) (by kernel_rfl) fuel _ _ _ (by kernel_rfl) hf
  obtain ⟨l, rfl, hl⟩ := vt_ops h3
  exact ⟨l, h1.2 0 _ _ rfl rfl, hl⟩
set_option maxRecDepth 100000 in
/-- A path that is handed over. -/
theorem path_arg {H : Type} {enc : TypeId × Value → H} {w : World} {r : Reach} {base b0 : Nat} {sp : Nat → Bool} {held : Bool} {v : Value} {d : DataW H} {p : List MemPlace} (ho : Value.okWide Try.prog w r b0 37 v) (h : DataW.Trod enc Try.prog w base sp held 37 v d p) :
    ∃ l : List Int, Rep w β0 [] (pathV l) v ∧ l.length ≤ maxLen ∧ ∀ i ∈ l, (Lit.int .i64 i).wf = true := by
  obtain ⟨a, len, cap, rfl⟩ := WideShapes.okWide_slice Try.underlying37 ho
  obtain ⟨fuel, hf⟩ := h
  obtain ⟨vs, h1, _, h3⟩ := read_data (G := [37, 3]) (by kernel_rfl) fuel _ _ _ (by kernel_rfl) hf
  obtain ⟨l, rfl, hl⟩ := vt_path h3
  exact ⟨l, h1.2 0 _ _ rfl rfl, hl⟩
end Bow
