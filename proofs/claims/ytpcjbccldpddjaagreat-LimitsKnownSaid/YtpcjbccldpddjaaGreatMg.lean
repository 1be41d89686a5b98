/- The library, part 7: W85, TD1, TD2. -/
import Derived.Test.YtpcjbccldpddjaaGreatMf
import Derived.Test.YtpcjbccldpddjaaGreatMc
import Derived.Test.YtpcjbccldpddjaaGreatMd
import Derived.Test.YtpcjbccldpddjaaGreatRows
import Derived.ChangeShapes
/- W85: the law LimitsKnown, walked. -/
namespace Bow
open Go Go.Proofs

/-- The law's trees. -/
def knownT : List Tree := [zeroT [], flatT 511, flatT 512, chainT 12, chainT 13, longT 2048 [], longT 2049 [], longT 2047 [([107], [])], longT 2047 [([107], [118])], longT 0 [([107], []), ([109], List.replicate 256 0)]]
def knownV : List V := [.agg [.int .u64 0, .ff, .str [], .nilsl, .str [], .nilsl], nodeV (flatT 511), nodeV (flatT 512), nodeV (chainT 12), nodeV (chainT 13), nodeV (longT 2048 []), nodeV (longT 2049 []), nodeV (longT 2047 [([107], [])]), nodeV (longT 2047 [([107], [118])]), nodeV (longT 0 [([107], []), ([109], List.replicate 256 0)])]
theorem wk_known : Wk (.sl 6 knownV) (.sl 6 (knownT.map nodeV)) := by
  refine Wk.sl (wkE_nodes rfl fun i x t hx ht => ?_)
  match i, hx, ht with
  | 0, hx, ht => cases hx; cases ht; exact ⟨.refl _, Wk.ff, .refl _, Wk.nil 2, .refl _, Wk.nil 6, trivial⟩
  | 1, hx, ht => cases hx; cases ht; exact WkL.refl _
  | 2, hx, ht => cases hx; cases ht; exact WkL.refl _
  | 3, hx, ht => cases hx; cases ht; exact WkL.refl _
  | 4, hx, ht => cases hx; cases ht; exact WkL.refl _
  | 5, hx, ht => cases hx; cases ht; exact WkL.refl _
  | 6, hx, ht => cases hx; cases ht; exact WkL.refl _
  | 7, hx, ht => cases hx; cases ht; exact WkL.refl _
  | 8, hx, ht => cases hx; cases ht; exact WkL.refl _
  | 9, hx, ht => cases hx; cases ht; exact WkL.refl _
  | i + 10, hx, ht => exact absurd (show i + 10 < 10 from lt_of_get hx) (by omega)
theorem wk_two (a b : Tree) : Wk (zeroV (.sl 6 [nodeV a, nodeV b])) (nodeV (zeroT [a, b])) := wk_zero (.refl _)
theorem bytes0 (n : Nat) : List.replicate n (V.int .u8 0) = (List.replicate n (0 : UInt8)).map fun b => V.int .u8 b.toNat := by rw [List.map_replicate]; rfl

def delOp : OpT := { noOp 2 with path := [0] }
def xOp : OpT := { noOp 5 with label := [120] }
theorem wk_insDel : Wk (.sl 11 [.agg [.int .u8 1, .nilsl, .int .i64 0, .nilsl, .int .u64 0, .ff, .str [], .str [], .str [], .ff, .nilsl], .agg [.int .u8 2, .sl 1 [.int .i64 0], .int .i64 0, .nilsl, .int .u64 0, .ff, .str [], .str [], .str [], .ff, .nilsl]]) (opsV [insOp, delOp]) :=
  Wk.sl ⟨⟨⟨.refl _, Wk.nil 1, .refl _, Wk.nil 1, .refl _, Wk.ff, .refl _, .refl _, .refl _, Wk.ff, Wk.nil 3, trivial⟩, ⟨rfl, rfl⟩⟩, ⟨⟨.refl _, .refl _, .refl _, Wk.nil 1, .refl _, Wk.ff, .refl _, .refl _, .refl _, Wk.ff, Wk.nil 3, trivial⟩, ⟨rfl, rfl⟩⟩, trivial⟩
theorem wk_xDel : Wk (.sl 11 [.agg [.int .u8 5, .nilsl, .int .i64 0, .nilsl, .int .u64 0, .ff, .str [120], .str [], .str [], .ff, .nilsl], .agg [.int .u8 2, .sl 1 [.int .i64 0], .int .i64 0, .nilsl, .int .u64 0, .ff, .str [], .str [], .str [], .ff, .nilsl]]) (opsV [xOp, delOp]) :=
  Wk.sl ⟨⟨⟨.refl _, Wk.nil 1, .refl _, Wk.nil 1, .refl _, Wk.ff, .refl _, .refl _, .refl _, Wk.ff, Wk.nil 3, trivial⟩, ⟨rfl, rfl⟩⟩, ⟨⟨.refl _, .refl _, .refl _, Wk.nil 1, .refl _, Wk.ff, .refl _, .refl _, .refl _, Wk.ff, Wk.nil 3, trivial⟩, ⟨rfl, rfl⟩⟩, trivial⟩
/-! ### The list that is filled in a loop, its last element's row under a name -/
def opzV : V := .agg [.int .u8 0, .nilsl, .int .i64 0, .nilsl, .int .u64 0, .ff, .str [], .str [], .str [], .ff, .nilsl]
def putV (n : Nat) : V := .agg [.int .i64 0, .int .i64 0, .str (List.replicate n 0)]
def ediV (row : V) : V := .agg [.int .u8 6, .nilsl, .int .i64 0, .nilsl, .int .u64 0, .ff, .str [], .str [], .str [], .ff, row]
def wideI (B : Base) : Nat ⊕ Nat → Base → Prop
  | .inl i, B' => i ≤ 64 ∧ B' = B
  | .inr r, B' => B r = none ∧ B' r = some (.vec 0 3 [putV 1024]) ∧ Ext B B'
def wideM : Nat ⊕ Nat → Nat
  | .inl i => 66 - i
  | .inr _ => 0
def wideE : Nat ⊕ Nat → Env
  | .inl i => [(6, .int .i64 i), (5, .osl (.loc 0) 0 0 65)]
  | .inr _ => [(6, .int .i64 65), (5, .osl (.loc 0) 0 0 65)]
def wideT : Nat ⊕ Nat → Heap
  | .inl i => [some (.vec 0 11 (List.replicate i (ediV (.sl 3 [putV 1024])) ++ List.replicate (65 - i) opzV))]
  | .inr r => [some (.vec 0 11 (List.replicate 64 (ediV (.sl 3 [putV 1024])) ++ [ediV (.osl (.abs r) 0 0 1)]))]
theorem wide_at {i : Nat} (hi : i ≤ 64) : (List.replicate i (ediV (.sl 3 [putV 1024])) ++ List.replicate (65 - i) opzV)[0 + ((i : Nat) : Int).toNat]? = some opzV := by
  rw [Nat.zero_add, show ((i : Nat) : Int).toNat = i from rfl, List.getElem?_append_right (by simp)]
  rw [List.length_replicate, Nat.sub_self, List.getElem?_replicate, if_pos (by omega)]
theorem wide_set {i : Nat} (hi : i ≤ 64) (x : V) : (List.replicate i (ediV (.sl 3 [putV 1024])) ++ List.replicate (65 - i) opzV).set (0 + ((i : Nat) : Int).toNat) x = List.replicate i (ediV (.sl 3 [putV 1024])) ++ x :: List.replicate (65 - (i + 1)) opzV := by
  rw [Nat.zero_add, show ((i : Nat) : Int).toNat = i from rfl, List.set_append_right _ _ (by simp), List.length_replicate, Nat.sub_self, show 65 - i = (65 - (i + 1)) + 1 by omega, List.replicate_succ, List.set_cons_zero]
theorem wide_next {i : Nat} (hi : i < 64) : some (HObj.vec 0 11 ((List.replicate i (ediV (.sl 3 [putV 1024])) ++ List.replicate (65 - i) opzV).set (0 + ((i : Nat) : Int).toNat) (ediV (.sl 3 [putV 1024])))) = some (HObj.vec 0 11 (List.replicate (i + 1) (ediV (.sl 3 [putV 1024])) ++ List.replicate (65 - (i + 1)) opzV)) := by
  rw [wide_set (by omega), List.replicate_succ', List.append_assoc]
  rfl
theorem wide_last {i r : Nat} (hi : i = 64) : some (HObj.vec 0 11 ((List.replicate i (ediV (.sl 3 [putV 1024])) ++ List.replicate (65 - i) opzV).set (0 + ((i : Nat) : Int).toNat) (ediV (.osl (.abs r) 0 0 1)))) = some (HObj.vec 0 11 (List.replicate 64 (ediV (.sl 3 [putV 1024])) ++ [ediV (.osl (.abs r) 0 0 1)])) := by
  subst hi
  rw [wide_set (by omega)]
  rfl
theorem wide_inr {B Bc B' : Base} {r : Nat} (hBc : Bc = B) (h1 : Bc r = none) (h2 : B' r = some (.vec 0 3 [putV 1024])) (h3 : ∀ q, q ≠ r → B' q = Bc q) : wideI B (.inr r) B' := by
  subst hBc
  refine ⟨h1, h2, fun q o e => ?_⟩
  rw [h3 q (fun hq => by rw [hq, h1] at e; cases e)]
  exact e
theorem sc_wideE {i : Nat} {n : Nat} : ∀ p ∈ [((103 : Nat), V.int .i64 i), (102, .osl (.loc 0) 0 0 65), (6, .int .i64 i), (5, .osl (.loc 0) 0 0 65)], p.2.sc (n + 1) := by
  intro p hp
  simp only [List.mem_cons, List.not_mem_nil, or_false] at hp
  rcases hp with rfl | rfl | rfl | rfl
  · trivial
  · exact Nat.succ_pos _
  · trivial
  · exact Nat.succ_pos _
theorem sc_wideT {xs : List V} {n : Nat} : ∀ (k : Nat) (o : HObj), [some (HObj.vec 0 11 xs), none][k]? = some (some o) → o.sc n
  | 0, o, h => by cases h; trivial
  | 1, o, h => by cases h
  | k + 2, o, h => by simp at h
theorem wide_64 (r : Nat) : (List.replicate 64 (ediV (.sl 3 [putV 1024])) ++ [ediV (.osl (.abs r) 0 0 1)])[0 + (64 : Int).toNat]? = some (ediV (.osl (.abs r) 0 0 1)) := by
  rw [Nat.zero_add, show (64 : Int).toNat = 64 from rfl, List.getElem?_append_right (by simp)]
  simp
theorem over_put (s : List UInt8) : over [V.int .i64 0, .int .i64 0, .str s] 2 [V.str []] [V.int .i64 0, .int .i64 0, .str []] := by
  refine ⟨Nat.le_refl _, rfl, fun j => ?_⟩
  match j with
  | 0 => rfl
  | 1 => rfl
  | 2 => rfl
  | j + 3 => simp
theorem ext_one' {B Bc B' : Base} {r : Nat} (h : Ext B Bc) (hn : B r = none) (hq : ∀ q, q ≠ r → B' q = Bc q) : Ext B B' := fun q o e => by
  rw [hq q (fun hm => by rw [hm, hn] at e; cases e)]
  exact h q o e
def eV : V := ediV (.sl 3 [putV 1024])
def wideL (r : Nat) : List V := List.replicate 64 eV ++ [ediV (.osl (.abs r) 0 0 1)]
theorem wide_le (r n : Nat) (h : n ≤ 64) : ((n : Nat) : Int) ≤ (((wideL r).length : Nat) : Int) := by
  unfold wideL
  rw [List.length_append, List.length_replicate]
  omega
theorem wide_take (r n : Nat) (h : n ≤ 64) : ((wideL r).drop 0).take n = List.replicate n eV := by
  unfold wideL
  rw [List.drop_zero, List.take_append_of_le_length (by simpa using h), List.take_replicate, Nat.min_eq_left h]
theorem wide_room (r n b : Nat) (hb : b ≤ 10000) : room (([] : List V).length + (((wideL r).drop 0).take n).length) b := by
  have h1 : (((wideL r).drop 0).take n).length ≤ 65 := by
    refine Nat.le_trans (List.length_take_le' ..) ?_
    simp [wideL]
  exact Nat.le_trans (Nat.mul_le_mul (show _ ≤ 65 by simpa using h1) hb) (by decide)
theorem wide_osl (r n : Nat) (h : n ≤ 64) : V.osl (.loc 1) 2 0 (([] : List V).length + (((wideL r).drop 0).take n).length) = V.osl (.loc 1) 2 0 n := by
  rw [wide_take r n h, List.length_replicate, List.length_nil, Nat.zero_add]
theorem wide_vec (r n : Nat) (h : n ≤ 64) : some (HObj.vec 2 11 ([] ++ ((wideL r).drop 0).take n)) = some (HObj.vec 2 11 (List.replicate n eV)) := by
  rw [wide_take r n h, List.nil_append]
theorem wide_osl4 (r n : Nat) (h : n ≤ 64) : V.osl (.loc 4) 2 0 (([] : List V).length + (((wideL r).drop 0).take n).length) = V.osl (.loc 4) 2 0 n := by
  rw [wide_take r n h, List.length_replicate, List.length_nil, Nat.zero_add]
def overL : List V := (List.replicate 64 eV).set 3 (ediV (.sl 3 [putV 1025]))
def labelL : List V := List.replicate 63 eV ++ [.agg [.int .u8 5, .nilsl, .int .i64 0, .nilsl, .int .u64 0, .ff, .str (List.replicate 64 0), .str [], .str [], .ff, .nilsl]]
def goneC : List V := [.int .u8 4, .nilsl, .int .i64 0, .nilsl, .int .u64 0, .ff, .str [], .str [107], .str (List.replicate 3000 0), .tt, .nilsl]
/-! ### The lists whose fitting is asked -/
def eO : OpT := { noOp 6 with pieces := [⟨0, 0, List.replicate 1024 0⟩] }
def lastO : OpT := { noOp 6 with pieces := [⟨0, 0, []⟩] }
def wideO : List OpT := List.replicate 64 eO ++ [lastO]
def overO : List OpT := (List.replicate 64 eO).set 3 { noOp 6 with pieces := [⟨0, 0, List.replicate 1025 0⟩] }
def labelO : List OpT := List.replicate 63 eO ++ [{ noOp 5 with label := List.replicate 64 0 }]
def goneO : OpT := { noOp 4 with key := [107], gone := true, value := List.replicate 3000 0 }
def rowO64 (k : Int) (n : Nat) : OpT := { noOp k with pieces := List.replicate n ⟨0, 0, []⟩ }
def fitV (r : Nat) : List V := [.nilsl, .sl 11 (wideL r), .sl 11 (((wideL r).drop 0).take 64), .sl 11 overL, .sl 11 labelL, .sl 11 [.agg goneC], .sl 11 [opzV], .sl 11 [ediV (.sl 3 (List.replicate 64 (putV 0)))], .sl 11 [ediV (.sl 3 (List.replicate 65 (putV 0)))],
  .sl 11 [.agg [.int .u8 2, .nilsl, .int .i64 0, .nilsl, .int .u64 0, .ff, .str [], .str [], .str [], .ff, .sl 3 (List.replicate 65 (putV 0))]]]
theorem wk_edi {row : V} {ps : List PieceT} (h : Wk row (piecesV ps)) : WkL (ediV row).cells (opV { noOp 6 with pieces := ps }).cells :=
  ⟨.refl _, Wk.nil 1, .refl _, Wk.nil 1, .refl _, Wk.ff, .refl _, .refl _, .refl _, Wk.ff, h, trivial⟩
theorem wkE_ops : ∀ {xs : List V} {os : List OpT}, xs.length = os.length → (∀ (i : Nat) (x : V) (o : OpT), xs[i]? = some x → os[i]? = some o → WkL x.cells (opV o).cells) → WkE 11 xs (os.map opV)
  | [], [], _, _ => trivial
  | x :: xs, o :: os, hl, h => ⟨⟨h 0 x o rfl rfl, rfl, rfl⟩, wkE_ops (by simpa using hl) fun i y s hy hs => h (i + 1) y s (by simpa using hy) (by simpa using hs)⟩
  | [], _ :: _, hl, _ => by simp at hl
  | _ :: _, [], hl, _ => by simp at hl
theorem wk_eV : WkL eV.cells (opV eO).cells := wk_edi (.refl _)
theorem get_rep {α : Type} {n i : Nat} {a x : α} (h : (List.replicate n a)[i]? = some x) : x = a := (List.mem_replicate.1 (List.mem_of_getElem? h)).2
theorem z0 {B : Base} : Fz B .nilsl (opsV []) := .wk (Wk.nil 11)
theorem z2 {B : Base} (r : Nat) : Fz B (.sl 11 (((wideL r).drop 0).take 64)) (opsV (List.replicate 64 eO)) := by
  rw [wide_take r 64 (Nat.le_refl _)]
  exact .wk (Wk.sl (wkE_ops (by simp) fun i x o hx ho => by rw [get_rep hx, get_rep ho]; exact wk_eV))
theorem wk_over : Wk (.sl 11 overL) (opsV overO) := by
  refine Wk.sl (wkE_ops (by unfold overL overO; rw [List.length_set, List.length_set, List.length_replicate, List.length_replicate]) fun i x o hx ho => ?_)
  by_cases h3 : i = 3
  · subst h3
    cases hx
    cases ho
    exact wk_edi (.refl _)
  · unfold overL at hx
    unfold overO at ho
    rw [List.getElem?_set_ne (fun e => h3 e.symm)] at hx ho
    rw [get_rep hx, get_rep ho]
    exact wk_eV
theorem z3 {B : Base} : Fz B (.sl 11 overL) (opsV overO) := .wk wk_over
theorem z4 {B : Base} : Fz B (.sl 11 labelL) (opsV labelO) := by
  refine .wk (Wk.sl (wkE_ops (by simp [labelL, labelO]) fun i x o hx ho => ?_))
  unfold labelL at hx
  unfold labelO at ho
  rcases Nat.lt_or_ge i 63 with h | h
  · rw [List.getElem?_append_left (by simpa using h)] at hx ho
    rw [get_rep hx, get_rep ho]
    exact wk_eV
  · rw [List.getElem?_append_right (by simpa using h)] at hx ho
    simp only [List.length_replicate] at hx ho
    obtain ⟨j, hj⟩ : ∃ j, i - 63 = j := ⟨_, rfl⟩
    rw [hj] at hx ho
    cases j with
    | zero =>
      cases hx
      cases ho
      exact ⟨.refl _, Wk.nil 1, .refl _, Wk.nil 1, .refl _, Wk.ff, .refl _, .refl _, .refl _, Wk.ff, Wk.nil 3, trivial⟩
    | succ j => simp at hx
theorem z5 {B : Base} : Fz B (.sl 11 [.agg goneC]) (opsV [goneO]) := .wk (Wk.sl ⟨⟨⟨.refl _, Wk.nil 1, .refl _, Wk.nil 1, .refl _, Wk.ff, .refl _, .refl _, .refl _, Wk.tt, Wk.nil 3, trivial⟩, rfl, rfl⟩, trivial⟩)
theorem z6 {B : Base} : Fz B (.sl 11 [opzV]) (opsV [noOp 0]) := .wk (Wk.sl ⟨⟨⟨.refl _, Wk.nil 1, .refl _, Wk.nil 1, .refl _, Wk.ff, .refl _, .refl _, .refl _, Wk.ff, Wk.nil 3, trivial⟩, rfl, rfl⟩, trivial⟩)
theorem puts0 (n : Nat) : V.sl 3 (List.replicate n (putV 0)) = piecesV (List.replicate n ⟨0, 0, []⟩) := by
  unfold piecesV
  rw [List.map_replicate]
  rfl
theorem z7 {B : Base} : Fz B (.sl 11 [ediV (.sl 3 (List.replicate 64 (putV 0)))]) (opsV [rowO64 6 64]) := by
  rw [puts0]
  exact .wk (Wk.sl ⟨⟨wk_edi (.refl _), rfl, rfl⟩, trivial⟩)
theorem z8 {B : Base} : Fz B (.sl 11 [ediV (.sl 3 (List.replicate 65 (putV 0)))]) (opsV [rowO64 6 65]) := by
  rw [puts0]
  exact .wk (Wk.sl ⟨⟨wk_edi (.refl _), rfl, rfl⟩, trivial⟩)
theorem z9 {B : Base} : Fz B (.sl 11 [.agg [.int .u8 2, .nilsl, .int .i64 0, .nilsl, .int .u64 0, .ff, .str [], .str [], .str [], .ff, .sl 3 (List.replicate 65 (putV 0))]]) (opsV [rowO64 2 65]) := by
  rw [puts0]
  exact .wk (Wk.sl ⟨⟨⟨.refl _, Wk.nil 1, .refl _, Wk.nil 1, .refl _, Wk.ff, .refl _, .refl _, .refl _, Wk.ff, .refl _, trivial⟩, rfl, rfl⟩, trivial⟩)
theorem fz_last {B : Base} {r : Nat} (h : B r = some (.vec 0 3 [putV 0])) : ∀ (j : Nat) (c d : V), (ediV (.osl (.abs r) 0 0 1)).cells[j]? = some c → (opV lastO).cells[j]? = some d → Fz B c d
  | 0, c, d, hc, hd => by cases hc; cases hd; exact .wk (.refl _)
  | 1, c, d, hc, hd => by cases hc; cases hd; exact .wk (Wk.nil 1)
  | 2, c, d, hc, hd => by cases hc; cases hd; exact .wk (.refl _)
  | 3, c, d, hc, hd => by cases hc; cases hd; exact .wk (Wk.nil 1)
  | 4, c, d, hc, hd => by cases hc; cases hd; exact .wk (.refl _)
  | 5, c, d, hc, hd => by cases hc; cases hd; exact .wk Wk.ff
  | 6, c, d, hc, hd => by cases hc; cases hd; exact .wk (.refl _)
  | 7, c, d, hc, hd => by cases hc; cases hd; exact .wk (.refl _)
  | 8, c, d, hc, hd => by cases hc; cases hd; exact .wk (.refl _)
  | 9, c, d, hc, hd => by cases hc; cases hd; exact .wk Wk.ff
  | 10, c, d, hc, hd => by cases hc; cases hd; exact .row r 0 3 [putV 0] h
  | j + 11, c, d, hc, hd => absurd (show j + 11 < 11 from lt_of_get hc) (by omega)
theorem fz_wide {B : Base} {r : Nat} (h : B r = some (.vec 0 3 [putV 0])) : Fz B (.sl 11 (wideL r)) (opsV wideO) := by
  refine .sl 11 _ _ (by simp [wideL, wideO]) (fun y hy => ?_) fun i x y j c d hx hy hc hd => ?_
  · obtain ⟨o, _, rfl⟩ := List.mem_map.1 hy
    exact ⟨rfl, rfl⟩
  · rw [List.getElem?_map, Option.map_eq_some_iff] at hy
    obtain ⟨o, ho, rfl⟩ := hy
    unfold wideL at hx
    unfold wideO at ho
    rcases Nat.lt_or_ge i 64 with h1 | h1
    · rw [List.getElem?_append_left (by simpa using h1)] at hx ho
      rw [get_rep hx] at hc
      rw [get_rep ho] at hd
      obtain ⟨c', e1, e2⟩ := wk_eV.get j d hd
      rw [hc] at e1
      injection e1 with e1
      subst e1
      exact .wk e2
    · rw [List.getElem?_append_right (by simpa using h1)] at hx ho
      simp only [List.length_replicate] at hx ho
      obtain ⟨k, hk⟩ : ∃ k, i - 64 = k := ⟨_, rfl⟩
      rw [hk] at hx ho
      cases k with
      | zero =>
        simp only [List.getElem?_cons_zero, Option.some.injEq] at hx ho
        subst hx ho
        exact fz_last h j c d hc hd
      | succ k => simp at hx
theorem ok_edi (n : Nat) (h : n ≤ 2000) : ({ noOp 6 with pieces := [⟨0, 0, List.replicate n 0⟩] } : OpT).Ok := by
  refine ⟨⟨Nat.zero_le _, Nat.zero_le _, Nat.zero_le _, Nat.zero_le _, Nat.zero_le _, show 1 ≤ 1000000 by decide⟩, ?_⟩
  simp [putsLen]
  omega
theorem ok_over : ∀ o ∈ overO, o.Ok := fun o ho => by
  rcases List.mem_or_eq_of_mem_set ho with h | rfl
  · rw [(List.mem_replicate.1 h).2]; exact ok_edi 1024 (by decide)
  · exact ok_edi 1025 (by decide)
theorem fits_over : Pure Tryz.prog 11 [.sl 11 overL] (fun x => x = .int .i64 3) := by
  have h := pure_args (args := [.sl 11 overL]) (w_Fits overO (by decide) ok_over) ⟨wk_over, trivial⟩ rfl rfl
  rwa [show fitsE overO = 3 by kernel_rfl] at h
theorem fits_wide (r : Nat) : Pure Tryz.prog 11 [.sl 11 (((wideL r).drop 0).take 64)] (fun x => x = .int .i64 0) := by
  have h := pure_args (args := [.sl 11 (List.replicate 64 eV)]) (w_Fits (List.replicate 64 eO) (by decide) fun o ho => by rw [(List.mem_replicate.1 ho).2]; exact ok_edi 1024 (by decide)) ⟨Wk.sl (wkE_ops (by simp) fun i x o hx ho => by rw [get_rep hx, get_rep ho]; exact wk_eV), trivial⟩ rfl rfl
  rw [show fitsE (List.replicate 64 eO) = 0 by kernel_rfl] at h
  rw [wide_take r 64 (Nat.le_refl _)]
  exact h
theorem pure2 {P : Program} {f : FuncId} {a x y : V} {Q : V → Prop} (h : Pure P f [a, y] Q) (w : Wk x y) (ha : a.pureB = true) (hx : x.pureB = true) (hy : y.pureB = true) : Pure P f [a, x] Q :=
  pure_args h ⟨.refl _, w, trivial⟩ (by simp [V.pureL, ha, hx]) (by simp [V.pureL, ha, hy])
set_option maxHeartbeats 8000000 in
set_option maxRecDepth 100000 in
theorem w_LimitsKnown : Pure Tryz.prog 3 [] (fun x => x = .bool true) := by
  have hw := w_works16
  have hkn : knownT.length ≤ 10 := Nat.le_refl _
  have f0 := w_LimitsFits [] (by decide)
  have f1 := w_LimitsFits wideO (show 65 ≤ maxLen by decide)
  have f2 := w_LimitsFits (List.replicate 64 eO) (show 64 ≤ maxLen by decide)
  have f3 := w_LimitsFits overO (show 64 ≤ maxLen by decide)
  have f4 := w_LimitsFits labelO (show 64 ≤ maxLen by decide)
  have f5 := w_LimitsFits [goneO] (by decide)
  have f6 := w_LimitsFits [noOp 0] (by decide)
  have f7 := w_LimitsFits [rowO64 6 64] (by decide)
  have f8 := w_LimitsFits [rowO64 6 65] (by decide)
  have f9 := w_LimitsFits [rowO64 2 65] (by decide)
  have e1 := fits_over
  have e2 := fits_wide
  refine pure_of_funN (funN_of_goes 60 Tryz.func3 rfl rfl rfl fun B => ?_) rfl
  show Goes _ _ _ _
  refine goes_drawS [] 0 ?_
  refine ⟨_, w_flat 511 (by decide), rfl, _, w_flat 512 (by decide), rfl, _, w_chain 12 (by decide), rfl, _, w_chain 13 (by decide), rfl, ?_⟩
  refine ⟨_, pure_args (w_long 2048 [] (by decide)) ⟨.refl _, Wk.nil 2, trivial⟩ rfl rfl, rfl, _, pure_args (w_long 2049 [] (by decide)) ⟨.refl _, Wk.nil 2, trivial⟩ rfl rfl, rfl, ?_⟩
  refine ⟨rfl, ⟨rfl, trivial⟩, rfl, rfl, rfl, _, w_long 2047 [([107], [])] (by decide), rfl, ?_⟩
  refine ⟨rfl, ⟨rfl, trivial⟩, rfl, rfl, rfl, _, w_long 2047 [([107], [118])] (by decide), rfl, ?_⟩
  refine ⟨⟨by decide, rfl, by decide⟩, rfl, List.replicate 256 0, congrArg (fun z => some (some (HObj.vec 2 1 z))) (bytes0 256), (List.length_replicate ..).symm, ?_⟩
  refine ⟨rfl, ⟨rfl, rfl, trivial⟩, rfl, rfl, rfl, _, w_long 0 [([107], []), ([109], List.replicate 256 0)] (by decide), rfl, ?_⟩
  refine ⟨rfl, ⟨rfl, rfl, rfl, rfl, rfl, rfl, rfl, rfl, rfl, rfl, trivial⟩, rfl, ?_⟩
  refine ⟨by kernel_rfl, ?_⟩
  show Goes _ _ _ _
  refine goes_fzSlot 1 4 rfl rfl rfl ?_
  show Goes _ _ _ _
  refine goes_wkSlot 1 (v := .sl 6 knownV) (v' := .sl 6 (knownT.map nodeV)) rfl rfl rfl wk_known ?_
  refine go 60 ?_
  show Goes _ _ _ _
  refine goes_iter (ι := Nat) (fun i => i ≤ knownT.length) (fun i => knownT.length - i) (fun i => [(2, .int .i64 i), (1, .sl 6 (knownT.map nodeV))]) (fun _ => []) 0 60 (fun _ => rfl) (fun _ => rfl) ⟨Nat.zero_le _, ⟨⟨rfl, rfl⟩, ⟨rfl, rfl⟩, trivial⟩, trivial⟩ ?_
  rintro i k1 next
  refine ⟨fun hlt => go 60 ?_, fun hge => ?_⟩
  · have hi : i < knownT.length := by simpa using hlt
    have hx : (knownT.map nodeV)[((i : Nat) : Int).toNat]? = some (nodeV knownT[i]) := by simp [hi]
    have c1 := w_LimitsCheck knownT[i]
    have c2 := pure2 (w_LimitsAfter knownT[i] [insOp] (by decide)) wk_insOp rfl rfl rfl
    have c3 := pure2 (w_LimitsAfter knownT[i] [insOp, delOp] (by decide)) wk_insDel rfl rfl rfl
    have c4 := pure2 (w_LimitsLess knownT[i] [xOp, delOp] (by decide)) wk_xDel rfl rfl rfl
    have c5 : ∀ t : Tree, Pure Tryz.prog 7 [zeroV (.sl 6 [nodeV knownT[i], nodeV t])] (fun x => x = .bool true) := fun t => pure_args (w_LimitsCheck (zeroT [knownT[i], t])) ⟨wk_two _ _, trivial⟩ rfl rfl
    generalize knownT[i] = ti at hx c1 c2 c3 c4 c5
    show Goes _ _ _ _
    refine goes_iter (ι := Nat) (fun k => k ≤ knownT.length) (fun k => knownT.length - k) (fun k => [(3, .int .i64 k), (2, .int .i64 i), (1, .sl 6 (knownT.map nodeV))]) (fun _ => []) 0 60 (fun _ => rfl) (fun _ => rfl) ⟨Nat.zero_le _, ⟨⟨rfl, rfl⟩, ⟨rfl, rfl⟩, ⟨rfl, rfl⟩, trivial⟩, trivial⟩ ?_
    rintro k k2 next1
    refine ⟨fun hlt => go 60 ?_, fun hge => go 60 ?_⟩
    · have hk : k < knownT.length := by simpa using hlt
      have hy : (knownT.map nodeV)[((k : Nat) : Int).toNat]? = some (nodeV knownT[k]) := by simp [hk]
      have c6 := c5 knownT[k]
      generalize knownT[k] = tk at hy c6
      show Goes _ _ _ _
      refine goes_draw 60 ?_
      refine ⟨Int.natCast_nonneg i, _, hx, Int.natCast_nonneg k, _, hy, rfl, ⟨rfl, rfl, trivial⟩, rfl, by kernel_rfl, ?_⟩
      refine ⟨by kernel_rfl, ?_⟩
      show CallThen _ _ _ _ _ _
      refine call_pure_frz ?_
      refine ⟨rfl, rfl, _, c6, rfl, ?_⟩
      rintro x rfl
      refine ⟨fun q => (by cases q), fun _ => go 60 ?_⟩
      refine ⟨by constructor <;> omega, ?_⟩
      show Goes _ _ _ _
      exact next1 (k + 1) _ _ ⟨hk, by omega, ⟨⟨rfl, rfl⟩, ⟨rfl, rfl⟩, ⟨rfl, rfl⟩, trivial⟩, trivial⟩
    clear next1
    refine ⟨Int.natCast_nonneg i, _, hx, ?_⟩
    show CallThen _ _ _ _ _ _
    refine call_pure c1 rfl ?_
    rintro x rfl
    refine ⟨fun q => (by cases q), fun _ => go 60 ?_⟩
    refine ⟨Int.natCast_nonneg i, _, hx, ⟨rfl, trivial⟩, ?_⟩
    show CallThen _ _ _ _ _ _
    refine call_pure_frz ?_
    refine ⟨rfl, rfl, _, c2, rfl, ?_⟩
    rintro x rfl
    refine ⟨fun q => (by cases q), fun _ => go 60 ?_⟩
    refine ⟨Int.natCast_nonneg i, _, hx, ⟨rfl, trivial⟩, rfl, rfl, ⟨rfl, rfl, trivial⟩, ?_⟩
    show CallThen _ _ _ _ _ _
    refine call_pure_frz ?_
    refine ⟨rfl, rfl, _, c3, rfl, ?_⟩
    rintro x rfl
    refine ⟨fun q => (by cases q), fun _ => go 60 ?_⟩
    refine ⟨Int.natCast_nonneg i, _, hx, ⟨rfl, trivial⟩, rfl, rfl, ⟨rfl, rfl, trivial⟩, ?_⟩
    show CallThen _ _ _ _ _ _
    refine call_pure_frz ?_
    refine ⟨rfl, rfl, _, c4, rfl, ?_⟩
    rintro x rfl
    refine ⟨fun q => (by cases q), fun _ => go 60 ?_⟩
    refine ⟨by constructor <;> omega, ?_⟩
    show Goes _ _ _ _
    exact next (i + 1) _ _ ⟨hi, by omega, ⟨⟨rfl, rfl⟩, ⟨rfl, rfl⟩, trivial⟩, trivial⟩
  clear next
  refine go 60 ?_
  show Goes _ _ _ _
  refine goes_make 60 65 rfl rfl rfl rfl rfl rfl rfl rfl rfl (by decide) ?_
  show Goes _ _ _ _
  refine goes_iterB (ι := Nat ⊕ Nat) (wideI B) wideM wideE wideT (.inl 0) 60 (fun s => by cases s <;> rfl) (fun s => by cases s <;> rfl) ⟨⟨Nat.zero_le _, rfl⟩, ⟨⟨rfl, rfl⟩, ⟨rfl, rfl⟩, trivial⟩, ⟨⟨rfl, rfl⟩, trivial⟩⟩ ?_
  clear k1 hge
  rintro (i | r) Bc hI next
  · have hi : i ≤ 64 := hI.1
    have hBc : Bc = B := hI.2
    refine ⟨fun _ => go 60 ?_, fun hge => absurd (not_lt_of hge) (by omega)⟩
    show Goes _ _ _ _
    refine goes_make 60 1024 rfl rfl rfl rfl rfl rfl rfl rfl rfl (by decide) ?_
    show Goes _ _ _ _
    refine goes_freeze 1 rfl rfl ?_
    refine goes_bytesStr 2 (List.replicate 1024 0) rfl rfl rfl ?_ rfl rfl rfl ?_
    · show (bif Nat.beq 0 0 && Nat.beq 0 0 && Nat.beq 1024 (List.replicate 1024 (V.int .u8 0)).length then V.sl 1 (List.replicate 1024 (V.int .u8 0)) else .undef) = _
      simp
    refine ⟨⟨rfl, trivial⟩, ?_⟩
    show Goes _ _ _ _
    have hx0 : (List.replicate i (ediV (.sl 3 [putV 1024])) ++ List.replicate (65 - i) opzV)[0 + ((i : Nat) : Int).toNat]? = some opzV := wide_at hi
    by_cases h64 : i = 64
    · refine goes_name 107 (E0 := [(103, .int .i64 i), (102, .osl (.loc 0) 0 0 65), (6, .int .i64 i), (5, .osl (.loc 0) 0 0 65)]) (T0 := [some (.vec 0 11 (List.replicate i (ediV (.sl 3 [putV 1024])) ++ List.replicate (65 - i) opzV)), none]) rfl rfl (Nat.zero_le _) rfl
        (fun j => (envIs_lk (n := 2) (E' := [(103, .int .i64 i), (102, .osl (.loc 0) 0 0 65), (6, .int .i64 i), (5, .osl (.loc 0) 0 0 65)]) ⟨⟨rfl, rfl⟩, ⟨rfl, rfl⟩, ⟨rfl, rfl⟩, ⟨rfl, rfl⟩, trivial⟩ j).1) sc_wideE sc_wideT (fun r B' hr1 hr2 hr3 => ?_)
      refine go 60 ?_
      refine ⟨rfl, Int.natCast_nonneg i, by omega, rfl, _, hx0, ?_⟩
      refine ⟨by constructor <;> omega, ?_⟩
      show Goes _ _ _ _
      refine next (.inr r) B' _ _ ⟨wide_inr hBc hr1 hr2 hr3, Nat.zero_lt_of_lt (show (0 : Nat) < 66 - i by omega), ⟨⟨?_, rfl⟩, ⟨rfl, rfl⟩, trivial⟩, ⟨⟨?_, rfl⟩, trivial⟩⟩
      · exact congrArg (V.int IntKind.i64) (show ((i : Nat) : Int) + 1 = 65 by omega)
      · exact wide_last h64
    · refine goes_freeze 2 rfl rfl ?_
      refine go 60 ?_
      refine ⟨rfl, Int.natCast_nonneg i, by omega, rfl, _, hx0, ?_⟩
      refine ⟨by constructor <;> omega, ?_⟩
      show Goes _ _ _ _
      refine next (.inl (i + 1)) Bc _ _ ⟨⟨by omega, hBc⟩, show 66 - (i + 1) < 66 - i by omega, ⟨⟨rfl, rfl⟩, ⟨rfl, rfl⟩, trivial⟩, ⟨⟨?_, rfl⟩, trivial⟩⟩
      exact wide_next (by omega)
  have hr0 : B r = none := hI.1
  have hr1 : Bc r = some (.vec 0 3 [putV 1024]) := hI.2.1
  have hE : Ext B Bc := hI.2.2
  clear next hI
  refine ⟨fun h => absurd h (by decide), fun _ => go 60 ?_⟩
  refine ⟨rfl, by decide, by decide, rfl, rfl, _, wide_64 r, ?_⟩
  show Goes _ _ _ _
  refine goes_indexA 60 rfl rfl rfl rfl rfl rfl rfl rfl (by simp) hr1 (by decide) (by decide) ?_
  show Goes _ _ _ _
  refine goes_fieldA 60 rfl rfl rfl rfl rfl rfl rfl rfl (by simp) hr1 ?_
  show Goes _ _ _ _
  refine goes_storeAx 0 (x0 := putV 1024) (cs' := [.int .i64 0, .int .i64 0, .str []]) rfl rfl rfl rfl rfl rfl (by simp) hr1 rfl (over_put _) fun B2 h2 h3 => ?_
  have h2 : B2 r = some (.vec 0 3 [putV 0]) := h2
  have hE2 : Ext B B2 := ext_one' hE hr0 h3
  clear hr1 h3 hE
  show Goes _ _ _ _
  refine goes_freeze 0 rfl rfl ?_
  refine go 60 ?_
  refine ⟨trivial, by decide, by decide, wide_le r 64 (by decide), rfl, rfl, wide_room r 64 _ (by decide), ?_⟩
  show Goes _ _ _ _
  refine goes_to [(120, .osl (.loc 1) 2 0 64), (7, .osl (.loc 1) 2 0 64), (5, .sl 11 (wideL r))] [none, some (.vec 2 11 (List.replicate 64 eV))] rfl (Nat.zero_le _) ⟨⟨wide_osl r 64 (by decide), rfl⟩, ⟨wide_osl r 64 (by decide), rfl⟩, ⟨rfl, rfl⟩, trivial⟩ ⟨rfl, ⟨wide_vec r 64 (by decide), rfl⟩, trivial⟩ ?_
  refine goes_make 60 1025 rfl rfl rfl rfl rfl rfl rfl rfl rfl (by decide) ?_
  show Goes _ _ _ _
  refine goes_freeze 2 rfl rfl ?_
  refine goes_bytesStr 2 (List.replicate 1025 0) rfl rfl rfl ?_ rfl rfl rfl ?_
  · show (bif Nat.beq 0 0 && Nat.beq 0 0 && Nat.beq 1025 (List.replicate 1025 (V.int .u8 0)).length then V.sl 1 (List.replicate 1025 (V.int .u8 0)) else .undef) = _
    simp
  refine ⟨⟨rfl, trivial⟩, ?_⟩
  show Goes _ _ _ _
  refine goes_freeze 3 rfl rfl ?_
  refine go 60 ?_
  refine ⟨rfl, by decide, by decide, rfl, _, rfl, ?_⟩
  refine ⟨trivial, by decide, by decide, wide_le r 63 (by decide), rfl, rfl, wide_room r 63 _ (by decide), ?_⟩
  show Goes _ _ _ _
  refine goes_to [(131, .osl (.loc 4) 2 0 63), (8, .osl (.loc 4) 2 0 63), (7, .osl (.loc 1) 2 0 64), (5, .sl 11 (wideL r))] [none, some (.vec 2 11 overL), none, none, some (.vec 2 11 (List.replicate 63 eV))] rfl (Nat.zero_le _) ⟨⟨wide_osl4 r 63 (by decide), rfl⟩, ⟨wide_osl4 r 63 (by decide), rfl⟩, ⟨rfl, rfl⟩, ⟨rfl, rfl⟩, trivial⟩ ⟨rfl, ⟨rfl, rfl⟩, rfl, rfl, ⟨wide_vec r 63 (by decide), rfl⟩, trivial⟩ ?_
  refine goes_make 60 64 rfl rfl rfl rfl rfl rfl rfl rfl rfl (by decide) ?_
  show Goes _ _ _ _
  refine goes_freeze 5 rfl rfl ?_
  refine goes_bytesStr 60 (List.replicate 64 0) rfl rfl rfl ?_ rfl rfl rfl ?_
  · show (bif Nat.beq 0 0 && Nat.beq 0 0 && Nat.beq 64 (List.replicate 64 (V.int .u8 0)).length then V.sl 1 (List.replicate 64 (V.int .u8 0)) else .undef) = _
    simp
  refine ⟨⟨rfl, trivial⟩, rfl, rfl, rfl, rfl, Nat.le_trans (Nat.mul_le_mul (show _ ≤ 65 by simp) (show _ ≤ 10000 by decide)) (by decide), ?_⟩
  show Goes _ _ _ _
  refine goes_make 60 3000 rfl rfl rfl rfl rfl rfl rfl rfl rfl (by decide) ?_
  show Goes _ _ _ _
  refine goes_freeze 7 rfl rfl ?_
  refine goes_bytesStr 60 (List.replicate 3000 0) rfl rfl rfl ?_ rfl rfl rfl ?_
  · show (bif Nat.beq 0 0 && Nat.beq 0 0 && Nat.beq 3000 (List.replicate 3000 (V.int .u8 0)).length then V.sl 1 (List.replicate 3000 (V.int .u8 0)) else .undef) = _
    simp
  show Goes _ _ _ _
  refine goes_fzSlot 7 1 rfl rfl rfl ?_
  refine goes_fzSlot 8 4 rfl rfl rfl ?_
  refine goes_freeze 6 rfl rfl ?_
  refine goes_to [(9, .ptr (.loc 8) 0), (8, .sl 11 labelL), (7, .sl 11 overL), (5, .sl 11 (wideL r))] [none, none, none, none, none, none, none, none, some (.box goneC)] rfl (Nat.zero_le _) ⟨⟨rfl, rfl⟩, ⟨rfl, rfl⟩, ⟨rfl, rfl⟩, ⟨rfl, rfl⟩, trivial⟩ ⟨rfl, rfl, rfl, rfl, rfl, rfl, rfl, rfl, ⟨rfl, rfl⟩, trivial⟩ ?_
  refine goes_draw 0 ?_
  refine ⟨by decide, by decide, wide_le r 64 (by decide), ?_⟩
  refine ⟨rfl, ⟨rfl, trivial⟩, rfl, ?_⟩
  refine ⟨rfl, ⟨rfl, trivial⟩, rfl, ?_⟩
  refine ⟨⟨by decide, rfl, by decide⟩, rfl, rfl, rfl, List.length_replicate.symm, ⟨rfl, trivial⟩, rfl, ?_⟩
  refine ⟨⟨by decide, rfl, by decide⟩, rfl, rfl, rfl, List.length_replicate.symm, ⟨rfl, trivial⟩, rfl, ?_⟩
  refine ⟨⟨by decide, rfl, by decide⟩, rfl, rfl, rfl, List.length_replicate.symm, ⟨rfl, trivial⟩, rfl, ?_⟩
  refine ⟨rfl, rfl, rfl, rfl, rfl, rfl, rfl, rfl, rfl, rfl, rfl, ⟨rfl, rfl, rfl, rfl, rfl, rfl, rfl, rfl, rfl, rfl, trivial⟩, rfl, ?_⟩
  refine ⟨rfl, ?_⟩
  refine ⟨by kernel_rfl, ?_⟩
  show Goes _ _ _ _
  refine goes_fzSlot 158 17 rfl rfl rfl ?_
  refine goes_to [(160, .int .i64 0), (159, .int .i64 10), (158, .sl 1 (fitV r)), (7, .sl 11 overL), (5, .sl 11 (wideL r))] [] rfl (Nat.zero_le _) ⟨⟨rfl, rfl⟩, ⟨rfl, rfl⟩, ⟨rfl, rfl⟩, ⟨rfl, rfl⟩, ⟨rfl, rfl⟩, trivial⟩ trivial ?_
  refine go 60 ?_
  show Goes _ _ _ _
  refine goes_loop ?_
  refine go 60 ?_
  refine ⟨fun _ => go 60 ?_, fun h => absurd h (by decide)⟩
  refine ⟨by decide, _, rfl, ?_⟩
  show CallThen _ _ _ _ _ _
  refine call_flatN f0 ⟨z0, trivial⟩ rfl rfl rfl rfl ?_
  refine ⟨fun q => (by cases q), fun _ => go 60 ?_⟩
  refine ⟨⟨by decide, by decide⟩, ?_⟩
  show Goes _ _ _ _
  refine goes_inLoop ?_
  refine go 60 ?_
  refine ⟨fun _ => go 60 ?_, fun h => absurd h (by decide)⟩
  refine ⟨by decide, _, rfl, ?_⟩
  show CallThen _ _ _ _ _ _
  refine call_flatN f1 ⟨fz_wide h2, trivial⟩ rfl rfl rfl rfl ?_
  refine ⟨fun q => (by cases q), fun _ => go 60 ?_⟩
  refine ⟨⟨by decide, by decide⟩, ?_⟩
  show Goes _ _ _ _
  refine goes_inLoop ?_
  refine go 60 ?_
  refine ⟨fun _ => go 60 ?_, fun h => absurd h (by decide)⟩
  refine ⟨by decide, _, rfl, ?_⟩
  show CallThen _ _ _ _ _ _
  refine call_flatN f2 ⟨z2 r, trivial⟩ rfl rfl rfl rfl ?_
  refine ⟨fun q => (by cases q), fun _ => go 60 ?_⟩
  refine ⟨⟨by decide, by decide⟩, ?_⟩
  show Goes _ _ _ _
  refine goes_inLoop ?_
  refine go 60 ?_
  refine ⟨fun _ => go 60 ?_, fun h => absurd h (by decide)⟩
  refine ⟨by decide, _, rfl, ?_⟩
  show CallThen _ _ _ _ _ _
  refine call_flatN f3 ⟨z3, trivial⟩ rfl rfl rfl rfl ?_
  refine ⟨fun q => (by cases q), fun _ => go 60 ?_⟩
  refine ⟨⟨by decide, by decide⟩, ?_⟩
  show Goes _ _ _ _
  refine goes_inLoop ?_
  refine go 60 ?_
  refine ⟨fun _ => go 60 ?_, fun h => absurd h (by decide)⟩
  refine ⟨by decide, _, rfl, ?_⟩
  show CallThen _ _ _ _ _ _
  refine call_flatN f4 ⟨z4, trivial⟩ rfl rfl rfl rfl ?_
  refine ⟨fun q => (by cases q), fun _ => go 60 ?_⟩
  refine ⟨⟨by decide, by decide⟩, ?_⟩
  show Goes _ _ _ _
  refine goes_inLoop ?_
  refine go 60 ?_
  refine ⟨fun _ => go 60 ?_, fun h => absurd h (by decide)⟩
  refine ⟨by decide, _, rfl, ?_⟩
  show CallThen _ _ _ _ _ _
  refine call_flatN f5 ⟨z5, trivial⟩ rfl rfl rfl rfl ?_
  refine ⟨fun q => (by cases q), fun _ => go 60 ?_⟩
  refine ⟨⟨by decide, by decide⟩, ?_⟩
  show Goes _ _ _ _
  refine goes_inLoop ?_
  refine go 60 ?_
  refine ⟨fun _ => go 60 ?_, fun h => absurd h (by decide)⟩
  refine ⟨by decide, _, rfl, ?_⟩
  show CallThen _ _ _ _ _ _
  refine call_flatN f6 ⟨z6, trivial⟩ rfl rfl rfl rfl ?_
  refine ⟨fun q => (by cases q), fun _ => go 60 ?_⟩
  refine ⟨⟨by decide, by decide⟩, ?_⟩
  show Goes _ _ _ _
  refine goes_inLoop ?_
  refine go 60 ?_
  refine ⟨fun _ => go 60 ?_, fun h => absurd h (by decide)⟩
  refine ⟨by decide, _, rfl, ?_⟩
  show CallThen _ _ _ _ _ _
  refine call_flatN f7 ⟨z7, trivial⟩ rfl rfl rfl rfl ?_
  refine ⟨fun q => (by cases q), fun _ => go 60 ?_⟩
  refine ⟨⟨by decide, by decide⟩, ?_⟩
  show Goes _ _ _ _
  refine goes_inLoop ?_
  refine go 60 ?_
  refine ⟨fun _ => go 60 ?_, fun h => absurd h (by decide)⟩
  refine ⟨by decide, _, rfl, ?_⟩
  show CallThen _ _ _ _ _ _
  refine call_flatN f8 ⟨z8, trivial⟩ rfl rfl rfl rfl ?_
  refine ⟨fun q => (by cases q), fun _ => go 60 ?_⟩
  refine ⟨⟨by decide, by decide⟩, ?_⟩
  show Goes _ _ _ _
  refine goes_inLoop ?_
  refine go 60 ?_
  refine ⟨fun _ => go 60 ?_, fun h => absurd h (by decide)⟩
  refine ⟨by decide, _, rfl, ?_⟩
  show CallThen _ _ _ _ _ _
  refine call_flatN f9 ⟨z9, trivial⟩ rfl rfl rfl rfl ?_
  refine ⟨fun q => (by cases q), fun _ => go 60 ?_⟩
  refine ⟨⟨by decide, by decide⟩, ?_⟩
  show Goes _ _ _ _
  refine goes_inLoop ?_
  refine go 60 ?_
  refine ⟨fun h => absurd h (by decide), fun _ => go 60 ?_⟩
  show CallThen _ _ _ _ _ _
  refine call_pure e1 rfl ?_
  rintro x rfl
  refine ⟨fun _ => go 60 ?_, fun h => absurd h (by decide)⟩
  refine ⟨by decide, by decide, wide_le r 64 (by decide), ?_⟩
  show CallThen _ _ _ _ _ _
  refine call_pure (e2 r) rfl ?_
  rintro x rfl
  refine ⟨fun _ => go 60 ?_, fun h => absurd h (by decide)⟩
  show CallThen _ _ _ _ _ _
  refine call_pure hw rfl ?_
  rintro x rfl
  exact ⟨trivial, rfl, hE2, rfl, leaf_b rfl⟩
end Bow
/- TD1: what is read as data at the program's types. -/
namespace Bow
open Go Go.Proofs

theorem take1 {vs : List V} {c : V} (h : vs.take 1 = [c]) : ∃ r, vs = c :: r ∧ vs.drop 1 = r := by
  cases vs with
  | nil => simp at h
  | cons x r => simp at h; subst h; exact ⟨r, rfl, rfl⟩

theorem map_exists {α β : Type} {f : α → V} {g : β → V} : ∀ {xs : List α}, (∀ x ∈ xs, ∃ y, f x = g y) → ∃ ys : List β, xs.map f = ys.map g
  | [], _ => ⟨[], rfl⟩
  | x :: xs, h => by
    obtain ⟨y, hy⟩ := h x List.mem_cons_self
    obtain ⟨ys, hys⟩ := map_exists (xs := xs) fun z hz => h z (List.mem_cons_of_mem _ hz)
    exact ⟨y :: ys, by simp [hy, hys]⟩

theorem vt_str {n : Nat} {vs : List V} (h : VT Tryz.prog n 9 vs) : ∃ s, vs = [.str s] := by
  cases n with
  | zero => exact h.elim
  | succ n =>
    obtain ⟨s, e, _⟩ : ∃ s : List UInt8, vs = [.str s] ∧ s.length ≤ maxLen := h
    exact ⟨s, e⟩
theorem vt_bool {n : Nat} {vs : List V} (h : VT Tryz.prog n 4 vs) : ∃ b, vs = [.bool b] := by
  cases n with
  | zero => exact h.elim
  | succ n => exact h
theorem vt_int {n : Nat} {vs : List V} (h : VT Tryz.prog n 3 vs) : ∃ i, vs = [.int .i64 i] ∧ (Lit.int .i64 i).wf = true := by
  cases n with
  | zero => exact h.elim
  | succ n => exact h
theorem vt_u64 {n : Nat} {vs : List V} (h : VT Tryz.prog n 22 vs) : ∃ i, vs = [.int .u64 i] := by
  cases n with
  | zero => exact h.elim
  | succ n =>
    obtain ⟨s, e, _⟩ : ∃ s : Int, vs = [.int .u64 s] ∧ (Lit.int .u64 s).wf = true := h
    exact ⟨s, e⟩
theorem vt_u8 {n : Nat} {vs : List V} (h : VT Tryz.prog n 5 vs) : ∃ i, vs = [.int .u8 i] := by
  cases n with
  | zero => exact h.elim
  | succ n =>
    obtain ⟨s, e, _⟩ : ∃ s : Int, vs = [.int .u8 s] ∧ (Lit.int .u8 s).wf = true := h
    exact ⟨s, e⟩
set_option maxRecDepth 100000 in
theorem vt_attr {n : Nat} {vs : List V} (h : VT Tryz.prog n 30 vs) : ∃ a, vs = (attrV a).cells := by
  cases n with
  | zero => exact h.elim
  | succ n =>
    obtain ⟨h0, h1, h2⟩ : VT Tryz.prog n 9 (vs.take 1) ∧ VT Tryz.prog n 9 ((vs.drop 1).take 1) ∧ (vs.drop 1).drop 1 = [] := h
    obtain ⟨a, e0⟩ := vt_str h0
    obtain ⟨b, e1⟩ := vt_str h1
    obtain ⟨r, rfl, d0⟩ := take1 e0
    rw [d0] at e1 h2
    obtain ⟨r1, rfl, d1⟩ := take1 e1
    rw [d1] at h2
    subst h2
    exact ⟨(a, b), rfl⟩
set_option maxRecDepth 100000 in
theorem vt_attrs {n : Nat} {vs : List V} (h : VT Tryz.prog n 23 vs) : ∃ l : List (List UInt8 × List UInt8), vs = [.sl 2 (l.map attrV)] := by
  cases n with
  | zero => exact h.elim
  | succ n =>
    obtain ⟨xs, e, _, hx⟩ : ∃ xs : List (List V), vs = [.sl 2 (xs.map (mkX Tryz.prog 30))] ∧ xs.length ≤ maxLen ∧ ∀ x ∈ xs, VT Tryz.prog n 30 x := h
    obtain ⟨l, hl⟩ := map_exists (f := mkX Tryz.prog 30) (g := attrV) (xs := xs) fun x hm => by
      obtain ⟨a, rfl⟩ := vt_attr (hx x hm)
      exact ⟨a, rfl⟩
    exact ⟨l, by rw [e, hl]⟩

set_option maxRecDepth 100000 in
theorem vt_node : ∀ (n : Nat) (vs : List V), VT Tryz.prog n 26 vs → ∃ t : Tree, vs = (nodeV t).cells := by
  intro n
  induction n using Nat.strongRecOn with
  | _ n ih =>
    intro vs h
    cases n with
    | zero => exact h.elim
    | succ n =>
      obtain ⟨h0, h1, h2, h3, h4, h5, h6⟩ : VT Tryz.prog n 22 (vs.take 1) ∧ VT Tryz.prog n 4 ((vs.drop 1).take 1) ∧ VT Tryz.prog n 9 (((vs.drop 1).drop 1).take 1) ∧ VT Tryz.prog n 23 ((((vs.drop 1).drop 1).drop 1).take 1) ∧
        VT Tryz.prog n 9 (((((vs.drop 1).drop 1).drop 1).drop 1).take 1) ∧ VT Tryz.prog n 24 ((((((vs.drop 1).drop 1).drop 1).drop 1).drop 1).take 1) ∧ (((((vs.drop 1).drop 1).drop 1).drop 1).drop 1).drop 1 = [] := h
      obtain ⟨i, e0⟩ := vt_u64 h0
      obtain ⟨l, e1⟩ := vt_bool h1
      obtain ⟨s, e2⟩ := vt_str h2
      obtain ⟨a, e3⟩ := vt_attrs h3
      obtain ⟨x, e4⟩ := vt_str h4
      obtain ⟨r, rfl, d0⟩ := take1 e0
      rw [d0] at e1 e2 e3 e4 h5 h6
      obtain ⟨r, rfl, d0⟩ := take1 e1
      rw [d0] at e2 e3 e4 h5 h6
      obtain ⟨r, rfl, d0⟩ := take1 e2
      rw [d0] at e3 e4 h5 h6
      obtain ⟨r, rfl, d0⟩ := take1 e3
      rw [d0] at e4 h5 h6
      obtain ⟨r, rfl, d0⟩ := take1 e4
      rw [d0] at h5 h6
      cases n with
      | zero => exact h5.elim
      | succ n =>
        obtain ⟨xs, e5, _, hx⟩ : ∃ xs : List (List V), r.take 1 = [.sl 6 (xs.map (mkX Tryz.prog 26))] ∧ xs.length ≤ maxLen ∧ ∀ x ∈ xs, VT Tryz.prog n 26 x := h5
        obtain ⟨ts, hts⟩ := map_exists (f := mkX Tryz.prog 26) (g := nodeV) (xs := xs) fun x hm => by
          obtain ⟨t, rfl⟩ := ih n (by omega) x (hx x hm)
          exact ⟨t, rfl⟩
        obtain ⟨r, rfl, d0⟩ := take1 e5
        rw [d0] at h6
        subst h6
        refine ⟨.mk i l s a x ts, ?_⟩
        rw [hts]
        simp only [nodeV, Tree.id, Tree.leaf, Tree.label, Tree.attrs, Tree.text, subV_eq, Tree.subs, V.cells]

theorem rep_of_cells {w : World} {vs : List V} {cs : Array Value} (h : RowRep w β0 [] vs cs.toList) : Rep w β0 [] (.agg vs) (.agg cs) :=
  .agg vs cs (by simpa using h.1) fun j c v hj hv => h.2 j c v hj (by simpa using hv)

set_option maxRecDepth 100000 in
/-- A node that is handed over. -/
theorem node_arg {H : Type} {enc : TypeId × Value → H} {w : World} {r : Reach} {base b0 : Nat} {sp : Nat → Bool} {held : Bool} {v : Value} {d : DataW H} {p : List MemPlace} (ho : Value.okWide Tryz.prog w r b0 26 v) (h : DataW.Trod enc Tryz.prog w base sp held 26 v d p) :
    ∃ t : Tree, Rep w β0 [] (nodeV t) v := by
  obtain ⟨fuel, hf⟩ := h
  obtain ⟨cs, rfl, _, _⟩ : ∃ cs, v = .agg cs ∧ cs.size = Tryz.prog.cellsOf 26 ∧ Row.okWide Tryz.prog w r b0 26 cs := ho
  obtain ⟨vs, h1, _, h3⟩ := read_data (G := [26, 24, 23, 30, 9, 22, 4]) (by kernel_rfl) fuel _ _ _ (by kernel_rfl) hf
  obtain ⟨t, rfl⟩ := vt_node _ _ h3
  exact ⟨t, rep_of_cells h1⟩
end Bow
/- TD2: operations that are read as data. -/
namespace Bow
open Go Go.Proofs

set_option maxRecDepth 100000 in
theorem vt_path {n : Nat} {vs : List V} (h : VT Tryz.prog n 34 vs) : ∃ l : List Int, vs = [pathV l] ∧ l.length ≤ maxLen ∧ ∀ i ∈ l, (Lit.int .i64 i).wf = true := by
  cases n with
  | zero => exact h.elim
  | succ n =>
    obtain ⟨xs, e, hl, hx⟩ : ∃ xs : List (List V), vs = [.sl 1 (xs.map (mkX Tryz.prog 3))] ∧ xs.length ≤ maxLen ∧ ∀ x ∈ xs, VT Tryz.prog n 3 x := h
    have key : ∀ xs : List (List V), (∀ x ∈ xs, VT Tryz.prog n 3 x) → ∃ l : List Int, xs.map (mkX Tryz.prog 3) = l.map intV ∧ ∀ i ∈ l, (Lit.int .i64 i).wf = true := by
      intro xs
      induction xs with
      | nil => intro _; exact ⟨[], rfl, by simp⟩
      | cons x xs ih =>
        intro hx
        obtain ⟨i, rfl, hw⟩ := vt_int (hx x List.mem_cons_self)
        obtain ⟨l, e, hl⟩ := ih fun z hz => hx z (List.mem_cons_of_mem _ hz)
        refine ⟨i :: l, by simp only [List.map_cons, e]; rfl, fun j hj => ?_⟩
        rcases List.mem_cons.1 hj with rfl | hj
        · exact hw
        · exact hl j hj
    obtain ⟨l, e1, e2⟩ := key xs hx
    refine ⟨l, by rw [e, e1]; rfl, ?_, e2⟩
    have := congrArg List.length e1
    simp at this
    omega
set_option maxRecDepth 100000 in
theorem vt_piece {n : Nat} {vs : List V} (h : VT Tryz.prog n 40 vs) : ∃ p, vs = (pieceV p).cells := by
  cases n with
  | zero => exact h.elim
  | succ n =>
    obtain ⟨h0, h1, h2, h3⟩ : VT Tryz.prog n 3 (vs.take 1) ∧ VT Tryz.prog n 3 ((vs.drop 1).take 1) ∧ VT Tryz.prog n 9 (((vs.drop 1).drop 1).take 1) ∧ ((vs.drop 1).drop 1).drop 1 = [] := h
    obtain ⟨a, e0, _⟩ := vt_int h0
    obtain ⟨b, e1, _⟩ := vt_int h1
    obtain ⟨s, e2⟩ := vt_str h2
    obtain ⟨r, rfl, d0⟩ := take1 e0
    rw [d0] at e1 e2 h3
    obtain ⟨r1, rfl, d1⟩ := take1 e1
    rw [d1] at e2 h3
    obtain ⟨r2, rfl, d2⟩ := take1 e2
    rw [d2] at h3
    subst h3
    exact ⟨⟨a, b, s⟩, rfl⟩
set_option maxRecDepth 100000 in
theorem vt_pieces {n : Nat} {vs : List V} (h : VT Tryz.prog n 35 vs) : ∃ l : List PieceT, vs = [piecesV l] := by
  cases n with
  | zero => exact h.elim
  | succ n =>
    obtain ⟨xs, e, _, hx⟩ : ∃ xs : List (List V), vs = [.sl 3 (xs.map (mkX Tryz.prog 40))] ∧ xs.length ≤ maxLen ∧ ∀ x ∈ xs, VT Tryz.prog n 40 x := h
    obtain ⟨l, hl⟩ := map_exists (f := mkX Tryz.prog 40) (g := pieceV) (xs := xs) fun x hm => by
      obtain ⟨a, rfl⟩ := vt_piece (hx x hm)
      exact ⟨a, rfl⟩
    exact ⟨l, by rw [e, hl]; rfl⟩

set_option maxRecDepth 100000 in
theorem vt_op {n : Nat} {vs : List V} (h : VT Tryz.prog n 37 vs) : ∃ o, vs = (opV o).cells := by
  cases n with
  | zero => exact h.elim
  | succ n =>
    obtain ⟨h0, h⟩ : VT Tryz.prog n 5 (vs.take 1) ∧ _ := h
    obtain ⟨a0, e0⟩ := vt_u8 h0
    obtain ⟨r, rfl, d0⟩ := take1 e0
    obtain ⟨h1, h⟩ : VT Tryz.prog n 34 (r.take 1) ∧ _ := h
    obtain ⟨a1, e1, _⟩ := vt_path h1
    obtain ⟨r, rfl, d0⟩ := take1 e1
    obtain ⟨h2, h⟩ : VT Tryz.prog n 3 (r.take 1) ∧ _ := h
    obtain ⟨a2, e2, _⟩ := vt_int h2
    obtain ⟨r, rfl, d0⟩ := take1 e2
    obtain ⟨h3, h⟩ : VT Tryz.prog n 34 (r.take 1) ∧ _ := h
    obtain ⟨a3, e3, _⟩ := vt_path h3
    obtain ⟨r, rfl, d0⟩ := take1 e3
    obtain ⟨h4, h⟩ : VT Tryz.prog n 22 (r.take 1) ∧ _ := h
    obtain ⟨a4, e4⟩ := vt_u64 h4
    obtain ⟨r, rfl, d0⟩ := take1 e4
    obtain ⟨h5, h⟩ : VT Tryz.prog n 4 (r.take 1) ∧ _ := h
    obtain ⟨a5, e5⟩ := vt_bool h5
    obtain ⟨r, rfl, d0⟩ := take1 e5
    obtain ⟨h6, h⟩ : VT Tryz.prog n 9 (r.take 1) ∧ _ := h
    obtain ⟨a6, e6⟩ := vt_str h6
    obtain ⟨r, rfl, d0⟩ := take1 e6
    obtain ⟨h7, h⟩ : VT Tryz.prog n 9 (r.take 1) ∧ _ := h
    obtain ⟨a7, e7⟩ := vt_str h7
    obtain ⟨r, rfl, d0⟩ := take1 e7
    obtain ⟨h8, h⟩ : VT Tryz.prog n 9 (r.take 1) ∧ _ := h
    obtain ⟨a8, e8⟩ := vt_str h8
    obtain ⟨r, rfl, d0⟩ := take1 e8
    obtain ⟨h9, h⟩ : VT Tryz.prog n 4 (r.take 1) ∧ _ := h
    obtain ⟨a9, e9⟩ := vt_bool h9
    obtain ⟨r, rfl, d0⟩ := take1 e9
    obtain ⟨h10, h⟩ : VT Tryz.prog n 35 (r.take 1) ∧ _ := h
    obtain ⟨a10, e10⟩ := vt_pieces h10
    obtain ⟨r, rfl, d0⟩ := take1 e10
    have h : r = [] := h
    subst h
    exact ⟨⟨a0, a1, a2, a3, a4, a5, a6, a7, a8, a9, a10⟩, rfl⟩
set_option maxRecDepth 100000 in
theorem vt_ops {n : Nat} {vs : List V} (h : VT Tryz.prog n 38 vs) : ∃ l : List OpT, vs = [.sl 11 (l.map opV)] ∧ l.length ≤ maxLen := by
  cases n with
  | zero => exact h.elim
  | succ n =>
    obtain ⟨xs, e, hl, hx⟩ : ∃ xs : List (List V), vs = [.sl 11 (xs.map (mkX Tryz.prog 37))] ∧ xs.length ≤ maxLen ∧ ∀ x ∈ xs, VT Tryz.prog n 37 x := h
    obtain ⟨l, e1⟩ := map_exists (f := mkX Tryz.prog 37) (g := opV) (xs := xs) fun x hm => by
      obtain ⟨a, rfl⟩ := vt_op (hx x hm)
      exact ⟨a, rfl⟩
    refine ⟨l, by rw [e, e1], ?_⟩
    have := congrArg List.length e1
    simp at this
    omega

set_option maxRecDepth 100000 in
/-- An operation that is handed over. -/
theorem op_arg {H : Type} {enc : TypeId × Value → H} {w : World} {r : Reach} {base b0 : Nat} {sp : Nat → Bool} {held : Bool} {v : Value} {d : DataW H} {p : List MemPlace} (ho : Value.okWide Tryz.prog w r b0 37 v) (h : DataW.Trod enc Tryz.prog w base sp held 37 v d p) :
    ∃ o : OpT, Rep w β0 [] (opV o) v := by
  obtain ⟨fuel, hf⟩ := h
  obtain ⟨cs, rfl, _, _⟩ : ∃ cs, v = .agg cs ∧ cs.size = Tryz.prog.cellsOf 37 ∧ Row.okWide Tryz.prog w r b0 37 cs := ho
  obtain ⟨vs, h1, _, h3⟩ := read_data (G := [37, 34, 35, 40, 3, 9, 22, 5, 4]) (by kernel_rfl) fuel _ _ _ (by kernel_rfl) hf
  obtain ⟨t, rfl⟩ := vt_op h3
  exact ⟨t, rep_of_cells h1⟩
set_option maxRecDepth 100000 in
/-- A list of operations that is handed over. -/
theorem ops_arg {H : Type} {enc : TypeId × Value → H} {w : World} {r : Reach} {base b0 : Nat} {sp : Nat → Bool} {held : Bool} {v : Value} {d : DataW H} {p : List MemPlace} (ho : Value.okWide Tryz.prog w r b0 38 v) (h : DataW.Trod enc Tryz.prog w base sp held 38 v d p) :
    ∃ l : List OpT, Rep w β0 [] (.sl 11 (l.map opV)) v ∧ l.length ≤ maxLen := by
  obtain ⟨a, len, cap, rfl⟩ := WideShapes.okWide_slice Tryz.underlying38 ho
  obtain ⟨fuel, hf⟩ := h
  obtain ⟨vs, h1, _, h3⟩ := read_data (G := [38, 37, 34, 35, 40, 3, 9, 22, 5, 4]) (by kernel_rfl) fuel _ _ _ (by kernel_rfl) hf
  obtain ⟨l, rfl, hl⟩ := vt_ops h3
  exact ⟨l, h1.2 0 _ _ rfl rfl, hl⟩
set_option maxRecDepth 100000 in
/-- A path that is handed over. -/
theorem path_arg {H : Type} {enc : TypeId × Value → H} {w : World} {r : Reach} {base b0 : Nat} {sp : Nat → Bool} {held : Bool} {v : Value} {d : DataW H} {p : List MemPlace} (ho : Value.okWide Tryz.prog w r b0 34 v) (h : DataW.Trod enc Tryz.prog w base sp held 34 v d p) :
    ∃ l : List Int, Rep w β0 [] (pathV l) v ∧ l.length ≤ maxLen ∧ ∀ i ∈ l, (Lit.int .i64 i).wf = true := by
  obtain ⟨a, len, cap, rfl⟩ := WideShapes.okWide_slice Tryz.underlying34 ho
  obtain ⟨fuel, hf⟩ := h
  obtain ⟨vs, h1, _, h3⟩ := read_data (G := [34, 3]) (by kernel_rfl) fuel _ _ _ (by kernel_rfl) hf
  obtain ⟨l, rfl, hl⟩ := vt_path h3
  exact ⟨l, h1.2 0 _ _ rfl rfl, hl⟩
end Bow
