/- The library, part 5: W14, W15, W16, W17, W18, W19, W20, W21, W22, W23, WB1, W24, W25, W26, SP9, W27, W30a, W31, W32, W33, W34, WB2, W35, W36, W37, W38, SP15, SP16, W39, SP17, W43a, W49, W50, W51, W52, W53, W54, W55, W56, W57, W58, W59, W60, SP20, W48, W61, W62, W63, W64, W65, W66, W68, W69, AE43, AE44. -/
import Derived.Test.YthaigpiepfdaeaaMd
import Derived.Shelf.Strings.BuilderK
import Derived.Test.YthaigpiepfdaeaaProg
import Derived.BigCall
import Derived.Lib.Bytealg
/- W14: slices.Grow of nil, slices.Concat: printed by gen_w14.py. -/
namespace Bow
open Go Go.Proofs

theorem flatten_take_succ {α : Type} {l : List (List α)} {i : Nat} (hi : i < l.length) : (l.take (i + 1)).flatten = (l.take i).flatten ++ l[i] := by
  rw [List.take_succ_eq_append_getElem hi, List.flatten_append]
  simp
theorem flatten_take_le {α : Type} (l : List (List α)) (i : Nat) : (l.take i).flatten.length ≤ l.flatten.length := by
  conv => rhs; rw [← List.take_append_drop i l]
  rw [List.flatten_append, List.length_append]
  omega

theorem w_GrowNode (n : Nat) (h : n ≤ 10000000) : Fun Try.prog 104 [] [.nilsl, .int .i64 n] (fun x T => ∃ g, x = .osl (.loc 0) g 0 0 ∧ T = [some (.vec g 6 [])]) := by
  refine fun_fn 100 Try.func104 rfl rfl rfl fun imps B hi => ?_
  have : imps = [] := List.length_eq_zero_iff.1 hi
  subst this
  refine ⟨fun g1 => go 100 ?_, fun g1 => go 100 ?_⟩
  · have := lt_of g1; omega
  show Goes _ _ _ _
  refine goes_cap0 100 rfl rfl rfl rfl rfl ?_
  refine ⟨by constructor <;> omega, by constructor <;> omega, ?_⟩
  refine ⟨fun g2 => go 100 ?_, fun g2 => ?_⟩
  · have g2 := lt_of g2
    show Goes _ _ _ _
    refine goes_cap0 100 rfl rfl rfl rfl rfl ?_
    show Goes _ _ _ _
    refine goes_nilcut 100 rfl rfl rfl rfl rfl rfl rfl ?_
    show Goes _ _ _ _
    refine goes_growTo 100 n rfl rfl rfl rfl (congrArg (V.int .i64) (by omega)) (by omega) rfl rfl rfl rfl rfl (Nat.le_trans (Nat.mul_le_mul_right _ h) (by decide)) ?_
    show Goes _ _ _ _
    refine goes_cut (h := 0) 100 rfl rfl rfl rfl rfl rfl rfl rfl (Nat.zero_le _) ?_
    exact ⟨trivial, rfl, rfl, 2, rfl, rfl⟩
  · refine goes_own 0 6 rfl ?_
    refine go 100 ?_
    exact ⟨trivial, rfl, rfl, 0, rfl, rfl⟩
set_option maxRecDepth 100000 in
theorem w_ConcatNode (ls : List (List V)) (h : ls.flatten.length ≤ 1000000) (hl : ls.length ≤ 1000000) : Pure Try.prog 75 [.sl 1 (ls.map (V.sl 6))] (fun x => x = .sl 6 ls.flatten) := by
  refine pure_fn 100 Try.func75 rfl rfl rfl fun B => ?_
  show Goes _ _ _ _
  refine goes_iter (ι := Nat) (fun i => i ≤ ls.length) (fun i => ls.length - i) (fun i => [(3, .int .i64 (ls.take i).flatten.length), (11, .int .i64 i), (10, .int .i64 (ls.map (V.sl 6)).length), (9, .sl 1 (ls.map (V.sl 6))), (0, .sl 1 (ls.map (V.sl 6)))]) (fun _ => []) 0 100 (fun _ => rfl) (fun _ => rfl) ⟨Nat.zero_le _, ?_, trivial⟩ ?_
  · exact ⟨⟨rfl, rfl⟩, ⟨rfl, rfl⟩, ⟨rfl, rfl⟩, ⟨rfl, rfl⟩, ⟨rfl, rfl⟩, trivial⟩
  intro i k1 next
  have hb1 := flatten_take_le ls i
  refine ⟨fun hlt => go 100 ?_, fun hge => go 100 ?_⟩
  · have hi : i < ls.length := by simpa using hlt
    have hx : (ls.map (V.sl 6))[i]? = some (.sl 6 ls[i]) := by simp [hi]
    have hb2 := flatten_take_le ls (i + 1)
    have hs := flatten_take_succ hi
    have hsl : (ls.take (i + 1)).flatten.length = (ls.take i).flatten.length + ls[i].length := by rw [hs, List.length_append]
    refine ⟨Int.natCast_nonneg i, _, hx, ?_⟩
    refine ⟨by constructor <;> omega, ?_⟩
    refine ⟨fun g1 => go 100 ?_, fun g1 => go 100 ?_⟩
    · have := lt_of g1; omega
    refine ⟨by constructor <;> omega, ?_⟩
    refine next (i + 1) _ _ ⟨by omega, by omega, ?_, trivial⟩
    exact ⟨⟨by simp only [lk]; exact congrArg (V.int .i64) (by omega), rfl⟩, ⟨rfl, rfl⟩, ⟨rfl, rfl⟩, ⟨rfl, rfl⟩, ⟨rfl, rfl⟩, trivial⟩
  · have hi : i = ls.length := by have : ls.length ≤ i := by simpa using hge
                                  omega
    subst hi
    rw [List.take_length]
    show CallThen _ _ _ _ _ _
    refine call_sub [] (w_GrowNode ls.flatten.length (by omega)) rfl rfl trivial rfl rfl rfl ?_
    rintro x T1 ⟨g, rfl, rfl⟩
    refine ⟨rfl, ?_⟩
    show Goes _ _ _ _
    refine goes_iter (ι := Nat × Nat) (fun i => i.1 ≤ ls.length) (fun i => ls.length - i.1) (fun i => [(6, .osl (.loc 0) i.2 0 (ls.take i.1).flatten.length), (27, .int .i64 i.1), (26, .int .i64 (ls.map (V.sl 6)).length), (25, .sl 1 (ls.map (V.sl 6)))]) (fun i => [some (.vec i.2 6 (ls.take i.1).flatten)]) (0, g) 100 (fun _ => rfl) (fun _ => rfl) ⟨Nat.zero_le _, ?_, ?_⟩ ?_
    · exact ⟨⟨rfl, rfl⟩, ⟨rfl, rfl⟩, ⟨rfl, rfl⟩, ⟨rfl, rfl⟩, trivial⟩
    · exact ⟨⟨rfl, rfl⟩, trivial⟩
    rintro ⟨i, g⟩ k1 next
    have hb1 := flatten_take_le ls i
    simp only at k1 hb1
    refine ⟨fun hlt => go 100 ?_, fun hge => go 100 ?_⟩
    · have hi : i < ls.length := by simpa using hlt
      have hx : (ls.map (V.sl 6))[i]? = some (.sl 6 ls[i]) := by simp [hi]
      have hb2 := flatten_take_le ls (i + 1)
      have hs := flatten_take_succ hi
      have hsl : (ls.take (i + 1)).flatten.length = (ls.take i).flatten.length + ls[i].length := by rw [hs, List.length_append]
      refine ⟨Int.natCast_nonneg i, _, hx, ?_⟩
      simp only
      refine ⟨rfl, rfl, Nat.le_trans (Nat.mul_le_mul_right _ (show _ ≤ 1000000 by omega)) (by decide), ?_⟩
      refine ⟨by constructor <;> omega, ?_⟩
      refine next (i + 1, bump g) _ _ ⟨by simp only; omega, by simp only; omega, ?_, ?_⟩
      · exact ⟨⟨by simp only [lk]; exact congrArg (V.osl _ _ _) hsl.symm, rfl⟩, ⟨rfl, rfl⟩, ⟨rfl, rfl⟩, ⟨rfl, rfl⟩, trivial⟩
      · exact ⟨⟨by rw [hs], rfl⟩, trivial⟩
    · have hi : i = ls.length := by have : ls.length ≤ i := by simpa using hge
                                    omega
      subst hi
      exact ⟨trivial, rfl, rfl, rfl, rfl, rfl, by simp only [List.take_length]⟩

theorem w_GrowAttr (n : Nat) (h : n ≤ 10000000) : Fun Try.prog 106 [] [.nilsl, .int .i64 n] (fun x T => ∃ g, x = .osl (.loc 0) g 0 0 ∧ T = [some (.vec g 2 [])]) := by
  refine fun_fn 100 Try.func106 rfl rfl rfl fun imps B hi => ?_
  have : imps = [] := List.length_eq_zero_iff.1 hi
  subst this
  refine ⟨fun g1 => go 100 ?_, fun g1 => go 100 ?_⟩
  · have := lt_of g1; omega
  show Goes _ _ _ _
  refine goes_cap0 100 rfl rfl rfl rfl rfl ?_
  refine ⟨by constructor <;> omega, by constructor <;> omega, ?_⟩
  refine ⟨fun g2 => go 100 ?_, fun g2 => ?_⟩
  · have g2 := lt_of g2
    show Goes _ _ _ _
    refine goes_cap0 100 rfl rfl rfl rfl rfl ?_
    show Goes _ _ _ _
    refine goes_nilcut 100 rfl rfl rfl rfl rfl rfl rfl ?_
    show Goes _ _ _ _
    refine goes_growTo 100 n rfl rfl rfl rfl (congrArg (V.int .i64) (by omega)) (by omega) rfl rfl rfl rfl rfl (Nat.le_trans (Nat.mul_le_mul_right _ h) (by decide)) ?_
    show Goes _ _ _ _
    refine goes_cut (h := 0) 100 rfl rfl rfl rfl rfl rfl rfl rfl (Nat.zero_le _) ?_
    exact ⟨trivial, rfl, rfl, 2, rfl, rfl⟩
  · refine goes_own 0 2 rfl ?_
    refine go 100 ?_
    exact ⟨trivial, rfl, rfl, 0, rfl, rfl⟩
set_option maxRecDepth 100000 in
theorem w_ConcatAttr (ls : List (List V)) (h : ls.flatten.length ≤ 1000000) (hl : ls.length ≤ 1000000) : Pure Try.prog 83 [.sl 1 (ls.map (V.sl 2))] (fun x => x = .sl 2 ls.flatten) := by
  refine pure_fn 100 Try.func83 rfl rfl rfl fun B => ?_
  show Goes _ _ _ _
  refine goes_iter (ι := Nat) (fun i => i ≤ ls.length) (fun i => ls.length - i) (fun i => [(3, .int .i64 (ls.take i).flatten.length), (11, .int .i64 i), (10, .int .i64 (ls.map (V.sl 2)).length), (9, .sl 1 (ls.map (V.sl 2))), (0, .sl 1 (ls.map (V.sl 2)))]) (fun _ => []) 0 100 (fun _ => rfl) (fun _ => rfl) ⟨Nat.zero_le _, ?_, trivial⟩ ?_
  · exact ⟨⟨rfl, rfl⟩, ⟨rfl, rfl⟩, ⟨rfl, rfl⟩, ⟨rfl, rfl⟩, ⟨rfl, rfl⟩, trivial⟩
  intro i k1 next
  have hb1 := flatten_take_le ls i
  refine ⟨fun hlt => go 100 ?_, fun hge => go 100 ?_⟩
  · have hi : i < ls.length := by simpa using hlt
    have hx : (ls.map (V.sl 2))[i]? = some (.sl 2 ls[i]) := by simp [hi]
    have hb2 := flatten_take_le ls (i + 1)
    have hs := flatten_take_succ hi
    have hsl : (ls.take (i + 1)).flatten.length = (ls.take i).flatten.length + ls[i].length := by rw [hs, List.length_append]
    refine ⟨Int.natCast_nonneg i, _, hx, ?_⟩
    refine ⟨by constructor <;> omega, ?_⟩
    refine ⟨fun g1 => go 100 ?_, fun g1 => go 100 ?_⟩
    · have := lt_of g1; omega
    refine ⟨by constructor <;> omega, ?_⟩
    refine next (i + 1) _ _ ⟨by omega, by omega, ?_, trivial⟩
    exact ⟨⟨by simp only [lk]; exact congrArg (V.int .i64) (by omega), rfl⟩, ⟨rfl, rfl⟩, ⟨rfl, rfl⟩, ⟨rfl, rfl⟩, ⟨rfl, rfl⟩, trivial⟩
  · have hi : i = ls.length := by have : ls.length ≤ i := by simpa using hge
                                  omega
    subst hi
    rw [List.take_length]
    show CallThen _ _ _ _ _ _
    refine call_sub [] (w_GrowAttr ls.flatten.length (by omega)) rfl rfl trivial rfl rfl rfl ?_
    rintro x T1 ⟨g, rfl, rfl⟩
    refine ⟨rfl, ?_⟩
    show Goes _ _ _ _
    refine goes_iter (ι := Nat × Nat) (fun i => i.1 ≤ ls.length) (fun i => ls.length - i.1) (fun i => [(6, .osl (.loc 0) i.2 0 (ls.take i.1).flatten.length), (27, .int .i64 i.1), (26, .int .i64 (ls.map (V.sl 2)).length), (25, .sl 1 (ls.map (V.sl 2)))]) (fun i => [some (.vec i.2 2 (ls.take i.1).flatten)]) (0, g) 100 (fun _ => rfl) (fun _ => rfl) ⟨Nat.zero_le _, ?_, ?_⟩ ?_
    · exact ⟨⟨rfl, rfl⟩, ⟨rfl, rfl⟩, ⟨rfl, rfl⟩, ⟨rfl, rfl⟩, trivial⟩
    · exact ⟨⟨rfl, rfl⟩, trivial⟩
    rintro ⟨i, g⟩ k1 next
    have hb1 := flatten_take_le ls i
    simp only at k1 hb1
    refine ⟨fun hlt => go 100 ?_, fun hge => go 100 ?_⟩
    · have hi : i < ls.length := by simpa using hlt
      have hx : (ls.map (V.sl 2))[i]? = some (.sl 2 ls[i]) := by simp [hi]
      have hb2 := flatten_take_le ls (i + 1)
      have hs := flatten_take_succ hi
      have hsl : (ls.take (i + 1)).flatten.length = (ls.take i).flatten.length + ls[i].length := by rw [hs, List.length_append]
      refine ⟨Int.natCast_nonneg i, _, hx, ?_⟩
      simp only
      refine ⟨rfl, rfl, Nat.le_trans (Nat.mul_le_mul_right _ (show _ ≤ 1000000 by omega)) (by decide), ?_⟩
      refine ⟨by constructor <;> omega, ?_⟩
      refine next (i + 1, bump g) _ _ ⟨by simp only; omega, by simp only; omega, ?_, ?_⟩
      · exact ⟨⟨by simp only [lk]; exact congrArg (V.osl _ _ _) hsl.symm, rfl⟩, ⟨rfl, rfl⟩, ⟨rfl, rfl⟩, ⟨rfl, rfl⟩, trivial⟩
      · exact ⟨⟨by rw [hs], rfl⟩, trivial⟩
    · have hi : i = ls.length := by have : ls.length ≤ i := by simpa using hge
                                    omega
      subst hi
      exact ⟨trivial, rfl, rfl, rfl, rfl, rfl, by simp only [List.take_length]⟩

end Bow
/- W15: slices.Equal, slices.Clone, paths: printed by gen_w15.py. -/
namespace Bow
open Go Go.Proofs

theorem take_succ_eq {α : Type} {xs ys : List α} {i : Nat} (hx : i < xs.length) (hy : i < ys.length) : xs.drop i = ys.drop i ↔ xs[i] = ys[i] ∧ xs.drop (i + 1) = ys.drop (i + 1) := by
  rw [List.drop_eq_getElem_cons hx, List.drop_eq_getElem_cons hy, List.cons.injEq]

theorem PieceT.ext {a b : PieceT} (h1 : a.keep = b.keep) (h2 : a.drop = b.drop) (h3 : a.put = b.put) : a = b := by cases a; cases b; simp_all
instance : DecidableEq PieceT := fun a b => decidable_of_iff (a.keep = b.keep ∧ a.drop = b.drop ∧ a.put = b.put) ⟨fun h => PieceT.ext h.1 h.2.1 h.2.2, fun h => by subst h; exact ⟨rfl, rfl, rfl⟩⟩

set_option maxRecDepth 100000 in
theorem w_EqualInt (xs ys : List Int) (hl : xs.length ≤ 1000000) : Pure Try.prog 51 [.sl 1 (xs.map intV), .sl 1 (ys.map intV)] (fun x => x = .bool (decide (xs = ys))) := by
  refine pure_wk (pure_fn 100 Try.func51 rfl rfl rfl fun B => ?_)
  refine ⟨fun g1 => go 100 ?_, fun g1 => go 100 ?_⟩
  · have g1 := ne_of' g1
    refine ⟨trivial, rfl, rfl, rfl, leaf_ff (decide_eq_false fun e => g1 ?_)⟩
    rw [e]
  have g1 : xs.length = ys.length := by have := eq_of' g1; simp at this; omega
  show Goes _ _ _ _
  refine goes_iter (ι := Nat) (fun i => i ≤ xs.length ∧ (xs.drop i = ys.drop i ↔ xs = ys)) (fun i => xs.length - i) (fun i => [(13, .int .i64 i), (12, .int .i64 (xs.map intV).length), (1, .sl 1 (ys.map intV)), (0, .sl 1 (xs.map intV))]) (fun _ => []) 0 100 (fun _ => rfl) (fun _ => rfl) ⟨⟨Nat.zero_le _, Iff.rfl⟩, ?_, trivial⟩ ?_
  · exact ⟨⟨rfl, rfl⟩, ⟨rfl, rfl⟩, ⟨rfl, rfl⟩, ⟨rfl, rfl⟩, trivial⟩
  rintro i ⟨k1, k2⟩ next
  refine ⟨fun hlt => go 100 ?_, fun hge => go 100 ?_⟩
  · have hi : i < xs.length := by simpa using hlt
    have hi' : i < ys.length := by omega
    have hx : (xs.map intV)[i]? = some (intV xs[i]) := by simp [hi]
    have hy : (ys.map intV)[i]? = some (intV ys[i]) := by simp [hi']
    rw [take_succ_eq hi hi'] at k2
    show Goes _ _ _ _
    refine goes_draw 100 ?_
    refine ⟨Int.natCast_nonneg i, _, hx, Int.natCast_nonneg i, _, hy, ?_⟩
    refine ⟨by kernel_rfl, ?_⟩
    refine ⟨fun g2 => go 100 ?_, fun g2 => go 100 ?_⟩
    · refine ⟨trivial, rfl, rfl, rfl, leaf_ff (decide_eq_false fun e => ?_)⟩
      have := (k2.2 e).1
      rw [this] at g2
      simp at g2
    · refine ⟨by constructor <;> omega, ?_⟩
      have he : xs[i] = ys[i] := by
        exact eq_of' g2
      exact next (i + 1) _ _ ⟨⟨hi, by rw [← k2]; exact ⟨fun h => ⟨he, h⟩, fun h => h.2⟩⟩, by omega, ⟨⟨rfl, rfl⟩, ⟨rfl, rfl⟩, ⟨rfl, rfl⟩, ⟨rfl, rfl⟩, trivial⟩, trivial⟩
  · have hi : i = xs.length := by have : xs.length ≤ i := by simpa using hge
                                  omega
    subst hi
    refine ⟨trivial, rfl, rfl, rfl, leaf_tt (decide_eq_true (k2.1 ?_))⟩
    rw [List.drop_eq_nil_of_le (Nat.le_refl _), List.drop_eq_nil_of_le (by omega)]

set_option maxRecDepth 100000 in
theorem w_EqualAttr (xs ys : List (List UInt8 × List UInt8)) (hl : xs.length ≤ 1000000) : Pure Try.prog 52 [.sl 2 (xs.map attrV), .sl 2 (ys.map attrV)] (fun x => x = .bool (decide (xs = ys))) := by
  refine pure_wk (pure_fn 100 Try.func52 rfl rfl rfl fun B => ?_)
  refine ⟨fun g1 => go 100 ?_, fun g1 => go 100 ?_⟩
  · have g1 := ne_of' g1
    refine ⟨trivial, rfl, rfl, rfl, leaf_ff (decide_eq_false fun e => g1 ?_)⟩
    rw [e]
  have g1 : xs.length = ys.length := by have := eq_of' g1; simp at this; omega
  show Goes _ _ _ _
  refine goes_iter (ι := Nat) (fun i => i ≤ xs.length ∧ (xs.drop i = ys.drop i ↔ xs = ys)) (fun i => xs.length - i) (fun i => [(13, .int .i64 i), (12, .int .i64 (xs.map attrV).length), (1, .sl 2 (ys.map attrV)), (0, .sl 2 (xs.map attrV))]) (fun _ => []) 0 100 (fun _ => rfl) (fun _ => rfl) ⟨⟨Nat.zero_le _, Iff.rfl⟩, ?_, trivial⟩ ?_
  · exact ⟨⟨rfl, rfl⟩, ⟨rfl, rfl⟩, ⟨rfl, rfl⟩, ⟨rfl, rfl⟩, trivial⟩
  rintro i ⟨k1, k2⟩ next
  refine ⟨fun hlt => go 100 ?_, fun hge => go 100 ?_⟩
  · have hi : i < xs.length := by simpa using hlt
    have hi' : i < ys.length := by omega
    have hx : (xs.map attrV)[i]? = some (attrV xs[i]) := by simp [hi]
    have hy : (ys.map attrV)[i]? = some (attrV ys[i]) := by simp [hi']
    rw [take_succ_eq hi hi'] at k2
    show Goes _ _ _ _
    refine goes_draw 100 ?_
    refine ⟨Int.natCast_nonneg i, _, hx, Int.natCast_nonneg i, _, hy, ?_⟩
    refine ⟨by kernel_rfl, ?_⟩
    refine ⟨by kernel_rfl, ?_⟩
    refine ⟨fun g2 => go 100 ?_, fun g2 => go 100 ?_⟩
    · refine ⟨trivial, rfl, rfl, rfl, leaf_ff (decide_eq_false fun e => ?_)⟩
      have := (k2.2 e).1
      rw [this] at g2
      simp at g2
    · refine ⟨by constructor <;> omega, ?_⟩
      have he : xs[i] = ys[i] := by
        simp at g2
        exact Prod.ext g2.1 g2.2
      exact next (i + 1) _ _ ⟨⟨hi, by rw [← k2]; exact ⟨fun h => ⟨he, h⟩, fun h => h.2⟩⟩, by omega, ⟨⟨rfl, rfl⟩, ⟨rfl, rfl⟩, ⟨rfl, rfl⟩, ⟨rfl, rfl⟩, trivial⟩, trivial⟩
  · have hi : i = xs.length := by have : xs.length ≤ i := by simpa using hge
                                  omega
    subst hi
    refine ⟨trivial, rfl, rfl, rfl, leaf_tt (decide_eq_true (k2.1 ?_))⟩
    rw [List.drop_eq_nil_of_le (Nat.le_refl _), List.drop_eq_nil_of_le (by omega)]

set_option maxRecDepth 100000 in
theorem w_EqualPiece (xs ys : List PieceT) (hl : xs.length ≤ 1000000) : Pure Try.prog 27 [.sl 3 (xs.map pieceV), .sl 3 (ys.map pieceV)] (fun x => x = .bool (decide (xs = ys))) := by
  refine pure_wk (pure_fn 100 Try.func27 rfl rfl rfl fun B => ?_)
  refine ⟨fun g1 => go 100 ?_, fun g1 => go 100 ?_⟩
  · have g1 := ne_of' g1
    refine ⟨trivial, rfl, rfl, rfl, leaf_ff (decide_eq_false fun e => g1 ?_)⟩
    rw [e]
  have g1 : xs.length = ys.length := by have := eq_of' g1; simp at this; omega
  show Goes _ _ _ _
  refine goes_iter (ι := Nat) (fun i => i ≤ xs.length ∧ (xs.drop i = ys.drop i ↔ xs = ys)) (fun i => xs.length - i) (fun i => [(13, .int .i64 i), (12, .int .i64 (xs.map pieceV).length), (1, .sl 3 (ys.map pieceV)), (0, .sl 3 (xs.map pieceV))]) (fun _ => []) 0 100 (fun _ => rfl) (fun _ => rfl) ⟨⟨Nat.zero_le _, Iff.rfl⟩, ?_, trivial⟩ ?_
  · exact ⟨⟨rfl, rfl⟩, ⟨rfl, rfl⟩, ⟨rfl, rfl⟩, ⟨rfl, rfl⟩, trivial⟩
  rintro i ⟨k1, k2⟩ next
  refine ⟨fun hlt => go 100 ?_, fun hge => go 100 ?_⟩
  · have hi : i < xs.length := by simpa using hlt
    have hi' : i < ys.length := by omega
    have hx : (xs.map pieceV)[i]? = some (pieceV xs[i]) := by simp [hi]
    have hy : (ys.map pieceV)[i]? = some (pieceV ys[i]) := by simp [hi']
    rw [take_succ_eq hi hi'] at k2
    show Goes _ _ _ _
    refine goes_draw 100 ?_
    refine ⟨Int.natCast_nonneg i, _, hx, Int.natCast_nonneg i, _, hy, ?_⟩
    refine ⟨by kernel_rfl, ?_⟩
    refine ⟨by kernel_rfl, ?_⟩
    refine ⟨fun g2 => go 100 ?_, fun g2 => go 100 ?_⟩
    · refine ⟨trivial, rfl, rfl, rfl, leaf_ff (decide_eq_false fun e => ?_)⟩
      have := (k2.2 e).1
      rw [this] at g2
      simp at g2
    · refine ⟨by constructor <;> omega, ?_⟩
      have he : xs[i] = ys[i] := by
        simp at g2
        exact PieceT.ext g2.1 g2.2.1 g2.2.2
      exact next (i + 1) _ _ ⟨⟨hi, by rw [← k2]; exact ⟨fun h => ⟨he, h⟩, fun h => h.2⟩⟩, by omega, ⟨⟨rfl, rfl⟩, ⟨rfl, rfl⟩, ⟨rfl, rfl⟩, ⟨rfl, rfl⟩, trivial⟩, trivial⟩
  · have hi : i = xs.length := by have : xs.length ≤ i := by simpa using hge
                                  omega
    subst hi
    refine ⟨trivial, rfl, rfl, rfl, leaf_tt (decide_eq_true (k2.1 ?_))⟩
    rw [List.drop_eq_nil_of_le (Nat.le_refl _), List.drop_eq_nil_of_le (by omega)]

/-- What a clone leaves: nil, or own memory. -/
def CloneQ (sz : Nat) (xs : List V) (x : V) (T : Heap) : Prop := (xs = [] ∧ x = .nilsl ∧ T = []) ∨ (x = .osl (.loc 0) 2 0 xs.length ∧ T = [some (.vec 2 sz xs)])

theorem w_CloneInt (xs : List V) (hl : xs.length ≤ 1000000) : Fun Try.prog 78 [] [.sl 1 xs] (CloneQ 1 xs) := by
  refine fun_fn 100 Try.func78 rfl rfl rfl fun imps B hi => ?_
  have : imps = [] := List.length_eq_zero_iff.1 hi
  subst this
  show Goes _ _ _ _
  refine goes_nileq 100 rfl rfl rfl rfl rfl rfl fun b hb => ?_
  refine ⟨fun g => go 100 ?_, fun g => go 100 ?_⟩
  · exact ⟨trivial, rfl, rfl, .inl ⟨hb g, rfl, rfl⟩⟩
  · refine ⟨trivial, rfl, rfl, Nat.le_trans (Nat.mul_le_mul_right _ (show _ ≤ 1000000 by simpa using hl)) (by decide), ?_⟩
    refine ⟨trivial, rfl, rfl, .inr ⟨?_, rfl⟩⟩
    simp [resV, bump]

theorem w_CloneNode (xs : List V) (hl : xs.length ≤ 1000000) : Fun Try.prog 79 [] [.sl 6 xs] (CloneQ 6 xs) := by
  refine fun_fn 100 Try.func79 rfl rfl rfl fun imps B hi => ?_
  have : imps = [] := List.length_eq_zero_iff.1 hi
  subst this
  show Goes _ _ _ _
  refine goes_nileq 100 rfl rfl rfl rfl rfl rfl fun b hb => ?_
  refine ⟨fun g => go 100 ?_, fun g => go 100 ?_⟩
  · exact ⟨trivial, rfl, rfl, .inl ⟨hb g, rfl, rfl⟩⟩
  · refine ⟨trivial, rfl, rfl, Nat.le_trans (Nat.mul_le_mul_right _ (show _ ≤ 1000000 by simpa using hl)) (by decide), ?_⟩
    refine ⟨trivial, rfl, rfl, .inr ⟨?_, rfl⟩⟩
    simp [resV, bump]

end Bow
/- W16: paths, further. -/
namespace Bow
open Go Go.Proofs

theorem common_at {p q : List Int} {i : Nat} (hp : i < p.length) (hq : i < q.length) : common (p.drop i) (q.drop i) = bif decide (p[i] = q[i]) then common (p.drop (i + 1)) (q.drop (i + 1)) + 1 else 0 := by
  rw [List.drop_eq_getElem_cons hp, List.drop_eq_getElem_cons hq, common]
theorem common_nil {p q : List Int} {i : Nat} (h : p.length ≤ i ∨ q.length ≤ i) : common (p.drop i) (q.drop i) = 0 := by
  rcases h with h | h
  · rw [List.drop_eq_nil_of_le h]; simp [common]
  · rw [List.drop_eq_nil_of_le h]; cases p.drop i <;> simp [common]

set_option maxRecDepth 100000 in
theorem w_refCommon (p q : List Int) (hp : p.length ≤ 1000000) : Pure Try.prog 25 [pathV p, pathV q] (fun x => x = .int .i64 (common p q)) := by
  refine pure_fn 100 Try.func25 rfl rfl rfl fun B => ?_
  show Goes _ _ _ _
  refine goes_iter (ι := Nat) (fun i => i ≤ p.length ∧ i + common (p.drop i) (q.drop i) = common p q) (fun i => p.length - i) (fun i => [(5, .int .i64 i), (1, pathV q), (0, pathV p)]) (fun _ => []) 0 100 (fun _ => rfl) (fun _ => rfl) ⟨⟨Nat.zero_le _, by simp⟩, ?_, trivial⟩ ?_
  · exact ⟨⟨rfl, rfl⟩, ⟨rfl, rfl⟩, ⟨rfl, rfl⟩, trivial⟩
  rintro i ⟨k1, k2⟩ next
  show Goes _ _ _ _
  have fin : common (p.drop i) (q.drop i) = 0 → V.int .i64 (i : Nat) = .int .i64 (common p q) := fun h => by rw [← k2, h]; rfl
  refine goes_draw 100 ⟨fun g1 => ⟨fun g2 => ?_, fun g2 => ?_⟩, fun g1 => ?_⟩
  · have hi : i < p.length := by simpa using g1
    have hi' : i < q.length := by simpa using g2
    have hx : (p.map intV)[i]? = some (intV p[i]) := by simp [hi]
    have hy : (q.map intV)[i]? = some (intV q[i]) := by simp [hi']
    rw [common_at hi hi'] at k2 fin
    refine ⟨Int.natCast_nonneg i, _, hx, Int.natCast_nonneg i, _, hy, ?_⟩
    refine ⟨by kernel_rfl, ?_⟩
    refine ⟨fun g3 => go 100 ?_, fun g3 => go 100 ?_⟩
    · rw [g3] at k2
      refine ⟨by constructor <;> omega, ?_⟩
      exact next (i + 1) _ _ ⟨⟨hi, by simp only [cond_true] at k2; omega⟩, by omega, ⟨⟨rfl, rfl⟩, ⟨rfl, rfl⟩, ⟨rfl, rfl⟩, trivial⟩, trivial⟩
    · rw [g3] at fin
      exact ⟨trivial, rfl, rfl, rfl, fin rfl⟩
  · have hi' : q.length ≤ i := by simpa using g2
    refine ⟨by kernel_rfl, ?_⟩
    exact ⟨trivial, rfl, rfl, rfl, fin (common_nil (.inr hi'))⟩
  · have hi : p.length ≤ i := by simpa using g1
    refine ⟨by kernel_rfl, ?_⟩
    exact ⟨trivial, rfl, rfl, rfl, fin (common_nil (.inl hi))⟩

theorem w_refSame (p q : List Int) (hp : p.length ≤ 1000000) : Pure Try.prog 11 [pathV p, pathV q] (fun x => x = .bool (decide (p = q))) := by
  refine pure_wk (pure_fn 100 Try.func11 rfl rfl rfl fun B => ?_)
  refine ⟨fun g1 => go 100 ?_, fun g1 => go 100 ?_⟩
  · have g1 : p.length = q.length := by have := eq_of g1; simp at this; omega
    show CallThen _ _ _ _ _ _
    refine call_pure (w_refCommon p q hp) rfl ?_
    rintro x rfl
    refine ⟨trivial, rfl, rfl, rfl, leaf_b ?_⟩
    rw [← common_same p q g1]
    simp
    omega
  · have g1 := ne_of g1
    exact ⟨trivial, rfl, rfl, rfl, leaf_ff (decide_eq_false fun e => g1 (by rw [e]))⟩

theorem w_pathSame (p q : List Int) (hp : p.length ≤ 1000000) : Pure Try.prog 26 [pathV p, pathV q] (fun x => x = .bool (decide (p = q))) := by
  refine pure_fn 100 Try.func26 rfl rfl rfl fun B => ?_
  show CallThen _ _ _ _ _ _
  refine call_pure (w_EqualInt p q hp) rfl ?_
  rintro x rfl
  exact ⟨trivial, rfl, rfl, rfl, rfl⟩

theorem w_pathWithin (p q : List Int) (hp : p.length ≤ 1000000) : Pure Try.prog 73 [pathV p, pathV q] (fun x => x = .bool (within p q)) := by
  refine pure_wk (pure_fn 100 Try.func73 rfl rfl rfl fun B => ?_)
  refine ⟨fun g1 => go 100 ?_, fun g1 => go 100 ?_⟩
  · have g1 : p.length ≤ q.length := by have := le_of g1; simp at this; omega
    refine ⟨by decide, by simp, by simpa using g1, ?_⟩
    show CallThen _ _ _ _ _ _
    have e : V.sl 1 ((((q.map intV).drop (Int.toNat 0)).take (((p.map intV).length : Int).toNat - Int.toNat 0))) = pathV (q.take p.length) := by
      unfold pathV
      simp
    refine call_pure (Q := fun x => x = .bool (decide (p = q.take p.length))) (by have h := w_EqualInt p (q.take p.length) hp; unfold pathV at e; rw [← e] at h; exact h) rfl ?_
    rintro x rfl
    exact ⟨trivial, rfl, rfl, rfl, leaf_b rfl⟩
  · have g1 : q.length < p.length := by have := not_le_of g1; simp at this; omega
    refine ⟨trivial, rfl, rfl, rfl, leaf_ff ?_⟩
    cases h : within p q with
    | false => rfl
    | true => have := within_len h; omega

theorem pure_clone {P : Program} {f : FuncId} {sz : Nat} {xs : List V} (h : Fun P f [] [.sl sz xs] (CloneQ sz xs)) : Pure P f [.sl sz xs] (fun x => x = .sl sz xs) := by
  refine pure_wk (pure_of_fun (h.mono fun x T hx => ?_))
  rcases hx with ⟨e, rfl, rfl⟩ | ⟨rfl, rfl⟩
  · subst e
    exact ⟨rfl, _, Wk.nil sz, rfl, rfl⟩
  · exact ⟨rfl, rfl, rfl, _, Wk.refl _, rfl, rfl⟩

/-- The path of the parent, of one that is not the root's; where in it. -/
theorem w_Parent (p : List Int) (hp : p.length ≤ 1000000) (hne : p ≠ []) : Pure Try.prog 76 [pathV p] (fun x => x = .tup [pathV p.dropLast, intV (p.getLast hne), .tt]) := by
  have hpos : 0 < p.length := List.length_pos_iff.2 hne
  refine pure_fn 100 Try.func76 rfl rfl rfl fun B => ?_
  refine ⟨fun g1 => go 100 ?_, fun g1 => go 100 ?_⟩
  · have := eq_of g1
    simp at this
    exact absurd this hne
  refine ⟨by constructor <;> simp <;> omega, ?_⟩
  show Goes _ _ _ _
  have e : V.sl 1 ((((p.map intV).drop (Int.toNat 0)).take ((((p.map intV).length : Int) - 1).toNat - Int.toNat 0))) = .sl 1 (p.dropLast.map intV) := by
    rw [List.dropLast_eq_take, List.map_take]
    congr 2
    simp
  have hx : (p.map intV)[(((p.map intV).length : Int) - 1).toNat]? = some (intV (p.getLast hne)) := by
    rw [List.getElem?_map, List.getLast_eq_getElem]
    have : (((p.map intV).length : Int) - 1).toNat = p.length - 1 := by simp
    rw [this, List.getElem?_eq_getElem (by omega)]
    rfl
  refine goes_draw 100 ⟨by decide, by simp; omega, by omega, ?_⟩
  have h := pure_clone (w_CloneInt (p.dropLast.map intV) (by rw [List.length_map, List.length_dropLast]; omega))
  rw [← e] at h
  refine ⟨_, h, rfl, ?_⟩
  refine ⟨by simp only [List.length_map]; omega, _, hx, ?_⟩
  refine ⟨by kernel_rfl, ?_⟩
  refine ⟨trivial, rfl, rfl, rfl, ?_⟩
  rw [e]
  rfl
end Bow
/- W17: the node at a path. -/
namespace Bow
open Go Go.Proofs

theorem subs_le_weights : ∀ l : List Tree, l.length ≤ weights l
  | [] => by rw [weights]; simp
  | s :: l => by
    have := subs_le_weights l
    have := weight_eq s
    rw [weights_cons, List.length_cons]
    omega
theorem subs_le_weight (t : Tree) : t.subs.length < t.weight := by have := weight_eq t; have := subs_le_weights t.subs; omega
theorem subV_at {t s : Tree} {i : Nat} (h : t.subs[i]? = some s) : t.subV[i]? = some (nodeV s) := by rw [subV_eq, List.getElem?_map, h]; rfl
theorem subV_len (t : Tree) : t.subV.length = t.subs.length := by rw [subV_eq, List.length_map]
theorem wk_at0 : Wk (.tup [zeroV .nilsl, .ff]) (atV (zeroT []) none) := Wk.tup ⟨wk_zero (ss := []) (Wk.nil 6), .refl _, trivial⟩

set_option maxRecDepth 100000 in
theorem w_At (t : Tree) (p : List Int) (hp : p.length ≤ 1000000) : Pure Try.prog 43 [nodeV t, pathV p] (fun x => x = atV (zeroT []) (atT t p)) := by
  refine pure_wk (pure_fn 100 Try.func43 rfl rfl rfl fun B => ?_)
  show Goes _ _ _ _
  refine goes_iter (ι := Nat × Tree) (fun i => i.1 ≤ p.length ∧ atT i.2 (p.drop i.1) = atT t p) (fun i => p.length - i.1) (fun i => [(10, .int .i64 i.1), (9, .int .i64 (p.map intV).length), (8, pathV p), (2, .ptr (.loc 0) 0), (4, .ptr (.loc 1) 0)]) (fun i => [some (.box (nodeV i.2).cells), some (.box (zeroV .nilsl).cells)]) (0, t) 100 (fun _ => rfl) (fun _ => rfl) ⟨⟨Nat.zero_le _, rfl⟩, ?_, ?_⟩ ?_
  · exact ⟨⟨rfl, rfl⟩, ⟨rfl, rfl⟩, ⟨rfl, rfl⟩, ⟨rfl, rfl⟩, ⟨rfl, rfl⟩, trivial⟩
  · exact ⟨⟨rfl, rfl⟩, ⟨rfl, rfl⟩, trivial⟩
  rintro ⟨i, s⟩ ⟨k1, k2⟩ next
  simp only at k1 k2
  refine ⟨fun hlt => go 100 ?_, fun hge => go 100 ?_⟩
  · have hi : i < p.length := by simpa using hlt
    have hx : (p.map intV)[i]? = some (intV p[i]) := by simp [hi]
    rw [drop_cons hi, atT] at k2
    refine ⟨Int.natCast_nonneg i, _, hx, ?_⟩
    refine ⟨fun g1 => go 100 ?_, fun g1 => go 100 ?_⟩
    · have g1 := lt_of g1
      rw [subT_neg g1] at k2
      exact ⟨trivial, rfl, rfl, rfl, _, wk_at0, rfl, by rw [← k2]⟩
    have g1 := not_lt_of g1
    refine ⟨fun g2 => go 100 ?_, fun g2 => go 100 ?_⟩
    · have g2 := le_of g2
      rw [subV_len] at g2
      rw [subT_big g2] at k2
      exact ⟨trivial, rfl, rfl, rfl, _, wk_at0, rfl, by rw [← k2]⟩
    · have g2 := not_le_of g2
      rw [subV_len] at g2
      obtain ⟨u, hu, hv⟩ := subT_at g1 g2
      rw [hu] at k2
      refine ⟨g1, _, subV_at hv, ?_⟩
      refine ⟨by constructor <;> omega, ?_⟩
      exact next (i + 1, u) _ _ ⟨⟨hi, k2⟩, by simp only; omega, ⟨⟨rfl, rfl⟩, ⟨rfl, rfl⟩, ⟨rfl, rfl⟩, ⟨rfl, rfl⟩, ⟨rfl, rfl⟩, trivial⟩, ⟨⟨rfl, rfl⟩, ⟨rfl, rfl⟩, trivial⟩⟩
  · have hi : p.length ≤ i := by simpa using hge
    rw [List.drop_eq_nil_of_le hi, atT] at k2
    exact ⟨trivial, rfl, rfl, rfl, _, .refl _, rfl, by rw [← k2]; rfl⟩

theorem w_into (t : Tree) (at_ : Int) : Pure Try.prog 72 [nodeV t, intV at_] (fun x => x = .int .i64 (intoE t at_)) := by
  refine pure_fn 100 Try.func72 rfl rfl rfl fun B => ?_
  refine ⟨fun g1 => go 100 ?_, fun g1 => go 100 ?_⟩
  · exact ⟨trivial, rfl, rfl, rfl, by unfold intoE; rw [g1]; rfl⟩
  refine ⟨fun g2 => go 100 ?_, fun g2 => go 100 ?_⟩
  · rw [subV_len] at g2
    exact ⟨trivial, rfl, rfl, rfl, by unfold intoE; rw [g1, g2]; rfl⟩
  · rw [subV_len] at g2
    exact ⟨trivial, rfl, rfl, rfl, by unfold intoE; rw [g1, g2]; rfl⟩
end Bow
/- W18: changes of the node at a path: printed by gen_w18.py. -/
namespace Bow
open Go Go.Proofs

theorem subV_set (t : Tree) (i : Nat) (s : Tree) : t.subV.set i (nodeV s) = (t.subs.set i s).map nodeV := by rw [subV_eq, List.map_set]

set_option maxRecDepth 100000 in
theorem w_change1 (g : FuncId) (c1 : List V) (F : Tree → Tree) (y : Tree)
    (hg : Fun Try.prog g [some (.box (nodeV y).cells)] [.ptr (.loc 0) 0, .iptr c1 0] (fun _ T => T = [some (.box (nodeV (F y)).cells)])) :
    ∀ (p : List Int) (t : Tree), p.length ≤ 1000000 → t.weight ≤ 1000000 → atT t p = some y → Pure Try.prog 45 [nodeV t, pathV p, .fn (.func g) [] [.iptr c1 0]] (fun x => x = nodeV (changeT F t p))
  | [], t, hp, ht, hy => by
    rw [atT] at hy
    injection hy with hy
    subst hy
    refine pure_fn 100 Try.func45 rfl rfl rfl fun B => ?_
    refine ⟨fun g1 => go 100 ?_, fun g1 => ?_⟩
    case refine_2 => exact absurd rfl (ne_of g1)
    show CallThen _ _ _ _ _ _
    refine call_sub [0] hg rfl rfl ⟨⟨rfl, rfl⟩, trivial⟩ rfl rfl rfl ?_
    rintro x T1 rfl
    refine ⟨rfl, ?_⟩
    exact ⟨trivial, rfl, rfl, rfl, rfl⟩
  | i :: p, t, hp, ht, hy => by
    rw [atT] at hy
    cases hs : subT t i with
    | none => rw [hs] at hy; cases hy
    | some s =>
    rw [hs] at hy
    simp only at hy
    obtain ⟨hi0, hat, hmem⟩ := subT_some hs
    have hlt := lt_of_get hat
    have hw := weight_sub hmem
    have hsl := subs_le_weight t
    have ih := w_change1 g c1 F y hg p s (by simp at hp; omega) (by omega) hy
    refine pure_fn 100 Try.func45 rfl rfl rfl fun B => ?_
    refine ⟨fun g1 => ?_, fun g1 => go 100 ?_⟩
    · have := eq_of g1
      simp at this
      omega
    show CallThen _ _ _ _ _ _
    refine call_sub [] (w_CloneNode t.subV (by rw [subV_len]; omega)) rfl rfl trivial rfl rfl rfl ?_
    rintro x T1 (⟨e, _⟩ | ⟨rfl, rfl⟩)
    · have := congrArg List.length e
      rw [subV_len, List.length_nil] at this
      omega
    refine ⟨rfl, ?_⟩
    show Goes _ _ _ _
    have hx : t.subV[0 + i.toNat]? = some (nodeV s) := by rw [Nat.zero_add]; exact subV_at hat
    have hil : i < (t.subV.length : Int) := by rw [subV_len]; omega
    have e : V.sl 1 ((((i :: p).map intV).drop (Int.toNat 1)).take (((((i :: p).map intV).length : Nat) : Int).toNat - Int.toNat 1)) = pathV p := by
      unfold pathV
      rw [List.take_of_length_le (by simp)]
      rfl
    refine goes_draw 100 ⟨by decide, _, rfl, by decide, _, rfl, rfl, hi0, hil, rfl, _, hx, by decide, by simp; omega, by omega, nodeV (changeT F s p), ?_, rfl, rfl, hi0, hil, rfl, _, hx, ?_⟩
    · unfold pathV at e ih
      rw [e]
      exact ih
    refine ⟨by kernel_rfl, ?_⟩
    refine ⟨trivial, rfl, rfl, rfl, (by simp), rfl, ?_⟩
    rw [changeT, hs]
    simp only
    rw [withSubs_V, ← subV_set, Nat.zero_add]
    rfl

set_option maxRecDepth 100000 in
theorem w_change2 (g : FuncId) (c1 c2 : List V) (F : Tree → Tree) (y : Tree)
    (hg : Fun Try.prog g [some (.box (nodeV y).cells)] [.ptr (.loc 0) 0, .iptr c1 0, .iptr c2 0] (fun _ T => T = [some (.box (nodeV (F y)).cells)])) :
    ∀ (p : List Int) (t : Tree), p.length ≤ 1000000 → t.weight ≤ 1000000 → atT t p = some y → Pure Try.prog 45 [nodeV t, pathV p, .fn (.func g) [] [.iptr c1 0, .iptr c2 0]] (fun x => x = nodeV (changeT F t p))
  | [], t, hp, ht, hy => by
    rw [atT] at hy
    injection hy with hy
    subst hy
    refine pure_fn 100 Try.func45 rfl rfl rfl fun B => ?_
    refine ⟨fun g1 => go 100 ?_, fun g1 => ?_⟩
    case refine_2 => exact absurd rfl (ne_of g1)
    show CallThen _ _ _ _ _ _
    refine call_sub [0] hg rfl rfl ⟨⟨rfl, rfl⟩, trivial⟩ rfl rfl rfl ?_
    rintro x T1 rfl
    refine ⟨rfl, ?_⟩
    exact ⟨trivial, rfl, rfl, rfl, rfl⟩
  | i :: p, t, hp, ht, hy => by
    rw [atT] at hy
    cases hs : subT t i with
    | none => rw [hs] at hy; cases hy
    | some s =>
    rw [hs] at hy
    simp only at hy
    obtain ⟨hi0, hat, hmem⟩ := subT_some hs
    have hlt := lt_of_get hat
    have hw := weight_sub hmem
    have hsl := subs_le_weight t
    have ih := w_change2 g c1 c2 F y hg p s (by simp at hp; omega) (by omega) hy
    refine pure_fn 100 Try.func45 rfl rfl rfl fun B => ?_
    refine ⟨fun g1 => ?_, fun g1 => go 100 ?_⟩
    · have := eq_of g1
      simp at this
      omega
    show CallThen _ _ _ _ _ _
    refine call_sub [] (w_CloneNode t.subV (by rw [subV_len]; omega)) rfl rfl trivial rfl rfl rfl ?_
    rintro x T1 (⟨e, _⟩ | ⟨rfl, rfl⟩)
    · have := congrArg List.length e
      rw [subV_len, List.length_nil] at this
      omega
    refine ⟨rfl, ?_⟩
    show Goes _ _ _ _
    have hx : t.subV[0 + i.toNat]? = some (nodeV s) := by rw [Nat.zero_add]; exact subV_at hat
    have hil : i < (t.subV.length : Int) := by rw [subV_len]; omega
    have e : V.sl 1 ((((i :: p).map intV).drop (Int.toNat 1)).take (((((i :: p).map intV).length : Nat) : Int).toNat - Int.toNat 1)) = pathV p := by
      unfold pathV
      rw [List.take_of_length_le (by simp)]
      rfl
    refine goes_draw 100 ⟨by decide, _, rfl, by decide, _, rfl, rfl, hi0, hil, rfl, _, hx, by decide, by simp; omega, by omega, nodeV (changeT F s p), ?_, rfl, rfl, hi0, hil, rfl, _, hx, ?_⟩
    · unfold pathV at e ih
      rw [e]
      exact ih
    refine ⟨by kernel_rfl, ?_⟩
    refine ⟨trivial, rfl, rfl, rfl, (by simp), rfl, ?_⟩
    rw [changeT, hs]
    simp only
    rw [withSubs_V, ← subV_set, Nat.zero_add]
    rfl

end Bow
/- W19: nodes put in and taken out. -/
namespace Bow
open Go Go.Proofs

set_option maxRecDepth 100000 in
theorem w_insert1 (x y : Tree) (n : Int) (h0 : 0 ≤ n) (h1 : n ≤ y.subs.length) (hl : y.subs.length ≤ 900000) : Fun Try.prog 74 [some (.box (nodeV y).cells)] [.ptr (.loc 0) 0, .iptr [intV n] 0, .iptr (nodeV x).cells 0] (fun _ T => T = [some (.box (nodeV (insT n x y)).cells)]) := by
  refine fun_keep 1 rfl (fun_fn 100 Try.func74 rfl rfl rfl fun imps B hi => ?_)
  obtain ⟨r, rfl⟩ := List.length_eq_one_iff.1 hi
  show Goes _ _ _ _
  have hnl : n ≤ (y.subV.length : Int) := by rw [subV_len]; exact h1
  have hc := w_ConcatNode [(y.subV.drop (Int.toNat 0)).take (n.toNat - Int.toNat 0), [nodeV x], (y.subV.drop n.toNat).take ((y.subV.length : Int).toNat - n.toNat)] (by
    simp [subV_len]; omega) (by simp)
  refine goes_draw 100 ⟨by decide, h0, hnl, ?_⟩
  refine ⟨by kernel_rfl, ⟨rfl, trivial⟩, rfl, h0, hnl, Int.le_refl _, ?_⟩
  refine ⟨by kernel_rfl, rfl, rfl, ⟨rfl, rfl, rfl, trivial⟩, rfl, rfl, rfl, _, hc, rfl, ?_⟩
  refine ⟨by kernel_rfl, ?_⟩
  refine ⟨trivial, rfl, rfl, [some (.box [.int .u64 y.id, .bool y.leaf, .str y.label, .sl 2 (y.attrs.map attrV), .str y.text, .sl 6 [(y.subV.drop (Int.toNat 0)).take (n.toNat - Int.toNat 0), [nodeV x], (y.subV.drop n.toNat).take ((y.subV.length : Int).toNat - n.toNat)].flatten])], rfl, rfl, ⟨⟨rfl, rfl⟩, trivial⟩, ?_⟩
  have e : [(y.subV.drop (Int.toNat 0)).take (n.toNat - Int.toNat 0), [nodeV x], (y.subV.drop n.toNat).take ((y.subV.length : Int).toNat - n.toNat)].flatten = (y.subs.take n.toNat ++ x :: y.subs.drop n.toNat).map nodeV := by
    rw [subV_eq]
    simp [List.map_take, List.map_drop]
    rw [List.take_of_length_le (by simp)]
  rw [e, insT, withSubs_V]
  rfl

set_option maxRecDepth 100000 in
theorem w_remove1 (y : Tree) (n : Int) (h0 : 0 ≤ n) (h1 : n < y.subs.length) (hl : y.subs.length ≤ 900000) : Fun Try.prog 77 [some (.box (nodeV y).cells)] [.ptr (.loc 0) 0, .iptr [intV n] 0] (fun _ T => T = [some (.box (nodeV (delT n y)).cells)]) := by
  refine fun_keep 1 rfl (fun_fn 100 Try.func77 rfl rfl rfl fun imps B hi => ?_)
  obtain ⟨r, rfl⟩ := List.length_eq_one_iff.1 hi
  show Goes _ _ _ _
  have hnl : n ≤ (y.subV.length : Int) := by rw [subV_len]; omega
  have hnl' : n + 1 ≤ (y.subV.length : Int) := by rw [subV_len]; omega
  have hc := w_ConcatNode [(y.subV.drop (Int.toNat 0)).take (n.toNat - Int.toNat 0), (y.subV.drop (n + 1).toNat).take ((y.subV.length : Int).toNat - (n + 1).toNat)] (by
    simp [subV_len]; omega) (by simp)
  refine goes_draw 100 ⟨by decide, h0, hnl, ?_⟩
  refine ⟨⟨by omega, by omega⟩, by omega, hnl', Int.le_refl _, ?_⟩
  refine ⟨by kernel_rfl, ⟨rfl, rfl, trivial⟩, rfl, rfl, rfl, _, hc, rfl, ?_⟩
  refine ⟨by kernel_rfl, ?_⟩
  refine ⟨trivial, rfl, rfl, [some (.box [.int .u64 y.id, .bool y.leaf, .str y.label, .sl 2 (y.attrs.map attrV), .str y.text, .sl 6 [(y.subV.drop (Int.toNat 0)).take (n.toNat - Int.toNat 0), (y.subV.drop (n + 1).toNat).take ((y.subV.length : Int).toNat - (n + 1).toNat)].flatten])], rfl, rfl, ⟨⟨rfl, rfl⟩, trivial⟩, ?_⟩
  have e : [(y.subV.drop (Int.toNat 0)).take (n.toNat - Int.toNat 0), (y.subV.drop (n + 1).toNat).take ((y.subV.length : Int).toNat - (n + 1).toNat)].flatten = (y.subs.take n.toNat ++ y.subs.drop (n.toNat + 1)).map nodeV := by
    have e1 : (n + 1).toNat = n.toNat + 1 := by omega
    rw [subV_eq, e1]
    simp [List.map_take, List.map_drop]
    rw [List.take_of_length_le (by simp)]
  rw [e, delT, withSubs_V]
  rfl

set_option maxRecDepth 100000 in
theorem w_insert (t x y : Tree) (p : List Int) (n : Int) (hp : p.length ≤ 1000000) (ht : t.weight ≤ 900000) (hy : atT t p = some y) (h0 : 0 ≤ n) (h1 : n ≤ y.subs.length) :
    Pure Try.prog 41 [nodeV t, pathV p, intV n, nodeV x] (fun z => z = nodeV (changeT (insT n x) t p)) := by
  have hyw := atT_weight hy
  have hys := subs_le_weight y
  refine pure_fn 100 Try.func41 rfl rfl rfl fun B => ?_
  show CallThen _ _ _ _ _ _
  refine call_freeze 1 rfl rfl ?_
  refine call_freeze 2 rfl rfl ?_
  refine call_pure (w_change2 74 [intV n] (nodeV x).cells (insT n x) y (w_insert1 x y n h0 h1 (by omega)) p t hp (by omega) hy) rfl ?_
  rintro z rfl
  exact ⟨trivial, rfl, rfl, rfl, rfl⟩

set_option maxRecDepth 100000 in
theorem w_remove (t y : Tree) (p : List Int) (hp : p.length ≤ 1000000) (hne : p ≠ []) (ht : t.weight ≤ 900000) (hy : atT t p.dropLast = some y) (h0 : 0 ≤ p.getLast hne) (h1 : p.getLast hne < y.subs.length) :
    Pure Try.prog 42 [nodeV t, pathV p] (fun z => z = nodeV (changeT (delT (p.getLast hne)) t p.dropLast)) := by
  have hyw := atT_weight hy
  have hys := subs_le_weight y
  refine pure_fn 100 Try.func42 rfl rfl rfl fun B => ?_
  show CallThen _ _ _ _ _ _
  refine call_pure (w_Parent p hp hne) rfl ?_
  rintro z rfl
  show CallThen _ _ _ _ _ _
  refine call_freeze 2 rfl rfl ?_
  refine call_pure (w_change1 77 [intV (p.getLast hne)] (delT (p.getLast hne)) y (w_remove1 y _ h0 h1 (by omega)) p.dropLast t (by simp; omega) (by omega) hy) rfl ?_
  rintro z rfl
  exact ⟨trivial, rfl, rfl, rfl, rfl⟩
end Bow
/- W20: where a moved node lands. -/
namespace Bow
open Go Go.Proofs

def landV (r : List Int × Int) : V := .tup [pathV r.1, intV r.2]

set_option maxRecDepth 100000 in
theorem w_landing (p to : List Int) (n : Int) (hp : p.length ≤ 1000000) (ht : to.length ≤ 1000000) (hne : p ≠ []) (hn : inI n) (hr : ∀ x ∈ to, inI x) (h0 : 0 ≤ p.getLast hne) :
    Pure Try.prog 44 [pathV p, pathV to, intV n] (fun z => z = landV (landT p.dropLast (p.getLast hne) to n)) := by
  obtain ⟨hn1, hn2⟩ := hn
  have hq : p.dropLast.length ≤ 1000000 := by simp; omega
  refine pure_fn 100 Try.func44 rfl rfl rfl fun B => ?_
  show CallThen _ _ _ _ _ _
  refine call_pure (w_Parent p hp hne) rfl ?_
  rintro z rfl
  show CallThen _ _ _ _ _ _
  refine call_pure (w_pathSame p.dropLast to hq) rfl ?_
  rintro z rfl
  have other : (decide (p.dropLast = to) && decide (p.getLast hne < n)) = false → landT p.dropLast (p.getLast hne) to n = bif within p.dropLast to && (decide (p.dropLast.length < to.length) && decide (p.getLast hne < to.getD p.dropLast.length 0)) then (to.set p.dropLast.length (to.getD p.dropLast.length 0 - 1), n) else (to, n) := fun h => by
    unfold landT
    rw [h]
    rfl
  have hlen : ((p.dropLast.map intV).length : Int) = (p.dropLast.length : Int) := by simp
  refine ⟨fun g1 => go 100 ⟨fun g2 => go 100 ?_, fun g2 => ?_⟩, fun g1 => ?_⟩
  · have g2' := lt_of g2
    refine ⟨by constructor <;> omega, ?_⟩
    refine ⟨trivial, rfl, rfl, rfl, ?_⟩
    unfold landT
    rw [g1, g2]
    rfl
  case refine_2 =>
    replace other := other (by rw [g1, g2]; rfl)
    refine go 100 ?_
    show CallThen _ _ _ _ _ _
    refine call_pure (w_pathWithin p.dropLast to hq) rfl ?_
    rintro z rfl
    refine ⟨fun g3 => go 100 ⟨fun g4 => go 100 ?_, fun g4 => go 100 ?_⟩, fun g3 => go 100 ?_⟩
    · have g4' := lt_of g4
      rw [hlen] at g4'
      simp only [List.length_map] at g4'
      have g4l : p.dropLast.length < to.length := by omega
      have hx : (to.map intV)[(((p.dropLast.map intV).length : Nat) : Int).toNat]? = some (intV (to.getD p.dropLast.length 0)) := by
        have e : (((p.dropLast.map intV).length : Nat) : Int).toNat = p.dropLast.length := by simp
        rw [e, List.getElem?_map, List.getElem?_eq_getElem g4l, List.getD_eq_getElem?_getD, List.getElem?_eq_getElem g4l]
        rfl
      refine ⟨Int.natCast_nonneg _, _, hx, ?_⟩
      refine ⟨fun g5 => go 100 ?_, fun g5 => go 100 ?_⟩
      · show CallThen _ _ _ _ _ _
        refine call_sub [] (w_CloneInt (to.map intV) (by simpa using ht)) rfl rfl trivial rfl rfl rfl ?_
        rintro z T1 (⟨e, _⟩ | ⟨rfl, rfl⟩)
        · have := congrArg List.length e
          simp at this
          subst this
          simp at g4l
        refine ⟨rfl, ?_⟩
        have hx' : (to.map intV)[0 + (((p.dropLast.map intV).length : Nat) : Int).toNat]? = some (intV (to.getD p.dropLast.length 0)) := by rw [Nat.zero_add]; exact hx
        have hlt : (((p.dropLast.map intV).length : Nat) : Int) < ((to.map intV).length : Nat) := by simp; simp at g4l; omega
        have hr' := hr (to.getD p.dropLast.length 0) (by rw [List.getD_eq_getElem?_getD, List.getElem?_eq_getElem g4l]; exact List.getElem_mem g4l)
        have g5' := lt_of g5
        obtain ⟨r1, r2⟩ := hr'
        refine ⟨rfl, Int.natCast_nonneg _, hlt, rfl, _, hx', ⟨by omega, by omega⟩, rfl, Int.natCast_nonneg _, hlt, rfl, _, hx', ?_⟩
        refine ⟨trivial, rfl, rfl, rfl, by simp, rfl, ?_⟩
        rw [other]
        rw [g3, decide_eq_true g4l, g5]
        have e : 0 + (((p.dropLast.map intV).length : Nat) : Int).toNat = p.dropLast.length := by simp
        show V.tup [V.sl 1 (((to.map intV)).set _ (intV (to.getD p.dropLast.length 0 - 1))), intV n] = landV (to.set p.dropLast.length (to.getD p.dropLast.length 0 - 1), n)
        rw [e, ← List.map_set]
        rfl
      · refine ⟨trivial, rfl, rfl, rfl, ?_⟩
        rw [other, g3, decide_eq_true g4l, g5]
        rfl
    · refine ⟨trivial, rfl, rfl, rfl, ?_⟩
      have g4' := not_lt_of g4
      rw [hlen] at g4'
      simp only [List.length_map] at g4'
      have g4l : ¬ p.dropLast.length < to.length := by omega
      rw [other, g3, decide_eq_false g4l]
      rfl
    · refine ⟨trivial, rfl, rfl, rfl, ?_⟩
      rw [other, g3]
      rfl
  case refine_3 =>
    replace other := other (by rw [g1]; rfl)
    refine go 100 ?_
    show CallThen _ _ _ _ _ _
    refine call_pure (w_pathWithin p.dropLast to hq) rfl ?_
    rintro z rfl
    refine ⟨fun g3 => go 100 ⟨fun g4 => go 100 ?_, fun g4 => go 100 ?_⟩, fun g3 => go 100 ?_⟩
    · have g4' := lt_of g4
      rw [hlen] at g4'
      simp only [List.length_map] at g4'
      have g4l : p.dropLast.length < to.length := by omega
      have hx : (to.map intV)[(((p.dropLast.map intV).length : Nat) : Int).toNat]? = some (intV (to.getD p.dropLast.length 0)) := by
        have e : (((p.dropLast.map intV).length : Nat) : Int).toNat = p.dropLast.length := by simp
        rw [e, List.getElem?_map, List.getElem?_eq_getElem g4l, List.getD_eq_getElem?_getD, List.getElem?_eq_getElem g4l]
        rfl
      refine ⟨Int.natCast_nonneg _, _, hx, ?_⟩
      refine ⟨fun g5 => go 100 ?_, fun g5 => go 100 ?_⟩
      · show CallThen _ _ _ _ _ _
        refine call_sub [] (w_CloneInt (to.map intV) (by simpa using ht)) rfl rfl trivial rfl rfl rfl ?_
        rintro z T1 (⟨e, _⟩ | ⟨rfl, rfl⟩)
        · have := congrArg List.length e
          simp at this
          subst this
          simp at g4l
        refine ⟨rfl, ?_⟩
        have hx' : (to.map intV)[0 + (((p.dropLast.map intV).length : Nat) : Int).toNat]? = some (intV (to.getD p.dropLast.length 0)) := by rw [Nat.zero_add]; exact hx
        have hlt : (((p.dropLast.map intV).length : Nat) : Int) < ((to.map intV).length : Nat) := by simp; simp at g4l; omega
        have hr' := hr (to.getD p.dropLast.length 0) (by rw [List.getD_eq_getElem?_getD, List.getElem?_eq_getElem g4l]; exact List.getElem_mem g4l)
        have g5' := lt_of g5
        obtain ⟨r1, r2⟩ := hr'
        refine ⟨rfl, Int.natCast_nonneg _, hlt, rfl, _, hx', ⟨by omega, by omega⟩, rfl, Int.natCast_nonneg _, hlt, rfl, _, hx', ?_⟩
        refine ⟨trivial, rfl, rfl, rfl, by simp, rfl, ?_⟩
        rw [other]
        rw [g3, decide_eq_true g4l, g5]
        have e : 0 + (((p.dropLast.map intV).length : Nat) : Int).toNat = p.dropLast.length := by simp
        show V.tup [V.sl 1 (((to.map intV)).set _ (intV (to.getD p.dropLast.length 0 - 1))), intV n] = landV (to.set p.dropLast.length (to.getD p.dropLast.length 0 - 1), n)
        rw [e, ← List.map_set]
        rfl
      · refine ⟨trivial, rfl, rfl, rfl, ?_⟩
        rw [other, g3, decide_eq_true g4l, g5]
        rfl
    · refine ⟨trivial, rfl, rfl, rfl, ?_⟩
      have g4' := not_lt_of g4
      rw [hlen] at g4'
      simp only [List.length_map] at g4'
      have g4l : ¬ p.dropLast.length < to.length := by omega
      rw [other, g3, decide_eq_false g4l]
      rfl
    · refine ⟨trivial, rfl, rfl, rfl, ?_⟩
      rw [other, g3]
      rfl
end Bow
/- W21: right trees. -/
namespace Bow
open Go Go.Proofs

set_option maxRecDepth 100000 in
theorem w_rightN (t : Tree) (h : t.weight ≤ 1000000) : Pure Try.prog 68 [nodeV t] (fun x => x = .bool (rightN t)) := by
  have hw := weight_eq t
  refine pure_wk (pure_fn 300 Try.func68 rfl rfl rfl fun B => ?_)
  repeat' first
    | (refine ⟨fun _ => go 300 ?_, fun _ => go 300 ?_⟩)
    | (refine ⟨trivial, rfl, rfl, rfl, leaf_ff ?_⟩)
    | (show Goes _ _ _ _
       suffices hr : rightN t = attrsOk none t.attrs by
         refine goes_iter (ι := Nat) (fun i => i ≤ t.attrs.length ∧ attrsOk (prevK t.attrs i) (t.attrs.drop i) = rightN t) (fun i => t.attrs.length - i) (fun i => [(32, .int .i64 i), (31, .int .i64 (t.attrs.map attrV).length), (30, .sl 2 (t.attrs.map attrV)), (1, .ptr (.loc 0) 0)]) (fun i => [some (.box (nodeV t).cells)]) 0 300 (fun _ => rfl) (fun _ => rfl) ⟨⟨Nat.zero_le _, hr.symm⟩, ⟨⟨rfl, rfl⟩, ⟨rfl, rfl⟩, ⟨rfl, rfl⟩, ⟨rfl, rfl⟩, trivial⟩, ⟨⟨rfl, rfl⟩, trivial⟩⟩ ?_
         rintro i ⟨k1, k2⟩ next
         refine ⟨fun hlt => go 300 ?_, fun hge => go 300 ?_⟩
         · have hi : i < t.attrs.length := by simpa using hlt
           have hx : (t.attrs.map attrV)[i]? = some (attrV t.attrs[i]) := by simp [hi]
           rw [attrs_at hi] at k2
           unfold attrOk at k2
           have cont : keyOk t.attrs[i].1 = true → decide ((t.attrs[i].2.length : Int) ≤ 256) = true → ordOk (prevK t.attrs i) t.attrs[i].1 = true → attrsOk (prevK t.attrs (i + 1)) (t.attrs.drop (i + 1)) = rightN t := fun a b c => by rw [a, b, c] at k2; simpa using k2
           have stop1 : keyOk t.attrs[i].1 = false → rightN t = false := fun a => by rw [← k2, a]; rfl
           have stop2 : decide ((t.attrs[i].2.length : Int) ≤ 256) = false → rightN t = false := fun a => by rw [← k2, a]; simp
           have stop3 : ordOk (prevK t.attrs i) t.attrs[i].1 = false → rightN t = false := fun a => by rw [← k2, a]; simp
           refine ⟨Int.natCast_nonneg i, _, hx, ?_⟩
           show Goes _ _ _ _
           refine goes_draw 300 ⟨_, w_Key t.attrs[i].1, rfl, ⟨fun q1 => ?_, fun q1 => ⟨fun q2 => ?_, fun q2 => ⟨fun q3 => ?_, fun q3 => ?_⟩⟩⟩⟩
           · refine ⟨by kernel_rfl, ?_⟩
             exact ⟨trivial, rfl, rfl, rfl, leaf_ff (stop1 (by simpa using q1))⟩
           · refine ⟨by kernel_rfl, ?_⟩
             exact ⟨trivial, rfl, rfl, rfl, leaf_ff (stop2 (by have := lt_of q2; simp; omega))⟩
           · have q3' : 0 < i := by have := lt_of q3; omega
             have hx' : (t.attrs.map attrV)[((i : Int) - 1).toNat]? = some (attrV t.attrs[i - 1]) := by
               have : ((i : Int) - 1).toNat = i - 1 := by omega
               rw [this]
               simp [show i - 1 < t.attrs.length by omega]
             have hp : prevK t.attrs i = some t.attrs[i - 1].1 := by
               obtain ⟨j, rfl⟩ : ∃ j, i = j + 1 := ⟨i - 1, by omega⟩
               rw [prevK, List.getD_eq_getElem?_getD, List.getElem?_eq_getElem (by omega)]
               rfl
             rw [hp] at cont stop3
             refine ⟨⟨by omega, by omega⟩, by omega, _, hx', ?_⟩
             refine ⟨by kernel_rfl, ?_⟩
             refine ⟨fun q4 => go 300 ?_, fun q4 => go 300 ?_⟩
             · exact ⟨trivial, rfl, rfl, rfl, leaf_ff (stop3 (congrArg Bool.not q4))⟩
             · refine ⟨by constructor <;> omega, ?_⟩
               exact next (i + 1) _ _ ⟨⟨hi, cont (by simpa using q1) (by have := not_lt_of q2; simp; omega) (congrArg Bool.not q4)⟩, by omega, ⟨⟨rfl, rfl⟩, ⟨rfl, rfl⟩, ⟨rfl, rfl⟩, ⟨rfl, rfl⟩, trivial⟩, ⟨⟨rfl, rfl⟩, trivial⟩⟩
           · have q3' : i = 0 := by have := not_lt_of q3; omega
             subst q3'
             refine ⟨by kernel_rfl, ?_⟩
             refine ⟨by constructor <;> omega, ?_⟩
             exact next 1 _ _ ⟨⟨hi, cont (by simpa using q1) (by have := not_lt_of q2; simp; omega) rfl⟩, by omega, ⟨⟨rfl, rfl⟩, ⟨rfl, rfl⟩, ⟨rfl, rfl⟩, ⟨rfl, rfl⟩, trivial⟩, ⟨⟨rfl, rfl⟩, trivial⟩⟩
         · have hi : i = t.attrs.length := by have : t.attrs.length ≤ i := by simpa using hge
                                              omega
           subst hi
           rw [List.drop_eq_nil_of_le (Nat.le_refl _), attrsOk] at k2
           exact ⟨trivial, rfl, rfl, rfl, leaf_tt k2.symm⟩)
    | fail
  all_goals (simp_all [rightN, headOk, subV_eq])
def rightUpd (_ : Unit) (p : Int × Tree) : Unit × Option Code := bif rightN p.2 then ((), none) else ((), some .ret)
theorem rightUpd_all : ∀ l : List (Int × Tree), rfold rightUpd () l = bif l.all (fun p => rightN p.2) then ((), none) else ((), some .ret)
  | [] => rfl
  | p :: l => by
    rw [rfold, List.all_cons]
    cases h : rightN p.2 with
    | false => simp [rightUpd, h]
    | true =>
      simp only [rightUpd, h, cond_true, Bool.true_and]
      exact rightUpd_all l

set_option maxRecDepth 100000 in
theorem w_RightT (t : Tree) (h : t.weight ≤ 1000000) : Pure Try.prog 38 [nodeV t] (fun x => x = .bool (rightT t)) := by
  have hs := size_le_weight t
  refine pure_wk (pure_fn 100 Try.func38 rfl rfl rfl fun B => ?_)
  refine ⟨fun g1 => go 100 ?_, fun g1 => go 100 ?_⟩
  · exact ⟨trivial, rfl, rfl, rfl, leaf_ff (by unfold rightT; rw [g1]; rfl)⟩
  show CallThen _ _ _ _ _ _
  refine call_pure (w_nodes t) rfl ?_
  rintro x rfl
  show Goes _ _ _ _
  refine goes_range (σ := Unit) 100 2 (fun _ => [some (.box (nodeV t).cells), some (.box [.ff])]) rightUpd preV (fun _ l => ∀ p ∈ l, p.2.weight ≤ 1000000) () (t.pre 0) rfl rfl rfl (w_iter t (by omega)) rfl (fun _ => rfl) (fun _ => rfl) (fun _ => rfl) rfl (fun _ => rfl) (fun _ _ h => by cases h) ?_ ?_ ?_
  · exact fun p hp => Nat.le_trans (pre_mem_weight t 0 p hp).1 h
  · intro s a l hI
    refine ⟨fun _ p hp => hI p (List.mem_cons_of_mem _ hp), fun imps B r l h1 h2 => ?_⟩
    have h0 := hI a List.mem_cons_self
    have hr := w_rightN a.2 h0
    show Goes _ _ _ _
    refine goes_beginRound 100 rfl h2 rfl ?_
    show CallThen _ _ _ _ _ _
    refine call_pure hr rfl ?_
    rintro x rfl
    unfold rightUpd
    refine ⟨fun g => go 100 ?_, fun g => go 100 ?_⟩
    · have g : rightN a.2 = false := by simpa using g
      rw [g]
      exact ⟨rfl, rfl, trivial, ⟨rfl, rfl⟩, ⟨rfl, rfl⟩, ⟨rfl, rfl⟩, ⟨rfl, rfl⟩, trivial⟩
    · have g : rightN a.2 = true := by simpa using g
      rw [g]
      exact ⟨rfl, rfl, trivial, ⟨rfl, rfl⟩, ⟨rfl, rfl⟩, ⟨rfl, rfl⟩, ⟨rfl, rfl⟩, trivial⟩
  · rw [rightUpd_all, pre_right]
    cases hr : t.rightA with
    | true => exact ⟨trivial, rfl, rfl, rfl, leaf_tt (by unfold rightT; rw [g1, hr]; rfl)⟩
    | false => exact ⟨trivial, rfl, rfl, rfl, leaf_ff (by unfold rightT; rw [g1, hr]; rfl)⟩
end Bow
/- W22: right trees, in the document's words. -/
namespace Bow
open Go Go.Proofs

end Bow
/- W23: edits of a text, in the document's words. -/
namespace Bow
open Go Go.Proofs

set_option maxRecDepth 100000 in
theorem w_extent (l : List PieceT) (hl : l.length ≤ 4096) (hok : ∀ p ∈ l, p.Ok) : Pure Try.prog 84 [piecesV l] (fun x => x = .int .i64 (extentP l)) := by
  refine pure_fn 100 Try.func84 rfl rfl rfl fun B => ?_
  show Goes _ _ _ _
  refine goes_iter (ι := Nat × Int) (fun i => i.1 ≤ l.length ∧ 0 ≤ i.2 ∧ i.2 + extentP (l.drop i.1) = extentP l) (fun i => l.length - i.1) (fun i => [(8, .int .i64 i.1), (7, .int .i64 (l.map pieceV).length), (6, piecesV l), (3, .int .i64 i.2)]) (fun _ => []) (0, 0) 100 (fun _ => rfl) (fun _ => rfl) ⟨⟨Nat.zero_le _, Int.le_refl _, by simp⟩, ⟨⟨rfl, rfl⟩, ⟨rfl, rfl⟩, ⟨rfl, rfl⟩, ⟨rfl, rfl⟩, trivial⟩, trivial⟩ ?_
  rintro ⟨i, n⟩ ⟨k1, k2, k3⟩ next
  simp only at k1 k2 k3
  have hle := extentP_le hok
  refine ⟨fun hlt => go 100 ?_, fun hge => go 100 ?_⟩
  · have hi : i < l.length := by simpa using hlt
    have hx : (l.map pieceV)[i]? = some (pieceV l[i]) := by simp [hi]
    have hp := hok l[i] (List.getElem_mem hi)
    have := hp.k0
    have := hp.d0
    have hn := extentP_nonneg (l := l.drop (i + 1)) fun q hq => hok q (List.mem_of_mem_drop hq)
    rw [drop_cons hi, extentP_cons] at k3
    refine ⟨Int.natCast_nonneg i, _, hx, ⟨by omega, by omega⟩, ⟨by omega, by omega⟩, ⟨by omega, by omega⟩, ?_⟩
    exact next (i + 1, n + (l[i].keep + l[i].drop)) _ _ ⟨⟨hi, by simp only; omega, by simp only; omega⟩, by simp only; omega, ⟨⟨rfl, rfl⟩, ⟨rfl, rfl⟩, ⟨rfl, rfl⟩, ⟨rfl, rfl⟩, trivial⟩, trivial⟩
  · have hi : l.length ≤ i := by simpa using hge
    rw [List.drop_eq_nil_of_le hi] at k3
    exact ⟨trivial, rfl, rfl, rfl, by rw [← k3]; simp [extentP]; rfl⟩

end Bow
/- WB1: strings.Builder's methods at this program: by the kit's own tactics. -/
namespace Bow
open Go Go.Proofs Go.RowKit Go.Shelf

theorem b_size : ((Try.prog).info? 104).map (·.size) = some 2 := by kernel_rfl
theorem b_lies : liesAt Try.prog Try.prog.depth 104 (2 / (Try.prog).cellsOf 104) 0 104 1 = true := by kernel_rfl
theorem b_byte : ((Try.prog).info? 5).map (fun i => (i.zero, i.size, i.bytes)) = some (some (.int .u8 0), 1, 1) := by kernel_rfl

set_option maxHeartbeats 1000000 in
set_option maxRecDepth 100000 in
theorem b_copyCheck_used (b : Nat) (w : World) (h0 : w.cell? ⟨b, 0, none⟩ = some (.pointer (some ⟨b, 0, none⟩))) :
    Calls Try.prog 107 #[.pointer (some ⟨b, 0, none⟩)] w fun e w' => e = .returned (.tuple #[]) ∧ w' = w := by
  obtain ⟨j, hj, _⟩ := Option.map_eq_some_iff.1 b_size
  go_enter Try.func107, Try.ntmps107
  go_wp2
  rw [Lib.run_neq_ptr_same w _ Try.underlying101 hj]
  go_wp2
  go_end0
  exact ⟨rfl, rfl⟩

set_option maxHeartbeats 1000000 in
set_option maxRecDepth 100000 in
theorem b_copyCheck_fresh (b : Nat) (w : World) (h0 : w.cell? ⟨b, 0, none⟩ = some (.pointer none)) (hsh : w.shape? b = some (104, 2)) (hfz : w.frozen? ⟨b, 0, none⟩ = false) :
    Calls Try.prog 107 #[.pointer (some ⟨b, 0, none⟩)] w fun e w' => e = .returned (.tuple #[]) ∧ w' = w.setCell ⟨b, 0, none⟩ (.pointer (some ⟨b, 0, none⟩)) := by
  obtain ⟨j, hj, hjs⟩ := Option.map_eq_some_iff.1 b_size
  go_enter Try.func107, Try.ntmps107
  go_wp2
  rw [Lib.run_to_unsafe w ⟨b, 0, none⟩ Try.underlying101 Try.underlying130 hj (by rw [hjs]; decide) hsh (Nat.zero_lt_succ 1)]
  simp only [Result.andThen]
  rw [Oper.upon_value]
  go_wp2
  rw [run_callFunc_extern Try.func114 (by kernel_rfl) (by kernel_rfl) (by kernel_rfl) (e := Extern.AbiNoEscape.same) (by kernel_rfl)]
  rw [Lib.run_noEscape]
  simp only [Result.andThen]
  rw [Oper.upon_value]
  go_wp2
  rw [Lib.run_from_unsafe w ⟨b, 0, none⟩ Try.underlying130 Try.underlying101 hj hsh b_lies]
  simp only [Result.andThen]
  rw [Oper.upon_value]
  go_wp2
  go_end0
  exact ⟨rfl, rfl⟩

theorem b_copyCheck (B b : Nat) (bs : List Value) (w : World) (h : Lib.IsBuilderF 104 5 B b bs w) :
    Calls Try.prog 107 #[.pointer (some ⟨b, 0, none⟩)] w fun e w' => e = .returned (.tuple #[]) ∧ (Lib.BuilderAtF 104 5 B b (.pointer (some ⟨b, 0, none⟩)) bs w' ∧ Below B w w' ∧ Lib.OthersKept 5 (some b) w w') := by
  rcases h with h | h
  · refine (b_copyCheck_fresh b w h.cell0 h.shape h.frozen0).mono ?_
    rintro e w' ⟨rfl, rfl⟩
    exact ⟨rfl, h.used _, (Below.refl B w).setCell (p := ⟨b, 0, none⟩) h.1 _, (Lib.OthersKept.refl _ _ w).setCell ⟨b, 0, none⟩ rfl _⟩
  · refine (b_copyCheck_used b w h.cell0).mono ?_
    rintro e w' ⟨rfl, rfl⟩
    exact ⟨rfl, h, Below.refl B _, Lib.OthersKept.refl _ _ _⟩

set_option maxHeartbeats 2000000 in
set_option maxRecDepth 100000 in
theorem b_WriteString (B b : Nat) (bs : List Value) (s : ByteArray) (w : World) (h : Lib.IsBuilderF 104 5 B b bs w) (hlen : bs.length + s.size ≤ 140737488355328) (hBw : B ≤ w.heap.size) :
    Calls Try.prog 85 #[.pointer (some ⟨b, 0, none⟩), .string s] w fun e w' => e = .returned (.tuple #[.int .i64 s.size, .nilIface]) ∧ (Lib.BuilderAtF 104 5 B b (.pointer (some ⟨b, 0, none⟩)) (bs ++ Lib.strCells s) w' ∧ Below B w w' ∧ Lib.OthersKept 5 (some b) w w') := by
  obtain ⟨i0, hi, hz0, hz1, hz2⟩ := info_parts b_byte
  go_enter Try.func85, Try.ntmps85
  go_wp2_with (go_at_call 107; refine (b_copyCheck B b bs _ h).mono ?_)
  rintro e w1 ⟨rfl, h1, hb1, hk1⟩
  obtain ⟨hB, v, hbk, hown, hne⟩ := h1
  have c0 : w1.cell? ⟨b, 0, none⟩ = some (.pointer (some ⟨b, 0, none⟩)) := by rw [Lib.cell_of_heap hbk]; rfl
  have c1 : w1.cell? ⟨b, 1, none⟩ = some v := by rw [Lib.cell_of_heap hbk]; rfl
  go_wp2_with (at_builtin; refine Lib.wpList_append_own_stringF _ rfl _ _ 102 9 rfl B 5 i0 Try.underlying102 Try.underlying9 hi hz0 hz1 hz2 _ _ _ rfl hown s rfl ?c3 ?c4 ?c5 ?_)
  case c3 => unfold maxLen; omega
  case c4 => omega
  case c5 => have := hb1.size; omega
  intro v' w2 hown' hgrow _
  have hlt : b < w1.heap.size := by
    rcases Nat.lt_or_ge b w1.heap.size with h' | h'
    · exact h'
    · simp [Array.getElem?_eq_none h'] at hbk
  have hb2 : w2.heap[b]? = some (.cells #[.pointer (some ⟨b, 0, none⟩), v] 104 (0, 0)) := by
    rw [hgrow.block b hlt (fun e => hne e.symm)]
    exact hbk
  have d0 : w2.cell? ⟨b, 0, none⟩ = some (.pointer (some ⟨b, 0, none⟩)) := by rw [Lib.cell_of_heap hb2]; rfl
  have d1 : w2.cell? ⟨b, 1, none⟩ = some v := by rw [Lib.cell_of_heap hb2]; rfl
  have f1 : w2.frozen? ⟨b, 1, none⟩ = false := Lib.frozen_of_heap hb2 1
  obtain ⟨ao, n', cap, rfl⟩ : ∃ ao n' cap, v' = .slice ao n' cap := by
    rcases hown'.2 with ⟨hv, _⟩ | ⟨g, cap, cur, fz, hv, _⟩
    · exact ⟨_, _, _, hv⟩
    · exact ⟨_, _, _, hv⟩
  go_wp2
  go_ret2
  refine ⟨rfl, ?_, ?_, (hk1.grown hgrow (Lib.ownsRowF_kind hown)).setCell ⟨b, 1, none⟩ rfl _⟩
  · exact Lib.BuilderAtF.put (T := 104) (e := 5) hB hb2 (bs' := bs ++ Lib.strCells s) (by simpa [Lib.strCells_length] using hown') (by decide)
  · exact (hb1.grown hgrow (by have := hb1.size; omega) (fun k hk => (hown.lt k hk).1)).setCell (p := ⟨b, 1, none⟩) hB _

def bRen : Ren where
  f := fun | 169 => 86 | n => n
  t := fun | 0 => 0 | 3 => 3 | 9 => 9 | 37 => 102 | 70 => 101 | 72 => 104 | 127 => 127 | 5 => 5 | n => n
  g := fun n => n
theorem bLays : Lays.n169 Try.prog bRen := {
  mixed := by kernel_rfl
  f169 := Try.func86.trans (congrArg some (by kernel_rfl))
  t0 := Try.underlying0
  a0 := Try.isAgg0
  z0 := Try.sizeOf0
  v0 := Try.zeroValue0
  t3 := Try.underlying3
  a3 := Try.isAgg3
  z3 := Try.sizeOf3
  v3 := Try.zeroValue3
  t9 := Try.underlying9
  a9 := Try.isAgg9
  z9 := Try.sizeOf9
  v9 := Try.zeroValue9
  t37 := Try.underlying102
  a37 := Try.isAgg102
  z37 := Try.sizeOf102
  v37 := Try.zeroValue102
  t70 := Try.underlying101
  a70 := Try.isAgg101
  z70 := Try.sizeOf101
  v70 := Try.zeroValue101
  t72 := Try.underlying104
  a72 := Try.isAgg104
  z72 := Try.sizeOf104
  v72 := Try.zeroValue104
  t127 := Try.underlying127
  a127 := Try.isAgg127
  z127 := Try.sizeOf127
  v127 := Try.zeroValue127
}
theorem bExtra : Builder.Extra Try.prog bRen := {
  sizeBuilder := by kernel_rfl
  liesBuilder := by kernel_rfl
  t5 := Try.underlying5
  a5 := Try.isAgg5
  z5 := Try.sizeOf5
  v5 := Try.zeroValue5
  infoByte := by kernel_rfl
  cellsByte := by kernel_rfl
  sizeByte := by kernel_rfl
  neB5 := by decide
}
theorem b_String (B b : Nat) (l : List UInt8) (w : World) (h : Lib.IsBuilderF 104 5 B b (Lib.byteCells l) w) (hBw : B ≤ w.heap.size) :
    Calls Try.prog 86 #[.pointer (some ⟨b, 0, none⟩)] w fun e w' => e = .returned (.string ⟨l.toArray⟩) ∧ (Lib.IsBuilderF 104 5 B b (Lib.byteCells l) w' ∧ Below B w w' ∧ Lib.OthersKept 5 (some b) w w') :=
  Any.Builder_String_any_k bLays bExtra B b l w h hBw
end Bow
/- W24: leaftext.Apply, by the kit's own tactics. -/
namespace Bow
open Go Go.Proofs Go.RowKit

theorem pieces_flat (l : List PieceT) : ∀ x ∈ l.map pieceV, flatL x.cells = true := by
  intro x hx
  obtain ⟨p, _, rfl⟩ := List.mem_map.1 hx
  rfl

theorem c_right (l : List PieceT) (hl : l.length ≤ 1000000) (hpl : ∀ p ∈ l, p.put.length ≤ 1000000000) (v : Value) (w : World) (h : Rep w β0 [] (piecesV l) v) :
    Calls Try.prog 71 #[v] w fun e w' => e = .returned (.bool (rightP l)) ∧ Below w.heap.size w w' := by
  refine calls_of_pureQ (β := β0) (H := []) (w_Right l hl hpl) (fun x u w' β' H' hx hu => ?_) rfl rfl ?_
  · subst hx
    exact rep_bool (m := []) hu
  · intro j x u hj hu
    cases j with
    | zero => simp at hj hu; subst hj hu; exact h
    | succ j => simp at hj
theorem c_extent (l : List PieceT) (hl : l.length ≤ 4096) (hok : ∀ p ∈ l, p.Ok) (v : Value) (w : World) (h : Rep w β0 [] (piecesV l) v) :
    Calls Try.prog 84 #[v] w fun e w' => e = .returned (.int .i64 (extentP l)) ∧ Below w.heap.size w w' := by
  refine calls_of_pureQ (β := β0) (H := []) (w_extent l hl hok) (fun x u w' β' H' hx hu => ?_) rfl rfl ?_
  · subst hx
    exact rep_int (m := []) hu
  · intro j x u hj hu
    cases j with
    | zero => simp at hj hu; subst hj hu; exact h
    | succ j => simp at hj

theorem rep_below {w w' : World} {x : V} {v : Value} (h : Rep w β0 [] x v) (hb : Below w.heap.size w w') : Rep w' β0 [] x v := h.mono (Fr.of_below hb)

theorem ba_of (x : ByteArray) (y : List UInt8) (h : x.data.toList = y) : x = ⟨y.toArray⟩ := by
  obtain ⟨⟨l⟩⟩ := x
  subst h
  rfl
theorem hidU {p : Prop} (h : p) : Hid p := h

set_option maxHeartbeats 4000000 in
set_option maxRecDepth 1000000 in
theorem edit_walk (S : ByteArray) (l : List PieceT) (ht : S.size ≤ 1000000000) (hl : l.length ≤ 1000000) (hpl : ∀ p ∈ l, p.put.length ≤ 1000000000) (ao : Option Addr) (cap : Nat) (w : World) (hrep : Rep w β0 [] (piecesV l) (.slice ao l.length cap)) :
    Calls Try.prog 50 #[.string S, .slice ao l.length cap] w fun e w' => e = .returned (.tuple #[.string ⟨(applyE S.data.toList l).1.toArray⟩, .int .i64 (applyE S.data.toList l).2]) ∧ Below w.heap.size w w' := by
  go_enter Try.func50, Try.ntmps50
  have cR := c_right l hl hpl _ w hrep
  go_wp2_with (go_at_call 71; refine cR.mono ?_)
  rintro e w1 ⟨rfl, hb1⟩
  clear cR
  cases hr : rightP l with
  | false =>
    go_wp2
    go_ret2
    refine ⟨?_, hb1⟩
    unfold applyE
    rw [hr]
    rfl
  | true =>
    obtain ⟨r1, r2, r3⟩ := rightP_ok hr
    have cE := c_extent l r1 r2 _ w1 (rep_below hrep hb1)
    go_wp2_with (go_at_call 84; refine cE.mono ?_)
    rintro e w2 ⟨rfl, hb2⟩
    clear cE
    have hb12 : Below w.heap.size w w2 := hb1.trans (hb2.mono hb1.size)
    by_cases hx : (S.size : Int) < extentP l
    · go_wp2
      go_ret2
      refine ⟨?_, hb12⟩
      unfold applyE
      rw [hr, decide_eq_true (by simpa using hx)]
      rfl
    · go_wp2
      go_loopw [0, 21] (fun text i wr => ∃ (k : Nat) (T acc : List UInt8), k ≤ l.length ∧ text = .string ⟨T.toArray⟩ ∧ i = .int .i64 k ∧ Lib.IsBuilderF 104 5 w2.heap.size w2.heap.size (Lib.byteCells acc) wr ∧ Below w2.heap.size w2 wr ∧ acc ++ editP T (l.drop k) = editP S.data.toList l ∧ extentP (l.drop k) ≤ T.length ∧ acc.length + T.length + putsLen (l.drop k) ≤ S.data.toList.length + putsLen l) (fun _ i _ => l.length - (intOf i).toNat)
      case atStart =>
        refine ⟨0, S.data.toList, [], Nat.zero_le _, rfl, rfl, Lib.IsBuilderF.of (Lib.fresh_isBuilder _ _ w2), (Below.refl _ _).alloc (Nat.le_refl _) _, rfl, ?_, ?_⟩
        · simpa using hx
        · simp
      case round =>
        obtain ⟨k, T, acc, hk, rfl, rfl, hI, hbw, hacc, hext, hsz⟩ := hrel
        by_cases hlt : k < l.length
        · obtain ⟨a, cap', hv, hcap, hmax, hc⟩ := sl_cells (rep_below (rep_below hrep hb12) hbw)
          obtain ⟨e1, e2, e3⟩ : ao = a ∧ l.length = (l.map pieceV).length ∧ cap = cap' := by injection hv with e1 e2 e3; exact ⟨e1, e2, e3⟩
          obtain ⟨ad, rfl, hblk, hc⟩ := hc (by intro h; simp at h; subst h; simp at hlt)
          subst e1
          have hg : (l.map pieceV)[k]? = some (pieceV l[k]) := by simp [hlt]
          obtain ⟨u0, h0, q0⟩ := hc k _ 0 _ hg rfl
          obtain ⟨u1, h1, q1⟩ := hc k _ 1 _ hg rfl
          obtain ⟨u2, h2, q2⟩ := hc k _ 2 _ hg rfl
          cases rep_int (m := []) q0
          cases rep_int (m := []) q1
          obtain ⟨q2, hput⟩ := rep_str (m := []) q2
          subst q2
          rw [← add_add'] at h1 h2
          have h0 : wr.cell? (ad.add (k * 3)) = some (.int .i64 l[k].keep) := h0
          have h1 : wr.cell? ⟨(ad.add (k * 3)).block, (ad.add (k * 3)).off + 1, none⟩ = some (.int .i64 l[k].drop) := h1
          have h2 : wr.cell? ⟨(ad.add (k * 3)).block, (ad.add (k * 3)).off + 2, none⟩ = some (.string ⟨l[k].put.toArray⟩) := h2
          clear q0 q1 hc hg hcap hmax hv e2 e3
          have hd : l.drop k = l[k] :: l.drop (k + 1) := drop_cons hlt
          have hok := r2 l[k] (List.getElem_mem hlt)
          have k0 := hok.k0; have k1 := hok.k1; have d0 := hok.d0; have d1 := hok.d1
          have hen : 0 ≤ extentP (l.drop (k + 1)) := extentP_nonneg fun q hq => r2 q (List.mem_of_mem_drop hq)
          rw [hd, extentP_cons] at hext
          have hpt : putsLen (l[k] :: l.drop (k + 1)) = l[k].put.length + putsLen (l.drop (k + 1)) := rfl
          rw [hd, hpt] at hsz
          rw [hd] at hacc
          have hacc := hidU hacc
          have hN := hidU hsz
          clear hsz
          obtain ⟨p, hp⟩ : ∃ p, l[k] = p := ⟨_, rfl⟩
          simp only [hp] at *
          have hsT : (⟨T.toArray⟩ : ByteArray).size = T.length := by simp [ByteArray.size]
          have hI1 := Lib.IsBuilderF.alloc hI (.cells #[.int .i64 p.keep, .int .i64 p.drop, .string ⟨p.put.toArray⟩] 41)
          have hw1 : Below w2.heap.size w2 (wr.alloc (.cells #[.int .i64 p.keep, .int .i64 p.drop, .string ⟨p.put.toArray⟩] 41)) := hbw.alloc hbw.size _
          have hbl : w2.heap.size < wr.heap.size := by
            have : ∀ q, Lib.BuilderAtF 104 5 w2.heap.size w2.heap.size q (Lib.byteCells acc) wr → w2.heap.size < wr.heap.size := by
              rintro q ⟨_, v, hbk, _⟩
              exact (Array.getElem?_eq_some_iff.1 hbk).1
            rcases hI with h | h
            · exact this _ h
            · exact this _ h
          have hbox : (wr.alloc (.cells #[.int .i64 p.keep, .int .i64 p.drop, .string ⟨p.put.toArray⟩] 41)).heap[wr.heap.size]? = some (.cells #[.int .i64 p.keep, .int .i64 p.drop, .string ⟨p.put.toArray⟩] 41 (0, 0)) := heap_alloc_new wr _
          have hne : ∀ (c : Array Value) (fz : Nat × Nat), (Obj.cells #[.int .i64 p.keep, .int .i64 p.drop, .string ⟨p.put.toArray⟩] 41 (0, 0)) ≠ Obj.cells c 5 fz := fun c fz h => by
            injection h with h1 h2 h3
            exact absurd h2 (by decide)
          have hne := hidU hne
          have hI1 := hidU hI1
          have hN2 := hN.out
          have hx1 : (ByteArray.extract ⟨T.toArray⟩ 0 p.keep.toNat).data.toList = T.take p.keep.toNat := by rw [Lib.extract_data]; simp
          have hx1s : (ByteArray.extract ⟨T.toArray⟩ 0 p.keep.toNat).size = p.keep.toNat := by
            rw [Lib.size_eq, hx1, List.length_take]
            omega
          have hsz' : S.data.toList.length + putsLen l ≤ 1000000000 + 1048576 := by rw [← Lib.size_eq]; omega
          have hsz'' : acc.length + (T.length + (p.put.length + putsLen (l.drop (k + 1)))) ≤ 1000000000 + 1048576 := by omega
          have hsz'' := hidU hsz''
          clear hN2 hsz'
          go_wp2_with fail
          refine (b_WriteString w2.heap.size w2.heap.size _ _ _ hI1.out (by rw [Lib.byteCells_length, hx1s]; have := hsz''.out; omega) (Nat.le_trans (Nat.le_of_lt hbl) (by simp))).mono ?_
          rintro e W1 ⟨rfl, hA1, b1, q1⟩
          have hbox1 := q1 _ _ hbox (by simp; omega) hne.out
          have c2 : W1.cell? ⟨wr.heap.size, 2, none⟩ = some (.string ⟨p.put.toArray⟩) := by rw [Lib.cell_of_heap hbox1]; rfl
          have hsz1 : w2.heap.size ≤ W1.heap.size := Nat.le_trans hw1.size b1.size
          have hA1 : Lib.IsBuilderF 104 5 w2.heap.size w2.heap.size _ W1 := .inr hA1
          have hA1 := hidU hA1
          have hbox1 := hidU hbox1
          have hq : Below w2.heap.size w2 W1 := hw1.trans b1
          clear b1 q1 hw1 hbox
          go_wp2_with fail
          refine (b_WriteString w2.heap.size w2.heap.size _ _ _ hA1.out (by rw [List.length_append, Lib.byteCells_length, Lib.strCells_eq, Lib.byteCells_length, hx1, List.length_take, Lib.size_eq]; have := hsz''.out; simp only []; omega) hsz1).mono ?_
          rintro e W2 ⟨rfl, hA2, b2, q2⟩
          have hbox2 := q2 _ _ hbox1.out (by simp; omega) hne.out
          have c3 : W2.cell? ⟨wr.heap.size, 0, none⟩ = some (.int .i64 p.keep) := by rw [Lib.cell_of_heap hbox2]; rfl
          have c4 : W2.cell? ⟨wr.heap.size, 1, none⟩ = some (.int .i64 p.drop) := by rw [Lib.cell_of_heap hbox2]; rfl
          have hA2 : Lib.IsBuilderF 104 5 w2.heap.size w2.heap.size _ W2 := .inr hA2
          have hA2 := hidU hA2
          have hq2 : Below w2.heap.size w2 W2 := hq.trans b2
          clear b2 q2 hbox2 c2
          go_wp2_with fail
          refine ⟨⟨k + 1, T.drop (p.keep + p.drop).toNat, acc ++ T.take p.keep.toNat ++ p.put, hlt, ?_, rfl, ?_, hq2, ?_, ?_, ?_⟩, ?_⟩
          · congr 1
            refine ba_of _ _ ?_
            rw [Lib.extract_data]
            exact List.take_of_length_le (by simp)
          · have := hA2.out
            rw [Lib.strCells_eq, Lib.strCells_eq, hx1, ← Lib.byteCells_append, ← Lib.byteCells_append] at this
            exact this
          · rw [← hacc.out]
            show _ = acc ++ editP T (p :: l.drop (k + 1))
            rw [editP]
            simp only [List.append_assoc]
          · rw [List.length_drop]
            omega
          · have := hN.out
            simp only [List.length_append, List.length_take, List.length_drop]
            omega
          · show l.length - (k + 1 : Int).toNat < l.length - (k : Int).toNat
            omega
        · have hke : k = l.length := by omega
          have hd : l.drop k = [] := List.drop_eq_nil_of_le (by omega)
          rw [hd] at hacc hsz hext
          have hacc : acc ++ T = editP S.data.toList l := hacc
          have hsz : acc.length + T.length + 0 ≤ S.data.toList.length + putsLen l := hsz
          have hS : S.data.toList.length ≤ 1000000000 := by rw [← Lib.size_eq]; omega
          have hI := hidU hI
          have hacc := hidU hacc
          have hN : Hid (acc.length + T.length ≤ 1000000000 + 1048576) := hidU (by omega)
          clear hsz hext hS
          go_wp2_with fail
          refine (b_WriteString w2.heap.size w2.heap.size _ _ _ hI.out (by rw [Lib.byteCells_length, Lib.size_eq]; have := hN.out; simp only []; omega) hbw.size).mono ?_
          rintro e W1 ⟨rfl, hA1, b1, q1⟩
          have hq : Below w2.heap.size w2 W1 := hbw.trans b1
          have hA1 : Lib.IsBuilderF 104 5 w2.heap.size w2.heap.size _ W1 := .inr hA1
          rw [Lib.strCells_eq, ← Lib.byteCells_append] at hA1
          have hA1 := hidU hA1
          clear b1 q1
          go_wp2_with fail
          refine (b_String w2.heap.size w2.heap.size _ _ hA1.out hq.size).mono ?_
          rintro e W2 ⟨rfl, _, b2, _⟩
          have hq2 : Below w2.heap.size w2 W2 := hq.trans b2
          clear b2
          go_wp2
          go_ret2
          refine ⟨?_, hb12.trans (hq2.mono hb12.size)⟩
          have : applyE S.data.toList l = (editP S.data.toList l, 0) := by
            unfold applyE
            rw [hr, decide_eq_false (by rw [← Lib.size_eq]; simpa using hx)]
            rfl
          rw [this, ← hacc.out]
          rfl

theorem editP_length : ∀ (t : List UInt8) (l : List PieceT), (∀ p ∈ l, p.Ok) → (editP t l).length ≤ t.length + putsLen l
  | t, [], _ => Nat.le_refl _
  | t, p :: l, h => by
    have ih := editP_length (t.drop (p.keep + p.drop).toNat) l fun q hq => h q (List.mem_cons_of_mem _ hq)
    have hp := h p List.mem_cons_self
    have := hp.k0
    have := hp.d0
    have e : putsLen (p :: l) = p.put.length + putsLen l := rfl
    rw [editP, e]
    rw [List.length_drop] at ih
    simp only [List.length_append, List.length_take]
    omega
theorem applyE_len (t : List UInt8) (l : List PieceT) : (applyE t l).1.length ≤ t.length + 1048576 := by
  unfold applyE
  cases hr : rightP l with
  | false => simp
  | true =>
    obtain ⟨r1, r2, r3⟩ := rightP_ok hr
    cases decide ((t.length : Int) < extentP l) with
    | false =>
      have := editP_length t l r2
      simp only [Bool.not_true, cond_false]
      omega
    | true => simp

theorem w_edit (t : List UInt8) (l : List PieceT) (ht : t.length ≤ 1000000000) (hl : l.length ≤ 1000000) (hpl : ∀ p ∈ l, p.put.length ≤ 1000000000) :
    Pure Try.prog 50 [.str t, piecesV l] (fun x => x = strE (applyE t l)) := by
  refine pure_of_calls ?_ rfl fun w β H vals hv hr => ?_
  · exact ⟨_, Try.func50, rfl, rfl⟩
  · obtain ⟨v0, v1, rfl⟩ : ∃ v0 v1, vals = #[v0, v1] := by
      obtain ⟨l⟩ := vals
      match l, hv with
      | [v0, v1], _ => exact ⟨v0, v1, rfl⟩
    have h0 := hr 0 _ v0 rfl rfl
    have h1 := hr 1 _ v1 rfl rfl
    obtain ⟨rfl, _⟩ := rep_str (m := []) h0
    have h1 := Rep.flat_sl (pieces_flat l) h1
    obtain ⟨a, cap, rfl, _⟩ := sl_cells h1
    have e : (l.map pieceV).length = l.length := by simp
    rw [e] at h1 ⊢
    refine (edit_walk ⟨t.toArray⟩ l (by simpa [ByteArray.size] using ht) hl hpl a cap w h1).mono ?_
    rintro e w' ⟨rfl, hb⟩
    have hm := applyE_len t l
    have hS : (⟨t.toArray⟩ : ByteArray).data.toList = t := rfl
    rw [hS]
    refine ⟨hb, strE (applyE t l), _, rfl, rfl, rfl, .tup _ _ rfl fun j c v hc hv => ?_⟩
    match j, hc, hv with
    | 0, hc, hv =>
      simp at hc hv
      subst hc hv
      exact .str _ (by unfold maxLen; omega)
    | 1, hc, hv =>
      simp at hc hv
      subst hc hv
      exact .int _ _
    | j + 2, hc, hv => simp at hc
end Bow
/- W25: which operations are valid. -/
namespace Bow
open Go Go.Proofs

theorem text_le_weight (t : Tree) : t.text.length < t.weight := by have := weight_eq t; omega
set_option maxRecDepth 100000 in
theorem w_valid (t : Tree) (o : OpT) (ht : t.weight ≤ 1000000) (ho : o.Ok) : Pure Try.prog 40 [nodeV t, opV o] (fun x => x = .int .i64 (validE t o)) := by
  have hp := ho.lt.path
  have hto := ho.lt.to
  have hpc := ho.lt.pieces
  have hpl := ho.each
  refine pure_fn 300 Try.func40 rfl rfl rfl fun B => ?_
  show CallThen _ _ _ _ _ _
  refine call_pure (w_At t o.path hp) rfl ?_
  rintro x rfl
  cases hat : atT t o.path with
  | none =>
    repeat' first
      | (refine ⟨fun _ => go 300 ?_, fun _ => go 300 ?_⟩)
      | (refine ⟨trivial, rfl, rfl, rfl, ?_⟩)
      | fail
    all_goals (show V.int _ _ = _; simp_all [validE]; done)
  | some x =>
    have hxw := atT_weight hat
    have hxt := text_le_weight x
    repeat' first
      | (refine ⟨fun _ => go 300 ?_, fun _ => go 300 ?_⟩)
      | (show CallThen _ _ _ _ _ _; refine call_pure (w_into x o.at_) rfl ?_; rintro z rfl)
      | (show CallThen _ _ _ _ _ _; refine call_pure (w_pathWithin o.path o.to hp) rfl ?_; rintro z rfl)
      | (show CallThen _ _ _ _ _ _; refine call_pure (w_edit x.text o.pieces (by omega) (by omega) hpl) rfl ?_; rintro z rfl)
      | (show CallThen _ _ _ _ _ _; refine call_pure (w_At t o.to hto) rfl ?_; rintro z rfl; cases hat2 : atT t o.to with
          | none => exact ⟨trivial, rfl, rfl, rfl, (by show V.int _ _ = _; simp_all [validE])⟩
          | some y =>
            show CallThen _ _ _ _ _ _
            refine call_pure (w_into y o.at_) rfl ?_
            rintro z rfl
            exact ⟨trivial, rfl, rfl, rfl, (by show V.int _ _ = _; simp_all [validE])⟩)
      | (refine ⟨trivial, rfl, rfl, rfl, ?_⟩)
      | fail
    all_goals (show V.int _ _ = _; simp_all [validE])

set_option maxRecDepth 100000 in
theorem w_Valid (t : Tree) (o : OpT) (ht : t.weight ≤ 1000000) (ho : o.Ok) : Pure Try.prog 21 [nodeV t, opV o] (fun x => x = .int .i64 (ValidE t o)) := by
  refine pure_fn 300 Try.func21 rfl rfl rfl fun B => ?_
  show CallThen _ _ _ _ _ _
  refine call_pure (w_RightT t ht) rfl ?_
  rintro x rfl
  refine ⟨fun g1 => go 300 ?_, fun g1 => go 300 ?_⟩
  · exact ⟨trivial, rfl, rfl, rfl, by unfold ValidE; rw [g1]; rfl⟩
  show CallThen _ _ _ _ _ _
  refine call_pure (w_Formed o ho.lt ho.each) rfl ?_
  rintro x rfl
  refine ⟨fun g2 => go 300 ?_, fun g2 => go 300 ?_⟩
  · exact ⟨trivial, rfl, rfl, rfl, by unfold ValidE; rw [g1, g2]; rfl⟩
  show CallThen _ _ _ _ _ _
  refine call_pure (w_valid t o ht ho) rfl ?_
  rintro x rfl
  exact ⟨trivial, rfl, rfl, rfl, by unfold ValidE; rw [g1, g2]; rfl⟩

end Bow
/- W26: what becomes of a tree. -/
namespace Bow
open Go Go.Proofs

theorem w_apply2 (o : OpT) (y : Tree) : Fun Try.prog 48 [some (.box (nodeV y).cells)] [.ptr (.loc 0) 0, .iptr (opV o).cells 0] (fun _ T => T = [some (.box (nodeV (relabelT o.label y)).cells)]) := by
  refine fun_fn 100 Try.func48 rfl rfl rfl fun imps B hi => ?_
  obtain ⟨r, rfl⟩ := List.length_eq_one_iff.1 hi
  refine ⟨trivial, rfl, rfl, ?_⟩
  cases y
  rfl
set_option maxRecDepth 100000 in
theorem w_apply3 (o : OpT) (y : Tree) (ho : o.Ok) (hy : y.weight ≤ 1000000) : Fun Try.prog 49 [some (.box (nodeV y).cells)] [.ptr (.loc 0) 0, .iptr (opV o).cells 0] (fun _ T => T = [some (.box (nodeV (retextT o.pieces y)).cells)]) := by
  refine fun_fn 100 Try.func49 rfl rfl rfl fun imps B hi => ?_
  obtain ⟨r, rfl⟩ := List.length_eq_one_iff.1 hi
  have := text_le_weight y
  show Goes _ _ _ _
  refine goes_draw 100 ⟨_, w_edit y.text o.pieces (by omega) ho.lt.pieces ho.each, rfl, ?_⟩
  refine ⟨by kernel_rfl, ?_⟩
  refine ⟨trivial, rfl, rfl, ?_⟩
  cases y
  rfl
/-- What an operation's walk asks: it is formed, and valid on the tree; and what it makes of it. -/
inductive Does (t : Tree) (o : OpT) : Tree → Prop
  | ins (y) (hk : o.kind = 1) (hy : atT t o.path = some y) (h0 : 0 ≤ o.at_) (h1 : o.at_ ≤ y.subs.length) : Does t o (changeT (insT o.at_ (freshT o)) t o.path)
  | del (x) (hk : o.kind = 2) (hne : o.path ≠ []) (hx : atT t o.path = some x) : Does t o (changeT (delT (lastP o.path)) t o.path.dropLast)
  | mov (x z) (hk : o.kind = 3) (hne : o.path ≠ []) (hx : atT t o.path = some x) (hw : within o.path o.to = false) (hz : atT t o.to = some z) (h0 : 0 ≤ o.at_) (h1 : o.at_ ≤ z.subs.length) : Does t o (moveT x t o)
  | lab (y) (hk : o.kind = 5) (hy : atT t o.path = some y) : Does t o (changeT (relabelT o.label) t o.path)
  | edt (y) (hk : o.kind = 6) (hy : atT t o.path = some y) : Does t o (changeT (retextT o.pieces) t o.path)

theorem wk_fresh (o : OpT) : Wk (.agg [.int .u64 o.id, .bool o.leaf, .str o.label, .nilsl, .str [], .nilsl]) (nodeV (freshT o)) :=
  Wk.agg ⟨.refl _, .refl _, .refl _, Wk.nil 2, .refl _, Wk.nil 6, trivial⟩

set_option maxHeartbeats 1000000 in
set_option maxRecDepth 100000 in
theorem w_apply_k (t : Tree) (o : OpT) (m : Tree) (ht : t.weight ≤ 900000) (ho : o.Ok) (hto : o.kind = 3 → ∀ x ∈ o.to, inI x) (h : Does t o m) : Pure Try.prog 24 [nodeV t, opV o] (fun x => x = nodeV m) := by
  have hp := ho.lt.path
  have hpt := ho.lt.to
  refine pure_fn 300 Try.func24 rfl rfl rfl fun B => ?_
  cases h with
  | ins y hk hy h0 h1 =>
    refine ⟨fun g1 => go 300 ?_, fun g1 => absurd hk (ne_of g1)⟩
    show CallThen _ _ _ _ _ _
    refine call_pure (pure_args (w_insert t (freshT o) y o.path o.at_ hp ht hy h0 h1) ⟨.refl _, .refl _, .refl _, wk_fresh o, trivial⟩ rfl rfl) rfl ?_
    rintro z rfl
    exact ⟨trivial, rfl, rfl, rfl, rfl⟩
  | del x hk hne hx =>
    obtain ⟨y, y1, y2, y3, y4⟩ := at_parent hne hx
    refine ⟨fun g1 => absurd (hk.symm.trans (eq_of g1)) (by decide), fun g1 => go 300 ?_⟩
    refine ⟨fun g1 => go 300 ?_, fun g1 => absurd hk (ne_of g1)⟩
    show CallThen _ _ _ _ _ _
    refine call_pure (w_remove t y o.path hp hne ht y1 y2 y3) rfl ?_
    rintro z rfl
    exact ⟨trivial, rfl, rfl, rfl, by rw [lastP_eq]; rfl⟩
  | mov x z hk hne hx hw hz h0 h1 =>
    obtain ⟨y, y1, y2, y3, y4⟩ := at_parent hne hx
    refine ⟨fun g1 => absurd (hk.symm.trans (eq_of g1)) (by decide), fun g1 => go 300 ?_⟩
    refine ⟨fun g1 => absurd (hk.symm.trans (eq_of g1)) (by decide), fun g1 => go 300 ?_⟩
    refine ⟨fun g1 => go 300 ?_, fun g1 => absurd hk (ne_of g1)⟩
    show CallThen _ _ _ _ _ _
    refine call_pure (w_At t o.path hp) rfl ?_
    rintro _ rfl
    rw [hx]
    have hzl := subs_le_weight z
    have hzw := atT_weight hz
    show CallThen _ _ _ _ _ _
    refine call_pure (w_landing o.path o.to o.at_ hp hpt hne ⟨by omega, by omega⟩ (hto hk) y2) rfl ?_
    rintro _ rfl
    show Goes _ _ _ _
    have hlast := lastP_eq hne
    have hw' : within (o.path.dropLast ++ [lastP o.path]) o.to = false := by rw [← hlast, List.dropLast_concat_getLast]; exact hw
    obtain ⟨z', z1, z2, z3⟩ := land_at (by rw [← hlast]; exact y2) h0 o.path.dropLast o.to t y z y1 (by rw [← hlast]; exact y3) hw' hz h1
    have hmw := change_weight (del_weight (lastP o.path)) o.path.dropLast t
    have hrem := w_remove t y o.path hp hne ht y1 y2 y3
    have hins := w_insert (changeT (delT (lastP o.path)) t o.path.dropLast) x z' (landT o.path.dropLast (lastP o.path) o.to o.at_).1 (landT o.path.dropLast (lastP o.path) o.to o.at_).2 (by rw [land_len]; exact hpt) (by omega) z1 z2 z3
    rw [← hlast] at hins
    refine goes_draw 300 ⟨_, hrem, rfl, _, hins, rfl, ?_⟩
    refine ⟨by kernel_rfl, ?_⟩
    refine ⟨trivial, rfl, rfl, rfl, ?_⟩
    unfold moveT
    rw [← hlast]
    rfl
  | lab y hk hy =>
    refine ⟨fun g1 => absurd (hk.symm.trans (eq_of g1)) (by decide), fun g1 => go 300 ?_⟩
    refine ⟨fun g1 => absurd (hk.symm.trans (eq_of g1)) (by decide), fun g1 => go 300 ?_⟩
    refine ⟨fun g1 => absurd (hk.symm.trans (eq_of g1)) (by decide), fun g1 => go 300 ?_⟩
    refine ⟨fun g1 => absurd (hk.symm.trans (eq_of g1)) (by decide), fun g1 => go 300 ?_⟩
    refine ⟨fun g1 => go 300 ?_, fun g1 => absurd hk (ne_of g1)⟩
    show CallThen _ _ _ _ _ _
    refine call_freeze 1 rfl rfl ?_
    refine call_pure (w_change1 48 (opV o).cells (relabelT o.label) y (w_apply2 o y) o.path t hp (by omega) hy) rfl ?_
    rintro z rfl
    exact ⟨trivial, rfl, rfl, rfl, rfl⟩
  | edt y hk hy =>
    have hyw := atT_weight hy
    refine ⟨fun g1 => absurd (hk.symm.trans (eq_of g1)) (by decide), fun g1 => go 300 ?_⟩
    refine ⟨fun g1 => absurd (hk.symm.trans (eq_of g1)) (by decide), fun g1 => go 300 ?_⟩
    refine ⟨fun g1 => absurd (hk.symm.trans (eq_of g1)) (by decide), fun g1 => go 300 ?_⟩
    refine ⟨fun g1 => absurd (hk.symm.trans (eq_of g1)) (by decide), fun g1 => go 300 ?_⟩
    refine ⟨fun g1 => absurd (hk.symm.trans (eq_of g1)) (by decide), fun g1 => go 300 ?_⟩
    show CallThen _ _ _ _ _ _
    refine call_freeze 1 rfl rfl ?_
    refine call_pure (w_change1 49 (opV o).cells (retextT o.pieces) y (w_apply3 o y ho (by omega)) o.path t hp (by omega) hy) rfl ?_
    rintro z rfl
    exact ⟨trivial, rfl, rfl, rfl, rfl⟩
theorem w_apply (t : Tree) (o : OpT) (m : Tree) (ht : t.weight ≤ 900000) (ho : o.Ok) (hto : ∀ x ∈ o.to, inI x) (h : Does t o m) : Pure Try.prog 24 [nodeV t, opV o] (fun x => x = nodeV m) := w_apply_k t o m ht ho (fun _ => hto) h
/-! ### Apply -/
def ApplyV (r : Tree × Int) : V := .tup [nodeV r.1, .int .i64 r.2]
set_option maxRecDepth 100000 in
theorem w_Apply_bad (t : Tree) (o : OpT) (ht : t.weight ≤ 1000000) (ho : o.Ok) (h : ValidE t o ≠ 0) : Pure Try.prog 10 [nodeV t, opV o] (fun x => x = ApplyV (zeroT [], ValidE t o)) := by
  refine pure_wk (pure_fn 300 Try.func10 rfl rfl rfl fun B => ?_)
  show CallThen _ _ _ _ _ _
  refine call_pure (w_Valid t o ht ho) rfl ?_
  rintro x rfl
  refine ⟨fun g1 => go 300 ?_, fun g1 => absurd (eq_of' g1) h⟩
  exact ⟨trivial, rfl, rfl, rfl, ApplyV (zeroT [], ValidE t o), Wk.tup ⟨wk_zero (ss := []) (Wk.nil 6), .refl _, trivial⟩, rfl, rfl⟩
set_option maxRecDepth 100000 in
theorem w_Apply_ok (t : Tree) (o : OpT) (m : Tree) (ht : t.weight ≤ 1000000) (ho : o.Ok) (h : ValidE t o = 0) (hm : Pure Try.prog 24 [nodeV t, opV o] (fun x => x = nodeV m)) : Pure Try.prog 10 [nodeV t, opV o] (fun x => x = ApplyV (m, 0)) := by
  refine pure_fn 300 Try.func10 rfl rfl rfl fun B => ?_
  show CallThen _ _ _ _ _ _
  refine call_pure (w_Valid t o ht ho) rfl ?_
  rintro x rfl
  refine ⟨fun g1 => absurd h (ne_of' g1), fun g1 => go 300 ?_⟩
  show CallThen _ _ _ _ _ _
  refine call_pure hm rfl ?_
  rintro x rfl
  exact ⟨trivial, rfl, rfl, rfl, rfl⟩
end Bow
/- SP9: trees that are the same, in plain Lean. -/
namespace Bow
open Go

mutual
def sameT (ids : Bool) : Tree → Tree → Bool
  | .mk i l b a t ss, u => (!ids || decide (i = u.id)) && ((l == u.leaf) && (decide (b = u.label) && (decide (t = u.text) && (decide (a = u.attrs) && sameTs ids ss u.subs))))
def sameTs (ids : Bool) : List Tree → List Tree → Bool
  | [], [] => true
  | s :: ss, u :: us => sameT ids s u && sameTs ids ss us
  | _, _ => false
end
theorem sameT_eq (ids : Bool) (t u : Tree) : sameT ids t u = ((!ids || decide (t.id = u.id)) && ((t.leaf == u.leaf) && (decide (t.label = u.label) && (decide (t.text = u.text) && (decide (t.attrs = u.attrs) && sameTs ids t.subs u.subs))))) := by
  cases t
  rw [sameT]
  rfl
theorem sameTs_len {ids : Bool} : ∀ {ss us : List Tree}, sameTs ids ss us = true → ss.length = us.length
  | [], [], _ => rfl
  | [], _ :: _, h => by simp [sameTs] at h
  | _ :: _, [], h => by simp [sameTs] at h
  | s :: ss, u :: us, h => by
    rw [sameTs, Bool.and_eq_true] at h
    simp [sameTs_len h.2]
theorem sameTs_at {ids : Bool} {ss us : List Tree} {i : Nat} (h1 : i < ss.length) (h2 : i < us.length) : sameTs ids (ss.drop i) (us.drop i) = (sameT ids ss[i] us[i] && sameTs ids (ss.drop (i + 1)) (us.drop (i + 1))) := by
  rw [List.drop_eq_getElem_cons h1, List.drop_eq_getElem_cons h2, sameTs]
mutual
theorem sameT_refl (ids : Bool) : ∀ t : Tree, sameT ids t t = true
  | .mk i l b a c ss => by
    rw [sameT_eq]
    simp only [Tree.id, Tree.leaf, Tree.label, Tree.text, Tree.attrs, Tree.subs]
    rw [sameTs_refl ids ss]
    simp
theorem sameTs_refl (ids : Bool) : ∀ ss : List Tree, sameTs ids ss ss = true
  | [] => by rw [sameTs]
  | s :: ss => by rw [sameTs, sameT_refl ids s, sameTs_refl ids ss]; rfl
end
end Bow
/- W27: trees that are the same. -/
namespace Bow
open Go Go.Proofs

def bV : Bool → V
  | true => .tt
  | false => .ff

set_option maxRecDepth 100000 in
theorem w_EqualNodes (ids : Bool) (t u : Tree) (ht : t.weight ≤ 1000000)
    (hg : ∀ s ∈ t.subs, ∀ v : Tree, Pure Try.prog 54 [nodeV s, nodeV v, .iptr [bV ids] 0] (fun x => x = .bool (sameT ids s v))) :
    Pure Try.prog 53 [.sl 6 t.subV, .sl 6 u.subV, .fn (.func 54) [] [.iptr [bV ids] 0]] (fun x => x = .bool (sameTs ids t.subs u.subs)) := by
  have hsl := subs_le_weight t
  refine pure_wk (pure_fn 300 Try.func53 rfl rfl rfl fun B => ?_)
  refine ⟨fun g1 => go 300 ?_, fun g1 => go 300 ?_⟩
  · have g1 := ne_of' g1
    rw [subV_len, subV_len] at g1
    refine ⟨trivial, rfl, rfl, rfl, leaf_ff ?_⟩
    cases h : sameTs ids t.subs u.subs with
    | false => rfl
    | true => exact absurd (congrArg Nat.cast (sameTs_len h)) g1
  have g1 : t.subs.length = u.subs.length := by have := eq_of' g1; rw [subV_len, subV_len] at this; omega
  show Goes _ _ _ _
  refine goes_iter (ι := Nat) (fun i => i ≤ t.subs.length ∧ sameTs ids (t.subs.drop i) (u.subs.drop i) = sameTs ids t.subs u.subs) (fun i => t.subs.length - i) (fun i => [(17, .int .i64 i), (16, .int .i64 t.subV.length), (15, .sl 6 t.subV), (1, .sl 6 u.subV), (2, .fn (.func 54) [] [.iptr [bV ids] 0])]) (fun _ => []) 0 300 (fun _ => rfl) (fun _ => rfl) ⟨⟨Nat.zero_le _, rfl⟩, ⟨⟨rfl, rfl⟩, ⟨rfl, rfl⟩, ⟨rfl, rfl⟩, ⟨rfl, rfl⟩, ⟨rfl, rfl⟩, trivial⟩, trivial⟩ ?_
  rintro i ⟨k1, k2⟩ next
  refine ⟨fun hlt => go 300 ?_, fun hge => go 300 ?_⟩
  · have hi : i < t.subs.length := by simpa [subV_eq] using hlt
    have hi' : i < u.subs.length := by omega
    have hx : t.subV[i]? = some (nodeV t.subs[i]) := by simp [subV_eq, hi]
    have hy : u.subV[i]? = some (nodeV u.subs[i]) := by simp [subV_eq, hi']
    rw [sameTs_at hi hi'] at k2
    refine ⟨Int.natCast_nonneg i, _, hx, Int.natCast_nonneg i, _, hy, ?_⟩
    show CallThen _ _ _ _ _ _
    refine call_pure (hg _ (List.getElem_mem hi) _) rfl ?_
    rintro x rfl
    refine ⟨fun g => go 300 ?_, fun g => go 300 ?_⟩
    · have g : sameT ids t.subs[i] u.subs[i] = false := by simpa using g
      exact ⟨trivial, rfl, rfl, rfl, leaf_ff (by rw [← k2, g]; rfl)⟩
    · have g : sameT ids t.subs[i] u.subs[i] = true := by simpa using g
      rw [g, Bool.true_and] at k2
      refine ⟨by constructor <;> omega, ?_⟩
      exact next (i + 1) _ _ ⟨⟨hi, k2⟩, by omega, ⟨⟨rfl, rfl⟩, ⟨rfl, rfl⟩, ⟨rfl, rfl⟩, ⟨rfl, rfl⟩, ⟨rfl, rfl⟩, trivial⟩, trivial⟩
  · have hi : t.subs.length ≤ i := by simpa [subV_eq] using hge
    rw [List.drop_eq_nil_of_le hi, List.drop_eq_nil_of_le (by omega), sameTs] at k2
    exact ⟨trivial, rfl, rfl, rfl, leaf_tt k2.symm⟩

set_option maxRecDepth 100000 in
theorem w_same1 (ids : Bool) (t u : Tree) (h : Pure Try.prog 29 [nodeV t, nodeV u, bV ids] (fun x => x = .bool (sameT ids t u))) :
    Pure Try.prog 54 [nodeV t, nodeV u, .iptr [bV ids] 0] (fun x => x = .bool (sameT ids t u)) := by
  cases ids <;>
  · refine pure_fn 300 Try.func54 rfl rfl rfl fun B => ?_
    show CallThen _ _ _ _ _ _
    refine call_pure h rfl ?_
    rintro x rfl
    exact ⟨trivial, rfl, rfl, rfl, rfl⟩

set_option maxHeartbeats 1000000 in
set_option maxRecDepth 100000 in
theorem w_same (ids : Bool) (t : Tree) : ∀ u : Tree, t.weight ≤ 1000000 → Pure Try.prog 29 [nodeV t, nodeV u, bV ids] (fun x => x = .bool (sameT ids t u)) := by
  induction t using Tree.ind with
  | _ t ih =>
  intro u ht
  have hE := w_EqualNodes ids t u ht fun s hs v => w_same1 ids s v (ih s hs v (by have := weight_sub hs; omega))
  have hwt := weight_eq t
  have hA := w_EqualAttr t.attrs u.attrs (by omega)
  clear ih
  have e := sameT_eq ids t u
  cases ids
  all_goals
    refine pure_wk (pure_fn 300 Try.func29 rfl rfl rfl fun B => ?_)
    repeat' first
      | (refine ⟨fun _ => go 300 ?_, fun _ => go 300 ?_⟩)
      | (show CallThen _ _ _ _ _ _; refine call_pure hA rfl ?_; rintro z rfl)
      | (show CallThen _ _ _ _ _ _; refine call_freeze 2 rfl rfl ?_; refine call_pure hE rfl ?_; rintro z rfl)
      | (refine ⟨trivial, rfl, rfl, rfl, leaf_ff ?_⟩)
      | (refine ⟨trivial, rfl, rfl, rfl, leaf_b ?_⟩)
      | fail
  all_goals (rw [e]; simp_all)

theorem w_Same (t u : Tree) (ht : t.weight ≤ 1000000) : Pure Try.prog 15 [nodeV t, nodeV u] (fun x => x = .bool (sameT true t u)) := by
  refine pure_fn 300 Try.func15 rfl rfl rfl fun B => ?_
  show CallThen _ _ _ _ _ _
  refine call_pure (w_same true t u ht) rfl ?_
  rintro x rfl
  exact ⟨trivial, rfl, rfl, rfl, rfl⟩
end Bow
/- W30a: Light, just so. -/
namespace Bow
open Go Go.Proofs

def lightB (o : OpT) (top : Nat) : Bool := decide (o.path.length ≤ top) && decide (o.to.length ≤ top) && decide (o.label.length ≤ top) && decide (o.key.length ≤ top) && decide (o.value.length ≤ top) && decide (o.pieces.length ≤ top) && decide (putsLen o.pieces ≤ top)
theorem lightB_iff (o : OpT) (top : Nat) : lightB o top = true ↔ o.Lt top ∧ putsLen o.pieces ≤ top := by
  unfold lightB
  simp only [Bool.and_eq_true, decide_eq_true_eq]
  constructor
  · rintro ⟨⟨⟨⟨⟨⟨h1, h2⟩, h3⟩, h4⟩, h5⟩, h6⟩, h7⟩
    exact ⟨⟨h1, h2, h3, h4, h5, h6⟩, h7⟩
  · rintro ⟨⟨h1, h2, h3, h4, h5, h6⟩, h7⟩
    exact ⟨⟨⟨⟨⟨⟨h1, h2⟩, h3⟩, h4⟩, h5⟩, h6⟩, h7⟩
theorem Lt_mono {o : OpT} {a b : Nat} (h : o.Lt a) (hab : a ≤ b) : o.Lt b := by
  have := h.path; have := h.to; have := h.label; have := h.key; have := h.value; have := h.pieces
  exact ⟨by omega, by omega, by omega, by omega, by omega, by omega⟩
theorem light_ok {o : OpT} {top : Nat} (h : lightB o top = true) (ht : top ≤ 1000000) : o.Ok := by
  obtain ⟨h1, h2⟩ := (lightB_iff o top).1 h
  exact ⟨Lt_mono h1 ht, by omega⟩

set_option maxRecDepth 100000 in
/-- Light: within the bound, the lengths and what is put. -/
theorem w_LightX (o : OpT) (top : Nat) (ht : top ≤ 1000000) : Pure Try.prog 6 [opV o, .int .i64 top] (fun x => x = .bool (lightB o top)) := by
  have bad : ¬ (o.Lt top ∧ putsLen o.pieces ≤ top) → ∃ y, Wk .ff y ∧ y.pureB = true ∧ y = .bool (lightB o top) := fun h => leaf_ff (Bool.eq_false_iff.2 fun h' => h ((lightB_iff o top).1 h'))
  refine pure_wk (pure_fn 300 Try.func6 rfl rfl rfl fun B => ?_)
  refine ⟨fun g1 => go 300 ?_, fun g1 => go 300 ?_⟩
  · exact ⟨trivial, rfl, rfl, rfl, bad fun ⟨h, _⟩ => by have := lt_of g1; have := h.path; have := h.to; have := h.label; have := h.key; have := h.value; have := h.pieces; simp only [List.length_map] at *; omega⟩
  refine ⟨fun g2 => go 300 ?_, fun g2 => go 300 ?_⟩
  · exact ⟨trivial, rfl, rfl, rfl, bad fun ⟨h, _⟩ => by have := lt_of g2; have := h.path; have := h.to; have := h.label; have := h.key; have := h.value; have := h.pieces; simp only [List.length_map] at *; omega⟩
  refine ⟨fun g3 => go 300 ?_, fun g3 => go 300 ?_⟩
  · exact ⟨trivial, rfl, rfl, rfl, bad fun ⟨h, _⟩ => by have := lt_of g3; have := h.path; have := h.to; have := h.label; have := h.key; have := h.value; have := h.pieces; simp only [List.length_map] at *; omega⟩
  refine ⟨fun g4 => go 300 ?_, fun g4 => go 300 ?_⟩
  · exact ⟨trivial, rfl, rfl, rfl, bad fun ⟨h, _⟩ => by have := lt_of g4; have := h.path; have := h.to; have := h.label; have := h.key; have := h.value; have := h.pieces; simp only [List.length_map] at *; omega⟩
  refine ⟨fun g5 => go 300 ?_, fun g5 => go 300 ?_⟩
  · exact ⟨trivial, rfl, rfl, rfl, bad fun ⟨h, _⟩ => by have := lt_of g5; have := h.path; have := h.to; have := h.label; have := h.key; have := h.value; have := h.pieces; simp only [List.length_map] at *; omega⟩
  refine ⟨fun g6 => go 300 ?_, fun g6 => go 300 ?_⟩
  · exact ⟨trivial, rfl, rfl, rfl, bad fun ⟨h, _⟩ => by have := lt_of g6; have := h.path; have := h.to; have := h.label; have := h.key; have := h.value; have := h.pieces; simp only [List.length_map] at *; omega⟩
  have g1 := not_lt_of g1
  have g2 := not_lt_of g2
  have g3 := not_lt_of g3
  have g4 := not_lt_of g4
  have g5 := not_lt_of g5
  have g6 := not_lt_of g6
  simp only [List.length_map] at g1 g2 g6
  have hlt : o.Lt top := ⟨by omega, by omega, by omega, by omega, by omega, by omega⟩
  show Goes _ _ _ _
  refine goes_iter (ι := Nat × Nat) (fun i => i.1 ≤ o.pieces.length ∧ i.2 ≤ top ∧ putsLen o.pieces = i.2 + putsLen (o.pieces.drop i.1)) (fun i => o.pieces.length - i.1) (fun i => [(6, .int .i64 i.1), (5, .int .i64 i.2), (1, .int .i64 top), (2, .ptr (.loc 0) 0)]) (fun _ => [some (.box (opV o).cells)]) (0, 0) 200 (fun _ => rfl) (fun _ => rfl) ⟨⟨Nat.zero_le _, Nat.zero_le _, by simp⟩, ?_, ?_⟩ ?_
  · exact ⟨⟨rfl, rfl⟩, ⟨rfl, rfl⟩, ⟨rfl, rfl⟩, ⟨rfl, rfl⟩, trivial⟩
  · exact ⟨⟨rfl, rfl⟩, trivial⟩
  · rintro ⟨i, n⟩ ⟨h1, h3, h2⟩ next
    simp only at h1 h2 h3
    refine ⟨fun hlt => go 200 ?_, fun hge => go 200 ?_⟩
    · have hi : i < o.pieces.length := by simpa using hlt
      have hx : (o.pieces.map pieceV)[i]? = some (pieceV o.pieces[i]) := by simp [hi]
      rw [drop_cons hi] at h2
      have h2 : putsLen o.pieces = n + ((o.pieces[i]).put.length + putsLen (o.pieces.drop (i + 1))) := h2
      refine ⟨Int.natCast_nonneg i, _, hx, ?_⟩
      refine ⟨by constructor <;> omega, ?_⟩
      refine ⟨fun g7 => go 200 ?_, fun g7 => go 200 ?_⟩
      · exact ⟨trivial, rfl, rfl, rfl, bad fun ⟨h, _⟩ => by have := lt_of g7; have := h.path; have := h.to; have := h.label; have := h.key; have := h.value; have := h.pieces; simp only [List.length_map] at *; omega⟩
      have g7 := not_lt_of g7
      refine ⟨Int.natCast_nonneg i, _, hx, ?_⟩
      refine ⟨by constructor <;> omega, ?_⟩
      refine ⟨by constructor <;> omega, ?_⟩
      show Goes _ _ _ _
      refine next (i + 1, n + (o.pieces[i]).put.length) _ _ ⟨⟨hi, by simp only; omega, by simp only; omega⟩, ?_, ⟨⟨rfl, rfl⟩, ⟨rfl, rfl⟩, ⟨rfl, rfl⟩, ⟨rfl, rfl⟩, trivial⟩, ⟨⟨rfl, rfl⟩, trivial⟩⟩
      simp only; omega
    · have hi : o.pieces.length ≤ i := by simpa using hge
      rw [List.drop_eq_nil_of_le hi] at h2
      have h2 : putsLen o.pieces = n + 0 := h2
      exact ⟨trivial, rfl, rfl, rfl, leaf_tt ((lightB_iff o top).2 ⟨hlt, by omega⟩)⟩


end Bow
/- W31: the reference's Put, put, drop, change. -/
namespace Bow
open Go Go.Proofs

end Bow
/- W32: the reference's put, drop, change, Without. -/
namespace Bow
open Go Go.Proofs

end Bow
/- W33: the reference's attr. -/
namespace Bow
open Go Go.Proofs

theorem withAttrs_V (t : Tree) (a : AttrL) : nodeV (t.withAttrs a) = .agg [.int .u64 t.id, .bool t.leaf, .str t.label, .sl 2 (a.map attrV), .str t.text, .sl 6 t.subV] := by
  cases t
  rfl
theorem attrs_le_weight (t : Tree) : t.attrs.length ≤ t.weight := by rw [weight_eq]; omega

end Bow
/- W34: the reference's move. -/
namespace Bow
open Go Go.Proofs

end Bow
/- WB2: strings.Compare at this program: by the kit's own tactics. -/
namespace Bow
open Go Go.Proofs Go.RowKit Go.Shelf

set_option maxHeartbeats 1000000 in
set_option maxRecDepth 100000 in
theorem c_CompareString (a b : ByteArray) (w : World) :
    Calls Try.prog 105 #[.string a, .string b] w fun e w' => e = .returned (.int .i64 (Lib.compareBytes a.data.toList b.data.toList)) ∧ w' = w := by
  go_enter Try.func105, Try.ntmps105
  go_wp2
  rw [run_callFunc_extern Try.func113 (by kernel_rfl) (by kernel_rfl) (by kernel_rfl) (e := Extern.BytealgCompare.compare) (by kernel_rfl), Lib.run_compareString]
  simp only [Result.andThen]
  rw [Oper.upon_value]
  go_wp2
  go_ret
  exact ⟨rfl, rfl⟩
set_option maxHeartbeats 1000000 in
set_option maxRecDepth 100000 in
theorem c_Compare (a b : ByteArray) (w : World) :
    Calls Try.prog 82 #[.string a, .string b] w fun e w' => e = .returned (.int .i64 (Lib.compareBytes a.data.toList b.data.toList)) ∧ w' = w := by
  go_enter Try.func82, Try.ntmps82
  go_wp2_with (go_at_call 105; refine (c_CompareString _ _ _).mono ?_; rintro e w' ⟨rfl, rfl⟩)
  go_ret
  exact ⟨rfl, rfl⟩

theorem w_Compare (a b : List UInt8) : Pure Try.prog 82 [.str a, .str b] (fun x => x = .int .i64 (Lib.compareBytes a b)) := by
  refine pure_of_calls ⟨_, Try.func82, rfl, rfl⟩ rfl fun w β H vals hv hr => ?_
  obtain ⟨v0, v1, rfl⟩ : ∃ v0 v1, vals = #[v0, v1] := by
    obtain ⟨l⟩ := vals
    match l, hv with
    | [v0, v1], _ => exact ⟨v0, v1, rfl⟩
  obtain ⟨rfl, _⟩ := rep_str (m := []) (hr 0 _ v0 rfl rfl)
  obtain ⟨rfl, _⟩ := rep_str (m := []) (hr 1 _ v1 rfl rfl)
  refine (c_Compare ⟨a.toArray⟩ ⟨b.toArray⟩ w).mono ?_
  rintro e w' ⟨rfl, rfl⟩
  exact ⟨Below.refl _ _, .int .i64 (Lib.compareBytes a b), _, rfl, rfl, rfl, .int _ _⟩
end Bow
/- W35: the program's search for an attribute. -/
namespace Bow
open Go Go.Proofs

theorem w_cmpAttr (a : List UInt8 × List UInt8) (k : List UInt8) : Pure Try.prog 81 [attrV a, .str k] (fun x => x = .int .i64 (Lib.compareBytes a.1 k)) := by
  refine pure_fn 300 Try.func81 rfl rfl rfl fun B => ?_
  show CallThen _ _ _ _ _ _
  refine call_pure (w_Compare a.1 k) rfl ?_
  rintro x rfl
  exact ⟨trivial, rfl, rfl, rfl, rfl⟩

theorem half_eq (i j : Nat) (h : i + j ≤ 2000000) : IntKind.i64.wrap (IntKind.u64.wrap ((i : Int) + j) / 2 ^ min (1 : Int).toNat IntKind.u64.bits) = (((i + j) / 2 : Nat) : Int) := by
  have e : IntKind.u64.wrap ((i : Int) + j) = ((i + j : Nat) : Int) := by
    unfold IntKind.wrap
    simp [IntKind.signed, IntKind.bits]
    omega
  rw [e]
  unfold IntKind.wrap
  simp [IntKind.signed, IntKind.bits]
  omega

set_option maxRecDepth 100000 in
theorem w_search (l : AttrL) (k : List UInt8) (k0 : Option (List UInt8)) (hl : l.length ≤ 1000000) (hs : attrsOk k0 l = true) : Pure Try.prog 80 [.sl 2 (l.map attrV), .str k, .fn (.func 81) [] []] (fun x => x = .tup [.int .i64 (posK k l), .bool (hasK k l)]) := by
  have hpl := pos_le k l
  refine pure_wk (pure_fn 300 Try.func80 rfl rfl rfl fun B => ?_)
  show Goes _ _ _ _
  refine goes_while (ι := Nat × Nat) (κ := Unit) (fun i => i.1 ≤ posK k l ∧ posK k l ≤ i.2 ∧ i.2 ≤ l.length) (fun i => i.2 - i.1)
    (fun i => [(9, .int .i64 i.1), (10, .int .i64 i.2), (8, .int .i64 (l.map attrV).length), (0, .sl 2 (l.map attrV)), (1, .str k), (2, .fn (.func 81) [] [])]) (fun _ => []) (0, (l.map attrV).length) (fun _ => True)
    (fun _ => [(9, .int .i64 (posK k l)), (8, .int .i64 (l.map attrV).length), (0, .sl 2 (l.map attrV)), (1, .str k), (2, .fn (.func 81) [] [])]) (fun _ => []) 300 (fun _ => rfl) (fun _ => rfl) (fun _ => rfl) (fun _ => rfl) ⟨⟨Nat.zero_le _, by simpa using hpl, by simp⟩, ?_, trivial⟩ ?_ ?_
  · exact ⟨⟨rfl, rfl⟩, ⟨rfl, rfl⟩, ⟨rfl, rfl⟩, ⟨rfl, rfl⟩, ⟨rfl, rfl⟩, ⟨rfl, rfl⟩, trivial⟩
  · rintro ⟨⟩ _
    refine ⟨fun q1 => go 300 ?_, fun q1 => go 300 ?_⟩
    · have hp : posK k l < l.length := by have := lt_of q1; simp at this; omega
      have hx : (l.map attrV)[posK k l]? = some (attrV l[posK k l]) := by simp [hp]
      refine ⟨Int.natCast_nonneg _, _, hx, ?_⟩
      show CallThen _ _ _ _ _ _
      refine call_pure (w_cmpAttr l[posK k l] k) rfl ?_
      rintro x rfl
      refine ⟨trivial, rfl, rfl, rfl, _, Wk.refl _, rfl, ?_⟩
      have hgd : l.getD (posK k l) ([], []) = l[posK k l] := by simp [List.getD_eq_getElem?_getD, hp]
      have e : hasK k l = decide (Lib.compareBytes l[posK k l].1 k = 0) := by
        unfold hasK
        rw [decide_eq_true hp, Bool.true_and, hgd]
        exact decide_eq_decide.2 (cmp_zero _ _).symm
      rw [e]
    · have hp : ¬ posK k l < l.length := by have := not_lt_of q1; simp at this; omega
      refine ⟨trivial, rfl, rfl, rfl, .tup [.int .i64 (posK k l), .bool false], Wk.tup ⟨.refl _, Wk.ff, trivial⟩, rfl, ?_⟩
      have e : hasK k l = false := by unfold hasK; rw [decide_eq_false hp]; rfl
      rw [e]
  · rintro ⟨i, j⟩ ⟨k1, k2, k3⟩ next post
    simp only at k1 k2 k3
    refine ⟨fun hlt => go 300 ?_, fun hge => go 300 ?_⟩
    · have hij : i < j := by have := lt_of hlt; omega
      refine ⟨by constructor <;> simp only <;> omega, ?_⟩
      show Goes _ _ _ _
      refine goes_shr 2 rfl rfl rfl rfl rfl (by decide) ?_
      show Goes _ _ _ _
      refine goes_wkSlot 11 (v' := .int .i64 (((i + j) / 2 : Nat) : Int)) rfl rfl rfl (Wk.of_eq (congrArg (V.int .i64) (half_eq i j (by omega)))) ?_
      refine go 300 ?_
      obtain ⟨m, hm⟩ : ∃ m, (i + j) / 2 = m := ⟨_, rfl⟩
      have hml : m < l.length := by omega
      have hx : (l.map attrV)[m]? = some (attrV l[m]) := by simp [hml]
      rw [hm]
      refine ⟨Int.natCast_nonneg _, _, hx, ?_⟩
      show CallThen _ _ _ _ _ _
      refine call_pure (w_cmpAttr l[m] k) rfl ?_
      rintro x rfl
      have hpi := pos_iff k hs m hml
      refine ⟨fun q2 => go 300 ?_, fun q2 => go 300 ?_⟩
      · have q2 := hpi.1 ((cmp_less _ _).1 (lt_of q2))
        refine ⟨by constructor <;> omega, ?_⟩
        show Goes _ _ _ _
        refine next (m + 1, j) _ _ ⟨⟨q2, k2, k3⟩, by simp only; omega, ⟨⟨rfl, rfl⟩, ⟨rfl, rfl⟩, ⟨rfl, rfl⟩, ⟨rfl, rfl⟩, ⟨rfl, rfl⟩, ⟨rfl, rfl⟩, trivial⟩, trivial⟩
      · have q2 : ¬ m < posK k l := fun h => by
          have := (cmp_less _ _).2 (hpi.2 h)
          have := not_lt_of q2
          omega
        show Goes _ _ _ _
        refine next (i, m) _ _ ⟨⟨k1, by simp only; omega, by simp only; omega⟩, by simp only; omega, ⟨⟨rfl, rfl⟩, ⟨rfl, rfl⟩, ⟨rfl, rfl⟩, ⟨rfl, rfl⟩, ⟨rfl, rfl⟩, ⟨rfl, rfl⟩, trivial⟩, trivial⟩
    · have hij : i = posK k l := by have := not_lt_of hge; omega
      subst hij
      exact post () _ _ _ rfl ⟨trivial, ⟨⟨rfl, rfl⟩, ⟨rfl, rfl⟩, ⟨rfl, rfl⟩, ⟨rfl, rfl⟩, ⟨rfl, rfl⟩, trivial⟩, trivial⟩
end Bow
/- W36: the program's setAttr. -/
namespace Bow
open Go Go.Proofs

set_option maxHeartbeats 1000000 in
set_option maxRecDepth 100000 in
theorem w_setAttr (o : OpT) (y : Tree) (k0 : Option (List UInt8)) (hs : attrsOk k0 y.attrs = true) (hl : y.attrs.length ≤ 900000) : Fun Try.prog 47 [some (.box (nodeV y).cells)] [.ptr (.loc 0) 0, opV o] (fun _ T => T = [some (.box (nodeV (setAT o y)).cells)]) := by
  refine fun_keep 1 rfl (fun_fn 300 Try.func47 rfl rfl rfl fun imps B hi => ?_)
  obtain ⟨r, rfl⟩ := List.length_eq_one_iff.1 hi
  have hpl := pos_le o.key y.attrs
  have hpl' : ((posK o.key y.attrs : Nat) : Int) ≤ (y.attrs.map attrV).length := by simp; omega
  have hsr := w_search y.attrs o.key k0 (by omega) hs
  show Goes _ _ _ _
  refine goes_draw 300 ⟨_, hsr, rfl, ?_⟩
  refine ⟨by kernel_rfl, ?_⟩
  refine ⟨fun q1 => go 300 ?_, fun q1 => go 300 ?_⟩
  · have q1 : hasK o.key y.attrs = true := by simpa using q1
    have hp : posK o.key y.attrs < y.attrs.length := by
      unfold hasK at q1
      simp only [Bool.and_eq_true, decide_eq_true_eq] at q1
      exact q1.1
    have hpl'' : ((posK o.key y.attrs : Nat) : Int) + 1 ≤ (y.attrs.map attrV).length := by simp; omega
    have hp0 : (0 : Int) ≤ ((posK o.key y.attrs : Nat) : Int) + 1 := by omega
    refine ⟨by constructor <;> omega, ?_⟩
    refine ⟨fun q2 => go 300 ?_, fun q2 => go 300 ?_⟩
    · have q2 : o.gone = false := by simpa using q2
      refine ⟨⟨rfl, trivial⟩, ?_⟩
      show Goes _ _ _ _
      have hc := w_ConcatAttr [(((y.attrs.map attrV).drop (Int.toNat 0)).take (((posK o.key y.attrs : Nat) : Int).toNat - Int.toNat 0)), [attrV (o.key, o.value)], (((y.attrs.map attrV).drop (((posK o.key y.attrs : Nat) : Int) + 1).toNat).take (((y.attrs.map attrV).length : Int).toNat - (((posK o.key y.attrs : Nat) : Int) + 1).toNat))] (by simp; omega) (by simp)
      refine goes_draw 300 ⟨by decide, Int.natCast_nonneg _, hpl', hp0, hpl'', Int.le_refl _, ?_⟩
      refine ⟨by kernel_rfl, rfl, rfl, ⟨rfl, rfl, rfl, trivial⟩, rfl, rfl, rfl, _, hc, rfl, ?_⟩
      refine ⟨by kernel_rfl, ?_⟩
      refine ⟨trivial, rfl, rfl, [some (.box [.int .u64 y.id, .bool y.leaf, .str y.label, .sl 2 [(((y.attrs.map attrV).drop (Int.toNat 0)).take (((posK o.key y.attrs : Nat) : Int).toNat - Int.toNat 0)), [attrV (o.key, o.value)], (((y.attrs.map attrV).drop (((posK o.key y.attrs : Nat) : Int) + 1).toNat).take (((y.attrs.map attrV).length : Int).toNat - (((posK o.key y.attrs : Nat) : Int) + 1).toNat))].flatten, .str y.text, .sl 6 y.subV])], rfl, rfl, ⟨⟨rfl, rfl⟩, trivial⟩, ?_⟩
      have e : [(((y.attrs.map attrV).drop (Int.toNat 0)).take (((posK o.key y.attrs : Nat) : Int).toNat - Int.toNat 0)), [attrV (o.key, o.value)], (((y.attrs.map attrV).drop (((posK o.key y.attrs : Nat) : Int) + 1).toNat).take (((y.attrs.map attrV).length : Int).toNat - (((posK o.key y.attrs : Nat) : Int) + 1).toNat))].flatten = (setA o y.attrs).map attrV := by
        unfold setA midA
        rw [q1, q2]
        rw [List.take_of_length_le (l := List.drop (((posK o.key y.attrs : Nat) : Int) + 1).toNat (y.attrs.map attrV)) (by simp)]
        have e1 : (((posK o.key y.attrs : Nat) : Int) + 1).toNat = posK o.key y.attrs + 1 := by omega
        rw [e1]
        simp [List.map_take, List.map_drop]
      rw [e, setAT, withAttrs_V]
      rfl
    · have q2 : o.gone = true := by simpa using q2
      show Goes _ _ _ _
      have hc := w_ConcatAttr [(((y.attrs.map attrV).drop (Int.toNat 0)).take (((posK o.key y.attrs : Nat) : Int).toNat - Int.toNat 0)), [], (((y.attrs.map attrV).drop (((posK o.key y.attrs : Nat) : Int) + 1).toNat).take (((y.attrs.map attrV).length : Int).toNat - (((posK o.key y.attrs : Nat) : Int) + 1).toNat))] (by simp; omega) (by simp)
      have hc := pure_args (args' := [.sl 1 ([(((y.attrs.map attrV).drop (Int.toNat 0)).take (((posK o.key y.attrs : Nat) : Int).toNat - Int.toNat 0)), [], (((y.attrs.map attrV).drop (((posK o.key y.attrs : Nat) : Int) + 1).toNat).take (((y.attrs.map attrV).length : Int).toNat - (((posK o.key y.attrs : Nat) : Int) + 1).toNat))].map (V.sl 2))]) (args := [.sl 1 [.sl 2 (((y.attrs.map attrV).drop (Int.toNat 0)).take (((posK o.key y.attrs : Nat) : Int).toNat - Int.toNat 0)), .nilsl, .sl 2 (((y.attrs.map attrV).drop (((posK o.key y.attrs : Nat) : Int) + 1).toNat).take (((y.attrs.map attrV).length : Int).toNat - (((posK o.key y.attrs : Nat) : Int) + 1).toNat))]]) hc ⟨Wk.sl ⟨⟨⟨.refl _, trivial⟩, ⟨rfl, rfl⟩⟩, ⟨⟨Wk.nil 2, trivial⟩, ⟨rfl, rfl⟩⟩, ⟨⟨.refl _, trivial⟩, ⟨rfl, rfl⟩⟩, trivial⟩, trivial⟩ rfl rfl
      refine goes_draw 300 ⟨by decide, Int.natCast_nonneg _, hpl', hp0, hpl'', Int.le_refl _, ?_⟩
      refine ⟨by kernel_rfl, ⟨rfl, rfl, rfl, trivial⟩, rfl, rfl, rfl, _, hc, rfl, ?_⟩
      refine ⟨by kernel_rfl, ?_⟩
      refine ⟨trivial, rfl, rfl, [some (.box [.int .u64 y.id, .bool y.leaf, .str y.label, .sl 2 [(((y.attrs.map attrV).drop (Int.toNat 0)).take (((posK o.key y.attrs : Nat) : Int).toNat - Int.toNat 0)), [], (((y.attrs.map attrV).drop (((posK o.key y.attrs : Nat) : Int) + 1).toNat).take (((y.attrs.map attrV).length : Int).toNat - (((posK o.key y.attrs : Nat) : Int) + 1).toNat))].flatten, .str y.text, .sl 6 y.subV])], rfl, rfl, ⟨⟨rfl, rfl⟩, trivial⟩, ?_⟩
      have e : [(((y.attrs.map attrV).drop (Int.toNat 0)).take (((posK o.key y.attrs : Nat) : Int).toNat - Int.toNat 0)), [], (((y.attrs.map attrV).drop (((posK o.key y.attrs : Nat) : Int) + 1).toNat).take (((y.attrs.map attrV).length : Int).toNat - (((posK o.key y.attrs : Nat) : Int) + 1).toNat))].flatten = (setA o y.attrs).map attrV := by
        unfold setA midA
        rw [q1, q2]
        rw [List.take_of_length_le (l := List.drop (((posK o.key y.attrs : Nat) : Int) + 1).toNat (y.attrs.map attrV)) (by simp)]
        have e1 : (((posK o.key y.attrs : Nat) : Int) + 1).toNat = posK o.key y.attrs + 1 := by omega
        rw [e1]
        simp [List.map_take, List.map_drop]
      rw [e, setAT, withAttrs_V]
      rfl
  · have q1 : hasK o.key y.attrs = false := by simpa using q1
    have hpl'' := hpl'
    have hp0 : (0 : Int) ≤ ((posK o.key y.attrs : Nat) : Int) := Int.natCast_nonneg _
    refine ⟨fun q2 => go 300 ?_, fun q2 => go 300 ?_⟩
    · have q2 : o.gone = false := by simpa using q2
      refine ⟨⟨rfl, trivial⟩, ?_⟩
      show Goes _ _ _ _
      have hc := w_ConcatAttr [(((y.attrs.map attrV).drop (Int.toNat 0)).take (((posK o.key y.attrs : Nat) : Int).toNat - Int.toNat 0)), [attrV (o.key, o.value)], (((y.attrs.map attrV).drop ((posK o.key y.attrs : Nat) : Int).toNat).take (((y.attrs.map attrV).length : Int).toNat - ((posK o.key y.attrs : Nat) : Int).toNat))] (by simp; omega) (by simp)
      refine goes_draw 300 ⟨by decide, Int.natCast_nonneg _, hpl', hp0, hpl'', Int.le_refl _, ?_⟩
      refine ⟨by kernel_rfl, rfl, rfl, ⟨rfl, rfl, rfl, trivial⟩, rfl, rfl, rfl, _, hc, rfl, ?_⟩
      refine ⟨by kernel_rfl, ?_⟩
      refine ⟨trivial, rfl, rfl, [some (.box [.int .u64 y.id, .bool y.leaf, .str y.label, .sl 2 [(((y.attrs.map attrV).drop (Int.toNat 0)).take (((posK o.key y.attrs : Nat) : Int).toNat - Int.toNat 0)), [attrV (o.key, o.value)], (((y.attrs.map attrV).drop ((posK o.key y.attrs : Nat) : Int).toNat).take (((y.attrs.map attrV).length : Int).toNat - ((posK o.key y.attrs : Nat) : Int).toNat))].flatten, .str y.text, .sl 6 y.subV])], rfl, rfl, ⟨⟨rfl, rfl⟩, trivial⟩, ?_⟩
      have e : [(((y.attrs.map attrV).drop (Int.toNat 0)).take (((posK o.key y.attrs : Nat) : Int).toNat - Int.toNat 0)), [attrV (o.key, o.value)], (((y.attrs.map attrV).drop ((posK o.key y.attrs : Nat) : Int).toNat).take (((y.attrs.map attrV).length : Int).toNat - ((posK o.key y.attrs : Nat) : Int).toNat))].flatten = (setA o y.attrs).map attrV := by
        unfold setA midA
        rw [q1, q2]
        rw [List.take_of_length_le (l := List.drop ((posK o.key y.attrs : Nat) : Int).toNat (y.attrs.map attrV)) (by simp)]
        simp [List.map_take, List.map_drop]
      rw [e, setAT, withAttrs_V]
      rfl
    · have q2 : o.gone = true := by simpa using q2
      show Goes _ _ _ _
      have hc := w_ConcatAttr [(((y.attrs.map attrV).drop (Int.toNat 0)).take (((posK o.key y.attrs : Nat) : Int).toNat - Int.toNat 0)), [], (((y.attrs.map attrV).drop ((posK o.key y.attrs : Nat) : Int).toNat).take (((y.attrs.map attrV).length : Int).toNat - ((posK o.key y.attrs : Nat) : Int).toNat))] (by simp; omega) (by simp)
      have hc := pure_args (args' := [.sl 1 ([(((y.attrs.map attrV).drop (Int.toNat 0)).take (((posK o.key y.attrs : Nat) : Int).toNat - Int.toNat 0)), [], (((y.attrs.map attrV).drop ((posK o.key y.attrs : Nat) : Int).toNat).take (((y.attrs.map attrV).length : Int).toNat - ((posK o.key y.attrs : Nat) : Int).toNat))].map (V.sl 2))]) (args := [.sl 1 [.sl 2 (((y.attrs.map attrV).drop (Int.toNat 0)).take (((posK o.key y.attrs : Nat) : Int).toNat - Int.toNat 0)), .nilsl, .sl 2 (((y.attrs.map attrV).drop ((posK o.key y.attrs : Nat) : Int).toNat).take (((y.attrs.map attrV).length : Int).toNat - ((posK o.key y.attrs : Nat) : Int).toNat))]]) hc ⟨Wk.sl ⟨⟨⟨.refl _, trivial⟩, ⟨rfl, rfl⟩⟩, ⟨⟨Wk.nil 2, trivial⟩, ⟨rfl, rfl⟩⟩, ⟨⟨.refl _, trivial⟩, ⟨rfl, rfl⟩⟩, trivial⟩, trivial⟩ rfl rfl
      refine goes_draw 300 ⟨by decide, Int.natCast_nonneg _, hpl', hp0, hpl'', Int.le_refl _, ?_⟩
      refine ⟨by kernel_rfl, ⟨rfl, rfl, rfl, trivial⟩, rfl, rfl, rfl, _, hc, rfl, ?_⟩
      refine ⟨by kernel_rfl, ?_⟩
      refine ⟨trivial, rfl, rfl, [some (.box [.int .u64 y.id, .bool y.leaf, .str y.label, .sl 2 [(((y.attrs.map attrV).drop (Int.toNat 0)).take (((posK o.key y.attrs : Nat) : Int).toNat - Int.toNat 0)), [], (((y.attrs.map attrV).drop ((posK o.key y.attrs : Nat) : Int).toNat).take (((y.attrs.map attrV).length : Int).toNat - ((posK o.key y.attrs : Nat) : Int).toNat))].flatten, .str y.text, .sl 6 y.subV])], rfl, rfl, ⟨⟨rfl, rfl⟩, trivial⟩, ?_⟩
      have e : [(((y.attrs.map attrV).drop (Int.toNat 0)).take (((posK o.key y.attrs : Nat) : Int).toNat - Int.toNat 0)), [], (((y.attrs.map attrV).drop ((posK o.key y.attrs : Nat) : Int).toNat).take (((y.attrs.map attrV).length : Int).toNat - ((posK o.key y.attrs : Nat) : Int).toNat))].flatten = (setA o y.attrs).map attrV := by
        unfold setA midA
        rw [q1, q2]
        rw [List.take_of_length_le (l := List.drop ((posK o.key y.attrs : Nat) : Int).toNat (y.attrs.map attrV)) (by simp)]
        simp [List.map_take, List.map_drop]
      rw [e, setAT, withAttrs_V]
      rfl
end Bow
/- W37: the program's apply, Apply. -/
namespace Bow
open Go Go.Proofs

theorem w_apply1 (o : OpT) (y : Tree) (k0 : Option (List UInt8)) (hs : attrsOk k0 y.attrs = true) (hl : y.attrs.length ≤ 900000) : Fun Try.prog 46 [some (.box (nodeV y).cells)] [.ptr (.loc 0) 0, .iptr (opV o).cells 0] (fun _ T => T = [some (.box (nodeV (setAT o y)).cells)]) := by
  refine fun_fn 100 Try.func46 rfl rfl rfl fun imps B hi => ?_
  obtain ⟨r, rfl⟩ := List.length_eq_one_iff.1 hi
  show CallThen _ _ _ _ _ _
  refine call_sub [0] (w_setAttr o y k0 hs hl) rfl rfl ⟨⟨rfl, rfl⟩, trivial⟩ rfl rfl rfl ?_
  rintro x T1 rfl
  refine ⟨rfl, ?_⟩
  exact ⟨trivial, rfl, rfl, rfl⟩

set_option maxRecDepth 100000 in
theorem w_apply_att (t y : Tree) (o : OpT) (ht : t.weight ≤ 900000) (ho : o.Ok) (hk : o.kind = 4) (hy : atT t o.path = some y) (hs : attrsOk none y.attrs = true) : Pure Try.prog 24 [nodeV t, opV o] (fun x => x = nodeV (changeT (setAT o) t o.path)) := by
  have hp := ho.lt.path
  have hyw := atT_weight hy
  have hya := attrs_le_weight y
  refine pure_fn 300 Try.func24 rfl rfl rfl fun B => ?_
  refine ⟨fun g1 => absurd (hk.symm.trans (eq_of g1)) (by decide), fun g1 => go 300 ?_⟩
  refine ⟨fun g1 => absurd (hk.symm.trans (eq_of g1)) (by decide), fun g1 => go 300 ?_⟩
  refine ⟨fun g1 => absurd (hk.symm.trans (eq_of g1)) (by decide), fun g1 => go 300 ?_⟩
  refine ⟨fun g1 => go 300 ?_, fun g1 => absurd hk (ne_of g1)⟩
  show CallThen _ _ _ _ _ _
  refine call_freeze 1 rfl rfl ?_
  refine call_pure (w_change1 46 (opV o).cells (setAT o) y (w_apply1 o y none hs (by omega)) o.path t hp (by omega) hy) rfl ?_
  rintro z rfl
  exact ⟨trivial, rfl, rfl, rfl, rfl⟩

theorem w_applyT (t : Tree) (o : OpT) (ht : t.weight ≤ 900000) (ho : o.Ok) (h : ValidE t o = 0) : Pure Try.prog 24 [nodeV t, opV o] (fun x => x = nodeV (applyT t o)) := by
  obtain ⟨hr, hf, _⟩ := valid_right h
  have hra : t.rightA = true := by
    unfold rightT at hr
    rw [Bool.and_eq_true] at hr
    exact hr.2
  have hto : o.kind = 3 → ∀ x ∈ o.to, inI x := fun hk x hx => by
    have := may_step (good_to hf hk) x hx
    constructor <;> omega
  cases good_of h with
  | ins y hk hy hl h0 h1 h2 =>
    have e : applyT t o = changeT (insT o.at_ (freshT o)) t o.path := by unfold applyT; rw [hk]; rfl
    rw [e]
    exact w_apply_k t o _ ht ho (fun h => absurd (hk.symm.trans h) (by decide)) (.ins y hk hy h0 h1)
  | del x hk hne hx =>
    have e : applyT t o = changeT (delT (lastP o.path)) t o.path.dropLast := by unfold applyT; rw [hk]; rfl
    rw [e]
    exact w_apply_k t o _ ht ho (fun h => absurd (hk.symm.trans h) (by decide)) (.del x hk hne hx)
  | mov x z hk hne hx hw hz hl h0 h1 =>
    have e : applyT t o = moveT x t o := by unfold applyT; rw [hk, hx]; rfl
    rw [e]
    exact w_apply_k t o _ ht ho (fun _ => hto hk) (.mov x z hk hne hx hw hz h0 h1)
  | att y hk hy h1 h2 =>
    have e : applyT t o = changeT (setAT o) t o.path := by unfold applyT; rw [hk]; rfl
    rw [e]
    exact w_apply_att t y o ht ho hk hy (right_attrs (right_at hra hy))
  | lab y hk hy h2 =>
    have e : applyT t o = changeT (relabelT o.label) t o.path := by unfold applyT; rw [hk]; rfl
    rw [e]
    exact w_apply_k t o _ ht ho (fun h => absurd (hk.symm.trans h) (by decide)) (.lab y hk hy)
  | edt y hk hy hl he =>
    have e : applyT t o = changeT (retextT o.pieces) t o.path := by unfold applyT; rw [hk]; rfl
    rw [e]
    exact w_apply_k t o _ ht ho (fun h => absurd (hk.symm.trans h) (by decide)) (.edt y hk hy)

theorem w_Apply (t : Tree) (o : OpT) (ht : t.weight ≤ 900000) (ho : o.Ok) : Pure Try.prog 10 [nodeV t, opV o] (fun x => x = ApplyV (applyR t o)) := by
  by_cases h : ValidE t o = 0
  · have e : applyR t o = (applyT t o, 0) := by unfold applyR; rw [decide_eq_true h]; rfl
    rw [e]
    exact w_Apply_ok t o _ (by omega) ho h (w_applyT t o ht ho h)
  · have e : applyR t o = (zeroT [], ValidE t o) := by unfold applyR; rw [decide_eq_false h]; rfl
    rw [e]
    exact w_Apply_bad t o (by omega) ho h
end Bow
/- W38: the reference's Apply. -/
namespace Bow
open Go Go.Proofs

end Bow
/- SP15: a tree that was right stays right, in plain Lean. -/
namespace Bow
open Go

/-- Where a moved node lands. -/
theorem land_of {t x z : Tree} {fr to : List Int} {at_ : Int} (hne : fr ≠ []) (hx : atT t fr = some x) (hw : within fr to = false) (hz : atT t to = some z) (h0 : 0 ≤ at_) (h1 : at_ ≤ z.subs.length) :
    ∃ z', atT (withoutT t fr) (landT fr.dropLast (lastP fr) to at_).1 = some z' ∧ 0 ≤ (landT fr.dropLast (lastP fr) to at_).2 ∧ (landT fr.dropLast (lastP fr) to at_).2 ≤ z'.subs.length ∧ z'.leaf = z.leaf ∧ z'.id = z.id := by
  obtain ⟨y, y1, y2, y3, y4⟩ := at_parent hne hx
  have hlast := lastP_eq hne
  rw [hlast] at y2 y3 y4
  have hw' : within (fr.dropLast ++ [lastP fr]) to = false := by rw [← hlast, List.dropLast_concat_getLast]; exact hw
  exact land_at2 y2 h0 fr.dropLast to t y z y1 y3 hw' hz h1
end Bow
/- SP16: the identities of a tree, counted, in plain Lean. -/
namespace Bow
open Go

mutual
def idsT : Tree → List Int
  | .mk i _ _ _ _ ss => i :: idsTs ss
def idsTs : List Tree → List Int
  | [] => []
  | s :: ss => idsT s ++ idsTs ss
end
theorem idsT_eq (t : Tree) : idsT t = t.id :: idsTs t.subs := by cases t; rw [idsT]; rfl
theorem idsTs_append : ∀ a b : List Tree, idsTs (a ++ b) = idsTs a ++ idsTs b
  | [], b => by rw [idsTs]; rfl
  | x :: a, b => by rw [List.cons_append, idsTs, idsTs, idsTs_append a b, List.append_assoc]
/-- A measure of rows that adds up. -/
def Adds (m : List Int → Nat) : Prop := ∀ a b, m (a ++ b) = m a + m b
section
variable {m : List Int → Nat}
theorem Adds.nil (h : Adds m) : m [] = 0 := by have := h [] []; simp at this; omega
theorem Adds.tree (h : Adds m) (t : Tree) : m (idsT t) = m [t.id] + m (idsTs t.subs) := by rw [idsT_eq, ← h]; rfl
theorem Adds.subs (h : Adds m) (t : Tree) (ss : List Tree) : m (idsT (t.withSubs ss)) + m (idsTs t.subs) = m (idsT t) + m (idsTs ss) := by
  rw [h.tree, h.tree t, withSubs_id, withSubs_subs]
  omega
theorem Adds.set (h : Adds m) {s u : Tree} : ∀ {l : List Tree} {i : Nat}, l[i]? = some s → m (idsTs (l.set i u)) + m (idsT s) = m (idsTs l) + m (idsT u)
  | [], i, q => by simp at q
  | x :: l, 0, q => by
    simp at q
    subst q
    rw [List.set_cons_zero, idsTs, idsTs, h, h]
    omega
  | x :: l, i + 1, q => by
    simp at q
    have := h.set (u := u) (l := l) q
    rw [List.set_cons_succ, idsTs, idsTs, h, h]
    omega
theorem Adds.change (h : Adds m) {F : Tree → Tree} {y : Tree} : ∀ {p : List Int} {t : Tree}, atT t p = some y → m (idsT (changeT F t p)) + m (idsT y) = m (idsT t) + m (idsT (F y))
  | [], t, q => by
    rw [atT] at q
    injection q with q
    subst q
    rw [changeT]
    omega
  | i :: p, t, q => by
    rw [atT] at q
    cases hs : subT t i with
    | none => rw [hs] at q; cases q
    | some s =>
      rw [hs] at q
      have ih := h.change (F := F) (p := p) q
      rw [changeT, hs]
      simp only
      have h1 := h.set (u := changeT F s p) (subT_some hs).2.1
      have h2 := h.subs t (t.subs.set i.toNat (changeT F s p))
      omega
theorem Adds.ins (h : Adds m) (n : Int) (x y : Tree) : m (idsT (insT n x y)) = m (idsT y) + m (idsT x) := by
  have h1 := h.subs y (y.subs.take n.toNat ++ x :: y.subs.drop n.toNat)
  have h2 : m (idsTs (y.subs.take n.toNat ++ x :: y.subs.drop n.toNat)) = m (idsTs y.subs) + m (idsT x) := by
    conv => rhs; rw [← List.take_append_drop n.toNat y.subs]
    rw [idsTs_append, idsTs_append, idsTs, h, h, h]
    omega
  unfold insT
  omega
theorem Adds.del (h : Adds m) {y x : Tree} {i : Int} (q : y.subs[i.toNat]? = some x) : m (idsT (delT i y)) + m (idsT x) = m (idsT y) := by
  have h1 := h.subs y (y.subs.take i.toNat ++ y.subs.drop (i.toNat + 1))
  have h2 : m (idsTs (y.subs.take i.toNat ++ y.subs.drop (i.toNat + 1))) + m (idsT x) = m (idsTs y.subs) := by
    have hl := lt_of_get q
    conv => rhs; rw [← List.take_append_drop i.toNat y.subs]
    rw [idsTs_append, idsTs_append, List.drop_eq_getElem_cons hl, idsTs, h, h, h]
    have : y.subs[i.toNat] = x := by rw [List.getElem?_eq_getElem hl] at q; injection q
    rw [this]
    omega
  unfold delT
  omega
theorem Adds.without (h : Adds m) {t x : Tree} {p : List Int} (hne : p ≠ []) (hx : atT t p = some x) : m (idsT (withoutT t p)) + m (idsT x) = m (idsT t) := by
  obtain ⟨y, y1, y2, y3, y4⟩ := at_parent hne hx
  rw [lastP_eq hne] at y4
  have h1 := h.change (F := delT (lastP p)) y1
  have h2 := h.del y4
  unfold withoutT
  omega
theorem Adds.same (h : Adds m) {F : Tree → Tree} {y t : Tree} {p : List Int} (hF : ∀ y, idsT (F y) = idsT y) (hy : atT t p = some y) : m (idsT (changeT F t p)) = m (idsT t) := by
  have := h.change (F := F) hy
  rw [hF] at this
  omega
theorem ids_fresh (o : OpT) : idsT (freshT o) = [o.id] := by rw [idsT_eq]; rfl
/-- What an operation takes away. -/
def goneT (t : Tree) (o : OpT) : List Int := bif decide (o.kind = 2) then (match atT t o.path with | some x => idsT x | none => []) else []
def moreT (o : OpT) : List Int := bif decide (o.kind = 1) then [o.id] else []
theorem Adds.apply (h : Adds m) {t : Tree} {o : OpT} (hv : ValidE t o = 0) : m (idsT (applyT t o)) + m (goneT t o) = m (idsT t) + m (moreT o) := by
  have h0 := h.nil
  cases good_of hv with
  | ins y hk hy hl h0 h1 h2 =>
    have e : applyT t o = changeT (insT o.at_ (freshT o)) t o.path := by unfold applyT; rw [hk]; rfl
    have e1 : goneT t o = [] := by unfold goneT; rw [hk]; rfl
    have e2 : moreT o = [o.id] := by unfold moreT; rw [hk]; rfl
    have q1 := h.change (F := insT o.at_ (freshT o)) hy
    have q2 := h.ins o.at_ (freshT o) y
    rw [ids_fresh] at q2
    rw [e, e1, e2]
    omega
  | del x hk hne hx =>
    have e : applyT t o = withoutT t o.path := by unfold applyT; rw [hk]; rfl
    have e1 : goneT t o = idsT x := by unfold goneT; rw [hk, hx]; rfl
    have e2 : moreT o = [] := by unfold moreT; rw [hk]; rfl
    have q1 := h.without hne hx
    rw [e, e1, e2]
    omega
  | mov x z hk hne hx hw hz hl h0 h1 =>
    have e : applyT t o = moveT x t o := by unfold applyT; rw [hk, hx]; rfl
    have e1 : goneT t o = [] := by unfold goneT; rw [hk]; rfl
    have e2 : moreT o = [] := by unfold moreT; rw [hk]; rfl
    obtain ⟨z', k1, k2, k3, k4, k5⟩ := land_of hne hx hw hz h0 h1
    have q1 := h.without hne hx
    have q2 := h.change (F := insT (landT o.path.dropLast (lastP o.path) o.to o.at_).2 x) k1
    have q3 := h.ins (landT o.path.dropLast (lastP o.path) o.to o.at_).2 x z'
    rw [e, e1, e2, moveT_eq]
    omega
  | att y hk hy h1 h2 =>
    have e : applyT t o = changeT (setAT o) t o.path := by unfold applyT; rw [hk]; rfl
    have e1 : goneT t o = [] := by unfold goneT; rw [hk]; rfl
    have e2 : moreT o = [] := by unfold moreT; rw [hk]; rfl
    rw [e, e1, e2, h.same (fun y => by cases y; rfl) hy]
  | lab y hk hy h2 =>
    have e : applyT t o = changeT (relabelT o.label) t o.path := by unfold applyT; rw [hk]; rfl
    have e1 : goneT t o = [] := by unfold goneT; rw [hk]; rfl
    have e2 : moreT o = [] := by unfold moreT; rw [hk]; rfl
    rw [e, e1, e2, h.same (fun y => by cases y; rfl) hy]
  | edt y hk hy hl he =>
    have e : applyT t o = changeT (retextT o.pieces) t o.path := by unfold applyT; rw [hk]; rfl
    have e1 : goneT t o = [] := by unfold goneT; rw [hk]; rfl
    have e2 : moreT o = [] := by unfold moreT; rw [hk]; rfl
    rw [e, e1, e2, h.same (fun y => by cases y; rfl) hy]
end
end Bow
/- W39: the reference's Same, IDs. -/
namespace Bow
open Go Go.Proofs

theorem attrs_take {α : Type} {xs ys : List α} {i : Nat} (h1 : i < xs.length) (h2 : i < ys.length) : (xs.drop i = ys.drop i) = (xs[i] = ys[i] ∧ xs.drop (i + 1) = ys.drop (i + 1)) := by
  rw [List.drop_eq_getElem_cons h1, List.drop_eq_getElem_cons h2, List.cons.injEq]

end Bow
/- SP17: a list of operations, in plain Lean. -/
namespace Bow
open Go

end Bow
/- W43a: ApplyAll, the program's and the reference's. -/
namespace Bow
open Go Go.Proofs

end Bow
/- W49: where nodes are behind an operation: shift.moves, of, number, land. -/
namespace Bow
open Go Go.Proofs

end Bow
/- W50: where a node is behind an operation: shift.Node. -/
namespace Bow
open Go Go.Proofs

end Bow
/- W51: shift.Node, all; Gap; Undo. -/
namespace Bow
open Go Go.Proofs

end Bow
/- W52: shift.Gap, Undo; square.sound, drop, shifted, won. -/
namespace Bow
open Go Go.Proofs

end Bow
/- W53: square.row (but for two edits), Behind, Both. -/
namespace Bow
open Go Go.Proofs

end Bow
/- W54: square.Behind, Both (but for two edits of one leaf). -/
namespace Bow
open Go Go.Proofs

end Bow
/- W55: leaftext's maker of a normal edit; norm. -/
namespace Bow
open Go Go.Proofs

end Bow
/- W56: leaftext's rows. -/
namespace Bow
open Go Go.Proofs

end Bow
/- W57: leaftext's rows go on; what is done. -/
namespace Bow
open Go Go.Proofs

end Bow
/- W58: leaftext.Transform. -/
namespace Bow
open Go Go.Proofs

end Bow
/- W59: leaftext.Transform, whole. -/
namespace Bow
open Go Go.Proofs

end Bow
/- W60: two edits of one leaf; square.Behind and Both, whole. -/
namespace Bow
open Go Go.Proofs

end Bow
/- SP20: a bare operation does what it did, in plain Lean. -/
namespace Bow
open Go

theorem bare1 {o : OpT} (h : o.kind = 1) : bareO o = { noOp 1 with path := o.path, at_ := o.at_, id := o.id, leaf := o.leaf, label := o.label } := by unfold bareO; rw [h]; rfl
theorem bare2 {o : OpT} (h : o.kind = 2) : bareO o = { noOp 2 with path := o.path } := by unfold bareO; rw [h]; rfl
theorem bare3 {o : OpT} (h : o.kind = 3) : bareO o = { noOp 3 with path := o.path, at_ := o.at_, to := o.to } := by unfold bareO; rw [h]; rfl
theorem bare4 {o : OpT} (h : o.kind = 4) : bareO o = { noOp 4 with path := o.path, key := o.key, gone := o.gone, value := bif o.gone then [] else o.value } := by unfold bareO; rw [h]; rfl
theorem bare5 {o : OpT} (h : o.kind = 5) : bareO o = { noOp 5 with path := o.path, label := o.label } := by unfold bareO; rw [h]; rfl
theorem bare6 {o : OpT} (h : o.kind = 6) : bareO o = { noOp 6 with path := o.path, pieces := o.pieces } := by unfold bareO; rw [h]; rfl
theorem bare_none {o : OpT} (h1 : o.kind ≠ 1) (h2 : o.kind ≠ 2) (h3 : o.kind ≠ 3) (h4 : o.kind ≠ 4) (h5 : o.kind ≠ 5) (h6 : o.kind ≠ 6) : bareO o = noOp o.kind := by
  have e1 : (o.kind == 1) = false := by simpa using h1
  have e2 : (o.kind == 2) = false := by simpa using h2
  have e3 : (o.kind == 3) = false := by simpa using h3
  have e4 : (o.kind == 4) = false := by simpa using h4
  have e5 : (o.kind == 5) = false := by simpa using h5
  have e6 : (o.kind == 6) = false := by simpa using h6
  unfold bareO
  rw [e1, e2, e3, e4, e5, e6]
  rfl
theorem bare0 {o : OpT} (h1 : o.kind ≠ 1) (h2 : o.kind ≠ 2) (h3 : o.kind ≠ 3) (h4 : o.kind ≠ 4) (h5 : o.kind ≠ 5) (h6 : o.kind ≠ 6) : formedB o = false ∧ formedB (bareO o) = false := by
  have e : (bareO o).kind = o.kind := by rw [bare_none h1 h2 h3 h4 h5 h6]; rfl
  constructor
  · unfold formedB
    simp [h1, h2, h3, h4, h5, h6]
  · unfold formedB
    rw [e]
    simp [h1, h2, h3, h4, h5, h6]
theorem kinds (o : OpT) : o.kind = 1 ∨ o.kind = 2 ∨ o.kind = 3 ∨ o.kind = 4 ∨ o.kind = 5 ∨ o.kind = 6 ∨ (o.kind ≠ 1 ∧ o.kind ≠ 2 ∧ o.kind ≠ 3 ∧ o.kind ≠ 4 ∧ o.kind ≠ 5 ∧ o.kind ≠ 6) := by omega
theorem bare_bare (o : OpT) : bareO (bareO o) = bareO o := by
  rcases kinds o with h | h | h | h | h | h | ⟨h1, h2, h3, h4, h5, h6⟩
  · rw [bare1 h]; rfl
  · rw [bare2 h]; rfl
  · rw [bare3 h]; rfl
  · rw [bare4 h]
    cases o.gone <;> rfl
  · rw [bare5 h]; rfl
  · rw [bare6 h]; rfl
  · rw [bare_none h1 h2 h3 h4 h5 h6, bare_none (o := noOp o.kind) h1 h2 h3 h4 h5 h6]
    rfl
theorem bare_formed (o : OpT) : formedB (bareO o) = formedB o := by
  rcases kinds o with h | h | h | h | h | h | ⟨h1, h2, h3, h4, h5, h6⟩
  · rw [bare1 h]; unfold formedB; rw [h]; rfl
  · rw [bare2 h]; unfold formedB; rw [h]; rfl
  · rw [bare3 h]; unfold formedB; rw [h]; rfl
  · rw [bare4 h]
    unfold formedB
    rw [h]
    cases o.gone <;> rfl
  · rw [bare5 h]; unfold formedB; rw [h]; rfl
  · rw [bare6 h]; unfold formedB; rw [h]; rfl
  · obtain ⟨q1, q2⟩ := bare0 h1 h2 h3 h4 h5 h6
    rw [q1, q2]
theorem bare_valid (t : Tree) (o : OpT) : ValidE t (bareO o) = ValidE t o := by
  unfold ValidE
  rw [bare_formed]
  rcases kinds o with h | h | h | h | h | h | ⟨h1, h2, h3, h4, h5, h6⟩
  · rw [bare1 h]; unfold validE; rw [h]; rfl
  · rw [bare2 h]; unfold validE; rw [h]; rfl
  · rw [bare3 h]; unfold validE; rw [h]; rfl
  · rw [bare4 h]; unfold validE; rw [h]; rfl
  · rw [bare5 h]; unfold validE; rw [h]; rfl
  · rw [bare6 h]; unfold validE; rw [h]; rfl
  · obtain ⟨q1, q2⟩ := bare0 h1 h2 h3 h4 h5 h6
    rw [q1]
    rfl
theorem bare_apply {t : Tree} {o : OpT} (hv : ValidE t o = 0) : applyT t (bareO o) = applyT t o := by
  have hf := (valid_right hv).2.1
  rcases kinds o with h | h | h | h | h | h | ⟨h1, h2, h3, h4, h5, h6⟩
  · rw [bare1 h]; unfold applyT; rw [h]; rfl
  · rw [bare2 h]; unfold applyT; rw [h]; rfl
  · rw [bare3 h]; unfold applyT; rw [h]; rfl
  · have e : ∀ y, setAT (bareO o) y = setAT o y := fun y => by
      rw [bare4 h]
      unfold setAT setA midA
      show y.withAttrs (y.attrs.take (posK o.key y.attrs) ++ ((bif o.gone then [] else [(o.key, bif o.gone then [] else o.value)]) ++ y.attrs.drop (posK o.key y.attrs + (bif hasK o.key y.attrs then 1 else 0)))) = _
      cases o.gone <;> rfl
    have e1 : applyT t (bareO o) = changeT (setAT (bareO o)) t o.path := by rw [bare4 h]; unfold applyT; rfl
    have e2 : applyT t o = changeT (setAT o) t o.path := by unfold applyT; rw [h]; rfl
    rw [e1, e2, funext e]
  · rw [bare5 h]; unfold applyT; rw [h]; rfl
  · rw [bare6 h]; unfold applyT; rw [h]; rfl
  · rw [(bare0 h1 h2 h3 h4 h5 h6).1] at hf
    cases hf
theorem bare_applyR (t : Tree) (o : OpT) : applyR t (bareO o) = applyR t o := by
  unfold applyR
  rw [bare_valid]
  by_cases h : ValidE t o = 0
  · rw [decide_eq_true h, bare_apply h]
  · rw [decide_eq_false h]
    rfl
end Bow
/- W48: operations that say the same. -/
namespace Bow
open Go Go.Proofs

set_option maxRecDepth 100000 in
theorem w_refSamePieces (xs ys : List PieceT) (hl : xs.length ≤ 1000000) : Pure Try.prog 28 [piecesV xs, piecesV ys] (fun x => x = .bool (decide (xs = ys))) := by
  refine pure_wk (pure_fn 300 Try.func28 rfl rfl rfl fun B => ?_)
  refine ⟨fun g1 => go 300 ?_, fun g1 => go 300 ?_⟩
  · have g1 := ne_of' g1
    exact ⟨trivial, rfl, rfl, rfl, leaf_ff (decide_eq_false fun e => g1 (by rw [e]))⟩
  have g1 : xs.length = ys.length := by have := eq_of' g1; simp at this; omega
  show Goes _ _ _ _
  refine goes_iter (ι := Nat) (fun i => i ≤ xs.length ∧ (xs.drop i = ys.drop i ↔ xs = ys)) (fun i => xs.length - i) (fun i => [(5, .int .i64 i), (0, piecesV xs), (1, piecesV ys)]) (fun _ => []) 0 300 (fun _ => rfl) (fun _ => rfl) ⟨⟨Nat.zero_le _, by simp⟩, ⟨⟨rfl, rfl⟩, ⟨rfl, rfl⟩, ⟨rfl, rfl⟩, trivial⟩, trivial⟩ ?_
  rintro i ⟨k1, k2⟩ next
  refine ⟨fun hlt => go 300 ?_, fun hge => go 300 ?_⟩
  · have hi : i < xs.length := by simpa using hlt
    have hi' : i < ys.length := by omega
    have hx : (xs.map pieceV)[i]? = some (pieceV xs[i]) := by simp [hi]
    have hy : (ys.map pieceV)[i]? = some (pieceV ys[i]) := by simp [hi']
    rw [attrs_take hi hi'] at k2
    show Goes _ _ _ _
    refine goes_draw 300 ⟨Int.natCast_nonneg i, _, hx, Int.natCast_nonneg i, _, hy, ?_⟩
    refine ⟨by kernel_rfl, ?_⟩
    refine ⟨by kernel_rfl, ?_⟩
    refine ⟨fun g2 => go 300 ?_, fun g2 => go 300 ?_⟩
    · refine ⟨trivial, rfl, rfl, rfl, leaf_ff (decide_eq_false fun e => ?_)⟩
      have := (k2.2 e).1
      rw [this] at g2
      simp at g2
    · refine ⟨by constructor <;> omega, ?_⟩
      have he : xs[i] = ys[i] := by
        simp at g2
        exact PieceT.ext g2.1 g2.2.1 g2.2.2
      exact next (i + 1) _ _ ⟨⟨hi, by rw [← k2]; exact ⟨fun h => ⟨he, h⟩, fun h => h.2⟩⟩, by omega, ⟨⟨rfl, rfl⟩, ⟨rfl, rfl⟩, ⟨rfl, rfl⟩, trivial⟩, trivial⟩
  · have hi : i = xs.length := by have : xs.length ≤ i := by simpa using hge
                                  omega
    subst hi
    refine ⟨trivial, rfl, rfl, rfl, leaf_tt (decide_eq_true (k2.1 ?_))⟩
    rw [List.drop_eq_nil_of_le (Nat.le_refl _), List.drop_eq_nil_of_le (by omega)]

set_option maxRecDepth 100000 in
theorem w_kitSamePieces (xs ys : List PieceT) (hl : xs.length ≤ 1000000) : Pure Try.prog 12 [piecesV xs, piecesV ys] (fun x => x = .bool (decide (xs = ys))) := by
  refine pure_wk (pure_fn 300 Try.func12 rfl rfl rfl fun B => ?_)
  refine ⟨fun g1 => go 300 ?_, fun g1 => go 300 ?_⟩
  · have g1 := ne_of' g1
    exact ⟨trivial, rfl, rfl, rfl, leaf_ff (decide_eq_false fun e => g1 (by rw [e]))⟩
  have g1 : xs.length = ys.length := by have := eq_of' g1; simp at this; omega
  show Goes _ _ _ _
  refine goes_iter (ι := Nat) (fun i => i ≤ xs.length ∧ (xs.drop i = ys.drop i ↔ xs = ys)) (fun i => xs.length - i) (fun i => [(5, .int .i64 i), (0, piecesV xs), (1, piecesV ys)]) (fun _ => []) 0 300 (fun _ => rfl) (fun _ => rfl) ⟨⟨Nat.zero_le _, by simp⟩, ⟨⟨rfl, rfl⟩, ⟨rfl, rfl⟩, ⟨rfl, rfl⟩, trivial⟩, trivial⟩ ?_
  rintro i ⟨k1, k2⟩ next
  refine ⟨fun hlt => go 300 ?_, fun hge => go 300 ?_⟩
  · have hi : i < xs.length := by simpa using hlt
    have hi' : i < ys.length := by omega
    have hx : (xs.map pieceV)[i]? = some (pieceV xs[i]) := by simp [hi]
    have hy : (ys.map pieceV)[i]? = some (pieceV ys[i]) := by simp [hi']
    rw [attrs_take hi hi'] at k2
    show Goes _ _ _ _
    refine goes_draw 300 ⟨Int.natCast_nonneg i, _, hx, Int.natCast_nonneg i, _, hy, ?_⟩
    refine ⟨by kernel_rfl, ?_⟩
    refine ⟨by kernel_rfl, ?_⟩
    refine ⟨fun g2 => go 300 ?_, fun g2 => go 300 ?_⟩
    · refine ⟨trivial, rfl, rfl, rfl, leaf_ff (decide_eq_false fun e => ?_)⟩
      have := (k2.2 e).1
      rw [this] at g2
      simp at g2
    · refine ⟨by constructor <;> omega, ?_⟩
      have he : xs[i] = ys[i] := by
        simp at g2
        exact PieceT.ext g2.1 g2.2.1 g2.2.2
      exact next (i + 1) _ _ ⟨⟨hi, by rw [← k2]; exact ⟨fun h => ⟨he, h⟩, fun h => h.2⟩⟩, by omega, ⟨⟨rfl, rfl⟩, ⟨rfl, rfl⟩, ⟨rfl, rfl⟩, trivial⟩, trivial⟩
  · have hi : i = xs.length := by have : xs.length ≤ i := by simpa using hge
                                  omega
    subst hi
    refine ⟨trivial, rfl, rfl, rfl, leaf_tt (decide_eq_true (k2.1 ?_))⟩
    rw [List.drop_eq_nil_of_le (Nat.le_refl _), List.drop_eq_nil_of_le (by omega)]

def eqO (x y : OpT) : Bool := decide (x.kind = y.kind) && (decide (x.path = y.path) && (decide (x.at_ = y.at_) && (decide (x.to = y.to) && (decide (x.id = y.id) && ((x.leaf == y.leaf) && (decide (x.label = y.label) && (decide (x.key = y.key) && (decide (x.value = y.value) && ((x.gone == y.gone) && decide (x.pieces = y.pieces))))))))))
theorem eqO_refl (x : OpT) : eqO x x = true := by simp [eqO]
def sameO (a b : OpT) : Bool := eqO (bareO a) (bareO b)
set_option maxHeartbeats 2000000 in
set_option maxRecDepth 100000 in
theorem w_SameO (a b : OpT) (ha : a.Lt 1000000) (hb : b.Lt 1000000) : Pure Try.prog 13 [opV a, opV b] (fun x => x = .bool (sameO a b)) := by
  have la := bare_lt ha
  have h1 := w_pathSame (bareO a).path (bareO b).path la.path
  have h2 := w_pathSame (bareO a).to (bareO b).to la.to
  have h3 := w_EqualPiece (bareO a).pieces (bareO b).pieces la.pieces
  refine pure_wk (pure_fn 300 Try.func13 rfl rfl rfl fun B => ?_)
  show Goes _ _ _ _
  refine goes_draw 300 ⟨_, w_Bare a ha, rfl, _, w_Bare b hb, rfl, ?_⟩
  refine ⟨by kernel_rfl, ?_⟩
  repeat' first
    | (refine ⟨fun _ => go 300 ?_, fun _ => go 300 ?_⟩)
    | (show CallThen _ _ _ _ _ _; refine call_pure h1 rfl ?_; rintro z rfl)
    | (show CallThen _ _ _ _ _ _; refine call_pure h2 rfl ?_; rintro z rfl)
    | (show CallThen _ _ _ _ _ _; refine call_pure h3 rfl ?_; rintro z rfl)
    | (refine ⟨trivial, rfl, rfl, rfl, leaf_ff ?_⟩)
    | (refine ⟨trivial, rfl, rfl, rfl, leaf_b ?_⟩)
    | fail
  all_goals (unfold sameO eqO; simp_all)

set_option maxHeartbeats 2000000 in
set_option maxRecDepth 100000 in
theorem w_refSameO (a b : OpT) (ha : a.Lt 1000000) (hb : b.Lt 1000000) : Pure Try.prog 14 [opV a, opV b] (fun x => x = .bool (sameO a b)) := by
  have la := bare_lt ha
  have h1 := w_refSame (bareO a).path (bareO b).path la.path
  have h2 := w_refSame (bareO a).to (bareO b).to la.to
  have h3 := w_refSamePieces (bareO a).pieces (bareO b).pieces la.pieces
  refine pure_wk (pure_fn 300 Try.func14 rfl rfl rfl fun B => ?_)
  show CallThen _ _ _ _ _ _
  refine call_pure (w_refBare a ha) rfl ?_
  rintro z rfl
  show CallThen _ _ _ _ _ _
  refine call_pure (w_refBare b hb) rfl ?_
  rintro z rfl
  repeat' first
    | (refine ⟨fun _ => go 300 ?_, fun _ => go 300 ?_⟩)
    | (show CallThen _ _ _ _ _ _; refine call_pure h1 rfl ?_; rintro z rfl)
    | (show CallThen _ _ _ _ _ _; refine call_pure h2 rfl ?_; rintro z rfl)
    | (show CallThen _ _ _ _ _ _; refine call_pure h3 rfl ?_; rintro z rfl)
    | (refine ⟨trivial, rfl, rfl, rfl, leaf_ff ?_⟩)
    | (refine ⟨trivial, rfl, rfl, rfl, leaf_b ?_⟩)
    | fail
  all_goals (unfold sameO eqO; simp_all)
end Bow
/- W61: the laws of chapter 12: what they use; the examples. -/
namespace Bow
open Go Go.Proofs

end Bow
/- W62: SquareTurned. -/
namespace Bow
open Go Go.Proofs

end Bow
/- W63: lists of operations: joined (slices.Concat), made bare; which are too many. -/
namespace Bow
open Go Go.Proofs

end Bow
/- W64: lists.bring, Both. -/
namespace Bow
open Go Go.Proofs

/-- Operations of a size that may be asked about. -/
def OkL (l : List OpT) : Prop := ∀ o ∈ l, o.Ok ∧ o.to.length ≤ 1000
theorem OkL.app {x y : List OpT} (hx : OkL x) (hy : OkL y) : OkL (x ++ y) := fun o ho => by
  rcases List.mem_append.1 ho with h | h
  · exact hx o h
  · exact hy o h
theorem OkL.head {a : OpT} {x : List OpT} (h : OkL (a :: x)) : OkL [a] := fun o ho => by rw [List.mem_singleton] at ho; exact ho ▸ h a List.mem_cons_self

end Bow
/- W65: lists.bring's walk. -/
namespace Bow
open Go Go.Proofs

end Bow
/- W66: the laws of chapter 13: what they use; the examples; which lists say the same. -/
namespace Bow
open Go Go.Proofs

end Bow
/- W68: which lists say the same; chapter 13's few. -/
namespace Bow
open Go Go.Proofs

end Bow
/- W69: the laws ListsSame and ListsJoined, walked. -/
namespace Bow
open Go Go.Proofs

end Bow
/- AE43: own memory that stands elsewhere, read: its length, an element's place, what lies there; pointers held against nil; a range over a function that holds own objects. -/
namespace Bow
open Go

section
variable {c : Cx} {E : Env} {T : Heap} {ops : Array Oper} {i : Nat} {rest : List Nat} {k : List Item} {o : Oper}

theorem goes_lenA {t e : TypeId} {x : Operand} {r g off l sz : Nat} {xs : List V} (n : Nat) (ho : lget ops.toList i = some o) (hg : o.guard = none) (hop : o.op = .call { callee := .builtin .len, args := #[x], argTypes := #[t] }) (hx : opd E x = .osl (.abs r) g off l)
    (ht : tyU c.P t = some (.slice e)) (hi : r ∉ c.imps) (hB : c.B r = some (.vec g sz xs)) (h : putE c.nt o.dst (.int .i64 l) E False fun E' => evp c n (.inRegion ops rest :: k) E' T) : Goes c (.inRegion ops (i :: rest) :: k) E T := by
  refine goes_opTo n ho hg hop (OpTo.still fun o hop w β H m a hs => ⟨.int .i64 l, ?_, .int _ _⟩) (fun cl h => by cases h) h
  have hr := opd_rep hs x
  have hH : H[r]? = some (some (.vec g sz xs)) := hs.baseAt hi hB
  simp only [hx, V.conv, Ref.conv] at hr
  generalize hq : a.eval x = q at hr
  cases hr with
  | oslNil => simp [execOp, hop, resolve, invoke, builtin, Builtin.len_, hq, run_underlying (tyU_sound ht), goInt]
  | oslBlk => simp [execOp, hop, resolve, invoke, builtin, Builtin.len_, hq, run_underlying (tyU_sound ht), goInt]
  | oslStale _ _ _ _ g' sz' xs' _ hH' hg =>
    rw [hH] at hH'
    injection hH' with hH'
    injection hH' with hH'
    injection hH' with e0 _ _
    omega
  | oslDead _ _ _ _ _ hd => rw [hH] at hd; cases hd

theorem goes_indexA {t e : TypeId} {x ix : Operand} {r g off l sz : Nat} {xs : List V} {kk : IntKind} {j : Int} {ti : TypeInfo} (n : Nat) (ho : lget ops.toList i = some o) (hg : o.guard = none) (hop : o.op = .indexAddr t x ix) (hx : opd E x = .osl (.abs r) g off l) (hix : opd E ix = .int kk j)
    (ht : tyU c.P t = some (.slice e)) (hti : tyI c.P e = some ti) (hsz : (Nat.beq sz ti.size && Nat.ble 1 sz) = true) (hi : r ∉ c.imps) (hB : c.B r = some (.vec g sz xs)) (h0 : 0 ≤ j) (hl : j < l)
    (h : putE c.nt o.dst (.eptr (.abs r) g (off + j.toNat) 0) E False fun E' => evp c n (.inRegion ops rest :: k) E' T) : Goes c (.inRegion ops (i :: rest) :: k) E T := by
  simp only [Bool.and_eq_true] at hsz
  have hsz := Nat.eq_of_beq_eq_true hsz.1
  refine goes_opTo n ho hg hop (OpTo.still fun o hop w β H m a hs => ?_) (fun cl h => by cases h) h
  have h1 := opd_rep hs x
  have h2 := opd_rep hs ix
  have hH : H[r]? = some (some (.vec g sz xs)) := hs.baseAt hi hB
  simp only [hx, V.conv, Ref.conv] at h1
  simp only [hix] at h2
  have e2 := rep_int h2
  generalize hq : a.eval x = q at h1
  cases h1 with
  | oslNil _ _ _ _ _ hH' hβ => omega
  | oslBlk _ _ _ _ sz' xs' b N ad cap hH' hβ hl' hN hcap ha hlen =>
    rw [hH] at hH'
    injection hH' with hH'
    injection hH' with hH'
    injection hH' with _ e3 e4
    subst e3 e4
    have := ha (by omega)
    subst this
    refine ⟨.pointer (some ⟨b, (off + j.toNat) * sz, none⟩), ?_, ?_⟩
    · have : (⟨b, off * sz, none⟩ : Addr).add (j.toNat * sz) = ⟨b, (off + j.toNat) * sz, none⟩ := by rw [add_none, Nat.add_mul]
      simp [execOp, hop, hq, e2, Instr.indexAt, asIntOf, run_underlying (tyU_sound ht), h0, hl, run_sizeOf' (tyI_sound hti), ← hsz, this]
    · simp only [V.conv, Ref.conv]
      exact .eptrLive r g _ 0 sz xs b N hH hβ (by omega)
  | oslStale _ _ _ _ g' sz' xs' _ hH' hg =>
    rw [hH] at hH'
    injection hH' with hH'
    injection hH' with hH'
    injection hH' with e0 _ _
    omega
  | oslDead _ _ _ _ _ hd => rw [hH] at hd; cases hd

/-! ### Pointers held against nil -/
end
end Bow
/- AE44: regions that draw their order and hold a call that hands back own memory. -/
namespace Bow
open Go

/-- A call that hands back a slice of own memory, into a reserved name. -/
theorem fact_call_make {c : Cx} {ops : Array Oper} {i : Nat} {o : Oper} {E : Env} {T : Heap} {gs : List Tmp} {f : Operand} {args : Array Operand} {ts : Array TypeId} {g : FuncId} {first cap : List V} {p sz : Nat} {xs : List V} (ho : ops[i]? = some o) (hg : Guarded ops o E gs true)
    (hop : o.op = .call { callee := .value f, args := args, argTypes := ts }) (hf : opd E f = .fn (.func g) first cap) (ha : V.pureL (first ++ args.toList.map (opd E) ++ cap) = true) (hd : T[p]? = some (some (.vec 0 0 [])))
    (h : Fun c.P g [] (first ++ args.toList.map (opd E) ++ cap) fun x T' => ∃ g0, x = .osl (.loc 0) g0 0 xs.length ∧ T' = [some (.vec g0 sz xs)]) :
    Fact c ops i E T ⟨o.dst, gs ++ tmpsOf o.op.operands.toList, [], .osl (.loc p) 2 0 xs.length, [(p, some (.vec 2 sz xs))], some p⟩ := by
  intro E' T' e1 e2 e3 w β H m a b cs rest k hs b1 b2 b4
  obtain ⟨q, q1, q2, q3⟩ := b4 p rfl
  have hag := opd_agree (E := E) (E' := E') (xs := o.op.operands.toList) fun t ht => e2 t (List.mem_append_right _ ht)
  rw [hop] at hag
  have hf' : opd E' f = .fn (.func g) first cap := by rw [hag f (by simp [Op.operands, Call.operands])]; exact hf
  have ha' : args.toList.map (opd E') = args.toList.map (opd E) := List.map_congr_left fun z hz => hag z (by simp [Op.operands, Call.operands]; exact .inr (by simpa using hz))
  obtain ⟨va, vc, hq, hl, hr⟩ := fn_rep hs hf' args
  rw [ha'] at hl hr
  unfold Fun at h
  obtain ⟨hen, h⟩ := h
  have hs0 : SRel [] 0 w β H [] ⟨[], [], fun r => (H[r]?).getD none, []⟩ bare := by
    refine ⟨hs.hrel, rfl, fun k => by simp [lk, V.conv]; exact .undef _, rfl, List.nodup_nil, by simp, rfl, fun r h _ => ?_, fun r h1 => ?_, by simp, by simp, by simp, rfl, by simp⟩
    · simp [h]
    · simp [List.getElem?_eq_none h1]
  obtain ⟨x, T1, v, w', β', H', m', fr, ⟨g0, rfl, rfl⟩, k1, k2, k3, k4, k5, k6⟩ := h w β H [] _ _ (b.atR a (.inRegion ops (i :: rest) :: k) :: cs) hs0 hl (fun j x v hj hv => by
    have h1 := hr j x v hj hv
    have hx := pureL_mem' _ ha x (List.mem_of_getElem? hj)
    rw [pure_conv _ _ hx] at h1 ⊢
    exact h1)
  have hm1 : m'.length = 1 := k1.mlen
  obtain ⟨r', rfl⟩ : ∃ r', m' = [r'] := by
    match m', hm1 with
    | [r'], _ => exact ⟨r', rfl⟩
  have hr' : H'[r']? = some (some (.vec g0 sz xs)) := k1.loc 0 r' _ rfl rfl
  have hr'l := lt_of_get hr'
  have hnew : H.length ≤ r' := by
    rcases Nat.lt_or_ge r' H.length with h1 | h1
    · exfalso
      obtain ⟨o1, ho1, _⟩ := k2.evo r' _ h1 hr'
      have h2 : (H[r']?).getD none = none := k1.own 0 r' (Nat.zero_le _) rfl
      rw [ho1] at h2
      cases h2
    · exact h1
  have hql := hs.lt q1
  have hqr : q ≠ r' := fun e => by omega
  have hHq : H[q]? = some (some (.vec 0 0 [])) := hs.loc p q _ q1 (q3.trans hd)
  have hlen : H.length ≤ H'.length := k2.len
  have hbase : ∀ r, r < H'.length → r ≠ r' → H'[r]? = some ((H[r]?).getD none) := fun r hr hne => k1.base r hr (by simpa using hne)
  have hold : ∀ r, r < H.length → H'[r]? = H[r]? := fun r hr => by
    rw [hbase r (Nat.lt_of_lt_of_le hr hlen) (by omega)]
    simp [hr]
  have hH'q : H'[q]? = some (some (.vec 0 0 [])) := by rw [hold q hql]; exact hHq
  have hβ'q : β' q = .none := k2.virt q hql q2
  have hob := k1.hrel.obj r' _ hr'
  obtain ⟨H2, hH2⟩ : ∃ H2 : Heap, H2 = (H'.set r' none).set q (some (.vec 2 sz xs)) := ⟨_, rfl⟩
  obtain ⟨β2, hβ2⟩ : ∃ β2 : Nat → Loc, β2 = upd β' q (β' r') := ⟨_, rfl⟩
  have hβq : β2 q = β' r' := by rw [hβ2]; exact upd_same _ _ _
  have hβn : ∀ r, r ≠ q → β2 r = β' r := fun r hr => by rw [hβ2]; exact upd_ne hr
  have hH2l : H2.length = H'.length := by rw [hH2]; simp
  have hH2q : H2[q]? = some (some (.vec 2 sz xs)) := by rw [hH2]; exact List.getElem?_set_self (by simp; omega)
  have hH2r : H2[r']? = some none := by rw [hH2, List.getElem?_set_ne hqr, List.getElem?_set_self hr'l]
  have hH2n : ∀ r, r ≠ q → r ≠ r' → H2[r]? = H'[r]? := fun r h1 h2 => by rw [hH2, List.getElem?_set_ne (fun e => h1 e.symm), List.getElem?_set_ne (fun e => h2 e.symm)]
  have hcase : ∀ (r : Nat) (o : HObj), H2[r]? = some (some o) → (r = q ∧ o = .vec 2 sz xs) ∨ (r ≠ q ∧ r ≠ r' ∧ H'[r]? = some (some o)) := fun r o hr => by
    by_cases h1 : r = q
    · subst h1
      rw [hH2q] at hr
      injection hr with hr
      injection hr with hr
      exact .inl ⟨rfl, hr.symm⟩
    · by_cases h2 : r = r'
      · subst h2
        rw [hH2r] at hr
        cases hr
      · rw [hH2n r h1 h2] at hr
        exact .inr ⟨h1, h2, hr⟩
  have f : Fr0 w' β' H' w' β2 H2 := by
    refine ⟨rfl, rfl, rfl, Nat.le_refl _, by rw [hH2l]; exact Nat.le_refl _, ?_, fun _ _ _ => rfl, ?_, fun r hr => hβn r (hr.ne hH'q (fun h => h)), fun r s hs => ?_⟩
    · intro r o' _ ho'
      rcases hcase r o' ho' with ⟨rfl, rfl⟩ | ⟨h1, _, h3⟩
      · exact ⟨_, hH'q, ⟨Nat.zero_le _, fun e => by omega⟩, fun hn => absurd hβ'q hn⟩
      · exact ⟨o', h3, Evo.refl _, fun _ _ => hβn r h1⟩
    · rintro bb ⟨r, M, ⟨o', hl', hln⟩, hb⟩
      rcases hcase r o' hl' with ⟨rfl, _⟩ | ⟨h1, _, h3⟩
      · rw [hβq] at hb
        exact .inr ⟨r', M, ⟨_, hr', fun h => h⟩, hb⟩
      · rw [hβn r h1] at hb
        exact .inr ⟨r, M, ⟨_, h3, hln⟩, hb⟩
    · rcases hcase r _ hs with ⟨_, h2⟩ | ⟨h1, _, h3⟩
      · cases h2
      · exact ⟨h3, hβn r h1⟩
  have hrel : HRel w' β2 H2 := by
    refine k1.hrel.step0 f ?_ ?_
    · intro r o' ho'
      rcases hcase r o' ho' with ⟨rfl, rfl⟩ | ⟨h1, _, h3⟩
      · refine .inr ?_
        rw [hβq]
        cases hb : β' r' with
        | none => trivial
        | nil => rw [hb] at hob; exact hob
        | blk bb N =>
          rw [hb] at hob
          obtain ⟨vs, e, _, c2, c3, c4, c5, c6, c7⟩ := hob
          exact ⟨vs, e, tyG_two _, c2, c3, c4, c5, c6, fun i x j c v h1 h2 h3 => (c7 i x j c v h1 h2 h3).mono0 f⟩
      · exact .inl ⟨h3, hβn r h1, fun _ _ _ => rfl⟩
    · rintro r s bb M M' ⟨o1, h1⟩ ⟨o2, h2⟩ hb hb'
      rcases hcase r o1 h1 with ⟨rfl, _⟩ | ⟨n1, n2, l1⟩
      · rcases hcase s o2 h2 with ⟨rfl, _⟩ | ⟨n3, n4, l2⟩
        · rfl
        · rw [hβq] at hb
          rw [hβn s n3] at hb'
          exact absurd (k1.hrel.inj r' s bb M M' ⟨_, hr'⟩ ⟨_, l2⟩ hb hb').symm n4
      · rcases hcase s o2 h2 with ⟨rfl, _⟩ | ⟨n3, n4, l2⟩
        · rw [hβq] at hb'
          rw [hβn r n1] at hb
          exact absurd (k1.hrel.inj r r' bb M M' ⟨_, l1⟩ ⟨_, hr'⟩ hb hb') n2
        · rw [hβn r n1] at hb
          rw [hβn s n3] at hb'
          exact k1.hrel.inj r s bb M M' ⟨_, l1⟩ ⟨_, l2⟩ hb hb'
  have ft : Fr0 w β H w' β2 H2 := k2.toFr0.trans f
  have hml : m.length = T'.length := hs.mlen
  have hpT : p < T'.length := by have := lt_of_get q1; omega
  have hT'p : T'[p]? = some (some (.vec 0 0 [])) := q3.trans hd
  have hsr : SRel c.imps c.nt w' β2 H2 m ⟨E', T'.set p (some (.vec 2 sz xs)), c.B, c.D⟩ a := by
    refine ⟨hrel, hs.size, fun k => (hs.env k).mono0 ft, by simpa using hml, hs.nodup, fun j r ob hj hob' => ?_, hs.imp, fun r hr hm => ?_, fun r hr => hs.fut r (by omega), hs.own, fun p hp => by simpa using hs.scE p hp, fun j ob hob' => ?_, hs.defs, fun j n hj => ?_⟩
    · by_cases hjp : j = p
      · subst hjp
        rw [q1] at hj
        injection hj with hj
        subst hj
        simp only at hob'
        rw [List.getElem?_set_self hpT] at hob'
        injection hob' with hob'
        subst hob'
        exact hH2q
      · simp only at hob'
        rw [List.getElem?_set_ne (fun e => hjp e.symm)] at hob'
        have hrq : r ≠ q := fun e => hjp (hs.inj hj (e ▸ q1))
        have hrl := hs.lt hj
        rw [hH2n r hrq (by omega), hold r hrl]
        exact hs.loc j r ob hj hob'
    · have hrq : r ≠ q := fun e => hm (e ▸ List.mem_of_getElem? q1)
      by_cases hrr : r = r'
      · subst hrr
        have : c.B r = none := hs.fut r hnew
        simp only
        rw [hH2r, this]
      · rw [hH2n r hrq hrr]
        rcases Nat.lt_or_ge r H.length with h1 | h1
        · rw [hold r h1]
          exact hs.base r h1 hm
        · have : c.B r = none := hs.fut r h1
          simp only
          rw [hbase r (by omega) hrr, this, List.getElem?_eq_none h1]
          rfl
    · simp only [List.length_set] at hob' ⊢
      by_cases hjp : j = p
      · subst hjp
        rw [List.getElem?_set_self hpT] at hob'
        injection hob' with hob'
        injection hob' with hob'
        subst hob'
        trivial
      · rw [List.getElem?_set_ne (fun e => hjp e.symm)] at hob'
        exact hs.scT j ob hob'
    · obtain ⟨r, b', N', d1, d2, d3, d4⟩ := hs.marks j n hj
      have hnp : n ≠ p := fun e => by
        subst e
        simp only at d2
        rw [hT'p] at d2
        cases d2
      have hrq : r ≠ q := fun e => hnp (hs.inj d1 (e ▸ q1))
      refine ⟨r, b', N', d1, by simp only; rw [List.getElem?_set_ne (fun e => hnp e.symm)]; exact d2, ?_, d4⟩
      rw [hβn r hrq]
      have hH0 := hs.loc n r _ d1 d2
      exact dfr_stays k2 (by simpa [HObj.conv] using hH0) d3 (by rw [hold r (hs.lt d1), hH0]; rfl)
  refine ⟨v, w', β2, H2, call_steps ho (hg.wanted (fun t ht => e2 t (List.mem_append_left _ ht)) hs) hop hq hen k4 k6, hsr, ft, fun s hsl hn hne => ?_, ?_⟩
  · have hsq : s ≠ q := fun e => hne p rfl (e ▸ q1)
    rw [hβn s hsq]
    exact k2.virt s hsl hn
  · simp only [V.conv, Ref.conv, q1]
    simp only [V.conv, Ref.conv, List.getElem?_cons_zero] at k3
    have hv : ∀ g2 sz2 xs2, H'[r']? = some (some (.vec g2 sz2 xs2)) → g2 = g0 ∧ sz2 = sz ∧ xs2 = xs := fun g2 sz2 xs2 h2 => by
      rw [hr'] at h2
      injection h2 with h2
      injection h2 with h2
      injection h2 with e0 e1 e2
      exact ⟨e0.symm, e1.symm, e2.symm⟩
    generalize hn : xs.length = n at k3
    cases k3 with
    | oslNil _ _ sz2 xs2 ad hH' hβ =>
      exact .oslNil q 2 sz xs ad hH2q (hβq.trans hβ)
    | oslBlk _ _ _ _ sz2 xs2 bb N ad cap' hH' hβ hl' hN hcap ha hlen' =>
      obtain ⟨_, rfl, rfl⟩ := hv _ _ _ hH'
      exact .oslBlk q 2 0 n sz2 xs2 bb N ad cap' hH2q (hβq.trans hβ) hl' hN hcap ha hlen'
    | oslStale _ _ _ _ g' sz' xs' _ hH' hg' =>
      obtain ⟨e, _, _⟩ := hv _ _ _ hH'
      omega
    | oslDead _ _ _ _ _ hd' => rw [hr'] at hd'; cases hd'

/-! ### The evaluation of such a region -/
/-- A call of one of these functions. -/
def isMk (mk : List FuncId) : Op → Bool
  | .call { callee := .value (.func h), .. } => memN mk h
  | _ => false
def evdN (mk : List FuncId) (c : Cx) (ops : List Oper) (gt : List Tmp) : List Oper → Nat → Env → Heap → (Env → Heap → List Sig → Prop) → Prop
  | [], _, E, T, K => K E T []
  | o :: os, p, E, T, K =>
    let next (x : V) (T' : Heap) (g touch keys : List Nat) : Prop := bif (makesS o.op || isMk mk o.op) then putR c.nt gt o.dst x E fun E' => evdN mk c ops gt os (p + 1) E' T' fun En Tn ss => K En Tn (⟨o.dst, g, touch, keys⟩ :: ss) else putR c.nt gt o.dst x E fun E' => evdN mk c ops gt os p E' T' fun En Tn ss => K En Tn (⟨o.dst, g, touch, keys⟩ :: ss)
    gK ops o E (fun g => next (.tup []) T g [] []) fun g =>
      lfix (g ++ tmpsOf o.op.operands.toList) fun g =>
      bif makes E o.op then evMk c o.op E T p fun x ob kills tc => lfix tc fun tc => lfix (keysOf kills) fun ks => appC T (kills ++ [(p, some ob)]) fun T' => next x T' g (p :: tc) (p :: ks)
      else bif isMk mk o.op then match o.op with
        | .call { callee := .value f, args, .. } => match opd E f with
          | .fn (.func h) first cap => opds E args.toList fun vs => ∃ (sz : Nat) (xs : List V), Fun c.P h [] (first ++ vs ++ cap) (fun x T' => ∃ g0, x = .osl (.loc 0) g0 0 xs.length ∧ T' = [some (.vec g0 sz xs)]) ∧ V.pureL (first ++ vs ++ cap) = true ∧ lget T p = some (some (.vec 0 0 [])) ∧
            appC T [(p, some (.vec 2 sz xs))] fun T' => next (.osl (.loc p) 2 0 xs.length) T' g [p] [p]
          | _ => False
        | _ => False
      else match o.op with
        | .call { callee := .value f, args, .. } => match opd E f with
          | .fn (.func h) first cap => opds E args.toList fun vs => frzAll (first ++ vs ++ cap) T False fun ws _ => lfix (keysOf (killsOf (first ++ vs ++ cap))) fun ks =>
            ∃ x, Pure c.P h ws (fun y => y = x) ∧ V.pureL ws = true ∧ bif flatB x then next x T g ks [] else appC T (killsOf (first ++ vs ++ cap)) fun T' => next x T' g ks ks
          | _ => False
        | op => evOp c op E T False fun x T' => lfix (touch E op) fun tc => lfix (wr E op) fun ks => next x T' g tc ks

theorem evdN_sound {mk : List FuncId} {c : Cx} {ops : Array Oper} {gt : List Tmp} : ∀ (os : List Oper) (i p : Nat) (E : Env) (T : Heap) (K : Env → Heap → List Sig → Prop), evdN mk c ops.toList gt os p E T K → (∀ k, os[k]? = ops[i + k]?) → i + os.length = ops.size →
    ∃ rs ss En Tn, RunP c ops i p E T rs ss En Tn ∧ K En Tn ss
  | [], i, p, E, T, K, h, _, hi => ⟨[], [], E, T, ⟨by simpa using hi, rfl, rfl⟩, h⟩
  | o :: os, i, p, E, T, K, h, hos, hi => by
    unfold evdN at h
    extract_lets next at h
    have ho : ops[i]? = some o := by have := hos 0; simpa using this.symm
    have hos' : ∀ k, os[k]? = ops[i + 1 + k]? := fun k => by have := hos (k + 1); rw [List.getElem?_cons_succ] at this; rw [this, sa]
    have hi' : i + 1 + os.length = ops.size := by simp at hi; omega
    have hlt : i < ops.size := by simp at hi; omega
    -- what follows, from a fact
    have go : ∀ (r : Rec) (g tc ks : List Nat), Fact c ops i E T r → r.dst = o.dst → next r.x (app T r.eff) g tc ks → (∀ t ∈ r.reads, t ∈ g) → (∀ k ∈ r.touch, k ∈ tc) → (∀ k ∈ keysOf r.eff, k ∈ ks) →
        (∀ q, r.virt = some q → q = p ∧ p ∈ tc ∧ p < T.length ∧ (makesS o.op || isMk mk o.op) = true) → ∃ rs ss En Tn, RunP c ops i p E T rs ss En Tn ∧ K En Tn ss := by
      intro r g tc ks hf hd hn h1 h2 h3 h4
      have hn : putR c.nt gt o.dst r.x E fun E' => evdN mk c ops.toList gt os (bif (makesS o.op || isMk mk o.op) then p + 1 else p) E' (app T r.eff) fun En Tn ss => K En Tn (⟨o.dst, g, tc, ks⟩ :: ss) := by
        have h0 := hn
        simp only [next] at h0
        cases hm : (makesS o.op || isMk mk o.op) <;> (rw [hm] at h0; exact h0)
      obtain ⟨x', hk, hdst, hx⟩ := putR_sound hn
      obtain ⟨rs, ss, En, Tn, k1, k2⟩ := evdN_sound os (i + 1) _ _ _ _ hk hos' hi'
      refine ⟨{ r with x := x' } :: rs, ⟨o.dst, g, tc, ks⟩ :: ss, En, Tn, ⟨hf.put hx, by rw [hd]; exact hdst, ⟨hd.symm, h1, h2, h3, fun q hq => ?_⟩, hlt, (bif (makesS o.op || isMk mk o.op) then p + 1 else p), ?_, ?_, ?_⟩, k2⟩
      · obtain ⟨e, hp, _⟩ := h4 q hq
        rw [e]
        exact hp
      · cases (makesS o.op || isMk mk o.op) <;> simp
      · intro q hq
        obtain ⟨e, _, hp, hm⟩ := h4 q hq
        rw [hm]
        exact ⟨e, Nat.le_refl _, hp⟩
      · rw [hd]
        exact k1
    rcases gK_sound h with ⟨gs, hg, h⟩ | ⟨gs, hg, h⟩
    · exact go _ gs [] [] (fact_skip ho hg) rfl h (fun t ht => ht) (fun k hk => hk) (fun k hk => hk) (fun q hq => by cases hq)
    · rw [lfix_eq] at h
      cases hm : makes E o.op with
      | true =>
        rw [hm] at h
        simp only [cond_true] at h
        obtain ⟨x, ob, kills, tc, hk, hf, hp⟩ := fact_mk (gs := gs) ho hg h
        rw [lfix_eq, lfix_eq, appC_eq] at hk
        refine go _ _ _ _ hf rfl hk (fun t ht => ht) (fun k hk => List.mem_cons_of_mem _ hk) (fun k hk => ?_) (fun q hq => ?_)
        · rw [keysOf_append] at hk
          rcases List.mem_append.1 hk with h | h
          · exact List.mem_cons_of_mem _ h
          · simp only [keysOf, List.mem_singleton] at h
            rw [h]
            exact List.mem_cons_self
        · injection hq with hq
          subst hq
          exact ⟨rfl, List.mem_cons_self, hp, by rw [makes_S hm]; rfl⟩
      | false =>
        rw [hm] at h
        simp only [cond_false] at h
        cases hmk : isMk mk o.op with
        | true =>
          simp only [hmk, cond_true] at h
          split at h
          · rename_i f args ts hop
            split at h
            · rename_i h' first cap hfv
              rw [opds_eq] at h
              obtain ⟨sz, xs, hfu, hpl, hlp, hk⟩ := h
              rw [appC_eq] at hk
              rw [lget_eq] at hlp
              exact go _ _ _ _ (fact_call_make ho hg hop hfv hpl hlp hfu) rfl hk (fun t ht => ht) (fun k hk => by cases hk) (fun k hk => hk) (fun q hq => by
                injection hq with hq
                subst hq
                exact ⟨rfl, List.mem_singleton.2 rfl, lt_of_get hlp, by rw [hmk]; simp⟩)
            · exact h.elim
          · exact h.elim
        | false =>
        simp only [hmk, cond_false] at h
        split at h
        · rename_i f args ts hop
          split at h
          · rename_i h' first cap hfv
            rw [opds_eq] at h
            rcases frzAll_det (F := False) _ T _ h with h | ⟨ws, h, hdet⟩
            · exact h.elim
            rw [lfix_eq] at h
            obtain ⟨x, hpu, hpl, hk⟩ := h
            cases hx : flatB x with
            | true =>
              rw [hx] at hk
              exact go _ _ _ _ (fact_call_flat ho hg hop hfv hpl hx hdet hpu) rfl hk (fun t ht => ht) (fun k hk => hk) (fun k hk => by cases hk) (fun q hq => by cases hq)
            | false =>
              rw [hx] at hk
              simp only [cond_false] at hk
              rw [appC_eq] at hk
              exact go _ _ _ _ (fact_call_frz ho hg hop hfv hpl hdet hpu) rfl hk (fun t ht => ht) (fun k hk => hk) (fun k hk => hk) (fun q hq => by cases hq)
          · exact h.elim
        · rcases fact_op ho hg hm h with h | ⟨x, eff, hk, hf, hw⟩
          · exact h.elim
          rw [lfix_eq, lfix_eq] at hk
          refine go _ _ _ _ hf rfl hk (fun t ht => ht) (fun k hk => hk) (fun k hk => ?_) (fun q hq => by cases hq)
          have : ∀ (es : List (Nat × Option HObj)), k ∈ keysOf es → ∃ e ∈ es, e.1 = k := by
            intro es
            induction es with
            | nil => intro h; cases h
            | cons e es ih =>
              intro h
              rcases List.mem_cons.1 h with rfl | h
              · exact ⟨e, List.mem_cons_self, rfl⟩
              · obtain ⟨e', h1, h2⟩ := ih h
                exact ⟨e', List.mem_cons_of_mem _ h1, h2⟩
          obtain ⟨e, he, rfl⟩ := this eff hk
          exact hw e he

def dumsN (mk : List FuncId) : List Oper → Heap
  | [] => []
  | o :: os => bif (makesS o.op || isMk mk o.op) then some (dummyOf o.op) :: dumsN mk os else dumsN mk os
theorem dumsN_mem (mk : List FuncId) : ∀ (os : List Oper) (x : Option HObj), x ∈ dumsN mk os → ∃ d, x = some d ∧ (d = .box [] ∨ d = .vec 0 0 [])
  | [], x, h => by cases h
  | o :: os, x, h => by
    rw [dumsN] at h
    cases hb : (makesS o.op || isMk mk o.op) with
    | false => rw [hb] at h; exact dumsN_mem mk os x h
    | true =>
      rw [hb] at h
      rcases List.mem_cons.1 h with rfl | h
      · refine ⟨_, rfl, ?_⟩
        unfold dummyOf
        split <;> simp
      · exact dumsN_mem mk os x h
theorem goes_draw_ofN (mk : List FuncId) {c : Cx} {ops : Array Oper} {id : Nat} {k : List Item} {E : Env} {T : Heap} {rs : List Rec} {ss : List Sig} {En : Env} {Tn : Heap} (h : RunP c ops 0 T.length E (T ++ dumsN mk ops.toList) rs ss En Tn) (hc : chk ops.toList ss 0 [] [] = true) (hk : Goes c k En Tn) : Goes c (.code (.region id ops true) :: k) E T := by
  obtain ⟨hG, rfl, rfl, hp⟩ := good_of_run h
  refine goes_step fun w β H m a b cs hs h1 h2 h3 => ?_
  -- the draw
  have hsched : ∃ md t, Region.schedule (c.P.follows .mixedOrders) ops (w.tape w.drawn (.order b.fn id)) = Region.linearise md ops t := by
    unfold Region.schedule
    split
    · exact ⟨_, _, rfl⟩
    · exact ⟨_, _, rfl⟩
  obtain ⟨md, t, hmd⟩ := hsched
  have hf0 : Fr w β H { w with drawn := w.drawn + 1 } β H := Fr.of_heap rfl rfl rfl rfl
  have hs0 : SRel c.imps c.nt { w with drawn := w.drawn + 1 } β H m ⟨E, T, c.B, c.D⟩ a := hs.same hf0 (hs.hrel.of_heap rfl rfl rfl rfl)
  obtain ⟨β1, H1, m1, k1, k2, k3, k4⟩ := reserveAll (dumsN mk ops.toList) (dumsN_mem mk _) hs0
  have hml : m1.length = (T ++ dumsN mk ops.toList).length := k1.mlen
  have hzero : ∀ j, (fun _ : Nat => false) j = (Array.replicate ops.size false).getD j false := fun j => by
    by_cases hj : j < ops.size
    · simp [Array.getD, hj]
    · simp [Array.getD, hj]
  obtain ⟨w2, β2, H2, a2, g1, g2, g3, g4⟩ := run_draw md hG hc k1.scE ops.size t (Array.replicate ops.size false) (fun _ => false) { w with drawn := w.drawn + 1 } β1 H1 m1 a b cs k hzero (by simp)
    (by unfold unl; exact Nat.le_trans (List.length_filter_le _ _) (by simp)) (fun i hi => by cases hi) (by
      rw [envS_none _ _ _ fun _ _ => rfl, heapS_none _ _ _ fun _ _ => rfl]
      exact k1) (fun j r p hj _ hv => by
        obtain ⟨q, q1, q2, _⟩ := k4 p (hG.virt j r p hj hv) (by have := hp j r p hj hv; simpa using this)
        exact ⟨q, q1, q2⟩) (fun j r _ hj => by cases hj) h1 h2
  refine ⟨w2, β2, H2, m1, a2, k, ⟨_, _, c.B, c.D⟩, ?_, g2, ?_, hk⟩
  · refine .head stepR_region_draw ?_
    rw [hmd]
    exact g1.trans (.one stepR_region_end)
  · refine ⟨(hf0.toFr0.trans k2.toFr0).trans g3, fun r hr hn => ?_⟩
    have hn1 := k2.virt r hr hn
    refine g4 r (Nat.lt_of_lt_of_le hr k2.len) hn1 fun p hp hq => ?_
    by_cases hlt : p < T.length + (dumsN mk ops.toList).length
    · obtain ⟨q, q1, _, q3⟩ := k4 p hp hlt
      rw [hq] at q1
      injection q1 with q1
      omega
    · have := lt_of_get hq
      rw [hml, List.length_append] at this
      omega
theorem goes_drawN (mk : List FuncId) {c : Cx} {ops : Array Oper} {id : Nat} {k : List Item} {E : Env} {T : Heap} (n : Nat) (h : catC T (dumsN mk ops.toList) fun T0 => evdN mk c ops.toList (guardTmps ops.toList ops.toList) ops.toList T.length E T0 fun En Tn ss => chk ops.toList ss 0 [] [] = true ∧ evp c n k En Tn) :
    Goes c (.code (.region id ops true) :: k) E T := by
  rw [catC_eq] at h
  obtain ⟨rs, ss, En, Tn, h1, h2, h3⟩ := evdN_sound (mk := mk) ops.toList 0 T.length E _ _ h (fun k => by rw [Nat.zero_add, Array.getElem?_toList]) (by simp)
  exact goes_draw_ofN mk h1 h2 (evp_sound n _ _ _ _ h3)
end Bow
