/- The library, part 7: W57, W58, W59, W60, SP24, SP25, SP26, SP30, SP20, W48, W61, W62, W63, W64, W65, W66, W68, W69, AE43, AE44, AE45, AE46, W76, W77, W78, SP28, W67, SP27, SP31, W70, W71. -/
import Derived.Test.YthaigpiepfdaeaaGreatMf
import Derived.Test.YthaigpiepfdaeaaGreatMe
import Derived.Test.YthaigpiepfdaeaaGreatMd
/- W57: leaftext's rows go on; what is done. -/
namespace Bow
open Go Go.Proofs

def runV (r : Int × Bool × Bool) : V := .tup [.int .i64 r.1, .bool r.2.1, .bool r.2.2]
def rowB (d r : List PieceT) (g : Nat) : HObj := .box [.osl (.loc 1) g d.length r.length]

set_option maxRecDepth 100000 in
theorem w_rowRun (d0 r0 : List PieceT) (g : Nat) : Fun Tryz.prog 248 [some (rowB d0 r0 g), some (rowVec d0 r0 g)] [.ptr (.loc 0) 0] (fun x T => x = runV (rowRun r0).1 ∧ ∃ d, d ++ (rowRun r0).2 = d0 ++ r0 ∧ T = [some (rowB d (rowRun r0).2 g), some (rowVec d (rowRun r0).2 g)]) := by
  have wk : ∀ {n : Int} {x y : V} {a b : Bool}, (x = .tt ∧ a = true ∨ x = .ff ∧ a = false) → (y = .tt ∧ b = true ∨ y = .ff ∧ b = false) → Wk (.tup [.int .i64 n, x, y]) (runV (n, a, b)) := by
    rintro n x y a b (⟨rfl, rfl⟩ | ⟨rfl, rfl⟩) (⟨rfl, rfl⟩ | ⟨rfl, rfl⟩) <;> exact Wk.tup ⟨.refl _, by first | exact Wk.tt | exact Wk.ff, by first | exact Wk.tt | exact Wk.ff, trivial⟩
  refine fun_wk (fun_keep 2 rfl (fun_fn 300 Tryz.func248 rfl rfl rfl fun imps B hi => ?_))
  show Goes _ _ _ _
  refine goes_iter (ι := List PieceT × List PieceT) (fun i => i.1 ++ i.2 = d0 ++ r0 ∧ rowRun i.2 = rowRun r0 ∧ i.2.length ≤ r0.length) (fun i => i.2.length) (fun i => [(0, .ptr (.loc 0) 0)]) (fun i => [some (rowB i.1 i.2 g), some (rowVec i.1 i.2 g)]) (d0, r0) 300 (fun _ => rfl) (fun _ => by rw [hi]; rfl)
    ⟨⟨rfl, rfl, Nat.le_refl _⟩, ⟨⟨rfl, rfl⟩, trivial⟩, ⟨⟨rfl, rfl⟩, ⟨rfl, rfl⟩, trivial⟩⟩ ?_
  rintro ⟨d, r⟩ ⟨k1, k2, k3⟩ next
  simp only at k1 k2 k3
  cases r with
  | nil =>
    refine ⟨rfl, ?_⟩
    refine ⟨fun g1 => absurd (lt_of g1) (by simp), fun g1 => go 300 ?_⟩
    have e : rowRun r0 = ((0, false, false), []) := k2.symm
    rw [e]
    exact ⟨trivial, rfl, rfl, [some (rowB d [] g), some (rowVec d [] g)], rfl, rfl, ⟨⟨rfl, rfl⟩, ⟨rfl, rfl⟩, trivial⟩, _, wk (.inr ⟨rfl, rfl⟩) (.inr ⟨rfl, rfl⟩), rfl, rfl, rfl, d, k1, rfl⟩
  | cons p r =>
    refine ⟨rfl, ?_⟩
    refine ⟨fun g1 => go 300 ?_, fun g1 => absurd (not_lt_of g1) (by simp)⟩
    have hl : (0 : Int) < ((p :: r).length : Nat) := by simp
    refine ⟨rfl, by decide, hl, rfl, _, row_get d p r, ?_⟩
    refine ⟨fun g2 => go 300 ?_, fun g2 => go 300 ?_⟩
    · have e : rowRun r0 = ((p.keep, false, true), p :: r) := by rw [← k2, rowRun, g2]; rfl
      rw [e]
      exact ⟨trivial, rfl, rfl, [some (rowB d (p :: r) g), some (rowVec d (p :: r) g)], rfl, rfl, ⟨⟨rfl, rfl⟩, ⟨rfl, rfl⟩, trivial⟩, _, wk (.inr ⟨rfl, rfl⟩) (.inl ⟨rfl, rfl⟩), rfl, rfl, rfl, d, k1, rfl⟩
    · refine ⟨fun g3 => go 300 ?_, fun g3 => go 300 ?_⟩
      · have e : rowRun r0 = ((p.drop, true, true), p :: r) := by rw [← k2, rowRun, g2, g3]; rfl
        rw [e]
        exact ⟨trivial, rfl, rfl, [some (rowB d (p :: r) g), some (rowVec d (p :: r) g)], rfl, rfl, ⟨⟨rfl, rfl⟩, ⟨rfl, rfl⟩, trivial⟩, _, wk (.inl ⟨rfl, rfl⟩) (.inl ⟨rfl, rfl⟩), rfl, rfl, rfl, d, k1, rfl⟩
      · have e : rowRun r = rowRun r0 := by rw [← k2, rowRun, g2, g3]; rfl
        show Goes _ _ _ _
        refine goes_cutlo (h := 1) 300 rfl rfl rfl rfl rfl rfl rfl rfl rfl (by simp) ?_
        show Goes _ _ _ _
        have k1' : (d ++ [p]) ++ r = d0 ++ r0 := by rw [← k1]; simp
        refine next (d ++ [p], r) _ _ ⟨⟨k1', e, by simp only; simp at k3; omega⟩, by simp, ⟨⟨rfl, rfl⟩, trivial⟩, ⟨⟨?_, rfl⟩, ⟨?_, rfl⟩, trivial⟩⟩
        · show some (HObj.box [.osl (.loc 1) g (d.length + 1) ((p :: r).length - 1)]) = some (rowB (d ++ [p]) r g)
          simp [rowB]
        · show some (rowVec d (p :: r) g) = some (rowVec (d ++ [p]) r g)
          simp [rowVec]
def boxAt (k : Nat) (d r : List PieceT) (g : Nat) : HObj := .box [.osl (.loc k) g d.length r.length]
def rows2 (da a db b : List PieceT) (ga gb : Nat) : Heap := [some (boxAt 1 da a ga), some (rowVec da a ga), some (boxAt 3 db b gb), some (rowVec db b gb)]
def bothV (r : Int × Bool × Bool × Bool) : V := .tup [.int .i64 r.1, .bool r.2.1, .bool r.2.2.1, .bool r.2.2.2]
theorem rows2_take (n : Int) (da a db b : List PieceT) (ga gb : Nat) : [some (boxAt 1 da a ga), some (rowVec da (rowTake n a) ga), some (boxAt 3 db b gb), some (rowVec db (rowTake n b) gb)] = rows2 da (rowTake n a) db (rowTake n b) ga gb := by
  simp only [rows2, boxAt, rowTake_len]
set_option maxHeartbeats 1000000 in
set_option maxRecDepth 100000 in
theorem w_both (da a db b : List PieceT) (ga gb : Nat) (ha : RowOk a) (hb : RowOk b) : Fun Tryz.prog 232 (rows2 da a db b ga gb) [.ptr (.loc 0) 0, .ptr (.loc 2) 0] (fun x T => x = bothV (bothR a b).1 ∧ ∃ da' db', T = rows2 da' (bothR a b).2.1 db' (bothR a b).2.2 ga gb) := by
  have wk : ∀ {n : Int} {x y a b : Bool} {z : V}, x = a → y = b → z = .tt → Wk (.tup [.int .i64 n, .bool x, .bool y, z]) (bothV (n, a, b, true)) := by
    rintro n x y a b z rfl rfl rfl
    exact Wk.tup ⟨.refl _, .refl _, .refl _, Wk.tt, trivial⟩
  obtain ⟨oa, na, na'⟩ := rowRun_ok ha
  obtain ⟨ob, nb, nb'⟩ := rowRun_ok hb
  have ca := w_rowRun da a ga
  have cb := w_rowRun db b gb
  obtain ⟨⟨⟨n, x1, s1⟩, a'⟩, hra⟩ : ∃ z, rowRun a = z := ⟨_, rfl⟩
  obtain ⟨⟨⟨m, y1, s2⟩, b'⟩, hrb⟩ : ∃ z, rowRun b = z := ⟨_, rfl⟩
  have eb := bothR_eq hra hrb
  rw [hra] at oa na na' ca
  rw [hrb] at ob nb nb' cb
  rw [eb]
  clear eb hra hrb
  refine fun_wk (fun_fn 300 Tryz.func232 rfl rfl rfl fun imps B hi => ?_)
  show CallThen _ _ _ _ _ _
  refine call_sub [0, 1] ca rfl rfl ⟨⟨rfl, rfl⟩, ⟨rfl, rfl⟩, trivial⟩ rfl rfl rfl ?_
  rintro x T1 ⟨rfl, d1, -, rfl⟩
  refine ⟨rfl, ?_⟩
  show CallThen _ _ _ _ _ _
  refine call_sub [2, 3] cb rfl rfl ⟨⟨rfl, rfl⟩, ⟨rfl, rfl⟩, trivial⟩ rfl rfl rfl ?_
  rintro x T1 ⟨rfl, d2, -, rfl⟩
  refine ⟨rfl, ?_⟩
  cases s1 <;> cases s2 <;> (refine ⟨fun g1 => ?_, fun g1 => ?_⟩ <;> first | (cases g1; done) | skip)
  · refine go 300 ?_
    refine ⟨fun g2 => go 300 ?_, fun g2 => (by cases g2)⟩
    exact ⟨trivial, rfl, rfl, bothV (0, false, false, false), Wk.tup ⟨.refl _, Wk.ff, Wk.ff, Wk.ff, trivial⟩, rfl, rfl, rfl, d1, d2, rfl⟩
  · refine go 300 ?_
    refine ⟨fun g2 => (by cases g2), fun g2 => go 300 ?_⟩
    refine ⟨fun g3 => go 300 ?_, fun g3 => (by cases g3)⟩
    have hk : 0 ≤ m ∧ m ≤ 1000000000000 := ⟨nb, nb'⟩
    show CallThen _ _ _ _ _ _
    refine call_sub [1] (w_rowTake d1 a' ga m hk oa.p) rfl rfl ⟨⟨rfl, rfl⟩, trivial⟩ rfl rfl rfl ?_
    rintro x T1 ⟨rfl, rfl⟩
    refine ⟨rfl, ?_⟩
    show CallThen _ _ _ _ _ _
    refine call_sub [3] (w_rowTake d2 b' gb m hk ob.p) rfl rfl ⟨⟨rfl, rfl⟩, trivial⟩ rfl rfl rfl ?_
    rintro x T1 ⟨rfl, rfl⟩
    refine ⟨rfl, ?_⟩
    refine ⟨trivial, rfl, rfl, bothV (m, x1, y1, true), wk rfl rfl rfl, rfl, rfl, ?_, d1, d2, ?_⟩
    · rfl
    · exact rows2_take _ d1 a' d2 b' ga gb
  · refine go 300 ?_
    refine ⟨fun g3 => (by cases g3), fun g3 => go 300 ?_⟩
    refine ⟨fun g4 => (by cases g4), fun g4 => go 300 ?_⟩
    have hk : 0 ≤ n ∧ n ≤ 1000000000000 := ⟨na, na'⟩
    show CallThen _ _ _ _ _ _
    refine call_sub [1] (w_rowTake d1 a' ga n hk oa.p) rfl rfl ⟨⟨rfl, rfl⟩, trivial⟩ rfl rfl rfl ?_
    rintro x T1 ⟨rfl, rfl⟩
    refine ⟨rfl, ?_⟩
    show CallThen _ _ _ _ _ _
    refine call_sub [3] (w_rowTake d2 b' gb n hk ob.p) rfl rfl ⟨⟨rfl, rfl⟩, trivial⟩ rfl rfl rfl ?_
    rintro x T1 ⟨rfl, rfl⟩
    refine ⟨rfl, ?_⟩
    refine ⟨trivial, rfl, rfl, bothV (n, x1, y1, true), wk rfl rfl rfl, rfl, rfl, ?_, d1, d2, ?_⟩
    · rfl
    · exact rows2_take _ d1 a' d2 b' ga gb
  · refine go 300 ?_
    refine ⟨fun g3 => (by cases g3), fun g3 => go 300 ?_⟩
    refine ⟨fun g4 => go 300 ?_, fun g4 => (by cases g4)⟩
    have em : (if m < n then m else n) = min n m := by split <;> omega
    have hk : 0 ≤ (if m < n then m else n) ∧ (if m < n then m else n) ≤ 1000000000000 := by simp only at na na' nb nb'; split <;> omega
    show CallThen _ _ _ _ _ _
    refine call_sub [1] (w_rowTake d1 a' ga (if m < n then m else n) hk oa.p) rfl rfl ⟨⟨rfl, rfl⟩, trivial⟩ rfl rfl rfl ?_
    rintro x T1 ⟨rfl, rfl⟩
    refine ⟨rfl, ?_⟩
    show CallThen _ _ _ _ _ _
    refine call_sub [3] (w_rowTake d2 b' gb (if m < n then m else n) hk ob.p) rfl rfl ⟨⟨rfl, rfl⟩, trivial⟩ rfl rfl rfl ?_
    rintro x T1 ⟨rfl, rfl⟩
    refine ⟨rfl, ?_⟩
    refine ⟨trivial, rfl, rfl, bothV ((if m < n then m else n), x1, y1, true), wk rfl rfl rfl, rfl, rfl, ?_, d1, d2, ?_⟩
    · rw [em]; rfl
    · rw [em]; exact rows2_take _ d1 a' d2 b' ga gb
end Bow
/- W58: leaftext.Transform. -/
namespace Bow
open Go Go.Proofs

theorem mk_len {m : Mk} (hok : m.Ok) (hw : m.w ≤ 1000000000000) : m.l.length ≤ 1000000000000 ∧ ∀ p ∈ m.l, p.put.length ≤ 1000000000000 := by
  have h1 := sumW_len hok.l
  have h2 := hok.k
  unfold Mk.w at hw
  refine ⟨by omega, fun p hp => ?_⟩
  have h3 := sumW_mem hok.l p hp
  have h4 := (hok.l p hp).k
  have h5 := (hok.l p hp).d
  unfold PieceT.w at h3
  omega
theorem mk_keep {m : Mk} (hok : m.Ok) : m.keep ≤ m.w := by
  have h1 := sumW_len hok.l
  unfold Mk.w
  omega
set_option maxRecDepth 100000 in
theorem w_done (m : Mk) (g : Nat) (hok : m.Ok) (hw : m.w ≤ 1000000000000) : Fun Tryz.prog 206 (mkT m g) [.ptr (.loc 0) 0] (fun x T => x = .tup [.osl (.loc 1) g 0 m.l.length, .bool (rightP m.l)] ∧ T = mkT m g) := by
  obtain ⟨h1, h2⟩ := mk_len hok hw
  have cr := w_RightW m.l h1 h2
  refine fun_fn 300 Tryz.func206 rfl rfl rfl fun imps B hi => ?_
  show Goes _ _ _ _
  refine goes_draw 300 ⟨rfl, by simp, _, cr, rfl, ?_⟩
  refine ⟨by kernel_rfl, ?_⟩
  exact ⟨trivial, rfl, rfl, rfl, rfl⟩

def mkAt (k : Nat) (m : Mk) (g : Nat) : HObj := .box [.osl (.loc k) g 0 m.l.length, .int .i64 m.keep]
/-- What the closure holds: the rows, which one is prior, the makers. -/
def putsT (prior : Bool) (da db : List PieceT) (s : Tr) (ga gb gx gy : Nat) : Heap :=
  [some (boxAt 1 da s.p ga), some (rowVec da s.p ga), some (boxAt 3 db s.q gb), some (rowVec db s.q gb), some (.box [.bool prior]), some (mkAt 6 s.x gx), some (mkVec s.x gx), some (mkAt 8 s.y gy), some (mkVec s.y gy)]
theorem putsT_len (prior : Bool) (da db p p' q q' : List PieceT) (x y : Mk) (ga gb gx gy : Nat) (h1 : p'.length = p.length) (h2 : q'.length = q.length) :
    [some (boxAt 1 da p ga), some (rowVec da p' ga), some (boxAt 3 db q gb), some (rowVec db q' gb), some (.box [.bool prior]), some (mkAt 6 x gx), some (mkVec x gx), some (mkAt 8 y gy), some (mkVec y gy)] = putsT prior da db ⟨p', q', x, y⟩ ga gb gx gy := by
  simp only [putsT, boxAt, h1, h2]

set_option pp.maxSteps 300 in
set_option maxHeartbeats 1000000 in
set_option maxRecDepth 100000 in
theorem w_puts (prior : Bool) (da db : List PieceT) (s : Tr) (ga gb gx gy : Nat) (hp : RowOk s.p) (hq : RowOk s.q) (hx : s.x.Ok) (hy : s.y.Ok) (wx : s.x.w + rowR s.p + rowR s.q ≤ 900000000000) (wy : s.y.w + rowR s.p + rowR s.q ≤ 900000000000) :
    Fun Tryz.prog 230 (putsT prior da db s ga gb gx gy) [.ptr (.loc 0) 0, .ptr (.loc 2) 0, .ptr (.loc 4) 0, .ptr (.loc 5) 0, .ptr (.loc 7) 0] (fun x T => x = .tup [] ∧ ∃ gx' gy', T = putsT prior da db (s.puts prior) ga gb gx' gy') := by
  obtain ⟨p, q, x, y⟩ := s
  simp only at hp hq hx hy wx wy
  have cp := w_rowPut da p ga
  have cq := w_rowPut db q gb
  have lp := rowPut_len p
  have lq := rowPut_len q
  obtain ⟨-, rp, -, bp⟩ := rowPut_ok hp
  obtain ⟨-, rq, -, bq⟩ := rowPut_ok hq
  have np := rowR_nn (rowPut_ok hp).1.nn
  have nq := rowR_nn (rowPut_ok hq).1.nn
  have nx := hx.k
  have ny := hy.k
  have e : Tr.puts prior ⟨p, q, x, y⟩ = bif prior then ⟨(rowPut p).2, (rowPut q).2, (x.put (rowPut p).1).kept (rowPut q).1.length, (y.kept (rowPut p).1.length).put (rowPut q).1⟩ else ⟨(rowPut p).2, (rowPut q).2, (x.kept (rowPut q).1.length).put (rowPut p).1, (y.put (rowPut q).1).kept (rowPut p).1.length⟩ := rfl
  rw [e]
  clear e
  obtain ⟨⟨a, p'⟩, ha⟩ : ∃ z, rowPut p = z := ⟨_, rfl⟩
  obtain ⟨⟨b, q'⟩, hb⟩ : ∃ z, rowPut q = z := ⟨_, rfl⟩
  rw [ha] at cp lp rp bp np ⊢
  rw [hb] at cq lq rq bq nq ⊢
  simp only at lp rp bp np lq rq bq nq
  clear ha hb
  refine fun_keep 9 rfl (fun_fn 300 Tryz.func230 rfl rfl rfl fun imps B hi => ?_)
  show CallThen _ _ _ _ _ _
  refine call_sub [1] cp rfl rfl ⟨⟨rfl, rfl⟩, trivial⟩ rfl rfl rfl ?_
  rintro z T1 ⟨rfl, rfl⟩
  refine ⟨rfl, ?_⟩
  show CallThen _ _ _ _ _ _
  refine call_sub [3] cq rfl rfl ⟨⟨rfl, rfl⟩, trivial⟩ rfl rfl rfl ?_
  rintro z T1 ⟨rfl, rfl⟩
  refine ⟨rfl, ?_⟩
  refine ⟨fun g1 => go 300 ?_, fun g1 => go 300 ?_⟩
  · subst g1
    show CallThen _ _ _ _ _ _
    refine call_sub [5, 6] (w_mkPut x gx a hx (by omega) (by omega)) rfl rfl ⟨⟨rfl, rfl⟩, ⟨rfl, rfl⟩, trivial⟩ rfl rfl rfl ?_
    rintro z T1 ⟨gx', rfl, rfl⟩
    refine ⟨rfl, ?_⟩
    obtain ⟨x1, x2⟩ := Mk.put_ok (s := a) hx
    have x3 := mk_keep x1
    have x4 := x1.k
    have y3 := mk_keep hy
    obtain ⟨y1, y2⟩ := Mk.kept_ok (n := (a.length : Int)) hy (Int.natCast_nonneg _)
    refine ⟨by constructor <;> (simp only; omega), ?_⟩
    refine ⟨by constructor <;> (simp only; omega), ?_⟩
    show CallThen _ _ _ _ _ _
    refine call_sub [7, 8] (w_mkPut (y.kept a.length) gy b y1 (by omega) (by omega)) rfl rfl ⟨⟨rfl, rfl⟩, ⟨rfl, rfl⟩, trivial⟩ rfl rfl rfl ?_
    rintro z T1 ⟨gy', rfl, rfl⟩
    refine ⟨rfl, ?_⟩
    refine ⟨trivial, rfl, rfl, putsT true da db ⟨p', q', (x.put a).kept b.length, (y.kept a.length).put b⟩ ga gb gx' gy', rfl, rfl, ?_, rfl, gx', gy', rfl⟩
    rw [← putsT_len true da db p p' q q' _ _ ga gb gx' gy' lp lq]
    exact ⟨⟨rfl, rfl⟩, ⟨rfl, rfl⟩, ⟨rfl, rfl⟩, ⟨rfl, rfl⟩, ⟨rfl, rfl⟩, ⟨rfl, rfl⟩, ⟨rfl, rfl⟩, ⟨rfl, rfl⟩, ⟨rfl, rfl⟩, trivial⟩
  · subst g1
    show CallThen _ _ _ _ _ _
    refine call_sub [7, 8] (w_mkPut y gy b hy (by omega) (by omega)) rfl rfl ⟨⟨rfl, rfl⟩, ⟨rfl, rfl⟩, trivial⟩ rfl rfl rfl ?_
    rintro z T1 ⟨gy', rfl, rfl⟩
    refine ⟨rfl, ?_⟩
    obtain ⟨y1, y2⟩ := Mk.put_ok (s := b) hy
    have y3 := mk_keep y1
    have y4 := y1.k
    have x3 := mk_keep hx
    obtain ⟨x1, x2⟩ := Mk.kept_ok (n := (b.length : Int)) hx (Int.natCast_nonneg _)
    refine ⟨by constructor <;> (simp only; omega), ?_⟩
    refine ⟨by constructor <;> (simp only; omega), ?_⟩
    show CallThen _ _ _ _ _ _
    refine call_sub [5, 6] (w_mkPut (x.kept b.length) gx a x1 (by omega) (by omega)) rfl rfl ⟨⟨rfl, rfl⟩, ⟨rfl, rfl⟩, trivial⟩ rfl rfl rfl ?_
    rintro z T1 ⟨gx', rfl, rfl⟩
    refine ⟨rfl, ?_⟩
    refine ⟨trivial, rfl, rfl, putsT false da db ⟨p', q', (x.kept b.length).put a, (y.put b).kept a.length⟩ ga gb gx' gy', rfl, rfl, ?_, rfl, gx', gy', rfl⟩
    rw [← putsT_len false da db p p' q q' _ _ ga gb gx' gy' lp lq]
    exact ⟨⟨rfl, rfl⟩, ⟨rfl, rfl⟩, ⟨rfl, rfl⟩, ⟨rfl, rfl⟩, ⟨rfl, rfl⟩, ⟨rfl, rfl⟩, ⟨rfl, rfl⟩, ⟨rfl, rfl⟩, ⟨rfl, rfl⟩, trivial⟩
end Bow
/- W59: leaftext.Transform, whole. -/
namespace Bow
open Go Go.Proofs

def TransV (r : List PieceT × List PieceT × Int) : V := .tup [piecesV r.1, piecesV r.2.1, .int .i64 r.2.2]
theorem transZ {e : Int} {R : List PieceT × List PieceT × Int} (h : R = ([], [], e)) : ∃ y, Wk (.tup [.nilsl, .nilsl, .int .i64 e]) y ∧ y.pureB = true ∧ y = TransV R := ⟨TransV ([], [], e), Wk.tup ⟨Wk.nil 3, Wk.nil 3, .refl _, trivial⟩, rfl, by rw [h]⟩
structure TrI where
  f : Nat
  s : Tr
  d1 : List PieceT
  d2 : List PieceT
  gx : Nat
  gy : Nat
def trT (prior : Bool) (j1 j2 : HObj) (ga gb : Nat) (i : TrI) : Heap :=
  [some (.box [.bool prior]), some j1, some (rowVec i.d1 i.s.p ga), some j2, some (rowVec i.d2 i.s.q gb), some (boxAt 2 i.d1 i.s.p ga), some (boxAt 4 i.d2 i.s.q gb), some (mkAt 9 i.s.x i.gx), some (mkAt 10 i.s.y i.gy), some (mkVec i.s.x i.gx), some (mkVec i.s.y i.gy)]

set_option maxHeartbeats 4000000 in
set_option maxRecDepth 100000 in
theorem w_Trans (a b : List PieceT) (prior : Bool) (ha : a.length ≤ 1000000) (hb : b.length ≤ 1000000) (pa : ∀ p ∈ a, p.put.length ≤ 1000000000) (pb : ∀ p ∈ b, p.put.length ≤ 1000000000) :
    Pure Tryz.prog 211 [piecesV a, piecesV b, .bool prior] (fun x => x = TransV (transP a b prior)) := by
  obtain ⟨R, hR⟩ : ∃ R, transP a b prior = R := ⟨_, rfl⟩
  rw [hR]
  refine pure_wk (pure_fn 300 Tryz.func211 rfl rfl rfl fun B => ?_)
  have bad : (rightP a = false ∨ rightP b = false) → R = ([], [], 2) := fun h => by
    rw [← hR]
    unfold transP
    rcases h with h | h
    · rw [h]; rfl
    · rw [h]; cases rightP a <;> rfl
  show CallThen _ _ _ _ _ _
  refine call_pure (w_Right a ha pa) rfl ?_
  rintro x rfl
  refine ⟨fun g1 => go 300 ?_, fun g1 => go 300 ?_⟩
  · exact ⟨trivial, rfl, rfl, rfl, transZ (bad (.inl (by simpa using g1)))⟩
  have ra : rightP a = true := by simpa using g1
  show CallThen _ _ _ _ _ _
  refine call_pure (w_Right b hb pb) rfl ?_
  rintro x rfl
  refine ⟨fun g2 => go 300 ?_, fun g2 => go 300 ?_⟩
  · exact ⟨trivial, rfl, rfl, rfl, transZ (bad (.inr (by simpa using g2)))⟩
  have rb : rightP b = true := by simpa using g2
  obtain ⟨na, sa⟩ := right_nn ra
  obtain ⟨nb, sb⟩ := right_nn rb
  obtain ⟨oa, wa⟩ := norm_ok ra
  obtain ⟨ob, wb⟩ := norm_ok rb
  have la := sumW_len na
  have lb := sumW_len nb
  show CallThen _ _ _ _ _ _
  refine call_sub [] (w_norm a na (by omega) (by omega)) rfl rfl trivial rfl rfl rfl ?_
  rintro x T1 ⟨ga, ka, rfl, rfl⟩
  refine ⟨rfl, ?_⟩
  show CallThen _ _ _ _ _ _
  refine call_sub [] (w_norm b nb (by omega) (by omega)) rfl rfl trivial rfl rfl rfl ?_
  rintro x T1 ⟨gb, kb, rfl, rfl⟩
  refine ⟨rfl, ?_⟩
  show Goes _ _ _ _
  refine goes_ownCell 7 0 3 rfl rfl ?_
  refine goes_ownCell 8 0 3 rfl rfl ?_
  obtain ⟨fin, hfin⟩ : ∃ fin, Tr.go prior (extN (normP a) + extN (normP b) + 1) ⟨normP a, normP b, Mk.nil, Mk.nil⟩ = fin := ⟨_, rfl⟩
  have good : R = bif !rightP fin.x.l || !rightP fin.y.l then ([], [], 3) else (fin.x.l, fin.y.l, 0) := by
    rw [← hR]
    unfold transP
    rw [ra, rb, hfin]
    rfl
  refine goes_iter (ι := TrI) (fun i => i.s.Ok ∧ extN i.s.p + extN i.s.q < i.f ∧ Tr.go prior i.f i.s = fin) (fun i => i.f)
    (fun _ => [(13, .fn (.func 230) [] [.ptr (.loc 5) 0, .ptr (.loc 6) 0, .ptr (.loc 0) 0, .ptr (.loc 7) 0, .ptr (.loc 8) 0]), (9, .ptr (.loc 5) 0), (10, .ptr (.loc 6) 0), (11, .ptr (.loc 7) 0), (12, .ptr (.loc 8) 0)])
    (trT prior (.box [.osl (.loc 2) ga 0 (normP a).length, .int .i64 ka]) (.box [.osl (.loc 4) gb 0 (normP b).length, .int .i64 kb]) ga gb)
    ⟨extN (normP a) + extN (normP b) + 1, ⟨normP a, normP b, Mk.nil, Mk.nil⟩, [], [], 0, 0⟩ 300 (fun _ => rfl) (fun _ => rfl) ⟨⟨⟨oa, ob, Mk.nil_ok, Mk.nil_ok, ?_, ?_⟩, Nat.lt_succ_self _, hfin⟩, ⟨⟨rfl, rfl⟩, ⟨rfl, rfl⟩, ⟨rfl, rfl⟩, ⟨rfl, rfl⟩, ⟨rfl, rfl⟩, trivial⟩,
      ⟨⟨rfl, rfl⟩, ⟨rfl, rfl⟩, ⟨rfl, rfl⟩, ⟨rfl, rfl⟩, ⟨rfl, rfl⟩, ⟨rfl, rfl⟩, ⟨rfl, rfl⟩, ⟨rfl, rfl⟩, ⟨rfl, rfl⟩, ⟨rfl, rfl⟩, ⟨rfl, rfl⟩, trivial⟩⟩ ?_
  · show (0 : Int) + sumW [] + 3 * (rowR (normP a) + rowR (normP b)) ≤ _
    simp only [sumW]; omega
  · show (0 : Int) + sumW [] + 3 * (rowR (normP a) + rowR (normP b)) ≤ _
    simp only [sumW]; omega
  rintro ⟨f, s, d1, d2, gx, gy⟩ ⟨k1, k2, k3⟩ next
  simp only at k1 k2 k3
  obtain ⟨f, rfl⟩ : ∃ f', f = f' + 1 := ⟨f - 1, by omega⟩
  have rp := rowR_nn k1.p.nn
  have rq := rowR_nn k1.q.nn
  have wx := k1.wx
  have wy := k1.wy
  obtain ⟨o1, e1, e2⟩ := Tr.puts_ok k1 prior
  show CallThen _ _ _ _ _ _
  refine call_sub [5, 2, 6, 4, 0, 7, 9, 8, 10] (w_puts prior d1 d2 s ga gb gx gy k1.p k1.q k1.x k1.y (by omega) (by omega)) rfl rfl
    ⟨⟨rfl, rfl⟩, ⟨rfl, rfl⟩, ⟨rfl, rfl⟩, ⟨rfl, rfl⟩, ⟨rfl, rfl⟩, ⟨rfl, rfl⟩, ⟨rfl, rfl⟩, ⟨rfl, rfl⟩, ⟨rfl, rfl⟩, trivial⟩ rfl rfl rfl ?_
  rintro z T1 ⟨rfl, gx', gy', rfl⟩
  refine ⟨rfl, ?_⟩
  obtain ⟨⟨p, q, x, y⟩, hs1⟩ : ∃ z, s.puts prior = z := ⟨_, rfl⟩
  rw [hs1] at o1 e1 e2 ⊢
  obtain ⟨op, oq, ox, oy, ux, uy⟩ := o1
  simp only at op oq ox oy ux uy e1 e2
  have rp' := rowR_nn op.nn
  have rq' := rowR_nn oq.nn
  obtain ⟨b1, b2, b3, b4, b5, b6⟩ := bothR_ok op oq
  have cb := w_both d1 p d2 q ga gb op oq
  obtain ⟨⟨⟨n, d, g, any⟩, p', q'⟩, hb1⟩ : ∃ z, bothR p q = z := ⟨_, rfl⟩
  have hgo := Tr.go_succ (f := f) hs1 hb1
  rw [hb1] at b1 b2 b3 b4 b5 b6 cb
  simp only at b1 b2 b3 b4 b5 b6
  show CallThen _ _ _ _ _ _
  refine call_sub [5, 2, 6, 4] cb rfl rfl ⟨⟨rfl, rfl⟩, ⟨rfl, rfl⟩, ⟨rfl, rfl⟩, ⟨rfl, rfl⟩, trivial⟩ rfl rfl rfl ?_
  rintro z T1 ⟨rfl, d1', d2', rfl⟩
  refine ⟨rfl, ?_⟩
  refine ⟨fun g3 => go 300 ?_, fun g3 => go 300 ?_⟩
  · have ha' : any = false := by simpa using g3
    subst ha'
    have hfx : fin = ⟨p', q', x, y⟩ := by rw [← k3, hgo]; rfl
    rw [hfx] at good
    simp only at good
    show CallThen _ _ _ _ _ _
    refine call_sub [7, 9] (w_done x gx' ox (by omega)) rfl rfl ⟨⟨rfl, rfl⟩, ⟨rfl, rfl⟩, trivial⟩ rfl rfl rfl ?_
    rintro z T1 ⟨rfl, rfl⟩
    refine ⟨rfl, ?_⟩
    show CallThen _ _ _ _ _ _
    refine call_sub [8, 10] (w_done y gy' oy (by omega)) rfl rfl ⟨⟨rfl, rfl⟩, ⟨rfl, rfl⟩, trivial⟩ rfl rfl rfl ?_
    rintro z T1 ⟨rfl, rfl⟩
    refine ⟨rfl, ?_⟩
    refine ⟨fun g4 => go 300 ?_, fun g4 => go 300 ?_⟩
    · have g4 : rightP x.l = false := by simpa using g4
      exact ⟨trivial, rfl, rfl, rfl, transZ (by rw [good, g4]; rfl)⟩
    have g4 : rightP x.l = true := by simpa using g4
    refine ⟨fun g5 => go 300 ?_, fun g5 => go 300 ?_⟩
    · have g5 : rightP y.l = false := by simpa using g5
      exact ⟨trivial, rfl, rfl, rfl, transZ (by rw [good, g4, g5]; rfl)⟩
    have g5 : rightP y.l = true := by simpa using g5
    have hres : TransV (x.l, y.l, 0) = TransV R := by rw [good, g4, g5]; rfl
    refine ⟨trivial, rfl, rfl, ?_⟩
    refine ⟨rfl, ?_⟩
    refine ⟨by simp, ?_⟩
    refine ⟨rfl, ?_⟩
    refine ⟨by simp, ?_⟩
    refine ⟨rfl, ?_⟩
    exact ⟨TransV (x.l, y.l, 0), Wk.refl _, rfl, hres⟩
  · have ha' : any = true := by simpa using g3
    subst ha'
    have cc := b5 rfl
    have c1 := cc.1
    have c2 := cc.2.1
    have c3 := cc.2.2
    have q1 : (Tr.does ⟨p', q', x, y⟩ n d g).Ok := (Tr.does_ok (p := p') (q := q') (x := x) (y := y) (n := n) (R := rowR p + rowR q) b1 b2 ox oy b3 c2 ux uy d g).1
    have hnext : Tr.go prior f (Tr.does ⟨p', q', x, y⟩ n d g) = fin := by rw [← k3, hgo]; rfl
    have hext : extN p' + extN q' < f := by omega
    refine ⟨fun g4 => go 300 ?_, fun g4 => go 300 ?_⟩
    · have g4 : d = true := g4
      subst g4
      refine ⟨fun g5 => go 300 ?_, fun g5 => go 300 ?_⟩
      · have g5 : g = true := g5
        subst g5
        show Goes _ _ _ _
        refine next ⟨f, ⟨p', q', x, y⟩, d1', d2', gx', gy'⟩ _ _ ⟨⟨q1, hext, hnext⟩, Nat.lt_succ_self _, ⟨⟨rfl, rfl⟩, ⟨rfl, rfl⟩, ⟨rfl, rfl⟩, ⟨rfl, rfl⟩, ⟨rfl, rfl⟩, trivial⟩,
          ⟨⟨rfl, rfl⟩, ⟨rfl, rfl⟩, ⟨rfl, rfl⟩, ⟨rfl, rfl⟩, ⟨rfl, rfl⟩, ⟨rfl, rfl⟩, ⟨rfl, rfl⟩, ⟨rfl, rfl⟩, ⟨rfl, rfl⟩, ⟨rfl, rfl⟩, ⟨rfl, rfl⟩, trivial⟩⟩
      · have g5 : g = false := g5
        subst g5
        refine ⟨fun _ => go 300 ?_, fun h => (by cases h)⟩
        show CallThen _ _ _ _ _ _
        refine call_sub [7, 9] (w_mkDrop x gx' n ox (by omega) b4) rfl rfl ⟨⟨rfl, rfl⟩, ⟨rfl, rfl⟩, trivial⟩ rfl rfl rfl ?_
        rintro z T1 ⟨gx2, rfl, rfl⟩
        refine ⟨rfl, ?_⟩
        show Goes _ _ _ _
        refine next ⟨f, ⟨p', q', x.drop n, y⟩, d1', d2', gx2, gy'⟩ _ _ ⟨⟨q1, hext, hnext⟩, Nat.lt_succ_self _, ⟨⟨rfl, rfl⟩, ⟨rfl, rfl⟩, ⟨rfl, rfl⟩, ⟨rfl, rfl⟩, ⟨rfl, rfl⟩, trivial⟩,
          ⟨⟨rfl, rfl⟩, ⟨rfl, rfl⟩, ⟨rfl, rfl⟩, ⟨rfl, rfl⟩, ⟨rfl, rfl⟩, ⟨rfl, rfl⟩, ⟨rfl, rfl⟩, ⟨rfl, rfl⟩, ⟨rfl, rfl⟩, ⟨rfl, rfl⟩, ⟨rfl, rfl⟩, trivial⟩⟩
    · have g4 : d = false := g4
      subst g4
      refine ⟨fun h => (by cases h), fun _ => go 300 ?_⟩
      refine ⟨fun g5 => go 300 ?_, fun g5 => go 300 ?_⟩
      · have g5 : g = true := g5
        subst g5
        show CallThen _ _ _ _ _ _
        refine call_sub [8, 10] (w_mkDrop y gy' n oy (by omega) b4) rfl rfl ⟨⟨rfl, rfl⟩, ⟨rfl, rfl⟩, trivial⟩ rfl rfl rfl ?_
        rintro z T1 ⟨gy2, rfl, rfl⟩
        refine ⟨rfl, ?_⟩
        show Goes _ _ _ _
        refine next ⟨f, ⟨p', q', x, y.drop n⟩, d1', d2', gx', gy2⟩ _ _ ⟨⟨q1, hext, hnext⟩, Nat.lt_succ_self _, ⟨⟨rfl, rfl⟩, ⟨rfl, rfl⟩, ⟨rfl, rfl⟩, ⟨rfl, rfl⟩, ⟨rfl, rfl⟩, trivial⟩,
          ⟨⟨rfl, rfl⟩, ⟨rfl, rfl⟩, ⟨rfl, rfl⟩, ⟨rfl, rfl⟩, ⟨rfl, rfl⟩, ⟨rfl, rfl⟩, ⟨rfl, rfl⟩, ⟨rfl, rfl⟩, ⟨rfl, rfl⟩, ⟨rfl, rfl⟩, ⟨rfl, rfl⟩, trivial⟩⟩
      · have g5 : g = false := g5
        subst g5
        have x3 := mk_keep ox
        have y3 := mk_keep oy
        have x4 := ox.k
        have y4 := oy.k
        refine ⟨by constructor <;> (simp only; omega), ?_⟩
        refine ⟨by constructor <;> (simp only; omega), ?_⟩
        show Goes _ _ _ _
        refine next ⟨f, ⟨p', q', x.kept n, y.kept n⟩, d1', d2', gx', gy'⟩ _ _ ⟨⟨q1, hext, hnext⟩, Nat.lt_succ_self _, ⟨⟨rfl, rfl⟩, ⟨rfl, rfl⟩, ⟨rfl, rfl⟩, ⟨rfl, rfl⟩, ⟨rfl, rfl⟩, trivial⟩,
          ⟨⟨rfl, rfl⟩, ⟨rfl, rfl⟩, ⟨rfl, rfl⟩, ⟨rfl, rfl⟩, ⟨rfl, rfl⟩, ⟨rfl, rfl⟩, ⟨rfl, rfl⟩, ⟨rfl, rfl⟩, ⟨rfl, rfl⟩, ⟨rfl, rfl⟩, ⟨rfl, rfl⟩, trivial⟩⟩
end Bow
/- W60: two edits of one leaf; square.Behind and Both, whole. -/
namespace Bow
open Go Go.Proofs

set_option pp.maxSteps 300 in
set_option maxHeartbeats 8000000 in
set_option maxRecDepth 100000 in
theorem w_rowE (b a : OpT) (prior : Bool) (ha : a.Ok) (_hb : b.Ok) (sa : soundO a = true) (sb : soundO b = true) (he : bothEdit b a = true) :
    Fun Tryz.prog 181 [] [opV b, opV a, .bool prior] (fun x T => ∃ g, x = .tup [.osl (.loc 2) g 0 1, .int .i64 (transP b.pieces a.pieces prior).2.2] ∧ T = [some (.box (opV (editO b a prior)).cells), some (.box (opV a).cells), some (.vec g 11 [opV (editO b a prior)])]) := by
  unfold bothEdit at he
  simp only [Bool.and_eq_true, decide_eq_true_eq] at he
  obtain ⟨k1, k2, k3⟩ := he
  have fa : formedB a = true := by unfold soundO at sa; rw [Bool.and_eq_true] at sa; exact sa.1
  have fb : formedB b = true := by unfold soundO at sb; rw [Bool.and_eq_true] at sb; exact sb.1
  have pa := may_len (formed_path fa)
  obtain ⟨l1, l2⟩ := right_bounds (formed_pieces fa k1)
  obtain ⟨l3, l4⟩ := right_bounds (formed_pieces fb k2)
  have hw : wonO b a = false := by unfold wonO; simp [k1, k2]
  have ct := w_Trans b.pieces a.pieces prior (by omega) (by omega) l4 l2
  have ee : editO b a prior = { b with pieces := (transP b.pieces a.pieces prior).1 } := rfl
  rw [ee]
  clear ee
  obtain ⟨⟨r1, r2, e⟩, hr⟩ : ∃ r, transP b.pieces a.pieces prior = r := ⟨_, rfl⟩
  rw [hr] at ct ⊢
  refine fun_fn 300 Tryz.func181 rfl rfl rfl fun imps B hi => ?_
  have : imps = [] := List.length_eq_zero_iff.1 hi
  subst this
  refine ⟨fun g1 => absurd (eq_of g1) (by omega), fun g1 => go 300 ?_⟩
  show CallThen _ _ _ _ _ _
  refine call_pure (w_won b a ha) rfl ?_
  rw [hw]
  rintro x rfl
  refine ⟨fun g2 => (by cases g2), fun g2 => go 300 ?_⟩
  refine ⟨fun g3 => go 300 ?_, fun g3 => absurd (eq_of' g3) (by omega)⟩
  refine ⟨fun g4 => go 300 ?_, fun g4 => absurd k1 (ne_of g4)⟩
  refine ⟨fun g5 => go 300 ?_, fun g5 => absurd k2 (ne_of g5)⟩
  show CallThen _ _ _ _ _ _
  refine call_pure (w_pathSame a.path b.path (by omega)) rfl ?_
  rw [decide_eq_true k3]
  rintro x rfl
  refine ⟨fun g6 => go 300 ?_, fun g6 => (by cases g6)⟩
  show CallThen _ _ _ _ _ _
  refine call_pure ct rfl ?_
  rintro x rfl
  refine ⟨⟨rfl, trivial⟩, ?_⟩
  exact ⟨trivial, rfl, rfl, _, rfl, rfl⟩

theorem edit_lt {b a : OpT} {prior : Bool} (hb : b.Ok) : (editO b a prior).Lt 1000000 ∧ ∀ p ∈ (editO b a prior).pieces, p.put.length ≤ 1000000000 := by
  obtain ⟨h1, h2⟩ := right_bounds (trans_right b.pieces a.pieces prior).1
  exact ⟨⟨hb.lt.path, hb.lt.to, hb.lt.label, hb.lt.key, hb.lt.value, by show (transP b.pieces a.pieces prior).1.length ≤ _; omega⟩, h2⟩
theorem behZ' {e : Int} {R : List OpT × Int} (h : R = ([], e)) : ∃ y, Wk (.tup [.nilsl, .int .i64 e]) y ∧ y.pureB = true ∧ y = BehV R := ⟨BehV ([], e), Wk.tup ⟨Wk.nil 11, .refl _, trivial⟩, rfl, by rw [h]⟩
set_option pp.maxSteps 300 in
set_option maxHeartbeats 4000000 in
set_option maxRecDepth 100000 in
theorem w_BehindE (b a : OpT) (prior : Bool) (ha : a.Ok) (hb : b.Ok) (he : bothEdit b a = true) :
    Pure Tryz.prog 142 [opV b, opV a, .bool prior] (fun x => x = BehV (behindE b a prior)) := by
  obtain ⟨R, hR⟩ : ∃ R, behindE b a prior = R := ⟨_, rfl⟩
  rw [hR]
  obtain ⟨hlt, hput⟩ := edit_lt (a := a) (prior := prior) hb
  refine pure_wk (pure_fn 300 Tryz.func142 rfl rfl rfl fun B => ?_)
  show CallThen _ _ _ _ _ _
  refine call_pure (w_sound a ha) rfl ?_
  rintro x rfl
  refine ⟨fun g1 => go 300 ?_, fun g1 => go 300 ?_⟩
  · have g1 : soundO a = false := by simpa using g1
    exact ⟨trivial, rfl, rfl, rfl, behZ' (by rw [← hR]; unfold behindE; rw [g1]; rfl)⟩
  have sa : soundO a = true := by simpa using g1
  show CallThen _ _ _ _ _ _
  refine call_pure (w_sound b hb) rfl ?_
  rintro x rfl
  refine ⟨fun g2 => go 300 ?_, fun g2 => go 300 ?_⟩
  · have g2 : soundO b = false := by simpa using g2
    exact ⟨trivial, rfl, rfl, rfl, behZ' (by rw [← hR]; unfold behindE; rw [sa, g2]; rfl)⟩
  have sb : soundO b = true := by simpa using g2
  have hrow := w_rowE b a prior ha hb sa sb he
  have e0 : R = bif decide ((transP b.pieces a.pieces prior).2.2 = 0) && formedB (editO b a prior) then ([bareO (editO b a prior)], 0) else ([], 3) := by
    rw [← hR]; unfold behindE; rw [sa, sb]; rfl
  obtain ⟨o, ho⟩ : ∃ o, editO b a prior = o := ⟨_, rfl⟩
  obtain ⟨e, hee⟩ : ∃ e, (transP b.pieces a.pieces prior).2.2 = e := ⟨_, rfl⟩
  rw [ho, hee] at hrow e0
  rw [ho] at hlt hput
  show CallThen _ _ _ _ _ _
  refine call_sub [] hrow rfl rfl trivial rfl rfl rfl ?_
  rintro x T1 ⟨G, rfl, rfl⟩
  refine ⟨rfl, ?_⟩
  refine ⟨fun g3 => go 300 ?_, fun g3 => go 300 ?_⟩
  · have g3 := ne_of' g3
    exact ⟨trivial, rfl, rfl, rfl, behZ' (by rw [e0, decide_eq_false g3]; rfl)⟩
  have g3 := eq_of' g3
  rw [decide_eq_true g3] at e0
  refine ⟨rfl, ?_⟩
  show Goes _ _ _ _
  refine goes_loop ?_
  refine go 300 ?_
  refine ⟨fun _ => go 300 ?_, fun h => absurd (not_lt_of h) (by decide)⟩
  refine ⟨rfl, by decide, by decide, rfl, _, rfl, ?_⟩
  show CallThen _ _ _ _ _ _
  refine call_pure (w_Formed o hlt hput) rfl ?_
  rintro x rfl
  refine ⟨fun g4 => go 300 ?_, fun g4 => go 300 ?_⟩
  · have g4 : formedB o = false := by simpa using g4
    exact ⟨trivial, rfl, rfl, rfl, behZ' (by rw [e0, g4]; rfl)⟩
  have g4 : formedB o = true := by simpa using g4
  rw [g4] at e0
  show CallThen _ _ _ _ _ _
  refine call_pure (w_Bare o hlt) rfl ?_
  rintro x rfl
  refine ⟨rfl, by decide, by decide, rfl, _, rfl, ?_⟩
  refine ⟨⟨by decide, by decide⟩, ?_⟩
  show Goes _ _ _ _
  refine goes_inLoop ?_
  refine go 300 ?_
  refine ⟨fun h => absurd (lt_of h) (by decide), fun _ => go 300 ?_⟩
  have hres : BehV ([bareO o], 0) = BehV R := by rw [e0]; rfl
  exact ⟨trivial, rfl, rfl, rfl, rfl, rfl, BehV ([bareO o], 0), Wk.refl _, rfl, hres⟩
theorem w_BehindX (b a : OpT) (prior : Bool) (ha : a.Ok) (hb : b.Ok) (hto : a.to.length ≤ 1000 ∧ b.to.length ≤ 1000) :
    Pure Tryz.prog 142 [opV b, opV a, .bool prior] (fun x => x = BehV (behindX b a prior)) := by
  unfold behindX
  cases he : bothEdit b a with
  | true => exact w_BehindE b a prior ha hb he
  | false => exact w_Behind b a prior ha hb he hto

set_option maxRecDepth 100000 in
theorem w_BothX (a b : OpT) (prior : Bool) (ha : a.Ok) (hb : b.Ok) (hto : a.to.length ≤ 1000 ∧ b.to.length ≤ 1000) :
    Pure Tryz.prog 96 [opV a, opV b, .bool prior] (fun x => x = BothV (bothX a b prior)) := by
  refine pure_wk (pure_fn 300 Tryz.func96 rfl rfl rfl fun B => ?_)
  show CallThen _ _ _ _ _ _
  refine call_pure (w_BehindX a b prior hb ha ⟨hto.2, hto.1⟩) rfl ?_
  rintro x rfl
  refine ⟨fun g1 => go 300 ?_, fun g1 => go 300 ?_⟩
  · have g1 : (behindX a b prior).2 ≠ 0 := ne_of' g1
    have e : bothX a b prior = ([], [], (behindX a b prior).2) := by unfold bothX; rw [decide_eq_false g1]; rfl
    rw [e]
    exact ⟨trivial, rfl, rfl, rfl, bothZ _⟩
  have g1 : (behindX a b prior).2 = 0 := eq_of' g1
  show CallThen _ _ _ _ _ _
  refine call_pure (w_BehindX b a (!prior) ha hb hto) rfl ?_
  rintro x rfl
  refine ⟨fun g2 => go 300 ?_, fun g2 => go 300 ?_⟩
  · have g2 : (behindX b a (!prior)).2 ≠ 0 := ne_of' g2
    have e : bothX a b prior = ([], [], (behindX b a (!prior)).2) := by unfold bothX; rw [decide_eq_true g1, decide_eq_false g2]; rfl
    rw [e]
    exact ⟨trivial, rfl, rfl, rfl, bothZ _⟩
  have g2 : (behindX b a (!prior)).2 = 0 := eq_of' g2
  have e : bothX a b prior = ((behindX a b prior).1, (behindX b a (!prior)).1, 0) := by unfold bothX; rw [decide_eq_true g1, decide_eq_true g2]; rfl
  rw [e]
  exact ⟨trivial, rfl, rfl, rfl, BothV ((behindX a b prior).1, (behindX b a (!prior)).1, 0), Wk.refl _, rfl, rfl⟩
end Bow
/- SP24: lists of operations behind each other, in plain Lean; that it ends. -/
namespace Bow
open Go

/-! ### How many moves -/
def mv1 (o : OpT) : Nat := bif decide (o.kind = 3) then 1 else 0
def mvs (l : List OpT) : Nat := (l.map mv1).sum
/-- What becomes of two in a cell: no more than there were; no more moves; where as many of both, the side that is not prior has no more. -/
structure Inv (prior : Bool) (xs ys x y : List OpT) : Prop where
  s : x.length + y.length ≤ xs.length + ys.length
  m : mvs x + mvs y ≤ mvs xs + mvs ys
  t : x.length + y.length = xs.length + ys.length → mvs x + mvs y = mvs xs + mvs ys → (bif prior then y.length else x.length) ≤ (bif prior then ys.length else xs.length)
end Bow
/- SP25: what an operation does not say counts for nothing (square); lists brought one behind the other, in plain Lean. -/
namespace Bow
open Go

theorem behX_bad {a b : OpT} (h : (!soundO a || !soundO b) = true) (p : Bool) : behindX b a p = ([], 80) := by
  unfold behindX behindE behindO
  rw [h]
  cases bothEdit b a <;> rfl
end Bow
/- SP26: a list brought by two lists, one behind the other, and by both in one, in plain Lean. -/
namespace Bow
open Go

section
variable {prior : Bool}
end
end Bow
/- SP30: what two lists come to; brought by two lists or by both in one, in plain Lean. -/
namespace Bow
open Go

end Bow
/- SP20: a bare operation does what it did, in plain Lean. -/
namespace Bow
open Go

theorem bare1 {o : OpT} (h : o.kind = 1) : bareO o = { noOp 1 with path := o.path, at_ := o.at_, id := o.id, leaf := o.leaf, label := o.label } := by unfold bareO; rw [h]; rfl
theorem bare2 {o : OpT} (h : o.kind = 2) : bareO o = { noOp 2 with path := o.path } := by unfold bareO; rw [h]; rfl
theorem bare3 {o : OpT} (h : o.kind = 3) : bareO o = { noOp 3 with path := o.path, at_ := o.at_, to := o.to } := by unfold bareO; rw [h]; rfl
theorem bare4 {o : OpT} (h : o.kind = 4) : bareO o = { noOp 4 with path := o.path, key := o.key, gone := o.gone, value := bif o.gone then [] else o.value } := by unfold bareO; rw [h]; rfl
theorem bare5 {o : OpT} (h : o.kind = 5) : bareO o = { noOp 5 with path := o.path, label := o.label } := by unfold bareO; rw [h]; rfl
theorem bare6 {o : OpT} (h : o.kind = 6) : bareO o = { noOp 6 with path := o.path, pieces := o.pieces } := by unfold bareO; rw [h]; rfl
theorem bare_none {o : OpT} (h1 : o.kind ≠ 1) (h2 : o.kind ≠ 2) (h3 : o.kind ≠ 3) (h4 : o.kind ≠ 4) (h5 : o.kind ≠ 5) (h6 : o.kind ≠ 6) : bareO o = noOp o.kind := by
  have e1 : (o.kind == 1) = false := by simpa using h1
  have e2 : (o.kind == 2) = false := by simpa using h2
  have e3 : (o.kind == 3) = false := by simpa using h3
  have e4 : (o.kind == 4) = false := by simpa using h4
  have e5 : (o.kind == 5) = false := by simpa using h5
  have e6 : (o.kind == 6) = false := by simpa using h6
  unfold bareO
  rw [e1, e2, e3, e4, e5, e6]
  rfl
theorem kinds (o : OpT) : o.kind = 1 ∨ o.kind = 2 ∨ o.kind = 3 ∨ o.kind = 4 ∨ o.kind = 5 ∨ o.kind = 6 ∨ (o.kind ≠ 1 ∧ o.kind ≠ 2 ∧ o.kind ≠ 3 ∧ o.kind ≠ 4 ∧ o.kind ≠ 5 ∧ o.kind ≠ 6) := by omega
theorem bare_bare (o : OpT) : bareO (bareO o) = bareO o := by
  rcases kinds o with h | h | h | h | h | h | ⟨h1, h2, h3, h4, h5, h6⟩
  · rw [bare1 h]; rfl
  · rw [bare2 h]; rfl
  · rw [bare3 h]; rfl
  · rw [bare4 h]
    cases o.gone <;> rfl
  · rw [bare5 h]; rfl
  · rw [bare6 h]; rfl
  · rw [bare_none h1 h2 h3 h4 h5 h6, bare_none (o := noOp o.kind) h1 h2 h3 h4 h5 h6]
    rfl
end Bow
/- W48: operations that say the same. -/
namespace Bow
open Go Go.Proofs

set_option maxRecDepth 100000 in
theorem w_refSamePieces (xs ys : List PieceT) (hl : xs.length ≤ 1000000) : Pure Tryz.prog 99 [piecesV xs, piecesV ys] (fun x => x = .bool (decide (xs = ys))) := by
  refine pure_wk (pure_fn 300 Tryz.func99 rfl rfl rfl fun B => ?_)
  refine ⟨fun g1 => go 300 ?_, fun g1 => go 300 ?_⟩
  · have g1 := ne_of' g1
    exact ⟨trivial, rfl, rfl, rfl, leaf_ff (decide_eq_false fun e => g1 (by rw [e]))⟩
  have g1 : xs.length = ys.length := by have := eq_of' g1; simp at this; omega
  show Goes _ _ _ _
  refine goes_iter (ι := Nat) (fun i => i ≤ xs.length ∧ (xs.drop i = ys.drop i ↔ xs = ys)) (fun i => xs.length - i) (fun i => [(5, .int .i64 i), (0, piecesV xs), (1, piecesV ys)]) (fun _ => []) 0 300 (fun _ => rfl) (fun _ => rfl) ⟨⟨Nat.zero_le _, by simp⟩, ⟨⟨rfl, rfl⟩, ⟨rfl, rfl⟩, ⟨rfl, rfl⟩, trivial⟩, trivial⟩ ?_
  rintro i ⟨k1, k2⟩ next
  refine ⟨fun hlt => go 300 ?_, fun hge => go 300 ?_⟩
  · have hi : i < xs.length := by simpa using hlt
    have hi' : i < ys.length := by omega
    have hx : (xs.map pieceV)[i]? = some (pieceV xs[i]) := by simp [hi]
    have hy : (ys.map pieceV)[i]? = some (pieceV ys[i]) := by simp [hi']
    rw [attrs_take hi hi'] at k2
    show Goes _ _ _ _
    refine goes_draw 300 ⟨Int.natCast_nonneg i, _, hx, Int.natCast_nonneg i, _, hy, ?_⟩
    refine ⟨by kernel_rfl, ?_⟩
    refine ⟨by kernel_rfl, ?_⟩
    refine ⟨fun g2 => go 300 ?_, fun g2 => go 300 ?_⟩
    · refine ⟨trivial, rfl, rfl, rfl, leaf_ff (decide_eq_false fun e => ?_)⟩
      have := (k2.2 e).1
      rw [this] at g2
      simp at g2
    · refine ⟨by constructor <;> omega, ?_⟩
      have he : xs[i] = ys[i] := by
        simp at g2
        exact PieceT.ext g2.1 g2.2.1 g2.2.2
      exact next (i + 1) _ _ ⟨⟨hi, by rw [← k2]; exact ⟨fun h => ⟨he, h⟩, fun h => h.2⟩⟩, by omega, ⟨⟨rfl, rfl⟩, ⟨rfl, rfl⟩, ⟨rfl, rfl⟩, trivial⟩, trivial⟩
  · have hi : i = xs.length := by have : xs.length ≤ i := by simpa using hge
                                  omega
    subst hi
    refine ⟨trivial, rfl, rfl, rfl, leaf_tt (decide_eq_true (k2.1 ?_))⟩
    rw [List.drop_eq_nil_of_le (Nat.le_refl _), List.drop_eq_nil_of_le (by omega)]

def eqO (x y : OpT) : Bool := decide (x.kind = y.kind) && (decide (x.path = y.path) && (decide (x.at_ = y.at_) && (decide (x.to = y.to) && (decide (x.id = y.id) && ((x.leaf == y.leaf) && (decide (x.label = y.label) && (decide (x.key = y.key) && (decide (x.value = y.value) && ((x.gone == y.gone) && decide (x.pieces = y.pieces))))))))))
theorem eqO_refl (x : OpT) : eqO x x = true := by simp [eqO]
def sameO (a b : OpT) : Bool := eqO (bareO a) (bareO b)
set_option maxHeartbeats 2000000 in
set_option maxRecDepth 100000 in
theorem w_refSameO (a b : OpT) (ha : a.Lt 1000000) (hb : b.Lt 1000000) : Pure Tryz.prog 41 [opV a, opV b] (fun x => x = .bool (sameO a b)) := by
  have la := bare_lt ha
  have h1 := w_refSame (bareO a).path (bareO b).path la.path
  have h2 := w_refSame (bareO a).to (bareO b).to la.to
  have h3 := w_refSamePieces (bareO a).pieces (bareO b).pieces la.pieces
  refine pure_wk (pure_fn 300 Tryz.func41 rfl rfl rfl fun B => ?_)
  show CallThen _ _ _ _ _ _
  refine call_pure (w_refBare a ha) rfl ?_
  rintro z rfl
  show CallThen _ _ _ _ _ _
  refine call_pure (w_refBare b hb) rfl ?_
  rintro z rfl
  repeat' first
    | (refine ⟨fun _ => go 300 ?_, fun _ => go 300 ?_⟩)
    | (show CallThen _ _ _ _ _ _; refine call_pure h1 rfl ?_; rintro z rfl)
    | (show CallThen _ _ _ _ _ _; refine call_pure h2 rfl ?_; rintro z rfl)
    | (show CallThen _ _ _ _ _ _; refine call_pure h3 rfl ?_; rintro z rfl)
    | (refine ⟨trivial, rfl, rfl, rfl, leaf_ff ?_⟩)
    | (refine ⟨trivial, rfl, rfl, rfl, leaf_b ?_⟩)
    | fail
  all_goals (unfold sameO eqO; simp_all)
end Bow
/- W61: the laws of chapter 12: what they use; the examples. -/
namespace Bow
open Go Go.Proofs

/-- Some truth value. -/
def isB (x : V) : Prop := ∃ b : Bool, x = .bool b
set_option maxHeartbeats 2000000 in
set_option maxRecDepth 100000 in
theorem w_Small (l : List PieceT) (top : Nat) (hl : l.length ≤ 1000000) (ht : top ≤ 1000000) : Pure Tryz.prog 94 [piecesV l, .int .i64 top] isB := by
  have ff : ∃ y, Wk .ff y ∧ y.pureB = true ∧ isB y := ⟨.bool false, Wk.ff, rfl, false, rfl⟩
  have tt : ∃ y, Wk .tt y ∧ y.pureB = true ∧ isB y := ⟨.bool true, Wk.tt, rfl, true, rfl⟩
  refine pure_wk (pure_fn 300 Tryz.func94 rfl rfl rfl fun B => ?_)
  refine ⟨fun g1 => go 300 ?_, fun g1 => go 300 ?_⟩
  · exact ⟨trivial, rfl, rfl, rfl, ff⟩
  show Goes _ _ _ _
  refine goes_iter (ι := Nat × Int) (fun i => i.1 ≤ l.length ∧ 0 ≤ i.2 ∧ i.2 ≤ top) (fun i => l.length - i.1) (fun i => [(6, .int .i64 i.1), (5, .int .i64 i.2), (0, piecesV l), (1, .int .i64 top)]) (fun _ => []) (0, 0) 300 (fun _ => rfl) (fun _ => rfl) ⟨⟨Nat.zero_le _, Int.le_refl _, Int.natCast_nonneg _⟩, ⟨⟨rfl, rfl⟩, ⟨rfl, rfl⟩, ⟨rfl, rfl⟩, ⟨rfl, rfl⟩, trivial⟩, trivial⟩ ?_
  rintro ⟨i, n⟩ ⟨k1, k2, k3⟩ next
  simp only at k1 k2 k3
  refine ⟨fun hlt => go 300 ?_, fun hge => go 300 ?_⟩
  · have hi : i < l.length := by simpa using hlt
    have hx : (l.map pieceV)[i]? = some (pieceV l[i]) := by simp [hi]
    show Goes _ _ _ _
    refine goes_draw 300 ⟨Int.natCast_nonneg i, _, hx, Int.natCast_nonneg i, _, hx, ?_⟩
    refine ⟨by kernel_rfl, ?_⟩
    refine ⟨fun g1 => go 300 ?_, fun g1 => go 300 ?_⟩ <;> refine ⟨fun g2 => go 300 ?_, fun g2 => go 300 ?_⟩
    all_goals
      simp only [decide_eq_true_eq, decide_eq_false_iff_not] at g1 g2
      refine ⟨by constructor <;> omega, ?_⟩
      refine ⟨fun g3 => go 300 ?_, fun g3 => go 300 ?_⟩
      · exact ⟨trivial, rfl, rfl, rfl, ff⟩
      simp only [decide_eq_false_iff_not] at g3
      refine ⟨by constructor <;> omega, by constructor <;> omega, ?_⟩
      refine ⟨fun g4 => go 300 ?_, fun g4 => go 300 ?_⟩
      · exact ⟨trivial, rfl, rfl, rfl, ff⟩
      simp only [decide_eq_false_iff_not] at g4
      refine ⟨Int.natCast_nonneg i, _, hx, by constructor <;> omega, by constructor <;> omega, by constructor <;> omega, ?_⟩
      refine ⟨fun g5 => go 300 ?_, fun g5 => go 300 ?_⟩
      · exact ⟨trivial, rfl, rfl, rfl, ff⟩
      simp only [decide_eq_false_iff_not] at g5
      refine ⟨by constructor <;> omega, by constructor <;> omega, Int.natCast_nonneg i, _, hx, by constructor <;> omega, by constructor <;> omega, ?_⟩
      show Goes _ _ _ _
      refine next (i + 1, _) _ _ ⟨⟨hi, ?_, ?_⟩, by simp only; omega, ⟨⟨rfl, rfl⟩, ⟨rfl, rfl⟩, ⟨rfl, rfl⟩, ⟨rfl, rfl⟩, trivial⟩, trivial⟩
      · simp only; omega
      · simp only; omega
  · exact ⟨trivial, rfl, rfl, rfl, tt⟩

end Bow
/- W62: SquareTurned. -/
namespace Bow
open Go Go.Proofs

theorem sound_formed {o : OpT} (h : soundO o = true) : formedB o = true := by unfold soundO at h; rw [Bool.and_eq_true] at h; exact h.1
theorem behO_ok {b a : OpT} {prior : Bool} (ha : a.Ok) (hb : b.Ok) (ta : a.to.length ≤ 1000) (tb : b.to.length ≤ 1000) : ((behindO b a prior).1.length ≤ 2 ∧ ∀ o ∈ (behindO b a prior).1, o.Ok) := by
  unfold behindO
  cases sa : soundO a with
  | false => exact ⟨by simp, by simp⟩
  | true =>
    cases sb : soundO b with
    | false => exact ⟨by simp, by simp⟩
    | true =>
      have pa := may_len (formed_path (sound_formed sa))
      have pb := may_len (formed_path (sound_formed sb))
      have h := row_ok (prior := prior) ha hb (by omega) (by omega) ta tb
      have hl := row_len b a prior
      cases (rowO b a prior).all formedB with
      | false => exact ⟨by simp, by simp⟩
      | true =>
        refine ⟨by simpa using hl, fun o ho => ?_⟩
        obtain ⟨o', h1, rfl⟩ := List.mem_map.1 (by simpa using ho)
        exact bare_ok (h o' h1)
theorem right_puts {l : List PieceT} (h : rightP l = true) : putsLen l ≤ 1048576 := by
  unfold rightP at h
  rw [Bool.and_eq_true] at h
  have := (rightGo_ok h.2).2
  rcases this with rfl | this
  · exact Nat.zero_le _
  · omega
theorem behX_lt {b a : OpT} {prior : Bool} (ha : a.Ok) (hb : b.Ok) (ta : a.to.length ≤ 1000) (tb : b.to.length ≤ 1000) : ((behindX b a prior).1.length ≤ 2 ∧ ∀ o ∈ (behindX b a prior).1, o.Lt 1000000 ∧ ∀ p ∈ o.pieces, p.put.length ≤ 1000000000) := by
  unfold behindX
  cases bothEdit b a with
  | false =>
    obtain ⟨h1, h2⟩ := behO_ok (prior := prior) ha hb ta tb
    exact ⟨h1, fun o ho => ⟨(h2 o ho).lt, (h2 o ho).each⟩⟩
  | true =>
    obtain ⟨h1, h2⟩ := edit_lt (a := a) (prior := prior) hb
    simp only [cond_true]
    unfold behindE
    cases !soundO a || !soundO b with
    | true => exact ⟨by simp, by simp⟩
    | false =>
      cases decide ((transP b.pieces a.pieces prior).2.2 = 0) && formedB (editO b a prior) with
      | false => exact ⟨by simp, by simp⟩
      | true =>
        refine ⟨by simp, fun o ho => ?_⟩
        have : o = bareO (editO b a prior) := by simpa using ho
        subst this
        refine ⟨bare_lt h1, fun p hp => h2 p ?_⟩
        have : (bareO (editO b a prior)).pieces = [] ∨ (bareO (editO b a prior)).pieces = (editO b a prior).pieces := by
          unfold bareO
          cases (editO b a prior).kind == 1 <;> cases (editO b a prior).kind == 2 <;> cases (editO b a prior).kind == 3 <;> cases (editO b a prior).kind == 4 <;> cases (editO b a prior).kind == 5 <;> cases (editO b a prior).kind == 6 <;> simp [noOp]
        rcases this with e | e
        · rw [e] at hp; cases hp
        · rw [e] at hp; exact hp
theorem bothX_lt {a b : OpT} {prior : Bool} (ha : a.Ok) (hb : b.Ok) (ta : a.to.length ≤ 1000) (tb : b.to.length ≤ 1000) :
    ((bothX a b prior).1.length ≤ 2 ∧ ∀ o ∈ (bothX a b prior).1, o.Lt 1000000 ∧ ∀ p ∈ o.pieces, p.put.length ≤ 1000000000) ∧ ((bothX a b prior).2.1.length ≤ 2 ∧ ∀ o ∈ (bothX a b prior).2.1, o.Lt 1000000 ∧ ∀ p ∈ o.pieces, p.put.length ≤ 1000000000) := by
  have h1 := behX_lt (prior := prior) hb ha tb ta
  have h2 := behX_lt (prior := !prior) ha hb ta tb
  unfold bothX
  cases decide ((behindX a b prior).2 = 0) with
  | false => exact ⟨⟨by simp, by simp⟩, ⟨by simp, by simp⟩⟩
  | true =>
    cases decide ((behindX b a (!prior)).2 = 0) with
    | false => exact ⟨⟨by simp, by simp⟩, ⟨by simp, by simp⟩⟩
    | true => exact ⟨h1, h2⟩

end Bow
/- W63: lists of operations: joined (slices.Concat), made bare; which are too many. -/
namespace Bow
open Go Go.Proofs

end Bow
/- W64: lists.bring, Both. -/
namespace Bow
open Go Go.Proofs

/-- Operations of a size that may be asked about. -/
def OkL (l : List OpT) : Prop := ∀ o ∈ l, o.Ok ∧ o.to.length ≤ 1000
theorem bare_formed_ok {o : OpT} (h : formedB o = true) : (bareO o).Ok ∧ (bareO o).to.length ≤ 1000 := by
  have hp := may_len (formed_path h)
  have nil : ∀ k : Int, (noOp k).Ok := fun k => ⟨⟨Nat.zero_le _, Nat.zero_le _, Nat.zero_le _, Nat.zero_le _, Nat.zero_le _, Nat.zero_le _⟩, Nat.zero_le _⟩
  unfold bareO
  cases k1 : o.kind == 1 with
  | true =>
    have hk : o.kind = 1 := eq_of_beq k1
    have hl : o.label.length ≤ 64 := by
      unfold formedB at h
      rw [hk] at h
      simp only [Bool.and_eq_true] at h
      have := h.2
      simp at this
      omega
    exact ⟨⟨⟨by show o.path.length ≤ _; omega, Nat.zero_le _, by show o.label.length ≤ _; omega, Nat.zero_le _, Nat.zero_le _, Nat.zero_le _⟩, Nat.zero_le _⟩, Nat.zero_le _⟩
  | false => cases k2 : o.kind == 2 with
    | true => exact ⟨⟨⟨by show o.path.length ≤ _; omega, Nat.zero_le _, Nat.zero_le _, Nat.zero_le _, Nat.zero_le _, Nat.zero_le _⟩, Nat.zero_le _⟩, Nat.zero_le _⟩
    | false => cases k3 : o.kind == 3 with
      | true =>
        have ht := may_len (good_to h (eq_of_beq k3))
        exact ⟨⟨⟨by show o.path.length ≤ _; omega, by show o.to.length ≤ _; omega, Nat.zero_le _, Nat.zero_le _, Nat.zero_le _, Nat.zero_le _⟩, Nat.zero_le _⟩, by show o.to.length ≤ _; omega⟩
      | false => cases k4 : o.kind == 4 with
        | true =>
          have hk : o.kind = 4 := eq_of_beq k4
          have hl : o.key.length ≤ 64 ∧ (o.gone = true ∨ o.value.length ≤ 256) := by
            unfold formedB at h
            rw [hk] at h
            simp [keyOk] at h
            exact ⟨h.2.1.2, h.2.2.imp id (fun h => by omega)⟩
          refine ⟨⟨⟨by show o.path.length ≤ _; omega, Nat.zero_le _, Nat.zero_le _, by show o.key.length ≤ _; omega, ?_, Nat.zero_le _⟩, Nat.zero_le _⟩, Nat.zero_le _⟩
          show (bif o.gone then [] else o.value : List UInt8).length ≤ _
          rcases hl.2 with hg | hg
          · rw [hg]; exact Nat.zero_le _
          · cases o.gone with
            | true => exact Nat.zero_le _
            | false => show o.value.length ≤ _; omega
        | false => cases k5 : o.kind == 5 with
          | true =>
            have hk : o.kind = 5 := eq_of_beq k5
            have hl : o.label.length ≤ 64 := by
              unfold formedB at h
              rw [hk] at h
              simp at h
              omega
            exact ⟨⟨⟨by show o.path.length ≤ _; omega, Nat.zero_le _, by show o.label.length ≤ _; omega, Nat.zero_le _, Nat.zero_le _, Nat.zero_le _⟩, Nat.zero_le _⟩, Nat.zero_le _⟩
          | false => cases k6 : o.kind == 6 with
            | true =>
              have hr := formed_pieces h (eq_of_beq k6)
              have h1 := right_puts hr
              have h2 := (right_bounds hr).1
              exact ⟨⟨⟨by show o.path.length ≤ _; omega, Nat.zero_le _, Nat.zero_le _, Nat.zero_le _, Nat.zero_le _, by show o.pieces.length ≤ _; omega⟩, h1⟩, Nat.zero_le _⟩
            | false => exact ⟨nil _, Nat.zero_le _⟩
theorem behX_okL (b a : OpT) (p : Bool) : OkL (behindX b a p).1 := by
  unfold behindX
  cases bothEdit b a with
  | false =>
    simp only [cond_false]
    unfold behindO
    cases !soundO a || !soundO b with
    | true => intro o ho; simp at ho
    | false =>
      cases hf : (rowO b a p).all formedB with
      | false => intro o ho; simp at ho
      | true =>
        intro o ho
        simp only [cond_true, cond_false] at ho
        obtain ⟨o', h1, rfl⟩ := List.mem_map.1 ho
        exact bare_formed_ok (List.all_eq_true.1 hf o' h1)
  | true =>
    simp only [cond_true]
    unfold behindE
    cases !soundO a || !soundO b with
    | true => intro o ho; simp at ho
    | false =>
      cases hf : decide ((transP b.pieces a.pieces p).2.2 = 0) && formedB (editO b a p) with
      | false => intro o ho; simp at ho
      | true =>
        intro o ho
        simp only [cond_true, cond_false, List.mem_singleton] at ho
        subst ho
        exact bare_formed_ok (Bool.and_eq_true_iff.1 hf).2
theorem okL_nil : OkL [] := fun o ho => by cases ho
theorem bothX_okL (a b : OpT) (p : Bool) : OkL (bothX a b p).1 ∧ OkL (bothX a b p).2.1 := by
  unfold bothX
  cases decide ((behindX a b p).2 = 0) with
  | false => exact ⟨okL_nil, okL_nil⟩
  | true =>
    cases decide ((behindX b a (!p)).2 = 0) with
    | false => exact ⟨okL_nil, okL_nil⟩
    | true => exact ⟨behX_okL _ _ _, behX_okL _ _ _⟩
end Bow
/- W65: lists.bring's walk. -/
namespace Bow
open Go Go.Proofs

end Bow
/- W66: the laws of chapter 13: what they use; the examples; which lists say the same. -/
namespace Bow
open Go Go.Proofs

end Bow
/- W68: which lists say the same; chapter 13's few. -/
namespace Bow
open Go Go.Proofs

theorem op_at {l : List OpT} {i : Nat} (h : i < l.length) : (l.map opV)[i]? = some (opV l[i]) := by simp [h]
end Bow
/- W69: the laws ListsSame and ListsJoined, walked. -/
namespace Bow
open Go Go.Proofs

end Bow
/- AE43: own memory that stands elsewhere, read: its length, an element's place, what lies there; pointers held against nil; a range over a function that holds own objects. -/
namespace Bow
open Go

section
variable {c : Cx} {E : Env} {T : Heap} {ops : Array Oper} {i : Nat} {rest : List Nat} {k : List Item} {o : Oper}

/-! ### Pointers held against nil -/
end
end Bow
/- AE44: regions that draw their order and hold a call that hands back own memory. -/
namespace Bow
open Go

/-! ### The evaluation of such a region -/
end Bow
/- AE45: own memory under names: calls that hand back named memory, calls that write over it, calls that only read it; stores into it. -/
namespace Bow
open Go


/-! ### Functions that hand back memory of their own, under names -/
section
variable {w w' : World} {β β' : Nat → Loc} {H H' : Heap}
/-- What a function with nothing of its own sees of a world. -/
theorem seen {imps : List Nat} {nt : Nat} {m : List Nat} {s : St} {a : Act} (hs : SRel imps nt w β H m s a) : SRel [] 0 w β H [] ⟨[], [], fun r => (H[r]?).getD none, []⟩ bare := by
  refine ⟨hs.hrel, rfl, fun k => by simp [lk, V.conv]; exact .undef _, rfl, List.nodup_nil, by simp, rfl, fun r h _ => ?_, fun r h1 => ?_, by simp, by simp, by simp, rfl, by simp⟩
  · simp [h]
  · simp [List.getElem?_eq_none h1]
end

/-! ### Named memory, read by functions that leave nothing behind -/
/-! ### Functions that write over named memory -/
/-! ### Stores into named memory -/
section
variable {c : Cx} {E : Env} {T : Heap} {ops : Array Oper} {i : Nat} {rest : List Nat} {k : List Item} {o : Oper}

end
end Bow
/- AE46: a nil slice in a cell of a box, as own memory; named results that say less. -/
namespace Bow
open Go

section
variable {c : Cx} {E : Env} {T : Heap}
end

end Bow
/- W76: treeops.Bare, seen to hand back rows of its own. -/
namespace Bow
open Go Go.Proofs

end Bow
/- W77: lists of operations whose rows have names; lists.bare, square.Behind, square.Both, lists.Both, seen to hand back memory of their own. -/
namespace Bow
open Go Go.Proofs

end Bow
/- W78: bowerlaw12.spoil, which writes over an operation's own rows. -/
namespace Bow
open Go Go.Proofs

end Bow
/- SP28: where a node is, number by number (the document's answer), in plain Lean. -/
namespace Bow
open Go

theorem nums_snocR (c : Chg) : ∀ (p q : List Int) (k : Int), c.nums q (p ++ [k]) = c.nums q p ++ [c.number (q ++ p) k]
  | [], q, k => by simp [Chg.nums]
  | j :: p, q, k => by
    rw [List.cons_append, Chg.nums, Chg.nums, nums_snocR c p (q ++ [j]) k]
    simp
theorem within_snoc (p q : List Int) (k : Int) : within p (q ++ [k]) = (within p q || decide (p = q ++ [k])) := by
  unfold within
  by_cases h1 : p.length ≤ q.length
  · rw [List.take_append_of_le_length h1]
    have : p ≠ q ++ [k] := fun e => by rw [e] at h1; simp at h1; omega
    rw [decide_eq_false this, Bool.or_false]
  · have hq : q.take p.length = q := List.take_of_length_le (by omega)
    have h2 : (q ++ [k]).take p.length = q ++ [k] := List.take_of_length_le (by simp; omega)
    have : p ≠ q := fun e => by rw [e] at h1; omega
    rw [hq, h2, decide_eq_false this, Bool.false_or]
theorem moves_kinds {o : OpT} (h : movesO o = true) : o.kind = 1 ∨ (o.kind = 2 ∧ o.path ≠ []) ∨ (o.kind = 3 ∧ o.path ≠ [] ∧ within o.path o.to = false) := by
  unfold movesO at h
  rw [Bool.and_eq_true] at h
  have h := h.2
  by_cases h1 : o.kind = 1
  · exact .inl h1
  · rw [decide_eq_false h1, cond_false] at h
    by_cases h2 : o.kind = 2
    · rw [decide_eq_true h2, cond_true] at h
      exact .inr (.inl ⟨h2, fun e => by rw [e] at h; cases h⟩)
    · rw [decide_eq_false h2, cond_false] at h
      by_cases h3 : o.kind = 3
      · rw [decide_eq_true h3, cond_true, Bool.and_eq_true] at h
        exact .inr (.inr ⟨h3, (fun e => (by rw [e] at h; cases h.1)), (by simpa using h.2)⟩)
      · rw [decide_eq_false h3, cond_false] at h
        cases h
def childR (o : OpT) (p : List Int) (k : Int) : Option Int :=
  bif decide (o.kind = 1) then some (bif decide (p = o.path) && decide (o.at_ ≤ k) then k + 1 else k)
  else bif decide (p = o.path.dropLast) && decide (k = lastP o.path) then none
  else some ((bif decide (p = o.path.dropLast) && decide (lastP o.path < k) then k - 1 else k) + (bif decide (o.kind = 3) && (decide (p = o.to) && decide (o.at_ ≤ k)) then 1 else 0))
theorem snoc_last {p : List Int} (h : p ≠ []) : p.dropLast ++ [lastP p] = p := by
  rw [← lastP_eq h]
  exact List.dropLast_concat_getLast h
theorem snoc_iff {p q : List Int} (k : Int) (h : p ≠ []) : p = q ++ [k] ↔ q = p.dropLast ∧ k = lastP p := by
  constructor
  · intro e
    subst e
    simp [lastP]
  · rintro ⟨rfl, rfl⟩
    exact (snoc_last h).symm
def nodeR (a : Option (List Int)) (b : Option Int) : Option (List Int) :=
  match a, b with
  | some r, some n => some (r ++ [n])
  | _, _ => none
theorem node_snoc {o : OpT} (hm : movesO o = true) (q : List Int) (k : Int) (hne : ¬ (o.kind = 3 ∧ o.path = q ++ [k])) : nodeP o (q ++ [k]) = nodeR (nodeP o q) (childR o q k) := by
  unfold nodeP
  rw [hm, Bool.not_true, cond_false, cond_false]
  rcases moves_kinds hm with h1 | ⟨h2, hn⟩ | ⟨h3, hn, hw⟩
  · have ht : (chgO o).takes = false := by unfold chgO; simp [h1]
    have hc : childR o q k = some ((chgO o).number q k) := by
      unfold childR Chg.number chgO
      rw [h1]
      simp only [decide_true, cond_true, Bool.not_true, Bool.false_and, cond_false, Bool.true_and, show decide ((1 : Int) = 2) = false from rfl, Bool.not_false]
      by_cases e1 : q = o.path <;> by_cases e2 : o.at_ ≤ k <;> simp [e1, e2]
    rw [ht, Bool.false_and, Bool.false_and, cond_false, cond_false, nums_snocR, hc, List.nil_append]
    rfl
  · have ht : (chgO o).takes = true := by unfold chgO; simp [h2]
    have hp : (chgO o).puts = false := by unfold chgO; simp [h2]
    rw [ht, hp, Bool.true_and, Bool.true_and, within_snoc]
    cases hwq : within o.path q with
    | true => rfl
    | false =>
      simp only [Bool.false_or, cond_false]
      by_cases e : o.path = q ++ [k]
      · rw [decide_eq_true e]
        obtain ⟨e1, e2⟩ := (snoc_iff k hn).1 e
        have hc : childR o q k = none := by
          unfold childR
          rw [h2, decide_eq_true e1, decide_eq_true e2]
          rfl
        rw [hc]; rfl
      · rw [decide_eq_false e, cond_false, nums_snocR, List.nil_append]
        have hnot : ¬ (q = o.path.dropLast ∧ k = lastP o.path) := fun g => e ((snoc_iff k hn).2 g)
        have hc : childR o q k = some ((chgO o).number q k) := by
          unfold childR Chg.number chgO
          rw [h2]
          by_cases e1 : q = o.path.dropLast <;> by_cases e2 : k = lastP o.path
          · exact absurd ⟨e1, e2⟩ hnot
          · by_cases e3 : lastP o.path < k <;> simp [e1, e2, e3]
          · simp [e1, e2]
          · simp [e1, e2]
        rw [hc]; rfl
  · have ht : (chgO o).takes = true := by unfold chgO; simp [h3]
    have hp : (chgO o).puts = true := by unfold chgO; simp [h3]
    have e : o.path ≠ q ++ [k] := fun e => hne ⟨h3, e⟩
    have hnot : ¬ (q = o.path.dropLast ∧ k = lastP o.path) := fun g => e ((snoc_iff k hn).2 g)
    rw [ht, hp, Bool.true_and, Bool.true_and, within_snoc, decide_eq_false e, Bool.or_false]
    cases hwq : within o.path q with
    | true =>
      simp only [Bool.not_true, cond_false, cond_true]
      have hl := within_len hwq
      have e1 : q ≠ o.path.dropLast := fun g => by
        have : o.path.length ≤ o.path.dropLast.length := g ▸ hl
        have h0 := List.length_pos_iff.2 hn
        simp at this
        omega
      have e2 : q ≠ o.to := fun g => by rw [g, hw] at hwq; cases hwq
      have hc : childR o q k = some k := by
        unfold childR
        simp [h3, e1, e2]
      rw [hc, List.drop_append_of_le_length hl]
      simp [nodeR]
    | false =>
      simp only [cond_false]
      rw [nums_snocR, List.nil_append]
      have hc : childR o q k = some ((chgO o).number q k) := by
        unfold childR Chg.number chgO
        rw [h3]
        by_cases e1 : q = o.path.dropLast <;> by_cases e2 : k = lastP o.path
        · exact absurd ⟨e1, e2⟩ hnot
        all_goals by_cases e3 : lastP o.path < k <;> by_cases e4 : q = o.to <;> by_cases e5 : o.at_ ≤ k <;> simp_all
      rw [hc]; rfl
theorem node_moved {o : OpT} (hm : movesO o = true) (hk : o.kind = 3) : nodeP o o.path = some ((nodeP o o.to).getD [] ++ [bif decide (o.path.dropLast = o.to) && decide (lastP o.path < o.at_) then o.at_ - 1 else o.at_]) := by
  rcases moves_kinds hm with h1 | ⟨h2, hn⟩ | ⟨h3, hn, hw⟩
  · omega
  · omega
  · have ht : (chgO o).takes = true := by unfold chgO; simp [h3]
    have hp : (chgO o).puts = true := by unfold chgO; simp [h3]
    have hpp : within o.path o.path = true := by unfold within; simp
    unfold nodeP
    rw [hm, ht, hp, hpp, hw]
    simp only [Bool.not_true, cond_false, Bool.and_self, cond_true, Bool.and_false, List.drop_length, List.append_nil, Option.getD_some, Option.some.injEq, List.append_cancel_left_eq, List.cons.injEq, and_true]
    unfold Chg.land chgO
    rw [h3]
    by_cases e1 : o.path.dropLast = o.to <;> by_cases e2 : lastP o.path < o.at_ <;> simp [e1, e2]
theorem node_still {o : OpT} (p : List Int) (h : movesO o = false) : nodeP o p = some p := by
  unfold nodeP
  rw [h]; rfl
theorem node_root {o : OpT} : nodeP o [] = some [] := by
  unfold nodeP
  cases hm : movesO o with
  | false => rfl
  | true =>
    simp only [Bool.not_true, cond_false]
    have : ((chgO o).takes && within o.path []) = false := by
      rcases moves_kinds hm with h1 | ⟨h2, hn⟩ | ⟨h3, hn, hw⟩
      · unfold chgO; simp [h1]
      all_goals
        cases hp : o.path with
        | nil => exact absurd hp hn
        | cons a l => rw [within_cons_nil, Bool.and_false]
    rw [this]; rfl
end Bow
/- W67: the document's answer of chapter 11: Moves, parent, child, Node, Gap, Undo. -/
namespace Bow
open Go Go.Proofs

theorem formed_kinds {o : OpT} (h : formedB o = true) : o.kind = 1 ∨ o.kind = 2 ∨ o.kind = 3 ∨ o.kind = 4 ∨ o.kind = 5 ∨ o.kind = 6 := by
  unfold formedB at h
  by_cases h1 : o.kind = 1
  · exact .inl h1
  by_cases h2 : o.kind = 2
  · exact .inr (.inl h2)
  by_cases h3 : o.kind = 3
  · exact .inr (.inr (.inl h3))
  by_cases h4 : o.kind = 4
  · exact .inr (.inr (.inr (.inl h4)))
  by_cases h5 : o.kind = 5
  · exact .inr (.inr (.inr (.inr (.inl h5))))
  by_cases h6 : o.kind = 6
  · exact .inr (.inr (.inr (.inr (.inr h6))))
  exfalso
  have e : ∀ {n : Int}, o.kind ≠ n → (o.kind == n) = false := fun h => by simpa using h
  rw [e h1, e h2, e h3, e h4, e h5, e h6] at h
  simp at h
set_option maxRecDepth 100000 in
theorem w_refMoves (o : OpT) (ho : o.Ok) : Pure Tryz.prog 238 [opV o] (fun x => x = .bool (movesO o)) := by
  refine pure_wk (pure_fn 300 Tryz.func238 rfl rfl rfl fun B => ?_)
  have hW := w_refWithin o.path o.to ho.lt.path
  show CallThen _ _ _ _ _ _
  refine call_pure (w_refFormed o ho.lt ho.each) rfl ?_
  rintro x rfl
  repeat' first
    | (refine ⟨fun _ => go 300 ?_, fun _ => go 300 ?_⟩)
    | (show CallThen _ _ _ _ _ _; refine call_pure hW rfl ?_; rintro z rfl)
    | (refine ⟨trivial, rfl, rfl, rfl, leaf_tt ?_⟩)
    | (refine ⟨trivial, rfl, rfl, rfl, leaf_ff ?_⟩)
    | (refine ⟨trivial, rfl, rfl, rfl, leaf_b ?_⟩)
    | fail
  all_goals clear hW
  all_goals (unfold movesO; cases hf : formedB o with
    | false => simp_all
    | true => rcases formed_kinds hf with k | k | k | k | k | k <;> simp_all <;> (try intro _) <;> exact List.length_pos_iff.2 (by assumption))
/-- The parent's path and the last number. -/
theorem w_refParent (p : List Int) (hp : p.length ≤ 1000000) (hne : p ≠ []) : Pure Tryz.prog 239 [pathV p] (fun x => x = .tup [pathV p.dropLast, intV (lastP p)]) := by
  have hpos : 0 < p.length := List.length_pos_iff.2 hne
  have e : V.sl 1 ((((p.map intV).drop (Int.toNat 0)).take ((((p.map intV).length : Int) - 1).toNat - Int.toNat 0))) = pathV p.dropLast := by
    unfold pathV
    rw [List.dropLast_eq_take, List.map_take]
    congr 2
    simp
  have hx : (p.map intV)[(((p.map intV).length : Int) - 1).toNat]? = some (intV (lastP p)) := by
    rw [← lastP_eq hne, List.getElem?_map, List.getLast_eq_getElem]
    have : (((p.map intV).length : Int) - 1).toNat = p.length - 1 := by simp
    rw [this, List.getElem?_eq_getElem (by omega)]
    rfl
  have hl : (p.map intV).length = p.length := by simp
  refine pure_fn 100 Tryz.func239 rfl rfl rfl fun B => ?_
  show Goes _ _ _ _
  refine goes_draw 100 ⟨by constructor <;> omega, by decide, by omega, by omega, by constructor <;> omega, by omega, _, hx, ?_⟩
  refine ⟨by kernel_rfl, ?_⟩
  refine ⟨trivial, rfl, rfl, rfl, ?_⟩
  rw [e]
  rfl
def childV (r : Option Int) : V := .tup [.int .i64 (r.getD 0), .bool r.isSome]
theorem leafC {r : Option Int} {n : Int} (h : r = some n) : ∃ y, Wk (.tup [.int .i64 n, .tt]) y ∧ y.pureB = true ∧ y = childV r := ⟨childV (some n), Wk.tup ⟨.refl _, Wk.tt, trivial⟩, rfl, by rw [h]⟩
theorem leafC0 {r : Option Int} (h : r = none) : ∃ y, Wk (.tup [.int .i64 0, .ff]) y ∧ y.pureB = true ∧ y = childV r := ⟨childV none, Wk.tup ⟨.refl _, Wk.ff, trivial⟩, rfl, by rw [h]⟩
set_option maxRecDepth 100000 in
theorem w_refchild (o : OpT) (p : List Int) (k : Int) (ho : o.Ok) (hm : movesO o = true) (hp : p.length ≤ 1000000) (hk : 0 ≤ k ∧ k ≤ 10000000) : Pure Tryz.prog 240 [opV o, pathV p, .int .i64 k] (fun x => x = childV (childR o p k)) := by
  refine pure_wk (pure_fn 300 Tryz.func240 rfl rfl rfl fun B => ?_)
  have h1 := w_refSame p o.path hp
  have h2 := w_refSame p o.path.dropLast hp
  have h3 := w_refSame p o.to hp
  refine ⟨fun g1 => go 300 ?_, fun g1 => go 300 ?_⟩
  · have k1 : o.kind = 1 := eq_of g1
    repeat' first
      | (refine ⟨fun _ => go 300 ?_, fun _ => go 300 ?_⟩)
      | (show CallThen _ _ _ _ _ _; refine call_pure h1 rfl ?_; rintro z rfl)
      | (refine ⟨trivial, rfl, rfl, rfl, leafC ?_⟩)
      | (refine ⟨by constructor <;> omega, ?_⟩)
      | fail
    all_goals (clear h1 h2 h3 k1; unfold childR; simp only [*, cond_true, cond_false, Bool.and_true, Bool.and_false, Bool.false_and])
  have k1 : o.kind ≠ 1 := ne_of g1
  have hne := moves_ne hm k1
  show CallThen _ _ _ _ _ _
  refine call_pure (w_refParent o.path ho.lt.path hne) rfl ?_
  rintro x rfl
  repeat' first
    | (refine ⟨fun _ => go 300 ?_, fun _ => go 300 ?_⟩)
    | (show CallThen _ _ _ _ _ _; refine call_pure h2 rfl ?_; rintro z rfl)
    | (show CallThen _ _ _ _ _ _; refine call_pure h3 rfl ?_; rintro z rfl)
    | (refine ⟨trivial, rfl, rfl, rfl, leafC ?_⟩)
    | (refine ⟨trivial, rfl, rfl, rfl, leafC0 ?_⟩)
    | (refine ⟨by constructor <;> omega, ?_⟩)
    | fail
  all_goals (clear h1 h2 h3 k1 hne; unfold childR; simp only [*, cond_true, cond_false, Bool.and_true, Bool.and_false, Bool.true_and, Bool.false_and, Int.add_zero])
theorem w_refChild4 (p : List Int) (n : Int) (hp : p.length ≤ 100000) : Pure Tryz.prog 123 [pathV p, .int .i64 n] (fun x => x = pathV (p ++ [n])) := by
  refine pure_wk (pure_fn 300 Tryz.func123 rfl rfl rfl fun B => ?_)
  show CallThen _ _ _ _ _ _
  refine call_sub [] (w_CopiedQ (p.map intV) (by simp; omega)) rfl rfl trivial rfl rfl rfl ?_
  rintro x T1 ⟨rfl, rfl⟩
  refine ⟨rfl, ?_⟩
  refine ⟨⟨rfl, trivial⟩, rfl, rfl, rfl, rfl, ?_, ?_⟩
  · simp only [List.length_map, List.length_cons, List.length_nil]; exact Nat.le_trans (Nat.mul_le_mul_right _ (show p.length + 1 ≤ 1000000 by omega)) (by decide)
  refine ⟨trivial, rfl, rfl, rfl, by simp, rfl, pathV (p ++ [n]), ?_, rfl, rfl⟩
  unfold pathV
  rw [List.map_append]
  exact Wk.refl _
theorem nodeP_len64 (o : OpT) (p : List Int) : ((nodeP o p).getD []).length ≤ p.length + 65 := by
  unfold nodeP
  cases hm : movesO o with
  | false => simp
  | true =>
    obtain ⟨hf, hkk⟩ := moves_parts hm
    cases ht : (chgO o).takes && within o.path p with
    | false => simp [nums_len]
    | true =>
      cases hq : (chgO o).puts with
      | false => simp
      | true =>
        rw [Bool.and_eq_true] at ht
        have hk3 : o.kind = 3 := by
          rcases hkk with k | ⟨k, _⟩ | h
          · have := ht.1; unfold chgO at this; simp [k] at this
          · unfold chgO at hq; simp [k] at hq
          · exact h.1
        have := may_len (good_to hf hk3)
        simp [nums_len]
        omega
def nodeBV (r : Option (List Int)) : V := .tup [pathV (r.getD []), .bool r.isSome]
theorem leafN1 {r : Option (List Int)} {q : List Int} (h : r = some q) : ∃ y, Wk (.tup [pathV q, .tt]) y ∧ y.pureB = true ∧ y = nodeBV r := ⟨nodeBV (some q), Wk.tup ⟨.refl _, Wk.tt, trivial⟩, rfl, by rw [h]⟩
theorem leafN0 {r : Option (List Int)} (h : r = none) : ∃ y, Wk (.tup [.nilsl, .ff]) y ∧ y.pureB = true ∧ y = nodeBV r := ⟨nodeBV none, Wk.tup ⟨Wk.nil 1, Wk.ff, trivial⟩, rfl, by rw [h]⟩
theorem w_refNode0 (o : OpT) (p : List Int) (ho : o.Ok) (hp : p.length ≤ 1000) (h : movesO o = false ∨ p = []) : Pure Tryz.prog 217 [opV o, pathV p] (fun x => x = nodeBV (nodeP o p)) := by
  have e : nodeP o p = some p := by
    rcases h with h | rfl
    · exact node_still p h
    · exact node_root
  refine pure_wk (pure_fn 300 Tryz.func217 rfl rfl rfl fun B => ?_)
  show CallThen _ _ _ _ _ _
  refine call_pure (w_refMoves o ho) rfl ?_
  rintro x rfl
  refine ⟨fun g1 => go 300 ?_, fun g1 => go 300 ?_⟩
  · show CallThen _ _ _ _ _ _
    refine call_pure (w_refCopied p (by omega)) rfl ?_
    rintro x rfl
    exact ⟨trivial, rfl, rfl, rfl, leafN1 e⟩
  refine ⟨fun g2 => go 300 ?_, fun g2 => go 300 ?_⟩
  · show CallThen _ _ _ _ _ _
    refine call_pure (w_refCopied p (by omega)) rfl ?_
    rintro x rfl
    exact ⟨trivial, rfl, rfl, rfl, leafN1 e⟩
  · exfalso
    have g1 : movesO o = true := by simpa using g1
    rcases h with h | rfl
    · rw [g1] at h; cases h
    · exact absurd rfl (ne_of g2)
set_option maxHeartbeats 4000000 in
set_option maxRecDepth 100000 in
theorem w_refNodeS (o : OpT) (p : List Int) (ho : o.Ok) (hm : movesO o = true) (hne : p ≠ []) (hp : p.length ≤ 1000) (hpb : ∀ i ∈ p, 0 ≤ i ∧ i ≤ 1048576)
    (ih : Pure Tryz.prog 217 [opV o, pathV p.dropLast] (fun x => x = nodeBV (nodeP o p.dropLast)))
    (ih2 : o.kind = 3 → o.path = p → Pure Tryz.prog 217 [opV o, pathV o.to] (fun x => x = nodeBV (nodeP o o.to))) :
    Pure Tryz.prog 217 [opV o, pathV p] (fun x => x = nodeBV (nodeP o p)) := by
  have hlast : 0 ≤ lastP p ∧ lastP p ≤ 1048576 := by rw [← lastP_eq hne]; exact hpb _ (List.getLast_mem hne)
  have hsnoc := snoc_last hne
  obtain ⟨hf, hkk⟩ := moves_parts hm
  have hpos : 0 < p.length := List.length_pos_iff.2 hne
  have hlen1 := nodeP_len64 o p.dropLast
  have hdl : p.dropLast.length ≤ 1000 := by simp; omega
  have h1 := w_refSame p o.path (by omega)
  refine pure_wk (pure_fn 300 Tryz.func217 rfl rfl rfl fun B => ?_)
  show CallThen _ _ _ _ _ _
  refine call_pure (w_refMoves o ho) rfl ?_
  rintro x rfl
  refine ⟨fun g1 => absurd g1 (by rw [hm]; decide), fun _ => go 300 ?_⟩
  refine ⟨fun g1 => absurd (eq_of g1) (by simp; omega), fun _ => go 300 ?_⟩
  show CallThen _ _ _ _ _ _
  refine call_pure (w_refParent p (by omega) hne) rfl ?_
  rintro x rfl
  have rest : ∀ (h : ¬ (o.kind = 3 ∧ o.path = p)), nodeP o p = nodeR (nodeP o p.dropLast) (childR o p.dropLast (lastP p)) := fun h => by
    have := node_snoc hm p.dropLast (lastP p) (by rw [hsnoc]; exact h)
    rwa [hsnoc] at this
  have hch := w_refchild o p.dropLast (lastP p) ho hm (by omega) ⟨by omega, by omega⟩
  refine ⟨fun g2 => go 300 ?_, fun g2 => go 300 ?_⟩
  · have k3 : o.kind = 3 := eq_of g2
    show CallThen _ _ _ _ _ _
    refine call_pure h1 rfl ?_
    rintro x rfl
    refine ⟨fun g3 => go 300 ?_, fun g3 => go 300 ?_⟩
    · have e3 : p = o.path := of_decide_eq_true g3
      have hto := may_len (good_to hf k3)
      have hgap := formed_gap hf (.inr k3)
      have hl2 := nodeP_len64 o o.to
      have hmv := node_moved hm k3
      rw [← e3] at hmv
      show CallThen _ _ _ _ _ _
      refine call_pure (ih2 k3 e3.symm) rfl ?_
      rintro x rfl
      show CallThen _ _ _ _ _ _
      refine call_pure (w_refSame p.dropLast o.to (by omega)) rfl ?_
      rintro x rfl
      have fin : ∀ n : Int, n = (bif decide (p.dropLast = o.to) && decide (lastP p < o.at_) then o.at_ - 1 else o.at_) → nodeP o p = some ((nodeP o o.to).getD [] ++ [n]) := fun n hn => by rw [hn]; exact hmv
      refine ⟨fun g4 => go 300 ?_, fun g4 => go 300 ?_⟩
      · refine ⟨fun g5 => go 300 ?_, fun g5 => go 300 ?_⟩
        · refine ⟨by constructor <;> omega, ?_⟩
          show CallThen _ _ _ _ _ _
          refine call_pure (w_refChild4 _ _ (by omega)) rfl ?_
          rintro x rfl
          exact ⟨trivial, rfl, rfl, rfl, leafN1 (fin _ (by rw [g4, g5]; rfl))⟩
        · show CallThen _ _ _ _ _ _
          refine call_pure (w_refChild4 _ _ (by omega)) rfl ?_
          rintro x rfl
          exact ⟨trivial, rfl, rfl, rfl, leafN1 (fin _ (by rw [g4, g5]; rfl))⟩
      · show CallThen _ _ _ _ _ _
        refine call_pure (w_refChild4 _ _ (by omega)) rfl ?_
        rintro x rfl
        exact ⟨trivial, rfl, rfl, rfl, leafN1 (fin _ (by rw [g4]; rfl))⟩
    · have e3 : ¬ p = o.path := of_decide_eq_false g3
      have er := rest (fun h => e3 h.2.symm)
      rw [er]
      show CallThen _ _ _ _ _ _
      refine call_pure ih rfl ?_
      rintro x rfl
      show CallThen _ _ _ _ _ _
      refine call_pure hch rfl ?_
      rintro x rfl
      refine ⟨fun g4 => go 300 ?_, fun g4 => go 300 ?_⟩
      · exact ⟨trivial, rfl, rfl, rfl, leafN0 (by cases hR : nodeP o p.dropLast with
          | none => rfl
          | some q => rw [hR] at g4; cases g4)⟩
      refine ⟨fun g5 => go 300 ?_, fun g5 => go 300 ?_⟩
      · exact ⟨trivial, rfl, rfl, rfl, leafN0 (by cases hR : childR o p.dropLast (lastP p) with
          | none => cases nodeP o p.dropLast <;> rfl
          | some q => rw [hR] at g5; cases g5)⟩
      show CallThen _ _ _ _ _ _
      refine call_pure (w_refChild4 _ _ (by omega)) rfl ?_
      rintro x rfl
      exact ⟨trivial, rfl, rfl, rfl, leafN1 (by
        cases hR : nodeP o p.dropLast with
        | none => rw [hR] at g4; cases g4
        | some q =>
          cases hC : childR o p.dropLast (lastP p) with
          | none => rw [hC] at g5; cases g5
          | some n => rfl)⟩
  · have k3 : o.kind ≠ 3 := ne_of g2
    have er := rest (fun h => k3 h.1)
    rw [er]
    show CallThen _ _ _ _ _ _
    refine call_pure ih rfl ?_
    rintro x rfl
    show CallThen _ _ _ _ _ _
    refine call_pure hch rfl ?_
    rintro x rfl
    refine ⟨fun g4 => go 300 ?_, fun g4 => go 300 ?_⟩
    · exact ⟨trivial, rfl, rfl, rfl, leafN0 (by cases hR : nodeP o p.dropLast with
        | none => rfl
        | some q => rw [hR] at g4; cases g4)⟩
    refine ⟨fun g5 => go 300 ?_, fun g5 => go 300 ?_⟩
    · exact ⟨trivial, rfl, rfl, rfl, leafN0 (by cases hR : childR o p.dropLast (lastP p) with
        | none => cases nodeP o p.dropLast <;> rfl
        | some q => rw [hR] at g5; cases g5)⟩
    show CallThen _ _ _ _ _ _
    refine call_pure (w_refChild4 _ _ (by omega)) rfl ?_
    rintro x rfl
    exact ⟨trivial, rfl, rfl, rfl, leafN1 (by
      cases hR : nodeP o p.dropLast with
      | none => rw [hR] at g4; cases g4
      | some q =>
        cases hC : childR o p.dropLast (lastP p) with
        | none => rw [hC] at g5; cases g5
        | some n => rfl)⟩
theorem w_refNode1 (o : OpT) (ho : o.Ok) (hm : movesO o = true) : ∀ (n : Nat) (p : List Int), p.length = n → p.length ≤ 1000 → (∀ i ∈ p, 0 ≤ i ∧ i ≤ 1048576) → (o.kind = 3 → within o.path p = false) → Pure Tryz.prog 217 [opV o, pathV p] (fun x => x = nodeBV (nodeP o p))
  | 0, p, hn, _, _, _ => w_refNode0 o p ho (by omega) (.inr (List.length_eq_zero_iff.1 hn))
  | n + 1, p, hn, hp, hpb, hw => by
    have hne : p ≠ [] := fun e => by rw [e] at hn; cases hn
    have hd : p.dropLast.length = n := by simp [hn]
    refine w_refNodeS o p ho hm hne hp hpb (w_refNode1 o ho hm n p.dropLast hd (by omega) (fun i hi => hpb i (List.dropLast_subset _ hi)) fun k => ?_) fun k e => ?_
    · have := hw k
      have e := within_snoc o.path p.dropLast (lastP p)
      rw [snoc_last hne, this] at e
      exact (Bool.or_eq_false_iff.1 e.symm).1
    · have := hw k
      rw [e] at this
      unfold within at this
      simp at this
theorem w_refNode2 (o : OpT) (ho : o.Ok) (hm : movesO o = true) : ∀ (n : Nat) (p : List Int), p.length = n → p.length ≤ 1000 → (∀ i ∈ p, 0 ≤ i ∧ i ≤ 1048576) → Pure Tryz.prog 217 [opV o, pathV p] (fun x => x = nodeBV (nodeP o p))
  | 0, p, hn, _, _ => w_refNode0 o p ho (by omega) (.inr (List.length_eq_zero_iff.1 hn))
  | n + 1, p, hn, hp, hpb => by
    have hne : p ≠ [] := fun e => by rw [e] at hn; cases hn
    have hd : p.dropLast.length = n := by simp [hn]
    refine w_refNodeS o p ho hm hne hp hpb (w_refNode2 o ho hm n p.dropLast hd (by omega) (fun i hi => hpb i (List.dropLast_subset _ hi))) fun k e => ?_
    obtain ⟨hf, hkk⟩ := moves_parts hm
    have hto := good_to hf k
    have := may_len hto
    refine w_refNode1 o ho hm _ o.to rfl (by omega) (may_step hto) fun _ => ?_
    rcases hkk with h | ⟨h, _⟩ | ⟨_, _, h⟩
    · omega
    · omega
    · exact h
theorem w_refNode (o : OpT) (p : List Int) (ho : o.Ok) (hp : p.length ≤ 1000) (hpb : ∀ i ∈ p, 0 ≤ i ∧ i ≤ 1048576) : Pure Tryz.prog 217 [opV o, pathV p] (fun x => x = nodeBV (nodeP o p)) := by
  cases hm : movesO o with
  | false => exact w_refNode0 o p ho hp (.inl hm)
  | true => exact w_refNode2 o ho hm _ p rfl hp hpb

set_option maxHeartbeats 4000000 in
set_option maxRecDepth 100000 in
theorem w_refGap (o : OpT) (p : List Int) (at_ : Int) (first : Bool) (ho : o.Ok) (hp : p.length ≤ 1000) (hpb : ∀ i ∈ p, 0 ≤ i ∧ i ≤ 1048576) (hat : 0 ≤ at_ ∧ at_ ≤ 10000000) :
    Pure Tryz.prog 244 [opV o, pathV p, .int .i64 at_, .bool first] (fun x => x = gapV (gapP o p at_ first)) := by
  refine pure_wk (pure_fn 300 Tryz.func244 rfl rfl rfl fun B => ?_)
  show CallThen _ _ _ _ _ _
  refine call_pure (w_refNode o p ho hp hpb) rfl ?_
  rintro x rfl
  cases hn : nodeP o p with
  | none =>
    have e : gapP o p at_ first = ([], 0, false) := by unfold gapP; rw [hn]
    rw [e]
    refine ⟨fun _ => go 300 ?_, fun g => (by cases g)⟩
    exact ⟨trivial, rfl, rfl, rfl, gapV ([], 0, false), Wk.tup ⟨Wk.nil 1, .refl _, Wk.ff, trivial⟩, rfl, rfl⟩
  | some q =>
    refine ⟨fun g => (by cases g), fun _ => go 300 ?_⟩
    show CallThen _ _ _ _ _ _
    refine call_pure (w_refMoves o ho) rfl ?_
    rintro x rfl
    refine ⟨fun g1 => go 300 ?_, fun g1 => go 300 ?_⟩
    · have hm : movesO o = false := by simpa using g1
      refine ⟨trivial, rfl, rfl, rfl, gap_leaf ?_⟩
      unfold gapP
      rw [hn, hm]
      rfl
    have hm : movesO o = true := by simpa using g1
    have e : gapP o p at_ first = (q, (bif (chgO o).takes && (decide ((chgO o).at_ < at_) && decide (p = (chgO o).frm)) then at_ - 1 else at_) + (bif (chgO o).puts && (decide (p = (chgO o).to) && (decide ((chgO o).gap < at_) || (decide (at_ = (chgO o).gap) && !first))) then 1 else 0), true) := by
      unfold gapP
      rw [hn, hm]
      rfl
    rw [e]
    clear e
    have flip : ∀ r : List Int, decide (r = p) = decide (p = r) := fun r => decide_eq_decide.2 eq_comm
    have h1 := w_refSame o.path.dropLast p (by have := ho.lt.path; simp; omega)
    have h2 := w_refSame o.path p ho.lt.path
    have h3 := w_refSame o.to p ho.lt.to
    rw [flip] at h1 h2 h3
    clear flip
    have hgap : (chgO o).gap = o.at_ := rfl
    rcases moves_kinds hm with k | ⟨k, hne⟩ | ⟨k, hne, hw⟩
    · have e1 : (chgO o).takes = false := by unfold chgO; simp [k]
      have e2 : (chgO o).puts = true := by unfold chgO; simp [k]
      have e3 : (chgO o).to = o.path := by unfold chgO; simp [k]
      rw [e1, e2, e3, hgap]
      clear e1 e2 e3 hgap
      refine ⟨fun g => absurd k (ne_of' g), fun _ => go 300 ?_⟩
      refine ⟨fun _ => go 300 ?_, fun g => absurd k (ne_of g)⟩
      refine ⟨fun _ => go 300 ?_, fun g => absurd (eq_of' g) (by omega)⟩
      show CallThen _ _ _ _ _ _
      refine call_pure h2 rfl ?_
      rintro x rfl
      repeat' first
        | (refine ⟨fun _ => go 300 ?_, fun _ => go 300 ?_⟩)
        | (refine ⟨trivial, rfl, rfl, rfl, gap_leaf ?_⟩)
        | (refine ⟨by constructor <;> omega, ?_⟩)
        | fail
      all_goals (clear h1 h2 h3 k hm g1; simp only [*, cond_true, cond_false, Bool.and_true, Bool.and_false, Bool.false_and, Bool.or_true, Bool.true_or, Bool.or_false, Int.add_zero, Option.getD_some])
    · have e1 : (chgO o).takes = true := by unfold chgO; simp [k]
      have e2 : (chgO o).puts = false := by unfold chgO; simp [k]
      have e3 : (chgO o).frm = o.path.dropLast := by unfold chgO; simp [k]
      have e4 : (chgO o).at_ = lastP o.path := by unfold chgO; simp [k]
      rw [e1, e2, e3, e4, hgap]
      clear e1 e2 e3 e4 hgap
      have hpar := w_refParent o.path ho.lt.path hne
      refine ⟨fun _ => go 300 ?_, fun g => absurd (eq_of' g) (by omega)⟩
      show CallThen _ _ _ _ _ _
      refine call_pure hpar rfl ?_
      rintro x rfl
      show CallThen _ _ _ _ _ _
      refine call_pure h1 rfl ?_
      rintro x rfl
      repeat' first
        | (refine ⟨fun g => absurd (eq_of g) (by omega), fun _ => go 300 ?_⟩)
        | (refine ⟨fun g => absurd k (ne_of' g), fun _ => go 300 ?_⟩)
        | (refine ⟨fun _ => go 300 ?_, fun _ => go 300 ?_⟩)
        | (refine ⟨trivial, rfl, rfl, rfl, gap_leaf ?_⟩)
        | (refine ⟨by constructor <;> omega, ?_⟩)
        | fail
      all_goals (clear h1 h2 h3 k hm g1; simp only [*, cond_true, cond_false, Bool.and_true, Bool.and_false, Bool.false_and, Int.add_zero, Option.getD_some])
    · have e1 : (chgO o).takes = true := by unfold chgO; simp [k]
      have e2 : (chgO o).puts = true := by unfold chgO; simp [k]
      have e3 : (chgO o).frm = o.path.dropLast := by unfold chgO; simp [k]
      have e4 : (chgO o).at_ = lastP o.path := by unfold chgO; simp [k]
      have e5 : (chgO o).to = o.to := by unfold chgO; simp [k]
      rw [e1, e2, e3, e4, e5, hgap]
      clear e1 e2 e3 e4 e5 hgap
      have hpar := w_refParent o.path ho.lt.path hne
      refine ⟨fun _ => go 300 ?_, fun g => absurd (eq_of' g) (by omega)⟩
      show CallThen _ _ _ _ _ _
      refine call_pure hpar rfl ?_
      rintro x rfl
      show CallThen _ _ _ _ _ _
      refine call_pure h1 rfl ?_
      rintro x rfl
      repeat' first
        | (refine ⟨fun g => absurd (eq_of g) (by omega), fun _ => go 300 ?_⟩)
        | (refine ⟨fun _ => go 300 ?_, fun g => absurd (eq_of' g) (by omega)⟩)
        | (refine ⟨fun _ => go 300 ?_, fun _ => go 300 ?_⟩)
        | (show CallThen _ _ _ _ _ _; refine call_pure h3 rfl ?_; rintro z rfl)
        | (refine ⟨trivial, rfl, rfl, rfl, gap_leaf ?_⟩)
        | (refine ⟨by constructor <;> omega, ?_⟩)
        | fail
      all_goals (clear h1 h2 h3 k hm g1; simp only [*, cond_true, cond_false, Bool.and_true, Bool.and_false, Bool.false_and, Bool.or_true, Bool.true_or, Bool.or_false, Int.add_zero, Option.getD_some])

set_option maxHeartbeats 4000000 in
set_option maxRecDepth 100000 in
theorem w_ref11Undo (o : OpT) (ho : o.Ok) : Pure Tryz.prog 241 [opV o] (fun x => x = opV (undoO o)) := by
  have z : undoO o = noOp 0 → ∃ y, Wk (.agg [.int .u8 0, .nilsl, .int .i64 0, .nilsl, .int .u64 0, .ff, .str [], .str [], .str [], .ff, .nilsl]) y ∧ y.pureB = true ∧ y = opV (undoO o) := fun h => ⟨opV (noOp 0), wk_zeroOp, rfl, by rw [h]⟩
  refine pure_wk (pure_fn 300 Tryz.func241 rfl rfl rfl fun B => ?_)
  refine ⟨fun g1 => go 300 ?_, fun g1 => go 300 ?_⟩
  · have hk : o.kind ≠ 3 := ne_of' g1
    exact ⟨trivial, rfl, rfl, rfl, z (by unfold undoO; rw [decide_eq_false hk]; rfl)⟩
  have hk : o.kind = 3 := eq_of' g1
  show CallThen _ _ _ _ _ _
  refine call_pure (w_refMoves o ho) rfl ?_
  rintro x rfl
  refine ⟨fun g2 => go 300 ?_, fun g2 => go 300 ?_⟩
  · have hm : movesO o = false := by simpa using g2
    exact ⟨trivial, rfl, rfl, rfl, z (by unfold undoO; rw [hm]; simp)⟩
  have hm : movesO o = true := by simpa using g2
  obtain ⟨hf, hkk⟩ := moves_parts hm
  have hne := moves_ne hm (by rw [hk]; decide)
  have hpl := may_len (formed_path hf)
  have hps := may_step (formed_path hf)
  have hgap := formed_gap hf (.inr hk)
  have hfrm : (chgO o).frm = o.path.dropLast := by unfold chgO; simp [hk]
  have hto : (chgO o).to = o.to := by unfold chgO; simp [hk]
  have hat : (chgO o).at_ = lastP o.path := by unfold chgO; simp [hk]
  have hl : 0 ≤ lastP o.path ∧ lastP o.path ≤ 1048576 := by rw [← lastP_eq hne]; exact hps _ (List.getLast_mem hne)
  have hfs : ∀ i ∈ o.path.dropLast, 0 ≤ i ∧ i ≤ 1048576 := fun i hi => hps i (List.dropLast_subset _ hi)
  have hland : (chgO o).land = bif decide (o.path.dropLast = o.to) && decide (lastP o.path < o.at_) then o.at_ - 1 else o.at_ := by
    unfold Chg.land
    rw [hfrm, hto, hat, Bool.and_comm]
    rfl
  have hmv := node_moved hm hk
  have hlen := nodeP_len64 o o.path
  rw [← hland] at hmv
  have hund : undoO o = { noOp 3 with path := (nodeP o o.path).getD [], to := (nodeP o o.path.dropLast).getD [], at_ := lastP o.path + (bif decide (o.path.dropLast = o.to) && decide ((chgO o).land < lastP o.path) then 1 else 0) } := by
    unfold undoO
    rw [decide_eq_true hk, hm, hfrm, hto, hat]
    rfl
  have cn := w_refNode o o.path ho (by omega) hps
  obtain ⟨now, hnow⟩ : ∃ now, (nodeP o o.to).getD [] ++ [(chgO o).land] = now := ⟨_, rfl⟩
  have hlast : lastP now = (chgO o).land := by rw [← hnow]; simp [lastP]
  have hnne : now ≠ [] := by rw [← hnow]; simp
  rw [hnow] at hmv
  rw [hmv] at cn hund hlen
  simp only [Option.getD_some] at hund hlen
  show CallThen _ _ _ _ _ _
  refine call_pure (w_refParent o.path ho.lt.path hne) rfl ?_
  rintro x rfl
  show CallThen _ _ _ _ _ _
  refine call_pure cn rfl ?_
  rintro x rfl
  show CallThen _ _ _ _ _ _
  refine call_pure (w_refNode o o.path.dropLast ho (by simp; omega) hfs) rfl ?_
  rintro x rfl
  show CallThen _ _ _ _ _ _
  refine call_pure (w_refParent now (by omega) hnne) rfl ?_
  rintro x rfl
  rw [hlast]
  show CallThen _ _ _ _ _ _
  refine call_pure (w_refSame o.path.dropLast o.to (by simp; omega)) rfl ?_
  rintro x rfl
  have fin : ∀ n : Int, n = lastP o.path + (bif decide (o.path.dropLast = o.to) && decide ((chgO o).land < lastP o.path) then 1 else 0) →
      ∃ y, Wk (.agg [.int .u8 3, pathV now, .int .i64 n, pathV ((nodeP o o.path.dropLast).getD []), .int .u64 0, .ff, .str [], .str [], .str [], .ff, .nilsl]) y ∧ y.pureB = true ∧ y = opV (undoO o) := fun n hn =>
    ⟨opV (undoO o), by
      rw [hund, ← hn]
      exact Wk.agg ⟨.refl _, .refl _, .refl _, .refl _, .refl _, Wk.ff, .refl _, .refl _, .refl _, Wk.ff, Wk.nil 3, trivial⟩, rfl, rfl⟩
  refine ⟨fun q1 => go 300 ?_, fun q1 => go 300 ?_⟩
  · refine ⟨fun q2 => go 300 ?_, fun q2 => go 300 ?_⟩
    · refine ⟨by constructor <;> omega, ?_⟩
      exact ⟨trivial, rfl, rfl, rfl, fin _ (by rw [q1, q2]; rfl)⟩
    · exact ⟨trivial, rfl, rfl, rfl, fin _ (by rw [q1, q2]; simp)⟩
  · exact ⟨trivial, rfl, rfl, rfl, fin _ (by rw [q1]; simp)⟩
end Bow
/- SP27: two edits behind each other, place by place, in plain Lean: as leaftext goes, by runs, it is the same. -/
namespace Bow
open Go

def Later (l : List PieceT) : Prop := ∀ p ∈ l, 0 < p.keep ∧ 0 ≤ p.drop
def RN : List PieceT → Prop
  | [] => True
  | p :: l => 0 ≤ p.keep ∧ 0 ≤ p.drop ∧ Later l
/-! ### What a maker makes is normal -/
structure Mk.Rn (m : Mk) : Prop where
  k : 0 ≤ m.keep
  l : RN m.l
theorem later_append {l : List PieceT} {p : PieceT} (h : Later l) (hp : 0 < p.keep ∧ 0 ≤ p.drop) : Later (l ++ [p]) := by
  intro q hq
  rcases List.mem_append.1 hq with hq | hq
  · exact h q hq
  · rw [List.mem_singleton] at hq
    exact hq ▸ hp
theorem rn_append {l : List PieceT} {p : PieceT} (h : RN l) (hp : 0 < p.keep ∧ 0 ≤ p.drop) : RN (l ++ [p]) := by
  cases l with
  | nil => exact ⟨by omega, hp.2, by intro q hq; cases hq⟩
  | cons q l => exact ⟨h.1, h.2.1, later_append h.2.2 hp⟩
theorem Mk.last_rn {m : Mk} (h : m.Rn) : m.last.Rn := by
  unfold Mk.last
  cases hk : decide (0 < m.keep) with
  | true => exact ⟨Int.le_refl 0, rn_append h.l ⟨of_decide_eq_true hk, Int.le_refl _⟩⟩
  | false =>
    cases hl : m.l with
    | nil => exact ⟨Int.le_refl 0, ⟨h.k, Int.le_refl _, by intro q hq; cases hq⟩⟩
    | cons p l => exact h
theorem modL_later {f : PieceT → PieceT} (hf : ∀ p, (f p).keep = p.keep) (hd : ∀ p, 0 ≤ p.drop → 0 ≤ (f p).drop) : ∀ {l : List PieceT}, Later l → Later (modL f l)
  | [], h => h
  | [p], h => by
    intro q hq
    rw [modL, List.mem_singleton] at hq
    have := h p List.mem_cons_self
    rw [hq, hf]
    exact ⟨this.1, hd _ this.2⟩
  | p :: q :: r, h => by
    intro z hz
    rw [modL] at hz
    rcases List.mem_cons.1 hz with rfl | hz
    · exact h _ List.mem_cons_self
    · exact modL_later hf hd (fun y hy => h y (List.mem_cons_of_mem _ hy)) z hz
theorem modL_rn {f : PieceT → PieceT} (hf : ∀ p, (f p).keep = p.keep) (hd : ∀ p, 0 ≤ p.drop → 0 ≤ (f p).drop) : ∀ {l : List PieceT}, RN l → RN (modL f l)
  | [], h => h
  | [p], h => by
    rw [modL]
    exact ⟨by rw [hf]; exact h.1, hd _ h.2.1, h.2.2⟩
  | p :: q :: r, h => ⟨h.1, h.2.1, modL_later hf hd h.2.2⟩
theorem Mk.put_rn {m : Mk} (s : List UInt8) (h : m.Rn) : (m.put s).Rn := by
  unfold Mk.put
  cases s.isEmpty with
  | true => exact h
  | false => exact ⟨(Mk.last_rn h).k, modL_rn (f := fun p => { p with put := p.put ++ s }) (fun _ => rfl) (fun _ h => h) (Mk.last_rn h).l⟩
theorem Mk.drop_rn {m : Mk} (n : Int) (h : m.Rn) : (m.drop n).Rn := by
  unfold Mk.drop
  cases hn : decide (0 < n) with
  | false => exact h
  | true => exact ⟨(Mk.last_rn h).k, modL_rn (f := fun p => { p with drop := p.drop + n }) (fun _ => rfl) (fun p h => by have := of_decide_eq_true hn; show 0 ≤ p.drop + n; omega) (Mk.last_rn h).l⟩
theorem Mk.piece_rn {m : Mk} {p : PieceT} (h : m.Rn) (hp : p.Nn) : (m.piece p).Rn :=
  Mk.drop_rn _ (Mk.put_rn _ ⟨by have := h.k; have := hp.k; show 0 ≤ m.keep + p.keep; omega, h.l⟩)
theorem foldl_rn : ∀ {l : List PieceT} {m : Mk}, m.Rn → (∀ p ∈ l, p.Nn) → (l.foldl Mk.piece m).Rn
  | [], _, h, _ => h
  | p :: l, m, h, hl => foldl_rn (l := l) (m := m.piece p) (Mk.piece_rn h (hl p List.mem_cons_self)) (fun q hq => hl q (List.mem_cons_of_mem _ hq))
theorem norm_rn {l : List PieceT} (h : rightP l = true) : RN (normP l) := (foldl_rn (m := ⟨[], 0⟩) ⟨Int.le_refl 0, trivial⟩ (right_nn h).1).l

/-! ### A row that stands at a run -/
def Run (n : Int) (d s : Bool) (r : List PieceT) : Prop :=
  (s = false ∧ d = false ∧ n = 0 ∧ r = []) ∨ (s = true ∧ 0 < n ∧ ∃ p l, r = p :: l ∧ 0 ≤ p.drop ∧ Later l ∧ ((d = false ∧ n = p.keep) ∨ (d = true ∧ p.keep = 0 ∧ p.put = [] ∧ n = p.drop)))
def Clean : List PieceT → Prop
  | [] => True
  | p :: _ => p.keep ≤ 0 → p.put = []
theorem put_clean {r : List PieceT} (h : RN r) : RN (rowPut r).2 ∧ Clean (rowPut r).2 ∧ extN (rowPut r).2 = extN r := by
  cases r with
  | nil => exact ⟨trivial, trivial, rfl⟩
  | cons p l =>
    rw [rowPut]
    cases hk : decide (0 < p.keep) with
    | true => exact ⟨h, fun g => absurd (of_decide_eq_true hk) (by omega), rfl⟩
    | false =>
      cases hp : p.put.isEmpty with
      | true => exact ⟨h, fun _ => List.isEmpty_iff.1 hp, rfl⟩
      | false => exact ⟨h, fun _ => rfl, rfl⟩
theorem run_stand {r : List PieceT} (h : RN r) (hc : Clean r) : Run (rowRun r).1.1 (rowRun r).1.2.1 (rowRun r).1.2.2 (rowRun r).2 ∧ extN (rowRun r).2 = extN r := by
  cases r with
  | nil => exact ⟨.inl ⟨rfl, rfl, rfl, rfl⟩, rfl⟩
  | cons p l =>
    obtain ⟨h1, h2, h3⟩ := h
    rw [rowRun]
    cases hk : decide (0 < p.keep) with
    | true => exact ⟨.inr ⟨rfl, of_decide_eq_true hk, p, l, rfl, h2, h3, .inl ⟨rfl, rfl⟩⟩, rfl⟩
    | false =>
      have hk := of_decide_eq_false hk
      cases hd : decide (0 < p.drop) with
      | true => exact ⟨.inr ⟨rfl, of_decide_eq_true hd, p, l, rfl, h2, h3, .inr ⟨rfl, by omega, hc (by omega), rfl⟩⟩, rfl⟩
      | false =>
        have hd := of_decide_eq_false hd
        rw [cond_false, cond_false]
        have e : extN (p :: l) = extN l := by rw [extN]; omega
        rw [e]
        cases l with
        | nil => exact ⟨.inl ⟨rfl, rfl, rfl, rfl⟩, rfl⟩
        | cons q m =>
          have hq := h3 q List.mem_cons_self
          rw [rowRun, decide_eq_true hq.1]
          exact ⟨.inr ⟨rfl, hq.1, q, m, rfl, hq.2, fun z hz => h3 z (List.mem_cons_of_mem _ hz), .inl ⟨rfl, rfl⟩⟩, rfl⟩
theorem Run.put {n : Int} {d s : Bool} {r : List PieceT} (h : Run n d s r) : rowPut r = ([], r) := by
  rcases h with ⟨_, _, _, rfl⟩ | ⟨_, hn, p, l, rfl, _, _, ⟨_, rfl⟩ | ⟨_, hk, hp, _⟩⟩
  · rfl
  · rw [rowPut, decide_eq_true hn]; rfl
  · rw [rowPut, hp]; simp
theorem Run.run {n : Int} {d s : Bool} {r : List PieceT} (h : Run n d s r) : rowRun r = ((n, d, s), r) := by
  rcases h with ⟨rfl, rfl, rfl, rfl⟩ | ⟨rfl, hn, p, l, rfl, _, _, ⟨rfl, rfl⟩ | ⟨rfl, hk, hp, rfl⟩⟩
  · rfl
  · rw [rowRun, decide_eq_true hn]; rfl
  · rw [rowRun, decide_eq_false (by omega : ¬ 0 < p.keep), decide_eq_true hn]; rfl
theorem Run.take {n j : Int} {d s : Bool} {r : List PieceT} (h : Run n d s r) (_ : 0 ≤ j) (hs : s = true → j < n) : Run (bif s then n - j else 0) d s (rowTake j r) := by
  rcases h with ⟨rfl, rfl, rfl, rfl⟩ | ⟨rfl, hn, p, l, rfl, hd, hl, ⟨rfl, rfl⟩ | ⟨rfl, hk, hp, rfl⟩⟩
  · exact .inl ⟨rfl, rfl, rfl, rfl⟩
  · have := hs rfl
    rw [rowTake, decide_eq_true hn]
    exact .inr ⟨rfl, by rw [cond_true]; omega, _, l, rfl, hd, hl, .inl ⟨rfl, rfl⟩⟩
  · have := hs rfl
    rw [rowTake, decide_eq_false (by omega : ¬ 0 < p.keep)]
    exact .inr ⟨rfl, by rw [cond_true]; omega, _, l, rfl, by show 0 ≤ p.drop - j; omega, hl, .inr ⟨rfl, hk, hp, rfl⟩⟩
theorem Run.take_take {n j : Int} {d s : Bool} {r : List PieceT} (h : Run n d s r) (_ : 0 ≤ j) (hs : s = true → j < n) : rowTake 1 (rowTake j r) = rowTake (j + 1) r := by
  rcases h with ⟨rfl, rfl, rfl, rfl⟩ | ⟨rfl, hn, p, l, rfl, hd, hl, ⟨rfl, rfl⟩ | ⟨rfl, hk, hp, rfl⟩⟩
  · rfl
  · have := hs rfl
    rw [rowTake, decide_eq_true hn, cond_true, rowTake, decide_eq_true (by show 0 < p.keep - j; omega), cond_true, rowTake, decide_eq_true hn, cond_true, show p.keep - j - 1 = p.keep - (j + 1) by omega]
  · have := hs rfl
    have e : decide (0 < p.keep) = false := decide_eq_false (by omega)
    rw [rowTake, e, cond_false, rowTake, e, cond_false, rowTake, e, cond_false, show p.drop - j - 1 = p.drop - (j + 1) by omega]
theorem Run.rn {n j : Int} {d s : Bool} {r : List PieceT} (h : Run n d s r) (hj : 0 ≤ j) (hs : s = true → j ≤ n) : RN (rowTake j r) ∧ extN (rowTake j r) = extN r - (bif s then j.toNat else 0) ∧ (s = true → n.toNat ≤ extN r) ∧ (s = false → extN r = 0) := by
  rcases h with ⟨rfl, rfl, rfl, rfl⟩ | ⟨rfl, hn, p, l, rfl, hd, hl, ⟨rfl, rfl⟩ | ⟨rfl, hk, hp, rfl⟩⟩
  · exact ⟨trivial, rfl, (fun g => (by cases g)), (fun _ => rfl)⟩
  · have := hs rfl
    rw [rowTake, decide_eq_true hn]
    refine ⟨⟨by show 0 ≤ p.keep - j; omega, hd, hl⟩, ?_, (fun _ => ?_), (fun g => (by cases g))⟩
    · simp only [cond_true, extN]; omega
    · simp only [extN]; omega
  · have := hs rfl
    rw [rowTake, decide_eq_false (by omega : ¬ 0 < p.keep)]
    refine ⟨⟨by show 0 ≤ p.keep; omega, by show 0 ≤ p.drop - j; omega, hl⟩, ?_, (fun _ => ?_), (fun g => (by cases g))⟩
    · simp only [cond_false, cond_true, extN]; omega
    · simp only [extN]; omega

/-! ### Makers, byte by byte -/
def dX (m : Mk) (n : Int) (mine other : Bool) : Mk := bif other then m else bif mine then m.drop n else m.kept n
theorem does_eq (s : Tr) (n : Int) (d g : Bool) : s.does n d g = ⟨s.p, s.q, dX s.x n d g, dX s.y n g d⟩ := by
  cases d <;> cases g <;> rfl
theorem modL_modL (f g : PieceT → PieceT) : ∀ l : List PieceT, modL f (modL g l) = modL (fun p => f (g p)) l
  | [] => rfl
  | [p] => rfl
  | [p, q] => rfl
  | p :: q :: r :: l => by
    have ih := modL_modL f g (q :: r :: l)
    simp only [modL] at ih ⊢
    rw [ih]
theorem Mk.last_done (m : Mk) : ¬ 0 < m.last.keep ∧ m.last.l ≠ [] := by
  refine ⟨?_, m.last_ne⟩
  unfold Mk.last
  cases h : decide (0 < m.keep) || m.l.isEmpty with
  | true => simp
  | false =>
    rw [Bool.or_eq_false_iff] at h
    exact of_decide_eq_false h.1
theorem Mk.last_of {m : Mk} (h1 : ¬ 0 < m.keep) (h2 : m.l ≠ []) : m.last = m := by
  unfold Mk.last
  rw [decide_eq_false h1]
  cases h : m.l with
  | nil => exact absurd h h2
  | cons p l => rfl
theorem drop_drop (m : Mk) {j : Int} (hj : 0 < j) : (m.drop j).drop 1 = m.drop (j + 1) := by
  obtain ⟨h1, h2⟩ := m.last_done
  unfold Mk.drop
  rw [decide_eq_true hj, decide_eq_true (by omega : (0 : Int) < j + 1), cond_true, cond_true]
  rw [Mk.last_of (m := ⟨modL (fun p => { p with drop := p.drop + j }) m.last.l, m.last.keep⟩) h1 (modL_ne h2)]
  simp only [modL_modL]
  simp only [show (decide ((0 : Int) < 1)) = true from rfl, cond_true, Int.add_assoc]
theorem dX_dX (m : Mk) {j : Int} (hj : 0 < j) (d g : Bool) : dX (dX m j d g) 1 d g = dX m (j + 1) d g := by
  cases g with
  | true => rfl
  | false =>
    cases d with
    | true => exact drop_drop m hj
    | false =>
      unfold dX Mk.kept
      simp only [cond_false, Int.add_assoc]
theorem put_nil (m : Mk) : m.put [] = m := rfl
theorem kept_zero (m : Mk) : m.kept 0 = m := by
  unfold Mk.kept
  rw [Int.add_zero]

/-! ### Place by place -/
def Tr.one (prior : Bool) (s : Tr) : Tr :=
  match s.puts prior with
  | ⟨p, q, x, y⟩ => Tr.does ⟨rowTake 1 (rowRun p).2, rowTake 1 (rowRun q).2, x, y⟩ 1 (rowRun p).1.2.1 (rowRun q).1.2.1
def Tr.bytes (prior : Bool) : Nat → Tr → Tr
  | 0, s => s
  | k + 1, s => Tr.bytes prior k (s.one prior)
theorem bytes_add (prior : Bool) : ∀ (j k : Nat) (s : Tr), Tr.bytes prior (j + k) s = Tr.bytes prior k (Tr.bytes prior j s)
  | 0, k, s => by rw [Nat.zero_add]; rfl
  | j + 1, k, s => by rw [Nat.succ_add]; exact bytes_add prior j k (s.one prior)
theorem puts_run {prior : Bool} {p q : List PieceT} {x y : Mk} (hp : rowPut p = ([], p)) (hq : rowPut q = ([], q)) : Tr.puts prior ⟨p, q, x, y⟩ = ⟨p, q, x, y⟩ := by
  unfold Tr.puts
  simp only [hp, hq]
  cases prior <;> simp [put_nil, kept_zero]
/-- So many bytes at once, of two rows that go on alike. -/
theorem bytes_run {prior : Bool} {s : Tr} {p q p' q' : List PieceT} {x y : Mk} {na nb : Int} {d g sa sb : Bool} (h1 : s.puts prior = ⟨p, q, x, y⟩) (h2 : rowRun p = ((na, d, sa), p')) (h3 : rowRun q = ((nb, g, sb), q')) (h4 : Run na d sa p') (h5 : Run nb g sb q') :
    ∀ j : Nat, (sa = true → (j : Int) + 1 ≤ na) → (sb = true → (j : Int) + 1 ≤ nb) → Tr.bytes prior (j + 1) s = Tr.does ⟨rowTake (j + 1 : Nat) p', rowTake (j + 1 : Nat) q', x, y⟩ (j + 1 : Nat) d g
  | 0, _, _ => by
    show s.one prior = _
    unfold Tr.one
    rw [h1]
    simp only [h2, h3]
    rfl
  | j + 1, ha, hb => by
    rw [bytes_add prior (j + 1) 1, bytes_run h1 h2 h3 h4 h5 j (fun e => by have := ha e; omega) (fun e => by have := hb e; omega)]
    have ja : sa = true → ((j + 1 : Nat) : Int) < na := fun e => by have := ha e; omega
    have jb : sb = true → ((j + 1 : Nat) : Int) < nb := fun e => by have := hb e; omega
    have ka := h4.take (Int.natCast_nonneg (j + 1)) ja
    have kb := h5.take (Int.natCast_nonneg (j + 1)) jb
    rw [does_eq]
    show Tr.one prior _ = _
    unfold Tr.one
    rw [puts_run ka.put kb.put]
    simp only [ka.run, kb.run]
    rw [does_eq, does_eq, h4.take_take (Int.natCast_nonneg (j + 1)) ja, h5.take_take (Int.natCast_nonneg (j + 1)) jb]
    simp only
    rw [dX_dX x (by omega), dX_dX y (by omega)]
    rfl
theorem bytes_end {prior : Bool} : ∀ (k : Nat) (x y : Mk), (Tr.bytes prior k ⟨[], [], x, y⟩).x.l = x.l ∧ (Tr.bytes prior k ⟨[], [], x, y⟩).y.l = y.l
  | 0, _, _ => ⟨rfl, rfl⟩
  | k + 1, x, y => by
    have e : Tr.one prior ⟨[], [], x, y⟩ = ⟨[], [], x.kept 1, y.kept 1⟩ := by
      unfold Tr.one
      rw [puts_run rfl rfl]
      rfl
    show (Tr.bytes prior k (Tr.one prior ⟨[], [], x, y⟩)).x.l = _ ∧ (Tr.bytes prior k (Tr.one prior ⟨[], [], x, y⟩)).y.l = _
    rw [e]
    exact bytes_end k _ _
theorem puts_rows (prior : Bool) (s : Tr) : (s.puts prior).p = (rowPut s.p).2 ∧ (s.puts prior).q = (rowPut s.q).2 := by
  unfold Tr.puts
  cases prior <;> exact ⟨rfl, rfl⟩
theorem go_bytes (prior : Bool) : ∀ (f : Nat) (s : Tr) (k : Nat), RN s.p → RN s.q → extN s.p + extN s.q < f → extN s.p < k → extN s.q < k →
    (Tr.go prior f s).x.l = (Tr.bytes prior k s).x.l ∧ (Tr.go prior f s).y.l = (Tr.bytes prior k s).y.l
  | 0, _, _, _, _, h, _, _ => absurd h (by omega)
  | f + 1, s, k, hp, hq, hf, hk, hk' => by
    obtain ⟨p1, p2, p3⟩ := put_clean hp
    obtain ⟨q1, q2, q3⟩ := put_clean hq
    obtain ⟨e1, e2⟩ := puts_rows prior s
    rw [Tr.go]
    cases hs : s.puts prior with
    | mk p q x y =>
      rw [hs] at e1 e2
      simp only at e1 e2
      subst e1 e2
      obtain ⟨r1, r2⟩ := run_stand p1 p2
      obtain ⟨t1, t2⟩ := run_stand q1 q2
      cases ha : rowRun (rowPut s.p).2 with
      | mk a p' =>
        obtain ⟨na, d, sa⟩ := a
        cases hb : rowRun (rowPut s.q).2 with
        | mk b q' =>
          obtain ⟨nb, g, sb⟩ := b
          rw [ha] at r1 r2
          rw [hb] at t1 t2
          simp only at r1 r2 t1 t2 ⊢
          rw [bothR_eq ha hb]
          cases hsab : !sa && !sb with
          | true =>
            have hsa : sa = false := by cases sa <;> simp_all
            have hsb : sb = false := by cases sb <;> simp_all
            subst hsa hsb
            rcases r1 with ⟨_, rfl, rfl, rfl⟩ | ⟨g, _⟩
            · rcases t1 with ⟨_, rfl, rfl, rfl⟩ | ⟨g, _⟩
              · simp only [cond_true, cond_false]
                cases k with
                | zero => omega
                | succ k =>
                  have e : Tr.one prior s = ⟨[], [], x.kept 1, y.kept 1⟩ := by
                    unfold Tr.one
                    rw [hs]
                    simp only [ha, hb]
                    rfl
                  show _ = (Tr.bytes prior k (Tr.one prior s)).x.l ∧ _ = (Tr.bytes prior k (Tr.one prior s)).y.l
                  rw [e]
                  obtain ⟨z1, z2⟩ := bytes_end (prior := prior) k (x.kept 1) (y.kept 1)
                  exact ⟨z1.symm, z2.symm⟩
              · cases g
            · cases g
          | false =>
            have hn : ∃ n : Int, (bif !sa then nb else bif sb then min na nb else na) = n ∧ 0 < n ∧ (sa = true → n ≤ na) ∧ (sb = true → n ≤ nb) := by
              refine ⟨_, rfl, ?_⟩
              have ra : sa = true → 0 < na := fun e => by rcases r1 with ⟨h, _⟩ | ⟨_, h, _⟩; (· rw [e] at h; cases h); exact h
              have rb : sb = true → 0 < nb := fun e => by rcases t1 with ⟨h, _⟩ | ⟨_, h, _⟩; (· rw [e] at h; cases h); exact h
              cases sa <;> cases sb <;> simp_all <;> omega
            obtain ⟨n, hn, h0, h1, h2⟩ := hn
            simp only [cond_false]
            rw [hn]
            simp only [cond_true]
            obtain ⟨m, rfl⟩ : ∃ m : Nat, n = ((m + 1 : Nat) : Int) := ⟨n.toNat - 1, by omega⟩
            obtain ⟨u1, u2, u3, u4⟩ := r1.rn (j := ((m + 1 : Nat) : Int)) (by omega) h1
            obtain ⟨v1, v2, v3, v4⟩ := t1.rn (j := ((m + 1 : Nat) : Int)) (by omega) h2
            have hb := bytes_run hs ha hb r1 t1 m (fun e => by have := h1 e; omega) (fun e => by have := h2 e; omega)
            have hmk : m + 1 < k := by
              cases sa with
              | true => have := u3 rfl; have := h1 rfl; omega
              | false =>
                cases sb with
                | true => have := v3 rfl; have := h2 rfl; omega
                | false => cases hsab
            obtain ⟨k', rfl⟩ : ∃ k', k = (m + 1) + k' := ⟨k - (m + 1), by omega⟩
            rw [bytes_add, hb]
            refine go_bytes prior f _ k' ?_ ?_ ?_ ?_ ?_
            all_goals rw [does_eq]
            · exact u1
            · exact v1
            all_goals simp only
            · rw [u2, v2]
              cases sa with
              | true => have := u3 rfl; have := h1 rfl; simp only [cond_true]; cases sb <;> simp only [cond_true, cond_false] <;> omega
              | false =>
                cases sb with
                | true => have := v3 rfl; have := h2 rfl; simp only [cond_true, cond_false]; omega
                | false => cases hsab
            · rw [u2]
              cases sa with
              | true => simp only [cond_true]; omega
              | false => have := u4 rfl; simp only [cond_false]; omega
            · rw [v2]
              cases sb with
              | true => simp only [cond_true]; omega
              | false => have := v4 rfl; simp only [cond_false]; omega

/-! ### An edit, place by place -/
def putAt : List PieceT → Nat → List UInt8
  | [], _ => []
  | p :: l, i => bif decide (i < p.keep.toNat) then [] else bif decide (i = p.keep.toNat) then p.put else bif decide (i < p.keep.toNat + p.drop.toNat) then [] else putAt l (i - (p.keep.toNat + p.drop.toNat))
def dropAt : List PieceT → Nat → Bool
  | [], _ => false
  | p :: l, i => bif decide (i < p.keep.toNat) then false else bif decide (i < p.keep.toNat + p.drop.toNat) then true else dropAt l (i - (p.keep.toNat + p.drop.toNat))
theorem later_put0 {l : List PieceT} (h : Later l) : putAt l 0 = [] := by
  cases l with
  | nil => rfl
  | cons p l =>
    have := (h p List.mem_cons_self).1
    rw [putAt, decide_eq_true (by omega)]; rfl
def rowNext (r : List PieceT) : List PieceT := rowTake 1 (rowRun (rowPut r).2).2
theorem putAt_keep {p : PieceT} {l : List PieceT} (h : 0 < p.keep) (i : Nat) : putAt ({ p with keep := p.keep - 1 } :: l) i = putAt (p :: l) (i + 1) := by
  rw [putAt, putAt]
  simp only
  have e1 : decide (i < (p.keep - 1).toNat) = decide (i + 1 < p.keep.toNat) := by simp only [decide_eq_decide]; omega
  have e2 : decide (i = (p.keep - 1).toNat) = decide (i + 1 = p.keep.toNat) := by simp only [decide_eq_decide]; omega
  have e3 : decide (i < (p.keep - 1).toNat + p.drop.toNat) = decide (i + 1 < p.keep.toNat + p.drop.toNat) := by simp only [decide_eq_decide]; omega
  have e4 : i - ((p.keep - 1).toNat + p.drop.toNat) = i + 1 - (p.keep.toNat + p.drop.toNat) := by omega
  rw [e1, e2, e3, e4]
theorem dropAt_keep {p : PieceT} {l : List PieceT} (h : 0 < p.keep) (i : Nat) : dropAt ({ p with keep := p.keep - 1 } :: l) i = dropAt (p :: l) (i + 1) := by
  rw [dropAt, dropAt]
  simp only
  have e1 : decide (i < (p.keep - 1).toNat) = decide (i + 1 < p.keep.toNat) := by simp only [decide_eq_decide]; omega
  have e3 : decide (i < (p.keep - 1).toNat + p.drop.toNat) = decide (i + 1 < p.keep.toNat + p.drop.toNat) := by simp only [decide_eq_decide]; omega
  have e4 : i - ((p.keep - 1).toNat + p.drop.toNat) = i + 1 - (p.keep.toNat + p.drop.toNat) := by omega
  rw [e1, e3, e4]
theorem row_place {r : List PieceT} (h : RN r) : (rowPut r).1 = putAt r 0 ∧ (rowRun (rowPut r).2).1.2.1 = dropAt r 0 ∧ RN (rowNext r) ∧ (∀ i, putAt (rowNext r) i = putAt r (i + 1)) ∧ (∀ i, dropAt (rowNext r) i = dropAt r (i + 1)) := by
  cases r with
  | nil => exact ⟨rfl, rfl, trivial, fun _ => rfl, fun _ => rfl⟩
  | cons p l =>
    obtain ⟨h1, h2, h3⟩ := h
    unfold rowNext
    rw [rowPut]
    by_cases hk : 0 < p.keep
    · rw [decide_eq_true hk, Bool.true_or, cond_true]
      simp only
      rw [rowRun, decide_eq_true hk, cond_true, rowTake, decide_eq_true hk, cond_true]
      refine ⟨?_, ?_, ⟨by show 0 ≤ p.keep - 1; omega, h2, h3⟩, putAt_keep hk, dropAt_keep hk⟩
      · rw [putAt, decide_eq_true (by omega)]; rfl
      · rw [dropAt, decide_eq_true (by omega)]; rfl
    · have e : p.keep.toNat = 0 := by omega
      have hc : ∃ p', (bif decide (0 < p.keep) || p.put.isEmpty then (([] : List UInt8), p :: l) else (p.put, { p with put := [] } :: l)) = (p.put, p' :: l) ∧ p'.keep = p.keep ∧ p'.drop = p.drop ∧ p'.put = [] := by
        rw [decide_eq_false hk, Bool.false_or]
        cases hp : p.put.isEmpty with
        | true =>
          have := List.isEmpty_iff.1 hp
          exact ⟨p, by rw [this]; rfl, rfl, rfl, this⟩
        | false => exact ⟨{ p with put := [] }, rfl, rfl, rfl, rfl⟩
      obtain ⟨p', hc, c1, c2, c3⟩ := hc
      rw [hc]
      simp only
      have p0 : p.put = putAt (p :: l) 0 := by rw [putAt, e]; rfl
      rw [rowRun, decide_eq_false (by rw [c1]; exact hk), cond_false, c2]
      by_cases hd : 0 < p.drop
      · rw [decide_eq_true hd, cond_true, rowTake, decide_eq_false (by rw [c1]; exact hk), cond_false]
        refine ⟨p0, ?_, ⟨by show 0 ≤ p'.keep; omega, by show 0 ≤ p'.drop - 1; omega, h3⟩, fun i => ?_, fun i => ?_⟩
        · rw [dropAt, e, decide_eq_false (by omega), decide_eq_true (by omega)]; rfl
        · rw [putAt, putAt]
          simp only [c1, c2, e]
          rw [decide_eq_false (by omega : ¬ i < 0), decide_eq_false (by omega : ¬ i + 1 < 0), cond_false, cond_false, decide_eq_false (by omega : ¬ i + 1 = 0), cond_false]
          have e3 : decide (i < 0 + (p.drop - 1).toNat) = decide (i + 1 < 0 + p.drop.toNat) := by simp only [decide_eq_decide]; omega
          have e4 : i - (0 + (p.drop - 1).toNat) = i + 1 - (0 + p.drop.toNat) := by omega
          rw [e3, e4]
          by_cases hi : i = 0
          · subst hi
            rw [decide_eq_true rfl, cond_true, c3]
            by_cases h5 : p.drop = 1
            · rw [h5]
              exact (later_put0 h3).symm
            · rw [decide_eq_true (by omega), cond_true]
          · rw [decide_eq_false hi, cond_false]
        · rw [dropAt, dropAt]
          simp only [c1, c2, e]
          rw [decide_eq_false (by omega : ¬ i < 0), decide_eq_false (by omega : ¬ i + 1 < 0), cond_false, cond_false]
          have e3 : decide (i < 0 + (p.drop - 1).toNat) = decide (i + 1 < 0 + p.drop.toNat) := by simp only [decide_eq_decide]; omega
          have e4 : i - (0 + (p.drop - 1).toNat) = i + 1 - (0 + p.drop.toNat) := by omega
          rw [e3, e4]
      · rw [decide_eq_false hd, cond_false]
        have f : p.drop.toNat = 0 := by omega
        have up : ∀ i, putAt (p :: l) (i + 1) = putAt l (i + 1) := fun i => by
          rw [putAt, e, f, decide_eq_false (by omega : ¬ i + 1 < 0), decide_eq_false (by omega : ¬ i + 1 = 0)]; rfl
        have ud : ∀ i, dropAt (p :: l) i = dropAt l i := fun i => by
          rw [dropAt, e, f, decide_eq_false (by omega : ¬ i < 0)]; rfl
        cases l with
        | nil => exact ⟨p0, by rw [ud]; rfl, trivial, fun i => by rw [up]; rfl, fun i => by rw [ud]; rfl⟩
        | cons q m =>
          have hq := h3 q List.mem_cons_self
          rw [rowRun, decide_eq_true hq.1, cond_true, rowTake, decide_eq_true hq.1, cond_true]
          refine ⟨p0, ?_, ⟨by show 0 ≤ q.keep - 1; omega, hq.2, fun z hz => h3 z (List.mem_cons_of_mem _ hz)⟩, fun i => ?_, fun i => ?_⟩
          · rw [ud, dropAt, decide_eq_true (by omega)]; rfl
          · rw [up, putAt_keep hq.1]
          · rw [ud, dropAt_keep hq.1]

/-! ### The document's answer -/
abbrev Pl := List UInt8 × Bool
/-- What a maker is told of one place. -/
def placeX (first : Bool) (a b : Pl) (m : Mk) : Mk := dX (bif first then (m.put a.1).kept b.1.length else (m.kept b.1.length).put a.1) 1 a.2 b.2
def placeP (first : Bool) (a b : Pl) : List PieceT :=
  (bif first then [⟨0, 0, a.1⟩, ⟨b.1.length, 0, []⟩] else [⟨b.1.length, 0, []⟩, ⟨0, 0, a.1⟩]) ++ (bif b.2 then [] else bif a.2 then [⟨0, 1, []⟩] else [⟨1, 0, []⟩])
theorem place_fold (first : Bool) (a b : Pl) (m : Mk) : (placeP first a b).foldl Mk.piece m = placeX first a b m := by
  have h1 : ∀ (m : Mk) (s : List UInt8), m.piece ⟨0, 0, s⟩ = m.put s := fun m s => by
    unfold Mk.piece
    rw [kept_zero]
    rfl
  have h2 : ∀ (m : Mk) (n : Int), m.piece ⟨n, 0, []⟩ = m.kept n := fun m n => rfl
  have h3 : ∀ (m : Mk), m.piece ⟨0, 1, []⟩ = m.drop 1 := fun m => by
    unfold Mk.piece
    rw [kept_zero]
    rfl
  unfold placeP placeX
  cases first <;> cases b.2 <;> cases a.2 <;> simp [h1, h2, h3, dX]
def placesP (first : Bool) : List Pl → List Pl → List PieceT
  | a :: va, b :: vb => placeP first a b ++ placesP first va vb
  | _, _ => []
def viewP (l : List PieceT) (n : Nat) : List Pl := (List.range' 0 (n + 1)).map fun i => (putAt l i, dropAt l i)
theorem one_place {prior : Bool} {s : Tr} (hp : RN s.p) (hq : RN s.q) : s.one prior = ⟨rowNext s.p, rowNext s.q, placeX prior (putAt s.p 0, dropAt s.p 0) (putAt s.q 0, dropAt s.q 0) s.x, placeX (!prior) (putAt s.q 0, dropAt s.q 0) (putAt s.p 0, dropAt s.p 0) s.y⟩ := by
  obtain ⟨a1, a2, a3, a4, a5⟩ := row_place hp
  obtain ⟨b1, b2, b3, b4, b5⟩ := row_place hq
  unfold Tr.one Tr.puts
  rw [← a1, ← b1, ← a2, ← b2]
  cases prior <;> simp only [cond_true, cond_false, does_eq] <;> rfl
theorem bytes_places {prior : Bool} : ∀ (k : Nat) (s : Tr) (p q : List PieceT) (j : Nat), RN s.p → RN s.q → (∀ i, putAt s.p i = putAt p (j + i)) → (∀ i, dropAt s.p i = dropAt p (j + i)) → (∀ i, putAt s.q i = putAt q (j + i)) → (∀ i, dropAt s.q i = dropAt q (j + i)) →
    (Tr.bytes prior k s).x = (placesP prior ((List.range' j k).map fun i => (putAt p i, dropAt p i)) ((List.range' j k).map fun i => (putAt q i, dropAt q i))).foldl Mk.piece s.x ∧
    (Tr.bytes prior k s).y = (placesP (!prior) ((List.range' j k).map fun i => (putAt q i, dropAt q i)) ((List.range' j k).map fun i => (putAt p i, dropAt p i))).foldl Mk.piece s.y
  | 0, _, _, _, _, _, _, _, _, _, _ => ⟨rfl, rfl⟩
  | k + 1, s, p, q, j, hp, hq, h1, h2, h3, h4 => by
    obtain ⟨a1, a2, a3, a4, a5⟩ := row_place hp
    obtain ⟨b1, b2, b3, b4, b5⟩ := row_place hq
    have ih := bytes_places (prior := prior) k (s.one prior) p q (j + 1)
    rw [one_place hp hq] at ih
    simp only at ih
    have ih := ih a3 b3 (fun i => by rw [a4, h1]; congr 1; omega) (fun i => by rw [a5, h2]; congr 1; omega) (fun i => by rw [b4, h3]; congr 1; omega) (fun i => by rw [b5, h4]; congr 1; omega)
    rw [List.range'_succ, List.map_cons, List.map_cons, placesP, placesP, List.foldl_append, List.foldl_append, place_fold, place_fold]
    show (Tr.bytes prior k (s.one prior)).x = _ ∧ (Tr.bytes prior k (s.one prior)).y = _
    rw [one_place hp hq]
    have e1 := h1 0
    have e2 := h2 0
    have e3 := h3 0
    have e4 := h4 0
    simp only [Nat.add_zero] at e1 e2 e3 e4
    rw [e1, e2, e3, e4] at ih ⊢
    exact ih
/-- The document's answer: by places. -/
def transR (a b : List PieceT) (prior : Bool) : List PieceT × List PieceT × Int :=
  bif !rightP a || !rightP b then ([], [], 2)
  else match max (extN (normP a)) (extN (normP b)) with
    | n => match normP (placesP prior (viewP (normP a) n) (viewP (normP b) n)), normP (placesP (!prior) (viewP (normP b) n) (viewP (normP a) n)) with
      | x, y => bif !rightP x || !rightP y then ([], [], 3) else (x, y, 0)
theorem transR_eq (a b : List PieceT) (prior : Bool) : transR a b prior = transP a b prior := by
  unfold transR transP
  cases h : !rightP a || !rightP b with
  | true => rfl
  | false =>
    rw [Bool.or_eq_false_iff] at h
    have ra : rightP a = true := by simpa using h.1
    have rb : rightP b = true := by simpa using h.2
    simp only [cond_false]
    have g := go_bytes prior (extN (normP a) + extN (normP b) + 1) ⟨normP a, normP b, Mk.nil, Mk.nil⟩ (max (extN (normP a)) (extN (normP b)) + 1) (norm_rn ra) (norm_rn rb) (by simp only; omega) (by simp only; omega) (by simp only; omega)
    have p := bytes_places (prior := prior) (max (extN (normP a)) (extN (normP b)) + 1) ⟨normP a, normP b, Mk.nil, Mk.nil⟩ (normP a) (normP b) 0 (norm_rn ra) (norm_rn rb) (fun i => by rw [Nat.zero_add]) (fun i => by rw [Nat.zero_add]) (fun i => by rw [Nat.zero_add]) (fun i => by rw [Nat.zero_add])
    cases hg : Tr.go prior (extN (normP a) + extN (normP b) + 1) ⟨normP a, normP b, Mk.nil, Mk.nil⟩ with
    | mk p' q' x y =>
      rw [hg] at g
      simp only at g ⊢
      have e1 : normP (placesP prior (viewP (normP a) (max (extN (normP a)) (extN (normP b)))) (viewP (normP b) (max (extN (normP a)) (extN (normP b))))) = x.l := by
        rw [g.1, p.1]; rfl
      have e2 : normP (placesP (!prior) (viewP (normP b) (max (extN (normP a)) (extN (normP b)))) (viewP (normP a) (max (extN (normP a)) (extN (normP b))))) = y.l := by
        rw [g.2, p.2]; rfl
      rw [e1, e2]
end Bow
/- SP31: the document's normal form and views, step by step, in plain Lean. -/
namespace Bow
open Go

theorem modL_snoc (f : PieceT → PieceT) : ∀ (l : List PieceT) (x : PieceT), modL f (l ++ [x]) = l ++ [f x]
  | [], _ => rfl
  | [_], _ => rfl
  | p :: q :: r, x => by
    have ih := modL_snoc f (q :: r) x
    rw [List.cons_append, List.cons_append, modL, ← List.cons_append, ih]
    rfl
theorem modL_ext {f g : PieceT → PieceT} (h : ∀ p, f p = g p) (l : List PieceT) : modL f l = modL g l := by
  rw [show f = g from funext h]
def addP (p q : PieceT) : PieceT := { q with put := q.put ++ p.put, drop := q.drop + p.drop }
theorem piece_some {m : Mk} {p : PieceT} (hd : 0 ≤ p.drop) (h0 : ¬ (p.put = [] ∧ p.drop = 0)) : m.piece p = ⟨modL (addP p) (m.kept p.keep).last.l, (m.kept p.keep).last.keep⟩ := by
  unfold Mk.piece
  generalize m.kept p.keep = K
  obtain ⟨d1, d2⟩ := K.last_done
  by_cases hp : p.put = []
  · have h1 : 0 < p.drop := by
      rcases Int.lt_or_eq_of_le hd with h | h
      · exact h
      · exact absurd ⟨hp, h.symm⟩ h0
    rw [hp, put_nil]
    unfold Mk.drop
    rw [decide_eq_true h1, cond_true]
    congr 1
    exact modL_ext (fun q => by unfold addP; rw [hp, List.append_nil]) _
  · have e : K.put p.put = ⟨modL (fun q => { q with put := q.put ++ p.put }) K.last.l, K.last.keep⟩ := by
      unfold Mk.put
      cases hq : p.put with
      | nil => exact absurd hq hp
      | cons a s => rfl
    rw [e]
    by_cases h1 : 0 < p.drop
    · unfold Mk.drop
      rw [decide_eq_true h1, cond_true]
      rw [Mk.last_of (m := ⟨modL (fun q => { q with put := q.put ++ p.put }) K.last.l, K.last.keep⟩) d1 (modL_ne d2)]
      simp only [modL_modL]
      rfl
    · have h2 : p.drop = 0 := by omega
      unfold Mk.drop
      rw [decide_eq_false h1, cond_false]
      congr 1
      exact modL_ext (fun q => by unfold addP; rw [h2, Int.add_zero]) _
theorem piece_skip {m : Mk} {p : PieceT} (h1 : p.put = []) (h2 : p.drop = 0) : m.piece p = ⟨m.l, m.keep + p.keep⟩ := by
  unfold Mk.piece
  rw [h1, put_nil]
  unfold Mk.drop
  rw [h2]
  rfl
theorem piece_merge {m : Mk} {p : PieceT} (hd : 0 ≤ p.drop) (h0 : ¬ (p.put = [] ∧ p.drop = 0)) (hk : m.keep + p.keep = 0) (hl : m.l ≠ []) : m.piece p = ⟨modL (addP p) m.l, 0⟩ := by
  rw [piece_some hd h0]
  have e : (m.kept p.keep).last = m.kept p.keep := Mk.last_of (by show ¬ 0 < m.keep + p.keep; omega) hl
  rw [e]
  show (⟨modL (addP p) m.l, m.keep + p.keep⟩ : Mk) = _
  rw [hk]
theorem piece_new {m : Mk} {p : PieceT} (hd : 0 ≤ p.drop) (h0 : ¬ (p.put = [] ∧ p.drop = 0)) (hk : 0 < m.keep + p.keep ∨ m.l = []) : m.piece p = ⟨m.l ++ [⟨m.keep + p.keep, p.drop, p.put⟩], 0⟩ := by
  rw [piece_some hd h0]
  have e : (m.kept p.keep).last = ⟨m.l ++ [⟨m.keep + p.keep, 0, []⟩], 0⟩ := by
    unfold Mk.last Mk.kept
    have : (decide (0 < m.keep + p.keep) || m.l.isEmpty) = true := by
      rcases hk with h | h
      · simp [h]
      · simp [h]
    simp only [this, cond_true]
  rw [e]
  simp only [modL_snoc, addP, List.nil_append, Int.zero_add]

/-! ### Views -/
theorem extN_snoc (l : List PieceT) (p : PieceT) : extN (l ++ [p]) = extN l + p.keep.toNat + p.drop.toNat := by
  induction l with
  | nil => simp [extN]
  | cons q l ih => rw [List.cons_append, extN, extN, ih]; omega
theorem putAt_later : ∀ {l : List PieceT} {p : PieceT}, Later (l ++ [p]) → ∀ j, putAt (l ++ [p]) j = bif decide (j = extN l + p.keep.toNat) then p.put else putAt l j
  | [], p, _, j => by
    rw [List.nil_append, putAt, putAt, extN, Nat.zero_add]
    by_cases h : j = p.keep.toNat
    · rw [decide_eq_true h, decide_eq_false (by omega)]; rfl
    · rw [decide_eq_false h]
      cases decide (j < p.keep.toNat) <;> cases decide (j < p.keep.toNat + p.drop.toNat) <;> rfl
  | q :: l, p, h, j => by
    have hl : Later (l ++ [p]) := fun z hz => h z (List.mem_cons_of_mem _ hz)
    have hp : 0 < p.keep := (hl p (List.mem_append_right _ (List.mem_singleton.2 rfl))).1
    have ih := putAt_later hl (j - (q.keep.toNat + q.drop.toNat))
    rw [List.cons_append, putAt, putAt, extN, ih]
    by_cases h1 : j < q.keep.toNat
    · rw [decide_eq_true h1, decide_eq_false (by omega : ¬ j = q.keep.toNat + q.drop.toNat + extN l + p.keep.toNat)]; rfl
    by_cases h2 : j = q.keep.toNat
    · rw [decide_eq_false h1, decide_eq_true h2, decide_eq_false (by omega : ¬ j = q.keep.toNat + q.drop.toNat + extN l + p.keep.toNat)]; rfl
    by_cases h3 : j < q.keep.toNat + q.drop.toNat
    · rw [decide_eq_false h1, decide_eq_false h2, decide_eq_true h3, decide_eq_false (by omega : ¬ j = q.keep.toNat + q.drop.toNat + extN l + p.keep.toNat)]; rfl
    rw [decide_eq_false h1, decide_eq_false h2, decide_eq_false h3]
    have e : decide (j - (q.keep.toNat + q.drop.toNat) = extN l + p.keep.toNat) = decide (j = q.keep.toNat + q.drop.toNat + extN l + p.keep.toNat) := by
      rw [decide_eq_decide]; omega
    rw [e]
    rfl
theorem putAt_snoc {l : List PieceT} {p : PieceT} (h : RN (l ++ [p])) (j : Nat) : putAt (l ++ [p]) j = bif decide (j = extN l + p.keep.toNat) then p.put else putAt l j := by
  cases l with
  | nil =>
    rw [List.nil_append, putAt, putAt, extN, Nat.zero_add]
    by_cases h : j = p.keep.toNat
    · rw [decide_eq_true h, decide_eq_false (by omega)]; rfl
    · rw [decide_eq_false h]
      cases decide (j < p.keep.toNat) <;> cases decide (j < p.keep.toNat + p.drop.toNat) <;> rfl
  | cons q l =>
    have hl : Later (l ++ [p]) := h.2.2
    have hp : 0 < p.keep := (hl p (List.mem_append_right _ (List.mem_singleton.2 rfl))).1
    have ih := putAt_later hl (j - (q.keep.toNat + q.drop.toNat))
    rw [List.cons_append, putAt, putAt, extN, ih]
    by_cases h1 : j < q.keep.toNat
    · rw [decide_eq_true h1, decide_eq_false (by omega : ¬ j = q.keep.toNat + q.drop.toNat + extN l + p.keep.toNat)]; rfl
    by_cases h2 : j = q.keep.toNat
    · rw [decide_eq_false h1, decide_eq_true h2, decide_eq_false (by omega : ¬ j = q.keep.toNat + q.drop.toNat + extN l + p.keep.toNat)]; rfl
    by_cases h3 : j < q.keep.toNat + q.drop.toNat
    · rw [decide_eq_false h1, decide_eq_false h2, decide_eq_true h3, decide_eq_false (by omega : ¬ j = q.keep.toNat + q.drop.toNat + extN l + p.keep.toNat)]; rfl
    rw [decide_eq_false h1, decide_eq_false h2, decide_eq_false h3]
    have e : decide (j - (q.keep.toNat + q.drop.toNat) = extN l + p.keep.toNat) = decide (j = q.keep.toNat + q.drop.toNat + extN l + p.keep.toNat) := by
      rw [decide_eq_decide]; omega
    rw [e]
    rfl
theorem dropAt_snoc : ∀ (l : List PieceT) (p : PieceT) (j : Nat), dropAt (l ++ [p]) j = (dropAt l j || (decide (extN l + p.keep.toNat ≤ j) && decide (j < extN l + p.keep.toNat + p.drop.toNat)))
  | [], p, j => by
    rw [List.nil_append, dropAt, dropAt, extN, Nat.zero_add]
    by_cases h1 : j < p.keep.toNat
    · rw [decide_eq_true h1, decide_eq_false (by omega : ¬ p.keep.toNat ≤ j)]; rfl
    · rw [decide_eq_false h1, decide_eq_true (by omega : p.keep.toNat ≤ j)]
      cases decide (j < p.keep.toNat + p.drop.toNat) <;> rfl
  | q :: l, p, j => by
    rw [List.cons_append, dropAt, dropAt, extN, dropAt_snoc l p]
    by_cases h1 : j < q.keep.toNat
    · rw [decide_eq_true h1, decide_eq_false (by omega : ¬ q.keep.toNat + q.drop.toNat + extN l + p.keep.toNat ≤ j)]; rfl
    by_cases h2 : j < q.keep.toNat + q.drop.toNat
    · rw [decide_eq_false h1, decide_eq_true h2]; rfl
    rw [decide_eq_false h1, decide_eq_false h2, cond_false, cond_false, cond_false, cond_false]
    have e1 : decide (extN l + p.keep.toNat ≤ j - (q.keep.toNat + q.drop.toNat)) = decide (q.keep.toNat + q.drop.toNat + extN l + p.keep.toNat ≤ j) := by rw [decide_eq_decide]; omega
    have e2 : decide (j - (q.keep.toNat + q.drop.toNat) < extN l + p.keep.toNat + p.drop.toNat) = decide (j < q.keep.toNat + q.drop.toNat + extN l + p.keep.toNat + p.drop.toNat) := by rw [decide_eq_decide]; omega
    rw [e1, e2]
theorem dropAt_ge : ∀ (l : List PieceT) (j : Nat), extN l ≤ j → dropAt l j = false
  | [], _, _ => rfl
  | p :: l, j, h => by
    rw [extN] at h
    rw [dropAt, decide_eq_false (by omega : ¬ j < p.keep.toNat), decide_eq_false (by omega : ¬ j < p.keep.toNat + p.drop.toNat)]
    exact dropAt_ge l _ (by omega)
theorem rn_take {l : List PieceT} (h : RN l) (i : Nat) : RN (l.take i) := by
  cases l with
  | nil => rw [List.take_nil]; trivial
  | cons p l =>
    cases i with
    | zero => trivial
    | succ i => exact ⟨h.1, h.2.1, fun q hq => h.2.2 q (List.mem_of_mem_take hq)⟩
theorem rn_nn {l : List PieceT} (h : RN l) : ∀ p ∈ l, p.Nn := by
  cases l with
  | nil => intro p hp; cases hp
  | cons q l =>
    intro p hp
    rcases List.mem_cons.1 hp with rfl | hp
    · exact ⟨h.1, h.2.1⟩
    · have := h.2.2 p hp; exact ⟨by omega, this.2⟩
theorem extN_take {l : List PieceT} {i : Nat} (hi : i < l.length) : extN (l.take (i + 1)) = extN (l.take i) + l[i].keep.toNat + l[i].drop.toNat := by
  rw [List.take_succ_eq_append_getElem hi, extN_snoc]
theorem extN_take_le (l : List PieceT) (i : Nat) : extN (l.take i) ≤ extN l := by
  induction l generalizing i with
  | nil => rw [List.take_nil]; exact Nat.le_refl _
  | cons p l ih =>
    cases i with
    | zero => exact Nat.zero_le _
    | succ i => have := ih i; rw [List.take_succ_cons, extN, extN]; omega
theorem extN_le : ∀ {l : List PieceT}, (∀ p ∈ l, p.Nn) → (extN l : Int) ≤ sumW l
  | [], _ => by simp [extN, sumW]
  | p :: l, h => by
    have h1 := h p List.mem_cons_self
    have h2 := h1.k
    have h3 := h1.d
    have ih := extN_le fun q hq => h q (List.mem_cons_of_mem _ hq)
    simp only [extN, sumW, PieceT.w]
    omega
theorem set_range {α : Type} (f : Nat → α) (N a : Nat) (v : α) : ((List.range' 0 N).map f).set a v = (List.range' 0 N).map fun j => bif decide (j = a) then v else f j := by
  apply List.ext_getElem
  · simp
  · intro j h1 h2
    simp only [List.length_set, List.length_map, List.length_range'] at h1
    rw [List.getElem_set]
    by_cases h : a = j
    · subst h
      simp
    · rw [if_neg h]
      simp [show ¬ j = a from fun e => h e.symm]

/-! ### Places -/
theorem placesP_snoc (first : Bool) : ∀ {va vb : List Pl} {i : Nat} (h1 : i < va.length) (h2 : i < vb.length), placesP first (va.take (i + 1)) (vb.take (i + 1)) = placesP first (va.take i) (vb.take i) ++ placeP first va[i] vb[i]
  | a :: va, b :: vb, 0, _, _ => by simp [placesP]
  | a :: va, b :: vb, i + 1, h1, h2 => by
    have ih := placesP_snoc first (va := va) (vb := vb) (i := i) (Nat.lt_of_succ_lt_succ h1) (Nat.lt_of_succ_lt_succ h2)
    rw [List.take_succ_cons, List.take_succ_cons, placesP, ih, List.take_succ_cons, List.take_succ_cons, placesP, List.append_assoc]
    rfl
theorem place_nn (first : Bool) (a b : Pl) : (∀ p ∈ placeP first a b, p.Nn) ∧ (placeP first a b).length ≤ 3 ∧ sumW (placeP first a b) ≤ a.1.length + b.1.length + 4 := by
  unfold placeP
  cases first <;> cases b.2 <;> cases a.2 <;> refine ⟨?_, by simp, by simp [sumW, PieceT.w]; omega⟩ <;> intro p hp <;> simp at hp <;> rcases hp with rfl | rfl | rfl <;> exact ⟨by simp, by simp⟩
def sumL : List Pl → Nat
  | [] => 0
  | a :: l => a.1.length + sumL l
theorem places_nn (first : Bool) : ∀ (va vb : List Pl), (∀ p ∈ placesP first va vb, p.Nn) ∧ (placesP first va vb).length ≤ 3 * va.length ∧ sumW (placesP first va vb) ≤ sumL va + sumL vb + 4 * va.length
  | [], vb => by
    refine ⟨(fun p hp => (by cases hp)), Nat.zero_le _, ?_⟩
    show (0 : Int) ≤ _
    omega
  | _ :: _, [] => by
    refine ⟨(fun p hp => (by cases hp)), Nat.zero_le _, ?_⟩
    show (0 : Int) ≤ _
    omega
  | a :: va, b :: vb => by
    obtain ⟨h1, h2, h3⟩ := places_nn first va vb
    obtain ⟨g1, g2, g3⟩ := place_nn first a b
    refine ⟨fun p hp => ?_, ?_, ?_⟩
    · rw [placesP] at hp
      rcases List.mem_append.1 hp with hp | hp
      · exact g1 p hp
      · exact h1 p hp
    · rw [placesP, List.length_append, List.length_cons]; omega
    · rw [placesP, sumW_append, sumL, sumL, List.length_cons]; omega
def sumF (f : Nat → Nat) : List Nat → Nat
  | [] => 0
  | j :: l => f j + sumF f l
theorem sumF_out {f : Nat → Nat} {c v : Nat} : ∀ (N s : Nat), c < s → sumF (fun j => bif decide (j = c) then v else f j) (List.range' s N) = sumF f (List.range' s N)
  | 0, _, _ => rfl
  | N + 1, s, h => by
    rw [List.range'_succ, sumF, sumF, sumF_out N (s + 1) (by omega), decide_eq_false (by omega : ¬ s = c)]
    rfl
theorem sumF_one {f : Nat → Nat} {c v : Nat} : ∀ (N s : Nat), sumF (fun j => bif decide (j = c) then v else f j) (List.range' s N) ≤ v + sumF f (List.range' s N)
  | 0, _ => Nat.zero_le _
  | N + 1, s => by
    rw [List.range'_succ, sumF, sumF]
    by_cases h : s = c
    · rw [decide_eq_true h, sumF_out N (s + 1) (by omega)]
      simp only [cond_true]
      omega
    · have := sumF_one (f := f) (c := c) (v := v) N (s + 1)
      rw [decide_eq_false h]
      simp only [cond_false]
      omega
theorem sum_puts : ∀ (i : Nat) {l : List PieceT}, RN l → i ≤ l.length → ∀ N, (sumF (fun j => (putAt (l.take i) j).length) (List.range' 0 N) : Int) ≤ sumW (l.take i)
  | 0, l, _, _, N => by
    have : ∀ (L : List Nat), sumF (fun j => (putAt (l.take 0) j).length) L = 0 := by
      intro L
      induction L with
      | nil => rfl
      | cons a L ih => rw [sumF, ih]; rfl
    rw [this]
    simp [sumW]
  | i + 1, l, h, hi, N => by
    have ih := sum_puts i h (by omega) N
    have e : l.take (i + 1) = l.take i ++ [l[i]] := List.take_succ_eq_append_getElem (by omega)
    have hr := rn_take h (i + 1)
    have hn := rn_nn h _ (List.getElem_mem (by omega : i < l.length))
    have h1 := hn.k
    have h2 := hn.d
    rw [e] at hr
    have e2 : sumF (fun j => (putAt (l.take (i + 1)) j).length) (List.range' 0 N) = sumF (fun j => bif decide (j = extN (l.take i) + l[i].keep.toNat) then l[i].put.length else (putAt (l.take i) j).length) (List.range' 0 N) := by
      congr 1
      funext j
      rw [e, putAt_snoc hr]
      cases decide (j = extN (l.take i) + l[i].keep.toNat) <;> rfl
    have h3 := sumF_one (f := fun j => (putAt (l.take i) j).length) (c := extN (l.take i) + l[i].keep.toNat) (v := l[i].put.length) N 0
    rw [e2, e, sumW_append]
    simp only [sumW, PieceT.w]
    omega
theorem sumL_view {l : List PieceT} (h : RN l) (n : Nat) : (sumL (viewP l n) : Int) ≤ sumW l := by
  have := sum_puts l.length h (Nat.le_refl _) (n + 1)
  rw [List.take_length] at this
  have e : ∀ L : List Nat, sumL (L.map fun i => (putAt l i, dropAt l i)) = sumF (fun j => (putAt l j).length) L := by
    intro L
    induction L with
    | nil => rfl
    | cons a L ih => rw [List.map_cons, sumL, sumF, ih]
  unfold viewP
  rw [e]
  exact this
theorem viewP_len (l : List PieceT) (n : Nat) : (viewP l n).length = n + 1 := by simp [viewP]
end Bow
/- W70: the document's answer of chapter 5: norm, Extent, view, behind, Transform. -/
namespace Bow
open Go Go.Proofs

set_option maxRecDepth 100000 in
theorem w_refRightW (l : List PieceT) (hl : l.length ≤ 1000000000000) (hpl : ∀ p ∈ l, p.put.length ≤ 1000000000000) : Pure Tryz.prog 116 [piecesV l] (fun x => x = .bool (rightP l)) := by
  refine pure_wk (pure_fn 100 Tryz.func116 rfl rfl rfl fun B => ?_)
  refine ⟨fun g0 => go 200 ?_, fun g0 => go 200 ?_⟩
  · have g0 : 4096 < l.length := by have := lt_of g0; simp at this; omega
    exact ⟨trivial, rfl, rfl, rfl, leaf_ff (by unfold rightP; rw [decide_eq_false (by omega)]; rfl)⟩
  have g0 : l.length ≤ 4096 := by have := not_lt_of g0; simp at this; omega
  show Goes _ _ _ _
  refine goes_iter (ι := Nat × Nat) (fun i => i.1 ≤ l.length ∧ i.2 ≤ 1048576 ∧ rightP l = rightGo i.2 (l.drop i.1)) (fun i => l.length - i.1) (fun i => [(4, .int .i64 i.1), (0, piecesV l), (3, .int .i64 i.2)]) (fun _ => []) (0, 0) 200 (fun _ => rfl) (fun _ => rfl) ⟨⟨Nat.zero_le _, Nat.zero_le _, ?_⟩, ?_, ?_⟩ ?_
  · unfold rightP
    rw [decide_eq_true g0]
    rfl
  · exact ⟨⟨rfl, rfl⟩, ⟨rfl, rfl⟩, ⟨rfl, rfl⟩, trivial⟩
  · trivial
  · rintro ⟨i, n⟩ ⟨h1, h3, h2⟩ next
    simp only at h1 h2 h3
    refine ⟨fun hlt => go 200 ?_, fun hge => go 200 ?_⟩
    · have hi : i < l.length := by simpa using hlt
      have hx : (l.map pieceV)[i]? = some (pieceV l[i]) := by simp [hi]
      have hput := hpl l[i] (List.getElem_mem hi)
      rw [drop_cons hi] at h2
      refine ⟨Int.natCast_nonneg i, _, hx, ?_⟩
      refine ⟨fun g1 => go 200 ?_, fun g1 => go 200 ?_⟩
      · have g1 := lt_of g1
        exact ⟨trivial, rfl, rfl, rfl, leaf_ff (by rw [h2]; exact rightGo_bad (by omega))⟩
      have g1 := not_lt_of g1
      refine ⟨Int.natCast_nonneg i, _, hx, ?_⟩
      refine ⟨fun g2 => go 200 ?_, fun g2 => go 200 ?_⟩
      · have g2 := lt_of g2
        exact ⟨trivial, rfl, rfl, rfl, leaf_ff (by rw [h2]; exact rightGo_bad (by omega))⟩
      have g2 := not_lt_of g2
      refine ⟨Int.natCast_nonneg i, _, hx, ?_⟩
      refine ⟨fun g3 => go 200 ?_, fun g3 => go 200 ?_⟩
      · have g3 := lt_of g3
        exact ⟨trivial, rfl, rfl, rfl, leaf_ff (by rw [h2]; exact rightGo_bad (by omega))⟩
      have g3 := not_lt_of g3
      refine ⟨Int.natCast_nonneg i, _, hx, ?_⟩
      refine ⟨fun g4 => go 200 ?_, fun g4 => go 200 ?_⟩
      · have g4 := lt_of g4
        exact ⟨trivial, rfl, rfl, rfl, leaf_ff (by rw [h2]; exact rightGo_bad (by omega))⟩
      have g4 := not_lt_of g4
      refine ⟨Int.natCast_nonneg i, _, hx, ?_⟩
      refine ⟨by constructor <;> omega, ?_⟩
      refine ⟨fun g5 => go 200 ?_, fun g5 => go 200 ?_⟩
      · have g5 := lt_of g5
        exact ⟨trivial, rfl, rfl, rfl, leaf_ff (by rw [h2]; exact rightGo_bad (by omega))⟩
      have g5 := not_lt_of g5
      refine ⟨Int.natCast_nonneg i, _, hx, ?_⟩
      refine ⟨by constructor <;> omega, ?_⟩
      refine ⟨by constructor <;> omega, ?_⟩
      show Goes _ _ _ _
      refine next (i + 1, n + (l[i]).put.length) _ _ ⟨⟨hi, by simp only; omega, ?_⟩, ?_, ⟨⟨rfl, rfl⟩, ⟨rfl, rfl⟩, ⟨rfl, rfl⟩, trivial⟩, trivial⟩
      · rw [h2]
        exact rightGo_good (by omega) (by omega) (by omega) (by omega) (by omega)
      · simp only; omega
    · have hi : l.length ≤ i := by simpa using hge
      rw [List.drop_eq_nil_of_le hi] at h2
      exact ⟨trivial, rfl, rfl, rfl, leaf_tt h2⟩
/-! ### norm -/
def mkN (l : List PieceT) (i : Nat) : Mk := (l.take i).foldl Mk.piece Mk.nil
theorem mkN_succ {l : List PieceT} {i : Nat} (hi : i < l.length) : mkN l (i + 1) = (mkN l i).piece l[i] := by
  unfold mkN
  rw [List.take_succ_eq_append_getElem hi, List.foldl_append]
  rfl
theorem sumW_take' (l : List PieceT) (i : Nat) (h : ∀ p ∈ l, p.Nn) : sumW (l.take i) ≤ sumW l := by
  have e := sumW_append (l.take i) (l.drop i)
  rw [List.take_append_drop] at e
  have := sumW_len (l := l.drop i) fun p hp => h p (List.mem_of_mem_drop hp)
  omega
theorem piece_at {l : List PieceT} {i : Nat} (h : i < l.length) : (l.map pieceV)[i]? = some (pieceV l[i]) := by simp [h]
theorem lastP_at {l : List PieceT} (h : 0 < l.length) : (l.map pieceV)[0 + ((l.length : Int) - 1).toNat]? = some (pieceV (l[l.length - 1]'(by omega))) := by
  have : 0 + ((l.length : Int) - 1).toNat = l.length - 1 := by omega
  rw [this]
  simp [show l.length - 1 < l.length by omega]
theorem set_lastP {f : PieceT → PieceT} {l : List PieceT} (h : 0 < l.length) : (l.map pieceV).set (0 + ((l.length : Int) - 1).toNat) (pieceV (f (l[l.length - 1]'(by omega)))) = (modL f l).map pieceV := by
  have : 0 + ((l.length : Int) - 1).toNat = l.length - 1 := by omega
  rw [this, modL_set f l (by omega), List.map_set]
set_option pp.maxSteps 300 in
set_option maxHeartbeats 2000000 in
set_option maxRecDepth 100000 in
theorem w_ref5norm (l : List PieceT) (h : ∀ p ∈ l, p.Nn) (hw : sumW l ≤ 400000000000) : Pure Tryz.prog 168 [piecesV l] (fun x => x = piecesV (normP l)) := by
  have hlen := sumW_len h
  refine pure_wk (pure_fn 100 Tryz.func168 rfl rfl rfl fun B => ?_)
  show Goes _ _ _ _
  refine goes_own 3 3 rfl ?_
  refine goes_iter (ι := Nat × Nat) (fun i => i.1 ≤ l.length) (fun i => l.length - i.1) (fun i => [(5, .int .i64 i.1), (4, .int .i64 (mkN l i.1).keep), (3, .osl (.loc 0) i.2 0 (mkN l i.1).l.length), (0, piecesV l)]) (fun i => [some (.vec i.2 3 ((mkN l i.1).l.map pieceV))]) (0, 0) 100 (fun _ => rfl) (fun _ => rfl) ⟨Nat.zero_le _, ⟨⟨rfl, rfl⟩, ⟨rfl, rfl⟩, ⟨rfl, rfl⟩, ⟨rfl, rfl⟩, trivial⟩, ⟨⟨rfl, rfl⟩, trivial⟩⟩ ?_
  rintro ⟨i, g⟩ k1 next
  simp only at k1
  refine ⟨fun hlt => go 100 ?_, fun hge => go 100 ?_⟩
  · have hi : i < l.length := by have := lt_of hlt; simp at this; omega
    have hm : l[i] ∈ l := List.getElem_mem hi
    have hn := h _ hm
    obtain ⟨q1, q2⟩ := foldl_ok (l := l.take i) Mk.nil_ok fun p hp => h p (List.mem_of_mem_take hp)
    have q1 : (mkN l i).Ok := q1
    have q2 : (mkN l i).w ≤ Mk.nil.w + 2 * sumW (l.take i) := q2
    have s1 : (mkN l (i, g).fst).keep = (mkN l i).keep := rfl
    have s2 : (((mkN l (i, g).fst).l.length : Nat) : Int) = ((mkN l i).l.length : Nat) := rfl
    have q3 := sumW_take' l i h
    have q4 := sumW_mem h _ hm
    have e1 := mkN_succ hi
    have d1 := q1.k
    have d2 := sumW_len q1.l
    have d3 := hn.k
    have d4 := hn.d
    have d5 : Mk.nil.w = 0 := rfl
    have d6 : (mkN l i).w = (mkN l i).keep + sumW (mkN l i).l := rfl
    have d7 : l[i].w = l[i].keep + l[i].drop + l[i].put.length + 1 := rfl
    have hx := piece_at hi
    have hroom : room (((mkN l i).l.map pieceV).length + 1) 32 := by
      unfold room
      simp only [List.length_map]
      omega
    refine ⟨Int.natCast_nonneg i, _, hx, ?_⟩
    refine ⟨by constructor <;> omega, ?_⟩
    refine ⟨Int.natCast_nonneg i, _, hx, ?_⟩
    refine ⟨fun g1 => go 60 ?_, fun g1 => go 60 ?_⟩
    · have p0 : l[i].put = [] := of_decide_eq_true g1
      refine ⟨Int.natCast_nonneg i, _, hx, ?_⟩
      refine ⟨fun g2 => go 60 ?_, fun g2 => go 60 ?_⟩
      · have p1 : l[i].drop = 0 := eq_of g2
        have e2 : mkN l (i + 1) = ⟨(mkN l i).l, (mkN l i).keep + l[i].keep⟩ := by rw [e1]; exact piece_skip p0 p1
        refine ⟨by constructor <;> omega, ?_⟩
        show Goes _ _ _ _
        refine next (i + 1, g) _ _ ⟨hi, by simp only; omega, ?_, ?_⟩
        · rw [e2]
          exact ⟨⟨rfl, rfl⟩, ⟨rfl, rfl⟩, ⟨rfl, rfl⟩, ⟨rfl, rfl⟩, trivial⟩
        · rw [e2]
          exact ⟨⟨rfl, rfl⟩, trivial⟩
      · have p1 : l[i].drop ≠ 0 := ne_of g2
        have h0 : ¬ (l[i].put = [] ∧ l[i].drop = 0) := fun e => p1 e.2
        refine ⟨fun g3 => go 60 ?_, fun g3 => go 60 ?_⟩
        · have g3 := eq_of g3
          refine ⟨rfl, ?_⟩
          refine ⟨fun g4 => go 60 ?_, fun g4 => go 60 ?_⟩
          · have g4 := lt_of g4
            have hne : (mkN l i).l ≠ [] := fun e => by rw [e] at g4; simp at g4
            have e2 : mkN l (i + 1) = ⟨modL (addP l[i]) (mkN l i).l, 0⟩ := by rw [e1]; exact piece_merge d4 h0 g3 hne
            have hpos : 0 < (mkN l i).l.length := List.length_pos_iff.2 hne
            have hL := lastP_at hpos
            have hLm := sumW_mem q1.l _ (List.getElem_mem (by omega : (mkN l i).l.length - 1 < (mkN l i).l.length))
            have hLn := q1.l _ (List.getElem_mem (by omega : (mkN l i).l.length - 1 < (mkN l i).l.length))
            have hLk := hLn.k
            have hLd := hLn.d
            unfold PieceT.w at hLm
            refine ⟨rfl, ⟨by omega, by omega⟩, rfl, by omega, by omega, rfl, _, hL, ?_⟩
            show Goes _ _ _ _
            refine goes_draw 60 ⟨Int.natCast_nonneg i, _, hx, by rw [List.length_append]; omega, ?_⟩
            refine ⟨by kernel_rfl, ?_⟩
            show Goes _ _ _ _
            refine goes_draw 60 ⟨Int.natCast_nonneg i, _, hx, ⟨by omega, by omega⟩, ?_⟩
            refine ⟨by kernel_rfl, ?_⟩
            refine ⟨rfl, ⟨by omega, by omega⟩, rfl, by omega, by omega, rfl, _, hL, ?_⟩
            refine ⟨⟨by omega, by omega⟩, ?_⟩
            show Goes _ _ _ _
            have e3 := set_lastP (f := addP l[i]) hpos
            refine next (i + 1, g) _ _ ⟨hi, by simp only; omega, ⟨⟨rfl, rfl⟩, ⟨?_, rfl⟩, ⟨?_, rfl⟩, ⟨rfl, rfl⟩, trivial⟩, ⟨⟨?_, rfl⟩, trivial⟩⟩
            · show V.int .i64 ((mkN l i).keep + l[i].keep) = V.int .i64 (mkN l (i + 1)).keep
              rw [e2, g3]
            · show V.osl (.loc 0) g 0 (mkN l i).l.length = V.osl (.loc 0) g 0 (mkN l (i + 1)).l.length
              rw [e2]
              simp only [modL_len]
            · rw [e2]
              exact congrArg (fun z => some (HObj.vec g 3 z)) e3
          · have g4 := not_lt_of g4
            have hnil : (mkN l i).l = [] := List.length_eq_zero_iff.1 (by omega)
            have e2 : mkN l (i + 1) = ⟨(mkN l i).l ++ [⟨(mkN l i).keep + l[i].keep, l[i].drop, l[i].put⟩], 0⟩ := by rw [e1]; exact piece_new d4 h0 (.inr hnil)
            show Goes _ _ _ _
            refine goes_draw 60 ⟨Int.natCast_nonneg i, _, hx, Int.natCast_nonneg i, _, hx, rfl, ⟨rfl, trivial⟩, rfl, rfl, rfl, rfl, by simp, hroom, ?_⟩
            refine ⟨by kernel_rfl, ?_⟩
            refine ⟨⟨by omega, by omega⟩, ?_⟩
            show Goes _ _ _ _
            refine next (i + 1, bump g) _ _ ⟨hi, by simp only; omega, ⟨⟨rfl, rfl⟩, ⟨?_, rfl⟩, ⟨?_, rfl⟩, ⟨rfl, rfl⟩, trivial⟩, ⟨⟨?_, rfl⟩, trivial⟩⟩
            · rw [e2]
              rfl
            · rw [e2]
              exact congrArg (V.osl (.loc 0) (bump g) 0) (by simp)
            · rw [e2]
              exact congrArg (fun z => some (HObj.vec (bump g) 3 z)) (by rw [List.map_append]; rfl)
        · have g3 := ne_of g3
          have e2 : mkN l (i + 1) = ⟨(mkN l i).l ++ [⟨(mkN l i).keep + l[i].keep, l[i].drop, l[i].put⟩], 0⟩ := by rw [e1]; exact piece_new d4 h0 (.inl (by omega))
          show Goes _ _ _ _
          refine goes_draw 60 ⟨Int.natCast_nonneg i, _, hx, Int.natCast_nonneg i, _, hx, rfl, ⟨rfl, trivial⟩, rfl, rfl, rfl, rfl, by simp, hroom, ?_⟩
          refine ⟨by kernel_rfl, ?_⟩
          refine ⟨⟨by omega, by omega⟩, ?_⟩
          show Goes _ _ _ _
          refine next (i + 1, bump g) _ _ ⟨hi, by simp only; omega, ⟨⟨rfl, rfl⟩, ⟨?_, rfl⟩, ⟨?_, rfl⟩, ⟨rfl, rfl⟩, trivial⟩, ⟨⟨?_, rfl⟩, trivial⟩⟩
          · rw [e2]
            rfl
          · rw [e2]
            exact congrArg (V.osl (.loc 0) (bump g) 0) (by simp)
          · rw [e2]
            exact congrArg (fun z => some (HObj.vec (bump g) 3 z)) (by rw [List.map_append]; rfl)
    · have p0 : l[i].put ≠ [] := of_decide_eq_false g1
      have h0 : ¬ (l[i].put = [] ∧ l[i].drop = 0) := fun e => p0 e.1
      refine ⟨fun g3 => go 60 ?_, fun g3 => go 60 ?_⟩
      · have g3 := eq_of g3
        refine ⟨rfl, ?_⟩
        refine ⟨fun g4 => go 60 ?_, fun g4 => go 60 ?_⟩
        · have g4 := lt_of g4
          have hne : (mkN l i).l ≠ [] := fun e => by rw [e] at g4; simp at g4
          have e2 : mkN l (i + 1) = ⟨modL (addP l[i]) (mkN l i).l, 0⟩ := by rw [e1]; exact piece_merge d4 h0 g3 hne
          have hpos : 0 < (mkN l i).l.length := List.length_pos_iff.2 hne
          have hL := lastP_at hpos
          have hLm := sumW_mem q1.l _ (List.getElem_mem (by omega : (mkN l i).l.length - 1 < (mkN l i).l.length))
          have hLn := q1.l _ (List.getElem_mem (by omega : (mkN l i).l.length - 1 < (mkN l i).l.length))
          have hLk := hLn.k
          have hLd := hLn.d
          unfold PieceT.w at hLm
          refine ⟨rfl, ⟨by omega, by omega⟩, rfl, by omega, by omega, rfl, _, hL, ?_⟩
          show Goes _ _ _ _
          refine goes_draw 60 ⟨Int.natCast_nonneg i, _, hx, by rw [List.length_append]; omega, ?_⟩
          refine ⟨by kernel_rfl, ?_⟩
          show Goes _ _ _ _
          refine goes_draw 60 ⟨Int.natCast_nonneg i, _, hx, ⟨by omega, by omega⟩, ?_⟩
          refine ⟨by kernel_rfl, ?_⟩
          refine ⟨rfl, ⟨by omega, by omega⟩, rfl, by omega, by omega, rfl, _, hL, ?_⟩
          refine ⟨⟨by omega, by omega⟩, ?_⟩
          show Goes _ _ _ _
          have e3 := set_lastP (f := addP l[i]) hpos
          refine next (i + 1, g) _ _ ⟨hi, by simp only; omega, ⟨⟨rfl, rfl⟩, ⟨?_, rfl⟩, ⟨?_, rfl⟩, ⟨rfl, rfl⟩, trivial⟩, ⟨⟨?_, rfl⟩, trivial⟩⟩
          · show V.int .i64 ((mkN l i).keep + l[i].keep) = V.int .i64 (mkN l (i + 1)).keep
            rw [e2, g3]
          · show V.osl (.loc 0) g 0 (mkN l i).l.length = V.osl (.loc 0) g 0 (mkN l (i + 1)).l.length
            rw [e2]
            simp only [modL_len]
          · rw [e2]
            exact congrArg (fun z => some (HObj.vec g 3 z)) e3
        · have g4 := not_lt_of g4
          have hnil : (mkN l i).l = [] := List.length_eq_zero_iff.1 (by omega)
          have e2 : mkN l (i + 1) = ⟨(mkN l i).l ++ [⟨(mkN l i).keep + l[i].keep, l[i].drop, l[i].put⟩], 0⟩ := by rw [e1]; exact piece_new d4 h0 (.inr hnil)
          show Goes _ _ _ _
          refine goes_draw 60 ⟨Int.natCast_nonneg i, _, hx, Int.natCast_nonneg i, _, hx, rfl, ⟨rfl, trivial⟩, rfl, rfl, rfl, rfl, by simp, hroom, ?_⟩
          refine ⟨by kernel_rfl, ?_⟩
          refine ⟨⟨by omega, by omega⟩, ?_⟩
          show Goes _ _ _ _
          refine next (i + 1, bump g) _ _ ⟨hi, by simp only; omega, ⟨⟨rfl, rfl⟩, ⟨?_, rfl⟩, ⟨?_, rfl⟩, ⟨rfl, rfl⟩, trivial⟩, ⟨⟨?_, rfl⟩, trivial⟩⟩
          · rw [e2]
            rfl
          · rw [e2]
            exact congrArg (V.osl (.loc 0) (bump g) 0) (by simp)
          · rw [e2]
            exact congrArg (fun z => some (HObj.vec (bump g) 3 z)) (by rw [List.map_append]; rfl)
      · have g3 := ne_of g3
        have e2 : mkN l (i + 1) = ⟨(mkN l i).l ++ [⟨(mkN l i).keep + l[i].keep, l[i].drop, l[i].put⟩], 0⟩ := by rw [e1]; exact piece_new d4 h0 (.inl (by omega))
        show Goes _ _ _ _
        refine goes_draw 60 ⟨Int.natCast_nonneg i, _, hx, Int.natCast_nonneg i, _, hx, rfl, ⟨rfl, trivial⟩, rfl, rfl, rfl, rfl, by simp, hroom, ?_⟩
        refine ⟨by kernel_rfl, ?_⟩
        refine ⟨⟨by omega, by omega⟩, ?_⟩
        show Goes _ _ _ _
        refine next (i + 1, bump g) _ _ ⟨hi, by simp only; omega, ⟨⟨rfl, rfl⟩, ⟨?_, rfl⟩, ⟨?_, rfl⟩, ⟨rfl, rfl⟩, trivial⟩, ⟨⟨?_, rfl⟩, trivial⟩⟩
        · rw [e2]
          rfl
        · rw [e2]
          exact congrArg (V.osl (.loc 0) (bump g) 0) (by simp)
        · rw [e2]
          exact congrArg (fun z => some (HObj.vec (bump g) 3 z)) (by rw [List.map_append]; rfl)
  · have hi : i = l.length := by have := not_lt_of hge; simp at this; omega
    subst hi
    have e : (mkN l l.length).l = normP l := by unfold mkN normP; rw [List.take_length]
    refine ⟨trivial, rfl, rfl, rfl, by simp, rfl, piecesV (normP l), ?_, rfl, rfl⟩
    rw [← e]
    exact Wk.refl _

/-! ### Extent -/
theorem extN_drop {l : List PieceT} {i : Nat} (hi : i < l.length) : extN (l.drop i) = l[i].keep.toNat + l[i].drop.toNat + extN (l.drop (i + 1)) := by
  rw [List.drop_eq_getElem_cons hi, extN]
set_option maxRecDepth 100000 in
theorem w_ref5Extent (l : List PieceT) (h : ∀ p ∈ l, p.Nn) (hw : sumW l ≤ 1000000000000) : Pure Tryz.prog 136 [piecesV l] (fun x => x = .int .i64 (extN l)) := by
  have hlen := sumW_len h
  have hext := extN_le h
  refine pure_fn 100 Tryz.func136 rfl rfl rfl fun B => ?_
  show Goes _ _ _ _
  refine goes_iter (ι := Nat × Nat) (fun i => i.1 ≤ l.length ∧ i.2 + extN (l.drop i.1) = extN l) (fun i => l.length - i.1) (fun i => [(4, .int .i64 i.1), (0, piecesV l), (3, .int .i64 i.2)]) (fun _ => []) (0, 0) 100 (fun _ => rfl) (fun _ => rfl) ⟨⟨Nat.zero_le _, by simp⟩, ⟨⟨rfl, rfl⟩, ⟨rfl, rfl⟩, ⟨rfl, rfl⟩, trivial⟩, trivial⟩ ?_
  rintro ⟨i, n⟩ ⟨k1, k3⟩ next
  simp only at k1 k3
  refine ⟨fun hlt => go 100 ?_, fun hge => go 100 ?_⟩
  · have hi : i < l.length := by simpa using hlt
    have hx := piece_at hi
    have hp := h l[i] (List.getElem_mem hi)
    have := hp.k
    have := hp.d
    rw [extN_drop hi] at k3
    show Goes _ _ _ _
    refine goes_draw 100 ⟨Int.natCast_nonneg i, _, hx, ⟨by omega, by omega⟩, Int.natCast_nonneg i, _, hx, ⟨by omega, by omega⟩, ?_⟩
    refine ⟨by kernel_rfl, ?_⟩
    refine ⟨⟨by omega, by omega⟩, ?_⟩
    show Goes _ _ _ _
    refine next (i + 1, n + l[i].keep.toNat + l[i].drop.toNat) _ _ ⟨⟨hi, by simp only; omega⟩, by simp only; omega, ⟨⟨rfl, rfl⟩, ⟨rfl, rfl⟩, ⟨?_, rfl⟩, trivial⟩, trivial⟩
    show V.int .i64 _ = V.int .i64 _
    congr 1
    omega
  · have hi : l.length ≤ i := by simpa using hge
    rw [List.drop_eq_nil_of_le hi] at k3
    refine ⟨trivial, rfl, rfl, rfl, ?_⟩
    show V.int .i64 _ = V.int .i64 _
    rw [← k3]
    rfl

/-! ### view -/
def bitV (b : Bool) : V := bif b then .tt else .ff
def viewV (l : List PieceT) (n : Nat) : V := .agg [.sl 1 ((List.range' 0 (n + 1)).map fun j => .str (putAt l j)), .sl 1 ((List.range' 0 (n + 1)).map fun j => .bool (dropAt l j))]
theorem wk_bits (f : Nat → Bool) : ∀ L : List Nat, WkE 1 (L.map fun j => bitV (f j)) (L.map fun j => .bool (f j))
  | [] => trivial
  | a :: L => by
    refine ⟨?_, wk_bits f L⟩
    show WkL (bitV (f a)).cells (V.bool (f a)).cells ∧ okE 1 (V.bool (f a))
    cases f a with
    | true => exact ⟨⟨Wk.tt, trivial⟩, rfl, rfl⟩
    | false => exact ⟨⟨Wk.ff, trivial⟩, rfl, rfl⟩
theorem rep_range {α : Type} (x : α) (N : Nat) : List.replicate N x = (List.range' 0 N).map fun _ => x := by
  apply List.ext_getElem
  · simp
  · intro j h1 h2
    simp
theorem range_at {α : Type} (f : Nat → α) {N j : Nat} (h : j < N) : ((List.range' 0 N).map f)[j]? = some (f j) := by simp [h]
set_option pp.maxSteps 300 in
set_option maxHeartbeats 2000000 in
set_option maxRecDepth 100000 in
theorem w_view (l : List PieceT) (n : Nat) (h : RN l) (hw : sumW l ≤ 400000000000) (hn : extN l ≤ n) (hb : n ≤ 1000000000000) : Pure Tryz.prog 242 [piecesV l, .int .i64 n] (fun x => x = viewV l n) := by
  have hnn := rn_nn h
  have hlen := sumW_len hnn
  have hN : ((n : Int) + 1).toNat = n + 1 := by omega
  have hb1 : ((n : Int) + 1).toNat ≤ 1000000000001 := by omega
  refine pure_wk (pure_fn 100 Tryz.func242 rfl rfl rfl fun B => ?_)
  show Goes _ _ _ _
  refine goes_draw 60 ⟨⟨by omega, by omega⟩, ⟨by omega, rfl, Nat.le_trans (Nat.mul_le_mul_left _ hb1) (by decide)⟩, rfl, ⟨by omega, by omega⟩, ⟨by omega, rfl, Nat.le_trans (Nat.mul_le_mul_left _ hb1) (by decide)⟩, rfl, rfl, ?_⟩
  refine ⟨by kernel_rfl, ?_⟩
  show Goes _ _ _ _
  refine goes_iter (ι := Nat) (fun i => i ≤ l.length) (fun i => l.length - i) (fun i => [(7, .int .i64 i), (6, .int .i64 (extN (l.take i))), (5, .ptr (.loc 3) 0), (4, .ptr (.loc 0) 0), (0, piecesV l)])
    (fun i => [some (.box [.nilsl, .nilsl]), some (.vec 2 1 ((List.range' 0 (n + 1)).map fun j => .str (putAt (l.take i) j))), some (.vec 2 1 ((List.range' 0 (n + 1)).map fun j => bitV (dropAt (l.take i) j))), some (.box [.osl (.loc 1) 2 0 (n + 1), .osl (.loc 2) 2 0 (n + 1)])]) 0 60 (fun _ => rfl) (fun _ => rfl)
    ⟨Nat.zero_le _, ⟨⟨rfl, rfl⟩, ⟨rfl, rfl⟩, ⟨rfl, rfl⟩, ⟨rfl, rfl⟩, ⟨rfl, rfl⟩, trivial⟩, ⟨⟨rfl, rfl⟩, ⟨?_, rfl⟩, ⟨?_, rfl⟩, ⟨?_, rfl⟩, trivial⟩⟩ ?_
  · rw [hN]
    exact congrArg (fun z => some (HObj.vec 2 1 z)) (rep_range _ _)
  · rw [hN]
    exact congrArg (fun z => some (HObj.vec 2 1 z)) (rep_range _ _)
  · rw [hN]
    rfl
  rintro i k1 next
  refine ⟨fun hlt => go 60 ?_, fun hge => go 60 ?_⟩
  · have hi : i < l.length := by have := lt_of hlt; simp at this; omega
    have hx := piece_at hi
    have hm := hnn _ (List.getElem_mem hi)
    have d1 := hm.k
    have d2 := hm.d
    have hext := extN_take hi
    have hle := extN_take_le l (i + 1)
    have e1 : l.take (i + 1) = l.take i ++ [l[i]] := List.take_succ_eq_append_getElem hi
    have hr := rn_take h (i + 1)
    rw [e1] at hr
    obtain ⟨c, hc⟩ : ∃ c : Nat, ((extN (l.take i) : Nat) : Int) + l[i].keep = (c : Int) := ⟨extN (l.take i) + l[i].keep.toNat, by omega⟩
    have hc' : c = extN (l.take i) + l[i].keep.toNat := by omega
    have hcn : c + l[i].drop.toNat ≤ n := by omega
    have hct : 0 + (((extN (l.take i) : Nat) : Int) + l[i].keep).toNat = c := by omega
    have hpx : ((List.range' 0 (n + 1)).map fun j => V.str (putAt (l.take i) j))[0 + (((extN (l.take i) : Nat) : Int) + l[i].keep).toNat]? = some (.str (putAt (l.take i) c)) := by
      rw [hct]
      exact range_at _ (by omega)
    refine ⟨Int.natCast_nonneg i, _, hx, ⟨by omega, by omega⟩, ?_⟩
    show Goes _ _ _ _
    refine goes_draw 60 ⟨Int.natCast_nonneg i, _, hx, rfl, by omega, by omega, rfl, _, hpx, ?_⟩
    refine ⟨by kernel_rfl, ?_⟩
    show Goes _ _ _ _
    have eputs : ((List.range' 0 (n + 1)).map fun j => V.str (putAt (l.take i) j)).set (0 + (((extN (l.take i) : Nat) : Int) + l[i].keep).toNat) (.str l[i].put) = (List.range' 0 (n + 1)).map fun j => V.str (putAt (l.take (i + 1)) j) := by
      rw [hct, set_range]
      refine List.map_congr_left fun j _ => ?_
      rw [e1, putAt_snoc hr, ← hc']
      cases decide (j = c) <;> rfl
    refine goes_iter (ι := Nat) (fun k => k ≤ l[i].drop.toNat) (fun k => l[i].drop.toNat - k) (fun k => [(8, .int .i64 k), (7, .int .i64 i), (6, .int .i64 c), (5, .ptr (.loc 3) 0), (4, .ptr (.loc 0) 0), (0, piecesV l)])
      (fun k => [some (.box [.nilsl, .nilsl]), some (.vec 2 1 ((List.range' 0 (n + 1)).map fun j => .str (putAt (l.take (i + 1)) j))), some (.vec 2 1 ((List.range' 0 (n + 1)).map fun j => bitV (dropAt (l.take i) j || (decide (c ≤ j) && decide (j < c + k))))), some (.box [.osl (.loc 1) 2 0 (n + 1), .osl (.loc 2) 2 0 (n + 1)])]) 0 60 (fun _ => rfl) (fun _ => rfl)
      ⟨Nat.zero_le _, ⟨⟨rfl, rfl⟩, ⟨rfl, rfl⟩, ⟨?_, rfl⟩, ⟨rfl, rfl⟩, ⟨rfl, rfl⟩, ⟨rfl, rfl⟩, trivial⟩, ⟨⟨rfl, rfl⟩, ⟨?_, rfl⟩, ⟨?_, rfl⟩, ⟨rfl, rfl⟩, trivial⟩⟩ ?_
    · exact congrArg (V.int .i64) hc
    · exact congrArg (fun z => some (HObj.vec 2 1 z)) eputs
    · refine congrArg (fun z => some (HObj.vec 2 1 z)) (List.map_congr_left fun j _ => ?_)
      congr 1
      by_cases h1 : c ≤ j
      · rw [decide_eq_true h1, decide_eq_false (by omega : ¬ j < c + 0)]; simp
      · rw [decide_eq_false h1]; simp
    rintro k k2 next2
    refine ⟨Int.natCast_nonneg i, _, hx, ?_⟩
    refine ⟨fun hlt2 => go 60 ?_, fun hge2 => go 60 ?_⟩
    · have hk : k < l[i].drop.toNat := by have := lt_of hlt2; omega
      have hck : 0 + ((c : Int) + (k : Int)).toNat = c + k := by omega
      have hdx : ((List.range' 0 (n + 1)).map fun j => bitV (dropAt (l.take i) j || (decide (c ≤ j) && decide (j < c + k))))[0 + ((c : Int) + (k : Int)).toNat]? = some .ff := by
        rw [hck, range_at _ (by omega)]
        rw [dropAt_ge _ _ (by omega), decide_eq_false (by omega : ¬ c + k < c + k)]
        simp [bitV]
      refine ⟨⟨by omega, by omega⟩, rfl, by omega, by omega, rfl, _, hdx, ?_⟩
      refine ⟨⟨by omega, by omega⟩, ?_⟩
      show Goes _ _ _ _
      refine next2 (k + 1) _ _ ⟨hk, by omega, ⟨⟨rfl, rfl⟩, ⟨rfl, rfl⟩, ⟨rfl, rfl⟩, ⟨rfl, rfl⟩, ⟨rfl, rfl⟩, ⟨rfl, rfl⟩, trivial⟩, ⟨⟨rfl, rfl⟩, ⟨rfl, rfl⟩, ⟨?_, rfl⟩, ⟨rfl, rfl⟩, trivial⟩⟩
      show some (HObj.vec 2 1 (List.set _ (0 + ((c : Int) + (k : Int)).toNat) .tt)) = _
      rw [hck, set_range]
      refine congrArg (fun z => some (HObj.vec 2 1 z)) (List.map_congr_left fun j _ => ?_)
      by_cases h1 : j = c + k
      · rw [decide_eq_true h1, h1, decide_eq_true (by omega : c ≤ c + k), decide_eq_true (by omega : c + k < c + (k + 1))]
        simp [bitV]
      · rw [decide_eq_false h1]
        have : decide (j < c + k) = decide (j < c + (k + 1)) := by rw [decide_eq_decide]; omega
        rw [this]
        rfl
    · have hk : k = l[i].drop.toNat := by have := not_lt_of hge2; omega
      refine ⟨Int.natCast_nonneg i, _, hx, ⟨by omega, by omega⟩, ?_⟩
      refine ⟨⟨by omega, by omega⟩, ?_⟩
      show Goes _ _ _ _
      refine next (i + 1) _ _ ⟨hi, by omega, ⟨⟨rfl, rfl⟩, ⟨?_, rfl⟩, ⟨rfl, rfl⟩, ⟨rfl, rfl⟩, ⟨rfl, rfl⟩, trivial⟩, ⟨⟨rfl, rfl⟩, ⟨rfl, rfl⟩, ⟨?_, rfl⟩, ⟨rfl, rfl⟩, trivial⟩⟩
      · exact congrArg (V.int .i64) (by omega)
      · refine congrArg (fun z => some (HObj.vec 2 1 z)) (List.map_congr_left fun j _ => ?_)
        rw [e1, dropAt_snoc, ← hc', hk]
  · have hi : i = l.length := by have := not_lt_of hge; simp at this; omega
    subst hi
    refine ⟨trivial, rfl, rfl, rfl, (by rw [List.length_map, List.length_range']), rfl, (by rw [List.length_map, List.length_range']), rfl, viewV l n, ?_, rfl, rfl⟩
    rw [List.take_length]
    exact Wk.agg ⟨.refl _, Wk.sl (wk_bits _ _), trivial⟩

/-! ### behind -/
theorem viewP_at (l : List PieceT) {n j : Nat} (h : j < (viewP l n).length) : (viewP l n)[j] = (putAt l j, dropAt l j) := by
  have h2 : j < n + 1 := by rw [viewP_len] at h; exact h
  have e : (viewP l n)[j]? = some (putAt l j, dropAt l j) := by unfold viewP; exact range_at _ h2
  rw [List.getElem?_eq_getElem h] at e
  exact Option.some.inj e
set_option pp.maxSteps 300 in
set_option maxHeartbeats 2000000 in
set_option maxRecDepth 100000 in
theorem w_behind5 (la lb : List PieceT) (n : Nat) (first : Bool) (ha : RN la) (hb : RN lb) (wa : sumW la ≤ 40000000000) (wb : sumW lb ≤ 40000000000) (hn : n ≤ 40000000000) :
    Pure Tryz.prog 243 [viewV la n, viewV lb n, .bool first] (fun x => x = piecesV (normP (placesP first (viewP la n) (viewP lb n)))) := by
  have sa := sumL_view ha n
  have sb := sumL_view hb n
  have lva := viewP_len la n
  have lvb := viewP_len lb n
  obtain ⟨nn, len, sw⟩ := places_nn first (viewP la n) (viewP lb n)
  have hnorm := w_ref5norm (placesP first (viewP la n) (viewP lb n)) nn (by omega)
  refine pure_wk (pure_fn 100 Tryz.func243 rfl rfl rfl fun B => ?_)
  show Goes _ _ _ _
  refine goes_own 7 3 rfl ?_
  refine goes_iter (ι := Nat × Nat) (fun i => i.1 ≤ n + 1) (fun i => n + 1 - i.1) (fun i => [(8, .int .i64 i.1), (7, .osl (.loc 2) i.2 0 (placesP first ((viewP la n).take i.1) ((viewP lb n).take i.1)).length), (2, .bool first), (3, .ptr (.loc 0) 0), (4, .ptr (.loc 1) 0)])
    (fun i => [some (.box (viewV la n).cells), some (.box (viewV lb n).cells), some (.vec i.2 3 ((placesP first ((viewP la n).take i.1) ((viewP lb n).take i.1)).map pieceV))]) (0, 0) 100 (fun _ => rfl) (fun _ => rfl)
    ⟨Nat.zero_le _, ⟨⟨rfl, rfl⟩, ⟨rfl, rfl⟩, ⟨rfl, rfl⟩, ⟨rfl, rfl⟩, ⟨rfl, rfl⟩, trivial⟩, ⟨⟨rfl, rfl⟩, ⟨rfl, rfl⟩, ⟨rfl, rfl⟩, trivial⟩⟩ ?_
  rintro ⟨i, g⟩ k1 next
  simp only at k1
  refine ⟨fun hlt => go 100 ?_, fun hge => go 100 ?_⟩
  · have hi : i < n + 1 := by have := lt_of hlt; simp at this; omega
    have px : ((List.range' 0 (n + 1)).map fun j => V.str (putAt la j))[i]? = some (.str (putAt la i)) := range_at _ hi
    have py : ((List.range' 0 (n + 1)).map fun j => V.str (putAt lb j))[i]? = some (.str (putAt lb i)) := range_at _ hi
    have dx : ((List.range' 0 (n + 1)).map fun j => V.bool (dropAt la j))[i]? = some (.bool (dropAt la i)) := range_at _ hi
    have dy : ((List.range' 0 (n + 1)).map fun j => V.bool (dropAt lb j))[i]? = some (.bool (dropAt lb i)) := range_at _ hi
    have hsn := placesP_snoc first (va := viewP la n) (vb := viewP lb n) (i := i) (by omega) (by omega)
    rw [viewP_at, viewP_at] at hsn
    obtain ⟨_, len2, _⟩ := places_nn first ((viewP la n).take i) ((viewP lb n).take i)
    have hl2 : (placesP first ((viewP la n).take i) ((viewP lb n).take i)).length ≤ 3 * i := by
      refine Nat.le_trans len2 ?_
      rw [List.length_take]
      omega
    obtain ⟨P, hP⟩ : ∃ P, placesP first ((viewP la n).take i) ((viewP lb n).take i) = P := ⟨_, rfl⟩
    have room1 : ∀ m : Nat, m ≤ 3 * i + 3 → room m 32 := fun m h => by unfold room; omega
    refine ⟨Int.natCast_nonneg i, _, py, ?_⟩
    refine ⟨Int.natCast_nonneg i, _, px, ?_⟩
    refine ⟨fun g1 => go 100 ?_, fun g1 => go 100 ?_⟩
    · refine ⟨⟨rfl, rfl, trivial⟩, rfl, rfl, rfl, by simp, room1 _ (by simp only [List.length_map, List.length_cons, List.length_nil]; omega), ?_⟩
      refine ⟨Int.natCast_nonneg i, _, dy, ?_⟩
      refine ⟨fun g2 => go 100 ?_, fun g2 => go 100 ?_⟩
      · have hQ : placeP first (putAt la i, dropAt la i) (putAt lb i, dropAt lb i) = [⟨0, 0, putAt la i⟩, ⟨(putAt lb i).length, 0, []⟩] := by unfold placeP; rw [g1, g2]; rfl
        refine ⟨⟨by omega, by omega⟩, ?_⟩
        show Goes _ _ _ _
        refine next (i + 1, bump g) _ _ ⟨hi, by simp only; omega, ⟨⟨rfl, rfl⟩, ⟨?_, rfl⟩, ⟨rfl, rfl⟩, ⟨rfl, rfl⟩, ⟨rfl, rfl⟩, trivial⟩, ⟨⟨rfl, rfl⟩, ⟨rfl, rfl⟩, ⟨?_, rfl⟩, trivial⟩⟩
        · exact congrArg (V.osl (.loc 2) (bump g) 0) (by rw [hsn, hQ, List.length_append, List.length_map]; rfl)
        · exact congrArg (fun z => some (HObj.vec (bump g) 3 z)) (by rw [hsn, hQ, List.map_append]; rfl)
      · refine ⟨Int.natCast_nonneg i, _, dx, ?_⟩
        refine ⟨fun g3 => go 100 ?_, fun g3 => go 100 ?_⟩
        · have hQ : placeP first (putAt la i, dropAt la i) (putAt lb i, dropAt lb i) = [⟨0, 0, putAt la i⟩, ⟨(putAt lb i).length, 0, []⟩, ⟨0, 1, []⟩] := by unfold placeP; rw [g1, g2, g3]; rfl
          refine ⟨⟨rfl, trivial⟩, rfl, rfl, rfl, by simp, room1 _ (by simp only [List.length_append, List.length_map, List.length_cons, List.length_nil]; omega), ?_⟩
          refine ⟨⟨by omega, by omega⟩, ?_⟩
          show Goes _ _ _ _
          refine next (i + 1, bump (bump g)) _ _ ⟨hi, by simp only; omega, ⟨⟨rfl, rfl⟩, ⟨?_, rfl⟩, ⟨rfl, rfl⟩, ⟨rfl, rfl⟩, ⟨rfl, rfl⟩, trivial⟩, ⟨⟨rfl, rfl⟩, ⟨rfl, rfl⟩, ⟨?_, rfl⟩, trivial⟩⟩
          · exact congrArg (V.osl (.loc 2) (bump (bump g)) 0) (by rw [hsn, hQ, List.length_append, List.length_append, List.length_map]; rfl)
          · exact congrArg (fun z => some (HObj.vec (bump (bump g)) 3 z)) (by rw [hsn, hQ, List.map_append, List.append_assoc]; rfl)
        · have hQ : placeP first (putAt la i, dropAt la i) (putAt lb i, dropAt lb i) = [⟨0, 0, putAt la i⟩, ⟨(putAt lb i).length, 0, []⟩, ⟨1, 0, []⟩] := by unfold placeP; rw [g1, g2, g3]; rfl
          refine ⟨⟨rfl, trivial⟩, rfl, rfl, rfl, by simp, room1 _ (by simp only [List.length_append, List.length_map, List.length_cons, List.length_nil]; omega), ?_⟩
          refine ⟨⟨by omega, by omega⟩, ?_⟩
          show Goes _ _ _ _
          refine next (i + 1, bump (bump g)) _ _ ⟨hi, by simp only; omega, ⟨⟨rfl, rfl⟩, ⟨?_, rfl⟩, ⟨rfl, rfl⟩, ⟨rfl, rfl⟩, ⟨rfl, rfl⟩, trivial⟩, ⟨⟨rfl, rfl⟩, ⟨rfl, rfl⟩, ⟨?_, rfl⟩, trivial⟩⟩
          · exact congrArg (V.osl (.loc 2) (bump (bump g)) 0) (by rw [hsn, hQ, List.length_append, List.length_append, List.length_map]; rfl)
          · exact congrArg (fun z => some (HObj.vec (bump (bump g)) 3 z)) (by rw [hsn, hQ, List.map_append, List.append_assoc]; rfl)
    · refine ⟨⟨rfl, rfl, trivial⟩, rfl, rfl, rfl, by simp, room1 _ (by simp only [List.length_map, List.length_cons, List.length_nil]; omega), ?_⟩
      refine ⟨Int.natCast_nonneg i, _, dy, ?_⟩
      refine ⟨fun g2 => go 100 ?_, fun g2 => go 100 ?_⟩
      · have hQ : placeP first (putAt la i, dropAt la i) (putAt lb i, dropAt lb i) = [⟨(putAt lb i).length, 0, []⟩, ⟨0, 0, putAt la i⟩] := by unfold placeP; rw [g1, g2]; rfl
        refine ⟨⟨by omega, by omega⟩, ?_⟩
        show Goes _ _ _ _
        refine next (i + 1, bump g) _ _ ⟨hi, by simp only; omega, ⟨⟨rfl, rfl⟩, ⟨?_, rfl⟩, ⟨rfl, rfl⟩, ⟨rfl, rfl⟩, ⟨rfl, rfl⟩, trivial⟩, ⟨⟨rfl, rfl⟩, ⟨rfl, rfl⟩, ⟨?_, rfl⟩, trivial⟩⟩
        · exact congrArg (V.osl (.loc 2) (bump g) 0) (by rw [hsn, hQ, List.length_append, List.length_map]; rfl)
        · exact congrArg (fun z => some (HObj.vec (bump g) 3 z)) (by rw [hsn, hQ, List.map_append]; rfl)
      · refine ⟨Int.natCast_nonneg i, _, dx, ?_⟩
        refine ⟨fun g3 => go 100 ?_, fun g3 => go 100 ?_⟩
        · have hQ : placeP first (putAt la i, dropAt la i) (putAt lb i, dropAt lb i) = [⟨(putAt lb i).length, 0, []⟩, ⟨0, 0, putAt la i⟩, ⟨0, 1, []⟩] := by unfold placeP; rw [g1, g2, g3]; rfl
          refine ⟨⟨rfl, trivial⟩, rfl, rfl, rfl, by simp, room1 _ (by simp only [List.length_append, List.length_map, List.length_cons, List.length_nil]; omega), ?_⟩
          refine ⟨⟨by omega, by omega⟩, ?_⟩
          show Goes _ _ _ _
          refine next (i + 1, bump (bump g)) _ _ ⟨hi, by simp only; omega, ⟨⟨rfl, rfl⟩, ⟨?_, rfl⟩, ⟨rfl, rfl⟩, ⟨rfl, rfl⟩, ⟨rfl, rfl⟩, trivial⟩, ⟨⟨rfl, rfl⟩, ⟨rfl, rfl⟩, ⟨?_, rfl⟩, trivial⟩⟩
          · exact congrArg (V.osl (.loc 2) (bump (bump g)) 0) (by rw [hsn, hQ, List.length_append, List.length_append, List.length_map]; rfl)
          · exact congrArg (fun z => some (HObj.vec (bump (bump g)) 3 z)) (by rw [hsn, hQ, List.map_append, List.append_assoc]; rfl)
        · have hQ : placeP first (putAt la i, dropAt la i) (putAt lb i, dropAt lb i) = [⟨(putAt lb i).length, 0, []⟩, ⟨0, 0, putAt la i⟩, ⟨1, 0, []⟩] := by unfold placeP; rw [g1, g2, g3]; rfl
          refine ⟨⟨rfl, trivial⟩, rfl, rfl, rfl, by simp, room1 _ (by simp only [List.length_append, List.length_map, List.length_cons, List.length_nil]; omega), ?_⟩
          refine ⟨⟨by omega, by omega⟩, ?_⟩
          show Goes _ _ _ _
          refine next (i + 1, bump (bump g)) _ _ ⟨hi, by simp only; omega, ⟨⟨rfl, rfl⟩, ⟨?_, rfl⟩, ⟨rfl, rfl⟩, ⟨rfl, rfl⟩, ⟨rfl, rfl⟩, trivial⟩, ⟨⟨rfl, rfl⟩, ⟨rfl, rfl⟩, ⟨?_, rfl⟩, trivial⟩⟩
          · exact congrArg (V.osl (.loc 2) (bump (bump g)) 0) (by rw [hsn, hQ, List.length_append, List.length_append, List.length_map]; rfl)
          · exact congrArg (fun z => some (HObj.vec (bump (bump g)) 3 z)) (by rw [hsn, hQ, List.map_append, List.append_assoc]; rfl)
  · have hi : i = n + 1 := by have := not_lt_of hge; simp at this; omega
    subst hi
    have e1 : (viewP la n).take (n + 1) = viewP la n := List.take_of_length_le (by omega)
    have e2 : (viewP lb n).take (n + 1) = viewP lb n := List.take_of_length_le (by omega)
    have hnorm' : Pure Tryz.prog 168 [.sl 3 ((placesP first ((viewP la n).take (n + 1)) ((viewP lb n).take (n + 1))).map pieceV)] (fun x => x = piecesV (normP (placesP first (viewP la n) (viewP lb n)))) := by
      rw [e1, e2]
      exact hnorm
    show CallThen _ _ _ _ _ _
    refine call_pure_frz ?_
    refine ⟨rfl, by simp, _, hnorm', rfl, ?_⟩
    rintro x rfl
    exact ⟨trivial, rfl, rfl, rfl, _, Wk.refl _, rfl, rfl⟩

/-! ### Transform -/
theorem norm_big {l : List PieceT} (h : ∀ p ∈ l, p.Nn) (W : Int) (hw : 2 * sumW l ≤ W) : (∀ p ∈ normP l, p.Nn) ∧ sumW (normP l) ≤ W ∧ ((normP l).length : Int) ≤ W ∧ ∀ p ∈ normP l, (p.put.length : Int) ≤ W := by
  obtain ⟨q1, q2⟩ := foldl_ok (l := l) Mk.nil_ok h
  have d1 := q1.k
  have d5 : Mk.nil.w = 0 := rfl
  have d6 : (l.foldl Mk.piece Mk.nil).w = (l.foldl Mk.piece Mk.nil).keep + sumW (normP l) := rfl
  have d2 : ((normP l).length : Int) ≤ sumW (normP l) := sumW_len q1.l
  refine ⟨q1.l, by omega, by omega, fun p hp => ?_⟩
  have h1 := sumW_mem q1.l p hp
  have h2 := (q1.l p hp).k
  have h3 := (q1.l p hp).d
  unfold PieceT.w at h1
  have h1 : p.keep + p.drop + p.put.length + 1 ≤ sumW (normP l) := h1
  omega
def TrV (r : List PieceT × List PieceT × Int) : V := .tup [piecesV r.1, piecesV r.2.1, .int .i64 r.2.2]
theorem leafT {r : List PieceT × List PieceT × Int} {e : Int} (h : r = ([], [], e)) : ∃ y, Wk (.tup [.nilsl, .nilsl, .int .i64 e]) y ∧ y.pureB = true ∧ y = TrV r := ⟨TrV ([], [], e), Wk.tup ⟨Wk.nil 3, Wk.nil 3, .refl _, trivial⟩, rfl, by rw [h]⟩
set_option pp.maxSteps 300 in
set_option maxHeartbeats 2000000 in
set_option maxRecDepth 100000 in
theorem w_ref5Trans (a b : List PieceT) (prior : Bool) (la : a.length ≤ 1000000) (lb : b.length ≤ 1000000) (pa : ∀ p ∈ a, p.put.length ≤ 1000000000) (pb : ∀ p ∈ b, p.put.length ≤ 1000000000) :
    Pure Tryz.prog 222 [piecesV a, piecesV b, .bool prior] (fun x => x = TrV (transP a b prior)) := by
  rw [← transR_eq]
  obtain ⟨R, hR⟩ : ∃ R, transR a b prior = R := ⟨_, rfl⟩
  rw [hR]
  refine pure_wk (pure_fn 100 Tryz.func222 rfl rfl rfl fun B => ?_)
  show CallThen _ _ _ _ _ _
  refine call_pure (w_refRight a la pa) rfl ?_
  rintro x rfl
  refine ⟨fun g1 => go 100 ?_, fun g1 => go 100 ?_⟩
  · have g1 : rightP a = false := by simpa using g1
    exact ⟨trivial, rfl, rfl, rfl, leafT (by rw [← hR]; unfold transR; rw [g1]; rfl)⟩
  have ra : rightP a = true := by simpa using g1
  show CallThen _ _ _ _ _ _
  refine call_pure (w_refRight b lb pb) rfl ?_
  rintro x rfl
  refine ⟨fun g2 => go 100 ?_, fun g2 => go 100 ?_⟩
  · have g2 : rightP b = false := by simpa using g2
    exact ⟨trivial, rfl, rfl, rfl, leafT (by rw [← hR]; unfold transR; rw [ra, g2]; rfl)⟩
  have rb : rightP b = true := by simpa using g2
  obtain ⟨na, wa⟩ := right_nn ra
  obtain ⟨nb, wb⟩ := right_nn rb
  have ca := w_ref5norm a na (by omega)
  have cb := w_ref5norm b nb (by omega)
  obtain ⟨qa1, qa2, _, _⟩ := norm_big na 40000000000 (by omega)
  obtain ⟨qb1, qb2, _, _⟩ := norm_big nb 40000000000 (by omega)
  have rna := norm_rn ra
  have rnb := norm_rn rb
  have hT : R = bif !rightP (normP (placesP prior (viewP (normP a) (max (extN (normP a)) (extN (normP b)))) (viewP (normP b) (max (extN (normP a)) (extN (normP b)))))) || !rightP (normP (placesP (!prior) (viewP (normP b) (max (extN (normP a)) (extN (normP b)))) (viewP (normP a) (max (extN (normP a)) (extN (normP b)))))) then ([], [], 3) else (normP (placesP prior (viewP (normP a) (max (extN (normP a)) (extN (normP b)))) (viewP (normP b) (max (extN (normP a)) (extN (normP b))))), normP (placesP (!prior) (viewP (normP b) (max (extN (normP a)) (extN (normP b)))) (viewP (normP a) (max (extN (normP a)) (extN (normP b))))), 0) := by
    rw [← hR]
    unfold transR
    rw [ra, rb]
    rfl
  have ea := extN_le qa1
  have eb := extN_le qb1
  have cea := w_ref5Extent _ qa1 (by omega)
  have ceb := w_ref5Extent _ qb1 (by omega)
  generalize normP a = A at *
  generalize normP b = B' at *
  obtain ⟨N, hN⟩ : ∃ N, max (extN A) (extN B') = N := ⟨_, rfl⟩
  rw [hN] at hT
  have hmax : (if ((extN B' : Nat) : Int) > ((extN A : Nat) : Int) then ((extN B' : Nat) : Int) else ((extN A : Nat) : Int)) = (N : Int) := by
    split <;> omega
  have cva := w_view A N rna (by omega) (by omega) (by omega)
  have cvb := w_view B' N rnb (by omega) (by omega) (by omega)
  have cx := w_behind5 A B' N prior rna rnb (by omega) (by omega) (by omega)
  have cy := w_behind5 B' A N (!prior) rnb rna (by omega) (by omega) (by omega)
  have sA := sumL_view rna N
  have sB := sumL_view rnb N
  have lA := viewP_len A N
  have lB := viewP_len B' N
  obtain ⟨x1, _, x3⟩ := places_nn prior (viewP A N) (viewP B' N)
  obtain ⟨y1, _, y3⟩ := places_nn (!prior) (viewP B' N) (viewP A N)
  obtain ⟨_, _, x4, x5⟩ := norm_big x1 1000000000000 (by omega)
  obtain ⟨_, _, y4, y5⟩ := norm_big y1 1000000000000 (by omega)
  have crx := w_refRightW (normP (placesP prior (viewP A N) (viewP B' N))) (by omega) (fun p hp => by have := x5 p hp; omega)
  have cry := w_refRightW (normP (placesP (!prior) (viewP B' N) (viewP A N))) (by omega) (fun p hp => by have := y5 p hp; omega)
  generalize normP (placesP prior (viewP A N) (viewP B' N)) = X at *
  generalize normP (placesP (!prior) (viewP B' N) (viewP A N)) = Y at *
  show CallThen _ _ _ _ _ _
  refine call_pure ca rfl ?_
  rintro x rfl
  show CallThen _ _ _ _ _ _
  refine call_pure cb rfl ?_
  rintro x rfl
  show CallThen _ _ _ _ _ _
  refine call_pure cea rfl ?_
  rintro x rfl
  show CallThen _ _ _ _ _ _
  refine call_pure ceb rfl ?_
  rintro x rfl
  have cva' : Pure Tryz.prog 242 [piecesV A, .int .i64 (if ((extN B' : Nat) : Int) > ((extN A : Nat) : Int) then ((extN B' : Nat) : Int) else ((extN A : Nat) : Int))] (fun x => x = viewV A N) := by rw [hmax]; exact cva
  have cvb' : Pure Tryz.prog 242 [piecesV B', .int .i64 (if ((extN B' : Nat) : Int) > ((extN A : Nat) : Int) then ((extN B' : Nat) : Int) else ((extN A : Nat) : Int))] (fun x => x = viewV B' N) := by rw [hmax]; exact cvb
  show CallThen _ _ _ _ _ _
  refine call_pure cva' rfl ?_
  rintro x rfl
  show CallThen _ _ _ _ _ _
  refine call_pure cvb' rfl ?_
  rintro x rfl
  show Goes _ _ _ _
  refine goes_draw 60 ⟨_, cx, rfl, _, cy, rfl, ?_⟩
  refine ⟨by kernel_rfl, ?_⟩
  show CallThen _ _ _ _ _ _
  refine call_pure crx rfl ?_
  rintro x rfl
  refine ⟨fun g3 => go 100 ?_, fun g3 => go 100 ?_⟩
  · have g3 : rightP X = false := by simpa using g3
    exact ⟨trivial, rfl, rfl, rfl, leafT (by rw [hT, g3]; rfl)⟩
  have g3 : rightP X = true := by simpa using g3
  show CallThen _ _ _ _ _ _
  refine call_pure cry rfl ?_
  rintro x rfl
  refine ⟨fun g4 => go 100 ?_, fun g4 => go 100 ?_⟩
  · have g4 : rightP Y = false := by simpa using g4
    exact ⟨trivial, rfl, rfl, rfl, leafT (by rw [hT, g3, g4]; rfl)⟩
  have g4 : rightP Y = true := by simpa using g4
  exact ⟨trivial, rfl, rfl, rfl, TrV (X, Y, 0), Wk.refl _, rfl, by rw [hT, g3, g4]; rfl⟩
end Bow
/- W71: the document's answer of chapter 12: what becomes of an operation behind another one. -/
namespace Bow
open Go Go.Proofs

theorem w_one (o : OpT) : Pure Tryz.prog 218 [opV o] (fun x => x = opsV [o]) := by
  refine pure_fn 300 Tryz.func218 rfl rfl rfl fun B => ?_
  refine ⟨⟨rfl, trivial⟩, ?_⟩
  exact ⟨trivial, rfl, rfl, rfl, rfl, rfl, rfl⟩
theorem w_keep (h : Bool) (l : List OpT) : Pure Tryz.prog 221 [.bool h, opsV l] (fun x => x = opsV (bif h then l else [])) := by
  refine pure_wk (pure_fn 300 Tryz.func221 rfl rfl rfl fun B => ?_)
  refine ⟨fun g => go 300 ?_, fun g => go 300 ?_⟩
  · have g : h = false := by simpa using g
    exact ⟨trivial, rfl, rfl, rfl, opsV [], Wk.nil 11, rfl, by rw [g]; rfl⟩
  · have g : h = true := by simpa using g
    exact ⟨trivial, rfl, rfl, rfl, opsV l, Wk.refl _, rfl, by rw [g]; rfl⟩
theorem w_drop12 (p : List Int) : Pure Tryz.prog 219 [pathV p] (fun x => x = opV (dropO p)) := by
  refine pure_wk (pure_fn 300 Tryz.func219 rfl rfl rfl fun B => ?_)
  exact ⟨trivial, rfl, rfl, rfl, opV (dropO p), Wk.agg ⟨.refl _, .refl _, .refl _, Wk.nil 1, .refl _, Wk.ff, .refl _, .refl _, .refl _, Wk.ff, Wk.nil 3, trivial⟩, rfl, rfl⟩
set_option maxRecDepth 100000 in
theorem w_Sound12 (o : OpT) (ho : o.Ok) : Pure Tryz.prog 182 [opV o] (fun x => x = .bool (soundO o)) := by
  refine pure_wk (pure_fn 300 Tryz.func182 rfl rfl rfl fun B => ?_)
  have hW := w_refWithin o.path o.to ho.lt.path
  show CallThen _ _ _ _ _ _
  refine call_pure (w_refFormed o ho.lt ho.each) rfl ?_
  rintro x rfl
  repeat' first
    | (refine ⟨fun _ => go 300 ?_, fun _ => go 300 ?_⟩)
    | (show CallThen _ _ _ _ _ _; refine call_pure hW rfl ?_; rintro z rfl)
    | (refine ⟨trivial, rfl, rfl, rfl, leaf_tt ?_⟩)
    | (refine ⟨trivial, rfl, rfl, rfl, leaf_ff ?_⟩)
    | (refine ⟨trivial, rfl, rfl, rfl, leaf_b ?_⟩)
    | fail
  all_goals clear hW
  all_goals (unfold soundO; cases hf : formedB o with
    | false => simp_all
    | true => rcases formed_kinds hf with k | k | k | k | k | k <;> simp_all <;> (try intro _) <;> exact List.length_pos_iff.2 (by assumption))

theorem gapP_node (o : OpT) (p : List Int) (n : Int) (f : Bool) : (gapP o p n f).1 = (nodeP o p).getD [] := by
  unfold gapP
  cases nodeP o p with
  | none => rfl
  | some q => cases movesO o <;> rfl
set_option maxHeartbeats 4000000 in
set_option maxRecDepth 100000 in
theorem w_row9 (b a : OpT) (prior : Bool) (ha : a.Ok) (_ : b.Ok) (hf : formedB b = true) :
    Pure Tryz.prog 223 [opV b, opV a, .bool prior] (fun x => x = opV (shiftedO b a prior)) := by
  have hpl := may_len (formed_path hf)
  have hps := may_step (formed_path hf)
  refine pure_fn 300 Tryz.func223 rfl rfl rfl fun B => ?_
  refine ⟨fun g1 => go 300 ?_, fun g1 => go 300 ?_⟩
  · have hk : b.kind = 1 := eq_of g1
    have hg := formed_gap hf (.inl hk)
    show CallThen _ _ _ _ _ _
    refine call_pure (w_refGap a b.path b.at_ prior ha (by omega) hps ⟨by omega, by omega⟩) rfl ?_
    rintro x rfl
    refine ⟨trivial, rfl, rfl, rfl, ?_⟩
    have e := gapP_node a b.path b.at_ prior
    unfold shiftedO
    rw [decide_eq_true hk, ← e]
    rfl
  have hk1 : b.kind ≠ 1 := ne_of g1
  refine ⟨fun g2 => go 300 ?_, fun g2 => go 300 ?_⟩
  · have hk : b.kind = 3 := eq_of g2
    have hg := formed_gap hf (.inr hk)
    have htl := may_len (good_to hf hk)
    have hts := may_step (good_to hf hk)
    show CallThen _ _ _ _ _ _
    refine call_pure (w_refNode a b.path ha (by omega) hps) rfl ?_
    rintro x rfl
    show CallThen _ _ _ _ _ _
    refine call_pure (w_refGap a b.to b.at_ prior ha (by omega) hts ⟨by omega, by omega⟩) rfl ?_
    rintro x rfl
    refine ⟨trivial, rfl, rfl, rfl, ?_⟩
    unfold shiftedO
    rw [decide_eq_false hk1, decide_eq_true hk]
    rfl
  · have hk3 : b.kind ≠ 3 := ne_of g2
    show CallThen _ _ _ _ _ _
    refine call_pure (w_refNode a b.path ha (by omega) hps) rfl ?_
    rintro x rfl
    refine ⟨trivial, rfl, rfl, rfl, ?_⟩
    unfold shiftedO
    rw [decide_eq_false hk1, decide_eq_false hk3]
    rfl

theorem leafO {l r : List OpT} (h : r = l) : ∃ y, Wk (opsV l) y ∧ y.pureB = true ∧ y = opsV r := ⟨opsV r, by rw [h]; exact Wk.refl _, rfl, rfl⟩
set_option maxHeartbeats 4000000 in
set_option maxRecDepth 100000 in
theorem w_twoMoves (b a : OpT) (prior : Bool) (ha : a.Ok) (hb : b.Ok) (fa : formedB a = true) (fb : formedB b = true) (ka : a.kind = 3) (kb : b.kind = 3) :
    Pure Tryz.prog 220 [opV b, opV a, .bool prior] (fun x => x = opsV (rowO b a prior)) := by
  have pa := may_len (formed_path fa)
  have pb := may_len (formed_path fb)
  have hrow : rowO b a prior = bif decide (a.path = b.path) then (bif prior then [shiftedO b a prior] else []) else bif within b.path a.to && within a.path b.to then (bif prior then [undoO a, b] else []) else [shiftedO b a prior] := by
    unfold rowO wonO
    rw [ka, kb]
    simp
  have h9 := w_row9 b a prior ha hb fb
  have c1 := w_refSame a.path b.path (by omega)
  have c2 := w_refWithin b.path a.to (by omega)
  have c3 := w_refWithin a.path b.to (by omega)
  have ck1 := w_keep prior [shiftedO b a prior]
  have ck2 := w_keep prior [undoO a, b]
  rw [hrow]
  clear hrow
  refine pure_wk (pure_fn 300 Tryz.func220 rfl rfl rfl fun B => ?_)
  show CallThen _ _ _ _ _ _
  refine call_pure c1 rfl ?_
  rintro x rfl
  refine ⟨fun g1 => go 300 ?_, fun g1 => go 300 ?_⟩
  · show CallThen _ _ _ _ _ _
    refine call_pure h9 rfl ?_
    rintro x rfl
    show CallThen _ _ _ _ _ _
    refine call_pure (w_one _) rfl ?_
    rintro x rfl
    show CallThen _ _ _ _ _ _
    refine call_pure ck1 rfl ?_
    rintro x rfl
    exact ⟨trivial, rfl, rfl, rfl, leafO (by rw [g1]; rfl)⟩
  show CallThen _ _ _ _ _ _
  refine call_pure c2 rfl ?_
  rintro x rfl
  refine ⟨fun g2 => go 300 ?_, fun g2 => go 300 ?_⟩
  · show CallThen _ _ _ _ _ _
    refine call_pure c3 rfl ?_
    rintro x rfl
    refine ⟨fun g3 => go 300 ?_, fun g3 => go 300 ?_⟩
    · show Goes _ _ _ _
      refine goes_draw 300 ⟨_, w_ref11Undo a ha, rfl, rfl, ⟨rfl, rfl, trivial⟩, by kernel_rfl, rfl, rfl, _, ck2, rfl, ?_⟩
      refine ⟨by kernel_rfl, ?_⟩
      exact ⟨trivial, rfl, rfl, rfl, leafO (by rw [g1, g2, g3]; rfl)⟩
    · show CallThen _ _ _ _ _ _
      refine call_pure h9 rfl ?_
      rintro x rfl
      show CallThen _ _ _ _ _ _
      refine call_pure (w_one _) rfl ?_
      rintro x rfl
      exact ⟨trivial, rfl, rfl, rfl, leafO (by rw [g1, g2, g3]; rfl)⟩
  · show CallThen _ _ _ _ _ _
    refine call_pure h9 rfl ?_
    rintro x rfl
    show CallThen _ _ _ _ _ _
    refine call_pure (w_one _) rfl ?_
    rintro x rfl
    exact ⟨trivial, rfl, rfl, rfl, leafO (by rw [g1, g2]; rfl)⟩
def RowV (l : List OpT) : V := .tup [opsV l, .int .i64 0]
theorem leafR {l r : List OpT} (h : r = l) : ∃ y, Wk (.tup [opsV l, .int .i64 0]) y ∧ y.pureB = true ∧ y = RowV r := ⟨RowV r, by rw [h]; exact Wk.refl _, rfl, rfl⟩
theorem leafR0 {r : List OpT} (h : r = []) : ∃ y, Wk (.tup [.nilsl, .int .i64 0]) y ∧ y.pureB = true ∧ y = RowV r := ⟨RowV [], Wk.tup ⟨Wk.nil 11, .refl _, trivial⟩, rfl, by rw [h]⟩
theorem node_idle {a : OpT} (h : a.kind ≠ 1 ∧ a.kind ≠ 2 ∧ a.kind ≠ 3) : movesO a = false := by
  unfold movesO
  rw [decide_eq_false h.1, decide_eq_false h.2.1, decide_eq_false h.2.2]
  simp
/-- Behind an operation that moves no node nothing is shifted. -/
theorem shifted_idle {a : OpT} (b : OpT) (p : Bool) (h : a.kind ≠ 1 ∧ a.kind ≠ 2 ∧ a.kind ≠ 3) : shiftedO b a p = b := by
  have hm := node_idle h
  have hg : ∀ q n f, gapP a q n f = (q, n, true) := fun q n f => by unfold gapP; rw [node_still q hm, hm]; rfl
  unfold shiftedO
  rw [node_still b.path hm, hg, hg]
  simp only [Option.getD_some]
  cases decide (b.kind = 1) <;> cases decide (b.kind = 3) <;> rfl
theorem within_eq {p q : List Int} (h : within p q = true) (hl : q.length ≤ p.length) : p = q := by
  unfold within at h
  rw [List.take_of_length_le hl] at h
  exact of_decide_eq_true h
theorem eqB {a b : Int} {p : Prop} (h : (a = b) → p) (g : decide (a = b) = true) : p := h (eq_of g)
theorem neB {a b : Int} {p : Prop} (h : (a ≠ b) → p) (g : decide (a = b) = false) : p := h (ne_of g)
set_option maxHeartbeats 8000000 in
set_option maxRecDepth 100000 in
theorem w_behind12 (b a : OpT) (prior : Bool) (ha : a.Ok) (hb : b.Ok) (sa : soundO a = true) (sb : soundO b = true) (he : bothEdit b a = false) :
    Pure Tryz.prog 183 [opV b, opV a, .bool prior] (fun x => x = RowV (rowO b a prior)) := by
  have fa : formedB a = true := by unfold soundO at sa; rw [Bool.and_eq_true] at sa; exact sa.1
  have fb : formedB b = true := by unfold soundO at sb; rw [Bool.and_eq_true] at sb; exact sb.1
  have pa := may_len (formed_path fa)
  have pb := may_len (formed_path fb)
  have qa := may_step (formed_path fa)
  have qb := may_step (formed_path fb)
  have ka := formed_kinds fa
  have kb := formed_kinds fb
  have h9 := w_row9 b a prior ha hb fb
  have c1 := w_refSame a.path b.path (by omega)
  have c2 := w_refWithin a.path b.path (by omega)
  have c3 := w_refWithin a.path b.to (by omega)
  have c4 := w_refWithin b.path a.path (by omega)
  have c5 := w_refWithin b.path a.to (by omega)
  have n1 := w_refNode a b.path ha (by omega) qb
  have n2 := w_refNode a a.path ha (by omega) qa
  have hna := nodeP_len64 a a.path
  have hnb := nodeP_len64 a b.path
  have hqs := node_steps (a := a) (p := b.path) (may_strict (formed_path fb))
  have d1 := w_drop12 ((nodeP a b.path).getD [])
  have d2 := w_drop12 ((nodeP a a.path).getD [])
  have n3 := w_refNode (dropO ((nodeP a a.path).getD [])) ((nodeP a b.path).getD []) (drop_ok (by omega)) (by omega) hqs
  have d3 := w_drop12 ((nodeP (dropO ((nodeP a a.path).getD [])) ((nodeP a b.path).getD [])).getD [])
  have o1 := w_one (shiftedO b a prior)
  have o2 := w_one b
  have o3 := w_one (dropO ((nodeP a b.path).getD []))
  have k1 := w_keep prior [b]
  have len : ∀ p : List Int, (List.map intV p).length = p.length := fun p => List.length_map _
  refine pure_wk (pure_fn 100 Tryz.func183 rfl rfl rfl fun B => ?_)
  repeat' first
    | (refine ⟨fun g => absurd (eq_of g) (by omega), fun _ => go 100 ?_⟩)
    | (refine ⟨fun _ => go 100 ?_, fun g => absurd (by omega) (ne_of g)⟩)
    | (refine ⟨fun g => absurd (lt_of g) (by simp only [len]; omega), fun _ => go 100 ?_⟩)
    | (refine ⟨eqB fun k => go 100 ?_, neB fun k => go 100 ?_⟩)
    | (refine ⟨fun _ => go 100 ?_, fun _ => go 100 ?_⟩)
    | (show CallThen _ _ _ _ _ _; refine call_pure c1 rfl ?_; rintro z rfl)
    | (show CallThen _ _ _ _ _ _; refine call_pure c2 rfl ?_; rintro z rfl)
    | (show CallThen _ _ _ _ _ _; refine call_pure c3 rfl ?_; rintro z rfl)
    | (show CallThen _ _ _ _ _ _; refine call_pure c4 rfl ?_; rintro z rfl)
    | (show CallThen _ _ _ _ _ _; refine call_pure c5 rfl ?_; rintro z rfl)
    | (show CallThen _ _ _ _ _ _; refine call_pure n1 rfl ?_; rintro z rfl)
    | (show CallThen _ _ _ _ _ _; refine call_pure n2 rfl ?_; rintro z rfl)
    | (show CallThen _ _ _ _ _ _; refine call_pure n3 rfl ?_; rintro z rfl)
    | (show CallThen _ _ _ _ _ _; refine call_pure d1 rfl ?_; rintro z rfl)
    | (show CallThen _ _ _ _ _ _; refine call_pure d2 rfl ?_; rintro z rfl)
    | (show CallThen _ _ _ _ _ _; refine call_pure d3 rfl ?_; rintro z rfl)
    | (show CallThen _ _ _ _ _ _; refine call_pure h9 rfl ?_; rintro z rfl)
    | (show CallThen _ _ _ _ _ _; refine call_pure o1 rfl ?_; rintro z rfl)
    | (show CallThen _ _ _ _ _ _; refine call_pure o2 rfl ?_; rintro z rfl)
    | (show CallThen _ _ _ _ _ _; refine call_pure o3 rfl ?_; rintro z rfl)
    | (show CallThen _ _ _ _ _ _; refine call_pure k1 rfl ?_; rintro z rfl)
    | (show CallThen _ _ _ _ _ _; refine call_pure (w_twoMoves b a prior ha hb fa fb (by omega) (by omega)) rfl ?_; rintro z rfl)
    | (refine ⟨trivial, rfl, rfl, rfl, leafR0 ?_⟩)
    | (refine ⟨trivial, rfl, rfl, rfl, leafR ?_⟩)
    | (refine ⟨⟨rfl, rfl, trivial⟩, ?_⟩; refine ⟨trivial, rfl, rfl, rfl, rfl, rfl, leafR (l := [dropO ((nodeP a a.path).getD []), dropO ((nodeP (dropO ((nodeP a a.path).getD [])) ((nodeP a b.path).getD [])).getD [])]) ?_⟩)
    | fail
  all_goals clear c1 c2 c3 c4 c5 n1 n2 n3 d1 d2 d3 o1 o2 o3 k1 h9
  all_goals try rfl
  all_goals try (exfalso; have hk6 : a.kind = 6 := (by omega); unfold bothEdit at he; simp_all; done)
  all_goals (unfold rowO wonO)
  all_goals try (simp_all; done)
  all_goals first
    | (have hid : shiftedO b a prior = b := shifted_idle b prior ⟨by omega, by omega, by omega⟩; rw [hid]; simp_all; done)
    | (have hne : ¬ b.path = a.path := (by intro e; simp_all); simp_all; done)
    | (cases hw : within b.path a.path with
       | false => simp_all
       | true =>
         have hl := within_len hw
         have hge : a.path.length ≤ b.path.length := by simp_all
         have heq := within_eq hw hge
         simp_all)
set_option pp.maxSteps 300 in
set_option maxHeartbeats 4000000 in
set_option maxRecDepth 100000 in
theorem w_behind12E (b a : OpT) (prior : Bool) (_ : a.Ok) (_ : b.Ok) (sa : soundO a = true) (sb : soundO b = true) (he : bothEdit b a = true) :
    Pure Tryz.prog 183 [opV b, opV a, .bool prior] (fun x => x = .tup [opsV [editO b a prior], .int .i64 (transP b.pieces a.pieces prior).2.2]) := by
  unfold bothEdit at he
  simp only [Bool.and_eq_true, decide_eq_true_eq] at he
  obtain ⟨k1, k2, k3⟩ := he
  have fa : formedB a = true := by unfold soundO at sa; rw [Bool.and_eq_true] at sa; exact sa.1
  have fb : formedB b = true := by unfold soundO at sb; rw [Bool.and_eq_true] at sb; exact sb.1
  have pa := may_len (formed_path fa)
  obtain ⟨l1, l2⟩ := right_bounds (formed_pieces fa k1)
  obtain ⟨l3, l4⟩ := right_bounds (formed_pieces fb k2)
  have ct := w_ref5Trans b.pieces a.pieces prior (by omega) (by omega) l4 l2
  have c1 := w_refSame a.path b.path (by omega)
  rw [decide_eq_true k3] at c1
  have o1 := w_one (editO b a prior)
  have ee : editO b a prior = { b with pieces := (transP b.pieces a.pieces prior).1 } := rfl
  rw [ee] at o1 ⊢
  clear ee
  obtain ⟨⟨r1, r2, e⟩, hr⟩ : ∃ r, transP b.pieces a.pieces prior = r := ⟨_, rfl⟩
  rw [hr] at ct o1 ⊢
  refine pure_fn 100 Tryz.func183 rfl rfl rfl fun B => ?_
  refine ⟨fun g => go 100 ?_, fun g => absurd (by omega) (ne_of g)⟩
  show CallThen _ _ _ _ _ _
  refine call_pure c1 rfl ?_
  rintro x rfl
  refine ⟨fun g => absurd (eq_of g) (by omega), fun _ => go 100 ?_⟩
  refine ⟨fun g => absurd (eq_of g) (by omega), fun _ => go 100 ?_⟩
  refine ⟨fun g => absurd (eq_of g) (by omega), fun _ => go 100 ?_⟩
  refine ⟨fun g => absurd (eq_of g) (by omega), fun _ => go 100 ?_⟩
  refine ⟨fun _ => go 100 ?_, fun g => (by cases g)⟩
  refine ⟨fun g => absurd (eq_of g) (by omega), fun _ => go 100 ?_⟩
  refine ⟨fun _ => go 100 ?_, fun g => (by cases g)⟩
  refine ⟨fun g => absurd (eq_of g) (by omega), fun _ => go 100 ?_⟩
  refine ⟨fun _ => go 100 ?_, fun g => (by cases g)⟩
  refine ⟨fun _ => go 100 ?_, fun g => absurd (by omega) (ne_of g)⟩
  show CallThen _ _ _ _ _ _
  refine call_pure ct rfl ?_
  rintro x rfl
  show CallThen _ _ _ _ _ _
  refine call_pure o1 rfl ?_
  rintro x rfl
  exact ⟨trivial, rfl, rfl, rfl, rfl⟩
end Bow
