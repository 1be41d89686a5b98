/- The library, part 1: AE1, AE2, AE3, AE4, AE5, AE6, AE7, AE8, AE9, AE10. -/
import Derived.Below
import Derived.AtR
import Derived.Laws.Rows
import Derived.Laws.Tables
import Derived.Laws.Entries
import Derived.Laws.CopyRow
import Derived.IntWalk
import Derived.Laws.Strings
import Derived.Laws.Strings2
import Derived.Laws.StructEq
/- AE1: deep values, abstract heaps, what they stand for in a world of the model, and how that is kept over steps. -/
namespace Bow
open Go

/-- A reference into an abstract heap: a number local to one activation, or an absolute name. -/
inductive Ref where
  | loc (k : Nat)
  | abs (n : Nat)
  | bad

/-- Deep values. 'sl': a slice that is only read, as its elements. 'osl': a slice of own memory, of generation g. 'iptr': a pointer to memory that is only read, whose cells are known. 'ptr': into an own row of cells. 'eptr': into an element of own memory. -/
inductive V where
  | int (k : IntKind) (n : Int)
  | bool (b : Bool)
  | tt | ff
  | str (s : List UInt8)
  | sl (sz : Nat) (xs : List V)
  | nilsl
  | osl (r : Ref) (g off len : Nat)
  | iptr (cs : List V) (off : Nat)
  | ptr (r : Ref) (off : Nat)
  | eptr (r : Ref) (g i off : Nat)
  | nilp | nilf | nili
  | agg (cs : List V)
  | tup (vs : List V)
  | fn (f : Fn) (first cap : List V)
  | yld (r : Ref)
  | iface (t : TypeId) (v : V)
  | nilmap
  | undef

abbrev Env := List (Nat × V)

/-- What an own block holds. 'vec': elements of sz cells each, of generation g. 'held': nobody writes there; slices of elements of s cells alone may point there. -/
inductive HObj where
  | box (cs : List V)
  | vec (g sz : Nat) (xs : List V)
  | loop (st : LoopState) (pend : Option Code) (fn : FuncId) (E : Env) (nt : Nat) (ps : Array Tmp) (assign body : Code)
  | dfr
  | held (s : Nat)

abbrev Heap := List (Option HObj)

def V.cells : V → List V
  | .agg cs => cs
  | v => [v]
/-- Of one cell. -/
def V.one : V → Bool
  | .agg _ => false
  | .tup _ => false
  | .undef => false
  | _ => true
def onesB : List V → Bool
  | [] => true
  | v :: vs => v.one && onesB vs
theorem onesB_iff : ∀ vs : List V, onesB vs = true ↔ ∀ v ∈ vs, v.one = true
  | [] => by simp [onesB]
  | v :: vs => by simp [onesB, onesB_iff vs]
/-- An element of so many cells. -/
def okE (sz : Nat) (x : V) : Prop := x.cells.length = sz ∧ onesB x.cells = true

def Ref.conv (m : List Nat) : Ref → Ref
  | .loc k => match m[k]? with
    | some r => .abs r
    | none => .bad
  | .abs n => .abs n
  | .bad => .bad
/-- Each local number is below n. -/
def Ref.sc (n : Nat) : Ref → Prop
  | .loc k => k < n
  | _ => True

theorem Ref.conv_ext {m l : List Nat} {n : Nat} (hn : n ≤ m.length) : ∀ r : Ref, r.sc n → r.conv (m ++ l) = r.conv m
  | .loc k, h => by
    have h : k < n := h
    simp only [Ref.conv]
    rw [List.getElem?_append_left (by omega)]
  | .abs _, _ => rfl
  | .bad, _ => rfl

mutual
def V.conv (m : List Nat) : V → V
  | .osl r g o l => .osl (r.conv m) g o l
  | .ptr r o => .ptr (r.conv m) o
  | .eptr r g i o => .eptr (r.conv m) g i o
  | .agg cs => .agg (V.convL m cs)
  | .tup vs => .tup (V.convL m vs)
  | .fn f a c => .fn f (V.convL m a) (V.convL m c)
  | .yld r => .yld (r.conv m)
  | .iface t v => .iface t (v.conv m)
  | .int k n => .int k n
  | .bool b => .bool b
  | .tt => .tt
  | .ff => .ff
  | .str s => .str s
  | .sl s xs => .sl s xs
  | .nilsl => .nilsl
  | .iptr cs o => .iptr cs o
  | .nilp => .nilp
  | .nilf => .nilf
  | .nili => .nili
  | .nilmap => .nilmap
  | .undef => .undef
def V.convL (m : List Nat) : List V → List V
  | [] => []
  | v :: vs => v.conv m :: V.convL m vs
end
mutual
def V.sc (n : Nat) : V → Prop
  | .osl r _ _ _ => r.sc n
  | .ptr r _ => r.sc n
  | .eptr r _ _ _ => r.sc n
  | .agg cs => V.scL n cs
  | .tup vs => V.scL n vs
  | .fn _ a c => V.scL n a ∧ V.scL n c
  | .yld r => r.sc n
  | .iface _ v => v.sc n
  | _ => True
def V.scL (n : Nat) : List V → Prop
  | [] => True
  | v :: vs => v.sc n ∧ V.scL n vs
end
theorem V.convL_eq (m : List Nat) : ∀ vs, V.convL m vs = vs.map (V.conv m)
  | [] => rfl
  | v :: vs => by rw [V.convL, V.convL_eq m vs]; rfl

mutual
theorem V.conv_ext {m l : List Nat} {n : Nat} (hn : n ≤ m.length) : ∀ v : V, v.sc n → v.conv (m ++ l) = v.conv m
  | .osl r _ _ _, h => by simp only [V.conv, r.conv_ext hn h]
  | .ptr r _, h => by simp only [V.conv, r.conv_ext hn h]
  | .eptr r _ _ _, h => by simp only [V.conv, r.conv_ext hn h]
  | .yld r, h => by simp only [V.conv, r.conv_ext hn h]
  | .agg cs, h => by simp only [V.conv, V.convL_ext hn cs h]
  | .tup cs, h => by simp only [V.conv, V.convL_ext hn cs h]
  | .fn _ a c, h => by simp only [V.conv, V.convL_ext hn a h.1, V.convL_ext hn c h.2]
  | .iface _ v, h => by simp only [V.conv, v.conv_ext hn h]
  | .int .., _ | .bool _, _ | .tt, _ | .ff, _ | .str _, _ | .sl .., _ | .nilsl, _ | .iptr .., _ | .nilp, _ | .nilf, _ | .nili, _ | .nilmap, _ | .undef, _ => rfl
theorem V.convL_ext {m l : List Nat} {n : Nat} (hn : n ≤ m.length) : ∀ vs : List V, V.scL n vs → V.convL (m ++ l) vs = V.convL m vs
  | [], _ => rfl
  | v :: vs, h => by simp only [V.convL, v.conv_ext hn h.1, V.convL_ext hn vs h.2]
end
mutual
theorem V.sc_mono {n n' : Nat} (hn : n ≤ n') : ∀ v : V, v.sc n → v.sc n'
  | .osl r _ _ _, h | .ptr r _, h | .eptr r _ _ _, h | .yld r, h => by cases r <;> first | trivial | exact Nat.lt_of_lt_of_le h hn
  | .agg cs, h | .tup cs, h => V.scL_mono hn cs h
  | .fn _ a c, h => ⟨V.scL_mono hn a h.1, V.scL_mono hn c h.2⟩
  | .iface _ v, h => v.sc_mono hn h
  | .int .., _ | .bool _, _ | .tt, _ | .ff, _ | .str _, _ | .sl .., _ | .nilsl, _ | .iptr .., _ | .nilp, _ | .nilf, _ | .nili, _ | .nilmap, _ | .undef, _ => trivial
theorem V.scL_mono {n n' : Nat} (hn : n ≤ n') : ∀ vs : List V, V.scL n vs → V.scL n' vs
  | [], _ => trivial
  | v :: vs, h => ⟨v.sc_mono hn h.1, V.scL_mono hn vs h.2⟩
end
theorem V.scL_iff (n : Nat) : ∀ vs : List V, V.scL n vs ↔ ∀ v ∈ vs, v.sc n
  | [] => by simp [V.scL]
  | v :: vs => by simp [V.scL, V.scL_iff n vs]

def Env.conv (m : List Nat) (E : Env) : Env := E.map fun p => (p.1, p.2.conv m)

def HObj.conv (m : List Nat) : HObj → HObj
  | .box cs => .box (V.convL m cs)
  | .vec g sz xs => .vec g sz xs
  | .loop st pe fn E nt ps asg bo => .loop st pe fn (Env.conv m E) nt ps asg bo
  | .dfr => .dfr
  | .held s => .held s

def HObj.sc (n : Nat) : HObj → Prop
  | .box cs => V.scL n cs
  | .loop _ _ _ E _ _ _ _ => ∀ p ∈ E, p.2.sc n
  | _ => True
theorem HObj.conv_ext {m l : List Nat} {n : Nat} (hn : n ≤ m.length) : ∀ o : HObj, o.sc n → o.conv (m ++ l) = o.conv m
  | .box cs, h => by simp only [HObj.conv, V.convL_ext hn cs h]
  | .vec .., _ => rfl
  | .dfr, _ => rfl
  | .held _, _ => rfl
  | .loop _ _ _ E _ _ _ _, h => by
    simp only [HObj.conv, Env.conv, HObj.loop.injEq, true_and, and_true]
    exact List.map_congr_left fun p hp => by rw [V.conv_ext hn p.2 (h p hp)]
theorem HObj.sc_mono {n n' : Nat} (hn : n ≤ n') : ∀ o : HObj, o.sc n → o.sc n'
  | .box cs, h => V.scL_mono hn cs h
  | .vec .., _ => trivial
  | .dfr, _ => trivial
  | .held _, _ => trivial
  | .loop _ _ _ _ _ _ _ _, h => fun p hp => V.sc_mono hn p.2 (h p hp)

def lk : Env → Nat → V
  | [], _ => .undef
  | (k, v) :: E, n => bif Nat.beq k n then v else lk E n

theorem lk_conv (m : List Nat) : ∀ (E : Env) (n : Nat), lk (Env.conv m E) n = (lk E n).conv m
  | [], _ => by simp [Env.conv, lk, V.conv]
  | (k, v) :: E, n => by
    have ih := lk_conv m E n
    unfold Env.conv at ih
    simp only [Env.conv, List.map_cons, lk]
    cases Nat.beq k n <;> simp [ih]

/-- Where an own object lies: nowhere yet; behind a nil slice; a block of N cells. -/
inductive Loc where
  | none
  | nil
  | blk (b N : Nat)

def live (H : Heap) (r : Nat) : Prop := ∃ o, H[r]? = some (some o)
def isSeal : HObj → Prop
  | .held _ => True
  | _ => False
/-- .. which may be written. -/
def open' (H : Heap) (r : Nat) : Prop := ∃ o, H[r]? = some (some o) ∧ ¬ isSeal o
def ownB (β : Nat → Loc) (H : Heap) (b : Nat) : Prop := ∃ r N, open' H r ∧ β r = .blk b N
/-- Slices of elements of sz cells may point there. -/
def freeB (β : Nat → Loc) (H : Heap) (b sz : Nat) : Prop := ¬ ownB β H b ∧ ∀ r s N, H[r]? = some (some (.held s)) → β r = .blk b N → s = sz

/-- What a deep value stands for. -/
inductive Rep (w : World) (β : Nat → Loc) (H : Heap) : V → Value → Prop
  | int (k n) : Rep w β H (.int k n) (.int k n)
  | bool (b) : Rep w β H (.bool b) (.bool b)
  | tt : Rep w β H .tt (.bool true)
  | ff : Rep w β H .ff (.bool false)
  | str (s) (h : s.length ≤ maxLen) : Rep w β H (.str s) (.string ⟨s.toArray⟩)
  | nilsl : Rep w β H .nilsl (.slice none 0 0)
  | nilp : Rep w β H .nilp (.pointer none)
  | nilf : Rep w β H .nilf .nilFunc
  | nili : Rep w β H .nili .nilIface
  | nilmap : Rep w β H .nilmap (.map none)
  | undef (v) : Rep w β H .undef v
  | sl (sz : Nat) (xs : List V) (a : Option Addr) (cap : Nat) (vals : Nat → Value) (hcap : xs.length ≤ cap) (hmax : cap ≤ maxLen)
      (hsz : ∀ x ∈ xs, okE sz x)
      (ha : xs ≠ [] → ∃ ad, a = some ad ∧ freeB β H ad.block sz ∧ ad.block < w.heap.size ∧ ∀ j, j < xs.length * sz → w.cell? (ad.add j) = some (vals j))
      (hr : ∀ (i : Nat) (x : V) (j : Nat) (c : V), xs[i]? = some x → x.cells[j]? = some c → Rep w β H c (vals (i * sz + j))) : Rep w β H (.sl sz xs) (.slice a xs.length cap)
  | iptr (cs : List V) (off : Nat) (ad : Addr) (vals : Nat → Value) (hown : ¬ ownB β H ad.block) (hlt : ad.block < w.heap.size)
      (hc : ∀ j, j < cs.length → w.cell? (ad.add j) = some (vals j))
      (hr : ∀ (j : Nat) (c : V), cs[j]? = some c → Rep w β H c (vals j)) : Rep w β H (.iptr cs off) (.pointer (some (ad.add off)))
  | ptrLive (r off b N cs) (hH : H[r]? = some (some (.box cs))) (hβ : β r = .blk b N) : Rep w β H (.ptr (.abs r) off) (.pointer (some ⟨b, off, none⟩))
  | ptrDead (r off v) (hd : H[r]? = some none) (hv : v.oneCell' = true) : Rep w β H (.ptr (.abs r) off) v
  | oslNil (r g sz xs a) (hH : H[r]? = some (some (.vec g sz xs))) (hβ : β r = .nil) : Rep w β H (.osl (.abs r) g 0 0) (.slice a 0 0)
  | oslBlk (r g off len sz xs b N a cap) (hH : H[r]? = some (some (.vec g sz xs))) (hβ : β r = .blk b N) (hl : len ≤ cap) (hN : (off + cap) * sz ≤ N) (hcap : off + cap ≤ maxLen)
      (ha : 0 < cap → a = some ⟨b, off * sz, none⟩) (hlen : off + len ≤ xs.length) : Rep w β H (.osl (.abs r) g off len) (.slice a len cap)
  | oslStale (r g off len g' sz xs v) (hH : H[r]? = some (some (.vec g' sz xs))) (hg : g < g') (hv : v.oneCell' = true) : Rep w β H (.osl (.abs r) g off len) v
  | oslDead (r g off len v) (hd : H[r]? = some none) (hv : v.oneCell' = true) : Rep w β H (.osl (.abs r) g off len) v
  | eptrLive (r g i off sz xs b N) (hH : H[r]? = some (some (.vec g sz xs))) (hβ : β r = .blk b N) (hi : i < xs.length) : Rep w β H (.eptr (.abs r) g i off) (.pointer (some ⟨b, i * sz + off, none⟩))
  | eptrStale (r g i off g' sz xs v) (hH : H[r]? = some (some (.vec g' sz xs))) (hg : g < g') (hv : v.oneCell' = true) : Rep w β H (.eptr (.abs r) g i off) v
  | eptrDead (r g i off v) (hd : H[r]? = some none) (hv : v.oneCell' = true) : Rep w β H (.eptr (.abs r) g i off) v
  | agg (cs : List V) (vs : Array Value) (hl : cs.length = vs.size) (h : ∀ (j : Nat) (c : V) (v : Value), cs[j]? = some c → vs[j]? = some v → Rep w β H c v) : Rep w β H (.agg cs) (.agg vs)
  | tup (cs : List V) (vs : Array Value) (hl : cs.length = vs.size) (h : ∀ (j : Nat) (c : V) (v : Value), cs[j]? = some c → vs[j]? = some v → Rep w β H c v) : Rep w β H (.tup cs) (.tuple vs)
  | fn (f : Fn) (a c : List V) (va vc : Array Value) (hla : a.length = va.size) (hlc : c.length = vc.size)
      (h1 : ∀ (j : Nat) (x : V) (v : Value), a[j]? = some x → va[j]? = some v → Rep w β H x v)
      (h2 : ∀ (j : Nat) (x : V) (v : Value), c[j]? = some x → vc[j]? = some v → Rep w β H x v) : Rep w β H (.fn f a c) (.func f va vc)
  | yldLive (r b N st pe fn E nt ps asg bo) (hH : H[r]? = some (some (.loop st pe fn E nt ps asg bo))) (hβ : β r = .blk b N) : Rep w β H (.yld (.abs r)) (.func (.yield b) #[] #[])
  | yldDead (r v) (hd : H[r]? = some none) (hv : v.oneCell' = true) : Rep w β H (.yld (.abs r)) v
  | iface (t : TypeId) (x : V) (v : Value) (h : Rep w β H x v) : Rep w β H (.iface t x) (.iface t v)

/-- A generation that is odd names its row's type, too. -/
def tyG (g : Nat) (e : TypeId) : Prop := g % 2 = 1 → e = g / 2 % 1048576
/-- The next generation that names none. -/
def bump (g : Nat) : Nat := 2 * (g / 2) + 2
theorem lt_bump (g : Nat) : g < bump g := by unfold bump; omega
theorem tyG_bump (g e : Nat) : tyG (bump g) e := fun h => by unfold bump at h; omega
theorem tyG_zero (e : Nat) : tyG 0 e := fun h => by omega
theorem tyG_two (e : Nat) : tyG 2 e := fun h => by omega

def ORel (w : World) (β : Nat → Loc) (H : Heap) : Loc → HObj → Prop
  | .none, .vec _ sz _ => sz = 0
  | .none, _ => True
  | .nil, .vec _ _ xs => xs = []
  | .nil, .held _ => True
  | .nil, _ => False
  | .blk b N, .box cs => ∃ vs e, w.heap[b]? = some (.cells vs e (0, 0)) ∧ vs.size = N ∧ cs.length = N ∧
      ∀ (j : Nat) (c : V) (v : Value), cs[j]? = some c → vs[j]? = some v → Rep w β H c v
  | .blk b N, .vec g sz xs => ∃ vs e, tyG g e ∧ w.heap[b]? = some (.cells vs e (0, 0)) ∧ vs.size = N ∧ xs.length * sz ≤ N ∧ 0 < sz ∧ (∀ x ∈ xs, okE sz x) ∧
      ∀ (i : Nat) (x : V) (j : Nat) (c : V) (v : Value), xs[i]? = some x → x.cells[j]? = some c → vs[i * sz + j]? = some v → Rep w β H c v
  | .blk b _, .loop st pe fn E nt ps asg bo => ∃ (tmps : Array Value) (db : Nat), w.heap[b]? = some (.loop { state := st, pending := pe, fn := fn, tmps := tmps, params := ps, assign := asg, body := bo, defers := db }) ∧
      tmps.size = nt ∧ ∀ k, Rep w β H (lk E k) (tmps.getD k Go.undef)
  | .blk b _, .dfr => w.heap[b]? = some (.deferred (some []))
  | .blk b _, .held _ => b < w.heap.size

structure HRel (w : World) (β : Nat → Loc) (H : Heap) : Prop where
  obj : ∀ r o, H[r]? = some (some o) → ORel w β H (β r) o
  inj : ∀ r r' b N N', live H r → live H r' → β r = .blk b N → β r' = .blk b N' → r = r'

/-- How an entry may turn. -/
def Evo : HObj → HObj → Prop
  | .box _, .box _ => True
  | .vec g sz xs, .vec g' sz' xs' => g ≤ g' ∧ (g = g' → sz = sz' ∧ xs.length = xs'.length)
  | .loop .., .loop .. => True
  | .dfr, .dfr => True
  | .held s, .held s' => s = s'
  | _, _ => False
def SameGen : HObj → HObj → Prop
  | .vec g _ _, .vec g' _ _ => g = g'
  | _, _ => True

def isLoop : HObj → Prop
  | .loop .. => True
  | _ => False
/-- A dead name, or a loop's: its place stays. -/
def Fixed (H : Heap) (r : Nat) : Prop := H[r]? = some none ∨ ∃ o, H[r]? = some (some o) ∧ isLoop o

structure Fr0 (w : World) (β : Nat → Loc) (H : Heap) (w' : World) (β' : Nat → Loc) (H' : Heap) : Prop where
  os : w'.os = w.os
  tape : w'.tape = w.tape
  output : w'.output = w.output
  size : w.heap.size ≤ w'.heap.size
  len : H.length ≤ H'.length
  evo : ∀ r o', r < H.length → H'[r]? = some (some o') → ∃ o, H[r]? = some (some o) ∧ Evo o o' ∧ (β r ≠ .none → SameGen o o' → β' r = β r)
  keep : ∀ b, b < w.heap.size → ¬ ownB β H b → w'.heap[b]? = w.heap[b]?
  fresh : ∀ b, ownB β' H' b → w.heap.size ≤ b ∨ ownB β H b
  fix : ∀ r, Fixed H r → β' r = β r
  seals : ∀ r s, H'[r]? = some (some (.held s)) → H[r]? = some (some (.held s)) ∧ β' r = β r
/-- The same, and what lies nowhere yet stays so. -/
structure Fr (w : World) (β : Nat → Loc) (H : Heap) (w' : World) (β' : Nat → Loc) (H' : Heap) : Prop extends Fr0 w β H w' β' H' where
  virt : ∀ r, r < H.length → β r = .none → β' r = .none

theorem Evo.refl (o : HObj) : Evo o o := by cases o <;> simp [Evo]
theorem Evo.trans {a b c : HObj} (h : Evo a b) (k : Evo b c) : Evo a c := by
  cases a <;> cases b <;> first | exact h.elim | skip
  all_goals (cases c <;> first | exact k.elim | skip)
  all_goals first | trivial | exact Eq.trans (show _ = _ from h) (show _ = _ from k) | skip
  rename_i g sz xs g' sz' xs' g'' sz'' xs''
  obtain ⟨h1, h2⟩ := h
  obtain ⟨k1, k2⟩ := k
  refine ⟨Nat.le_trans h1 k1, fun e => ?_⟩
  have e1 : g = g' := by omega
  have e2 : g' = g'' := by omega
  obtain ⟨p, q⟩ := h2 e1
  obtain ⟨p', q'⟩ := k2 e2
  exact ⟨p.trans p', q.trans q'⟩
theorem SameGen.split {a b c : HObj} (h : Evo a b) (k : Evo b c) (s : SameGen a c) : SameGen a b ∧ SameGen b c := by
  cases a <;> cases b <;> first | exact h.elim | skip
  all_goals (cases c <;> first | exact k.elim | skip)
  all_goals first | exact ⟨trivial, trivial⟩ | skip
  rename_i g sz xs g' sz' xs' g'' sz'' xs''
  obtain ⟨h1, h2⟩ := h
  obtain ⟨k1, k2⟩ := k
  have s' : g = g'' := s
  exact ⟨show g = g' by omega, show g' = g'' by omega⟩

theorem lt_of_get {α : Type} {l : List α} {r : Nat} {x : α} (h : l[r]? = some x) : r < l.length := (List.getElem?_eq_some_iff.1 h).1

section
variable {w w' w'' : World} {β β' β'' : Nat → Loc} {H H' H'' : Heap}

theorem Fr0.refl (w : World) (β : Nat → Loc) (H : Heap) : Fr0 w β H w β H :=
  ⟨rfl, rfl, rfl, Nat.le_refl _, Nat.le_refl _, fun _ o' _ h => ⟨o', h, Evo.refl _, fun _ _ => rfl⟩, fun _ _ _ => rfl, fun _ h => .inr h, fun _ _ => rfl, fun _ _ h => ⟨h, rfl⟩⟩

theorem Fr0.fixed (h : Fr0 w β H w' β' H') {r : Nat} (hr : Fixed H r) : Fixed H' r := by
  have hl : r < H.length := by
    rcases hr with h1 | ⟨o, h1, _⟩
    · exact lt_of_get h1
    · exact lt_of_get h1
  have hl' := Nat.lt_of_lt_of_le hl h.len
  cases hx : H'[r] with
  | none => exact .inl (by rw [List.getElem?_eq_getElem hl', hx])
  | some o' =>
    have h1 : H'[r]? = some (some o') := by rw [List.getElem?_eq_getElem hl', hx]
    obtain ⟨o, ho, he, _⟩ := h.evo r o' hl h1
    rcases hr with h2 | ⟨o2, h2, h3⟩
    · rw [h2] at ho; cases ho
    · rw [h2] at ho
      injection ho with ho
      injection ho with ho
      subst ho
      refine .inr ⟨o', h1, ?_⟩
      cases o2 <;> first | exact h3.elim | skip
      cases o' <;> first | exact he.elim | trivial

theorem Fr0.trans (h : Fr0 w β H w' β' H') (k : Fr0 w' β' H' w'' β'' H'') : Fr0 w β H w'' β'' H'' := by
  refine ⟨k.os.trans h.os, k.tape.trans h.tape, k.output.trans h.output, Nat.le_trans h.size k.size, Nat.le_trans h.len k.len, ?_, ?_, ?_, fun r hr => (k.fix r (h.fixed hr)).trans (h.fix r hr), fun r s hs => ⟨(h.seals r s (k.seals r s hs).1).1, (k.seals r s hs).2.trans (h.seals r s (k.seals r s hs).1).2⟩⟩
  · intro r o'' hr ho''
    obtain ⟨o', ho', e2, b2⟩ := k.evo r o'' (Nat.lt_of_lt_of_le hr h.len) ho''
    obtain ⟨o, ho, e1, b1⟩ := h.evo r o' hr ho'
    refine ⟨o, ho, e1.trans e2, fun hn hs => ?_⟩
    obtain ⟨s1, s2⟩ := SameGen.split e1 e2 hs
    have q1 := b1 hn s1
    have q2 := b2 (by rw [q1]; exact hn) s2
    exact q2.trans q1
  · intro b hb hno
    have hno' : ¬ ownB β' H' b := fun hx => by
      rcases h.fresh b hx with h1 | h1
      · omega
      · exact hno h1
    exact (k.keep b (Nat.lt_of_lt_of_le hb h.size) hno').trans (h.keep b hb hno)
  · intro b hb
    rcases k.fresh b hb with h1 | h1
    · exact .inl (Nat.le_trans h.size h1)
    · exact h.fresh b h1

theorem Fr0.notOwn (h : Fr0 w β H w' β' H') {b : Nat} (hb : b < w.heap.size) (hno : ¬ ownB β H b) : ¬ ownB β' H' b := fun hx => by
  rcases h.fresh b hx with h1 | h1
  · omega
  · exact hno h1

theorem Fr0.free (h : Fr0 w β H w' β' H') {b sz : Nat} (hb : b < w.heap.size) (hf : freeB β H b sz) : freeB β' H' b sz :=
  ⟨h.notOwn hb hf.1, fun r s N hs hβ => hf.2 r s N (h.seals r s hs).1 ((h.seals r s hs).2.symm.trans hβ)⟩

theorem Fr0.at (h : Fr0 w β H w' β' H') {r : Nat} {o : HObj} (ho : H[r]? = some (some o)) : H'[r]? = some none ∨ ∃ o', H'[r]? = some (some o') ∧ Evo o o' ∧ (β r ≠ .none → SameGen o o' → β' r = β r) := by
  have hr := lt_of_get ho
  have hr' := Nat.lt_of_lt_of_le hr h.len
  cases hx : H'[r] with
  | none => exact .inl (by rw [List.getElem?_eq_getElem hr', hx])
  | some o' =>
    have h1 : H'[r]? = some (some o') := by rw [List.getElem?_eq_getElem hr', hx]
    obtain ⟨o1, ho1, e, hb⟩ := h.evo r o' hr h1
    rw [ho] at ho1
    injection ho1 with ho1
    injection ho1 with ho1
    subst ho1
    exact .inr ⟨o', h1, e, hb⟩

theorem Fr0.dead (h : Fr0 w β H w' β' H') {r : Nat} (hd : H[r]? = some none) : H'[r]? = some none := by
  have hr := lt_of_get hd
  have hr' := Nat.lt_of_lt_of_le hr h.len
  cases hx : H'[r] with
  | none => rw [List.getElem?_eq_getElem hr', hx]
  | some o' =>
    obtain ⟨o1, ho1, _⟩ := h.evo r o' hr (by rw [List.getElem?_eq_getElem hr', hx])
    rw [hd] at ho1
    cases ho1

theorem Rep.mono0 {v : V} {x : Value} (h : Rep w β H v x) (f : Fr0 w β H w' β' H') : Rep w' β' H' v x := by
  induction h with
  | int k n => exact .int k n
  | bool b => exact .bool b
  | tt => exact .tt
  | ff => exact .ff
  | str s h => exact .str s h
  | nilsl => exact .nilsl
  | nilp => exact .nilp
  | nilf => exact .nilf
  | nili => exact .nili
  | nilmap => exact .nilmap
  | undef v => exact .undef v
  | sl sz xs a cap vals hcap hmax hsz ha hr ih =>
    refine .sl sz xs a cap vals hcap hmax hsz (fun hne => ?_) (fun i x j c h1 h2 => ih i x j c h1 h2)
    obtain ⟨ad, e, h1, h2, h3⟩ := ha hne
    refine ⟨ad, e, f.free h2 h1, Nat.lt_of_lt_of_le h2 f.size, fun j hj => ?_⟩
    rw [← h3 j hj]
    refine World.cell?_of_block ?_
    have hb : (ad.add j).block = ad.block := by unfold Addr.add; split <;> rfl
    rw [hb]
    exact f.keep _ h2 h1.1
  | iptr cs off ad vals hown hlt hc hr ih =>
    refine .iptr cs off ad vals (f.notOwn hlt hown) (Nat.lt_of_lt_of_le hlt f.size) (fun j hj => ?_) (fun j c h1 => ih j c h1)
    rw [← hc j hj]
    refine World.cell?_of_block ?_
    have hb : (ad.add j).block = ad.block := by unfold Addr.add; split <;> rfl
    rw [hb]
    exact f.keep _ hlt hown
  | ptrLive r off b N cs hH hβ =>
    rcases f.at hH with hd | ⟨o', ho', e, hb⟩
    · exact .ptrDead _ _ _ hd rfl
    · cases o' <;> first | exact e.elim | skip
      exact .ptrLive r off b N _ ho' ((hb (by rw [hβ]; simp) trivial).trans hβ)
  | ptrDead r off v hd hv => exact .ptrDead _ _ _ (f.dead hd) hv
  | oslNil r g sz xs a hH hβ =>
    rcases f.at hH with hd | ⟨o', ho', e, hb⟩
    · exact .oslDead _ _ _ _ _ hd (by first | rfl | assumption)
    · cases o' <;> first | exact e.elim | skip
      rename_i g' sz' xs'
      obtain ⟨h1, h2⟩ := e
      rcases Nat.lt_or_ge g g' with hlt | hge
      · exact .oslStale _ _ _ _ _ _ _ _ ho' hlt rfl
      · obtain rfl : g = g' := by omega
        exact .oslNil r g _ _ a ho' ((hb (by rw [hβ]; simp) rfl).trans hβ)
  | oslBlk r g off len sz xs b N a cap hH hβ hl hN hcap ha hlen =>
    rcases f.at hH with hd | ⟨o', ho', e, hb⟩
    · exact .oslDead _ _ _ _ _ hd (by first | rfl | assumption)
    · cases o' <;> first | exact e.elim | skip
      rename_i g' sz' xs'
      obtain ⟨h1, h2⟩ := e
      rcases Nat.lt_or_ge g g' with hlt | hge
      · exact .oslStale _ _ _ _ _ _ _ _ ho' hlt rfl
      · obtain rfl : g = g' := by omega
        obtain ⟨rfl, hle⟩ := h2 rfl
        exact .oslBlk r g off len sz _ b N a cap ho' ((hb (by rw [hβ]; simp) rfl).trans hβ) hl hN hcap ha (by omega)
  | oslStale r g off len g' sz xs v hH hg hv =>
    rcases f.at hH with hd | ⟨o', ho', e, hb⟩
    · exact .oslDead _ _ _ _ _ hd (by first | rfl | assumption)
    · cases o' <;> first | exact e.elim | skip
      exact .oslStale _ _ _ _ _ _ _ _ ho' (Nat.lt_of_lt_of_le hg e.1) hv
  | oslDead r g off len v hd hv => exact .oslDead _ _ _ _ _ (f.dead hd) hv
  | eptrLive r g i off sz xs b N hH hβ hi =>
    rcases f.at hH with hd | ⟨o', ho', e, hb⟩
    · exact .eptrDead _ _ _ _ _ hd (by first | rfl | assumption)
    · cases o' <;> first | exact e.elim | skip
      rename_i g' sz' xs'
      obtain ⟨h1, h2⟩ := e
      rcases Nat.lt_or_ge g g' with hlt | hge
      · exact .eptrStale _ _ _ _ _ _ _ _ ho' hlt rfl
      · obtain rfl : g = g' := by omega
        obtain ⟨rfl, hle⟩ := h2 rfl
        exact .eptrLive r g i off sz _ b N ho' ((hb (by rw [hβ]; simp) rfl).trans hβ) (by omega)
  | eptrStale r g i off g' sz xs v hH hg hv =>
    rcases f.at hH with hd | ⟨o', ho', e, hb⟩
    · exact .eptrDead _ _ _ _ _ hd (by first | rfl | assumption)
    · cases o' <;> first | exact e.elim | skip
      exact .eptrStale _ _ _ _ _ _ _ _ ho' (Nat.lt_of_lt_of_le hg e.1) hv
  | eptrDead r g i off v hd hv => exact .eptrDead _ _ _ _ _ (f.dead hd) hv
  | agg cs vs hl h ih => exact .agg cs vs hl ih
  | tup cs vs hl h ih => exact .tup cs vs hl ih
  | fn fn a c va vc hla hlc h1 h2 ih1 ih2 => exact .fn fn a c va vc hla hlc ih1 ih2
  | yldLive r b N st pe fn E nt ps asg bo hH hβ =>
    rcases f.at hH with hd | ⟨o', ho', e, hb⟩
    · exact .yldDead _ _ hd rfl
    · cases o' <;> first | exact e.elim | skip
      exact .yldLive r b N _ _ _ _ _ _ _ _ ho' ((hb (by rw [hβ]; simp) trivial).trans hβ)
  | yldDead r v hd hv => exact .yldDead _ _ (f.dead hd) hv
  | iface t x v h ih => exact .iface t x v ih
theorem Fr.refl (w : World) (β : Nat → Loc) (H : Heap) : Fr w β H w β H := ⟨Fr0.refl w β H, fun _ _ h => h⟩
theorem Fr.trans (h : Fr w β H w' β' H') (k : Fr w' β' H' w'' β'' H'') : Fr w β H w'' β'' H'' :=
  ⟨h.toFr0.trans k.toFr0, fun r hr hn => k.virt r (Nat.lt_of_lt_of_le hr h.len) (h.virt r hr hn)⟩
theorem Rep.mono {v : V} {x : Value} (h : Rep w β H v x) (f : Fr w β H w' β' H') : Rep w' β' H' v x := h.mono0 f.toFr0
end

mutual
theorem sc_of_rep {w : World} {β : Nat → Loc} {H : Heap} {m : List Nat} : ∀ (v : V) {x : Value}, Rep w β H (v.conv m) x → v.sc m.length
  | .osl r _ _ _, x, h | .ptr r _, x, h | .eptr r _ _ _, x, h | .yld r, x, h => by
    cases r with
    | loc k =>
      simp only [V.conv, Ref.conv] at h
      cases hk : m[k]? with
      | none => rw [hk] at h; cases h
      | some r => exact lt_of_get hk
    | abs n => trivial
    | bad => trivial
  | .agg cs, x, h => by
    simp only [V.conv] at h
    cases h with
    | agg _ vs hl h => exact scL_of_rep cs vs (by rw [V.convL_eq] at hl; simpa using hl) h
  | .tup cs, x, h => by
    simp only [V.conv] at h
    cases h with
    | tup _ vs hl h => exact scL_of_rep cs vs (by rw [V.convL_eq] at hl; simpa using hl) h
  | .fn _ a c, x, h => by
    simp only [V.conv] at h
    cases h with
    | fn _ _ _ va vc hla hlc h1 h2 => exact ⟨scL_of_rep a va (by rw [V.convL_eq] at hla; simpa using hla) h1, scL_of_rep c vc (by rw [V.convL_eq] at hlc; simpa using hlc) h2⟩
  | .iface _ v, x, h => by
    simp only [V.conv] at h
    cases h with
    | iface _ _ _ h => exact sc_of_rep v h
  | .int .., _, _ | .bool _, _, _ | .tt, _, _ | .ff, _, _ | .str _, _, _ | .sl .., _, _ | .nilsl, _, _ | .iptr .., _, _ | .nilp, _, _ | .nilf, _, _ | .nili, _, _ | .nilmap, _, _ | .undef, _, _ => trivial
theorem scL_of_rep {w : World} {β : Nat → Loc} {H : Heap} {m : List Nat} : ∀ (cs : List V) (vs : Array Value), cs.length = vs.size →
    (∀ (j : Nat) (c : V) (v : Value), (V.convL m cs)[j]? = some c → vs[j]? = some v → Rep w β H c v) → V.scL m.length cs
  | [], _, _, _ => trivial
  | c :: cs, vs, hl, h => by
    have h0 : 0 < vs.size := by simp at hl; omega
    refine ⟨sc_of_rep c (h 0 _ vs[0] rfl (Array.getElem?_eq_getElem h0)), ?_⟩
    refine scL_of_rep cs (vs.extract 1 vs.size) (by simp at hl ⊢; omega) fun j c' v hj hv => h (j + 1) c' v (by simpa [V.convL] using hj) ?_
    rw [Array.getElem?_extract] at hv
    split at hv
    · rw [Nat.add_comm]; exact hv
    · cases hv
end
end Bow
/- AE2: the steps that an abstract heap takes with the world: a new block, a store into an own row of cells, an object let go, a nil slice taken for own memory. -/
namespace Bow
open Go

theorem Fixed.lt {H : Heap} {r : Nat} (h : Fixed H r) : r < H.length := by
  rcases h with h | ⟨o, h, _⟩
  · exact lt_of_get h
  · exact lt_of_get h
theorem Fixed.ne {H : Heap} {r q : Nat} {o : HObj} (h : Fixed H r) (ho : H[q]? = some (some o)) (hn : ¬ isLoop o) : r ≠ q := fun e => by
  subst e
  rcases h with h | ⟨o', h, h'⟩
  · rw [ho] at h; cases h
  · rw [ho] at h
    injection h with h
    injection h with h
    subst h
    exact hn h'

def upd (β : Nat → Loc) (r : Nat) (l : Loc) : Nat → Loc := fun x => if x = r then l else β x
theorem upd_same (β : Nat → Loc) (r : Nat) (l : Loc) : upd β r l r = l := by simp [upd]
theorem upd_ne {β : Nat → Loc} {r x : Nat} {l : Loc} (h : x ≠ r) : upd β r l x = β x := by simp [upd, h]

section
variable {w w' w'' : World} {β β' β'' : Nat → Loc} {H H' H'' : Heap}

theorem ORel.mono {l : Loc} {o : HObj} (h : ORel w β H l o) (f : Fr0 w β H w' β' H') (hb : ∀ b N, l = .blk b N → w'.heap[b]? = w.heap[b]?) : ORel w' β' H' l o := by
  cases l with
  | none => cases o <;> exact h
  | nil => cases o <;> exact h
  | blk b N =>
    have hb := hb b N rfl
    cases o with
    | box cs =>
      obtain ⟨vs, e, h1, h2, h3, h4⟩ := h
      exact ⟨vs, e, hb.trans h1, h2, h3, fun j c v hj hv => (h4 j c v hj hv).mono0 f⟩
    | vec g sz xs =>
      obtain ⟨vs, e, h0, h1, h2, h3, h4, h5, h6⟩ := h
      exact ⟨vs, e, h0, hb.trans h1, h2, h3, h4, h5, fun i x j c v hi hj hv => (h6 i x j c v hi hj hv).mono0 f⟩
    | loop st pe fn E nt ps asg bo =>
      obtain ⟨tmps, db, h1, h2, h3⟩ := h
      exact ⟨tmps, db, hb.trans h1, h2, fun k => (h3 k).mono0 f⟩
    | dfr => exact hb.trans h
    | held s => exact Nat.lt_of_lt_of_le h f.size

theorem ORel.lt {b N : Nat} {o : HObj} (h : ORel w β H (.blk b N) o) : b < w.heap.size := by
  have : ∃ x, w.heap[b]? = some x := by
    cases o with
    | box cs => obtain ⟨vs, e, h1, _⟩ := h; exact ⟨_, h1⟩
    | vec g sz xs => obtain ⟨vs, e, _, h1, _⟩ := h; exact ⟨_, h1⟩
    | loop st pe fn E nt ps asg bo => obtain ⟨tmps, db, h1, _⟩ := h; exact ⟨_, h1⟩
    | dfr => exact ⟨_, h⟩
    | held s => exact ⟨_, Array.getElem?_eq_getElem h⟩
  obtain ⟨x, hx⟩ := this
  exact (Array.getElem?_eq_some_iff.1 hx).1

theorem HRel.lt (h : HRel w β H) {r b N : Nat} (hl : live H r) (hb : β r = .blk b N) : b < w.heap.size := by
  obtain ⟨o, ho⟩ := hl
  have := h.obj r o ho
  rw [hb] at this
  exact this.lt

theorem HRel.step0 (h : HRel w β H) (f : Fr0 w β H w' β' H')
    (obj : ∀ r o, H'[r]? = some (some o) → (H[r]? = some (some o) ∧ β' r = β r ∧ ∀ b N, β r = .blk b N → w'.heap[b]? = w.heap[b]?) ∨ ORel w' β' H' (β' r) o)
    (inj : ∀ r r' b N N', live H' r → live H' r' → β' r = .blk b N → β' r' = .blk b N' → r = r') : HRel w' β' H' := by
  refine ⟨fun r o ho => ?_, inj⟩
  rcases obj r o ho with ⟨h1, h2, h3⟩ | h1
  · rw [h2]
    exact ORel.mono (h.obj r o h1) f h3
  · exact h1

theorem HRel.step (h : HRel w β H) (f : Fr w β H w' β' H')
    (obj : ∀ r o, H'[r]? = some (some o) → (H[r]? = some (some o) ∧ β' r = β r ∧ ∀ b N, β r = .blk b N → w'.heap[b]? = w.heap[b]?) ∨ ORel w' β' H' (β' r) o)
    (inj : ∀ r r' b N N', live H' r → live H' r' → β' r = .blk b N → β' r' = .blk b N' → r = r') : HRel w' β' H' := h.step0 f.toFr0 obj inj

/-- A world that parts from another one in draws alone. -/
theorem Fr.of_heap (hh : w'.heap = w.heap) (ho : w'.os = w.os) (ht : w'.tape = w.tape) (hu : w'.output = w.output) : Fr w β H w' β H :=
  ⟨⟨ho, ht, hu, by rw [hh]; exact Nat.le_refl _, Nat.le_refl _, fun _ o' _ h => ⟨o', h, Evo.refl _, fun _ _ => rfl⟩, fun _ _ _ => by rw [hh], fun _ h => .inr h, fun _ _ => rfl, fun _ _ h => ⟨h, rfl⟩⟩, fun _ _ h => h⟩
theorem HRel.of_heap (h : HRel w β H) (hh : w'.heap = w.heap) (ho : w'.os = w.os) (ht : w'.tape = w.tape) (hu : w'.output = w.output) : HRel w' β H :=
  h.step (Fr.of_heap hh ho ht hu) (fun _ _ h1 => .inl ⟨h1, rfl, fun _ _ _ => by rw [hh]⟩) h.inj

theorem get_snoc {α : Type} {l : List α} {y : α} {r : Nat} {x : α} (h : (l ++ [y])[r]? = some x) : (r < l.length ∧ l[r]? = some x) ∨ (r = l.length ∧ x = y) := by
  rcases Nat.lt_trichotomy r l.length with h1 | h1 | h1
  · exact .inl ⟨h1, by rwa [List.getElem?_append_left h1] at h⟩
  · subst h1
    simp at h
    exact .inr ⟨rfl, h.symm⟩
  · rw [List.getElem?_eq_none (by simp; omega)] at h
    cases h

theorem open_snoc {o : Option HObj} {r : Nat} (h : open' (H ++ [o]) r) : (r < H.length ∧ open' H r) ∨ (r = H.length ∧ ∃ x, o = some x) := by
  obtain ⟨x, hx, hn⟩ := h
  rcases get_snoc hx with ⟨h1, h2⟩ | ⟨h1, h2⟩
  · exact .inl ⟨h1, x, h2, hn⟩
  · exact .inr ⟨h1, x, h2.symm⟩
theorem seal_snoc {o : HObj} (ho : ¬ isSeal o) {r s : Nat} (h : (H ++ [some o])[r]? = some (some (.held s))) : r < H.length ∧ H[r]? = some (some (.held s)) := by
  rcases get_snoc h with h1 | ⟨_, h2⟩
  · exact h1
  · injection h2 with h2
    subst h2
    exact absurd trivial ho

theorem live_snoc {o : Option HObj} {r : Nat} (h : live (H ++ [o]) r) : (r < H.length ∧ live H r) ∨ (r = H.length ∧ ∃ x, o = some x) := by
  obtain ⟨x, hx⟩ := h
  rcases get_snoc hx with ⟨h1, h2⟩ | ⟨h1, h2⟩
  · exact .inl ⟨h1, x, h2⟩
  · exact .inr ⟨h1, x, h2.symm⟩

/-- A new object, in a new block of whatever kind. -/
theorem Fr.new (o : HObj) (x : Go.Obj) (N : Nat) (ho : ¬ isSeal o := by exact fun h => h) : Fr w β H (w.alloc x) (upd β H.length (.blk w.heap.size N)) (H ++ [some o]) := by
  refine ⟨⟨rfl, rfl, rfl, by simp, by simp, ?_, ?_, ?_, fun r hr => upd_ne (Nat.ne_of_lt hr.lt), fun r s hs => ⟨(seal_snoc ho hs).2, upd_ne (Nat.ne_of_lt (seal_snoc ho hs).1)⟩⟩, fun r hr hn => by rw [upd_ne (Nat.ne_of_lt hr)]; exact hn⟩
  · intro r o' hr ho'
    rw [List.getElem?_append_left hr] at ho'
    exact ⟨o', ho', Evo.refl _, fun _ _ => upd_ne (Nat.ne_of_lt hr)⟩
  · intro b hb _
    exact RowKit.Below.heap_alloc w x b hb
  · rintro b ⟨r, M, hl, hb⟩
    rcases open_snoc hl with ⟨h1, h2⟩ | ⟨h1, h2⟩
    · rw [upd_ne (Nat.ne_of_lt h1)] at hb
      exact .inr ⟨r, M, h2, hb⟩
    · subst h1
      rw [upd_same] at hb
      injection hb with hb
      exact .inl (by omega)

theorem HRel.new (h : HRel w β H) (o : HObj) (x : Go.Obj) (N : Nat)
    (ho : ORel (w.alloc x) (upd β H.length (.blk w.heap.size N)) (H ++ [some o]) (.blk w.heap.size N) o) (hns : ¬ isSeal o := by exact fun h => h) :
    HRel (w.alloc x) (upd β H.length (.blk w.heap.size N)) (H ++ [some o]) := by
  refine h.step (Fr.new o x N hns) ?_ ?_
  · intro r o' ho'
    rcases get_snoc ho' with ⟨h1, h2⟩ | ⟨h1, h2⟩
    · refine .inl ⟨h2, upd_ne (Nat.ne_of_lt h1), fun b M hb => RowKit.Below.heap_alloc w x b (h.lt ⟨_, h2⟩ hb)⟩
    · subst h1
      injection h2 with h2
      subst h2
      rw [upd_same]
      exact .inr ho
  · intro r r' b M M' hl hl' hb hb'
    rcases live_snoc hl with ⟨h1, h2⟩ | ⟨h1, h2⟩ <;> rcases live_snoc hl' with ⟨k1, k2⟩ | ⟨k1, k2⟩
    · rw [upd_ne (Nat.ne_of_lt h1)] at hb
      rw [upd_ne (Nat.ne_of_lt k1)] at hb'
      exact h.inj r r' b M M' h2 k2 hb hb'
    · subst k1
      rw [upd_ne (Nat.ne_of_lt h1)] at hb
      rw [upd_same] at hb'
      injection hb' with hb'
      have := h.lt h2 hb
      omega
    · subst h1
      rw [upd_ne (Nat.ne_of_lt k1)] at hb'
      rw [upd_same] at hb
      injection hb with hb
      have := h.lt k2 hb'
      omega
    · rw [h1, k1]

/-- A new row of cells. -/
theorem HRel.newBox (h : HRel w β H) (cs : List V) (vs : Array Value) (e : TypeId) (hl : cs.length = vs.size)
    (hr : ∀ (j : Nat) (c : V) (v : Value), cs[j]? = some c → vs[j]? = some v → Rep w β H c v) :
    HRel (w.alloc (.cells vs e)) (upd β H.length (.blk w.heap.size vs.size)) (H ++ [some (.box cs)]) := by
  refine h.new (.box cs) (.cells vs e) vs.size ⟨vs, e, ?_, rfl, hl, fun j c v h1 h2 => (hr j c v h1 h2).mono (Fr.new _ _ _)⟩
  show (w.heap.push _)[w.heap.size]? = _
  simp

theorem HRel.newVec (h : HRel w β H) (g sz : Nat) (xs : List V) (vs : Array Value) (e : TypeId) (hg : tyG g e) (hsz : 0 < sz) (hx : ∀ x ∈ xs, okE sz x) (hl : xs.length * sz ≤ vs.size)
    (hr : ∀ (i : Nat) (x : V) (j : Nat) (c : V) (v : Value), xs[i]? = some x → x.cells[j]? = some c → vs[i * sz + j]? = some v → Rep w β H c v) :
    HRel (w.alloc (.cells vs e)) (upd β H.length (.blk w.heap.size vs.size)) (H ++ [some (.vec g sz xs)]) := by
  refine h.new (.vec g sz xs) (.cells vs e) vs.size ⟨vs, e, hg, ?_, rfl, hl, hsz, hx, fun i x j c v h0 h1 h2 => (hr i x j c v h0 h1 h2).mono (Fr.new _ _ _)⟩
  show (w.heap.push _)[w.heap.size]? = _
  simp

/-- A nil slice, taken for own memory. -/
theorem Fr.newNil (g sz : Nat) : Fr w β H w (upd β H.length .nil) (H ++ [some (.vec g sz [])]) := by
  refine ⟨⟨rfl, rfl, rfl, Nat.le_refl _, by simp, ?_, fun _ _ _ => rfl, ?_, fun r hr => upd_ne (Nat.ne_of_lt hr.lt), fun r s hs => ⟨(seal_snoc (o := .vec g sz []) (fun h => h) hs).2, upd_ne (Nat.ne_of_lt (seal_snoc (o := .vec g sz []) (fun h => h) hs).1)⟩⟩, fun r hr hn => by rw [upd_ne (Nat.ne_of_lt hr)]; exact hn⟩
  · intro r o' hr ho'
    rw [List.getElem?_append_left hr] at ho'
    exact ⟨o', ho', Evo.refl _, fun _ _ => upd_ne (Nat.ne_of_lt hr)⟩
  · rintro b ⟨r, M, hl, hb⟩
    rcases open_snoc hl with ⟨h1, h2⟩ | ⟨h1, h2⟩
    · rw [upd_ne (Nat.ne_of_lt h1)] at hb
      exact .inr ⟨r, M, h2, hb⟩
    · subst h1
      rw [upd_same] at hb
      cases hb
theorem HRel.newNil (h : HRel w β H) (g sz : Nat) : HRel w (upd β H.length .nil) (H ++ [some (.vec g sz [])]) := by
  refine h.step (Fr.newNil g sz) ?_ ?_
  · intro r o' ho'
    rcases get_snoc ho' with ⟨h1, h2⟩ | ⟨h1, h2⟩
    · exact .inl ⟨h2, upd_ne (Nat.ne_of_lt h1), fun _ _ _ => rfl⟩
    · subst h1
      injection h2 with h2
      subst h2
      rw [upd_same]
      exact .inr rfl
  · intro r r' b M M' hl hl' hb hb'
    rcases live_snoc hl with ⟨h1, h2⟩ | ⟨h1, h2⟩ <;> rcases live_snoc hl' with ⟨k1, k2⟩ | ⟨k1, k2⟩
    · rw [upd_ne (Nat.ne_of_lt h1)] at hb
      rw [upd_ne (Nat.ne_of_lt k1)] at hb'
      exact h.inj r r' b M M' h2 k2 hb hb'
    · subst k1
      rw [upd_same] at hb'
      cases hb'
    · subst h1
      rw [upd_same] at hb
      cases hb
    · rw [h1, k1]

theorem get_set_some {α : Type} {l : List α} {r q : Nat} {y x : α} (h : (l.set r y)[q]? = some x) : (q = r ∧ x = y ∧ r < l.length) ∨ (q ≠ r ∧ l[q]? = some x) := by
  by_cases e : q = r
  · subst e
    rw [List.getElem?_set] at h
    simp at h
    exact .inl ⟨rfl, h.2.symm, h.1⟩
  · rw [List.getElem?_set_ne (fun he => e he.symm)] at h
    exact .inr ⟨e, h⟩

/-- An object is let go. -/
theorem Fr.kill (r : Nat) : Fr w β H w β (H.set r none) := by
  refine ⟨⟨rfl, rfl, rfl, Nat.le_refl _, by simp, ?_, fun _ _ _ => rfl, ?_, fun _ _ => rfl, fun q s hs => ⟨?_, rfl⟩⟩, fun _ _ h => h⟩
  · intro q o' _ ho'
    rcases get_set_some ho' with ⟨_, h2, _⟩ | ⟨_, h2⟩
    · cases h2
    · exact ⟨o', h2, Evo.refl _, fun _ _ => rfl⟩
  · rintro b ⟨q, M, ⟨o, hl, hn⟩, hb⟩
    rcases get_set_some hl with ⟨_, h2, _⟩ | ⟨_, h2⟩
    · cases h2
    · exact .inr ⟨q, M, ⟨o, h2, hn⟩, hb⟩
  · rcases get_set_some hs with ⟨_, h2, _⟩ | ⟨_, h2⟩
    · cases h2
    · exact h2
theorem HRel.kill (h : HRel w β H) (r : Nat) : HRel w β (H.set r none) := by
  refine h.step (Fr.kill r) ?_ ?_
  · intro q o ho
    rcases get_set_some ho with ⟨_, h2, _⟩ | ⟨_, h2⟩
    · cases h2
    · exact .inl ⟨h2, rfl, fun _ _ _ => rfl⟩
  · rintro q q' b M M' ⟨o, hl⟩ ⟨o', hl'⟩ hb hb'
    rcases get_set_some hl with ⟨_, h2, _⟩ | ⟨_, h2⟩
    · cases h2
    · rcases get_set_some hl' with ⟨_, k2, _⟩ | ⟨_, k2⟩
      · cases k2
      · exact h.inj q q' b M M' ⟨o, h2⟩ ⟨o', k2⟩ hb hb'

/-- The block of what has been let go. -/
theorem HRel.free (h : HRel w β H) {r b N : Nat} {o : HObj} (hH : H[r]? = some (some o)) (hβ : β r = .blk b N) (sz : Nat) : freeB β (H.set r none) b sz := by
  refine ⟨?_, fun q s N' hq hb => ?_⟩
  · rintro ⟨q, N', ⟨p, hq, _⟩, hb⟩
    rcases get_set_some hq with ⟨_, h2, _⟩ | ⟨e1, e2⟩
    · cases h2
    · exact e1 (h.inj q r b N' N ⟨p, e2⟩ ⟨_, hH⟩ hb hβ)
  · rcases get_set_some hq with ⟨_, h2, _⟩ | ⟨e1, e2⟩
    · cases h2
    · exact (e1 (h.inj q r b N' N ⟨_, e2⟩ ⟨_, hH⟩ hb hβ)).elim
theorem free_none {β : Nat → Loc} {H : Heap} (h : ∀ (r : Nat) (o : HObj), H[r]? ≠ some (some o)) (b sz : Nat) : freeB β H b sz :=
  ⟨fun ⟨r, _, ⟨o, hr, _⟩, _⟩ => h r o hr, fun r _ _ hr => absurd hr (h r _)⟩

/-- An own block's content turns, in the world and in the abstract heap alike. -/
theorem Fr.turn {r b N : Nat} {o o' : HObj} (ho : H[r]? = some (some o)) (hβ : β r = .blk b N) (he : Evo o o') (hos : w'.os = w.os) (ht : w'.tape = w.tape) (hu : w'.output = w.output)
    (hs : w'.heap.size = w.heap.size) (hk : ∀ k, k ≠ b → w'.heap[k]? = w.heap[k]?) (hns : ¬ isSeal o := by exact fun h => h) : Fr w β H w' β (H.set r (some o')) := by
  refine ⟨⟨hos, ht, hu, by rw [hs]; exact Nat.le_refl _, by simp, ?_, ?_, ?_, fun _ _ => rfl, fun q s hs => ⟨?_, rfl⟩⟩, fun _ _ h => h⟩
  · intro q p _ hp
    rcases get_set_some hp with ⟨h1, h2, _⟩ | ⟨_, h2⟩
    · injection h2 with h2
      subst h1 h2
      exact ⟨o, ho, he, fun _ _ => rfl⟩
    · exact ⟨p, h2, Evo.refl _, fun _ _ => rfl⟩
  · intro k _ hno
    refine hk k (fun e => hno ?_)
    subst e
    exact ⟨r, N, ⟨o, ho, hns⟩, hβ⟩
  · rintro k ⟨q, M, ⟨p, hl, hpn⟩, hb⟩
    rcases get_set_some hl with ⟨h1, h2, _⟩ | ⟨_, h2⟩
    · subst h1
      exact .inr ⟨_, M, ⟨o, ho, hns⟩, hb⟩
    · exact .inr ⟨q, M, ⟨p, h2, hpn⟩, hb⟩
  · rcases get_set_some hs with ⟨_, h2, _⟩ | ⟨_, h2⟩
    · injection h2 with h2
      subst h2
      exact (hns (by cases o <;> first | exact he.elim | trivial)).elim
    · exact h2

theorem HRel.turn (h : HRel w β H) {r b N : Nat} {o o' : HObj} (ho : H[r]? = some (some o)) (hβ : β r = .blk b N) (he : Evo o o') (hos : w'.os = w.os) (ht : w'.tape = w.tape) (hu : w'.output = w.output)
    (hs : w'.heap.size = w.heap.size) (hk : ∀ k, k ≠ b → w'.heap[k]? = w.heap[k]?) (hn : ORel w' β (H.set r (some o')) (.blk b N) o') (hns : ¬ isSeal o := by exact fun h => h) : HRel w' β (H.set r (some o')) := by
  refine h.step (Fr.turn ho hβ he hos ht hu hs hk hns) ?_ ?_
  · intro q p hp
    rcases get_set_some hp with ⟨h1, h2, _⟩ | ⟨h1, h2⟩
    · injection h2 with h2
      subst h1 h2
      rw [hβ]
      exact .inr hn
    · refine .inl ⟨h2, rfl, fun k M hb => hk k (fun e => h1 ?_)⟩
      subst e
      exact h.inj q r _ M N ⟨p, h2⟩ ⟨o, ho⟩ hb hβ
  · rintro q q' k M M' ⟨p, hl⟩ ⟨p', hl'⟩ hb hb'
    have go : ∀ {q p}, (H.set r (some o'))[q]? = some (some p) → live H q := by
      intro q p hq
      rcases get_set_some hq with ⟨h1, _, _⟩ | ⟨_, h2⟩
      · subst h1; exact ⟨o, ho⟩
      · exact ⟨p, h2⟩
    exact h.inj q q' k M M' (go hl) (go hl') hb hb'

/-! ### What lay nowhere yet, laid into a new block -/
theorem Fr0.into {r : Nat} {o o' : HObj} (x : Go.Obj) (N : Nat) (ho : H[r]? = some (some o)) (hβ : β r = .none) (he : Evo o o') (hnl : ¬ isLoop o) (hns : ¬ isSeal o := by exact fun h => h) : Fr0 w β H (w.alloc x) (upd β r (.blk w.heap.size N)) (H.set r (some o')) := by
  refine ⟨rfl, rfl, rfl, by simp, by simp, ?_, ?_, ?_, fun q hq => upd_ne (hq.ne ho hnl), fun q s hs => ?_⟩
  · intro q p _ hp
    rcases get_set_some hp with ⟨h1, h2, _⟩ | ⟨h1, h2⟩
    · injection h2 with h2
      subst h1 h2
      exact ⟨o, ho, he, fun hn => absurd hβ hn⟩
    · exact ⟨p, h2, Evo.refl _, fun _ _ => upd_ne h1⟩
  · intro b hb _
    exact RowKit.Below.heap_alloc w x b hb
  · rintro b ⟨q, M, ⟨p, hp, hpn⟩, hb⟩
    rcases get_set_some hp with ⟨h1, _, _⟩ | ⟨h1, h2⟩
    · subst h1
      rw [upd_same] at hb
      injection hb with hb
      exact .inl (by omega)
    · rw [upd_ne h1] at hb
      exact .inr ⟨q, M, ⟨p, h2, hpn⟩, hb⟩
  · rcases get_set_some hs with ⟨_, h2, _⟩ | ⟨h1, h2⟩
    · injection h2 with h2
      subst h2
      exact (hns (by cases o <;> first | exact he.elim | trivial)).elim
    · exact ⟨h2, upd_ne h1⟩
theorem HRel.into (h : HRel w β H) {r : Nat} {o o' : HObj} (x : Go.Obj) (N : Nat) (ho : H[r]? = some (some o)) (hβ : β r = .none) (he : Evo o o') (hnl : ¬ isLoop o)
    (hn : ORel (w.alloc x) (upd β r (.blk w.heap.size N)) (H.set r (some o')) (.blk w.heap.size N) o') (hns : ¬ isSeal o := by exact fun h => h) : HRel (w.alloc x) (upd β r (.blk w.heap.size N)) (H.set r (some o')) := by
  refine h.step0 (Fr0.into x N ho hβ he hnl hns) ?_ ?_
  · intro q p hp
    rcases get_set_some hp with ⟨h1, h2, _⟩ | ⟨h1, h2⟩
    · injection h2 with h2
      subst h1 h2
      rw [upd_same]
      exact .inr hn
    · exact .inl ⟨h2, upd_ne h1, fun b M hb => RowKit.Below.heap_alloc w x b (h.lt ⟨p, h2⟩ hb)⟩
  · rintro q q' b M M' ⟨p, hp⟩ ⟨p', hp'⟩ hb hb'
    rcases get_set_some hp with ⟨h1, _, _⟩ | ⟨h1, h2⟩ <;> rcases get_set_some hp' with ⟨k1, _, _⟩ | ⟨k1, k2⟩
    · rw [h1, k1]
    · subst h1
      rw [upd_same] at hb
      rw [upd_ne k1] at hb'
      injection hb with e1 e2
      have := h.lt ⟨p', k2⟩ hb'
      omega
    · subst k1
      rw [upd_same] at hb'
      rw [upd_ne h1] at hb
      injection hb' with e1 e2
      have := h.lt ⟨p, h2⟩ hb
      omega
    · rw [upd_ne h1] at hb
      rw [upd_ne k1] at hb'
      exact h.inj q q' b M M' ⟨p, h2⟩ ⟨p', k2⟩ hb hb'
end
end Bow
/- AE3: the evaluation of the model's code over deep values: definitions. What an operation asks stands as a conjunct ahead of what follows it. -/
namespace Bow
open Go

/-- What stands elsewhere, by its name: nothing is a name that nobody holds. -/
abbrev Base := Nat → Option HObj

structure St where
  E : Env
  T : Heap
  B : Base
  D : List Nat

structure Cx where
  P : Program
  nt : Nat
  fn : FuncId
  ro : Option (Nat × Nat)
  imps : List Nat
  X : Exit → St → Prop
  B : Base
  D : List Nat
  /-- The blocks at whose exits the evaluation stops. -/
  stop : List Nat := []

structure SRel (imps : List Nat) (nt : Nat) (w : World) (β : Nat → Loc) (H : Heap) (m : List Nat) (s : St) (a : Act) : Prop where
  hrel : HRel w β H
  size : a.tmps.size = nt
  env : ∀ k, Rep w β H ((lk s.E k).conv m) (a.tmps.getD k Go.undef)
  mlen : m.length = s.T.length
  nodup : m.Nodup
  loc : ∀ (k r : Nat) (o : Option HObj), m[k]? = some r → s.T[k]? = some o → H[r]? = some (o.map (HObj.conv m))
  imp : m.take imps.length = imps
  base : ∀ r, r < H.length → r ∉ m → H[r]? = some (s.B r)
  fut : ∀ r, H.length ≤ r → s.B r = none
  own : ∀ k r : Nat, imps.length ≤ k → m[k]? = some r → s.B r = none
  scE : ∀ p ∈ s.E, p.2.sc s.T.length
  scT : ∀ (k : Nat) (o : HObj), s.T[k]? = some (some o) → o.sc s.T.length
  defs : a.defers.length = s.D.length
  marks : ∀ j k : Nat, s.D[j]? = some k → ∃ r b N, m[k]? = some r ∧ s.T[k]? = some (some .dfr) ∧ β r = .blk b N ∧ a.defers[j]? = some { target := .collected b, args := #[] }

def Ends (P : Program) (M : Machine) (b : Frame) (cs : List Frame) : Exit → Act → World → Prop
  | .normal, a, w => Steps P M (lone (b.atR a []) cs w)
  | .ret, a, w => ∃ k, Steps P M (lone (b.atR a (.code .ret :: k)) cs w)
  | .exit id, a, w => ∃ k, exitTo id k = none ∧ Steps P M (lone (b.atR a (.code (.exit id) :: k)) cs w)
  | .goto l, a, w => ∃ k, gotoIn l k = none ∧ Steps P M (lone (b.atR a (.code (.goto l) :: k)) cs w)
  | .panic chain, a, w => ∃ k, Steps P M (lone { b.atR a k with mode := .panicking chain } cs w)
  | .outgrown, _, _ => False

/-- The round's own loop: its name and its block. -/
def RoundOk (β : Nat → Loc) (H : Heap) : Option (Nat × Nat) → Option Nat → Prop
  | none, x => x = none
  | some (r, l), x => x = some l ∧ Fixed H r ∧ ∃ N, β r = .blk l N

/-- From these items and this state the activation comes to its end in one of the ways that X takes. -/
@[irreducible] def Goes (c : Cx) (todo : List Item) (E : Env) (T : Heap) : Prop :=
  ∀ (w : World) (β : Nat → Loc) (H : Heap) (m : List Nat) (a : Act) (b : Frame) (cs : List Frame), SRel c.imps c.nt w β H m ⟨E, T, c.B, c.D⟩ a → b.fn = c.fn → b.kind = .normal → RoundOk β H c.ro b.roundOf →
    ∃ (e : Exit) (s' : St) (w' : World) (β' : Nat → Loc) (H' : Heap) (m' : List Nat) (a' : Act), c.X e s' ∧ SRel c.imps c.nt w' β' H' m' s' a' ∧ Fr w β H w' β' H' ∧ Ends c.P (lone (b.atR a todo) cs w) b cs e a' w'

/-- A function of the program's own, with a body. -/
def Enterable (P : Program) (f : FuncId) : Prop := ∃ fn, P.funcs[f]? = some fn ∧ (fn.name == "runtime.NumGoroutine") = false ∧ fn.body.isNone = false

/-- The function, called from this state, comes back with a value and a state that K takes. -/
@[irreducible] def CallThen (c : Cx) (f : FuncId) (args : List V) (E : Env) (T : Heap) (K : V → St → Prop) : Prop :=
  Enterable c.P f ∧ ∀ (w : World) (β : Nat → Loc) (H : Heap) (m : List Nat) (a : Act) (vals : Array Value) (cs : List Frame), SRel c.imps c.nt w β H m ⟨E, T, c.B, c.D⟩ a → args.length = vals.size →
    (∀ (j : Nat) (x : V) (v : Value), args[j]? = some x → vals[j]? = some v → Rep w β H (x.conv m) v) →
    ∃ (x : V) (s' : St) (v : Value) (w' : World) (β' : Nat → Loc) (H' : Heap) (m' : List Nat) (fr : Frame), K x s' ∧ SRel c.imps c.nt w' β' H' m' s' a ∧ Fr w β H w' β' H' ∧ Rep w' β' H' (x.conv m') v ∧
      Steps c.P (lone (Frame.enter c.P f vals .normal) cs w) (lone fr cs w') ∧ fr.fn = f ∧ fr.leaving c.P w' (.returned v) ∧ m <+: m'

/-! ### Forms -/
def lget {α : Type} : List α → Nat → Option α
  | [], _ => none
  | x :: _, 0 => some x
  | _ :: xs, n + 1 => lget xs n
theorem lget_eq {α : Type} : ∀ (l : List α) (n : Nat), lget l n = l[n]?
  | [], n => by simp [lget]
  | x :: xs, 0 => rfl
  | x :: xs, n + 1 => by rw [lget, lget_eq xs n]; rfl
def lset {α : Type} : List α → Nat → α → (List α → Prop) → Prop
  | [], _, _, K => K []
  | _ :: xs, 0, y, K => K (y :: xs)
  | x :: xs, n + 1, y, K => lset xs n y fun ys => K (x :: ys)
def lsnoc {α : Type} : List α → α → (List α → Prop) → Prop
  | [], y, K => K [y]
  | x :: xs, y, K => lsnoc xs y fun ys => K (x :: ys)
def ldrop {α : Type} : List α → Nat → List α
  | xs, 0 => xs
  | [], _ + 1 => []
  | _ :: xs, n + 1 => ldrop xs n
def ltake {α : Type} : List α → Nat → Prop → (List α → Prop) → Prop
  | _, 0, _, K => K []
  | [], _ + 1, F, _ => F
  | x :: xs, n + 1, F, K => ltake xs n F fun ys => K (x :: ys)
/-- The cells cs are written over xs from place n on; all fit. -/
def lover {α : Type} : List α → Nat → List α → Prop → (List α → Prop) → Prop
  | xs, 0, [], _, K => K xs
  | [], _, _ :: _, F, _ => F
  | _ :: xs, 0, c :: cs, F, K => lover xs 0 cs F fun ys => K (c :: ys)
  | [], _ + 1, [], F, _ => F
  | x :: xs, n + 1, cs, F, K => lover xs n cs F fun ys => K (x :: ys)
def lcount {α : Type} : List α → Nat → Nat
  | [], n => n
  | _ :: xs, n => lcount xs (n + 1)
def lnum {α : Type} (xs : List α) (K : Nat → Prop) : Prop :=
  match xs with
  | [] => K 0 | [_] => K 1 | [_, _] => K 2 | [_, _, _] => K 3 | [_, _, _, _] => K 4 | [_, _, _, _, _] => K 5 | [_, _, _, _, _, _] => K 6 | [_, _, _, _, _, _, _] => K 7
  | [_, _, _, _, _, _, _, _] => K 8 | [_, _, _, _, _, _, _, _, _] => K 9 | [_, _, _, _, _, _, _, _, _, _] => K 10 | [_, _, _, _, _, _, _, _, _, _, _] => K 11 | [_, _, _, _, _, _, _, _, _, _, _, _] => K 12
  | xs => K (lcount xs 0)

/-- A value is laid open to its head. -/
def fv (v : V) (K : V → Prop) : Prop :=
  match v with
  | .int k n => K (.int k n)
  | .bool b => K (.bool b)
  | .tt => K .tt
  | .ff => K .ff
  | .str s => K (.str s)
  | .sl s xs => K (.sl s xs)
  | .nilsl => K .nilsl
  | .osl r g o l => K (.osl r g o l)
  | .iptr cs o => K (.iptr cs o)
  | .ptr r o => K (.ptr r o)
  | .eptr r g i o => K (.eptr r g i o)
  | .nilp => K .nilp
  | .nilf => K .nilf
  | .nili => K .nili
  | .nilmap => K .nilmap
  | .agg cs => K (.agg cs)
  | .tup vs => K (.tup vs)
  | .fn f a c => K (.fn f a c)
  | .yld r => K (.yld r)
  | .iface t v => K (.iface t v)
  | .undef => K .undef
theorem fv_eq (v : V) (K : V → Prop) : fv v K = K v := by cases v <;> rfl

def ofVal1 : Value → V
  | .int k n => .int k n
  | .bool true => .tt
  | .bool false => .ff
  | .string s => bif Nat.ble s.data.toList.length 1000000 then .str s.data.toList else .undef
  | .slice none 0 0 => .nilsl
  | .pointer none => .nilp
  | .nilFunc => .nilf
  | .nilIface => .nili
  | .map none => .nilmap
  | _ => .undef
def lmap {α β : Type} (f : α → β) : List α → List β
  | [] => []
  | x :: xs => f x :: lmap f xs
theorem lmap_eq {α β : Type} (f : α → β) : ∀ xs, lmap f xs = xs.map f
  | [] => rfl
  | x :: xs => by rw [lmap, lmap_eq f xs]; rfl
def ofVal : Value → V
  | .agg cs => .agg (lmap ofVal1 cs.toList)
  | v => ofVal1 v
def opd (E : Env) : Operand → V
  | .tmp t => lk E t
  | .const v => ofVal v
  | .global _ => .undef
  | .func f => .fn (.func f) [] []
def opds (E : Env) : List Operand → (List V → Prop) → Prop
  | [], K => K []
  | x :: xs, K => fv (opd E x) fun v => opds E xs fun vs => K (v :: vs)

def tyI (P : Program) (t : TypeId) : Option TypeInfo := lget P.types.toList t
def tyU (P : Program) (t : TypeId) : Option TypeDesc :=
  match tyI P t with
  | some { desc := .named _ u, .. } => match tyI P u with
    | some i => some i.desc
    | none => none
  | some i => some i.desc
  | none => none
def aggT : TypeDesc → Bool
  | .struct _ | .array _ _ => true
  | _ => false

def inI (n : Int) : Prop := -9223372036854775808 ≤ n ∧ n ≤ 9223372036854775807
/-- Room for so many elements of so many bytes. -/
def room (n bytes : Nat) : Prop := n * bytes ≤ 70368744177664

mutual
def V.pureB : V → Bool
  | .osl (.loc _) .. | .ptr (.loc _) _ | .eptr (.loc _) .. | .yld (.loc _) => false
  | .agg cs => V.pureL cs
  | .tup cs => V.pureL cs
  | .fn _ a c => V.pureL a && V.pureL c
  | .iface _ v => v.pureB
  | _ => true
def V.pureL : List V → Bool
  | [] => true
  | v :: vs => v.pureB && V.pureL vs
end

/-- Own slices within a value are frozen: they read as lists from here on. -/
def frz1 (v : V) (T : Heap) (F : Prop) (K : V → Heap → Prop) : Prop :=
  match v with
  | .osl (.loc k) g 0 l => match lget T k with
    | some (some (.vec g' sz xs)) => g = g' ∧ l = xs.length ∧ lset T k none fun T' => K (.sl sz xs) T'
    | _ => F
  | v => bif v.pureB then K v T else F
def frzL (vs : List V) (T : Heap) (F : Prop) (K : List V → Heap → Prop) : Prop :=
  match vs with
  | [] => K [] T
  | v :: vs => fv v fun v => frz1 v T F fun v' T' => frzL vs T' F fun vs' T'' => K (v' :: vs') T''
def frz (v : V) (T : Heap) (F : Prop) (K : V → Heap → Prop) : Prop :=
  match v with
  | .agg cs => frzL cs T F fun cs' T' => K (.agg cs') T'
  | .tup cs => frzL cs T F fun cs' T' => K (.tup cs') T'
  | v => frz1 v T F K
def frzAll (vs : List V) (T : Heap) (F : Prop) (K : List V → Heap → Prop) : Prop :=
  match vs with
  | [] => K [] T
  | v :: vs => fv v fun v => frz v T F fun v' T' => frzAll vs T' F fun vs' T'' => K (v' :: vs') T''

/-! ### Operations -/
def asI (v : V) : Option (IntKind × Int) :=
  match v with
  | .int k n => some (k, n)
  | .str _ => none
  | .bool _ => none
  | .tt => none
  | .ff => none
  | .sl _ _ => none
  | .nilsl => none
  | .osl _ _ _ _ => none
  | .iptr _ _ => none
  | .ptr _ _ => none
  | .eptr _ _ _ _ => none
  | .nilp => none
  | .nilf => none
  | .nili => none
  | .agg _ => none
  | .tup _ => none
  | .fn _ _ _ => none
  | .yld _ => none
  | .iface _ _ => none
  | .nilmap => none
  | .undef => none
def asS (v : V) : Option (List UInt8) :=
  match v with
  | .str s => some s
  | .int _ _ => none
  | .bool _ => none
  | .tt => none
  | .ff => none
  | .sl _ _ => none
  | .nilsl => none
  | .osl _ _ _ _ => none
  | .iptr _ _ => none
  | .ptr _ _ => none
  | .eptr _ _ _ _ => none
  | .nilp => none
  | .nilf => none
  | .nili => none
  | .agg _ => none
  | .tup _ => none
  | .fn _ _ _ => none
  | .yld _ => none
  | .iface _ _ => none
  | .nilmap => none
  | .undef => none
def isIntT (d : TypeDesc) : Bool :=
  match d with
  | .int _ => true
  | .string => false
  | .invalid => false
  | .bool => false
  | .float _ => false
  | .complex _ => false
  | .unsafePointer => false
  | .pointer _ => false
  | .slice _ => false
  | .array _ _ => false
  | .map _ _ => false
  | .chan _ _ => false
  | .struct _ => false
  | .func _ _ _ => false
  | .interface _ => false
  | .tuple _ => false
  | .named _ _ => false
def isStrT (d : TypeDesc) : Bool :=
  match d with
  | .int _ => false
  | .string => true
  | .invalid => false
  | .bool => false
  | .float _ => false
  | .complex _ => false
  | .unsafePointer => false
  | .pointer _ => false
  | .slice _ => false
  | .array _ _ => false
  | .map _ _ => false
  | .chan _ _ => false
  | .struct _ => false
  | .func _ _ _ => false
  | .interface _ => false
  | .tuple _ => false
  | .named _ _ => false
def kindN (k : IntKind) : Nat :=
  match k with
  | .i8 => 0
  | .i16 => 1
  | .i32 => 2
  | .i64 => 3
  | .u8 => 4
  | .u16 => 5
  | .u32 => 6
  | .u64 => 7
/-- One field, of one cell, compared. -/
def eq1 (P : Program) (t : TypeId) (x y : V) : Option Bool :=
  match tyU P t with
  | none => none
  | some d => bif isIntT d then (match asI x with
      | none => none
      | some p => match asI y with
        | none => none
        | some q => bif Nat.beq (kindN p.1) (kindN q.1) then some (decide (p.2 = q.2)) else none)
    else bif isStrT d then (match asS x with
      | none => none
      | some a => match asS y with
        | none => none
        | some b => some (decide (a = b)))
    else none
/-- Structs' cells, one a field, compared. -/
def eqF (P : Program) (i : Nat) (fs : List Field) (xs ys : List V) (F : Prop) (K : Bool → Prop) : Prop :=
  match fs with
  | [] => K true
  | f :: fs => match xs with
    | [] => F
    | x :: xs => match ys with
      | [] => F
      | y :: ys => bif Nat.beq f.offset i then (match eq1 P f.type x y with
        | some e => eqF P (i + 1) fs xs ys F fun r => K (e && r)
        | none => F) else F
def eqOk (P : Program) (t : TypeId) (fs : List Field) : Bool := !P.stoodInHeld t && !P.eqGuardType P.depth t && fs.all fun f => !decide (f.name = "_")

def binK (P : Program) (t : TypeId) (op : BinOp) (x y : V) (F : Prop) (K : V → Prop) : Prop :=
  match x, y with
  | .int .i64 a, .int .i64 b =>
    match op with
    | .add => inI (a + b) ∧ K (.int .i64 (a + b))
    | .sub => inI (a - b) ∧ K (.int .i64 (a - b))
    | .mul => inI (a * b) ∧ K (.int .i64 (a * b))
    | .quo => b ≠ 0 ∧ inI (a.tdiv b) ∧ K (.int .i64 (a.tdiv b))
    | .rem => b ≠ 0 ∧ K (.int .i64 (a.tmod b))
    | .eql => K (.bool (decide (a = b)))
    | .neq => K (.bool (!decide (a = b)))
    | .lss => K (.bool (decide (a < b)))
    | .leq => K (.bool (decide (a ≤ b)))
    | .gtr => K (.bool (decide (b < a)))
    | .geq => K (.bool (decide (b ≤ a)))
    | _ => F
  | .int .u8 a, .int .u8 b =>
    match op with
    | .eql => K (.bool (decide (a = b)))
    | .neq => K (.bool (!decide (a = b)))
    | .lss => K (.bool (decide (a < b)))
    | .leq => K (.bool (decide (a ≤ b)))
    | .gtr => K (.bool (decide (b < a)))
    | .geq => K (.bool (decide (b ≤ a)))
    | _ => F
  | .int .u64 a, .int .u64 b =>
    match op with
    | .eql => K (.bool (decide (a = b)))
    | .neq => K (.bool (!decide (a = b)))
    | .lss => K (.bool (decide (a < b)))
    | .leq => K (.bool (decide (a ≤ b)))
    | .gtr => K (.bool (decide (b < a)))
    | .geq => K (.bool (decide (b ≤ a)))
    | .add => K (.int .u64 (IntKind.u64.wrap (a + b)))
    | .sub => K (.int .u64 (IntKind.u64.wrap (a - b)))
    | .mul => K (.int .u64 (IntKind.u64.wrap (a * b)))
    | _ => F
  | .str a, .str b =>
    match op with
    | .add => (a ++ b).length ≤ 9223372036854775807 ∧ K (.str (a ++ b))
    | .eql => K (.bool (decide (a = b)))
    | .neq => K (.bool (!decide (a = b)))
    | .lss => K (.bool (Op.bytesLess a b))
    | .leq => K (.bool (Op.bytesLess a b || decide (a = b)))
    | .gtr => K (.bool (!(Op.bytesLess a b || decide (a = b))))
    | .geq => K (.bool (!Op.bytesLess a b))
    | _ => F
  | .agg xs, .agg ys => match tyU P t with
    | some (.struct fs) => match op with
      | .eql => eqOk P t fs.toList = true ∧ eqF P 0 fs.toList xs ys F fun b => K (.bool b)
      | .neq => eqOk P t fs.toList = true ∧ eqF P 0 fs.toList xs ys F fun b => K (.bool (!b))
      | _ => F
    | _ => F
  | .tt, y => match tyU P t, op, y with
    | some .bool, .eql, .tt => K .tt | some .bool, .eql, .ff => K .ff | some .bool, .eql, .bool b => K (.bool b)
    | some .bool, .neq, .tt => K .ff | some .bool, .neq, .ff => K .tt | some .bool, .neq, .bool b => K (.bool (!b))
    | _, _, _ => F
  | .ff, y => match tyU P t, op, y with
    | some .bool, .eql, .tt => K .ff | some .bool, .eql, .ff => K .tt | some .bool, .eql, .bool b => K (.bool (!b))
    | some .bool, .neq, .tt => K .tt | some .bool, .neq, .ff => K .ff | some .bool, .neq, .bool b => K (.bool b)
    | _, _, _ => F
  | .bool a, y => match tyU P t, op, y with
    | some .bool, .eql, .tt => K (.bool a) | some .bool, .eql, .ff => K (.bool (!a)) | some .bool, .eql, .bool b => K (.bool (a == b))
    | some .bool, .neq, .tt => K (.bool (!a)) | some .bool, .neq, .ff => K (.bool a) | some .bool, .neq, .bool b => K (.bool (!(a == b)))
    | _, _, _ => F
  | _, _ => F

def unK (op : UnOp) (x : V) (F : Prop) (K : V → Prop) : Prop :=
  match op, x with
  | .not, .tt => K .ff
  | .not, .ff => K .tt
  | .not, .bool b => K (.bool (!b))
  | .neg, .int .i64 n => inI (-n) ∧ K (.int .i64 (-n))
  | _, _ => F

/-- Loads so many cells from a place of a row of cells. -/
def partK (P : Program) (t : TypeId) (cs : List V) (off : Nat) (F : Prop) (K : V → Prop) : Prop :=
  match tyU P t, tyI P t with
  | some d, some i => bif aggT d then ltake (ldrop cs off) i.size F fun ys => K (.agg ys) else match lget cs off with
    | some v => fv v K
    | none => F
  | _, _ => F

def loadK (P : Program) (t : TypeId) (p : V) (T : Heap) (B : Base) (imps : List Nat) (F : Prop) (K : V → Prop) : Prop :=
  match p with
  | .ptr (.loc k) off => match lget T k with
    | some (some (.box cs)) => partK P t cs off F K
    | _ => F
  | .iptr cs off => partK P t cs off F K
  | .ptr (.abs r) off => r ∉ imps ∧ ∃ cs, B r = some (.box cs) ∧ partK P t cs off F K
  | .eptr (.loc k) g i off => match lget T k with
    | some (some (.vec g' _ xs)) => g = g' ∧ ∃ x, xs[i]? = some x ∧ partK P t x.cells off F K
    | _ => F
  | _ => F

/-- An element with other cells. -/
def mkE (x0 : V) (cs : List V) : V :=
  match x0 with
  | .agg _ => .agg cs
  | _ => match cs with
    | [c] => c
    | cs => .agg cs
def storeK (P : Program) (t : TypeId) (p x : V) (T : Heap) (F : Prop) (K : Heap → Prop) : Prop :=
  match p, tyI P t with
  | .eptr (.loc k) g ix off, some i => match lget T k with
    | some (some (.vec g' sz xs)) => g = g' ∧ ∃ x0, xs[ix]? = some x0 ∧ (bif Nat.beq (lcount x.cells 0) i.size && onesB x.cells && V.pureL x.cells then lover x0.cells off x.cells F fun cs' => lset T k (some (.vec g' sz (xs.set ix (mkE x0 cs')))) K else F)
    | _ => F
  | .ptr (.loc k) off, some i => match lget T k with
    | some (some (.box cs)) => bif Nat.beq (lcount x.cells 0) i.size && onesB x.cells then lover cs off x.cells F fun cs' => lset T k (some (.box cs')) K else F
    | _ => F
  | _, _ => F

def lo? (E : Env) : Option Operand → Int → (Int → Prop) → Prop → Prop
  | none, d, K, _ => K d
  | some x, _, K, F => match opd E x with
    | .int _ n => K n
    | _ => F

/-- The built-in append: what is put behind, as elements of so many cells. -/
def appSrc (x : V) (sz : Nat) (T : Heap) (F : Prop) (K : List V → Prop) : Prop :=
  match x with
  | .sl sz' ys => bif Nat.beq sz' sz then K ys else F
  | .nilsl => K []
  | .osl (.loc k) g 0 l => match lget T k with
    | some (some (.vec g' sz' ys)) => bif Nat.beq sz' sz then g = g' ∧ l = ys.length ∧ K ys else F
    | _ => F
  | _ => F
def appK (P : Program) (t : TypeId) (s x : V) (T : Heap) (F : Prop) (K : V → Heap → Prop) : Prop :=
  match tyU P t with
  | some (.slice e) => match tyI P e with
    | some i => match i.zero with
     | some z => bif Nat.ble 1 i.size && Nat.beq z.cells.size i.size && Nat.ble 1 i.bytes then appSrc x i.size T F fun ys =>
      match s with
      | .nilsl => room ys.length i.bytes ∧ lnum T fun n => lsnoc T (some (.vec 0 i.size ys)) fun T' => K (.osl (.loc n) 0 0 ys.length) T'
      | .osl (.loc k) g 0 l => match lget T k with
        | some (some (.vec g' sz xs)) => bif Nat.beq sz i.size then g = g' ∧ l = xs.length ∧ room (xs.length + ys.length) i.bytes ∧ lset T k (some (.vec (bump g) sz (xs ++ ys))) fun T' => K (.osl (.loc k) (bump g) 0 (xs.length + ys.length)) T' else F
        | _ => F
      | _ => F
      else F
     | none => F
    | none => F
  | _ => F

/-- The parts of a literal are laid over its zero. -/
def buildK (places : List (Nat × Nat)) (E : Env) : List (Nat × Operand) → List V → Prop → (List V → Prop) → Prop
  | [], cs, _, K => K cs
  | (i, x) :: ps, cs, F, K => match lget places i with
    | some (off, sz) => fv (opd E x) fun v => bif Nat.beq (lcount v.cells 0) sz && onesB v.cells then lover cs off v.cells F fun cs' => buildK places E ps cs' F K else F
    | none => F

/-- Elements of so many cells, said one by one. -/
def okEs (sz : Nat) : List V → Prop
  | [] => True
  | x :: xs => (Nat.beq (lcount x.cells 0) sz && onesB x.cells) = true ∧ okEs sz xs

def zeroOf (P : Program) (t : TypeId) : Option V :=
  match tyI P t with
  | some i => match i.zero with
    | some z => some (ofVal z)
    | none => none
  | none => none

def places (P : Program) : List Field → Option (List (Nat × Nat))
  | [] => some []
  | f :: fs => match tyI P f.type, places P fs with
    | some i, some ps => some ((f.offset, i.size) :: ps)
    | _, _ => none

def elems (E : Env) : List (Nat × Operand) → Nat → (List V → Prop) → Prop → Prop
  | [], _, K, _ => K []
  | (i, x) :: ps, n, K, F => bif Nat.beq i n then fv (opd E x) fun v => elems E ps (n + 1) (fun vs => K (v :: vs)) F else F

/-- The places of an array's elements. -/
def arrPl (sz : Nat) : Nat → Nat → List (Nat × Nat)
  | 0, _ => []
  | n + 1, i => (i * sz, sz) :: arrPl sz n (i + 1)

def evOp (c : Cx) (o : Op) (E : Env) (T : Heap) (F : Prop) (K : V → Heap → Prop) : Prop :=
  match o with
  | .move x | .assign x => fv (opd E x) fun v => K v T
  | .pick c a b => match opd E c with
    | .tt => fv (opd E a) fun v => K v T
    | .ff => fv (opd E b) fun v => K v T
    | .bool t => (t = true → fv (opd E a) fun v => K v T) ∧ (t = false → fv (opd E b) fun v => K v T)
    | _ => F
  | .box t x => match tyI c.P t with
    | some _ => fv (opd E x) fun v => bif onesB v.cells then lnum T fun n => lsnoc T (some (.box v.cells)) fun T' => K (.ptr (.loc n) 0) T' else F
    | none => F
  | .alloc t => match zeroOf c.P t with
    | some z => bif onesB z.cells then lnum T fun n => lsnoc T (some (.box z.cells)) fun T' => K (.ptr (.loc n) 0) T' else F
    | none => F
  | .build t ps => match tyU c.P t, zeroOf c.P t with
    | some (.struct fs), some z => match places c.P fs.toList with
      | some pl => buildK pl E ps.toList z.cells F fun cs => K (.agg cs) T
      | none => F
    | some (.array n e), some z => match tyI c.P e with
      | some ti => buildK (arrPl ti.size n 0) E ps.toList z.cells F fun cs => K (.agg cs) T
      | none => F
    | _, _ => F
  | .buildSlice t len ps => match tyU c.P t with
    | some (.slice e) => match tyI c.P e with
      | some i => match i.zero with
        | some _ => bif Nat.beq (lcount ps.toList 0) len && Nat.ble (len * i.size) 16777216 && Nat.ble 1 i.size then elems E ps.toList 0 (fun vs => frzAll vs T F fun vs' T' =>
          okEs i.size vs' ∧ lnum T' fun n => lsnoc T' (some (.vec 0 i.size vs')) fun T'' => K (.osl (.loc n) 0 0 len) T'') F else F
        | none => F
      | none => F
    | _ => F
  | .load t x => loadK c.P t (opd E x) T c.B c.imps F fun v => K v T
  | .store t x y => fv (opd E y) fun v => storeK c.P t (opd E x) v T F fun T' => K (.tup []) T'
  | .nilCheck x => match opd E x with
    | .ptr (.loc k) o => match lget T k with
      | some (some (.box _)) => K (.ptr (.loc k) o) T
      | _ => F
    | .ptr (.abs r) o => r ∉ c.imps ∧ (∃ cs, c.B r = some (.box cs)) ∧ K (.ptr (.abs r) o) T
    | .iptr cs o => K (.iptr cs o) T
    | .fn f a cap => match f with
      | .func _ => K (.fn f a cap) T
      | _ => F
    | _ => F
  | .binOp op t x y _ => binK c.P t op (opd E x) (opd E y) F fun v => K v T
  | .unOp op _ x => unK op (opd E x) F fun v => K v T
  | .convert s d x => match tyU c.P s, tyU c.P d, opd E x with
    | some _, some (.int k), .int _ n => K (.int k (k.wrap n)) T
    | _, _, _ => F
  | .makeFunc f a cap => opds E a.toList fun va => opds E cap.toList fun vc => K (.fn f va vc) T
  | .slice t x lo hi mx => match tyU c.P t, opd E x, mx with
    | some .string, .str s, none => lo? E lo 0 (fun l => lo? E hi s.length (fun h => 0 ≤ l ∧ l ≤ h ∧ h ≤ s.length ∧ K (.str ((s.drop l.toNat).take (h.toNat - l.toNat))) T) F) F
    | some (.slice e), .sl sz xs, none => match tyI c.P e with
      | some ti => bif Nat.beq sz ti.size then lo? E lo 0 (fun l => lo? E hi xs.length (fun h => 0 ≤ l ∧ l ≤ h ∧ h ≤ xs.length ∧ K (.sl sz ((xs.drop l.toNat).take (h.toNat - l.toNat))) T) F) F else F
      | none => F
    | _, _, _ => F
  | .fieldAddr t x f => match tyU c.P t with
    | some (.struct fs) => match lget fs.toList f with
      | some fd => match tyI c.P fd.type with
        | some ti => bif Nat.ble 1 ti.size then match opd E x with
          | .ptr (.loc k) off => match lget T k with
            | some (some (.box _)) => K (.ptr (.loc k) (off + fd.offset)) T
            | _ => F
          | .ptr (.abs r) off => r ∉ c.imps ∧ (∃ cs, c.B r = some (.box cs)) ∧ K (.ptr (.abs r) (off + fd.offset)) T
          | .iptr cs off => K (.iptr cs (off + fd.offset)) T
          | .eptr (.loc k) g i off => match lget T k with
            | some (some (.vec g' _ _)) => g = g' ∧ K (.eptr (.loc k) g i (off + fd.offset)) T
            | _ => F
          | _ => F
          else F
        | none => F
      | none => F
    | _ => F
  | .field t x f => match tyU c.P t, opd E x with
    | some (.struct fs), .agg cs => match lget fs.toList f with
      | some fd => partK c.P fd.type cs fd.offset F fun v => K v T
      | none => F
    | _, _ => F
  | .indexAddr t x ix => match tyU c.P t, opd E x, opd E ix with
    | some (.slice e), .sl sz xs, .int _ i => match tyI c.P e with
      | some ti => bif Nat.beq sz ti.size && Nat.ble 1 sz then 0 ≤ i ∧ ∃ v, xs[i.toNat]? = some v ∧ K (.iptr v.cells 0) T else F
      | none => F
    | some (.slice e), .osl (.loc k) g off len, .int _ i => match tyI c.P e, lget T k with
      | some ti, some (some (.vec g' sz _)) => bif Nat.beq sz ti.size && Nat.ble 1 sz then g = g' ∧ 0 ≤ i ∧ i < len ∧ K (.eptr (.loc k) g (off + i.toNat) 0) T else F
      | _, _ => F
    | _, _, _ => F
  | .index t x ix => match tyU c.P t, opd E x, opd E ix with
    | some .string, .str s, .int _ i => 0 ≤ i ∧ ∃ b, s[i.toNat]? = some b ∧ K (.int .u8 b.toNat) T
    | some (.array len e), .agg cs, .int _ i => match tyI c.P e with
      | some ti => 0 ≤ i ∧ i < len ∧ partK c.P e cs (i.toNat * ti.size) F fun v => K v T
      | none => F
    | _, _, _ => F
  | .extract x i => match opd E x with
    | .tup vs => match lget vs i with
      | some v => fv v fun v => K v T
      | none => F
    | _ => F
  | .call { callee := .builtin b, args, argTypes } => match b, args.toList, argTypes.toList with
    | .len, [x], [t] => match tyU c.P t, opd E x with
      | some (.slice _), .sl _ xs => K (.int .i64 xs.length) T
      | some (.slice _), .nilsl => K (.int .i64 0) T
      | some (.slice _), .osl (.loc k) g _ l => match lget T k with
        | some (some (.vec g' _ _)) => g = g' ∧ K (.int .i64 l) T
        | _ => F
      | some .string, .str s => K (.int .i64 s.length) T
      | _, _ => F
    | .max, [x, y], _ => match opd E x, opd E y with
      | .int k a, .int _ b => K (.int k (if b > a then b else a)) T
      | _, _ => F
    | .min, [x, y], _ => match opd E x, opd E y with
      | .int k a, .int _ b => K (.int k (if b < a then b else a)) T
      | _, _ => F
    | .append, [x, y], [t, t'] => match tyU c.P t' with
      | some (.slice _) => appK c.P t (opd E x) (opd E y) T F K
      | _ => F
    | _, _, _ => F
  | _ => F

def memN : List Nat → Nat → Bool
  | [], _ => false
  | x :: xs, n => bif Nat.beq x n then true else memN xs n
def idxs {α : Type} : Nat → List α → List Nat
  | _, [] => []
  | i, _ :: r => i :: idxs (i + 1) r

def putE (nt : Nat) (d : Option Tmp) (v : V) (E : Env) (F : Prop) (K : Env → Prop) : Prop :=
  match d with
  | none => K E
  | some d => bif Nat.blt d nt then K ((d, v) :: E) else F

def evp (c : Cx) : Nat → List Item → Env → Heap → Prop
  | 0, todo, E, T => Goes c todo E T
  | n + 1, todo, E, T =>
    match todo with
    | [] => c.X .normal ⟨E, T, c.B, c.D⟩
    | .code (.seq a b) :: k => evp c n (.code a :: .code b :: k) E T
    | .code .skip :: k => evp c n k E T
    | .code (.label _) :: k => evp c n k E T
    | .inBlock _ :: k => evp c n k E T
    | .inScope _ :: k => evp c n k E T
    | .code .ret :: _ => c.X .ret ⟨E, T, c.B, c.D⟩
    | .code (.cond (.tmp s) a b) :: k => match lk E s with
      | .tt => evp c n (.code a :: k) E T
      | .ff => evp c n (.code b :: k) E T
      | .bool t => (t = true → Goes c (.code a :: k) ((s, .tt) :: E) T) ∧ (t = false → Goes c (.code b :: k) ((s, .ff) :: E) T)
      | _ => Goes c todo E T
    | .code (.block id b) :: k => evp c n (.code b :: .inBlock id :: k) E T
    | .code (.scope b) :: k => evp c n (.code b :: .inScope b :: k) E T
    | .code (.exit id) :: k => bif memN c.stop id then Goes c todo E T else match exitTo id k with
      | some k' => evp c n k' E T
      | none => Goes c todo E T
    | .code (.goto l) :: k => match gotoIn l k with
      | some k' => evp c n k' E T
      | none => Goes c todo E T
    | .code (.region _ ops false) :: k => evp c n (.inRegion ops (idxs 0 ops.toList) :: k) E T
    | .inRegion _ [] :: k => evp c n k E T
    | .inRegion ops (i :: rest) :: k => match lget ops.toList i with
      | none => Goes c todo E T
      | some o =>
        let skip : Prop := putE c.nt o.dst (.tup []) E (Goes c todo E T) fun E' => evp c n (.inRegion ops rest :: k) E' T
        let step (E : Env) : Prop :=
          match o.op with
          | .call { callee := .value f, args, .. } => match opd E f with
            | .fn (.func g) first cap => opds E args.toList fun vs => putE c.nt o.dst .undef E (Goes c todo E T) fun _ => CallThen c g (first ++ vs ++ cap) E T fun x s' => putE c.nt o.dst x s'.E (Goes c todo E T) fun E' => evp { c with B := s'.B, D := s'.D } n (.inRegion ops rest :: k) E' s'.T
            | _ => Goes c todo E T
          | op => evOp c op E T (Goes c todo E T) fun v T' => putE c.nt o.dst v E (Goes c todo E T) fun E' => evp c n (.inRegion ops rest :: k) E' T'
        match o.guard with
        | none => step E
        | some (j, want) => match lget ops.toList j with
          | none => Goes c todo E T
          | some oj => match oj.dst with
            | none => Goes c todo E T
            | some s => match lk E s with
              | .tt => bif want then step E else skip
              | .ff => bif want then skip else step E
              | .bool t => (t = true → Goes c todo ((s, .tt) :: E) T) ∧ (t = false → Goes c todo ((s, .ff) :: E) T)
              | .tup [] => skip
              | _ => Goes c todo E T
    | _ => Goes c todo E T
end Bow
/- AE4: the relation between a state of the evaluation and an activation in a world, kept over the single steps. -/
namespace Bow
open Go

section
variable {imps : List Nat} {nt : Nat} {w w' : World} {β β' : Nat → Loc} {H H' : Heap} {m : List Nat} {E : Env} {T : Heap} {B : Base} {D : List Nat} {a : Act}

theorem lk_sc {n : Nat} : ∀ (E : Env) (k : Nat), (∀ p ∈ E, p.2.sc n) → (lk E k).sc n
  | [], _, _ => trivial
  | (k', v) :: E, k, h => by
    simp only [lk]
    cases Nat.beq k' k
    · exact lk_sc E k fun p hp => h p (List.mem_cons_of_mem _ hp)
    · exact h (k', v) (List.mem_cons_self ..)

theorem SRel.lt (h : SRel imps nt w β H m ⟨E, T, B, D⟩ a) {k r : Nat} (hk : m[k]? = some r) : r < H.length := by
  have h1 : k < T.length := by have := lt_of_get hk; have := h.mlen; simp_all
  exact lt_of_get (h.loc k r _ hk (List.getElem?_eq_getElem h1))

theorem SRel.at (h : SRel imps nt w β H m ⟨E, T, B, D⟩ a) {k : Nat} {o : HObj} (ho : T[k]? = some (some o)) : ∃ r, m[k]? = some r ∧ H[r]? = some (some (o.conv m)) := by
  have h1 : k < m.length := by have := lt_of_get ho; have := h.mlen; simp_all
  exact ⟨m[k], List.getElem?_eq_getElem h1, by simpa using h.loc k m[k] _ (List.getElem?_eq_getElem h1) ho⟩

theorem SRel.inj (h : SRel imps nt w β H m ⟨E, T, B, D⟩ a) {k k' r : Nat} (hk : m[k]? = some r) (hk' : m[k']? = some r) : k = k' := by
  obtain ⟨h1, e1⟩ := List.getElem?_eq_some_iff.1 hk
  obtain ⟨h2, e2⟩ := List.getElem?_eq_some_iff.1 hk'
  exact (List.getElem_inj h.nodup).1 (e1.trans e2.symm)

/-- A name of the base that is not imported is nobody's own. -/
theorem SRel.notIn (h : SRel imps nt w β H m ⟨E, T, B, D⟩ a) {r : Nat} {o : HObj} (hr : B r = some o) (hi : r ∉ imps) : r ∉ m := fun hm => by
  obtain ⟨k, hk⟩ := List.getElem?_of_mem hm
  rcases Nat.lt_or_ge k imps.length with h1 | h1
  · have h2 : (m.take imps.length)[k]? = some r := by rw [List.getElem?_take, if_pos h1]; exact hk
    rw [h.imp] at h2
    exact hi (List.mem_of_getElem? h2)
  · have h2 : B r = none := h.own k r h1 hk
    rw [hr] at h2
    cases h2

theorem SRel.baseAt (h : SRel imps nt w β H m ⟨E, T, B, D⟩ a) {r : Nat} {o : HObj} (hi : r ∉ imps) (hr : B r = some o) : H[r]? = some (some o) := by
  have hl : r < H.length := by
    rcases Nat.lt_or_ge r H.length with h1 | h1
    · exact h1
    · have h2 : B r = none := h.fut r h1
      rw [hr] at h2
      cases h2
  have := h.base r hl (h.notIn hr hi)
  simp only at this
  rw [this, hr]

theorem SRel.put (h : SRel imps nt w β H m ⟨E, T, B, D⟩ a) {d : Nat} (hd : d < nt) {x : V} {v : Value} (hx : Rep w β H (x.conv m) v) :
    SRel imps nt w β H m ⟨(d, x) :: E, T, B, D⟩ (a.put (some d) v) := by
  have hs := h.size
  refine ⟨h.hrel, by simpa [Act.put] using hs, fun k => ?_, h.mlen, h.nodup, h.loc, h.imp, h.base, h.fut, h.own, ?_, h.scT, h.defs, h.marks⟩
  · simp only [lk, Act.put]
    cases hb : Nat.beq d k with
    | true =>
      obtain rfl := Nat.eq_of_beq_eq_true hb
      have : d < a.tmps.size := by omega
      simpa [this] using hx
    | false =>
      have hne : d ≠ k := fun e => by subst e; rw [Nat.beq_refl] at hb; cases hb
      have := h.env k
      simp only [cond_false]
      rw [show (a.tmps.setIfInBounds d v).getD k Go.undef = a.tmps.getD k Go.undef by simp [Array.getD_eq_getD_getElem?, hne]]
      exact this
  · intro p hp
    rcases List.mem_cons.1 hp with rfl | hp
    · have := sc_of_rep _ hx
      rwa [h.mlen] at this
    · exact h.scE p hp

/-- A finding about a slot: the value reads otherwise, too. -/
theorem SRel.know (h : SRel imps nt w β H m ⟨E, T, B, D⟩ a) {s : Tmp} {x : V} (hx : Rep w β H (x.conv m) (a.tmps.getD s Go.undef)) : SRel imps nt w β H m ⟨(s, x) :: E, T, B, D⟩ a := by
  refine ⟨h.hrel, h.size, fun k => ?_, h.mlen, h.nodup, h.loc, h.imp, h.base, h.fut, h.own, ?_, h.scT, h.defs, h.marks⟩
  · simp only [lk]
    cases hb : Nat.beq s k with
    | true =>
      obtain rfl := Nat.eq_of_beq_eq_true hb
      exact hx
    | false => exact h.env k
  · intro p hp
    rcases List.mem_cons.1 hp with rfl | hp
    · have := sc_of_rep _ hx
      rwa [h.mlen] at this
    · exact h.scE p hp

theorem RoundOk.mono {ro : Option (Nat × Nat)} {x : Option Nat} (h : RoundOk β H ro x) (f : Fr w β H w' β' H') : RoundOk β' H' ro x := by
  cases ro with
  | none => exact h
  | some p =>
    obtain ⟨h1, h2, N, h3⟩ := h
    exact ⟨h1, f.toFr0.fixed h2, N, (f.fix _ h2).trans h3⟩

theorem nodup_snoc {l : List Nat} {x : Nat} (h : l.Nodup) (hx : x ∉ l) : (l ++ [x]).Nodup := by
  rw [List.nodup_append]
  exact ⟨h, by simp, fun a ha b hb => by simp at hb; subst hb; exact fun e => hx (e ▸ ha)⟩

/-- One object more. -/
theorem SRel.snoc (h : SRel imps nt w β H m ⟨E, T, B, D⟩ a) {o : HObj} (hsc : o.sc m.length) (f : Fr w β H w' β' (H ++ [some (o.conv m)])) (hr : HRel w' β' (H ++ [some (o.conv m)])) :
    SRel imps nt w' β' (H ++ [some (o.conv m)]) (m ++ [H.length]) ⟨E, T ++ [some o], B, D⟩ a := by
  have hml : m.length = T.length := h.mlen
  have hnot : H.length ∉ m := fun hm => by
    obtain ⟨k, hk⟩ := List.getElem?_of_mem hm
    have := h.lt hk
    omega
  have hscE : ∀ p ∈ E, p.2.sc m.length := fun p hp => by have := h.scE p hp; rwa [← h.mlen] at this
  have imp := h.imp
  have hil : imps.length ≤ m.length := by
    have := congrArg List.length imp
    simp at this
    omega
  refine ⟨hr, h.size, fun k => ?_, by simp [hml], nodup_snoc h.nodup hnot, ?_, ?_, ?_, ?_, ?_, ?_, ?_, h.defs, ?_⟩
  · rw [V.conv_ext (Nat.le_refl _) _ (lk_sc E k hscE)]
    exact (h.env k).mono f
  · intro k r o' hk ho'
    rcases get_snoc hk with ⟨h1, h2⟩ | ⟨h1, h2⟩
    · have ho2 : T[k]? = some o' := by
        rw [List.getElem?_append_left (by omega)] at ho'
        exact ho'
      have h3 := h.loc k r o' h2 ho2
      rw [List.getElem?_append_left (h.lt h2), h3]
      cases o' with
      | none => rfl
      | some o' =>
        have := h.scT k o' ho2
        rw [← h.mlen] at this
        simp [HObj.conv_ext (Nat.le_refl _) o' this]
    · subst h1 h2
      have h4 := ho'
      rw [hml] at h4
      simp at h4
      subst h4
      simp [HObj.conv_ext (Nat.le_refl _) o hsc]
  · show (m ++ [H.length]).take imps.length = imps
    rw [List.take_append_of_le_length hil]
    exact imp
  · intro r hr' hm
    have hr2 : r < H.length := by
      rcases Nat.lt_or_ge r H.length with h1 | h1
      · exact h1
      · simp at hr'
        exact absurd (List.mem_append_right m (by simp; omega)) hm
    rw [List.getElem?_append_left hr2]
    exact h.base r hr2 fun hx => hm (List.mem_append_left _ hx)
  · intro r hr'
    simp at hr'
    exact h.fut r (by omega)
  · intro k r hk1 hk2
    rcases get_snoc hk2 with ⟨h1, h2⟩ | ⟨h1, h2⟩
    · exact h.own k r hk1 h2
    · subst h2
      exact h.fut _ (Nat.le_refl _)
  · intro p hp
    exact V.sc_mono (by simp) p.2 (h.scE p hp)
  · intro k o' ho'
    show o'.sc (T ++ [some o]).length
    rcases get_snoc ho' with ⟨h1, h2⟩ | ⟨h1, h2⟩
    · exact HObj.sc_mono (by simp) o' (h.scT k o' h2)
    · injection h2 with h2
      subst h2
      exact HObj.sc_mono (by simp [hml]) o' hsc
  · intro j k hj
    obtain ⟨r, b, N, h1, h2, h3, h4⟩ := h.marks j k hj
    have hk1 : k < m.length := lt_of_get h1
    refine ⟨r, b, N, by rw [List.getElem?_append_left hk1]; exact h1, ?_, ?_, h4⟩
    · show (T ++ [some o])[k]? = _
      rw [List.getElem?_append_left (by omega)]
      exact h2
    · have h5 := h.loc k r _ h1 h2
      obtain ⟨o1, ho1, e, hb⟩ := f.evo r .dfr (h.lt h1) (by rw [List.getElem?_append_left (h.lt h1), h5]; rfl)
      exact (hb (by rw [h3]; simp) (by cases o1 <;> first | exact e.elim | trivial)).trans h3

/-- An object turns. -/
theorem SRel.setAt (h : SRel imps nt w β H m ⟨E, T, B, D⟩ a) {k r : Nat} {o' : Option HObj} (hk : m[k]? = some r) (hsc : ∀ o, o' = some o → o.sc m.length)
    (hD : k ∈ D → o' = some .dfr)
    (f : Fr w β H w' β (H.set r (o'.map (HObj.conv m)))) (hr : HRel w' β (H.set r (o'.map (HObj.conv m)))) :
    SRel imps nt w' β (H.set r (o'.map (HObj.conv m))) m ⟨E, T.set k o', B, D⟩ a := by
  have hml : m.length = T.length := h.mlen
  have hrl := h.lt hk
  have hrm : r ∈ m := List.mem_of_getElem? hk
  refine ⟨hr, h.size, fun j => (h.env j).mono f, by simpa using hml, h.nodup, ?_, h.imp, ?_, fun r hr => h.fut r (by simpa using hr), h.own, ?_, ?_, h.defs, ?_⟩
  · intro j q o hj ho
    by_cases e : j = k
    · subst e
      have : q = r := Option.some.inj (hj.symm.trans hk)
      subst this
      have hjT : j < T.length := by have := lt_of_get hk; omega
      simp only [List.getElem?_set, hjT, if_true] at ho
      injection ho with ho
      subst ho
      simp [hrl]
    · have hne : q ≠ r := fun e' => e (h.inj hj (e' ▸ hk))
      simp only at ho
      rw [List.getElem?_set_ne (fun x => e x.symm)] at ho
      rw [List.getElem?_set_ne (fun x => hne x.symm)]
      exact h.loc j q o hj ho
  · intro q hq hqm
    rw [List.getElem?_set_ne (fun x : r = q => hqm (x ▸ hrm))]
    exact h.base q (by simpa using hq) hqm
  · intro p hp
    simpa using h.scE p hp
  · intro j o ho
    simp only [List.length_set]
    by_cases e : j = k
    · subst e
      have hjT : j < T.length := by have := lt_of_get hk; omega
      simp only [List.getElem?_set, hjT, if_true] at ho
      injection ho with ho
      rw [← hml]
      exact hsc o ho
    · simp only at ho
      rw [List.getElem?_set_ne (fun x => e x.symm)] at ho
      exact h.scT j o ho
  · intro j q hj
    obtain ⟨r', b, N, h1, h2, h3, h4⟩ := h.marks j q hj
    refine ⟨r', b, N, h1, ?_, h3, h4⟩
    by_cases e : q = k
    · subst e
      have hjT : q < T.length := by have := lt_of_get hk; omega
      simp only [List.getElem?_set, hjT, if_true, hD (List.mem_of_getElem? hj)]
    · simp only
      rw [List.getElem?_set_ne (fun x => e x.symm)]
      exact h2

theorem SRel.set (h : SRel imps nt w β H m ⟨E, T, B, D⟩ a) {k r : Nat} {o' : Option HObj} (hk : m[k]? = some r) (hsc : ∀ o, o' = some o → o.sc m.length)
    (hD : ∀ o, T[k]? = some (some o) → o = .dfr → o' = some .dfr)
    (f : Fr w β H w' β (H.set r (o'.map (HObj.conv m)))) (hr : HRel w' β (H.set r (o'.map (HObj.conv m)))) :
    SRel imps nt w' β (H.set r (o'.map (HObj.conv m))) m ⟨E, T.set k o', B, D⟩ a :=
  h.setAt hk hsc (fun hm => by
    obtain ⟨j, hj, e⟩ := List.mem_iff_getElem.1 hm
    obtain ⟨r', b, N, h1, h2, h3, h4⟩ := h.marks j k (by simp only; rw [List.getElem?_eq_getElem hj, e])
    exact hD _ h2 rfl) f hr

/-- The state over a step of the world that leaves the abstract heap as it is. -/
theorem SRel.same (h : SRel imps nt w β H m ⟨E, T, B, D⟩ a) (f : Fr w β H w' β H) (hr : HRel w' β H) : SRel imps nt w' β H m ⟨E, T, B, D⟩ a :=
  ⟨hr, h.size, fun k => (h.env k).mono f, h.mlen, h.nodup, h.loc, h.imp, h.base, h.fut, h.own, h.scE, h.scT, h.defs, h.marks⟩
end
end Bow
/- AE5: what the forms of the evaluation come to; operands; the operations, one by one. -/
namespace Bow
open Go

theorem lset_eq {α : Type} : ∀ (xs : List α) (n : Nat) (y : α) (K : List α → Prop), lset xs n y K = K (xs.set n y)
  | [], n, y, K => by simp [lset]
  | x :: xs, 0, y, K => rfl
  | x :: xs, n + 1, y, K => by rw [lset, lset_eq xs n]; rfl
theorem lsnoc_eq {α : Type} : ∀ (xs : List α) (y : α) (K : List α → Prop), lsnoc xs y K = K (xs ++ [y])
  | [], y, K => rfl
  | x :: xs, y, K => by rw [lsnoc, lsnoc_eq xs]; rfl
theorem ldrop_eq {α : Type} : ∀ (xs : List α) (n : Nat), ldrop xs n = xs.drop n
  | xs, 0 => by cases xs <;> rfl
  | [], n + 1 => rfl
  | x :: xs, n + 1 => by rw [ldrop, ldrop_eq xs n]; rfl
theorem lcount_eq {α : Type} : ∀ (xs : List α) (n : Nat), lcount xs n = xs.length + n
  | [], n => by simp [lcount]
  | x :: xs, n => by rw [lcount, lcount_eq xs]; simp; omega
theorem lnum_eq {α : Type} (xs : List α) (K : Nat → Prop) : lnum xs K = K xs.length := by
  unfold lnum
  split <;> first | rfl | (rw [lcount_eq]; simp)
theorem opds_eq (E : Env) : ∀ (xs : List Operand) (K : List V → Prop), opds E xs K = K (xs.map (opd E))
  | [], K => rfl
  | x :: xs, K => by rw [opds, fv_eq, opds_eq E xs]; rfl
theorem ltake_sound {α : Type} {F : Prop} : ∀ (xs : List α) (n : Nat) (K : List α → Prop), ltake xs n F K → F ∨ (n ≤ xs.length ∧ K (xs.take n))
  | xs, 0, K, h => .inr ⟨Nat.zero_le _, by cases xs <;> simpa [ltake] using h⟩
  | [], n + 1, K, h => .inl h
  | x :: xs, n + 1, K, h => by
    rw [ltake] at h
    rcases ltake_sound xs n _ h with h | ⟨h1, h2⟩
    · exact .inl h
    · exact .inr ⟨by simp; omega, by simpa using h2⟩
/-- What stands where cs has been written over xs from place n on. -/
def over {α : Type} (xs : List α) (n : Nat) (cs : List α) (ys : List α) : Prop :=
  n + cs.length ≤ xs.length ∧ ys.length = xs.length ∧ ∀ j, ys[j]? = if n ≤ j ∧ j < n + cs.length then cs[j - n]? else xs[j]?
theorem lover_sound {α : Type} {F : Prop} : ∀ (xs : List α) (n : Nat) (cs : List α) (K : List α → Prop), lover xs n cs F K → F ∨ ∃ ys, over xs n cs ys ∧ K ys
  | [], n, c :: cs, K, h => by cases n <;> exact .inl h
  | [], 0, [], K, h => .inr ⟨[], ⟨by simp, rfl, fun j => by simp⟩, h⟩
  | [], n + 1, [], K, h => .inl h
  | x :: xs, 0, [], K, h => .inr ⟨x :: xs, ⟨by simp, rfl, fun j => by simp⟩, h⟩
  | x :: xs, 0, c :: cs, K, h => by
    rw [lover] at h
    rcases lover_sound xs 0 cs _ h with h | ⟨ys, ⟨h1, h2, h3⟩, h4⟩
    · exact .inl h
    · refine .inr ⟨c :: ys, ⟨by simp at h1 ⊢; omega, by simp [h2], fun j => ?_⟩, h4⟩
      cases j with
      | zero => simp
      | succ j =>
        have := h3 j
        simp only [List.getElem?_cons_succ, this]
        simp only [Nat.zero_le, Nat.zero_add, true_and, List.length_cons, Nat.sub_zero, Nat.add_lt_add_iff_right, List.getElem?_cons_succ]
  | x :: xs, n + 1, cs, K, h => by
    rw [lover] at h
    rcases lover_sound xs n cs _ h with h | ⟨ys, ⟨h1, h2, h3⟩, h4⟩
    · exact .inl h
    · refine .inr ⟨x :: ys, ⟨by simp; omega, by simp [h2], fun j => ?_⟩, h4⟩
      cases j with
      | zero => simp
      | succ j =>
        have := h3 j
        simp only [List.getElem?_cons_succ, this]
        have e1 : (n + 1 ≤ j + 1 ∧ j + 1 < n + 1 + cs.length) ↔ (n ≤ j ∧ j < n + cs.length) := by omega
        simp only [e1, Nat.add_sub_add_right]
end Bow
/- AE6: the operations, one by one: what the evaluation takes them for is what they do. -/
namespace Bow
open Go

/-- The operation, from a state that the evaluation knows, yields a value that x stands for, and leaves a state with the objects T'. -/
def OpTo (c : Cx) (op : Op) (E : Env) (T : Heap) (x : V) (T' : Heap) : Prop :=
  ∀ (o : Oper), o.op = op → ∀ (w : World) (β : Nat → Loc) (H : Heap) (m : List Nat) (a : Act), SRel c.imps c.nt w β H m ⟨E, T, c.B, c.D⟩ a →
    ∃ (nx : Next) (v : Value) (w' : World) (β' : Nat → Loc) (H' : Heap) (m' : List Nat), (execOp a.eval o).run c.P w = .ok nx w' ∧ (nx = .value v ∨ nx = .skip ∧ v = Go.undef) ∧
      SRel c.imps c.nt w' β' H' m' ⟨E, T', c.B, c.D⟩ a ∧ Fr w β H w' β' H' ∧ Rep w' β' H' (x.conv m') v ∧ m <+: m'

/-- The same, and the world stays. -/
def OpStill (c : Cx) (op : Op) (E : Env) (T : Heap) (x : V) : Prop :=
  ∀ (o : Oper), o.op = op → ∀ (w : World) (β : Nat → Loc) (H : Heap) (m : List Nat) (a : Act), SRel c.imps c.nt w β H m ⟨E, T, c.B, c.D⟩ a →
    ∃ v, (execOp a.eval o).run c.P w = .ok (.value v) w ∧ Rep w β H (x.conv m) v

theorem OpTo.still {c : Cx} {op : Op} {E : Env} {T : Heap} {x : V} (h : OpStill c op E T x) : OpTo c op E T x T := by
  intro o ho w β H m a hs
  obtain ⟨v, h1, h2⟩ := h o ho w β H m a hs
  exact ⟨_, v, w, β, H, m, h1, .inl rfl, hs, Fr.refl _ _ _, h2, List.prefix_refl _⟩

section
variable {w : World} {β : Nat → Loc} {H : Heap} {m : List Nat}

theorem ofVal1_rep (v : Value) : Rep w β H ((ofVal1 v).conv m) v := by
  unfold ofVal1
  split <;> try exact .undef _
  · exact .int _ _
  · exact .tt
  · exact .ff
  · rename_i s
    cases hb : Nat.ble s.data.toList.length 1000000 with
    | false => exact .undef _
    | true =>
      have hl : s.data.toList.length ≤ 1000000 := Nat.le_of_ble_eq_true hb
      have := Rep.str (w := w) (β := β) (H := H) s.data.toList (by unfold maxLen; omega)
      simpa [V.conv] using this
  · exact .nilsl
  · exact .nilp
  · exact .nilf
  · exact .nili
  · exact .nilmap

theorem ofVal_rep (v : Value) : Rep w β H ((ofVal v).conv m) v := by
  unfold ofVal
  split
  · rename_i cs
    simp only [V.conv, lmap_eq, V.convL_eq]
    refine .agg _ _ (by simp) fun j c v hj hv => ?_
    simp only [List.map_map, List.getElem?_map, Array.getElem?_toList, hv, Option.map_some, Option.some.injEq, Function.comp_apply] at hj
    subst hj
    exact ofVal1_rep v
  · exact ofVal1_rep v

variable {imps : List Nat} {nt : Nat} {s : St} {a : Act}
theorem opd_rep (h : SRel imps nt w β H m s a) (x : Operand) : Rep w β H ((opd s.E x).conv m) (a.eval x) := by
  cases x with
  | tmp t => exact h.env t
  | const v => exact ofVal_rep v
  | global g => exact .undef _
  | func f => exact .fn _ _ _ _ _ rfl rfl (fun j x v h _ => by simp [V.convL] at h) (fun j x v h _ => by simp [V.convL] at h)

theorem rep_int {k : IntKind} {n : Int} {v : Value} (h : Rep w β H ((V.int k n).conv m) v) : v = .int k n := by
  simp only [V.conv] at h
  cases h
  rfl
theorem rep_bool {b : Bool} {v : Value} (h : Rep w β H ((V.bool b).conv m) v) : v = .bool b := by
  simp only [V.conv] at h
  cases h
  rfl
theorem rep_tt {v : Value} (h : Rep w β H (V.tt.conv m) v) : v = .bool true := by
  simp only [V.conv] at h
  cases h
  rfl
theorem rep_ff {v : Value} (h : Rep w β H (V.ff.conv m) v) : v = .bool false := by
  simp only [V.conv] at h
  cases h
  rfl
theorem rep_str {s : List UInt8} {v : Value} (h : Rep w β H ((V.str s).conv m) v) : v = .string ⟨s.toArray⟩ ∧ s.length ≤ maxLen := by
  simp only [V.conv] at h
  cases h with
  | str _ h => exact ⟨rfl, h⟩

end

mutual
/-- What stands for a value is free of local references where they count: converting it changes nothing. -/
theorem conv_of_rep {w : World} {β : Nat → Loc} {H : Heap} (m : List Nat) : ∀ (v : V) {x : Value}, Rep w β H v x → v.conv m = v
  | .osl r _ _ _, x, h | .ptr r _, x, h | .eptr r _ _ _, x, h | .yld r, x, h => by
    cases r with
    | loc k => cases h
    | abs n => rfl
    | bad => cases h
  | .agg cs, x, h => by
    cases h with
    | agg _ vs hl h => simp only [V.conv, convL_of_rep m cs vs hl h]
  | .tup cs, x, h => by
    cases h with
    | tup _ vs hl h => simp only [V.conv, convL_of_rep m cs vs hl h]
  | .fn _ a c, x, h => by
    cases h with
    | fn _ _ _ va vc hla hlc h1 h2 => simp only [V.conv, convL_of_rep m a va hla h1, convL_of_rep m c vc hlc h2]
  | .iface _ v, x, h => by
    cases h with
    | iface _ _ _ h => simp only [V.conv, conv_of_rep m v h]
  | .int .., _, _ | .bool _, _, _ | .tt, _, _ | .ff, _, _ | .str _, _, _ | .sl .., _, _ | .nilsl, _, _ | .iptr .., _, _ | .nilp, _, _ | .nilf, _, _ | .nili, _, _ | .nilmap, _, _ | .undef, _, _ => rfl
theorem convL_of_rep {w : World} {β : Nat → Loc} {H : Heap} (m : List Nat) : ∀ (cs : List V) (vs : Array Value), cs.length = vs.size →
    (∀ (j : Nat) (c : V) (v : Value), cs[j]? = some c → vs[j]? = some v → Rep w β H c v) → V.convL m cs = cs
  | [], _, _, _ => rfl
  | c :: cs, vs, hl, h => by
    have h0 : 0 < vs.size := by simp at hl; omega
    simp only [V.convL]
    rw [conv_of_rep m c (h 0 _ vs[0] rfl (Array.getElem?_eq_getElem h0))]
    rw [convL_of_rep m cs (vs.extract 1 vs.size) (by simp at hl ⊢; omega) fun j c' v hj hv => h (j + 1) c' v (by simpa using hj) ?_]
    rw [Array.getElem?_extract] at hv
    split at hv
    · rw [Nat.add_comm]; exact hv
    · cases hv
end

/-! ### Types -/
section
variable {P : Program}
theorem tyI_sound {t : TypeId} {i : TypeInfo} (h : tyI P t = some i) : P.info? t = some i := by
  unfold tyI at h
  rw [lget_eq] at h
  have hl := lt_of_get h
  unfold Tables.info?
  have : t < P.types.size := by simpa using hl
  rw [if_pos this]
  simpa using h
theorem tyU_sound {t : TypeId} {d : TypeDesc} (h : tyU P t = some d) : P.underlying t = some d := by
  unfold tyU at h
  unfold Program.underlying
  split at h
  · rename_i nm u _ _ _ _ _ _ _ _ _ heq
    split at h
    · rename_i i hi
      simp only [tyI_sound heq, tyI_sound hi]
      simpa using h
    · cases h
  · rename_i i hne heq
    rw [tyI_sound heq]
    injection h with h
    subst h
    split
    · rename_i nm u _ _ _ _ _ _ _ _ _ he
      injection he with he
      subst he
      exact (hne _ _ _ _ _ _ _ _ _ _ _ rfl).elim
    · rename_i i' _ he
      injection he with he
      subst he
      rfl
    · rename_i he
      cases he
  · cases h
theorem run_sizeOf' {t : TypeId} {i : TypeInfo} (h : P.info? t = some i) (w : World) : (Go.sizeOf t).run P w = .ok i.size w := by
  simp [Go.sizeOf, typeInfo, h]
theorem run_isAgg' {t : TypeId} {d : TypeDesc} (h : P.underlying t = some d) (w : World) : (isAgg t).run P w = .ok (aggT d) w := by
  unfold isAgg
  rw [Sem.run_bind, run_underlying h w]
  cases d <;> simp [aggT]
end

theorem add_add' (a : Addr) (i j : Nat) : (a.add i).add j = a.add (i + j) := by
  unfold Addr.add
  by_cases hi : i = 0 <;> by_cases hj : j = 0 <;> simp [hi, hj, Nat.add_assoc]

/-! ### Loads -/
theorem partK_sound {P : Program} {t : TypeId} {cs : List V} {off : Nat} {F : Prop} {K : V → Prop} (h : partK P t cs off F K) :
    F ∨ ∃ x, K x ∧ ∀ (w : World) (ad : Addr) (vals : Nat → Value), (∀ j, j < cs.length → w.cell? (ad.add j) = some (vals j)) →
      ∃ v, (loadVar t (ad.add off)).run P w = .ok v w ∧
        ∀ (w1 : World) (β : Nat → Loc) (H : Heap) (m : List Nat), (∀ (j : Nat) (c : V), cs[j]? = some c → Rep w1 β H (c.conv m) (vals j)) → Rep w1 β H (x.conv m) v := by
  unfold partK at h
  split at h
  · rename_i d i hd hi
    have hu := tyU_sound hd
    have hI := tyI_sound hi
    cases ha : aggT d with
    | true =>
      rw [ha] at h
      simp only [cond_true, ldrop_eq] at h
      rcases ltake_sound _ _ _ h with h | ⟨hle, hk⟩
      · exact .inl h
      · simp only [List.length_drop] at hle
        refine .inr ⟨_, hk, fun w ad vals hc => ?_⟩
        have hrun : (loadCells (ad.add off) i.size).run P w = .ok ((List.range i.size).map fun j => vals (off + j)).toArray w := by
          have := run_loadCells_list (P := P) w (ad.add off) ((List.range i.size).map fun j => vals (off + j)) (fun j v hj => by
            have hjl : j < i.size := by have := lt_of_get hj; simpa using this
            simp [hjl] at hj
            subst hj
            rw [add_add']
            exact hc (off + j) (by omega))
          simpa using this
        refine ⟨.agg ((List.range i.size).map fun j => vals (off + j)).toArray, ?_, fun w1 β H m hr => ?_⟩
        · simp [loadVar, run_isAgg' hu, ha, run_sizeOf' hI, hrun]
        · simp only [V.conv, V.convL_eq]
          refine .agg _ _ (by simp; omega) fun j c v hj hv => ?_
          have hjl : j < i.size := by
            have := lt_of_get hj
            simp at this
            omega
          simp [hjl] at hv
          subst hv
          simp only [List.getElem?_map, List.getElem?_take, hjl, if_true, List.getElem?_drop, Option.map_eq_some_iff] at hj
          obtain ⟨c0, h0, rfl⟩ := hj
          exact hr _ c0 h0
    | false =>
      rw [ha] at h
      simp only [cond_false, lget_eq] at h
      split at h
      · rename_i v hv
        rw [fv_eq] at h
        refine .inr ⟨v, h, fun w ad vals hc => ⟨vals off, ?_, fun w1 β H m hr => hr off v hv⟩⟩
        simp [loadVar, run_isAgg' hu, ha, hc off (lt_of_get hv)]
      · exact .inl h
  · exact .inl h
end Bow
/- AE7: the operations, one by one: new memory, loads, stores. -/
namespace Bow
open Go

section
variable {w : World} {β : Nat → Loc} {H : Heap} {m : List Nat}

theorem rep_one {v : V} {x : Value} (h : Rep w β H v x) (h1 : v.one = true) : x.oneCell' = true := by
  cases h <;> first | rfl | assumption | (simp [V.one] at h1; done)

theorem one_conv (v : V) : (v.conv m).one = v.one := by cases v <;> rfl
theorem cells_conv (v : V) : (v.conv m).cells = V.convL m v.cells := by
  cases v <;> first | rfl | (simp only [V.conv, V.cells, V.convL]; done)

theorem rep_cells {v : V} {x : Value} (h : Rep w β H v x) (h1 : onesB v.cells = true) :
    v.cells.length = x.cells.size ∧ (∀ (j : Nat) (c : V) (u : Value), v.cells[j]? = some c → x.cells[j]? = some u → Rep w β H c u) ∧ ∀ u ∈ x.cells.toList, u.oneCell' = true := by
  by_cases ha : ∃ cs, v = .agg cs
  · obtain ⟨cs, rfl⟩ := ha
    cases h with
    | agg _ vs hl h =>
      refine ⟨hl, h, fun u hu => ?_⟩
      obtain ⟨j, hj, rfl⟩ := List.mem_iff_getElem.1 hu
      have hj' : j < vs.size := by simpa [Value.cells] using hj
      have hjc : j < cs.length := by omega
      have h2 := h j cs[j] vs[j] (List.getElem?_eq_getElem hjc) (Array.getElem?_eq_getElem hj')
      have h3 := (onesB_iff cs).1 h1 cs[j] (List.getElem_mem hjc)
      simpa [Value.cells] using rep_one h2 h3
  · have hc : v.cells = [v] := by cases v <;> first | rfl | exact absurd ⟨_, rfl⟩ ha
    rw [hc] at h1 ⊢
    have ho : v.one = true := by simpa [onesB] using h1
    have hx := rep_one h ho
    have hxc : x.cells = #[x] := by cases x <;> first | rfl | (simp [Value.oneCell'] at hx; done)
    rw [hxc]
    refine ⟨rfl, fun j c u hj hu => ?_, fun u hu => ?_⟩
    · cases j with
      | zero => simp at hj hu; subst hj hu; exact h
      | succ j => simp at hj
    · simp at hu
      subst hu
      exact hx

theorem onesB_conv (cs : List V) : onesB (V.convL m cs) = onesB cs := by
  induction cs with
  | nil => rfl
  | cons c cs ih => simp only [V.convL, onesB, one_conv, ih]
end

section
variable {imps : List Nat} {nt : Nat} {w : World} {β : Nat → Loc} {H : Heap} {m : List Nat} {E : Env} {T : Heap} {B : Base} {D : List Nat} {a : Act}

theorem scL_of_rep' {cs : List V} {vs : Array Value} (hl : cs.length = vs.size) (hr : ∀ (j : Nat) (c : V) (v : Value), (V.convL m cs)[j]? = some c → vs[j]? = some v → Rep w β H c v) : V.scL m.length cs :=
  scL_of_rep cs vs hl hr

/-- A new row of cells. -/
theorem SRel.newBox (h : SRel imps nt w β H m ⟨E, T, B, D⟩ a) (cs : List V) (vs : Array Value) (e : TypeId) (hl : cs.length = vs.size)
    (hr : ∀ (j : Nat) (c : V) (v : Value), (V.convL m cs)[j]? = some c → vs[j]? = some v → Rep w β H c v) :
    ∃ β' H', SRel imps nt (w.alloc (.cells vs e)) β' H' (m ++ [H.length]) ⟨E, T ++ [some (.box cs)], B, D⟩ a ∧ Fr w β H (w.alloc (.cells vs e)) β' H' ∧
      Rep (w.alloc (.cells vs e)) β' H' ((V.ptr (.loc T.length) 0).conv (m ++ [H.length])) (.pointer (some ⟨w.heap.size, 0, none⟩)) := by
  have hsc : (HObj.box cs).sc m.length := scL_of_rep' hl hr
  refine ⟨_, _, h.snoc (o := .box cs) hsc (Fr.new _ _ vs.size) (h.hrel.newBox _ vs e (by simp [V.convL_eq, hl]) hr), Fr.new _ _ _, ?_⟩
  have hml : m.length = T.length := h.mlen
  simp only [V.conv, Ref.conv, ← hml]
  rw [List.getElem?_append_right (Nat.le_refl _)]
  simp only [Nat.sub_self, List.getElem?_cons_zero]
  exact .ptrLive _ _ _ vs.size (V.convL m cs) (by simp [HObj.conv]) (upd_same _ _ _)

theorem SRel.newVec (h : SRel imps nt w β H m ⟨E, T, B, D⟩ a) (g sz : Nat) (xs : List V) (vs : Array Value) (e : TypeId) (n cap : Nat) (hg : tyG g e) (hsz : 0 < sz) (hx : ∀ x ∈ xs, okE sz x) (hn : n = xs.length) (hcap : n ≤ cap)
    (hmax : cap ≤ maxLen) (hl : cap * sz = vs.size)
    (hr : ∀ (i : Nat) (x : V) (j : Nat) (c : V) (v : Value), xs[i]? = some x → x.cells[j]? = some c → vs[i * sz + j]? = some v → Rep w β H c v) :
    ∃ β' H', SRel imps nt (w.alloc (.cells vs e)) β' H' (m ++ [H.length]) ⟨E, T ++ [some (.vec g sz xs)], B, D⟩ a ∧ Fr w β H (w.alloc (.cells vs e)) β' H' ∧
      Rep (w.alloc (.cells vs e)) β' H' ((V.osl (.loc T.length) g 0 n).conv (m ++ [H.length])) (.slice (some ⟨w.heap.size, 0, none⟩) n cap) := by
  subst hn
  have hle : xs.length * sz ≤ vs.size := by rw [← hl]; exact Nat.mul_le_mul_right _ hcap
  refine ⟨_, _, h.snoc (o := .vec g sz xs) trivial (Fr.new _ _ vs.size) (h.hrel.newVec g sz xs vs e hg hsz hx hle hr), Fr.new _ _ _, ?_⟩
  have hml : m.length = T.length := h.mlen
  simp only [V.conv, Ref.conv, ← hml]
  rw [List.getElem?_append_right (Nat.le_refl _)]
  simp only [Nat.sub_self, List.getElem?_cons_zero]
  exact .oslBlk _ _ _ _ sz xs w.heap.size vs.size _ _ (by simp [HObj.conv]) (upd_same _ _ _) hcap (by simpa using Nat.le_of_eq hl) (by simpa using hmax) (fun _ => by simp) (by simp)

theorem SRel.newNil (h : SRel imps nt w β H m ⟨E, T, B, D⟩ a) (g sz : Nat) (ad : Option Addr) :
    ∃ β' H', SRel imps nt w β' H' (m ++ [H.length]) ⟨E, T ++ [some (.vec g sz [])], B, D⟩ a ∧ Fr w β H w β' H' ∧ Rep w β' H' ((V.osl (.loc T.length) g 0 0).conv (m ++ [H.length])) (.slice ad 0 0) := by
  refine ⟨_, _, h.snoc (o := .vec g sz []) trivial (Fr.newNil g sz) (h.hrel.newNil g sz), Fr.newNil g sz, ?_⟩
  have hml : m.length = T.length := h.mlen
  simp only [V.conv, Ref.conv, ← hml]
  rw [List.getElem?_append_right (Nat.le_refl _)]
  simp only [Nat.sub_self, List.getElem?_cons_zero]
  exact .oslNil _ _ sz [] _ (by simp [HObj.conv]) (upd_same _ _ _)
end

variable {c : Cx} {E : Env} {T : Heap} {F : Prop} {K : V → Heap → Prop}

theorem ev_move {x : Operand} (h : evOp c (.move x) E T F K) : F ∨ ∃ y T', K y T' ∧ OpTo c (.move x) E T y T' := by
  simp only [evOp, fv_eq] at h
  exact .inr ⟨_, _, h, OpTo.still fun o ho w β H m a hs => ⟨a.eval x, by simp [execOp, ho], opd_rep hs x⟩⟩
theorem ev_assign {x : Operand} (h : evOp c (.assign x) E T F K) : F ∨ ∃ y T', K y T' ∧ OpTo c (.assign x) E T y T' := by
  simp only [evOp, fv_eq] at h
  exact .inr ⟨_, _, h, OpTo.still fun o ho w β H m a hs => ⟨a.eval x, by simp [execOp, ho], opd_rep hs x⟩⟩

theorem ev_pick {x y z : Operand} (h : evOp c (.pick x y z) E T F K) : F ∨ ∃ u T', K u T' ∧ OpTo c (.pick x y z) E T u T' := by
  simp only [evOp, fv_eq] at h
  split at h
  · rename_i hx
    refine .inr ⟨_, _, h, OpTo.still fun o ho w β H m a hs => ⟨a.eval y, ?_, opd_rep hs y⟩⟩
    have := opd_rep hs x
    simp only [hx] at this
    simp [execOp, ho, rep_tt this, asBool]
  · rename_i hx
    refine .inr ⟨_, _, h, OpTo.still fun o ho w β H m a hs => ⟨a.eval z, ?_, opd_rep hs z⟩⟩
    have := opd_rep hs x
    simp only [hx] at this
    simp [execOp, ho, rep_ff this, asBool]
  · rename_i t hx
    obtain ⟨h1, h2⟩ := h
    cases t with
    | true =>
      refine .inr ⟨_, _, h1 rfl, OpTo.still fun o ho w β H m a hs => ⟨a.eval y, ?_, opd_rep hs y⟩⟩
      have := opd_rep hs x
      simp only [hx] at this
      simp [execOp, ho, rep_bool this, asBool]
    | false =>
      refine .inr ⟨_, _, h2 rfl, OpTo.still fun o ho w β H m a hs => ⟨a.eval z, ?_, opd_rep hs z⟩⟩
      have := opd_rep hs x
      simp only [hx] at this
      simp [execOp, ho, rep_bool this, asBool]
  · exact .inl h

theorem ev_box {t : TypeId} {x : Operand} (h : evOp c (.box t x) E T F K) : F ∨ ∃ u T', K u T' ∧ OpTo c (.box t x) E T u T' := by
  simp only [evOp, fv_eq, lnum_eq, lsnoc_eq] at h
  split at h
  · cases h1 : onesB (opd E x).cells with
    | false => rw [h1] at h; exact .inl h
    | true =>
      rw [h1] at h
      refine .inr ⟨_, _, h, fun o ho w β H m a hs => ?_⟩
      have hr := opd_rep hs x
      obtain ⟨hl, hc, _⟩ := rep_cells hr (by rw [cells_conv, onesB_conv]; exact h1)
      rw [cells_conv] at hl hc
      obtain ⟨β', H', k1, k2, k3⟩ := hs.newBox (opd E x).cells (a.eval x).cells t (by rw [V.convL_eq] at hl; simpa using hl) hc
      exact ⟨_, _, _, β', H', _, by simp [execOp, ho, Instr.box, newVar, newRow], .inl rfl, k1, k2, k3, List.prefix_append _ _⟩
  · exact .inl h

theorem zeroOf_sound {P : Program} {t : TypeId} {z : V} (h : zeroOf P t = some z) : ∃ i v, P.info? t = some i ∧ i.zero = some v ∧ z = ofVal v := by
  unfold zeroOf at h
  split at h
  · rename_i i hi
    split at h
    · rename_i v hv
      injection h with h
      exact ⟨i, v, tyI_sound hi, hv, h.symm⟩
    · cases h
  · cases h
theorem run_zeroValue' {P : Program} {t : TypeId} {i : TypeInfo} {v : Value} (hi : P.info? t = some i) (hv : i.zero = some v) (w : World) : (zeroValue t).run P w = .ok v w := by
  simp [zeroValue, typeInfo, hi, hv]

theorem ev_alloc {t : TypeId} (h : evOp c (.alloc t) E T F K) : F ∨ ∃ u T', K u T' ∧ OpTo c (.alloc t) E T u T' := by
  simp only [evOp, lnum_eq, lsnoc_eq] at h
  split at h
  · rename_i z hz
    obtain ⟨i, v, hi, hv, rfl⟩ := zeroOf_sound hz
    cases h1 : onesB (ofVal v).cells with
    | false => rw [h1] at h; exact .inl h
    | true =>
      rw [h1] at h
      refine .inr ⟨_, _, h, fun o ho w β H m a hs => ?_⟩
      have hr : Rep w β H ((ofVal v).conv m) v := ofVal_rep v
      obtain ⟨hl, hc, _⟩ := rep_cells hr (by rw [cells_conv, onesB_conv]; exact h1)
      rw [cells_conv] at hl hc
      obtain ⟨β', H', k1, k2, k3⟩ := hs.newBox (ofVal v).cells v.cells t (by rw [V.convL_eq] at hl; simpa using hl) hc
      exact ⟨_, _, _, β', H', _, by simp [execOp, ho, Instr.alloc, run_zeroValue' hi hv, newVar, newRow], .inl rfl, k1, k2, k3, List.prefix_append _ _⟩
  · exact .inl h

theorem at_add (b j : Nat) : (⟨b, 0, none⟩ : Addr).add j = ⟨b, j, none⟩ := by
  unfold Addr.add
  split <;> simp_all

section
variable {w : World} {β : Nat → Loc} {H : Heap} {m : List Nat} {a : Act}
/-- A local row of cells, in the world. -/
theorem SRel.box (h : SRel c.imps c.nt w β H m ⟨E, T, c.B, c.D⟩ a) {k off : Nat} {cs : List V} {v : Value} (hk : T[k]? = some (some (.box cs))) (hp : Rep w β H ((V.ptr (.loc k) off).conv m) v) :
    ∃ r b N vs e, m[k]? = some r ∧ H[r]? = some (some (.box (V.convL m cs))) ∧ β r = .blk b N ∧ v = .pointer (some ⟨b, off, none⟩) ∧ w.heap[b]? = some (.cells vs e (0, 0)) ∧ vs.size = cs.length ∧ vs.size = N ∧
      ∀ (j : Nat) (x : V) (u : Value), (V.convL m cs)[j]? = some x → vs[j]? = some u → Rep w β H x u := by
  obtain ⟨r, hr, hH⟩ := h.at hk
  simp only [V.conv, Ref.conv, hr] at hp
  cases hp with
  | ptrLive _ _ b N cs' hH' hβ =>
    have := h.hrel.obj r _ hH
    rw [hβ] at this
    obtain ⟨vs, e, h1, h2, h3, h4⟩ := this
    exact ⟨r, b, N, vs, e, hr, hH, hβ, rfl, h1, by rw [h2, ← h3, V.convL_eq]; simp, h2, h4⟩
  | ptrDead _ _ _ hd => rw [hH] at hd; cases hd

end
theorem loadK_sound {P : Program} {t : TypeId} {x : Operand} {K : V → Prop} (hP : c.P = P) (h : loadK P t (opd E x) T c.B c.imps F K) : F ∨ ∃ u, K u ∧ OpStill c (.load t x) E T u := by
  subst hP
  unfold loadK at h
  split at h
  · rename_i k off hx
    rw [lget_eq] at h
    split at h
    · rename_i cs hk
      rcases partK_sound h with h | ⟨u, hu, hrun⟩
      · exact .inl h
      · refine .inr ⟨u, hu, fun o ho w β H m a hs => ?_⟩
        have hp := opd_rep hs x
        simp only [hx] at hp
        obtain ⟨r, b, N, vs, e, hr, hH, hβ, hv, hb, hl, hN, hc⟩ := hs.box hk hp
        have hcell : ∀ j, j < cs.length → w.cell? ((⟨b, 0, none⟩ : Addr).add j) = some (vs.getD j Go.undef) := fun j hj => by
          rw [at_add, cell_of_row w b j vs e (0, 0) hb]
          simp [hl, hj]
        obtain ⟨v, h1, h2⟩ := hrun w ⟨b, 0, none⟩ (fun j => vs.getD j Go.undef) hcell
        refine ⟨v, ?_, h2 w β H m fun j x' hj => hc j _ _ (by rw [V.convL_eq, List.getElem?_map, hj]; rfl) ?_⟩
        · rw [at_add] at h1
          simp [execOp, ho, Instr.loadAt, Instr.sureAddr, hv, h1]
        · have hjl := lt_of_get hj
          simp [hl, hjl]
    · exact .inl h
  · rename_i cs off hx
    rcases partK_sound h with h | ⟨u, hu, hrun⟩
    · exact .inl h
    · refine .inr ⟨u, hu, fun o ho w β H m a hs => ?_⟩
      have hp := opd_rep hs x
      simp only [hx, V.conv] at hp
      generalize hq : a.eval x = q at hp
      cases hp with
      | iptr _ _ ad vals hown hlt hc hr =>
        obtain ⟨v, h1, h2⟩ := hrun w ad vals hc
        refine ⟨v, by simp [execOp, ho, Instr.loadAt, Instr.sureAddr, hq, h1], h2 w β H m fun j x' hj => ?_⟩
        have := hr j x' hj
        rw [conv_of_rep m _ this]
        exact this
  · rename_i r off hx
    obtain ⟨hni, cs, hB, h⟩ := h
    rcases partK_sound h with h | ⟨u, hu, hrun⟩
    · exact .inl h
    · refine .inr ⟨u, hu, fun o ho w β H m a hs => ?_⟩
      have hp := opd_rep hs x
      simp only [hx, V.conv, Ref.conv] at hp
      have hH : H[r]? = some (some (.box cs)) := hs.baseAt hni hB
      generalize hq : a.eval x = q at hp
      cases hp with
      | ptrLive _ _ b N cs' hH' hβ =>
        rw [hH] at hH'
        injection hH' with hH'
        injection hH' with hH'
        injection hH' with hH'
        subst hH'
        have := hs.hrel.obj r _ hH
        rw [hβ] at this
        obtain ⟨vs, e, h1, h2, h3, h4⟩ := this
        have hcell : ∀ j, j < cs.length → w.cell? ((⟨b, 0, none⟩ : Addr).add j) = some (vs.getD j Go.undef) := fun j hj => by
          rw [at_add, cell_of_row w b j vs e (0, 0) h1]
          have : j < vs.size := by omega
          simp [this]
        obtain ⟨v, k1, k2⟩ := hrun w ⟨b, 0, none⟩ (fun j => vs.getD j Go.undef) hcell
        refine ⟨v, ?_, k2 w β H m fun j x' hj => ?_⟩
        · rw [at_add] at k1
          simp [execOp, ho, Instr.loadAt, Instr.sureAddr, hq, k1]
        · have hjl := lt_of_get hj
          have hjv : j < vs.size := by omega
          have := h4 j x' vs[j] hj (Array.getElem?_eq_getElem hjv)
          rw [conv_of_rep m _ this]
          simpa [hjv] using this
      | ptrDead _ _ _ hd => rw [hH] at hd; cases hd
  · rename_i k g i off hx
    rw [lget_eq] at h
    split at h
    · rename_i g' sz xs hk
      obtain ⟨rfl, y, hy, h⟩ := h
      rcases partK_sound h with h | ⟨u, hu, hrun⟩
      · exact .inl h
      · refine .inr ⟨u, hu, fun o ho w β H m a hs => ?_⟩
        have hp := opd_rep hs x
        obtain ⟨r, hr, hH⟩ := hs.at hk
        simp only [hx, V.conv, Ref.conv, hr] at hp
        simp only [HObj.conv] at hH
        generalize hq : a.eval x = q at hp
        cases hp with
        | eptrLive _ _ _ _ sz' xs' b N hH' hβ hi =>
          rw [hH] at hH'
          injection hH' with hH'
          injection hH' with hH'
          injection hH' with _ e1 e2
          subst e1 e2
          have := hs.hrel.obj r _ hH
          rw [hβ] at this
          obtain ⟨vs, e, _, h1, h2, h3, h4, h5, h6⟩ := this
          have hyl : y.cells.length = sz := (h5 y (List.mem_of_getElem? hy)).1
          have hbd : ∀ j, j < sz → i * sz + j < vs.size := fun j hj => by
            have : (i + 1) * sz ≤ xs.length * sz := Nat.mul_le_mul_right _ hi
            rw [Nat.add_mul] at this
            omega
          have hcell : ∀ j, j < y.cells.length → w.cell? ((⟨b, i * sz, none⟩ : Addr).add j) = some (vs.getD (i * sz + j) Go.undef) := fun j hj => by
            have e1 : (⟨b, i * sz, none⟩ : Addr).add j = ⟨b, i * sz + j, none⟩ := by unfold Addr.add; split <;> simp_all
            rw [e1, cell_of_row w b _ vs e (0, 0) h1]
            have := hbd j (by omega)
            simp [this]
          obtain ⟨v, k1, k2⟩ := hrun w ⟨b, i * sz, none⟩ (fun j => vs.getD (i * sz + j) Go.undef) hcell
          refine ⟨v, ?_, k2 w β H m fun j x' hj => ?_⟩
          · have e1 : (⟨b, i * sz, none⟩ : Addr).add off = ⟨b, i * sz + off, none⟩ := by unfold Addr.add; split <;> simp_all
            rw [e1] at k1
            simp [execOp, ho, Instr.loadAt, Instr.sureAddr, hq, k1]
          · have hjl := lt_of_get hj
            have hjv := hbd j (by omega)
            have := h6 i y j x' vs[i * sz + j] hy hj (Array.getElem?_eq_getElem hjv)
            rw [conv_of_rep m _ this]
            simpa [hjv] using this
        | eptrStale _ _ _ _ g' sz' xs' _ hH' hg =>
          rw [hH] at hH'
          injection hH' with hH'
          injection hH' with hH'
          injection hH' with e0 _ _
          omega
        | eptrDead _ _ _ _ _ hd => rw [hH] at hd; cases hd
    · exact .inl h
  · exact .inl h

theorem ev_load {t : TypeId} {x : Operand} (h : evOp c (.load t x) E T F K) : F ∨ ∃ u T', K u T' ∧ OpTo c (.load t x) E T u T' := by
  simp only [evOp] at h
  rcases loadK_sound rfl h with h | ⟨u, h1, h2⟩
  · exact .inl h
  · exact .inr ⟨u, T, h1, OpTo.still h2⟩
end Bow
/- AE8: the operations, one by one: stores, arithmetic, addresses. -/
namespace Bow
open Go

variable {c : Cx} {E : Env} {T : Heap} {F : Prop} {K : V → Heap → Prop}

theorem over_conv {m : List Nat} {xs cs ys : List V} {n : Nat} (h : over xs n cs ys) : over (V.convL m xs) n (V.convL m cs) (V.convL m ys) := by
  obtain ⟨h1, h2, h3⟩ := h
  refine ⟨by simpa [V.convL_eq] using h1, by simpa [V.convL_eq] using h2, fun j => ?_⟩
  have := h3 j
  simp only [V.convL_eq, List.getElem?_map, this, List.length_map]
  split <;> rfl

mutual
theorem pure_conv (m : List Nat) : ∀ v : V, v.pureB = true → v.conv m = v
  | .osl r _ _ _, h | .ptr r _, h | .eptr r _ _ _, h | .yld r, h => by cases r <;> first | rfl | cases h
  | .agg cs, h | .tup cs, h => by simp only [V.conv, pureL_conv m cs h]
  | .fn _ a c, h => by
    simp only [V.pureB, Bool.and_eq_true] at h
    simp only [V.conv, pureL_conv m a h.1, pureL_conv m c h.2]
  | .iface _ v, h => by simp only [V.conv, pure_conv m v h]
  | .int .., _ | .bool _, _ | .tt, _ | .ff, _ | .str _, _ | .sl .., _ | .nilsl, _ | .iptr .., _ | .nilp, _ | .nilf, _ | .nili, _ | .nilmap, _ | .undef, _ => rfl
theorem pureL_conv (m : List Nat) : ∀ vs : List V, V.pureL vs = true → V.convL m vs = vs
  | [], _ => rfl
  | v :: vs, h => by
    simp only [V.pureL, Bool.and_eq_true] at h
    simp only [V.convL, pure_conv m v h.1, pureL_conv m vs h.2]
end

theorem mkE_cells (x0 : V) (cs : List V) (h : onesB cs = true) : (mkE x0 cs).cells = cs := by
  unfold mkE
  split
  · rfl
  · split
    · rename_i c
      have := (onesB_iff _).1 h c (by simp)
      cases c <;> first | rfl | cases this
    · rfl

theorem ev_store {t : TypeId} {x y : Operand} (h : evOp c (.store t x y) E T F K) : F ∨ ∃ u T', K u T' ∧ OpTo c (.store t x y) E T u T' := by
  simp only [evOp, fv_eq] at h
  unfold storeK at h
  split at h
  · rename_i k g ix off i hx hi
    rw [lget_eq] at h
    split at h
    · rename_i g' sz xs hk
      obtain ⟨rfl, x0, hx0, h⟩ := h
      rw [lcount_eq] at h
      cases hb : (Nat.beq ((opd E y).cells.length + 0) i.size && onesB (opd E y).cells && V.pureL (opd E y).cells) with
      | false => rw [hb] at h; exact .inl h
      | true =>
        rw [hb] at h
        simp only [Bool.and_eq_true, Nat.add_zero] at hb
        have hsz := Nat.eq_of_beq_eq_true hb.1.1
        rcases lover_sound _ _ _ _ h with h | ⟨cs', ho, h⟩
        · exact .inl h
        · rw [lset_eq] at h
          refine .inr ⟨_, _, h, fun o hop w β H m a hs => ?_⟩
          have hp := opd_rep hs x
          simp only [hx] at hp
          obtain ⟨r, hr, hH⟩ := hs.at hk
          simp only [HObj.conv] at hH
          simp only [V.conv, Ref.conv, hr] at hp
          have hob := hs.hrel.obj r _ hH
          generalize hv : a.eval x = q at hp
          cases hp with
          | eptrStale _ _ _ _ g' sz' xs' _ hH' hg =>
            rw [hH] at hH'
            injection hH' with hH'
            injection hH' with hH'
            injection hH' with e0 _ _
            omega
          | eptrDead _ _ _ _ _ hd => rw [hH] at hd; cases hd
          | eptrLive _ _ _ _ sz' xs' b N hH' hβ hi' =>
          rw [hH] at hH'
          injection hH' with hH'
          injection hH' with hH'
          injection hH' with _ e1 e2
          subst e1 e2
          rw [hβ] at hob
          obtain ⟨vs, e, hty, hbk, hN, hle, hpos, hok, hc⟩ := hob
          have hy : Rep w β H ((opd E y).conv m) (a.eval y) := opd_rep hs y
          obtain ⟨hyl, hyc, hy1⟩ := rep_cells hy (by rw [cells_conv, onesB_conv]; exact hb.1.2)
          rw [cells_conv, pureL_conv _ _ hb.2] at hyl hyc
          obtain ⟨hx0l, hx0o⟩ := hok x0 (List.mem_of_getElem? hx0)
          have hixl := lt_of_get hx0
          have hrow : ix * sz + sz ≤ vs.size := by
            have : (ix + 1) * sz ≤ xs.length * sz := Nat.mul_le_mul_right _ hixl
            rw [Nat.add_mul] at this
            omega
          have hofit : off + (opd E y).cells.length ≤ x0.cells.length := ho.1
          have hfit : ix * sz + off + (a.eval y).cells.size ≤ vs.size := by omega
          have hrun := run_storeCells_at c.P b (ix * sz + off) e (a.eval y).cells.toList 0 vs w hbk (by simpa using hfit) hy1
          have hI := tyI_sound hi
          obtain ⟨vs', hvs'⟩ : ∃ vs', vs' = (vs.toList.take (ix * sz + off + 0) ++ (a.eval y).cells.toList ++ vs.toList.drop (ix * sz + off + 0 + (a.eval y).cells.toList.length)).toArray := ⟨_, rfl⟩
          rw [← hvs'] at hrun
          have hheap : (w.setRow b vs').heap[b]? = some (.cells vs' e (0, 0)) := setRow_heap w b vs _ e _ hbk
          have hother : ∀ q, q ≠ b → (w.setRow b vs').heap[q]? = w.heap[q]? := fun q hq => setRow_other w b q _ hq
          have hvsz : vs'.size = vs.size := by rw [hvs']; simp; omega
          have hget : ∀ j, vs'[j]? = if ix * sz + off ≤ j ∧ j < ix * sz + off + (a.eval y).cells.size then (a.eval y).cells[j - (ix * sz + off)]? else vs[j]? := by
            intro j
            rw [hvs']
            simp only [Nat.add_zero, Array.length_toList, List.getElem?_toArray]
            rcases Nat.lt_or_ge j (ix * sz + off) with h1 | h1
            · rw [if_neg (by omega), List.getElem?_append_left (by simp; omega), List.getElem?_append_left (by simp; omega), List.getElem?_take, if_pos h1]
              simp
            · rcases Nat.lt_or_ge j (ix * sz + off + (a.eval y).cells.size) with h2 | h2
              · rw [if_pos ⟨h1, h2⟩, List.getElem?_append_left (by simp; omega), List.getElem?_append_right (by simp; omega)]
                have : min (ix * sz + off) vs.size = ix * sz + off := by omega
                simp [this]
              · rw [if_neg (by omega), List.getElem?_append_right (by simp; omega)]
                have e1 : min (ix * sz + off) vs.size = ix * sz + off := by omega
                simp only [List.length_append, List.length_take, Array.length_toList, e1, List.getElem?_drop]
                rw [Nat.add_sub_cancel' h2]
                simp
          have hones : onesB cs' = true := by
            rw [onesB_iff]
            intro z hz
            obtain ⟨j, hj, rfl⟩ := List.mem_iff_getElem.1 hz
            have := ho.2.2 j
            rw [List.getElem?_eq_getElem hj] at this
            split at this
            · exact (onesB_iff _).1 hb.1.2 _ (List.mem_of_getElem? this.symm)
            · exact (onesB_iff _).1 hx0o _ (List.mem_of_getElem? this.symm)
          have hcs' : cs'.length = sz := ho.2.1.trans hx0l
          have hmk : (mkE x0 cs').cells = cs' := mkE_cells x0 cs' hones
          obtain ⟨xs', hxs'⟩ : ∃ xs', xs' = xs.set ix (mkE x0 cs') := ⟨_, rfl⟩
          rw [← hxs']
          have hxl : xs'.length = xs.length := by rw [hxs']; simp
          have hfr : Fr w β H (w.setRow b vs') β (H.set r (some (.vec g sz xs'))) := Fr.turn hH hβ ⟨Nat.le_refl _, fun _ => ⟨rfl, hxl.symm⟩⟩ rfl rfl rfl (by simp [World.setRow]) hother
          have hok' : ∀ x ∈ xs', okE sz x := fun x hx => by
            rw [hxs'] at hx
            rcases List.mem_or_eq_of_mem_set hx with h1 | h1
            · exact hok x h1
            · subst h1
              exact ⟨by rw [hmk]; exact hcs', by rw [hmk]; exact hones⟩
          have hrel : HRel (w.setRow b vs') β (H.set r (some (.vec g sz xs'))) := by
            refine hs.hrel.turn hH hβ ⟨Nat.le_refl _, fun _ => ⟨rfl, hxl.symm⟩⟩ rfl rfl rfl (by simp [World.setRow]) hother ⟨vs', e, hty, hheap, by omega, by rw [hxl]; omega, hpos, hok', fun i1 z j z1 u hi1 hj hu => ?_⟩
            refine Rep.mono ?_ hfr
            rw [hget] at hu
            have hzl := (hok' z (List.mem_of_getElem? hi1)).1
            have hjl := lt_of_get hj
            rw [hxs'] at hi1
            by_cases hii : i1 = ix
            · subst hii
              rw [List.getElem?_set_self hixl] at hi1
              injection hi1 with hi1
              subst hi1
              rw [hmk, ho.2.2 j] at hj
              split at hj
              · rename_i hjj
                rw [if_pos (by omega)] at hu
                refine hyc (j - off) z1 u hj ?_
                rw [← hu]
                congr 1
                omega
              · rename_i hjj
                rw [if_neg (by omega)] at hu
                exact hc i1 x0 j z1 u hx0 hj hu
            · rw [List.getElem?_set_ne (fun e => hii e.symm)] at hi1
              have hne : ¬ (ix * sz + off ≤ i1 * sz + j ∧ i1 * sz + j < ix * sz + off + (a.eval y).cells.size) := by
                rintro ⟨q1, q2⟩
                rcases Nat.lt_or_gt_of_ne hii with h3 | h3
                · have : (i1 + 1) * sz ≤ ix * sz := Nat.mul_le_mul_right _ h3
                  rw [Nat.add_mul] at this
                  omega
                · have : (ix + 1) * sz ≤ i1 * sz := Nat.mul_le_mul_right _ h3
                  rw [Nat.add_mul] at this
                  omega
              rw [if_neg hne] at hu
              exact hc i1 z j z1 u hi1 hj hu
          have hset := hs.set (o' := some (.vec g sz xs')) hr (fun o1 h1 => by injection h1 with h1; subst h1; trivial) (fun o1 h1 h2 => by rw [hk] at h1; injection h1 with h1; injection h1 with h1; subst h1; cases h2) hfr hrel
          refine ⟨.skip, Go.undef, w.setRow b vs', β, _, m, ?_, .inr ⟨rfl, rfl⟩, hset, hfr, ?_, List.prefix_refl _⟩
          · simp [execOp, hop, Instr.storeAt, Instr.sureAddr, hv, storeVar, run_sizeOf' hI, ← hsz, ← hyl, hrun]
          · exact .tup [] #[] rfl fun j z u h1 _ => by simp at h1
    · exact .inl h
  · rename_i k off i hx hi
    rw [lget_eq] at h
    split at h
    · rename_i cs hk
      rw [lcount_eq] at h
      cases hb : (Nat.beq ((opd E y).cells.length + 0) i.size && onesB (opd E y).cells) with
      | false => rw [hb] at h; exact .inl h
      | true =>
        rw [hb] at h
        simp only [Bool.and_eq_true, Nat.add_zero] at hb
        have hsz := Nat.eq_of_beq_eq_true hb.1
        rcases lover_sound _ _ _ _ h with h | ⟨cs', ho, h⟩
        · exact .inl h
        · rw [lset_eq] at h
          refine .inr ⟨_, _, h, fun o hop w β H m a hs => ?_⟩
          have hp := opd_rep hs x
          simp only [hx] at hp
          obtain ⟨r, b, N, vs, e, hr, hH, hβ, hv, hbk, hl, hN, hc⟩ := hs.box hk hp
          have hy : Rep w β H ((opd E y).conv m) (a.eval y) := opd_rep hs y
          obtain ⟨hyl, hyc, hy1⟩ := rep_cells hy (by rw [cells_conv, onesB_conv]; exact hb.2)
          rw [cells_conv] at hyl hyc
          have ho' := over_conv (m := m) ho
          have hlen : (V.convL m (opd E y).cells).length = (opd E y).cells.length := by rw [V.convL_eq]; simp
          have hfit : off + (a.eval y).cells.size ≤ vs.size := by
            have := ho.1
            omega
          have hrun := run_storeCells_at c.P b off e (a.eval y).cells.toList 0 vs w hbk (by simpa using hfit) hy1
          have hI := tyI_sound hi
          obtain ⟨vs', hvs'⟩ : ∃ vs', vs' = (vs.toList.take (off + 0) ++ (a.eval y).cells.toList ++ vs.toList.drop (off + 0 + (a.eval y).cells.toList.length)).toArray := ⟨_, rfl⟩
          rw [← hvs'] at hrun
          have hheap : (w.setRow b vs').heap[b]? = some (.cells vs' e (0, 0)) := setRow_heap w b vs _ e _ hbk
          have hother : ∀ q, q ≠ b → (w.setRow b vs').heap[q]? = w.heap[q]? := fun q hq => setRow_other w b q _ hq
          have hvsz : vs'.size = vs.size := by rw [hvs']; simp; omega
          have hget : ∀ j, vs'[j]? = if off ≤ j ∧ j < off + (a.eval y).cells.size then (a.eval y).cells[j - off]? else vs[j]? := by
            intro j
            rw [hvs']
            simp only [Nat.add_zero, Array.length_toList, List.getElem?_toArray]
            rcases Nat.lt_or_ge j off with h1 | h1
            · rw [if_neg (by omega), List.getElem?_append_left (by simp; omega), List.getElem?_append_left (by simp; omega), List.getElem?_take, if_pos h1]
              simp
            · rcases Nat.lt_or_ge j (off + (a.eval y).cells.size) with h2 | h2
              · rw [if_pos ⟨h1, h2⟩, List.getElem?_append_left (by simp; omega), List.getElem?_append_right (by simp; omega)]
                have : min off vs.size = off := by omega
                simp [this]
              · rw [if_neg (by omega), List.getElem?_append_right (by simp; omega)]
                have e1 : min off vs.size = off := by omega
                simp only [List.length_append, List.length_take, Array.length_toList, e1, List.getElem?_drop]
                rw [Nat.add_sub_cancel' h2]
                simp
          have hfr : Fr w β H (w.setRow b vs') β (H.set r (some (.box (V.convL m cs')))) := Fr.turn hH hβ trivial rfl rfl rfl (by simp [World.setRow]) hother
          have hrel : HRel (w.setRow b vs') β (H.set r (some (.box (V.convL m cs')))) := by
            refine hs.hrel.turn hH hβ trivial rfl rfl rfl (by simp [World.setRow]) hother ⟨vs', e, hheap, by omega, by rw [ho'.2.1, V.convL_eq]; simp; omega, fun j z u hz hu => ?_⟩
            refine Rep.mono ?_ hfr
            rw [ho'.2.2 j, hlen] at hz
            rw [hget j] at hu
            split at hz
            · rename_i hj
              rw [if_pos (by omega)] at hu
              exact hyc _ z u hz hu
            · rename_i hj
              rw [if_neg (by omega)] at hu
              exact hc j z u hz hu
          have hsc' : (HObj.box cs').sc m.length := by
            refine scL_of_rep (w := w.setRow b vs') (β := β) (H := H.set r (some (.box (V.convL m cs')))) cs' vs' (by rw [ho.2.1]; omega) fun j z u hz hu => ?_
            have := hrel.obj r (.box (V.convL m cs')) (by simp [hs.lt hr])
            rw [hβ] at this
            obtain ⟨vs2, e2, q1, q2, q3, q4⟩ := this
            rw [hheap] at q1
            injection q1 with q1
            injection q1 with q1 _ _
            subst q1
            exact q4 j z u hz hu
          have hset := hs.set (o' := some (.box cs')) hr (fun o1 h1 => by injection h1 with h1; subst h1; exact hsc') (fun o1 h1 h2 => by rw [hk] at h1; injection h1 with h1; injection h1 with h1; subst h1; cases h2) hfr hrel
          refine ⟨.skip, Go.undef, w.setRow b vs', β, _, m, ?_, .inr ⟨rfl, rfl⟩, hset, hfr, ?_, List.prefix_refl _⟩
          · simp [execOp, hop, Instr.storeAt, Instr.sureAddr, hv, storeVar, run_sizeOf' hI, ← hsz, ← hyl, hlen, hrun]
          · exact .tup [] #[] rfl fun j z u h1 _ => by simp at h1
    · exact .inl h
  · exact .inl h

theorem ev_nilCheck {x : Operand} (h : evOp c (.nilCheck x) E T F K) : F ∨ ∃ u T', K u T' ∧ OpTo c (.nilCheck x) E T u T' := by
  simp only [evOp] at h
  split at h
  · rename_i k o hx
    rw [lget_eq] at h
    split at h
    · rename_i cs hk
      refine .inr ⟨_, _, h, OpTo.still fun op hop w β H m a hs => ⟨a.eval x, ?_, by rw [← hx]; exact opd_rep hs x⟩⟩
      have hp := opd_rep hs x
      simp only [hx] at hp
      obtain ⟨r, b, N, vs, e, hr, hH, hβ, hv, _⟩ := hs.box hk hp
      simp [execOp, hop, hv]
    · exact .inl h
  · rename_i r o hx
    obtain ⟨hni, ⟨cs, hB⟩, h⟩ := h
    refine .inr ⟨_, _, h, OpTo.still fun op hop w β H m a hs => ⟨a.eval x, ?_, by rw [← hx]; exact opd_rep hs x⟩⟩
    have hp := opd_rep hs x
    simp only [hx, V.conv, Ref.conv] at hp
    have hH : H[r]? = some (some (.box cs)) := hs.baseAt hni hB
    generalize hq : a.eval x = q at hp
    cases hp with
    | ptrLive _ _ b N cs' hH' hβ => simp [execOp, hop, hq]
    | ptrDead _ _ _ hd => rw [hH] at hd; cases hd
  · rename_i cs o hx
    refine .inr ⟨_, _, h, OpTo.still fun op hop w β H m a hs => ⟨a.eval x, ?_, by rw [← hx]; exact opd_rep hs x⟩⟩
    have := opd_rep hs x
    simp only [hx, V.conv] at this
    generalize hq : a.eval x = q at this
    cases this
    simp [execOp, hop, hq]
  · rename_i f fa cap hx
    split at h
    · refine .inr ⟨_, _, h, OpTo.still fun op hop w β H m a hs => ⟨a.eval x, ?_, by rw [← hx]; exact opd_rep hs x⟩⟩
      have := opd_rep hs x
      simp only [hx, V.conv] at this
      generalize hq : a.eval x = q at this
      cases this
      simp [execOp, hop, hq]
    · exact .inl h
  · exact .inl h
end Bow
/- AE9: the operations, one by one: arithmetic, comparisons. -/
namespace Bow
open Go

variable {c : Cx} {E : Env} {T : Heap} {F : Prop} {K : V → Heap → Prop}

/-- What an operation on two values comes to. -/
def Bin (P : Program) (t : TypeId) (op : BinOp) (x y v : V) : Prop :=
  ∀ (w : World) (β : Nat → Loc) (H : Heap) (m : List Nat) (a b : Operand) (u u' : Value), Rep w β H (x.conv m) u → Rep w β H (y.conv m) u' →
    ∃ r, (do eqGuard op t a b u u'; binOp op t u u' : Sem Value).run P w = .ok r w ∧ Rep w β H (v.conv m) r

theorem Bin.mk {P : Program} {t : TypeId} {op : BinOp} {x y v : V} {fx fy fv : Value} (hx : ∀ (w : World) β H m u, Rep w β H (V.conv m x) u → u = fx) (hy : ∀ (w : World) β H m u, Rep w β H (V.conv m y) u → u = fy)
    (hr : ∀ (w : World) (a b : Operand), (do eqGuard op t a b fx fy; binOp op t fx fy : Sem Value).run P w = .ok fv w) (hv : ∀ (w : World) β H m, Rep w β H (V.conv m v) fv) : Bin P t op x y v := by
  intro w β H m a b u u' h1 h2
  rw [hx w β H m u h1, hy w β H m u' h2]
  exact ⟨fv, hr w a b, hv w β H m⟩

theorem decide_eq_beqInt (a b : Int) : decide (a = b) = (a == b) := by
  by_cases h : a = b
  · subst h; simp
  · simp [h]
theorem decide_eq_beqL (a b : List UInt8) : decide (a = b) = (a == b) := by
  by_cases h : a = b
  · subst h; simp
  · simp [h]

theorem rep_of_bool {w : World} {β : Nat → Loc} {H : Heap} {m : List Nat} (b : Bool) : Rep w β H ((V.bool b).conv m) (.bool b) := .bool b

theorem boolK_sound {P : Program} {t : TypeId} {op : BinOp} {x y : V} {K : V → Prop} (hx : x = .tt ∨ x = .ff ∨ ∃ b, x = .bool b) (h : binK P t op x y F K) : F ∨ ∃ v, K v ∧ Bin P t op x y v := by
  have key : ∀ (fx fy : Bool), P.underlying t = some .bool → ∀ (w : World) (a b : Operand), (do eqGuard .eql t a b (.bool fx) (.bool fy); binOp .eql t (.bool fx) (.bool fy) : Sem Value).run P w = .ok (.bool (fx == fy)) w ∧
      (do eqGuard .neq t a b (.bool fx) (.bool fy); binOp .neq t (.bool fx) (.bool fy) : Sem Value).run P w = .ok (.bool (!(fx == fy))) w := by
    intro fx fy hu w a b
    have h : ∀ d : Nat, (Op.equalIn (d + 1) t (.bool fx) (.bool fy)).run P w = .ok (fx == fy) w := fun d => by
      simp [Op.equalIn, run_underlying hu]
    have h' : (Op.equal t (.bool fx) (.bool fy)).run P w = .ok (fx == fy) w := h 9999
    constructor
    · simp only [eqGuard, binOp, Sem.run_bind]
      simp
      rw [h']
      rfl
    · simp only [eqGuard, binOp, Sem.run_bind]
      simp
      rw [h']
      rfl
  have go : ∀ (x y v : V) (fx fy : Bool), tyU P t = some .bool → (∀ (w : World) β H m u, Rep w β H (V.conv m x) u → u = .bool fx) → (∀ (w : World) β H m u, Rep w β H (V.conv m y) u → u = .bool fy) →
      ((op = .eql ∧ ∀ (w : World) β H m, Rep w β H (V.conv m v) (.bool (fx == fy))) ∨ (op = .neq ∧ ∀ (w : World) β H m, Rep w β H (V.conv m v) (.bool (!(fx == fy))))) → Bin P t op x y v := by
    intro x y v fx fy hu h1 h2 h3
    have hu := tyU_sound hu
    rcases h3 with ⟨rfl, hv⟩ | ⟨rfl, hv⟩
    · exact .mk h1 h2 (fun w a b => (key fx fy hu w a b).1) hv
    · exact .mk h1 h2 (fun w a b => (key fx fy hu w a b).2) hv
  have ht : ∀ (w : World) β H m u, Rep w β H (V.conv m .tt) u → u = .bool true := fun _ _ _ _ _ => rep_tt
  have hf : ∀ (w : World) β H m u, Rep w β H (V.conv m .ff) u → u = .bool false := fun _ _ _ _ _ => rep_ff
  have hb : ∀ b, ∀ (w : World) β H m u, Rep w β H (V.conv m (.bool b)) u → u = .bool b := fun _ _ _ _ _ _ => rep_bool
  rcases hx with rfl | rfl | ⟨bx, rfl⟩
  · unfold binK at h
    simp only at h
    split at h
    all_goals first
      | exact .inl h
      | (rename_i hu; exact .inr ⟨_, h, go _ _ _ _ _ hu ht ht (.inl ⟨rfl, fun _ _ _ _ => .tt⟩)⟩)
      | (rename_i hu; exact .inr ⟨_, h, go _ _ _ _ _ hu ht hf (.inl ⟨rfl, fun _ _ _ _ => .ff⟩)⟩)
      | (rename_i hu; exact .inr ⟨_, h, go _ _ _ _ _ hu ht ht (.inr ⟨rfl, fun _ _ _ _ => .ff⟩)⟩)
      | (rename_i hu; exact .inr ⟨_, h, go _ _ _ _ _ hu ht hf (.inr ⟨rfl, fun _ _ _ _ => .tt⟩)⟩)
      | (rename_i b hu; exact .inr ⟨_, h, go _ _ _ _ _ hu ht (hb b) (.inl ⟨rfl, fun _ _ _ _ => by cases b <;> exact rep_of_bool _⟩)⟩)
      | (rename_i b hu; exact .inr ⟨_, h, go _ _ _ _ _ hu ht (hb b) (.inr ⟨rfl, fun _ _ _ _ => by cases b <;> exact rep_of_bool _⟩)⟩)
  · unfold binK at h
    simp only at h
    split at h
    all_goals first
      | exact .inl h
      | (rename_i hu; exact .inr ⟨_, h, go _ _ _ _ _ hu hf ht (.inl ⟨rfl, fun _ _ _ _ => .ff⟩)⟩)
      | (rename_i hu; exact .inr ⟨_, h, go _ _ _ _ _ hu hf hf (.inl ⟨rfl, fun _ _ _ _ => .tt⟩)⟩)
      | (rename_i hu; exact .inr ⟨_, h, go _ _ _ _ _ hu hf ht (.inr ⟨rfl, fun _ _ _ _ => .tt⟩)⟩)
      | (rename_i hu; exact .inr ⟨_, h, go _ _ _ _ _ hu hf hf (.inr ⟨rfl, fun _ _ _ _ => .ff⟩)⟩)
      | (rename_i b hu; exact .inr ⟨_, h, go _ _ _ _ _ hu hf (hb b) (.inl ⟨rfl, fun _ _ _ _ => by cases b <;> exact rep_of_bool _⟩)⟩)
      | (rename_i b hu; exact .inr ⟨_, h, go _ _ _ _ _ hu hf (hb b) (.inr ⟨rfl, fun _ _ _ _ => by cases b <;> exact rep_of_bool _⟩)⟩)
  · unfold binK at h
    simp only at h
    split at h
    all_goals first
      | exact .inl h
      | (rename_i hu; exact .inr ⟨_, h, go _ _ _ _ _ hu (hb bx) ht (.inl ⟨rfl, fun _ _ _ _ => by cases bx <;> exact rep_of_bool _⟩)⟩)
      | (rename_i hu; exact .inr ⟨_, h, go _ _ _ _ _ hu (hb bx) hf (.inl ⟨rfl, fun _ _ _ _ => by cases bx <;> exact rep_of_bool _⟩)⟩)
      | (rename_i hu; exact .inr ⟨_, h, go _ _ _ _ _ hu (hb bx) ht (.inr ⟨rfl, fun _ _ _ _ => by cases bx <;> exact rep_of_bool _⟩)⟩)
      | (rename_i hu; exact .inr ⟨_, h, go _ _ _ _ _ hu (hb bx) hf (.inr ⟨rfl, fun _ _ _ _ => by cases bx <;> exact rep_of_bool _⟩)⟩)
      | (rename_i b hu; exact .inr ⟨_, h, go _ _ _ _ _ hu (hb bx) (hb b) (.inl ⟨rfl, fun _ _ _ _ => rep_of_bool _⟩)⟩)
      | (rename_i b hu; exact .inr ⟨_, h, go _ _ _ _ _ hu (hb bx) (hb b) (.inr ⟨rfl, fun _ _ _ _ => rep_of_bool _⟩)⟩)

theorem eqF_sound {P : Program} : ∀ (fs : List Field) (i : Nat) (xs ys : List V) (K : Bool → Prop), (∀ f ∈ fs, ¬ f.name = "_") → eqF P i fs xs ys F K → F ∨ ∃ b, K b ∧
    ∀ (w : World) (β : Nat → Loc) (H : Heap) (m : List Nat) (us us' : Array Value) (d : Nat), (∀ (j : Nat) (x : V), xs[j]? = some x → ∃ u, us[i + j]? = some u ∧ Rep w β H (x.conv m) u) → (∀ (j : Nat) (x : V), ys[j]? = some x → ∃ u, us'[i + j]? = some u ∧ Rep w β H (x.conv m) u) →
      (Op.eqFields (d + 1) us us' fs).run P w = .ok b w
  | [], i, xs, ys, K, _, h => .inr ⟨true, h, fun _ _ _ _ _ _ _ _ _ => by simp [Op.eqFields]⟩
  | f :: fs, i, [], ys, K, _, h => .inl h
  | f :: fs, i, x :: xs, [], K, _, h => .inl h
  | f :: fs, i, x :: xs, y :: ys, K, hn, h => by
    rw [eqF] at h
    have hnf := hn f List.mem_cons_self
    have hns : ∀ g ∈ fs, ¬ g.name = "_" := fun g hg => hn g (List.mem_cons_of_mem _ hg)
    cases hb : Nat.beq f.offset i with
    | false => rw [hb] at h; exact .inl h
    | true =>
      rw [hb] at h
      simp only [cond_true] at h
      have ho := Nat.eq_of_beq_eq_true hb
      have fin : ∀ (e : Bool) (d0 : TypeDesc), tyU P f.type = some d0 → aggT d0 = false → (F ∨ ∃ r, K (e && r) ∧ ∀ (w : World) (β : Nat → Loc) (H : Heap) (m : List Nat) (us us' : Array Value) (d : Nat), (∀ (j : Nat) (x : V), xs[j]? = some x → ∃ u, us[i + 1 + j]? = some u ∧ Rep w β H (x.conv m) u) → (∀ (j : Nat) (x : V), ys[j]? = some x → ∃ u, us'[i + 1 + j]? = some u ∧ Rep w β H (x.conv m) u) →
          (Op.eqFields (d + 1) us us' fs).run P w = .ok r w) →
          (∀ (w : World) (β : Nat → Loc) (H : Heap) (m : List Nat) (d : Nat) (u u' : Value), Rep w β H (x.conv m) u → Rep w β H (y.conv m) u' → (Op.equalIn (d + 1) f.type u u').run P w = .ok e w) →
          F ∨ ∃ b, K b ∧ ∀ (w : World) (β : Nat → Loc) (H : Heap) (m : List Nat) (us us' : Array Value) (d : Nat), (∀ (j : Nat) (z : V), (x :: xs)[j]? = some z → ∃ u, us[i + j]? = some u ∧ Rep w β H (z.conv m) u) → (∀ (j : Nat) (z : V), (y :: ys)[j]? = some z → ∃ u, us'[i + j]? = some u ∧ Rep w β H (z.conv m) u) →
            (Op.eqFields (d + 1) us us' (f :: fs)).run P w = .ok b w := by
        intro e d0 hd0 ha hrest heq
        rcases hrest with h | ⟨r, h1, h2⟩
        · exact .inl h
        refine .inr ⟨e && r, h1, fun w β H m us us' d hx hy => ?_⟩
        obtain ⟨u, e1, e2⟩ := hx 0 x rfl
        obtain ⟨u', e3, e4⟩ := hy 0 y rfl
        have hu := tyU_sound hd0
        have p1 : (part f.type us f.offset).run P w = .ok u w := by
          have : us[i]? = some u := e1
          simp [part, run_isAgg' hu, ha, ho, this]
        have p2 : (part f.type us' f.offset).run P w = .ok u' w := by
          have : us'[i]? = some u' := e3
          simp [part, run_isAgg' hu, ha, ho, this]
        have p3 := heq w β H m d u u' e2 e4
        have p4 := h2 w β H m us us' d (fun j z hz => by have := hx (j + 1) z (by simpa using hz); rwa [show i + (j + 1) = i + 1 + j by omega] at this) (fun j z hz => by have := hy (j + 1) z (by simpa using hz); rwa [show i + (j + 1) = i + 1 + j by omega] at this)
        rw [Op.eqFields, if_pos (by simpa using hnf)]
        simp only [Sem.run_bind, p1, Result.andThen_ok, p2, p3]
        cases e with
        | false => simp
        | true => simp [p4]
      cases he : eq1 P f.type x y with
      | none => rw [he] at h; exact .inl h
      | some e =>
        rw [he] at h
        simp only at h
        unfold eq1 at he
        have go : ∀ (d0 : TypeDesc), tyU P f.type = some d0 → aggT d0 = false → (∀ (w : World) (β : Nat → Loc) (H : Heap) (m : List Nat) (d : Nat) (u u' : Value), Rep w β H (x.conv m) u → Rep w β H (y.conv m) u' → (Op.equalIn (d + 1) f.type u u').run P w = .ok e w) → _ :=
          fun d0 h1 h2 h3 => fin e d0 h1 h2 (eqF_sound fs _ xs ys _ hns h) h3
        split at he
        · cases he
        rename_i d0 ht
        cases hi : isIntT d0 with
        | true =>
          obtain ⟨kk, rfl⟩ : ∃ kk, d0 = .int kk := by cases d0 <;> first | exact ⟨_, rfl⟩ | cases hi
          simp only [isIntT, cond_true] at he
          split at he
          · cases he
          rename_i p hp
          split at he
          · cases he
          rename_i q hq
          cases hkk : Nat.beq (kindN p.1) (kindN q.1) with
          | false => rw [hkk] at he; cases he
          | true =>
            rw [hkk] at he
            injection he with he
            obtain ⟨k1, a⟩ := p
            obtain ⟨k2, b⟩ := q
            have hx : x = .int k1 a := by cases x <;> simp [asI] at hp; rw [hp.1, hp.2]
            have hy : y = .int k2 b := by cases y <;> simp [asI] at hq; rw [hq.1, hq.2]
            have hk12 : k1 = k2 := by
              have := Nat.eq_of_beq_eq_true hkk
              cases k1 <;> cases k2 <;> first | rfl | cases this
            subst hx hy hk12
            refine go _ ht rfl fun w β H m d u u' r1 r2 => ?_
            have q1 := rep_int r1
            have q2 := rep_int r2
            subst q1 q2
            rw [run_equalIn_int w d _ _ _ _ _ (tyU_sound ht), ← he, decide_eq_beqInt]
        | false =>
          rw [hi] at he
          cases hs : isStrT d0 with
          | false => rw [hs] at he; cases he
          | true =>
            obtain rfl : d0 = .string := by cases d0 <;> first | rfl | cases hs
            simp only [isStrT, cond_true, cond_false] at he
            split at he
            · cases he
            rename_i a hp
            split at he
            · cases he
            rename_i b hq
            injection he with he
            have hx : x = .str a := by cases x <;> simp [asS] at hp; rw [hp]
            have hy : y = .str b := by cases y <;> simp [asS] at hq; rw [hq]
            subst hx hy
            refine go _ ht rfl fun w β H m d u u' r1 r2 => ?_
            have q1 := (rep_str r1).1
            have q2 := (rep_str r2).1
            subst q1 q2
            rw [run_equalIn_string w d _ _ _ (tyU_sound ht), ← he, decide_eq_beqL]
            simp [ByteArray.toList_eq]

theorem eqStruct_sound {P : Program} {t : TypeId} {fs : Array Field} {xs ys : List V} {K : Bool → Prop} (ht : tyU P t = some (.struct fs)) (hok : eqOk P t fs.toList = true) (h : eqF P 0 fs.toList xs ys F K) :
    F ∨ ∃ b, K b ∧ Bin P t .eql (.agg xs) (.agg ys) (.bool b) ∧ Bin P t .neq (.agg xs) (.agg ys) (.bool (!b)) := by
  simp only [eqOk, Bool.and_eq_true, Bool.not_eq_true', List.all_eq_true, decide_eq_false_iff_not] at hok
  obtain ⟨⟨ho1, ho2⟩, ho3⟩ := hok
  rcases eqF_sound _ _ _ _ _ ho3 h with h | ⟨b, hk, hb⟩
  · exact .inl h
  have hu := tyU_sound ht
  have hf : P.fieldsOf t = fs := by simp [Program.fieldsOf, hu]
  have core : ∀ (w : World) (β : Nat → Loc) (H : Heap) (m : List Nat) (u u' : Value), Rep w β H ((V.agg xs).conv m) u → Rep w β H ((V.agg ys).conv m) u' → ∃ us us', u = .agg us ∧ u' = .agg us' ∧ (Op.equalIn 10000 t (.agg us) (.agg us')).run P w = .ok b w := by
    intro w β H m u u' h1 h2
    simp only [V.conv] at h1 h2
    cases h1 with
    | agg _ us hl1 hc1 =>
      cases h2 with
      | agg _ us' hl2 hc2 =>
        refine ⟨us, us', rfl, rfl, ?_⟩
        rw [run_equalIn_struct w 9999 t us us' (by rw [hf]; exact hu) ho1, hf]
        refine hb w β H m us us' 9998 (fun j x hx => ?_) (fun j x hx => ?_)
        · have hj : j < us.size := by rw [← hl1, V.convL_eq, List.length_map]; exact lt_of_get hx
          refine ⟨us[j], by rw [Nat.zero_add]; exact Array.getElem?_eq_getElem hj, hc1 j _ _ (by rw [V.convL_eq, List.getElem?_map, hx]; rfl) (Array.getElem?_eq_getElem hj)⟩
        · have hj : j < us'.size := by rw [← hl2, V.convL_eq, List.length_map]; exact lt_of_get hx
          refine ⟨us'[j], by rw [Nat.zero_add]; exact Array.getElem?_eq_getElem hj, hc2 j _ _ (by rw [V.convL_eq, List.getElem?_map, hx]; rfl) (Array.getElem?_eq_getElem hj)⟩
  refine .inr ⟨b, hk, fun w β H m a a' u u' h1 h2 => ?_, fun w β H m a a' u u' h1 h2 => ?_⟩
  · obtain ⟨us, us', rfl, rfl, hr⟩ := core w β H m u u' h1 h2
    refine ⟨.bool b, ?_, .bool b⟩
    rw [Sem.run_bind, run_eqGuard_agg w .eql t a a' us us' ho2, Result.andThen_ok, run_eql_struct, hr]
    rfl
  · obtain ⟨us, us', rfl, rfl, hr⟩ := core w β H m u u' h1 h2
    refine ⟨.bool (!b), ?_, .bool (!b)⟩
    rw [Sem.run_bind, run_eqGuard_agg w .neq t a a' us us' ho2, Result.andThen_ok, run_neq_struct, hr]
    rfl

theorem binK_sound {P : Program} {t : TypeId} {op : BinOp} {x y : V} {K : V → Prop} (h : binK P t op x y F K) : F ∨ ∃ v, K v ∧ Bin P t op x y v := by
  have hi : ∀ k n, ∀ (w : World) β H m u, Rep w β H (V.conv m (.int k n)) u → u = .int k n := fun _ _ _ _ _ _ _ => rep_int
  have hi' : ∀ k n, ∀ (w : World) β H m, Rep w β H (V.conv m (.int k n)) (.int k n) := fun k n _ _ _ _ => .int k n
  have hb' : ∀ b, ∀ (w : World) β H m, Rep w β H (V.conv m (.bool b)) (.bool b) := fun b _ _ _ _ => .bool b
  unfold binK at h
  split at h
  · rename_i a b
    split at h
    · obtain ⟨⟨l, u⟩, h⟩ := h
      exact .inr ⟨_, h, .mk (hi _ _) (hi _ _) (fun w p q => by simp [eqGuard, binOp, Op.intArith, IntWalk.i64_in _ ⟨l, u⟩]) (hi' _ _)⟩
    · obtain ⟨⟨l, u⟩, h⟩ := h
      exact .inr ⟨_, h, .mk (hi _ _) (hi _ _) (fun w p q => by simp [eqGuard, binOp, Op.intArith, IntWalk.i64_in _ ⟨l, u⟩]) (hi' _ _)⟩
    · obtain ⟨⟨l, u⟩, h⟩ := h
      exact .inr ⟨_, h, .mk (hi _ _) (hi _ _) (fun w p q => by simp [eqGuard, binOp, Op.intArith, IntWalk.i64_in _ ⟨l, u⟩]) (hi' _ _)⟩
    · obtain ⟨h0, ⟨l, u⟩, h⟩ := h
      exact .inr ⟨_, h, .mk (hi _ _) (hi _ _) (fun w p q => by simp [eqGuard, binOp, Op.intDiv, h0, IntWalk.i64_in _ ⟨l, u⟩]) (hi' _ _)⟩
    · obtain ⟨h0, h⟩ := h
      exact .inr ⟨_, h, .mk (hi _ _) (hi _ _) (fun w p q => by simp [eqGuard, binOp, Op.intDiv, h0]) (hi' _ _)⟩
    · exact .inr ⟨_, h, .mk (hi _ _) (hi _ _) (fun w p q => by simp [eqGuard, binOp, Op.intCmp, decide_eq_beqInt]) (hb' _)⟩
    · exact .inr ⟨_, h, .mk (hi _ _) (hi _ _) (fun w p q => by simp [eqGuard, binOp, Op.intCmp, decide_eq_beqInt, bne]) (hb' _)⟩
    · exact .inr ⟨_, h, .mk (hi _ _) (hi _ _) (fun w p q => by simp [eqGuard, binOp, Op.intCmp]) (hb' _)⟩
    · exact .inr ⟨_, h, .mk (hi _ _) (hi _ _) (fun w p q => by simp [eqGuard, binOp, Op.intCmp]) (hb' _)⟩
    · exact .inr ⟨_, h, .mk (hi _ _) (hi _ _) (fun w p q => by simp [eqGuard, binOp, Op.intCmp]) (hb' _)⟩
    · exact .inr ⟨_, h, .mk (hi _ _) (hi _ _) (fun w p q => by simp [eqGuard, binOp, Op.intCmp]) (hb' _)⟩
    · exact .inl h
  · rename_i a b
    split at h
    · exact .inr ⟨_, h, .mk (hi _ _) (hi _ _) (fun w p q => by simp [eqGuard, binOp, Op.intCmp, decide_eq_beqInt]) (hb' _)⟩
    · exact .inr ⟨_, h, .mk (hi _ _) (hi _ _) (fun w p q => by simp [eqGuard, binOp, Op.intCmp, decide_eq_beqInt, bne]) (hb' _)⟩
    · exact .inr ⟨_, h, .mk (hi _ _) (hi _ _) (fun w p q => by simp [eqGuard, binOp, Op.intCmp]) (hb' _)⟩
    · exact .inr ⟨_, h, .mk (hi _ _) (hi _ _) (fun w p q => by simp [eqGuard, binOp, Op.intCmp]) (hb' _)⟩
    · exact .inr ⟨_, h, .mk (hi _ _) (hi _ _) (fun w p q => by simp [eqGuard, binOp, Op.intCmp]) (hb' _)⟩
    · exact .inr ⟨_, h, .mk (hi _ _) (hi _ _) (fun w p q => by simp [eqGuard, binOp, Op.intCmp]) (hb' _)⟩
    · exact .inl h
  · rename_i a b
    split at h
    · exact .inr ⟨_, h, .mk (hi _ _) (hi _ _) (fun w p q => by simp [eqGuard, binOp, Op.intCmp, decide_eq_beqInt]) (hb' _)⟩
    · exact .inr ⟨_, h, .mk (hi _ _) (hi _ _) (fun w p q => by simp [eqGuard, binOp, Op.intCmp, decide_eq_beqInt, bne]) (hb' _)⟩
    · exact .inr ⟨_, h, .mk (hi _ _) (hi _ _) (fun w p q => by simp [eqGuard, binOp, Op.intCmp]) (hb' _)⟩
    · exact .inr ⟨_, h, .mk (hi _ _) (hi _ _) (fun w p q => by simp [eqGuard, binOp, Op.intCmp]) (hb' _)⟩
    · exact .inr ⟨_, h, .mk (hi _ _) (hi _ _) (fun w p q => by simp [eqGuard, binOp, Op.intCmp]) (hb' _)⟩
    · exact .inr ⟨_, h, .mk (hi _ _) (hi _ _) (fun w p q => by simp [eqGuard, binOp, Op.intCmp]) (hb' _)⟩
    · exact .inr ⟨_, h, .mk (hi _ _) (hi _ _) (fun w p q => by simp [eqGuard, binOp, Op.intArith]) (hi' _ _)⟩
    · exact .inr ⟨_, h, .mk (hi _ _) (hi _ _) (fun w p q => by simp [eqGuard, binOp, Op.intArith]) (hi' _ _)⟩
    · exact .inr ⟨_, h, .mk (hi _ _) (hi _ _) (fun w p q => by simp [eqGuard, binOp, Op.intArith]) (hi' _ _)⟩
    · exact .inl h
  · rename_i a b
    have hs : ∀ s, ∀ (w : World) β H m u, Rep w β H (V.conv m (.str s)) u → u = .string ⟨s.toArray⟩ := fun _ _ _ _ _ _ h => (rep_str h).1
    split at h
    · obtain ⟨hl, h⟩ := h
      refine .inr ⟨_, h, .mk (hs _) (hs _) (fun w p q => ?_) (fun w β H m => .str (a ++ b) (by unfold maxLen; omega))⟩
      have e : (⟨a.toArray⟩ : ByteArray) ++ ⟨b.toArray⟩ = ⟨(a ++ b).toArray⟩ := by
        apply ByteArray.ext
        simp [ByteArray.data_append]
      have hsz : ¬ (((⟨a.toArray⟩ : ByteArray).size + (⟨b.toArray⟩ : ByteArray).size : Nat) : Int) > IntKind.i64.max := by
        have e1 : IntKind.i64.max = 9223372036854775807 := by decide
        have e2 : (⟨a.toArray⟩ : ByteArray).size = a.length := by simp [ByteArray.size]
        have e3 : (⟨b.toArray⟩ : ByteArray).size = b.length := by simp [ByteArray.size]
        rw [e1, e2, e3]
        simp at hl
        omega
      simp only [eqGuard, binOp, Op.stringOp, if_neg hsz, e]
      simp
    · exact .inr ⟨_, h, .mk (hs _) (hs _) (fun w p q => by simp [eqGuard, binOp, Op.stringOp, decide_eq_beqL]) (hb' _)⟩
    · exact .inr ⟨_, h, .mk (hs _) (hs _) (fun w p q => by simp [eqGuard, binOp, Op.stringOp, decide_eq_beqL]) (hb' _)⟩
    · exact .inr ⟨_, h, .mk (hs _) (hs _) (fun w p q => by simp [eqGuard, binOp, Op.stringOp]) (hb' _)⟩
    · exact .inr ⟨_, h, .mk (hs _) (hs _) (fun w p q => by simp [eqGuard, binOp, Op.stringOp, decide_eq_beqL]) (hb' _)⟩
    · exact .inr ⟨_, h, .mk (hs _) (hs _) (fun w p q => by simp [eqGuard, binOp, Op.stringOp, decide_eq_beqL]) (hb' _)⟩
    · exact .inr ⟨_, h, .mk (hs _) (hs _) (fun w p q => by simp [eqGuard, binOp, Op.stringOp]) (hb' _)⟩
    · exact .inl h
  · split at h
    · rename_i fs ht
      split at h
      · obtain ⟨h0, h⟩ := h
        rcases eqStruct_sound ht h0 h with h | ⟨b, h1, h2, _⟩
        · exact .inl h
        · exact .inr ⟨_, h1, h2⟩
      · obtain ⟨h0, h⟩ := h
        rcases eqStruct_sound ht h0 h with h | ⟨b, h1, _, h2⟩
        · exact .inl h
        · exact .inr ⟨_, h1, h2⟩
      · exact .inl h
    · exact .inl h
  · exact boolK_sound (.inl rfl) h
  · exact boolK_sound (.inr (.inl rfl)) h
  · exact boolK_sound (.inr (.inr ⟨_, rfl⟩)) h
  · exact .inl h

theorem ev_binOp {op : BinOp} {t t' : TypeId} {x y : Operand} (h : evOp c (.binOp op t x y t') E T F K) : F ∨ ∃ u T', K u T' ∧ OpTo c (.binOp op t x y t') E T u T' := by
  simp only [evOp] at h
  rcases binK_sound h with h | ⟨v, h1, h2⟩
  · exact .inl h
  · refine .inr ⟨v, T, h1, OpTo.still fun o ho w β H m a hs => ?_⟩
    obtain ⟨r, k1, k2⟩ := h2 w β H m x y _ _ (opd_rep hs x) (opd_rep hs y)
    refine ⟨r, ?_, k2⟩
    simp only [execOp, ho]
    rw [Sem.run_bind, k1]
    rfl

theorem ev_unOp {op : UnOp} {t : TypeId} {x : Operand} (h : evOp c (.unOp op t x) E T F K) : F ∨ ∃ u T', K u T' ∧ OpTo c (.unOp op t x) E T u T' := by
  simp only [evOp] at h
  unfold unK at h
  split at h
  · rename_i hx
    refine .inr ⟨_, _, h, OpTo.still fun o ho w β H m a hs => ⟨.bool false, ?_, .ff⟩⟩
    have := opd_rep hs x
    simp only [hx] at this
    simp [execOp, ho, rep_tt this, Op.unary]
  · rename_i hx
    refine .inr ⟨_, _, h, OpTo.still fun o ho w β H m a hs => ⟨.bool true, ?_, .tt⟩⟩
    have := opd_rep hs x
    simp only [hx] at this
    simp [execOp, ho, rep_ff this, Op.unary]
  · rename_i b hx
    refine .inr ⟨_, _, h, OpTo.still fun o ho w β H m a hs => ⟨.bool (!b), ?_, .bool _⟩⟩
    have := opd_rep hs x
    simp only [hx] at this
    simp [execOp, ho, rep_bool this, Op.unary]
  · rename_i n hx
    obtain ⟨⟨l, u⟩, h⟩ := h
    refine .inr ⟨_, _, h, OpTo.still fun o ho w β H m a hs => ⟨.int .i64 (-n), ?_, .int _ _⟩⟩
    have := opd_rep hs x
    simp only [hx] at this
    simp [execOp, ho, rep_int this, Op.unary, Op.intArith, IntWalk.i64_in _ ⟨l, u⟩]
  · exact .inl h
end Bow
/- AE10: the operations, one by one: slices, fields, indexes. -/
namespace Bow
open Go

variable {c : Cx} {E : Env} {T : Heap} {F : Prop} {K : V → Heap → Prop}

theorem lo?_sound {o : Option Operand} {d : Int} {K : Int → Prop} (h : lo? E o d K F) : F ∨ ∃ n, K n ∧ ((o = none ∧ n = d) ∨ ∃ x k, o = some x ∧ opd E x = .int k n) := by
  unfold lo? at h
  split at h
  · exact .inr ⟨_, h, .inl ⟨rfl, rfl⟩⟩
  · rename_i x _
    split at h
    · rename_i k n hx
      exact .inr ⟨n, h, .inr ⟨_, _, rfl, hx⟩⟩
    · exact .inl h

/-- The bound as the operation reads it. -/
def boundIs (o : Option Value) (d n : Int) : Prop := (o = none ∧ n = d) ∨ ∃ k, o = some (.int k n)

theorem lo?_val {o : Option Operand} {d n : Int} {w : World} {β : Nat → Loc} {H : Heap} {m : List Nat} {imps : List Nat} {nt : Nat} {B : Base} {D : List Nat} {a : Act} (hs : SRel imps nt w β H m ⟨E, T, B, D⟩ a)
    (h : (o = none ∧ n = d) ∨ ∃ x k, o = some x ∧ opd E x = .int k n) : boundIs (o.map a.eval) d n := by
  rcases h with ⟨rfl, rfl⟩ | ⟨x, k, rfl, hx⟩
  · exact .inl ⟨rfl, rfl⟩
  · have := opd_rep hs x
    simp only [hx] at this
    exact .inr ⟨k, by simp [rep_int this]⟩

theorem run_bounds {P : Program} {isS : Bool} {len cap : Nat} {lo hi : Option Value} {l h : Int} (h1 : boundIs lo 0 l) (h2 : boundIs hi len h) (hl : 0 ≤ l) (hlh : l ≤ h) (hc : h ≤ cap) (w : World) :
    (Instr.sliceBounds isS len cap lo hi none).run P w = .ok (l.toNat, h.toNat, cap) w := by
  have hh : 0 ≤ h := by omega
  rcases h1 with ⟨rfl, rfl⟩ | ⟨k, rfl⟩ <;> rcases h2 with ⟨rfl, rfl⟩ | ⟨k', rfl⟩
  · simp [Instr.sliceBounds]
  · have : (Int.toNat h : Int) = h := Int.toNat_of_nonneg hh
    simp [Instr.sliceBounds, Instr.sliceBound, asIntOf, hh, hc]
  · have : l ≤ (len : Int) := hlh
    simp [Instr.sliceBounds, Instr.sliceBound, asIntOf, hl, this]
  · have : (Int.toNat h : Int) = h := Int.toNat_of_nonneg hh
    simp [Instr.sliceBounds, Instr.sliceBound, asIntOf, hl, hh, hc, this, hlh]

theorem ev_slice {t : TypeId} {x : Operand} {lo hi mx : Option Operand} (h : evOp c (.slice t x lo hi mx) E T F K) : F ∨ ∃ u T', K u T' ∧ OpTo c (.slice t x lo hi mx) E T u T' := by
  simp only [evOp] at h
  split at h
  · rename_i s hu hx
    have hu := tyU_sound hu
    rcases lo?_sound h with h | ⟨l, h, hlo⟩
    · exact .inl h
    · rcases lo?_sound h with h | ⟨r, h, hhi⟩
      · exact .inl h
      · obtain ⟨h1, h2, h3, h⟩ := h
        refine .inr ⟨_, _, h, OpTo.still fun o ho w β H m a hs => ?_⟩
        have hr := opd_rep hs x
        simp only [hx] at hr
        obtain ⟨hv, hl⟩ := rep_str hr
        have hb := run_bounds (P := c.P) (isS := false) (lo?_val hs hlo) (lo?_val hs hhi) h1 h2 (by exact h3) w
        have hsz : (⟨s.toArray⟩ : ByteArray).size = s.length := by simp [ByteArray.size]
        refine ⟨_, ?_, .str _ (by simp; omega)⟩
        · simp only [execOp, ho, Instr.sliceAt, hv, Option.map_none]
          rw [Sem.run_bind, Sem.run_bind, run_underlying hu]
          simp only [Result.andThen_ok, Instr.slice]
          rw [Sem.run_bind, run_underlying hu]
          simp only [Result.andThen_ok, Option.isSome_none]
          simp [hsz, hb, ByteArray.extract_mk]
  · rename_i e sz xs hu hx
    have hu := tyU_sound hu
    split at h
    · rename_i ti hti
      cases hb : Nat.beq sz ti.size with
      | false => rw [hb] at h; exact .inl h
      | true =>
        rw [hb] at h
        have hsz := Nat.eq_of_beq_eq_true hb
        have hI := tyI_sound hti
        rcases lo?_sound h with h | ⟨l, h, hlo⟩
        · exact .inl h
        · rcases lo?_sound h with h | ⟨r, h, hhi⟩
          · exact .inl h
          · obtain ⟨h1, h2, h3, h⟩ := h
            refine .inr ⟨_, _, h, OpTo.still fun o ho w β H m a hs => ?_⟩
            have hr := opd_rep hs x
            simp only [hx, V.conv] at hr
            generalize hq : a.eval x = q at hr
            cases hr with
            | sl _ _ ad cap vals hcap hmax hok ha hrr =>
              have hbd := run_bounds (P := c.P) (isS := true) (lo?_val hs hlo) (lo?_val hs hhi) h1 h2 (by omega : r ≤ (cap : Int)) w
              refine ⟨.slice (if cap = l.toNat then ad else ad.map (·.add (l.toNat * ti.size))) (r.toNat - l.toNat) (cap - l.toNat), ?_, ?_⟩
              · simp only [execOp, ho, Instr.sliceAt, hq, Option.map_none]
                rw [Sem.run_bind, Sem.run_bind, run_underlying hu]
                simp only [Result.andThen_ok, Instr.slice]
                rw [Sem.run_bind, run_underlying hu]
                simp [hbd, run_sizeOf' hI]
              · have hlen : ((xs.drop l.toNat).take (r.toNat - l.toNat)).length = r.toNat - l.toNat := by simp; omega
                have := Rep.sl (w := w) (β := β) (H := H) sz ((xs.drop l.toNat).take (r.toNat - l.toNat)) (if cap = l.toNat then ad else ad.map (·.add (l.toNat * ti.size))) (cap - l.toNat) (fun j => vals (l.toNat * sz + j))
                  (by rw [hlen]; omega) (by omega) (fun y hy => hok y (List.mem_of_mem_drop (List.mem_of_mem_take hy))) ?_ ?_
                · rw [hlen] at this
                  simpa only [V.conv] using this
                · intro hne
                  have hlt : l.toNat < r.toNat := by
                    rcases Nat.lt_or_ge l.toNat r.toNat with h5 | h5
                    · exact h5
                    · exact absurd (List.eq_nil_of_length_eq_zero (by rw [hlen]; omega)) hne
                  obtain ⟨ad', e1, e2, e3, e4⟩ := ha (fun e => by subst e; simp at h3; omega)
                  subst e1
                  rw [if_neg (by omega), ← hsz]
                  refine ⟨_, rfl, ?_, ?_, fun j hj => ?_⟩
                  · have : (ad'.add (l.toNat * sz)).block = ad'.block := by unfold Addr.add; split <;> rfl
                    simp only [this]; exact e2
                  · have : (ad'.add (l.toNat * sz)).block = ad'.block := by unfold Addr.add; split <;> rfl
                    simp only [this]; exact e3
                  · rw [add_add']
                    refine e4 _ ?_
                    rw [hlen] at hj
                    have e5 : l.toNat * sz + (r.toNat - l.toNat) * sz = r.toNat * sz := by rw [← Nat.add_mul]; congr 1; omega
                    have e6 : r.toNat * sz ≤ xs.length * sz := Nat.mul_le_mul_right _ (by omega)
                    omega
                · intro i y j cc hi hj
                  have hi' : xs[l.toNat + i]? = some y := by
                    rw [List.getElem?_take] at hi
                    split at hi
                    · rwa [List.getElem?_drop] at hi
                    · cases hi
                  have := hrr _ y j cc hi' hj
                  rw [show l.toNat * sz + (i * sz + j) = (l.toNat + i) * sz + j by rw [Nat.add_mul]; omega]
                  exact this
    · exact .inl h
  · exact .inl h

theorem add_none (b o d : Nat) : (⟨b, o, none⟩ : Addr).add d = ⟨b, o + d, none⟩ := by
  unfold Addr.add
  split <;> simp_all

theorem run_fieldAt {P : Program} {t : TypeId} {fs : Array Field} {f : Nat} {fd : Field} {ti : TypeInfo} {q : Addr} (hu : P.underlying t = some (.struct fs)) (hf : fs[f]? = some fd) (hi : P.info? fd.type = some ti) (h1 : 1 ≤ ti.size) (w : World) :
    (Instr.fieldAt t (.pointer (some q)) f).run P w = .ok (.pointer (some (q.add fd.offset))) w := by
  have : ¬ ti.size = 0 := by omega
  simp [Instr.fieldAt, run_underlying hu, hf, Instr.sureAddr, fieldPlace, run_sizeOf' hi, this]

theorem ev_fieldAddr {t : TypeId} {x : Operand} {f : Nat} (h : evOp c (.fieldAddr t x f) E T F K) : F ∨ ∃ u T', K u T' ∧ OpTo c (.fieldAddr t x f) E T u T' := by
  simp only [evOp] at h
  split at h
  · rename_i fs hu
    have hu := tyU_sound hu
    rw [lget_eq] at h
    split at h
    · rename_i fd hf
      have hf : fs[f]? = some fd := by simpa using hf
      split at h
      · rename_i ti hti
        have hI := tyI_sound hti
        cases hb : Nat.ble 1 ti.size with
        | false => rw [hb] at h; exact .inl h
        | true =>
          rw [hb] at h
          have h1 : 1 ≤ ti.size := Nat.le_of_ble_eq_true hb
          simp only [cond_true] at h
          split at h
          · rename_i k off hx
            rw [lget_eq] at h
            split at h
            · rename_i cs hk
              refine .inr ⟨_, _, h, OpTo.still fun o ho w β H m a hs => ?_⟩
              have hp := opd_rep hs x
              simp only [hx] at hp
              obtain ⟨r, b, N, vs, e, hr, hH, hβ, hv, _⟩ := hs.box hk hp
              refine ⟨.pointer (some ((⟨b, off, none⟩ : Addr).add fd.offset)), by simp [execOp, ho, hv, run_fieldAt hu hf hI h1], ?_⟩
              rw [add_none]
              simp only [V.conv, Ref.conv, hr]
              exact .ptrLive r _ b N _ hH hβ
            · exact .inl h
          · rename_i r off hx
            obtain ⟨hni, ⟨cs, hB⟩, h⟩ := h
            refine .inr ⟨_, _, h, OpTo.still fun o ho w β H m a hs => ?_⟩
            have hp := opd_rep hs x
            simp only [hx, V.conv, Ref.conv] at hp
            have hH : H[r]? = some (some (.box cs)) := hs.baseAt hni hB
            generalize hq : a.eval x = q at hp
            cases hp with
            | ptrLive _ _ b N cs' hH' hβ =>
              refine ⟨.pointer (some ((⟨b, off, none⟩ : Addr).add fd.offset)), by simp [execOp, ho, hq, run_fieldAt hu hf hI h1], ?_⟩
              rw [add_none]
              exact .ptrLive r _ b N _ hH hβ
            | ptrDead _ _ _ hd => rw [hH] at hd; cases hd
          · rename_i cs off hx
            refine .inr ⟨_, _, h, OpTo.still fun o ho w β H m a hs => ?_⟩
            have hp := opd_rep hs x
            simp only [hx, V.conv] at hp
            generalize hq : a.eval x = q at hp
            cases hp with
            | iptr _ _ ad vals hown hlt hc hr =>
              refine ⟨.pointer (some ((ad.add off).add fd.offset)), by simp [execOp, ho, hq, run_fieldAt hu hf hI h1], ?_⟩
              rw [add_add']
              exact .iptr cs _ ad vals hown hlt hc hr
          · rename_i k g i off hx
            rw [lget_eq] at h
            split at h
            · rename_i g' sz xs hk
              obtain ⟨rfl, h⟩ := h
              refine .inr ⟨_, _, h, OpTo.still fun o ho w β H m a hs => ?_⟩
              have hp := opd_rep hs x
              obtain ⟨r, hr, hH⟩ := hs.at hk
              simp only [hx, V.conv, Ref.conv, hr] at hp
              simp only [HObj.conv] at hH
              generalize hq : a.eval x = q at hp
              cases hp with
              | eptrLive _ _ _ _ sz' xs' b N hH' hβ hi =>
                refine ⟨.pointer (some ((⟨b, i * sz' + off, none⟩ : Addr).add fd.offset)), by simp [execOp, ho, hq, run_fieldAt hu hf hI h1], ?_⟩
                rw [add_none, Nat.add_assoc]
                simp only [V.conv, Ref.conv, hr]
                exact .eptrLive r g i _ sz' xs' b N hH' hβ hi
              | eptrStale _ _ _ _ g' sz' xs' _ hH' hg =>
                rw [hH] at hH'
                injection hH' with hH'
                injection hH' with hH'
                injection hH' with e0 _ _
                omega
              | eptrDead _ _ _ _ _ hd => rw [hH] at hd; cases hd
            · exact .inl h
          · exact .inl h
      · exact .inl h
    · exact .inl h
  · exact .inl h

/-- A part of a struct's value. -/
theorem partK_part {P : Program} {t : TypeId} {cs : List V} {off : Nat} {K : V → Prop} (h : partK P t cs off F K) :
    F ∨ ∃ x, K x ∧ ∀ (w : World) (β : Nat → Loc) (H : Heap) (m : List Nat) (vs : Array Value), cs.length = vs.size → (∀ (j : Nat) (c : V) (v : Value), (V.convL m cs)[j]? = some c → vs[j]? = some v → Rep w β H c v) →
      ∃ v, (part t vs off).run P w = .ok v w ∧ Rep w β H (x.conv m) v := by
  unfold partK at h
  split at h
  · rename_i d i hd hi
    have hu := tyU_sound hd
    have hI := tyI_sound hi
    cases ha : aggT d with
    | true =>
      rw [ha] at h
      simp only [cond_true, ldrop_eq] at h
      rcases ltake_sound _ _ _ h with h | ⟨hle, hk⟩
      · exact .inl h
      · simp only [List.length_drop] at hle
        refine .inr ⟨_, hk, fun w β H m vs hl hr => ⟨.agg (vs.extract off (off + i.size)), ?_, ?_⟩⟩
        · simp [part, run_isAgg' hu, ha, run_sizeOf' hI]
        · simp only [V.conv, V.convL_eq]
          refine .agg _ _ (by simp; omega) fun j c v hj hv => ?_
          have hjl : j < i.size := by
            have := lt_of_get hj
            simp at this
            omega
          rw [Array.getElem?_extract] at hv
          split at hv
          · refine hr (off + j) c v ?_ hv
            rw [V.convL_eq]
            simp only [List.getElem?_map, List.getElem?_take, hjl, if_true, List.getElem?_drop] at hj
            rw [List.getElem?_map]
            exact hj
          · cases hv
    | false =>
      rw [ha] at h
      simp only [cond_false, lget_eq] at h
      split at h
      · rename_i v hv
        rw [fv_eq] at h
        refine .inr ⟨v, h, fun w β H m vs hl hr => ?_⟩
        have ho : off < vs.size := by rw [← hl]; exact lt_of_get hv
        refine ⟨vs[off], ?_, hr off _ _ (by rw [V.convL_eq, List.getElem?_map, hv]; rfl) (Array.getElem?_eq_getElem ho)⟩
        simp [part, run_isAgg' hu, ha, ho]
      · exact .inl h
  · exact .inl h

theorem ev_field {t : TypeId} {x : Operand} {f : Nat} (h : evOp c (.field t x f) E T F K) : F ∨ ∃ u T', K u T' ∧ OpTo c (.field t x f) E T u T' := by
  simp only [evOp] at h
  split at h
  · rename_i fs cs hu hx
    have hu := tyU_sound hu
    rw [lget_eq] at h
    split at h
    · rename_i fd hf
      have hf : fs[f]? = some fd := by simpa using hf
      rcases partK_part h with h | ⟨u, hk, hp⟩
      · exact .inl h
      · refine .inr ⟨u, T, hk, OpTo.still fun o ho w β H m a hs => ?_⟩
        have hr := opd_rep hs x
        simp only [hx, V.conv] at hr
        generalize hq : a.eval x = q at hr
        cases hr with
        | agg _ vs hl hc =>
          obtain ⟨v, h1, h2⟩ := hp w β H m vs (by rw [V.convL_eq] at hl; simpa using hl) hc
          exact ⟨v, by simp [execOp, ho, hq, Instr.field, run_underlying hu, hf, asAgg, h1], h2⟩
    · exact .inl h
  · exact .inl h

theorem ev_extract {x : Operand} {i : Nat} (h : evOp c (.extract x i) E T F K) : F ∨ ∃ u T', K u T' ∧ OpTo c (.extract x i) E T u T' := by
  simp only [evOp, lget_eq, fv_eq] at h
  split at h
  · rename_i vs hx
    split at h
    · rename_i v hv
      refine .inr ⟨_, _, h, OpTo.still fun o ho w β H m a hs => ?_⟩
      have hr := opd_rep hs x
      simp only [hx, V.conv] at hr
      generalize hq : a.eval x = q at hr
      cases hr with
      | tup _ us hl hc =>
        have hi : i < us.size := by
          have := lt_of_get hv
          rw [V.convL_eq] at hl
          simp at hl
          omega
        exact ⟨us[i], by simp [execOp, ho, hq, Instr.extract, hi], hc i _ _ (by rw [V.convL_eq, List.getElem?_map, hv]; rfl) (Array.getElem?_eq_getElem hi)⟩
    · exact .inl h
  · exact .inl h

theorem ev_convert {s d : TypeId} {x : Operand} (h : evOp c (.convert s d x) E T F K) : F ∨ ∃ u T', K u T' ∧ OpTo c (.convert s d x) E T u T' := by
  simp only [evOp] at h
  split at h
  · rename_i ds k k' n hs' hd hx
    have hs' := tyU_sound hs'
    have hd := tyU_sound hd
    refine .inr ⟨_, _, h, OpTo.still fun o ho w β H m a hs => ⟨.int k (k.wrap n), ?_, .int _ _⟩⟩
    have := opd_rep hs x
    simp only [hx] at this
    simp [execOp, ho, rep_int this, convert, run_underlying hs', run_underlying hd, Conv.intToInt]
  · exact .inl h

theorem ev_index {t : TypeId} {x ix : Operand} (h : evOp c (.index t x ix) E T F K) : F ∨ ∃ u T', K u T' ∧ OpTo c (.index t x ix) E T u T' := by
  simp only [evOp] at h
  split at h
  · rename_i s k i hu hx hi
    have hu := tyU_sound hu
    obtain ⟨h0, b, hb, h⟩ := h
    refine .inr ⟨_, _, h, OpTo.still fun o ho w β H m a hs => ⟨.int .u8 b.toNat, ?_, .int _ _⟩⟩
    have h1 := opd_rep hs x
    have h2 := opd_rep hs ix
    simp only [hx] at h1
    simp only [hi] at h2
    obtain ⟨e1, _⟩ := rep_str h1
    have e2 := rep_int h2
    have hlt := lt_of_get hb
    have hget : (⟨s.toArray⟩ : ByteArray)[i.toNat]? = some b := by
      have hl : i.toNat < (⟨s.toArray⟩ : ByteArray).size := by simpa [ByteArray.size] using hlt
      rw [getElem?_pos (⟨s.toArray⟩ : ByteArray) i.toNat hl]
      have : s[i.toNat] = b := by
        rw [List.getElem?_eq_getElem hlt] at hb
        exact Option.some.inj hb
      rw [← this]
      rfl
    simp [execOp, ho, e1, e2, Instr.index, asIntOf, run_underlying hu, h0, hget]
  · rename_i len e cs k i hu hx hi
    have hu := tyU_sound hu
    split at h
    · rename_i ti hti
      obtain ⟨h0, h1, h⟩ := h
      rcases partK_part h with h | ⟨u, hk, hp⟩
      · exact .inl h
      · refine .inr ⟨u, T, hk, OpTo.still fun o ho w β H m a hs => ?_⟩
        have hr := opd_rep hs x
        have h2 := opd_rep hs ix
        simp only [hx, V.conv] at hr
        simp only [hi] at h2
        have e2 := rep_int h2
        generalize hq : a.eval x = q at hr
        cases hr with
        | agg _ vs hl hc =>
          obtain ⟨v, h3, h4⟩ := hp w β H m vs (by rw [V.convL_eq] at hl; simpa using hl) hc
          exact ⟨v, by simp [execOp, ho, hq, e2, Instr.index, asIntOf, run_underlying hu, h0, h1, run_sizeOf' (tyI_sound hti), h3], h4⟩
    · exact .inl h
  · exact .inl h

theorem ev_makeFunc {f : Fn} {xs ys : Array Operand} (h : evOp c (.makeFunc f xs ys) E T F K) : F ∨ ∃ u T', K u T' ∧ OpTo c (.makeFunc f xs ys) E T u T' := by
  simp only [evOp, opds_eq] at h
  refine .inr ⟨_, _, h, OpTo.still fun o ho w β H m a hs => ⟨.func f (xs.map a.eval) (ys.map a.eval), by simp [execOp, ho, Instr.makeFunc], ?_⟩⟩
  have key : ∀ (zs : Array Operand) (j : Nat) (x : V) (v : Value), (V.convL m (zs.toList.map (opd E)))[j]? = some x → (zs.map a.eval)[j]? = some v → Rep w β H x v := by
    intro zs j x v h1 h2
    rw [V.convL_eq] at h1
    simp only [List.map_map, List.getElem?_map, Array.getElem?_toList, Option.map_eq_some_iff, Array.getElem?_map] at h1 h2
    obtain ⟨z, e1, e2⟩ := h1
    obtain ⟨z', e3, e4⟩ := h2
    rw [e1] at e3
    injection e3 with e3
    subst e3 e2 e4
    exact opd_rep hs z
  simp only [V.conv]
  exact .fn _ _ _ _ _ (by rw [V.convL_eq]; simp) (by rw [V.convL_eq]; simp) (key xs) (key ys)

theorem ev_indexAddr {t : TypeId} {x ix : Operand} (h : evOp c (.indexAddr t x ix) E T F K) : F ∨ ∃ u T', K u T' ∧ OpTo c (.indexAddr t x ix) E T u T' := by
  simp only [evOp] at h
  split at h
  · rename_i e sz xs k i hu hx hi
    have hu := tyU_sound hu
    split at h
    · rename_i ti hti
      have hI := tyI_sound hti
      cases hb : (Nat.beq sz ti.size && Nat.ble 1 sz) with
      | false => rw [hb] at h; exact .inl h
      | true =>
        rw [hb] at h
        simp only [Bool.and_eq_true] at hb
        have hsz := Nat.eq_of_beq_eq_true hb.1
        have hs1 : 1 ≤ sz := Nat.le_of_ble_eq_true hb.2
        obtain ⟨h0, v, hv, h⟩ := h
        refine .inr ⟨_, _, h, OpTo.still fun o ho w β H m a hs => ?_⟩
        have h1 := opd_rep hs x
        have h2 := opd_rep hs ix
        simp only [hx, V.conv] at h1
        simp only [hi] at h2
        have e2 := rep_int h2
        generalize hq : a.eval x = q at h1
        cases h1 with
        | sl _ _ ad cap vals hcap hmax hok ha hr =>
          have hlt := lt_of_get hv
          have hne : xs ≠ [] := by rintro rfl; simp at hlt
          obtain ⟨ad', rfl, e3, e4, e5⟩ := ha hne
          have hil : i < (xs.length : Int) := by omega
          refine ⟨.pointer (some (ad'.add (i.toNat * ti.size))), ?_, ?_⟩
          · simp [execOp, ho, hq, e2, Instr.indexAt, asIntOf, run_underlying hu, h0, hil, run_sizeOf' hI]
          · have hlen := (hok v (List.mem_of_getElem? hv)).1
            have hbd : ∀ j, j < sz → i.toNat * sz + j < xs.length * sz := fun j hj => by
              have : (i.toNat + 1) * sz ≤ xs.length * sz := Nat.mul_le_mul_right _ hlt
              rw [Nat.add_mul] at this
              omega
            have hblk : (ad'.add (i.toNat * ti.size)).block = ad'.block := by unfold Addr.add; split <;> rfl
            have := Rep.iptr (w := w) (β := β) (H := H) v.cells 0 (ad'.add (i.toNat * ti.size)) (fun j => vals (i.toNat * sz + j)) (by rw [hblk]; exact e3.1) (by rw [hblk]; exact e4)
              (fun j hj => by rw [add_add', ← hsz]; exact e5 _ (hbd j (by omega))) (fun j cc hj => hr _ v j cc hv hj)
            simpa [V.conv, Addr.add] using this
    · exact .inl h
  · rename_i e k g off len kk i hu hx hi
    have hu := tyU_sound hu
    rw [lget_eq] at h
    split at h
    · rename_i ti g' sz xs hti hk
      have hI := tyI_sound hti
      cases hb : (Nat.beq sz ti.size && Nat.ble 1 sz) with
      | false => rw [hb] at h; exact .inl h
      | true =>
        rw [hb] at h
        simp only [Bool.and_eq_true] at hb
        have hsz := Nat.eq_of_beq_eq_true hb.1
        obtain ⟨rfl, h0, hil, h⟩ := h
        refine .inr ⟨_, _, h, OpTo.still fun o ho w β H m a hs => ?_⟩
        have h1 := opd_rep hs x
        have h2 := opd_rep hs ix
        obtain ⟨r, hr, hH⟩ := hs.at hk
        simp only [hx, V.conv, Ref.conv, hr] at h1
        simp only [HObj.conv] at hH
        simp only [hi] at h2
        have e2 := rep_int h2
        generalize hq : a.eval x = q at h1
        cases h1 with
        | oslNil _ _ _ _ _ hH' hβ => omega
        | oslBlk _ _ _ _ sz' xs' b N ad cap hH' hβ hl hN hcap ha hlen =>
          rw [hH] at hH'
          injection hH' with hH'
          injection hH' with hH'
          injection hH' with _ e3 e4
          subst e3 e4
          have := ha (by omega)
          subst this
          refine ⟨.pointer (some ⟨b, (off + i.toNat) * sz, none⟩), ?_, ?_⟩
          · have : (⟨b, off * sz, none⟩ : Addr).add (i.toNat * sz) = ⟨b, (off + i.toNat) * sz, none⟩ := by rw [add_none, Nat.add_mul]
            simp [execOp, ho, hq, e2, Instr.indexAt, asIntOf, run_underlying hu, h0, hil, run_sizeOf' hI, ← hsz, this]
          · simp only [V.conv, Ref.conv, hr]
            exact .eptrLive r g _ 0 sz xs b N hH hβ (by omega)
        | oslStale _ _ _ _ g' sz' xs' _ hH' hg =>
          rw [hH] at hH'
          injection hH' with hH'
          injection hH' with hH'
          injection hH' with e0 _ _
          omega
        | oslDead _ _ _ _ _ hd => rw [hH] at hd; cases hd
    · exact .inl h
  · exact .inl h
end Bow
