/- The library, part 7: SP50, SP51, SP52, SP53, SP54, SP55, SP56, SP57, SP62, SP63, SP64, SP38, SP65, W98, TD1, TD2. -/
import Derived.Test.YthaigpiepfdaeaaMf
import Derived.Test.YthaigpiepfdaeaaMe
import Derived.Test.YthaigpiepfdaeaaMd
import Derived.Test.YthaigpiepfdaeaaMc
import Derived.Test.YthaigpiepfdaeaaRows
import Derived.ChangeShapes
/- SP50: both ways round, by names: two that take out and put in; a deletion, and what is below it. -/
namespace Bow
open Go

section
variable {α : Type} [DecidableEq α]
/-- A tree's names, and two new ones. -/
structure Sit (S : Gr α) (r xa xb : α) (t : Tree) (a b : OpT) : Prop where
  unf : Unf S r t
  nodup : (labs S r t).Nodup
  ne : xa ≠ xb
  fa : Unf S xa (freshT a)
  fb : Unf S xb (freshT b)
  na : xa ∉ labs S r t
  nb : xb ∉ labs S r t
  va : ValidE t a = 0
  vb : ValidE t b = 0
omit [DecidableEq α] in
theorem Sit.swap {S : Gr α} {r xa xb : α} {t : Tree} {a b : OpT} (h : Sit S r xa xb t a b) : Sit S r xb xa t b a := ⟨h.unf, h.nodup, h.ne.symm, h.fb, h.fa, h.nb, h.na, h.vb, h.va⟩
omit [DecidableEq α] in
theorem fresh_kids {S : Gr α} {x : α} {o : OpT} (h : Unf S x (freshT o)) : S.kids x = [] := List.length_eq_zero_iff.1 (unf_len h)
theorem Sit.became {S Sa : Gr α} {r xa xb : α} {t : Tree} {a b : OpT} (h : Sit S r xa xb t a b) (F : Fit S r xa a Sa) : Became Sa S r (applyT t a) t a xa :=
  fit_unf h.unf h.nodup F (valid_right h.va).2.1 fun _ => ⟨h.fa, h.na⟩
theorem fresh_after {S Sa : Gr α} {r xa xb : α} {t : Tree} {a b : OpT} (h : Sit S r xa xb t a b) (F : Fit S r xa a Sa) : Unf Sa xb (freshT b) ∧ xb ∉ labs Sa r (applyT t a) := by
  have B := h.became F
  refine ⟨?_, fun hm => ?_⟩
  · have hk := fresh_kids h.fb
    have hne : ∀ p, res S r p ≠ some xb := fun p e => h.nb (res_self h.unf e)
    have hfb := unf_eq.1 h.fb
    rw [unf_eq]
    have e : Sa.kids xb = [] ∧ Sa.pay xb = S.pay xb := by
      cases F with
      | act e A hl =>
        refine ⟨?_, rfl⟩
        show e.kids xb (S.kids xb) = []
        rw [hk]
        have : ∀ m, m ∉ e.kids xb [] := fun m hm => by
          rcases kids_mem hm with c | ⟨g, c⟩
          · cases c
          · cases A with
            | ins v hk1 hv => 
              injection c with c
              exact hne _ ((Prod.mk.inj c).1 ▸ hv)
            | del u => cases c
            | mov u v hk1 h1 h2 hu hv =>
              injection c with c
              exact hne _ ((Prod.mk.inj c).1 ▸ hv)
        exact List.eq_nil_iff_forall_not_mem.2 this
      | pay v hk1 hv =>
        refine ⟨hk, if_neg fun c => ?_⟩
        exact hne _ (c ▸ hv)
    rw [e.1, e.2]
    rw [hk] at hfb
    refine ⟨hfb.1, ?_⟩
    show Unfs Sa [] []
    rw [Unfs]
    trivial
  · rcases B.old xb hm with c | ⟨_, c⟩
    · exact h.nb c
    · exact h.ne c.symm
/-- One more operation. -/
theorem one_more {S S' : Gr α} {r x0 : α} {t : Tree} {o : OpT} {i : Nat} {l : List OpT} (h : Unf S r t) (hr : rightT t = true) (hf : formedB o = true) (F : Fit S r x0 o S') : allR t (o :: l) i = allR (applyT t o) l (i + 1) ∧ rightT (applyT t o) = true := by
  have hv := fit_valid h hr hf F
  refine ⟨?_, right_applyT hv⟩
  rw [allR, decide_eq_true hv]
  rfl
/-- It comes to this tree. -/
def Comes (t : Tree) (l : List OpT) (T : Tree) : Prop := ∃ i, allR t l 0 = (T, i, 0)
/-- Both ways round end in one tree. -/
def Meet (t : Tree) (a b : OpT) (p q : List OpT) : Prop := ∃ T, Comes (applyT t b) p T ∧ Comes (applyT t a) q T
theorem Meet.swap {t : Tree} {a b : OpT} {p q : List OpT} (h : Meet t a b p q) : Meet t b a q p := by
  obtain ⟨T, h1, h2⟩ := h
  exact ⟨T, h2, h1⟩
theorem comes_nil (t : Tree) : Comes t [] t := ⟨0, by rw [allR]⟩
theorem Sit.after {S Sa Sab : Gr α} {r xa xb : α} {t : Tree} {a b b' : OpT} (h : Sit S r xa xb t a b) (F : Fit S r xa a Sa) (F' : Fit Sa r xb b' Sab) (hf : formedB b' = true) (he : freshT b' = freshT b) :
    Comes (applyT t a) [b'] (applyT (applyT t a) b') ∧ Became Sab Sa r (applyT (applyT t a) b') (applyT t a) b' xb ∧ rightT (applyT (applyT t a) b') = true := by
  have B := h.became F
  have o := one_more (i := 0) (l := []) B.unf (right_applyT h.va) hf F'
  have fr := fresh_after h F
  refine ⟨⟨1, by rw [o.1, allR]⟩, fit_unf B.unf B.nodup F' hf fun _ => ⟨he ▸ fr.1, fr.2⟩, o.2⟩
omit [DecidableEq α] in
theorem same_tree {S S' : Gr α} {r : α} {t t' : Tree} (h : Unf S r t) (h' : Unf S' r t') (ag : ∀ z ∈ labs S r t, S'.kids z = S.kids z ∧ S'.pay z = S.pay z) : t = t' :=
  unf_fun t r t' ((unf_agree t r ag).1 h) h'
theorem shifted_fresh (b a : OpT) (f : Bool) : freshT (shiftedO b a f) = freshT b := by
  unfold shiftedO
  cases decide (b.kind = 1) <;> cases decide (b.kind = 3) <;> rfl
omit [DecidableEq α] in
theorem act_moves {S : Gr α} {r x0 : α} {o : OpT} {e : Eff α} (A : Act S r x0 o e) (hf : formedB o = true) : movesO o = true := by
  unfold movesO
  rw [hf]
  cases A with
  | ins v hk => simp [hk]
  | del u hk hne =>
    have := List.length_pos_iff.2 hne
    simp [hk, this]
  | mov u v hk hne hw =>
    have := List.length_pos_iff.2 hne
    simp [hk, this, hw]
/-- Two that take out or put in, neither of which takes out what the other one is at. -/
theorem meet_act {S : Gr α} {r xa xb : α} {t : Tree} {a b : OpT} {ea eb : Eff α} (prior : Bool) (h : Sit S r xa xb t a b) (A : Act S r xa a ea) (B : Act S r xb b eb)
    (la : ∀ v g x, ea.into = some (v, g, x) → (S.pay v).leaf = false) (lb : ∀ v g x, eb.into = some (v, g, x) → (S.pay v).leaf = false)
    (h1 : ∀ v g x, eb.into = some (v, g, x) → ea.out ≠ some x) (h2 : ∀ v g x, ea.into = some (v, g, x) → eb.out ≠ some x)
    (d1 : ¬ (a.kind = 2 ∧ within a.path b.path = true)) (d2 : ¬ (a.kind = 2 ∧ b.kind = 3 ∧ within a.path b.to = true))
    (d3 : ¬ (b.kind = 2 ∧ within b.path a.path = true)) (d4 : ¬ (b.kind = 2 ∧ a.kind = 3 ∧ within b.path a.to = true))
    (hc : ¬ (a.kind = 3 ∧ b.kind = 3 ∧ within b.path a.to = true ∧ within a.path b.to = true))
    (f1 : formedB (shiftedO b a prior) = true) (f2 : formedB (shiftedO a b (!prior)) = true) : Meet t a b [shiftedO a b (!prior)] [shiftedO b a prior] := by
  have Fa : Fit S r xa a (ea.on S) := .act ea A la
  have Fb : Fit S r xb b (eb.on S) := .act eb B lb
  have Fab := shift_fit (Sb := (eb.behind ea S prior).on (ea.on S)) prior h.unf h.nodup (act_moves A (valid_right h.va).2.1) A rfl B lb (fresh_kids h.fa) h.na d1 d2 hc rfl
  have Fba := shift_fit (Sb := (ea.behind eb S (!prior)).on (eb.on S)) (!prior) h.unf h.nodup (act_moves B (valid_right h.vb).2.1) B rfl A la (fresh_kids h.fb) h.nb d3 d4 (fun c => hc ⟨c.2.1, c.1, c.2.2.2, c.2.2.1⟩) rfl
  rw [← eff_square S ea eb prior h1 h2] at Fba
  have c1 := h.after Fa Fab f1 (shifted_fresh ..)
  have c2 := h.swap.after Fb Fba f2 (shifted_fresh ..)
  have e := same_tree c1.2.1.unf c2.2.1.unf fun z _ => ⟨rfl, rfl⟩
  exact ⟨_, c2.1, e ▸ c1.1⟩
end
end Bow
/- SP51: two attributes set, one behind the other. -/
namespace Bow
open Go

theorem sorted_ext : ∀ {l l' : AttrL} {k k' : Option (List UInt8)}, attrsOk k l = true → attrsOk k' l' = true → (∀ x, x ∈ l ↔ x ∈ l') → l = l'
  | [], [], _, _, _, _, _ => rfl
  | [], b :: l', _, _, _, _, h => by
    have := (h b).2 (by simp)
    cases this
  | a :: l, [], _, _, _, _, h => by
    have := (h a).1 (by simp)
    cases this
  | a :: l, b :: l', _, _, h1, h2, h => by
    have t1 := attrs_behind (attrsOk_tail h1)
    have t2 := attrs_behind (attrsOk_tail h2)
    have hab : a = b := by
      rcases List.mem_cons.1 ((h a).1 (by simp)) with e | e
      · exact e
      · rcases List.mem_cons.1 ((h b).2 (by simp)) with e' | e'
        · exact e'.symm
        · have c := less_trans (t1 b e') (t2 a e)
          rw [less_irrefl] at c
          cases c
    subst hab
    congr 1
    refine sorted_ext (attrsOk_tail h1) (attrsOk_tail h2) fun x => ⟨fun hx => ?_, fun hx => ?_⟩
    · rcases List.mem_cons.1 ((h x).1 (by simp [hx])) with e | e
      · have := t1 x hx
        rw [e, less_irrefl] at this
        cases this
      · exact e
    · rcases List.mem_cons.1 ((h x).2 (by simp [hx])) with e | e
      · have := t2 x hx
        rw [e, less_irrefl] at this
        cases this
      · exact e
theorem refA_mem (o : OpT) (x : List UInt8 × List UInt8) : ∀ (l : AttrL) (done : Bool), x ∈ refA o done l ↔ (x ∈ l ∧ x.1 ≠ o.key) ∨ (done = false ∧ x = (o.key, o.value))
  | [], done => by
    rw [refA]
    cases done <;> simp
  | a :: l, done => by
    rw [refA, List.mem_append, List.mem_append, refA_mem o x l]
    have h1 : x ∈ (bif decide (a.1 = o.key) then [] else [a]) ↔ x = a ∧ x.1 ≠ o.key := by
      by_cases e : a.1 = o.key
      · rw [decide_eq_true e]
        simp only [cond_true, List.not_mem_nil, false_iff]
        rintro ⟨rfl, c⟩
        exact c e
      · rw [decide_eq_false e]
        simp only [cond_false, List.mem_singleton]
        refine ⟨fun c => ⟨c, c ▸ e⟩, fun c => c.1⟩
    have h2 : x ∈ (bif !done && !Op.bytesLess a.1 o.key then [(o.key, o.value)] else []) ↔ (done = false ∧ Op.bytesLess a.1 o.key = false ∧ x = (o.key, o.value)) := by
      cases done <;> cases Op.bytesLess a.1 o.key <;> simp
    have h3 : ((done || !Op.bytesLess a.1 o.key) = false) ↔ (done = false ∧ ¬ Op.bytesLess a.1 o.key = false) := by
      cases done <;> cases Op.bytesLess a.1 o.key <;> simp
    rw [h1, h2, h3, List.mem_cons]
    have taut : ∀ P Q K D E N : Prop, ((D ∧ E ∧ N) ∨ (P ∧ ¬ K) ∨ (Q ∧ ¬ K) ∨ ((D ∧ ¬ E) ∧ N)) ↔ ((P ∨ Q) ∧ ¬ K) ∨ (D ∧ N) := by
      intro P Q K D E N
      by_cases P <;> by_cases Q <;> by_cases K <;> by_cases D <;> by_cases E <;> by_cases N <;> simp [*]
    exact taut _ _ _ _ _ _
theorem setA_mem {o : OpT} {l : AttrL} {k0 : Option (List UInt8)} (h : attrsOk k0 l = true) (x : List UInt8 × List UInt8) : x ∈ setA o l ↔ (x ∈ l ∧ x.1 ≠ o.key) ∨ (o.gone = false ∧ x = (o.key, o.value)) := by
  rw [← attr_law o h, refA_mem]
theorem setA_ok {o : OpT} {l : AttrL} (h : attrsOk none l = true) (hk : keyOk o.key = true) (hv : o.gone = true ∨ o.value.length ≤ 256) : attrsOk none (setA o l) = true := by
  rw [← attr_law o h]
  cases hg : o.gone with
  | true => exact refA_true_ok o h
  | false =>
    rcases hv with c | c
    · rw [hg] at c; cases c
    · exact refA_false_ok o hk c h rfl
/-- Of two keys. -/
theorem setA_comm {a b : OpT} {l : AttrL} (h : attrsOk none l = true) (ka : keyOk a.key = true) (va : a.gone = true ∨ a.value.length ≤ 256) (kb : keyOk b.key = true) (vb : b.gone = true ∨ b.value.length ≤ 256) (hne : a.key ≠ b.key) : setA b (setA a l) = setA a (setA b l) := by
  have ha := setA_ok h ka va
  have hb := setA_ok h kb vb
  refine sorted_ext (setA_ok ha kb vb) (setA_ok hb ka va) fun x => ?_
  rw [setA_mem ha, setA_mem hb, setA_mem h, setA_mem h]
  constructor
  · rintro (⟨⟨c1, c2⟩ | ⟨c1, c2⟩, c3⟩ | ⟨c1, c2⟩)
    · exact .inl ⟨.inl ⟨c1, c3⟩, c2⟩
    · exact .inr ⟨c1, c2⟩
    · exact .inl ⟨.inr ⟨c1, c2⟩, by rw [c2]; exact hne.symm⟩
  · rintro (⟨⟨c1, c2⟩ | ⟨c1, c2⟩, c3⟩ | ⟨c1, c2⟩)
    · exact .inl ⟨.inl ⟨c1, c3⟩, c2⟩
    · exact .inr ⟨c1, c2⟩
    · exact .inl ⟨.inr ⟨c1, c2⟩, by rw [c2]; exact hne⟩
/-- Of one key: the second one counts. -/
theorem setA_again {a b : OpT} {l : AttrL} (h : attrsOk none l = true) (ka : keyOk a.key = true) (va : a.gone = true ∨ a.value.length ≤ 256) (vb : b.gone = true ∨ b.value.length ≤ 256) (he : a.key = b.key) : setA b (setA a l) = setA b l := by
  have ha := setA_ok h ka va
  refine sorted_ext (setA_ok ha (he ▸ ka) vb) (setA_ok h (he ▸ ka) vb) fun x => ?_
  rw [setA_mem ha, setA_mem h, setA_mem h, he]
  constructor
  · rintro (⟨⟨c1, c2⟩ | ⟨c1, c2⟩, c3⟩ | c)
    · exact .inl ⟨c1, c3⟩
    · exact absurd (by rw [c2]) c3
    · exact .inr c
  · rintro (⟨c1, c2⟩ | c)
    · exact .inl ⟨.inl ⟨c1, c2⟩, c2⟩
    · exact .inr c
end Bow
/- SP52: both ways round, by names: what stands at nodes is turned; a deletion, and what is below it. -/
namespace Bow
open Go

theorem still_of {o : OpT} (h : 4 ≤ o.kind ∧ o.kind ≤ 6) : movesO o = false := by
  unfold movesO
  rw [decide_eq_false (show ¬ o.kind = 1 by omega), decide_eq_false (show ¬ o.kind = 2 by omega), decide_eq_false (show ¬ o.kind = 3 by omega)]
  simp
theorem shifted_still {a b : OpT} (f : Bool) (h : movesO a = false) : shiftedO b a f = b := by
  have hg : ∀ p g, gapP a p g f = (p, g, true) := fun p g => by
    unfold gapP
    rw [node_still p h]
    simp only [h, Bool.not_false, cond_true]
  unfold shiftedO
  rw [hg, hg, node_still _ h]
  cases decide (b.kind = 1) <;> cases decide (b.kind = 3) <;> (cases b; rfl)
theorem shifted_pay {a b : OpT} {p' : List Int} (f : Bool) (hk : 4 ≤ b.kind ∧ b.kind ≤ 6) (h : nodeP a b.path = some p') : shiftedO b a f = { b with path := p' } := by
  unfold shiftedO
  rw [decide_eq_false (show ¬ b.kind = 1 by omega), decide_eq_false (show ¬ b.kind = 3 by omega), h]
  rfl

section
variable {α : Type} [DecidableEq α]
theorem res_pay (S : Gr α) (v : α) (f : Pay → Pay) : ∀ (p : List Int) (u : α), res (payS S v f) u p = res S u p
  | [], _ => rfl
  | i :: p, u => by
    rw [res, res]
    have : kidS (payS S v f) u i = kidS S u i := rfl
    rw [this]
    cases kidS S u i with
    | none => rfl
    | some w => exact res_pay S v f p w
theorem act_pay {S : Gr α} {r x0 v : α} {o : OpT} {e : Eff α} {f : Pay → Pay} (A : Act S r x0 o e) : Act (payS S v f) r x0 o e := by
  cases A with
  | ins w hk hv h0 hg => exact .ins w hk (by rw [res_pay]; exact hv) h0 hg
  | del u hk hne hu => exact .del u hk hne (by rw [res_pay]; exact hu)
  | mov u w hk hne hw hu hv h0 hg => exact .mov u w hk hne hw (by rw [res_pay]; exact hu) (by rw [res_pay]; exact hv) h0 hg
theorem pay_leaf_of (S : Gr α) (v z : α) (o : OpT) : ((payS S v (payF o)).pay z).leaf = (S.pay z).leaf := by
  show (if z = v then payF o (S.pay z) else S.pay z).leaf = _
  split
  · exact payF_leaf o _
  · rfl
/-- One takes out or puts in, the other one turns what stands at a node. -/
theorem meet_mix {S : Gr α} {r xa xb v : α} {t : Tree} {a b : OpT} {ea : Eff α} (prior : Bool) (h : Sit S r xa xb t a b) (A : Act S r xa a ea) (la : ∀ v g x, ea.into = some (v, g, x) → (S.pay v).leaf = false)
    (hk : 4 ≤ b.kind ∧ b.kind ≤ 6) (hv : res S r b.path = some v) (he : b.kind = 6 → (S.pay v).leaf = true ∧ (applyE (S.pay v).text b.pieces).2 = 0) (d1 : ¬ (a.kind = 2 ∧ within a.path b.path = true)) (f1 : formedB (shiftedO b a prior) = true) :
    Meet t a b [shiftedO a b (!prior)] [shiftedO b a prior] := by
  have Fa : Fit S r xa a (ea.on S) := .act ea A la
  have Fb : Fit S r xb b (payS S v (payF b)) := .pay v hk hv he
  have hfa := (valid_right h.va).2.1
  obtain ⟨p', q1, q2⟩ := node_res h.unf h.nodup A (act_moves A hfa) hv d1
  have e1 := shifted_pay prior hk q1
  have Fab : Fit (ea.on S) r xb (shiftedO b a prior) (payS (ea.on S) v (payF b)) := by
    rw [e1]
    exact .pay (o := { b with path := p' }) v hk q2 he
  have e2 : shiftedO a b (!prior) = a := shifted_still _ (still_of hk)
  have Fba : Fit (payS S v (payF b)) r xa (shiftedO a b (!prior)) (ea.on (payS S v (payF b))) := by
    rw [e2]
    exact .act ea (act_pay A) fun w g x e => by rw [pay_leaf_of]; exact la w g x e
  have c1 := h.after Fa Fab f1 (shifted_fresh ..)
  have c2 := h.swap.after Fb Fba (by rw [e2]; exact hfa) (shifted_fresh ..)
  have e := same_tree c1.2.1.unf c2.2.1.unf fun z _ => ⟨rfl, rfl⟩
  exact ⟨_, c2.1, e ▸ c1.1⟩
theorem pay_next {S : Gr α} {r xb v w : α} {a b : OpT} (ka : 4 ≤ a.kind ∧ a.kind ≤ 6) (kb : 4 ≤ b.kind ∧ b.kind ≤ 6) (hw : res S r b.path = some w) (he : b.kind = 6 → (S.pay w).leaf = true ∧ (applyE (S.pay w).text b.pieces).2 = 0) (hne : b.kind = 6 → a.kind = 6 → w ≠ v) :
    Fit (payS S v (payF a)) r xb b (payS (payS S v (payF a)) w (payF b)) := by
  refine .pay w kb (by rw [res_pay]; exact hw) fun h6 => ?_
  rw [pay_leaf_of]
  refine ⟨(he h6).1, ?_⟩
  have : ((payS S v (payF a)).pay w).text = (S.pay w).text := by
    show (if w = v then payF a (S.pay w) else S.pay w).text = _
    split
    · rename_i hwv
      unfold payF
      split
      · rfl
      · split
        · rfl
        · exact absurd hwv (hne h6 (by omega))
    · rfl
  rw [this]
  exact (he h6).2
/-- Both turn what stands at nodes. -/
theorem meet_pay {S : Gr α} {r xa xb v w : α} {t : Tree} {a b : OpT} (prior : Bool) (h : Sit S r xa xb t a b) (ka : 4 ≤ a.kind ∧ a.kind ≤ 6) (kb : 4 ≤ b.kind ∧ b.kind ≤ 6) (hv : res S r a.path = some v) (hw : res S r b.path = some w)
    (ha : a.kind = 6 → (S.pay v).leaf = true ∧ (applyE (S.pay v).text a.pieces).2 = 0) (hb : b.kind = 6 → (S.pay w).leaf = true ∧ (applyE (S.pay w).text b.pieces).2 = 0) (hne : b.kind = 6 → a.kind = 6 → w ≠ v)
    (hc : w = v → payF b (payF a (S.pay v)) = payF a (payF b (S.pay v))) : Meet t a b [shiftedO a b (!prior)] [shiftedO b a prior] := by
  have Fa : Fit S r xa a (payS S v (payF a)) := .pay v ka hv ha
  have Fb : Fit S r xb b (payS S w (payF b)) := .pay w kb hw hb
  have e1 : shiftedO b a prior = b := shifted_still _ (still_of ka)
  have e2 : shiftedO a b (!prior) = a := shifted_still _ (still_of kb)
  rw [e1, e2]
  have c1 := h.after Fa (pay_next ka kb hw hb hne) (valid_right h.vb).2.1 rfl
  have c2 := h.swap.after Fb (pay_next kb ka hv ha fun x y z => hne y x z.symm) (valid_right h.va).2.1 rfl
  have e := same_tree c1.2.1.unf c2.2.1.unf fun z _ => by
    refine ⟨rfl, ?_⟩
    show (if z = v then payF a (if z = w then payF b (S.pay z) else S.pay z) else if z = w then payF b (S.pay z) else S.pay z) = (if z = w then payF b (if z = v then payF a (S.pay z) else S.pay z) else if z = v then payF a (S.pay z) else S.pay z)
    by_cases zv : z = v <;> by_cases zw : z = w
    · subst zv
      subst zw
      simp only [if_pos]
      exact (hc rfl).symm
    · simp only [if_pos zv, if_neg zw]
    · simp only [if_neg zv, if_pos zw]
    · simp only [if_neg zv, if_neg zw]
  exact ⟨_, c2.1, e ▸ c1.1⟩
/-- Both turn the same thing: one counts. -/
theorem meet_won {S : Gr α} {r xa xb v : α} {t : Tree} {a b : OpT} (h : Sit S r xa xb t a b) (ka : 4 ≤ a.kind ∧ a.kind ≤ 6) (kb : 4 ≤ b.kind ∧ b.kind ≤ 5) (hv : res S r a.path = some v) (hw : res S r b.path = some v)
    (ha : a.kind = 6 → (S.pay v).leaf = true ∧ (applyE (S.pay v).text a.pieces).2 = 0) (hc : payF b (payF a (S.pay v)) = payF b (S.pay v)) (prior : Bool) : Meet t a b [] [shiftedO b a prior] := by
  have Fa : Fit S r xa a (payS S v (payF a)) := .pay v ka hv ha
  have Fb : Fit S r xb b (payS S v (payF b)) := .pay v (by omega) hw fun c => by omega
  have e1 : shiftedO b a prior = b := shifted_still _ (still_of ka)
  rw [e1]
  have c1 := h.after Fa (pay_next ka (by omega) hw (fun c => by omega) fun c => by omega) (valid_right h.vb).2.1 rfl
  have c2 := h.swap.became Fb
  have e := same_tree c1.2.1.unf c2.unf fun z _ => by
    refine ⟨rfl, ?_⟩
    show (if z = v then payF b (S.pay z) else S.pay z) = (if z = v then payF b (if z = v then payF a (S.pay z) else S.pay z) else if z = v then payF a (S.pay z) else S.pay z)
    by_cases zv : z = v
    · subst zv
      simp only [if_pos]
      exact hc.symm
    · simp only [if_neg zv]
  exact ⟨_, comes_nil _, e ▸ c1.1⟩
/-- A deletion, when the other one did things below it alone. -/
theorem meet_dom {S Sb : Gr α} {r xa xb u : α} {t s : Tree} {a b a' : OpT} (h : Sit S r xa xb t a b) (hk : a.kind = 2) (hne : a.path ≠ []) (hu : res S r a.path = some u) (hs : atT t a.path = some s) (Fb : Fit S r xb b Sb)
    (Fa' : Fit Sb r xa a' (delS Sb u)) (hf : formedB a' = true) (he : freshT a' = freshT a) (ag : ∀ z ∈ labs S r t, z ∉ labs S u s → rm u (Sb.kids z) = rm u (S.kids z) ∧ Sb.pay z = S.pay z) : Meet t a b [a'] [] := by
  have Fa : Fit S r xa a (Eff.on ⟨some u, none⟩ S) := .act _ (.del u hk hne hu) fun v g x e => by cases e
  have B := h.became Fa
  have c2 := h.swap.after Fb Fa' hf he
  have e := same_tree B.unf c2.2.1.unf fun z hz => by
    have hz1 : z ∈ labs S r t := by
      rcases B.old z hz with c | ⟨c, _⟩
      · exact c
      · omega
    exact ag z hz1 (B.gone u s hk hu hs z hz)
  exact ⟨_, e ▸ c2.1, comes_nil _⟩
end
end Bow
/- SP53: both ways round, by names: the same node moved by both; a deletion, and what the other one does below it. -/
namespace Bow
open Go

section
variable {α : Type} [DecidableEq α]
theorem out_put (u : α) (g : Nat) (l : List α) : rmo (some u) (putL (some u) g u l) = rmo (some u) l := by
  unfold putL
  rw [rmo_app, rmo_self, rmo_twice, rmo_twice, ← rmo_app, List.take_append_drop]
theorem put_rm (u : α) (g : Nat) (l : List α) : putL (some u) (rmo (some u) (l.take g)).length u (rmo (some u) l) = putL (some u) g u l := by
  have c := cut_out (some u) g l
  unfold putL
  rw [c.1, c.2, rmo_twice, rmo_twice]
theorem eff_again (S : Gr α) (u va vb : α) (ga gb : Nat) (first : Bool) :
    (Eff.behind ⟨some u, some (vb, gb, u)⟩ ⟨some u, some (va, ga, u)⟩ S first).on (Eff.on ⟨some u, some (va, ga, u)⟩ S) = Eff.on ⟨some u, some (vb, gb, u)⟩ S := by
  refine gr_ext (fun z => ?_) fun _ => rfl
  simp only [Eff.on, Eff.behind, Eff.kids, Eff.gap]
  by_cases ha : z = va <;> by_cases hb : z = vb
  · subst ha
    subst hb
    simp only [if_pos]
    exact put_again first
  · simp only [if_pos ha, if_neg hb]
    exact out_put _ _ _
  · subst hb
    simp only [if_pos, if_neg ha]
    exact put_rm _ _ _
  · simp only [if_neg ha, if_neg hb]
    exact rmo_twice _ _
/-- Both move the same node: one counts. -/
theorem meet_again {S : Gr α} {r xa xb : α} {t : Tree} {a b : OpT} {ea eb : Eff α} (prior : Bool) (h : Sit S r xa xb t a b) (A : Act S r xa a ea) (B : Act S r xb b eb) (ka : a.kind = 3) (kb : b.kind = 3) (hp : a.path = b.path)
    (la : ∀ v g x, ea.into = some (v, g, x) → (S.pay v).leaf = false) (lb : ∀ v g x, eb.into = some (v, g, x) → (S.pay v).leaf = false) (f1 : formedB (shiftedO b a prior) = true) : Meet t a b [] [shiftedO b a prior] := by
  have Fa : Fit S r xa a (ea.on S) := .act ea A la
  have Fb : Fit S r xb b (eb.on S) := .act eb B lb
  have Fab : Fit (ea.on S) r xb (shiftedO b a prior) ((eb.behind ea S prior).on (ea.on S)) := by
    refine shift_fit prior h.unf h.nodup (act_moves A (valid_right h.va).2.1) A rfl B lb (fresh_kids h.fa) h.na (fun c => by omega) (fun c => by omega) (fun c => ?_) rfl
    cases A with
    | ins v hk => omega
    | del u hk => omega
    | mov u v hk hne hw =>
      have := c.2.2.1
      rw [← hp, hw] at this
      cases this
  have e : (eb.behind ea S prior).on (ea.on S) = eb.on S := by
    cases A with
    | ins v hk => omega
    | del u hk => omega
    | mov u v hk hne hw hu hv h0 hg =>
      cases B with
      | ins v hk => omega
      | del u hk => omega
      | mov u' v' hk' hne' hw' hu' hv' h0' hg' =>
        rw [← hp, hu] at hu'
        injection hu' with hu'
        subst hu'
        exact eff_again S u v v' _ _ prior
  rw [e] at Fab
  have c1 := h.after Fa Fab f1 (shifted_fresh ..)
  have c2 := h.swap.became Fb
  have e := same_tree c1.2.1.unf c2.unf fun z _ => ⟨rfl, rfl⟩
  exact ⟨_, comes_nil _, e ▸ c1.1⟩

/-! ### Below a node that is deleted -/
omit [DecidableEq α] in
/-- What a path below leads to is below. -/
theorem below_mem {S : Gr α} {r u v : α} {t s : Tree} {p q : List Int} (h : Unf S r t) (hu : res S r p = some u) (hs : atT t p = some s) (hv : res S r q = some v) (hw : within p q = true) : v ∈ labs S u s := by
  obtain ⟨q', rfl⟩ := within_split hw
  rw [res_app, hu] at hv
  obtain ⟨s', hs', hus⟩ := at_res h hu
  rw [hs] at hs'
  injection hs' with hs'
  subst hs'
  exact res_self hus hv
omit [DecidableEq α] in
/-- And so is its parent, but for the node's own. -/
theorem parent_below {S : Gr α} {r u w z : α} {t s : Tree} {p q : List Int} (h : Unf S r t) (hn : (labs S r t).Nodup) (hu : res S r p = some u) (hs : atT t p = some s) (hv : res S r q = some w) (hw : within p q = true) (hne : p ≠ q) (hz : z ∈ labs S r t) (hm : w ∈ S.kids z) : z ∈ labs S u s := by
  obtain ⟨q', rfl⟩ := within_split hw
  have hq : q' ≠ [] := fun c => hne (by rw [c, List.append_nil])
  rw [← snoc_last hq, ← List.append_assoc, res_snoc] at hv
  cases hf : res S r (p ++ q'.dropLast) with
  | none => rw [hf] at hv; cases hv
  | some f =>
    rw [hf] at hv
    obtain ⟨i, hi⟩ := List.getElem?_of_mem hm
    have := (parent_one h hn hz (res_self h hf) hi (kidS_some (S := S) hv).2).1
    subst this
    exact below_mem h hu hs hf (within_app _ _)
end
end Bow
/- SP54: both ways round, by names: a deletion, and what the other one does at or below the node. -/
namespace Bow
open Go

section
variable {α : Type} [DecidableEq α]
theorem meet_del_act {S : Gr α} {r xa xb u : α} {t s : Tree} {a b : OpT} {eb : Eff α} (f : Bool) (h : Sit S r xa xb t a b) (hk : a.kind = 2) (hne : a.path ≠ []) (hu : res S r a.path = some u) (hs : atT t a.path = some s) (B : Act S r xb b eb)
    (lb : ∀ v g x, eb.into = some (v, g, x) → (S.pay v).leaf = false) (d3 : ¬ (b.kind = 2 ∧ within b.path a.path = true)) (f2 : formedB (shiftedO a b f) = true)
    (ag : ∀ z ∈ labs S r t, z ∉ labs S u s → rm u (eb.kids z (S.kids z)) = rm u (S.kids z)) : Meet t a b [shiftedO a b f] [] := by
  have Fb : Fit S r xb b (eb.on S) := .act eb B lb
  have A : Act S r xa a ⟨some u, none⟩ := .del u hk hne hu
  have A' := shift_act f h.unf h.nodup (act_moves B (valid_right h.vb).2.1) B A (fresh_kids h.fb) h.nb d3 (fun c => by omega) (fun c => by omega)
  have Fa' : Fit (eb.on S) r xa (shiftedO a b f) (delS (eb.on S) u) := .act _ A' fun v g x e => by cases e
  exact meet_dom h hk hne hu hs Fb Fa' f2 (shifted_fresh ..) fun z hz hzs => ⟨ag z hz hzs, rfl⟩
theorem meet_del_pay {S : Gr α} {r xa xb u v : α} {t s : Tree} {a b : OpT} (f : Bool) (h : Sit S r xa xb t a b) (hk : a.kind = 2) (hne : a.path ≠ []) (hu : res S r a.path = some u) (hs : atT t a.path = some s)
    (kb : 4 ≤ b.kind ∧ b.kind ≤ 6) (hv : res S r b.path = some v) (he : b.kind = 6 → (S.pay v).leaf = true ∧ (applyE (S.pay v).text b.pieces).2 = 0) (hw : within a.path b.path = true) : Meet t a b [shiftedO a b f] [] := by
  have Fb : Fit S r xb b (payS S v (payF b)) := .pay v kb hv he
  have A : Act S r xa a ⟨some u, none⟩ := .del u hk hne hu
  have e2 : shiftedO a b f = a := shifted_still _ (still_of kb)
  rw [e2]
  have Fa' : Fit (payS S v (payF b)) r xa a (delS (payS S v (payF b)) u) := .act _ (act_pay A) fun v g x e => by cases e
  have hvm := below_mem h.unf hu hs hv hw
  exact meet_dom h hk hne hu hs Fb Fa' (valid_right h.va).2.1 rfl fun z hz hzs => ⟨rfl, if_neg fun c : z = v => hzs (c ▸ hvm)⟩
theorem meet_del_ins {S : Gr α} {r xa xb u : α} {t s : Tree} {a b : OpT} {eb : Eff α} (f : Bool) (h : Sit S r xa xb t a b) (hk : a.kind = 2) (hne : a.path ≠ []) (hu : res S r a.path = some u) (hs : atT t a.path = some s) (B : Act S r xb b eb) (kb : b.kind = 1)
    (lb : ∀ v g x, eb.into = some (v, g, x) → (S.pay v).leaf = false) (f2 : formedB (shiftedO a b f) = true) (hw : within a.path b.path = true) : Meet t a b [shiftedO a b f] [] := by
  refine meet_del_act f h hk hne hu hs B lb (fun c => by omega) f2 fun z hz hzs => ?_
  cases B with
  | ins v hk1 hv h0 hg =>
    have hvm := below_mem h.unf hu hs hv hw
    have : (Eff.kids ⟨none, some (v, b.at_.toNat, xb)⟩ z (S.kids z)) = S.kids z := if_neg fun c : z = v => hzs (c ▸ hvm)
    rw [this]
  | del u hk1 => omega
  | mov u v hk1 => omega
theorem meet_del_del {S : Gr α} {r xa xb u : α} {t s : Tree} {a b : OpT} {eb : Eff α} (f : Bool) (h : Sit S r xa xb t a b) (hk : a.kind = 2) (hne : a.path ≠ []) (hu : res S r a.path = some u) (hs : atT t a.path = some s) (B : Act S r xb b eb) (kb : b.kind = 2)
    (lb : ∀ v g x, eb.into = some (v, g, x) → (S.pay v).leaf = false) (f2 : formedB (shiftedO a b f) = true) (hw : within a.path b.path = true) (hp : a.path ≠ b.path) : Meet t a b [shiftedO a b f] [] := by
  refine meet_del_act f h hk hne hu hs B lb (fun c => hp ?_) f2 fun z hz hzs => ?_
  · have h1 := within_len hw
    have h2 := within_len c.2
    obtain ⟨q, hq⟩ := within_split hw
    have : q = [] := List.length_eq_zero_iff.1 (by have := congrArg List.length hq; simp at this; omega)
    rw [this, List.append_nil] at hq
    exact hq.symm
  cases B with
  | ins v hk1 => omega
  | mov u v hk1 => omega
  | del w hk1 hne1 hw1 =>
    have : (Eff.kids ⟨some w, none⟩ z (S.kids z)) = S.kids z := rm_none fun hm => hzs (parent_below h.unf h.nodup hu hs hw1 hw hp hz hm)
    rw [this]
theorem meet_del_same {S : Gr α} {r xa xb u : α} {t : Tree} {a b : OpT} (h : Sit S r xa xb t a b) (hk : a.kind = 2) (hne : a.path ≠ []) (hu : res S r a.path = some u) (kb : b.kind = 2) (hp : a.path = b.path) : Meet t a b [] [] := by
  have Fa : Fit S r xa a (Eff.on ⟨some u, none⟩ S) := .act _ (.del u hk hne hu) fun v g x e => by cases e
  have Fb : Fit S r xb b (Eff.on ⟨some u, none⟩ S) := .act _ (.del u kb (hp ▸ hne) (hp ▸ hu)) fun v g x e => by cases e
  have e := same_tree (h.became Fa).unf (h.swap.became Fb).unf fun z _ => ⟨rfl, rfl⟩
  exact ⟨_, comes_nil _, e ▸ comes_nil _⟩
/-- The moved node itself, or what moves below it. -/
theorem meet_del_mov {S : Gr α} {r xa xb u : α} {t s : Tree} {a b : OpT} {eb : Eff α} (f : Bool) (h : Sit S r xa xb t a b) (hk : a.kind = 2) (hne : a.path ≠ []) (hu : res S r a.path = some u) (hs : atT t a.path = some s) (B : Act S r xb b eb) (kb : b.kind = 3)
    (lb : ∀ v g x, eb.into = some (v, g, x) → (S.pay v).leaf = false) (f2 : formedB (shiftedO a b f) = true) (hw : within a.path b.path = true) (hp : a.path = b.path ∨ within a.path b.to = true) : Meet t a b [shiftedO a b f] [] := by
  refine meet_del_act f h hk hne hu hs B lb (fun c => by omega) f2 fun z hz hzs => ?_
  cases B with
  | ins v hk1 => omega
  | del w hk1 => omega
  | mov w v hk1 hne1 hww hw1 hv h0 hg =>
    by_cases e : a.path = b.path
    · rw [← e, hu] at hw1
      injection hw1 with hw1
      subst hw1
      show rm u (if z = v then putL (some u) b.at_.toNat u (S.kids z) else rmo (some u) (S.kids z)) = _
      split
      · exact out_put u _ _
      · exact rmo_twice (some u) _
    · have hvm := below_mem h.unf hu hs hv (hp.resolve_left e)
      have : (Eff.kids ⟨some w, some (v, b.at_.toNat, w)⟩ z (S.kids z)) = rmo (some w) (S.kids z) := if_neg fun c : z = v => hzs (c ▸ hvm)
      rw [this, show rmo (some w) (S.kids z) = S.kids z from rm_none fun hm => hzs (parent_below h.unf h.nodup hu hs hw1 hw e hz hm)]
end
end Bow
/- SP55: both ways round, by names: a move out of what is deleted, and a move into it. -/
namespace Bow
open Go

section
variable {α : Type} [DecidableEq α]
/-- One more operation that puts nothing new in. -/
theorem next_unf {S1 S2 : Gr α} {r x : α} {t1 : Tree} {o : OpT} (h : Unf S1 r t1) (hn : (labs S1 r t1).Nodup) (hr : rightT t1 = true) (hf : formedB o = true) (F : Fit S1 r x o S2) (hk : o.kind ≠ 1) :
    (∀ l i, allR t1 (o :: l) i = allR (applyT t1 o) l (i + 1)) ∧ Became S2 S1 r (applyT t1 o) t1 o x ∧ rightT (applyT t1 o) = true :=
  ⟨fun _ _ => (one_more h hr hf F).1, fit_unf h hn F hf fun c => absurd c hk, (one_more (i := 0) (l := []) h hr hf F).2⟩
omit [DecidableEq α] in
theorem drop_act {S : Gr α} {r x w : α} {p : List Int} (hw : res S r p = some w) (hne : w ≠ r) : Act S r x (dropO p) ⟨some w, none⟩ := by
  refine .del w rfl (fun c => ?_) hw
  have c : p = [] := c
  subst c
  rw [res] at hw
  injection hw with hw
  exact hne hw.symm
omit [DecidableEq α] in
theorem not_root {S : Gr α} {r u : α} {t : Tree} {p : List Int} (h : Unf S r t) (hn : (labs S r t).Nodup) (hne : p ≠ []) (hu : res S r p = some u) : u ≠ r := fun c => by
  subst c
  exact hne (res_inj _ [] h hn hu rfl)
/-- A move into what is deleted. -/
theorem meet_del_into {S : Gr α} {r xa xb u : α} {t s : Tree} {a b : OpT} {eb : Eff α} (f : Bool) (h : Sit S r xa xb t a b) (hk : a.kind = 2) (hne : a.path ≠ []) (hu : res S r a.path = some u) (hs : atT t a.path = some s) (B : Act S r xb b eb) (kb : b.kind = 3)
    (lb : ∀ v g x, eb.into = some (v, g, x) → (S.pay v).leaf = false) (hw : within a.path b.path = false) (hp : within a.path b.to = true) (f1 : formedB (dropO ((nodeP a b.path).getD [])) = true) (f2 : formedB (shiftedO a b f) = true) :
    Meet t a b [shiftedO a b f] [dropO ((nodeP a b.path).getD [])] := by
  have A : Act S r xa a ⟨some u, none⟩ := .del u hk hne hu
  have Fa : Fit S r xa a (Eff.on ⟨some u, none⟩ S) := .act _ A fun v g x e => by cases e
  have Fb : Fit S r xb b (eb.on S) := .act eb B lb
  have Ba := h.became Fa
  have A' := shift_act f h.unf h.nodup (act_moves B (valid_right h.vb).2.1) B A (fresh_kids h.fb) h.nb (fun c => by omega) (fun c => by omega) (fun c => by omega)
  have Fa' : Fit (eb.on S) r xa (shiftedO a b f) (delS (eb.on S) u) := .act _ A' fun v g x e => by cases e
  have c2 := h.swap.after Fb Fa' f2 (shifted_fresh ..)
  cases B with
  | ins v hk1 => omega
  | del w hk1 => omega
  | mov w v hk1 hne1 hww hw1 hv h0 hg =>
    obtain ⟨p', q1, q2⟩ := node_res h.unf h.nodup A (act_moves A (valid_right h.va).2.1) hw1 fun c => by rw [hw] at c; cases c.2
    rw [q1] at f1 ⊢
    rw [Option.getD_some] at f1 ⊢
    have F' : Fit (Eff.on ⟨some u, none⟩ S) r xb (dropO p') (Eff.on ⟨some w, none⟩ (Eff.on ⟨some u, none⟩ S)) := .act _ (drop_act q2 (not_root h.unf h.nodup hne1 hw1)) fun v g x e => by cases e
    have c1 := next_unf Ba.unf Ba.nodup (right_applyT h.va) f1 F' (show (2 : Int) ≠ 1 by decide)
    have hvm := below_mem h.unf hu hs hv hp
    have e := same_tree c1.2.1.unf c2.2.1.unf fun z hz => by
      have hz1 : z ∈ labs (Eff.on ⟨some u, none⟩ S) r (applyT t a) := by
        rcases c1.2.1.old z hz with c | ⟨c, _⟩
        · exact c
        · cases c
      have hzv : z ≠ v := fun c => Ba.gone u s hk hu hs z hz1 (c ▸ hvm)
      refine ⟨?_, rfl⟩
      have e1 : (Eff.on ⟨some w, some (v, b.at_.toNat, w)⟩ S).kids z = rmo (some w) (S.kids z) := if_neg hzv
      show rm u ((Eff.on ⟨some w, some (v, b.at_.toNat, w)⟩ S).kids z) = rm w (rm u (S.kids z))
      rw [e1]
      exact rm_comm u w (S.kids z)
    exact ⟨_, c2.1, e ▸ ⟨1, by rw [c1.1, allR]⟩⟩
/-- A move out of what is deleted. -/
theorem meet_del_out {S : Gr α} {r xa xb u : α} {t s : Tree} {a b : OpT} {eb : Eff α} (h : Sit S r xa xb t a b) (hk : a.kind = 2) (hne : a.path ≠ []) (hu : res S r a.path = some u) (hs : atT t a.path = some s) (B : Act S r xb b eb) (kb : b.kind = 3)
    (lb : ∀ v g x, eb.into = some (v, g, x) → (S.pay v).leaf = false) (hw : within a.path b.path = true) (hp : a.path ≠ b.path)
    (f1 : formedB (dropO ((nodeP b b.path).getD [])) = true) (f2 : formedB (dropO ((nodeP (dropO ((nodeP b b.path).getD [])) ((nodeP b a.path).getD [])).getD [])) = true) :
    Meet t a b [dropO ((nodeP b b.path).getD []), dropO ((nodeP (dropO ((nodeP b b.path).getD [])) ((nodeP b a.path).getD [])).getD [])] [] := by
  have A : Act S r xa a ⟨some u, none⟩ := .del u hk hne hu
  have Fa : Fit S r xa a (Eff.on ⟨some u, none⟩ S) := .act _ A fun v g x e => by cases e
  have Fb : Fit S r xb b (eb.on S) := .act eb B lb
  have Ba := h.became Fa
  have Bb := h.swap.became Fb
  have hmv := act_moves B (valid_right h.vb).2.1
  cases B with
  | ins v hk1 => omega
  | del w hk1 => omega
  | mov w v hk1 hne1 hww hw1 hv h0 hg =>
    have B : Act S r xb b ⟨some w, some (v, b.at_.toNat, w)⟩ := .mov w v hk1 hne1 hww hw1 hv h0 hg
    obtain ⟨p1, q1, q2⟩ := node_res h.unf h.nodup B hmv hw1 fun c => by omega
    obtain ⟨p2, q3, q4⟩ := node_res h.unf h.nodup B hmv hu fun c => by omega
    rw [q1, q3] at f2 ⊢
    rw [q1] at f1
    simp only [Option.getD_some] at f1 f2 ⊢
    have nw := not_root h.unf h.nodup hne1 hw1
    have nu := not_root h.unf h.nodup hne hu
    have D1 : Act (Eff.on ⟨some w, some (v, b.at_.toNat, w)⟩ S) r xb (dropO p1) ⟨some w, none⟩ := drop_act q2 nw
    have F1 : Fit (Eff.on ⟨some w, some (v, b.at_.toNat, w)⟩ S) r xb (dropO p1) (Eff.on ⟨some w, none⟩ (Eff.on ⟨some w, some (v, b.at_.toNat, w)⟩ S)) := .act _ D1 fun v g x e => by cases e
    have c1 := next_unf Bb.unf Bb.nodup (right_applyT h.vb) f1 F1 (show (2 : Int) ≠ 1 by decide)
    have hm1 : movesO (dropO p1) = true := act_moves D1 f1
    have hnw : ¬ ((dropO p1).kind = 2 ∧ within (dropO p1).path p2 = true) := fun c => by
      -- u is not below w behind the move
      obtain ⟨q, hq⟩ := within_split (show within p1 p2 = true from c.2)
      subst hq
      rw [res_app, q2] at q4
      rcases below_after B (fresh_kids h.fb) (fun p e => h.nb (res_self h.unf e)) _ q u rfl q4 with c | ⟨s', c⟩ | ⟨_, w', v', s1, s2, c1, c2, c3, c4⟩
      · subst c
        exact h.nb (res_self h.unf hu)
      · have : res S r (b.path ++ s') = some u := by rw [res_app, hw1]; exact c
        have := res_inj _ _ h.unf h.nodup this hu
        obtain ⟨k, hk'⟩ := within_split hw
        rw [← this, List.append_assoc] at hk'
        have hk' := List.append_right_eq_self.1 hk'.symm
        have hs0 : s' = [] := (List.append_eq_nil_iff.1 hk').1
        rw [hs0, List.append_nil] at this
        exact hp this.symm
      · rw [hw1] at c1
        injection c1 with c1
        subst c1
        have h1 : res S r (b.path ++ s2) = some u := by rw [res_app, hw1]; exact c4
        have := res_inj _ _ h.unf h.nodup h1 hu
        obtain ⟨k, hk'⟩ := within_split hw
        rw [← this, List.append_assoc] at hk'
        have hk' := List.append_right_eq_self.1 hk'.symm
        have hs0 : s2 = [] := (List.append_eq_nil_iff.1 hk').1
        rw [hs0, List.append_nil] at this
        exact hp this.symm
    obtain ⟨p3, q5, q6⟩ := node_res Bb.unf Bb.nodup D1 hm1 q4 hnw
    rw [q5] at f2 ⊢
    simp only [Option.getD_some] at f2 ⊢
    have F2 : Fit (Eff.on ⟨some w, none⟩ (Eff.on ⟨some w, some (v, b.at_.toNat, w)⟩ S)) r xb (dropO p3) (Eff.on ⟨some u, none⟩ (Eff.on ⟨some w, none⟩ (Eff.on ⟨some w, some (v, b.at_.toNat, w)⟩ S))) := .act _ (drop_act q6 nu) fun v g x e => by cases e
    have c2 := next_unf c1.2.1.unf c1.2.1.nodup c1.2.2 f2 F2 (show (2 : Int) ≠ 1 by decide)
    have e := same_tree Ba.unf c2.2.1.unf fun z hz => by
      have hz1 : z ∈ labs S r t := by
        rcases Ba.old z hz with c | ⟨c, _⟩
        · exact c
        · omega
      have hzs := Ba.gone u s hk hu hs z hz
      refine ⟨?_, rfl⟩
      have e1 : rmo (some w) (if z = v then putL (some w) b.at_.toNat w (S.kids z) else rmo (some w) (S.kids z)) = S.kids z := by
        have e2 : rmo (some w) (S.kids z) = S.kids z := rm_none fun hm => hzs (parent_below h.unf h.nodup hu hs hw1 hw hp hz1 hm)
        split
        · rw [out_put, e2]
        · rw [rmo_twice, e2]
      exact congrArg (rm u) e1
    exact ⟨_, e ▸ ⟨2, by rw [c1.1, c2.1, allR]⟩, comes_nil _⟩
end
end Bow
/- SP56: a move undone, by names. -/
namespace Bow
open Go

section
variable {α : Type} [DecidableEq α]
/-- A node put back where it stood. -/
theorem put_back {u : α} {j g : Nat} {l l' : List α} (hn : l.Nodup) (hj : l[j]? = some u) (h1 : rmo (some u) l' = rmo (some u) l) (h2 : (rmo (some u) (l'.take g)).length = j) : putL (some u) g u l' = l := by
  have hjl := (List.getElem?_eq_some_iff.1 hj).1
  have e := split_get hj
  have hn' := hn
  rw [e] at hn'
  obtain ⟨n1, n2, n3⟩ := List.nodup_append.1 hn'
  have hA : u ∉ l.take j := fun h => n3 u h u (by simp) rfl
  have hB : u ∉ l.drop (j + 1) := (List.nodup_cons.1 n2).1
  have e1 : rmo (some u) l = l.take j ++ l.drop (j + 1) := by
    conv => lhs; rw [e]
    rw [rmo_app, rmo_self]
    show rm u _ ++ rm u _ = _
    rw [rm_none hA, rm_none hB]
  have c := cut_out (some u) g l'
  rw [h1, e1, h2] at c
  have hl : (l.take j).length = j := by rw [List.length_take]; omega
  have m := take_mid (a := l.take j) (b := l.drop (j + 1)) hl
  rw [m.1, m.2] at c
  unfold putL
  rw [← c.1, ← c.2, ← e]
omit [DecidableEq α] in
theorem kids_nodup {S : Gr α} {r f : α} {t : Tree} (h : Unf S r t) (hn : (labs S r t).Nodup) (hf : f ∈ labs S r t) : (S.kids f).Nodup := by
  rw [List.nodup_iff_pairwise_ne, List.pairwise_iff_getElem]
  intro i j hi hjl hij he
  have hx := List.getElem?_eq_getElem hjl
  have hy : (S.kids f)[i]? = some (S.kids f)[j] := by rw [← he, List.getElem?_eq_getElem hi]
  have := (parent_one h hn hf hf hy hx).2
  omega
/-- What a move undone does, by names. -/
theorem undo_act {S : Gr α} {r x u f v : α} {t : Tree} {a : OpT} (h : Unf S r t) (hn : (labs S r t).Nodup) (hf : formedB a = true) (hk : a.kind = 3) (hne : a.path ≠ []) (hw : within a.path a.to = false) (hu : res S r a.path = some u) (hv : res S r a.to = some v) (h0 : 0 ≤ a.at_) (hg : a.at_.toNat ≤ (S.kids v).length)
    (hx : S.kids x = []) (hx0 : x ∉ labs S r t) (hff : res S r a.path.dropLast = some f) :
    ∃ g', Act (Eff.on ⟨some u, some (v, a.at_.toNat, u)⟩ S) r x (undoO a) ⟨some u, some (f, g', u)⟩ ∧ ∀ z ∈ labs S r t, (Eff.on ⟨some u, some (f, g', u)⟩ (Eff.on ⟨some u, some (v, a.at_.toNat, u)⟩ S)).kids z = S.kids z := by
  have A : Act S r x a ⟨some u, some (v, a.at_.toNat, u)⟩ := .mov u v hk hne hw hu hv h0 hg
  have hm := act_moves A hf
  obtain ⟨f', hf', hl0, hj⟩ := res_last hne hu
  rw [hff] at hf'
  injection hf' with hf'
  subst hf'
  obtain ⟨p1, q1, q2⟩ := node_res h hn A hm hu fun c => by omega
  obtain ⟨p2, q3, q4⟩ := node_res h hn A hm hff fun c => by omega
  have hfm := res_self h hff
  have hkn := kids_nodup h hn hfm
  have hland := land_len2 h hn hne hu hv h0 hg
  have hfrm : (chgO a).frm = a.path.dropLast := by unfold chgO; simp [hk]
  have hto : (chgO a).to = a.to := by unfold chgO; simp [hk]
  have hat : (chgO a).at_ = lastP a.path := by unfold chgO; simp [hk]
  have hgap : (chgO a).gap = a.at_ := rfl
  have hL : (chgO a).land = bif decide (a.path.dropLast = a.to) && decide (lastP a.path < a.at_) then a.at_ - 1 else a.at_ := by
    unfold Chg.land
    rw [hat, hgap, hfrm, hto, Bool.and_comm]
  let g' : Nat := (lastP a.path).toNat + (if f = v ∧ (rm u ((S.kids v).take a.at_.toNat)).length < (lastP a.path).toNat then 1 else 0)
  have e : undoO a = { noOp 3 with path := p1, to := p2, at_ := (g' : Int) } := by
    unfold undoO
    rw [hm, decide_eq_true hk, q1, hfrm, hto, hat, q3, hL, hland]
    simp only [Bool.and_self, cond_true, Option.getD_some]
    congr 1
    show lastP a.path + _ = (((lastP a.path).toNat + _ : Nat) : Int)
    by_cases c : a.path.dropLast = a.to
    · have hfv : f = v := by
        rw [c, hv] at hff
        injection hff with hff
        exact hff.symm
      rw [decide_eq_true c, Bool.true_and]
      by_cases c2 : (rm u ((S.kids v).take a.at_.toNat)).length < (lastP a.path).toNat
      · rw [decide_eq_true (by omega), if_pos ⟨hfv, c2⟩]
        simp only [cond_true]
        omega
      · rw [decide_eq_false (by omega), if_neg fun g => c2 g.2]
        simp only [cond_false]
        omega
    · have hfv : f ≠ v := fun g => c (by
        subst g
        exact res_inj _ _ h hn hff hv)
      rw [decide_eq_false c, if_neg fun g => hfv g.1]
      simp only [Bool.false_and, cond_false]
      omega
  -- what stands at the node's parent
  have hjl := (List.getElem?_eq_some_iff.1 hj).1
  have hrl : (rm u (S.kids f)).length = (S.kids f).length - 1 := by
    have := len_out hkn hj (g := (S.kids f).length) (Nat.le_refl _)
    rw [List.take_length, if_pos hjl] at this
    exact this
  have Ba := act_unf h hn A hf fun c => by omega
  have hfa := res_self Ba.unf q4
  have main : ((rmo (some u) (((Eff.on ⟨some u, some (v, a.at_.toNat, u)⟩ S).kids f).take g')).length = (lastP a.path).toNat) ∧ g' ≤ ((Eff.on ⟨some u, some (v, a.at_.toNat, u)⟩ S).kids f).length := by
    by_cases hfv : f = v
    · subst hfv
      have hks : (Eff.on ⟨some u, some (f, a.at_.toNat, u)⟩ S).kids f = putL (some u) a.at_.toNat u (S.kids f) := if_pos rfl
      have hn2 := kids_nodup Ba.unf Ba.nodup hfa
      rw [hks] at hn2 ⊢
      have hlen : (putL (some u) a.at_.toNat u (S.kids f)).length = (S.kids f).length := by
        have h1 : (rm u (S.kids f)).length = _ := rmo_split (some u) a.at_.toNat (S.kids f)
        unfold putL
        rw [List.length_append, List.length_cons]
        omega
      have hg' : g' ≤ (putL (some u) a.at_.toNat u (S.kids f)).length := by
        rw [hlen]
        show (lastP a.path).toNat + _ ≤ _
        split <;> omega
      refine ⟨?_, hg'⟩
      have := len_out hn2 (get_new (o := some u) (g := a.at_.toNat) (x := u) (l := S.kids f)) hg'
      refine Eq.trans this ?_
      show (if (rm u ((S.kids f).take a.at_.toNat)).length < g' then g' - 1 else g') = _
      by_cases c2 : (rm u ((S.kids f).take a.at_.toNat)).length < (lastP a.path).toNat
      · have e3 : g' = (lastP a.path).toNat + 1 := by
          show (lastP a.path).toNat + _ = _
          rw [if_pos ⟨rfl, c2⟩]
        rw [e3, if_pos (by omega)]
        omega
      · have e3 : g' = (lastP a.path).toNat := by
          show (lastP a.path).toNat + _ = _
          rw [if_neg fun g => c2 g.2]
          rfl
        rw [e3, if_neg c2]
    · have hks : (Eff.on ⟨some u, some (v, a.at_.toNat, u)⟩ S).kids f = rm u (S.kids f) := if_neg hfv
      rw [hks]
      have e3 : g' = (lastP a.path).toNat := by
        show (lastP a.path).toNat + _ = _
        rw [if_neg fun g => hfv g.1]
        rfl
      have hg' : g' ≤ (rm u (S.kids f)).length := by omega
      refine ⟨?_, hg'⟩
      refine Eq.trans (len_none (fun hm => (rm_mem.1 hm).2 rfl) hg') e3
  refine ⟨g', ?_, fun z hz => ?_⟩
  · rw [e]
    refine .mov (o := { noOp 3 with path := p1, to := p2, at_ := (g' : Int) }) u f rfl (fun c => ?_) ?_ q2 q4 (Int.natCast_nonneg _) main.2
    · have c : p1 = [] := c
      subst c
      rw [res] at q2
      injection q2 with q2
      exact not_root h hn hne hu q2.symm
    · show within p1 p2 = false
      cases hc : within p1 p2 with
      | false => rfl
      | true =>
        exfalso
        obtain ⟨q, hq⟩ := within_split hc
        subst hq
        rw [res_app, q2] at q4
        have hlong : ∀ s', res S u s' ≠ some f := fun s' c => by
          have : res S r (a.path ++ s') = some f := by rw [res_app, hu]; exact c
          have := congrArg List.length (res_inj _ _ h hn this hff)
          have h0 := List.length_pos_iff.2 hne
          simp at this
          omega
        rcases below_after A hx (fun p e => hx0 (res_self h e)) _ q f rfl q4 with c | ⟨s', c⟩ | ⟨_, w', v', s1, s2, c1, c2, c3, c4⟩
        · exact hx0 (c ▸ hfm)
        · exact hlong s' c
        · rw [hu] at c1
          injection c1 with c1
          subst c1
          exact hlong s2 c4
  · have hout : rmo (some u) ((Eff.on ⟨some u, some (v, a.at_.toNat, u)⟩ S).kids z) = rmo (some u) (S.kids z) := by
      show rmo (some u) (if z = v then putL (some u) a.at_.toNat u (S.kids z) else rmo (some u) (S.kids z)) = _
      split
      · exact out_put _ _ _
      · exact rmo_twice _ _
    show (if z = f then putL (some u) g' u ((Eff.on ⟨some u, some (v, a.at_.toNat, u)⟩ S).kids z) else rmo (some u) ((Eff.on ⟨some u, some (v, a.at_.toNat, u)⟩ S).kids z)) = _
    split
    · rename_i hzf
      subst hzf
      exact put_back hkn hj hout main.1
    · rename_i hzf
      rw [hout]
      refine rm_none fun hm => hzf ?_
      obtain ⟨i, hi⟩ := List.getElem?_of_mem hm
      exact (parent_one h hn hz hfm hi hj).1
end
end Bow
/- SP57: two moves, each of which would bring the other one's node below its own: one is undone. -/
namespace Bow
open Go

section
variable {α : Type} [DecidableEq α]
theorem meet_cycle {S : Gr α} {r xa xb : α} {t : Tree} {a b : OpT} {ea : Eff α} (h : Sit S r xa xb t a b) (A : Act S r xa a ea) (ka : a.kind = 3) (la : ∀ v g x, ea.into = some (v, g, x) → (S.pay v).leaf = false) (f1 : formedB (undoO a) = true) (hl : ∀ f, res S r a.path.dropLast = some f → (S.pay f).leaf = false) :
    Meet t a b [] [undoO a, b] := by
  have Fa : Fit S r xa a (ea.on S) := .act ea A la
  have Ba := h.became Fa
  have hfa := (valid_right h.va).2.1
  cases A with
  | ins v hk => omega
  | del u hk => omega
  | mov u v hk hne hw hu hv h0 hg =>
    obtain ⟨f, hff, _, _⟩ := res_last hne hu
    obtain ⟨g', U, ag⟩ := undo_act h.unf h.nodup hfa hk hne hw hu hv h0 hg (fresh_kids h.fa) h.na hff
    have FU : Fit (Eff.on ⟨some u, some (v, a.at_.toNat, u)⟩ S) r xa (undoO a) (Eff.on ⟨some u, some (f, g', u)⟩ (Eff.on ⟨some u, some (v, a.at_.toNat, u)⟩ S)) := .act _ U fun v' g x e => by
      injection e with e
      rw [← (Prod.mk.inj e).1]
      exact hl f hff
    have hku : (undoO a).kind ≠ 1 := by
      unfold undoO
      cases decide (a.kind = 3) && movesO a
      · exact show (0 : Int) ≠ 1 by decide
      · exact show (3 : Int) ≠ 1 by decide
    have c1 := next_unf Ba.unf Ba.nodup (right_applyT h.va) f1 FU hku
    have e := same_tree h.unf c1.2.1.unf fun z hz => ⟨ag z hz, rfl⟩
    refine ⟨applyT t b, comes_nil _, 2, ?_⟩
    rw [c1.1, ← e, allR, decide_eq_true h.vb, cond_true, allR]
end
end Bow
/- SP62: two edits of one leaf; any two operations, both ways round: the same tree. -/
namespace Bow
open Go

section
variable {α : Type} [DecidableEq α]
theorem payF_edit {o : OpT} (h : o.kind = 6) (p : Pay) : payF o p = { p with text := (applyE p.text o.pieces).1 } := by
  unfold payF
  rw [if_neg (by omega), if_neg (by omega)]
/-- Both edit one leaf. -/
theorem meet_edit {S : Gr α} {r xa xb v : α} {t : Tree} {a b : OpT} (prior : Bool) (h : Sit S r xa xb t a b) (ka : a.kind = 6) (kb : b.kind = 6) (hp : a.path = b.path) (hv : res S r a.path = some v)
    (ha : (S.pay v).leaf = true ∧ (applyE (S.pay v).text a.pieces).2 = 0) (hb : (S.pay v).leaf = true ∧ (applyE (S.pay v).text b.pieces).2 = 0) (e1 : (transP a.pieces b.pieces prior).2.2 = 0) (e2 : (transP b.pieces a.pieces (!prior)).2.2 = 0)
    (f1 : formedB (editO a b prior) = true) (f2 : formedB (editO b a (!prior)) = true) : Meet t a b [editO a b prior] [editO b a (!prior)] := by
  have Fa : Fit S r xa a (payS S v (payF a)) := .pay v (by omega) hv fun _ => ha
  have Fb : Fit S r xb b (payS S v (payF b)) := .pay v (by omega) (hp ▸ hv) fun _ => hb
  have tm := trans_meet ha.2 hb.2 e1 e2
  have tm2 := trans_meet hb.2 ha.2 e2 (by rw [Bool.not_not]; exact e1)
  have pa : (payS S v (payF a)).pay v = payF a (S.pay v) := if_pos rfl
  have pb : (payS S v (payF b)).pay v = payF b (S.pay v) := if_pos rfl
  have Fab : Fit (payS S v (payF a)) r xb (editO b a (!prior)) (payS (payS S v (payF a)) v (payF (editO b a (!prior)))) := by
    refine .pay v (show 4 ≤ b.kind ∧ b.kind ≤ 6 by omega) (by rw [res_pay]; exact hp ▸ hv) fun _ => ?_
    rw [pa, payF_leaf, payF_edit ka]
    exact ⟨ha.1, tm2.2⟩
  have Fba : Fit (payS S v (payF b)) r xa (editO a b prior) (payS (payS S v (payF b)) v (payF (editO a b prior))) := by
    refine .pay v (show 4 ≤ a.kind ∧ a.kind ≤ 6 by omega) (by rw [res_pay]; exact hv) fun _ => ?_
    rw [pb, payF_leaf, payF_edit kb]
    exact ⟨ha.1, tm.2⟩
  have c1 := h.after Fa Fab f2 rfl
  have c2 := h.swap.after Fb Fba f1 rfl
  have e := same_tree c1.2.1.unf c2.2.1.unf fun z _ => by
    refine ⟨rfl, ?_⟩
    show (if z = v then payF (editO a b prior) (if z = v then payF b (S.pay z) else S.pay z) else if z = v then payF b (S.pay z) else S.pay z) = (if z = v then payF (editO b a (!prior)) (if z = v then payF a (S.pay z) else S.pay z) else if z = v then payF a (S.pay z) else S.pay z)
    by_cases zv : z = v
    · subst zv
      simp only [if_pos]
      rw [payF_edit ka, payF_edit kb, payF_edit (o := editO a b prior) ka, payF_edit (o := editO b a (!prior)) kb]
      show ({ S.pay z with text := (applyE (applyE (S.pay z).text b.pieces).1 (transP a.pieces b.pieces prior).1).1 } : Pay) = { S.pay z with text := (applyE (applyE (S.pay z).text a.pieces).1 (transP b.pieces a.pieces (!prior)).1).1 }
      rw [tm.1]
    · simp only [if_neg zv]
  exact ⟨_, c2.1, e ▸ c1.1⟩

/-! ### Any two -/
def rowM (b a : OpT) (f : Bool) : List OpT := bif bothEdit b a then [editO b a f] else rowO b a f
structure OkX (b a : OpT) (f : Bool) : Prop where
  all : ∀ o ∈ rowM b a f, formedB o = true
  edt : bothEdit b a = true → (transP b.pieces a.pieces f).2.2 = 0
theorem OkX.one {b a o : OpT} {f : Bool} (h : OkX b a f) (e : rowM b a f = [o]) : formedB o = true := h.all o (by rw [e]; simp)
theorem OkX.two {b a o o' : OpT} {f : Bool} (h : OkX b a f) (e : rowM b a f = [o, o']) : formedB o = true ∧ formedB o' = true := ⟨h.all o (by rw [e]; simp), h.all o' (by rw [e]; simp)⟩
omit [DecidableEq α] in
theorem act_kind {S : Gr α} {r x : α} {o : OpT} {e : Eff α} (A : Act S r x o e) : o.kind = 1 ∨ o.kind = 2 ∨ o.kind = 3 := by
  cases A with
  | ins v hk => exact .inl hk
  | del u hk => exact .inr (.inl hk)
  | mov u v hk => exact .inr (.inr hk)
omit [DecidableEq α] in
/-- What one puts in, the other one does not take out. -/
theorem act_apart {S : Gr α} {r xa xb : α} {t : Tree} {a b : OpT} {ea eb : Eff α} (h : Sit S r xa xb t a b) (A : Act S r xa a ea) (B : Act S r xb b eb) (d1 : ¬ (a.kind = 2 ∧ within a.path b.path = true)) (hp : ¬ (a.kind = 3 ∧ b.kind = 3 ∧ a.path = b.path)) :
    ∀ v g x, eb.into = some (v, g, x) → ea.out ≠ some x := by
  intro v g x e c
  have hout : (a.kind = 2 ∨ a.kind = 3) ∧ res S r a.path = some x := by
    cases A with
    | ins v hk => cases c
    | del u hk hne hu =>
      injection c with c
      exact ⟨.inl hk, c ▸ hu⟩
    | mov u v hk hne hw hu =>
      injection c with c
      exact ⟨.inr hk, c ▸ hu⟩
  cases B with
  | del u hk => cases e
  | ins v' hk hv =>
    injection e with e
    have e2 := (Prod.mk.inj (Prod.mk.inj e).2).2
    exact h.nb (e2 ▸ res_self h.unf hout.2)
  | mov u v' hk hne hw hu =>
    injection e with e
    have e2 := (Prod.mk.inj (Prod.mk.inj e).2).2
    subst e2
    have ep := res_inj _ _ h.unf h.nodup hout.2 hu
    rcases hout.1 with k | k
    · refine d1 ⟨k, ?_⟩
      rw [ep]
      unfold within
      simp
    · exact hp ⟨k, hk, ep⟩
theorem meet_acts {S : Gr α} {r xa xb : α} {t : Tree} {a b : OpT} {ea eb : Eff α} (prior : Bool) (h : Sit S r xa xb t a b) (A : Act S r xa a ea) (B : Act S r xb b eb)
    (la : ∀ v g x, ea.into = some (v, g, x) → (S.pay v).leaf = false) (lb : ∀ v g x, eb.into = some (v, g, x) → (S.pay v).leaf = false)
    (d1 : ¬ (a.kind = 2 ∧ within a.path b.path = true)) (d2 : ¬ (a.kind = 2 ∧ b.kind = 3 ∧ within a.path b.to = true))
    (d3 : ¬ (b.kind = 2 ∧ within b.path a.path = true)) (d4 : ¬ (b.kind = 2 ∧ a.kind = 3 ∧ within b.path a.to = true))
    (hc : ¬ (a.kind = 3 ∧ b.kind = 3 ∧ within b.path a.to = true ∧ within a.path b.to = true)) (hp : ¬ (a.kind = 3 ∧ b.kind = 3 ∧ a.path = b.path))
    (f1 : formedB (shiftedO a b prior) = true) (f2 : formedB (shiftedO b a (!prior)) = true) : Meet t a b [shiftedO a b prior] [shiftedO b a (!prior)] := by
  have := meet_act (!prior) h A B la lb (act_apart h A B d1 hp) (act_apart h.swap B A d3 fun c => hp ⟨c.2.1, c.1, c.2.2.symm⟩) d1 d2 d3 d4 hc f2 (by rw [Bool.not_not]; exact f1)
  rw [Bool.not_not] at this
  exact this
theorem meet_mixs {S : Gr α} {r xa xb v : α} {t : Tree} {a b : OpT} {ea : Eff α} (prior : Bool) (h : Sit S r xa xb t a b) (A : Act S r xa a ea) (la : ∀ v g x, ea.into = some (v, g, x) → (S.pay v).leaf = false)
    (hk : 4 ≤ b.kind ∧ b.kind ≤ 6) (hv : res S r b.path = some v) (he : b.kind = 6 → (S.pay v).leaf = true ∧ (applyE (S.pay v).text b.pieces).2 = 0) (d1 : ¬ (a.kind = 2 ∧ within a.path b.path = true)) (f1 : formedB (shiftedO b a (!prior)) = true) :
    Meet t a b [shiftedO a b prior] [shiftedO b a (!prior)] := by
  have := meet_mix (!prior) h A la hk hv he d1 f1
  rw [Bool.not_not] at this
  exact this
omit [DecidableEq α] in
/-- The parent of a node is no leaf. -/
theorem parent_open {S : Gr α} {r u : α} {t : Tree} {p : List Int} (h : Unf S r t) (hr : rightT t = true) (hne : p ≠ []) (hu : res S r p = some u) : ∀ f, res S r p.dropLast = some f → (S.pay f).leaf = false := by
  intro f hf
  obtain ⟨f', hf', _, hk⟩ := res_last hne hu
  rw [hf] at hf'
  injection hf' with hf'
  subst hf'
  obtain ⟨y, hy, hfy⟩ := at_res h hf
  have hlen := unf_len hfy
  have hy2 := right_at (rightT_parts hr).2 hy
  have hlt := (List.getElem?_eq_some_iff.1 hk).1
  rw [unf_pay hfy, pay_leaf]
  cases hl : y.leaf with
  | false => rfl
  | true =>
    have := rightN_leaf (rightA_N hy2) hl
    rw [this] at hlen
    simp at hlen
    rw [hlen] at hlt
    simp at hlt
/-- One is a deletion. -/
theorem meet_del {S Sb : Gr α} {r xa xb u : α} {t : Tree} {a b : OpT} (h : Sit S r xa xb t a b) (ka : a.kind = 2) (hne : a.path ≠ []) (hu : res S r a.path = some u) (Fb : Fit S r xb b Sb) (prior : Bool) (k1 : OkX a b prior) (k2 : OkX b a (!prior)) :
    Meet t a b (rowM a b prior) (rowM b a (!prior)) := by
  have A : Act S r xa a ⟨some u, none⟩ := .del u ka hne hu
  have la : ∀ v g x, (⟨some u, none⟩ : Eff α).into = some (v, g, x) → (S.pay v).leaf = false := fun v g x e => by cases e
  obtain ⟨s, hs, _⟩ := at_res h.unf hu
  have be : bothEdit a b = false := by unfold bothEdit; simp [ka]
  have be2 : bothEdit b a = false := by unfold bothEdit; simp [ka]
  have row0 : within a.path b.path = true → rowM b a (!prior) = [] := fun hw => by unfold rowM rowO; simp [be2, ka, hw]
  have rowS : b.kind ≠ 2 → b.kind ≠ 3 → rowM a b prior = [shiftedO a b prior] := fun h2 h3 => by unfold rowM rowO wonO; simp [be, ka, h2, h3]
  cases Fb with
  | pay v kb hv he =>
    have e1 := rowS (by omega) (by omega)
    by_cases hw : within a.path b.path = true
    · rw [row0 hw, e1]
      exact meet_del_pay prior h ka hne hu hs kb hv he hw
    · have e2 : rowM b a (!prior) = [shiftedO b a (!prior)] := by
        unfold rowM rowO
        simp [be2, ka, hw, show ¬ b.kind = 3 by omega]
      have f2 := k2.one e2
      rw [e1, e2]
      exact meet_mixs prior h A la kb hv he (fun c => hw c.2) f2
  | act e B lb =>
    by_cases hw : within a.path b.path = true
    · rw [row0 hw]
      rcases act_kind B with kb | kb | kb
      · have e1 := rowS (by omega) (by omega)
        have f1 := k1.one e1
        rw [e1]
        exact meet_del_ins prior h ka hne hu hs B kb lb f1 hw
      · by_cases hw2 : within b.path a.path = true
        · have hp : a.path = b.path := by
            obtain ⟨q, hq⟩ := within_split hw
            have h1 := within_len hw2
            have : q = [] := List.length_eq_zero_iff.1 (by have := congrArg List.length hq; simp at this; omega)
            rw [this, List.append_nil] at hq
            exact hq.symm
          have e1 : rowM a b prior = [] := by unfold rowM rowO; simp [be, kb, hw2]
          rw [e1]
          exact meet_del_same h ka hne hu kb hp
        · have e1 : rowM a b prior = [shiftedO a b prior] := by unfold rowM rowO; simp [be, kb, hw2, ka]
          have f1 := k1.one e1
          rw [e1]
          refine meet_del_del prior h ka hne hu hs B kb lb f1 hw fun c => hw2 ?_
          rw [c]
          unfold within
          simp
      · by_cases hp : a.path = b.path ∨ within a.path b.to = true
        · have e1 : rowM a b prior = [shiftedO a b prior] := by
            unfold rowM rowO wonO
            rcases hp with hp | hp <;> simp [be, kb, ka, hp]
          have f1 := k1.one e1
          rw [e1]
          exact meet_del_mov prior h ka hne hu hs B kb lb f1 hw hp
        · have n1 : a.path ≠ b.path := fun c => hp (.inl c)
          have n2 : within a.path b.to = false := by
            cases hh : within a.path b.to with
            | false => rfl
            | true => exact absurd (.inr hh) hp
          have e1 : rowM a b prior = [dropO ((nodeP b b.path).getD []), dropO ((nodeP (dropO ((nodeP b b.path).getD [])) ((nodeP b a.path).getD [])).getD [])] := by
            unfold rowM rowO wonO
            simp [be, kb, ka, n1, n2, hw]
          have f1 := k1.two e1
          rw [e1]
          exact meet_del_out h ka hne hu hs B kb lb hw n1 f1.1 f1.2
    · have hwf : within a.path b.path = false := by simpa using hw
      by_cases hi : b.kind = 3 ∧ within a.path b.to = true
      · have e2 : rowM b a (!prior) = [dropO ((nodeP a b.path).getD [])] := by
          unfold rowM rowO
          simp [be2, ka, hwf, hi.1, hi.2]
        have e1 : rowM a b prior = [shiftedO a b prior] := by
          unfold rowM rowO wonO
          simp [be, ka, hi.1, hwf]
        have f1 := k1.one e1
        have f2 := k2.one e2
        rw [e1, e2]
        exact meet_del_into prior h ka hne hu hs B hi.1 lb hwf hi.2 f2 f1
      · have e2 : rowM b a (!prior) = [shiftedO b a (!prior)] := by
          unfold rowM rowO
          have : (decide (b.kind = 3) && within a.path b.to) = false := by
            rw [Bool.and_eq_false_iff]
            by_cases k : b.kind = 3
            · right
              cases hh : within a.path b.to with
              | false => rfl
              | true => exact absurd ⟨k, hh⟩ hi
            · left
              simp [k]
          simp [be2, ka, hwf, this]
        have f2 := k2.one e2
        by_cases hb : b.kind = 2 ∧ within b.path a.path = true
        · have e1 : rowM a b prior = [] := by unfold rowM rowO; simp [be, hb.1, hb.2]
          rw [e1, e2]
          cases B with
          | ins v hk => omega
          | mov u v hk => omega
          | del u' hk hne' hu' =>
            obtain ⟨s', hs', _⟩ := at_res h.unf hu'
            refine (meet_del_del (!prior) h.swap hb.1 hne' hu' hs' A ka la f2 hb.2 fun c => ?_).swap
            rw [c] at hwf
            unfold within at hwf
            simp at hwf
        · have e1 : rowM a b prior = [shiftedO a b prior] := by
            unfold rowM rowO wonO
            rcases act_kind B with kb | kb | kb
            · simp [be, ka, kb]
            · have : within b.path a.path = false := by
                cases hh : within b.path a.path with
                | false => rfl
                | true => exact absurd ⟨kb, hh⟩ hb
              simp [be, ka, kb, this]
            · simp [be, ka, kb, hwf]
          have f1 := k1.one e1
          rw [e1, e2]
          exact meet_acts prior h A B la lb (fun c => hw c.2) (fun c => hi c.2) hb (fun c => by omega) (fun c => by omega) (fun c => by omega) f1 f2
/-- Both take out or put in; no deletion. -/
theorem meet_moves {S : Gr α} {r xa xb : α} {t : Tree} {a b : OpT} {ea eb : Eff α} (h : Sit S r xa xb t a b) (A : Act S r xa a ea) (B : Act S r xb b eb)
    (la : ∀ v g x, ea.into = some (v, g, x) → (S.pay v).leaf = false) (lb : ∀ v g x, eb.into = some (v, g, x) → (S.pay v).leaf = false) (na : a.kind ≠ 2) (nb : b.kind ≠ 2) (prior : Bool) (k1 : OkX a b prior) (k2 : OkX b a (!prior)) :
    Meet t a b (rowM a b prior) (rowM b a (!prior)) := by
  have ka := act_kind A
  have kb := act_kind B
  have be : bothEdit a b = false := by unfold bothEdit; simp [show ¬ a.kind = 6 by omega]
  have be2 : bothEdit b a = false := by unfold bothEdit; simp [show ¬ a.kind = 6 by omega]
  by_cases hp : a.kind = 3 ∧ b.kind = 3 ∧ a.path = b.path
  · obtain ⟨h1, h2, h3⟩ := hp
    have w1 : wonO a b = true := by unfold wonO; simp [h1, h2, h3]
    have w2 : wonO b a = true := by unfold wonO; simp [h1, h2, h3]
    cases prior with
    | true =>
      have e1 : rowM a b true = [shiftedO a b true] := by unfold rowM rowO; simp [be, h2, w1]
      have e2 : rowM b a (!true) = [] := by unfold rowM rowO; simp [be2, h1, w2]
      have f1 := k1.one e1
      rw [e1, e2]
      exact (meet_again true h.swap B A h2 h1 h3.symm lb la f1).swap
    | false =>
      have e1 : rowM a b false = [] := by unfold rowM rowO; simp [be, h2, w1]
      have e2 : rowM b a (!false) = [shiftedO b a (!false)] := by unfold rowM rowO; simp [be2, h1, w2]
      have f1 := k2.one e2
      rw [e1, e2]
      exact meet_again (!false) h A B h1 h2 h3 la lb f1
  · have w1 : wonO a b = false := by
      unfold wonO
      rcases ka with k | k | k
      · simp [k]
      · omega
      · rcases kb with g | g | g
        · simp [k, g]
        · omega
        · have : ¬ b.path = a.path := fun c => hp ⟨k, g, c.symm⟩
          simp [this]
    have w2 : wonO b a = false := by
      unfold wonO
      rcases ka with k | k | k
      · rcases kb with g | g | g
        · simp [g]
        · omega
        · simp [k, g]
      · omega
      · rcases kb with g | g | g
        · simp [k, g]
        · omega
        · have : ¬ a.path = b.path := fun c => hp ⟨k, g, c⟩
          simp [this]
    by_cases hc : a.kind = 3 ∧ b.kind = 3 ∧ within b.path a.to = true ∧ within a.path b.to = true
    · obtain ⟨h1, h2, h3, h4⟩ := hc
      cases prior with
      | true =>
        have e1 : rowM a b true = [undoO b, a] := by unfold rowM rowO; simp [be, h1, h2, h3, h4, w1]
        have e2 : rowM b a (!true) = [] := by unfold rowM rowO; simp [be2, h1, h2, h3, h4, w2]
        have f1 := k1.two e1
        rw [e1, e2]
        have hl : ∀ f, res S r b.path.dropLast = some f → (S.pay f).leaf = false := by
          cases B with
          | ins v hk => omega
          | del u hk => omega
          | mov u v hk hne hw hu => exact parent_open h.unf (valid_right h.va).1 hne hu
        exact (meet_cycle h.swap B h2 lb f1.1 hl).swap
      | false =>
        have e1 : rowM a b false = [] := by unfold rowM rowO; simp [be, h1, h2, h3, h4, w1]
        have e2 : rowM b a (!false) = [undoO a, b] := by unfold rowM rowO; simp [be2, h1, h2, h3, h4, w2]
        have f1 := k2.two e2
        rw [e1, e2]
        have hl : ∀ f, res S r a.path.dropLast = some f → (S.pay f).leaf = false := by
          cases A with
          | ins v hk => omega
          | del u hk => omega
          | mov u v hk hne hw hu => exact parent_open h.unf (valid_right h.va).1 hne hu
        exact meet_cycle h A h1 la f1.1 hl
    · have sh : ∀ (x y : OpT) (f : Bool), (x.kind = 1 ∨ x.kind = 3) → (y.kind = 1 ∨ y.kind = 3) → bothEdit x y = false → wonO x y = false → ¬ (x.kind = 3 ∧ y.kind = 3 ∧ within x.path y.to = true ∧ within y.path x.to = true) → rowM x y f = [shiftedO x y f] := by
        intro x y f kx ky hb hw hcc
        unfold rowM rowO
        rcases ky with k | k
        · simp [hb, k, hw]
        · rcases kx with g | g
          · simp [hb, k, g, hw]
          · have : (within x.path y.to && within y.path x.to) = false := by
              cases hh : within x.path y.to && within y.path x.to with
              | false => rfl
              | true =>
                rw [Bool.and_eq_true] at hh
                exact absurd ⟨g, k, hh.1, hh.2⟩ hcc
            simp [hb, k, g, hw, this]
      have e1 := sh a b prior (by omega) (by omega) be w1 fun c => hc ⟨c.1, c.2.1, c.2.2.2, c.2.2.1⟩
      have e2 := sh b a (!prior) (by omega) (by omega) be2 w2 fun c => hc ⟨c.2.1, c.1, c.2.2.1, c.2.2.2⟩
      have f1 := k1.one e1
      have f2 := k2.one e2
      rw [e1, e2]
      exact meet_acts prior h A B la lb (fun c => na c.1) (fun c => na c.1) (fun c => nb c.1) (fun c => nb c.1) hc hp f1 f2
end
end Bow
/- SP63: any two operations that are valid on a tree, both ways round, by names: the same tree. -/
namespace Bow
open Go

theorem formed_att {o : OpT} (h : formedB o = true) (hk : o.kind = 4) : keyOk o.key = true ∧ (o.gone = true ∨ o.value.length ≤ 256) := by
  unfold formedB at h
  simp [hk] at h
  refine ⟨h.2.1, ?_⟩
  rcases h.2.2 with h | h
  · exact .inl h
  · exact .inr (by omega)
theorem payF_comm {a b : OpT} {p : Pay} (hp : attrsOk none p.attrs = true) (fa : formedB a = true) (fb : formedB b = true) (ka : 4 ≤ a.kind ∧ a.kind ≤ 6) (kb : 4 ≤ b.kind ∧ b.kind ≤ 6) (hw : ¬ (a.kind = b.kind ∧ (b.kind = 5 ∨ b.kind = 6 ∨ a.key = b.key))) :
    payF b (payF a p) = payF a (payF b p) := by
  have k1 : a.kind = 4 ∨ a.kind = 5 ∨ a.kind = 6 := by omega
  have k2 : b.kind = 4 ∨ b.kind = 5 ∨ b.kind = 6 := by omega
  rcases k1 with k1 | k1 | k1 <;> rcases k2 with k2 | k2 | k2
  · have hne : a.key ≠ b.key := fun c => hw ⟨by omega, .inr (.inr c)⟩
    have f1 := formed_att fa k1
    have f2 := formed_att fb k2
    unfold payF
    simp only [k1, k2, if_pos]
    rw [setA_comm hp f1.1 f1.2 f2.1 f2.2 hne]
  · unfold payF; simp [k1, k2]
  · unfold payF; simp [k1, k2]
  · unfold payF; simp [k1, k2]
  · exact absurd ⟨by omega, .inl k2⟩ hw
  · unfold payF; simp [k1, k2]
  · unfold payF; simp [k1, k2]
  · unfold payF; simp [k1, k2]
  · exact absurd ⟨by omega, .inr (.inl k2)⟩ hw
theorem payF_again {a b : OpT} {p : Pay} (hp : attrsOk none p.attrs = true) (fa : formedB a = true) (fb : formedB b = true) (hk : a.kind = b.kind) (hw : b.kind = 5 ∨ (b.kind = 4 ∧ a.key = b.key)) : payF b (payF a p) = payF b p := by
  rcases hw with k | ⟨k, e⟩
  · unfold payF
    simp [hk, k]
  · have f1 := formed_att fa (by omega)
    have f2 := formed_att fb k
    unfold payF
    simp only [hk, k, if_pos]
    rw [setA_again hp f1.1 f1.2 f2.2 e]

section
variable {α : Type} [DecidableEq α]
omit [DecidableEq α] in
theorem attrs_pay {S : Gr α} {r v : α} {t : Tree} {p : List Int} (h : Unf S r t) (hr : rightT t = true) (hv : res S r p = some v) : attrsOk none (S.pay v).attrs = true := by
  obtain ⟨y, hy, hvy⟩ := at_res h hv
  have := right_attrs (right_at (rightT_parts hr).2 hy)
  rw [unf_pay hvy]
  cases y
  exact this
/-- Both turn what stands at nodes. -/
theorem meet_pays {S : Gr α} {r xa xb v w : α} {t : Tree} {a b : OpT} (h : Sit S r xa xb t a b) (ka : 4 ≤ a.kind ∧ a.kind ≤ 6) (kb : 4 ≤ b.kind ∧ b.kind ≤ 6) (hv : res S r a.path = some v) (hw : res S r b.path = some w)
    (ha : a.kind = 6 → (S.pay v).leaf = true ∧ (applyE (S.pay v).text a.pieces).2 = 0) (hb : b.kind = 6 → (S.pay w).leaf = true ∧ (applyE (S.pay w).text b.pieces).2 = 0) (prior : Bool) (k1 : OkX a b prior) (k2 : OkX b a (!prior)) :
    Meet t a b (rowM a b prior) (rowM b a (!prior)) := by
  have hat := attrs_pay h.unf (valid_right h.va).1 hv
  have fa := (valid_right h.va).2.1
  have fb := (valid_right h.vb).2.1
  have hsame : a.path = b.path → v = w := fun e => by
    rw [e, hw] at hv
    injection hv with hv
    exact hv.symm
  by_cases hbe : bothEdit a b = true
  · have hbe2 : bothEdit b a = true := by rw [bothEdit_comm]; exact hbe
    have e1 := k1.edt hbe
    have e2 := k2.edt hbe2
    have r1 : rowM a b prior = [editO a b prior] := by unfold rowM; rw [hbe]; rfl
    have r2 : rowM b a (!prior) = [editO b a (!prior)] := by unfold rowM; rw [hbe2]; rfl
    have f1 := k1.one r1
    have f2 := k2.one r2
    rw [r1, r2]
    unfold bothEdit at hbe
    simp only [Bool.and_eq_true, decide_eq_true_eq] at hbe
    obtain ⟨k6, k6', hp⟩ := hbe
    have := hsame hp.symm
    subst this
    exact meet_edit prior h k6' k6 hp.symm hv (ha k6') (hb k6) e1 e2 f1 f2
  · have hbf : bothEdit a b = false := by simpa using hbe
    have hbf2 : bothEdit b a = false := by rw [bothEdit_comm]; exact hbf
    have ka2 : ¬ a.kind = 2 := by omega
    have ka3 : ¬ a.kind = 3 := by omega
    have kb2 : ¬ b.kind = 2 := by omega
    have kb3 : ¬ b.kind = 3 := by omega
    by_cases hwon : a.kind = b.kind ∧ a.path = b.path ∧ (b.kind = 5 ∨ (b.kind = 4 ∧ a.key = b.key))
    · obtain ⟨w0, w1, w2⟩ := hwon
      have won1 : wonO a b = true := by
        unfold wonO
        rcases w2 with c | ⟨c, d⟩
        · simp [w0, w1, c]
        · simp [w0, w1, c, d]
      have won2 : wonO b a = true := by
        unfold wonO
        rcases w2 with c | ⟨c, d⟩
        · simp [w0, w1, c]
        · simp [w0, w1, c, d]
      have := hsame w1
      subst this
      cases prior with
      | true =>
        have r1 : rowM a b true = [shiftedO a b true] := by unfold rowM rowO; simp [hbf, kb2, won1]
        have r2 : rowM b a (!true) = [] := by unfold rowM rowO; simp [hbf2, ka2, won2]
        rw [r1, r2]
        refine (meet_won h.swap kb (by omega) hw hv hb (payF_again hat fb fa w0.symm ?_) true).swap
        rcases w2 with c | ⟨c, d⟩
        · exact .inl (by omega)
        · exact .inr ⟨by omega, d.symm⟩
      | false =>
        have r1 : rowM a b false = [] := by unfold rowM rowO; simp [hbf, kb2, won1]
        have r2 : rowM b a (!false) = [shiftedO b a (!false)] := by unfold rowM rowO; simp [hbf2, ka2, won2]
        rw [r1, r2]
        exact meet_won h ka (by omega) hv hw ha (payF_again hat fa fb w0 w2) (!false)
    · have won1 : wonO a b = false := by
        cases hh : wonO a b with
        | false => rfl
        | true =>
          unfold wonO at hh
          simp only [Bool.and_eq_true, Bool.or_eq_true, decide_eq_true_eq] at hh
          obtain ⟨⟨c1, c2⟩, c3⟩ := hh
          refine absurd ⟨c1.symm, c2.symm, ?_⟩ hwon
          rcases c3 with c | c | ⟨c, d⟩
          · omega
          · exact .inl (by omega)
          · exact .inr ⟨by omega, d.symm⟩
      have won2 : wonO b a = false := by
        cases hh : wonO b a with
        | false => rfl
        | true =>
          unfold wonO at hh
          simp only [Bool.and_eq_true, Bool.or_eq_true, decide_eq_true_eq] at hh
          obtain ⟨⟨c1, c2⟩, c3⟩ := hh
          refine absurd ⟨c1, c2, ?_⟩ hwon
          rcases c3 with c | c | ⟨c, d⟩
          · omega
          · exact .inl c
          · exact .inr ⟨c, d⟩
      have r1 : rowM a b prior = [shiftedO a b prior] := by unfold rowM rowO; simp [hbf, kb2, kb3, won1]
      have r2 : rowM b a (!prior) = [shiftedO b a (!prior)] := by unfold rowM rowO; simp [hbf2, ka2, ka3, won2]
      rw [r1, r2]
      have hpath : w = v → a.path = b.path := fun e => res_inj _ _ h.unf h.nodup hv (e ▸ hw)
      have m := meet_pay (!prior) h ka kb hv hw ha hb (fun c1 c2 c3 => hbe (by unfold bothEdit; simp [c1, c2, hpath c3])) fun e => by
        refine payF_comm hat fa fb ka kb fun c => ?_
        have hp := hpath e
        rcases c with ⟨c1, c2 | c2 | c2⟩
        · exact hwon ⟨c1, hp, .inl c2⟩
        · exact hbe (by unfold bothEdit; simp [c1, c2, hp])
        · by_cases k4 : b.kind = 4
          · exact hwon ⟨c1, hp, .inr ⟨k4, c2⟩⟩
          · by_cases k5 : b.kind = 5
            · exact hwon ⟨c1, hp, .inl k5⟩
            · have k6 : b.kind = 6 := by omega
              exact hbe (by unfold bothEdit; simp [c1, k6, hp])
      rw [Bool.not_not] at m
      exact m
theorem meet_row {S : Gr α} {r xa xb : α} {t : Tree} {a b : OpT} (h : Sit S r xa xb t a b) (prior : Bool) (k1 : OkX a b prior) (k2 : OkX b a (!prior)) : Meet t a b (rowM a b prior) (rowM b a (!prior)) := by
  obtain ⟨Sa, Fa⟩ := fit_of xa h.unf (good_of h.va)
  obtain ⟨Sb, Fb⟩ := fit_of xb h.unf (good_of h.vb)
  have k1' : OkX a b (!(!prior)) := by rw [Bool.not_not]; exact k1
  have still : ∀ (x y : OpT) (f : Bool), (4 ≤ y.kind ∧ y.kind ≤ 6) → x.kind = 1 ∨ x.kind = 3 → rowM x y f = [shiftedO x y f] ∧ rowM y x f = [shiftedO y x f] := by
    intro x y f ky kx
    have n1 : bothEdit x y = false := by unfold bothEdit; simp [show ¬ x.kind = 6 by omega]
    have n2 : bothEdit y x = false := by unfold bothEdit; simp [show ¬ x.kind = 6 by omega]
    have n3 : wonO x y = false := by unfold wonO; simp [show ¬ y.kind = x.kind by omega]
    have n4 : wonO y x = false := by unfold wonO; simp [show ¬ x.kind = y.kind by omega]
    have y2 : ¬ y.kind = 2 := by omega
    have y3 : ¬ y.kind = 3 := by omega
    have x2 : ¬ x.kind = 2 := by omega
    constructor
    · unfold rowM rowO
      simp [n1, n3, y2, y3]
    · unfold rowM rowO
      rcases kx with k | k <;> simp [n2, n4, k, y2, y3]
  have delA : ∀ (Sb : Gr α), Fit S r xb b Sb → ∀ ea, Act S r xa a ea → a.kind = 2 → Meet t a b (rowM a b prior) (rowM b a (!prior)) := by
    intro Sb Fb ea A da
    cases A with
    | ins v hk => omega
    | mov u v hk => omega
    | del u hk hne hu => exact meet_del h da hne hu Fb prior k1 k2
  have delB : ∀ (Sa : Gr α), Fit S r xa a Sa → ∀ eb, Act S r xb b eb → b.kind = 2 → Meet t a b (rowM a b prior) (rowM b a (!prior)) := by
    intro Sa Fa eb B db
    cases B with
    | ins v hk => omega
    | mov u v hk => omega
    | del u hk hne hu =>
      have := meet_del h.swap db hne hu Fa (!prior) k2 k1'
      rw [Bool.not_not] at this
      exact this.swap
  have Fa0 := Fa
  have Fb0 := Fb
  cases Fa with
  | act ea A la =>
    by_cases da : a.kind = 2
    · exact delA _ Fb0 _ A da
    · cases Fb with
      | act eb B lb =>
        by_cases db : b.kind = 2
        · exact delB _ Fa0 _ B db
        · exact meet_moves h A B la lb da db prior k1 k2
      | pay v kb hv he =>
        have ka := act_kind A
        have e1 := (still a b prior kb (by omega)).1
        have e2 := (still a b (!prior) kb (by omega)).2
        have f2 := k2.one e2
        rw [e1, e2]
        exact meet_mixs prior h A la kb hv he (fun c => da c.1) f2
  | pay v ka hv ha =>
    cases Fb with
    | act eb B lb =>
      by_cases db : b.kind = 2
      · exact delB _ Fa0 _ B db
      · have kb := act_kind B
        have e1 := (still b a prior ka (by omega)).2
        have e2 := (still b a (!prior) ka (by omega)).1
        have f1 := k1.one e1
        rw [e1, e2]
        have m := meet_mixs (!prior) h.swap B lb ka hv ha (fun c => db c.1) (by rw [Bool.not_not]; exact f1)
        rw [Bool.not_not] at m
        exact m.swap
    | pay w kb hw hb => exact meet_pays h ka kb hv hw ha hb prior k1 k2
end
end Bow
/- SP64: names for any tree; two operations and two lists, both ways round: the same tree. -/
namespace Bow
open Go

/-! ### Names: paths, and two new ones -/
def subN : Tree → List Nat → Option Tree
  | t, [] => some t
  | t, i :: p => match t.subs[i]? with
    | none => none
    | some s => subN s p
theorem subN_snoc (i : Nat) : ∀ (p : List Nat) (t : Tree), subN t (p ++ [i]) = (subN t p).bind fun s => s.subs[i]?
  | [], t => by
    rw [List.nil_append, subN, subN]
    show _ = t.subs[i]?
    cases t.subs[i]? with
    | none => rfl
    | some s => rfl
  | j :: p, t => by
    rw [List.cons_append, subN, subN]
    cases t.subs[j]? with
    | none => rfl
    | some s => exact subN_snoc i p s
abbrev Nm := List Nat ⊕ Bool
def nmKids (t : Tree) : Nm → List Nm
  | .inl p => match subN t p with
    | none => []
    | some s => (List.range' 0 s.subs.length).map fun i => .inl (p ++ [i])
  | .inr _ => []
def nmPay (t : Tree) (x y : Pay) : Nm → Pay
  | .inl p => match subN t p with
    | none => x
    | some s => s.pay
  | .inr b => bif b then x else y
def nmS (t : Tree) (x y : Pay) : Gr Nm := ⟨nmKids t, nmPay t x y⟩
theorem nm_kids (t : Tree) (x y : Pay) (u : Nm) : (nmS t x y).kids u = nmKids t u := rfl
theorem nm_pay (t : Tree) (x y : Pay) (u : Nm) : (nmS t x y).pay u = nmPay t x y u := rfl
theorem nm_unf (t : Tree) (x y : Pay) (s : Tree) : ∀ p : List Nat, subN t p = some s → Unf (nmS t x y) (.inl p) s ∧ (∀ z ∈ labs (nmS t x y) (.inl p) s, ∃ q, z = .inl (p ++ q)) ∧ (labs (nmS t x y) (.inl p) s).Nodup := by
  induction s using Tree.ind with
  | _ s ih =>
  intro p hp
  have key : ∀ (ss : List Tree) (k : Nat), (∀ i s', ss[i]? = some s' → s.subs[k + i]? = some s') →
      Unfs (nmS t x y) ((List.range' k ss.length).map fun i => (.inl (p ++ [i]) : Nm)) ss ∧ (∀ z ∈ labss (nmS t x y) ((List.range' k ss.length).map fun i => (.inl (p ++ [i]) : Nm)) ss, ∃ j q, k ≤ j ∧ z = .inl (p ++ j :: q)) ∧ (labss (nmS t x y) ((List.range' k ss.length).map fun i => (.inl (p ++ [i]) : Nm)) ss).Nodup := by
    intro ss
    induction ss with
    | nil =>
      intro k _
      refine ⟨by simp [Unfs], ?_, by simp [labss]⟩
      intro z hz
      simp [labss] at hz
    | cons s' ss ihs =>
      intro k hk
      have h0 : s.subs[k]? = some s' := by simpa using hk 0 s' rfl
      have hm : s' ∈ s.subs := List.mem_of_getElem? h0
      obtain ⟨a1, a2, a3⟩ := ih s' hm (p ++ [k]) (by rw [subN_snoc, hp]; exact h0)
      obtain ⟨b1, b2, b3⟩ := ihs (k + 1) fun i s'' hi => by
        have := hk (i + 1) s'' (by simpa using hi)
        rwa [show k + (i + 1) = k + 1 + i by omega] at this
      rw [List.length_cons, List.range'_succ, List.map_cons, Unfs, labss]
      refine ⟨⟨a1, b1⟩, fun z hz => ?_, ?_⟩
      · rcases List.mem_append.1 hz with hz | hz
        · obtain ⟨q, hq⟩ := a2 z hz
          exact ⟨k, q, Nat.le_refl _, by rw [hq, List.append_assoc]; rfl⟩
        · obtain ⟨j, q, hj, hq⟩ := b2 z hz
          exact ⟨j, q, by omega, hq⟩
      · rw [List.nodup_append]
        refine ⟨a3, b3, fun z hz z' hz' e => ?_⟩
        subst e
        obtain ⟨q, hq⟩ := a2 z hz
        obtain ⟨j, q', hj, hq'⟩ := b2 z hz'
        rw [hq, List.append_assoc] at hq'
        injection hq' with hq'
        have := List.append_cancel_left hq'
        injection this with this
        omega
  obtain ⟨c1, c2, c3⟩ := key s.subs 0 fun i s' hi => by rwa [Nat.zero_add]
  have ek : (nmS t x y).kids (.inl p) = (List.range' 0 s.subs.length).map fun i => (.inl (p ++ [i]) : Nm) := by
    rw [nm_kids, nmKids, hp]
  have ep : (nmS t x y).pay (.inl p) = s.pay := by
    rw [nm_pay, nmPay, hp]
  rw [unf_eq, labs_eq, ek, ep]
  refine ⟨⟨rfl, c1⟩, fun z hz => ?_, ?_⟩
  · rcases List.mem_cons.1 hz with rfl | hz
    · exact ⟨[], by rw [List.append_nil]⟩
    · obtain ⟨j, q, _, hq⟩ := c2 z hz
      exact ⟨j :: q, hq⟩
  · rw [List.nodup_cons]
    refine ⟨fun hz => ?_, c3⟩
    obtain ⟨j, q, _, hq⟩ := c2 _ hz
    injection hq with hq
    have := congrArg List.length hq
    simp at this
theorem fresh_subs (o : OpT) : (freshT o).subs = [] := by
  unfold freshT
  rfl
theorem sit_of {t : Tree} {a b : OpT} (va : ValidE t a = 0) (vb : ValidE t b = 0) : Sit (nmS t (freshT a).pay (freshT b).pay) (.inl []) (.inr true) (.inr false) t a b := by
  obtain ⟨h1, h2, h3⟩ := nm_unf t (freshT a).pay (freshT b).pay t [] rfl
  have new : ∀ b' : Bool, (.inr b' : Nm) ∉ labs (nmS t (freshT a).pay (freshT b).pay) (.inl []) t := fun b' hm => by
    obtain ⟨q, hq⟩ := h2 _ hm
    cases hq
  refine ⟨h1, h3, fun c => ?_, ?_, ?_, new true, new false, va, vb⟩
  · injection c with c
    cases c
  · rw [unf_eq, fresh_subs]
    refine ⟨rfl, ?_⟩
    show Unfs _ [] []
    rw [Unfs]
    trivial
  · rw [unf_eq, fresh_subs]
    refine ⟨rfl, ?_⟩
    show Unfs _ [] []
    rw [Unfs]
    trivial
theorem meet_two {t : Tree} {a b : OpT} (va : ValidE t a = 0) (vb : ValidE t b = 0) (prior : Bool) (k1 : OkX a b prior) (k2 : OkX b a (!prior)) : Meet t a b (rowM a b prior) (rowM b a (!prior)) :=
  meet_row (sit_of va vb) prior k1 k2

/-! ### What a list comes to -/
theorem allR_from : ∀ (l : List OpT) (t T : Tree) (i j k : Nat), allR t l i = (T, j, 0) → ∃ j', allR t l k = (T, j', 0)
  | [], t, T, i, j, k, h => by
    rw [allR] at h ⊢
    injection h with h1 h2
    exact ⟨k, by rw [h1]⟩
  | o :: l, t, T, i, j, k, h => by
    rw [allR] at h ⊢
    by_cases hv : ValidE t o = 0
    · rw [decide_eq_true hv] at h ⊢
      exact allR_from l _ T _ j (k + 1) h
    · rw [decide_eq_false hv] at h
      injection h with _ h2
      injection h2 with _ h3
      exact absurd h3 hv
theorem comes_cons {t T : Tree} {o : OpT} {l : List OpT} : Comes t (o :: l) T ↔ ValidE t o = 0 ∧ Comes (applyT t o) l T := by
  unfold Comes
  constructor
  · rintro ⟨i, h⟩
    rw [allR] at h
    by_cases hv : ValidE t o = 0
    · rw [decide_eq_true hv] at h
      exact ⟨hv, allR_from _ _ _ _ _ 0 h⟩
    · rw [decide_eq_false hv] at h
      injection h with _ h2
      injection h2 with _ h3
      exact absurd h3 hv
  · rintro ⟨hv, i, h⟩
    rw [allR, decide_eq_true hv]
    exact allR_from _ _ _ _ _ _ h
theorem comes_nil_inv {t T : Tree} (h : Comes t [] T) : T = t := by
  obtain ⟨i, h⟩ := h
  rw [allR] at h
  injection h with h
  exact h.symm
theorem comes_app {t T : Tree} : ∀ {l m : List OpT}, Comes t (l ++ m) T ↔ ∃ X, Comes t l X ∧ Comes X m T := by
  intro l
  induction l generalizing t with
  | nil =>
    intro m
    exact ⟨fun h => ⟨t, comes_nil t, h⟩, fun ⟨X, h1, h2⟩ => by rw [comes_nil_inv h1] at h2; exact h2⟩
  | cons o l ih =>
    intro m
    rw [List.cons_append, comes_cons, ih]
    constructor
    · rintro ⟨hv, X, h1, h2⟩
      exact ⟨X, comes_cons.2 ⟨hv, h1⟩, h2⟩
    · rintro ⟨X, h1, h2⟩
      obtain ⟨hv, h1⟩ := comes_cons.1 h1
      exact ⟨hv, X, h1, h2⟩
theorem comes_bare {t T : Tree} : ∀ {l : List OpT}, Comes t l T → Comes t (bareL l) T := by
  intro l
  induction l generalizing t with
  | nil => exact fun h => h
  | cons o l ih =>
    intro h
    obtain ⟨hv, h⟩ := comes_cons.1 h
    show Comes t (bareO o :: bareL l) T
    exact comes_cons.2 ⟨by rw [bare_valid]; exact hv, by rw [bare_apply hv]; exact ih h⟩
theorem comes_right {t T : Tree} : ∀ {l : List OpT}, rightT t = true → Comes t l T → rightT T = true := by
  intro l
  induction l generalizing t with
  | nil => exact fun hr h => by rw [comes_nil_inv h]; exact hr
  | cons o l ih =>
    intro hr h
    obtain ⟨hv, h⟩ := comes_cons.1 h
    exact ih (right_applyT hv) h

/-! ### Two operations -/
theorem behX_row {b a : OpT} {f : Bool} {l : List OpT} (h : behindX b a f = (l, 0)) : OkX b a f ∧ l = bareL (rowM b a f) := by
  have hs := behX_sound h
  unfold behindX at h
  cases hb : bothEdit b a with
  | true =>
    rw [hb] at h
    unfold behindE at h
    rw [hs.1, hs.2] at h
    simp only [Bool.not_true, Bool.or_self, cond_false, cond_true] at h
    cases hc : decide ((transP b.pieces a.pieces f).2.2 = 0) && formedB (editO b a f) with
    | false => rw [hc] at h; cases h
    | true =>
      rw [hc] at h
      rw [Bool.and_eq_true, decide_eq_true_eq] at hc
      have er : rowM b a f = [editO b a f] := by unfold rowM; rw [hb]; rfl
      refine ⟨⟨fun o ho => ?_, fun _ => hc.1⟩, ?_⟩
      · rw [er, List.mem_singleton] at ho
        rw [ho]
        exact hc.2
      · rw [er]
        exact (Prod.mk.inj h).1.symm
  | false =>
    rw [hb] at h
    unfold behindO at h
    rw [hs.1, hs.2] at h
    simp only [Bool.not_true, Bool.or_self, cond_false] at h
    have er : rowM b a f = rowO b a f := by unfold rowM; rw [hb]; rfl
    cases hf : (rowO b a f).all formedB with
    | false => rw [hf] at h; cases h
    | true =>
      rw [hf] at h
      refine ⟨⟨fun o ho => ?_, fun c => by rw [hb] at c; cases c⟩, ?_⟩
      · rw [er] at ho
        exact List.all_eq_true.1 hf o ho
      · rw [er]
        exact (Prod.mk.inj h).1.symm
theorem both_meet {t : Tree} {a b : OpT} {prior : Bool} {x y : List OpT} (va : ValidE t a = 0) (vb : ValidE t b = 0) (h : bothX a b prior = (x, y, 0)) : Meet t a b x y := by
  obtain ⟨h1, h2⟩ := bothX_ok h
  obtain ⟨k1, e1⟩ := behX_row h1
  obtain ⟨k2, e2⟩ := behX_row h2
  obtain ⟨T, c1, c2⟩ := meet_two va vb prior k1 k2
  rw [e1, e2]
  exact ⟨T, comes_bare c1, comes_bare c2⟩
theorem valid_sound {t : Tree} {o : OpT} (h : ValidE t o = 0) : soundO o = true := by
  have hf := (valid_right h).2.1
  unfold soundO
  rw [hf]
  cases good_of h with
  | ins y hk => simp [hk]
  | del x hk hne =>
    have := List.length_pos_iff.2 hne
    simp [hk, this]
  | mov x z hk hne hx hw =>
    have := List.length_pos_iff.2 hne
    simp [hk, this, hw]
  | att y hk => simp [hk]
  | lab y hk => simp [hk]
  | edt y hk => simp [hk]
theorem behX_err {b a : OpT} {f : Bool} (ha : soundO a = true) (hb : soundO b = true) : (behindX b a f).2 = 0 ∨ (behindX b a f).2 = 3 := by
  unfold behindX behindE behindO
  rw [ha, hb]
  simp only [Bool.not_true, Bool.or_self, cond_false]
  cases bothEdit b a with
  | true =>
    cases decide ((transP b.pieces a.pieces f).2.2 = 0) && formedB (editO b a f) with
    | true => exact .inl rfl
    | false => exact .inr rfl
  | false =>
    cases (rowO b a f).all formedB with
    | true => exact .inl rfl
    | false => exact .inr rfl
theorem both_err {a b : OpT} {f : Bool} (ha : soundO a = true) (hb : soundO b = true) : (bothX a b f).2.2 = 0 ∨ (bothX a b f).2.2 = 3 := by
  have h1 := behX_err (b := a) (a := b) (f := f) hb ha
  have h2 := behX_err (b := b) (a := a) (f := !f) ha hb
  unfold bothX
  rcases h1 with h1 | h1
  · rw [h1]
    rcases h2 with h2 | h2
    · rw [h2]; exact .inl rfl
    · rw [h2]; exact .inr rfl
  · rw [h1]
    exact .inr rfl

/-! ### Two lists -/
theorem comes_one {t T : Tree} {o : OpT} (h : Comes t [o] T) : ValidE t o = 0 ∧ T = applyT t o := by
  obtain ⟨hv, h⟩ := comes_cons.1 h
  exact ⟨hv, comes_nil_inv h⟩
theorem one_comes {t : Tree} {o : OpT} (h : ValidE t o = 0) : Comes t [o] (applyT t o) := comes_cons.2 ⟨h, comes_nil _⟩
/-- Both ways round. -/
theorem bring_meet (prior : Bool) : ∀ (n : Nat) (xs ys : List OpT) (r : List OpT × List OpT × Int) (t X Y : Tree), bringF prior n xs ys = some r → Comes t xs X → Comes t ys Y → r.2.2 = 3 ∨ (r.2.2 = 0 ∧ ∃ T, Comes Y r.1 T ∧ Comes X r.2.1 T)
  | 0, _, _, _, _, _, _, h, _, _ => by cases h
  | n + 1, xs, ys, r, t, X, Y, h, hx, hy => by
    rw [bringF_succ] at h
    unfold bringS at h
    cases hm : muchP xs ys with
    | true =>
      rw [hm] at h
      injection h with h
      subst h
      exact .inl rfl
    | false =>
      rw [hm, cond_false] at h
      match xs, ys, h with
      | [], ys, h =>
        injection h with h
        subst h
        rw [comes_nil_inv hx]
        exact .inr ⟨rfl, Y, comes_nil _, hy⟩
      | a :: xs, [], h =>
        injection h with h
        subst h
        rw [comes_nil_inv hy]
        exact .inr ⟨rfl, X, hx, comes_nil _⟩
      | [a], [b], h =>
        injection h with h
        subst h
        obtain ⟨va, rfl⟩ := comes_one hx
        obtain ⟨vb, rfl⟩ := comes_one hy
        rcases both_err (f := prior) (valid_sound va) (valid_sound vb) with e | e
        · refine .inr ⟨e, ?_⟩
          obtain ⟨T, c1, c2⟩ := both_meet va vb (show bothX a b prior = ((bothX a b prior).1, (bothX a b prior).2.1, 0) by rw [← e])
          exact ⟨T, c1, c2⟩
        · exact .inl e
      | a :: a' :: xs, b :: ys, h =>
        simp only at h
        obtain ⟨va, hx'⟩ := comes_cons.1 hx
        cases h1 : bringF prior n [a] (b :: ys) with
        | none => rw [h1] at h; cases h
        | some q =>
          obtain ⟨x1, y1, e1⟩ := q
          rw [h1] at h
          simp only at h
          rcases bring_meet prior n _ _ _ t (applyT t a) Y h1 (one_comes va) hy with e | ⟨e, T1, c1, c2⟩
          · simp only at e
            subst e
            simp only [show (decide ((3 : Int) = 0)) = false from rfl, Bool.not_false, cond_true] at h
            injection h with h
            subst h
            exact .inl rfl
          · simp only at e c1 c2
            subst e
            simp only [decide_true, Bool.not_true, cond_false] at h
            cases h2 : bringF prior n (a' :: xs) y1 with
            | none => rw [h2] at h; cases h
            | some q =>
              obtain ⟨z, w, e2⟩ := q
              rw [h2] at h
              simp only at h
              rcases bring_meet prior n _ _ _ (applyT t a) X T1 h2 hx' c2 with e | ⟨e, T, d1, d2⟩
              · simp only at e
                subst e
                simp only [show (decide ((3 : Int) = 0)) = false from rfl, Bool.not_false, cond_true] at h
                injection h with h
                subst h
                exact .inl rfl
              · simp only at e d1 d2
                subst e
                simp only [decide_true, Bool.not_true, cond_false] at h
                cases hmm : muchP (x1 ++ z) w with
                | true =>
                  rw [hmm] at h
                  injection h with h
                  subst h
                  exact .inl rfl
                | false =>
                  rw [hmm] at h
                  injection h with h
                  subst h
                  exact .inr ⟨rfl, T, comes_app.2 ⟨T1, c1, d1⟩, d2⟩
      | [a], b :: b' :: ys, h =>
        simp only at h
        obtain ⟨vb, hy'⟩ := comes_cons.1 hy
        cases h1 : bringF prior n [a] [b] with
        | none => rw [h1] at h; cases h
        | some q =>
          obtain ⟨x1, y1, e1⟩ := q
          rw [h1] at h
          simp only at h
          rcases bring_meet prior n _ _ _ t X (applyT t b) h1 hx (one_comes vb) with e | ⟨e, T1, c1, c2⟩
          · simp only at e
            subst e
            simp only [show (decide ((3 : Int) = 0)) = false from rfl, Bool.not_false, cond_true] at h
            injection h with h
            subst h
            exact .inl rfl
          · simp only at e c1 c2
            subst e
            simp only [decide_true, Bool.not_true, cond_false] at h
            cases h2 : bringF prior n x1 (b' :: ys) with
            | none => rw [h2] at h; cases h
            | some q =>
              obtain ⟨z, w, e2⟩ := q
              rw [h2] at h
              simp only at h
              rcases bring_meet prior n _ _ _ (applyT t b) T1 Y h2 c1 hy' with e | ⟨e, T, d1, d2⟩
              · simp only at e
                subst e
                simp only [show (decide ((3 : Int) = 0)) = false from rfl, Bool.not_false, cond_true] at h
                injection h with h
                subst h
                exact .inl rfl
              · simp only at e d1 d2
                subst e
                simp only [decide_true, Bool.not_true, cond_false] at h
                cases hmm : muchP z (y1 ++ w) with
                | true =>
                  rw [hmm] at h
                  injection h with h
                  subst h
                  exact .inl rfl
                | false =>
                  rw [hmm] at h
                  injection h with h
                  subst h
                  exact .inr ⟨rfl, T, d1, comes_app.2 ⟨T1, c2, d2⟩⟩
/-- The law: what lists come to both ways round. -/
theorem lists_meet {t : Tree} {us vs : List OpT} {prior : Bool} (h1 : (AllR t us).2.2 = 0) (h2 : (AllR t vs).2.2 = 0) (h3 : (listsX prior us vs).2.2 ≠ 3) :
    (listsX prior us vs).2.2 = 0 ∧ (AllR (AllR t us).1 (listsX prior us vs).2.1).2.2 = 0 ∧ (AllR (AllR t vs).1 (listsX prior us vs).1).2.2 = 0 ∧ (AllR (AllR t us).1 (listsX prior us vs).2.1).1 = (AllR (AllR t vs).1 (listsX prior us vs).1).1 := by
  have hr : rightT t = true := by
    unfold AllR at h1
    cases hh : rightT t with
    | true => rfl
    | false => rw [hh] at h1; cases h1
  have all : ∀ (t : Tree) (l : List OpT), rightT t = true → AllR t l = allR t l 0 := fun t l h => by unfold AllR; rw [h]; rfl
  have cx : Comes t us (AllR t us).1 := ⟨(AllR t us).2.1, by rw [← all t us hr, ← h1]⟩
  have cy : Comes t vs (AllR t vs).1 := ⟨(AllR t vs).2.1, by rw [← all t vs hr, ← h2]⟩
  have rx := comes_right hr cx
  have ry := comes_right hr cy
  obtain ⟨n, hn⟩ := bringX_spec prior us vs
  rcases bring_meet prior n us vs _ t _ _ hn cx cy with e | ⟨e, T, c1, c2⟩
  · exact absurd e h3
  · refine ⟨e, ?_⟩
    have d1 := comes_bare c1
    have d2 := comes_bare c2
    obtain ⟨i, d1⟩ := d1
    obtain ⟨j, d2⟩ := d2
    have e1 : AllR (AllR t vs).1 (listsX prior us vs).1 = (T, i, 0) := by rw [all _ _ ry]; exact d1
    have e2 : AllR (AllR t us).1 (listsX prior us vs).2.1 = (T, j, 0) := by rw [all _ _ rx]; exact d2
    rw [e1, e2]
    exact ⟨rfl, rfl, rfl⟩
end Bow
/- SP38: what edits behind each other put in; what becomes of operations costs no more than they. -/
namespace Bow
open Go

theorem putsLen_app : ∀ a b : List PieceT, putsLen (a ++ b) = putsLen a + putsLen b
  | [], b => by simp [putsLen]
  | p :: a, b => by
    have := putsLen_app a b
    simp only [List.cons_append, putsLen, List.foldr_cons] at this ⊢
    omega
theorem putsLen_one (p : PieceT) : putsLen [p] = p.put.length := by simp [putsLen]
theorem putsLen_two (p : PieceT) (l : List PieceT) : putsLen (p :: l) = p.put.length + putsLen l := rfl
theorem Mk.last_puts (m : Mk) : putsLen m.last.l = putsLen m.l := by
  unfold Mk.last
  cases decide (0 < m.keep) || m.l.isEmpty with
  | true => simp only [cond_true]; rw [putsLen_app, putsLen_one]; rfl
  | false => rfl
theorem modL_puts (s : List UInt8) : ∀ {l : List PieceT}, l ≠ [] → putsLen (modL (fun p => { p with put := p.put ++ s }) l) = putsLen l + s.length
  | [], h => absurd rfl h
  | [p], _ => by rw [modL, putsLen_one, putsLen_one, List.length_append]
  | p :: q :: r, _ => by
    rw [modL, putsLen_two, putsLen_two p, modL_puts s (l := q :: r) (by simp)]
    omega
theorem modL_drops (n : Int) : ∀ l : List PieceT, putsLen (modL (fun p => { p with drop := p.drop + n }) l) = putsLen l
  | [] => rfl
  | [p] => by rw [modL, putsLen_one, putsLen_one]
  | p :: q :: r => by rw [modL, putsLen_two, putsLen_two p, modL_drops n (q :: r)]
theorem Mk.put_puts (s : List UInt8) (m : Mk) : putsLen (m.put s).l = putsLen m.l + s.length := by
  unfold Mk.put
  cases h : s.isEmpty with
  | true =>
    rw [List.isEmpty_iff] at h
    subst h
    rfl
  | false =>
    simp only [cond_false]
    rw [modL_puts s m.last_ne, m.last_puts]
theorem Mk.drop_puts (n : Int) (m : Mk) : putsLen (m.drop n).l = putsLen m.l := by
  unfold Mk.drop
  cases decide (0 < n) with
  | true => simp only [cond_true]; rw [modL_drops, m.last_puts]
  | false => rfl
theorem Mk.piece_puts (m : Mk) (p : PieceT) : putsLen (m.piece p).l = putsLen m.l + p.put.length := by
  unfold Mk.piece
  rw [Mk.drop_puts, Mk.put_puts]
  rfl
theorem foldl_puts : ∀ (l : List PieceT) (m : Mk), putsLen (l.foldl Mk.piece m).l = putsLen m.l + putsLen l
  | [], m => by simp [putsLen]
  | p :: l, m => by
    rw [List.foldl_cons, foldl_puts l, Mk.piece_puts, putsLen_two]
    omega
theorem norm_puts (l : List PieceT) : putsLen (normP l) = putsLen l := by
  unfold normP
  rw [foldl_puts]
  simp [Mk.nil, putsLen]
theorem rowPut_puts (l : List PieceT) : (rowPut l).1.length + putsLen (rowPut l).2 = putsLen l := by
  cases l with
  | nil => rfl
  | cons p r =>
    have e : rowPut (p :: r) = bif decide (0 < p.keep) || p.put.isEmpty then ([], p :: r) else (p.put, { p with put := [] } :: r) := rfl
    rw [e]
    cases decide (0 < p.keep) || p.put.isEmpty with
    | true => simp
    | false =>
      show p.put.length + putsLen ({ p with put := [] } :: r) = putsLen (p :: r)
      rw [putsLen_two, putsLen_two]
      simp
theorem rowRun_puts : ∀ l : List PieceT, putsLen (rowRun l).2 ≤ putsLen l
  | [] => Nat.le_refl _
  | p :: r => by
    have ih := rowRun_puts r
    rw [rowRun]
    cases decide (0 < p.keep) with
    | true => exact Nat.le_refl _
    | false =>
      simp only [cond_false]
      cases decide (0 < p.drop) with
      | true => exact Nat.le_refl _
      | false => simp only [cond_false]; rw [putsLen_two]; omega
theorem rowTake_puts (n : Int) (l : List PieceT) : putsLen (rowTake n l) = putsLen l := by
  cases l with
  | nil => rfl
  | cons p r =>
    have e : rowTake n (p :: r) = bif decide (0 < p.keep) then { p with keep := p.keep - n } :: r else { p with drop := p.drop - n } :: r := rfl
    rw [e]
    cases decide (0 < p.keep) <;> rfl
theorem bothR_puts (a b : List PieceT) : putsLen (bothR a b).2.1 ≤ putsLen a := by
  have h := rowRun_puts a
  unfold bothR
  generalize rowRun a = ra at h
  generalize rowRun b = rb
  obtain ⟨⟨n, x, any⟩, a'⟩ := ra
  obtain ⟨⟨m, y, more⟩, b'⟩ := rb
  simp only at h ⊢
  cases !any && !more with
  | true => exact h
  | false => simp only [cond_false]; rw [rowTake_puts]; exact h
theorem puts_puts (prior : Bool) (s : Tr) : putsLen (s.puts prior).x.l + putsLen (s.puts prior).p = putsLen s.x.l + putsLen s.p := by
  have h := rowPut_puts s.p
  unfold Tr.puts
  generalize rowPut s.p = rp at h
  generalize rowPut s.q = rq
  obtain ⟨a, p⟩ := rp
  obtain ⟨b, q⟩ := rq
  simp only at h ⊢
  cases prior with
  | true =>
    simp only [cond_true]
    have := Mk.put_puts a s.x
    unfold Mk.kept
    simp only
    omega
  | false =>
    simp only [cond_false]
    have := Mk.put_puts a (s.x.kept b.length)
    have e : putsLen (s.x.kept b.length).l = putsLen s.x.l := rfl
    omega
theorem does_puts (s : Tr) (n : Int) (x y : Bool) : putsLen (s.does n x y).x.l = putsLen s.x.l ∧ (s.does n x y).p = s.p := by
  unfold Tr.does
  cases x <;> cases y
  · exact ⟨rfl, rfl⟩
  · exact ⟨rfl, rfl⟩
  · exact ⟨Mk.drop_puts n s.x, rfl⟩
  · exact ⟨rfl, rfl⟩
theorem go_puts (prior : Bool) : ∀ (f : Nat) (s : Tr), putsLen (Tr.go prior f s).x.l ≤ putsLen s.x.l + putsLen s.p
  | 0, s => by rw [Tr.go]; omega
  | f + 1, s => by
    have h := puts_puts prior s
    rw [Tr.go]
    generalize s.puts prior = z at h
    obtain ⟨p, q, x, y⟩ := z
    have hb := bothR_puts p q
    simp only at h ⊢
    generalize bothR p q = rb at hb
    obtain ⟨⟨n, d, g, any⟩, p', q'⟩ := rb
    simp only at hb ⊢
    cases any with
    | true =>
      simp only [cond_true]
      have hd := does_puts ⟨p', q', x, y⟩ n d g
      have ih := go_puts prior f (Tr.does ⟨p', q', x, y⟩ n d g)
      rw [hd.1, hd.2] at ih
      simp only at ih
      omega
    | false =>
      simp only [cond_false]
      omega
theorem trans_puts (a b : List PieceT) (prior : Bool) : putsLen (transP a b prior).1 ≤ putsLen a := by
  unfold transP
  cases !rightP a || !rightP b with
  | true => exact Nat.zero_le _
  | false =>
    simp only [cond_false]
    have h := go_puts prior (extN (normP a) + extN (normP b) + 1) ⟨normP a, normP b, Mk.nil, Mk.nil⟩
    simp only [norm_puts] at h
    generalize Tr.go prior (extN (normP a) + extN (normP b) + 1) ⟨normP a, normP b, Mk.nil, Mk.nil⟩ = s at h
    obtain ⟨p, q, x, y⟩ := s
    simp only at h ⊢
    have h0 : putsLen Mk.nil.l = 0 := rfl
    cases !rightP x.l || !rightP y.l with
    | true => exact Nat.zero_le _
    | false => simp only [cond_false]; omega

/-! ### Costs -/
theorem cost_min (o : OpT) : 2 ≤ costO o := by unfold costO; omega
theorem cost_noOp (k : Int) : costO (noOp k) = 2 := rfl
theorem bare_cost (o : OpT) : costO (bareO o) ≤ costO o := by
  rcases kinds o with h | h | h | h | h | h | ⟨h1, h2, h3, h4, h5, h6⟩
  · rw [bare1 h]; unfold costO; simp only [noOp, putsLen, List.length_nil, List.foldr_nil]; omega
  · rw [bare2 h]; unfold costO; simp only [noOp, putsLen, List.length_nil, List.foldr_nil]; omega
  · rw [bare3 h]; unfold costO; simp only [noOp, putsLen, List.length_nil, List.foldr_nil]; omega
  · rw [bare4 h]
    unfold costO
    cases o.gone
    · simp only [noOp, putsLen, List.length_nil, List.foldr_nil, cond_false]; omega
    · simp only [noOp, putsLen, List.length_nil, List.foldr_nil, cond_true]; omega
  · rw [bare5 h]; unfold costO; simp only [noOp, putsLen, List.length_nil, List.foldr_nil]; omega
  · rw [bare6 h]; unfold costO; simp only [noOp, List.length_nil]; omega
  · rw [bare_none h1 h2 h3 h4 h5 h6, cost_noOp]
    exact cost_min o
theorem shifted_cost (b a : OpT) (prior : Bool) : costO (shiftedO b a prior) = costO b := by
  unfold shiftedO
  cases decide (b.kind = 1) with
  | true => rfl
  | false =>
    cases decide (b.kind = 3) with
    | true => rfl
    | false => rfl
theorem undo_cost (o : OpT) : costO (undoO o) = 2 := by
  unfold undoO
  cases decide (o.kind = 3) && movesO o <;> rfl
theorem row_cost (b a : OpT) (prior : Bool) : ∀ o ∈ rowO b a prior, costO o ≤ costO b := by
  have hs : ∀ o ∈ [shiftedO b a prior], costO o ≤ costO b := fun o ho => by
    rw [List.mem_singleton.1 ho, shifted_cost]
    exact Nat.le_refl _
  have hn : ∀ o ∈ ([] : List OpT), costO o ≤ costO b := fun o ho => by cases ho
  have hd : ∀ p q : List Int, ∀ o ∈ [dropO p, dropO q], costO o ≤ costO b := fun p q o ho => by
    have := cost_min b
    rcases List.mem_cons.1 ho with rfl | ho
    · exact this
    · rw [List.mem_singleton.1 ho]; exact this
  have hd1 : ∀ p : List Int, ∀ o ∈ [dropO p], costO o ≤ costO b := fun p o ho => by
    rw [List.mem_singleton.1 ho]
    exact cost_min b
  have hu : ∀ o ∈ [undoO a, b], costO o ≤ costO b := fun o ho => by
    rcases List.mem_cons.1 ho with rfl | ho
    · rw [undo_cost]; exact cost_min b
    · rw [List.mem_singleton.1 ho]; exact Nat.le_refl _
  unfold rowO
  cases decide (a.kind = 2) with
  | true =>
    cases within a.path b.path with
    | true => exact hn
    | false => cases decide (b.kind = 3) && within a.path b.to <;> first | exact hs | exact hd1 _
  | false =>
    cases wonO b a with
    | true => cases prior <;> first | exact hn | exact hs
    | false =>
      cases decide (a.kind = 3) with
      | false => exact hs
      | true =>
        cases decide (b.kind = 2) with
        | true => cases within b.path a.path && (!decide (b.path = a.path) && !within b.path a.to) <;> first | exact hs | exact hd _ _
        | false => cases decide (b.kind = 3) && (within b.path a.to && within a.path b.to) <;> first | exact hs | (cases prior <;> first | exact hn | exact hu)
theorem behX_cost (b a : OpT) (prior : Bool) : ∀ o ∈ (behindX b a prior).1, costO o ≤ costO b := by
  unfold behindX
  cases bothEdit b a with
  | true =>
    simp only [cond_true]
    unfold behindE
    cases !soundO a || !soundO b with
    | true => intro o ho; cases ho
    | false =>
      cases decide ((transP b.pieces a.pieces prior).2.2 = 0) && formedB (editO b a prior) with
      | false => intro o ho; cases ho
      | true =>
        intro o ho
        simp only [cond_true, cond_false, List.mem_singleton] at ho
        subst ho
        refine Nat.le_trans (bare_cost _) ?_
        have := trans_puts b.pieces a.pieces prior
        unfold costO editO
        simp only
        omega
  | false =>
    simp only [cond_false]
    unfold behindO
    cases !soundO a || !soundO b with
    | true => intro o ho; cases ho
    | false =>
      cases (rowO b a prior).all formedB with
      | false => intro o ho; cases ho
      | true =>
        intro o ho
        simp only [cond_true, cond_false, List.mem_map] at ho
        obtain ⟨z, hz, rfl⟩ := ho
        exact Nat.le_trans (bare_cost z) (row_cost b a prior z hz)
theorem bothX_cost (a b : OpT) (prior : Bool) : ∀ o ∈ (bothX a b prior).2.1, costO o ≤ costO b := by
  unfold bothX
  cases decide ((behindX a b prior).2 = 0) with
  | false => intro o ho; cases ho
  | true =>
    cases decide ((behindX b a (!prior)).2 = 0) with
    | false => intro o ho; cases ho
    | true => exact behX_cost b a (!prior)
end Bow
/- SP65: what two lists come to costs no more an operation than they. -/
namespace Bow
open Go

def AtMost (C : Nat) (l : List OpT) : Prop := ∀ o ∈ l, costO o ≤ C
theorem AtMost.nil {C : Nat} : AtMost C [] := fun o ho => by cases ho
theorem AtMost.cons {C : Nat} {a : OpT} {l : List OpT} (h : AtMost C (a :: l)) : AtMost C [a] ∧ AtMost C l := ⟨fun o ho => h o (by rw [List.mem_singleton.1 ho]; simp), fun o ho => h o (by simp [ho])⟩
theorem AtMost.app {C : Nat} {l m : List OpT} (h : AtMost C l) (k : AtMost C m) : AtMost C (l ++ m) := fun o ho => by
  rcases List.mem_append.1 ho with ho | ho
  · exact h o ho
  · exact k o ho
theorem bothX_cost1 (a b : OpT) (prior : Bool) : ∀ o ∈ (bothX a b prior).1, costO o ≤ costO a := by
  unfold bothX
  cases decide ((behindX a b prior).2 = 0) with
  | false => intro o ho; cases ho
  | true =>
    cases decide ((behindX b a (!prior)).2 = 0) with
    | false => intro o ho; cases ho
    | true => exact behX_cost a b prior
theorem bringF_cost (prior : Bool) (C : Nat) : ∀ (n : Nat) (xs ys : List OpT) (r : List OpT × List OpT × Int), bringF prior n xs ys = some r → AtMost C xs → AtMost C ys → AtMost C r.1 ∧ AtMost C r.2.1
  | 0, _, _, _, h, _, _ => by cases h
  | n + 1, xs, ys, r, h, hx, hy => by
    have none3 : ∀ e : Int, AtMost C (([], [], e) : List OpT × List OpT × Int).1 ∧ AtMost C (([], [], e) : List OpT × List OpT × Int).2.1 := fun e => ⟨AtMost.nil, AtMost.nil⟩
    rw [bringF_succ] at h
    unfold bringS at h
    cases hm : muchP xs ys with
    | true =>
      rw [hm] at h
      injection h with h
      subst h
      exact none3 3
    | false =>
      rw [hm, cond_false] at h
      match xs, ys, h with
      | [], ys, h =>
        injection h with h
        subst h
        exact ⟨AtMost.nil, hy⟩
      | a :: xs, [], h =>
        injection h with h
        subst h
        exact ⟨hx, AtMost.nil⟩
      | [a], [b], h =>
        injection h with h
        subst h
        have ha := hx a (by simp)
        have hb := hy b (by simp)
        exact ⟨fun o ho => Nat.le_trans (bothX_cost1 a b prior o ho) ha, fun o ho => Nat.le_trans (bothX_cost a b prior o ho) hb⟩
      | a :: a' :: xs, b :: ys, h =>
        simp only at h
        cases h1 : bringF prior n [a] (b :: ys) with
        | none => rw [h1] at h; cases h
        | some q =>
          obtain ⟨x1, y1, e1⟩ := q
          rw [h1] at h
          have i1 := bringF_cost prior C n _ _ _ h1 hx.cons.1 hy
          simp only at h i1
          cases d1 : !decide (e1 = 0) with
          | true =>
            rw [d1] at h
            injection h with h
            subst h
            exact none3 e1
          | false =>
            rw [d1, cond_false] at h
            cases h2 : bringF prior n (a' :: xs) y1 with
            | none => rw [h2] at h; cases h
            | some q =>
              obtain ⟨z, w, e2⟩ := q
              rw [h2] at h
              have i2 := bringF_cost prior C n _ _ _ h2 hx.cons.2 i1.2
              simp only at h i2
              cases d2 : !decide (e2 = 0) with
              | true =>
                rw [d2] at h
                injection h with h
                subst h
                exact none3 e2
              | false =>
                rw [d2, cond_false] at h
                cases hmm : muchP (x1 ++ z) w with
                | true =>
                  rw [hmm] at h
                  injection h with h
                  subst h
                  exact none3 3
                | false =>
                  rw [hmm] at h
                  injection h with h
                  subst h
                  exact ⟨i1.1.app i2.1, i2.2⟩
      | [a], b :: b' :: ys, h =>
        simp only at h
        cases h1 : bringF prior n [a] [b] with
        | none => rw [h1] at h; cases h
        | some q =>
          obtain ⟨x1, y1, e1⟩ := q
          rw [h1] at h
          have i1 := bringF_cost prior C n _ _ _ h1 hx hy.cons.1
          simp only at h i1
          cases d1 : !decide (e1 = 0) with
          | true =>
            rw [d1] at h
            injection h with h
            subst h
            exact none3 e1
          | false =>
            rw [d1, cond_false] at h
            cases h2 : bringF prior n x1 (b' :: ys) with
            | none => rw [h2] at h; cases h
            | some q =>
              obtain ⟨z, w, e2⟩ := q
              rw [h2] at h
              have i2 := bringF_cost prior C n _ _ _ h2 i1.1 hy.cons.2
              simp only at h i2
              cases d2 : !decide (e2 = 0) with
              | true =>
                rw [d2] at h
                injection h with h
                subst h
                exact none3 e2
              | false =>
                rw [d2, cond_false] at h
                cases hmm : muchP z (y1 ++ w) with
                | true =>
                  rw [hmm] at h
                  injection h with h
                  subst h
                  exact none3 3
                | false =>
                  rw [hmm] at h
                  injection h with h
                  subst h
                  exact ⟨i2.1, i1.2.app i2.2⟩
theorem AtMost.bare {C : Nat} {l : List OpT} (h : AtMost C l) : AtMost C (bareL l) := fun o ho => by
  unfold bareL at ho
  rw [List.mem_map] at ho
  obtain ⟨z, hz, rfl⟩ := ho
  exact Nat.le_trans (bare_cost z) (h z hz)
theorem listsX_cost {prior : Bool} {C : Nat} {xs ys : List OpT} (hx : AtMost C xs) (hy : AtMost C ys) : AtMost C (listsX prior xs ys).1 ∧ AtMost C (listsX prior xs ys).2.1 := by
  obtain ⟨n, hn⟩ := bringX_spec prior xs ys
  have h := bringF_cost prior C n xs ys _ hn hx hy
  exact ⟨h.1.bare, h.2.bare⟩
end Bow
/- W98: the law ListsCloses. -/
namespace Bow
open Go Go.Proofs

theorem light_most {l : List OpT} {n m : Nat} (hL : LightL l n m) : AtMost (2 + 4 * m) l := fun o ho => by
  obtain ⟨h1, h2⟩ := hL.ops o ho
  have := h1.label
  have := h1.key
  have := h1.value
  unfold costO
  omega
set_option maxHeartbeats 4000000 in
set_option maxRecDepth 100000 in
theorem w_ClosesAll (t : Tree) (us vs : List OpT) (prior : Bool) (_h1 : us.length ≤ maxLen) (_h2 : vs.length ≤ maxLen) :
    Pure Try.prog 4 [nodeV t, opsV us, opsV vs, .bool prior] (fun x => x = .bool true) := by
  have hw := w_works13
  have key := @lists_meet t us vs prior
  have wx := AllR_weight t us
  have wy := AllR_weight t vs
  have lx : (listsX prior us vs).1.length + (listsX prior us vs).2.1.length ≤ us.length + vs.length := by
    have ix := bringX_inv prior us vs
    show (bareL _).length + (bareL _).length ≤ _
    rw [bareL_len, bareL_len]
    exact ix
  have okx : OkL us → OkL vs → OkL (listsX prior us vs).1 ∧ OkL (listsX prior us vs).2.1 := fun h1 h2 => ⟨bareL_okL (bringX_okL (prior := prior) h1 h2).1, bareL_okL (bringX_okL (prior := prior) h1 h2).2⟩
  have cx : AtMost 242 us → AtMost 242 vs → AtMost 242 (listsX prior us vs).1 ∧ AtMost 242 (listsX prior us vs).2.1 := fun h1 h2 => listsX_cost h1 h2
  have p1 := w_refApplyAll t us
  have p2 := w_refApplyAll t vs
  have p3 := w_listsBoth us vs prior
  generalize listsX prior us vs = R at *
  obtain ⟨p, q, g⟩ := R
  simp only at key lx okx cx
  generalize AllR t us = X at *
  generalize AllR t vs = Y at *
  obtain ⟨x1, x2, x3⟩ := X
  obtain ⟨y1, y2, y3⟩ := Y
  simp only at key wx wy
  have p4 := w_refApplyAll x1 q
  have p5 := w_refApplyAll y1 p
  have wu := AllR_weight x1 q
  have p6 := w_refSameT (AllR x1 q).1 (AllR y1 p).1
  generalize AllR x1 q = U at *
  generalize AllR y1 p = V at *
  obtain ⟨u1, u2, u3⟩ := U
  obtain ⟨v1, v2, v3⟩ := V
  simp only at key wu p6
  refine pure_wk (pure_fn 60 Try.func4 rfl rfl rfl fun B => ?_)
  show CallThen _ _ _ _ _ _
  refine call_pure (w_Weight t 200 (by decide)) rfl ?_
  rintro z ⟨w, rfl, w1, w2, w3⟩
  refine ⟨fun _ => go 60 ?_, fun ga => go 60 ?_⟩
  · show CallThen _ _ _ _ _ _
    refine call_pure hw rfl ?_
    rintro z rfl
    exact ⟨trivial, rfl, rfl, rfl, leaf_b rfl⟩
  have ga : (w : Int) ≤ 200 := not_lt_of ga
  have ht : t.weight ≤ 200 := by have := w3 (by omega); omega
  show CallThen _ _ _ _ _ _
  refine call_pure (w_few us 6 (by decide)) rfl ?_
  rintro z ⟨b1, rfl, h1⟩
  refine ⟨fun _ => go 60 ?_, fun g1 => go 60 ?_⟩
  · show CallThen _ _ _ _ _ _
    refine call_pure hw rfl ?_
    rintro z rfl
    exact ⟨trivial, rfl, rfl, rfl, leaf_b rfl⟩
  have h1 := h1 (by simpa using g1)
  show CallThen _ _ _ _ _ _
  refine call_pure (w_few vs 6 (by decide)) rfl ?_
  rintro z ⟨b2, rfl, h2⟩
  refine ⟨fun _ => go 60 ?_, fun g2 => go 60 ?_⟩
  · show CallThen _ _ _ _ _ _
    refine call_pure hw rfl ?_
    rintro z rfl
    exact ⟨trivial, rfl, rfl, rfl, leaf_b rfl⟩
  have h2 := h2 (by simpa using g2)
  have m1 := light_most h1
  have m2 := light_most h2
  have n1 := h1.len
  have n2 := h2.len
  have o1 := lightL_ok h1
  have o2 := lightL_ok h2
  obtain ⟨o3, o4⟩ := okx o1 o2
  obtain ⟨m3, m4⟩ := cx m1 m2
  have k1 : costs us ≤ 6 * 242 := costs_le n1 m1
  have k2 : costs vs ≤ 6 * 242 := costs_le n2 m2
  have k3 : costs p ≤ 12 * 242 := costs_le (by omega) m3
  have k4 : costs q ≤ 12 * 242 := costs_le (by omega) m4
  have c1 := p1 (by omega) (by omega) fun o ho => (o1 o ho).1
  have c2 := p2 (by omega) (by omega) fun o ho => (o2 o ho).1
  have c3 := p3 o1 o2 (by omega)
  have c4 := p4 (by omega) (by omega) fun o ho => (o4 o ho).1
  have c5 := p5 (by omega) (by omega) fun o ho => (o3 o ho).1
  have c6 := p6 (by omega)
  clear p1 p2 p3 p4 p5 p6 okx cx m1 m2 m3 m4 o1 o2 o3 o4 h1 h2
  show CallThen _ _ _ _ _ _
  refine call_pure c1 rfl ?_
  rintro z rfl
  show CallThen _ _ _ _ _ _
  refine call_pure c2 rfl ?_
  rintro z rfl
  refine ⟨fun _ => go 60 ?_, fun q1 => go 60 ?_⟩
  · show CallThen _ _ _ _ _ _
    refine call_pure hw rfl ?_
    rintro z rfl
    exact ⟨trivial, rfl, rfl, rfl, leaf_b rfl⟩
  refine ⟨fun _ => go 60 ?_, fun q2 => go 60 ?_⟩
  · show CallThen _ _ _ _ _ _
    refine call_pure hw rfl ?_
    rintro z rfl
    exact ⟨trivial, rfl, rfl, rfl, leaf_b rfl⟩
  show CallThen _ _ _ _ _ _
  refine call_pure c3 rfl ?_
  rintro z rfl
  refine ⟨fun _ => go 60 ?_, fun q3 => go 60 ?_⟩
  · show CallThen _ _ _ _ _ _
    refine call_pure hw rfl ?_
    rintro z rfl
    exact ⟨trivial, rfl, rfl, rfl, leaf_b rfl⟩
  have q3 : g ≠ 3 := of_decide_eq_false q3
  obtain ⟨e1, e2, e3, e4⟩ := key (eq_of' q1) (eq_of' q2) q3
  have c6 : Pure Try.prog 20 [nodeV u1, nodeV v1] (fun x => x = .bool true) := by rw [e4, sameT_refl] at c6; rw [e4]; exact c6
  show CallThen _ _ _ _ _ _
  refine call_pure c4 rfl ?_
  rintro z rfl
  show CallThen _ _ _ _ _ _
  refine call_pure c5 rfl ?_
  rintro z rfl
  refine ⟨fun _ => go 60 ?_, fun q => absurd e1 (of_decide_eq_false q)⟩
  refine ⟨fun _ => go 60 ?_, fun q => absurd e2 (of_decide_eq_false q)⟩
  refine ⟨fun _ => go 60 ?_, fun q => absurd e3 (of_decide_eq_false q)⟩
  show CallThen _ _ _ _ _ _
  refine call_pure c6 rfl ?_
  rintro z rfl
  refine ⟨fun _ => go 60 ?_, fun q => (by cases q)⟩
  show CallThen _ _ _ _ _ _
  refine call_pure hw rfl ?_
  rintro z rfl
  exact ⟨trivial, rfl, rfl, rfl, leaf_b rfl⟩
end Bow
/- TD1: what is read as data at the program's types. -/
namespace Bow
open Go Go.Proofs

theorem take1 {vs : List V} {c : V} (h : vs.take 1 = [c]) : ∃ r, vs = c :: r ∧ vs.drop 1 = r := by
  cases vs with
  | nil => simp at h
  | cons x r => simp at h; subst h; exact ⟨r, rfl, rfl⟩

theorem map_exists {α β : Type} {f : α → V} {g : β → V} : ∀ {xs : List α}, (∀ x ∈ xs, ∃ y, f x = g y) → ∃ ys : List β, xs.map f = ys.map g
  | [], _ => ⟨[], rfl⟩
  | x :: xs, h => by
    obtain ⟨y, hy⟩ := h x List.mem_cons_self
    obtain ⟨ys, hys⟩ := map_exists (xs := xs) fun z hz => h z (List.mem_cons_of_mem _ hz)
    exact ⟨y :: ys, by simp [hy, hys]⟩

theorem vt_str {n : Nat} {vs : List V} (h : VT Try.prog n 9 vs) : ∃ s, vs = [.str s] := by
  cases n with
  | zero => exact h.elim
  | succ n =>
    obtain ⟨s, e, _⟩ : ∃ s : List UInt8, vs = [.str s] ∧ s.length ≤ maxLen := h
    exact ⟨s, e⟩
theorem vt_bool {n : Nat} {vs : List V} (h : VT Try.prog n 4 vs) : ∃ b, vs = [.bool b] := by
  cases n with
  | zero => exact h.elim
  | succ n => exact h
theorem vt_int {n : Nat} {vs : List V} (h : VT Try.prog n 3 vs) : ∃ i, vs = [.int .i64 i] ∧ (Lit.int .i64 i).wf = true := by
  cases n with
  | zero => exact h.elim
  | succ n => exact h
theorem vt_u64 {n : Nat} {vs : List V} (h : VT Try.prog n 22 vs) : ∃ i, vs = [.int .u64 i] := by
  cases n with
  | zero => exact h.elim
  | succ n =>
    obtain ⟨s, e, _⟩ : ∃ s : Int, vs = [.int .u64 s] ∧ (Lit.int .u64 s).wf = true := h
    exact ⟨s, e⟩
theorem vt_u8 {n : Nat} {vs : List V} (h : VT Try.prog n 5 vs) : ∃ i, vs = [.int .u8 i] := by
  cases n with
  | zero => exact h.elim
  | succ n =>
    obtain ⟨s, e, _⟩ : ∃ s : Int, vs = [.int .u8 s] ∧ (Lit.int .u8 s).wf = true := h
    exact ⟨s, e⟩
set_option maxRecDepth 100000 in
theorem vt_attr {n : Nat} {vs : List V} (h : VT Try.prog n 53 vs) : ∃ a, vs = (attrV a).cells := by
  cases n with
  | zero => exact h.elim
  | succ n =>
    obtain ⟨h0, h1, h2⟩ : VT Try.prog n 9 (vs.take 1) ∧ VT Try.prog n 9 ((vs.drop 1).take 1) ∧ (vs.drop 1).drop 1 = [] := h
    obtain ⟨a, e0⟩ := vt_str h0
    obtain ⟨b, e1⟩ := vt_str h1
    obtain ⟨r, rfl, d0⟩ := take1 e0
    rw [d0] at e1 h2
    obtain ⟨r1, rfl, d1⟩ := take1 e1
    rw [d1] at h2
    subst h2
    exact ⟨(a, b), rfl⟩
set_option maxRecDepth 100000 in
theorem vt_attrs {n : Nat} {vs : List V} (h : VT Try.prog n 23 vs) : ∃ l : List (List UInt8 × List UInt8), vs = [.sl 2 (l.map attrV)] := by
  cases n with
  | zero => exact h.elim
  | succ n =>
    obtain ⟨xs, e, _, hx⟩ : ∃ xs : List (List V), vs = [.sl 2 (xs.map (mkX Try.prog 53))] ∧ xs.length ≤ maxLen ∧ ∀ x ∈ xs, VT Try.prog n 53 x := h
    obtain ⟨l, hl⟩ := map_exists (f := mkX Try.prog 53) (g := attrV) (xs := xs) fun x hm => by
      obtain ⟨a, rfl⟩ := vt_attr (hx x hm)
      exact ⟨a, rfl⟩
    exact ⟨l, by rw [e, hl]⟩

set_option maxRecDepth 100000 in
theorem vt_node : ∀ (n : Nat) (vs : List V), VT Try.prog n 26 vs → ∃ t : Tree, vs = (nodeV t).cells := by
  intro n
  induction n using Nat.strongRecOn with
  | _ n ih =>
    intro vs h
    cases n with
    | zero => exact h.elim
    | succ n =>
      obtain ⟨h0, h1, h2, h3, h4, h5, h6⟩ : VT Try.prog n 22 (vs.take 1) ∧ VT Try.prog n 4 ((vs.drop 1).take 1) ∧ VT Try.prog n 9 (((vs.drop 1).drop 1).take 1) ∧ VT Try.prog n 23 ((((vs.drop 1).drop 1).drop 1).take 1) ∧
        VT Try.prog n 9 (((((vs.drop 1).drop 1).drop 1).drop 1).take 1) ∧ VT Try.prog n 24 ((((((vs.drop 1).drop 1).drop 1).drop 1).drop 1).take 1) ∧ (((((vs.drop 1).drop 1).drop 1).drop 1).drop 1).drop 1 = [] := h
      obtain ⟨i, e0⟩ := vt_u64 h0
      obtain ⟨l, e1⟩ := vt_bool h1
      obtain ⟨s, e2⟩ := vt_str h2
      obtain ⟨a, e3⟩ := vt_attrs h3
      obtain ⟨x, e4⟩ := vt_str h4
      obtain ⟨r, rfl, d0⟩ := take1 e0
      rw [d0] at e1 e2 e3 e4 h5 h6
      obtain ⟨r, rfl, d0⟩ := take1 e1
      rw [d0] at e2 e3 e4 h5 h6
      obtain ⟨r, rfl, d0⟩ := take1 e2
      rw [d0] at e3 e4 h5 h6
      obtain ⟨r, rfl, d0⟩ := take1 e3
      rw [d0] at e4 h5 h6
      obtain ⟨r, rfl, d0⟩ := take1 e4
      rw [d0] at h5 h6
      cases n with
      | zero => exact h5.elim
      | succ n =>
        obtain ⟨xs, e5, _, hx⟩ : ∃ xs : List (List V), r.take 1 = [.sl 6 (xs.map (mkX Try.prog 26))] ∧ xs.length ≤ maxLen ∧ ∀ x ∈ xs, VT Try.prog n 26 x := h5
        obtain ⟨ts, hts⟩ := map_exists (f := mkX Try.prog 26) (g := nodeV) (xs := xs) fun x hm => by
          obtain ⟨t, rfl⟩ := ih n (by omega) x (hx x hm)
          exact ⟨t, rfl⟩
        obtain ⟨r, rfl, d0⟩ := take1 e5
        rw [d0] at h6
        subst h6
        refine ⟨.mk i l s a x ts, ?_⟩
        rw [hts]
        simp only [nodeV, Tree.id, Tree.leaf, Tree.label, Tree.attrs, Tree.text, subV_eq, Tree.subs, V.cells]

theorem rep_of_cells {w : World} {vs : List V} {cs : Array Value} (h : RowRep w β0 [] vs cs.toList) : Rep w β0 [] (.agg vs) (.agg cs) :=
  .agg vs cs (by simpa using h.1) fun j c v hj hv => h.2 j c v hj (by simpa using hv)

set_option maxRecDepth 100000 in
/-- A node that is handed over. -/
theorem node_arg {H : Type} {enc : TypeId × Value → H} {w : World} {r : Reach} {base b0 : Nat} {sp : Nat → Bool} {held : Bool} {v : Value} {d : DataW H} {p : List MemPlace} (ho : Value.okWide Try.prog w r b0 26 v) (h : DataW.Trod enc Try.prog w base sp held 26 v d p) :
    ∃ t : Tree, Rep w β0 [] (nodeV t) v := by
  obtain ⟨fuel, hf⟩ := h
  obtain ⟨cs, rfl, _, _⟩ : ∃ cs, v = .agg cs ∧ cs.size = Try.prog.cellsOf 26 ∧ Row.okWide Try.prog w r b0 26 cs := ho
  obtain ⟨vs, h1, _, h3⟩ := read_data (G := [26, 24, 23, 53, 9, 22, 4]) (by kernel_rfl) fuel _ _ _ (by kernel_rfl) hf
  obtain ⟨t, rfl⟩ := vt_node _ _ h3
  exact ⟨t, rep_of_cells h1⟩
end Bow
/- TD2: operations that are read as data. -/
namespace Bow
open Go Go.Proofs

set_option maxRecDepth 100000 in
theorem vt_path {n : Nat} {vs : List V} (h : VT Try.prog n 27 vs) : ∃ l : List Int, vs = [pathV l] ∧ l.length ≤ maxLen ∧ ∀ i ∈ l, (Lit.int .i64 i).wf = true := by
  cases n with
  | zero => exact h.elim
  | succ n =>
    obtain ⟨xs, e, hl, hx⟩ : ∃ xs : List (List V), vs = [.sl 1 (xs.map (mkX Try.prog 3))] ∧ xs.length ≤ maxLen ∧ ∀ x ∈ xs, VT Try.prog n 3 x := h
    have key : ∀ xs : List (List V), (∀ x ∈ xs, VT Try.prog n 3 x) → ∃ l : List Int, xs.map (mkX Try.prog 3) = l.map intV ∧ ∀ i ∈ l, (Lit.int .i64 i).wf = true := by
      intro xs
      induction xs with
      | nil => intro _; exact ⟨[], rfl, by simp⟩
      | cons x xs ih =>
        intro hx
        obtain ⟨i, rfl, hw⟩ := vt_int (hx x List.mem_cons_self)
        obtain ⟨l, e, hl⟩ := ih fun z hz => hx z (List.mem_cons_of_mem _ hz)
        refine ⟨i :: l, by simp only [List.map_cons, e]; rfl, fun j hj => ?_⟩
        rcases List.mem_cons.1 hj with rfl | hj
        · exact hw
        · exact hl j hj
    obtain ⟨l, e1, e2⟩ := key xs hx
    refine ⟨l, by rw [e, e1]; rfl, ?_, e2⟩
    have := congrArg List.length e1
    simp at this
    omega
set_option maxRecDepth 100000 in
theorem vt_piece {n : Nat} {vs : List V} (h : VT Try.prog n 41 vs) : ∃ p, vs = (pieceV p).cells := by
  cases n with
  | zero => exact h.elim
  | succ n =>
    obtain ⟨h0, h1, h2, h3⟩ : VT Try.prog n 3 (vs.take 1) ∧ VT Try.prog n 3 ((vs.drop 1).take 1) ∧ VT Try.prog n 9 (((vs.drop 1).drop 1).take 1) ∧ ((vs.drop 1).drop 1).drop 1 = [] := h
    obtain ⟨a, e0, _⟩ := vt_int h0
    obtain ⟨b, e1, _⟩ := vt_int h1
    obtain ⟨s, e2⟩ := vt_str h2
    obtain ⟨r, rfl, d0⟩ := take1 e0
    rw [d0] at e1 e2 h3
    obtain ⟨r1, rfl, d1⟩ := take1 e1
    rw [d1] at e2 h3
    obtain ⟨r2, rfl, d2⟩ := take1 e2
    rw [d2] at h3
    subst h3
    exact ⟨⟨a, b, s⟩, rfl⟩
set_option maxRecDepth 100000 in
theorem vt_pieces {n : Nat} {vs : List V} (h : VT Try.prog n 28 vs) : ∃ l : List PieceT, vs = [piecesV l] := by
  cases n with
  | zero => exact h.elim
  | succ n =>
    obtain ⟨xs, e, _, hx⟩ : ∃ xs : List (List V), vs = [.sl 3 (xs.map (mkX Try.prog 41))] ∧ xs.length ≤ maxLen ∧ ∀ x ∈ xs, VT Try.prog n 41 x := h
    obtain ⟨l, hl⟩ := map_exists (f := mkX Try.prog 41) (g := pieceV) (xs := xs) fun x hm => by
      obtain ⟨a, rfl⟩ := vt_piece (hx x hm)
      exact ⟨a, rfl⟩
    exact ⟨l, by rw [e, hl]; rfl⟩

set_option maxRecDepth 100000 in
theorem vt_op {n : Nat} {vs : List V} (h : VT Try.prog n 30 vs) : ∃ o, vs = (opV o).cells := by
  cases n with
  | zero => exact h.elim
  | succ n =>
    obtain ⟨h0, h⟩ : VT Try.prog n 5 (vs.take 1) ∧ _ := h
    obtain ⟨a0, e0⟩ := vt_u8 h0
    obtain ⟨r, rfl, d0⟩ := take1 e0
    obtain ⟨h1, h⟩ : VT Try.prog n 27 (r.take 1) ∧ _ := h
    obtain ⟨a1, e1, _⟩ := vt_path h1
    obtain ⟨r, rfl, d0⟩ := take1 e1
    obtain ⟨h2, h⟩ : VT Try.prog n 3 (r.take 1) ∧ _ := h
    obtain ⟨a2, e2, _⟩ := vt_int h2
    obtain ⟨r, rfl, d0⟩ := take1 e2
    obtain ⟨h3, h⟩ : VT Try.prog n 27 (r.take 1) ∧ _ := h
    obtain ⟨a3, e3, _⟩ := vt_path h3
    obtain ⟨r, rfl, d0⟩ := take1 e3
    obtain ⟨h4, h⟩ : VT Try.prog n 22 (r.take 1) ∧ _ := h
    obtain ⟨a4, e4⟩ := vt_u64 h4
    obtain ⟨r, rfl, d0⟩ := take1 e4
    obtain ⟨h5, h⟩ : VT Try.prog n 4 (r.take 1) ∧ _ := h
    obtain ⟨a5, e5⟩ := vt_bool h5
    obtain ⟨r, rfl, d0⟩ := take1 e5
    obtain ⟨h6, h⟩ : VT Try.prog n 9 (r.take 1) ∧ _ := h
    obtain ⟨a6, e6⟩ := vt_str h6
    obtain ⟨r, rfl, d0⟩ := take1 e6
    obtain ⟨h7, h⟩ : VT Try.prog n 9 (r.take 1) ∧ _ := h
    obtain ⟨a7, e7⟩ := vt_str h7
    obtain ⟨r, rfl, d0⟩ := take1 e7
    obtain ⟨h8, h⟩ : VT Try.prog n 9 (r.take 1) ∧ _ := h
    obtain ⟨a8, e8⟩ := vt_str h8
    obtain ⟨r, rfl, d0⟩ := take1 e8
    obtain ⟨h9, h⟩ : VT Try.prog n 4 (r.take 1) ∧ _ := h
    obtain ⟨a9, e9⟩ := vt_bool h9
    obtain ⟨r, rfl, d0⟩ := take1 e9
    obtain ⟨h10, h⟩ : VT Try.prog n 28 (r.take 1) ∧ _ := h
    obtain ⟨a10, e10⟩ := vt_pieces h10
    obtain ⟨r, rfl, d0⟩ := take1 e10
    have h : r = [] := h
    subst h
    exact ⟨⟨a0, a1, a2, a3, a4, a5, a6, a7, a8, a9, a10⟩, rfl⟩
set_option maxRecDepth 100000 in
theorem vt_ops {n : Nat} {vs : List V} (h : VT Try.prog n 45 vs) : ∃ l : List OpT, vs = [.sl 11 (l.map opV)] ∧ l.length ≤ maxLen := by
  cases n with
  | zero => exact h.elim
  | succ n =>
    obtain ⟨xs, e, hl, hx⟩ : ∃ xs : List (List V), vs = [.sl 11 (xs.map (mkX Try.prog 30))] ∧ xs.length ≤ maxLen ∧ ∀ x ∈ xs, VT Try.prog n 30 x := h
    obtain ⟨l, e1⟩ := map_exists (f := mkX Try.prog 30) (g := opV) (xs := xs) fun x hm => by
      obtain ⟨a, rfl⟩ := vt_op (hx x hm)
      exact ⟨a, rfl⟩
    refine ⟨l, by rw [e, e1], ?_⟩
    have := congrArg List.length e1
    simp at this
    omega

set_option maxRecDepth 100000 in
/-- A list of operations that is handed over. -/
theorem ops_arg {H : Type} {enc : TypeId × Value → H} {w : World} {r : Reach} {base b0 : Nat} {sp : Nat → Bool} {held : Bool} {v : Value} {d : DataW H} {p : List MemPlace} (ho : Value.okWide Try.prog w r b0 45 v) (h : DataW.Trod enc Try.prog w base sp held 45 v d p) :
    ∃ l : List OpT, Rep w β0 [] (.sl 11 (l.map opV)) v ∧ l.length ≤ maxLen := by
  obtain ⟨a, len, cap, rfl⟩ := WideShapes.okWide_slice Try.underlying45 ho
  obtain ⟨fuel, hf⟩ := h
  obtain ⟨vs, h1, _, h3⟩ := read_data (G := [45, 30, 27, 28, 41, 3, 9, 22, 5, 4]) (by kernel_rfl) fuel _ _ _ (by kernel_rfl) hf
  obtain ⟨l, rfl, hl⟩ := vt_ops h3
  exact ⟨l, h1.2 0 _ _ rfl rfl, hl⟩
end Bow
