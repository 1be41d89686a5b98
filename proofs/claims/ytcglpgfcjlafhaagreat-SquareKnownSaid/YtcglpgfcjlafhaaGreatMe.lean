/- The library, part 5: W50, W51, W52, W53, W54, W55, W56, W57, W58, W59, W60, SP20, W48, W61, W62, W63, W64, W65, W66, W68, W69, AE43, AE44. -/
import Derived.Test.YtcglpgfcjlafhaaGreatMd
import Derived.Test.YtcglpgfcjlafhaaGreatMc
/- W50: where a node is behind an operation: shift.Node. -/
namespace Bow
open Go Go.Proofs

/-- What Node hands back: nil; or own memory, ahead of it the boxes that it made. -/
def NodeS (o : OpT) (q : List Int) (x : V) (T : Heap) : Prop :=
  (q = [] ∧ x = .tup [.nilsl, .tt] ∧ T = [some (.box (opV o).cells)]) ∨ (∃ g, x = .tup [.osl (.loc 1) g 0 q.length, .tt] ∧ T = [some (.box (opV o).cells), some (.vec g 1 (q.map intV))])
def NodeM (o : OpT) (q : List Int) (x : V) (T : Heap) : Prop :=
  ∃ g, x = .tup [.osl (.loc 2) g 0 q.length, .tt] ∧ T = [some (.box (opV o).cells), some (.box (chgV (chgO o)).cells), some (.vec g 1 (q.map intV))]
theorem nums_snoc (c : Chg) : ∀ (p q : List Int) (k : Int), c.nums q (p ++ [k]) = c.nums q p ++ [c.number (q ++ p) k]
  | [], q, k => by simp [Chg.nums]
  | x :: p, q, k => by
    rw [List.cons_append, Chg.nums, nums_snoc c p, Chg.nums]
    simp
theorem nums_len (c : Chg) : ∀ (p q : List Int), (c.nums q p).length = p.length
  | [], _ => rfl
  | x :: p, q => by rw [Chg.nums, List.length_cons, nums_len c p, List.length_cons]
theorem nums_take (c : Chg) {p : List Int} {i : Nat} (h : i < p.length) : c.nums [] (p.take (i + 1)) = c.nums [] (p.take i) ++ [c.number (p.take i) p[i]] := by
  rw [List.take_succ_eq_append_getElem h, nums_snoc]
  simp

set_option maxRecDepth 100000 in
/-- Where nothing moves. -/
theorem w_NodeStay (o : OpT) (p : List Int) (ho : o.Ok) (hp : p.length ≤ 1000000) (hm : movesO o = false) :
    Fun Tryz.prog 82 [] [opV o, pathV p] (NodeS o p) := by
  refine fun_fn 300 Tryz.func82 rfl rfl rfl fun imps B hi => ?_
  have : imps = [] := List.length_eq_zero_iff.1 hi
  subst this
  show CallThen _ _ _ _ _ _
  refine call_pure (w_moves o ho) rfl ?_
  rintro x rfl
  refine ⟨fun g1 => go 300 ?_, fun g1 => absurd hm (by simpa using g1)⟩
  show CallThen _ _ _ _ _ _
  refine call_sub [] (w_CloneInt (p.map intV) (by simpa using hp)) rfl rfl trivial rfl rfl rfl ?_
  rintro x T1 (⟨e, rfl, rfl⟩ | ⟨rfl, rfl⟩)
  · refine ⟨rfl, ?_⟩
    refine ⟨trivial, rfl, rfl, .inl ⟨by simpa using e, rfl, rfl⟩⟩
  · refine ⟨rfl, ?_⟩
    refine ⟨trivial, rfl, rfl, .inr ⟨2, by simp [resV]; rfl, rfl⟩⟩

set_option maxHeartbeats 2000000 in
set_option maxRecDepth 100000 in
/-- Of a node that is not taken. -/
theorem w_Node0 (o : OpT) (p : List Int) (ho : o.Ok) (hp : p.length ≤ 1000000) (hpb : ∀ i ∈ p, 0 ≤ i ∧ i ≤ 1048576) (hm : movesO o = true) (hb : ((chgO o).takes && within o.path p) = false) :
    Fun Tryz.prog 82 [] [opV o, pathV p] (NodeM o ((chgO o).nums [] p)) := by
  refine fun_fn 300 Tryz.func82 rfl rfl rfl fun imps B hi => ?_
  have : imps = [] := List.length_eq_zero_iff.1 hi
  subst this
  show CallThen _ _ _ _ _ _
  refine call_pure (w_moves o ho) rfl ?_
  rintro x rfl
  refine ⟨fun g1 => absurd hm (by simpa using g1), fun g1 => go 300 ?_⟩
  have hne : o.kind ≠ 1 → o.path ≠ [] := moves_ne hm
  unfold NodeM
  show CallThen _ _ _ _ _ _
  refine call_pure (w_chgOf o ho hne) rfl ?_
  rintro x rfl
  obtain ⟨c, hc⟩ : ∃ c, chgO o = c := ⟨_, rfl⟩
  rw [hc] at hb ⊢
  rcases Bool.eq_false_or_eq_true c.takes with ht | ht
  · rw [ht, Bool.true_and] at hb
    refine ⟨fun _ => go 300 ?_, fun q => absurd (ht.symm.trans q) (by decide)⟩
    show CallThen _ _ _ _ _ _
    refine call_pure (w_pathWithin o.path p ho.lt.path) rfl ?_
    rintro x rfl
    refine ⟨fun q => absurd (hb.symm.trans q) (by decide), fun _ => go 300 ?_⟩
    show Goes _ _ _ _
    refine goes_own 7 1 rfl ?_
    refine goes_while (ι := Nat × Nat × Nat × List V) (κ := Nat × Nat × List V) (fun i => i.1 ≤ p.length ∧ i.2.2.2 = (c.nums [] (p.take i.1)).map intV ∧ i.2.2.1 = i.1) (fun i => p.length - i.1)
      (fun i => [(9, .int .i64 i.1), (8, .int .i64 0), (7, .osl (.loc 2) i.2.1 0 i.2.2.1), (6, .ptr (.loc 1) 0), (1, pathV p), (2, .ptr (.loc 0) 0)]) (fun i => [some (.box (opV o).cells), some (.box (chgV c).cells), some (.vec i.2.1 1 i.2.2.2)]) (0, 0, 0, [])
      (fun k => k.2.1 = p.length ∧ k.2.2 = (c.nums [] p).map intV) (fun k => [(7, .osl (.loc 2) k.1 0 k.2.1)]) (fun k => [some (.box (opV o).cells), some (.box (chgV c).cells), some (.vec k.1 1 k.2.2)]) 300 (fun _ => rfl) (fun _ => rfl) (fun _ => rfl) (fun _ => rfl) ⟨⟨Nat.zero_le _, rfl, rfl⟩, ⟨⟨rfl, rfl⟩, ⟨rfl, rfl⟩, ⟨rfl, rfl⟩, ⟨rfl, rfl⟩, ⟨rfl, rfl⟩, ⟨rfl, rfl⟩, trivial⟩, ⟨⟨rfl, rfl⟩, ⟨rfl, rfl⟩, ⟨rfl, rfl⟩, trivial⟩⟩ ?_ ?_
    · rintro ⟨g, n, xs⟩ ⟨j1, j2⟩
      simp only at j1 j2
      subst j1 j2
      refine ⟨trivial, rfl, rfl, g, ?_, rfl⟩
      simp [resV, nums_len]
    · rintro ⟨i, g, n, xs⟩ ⟨j1, j2, j3⟩ next post
      simp only at j1 j2 j3
      subst j2
      replace j3 := j3.symm
      subst j3
      refine ⟨fun hlt => go 300 ?_, fun hge => go 300 ?_⟩
      · have hi : i < p.length := by simpa using hlt
        have hx : (p.map intV)[i]? = some (intV p[i]) := by simp [hi]
        have hbd := hpb _ (List.getElem_mem hi)
        have hnum := w_number c (p.take i) p[i] (by simp; omega) ⟨by omega, by omega⟩
        have et : V.sl 1 (((p.map intV).drop (Int.toNat 0)).take (((i : Nat) : Int).toNat - Int.toNat 0)) = pathV (p.take i) := by
          unfold pathV
          simp
        refine ⟨fun q => absurd (lt_of q) (by omega), fun _ => go 300 ?_⟩
        show Goes _ _ _ _
        refine goes_draw 300 ?_
        refine ⟨by decide, Int.natCast_nonneg i, Int.ofNat_le.2 (by simpa using j1), ?_⟩
        refine ⟨Int.natCast_nonneg i, _, hx, ?_⟩
        have hnum' := hnum
        rw [← et] at hnum'
        refine ⟨_, hnum', rfl, ?_⟩
        have hcl : (c.nums [] (p.take i)).length = i := by rw [nums_len]; simp; omega
        refine ⟨rfl, ⟨rfl, trivial⟩, ?_⟩
        refine ⟨rfl, rfl, rfl, rfl, by simp [hcl], room_of (by simp [hcl]; omega) (by decide), ?_⟩
        refine ⟨by kernel_rfl, ?_⟩
        try refine ⟨by kernel_rfl, ?_⟩
        refine ⟨⟨by omega, by omega⟩, ?_⟩
        refine next (i + 1, bump g, i + 1, (c.nums [] (p.take i)).map intV ++ [intV (c.number (p.take i) p[i])]) _ _ ⟨⟨hi, ?_, rfl⟩, ?_, ?_, ?_⟩
        · simp only
          rw [nums_take c hi, List.map_append]
          rfl
        · simp only; omega
        · refine ⟨⟨rfl, rfl⟩, ⟨rfl, rfl⟩, ⟨?_, rfl⟩, ⟨rfl, rfl⟩, ⟨rfl, rfl⟩, ⟨rfl, rfl⟩, trivial⟩
          simp [hcl]
          rfl
        · refine ⟨⟨rfl, rfl⟩, ⟨rfl, rfl⟩, ⟨?_, rfl⟩, trivial⟩
          rfl
      · have hi : i = p.length := by have : p.length ≤ i := by simpa using hge
                                     omega
        subst hi
        rw [List.take_length]
        exact post (g, _, _) _ _ _ rfl ⟨⟨rfl, rfl⟩, ⟨⟨rfl, rfl⟩, trivial⟩, ⟨⟨rfl, rfl⟩, ⟨rfl, rfl⟩, ⟨rfl, rfl⟩, trivial⟩⟩
  · refine ⟨fun q => absurd (ht.symm.trans q) (by decide), fun _ => go 300 ?_⟩
    show Goes _ _ _ _
    refine goes_own 7 1 rfl ?_
    refine goes_while (ι := Nat × Nat × Nat × List V) (κ := Nat × Nat × List V) (fun i => i.1 ≤ p.length ∧ i.2.2.2 = (c.nums [] (p.take i.1)).map intV ∧ i.2.2.1 = i.1) (fun i => p.length - i.1)
      (fun i => [(9, .int .i64 i.1), (8, .int .i64 0), (7, .osl (.loc 2) i.2.1 0 i.2.2.1), (6, .ptr (.loc 1) 0), (1, pathV p), (2, .ptr (.loc 0) 0)]) (fun i => [some (.box (opV o).cells), some (.box (chgV c).cells), some (.vec i.2.1 1 i.2.2.2)]) (0, 0, 0, [])
      (fun k => k.2.1 = p.length ∧ k.2.2 = (c.nums [] p).map intV) (fun k => [(7, .osl (.loc 2) k.1 0 k.2.1)]) (fun k => [some (.box (opV o).cells), some (.box (chgV c).cells), some (.vec k.1 1 k.2.2)]) 300 (fun _ => rfl) (fun _ => rfl) (fun _ => rfl) (fun _ => rfl) ⟨⟨Nat.zero_le _, rfl, rfl⟩, ⟨⟨rfl, rfl⟩, ⟨rfl, rfl⟩, ⟨rfl, rfl⟩, ⟨rfl, rfl⟩, ⟨rfl, rfl⟩, ⟨rfl, rfl⟩, trivial⟩, ⟨⟨rfl, rfl⟩, ⟨rfl, rfl⟩, ⟨rfl, rfl⟩, trivial⟩⟩ ?_ ?_
    · rintro ⟨g, n, xs⟩ ⟨j1, j2⟩
      simp only at j1 j2
      subst j1 j2
      refine ⟨trivial, rfl, rfl, g, ?_, rfl⟩
      simp [resV, nums_len]
    · rintro ⟨i, g, n, xs⟩ ⟨j1, j2, j3⟩ next post
      simp only at j1 j2 j3
      subst j2
      replace j3 := j3.symm
      subst j3
      refine ⟨fun hlt => go 300 ?_, fun hge => go 300 ?_⟩
      · have hi : i < p.length := by simpa using hlt
        have hx : (p.map intV)[i]? = some (intV p[i]) := by simp [hi]
        have hbd := hpb _ (List.getElem_mem hi)
        have hnum := w_number c (p.take i) p[i] (by simp; omega) ⟨by omega, by omega⟩
        have et : V.sl 1 (((p.map intV).drop (Int.toNat 0)).take (((i : Nat) : Int).toNat - Int.toNat 0)) = pathV (p.take i) := by
          unfold pathV
          simp
        refine ⟨fun q => absurd (lt_of q) (by omega), fun _ => go 300 ?_⟩
        show Goes _ _ _ _
        refine goes_draw 300 ?_
        refine ⟨by decide, Int.natCast_nonneg i, Int.ofNat_le.2 (by simpa using j1), ?_⟩
        refine ⟨Int.natCast_nonneg i, _, hx, ?_⟩
        have hnum' := hnum
        rw [← et] at hnum'
        refine ⟨_, hnum', rfl, ?_⟩
        have hcl : (c.nums [] (p.take i)).length = i := by rw [nums_len]; simp; omega
        refine ⟨rfl, ⟨rfl, trivial⟩, ?_⟩
        refine ⟨rfl, rfl, rfl, rfl, by simp [hcl], room_of (by simp [hcl]; omega) (by decide), ?_⟩
        refine ⟨by kernel_rfl, ?_⟩
        try refine ⟨by kernel_rfl, ?_⟩
        refine ⟨⟨by omega, by omega⟩, ?_⟩
        refine next (i + 1, bump g, i + 1, (c.nums [] (p.take i)).map intV ++ [intV (c.number (p.take i) p[i])]) _ _ ⟨⟨hi, ?_, rfl⟩, ?_, ?_, ?_⟩
        · simp only
          rw [nums_take c hi, List.map_append]
          rfl
        · simp only; omega
        · refine ⟨⟨rfl, rfl⟩, ⟨rfl, rfl⟩, ⟨?_, rfl⟩, ⟨rfl, rfl⟩, ⟨rfl, rfl⟩, ⟨rfl, rfl⟩, trivial⟩
          simp [hcl]
          rfl
        · refine ⟨⟨rfl, rfl⟩, ⟨rfl, rfl⟩, ⟨?_, rfl⟩, trivial⟩
          rfl
      · have hi : i = p.length := by have : p.length ≤ i := by simpa using hge
                                     omega
        subst hi
        rw [List.take_length]
        exact post (g, _, _) _ _ _ rfl ⟨⟨rfl, rfl⟩, ⟨⟨rfl, rfl⟩, trivial⟩, ⟨⟨rfl, rfl⟩, ⟨rfl, rfl⟩, ⟨rfl, rfl⟩, trivial⟩⟩
end Bow
/- W51: shift.Node, all; Gap; Undo. -/
namespace Bow
open Go Go.Proofs

theorem moves_parts {o : OpT} (h : movesO o = true) : formedB o = true ∧ (o.kind = 1 ∨ (o.kind = 2 ∧ o.path ≠ []) ∨ (o.kind = 3 ∧ o.path ≠ [] ∧ within o.path o.to = false)) := by
  have hne := moves_ne h
  unfold movesO at h
  rw [Bool.and_eq_true] at h
  refine ⟨h.1, ?_⟩
  have h2 := h.2
  by_cases k1 : o.kind = 1
  · exact .inl k1
  · by_cases k2 : o.kind = 2
    · exact .inr (.inl ⟨k2, hne k1⟩)
    · rw [decide_eq_false k1, decide_eq_false k2] at h2
      by_cases k3 : o.kind = 3
      · rw [decide_eq_true k3] at h2
        simp only [cond_false, cond_true, Bool.and_eq_true, Bool.not_eq_true'] at h2
        exact .inr (.inr ⟨k3, hne k1, h2.2⟩)
      · rw [decide_eq_false k3] at h2
        cases h2
theorem may_len {p : List Int} (h : mayP p = true) : p.length ≤ 64 := by
  unfold mayP at h
  rw [Bool.and_eq_true] at h
  exact of_decide_eq_true h.1
theorem formed_gap {o : OpT} (hf : formedB o = true) (hk : o.kind = 1 ∨ o.kind = 3) : 0 ≤ o.at_ ∧ o.at_ ≤ 1048576 := by
  unfold formedB at hf
  rw [Bool.and_eq_true] at hf
  have hf2 := hf.2
  rcases hk with hk | hk
  · simp only [hk] at hf2
    have hf3 : (gapOk o.at_ && decide ((o.label.length : Int) ≤ 64)) = true := hf2
    unfold gapOk at hf3
    simp only [Bool.and_eq_true, decide_eq_true_eq] at hf3
    exact hf3.1
  · simp only [hk] at hf2
    have hf3 : (gapOk o.at_ && mayP o.to) = true := hf2
    unfold gapOk at hf3
    simp only [Bool.and_eq_true, decide_eq_true_eq] at hf3
    exact hf3.1

def nodeRV : Option (List Int) → V
  | none => .tup [pathV [], .ff]
  | some q => .tup [pathV q, .tt]

set_option maxHeartbeats 4000000 in
set_option maxRecDepth 100000 in
/-- Of a node that is taken. -/
theorem w_NodeT (o : OpT) (p : List Int) (ho : o.Ok) (hp : p.length ≤ 1000) (_hpb : ∀ i ∈ p, 0 ≤ i ∧ i ≤ 1048576) (hm : movesO o = true) (hb : ((chgO o).takes && within o.path p) = true) :
    Pure Tryz.prog 82 [opV o, pathV p] (fun x => x = nodeRV (nodeP o p)) := by
  simp only [Bool.and_eq_true] at hb
  obtain ⟨ht, hwi⟩ := hb
  obtain ⟨hf, hkk⟩ := moves_parts hm
  have hpl := may_step (formed_path hf)
  have hwl := within_len hwi
  refine pure_wk (pure_fn 300 Tryz.func82 rfl rfl rfl fun B => ?_)
  show CallThen _ _ _ _ _ _
  refine call_pure (w_moves o ho) rfl ?_
  rintro x rfl
  refine ⟨fun g1 => absurd hm (by simpa using g1), fun g1 => go 300 ?_⟩
  show CallThen _ _ _ _ _ _
  refine call_pure (w_chgOf o ho (moves_ne hm)) rfl ?_
  rintro x rfl
  refine ⟨fun _ => go 300 ?_, fun q => absurd (ht.symm.trans q) (by decide)⟩
  show CallThen _ _ _ _ _ _
  refine call_pure (w_pathWithin o.path p ho.lt.path) rfl ?_
  rintro x rfl
  refine ⟨fun _ => go 300 ?_, fun q => absurd (hwi.symm.trans q) (by decide)⟩
  rcases Bool.eq_false_or_eq_true (chgO o).puts with hq | hq
  case inr =>
    have e : nodeP o p = none := by unfold nodeP; rw [hm, ht, hwi, hq]; rfl
    rw [e]
    refine ⟨fun _ => go 300 ?_, fun q => absurd q (by rw [hq]; simp)⟩
    exact ⟨trivial, rfl, rfl, rfl, nodeRV none, Wk.tup ⟨Wk.nil 1, .refl _, trivial⟩, rfl, rfl⟩
  have e : nodeP o p = some ((chgO o).nums [] o.to ++ [(chgO o).land] ++ p.drop o.path.length) := by unfold nodeP; rw [hm, ht, hwi, hq]; rfl
  rw [e]
  refine ⟨fun q => absurd q (by rw [hq]; simp), fun _ => go 300 ?_⟩
  have hk3 : o.kind = 3 ∧ o.path ≠ [] ∧ within o.path o.to = false := by
    rcases hkk with k | ⟨k, _⟩ | h
    · unfold chgO at ht; simp [k] at ht
    · unfold chgO at hq; simp [k] at hq
    · exact h
  obtain ⟨hk3, hne, hwt⟩ := hk3
  have htl := may_step (good_to hf hk3)
  have htn : o.to.length ≤ 64 := may_len (good_to hf hk3)
  have hgap := formed_gap hf (.inr hk3)
  have hrec := w_Node0 o o.to ho (by omega) htl hm (by rw [hwt]; simp)
  have hpos : 0 < o.path.length := List.length_pos_iff.2 hne
  have hcf : (chgO o).frm.length ≤ 1000000 := by unfold chgO; simp [hk3]; have := ho.lt.path; omega
  have hcg : (chgO o).gap = o.at_ := rfl
  have hland := w_land (chgO o) hcf ⟨by rw [hcg]; omega, by rw [hcg]; omega⟩
  unfold NodeM at hrec
  obtain ⟨c, hc⟩ : ∃ c, chgO o = c := ⟨_, rfl⟩
  rw [hc] at hrec hland ⊢
  show CallThen _ _ _ _ _ _
  refine call_sub [] hrec rfl rfl trivial rfl rfl rfl ?_
  rintro x T1 ⟨G, rfl, rfl⟩
  refine ⟨rfl, ?_⟩
  show CallThen _ _ _ _ _ _
  refine call_pure hland rfl ?_
  rintro x rfl
  refine ⟨⟨rfl, trivial⟩, rfl, rfl, rfl, by simp, room_of (by simp [nums_len]; omega) (by decide), ?_⟩
  show Goes _ _ _ _
  refine goes_while (ι := Nat × Nat × Nat × List V) (κ := Nat × Nat × List V) (fun i => o.path.length ≤ i.1 ∧ i.1 ≤ p.length ∧ ∃ acc : List Int, i.2.2.2 = acc.map intV ∧ i.2.2.1 = acc.length ∧ acc.length ≤ 1000 + i.1 ∧ acc ++ p.drop i.1 = c.nums [] o.to ++ [c.land] ++ p.drop o.path.length) (fun i => p.length - i.1)
    (fun i => [(9, .int .i64 i.1), (8, .int .i64 (o.path.map intV).length), (7, .osl (.loc 4) i.2.1 0 i.2.2.1), (6, .ptr (.loc 1) 0), (1, pathV p), (2, .ptr (.loc 0) 0)]) (fun i => [some (.box (opV o).cells), some (.box (chgV c).cells), some (.box (opV o).cells), some (.box (chgV c).cells), some (.vec i.2.1 1 i.2.2.2)]) ((o.path.map intV).length, bump G, _, _)
    (fun k => ∃ acc : List Int, k.2.2 = acc.map intV ∧ k.2.1 = acc.length ∧ acc = c.nums [] o.to ++ [c.land] ++ p.drop o.path.length) (fun k => [(7, .osl (.loc 4) k.1 0 k.2.1)]) (fun k => [some (.box (opV o).cells), some (.box (chgV c).cells), some (.box (opV o).cells), some (.box (chgV c).cells), some (.vec k.1 1 k.2.2)]) 300 (fun _ => rfl) (fun _ => rfl) (fun _ => rfl) (fun _ => rfl) ⟨⟨by simp, by simpa using hwl, c.nums [] o.to ++ [c.land], by simp [intV], by simp, by simp [nums_len]; omega, by simp⟩, ⟨⟨rfl, rfl⟩, ⟨rfl, rfl⟩, ⟨rfl, rfl⟩, ⟨rfl, rfl⟩, ⟨rfl, rfl⟩, ⟨rfl, rfl⟩, trivial⟩, ⟨⟨rfl, rfl⟩, ⟨rfl, rfl⟩, ⟨rfl, rfl⟩, ⟨rfl, rfl⟩, ⟨rfl, rfl⟩, trivial⟩⟩ ?_ ?_
  · rintro ⟨g, n, xs⟩ ⟨acc, h1, h2, h3⟩
    simp only at h1 h2 h3
    subst h1 h2 h3
    exact ⟨trivial, rfl, rfl, rfl, by simp, rfl, nodeRV (some _), Wk.refl _, rfl, rfl⟩
  · rintro ⟨i, g, n, xs⟩ ⟨j0, j1, acc, j4, j5, j2, j3⟩ next post
    simp only at j0 j1 j2 j3 j4 j5
    subst j4
    subst j5
    refine ⟨fun hlt => go 300 ?_, fun hge => go 300 ?_⟩
    · have hi : i < p.length := by simpa using hlt
      have hx : (p.map intV)[i]? = some (intV p[i]) := by simp [hi]
      rw [List.drop_eq_getElem_cons hi] at j3
      refine ⟨fun _ => go 300 ?_, fun q => absurd (not_lt_of q) (by simp; omega)⟩
      refine ⟨Int.natCast_nonneg i, _, hx, ⟨rfl, trivial⟩, rfl, rfl, rfl, by simp, room_of (by simp; omega) (by decide), ?_⟩
      refine ⟨by constructor <;> omega, ?_⟩
      show Goes _ _ _ _
      refine next (i + 1, bump g, _, _) _ _ ⟨⟨by simp only; omega, hi, acc ++ [p[i]], ?_, ?_, ?_, ?_⟩, ?_, ⟨⟨rfl, rfl⟩, ⟨rfl, rfl⟩, ⟨rfl, rfl⟩, ⟨rfl, rfl⟩, ⟨rfl, rfl⟩, ⟨rfl, rfl⟩, trivial⟩, ⟨⟨rfl, rfl⟩, ⟨rfl, rfl⟩, ⟨rfl, rfl⟩, ⟨rfl, rfl⟩, ⟨rfl, rfl⟩, trivial⟩⟩
      · simp [intV]
      · simp
      · simp; omega
      · rw [← j3]; simp
      · simp only; omega
    · have hi : i = p.length := by have : p.length ≤ i := by simpa using hge
                                   omega
      subst hi
      rw [List.drop_length, List.append_nil] at j3
      exact post (g, _, _) _ _ _ rfl ⟨⟨acc, rfl, rfl, j3⟩, ⟨⟨rfl, rfl⟩, trivial⟩, ⟨⟨rfl, rfl⟩, ⟨rfl, rfl⟩, ⟨rfl, rfl⟩, ⟨rfl, rfl⟩, ⟨rfl, rfl⟩, trivial⟩⟩

theorem w_Node (o : OpT) (p : List Int) (ho : o.Ok) (hp : p.length ≤ 1000) (hpb : ∀ i ∈ p, 0 ≤ i ∧ i ≤ 1048576) : Pure Tryz.prog 82 [opV o, pathV p] (fun x => x = nodeRV (nodeP o p)) := by
  rcases Bool.eq_false_or_eq_true (movesO o) with hm | hm
  · rcases Bool.eq_false_or_eq_true ((chgO o).takes && within o.path p) with hb | hb
    · exact w_NodeT o p ho hp hpb hm hb
    · have e : nodeP o p = some ((chgO o).nums [] p) := by unfold nodeP; simp only [hm, hb]; rfl
      rw [e]
      refine pure_wk (pure_of_fun (Fun.mono (w_Node0 o p ho (by omega) hpb hm hb) fun x T h => ?_))
      obtain ⟨g, rfl, rfl⟩ := h
      exact ⟨rfl, by simp, rfl, nodeRV (some _), Wk.refl _, rfl, rfl⟩
  · have e : nodeP o p = some p := by unfold nodeP; rw [hm]; rfl
    rw [e]
    refine pure_wk (pure_of_fun (Fun.mono (w_NodeStay o p ho (by omega) hm) fun x T h => ?_))
    rcases h with ⟨rfl, rfl, rfl⟩ | ⟨g, rfl, rfl⟩
    · exact ⟨rfl, nodeRV (some []), Wk.tup ⟨Wk.nil 1, .refl _, trivial⟩, rfl, rfl⟩
    · exact ⟨rfl, by simp, rfl, nodeRV (some _), Wk.refl _, rfl, rfl⟩
end Bow
/- W52: shift.Gap, Undo; square.sound, drop, shifted, won. -/
namespace Bow
open Go Go.Proofs

def gapV (r : List Int × Int × Bool) : V := .tup [pathV r.1, .int .i64 r.2.1, .bool r.2.2]
theorem gap_leaf {q : List Int} {n : Int} {r : List Int × Int × Bool} (h : r = (q, n, true)) : ∃ y, Wk (.tup [pathV q, .int .i64 n, .tt]) y ∧ y.pureB = true ∧ y = gapV r := by
  subst h
  exact ⟨gapV (q, n, true), Wk.tup ⟨.refl _, .refl _, Wk.tt, trivial⟩, rfl, rfl⟩

set_option maxHeartbeats 4000000 in
set_option maxRecDepth 100000 in
theorem w_Gap (a : OpT) (p : List Int) (at_ : Int) (first : Bool) (ho : a.Ok) (hp : p.length ≤ 1000) (hpb : ∀ i ∈ p, 0 ≤ i ∧ i ≤ 1048576) (hat : 0 ≤ at_ ∧ at_ ≤ 10000000) :
    Pure Tryz.prog 130 [opV a, pathV p, .int .i64 at_, .bool first] (fun x => x = gapV (gapP a p at_ first)) := by
  refine pure_wk (pure_fn 300 Tryz.func130 rfl rfl rfl fun B => ?_)
  show CallThen _ _ _ _ _ _
  refine call_pure (w_Node a p ho hp hpb) rfl ?_
  rintro x rfl
  have hmv := w_moves a ho
  cases hn : nodeP a p with
  | none =>
    have e : gapP a p at_ first = ([], 0, false) := by unfold gapP; rw [hn]
    rw [e]
    exact ⟨trivial, rfl, rfl, rfl, gapV ([], 0, false), Wk.tup ⟨.refl _, .refl _, Wk.ff, trivial⟩, rfl, rfl⟩
  | some q =>
    show CallThen _ _ _ _ _ _
    refine call_pure hmv rfl ?_
    rintro x rfl
    refine ⟨fun g1 => go 300 ?_, fun g1 => go 300 ?_⟩
    · have hm : movesO a = false := by simpa using g1
      refine ⟨trivial, rfl, rfl, rfl, gap_leaf ?_⟩
      unfold gapP
      rw [hn, hm]
      rfl
    have hm : movesO a = true := by simpa using g1
    show CallThen _ _ _ _ _ _
    refine call_pure (w_chgOf a ho (moves_ne hm)) rfl ?_
    rintro x rfl
    have e : gapP a p at_ first = (q, (bif (chgO a).takes && (decide ((chgO a).at_ < at_) && decide (p = (chgO a).frm)) then at_ - 1 else at_) + (bif (chgO a).puts && (decide (p = (chgO a).to) && (decide ((chgO a).gap < at_) || (decide (at_ = (chgO a).gap) && !first))) then 1 else 0), true) := by
      unfold gapP
      rw [hn, hm]
      rfl
    rw [e]
    obtain ⟨c, hc⟩ : ∃ c, chgO a = c := ⟨_, rfl⟩
    rw [hc]
    have h1 := w_pathSame p c.frm (by omega)
    have h2 := w_pathSame p c.to (by omega)
    repeat' first
      | (refine ⟨fun _ => go 300 ?_, fun _ => go 300 ?_⟩)
      | (show CallThen _ _ _ _ _ _; refine call_pure h1 rfl ?_; rintro z rfl)
      | (show CallThen _ _ _ _ _ _; refine call_pure h2 rfl ?_; rintro z rfl)
      | (refine ⟨trivial, rfl, rfl, rfl, gap_leaf ?_⟩)
      | (refine ⟨by constructor <;> omega, ?_⟩)
      | fail
    all_goals (clear hmv h1 h2 e; simp_all)
    all_goals ((try simp only [Bool.cond_decide]); (repeat' split) <;> first | omega | (simp_all; done) | skip)
    all_goals (first | (simp [show ¬ (c.at_ < at_) by omega]; done) | (simp [show ¬ (c.at_ < c.gap) by omega]; done) | (simp [show ¬ (c.at_ < at_) by omega, show ¬ (c.gap < at_) by omega]; done))

theorem wk_zeroOp : Wk (.agg [.int .u8 0, .nilsl, .int .i64 0, .nilsl, .int .u64 0, .ff, .str [], .str [], .str [], .ff, .nilsl]) (opV (noOp 0)) :=
  Wk.agg ⟨.refl _, Wk.nil 1, .refl _, Wk.nil 1, .refl _, Wk.ff, .refl _, .refl _, .refl _, Wk.ff, Wk.nil 3, trivial⟩

set_option maxRecDepth 100000 in
theorem w_sound (o : OpT) (ho : o.Ok) : Pure Tryz.prog 63 [opV o] (fun x => x = .bool (soundO o)) := by
  refine pure_wk (pure_fn 300 Tryz.func63 rfl rfl rfl fun B => ?_)
  show CallThen _ _ _ _ _ _
  refine call_pure (w_Formed o ho.lt ho.each) rfl ?_
  rintro x rfl
  have hW := w_pathWithin o.path o.to ho.lt.path
  repeat' first
    | (refine ⟨fun _ => go 300 ?_, fun _ => go 300 ?_⟩)
    | (show CallThen _ _ _ _ _ _; refine call_pure hW rfl ?_; rintro z rfl)
    | (refine ⟨trivial, rfl, rfl, rfl, leaf_tt ?_⟩)
    | (refine ⟨trivial, rfl, rfl, rfl, leaf_ff ?_⟩)
    | (refine ⟨trivial, rfl, rfl, rfl, leaf_b ?_⟩)
    | fail
  all_goals (unfold soundO; simp_all)

theorem w_drop (p : List Int) : Pure Tryz.prog 83 [pathV p] (fun x => x = opV (dropO p)) := by
  refine pure_wk (pure_fn 300 Tryz.func83 rfl rfl rfl fun B => ?_)
  exact ⟨trivial, rfl, rfl, rfl, opV (dropO p), Wk.agg ⟨.refl _, .refl _, .refl _, Wk.nil 1, .refl _, Wk.ff, .refl _, .refl _, .refl _, Wk.ff, Wk.nil 3, trivial⟩, rfl, rfl⟩

set_option maxRecDepth 100000 in
theorem w_won (b a : OpT) (ha : a.Ok) : Pure Tryz.prog 84 [opV b, opV a] (fun x => x = .bool (wonO b a)) := by
  refine pure_wk (pure_fn 300 Tryz.func84 rfl rfl rfl fun B => ?_)
  have h1 := w_pathSame a.path b.path ha.lt.path
  repeat' first
    | (refine ⟨fun _ => go 300 ?_, fun _ => go 300 ?_⟩)
    | (show CallThen _ _ _ _ _ _; refine call_pure h1 rfl ?_; rintro z rfl)
    | (refine ⟨trivial, rfl, rfl, rfl, leaf_tt ?_⟩)
    | (refine ⟨trivial, rfl, rfl, rfl, leaf_ff ?_⟩)
    | (refine ⟨trivial, rfl, rfl, rfl, leaf_b ?_⟩)
    | fail
  all_goals (unfold wonO; simp_all)

/-- The path behind, of a node that is there. -/
theorem nodeRV_get {r : Option (List Int)} : ∃ b : V, nodeRV r = .tup [pathV (r.getD []), b] ∧ (b = .tt ∨ b = .ff) := by
  cases r with
  | none => exact ⟨.ff, rfl, .inr rfl⟩
  | some q => exact ⟨.tt, rfl, .inl rfl⟩

set_option maxHeartbeats 4000000 in
set_option maxRecDepth 100000 in
theorem w_shifted (b a : OpT) (prior : Bool) (ha : a.Ok) (_hb : b.Ok) (hf : formedB b = true) :
    Pure Tryz.prog 87 [opV b, opV a, .bool prior] (fun x => x = opV (shiftedO b a prior)) := by
  have hpl := may_len (formed_path hf)
  have hps := may_step (formed_path hf)
  refine pure_fn 300 Tryz.func87 rfl rfl rfl fun B => ?_
  show CallThen _ _ _ _ _ _
  refine call_pure (w_Node a b.path ha (by omega) hps) rfl ?_
  rintro x rfl
  obtain ⟨v, e, hv⟩ := nodeRV_get (r := nodeP a b.path)
  rw [e]
  rcases hv with rfl | rfl
  all_goals
    refine ⟨fun g1 => go 300 ?_, fun g1 => go 300 ?_⟩
    · have hk : b.kind = 1 := eq_of g1
      have hg := formed_gap hf (.inl hk)
      show CallThen _ _ _ _ _ _
      refine call_pure (w_Gap a b.path b.at_ prior ha (by omega) hps ⟨by omega, by omega⟩) rfl ?_
      rintro x rfl
      refine ⟨trivial, rfl, rfl, rfl, ?_⟩
      unfold shiftedO
      rw [decide_eq_true hk]
      rfl
    have hk1 : b.kind ≠ 1 := ne_of g1
    refine ⟨fun g2 => go 300 ?_, fun g2 => go 300 ?_⟩
    · have hk : b.kind = 3 := eq_of g2
      have hg := formed_gap hf (.inr hk)
      have htl := may_len (good_to hf hk)
      have hts := may_step (good_to hf hk)
      show CallThen _ _ _ _ _ _
      refine call_pure (w_Gap a b.to b.at_ prior ha (by omega) hts ⟨by omega, by omega⟩) rfl ?_
      rintro x rfl
      refine ⟨trivial, rfl, rfl, rfl, ?_⟩
      unfold shiftedO
      rw [decide_eq_false hk1, decide_eq_true hk]
      rfl
    · have hk3 : b.kind ≠ 3 := ne_of g2
      refine ⟨trivial, rfl, rfl, rfl, ?_⟩
      unfold shiftedO
      rw [decide_eq_false hk1, decide_eq_false hk3]
      rfl

set_option maxHeartbeats 4000000 in
set_option maxRecDepth 100000 in
theorem w_UndoM (o : OpT) (ho : o.Ok) : Pure Tryz.prog 86 [opV o] (fun x => x = opV (undoO o)) := by
  refine pure_wk (pure_fn 300 Tryz.func86 rfl rfl rfl fun B => ?_)
  have z : undoO o = noOp 0 → ∃ y, Wk (.agg [.int .u8 0, .nilsl, .int .i64 0, .nilsl, .int .u64 0, .ff, .str [], .str [], .str [], .ff, .nilsl]) y ∧ y.pureB = true ∧ y = opV (undoO o) := fun h => ⟨opV (noOp 0), wk_zeroOp, rfl, by rw [h]⟩
  refine ⟨fun g1 => go 300 ?_, fun g1 => go 300 ?_⟩
  · have hk : o.kind ≠ 3 := ne_of' g1
    exact ⟨trivial, rfl, rfl, rfl, z (by unfold undoO; rw [decide_eq_false hk]; rfl)⟩
  have hk : o.kind = 3 := eq_of' g1
  show CallThen _ _ _ _ _ _
  refine call_pure (w_moves o ho) rfl ?_
  rintro x rfl
  refine ⟨fun g2 => go 300 ?_, fun g2 => go 300 ?_⟩
  · have hm : movesO o = false := by simpa using g2
    exact ⟨trivial, rfl, rfl, rfl, z (by unfold undoO; rw [hm]; simp)⟩
  have hm : movesO o = true := by simpa using g2
  obtain ⟨hf, hkk⟩ := moves_parts hm
  have hpl := may_len (formed_path hf)
  have hps := may_step (formed_path hf)
  have hfrm : (chgO o).frm = o.path.dropLast := by unfold chgO; simp [hk]
  have hfs : ∀ i ∈ (chgO o).frm, 0 ≤ i ∧ i ≤ 1048576 := fun i hi => hps i (by rw [hfrm] at hi; exact List.dropLast_subset _ hi)
  have hfl : (chgO o).frm.length ≤ 1000 := by rw [hfrm]; simp; omega
  have hgap := formed_gap hf (.inr hk)
  have hne := moves_ne hm (by rw [hk]; decide)
  have hat : 0 ≤ (chgO o).at_ ∧ (chgO o).at_ ≤ 1048576 := by
    have : (chgO o).at_ = lastP o.path := by unfold chgO; simp [hk]
    rw [this, ← lastP_eq hne]
    exact hps _ (List.getLast_mem hne)
  have hcg : (chgO o).gap = o.at_ := rfl
  have hland := w_land (chgO o) (by omega) ⟨by rw [hcg]; omega, by rw [hcg]; omega⟩
  show CallThen _ _ _ _ _ _
  refine call_pure (w_chgOf o ho (moves_ne hm)) rfl ?_
  rintro x rfl
  show CallThen _ _ _ _ _ _
  refine call_pure (w_Node o o.path ho (by omega) hps) rfl ?_
  rintro x rfl
  obtain ⟨v, e, hv⟩ := nodeRV_get (r := nodeP o o.path)
  rw [e]
  have fin : ∀ n : Int, n = (chgO o).at_ + (bif decide ((chgO o).frm = (chgO o).to) && decide ((chgO o).land < (chgO o).at_) then 1 else 0) →
      ∃ y, Wk (.agg [.int .u8 3, pathV ((nodeP o o.path).getD []), .int .i64 n, pathV ((nodeP o (chgO o).frm).getD []), .int .u64 0, .ff, .str [], .str [], .str [], .ff, .nilsl]) y ∧ y.pureB = true ∧ y = opV (undoO o) := fun n hn =>
    ⟨opV (undoO o), by
      have : undoO o = { noOp 3 with path := (nodeP o o.path).getD [], to := (nodeP o (chgO o).frm).getD [], at_ := n } := by unfold undoO; rw [decide_eq_true hk, hm, hn]; rfl
      rw [this]
      exact Wk.agg ⟨.refl _, .refl _, .refl _, .refl _, .refl _, Wk.ff, .refl _, .refl _, .refl _, Wk.ff, Wk.nil 3, trivial⟩, rfl, rfl⟩
  rcases hv with rfl | rfl
  all_goals
    show CallThen _ _ _ _ _ _
    refine call_pure (w_Node o (chgO o).frm ho hfl hfs) rfl ?_
    rintro x rfl
    obtain ⟨v2, e2, hv2⟩ := nodeRV_get (r := nodeP o (chgO o).frm)
    rw [e2]
    rcases hv2 with rfl | rfl
    all_goals
      show CallThen _ _ _ _ _ _
      refine call_pure (w_pathSame (chgO o).frm (chgO o).to (by omega)) rfl ?_
      rintro x rfl
      refine ⟨fun q1 => go 300 ?_, fun q1 => go 300 ?_⟩
      · show CallThen _ _ _ _ _ _
        refine call_pure hland rfl ?_
        rintro x rfl
        refine ⟨fun q2 => go 300 ?_, fun q2 => go 300 ?_⟩
        · refine ⟨by constructor <;> omega, ?_⟩
          exact ⟨trivial, rfl, rfl, rfl, fin _ (by rw [q1, q2]; rfl)⟩
        · exact ⟨trivial, rfl, rfl, rfl, fin _ (by rw [q1, q2]; simp)⟩
      · exact ⟨trivial, rfl, rfl, rfl, fin _ (by rw [q1]; simp)⟩
end Bow
/- W53: square.row (but for two edits), Behind, Both. -/
namespace Bow
open Go Go.Proofs

theorem nodeP_len (o : OpT) (p : List Int) : ((nodeP o p).getD []).length ≤ p.length + o.to.length + 1 := by
  unfold nodeP
  cases movesO o with
  | false => simp; omega
  | true =>
    cases (chgO o).takes && within o.path p with
    | false => simp [nums_len]; omega
    | true =>
      cases (chgO o).puts with
      | false => simp
      | true => simp [nums_len]; omega
theorem gapP_len (o : OpT) (p : List Int) (n : Int) (f : Bool) : (gapP o p n f).1.length ≤ p.length + o.to.length + 1 := by
  have h := nodeP_len o p
  unfold gapP
  cases hn : nodeP o p with
  | none => simp
  | some q =>
    rw [hn] at h
    simp only [Option.getD_some] at h
    cases movesO o <;> simpa using h
theorem drop_ok {p : List Int} (h : p.length ≤ 1000000) : (dropO p).Ok := ⟨⟨h, Nat.zero_le _, Nat.zero_le _, Nat.zero_le _, Nat.zero_le _, Nat.zero_le _⟩, Nat.zero_le _⟩
theorem shifted_ok {b a : OpT} {prior : Bool} (_ha : a.Ok) (hb : b.Ok) (hp : b.path.length ≤ 1000) (ht : b.to.length ≤ 1000) (hat : a.to.length ≤ 1000) : (shiftedO b a prior).Ok := by
  have h1 := nodeP_len a b.path
  have h2 := gapP_len a b.to b.at_ prior
  unfold shiftedO
  cases decide (b.kind = 1) with
  | true => exact ⟨⟨by show ((nodeP a b.path).getD []).length ≤ _; omega, hb.lt.to, hb.lt.label, hb.lt.key, hb.lt.value, hb.lt.pieces⟩, hb.puts⟩
  | false =>
    cases decide (b.kind = 3) with
    | true => exact ⟨⟨by show ((nodeP a b.path).getD []).length ≤ _; omega, by show (gapP a b.to b.at_ prior).1.length ≤ _; omega, hb.lt.label, hb.lt.key, hb.lt.value, hb.lt.pieces⟩, hb.puts⟩
    | false => exact ⟨⟨by show ((nodeP a b.path).getD []).length ≤ _; omega, hb.lt.to, hb.lt.label, hb.lt.key, hb.lt.value, hb.lt.pieces⟩, hb.puts⟩

theorem number_steps {c : Chg} (h : 0 ≤ c.at_) {p : List Int} {k : Int} (hk : 0 ≤ k ∧ k ≤ 1048575) : 0 ≤ c.number p k ∧ c.number p k ≤ 1048576 := by
  unfold Chg.number
  by_cases h1 : c.at_ < k
  · cases c.takes <;> cases c.puts <;> cases decide (p = c.frm) <;> cases decide (c.gap ≤ k) <;> cases decide (p = c.to) <;> simp [h1] <;> omega
  · cases c.takes <;> cases c.puts <;> cases decide (p = c.frm) <;> cases decide (c.gap ≤ k) <;> cases decide (p = c.to) <;> simp [h1] <;> omega
theorem nums_steps {c : Chg} (h : 0 ≤ c.at_) : ∀ (p q : List Int), (∀ i ∈ p, 0 ≤ i ∧ i ≤ 1048575) → ∀ i ∈ c.nums q p, 0 ≤ i ∧ i ≤ 1048576
  | [], _, _, i, hi => by cases hi
  | k :: p, q, hp, i, hi => by
    rw [Chg.nums] at hi
    rcases List.mem_cons.1 hi with rfl | hi
    · exact number_steps h (hp k List.mem_cons_self)
    · exact nums_steps h p _ (fun j hj => hp j (List.mem_cons_of_mem _ hj)) i hi
theorem may_strict {p : List Int} (h : mayP p = true) : ∀ i ∈ p, 0 ≤ i ∧ i ≤ 1048575 := by
  unfold mayP at h
  rw [Bool.and_eq_true] at h
  intro i hi
  have := List.all_eq_true.1 h.2 i hi
  unfold stepOk at this
  simp only [Bool.and_eq_true, decide_eq_true_eq] at this
  omega
theorem chg_at {o : OpT} (h : movesO o = true) : 0 ≤ (chgO o).at_ := by
  obtain ⟨hf, hkk⟩ := moves_parts h
  have hne := moves_ne h
  by_cases k1 : o.kind = 1
  · unfold chgO; simp [k1]
  · have : (chgO o).at_ = lastP o.path := by unfold chgO; simp [k1]
    rw [this, ← lastP_eq (hne k1)]
    exact (may_step (formed_path hf) _ (List.getLast_mem (hne k1))).1
theorem node_steps {a : OpT} {p : List Int} (hp : ∀ i ∈ p, 0 ≤ i ∧ i ≤ 1048575) : ∀ i ∈ (nodeP a p).getD [], 0 ≤ i ∧ i ≤ 1048576 := by
  intro i hi
  unfold nodeP at hi
  cases hm : movesO a with
  | false =>
    rw [hm] at hi
    have := hp i hi
    omega
  | true =>
    rw [hm] at hi
    have hat := chg_at hm
    obtain ⟨hf, hkk⟩ := moves_parts hm
    cases ht : (chgO a).takes && within a.path p with
    | false =>
      rw [ht] at hi
      exact nums_steps hat p [] hp i hi
    | true =>
      rw [ht] at hi
      cases hq : (chgO a).puts with
      | false => rw [hq] at hi; cases hi
      | true =>
        rw [hq] at hi
        rw [Bool.and_eq_true] at ht
        have hk3 : a.kind = 3 := by
          rcases hkk with k | ⟨k, _⟩ | h
          · have := ht.1; unfold chgO at this; simp [k] at this
          · unfold chgO at hq; simp [k] at hq
          · exact h.1
        have hts := may_strict (good_to hf hk3)
        have hgap := formed_gap hf (.inr hk3)
        have hi : i ∈ (chgO a).nums [] a.to ++ [(chgO a).land] ++ p.drop a.path.length := hi
        rcases List.mem_append.1 hi with hi | hi
        · rcases List.mem_append.1 hi with hi | hi
          · exact nums_steps hat a.to [] hts i hi
          · rw [List.mem_singleton] at hi
            have e : (chgO a).gap = a.at_ := rfl
            rw [hi]
            unfold Chg.land
            by_cases h1 : (chgO a).at_ < (chgO a).gap
            · cases decide ((chgO a).frm = (chgO a).to) <;> simp [h1] <;> omega
            · simp [h1]; omega
        · have := hp i (List.mem_of_mem_drop hi)
          omega
/-- The path behind, and some truth value. -/
theorem w_NodeB (o : OpT) (p : List Int) (ho : o.Ok) (hp : p.length ≤ 1000) (hpb : ∀ i ∈ p, 0 ≤ i ∧ i ≤ 1048576) : Pure Tryz.prog 82 [opV o, pathV p] (fun x => ∃ q b, (nodeP o p).getD [] = q ∧ x = .tup [pathV q, .bool b]) := by
  refine pure_wk ((w_Node o p ho hp hpb).mono fun x h => ?_)
  subst h
  cases nodeP o p with
  | none => exact ⟨.tup [pathV [], .bool false], Wk.tup ⟨.refl _, Wk.ff, trivial⟩, rfl, [], false, rfl, rfl⟩
  | some q => exact ⟨.tup [pathV q, .bool true], Wk.tup ⟨.refl _, Wk.tt, trivial⟩, rfl, q, true, rfl, rfl⟩

/-- What row hands back: nil, or own memory; ahead of it the boxes that it made. -/
def RowQ (b a : OpT) (l : List OpT) (x : V) (T : Heap) : Prop :=
  (l = [] ∧ x = .tup [.nilsl, .int .i64 0] ∧ T = [some (.box (opV b).cells), some (.box (opV a).cells)]) ∨
  (∃ g, x = .tup [.osl (.loc 2) g 0 l.length, .int .i64 0] ∧ T = [some (.box (opV b).cells), some (.box (opV a).cells), some (.vec g 11 (l.map opV))])

set_option maxHeartbeats 8000000 in
set_option maxRecDepth 100000 in
theorem w_row (b a : OpT) (prior : Bool) (ha : a.Ok) (hb : b.Ok) (sa : soundO a = true) (sb : soundO b = true) (he : bothEdit b a = false) (hto : a.to.length ≤ 1000 ∧ b.to.length ≤ 1000) :
    Fun Tryz.prog 64 [] [opV b, opV a, .bool prior] (RowQ b a (rowO b a prior)) := by
  have fa : formedB a = true := by unfold soundO at sa; rw [Bool.and_eq_true] at sa; exact sa.1
  have fb : formedB b = true := by unfold soundO at sb; rw [Bool.and_eq_true] at sb; exact sb.1
  have pa := may_len (formed_path fa)
  have pb := may_len (formed_path fb)
  have qa := may_step (formed_path fa)
  have qb := may_step (formed_path fb)
  have hnb := nodeP_len a b.path
  have hna := nodeP_len a a.path
  refine fun_fn 300 Tryz.func64 rfl rfl rfl fun imps B hi => ?_
  have : imps = [] := List.length_eq_zero_iff.1 hi
  subst this
  have leafN : rowO b a prior = [] → RowQ b a (rowO b a prior) (.tup [.nilsl, .int .i64 0]) [some (.box (opV b).cells), some (.box (opV a).cells)] := fun h1 => .inl ⟨h1, rfl, rfl⟩
  have leaf1 : ∀ {g : Nat} (o : OpT), rowO b a prior = [o] → RowQ b a (rowO b a prior) (.tup [.osl (.loc 2) g 0 1, .int .i64 0]) [some (.box (opV b).cells), some (.box (opV a).cells), some (.vec g 11 [opV o])] := fun o h1 => .inr ⟨_, by rw [h1]; rfl, by rw [h1]; rfl⟩
  have leaf2 : ∀ {g : Nat} (o o' : OpT), rowO b a prior = [o, o'] → RowQ b a (rowO b a prior) (.tup [.osl (.loc 2) g 0 2, .int .i64 0]) [some (.box (opV b).cells), some (.box (opV a).cells), some (.vec g 11 [opV o, opV o'])] := fun o o' h1 => .inr ⟨_, by rw [h1]; rfl, by rw [h1]; rfl⟩
  have hsh := w_shifted b a prior ha hb fb
  have c1 := w_pathWithin a.path b.path (by omega)
  have c2 := w_pathWithin a.path b.to (by omega)
  have c3 := w_pathWithin b.path a.path (by omega)
  have c4 := w_pathWithin b.path a.to (by omega)
  have c5 := w_pathSame b.path a.path (by omega)
  have c6 := w_pathSame a.path b.path (by omega)
  refine ⟨fun g1 => go 300 ?_, fun g1 => go 300 ?_⟩
  · have k1 : a.kind = 2 := eq_of g1
    show CallThen _ _ _ _ _ _
    refine call_pure c1 rfl ?_
    rintro x rfl
    refine ⟨fun g2 => go 300 ?_, fun g2 => go 300 ?_⟩
    · exact ⟨trivial, rfl, rfl, leafN (by unfold rowO; rw [decide_eq_true k1, g2]; rfl)⟩
    refine ⟨fun g3 => go 300 ?_, fun g3 => go 300 ?_⟩
    · have k3 : b.kind = 3 := eq_of g3
      show CallThen _ _ _ _ _ _
      refine call_pure c2 rfl ?_
      rintro x rfl
      refine ⟨fun g4 => go 300 ?_, fun g4 => go 300 ?_⟩
      · show CallThen _ _ _ _ _ _
        refine call_pure (w_NodeB a b.path ha (by omega) qb) rfl ?_
        rintro x ⟨q1, v, hq1, rfl⟩
        show CallThen _ _ _ _ _ _
        refine call_pure (w_drop q1) rfl ?_
        rintro x rfl
        refine ⟨⟨rfl, trivial⟩, ?_⟩
        exact ⟨trivial, rfl, rfl, leaf1 (dropO q1) (by unfold rowO; rw [decide_eq_true k1, g2, decide_eq_true k3, g4, hq1]; rfl)⟩
      · show CallThen _ _ _ _ _ _
        refine call_pure hsh rfl ?_
        rintro x rfl
        refine ⟨⟨rfl, trivial⟩, ?_⟩
        exact ⟨trivial, rfl, rfl, leaf1 (shiftedO b a prior) (by unfold rowO; rw [decide_eq_true k1, g2, decide_eq_true k3, g4]; rfl)⟩
    · have k3 : b.kind ≠ 3 := ne_of g3
      show CallThen _ _ _ _ _ _
      refine call_pure hsh rfl ?_
      rintro x rfl
      refine ⟨⟨rfl, trivial⟩, ?_⟩
      exact ⟨trivial, rfl, rfl, leaf1 (shiftedO b a prior) (by unfold rowO; rw [decide_eq_true k1, g2, decide_eq_false k3]; rfl)⟩
  have k1 : a.kind ≠ 2 := ne_of g1
  show CallThen _ _ _ _ _ _
  refine call_pure (w_won b a ha) rfl ?_
  rintro x rfl
  refine ⟨fun g2 => go 300 ?_, fun g2 => go 300 ?_⟩
  · refine ⟨fun g3 => go 300 ?_, fun g3 => go 300 ?_⟩
    · have g3 : prior = false := by simpa using g3
      exact ⟨trivial, rfl, rfl, leafN (by unfold rowO; rw [decide_eq_false k1, g2, g3]; rfl)⟩
    · have g3 : prior = true := by simpa using g3
      show CallThen _ _ _ _ _ _
      refine call_pure hsh rfl ?_
      rintro x rfl
      refine ⟨⟨rfl, trivial⟩, ?_⟩
      exact ⟨trivial, rfl, rfl, leaf1 (shiftedO b a prior) (by unfold rowO; rw [decide_eq_false k1, g2]; rw [g3]; rfl)⟩
  refine ⟨fun g3 => go 300 ?_, fun g3 => go 300 ?_⟩
  · have k3 : a.kind ≠ 3 := ne_of' g3
    have er : rowO b a prior = [shiftedO b a prior] := by unfold rowO; rw [decide_eq_false k1, g2, decide_eq_false k3]; rfl
    refine ⟨fun g4 => go 300 ?_, fun g4 => go 300 ?_⟩
    · refine ⟨fun g5 => go 300 ?_, fun g5 => go 300 ?_⟩
      · show CallThen _ _ _ _ _ _
        refine call_pure c6 rfl ?_
        rintro x rfl
        refine ⟨fun g6 => ?_, fun g6 => go 300 ?_⟩
        · exfalso
          unfold bothEdit at he
          rw [g4, g5, g6] at he
          cases he
        · show CallThen _ _ _ _ _ _
          refine call_pure hsh rfl ?_
          rintro x rfl
          refine ⟨⟨rfl, trivial⟩, ?_⟩
          exact ⟨trivial, rfl, rfl, leaf1 (shiftedO b a prior) er⟩
      · show CallThen _ _ _ _ _ _
        refine call_pure hsh rfl ?_
        rintro x rfl
        refine ⟨⟨rfl, trivial⟩, ?_⟩
        exact ⟨trivial, rfl, rfl, leaf1 (shiftedO b a prior) er⟩
    · show CallThen _ _ _ _ _ _
      refine call_pure hsh rfl ?_
      rintro x rfl
      refine ⟨⟨rfl, trivial⟩, ?_⟩
      exact ⟨trivial, rfl, rfl, leaf1 (shiftedO b a prior) er⟩
  have k3 : a.kind = 3 := eq_of' g3
  refine ⟨fun g4 => go 300 ?_, fun g4 => go 300 ?_⟩
  · have k4 : b.kind = 2 := eq_of g4
    show CallThen _ _ _ _ _ _
    refine call_pure c3 rfl ?_
    rintro x rfl
    refine ⟨fun g5 => go 300 ?_, fun g5 => go 300 ?_⟩
    case refine_2 =>
      have er : rowO b a prior = [shiftedO b a prior] := by unfold rowO; rw [decide_eq_false k1, g2, decide_eq_true k3, decide_eq_true k4, g5]; rfl
      show CallThen _ _ _ _ _ _
      refine call_pure hsh rfl ?_
      rintro x rfl
      refine ⟨⟨rfl, trivial⟩, ?_⟩
      exact ⟨trivial, rfl, rfl, leaf1 (shiftedO b a prior) er⟩
    show CallThen _ _ _ _ _ _
    refine call_pure c5 rfl ?_
    rintro x rfl
    refine ⟨fun g6 => go 300 ?_, fun g6 => go 300 ?_⟩
    case refine_2 =>
      have g6 : decide (b.path = a.path) = true := by simpa using g6
      have er : rowO b a prior = [shiftedO b a prior] := by unfold rowO; rw [decide_eq_false k1, g2, decide_eq_true k3, decide_eq_true k4, g5, g6]; rfl
      show CallThen _ _ _ _ _ _
      refine call_pure hsh rfl ?_
      rintro x rfl
      refine ⟨⟨rfl, trivial⟩, ?_⟩
      exact ⟨trivial, rfl, rfl, leaf1 (shiftedO b a prior) er⟩
    have g6 : decide (b.path = a.path) = false := by simpa using g6
    show CallThen _ _ _ _ _ _
    refine call_pure c4 rfl ?_
    rintro x rfl
    refine ⟨fun g7 => go 300 ?_, fun g7 => go 300 ?_⟩
    case refine_2 =>
      have g7 : within b.path a.to = true := by simpa using g7
      have er : rowO b a prior = [shiftedO b a prior] := by unfold rowO; rw [decide_eq_false k1, g2, decide_eq_true k3, decide_eq_true k4, g5, g6, g7]; rfl
      show CallThen _ _ _ _ _ _
      refine call_pure hsh rfl ?_
      rintro x rfl
      refine ⟨⟨rfl, trivial⟩, ?_⟩
      exact ⟨trivial, rfl, rfl, leaf1 (shiftedO b a prior) er⟩
    have g7 : within b.path a.to = false := by simpa using g7
    have er : rowO b a prior = [dropO ((nodeP a a.path).getD []), dropO ((nodeP (dropO ((nodeP a a.path).getD [])) ((nodeP a b.path).getD [])).getD [])] := by unfold rowO; rw [decide_eq_false k1, g2, decide_eq_true k3, decide_eq_true k4, g5, g6, g7]; rfl
    have hqs := node_steps (a := a) (p := b.path) (may_strict (formed_path fb))
    show CallThen _ _ _ _ _ _
    refine call_pure (w_NodeB a a.path ha (by omega) qa) rfl ?_
    rintro x ⟨p1, v1, hp1, rfl⟩
    show CallThen _ _ _ _ _ _
    refine call_pure (w_NodeB a b.path ha (by omega) qb) rfl ?_
    rintro x ⟨q1, v2, hq1, rfl⟩
    rw [hp1, hq1] at er
    rw [hq1] at hqs hnb
    rw [hp1] at hna
    show CallThen _ _ _ _ _ _
    refine call_pure (w_drop p1) rfl ?_
    rintro x rfl
    show CallThen _ _ _ _ _ _
    have hat64 := may_len (good_to fa k3)
    refine call_pure (w_NodeB (dropO p1) q1 (drop_ok (by omega)) (by omega) hqs) rfl ?_
    rintro x ⟨q2, v3, hq2, rfl⟩
    rw [hq2] at er
    show CallThen _ _ _ _ _ _
    refine call_pure (w_drop p1) rfl ?_
    rintro x rfl
    show CallThen _ _ _ _ _ _
    refine call_pure (w_drop q2) rfl ?_
    rintro x rfl
    refine ⟨⟨rfl, rfl, trivial⟩, ?_⟩
    exact ⟨trivial, rfl, rfl, leaf2 _ _ er⟩
  have k4 : b.kind ≠ 2 := ne_of g4
  refine ⟨fun g5 => go 300 ?_, fun g5 => go 300 ?_⟩
  · have k5 : b.kind = 3 := eq_of g5
    show CallThen _ _ _ _ _ _
    refine call_pure c4 rfl ?_
    rintro x rfl
    refine ⟨fun g6 => go 300 ?_, fun g6 => go 300 ?_⟩
    case refine_2 =>
      have er : rowO b a prior = [shiftedO b a prior] := by unfold rowO; rw [decide_eq_false k1, g2, decide_eq_true k3, decide_eq_false k4, decide_eq_true k5, g6]; rfl
      show CallThen _ _ _ _ _ _
      refine call_pure hsh rfl ?_
      rintro x rfl
      refine ⟨⟨rfl, trivial⟩, ?_⟩
      exact ⟨trivial, rfl, rfl, leaf1 (shiftedO b a prior) er⟩
    show CallThen _ _ _ _ _ _
    refine call_pure c2 rfl ?_
    rintro x rfl
    refine ⟨fun g7 => go 300 ?_, fun g7 => go 300 ?_⟩
    case refine_2 =>
      have er : rowO b a prior = [shiftedO b a prior] := by unfold rowO; rw [decide_eq_false k1, g2, decide_eq_true k3, decide_eq_false k4, decide_eq_true k5, g6, g7]; rfl
      show CallThen _ _ _ _ _ _
      refine call_pure hsh rfl ?_
      rintro x rfl
      refine ⟨⟨rfl, trivial⟩, ?_⟩
      exact ⟨trivial, rfl, rfl, leaf1 (shiftedO b a prior) er⟩
    refine ⟨fun g8 => go 300 ?_, fun g8 => go 300 ?_⟩
    · have g8 : prior = false := by simpa using g8
      exact ⟨trivial, rfl, rfl, leafN (by unfold rowO; rw [decide_eq_false k1, g2, decide_eq_true k3, decide_eq_false k4, decide_eq_true k5, g6, g7, g8]; rfl)⟩
    · have g8 : prior = true := by simpa using g8
      show Goes _ _ _ _
      refine goes_draw 300 ⟨_, w_UndoM a ha, rfl, rfl, ⟨rfl, rfl, trivial⟩, ?_⟩
      refine ⟨by kernel_rfl, ?_⟩
      refine ⟨by kernel_rfl, ?_⟩
      exact ⟨trivial, rfl, rfl, leaf2 (undoO a) b (by unfold rowO; rw [decide_eq_false k1, g2, decide_eq_true k3, decide_eq_false k4, decide_eq_true k5, g6, g7]; rw [g8]; rfl)⟩
  · have k5 : b.kind ≠ 3 := ne_of g5
    have er : rowO b a prior = [shiftedO b a prior] := by unfold rowO; rw [decide_eq_false k1, g2, decide_eq_true k3, decide_eq_false k4, decide_eq_false k5]; rfl
    show CallThen _ _ _ _ _ _
    refine call_pure hsh rfl ?_
    rintro x rfl
    refine ⟨⟨rfl, trivial⟩, ?_⟩
    exact ⟨trivial, rfl, rfl, leaf1 (shiftedO b a prior) er⟩
end Bow
/- W54: square.Behind, Both (but for two edits of one leaf). -/
namespace Bow
open Go Go.Proofs

theorem undo_ok {a : OpT} (h1 : a.path.length ≤ 1000) (h2 : a.to.length ≤ 1000) : (undoO a).Ok := by
  unfold undoO
  cases decide (a.kind = 3) && movesO a with
  | false => exact ⟨⟨Nat.zero_le _, Nat.zero_le _, Nat.zero_le _, Nat.zero_le _, Nat.zero_le _, Nat.zero_le _⟩, Nat.zero_le _⟩
  | true =>
    have q1 := nodeP_len a a.path
    have q2 := nodeP_len a (chgO a).frm
    have q3 : (chgO a).frm.length ≤ a.path.length := by
      unfold chgO
      cases decide (a.kind = 1) <;> simp
    exact ⟨⟨by show ((nodeP a a.path).getD []).length ≤ _; omega, by show ((nodeP a (chgO a).frm).getD []).length ≤ _; omega, Nat.zero_le _, Nat.zero_le _, Nat.zero_le _, Nat.zero_le _⟩, Nat.zero_le _⟩
theorem row_mem {b a o : OpT} {prior : Bool} (h : o ∈ rowO b a prior) : o = shiftedO b a prior ∨ o = dropO ((nodeP a b.path).getD []) ∨ o = dropO ((nodeP a a.path).getD []) ∨
    o = dropO ((nodeP (dropO ((nodeP a a.path).getD [])) ((nodeP a b.path).getD [])).getD []) ∨ o = undoO a ∨ o = b := by
  unfold rowO at h
  have one : ∀ {x : OpT}, o ∈ [x] → o = x := fun h => List.mem_singleton.1 h
  cases h1 : decide (a.kind = 2) with
  | true =>
    rw [h1] at h
    cases h2 : within a.path b.path with
    | true => rw [h2] at h; cases h
    | false =>
      rw [h2] at h
      cases h3 : decide (b.kind = 3) && within a.path b.to with
      | true => rw [h3] at h; exact .inr (.inl (one h))
      | false => rw [h3] at h; exact .inl (one h)
  | false =>
    rw [h1] at h
    cases h2 : wonO b a with
    | true =>
      rw [h2] at h
      cases prior with
      | true => exact .inl (one h)
      | false => cases h
    | false =>
      rw [h2] at h
      cases h3 : decide (a.kind = 3) with
      | false => rw [h3] at h; exact .inl (one h)
      | true =>
        rw [h3] at h
        cases h4 : decide (b.kind = 2) with
        | true =>
          rw [h4] at h
          cases h5 : within b.path a.path && (!decide (b.path = a.path) && !within b.path a.to) with
          | true =>
            rw [h5] at h
            rcases List.mem_cons.1 h with h | h
            · exact .inr (.inr (.inl h))
            · exact .inr (.inr (.inr (.inl (one h))))
          | false => rw [h5] at h; exact .inl (one h)
        | false =>
          rw [h4] at h
          cases h5 : decide (b.kind = 3) && (within b.path a.to && within a.path b.to) with
          | true =>
            rw [h5] at h
            cases prior with
            | true =>
              rcases List.mem_cons.1 h with h | h
              · exact .inr (.inr (.inr (.inr (.inl h))))
              · exact .inr (.inr (.inr (.inr (.inr (one h)))))
            | false => cases h
          | false => rw [h5] at h; exact .inl (one h)
theorem row_ok {b a : OpT} {prior : Bool} (ha : a.Ok) (hb : b.Ok) (pa : a.path.length ≤ 1000) (pb : b.path.length ≤ 1000) (ta : a.to.length ≤ 1000) (tb : b.to.length ≤ 1000) : ∀ o ∈ rowO b a prior, o.Ok := by
  have hs := shifted_ok (prior := prior) ha hb pb tb ta
  have hu := undo_ok pa ta
  have q1 := nodeP_len a b.path
  have q2 := nodeP_len a a.path
  have q3 := nodeP_len (dropO ((nodeP a a.path).getD [])) ((nodeP a b.path).getD [])
  have q4 : (dropO ((nodeP a a.path).getD [])).to.length = 0 := rfl
  have d1 := drop_ok (p := (nodeP a b.path).getD []) (by omega)
  have d2 := drop_ok (p := (nodeP a a.path).getD []) (by omega)
  have d3 := drop_ok (p := (nodeP (dropO ((nodeP a a.path).getD [])) ((nodeP a b.path).getD [])).getD []) (by omega)
  intro o ho
  rcases row_mem ho with rfl | rfl | rfl | rfl | rfl | rfl <;> assumption

theorem set_step {l : List OpT} {i : Nat} (hi : i < l.length) : (((l.take i).map bareO ++ l.drop i).map opV).set (0 + ((i : Nat) : Int).toNat) (opV (bareO l[i])) = ((l.take (i + 1)).map bareO ++ l.drop (i + 1)).map opV := by
  rw [List.drop_eq_getElem_cons hi, List.take_succ_eq_append_getElem hi, List.map_append, List.map_append, List.map_append, List.map_append, Nat.zero_add, show ((i : Nat) : Int).toNat = i from rfl]
  rw [List.set_append_right _ _ (by simp; omega)]
  have : i - (List.map opV (List.map bareO (List.take i l))).length = 0 := by simp; omega
  rw [this, List.map_cons, List.set_cons_zero]
  simp
def BehV (r : List OpT × Int) : V := .tup [opsV r.1, .int .i64 r.2]
theorem behZ (e : Int) : ∃ y, Wk (.tup [.nilsl, .int .i64 e]) y ∧ y.pureB = true ∧ y = BehV ([], e) := ⟨BehV ([], e), Wk.tup ⟨Wk.nil 11, .refl _, trivial⟩, rfl, rfl⟩

set_option maxHeartbeats 4000000 in
set_option maxRecDepth 100000 in
theorem w_Behind (b a : OpT) (prior : Bool) (ha : a.Ok) (hb : b.Ok) (he : bothEdit b a = false) (hto : a.to.length ≤ 1000 ∧ b.to.length ≤ 1000) :
    Pure Tryz.prog 38 [opV b, opV a, .bool prior] (fun x => x = BehV (behindO b a prior)) := by
  refine pure_wk (pure_fn 300 Tryz.func38 rfl rfl rfl fun B => ?_)
  show CallThen _ _ _ _ _ _
  refine call_pure (w_sound a ha) rfl ?_
  rintro x rfl
  refine ⟨fun g1 => go 300 ?_, fun g1 => go 300 ?_⟩
  · have g1 : soundO a = false := by simpa using g1
    have e : behindO b a prior = ([], 80) := by unfold behindO; rw [g1]; rfl
    rw [e]
    exact ⟨trivial, rfl, rfl, rfl, behZ 80⟩
  have sa : soundO a = true := by simpa using g1
  show CallThen _ _ _ _ _ _
  refine call_pure (w_sound b hb) rfl ?_
  rintro x rfl
  refine ⟨fun g2 => go 300 ?_, fun g2 => go 300 ?_⟩
  · have g2 : soundO b = false := by simpa using g2
    have e : behindO b a prior = ([], 80) := by unfold behindO; rw [sa, g2]; rfl
    rw [e]
    exact ⟨trivial, rfl, rfl, rfl, behZ 80⟩
  have sb : soundO b = true := by simpa using g2
  have fa : formedB a = true := by unfold soundO at sa; rw [Bool.and_eq_true] at sa; exact sa.1
  have fb : formedB b = true := by unfold soundO at sb; rw [Bool.and_eq_true] at sb; exact sb.1
  have pa := may_len (formed_path fa)
  have pb := may_len (formed_path fb)
  have hrow := w_row b a prior ha hb sa sb he hto
  have hrok := row_ok (prior := prior) ha hb (by omega) (by omega) hto.1 hto.2
  have e : behindO b a prior = bif (rowO b a prior).all formedB then ((rowO b a prior).map bareO, 0) else ([], 3) := by unfold behindO; rw [sa, sb]; rfl
  rw [e]
  obtain ⟨l, hl⟩ : ∃ l, rowO b a prior = l := ⟨_, rfl⟩
  have hlen : l.length ≤ 2 := by rw [← hl]; exact row_len b a prior
  rw [hl] at hrow hrok ⊢
  show CallThen _ _ _ _ _ _
  refine call_sub [] hrow rfl rfl trivial rfl rfl rfl ?_
  rintro x T1 (⟨rfl, rfl, rfl⟩ | ⟨G, rfl, rfl⟩)
  · refine ⟨rfl, ?_⟩
    refine ⟨fun q => absurd rfl (ne_of' q), fun _ => go 300 ?_⟩
    show Goes _ _ _ _
    refine goes_loop ?_
    refine go 300 ?_
    refine ⟨fun q => absurd (lt_of q) (by decide), fun _ => go 300 ?_⟩
    exact ⟨trivial, rfl, rfl, rfl, behZ 0⟩
  · refine ⟨rfl, ?_⟩
    refine ⟨fun q => absurd rfl (ne_of' q), fun _ => go 300 ?_⟩
    refine ⟨rfl, ?_⟩
    show Goes _ _ _ _
    refine goes_iter (ι := Nat) (fun i => i ≤ l.length ∧ (l.take i).all formedB = true) (fun i => l.length - i) (fun i => [(31, .int .i64 i), (30, .int .i64 l.length), (29, .osl (.loc 4) G 0 l.length), (8, .osl (.loc 4) G 0 l.length)])
      (fun i => [some (.box (opV b).cells), some (.box (opV a).cells), some (.box (opV b).cells), some (.box (opV a).cells), some (.vec G 11 (((l.take i).map bareO ++ l.drop i).map opV))]) 0 300 (fun _ => rfl) (fun _ => rfl) ⟨⟨Nat.zero_le _, by simp⟩, ⟨⟨rfl, rfl⟩, ⟨rfl, rfl⟩, ⟨rfl, rfl⟩, ⟨rfl, rfl⟩, trivial⟩, ⟨⟨rfl, rfl⟩, ⟨rfl, rfl⟩, ⟨rfl, rfl⟩, ⟨rfl, rfl⟩, ⟨rfl, rfl⟩, trivial⟩⟩ ?_
    rintro i ⟨k1, k2⟩ next
    refine ⟨fun hlt => go 300 ?_, fun hge => go 300 ?_⟩
    · have hi : i < l.length := by have := lt_of hlt; omega
      have hx : ((((l.take i).map bareO ++ l.drop i).map opV))[0 + ((i : Nat) : Int).toNat]? = some (opV l[i]) := by
        simp [List.getElem?_append_right, hi, Nat.min_eq_left (Nat.le_of_lt hi)]
      have hok := hrok l[i] (List.getElem_mem hi)
      refine ⟨rfl, Int.natCast_nonneg i, by omega, rfl, _, hx, ?_⟩
      show CallThen _ _ _ _ _ _
      refine call_pure (w_Formed l[i] hok.lt hok.each) rfl ?_
      rintro x rfl
      refine ⟨fun g3 => go 300 ?_, fun g3 => go 300 ?_⟩
      · have g3 : formedB l[i] = false := by simpa using g3
        have e : l.all formedB = false := List.all_eq_false.2 ⟨l[i], List.getElem_mem hi, by simpa using g3⟩
        rw [e]
        exact ⟨trivial, rfl, rfl, rfl, behZ 3⟩
      have g3 : formedB l[i] = true := by simpa using g3
      show CallThen _ _ _ _ _ _
      refine call_pure (w_Bare l[i] hok.lt) rfl ?_
      rintro x rfl
      refine ⟨rfl, Int.natCast_nonneg i, by omega, rfl, _, hx, ?_⟩
      refine ⟨by constructor <;> omega, ?_⟩
      show Goes _ _ _ _
      refine next (i + 1) _ _ ⟨⟨hi, ?_⟩, by omega, ⟨⟨rfl, rfl⟩, ⟨rfl, rfl⟩, ⟨rfl, rfl⟩, ⟨rfl, rfl⟩, trivial⟩, ⟨⟨rfl, rfl⟩, ⟨rfl, rfl⟩, ⟨rfl, rfl⟩, ⟨rfl, rfl⟩, ⟨?_, rfl⟩, trivial⟩⟩
      · rw [List.take_succ_eq_append_getElem hi, List.all_append, k2]
        simp [g3]
      · show some (HObj.vec G 11 (((((l.take i).map bareO ++ l.drop i).map opV)).set (0 + ((i : Nat) : Int).toNat) (opV (bareO l[i])))) = _
        rw [set_step hi]
    · have hi : i = l.length := by have := not_lt_of hge; omega
      subst hi
      rw [List.take_length] at k2
      rw [k2]
      refine ⟨trivial, rfl, rfl, rfl, by simp, rfl, ?_⟩
      refine ⟨BehV (l.map bareO, 0), ?_, rfl, rfl⟩
      simp [BehV, opsV]
      exact Wk.refl _

def BothV (r : List OpT × List OpT × Int) : V := .tup [opsV r.1, opsV r.2.1, .int .i64 r.2.2]
theorem bothZ (e : Int) : ∃ y, Wk (.tup [.nilsl, .nilsl, .int .i64 e]) y ∧ y.pureB = true ∧ y = BothV ([], [], e) := ⟨BothV ([], [], e), Wk.tup ⟨Wk.nil 11, Wk.nil 11, .refl _, trivial⟩, rfl, rfl⟩
end Bow
/- W55: leaftext's maker of a normal edit; norm. -/
namespace Bow
open Go Go.Proofs

def mkB (m : Mk) (g : Nat) : HObj := .box [.osl (.loc 1) g 0 m.l.length, .int .i64 m.keep]
def mkVec (m : Mk) (g : Nat) : HObj := .vec g 3 (m.l.map pieceV)
def mkT (m : Mk) (g : Nat) : Heap := [some (mkB m g), some (mkVec m g)]

theorem last_grown {m : Mk} (h : 0 < m.keep ∨ m.l.length = 0) : m.last = ⟨m.l ++ [⟨m.keep, 0, []⟩], 0⟩ := by
  unfold Mk.last
  have : (decide (0 < m.keep) || m.l.isEmpty) = true := by
    rcases h with h | h
    · simp [h]
    · have := List.length_eq_zero_iff.1 h
      simp [this]
  rw [this]
  rfl
theorem last_still {m : Mk} (h : ¬ 0 < m.keep) (h' : m.l.length ≠ 0) : m.last = m := by
  unfold Mk.last
  have : (decide (0 < m.keep) || m.l.isEmpty) = false := by
    have h2 : m.l ≠ [] := fun e => h' (by rw [e]; rfl)
    simp [h, h2]
  rw [this]
  rfl

set_option maxRecDepth 100000 in
theorem w_last (m : Mk) (g : Nat) (hok : m.Ok) (hw : m.w ≤ 1000000000000) : Fun Tryz.prog 161 (mkT m g) [.ptr (.loc 0) 0] (fun x T => ∃ g', x = .eptr (.loc 1) g' (m.last.l.length - 1) 0 ∧ T = mkT m.last g') := by
  have hlen : (m.l.length : Int) ≤ 1000000000000 := by
    have := sumW_len hok.l
    have := hok.k
    unfold Mk.w at hw
    omega
  refine fun_keep 2 rfl (fun_fn 300 Tryz.func161 rfl rfl rfl fun imps B hi => ?_)
  have hroom : room ((m.l.map pieceV).length + 1) 32 := by
    unfold room
    simp only [List.length_map]
    omega
  refine ⟨fun g1 => go 300 ?_, fun g1 => go 300 ?_⟩
  · have hl := last_grown (.inl (lt_of g1))
    show Goes _ _ _ _
    refine goes_draw 300 ⟨rfl, ⟨rfl, trivial⟩, rfl, rfl, rfl, rfl, by simp, hroom, ?_⟩
    refine ⟨by kernel_rfl, ?_⟩
    show Goes _ _ _ _
    refine goes_draw 300 ⟨rfl, ⟨?_, ?_⟩, rfl, ?_, ?_, ?_⟩
    · simp only [List.length_map, List.length_cons, List.length_nil]; omega
    · simp only [List.length_map, List.length_cons, List.length_nil]; omega
    · simp only [List.length_map, List.length_cons, List.length_nil]; omega
    · simp only [List.length_map, List.length_cons, List.length_nil]; omega
    refine ⟨by kernel_rfl, ?_⟩
    refine ⟨trivial, rfl, rfl, mkT m.last (bump g), rfl, rfl, ⟨⟨?_, rfl⟩, ⟨?_, rfl⟩, trivial⟩, bump g, ?_, rfl⟩
    · rw [hl]; simp [mkB]
    · rw [hl]; simp [mkVec, pieceV]
    · rw [hl]
      show V.eptr (Ref.loc 1) (bump g) _ 0 = _
      congr 1
      simp
  · refine ⟨rfl, ?_⟩
    refine ⟨fun g2 => go 300 ?_, fun g2 => go 300 ?_⟩
    · have hz := eq_of g2
      have hl := last_grown (m := m) (.inr (by omega))
      show Goes _ _ _ _
      refine goes_draw 300 ⟨rfl, ⟨rfl, trivial⟩, rfl, rfl, rfl, rfl, by simp, hroom, ?_⟩
      refine ⟨by kernel_rfl, ?_⟩
      show Goes _ _ _ _
      refine goes_draw 300 ⟨rfl, ⟨?_, ?_⟩, rfl, ?_, ?_, ?_⟩
      · simp only [List.length_map, List.length_cons, List.length_nil]; omega
      · simp only [List.length_map, List.length_cons, List.length_nil]; omega
      · simp only [List.length_map, List.length_cons, List.length_nil]; omega
      · simp only [List.length_map, List.length_cons, List.length_nil]; omega
      refine ⟨by kernel_rfl, ?_⟩
      refine ⟨trivial, rfl, rfl, mkT m.last (bump g), rfl, rfl, ⟨⟨?_, rfl⟩, ⟨?_, rfl⟩, trivial⟩, bump g, ?_, rfl⟩
      · rw [hl]; simp [mkB]
      · rw [hl]; simp [mkVec, pieceV]
      · rw [hl]
        show V.eptr (Ref.loc 1) (bump g) _ 0 = _
        congr 1
        simp
    · have hz := ne_of g2
      have hl := last_still (m := m) (Int.not_lt.2 (not_lt_of g1)) (by omega)
      show Goes _ _ _ _
      refine goes_draw 300 ⟨rfl, ⟨by omega, by omega⟩, rfl, by omega, by omega, ?_⟩
      refine ⟨by kernel_rfl, ?_⟩
      refine ⟨trivial, rfl, rfl, mkT m.last g, rfl, rfl, ⟨⟨?_, rfl⟩, ⟨?_, rfl⟩, trivial⟩, g, ?_, rfl⟩
      · rw [hl]
      · rw [hl]
      · rw [hl]
        show V.eptr (Ref.loc 1) g _ 0 = _
        congr 1
        simp
theorem set_modL {f : PieceT → PieceT} {l : List PieceT} (h : l ≠ []) {x : V} (hx : x = pieceV (f (l[l.length - 1]'(by have := List.length_pos_iff.2 h; omega)))) : (l.map pieceV).set (l.length - 1) x = (modL f l).map pieceV := by
  rw [modL_set f l (by have := List.length_pos_iff.2 h; omega), List.map_set, hx]
theorem last_get {l : List PieceT} (h : l ≠ []) : (l.map pieceV)[l.length - 1]? = some (pieceV (l[l.length - 1]'(by have := List.length_pos_iff.2 h; omega))) := by
  have := List.length_pos_iff.2 h
  simp [show l.length - 1 < l.length by omega]

set_option maxRecDepth 100000 in
theorem w_mkPut (m : Mk) (g : Nat) (s : List UInt8) (hok : m.Ok) (hw : m.w ≤ 1000000000000) (hs : s.length ≤ 1000000000000) : Fun Tryz.prog 126 (mkT m g) [.ptr (.loc 0) 0, .str s] (fun x T => ∃ g', x = .tup [] ∧ T = mkT (m.put s) g') := by
  refine fun_keep 2 rfl (fun_fn 300 Tryz.func126 rfl rfl rfl fun imps B hi => ?_)
  refine ⟨fun g1 => go 300 ?_, fun g1 => go 300 ?_⟩
  · have hne : s.isEmpty = false := by
      have : s ≠ [] := by simpa using g1
      cases s with
      | nil => exact absurd rfl this
      | cons a s => rfl
    have e : m.put s = ⟨modL (fun p => { p with put := p.put ++ s }) m.last.l, m.last.keep⟩ := by unfold Mk.put; rw [hne]; rfl
    obtain ⟨lok, lw⟩ := Mk.last_ok hok
    have hlast := m.last_ne
    show CallThen _ _ _ _ _ _
    refine call_sub [0, 1] (w_last m g hok hw) rfl rfl ⟨⟨rfl, rfl⟩, ⟨rfl, rfl⟩, trivial⟩ rfl rfl rfl ?_
    rintro x T1 ⟨g', rfl, rfl⟩
    refine ⟨rfl, ?_⟩
    show Goes _ _ _ _
    refine goes_nilE 300 rfl rfl rfl rfl rfl ?_
    have hput : (m.last.l[m.last.l.length - 1]'(by have := List.length_pos_iff.2 hlast; omega)).put.length ≤ 1000000000001 := by
      have h1 := sumW_mem lok.l _ (List.getElem_mem (by have := List.length_pos_iff.2 hlast; omega : m.last.l.length - 1 < m.last.l.length))
      have h2 := lok.l _ (List.getElem_mem (by have := List.length_pos_iff.2 hlast; omega : m.last.l.length - 1 < m.last.l.length))
      have := h2.k
      have := h2.d
      have := lok.k
      unfold PieceT.w at h1
      unfold Mk.w at lw hw
      omega
    refine ⟨rfl, rfl, _, last_get hlast, ?_⟩
    refine ⟨by rw [List.length_append]; omega, ?_⟩
    show Goes _ _ _ _
    refine goes_nilE 300 rfl rfl rfl rfl rfl ?_
    refine ⟨rfl, rfl, _, last_get hlast, ?_⟩
    refine ⟨trivial, rfl, rfl, mkT (m.put s) g', rfl, rfl, ⟨⟨?_, rfl⟩, ⟨?_, rfl⟩, trivial⟩, g', rfl, rfl⟩
    · show some (mkB m.last g') = _
      rw [e]
      simp only [mkB, modL_len]
    · rw [e]
      exact congrArg (fun z => some (HObj.vec g' 3 z)) (set_modL (f := fun p => { p with put := p.put ++ s }) hlast rfl)
  · have hne : s = [] := by simpa using g1
    subst hne
    refine ⟨trivial, rfl, rfl, mkT m g, rfl, rfl, ⟨⟨rfl, rfl⟩, ⟨rfl, rfl⟩, trivial⟩, g, rfl, rfl⟩
set_option maxRecDepth 100000 in
theorem w_mkDrop (m : Mk) (g : Nat) (n : Int) (hok : m.Ok) (hw : m.w ≤ 1000000000000) (hs : n ≤ 1000000000000) : Fun Tryz.prog 128 (mkT m g) [.ptr (.loc 0) 0, .int .i64 n] (fun x T => ∃ g', x = .tup [] ∧ T = mkT (m.drop n) g') := by
  refine fun_keep 2 rfl (fun_fn 300 Tryz.func128 rfl rfl rfl fun imps B hi => ?_)
  refine ⟨fun g1 => go 300 ?_, fun g1 => go 300 ?_⟩
  · have hne : 0 < n := lt_of g1
    have e : m.drop n = ⟨modL (fun p => { p with drop := p.drop + n }) m.last.l, m.last.keep⟩ := by unfold Mk.drop; rw [decide_eq_true hne]; rfl
    obtain ⟨lok, lw⟩ := Mk.last_ok hok
    have hlast := m.last_ne
    show CallThen _ _ _ _ _ _
    refine call_sub [0, 1] (w_last m g hok hw) rfl rfl ⟨⟨rfl, rfl⟩, ⟨rfl, rfl⟩, trivial⟩ rfl rfl rfl ?_
    rintro x T1 ⟨g', rfl, rfl⟩
    refine ⟨rfl, ?_⟩
    show Goes _ _ _ _
    refine goes_nilE 300 rfl rfl rfl rfl rfl ?_
    have hput : 0 ≤ (m.last.l[m.last.l.length - 1]'(by have := List.length_pos_iff.2 hlast; omega)).drop ∧ (m.last.l[m.last.l.length - 1]'(by have := List.length_pos_iff.2 hlast; omega)).drop ≤ 1000000000001 := by
      have h1 := sumW_mem lok.l _ (List.getElem_mem (by have := List.length_pos_iff.2 hlast; omega : m.last.l.length - 1 < m.last.l.length))
      have h2 := lok.l _ (List.getElem_mem (by have := List.length_pos_iff.2 hlast; omega : m.last.l.length - 1 < m.last.l.length))
      have := h2.k
      have := h2.d
      have := lok.k
      unfold PieceT.w at h1
      unfold Mk.w at lw hw
      omega
    refine ⟨rfl, rfl, _, last_get hlast, ?_⟩
    refine ⟨by constructor <;> omega, ?_⟩
    show Goes _ _ _ _
    refine goes_nilE 300 rfl rfl rfl rfl rfl ?_
    refine ⟨rfl, rfl, _, last_get hlast, ?_⟩
    refine ⟨trivial, rfl, rfl, mkT (m.drop n) g', rfl, rfl, ⟨⟨?_, rfl⟩, ⟨?_, rfl⟩, trivial⟩, g', rfl, rfl⟩
    · show some (mkB m.last g') = _
      rw [e]
      simp only [mkB, modL_len]
    · rw [e]
      exact congrArg (fun z => some (HObj.vec g' 3 z)) (set_modL (f := fun p => { p with drop := p.drop + n }) hlast rfl)
  · have hne : ¬ 0 < n := Int.not_lt.2 (not_lt_of g1)
    have e : m.drop n = m := by unfold Mk.drop; rw [decide_eq_false hne]; rfl
    rw [e]
    refine ⟨trivial, rfl, rfl, mkT m g, rfl, rfl, ⟨⟨rfl, rfl⟩, ⟨rfl, rfl⟩, trivial⟩, g, rfl, rfl⟩

set_option maxRecDepth 100000 in
theorem w_mkPiece (m : Mk) (g : Nat) (p : PieceT) (hok : m.Ok) (hp : p.Nn) (hw : m.w + p.w ≤ 900000000000) : Fun Tryz.prog 160 (mkT m g) [.ptr (.loc 0) 0, pieceV p] (fun x T => ∃ g', x = .tup [] ∧ T = mkT (m.piece p) g') := by
  have p1 := hp.k
  have p2 := hp.d
  have m1 := hok.k
  have m2 := sumW_len hok.l
  have hw' := hw
  unfold PieceT.w Mk.w at hw'
  obtain ⟨a1, a2⟩ := Mk.kept_ok hok hp.k
  obtain ⟨b1, b2⟩ := Mk.put_ok (s := p.put) a1
  have hpw : p.w = p.keep + p.drop + p.put.length + 1 := rfl
  refine fun_keep 2 rfl (fun_fn 300 Tryz.func160 rfl rfl rfl fun imps B hi => ?_)
  show Goes _ _ _ _
  refine goes_draw 300 ⟨⟨by omega, by omega⟩, ?_⟩
  refine ⟨by kernel_rfl, ?_⟩
  show CallThen _ _ _ _ _ _
  refine call_sub [0, 1] (w_mkPut (m.kept p.keep) g p.put a1 (by omega) (by omega)) rfl rfl ⟨⟨rfl, rfl⟩, ⟨rfl, rfl⟩, trivial⟩ rfl rfl rfl ?_
  rintro x T1 ⟨g1, rfl, rfl⟩
  refine ⟨rfl, ?_⟩
  show CallThen _ _ _ _ _ _
  refine call_sub [0, 1] (w_mkDrop ((m.kept p.keep).put p.put) g1 p.drop b1 (by omega) (by omega)) rfl rfl ⟨⟨rfl, rfl⟩, ⟨rfl, rfl⟩, trivial⟩ rfl rfl rfl ?_
  rintro x T1 ⟨g2, rfl, rfl⟩
  refine ⟨rfl, ?_⟩
  exact ⟨trivial, rfl, rfl, mkT (m.piece p) g2, rfl, rfl, ⟨⟨rfl, rfl⟩, ⟨rfl, rfl⟩, trivial⟩, g2, rfl, rfl⟩

theorem foldl_take_succ {l : List PieceT} {i : Nat} (hi : i < l.length) (m : Mk) : (l.take (i + 1)).foldl Mk.piece m = ((l.take i).foldl Mk.piece m).piece l[i] := by
  rw [List.take_succ_eq_append_getElem hi, List.foldl_append]
  rfl
theorem sumW_take (l : List PieceT) (i : Nat) (h : ∀ p ∈ l, p.Nn) : sumW (l.take i) ≤ sumW l := by
  have e := sumW_append (l.take i) (l.drop i)
  rw [List.take_append_drop] at e
  have := sumW_len (l := l.drop i) fun p hp => h p (List.mem_of_mem_drop hp)
  omega
set_option maxRecDepth 100000 in
theorem w_norm (l : List PieceT) (h : ∀ p ∈ l, p.Nn) (hw : sumW l ≤ 100000000000) (hl : l.length ≤ 100000000000) : Fun Tryz.prog 123 [] [piecesV l] (fun x T => ∃ g k, x = .osl (.loc 1) g 0 (normP l).length ∧ T = [some (.box [.osl (.loc 1) g 0 (normP l).length, .int .i64 k]), some (.vec g 3 ((normP l).map pieceV))]) := by
  refine fun_keep 2 rfl (fun_fn 300 Tryz.func123 rfl rfl rfl fun imps B hi => ?_)
  have : imps = [] := List.length_eq_zero_iff.1 hi
  subst this
  show Goes _ _ _ _
  refine goes_ownCell 0 0 3 rfl rfl ?_
  refine goes_iter (ι := Nat × Nat) (fun i => i.1 ≤ l.length) (fun i => l.length - i.1) (fun i => [(8, .int .i64 i.1), (7, .int .i64 l.length), (6, piecesV l), (3, .ptr (.loc 0) 0)]) (fun i => mkT ((l.take i.1).foldl Mk.piece Mk.nil) i.2) (0, 0) 300 (fun _ => rfl) (fun _ => rfl)
    ⟨Nat.zero_le _, ⟨⟨rfl, rfl⟩, ⟨?_, rfl⟩, ⟨rfl, rfl⟩, ⟨rfl, rfl⟩, trivial⟩, ⟨⟨rfl, rfl⟩, ⟨rfl, rfl⟩, trivial⟩⟩ ?_
  · show V.int _ _ = _
    simp
  rintro ⟨i, g⟩ k1 next
  simp only at k1
  refine ⟨fun hlt => go 300 ?_, fun hge => go 300 ?_⟩
  · have hi : i < l.length := by have := lt_of hlt; omega
    have hx : (l.map pieceV)[i]? = some (pieceV l[i]) := by simp [hi]
    have hm : l[i] ∈ l := List.getElem_mem hi
    obtain ⟨q1, q2⟩ := foldl_ok (l := l.take i) Mk.nil_ok fun p hp => h p (List.mem_of_mem_take hp)
    have q3 := sumW_take l i h
    have q4 := sumW_mem h _ hm
    have q5 : Mk.nil.w = 0 := rfl
    refine ⟨Int.natCast_nonneg i, _, hx, ?_⟩
    show CallThen _ _ _ _ _ _
    refine call_sub [0, 1] (w_mkPiece _ g l[i] q1 (h _ hm) (by omega)) rfl rfl ⟨⟨rfl, rfl⟩, ⟨rfl, rfl⟩, trivial⟩ rfl rfl rfl ?_
    rintro x T1 ⟨g1, rfl, rfl⟩
    refine ⟨rfl, ?_⟩
    refine ⟨by constructor <;> omega, ?_⟩
    show Goes _ _ _ _
    refine next (i + 1, g1) _ _ ⟨hi, by simp only; omega, ⟨⟨rfl, rfl⟩, ⟨rfl, rfl⟩, ⟨rfl, rfl⟩, ⟨rfl, rfl⟩, trivial⟩, ?_⟩
    rw [show (l.take (i + 1)).foldl Mk.piece Mk.nil = _ from foldl_take_succ hi Mk.nil]
    exact ⟨⟨rfl, rfl⟩, ⟨rfl, rfl⟩, trivial⟩
  · have hi : i = l.length := by have := not_lt_of hge; omega
    subst hi
    refine ⟨trivial, rfl, rfl, mkT (l.foldl Mk.piece Mk.nil) g, rfl, rfl, ⟨⟨?_, rfl⟩, ⟨?_, rfl⟩, trivial⟩, g, (l.foldl Mk.piece Mk.nil).keep, ?_, rfl⟩
    · show some (mkB ((l.take l.length).foldl Mk.piece Mk.nil) g) = _
      rw [List.take_length]
    · show some (mkVec ((l.take l.length).foldl Mk.piece Mk.nil) g) = _
      rw [List.take_length]
    · show V.osl (Ref.loc 1) g 0 ((l.take l.length).foldl Mk.piece Mk.nil).l.length = _
      rw [List.take_length]
      rfl
end Bow
/- W56: leaftext's rows. -/
namespace Bow
open Go Go.Proofs

def rowVec (d r : List PieceT) (g : Nat) : HObj := .vec g 3 ((d ++ r).map pieceV)
theorem row_get (d : List PieceT) (p : PieceT) (r : List PieceT) : ((d ++ p :: r).map pieceV)[d.length + ((0 : Int)).toNat]? = some (pieceV p) := by simp
theorem row_set (d : List PieceT) (p q : PieceT) (r : List PieceT) : ((d ++ p :: r).map pieceV).set (d.length + ((0 : Int)).toNat) (pieceV q) = (d ++ q :: r).map pieceV := by simp
set_option maxRecDepth 100000 in
theorem w_rowPut (d r : List PieceT) (g : Nat) : Fun Tryz.prog 125 [some (rowVec d r g)] [.osl (.loc 0) g d.length r.length] (fun x T => x = .tup [.str (rowPut r).1, .bool (rowHas r)] ∧ T = [some (rowVec d (rowPut r).2 g)]) := by
  refine fun_wk (fun_fn 300 Tryz.func125 rfl rfl rfl fun imps B hi => ?_)
  have ff : ∀ {s : List UInt8} {b : Bool}, b = false → Wk (.tup [.str s, .ff]) (.tup [.str s, .bool b]) := fun h => by subst h; exact Wk.tup ⟨.refl _, Wk.ff, trivial⟩
  have tt : ∀ {s : List UInt8} {b : Bool}, b = true → Wk (.tup [.str s, .tt]) (.tup [.str s, .bool b]) := fun h => by subst h; exact Wk.tup ⟨.refl _, Wk.tt, trivial⟩
  cases r with
  | nil =>
    refine ⟨rfl, ?_⟩
    refine ⟨fun g1 => go 300 ?_, fun g1 => absurd rfl (ne_of g1)⟩
    exact ⟨trivial, rfl, rfl, _, ff rfl, rfl, rfl, rfl, rfl⟩
  | cons p r =>
    refine ⟨rfl, ?_⟩
    refine ⟨fun g1 => by have := eq_of g1; simp at this; omega, fun g1 => go 300 ?_⟩
    have hl : (0 : Int) < ((p :: r).length : Nat) := by simp
    refine ⟨rfl, by decide, hl, rfl, rfl, _, row_get d p r, ?_⟩
    refine ⟨fun g2 => go 300 ?_, fun g2 => go 300 ?_⟩
    · have e : (decide (0 < p.keep) || p.put.isEmpty) = true := by rw [g2]; rfl
      have e1 : rowPut (p :: r) = ([], p :: r) := by show (bif _ then _ else _) = _; rw [e]; rfl
      have e2 : rowHas (p :: r) = false := by show (!_) = _; rw [e]; rfl
      exact ⟨trivial, rfl, rfl, .tup [.str [], .bool (rowHas (p :: r))], ff e2, rfl, rfl, by rw [e1], by show [some (rowVec d (p :: r) g)] = _; rw [e1]⟩
    · refine ⟨rfl, by decide, hl, rfl, rfl, _, row_get d p r, ?_⟩
      refine ⟨fun g3 => go 300 ?_, fun g3 => go 300 ?_⟩
      · have g3 : p.put = [] := by simpa using g3
        have e : (decide (0 < p.keep) || p.put.isEmpty) = true := by rw [g3]; simp
        have e1 : rowPut (p :: r) = ([], p :: r) := by show (bif _ then _ else _) = _; rw [e]; rfl
        have e2 : rowHas (p :: r) = false := by show (!_) = _; rw [e]; rfl
        exact ⟨trivial, rfl, rfl, .tup [.str [], .bool (rowHas (p :: r))], ff e2, rfl, rfl, by rw [e1], by show [some (rowVec d (p :: r) g)] = _; rw [e1]⟩
      · have g3 : p.put ≠ [] := by simpa using g3
        have e : (decide (0 < p.keep) || p.put.isEmpty) = false := by rw [g2]; simp [g3]
        refine ⟨rfl, by decide, hl, rfl, rfl, _, row_get d p r, ?_⟩
        refine ⟨rfl, by decide, hl, rfl, rfl, _, row_get d p r, ?_⟩
        have e1 : rowPut (p :: r) = (p.put, { p with put := [] } :: r) := by show (bif _ then _ else _) = _; rw [e]; rfl
        have e2 : rowHas (p :: r) = true := by show (!_) = _; rw [e]; rfl
        refine ⟨trivial, rfl, rfl, .tup [.str p.put, .bool (rowHas (p :: r))], tt e2, rfl, rfl, by rw [e1], ?_⟩
        rw [e1]
        exact congrArg (fun z => [some (HObj.vec g 3 z)]) (row_set d p { p with put := [] } r)

set_option maxRecDepth 100000 in
theorem w_rowTake (d r : List PieceT) (g : Nat) (n : Int) (hn : 0 ≤ n ∧ n ≤ 1000000000000) (hr : ∀ p ∈ r, p.Nn ∧ p.w ≤ 1000000000000) : Fun Tryz.prog 163 [some (rowVec d r g)] [.osl (.loc 0) g d.length r.length, .int .i64 n] (fun x T => x = .tup [] ∧ T = [some (rowVec d (rowTake n r) g)]) := by
  refine fun_fn 300 Tryz.func163 rfl rfl rfl fun imps B hi => ?_
  cases r with
  | nil =>
    refine ⟨rfl, ?_⟩
    refine ⟨fun g1 => go 300 ?_, fun g1 => absurd rfl (ne_of g1)⟩
    exact ⟨trivial, rfl, rfl, rfl, rfl⟩
  | cons p r =>
    refine ⟨rfl, ?_⟩
    refine ⟨fun g1 => by have := eq_of g1; simp at this; omega, fun g1 => go 300 ?_⟩
    have hl : (0 : Int) < ((p :: r).length : Nat) := by simp
    obtain ⟨hp, hw⟩ := hr p List.mem_cons_self
    have h1 := hp.k
    have h2 := hp.d
    unfold PieceT.w at hw
    refine ⟨rfl, by decide, hl, ?_⟩
    show Goes _ _ _ _
    refine goes_nilE 300 rfl rfl rfl rfl rfl ?_
    refine ⟨rfl, rfl, _, row_get d p r, ?_⟩
    refine ⟨fun g2 => go 300 ?_, fun g2 => go 300 ?_⟩
    · show Goes _ _ _ _
      refine goes_nilE 300 rfl rfl rfl rfl rfl ?_
      refine ⟨rfl, rfl, _, row_get d p r, by constructor <;> omega, ?_⟩
      show Goes _ _ _ _
      refine goes_nilE 300 rfl rfl rfl rfl rfl ?_
      refine ⟨rfl, rfl, _, row_get d p r, ?_⟩
      refine ⟨trivial, rfl, rfl, rfl, ?_⟩
      have er : rowTake n (p :: r) = { p with keep := p.keep - n } :: r := by
        show (bif decide (0 < p.keep) then _ else _) = _
        rw [g2]
        rfl
      rw [er]
      exact congrArg (fun z => [some (HObj.vec g 3 z)]) (row_set d p { p with keep := p.keep - n } r)
    · show Goes _ _ _ _
      refine goes_nilE 300 rfl rfl rfl rfl rfl ?_
      refine ⟨rfl, rfl, _, row_get d p r, by constructor <;> omega, ?_⟩
      show Goes _ _ _ _
      refine goes_nilE 300 rfl rfl rfl rfl rfl ?_
      refine ⟨rfl, rfl, _, row_get d p r, ?_⟩
      refine ⟨trivial, rfl, rfl, rfl, ?_⟩
      have er : rowTake n (p :: r) = { p with drop := p.drop - n } :: r := by
        show (bif decide (0 < p.keep) then _ else _) = _
        rw [g2]
        rfl
      rw [er]
      exact congrArg (fun z => [some (HObj.vec g 3 z)]) (row_set d p { p with drop := p.drop - n } r)
end Bow
/- W57: leaftext's rows go on; what is done. -/
namespace Bow
open Go Go.Proofs

def runV (r : Int × Bool × Bool) : V := .tup [.int .i64 r.1, .bool r.2.1, .bool r.2.2]
def rowB (d r : List PieceT) (g : Nat) : HObj := .box [.osl (.loc 1) g d.length r.length]

set_option maxRecDepth 100000 in
theorem w_rowRun (d0 r0 : List PieceT) (g : Nat) : Fun Tryz.prog 162 [some (rowB d0 r0 g), some (rowVec d0 r0 g)] [.ptr (.loc 0) 0] (fun x T => x = runV (rowRun r0).1 ∧ ∃ d, d ++ (rowRun r0).2 = d0 ++ r0 ∧ T = [some (rowB d (rowRun r0).2 g), some (rowVec d (rowRun r0).2 g)]) := by
  have wk : ∀ {n : Int} {x y : V} {a b : Bool}, (x = .tt ∧ a = true ∨ x = .ff ∧ a = false) → (y = .tt ∧ b = true ∨ y = .ff ∧ b = false) → Wk (.tup [.int .i64 n, x, y]) (runV (n, a, b)) := by
    rintro n x y a b (⟨rfl, rfl⟩ | ⟨rfl, rfl⟩) (⟨rfl, rfl⟩ | ⟨rfl, rfl⟩) <;> exact Wk.tup ⟨.refl _, by first | exact Wk.tt | exact Wk.ff, by first | exact Wk.tt | exact Wk.ff, trivial⟩
  refine fun_wk (fun_keep 2 rfl (fun_fn 300 Tryz.func162 rfl rfl rfl fun imps B hi => ?_))
  show Goes _ _ _ _
  refine goes_iter (ι := List PieceT × List PieceT) (fun i => i.1 ++ i.2 = d0 ++ r0 ∧ rowRun i.2 = rowRun r0 ∧ i.2.length ≤ r0.length) (fun i => i.2.length) (fun i => [(0, .ptr (.loc 0) 0)]) (fun i => [some (rowB i.1 i.2 g), some (rowVec i.1 i.2 g)]) (d0, r0) 300 (fun _ => rfl) (fun _ => by rw [hi]; rfl)
    ⟨⟨rfl, rfl, Nat.le_refl _⟩, ⟨⟨rfl, rfl⟩, trivial⟩, ⟨⟨rfl, rfl⟩, ⟨rfl, rfl⟩, trivial⟩⟩ ?_
  rintro ⟨d, r⟩ ⟨k1, k2, k3⟩ next
  simp only at k1 k2 k3
  cases r with
  | nil =>
    refine ⟨rfl, ?_⟩
    refine ⟨fun g1 => absurd (lt_of g1) (by simp), fun g1 => go 300 ?_⟩
    have e : rowRun r0 = ((0, false, false), []) := k2.symm
    rw [e]
    exact ⟨trivial, rfl, rfl, [some (rowB d [] g), some (rowVec d [] g)], rfl, rfl, ⟨⟨rfl, rfl⟩, ⟨rfl, rfl⟩, trivial⟩, _, wk (.inr ⟨rfl, rfl⟩) (.inr ⟨rfl, rfl⟩), rfl, rfl, rfl, d, k1, rfl⟩
  | cons p r =>
    refine ⟨rfl, ?_⟩
    refine ⟨fun g1 => go 300 ?_, fun g1 => absurd (not_lt_of g1) (by simp)⟩
    have hl : (0 : Int) < ((p :: r).length : Nat) := by simp
    refine ⟨rfl, by decide, hl, rfl, _, row_get d p r, ?_⟩
    refine ⟨fun g2 => go 300 ?_, fun g2 => go 300 ?_⟩
    · have e : rowRun r0 = ((p.keep, false, true), p :: r) := by rw [← k2, rowRun, g2]; rfl
      rw [e]
      exact ⟨trivial, rfl, rfl, [some (rowB d (p :: r) g), some (rowVec d (p :: r) g)], rfl, rfl, ⟨⟨rfl, rfl⟩, ⟨rfl, rfl⟩, trivial⟩, _, wk (.inr ⟨rfl, rfl⟩) (.inl ⟨rfl, rfl⟩), rfl, rfl, rfl, d, k1, rfl⟩
    · refine ⟨fun g3 => go 300 ?_, fun g3 => go 300 ?_⟩
      · have e : rowRun r0 = ((p.drop, true, true), p :: r) := by rw [← k2, rowRun, g2, g3]; rfl
        rw [e]
        exact ⟨trivial, rfl, rfl, [some (rowB d (p :: r) g), some (rowVec d (p :: r) g)], rfl, rfl, ⟨⟨rfl, rfl⟩, ⟨rfl, rfl⟩, trivial⟩, _, wk (.inl ⟨rfl, rfl⟩) (.inl ⟨rfl, rfl⟩), rfl, rfl, rfl, d, k1, rfl⟩
      · have e : rowRun r = rowRun r0 := by rw [← k2, rowRun, g2, g3]; rfl
        show Goes _ _ _ _
        refine goes_cutlo (h := 1) 300 rfl rfl rfl rfl rfl rfl rfl rfl rfl (by simp) ?_
        show Goes _ _ _ _
        have k1' : (d ++ [p]) ++ r = d0 ++ r0 := by rw [← k1]; simp
        refine next (d ++ [p], r) _ _ ⟨⟨k1', e, by simp only; simp at k3; omega⟩, by simp, ⟨⟨rfl, rfl⟩, trivial⟩, ⟨⟨?_, rfl⟩, ⟨?_, rfl⟩, trivial⟩⟩
        · show some (HObj.box [.osl (.loc 1) g (d.length + 1) ((p :: r).length - 1)]) = some (rowB (d ++ [p]) r g)
          simp [rowB]
        · show some (rowVec d (p :: r) g) = some (rowVec (d ++ [p]) r g)
          simp [rowVec]
def boxAt (k : Nat) (d r : List PieceT) (g : Nat) : HObj := .box [.osl (.loc k) g d.length r.length]
def rows2 (da a db b : List PieceT) (ga gb : Nat) : Heap := [some (boxAt 1 da a ga), some (rowVec da a ga), some (boxAt 3 db b gb), some (rowVec db b gb)]
def bothV (r : Int × Bool × Bool × Bool) : V := .tup [.int .i64 r.1, .bool r.2.1, .bool r.2.2.1, .bool r.2.2.2]
theorem rows2_take (n : Int) (da a db b : List PieceT) (ga gb : Nat) : [some (boxAt 1 da a ga), some (rowVec da (rowTake n a) ga), some (boxAt 3 db b gb), some (rowVec db (rowTake n b) gb)] = rows2 da (rowTake n a) db (rowTake n b) ga gb := by
  simp only [rows2, boxAt, rowTake_len]
set_option maxHeartbeats 1000000 in
set_option maxRecDepth 100000 in
theorem w_both (da a db b : List PieceT) (ga gb : Nat) (ha : RowOk a) (hb : RowOk b) : Fun Tryz.prog 127 (rows2 da a db b ga gb) [.ptr (.loc 0) 0, .ptr (.loc 2) 0] (fun x T => x = bothV (bothR a b).1 ∧ ∃ da' db', T = rows2 da' (bothR a b).2.1 db' (bothR a b).2.2 ga gb) := by
  have wk : ∀ {n : Int} {x y a b : Bool} {z : V}, x = a → y = b → z = .tt → Wk (.tup [.int .i64 n, .bool x, .bool y, z]) (bothV (n, a, b, true)) := by
    rintro n x y a b z rfl rfl rfl
    exact Wk.tup ⟨.refl _, .refl _, .refl _, Wk.tt, trivial⟩
  obtain ⟨oa, na, na'⟩ := rowRun_ok ha
  obtain ⟨ob, nb, nb'⟩ := rowRun_ok hb
  have ca := w_rowRun da a ga
  have cb := w_rowRun db b gb
  obtain ⟨⟨⟨n, x1, s1⟩, a'⟩, hra⟩ : ∃ z, rowRun a = z := ⟨_, rfl⟩
  obtain ⟨⟨⟨m, y1, s2⟩, b'⟩, hrb⟩ : ∃ z, rowRun b = z := ⟨_, rfl⟩
  have eb := bothR_eq hra hrb
  rw [hra] at oa na na' ca
  rw [hrb] at ob nb nb' cb
  rw [eb]
  clear eb hra hrb
  refine fun_wk (fun_fn 300 Tryz.func127 rfl rfl rfl fun imps B hi => ?_)
  show CallThen _ _ _ _ _ _
  refine call_sub [0, 1] ca rfl rfl ⟨⟨rfl, rfl⟩, ⟨rfl, rfl⟩, trivial⟩ rfl rfl rfl ?_
  rintro x T1 ⟨rfl, d1, -, rfl⟩
  refine ⟨rfl, ?_⟩
  show CallThen _ _ _ _ _ _
  refine call_sub [2, 3] cb rfl rfl ⟨⟨rfl, rfl⟩, ⟨rfl, rfl⟩, trivial⟩ rfl rfl rfl ?_
  rintro x T1 ⟨rfl, d2, -, rfl⟩
  refine ⟨rfl, ?_⟩
  cases s1 <;> cases s2 <;> (refine ⟨fun g1 => ?_, fun g1 => ?_⟩ <;> first | (cases g1; done) | skip)
  · refine go 300 ?_
    refine ⟨fun g2 => go 300 ?_, fun g2 => (by cases g2)⟩
    exact ⟨trivial, rfl, rfl, bothV (0, false, false, false), Wk.tup ⟨.refl _, Wk.ff, Wk.ff, Wk.ff, trivial⟩, rfl, rfl, rfl, d1, d2, rfl⟩
  · refine go 300 ?_
    refine ⟨fun g2 => (by cases g2), fun g2 => go 300 ?_⟩
    refine ⟨fun g3 => go 300 ?_, fun g3 => (by cases g3)⟩
    have hk : 0 ≤ m ∧ m ≤ 1000000000000 := ⟨nb, nb'⟩
    show CallThen _ _ _ _ _ _
    refine call_sub [1] (w_rowTake d1 a' ga m hk oa.p) rfl rfl ⟨⟨rfl, rfl⟩, trivial⟩ rfl rfl rfl ?_
    rintro x T1 ⟨rfl, rfl⟩
    refine ⟨rfl, ?_⟩
    show CallThen _ _ _ _ _ _
    refine call_sub [3] (w_rowTake d2 b' gb m hk ob.p) rfl rfl ⟨⟨rfl, rfl⟩, trivial⟩ rfl rfl rfl ?_
    rintro x T1 ⟨rfl, rfl⟩
    refine ⟨rfl, ?_⟩
    refine ⟨trivial, rfl, rfl, bothV (m, x1, y1, true), wk rfl rfl rfl, rfl, rfl, ?_, d1, d2, ?_⟩
    · rfl
    · exact rows2_take _ d1 a' d2 b' ga gb
  · refine go 300 ?_
    refine ⟨fun g3 => (by cases g3), fun g3 => go 300 ?_⟩
    refine ⟨fun g4 => (by cases g4), fun g4 => go 300 ?_⟩
    have hk : 0 ≤ n ∧ n ≤ 1000000000000 := ⟨na, na'⟩
    show CallThen _ _ _ _ _ _
    refine call_sub [1] (w_rowTake d1 a' ga n hk oa.p) rfl rfl ⟨⟨rfl, rfl⟩, trivial⟩ rfl rfl rfl ?_
    rintro x T1 ⟨rfl, rfl⟩
    refine ⟨rfl, ?_⟩
    show CallThen _ _ _ _ _ _
    refine call_sub [3] (w_rowTake d2 b' gb n hk ob.p) rfl rfl ⟨⟨rfl, rfl⟩, trivial⟩ rfl rfl rfl ?_
    rintro x T1 ⟨rfl, rfl⟩
    refine ⟨rfl, ?_⟩
    refine ⟨trivial, rfl, rfl, bothV (n, x1, y1, true), wk rfl rfl rfl, rfl, rfl, ?_, d1, d2, ?_⟩
    · rfl
    · exact rows2_take _ d1 a' d2 b' ga gb
  · refine go 300 ?_
    refine ⟨fun g3 => (by cases g3), fun g3 => go 300 ?_⟩
    refine ⟨fun g4 => go 300 ?_, fun g4 => (by cases g4)⟩
    have em : (if m < n then m else n) = min n m := by split <;> omega
    have hk : 0 ≤ (if m < n then m else n) ∧ (if m < n then m else n) ≤ 1000000000000 := by simp only at na na' nb nb'; split <;> omega
    show CallThen _ _ _ _ _ _
    refine call_sub [1] (w_rowTake d1 a' ga (if m < n then m else n) hk oa.p) rfl rfl ⟨⟨rfl, rfl⟩, trivial⟩ rfl rfl rfl ?_
    rintro x T1 ⟨rfl, rfl⟩
    refine ⟨rfl, ?_⟩
    show CallThen _ _ _ _ _ _
    refine call_sub [3] (w_rowTake d2 b' gb (if m < n then m else n) hk ob.p) rfl rfl ⟨⟨rfl, rfl⟩, trivial⟩ rfl rfl rfl ?_
    rintro x T1 ⟨rfl, rfl⟩
    refine ⟨rfl, ?_⟩
    refine ⟨trivial, rfl, rfl, bothV ((if m < n then m else n), x1, y1, true), wk rfl rfl rfl, rfl, rfl, ?_, d1, d2, ?_⟩
    · rw [em]; rfl
    · rw [em]; exact rows2_take _ d1 a' d2 b' ga gb
end Bow
/- W58: leaftext.Transform. -/
namespace Bow
open Go Go.Proofs

theorem mk_len {m : Mk} (hok : m.Ok) (hw : m.w ≤ 1000000000000) : m.l.length ≤ 1000000000000 ∧ ∀ p ∈ m.l, p.put.length ≤ 1000000000000 := by
  have h1 := sumW_len hok.l
  have h2 := hok.k
  unfold Mk.w at hw
  refine ⟨by omega, fun p hp => ?_⟩
  have h3 := sumW_mem hok.l p hp
  have h4 := (hok.l p hp).k
  have h5 := (hok.l p hp).d
  unfold PieceT.w at h3
  omega
theorem mk_keep {m : Mk} (hok : m.Ok) : m.keep ≤ m.w := by
  have h1 := sumW_len hok.l
  unfold Mk.w
  omega
set_option maxRecDepth 100000 in
theorem w_done (m : Mk) (g : Nat) (hok : m.Ok) (hw : m.w ≤ 1000000000000) : Fun Tryz.prog 129 (mkT m g) [.ptr (.loc 0) 0] (fun x T => x = .tup [.osl (.loc 1) g 0 m.l.length, .bool (rightP m.l)] ∧ T = mkT m g) := by
  obtain ⟨h1, h2⟩ := mk_len hok hw
  have cr := w_RightW m.l h1 h2
  refine fun_fn 300 Tryz.func129 rfl rfl rfl fun imps B hi => ?_
  show Goes _ _ _ _
  refine goes_draw 300 ⟨rfl, by simp, _, cr, rfl, ?_⟩
  refine ⟨by kernel_rfl, ?_⟩
  exact ⟨trivial, rfl, rfl, rfl, rfl⟩

def mkAt (k : Nat) (m : Mk) (g : Nat) : HObj := .box [.osl (.loc k) g 0 m.l.length, .int .i64 m.keep]
/-- What the closure holds: the rows, which one is prior, the makers. -/
def putsT (prior : Bool) (da db : List PieceT) (s : Tr) (ga gb gx gy : Nat) : Heap :=
  [some (boxAt 1 da s.p ga), some (rowVec da s.p ga), some (boxAt 3 db s.q gb), some (rowVec db s.q gb), some (.box [.bool prior]), some (mkAt 6 s.x gx), some (mkVec s.x gx), some (mkAt 8 s.y gy), some (mkVec s.y gy)]
theorem putsT_len (prior : Bool) (da db p p' q q' : List PieceT) (x y : Mk) (ga gb gx gy : Nat) (h1 : p'.length = p.length) (h2 : q'.length = q.length) :
    [some (boxAt 1 da p ga), some (rowVec da p' ga), some (boxAt 3 db q gb), some (rowVec db q' gb), some (.box [.bool prior]), some (mkAt 6 x gx), some (mkVec x gx), some (mkAt 8 y gy), some (mkVec y gy)] = putsT prior da db ⟨p', q', x, y⟩ ga gb gx gy := by
  simp only [putsT, boxAt, h1, h2]

set_option pp.maxSteps 300 in
set_option maxHeartbeats 1000000 in
set_option maxRecDepth 100000 in
theorem w_puts (prior : Bool) (da db : List PieceT) (s : Tr) (ga gb gx gy : Nat) (hp : RowOk s.p) (hq : RowOk s.q) (hx : s.x.Ok) (hy : s.y.Ok) (wx : s.x.w + rowR s.p + rowR s.q ≤ 900000000000) (wy : s.y.w + rowR s.p + rowR s.q ≤ 900000000000) :
    Fun Tryz.prog 124 (putsT prior da db s ga gb gx gy) [.ptr (.loc 0) 0, .ptr (.loc 2) 0, .ptr (.loc 4) 0, .ptr (.loc 5) 0, .ptr (.loc 7) 0] (fun x T => x = .tup [] ∧ ∃ gx' gy', T = putsT prior da db (s.puts prior) ga gb gx' gy') := by
  obtain ⟨p, q, x, y⟩ := s
  simp only at hp hq hx hy wx wy
  have cp := w_rowPut da p ga
  have cq := w_rowPut db q gb
  have lp := rowPut_len p
  have lq := rowPut_len q
  obtain ⟨-, rp, -, bp⟩ := rowPut_ok hp
  obtain ⟨-, rq, -, bq⟩ := rowPut_ok hq
  have np := rowR_nn (rowPut_ok hp).1.nn
  have nq := rowR_nn (rowPut_ok hq).1.nn
  have nx := hx.k
  have ny := hy.k
  have e : Tr.puts prior ⟨p, q, x, y⟩ = bif prior then ⟨(rowPut p).2, (rowPut q).2, (x.put (rowPut p).1).kept (rowPut q).1.length, (y.kept (rowPut p).1.length).put (rowPut q).1⟩ else ⟨(rowPut p).2, (rowPut q).2, (x.kept (rowPut q).1.length).put (rowPut p).1, (y.put (rowPut q).1).kept (rowPut p).1.length⟩ := rfl
  rw [e]
  clear e
  obtain ⟨⟨a, p'⟩, ha⟩ : ∃ z, rowPut p = z := ⟨_, rfl⟩
  obtain ⟨⟨b, q'⟩, hb⟩ : ∃ z, rowPut q = z := ⟨_, rfl⟩
  rw [ha] at cp lp rp bp np ⊢
  rw [hb] at cq lq rq bq nq ⊢
  simp only at lp rp bp np lq rq bq nq
  clear ha hb
  refine fun_keep 9 rfl (fun_fn 300 Tryz.func124 rfl rfl rfl fun imps B hi => ?_)
  show CallThen _ _ _ _ _ _
  refine call_sub [1] cp rfl rfl ⟨⟨rfl, rfl⟩, trivial⟩ rfl rfl rfl ?_
  rintro z T1 ⟨rfl, rfl⟩
  refine ⟨rfl, ?_⟩
  show CallThen _ _ _ _ _ _
  refine call_sub [3] cq rfl rfl ⟨⟨rfl, rfl⟩, trivial⟩ rfl rfl rfl ?_
  rintro z T1 ⟨rfl, rfl⟩
  refine ⟨rfl, ?_⟩
  refine ⟨fun g1 => go 300 ?_, fun g1 => go 300 ?_⟩
  · subst g1
    show CallThen _ _ _ _ _ _
    refine call_sub [5, 6] (w_mkPut x gx a hx (by omega) (by omega)) rfl rfl ⟨⟨rfl, rfl⟩, ⟨rfl, rfl⟩, trivial⟩ rfl rfl rfl ?_
    rintro z T1 ⟨gx', rfl, rfl⟩
    refine ⟨rfl, ?_⟩
    obtain ⟨x1, x2⟩ := Mk.put_ok (s := a) hx
    have x3 := mk_keep x1
    have x4 := x1.k
    have y3 := mk_keep hy
    obtain ⟨y1, y2⟩ := Mk.kept_ok (n := (a.length : Int)) hy (Int.natCast_nonneg _)
    refine ⟨by constructor <;> (simp only; omega), ?_⟩
    refine ⟨by constructor <;> (simp only; omega), ?_⟩
    show CallThen _ _ _ _ _ _
    refine call_sub [7, 8] (w_mkPut (y.kept a.length) gy b y1 (by omega) (by omega)) rfl rfl ⟨⟨rfl, rfl⟩, ⟨rfl, rfl⟩, trivial⟩ rfl rfl rfl ?_
    rintro z T1 ⟨gy', rfl, rfl⟩
    refine ⟨rfl, ?_⟩
    refine ⟨trivial, rfl, rfl, putsT true da db ⟨p', q', (x.put a).kept b.length, (y.kept a.length).put b⟩ ga gb gx' gy', rfl, rfl, ?_, rfl, gx', gy', rfl⟩
    rw [← putsT_len true da db p p' q q' _ _ ga gb gx' gy' lp lq]
    exact ⟨⟨rfl, rfl⟩, ⟨rfl, rfl⟩, ⟨rfl, rfl⟩, ⟨rfl, rfl⟩, ⟨rfl, rfl⟩, ⟨rfl, rfl⟩, ⟨rfl, rfl⟩, ⟨rfl, rfl⟩, ⟨rfl, rfl⟩, trivial⟩
  · subst g1
    show CallThen _ _ _ _ _ _
    refine call_sub [7, 8] (w_mkPut y gy b hy (by omega) (by omega)) rfl rfl ⟨⟨rfl, rfl⟩, ⟨rfl, rfl⟩, trivial⟩ rfl rfl rfl ?_
    rintro z T1 ⟨gy', rfl, rfl⟩
    refine ⟨rfl, ?_⟩
    obtain ⟨y1, y2⟩ := Mk.put_ok (s := b) hy
    have y3 := mk_keep y1
    have y4 := y1.k
    have x3 := mk_keep hx
    obtain ⟨x1, x2⟩ := Mk.kept_ok (n := (b.length : Int)) hx (Int.natCast_nonneg _)
    refine ⟨by constructor <;> (simp only; omega), ?_⟩
    refine ⟨by constructor <;> (simp only; omega), ?_⟩
    show CallThen _ _ _ _ _ _
    refine call_sub [5, 6] (w_mkPut (x.kept b.length) gx a x1 (by omega) (by omega)) rfl rfl ⟨⟨rfl, rfl⟩, ⟨rfl, rfl⟩, trivial⟩ rfl rfl rfl ?_
    rintro z T1 ⟨gx', rfl, rfl⟩
    refine ⟨rfl, ?_⟩
    refine ⟨trivial, rfl, rfl, putsT false da db ⟨p', q', (x.kept b.length).put a, (y.put b).kept a.length⟩ ga gb gx' gy', rfl, rfl, ?_, rfl, gx', gy', rfl⟩
    rw [← putsT_len false da db p p' q q' _ _ ga gb gx' gy' lp lq]
    exact ⟨⟨rfl, rfl⟩, ⟨rfl, rfl⟩, ⟨rfl, rfl⟩, ⟨rfl, rfl⟩, ⟨rfl, rfl⟩, ⟨rfl, rfl⟩, ⟨rfl, rfl⟩, ⟨rfl, rfl⟩, ⟨rfl, rfl⟩, trivial⟩
end Bow
/- W59: leaftext.Transform, whole. -/
namespace Bow
open Go Go.Proofs

def TransV (r : List PieceT × List PieceT × Int) : V := .tup [piecesV r.1, piecesV r.2.1, .int .i64 r.2.2]
theorem transZ {e : Int} {R : List PieceT × List PieceT × Int} (h : R = ([], [], e)) : ∃ y, Wk (.tup [.nilsl, .nilsl, .int .i64 e]) y ∧ y.pureB = true ∧ y = TransV R := ⟨TransV ([], [], e), Wk.tup ⟨Wk.nil 3, Wk.nil 3, .refl _, trivial⟩, rfl, by rw [h]⟩
structure TrI where
  f : Nat
  s : Tr
  d1 : List PieceT
  d2 : List PieceT
  gx : Nat
  gy : Nat
def trT (prior : Bool) (j1 j2 : HObj) (ga gb : Nat) (i : TrI) : Heap :=
  [some (.box [.bool prior]), some j1, some (rowVec i.d1 i.s.p ga), some j2, some (rowVec i.d2 i.s.q gb), some (boxAt 2 i.d1 i.s.p ga), some (boxAt 4 i.d2 i.s.q gb), some (mkAt 9 i.s.x i.gx), some (mkAt 10 i.s.y i.gy), some (mkVec i.s.x i.gx), some (mkVec i.s.y i.gy)]

set_option maxHeartbeats 4000000 in
set_option maxRecDepth 100000 in
theorem w_Trans (a b : List PieceT) (prior : Bool) (ha : a.length ≤ 1000000) (hb : b.length ≤ 1000000) (pa : ∀ p ∈ a, p.put.length ≤ 1000000000) (pb : ∀ p ∈ b, p.put.length ≤ 1000000000) :
    Pure Tryz.prog 85 [piecesV a, piecesV b, .bool prior] (fun x => x = TransV (transP a b prior)) := by
  obtain ⟨R, hR⟩ : ∃ R, transP a b prior = R := ⟨_, rfl⟩
  rw [hR]
  refine pure_wk (pure_fn 300 Tryz.func85 rfl rfl rfl fun B => ?_)
  have bad : (rightP a = false ∨ rightP b = false) → R = ([], [], 2) := fun h => by
    rw [← hR]
    unfold transP
    rcases h with h | h
    · rw [h]; rfl
    · rw [h]; cases rightP a <;> rfl
  show CallThen _ _ _ _ _ _
  refine call_pure (w_Right a ha pa) rfl ?_
  rintro x rfl
  refine ⟨fun g1 => go 300 ?_, fun g1 => go 300 ?_⟩
  · exact ⟨trivial, rfl, rfl, rfl, transZ (bad (.inl (by simpa using g1)))⟩
  have ra : rightP a = true := by simpa using g1
  show CallThen _ _ _ _ _ _
  refine call_pure (w_Right b hb pb) rfl ?_
  rintro x rfl
  refine ⟨fun g2 => go 300 ?_, fun g2 => go 300 ?_⟩
  · exact ⟨trivial, rfl, rfl, rfl, transZ (bad (.inr (by simpa using g2)))⟩
  have rb : rightP b = true := by simpa using g2
  obtain ⟨na, sa⟩ := right_nn ra
  obtain ⟨nb, sb⟩ := right_nn rb
  obtain ⟨oa, wa⟩ := norm_ok ra
  obtain ⟨ob, wb⟩ := norm_ok rb
  have la := sumW_len na
  have lb := sumW_len nb
  show CallThen _ _ _ _ _ _
  refine call_sub [] (w_norm a na (by omega) (by omega)) rfl rfl trivial rfl rfl rfl ?_
  rintro x T1 ⟨ga, ka, rfl, rfl⟩
  refine ⟨rfl, ?_⟩
  show CallThen _ _ _ _ _ _
  refine call_sub [] (w_norm b nb (by omega) (by omega)) rfl rfl trivial rfl rfl rfl ?_
  rintro x T1 ⟨gb, kb, rfl, rfl⟩
  refine ⟨rfl, ?_⟩
  show Goes _ _ _ _
  refine goes_ownCell 7 0 3 rfl rfl ?_
  refine goes_ownCell 8 0 3 rfl rfl ?_
  obtain ⟨fin, hfin⟩ : ∃ fin, Tr.go prior (extN (normP a) + extN (normP b) + 1) ⟨normP a, normP b, Mk.nil, Mk.nil⟩ = fin := ⟨_, rfl⟩
  have good : R = bif !rightP fin.x.l || !rightP fin.y.l then ([], [], 3) else (fin.x.l, fin.y.l, 0) := by
    rw [← hR]
    unfold transP
    rw [ra, rb, hfin]
    rfl
  refine goes_iter (ι := TrI) (fun i => i.s.Ok ∧ extN i.s.p + extN i.s.q < i.f ∧ Tr.go prior i.f i.s = fin) (fun i => i.f)
    (fun _ => [(13, .fn (.func 124) [] [.ptr (.loc 5) 0, .ptr (.loc 6) 0, .ptr (.loc 0) 0, .ptr (.loc 7) 0, .ptr (.loc 8) 0]), (9, .ptr (.loc 5) 0), (10, .ptr (.loc 6) 0), (11, .ptr (.loc 7) 0), (12, .ptr (.loc 8) 0)])
    (trT prior (.box [.osl (.loc 2) ga 0 (normP a).length, .int .i64 ka]) (.box [.osl (.loc 4) gb 0 (normP b).length, .int .i64 kb]) ga gb)
    ⟨extN (normP a) + extN (normP b) + 1, ⟨normP a, normP b, Mk.nil, Mk.nil⟩, [], [], 0, 0⟩ 300 (fun _ => rfl) (fun _ => rfl) ⟨⟨⟨oa, ob, Mk.nil_ok, Mk.nil_ok, ?_, ?_⟩, Nat.lt_succ_self _, hfin⟩, ⟨⟨rfl, rfl⟩, ⟨rfl, rfl⟩, ⟨rfl, rfl⟩, ⟨rfl, rfl⟩, ⟨rfl, rfl⟩, trivial⟩,
      ⟨⟨rfl, rfl⟩, ⟨rfl, rfl⟩, ⟨rfl, rfl⟩, ⟨rfl, rfl⟩, ⟨rfl, rfl⟩, ⟨rfl, rfl⟩, ⟨rfl, rfl⟩, ⟨rfl, rfl⟩, ⟨rfl, rfl⟩, ⟨rfl, rfl⟩, ⟨rfl, rfl⟩, trivial⟩⟩ ?_
  · show (0 : Int) + sumW [] + 3 * (rowR (normP a) + rowR (normP b)) ≤ _
    simp only [sumW]; omega
  · show (0 : Int) + sumW [] + 3 * (rowR (normP a) + rowR (normP b)) ≤ _
    simp only [sumW]; omega
  rintro ⟨f, s, d1, d2, gx, gy⟩ ⟨k1, k2, k3⟩ next
  simp only at k1 k2 k3
  obtain ⟨f, rfl⟩ : ∃ f', f = f' + 1 := ⟨f - 1, by omega⟩
  have rp := rowR_nn k1.p.nn
  have rq := rowR_nn k1.q.nn
  have wx := k1.wx
  have wy := k1.wy
  obtain ⟨o1, e1, e2⟩ := Tr.puts_ok k1 prior
  show CallThen _ _ _ _ _ _
  refine call_sub [5, 2, 6, 4, 0, 7, 9, 8, 10] (w_puts prior d1 d2 s ga gb gx gy k1.p k1.q k1.x k1.y (by omega) (by omega)) rfl rfl
    ⟨⟨rfl, rfl⟩, ⟨rfl, rfl⟩, ⟨rfl, rfl⟩, ⟨rfl, rfl⟩, ⟨rfl, rfl⟩, ⟨rfl, rfl⟩, ⟨rfl, rfl⟩, ⟨rfl, rfl⟩, ⟨rfl, rfl⟩, trivial⟩ rfl rfl rfl ?_
  rintro z T1 ⟨rfl, gx', gy', rfl⟩
  refine ⟨rfl, ?_⟩
  obtain ⟨⟨p, q, x, y⟩, hs1⟩ : ∃ z, s.puts prior = z := ⟨_, rfl⟩
  rw [hs1] at o1 e1 e2 ⊢
  obtain ⟨op, oq, ox, oy, ux, uy⟩ := o1
  simp only at op oq ox oy ux uy e1 e2
  have rp' := rowR_nn op.nn
  have rq' := rowR_nn oq.nn
  obtain ⟨b1, b2, b3, b4, b5, b6⟩ := bothR_ok op oq
  have cb := w_both d1 p d2 q ga gb op oq
  obtain ⟨⟨⟨n, d, g, any⟩, p', q'⟩, hb1⟩ : ∃ z, bothR p q = z := ⟨_, rfl⟩
  have hgo := Tr.go_succ (f := f) hs1 hb1
  rw [hb1] at b1 b2 b3 b4 b5 b6 cb
  simp only at b1 b2 b3 b4 b5 b6
  show CallThen _ _ _ _ _ _
  refine call_sub [5, 2, 6, 4] cb rfl rfl ⟨⟨rfl, rfl⟩, ⟨rfl, rfl⟩, ⟨rfl, rfl⟩, ⟨rfl, rfl⟩, trivial⟩ rfl rfl rfl ?_
  rintro z T1 ⟨rfl, d1', d2', rfl⟩
  refine ⟨rfl, ?_⟩
  refine ⟨fun g3 => go 300 ?_, fun g3 => go 300 ?_⟩
  · have ha' : any = false := by simpa using g3
    subst ha'
    have hfx : fin = ⟨p', q', x, y⟩ := by rw [← k3, hgo]; rfl
    rw [hfx] at good
    simp only at good
    show CallThen _ _ _ _ _ _
    refine call_sub [7, 9] (w_done x gx' ox (by omega)) rfl rfl ⟨⟨rfl, rfl⟩, ⟨rfl, rfl⟩, trivial⟩ rfl rfl rfl ?_
    rintro z T1 ⟨rfl, rfl⟩
    refine ⟨rfl, ?_⟩
    show CallThen _ _ _ _ _ _
    refine call_sub [8, 10] (w_done y gy' oy (by omega)) rfl rfl ⟨⟨rfl, rfl⟩, ⟨rfl, rfl⟩, trivial⟩ rfl rfl rfl ?_
    rintro z T1 ⟨rfl, rfl⟩
    refine ⟨rfl, ?_⟩
    refine ⟨fun g4 => go 300 ?_, fun g4 => go 300 ?_⟩
    · have g4 : rightP x.l = false := by simpa using g4
      exact ⟨trivial, rfl, rfl, rfl, transZ (by rw [good, g4]; rfl)⟩
    have g4 : rightP x.l = true := by simpa using g4
    refine ⟨fun g5 => go 300 ?_, fun g5 => go 300 ?_⟩
    · have g5 : rightP y.l = false := by simpa using g5
      exact ⟨trivial, rfl, rfl, rfl, transZ (by rw [good, g4, g5]; rfl)⟩
    have g5 : rightP y.l = true := by simpa using g5
    have hres : TransV (x.l, y.l, 0) = TransV R := by rw [good, g4, g5]; rfl
    refine ⟨trivial, rfl, rfl, ?_⟩
    refine ⟨rfl, ?_⟩
    refine ⟨by simp, ?_⟩
    refine ⟨rfl, ?_⟩
    refine ⟨by simp, ?_⟩
    refine ⟨rfl, ?_⟩
    exact ⟨TransV (x.l, y.l, 0), Wk.refl _, rfl, hres⟩
  · have ha' : any = true := by simpa using g3
    subst ha'
    have cc := b5 rfl
    have c1 := cc.1
    have c2 := cc.2.1
    have c3 := cc.2.2
    have q1 : (Tr.does ⟨p', q', x, y⟩ n d g).Ok := (Tr.does_ok (p := p') (q := q') (x := x) (y := y) (n := n) (R := rowR p + rowR q) b1 b2 ox oy b3 c2 ux uy d g).1
    have hnext : Tr.go prior f (Tr.does ⟨p', q', x, y⟩ n d g) = fin := by rw [← k3, hgo]; rfl
    have hext : extN p' + extN q' < f := by omega
    refine ⟨fun g4 => go 300 ?_, fun g4 => go 300 ?_⟩
    · have g4 : d = true := g4
      subst g4
      refine ⟨fun g5 => go 300 ?_, fun g5 => go 300 ?_⟩
      · have g5 : g = true := g5
        subst g5
        show Goes _ _ _ _
        refine next ⟨f, ⟨p', q', x, y⟩, d1', d2', gx', gy'⟩ _ _ ⟨⟨q1, hext, hnext⟩, Nat.lt_succ_self _, ⟨⟨rfl, rfl⟩, ⟨rfl, rfl⟩, ⟨rfl, rfl⟩, ⟨rfl, rfl⟩, ⟨rfl, rfl⟩, trivial⟩,
          ⟨⟨rfl, rfl⟩, ⟨rfl, rfl⟩, ⟨rfl, rfl⟩, ⟨rfl, rfl⟩, ⟨rfl, rfl⟩, ⟨rfl, rfl⟩, ⟨rfl, rfl⟩, ⟨rfl, rfl⟩, ⟨rfl, rfl⟩, ⟨rfl, rfl⟩, ⟨rfl, rfl⟩, trivial⟩⟩
      · have g5 : g = false := g5
        subst g5
        refine ⟨fun _ => go 300 ?_, fun h => (by cases h)⟩
        show CallThen _ _ _ _ _ _
        refine call_sub [7, 9] (w_mkDrop x gx' n ox (by omega) b4) rfl rfl ⟨⟨rfl, rfl⟩, ⟨rfl, rfl⟩, trivial⟩ rfl rfl rfl ?_
        rintro z T1 ⟨gx2, rfl, rfl⟩
        refine ⟨rfl, ?_⟩
        show Goes _ _ _ _
        refine next ⟨f, ⟨p', q', x.drop n, y⟩, d1', d2', gx2, gy'⟩ _ _ ⟨⟨q1, hext, hnext⟩, Nat.lt_succ_self _, ⟨⟨rfl, rfl⟩, ⟨rfl, rfl⟩, ⟨rfl, rfl⟩, ⟨rfl, rfl⟩, ⟨rfl, rfl⟩, trivial⟩,
          ⟨⟨rfl, rfl⟩, ⟨rfl, rfl⟩, ⟨rfl, rfl⟩, ⟨rfl, rfl⟩, ⟨rfl, rfl⟩, ⟨rfl, rfl⟩, ⟨rfl, rfl⟩, ⟨rfl, rfl⟩, ⟨rfl, rfl⟩, ⟨rfl, rfl⟩, ⟨rfl, rfl⟩, trivial⟩⟩
    · have g4 : d = false := g4
      subst g4
      refine ⟨fun h => (by cases h), fun _ => go 300 ?_⟩
      refine ⟨fun g5 => go 300 ?_, fun g5 => go 300 ?_⟩
      · have g5 : g = true := g5
        subst g5
        show CallThen _ _ _ _ _ _
        refine call_sub [8, 10] (w_mkDrop y gy' n oy (by omega) b4) rfl rfl ⟨⟨rfl, rfl⟩, ⟨rfl, rfl⟩, trivial⟩ rfl rfl rfl ?_
        rintro z T1 ⟨gy2, rfl, rfl⟩
        refine ⟨rfl, ?_⟩
        show Goes _ _ _ _
        refine next ⟨f, ⟨p', q', x, y.drop n⟩, d1', d2', gx', gy2⟩ _ _ ⟨⟨q1, hext, hnext⟩, Nat.lt_succ_self _, ⟨⟨rfl, rfl⟩, ⟨rfl, rfl⟩, ⟨rfl, rfl⟩, ⟨rfl, rfl⟩, ⟨rfl, rfl⟩, trivial⟩,
          ⟨⟨rfl, rfl⟩, ⟨rfl, rfl⟩, ⟨rfl, rfl⟩, ⟨rfl, rfl⟩, ⟨rfl, rfl⟩, ⟨rfl, rfl⟩, ⟨rfl, rfl⟩, ⟨rfl, rfl⟩, ⟨rfl, rfl⟩, ⟨rfl, rfl⟩, ⟨rfl, rfl⟩, trivial⟩⟩
      · have g5 : g = false := g5
        subst g5
        have x3 := mk_keep ox
        have y3 := mk_keep oy
        have x4 := ox.k
        have y4 := oy.k
        refine ⟨by constructor <;> (simp only; omega), ?_⟩
        refine ⟨by constructor <;> (simp only; omega), ?_⟩
        show Goes _ _ _ _
        refine next ⟨f, ⟨p', q', x.kept n, y.kept n⟩, d1', d2', gx', gy'⟩ _ _ ⟨⟨q1, hext, hnext⟩, Nat.lt_succ_self _, ⟨⟨rfl, rfl⟩, ⟨rfl, rfl⟩, ⟨rfl, rfl⟩, ⟨rfl, rfl⟩, ⟨rfl, rfl⟩, trivial⟩,
          ⟨⟨rfl, rfl⟩, ⟨rfl, rfl⟩, ⟨rfl, rfl⟩, ⟨rfl, rfl⟩, ⟨rfl, rfl⟩, ⟨rfl, rfl⟩, ⟨rfl, rfl⟩, ⟨rfl, rfl⟩, ⟨rfl, rfl⟩, ⟨rfl, rfl⟩, ⟨rfl, rfl⟩, trivial⟩⟩
end Bow
/- W60: two edits of one leaf; square.Behind and Both, whole. -/
namespace Bow
open Go Go.Proofs

set_option pp.maxSteps 300 in
set_option maxHeartbeats 8000000 in
set_option maxRecDepth 100000 in
theorem w_rowE (b a : OpT) (prior : Bool) (ha : a.Ok) (_hb : b.Ok) (sa : soundO a = true) (sb : soundO b = true) (he : bothEdit b a = true) :
    Fun Tryz.prog 64 [] [opV b, opV a, .bool prior] (fun x T => ∃ g, x = .tup [.osl (.loc 2) g 0 1, .int .i64 (transP b.pieces a.pieces prior).2.2] ∧ T = [some (.box (opV (editO b a prior)).cells), some (.box (opV a).cells), some (.vec g 11 [opV (editO b a prior)])]) := by
  unfold bothEdit at he
  simp only [Bool.and_eq_true, decide_eq_true_eq] at he
  obtain ⟨k1, k2, k3⟩ := he
  have fa : formedB a = true := by unfold soundO at sa; rw [Bool.and_eq_true] at sa; exact sa.1
  have fb : formedB b = true := by unfold soundO at sb; rw [Bool.and_eq_true] at sb; exact sb.1
  have pa := may_len (formed_path fa)
  obtain ⟨l1, l2⟩ := right_bounds (formed_pieces fa k1)
  obtain ⟨l3, l4⟩ := right_bounds (formed_pieces fb k2)
  have hw : wonO b a = false := by unfold wonO; simp [k1, k2]
  have ct := w_Trans b.pieces a.pieces prior (by omega) (by omega) l4 l2
  have ee : editO b a prior = { b with pieces := (transP b.pieces a.pieces prior).1 } := rfl
  rw [ee]
  clear ee
  obtain ⟨⟨r1, r2, e⟩, hr⟩ : ∃ r, transP b.pieces a.pieces prior = r := ⟨_, rfl⟩
  rw [hr] at ct ⊢
  refine fun_fn 300 Tryz.func64 rfl rfl rfl fun imps B hi => ?_
  have : imps = [] := List.length_eq_zero_iff.1 hi
  subst this
  refine ⟨fun g1 => absurd (eq_of g1) (by omega), fun g1 => go 300 ?_⟩
  show CallThen _ _ _ _ _ _
  refine call_pure (w_won b a ha) rfl ?_
  rw [hw]
  rintro x rfl
  refine ⟨fun g2 => (by cases g2), fun g2 => go 300 ?_⟩
  refine ⟨fun g3 => go 300 ?_, fun g3 => absurd (eq_of' g3) (by omega)⟩
  refine ⟨fun g4 => go 300 ?_, fun g4 => absurd k1 (ne_of g4)⟩
  refine ⟨fun g5 => go 300 ?_, fun g5 => absurd k2 (ne_of g5)⟩
  show CallThen _ _ _ _ _ _
  refine call_pure (w_pathSame a.path b.path (by omega)) rfl ?_
  rw [decide_eq_true k3]
  rintro x rfl
  refine ⟨fun g6 => go 300 ?_, fun g6 => (by cases g6)⟩
  show CallThen _ _ _ _ _ _
  refine call_pure ct rfl ?_
  rintro x rfl
  refine ⟨⟨rfl, trivial⟩, ?_⟩
  exact ⟨trivial, rfl, rfl, _, rfl, rfl⟩

theorem edit_lt {b a : OpT} {prior : Bool} (hb : b.Ok) : (editO b a prior).Lt 1000000 ∧ ∀ p ∈ (editO b a prior).pieces, p.put.length ≤ 1000000000 := by
  obtain ⟨h1, h2⟩ := right_bounds (trans_right b.pieces a.pieces prior).1
  exact ⟨⟨hb.lt.path, hb.lt.to, hb.lt.label, hb.lt.key, hb.lt.value, by show (transP b.pieces a.pieces prior).1.length ≤ _; omega⟩, h2⟩
theorem behZ' {e : Int} {R : List OpT × Int} (h : R = ([], e)) : ∃ y, Wk (.tup [.nilsl, .int .i64 e]) y ∧ y.pureB = true ∧ y = BehV R := ⟨BehV ([], e), Wk.tup ⟨Wk.nil 11, .refl _, trivial⟩, rfl, by rw [h]⟩
set_option pp.maxSteps 300 in
set_option maxHeartbeats 4000000 in
set_option maxRecDepth 100000 in
theorem w_BehindE (b a : OpT) (prior : Bool) (ha : a.Ok) (hb : b.Ok) (he : bothEdit b a = true) :
    Pure Tryz.prog 38 [opV b, opV a, .bool prior] (fun x => x = BehV (behindE b a prior)) := by
  obtain ⟨R, hR⟩ : ∃ R, behindE b a prior = R := ⟨_, rfl⟩
  rw [hR]
  obtain ⟨hlt, hput⟩ := edit_lt (a := a) (prior := prior) hb
  refine pure_wk (pure_fn 300 Tryz.func38 rfl rfl rfl fun B => ?_)
  show CallThen _ _ _ _ _ _
  refine call_pure (w_sound a ha) rfl ?_
  rintro x rfl
  refine ⟨fun g1 => go 300 ?_, fun g1 => go 300 ?_⟩
  · have g1 : soundO a = false := by simpa using g1
    exact ⟨trivial, rfl, rfl, rfl, behZ' (by rw [← hR]; unfold behindE; rw [g1]; rfl)⟩
  have sa : soundO a = true := by simpa using g1
  show CallThen _ _ _ _ _ _
  refine call_pure (w_sound b hb) rfl ?_
  rintro x rfl
  refine ⟨fun g2 => go 300 ?_, fun g2 => go 300 ?_⟩
  · have g2 : soundO b = false := by simpa using g2
    exact ⟨trivial, rfl, rfl, rfl, behZ' (by rw [← hR]; unfold behindE; rw [sa, g2]; rfl)⟩
  have sb : soundO b = true := by simpa using g2
  have hrow := w_rowE b a prior ha hb sa sb he
  have e0 : R = bif decide ((transP b.pieces a.pieces prior).2.2 = 0) && formedB (editO b a prior) then ([bareO (editO b a prior)], 0) else ([], 3) := by
    rw [← hR]; unfold behindE; rw [sa, sb]; rfl
  obtain ⟨o, ho⟩ : ∃ o, editO b a prior = o := ⟨_, rfl⟩
  obtain ⟨e, hee⟩ : ∃ e, (transP b.pieces a.pieces prior).2.2 = e := ⟨_, rfl⟩
  rw [ho, hee] at hrow e0
  rw [ho] at hlt hput
  show CallThen _ _ _ _ _ _
  refine call_sub [] hrow rfl rfl trivial rfl rfl rfl ?_
  rintro x T1 ⟨G, rfl, rfl⟩
  refine ⟨rfl, ?_⟩
  refine ⟨fun g3 => go 300 ?_, fun g3 => go 300 ?_⟩
  · have g3 := ne_of' g3
    exact ⟨trivial, rfl, rfl, rfl, behZ' (by rw [e0, decide_eq_false g3]; rfl)⟩
  have g3 := eq_of' g3
  rw [decide_eq_true g3] at e0
  refine ⟨rfl, ?_⟩
  show Goes _ _ _ _
  refine goes_loop ?_
  refine go 300 ?_
  refine ⟨fun _ => go 300 ?_, fun h => absurd (not_lt_of h) (by decide)⟩
  refine ⟨rfl, by decide, by decide, rfl, _, rfl, ?_⟩
  show CallThen _ _ _ _ _ _
  refine call_pure (w_Formed o hlt hput) rfl ?_
  rintro x rfl
  refine ⟨fun g4 => go 300 ?_, fun g4 => go 300 ?_⟩
  · have g4 : formedB o = false := by simpa using g4
    exact ⟨trivial, rfl, rfl, rfl, behZ' (by rw [e0, g4]; rfl)⟩
  have g4 : formedB o = true := by simpa using g4
  rw [g4] at e0
  show CallThen _ _ _ _ _ _
  refine call_pure (w_Bare o hlt) rfl ?_
  rintro x rfl
  refine ⟨rfl, by decide, by decide, rfl, _, rfl, ?_⟩
  refine ⟨⟨by decide, by decide⟩, ?_⟩
  show Goes _ _ _ _
  refine goes_inLoop ?_
  refine go 300 ?_
  refine ⟨fun h => absurd (lt_of h) (by decide), fun _ => go 300 ?_⟩
  have hres : BehV ([bareO o], 0) = BehV R := by rw [e0]; rfl
  exact ⟨trivial, rfl, rfl, rfl, rfl, rfl, BehV ([bareO o], 0), Wk.refl _, rfl, hres⟩
theorem w_BehindX (b a : OpT) (prior : Bool) (ha : a.Ok) (hb : b.Ok) (hto : a.to.length ≤ 1000 ∧ b.to.length ≤ 1000) :
    Pure Tryz.prog 38 [opV b, opV a, .bool prior] (fun x => x = BehV (behindX b a prior)) := by
  unfold behindX
  cases he : bothEdit b a with
  | true => exact w_BehindE b a prior ha hb he
  | false => exact w_Behind b a prior ha hb he hto

set_option maxRecDepth 100000 in
theorem w_BothX (a b : OpT) (prior : Bool) (ha : a.Ok) (hb : b.Ok) (hto : a.to.length ≤ 1000 ∧ b.to.length ≤ 1000) :
    Pure Tryz.prog 33 [opV a, opV b, .bool prior] (fun x => x = BothV (bothX a b prior)) := by
  refine pure_wk (pure_fn 300 Tryz.func33 rfl rfl rfl fun B => ?_)
  show CallThen _ _ _ _ _ _
  refine call_pure (w_BehindX a b prior hb ha ⟨hto.2, hto.1⟩) rfl ?_
  rintro x rfl
  refine ⟨fun g1 => go 300 ?_, fun g1 => go 300 ?_⟩
  · have g1 : (behindX a b prior).2 ≠ 0 := ne_of' g1
    have e : bothX a b prior = ([], [], (behindX a b prior).2) := by unfold bothX; rw [decide_eq_false g1]; rfl
    rw [e]
    exact ⟨trivial, rfl, rfl, rfl, bothZ _⟩
  have g1 : (behindX a b prior).2 = 0 := eq_of' g1
  show CallThen _ _ _ _ _ _
  refine call_pure (w_BehindX b a (!prior) ha hb hto) rfl ?_
  rintro x rfl
  refine ⟨fun g2 => go 300 ?_, fun g2 => go 300 ?_⟩
  · have g2 : (behindX b a (!prior)).2 ≠ 0 := ne_of' g2
    have e : bothX a b prior = ([], [], (behindX b a (!prior)).2) := by unfold bothX; rw [decide_eq_true g1, decide_eq_false g2]; rfl
    rw [e]
    exact ⟨trivial, rfl, rfl, rfl, bothZ _⟩
  have g2 : (behindX b a (!prior)).2 = 0 := eq_of' g2
  have e : bothX a b prior = ((behindX a b prior).1, (behindX b a (!prior)).1, 0) := by unfold bothX; rw [decide_eq_true g1, decide_eq_true g2]; rfl
  rw [e]
  exact ⟨trivial, rfl, rfl, rfl, BothV ((behindX a b prior).1, (behindX b a (!prior)).1, 0), Wk.refl _, rfl, rfl⟩
end Bow
/- SP20: a bare operation does what it did, in plain Lean. -/
namespace Bow
open Go

theorem kinds (o : OpT) : o.kind = 1 ∨ o.kind = 2 ∨ o.kind = 3 ∨ o.kind = 4 ∨ o.kind = 5 ∨ o.kind = 6 ∨ (o.kind ≠ 1 ∧ o.kind ≠ 2 ∧ o.kind ≠ 3 ∧ o.kind ≠ 4 ∧ o.kind ≠ 5 ∧ o.kind ≠ 6) := by omega
end Bow
/- W48: operations that say the same. -/
namespace Bow
open Go Go.Proofs

set_option maxRecDepth 100000 in
theorem w_refSamePieces (xs ys : List PieceT) (hl : xs.length ≤ 1000000) : Pure Tryz.prog 50 [piecesV xs, piecesV ys] (fun x => x = .bool (decide (xs = ys))) := by
  refine pure_wk (pure_fn 300 Tryz.func50 rfl rfl rfl fun B => ?_)
  refine ⟨fun g1 => go 300 ?_, fun g1 => go 300 ?_⟩
  · have g1 := ne_of' g1
    exact ⟨trivial, rfl, rfl, rfl, leaf_ff (decide_eq_false fun e => g1 (by rw [e]))⟩
  have g1 : xs.length = ys.length := by have := eq_of' g1; simp at this; omega
  show Goes _ _ _ _
  refine goes_iter (ι := Nat) (fun i => i ≤ xs.length ∧ (xs.drop i = ys.drop i ↔ xs = ys)) (fun i => xs.length - i) (fun i => [(5, .int .i64 i), (0, piecesV xs), (1, piecesV ys)]) (fun _ => []) 0 300 (fun _ => rfl) (fun _ => rfl) ⟨⟨Nat.zero_le _, by simp⟩, ⟨⟨rfl, rfl⟩, ⟨rfl, rfl⟩, ⟨rfl, rfl⟩, trivial⟩, trivial⟩ ?_
  rintro i ⟨k1, k2⟩ next
  refine ⟨fun hlt => go 300 ?_, fun hge => go 300 ?_⟩
  · have hi : i < xs.length := by simpa using hlt
    have hi' : i < ys.length := by omega
    have hx : (xs.map pieceV)[i]? = some (pieceV xs[i]) := by simp [hi]
    have hy : (ys.map pieceV)[i]? = some (pieceV ys[i]) := by simp [hi']
    rw [attrs_take hi hi'] at k2
    show Goes _ _ _ _
    refine goes_draw 300 ⟨Int.natCast_nonneg i, _, hx, Int.natCast_nonneg i, _, hy, ?_⟩
    refine ⟨by kernel_rfl, ?_⟩
    refine ⟨by kernel_rfl, ?_⟩
    refine ⟨fun g2 => go 300 ?_, fun g2 => go 300 ?_⟩
    · refine ⟨trivial, rfl, rfl, rfl, leaf_ff (decide_eq_false fun e => ?_)⟩
      have := (k2.2 e).1
      rw [this] at g2
      simp at g2
    · refine ⟨by constructor <;> omega, ?_⟩
      have he : xs[i] = ys[i] := by
        simp at g2
        exact PieceT.ext g2.1 g2.2.1 g2.2.2
      exact next (i + 1) _ _ ⟨⟨hi, by rw [← k2]; exact ⟨fun h => ⟨he, h⟩, fun h => h.2⟩⟩, by omega, ⟨⟨rfl, rfl⟩, ⟨rfl, rfl⟩, ⟨rfl, rfl⟩, trivial⟩, trivial⟩
  · have hi : i = xs.length := by have : xs.length ≤ i := by simpa using hge
                                  omega
    subst hi
    refine ⟨trivial, rfl, rfl, rfl, leaf_tt (decide_eq_true (k2.1 ?_))⟩
    rw [List.drop_eq_nil_of_le (Nat.le_refl _), List.drop_eq_nil_of_le (by omega)]

set_option maxRecDepth 100000 in
theorem w_kitSamePieces (xs ys : List PieceT) (hl : xs.length ≤ 1000000) : Pure Tryz.prog 69 [piecesV xs, piecesV ys] (fun x => x = .bool (decide (xs = ys))) := by
  refine pure_wk (pure_fn 300 Tryz.func69 rfl rfl rfl fun B => ?_)
  refine ⟨fun g1 => go 300 ?_, fun g1 => go 300 ?_⟩
  · have g1 := ne_of' g1
    exact ⟨trivial, rfl, rfl, rfl, leaf_ff (decide_eq_false fun e => g1 (by rw [e]))⟩
  have g1 : xs.length = ys.length := by have := eq_of' g1; simp at this; omega
  show Goes _ _ _ _
  refine goes_iter (ι := Nat) (fun i => i ≤ xs.length ∧ (xs.drop i = ys.drop i ↔ xs = ys)) (fun i => xs.length - i) (fun i => [(5, .int .i64 i), (0, piecesV xs), (1, piecesV ys)]) (fun _ => []) 0 300 (fun _ => rfl) (fun _ => rfl) ⟨⟨Nat.zero_le _, by simp⟩, ⟨⟨rfl, rfl⟩, ⟨rfl, rfl⟩, ⟨rfl, rfl⟩, trivial⟩, trivial⟩ ?_
  rintro i ⟨k1, k2⟩ next
  refine ⟨fun hlt => go 300 ?_, fun hge => go 300 ?_⟩
  · have hi : i < xs.length := by simpa using hlt
    have hi' : i < ys.length := by omega
    have hx : (xs.map pieceV)[i]? = some (pieceV xs[i]) := by simp [hi]
    have hy : (ys.map pieceV)[i]? = some (pieceV ys[i]) := by simp [hi']
    rw [attrs_take hi hi'] at k2
    show Goes _ _ _ _
    refine goes_draw 300 ⟨Int.natCast_nonneg i, _, hx, Int.natCast_nonneg i, _, hy, ?_⟩
    refine ⟨by kernel_rfl, ?_⟩
    refine ⟨by kernel_rfl, ?_⟩
    refine ⟨fun g2 => go 300 ?_, fun g2 => go 300 ?_⟩
    · refine ⟨trivial, rfl, rfl, rfl, leaf_ff (decide_eq_false fun e => ?_)⟩
      have := (k2.2 e).1
      rw [this] at g2
      simp at g2
    · refine ⟨by constructor <;> omega, ?_⟩
      have he : xs[i] = ys[i] := by
        simp at g2
        exact PieceT.ext g2.1 g2.2.1 g2.2.2
      exact next (i + 1) _ _ ⟨⟨hi, by rw [← k2]; exact ⟨fun h => ⟨he, h⟩, fun h => h.2⟩⟩, by omega, ⟨⟨rfl, rfl⟩, ⟨rfl, rfl⟩, ⟨rfl, rfl⟩, trivial⟩, trivial⟩
  · have hi : i = xs.length := by have : xs.length ≤ i := by simpa using hge
                                  omega
    subst hi
    refine ⟨trivial, rfl, rfl, rfl, leaf_tt (decide_eq_true (k2.1 ?_))⟩
    rw [List.drop_eq_nil_of_le (Nat.le_refl _), List.drop_eq_nil_of_le (by omega)]

def eqO (x y : OpT) : Bool := decide (x.kind = y.kind) && (decide (x.path = y.path) && (decide (x.at_ = y.at_) && (decide (x.to = y.to) && (decide (x.id = y.id) && ((x.leaf == y.leaf) && (decide (x.label = y.label) && (decide (x.key = y.key) && (decide (x.value = y.value) && ((x.gone == y.gone) && decide (x.pieces = y.pieces))))))))))
def sameO (a b : OpT) : Bool := eqO (bareO a) (bareO b)
set_option maxHeartbeats 2000000 in
set_option maxRecDepth 100000 in
theorem w_SameO (a b : OpT) (ha : a.Lt 1000000) (hb : b.Lt 1000000) : Pure Tryz.prog 43 [opV a, opV b] (fun x => x = .bool (sameO a b)) := by
  have la := bare_lt ha
  have h1 := w_pathSame (bareO a).path (bareO b).path la.path
  have h2 := w_pathSame (bareO a).to (bareO b).to la.to
  have h3 := w_EqualPiece (bareO a).pieces (bareO b).pieces la.pieces
  refine pure_wk (pure_fn 300 Tryz.func43 rfl rfl rfl fun B => ?_)
  show Goes _ _ _ _
  refine goes_draw 300 ⟨_, w_Bare a ha, rfl, _, w_Bare b hb, rfl, ?_⟩
  refine ⟨by kernel_rfl, ?_⟩
  repeat' first
    | (refine ⟨fun _ => go 300 ?_, fun _ => go 300 ?_⟩)
    | (show CallThen _ _ _ _ _ _; refine call_pure h1 rfl ?_; rintro z rfl)
    | (show CallThen _ _ _ _ _ _; refine call_pure h2 rfl ?_; rintro z rfl)
    | (show CallThen _ _ _ _ _ _; refine call_pure h3 rfl ?_; rintro z rfl)
    | (refine ⟨trivial, rfl, rfl, rfl, leaf_ff ?_⟩)
    | (refine ⟨trivial, rfl, rfl, rfl, leaf_b ?_⟩)
    | fail
  all_goals (unfold sameO eqO; simp_all)

set_option maxHeartbeats 2000000 in
set_option maxRecDepth 100000 in
theorem w_refSameO (a b : OpT) (ha : a.Lt 1000000) (hb : b.Lt 1000000) : Pure Tryz.prog 22 [opV a, opV b] (fun x => x = .bool (sameO a b)) := by
  have la := bare_lt ha
  have h1 := w_refSame (bareO a).path (bareO b).path la.path
  have h2 := w_refSame (bareO a).to (bareO b).to la.to
  have h3 := w_refSamePieces (bareO a).pieces (bareO b).pieces la.pieces
  refine pure_wk (pure_fn 300 Tryz.func22 rfl rfl rfl fun B => ?_)
  show CallThen _ _ _ _ _ _
  refine call_pure (w_refBare a ha) rfl ?_
  rintro z rfl
  show CallThen _ _ _ _ _ _
  refine call_pure (w_refBare b hb) rfl ?_
  rintro z rfl
  repeat' first
    | (refine ⟨fun _ => go 300 ?_, fun _ => go 300 ?_⟩)
    | (show CallThen _ _ _ _ _ _; refine call_pure h1 rfl ?_; rintro z rfl)
    | (show CallThen _ _ _ _ _ _; refine call_pure h2 rfl ?_; rintro z rfl)
    | (show CallThen _ _ _ _ _ _; refine call_pure h3 rfl ?_; rintro z rfl)
    | (refine ⟨trivial, rfl, rfl, rfl, leaf_ff ?_⟩)
    | (refine ⟨trivial, rfl, rfl, rfl, leaf_b ?_⟩)
    | fail
  all_goals (unfold sameO eqO; simp_all)
end Bow
/- W61: the laws of chapter 12: what they use; the examples. -/
namespace Bow
open Go Go.Proofs

theorem okOpK {o : OpT} (h : (Nat.ble o.path.length 1000000 && Nat.ble o.to.length 1000000 && Nat.ble o.label.length 1000000 && Nat.ble o.key.length 1000000 && Nat.ble o.value.length 1000000 && Nat.ble o.pieces.length 1000000 && Nat.ble (putsLen o.pieces) 1000000) = true) : o.Ok := by
  simp only [Bool.and_eq_true, Nat.ble_eq] at h
  obtain ⟨⟨⟨⟨⟨⟨h1, h2⟩, h3⟩, h4⟩, h5⟩, h6⟩, h7⟩ := h
  exact ⟨⟨h1, h2, h3, h4, h5, h6⟩, by omega⟩
theorem ex12_0 : Pure Tryz.prog 38 [opV { noOp 1 with at_ := 1 }, opV { noOp 1 with at_ := 1 }, .bool true] (fun x => x = BehV ([{ noOp 1 with at_ := 1 }], 0)) := by
  have h := w_BehindX { noOp 1 with at_ := 1 } { noOp 1 with at_ := 1 } true (okOpK (by decide)) (okOpK (by decide)) ⟨by decide, by decide⟩
  rwa [show behindX { noOp 1 with at_ := 1 } { noOp 1 with at_ := 1 } true = ([{ noOp 1 with at_ := 1 }], 0) by kernel_rfl] at h
theorem ex12_1 : Pure Tryz.prog 38 [opV { noOp 1 with at_ := 1 }, opV { noOp 1 with at_ := 1 }, .bool false] (fun x => x = BehV ([{ noOp 1 with at_ := 2 }], 0)) := by
  have h := w_BehindX { noOp 1 with at_ := 1 } { noOp 1 with at_ := 1 } false (okOpK (by decide)) (okOpK (by decide)) ⟨by decide, by decide⟩
  rwa [show behindX { noOp 1 with at_ := 1 } { noOp 1 with at_ := 1 } false = ([{ noOp 1 with at_ := 2 }], 0) by kernel_rfl] at h
theorem ex12_2 : Pure Tryz.prog 38 [opV { noOp 5 with path := [0, 1] }, opV { noOp 2 with path := [0] }, .bool true] (fun x => x = BehV ([], 0)) := by
  have h := w_BehindX { noOp 5 with path := [0, 1] } { noOp 2 with path := [0] } true (okOpK (by decide)) (okOpK (by decide)) ⟨by decide, by decide⟩
  rwa [show behindX { noOp 5 with path := [0, 1] } { noOp 2 with path := [0] } true = ([], 0) by kernel_rfl] at h
theorem ex12_3 : Pure Tryz.prog 38 [opV { noOp 3 with path := [1], to := [0] }, opV { noOp 2 with path := [0] }, .bool true] (fun x => x = BehV ([{ noOp 2 with path := [0] }], 0)) := by
  have h := w_BehindX { noOp 3 with path := [1], to := [0] } { noOp 2 with path := [0] } true (okOpK (by decide)) (okOpK (by decide)) ⟨by decide, by decide⟩
  rwa [show behindX { noOp 3 with path := [1], to := [0] } { noOp 2 with path := [0] } true = ([{ noOp 2 with path := [0] }], 0) by kernel_rfl] at h
theorem ex12_4 : Pure Tryz.prog 38 [opV { noOp 2 with path := [0] }, opV { noOp 3 with path := [0, 0], to := [2] }, .bool true] (fun x => x = BehV ([{ noOp 2 with path := [2, 0] }, { noOp 2 with path := [0] }], 0)) := by
  have h := w_BehindX { noOp 2 with path := [0] } { noOp 3 with path := [0, 0], to := [2] } true (okOpK (by decide)) (okOpK (by decide)) ⟨by decide, by decide⟩
  rwa [show behindX { noOp 2 with path := [0] } { noOp 3 with path := [0, 0], to := [2] } true = ([{ noOp 2 with path := [2, 0] }, { noOp 2 with path := [0] }], 0) by kernel_rfl] at h
theorem ex12_5 : Pure Tryz.prog 38 [opV { noOp 3 with path := [2], to := [0, 1] }, opV { noOp 3 with path := [0], to := [2] }, .bool true] (fun x => x = BehV ([{ noOp 3 with path := [1, 0], to := [] }, { noOp 3 with path := [2], to := [0, 1] }], 0)) := by
  have h := w_BehindX { noOp 3 with path := [2], to := [0, 1] } { noOp 3 with path := [0], to := [2] } true (okOpK (by decide)) (okOpK (by decide)) ⟨by decide, by decide⟩
  rwa [show behindX { noOp 3 with path := [2], to := [0, 1] } { noOp 3 with path := [0], to := [2] } true = ([{ noOp 3 with path := [1, 0], to := [] }, { noOp 3 with path := [2], to := [0, 1] }], 0) by kernel_rfl] at h
theorem sm12_0 : Pure Tryz.prog 43 [opV { noOp 2 with path := [0] }, opV { noOp 2 with path := [0] }] (fun x => x = .bool true) := by
  have h := w_SameO { noOp 2 with path := [0] } { noOp 2 with path := [0] } (okOpK (by decide)).lt (okOpK (by decide)).lt
  rwa [show sameO { noOp 2 with path := [0] } { noOp 2 with path := [0] } = true by kernel_rfl] at h
theorem sm12_1 : Pure Tryz.prog 43 [opV { noOp 2 with path := [2, 0] }, opV { noOp 2 with path := [2, 0] }] (fun x => x = .bool true) := by
  have h := w_SameO { noOp 2 with path := [2, 0] } { noOp 2 with path := [2, 0] } (okOpK (by decide)).lt (okOpK (by decide)).lt
  rwa [show sameO { noOp 2 with path := [2, 0] } { noOp 2 with path := [2, 0] } = true by kernel_rfl] at h
theorem sm12_2 : Pure Tryz.prog 43 [opV { noOp 2 with path := [0] }, opV { noOp 2 with path := [0] }] (fun x => x = .bool true) := by
  have h := w_SameO { noOp 2 with path := [0] } { noOp 2 with path := [0] } (okOpK (by decide)).lt (okOpK (by decide)).lt
  rwa [show sameO { noOp 2 with path := [0] } { noOp 2 with path := [0] } = true by kernel_rfl] at h
theorem sm12_3 : Pure Tryz.prog 43 [opV { noOp 3 with path := [2], to := [0, 1] }, opV { noOp 3 with path := [2], to := [0, 1] }] (fun x => x = .bool true) := by
  have h := w_SameO { noOp 3 with path := [2], to := [0, 1] } { noOp 3 with path := [2], to := [0, 1] } (okOpK (by decide)).lt (okOpK (by decide)).lt
  rwa [show sameO { noOp 3 with path := [2], to := [0, 1] } { noOp 3 with path := [2], to := [0, 1] } = true by kernel_rfl] at h
set_option maxHeartbeats 4000000 in
set_option maxRecDepth 100000 in
theorem w_works12 : Pure Tryz.prog 14 [] (fun x => x = .bool true) := by
  refine pure_wk (pure_fn 300 Tryz.func14 rfl rfl rfl fun B => ?_)
  show CallThen _ _ _ _ _ _
  refine call_pure_frz ?_
  refine ⟨_, pure_args ex12_0 ⟨wk_op ⟨.refl _, Wk.nil 1, .refl _, Wk.nil 1, .refl _, Wk.ff, .refl _, .refl _, .refl _, Wk.ff, Wk.nil 3, trivial⟩, wk_op ⟨.refl _, Wk.nil 1, .refl _, Wk.nil 1, .refl _, Wk.ff, .refl _, .refl _, .refl _, Wk.ff, Wk.nil 3, trivial⟩, Wk.tt, trivial⟩ rfl rfl, rfl, ?_⟩
  rintro x rfl
  show CallThen _ _ _ _ _ _
  refine call_pure_frz ?_
  refine ⟨_, pure_args ex12_1 ⟨wk_op ⟨.refl _, Wk.nil 1, .refl _, Wk.nil 1, .refl _, Wk.ff, .refl _, .refl _, .refl _, Wk.ff, Wk.nil 3, trivial⟩, wk_op ⟨.refl _, Wk.nil 1, .refl _, Wk.nil 1, .refl _, Wk.ff, .refl _, .refl _, .refl _, Wk.ff, Wk.nil 3, trivial⟩, Wk.ff, trivial⟩ rfl rfl, rfl, ?_⟩
  rintro x rfl
  refine ⟨⟨rfl, rfl, trivial⟩, ⟨rfl, trivial⟩, ?_⟩
  show CallThen _ _ _ _ _ _
  refine call_pure_frz ?_
  refine ⟨rfl, rfl, rfl, rfl, _, pure_args ex12_2 ⟨wk_op ⟨.refl _, .refl _, .refl _, Wk.nil 1, .refl _, Wk.ff, .refl _, .refl _, .refl _, Wk.ff, Wk.nil 3, trivial⟩, wk_op ⟨.refl _, .refl _, .refl _, Wk.nil 1, .refl _, Wk.ff, .refl _, .refl _, .refl _, Wk.ff, Wk.nil 3, trivial⟩, Wk.tt, trivial⟩ rfl rfl, rfl, ?_⟩
  rintro x rfl
  refine ⟨⟨rfl, trivial⟩, ⟨rfl, trivial⟩, ⟨rfl, trivial⟩, ?_⟩
  show CallThen _ _ _ _ _ _
  refine call_pure_frz ?_
  refine ⟨rfl, rfl, rfl, rfl, rfl, rfl, _, pure_args ex12_3 ⟨wk_op ⟨.refl _, .refl _, .refl _, .refl _, .refl _, Wk.ff, .refl _, .refl _, .refl _, Wk.ff, Wk.nil 3, trivial⟩, wk_op ⟨.refl _, .refl _, .refl _, Wk.nil 1, .refl _, Wk.ff, .refl _, .refl _, .refl _, Wk.ff, Wk.nil 3, trivial⟩, Wk.tt, trivial⟩ rfl rfl, rfl, ?_⟩
  rintro x rfl
  refine ⟨⟨rfl, trivial⟩, ⟨rfl, rfl, trivial⟩, ⟨rfl, trivial⟩, ?_⟩
  show CallThen _ _ _ _ _ _
  refine call_pure_frz ?_
  refine ⟨rfl, rfl, rfl, rfl, rfl, rfl, _, pure_args ex12_4 ⟨wk_op ⟨.refl _, .refl _, .refl _, Wk.nil 1, .refl _, Wk.ff, .refl _, .refl _, .refl _, Wk.ff, Wk.nil 3, trivial⟩, wk_op ⟨.refl _, .refl _, .refl _, .refl _, .refl _, Wk.ff, .refl _, .refl _, .refl _, Wk.ff, Wk.nil 3, trivial⟩, Wk.tt, trivial⟩ rfl rfl, rfl, ?_⟩
  rintro x rfl
  refine ⟨⟨rfl, trivial⟩, ⟨rfl, rfl, trivial⟩, ⟨rfl, trivial⟩, ⟨rfl, trivial⟩, ?_⟩
  show CallThen _ _ _ _ _ _
  refine call_pure_frz ?_
  refine ⟨rfl, rfl, rfl, rfl, rfl, rfl, rfl, rfl, _, pure_args ex12_5 ⟨wk_op ⟨.refl _, .refl _, .refl _, .refl _, .refl _, Wk.ff, .refl _, .refl _, .refl _, Wk.ff, Wk.nil 3, trivial⟩, wk_op ⟨.refl _, .refl _, .refl _, .refl _, .refl _, Wk.ff, .refl _, .refl _, .refl _, Wk.ff, Wk.nil 3, trivial⟩, Wk.tt, trivial⟩ rfl rfl, rfl, ?_⟩
  rintro x rfl
  iterate 12 refine ⟨fun g => absurd rfl (ne_of' g), fun _ => go 300 ?_⟩
  refine ⟨by decide, _, rfl, ?_⟩
  refine ⟨fun _ => go 300 ?_, fun g => absurd rfl (ne_of g)⟩
  refine ⟨by decide, _, rfl, ?_⟩
  refine ⟨fun _ => go 300 ?_, fun g => absurd rfl (ne_of g)⟩
  refine ⟨by decide, _, rfl, ⟨rfl, trivial⟩, ?_⟩
  show CallThen _ _ _ _ _ _
  refine call_pure_frz ?_
  refine ⟨rfl, rfl, _, pure_args sm12_0 ⟨.refl _, wk_op ⟨.refl _, .refl _, .refl _, Wk.nil 1, .refl _, Wk.ff, .refl _, .refl _, .refl _, Wk.ff, Wk.nil 3, trivial⟩, trivial⟩ rfl rfl, rfl, ?_⟩
  rintro x rfl
  refine ⟨fun _ => go 300 ?_, fun g => (by cases g)⟩
  refine ⟨by decide, _, rfl, ⟨rfl, rfl, trivial⟩, ?_⟩
  show CallThen _ _ _ _ _ _
  refine call_pure_frz ?_
  refine ⟨rfl, rfl, _, pure_args sm12_1 ⟨.refl _, wk_op ⟨.refl _, .refl _, .refl _, Wk.nil 1, .refl _, Wk.ff, .refl _, .refl _, .refl _, Wk.ff, Wk.nil 3, trivial⟩, trivial⟩ rfl rfl, rfl, ?_⟩
  rintro x rfl
  refine ⟨fun _ => go 300 ?_, fun g => (by cases g)⟩
  refine ⟨by decide, _, rfl, ⟨rfl, trivial⟩, ?_⟩
  show CallThen _ _ _ _ _ _
  refine call_pure_frz ?_
  refine ⟨rfl, rfl, _, pure_args sm12_2 ⟨.refl _, wk_op ⟨.refl _, .refl _, .refl _, Wk.nil 1, .refl _, Wk.ff, .refl _, .refl _, .refl _, Wk.ff, Wk.nil 3, trivial⟩, trivial⟩ rfl rfl, rfl, ?_⟩
  rintro x rfl
  refine ⟨fun _ => go 300 ?_, fun g => (by cases g)⟩
  refine ⟨by decide, _, rfl, ?_⟩
  refine ⟨fun _ => go 300 ?_, fun g => absurd rfl (ne_of g)⟩
  refine ⟨by decide, _, rfl, ⟨rfl, trivial⟩, ⟨rfl, rfl, trivial⟩, ?_⟩
  show CallThen _ _ _ _ _ _
  refine call_pure_frz ?_
  refine ⟨rfl, rfl, rfl, rfl, _, pure_args sm12_3 ⟨.refl _, wk_op ⟨.refl _, .refl _, .refl _, .refl _, .refl _, Wk.ff, .refl _, .refl _, .refl _, Wk.ff, Wk.nil 3, trivial⟩, trivial⟩ rfl rfl, rfl, ?_⟩
  rintro x rfl
  exact ⟨trivial, rfl, rfl, rfl, leaf_b rfl⟩

/-- Some truth value. -/
def isB (x : V) : Prop := ∃ b : Bool, x = .bool b
set_option maxHeartbeats 2000000 in
set_option maxRecDepth 100000 in
theorem w_Small (l : List PieceT) (top : Nat) (hl : l.length ≤ 1000000) (ht : top ≤ 1000000) : Pure Tryz.prog 37 [piecesV l, .int .i64 top] isB := by
  have ff : ∃ y, Wk .ff y ∧ y.pureB = true ∧ isB y := ⟨.bool false, Wk.ff, rfl, false, rfl⟩
  have tt : ∃ y, Wk .tt y ∧ y.pureB = true ∧ isB y := ⟨.bool true, Wk.tt, rfl, true, rfl⟩
  refine pure_wk (pure_fn 300 Tryz.func37 rfl rfl rfl fun B => ?_)
  refine ⟨fun g1 => go 300 ?_, fun g1 => go 300 ?_⟩
  · exact ⟨trivial, rfl, rfl, rfl, ff⟩
  show Goes _ _ _ _
  refine goes_iter (ι := Nat × Int) (fun i => i.1 ≤ l.length ∧ 0 ≤ i.2 ∧ i.2 ≤ top) (fun i => l.length - i.1) (fun i => [(6, .int .i64 i.1), (5, .int .i64 i.2), (0, piecesV l), (1, .int .i64 top)]) (fun _ => []) (0, 0) 300 (fun _ => rfl) (fun _ => rfl) ⟨⟨Nat.zero_le _, Int.le_refl _, Int.natCast_nonneg _⟩, ⟨⟨rfl, rfl⟩, ⟨rfl, rfl⟩, ⟨rfl, rfl⟩, ⟨rfl, rfl⟩, trivial⟩, trivial⟩ ?_
  rintro ⟨i, n⟩ ⟨k1, k2, k3⟩ next
  simp only at k1 k2 k3
  refine ⟨fun hlt => go 300 ?_, fun hge => go 300 ?_⟩
  · have hi : i < l.length := by simpa using hlt
    have hx : (l.map pieceV)[i]? = some (pieceV l[i]) := by simp [hi]
    show Goes _ _ _ _
    refine goes_draw 300 ⟨Int.natCast_nonneg i, _, hx, Int.natCast_nonneg i, _, hx, ?_⟩
    refine ⟨by kernel_rfl, ?_⟩
    refine ⟨fun g1 => go 300 ?_, fun g1 => go 300 ?_⟩ <;> refine ⟨fun g2 => go 300 ?_, fun g2 => go 300 ?_⟩
    all_goals
      simp only [decide_eq_true_eq, decide_eq_false_iff_not] at g1 g2
      refine ⟨by constructor <;> omega, ?_⟩
      refine ⟨fun g3 => go 300 ?_, fun g3 => go 300 ?_⟩
      · exact ⟨trivial, rfl, rfl, rfl, ff⟩
      simp only [decide_eq_false_iff_not] at g3
      refine ⟨by constructor <;> omega, by constructor <;> omega, ?_⟩
      refine ⟨fun g4 => go 300 ?_, fun g4 => go 300 ?_⟩
      · exact ⟨trivial, rfl, rfl, rfl, ff⟩
      simp only [decide_eq_false_iff_not] at g4
      refine ⟨Int.natCast_nonneg i, _, hx, by constructor <;> omega, by constructor <;> omega, by constructor <;> omega, ?_⟩
      refine ⟨fun g5 => go 300 ?_, fun g5 => go 300 ?_⟩
      · exact ⟨trivial, rfl, rfl, rfl, ff⟩
      simp only [decide_eq_false_iff_not] at g5
      refine ⟨by constructor <;> omega, by constructor <;> omega, Int.natCast_nonneg i, _, hx, by constructor <;> omega, by constructor <;> omega, ?_⟩
      show Goes _ _ _ _
      refine next (i + 1, _) _ _ ⟨⟨hi, ?_, ?_⟩, by simp only; omega, ⟨⟨rfl, rfl⟩, ⟨rfl, rfl⟩, ⟨rfl, rfl⟩, ⟨rfl, rfl⟩, trivial⟩, trivial⟩
      · simp only; omega
      · simp only; omega
  · exact ⟨trivial, rfl, rfl, rfl, tt⟩

/-- A list is the same as itself. -/
theorem w_same12 (l : List OpT) (hl : l.length ≤ 1000000) (hok : ∀ o ∈ l, o.Lt 1000000) : Pure Tryz.prog 40 [opsV l, opsV l] (fun x => x = .bool true) := by
  refine pure_wk (pure_fn 300 Tryz.func40 rfl rfl rfl fun B => ?_)
  refine ⟨fun g => absurd rfl (ne_of' g), fun _ => go 300 ?_⟩
  show Goes _ _ _ _
  refine goes_iter (ι := Nat) (fun i => i ≤ l.length) (fun i => l.length - i) (fun i => [(5, .int .i64 i), (0, opsV l), (1, opsV l)]) (fun _ => []) 0 300 (fun _ => rfl) (fun _ => rfl) ⟨Nat.zero_le _, ⟨⟨rfl, rfl⟩, ⟨rfl, rfl⟩, ⟨rfl, rfl⟩, trivial⟩, trivial⟩ ?_
  rintro i k1 next
  refine ⟨fun hlt => go 300 ?_, fun hge => go 300 ?_⟩
  · have hi : i < l.length := by simpa using hlt
    have hx : (l.map opV)[i]? = some (opV l[i]) := by simp [hi]
    have h := hok l[i] (List.getElem_mem hi)
    show Goes _ _ _ _
    refine goes_draw 300 ⟨Int.natCast_nonneg i, _, hx, Int.natCast_nonneg i, _, hx, ?_⟩
    refine ⟨by kernel_rfl, by kernel_rfl, by kernel_rfl, ?_⟩
    refine ⟨fun g => absurd rfl (ne_of' g), fun _ => go 300 ?_⟩
    show CallThen _ _ _ _ _ _
    refine call_pure (w_refSame (l[i]).path (l[i]).path h.path) rfl ?_
    rintro x rfl
    refine ⟨fun g => absurd g (by simp), fun _ => go 300 ?_⟩
    refine ⟨fun g => absurd rfl (ne_of' g), fun _ => go 300 ?_⟩
    show CallThen _ _ _ _ _ _
    refine call_pure (w_refSame (l[i]).to (l[i]).to h.to) rfl ?_
    rintro x rfl
    refine ⟨fun g => absurd g (by simp), fun _ => go 300 ?_⟩
    refine ⟨fun g => absurd rfl (ne_of' g), fun _ => go 300 ?_⟩
    refine ⟨fun g => absurd g (by simp), fun _ => go 300 ?_⟩
    refine ⟨fun g => absurd g (by simp), fun _ => go 300 ?_⟩
    refine ⟨fun g => absurd g (by simp), fun _ => go 300 ?_⟩
    refine ⟨fun g => absurd g (by simp), fun _ => go 300 ?_⟩
    refine ⟨fun g => absurd g (by simp), fun _ => go 300 ?_⟩
    show CallThen _ _ _ _ _ _
    refine call_pure (w_kitSamePieces (l[i]).pieces (l[i]).pieces h.pieces) rfl ?_
    rintro x rfl
    refine ⟨fun g => absurd g (by simp), fun _ => go 300 ?_⟩
    refine ⟨by constructor <;> omega, ?_⟩
    show Goes _ _ _ _
    exact next (i + 1) _ _ ⟨hi, by omega, ⟨⟨rfl, rfl⟩, ⟨rfl, rfl⟩, ⟨rfl, rfl⟩, trivial⟩, trivial⟩
  · exact ⟨trivial, rfl, rfl, rfl, leaf_tt rfl⟩
end Bow
/- W62: SquareTurned. -/
namespace Bow
open Go Go.Proofs

theorem sound_formed {o : OpT} (h : soundO o = true) : formedB o = true := by unfold soundO at h; rw [Bool.and_eq_true] at h; exact h.1
theorem behO_ok {b a : OpT} {prior : Bool} (ha : a.Ok) (hb : b.Ok) (ta : a.to.length ≤ 1000) (tb : b.to.length ≤ 1000) : ((behindO b a prior).1.length ≤ 2 ∧ ∀ o ∈ (behindO b a prior).1, o.Ok) := by
  unfold behindO
  cases sa : soundO a with
  | false => exact ⟨by simp, by simp⟩
  | true =>
    cases sb : soundO b with
    | false => exact ⟨by simp, by simp⟩
    | true =>
      have pa := may_len (formed_path (sound_formed sa))
      have pb := may_len (formed_path (sound_formed sb))
      have h := row_ok (prior := prior) ha hb (by omega) (by omega) ta tb
      have hl := row_len b a prior
      cases (rowO b a prior).all formedB with
      | false => exact ⟨by simp, by simp⟩
      | true =>
        refine ⟨by simpa using hl, fun o ho => ?_⟩
        obtain ⟨o', h1, rfl⟩ := List.mem_map.1 (by simpa using ho)
        exact bare_ok (h o' h1)
theorem right_puts {l : List PieceT} (h : rightP l = true) : putsLen l ≤ 1048576 := by
  unfold rightP at h
  rw [Bool.and_eq_true] at h
  have := (rightGo_ok h.2).2
  rcases this with rfl | this
  · exact Nat.zero_le _
  · omega
theorem behX_lt {b a : OpT} {prior : Bool} (ha : a.Ok) (hb : b.Ok) (ta : a.to.length ≤ 1000) (tb : b.to.length ≤ 1000) : ((behindX b a prior).1.length ≤ 2 ∧ ∀ o ∈ (behindX b a prior).1, o.Lt 1000000 ∧ ∀ p ∈ o.pieces, p.put.length ≤ 1000000000) := by
  unfold behindX
  cases bothEdit b a with
  | false =>
    obtain ⟨h1, h2⟩ := behO_ok (prior := prior) ha hb ta tb
    exact ⟨h1, fun o ho => ⟨(h2 o ho).lt, (h2 o ho).each⟩⟩
  | true =>
    obtain ⟨h1, h2⟩ := edit_lt (a := a) (prior := prior) hb
    simp only [cond_true]
    unfold behindE
    cases !soundO a || !soundO b with
    | true => exact ⟨by simp, by simp⟩
    | false =>
      cases decide ((transP b.pieces a.pieces prior).2.2 = 0) && formedB (editO b a prior) with
      | false => exact ⟨by simp, by simp⟩
      | true =>
        refine ⟨by simp, fun o ho => ?_⟩
        have : o = bareO (editO b a prior) := by simpa using ho
        subst this
        refine ⟨bare_lt h1, fun p hp => h2 p ?_⟩
        have : (bareO (editO b a prior)).pieces = [] ∨ (bareO (editO b a prior)).pieces = (editO b a prior).pieces := by
          unfold bareO
          cases (editO b a prior).kind == 1 <;> cases (editO b a prior).kind == 2 <;> cases (editO b a prior).kind == 3 <;> cases (editO b a prior).kind == 4 <;> cases (editO b a prior).kind == 5 <;> cases (editO b a prior).kind == 6 <;> simp [noOp]
        rcases this with e | e
        · rw [e] at hp; cases hp
        · rw [e] at hp; exact hp
theorem bothX_turn (a b : OpT) (prior : Bool) : bothX b a (!prior) = ((bothX a b prior).2.1, (bothX a b prior).1, (bothX b a (!prior)).2.2) ∧ (decide ((bothX a b prior).2.2 = 0) = decide ((bothX b a (!prior)).2.2 = 0)) := by
  unfold bothX
  rw [Bool.not_not]
  by_cases h1 : (behindX a b prior).2 = 0 <;> by_cases h2 : (behindX b a (!prior)).2 = 0 <;> simp [h1, h2]
theorem bothX_lt {a b : OpT} {prior : Bool} (ha : a.Ok) (hb : b.Ok) (ta : a.to.length ≤ 1000) (tb : b.to.length ≤ 1000) :
    ((bothX a b prior).1.length ≤ 2 ∧ ∀ o ∈ (bothX a b prior).1, o.Lt 1000000 ∧ ∀ p ∈ o.pieces, p.put.length ≤ 1000000000) ∧ ((bothX a b prior).2.1.length ≤ 2 ∧ ∀ o ∈ (bothX a b prior).2.1, o.Lt 1000000 ∧ ∀ p ∈ o.pieces, p.put.length ≤ 1000000000) := by
  have h1 := behX_lt (prior := prior) hb ha tb ta
  have h2 := behX_lt (prior := !prior) ha hb ta tb
  unfold bothX
  cases decide ((behindX a b prior).2 = 0) with
  | false => exact ⟨⟨by simp, by simp⟩, ⟨by simp, by simp⟩⟩
  | true =>
    cases decide ((behindX b a (!prior)).2 = 0) with
    | false => exact ⟨⟨by simp, by simp⟩, ⟨by simp, by simp⟩⟩
    | true => exact ⟨h1, h2⟩

set_option maxHeartbeats 2000000 in
set_option maxRecDepth 100000 in
theorem w_SquareTurned (a b : OpT) (prior : Bool) : Pure Tryz.prog 13 [opV a, opV b, .bool prior] (fun x => x = .bool true) := by
  refine pure_wk (pure_fn 300 Tryz.func13 rfl rfl rfl fun B => ?_)
  have hw := w_works12
  show CallThen _ _ _ _ _ _
  refine call_pure (w_LightX a 200 (by decide)) rfl ?_
  rintro x rfl
  refine ⟨fun g1 => go 300 ?_, fun g1 => go 300 ?_⟩
  · show CallThen _ _ _ _ _ _
    refine call_pure hw rfl ?_
    rintro x rfl
    exact ⟨trivial, rfl, rfl, rfl, leaf_b rfl⟩
  have ha := light_ok (top := 200) (o := a) (by simpa using g1) (by decide)
  have la := ((lightB_iff a 200).1 (by simpa using g1)).1
  show CallThen _ _ _ _ _ _
  refine call_pure (w_LightX b 200 (by decide)) rfl ?_
  rintro x rfl
  refine ⟨fun g2 => go 300 ?_, fun g2 => go 300 ?_⟩
  · show CallThen _ _ _ _ _ _
    refine call_pure hw rfl ?_
    rintro x rfl
    exact ⟨trivial, rfl, rfl, rfl, leaf_b rfl⟩
  have hb := light_ok (top := 200) (o := b) (by simpa using g2) (by decide)
  have lb := ((lightB_iff b 200).1 (by simpa using g2)).1
  have a1 := la.pieces
  have a2 := la.to
  have b1 := lb.pieces
  have b2 := lb.to
  show CallThen _ _ _ _ _ _
  refine call_pure (w_Small a.pieces 400 (by omega) (by decide)) rfl ?_
  rintro x ⟨s1, rfl⟩
  refine ⟨fun g3 => go 300 ?_, fun g3 => go 300 ?_⟩
  · show CallThen _ _ _ _ _ _
    refine call_pure hw rfl ?_
    rintro x rfl
    exact ⟨trivial, rfl, rfl, rfl, leaf_b rfl⟩
  show CallThen _ _ _ _ _ _
  refine call_pure (w_Small b.pieces 400 (by omega) (by decide)) rfl ?_
  rintro x ⟨s2, rfl⟩
  refine ⟨fun g4 => go 300 ?_, fun g4 => go 300 ?_⟩
  · show CallThen _ _ _ _ _ _
    refine call_pure hw rfl ?_
    rintro x rfl
    exact ⟨trivial, rfl, rfl, rfl, leaf_b rfl⟩
  have h1 := w_BothX a b prior ha hb ⟨by omega, by omega⟩
  have h2 := w_BothX b a (!prior) hb ha ⟨by omega, by omega⟩
  obtain ⟨t1, t2⟩ := bothX_turn a b prior
  obtain ⟨⟨l1, l2⟩, l3, l4⟩ := bothX_lt (prior := prior) ha hb (by omega) (by omega)
  rw [t1] at h2 t2
  generalize (bothX b a (!prior)).2.2 = f at h2 t2
  obtain ⟨⟨x, y, e⟩, hr⟩ : ∃ z, bothX a b prior = z := ⟨_, rfl⟩
  rw [hr] at h1 h2 t2 l1 l2 l3 l4
  show CallThen _ _ _ _ _ _
  refine call_pure h1 rfl ?_
  rintro z rfl
  show CallThen _ _ _ _ _ _
  refine call_pure h2 rfl ?_
  rintro z rfl
  refine ⟨fun _ => go 300 ?_, fun g => ?_⟩
  · show CallThen _ _ _ _ _ _
    refine call_pure (w_same12 x (by simp only at l1; omega) (fun o ho => (l2 o ho).1)) rfl ?_
    rintro z rfl
    refine ⟨fun _ => go 300 ?_, fun g => (by cases g)⟩
    show CallThen _ _ _ _ _ _
    refine call_pure (w_same12 y (by simp only at l3; omega) (fun o ho => (l4 o ho).1)) rfl ?_
    rintro z rfl
    refine ⟨fun _ => go 300 ?_, fun g => (by cases g)⟩
    show CallThen _ _ _ _ _ _
    refine call_pure hw rfl ?_
    rintro z rfl
    exact ⟨trivial, rfl, rfl, rfl, leaf_b rfl⟩
  · exfalso
    simp only at t2
    rw [t2] at g
    simp at g
end Bow
/- W63: lists of operations: joined (slices.Concat), made bare; which are too many. -/
namespace Bow
open Go Go.Proofs

end Bow
/- W64: lists.bring, Both. -/
namespace Bow
open Go Go.Proofs

/-- Operations of a size that may be asked about. -/
def OkL (l : List OpT) : Prop := ∀ o ∈ l, o.Ok ∧ o.to.length ≤ 1000
theorem bare_formed_ok {o : OpT} (h : formedB o = true) : (bareO o).Ok ∧ (bareO o).to.length ≤ 1000 := by
  have hp := may_len (formed_path h)
  have nil : ∀ k : Int, (noOp k).Ok := fun k => ⟨⟨Nat.zero_le _, Nat.zero_le _, Nat.zero_le _, Nat.zero_le _, Nat.zero_le _, Nat.zero_le _⟩, Nat.zero_le _⟩
  unfold bareO
  cases k1 : o.kind == 1 with
  | true =>
    have hk : o.kind = 1 := eq_of_beq k1
    have hl : o.label.length ≤ 64 := by
      unfold formedB at h
      rw [hk] at h
      simp only [Bool.and_eq_true] at h
      have := h.2
      simp at this
      omega
    exact ⟨⟨⟨by show o.path.length ≤ _; omega, Nat.zero_le _, by show o.label.length ≤ _; omega, Nat.zero_le _, Nat.zero_le _, Nat.zero_le _⟩, Nat.zero_le _⟩, Nat.zero_le _⟩
  | false => cases k2 : o.kind == 2 with
    | true => exact ⟨⟨⟨by show o.path.length ≤ _; omega, Nat.zero_le _, Nat.zero_le _, Nat.zero_le _, Nat.zero_le _, Nat.zero_le _⟩, Nat.zero_le _⟩, Nat.zero_le _⟩
    | false => cases k3 : o.kind == 3 with
      | true =>
        have ht := may_len (good_to h (eq_of_beq k3))
        exact ⟨⟨⟨by show o.path.length ≤ _; omega, by show o.to.length ≤ _; omega, Nat.zero_le _, Nat.zero_le _, Nat.zero_le _, Nat.zero_le _⟩, Nat.zero_le _⟩, by show o.to.length ≤ _; omega⟩
      | false => cases k4 : o.kind == 4 with
        | true =>
          have hk : o.kind = 4 := eq_of_beq k4
          have hl : o.key.length ≤ 64 ∧ (o.gone = true ∨ o.value.length ≤ 256) := by
            unfold formedB at h
            rw [hk] at h
            simp [keyOk] at h
            exact ⟨h.2.1.2, h.2.2.imp id (fun h => by omega)⟩
          refine ⟨⟨⟨by show o.path.length ≤ _; omega, Nat.zero_le _, Nat.zero_le _, by show o.key.length ≤ _; omega, ?_, Nat.zero_le _⟩, Nat.zero_le _⟩, Nat.zero_le _⟩
          show (bif o.gone then [] else o.value : List UInt8).length ≤ _
          rcases hl.2 with hg | hg
          · rw [hg]; exact Nat.zero_le _
          · cases o.gone with
            | true => exact Nat.zero_le _
            | false => show o.value.length ≤ _; omega
        | false => cases k5 : o.kind == 5 with
          | true =>
            have hk : o.kind = 5 := eq_of_beq k5
            have hl : o.label.length ≤ 64 := by
              unfold formedB at h
              rw [hk] at h
              simp at h
              omega
            exact ⟨⟨⟨by show o.path.length ≤ _; omega, Nat.zero_le _, by show o.label.length ≤ _; omega, Nat.zero_le _, Nat.zero_le _, Nat.zero_le _⟩, Nat.zero_le _⟩, Nat.zero_le _⟩
          | false => cases k6 : o.kind == 6 with
            | true =>
              have hr := formed_pieces h (eq_of_beq k6)
              have h1 := right_puts hr
              have h2 := (right_bounds hr).1
              exact ⟨⟨⟨by show o.path.length ≤ _; omega, Nat.zero_le _, Nat.zero_le _, Nat.zero_le _, Nat.zero_le _, by show o.pieces.length ≤ _; omega⟩, h1⟩, Nat.zero_le _⟩
            | false => exact ⟨nil _, Nat.zero_le _⟩
theorem behX_okL (b a : OpT) (p : Bool) : OkL (behindX b a p).1 := by
  unfold behindX
  cases bothEdit b a with
  | false =>
    simp only [cond_false]
    unfold behindO
    cases !soundO a || !soundO b with
    | true => intro o ho; simp at ho
    | false =>
      cases hf : (rowO b a p).all formedB with
      | false => intro o ho; simp at ho
      | true =>
        intro o ho
        simp only [cond_true, cond_false] at ho
        obtain ⟨o', h1, rfl⟩ := List.mem_map.1 ho
        exact bare_formed_ok (List.all_eq_true.1 hf o' h1)
  | true =>
    simp only [cond_true]
    unfold behindE
    cases !soundO a || !soundO b with
    | true => intro o ho; simp at ho
    | false =>
      cases hf : decide ((transP b.pieces a.pieces p).2.2 = 0) && formedB (editO b a p) with
      | false => intro o ho; simp at ho
      | true =>
        intro o ho
        simp only [cond_true, cond_false, List.mem_singleton] at ho
        subst ho
        exact bare_formed_ok (Bool.and_eq_true_iff.1 hf).2
theorem OkL.app {x y : List OpT} (hx : OkL x) (hy : OkL y) : OkL (x ++ y) := fun o ho => by
  rcases List.mem_append.1 ho with h | h
  · exact hx o h
  · exact hy o h
theorem OkL.head {a : OpT} {x : List OpT} (h : OkL (a :: x)) : OkL [a] := fun o ho => by rw [List.mem_singleton] at ho; exact ho ▸ h a List.mem_cons_self

end Bow
/- W65: lists.bring's walk. -/
namespace Bow
open Go Go.Proofs

theorem bareL_len (l : List OpT) : (bareL l).length = l.length := by simp [bareL]
end Bow
/- W66: the laws of chapter 13: what they use; the examples; which lists say the same. -/
namespace Bow
open Go Go.Proofs

end Bow
/- W68: which lists say the same; chapter 13's few. -/
namespace Bow
open Go Go.Proofs

theorem op_at {l : List OpT} {i : Nat} (h : i < l.length) : (l.map opV)[i]? = some (opV l[i]) := by simp [h]
theorem sameO_refl (o : OpT) : sameO o o = true := by
  unfold sameO eqO
  simp
end Bow
/- W69: the laws ListsSame and ListsJoined, walked. -/
namespace Bow
open Go Go.Proofs

end Bow
/- AE43: own memory that stands elsewhere, read: its length, an element's place, what lies there; pointers held against nil; a range over a function that holds own objects. -/
namespace Bow
open Go

section
variable {c : Cx} {E : Env} {T : Heap} {ops : Array Oper} {i : Nat} {rest : List Nat} {k : List Item} {o : Oper}

theorem goes_lenA {t e : TypeId} {x : Operand} {r g off l sz : Nat} {xs : List V} (n : Nat) (ho : lget ops.toList i = some o) (hg : o.guard = none) (hop : o.op = .call { callee := .builtin .len, args := #[x], argTypes := #[t] }) (hx : opd E x = .osl (.abs r) g off l)
    (ht : tyU c.P t = some (.slice e)) (hi : r ∉ c.imps) (hB : c.B r = some (.vec g sz xs)) (h : putE c.nt o.dst (.int .i64 l) E False fun E' => evp c n (.inRegion ops rest :: k) E' T) : Goes c (.inRegion ops (i :: rest) :: k) E T := by
  refine goes_opTo n ho hg hop (OpTo.still fun o hop w β H m a hs => ⟨.int .i64 l, ?_, .int _ _⟩) (fun cl h => by cases h) h
  have hr := opd_rep hs x
  have hH : H[r]? = some (some (.vec g sz xs)) := hs.baseAt hi hB
  simp only [hx, V.conv, Ref.conv] at hr
  generalize hq : a.eval x = q at hr
  cases hr with
  | oslNil => simp [execOp, hop, resolve, invoke, builtin, Builtin.len_, hq, run_underlying (tyU_sound ht), goInt]
  | oslBlk => simp [execOp, hop, resolve, invoke, builtin, Builtin.len_, hq, run_underlying (tyU_sound ht), goInt]
  | oslStale _ _ _ _ g' sz' xs' _ hH' hg =>
    rw [hH] at hH'
    injection hH' with hH'
    injection hH' with hH'
    injection hH' with e0 _ _
    omega
  | oslDead _ _ _ _ _ hd => rw [hH] at hd; cases hd

theorem goes_indexA {t e : TypeId} {x ix : Operand} {r g off l sz : Nat} {xs : List V} {kk : IntKind} {j : Int} {ti : TypeInfo} (n : Nat) (ho : lget ops.toList i = some o) (hg : o.guard = none) (hop : o.op = .indexAddr t x ix) (hx : opd E x = .osl (.abs r) g off l) (hix : opd E ix = .int kk j)
    (ht : tyU c.P t = some (.slice e)) (hti : tyI c.P e = some ti) (hsz : (Nat.beq sz ti.size && Nat.ble 1 sz) = true) (hi : r ∉ c.imps) (hB : c.B r = some (.vec g sz xs)) (h0 : 0 ≤ j) (hl : j < l)
    (h : putE c.nt o.dst (.eptr (.abs r) g (off + j.toNat) 0) E False fun E' => evp c n (.inRegion ops rest :: k) E' T) : Goes c (.inRegion ops (i :: rest) :: k) E T := by
  simp only [Bool.and_eq_true] at hsz
  have hsz := Nat.eq_of_beq_eq_true hsz.1
  refine goes_opTo n ho hg hop (OpTo.still fun o hop w β H m a hs => ?_) (fun cl h => by cases h) h
  have h1 := opd_rep hs x
  have h2 := opd_rep hs ix
  have hH : H[r]? = some (some (.vec g sz xs)) := hs.baseAt hi hB
  simp only [hx, V.conv, Ref.conv] at h1
  simp only [hix] at h2
  have e2 := rep_int h2
  generalize hq : a.eval x = q at h1
  cases h1 with
  | oslNil _ _ _ _ _ hH' hβ => omega
  | oslBlk _ _ _ _ sz' xs' b N ad cap hH' hβ hl' hN hcap ha hlen =>
    rw [hH] at hH'
    injection hH' with hH'
    injection hH' with hH'
    injection hH' with _ e3 e4
    subst e3 e4
    have := ha (by omega)
    subst this
    refine ⟨.pointer (some ⟨b, (off + j.toNat) * sz, none⟩), ?_, ?_⟩
    · have : (⟨b, off * sz, none⟩ : Addr).add (j.toNat * sz) = ⟨b, (off + j.toNat) * sz, none⟩ := by rw [add_none, Nat.add_mul]
      simp [execOp, hop, hq, e2, Instr.indexAt, asIntOf, run_underlying (tyU_sound ht), h0, hl, run_sizeOf' (tyI_sound hti), ← hsz, this]
    · simp only [V.conv, Ref.conv]
      exact .eptrLive r g _ 0 sz xs b N hH hβ (by omega)
  | oslStale _ _ _ _ g' sz' xs' _ hH' hg =>
    rw [hH] at hH'
    injection hH' with hH'
    injection hH' with hH'
    injection hH' with e0 _ _
    omega
  | oslDead _ _ _ _ _ hd => rw [hH] at hd; cases hd

/-! ### Pointers held against nil -/
end
end Bow
/- AE44: regions that draw their order and hold a call that hands back own memory. -/
namespace Bow
open Go

/-- A call that hands back a slice of own memory, into a reserved name. -/
theorem fact_call_make {c : Cx} {ops : Array Oper} {i : Nat} {o : Oper} {E : Env} {T : Heap} {gs : List Tmp} {f : Operand} {args : Array Operand} {ts : Array TypeId} {g : FuncId} {first cap : List V} {p sz : Nat} {xs : List V} (ho : ops[i]? = some o) (hg : Guarded ops o E gs true)
    (hop : o.op = .call { callee := .value f, args := args, argTypes := ts }) (hf : opd E f = .fn (.func g) first cap) (ha : V.pureL (first ++ args.toList.map (opd E) ++ cap) = true) (hd : T[p]? = some (some (.vec 0 0 [])))
    (h : Fun c.P g [] (first ++ args.toList.map (opd E) ++ cap) fun x T' => ∃ g0, x = .osl (.loc 0) g0 0 xs.length ∧ T' = [some (.vec g0 sz xs)]) :
    Fact c ops i E T ⟨o.dst, gs ++ tmpsOf o.op.operands.toList, [], .osl (.loc p) 2 0 xs.length, [(p, some (.vec 2 sz xs))], some p⟩ := by
  intro E' T' e1 e2 e3 w β H m a b cs rest k hs b1 b2 b4
  obtain ⟨q, q1, q2, q3⟩ := b4 p rfl
  have hag := opd_agree (E := E) (E' := E') (xs := o.op.operands.toList) fun t ht => e2 t (List.mem_append_right _ ht)
  rw [hop] at hag
  have hf' : opd E' f = .fn (.func g) first cap := by rw [hag f (by simp [Op.operands, Call.operands])]; exact hf
  have ha' : args.toList.map (opd E') = args.toList.map (opd E) := List.map_congr_left fun z hz => hag z (by simp [Op.operands, Call.operands]; exact .inr (by simpa using hz))
  obtain ⟨va, vc, hq, hl, hr⟩ := fn_rep hs hf' args
  rw [ha'] at hl hr
  unfold Fun at h
  obtain ⟨hen, h⟩ := h
  have hs0 : SRel [] 0 w β H [] ⟨[], [], fun r => (H[r]?).getD none, []⟩ bare := by
    refine ⟨hs.hrel, rfl, fun k => by simp [lk, V.conv]; exact .undef _, rfl, List.nodup_nil, by simp, rfl, fun r h _ => ?_, fun r h1 => ?_, by simp, by simp, by simp, rfl, by simp⟩
    · simp [h]
    · simp [List.getElem?_eq_none h1]
  obtain ⟨x, T1, v, w', β', H', m', fr, ⟨g0, rfl, rfl⟩, k1, k2, k3, k4, k5, k6⟩ := h w β H [] _ _ (b.atR a (.inRegion ops (i :: rest) :: k) :: cs) hs0 hl (fun j x v hj hv => by
    have h1 := hr j x v hj hv
    have hx := pureL_mem' _ ha x (List.mem_of_getElem? hj)
    rw [pure_conv _ _ hx] at h1 ⊢
    exact h1)
  have hm1 : m'.length = 1 := k1.mlen
  obtain ⟨r', rfl⟩ : ∃ r', m' = [r'] := by
    match m', hm1 with
    | [r'], _ => exact ⟨r', rfl⟩
  have hr' : H'[r']? = some (some (.vec g0 sz xs)) := k1.loc 0 r' _ rfl rfl
  have hr'l := lt_of_get hr'
  have hnew : H.length ≤ r' := by
    rcases Nat.lt_or_ge r' H.length with h1 | h1
    · exfalso
      obtain ⟨o1, ho1, _⟩ := k2.evo r' _ h1 hr'
      have h2 : (H[r']?).getD none = none := k1.own 0 r' (Nat.zero_le _) rfl
      rw [ho1] at h2
      cases h2
    · exact h1
  have hql := hs.lt q1
  have hqr : q ≠ r' := fun e => by omega
  have hHq : H[q]? = some (some (.vec 0 0 [])) := hs.loc p q _ q1 (q3.trans hd)
  have hlen : H.length ≤ H'.length := k2.len
  have hbase : ∀ r, r < H'.length → r ≠ r' → H'[r]? = some ((H[r]?).getD none) := fun r hr hne => k1.base r hr (by simpa using hne)
  have hold : ∀ r, r < H.length → H'[r]? = H[r]? := fun r hr => by
    rw [hbase r (Nat.lt_of_lt_of_le hr hlen) (by omega)]
    simp [hr]
  have hH'q : H'[q]? = some (some (.vec 0 0 [])) := by rw [hold q hql]; exact hHq
  have hβ'q : β' q = .none := k2.virt q hql q2
  have hob := k1.hrel.obj r' _ hr'
  obtain ⟨H2, hH2⟩ : ∃ H2 : Heap, H2 = (H'.set r' none).set q (some (.vec 2 sz xs)) := ⟨_, rfl⟩
  obtain ⟨β2, hβ2⟩ : ∃ β2 : Nat → Loc, β2 = upd β' q (β' r') := ⟨_, rfl⟩
  have hβq : β2 q = β' r' := by rw [hβ2]; exact upd_same _ _ _
  have hβn : ∀ r, r ≠ q → β2 r = β' r := fun r hr => by rw [hβ2]; exact upd_ne hr
  have hH2l : H2.length = H'.length := by rw [hH2]; simp
  have hH2q : H2[q]? = some (some (.vec 2 sz xs)) := by rw [hH2]; exact List.getElem?_set_self (by simp; omega)
  have hH2r : H2[r']? = some none := by rw [hH2, List.getElem?_set_ne hqr, List.getElem?_set_self hr'l]
  have hH2n : ∀ r, r ≠ q → r ≠ r' → H2[r]? = H'[r]? := fun r h1 h2 => by rw [hH2, List.getElem?_set_ne (fun e => h1 e.symm), List.getElem?_set_ne (fun e => h2 e.symm)]
  have hcase : ∀ (r : Nat) (o : HObj), H2[r]? = some (some o) → (r = q ∧ o = .vec 2 sz xs) ∨ (r ≠ q ∧ r ≠ r' ∧ H'[r]? = some (some o)) := fun r o hr => by
    by_cases h1 : r = q
    · subst h1
      rw [hH2q] at hr
      injection hr with hr
      injection hr with hr
      exact .inl ⟨rfl, hr.symm⟩
    · by_cases h2 : r = r'
      · subst h2
        rw [hH2r] at hr
        cases hr
      · rw [hH2n r h1 h2] at hr
        exact .inr ⟨h1, h2, hr⟩
  have f : Fr0 w' β' H' w' β2 H2 := by
    refine ⟨rfl, rfl, rfl, Nat.le_refl _, by rw [hH2l]; exact Nat.le_refl _, ?_, fun _ _ _ => rfl, ?_, fun r hr => hβn r (hr.ne hH'q (fun h => h))⟩
    · intro r o' _ ho'
      rcases hcase r o' ho' with ⟨rfl, rfl⟩ | ⟨h1, _, h3⟩
      · exact ⟨_, hH'q, ⟨Nat.zero_le _, fun e => by omega⟩, fun hn => absurd hβ'q hn⟩
      · exact ⟨o', h3, Evo.refl _, fun _ _ => hβn r h1⟩
    · rintro bb ⟨r, M, ⟨o', hl'⟩, hb⟩
      rcases hcase r o' hl' with ⟨rfl, _⟩ | ⟨h1, _, h3⟩
      · rw [hβq] at hb
        exact .inr ⟨r', M, ⟨_, hr'⟩, hb⟩
      · rw [hβn r h1] at hb
        exact .inr ⟨r, M, ⟨_, h3⟩, hb⟩
  have hrel : HRel w' β2 H2 := by
    refine k1.hrel.step0 f ?_ ?_
    · intro r o' ho'
      rcases hcase r o' ho' with ⟨rfl, rfl⟩ | ⟨h1, _, h3⟩
      · refine .inr ?_
        rw [hβq]
        cases hb : β' r' with
        | none => trivial
        | nil => rw [hb] at hob; exact hob
        | blk bb N =>
          rw [hb] at hob
          obtain ⟨vs, e, _, c2, c3, c4, c5, c6, c7⟩ := hob
          exact ⟨vs, e, tyG_two _, c2, c3, c4, c5, c6, fun i x j c v h1 h2 h3 => (c7 i x j c v h1 h2 h3).mono0 f⟩
      · exact .inl ⟨h3, hβn r h1, fun _ _ _ => rfl⟩
    · rintro r s bb M M' ⟨o1, h1⟩ ⟨o2, h2⟩ hb hb'
      rcases hcase r o1 h1 with ⟨rfl, _⟩ | ⟨n1, n2, l1⟩
      · rcases hcase s o2 h2 with ⟨rfl, _⟩ | ⟨n3, n4, l2⟩
        · rfl
        · rw [hβq] at hb
          rw [hβn s n3] at hb'
          exact absurd (k1.hrel.inj r' s bb M M' ⟨_, hr'⟩ ⟨_, l2⟩ hb hb').symm n4
      · rcases hcase s o2 h2 with ⟨rfl, _⟩ | ⟨n3, n4, l2⟩
        · rw [hβq] at hb'
          rw [hβn r n1] at hb
          exact absurd (k1.hrel.inj r r' bb M M' ⟨_, l1⟩ ⟨_, hr'⟩ hb hb') n2
        · rw [hβn r n1] at hb
          rw [hβn s n3] at hb'
          exact k1.hrel.inj r s bb M M' ⟨_, l1⟩ ⟨_, l2⟩ hb hb'
  have ft : Fr0 w β H w' β2 H2 := k2.toFr0.trans f
  have hml : m.length = T'.length := hs.mlen
  have hpT : p < T'.length := by have := lt_of_get q1; omega
  have hT'p : T'[p]? = some (some (.vec 0 0 [])) := q3.trans hd
  have hsr : SRel c.imps c.nt w' β2 H2 m ⟨E', T'.set p (some (.vec 2 sz xs)), c.B, c.D⟩ a := by
    refine ⟨hrel, hs.size, fun k => (hs.env k).mono0 ft, by simpa using hml, hs.nodup, fun j r ob hj hob' => ?_, hs.imp, fun r hr hm => ?_, fun r hr => hs.fut r (by omega), hs.own, fun p hp => by simpa using hs.scE p hp, fun j ob hob' => ?_, hs.defs, fun j n hj => ?_⟩
    · by_cases hjp : j = p
      · subst hjp
        rw [q1] at hj
        injection hj with hj
        subst hj
        simp only at hob'
        rw [List.getElem?_set_self hpT] at hob'
        injection hob' with hob'
        subst hob'
        exact hH2q
      · simp only at hob'
        rw [List.getElem?_set_ne (fun e => hjp e.symm)] at hob'
        have hrq : r ≠ q := fun e => hjp (hs.inj hj (e ▸ q1))
        have hrl := hs.lt hj
        rw [hH2n r hrq (by omega), hold r hrl]
        exact hs.loc j r ob hj hob'
    · have hrq : r ≠ q := fun e => hm (e ▸ List.mem_of_getElem? q1)
      by_cases hrr : r = r'
      · subst hrr
        have : c.B r = none := hs.fut r hnew
        simp only
        rw [hH2r, this]
      · rw [hH2n r hrq hrr]
        rcases Nat.lt_or_ge r H.length with h1 | h1
        · rw [hold r h1]
          exact hs.base r h1 hm
        · have : c.B r = none := hs.fut r h1
          simp only
          rw [hbase r (by omega) hrr, this, List.getElem?_eq_none h1]
          rfl
    · simp only [List.length_set] at hob' ⊢
      by_cases hjp : j = p
      · subst hjp
        rw [List.getElem?_set_self hpT] at hob'
        injection hob' with hob'
        injection hob' with hob'
        subst hob'
        trivial
      · rw [List.getElem?_set_ne (fun e => hjp e.symm)] at hob'
        exact hs.scT j ob hob'
    · obtain ⟨r, b', N', d1, d2, d3, d4⟩ := hs.marks j n hj
      have hnp : n ≠ p := fun e => by
        subst e
        simp only at d2
        rw [hT'p] at d2
        cases d2
      have hrq : r ≠ q := fun e => hnp (hs.inj d1 (e ▸ q1))
      refine ⟨r, b', N', d1, by simp only; rw [List.getElem?_set_ne (fun e => hnp e.symm)]; exact d2, ?_, d4⟩
      rw [hβn r hrq]
      have hH0 := hs.loc n r _ d1 d2
      exact dfr_stays k2 (by simpa [HObj.conv] using hH0) d3 (by rw [hold r (hs.lt d1), hH0]; rfl)
  refine ⟨v, w', β2, H2, call_steps ho (hg.wanted (fun t ht => e2 t (List.mem_append_left _ ht)) hs) hop hq hen k4 k6, hsr, ft, fun s hsl hn hne => ?_, ?_⟩
  · have hsq : s ≠ q := fun e => hne p rfl (e ▸ q1)
    rw [hβn s hsq]
    exact k2.virt s hsl hn
  · simp only [V.conv, Ref.conv, q1]
    simp only [V.conv, Ref.conv, List.getElem?_cons_zero] at k3
    have hv : ∀ g2 sz2 xs2, H'[r']? = some (some (.vec g2 sz2 xs2)) → g2 = g0 ∧ sz2 = sz ∧ xs2 = xs := fun g2 sz2 xs2 h2 => by
      rw [hr'] at h2
      injection h2 with h2
      injection h2 with h2
      injection h2 with e0 e1 e2
      exact ⟨e0.symm, e1.symm, e2.symm⟩
    generalize hn : xs.length = n at k3
    cases k3 with
    | oslNil _ _ sz2 xs2 ad hH' hβ =>
      exact .oslNil q 2 sz xs ad hH2q (hβq.trans hβ)
    | oslBlk _ _ _ _ sz2 xs2 bb N ad cap' hH' hβ hl' hN hcap ha hlen' =>
      obtain ⟨_, rfl, rfl⟩ := hv _ _ _ hH'
      exact .oslBlk q 2 0 n sz2 xs2 bb N ad cap' hH2q (hβq.trans hβ) hl' hN hcap ha hlen'
    | oslStale _ _ _ _ g' sz' xs' _ hH' hg' =>
      obtain ⟨e, _, _⟩ := hv _ _ _ hH'
      omega
    | oslDead _ _ _ _ _ hd' => rw [hr'] at hd'; cases hd'

/-! ### The evaluation of such a region -/
/-- A call of one of these functions. -/
def isMk (mk : List FuncId) : Op → Bool
  | .call { callee := .value (.func h), .. } => memN mk h
  | _ => false
def evdN (mk : List FuncId) (c : Cx) (ops : List Oper) (gt : List Tmp) : List Oper → Nat → Env → Heap → (Env → Heap → List Sig → Prop) → Prop
  | [], _, E, T, K => K E T []
  | o :: os, p, E, T, K =>
    let next (x : V) (T' : Heap) (g touch keys : List Nat) : Prop := bif (makesS o.op || isMk mk o.op) then putR c.nt gt o.dst x E fun E' => evdN mk c ops gt os (p + 1) E' T' fun En Tn ss => K En Tn (⟨o.dst, g, touch, keys⟩ :: ss) else putR c.nt gt o.dst x E fun E' => evdN mk c ops gt os p E' T' fun En Tn ss => K En Tn (⟨o.dst, g, touch, keys⟩ :: ss)
    gK ops o E (fun g => next (.tup []) T g [] []) fun g =>
      lfix (g ++ tmpsOf o.op.operands.toList) fun g =>
      bif makes E o.op then evMk c o.op E T p fun x ob kills tc => lfix tc fun tc => lfix (keysOf kills) fun ks => appC T (kills ++ [(p, some ob)]) fun T' => next x T' g (p :: tc) (p :: ks)
      else bif isMk mk o.op then match o.op with
        | .call { callee := .value f, args, .. } => match opd E f with
          | .fn (.func h) first cap => opds E args.toList fun vs => ∃ (sz : Nat) (xs : List V), Fun c.P h [] (first ++ vs ++ cap) (fun x T' => ∃ g0, x = .osl (.loc 0) g0 0 xs.length ∧ T' = [some (.vec g0 sz xs)]) ∧ V.pureL (first ++ vs ++ cap) = true ∧ lget T p = some (some (.vec 0 0 [])) ∧
            appC T [(p, some (.vec 2 sz xs))] fun T' => next (.osl (.loc p) 2 0 xs.length) T' g [p] [p]
          | _ => False
        | _ => False
      else match o.op with
        | .call { callee := .value f, args, .. } => match opd E f with
          | .fn (.func h) first cap => opds E args.toList fun vs => frzAll (first ++ vs ++ cap) T False fun ws _ => lfix (keysOf (killsOf (first ++ vs ++ cap))) fun ks =>
            ∃ x, Pure c.P h ws (fun y => y = x) ∧ V.pureL ws = true ∧ bif flatB x then next x T g ks [] else appC T (killsOf (first ++ vs ++ cap)) fun T' => next x T' g ks ks
          | _ => False
        | op => evOp c op E T False fun x T' => lfix (touch E op) fun tc => lfix (wr E op) fun ks => next x T' g tc ks

theorem evdN_sound {mk : List FuncId} {c : Cx} {ops : Array Oper} {gt : List Tmp} : ∀ (os : List Oper) (i p : Nat) (E : Env) (T : Heap) (K : Env → Heap → List Sig → Prop), evdN mk c ops.toList gt os p E T K → (∀ k, os[k]? = ops[i + k]?) → i + os.length = ops.size →
    ∃ rs ss En Tn, RunP c ops i p E T rs ss En Tn ∧ K En Tn ss
  | [], i, p, E, T, K, h, _, hi => ⟨[], [], E, T, ⟨by simpa using hi, rfl, rfl⟩, h⟩
  | o :: os, i, p, E, T, K, h, hos, hi => by
    unfold evdN at h
    extract_lets next at h
    have ho : ops[i]? = some o := by have := hos 0; simpa using this.symm
    have hos' : ∀ k, os[k]? = ops[i + 1 + k]? := fun k => by have := hos (k + 1); rw [List.getElem?_cons_succ] at this; rw [this, sa]
    have hi' : i + 1 + os.length = ops.size := by simp at hi; omega
    have hlt : i < ops.size := by simp at hi; omega
    -- what follows, from a fact
    have go : ∀ (r : Rec) (g tc ks : List Nat), Fact c ops i E T r → r.dst = o.dst → next r.x (app T r.eff) g tc ks → (∀ t ∈ r.reads, t ∈ g) → (∀ k ∈ r.touch, k ∈ tc) → (∀ k ∈ keysOf r.eff, k ∈ ks) →
        (∀ q, r.virt = some q → q = p ∧ p ∈ tc ∧ p < T.length ∧ (makesS o.op || isMk mk o.op) = true) → ∃ rs ss En Tn, RunP c ops i p E T rs ss En Tn ∧ K En Tn ss := by
      intro r g tc ks hf hd hn h1 h2 h3 h4
      have hn : putR c.nt gt o.dst r.x E fun E' => evdN mk c ops.toList gt os (bif (makesS o.op || isMk mk o.op) then p + 1 else p) E' (app T r.eff) fun En Tn ss => K En Tn (⟨o.dst, g, tc, ks⟩ :: ss) := by
        have h0 := hn
        simp only [next] at h0
        cases hm : (makesS o.op || isMk mk o.op) <;> (rw [hm] at h0; exact h0)
      obtain ⟨x', hk, hdst, hx⟩ := putR_sound hn
      obtain ⟨rs, ss, En, Tn, k1, k2⟩ := evdN_sound os (i + 1) _ _ _ _ hk hos' hi'
      refine ⟨{ r with x := x' } :: rs, ⟨o.dst, g, tc, ks⟩ :: ss, En, Tn, ⟨hf.put hx, by rw [hd]; exact hdst, ⟨hd.symm, h1, h2, h3, fun q hq => ?_⟩, hlt, (bif (makesS o.op || isMk mk o.op) then p + 1 else p), ?_, ?_, ?_⟩, k2⟩
      · obtain ⟨e, hp, _⟩ := h4 q hq
        rw [e]
        exact hp
      · cases (makesS o.op || isMk mk o.op) <;> simp
      · intro q hq
        obtain ⟨e, _, hp, hm⟩ := h4 q hq
        rw [hm]
        exact ⟨e, Nat.le_refl _, hp⟩
      · rw [hd]
        exact k1
    rcases gK_sound h with ⟨gs, hg, h⟩ | ⟨gs, hg, h⟩
    · exact go _ gs [] [] (fact_skip ho hg) rfl h (fun t ht => ht) (fun k hk => hk) (fun k hk => hk) (fun q hq => by cases hq)
    · rw [lfix_eq] at h
      cases hm : makes E o.op with
      | true =>
        rw [hm] at h
        simp only [cond_true] at h
        obtain ⟨x, ob, kills, tc, hk, hf, hp⟩ := fact_mk (gs := gs) ho hg h
        rw [lfix_eq, lfix_eq, appC_eq] at hk
        refine go _ _ _ _ hf rfl hk (fun t ht => ht) (fun k hk => List.mem_cons_of_mem _ hk) (fun k hk => ?_) (fun q hq => ?_)
        · rw [keysOf_append] at hk
          rcases List.mem_append.1 hk with h | h
          · exact List.mem_cons_of_mem _ h
          · simp only [keysOf, List.mem_singleton] at h
            rw [h]
            exact List.mem_cons_self
        · injection hq with hq
          subst hq
          exact ⟨rfl, List.mem_cons_self, hp, by rw [makes_S hm]; rfl⟩
      | false =>
        rw [hm] at h
        simp only [cond_false] at h
        cases hmk : isMk mk o.op with
        | true =>
          simp only [hmk, cond_true] at h
          split at h
          · rename_i f args ts hop
            split at h
            · rename_i h' first cap hfv
              rw [opds_eq] at h
              obtain ⟨sz, xs, hfu, hpl, hlp, hk⟩ := h
              rw [appC_eq] at hk
              rw [lget_eq] at hlp
              exact go _ _ _ _ (fact_call_make ho hg hop hfv hpl hlp hfu) rfl hk (fun t ht => ht) (fun k hk => by cases hk) (fun k hk => hk) (fun q hq => by
                injection hq with hq
                subst hq
                exact ⟨rfl, List.mem_singleton.2 rfl, lt_of_get hlp, by rw [hmk]; simp⟩)
            · exact h.elim
          · exact h.elim
        | false =>
        simp only [hmk, cond_false] at h
        split at h
        · rename_i f args ts hop
          split at h
          · rename_i h' first cap hfv
            rw [opds_eq] at h
            rcases frzAll_det (F := False) _ T _ h with h | ⟨ws, h, hdet⟩
            · exact h.elim
            rw [lfix_eq] at h
            obtain ⟨x, hpu, hpl, hk⟩ := h
            cases hx : flatB x with
            | true =>
              rw [hx] at hk
              exact go _ _ _ _ (fact_call_flat ho hg hop hfv hpl hx hdet hpu) rfl hk (fun t ht => ht) (fun k hk => hk) (fun k hk => by cases hk) (fun q hq => by cases hq)
            | false =>
              rw [hx] at hk
              simp only [cond_false] at hk
              rw [appC_eq] at hk
              exact go _ _ _ _ (fact_call_frz ho hg hop hfv hpl hdet hpu) rfl hk (fun t ht => ht) (fun k hk => hk) (fun k hk => hk) (fun q hq => by cases hq)
          · exact h.elim
        · rcases fact_op ho hg hm h with h | ⟨x, eff, hk, hf, hw⟩
          · exact h.elim
          rw [lfix_eq, lfix_eq] at hk
          refine go _ _ _ _ hf rfl hk (fun t ht => ht) (fun k hk => hk) (fun k hk => ?_) (fun q hq => by cases hq)
          have : ∀ (es : List (Nat × Option HObj)), k ∈ keysOf es → ∃ e ∈ es, e.1 = k := by
            intro es
            induction es with
            | nil => intro h; cases h
            | cons e es ih =>
              intro h
              rcases List.mem_cons.1 h with rfl | h
              · exact ⟨e, List.mem_cons_self, rfl⟩
              · obtain ⟨e', h1, h2⟩ := ih h
                exact ⟨e', List.mem_cons_of_mem _ h1, h2⟩
          obtain ⟨e, he, rfl⟩ := this eff hk
          exact hw e he

def dumsN (mk : List FuncId) : List Oper → Heap
  | [] => []
  | o :: os => bif (makesS o.op || isMk mk o.op) then some (dummyOf o.op) :: dumsN mk os else dumsN mk os
theorem dumsN_mem (mk : List FuncId) : ∀ (os : List Oper) (x : Option HObj), x ∈ dumsN mk os → ∃ d, x = some d ∧ (d = .box [] ∨ d = .vec 0 0 [])
  | [], x, h => by cases h
  | o :: os, x, h => by
    rw [dumsN] at h
    cases hb : (makesS o.op || isMk mk o.op) with
    | false => rw [hb] at h; exact dumsN_mem mk os x h
    | true =>
      rw [hb] at h
      rcases List.mem_cons.1 h with rfl | h
      · refine ⟨_, rfl, ?_⟩
        unfold dummyOf
        split <;> simp
      · exact dumsN_mem mk os x h
theorem goes_draw_ofN (mk : List FuncId) {c : Cx} {ops : Array Oper} {id : Nat} {k : List Item} {E : Env} {T : Heap} {rs : List Rec} {ss : List Sig} {En : Env} {Tn : Heap} (h : RunP c ops 0 T.length E (T ++ dumsN mk ops.toList) rs ss En Tn) (hc : chk ops.toList ss 0 [] [] = true) (hk : Goes c k En Tn) : Goes c (.code (.region id ops true) :: k) E T := by
  obtain ⟨hG, rfl, rfl, hp⟩ := good_of_run h
  refine goes_step fun w β H m a b cs hs h1 h2 h3 => ?_
  -- the draw
  have hsched : ∃ md t, Region.schedule (c.P.follows .mixedOrders) ops (w.tape w.drawn (.order b.fn id)) = Region.linearise md ops t := by
    unfold Region.schedule
    split
    · exact ⟨_, _, rfl⟩
    · exact ⟨_, _, rfl⟩
  obtain ⟨md, t, hmd⟩ := hsched
  have hf0 : Fr w β H { w with drawn := w.drawn + 1 } β H := Fr.of_heap rfl rfl rfl rfl
  have hs0 : SRel c.imps c.nt { w with drawn := w.drawn + 1 } β H m ⟨E, T, c.B, c.D⟩ a := hs.same hf0 (hs.hrel.of_heap rfl rfl rfl rfl)
  obtain ⟨β1, H1, m1, k1, k2, k3, k4⟩ := reserveAll (dumsN mk ops.toList) (dumsN_mem mk _) hs0
  have hml : m1.length = (T ++ dumsN mk ops.toList).length := k1.mlen
  have hzero : ∀ j, (fun _ : Nat => false) j = (Array.replicate ops.size false).getD j false := fun j => by
    by_cases hj : j < ops.size
    · simp [Array.getD, hj]
    · simp [Array.getD, hj]
  obtain ⟨w2, β2, H2, a2, g1, g2, g3, g4⟩ := run_draw md hG hc k1.scE ops.size t (Array.replicate ops.size false) (fun _ => false) { w with drawn := w.drawn + 1 } β1 H1 m1 a b cs k hzero (by simp)
    (by unfold unl; exact Nat.le_trans (List.length_filter_le _ _) (by simp)) (fun i hi => by cases hi) (by
      rw [envS_none _ _ _ fun _ _ => rfl, heapS_none _ _ _ fun _ _ => rfl]
      exact k1) (fun j r p hj _ hv => by
        obtain ⟨q, q1, q2, _⟩ := k4 p (hG.virt j r p hj hv) (by have := hp j r p hj hv; simpa using this)
        exact ⟨q, q1, q2⟩) (fun j r _ hj => by cases hj) h1 h2
  refine ⟨w2, β2, H2, m1, a2, k, ⟨_, _, c.B, c.D⟩, ?_, g2, ?_, hk⟩
  · refine .head stepR_region_draw ?_
    rw [hmd]
    exact g1.trans (.one stepR_region_end)
  · refine ⟨(hf0.toFr0.trans k2.toFr0).trans g3, fun r hr hn => ?_⟩
    have hn1 := k2.virt r hr hn
    refine g4 r (Nat.lt_of_lt_of_le hr k2.len) hn1 fun p hp hq => ?_
    by_cases hlt : p < T.length + (dumsN mk ops.toList).length
    · obtain ⟨q, q1, _, q3⟩ := k4 p hp hlt
      rw [hq] at q1
      injection q1 with q1
      omega
    · have := lt_of_get hq
      rw [hml, List.length_append] at this
      omega
theorem goes_drawN (mk : List FuncId) {c : Cx} {ops : Array Oper} {id : Nat} {k : List Item} {E : Env} {T : Heap} (n : Nat) (h : catC T (dumsN mk ops.toList) fun T0 => evdN mk c ops.toList (guardTmps ops.toList ops.toList) ops.toList T.length E T0 fun En Tn ss => chk ops.toList ss 0 [] [] = true ∧ evp c n k En Tn) :
    Goes c (.code (.region id ops true) :: k) E T := by
  rw [catC_eq] at h
  obtain ⟨rs, ss, En, Tn, h1, h2, h3⟩ := evdN_sound (mk := mk) ops.toList 0 T.length E _ _ h (fun k => by rw [Nat.zero_add, Array.getElem?_toList]) (by simp)
  exact goes_draw_ofN mk h1 h2 (evp_sound n _ _ _ _ h3)
end Bow
