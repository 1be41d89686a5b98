/- The library, part 6: W53, W54, W55, W56, W57, W58, W59, W60, SP20, W48, W61, W62, W63, W64, W65, W66, W68, W69, AE43, AE44, AE45, AE46, W76, W77, W78, SP28, W67, SP27, SP31, W70, W71, W72, AE47, W79, SP32, W73, SP33, W80, SP58, SP59, SP60. -/
import Derived.Test.YtbffliejmnokpaaGreatMe
import Derived.Test.YtbffliejmnokpaaGreatMd
import Derived.Test.YtbffliejmnokpaaGreatMc
/- W53: square.row (but for two edits), Behind, Both. -/
namespace Bow
open Go Go.Proofs
theorem nodeP_len (o : OpT) (p : List Int) : ((nodeP o p).getD []).length ≤ p.length + o.to.length + 1:=by
 unfold nodeP
 cases movesO o with
 | false => simp;omega
 | true =>
  cases (chgO o).takes && within o.path p with
  | false => simp [nums_len];omega
  | true =>
   cases (chgO o).puts with
   | false => simp
   | true => simp [nums_len];omega
theorem gapP_len (o : OpT) (p : List Int) (n : Int) (f : Bool) : (gapP o p n f).1.length ≤ p.length + o.to.length + 1:=by
 have h:=nodeP_len o p
 unfold gapP
 cases hn : nodeP o p with
 | none => simp
 | some q =>
  rw [hn] at h
  simp only [Option.getD_some] at h
  cases movesO o <;> simpa using h
theorem drop_ok {p : List Int} (h : p.length ≤ 1000000) : (dropO p).Ok:=⟨⟨h,Nat.zero_le _,Nat.zero_le _,Nat.zero_le _,Nat.zero_le _,Nat.zero_le _⟩,Nat.zero_le _⟩
theorem shifted_ok {b a : OpT} {prior : Bool} (_ha : a.Ok) (hb : b.Ok) (hp : b.path.length ≤ 1000) (ht : b.to.length ≤ 1000) (hat : a.to.length ≤ 1000) : (shiftedO b a prior).Ok:=by
 have h1:=nodeP_len a b.path
 have h2:=gapP_len a b.to b.at_ prior
 unfold shiftedO
 cases decide (b.kind = 1) with
 | true => exact ⟨⟨by show ((nodeP a b.path).getD []).length ≤ _;omega,hb.lt.to,hb.lt.label,hb.lt.key,hb.lt.value,hb.lt.pieces⟩,hb.puts⟩
 | false =>
  cases decide (b.kind = 3) with
  | true => exact ⟨⟨by show ((nodeP a b.path).getD []).length ≤ _;omega,by show (gapP a b.to b.at_ prior).1.length ≤ _;omega,hb.lt.label,hb.lt.key,hb.lt.value,hb.lt.pieces⟩,hb.puts⟩
  | false => exact ⟨⟨by show ((nodeP a b.path).getD []).length ≤ _;omega,hb.lt.to,hb.lt.label,hb.lt.key,hb.lt.value,hb.lt.pieces⟩,hb.puts⟩
theorem number_steps {c : Chg} (h : 0 ≤ c.at_) {p : List Int} {k : Int} (hk : 0 ≤ k ∧ k ≤ 1048575) : 0 ≤ c.number p k ∧ c.number p k ≤ 1048576:=by
 unfold Chg.number
 by_cases h1 : c.at_ < k
 ·cases c.takes <;> cases c.puts <;> cases decide (p = c.frm) <;> cases decide (c.gap ≤ k) <;> cases decide (p = c.to) <;> simp [h1] <;> omega
 ·cases c.takes <;> cases c.puts <;> cases decide (p = c.frm) <;> cases decide (c.gap ≤ k) <;> cases decide (p = c.to) <;> simp [h1] <;> omega
theorem nums_steps {c : Chg} (h : 0 ≤ c.at_) : ∀ (p q : List Int),(∀ i ∈ p,0 ≤ i ∧ i ≤ 1048575) → ∀ i ∈ c.nums q p,0 ≤ i ∧ i ≤ 1048576
 | [],_,_,i,hi => by cases hi
 | k :: p,q,hp,i,hi => by
  rw [Chg.nums] at hi
  rcases List.mem_cons.1 hi with rfl | hi
  ·exact number_steps h (hp k List.mem_cons_self)
  ·exact nums_steps h p _ (fun j hj => hp j (List.mem_cons_of_mem _ hj)) i hi
theorem may_strict {p : List Int} (h : mayP p = true) : ∀ i ∈ p,0 ≤ i ∧ i ≤ 1048575:=by
 unfold mayP at h
 rw [Bool.and_eq_true] at h
 intro i hi
 have:=List.all_eq_true.1 h.2 i hi
 unfold stepOk at this
 simp only [Bool.and_eq_true,decide_eq_true_eq] at this
 omega
theorem chg_at {o : OpT} (h : movesO o = true) : 0 ≤ (chgO o).at_:=by
 obtain ⟨hf,hkk⟩:=moves_parts h
 have hne:=moves_ne h
 by_cases k1 : o.kind = 1
 ·unfold chgO;simp [k1]
 ·have : (chgO o).at_ = lastP o.path:=by unfold chgO;simp [k1]
  rw [this,← lastP_eq (hne k1)]
  exact (may_step (formed_path hf) _ (List.getLast_mem (hne k1))).1
theorem node_steps {a : OpT} {p : List Int} (hp : ∀ i ∈ p,0 ≤ i ∧ i ≤ 1048575) : ∀ i ∈ (nodeP a p).getD [],0 ≤ i ∧ i ≤ 1048576:=by
 intro i hi
 unfold nodeP at hi
 cases hm : movesO a with
 | false =>
  rw [hm] at hi
  have:=hp i hi
  omega
 | true =>
  rw [hm] at hi
  have hat:=chg_at hm
  obtain ⟨hf,hkk⟩:=moves_parts hm
  cases ht : (chgO a).takes && within a.path p with
  | false =>
   rw [ht] at hi
   exact nums_steps hat p [] hp i hi
  | true =>
   rw [ht] at hi
   cases hq : (chgO a).puts with
   | false => rw [hq] at hi;cases hi
   | true =>
    rw [hq] at hi
    rw [Bool.and_eq_true] at ht
    have hk3 : a.kind = 3:=by
     rcases hkk with k | ⟨k,_⟩ | h
     ·have:=ht.1;unfold chgO at this;simp [k] at this
     ·unfold chgO at hq;simp [k] at hq
     ·exact h.1
    have hts:=may_strict (good_to hf hk3)
    have hgap:=formed_gap hf (.inr hk3)
    have hi : i ∈ (chgO a).nums [] a.to ++ [(chgO a).land] ++ p.drop a.path.length:=hi
    rcases List.mem_append.1 hi with hi | hi
    ·rcases List.mem_append.1 hi with hi | hi
     ·exact nums_steps hat a.to [] hts i hi
     ·rw [List.mem_singleton] at hi
      have e : (chgO a).gap = a.at_:=rfl
      rw [hi]
      unfold Chg.land
      by_cases h1 : (chgO a).at_ < (chgO a).gap
      ·cases decide ((chgO a).frm = (chgO a).to) <;> simp [h1] <;> omega
      ·simp [h1];omega
    ·have:=hp i (List.mem_of_mem_drop hi)
     omega
theorem w_NodeB (o : OpT) (p : List Int) (ho : o.Ok) (hp : p.length ≤ 1000) (hpb : ∀ i ∈ p,0 ≤ i ∧ i ≤ 1048576) : Pure Tryz.prog 207 [opV o,pathV p] (fun x => ∃ q b,(nodeP o p).getD [] = q ∧ x = .tup [pathV q,.bool b]):=by
 refine pure_wk ((w_Node o p ho hp hpb).mono fun x h => ?_)
 subst h
 cases nodeP o p with
 | none => exact ⟨.tup [pathV [],.bool false],Wk.tup ⟨.refl _,Wk.ff,trivial⟩,rfl,[],false,rfl,rfl⟩
 | some q => exact ⟨.tup [pathV q,.bool true],Wk.tup ⟨.refl _,Wk.tt,trivial⟩,rfl,q,true,rfl,rfl⟩
def RowQ (b a : OpT) (l : List OpT) (x : V) (T : Heap) : Prop :=
 (l = [] ∧ x = .tup [.nilsl,.int .i64 0] ∧ T = [some (.box (opV b).cells),some (.box (opV a).cells)]) ∨
 (∃ g,x = .tup [.osl (.loc 2) g 0 l.length,.int .i64 0] ∧ T = [some (.box (opV b).cells),some (.box (opV a).cells),some (.vec g 11 (l.map opV))])
set_option maxHeartbeats 8000000 in
set_option maxRecDepth 100000 in
theorem w_row (b a : OpT) (prior : Bool) (ha : a.Ok) (hb : b.Ok) (sa : soundO a = true) (sb : soundO b = true) (he : bothEdit b a = false) (hto : a.to.length ≤ 1000 ∧ b.to.length ≤ 1000) :
  Fun Tryz.prog 202 [] [opV b,opV a,.bool prior] (RowQ b a (rowO b a prior)):=by
 have fa : formedB a = true:=by unfold soundO at sa;rw [Bool.and_eq_true] at sa;exact sa.1
 have fb : formedB b = true:=by unfold soundO at sb;rw [Bool.and_eq_true] at sb;exact sb.1
 have pa:=may_len (formed_path fa)
 have pb:=may_len (formed_path fb)
 have qa:=may_step (formed_path fa)
 have qb:=may_step (formed_path fb)
 have hnb:=nodeP_len a b.path
 have hna:=nodeP_len a a.path
 refine fun_fn 300 Tryz.func202 rfl rfl rfl fun imps B hi => ?_
 have : imps = []:=List.length_eq_zero_iff.1 hi
 subst this
 have leafN : rowO b a prior = [] → RowQ b a (rowO b a prior) (.tup [.nilsl,.int .i64 0]) [some (.box (opV b).cells),some (.box (opV a).cells)]:=fun h1 => .inl ⟨h1,rfl,rfl⟩
 have leaf1 : ∀ {g : Nat} (o : OpT),rowO b a prior = [o] → RowQ b a (rowO b a prior) (.tup [.osl (.loc 2) g 0 1,.int .i64 0]) [some (.box (opV b).cells),some (.box (opV a).cells),some (.vec g 11 [opV o])]:=fun o h1 => .inr ⟨_,by rw [h1];rfl,by rw [h1];rfl⟩
 have leaf2 : ∀ {g : Nat} (o o' : OpT),rowO b a prior = [o,o'] → RowQ b a (rowO b a prior) (.tup [.osl (.loc 2) g 0 2,.int .i64 0]) [some (.box (opV b).cells),some (.box (opV a).cells),some (.vec g 11 [opV o,opV o'])]:=fun o o' h1 => .inr ⟨_,by rw [h1];rfl,by rw [h1];rfl⟩
 have hsh:=w_shifted b a prior ha hb fb
 have c1:=w_pathWithin a.path b.path (by omega)
 have c2:=w_pathWithin a.path b.to (by omega)
 have c3:=w_pathWithin b.path a.path (by omega)
 have c4:=w_pathWithin b.path a.to (by omega)
 have c5:=w_pathSame b.path a.path (by omega)
 have c6:=w_pathSame a.path b.path (by omega)
 refine ⟨fun g1 => go 300 ?_,fun g1 => go 300 ?_⟩
 ·have k1 : a.kind = 2:=eq_of g1
  show CallThen _ _ _ _ _ _
  refine call_pure c1 rfl ?_
  rintro x rfl
  refine ⟨fun g2 => go 300 ?_,fun g2 => go 300 ?_⟩
  ·exact ⟨trivial,rfl,rfl,leafN (by unfold rowO;rw [decide_eq_true k1,g2];rfl)⟩
  refine ⟨fun g3 => go 300 ?_,fun g3 => go 300 ?_⟩
  ·have k3 : b.kind = 3:=eq_of g3
   show CallThen _ _ _ _ _ _
   refine call_pure c2 rfl ?_
   rintro x rfl
   refine ⟨fun g4 => go 300 ?_,fun g4 => go 300 ?_⟩
   ·show CallThen _ _ _ _ _ _
    refine call_pure (w_NodeB a b.path ha (by omega) qb) rfl ?_
    rintro x ⟨q1,v,hq1,rfl⟩
    show CallThen _ _ _ _ _ _
    refine call_pure (w_drop q1) rfl ?_
    rintro x rfl
    refine ⟨⟨rfl,trivial⟩,?_⟩
    exact ⟨trivial,rfl,rfl,leaf1 (dropO q1) (by unfold rowO;rw [decide_eq_true k1,g2,decide_eq_true k3,g4,hq1];rfl)⟩
   ·show CallThen _ _ _ _ _ _
    refine call_pure hsh rfl ?_
    rintro x rfl
    refine ⟨⟨rfl,trivial⟩,?_⟩
    exact ⟨trivial,rfl,rfl,leaf1 (shiftedO b a prior) (by unfold rowO;rw [decide_eq_true k1,g2,decide_eq_true k3,g4];rfl)⟩
  ·have k3 : b.kind ≠ 3:=ne_of g3
   show CallThen _ _ _ _ _ _
   refine call_pure hsh rfl ?_
   rintro x rfl
   refine ⟨⟨rfl,trivial⟩,?_⟩
   exact ⟨trivial,rfl,rfl,leaf1 (shiftedO b a prior) (by unfold rowO;rw [decide_eq_true k1,g2,decide_eq_false k3];rfl)⟩
 have k1 : a.kind ≠ 2:=ne_of g1
 show CallThen _ _ _ _ _ _
 refine call_pure (w_won b a ha) rfl ?_
 rintro x rfl
 refine ⟨fun g2 => go 300 ?_,fun g2 => go 300 ?_⟩
 ·refine ⟨fun g3 => go 300 ?_,fun g3 => go 300 ?_⟩
  ·have g3 : prior = false:=by simpa using g3
   exact ⟨trivial,rfl,rfl,leafN (by unfold rowO;rw [decide_eq_false k1,g2,g3];rfl)⟩
  ·have g3 : prior = true:=by simpa using g3
   show CallThen _ _ _ _ _ _
   refine call_pure hsh rfl ?_
   rintro x rfl
   refine ⟨⟨rfl,trivial⟩,?_⟩
   exact ⟨trivial,rfl,rfl,leaf1 (shiftedO b a prior) (by unfold rowO;rw [decide_eq_false k1,g2];rw [g3];rfl)⟩
 refine ⟨fun g3 => go 300 ?_,fun g3 => go 300 ?_⟩
 ·have k3 : a.kind ≠ 3:=ne_of' g3
  have er : rowO b a prior = [shiftedO b a prior]:=by unfold rowO;rw [decide_eq_false k1,g2,decide_eq_false k3];rfl
  refine ⟨fun g4 => go 300 ?_,fun g4 => go 300 ?_⟩
  ·refine ⟨fun g5 => go 300 ?_,fun g5 => go 300 ?_⟩
   ·show CallThen _ _ _ _ _ _
    refine call_pure c6 rfl ?_
    rintro x rfl
    refine ⟨fun g6 => ?_,fun g6 => go 300 ?_⟩
    ·exfalso
     unfold bothEdit at he
     rw [g4,g5,g6] at he
     cases he
    ·show CallThen _ _ _ _ _ _
     refine call_pure hsh rfl ?_
     rintro x rfl
     refine ⟨⟨rfl,trivial⟩,?_⟩
     exact ⟨trivial,rfl,rfl,leaf1 (shiftedO b a prior) er⟩
   ·show CallThen _ _ _ _ _ _
    refine call_pure hsh rfl ?_
    rintro x rfl
    refine ⟨⟨rfl,trivial⟩,?_⟩
    exact ⟨trivial,rfl,rfl,leaf1 (shiftedO b a prior) er⟩
  ·show CallThen _ _ _ _ _ _
   refine call_pure hsh rfl ?_
   rintro x rfl
   refine ⟨⟨rfl,trivial⟩,?_⟩
   exact ⟨trivial,rfl,rfl,leaf1 (shiftedO b a prior) er⟩
 have k3 : a.kind = 3:=eq_of' g3
 refine ⟨fun g4 => go 300 ?_,fun g4 => go 300 ?_⟩
 ·have k4 : b.kind = 2:=eq_of g4
  show CallThen _ _ _ _ _ _
  refine call_pure c3 rfl ?_
  rintro x rfl
  refine ⟨fun g5 => go 300 ?_,fun g5 => go 300 ?_⟩
  case refine_2 =>
   have er : rowO b a prior = [shiftedO b a prior]:=by unfold rowO;rw [decide_eq_false k1,g2,decide_eq_true k3,decide_eq_true k4,g5];rfl
   show CallThen _ _ _ _ _ _
   refine call_pure hsh rfl ?_
   rintro x rfl
   refine ⟨⟨rfl,trivial⟩,?_⟩
   exact ⟨trivial,rfl,rfl,leaf1 (shiftedO b a prior) er⟩
  show CallThen _ _ _ _ _ _
  refine call_pure c5 rfl ?_
  rintro x rfl
  refine ⟨fun g6 => go 300 ?_,fun g6 => go 300 ?_⟩
  case refine_2 =>
   have g6 : decide (b.path = a.path) = true:=by simpa using g6
   have er : rowO b a prior = [shiftedO b a prior]:=by unfold rowO;rw [decide_eq_false k1,g2,decide_eq_true k3,decide_eq_true k4,g5,g6];rfl
   show CallThen _ _ _ _ _ _
   refine call_pure hsh rfl ?_
   rintro x rfl
   refine ⟨⟨rfl,trivial⟩,?_⟩
   exact ⟨trivial,rfl,rfl,leaf1 (shiftedO b a prior) er⟩
  have g6 : decide (b.path = a.path) = false:=by simpa using g6
  show CallThen _ _ _ _ _ _
  refine call_pure c4 rfl ?_
  rintro x rfl
  refine ⟨fun g7 => go 300 ?_,fun g7 => go 300 ?_⟩
  case refine_2 =>
   have g7 : within b.path a.to = true:=by simpa using g7
   have er : rowO b a prior = [shiftedO b a prior]:=by unfold rowO;rw [decide_eq_false k1,g2,decide_eq_true k3,decide_eq_true k4,g5,g6,g7];rfl
   show CallThen _ _ _ _ _ _
   refine call_pure hsh rfl ?_
   rintro x rfl
   refine ⟨⟨rfl,trivial⟩,?_⟩
   exact ⟨trivial,rfl,rfl,leaf1 (shiftedO b a prior) er⟩
  have g7 : within b.path a.to = false:=by simpa using g7
  have er : rowO b a prior = [dropO ((nodeP a a.path).getD []),dropO ((nodeP (dropO ((nodeP a a.path).getD [])) ((nodeP a b.path).getD [])).getD [])]:=by unfold rowO;rw [decide_eq_false k1,g2,decide_eq_true k3,decide_eq_true k4,g5,g6,g7];rfl
  have hqs:=node_steps (a:=a) (p:=b.path) (may_strict (formed_path fb))
  show CallThen _ _ _ _ _ _
  refine call_pure (w_NodeB a a.path ha (by omega) qa) rfl ?_
  rintro x ⟨p1,v1,hp1,rfl⟩
  show CallThen _ _ _ _ _ _
  refine call_pure (w_NodeB a b.path ha (by omega) qb) rfl ?_
  rintro x ⟨q1,v2,hq1,rfl⟩
  rw [hp1,hq1] at er
  rw [hq1] at hqs hnb
  rw [hp1] at hna
  show CallThen _ _ _ _ _ _
  refine call_pure (w_drop p1) rfl ?_
  rintro x rfl
  show CallThen _ _ _ _ _ _
  have hat64:=may_len (good_to fa k3)
  refine call_pure (w_NodeB (dropO p1) q1 (drop_ok (by omega)) (by omega) hqs) rfl ?_
  rintro x ⟨q2,v3,hq2,rfl⟩
  rw [hq2] at er
  show CallThen _ _ _ _ _ _
  refine call_pure (w_drop p1) rfl ?_
  rintro x rfl
  show CallThen _ _ _ _ _ _
  refine call_pure (w_drop q2) rfl ?_
  rintro x rfl
  refine ⟨⟨rfl,rfl,trivial⟩,?_⟩
  exact ⟨trivial,rfl,rfl,leaf2 _ _ er⟩
 have k4 : b.kind ≠ 2:=ne_of g4
 refine ⟨fun g5 => go 300 ?_,fun g5 => go 300 ?_⟩
 ·have k5 : b.kind = 3:=eq_of g5
  show CallThen _ _ _ _ _ _
  refine call_pure c4 rfl ?_
  rintro x rfl
  refine ⟨fun g6 => go 300 ?_,fun g6 => go 300 ?_⟩
  case refine_2 =>
   have er : rowO b a prior = [shiftedO b a prior]:=by unfold rowO;rw [decide_eq_false k1,g2,decide_eq_true k3,decide_eq_false k4,decide_eq_true k5,g6];rfl
   show CallThen _ _ _ _ _ _
   refine call_pure hsh rfl ?_
   rintro x rfl
   refine ⟨⟨rfl,trivial⟩,?_⟩
   exact ⟨trivial,rfl,rfl,leaf1 (shiftedO b a prior) er⟩
  show CallThen _ _ _ _ _ _
  refine call_pure c2 rfl ?_
  rintro x rfl
  refine ⟨fun g7 => go 300 ?_,fun g7 => go 300 ?_⟩
  case refine_2 =>
   have er : rowO b a prior = [shiftedO b a prior]:=by unfold rowO;rw [decide_eq_false k1,g2,decide_eq_true k3,decide_eq_false k4,decide_eq_true k5,g6,g7];rfl
   show CallThen _ _ _ _ _ _
   refine call_pure hsh rfl ?_
   rintro x rfl
   refine ⟨⟨rfl,trivial⟩,?_⟩
   exact ⟨trivial,rfl,rfl,leaf1 (shiftedO b a prior) er⟩
  refine ⟨fun g8 => go 300 ?_,fun g8 => go 300 ?_⟩
  ·have g8 : prior = false:=by simpa using g8
   exact ⟨trivial,rfl,rfl,leafN (by unfold rowO;rw [decide_eq_false k1,g2,decide_eq_true k3,decide_eq_false k4,decide_eq_true k5,g6,g7,g8];rfl)⟩
  ·have g8 : prior = true:=by simpa using g8
   show Goes _ _ _ _
   refine goes_draw 300 ⟨_,w_UndoM a ha,rfl,rfl,⟨rfl,rfl,trivial⟩,?_⟩
   refine ⟨by kernel_rfl,?_⟩
   refine ⟨by kernel_rfl,?_⟩
   exact ⟨trivial,rfl,rfl,leaf2 (undoO a) b (by unfold rowO;rw [decide_eq_false k1,g2,decide_eq_true k3,decide_eq_false k4,decide_eq_true k5,g6,g7];rw [g8];rfl)⟩
 ·have k5 : b.kind ≠ 3:=ne_of g5
  have er : rowO b a prior = [shiftedO b a prior]:=by unfold rowO;rw [decide_eq_false k1,g2,decide_eq_true k3,decide_eq_false k4,decide_eq_false k5];rfl
  show CallThen _ _ _ _ _ _
  refine call_pure hsh rfl ?_
  rintro x rfl
  refine ⟨⟨rfl,trivial⟩,?_⟩
  exact ⟨trivial,rfl,rfl,leaf1 (shiftedO b a prior) er⟩
end Bow
/- W54: square.Behind, Both (but for two edits of one leaf). -/
namespace Bow
open Go Go.Proofs
theorem undo_ok {a : OpT} (h1 : a.path.length ≤ 1000) (h2 : a.to.length ≤ 1000) : (undoO a).Ok:=by
 unfold undoO
 cases decide (a.kind = 3) && movesO a with
 | false => exact ⟨⟨Nat.zero_le _,Nat.zero_le _,Nat.zero_le _,Nat.zero_le _,Nat.zero_le _,Nat.zero_le _⟩,Nat.zero_le _⟩
 | true =>
  have q1:=nodeP_len a a.path
  have q2:=nodeP_len a (chgO a).frm
  have q3 : (chgO a).frm.length ≤ a.path.length:=by
   unfold chgO
   cases decide (a.kind = 1) <;> simp
  exact ⟨⟨by show ((nodeP a a.path).getD []).length ≤ _;omega,by show ((nodeP a (chgO a).frm).getD []).length ≤ _;omega,Nat.zero_le _,Nat.zero_le _,Nat.zero_le _,Nat.zero_le _⟩,Nat.zero_le _⟩
theorem row_mem {b a o : OpT} {prior : Bool} (h : o ∈ rowO b a prior) : o = shiftedO b a prior ∨ o = dropO ((nodeP a b.path).getD []) ∨ o = dropO ((nodeP a a.path).getD []) ∨
  o = dropO ((nodeP (dropO ((nodeP a a.path).getD [])) ((nodeP a b.path).getD [])).getD []) ∨ o = undoO a ∨ o = b:=by
 unfold rowO at h
 have one : ∀ {x : OpT},o ∈ [x] → o = x:=fun h => List.mem_singleton.1 h
 cases h1 : decide (a.kind = 2) with
 | true =>
  rw [h1] at h
  cases h2 : within a.path b.path with
  | true => rw [h2] at h;cases h
  | false =>
   rw [h2] at h
   cases h3 : decide (b.kind = 3) && within a.path b.to with
   | true => rw [h3] at h;exact .inr (.inl (one h))
   | false => rw [h3] at h;exact .inl (one h)
 | false =>
  rw [h1] at h
  cases h2 : wonO b a with
  | true =>
   rw [h2] at h
   cases prior with
   | true => exact .inl (one h)
   | false => cases h
  | false =>
   rw [h2] at h
   cases h3 : decide (a.kind = 3) with
   | false => rw [h3] at h;exact .inl (one h)
   | true =>
    rw [h3] at h
    cases h4 : decide (b.kind = 2) with
    | true =>
     rw [h4] at h
     cases h5 : within b.path a.path && (!decide (b.path = a.path) && !within b.path a.to) with
     | true =>
      rw [h5] at h
      rcases List.mem_cons.1 h with h | h
      ·exact .inr (.inr (.inl h))
      ·exact .inr (.inr (.inr (.inl (one h))))
     | false => rw [h5] at h;exact .inl (one h)
    | false =>
     rw [h4] at h
     cases h5 : decide (b.kind = 3) && (within b.path a.to && within a.path b.to) with
     | true =>
      rw [h5] at h
      cases prior with
      | true =>
       rcases List.mem_cons.1 h with h | h
       ·exact .inr (.inr (.inr (.inr (.inl h))))
       ·exact .inr (.inr (.inr (.inr (.inr (one h)))))
      | false => cases h
     | false => rw [h5] at h;exact .inl (one h)
theorem row_ok {b a : OpT} {prior : Bool} (ha : a.Ok) (hb : b.Ok) (pa : a.path.length ≤ 1000) (pb : b.path.length ≤ 1000) (ta : a.to.length ≤ 1000) (tb : b.to.length ≤ 1000) : ∀ o ∈ rowO b a prior,o.Ok:=by
 have hs:=shifted_ok (prior:=prior) ha hb pb tb ta
 have hu:=undo_ok pa ta
 have q1:=nodeP_len a b.path
 have q2:=nodeP_len a a.path
 have q3:=nodeP_len (dropO ((nodeP a a.path).getD [])) ((nodeP a b.path).getD [])
 have q4 : (dropO ((nodeP a a.path).getD [])).to.length = 0:=rfl
 have d1:=drop_ok (p:=(nodeP a b.path).getD []) (by omega)
 have d2:=drop_ok (p:=(nodeP a a.path).getD []) (by omega)
 have d3:=drop_ok (p:=(nodeP (dropO ((nodeP a a.path).getD [])) ((nodeP a b.path).getD [])).getD []) (by omega)
 intro o ho
 rcases row_mem ho with rfl | rfl | rfl | rfl | rfl | rfl <;> assumption
theorem set_step {l : List OpT} {i : Nat} (hi : i < l.length) : (((l.take i).map bareO ++ l.drop i).map opV).set (0 + ((i : Nat) : Int).toNat) (opV (bareO l[i])) = ((l.take (i + 1)).map bareO ++ l.drop (i + 1)).map opV:=by
 rw [List.drop_eq_getElem_cons hi,List.take_succ_eq_append_getElem hi,List.map_append,List.map_append,List.map_append,List.map_append,Nat.zero_add,show ((i : Nat) : Int).toNat = i from rfl]
 rw [List.set_append_right _ _ (by simp;omega)]
 have : i - (List.map opV (List.map bareO (List.take i l))).length = 0:=by simp;omega
 rw [this,List.map_cons,List.set_cons_zero]
 simp
def BehV (r : List OpT × Int) : V:=.tup [opsV r.1,.int .i64 r.2]
theorem behZ (e : Int) : ∃ y,Wk (.tup [.nilsl,.int .i64 e]) y ∧ y.pureB = true ∧ y = BehV ([],e):=⟨BehV ([],e),Wk.tup ⟨Wk.nil 11,.refl _,trivial⟩,rfl,rfl⟩
set_option maxHeartbeats 4000000 in
set_option maxRecDepth 100000 in
theorem w_Behind (b a : OpT) (prior : Bool) (ha : a.Ok) (hb : b.Ok) (he : bothEdit b a = false) (hto : a.to.length ≤ 1000 ∧ b.to.length ≤ 1000) :
  Pure Tryz.prog 188 [opV b,opV a,.bool prior] (fun x => x = BehV (behindO b a prior)):=by
 refine pure_wk (pure_fn 300 Tryz.func188 rfl rfl rfl fun B => ?_)
 show CallThen _ _ _ _ _ _
 refine call_pure (w_sound a ha) rfl ?_
 rintro x rfl
 refine ⟨fun g1 => go 300 ?_,fun g1 => go 300 ?_⟩
 ·have g1 : soundO a = false:=by simpa using g1
  have e : behindO b a prior = ([],80):=by unfold behindO;rw [g1];rfl
  rw [e]
  exact ⟨trivial,rfl,rfl,rfl,behZ 80⟩
 have sa : soundO a = true:=by simpa using g1
 show CallThen _ _ _ _ _ _
 refine call_pure (w_sound b hb) rfl ?_
 rintro x rfl
 refine ⟨fun g2 => go 300 ?_,fun g2 => go 300 ?_⟩
 ·have g2 : soundO b = false:=by simpa using g2
  have e : behindO b a prior = ([],80):=by unfold behindO;rw [sa,g2];rfl
  rw [e]
  exact ⟨trivial,rfl,rfl,rfl,behZ 80⟩
 have sb : soundO b = true:=by simpa using g2
 have fa : formedB a = true:=by unfold soundO at sa;rw [Bool.and_eq_true] at sa;exact sa.1
 have fb : formedB b = true:=by unfold soundO at sb;rw [Bool.and_eq_true] at sb;exact sb.1
 have pa:=may_len (formed_path fa)
 have pb:=may_len (formed_path fb)
 have hrow:=w_row b a prior ha hb sa sb he hto
 have hrok:=row_ok (prior:=prior) ha hb (by omega) (by omega) hto.1 hto.2
 have e : behindO b a prior = bif (rowO b a prior).all formedB then ((rowO b a prior).map bareO,0) else ([],3):=by unfold behindO;rw [sa,sb];rfl
 rw [e]
 obtain ⟨l,hl⟩ : ∃ l,rowO b a prior = l:=⟨_,rfl⟩
 have hlen : l.length ≤ 2:=by rw [← hl];exact row_len b a prior
 rw [hl] at hrow hrok ⊢
 show CallThen _ _ _ _ _ _
 refine call_sub [] hrow rfl rfl trivial rfl rfl rfl ?_
 rintro x T1 (⟨rfl,rfl,rfl⟩ | ⟨G,rfl,rfl⟩)
 ·refine ⟨rfl,?_⟩
  refine ⟨fun q => absurd rfl (ne_of' q),fun _ => go 300 ?_⟩
  show Goes _ _ _ _
  refine goes_loop ?_
  refine go 300 ?_
  refine ⟨fun q => absurd (lt_of q) (by decide),fun _ => go 300 ?_⟩
  exact ⟨trivial,rfl,rfl,rfl,behZ 0⟩
 ·refine ⟨rfl,?_⟩
  refine ⟨fun q => absurd rfl (ne_of' q),fun _ => go 300 ?_⟩
  refine ⟨rfl,?_⟩
  show Goes _ _ _ _
  refine goes_iter (ι:=Nat) (fun i => i ≤ l.length ∧ (l.take i).all formedB = true) (fun i => l.length - i) (fun i => [(31,.int .i64 i),(30,.int .i64 l.length),(29,.osl (.loc 4) G 0 l.length),(8,.osl (.loc 4) G 0 l.length)])
   (fun i => [some (.box (opV b).cells),some (.box (opV a).cells),some (.box (opV b).cells),some (.box (opV a).cells),some (.vec G 11 (((l.take i).map bareO ++ l.drop i).map opV))]) 0 300 (fun _ => rfl) (fun _ => rfl) ⟨⟨Nat.zero_le _,by simp⟩,⟨⟨rfl,rfl⟩,⟨rfl,rfl⟩,⟨rfl,rfl⟩,⟨rfl,rfl⟩,trivial⟩,⟨⟨rfl,rfl⟩,⟨rfl,rfl⟩,⟨rfl,rfl⟩,⟨rfl,rfl⟩,⟨rfl,rfl⟩,trivial⟩⟩ ?_
  rintro i ⟨k1,k2⟩ next
  refine ⟨fun hlt => go 300 ?_,fun hge => go 300 ?_⟩
  ·have hi : i < l.length:=by have:=lt_of hlt;omega
   have hx : ((((l.take i).map bareO ++ l.drop i).map opV))[0 + ((i : Nat) : Int).toNat]? = some (opV l[i]):=by
    simp [List.getElem?_append_right,hi,Nat.min_eq_left (Nat.le_of_lt hi)]
   have hok:=hrok l[i] (List.getElem_mem hi)
   refine ⟨rfl,Int.natCast_nonneg i,by omega,rfl,_,hx,?_⟩
   show CallThen _ _ _ _ _ _
   refine call_pure (w_Formed l[i] hok.lt hok.each) rfl ?_
   rintro x rfl
   refine ⟨fun g3 => go 300 ?_,fun g3 => go 300 ?_⟩
   ·have g3 : formedB l[i] = false:=by simpa using g3
    have e : l.all formedB = false:=List.all_eq_false.2 ⟨l[i],List.getElem_mem hi,by simpa using g3⟩
    rw [e]
    exact ⟨trivial,rfl,rfl,rfl,behZ 3⟩
   have g3 : formedB l[i] = true:=by simpa using g3
   show CallThen _ _ _ _ _ _
   refine call_pure (w_Bare l[i] hok.lt) rfl ?_
   rintro x rfl
   refine ⟨rfl,Int.natCast_nonneg i,by omega,rfl,_,hx,?_⟩
   refine ⟨by constructor <;> omega,?_⟩
   show Goes _ _ _ _
   refine next (i + 1) _ _ ⟨⟨hi,?_⟩,by omega,⟨⟨rfl,rfl⟩,⟨rfl,rfl⟩,⟨rfl,rfl⟩,⟨rfl,rfl⟩,trivial⟩,⟨⟨rfl,rfl⟩,⟨rfl,rfl⟩,⟨rfl,rfl⟩,⟨rfl,rfl⟩,⟨?_,rfl⟩,trivial⟩⟩
   ·rw [List.take_succ_eq_append_getElem hi,List.all_append,k2]
    simp [g3]
   ·show some (HObj.vec G 11 (((((l.take i).map bareO ++ l.drop i).map opV)).set (0 + ((i : Nat) : Int).toNat) (opV (bareO l[i])))) = _
    rw [set_step hi]
  ·have hi : i = l.length:=by have:=not_lt_of hge;omega
   subst hi
   rw [List.take_length] at k2
   rw [k2]
   refine ⟨trivial,rfl,rfl,rfl,by simp,rfl,?_⟩
   refine ⟨BehV (l.map bareO,0),?_,rfl,rfl⟩
   simp [BehV,opsV]
   exact Wk.refl _
def BothV (r : List OpT × List OpT × Int) : V:=.tup [opsV r.1,opsV r.2.1,.int .i64 r.2.2]
theorem bothZ (e : Int) : ∃ y,Wk (.tup [.nilsl,.nilsl,.int .i64 e]) y ∧ y.pureB = true ∧ y = BothV ([],[],e):=⟨BothV ([],[],e),Wk.tup ⟨Wk.nil 11,Wk.nil 11,.refl _,trivial⟩,rfl,rfl⟩
end Bow
/- W55: leaftext's maker of a normal edit; norm. -/
namespace Bow
open Go Go.Proofs
def mkB (m : Mk) (g : Nat) : HObj:=.box [.osl (.loc 1) g 0 m.l.length,.int .i64 m.keep]
def mkVec (m : Mk) (g : Nat) : HObj:=.vec g 3 (m.l.map pieceV)
def mkT (m : Mk) (g : Nat) : Heap:=[some (mkB m g),some (mkVec m g)]
theorem last_grown {m : Mk} (h : 0 < m.keep ∨ m.l.length = 0) : m.last = ⟨m.l ++ [⟨m.keep,0,[]⟩],0⟩:=by
 unfold Mk.last
 have : (decide (0 < m.keep) || m.l.isEmpty) = true:=by
  rcases h with h | h
  ·simp [h]
  ·have:=List.length_eq_zero_iff.1 h
   simp [this]
 rw [this]
 rfl
theorem last_still {m : Mk} (h : ¬ 0 < m.keep) (h' : m.l.length ≠ 0) : m.last = m:=by
 unfold Mk.last
 have : (decide (0 < m.keep) || m.l.isEmpty) = false:=by
  have h2 : m.l ≠ []:=fun e => h' (by rw [e];rfl)
  simp [h,h2]
 rw [this]
 rfl
set_option maxRecDepth 100000 in
theorem w_last (m : Mk) (g : Nat) (hok : m.Ok) (hw : m.w ≤ 1000000000000) : Fun Tryz.prog 199 (mkT m g) [.ptr (.loc 0) 0] (fun x T => ∃ g',x = .eptr (.loc 1) g' (m.last.l.length - 1) 0 ∧ T = mkT m.last g'):=by
 have hlen : (m.l.length : Int) ≤ 1000000000000:=by
  have:=sumW_len hok.l
  have:=hok.k
  unfold Mk.w at hw
  omega
 refine fun_keep 2 rfl (fun_fn 300 Tryz.func199 rfl rfl rfl fun imps B hi => ?_)
 have hroom : room ((m.l.map pieceV).length + 1) 32:=by
  unfold room
  simp only [List.length_map]
  omega
 refine ⟨fun g1 => go 300 ?_,fun g1 => go 300 ?_⟩
 ·have hl:=last_grown (.inl (lt_of g1))
  show Goes _ _ _ _
  refine goes_draw 300 ⟨rfl,⟨rfl,trivial⟩,rfl,rfl,rfl,rfl,by simp,hroom,?_⟩
  refine ⟨by kernel_rfl,?_⟩
  show Goes _ _ _ _
  refine goes_draw 300 ⟨rfl,⟨?_,?_⟩,rfl,?_,?_,?_⟩
  ·simp only [List.length_map,List.length_cons,List.length_nil];omega
  ·simp only [List.length_map,List.length_cons,List.length_nil];omega
  ·simp only [List.length_map,List.length_cons,List.length_nil];omega
  ·simp only [List.length_map,List.length_cons,List.length_nil];omega
  refine ⟨by kernel_rfl,?_⟩
  refine ⟨trivial,rfl,rfl,mkT m.last (bump g),rfl,rfl,⟨⟨?_,rfl⟩,⟨?_,rfl⟩,trivial⟩,bump g,?_,rfl⟩
  ·rw [hl];simp [mkB]
  ·rw [hl];simp [mkVec,pieceV]
  ·rw [hl]
   show V.eptr (Ref.loc 1) (bump g) _ 0 = _
   congr 1
   simp
 ·refine ⟨rfl,?_⟩
  refine ⟨fun g2 => go 300 ?_,fun g2 => go 300 ?_⟩
  ·have hz:=eq_of g2
   have hl:=last_grown (m:=m) (.inr (by omega))
   show Goes _ _ _ _
   refine goes_draw 300 ⟨rfl,⟨rfl,trivial⟩,rfl,rfl,rfl,rfl,by simp,hroom,?_⟩
   refine ⟨by kernel_rfl,?_⟩
   show Goes _ _ _ _
   refine goes_draw 300 ⟨rfl,⟨?_,?_⟩,rfl,?_,?_,?_⟩
   ·simp only [List.length_map,List.length_cons,List.length_nil];omega
   ·simp only [List.length_map,List.length_cons,List.length_nil];omega
   ·simp only [List.length_map,List.length_cons,List.length_nil];omega
   ·simp only [List.length_map,List.length_cons,List.length_nil];omega
   refine ⟨by kernel_rfl,?_⟩
   refine ⟨trivial,rfl,rfl,mkT m.last (bump g),rfl,rfl,⟨⟨?_,rfl⟩,⟨?_,rfl⟩,trivial⟩,bump g,?_,rfl⟩
   ·rw [hl];simp [mkB]
   ·rw [hl];simp [mkVec,pieceV]
   ·rw [hl]
    show V.eptr (Ref.loc 1) (bump g) _ 0 = _
    congr 1
    simp
  ·have hz:=ne_of g2
   have hl:=last_still (m:=m) (Int.not_lt.2 (not_lt_of g1)) (by omega)
   show Goes _ _ _ _
   refine goes_draw 300 ⟨rfl,⟨by omega,by omega⟩,rfl,by omega,by omega,?_⟩
   refine ⟨by kernel_rfl,?_⟩
   refine ⟨trivial,rfl,rfl,mkT m.last g,rfl,rfl,⟨⟨?_,rfl⟩,⟨?_,rfl⟩,trivial⟩,g,?_,rfl⟩
   ·rw [hl]
   ·rw [hl]
   ·rw [hl]
    show V.eptr (Ref.loc 1) g _ 0 = _
    congr 1
    simp
theorem set_modL {f : PieceT → PieceT} {l : List PieceT} (h : l ≠ []) {x : V} (hx : x = pieceV (f (l[l.length - 1]'(by have:=List.length_pos_iff.2 h;omega)))) : (l.map pieceV).set (l.length - 1) x = (modL f l).map pieceV:=by
 rw [modL_set f l (by have:=List.length_pos_iff.2 h;omega),List.map_set,hx]
theorem last_get {l : List PieceT} (h : l ≠ []) : (l.map pieceV)[l.length - 1]? = some (pieceV (l[l.length - 1]'(by have:=List.length_pos_iff.2 h;omega))):=by
 have:=List.length_pos_iff.2 h
 simp [show l.length - 1 < l.length by omega]
set_option maxRecDepth 100000 in
theorem w_mkPut (m : Mk) (g : Nat) (s : List UInt8) (hok : m.Ok) (hw : m.w ≤ 1000000000000) (hs : s.length ≤ 1000000000000) : Fun Tryz.prog 179 (mkT m g) [.ptr (.loc 0) 0,.str s] (fun x T => ∃ g',x = .tup [] ∧ T = mkT (m.put s) g'):=by
 refine fun_keep 2 rfl (fun_fn 300 Tryz.func179 rfl rfl rfl fun imps B hi => ?_)
 refine ⟨fun g1 => go 300 ?_,fun g1 => go 300 ?_⟩
 ·have hne : s.isEmpty = false:=by
   have : s ≠ []:=by simpa using g1
   cases s with
   | nil => exact absurd rfl this
   | cons a s => rfl
  have e : m.put s = ⟨modL (fun p => { p with put:=p.put ++ s }) m.last.l,m.last.keep⟩:=by unfold Mk.put;rw [hne];rfl
  obtain ⟨lok,lw⟩:=Mk.last_ok hok
  have hlast:=m.last_ne
  show CallThen _ _ _ _ _ _
  refine call_sub [0,1] (w_last m g hok hw) rfl rfl ⟨⟨rfl,rfl⟩,⟨rfl,rfl⟩,trivial⟩ rfl rfl rfl ?_
  rintro x T1 ⟨g',rfl,rfl⟩
  refine ⟨rfl,?_⟩
  show Goes _ _ _ _
  refine goes_nilE 300 rfl rfl rfl rfl rfl ?_
  have hput : (m.last.l[m.last.l.length - 1]'(by have:=List.length_pos_iff.2 hlast;omega)).put.length ≤ 1000000000001:=by
   have h1:=sumW_mem lok.l _ (List.getElem_mem (by have:=List.length_pos_iff.2 hlast;omega : m.last.l.length - 1 < m.last.l.length))
   have h2:=lok.l _ (List.getElem_mem (by have:=List.length_pos_iff.2 hlast;omega : m.last.l.length - 1 < m.last.l.length))
   have:=h2.k
   have:=h2.d
   have:=lok.k
   unfold PieceT.w at h1
   unfold Mk.w at lw hw
   omega
  refine ⟨rfl,rfl,_,last_get hlast,?_⟩
  refine ⟨by rw [List.length_append];omega,?_⟩
  show Goes _ _ _ _
  refine goes_nilE 300 rfl rfl rfl rfl rfl ?_
  refine ⟨rfl,rfl,_,last_get hlast,?_⟩
  refine ⟨trivial,rfl,rfl,mkT (m.put s) g',rfl,rfl,⟨⟨?_,rfl⟩,⟨?_,rfl⟩,trivial⟩,g',rfl,rfl⟩
  ·show some (mkB m.last g') = _
   rw [e]
   simp only [mkB,modL_len]
  ·rw [e]
   exact congrArg (fun z => some (HObj.vec g' 3 z)) (set_modL (f:=fun p => { p with put:=p.put ++ s }) hlast rfl)
 ·have hne : s = []:=by simpa using g1
  subst hne
  refine ⟨trivial,rfl,rfl,mkT m g,rfl,rfl,⟨⟨rfl,rfl⟩,⟨rfl,rfl⟩,trivial⟩,g,rfl,rfl⟩
set_option maxRecDepth 100000 in
theorem w_mkDrop (m : Mk) (g : Nat) (n : Int) (hok : m.Ok) (hw : m.w ≤ 1000000000000) (hs : n ≤ 1000000000000) : Fun Tryz.prog 183 (mkT m g) [.ptr (.loc 0) 0,.int .i64 n] (fun x T => ∃ g',x = .tup [] ∧ T = mkT (m.drop n) g'):=by
 refine fun_keep 2 rfl (fun_fn 300 Tryz.func183 rfl rfl rfl fun imps B hi => ?_)
 refine ⟨fun g1 => go 300 ?_,fun g1 => go 300 ?_⟩
 ·have hne : 0 < n:=lt_of g1
  have e : m.drop n = ⟨modL (fun p => { p with drop:=p.drop + n }) m.last.l,m.last.keep⟩:=by unfold Mk.drop;rw [decide_eq_true hne];rfl
  obtain ⟨lok,lw⟩:=Mk.last_ok hok
  have hlast:=m.last_ne
  show CallThen _ _ _ _ _ _
  refine call_sub [0,1] (w_last m g hok hw) rfl rfl ⟨⟨rfl,rfl⟩,⟨rfl,rfl⟩,trivial⟩ rfl rfl rfl ?_
  rintro x T1 ⟨g',rfl,rfl⟩
  refine ⟨rfl,?_⟩
  show Goes _ _ _ _
  refine goes_nilE 300 rfl rfl rfl rfl rfl ?_
  have hput : 0 ≤ (m.last.l[m.last.l.length - 1]'(by have:=List.length_pos_iff.2 hlast;omega)).drop ∧ (m.last.l[m.last.l.length - 1]'(by have:=List.length_pos_iff.2 hlast;omega)).drop ≤ 1000000000001:=by
   have h1:=sumW_mem lok.l _ (List.getElem_mem (by have:=List.length_pos_iff.2 hlast;omega : m.last.l.length - 1 < m.last.l.length))
   have h2:=lok.l _ (List.getElem_mem (by have:=List.length_pos_iff.2 hlast;omega : m.last.l.length - 1 < m.last.l.length))
   have:=h2.k
   have:=h2.d
   have:=lok.k
   unfold PieceT.w at h1
   unfold Mk.w at lw hw
   omega
  refine ⟨rfl,rfl,_,last_get hlast,?_⟩
  refine ⟨by constructor <;> omega,?_⟩
  show Goes _ _ _ _
  refine goes_nilE 300 rfl rfl rfl rfl rfl ?_
  refine ⟨rfl,rfl,_,last_get hlast,?_⟩
  refine ⟨trivial,rfl,rfl,mkT (m.drop n) g',rfl,rfl,⟨⟨?_,rfl⟩,⟨?_,rfl⟩,trivial⟩,g',rfl,rfl⟩
  ·show some (mkB m.last g') = _
   rw [e]
   simp only [mkB,modL_len]
  ·rw [e]
   exact congrArg (fun z => some (HObj.vec g' 3 z)) (set_modL (f:=fun p => { p with drop:=p.drop + n }) hlast rfl)
 ·have hne : ¬ 0 < n:=Int.not_lt.2 (not_lt_of g1)
  have e : m.drop n = m:=by unfold Mk.drop;rw [decide_eq_false hne];rfl
  rw [e]
  refine ⟨trivial,rfl,rfl,mkT m g,rfl,rfl,⟨⟨rfl,rfl⟩,⟨rfl,rfl⟩,trivial⟩,g,rfl,rfl⟩
set_option maxRecDepth 100000 in
theorem w_mkPiece (m : Mk) (g : Nat) (p : PieceT) (hok : m.Ok) (hp : p.Nn) (hw : m.w + p.w ≤ 900000000000) : Fun Tryz.prog 198 (mkT m g) [.ptr (.loc 0) 0,pieceV p] (fun x T => ∃ g',x = .tup [] ∧ T = mkT (m.piece p) g'):=by
 have p1:=hp.k
 have p2:=hp.d
 have m1:=hok.k
 have m2:=sumW_len hok.l
 have hw':=hw
 unfold PieceT.w Mk.w at hw'
 obtain ⟨a1,a2⟩:=Mk.kept_ok hok hp.k
 obtain ⟨b1,b2⟩:=Mk.put_ok (s:=p.put) a1
 have hpw : p.w = p.keep + p.drop + p.put.length + 1:=rfl
 refine fun_keep 2 rfl (fun_fn 300 Tryz.func198 rfl rfl rfl fun imps B hi => ?_)
 show Goes _ _ _ _
 refine goes_draw 300 ⟨⟨by omega,by omega⟩,?_⟩
 refine ⟨by kernel_rfl,?_⟩
 show CallThen _ _ _ _ _ _
 refine call_sub [0,1] (w_mkPut (m.kept p.keep) g p.put a1 (by omega) (by omega)) rfl rfl ⟨⟨rfl,rfl⟩,⟨rfl,rfl⟩,trivial⟩ rfl rfl rfl ?_
 rintro x T1 ⟨g1,rfl,rfl⟩
 refine ⟨rfl,?_⟩
 show CallThen _ _ _ _ _ _
 refine call_sub [0,1] (w_mkDrop ((m.kept p.keep).put p.put) g1 p.drop b1 (by omega) (by omega)) rfl rfl ⟨⟨rfl,rfl⟩,⟨rfl,rfl⟩,trivial⟩ rfl rfl rfl ?_
 rintro x T1 ⟨g2,rfl,rfl⟩
 refine ⟨rfl,?_⟩
 exact ⟨trivial,rfl,rfl,mkT (m.piece p) g2,rfl,rfl,⟨⟨rfl,rfl⟩,⟨rfl,rfl⟩,trivial⟩,g2,rfl,rfl⟩
theorem foldl_take_succ {l : List PieceT} {i : Nat} (hi : i < l.length) (m : Mk) : (l.take (i + 1)).foldl Mk.piece m = ((l.take i).foldl Mk.piece m).piece l[i]:=by
 rw [List.take_succ_eq_append_getElem hi,List.foldl_append]
 rfl
theorem sumW_take (l : List PieceT) (i : Nat) (h : ∀ p ∈ l,p.Nn) : sumW (l.take i) ≤ sumW l:=by
 have e:=sumW_append (l.take i) (l.drop i)
 rw [List.take_append_drop] at e
 have:=sumW_len (l:=l.drop i) fun p hp => h p (List.mem_of_mem_drop hp)
 omega
set_option maxRecDepth 100000 in
theorem w_norm (l : List PieceT) (h : ∀ p ∈ l,p.Nn) (hw : sumW l ≤ 100000000000) (hl : l.length ≤ 100000000000) : Fun Tryz.prog 177 [] [piecesV l] (fun x T => ∃ g k,x = .osl (.loc 1) g 0 (normP l).length ∧ T = [some (.box [.osl (.loc 1) g 0 (normP l).length,.int .i64 k]),some (.vec g 3 ((normP l).map pieceV))]):=by
 refine fun_keep 2 rfl (fun_fn 300 Tryz.func177 rfl rfl rfl fun imps B hi => ?_)
 have : imps = []:=List.length_eq_zero_iff.1 hi
 subst this
 show Goes _ _ _ _
 refine goes_ownCell 0 0 3 rfl rfl ?_
 refine goes_iter (ι:=Nat × Nat) (fun i => i.1 ≤ l.length) (fun i => l.length - i.1) (fun i => [(8,.int .i64 i.1),(7,.int .i64 l.length),(6,piecesV l),(3,.ptr (.loc 0) 0)]) (fun i => mkT ((l.take i.1).foldl Mk.piece Mk.nil) i.2) (0,0) 300 (fun _ => rfl) (fun _ => rfl)
  ⟨Nat.zero_le _,⟨⟨rfl,rfl⟩,⟨?_,rfl⟩,⟨rfl,rfl⟩,⟨rfl,rfl⟩,trivial⟩,⟨⟨rfl,rfl⟩,⟨rfl,rfl⟩,trivial⟩⟩ ?_
 ·show V.int _ _ = _
  simp
 rintro ⟨i,g⟩ k1 next
 simp only at k1
 refine ⟨fun hlt => go 300 ?_,fun hge => go 300 ?_⟩
 ·have hi : i < l.length:=by have:=lt_of hlt;omega
  have hx : (l.map pieceV)[i]? = some (pieceV l[i]):=by simp [hi]
  have hm : l[i] ∈ l:=List.getElem_mem hi
  obtain ⟨q1,q2⟩:=foldl_ok (l:=l.take i) Mk.nil_ok fun p hp => h p (List.mem_of_mem_take hp)
  have q3:=sumW_take l i h
  have q4:=sumW_mem h _ hm
  have q5 : Mk.nil.w = 0:=rfl
  refine ⟨Int.natCast_nonneg i,_,hx,?_⟩
  show CallThen _ _ _ _ _ _
  refine call_sub [0,1] (w_mkPiece _ g l[i] q1 (h _ hm) (by omega)) rfl rfl ⟨⟨rfl,rfl⟩,⟨rfl,rfl⟩,trivial⟩ rfl rfl rfl ?_
  rintro x T1 ⟨g1,rfl,rfl⟩
  refine ⟨rfl,?_⟩
  refine ⟨by constructor <;> omega,?_⟩
  show Goes _ _ _ _
  refine next (i + 1,g1) _ _ ⟨hi,by simp only;omega,⟨⟨rfl,rfl⟩,⟨rfl,rfl⟩,⟨rfl,rfl⟩,⟨rfl,rfl⟩,trivial⟩,?_⟩
  rw [show (l.take (i + 1)).foldl Mk.piece Mk.nil = _ from foldl_take_succ hi Mk.nil]
  exact ⟨⟨rfl,rfl⟩,⟨rfl,rfl⟩,trivial⟩
 ·have hi : i = l.length:=by have:=not_lt_of hge;omega
  subst hi
  refine ⟨trivial,rfl,rfl,mkT (l.foldl Mk.piece Mk.nil) g,rfl,rfl,⟨⟨?_,rfl⟩,⟨?_,rfl⟩,trivial⟩,g,(l.foldl Mk.piece Mk.nil).keep,?_,rfl⟩
  ·show some (mkB ((l.take l.length).foldl Mk.piece Mk.nil) g) = _
   rw [List.take_length]
  ·show some (mkVec ((l.take l.length).foldl Mk.piece Mk.nil) g) = _
   rw [List.take_length]
  ·show V.osl (Ref.loc 1) g 0 ((l.take l.length).foldl Mk.piece Mk.nil).l.length = _
   rw [List.take_length]
   rfl
end Bow
/- W56: leaftext's rows. -/
namespace Bow
open Go Go.Proofs
def rowVec (d r : List PieceT) (g : Nat) : HObj:=.vec g 3 ((d ++ r).map pieceV)
theorem row_get (d : List PieceT) (p : PieceT) (r : List PieceT) : ((d ++ p :: r).map pieceV)[d.length + ((0 : Int)).toNat]? = some (pieceV p):=by simp
theorem row_set (d : List PieceT) (p q : PieceT) (r : List PieceT) : ((d ++ p :: r).map pieceV).set (d.length + ((0 : Int)).toNat) (pieceV q) = (d ++ q :: r).map pieceV:=by simp
set_option maxRecDepth 100000 in
theorem w_rowPut (d r : List PieceT) (g : Nat) : Fun Tryz.prog 178 [some (rowVec d r g)] [.osl (.loc 0) g d.length r.length] (fun x T => x = .tup [.str (rowPut r).1,.bool (rowHas r)] ∧ T = [some (rowVec d (rowPut r).2 g)]):=by
 refine fun_wk (fun_fn 300 Tryz.func178 rfl rfl rfl fun imps B hi => ?_)
 have ff : ∀ {s : List UInt8} {b : Bool},b = false → Wk (.tup [.str s,.ff]) (.tup [.str s,.bool b]):=fun h => by subst h;exact Wk.tup ⟨.refl _,Wk.ff,trivial⟩
 have tt : ∀ {s : List UInt8} {b : Bool},b = true → Wk (.tup [.str s,.tt]) (.tup [.str s,.bool b]):=fun h => by subst h;exact Wk.tup ⟨.refl _,Wk.tt,trivial⟩
 cases r with
 | nil =>
  refine ⟨rfl,?_⟩
  refine ⟨fun g1 => go 300 ?_,fun g1 => absurd rfl (ne_of g1)⟩
  exact ⟨trivial,rfl,rfl,_,ff rfl,rfl,rfl,rfl,rfl⟩
 | cons p r =>
  refine ⟨rfl,?_⟩
  refine ⟨fun g1 => by have:=eq_of g1;simp at this;omega,fun g1 => go 300 ?_⟩
  have hl : (0 : Int) < ((p :: r).length : Nat):=by simp
  refine ⟨rfl,by decide,hl,rfl,rfl,_,row_get d p r,?_⟩
  refine ⟨fun g2 => go 300 ?_,fun g2 => go 300 ?_⟩
  ·have e : (decide (0 < p.keep) || p.put.isEmpty) = true:=by rw [g2];rfl
   have e1 : rowPut (p :: r) = ([],p :: r):=by show (bif _ then _ else _) = _;rw [e];rfl
   have e2 : rowHas (p :: r) = false:=by show (!_) = _;rw [e];rfl
   exact ⟨trivial,rfl,rfl,.tup [.str [],.bool (rowHas (p :: r))],ff e2,rfl,rfl,by rw [e1],by show [some (rowVec d (p :: r) g)] = _;rw [e1]⟩
  ·refine ⟨rfl,by decide,hl,rfl,rfl,_,row_get d p r,?_⟩
   refine ⟨fun g3 => go 300 ?_,fun g3 => go 300 ?_⟩
   ·have g3 : p.put = []:=by simpa using g3
    have e : (decide (0 < p.keep) || p.put.isEmpty) = true:=by rw [g3];simp
    have e1 : rowPut (p :: r) = ([],p :: r):=by show (bif _ then _ else _) = _;rw [e];rfl
    have e2 : rowHas (p :: r) = false:=by show (!_) = _;rw [e];rfl
    exact ⟨trivial,rfl,rfl,.tup [.str [],.bool (rowHas (p :: r))],ff e2,rfl,rfl,by rw [e1],by show [some (rowVec d (p :: r) g)] = _;rw [e1]⟩
   ·have g3 : p.put ≠ []:=by simpa using g3
    have e : (decide (0 < p.keep) || p.put.isEmpty) = false:=by rw [g2];simp [g3]
    refine ⟨rfl,by decide,hl,rfl,rfl,_,row_get d p r,?_⟩
    refine ⟨rfl,by decide,hl,rfl,rfl,_,row_get d p r,?_⟩
    have e1 : rowPut (p :: r) = (p.put,{ p with put:=[] } :: r):=by show (bif _ then _ else _) = _;rw [e];rfl
    have e2 : rowHas (p :: r) = true:=by show (!_) = _;rw [e];rfl
    refine ⟨trivial,rfl,rfl,.tup [.str p.put,.bool (rowHas (p :: r))],tt e2,rfl,rfl,by rw [e1],?_⟩
    rw [e1]
    exact congrArg (fun z => [some (HObj.vec g 3 z)]) (row_set d p { p with put:=[] } r)
set_option maxRecDepth 100000 in
theorem w_rowTake (d r : List PieceT) (g : Nat) (n : Int) (hn : 0 ≤ n ∧ n ≤ 1000000000000) (hr : ∀ p ∈ r,p.Nn ∧ p.w ≤ 1000000000000) : Fun Tryz.prog 181 [some (rowVec d r g)] [.osl (.loc 0) g d.length r.length,.int .i64 n] (fun x T => x = .tup [] ∧ T = [some (rowVec d (rowTake n r) g)]):=by
 refine fun_fn 300 Tryz.func181 rfl rfl rfl fun imps B hi => ?_
 cases r with
 | nil =>
  refine ⟨rfl,?_⟩
  refine ⟨fun g1 => go 300 ?_,fun g1 => absurd rfl (ne_of g1)⟩
  exact ⟨trivial,rfl,rfl,rfl,rfl⟩
 | cons p r =>
  refine ⟨rfl,?_⟩
  refine ⟨fun g1 => by have:=eq_of g1;simp at this;omega,fun g1 => go 300 ?_⟩
  have hl : (0 : Int) < ((p :: r).length : Nat):=by simp
  obtain ⟨hp,hw⟩:=hr p List.mem_cons_self
  have h1:=hp.k
  have h2:=hp.d
  unfold PieceT.w at hw
  refine ⟨rfl,by decide,hl,?_⟩
  show Goes _ _ _ _
  refine goes_nilE 300 rfl rfl rfl rfl rfl ?_
  refine ⟨rfl,rfl,_,row_get d p r,?_⟩
  refine ⟨fun g2 => go 300 ?_,fun g2 => go 300 ?_⟩
  ·show Goes _ _ _ _
   refine goes_nilE 300 rfl rfl rfl rfl rfl ?_
   refine ⟨rfl,rfl,_,row_get d p r,by constructor <;> omega,?_⟩
   show Goes _ _ _ _
   refine goes_nilE 300 rfl rfl rfl rfl rfl ?_
   refine ⟨rfl,rfl,_,row_get d p r,?_⟩
   refine ⟨trivial,rfl,rfl,rfl,?_⟩
   have er : rowTake n (p :: r) = { p with keep:=p.keep - n } :: r:=by
    show (bif decide (0 < p.keep) then _ else _) = _
    rw [g2]
    rfl
   rw [er]
   exact congrArg (fun z => [some (HObj.vec g 3 z)]) (row_set d p { p with keep:=p.keep - n } r)
  ·show Goes _ _ _ _
   refine goes_nilE 300 rfl rfl rfl rfl rfl ?_
   refine ⟨rfl,rfl,_,row_get d p r,by constructor <;> omega,?_⟩
   show Goes _ _ _ _
   refine goes_nilE 300 rfl rfl rfl rfl rfl ?_
   refine ⟨rfl,rfl,_,row_get d p r,?_⟩
   refine ⟨trivial,rfl,rfl,rfl,?_⟩
   have er : rowTake n (p :: r) = { p with drop:=p.drop - n } :: r:=by
    show (bif decide (0 < p.keep) then _ else _) = _
    rw [g2]
    rfl
   rw [er]
   exact congrArg (fun z => [some (HObj.vec g 3 z)]) (row_set d p { p with drop:=p.drop - n } r)
end Bow
/- W57: leaftext's rows go on; what is done. -/
namespace Bow
open Go Go.Proofs
def runV (r : Int × Bool × Bool) : V:=.tup [.int .i64 r.1,.bool r.2.1,.bool r.2.2]
def rowB (d r : List PieceT) (g : Nat) : HObj:=.box [.osl (.loc 1) g d.length r.length]
set_option maxRecDepth 100000 in
theorem w_rowRun (d0 r0 : List PieceT) (g : Nat) : Fun Tryz.prog 180 [some (rowB d0 r0 g),some (rowVec d0 r0 g)] [.ptr (.loc 0) 0] (fun x T => x = runV (rowRun r0).1 ∧ ∃ d,d ++ (rowRun r0).2 = d0 ++ r0 ∧ T = [some (rowB d (rowRun r0).2 g),some (rowVec d (rowRun r0).2 g)]):=by
 have wk : ∀ {n : Int} {x y : V} {a b : Bool},(x = .tt ∧ a = true ∨ x = .ff ∧ a = false) → (y = .tt ∧ b = true ∨ y = .ff ∧ b = false) → Wk (.tup [.int .i64 n,x,y]) (runV (n,a,b)):=by
  rintro n x y a b (⟨rfl,rfl⟩ | ⟨rfl,rfl⟩) (⟨rfl,rfl⟩ | ⟨rfl,rfl⟩) <;> exact Wk.tup ⟨.refl _,by first | exact Wk.tt | exact Wk.ff,by first | exact Wk.tt | exact Wk.ff,trivial⟩
 refine fun_wk (fun_keep 2 rfl (fun_fn 300 Tryz.func180 rfl rfl rfl fun imps B hi => ?_))
 show Goes _ _ _ _
 refine goes_iter (ι:=List PieceT × List PieceT) (fun i => i.1 ++ i.2 = d0 ++ r0 ∧ rowRun i.2 = rowRun r0 ∧ i.2.length ≤ r0.length) (fun i => i.2.length) (fun i => [(0,.ptr (.loc 0) 0)]) (fun i => [some (rowB i.1 i.2 g),some (rowVec i.1 i.2 g)]) (d0,r0) 300 (fun _ => rfl) (fun _ => by rw [hi];rfl)
  ⟨⟨rfl,rfl,Nat.le_refl _⟩,⟨⟨rfl,rfl⟩,trivial⟩,⟨⟨rfl,rfl⟩,⟨rfl,rfl⟩,trivial⟩⟩ ?_
 rintro ⟨d,r⟩ ⟨k1,k2,k3⟩ next
 simp only at k1 k2 k3
 cases r with
 | nil =>
  refine ⟨rfl,?_⟩
  refine ⟨fun g1 => absurd (lt_of g1) (by simp),fun g1 => go 300 ?_⟩
  have e : rowRun r0 = ((0,false,false),[]):=k2.symm
  rw [e]
  exact ⟨trivial,rfl,rfl,[some (rowB d [] g),some (rowVec d [] g)],rfl,rfl,⟨⟨rfl,rfl⟩,⟨rfl,rfl⟩,trivial⟩,_,wk (.inr ⟨rfl,rfl⟩) (.inr ⟨rfl,rfl⟩),rfl,rfl,rfl,d,k1,rfl⟩
 | cons p r =>
  refine ⟨rfl,?_⟩
  refine ⟨fun g1 => go 300 ?_,fun g1 => absurd (not_lt_of g1) (by simp)⟩
  have hl : (0 : Int) < ((p :: r).length : Nat):=by simp
  refine ⟨rfl,by decide,hl,rfl,_,row_get d p r,?_⟩
  refine ⟨fun g2 => go 300 ?_,fun g2 => go 300 ?_⟩
  ·have e : rowRun r0 = ((p.keep,false,true),p :: r):=by rw [← k2,rowRun,g2];rfl
   rw [e]
   exact ⟨trivial,rfl,rfl,[some (rowB d (p :: r) g),some (rowVec d (p :: r) g)],rfl,rfl,⟨⟨rfl,rfl⟩,⟨rfl,rfl⟩,trivial⟩,_,wk (.inr ⟨rfl,rfl⟩) (.inl ⟨rfl,rfl⟩),rfl,rfl,rfl,d,k1,rfl⟩
  ·refine ⟨fun g3 => go 300 ?_,fun g3 => go 300 ?_⟩
   ·have e : rowRun r0 = ((p.drop,true,true),p :: r):=by rw [← k2,rowRun,g2,g3];rfl
    rw [e]
    exact ⟨trivial,rfl,rfl,[some (rowB d (p :: r) g),some (rowVec d (p :: r) g)],rfl,rfl,⟨⟨rfl,rfl⟩,⟨rfl,rfl⟩,trivial⟩,_,wk (.inl ⟨rfl,rfl⟩) (.inl ⟨rfl,rfl⟩),rfl,rfl,rfl,d,k1,rfl⟩
   ·have e : rowRun r = rowRun r0:=by rw [← k2,rowRun,g2,g3];rfl
    show Goes _ _ _ _
    refine goes_cutlo (h:=1) 300 rfl rfl rfl rfl rfl rfl rfl rfl rfl (by simp) ?_
    show Goes _ _ _ _
    have k1' : (d ++ [p]) ++ r = d0 ++ r0:=by rw [← k1];simp
    refine next (d ++ [p],r) _ _ ⟨⟨k1',e,by simp only;simp at k3;omega⟩,by simp,⟨⟨rfl,rfl⟩,trivial⟩,⟨⟨?_,rfl⟩,⟨?_,rfl⟩,trivial⟩⟩
    ·show some (HObj.box [.osl (.loc 1) g (d.length + 1) ((p :: r).length - 1)]) = some (rowB (d ++ [p]) r g)
     simp [rowB]
    ·show some (rowVec d (p :: r) g) = some (rowVec (d ++ [p]) r g)
     simp [rowVec]
def boxAt (k : Nat) (d r : List PieceT) (g : Nat) : HObj:=.box [.osl (.loc k) g d.length r.length]
def rows2 (da a db b : List PieceT) (ga gb : Nat) : Heap:=[some (boxAt 1 da a ga),some (rowVec da a ga),some (boxAt 3 db b gb),some (rowVec db b gb)]
def bothV (r : Int × Bool × Bool × Bool) : V:=.tup [.int .i64 r.1,.bool r.2.1,.bool r.2.2.1,.bool r.2.2.2]
theorem rows2_take (n : Int) (da a db b : List PieceT) (ga gb : Nat) : [some (boxAt 1 da a ga),some (rowVec da (rowTake n a) ga),some (boxAt 3 db b gb),some (rowVec db (rowTake n b) gb)] = rows2 da (rowTake n a) db (rowTake n b) ga gb:=by
 simp only [rows2,boxAt,rowTake_len]
set_option maxHeartbeats 1000000 in
set_option maxRecDepth 100000 in
theorem w_both (da a db b : List PieceT) (ga gb : Nat) (ha : RowOk a) (hb : RowOk b) : Fun Tryz.prog 225 (rows2 da a db b ga gb) [.ptr (.loc 0) 0,.ptr (.loc 2) 0] (fun x T => x = bothV (bothR a b).1 ∧ ∃ da' db',T = rows2 da' (bothR a b).2.1 db' (bothR a b).2.2 ga gb):=by
 have wk : ∀ {n : Int} {x y a b : Bool} {z : V},x = a → y = b → z = .tt → Wk (.tup [.int .i64 n,.bool x,.bool y,z]) (bothV (n,a,b,true)):=by
  rintro n x y a b z rfl rfl rfl
  exact Wk.tup ⟨.refl _,.refl _,.refl _,Wk.tt,trivial⟩
 obtain ⟨oa,na,na'⟩:=rowRun_ok ha
 obtain ⟨ob,nb,nb'⟩:=rowRun_ok hb
 have ca:=w_rowRun da a ga
 have cb:=w_rowRun db b gb
 obtain ⟨⟨⟨n,x1,s1⟩,a'⟩,hra⟩ : ∃ z,rowRun a = z:=⟨_,rfl⟩
 obtain ⟨⟨⟨m,y1,s2⟩,b'⟩,hrb⟩ : ∃ z,rowRun b = z:=⟨_,rfl⟩
 have eb:=bothR_eq hra hrb
 rw [hra] at oa na na' ca
 rw [hrb] at ob nb nb' cb
 rw [eb]
 clear eb hra hrb
 refine fun_wk (fun_fn 300 Tryz.func225 rfl rfl rfl fun imps B hi => ?_)
 show CallThen _ _ _ _ _ _
 refine call_sub [0,1] ca rfl rfl ⟨⟨rfl,rfl⟩,⟨rfl,rfl⟩,trivial⟩ rfl rfl rfl ?_
 rintro x T1 ⟨rfl,d1,-,rfl⟩
 refine ⟨rfl,?_⟩
 show CallThen _ _ _ _ _ _
 refine call_sub [2,3] cb rfl rfl ⟨⟨rfl,rfl⟩,⟨rfl,rfl⟩,trivial⟩ rfl rfl rfl ?_
 rintro x T1 ⟨rfl,d2,-,rfl⟩
 refine ⟨rfl,?_⟩
 cases s1 <;> cases s2 <;> (refine ⟨fun g1 => ?_,fun g1 => ?_⟩ <;> first | (cases g1;done) | skip)
 ·refine go 300 ?_
  refine ⟨fun g2 => go 300 ?_,fun g2 => (by cases g2)⟩
  exact ⟨trivial,rfl,rfl,bothV (0,false,false,false),Wk.tup ⟨.refl _,Wk.ff,Wk.ff,Wk.ff,trivial⟩,rfl,rfl,rfl,d1,d2,rfl⟩
 ·refine go 300 ?_
  refine ⟨fun g2 => (by cases g2),fun g2 => go 300 ?_⟩
  refine ⟨fun g3 => go 300 ?_,fun g3 => (by cases g3)⟩
  have hk : 0 ≤ m ∧ m ≤ 1000000000000:=⟨nb,nb'⟩
  show CallThen _ _ _ _ _ _
  refine call_sub [1] (w_rowTake d1 a' ga m hk oa.p) rfl rfl ⟨⟨rfl,rfl⟩,trivial⟩ rfl rfl rfl ?_
  rintro x T1 ⟨rfl,rfl⟩
  refine ⟨rfl,?_⟩
  show CallThen _ _ _ _ _ _
  refine call_sub [3] (w_rowTake d2 b' gb m hk ob.p) rfl rfl ⟨⟨rfl,rfl⟩,trivial⟩ rfl rfl rfl ?_
  rintro x T1 ⟨rfl,rfl⟩
  refine ⟨rfl,?_⟩
  refine ⟨trivial,rfl,rfl,bothV (m,x1,y1,true),wk rfl rfl rfl,rfl,rfl,?_,d1,d2,?_⟩
  ·rfl
  ·exact rows2_take _ d1 a' d2 b' ga gb
 ·refine go 300 ?_
  refine ⟨fun g3 => (by cases g3),fun g3 => go 300 ?_⟩
  refine ⟨fun g4 => (by cases g4),fun g4 => go 300 ?_⟩
  have hk : 0 ≤ n ∧ n ≤ 1000000000000:=⟨na,na'⟩
  show CallThen _ _ _ _ _ _
  refine call_sub [1] (w_rowTake d1 a' ga n hk oa.p) rfl rfl ⟨⟨rfl,rfl⟩,trivial⟩ rfl rfl rfl ?_
  rintro x T1 ⟨rfl,rfl⟩
  refine ⟨rfl,?_⟩
  show CallThen _ _ _ _ _ _
  refine call_sub [3] (w_rowTake d2 b' gb n hk ob.p) rfl rfl ⟨⟨rfl,rfl⟩,trivial⟩ rfl rfl rfl ?_
  rintro x T1 ⟨rfl,rfl⟩
  refine ⟨rfl,?_⟩
  refine ⟨trivial,rfl,rfl,bothV (n,x1,y1,true),wk rfl rfl rfl,rfl,rfl,?_,d1,d2,?_⟩
  ·rfl
  ·exact rows2_take _ d1 a' d2 b' ga gb
 ·refine go 300 ?_
  refine ⟨fun g3 => (by cases g3),fun g3 => go 300 ?_⟩
  refine ⟨fun g4 => go 300 ?_,fun g4 => (by cases g4)⟩
  have em : (if m < n then m else n) = min n m:=by split <;> omega
  have hk : 0 ≤ (if m < n then m else n) ∧ (if m < n then m else n) ≤ 1000000000000:=by simp only at na na' nb nb';split <;> omega
  show CallThen _ _ _ _ _ _
  refine call_sub [1] (w_rowTake d1 a' ga (if m < n then m else n) hk oa.p) rfl rfl ⟨⟨rfl,rfl⟩,trivial⟩ rfl rfl rfl ?_
  rintro x T1 ⟨rfl,rfl⟩
  refine ⟨rfl,?_⟩
  show CallThen _ _ _ _ _ _
  refine call_sub [3] (w_rowTake d2 b' gb (if m < n then m else n) hk ob.p) rfl rfl ⟨⟨rfl,rfl⟩,trivial⟩ rfl rfl rfl ?_
  rintro x T1 ⟨rfl,rfl⟩
  refine ⟨rfl,?_⟩
  refine ⟨trivial,rfl,rfl,bothV ((if m < n then m else n),x1,y1,true),wk rfl rfl rfl,rfl,rfl,?_,d1,d2,?_⟩
  ·rw [em];rfl
  ·rw [em];exact rows2_take _ d1 a' d2 b' ga gb
end Bow
/- W58: leaftext.Transform. -/
namespace Bow
open Go Go.Proofs
theorem mk_len {m : Mk} (hok : m.Ok) (hw : m.w ≤ 1000000000000) : m.l.length ≤ 1000000000000 ∧ ∀ p ∈ m.l,p.put.length ≤ 1000000000000:=by
 have h1:=sumW_len hok.l
 have h2:=hok.k
 unfold Mk.w at hw
 refine ⟨by omega,fun p hp => ?_⟩
 have h3:=sumW_mem hok.l p hp
 have h4:=(hok.l p hp).k
 have h5:=(hok.l p hp).d
 unfold PieceT.w at h3
 omega
theorem mk_keep {m : Mk} (hok : m.Ok) : m.keep ≤ m.w:=by
 have h1:=sumW_len hok.l
 unfold Mk.w
 omega
set_option maxRecDepth 100000 in
theorem w_done (m : Mk) (g : Nat) (hok : m.Ok) (hw : m.w ≤ 1000000000000) : Fun Tryz.prog 184 (mkT m g) [.ptr (.loc 0) 0] (fun x T => x = .tup [.osl (.loc 1) g 0 m.l.length,.bool (rightP m.l)] ∧ T = mkT m g):=by
 obtain ⟨h1,h2⟩:=mk_len hok hw
 have cr:=w_RightW m.l h1 h2
 refine fun_fn 300 Tryz.func184 rfl rfl rfl fun imps B hi => ?_
 show Goes _ _ _ _
 refine goes_draw 300 ⟨rfl,by simp,_,cr,rfl,?_⟩
 refine ⟨by kernel_rfl,?_⟩
 exact ⟨trivial,rfl,rfl,rfl,rfl⟩
def mkAt (k : Nat) (m : Mk) (g : Nat) : HObj:=.box [.osl (.loc k) g 0 m.l.length,.int .i64 m.keep]
def putsT (prior : Bool) (da db : List PieceT) (s : Tr) (ga gb gx gy : Nat) : Heap :=
 [some (boxAt 1 da s.p ga),some (rowVec da s.p ga),some (boxAt 3 db s.q gb),some (rowVec db s.q gb),some (.box [.bool prior]),some (mkAt 6 s.x gx),some (mkVec s.x gx),some (mkAt 8 s.y gy),some (mkVec s.y gy)]
theorem putsT_len (prior : Bool) (da db p p' q q' : List PieceT) (x y : Mk) (ga gb gx gy : Nat) (h1 : p'.length = p.length) (h2 : q'.length = q.length) :
  [some (boxAt 1 da p ga),some (rowVec da p' ga),some (boxAt 3 db q gb),some (rowVec db q' gb),some (.box [.bool prior]),some (mkAt 6 x gx),some (mkVec x gx),some (mkAt 8 y gy),some (mkVec y gy)] = putsT prior da db ⟨p',q',x,y⟩ ga gb gx gy:=by
 simp only [putsT,boxAt,h1,h2]
set_option pp.maxSteps 300 in
set_option maxHeartbeats 1000000 in
set_option maxRecDepth 100000 in
theorem w_trPuts (prior : Bool) (da db : List PieceT) (s : Tr) (ga gb gx gy : Nat) (hp : RowOk s.p) (hq : RowOk s.q) (hx : s.x.Ok) (hy : s.y.Ok) (wx : s.x.w + rowR s.p + rowR s.q ≤ 900000000000) (wy : s.y.w + rowR s.p + rowR s.q ≤ 900000000000) :
  Fun Tryz.prog 224 (putsT prior da db s ga gb gx gy) [.ptr (.loc 0) 0,.ptr (.loc 2) 0,.ptr (.loc 4) 0,.ptr (.loc 5) 0,.ptr (.loc 7) 0] (fun x T => x = .tup [] ∧ ∃ gx' gy',T = putsT prior da db (s.puts prior) ga gb gx' gy'):=by
 obtain ⟨p,q,x,y⟩:=s
 simp only at hp hq hx hy wx wy
 have cp:=w_rowPut da p ga
 have cq:=w_rowPut db q gb
 have lp:=rowPut_len p
 have lq:=rowPut_len q
 obtain ⟨-,rp,-,bp⟩:=rowPut_ok hp
 obtain ⟨-,rq,-,bq⟩:=rowPut_ok hq
 have np:=rowR_nn (rowPut_ok hp).1.nn
 have nq:=rowR_nn (rowPut_ok hq).1.nn
 have nx:=hx.k
 have ny:=hy.k
 have e : Tr.puts prior ⟨p,q,x,y⟩ = bif prior then ⟨(rowPut p).2,(rowPut q).2,(x.put (rowPut p).1).kept (rowPut q).1.length,(y.kept (rowPut p).1.length).put (rowPut q).1⟩ else ⟨(rowPut p).2,(rowPut q).2,(x.kept (rowPut q).1.length).put (rowPut p).1,(y.put (rowPut q).1).kept (rowPut p).1.length⟩:=rfl
 rw [e]
 clear e
 obtain ⟨⟨a,p'⟩,ha⟩ : ∃ z,rowPut p = z:=⟨_,rfl⟩
 obtain ⟨⟨b,q'⟩,hb⟩ : ∃ z,rowPut q = z:=⟨_,rfl⟩
 rw [ha] at cp lp rp bp np ⊢
 rw [hb] at cq lq rq bq nq ⊢
 simp only at lp rp bp np lq rq bq nq
 clear ha hb
 refine fun_keep 9 rfl (fun_fn 300 Tryz.func224 rfl rfl rfl fun imps B hi => ?_)
 show CallThen _ _ _ _ _ _
 refine call_sub [1] cp rfl rfl ⟨⟨rfl,rfl⟩,trivial⟩ rfl rfl rfl ?_
 rintro z T1 ⟨rfl,rfl⟩
 refine ⟨rfl,?_⟩
 show CallThen _ _ _ _ _ _
 refine call_sub [3] cq rfl rfl ⟨⟨rfl,rfl⟩,trivial⟩ rfl rfl rfl ?_
 rintro z T1 ⟨rfl,rfl⟩
 refine ⟨rfl,?_⟩
 refine ⟨fun g1 => go 300 ?_,fun g1 => go 300 ?_⟩
 ·subst g1
  show CallThen _ _ _ _ _ _
  refine call_sub [5,6] (w_mkPut x gx a hx (by omega) (by omega)) rfl rfl ⟨⟨rfl,rfl⟩,⟨rfl,rfl⟩,trivial⟩ rfl rfl rfl ?_
  rintro z T1 ⟨gx',rfl,rfl⟩
  refine ⟨rfl,?_⟩
  obtain ⟨x1,x2⟩:=Mk.put_ok (s:=a) hx
  have x3:=mk_keep x1
  have x4:=x1.k
  have y3:=mk_keep hy
  obtain ⟨y1,y2⟩:=Mk.kept_ok (n:=(a.length : Int)) hy (Int.natCast_nonneg _)
  refine ⟨by constructor <;> (simp only;omega),?_⟩
  refine ⟨by constructor <;> (simp only;omega),?_⟩
  show CallThen _ _ _ _ _ _
  refine call_sub [7,8] (w_mkPut (y.kept a.length) gy b y1 (by omega) (by omega)) rfl rfl ⟨⟨rfl,rfl⟩,⟨rfl,rfl⟩,trivial⟩ rfl rfl rfl ?_
  rintro z T1 ⟨gy',rfl,rfl⟩
  refine ⟨rfl,?_⟩
  refine ⟨trivial,rfl,rfl,putsT true da db ⟨p',q',(x.put a).kept b.length,(y.kept a.length).put b⟩ ga gb gx' gy',rfl,rfl,?_,rfl,gx',gy',rfl⟩
  rw [← putsT_len true da db p p' q q' _ _ ga gb gx' gy' lp lq]
  exact ⟨⟨rfl,rfl⟩,⟨rfl,rfl⟩,⟨rfl,rfl⟩,⟨rfl,rfl⟩,⟨rfl,rfl⟩,⟨rfl,rfl⟩,⟨rfl,rfl⟩,⟨rfl,rfl⟩,⟨rfl,rfl⟩,trivial⟩
 ·subst g1
  show CallThen _ _ _ _ _ _
  refine call_sub [7,8] (w_mkPut y gy b hy (by omega) (by omega)) rfl rfl ⟨⟨rfl,rfl⟩,⟨rfl,rfl⟩,trivial⟩ rfl rfl rfl ?_
  rintro z T1 ⟨gy',rfl,rfl⟩
  refine ⟨rfl,?_⟩
  obtain ⟨y1,y2⟩:=Mk.put_ok (s:=b) hy
  have y3:=mk_keep y1
  have y4:=y1.k
  have x3:=mk_keep hx
  obtain ⟨x1,x2⟩:=Mk.kept_ok (n:=(b.length : Int)) hx (Int.natCast_nonneg _)
  refine ⟨by constructor <;> (simp only;omega),?_⟩
  refine ⟨by constructor <;> (simp only;omega),?_⟩
  show CallThen _ _ _ _ _ _
  refine call_sub [5,6] (w_mkPut (x.kept b.length) gx a x1 (by omega) (by omega)) rfl rfl ⟨⟨rfl,rfl⟩,⟨rfl,rfl⟩,trivial⟩ rfl rfl rfl ?_
  rintro z T1 ⟨gx',rfl,rfl⟩
  refine ⟨rfl,?_⟩
  refine ⟨trivial,rfl,rfl,putsT false da db ⟨p',q',(x.kept b.length).put a,(y.put b).kept a.length⟩ ga gb gx' gy',rfl,rfl,?_,rfl,gx',gy',rfl⟩
  rw [← putsT_len false da db p p' q q' _ _ ga gb gx' gy' lp lq]
  exact ⟨⟨rfl,rfl⟩,⟨rfl,rfl⟩,⟨rfl,rfl⟩,⟨rfl,rfl⟩,⟨rfl,rfl⟩,⟨rfl,rfl⟩,⟨rfl,rfl⟩,⟨rfl,rfl⟩,⟨rfl,rfl⟩,trivial⟩
end Bow
/- W59: leaftext.Transform, whole. -/
namespace Bow
open Go Go.Proofs
def TransV (r : List PieceT × List PieceT × Int) : V:=.tup [piecesV r.1,piecesV r.2.1,.int .i64 r.2.2]
theorem transZ {e : Int} {R : List PieceT × List PieceT × Int} (h : R = ([],[],e)) : ∃ y,Wk (.tup [.nilsl,.nilsl,.int .i64 e]) y ∧ y.pureB = true ∧ y = TransV R:=⟨TransV ([],[],e),Wk.tup ⟨Wk.nil 3,Wk.nil 3,.refl _,trivial⟩,rfl,by rw [h]⟩
structure TrI where
 f : Nat
 s : Tr
 d1 : List PieceT
 d2 : List PieceT
 gx : Nat
 gy : Nat
def trT (prior : Bool) (j1 j2 : HObj) (ga gb : Nat) (i : TrI) : Heap :=
 [some (.box [.bool prior]),some j1,some (rowVec i.d1 i.s.p ga),some j2,some (rowVec i.d2 i.s.q gb),some (boxAt 2 i.d1 i.s.p ga),some (boxAt 4 i.d2 i.s.q gb),some (mkAt 9 i.s.x i.gx),some (mkAt 10 i.s.y i.gy),some (mkVec i.s.x i.gx),some (mkVec i.s.y i.gy)]
set_option maxHeartbeats 4000000 in
set_option maxRecDepth 100000 in
theorem w_Trans (a b : List PieceT) (prior : Bool) (ha : a.length ≤ 1000000) (hb : b.length ≤ 1000000) (pa : ∀ p ∈ a,p.put.length ≤ 1000000000) (pb : ∀ p ∈ b,p.put.length ≤ 1000000000) :
  Pure Tryz.prog 210 [piecesV a,piecesV b,.bool prior] (fun x => x = TransV (transP a b prior)):=by
 obtain ⟨R,hR⟩ : ∃ R,transP a b prior = R:=⟨_,rfl⟩
 rw [hR]
 refine pure_wk (pure_fn 300 Tryz.func210 rfl rfl rfl fun B => ?_)
 have bad : (rightP a = false ∨ rightP b = false) → R = ([],[],2):=fun h => by
  rw [← hR]
  unfold transP
  rcases h with h | h
  ·rw [h];rfl
  ·rw [h];cases rightP a <;> rfl
 show CallThen _ _ _ _ _ _
 refine call_pure (w_Right a ha pa) rfl ?_
 rintro x rfl
 refine ⟨fun g1 => go 300 ?_,fun g1 => go 300 ?_⟩
 ·exact ⟨trivial,rfl,rfl,rfl,transZ (bad (.inl (by simpa using g1)))⟩
 have ra : rightP a = true:=by simpa using g1
 show CallThen _ _ _ _ _ _
 refine call_pure (w_Right b hb pb) rfl ?_
 rintro x rfl
 refine ⟨fun g2 => go 300 ?_,fun g2 => go 300 ?_⟩
 ·exact ⟨trivial,rfl,rfl,rfl,transZ (bad (.inr (by simpa using g2)))⟩
 have rb : rightP b = true:=by simpa using g2
 obtain ⟨na,sa⟩:=right_nn ra
 obtain ⟨nb,sb⟩:=right_nn rb
 obtain ⟨oa,wa⟩:=norm_ok ra
 obtain ⟨ob,wb⟩:=norm_ok rb
 have la:=sumW_len na
 have lb:=sumW_len nb
 show CallThen _ _ _ _ _ _
 refine call_sub [] (w_norm a na (by omega) (by omega)) rfl rfl trivial rfl rfl rfl ?_
 rintro x T1 ⟨ga,ka,rfl,rfl⟩
 refine ⟨rfl,?_⟩
 show CallThen _ _ _ _ _ _
 refine call_sub [] (w_norm b nb (by omega) (by omega)) rfl rfl trivial rfl rfl rfl ?_
 rintro x T1 ⟨gb,kb,rfl,rfl⟩
 refine ⟨rfl,?_⟩
 show Goes _ _ _ _
 refine goes_ownCell 7 0 3 rfl rfl ?_
 refine goes_ownCell 8 0 3 rfl rfl ?_
 obtain ⟨fin,hfin⟩ : ∃ fin,Tr.go prior (extN (normP a) + extN (normP b) + 1) ⟨normP a,normP b,Mk.nil,Mk.nil⟩ = fin:=⟨_,rfl⟩
 have good : R = bif !rightP fin.x.l || !rightP fin.y.l then ([],[],3) else (fin.x.l,fin.y.l,0):=by
  rw [← hR]
  unfold transP
  rw [ra,rb,hfin]
  rfl
 refine goes_iter (ι:=TrI) (fun i => i.s.Ok ∧ extN i.s.p + extN i.s.q < i.f ∧ Tr.go prior i.f i.s = fin) (fun i => i.f)
  (fun _ => [(13,.fn (.func 224) [] [.ptr (.loc 5) 0,.ptr (.loc 6) 0,.ptr (.loc 0) 0,.ptr (.loc 7) 0,.ptr (.loc 8) 0]),(9,.ptr (.loc 5) 0),(10,.ptr (.loc 6) 0),(11,.ptr (.loc 7) 0),(12,.ptr (.loc 8) 0)])
  (trT prior (.box [.osl (.loc 2) ga 0 (normP a).length,.int .i64 ka]) (.box [.osl (.loc 4) gb 0 (normP b).length,.int .i64 kb]) ga gb)
  ⟨extN (normP a) + extN (normP b) + 1,⟨normP a,normP b,Mk.nil,Mk.nil⟩,[],[],0,0⟩ 300 (fun _ => rfl) (fun _ => rfl) ⟨⟨⟨oa,ob,Mk.nil_ok,Mk.nil_ok,?_,?_⟩,Nat.lt_succ_self _,hfin⟩,⟨⟨rfl,rfl⟩,⟨rfl,rfl⟩,⟨rfl,rfl⟩,⟨rfl,rfl⟩,⟨rfl,rfl⟩,trivial⟩,
   ⟨⟨rfl,rfl⟩,⟨rfl,rfl⟩,⟨rfl,rfl⟩,⟨rfl,rfl⟩,⟨rfl,rfl⟩,⟨rfl,rfl⟩,⟨rfl,rfl⟩,⟨rfl,rfl⟩,⟨rfl,rfl⟩,⟨rfl,rfl⟩,⟨rfl,rfl⟩,trivial⟩⟩ ?_
 ·show (0 : Int) + sumW [] + 3 * (rowR (normP a) + rowR (normP b)) ≤ _
  simp only [sumW];omega
 ·show (0 : Int) + sumW [] + 3 * (rowR (normP a) + rowR (normP b)) ≤ _
  simp only [sumW];omega
 rintro ⟨f,s,d1,d2,gx,gy⟩ ⟨k1,k2,k3⟩ next
 simp only at k1 k2 k3
 obtain ⟨f,rfl⟩ : ∃ f',f = f' + 1:=⟨f - 1,by omega⟩
 have rp:=rowR_nn k1.p.nn
 have rq:=rowR_nn k1.q.nn
 have wx:=k1.wx
 have wy:=k1.wy
 obtain ⟨o1,e1,e2⟩:=Tr.puts_ok k1 prior
 show CallThen _ _ _ _ _ _
 refine call_sub [5,2,6,4,0,7,9,8,10] (w_trPuts prior d1 d2 s ga gb gx gy k1.p k1.q k1.x k1.y (by omega) (by omega)) rfl rfl
  ⟨⟨rfl,rfl⟩,⟨rfl,rfl⟩,⟨rfl,rfl⟩,⟨rfl,rfl⟩,⟨rfl,rfl⟩,⟨rfl,rfl⟩,⟨rfl,rfl⟩,⟨rfl,rfl⟩,⟨rfl,rfl⟩,trivial⟩ rfl rfl rfl ?_
 rintro z T1 ⟨rfl,gx',gy',rfl⟩
 refine ⟨rfl,?_⟩
 obtain ⟨⟨p,q,x,y⟩,hs1⟩ : ∃ z,s.puts prior = z:=⟨_,rfl⟩
 rw [hs1] at o1 e1 e2 ⊢
 obtain ⟨op,oq,ox,oy,ux,uy⟩:=o1
 simp only at op oq ox oy ux uy e1 e2
 have rp':=rowR_nn op.nn
 have rq':=rowR_nn oq.nn
 obtain ⟨b1,b2,b3,b4,b5,b6⟩:=bothR_ok op oq
 have cb:=w_both d1 p d2 q ga gb op oq
 obtain ⟨⟨⟨n,d,g,any⟩,p',q'⟩,hb1⟩ : ∃ z,bothR p q = z:=⟨_,rfl⟩
 have hgo:=Tr.go_succ (f:=f) hs1 hb1
 rw [hb1] at b1 b2 b3 b4 b5 b6 cb
 simp only at b1 b2 b3 b4 b5 b6
 show CallThen _ _ _ _ _ _
 refine call_sub [5,2,6,4] cb rfl rfl ⟨⟨rfl,rfl⟩,⟨rfl,rfl⟩,⟨rfl,rfl⟩,⟨rfl,rfl⟩,trivial⟩ rfl rfl rfl ?_
 rintro z T1 ⟨rfl,d1',d2',rfl⟩
 refine ⟨rfl,?_⟩
 refine ⟨fun g3 => go 300 ?_,fun g3 => go 300 ?_⟩
 ·have ha' : any = false:=by simpa using g3
  subst ha'
  have hfx : fin = ⟨p',q',x,y⟩:=by rw [← k3,hgo];rfl
  rw [hfx] at good
  simp only at good
  show CallThen _ _ _ _ _ _
  refine call_sub [7,9] (w_done x gx' ox (by omega)) rfl rfl ⟨⟨rfl,rfl⟩,⟨rfl,rfl⟩,trivial⟩ rfl rfl rfl ?_
  rintro z T1 ⟨rfl,rfl⟩
  refine ⟨rfl,?_⟩
  show CallThen _ _ _ _ _ _
  refine call_sub [8,10] (w_done y gy' oy (by omega)) rfl rfl ⟨⟨rfl,rfl⟩,⟨rfl,rfl⟩,trivial⟩ rfl rfl rfl ?_
  rintro z T1 ⟨rfl,rfl⟩
  refine ⟨rfl,?_⟩
  refine ⟨fun g4 => go 300 ?_,fun g4 => go 300 ?_⟩
  ·have g4 : rightP x.l = false:=by simpa using g4
   exact ⟨trivial,rfl,rfl,rfl,transZ (by rw [good,g4];rfl)⟩
  have g4 : rightP x.l = true:=by simpa using g4
  refine ⟨fun g5 => go 300 ?_,fun g5 => go 300 ?_⟩
  ·have g5 : rightP y.l = false:=by simpa using g5
   exact ⟨trivial,rfl,rfl,rfl,transZ (by rw [good,g4,g5];rfl)⟩
  have g5 : rightP y.l = true:=by simpa using g5
  have hres : TransV (x.l,y.l,0) = TransV R:=by rw [good,g4,g5];rfl
  refine ⟨trivial,rfl,rfl,?_⟩
  refine ⟨rfl,?_⟩
  refine ⟨by simp,?_⟩
  refine ⟨rfl,?_⟩
  refine ⟨by simp,?_⟩
  refine ⟨rfl,?_⟩
  exact ⟨TransV (x.l,y.l,0),Wk.refl _,rfl,hres⟩
 ·have ha' : any = true:=by simpa using g3
  subst ha'
  have cc:=b5 rfl
  have c1:=cc.1
  have c2:=cc.2.1
  have c3:=cc.2.2
  have q1 : (Tr.does ⟨p',q',x,y⟩ n d g).Ok:=(Tr.does_ok (p:=p') (q:=q') (x:=x) (y:=y) (n:=n) (R:=rowR p + rowR q) b1 b2 ox oy b3 c2 ux uy d g).1
  have hnext : Tr.go prior f (Tr.does ⟨p',q',x,y⟩ n d g) = fin:=by rw [← k3,hgo];rfl
  have hext : extN p' + extN q' < f:=by omega
  refine ⟨fun g4 => go 300 ?_,fun g4 => go 300 ?_⟩
  ·have g4 : d = true:=g4
   subst g4
   refine ⟨fun g5 => go 300 ?_,fun g5 => go 300 ?_⟩
   ·have g5 : g = true:=g5
    subst g5
    show Goes _ _ _ _
    refine next ⟨f,⟨p',q',x,y⟩,d1',d2',gx',gy'⟩ _ _ ⟨⟨q1,hext,hnext⟩,Nat.lt_succ_self _,⟨⟨rfl,rfl⟩,⟨rfl,rfl⟩,⟨rfl,rfl⟩,⟨rfl,rfl⟩,⟨rfl,rfl⟩,trivial⟩,
     ⟨⟨rfl,rfl⟩,⟨rfl,rfl⟩,⟨rfl,rfl⟩,⟨rfl,rfl⟩,⟨rfl,rfl⟩,⟨rfl,rfl⟩,⟨rfl,rfl⟩,⟨rfl,rfl⟩,⟨rfl,rfl⟩,⟨rfl,rfl⟩,⟨rfl,rfl⟩,trivial⟩⟩
   ·have g5 : g = false:=g5
    subst g5
    refine ⟨fun _ => go 300 ?_,fun h => (by cases h)⟩
    show CallThen _ _ _ _ _ _
    refine call_sub [7,9] (w_mkDrop x gx' n ox (by omega) b4) rfl rfl ⟨⟨rfl,rfl⟩,⟨rfl,rfl⟩,trivial⟩ rfl rfl rfl ?_
    rintro z T1 ⟨gx2,rfl,rfl⟩
    refine ⟨rfl,?_⟩
    show Goes _ _ _ _
    refine next ⟨f,⟨p',q',x.drop n,y⟩,d1',d2',gx2,gy'⟩ _ _ ⟨⟨q1,hext,hnext⟩,Nat.lt_succ_self _,⟨⟨rfl,rfl⟩,⟨rfl,rfl⟩,⟨rfl,rfl⟩,⟨rfl,rfl⟩,⟨rfl,rfl⟩,trivial⟩,
     ⟨⟨rfl,rfl⟩,⟨rfl,rfl⟩,⟨rfl,rfl⟩,⟨rfl,rfl⟩,⟨rfl,rfl⟩,⟨rfl,rfl⟩,⟨rfl,rfl⟩,⟨rfl,rfl⟩,⟨rfl,rfl⟩,⟨rfl,rfl⟩,⟨rfl,rfl⟩,trivial⟩⟩
  ·have g4 : d = false:=g4
   subst g4
   refine ⟨fun h => (by cases h),fun _ => go 300 ?_⟩
   refine ⟨fun g5 => go 300 ?_,fun g5 => go 300 ?_⟩
   ·have g5 : g = true:=g5
    subst g5
    show CallThen _ _ _ _ _ _
    refine call_sub [8,10] (w_mkDrop y gy' n oy (by omega) b4) rfl rfl ⟨⟨rfl,rfl⟩,⟨rfl,rfl⟩,trivial⟩ rfl rfl rfl ?_
    rintro z T1 ⟨gy2,rfl,rfl⟩
    refine ⟨rfl,?_⟩
    show Goes _ _ _ _
    refine next ⟨f,⟨p',q',x,y.drop n⟩,d1',d2',gx',gy2⟩ _ _ ⟨⟨q1,hext,hnext⟩,Nat.lt_succ_self _,⟨⟨rfl,rfl⟩,⟨rfl,rfl⟩,⟨rfl,rfl⟩,⟨rfl,rfl⟩,⟨rfl,rfl⟩,trivial⟩,
     ⟨⟨rfl,rfl⟩,⟨rfl,rfl⟩,⟨rfl,rfl⟩,⟨rfl,rfl⟩,⟨rfl,rfl⟩,⟨rfl,rfl⟩,⟨rfl,rfl⟩,⟨rfl,rfl⟩,⟨rfl,rfl⟩,⟨rfl,rfl⟩,⟨rfl,rfl⟩,trivial⟩⟩
   ·have g5 : g = false:=g5
    subst g5
    have x3:=mk_keep ox
    have y3:=mk_keep oy
    have x4:=ox.k
    have y4:=oy.k
    refine ⟨by constructor <;> (simp only;omega),?_⟩
    refine ⟨by constructor <;> (simp only;omega),?_⟩
    show Goes _ _ _ _
    refine next ⟨f,⟨p',q',x.kept n,y.kept n⟩,d1',d2',gx',gy'⟩ _ _ ⟨⟨q1,hext,hnext⟩,Nat.lt_succ_self _,⟨⟨rfl,rfl⟩,⟨rfl,rfl⟩,⟨rfl,rfl⟩,⟨rfl,rfl⟩,⟨rfl,rfl⟩,trivial⟩,
     ⟨⟨rfl,rfl⟩,⟨rfl,rfl⟩,⟨rfl,rfl⟩,⟨rfl,rfl⟩,⟨rfl,rfl⟩,⟨rfl,rfl⟩,⟨rfl,rfl⟩,⟨rfl,rfl⟩,⟨rfl,rfl⟩,⟨rfl,rfl⟩,⟨rfl,rfl⟩,trivial⟩⟩
end Bow
/- W60: two edits of one leaf; square.Behind and Both, whole. -/
namespace Bow
open Go Go.Proofs
set_option pp.maxSteps 300 in
set_option maxHeartbeats 8000000 in
set_option maxRecDepth 100000 in
theorem w_rowE (b a : OpT) (prior : Bool) (ha : a.Ok) (_hb : b.Ok) (sa : soundO a = true) (sb : soundO b = true) (he : bothEdit b a = true) :
  Fun Tryz.prog 202 [] [opV b,opV a,.bool prior] (fun x T => ∃ g,x = .tup [.osl (.loc 2) g 0 1,.int .i64 (transP b.pieces a.pieces prior).2.2] ∧ T = [some (.box (opV (editO b a prior)).cells),some (.box (opV a).cells),some (.vec g 11 [opV (editO b a prior)])]):=by
 unfold bothEdit at he
 simp only [Bool.and_eq_true,decide_eq_true_eq] at he
 obtain ⟨k1,k2,k3⟩:=he
 have fa : formedB a = true:=by unfold soundO at sa;rw [Bool.and_eq_true] at sa;exact sa.1
 have fb : formedB b = true:=by unfold soundO at sb;rw [Bool.and_eq_true] at sb;exact sb.1
 have pa:=may_len (formed_path fa)
 obtain ⟨l1,l2⟩:=right_bounds (formed_pieces fa k1)
 obtain ⟨l3,l4⟩:=right_bounds (formed_pieces fb k2)
 have hw : wonO b a = false:=by unfold wonO;simp [k1,k2]
 have ct:=w_Trans b.pieces a.pieces prior (by omega) (by omega) l4 l2
 have ee : editO b a prior = { b with pieces:=(transP b.pieces a.pieces prior).1 }:=rfl
 rw [ee]
 clear ee
 obtain ⟨⟨r1,r2,e⟩,hr⟩ : ∃ r,transP b.pieces a.pieces prior = r:=⟨_,rfl⟩
 rw [hr] at ct ⊢
 refine fun_fn 300 Tryz.func202 rfl rfl rfl fun imps B hi => ?_
 have : imps = []:=List.length_eq_zero_iff.1 hi
 subst this
 refine ⟨fun g1 => absurd (eq_of g1) (by omega),fun g1 => go 300 ?_⟩
 show CallThen _ _ _ _ _ _
 refine call_pure (w_won b a ha) rfl ?_
 rw [hw]
 rintro x rfl
 refine ⟨fun g2 => (by cases g2),fun g2 => go 300 ?_⟩
 refine ⟨fun g3 => go 300 ?_,fun g3 => absurd (eq_of' g3) (by omega)⟩
 refine ⟨fun g4 => go 300 ?_,fun g4 => absurd k1 (ne_of g4)⟩
 refine ⟨fun g5 => go 300 ?_,fun g5 => absurd k2 (ne_of g5)⟩
 show CallThen _ _ _ _ _ _
 refine call_pure (w_pathSame a.path b.path (by omega)) rfl ?_
 rw [decide_eq_true k3]
 rintro x rfl
 refine ⟨fun g6 => go 300 ?_,fun g6 => (by cases g6)⟩
 show CallThen _ _ _ _ _ _
 refine call_pure ct rfl ?_
 rintro x rfl
 refine ⟨⟨rfl,trivial⟩,?_⟩
 exact ⟨trivial,rfl,rfl,_,rfl,rfl⟩
theorem edit_lt {b a : OpT} {prior : Bool} (hb : b.Ok) : (editO b a prior).Lt 1000000 ∧ ∀ p ∈ (editO b a prior).pieces,p.put.length ≤ 1000000000:=by
 obtain ⟨h1,h2⟩:=right_bounds (trans_right b.pieces a.pieces prior).1
 exact ⟨⟨hb.lt.path,hb.lt.to,hb.lt.label,hb.lt.key,hb.lt.value,by show (transP b.pieces a.pieces prior).1.length ≤ _;omega⟩,h2⟩
theorem behZ' {e : Int} {R : List OpT × Int} (h : R = ([],e)) : ∃ y,Wk (.tup [.nilsl,.int .i64 e]) y ∧ y.pureB = true ∧ y = BehV R:=⟨BehV ([],e),Wk.tup ⟨Wk.nil 11,.refl _,trivial⟩,rfl,by rw [h]⟩
set_option pp.maxSteps 300 in
set_option maxHeartbeats 4000000 in
set_option maxRecDepth 100000 in
theorem w_BehindE (b a : OpT) (prior : Bool) (ha : a.Ok) (hb : b.Ok) (he : bothEdit b a = true) :
  Pure Tryz.prog 188 [opV b,opV a,.bool prior] (fun x => x = BehV (behindE b a prior)):=by
 obtain ⟨R,hR⟩ : ∃ R,behindE b a prior = R:=⟨_,rfl⟩
 rw [hR]
 obtain ⟨hlt,hput⟩:=edit_lt (a:=a) (prior:=prior) hb
 refine pure_wk (pure_fn 300 Tryz.func188 rfl rfl rfl fun B => ?_)
 show CallThen _ _ _ _ _ _
 refine call_pure (w_sound a ha) rfl ?_
 rintro x rfl
 refine ⟨fun g1 => go 300 ?_,fun g1 => go 300 ?_⟩
 ·have g1 : soundO a = false:=by simpa using g1
  exact ⟨trivial,rfl,rfl,rfl,behZ' (by rw [← hR];unfold behindE;rw [g1];rfl)⟩
 have sa : soundO a = true:=by simpa using g1
 show CallThen _ _ _ _ _ _
 refine call_pure (w_sound b hb) rfl ?_
 rintro x rfl
 refine ⟨fun g2 => go 300 ?_,fun g2 => go 300 ?_⟩
 ·have g2 : soundO b = false:=by simpa using g2
  exact ⟨trivial,rfl,rfl,rfl,behZ' (by rw [← hR];unfold behindE;rw [sa,g2];rfl)⟩
 have sb : soundO b = true:=by simpa using g2
 have hrow:=w_rowE b a prior ha hb sa sb he
 have e0 : R = bif decide ((transP b.pieces a.pieces prior).2.2 = 0) && formedB (editO b a prior) then ([bareO (editO b a prior)],0) else ([],3):=by
  rw [← hR];unfold behindE;rw [sa,sb];rfl
 obtain ⟨o,ho⟩ : ∃ o,editO b a prior = o:=⟨_,rfl⟩
 obtain ⟨e,hee⟩ : ∃ e,(transP b.pieces a.pieces prior).2.2 = e:=⟨_,rfl⟩
 rw [ho,hee] at hrow e0
 rw [ho] at hlt hput
 show CallThen _ _ _ _ _ _
 refine call_sub [] hrow rfl rfl trivial rfl rfl rfl ?_
 rintro x T1 ⟨G,rfl,rfl⟩
 refine ⟨rfl,?_⟩
 refine ⟨fun g3 => go 300 ?_,fun g3 => go 300 ?_⟩
 ·have g3:=ne_of' g3
  exact ⟨trivial,rfl,rfl,rfl,behZ' (by rw [e0,decide_eq_false g3];rfl)⟩
 have g3:=eq_of' g3
 rw [decide_eq_true g3] at e0
 refine ⟨rfl,?_⟩
 show Goes _ _ _ _
 refine goes_loop ?_
 refine go 300 ?_
 refine ⟨fun _ => go 300 ?_,fun h => absurd (not_lt_of h) (by decide)⟩
 refine ⟨rfl,by decide,by decide,rfl,_,rfl,?_⟩
 show CallThen _ _ _ _ _ _
 refine call_pure (w_Formed o hlt hput) rfl ?_
 rintro x rfl
 refine ⟨fun g4 => go 300 ?_,fun g4 => go 300 ?_⟩
 ·have g4 : formedB o = false:=by simpa using g4
  exact ⟨trivial,rfl,rfl,rfl,behZ' (by rw [e0,g4];rfl)⟩
 have g4 : formedB o = true:=by simpa using g4
 rw [g4] at e0
 show CallThen _ _ _ _ _ _
 refine call_pure (w_Bare o hlt) rfl ?_
 rintro x rfl
 refine ⟨rfl,by decide,by decide,rfl,_,rfl,?_⟩
 refine ⟨⟨by decide,by decide⟩,?_⟩
 show Goes _ _ _ _
 refine goes_inLoop ?_
 refine go 300 ?_
 refine ⟨fun h => absurd (lt_of h) (by decide),fun _ => go 300 ?_⟩
 have hres : BehV ([bareO o],0) = BehV R:=by rw [e0];rfl
 exact ⟨trivial,rfl,rfl,rfl,rfl,rfl,BehV ([bareO o],0),Wk.refl _,rfl,hres⟩
theorem w_BehindX (b a : OpT) (prior : Bool) (ha : a.Ok) (hb : b.Ok) (hto : a.to.length ≤ 1000 ∧ b.to.length ≤ 1000) :
  Pure Tryz.prog 188 [opV b,opV a,.bool prior] (fun x => x = BehV (behindX b a prior)):=by
 unfold behindX
 cases he : bothEdit b a with
 | true => exact w_BehindE b a prior ha hb he
 | false => exact w_Behind b a prior ha hb he hto
set_option maxRecDepth 100000 in
theorem w_BothX (a b : OpT) (prior : Bool) (ha : a.Ok) (hb : b.Ok) (hto : a.to.length ≤ 1000 ∧ b.to.length ≤ 1000) :
  Pure Tryz.prog 154 [opV a,opV b,.bool prior] (fun x => x = BothV (bothX a b prior)):=by
 refine pure_wk (pure_fn 300 Tryz.func154 rfl rfl rfl fun B => ?_)
 show CallThen _ _ _ _ _ _
 refine call_pure (w_BehindX a b prior hb ha ⟨hto.2,hto.1⟩) rfl ?_
 rintro x rfl
 refine ⟨fun g1 => go 300 ?_,fun g1 => go 300 ?_⟩
 ·have g1 : (behindX a b prior).2 ≠ 0:=ne_of' g1
  have e : bothX a b prior = ([],[],(behindX a b prior).2):=by unfold bothX;rw [decide_eq_false g1];rfl
  rw [e]
  exact ⟨trivial,rfl,rfl,rfl,bothZ _⟩
 have g1 : (behindX a b prior).2 = 0:=eq_of' g1
 show CallThen _ _ _ _ _ _
 refine call_pure (w_BehindX b a (!prior) ha hb hto) rfl ?_
 rintro x rfl
 refine ⟨fun g2 => go 300 ?_,fun g2 => go 300 ?_⟩
 ·have g2 : (behindX b a (!prior)).2 ≠ 0:=ne_of' g2
  have e : bothX a b prior = ([],[],(behindX b a (!prior)).2):=by unfold bothX;rw [decide_eq_true g1,decide_eq_false g2];rfl
  rw [e]
  exact ⟨trivial,rfl,rfl,rfl,bothZ _⟩
 have g2 : (behindX b a (!prior)).2 = 0:=eq_of' g2
 have e : bothX a b prior = ((behindX a b prior).1,(behindX b a (!prior)).1,0):=by unfold bothX;rw [decide_eq_true g1,decide_eq_true g2];rfl
 rw [e]
 exact ⟨trivial,rfl,rfl,rfl,BothV ((behindX a b prior).1,(behindX b a (!prior)).1,0),Wk.refl _,rfl,rfl⟩
end Bow
/- SP20: a bare operation does what it did, in plain Lean. -/
namespace Bow
open Go
theorem bare1 {o : OpT} (h : o.kind = 1) : bareO o = { noOp 1 with path:=o.path,at_:=o.at_,id:=o.id,leaf:=o.leaf,label:=o.label }:=by unfold bareO;rw [h];rfl
theorem bare2 {o : OpT} (h : o.kind = 2) : bareO o = { noOp 2 with path:=o.path }:=by unfold bareO;rw [h];rfl
theorem bare3 {o : OpT} (h : o.kind = 3) : bareO o = { noOp 3 with path:=o.path,at_:=o.at_,to:=o.to }:=by unfold bareO;rw [h];rfl
theorem bare4 {o : OpT} (h : o.kind = 4) : bareO o = { noOp 4 with path:=o.path,key:=o.key,gone:=o.gone,value:=bif o.gone then [] else o.value }:=by unfold bareO;rw [h];rfl
theorem bare5 {o : OpT} (h : o.kind = 5) : bareO o = { noOp 5 with path:=o.path,label:=o.label }:=by unfold bareO;rw [h];rfl
theorem bare6 {o : OpT} (h : o.kind = 6) : bareO o = { noOp 6 with path:=o.path,pieces:=o.pieces }:=by unfold bareO;rw [h];rfl
theorem bare_none {o : OpT} (h1 : o.kind ≠ 1) (h2 : o.kind ≠ 2) (h3 : o.kind ≠ 3) (h4 : o.kind ≠ 4) (h5 : o.kind ≠ 5) (h6 : o.kind ≠ 6) : bareO o = noOp o.kind:=by
 have e1 : (o.kind == 1) = false:=by simpa using h1
 have e2 : (o.kind == 2) = false:=by simpa using h2
 have e3 : (o.kind == 3) = false:=by simpa using h3
 have e4 : (o.kind == 4) = false:=by simpa using h4
 have e5 : (o.kind == 5) = false:=by simpa using h5
 have e6 : (o.kind == 6) = false:=by simpa using h6
 unfold bareO
 rw [e1,e2,e3,e4,e5,e6]
 rfl
theorem bare0 {o : OpT} (h1 : o.kind ≠ 1) (h2 : o.kind ≠ 2) (h3 : o.kind ≠ 3) (h4 : o.kind ≠ 4) (h5 : o.kind ≠ 5) (h6 : o.kind ≠ 6) : formedB o = false ∧ formedB (bareO o) = false:=by
 have e : (bareO o).kind = o.kind:=by rw [bare_none h1 h2 h3 h4 h5 h6];rfl
 constructor
 ·unfold formedB
  simp [h1,h2,h3,h4,h5,h6]
 ·unfold formedB
  rw [e]
  simp [h1,h2,h3,h4,h5,h6]
theorem kinds (o : OpT) : o.kind = 1 ∨ o.kind = 2 ∨ o.kind = 3 ∨ o.kind = 4 ∨ o.kind = 5 ∨ o.kind = 6 ∨ (o.kind ≠ 1 ∧ o.kind ≠ 2 ∧ o.kind ≠ 3 ∧ o.kind ≠ 4 ∧ o.kind ≠ 5 ∧ o.kind ≠ 6):=by omega
theorem bare_formed (o : OpT) : formedB (bareO o) = formedB o:=by
 rcases kinds o with h | h | h | h | h | h | ⟨h1,h2,h3,h4,h5,h6⟩
 ·rw [bare1 h];unfold formedB;rw [h];rfl
 ·rw [bare2 h];unfold formedB;rw [h];rfl
 ·rw [bare3 h];unfold formedB;rw [h];rfl
 ·rw [bare4 h]
  unfold formedB
  rw [h]
  cases o.gone <;> rfl
 ·rw [bare5 h];unfold formedB;rw [h];rfl
 ·rw [bare6 h];unfold formedB;rw [h];rfl
 ·obtain ⟨q1,q2⟩:=bare0 h1 h2 h3 h4 h5 h6
  rw [q1,q2]
theorem bare_valid (t : Tree) (o : OpT) : ValidE t (bareO o) = ValidE t o:=by
 unfold ValidE
 rw [bare_formed]
 rcases kinds o with h | h | h | h | h | h | ⟨h1,h2,h3,h4,h5,h6⟩
 ·rw [bare1 h];unfold validE;rw [h];rfl
 ·rw [bare2 h];unfold validE;rw [h];rfl
 ·rw [bare3 h];unfold validE;rw [h];rfl
 ·rw [bare4 h];unfold validE;rw [h];rfl
 ·rw [bare5 h];unfold validE;rw [h];rfl
 ·rw [bare6 h];unfold validE;rw [h];rfl
 ·obtain ⟨q1,q2⟩:=bare0 h1 h2 h3 h4 h5 h6
  rw [q1]
  rfl
theorem bare_apply {t : Tree} {o : OpT} (hv : ValidE t o = 0) : applyT t (bareO o) = applyT t o:=by
 have hf:=(valid_right hv).2.1
 rcases kinds o with h | h | h | h | h | h | ⟨h1,h2,h3,h4,h5,h6⟩
 ·rw [bare1 h];unfold applyT;rw [h];rfl
 ·rw [bare2 h];unfold applyT;rw [h];rfl
 ·rw [bare3 h];unfold applyT;rw [h];rfl
 ·have e : ∀ y,setAT (bareO o) y = setAT o y:=fun y => by
   rw [bare4 h]
   unfold setAT setA midA
   show y.withAttrs (y.attrs.take (posK o.key y.attrs) ++ ((bif o.gone then [] else [(o.key,bif o.gone then [] else o.value)]) ++ y.attrs.drop (posK o.key y.attrs + (bif hasK o.key y.attrs then 1 else 0)))) = _
   cases o.gone <;> rfl
  have e1 : applyT t (bareO o) = changeT (setAT (bareO o)) t o.path:=by rw [bare4 h];unfold applyT;rfl
  have e2 : applyT t o = changeT (setAT o) t o.path:=by unfold applyT;rw [h];rfl
  rw [e1,e2,funext e]
 ·rw [bare5 h];unfold applyT;rw [h];rfl
 ·rw [bare6 h];unfold applyT;rw [h];rfl
 ·rw [(bare0 h1 h2 h3 h4 h5 h6).1] at hf
  cases hf
end Bow
/- W48: operations that say the same. -/
namespace Bow
open Go Go.Proofs
set_option maxRecDepth 100000 in
theorem w_refSamePieces (xs ys : List PieceT) (hl : xs.length ≤ 1000000) : Pure Tryz.prog 102 [piecesV xs, piecesV ys] (fun x => x = .bool (decide (xs = ys))) := by
  refine pure_wk (pure_fn 300 Tryz.func102 rfl rfl rfl fun B => ?_)
  refine ⟨fun g1 => go 300 ?_, fun g1 => go 300 ?_⟩
  · have g1 := ne_of' g1
    exact ⟨trivial, rfl, rfl, rfl, leaf_ff (decide_eq_false fun e => g1 (by rw [e]))⟩
  have g1 : xs.length = ys.length := by have := eq_of' g1; simp at this; omega
  show Goes _ _ _ _
  refine goes_iter (ι := Nat) (fun i => i ≤ xs.length ∧ (xs.drop i = ys.drop i ↔ xs = ys)) (fun i => xs.length - i) (fun i => [(5, .int .i64 i), (0, piecesV xs), (1, piecesV ys)]) (fun _ => []) 0 300 (fun _ => rfl) (fun _ => rfl) ⟨⟨Nat.zero_le _, by simp⟩, ⟨⟨rfl, rfl⟩, ⟨rfl, rfl⟩, ⟨rfl, rfl⟩, trivial⟩, trivial⟩ ?_
  rintro i ⟨k1, k2⟩ next
  refine ⟨fun hlt => go 300 ?_, fun hge => go 300 ?_⟩
  · have hi : i < xs.length := by simpa using hlt
    have hi' : i < ys.length := by omega
    have hx : (xs.map pieceV)[i]? = some (pieceV xs[i]) := by simp [hi]
    have hy : (ys.map pieceV)[i]? = some (pieceV ys[i]) := by simp [hi']
    rw [attrs_take hi hi'] at k2
    show Goes _ _ _ _
    refine goes_draw 300 ⟨Int.natCast_nonneg i, _, hx, Int.natCast_nonneg i, _, hy, ?_⟩
    refine ⟨by kernel_rfl, ?_⟩
    refine ⟨by kernel_rfl, ?_⟩
    refine ⟨fun g2 => go 300 ?_, fun g2 => go 300 ?_⟩
    · refine ⟨trivial, rfl, rfl, rfl, leaf_ff (decide_eq_false fun e => ?_)⟩
      have := (k2.2 e).1
      rw [this] at g2
      simp at g2
    · refine ⟨by constructor <;> omega, ?_⟩
      have he : xs[i] = ys[i] := by
        simp at g2
        exact PieceT.ext g2.1 g2.2.1 g2.2.2
      exact next (i + 1) _ _ ⟨⟨hi, by rw [← k2]; exact ⟨fun h => ⟨he, h⟩, fun h => h.2⟩⟩, by omega, ⟨⟨rfl, rfl⟩, ⟨rfl, rfl⟩, ⟨rfl, rfl⟩, trivial⟩, trivial⟩
  · have hi : i = xs.length := by have : xs.length ≤ i := by simpa using hge
                                  omega
    subst hi
    refine ⟨trivial, rfl, rfl, rfl, leaf_tt (decide_eq_true (k2.1 ?_))⟩
    rw [List.drop_eq_nil_of_le (Nat.le_refl _), List.drop_eq_nil_of_le (by omega)]
def eqO (x y : OpT) : Bool := decide (x.kind = y.kind) && (decide (x.path = y.path) && (decide (x.at_ = y.at_) && (decide (x.to = y.to) && (decide (x.id = y.id) && ((x.leaf == y.leaf) && (decide (x.label = y.label) && (decide (x.key = y.key) && (decide (x.value = y.value) && ((x.gone == y.gone) && decide (x.pieces = y.pieces))))))))))
def sameO (a b : OpT) : Bool := eqO (bareO a) (bareO b)
set_option maxHeartbeats 2000000 in
set_option maxRecDepth 100000 in
theorem w_refSameO (a b : OpT) (ha : a.Lt 1000000) (hb : b.Lt 1000000) : Pure Tryz.prog 61 [opV a, opV b] (fun x => x = .bool (sameO a b)) := by
  have la := bare_lt ha
  have h1 := w_refSame (bareO a).path (bareO b).path la.path
  have h2 := w_refSame (bareO a).to (bareO b).to la.to
  have h3 := w_refSamePieces (bareO a).pieces (bareO b).pieces la.pieces
  refine pure_wk (pure_fn 300 Tryz.func61 rfl rfl rfl fun B => ?_)
  show CallThen _ _ _ _ _ _
  refine call_pure (w_refBare a ha) rfl ?_
  rintro z rfl
  show CallThen _ _ _ _ _ _
  refine call_pure (w_refBare b hb) rfl ?_
  rintro z rfl
  repeat' first
    | (refine ⟨fun _ => go 300 ?_, fun _ => go 300 ?_⟩)
    | (show CallThen _ _ _ _ _ _; refine call_pure h1 rfl ?_; rintro z rfl)
    | (show CallThen _ _ _ _ _ _; refine call_pure h2 rfl ?_; rintro z rfl)
    | (show CallThen _ _ _ _ _ _; refine call_pure h3 rfl ?_; rintro z rfl)
    | (refine ⟨trivial, rfl, rfl, rfl, leaf_ff ?_⟩)
    | (refine ⟨trivial, rfl, rfl, rfl, leaf_b ?_⟩)
    | fail
  all_goals (unfold sameO eqO; simp_all)
end Bow
/- W61: the laws of chapter 12: what they use; the examples. -/
namespace Bow
open Go Go.Proofs
def isB (x : V) : Prop:=∃ b : Bool,x = .bool b
set_option maxHeartbeats 2000000 in
set_option maxRecDepth 100000 in
theorem w_Small (l : List PieceT) (top : Nat) (hl : l.length ≤ 1000000) (ht : top ≤ 1000000) : Pure Tryz.prog 48 [piecesV l,.int .i64 top] isB:=by
 have ff : ∃ y,Wk .ff y ∧ y.pureB = true ∧ isB y:=⟨.bool false,Wk.ff,rfl,false,rfl⟩
 have tt : ∃ y,Wk .tt y ∧ y.pureB = true ∧ isB y:=⟨.bool true,Wk.tt,rfl,true,rfl⟩
 refine pure_wk (pure_fn 300 Tryz.func48 rfl rfl rfl fun B => ?_)
 refine ⟨fun g1 => go 300 ?_,fun g1 => go 300 ?_⟩
 ·exact ⟨trivial,rfl,rfl,rfl,ff⟩
 show Goes _ _ _ _
 refine goes_iter (ι:=Nat × Int) (fun i => i.1 ≤ l.length ∧ 0 ≤ i.2 ∧ i.2 ≤ top) (fun i => l.length - i.1) (fun i => [(6,.int .i64 i.1),(5,.int .i64 i.2),(0,piecesV l),(1,.int .i64 top)]) (fun _ => []) (0,0) 300 (fun _ => rfl) (fun _ => rfl) ⟨⟨Nat.zero_le _,Int.le_refl _,Int.natCast_nonneg _⟩,⟨⟨rfl,rfl⟩,⟨rfl,rfl⟩,⟨rfl,rfl⟩,⟨rfl,rfl⟩,trivial⟩,trivial⟩ ?_
 rintro ⟨i,n⟩ ⟨k1,k2,k3⟩ next
 simp only at k1 k2 k3
 refine ⟨fun hlt => go 300 ?_,fun hge => go 300 ?_⟩
 ·have hi : i < l.length:=by simpa using hlt
  have hx : (l.map pieceV)[i]? = some (pieceV l[i]):=by simp [hi]
  show Goes _ _ _ _
  refine goes_draw 300 ⟨Int.natCast_nonneg i,_,hx,Int.natCast_nonneg i,_,hx,?_⟩
  refine ⟨by kernel_rfl,?_⟩
  refine ⟨fun g1 => go 300 ?_,fun g1 => go 300 ?_⟩ <;> refine ⟨fun g2 => go 300 ?_,fun g2 => go 300 ?_⟩
  all_goals
   simp only [decide_eq_true_eq,decide_eq_false_iff_not] at g1 g2
   refine ⟨by constructor <;> omega,?_⟩
   refine ⟨fun g3 => go 300 ?_,fun g3 => go 300 ?_⟩
   ·exact ⟨trivial,rfl,rfl,rfl,ff⟩
   simp only [decide_eq_false_iff_not] at g3
   refine ⟨by constructor <;> omega,by constructor <;> omega,?_⟩
   refine ⟨fun g4 => go 300 ?_,fun g4 => go 300 ?_⟩
   ·exact ⟨trivial,rfl,rfl,rfl,ff⟩
   simp only [decide_eq_false_iff_not] at g4
   refine ⟨Int.natCast_nonneg i,_,hx,by constructor <;> omega,by constructor <;> omega,by constructor <;> omega,?_⟩
   refine ⟨fun g5 => go 300 ?_,fun g5 => go 300 ?_⟩
   ·exact ⟨trivial,rfl,rfl,rfl,ff⟩
   simp only [decide_eq_false_iff_not] at g5
   refine ⟨by constructor <;> omega,by constructor <;> omega,Int.natCast_nonneg i,_,hx,by constructor <;> omega,by constructor <;> omega,?_⟩
   show Goes _ _ _ _
   refine next (i + 1,_) _ _ ⟨⟨hi,?_,?_⟩,by simp only;omega,⟨⟨rfl,rfl⟩,⟨rfl,rfl⟩,⟨rfl,rfl⟩,⟨rfl,rfl⟩,trivial⟩,trivial⟩
   ·simp only;omega
   ·simp only;omega
 ·exact ⟨trivial,rfl,rfl,rfl,tt⟩
end Bow
/- W62: SquareTurned. -/
namespace Bow
open Go Go.Proofs
theorem right_puts {l : List PieceT} (h : rightP l = true) : putsLen l ≤ 1048576:=by
 unfold rightP at h
 rw [Bool.and_eq_true] at h
 have:=(rightGo_ok h.2).2
 rcases this with rfl | this
 ·exact Nat.zero_le _
 ·omega
end Bow
/- W63: lists of operations: joined (slices.Concat), made bare; which are too many. -/
namespace Bow
open Go Go.Proofs
theorem w_GrowOp (n : Nat) (h : n ≤ 10000000) : Fun Tryz.prog 187 [] [.nilsl, .int .i64 n] (fun x T => ∃ g, x = .osl (.loc 0) g 0 0 ∧ T = [some (.vec g 11 [])]) := by
  refine fun_fn 100 Tryz.func187 rfl rfl rfl fun imps B hi => ?_
  have : imps = [] := List.length_eq_zero_iff.1 hi
  subst this
  refine ⟨fun g1 => go 100 ?_, fun g1 => go 100 ?_⟩
  · have := lt_of g1; omega
  show Goes _ _ _ _
  refine goes_cap0 100 rfl rfl rfl rfl rfl ?_
  refine ⟨by constructor <;> omega, by constructor <;> omega, ?_⟩
  refine ⟨fun g2 => go 100 ?_, fun g2 => ?_⟩
  · have g2 := lt_of g2
    show Goes _ _ _ _
    refine goes_cap0 100 rfl rfl rfl rfl rfl ?_
    show Goes _ _ _ _
    refine goes_nilcut 100 rfl rfl rfl rfl rfl rfl rfl ?_
    show Goes _ _ _ _
    refine goes_growTo 100 n rfl rfl rfl rfl (congrArg (V.int .i64) (by omega)) (by omega) rfl rfl rfl rfl rfl (Nat.le_trans (Nat.mul_le_mul_right _ h) (by decide)) ?_
    show Goes _ _ _ _
    refine goes_cut (h := 0) 100 rfl rfl rfl rfl rfl rfl rfl rfl (Nat.zero_le _) ?_
    exact ⟨trivial, rfl, rfl, 2, rfl, rfl⟩
  · refine goes_own 0 11 rfl ?_
    refine go 100 ?_
    exact ⟨trivial, rfl, rfl, 0, rfl, rfl⟩
set_option maxRecDepth 100000 in
theorem w_ConcatOp (ls : List (List V)) (h : ls.flatten.length ≤ 1000000) (hl : ls.length ≤ 1000000) : Pure Tryz.prog 153 [.sl 1 (ls.map (V.sl 11))] (fun x => x = .sl 11 ls.flatten) := by
  refine pure_fn 100 Tryz.func153 rfl rfl rfl fun B => ?_
  show Goes _ _ _ _
  refine goes_iter (ι := Nat) (fun i => i ≤ ls.length) (fun i => ls.length - i) (fun i => [(3, .int .i64 (ls.take i).flatten.length), (11, .int .i64 i), (10, .int .i64 (ls.map (V.sl 11)).length), (9, .sl 1 (ls.map (V.sl 11))), (0, .sl 1 (ls.map (V.sl 11)))]) (fun _ => []) 0 100 (fun _ => rfl) (fun _ => rfl) ⟨Nat.zero_le _, ?_, trivial⟩ ?_
  · exact ⟨⟨rfl, rfl⟩, ⟨rfl, rfl⟩, ⟨rfl, rfl⟩, ⟨rfl, rfl⟩, ⟨rfl, rfl⟩, trivial⟩
  intro i k1 next
  have hb1 := flatten_take_le ls i
  refine ⟨fun hlt => go 100 ?_, fun hge => go 100 ?_⟩
  · have hi : i < ls.length := by simpa using hlt
    have hx : (ls.map (V.sl 11))[i]? = some (.sl 11 ls[i]) := by simp [hi]
    have hb2 := flatten_take_le ls (i + 1)
    have hs := flatten_take_succ hi
    have hsl : (ls.take (i + 1)).flatten.length = (ls.take i).flatten.length + ls[i].length := by rw [hs, List.length_append]
    refine ⟨Int.natCast_nonneg i, _, hx, ?_⟩
    refine ⟨by constructor <;> omega, ?_⟩
    refine ⟨fun g1 => go 100 ?_, fun g1 => go 100 ?_⟩
    · have := lt_of g1; omega
    refine ⟨by constructor <;> omega, ?_⟩
    refine next (i + 1) _ _ ⟨by omega, by omega, ?_, trivial⟩
    exact ⟨⟨by simp only [lk]; exact congrArg (V.int .i64) (by omega), rfl⟩, ⟨rfl, rfl⟩, ⟨rfl, rfl⟩, ⟨rfl, rfl⟩, ⟨rfl, rfl⟩, trivial⟩
  · have hi : i = ls.length := by have : ls.length ≤ i := by simpa using hge
                                  omega
    subst hi
    rw [List.take_length]
    show CallThen _ _ _ _ _ _
    refine call_sub [] (w_GrowOp ls.flatten.length (by omega)) rfl rfl trivial rfl rfl rfl ?_
    rintro x T1 ⟨g, rfl, rfl⟩
    refine ⟨rfl, ?_⟩
    show Goes _ _ _ _
    refine goes_iter (ι := Nat × Nat) (fun i => i.1 ≤ ls.length) (fun i => ls.length - i.1) (fun i => [(6, .osl (.loc 0) i.2 0 (ls.take i.1).flatten.length), (27, .int .i64 i.1), (26, .int .i64 (ls.map (V.sl 11)).length), (25, .sl 1 (ls.map (V.sl 11)))]) (fun i => [some (.vec i.2 11 (ls.take i.1).flatten)]) (0, g) 100 (fun _ => rfl) (fun _ => rfl) ⟨Nat.zero_le _, ?_, ?_⟩ ?_
    · exact ⟨⟨rfl, rfl⟩, ⟨rfl, rfl⟩, ⟨rfl, rfl⟩, ⟨rfl, rfl⟩, trivial⟩
    · exact ⟨⟨rfl, rfl⟩, trivial⟩
    rintro ⟨i, g⟩ k1 next
    have hb1 := flatten_take_le ls i
    simp only at k1 hb1
    refine ⟨fun hlt => go 100 ?_, fun hge => go 100 ?_⟩
    · have hi : i < ls.length := by simpa using hlt
      have hx : (ls.map (V.sl 11))[i]? = some (.sl 11 ls[i]) := by simp [hi]
      have hb2 := flatten_take_le ls (i + 1)
      have hs := flatten_take_succ hi
      have hsl : (ls.take (i + 1)).flatten.length = (ls.take i).flatten.length + ls[i].length := by rw [hs, List.length_append]
      refine ⟨Int.natCast_nonneg i, _, hx, ?_⟩
      simp only
      refine ⟨rfl, rfl, Nat.le_trans (Nat.mul_le_mul_right _ (show _ ≤ 1000000 by omega)) (by decide), ?_⟩
      refine ⟨by constructor <;> omega, ?_⟩
      refine next (i + 1, bump g) _ _ ⟨by simp only; omega, by simp only; omega, ?_, ?_⟩
      · exact ⟨⟨by simp only [lk]; exact congrArg (V.osl _ _ _) hsl.symm, rfl⟩, ⟨rfl, rfl⟩, ⟨rfl, rfl⟩, ⟨rfl, rfl⟩, trivial⟩
      · exact ⟨⟨by rw [hs], rfl⟩, trivial⟩
    · have hi : i = ls.length := by have : ls.length ≤ i := by simpa using hge
                                    omega
      subst hi
      exact ⟨trivial, rfl, rfl, rfl, rfl, rfl, by simp only [List.take_length]⟩
theorem w_much1 (l : List OpT) : Pure Tryz.prog 186 [opsV l] (fun x => x = .bool (decide (4096 < l.length))) := by
  refine pure_wk (pure_fn 300 Tryz.func186 rfl rfl rfl fun B => ?_)
  refine ⟨trivial, rfl, rfl, rfl, leaf_b ?_⟩
  simp only [List.length_map]
  exact decide_eq_decide.2 ⟨fun h => by omega, fun h => by omega⟩
def findL (f : List OpT → Bool) : Nat → List (List OpT) → Int
  | _, [] => -1
  | i, x :: xs => bif f x then i else findL f (i + 1) xs
theorem findL_any (f : List OpT → Bool) : ∀ (xs : List (List OpT)) (i : Nat), decide (0 ≤ findL f i xs) = xs.any f
  | [], i => by simp [findL]
  | x :: xs, i => by
    rw [findL, List.any_cons]
    cases h : f x with
    | true => simp
    | false => simpa using findL_any f xs (i + 1)
def listsV (l : List (List OpT)) : V := .sl 1 (l.map opsV)
set_option maxRecDepth 100000 in
theorem w_IndexMuch (xs : List (List OpT)) (hl : xs.length ≤ 1000000) :
    Pure Tryz.prog 200 [listsV xs, .fn (.func 186) [] []] (fun x => x = .int .i64 (findL (fun l => decide (4096 < l.length)) 0 xs)) := by
  refine pure_fn 100 Tryz.func200 rfl rfl rfl fun B => ?_
  show Goes _ _ _ _
  refine goes_iter (ι := Nat) (fun i => i ≤ xs.length ∧ findL (fun l => decide (4096 < l.length)) i (xs.drop i) = findL (fun l => decide (4096 < l.length)) 0 xs) (fun i => xs.length - i) (fun i => [(8, .int .i64 i), (7, .int .i64 (xs.map opsV).length), (1, .fn (.func 186) [] []), (0, listsV xs)]) (fun _ => []) 0 200 (fun _ => rfl) (fun _ => rfl) ⟨⟨Nat.zero_le _, rfl⟩, ?_, ?_⟩ ?_
  · exact ⟨⟨rfl, rfl⟩, ⟨rfl, rfl⟩, ⟨rfl, rfl⟩, ⟨rfl, rfl⟩, trivial⟩
  · trivial
  · rintro i ⟨h1, h2⟩ next
    refine ⟨fun hlt => go 200 ?_, fun hge => go 200 ?_⟩
    · have hi : i < xs.length := by simpa using hlt
      have hx : (xs.map opsV)[i]? = some (opsV xs[i]) := by simp [hi]
      rw [drop_cons hi, findL] at h2
      refine ⟨Int.natCast_nonneg i, _, hx, ?_⟩
      show CallThen _ _ _ _ _ _
      refine call_pure (w_much1 xs[i]) rfl ?_
      rintro x rfl
      refine ⟨fun h => go 200 ?_, fun h => go 200 ?_⟩
      · rw [h] at h2
        exact ⟨trivial, rfl, rfl, rfl, by rw [← h2]; rfl⟩
      · rw [h] at h2
        refine ⟨by constructor <;> omega, ?_⟩
        show Goes _ _ _ _
        exact next (i + 1) _ _ ⟨⟨hi, h2⟩, by omega, ⟨⟨rfl, rfl⟩, ⟨rfl, rfl⟩, ⟨rfl, rfl⟩, ⟨rfl, rfl⟩, trivial⟩, trivial⟩
    · have hi : xs.length ≤ i := by simpa using hge
      rw [List.drop_eq_nil_of_le hi] at h2
      exact ⟨trivial, rfl, rfl, rfl, by rw [← h2]; rfl⟩
theorem w_much (xs : List (List OpT)) (hl : xs.length ≤ 1000000) : Pure Tryz.prog 152 [listsV xs] (fun x => x = .bool (xs.any fun l => decide (4096 < l.length))) := by
  have hc : Pure Tryz.prog 185 [listsV xs, .fn (.func 186) [] []] (fun x => x = .bool (xs.any fun l => decide (4096 < l.length))) := by
    refine pure_fn 100 Tryz.func185 rfl rfl rfl fun B => ?_
    show CallThen _ _ _ _ _ _
    refine call_pure (w_IndexMuch xs hl) rfl ?_
    rintro x rfl
    exact ⟨trivial, rfl, rfl, rfl, by rw [← findL_any _ xs 0]; rfl⟩
  refine pure_fn 100 Tryz.func152 rfl rfl rfl fun B => ?_
  show CallThen _ _ _ _ _ _
  refine call_pure hc rfl ?_
  rintro x rfl
  exact ⟨trivial, rfl, rfl, rfl, rfl⟩
set_option maxRecDepth 100000 in
theorem w_lbare (l : List OpT) (hl : l.length ≤ 1000000) (hok : ∀ o ∈ l, o.Lt 1000000) : Pure Tryz.prog 99 [opsV l] (fun x => x = opsV (bareL l)) := by
  refine pure_wk (pure_fn 300 Tryz.func99 rfl rfl rfl fun B => ?_)
  show Goes _ _ _ _
  refine goes_own 3 11 rfl ?_
  refine goes_iter (ι := Nat × Nat) (fun i => i.1 ≤ l.length) (fun i => l.length - i.1) (fun i => [(8, .int .i64 i.1), (7, .int .i64 (l.map opV).length), (6, opsV l), (3, .osl (.loc 0) i.2 0 i.1)]) (fun i => [some (.vec i.2 11 ((bareL (l.take i.1)).map opV))]) (0, 0) 300 (fun _ => rfl) (fun _ => rfl) ⟨Nat.zero_le _, ⟨⟨rfl, rfl⟩, ⟨rfl, rfl⟩, ⟨rfl, rfl⟩, ⟨rfl, rfl⟩, trivial⟩, ⟨⟨rfl, rfl⟩, trivial⟩⟩ ?_
  rintro ⟨i, g⟩ k1 next
  simp only at k1
  have hbl : (bareL (l.take i)).length = i := by simp [bareL]; omega
  refine ⟨fun hlt => go 300 ?_, fun hge => go 300 ?_⟩
  · have hi : i < l.length := by simpa using hlt
    have hx : (l.map opV)[i]? = some (opV l[i]) := by simp [hi]
    refine ⟨Int.natCast_nonneg i, _, hx, ?_⟩
    show CallThen _ _ _ _ _ _
    refine call_pure (w_Bare l[i] (hok _ (List.getElem_mem hi))) rfl ?_
    rintro x rfl
    refine ⟨⟨rfl, trivial⟩, rfl, rfl, rfl, (by rw [List.length_map]; exact hbl.symm), Nat.le_trans (Nat.mul_le_mul_right _ (show _ ≤ 1000001 by rw [List.length_map, hbl]; simp only [List.length_cons, List.length_nil]; omega)) (by decide), ?_⟩
    refine ⟨by constructor <;> omega, ?_⟩
    show Goes _ _ _ _
    have e : (bareL (l.take (i + 1))).map opV = (bareL (l.take i)).map opV ++ [opV (bareO l[i])] := by
      rw [List.take_succ_eq_append_getElem hi]
      simp only [bareL, List.map_append, List.map_cons, List.map_nil]
    refine next (i + 1, bump g) _ _ ⟨hi, by simp only; omega, ⟨⟨rfl, rfl⟩, ⟨rfl, rfl⟩, ⟨rfl, rfl⟩, ⟨?_, rfl⟩, trivial⟩, ⟨⟨?_, rfl⟩, trivial⟩⟩
    · simp only [lk]
      exact congrArg (V.osl _ _ _) (by rw [List.length_map, hbl]; rfl)
    · exact congrArg (fun z => some (HObj.vec (bump g) 11 z)) e.symm
  · have hi : i = l.length := by have : l.length ≤ i := by simpa using hge
                                 omega
    subst hi
    refine ⟨trivial, rfl, rfl, rfl, by simp [bareL], rfl, opsV (bareL l), ?_, rfl, rfl⟩
    show Wk (.sl 11 ((bareL (l.take l.length)).map opV)) _
    rw [List.take_length]
    exact .refl _
end Bow
/- W64: lists.bring, Both. -/
namespace Bow
open Go Go.Proofs
def OkL (l : List OpT) : Prop:=∀ o ∈ l,o.Ok ∧ o.to.length ≤ 1000
theorem bare_formed_ok {o : OpT} (h : formedB o = true) : (bareO o).Ok ∧ (bareO o).to.length ≤ 1000:=by
 have hp:=may_len (formed_path h)
 have nil : ∀ k : Int,(noOp k).Ok:=fun k => ⟨⟨Nat.zero_le _,Nat.zero_le _,Nat.zero_le _,Nat.zero_le _,Nat.zero_le _,Nat.zero_le _⟩,Nat.zero_le _⟩
 unfold bareO
 cases k1 : o.kind == 1 with
 | true =>
  have hk : o.kind = 1:=eq_of_beq k1
  have hl : o.label.length ≤ 64:=by
   unfold formedB at h
   rw [hk] at h
   simp only [Bool.and_eq_true] at h
   have:=h.2
   simp at this
   omega
  exact ⟨⟨⟨by show o.path.length ≤ _;omega,Nat.zero_le _,by show o.label.length ≤ _;omega,Nat.zero_le _,Nat.zero_le _,Nat.zero_le _⟩,Nat.zero_le _⟩,Nat.zero_le _⟩
 | false => cases k2 : o.kind == 2 with
  | true => exact ⟨⟨⟨by show o.path.length ≤ _;omega,Nat.zero_le _,Nat.zero_le _,Nat.zero_le _,Nat.zero_le _,Nat.zero_le _⟩,Nat.zero_le _⟩,Nat.zero_le _⟩
  | false => cases k3 : o.kind == 3 with
   | true =>
    have ht:=may_len (good_to h (eq_of_beq k3))
    exact ⟨⟨⟨by show o.path.length ≤ _;omega,by show o.to.length ≤ _;omega,Nat.zero_le _,Nat.zero_le _,Nat.zero_le _,Nat.zero_le _⟩,Nat.zero_le _⟩,by show o.to.length ≤ _;omega⟩
   | false => cases k4 : o.kind == 4 with
    | true =>
     have hk : o.kind = 4:=eq_of_beq k4
     have hl : o.key.length ≤ 64 ∧ (o.gone = true ∨ o.value.length ≤ 256):=by
      unfold formedB at h
      rw [hk] at h
      simp [keyOk] at h
      exact ⟨h.2.1.2,h.2.2.imp id (fun h => by omega)⟩
     refine ⟨⟨⟨by show o.path.length ≤ _;omega,Nat.zero_le _,Nat.zero_le _,by show o.key.length ≤ _;omega,?_,Nat.zero_le _⟩,Nat.zero_le _⟩,Nat.zero_le _⟩
     show (bif o.gone then [] else o.value : List UInt8).length ≤ _
     rcases hl.2 with hg | hg
     ·rw [hg];exact Nat.zero_le _
     ·cases o.gone with
      | true => exact Nat.zero_le _
      | false => show o.value.length ≤ _;omega
    | false => cases k5 : o.kind == 5 with
     | true =>
      have hk : o.kind = 5:=eq_of_beq k5
      have hl : o.label.length ≤ 64:=by
       unfold formedB at h
       rw [hk] at h
       simp at h
       omega
      exact ⟨⟨⟨by show o.path.length ≤ _;omega,Nat.zero_le _,by show o.label.length ≤ _;omega,Nat.zero_le _,Nat.zero_le _,Nat.zero_le _⟩,Nat.zero_le _⟩,Nat.zero_le _⟩
     | false => cases k6 : o.kind == 6 with
      | true =>
       have hr:=formed_pieces h (eq_of_beq k6)
       have h1:=right_puts hr
       have h2:=(right_bounds hr).1
       exact ⟨⟨⟨by show o.path.length ≤ _;omega,Nat.zero_le _,Nat.zero_le _,Nat.zero_le _,Nat.zero_le _,by show o.pieces.length ≤ _;omega⟩,h1⟩,Nat.zero_le _⟩
      | false => exact ⟨nil _,Nat.zero_le _⟩
theorem behX_okL (b a : OpT) (p : Bool) : OkL (behindX b a p).1:=by
 unfold behindX
 cases bothEdit b a with
 | false =>
  simp only [cond_false]
  unfold behindO
  cases !soundO a || !soundO b with
  | true => intro o ho;simp at ho
  | false =>
   cases hf : (rowO b a p).all formedB with
   | false => intro o ho;simp at ho
   | true =>
    intro o ho
    simp only [cond_true,cond_false] at ho
    obtain ⟨o',h1,rfl⟩:=List.mem_map.1 ho
    exact bare_formed_ok (List.all_eq_true.1 hf o' h1)
 | true =>
  simp only [cond_true]
  unfold behindE
  cases !soundO a || !soundO b with
  | true => intro o ho;simp at ho
  | false =>
   cases hf : decide ((transP b.pieces a.pieces p).2.2 = 0) && formedB (editO b a p) with
   | false => intro o ho;simp at ho
   | true =>
    intro o ho
    simp only [cond_true,cond_false,List.mem_singleton] at ho
    subst ho
    exact bare_formed_ok (Bool.and_eq_true_iff.1 hf).2
theorem okL_nil : OkL []:=fun o ho => by cases ho
theorem OkL.app {x y : List OpT} (hx : OkL x) (hy : OkL y) : OkL (x ++ y):=fun o ho => by
 rcases List.mem_append.1 ho with h | h
 ·exact hx o h
 ·exact hy o h
theorem bothX_okL (a b : OpT) (p : Bool) : OkL (bothX a b p).1 ∧ OkL (bothX a b p).2.1:=by
 unfold bothX
 cases decide ((behindX a b p).2 = 0) with
 | false => exact ⟨okL_nil,okL_nil⟩
 | true =>
  cases decide ((behindX b a (!p)).2 = 0) with
  | false => exact ⟨okL_nil,okL_nil⟩
  | true => exact ⟨behX_okL _ _ _,behX_okL _ _ _⟩
theorem OkL.tail {a : OpT} {x : List OpT} (h : OkL (a :: x)) : OkL x:=fun o ho => h o (List.mem_cons_of_mem _ ho)
theorem OkL.head {a : OpT} {x : List OpT} (h : OkL (a :: x)) : OkL [a]:=fun o ho => by rw [List.mem_singleton] at ho;exact ho ▸ h a List.mem_cons_self
theorem bringF_okL (prior : Bool) : ∀ (n : Nat) (xs ys : List OpT) (r),bringF prior n xs ys = some r → OkL xs → OkL ys → OkL r.1 ∧ OkL r.2.1
 | 0,_,_,_,h,_,_ => by cases h
 | n + 1,xs,ys,r,h,ox,oy => by
  rw [bringF_succ] at h
  unfold bringS at h
  cases hm : muchP xs ys with
  | true => rw [hm] at h;simp at h;subst h;exact ⟨okL_nil,okL_nil⟩
  | false =>
   rw [hm,cond_false] at h
   match xs,ys,h,ox,oy with
   | [],ys,h,_,oy => simp at h;subst h;exact ⟨okL_nil,oy⟩
   | a :: xs,[],h,ox,_ => simp at h;subst h;exact ⟨ox,okL_nil⟩
   | [a],[b],h,_,_ => simp at h;subst h;exact bothX_okL _ _ _
   | a :: a' :: xs,b :: ys,h,ox,oy =>
    simp only at h
    cases h1 : bringF prior n [a] (b :: ys) with
    | none => rw [h1] at h;cases h
    | some r1 =>
     rw [h1] at h
     obtain ⟨x1,y1,e1⟩:=r1
     obtain ⟨o1,o2⟩:=bringF_okL prior n _ _ _ h1 ox.head oy
     simp only at h
     cases he : !decide (e1 = 0) with
     | true => rw [he] at h;simp at h;subst h;exact ⟨okL_nil,okL_nil⟩
     | false =>
      rw [he,cond_false] at h
      cases h2 : bringF prior n (a' :: xs) y1 with
      | none => rw [h2] at h;cases h
      | some r2 =>
       rw [h2] at h
       obtain ⟨z,w,e2⟩:=r2
       obtain ⟨o3,o4⟩:=bringF_okL prior n _ _ _ h2 ox.tail o2
       simp only at h
       cases he : !decide (e2 = 0) with
       | true => rw [he] at h;simp at h;subst h;exact ⟨okL_nil,okL_nil⟩
       | false =>
        rw [he,cond_false] at h
        cases hmm : muchP (x1 ++ z) w with
        | true => rw [hmm] at h;simp at h;subst h;exact ⟨okL_nil,okL_nil⟩
        | false => rw [hmm] at h;simp at h;subst h;exact ⟨o1.app o3,o4⟩
   | [a],b :: b' :: ys,h,ox,oy =>
    simp only at h
    cases h1 : bringF prior n [a] [b] with
    | none => rw [h1] at h;cases h
    | some r1 =>
     rw [h1] at h
     obtain ⟨x1,y1,e1⟩:=r1
     obtain ⟨o1,o2⟩:=bringF_okL prior n _ _ _ h1 ox oy.head
     simp only at h
     cases he : !decide (e1 = 0) with
     | true => rw [he] at h;simp at h;subst h;exact ⟨okL_nil,okL_nil⟩
     | false =>
      rw [he,cond_false] at h
      cases h2 : bringF prior n x1 (b' :: ys) with
      | none => rw [h2] at h;cases h
      | some r2 =>
       rw [h2] at h
       obtain ⟨z,w,e2⟩:=r2
       obtain ⟨o3,o4⟩:=bringF_okL prior n _ _ _ h2 o1 oy.tail
       simp only at h
       cases he : !decide (e2 = 0) with
       | true => rw [he] at h;simp at h;subst h;exact ⟨okL_nil,okL_nil⟩
       | false =>
        rw [he,cond_false] at h
        cases hmm : muchP z (y1 ++ w) with
        | true => rw [hmm] at h;simp at h;subst h;exact ⟨okL_nil,okL_nil⟩
        | false => rw [hmm] at h;simp at h;subst h;exact ⟨o3,o2.app o4⟩
theorem w_Concat2 (x z : List OpT) (h : x.length + z.length ≤ 1000000) : Pure Tryz.prog 153 [listsV [x,z]] (fun v => v = opsV (x ++ z)) :=
 (w_ConcatOp [x.map opV,z.map opV] (by simp;omega) (by simp)).mono fun v hv => by rw [hv];simp [opsV]
theorem w_much2 (x z : List OpT) : Pure Tryz.prog 152 [listsV [x,z]] (fun v => v = .bool (muchP x z)) :=
 (w_much [x,z] (by simp)).mono fun v hv => by rw [hv];simp [muchP]
theorem bothZ' {e : Int} {R : List OpT × List OpT × Int} (h : R = ([],[],e)) : ∃ y,Wk (.tup [.nilsl,.nilsl,.int .i64 e]) y ∧ y.pureB = true ∧ y = BothV R:=⟨BothV ([],[],e),Wk.tup ⟨Wk.nil 11,Wk.nil 11,.refl _,trivial⟩,rfl,by rw [h]⟩
end Bow
/- W65: lists.bring's walk. -/
namespace Bow
open Go Go.Proofs
theorem muchP_le {x y : List OpT} (h : muchP x y = false) : x.length ≤ 4096 ∧ y.length ≤ 4096:=by
 unfold muchP at h
 simp only [Bool.or_eq_false_iff,decide_eq_false_iff_not] at h
 omega
theorem cut1 (o : OpT) (l : List OpT) : V.sl 11 ((((o :: l).map opV).drop (1 : Int).toNat).take (((((o :: l).map opV).length : Nat) : Int).toNat - (1 : Int).toNat)) = opsV l:=by
 show V.sl 11 ((l.map opV).take (((((o :: l).map opV).length : Nat) : Int).toNat - (1 : Int).toNat)) = V.sl 11 (l.map opV)
 rw [List.take_of_length_le]
 simp
set_option maxHeartbeats 4000000 in
set_option maxRecDepth 100000 in
theorem w_bring (prior : Bool) : ∀ (n : Nat) (xs ys : List OpT) (R),bringF prior n xs ys = some R → OkL xs → OkL ys → Pure Tryz.prog 111 [opsV xs,opsV ys,.bool prior] (fun x => x = BothV R)
 | 0,_,_,_,h,_,_ => by cases h
 | n + 1,xs,ys,R,h,ox,oy => by
  have cm:=w_much2 xs ys
  rw [bringF_succ] at h
  unfold bringS at h
  refine pure_wk (pure_fn 300 Tryz.func111 rfl rfl rfl fun B => ?_)
  refine ⟨⟨rfl,rfl,trivial⟩,?_⟩
  show CallThen _ _ _ _ _ _
  refine call_pure_frz ?_
  refine ⟨rfl,rfl,_,cm,rfl,?_⟩
  rintro x rfl
  refine ⟨fun g1 => go 300 ?_,fun g1 => go 300 ?_⟩
  ·rw [g1] at h
   simp only [cond_true,Option.some.injEq] at h
   exact ⟨trivial,rfl,rfl,rfl,bothZ' h.symm⟩
  rw [g1,cond_false] at h
  have hlen:=muchP_le g1
  match xs,ys,h,ox,oy,hlen with
  | [],ys,h,_,_,_ =>
   simp only [Option.some.injEq] at h
   refine ⟨fun g2 => go 300 ?_,fun g2 => absurd rfl (ne_of g2)⟩
   exact ⟨trivial,rfl,rfl,rfl,BothV ([],ys,0),Wk.refl _,rfl,by rw [h]⟩
  | a :: xs,[],h,_,_,_ =>
   simp only [Option.some.injEq] at h
   refine ⟨fun g2 => absurd (eq_of g2) (by simp;omega),fun g2 => go 300 ?_⟩
   refine ⟨fun g3 => go 300 ?_,fun g3 => absurd rfl (ne_of g3)⟩
   exact ⟨trivial,rfl,rfl,rfl,BothV (a :: xs,[],0),Wk.refl _,rfl,by rw [h]⟩
  | [a],[b],h,ox,oy,_ =>
   simp only [Option.some.injEq] at h
   have cb:=w_BothX a b prior (ox a List.mem_cons_self).1 (oy b List.mem_cons_self).1 ⟨(ox a List.mem_cons_self).2,(oy b List.mem_cons_self).2⟩
   rw [h] at cb
   refine ⟨fun g2 => absurd (eq_of g2) (by simp),fun g2 => go 300 ?_⟩
   refine ⟨fun g3 => absurd (eq_of g3) (by simp),fun g3 => go 300 ?_⟩
   refine ⟨fun g4 => absurd (lt_of g4) (by simp),fun g4 => go 300 ?_⟩
   refine ⟨fun g5 => absurd (lt_of g5) (by simp),fun g5 => go 300 ?_⟩
   show Goes _ _ _ _
   refine goes_draw 300 ⟨by decide,_,rfl,by decide,_,rfl,_,cb,rfl,?_⟩
   refine ⟨by kernel_rfl,?_⟩
   exact ⟨trivial,rfl,rfl,rfl,BothV R,Wk.refl _,rfl,rfl⟩
  | a :: a' :: xs,b :: ys,h,ox,oy,hlen =>
   simp only at h
   obtain ⟨r1,h1⟩ : ∃ r1,bringF prior n [a] (b :: ys) = r1:=⟨_,rfl⟩
   rw [h1] at h
   match r1,h1,h with
   | none,_,h => cases h
   | some (x1,y1,e1),h1,h =>
   simp only at h
   have c1:=w_bring prior n _ _ _ h1 ox.head oy
   obtain ⟨o1,o2⟩:=bringF_okL prior n _ _ _ h1 ox.head oy
   refine ⟨fun g2 => absurd (eq_of g2) (by simp;omega),fun g2 => go 300 ?_⟩
   refine ⟨fun g3 => absurd (eq_of g3) (by simp;omega),fun g3 => go 300 ?_⟩
   refine ⟨fun g4 => go 300 ?_,fun g4 => absurd (not_lt_of g4) (by simp;omega)⟩
   refine ⟨by decide,by decide,by simp;omega,?_⟩
   show CallThen _ _ _ _ _ _
   refine call_pure c1 rfl ?_
   rintro x rfl
   refine ⟨fun g5 => go 300 ?_,fun g5 => go 300 ?_⟩
   ·have g5:=ne_of' g5
    rw [decide_eq_false g5] at h
    simp only [Bool.not_false,cond_true,Option.some.injEq] at h
    exact ⟨trivial,rfl,rfl,rfl,bothZ' h.symm⟩
   have g5:=eq_of' g5
   subst g5
   simp only [decide_true,Bool.not_true,cond_false] at h
   obtain ⟨r2,h2⟩ : ∃ r2,bringF prior n (a' :: xs) y1 = r2:=⟨_,rfl⟩
   rw [h2] at h
   match r2,h2,h with
   | none,_,h => cases h
   | some (z,w,e2),h2,h =>
   simp only at h
   have c2:=w_bring prior n _ _ _ h2 ox.tail o2
   refine ⟨by decide,by simp only [List.length_map,List.length_cons];omega,Int.le_refl _,?_⟩
   show CallThen _ _ _ _ _ _
   refine call_pure (pure_args c2 ⟨Wk.of_eq (cut1 a (a' :: xs)),.refl _,.refl _,trivial⟩ rfl rfl) rfl ?_
   rintro x rfl
   refine ⟨fun g6 => go 300 ?_,fun g6 => go 300 ?_⟩
   ·have g6:=ne_of' g6
    rw [decide_eq_false g6] at h
    simp only [Bool.not_false,cond_true,Option.some.injEq] at h
    exact ⟨trivial,rfl,rfl,rfl,bothZ' h.symm⟩
   have g6:=eq_of' g6
   subst g6
   simp only [decide_true,Bool.not_true,cond_false] at h
   have i1:=(bringF_inv prior n _ _ _ _ h1).s
   have i2:=(bringF_inv prior n _ _ _ _ h2).s
   simp only [List.length_cons,List.length_nil] at i1 i2 hlen
   refine ⟨⟨rfl,rfl,trivial⟩,?_⟩
   show CallThen _ _ _ _ _ _
   refine call_pure_frz ?_
   refine ⟨rfl,rfl,_,w_Concat2 x1 z (by omega),rfl,?_⟩
   rintro x rfl
   refine ⟨⟨rfl,rfl,trivial⟩,?_⟩
   show CallThen _ _ _ _ _ _
   refine call_pure_frz ?_
   refine ⟨rfl,rfl,_,w_much2 (x1 ++ z) w,rfl,?_⟩
   rintro x rfl
   refine ⟨fun g7 => go 300 ?_,fun g7 => go 300 ?_⟩
   ·have g7 : muchP (x1 ++ z) w = false:=by simpa using g7
    rw [g7] at h
    simp only [cond_false,Option.some.injEq] at h
    exact ⟨trivial,rfl,rfl,rfl,BothV (x1 ++ z,w,0),Wk.refl _,rfl,by rw [h]⟩
   ·have g7 : muchP (x1 ++ z) w = true:=by simpa using g7
    rw [g7] at h
    simp only [cond_true,Option.some.injEq] at h
    exact ⟨trivial,rfl,rfl,rfl,bothZ' h.symm⟩
  | [a],b :: b' :: ys,h,ox,oy,hlen =>
   simp only at h
   obtain ⟨r1,h1⟩ : ∃ r1,bringF prior n [a] [b] = r1:=⟨_,rfl⟩
   rw [h1] at h
   match r1,h1,h with
   | none,_,h => cases h
   | some (x1,y1,e1),h1,h =>
   simp only at h
   have c1:=w_bring prior n _ _ _ h1 ox oy.head
   obtain ⟨o1,o2⟩:=bringF_okL prior n _ _ _ h1 ox oy.head
   refine ⟨fun g2 => absurd (eq_of g2) (by simp),fun g2 => go 300 ?_⟩
   refine ⟨fun g3 => absurd (eq_of g3) (by simp;omega),fun g3 => go 300 ?_⟩
   refine ⟨fun g4 => absurd (lt_of g4) (by simp),fun g4 => go 300 ?_⟩
   refine ⟨fun g4 => go 300 ?_,fun g4 => absurd (not_lt_of g4) (by simp;omega)⟩
   refine ⟨by decide,by decide,by simp;omega,?_⟩
   show CallThen _ _ _ _ _ _
   refine call_pure c1 rfl ?_
   rintro x rfl
   refine ⟨fun g5 => go 300 ?_,fun g5 => go 300 ?_⟩
   ·have g5:=ne_of' g5
    rw [decide_eq_false g5] at h
    simp only [Bool.not_false,cond_true,Option.some.injEq] at h
    exact ⟨trivial,rfl,rfl,rfl,bothZ' h.symm⟩
   have g5:=eq_of' g5
   subst g5
   simp only [decide_true,Bool.not_true,cond_false] at h
   obtain ⟨r2,h2⟩ : ∃ r2,bringF prior n x1 (b' :: ys) = r2:=⟨_,rfl⟩
   rw [h2] at h
   match r2,h2,h with
   | none,_,h => cases h
   | some (z,w,e2),h2,h =>
   simp only at h
   have c2:=w_bring prior n _ _ _ h2 o1 oy.tail
   refine ⟨by decide,by simp only [List.length_map,List.length_cons];omega,Int.le_refl _,?_⟩
   show CallThen _ _ _ _ _ _
   refine call_pure (pure_args c2 ⟨.refl _,Wk.of_eq (cut1 b (b' :: ys)),.refl _,trivial⟩ rfl rfl) rfl ?_
   rintro x rfl
   refine ⟨fun g6 => go 300 ?_,fun g6 => go 300 ?_⟩
   ·have g6:=ne_of' g6
    rw [decide_eq_false g6] at h
    simp only [Bool.not_false,cond_true,Option.some.injEq] at h
    exact ⟨trivial,rfl,rfl,rfl,bothZ' h.symm⟩
   have g6:=eq_of' g6
   subst g6
   simp only [decide_true,Bool.not_true,cond_false] at h
   have i1:=(bringF_inv prior n _ _ _ _ h1).s
   have i2:=(bringF_inv prior n _ _ _ _ h2).s
   simp only [List.length_cons,List.length_nil] at i1 i2 hlen
   refine ⟨⟨rfl,rfl,trivial⟩,?_⟩
   show CallThen _ _ _ _ _ _
   refine call_pure_frz ?_
   refine ⟨rfl,rfl,_,w_Concat2 y1 w (by omega),rfl,?_⟩
   rintro x rfl
   refine ⟨⟨rfl,rfl,trivial⟩,?_⟩
   show CallThen _ _ _ _ _ _
   refine call_pure_frz ?_
   refine ⟨rfl,rfl,_,w_much2 z (y1 ++ w),rfl,?_⟩
   rintro x rfl
   refine ⟨fun g7 => go 300 ?_,fun g7 => go 300 ?_⟩
   ·have g7 : muchP z (y1 ++ w) = false:=by simpa using g7
    rw [g7] at h
    simp only [cond_false,Option.some.injEq] at h
    exact ⟨trivial,rfl,rfl,rfl,BothV (z,y1 ++ w,0),Wk.refl _,rfl,by rw [h]⟩
   ·have g7 : muchP z (y1 ++ w) = true:=by simpa using g7
    rw [g7] at h
    simp only [cond_true,Option.some.injEq] at h
    exact ⟨trivial,rfl,rfl,rfl,bothZ' h.symm⟩
theorem bringX_inv (prior : Bool) (xs ys : List OpT) : (bringX prior xs ys).1.length + (bringX prior xs ys).2.1.length ≤ xs.length + ys.length:=by
 obtain ⟨n,h⟩:=bringX_spec prior xs ys
 obtain ⟨⟨x,y,e⟩,hr⟩ : ∃ r,bringX prior xs ys = r:=⟨_,rfl⟩
 rw [hr] at h ⊢
 by_cases he : e = 0
 ·subst he
  exact (bringF_inv prior n _ _ _ _ h).s
 ·obtain ⟨q1,q2⟩:=bringF_err h he
  simp only [q1,q2,List.length_nil]
  omega
theorem bringX_okL {prior : Bool} {xs ys : List OpT} (ox : OkL xs) (oy : OkL ys) : OkL (bringX prior xs ys).1 ∧ OkL (bringX prior xs ys).2.1:=by
 obtain ⟨n,h⟩:=bringX_spec prior xs ys
 exact bringF_okL prior n _ _ _ h ox oy
theorem bareL_len (l : List OpT) : (bareL l).length = l.length:=by simp [bareL]
theorem bareL_okL {l : List OpT} (h : OkL l) : OkL (bareL l):=fun o ho => by
 obtain ⟨o',h1,rfl⟩:=List.mem_map.1 ho
 refine ⟨bare_ok (h o' h1).1,?_⟩
 have:=(h o' h1).2
 unfold bareO
 cases o'.kind == 1 <;> cases o'.kind == 2 <;> cases o'.kind == 3 <;> cases o'.kind == 4 <;> cases o'.kind == 5 <;> cases o'.kind == 6 <;> simp [noOp] <;> omega
set_option maxRecDepth 100000 in
theorem w_listsBoth (xs ys : List OpT) (prior : Bool) (ox : OkL xs) (oy : OkL ys) (hl : xs.length + ys.length ≤ 1000000) : Pure Tryz.prog 77 [opsV xs,opsV ys,.bool prior] (fun x => x = BothV (listsX prior xs ys)):=by
 obtain ⟨n,h⟩:=bringX_spec prior xs ys
 have cb:=w_bring prior n xs ys _ h ox oy
 have hi:=bringX_inv prior xs ys
 obtain ⟨o1,o2⟩:=bringX_okL (prior:=prior) ox oy
 refine pure_fn 300 Tryz.func77 rfl rfl rfl fun B => ?_
 show CallThen _ _ _ _ _ _
 refine call_pure cb rfl ?_
 rintro x rfl
 show CallThen _ _ _ _ _ _
 refine call_pure (w_lbare _ (by omega) (fun o ho => (o1 o ho).1.lt)) rfl ?_
 rintro x rfl
 show CallThen _ _ _ _ _ _
 refine call_pure (w_lbare _ (by omega) (fun o ho => (o2 o ho).1.lt)) rfl ?_
 rintro x rfl
 exact ⟨trivial,rfl,rfl,rfl,rfl⟩
end Bow
/- W66: the laws of chapter 13: what they use; the examples; which lists say the same. -/
namespace Bow
open Go Go.Proofs
end Bow
/- W68: which lists say the same; chapter 13's few. -/
namespace Bow
open Go Go.Proofs
def sameL : List OpT → List OpT → Bool
 | [],[] => true
 | a :: x,b :: y => sameO a b && sameL x y
 | _,_ => false
theorem sameL_len : ∀ {x y : List OpT},x.length ≠ y.length → sameL x y = false
 | [],[],h => absurd rfl h
 | [],_ :: _,_ => rfl
 | _ :: _,[],_ => rfl
 | a :: x,b :: y,h => by
  rw [sameL,sameL_len (x:=x) (y:=y) (fun e => h (by simp [e])),Bool.and_false]
theorem sameL_drop {x y : List OpT} {i : Nat} (h : i < x.length) (h' : i < y.length) : sameL (x.drop i) (y.drop i) = (sameO x[i] y[i] && sameL (x.drop (i + 1)) (y.drop (i + 1))):=by
 rw [List.drop_eq_getElem_cons h,List.drop_eq_getElem_cons h',sameL]
theorem op_at {l : List OpT} {i : Nat} (h : i < l.length) : (l.map opV)[i]? = some (opV l[i]):=by simp [h]
set_option maxRecDepth 100000 in
theorem w_ref13Same (x y : List OpT) (hl : x.length ≤ 1000000) (hx : ∀ o ∈ x,o.Lt 1000000) (hy : ∀ o ∈ y,o.Lt 1000000) : Pure Tryz.prog 22 [opsV x,opsV y] (fun v => v = .bool (sameL x y)):=by
 refine pure_wk (pure_fn 300 Tryz.func22 rfl rfl rfl fun B => ?_)
 refine ⟨fun g => go 300 ?_,fun g => go 300 ?_⟩
 ·have:=ne_of' g
  exact ⟨trivial,rfl,rfl,rfl,leaf_ff (sameL_len fun e => this (by simp [e]))⟩
 have hlen : x.length = y.length:=by have:=eq_of' g;simp at this;omega
 show Goes _ _ _ _
 refine goes_iter (ι:=Nat) (fun i => i ≤ x.length ∧ sameL x y = sameL (x.drop i) (y.drop i)) (fun i => x.length - i) (fun i => [(5,.int .i64 i),(0,opsV x),(1,opsV y)]) (fun _ => []) 0 300 (fun _ => rfl) (fun _ => rfl) ⟨⟨Nat.zero_le _,rfl⟩,⟨⟨rfl,rfl⟩,⟨rfl,rfl⟩,⟨rfl,rfl⟩,trivial⟩,trivial⟩ ?_
 rintro i ⟨k1,k2⟩ next
 refine ⟨fun hlt => go 300 ?_,fun hge => go 300 ?_⟩
 ·have hi : i < x.length:=by have:=lt_of hlt;simp at this;omega
  have hi' : i < y.length:=by omega
  show Goes _ _ _ _
  refine goes_draw 300 ⟨Int.natCast_nonneg i,_,op_at hi,Int.natCast_nonneg i,_,op_at hi',_,w_refSameO x[i] y[i] (hx _ (List.getElem_mem hi)) (hy _ (List.getElem_mem hi')),rfl,?_⟩
  rw [sameL_drop hi hi'] at k2
  refine ⟨by kernel_rfl,?_⟩
  refine ⟨fun g1 => go 300 ?_,fun g1 => go 300 ?_⟩
  ·have g1 : sameO x[i] y[i] = false:=by simpa using g1
   exact ⟨trivial,rfl,rfl,rfl,leaf_ff (by rw [k2,g1];rfl)⟩
  have g1 : sameO x[i] y[i] = true:=by simpa using g1
  refine ⟨by constructor <;> omega,?_⟩
  show Goes _ _ _ _
  refine next (i + 1) _ _ ⟨⟨hi,by rw [k2,g1,Bool.true_and]⟩,by omega,⟨⟨rfl,rfl⟩,⟨rfl,rfl⟩,⟨rfl,rfl⟩,trivial⟩,trivial⟩
 ·have hi : i = x.length:=by have:=not_lt_of hge;simp at this;omega
  refine ⟨trivial,rfl,rfl,rfl,leaf_tt ?_⟩
  rw [k2,List.drop_of_length_le (by omega),List.drop_of_length_le (by omega)]
  rfl
theorem sameO_refl (o : OpT) : sameO o o = true:=by
 unfold sameO eqO
 simp
theorem sameL_refl : ∀ l : List OpT,sameL l l = true
 | [] => rfl
 | o :: l => by rw [sameL,sameO_refl,sameL_refl l];rfl
end Bow
/- W69: the laws ListsSame and ListsJoined, walked. -/
namespace Bow
open Go Go.Proofs
theorem lt_mono {o : OpT} {a b : Nat} (h : o.Lt a) (hab : a ≤ b) : o.Lt b:=⟨Nat.le_trans h.path hab,Nat.le_trans h.to hab,Nat.le_trans h.label hab,Nat.le_trans h.key hab,Nat.le_trans h.value hab,Nat.le_trans h.pieces hab⟩
theorem lightL_ok {l : List OpT} {c : Nat} (h : LightL l c 60) : OkL l:=fun o ho => by
 obtain ⟨h1,h2⟩:=h.ops o ho
 have:=h1.to
 exact ⟨⟨lt_mono h1 (by decide),by omega⟩,by omega⟩
end Bow
/- AE43: own memory that stands elsewhere, read: its length, an element's place, what lies there; pointers held against nil; a range over a function that holds own objects. -/
namespace Bow
open Go
section
variable {c : Cx} {E : Env} {T : Heap} {ops : Array Oper} {i : Nat} {rest : List Nat} {k : List Item} {o : Oper}
theorem run_ptreq {P : Program} {t e : TypeId} (ht : P.underlying t = some (.pointer e)) (a : Option Addr) (w : World) : (binOp .eql t (.pointer a) (.pointer none)).run P w = .ok (.bool a.isNone) w ∧ (binOp .neq t (.pointer a) (.pointer none)).run P w = .ok (.bool (!a.isNone)) w:=by
 have heq : (Op.equal t (.pointer a) (.pointer none)).run P w = .ok a.isNone w:=by
  unfold Op.equal Op.maxDepth Op.equalIn
  cases a <;> simp [Sem.run_bind,run_underlying ht]
 constructor
 ·unfold binOp
  simp only [Sem.run_bind,heq]
  simp
 ·unfold binOp
  simp only [Sem.run_bind,heq]
  simp
theorem goes_nileqP {t t' e : TypeId} {x : Operand} (n : Nat) (ho : lget ops.toList i = some o) (hg : o.guard = none) (hop : o.op = .binOp .eql t x (.const (.pointer none)) t') (hx : opd E x = .nilp) (ht : tyU c.P t = some (.pointer e))
  (h : putE c.nt o.dst .tt E False fun E' => evp c n (.inRegion ops rest :: k) E' T) : Goes c (.inRegion ops (i :: rest) :: k) E T:=by
 refine goes_opTo n ho hg hop (OpTo.still fun o hop w β H m a hs => ⟨.bool true,?_,.tt⟩) (fun cl h => by cases h) h
 have hr:=opd_rep hs x
 simp only [hx,V.conv] at hr
 generalize hq : a.eval x = q at hr
 cases hr
 have e2 : a.eval (.const (.pointer none)) = .pointer none:=rfl
 have hgd : (eqGuard .eql t x (.const (.pointer none)) (.pointer none) (.pointer none)).run c.P w = .ok () w:=by simp [eqGuard]
 simp only [execOp,hop,hq,e2,Sem.run_bind,hgd,Result.andThen_ok,(run_ptreq (tyU_sound ht) none w).1]
 rfl
theorem goes_ptrP {t t' e : TypeId} {x : Operand} {kb off : Nat} {cs : List V} (n : Nat) (ho : lget ops.toList i = some o) (hg : o.guard = none) (hop : o.op = .binOp .eql t x (.const (.pointer none)) t') (hx : opd E x = .ptr (.loc kb) off) (hk : lget T kb = some (some (.box cs))) (ht : tyU c.P t = some (.pointer e))
  (h : putE c.nt o.dst .ff E False fun E' => evp c n (.inRegion ops rest :: k) E' T) : Goes c (.inRegion ops (i :: rest) :: k) E T:=by
 rw [lget_eq] at hk
 refine goes_opTo n ho hg hop (OpTo.still fun o hop w β H m a hs => ⟨.bool false,?_,.ff⟩) (fun cl h => by cases h) h
 have hr:=opd_rep hs x
 obtain ⟨r,hrm,hH⟩:=hs.at hk
 simp only [hx,V.conv,Ref.conv,hrm] at hr
 generalize hq : a.eval x = q at hr
 cases hr with
 | ptrLive _ _ b N cs' hH' hβ =>
  have e2 : a.eval (.const (.pointer none)) = .pointer none:=rfl
  have hgd : (eqGuard .eql t x (.const (.pointer none)) (.pointer (some ⟨b,off,none⟩)) (.pointer none)).run c.P w = .ok () w:=by simp [eqGuard]
  simp only [execOp,hop,hq,e2,Sem.run_bind,hgd,Result.andThen_ok,(run_ptreq (tyU_sound ht) (some ⟨b,off,none⟩) w).1]
  rfl
 | ptrDead _ _ _ hd => rw [hH] at hd;cases hd
end
end Bow
/- AE44: regions that draw their order and hold a call that hands back own memory. -/
namespace Bow
open Go
theorem fact_call_make {c : Cx} {ops : Array Oper} {i : Nat} {o : Oper} {E : Env} {T : Heap} {gs : List Tmp} {f : Operand} {args : Array Operand} {ts : Array TypeId} {g : FuncId} {first cap : List V} {p sz : Nat} {xs : List V} (ho : ops[i]? = some o) (hg : Guarded ops o E gs true)
  (hop : o.op = .call { callee:=.value f,args:=args,argTypes:=ts }) (hf : opd E f = .fn (.func g) first cap) (ha : V.pureL (first ++ args.toList.map (opd E) ++ cap) = true) (hd : T[p]? = some (some (.vec 0 0 [])))
  (h : Fun c.P g [] (first ++ args.toList.map (opd E) ++ cap) fun x T' => ∃ g0,x = .osl (.loc 0) g0 0 xs.length ∧ T' = [some (.vec g0 sz xs)]) :
  Fact c ops i E T ⟨o.dst,gs ++ tmpsOf o.op.operands.toList,[],.osl (.loc p) 2 0 xs.length,[(p,some (.vec 2 sz xs))],some p⟩:=by
 intro E' T' e1 e2 e3 w β H m a b cs rest k hs b1 b2 b4
 obtain ⟨q,q1,q2,q3⟩:=b4 p rfl
 have hag:=opd_agree (E:=E) (E':=E') (xs:=o.op.operands.toList) fun t ht => e2 t (List.mem_append_right _ ht)
 rw [hop] at hag
 have hf' : opd E' f = .fn (.func g) first cap:=by rw [hag f (by simp [Op.operands,Call.operands])];exact hf
 have ha' : args.toList.map (opd E') = args.toList.map (opd E):=List.map_congr_left fun z hz => hag z (by simp [Op.operands,Call.operands];exact .inr (by simpa using hz))
 obtain ⟨va,vc,hq,hl,hr⟩:=fn_rep hs hf' args
 rw [ha'] at hl hr
 unfold Fun at h
 obtain ⟨hen,h⟩:=h
 have hs0 : SRel [] 0 w β H [] ⟨[],[],fun r => (H[r]?).getD none,[]⟩ bare:=by
  refine ⟨hs.hrel,rfl,fun k => by simp [lk,V.conv];exact .undef _,rfl,List.nodup_nil,by simp,rfl,fun r h _ => ?_,fun r h1 => ?_,by simp,by simp,by simp,rfl,by simp⟩
  ·simp [h]
  ·simp [List.getElem?_eq_none h1]
 obtain ⟨x,T1,v,w',β',H',m',fr,⟨g0,rfl,rfl⟩,k1,k2,k3,k4,k5,k6⟩:=h w β H [] _ _ (b.atR a (.inRegion ops (i :: rest) :: k) :: cs) hs0 hl (fun j x v hj hv => by
  have h1:=hr j x v hj hv
  have hx:=pureL_mem' _ ha x (List.mem_of_getElem? hj)
  rw [pure_conv _ _ hx] at h1 ⊢
  exact h1)
 have hm1 : m'.length = 1:=k1.mlen
 obtain ⟨r',rfl⟩ : ∃ r',m' = [r']:=by
  match m',hm1 with
  | [r'],_ => exact ⟨r',rfl⟩
 have hr' : H'[r']? = some (some (.vec g0 sz xs)):=k1.loc 0 r' _ rfl rfl
 have hr'l:=lt_of_get hr'
 have hnew : H.length ≤ r':=by
  rcases Nat.lt_or_ge r' H.length with h1 | h1
  ·exfalso
   obtain ⟨o1,ho1,_⟩:=k2.evo r' _ h1 hr'
   have h2 : (H[r']?).getD none = none:=k1.own 0 r' (Nat.zero_le _) rfl
   rw [ho1] at h2
   cases h2
  ·exact h1
 have hql:=hs.lt q1
 have hqr : q ≠ r':=fun e => by omega
 have hHq : H[q]? = some (some (.vec 0 0 [])):=hs.loc p q _ q1 (q3.trans hd)
 have hlen : H.length ≤ H'.length:=k2.len
 have hbase : ∀ r,r < H'.length → r ≠ r' → H'[r]? = some ((H[r]?).getD none):=fun r hr hne => k1.base r hr (by simpa using hne)
 have hold : ∀ r,r < H.length → H'[r]? = H[r]?:=fun r hr => by
  rw [hbase r (Nat.lt_of_lt_of_le hr hlen) (by omega)]
  simp [hr]
 have hH'q : H'[q]? = some (some (.vec 0 0 [])):=by rw [hold q hql];exact hHq
 have hβ'q : β' q = .none:=k2.virt q hql q2
 have hob:=k1.hrel.obj r' _ hr'
 obtain ⟨H2,hH2⟩ : ∃ H2 : Heap,H2 = (H'.set r' none).set q (some (.vec 2 sz xs)):=⟨_,rfl⟩
 obtain ⟨β2,hβ2⟩ : ∃ β2 : Nat → Loc,β2 = upd β' q (β' r'):=⟨_,rfl⟩
 have hβq : β2 q = β' r':=by rw [hβ2];exact upd_same _ _ _
 have hβn : ∀ r,r ≠ q → β2 r = β' r:=fun r hr => by rw [hβ2];exact upd_ne hr
 have hH2l : H2.length = H'.length:=by rw [hH2];simp
 have hH2q : H2[q]? = some (some (.vec 2 sz xs)):=by rw [hH2];exact List.getElem?_set_self (by simp;omega)
 have hH2r : H2[r']? = some none:=by rw [hH2,List.getElem?_set_ne hqr,List.getElem?_set_self hr'l]
 have hH2n : ∀ r,r ≠ q → r ≠ r' → H2[r]? = H'[r]?:=fun r h1 h2 => by rw [hH2,List.getElem?_set_ne (fun e => h1 e.symm),List.getElem?_set_ne (fun e => h2 e.symm)]
 have hcase : ∀ (r : Nat) (o : HObj),H2[r]? = some (some o) → (r = q ∧ o = .vec 2 sz xs) ∨ (r ≠ q ∧ r ≠ r' ∧ H'[r]? = some (some o)):=fun r o hr => by
  by_cases h1 : r = q
  ·subst h1
   rw [hH2q] at hr
   injection hr with hr
   injection hr with hr
   exact .inl ⟨rfl,hr.symm⟩
  ·by_cases h2 : r = r'
   ·subst h2
    rw [hH2r] at hr
    cases hr
   ·rw [hH2n r h1 h2] at hr
    exact .inr ⟨h1,h2,hr⟩
 have f : Fr0 w' β' H' w' β2 H2:=by
  refine ⟨rfl,rfl,rfl,Nat.le_refl _,by rw [hH2l];exact Nat.le_refl _,?_,fun _ _ _ => rfl,?_,fun r hr => hβn r (hr.ne hH'q (fun h => h)),fun r s hs => ?_⟩
  ·intro r o' _ ho'
   rcases hcase r o' ho' with ⟨rfl,rfl⟩ | ⟨h1,_,h3⟩
   ·exact ⟨_,hH'q,⟨Nat.zero_le _,fun e => by omega⟩,fun hn => absurd hβ'q hn⟩
   ·exact ⟨o',h3,Evo.refl _,fun _ _ => hβn r h1⟩
  ·rintro bb ⟨r,M,⟨o',hl',hln⟩,hb⟩
   rcases hcase r o' hl' with ⟨rfl,_⟩ | ⟨h1,_,h3⟩
   ·rw [hβq] at hb
    exact .inr ⟨r',M,⟨_,hr',fun h => h⟩,hb⟩
   ·rw [hβn r h1] at hb
    exact .inr ⟨r,M,⟨_,h3,hln⟩,hb⟩
  ·rcases hcase r _ hs with ⟨_,h2⟩ | ⟨h1,_,h3⟩
   ·cases h2
   ·exact ⟨h3,hβn r h1⟩
 have hrel : HRel w' β2 H2:=by
  refine k1.hrel.step0 f ?_ ?_
  ·intro r o' ho'
   rcases hcase r o' ho' with ⟨rfl,rfl⟩ | ⟨h1,_,h3⟩
   ·refine .inr ?_
    rw [hβq]
    cases hb : β' r' with
    | none => trivial
    | nil => rw [hb] at hob;exact hob
    | blk bb N =>
     rw [hb] at hob
     obtain ⟨vs,e,_,c2,c3,c4,c5,c6,c7⟩:=hob
     exact ⟨vs,e,tyG_two _,c2,c3,c4,c5,c6,fun i x j c v h1 h2 h3 => (c7 i x j c v h1 h2 h3).mono0 f⟩
   ·exact .inl ⟨h3,hβn r h1,fun _ _ _ => rfl⟩
  ·rintro r s bb M M' ⟨o1,h1⟩ ⟨o2,h2⟩ hb hb'
   rcases hcase r o1 h1 with ⟨rfl,_⟩ | ⟨n1,n2,l1⟩
   ·rcases hcase s o2 h2 with ⟨rfl,_⟩ | ⟨n3,n4,l2⟩
    ·rfl
    ·rw [hβq] at hb
     rw [hβn s n3] at hb'
     exact absurd (k1.hrel.inj r' s bb M M' ⟨_,hr'⟩ ⟨_,l2⟩ hb hb').symm n4
   ·rcases hcase s o2 h2 with ⟨rfl,_⟩ | ⟨n3,n4,l2⟩
    ·rw [hβq] at hb'
     rw [hβn r n1] at hb
     exact absurd (k1.hrel.inj r r' bb M M' ⟨_,l1⟩ ⟨_,hr'⟩ hb hb') n2
    ·rw [hβn r n1] at hb
     rw [hβn s n3] at hb'
     exact k1.hrel.inj r s bb M M' ⟨_,l1⟩ ⟨_,l2⟩ hb hb'
 have ft : Fr0 w β H w' β2 H2:=k2.toFr0.trans f
 have hml : m.length = T'.length:=hs.mlen
 have hpT : p < T'.length:=by have:=lt_of_get q1;omega
 have hT'p : T'[p]? = some (some (.vec 0 0 [])):=q3.trans hd
 have hsr : SRel c.imps c.nt w' β2 H2 m ⟨E',T'.set p (some (.vec 2 sz xs)),c.B,c.D⟩ a:=by
  refine ⟨hrel,hs.size,fun k => (hs.env k).mono0 ft,by simpa using hml,hs.nodup,fun j r ob hj hob' => ?_,hs.imp,fun r hr hm => ?_,fun r hr => hs.fut r (by omega),hs.own,fun p hp => by simpa using hs.scE p hp,fun j ob hob' => ?_,hs.defs,fun j n hj => ?_⟩
  ·by_cases hjp : j = p
   ·subst hjp
    rw [q1] at hj
    injection hj with hj
    subst hj
    simp only at hob'
    rw [List.getElem?_set_self hpT] at hob'
    injection hob' with hob'
    subst hob'
    exact hH2q
   ·simp only at hob'
    rw [List.getElem?_set_ne (fun e => hjp e.symm)] at hob'
    have hrq : r ≠ q:=fun e => hjp (hs.inj hj (e ▸ q1))
    have hrl:=hs.lt hj
    rw [hH2n r hrq (by omega),hold r hrl]
    exact hs.loc j r ob hj hob'
  ·have hrq : r ≠ q:=fun e => hm (e ▸ List.mem_of_getElem? q1)
   by_cases hrr : r = r'
   ·subst hrr
    have : c.B r = none:=hs.fut r hnew
    simp only
    rw [hH2r,this]
   ·rw [hH2n r hrq hrr]
    rcases Nat.lt_or_ge r H.length with h1 | h1
    ·rw [hold r h1]
     exact hs.base r h1 hm
    ·have : c.B r = none:=hs.fut r h1
     simp only
     rw [hbase r (by omega) hrr,this,List.getElem?_eq_none h1]
     rfl
  ·simp only [List.length_set] at hob' ⊢
   by_cases hjp : j = p
   ·subst hjp
    rw [List.getElem?_set_self hpT] at hob'
    injection hob' with hob'
    injection hob' with hob'
    subst hob'
    trivial
   ·rw [List.getElem?_set_ne (fun e => hjp e.symm)] at hob'
    exact hs.scT j ob hob'
  ·obtain ⟨r,b',N',d1,d2,d3,d4⟩:=hs.marks j n hj
   have hnp : n ≠ p:=fun e => by
    subst e
    simp only at d2
    rw [hT'p] at d2
    cases d2
   have hrq : r ≠ q:=fun e => hnp (hs.inj d1 (e ▸ q1))
   refine ⟨r,b',N',d1,by simp only;rw [List.getElem?_set_ne (fun e => hnp e.symm)];exact d2,?_,d4⟩
   rw [hβn r hrq]
   have hH0:=hs.loc n r _ d1 d2
   exact dfr_stays k2 (by simpa [HObj.conv] using hH0) d3 (by rw [hold r (hs.lt d1),hH0];rfl)
 refine ⟨v,w',β2,H2,call_steps ho (hg.wanted (fun t ht => e2 t (List.mem_append_left _ ht)) hs) hop hq hen k4 k6,hsr,ft,fun s hsl hn hne => ?_,?_⟩
 ·have hsq : s ≠ q:=fun e => hne p rfl (e ▸ q1)
  rw [hβn s hsq]
  exact k2.virt s hsl hn
 ·simp only [V.conv,Ref.conv,q1]
  simp only [V.conv,Ref.conv,List.getElem?_cons_zero] at k3
  have hv : ∀ g2 sz2 xs2,H'[r']? = some (some (.vec g2 sz2 xs2)) → g2 = g0 ∧ sz2 = sz ∧ xs2 = xs:=fun g2 sz2 xs2 h2 => by
   rw [hr'] at h2
   injection h2 with h2
   injection h2 with h2
   injection h2 with e0 e1 e2
   exact ⟨e0.symm,e1.symm,e2.symm⟩
  generalize hn : xs.length = n at k3
  cases k3 with
  | oslNil _ _ sz2 xs2 ad hH' hβ =>
   exact .oslNil q 2 sz xs ad hH2q (hβq.trans hβ)
  | oslBlk _ _ _ _ sz2 xs2 bb N ad cap' hH' hβ hl' hN hcap ha hlen' =>
   obtain ⟨_,rfl,rfl⟩:=hv _ _ _ hH'
   exact .oslBlk q 2 0 n sz2 xs2 bb N ad cap' hH2q (hβq.trans hβ) hl' hN hcap ha hlen'
  | oslStale _ _ _ _ g' sz' xs' _ hH' hg' =>
   obtain ⟨e,_,_⟩:=hv _ _ _ hH'
   omega
  | oslDead _ _ _ _ _ hd' => rw [hr'] at hd';cases hd'
def isMk (mk : List FuncId) : Op → Bool
 | .call { callee:=.value (.func h),.. } => memN mk h
 | _ => false
def evdN (mk : List FuncId) (c : Cx) (ops : List Oper) (gt : List Tmp) : List Oper → Nat → Env → Heap → (Env → Heap → List Sig → Prop) → Prop
 | [],_,E,T,K => K E T []
 | o :: os,p,E,T,K =>
  let next (x : V) (T' : Heap) (g touch keys : List Nat) : Prop:=bif (makesS o.op || isMk mk o.op) then putR c.nt gt o.dst x E fun E' => evdN mk c ops gt os (p + 1) E' T' fun En Tn ss => K En Tn (⟨o.dst,g,touch,keys⟩ :: ss) else putR c.nt gt o.dst x E fun E' => evdN mk c ops gt os p E' T' fun En Tn ss => K En Tn (⟨o.dst,g,touch,keys⟩ :: ss)
  gK ops o E (fun g => next (.tup []) T g [] []) fun g =>
   lfix (g ++ tmpsOf o.op.operands.toList) fun g =>
   bif makes E o.op then evMk c o.op E T p fun x ob kills tc => lfix tc fun tc => lfix (keysOf kills) fun ks => appC T (kills ++ [(p,some ob)]) fun T' => next x T' g (p :: tc) (p :: ks)
   else bif isMk mk o.op then match o.op with
    | .call { callee:=.value f,args,.. } => match opd E f with
     | .fn (.func h) first cap => opds E args.toList fun vs => ∃ (sz : Nat) (xs : List V),Fun c.P h [] (first ++ vs ++ cap) (fun x T' => ∃ g0,x = .osl (.loc 0) g0 0 xs.length ∧ T' = [some (.vec g0 sz xs)]) ∧ V.pureL (first ++ vs ++ cap) = true ∧ lget T p = some (some (.vec 0 0 [])) ∧
      appC T [(p,some (.vec 2 sz xs))] fun T' => next (.osl (.loc p) 2 0 xs.length) T' g [p] [p]
     | _ => False
    | _ => False
   else match o.op with
    | .call { callee:=.value f,args,.. } => match opd E f with
     | .fn (.func h) first cap => opds E args.toList fun vs => frzAll (first ++ vs ++ cap) T False fun ws _ => lfix (keysOf (killsOf (first ++ vs ++ cap))) fun ks =>
      ∃ x,Pure c.P h ws (fun y => y = x) ∧ V.pureL ws = true ∧ bif flatB x then next x T g ks [] else appC T (killsOf (first ++ vs ++ cap)) fun T' => next x T' g ks ks
     | _ => False
    | op => evOp c op E T False fun x T' => lfix (touch E op) fun tc => lfix (wr E op) fun ks => next x T' g tc ks
theorem evdN_sound {mk : List FuncId} {c : Cx} {ops : Array Oper} {gt : List Tmp} : ∀ (os : List Oper) (i p : Nat) (E : Env) (T : Heap) (K : Env → Heap → List Sig → Prop),evdN mk c ops.toList gt os p E T K → (∀ k,os[k]? = ops[i + k]?) → i + os.length = ops.size →
  ∃ rs ss En Tn,RunP c ops i p E T rs ss En Tn ∧ K En Tn ss
 | [],i,p,E,T,K,h,_,hi => ⟨[],[],E,T,⟨by simpa using hi,rfl,rfl⟩,h⟩
 | o :: os,i,p,E,T,K,h,hos,hi => by
  unfold evdN at h
  extract_lets next at h
  have ho : ops[i]? = some o:=by have:=hos 0;simpa using this.symm
  have hos' : ∀ k,os[k]? = ops[i + 1 + k]?:=fun k => by have:=hos (k + 1);rw [List.getElem?_cons_succ] at this;rw [this,sa]
  have hi' : i + 1 + os.length = ops.size:=by simp at hi;omega
  have hlt : i < ops.size:=by simp at hi;omega
  have go : ∀ (r : Rec) (g tc ks : List Nat),Fact c ops i E T r → r.dst = o.dst → next r.x (app T r.eff) g tc ks → (∀ t ∈ r.reads,t ∈ g) → (∀ k ∈ r.touch,k ∈ tc) → (∀ k ∈ keysOf r.eff,k ∈ ks) →
    (∀ q,r.virt = some q → q = p ∧ p ∈ tc ∧ p < T.length ∧ (makesS o.op || isMk mk o.op) = true) → ∃ rs ss En Tn,RunP c ops i p E T rs ss En Tn ∧ K En Tn ss:=by
   intro r g tc ks hf hd hn h1 h2 h3 h4
   have hn : putR c.nt gt o.dst r.x E fun E' => evdN mk c ops.toList gt os (bif (makesS o.op || isMk mk o.op) then p + 1 else p) E' (app T r.eff) fun En Tn ss => K En Tn (⟨o.dst,g,tc,ks⟩ :: ss):=by
    have h0:=hn
    simp only [next] at h0
    cases hm : (makesS o.op || isMk mk o.op) <;> (rw [hm] at h0;exact h0)
   obtain ⟨x',hk,hdst,hx⟩:=putR_sound hn
   obtain ⟨rs,ss,En,Tn,k1,k2⟩:=evdN_sound os (i + 1) _ _ _ _ hk hos' hi'
   refine ⟨{ r with x:=x' } :: rs,⟨o.dst,g,tc,ks⟩ :: ss,En,Tn,⟨hf.put hx,by rw [hd];exact hdst,⟨hd.symm,h1,h2,h3,fun q hq => ?_⟩,hlt,(bif (makesS o.op || isMk mk o.op) then p + 1 else p),?_,?_,?_⟩,k2⟩
   ·obtain ⟨e,hp,_⟩:=h4 q hq
    rw [e]
    exact hp
   ·cases (makesS o.op || isMk mk o.op) <;> simp
   ·intro q hq
    obtain ⟨e,_,hp,hm⟩:=h4 q hq
    rw [hm]
    exact ⟨e,Nat.le_refl _,hp⟩
   ·rw [hd]
    exact k1
  rcases gK_sound h with ⟨gs,hg,h⟩ | ⟨gs,hg,h⟩
  ·exact go _ gs [] [] (fact_skip ho hg) rfl h (fun t ht => ht) (fun k hk => hk) (fun k hk => hk) (fun q hq => by cases hq)
  ·rw [lfix_eq] at h
   cases hm : makes E o.op with
   | true =>
    rw [hm] at h
    simp only [cond_true] at h
    obtain ⟨x,ob,kills,tc,hk,hf,hp⟩:=fact_mk (gs:=gs) ho hg h
    rw [lfix_eq,lfix_eq,appC_eq] at hk
    refine go _ _ _ _ hf rfl hk (fun t ht => ht) (fun k hk => List.mem_cons_of_mem _ hk) (fun k hk => ?_) (fun q hq => ?_)
    ·rw [keysOf_append] at hk
     rcases List.mem_append.1 hk with h | h
     ·exact List.mem_cons_of_mem _ h
     ·simp only [keysOf,List.mem_singleton] at h
      rw [h]
      exact List.mem_cons_self
    ·injection hq with hq
     subst hq
     exact ⟨rfl,List.mem_cons_self,hp,by rw [makes_S hm];rfl⟩
   | false =>
    rw [hm] at h
    simp only [cond_false] at h
    cases hmk : isMk mk o.op with
    | true =>
     simp only [hmk,cond_true] at h
     split at h
     ·rename_i f args ts hop
      split at h
      ·rename_i h' first cap hfv
       rw [opds_eq] at h
       obtain ⟨sz,xs,hfu,hpl,hlp,hk⟩:=h
       rw [appC_eq] at hk
       rw [lget_eq] at hlp
       exact go _ _ _ _ (fact_call_make ho hg hop hfv hpl hlp hfu) rfl hk (fun t ht => ht) (fun k hk => by cases hk) (fun k hk => hk) (fun q hq => by
        injection hq with hq
        subst hq
        exact ⟨rfl,List.mem_singleton.2 rfl,lt_of_get hlp,by rw [hmk];simp⟩)
      ·exact h.elim
     ·exact h.elim
    | false =>
    simp only [hmk,cond_false] at h
    split at h
    ·rename_i f args ts hop
     split at h
     ·rename_i h' first cap hfv
      rw [opds_eq] at h
      rcases frzAll_det (F:=False) _ T _ h with h | ⟨ws,h,hdet⟩
      ·exact h.elim
      rw [lfix_eq] at h
      obtain ⟨x,hpu,hpl,hk⟩:=h
      cases hx : flatB x with
      | true =>
       rw [hx] at hk
       exact go _ _ _ _ (fact_call_flat ho hg hop hfv hpl hx hdet hpu) rfl hk (fun t ht => ht) (fun k hk => hk) (fun k hk => by cases hk) (fun q hq => by cases hq)
      | false =>
       rw [hx] at hk
       simp only [cond_false] at hk
       rw [appC_eq] at hk
       exact go _ _ _ _ (fact_call_frz ho hg hop hfv hpl hdet hpu) rfl hk (fun t ht => ht) (fun k hk => hk) (fun k hk => hk) (fun q hq => by cases hq)
     ·exact h.elim
    ·rcases fact_op ho hg hm h with h | ⟨x,eff,hk,hf,hw⟩
     ·exact h.elim
     rw [lfix_eq,lfix_eq] at hk
     refine go _ _ _ _ hf rfl hk (fun t ht => ht) (fun k hk => hk) (fun k hk => ?_) (fun q hq => by cases hq)
     have : ∀ (es : List (Nat × Option HObj)),k ∈ keysOf es → ∃ e ∈ es,e.1 = k:=by
      intro es
      induction es with
      | nil => intro h;cases h
      | cons e es ih =>
       intro h
       rcases List.mem_cons.1 h with rfl | h
       ·exact ⟨e,List.mem_cons_self,rfl⟩
       ·obtain ⟨e',h1,h2⟩:=ih h
        exact ⟨e',List.mem_cons_of_mem _ h1,h2⟩
     obtain ⟨e,he,rfl⟩:=this eff hk
     exact hw e he
def dumsN (mk : List FuncId) : List Oper → Heap
 | [] => []
 | o :: os => bif (makesS o.op || isMk mk o.op) then some (dummyOf o.op) :: dumsN mk os else dumsN mk os
theorem dumsN_mem (mk : List FuncId) : ∀ (os : List Oper) (x : Option HObj),x ∈ dumsN mk os → ∃ d,x = some d ∧ (d = .box [] ∨ d = .vec 0 0 [])
 | [],x,h => by cases h
 | o :: os,x,h => by
  rw [dumsN] at h
  cases hb : (makesS o.op || isMk mk o.op) with
  | false => rw [hb] at h;exact dumsN_mem mk os x h
  | true =>
   rw [hb] at h
   rcases List.mem_cons.1 h with rfl | h
   ·refine ⟨_,rfl,?_⟩
    unfold dummyOf
    split <;> simp
   ·exact dumsN_mem mk os x h
theorem goes_draw_ofN (mk : List FuncId) {c : Cx} {ops : Array Oper} {id : Nat} {k : List Item} {E : Env} {T : Heap} {rs : List Rec} {ss : List Sig} {En : Env} {Tn : Heap} (h : RunP c ops 0 T.length E (T ++ dumsN mk ops.toList) rs ss En Tn) (hc : chk ops.toList ss 0 [] [] = true) (hk : Goes c k En Tn) : Goes c (.code (.region id ops true) :: k) E T:=by
 obtain ⟨hG,rfl,rfl,hp⟩:=good_of_run h
 refine goes_step fun w β H m a b cs hs h1 h2 h3 => ?_
 have hsched : ∃ md t,Region.schedule (c.P.follows .mixedOrders) ops (w.tape w.drawn (.order b.fn id)) = Region.linearise md ops t:=by
  unfold Region.schedule
  split
  ·exact ⟨_,_,rfl⟩
  ·exact ⟨_,_,rfl⟩
 obtain ⟨md,t,hmd⟩:=hsched
 have hf0 : Fr w β H { w with drawn:=w.drawn + 1 } β H:=Fr.of_heap rfl rfl rfl rfl
 have hs0 : SRel c.imps c.nt { w with drawn:=w.drawn + 1 } β H m ⟨E,T,c.B,c.D⟩ a:=hs.same hf0 (hs.hrel.of_heap rfl rfl rfl rfl)
 obtain ⟨β1,H1,m1,k1,k2,k3,k4⟩:=reserveAll (dumsN mk ops.toList) (dumsN_mem mk _) hs0
 have hml : m1.length = (T ++ dumsN mk ops.toList).length:=k1.mlen
 have hzero : ∀ j,(fun _ : Nat => false) j = (Array.replicate ops.size false).getD j false:=fun j => by
  by_cases hj : j < ops.size
  ·simp [Array.getD,hj]
  ·simp [Array.getD,hj]
 obtain ⟨w2,β2,H2,a2,g1,g2,g3,g4⟩:=run_draw md hG hc k1.scE ops.size t (Array.replicate ops.size false) (fun _ => false) { w with drawn:=w.drawn + 1 } β1 H1 m1 a b cs k hzero (by simp)
  (by unfold unl;exact Nat.le_trans (List.length_filter_le _ _) (by simp)) (fun i hi => by cases hi) (by
   rw [envS_none _ _ _ fun _ _ => rfl,heapS_none _ _ _ fun _ _ => rfl]
   exact k1) (fun j r p hj _ hv => by
    obtain ⟨q,q1,q2,_⟩:=k4 p (hG.virt j r p hj hv) (by have:=hp j r p hj hv;simpa using this)
    exact ⟨q,q1,q2⟩) (fun j r _ hj => by cases hj) h1 h2
 refine ⟨w2,β2,H2,m1,a2,k,⟨_,_,c.B,c.D⟩,?_,g2,?_,hk⟩
 ·refine .head stepR_region_draw ?_
  rw [hmd]
  exact g1.trans (.one stepR_region_end)
 ·refine ⟨(hf0.toFr0.trans k2.toFr0).trans g3,fun r hr hn => ?_⟩
  have hn1:=k2.virt r hr hn
  refine g4 r (Nat.lt_of_lt_of_le hr k2.len) hn1 fun p hp hq => ?_
  by_cases hlt : p < T.length + (dumsN mk ops.toList).length
  ·obtain ⟨q,q1,_,q3⟩:=k4 p hp hlt
   rw [hq] at q1
   injection q1 with q1
   omega
  ·have:=lt_of_get hq
   rw [hml,List.length_append] at this
   omega
theorem goes_drawN (mk : List FuncId) {c : Cx} {ops : Array Oper} {id : Nat} {k : List Item} {E : Env} {T : Heap} (n : Nat) (h : catC T (dumsN mk ops.toList) fun T0 => evdN mk c ops.toList (guardTmps ops.toList ops.toList) ops.toList T.length E T0 fun En Tn ss => chk ops.toList ss 0 [] [] = true ∧ evp c n k En Tn) :
  Goes c (.code (.region id ops true) :: k) E T:=by
 rw [catC_eq] at h
 obtain ⟨rs,ss,En,Tn,h1,h2,h3⟩:=evdN_sound (mk:=mk) ops.toList 0 T.length E _ _ h (fun k => by rw [Nat.zero_add,Array.getElem?_toList]) (by simp)
 exact goes_draw_ofN mk h1 h2 (evp_sound n _ _ _ _ h3)
end Bow
/- AE45: own memory under names: calls that hand back named memory, calls that write over it, calls that only read it; stores into it. -/
namespace Bow
open Go
section
variable {w w' : World} {β β' : Nat → Loc} {H H' : Heap}
theorem seen {imps : List Nat} {nt : Nat} {m : List Nat} {s : St} {a : Act} (hs : SRel imps nt w β H m s a) : SRel [] 0 w β H [] ⟨[],[],fun r => (H[r]?).getD none,[]⟩ bare:=by
 refine ⟨hs.hrel,rfl,fun k => by simp [lk,V.conv];exact .undef _,rfl,List.nodup_nil,by simp,rfl,fun r h _ => ?_,fun r h1 => ?_,by simp,by simp,by simp,rfl,by simp⟩
 ·simp [h]
 ·simp [List.getElem?_eq_none h1]
end
section
variable {c : Cx} {E : Env} {T : Heap} {ops : Array Oper} {i : Nat} {rest : List Nat} {k : List Item} {o : Oper}
end
end Bow
/- AE46: a nil slice in a cell of a box, as own memory; named results that say less. -/
namespace Bow
open Go
section
variable {c : Cx} {E : Env} {T : Heap}
end
end Bow
/- W76: treeops.Bare, seen to hand back rows of its own. -/
namespace Bow
open Go Go.Proofs
end Bow
/- W77: lists of operations whose rows have names; lists.bare, square.Behind, square.Both, lists.Both, seen to hand back memory of their own. -/
namespace Bow
open Go Go.Proofs
end Bow
/- W78: bowerlaw12.spoil, which writes over an operation's own rows. -/
namespace Bow
open Go Go.Proofs
end Bow
/- SP28: where a node is, number by number (the document's answer), in plain Lean. -/
namespace Bow
open Go
theorem nums_snocR (c : Chg) : ∀ (p q : List Int) (k : Int),c.nums q (p ++ [k]) = c.nums q p ++ [c.number (q ++ p) k]
 | [],q,k => by simp [Chg.nums]
 | j :: p,q,k => by
  rw [List.cons_append,Chg.nums,Chg.nums,nums_snocR c p (q ++ [j]) k]
  simp
theorem within_snoc (p q : List Int) (k : Int) : within p (q ++ [k]) = (within p q || decide (p = q ++ [k])):=by
 unfold within
 by_cases h1 : p.length ≤ q.length
 ·rw [List.take_append_of_le_length h1]
  have : p ≠ q ++ [k]:=fun e => by rw [e] at h1;simp at h1;omega
  rw [decide_eq_false this,Bool.or_false]
 ·have hq : q.take p.length = q:=List.take_of_length_le (by omega)
  have h2 : (q ++ [k]).take p.length = q ++ [k]:=List.take_of_length_le (by simp;omega)
  have : p ≠ q:=fun e => by rw [e] at h1;omega
  rw [hq,h2,decide_eq_false this,Bool.false_or]
theorem moves_kinds {o : OpT} (h : movesO o = true) : o.kind = 1 ∨ (o.kind = 2 ∧ o.path ≠ []) ∨ (o.kind = 3 ∧ o.path ≠ [] ∧ within o.path o.to = false):=by
 unfold movesO at h
 rw [Bool.and_eq_true] at h
 have h:=h.2
 by_cases h1 : o.kind = 1
 ·exact .inl h1
 ·rw [decide_eq_false h1,cond_false] at h
  by_cases h2 : o.kind = 2
  ·rw [decide_eq_true h2,cond_true] at h
   exact .inr (.inl ⟨h2,fun e => by rw [e] at h;cases h⟩)
  ·rw [decide_eq_false h2,cond_false] at h
   by_cases h3 : o.kind = 3
   ·rw [decide_eq_true h3,cond_true,Bool.and_eq_true] at h
    exact .inr (.inr ⟨h3,(fun e => (by rw [e] at h;cases h.1)),(by simpa using h.2)⟩)
   ·rw [decide_eq_false h3,cond_false] at h
    cases h
def childR (o : OpT) (p : List Int) (k : Int) : Option Int :=
 bif decide (o.kind = 1) then some (bif decide (p = o.path) && decide (o.at_ ≤ k) then k + 1 else k)
 else bif decide (p = o.path.dropLast) && decide (k = lastP o.path) then none
 else some ((bif decide (p = o.path.dropLast) && decide (lastP o.path < k) then k - 1 else k) + (bif decide (o.kind = 3) && (decide (p = o.to) && decide (o.at_ ≤ k)) then 1 else 0))
theorem snoc_last {p : List Int} (h : p ≠ []) : p.dropLast ++ [lastP p] = p:=by
 rw [← lastP_eq h]
 exact List.dropLast_concat_getLast h
theorem snoc_iff {p q : List Int} (k : Int) (h : p ≠ []) : p = q ++ [k] ↔ q = p.dropLast ∧ k = lastP p:=by
 constructor
 ·intro e
  subst e
  simp [lastP]
 ·rintro ⟨rfl,rfl⟩
  exact (snoc_last h).symm
def nodeR (a : Option (List Int)) (b : Option Int) : Option (List Int) :=
 match a,b with
 | some r,some n => some (r ++ [n])
 | _,_ => none
theorem node_snoc {o : OpT} (hm : movesO o = true) (q : List Int) (k : Int) (hne : ¬ (o.kind = 3 ∧ o.path = q ++ [k])) : nodeP o (q ++ [k]) = nodeR (nodeP o q) (childR o q k):=by
 unfold nodeP
 rw [hm,Bool.not_true,cond_false,cond_false]
 rcases moves_kinds hm with h1 | ⟨h2,hn⟩ | ⟨h3,hn,hw⟩
 ·have ht : (chgO o).takes = false:=by unfold chgO;simp [h1]
  have hc : childR o q k = some ((chgO o).number q k):=by
   unfold childR Chg.number chgO
   rw [h1]
   simp only [decide_true,cond_true,Bool.not_true,Bool.false_and,cond_false,Bool.true_and,show decide ((1 : Int) = 2) = false from rfl,Bool.not_false]
   by_cases e1 : q = o.path <;> by_cases e2 : o.at_ ≤ k <;> simp [e1,e2]
  rw [ht,Bool.false_and,Bool.false_and,cond_false,cond_false,nums_snocR,hc,List.nil_append]
  rfl
 ·have ht : (chgO o).takes = true:=by unfold chgO;simp [h2]
  have hp : (chgO o).puts = false:=by unfold chgO;simp [h2]
  rw [ht,hp,Bool.true_and,Bool.true_and,within_snoc]
  cases hwq : within o.path q with
  | true => rfl
  | false =>
   simp only [Bool.false_or,cond_false]
   by_cases e : o.path = q ++ [k]
   ·rw [decide_eq_true e]
    obtain ⟨e1,e2⟩:=(snoc_iff k hn).1 e
    have hc : childR o q k = none:=by
     unfold childR
     rw [h2,decide_eq_true e1,decide_eq_true e2]
     rfl
    rw [hc];rfl
   ·rw [decide_eq_false e,cond_false,nums_snocR,List.nil_append]
    have hnot : ¬ (q = o.path.dropLast ∧ k = lastP o.path):=fun g => e ((snoc_iff k hn).2 g)
    have hc : childR o q k = some ((chgO o).number q k):=by
     unfold childR Chg.number chgO
     rw [h2]
     by_cases e1 : q = o.path.dropLast <;> by_cases e2 : k = lastP o.path
     ·exact absurd ⟨e1,e2⟩ hnot
     ·by_cases e3 : lastP o.path < k <;> simp [e1,e2,e3]
     ·simp [e1,e2]
     ·simp [e1,e2]
    rw [hc];rfl
 ·have ht : (chgO o).takes = true:=by unfold chgO;simp [h3]
  have hp : (chgO o).puts = true:=by unfold chgO;simp [h3]
  have e : o.path ≠ q ++ [k]:=fun e => hne ⟨h3,e⟩
  have hnot : ¬ (q = o.path.dropLast ∧ k = lastP o.path):=fun g => e ((snoc_iff k hn).2 g)
  rw [ht,hp,Bool.true_and,Bool.true_and,within_snoc,decide_eq_false e,Bool.or_false]
  cases hwq : within o.path q with
  | true =>
   simp only [Bool.not_true,cond_false,cond_true]
   have hl:=within_len hwq
   have e1 : q ≠ o.path.dropLast:=fun g => by
    have : o.path.length ≤ o.path.dropLast.length:=g ▸ hl
    have h0:=List.length_pos_iff.2 hn
    simp at this
    omega
   have e2 : q ≠ o.to:=fun g => by rw [g,hw] at hwq;cases hwq
   have hc : childR o q k = some k:=by
    unfold childR
    simp [h3,e1,e2]
   rw [hc,List.drop_append_of_le_length hl]
   simp [nodeR]
  | false =>
   simp only [cond_false]
   rw [nums_snocR,List.nil_append]
   have hc : childR o q k = some ((chgO o).number q k):=by
    unfold childR Chg.number chgO
    rw [h3]
    by_cases e1 : q = o.path.dropLast <;> by_cases e2 : k = lastP o.path
    ·exact absurd ⟨e1,e2⟩ hnot
    all_goals by_cases e3 : lastP o.path < k <;> by_cases e4 : q = o.to <;> by_cases e5 : o.at_ ≤ k <;> simp_all
   rw [hc];rfl
theorem node_moved {o : OpT} (hm : movesO o = true) (hk : o.kind = 3) : nodeP o o.path = some ((nodeP o o.to).getD [] ++ [bif decide (o.path.dropLast = o.to) && decide (lastP o.path < o.at_) then o.at_ - 1 else o.at_]):=by
 rcases moves_kinds hm with h1 | ⟨h2,hn⟩ | ⟨h3,hn,hw⟩
 ·omega
 ·omega
 ·have ht : (chgO o).takes = true:=by unfold chgO;simp [h3]
  have hp : (chgO o).puts = true:=by unfold chgO;simp [h3]
  have hpp : within o.path o.path = true:=by unfold within;simp
  unfold nodeP
  rw [hm,ht,hp,hpp,hw]
  simp only [Bool.not_true,cond_false,Bool.and_self,cond_true,Bool.and_false,List.drop_length,List.append_nil,Option.getD_some,Option.some.injEq,List.append_cancel_left_eq,List.cons.injEq,and_true]
  unfold Chg.land chgO
  rw [h3]
  by_cases e1 : o.path.dropLast = o.to <;> by_cases e2 : lastP o.path < o.at_ <;> simp [e1,e2]
theorem node_still {o : OpT} (p : List Int) (h : movesO o = false) : nodeP o p = some p:=by
 unfold nodeP
 rw [h];rfl
theorem node_root {o : OpT} : nodeP o [] = some []:=by
 unfold nodeP
 cases hm : movesO o with
 | false => rfl
 | true =>
  simp only [Bool.not_true,cond_false]
  have : ((chgO o).takes && within o.path []) = false:=by
   rcases moves_kinds hm with h1 | ⟨h2,hn⟩ | ⟨h3,hn,hw⟩
   ·unfold chgO;simp [h1]
   all_goals
    cases hp : o.path with
    | nil => exact absurd hp hn
    | cons a l => rw [within_cons_nil,Bool.and_false]
  rw [this];rfl
end Bow
/- W67: the document's answer of chapter 11: Moves, parent, child, Node, Gap, Undo. -/
namespace Bow
open Go Go.Proofs
end Bow
/- SP27: two edits behind each other, place by place, in plain Lean: as leaftext goes, by runs, it is the same. -/
namespace Bow
open Go
def Later (l : List PieceT) : Prop:=∀ p ∈ l,0 < p.keep ∧ 0 ≤ p.drop
def RN : List PieceT → Prop
 | [] => True
 | p :: l => 0 ≤ p.keep ∧ 0 ≤ p.drop ∧ Later l
structure Mk.Rn (m : Mk) : Prop where
 k : 0 ≤ m.keep
 l : RN m.l
theorem later_append {l : List PieceT} {p : PieceT} (h : Later l) (hp : 0 < p.keep ∧ 0 ≤ p.drop) : Later (l ++ [p]):=by
 intro q hq
 rcases List.mem_append.1 hq with hq | hq
 ·exact h q hq
 ·rw [List.mem_singleton] at hq
  exact hq ▸ hp
theorem rn_append {l : List PieceT} {p : PieceT} (h : RN l) (hp : 0 < p.keep ∧ 0 ≤ p.drop) : RN (l ++ [p]):=by
 cases l with
 | nil => exact ⟨by omega,hp.2,by intro q hq;cases hq⟩
 | cons q l => exact ⟨h.1,h.2.1,later_append h.2.2 hp⟩
theorem Mk.last_rn {m : Mk} (h : m.Rn) : m.last.Rn:=by
 unfold Mk.last
 cases hk : decide (0 < m.keep) with
 | true => exact ⟨Int.le_refl 0,rn_append h.l ⟨of_decide_eq_true hk,Int.le_refl _⟩⟩
 | false =>
  cases hl : m.l with
  | nil => exact ⟨Int.le_refl 0,⟨h.k,Int.le_refl _,by intro q hq;cases hq⟩⟩
  | cons p l => exact h
theorem modL_later {f : PieceT → PieceT} (hf : ∀ p,(f p).keep = p.keep) (hd : ∀ p,0 ≤ p.drop → 0 ≤ (f p).drop) : ∀ {l : List PieceT},Later l → Later (modL f l)
 | [],h => h
 | [p],h => by
  intro q hq
  rw [modL,List.mem_singleton] at hq
  have:=h p List.mem_cons_self
  rw [hq,hf]
  exact ⟨this.1,hd _ this.2⟩
 | p :: q :: r,h => by
  intro z hz
  rw [modL] at hz
  rcases List.mem_cons.1 hz with rfl | hz
  ·exact h _ List.mem_cons_self
  ·exact modL_later hf hd (fun y hy => h y (List.mem_cons_of_mem _ hy)) z hz
theorem modL_rn {f : PieceT → PieceT} (hf : ∀ p,(f p).keep = p.keep) (hd : ∀ p,0 ≤ p.drop → 0 ≤ (f p).drop) : ∀ {l : List PieceT},RN l → RN (modL f l)
 | [],h => h
 | [p],h => by
  rw [modL]
  exact ⟨by rw [hf];exact h.1,hd _ h.2.1,h.2.2⟩
 | p :: q :: r,h => ⟨h.1,h.2.1,modL_later hf hd h.2.2⟩
theorem Mk.put_rn {m : Mk} (s : List UInt8) (h : m.Rn) : (m.put s).Rn:=by
 unfold Mk.put
 cases s.isEmpty with
 | true => exact h
 | false => exact ⟨(Mk.last_rn h).k,modL_rn (f:=fun p => { p with put:=p.put ++ s }) (fun _ => rfl) (fun _ h => h) (Mk.last_rn h).l⟩
theorem Mk.drop_rn {m : Mk} (n : Int) (h : m.Rn) : (m.drop n).Rn:=by
 unfold Mk.drop
 cases hn : decide (0 < n) with
 | false => exact h
 | true => exact ⟨(Mk.last_rn h).k,modL_rn (f:=fun p => { p with drop:=p.drop + n }) (fun _ => rfl) (fun p h => by have:=of_decide_eq_true hn;show 0 ≤ p.drop + n;omega) (Mk.last_rn h).l⟩
theorem Mk.piece_rn {m : Mk} {p : PieceT} (h : m.Rn) (hp : p.Nn) : (m.piece p).Rn :=
 Mk.drop_rn _ (Mk.put_rn _ ⟨by have:=h.k;have:=hp.k;show 0 ≤ m.keep + p.keep;omega,h.l⟩)
theorem foldl_rn : ∀ {l : List PieceT} {m : Mk},m.Rn → (∀ p ∈ l,p.Nn) → (l.foldl Mk.piece m).Rn
 | [],_,h,_ => h
 | p :: l,m,h,hl => foldl_rn (l:=l) (m:=m.piece p) (Mk.piece_rn h (hl p List.mem_cons_self)) (fun q hq => hl q (List.mem_cons_of_mem _ hq))
theorem norm_rn {l : List PieceT} (h : rightP l = true) : RN (normP l):=(foldl_rn (m:=⟨[],0⟩) ⟨Int.le_refl 0,trivial⟩ (right_nn h).1).l
def Run (n : Int) (d s : Bool) (r : List PieceT) : Prop :=
 (s = false ∧ d = false ∧ n = 0 ∧ r = []) ∨ (s = true ∧ 0 < n ∧ ∃ p l,r = p :: l ∧ 0 ≤ p.drop ∧ Later l ∧ ((d = false ∧ n = p.keep) ∨ (d = true ∧ p.keep = 0 ∧ p.put = [] ∧ n = p.drop)))
def Clean : List PieceT → Prop
 | [] => True
 | p :: _ => p.keep ≤ 0 → p.put = []
theorem put_clean {r : List PieceT} (h : RN r) : RN (rowPut r).2 ∧ Clean (rowPut r).2 ∧ extN (rowPut r).2 = extN r:=by
 cases r with
 | nil => exact ⟨trivial,trivial,rfl⟩
 | cons p l =>
  rw [rowPut]
  cases hk : decide (0 < p.keep) with
  | true => exact ⟨h,fun g => absurd (of_decide_eq_true hk) (by omega),rfl⟩
  | false =>
   cases hp : p.put.isEmpty with
   | true => exact ⟨h,fun _ => List.isEmpty_iff.1 hp,rfl⟩
   | false => exact ⟨h,fun _ => rfl,rfl⟩
theorem run_stand {r : List PieceT} (h : RN r) (hc : Clean r) : Run (rowRun r).1.1 (rowRun r).1.2.1 (rowRun r).1.2.2 (rowRun r).2 ∧ extN (rowRun r).2 = extN r:=by
 cases r with
 | nil => exact ⟨.inl ⟨rfl,rfl,rfl,rfl⟩,rfl⟩
 | cons p l =>
  obtain ⟨h1,h2,h3⟩:=h
  rw [rowRun]
  cases hk : decide (0 < p.keep) with
  | true => exact ⟨.inr ⟨rfl,of_decide_eq_true hk,p,l,rfl,h2,h3,.inl ⟨rfl,rfl⟩⟩,rfl⟩
  | false =>
   have hk:=of_decide_eq_false hk
   cases hd : decide (0 < p.drop) with
   | true => exact ⟨.inr ⟨rfl,of_decide_eq_true hd,p,l,rfl,h2,h3,.inr ⟨rfl,by omega,hc (by omega),rfl⟩⟩,rfl⟩
   | false =>
    have hd:=of_decide_eq_false hd
    rw [cond_false,cond_false]
    have e : extN (p :: l) = extN l:=by rw [extN];omega
    rw [e]
    cases l with
    | nil => exact ⟨.inl ⟨rfl,rfl,rfl,rfl⟩,rfl⟩
    | cons q m =>
     have hq:=h3 q List.mem_cons_self
     rw [rowRun,decide_eq_true hq.1]
     exact ⟨.inr ⟨rfl,hq.1,q,m,rfl,hq.2,fun z hz => h3 z (List.mem_cons_of_mem _ hz),.inl ⟨rfl,rfl⟩⟩,rfl⟩
theorem Run.put {n : Int} {d s : Bool} {r : List PieceT} (h : Run n d s r) : rowPut r = ([],r):=by
 rcases h with ⟨_,_,_,rfl⟩ | ⟨_,hn,p,l,rfl,_,_,⟨_,rfl⟩ | ⟨_,hk,hp,_⟩⟩
 ·rfl
 ·rw [rowPut,decide_eq_true hn];rfl
 ·rw [rowPut,hp];simp
theorem Run.run {n : Int} {d s : Bool} {r : List PieceT} (h : Run n d s r) : rowRun r = ((n,d,s),r):=by
 rcases h with ⟨rfl,rfl,rfl,rfl⟩ | ⟨rfl,hn,p,l,rfl,_,_,⟨rfl,rfl⟩ | ⟨rfl,hk,hp,rfl⟩⟩
 ·rfl
 ·rw [rowRun,decide_eq_true hn];rfl
 ·rw [rowRun,decide_eq_false (by omega : ¬ 0 < p.keep),decide_eq_true hn];rfl
theorem Run.take {n j : Int} {d s : Bool} {r : List PieceT} (h : Run n d s r) (_ : 0 ≤ j) (hs : s = true → j < n) : Run (bif s then n - j else 0) d s (rowTake j r):=by
 rcases h with ⟨rfl,rfl,rfl,rfl⟩ | ⟨rfl,hn,p,l,rfl,hd,hl,⟨rfl,rfl⟩ | ⟨rfl,hk,hp,rfl⟩⟩
 ·exact .inl ⟨rfl,rfl,rfl,rfl⟩
 ·have:=hs rfl
  rw [rowTake,decide_eq_true hn]
  exact .inr ⟨rfl,by rw [cond_true];omega,_,l,rfl,hd,hl,.inl ⟨rfl,rfl⟩⟩
 ·have:=hs rfl
  rw [rowTake,decide_eq_false (by omega : ¬ 0 < p.keep)]
  exact .inr ⟨rfl,by rw [cond_true];omega,_,l,rfl,by show 0 ≤ p.drop - j;omega,hl,.inr ⟨rfl,hk,hp,rfl⟩⟩
theorem Run.take_take {n j : Int} {d s : Bool} {r : List PieceT} (h : Run n d s r) (_ : 0 ≤ j) (hs : s = true → j < n) : rowTake 1 (rowTake j r) = rowTake (j + 1) r:=by
 rcases h with ⟨rfl,rfl,rfl,rfl⟩ | ⟨rfl,hn,p,l,rfl,hd,hl,⟨rfl,rfl⟩ | ⟨rfl,hk,hp,rfl⟩⟩
 ·rfl
 ·have:=hs rfl
  rw [rowTake,decide_eq_true hn,cond_true,rowTake,decide_eq_true (by show 0 < p.keep - j;omega),cond_true,rowTake,decide_eq_true hn,cond_true,show p.keep - j - 1 = p.keep - (j + 1) by omega]
 ·have:=hs rfl
  have e : decide (0 < p.keep) = false:=decide_eq_false (by omega)
  rw [rowTake,e,cond_false,rowTake,e,cond_false,rowTake,e,cond_false,show p.drop - j - 1 = p.drop - (j + 1) by omega]
theorem Run.rn {n j : Int} {d s : Bool} {r : List PieceT} (h : Run n d s r) (hj : 0 ≤ j) (hs : s = true → j ≤ n) : RN (rowTake j r) ∧ extN (rowTake j r) = extN r - (bif s then j.toNat else 0) ∧ (s = true → n.toNat ≤ extN r) ∧ (s = false → extN r = 0):=by
 rcases h with ⟨rfl,rfl,rfl,rfl⟩ | ⟨rfl,hn,p,l,rfl,hd,hl,⟨rfl,rfl⟩ | ⟨rfl,hk,hp,rfl⟩⟩
 ·exact ⟨trivial,rfl,(fun g => (by cases g)),(fun _ => rfl)⟩
 ·have:=hs rfl
  rw [rowTake,decide_eq_true hn]
  refine ⟨⟨by show 0 ≤ p.keep - j;omega,hd,hl⟩,?_,(fun _ => ?_),(fun g => (by cases g))⟩
  ·simp only [cond_true,extN];omega
  ·simp only [extN];omega
 ·have:=hs rfl
  rw [rowTake,decide_eq_false (by omega : ¬ 0 < p.keep)]
  refine ⟨⟨by show 0 ≤ p.keep;omega,by show 0 ≤ p.drop - j;omega,hl⟩,?_,(fun _ => ?_),(fun g => (by cases g))⟩
  ·simp only [cond_false,cond_true,extN];omega
  ·simp only [extN];omega
def dX (m : Mk) (n : Int) (mine other : Bool) : Mk:=bif other then m else bif mine then m.drop n else m.kept n
theorem does_eq (s : Tr) (n : Int) (d g : Bool) : s.does n d g = ⟨s.p,s.q,dX s.x n d g,dX s.y n g d⟩:=by
 cases d <;> cases g <;> rfl
theorem modL_modL (f g : PieceT → PieceT) : ∀ l : List PieceT,modL f (modL g l) = modL (fun p => f (g p)) l
 | [] => rfl
 | [p] => rfl
 | [p,q] => rfl
 | p :: q :: r :: l => by
  have ih:=modL_modL f g (q :: r :: l)
  simp only [modL] at ih ⊢
  rw [ih]
theorem Mk.last_done (m : Mk) : ¬ 0 < m.last.keep ∧ m.last.l ≠ []:=by
 refine ⟨?_,m.last_ne⟩
 unfold Mk.last
 cases h : decide (0 < m.keep) || m.l.isEmpty with
 | true => simp
 | false =>
  rw [Bool.or_eq_false_iff] at h
  exact of_decide_eq_false h.1
theorem Mk.last_of {m : Mk} (h1 : ¬ 0 < m.keep) (h2 : m.l ≠ []) : m.last = m:=by
 unfold Mk.last
 rw [decide_eq_false h1]
 cases h : m.l with
 | nil => exact absurd h h2
 | cons p l => rfl
theorem drop_drop (m : Mk) {j : Int} (hj : 0 < j) : (m.drop j).drop 1 = m.drop (j + 1):=by
 obtain ⟨h1,h2⟩:=m.last_done
 unfold Mk.drop
 rw [decide_eq_true hj,decide_eq_true (by omega : (0 : Int) < j + 1),cond_true,cond_true]
 rw [Mk.last_of (m:=⟨modL (fun p => { p with drop:=p.drop + j }) m.last.l,m.last.keep⟩) h1 (modL_ne h2)]
 simp only [modL_modL]
 simp only [show (decide ((0 : Int) < 1)) = true from rfl,cond_true,Int.add_assoc]
theorem dX_dX (m : Mk) {j : Int} (hj : 0 < j) (d g : Bool) : dX (dX m j d g) 1 d g = dX m (j + 1) d g:=by
 cases g with
 | true => rfl
 | false =>
  cases d with
  | true => exact drop_drop m hj
  | false =>
   unfold dX Mk.kept
   simp only [cond_false,Int.add_assoc]
theorem put_nil (m : Mk) : m.put [] = m:=rfl
theorem kept_zero (m : Mk) : m.kept 0 = m:=by
 unfold Mk.kept
 rw [Int.add_zero]
def Tr.one (prior : Bool) (s : Tr) : Tr :=
 match s.puts prior with
 | ⟨p,q,x,y⟩ => Tr.does ⟨rowTake 1 (rowRun p).2,rowTake 1 (rowRun q).2,x,y⟩ 1 (rowRun p).1.2.1 (rowRun q).1.2.1
def Tr.bytes (prior : Bool) : Nat → Tr → Tr
 | 0,s => s
 | k + 1,s => Tr.bytes prior k (s.one prior)
theorem bytes_add (prior : Bool) : ∀ (j k : Nat) (s : Tr),Tr.bytes prior (j + k) s = Tr.bytes prior k (Tr.bytes prior j s)
 | 0,k,s => by rw [Nat.zero_add];rfl
 | j + 1,k,s => by rw [Nat.succ_add];exact bytes_add prior j k (s.one prior)
theorem puts_run {prior : Bool} {p q : List PieceT} {x y : Mk} (hp : rowPut p = ([],p)) (hq : rowPut q = ([],q)) : Tr.puts prior ⟨p,q,x,y⟩ = ⟨p,q,x,y⟩:=by
 unfold Tr.puts
 simp only [hp,hq]
 cases prior <;> simp [put_nil,kept_zero]
theorem bytes_run {prior : Bool} {s : Tr} {p q p' q' : List PieceT} {x y : Mk} {na nb : Int} {d g sa sb : Bool} (h1 : s.puts prior = ⟨p,q,x,y⟩) (h2 : rowRun p = ((na,d,sa),p')) (h3 : rowRun q = ((nb,g,sb),q')) (h4 : Run na d sa p') (h5 : Run nb g sb q') :
  ∀ j : Nat,(sa = true → (j : Int) + 1 ≤ na) → (sb = true → (j : Int) + 1 ≤ nb) → Tr.bytes prior (j + 1) s = Tr.does ⟨rowTake (j + 1 : Nat) p',rowTake (j + 1 : Nat) q',x,y⟩ (j + 1 : Nat) d g
 | 0,_,_ => by
  show s.one prior = _
  unfold Tr.one
  rw [h1]
  simp only [h2,h3]
  rfl
 | j + 1,ha,hb => by
  rw [bytes_add prior (j + 1) 1,bytes_run h1 h2 h3 h4 h5 j (fun e => by have:=ha e;omega) (fun e => by have:=hb e;omega)]
  have ja : sa = true → ((j + 1 : Nat) : Int) < na:=fun e => by have:=ha e;omega
  have jb : sb = true → ((j + 1 : Nat) : Int) < nb:=fun e => by have:=hb e;omega
  have ka:=h4.take (Int.natCast_nonneg (j + 1)) ja
  have kb:=h5.take (Int.natCast_nonneg (j + 1)) jb
  rw [does_eq]
  show Tr.one prior _ = _
  unfold Tr.one
  rw [puts_run ka.put kb.put]
  simp only [ka.run,kb.run]
  rw [does_eq,does_eq,h4.take_take (Int.natCast_nonneg (j + 1)) ja,h5.take_take (Int.natCast_nonneg (j + 1)) jb]
  simp only
  rw [dX_dX x (by omega),dX_dX y (by omega)]
  rfl
theorem bytes_end {prior : Bool} : ∀ (k : Nat) (x y : Mk),(Tr.bytes prior k ⟨[],[],x,y⟩).x.l = x.l ∧ (Tr.bytes prior k ⟨[],[],x,y⟩).y.l = y.l
 | 0,_,_ => ⟨rfl,rfl⟩
 | k + 1,x,y => by
  have e : Tr.one prior ⟨[],[],x,y⟩ = ⟨[],[],x.kept 1,y.kept 1⟩:=by
   unfold Tr.one
   rw [puts_run rfl rfl]
   rfl
  show (Tr.bytes prior k (Tr.one prior ⟨[],[],x,y⟩)).x.l = _ ∧ (Tr.bytes prior k (Tr.one prior ⟨[],[],x,y⟩)).y.l = _
  rw [e]
  exact bytes_end k _ _
theorem puts_rows (prior : Bool) (s : Tr) : (s.puts prior).p = (rowPut s.p).2 ∧ (s.puts prior).q = (rowPut s.q).2:=by
 unfold Tr.puts
 cases prior <;> exact ⟨rfl,rfl⟩
theorem go_bytes (prior : Bool) : ∀ (f : Nat) (s : Tr) (k : Nat),RN s.p → RN s.q → extN s.p + extN s.q < f → extN s.p < k → extN s.q < k →
  (Tr.go prior f s).x.l = (Tr.bytes prior k s).x.l ∧ (Tr.go prior f s).y.l = (Tr.bytes prior k s).y.l
 | 0,_,_,_,_,h,_,_ => absurd h (by omega)
 | f + 1,s,k,hp,hq,hf,hk,hk' => by
  obtain ⟨p1,p2,p3⟩:=put_clean hp
  obtain ⟨q1,q2,q3⟩:=put_clean hq
  obtain ⟨e1,e2⟩:=puts_rows prior s
  rw [Tr.go]
  cases hs : s.puts prior with
  | mk p q x y =>
   rw [hs] at e1 e2
   simp only at e1 e2
   subst e1 e2
   obtain ⟨r1,r2⟩:=run_stand p1 p2
   obtain ⟨t1,t2⟩:=run_stand q1 q2
   cases ha : rowRun (rowPut s.p).2 with
   | mk a p' =>
    obtain ⟨na,d,sa⟩:=a
    cases hb : rowRun (rowPut s.q).2 with
    | mk b q' =>
     obtain ⟨nb,g,sb⟩:=b
     rw [ha] at r1 r2
     rw [hb] at t1 t2
     simp only at r1 r2 t1 t2 ⊢
     rw [bothR_eq ha hb]
     cases hsab : !sa && !sb with
     | true =>
      have hsa : sa = false:=by cases sa <;> simp_all
      have hsb : sb = false:=by cases sb <;> simp_all
      subst hsa hsb
      rcases r1 with ⟨_,rfl,rfl,rfl⟩ | ⟨g,_⟩
      ·rcases t1 with ⟨_,rfl,rfl,rfl⟩ | ⟨g,_⟩
       ·simp only [cond_true,cond_false]
        cases k with
        | zero => omega
        | succ k =>
         have e : Tr.one prior s = ⟨[],[],x.kept 1,y.kept 1⟩:=by
          unfold Tr.one
          rw [hs]
          simp only [ha,hb]
          rfl
         show _ = (Tr.bytes prior k (Tr.one prior s)).x.l ∧ _ = (Tr.bytes prior k (Tr.one prior s)).y.l
         rw [e]
         obtain ⟨z1,z2⟩:=bytes_end (prior:=prior) k (x.kept 1) (y.kept 1)
         exact ⟨z1.symm,z2.symm⟩
       ·cases g
      ·cases g
     | false =>
      have hn : ∃ n : Int,(bif !sa then nb else bif sb then min na nb else na) = n ∧ 0 < n ∧ (sa = true → n ≤ na) ∧ (sb = true → n ≤ nb):=by
       refine ⟨_,rfl,?_⟩
       have ra : sa = true → 0 < na:=fun e => by rcases r1 with ⟨h,_⟩ | ⟨_,h,_⟩;(· rw [e] at h;cases h);exact h
       have rb : sb = true → 0 < nb:=fun e => by rcases t1 with ⟨h,_⟩ | ⟨_,h,_⟩;(· rw [e] at h;cases h);exact h
       cases sa <;> cases sb <;> simp_all <;> omega
      obtain ⟨n,hn,h0,h1,h2⟩:=hn
      simp only [cond_false]
      rw [hn]
      simp only [cond_true]
      obtain ⟨m,rfl⟩ : ∃ m : Nat,n = ((m + 1 : Nat) : Int):=⟨n.toNat - 1,by omega⟩
      obtain ⟨u1,u2,u3,u4⟩:=r1.rn (j:=((m + 1 : Nat) : Int)) (by omega) h1
      obtain ⟨v1,v2,v3,v4⟩:=t1.rn (j:=((m + 1 : Nat) : Int)) (by omega) h2
      have hb:=bytes_run hs ha hb r1 t1 m (fun e => by have:=h1 e;omega) (fun e => by have:=h2 e;omega)
      have hmk : m + 1 < k:=by
       cases sa with
       | true => have:=u3 rfl;have:=h1 rfl;omega
       | false =>
        cases sb with
        | true => have:=v3 rfl;have:=h2 rfl;omega
        | false => cases hsab
      obtain ⟨k',rfl⟩ : ∃ k',k = (m + 1) + k':=⟨k - (m + 1),by omega⟩
      rw [bytes_add,hb]
      refine go_bytes prior f _ k' ?_ ?_ ?_ ?_ ?_
      all_goals rw [does_eq]
      ·exact u1
      ·exact v1
      all_goals simp only
      ·rw [u2,v2]
       cases sa with
       | true => have:=u3 rfl;have:=h1 rfl;simp only [cond_true];cases sb <;> simp only [cond_true,cond_false] <;> omega
       | false =>
        cases sb with
        | true => have:=v3 rfl;have:=h2 rfl;simp only [cond_true,cond_false];omega
        | false => cases hsab
      ·rw [u2]
       cases sa with
       | true => simp only [cond_true];omega
       | false => have:=u4 rfl;simp only [cond_false];omega
      ·rw [v2]
       cases sb with
       | true => simp only [cond_true];omega
       | false => have:=v4 rfl;simp only [cond_false];omega
def putAt : List PieceT → Nat → List UInt8
 | [],_ => []
 | p :: l,i => bif decide (i < p.keep.toNat) then [] else bif decide (i = p.keep.toNat) then p.put else bif decide (i < p.keep.toNat + p.drop.toNat) then [] else putAt l (i - (p.keep.toNat + p.drop.toNat))
def dropAt : List PieceT → Nat → Bool
 | [],_ => false
 | p :: l,i => bif decide (i < p.keep.toNat) then false else bif decide (i < p.keep.toNat + p.drop.toNat) then true else dropAt l (i - (p.keep.toNat + p.drop.toNat))
theorem later_put0 {l : List PieceT} (h : Later l) : putAt l 0 = []:=by
 cases l with
 | nil => rfl
 | cons p l =>
  have:=(h p List.mem_cons_self).1
  rw [putAt,decide_eq_true (by omega)];rfl
def rowNext (r : List PieceT) : List PieceT:=rowTake 1 (rowRun (rowPut r).2).2
theorem putAt_keep {p : PieceT} {l : List PieceT} (h : 0 < p.keep) (i : Nat) : putAt ({ p with keep:=p.keep - 1 } :: l) i = putAt (p :: l) (i + 1):=by
 rw [putAt,putAt]
 simp only
 have e1 : decide (i < (p.keep - 1).toNat) = decide (i + 1 < p.keep.toNat):=by simp only [decide_eq_decide];omega
 have e2 : decide (i = (p.keep - 1).toNat) = decide (i + 1 = p.keep.toNat):=by simp only [decide_eq_decide];omega
 have e3 : decide (i < (p.keep - 1).toNat + p.drop.toNat) = decide (i + 1 < p.keep.toNat + p.drop.toNat):=by simp only [decide_eq_decide];omega
 have e4 : i - ((p.keep - 1).toNat + p.drop.toNat) = i + 1 - (p.keep.toNat + p.drop.toNat):=by omega
 rw [e1,e2,e3,e4]
theorem dropAt_keep {p : PieceT} {l : List PieceT} (h : 0 < p.keep) (i : Nat) : dropAt ({ p with keep:=p.keep - 1 } :: l) i = dropAt (p :: l) (i + 1):=by
 rw [dropAt,dropAt]
 simp only
 have e1 : decide (i < (p.keep - 1).toNat) = decide (i + 1 < p.keep.toNat):=by simp only [decide_eq_decide];omega
 have e3 : decide (i < (p.keep - 1).toNat + p.drop.toNat) = decide (i + 1 < p.keep.toNat + p.drop.toNat):=by simp only [decide_eq_decide];omega
 have e4 : i - ((p.keep - 1).toNat + p.drop.toNat) = i + 1 - (p.keep.toNat + p.drop.toNat):=by omega
 rw [e1,e3,e4]
theorem row_place {r : List PieceT} (h : RN r) : (rowPut r).1 = putAt r 0 ∧ (rowRun (rowPut r).2).1.2.1 = dropAt r 0 ∧ RN (rowNext r) ∧ (∀ i,putAt (rowNext r) i = putAt r (i + 1)) ∧ (∀ i,dropAt (rowNext r) i = dropAt r (i + 1)):=by
 cases r with
 | nil => exact ⟨rfl,rfl,trivial,fun _ => rfl,fun _ => rfl⟩
 | cons p l =>
  obtain ⟨h1,h2,h3⟩:=h
  unfold rowNext
  rw [rowPut]
  by_cases hk : 0 < p.keep
  ·rw [decide_eq_true hk,Bool.true_or,cond_true]
   simp only
   rw [rowRun,decide_eq_true hk,cond_true,rowTake,decide_eq_true hk,cond_true]
   refine ⟨?_,?_,⟨by show 0 ≤ p.keep - 1;omega,h2,h3⟩,putAt_keep hk,dropAt_keep hk⟩
   ·rw [putAt,decide_eq_true (by omega)];rfl
   ·rw [dropAt,decide_eq_true (by omega)];rfl
  ·have e : p.keep.toNat = 0:=by omega
   have hc : ∃ p',(bif decide (0 < p.keep) || p.put.isEmpty then (([] : List UInt8),p :: l) else (p.put,{ p with put:=[] } :: l)) = (p.put,p' :: l) ∧ p'.keep = p.keep ∧ p'.drop = p.drop ∧ p'.put = []:=by
    rw [decide_eq_false hk,Bool.false_or]
    cases hp : p.put.isEmpty with
    | true =>
     have:=List.isEmpty_iff.1 hp
     exact ⟨p,by rw [this];rfl,rfl,rfl,this⟩
    | false => exact ⟨{ p with put:=[] },rfl,rfl,rfl,rfl⟩
   obtain ⟨p',hc,c1,c2,c3⟩:=hc
   rw [hc]
   simp only
   have p0 : p.put = putAt (p :: l) 0:=by rw [putAt,e];rfl
   rw [rowRun,decide_eq_false (by rw [c1];exact hk),cond_false,c2]
   by_cases hd : 0 < p.drop
   ·rw [decide_eq_true hd,cond_true,rowTake,decide_eq_false (by rw [c1];exact hk),cond_false]
    refine ⟨p0,?_,⟨by show 0 ≤ p'.keep;omega,by show 0 ≤ p'.drop - 1;omega,h3⟩,fun i => ?_,fun i => ?_⟩
    ·rw [dropAt,e,decide_eq_false (by omega),decide_eq_true (by omega)];rfl
    ·rw [putAt,putAt]
     simp only [c1,c2,e]
     rw [decide_eq_false (by omega : ¬ i < 0),decide_eq_false (by omega : ¬ i + 1 < 0),cond_false,cond_false,decide_eq_false (by omega : ¬ i + 1 = 0),cond_false]
     have e3 : decide (i < 0 + (p.drop - 1).toNat) = decide (i + 1 < 0 + p.drop.toNat):=by simp only [decide_eq_decide];omega
     have e4 : i - (0 + (p.drop - 1).toNat) = i + 1 - (0 + p.drop.toNat):=by omega
     rw [e3,e4]
     by_cases hi : i = 0
     ·subst hi
      rw [decide_eq_true rfl,cond_true,c3]
      by_cases h5 : p.drop = 1
      ·rw [h5]
       exact (later_put0 h3).symm
      ·rw [decide_eq_true (by omega),cond_true]
     ·rw [decide_eq_false hi,cond_false]
    ·rw [dropAt,dropAt]
     simp only [c1,c2,e]
     rw [decide_eq_false (by omega : ¬ i < 0),decide_eq_false (by omega : ¬ i + 1 < 0),cond_false,cond_false]
     have e3 : decide (i < 0 + (p.drop - 1).toNat) = decide (i + 1 < 0 + p.drop.toNat):=by simp only [decide_eq_decide];omega
     have e4 : i - (0 + (p.drop - 1).toNat) = i + 1 - (0 + p.drop.toNat):=by omega
     rw [e3,e4]
   ·rw [decide_eq_false hd,cond_false]
    have f : p.drop.toNat = 0:=by omega
    have up : ∀ i,putAt (p :: l) (i + 1) = putAt l (i + 1):=fun i => by
     rw [putAt,e,f,decide_eq_false (by omega : ¬ i + 1 < 0),decide_eq_false (by omega : ¬ i + 1 = 0)];rfl
    have ud : ∀ i,dropAt (p :: l) i = dropAt l i:=fun i => by
     rw [dropAt,e,f,decide_eq_false (by omega : ¬ i < 0)];rfl
    cases l with
    | nil => exact ⟨p0,by rw [ud];rfl,trivial,fun i => by rw [up];rfl,fun i => by rw [ud];rfl⟩
    | cons q m =>
     have hq:=h3 q List.mem_cons_self
     rw [rowRun,decide_eq_true hq.1,cond_true,rowTake,decide_eq_true hq.1,cond_true]
     refine ⟨p0,?_,⟨by show 0 ≤ q.keep - 1;omega,hq.2,fun z hz => h3 z (List.mem_cons_of_mem _ hz)⟩,fun i => ?_,fun i => ?_⟩
     ·rw [ud,dropAt,decide_eq_true (by omega)];rfl
     ·rw [up,putAt_keep hq.1]
     ·rw [ud,dropAt_keep hq.1]
abbrev Pl:=List UInt8 × Bool
def placeX (first : Bool) (a b : Pl) (m : Mk) : Mk:=dX (bif first then (m.put a.1).kept b.1.length else (m.kept b.1.length).put a.1) 1 a.2 b.2
def placeP (first : Bool) (a b : Pl) : List PieceT :=
 (bif first then [⟨0,0,a.1⟩,⟨b.1.length,0,[]⟩] else [⟨b.1.length,0,[]⟩,⟨0,0,a.1⟩]) ++ (bif b.2 then [] else bif a.2 then [⟨0,1,[]⟩] else [⟨1,0,[]⟩])
theorem place_fold (first : Bool) (a b : Pl) (m : Mk) : (placeP first a b).foldl Mk.piece m = placeX first a b m:=by
 have h1 : ∀ (m : Mk) (s : List UInt8),m.piece ⟨0,0,s⟩ = m.put s:=fun m s => by
  unfold Mk.piece
  rw [kept_zero]
  rfl
 have h2 : ∀ (m : Mk) (n : Int),m.piece ⟨n,0,[]⟩ = m.kept n:=fun m n => rfl
 have h3 : ∀ (m : Mk),m.piece ⟨0,1,[]⟩ = m.drop 1:=fun m => by
  unfold Mk.piece
  rw [kept_zero]
  rfl
 unfold placeP placeX
 cases first <;> cases b.2 <;> cases a.2 <;> simp [h1,h2,h3,dX]
def placesP (first : Bool) : List Pl → List Pl → List PieceT
 | a :: va,b :: vb => placeP first a b ++ placesP first va vb
 | _,_ => []
def viewP (l : List PieceT) (n : Nat) : List Pl:=(List.range' 0 (n + 1)).map fun i => (putAt l i,dropAt l i)
theorem one_place {prior : Bool} {s : Tr} (hp : RN s.p) (hq : RN s.q) : s.one prior = ⟨rowNext s.p,rowNext s.q,placeX prior (putAt s.p 0,dropAt s.p 0) (putAt s.q 0,dropAt s.q 0) s.x,placeX (!prior) (putAt s.q 0,dropAt s.q 0) (putAt s.p 0,dropAt s.p 0) s.y⟩:=by
 obtain ⟨a1,a2,a3,a4,a5⟩:=row_place hp
 obtain ⟨b1,b2,b3,b4,b5⟩:=row_place hq
 unfold Tr.one Tr.puts
 rw [← a1,← b1,← a2,← b2]
 cases prior <;> simp only [cond_true,cond_false,does_eq] <;> rfl
theorem bytes_places {prior : Bool} : ∀ (k : Nat) (s : Tr) (p q : List PieceT) (j : Nat),RN s.p → RN s.q → (∀ i,putAt s.p i = putAt p (j + i)) → (∀ i,dropAt s.p i = dropAt p (j + i)) → (∀ i,putAt s.q i = putAt q (j + i)) → (∀ i,dropAt s.q i = dropAt q (j + i)) →
  (Tr.bytes prior k s).x = (placesP prior ((List.range' j k).map fun i => (putAt p i,dropAt p i)) ((List.range' j k).map fun i => (putAt q i,dropAt q i))).foldl Mk.piece s.x ∧
  (Tr.bytes prior k s).y = (placesP (!prior) ((List.range' j k).map fun i => (putAt q i,dropAt q i)) ((List.range' j k).map fun i => (putAt p i,dropAt p i))).foldl Mk.piece s.y
 | 0,_,_,_,_,_,_,_,_,_,_ => ⟨rfl,rfl⟩
 | k + 1,s,p,q,j,hp,hq,h1,h2,h3,h4 => by
  obtain ⟨a1,a2,a3,a4,a5⟩:=row_place hp
  obtain ⟨b1,b2,b3,b4,b5⟩:=row_place hq
  have ih:=bytes_places (prior:=prior) k (s.one prior) p q (j + 1)
  rw [one_place hp hq] at ih
  simp only at ih
  have ih:=ih a3 b3 (fun i => by rw [a4,h1];congr 1;omega) (fun i => by rw [a5,h2];congr 1;omega) (fun i => by rw [b4,h3];congr 1;omega) (fun i => by rw [b5,h4];congr 1;omega)
  rw [List.range'_succ,List.map_cons,List.map_cons,placesP,placesP,List.foldl_append,List.foldl_append,place_fold,place_fold]
  show (Tr.bytes prior k (s.one prior)).x = _ ∧ (Tr.bytes prior k (s.one prior)).y = _
  rw [one_place hp hq]
  have e1:=h1 0
  have e2:=h2 0
  have e3:=h3 0
  have e4:=h4 0
  simp only [Nat.add_zero] at e1 e2 e3 e4
  rw [e1,e2,e3,e4] at ih ⊢
  exact ih
def transR (a b : List PieceT) (prior : Bool) : List PieceT × List PieceT × Int :=
 bif !rightP a || !rightP b then ([],[],2)
 else match max (extN (normP a)) (extN (normP b)) with
  | n => match normP (placesP prior (viewP (normP a) n) (viewP (normP b) n)),normP (placesP (!prior) (viewP (normP b) n) (viewP (normP a) n)) with
   | x,y => bif !rightP x || !rightP y then ([],[],3) else (x,y,0)
theorem transR_eq (a b : List PieceT) (prior : Bool) : transR a b prior = transP a b prior:=by
 unfold transR transP
 cases h : !rightP a || !rightP b with
 | true => rfl
 | false =>
  rw [Bool.or_eq_false_iff] at h
  have ra : rightP a = true:=by simpa using h.1
  have rb : rightP b = true:=by simpa using h.2
  simp only [cond_false]
  have g:=go_bytes prior (extN (normP a) + extN (normP b) + 1) ⟨normP a,normP b,Mk.nil,Mk.nil⟩ (max (extN (normP a)) (extN (normP b)) + 1) (norm_rn ra) (norm_rn rb) (by simp only;omega) (by simp only;omega) (by simp only;omega)
  have p:=bytes_places (prior:=prior) (max (extN (normP a)) (extN (normP b)) + 1) ⟨normP a,normP b,Mk.nil,Mk.nil⟩ (normP a) (normP b) 0 (norm_rn ra) (norm_rn rb) (fun i => by rw [Nat.zero_add]) (fun i => by rw [Nat.zero_add]) (fun i => by rw [Nat.zero_add]) (fun i => by rw [Nat.zero_add])
  cases hg : Tr.go prior (extN (normP a) + extN (normP b) + 1) ⟨normP a,normP b,Mk.nil,Mk.nil⟩ with
  | mk p' q' x y =>
   rw [hg] at g
   simp only at g ⊢
   have e1 : normP (placesP prior (viewP (normP a) (max (extN (normP a)) (extN (normP b)))) (viewP (normP b) (max (extN (normP a)) (extN (normP b))))) = x.l:=by
    rw [g.1,p.1];rfl
   have e2 : normP (placesP (!prior) (viewP (normP b) (max (extN (normP a)) (extN (normP b)))) (viewP (normP a) (max (extN (normP a)) (extN (normP b))))) = y.l:=by
    rw [g.2,p.2];rfl
   rw [e1,e2]
end Bow
/- SP31: the document's normal form and views, step by step, in plain Lean. -/
namespace Bow
open Go
theorem modL_snoc (f : PieceT → PieceT) : ∀ (l : List PieceT) (x : PieceT),modL f (l ++ [x]) = l ++ [f x]
 | [],_ => rfl
 | [_],_ => rfl
 | p :: q :: r,x => by
  have ih:=modL_snoc f (q :: r) x
  rw [List.cons_append,List.cons_append,modL,← List.cons_append,ih]
  rfl
theorem modL_ext {f g : PieceT → PieceT} (h : ∀ p,f p = g p) (l : List PieceT) : modL f l = modL g l:=by
 rw [show f = g from funext h]
def addP (p q : PieceT) : PieceT:={ q with put:=q.put ++ p.put,drop:=q.drop + p.drop }
theorem piece_some {m : Mk} {p : PieceT} (hd : 0 ≤ p.drop) (h0 : ¬ (p.put = [] ∧ p.drop = 0)) : m.piece p = ⟨modL (addP p) (m.kept p.keep).last.l,(m.kept p.keep).last.keep⟩:=by
 unfold Mk.piece
 generalize m.kept p.keep = K
 obtain ⟨d1,d2⟩:=K.last_done
 by_cases hp : p.put = []
 ·have h1 : 0 < p.drop:=by
   rcases Int.lt_or_eq_of_le hd with h | h
   ·exact h
   ·exact absurd ⟨hp,h.symm⟩ h0
  rw [hp,put_nil]
  unfold Mk.drop
  rw [decide_eq_true h1,cond_true]
  congr 1
  exact modL_ext (fun q => by unfold addP;rw [hp,List.append_nil]) _
 ·have e : K.put p.put = ⟨modL (fun q => { q with put:=q.put ++ p.put }) K.last.l,K.last.keep⟩:=by
   unfold Mk.put
   cases hq : p.put with
   | nil => exact absurd hq hp
   | cons a s => rfl
  rw [e]
  by_cases h1 : 0 < p.drop
  ·unfold Mk.drop
   rw [decide_eq_true h1,cond_true]
   rw [Mk.last_of (m:=⟨modL (fun q => { q with put:=q.put ++ p.put }) K.last.l,K.last.keep⟩) d1 (modL_ne d2)]
   simp only [modL_modL]
   rfl
  ·have h2 : p.drop = 0:=by omega
   unfold Mk.drop
   rw [decide_eq_false h1,cond_false]
   congr 1
   exact modL_ext (fun q => by unfold addP;rw [h2,Int.add_zero]) _
theorem piece_skip {m : Mk} {p : PieceT} (h1 : p.put = []) (h2 : p.drop = 0) : m.piece p = ⟨m.l,m.keep + p.keep⟩:=by
 unfold Mk.piece
 rw [h1,put_nil]
 unfold Mk.drop
 rw [h2]
 rfl
theorem piece_merge {m : Mk} {p : PieceT} (hd : 0 ≤ p.drop) (h0 : ¬ (p.put = [] ∧ p.drop = 0)) (hk : m.keep + p.keep = 0) (hl : m.l ≠ []) : m.piece p = ⟨modL (addP p) m.l,0⟩:=by
 rw [piece_some hd h0]
 have e : (m.kept p.keep).last = m.kept p.keep:=Mk.last_of (by show ¬ 0 < m.keep + p.keep;omega) hl
 rw [e]
 show (⟨modL (addP p) m.l,m.keep + p.keep⟩ : Mk) = _
 rw [hk]
theorem piece_new {m : Mk} {p : PieceT} (hd : 0 ≤ p.drop) (h0 : ¬ (p.put = [] ∧ p.drop = 0)) (hk : 0 < m.keep + p.keep ∨ m.l = []) : m.piece p = ⟨m.l ++ [⟨m.keep + p.keep,p.drop,p.put⟩],0⟩:=by
 rw [piece_some hd h0]
 have e : (m.kept p.keep).last = ⟨m.l ++ [⟨m.keep + p.keep,0,[]⟩],0⟩:=by
  unfold Mk.last Mk.kept
  have : (decide (0 < m.keep + p.keep) || m.l.isEmpty) = true:=by
   rcases hk with h | h
   ·simp [h]
   ·simp [h]
  simp only [this,cond_true]
 rw [e]
 simp only [modL_snoc,addP,List.nil_append,Int.zero_add]
theorem dropAt_ge : ∀ (l : List PieceT) (j : Nat),extN l ≤ j → dropAt l j = false
 | [],_,_ => rfl
 | p :: l,j,h => by
  rw [extN] at h
  rw [dropAt,decide_eq_false (by omega : ¬ j < p.keep.toNat),decide_eq_false (by omega : ¬ j < p.keep.toNat + p.drop.toNat)]
  exact dropAt_ge l _ (by omega)
theorem rn_nn {l : List PieceT} (h : RN l) : ∀ p ∈ l,p.Nn:=by
 cases l with
 | nil => intro p hp;cases hp
 | cons q l =>
  intro p hp
  rcases List.mem_cons.1 hp with rfl | hp
  ·exact ⟨h.1,h.2.1⟩
  ·have:=h.2.2 p hp;exact ⟨by omega,this.2⟩
theorem place_nn (first : Bool) (a b : Pl) : (∀ p ∈ placeP first a b,p.Nn) ∧ (placeP first a b).length ≤ 3 ∧ sumW (placeP first a b) ≤ a.1.length + b.1.length + 4:=by
 unfold placeP
 cases first <;> cases b.2 <;> cases a.2 <;> refine ⟨?_,by simp,by simp [sumW,PieceT.w];omega⟩ <;> intro p hp <;> simp at hp <;> rcases hp with rfl | rfl | rfl <;> exact ⟨by simp,by simp⟩
def sumL : List Pl → Nat
 | [] => 0
 | a :: l => a.1.length + sumL l
theorem places_nn (first : Bool) : ∀ (va vb : List Pl),(∀ p ∈ placesP first va vb,p.Nn) ∧ (placesP first va vb).length ≤ 3 * va.length ∧ sumW (placesP first va vb) ≤ sumL va + sumL vb + 4 * va.length
 | [],vb => by
  refine ⟨(fun p hp => (by cases hp)),Nat.zero_le _,?_⟩
  show (0 : Int) ≤ _
  omega
 | _ :: _,[] => by
  refine ⟨(fun p hp => (by cases hp)),Nat.zero_le _,?_⟩
  show (0 : Int) ≤ _
  omega
 | a :: va,b :: vb => by
  obtain ⟨h1,h2,h3⟩:=places_nn first va vb
  obtain ⟨g1,g2,g3⟩:=place_nn first a b
  refine ⟨fun p hp => ?_,?_,?_⟩
  ·rw [placesP] at hp
   rcases List.mem_append.1 hp with hp | hp
   ·exact g1 p hp
   ·exact h1 p hp
  ·rw [placesP,List.length_append,List.length_cons];omega
  ·rw [placesP,sumW_append,sumL,sumL,List.length_cons];omega
theorem viewP_len (l : List PieceT) (n : Nat) : (viewP l n).length = n + 1:=by simp [viewP]
end Bow
/- W70: the document's answer of chapter 5: norm, Extent, view, behind, Transform. -/
namespace Bow
open Go Go.Proofs
end Bow
/- W71: the document's answer of chapter 12: what becomes of an operation behind another one. -/
namespace Bow
open Go Go.Proofs
end Bow
/- W72: the document's Behind and Both (chapter 12); the law SquareBehind, walked. -/
namespace Bow
open Go Go.Proofs
end Bow
/- AE47: a function whose named memory nobody looks at any more. -/
namespace Bow
open Go
end Bow
/- W79: the law SquareBoth, walked. -/
namespace Bow
open Go Go.Proofs
end Bow
/- SP32: the errors of lists brought by each other; a list brought by rows, in plain Lean. -/
namespace Bow
open Go
noncomputable def thrG (prior : Bool) : List OpT → List (List OpT) → List (List OpT) → List OpT × List (List OpT) × Int
 | bs,out,[] => (bs,out,0)
 | bs,out,r :: rows => bif !decide ((listsX prior bs r).2.2 = 0) then ([],[],(listsX prior bs r).2.2) else thrG prior (listsX prior bs r).1 (out ++ [(listsX prior bs r).2.1]) rows
theorem thrG_drop {prior : Bool} {bs : List OpT} {out rows : List (List OpT)} {i : Nat} (h : i < rows.length) : thrG prior bs out (rows.drop i) = bif !decide ((listsX prior bs rows[i]).2.2 = 0) then ([],[],(listsX prior bs rows[i]).2.2) else thrG prior (listsX prior bs rows[i]).1 (out ++ [(listsX prior bs rows[i]).2.1]) (rows.drop (i + 1)):=by
 rw [List.drop_eq_getElem_cons h,thrG]
end Bow
/- W73: the document's answer of chapter 13: bare, joined, much, both, Both, Through; lists.Through. -/
namespace Bow
open Go Go.Proofs
end Bow
/- SP33: lists, both sides named the other way round; bare ones; in plain Lean. -/
namespace Bow
open Go
section
variable {prior : Bool}
end
theorem listsX_bare (prior : Bool) (xs ys : List OpT) : listsX prior (bareL xs) ys = listsX prior xs ys:=by
 obtain ⟨n,h⟩:=bringX_spec prior xs ys
 obtain ⟨r',h',q1,q2,q3⟩:=bringF_same prior n xs ys (bareL xs) ys _ (bareL_same xs) rfl h
 have e:=bringX_eq h'
 unfold listsX
 rw [e]
 have b : ∀ l : List OpT,bareL l = l.map bareO:=fun l => rfl
 rw [b,b,b,b,q1,q2,q3]
end Bow
/- W80: the law ListsBoth, walked. -/
namespace Bow
open Go Go.Proofs
end Bow
/- SP58: a text, turned place by place by two. -/
namespace Bow
open Go
def appV : List Pl → List UInt8 → List UInt8
 | [],t => t
 | p :: vs,[] => p.1 ++ appV vs []
 | p :: vs,c :: t => p.1 ++ ((bif p.2 then [] else [c]) ++ appV vs t)
def mergeV (first : Bool) : List Pl → List Pl → List Pl
 | a :: va,b :: vb => ((bif first then a.1 ++ b.1 else b.1 ++ a.1),a.2 || b.2) :: mergeV first va vb
 | _,_ => []
theorem merge_turn (first : Bool) : ∀ va vb : List Pl,mergeV first va vb = mergeV (!first) vb va
 | [],[] => rfl
 | [],_ :: _ => rfl
 | _ :: _,[] => rfl
 | a :: va,b :: vb => by
  rw [mergeV,mergeV,merge_turn first va vb,Bool.or_comm]
  cases first <;> rfl
theorem edit_keep (s w : List UInt8) (l : List PieceT) : editP (s ++ w) (⟨s.length,0,[]⟩ :: l) = s ++ editP w l:=by
 rw [editP]
 simp
theorem edit_put (p w : List UInt8) (l : List PieceT) : editP w (⟨0,0,p⟩ :: l) = p ++ editP w l:=by
 rw [editP]
 simp
theorem edit_byte (d : Bool) (c : UInt8) (w : List UInt8) (l : List PieceT) : editP (c :: w) ((bif d then [⟨0,1,[]⟩] else [⟨1,0,[]⟩]) ++ l) = (bif d then [] else [c]) ++ editP w l:=by
 cases d <;> simp [editP]
theorem edit_end (d : Bool) (l : List PieceT) : editP [] ((bif d then [⟨0,1,[]⟩] else [⟨1,0,[]⟩]) ++ l) = editP [] l:=by
 cases d <;> simp [editP]
theorem places_edit (first : Bool) : ∀ (va vb : List Pl) (t : List UInt8),va.length = vb.length → vb.length ≤ t.length + 1 → editP (appV vb t) (placesP first va vb) = appV (mergeV first va vb) t
 | [],[],t,_,_ => by cases t <;> simp [placesP,mergeV,appV,editP]
 | [],_ :: _,_,h,_ => by simp at h
 | _ :: _,[],_,h,_ => by simp at h
 | a :: va,b :: vb,t,h,hl => by
  rw [placesP,mergeV]
  have put : ∀ (w : List UInt8) (l : List PieceT),editP (b.1 ++ w) ((bif first then [⟨0,0,a.1⟩,⟨b.1.length,0,[]⟩] else [⟨b.1.length,0,[]⟩,⟨0,0,a.1⟩]) ++ l) = (bif first then a.1 ++ b.1 else b.1 ++ a.1) ++ editP w l:=by
   intro w l
   cases first
   ·simp only [cond_false,List.cons_append,List.nil_append,List.append_assoc]
    rw [edit_keep,edit_put]
   ·simp only [cond_true,List.cons_append,List.nil_append,List.append_assoc]
    rw [edit_put,edit_keep]
  unfold placeP
  cases t with
  | nil =>
   have hvb : vb = []:=by simpa using hl
   have hva : va = []:=List.length_eq_zero_iff.1 (by rw [hvb] at h;simpa using h)
   subst hvb
   subst hva
   rw [appV,appV,List.append_assoc,put]
   simp only [appV,mergeV,placesP]
   cases b.2 with
   | true => simp [editP]
   | false => simp only [cond_false];rw [edit_end,editP]
  | cons c t =>
   have ih:=places_edit first va vb t (by simpa using h) (by simp at hl ⊢;omega)
   rw [appV,appV,List.append_assoc,put]
   congr 1
   cases b.2 with
   | true => simp only [cond_true,List.nil_append,Bool.or_true];exact ih
   | false => simp only [cond_false,Bool.or_false,List.cons_append,List.nil_append];rw [edit_byte,ih]
end Bow
/- SP59: an edit, done place by place. -/
namespace Bow
open Go
def appF (f : Nat → Pl) : List UInt8 → List UInt8
 | [] => (f 0).1
 | c :: t => (f 0).1 ++ ((bif (f 0).2 then [] else [c]) ++ appF (fun i => f (i + 1)) t)
theorem appF_id : ∀ (t : List UInt8) (f : Nat → Pl),(∀ i,f i = ([],false)) → appF f t = t
 | [],f,h => by rw [appF,h]
 | c :: t,f,h => by
  rw [appF,h,appF_id t _ fun i => h (i + 1)]
  rfl
theorem appF_V : ∀ (n : Nat) (t : List UInt8) (f : Nat → Pl),n ≤ t.length → (∀ i,n < i → f i = ([],false)) → appV ((List.range' 0 (n + 1)).map f) t = appF f t
 | 0,[],f,_,_ => by simp [appV,appF]
 | 0,c :: t,f,_,h => by
  have e:=appF_id t (fun i => f (i + 1)) fun i => h (i + 1) (by omega)
  rw [appF,e]
  simp [appV]
 | n + 1,[],f,hl,_ => by simp at hl
 | n + 1,c :: t,f,hl,h => by
  have ih:=appF_V n t (fun i => f (i + 1)) (by simpa using hl) fun i hi => h (i + 1) (by omega)
  have e : (List.range' 0 (n + 1 + 1)).map f = f 0 :: (List.range' 0 (n + 1)).map fun i => f (i + 1):=by
   rw [List.range'_succ,List.map_cons]
   congr 1
   have : List.range' (0 + 1) (n + 1) = (List.range' 0 (n + 1)).map (· + 1):=by
    rw [show (fun x : Nat => x + 1) = (fun x => 1 + x) from funext fun x => Nat.add_comm x 1,List.map_add_range']
   rw [this,List.map_map]
   rfl
  rw [e,appV,appF,ih]
end Bow
/- SP60: an edit that is normal, done place by place. -/
namespace Bow
open Go
theorem extentP_nn : ∀ {l : List PieceT},Later l → 0 ≤ extentP l
 | [],_ => Int.le_refl _
 | p :: l,h => by
  have:=extentP_nn (l:=l) fun q hq => h q (by simp [hq])
  have:=h p (by simp)
  rw [extentP_cons]
  omega
def placesF (l : List PieceT) (i : Nat) : Pl:=(putAt l i,dropAt l i)
theorem edit_drop {l : List PieceT} (hl : Later l) (ih : ∀ t : List UInt8,extentP l ≤ t.length → editP t l = appF (placesF l) t) : ∀ (d : Nat) (s : List UInt8) (t : List UInt8),(d : Int) + extentP l ≤ t.length → 0 ≤ extentP l → editP t (⟨0,d,s⟩ :: l) = appF (placesF (⟨0,d,s⟩ :: l)) t
 | 0,s,t,h,_ => by
  have e:=ih t (by simpa using h)
  have h0:=later_put0 hl
  have hs : ∀ i,placesF (⟨0,((0 : Nat) : Int),s⟩ :: l) (i + 1) = placesF l (i + 1):=fun i => by
   unfold placesF
   rw [putAt,dropAt]
   simp
  have hz : placesF (⟨0,((0 : Nat) : Int),s⟩ :: l) 0 = (s,dropAt l 0):=by
   unfold placesF
   rw [putAt,dropAt]
   simp
  rw [editP]
  simp only [Int.toNat_zero,List.take_zero,List.nil_append,Int.natCast_zero,Int.add_zero,List.drop_zero]
  rw [e]
  cases t with
  | nil =>
   rw [appF,appF]
   have : (placesF (⟨0,0,s⟩ :: l) 0) = _:=hz
   rw [this]
   show s ++ putAt l 0 = s
   rw [h0,List.append_nil]
  | cons c t =>
   rw [appF,appF]
   have e1 : (placesF (⟨0,0,s⟩ :: l) 0) = _:=hz
   have e2 : (fun i => placesF (⟨0,0,s⟩ :: l) (i + 1)) = fun i => placesF l (i + 1):=funext hs
   rw [e1,e2]
   show s ++ (putAt l 0 ++ _) = _
   rw [h0,List.nil_append]
   rfl
 | d + 1,s,[],h,h2 => by
  simp at h
  omega
 | d + 1,s,c :: t,h,h2 => by
  have e:=edit_drop hl ih d [] t (by simp at h ⊢;omega) h2
  have hz : placesF (⟨0,((d + 1 : Nat) : Int),s⟩ :: l) 0 = (s,true):=by
   unfold placesF
   rw [putAt,dropAt]
   simp
  have hs : (fun i => placesF (⟨0,((d + 1 : Nat) : Int),s⟩ :: l) (i + 1)) = placesF (⟨0,(d : Int),[]⟩ :: l):=funext fun i => by
   unfold placesF
   rw [putAt,dropAt,putAt,dropAt]
   by_cases c1 : i < d
   ·simp [c1]
   ·have : i + 1 - (d + 1) = i - d:=by omega
    simp [c1]
    by_cases c2 : i = 0 <;> simp_all [later_put0 hl]
  rw [appF,hz,hs,← e,editP,editP]
  simp
theorem edit_keep2 {l : List PieceT} (hl : Later l) (ih : ∀ t : List UInt8,extentP l ≤ t.length → editP t l = appF (placesF l) t) (d : Nat) (s : List UInt8) (h2 : 0 ≤ extentP l) : ∀ (k : Nat) (t : List UInt8),(k : Int) + d + extentP l ≤ t.length → editP t (⟨k,d,s⟩ :: l) = appF (placesF (⟨k,d,s⟩ :: l)) t
 | 0,t,h => edit_drop hl ih d s t (by omega) h2
 | k + 1,[],h => by
  simp at h
  omega
 | k + 1,c :: t,h => by
  have e:=edit_keep2 hl ih d s h2 k t (by simp at h ⊢;omega)
  have hz : placesF (⟨((k + 1 : Nat) : Int),(d : Int),s⟩ :: l) 0 = ([],false):=by
   unfold placesF
   rw [putAt,dropAt]
   simp
  have hs : (fun i => placesF (⟨((k + 1 : Nat) : Int),(d : Int),s⟩ :: l) (i + 1)) = placesF (⟨(k : Int),(d : Int),s⟩ :: l):=funext fun i => by
   have h1:=putAt_keep (p:=⟨((k + 1 : Nat) : Int),(d : Int),s⟩) (l:=l) (show (0 : Int) < ((k + 1 : Nat) : Int) by omega) i
   have h3:=dropAt_keep (p:=⟨((k + 1 : Nat) : Int),(d : Int),s⟩) (l:=l) (show (0 : Int) < ((k + 1 : Nat) : Int) by omega) i
   have e1 : ((k + 1 : Nat) : Int) - 1 = (k : Int):=by omega
   simp only [e1] at h1 h3
   unfold placesF
   rw [← h1,← h3]
  rw [appF,hz,hs,← e,editP,editP]
  have e2 : (((k + 1 : Nat) : Int) + (d : Int)).toNat = ((k : Int) + (d : Int)).toNat + 1:=by omega
  simp only [e2,List.drop_succ_cons]
  simp
theorem edit_F : ∀ (l : List PieceT) (t : List UInt8),Later l → extentP l ≤ t.length → editP t l = appF (placesF l) t
 | [],t,_,_ => by
  rw [editP,appF_id]
  intro i
  rfl
 | p :: l,t,hl,h => by
  have hp:=hl p (by simp)
  have hl' : Later l:=fun q hq => hl q (by simp [hq])
  have hx : 0 ≤ extentP l:=extentP_nn hl'
  obtain ⟨k,d,s⟩:=p
  simp only at hp
  have e:=edit_keep2 hl' (fun t h => edit_F l t hl' h) d.toNat s hx k.toNat t (by rw [extentP_cons] at h;simp only at h;omega)
  rw [show ((k.toNat : Nat) : Int) = k by omega,show ((d.toNat : Nat) : Int) = d by omega] at e
  exact e
end Bow
