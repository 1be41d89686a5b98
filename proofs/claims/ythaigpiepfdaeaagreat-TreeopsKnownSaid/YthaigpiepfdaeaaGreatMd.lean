/- The library, part 4: AE34, AE35, SP2, SP3, SP4, SP5, SP6, SP7, SP8, SP10, SP11, SP12, SP13, SP14, SP21, SP22, SP23, SP29, SP24, SP25, SP26, SP30, AE36, AE37, AE38, AE39, AE40, AE41, AE42, W1, W2, W3, W4, W5, W6. -/
import Derived.Test.YthaigpiepfdaeaaGreatMc
import Derived.Laws.MakeOwn
import Derived.Laws.BytesArg
import Derived.Lib.Bytealg
import Derived.ChangeArms
import Derived.ChangeOld
import Derived.DataReads
import Derived.Laws.Shifts
import Derived.Test.YthaigpiepfdaeaaGreatRows
import Derived.KernelRfl
/- AE34: operations that a walk steps over by a rule of their own: makes of slices, bytes to a string, a slice held against nil. -/
namespace Bow
open Go

section
variable {c : Cx} {E : Env} {T : Heap} {ops : Array Oper} {i : Nat} {rest : List Nat} {k : List Item} {o : Oper}

theorem goes_opTo {op : Op} {u : V} {T' : Heap} (n : Nat) (ho : lget ops.toList i = some o) (hg : o.guard = none) (hop : o.op = op) (hto : OpTo c op E T u T') (hnd : ∀ cl, op ≠ .defer cl)
    (h : putE c.nt o.dst u E False fun E' => evp c n (.inRegion ops rest :: k) E' T') : Goes c (.inRegion ops (i :: rest) :: k) E T := by
  rw [lget_eq, Array.getElem?_toList] at ho
  subst hop
  obtain ⟨E', h, hd⟩ := (putE_some h).resolve_left id
  exact goes_op ho (fun _ _ _ _ _ _ => wanted_none hg _) hto hnd hd (evp_sound _ _ _ _ _ h)

theorem goes_make {t e : TypeId} {xl xc : Operand} {ti : TypeInfo} {z : Value} (n N : Nat) (ho : lget ops.toList i = some o) (hg : o.guard = none) (hop : o.op = .makeSlice t xl xc) (h1 : opd E xl = .int .i64 N) (h2 : opd E xc = .int .i64 N)
    (ht : tyU c.P t = some (.slice e)) (hi : tyI c.P e = some ti) (hz : ti.zero = some z) (hsz : (Nat.beq z.cells.size ti.size && Nat.ble 1 ti.size && Nat.ble 1 ti.bytes && onesB (ofVal z).cells && Nat.beq (lcount (ofVal z).cells 0) ti.size) = true) (hb : ti.bytes * N ≤ 281474976710656)
    (h : putE c.nt o.dst (.osl (.loc T.length) 0 0 N) E False fun E' => lsnoc T (some (.vec 0 ti.size (List.replicate N (ofVal z)))) fun T' => evp c n (.inRegion ops rest :: k) E' T') : Goes c (.inRegion ops (i :: rest) :: k) E T := by
  simp only [lsnoc_eq] at h
  simp only [Bool.and_eq_true, lcount_eq, Nat.add_zero] at hsz
  obtain ⟨⟨⟨⟨s1, s2⟩, s3⟩, s4⟩, s5⟩ := hsz
  have s1 := Nat.eq_of_beq_eq_true s1
  have s2 : 1 ≤ ti.size := Nat.le_of_ble_eq_true s2
  have s3 : 1 ≤ ti.bytes := Nat.le_of_ble_eq_true s3
  have s5 := Nat.eq_of_beq_eq_true s5
  have hN : N ≤ 281474976710656 := by
    have : 1 * N ≤ ti.bytes * N := Nat.mul_le_mul_right _ s3
    omega
  refine goes_opTo n ho hg hop (fun o hop w β H m a hs => ?_) (fun cl h => by cases h) h
  have e1 := rep_int (by have := opd_rep hs xl; rwa [h1] at this)
  have e2 := rep_int (by have := opd_rep hs xc; rwa [h2] at this)
  have hb' : (ti.bytes : Int) * (N : Int) ≤ 281474976710656 := by
    have h : ((ti.bytes * N : Nat) : Int) ≤ 281474976710656 := by omega
    rwa [Int.natCast_mul] at h
  have hrun := run_make (P := c.P) w t e ti z (tyU_sound ht) (tyI_sound hi) hz .i64 .i64 N N (by omega) (by omega) hb' (by omega)
  simp only [Int.toNat_natCast] at hrun
  have hzr : RowRep w β H (V.convL m (ofVal z).cells) z.cells.toList := ofVal_row m z
  have hzp : V.convL m (ofVal z).cells = (ofVal z).cells := by
    refine pureL_conv m _ ?_
    have key1 : ∀ v, (ofVal1 v).pureB = true := fun v => by
      unfold ofVal1
      split <;> first | rfl | skip
      cases (Nat.ble _ 1000000) <;> rfl
    have key : ∀ l : List Value, V.pureL (lmap ofVal1 l) = true := fun l => by
      induction l with
      | nil => rfl
      | cons x l ih => simp only [lmap, V.pureL, key1, ih, Bool.and_self]
    unfold ofVal
    split
    · exact key _
    · rw [ofVal1_cells]
      simp [V.pureL, key1]
  rw [hzp] at hzr
  obtain ⟨β', H', k1, k2, k3⟩ := hs.newVec 0 ti.size (List.replicate N (ofVal z)) (madeCells z.cells (N * ti.size)) e N N (tyG_zero _) s2 (fun x hx => by rw [List.eq_of_mem_replicate hx]; exact ⟨s5, s4⟩) (by simp) (Nat.le_refl _) (by unfold maxLen; omega) (by simp [madeCells])
    (fun ix x j cc v hx hj hv => by
      have hxl := lt_of_get hx
      rw [List.length_replicate] at hxl
      have hxe := List.eq_of_mem_replicate (List.mem_of_getElem? hx)
      subst hxe
      have hjl := lt_of_get hj
      have hlt : ix * ti.size + j < N * ti.size := by
        have : (ix + 1) * ti.size ≤ N * ti.size := Nat.mul_le_mul_right _ hxl
        rw [Nat.add_mul] at this
        omega
      rw [madeCells_get z.cells _ _ hlt (by omega)] at hv
      injection hv with hv
      have hmod : (ix * ti.size + j) % z.cells.size = j := by rw [s1, Nat.add_comm, Nat.add_mul_mod_self_right, Nat.mod_eq_of_lt (by omega)]
      rw [hmod] at hv
      refine hzr.2 j cc v hj ?_
      rw [← hv]
      have : j < z.cells.size := by omega
      simp [this])
  refine ⟨_, _, _, β', H', _, ?_, .inl rfl, k1, k2, k3, List.prefix_append _ _⟩
  simp only [execOp, hop, Sem.run_bind, e1, e2, hrun, Result.andThen_ok]
  rfl

/-- Bytes that are only read, made a string. -/
theorem goes_bytesStr {t t' e : TypeId} {x : Operand} (n : Nat) (bs : List UInt8) (ho : lget ops.toList i = some o) (hg : o.guard = none) (hop : o.op = .convert t t' x) (hx : opd E x = .sl 1 (bs.map fun b => .int .u8 b.toNat))
    (ht : tyU c.P t = some (.slice e)) (he : tyU c.P e = some (.int .u8)) (ht' : tyU c.P t' = some .string) (h : putE c.nt o.dst (.str bs) E False fun E' => evp c n (.inRegion ops rest :: k) E' T) : Goes c (.inRegion ops (i :: rest) :: k) E T := by
  refine goes_opTo n ho hg hop (OpTo.still fun o hop w β H m a hs => ?_) (fun cl h => by cases h) h
  have hr := opd_rep hs x
  simp only [hx, V.conv] at hr
  generalize hq : a.eval x = q at hr
  generalize hy : V.sl 1 (bs.map fun b => .int .u8 b.toNat) = y at hr
  cases hr with
  | sl sz xs ad cap vals hcap hmax hok ha hc =>
    injection hy with y1 y2
    subst y1 y2
    simp only [List.length_map] at hcap ha ⊢
    have hmx : bs.length ≤ maxLen := by omega
    refine ⟨.string ⟨bs.toArray⟩, ?_, .str bs hmx⟩
    simp only [execOp, hop, hq]
    have hstr : strOfNums (bs.map fun b => (b.toNat : Int)) = ⟨bs.toArray⟩ := by
      unfold strOfNums
      congr 1
      rw [List.map_map]
      congr 1
      conv => rhs; rw [← List.map_id bs]
      refine List.map_congr_left fun b _ => ?_
      simp
    have hconv : (convert t t' (.slice ad bs.length cap)).run c.P w = .ok (.string ⟨bs.toArray⟩) w := by
      by_cases hne : bs = []
      · subst hne
        have key : (convert t t' (.slice ad 0 cap)).run c.P w = .ok (.string ⟨#[]⟩) w := by
          rw [run_convert_bytes_string w t t' e ad 0 cap (tyU_sound ht) (tyU_sound he) (tyU_sound ht')]
          cases ad with
          | none => simp [Conv.bytesToString]; rfl
          | some ad =>
            have := run_bytesToString (P := c.P) w ad 0 cap [] (by simp [loadCells, loadCellsFrom])
            rw [this]
            rfl
        exact key
      · obtain ⟨⟨b, off, spot⟩, rfl, g1, g2, g3⟩ := ha (by simpa using hne)
        rw [run_convert_bytes_string w t t' e _ _ cap (tyU_sound ht) (tyU_sound he) (tyU_sound ht')]
        have hload : (loadCells ⟨b, off, spot⟩ bs.length).run c.P w = .ok ((bs.map fun b => (b.toNat : Int)).map (Value.int .u8)).toArray w := by
          have := run_loadCells_list (P := c.P) w ⟨b, off, spot⟩ ((bs.map fun b => (b.toNat : Int)).map (Value.int .u8)) (fun j v hj => by
            have hjl : j < bs.length := by have := lt_of_get hj; simpa using this
            have h3 := g3 j (by simpa using hjl)
            rw [h3]
            have hcj := hc j (.int .u8 (bs[j]).toNat) 0 (.int .u8 (bs[j]).toNat) (by simp [hjl]) rfl
            simp only [Nat.mul_one, Nat.add_zero] at hcj
            have hv := rep_int (m := m) hcj
            rw [hv]
            simp [hjl] at hj
            rw [← hj])
          simpa using this
        rw [run_bytesToString (P := c.P) w _ _ cap _ hload, foldl_push_bytes, ← hstr]
        simp [strOfNums, ByteArray.empty, ByteArray.emptyWithCapacity]
        rfl
    simp only [List.length_map]
    rw [Sem.run_bind, hconv]
    rfl
  | _ => cases hy

/-- A slice that is only read, held against nil: with elements it is not nil; else it may be. -/
theorem goes_nileq {t t' e : TypeId} {x : Operand} {sz : Nat} {xs : List V} {y : Operand} (n : Nat) (ho : lget ops.toList i = some o) (hg : o.guard = none) (hop : o.op = .binOp .eql t x y t') (hx : opd E x = .sl sz xs) (hy : y = .const (.slice none 0 0))
    (ht : tyU c.P t = some (.slice e)) (h : ∀ b : Bool, (b = true → xs = []) → putE c.nt o.dst (.bool b) E False fun E' => evp c n (.inRegion ops rest :: k) E' T) : Goes c (.inRegion ops (i :: rest) :: k) E T := by
  have step : ∀ (w : World) (β : Nat → Loc) (H : Heap) (m : List Nat) (a : Act), SRel c.imps c.nt w β H m ⟨E, T, c.B, c.D⟩ a → ∃ b : Bool, (b = true → xs = []) ∧ (execOp a.eval o).run c.P w = .ok (.value (.bool b)) w := by
    intro w β H m a hs
    have hr := opd_rep hs x
    simp only [hx, V.conv] at hr
    generalize hq : a.eval x = q at hr
    generalize hyy : V.sl sz xs = yy at hr
    cases hr with
    | sl sz' xs' ad cap vals hcap hmax hok ha hc =>
      injection hyy with y1 y2
      subst y1 y2
      subst hy
      refine ⟨ad.isNone, fun hn => ?_, ?_⟩
      · refine Classical.byContradiction fun hne => ?_
        obtain ⟨ad', rfl, _⟩ := ha hne
        cases hn
      · have e2 : a.eval (.const (.slice none 0 0)) = .slice none 0 0 := rfl
        simp only [execOp, hop, hq, e2]
        have heq : (Op.equal t (.slice ad xs.length cap) (.slice none 0 0)).run c.P w = .ok ad.isNone w := by
          unfold Op.equal Op.maxDepth Op.equalIn
          cases ad <;> simp [Sem.run_bind, run_underlying (tyU_sound ht)]
        have hbin : (binOp .eql t (.slice ad xs.length cap) (.slice none 0 0)).run c.P w = .ok (.bool ad.isNone) w := by
          unfold binOp
          simp only [Sem.run_bind, heq]
          simp
        have hgd : (eqGuard .eql t x (.const (.slice none 0 0)) (.slice ad xs.length cap) (.slice none 0 0)).run c.P w = .ok () w := by
          simp [eqGuard]
        simp only [Sem.run_bind, hgd, Result.andThen_ok, hbin]
        rfl
    | _ => cases hyy
  refine goes_step fun w β H m a b cs hs h1 h2 h3 => ?_
  obtain ⟨bb, hb1, hb2⟩ := step w β H m a hs
  obtain ⟨E', h, hd⟩ := (putE_some (h bb hb1)).resolve_left id
  rw [lget_eq, Array.getElem?_toList] at ho
  have hfin : (b.atR a (.inRegion ops (i :: rest) :: k)).finish (.bool bb) = b.atR (a.put o.dst (.bool bb)) (.inRegion ops rest :: k) := by
    rw [Frame.finish_atR]
    simp [ho]
  refine ⟨w, β, H, m, a.put o.dst (.bool bb), .inRegion ops rest :: k, ⟨E', T, c.B, c.D⟩, .one ?_, hs.putTo (.bool bb) hd, Fr.refl _ _ _, evp_sound _ _ _ _ _ h⟩
  refine step_lone_go ?_
  rw [stepGR_op ho (wanted_none hg _), Oper.semAt_eq _ _ _ (by intro cl; rw [hop]; exact fun h => by cases h)]
  simp [stepG.apply, hb2, Sem.runT_eq, hfin]
end
end Bow
/- AE35: an own object is frozen, within rows of cells, too. -/
namespace Bow
open Go

section
variable {w : World} {β : Nat → Loc} {H : Heap}
theorem Fr.swap {r : Nat} {o o' : HObj} (ho : H[r]? = some (some o)) (he : Evo o o') (hns : ¬ isSeal o := by exact fun h => h) : Fr w β H w β (H.set r (some o')) := by
  refine ⟨⟨rfl, rfl, rfl, Nat.le_refl _, by simp, ?_, fun _ _ _ => rfl, ?_, fun _ _ => rfl, fun q s hs => ⟨?_, rfl⟩⟩, fun _ _ h => h⟩
  · intro q p _ hp
    rcases get_set_some hp with ⟨h1, h2, _⟩ | ⟨_, h2⟩
    · injection h2 with h2
      subst h1 h2
      exact ⟨o, ho, he, fun _ _ => rfl⟩
    · exact ⟨p, h2, Evo.refl _, fun _ _ => rfl⟩
  · rintro k ⟨q, M, ⟨p, hl, hpn⟩, hb⟩
    rcases get_set_some hl with ⟨h1, _, _⟩ | ⟨_, h2⟩
    · subst h1
      exact .inr ⟨q, M, ⟨o, ho, hns⟩, hb⟩
    · exact .inr ⟨q, M, ⟨p, h2, hpn⟩, hb⟩
  · rcases get_set_some hs with ⟨_, h2, _⟩ | ⟨_, h2⟩
    · injection h2 with h2
      subst h2
      exact (hns (by cases o <;> first | exact he.elim | trivial)).elim
    · exact h2
theorem HRel.swap (h : HRel w β H) {r : Nat} {o o' : HObj} (ho : H[r]? = some (some o)) (he : Evo o o') (hn : ORel w β (H.set r (some o')) (β r) o') (hns : ¬ isSeal o := by exact fun h => h) : HRel w β (H.set r (some o')) := by
  have go : ∀ {q : Nat}, live (H.set r (some o')) q → live H q := fun {q} hq => by
    obtain ⟨p, hp⟩ := hq
    rcases get_set_some hp with ⟨h1, _, _⟩ | ⟨_, h2⟩
    · subst h1; exact ⟨o, ho⟩
    · exact ⟨p, h2⟩
  refine h.step (Fr.swap ho he hns) ?_ (fun q q' b M M' hl hl' hb hb' => h.inj q q' b M M' (go hl) (go hl') hb hb')
  intro q p hp
  rcases get_set_some hp with ⟨h1, h2, _⟩ | ⟨_, h2⟩
  · injection h2 with h2
    subst h1 h2
    exact .inr hn
  · exact .inl ⟨h2, rfl, fun _ _ _ => rfl⟩
end

def fzAt (k : Nat) (o : HObj) : List Nat → Heap → (Heap → Prop) → Prop
  | [], T, K => K T
  | j :: js, T, K => match lget T j with
    | some (some (.box cs)) => lset T j (some (.box (V.fzL k o cs))) fun T' => fzAt k o js T' K
    | _ => False

theorem fzAt_sound {imps : List Nat} {nt : Nat} {w : World} {β : Nat → Loc} {H : Heap} {m : List Nat} {E0 E : Env} {T : Heap} {B : Base} {D : List Nat} {a : Act} {k : Nat} {o : HObj} (h0 : SRel imps nt w β H m ⟨E0, T, B, D⟩ a) :
    ∀ (js : List Nat) (T1 : Heap) (K : Heap → Prop) {H1 : Heap}, SRel imps nt w β H1 m ⟨E, T1, B, D⟩ a → js.Nodup → (∀ j ∈ js, T1[j]? = T[j]?) → (∀ (v : V) (u : Value), Rep w β H (v.conv m) u → Rep w β H1 ((v.fz k o).conv m) u) → fzAt k o js T1 K →
      ∃ T2 H2, K T2 ∧ SRel imps nt w β H2 m ⟨E, T2, B, D⟩ a ∧ Fr w β H1 w β H2
  | [], T1, K, H1, h1, _, _, _, h => ⟨T1, H1, h, h1, Fr.refl _ _ _⟩
  | j :: js, T1, K, H1, h1, hnd, hT, hrep, h => by
    rw [fzAt, lget_eq] at h
    split at h
    case h_2 => exact h.elim
    rename_i cs hcs
    rw [lset_eq] at h
    obtain ⟨hn1, hn2⟩ := List.nodup_cons.1 hnd
    have hTj : T[j]? = some (some (.box cs)) := by rw [← hT j List.mem_cons_self]; exact hcs
    obtain ⟨r, hr, hH⟩ := h0.at hTj
    obtain ⟨r', hr', hH1⟩ := h1.at hcs
    have : r' = r := Option.some.inj (hr'.symm.trans hr)
    subst this
    simp only [HObj.conv] at hH hH1
    have hob := h0.hrel.obj r' _ hH
    have hob1 := h1.hrel.obj r' _ hH1
    have hscf : V.scL m.length (V.fzL k o cs) := by
      have := h1.scT j _ hcs
      rw [← h1.mlen] at this
      exact V.fzL_sc cs this
    have hfr : Fr w β H1 w β (H1.set r' (some ((HObj.box (V.fzL k o cs)).conv m))) := Fr.swap hH1 trivial
    have hrel : HRel w β (H1.set r' (some ((HObj.box (V.fzL k o cs)).conv m))) := by
      refine h1.hrel.swap hH1 trivial ?_
      simp only [HObj.conv]
      cases hβ : β r' with
      | none => trivial
      | nil => rw [hβ] at hob1; exact hob1
      | blk b N =>
        rw [hβ] at hob hob1
        obtain ⟨vs, e, q1, q2, q3, q4⟩ := hob
        refine ⟨vs, e, q1, q2, by rw [V.convL_eq, V.fzL_eq]; rw [V.convL_eq] at q3; simpa using q3, fun i c v hi hv => ?_⟩
        rw [V.convL_eq, V.fzL_eq, List.map_map, List.getElem?_map, Option.map_eq_some_iff] at hi
        obtain ⟨c0, hi, rfl⟩ := hi
        refine Rep.mono ?_ hfr
        exact hrep c0 v (q4 i _ v (by rw [V.convL_eq, List.getElem?_map, hi]; rfl) hv)
    have hset := h1.setAt (o' := some (.box (V.fzL k o cs))) (w' := w) hr (fun o1 e1 => by injection e1 with e1; subst e1; exact hscf)
      (fun hm => absurd hm (h1.notD hcs (by simp))) hfr hrel
    obtain ⟨T2, H2, g1, g2, g3⟩ := fzAt_sound h0 js _ K hset hn2 (fun j' hj' => by
      have hne : j' ≠ j := fun e => hn1 (e ▸ hj')
      rw [List.getElem?_set_ne (fun e => hne e.symm)]
      exact hT j' (List.mem_cons_of_mem _ hj')) (fun v u hv => (hrep v u hv).mono hfr) h
    exact ⟨T2, H2, g1, g2, hfr.trans g3⟩

/-- Freezes the object k; what the rows of cells js say of it, too. -/
theorem goes_freezeIn {c : Cx} {todo : List Item} {E : Env} {T : Heap} (k : Nat) (js : List Nat) {o : HObj} (hk : lget T k = some (some o)) (ho : frzOk o = true) (hjs : nodupB (k :: js) = true)
    (h : lset T k none fun T' => fzAt k o js T' fun T'' => Goes c todo (Env.fz k o E) T'') : Goes c todo E T := by
  rw [lset_eq] at h
  rw [lget_eq] at hk
  have hnd := nodupB_iff _ hjs
  obtain ⟨hn1, hn2⟩ := List.nodup_cons.1 hnd
  refine goes_step fun w β H m a b cs hs _ _ _ => ?_
  obtain ⟨H', h1, h2, h3⟩ := hs.freeze hk ho
  obtain ⟨T2, H2, g1, g2, g3⟩ := fzAt_sound (k := k) (o := o) hs js _ _ h1 hn2 (fun j hj => by
    have hne : k ≠ j := fun e => by subst e; exact hn1 hj
    rw [List.getElem?_set_ne hne]) h3 h
  exact ⟨w, β, H2, m, a, todo, ⟨_, _, c.B, c.D⟩, .refl _ _, g2, h2.trans g3, g1⟩
end Bow
/- SP2: operations, as values; which are formed. -/
namespace Bow
open Go

structure PieceT where
  keep : Int
  drop : Int
  put : List UInt8
structure OpT where
  kind : Int
  path : List Int
  at_ : Int
  to : List Int
  id : Int
  leaf : Bool
  label : List UInt8
  key : List UInt8
  value : List UInt8
  gone : Bool
  pieces : List PieceT

def intV (n : Int) : V := .int .i64 n
def pieceV (p : PieceT) : V := .agg [.int .i64 p.keep, .int .i64 p.drop, .str p.put]
def pathV (p : List Int) : V := .sl 1 (p.map intV)
def piecesV (l : List PieceT) : V := .sl 3 (l.map pieceV)
def opV (o : OpT) : V := .agg [.int .u8 o.kind, pathV o.path, .int .i64 o.at_, pathV o.to, .int .u64 o.id, .bool o.leaf, .str o.label, .str o.key, .str o.value, .bool o.gone, piecesV o.pieces]

/-! ### Leaves of walks that end in a truth value -/
theorem leaf_tt {b : Bool} (h : b = true) : ∃ y, Wk .tt y ∧ y.pureB = true ∧ y = .bool b := ⟨_, Wk.tt, rfl, by rw [h]⟩
theorem leaf_ff {b : Bool} (h : b = false) : ∃ y, Wk .ff y ∧ y.pureB = true ∧ y = .bool b := ⟨_, Wk.ff, rfl, by rw [h]⟩
theorem leaf_b {b b' : Bool} (h : b' = b) : ∃ y, Wk (.bool b') y ∧ y.pureB = true ∧ y = .bool b := ⟨_, Wk.refl _, rfl, by rw [h]⟩
/-! ### Formed -/
def stepOk (n : Int) : Bool := decide (0 ≤ n) && decide (n < 1048576)
def mayP (p : List Int) : Bool := decide (p.length ≤ 64) && p.all stepOk
def keyOk (s : List UInt8) : Bool := decide (1 ≤ s.length) && decide (s.length ≤ 64)
/-- Pieces that are right, when so many bytes have been put ahead. -/
def rightGo : Nat → List PieceT → Bool
  | _, [] => true
  | n, p :: l => (decide (0 ≤ p.keep) && decide (p.keep ≤ 1048576) && decide (0 ≤ p.drop) && decide (p.drop ≤ 1048576) && decide (n + p.put.length ≤ 1048576)) && rightGo (n + p.put.length) l
def rightP (l : List PieceT) : Bool := decide (l.length ≤ 4096) && rightGo 0 l
def gapOk (n : Int) : Bool := decide (0 ≤ n) && decide (n ≤ 1048576)
def formedB (o : OpT) : Bool :=
  mayP o.path && (bif o.kind == 1 then gapOk o.at_ && decide ((o.label.length : Int) ≤ 64) else bif o.kind == 2 then true else bif o.kind == 3 then gapOk o.at_ && mayP o.to
    else bif o.kind == 4 then keyOk o.key && (o.gone || decide ((o.value.length : Int) ≤ 256)) else bif o.kind == 5 then decide ((o.label.length : Int) ≤ 64) else bif o.kind == 6 then rightP o.pieces else false)

/-! ### Bare -/
def noOp (k : Int) : OpT := ⟨k, [], 0, [], 0, false, [], [], [], false, []⟩
def bareO (o : OpT) : OpT :=
  bif o.kind == 1 then { noOp 1 with path := o.path, at_ := o.at_, id := o.id, leaf := o.leaf, label := o.label }
  else bif o.kind == 2 then { noOp 2 with path := o.path }
  else bif o.kind == 3 then { noOp 3 with path := o.path, at_ := o.at_, to := o.to }
  else bif o.kind == 4 then { noOp 4 with path := o.path, key := o.key, gone := o.gone, value := bif o.gone then [] else o.value }
  else bif o.kind == 5 then { noOp 5 with path := o.path, label := o.label }
  else bif o.kind == 6 then { noOp 6 with path := o.path, pieces := o.pieces }
  else noOp o.kind
/-- So much, at most. -/
structure OpT.Lt (o : OpT) (n : Nat) : Prop where
  path : o.path.length ≤ n
  to : o.to.length ≤ n
  label : o.label.length ≤ n
  key : o.key.length ≤ n
  value : o.value.length ≤ n
  pieces : o.pieces.length ≤ n
def putsLen (l : List PieceT) : Nat := l.foldr (fun p n => p.put.length + n) 0
end Bow
/- SP3: paths, in plain Lean. -/
namespace Bow
open Go

def common : List Int → List Int → Nat
  | p :: ps, q :: qs => bif decide (p = q) then common ps qs + 1 else 0
  | _, _ => 0
/-- Is a path another one, or does it lead to above it? -/
def within (p q : List Int) : Bool := decide (p = q.take p.length)
theorem common_within : ∀ p q : List Int, decide (common p q = p.length) = within p q
  | [], q => by simp [common, within]
  | p :: ps, [] => by simp [common, within]
  | p :: ps, q :: qs => by
    have ih := common_within ps qs
    unfold within at ih ⊢
    rw [common]
    by_cases h : p = q
    · subst h
      simp only [decide_true, cond_true, List.length_cons, Nat.add_right_cancel_iff, List.take_succ_cons, List.cons.injEq, true_and]
      exact ih
    · rw [decide_eq_false h]
      simp [h]
theorem common_same (p q : List Int) (h : p.length = q.length) : decide (common p q = p.length) = decide (p = q) := by
  rw [common_within, within, h, List.take_length]
theorem within_len {p q : List Int} (h : within p q = true) : p.length ≤ q.length := by
  unfold within at h
  have h := of_decide_eq_true h
  have := congrArg List.length h
  simp at this
  omega
end Bow
/- SP4: nodes by their paths, in plain Lean. -/
namespace Bow
open Go

def subT (t : Tree) (i : Int) : Option Tree := bif decide (i < 0) then none else t.subs[i.toNat]?
def atT : Tree → List Int → Option Tree
  | t, [] => some t
  | t, i :: p => match subT t i with
    | none => none
    | some s => atT s p
theorem subT_some {t s : Tree} {i : Int} (h : subT t i = some s) : 0 ≤ i ∧ t.subs[i.toNat]? = some s ∧ s ∈ t.subs := by
  unfold subT at h
  by_cases hi : i < 0
  · rw [decide_eq_true hi] at h; cases h
  · rw [decide_eq_false hi] at h
    exact ⟨by omega, h, List.mem_of_getElem? h⟩
theorem subT_neg {t : Tree} {i : Int} (h : i < 0) : subT t i = none := by unfold subT; rw [decide_eq_true h]; rfl
theorem subT_big {t : Tree} {i : Int} (h : (t.subs.length : Int) ≤ i) : subT t i = none := by
  unfold subT
  rw [decide_eq_false (by omega)]
  simp
  omega
theorem subT_at {t : Tree} {i : Int} (h0 : 0 ≤ i) (h1 : i < t.subs.length) : ∃ s, subT t i = some s ∧ t.subs[i.toNat]? = some s := by
  have hlt : i.toNat < t.subs.length := by omega
  refine ⟨t.subs[i.toNat], ?_, List.getElem?_eq_getElem hlt⟩
  unfold subT
  rw [decide_eq_false (by omega)]
  exact List.getElem?_eq_getElem hlt
theorem atT_size {s : Tree} : ∀ {p : List Int} {t : Tree}, atT t p = some s → s.size ≤ t.size
  | [], t, h => by rw [atT] at h; injection h with h; subst h; exact Nat.le_refl _
  | i :: p, t, h => by
    rw [atT] at h
    cases hs : subT t i with
    | none => rw [hs] at h; cases h
    | some u =>
      rw [hs] at h
      have := atT_size (p := p) h
      have := Tree.size_sub (subT_some hs).2.2
      omega
theorem atT_weight {s : Tree} : ∀ {p : List Int} {t : Tree}, atT t p = some s → s.weight ≤ t.weight
  | [], t, h => by rw [atT] at h; injection h with h; subst h; exact Nat.le_refl _
  | i :: p, t, h => by
    rw [atT] at h
    cases hs : subT t i with
    | none => rw [hs] at h; cases h
    | some u =>
      rw [hs] at h
      have := atT_weight (p := p) h
      have := weight_sub (subT_some hs).2.2
      omega
/-- What At answers. -/
def atV (t0 : Tree) : Option Tree → V
  | some s => .tup [nodeV s, .tt]
  | none => .tup [nodeV t0, .ff]
def intoE (t : Tree) (at_ : Int) : Int := bif t.leaf then 83 else bif decide ((t.subs.length : Int) < at_) then 81 else 0
/-! ### Changes -/
def Tree.withSubs : Tree → List Tree → Tree
  | .mk i l a b c _, ss => .mk i l a b c ss
def changeT (F : Tree → Tree) : Tree → List Int → Tree
  | t, [] => F t
  | t, i :: p => match subT t i with
    | none => t
    | some s => t.withSubs (t.subs.set i.toNat (changeT F s p))
theorem withSubs_V (t : Tree) (ss : List Tree) : nodeV (t.withSubs ss) = .agg [.int .u64 t.id, .bool t.leaf, .str t.label, .sl 2 (t.attrs.map attrV), .str t.text, .sl 6 (ss.map nodeV)] := by
  cases t
  unfold nodeV
  rw [subV_eq]
  rfl
theorem withSubs_subs (t : Tree) (ss : List Tree) : (t.withSubs ss).subs = ss := by cases t; rfl
/-- A node at a gap. -/
def insT (at_ : Int) (x : Tree) (y : Tree) : Tree := y.withSubs (y.subs.take at_.toNat ++ x :: y.subs.drop at_.toNat)
/-- A node less. -/
def delT (at_ : Int) (y : Tree) : Tree := y.withSubs (y.subs.take at_.toNat ++ y.subs.drop (at_.toNat + 1))
/-- Where a moved node's target and gap are, when it has been taken out of place i of the node at q. -/
def landT (q : List Int) (i : Int) (to : List Int) (at_ : Int) : List Int × Int :=
  bif decide (q = to) && decide (i < at_) then (to, at_ - 1)
  else bif within q to && (decide (q.length < to.length) && decide (i < to.getD q.length 0)) then (to.set q.length (to.getD q.length 0 - 1), at_)
  else (to, at_)
end Bow
/- SP5: right trees, in plain Lean. -/
namespace Bow
open Go

def leS (a b : List UInt8) : Bool := Op.bytesLess a b || decide (a = b)
def ordOk : Option (List UInt8) → List UInt8 → Bool
  | none, _ => true
  | some k, s => !leS s k
def attrOk (k : Option (List UInt8)) (a : List UInt8 × List UInt8) : Bool := keyOk a.1 && (decide ((a.2.length : Int) ≤ 256) && ordOk k a.1)
/-- Attributes that are right, behind one of the key k. -/
def attrsOk : Option (List UInt8) → List (List UInt8 × List UInt8) → Bool
  | _, [] => true
  | k, a :: l => attrOk k a && attrsOk (some a.1) l
def headOk (t : Tree) : Bool := !decide ((64 : Int) < t.label.length) && (!(t.leaf && decide ((0 : Int) < t.subs.length)) && !(!t.leaf && !decide (t.text = [])))
/-- A node itself is right. -/
def rightN (t : Tree) : Bool := headOk t && attrsOk none t.attrs
mutual
def Tree.rightA : Tree → Bool
  | .mk i l a b c ss => rightN (.mk i l a b c ss) && rightsA ss
def rightsA : List Tree → Bool
  | [] => true
  | s :: ss => s.rightA && rightsA ss
end
theorem rightA_eq (t : Tree) : t.rightA = (rightN t && rightsA t.subs) := by cases t; rw [Tree.rightA]; rfl
theorem rightsA_all : ∀ ss : List Tree, rightsA ss = ss.all Tree.rightA
  | [] => by rw [rightsA]; rfl
  | s :: ss => by rw [rightsA, rightsA_all ss]; rfl
mutual
theorem pre_right : ∀ (t : Tree) (d : Int), (t.pre d).all (fun p => rightN p.2) = t.rightA
  | .mk i l a b c ss, d => by rw [Tree.pre, List.all_cons, pres_right ss (d + 1), Tree.rightA]
theorem pres_right : ∀ (ss : List Tree) (d : Int), (pres d ss).all (fun p => rightN p.2) = rightsA ss
  | [], d => by rw [pres]; rfl
  | s :: ss, d => by rw [pres, List.all_append, pre_right s d, pres_right ss d, rightsA]
end
def rightT (t : Tree) : Bool := !t.leaf && t.rightA

/-- The key ahead of place i. -/
def prevK (l : List (List UInt8 × List UInt8)) : Nat → Option (List UInt8)
  | 0 => none
  | i + 1 => some (l.getD i ([], [])).1
theorem attrs_at {l : List (List UInt8 × List UInt8)} {i : Nat} (hi : i < l.length) : attrsOk (prevK l i) (l.drop i) = (attrOk (prevK l i) l[i] && attrsOk (prevK l (i + 1)) (l.drop (i + 1))) := by
  rw [List.drop_eq_getElem_cons hi, attrsOk, prevK, List.getD_eq_getElem?_getD, List.getElem?_eq_getElem hi]
  rfl
end Bow
/- SP6: edits of a text, in plain Lean. -/
namespace Bow
open Go

def extentP (l : List PieceT) : Int := l.foldr (fun p n => p.keep + p.drop + n) 0
def editP : List UInt8 → List PieceT → List UInt8
  | t, [] => t
  | t, p :: l => t.take p.keep.toNat ++ p.put ++ editP (t.drop (p.keep + p.drop).toNat) l
/-- What Apply answers. -/
def applyE (t : List UInt8) (l : List PieceT) : List UInt8 × Int :=
  bif !rightP l then ([], 2) else bif decide ((t.length : Int) < extentP l) then ([], 50) else (editP t l, 0)
def strE (r : List UInt8 × Int) : V := .tup [.str r.1, .int .i64 r.2]
theorem extentP_cons (p : PieceT) (l : List PieceT) : extentP (p :: l) = p.keep + p.drop + extentP l := rfl
structure PieceT.Ok (p : PieceT) : Prop where
  k0 : 0 ≤ p.keep
  k1 : p.keep ≤ 1048576
  d0 : 0 ≤ p.drop
  d1 : p.drop ≤ 1048576
theorem rightGo_ok : ∀ {l : List PieceT} {n : Nat}, rightGo n l = true → (∀ p ∈ l, p.Ok) ∧ (l = [] ∨ n + putsLen l ≤ 1048576)
  | [], n, _ => ⟨(fun p h => by cases h), .inl rfl⟩
  | p :: l, n, h => by
    rw [rightGo] at h
    simp only [Bool.and_eq_true, decide_eq_true_eq] at h
    obtain ⟨⟨⟨⟨⟨h1, h2⟩, h3⟩, h4⟩, h5⟩, h6⟩ := h
    obtain ⟨k1, k2⟩ := rightGo_ok h6
    refine ⟨fun q hq => ?_, .inr ?_⟩
    · rcases List.mem_cons.1 hq with rfl | hq
      · exact ⟨h1, h2, h3, h4⟩
      · exact k1 q hq
    · have e : putsLen (p :: l) = p.put.length + putsLen l := rfl
      rw [e]
      rcases k2 with rfl | k2
      · have : putsLen [] = 0 := rfl
        omega
      · omega
theorem rightP_ok {l : List PieceT} (h : rightP l = true) : l.length ≤ 4096 ∧ (∀ p ∈ l, p.Ok) ∧ putsLen l ≤ 1048576 := by
  unfold rightP at h
  simp only [Bool.and_eq_true, decide_eq_true_eq] at h
  obtain ⟨h1, h2⟩ := h
  obtain ⟨k1, k2⟩ := rightGo_ok h2
  refine ⟨h1, k1, ?_⟩
  rcases k2 with rfl | k2
  · exact Nat.zero_le _
  · omega
theorem extentP_nonneg : ∀ {l : List PieceT}, (∀ p ∈ l, p.Ok) → 0 ≤ extentP l
  | [], _ => Int.le_refl _
  | p :: l, h => by
    have := extentP_nonneg (l := l) fun q hq => h q (List.mem_cons_of_mem _ hq)
    have hp := h p List.mem_cons_self
    have := hp.k0
    have := hp.d0
    rw [extentP_cons]
    omega
theorem extentP_le : ∀ {l : List PieceT}, (∀ p ∈ l, p.Ok) → extentP l ≤ l.length * 2097152
  | [], _ => by simp [extentP]
  | p :: l, h => by
    have := extentP_le (l := l) fun q hq => h q (List.mem_cons_of_mem _ hq)
    have hp := h p List.mem_cons_self
    have := hp.k1
    have := hp.d1
    rw [extentP_cons, List.length_cons]
    omega
theorem editP_len : ∀ {l : List PieceT} {t : List UInt8}, (∀ p ∈ l, p.Ok) → extentP l ≤ t.length → (editP t l).length ≤ t.length + putsLen l
  | [], t, _, _ => by simp [editP, putsLen]
  | p :: l, t, h, he => by
    rw [extentP_cons] at he
    have hp := h p List.mem_cons_self
    have hl := fun q hq => h q (List.mem_cons_of_mem p hq)
    have := extentP_nonneg hl
    have ih := editP_len (l := l) (t := t.drop (p.keep + p.drop).toNat) hl (by have := hp.k0; have := hp.d0; simp; omega)
    have e : putsLen (p :: l) = p.put.length + putsLen l := rfl
    rw [editP, e]
    simp at ih ⊢
    have := hp.k0
    have := hp.d0
    omega
end Bow
/- SP7: which operations are valid, and what becomes of a tree. -/
namespace Bow
open Go

/-- Of an operation that is formed, on a tree that is right. -/
def validE (t : Tree) (o : OpT) : Int :=
  bif (decide (o.kind = 2) || decide (o.kind = 3)) && decide (o.path = []) then 82
  else match atT t o.path with
    | none => 81
    | some x => bif decide (o.kind = 1) then intoE x o.at_
      else bif decide (o.kind = 3) then (bif within o.path o.to then 84 else match atT t o.to with
        | none => 81
        | some y => intoE y o.at_)
      else bif decide (o.kind = 6) then (bif !x.leaf then 83 else (applyE x.text o.pieces).2)
      else 0
def ValidE (t : Tree) (o : OpT) : Int := bif !rightT t then 2 else bif !formedB o then 80 else validE t o
end Bow
/- SP8: a moved node's landing, in plain Lean. -/
namespace Bow
open Go

theorem weights_append : ∀ (a b : List Tree), weights (a ++ b) = weights a + weights b
  | [], b => by rw [weights]; simp
  | x :: a, b => by rw [List.cons_append, weights, weights, weights_append a b]; omega
theorem weights_set {s u : Tree} : ∀ {l : List Tree} {i : Nat}, l[i]? = some s → u.weight ≤ s.weight → weights (l.set i u) ≤ weights l
  | [], i, h, _ => by simp at h
  | x :: l, 0, h, hu => by
    simp at h
    subst h
    rw [List.set_cons_zero, weights, weights]
    omega
  | x :: l, i + 1, h, hu => by
    simp at h
    have := weights_set (l := l) h hu
    rw [List.set_cons_succ, weights, weights]
    omega
theorem withSubs_weight (t : Tree) (ss : List Tree) : (t.withSubs ss).weight + weights t.subs = t.weight + weights ss := by
  cases t
  rw [weight_eq, weight_eq]
  simp only [Tree.withSubs, Tree.label, Tree.text, Tree.attrs, Tree.subs]
  omega
theorem change_weight {F : Tree → Tree} (hF : ∀ y, (F y).weight ≤ y.weight) : ∀ (p : List Int) (t : Tree), (changeT F t p).weight ≤ t.weight
  | [], t => hF t
  | i :: p, t => by
    rw [changeT]
    cases hs : subT t i with
    | none => exact Nat.le_refl _
    | some s =>
      have ih := change_weight hF p s
      have h := weights_set (subT_some hs).2.1 ih
      have := withSubs_weight t (t.subs.set i.toNat (changeT F s p))
      simp only
      omega
theorem del_weight (i : Int) (y : Tree) : (delT i y).weight ≤ y.weight := by
  have h1 := withSubs_weight y (y.subs.take i.toNat ++ y.subs.drop (i.toNat + 1))
  have h2 : weights (y.subs.take i.toNat ++ y.subs.drop (i.toNat + 1)) ≤ weights y.subs := by
    conv => rhs; rw [← List.take_append_drop i.toNat y.subs]
    rw [weights_append, weights_append]
    have h3 : weights (y.subs.drop (i.toNat + 1)) ≤ weights (y.subs.drop i.toNat) := by
      rw [← List.drop_drop]
      cases y.subs.drop i.toNat with
      | nil => simp
      | cons a l => rw [weights]; simp
    omega
  unfold delT
  omega

theorem subT_with (t : Tree) (ss : List Tree) (j : Int) (h : 0 ≤ j) : subT (t.withSubs ss) j = ss[j.toNat]? := by
  unfold subT
  rw [withSubs_subs, decide_eq_false (by omega)]
  rfl
theorem subT_eq {t : Tree} {j : Int} (h : 0 ≤ j) : subT t j = t.subs[j.toNat]? := by
  unfold subT
  rw [decide_eq_false (by omega)]
  rfl
theorem within_cons (k j : Int) (p q : List Int) : within (k :: p) (j :: q) = (decide (k = j) && within p q) := by
  unfold within
  simp
theorem within_nil (q : List Int) : within [] q = true := by unfold within; simp
theorem within_cons_nil (k : Int) (p : List Int) : within (k :: p) [] = false := by unfold within; simp
theorem landT_cons (k i at_ : Int) (q to : List Int) : landT (k :: q) i (k :: to) at_ = (k :: (landT q i to at_).1, (landT q i to at_).2) := by
  unfold landT
  rw [within_cons]
  simp only [List.cons.injEq, true_and, decide_true, Bool.true_and, List.length_cons, Nat.add_lt_add_iff_right, List.getD_cons_succ, List.set_cons_succ]
  cases (decide (q = to) && decide (i < at_)) <;> cases (within q to && (decide (q.length < to.length) && decide (i < to.getD q.length 0))) <;> rfl
theorem landT_other {k j i at_ : Int} {q to : List Int} (h : k ≠ j) : landT (k :: q) i (j :: to) at_ = (j :: to, at_) := by
  unfold landT
  rw [within_cons]
  simp [h]
theorem landT_top (k i at_ : Int) (q : List Int) : landT (k :: q) i [] at_ = ([], at_) := by
  unfold landT
  rw [within_cons_nil]
  simp

theorem withSubs_leaf (t : Tree) (ss : List Tree) : (t.withSubs ss).leaf = t.leaf := by cases t; rfl
theorem withSubs_id (t : Tree) (ss : List Tree) : (t.withSubs ss).id = t.id := by cases t; rfl
/-- Where a moved node lands there is a node, with such a gap. -/
theorem land_at2 {i at_ : Int} (hi : 0 ≤ i) (h0 : 0 ≤ at_) : ∀ (q to : List Int) (t y z : Tree), atT t q = some y → i < y.subs.length → within (q ++ [i]) to = false → atT t to = some z → at_ ≤ z.subs.length →
    ∃ z', atT (changeT (delT i) t q) (landT q i to at_).1 = some z' ∧ 0 ≤ (landT q i to at_).2 ∧ (landT q i to at_).2 ≤ z'.subs.length ∧ z'.leaf = z.leaf ∧ z'.id = z.id
  | [], [], t, y, z, hy, hiy, hw, hz, hat => by
    rw [atT] at hy hz
    injection hy with hy
    injection hz with hz
    subst hy hz
    have hl : (delT i t).subs.length + 1 = t.subs.length := by
      unfold delT
      rw [withSubs_subs]
      simp
      omega
    unfold landT
    rw [changeT]
    by_cases h : i < at_
    · rw [decide_eq_true h]
      exact ⟨_, rfl, by show 0 ≤ at_ - 1; omega, by show at_ - 1 ≤ _; omega, withSubs_leaf _ _, withSubs_id _ _⟩
    · rw [decide_eq_false h]
      simp only [decide_true, Bool.and_false, within_nil, List.length_nil, cond_false, Nat.lt_irrefl, decide_false, Bool.false_and]
      exact ⟨_, rfl, h0, by omega, withSubs_leaf _ _, withSubs_id _ _⟩
  | [], j :: to, t, y, z, hy, hiy, hw, hz, hat => by
    rw [atT] at hy
    injection hy with hy
    subst hy
    rw [atT] at hz
    cases hs : subT t j with
    | none => rw [hs] at hz; cases hz
    | some s =>
    rw [hs] at hz
    simp only at hz
    obtain ⟨hj, hsj, _⟩ := subT_some hs
    have hji : j ≠ i := by
      rintro rfl
      simp [within] at hw
    rw [changeT]
    have e : landT [] i (j :: to) at_ = (bif decide (i < j) then ((j - 1) :: to, at_) else (j :: to, at_)) := by
      unfold landT
      simp [within_nil]
    rw [e]
    by_cases h : i < j
    · rw [decide_eq_true h]
      refine ⟨z, ?_, h0, hat, rfl, rfl⟩
      simp only [cond_true]
      rw [atT]
      have : subT (delT i t) (j - 1) = some s := by
        unfold delT
        rw [subT_with _ _ _ (by omega), List.getElem?_append_right (by simp; omega), List.getElem?_drop, ← hsj]
        congr 1
        simp
        omega
      rw [this]
      exact hz
    · rw [decide_eq_false h]
      refine ⟨z, ?_, h0, hat, rfl, rfl⟩
      simp only [cond_false]
      rw [atT]
      have : subT (delT i t) j = some s := by
        unfold delT
        rw [subT_with _ _ _ hj, List.getElem?_append_left (by simp; omega), List.getElem?_take, if_pos (by omega), hsj]
      rw [this]
      exact hz
  | k :: q, [], t, y, z, hy, hiy, hw, hz, hat => by
    rw [atT] at hz
    injection hz with hz
    subst hz
    rw [landT_top, atT]
    refine ⟨_, rfl, h0, ?_⟩
    rw [changeT]
    cases subT t k with
    | none => exact ⟨hat, rfl, rfl⟩
    | some s =>
      simp only
      rw [withSubs_subs, List.length_set]
      exact ⟨hat, withSubs_leaf _ _, withSubs_id _ _⟩
  | k :: q, j :: to, t, y, z, hy, hiy, hw, hz, hat => by
    rw [atT] at hy hz
    cases hs : subT t k with
    | none => rw [hs] at hy; cases hy
    | some s =>
    rw [hs] at hy
    simp only at hy
    obtain ⟨hk, hsk, _⟩ := subT_some hs
    have hkl := lt_of_get hsk
    rw [changeT, hs]
    simp only
    by_cases h : k = j
    · subst h
      rw [hs] at hz
      simp only at hz
      rw [List.cons_append, within_cons] at hw
      simp only [decide_true, Bool.true_and] at hw
      rw [landT_cons]
      obtain ⟨z', h1, h2, h3, h4⟩ := land_at2 hi h0 q to s y z hy hiy hw hz hat
      refine ⟨z', ?_, h2, h3, h4⟩
      simp only
      rw [atT, subT_with _ _ _ hk, List.getElem?_set_self hkl]
      exact h1
    · rw [landT_other h]
      refine ⟨z, ?_, h0, hat, rfl, rfl⟩
      cases hs2 : subT t j with
      | none => rw [hs2] at hz; cases hz
      | some s2 =>
      rw [hs2] at hz
      simp only at hz
      obtain ⟨hj, hsj, _⟩ := subT_some hs2
      simp only
      rw [atT, subT_with _ _ _ hj, List.getElem?_set_ne (by omega), hsj]
      exact hz

theorem land_at {i at_ : Int} (hi : 0 ≤ i) (h0 : 0 ≤ at_) (q to : List Int) (t y z : Tree) (h1 : atT t q = some y) (h2 : i < y.subs.length) (h3 : within (q ++ [i]) to = false) (h4 : atT t to = some z) (h5 : at_ ≤ z.subs.length) :
    ∃ z', atT (changeT (delT i) t q) (landT q i to at_).1 = some z' ∧ 0 ≤ (landT q i to at_).2 ∧ (landT q i to at_).2 ≤ z'.subs.length := by
  obtain ⟨z', k1, k2, k3, _⟩ := land_at2 hi h0 q to t y z h1 h2 h3 h4 h5
  exact ⟨z', k1, k2, k3⟩

/-! ### The path of a node's parent -/
theorem at_parent : ∀ {p : List Int} (hne : p ≠ []) {t x : Tree}, atT t p = some x → ∃ y, atT t p.dropLast = some y ∧ 0 ≤ p.getLast hne ∧ p.getLast hne < y.subs.length ∧ y.subs[(p.getLast hne).toNat]? = some x
  | [i], _, t, x, h => by
    rw [atT] at h
    cases hs : subT t i with
    | none => rw [hs] at h; cases h
    | some s =>
      rw [hs] at h
      simp only [atT] at h
      injection h with h
      subst h
      obtain ⟨h1, h2, _⟩ := subT_some hs
      have := lt_of_get h2
      exact ⟨t, rfl, h1, by show i < _; omega, h2⟩
  | i :: j :: p, hne, t, x, h => by
    rw [atT] at h
    cases hs : subT t i with
    | none => rw [hs] at h; cases h
    | some s =>
      rw [hs] at h
      obtain ⟨y, h1, h2, h3, h4⟩ := at_parent (p := j :: p) (by simp) h
      refine ⟨y, ?_, ?_⟩
      · rw [List.dropLast_cons_of_ne_nil (by simp), atT, hs]
        exact h1
      · rw [List.getLast_cons (by simp)]
        exact ⟨h2, h3, h4⟩
/-! ### What becomes of a tree -/
/-- A node new. -/
def freshT (o : OpT) : Tree := .mk o.id o.leaf o.label [] [] []
def relabelT (s : List UInt8) : Tree → Tree
  | .mk i l _ a c ss => .mk i l s a c ss
def retextT (l : List PieceT) : Tree → Tree
  | .mk i lf b a c ss => .mk i lf b a (applyE c l).1 ss
def lastP (p : List Int) : Int := p.getLastD 0
theorem lastP_eq {p : List Int} (h : p ≠ []) : p.getLast h = lastP p := by
  unfold lastP
  cases p with
  | nil => exact absurd rfl h
  | cons a p => rw [List.getLastD_eq_getLast?, List.getLast?_eq_some_getLast h]; rfl
def moveT (x t : Tree) (o : OpT) : Tree :=
  changeT (insT (landT o.path.dropLast (lastP o.path) o.to o.at_).2 x) (changeT (delT (lastP o.path)) t o.path.dropLast) (landT o.path.dropLast (lastP o.path) o.to o.at_).1
theorem land_len (q : List Int) (i : Int) (to : List Int) (n : Int) : (landT q i to n).1.length = to.length := by
  unfold landT
  cases (decide (q = to) && decide (i < n)) <;> cases (within q to && (decide (q.length < to.length) && decide (i < to.getD q.length 0))) <;> simp
end Bow
/- SP10: a move, by taking out first or by putting in first, in plain Lean. -/
namespace Bow
open Go

/-! ### Rows -/
section
variable {α : Type}
def insL (m : Nat) (x : α) (l : List α) : List α := l.take m ++ x :: l.drop m
def delL (n : Nat) (l : List α) : List α := l.take n ++ l.drop (n + 1)
theorem insL_succ (m : Nat) (x a : α) (l : List α) : insL (m + 1) x (a :: l) = a :: insL m x l := rfl
theorem delL_succ (n : Nat) (a : α) (l : List α) : delL (n + 1) (a :: l) = a :: delL n l := rfl
theorem del_ins_lt (x : α) : ∀ (l : List α) (n m : Nat), n < m → m ≤ l.length → delL n (insL m x l) = insL (m - 1) x (delL n l)
  | [], n, m, h, hm => by simp at hm; omega
  | a :: l, 0, m + 1, _, _ => rfl
  | a :: l, n + 1, m + 1, h, hm => by
    have hm' : m ≤ l.length := by simpa using hm
    obtain ⟨k, rfl⟩ : ∃ k, m = k + 1 := ⟨m - 1, by omega⟩
    rw [insL_succ, delL_succ, del_ins_lt x l n (k + 1) (by omega) hm', delL_succ]
    rfl
theorem del_ins_ge (x : α) : ∀ (l : List α) (n m : Nat), m ≤ n → n < l.length → delL (n + 1) (insL m x l) = insL m x (delL n l)
  | [], n, m, h, hm => by simp at hm
  | a :: l, n, 0, _, _ => rfl
  | a :: l, n + 1, m + 1, h, hm => by
    have hm' : n < l.length := by simpa using hm
    rw [insL_succ, delL_succ, del_ins_ge x l n m (by omega) hm', delL_succ, insL_succ]
theorem del_set_lt (K : α) : ∀ (l : List α) (i j : Nat), i < j → delL i (l.set j K) = (delL i l).set (j - 1) K
  | [], i, j, h => by simp [delL]
  | a :: l, 0, j + 1, _ => rfl
  | a :: l, i + 1, j + 1, h => by
    obtain ⟨k, rfl⟩ : ∃ k, j = k + 1 := ⟨j - 1, by omega⟩
    rw [List.set_cons_succ, delL_succ, del_set_lt K l i (k + 1) (by omega), delL_succ]
    rfl
theorem del_set_gt (K : α) : ∀ (l : List α) (i j : Nat), j < i → delL i (l.set j K) = (delL i l).set j K
  | [], i, j, h => by simp [delL]
  | a :: l, i + 1, 0, h => rfl
  | a :: l, i + 1, j + 1, h => by
    rw [List.set_cons_succ, delL_succ, del_set_gt K l i j (by omega), delL_succ, List.set_cons_succ]
theorem ins_set_lt (x K : α) : ∀ (l : List α) (m k : Nat), k < m → (insL m x l).set k K = insL m x (l.set k K) ∨ l.length ≤ k
  | [], m, k, h => .inr (by simp)
  | a :: l, m + 1, 0, _ => .inl rfl
  | a :: l, m + 1, k + 1, h => by
    rcases ins_set_lt x K l m k (by omega) with h1 | h1
    · left
      rw [insL_succ, List.set_cons_succ, h1, List.set_cons_succ, insL_succ]
    · right
      simpa using h1
theorem ins_set_ge (x K : α) : ∀ (l : List α) (m k : Nat), m ≤ k → (insL m x l).set (k + 1) K = insL m x (l.set k K)
  | [], m, k, h => by cases m <;> simp [insL]
  | a :: l, 0, k, _ => rfl
  | a :: l, m + 1, k + 1, h => by
    rw [insL_succ, List.set_cons_succ, ins_set_ge x K l m k (by omega), List.set_cons_succ, insL_succ]
theorem ins_get_lt (x : α) : ∀ (l : List α) (m k : Nat), k < m → k < l.length → (insL m x l)[k]? = l[k]?
  | [], m, k, h, hk => by simp at hk
  | a :: l, m + 1, 0, _, _ => rfl
  | a :: l, m + 1, k + 1, h, hk => by
    rw [insL_succ, List.getElem?_cons_succ, List.getElem?_cons_succ]
    exact ins_get_lt x l m k (by omega) (by simpa using hk)
theorem ins_get_ge (x : α) : ∀ (l : List α) (m k : Nat), m ≤ k → m ≤ l.length → (insL m x l)[k + 1]? = l[k]?
  | [], m, k, h, hm => by
    have : m = 0 := by simpa using hm
    subst this
    simp [insL]
  | a :: l, 0, k, _, _ => rfl
  | a :: l, m + 1, k + 1, h, hm => by
    rw [insL_succ, List.getElem?_cons_succ, List.getElem?_cons_succ]
    exact ins_get_ge x l m k (by omega) (by simpa using hm)
end
theorem insT_eq (at_ : Int) (x y : Tree) : insT at_ x y = y.withSubs (insL at_.toNat x y.subs) := rfl
theorem delT_eq (i : Int) (y : Tree) : delT i y = y.withSubs (delL i.toNat y.subs) := rfl
theorem withSubs_withSubs (t : Tree) (a b : List Tree) : (t.withSubs a).withSubs b = t.withSubs b := by cases t; rfl

/-! ### Without a node -/
def withoutT (t : Tree) (p : List Int) : Tree := changeT (delT (lastP p)) t p.dropLast
theorem lastP_cons {p : List Int} (k : Int) (h : p ≠ []) : lastP (k :: p) = lastP p := by
  rw [← lastP_eq (by simp), ← lastP_eq h, List.getLast_cons h]
theorem without_one (t : Tree) (i : Int) : withoutT t [i] = delT i t := rfl
theorem without_cons (t : Tree) (k : Int) {p : List Int} (h : p ≠ []) {s : Tree} (hs : subT t k = some s) : withoutT t (k :: p) = t.withSubs (t.subs.set k.toNat (withoutT s p)) := by
  unfold withoutT
  rw [lastP_cons k h, List.dropLast_cons_of_ne_nil h, changeT, hs]
theorem change_cons (F : Tree → Tree) (t : Tree) (k : Int) (p : List Int) {s : Tree} (hs : subT t k = some s) : changeT F t (k :: p) = t.withSubs (t.subs.set k.toNat (changeT F s p)) := by
  rw [changeT, hs]

/-- A node's path, when another one has been put at a gap. -/
def liftP (to : List Int) (at_ : Int) (fr : List Int) : List Int :=
  bif decide (to.length < fr.length) && (within to fr && decide (at_ ≤ fr.getD to.length 0)) then fr.set to.length (fr.getD to.length 0 + 1) else fr
theorem lift_cons (k at_ : Int) (to fr : List Int) : liftP (k :: to) at_ (k :: fr) = k :: liftP to at_ fr := by
  unfold liftP
  rw [within_cons]
  simp only [decide_true, Bool.true_and, List.length_cons, Nat.add_lt_add_iff_right, List.getD_cons_succ, List.set_cons_succ]
  cases (decide (to.length < fr.length) && (within to fr && decide (at_ ≤ fr.getD to.length 0))) <;> rfl
theorem lift_other {k j : Int} (at_ : Int) (to fr : List Int) (h : j ≠ k) : liftP (j :: to) at_ (k :: fr) = k :: fr := by
  unfold liftP
  rw [within_cons, decide_eq_false h]
  simp
theorem lift_nil (k at_ : Int) (fr : List Int) : liftP [] at_ (k :: fr) = (bif decide (at_ ≤ k) then k + 1 else k) :: fr := by
  unfold liftP
  rw [within_nil]
  by_cases h : at_ ≤ k <;> simp [h]
theorem lift_short (i j at_ : Int) (to : List Int) : liftP (j :: to) at_ [i] = [i] := by
  unfold liftP
  simp

/-- Put in first, then taken out where it stands now: as taken out first, then put in. -/
theorem move_law {at_ : Int} (h0 : 0 ≤ at_) (x : Tree) : ∀ (fr to : List Int) (t s z : Tree), fr ≠ [] → atT t fr = some s → within fr to = false → atT t to = some z → at_ ≤ z.subs.length →
    withoutT (changeT (insT at_ x) t to) (liftP to at_ fr) = changeT (insT (landT fr.dropLast (lastP fr) to at_).2 x) (withoutT t fr) (landT fr.dropLast (lastP fr) to at_).1
  | [], _, _, _, _, h, _, _, _, _ => absurd rfl h
  | [i], [], t, s, z, _, hs, hw, hz, hat => by
    rw [atT] at hz
    injection hz with hz
    subst hz
    rw [atT] at hs
    cases hu : subT t i with
    | none => rw [hu] at hs; cases hs
    | some u =>
    obtain ⟨hi, hsi, _⟩ := subT_some hu
    have hil := lt_of_get hsi
    rw [lift_nil, without_one, without_one]
    show delT _ (insT at_ x t) = _
    have e : landT ([i] : List Int).dropLast (lastP [i]) [] at_ = (bif decide (i < at_) then ([], at_ - 1) else ([], at_)) := by
      unfold landT lastP
      by_cases h : i < at_ <;> simp [h, within_nil]
    rw [e]
    by_cases h : i < at_
    · rw [decide_eq_true h, decide_eq_false (by omega : ¬ at_ ≤ i)]
      simp only [cond_true, cond_false]
      show _ = insT (at_ - 1) x (delT i t)
      rw [insT_eq, insT_eq, delT_eq, delT_eq, withSubs_subs, withSubs_subs, withSubs_withSubs, withSubs_withSubs, del_ins_lt x t.subs i.toNat at_.toNat (by omega) (by omega)]
      congr 2
      omega
    · rw [decide_eq_false h, decide_eq_true (by omega : at_ ≤ i)]
      simp only [cond_true, cond_false]
      show _ = insT at_ x (delT i t)
      rw [insT_eq, insT_eq, delT_eq, delT_eq, withSubs_subs, withSubs_subs, withSubs_withSubs, withSubs_withSubs]
      have : (i + 1).toNat = i.toNat + 1 := by omega
      rw [this, del_ins_ge x t.subs i.toNat at_.toNat (by omega) (by omega)]
  | [i], j :: to, t, s, z, _, hs, hw, hz, hat => by
    rw [atT] at hs hz
    cases hu : subT t i with
    | none => rw [hu] at hs; cases hs
    | some u =>
    cases hv : subT t j with
    | none => rw [hv] at hz; cases hz
    | some v =>
    obtain ⟨hi, hsi, _⟩ := subT_some hu
    obtain ⟨hj, hsj, _⟩ := subT_some hv
    have hil := lt_of_get hsi
    have hjl := lt_of_get hsj
    have hji : j ≠ i := by
      rintro rfl
      simp [within] at hw
    rw [lift_short, without_one, without_one, change_cons _ _ _ _ hv]
    have e : landT ([i] : List Int).dropLast (lastP [i]) (j :: to) at_ = (bif decide (i < j) then ((j - 1) :: to, at_) else (j :: to, at_)) := by
      unfold landT lastP
      simp [within_nil]
    rw [e]
    by_cases h : i < j
    · rw [decide_eq_true h]
      simp only [cond_true]
      have hv' : subT (delT i t) (j - 1) = some v := by
        unfold delT
        rw [subT_with _ _ _ (by omega), List.getElem?_append_right (by simp; omega), List.getElem?_drop, ← hsj]
        congr 1
        simp
        omega
      rw [change_cons _ _ _ _ hv', delT_eq, delT_eq, withSubs_withSubs, withSubs_withSubs, withSubs_subs, withSubs_subs, del_set_lt _ _ _ _ (by omega)]
      congr 2
      omega
    · rw [decide_eq_false h]
      simp only [cond_false]
      have hv' : subT (delT i t) j = some v := by
        unfold delT
        rw [subT_with _ _ _ hj, List.getElem?_append_left (by simp; omega), List.getElem?_take, if_pos (by omega), hsj]
      rw [change_cons _ _ _ _ hv', delT_eq, delT_eq, withSubs_withSubs, withSubs_withSubs, withSubs_subs, withSubs_subs, del_set_gt _ _ _ _ (by omega)]
  | k :: k2 :: q, [], t, s, z, _, hs, hw, hz, hat => by
    rw [atT] at hz
    injection hz with hz
    subst hz
    rw [atT] at hs
    cases hu : subT t k with
    | none => rw [hu] at hs; cases hs
    | some u =>
    obtain ⟨hk, hsk, _⟩ := subT_some hu
    have hkl := lt_of_get hsk
    rw [lift_nil, List.dropLast_cons_of_ne_nil (by simp), landT_top]
    show withoutT (insT at_ x t) _ = insT at_ x (withoutT t _)
    rw [without_cons t k (by simp) hu]
    by_cases h : at_ ≤ k
    · rw [decide_eq_true h]
      simp only [cond_true]
      have e : (k + 1).toNat = k.toNat + 1 := by omega
      have hu' : subT (insT at_ x t) (k + 1) = some u := by
        rw [insT_eq, subT_with _ _ _ (by omega), e, ins_get_ge _ _ _ _ (by omega) (by omega), hsk]
      rw [without_cons _ _ (by simp) hu', insT_eq, insT_eq, withSubs_withSubs, withSubs_withSubs, withSubs_subs, withSubs_subs, e, ins_set_ge _ _ _ _ _ (by omega)]
    · rw [decide_eq_false h]
      simp only [cond_false]
      have hu' : subT (insT at_ x t) k = some u := by
        rw [insT_eq, subT_with _ _ _ hk, ins_get_lt _ _ _ _ (by omega) hkl, hsk]
      rw [without_cons _ _ (by simp) hu', insT_eq, insT_eq, withSubs_withSubs, withSubs_withSubs, withSubs_subs, withSubs_subs, (ins_set_lt x _ t.subs at_.toNat k.toNat (by omega)).resolve_right (by omega)]
  | k :: k2 :: q, j :: to, t, s, z, _, hs, hw, hz, hat => by
    rw [atT] at hs hz
    cases hu : subT t k with
    | none => rw [hu] at hs; cases hs
    | some u =>
    rw [hu] at hs
    simp only at hs
    obtain ⟨hk, hsk, _⟩ := subT_some hu
    have hkl := lt_of_get hsk
    rw [List.dropLast_cons_of_ne_nil (by simp), lastP_cons k (by simp)]
    rw [without_cons t k (by simp) hu]
    by_cases h : k = j
    · subst h
      rw [hu] at hz
      simp only at hz
      rw [within_cons] at hw
      simp only [decide_true, Bool.true_and] at hw
      have ih := move_law h0 x (k2 :: q) to u s z (by simp) hs hw hz hat
      have hle : liftP to at_ (k2 :: q) ≠ [] := by
        unfold liftP
        cases (decide (to.length < (k2 :: q).length) && (within to (k2 :: q) && decide (at_ ≤ (k2 :: q).getD to.length 0))) with
        | false => simp
        | true => intro hh; have := congrArg List.length hh; simp at this
      rw [lift_cons, landT_cons, change_cons _ _ _ _ hu]
      have hu1 : subT (t.withSubs (t.subs.set k.toNat (changeT (insT at_ x) u to))) k = some (changeT (insT at_ x) u to) := by
        rw [subT_with _ _ _ hk, List.getElem?_set_self hkl]
      have hu2 : subT (t.withSubs (t.subs.set k.toNat (withoutT u (k2 :: q)))) k = some (withoutT u (k2 :: q)) := by
        rw [subT_with _ _ _ hk, List.getElem?_set_self hkl]
      rw [without_cons _ _ hle hu1, change_cons _ _ _ _ hu2, withSubs_withSubs, withSubs_withSubs, withSubs_subs, withSubs_subs, List.set_set, List.set_set, ih]
    · cases hv : subT t j with
      | none => rw [hv] at hz; cases hz
      | some v =>
      obtain ⟨hj, hsj, _⟩ := subT_some hv
      rw [lift_other _ _ _ (fun e => h e.symm), landT_other h, change_cons _ _ _ _ hv]
      have hne : k.toNat ≠ j.toNat := by omega
      have hu1 : subT (t.withSubs (t.subs.set j.toNat (changeT (insT at_ x) v to))) k = some u := by
        rw [subT_with _ _ _ hk, List.getElem?_set_ne (fun e => hne e.symm), hsk]
      have hv1 : subT (t.withSubs (t.subs.set k.toNat (withoutT u (k2 :: q)))) j = some v := by
        rw [subT_with _ _ _ hj, List.getElem?_set_ne hne, hsj]
      rw [without_cons _ _ (by simp) hu1, change_cons _ _ _ _ hv1, withSubs_withSubs, withSubs_withSubs, withSubs_subs, withSubs_subs, List.set_comm _ _ (fun e => hne e.symm)]
end Bow
/- SP11: an attribute set, in plain Lean. -/
namespace Bow
open Go

/-! ### The order of texts -/
theorem cmp_less : ∀ a b : List UInt8, Lib.compareBytes a b < 0 ↔ Op.bytesLess a b = true
  | [], [] => by simp [Lib.compareBytes, Op.bytesLess]
  | [], _ :: _ => by simp [Lib.compareBytes, Op.bytesLess]
  | _ :: _, [] => by simp [Lib.compareBytes, Op.bytesLess]
  | x :: a, y :: b => by
    have ih := cmp_less a b
    unfold Lib.compareBytes Op.bytesLess
    by_cases h1 : x < y
    · simp [h1]
    · by_cases h2 : y < x
      · have : x ≠ y := fun e => by subst e; exact h1 h2
        simp [h1, h2, this]
      · have : x = y := UInt8.le_antisymm (UInt8.not_lt.1 h2) (UInt8.not_lt.1 h1)
        subst this
        simp only [h1, if_false, decide_false, beq_self_eq_true, Bool.true_and, Bool.false_or]
        exact ih
theorem cmp_zero : ∀ a b : List UInt8, Lib.compareBytes a b = 0 ↔ a = b
  | [], [] => by simp [Lib.compareBytes]
  | [], _ :: _ => by simp [Lib.compareBytes]
  | _ :: _, [] => by simp [Lib.compareBytes]
  | x :: a, y :: b => by
    have ih := cmp_zero a b
    unfold Lib.compareBytes
    by_cases h1 : x < y
    · have : x ≠ y := fun e => by subst e; exact UInt8.lt_irrefl x h1
      simp [h1, this]
    · by_cases h2 : y < x
      · have : x ≠ y := fun e => by subst e; exact h1 h2
        simp [h1, h2, this]
      · have : x = y := UInt8.le_antisymm (UInt8.not_lt.1 h2) (UInt8.not_lt.1 h1)
        subst this
        simp only [h1, if_false, ih, List.cons.injEq, true_and]
theorem less_irrefl (a : List UInt8) : Op.bytesLess a a = false := by
  cases h : Op.bytesLess a a with
  | false => rfl
  | true =>
    have h1 := (cmp_less a a).2 h
    have h2 := (cmp_zero a a).2 rfl
    omega
theorem less_trans : ∀ {a b c : List UInt8}, Op.bytesLess a b = true → Op.bytesLess b c = true → Op.bytesLess a c = true
  | _, [], _, h, _ => by unfold Op.bytesLess at h; simp at h
  | _, _ :: _, [], _, h => by unfold Op.bytesLess at h; simp at h
  | [], _ :: _, _ :: _, _, _ => by unfold Op.bytesLess; rfl
  | x :: a, y :: b, z :: c, h, k => by
    unfold Op.bytesLess at h k ⊢
    simp only [Bool.or_eq_true, decide_eq_true_eq, Bool.and_eq_true, beq_iff_eq] at h k ⊢
    rcases h with h | ⟨rfl, h⟩ <;> rcases k with k | ⟨rfl, k⟩
    · exact .inl (UInt8.lt_trans h k)
    · exact .inl h
    · exact .inl k
    · exact .inr ⟨rfl, less_trans h k⟩
theorem less_tri : ∀ {a b : List UInt8}, Op.bytesLess a b = false → Op.bytesLess b a = false → a = b
  | [], [], _, _ => rfl
  | [], _ :: _, h, _ => by unfold Op.bytesLess at h; simp at h
  | _ :: _, [], _, h => by unfold Op.bytesLess at h; simp at h
  | x :: a, y :: b, h, k => by
    unfold Op.bytesLess at h k
    simp only [Bool.or_eq_false_iff, decide_eq_false_iff_not, Bool.and_eq_false_iff, beq_eq_false_iff_ne] at h k
    have e : x = y := UInt8.le_antisymm (UInt8.not_lt.1 k.1) (UInt8.not_lt.1 h.1)
    subst e
    rw [less_tri (h.2.resolve_left fun q => q rfl) (k.2.resolve_left fun q => q rfl)]
theorem less_ne {a b : List UInt8} (h : Op.bytesLess a b = true) : a ≠ b := by
  rintro rfl
  rw [less_irrefl] at h
  cases h
theorem less_asymm {a b : List UInt8} (h : Op.bytesLess a b = true) : Op.bytesLess b a = false := by
  cases k : Op.bytesLess b a with
  | false => rfl
  | true =>
    have := less_trans h k
    rw [less_irrefl] at this
    cases this

/-! ### Attributes in order -/
theorem ordOk_less {k s : List UInt8} (h : ordOk (some k) s = true) : Op.bytesLess k s = true := by
  unfold ordOk leS at h
  simp only [Bool.not_eq_true', Bool.or_eq_false_iff, decide_eq_false_iff_not] at h
  cases hk : Op.bytesLess k s with
  | true => rfl
  | false => exact absurd (less_tri h.1 hk) h.2
theorem attrs_behind : ∀ {l : List (List UInt8 × List UInt8)} {k : List UInt8}, attrsOk (some k) l = true → ∀ a ∈ l, Op.bytesLess k a.1 = true
  | [], _, _, a, h => by cases h
  | b :: l, k, h, a, ha => by
    rw [attrsOk, Bool.and_eq_true] at h
    have h1 : Op.bytesLess k b.1 = true := by
      have := h.1
      unfold attrOk at this
      simp only [Bool.and_eq_true] at this
      exact ordOk_less this.2.2
    rcases List.mem_cons.1 ha with rfl | ha
    · exact h1
    · exact less_trans h1 (attrs_behind h.2 a ha)
theorem attrsOk_tail {k : Option (List UInt8)} {a : List UInt8 × List UInt8} {l : List (List UInt8 × List UInt8)} (h : attrsOk k (a :: l) = true) : attrsOk (some a.1) l = true := by
  rw [attrsOk, Bool.and_eq_true] at h
  exact h.2
/-- How many keys are ahead of one. -/
def posK (k : List UInt8) : List (List UInt8 × List UInt8) → Nat
  | [] => 0
  | a :: l => bif Op.bytesLess a.1 k then posK k l + 1 else 0
theorem pos_le (k : List UInt8) : ∀ l, posK k l ≤ l.length
  | [] => Nat.le_refl _
  | a :: l => by
    rw [posK]
    have := pos_le k l
    cases Op.bytesLess a.1 k with
    | true => simpa using this
    | false => simp
theorem pos_iff (k : List UInt8) : ∀ {l : List (List UInt8 × List UInt8)} {k0 : Option (List UInt8)}, attrsOk k0 l = true → ∀ (h : Nat) (hl : h < l.length), (Op.bytesLess l[h].1 k = true ↔ h < posK k l)
  | a :: l, k0, hs, h, hl => by
    rw [posK]
    cases ha : Op.bytesLess a.1 k with
    | true =>
      cases h with
      | zero => simp [ha]
      | succ h =>
        simp only [cond_true, List.getElem_cons_succ, Nat.add_lt_add_iff_right]
        exact pos_iff k (attrsOk_tail hs) h (by simpa using hl)
    | false =>
      simp only [cond_false, Nat.not_lt_zero, iff_false, Bool.not_eq_true]
      cases h with
      | zero => exact ha
      | succ h =>
        have hl' : h < l.length := by simpa using hl
        have := attrs_behind (attrsOk_tail hs) _ (List.getElem_mem hl')
        simp only [List.getElem_cons_succ]
        cases hb : Op.bytesLess l[h].1 k with
        | false => rfl
        | true =>
          rw [less_trans this hb] at ha
          cases ha
/-- Is there one of that key? -/
def hasK (k : List UInt8) (l : List (List UInt8 × List UInt8)) : Bool := decide (posK k l < l.length) && decide ((l.getD (posK k l) ([], [])).1 = k)
def midA (o : OpT) : List (List UInt8 × List UInt8) := bif o.gone then [] else [(o.key, o.value)]
/-- As the program sets one. -/
def setA (o : OpT) (l : List (List UInt8 × List UInt8)) : List (List UInt8 × List UInt8) := l.take (posK o.key l) ++ (midA o ++ l.drop (posK o.key l + (bif hasK o.key l then 1 else 0)))
/-- As the document sets one. -/
def refA (o : OpT) : Bool → List (List UInt8 × List UInt8) → List (List UInt8 × List UInt8)
  | done, [] => bif done then [] else [(o.key, o.value)]
  | done, a :: l => (bif !done && !Op.bytesLess a.1 o.key then [(o.key, o.value)] else []) ++ ((bif decide (a.1 = o.key) then [] else [a]) ++ refA o (done || !Op.bytesLess a.1 o.key) l)
theorem refA_done (o : OpT) : ∀ {l : List (List UInt8 × List UInt8)}, (∀ a ∈ l, a.1 ≠ o.key) → refA o true l = l
  | [], _ => rfl
  | a :: l, h => by
    rw [refA, decide_eq_false (h a List.mem_cons_self)]
    simp [refA_done o fun b hb => h b (List.mem_cons_of_mem _ hb)]
theorem attr_law (o : OpT) : ∀ {l : List (List UInt8 × List UInt8)} {k0 : Option (List UInt8)}, attrsOk k0 l = true → refA o o.gone l = setA o l
  | [], _, _ => by
    unfold setA midA
    rw [refA]
    simp [posK]
  | a :: l, k0, h => by
    have ih := attr_law o (attrsOk_tail h)
    have hb := attrs_behind (attrsOk_tail h)
    rw [refA]
    cases ha : Op.bytesLess a.1 o.key with
    | true =>
      have hne := less_ne ha
      have e1 : posK o.key (a :: l) = posK o.key l + 1 := by rw [posK, ha]; rfl
      have e2 : hasK o.key (a :: l) = hasK o.key l := by
        unfold hasK
        rw [e1]
        simp
      simp only [Bool.not_true, Bool.and_false, cond_false, List.nil_append, Bool.or_false, decide_eq_false hne]
      rw [ih]
      unfold setA
      rw [e1, e2]
      rw [List.take_succ_cons, Nat.add_right_comm (posK o.key l) 1, List.drop_succ_cons]
      simp
    | false =>
      have e1 : posK o.key (a :: l) = 0 := by rw [posK, ha]; rfl
      simp only [Bool.not_false, Bool.and_true, Bool.or_true]
      by_cases he : a.1 = o.key
      · have e2 : hasK o.key (a :: l) = true := by unfold hasK; rw [e1]; simp [he]
        rw [decide_eq_true he, refA_done o fun b hm e => by
          have := hb b hm
          rw [he, ← e, less_irrefl] at this
          cases this]
        unfold setA midA
        rw [e1, e2]
        cases o.gone <;> rfl
      · have e2 : hasK o.key (a :: l) = false := by unfold hasK; rw [e1]; simp [he]
        have hka : Op.bytesLess o.key a.1 = true := by
          cases hk : Op.bytesLess o.key a.1 with
          | true => rfl
          | false => exact absurd (less_tri ha hk) he
        rw [decide_eq_false he, refA_done o fun b hm e => by
          have := less_trans hka (hb b hm)
          rw [← e, less_irrefl] at this
          cases this]
        unfold setA midA
        rw [e1, e2]
        cases o.gone <;> rfl
end Bow
/- SP12: a moved node, when it has been put in: it still stands where it stood, or one on; weights. -/
namespace Bow
open Go

theorem at_cons {t s : Tree} {k : Int} (p : List Int) (h : subT t k = some s) : atT t (k :: p) = atT s p := by rw [atT, h]
theorem lift_at {at_ : Int} (h0 : 0 ≤ at_) (x : Tree) : ∀ (fr to : List Int) (t s z : Tree), fr ≠ [] → atT t fr = some s → within fr to = false → atT t to = some z → at_ ≤ z.subs.length →
    ∃ s', atT (changeT (insT at_ x) t to) (liftP to at_ fr) = some s'
  | [], _, _, _, _, h, _, _, _, _ => absurd rfl h
  | k :: q, [], t, s, z, _, hs, hw, hz, hat => by
    rw [atT] at hz
    injection hz with hz
    subst hz
    rw [atT] at hs
    cases hu : subT t k with
    | none => rw [hu] at hs; cases hs
    | some u =>
    rw [hu] at hs
    obtain ⟨hk, hsk, _⟩ := subT_some hu
    have hkl := lt_of_get hsk
    rw [lift_nil]
    show ∃ s', atT (insT at_ x t) _ = some s'
    by_cases h : at_ ≤ k
    · rw [decide_eq_true h]
      simp only [cond_true]
      have e : (k + 1).toNat = k.toNat + 1 := by omega
      have hu' : subT (insT at_ x t) (k + 1) = some u := by
        rw [insT_eq, subT_with _ _ _ (by omega), e, ins_get_ge _ _ _ _ (by omega) (by omega), hsk]
      exact ⟨s, by rw [at_cons _ hu']; exact hs⟩
    · rw [decide_eq_false h]
      simp only [cond_false]
      have hu' : subT (insT at_ x t) k = some u := by
        rw [insT_eq, subT_with _ _ _ hk, ins_get_lt _ _ _ _ (by omega) hkl, hsk]
      exact ⟨s, by rw [at_cons _ hu']; exact hs⟩
  | k :: q, j :: to, t, s, z, _, hs, hw, hz, hat => by
    rw [atT] at hs hz
    cases hu : subT t k with
    | none => rw [hu] at hs; cases hs
    | some u =>
    rw [hu] at hs
    simp only at hs
    obtain ⟨hk, hsk, _⟩ := subT_some hu
    have hkl := lt_of_get hsk
    by_cases h : k = j
    · subst h
      rw [hu] at hz
      simp only at hz
      rw [within_cons] at hw
      simp only [decide_true, Bool.true_and] at hw
      have hq : q ≠ [] := by
        rintro rfl
        rw [within_nil] at hw
        cases hw
      obtain ⟨s', ih⟩ := lift_at h0 x q to u s z hq hs hw hz hat
      rw [lift_cons, change_cons _ _ _ _ hu]
      have hu1 : subT (t.withSubs (t.subs.set k.toNat (changeT (insT at_ x) u to))) k = some (changeT (insT at_ x) u to) := by
        rw [subT_with _ _ _ hk, List.getElem?_set_self hkl]
      exact ⟨s', by rw [at_cons _ hu1]; exact ih⟩
    · cases hv : subT t j with
      | none => rw [hv] at hz; cases hz
      | some v =>
      obtain ⟨hj, hsj, _⟩ := subT_some hv
      rw [lift_other _ _ _ (fun e => h e.symm), change_cons _ _ _ _ hv]
      have hne : k.toNat ≠ j.toNat := by omega
      have hu1 : subT (t.withSubs (t.subs.set j.toNat (changeT (insT at_ x) v to))) k = some u := by
        rw [subT_with _ _ _ hk, List.getElem?_set_ne (fun e => hne e.symm), hsk]
      exact ⟨s, by rw [at_cons _ hu1]; exact hs⟩

theorem weights_set_add {s u : Tree} {n : Nat} : ∀ {l : List Tree} {i : Nat}, l[i]? = some s → u.weight ≤ s.weight + n → weights (l.set i u) ≤ weights l + n
  | [], i, h, _ => by simp at h
  | x :: l, 0, h, hu => by
    simp at h
    subst h
    rw [List.set_cons_zero, weights, weights]
    omega
  | x :: l, i + 1, h, hu => by
    simp at h
    have := weights_set_add (l := l) h hu
    rw [List.set_cons_succ, weights, weights]
    omega
theorem change_weight_add {F : Tree → Tree} {n : Nat} (hF : ∀ y, (F y).weight ≤ y.weight + n) : ∀ (p : List Int) (t : Tree), (changeT F t p).weight ≤ t.weight + n
  | [], t => hF t
  | i :: p, t => by
    rw [changeT]
    cases hs : subT t i with
    | none => simp only; omega
    | some s =>
      have ih := change_weight_add hF p s
      have h := weights_set_add (subT_some hs).2.1 ih
      have := withSubs_weight t (t.subs.set i.toNat (changeT F s p))
      simp only
      omega
theorem ins_weight (at_ : Int) (x y : Tree) : (insT at_ x y).weight ≤ y.weight + x.weight := by
  have h1 := withSubs_weight y (y.subs.take at_.toNat ++ x :: y.subs.drop at_.toNat)
  have h2 : weights (y.subs.take at_.toNat ++ x :: y.subs.drop at_.toNat) = weights y.subs + x.weight := by
    conv => rhs; rw [← List.take_append_drop at_.toNat y.subs]
    rw [weights_append, weights_append, weights]
    omega
  unfold insT
  omega
theorem lift_len (to : List Int) (at_ : Int) (fr : List Int) : (liftP to at_ fr).length = fr.length := by
  unfold liftP
  cases (decide (to.length < fr.length) && (within to fr && decide (at_ ≤ fr.getD to.length 0))) <;> simp
theorem moveT_eq (x t : Tree) (o : OpT) : moveT x t o = changeT (insT (landT o.path.dropLast (lastP o.path) o.to o.at_).2 x) (withoutT t o.path) (landT o.path.dropLast (lastP o.path) o.to o.at_).1 := rfl
end Bow
/- SP13: what becomes of a tree, in plain Lean; what is known of a valid operation. -/
namespace Bow
open Go

abbrev AttrL := List (List UInt8 × List UInt8)
def Tree.withAttrs : Tree → AttrL → Tree
  | .mk i l b _ c ss, a => .mk i l b a c ss
def setAT (o : OpT) (y : Tree) : Tree := y.withAttrs (setA o y.attrs)
/-- What an operation that is valid makes of a tree. -/
def applyT (t : Tree) (o : OpT) : Tree :=
  bif decide (o.kind = 1) then changeT (insT o.at_ (freshT o)) t o.path
  else bif decide (o.kind = 2) then withoutT t o.path
  else bif decide (o.kind = 3) then (match atT t o.path with | some x => moveT x t o | none => t)
  else bif decide (o.kind = 4) then changeT (setAT o) t o.path
  else bif decide (o.kind = 5) then changeT (relabelT o.label) t o.path
  else changeT (retextT o.pieces) t o.path
def applyR (t : Tree) (o : OpT) : Tree × Int := bif decide (ValidE t o = 0) then (applyT t o, 0) else (.mk 0 false [] [] [] [], ValidE t o)

theorem right_sub {t s : Tree} {i : Int} (ht : t.rightA = true) (h : subT t i = some s) : s.rightA = true := by
  rw [rightA_eq, Bool.and_eq_true, rightsA_all] at ht
  exact List.all_eq_true.1 ht.2 s (subT_some h).2.2
theorem right_at {y : Tree} : ∀ {p : List Int} {t : Tree}, t.rightA = true → atT t p = some y → y.rightA = true
  | [], t, ht, h => by
    rw [atT] at h
    injection h with h
    subst h
    exact ht
  | i :: p, t, ht, h => by
    rw [atT] at h
    cases hs : subT t i with
    | none => rw [hs] at h; cases h
    | some s =>
      rw [hs] at h
      exact right_at (p := p) (right_sub ht hs) h
theorem right_attrs {y : Tree} (h : y.rightA = true) : attrsOk none y.attrs = true := by
  rw [rightA_eq, Bool.and_eq_true] at h
  have := h.1
  unfold rightN at this
  rw [Bool.and_eq_true] at this
  exact this.2

/-- What is known of an operation that is valid. -/
inductive GoodO (t : Tree) (o : OpT) : Prop
  | ins (y) (hk : o.kind = 1) (hy : atT t o.path = some y) (hl : y.leaf = false) (h0 : 0 ≤ o.at_) (h1 : o.at_ ≤ y.subs.length) (h2 : o.label.length ≤ 64) : GoodO t o
  | del (x) (hk : o.kind = 2) (hne : o.path ≠ []) (hx : atT t o.path = some x) : GoodO t o
  | mov (x z) (hk : o.kind = 3) (hne : o.path ≠ []) (hx : atT t o.path = some x) (hw : within o.path o.to = false) (hz : atT t o.to = some z) (hl : z.leaf = false) (h0 : 0 ≤ o.at_) (h1 : o.at_ ≤ z.subs.length) : GoodO t o
  | att (y) (hk : o.kind = 4) (hy : atT t o.path = some y) (h1 : keyOk o.key = true) (h2 : o.gone = true ∨ o.value.length ≤ 256) : GoodO t o
  | lab (y) (hk : o.kind = 5) (hy : atT t o.path = some y) (h2 : o.label.length ≤ 64) : GoodO t o
  | edt (y) (hk : o.kind = 6) (hy : atT t o.path = some y) (hl : y.leaf = true) (he : (applyE y.text o.pieces).2 = 0) : GoodO t o

theorem into_zero {y : Tree} {n : Int} (h : intoE y n = 0) : y.leaf = false ∧ n ≤ y.subs.length := by
  unfold intoE at h
  cases hl : y.leaf with
  | true => rw [hl] at h; cases h
  | false =>
    rw [hl] at h
    by_cases hn : (y.subs.length : Int) < n
    · rw [decide_eq_true hn] at h; cases h
    · exact ⟨rfl, by omega⟩
theorem valid_right {t : Tree} {o : OpT} (h : ValidE t o = 0) : rightT t = true ∧ formedB o = true ∧ validE t o = 0 := by
  unfold ValidE at h
  cases hr : rightT t with
  | false => rw [hr] at h; cases h
  | true =>
    cases hf : formedB o with
    | false => rw [hr, hf] at h; cases h
    | true => rw [hr, hf] at h; exact ⟨rfl, rfl, h⟩
theorem formed_path {o : OpT} (h : formedB o = true) : mayP o.path = true := by
  unfold formedB at h
  rw [Bool.and_eq_true] at h
  exact h.1
theorem may_step {p : List Int} (h : mayP p = true) : ∀ i ∈ p, 0 ≤ i ∧ i ≤ 1048576 := by
  unfold mayP at h
  rw [Bool.and_eq_true] at h
  intro i hi
  have := List.all_eq_true.1 h.2 i hi
  unfold stepOk at this
  simp only [Bool.and_eq_true, decide_eq_true_eq] at this
  omega
theorem good_of {t : Tree} {o : OpT} (h : ValidE t o = 0) : GoodO t o := by
  obtain ⟨hr, hf, hv⟩ := valid_right h
  have hk : o.kind = 1 ∨ o.kind = 2 ∨ o.kind = 3 ∨ o.kind = 4 ∨ o.kind = 5 ∨ o.kind = 6 := by
    unfold formedB at hf
    rw [Bool.and_eq_true] at hf
    have h2 := hf.2
    by_cases e1 : o.kind = 1 <;> by_cases e2 : o.kind = 2 <;> by_cases e3 : o.kind = 3 <;> by_cases e4 : o.kind = 4 <;> by_cases e5 : o.kind = 5 <;> by_cases e6 : o.kind = 6 <;> simp_all
  unfold validE at hv
  unfold formedB at hf
  rw [Bool.and_eq_true] at hf
  have hf2 := hf.2
  by_cases hroot : (decide (o.kind = 2) || decide (o.kind = 3)) && decide (o.path = [])
  · rw [hroot] at hv
    cases hv
  · have hroot : ((decide (o.kind = 2) || decide (o.kind = 3)) && decide (o.path = [])) = false := by simpa using hroot
    rw [hroot] at hv
    simp only [cond_false] at hv
    cases hx : atT t o.path with
    | none => rw [hx] at hv; cases hv
    | some x =>
    rw [hx] at hv
    simp only at hv
    rcases hk with hk | hk | hk | hk | hk | hk
    · simp only [hk] at hv hf2
      obtain ⟨h1, h2⟩ := into_zero hv
      have hf3 : (gapOk o.at_ && decide ((o.label.length : Int) ≤ 64)) = true := hf2
      unfold gapOk at hf3
      simp only [Bool.and_eq_true, decide_eq_true_eq] at hf3
      exact .ins x hk hx h1 hf3.1.1 h2 (by omega)
    · have hne : o.path ≠ [] := by
        intro e
        rw [hk, e] at hroot
        cases hroot
      exact .del x hk hne hx
    · have hne : o.path ≠ [] := by
        intro e
        rw [hk, e] at hroot
        cases hroot
      simp only [hk] at hv hf2
      have hv : (bif within o.path o.to then (84 : Int) else match atT t o.to with | none => 81 | some y => intoE y o.at_) = 0 := hv
      have hf3 : (gapOk o.at_ && mayP o.to) = true := hf2
      unfold gapOk at hf3
      simp only [Bool.and_eq_true, decide_eq_true_eq] at hf3
      cases hw : within o.path o.to with
      | true => rw [hw] at hv; cases hv
      | false =>
        rw [hw] at hv
        cases hz : atT t o.to with
        | none => rw [hz] at hv; cases hv
        | some z =>
          rw [hz] at hv
          obtain ⟨h1, h2⟩ := into_zero hv
          exact .mov x z hk hne hx hw hz h1 hf3.1.1 h2
    · simp only [hk] at hf2
      have hf3 : (keyOk o.key && (o.gone || decide ((o.value.length : Int) ≤ 256))) = true := hf2
      simp only [Bool.and_eq_true, Bool.or_eq_true, decide_eq_true_eq] at hf3
      exact .att x hk hx hf3.1 (hf3.2.imp id fun h => by omega)
    · simp only [hk] at hf2
      have hf3 : decide ((o.label.length : Int) ≤ 64) = true := hf2
      simp only [decide_eq_true_eq] at hf3
      exact .lab x hk hx (by omega)
    · simp only [hk] at hv
      have hv : (bif !x.leaf then (83 : Int) else (applyE x.text o.pieces).2) = 0 := hv
      cases hl : x.leaf with
      | false => rw [hl] at hv; cases hv
      | true => rw [hl] at hv; exact .edt x hk hx hl hv
theorem good_to {o : OpT} (hf : formedB o = true) (hk : o.kind = 3) : mayP o.to = true := by
  unfold formedB at hf
  rw [Bool.and_eq_true] at hf
  have hf2 := hf.2
  simp only [hk] at hf2
  have hf3 : (gapOk o.at_ && mayP o.to) = true := hf2
  rw [Bool.and_eq_true] at hf3
  exact hf3.2
end Bow
/- SP14: how heavy a tree becomes, in plain Lean. -/
namespace Bow
open Go

theorem weights_set_eq {s u : Tree} : ∀ {l : List Tree} {i : Nat}, l[i]? = some s → weights (l.set i u) + s.weight = weights l + u.weight
  | [], i, h => by simp at h
  | x :: l, 0, h => by
    simp at h
    subst h
    rw [List.set_cons_zero, weights, weights]
    omega
  | x :: l, i + 1, h => by
    simp at h
    have := weights_set_eq (u := u) (l := l) h
    rw [List.set_cons_succ, weights, weights]
    omega
theorem change_weight_eq {F : Tree → Tree} {y : Tree} : ∀ {p : List Int} {t : Tree}, atT t p = some y → (changeT F t p).weight + y.weight = t.weight + (F y).weight
  | [], t, h => by
    rw [atT] at h
    injection h with h
    subst h
    rw [changeT]
    omega
  | i :: p, t, h => by
    rw [atT] at h
    cases hs : subT t i with
    | none => rw [hs] at h; cases h
    | some s =>
      rw [hs] at h
      have ih := change_weight_eq (F := F) (p := p) h
      rw [changeT, hs]
      simp only
      have h1 := weights_set_eq (u := changeT F s p) (subT_some hs).2.1
      have h2 := withSubs_weight t (t.subs.set i.toNat (changeT F s p))
      omega
theorem del_weight_eq {y x : Tree} {i : Int} (h : y.subs[i.toNat]? = some x) : (delT i y).weight + x.weight = y.weight := by
  have h1 := withSubs_weight y (y.subs.take i.toNat ++ y.subs.drop (i.toNat + 1))
  have h2 : weights (y.subs.take i.toNat ++ y.subs.drop (i.toNat + 1)) + x.weight = weights y.subs := by
    have hl := lt_of_get h
    conv => rhs; rw [← List.take_append_drop i.toNat y.subs]
    rw [weights_append, weights_append, List.drop_eq_getElem_cons hl, weights]
    have : y.subs[i.toNat] = x := by rw [List.getElem?_eq_getElem hl] at h; injection h
    rw [this]
    omega
  unfold delT
  omega
theorem without_weight {t x : Tree} {p : List Int} (hne : p ≠ []) (hx : atT t p = some x) : (withoutT t p).weight + x.weight = t.weight := by
  obtain ⟨y, y1, y2, y3, y4⟩ := at_parent hne hx
  rw [lastP_eq hne] at y4
  have h1 := change_weight_eq (F := delT (lastP p)) y1
  have h2 := del_weight_eq y4
  unfold withoutT
  omega
def costO (o : OpT) : Nat := 2 + o.label.length + o.key.length + o.value.length + putsLen o.pieces
theorem attrLen_append : ∀ a b : AttrL, attrLen (a ++ b) = attrLen a + attrLen b
  | [], b => by simp [attrLen]
  | x :: a, b => by
    have := attrLen_append a b
    rw [List.cons_append, attrLen_cons, attrLen_cons]
    omega
theorem setA_weight (o : OpT) (y : Tree) : (setAT o y).weight ≤ y.weight + (1 + o.key.length + o.value.length) := by
  have h1 : (setA o y.attrs).length + attrLen (setA o y.attrs) ≤ y.attrs.length + attrLen y.attrs + (1 + o.key.length + o.value.length) := by
    unfold setA
    rw [attrLen_append, attrLen_append]
    have e : attrLen y.attrs = attrLen (y.attrs.take (posK o.key y.attrs)) + attrLen (y.attrs.drop (posK o.key y.attrs)) := by rw [← attrLen_append, List.take_append_drop]
    have e2 : attrLen (y.attrs.drop (posK o.key y.attrs + (bif hasK o.key y.attrs then 1 else 0))) ≤ attrLen (y.attrs.drop (posK o.key y.attrs)) := by
      rw [← List.drop_drop]
      cases hasK o.key y.attrs with
      | false => simp
      | true =>
        cases y.attrs.drop (posK o.key y.attrs) with
        | nil => simp
        | cons a l => rw [attrLen_cons]; simp only [cond_true, List.drop_succ_cons, List.drop_zero]; omega
    have e3 : (midA o).length + attrLen (midA o) ≤ 1 + o.key.length + o.value.length := by
      unfold midA
      cases o.gone <;> simp [attrLen]
      omega
    simp only [List.length_append, List.length_take, List.length_drop]
    omega
  have w1 := weight_eq y
  have w2 := weight_eq (setAT o y)
  have : (setAT o y).label = y.label ∧ (setAT o y).text = y.text ∧ (setAT o y).attrs = setA o y.attrs ∧ (setAT o y).subs = y.subs := by cases y; exact ⟨rfl, rfl, rfl, rfl⟩
  obtain ⟨q1, q2, q3, q4⟩ := this
  rw [q1, q2, q3, q4] at w2
  omega
theorem relabel_weight (s : List UInt8) (y : Tree) : (relabelT s y).weight ≤ y.weight + s.length := by
  have w1 := weight_eq y
  have w2 := weight_eq (relabelT s y)
  have : (relabelT s y).label = s ∧ (relabelT s y).text = y.text ∧ (relabelT s y).attrs = y.attrs ∧ (relabelT s y).subs = y.subs := by cases y; exact ⟨rfl, rfl, rfl, rfl⟩
  obtain ⟨q1, q2, q3, q4⟩ := this
  rw [q1, q2, q3, q4] at w2
  omega
theorem applyE_length (t : List UInt8) (l : List PieceT) : (applyE t l).1.length ≤ t.length + putsLen l := by
  unfold applyE
  cases hr : rightP l with
  | false => simp
  | true =>
    obtain ⟨r1, r2, r3⟩ := rightP_ok hr
    by_cases h : (t.length : Int) < extentP l
    · rw [decide_eq_true h]; simp
    · rw [decide_eq_false h]
      exact editP_len r2 (by omega)
theorem retext_weight (l : List PieceT) (y : Tree) : (retextT l y).weight ≤ y.weight + putsLen l := by
  have w1 := weight_eq y
  have w2 := weight_eq (retextT l y)
  have : (retextT l y).label = y.label ∧ (retextT l y).text = (applyE y.text l).1 ∧ (retextT l y).attrs = y.attrs ∧ (retextT l y).subs = y.subs := by cases y; exact ⟨rfl, rfl, rfl, rfl⟩
  obtain ⟨q1, q2, q3, q4⟩ := this
  rw [q1, q2, q3, q4] at w2
  have := applyE_length y.text l
  omega
theorem fresh_weight (o : OpT) : (freshT o).weight = 1 + o.label.length := by
  have := weight_eq (freshT o)
  have e : (freshT o).label = o.label ∧ (freshT o).text = [] ∧ (freshT o).attrs = [] ∧ (freshT o).subs = [] := ⟨rfl, rfl, rfl, rfl⟩
  obtain ⟨q1, q2, q3, q4⟩ := e
  rw [q1, q2, q3, q4] at this
  simp [attrLen, weights] at this
  omega
theorem applyT_weight {t : Tree} {o : OpT} (h : ValidE t o = 0) : (applyT t o).weight ≤ t.weight + costO o := by
  unfold costO
  cases good_of h with
  | ins y hk hy hl h0 h1 h2 =>
    have e : applyT t o = changeT (insT o.at_ (freshT o)) t o.path := by unfold applyT; rw [hk]; rfl
    have := change_weight_eq (F := insT o.at_ (freshT o)) hy
    have := ins_weight o.at_ (freshT o) y
    have := fresh_weight o
    rw [e]
    omega
  | del x hk hne hx =>
    have e : applyT t o = withoutT t o.path := by unfold applyT; rw [hk]; rfl
    have := without_weight hne hx
    rw [e]
    omega
  | mov x z hk hne hx hw hz hl h0 h1 =>
    have e : applyT t o = moveT x t o := by unfold applyT; rw [hk, hx]; rfl
    have := without_weight hne hx
    have := change_weight_add (F := insT (landT o.path.dropLast (lastP o.path) o.to o.at_).2 x) (n := x.weight) (ins_weight _ x) (landT o.path.dropLast (lastP o.path) o.to o.at_).1 (withoutT t o.path)
    rw [e, moveT_eq]
    omega
  | att y hk hy h1 h2 =>
    have e : applyT t o = changeT (setAT o) t o.path := by unfold applyT; rw [hk]; rfl
    have := change_weight_eq (F := setAT o) hy
    have := setA_weight o y
    rw [e]
    omega
  | lab y hk hy h2 =>
    have e : applyT t o = changeT (relabelT o.label) t o.path := by unfold applyT; rw [hk]; rfl
    have := change_weight_eq (F := relabelT o.label) hy
    have := relabel_weight o.label y
    rw [e]
    omega
  | edt y hk hy hl he =>
    have e : applyT t o = changeT (retextT o.pieces) t o.path := by unfold applyT; rw [hk]; rfl
    have := change_weight_eq (F := retextT o.pieces) hy
    have := retext_weight o.pieces y
    rw [e]
    omega
theorem applyR_weight (t : Tree) (o : OpT) : (applyR t o).1.weight ≤ t.weight + costO o := by
  unfold applyR
  by_cases h : ValidE t o = 0
  · rw [decide_eq_true h]
    exact applyT_weight h
  · rw [decide_eq_false h]
    have e : (Tree.mk 0 false [] [] [] []).weight = 1 := by
      have := weight_eq (Tree.mk 0 false [] [] [] [])
      simp [attrLen, weights, Tree.label, Tree.text, Tree.attrs, Tree.subs] at this
      exact this
    show (Tree.mk 0 false [] [] [] []).weight ≤ _
    rw [e]
    unfold costO
    omega
end Bow
/- SP21: where nodes and gaps are behind an operation (shift), in plain Lean. -/
namespace Bow
open Go

def movesO (o : OpT) : Bool := formedB o && (bif decide (o.kind = 1) then true else bif decide (o.kind = 2) then decide (0 < o.path.length) else bif decide (o.kind = 3) then decide (0 < o.path.length) && !within o.path o.to else false)
structure Chg where
  takes : Bool
  puts : Bool
  frm : List Int
  to : List Int
  at_ : Int
  gap : Int
def chgO (o : OpT) : Chg := ⟨!decide (o.kind = 1), !decide (o.kind = 2), bif decide (o.kind = 1) then [] else o.path.dropLast, bif decide (o.kind = 1) then o.path else o.to, bif decide (o.kind = 1) then 0 else lastP o.path, o.at_⟩
def Chg.number (c : Chg) (p : List Int) (k : Int) : Int :=
  (bif c.takes && (decide (c.at_ < k) && decide (p = c.frm)) then k - 1 else k) + (bif c.puts && (decide (c.gap ≤ k) && decide (p = c.to)) then 1 else 0)
def Chg.land (c : Chg) : Int := bif decide (c.at_ < c.gap) && decide (c.frm = c.to) then c.gap - 1 else c.gap
/-- The numbers of a path, each shifted in its parent as it was. -/
def Chg.nums (c : Chg) : List Int → List Int → List Int
  | _, [] => []
  | q, k :: p => c.number q k :: Chg.nums c (q ++ [k]) p
def nodeP (o : OpT) (p : List Int) : Option (List Int) :=
  bif !movesO o then some p
  else bif (chgO o).takes && within o.path p then (bif !(chgO o).puts then none else some ((chgO o).nums [] o.to ++ [(chgO o).land] ++ p.drop o.path.length))
  else some ((chgO o).nums [] p)
def gapP (o : OpT) (p : List Int) (at_ : Int) (first : Bool) : List Int × Int × Bool :=
  match nodeP o p with
  | none => ([], 0, false)
  | some q => bif !movesO o then (q, at_, true)
    else (q, (bif (chgO o).takes && (decide ((chgO o).at_ < at_) && decide (p = (chgO o).frm)) then at_ - 1 else at_) + (bif (chgO o).puts && (decide (p = (chgO o).to) && (decide ((chgO o).gap < at_) || (decide (at_ = (chgO o).gap) && !first))) then 1 else 0), true)
def undoO (o : OpT) : OpT :=
  bif decide (o.kind = 3) && movesO o then { noOp 3 with path := (nodeP o o.path).getD [], to := (nodeP o (chgO o).frm).getD [], at_ := (chgO o).at_ + (bif decide ((chgO o).frm = (chgO o).to) && decide ((chgO o).land < (chgO o).at_) then 1 else 0) } else noOp 0

/-! ### What becomes of an operation behind another one (but for two edits of one leaf) -/
def soundO (o : OpT) : Bool := formedB o && (bif decide (o.kind = 2) then decide (0 < o.path.length) else bif decide (o.kind = 3) then decide (0 < o.path.length) && !within o.path o.to else true)
def dropO (p : List Int) : OpT := { noOp 2 with path := p }
def shiftedO (b a : OpT) (prior : Bool) : OpT :=
  bif decide (b.kind = 1) then { b with at_ := (gapP a b.path b.at_ prior).2.1, path := (nodeP a b.path).getD [] }
  else bif decide (b.kind = 3) then { b with to := (gapP a b.to b.at_ prior).1, at_ := (gapP a b.to b.at_ prior).2.1, path := (nodeP a b.path).getD [] }
  else { b with path := (nodeP a b.path).getD [] }
def wonO (b a : OpT) : Bool := (decide (a.kind = b.kind) && decide (a.path = b.path)) && (decide (b.kind = 3) || (decide (b.kind = 5) || (decide (b.kind = 4) && decide (a.key = b.key))))
def bothEdit (b a : OpT) : Bool := decide (a.kind = 6) && (decide (b.kind = 6) && decide (a.path = b.path))
def rowO (b a : OpT) (prior : Bool) : List OpT :=
  bif decide (a.kind = 2) then
    (bif within a.path b.path then []
     else bif decide (b.kind = 3) && within a.path b.to then [dropO ((nodeP a b.path).getD [])]
     else [shiftedO b a prior])
  else bif wonO b a then (bif prior then [shiftedO b a prior] else [])
  else bif !decide (a.kind = 3) then [shiftedO b a prior]
  else bif decide (b.kind = 2) then
    (bif within b.path a.path && (!decide (b.path = a.path) && !within b.path a.to) then
      [dropO ((nodeP a a.path).getD []), dropO ((nodeP (dropO ((nodeP a a.path).getD [])) ((nodeP a b.path).getD [])).getD [])]
     else [shiftedO b a prior])
  else bif decide (b.kind = 3) && (within b.path a.to && within a.path b.to) then (bif prior then [undoO a, b] else [])
  else [shiftedO b a prior]
def behindO (b a : OpT) (prior : Bool) : List OpT × Int :=
  bif !soundO a || !soundO b then ([], 80)
  else bif (rowO b a prior).all formedB then ((rowO b a prior).map bareO, 0) else ([], 3)
end Bow
/- SP22: edits made normal; two edits behind each other (leaftext), in plain Lean. -/
namespace Bow
open Go

/-! ### A maker of a normal edit -/
structure Mk where
  l : List PieceT
  keep : Int
def Mk.nil : Mk := ⟨[], 0⟩
/-- The last piece, turned. -/
def modL (f : PieceT → PieceT) : List PieceT → List PieceT
  | [] => []
  | [p] => [f p]
  | p :: q :: r => p :: modL f (q :: r)
def Mk.last (m : Mk) : Mk := bif decide (0 < m.keep) || m.l.isEmpty then ⟨m.l ++ [⟨m.keep, 0, []⟩], 0⟩ else m
def Mk.put (s : List UInt8) (m : Mk) : Mk := bif s.isEmpty then m else ⟨modL (fun p => { p with put := p.put ++ s }) m.last.l, m.last.keep⟩
def Mk.drop (n : Int) (m : Mk) : Mk := bif decide (0 < n) then ⟨modL (fun p => { p with drop := p.drop + n }) m.last.l, m.last.keep⟩ else m
def Mk.kept (n : Int) (m : Mk) : Mk := ⟨m.l, m.keep + n⟩
def Mk.piece (m : Mk) (p : PieceT) : Mk := ((m.kept p.keep).put p.put).drop p.drop
def normP (l : List PieceT) : List PieceT := (l.foldl Mk.piece Mk.nil).l

/-! ### What is left of a normal edit -/
def rowPut : List PieceT → List UInt8 × List PieceT
  | [] => ([], [])
  | p :: r => bif decide (0 < p.keep) || p.put.isEmpty then ([], p :: r) else (p.put, { p with put := [] } :: r)
def rowRun : List PieceT → (Int × Bool × Bool) × List PieceT
  | [] => ((0, false, false), [])
  | p :: r => bif decide (0 < p.keep) then ((p.keep, false, true), p :: r) else bif decide (0 < p.drop) then ((p.drop, true, true), p :: r) else rowRun r
def rowTake (n : Int) : List PieceT → List PieceT
  | [] => []
  | p :: r => bif decide (0 < p.keep) then { p with keep := p.keep - n } :: r else { p with drop := p.drop - n } :: r
/-- How many bytes two rows go on with alike; whether each drops them; whether there are any; what is left. -/
def bothR (a b : List PieceT) : (Int × Bool × Bool × Bool) × List PieceT × List PieceT :=
  match rowRun a, rowRun b with
  | ((n, x, any), a'), ((m, y, more), b') =>
    bif !any && !more then ((0, false, false, false), a', b')
    else match bif !any then m else bif more then min n m else n with
      | k => ((k, x, y, true), rowTake k a', rowTake k b')

/-! ### Transform -/
structure Tr where
  p : List PieceT
  q : List PieceT
  x : Mk
  y : Mk
def Tr.puts (prior : Bool) (s : Tr) : Tr :=
  match rowPut s.p, rowPut s.q with
  | (a, p), (b, q) => bif prior then ⟨p, q, (s.x.put a).kept b.length, (s.y.kept a.length).put b⟩ else ⟨p, q, (s.x.kept b.length).put a, (s.y.put b).kept a.length⟩
def Tr.does (s : Tr) (n : Int) (x y : Bool) : Tr :=
  bif x then (bif y then s else { s with x := s.x.drop n }) else bif y then { s with y := s.y.drop n } else { s with x := s.x.kept n, y := s.y.kept n }
def Tr.go (prior : Bool) : Nat → Tr → Tr
  | 0, s => s
  | f + 1, s => match s.puts prior with
    | ⟨p, q, x, y⟩ => match bothR p q with
      | ((n, d, g, any), p', q') => bif any then Tr.go prior f (Tr.does ⟨p', q', x, y⟩ n d g) else ⟨p', q', x, y⟩
def extN : List PieceT → Nat
  | [] => 0
  | p :: l => p.keep.toNat + p.drop.toNat + extN l
def transP (a b : List PieceT) (prior : Bool) : List PieceT × List PieceT × Int :=
  bif !rightP a || !rightP b then ([], [], 2)
  else match Tr.go prior (extN (normP a) + extN (normP b) + 1) ⟨normP a, normP b, Mk.nil, Mk.nil⟩ with
    | ⟨_, _, x, y⟩ => bif !rightP x.l || !rightP y.l then ([], [], 3) else (x.l, y.l, 0)

/-! ### Bounds -/
structure PieceT.Nn (p : PieceT) : Prop where
  k : 0 ≤ p.keep
  d : 0 ≤ p.drop
def PieceT.w (p : PieceT) : Int := p.keep + p.drop + p.put.length + 1
def sumW : List PieceT → Int
  | [] => 0
  | p :: l => p.w + sumW l
def Mk.w (m : Mk) : Int := m.keep + sumW m.l
structure Mk.Ok (m : Mk) : Prop where
  k : 0 ≤ m.keep
  l : ∀ p ∈ m.l, p.Nn
theorem modL_ne {f : PieceT → PieceT} : ∀ {l : List PieceT}, l ≠ [] → modL f l ≠ []
  | [], h => absurd rfl h
  | [p], _ => by simp [modL]
  | p :: q :: r, _ => by simp [modL]
theorem Mk.last_ne (m : Mk) : m.last.l ≠ [] := by
  unfold Mk.last
  cases h : decide (0 < m.keep) || m.l.isEmpty with
  | true => simp
  | false =>
    intro e
    rw [cond_false] at e
    rw [e] at h
    simp at h
end Bow
/- SP23: bounds of two edits that go on alike, in plain Lean. -/
namespace Bow
open Go

structure RowOk (r : List PieceT) : Prop where
  p : ∀ p ∈ r, p.Nn ∧ p.w ≤ 1000000000000
  l : r.length ≤ 1000000000000
/-- The weight of what is left of a row. -/
def rowR : List PieceT → Int
  | [] => 0
  | p :: l => p.keep + p.drop + p.put.length + rowR l
/-- The state of two edits that go on alike. -/
structure Tr.Ok (s : Tr) : Prop where
  p : RowOk s.p
  q : RowOk s.q
  x : s.x.Ok
  y : s.y.Ok
  wx : s.x.w + 3 * (rowR s.p + rowR s.q) ≤ 900000000000
  wy : s.y.w + 3 * (rowR s.p + rowR s.q) ≤ 900000000000
end Bow
/- SP29: two edits of one leaf behind each other; what becomes of any operation behind any other one, in plain Lean. -/
namespace Bow
open Go

def editO (b a : OpT) (prior : Bool) : OpT := { b with pieces := (transP b.pieces a.pieces prior).1 }
def behindE (b a : OpT) (prior : Bool) : List OpT × Int :=
  bif !soundO a || !soundO b then ([], 80) else bif decide ((transP b.pieces a.pieces prior).2.2 = 0) && formedB (editO b a prior) then ([bareO (editO b a prior)], 0) else ([], 3)
def behindX (b a : OpT) (prior : Bool) : List OpT × Int := bif bothEdit b a then behindE b a prior else behindO b a prior
theorem row_len (b a : OpT) (prior : Bool) : (rowO b a prior).length ≤ 2 := by
  unfold rowO
  cases decide (a.kind = 2) with
  | true =>
    cases within a.path b.path with
    | true => exact Nat.zero_le _
    | false => cases decide (b.kind = 3) && within a.path b.to <;> exact Nat.le_succ _
  | false =>
    cases wonO b a with
    | true => cases prior <;> simp
    | false =>
      cases decide (a.kind = 3) with
      | false => exact Nat.le_succ _
      | true =>
        cases decide (b.kind = 2) with
        | true => cases within b.path a.path && (!decide (b.path = a.path) && !within b.path a.to) <;> simp
        | false => cases decide (b.kind = 3) && (within b.path a.to && within a.path b.to) <;> cases prior <;> simp
theorem bothEdit_comm (a b : OpT) : bothEdit a b = bothEdit b a := by
  unfold bothEdit
  have : decide (b.path = a.path) = decide (a.path = b.path) := decide_eq_decide.2 ⟨fun h => h.symm, fun h => h.symm⟩
  rw [this]
  cases decide (a.kind = 6) <;> cases decide (b.kind = 6) <;> rfl

def bothX (a b : OpT) (prior : Bool) : List OpT × List OpT × Int :=
  bif decide ((behindX a b prior).2 = 0) then (bif decide ((behindX b a (!prior)).2 = 0) then ((behindX a b prior).1, (behindX b a (!prior)).1, 0) else ([], [], (behindX b a (!prior)).2)) else ([], [], (behindX a b prior).2)
end Bow
/- SP24: lists of operations behind each other, in plain Lean; that it ends. -/
namespace Bow
open Go

def muchP (xs ys : List OpT) : Bool := decide (4096 < xs.length) || decide (4096 < ys.length)
/-- Two lists brought by each other: what is asked of shorter ones by f. -/
def bringS (prior : Bool) (f : List OpT → List OpT → Option (List OpT × List OpT × Int)) (xs ys : List OpT) : Option (List OpT × List OpT × Int) :=
  bif muchP xs ys then some ([], [], 3)
  else match xs, ys with
    | [], ys => some ([], ys, 0)
    | a :: xs, [] => some (a :: xs, [], 0)
    | a :: a' :: xs, b :: ys => match f [a] (b :: ys) with
      | none => none
      | some (x, y, e) => bif !decide (e = 0) then some ([], [], e) else match f (a' :: xs) y with
        | none => none
        | some (z, w, e) => bif !decide (e = 0) then some ([], [], e) else bif muchP (x ++ z) w then some ([], [], 3) else some (x ++ z, w, 0)
    | [a], b :: b' :: ys => match f [a] [b] with
      | none => none
      | some (x, y, e) => bif !decide (e = 0) then some ([], [], e) else match f x (b' :: ys) with
        | none => none
        | some (z, w, e) => bif !decide (e = 0) then some ([], [], e) else bif muchP z (y ++ w) then some ([], [], 3) else some (z, y ++ w, 0)
    | [a], [b] => some (bothX a b prior)
/-- In at most so many steps. -/
def bringF (prior : Bool) : Nat → List OpT → List OpT → Option (List OpT × List OpT × Int)
  | 0 => fun _ _ => none
  | n + 1 => bringS prior (bringF prior n)
theorem bringF_succ (prior : Bool) (n : Nat) (xs ys : List OpT) : bringF prior (n + 1) xs ys = bringS prior (bringF prior n) xs ys := rfl

/-! ### How many moves -/
def mv1 (o : OpT) : Nat := bif decide (o.kind = 3) then 1 else 0
def mvs (l : List OpT) : Nat := (l.map mv1).sum
theorem mvs_nil : mvs [] = 0 := rfl
theorem mvs_cons (o : OpT) (l : List OpT) : mvs (o :: l) = mv1 o + mvs l := by simp [mvs]
theorem mvs_append (a b : List OpT) : mvs (a ++ b) = mvs a + mvs b := by simp [mvs]
theorem mv1_le (o : OpT) : mv1 o ≤ 1 := by unfold mv1; cases decide (o.kind = 3) <;> simp
theorem bare_kind (o : OpT) : (bareO o).kind = o.kind := by
  unfold bareO
  cases h1 : o.kind == 1 with
  | true => exact (eq_of_beq h1).symm
  | false => cases h2 : o.kind == 2 with
    | true => exact (eq_of_beq h2).symm
    | false => cases h3 : o.kind == 3 with
      | true => exact (eq_of_beq h3).symm
      | false => cases h4 : o.kind == 4 with
        | true => exact (eq_of_beq h4).symm
        | false => cases h5 : o.kind == 5 with
          | true => exact (eq_of_beq h5).symm
          | false => cases h6 : o.kind == 6 with
            | true => exact (eq_of_beq h6).symm
            | false => rfl
theorem mv1_bare (o : OpT) : mv1 (bareO o) = mv1 o := by unfold mv1; rw [bare_kind]
theorem mvs_bare (l : List OpT) : mvs (l.map bareO) = mvs l := by
  induction l with
  | nil => rfl
  | cons o l ih => rw [List.map_cons, mvs_cons, mvs_cons, ih, mv1_bare]
theorem mv1_of {o o' : OpT} (h : o.kind = o'.kind) : mv1 o = mv1 o' := by unfold mv1; rw [h]
theorem shifted_kind (b a : OpT) (p : Bool) : (shiftedO b a p).kind = b.kind := by
  unfold shiftedO
  cases decide (b.kind = 1) <;> cases decide (b.kind = 3) <;> rfl
theorem mv1_drop (p : List Int) : mv1 (dropO p) = 0 := rfl

/-- One that becomes two: a delete behind a move, or the prior one of two moves across each other; the other one is gone. -/
theorem row_two {b a : OpT} {p : Bool} (h : (rowO b a p).length = 2) : rowO a b (!p) = [] ∧ ((a.kind = 3 ∧ b.kind = 2 ∧ mvs (rowO b a p) = 0) ∨ (a.kind = 3 ∧ b.kind = 3 ∧ p = true ∧ mvs (rowO b a p) ≤ 2)) := by
  unfold rowO at h ⊢
  cases h1 : decide (a.kind = 2) with
  | true =>
    rw [h1] at h
    cases h2 : within a.path b.path with
    | true => rw [h2] at h; cases h
    | false =>
      rw [h2] at h
      cases h3 : decide (b.kind = 3) && within a.path b.to <;> (rw [h3] at h; cases h)
  | false =>
    rw [h1] at h
    cases h2 : wonO b a with
    | true => rw [h2] at h; cases p <;> cases h
    | false =>
      rw [h2] at h
      have k1 : a.kind ≠ 2 := of_decide_eq_false h1
      cases h3 : decide (a.kind = 3) with
      | false => rw [h3] at h; cases h
      | true =>
        rw [h3] at h
        have k3 : a.kind = 3 := of_decide_eq_true h3
        cases h4 : decide (b.kind = 2) with
        | true =>
          rw [h4] at h
          have k4 : b.kind = 2 := of_decide_eq_true h4
          cases h5 : within b.path a.path && (!decide (b.path = a.path) && !within b.path a.to) with
          | false => rw [h5] at h; cases h
          | true =>
            rw [Bool.and_eq_true] at h5
            refine ⟨?_, .inl ⟨k3, k4, ?_⟩⟩
            · rw [h5.1]; rfl
            · simp [mvs_cons, mvs_nil, mv1_drop]
        | false =>
          rw [h4] at h
          cases h5 : decide (b.kind = 3) && (within b.path a.to && within a.path b.to) with
          | false => rw [h5] at h; cases h
          | true =>
            rw [h5] at h
            have h5' := h5
            simp only [Bool.and_eq_true, decide_eq_true_eq] at h5
            obtain ⟨k5, w1, w2⟩ := h5
            cases p with
            | false => cases h
            | true =>
              have hwon : wonO a b = false := by
                unfold wonO at h2 ⊢
                simp only [k3, k5] at h2 ⊢
                have : decide (b.path = a.path) = decide (a.path = b.path) := decide_eq_decide.2 ⟨fun h => h.symm, fun h => h.symm⟩
                simpa [this] using h2
              refine ⟨?_, .inr ⟨k3, k5, rfl, ?_⟩⟩
              · rw [hwon]
                simp [k5, w1, w2]
              · have := mv1_le (undoO a)
                have := mv1_le b
                simp [mvs_cons, mvs_nil]
                omega
theorem row_one {b a : OpT} {p : Bool} (h : (rowO b a p).length ≠ 2) : mvs (rowO b a p) ≤ mv1 b := by
  have e0 : mvs [] ≤ mv1 b := Nat.zero_le _
  have e1 : mvs [shiftedO b a p] ≤ mv1 b := Nat.le_of_eq (by simp [mvs_cons, mvs_nil, mv1_of (shifted_kind b a p)])
  have e2 : ∀ q, mvs [dropO q] ≤ mv1 b := fun q => by simp [mvs_cons, mvs_nil, mv1_drop]
  unfold rowO at h ⊢
  cases h1 : decide (a.kind = 2) with
  | true =>
    cases h2 : within a.path b.path with
    | true => exact e0
    | false => cases h3 : decide (b.kind = 3) && within a.path b.to with
      | true => exact e2 _
      | false => exact e1
  | false =>
    rw [h1] at h
    cases h2 : wonO b a with
    | true => cases p with
      | true => exact e1
      | false => exact e0
    | false =>
      rw [h2] at h
      cases h3 : decide (a.kind = 3) with
      | false => exact e1
      | true =>
        rw [h3] at h
        cases h4 : decide (b.kind = 2) with
        | true =>
          rw [h4] at h
          cases h5 : within b.path a.path && (!decide (b.path = a.path) && !within b.path a.to) with
          | false => exact e1
          | true => rw [h5] at h; exact absurd rfl h
        | false =>
          rw [h4] at h
          cases h5 : decide (b.kind = 3) && (within b.path a.to && within a.path b.to) with
          | false => exact e1
          | true =>
            rw [h5] at h
            cases p with
            | true => exact absurd rfl h
            | false => exact e0

/-- What becomes of two in a cell: no more than there were; no more moves; where as many of both, the side that is not prior has no more. -/
structure Inv (prior : Bool) (xs ys x y : List OpT) : Prop where
  s : x.length + y.length ≤ xs.length + ys.length
  m : mvs x + mvs y ≤ mvs xs + mvs ys
  t : x.length + y.length = xs.length + ys.length → mvs x + mvs y = mvs xs + mvs ys → (bif prior then y.length else x.length) ≤ (bif prior then ys.length else xs.length)
theorem sound_kinds {b a : OpT} {p : Bool} {l : List OpT} (hs : soundO a = true ∧ soundO b = true) (he : bothEdit b a = false) (h : behindX b a p = (l, 0)) : l = (rowO b a p).map bareO := by
  unfold behindX at h
  rw [he] at h
  unfold behindO at h
  rw [hs.1, hs.2] at h
  simp only [Bool.not_true, Bool.or_self, cond_false] at h
  cases hf : (rowO b a p).all formedB with
  | true => rw [hf] at h; exact (Prod.mk.inj h).1.symm
  | false => rw [hf] at h; simp at h
theorem behX_sound {b a : OpT} {p : Bool} {l : List OpT} (h : behindX b a p = (l, 0)) : soundO a = true ∧ soundO b = true := by
  unfold behindX at h
  cases he : bothEdit b a with
  | true =>
    rw [he] at h
    unfold behindE at h
    cases ha : soundO a <;> cases hb : soundO b <;> simp_all
  | false =>
    rw [he] at h
    unfold behindO at h
    cases ha : soundO a <;> cases hb : soundO b <;> simp_all
theorem bothX_ok {a b : OpT} {prior : Bool} {x y : List OpT} (h : bothX a b prior = (x, y, 0)) : behindX a b prior = (x, 0) ∧ behindX b a (!prior) = (y, 0) := by
  unfold bothX at h
  by_cases h1 : (behindX a b prior).2 = 0
  · by_cases h2 : (behindX b a (!prior)).2 = 0
    · rw [decide_eq_true h1, decide_eq_true h2] at h
      injection h with e1 e2
      injection e2 with e2 _
      exact ⟨Prod.ext e1 h1, Prod.ext e2 h2⟩
    · rw [decide_eq_true h1, decide_eq_false h2] at h
      injection h with _ e2
      injection e2 with _ e2
      exact absurd e2 h2
  · rw [decide_eq_false h1] at h
    injection h with _ e2
    injection e2 with _ e2
    exact absurd e2 h1
theorem edit_mv {b a : OpT} {p : Bool} {l : List OpT} (he : bothEdit b a = true) (h : behindX b a p = (l, 0)) : l.length = 1 ∧ mvs l = 0 := by
  unfold behindX at h
  rw [he] at h
  unfold behindE at h
  have hk : b.kind = 6 := by
    unfold bothEdit at he
    simp only [Bool.and_eq_true, decide_eq_true_eq] at he
    exact he.2.1
  cases ha : !soundO a || !soundO b with
  | true => rw [ha] at h; simp at h
  | false =>
    rw [ha] at h
    cases hc : decide ((transP b.pieces a.pieces p).2.2 = 0) && formedB (editO b a p) with
    | false => rw [hc] at h; simp at h
    | true =>
      rw [hc] at h
      have := (Prod.mk.inj h).1
      subst this
      refine ⟨rfl, ?_⟩
      have : mv1 (bareO (editO b a p)) = 0 := by
        rw [mv1_bare]
        unfold mv1
        have : (editO b a p).kind = 6 := hk
        simp [this]
      simp [mvs_cons, mvs_nil, this]
theorem cell_inv {a b : OpT} {prior : Bool} {x y : List OpT} (h : bothX a b prior = (x, y, 0)) : Inv prior [a] [b] x y := by
  obtain ⟨h1, h2⟩ := bothX_ok h
  have hs := behX_sound h1
  cases he : bothEdit a b with
  | true =>
    obtain ⟨q1, q2⟩ := edit_mv he h1
    obtain ⟨q3, q4⟩ := edit_mv (by rw [bothEdit_comm]; exact he) h2
    exact ⟨by simp [q1, q3], by omega, fun _ _ => by cases prior <;> simp [q1, q3]⟩
  | false =>
    have ex := sound_kinds hs he h1
    have ey := sound_kinds ⟨hs.2, hs.1⟩ (by rw [bothEdit_comm]; exact he) h2
    have lx : x.length = (rowO a b prior).length := by rw [ex]; simp
    have ly : y.length = (rowO b a (!prior)).length := by rw [ey]; simp
    have mx : mvs x = mvs (rowO a b prior) := by rw [ex, mvs_bare]
    have my : mvs y = mvs (rowO b a (!prior)) := by rw [ey, mvs_bare]
    have ba := row_len a b prior
    have bb := row_len b a (!prior)
    by_cases c1 : (rowO a b prior).length = 2
    · obtain ⟨r0, rk⟩ := row_two c1
      rw [r0] at ly my
      rcases rk with ⟨k1, k2, k3⟩ | ⟨k1, k2, k3, k4⟩
      · have : mv1 b = 1 := by unfold mv1; simp [k1]
        refine ⟨by simp only [List.length_cons, List.length_nil] at ly ⊢; omega, by simp only [mvs_cons, mvs_nil] at my ⊢; omega, fun _ hm => ?_⟩
        simp only [mvs_cons, mvs_nil] at my hm
        omega
      · have q1 : mv1 b = 1 := by unfold mv1; simp [k1]
        have q2 : mv1 a = 1 := by unfold mv1; simp [k2]
        refine ⟨by simp only [List.length_cons, List.length_nil] at ly ⊢; omega, by simp only [mvs_cons, mvs_nil] at my ⊢; omega, fun _ _ => ?_⟩
        rw [k3]
        simp only [cond_true, List.length_nil] at ly ⊢
        omega
    · have m1 := row_one c1
      by_cases c2 : (rowO b a (!prior)).length = 2
      · obtain ⟨r0, rk⟩ := row_two c2
        rw [Bool.not_not] at r0
        rw [r0] at lx mx
        rcases rk with ⟨k1, k2, k3⟩ | ⟨k1, k2, k3, k4⟩
        · have : mv1 a = 1 := by unfold mv1; simp [k1]
          refine ⟨by simp only [List.length_cons, List.length_nil] at lx ⊢; omega, by simp only [mvs_cons, mvs_nil] at mx ⊢; omega, fun _ hm => ?_⟩
          simp only [mvs_cons, mvs_nil] at mx hm
          omega
        · have q1 : mv1 a = 1 := by unfold mv1; simp [k1]
          have q2 : mv1 b = 1 := by unfold mv1; simp [k2]
          have hp : prior = false := by simpa using k3
          refine ⟨by simp only [List.length_cons, List.length_nil] at lx ⊢; omega, by simp only [mvs_cons, mvs_nil] at mx ⊢; omega, fun _ _ => ?_⟩
          rw [hp]
          simp only [cond_false, List.length_nil] at lx ⊢
          omega
      · have m2 := row_one c2
        refine ⟨by simp only [List.length_cons, List.length_nil]; omega, by simp only [mvs_cons, mvs_nil]; omega, fun _ _ => ?_⟩
        cases prior <;> simp only [cond_true, cond_false, List.length_cons, List.length_nil] <;> omega
theorem bringF_inv (prior : Bool) : ∀ (n : Nat) (xs ys x y : List OpT), bringF prior n xs ys = some (x, y, 0) → Inv prior xs ys x y
  | 0, _, _, _, _, h => by cases h
  | n + 1, xs, ys, x, y, h => by
    rw [bringF_succ] at h
    unfold bringS at h
    cases hm : muchP xs ys with
    | true => rw [hm] at h; simp at h
    | false =>
      rw [hm, cond_false] at h
      match xs, ys, h with
      | [], ys, h =>
        simp only [Option.some.injEq, Prod.mk.injEq] at h
        obtain ⟨rfl, rfl, _⟩ := h
        exact ⟨Nat.le_refl _, Nat.le_refl _, fun _ _ => Nat.le_refl _⟩
      | a :: xs, [], h =>
        simp only [Option.some.injEq, Prod.mk.injEq] at h
        obtain ⟨rfl, rfl, _⟩ := h
        exact ⟨Nat.le_refl _, Nat.le_refl _, fun _ _ => Nat.le_refl _⟩
      | [a], [b], h =>
        simp only [Option.some.injEq] at h
        exact cell_inv h
      | a :: a' :: xs, b :: ys, h =>
        simp only at h
        cases h1 : bringF prior n [a] (b :: ys) with
        | none => rw [h1] at h; cases h
        | some r =>
          obtain ⟨x1, y1, e1⟩ := r
          rw [h1] at h
          simp only at h
          by_cases he : e1 = 0
          · subst he
            simp only [decide_true, Bool.not_true, cond_false] at h
            cases h2 : bringF prior n (a' :: xs) y1 with
            | none => rw [h2] at h; cases h
            | some r =>
              obtain ⟨z, w, e2⟩ := r
              rw [h2] at h
              simp only at h
              by_cases he : e2 = 0
              · subst he
                simp only [decide_true, Bool.not_true, cond_false] at h
                cases hmm : muchP (x1 ++ z) w with
                | true => rw [hmm] at h; simp at h
                | false =>
                  rw [hmm] at h
                  simp only [cond_false, Option.some.injEq, Prod.mk.injEq, and_true] at h
                  obtain ⟨rfl, rfl⟩ := h
                  have i1 := bringF_inv prior n _ _ _ _ h1
                  have i2 := bringF_inv prior n _ _ _ _ h2
                  have s1 := i1.s
                  have s2 := i2.s
                  have m1 := i1.m
                  have m2 := i2.m
                  simp only [mvs_cons, mvs_nil, List.length_cons, List.length_nil] at s1 s2 m1 m2
                  refine ⟨by simp only [List.length_append, List.length_cons]; omega, by simp only [mvs_append, mvs_cons]; omega, fun q1 q2 => ?_⟩
                  simp only [List.length_append, List.length_cons, mvs_append, mvs_cons] at q1 q2
                  have t1 := i1.t (by simp only [List.length_cons, List.length_nil]; omega) (by simp only [mvs_cons, mvs_nil]; omega)
                  have t2 := i2.t (by simp only [List.length_cons]; omega) (by simp only [mvs_cons]; omega)
                  cases prior <;> simp only [cond_true, cond_false, List.length_cons, List.length_nil, List.length_append] at t1 t2 ⊢ <;> omega
              · simp [he] at h
          · simp [he] at h
      | [a], b :: b' :: ys, h =>
        simp only at h
        cases h1 : bringF prior n [a] [b] with
        | none => rw [h1] at h; cases h
        | some r =>
          obtain ⟨x1, y1, e1⟩ := r
          rw [h1] at h
          simp only at h
          by_cases he : e1 = 0
          · subst he
            simp only [decide_true, Bool.not_true, cond_false] at h
            cases h2 : bringF prior n x1 (b' :: ys) with
            | none => rw [h2] at h; cases h
            | some r =>
              obtain ⟨z, w, e2⟩ := r
              rw [h2] at h
              simp only at h
              by_cases he : e2 = 0
              · subst he
                simp only [decide_true, Bool.not_true, cond_false] at h
                cases hmm : muchP z (y1 ++ w) with
                | true => rw [hmm] at h; simp at h
                | false =>
                  rw [hmm] at h
                  simp only [cond_false, Option.some.injEq, Prod.mk.injEq, and_true] at h
                  obtain ⟨rfl, rfl⟩ := h
                  have i1 := bringF_inv prior n _ _ _ _ h1
                  have i2 := bringF_inv prior n _ _ _ _ h2
                  have s1 := i1.s
                  have s2 := i2.s
                  have m1 := i1.m
                  have m2 := i2.m
                  simp only [mvs_cons, mvs_nil, List.length_cons, List.length_nil] at s1 s2 m1 m2
                  refine ⟨by simp only [List.length_append, List.length_cons, List.length_nil]; omega, by simp only [mvs_append, mvs_cons, mvs_nil]; omega, fun q1 q2 => ?_⟩
                  simp only [List.length_append, List.length_cons, List.length_nil, mvs_append, mvs_cons, mvs_nil] at q1 q2
                  have t1 := i1.t (by simp only [List.length_cons, List.length_nil]; omega) (by simp only [mvs_cons, mvs_nil]; omega)
                  have t2 := i2.t (by simp only [List.length_cons]; omega) (by simp only [mvs_cons]; omega)
                  cases prior <;> simp only [cond_true, cond_false, List.length_cons, List.length_nil, List.length_append] at t1 t2 ⊢ <;> omega
              · simp [he] at h
          · simp [he] at h

theorem bringF_mono (prior : Bool) : ∀ (n : Nat) (xs ys : List OpT) (r), bringF prior n xs ys = some r → bringF prior (n + 1) xs ys = some r
  | 0, _, _, _, h => by cases h
  | n + 1, xs, ys, r, h => by
    rw [bringF_succ] at h ⊢
    unfold bringS at h ⊢
    cases hm : muchP xs ys with
    | true => rw [hm] at h; exact h
    | false =>
      rw [hm, cond_false] at h
      rw [cond_false]
      match xs, ys, h with
      | [], ys, h => exact h
      | a :: xs, [], h => exact h
      | [a], [b], h => exact h
      | a :: a' :: xs, b :: ys, h =>
        simp only at h ⊢
        cases h1 : bringF prior n [a] (b :: ys) with
        | none => rw [h1] at h; cases h
        | some r1 =>
          rw [h1] at h
          rw [bringF_mono prior n _ _ _ h1]
          obtain ⟨x1, y1, e1⟩ := r1
          simp only at h ⊢
          cases he : !decide (e1 = 0) with
          | true => rw [he] at h; exact h
          | false =>
            rw [he, cond_false] at h
            rw [cond_false]
            cases h2 : bringF prior n (a' :: xs) y1 with
            | none => rw [h2] at h; cases h
            | some r2 => rw [h2] at h; rw [bringF_mono prior n _ _ _ h2]; exact h
      | [a], b :: b' :: ys, h =>
        simp only at h ⊢
        cases h1 : bringF prior n [a] [b] with
        | none => rw [h1] at h; cases h
        | some r1 =>
          rw [h1] at h
          rw [bringF_mono prior n _ _ _ h1]
          obtain ⟨x1, y1, e1⟩ := r1
          simp only at h ⊢
          cases he : !decide (e1 = 0) with
          | true => rw [he] at h; exact h
          | false =>
            rw [he, cond_false] at h
            rw [cond_false]
            cases h2 : bringF prior n x1 (b' :: ys) with
            | none => rw [h2] at h; cases h
            | some r2 => rw [h2] at h; rw [bringF_mono prior n _ _ _ h2]; exact h
theorem bringF_le {prior : Bool} {n m : Nat} {xs ys : List OpT} {r} (h : bringF prior n xs ys = some r) (hn : n ≤ m) : bringF prior m xs ys = some r := by
  induction hn with
  | refl => exact h
  | step _ ih => exact bringF_mono prior _ _ _ _ ih
end Bow
/- SP25: what an operation does not say counts for nothing (square); lists brought one behind the other, in plain Lean. -/
namespace Bow
open Go

end Bow
/- SP26: a list brought by two lists, one behind the other, and by both in one, in plain Lean. -/
namespace Bow
open Go

def Br (prior : Bool) (xs ys x y : List OpT) : Prop := ∃ n, bringF prior n xs ys = some (x, y, 0)
section
variable {prior : Bool}
theorem Br.much {xs ys x y : List OpT} (h : Br prior xs ys x y) : muchP xs ys = false := by
  obtain ⟨n, h⟩ := h
  cases n with
  | zero => cases h
  | succ n =>
    rw [bringF_succ] at h
    unfold bringS at h
    cases hm : muchP xs ys with
    | false => rfl
    | true => rw [hm] at h; simp at h
theorem Br.nil_inv {ys x y : List OpT} (h : Br prior [] ys x y) : x = [] ∧ y = ys := by
  have hm := h.much
  obtain ⟨n, h⟩ := h
  cases n with
  | zero => cases h
  | succ n =>
    rw [bringF_succ] at h
    unfold bringS at h
    rw [hm] at h
    simp at h
    exact ⟨h.1.symm ▸ rfl, h.2.symm⟩
theorem Br.nil2_inv {xs x y : List OpT} (h : Br prior xs [] x y) : x = xs ∧ y = [] := by
  have hm := h.much
  obtain ⟨n, h⟩ := h
  cases n with
  | zero => cases h
  | succ n =>
    rw [bringF_succ] at h
    unfold bringS at h
    rw [hm] at h
    cases xs with
    | nil => simp at h; exact ⟨h.1.symm ▸ rfl, h.2.symm ▸ rfl⟩
    | cons a xs => simp at h; exact ⟨h.1.symm, h.2.symm ▸ rfl⟩
theorem Br.nil {ys : List OpT} (h : muchP [] ys = false) : Br prior [] ys [] ys := ⟨1, by rw [bringF_succ]; unfold bringS; rw [h]; rfl⟩
theorem Br.nil2 {xs : List OpT} (h : muchP xs [] = false) : Br prior xs [] xs [] := ⟨1, by
  rw [bringF_succ]
  unfold bringS
  rw [h]
  cases xs <;> rfl⟩
theorem bringF_cons {n : Nat} {a a' b : OpT} {xs ys X W : List OpT} (h : bringF prior (n + 1) (a :: a' :: xs) (b :: ys) = some (X, W, 0)) :
    ∃ x1 y1 z, bringF prior n [a] (b :: ys) = some (x1, y1, 0) ∧ bringF prior n (a' :: xs) y1 = some (z, W, 0) ∧ X = x1 ++ z ∧ muchP X W = false := by
  rw [bringF_succ] at h
  unfold bringS at h
  cases hm : muchP (a :: a' :: xs) (b :: ys) with
  | true => rw [hm] at h; simp at h
  | false =>
    rw [hm, cond_false] at h
    simp only at h
    cases h1 : bringF prior n [a] (b :: ys) with
    | none => rw [h1] at h; cases h
    | some r =>
      obtain ⟨x1, y1, e1⟩ := r
      rw [h1] at h
      simp only at h
      by_cases he : e1 = 0
      · subst he
        simp only [decide_true, Bool.not_true, cond_false] at h
        cases h2 : bringF prior n (a' :: xs) y1 with
        | none => rw [h2] at h; cases h
        | some r =>
          obtain ⟨z, w, e2⟩ := r
          rw [h2] at h
          simp only at h
          by_cases he : e2 = 0
          · subst he
            simp only [decide_true, Bool.not_true, cond_false] at h
            cases hmm : muchP (x1 ++ z) w with
            | true => rw [hmm] at h; simp at h
            | false =>
              rw [hmm] at h
              simp only [cond_false, Option.some.injEq, Prod.mk.injEq, and_true] at h
              obtain ⟨rfl, rfl⟩ := h
              exact ⟨x1, y1, z, rfl, h2, rfl, hmm⟩
          · simp [he] at h
      · simp [he] at h
theorem bringF_cons2 {n : Nat} {a b b' : OpT} {ys Z W : List OpT} (h : bringF prior (n + 1) [a] (b :: b' :: ys) = some (Z, W, 0)) :
    ∃ x y w, bringF prior n [a] [b] = some (x, y, 0) ∧ bringF prior n x (b' :: ys) = some (Z, w, 0) ∧ W = y ++ w ∧ muchP Z W = false := by
  rw [bringF_succ] at h
  unfold bringS at h
  cases hm : muchP [a] (b :: b' :: ys) with
  | true => rw [hm] at h; simp at h
  | false =>
    rw [hm, cond_false] at h
    simp only at h
    cases h1 : bringF prior n [a] [b] with
    | none => rw [h1] at h; cases h
    | some r =>
      obtain ⟨x1, y1, e1⟩ := r
      rw [h1] at h
      simp only at h
      by_cases he : e1 = 0
      · subst he
        simp only [decide_true, Bool.not_true, cond_false] at h
        cases h2 : bringF prior n x1 (b' :: ys) with
        | none => rw [h2] at h; cases h
        | some r =>
          obtain ⟨z, w, e2⟩ := r
          rw [h2] at h
          simp only at h
          by_cases he : e2 = 0
          · subst he
            simp only [decide_true, Bool.not_true, cond_false] at h
            cases hmm : muchP z (y1 ++ w) with
            | true => rw [hmm] at h; simp at h
            | false =>
              rw [hmm] at h
              simp only [cond_false, Option.some.injEq, Prod.mk.injEq, and_true] at h
              obtain ⟨rfl, rfl⟩ := h
              exact ⟨x1, y1, w, rfl, h2, rfl, hmm⟩
          · simp [he] at h
      · simp [he] at h
theorem Br.cons {a a' b : OpT} {xs ys x1 y1 z W : List OpT} (h1 : Br prior [a] (b :: ys) x1 y1) (h2 : Br prior (a' :: xs) y1 z W) (m1 : muchP (a :: a' :: xs) (b :: ys) = false) (m2 : muchP (x1 ++ z) W = false) : Br prior (a :: a' :: xs) (b :: ys) (x1 ++ z) W := by
  obtain ⟨n1, h1⟩ := h1
  obtain ⟨n2, h2⟩ := h2
  refine ⟨max n1 n2 + 1, ?_⟩
  rw [bringF_succ]
  unfold bringS
  rw [m1, cond_false]
  simp only
  rw [bringF_le h1 (Nat.le_max_left _ _)]
  simp only [decide_true, Bool.not_true, cond_false]
  rw [bringF_le h2 (Nat.le_max_right _ _)]
  simp only [decide_true, Bool.not_true, cond_false]
  rw [m2]
  rfl
theorem muchP_iff {x y : List OpT} : muchP x y = false ↔ x.length ≤ 4096 ∧ y.length ≤ 4096 := by
  unfold muchP
  simp only [Bool.or_eq_false_iff, decide_eq_false_iff_not, Nat.not_lt]
theorem Br.res {xs ys x y : List OpT} (h : Br prior xs ys x y) : muchP x y = false := by
  have hm := h.much
  obtain ⟨n, h⟩ := h
  cases n with
  | zero => cases h
  | succ n =>
    match xs, ys, h, hm with
    | [], ys, h, hm =>
      obtain ⟨rfl, rfl⟩ := Br.nil_inv ⟨_, h⟩
      exact hm
    | a :: xs, [], h, hm =>
      obtain ⟨rfl, rfl⟩ := Br.nil2_inv ⟨_, h⟩
      exact hm
    | [a], [b], h, _ =>
      have := (bringF_inv prior _ _ _ _ _ h).s
      simp only [List.length_cons, List.length_nil] at this
      exact muchP_iff.2 ⟨by omega, by omega⟩
    | a :: a' :: xs, b :: ys, h, _ =>
      obtain ⟨x1, y1, z, _, _, rfl, hmm⟩ := bringF_cons h
      exact hmm
    | [a], b :: b' :: ys, h, _ =>
      obtain ⟨x1, y1, w, _, _, rfl, hmm⟩ := bringF_cons2 h
      exact hmm
/-- Two lists in one, brought by a third one. -/
theorem Br.split {x2 : List OpT} : ∀ {x1 bs Y Q : List OpT}, Br prior (x1 ++ x2) bs Y Q → ∃ y1 b1 y2, Br prior x1 bs y1 b1 ∧ Br prior x2 b1 y2 Q ∧ Y = y1 ++ y2
  | [], bs, Y, Q, h => by
    have hm := muchP_iff.1 h.much
    exact ⟨[], bs, Y, Br.nil (muchP_iff.2 ⟨Nat.zero_le _, hm.2⟩), h, rfl⟩
  | a :: x1, [], Y, Q, h => by
    have hm := muchP_iff.1 h.much
    simp only [List.length_append] at hm
    obtain ⟨rfl, rfl⟩ := h.nil2_inv
    exact ⟨a :: x1, [], x2, Br.nil2 (muchP_iff.2 ⟨by omega, Nat.zero_le _⟩), Br.nil2 (muchP_iff.2 ⟨by omega, Nat.zero_le _⟩), rfl⟩
  | [a], b :: bs, Y, Q, h => by
    cases x2 with
    | nil =>
      have hm := muchP_iff.1 h.res
      exact ⟨Y, Q, [], h, Br.nil (muchP_iff.2 ⟨Nat.zero_le _, hm.2⟩), (List.append_nil Y).symm⟩
    | cons a' x2 =>
      obtain ⟨n, h⟩ := h
      cases n with
      | zero => cases h
      | succ n =>
        obtain ⟨x, y, z, h1, h2, rfl, _⟩ := bringF_cons h
        exact ⟨x, y, z, ⟨_, h1⟩, ⟨_, h2⟩, rfl⟩
  | a :: a1 :: x1, b :: bs, Y, Q, h => by
    have hm := muchP_iff.1 h.much
    have hr := muchP_iff.1 h.res
    obtain ⟨n, h⟩ := h
    cases n with
    | zero => cases h
    | succ n =>
      obtain ⟨u, v, s, h1, h2, rfl, _⟩ := bringF_cons h
      obtain ⟨s1, t, s2, q1, q2, rfl⟩ := Br.split (x1 := a1 :: x1) (bs := v) ⟨_, h2⟩
      simp only [List.length_append, List.length_cons] at hm hr
      have ht := muchP_iff.1 q2.much
      exact ⟨u ++ s1, t, s2, Br.cons ⟨_, h1⟩ q1 (muchP_iff.2 ⟨by simp only [List.length_cons]; omega, by simp only [List.length_cons]; omega⟩) (muchP_iff.2 ⟨by simp only [List.length_append]; omega, ht.2⟩), q2, (List.append_assoc _ _ _).symm⟩
end
end Bow
/- SP30: what two lists come to; brought by two lists or by both in one, in plain Lean. -/
namespace Bow
open Go

end Bow
/- AE36: arguments that are read as data, as deep values; a call's contract out of a function's. -/
namespace Bow
open Go

def β0 : Nat → Loc := fun _ => .none

/-! ### Types that are read -/
section
variable {H : Type} {enc : TypeId × Value → H} {P : Program} {w : World} {base : Nat} {spare : Nat → Bool} {held : Bool}

theorem notOwn0 (b : Nat) {sz : Nat} : freeB β0 [] b sz := free_none (fun r o h => by simp at h) b sz

/-! ### Calls -/
theorem calls_of_pure {f : FuncId} {args : List V} {vals : Array Value} {b : Bool} (h : Pure P f args fun x => x = .bool b) (hp : V.pureL args = true) (hl : args.length = vals.size)
    (hr : ∀ (j : Nat) (x : V) (v : Value), args[j]? = some x → vals[j]? = some v → Rep w β0 [] x v) : Calls P f vals w fun e w' => e = .returned (.bool b) ∧ RowKit.Below w.heap.size w w' := by
  intro cs
  have hrel : HRel w β0 [] := ⟨fun r o h => by simp at h, fun r r' b N N' hl => by obtain ⟨o, h⟩ := hl; simp at h⟩
  have hs : SRel [] 0 w β0 [] [] ⟨[], [], fun _ => none, []⟩ bare := by
    refine ⟨hrel, rfl, fun k => by simp [lk, V.conv]; exact .undef _, rfl, List.nodup_nil, by simp, rfl, fun r h _ => by simp at h, fun r _ => rfl, by simp, by simp, by simp, rfl, by simp⟩
  obtain ⟨x, v, w', β', H', fr, hq, _, _, k2, k3, k4, k5, k6⟩ := pure_step h hp hs cs hl (fun j x v hj hv => by
    rw [pure_conv _ _ (pureL_mem _ hp x (List.mem_of_getElem? hj))]
    exact hr j x v hj hv)
  subst hq
  have hv : v = .bool b := rep_bool (m := []) k3
  subst hv
  exact ⟨.returned (.bool b), w', fr, ⟨rfl, k2.os, k2.tape, k2.output, k2.size, fun q hq => k2.keep q hq (notOwn0 q (sz := 0)).1⟩, k4, k5, k6⟩
end
end Bow
/- AE37: calls of functions that are handed some of the caller's objects, and leave objects of their own. -/
namespace Bow
open Go

/-! ### Names, renamed -/
def Ref.ren (ρ : List Nat) : Ref → Ref
  | .loc k => match ρ[k]? with
    | some j => .loc j
    | none => .bad
  | .abs n => .abs n
  | .bad => .bad
mutual
def V.ren (ρ : List Nat) : V → V
  | .osl r g o l => .osl (r.ren ρ) g o l
  | .ptr r o => .ptr (r.ren ρ) o
  | .eptr r g i o => .eptr (r.ren ρ) g i o
  | .agg cs => .agg (V.renL ρ cs)
  | .tup vs => .tup (V.renL ρ vs)
  | .fn f a c => .fn f (V.renL ρ a) (V.renL ρ c)
  | .yld r => .yld (r.ren ρ)
  | .iface t v => .iface t (v.ren ρ)
  | .int k n => .int k n
  | .bool b => .bool b
  | .tt => .tt
  | .ff => .ff
  | .str s => .str s
  | .sl s xs => .sl s xs
  | .nilsl => .nilsl
  | .iptr cs o => .iptr cs o
  | .nilp => .nilp
  | .nilf => .nilf
  | .nili => .nili
  | .nilmap => .nilmap
  | .undef => .undef
def V.renL (ρ : List Nat) : List V → List V
  | [] => []
  | v :: vs => v.ren ρ :: V.renL ρ vs
end
theorem V.renL_eq (ρ : List Nat) : ∀ vs, V.renL ρ vs = vs.map (V.ren ρ)
  | [] => rfl
  | v :: vs => by rw [V.renL, V.renL_eq ρ vs]; rfl
def HObj.ren (ρ : List Nat) : HObj → HObj
  | .box cs => .box (V.renL ρ cs)
  | .vec g sz xs => .vec g sz xs
  | .loop st pe fn E nt ps asg bo => .loop st pe fn (E.map fun p => (p.1, p.2.ren ρ)) nt ps asg bo
  | .dfr => .dfr
  | .held s => .held s

/-- The names ρ of the objects m are m1. -/
def Sub (ρ m m1 : List Nat) : Prop := m1.length = ρ.length ∧ ∀ i k : Nat, ρ[i]? = some k → ∃ r : Nat, m[k]? = some r ∧ m1[i]? = some r

theorem Ref.ren_conv {ρ m m1 : List Nat} (h : Sub ρ m m1) : ∀ r : Ref, r.sc ρ.length → (r.ren ρ).conv m = r.conv m1
  | .loc i, hi => by
    have hi : i < ρ.length := hi
    have e := List.getElem?_eq_getElem hi
    obtain ⟨r, h1, h2⟩ := h.2 i _ e
    simp only [Ref.ren, e, Ref.conv, h1, h2]
  | .abs _, _ => rfl
  | .bad, _ => rfl
theorem Ref.ren_sc {ρ m m1 : List Nat} (h : Sub ρ m m1) : ∀ r : Ref, r.sc ρ.length → (r.ren ρ).sc m.length
  | .loc i, hi => by
    have hi : i < ρ.length := hi
    have e := List.getElem?_eq_getElem hi
    obtain ⟨r, h1, h2⟩ := h.2 i _ e
    simp only [Ref.ren, e]
    exact lt_of_get h1
  | .abs _, _ => trivial
  | .bad, _ => trivial
mutual
theorem V.ren_conv {ρ m m1 : List Nat} (h : Sub ρ m m1) : ∀ v : V, v.sc ρ.length → (v.ren ρ).conv m = v.conv m1
  | .osl r _ _ _, hs => by simp only [V.ren, V.conv, r.ren_conv h hs]
  | .ptr r _, hs => by simp only [V.ren, V.conv, r.ren_conv h hs]
  | .eptr r _ _ _, hs => by simp only [V.ren, V.conv, r.ren_conv h hs]
  | .yld r, hs => by simp only [V.ren, V.conv, r.ren_conv h hs]
  | .agg cs, hs => by simp only [V.ren, V.conv, V.renL_conv h cs hs]
  | .tup cs, hs => by simp only [V.ren, V.conv, V.renL_conv h cs hs]
  | .fn _ a c, hs => by simp only [V.ren, V.conv, V.renL_conv h a hs.1, V.renL_conv h c hs.2]
  | .iface _ v, hs => by simp only [V.ren, V.conv, v.ren_conv h hs]
  | .int .., _ | .bool _, _ | .tt, _ | .ff, _ | .str _, _ | .sl .., _ | .nilsl, _ | .iptr .., _ | .nilp, _ | .nilf, _ | .nili, _ | .nilmap, _ | .undef, _ => rfl
theorem V.renL_conv {ρ m m1 : List Nat} (h : Sub ρ m m1) : ∀ vs : List V, V.scL ρ.length vs → V.convL m (V.renL ρ vs) = V.convL m1 vs
  | [], _ => rfl
  | v :: vs, hs => by simp only [V.renL, V.convL, v.ren_conv h hs.1, V.renL_conv h vs hs.2]
end
mutual
theorem V.ren_sc {ρ m m1 : List Nat} (h : Sub ρ m m1) : ∀ v : V, v.sc ρ.length → (v.ren ρ).sc m.length
  | .osl r _ _ _, hs | .ptr r _, hs | .eptr r _ _ _, hs | .yld r, hs => r.ren_sc h hs
  | .agg cs, hs | .tup cs, hs => V.renL_sc h cs hs
  | .fn _ a c, hs => ⟨V.renL_sc h a hs.1, V.renL_sc h c hs.2⟩
  | .iface _ v, hs => v.ren_sc h hs
  | .int .., _ | .bool _, _ | .tt, _ | .ff, _ | .str _, _ | .sl .., _ | .nilsl, _ | .iptr .., _ | .nilp, _ | .nilf, _ | .nili, _ | .nilmap, _ | .undef, _ => trivial
theorem V.renL_sc {ρ m m1 : List Nat} (h : Sub ρ m m1) : ∀ vs : List V, V.scL ρ.length vs → V.scL m.length (V.renL ρ vs)
  | [], _ => trivial
  | v :: vs, hs => ⟨v.ren_sc h hs.1, V.renL_sc h vs hs.2⟩
end
theorem HObj.ren_conv {ρ m m1 : List Nat} (h : Sub ρ m m1) : ∀ o : HObj, o.sc ρ.length → (o.ren ρ).conv m = o.conv m1
  | .box cs, hs => by simp only [HObj.ren, HObj.conv, V.renL_conv h cs hs]
  | .vec .., _ => rfl
  | .dfr, _ => rfl
  | .held _, _ => rfl
  | .loop _ _ _ E _ _ _ _, hs => by
    simp only [HObj.ren, HObj.conv, Env.conv, List.map_map, HObj.loop.injEq, true_and, and_true]
    exact List.map_congr_left fun p hp => by simp only [Function.comp_apply]; rw [V.ren_conv h p.2 (hs p hp)]
theorem HObj.ren_sc {ρ m m1 : List Nat} (h : Sub ρ m m1) : ∀ o : HObj, o.sc ρ.length → (o.ren ρ).sc m.length
  | .box cs, hs => V.renL_sc h cs hs
  | .vec .., _ => trivial
  | .dfr, _ => trivial
  | .held _, _ => trivial
  | .loop _ _ _ E _ _ _ _, hs => fun p hp => by
    obtain ⟨q, hq, rfl⟩ := List.mem_map.1 hp
    exact V.ren_sc h q.2 (hs q hq)

/-! ### The caller's objects behind the call -/
def omap (ρ : List Nat) (o : Option HObj) : Option HObj :=
  match o with
  | none => none
  | some o => some (o.ren ρ)
def setAll (ρ : List Nat) : List Nat → Heap → Heap → Heap
  | k :: ks, o :: os, T => setAll ρ ks os (T.set k (omap ρ o))
  | _, os, T => T ++ os.map (omap ρ)
def setAllK (ρ : List Nat) : List Nat → Heap → Heap → (Heap → Prop) → Prop
  | k :: ks, o :: os, T, K => lset T k (omap ρ o) fun T' => setAllK ρ ks os T' K
  | _, os, T, K => K (T ++ lmap (omap ρ) os)
theorem setAllK_eq (ρ : List Nat) : ∀ (ks : List Nat) (os T : Heap) (K : Heap → Prop), setAllK ρ ks os T K = K (setAll ρ ks os T)
  | k :: ks, o :: os, T, K => by rw [setAllK, lset_eq, setAllK_eq ρ ks os]; rfl
  | [], os, T, K => by simp only [setAllK, setAll, lmap_eq]
  | k :: ks, [], T, K => by simp only [setAllK, setAll, lmap_eq]
theorem setAll_len (ρ : List Nat) : ∀ (ks : List Nat) (os T : Heap), ks.length ≤ os.length → (setAll ρ ks os T).length = T.length + (os.length - ks.length)
  | k :: ks, o :: os, T, h => by
    rw [setAll, setAll_len ρ ks os _ (by simpa using h)]
    simp
  | [], os, T, _ => by simp [setAll]
  | k :: ks, [], T, h => by simp at h
theorem setAll_other (ρ : List Nat) {j : Nat} : ∀ (ks : List Nat) (os T : Heap), j ∉ ks → j < T.length → (setAll ρ ks os T)[j]? = T[j]?
  | k :: ks, o :: os, T, h, hj => by
    rw [setAll, setAll_other ρ ks os _ (fun hm => h (List.mem_cons_of_mem _ hm)) (by simpa using hj), List.getElem?_set_ne (fun e : k = j => by subst e; exact h List.mem_cons_self)]
  | [], os, T, _, hj => by simp only [setAll]; rw [List.getElem?_append_left hj]
  | k :: ks, [], T, _, hj => by simp only [setAll]; rw [List.getElem?_append_left hj]
theorem setAll_at (ρ : List Nat) : ∀ (ks : List Nat) (os T : Heap), ks.Nodup → (∀ k ∈ ks, k < T.length) → ks.length ≤ os.length → ∀ (i k : Nat), ks[i]? = some k → (setAll ρ ks os T)[k]? = os[i]?.map (omap ρ)
  | k0 :: ks, o :: os, T, hn, hl, hle, i, k, hk => by
    obtain ⟨h1, h2⟩ := List.nodup_cons.1 hn
    have hk0 := hl k0 List.mem_cons_self
    rw [setAll]
    cases i with
    | zero =>
      simp only [List.getElem?_cons_zero, Option.some.injEq] at hk
      subst hk
      rw [setAll_other ρ ks os _ h1 (by simpa using hk0)]
      simp [hk0]
    | succ i =>
      simp only [List.getElem?_cons_succ] at hk ⊢
      exact setAll_at ρ ks os _ h2 (fun k hk => by simpa using hl k (List.mem_cons_of_mem _ hk)) (by simpa using hle) i k hk
  | [], os, T, _, _, _, i, k, hk => by simp at hk
  | k0 :: ks, [], T, _, _, hle, i, k, hk => by simp at hle
theorem setAll_new (ρ : List Nat) : ∀ (ks : List Nat) (os T : Heap), ks.length ≤ os.length → ∀ j, (setAll ρ ks os T)[T.length + j]? = os[ks.length + j]?.map (omap ρ)
  | k0 :: ks, o :: os, T, hle, j => by
    rw [setAll]
    have := setAll_new ρ ks os (T.set k0 (omap ρ o)) (by simpa using hle) j
    simp only [List.length_set] at this
    rw [this, List.length_cons, show ks.length + 1 + j = (ks.length + j) + 1 by omega, List.getElem?_cons_succ]
  | [], os, T, _, j => by
    simp only [setAll]
    rw [List.getElem?_append_right (by omega)]
    simp
  | k0 :: ks, [], T, hle, j => by simp at hle

def subB : List Nat → Nat → Bool
  | [], _ => true
  | k :: ks, n => Nat.blt k n && subB ks n
theorem subB_get : ∀ (ks : List Nat) (n : Nat), subB ks n = true → ∀ k ∈ ks, k < n
  | [], _, _, k, h => by cases h
  | x :: ks, n, hs, k, h => by
    simp only [subB, Bool.and_eq_true] at hs
    rcases List.mem_cons.1 h with rfl | h
    · exact Nat.le_of_ble_eq_true hs.1
    · exact subB_get ks n hs.2 k h

/-- The objects ks of the caller, as the called one sees them. -/
def objsAre (ks : List Nat) (T : Heap) : List Nat → Heap → Prop
  | [], [] => True
  | k :: l, some o :: os => (lget T k = some (some (o.ren ks)) ∧ o.scB ks.length = true) ∧ objsAre ks T l os
  | _, _ => False
theorem objsAre_get {ks0 : List Nat} {T : Heap} : ∀ {l : List Nat} {os : Heap}, objsAre ks0 T l os → l.length = os.length ∧ ∀ (i k : Nat), l[i]? = some k → ∃ o, os[i]? = some (some o) ∧ T[k]? = some (some (o.ren ks0)) ∧ o.sc ks0.length
  | [], [], _ => ⟨rfl, fun i k h => by simp at h⟩
  | k0 :: l, some o :: os, h => by
    obtain ⟨h1, h2⟩ := objsAre_get h.2
    refine ⟨by simp [h1], fun i k hk => ?_⟩
    cases i with
    | zero =>
      simp only [List.getElem?_cons_zero, Option.some.injEq] at hk
      subst hk
      exact ⟨o, rfl, by rw [← lget_eq]; exact h.1.1, HObj.scB_sc o h.1.2⟩
    | succ i => simpa using h2 i k (by simpa using hk)
  | [], _ :: _, h => h.elim
  | _ :: _, [], h => h.elim
  | _ :: _, none :: _, h => h.elim

def rangeFrom : Nat → Nat → List Nat
  | _, 0 => []
  | n, k + 1 => n :: rangeFrom (n + 1) k
theorem rangeFrom_len : ∀ (k n : Nat), (rangeFrom n k).length = k
  | 0, _ => rfl
  | k + 1, n => by simp [rangeFrom, rangeFrom_len k]
theorem rangeFrom_get : ∀ (k n i : Nat), i < k → (rangeFrom n k)[i]? = some (n + i)
  | k + 1, n, 0, _ => rfl
  | k + 1, n, i + 1, h => by
    rw [rangeFrom, List.getElem?_cons_succ, rangeFrom_get k (n + 1) i (by omega)]
    congr 1
    omega
/-- The names of what the called one has: those that it was handed, and new ones. -/
def subρ (ks : List Nat) (n : Nat) (T1 : Heap) : List Nat := ks ++ rangeFrom n (lcount T1 0 - lcount ks 0)

theorem call_sub {c : Cx} {g : FuncId} {args args' : List V} {E : Env} {T T1 : Heap} {K : V → St → Prop} {Q : V → Heap → Prop} (ks : List Nat) (hf : Fun c.P g T1 args' Q) (hnd : nodupB ks = true) (hlt : subB ks T.length = true) (ho : objsAre ks T ks T1) (ha : args = V.renL ks args') (hsc : V.scBL ks.length args' = true)
    (hD : c.D.all (fun k => !memN ks k) = true)
    (h : ∀ x T1', Q x T1' → allLive (ldrop T1' ks.length) = true ∧ setAllK (subρ ks T.length T1') ks T1' T fun T2 => K (x.ren (subρ ks T.length T1')) ⟨E, T2, c.B, c.D⟩) : CallThen c g args E T K := by
  have hen : Enterable c.P g := by unfold Fun at hf; exact hf.1
  unfold CallThen
  unfold Fun at hf
  refine ⟨hen, fun w β H m a vals cs hs hl hr => ?_⟩
  have hml : m.length = T.length := hs.mlen
  have hnd' := nodupB_iff _ hnd
  have hlt' := subB_get _ _ hlt
  obtain ⟨hol, hoo⟩ := objsAre_get ho
  obtain ⟨m1, hm1⟩ : ∃ m1, m1 = ks.map fun k => (m[k]?).getD 0 := ⟨_, rfl⟩
  have hsub : Sub ks m m1 := by
    refine ⟨by rw [hm1]; simp, fun i k hk => ?_⟩
    have hkm : k < m.length := by rw [hml]; exact hlt' k (List.mem_of_getElem? hk)
    have e := List.getElem?_eq_getElem hkm
    exact ⟨m[k], e, by rw [hm1, List.getElem?_map, hk]; simp [e]⟩
  have hm1l : m1.length = T1.length := by rw [hsub.1]; exact hol
  have hm1nd : m1.Nodup := by
    rw [hm1]
    refine List.Pairwise.map _ (fun x y h => ?_) (List.Pairwise.and_mem.1 hnd')
    obtain ⟨hx, hy, hne⟩ := h
    have hxm : x < m.length := by rw [hml]; exact hlt' x hx
    have hym : y < m.length := by rw [hml]; exact hlt' y hy
    intro e
    simp only [List.getElem?_eq_getElem hxm, List.getElem?_eq_getElem hym, Option.getD_some] at e
    exact hne (hs.inj (List.getElem?_eq_getElem hxm) (by rw [e]; exact List.getElem?_eq_getElem hym))
  have hmem : ∀ r, r ∈ m1 → ∃ i k, ks[i]? = some k ∧ m[k]? = some r ∧ m1[i]? = some r := fun r hr => by
    obtain ⟨i, hi⟩ := List.getElem?_of_mem hr
    have hil : i < ks.length := by have := lt_of_get hi; rw [hsub.1] at this; exact this
    obtain ⟨r', h1, h2⟩ := hsub.2 i _ (List.getElem?_eq_getElem hil)
    rw [hi] at h2
    injection h2 with h2
    subst h2
    exact ⟨i, _, List.getElem?_eq_getElem hil, h1, hi⟩
  have hargsc := (V.scL_iff _ _).1 (V.scBL_sc _ hsc)
  have hs1 : SRel m1 0 w β H m1 ⟨[], T1, fun r => (H[r]?).getD none, []⟩ bare := by
    refine ⟨hs.hrel, rfl, fun k => by simp [lk, V.conv]; exact .undef _, hm1l, hm1nd, fun i r o hi hoi => ?_, by simp, fun r hr hn => by simp [hr], fun r hr => by simp [List.getElem?_eq_none hr], fun k r hk hm => by have := lt_of_get hm; omega, by simp, fun i o hoi => ?_, rfl, by simp⟩
    · have hil : i < ks.length := by have := lt_of_get hi; rw [hsub.1] at this; exact this
      have hk := List.getElem?_eq_getElem hil
      obtain ⟨r', h1, h2⟩ := hsub.2 i _ hk
      rw [hi] at h2
      injection h2 with h2
      subst h2
      obtain ⟨o', e1, e2, e3⟩ := hoo i _ hk
      simp only at hoi
      rw [e1] at hoi
      injection hoi with hoi
      subst hoi
      rw [hs.loc _ r _ h1 e2]
      simp only [Option.map_some]
      rw [HObj.ren_conv hsub o' e3]
    · have hil : i < ks.length := by have := lt_of_get hoi; simp only at this; omega
      obtain ⟨o', e1, e2, e3⟩ := hoo i _ (List.getElem?_eq_getElem hil)
      simp only at hoi ⊢
      rw [e1] at hoi
      injection hoi with hoi
      injection hoi with hoi
      subst hoi
      rw [← hol]
      exact e3
  obtain ⟨x, T1', v, w', β', H', m1', fr, hq, k1, k2, k3, k4, k5, k6⟩ := hf.2 w β H m1 _ vals cs hs1 (by rw [← hl, ha, V.renL_eq]; simp) (fun j y u hj hu => by
    have := hr j (y.ren ks) u (by rw [ha, V.renL_eq, List.getElem?_map, hj]; rfl) hu
    rwa [V.ren_conv hsub y (hargsc y (List.mem_of_getElem? hj))] at this)
  obtain ⟨hlive, h⟩ := h x T1' hq
  rw [setAllK_eq] at h
  rw [ldrop_eq] at hlive
  obtain ⟨ρ, hρ⟩ : ∃ ρ, ρ = subρ ks T.length T1' := ⟨_, rfl⟩
  rw [← hρ] at h
  -- the names behind the call
  have hpre : m1 = m1'.take m1.length := by have := k1.imp; rw [this]
  obtain ⟨new, hnew⟩ : ∃ new, m1' = m1 ++ new := ⟨m1'.drop m1.length, by conv => lhs; rw [← List.take_append_drop m1.length m1', ← hpre]⟩
  have hm1'l : m1'.length = T1'.length := k1.mlen
  have hks' : ks.length ≤ T1'.length := by rw [hnew] at hm1'l; simp at hm1'l; have := hsub.1; omega
  have hnl : new.length = T1'.length - ks.length := by rw [hnew] at hm1'l; simp at hm1'l; have := hsub.1; omega
  have hnget : ∀ j r, new[j]? = some r → m1'[ks.length + j]? = some r := fun j r hj => by
    rw [hnew, List.getElem?_append_right (by rw [hsub.1]; omega), hsub.1, Nat.add_sub_cancel_left]
    exact hj
  have hlen : H.length ≤ H'.length := k2.len
  have hfresh : ∀ r, r ∈ new → H.length ≤ r := fun r hr => by
    obtain ⟨j, hj⟩ := List.getElem?_of_mem hr
    have hm := hnget j r hj
    have hjl : ks.length + j < T1'.length := by have := lt_of_get hm; omega
    have hT := List.getElem?_eq_getElem hjl
    obtain ⟨o, ho⟩ := allLive_get hlive j _ (by rw [List.getElem?_drop]; exact hT)
    rw [ho] at hT
    have hH' := k1.loc _ r _ hm hT
    have hz := k1.own (ks.length + j) r (by rw [hsub.1]; omega) hm
    simp only at hz
    rcases Nat.lt_or_ge r H.length with h1 | h1
    · obtain ⟨o1, e1, _⟩ := k2.evo r _ h1 hH'
      rw [e1] at hz
      cases hz
    · exact h1
  have hρe : ρ = ks ++ rangeFrom T.length new.length := by rw [hρ]; unfold subρ; rw [lcount_eq, lcount_eq, hnl]; simp
  have hρl : ρ.length = T1'.length := by rw [hρe]; simp [rangeFrom_len]; omega
  obtain ⟨m', hm'⟩ : ∃ m', m' = m ++ new := ⟨_, rfl⟩
  have hm'l : m'.length = T.length + new.length := by rw [hm']; simp [hml]
  have hsub' : Sub ρ m' m1' := by
    refine ⟨by rw [hm1'l, hρl], fun i k hk => ?_⟩
    rw [hρe] at hk
    rcases Nat.lt_or_ge i ks.length with h1 | h1
    · rw [List.getElem?_append_left h1] at hk
      obtain ⟨r, e1, e2⟩ := hsub.2 i k hk
      exact ⟨r, by rw [hm', List.getElem?_append_left (lt_of_get e1)]; exact e1, by rw [hnew, List.getElem?_append_left (lt_of_get e2)]; exact e2⟩
    · rw [List.getElem?_append_right h1] at hk
      have hi := lt_of_get hk
      rw [rangeFrom_len] at hi
      rw [rangeFrom_get _ _ _ hi] at hk
      injection hk with hk
      subst hk
      refine ⟨new[i - ks.length], by rw [hm', List.getElem?_append_right (by omega), hml, Nat.add_sub_cancel_left]; exact List.getElem?_eq_getElem hi, ?_⟩
      rw [hnew, List.getElem?_append_right (by rw [hsub.1]; exact h1), hsub.1]
      exact List.getElem?_eq_getElem hi
  have hext : ∀ u : V, u.sc m.length → u.conv m' = u.conv m := fun u hu => by rw [hm']; exact V.conv_ext (Nat.le_refl _) u hu
  have hin : ∀ r, r ∈ m1' → r ∈ m1 ∨ r ∈ new := fun r hr => by rw [hnew] at hr; exact List.mem_append.1 hr
  have hold : ∀ r, r < H.length → r ∉ m1 → H'[r]? = H[r]? := fun r hr hn => by
    have hn' : r ∉ m1' := fun hm => by
      rcases hin r hm with h1 | h1
      · exact hn h1
      · have := hfresh r h1; omega
    rw [k1.base r (Nat.lt_of_lt_of_le hr hlen) hn']
    simp [hr]
  have hscT1 : ∀ (i : Nat) (o : HObj), T1'[i]? = some (some o) → o.sc ρ.length := fun i o ho => by rw [hρl]; exact k1.scT i o ho
  have hT2l : (setAll ρ ks T1' T).length = T.length + new.length := by rw [setAll_len _ _ _ _ hks', hnl]
  -- an object, handed over or new
  have hobj : ∀ (i k r : Nat) (o : Option HObj), ρ[i]? = some k → m'[k]? = some r → T1'[i]? = some o → H'[r]? = some ((omap ρ o).map (HObj.conv m')) := fun i k r o hi hk ho => by
    obtain ⟨r', e1, e2⟩ := hsub'.2 i k hi
    rw [hk] at e1
    injection e1 with e1
    subst e1
    rw [k1.loc i r o e2 ho]
    cases o with
    | none => rfl
    | some o => simp only [omap, Option.map_some]; rw [HObj.ren_conv hsub' o (hscT1 i o ho)]
  have hcase : ∀ k, k < T.length + new.length → (∃ i, ρ[i]? = some k ∧ (setAll ρ ks T1' T)[k]? = T1'[i]?.map (omap ρ)) ∨ (k < T.length ∧ k ∉ ks ∧ (setAll ρ ks T1' T)[k]? = T[k]?) := fun k hk => by
    rcases Nat.lt_or_ge k T.length with h1 | h1
    · by_cases hm : k ∈ ks
      · obtain ⟨i, hi⟩ := List.getElem?_of_mem hm
        exact .inl ⟨i, by rw [hρe, List.getElem?_append_left (lt_of_get hi)]; exact hi, setAll_at ρ ks T1' T hnd' hlt' hks' i k hi⟩
      · exact .inr ⟨h1, hm, setAll_other ρ ks T1' T hm h1⟩
    · refine .inl ⟨ks.length + (k - T.length), ?_, ?_⟩
      · rw [hρe, List.getElem?_append_right (by omega), Nat.add_sub_cancel_left, rangeFrom_get _ _ _ (by omega)]
        congr 1
        omega
      · have := setAll_new ρ ks T1' T hks' (k - T.length)
        rwa [Nat.add_sub_cancel' h1] at this
  refine ⟨_, _, v, w', β', H', m', fr, h, ?_, k2, by rw [V.ren_conv hsub' x (by rw [hρl, ← hm1'l]; exact sc_of_rep x k3)]; exact k3, k4, k5, k6, by rw [hm']; exact List.prefix_append _ _⟩
  refine ⟨k1.hrel, hs.size, fun k => ?_, by rw [hm'l, hT2l], ?_, fun k r o hk ho' => ?_, ?_, fun r hr hn => ?_, fun r hr => hs.fut r (Nat.le_trans hlen hr), fun k r hk hm => ?_, fun p hp => ?_, fun k o ho' => ?_, hs.defs, ?_⟩
  · simp only
    rw [hext _ (by have := lk_sc E k hs.scE; rwa [hml])]
    exact (hs.env k).mono k2
  · rw [hm']
    refine List.nodup_append.2 ⟨hs.nodup, ?_, fun a ha b hb e => ?_⟩
    · have := k1.nodup
      rw [hnew] at this
      exact (List.nodup_append.1 this).2.1
    · subst e
      obtain ⟨j, hj⟩ := List.getElem?_of_mem ha
      have := hs.lt hj
      have := hfresh _ hb
      omega
  · have hkl : k < T.length + new.length := by have := lt_of_get hk; omega
    simp only at ho'
    rcases hcase k hkl with ⟨i, e1, e2⟩ | ⟨e1, e2, e3⟩
    · rw [e2] at ho'
      rw [Option.map_eq_some_iff] at ho'
      obtain ⟨o1, e4, e5⟩ := ho'
      subst e5
      exact hobj i k r o1 e1 hk e4
    · rw [e3] at ho'
      have hkm : m[k]? = some r := by rw [hm', List.getElem?_append_left (by omega)] at hk; exact hk
      have hrn : r ∉ m1 := fun hm => by
        obtain ⟨i, k2', q1, q2, _⟩ := hmem r hm
        have := hs.inj q2 hkm
        subst this
        exact e2 (List.mem_of_getElem? q1)
      rw [hold r (hs.lt hkm) hrn, hs.loc k r o hkm ho']
      cases o with
      | none => rfl
      | some o =>
        simp only [Option.map_some, Option.some.injEq]
        have := hs.scT k o ho'
        rw [hm']
        exact (HObj.conv_ext (Nat.le_refl _) o (by rw [hml]; exact this)).symm
  · have := hs.imp
    rw [hm', List.take_append_of_le_length]
    · exact this
    · have := congrArg List.length this
      simp at this
      omega
  · simp only
    have hrm : r ∉ m := fun hm => hn (by rw [hm']; exact List.mem_append_left _ hm)
    have hrnew : r ∉ new := fun hm => hn (by rw [hm']; exact List.mem_append_right _ hm)
    have hr1 : r ∉ m1 := fun hm => by
      obtain ⟨i, k2', q1, q2, _⟩ := hmem r hm
      exact hrm (List.mem_of_getElem? q2)
    have hr1' : r ∉ m1' := fun hm => by rcases hin r hm with h1 | h1; exact hr1 h1; exact hrnew h1
    rw [k1.base r hr hr1']
    simp only
    rcases Nat.lt_or_ge r H.length with h1 | h1
    · rw [hs.base r h1 hrm]
      rfl
    · have e0 : c.B r = none := hs.fut r h1
      rw [e0, List.getElem?_eq_none h1]
      rfl
  · rcases Nat.lt_or_ge k m.length with h1 | h1
    · rw [hm', List.getElem?_append_left h1] at hm
      exact hs.own k r hk hm
    · rw [hm', List.getElem?_append_right h1] at hm
      exact hs.fut r (hfresh r (List.mem_of_getElem? hm))
  · simp only
    rw [hT2l]
    exact V.sc_mono (Nat.le_add_right _ _) _ (hs.scE p hp)
  · have hkl : k < T.length + new.length := by have := lt_of_get ho'; simp only at this; omega
    simp only at ho' ⊢
    rw [hT2l]
    rcases hcase k hkl with ⟨i, e1, e2⟩ | ⟨e1, e2, e3⟩
    · rw [e2, Option.map_eq_some_iff] at ho'
      obtain ⟨o1, e4, e5⟩ := ho'
      cases o1 with
      | none => cases e5
      | some o1 =>
        simp only [omap, Option.some.injEq] at e5
        subst e5
        rw [← hm'l]
        exact HObj.ren_sc hsub' o1 (hscT1 i o1 e4)
    · rw [e3] at ho'
      exact HObj.sc_mono (Nat.le_add_right _ _) _ (hs.scT k o ho')
  · intro j k hj
    obtain ⟨r', b, N, e1, e2, e3, e4⟩ := hs.marks j k hj
    have hkm : k < T.length := by have := lt_of_get e1; omega
    have hkn : k ∉ ks := fun hm => by
      have := List.all_eq_true.1 hD k (List.mem_of_getElem? hj)
      rw [(memN_iff _ _).2 hm] at this
      cases this
    have hr1 : r' ∉ m1 := fun hm => by
      obtain ⟨i, k2', q1, q2, _⟩ := hmem r' hm
      have := hs.inj q2 e1
      subst this
      exact hkn (List.mem_of_getElem? q1)
    have hH0 := hs.loc k r' _ e1 e2
    refine ⟨r', b, N, by rw [hm', List.getElem?_append_left (lt_of_get e1)]; exact e1, by simp only; rw [setAll_other ρ ks T1' T hkn hkm]; exact e2, ?_, e4⟩
    exact dfr_stays k2 (by simpa [HObj.conv] using hH0) e3 (by rw [hold r' (hs.lt e1) hr1, hH0]; rfl)

/-- A function's contract, out of its body's evaluation. -/
theorem fun_fn {P : Program} {f : FuncId} {fn : Func} {body : Code} {T : Heap} {args : List V} {Q : V → Heap → Prop} (n : Nat) (hf : P.funcs[f]? = some fn) (hn : (fn.name == "runtime.NumGoroutine") = false) (hb : fn.body = some body) (hnt : Nat.ble args.length fn.ntmps = true)
    (h : ∀ (imps : List Nat) (B : Base), imps.length = T.length → evp { P := P, nt := fn.ntmps, fn := f, ro := none, imps := imps, X := XR P imps fn.results B Q, B := B, D := [] } n [.code body] (env0 0 args) T) : Fun P f T args Q :=
  fun_of_goes hf hn hb hnt fun imps B hi => evp_sound _ _ _ _ _ (h imps B hi)

/-- What a call leaves, but for what nobody names: the first n objects. -/
def keepK (n : Nat) (x : V) (T : Heap) (Q : V → Heap → Prop) : Prop := ∃ T1, T1.length = n ∧ x.scB n = true ∧ heapIs n T T1 ∧ Q x T1
theorem fun_keep {P : Program} {f : FuncId} {T : Heap} {args : List V} {Q : V → Heap → Prop} (n : Nat) (hn : Nat.ble T.length n = true) (h : Fun P f T args fun x T' => keepK n x T' Q) : Fun P f T args Q := by
  unfold Fun at *
  refine ⟨h.1, fun w β H m B vals cs hs hl hr => ?_⟩
  obtain ⟨x, T', v, w', β', H', m', fr, ⟨T1, q1, q2, q3, q4⟩, k1, k2, k3, k4⟩ := h.2 w β H m B vals cs hs hl hr
  subst q1
  obtain ⟨T'', rfl, hsc⟩ := heapIs_eq q3
  have hml : m.length = T.length := hs.mlen
  obtain ⟨m2, H2, e1, e2, e3⟩ := SRel.dropTo T'' k1 (by rw [hml]; exact Nat.le_of_ble_eq_true hn) (by simp) hsc (by simp)
  refine ⟨x, T1, v, w', β', H2, m2, fr, q4, e1, k2.trans e2, ?_, k4⟩
  have hx := V.scB_sc x q2
  have : x.conv m2 = x.conv m' := by
    rw [e3]
    have hle : T1.length ≤ (m'.take T1.length).length := by
      have := k1.mlen
      simp at this ⊢
      omega
    conv => rhs; rw [← List.take_append_drop T1.length m']
    exact (V.conv_ext hle x hx).symm
  rw [this]
  exact k3.mono e2
end Bow
/- AE38: a row that grows for more; own slices cut; a nil slice as own memory. -/
namespace Bow
open Go

theorem run_append_zeros {P : Program} {w : World} {t t' e : TypeId} {i : TypeInfo} {z : Value} {kd kk : IntKind} (n : Nat) (ht : P.underlying t = some (.slice e)) (ht' : P.underlying t' = some (.int kd)) (hi : P.info? e = some i) (hz : i.zero = some z) (ty : TypeId)
    (_hzs : z.cells.size = i.size) (hsz : 0 < i.size) (h1 : 1 ≤ n) (h63 : n ≤ 9223372036854775807) (hb : n * i.bytes ≤ 281474976710656) (hfit : Builtin.nextslicecap n 0 * i.bytes ≤ 281474976710656) :
    (Builtin.append_ #[t, t'] ty #[.slice none 0 0, .int kk n]).run P w =
      .ok (.slice (some ⟨w.heap.size, 0, none⟩) n (grownCap w n 0 e)) (w.drew.alloc (.cells (Builtin.zeroCells z.cells n ++ Builtin.zeroCells z.cells (grownCap w n 0 e - n)) e)) := by
  have hn : ¬ (n ≤ 0) := by omega
  have hn0 : ¬ n = 0 := by omega
  have hs0 : ¬ i.size = 0 := by omega
  have e1 : IntKind.i64.max = 9223372036854775807 := by decide
  have hw : IntKind.i64.wrap (n : Int) = n := by
    rw [IntKind.wrap_i64]; omega
  have h48 : ¬ (281474976710656 < Builtin.nextslicecap n 0 * i.bytes) := by omega
  have hb' : ¬ (281474976710656 < (n : Int) * (i.bytes : Int)) := by
    have h : ((n * i.bytes : Nat) : Int) ≤ 281474976710656 := by omega
    rw [Int.natCast_mul] at h
    omega
  have h63' : ¬ ((9223372036854775807 : Int) < (n : Int)) := by omega
  have hneg : ¬ ((n : Int) < 0) := by omega
  simp [Builtin.append_, run_underlying ht, run_underlying ht', run_sizeOf' hi, typeInfo, zeroValue, hi, hz, hn0, h63', h48, hb', hneg, hw, Question.forced, newRow, grownCap, e1, asInt, asIntOf, Builtin.firstCells]
  intro h
  exact absurd h (Nat.ne_of_gt (Nat.mul_pos h1 hsz))

section
variable {c : Cx} {E : Env} {T : Heap} {ops : Array Oper} {i : Nat} {rest : List Nat} {k : List Item} {o : Oper}

theorem goes_cap0 {t e : TypeId} {x : Operand} (n : Nat) (ho : lget ops.toList i = some o) (hg : o.guard = none) (hop : o.op = .call { callee := .builtin .cap, args := #[x], argTypes := #[t] }) (hx : opd E x = .nilsl) (ht : tyU c.P t = some (.slice e))
    (h : putE c.nt o.dst (.int .i64 0) E False fun E' => evp c n (.inRegion ops rest :: k) E' T) : Goes c (.inRegion ops (i :: rest) :: k) E T := by
  refine goes_opTo n ho hg hop (OpTo.still fun o hop w β H m a hs => ⟨.int .i64 0, ?_, .int _ _⟩) (fun cl h => by cases h) h
  have hr := opd_rep hs x
  simp only [hx, V.conv] at hr
  generalize hq : a.eval x = q at hr
  cases hr
  simp [execOp, hop, resolve, invoke, builtin, Builtin.cap_, hq, run_underlying (tyU_sound ht), goInt]

theorem goes_nilcut {t e : TypeId} {x hi : Operand} {kk : IntKind} {ti : TypeInfo} (n : Nat) (ho : lget ops.toList i = some o) (hg : o.guard = none) (hop : o.op = .slice t x none (some hi) none) (hx : opd E x = .nilsl) (hh : opd E hi = .int kk 0) (ht : tyU c.P t = some (.slice e)) (hi' : tyI c.P e = some ti)
    (h : putE c.nt o.dst .nilsl E False fun E' => evp c n (.inRegion ops rest :: k) E' T) : Goes c (.inRegion ops (i :: rest) :: k) E T := by
  refine goes_opTo n ho hg hop (OpTo.still fun o hop w β H m a hs => ⟨.slice none 0 0, ?_, .nilsl⟩) (fun cl h => by cases h) h
  have hr := opd_rep hs x
  simp only [hx, V.conv] at hr
  have hr2 := rep_int (m := m) (by have := opd_rep hs hi; rwa [hh] at this)
  generalize hq : a.eval x = q at hr
  cases hr
  simp [execOp, hop, hq, hr2, Instr.sliceAt, Instr.slice, Instr.sliceBounds, Instr.sliceBound, asIntOf, run_underlying (tyU_sound ht), run_sizeOf' (tyI_sound hi')]

/-- The built-in append of so many zeros, onto nil. -/
theorem goes_growTo {t t' e : TypeId} {x y : Operand} {kd : IntKind} {ti : TypeInfo} {z : Value} (n N : Nat) (ho : lget ops.toList i = some o) (hg : o.guard = none) (hop : o.op = .call { callee := .builtin .append, args := #[x, y], argTypes := #[t, t'] }) (hx : opd E x = .nilsl) (hy : opd E y = .int .i64 N) (h1 : 1 ≤ N)
    (ht : tyU c.P t = some (.slice e)) (ht' : tyU c.P t' = some (.int kd)) (hi : tyI c.P e = some ti) (hz : ti.zero = some z) (hsz : (Nat.beq z.cells.size ti.size && Nat.ble 1 ti.size && Nat.ble 1 ti.bytes && onesB (ofVal z).cells && Nat.beq (lcount (ofVal z).cells 0) ti.size) = true) (hb : room N ti.bytes)
    (h : putE c.nt o.dst (.osl (.loc T.length) 0 0 N) E False fun E' => lsnoc T (some (.vec 0 ti.size (List.replicate N (ofVal z)))) fun T' => evp c n (.inRegion ops rest :: k) E' T') : Goes c (.inRegion ops (i :: rest) :: k) E T := by
  simp only [lsnoc_eq] at h
  simp only [Bool.and_eq_true, lcount_eq, Nat.add_zero] at hsz
  obtain ⟨⟨⟨⟨s1, s2⟩, s3⟩, s4⟩, s5⟩ := hsz
  have s1 := Nat.eq_of_beq_eq_true s1
  have s2 : 1 ≤ ti.size := Nat.le_of_ble_eq_true s2
  have s3 : 1 ≤ ti.bytes := Nat.le_of_ble_eq_true s3
  have s5 := Nat.eq_of_beq_eq_true s5
  unfold room at hb
  have hN : N ≤ 70368744177664 := Nat.le_trans (Nat.le_mul_of_pos_right N s3) hb
  refine goes_opTo n ho hg hop (fun o hop w β H m a hs => ?_) (fun cl h => by cases h) h
  have hr := opd_rep hs x
  simp only [hx, V.conv] at hr
  have e2 := rep_int (m := m) (by have := opd_rep hs y; rwa [hy] at this)
  generalize hq : a.eval x = q at hr
  cases hr
  have hrun := run_append_zeros (P := c.P) (w := w) (kk := .i64) N (tyU_sound ht) (tyU_sound ht') (tyI_sound hi) hz o.type s1 (by omega) h1 (by omega) (by omega) (growslice_fits (by omega) (by omega))
  have hge := grownCap_ge w N 0 e
  have hcm := grownCap_le_maxLen w N 0 e (by unfold maxLen; omega)
  obtain ⟨cap, hcap⟩ : ∃ cap, cap = grownCap w N 0 e := ⟨_, rfl⟩
  rw [← hcap] at hge hcm hrun
  have hzr : RowRep w β H (V.convL m (ofVal z).cells) z.cells.toList := ofVal_row m z
  have hzp : V.convL m (ofVal z).cells = (ofVal z).cells := by
    refine pureL_conv m _ ?_
    have key1 : ∀ v, (ofVal1 v).pureB = true := fun v => by
      unfold ofVal1
      split <;> first | rfl | skip
      cases (Nat.ble _ 1000000) <;> rfl
    have key : ∀ l : List Value, V.pureL (lmap ofVal1 l) = true := fun l => by
      induction l with
      | nil => rfl
      | cons x l ih => simp only [lmap, V.pureL, key1, ih, Bool.and_self]
    unfold ofVal
    split
    · exact key _
    · rw [ofVal1_cells]
      simp [V.pureL, key1]
  rw [hzp] at hzr
  have hsame : SRel c.imps c.nt w.drew β H m ⟨E, T, c.B, c.D⟩ a := hs.same (Fr.of_heap rfl rfl rfl rfl) (hs.hrel.of_heap rfl rfl rfl rfl)
  obtain ⟨cells, hcells⟩ : ∃ cells, cells = Builtin.zeroCells z.cells N ++ Builtin.zeroCells z.cells (cap - N) := ⟨_, rfl⟩
  rw [← hcells] at hrun
  have hcs : cells.size = cap * ti.size := by
    rw [hcells]
    simp only [Array.size_append, zeroCells_size', s1, ← Nat.add_mul]
    congr 1
    omega
  obtain ⟨β', H', k1, k2, k3⟩ := hsame.newVec 0 ti.size (List.replicate N (ofVal z)) cells e N cap (tyG_zero _) s2 (fun x hx => by rw [List.eq_of_mem_replicate hx]; exact ⟨s5, s4⟩) (by simp) hge hcm hcs.symm
    (fun ix x j cc v hx hj hv => by
      have hxl := lt_of_get hx
      rw [List.length_replicate] at hxl
      have hxe := List.eq_of_mem_replicate (List.mem_of_getElem? hx)
      subst hxe
      have hjl := lt_of_get hj
      have hlt : ix * ti.size + j < N * ti.size := by
        have : (ix + 1) * ti.size ≤ N * ti.size := Nat.mul_le_mul_right _ hxl
        rw [Nat.add_mul] at this
        omega
      rw [hcells, Array.getElem?_append_left (by rw [zeroCells_size', s1]; exact hlt)] at hv
      have hget : (Builtin.zeroCells z.cells N)[ix * ti.size + j]? = some z.cells[(ix * ti.size + j) % z.cells.size]! := by
        simp [Builtin.zeroCells, s1, hlt]
      rw [hget] at hv
      injection hv with hv
      have hmod : (ix * ti.size + j) % z.cells.size = j := by rw [s1, Nat.add_comm, Nat.add_mul_mod_self_right, Nat.mod_eq_of_lt (by omega)]
      rw [hmod] at hv
      refine (hzr.2 j cc v hj ?_).mono (Fr.of_heap rfl rfl rfl rfl)
      rw [← hv]
      have : j < z.cells.size := by omega
      simp [this])
  refine ⟨_, _, _, β', H', _, ?_, .inl rfl, k1, (show Fr w β H w.drew β H from Fr.of_heap rfl rfl rfl rfl).trans k2, k3, List.prefix_append _ _⟩
  rw [← hq, ← e2] at hrun
  simp [execOp, hop, resolve, invoke, builtin, hrun]

/-- An own slice, cut behind its first elements: of the next generation. -/
theorem goes_cut {t e : TypeId} {x hi : Operand} {kk : IntKind} {ti : TypeInfo} {kn g l sz h : Nat} {xs : List V} (n : Nat) (ho : lget ops.toList i = some o) (hg : o.guard = none) (hop : o.op = .slice t x none (some hi) none) (hx : opd E x = .osl (.loc kn) g 0 l) (hh : opd E hi = .int kk h) (ht : tyU c.P t = some (.slice e)) (hi' : tyI c.P e = some ti)
    (hk : lget T kn = some (some (.vec g sz xs))) (hle : h ≤ l)
    (hn : putE c.nt o.dst (.osl (.loc kn) (bump g) 0 h) E False fun E' => lset T kn (some (.vec (bump g) sz (xs.take h))) fun T' => evp c n (.inRegion ops rest :: k) E' T') : Goes c (.inRegion ops (i :: rest) :: k) E T := by
  simp only [lset_eq] at hn
  rw [lget_eq] at hk
  refine goes_opTo n ho hg hop (fun o hop w β H m a hs => ?_) (fun cl h => by cases h) hn
  have hv := opd_rep hs x
  obtain ⟨r, hr, hH⟩ := hs.at hk
  simp only [hx, V.conv, Ref.conv, hr] at hv
  simp only [HObj.conv] at hH
  have hob := hs.hrel.obj r _ hH
  have hrl := hs.lt hr
  have e2 := rep_int (m := m) (by have := opd_rep hs hi; rwa [hh] at this)
  have hvec2 : ∀ sz2 xs2, H[r]? = some (some (.vec g sz2 xs2)) → sz2 = sz ∧ xs2 = xs := fun sz2 xs2 h2 => by
    rw [hH] at h2
    injection h2 with h2
    injection h2 with h2
    injection h2 with _ e1 e2
    exact ⟨e1.symm, e2.symm⟩
  generalize hq : a.eval x = q at hv
  have hrun : ∀ (ad : Option Addr) (cap : Nat), q = .slice ad l cap → l ≤ cap → (execOp a.eval o).run c.P w = .ok (.value (.slice (if cap = 0 then ad else Option.map (fun x => x.add 0) ad) h cap)) w := by
    intro ad cap hqe hlc
    subst hqe
    have hhc : h ≤ cap := by omega
    simp [execOp, hop, hq, e2, Instr.sliceAt, Instr.slice, Instr.sliceBounds, Instr.sliceBound, asIntOf, run_underlying (tyU_sound ht), run_sizeOf' (tyI_sound hi'), hhc]
  cases hv with
  | oslNil _ _ sz2 xs2 ad hH' hβ =>
    rw [hβ] at hob
    have hxs : xs = [] := hob
    subst hxs
    obtain rfl : h = 0 := by omega
    have hfr : Fr w β H w (upd β r .nil) (H.set r (some (.vec (bump g) sz ([] : List V)))) := Fr.regen (lt_bump g) (by rw [hβ]; simp) hH rfl rfl rfl (Nat.le_refl _) (fun _ _ _ => rfl) (fun b N hb => by cases hb)
    have hrel : HRel w (upd β r .nil) (H.set r (some (.vec (bump g) sz ([] : List V)))) := hs.hrel.regen (lt_bump g) (by rw [hβ]; simp) hH rfl rfl rfl (Nat.le_refl _) (fun _ _ _ => rfl) (fun b N hb => by cases hb) rfl
    refine ⟨_, _, w, _, _, m, hrun ad 0 rfl (Nat.le_refl _), .inl rfl, by simpa using hs.regen hk hr hfr hrel, hfr, ?_, List.prefix_refl _⟩
    simp only [V.conv, Ref.conv, hr]
    exact .oslNil r _ sz [] _ (by simp [hrl]) (upd_same _ _ _)
  | oslBlk _ _ _ _ sz2 xs2 b N ad cap hH' hβ hl hN hcap ha hlen =>
    obtain ⟨rfl, rfl⟩ := hvec2 _ _ hH'
    rw [hβ] at hob
    obtain ⟨vs, et, _, h1, h2, h3, h4, h5, h6⟩ := hob
    have hl' : ∀ b' N', Loc.blk b N = Loc.blk b' N' → w.heap.size ≤ b' ∨ ∃ N2, β r = .blk b' N2 := fun b' N' hb' => by injection hb' with e1 e2; subst e1; exact .inr ⟨N, hβ⟩
    have hfr : Fr w β H w (upd β r (.blk b N)) (H.set r (some (.vec (bump g) sz2 (xs2.take h)))) := Fr.regen (lt_bump g) (by rw [hβ]; simp) hH rfl rfl rfl (Nat.le_refl _) (fun _ _ _ => rfl) hl'
    have hrel : HRel w (upd β r (.blk b N)) (H.set r (some (.vec (bump g) sz2 (xs2.take h)))) :=
      hs.hrel.regen (lt_bump g) (by rw [hβ]; simp) hH rfl rfl rfl (Nat.le_refl _) (fun _ _ _ => rfl) hl'
        ⟨vs, et, tyG_bump _ _, h1, h2, Nat.le_trans (Nat.mul_le_mul_right _ (by simp; omega)) h3, h4, fun x hx => h5 x (List.mem_of_mem_take hx), fun p x j c v hi hj hv => by
          rw [List.getElem?_take] at hi
          split at hi
          · exact (h6 p x j c v hi hj hv).mono hfr
          · cases hi⟩
    refine ⟨_, _, w, _, _, m, hrun ad cap rfl hl, .inl rfl, hs.regen hk hr hfr hrel, hfr, ?_, List.prefix_refl _⟩
    simp only [V.conv, Ref.conv, hr]
    exact .oslBlk r _ 0 _ sz2 (xs2.take h) b N _ _ (by simp [hrl]) (upd_same _ _ _) (by omega) hN hcap (fun hc => by
      rw [if_neg (by omega), ha hc]
      simp [at_add]) (by simp; omega)
  | oslStale _ _ _ _ g' sz' xs' _ hH' hg =>
    rw [hH] at hH'
    injection hH' with hH'
    injection hH' with hH'
    injection hH' with e0 _ _
    omega
  | oslDead _ _ _ _ _ hd => rw [hH] at hd; cases hd
end

/-- A nil slice, as own memory. -/
theorem goes_own {c : Cx} {todo : List Item} {E : Env} {T : Heap} (t sz : Nat) (hx : lk E t = .nilsl) (h : Goes c todo ((t, .osl (.loc T.length) 0 0 0) :: E) (T ++ [some (.vec 0 sz [])])) : Goes c todo E T := by
  refine goes_step fun w β H m a b cs hs _ _ _ => ?_
  obtain ⟨β', H', k1, k2, k3⟩ := hs.newNil 0 sz none
  have hr := hs.env t
  simp only [hx, V.conv] at hr
  generalize hq : a.tmps.getD t Go.undef = q at hr
  cases hr
  refine ⟨w, β', H', m ++ [H.length], a, todo, ⟨(t, .osl (.loc T.length) 0 0 0) :: E, T ++ [some (.vec 0 sz [])], c.B, c.D⟩, .refl _ _, ?_, k2, h⟩
  refine { k1 with env := fun j => ?_, scE := fun p hp => ?_ }
  · simp only [lk]
    cases hb : Nat.beq t j with
    | false => exact k1.env j
    | true =>
      obtain rfl := Nat.eq_of_beq_eq_true hb
      simp only [cond_true, hq]
      exact k3
  · simp only [List.mem_cons] at hp
    rcases hp with rfl | hp
    · show T.length < (T ++ _).length
      simp
    · exact k1.scE p hp
end Bow
/- AE39: a box whose cells are to say less. -/
namespace Bow
open Go

theorem goes_wkbox {c : Cx} {todo : List Item} {E : Env} {T : Heap} (k : Nat) {cs : List V} (cs' : List V) (hk : lget T k = some (some (.box cs))) (hp : V.pureL cs = true) (hp' : V.pureL cs' = true) (hw : WkL cs cs')
    (h : lset T k (some (.box cs')) fun T' => Goes c todo E T') : Goes c todo E T := by
  rw [lset_eq] at h
  rw [lget_eq] at hk
  refine goes_step fun w β H m a b cs0 hs _ _ _ => ?_
  obtain ⟨r, hr, hH⟩ := hs.at hk
  simp only [HObj.conv] at hH
  have hob := hs.hrel.obj r _ hH
  have hc : V.convL m cs = cs := pureL_conv m _ hp
  have hc' : V.convL m cs' = cs' := pureL_conv m _ hp'
  have hfr : Fr w β H w β (H.set r (some ((HObj.box cs').conv m))) := Fr.swap hH trivial
  have hrel : HRel w β (H.set r (some ((HObj.box cs').conv m))) := by
    refine hs.hrel.swap hH trivial ?_
    simp only [HObj.conv]
    cases hβ : β r with
    | none => trivial
    | nil => rw [hβ] at hob; exact hob
    | blk bb N =>
      rw [hβ] at hob
      obtain ⟨vs, e, q1, q2, q3, q4⟩ := hob
      rw [hc] at q3 q4
      refine ⟨vs, e, q1, q2, by rw [hc', hw.len]; exact q3, fun i x v hi hv => ?_⟩
      rw [hc'] at hi
      obtain ⟨x0, h1, h2⟩ := hw.get i x hi
      exact (h2 w β H v (q4 i x0 v h1 hv)).mono (by rw [← HObj.conv]; exact hfr)
  have hset := hs.setAt (o' := some (.box cs')) (w' := w) hr (fun o1 e1 => by
      injection e1 with e1
      subst e1
      have h1 := hc'
      exact (V.scL_iff _ _).2 fun v hv => pureSc _ v (pureL_mem _ hp' v hv))
    (fun hm => absurd hm (hs.notD hk (by simp))) hfr hrel
  exact ⟨w, β, _, m, a, todo, ⟨E, _, c.B, c.D⟩, .refl _ _, hset, hfr, h⟩
end Bow
/- AE40: a function's contract out of a walk by the kit's own tactics: all that it wrote lies in new memory. -/
namespace Bow
open Go

theorem pure_of_calls {P : Program} {f : FuncId} {args : List V} {Q : V → Prop} (he : Enterable P f) (hp : V.pureL args = true)
    (h : ∀ (w : World) (β : Nat → Loc) (H : Heap) (vals : Array Value), args.length = vals.size → (∀ (j : Nat) (x : V) (v : Value), args[j]? = some x → vals[j]? = some v → Rep w β H x v) →
      Calls P f vals w fun e w' => RowKit.Below w.heap.size w w' ∧ ∃ (x : V) (v : Value), e = .returned v ∧ Q x ∧ x.pureB = true ∧ Rep w' β H x v) : Pure P f args Q := by
  unfold Pure Fun
  refine ⟨he, fun w β H m B vals cs hs hl hr => ?_⟩
  obtain ⟨e, w', fr, ⟨hb, x, v, rfl, hq, hx, hv⟩, k1, k2, k3⟩ := h w β H vals hl (fun j x v hj hv => by
    have := hr j x v hj hv
    rwa [pure_conv _ _ (pureL_mem _ hp x (List.mem_of_getElem? hj))] at this) cs
  refine ⟨x, [], v, w', β, H, m, fr, ⟨rfl, hx, hq⟩, hs.same (Fr.of_below hb) (hs.hrel.of_below hb), Fr.of_below hb, ?_, k1, k2, k3⟩
  rwa [pure_conv _ _ hx]

def flatL : List V → Bool
  | [] => true
  | v :: vs => flatB v && flatL vs
theorem flatL_get : ∀ {vs : List V}, flatL vs = true → ∀ v ∈ vs, flatB v = true
  | [], _, v, h => by cases h
  | x :: vs, hg, v, h => by
    simp only [flatL, Bool.and_eq_true] at hg
    rcases List.mem_cons.1 h with rfl | h
    · exact hg.1
    · exact flatL_get hg.2 v h

section
variable {P : Program} {w w' : World} {β β' : Nat → Loc} {H H' : Heap}
theorem Rep.flat_sl {sz : Nat} {xs : List V} {v : Value} (hx : ∀ x ∈ xs, flatL x.cells = true) (h : Rep w β H (.sl sz xs) v) : Rep w β0 [] (.sl sz xs) v := by
  cases h with
  | sl _ _ a cap vals hcap hmax hsz ha hr =>
    refine .sl sz xs a cap vals hcap hmax hsz (fun hne => ?_) (fun i x j c hi hj => ?_)
    · obtain ⟨ad, h1, _, h3⟩ := ha hne
      exact ⟨ad, h1, notOwn0 _, h3⟩
    · exact (hr i x j c hi hj).flat (flatL_get (hx x (List.mem_of_getElem? hi)) c (List.mem_of_getElem? hj))
/-- What a slice's cells hold. -/
theorem sl_cells {sz : Nat} {xs : List V} {v : Value} (h : Rep w β H (.sl sz xs) v) : ∃ (a : Option Addr) (cap : Nat), v = .slice a xs.length cap ∧ xs.length ≤ cap ∧ cap ≤ maxLen ∧
    (xs ≠ [] → ∃ ad, a = some ad ∧ ad.block < w.heap.size ∧ ∀ (i : Nat) (x : V) (j : Nat) (c : V), xs[i]? = some x → x.cells[j]? = some c → ∃ u, w.cell? (ad.add (i * sz + j)) = some u ∧ Rep w β H c u) := by
  cases h with
  | sl _ _ a cap vals hcap hmax hsz ha hr =>
    refine ⟨a, cap, rfl, hcap, hmax, fun hne => ?_⟩
    obtain ⟨ad, h1, _, h3, h4⟩ := ha hne
    refine ⟨ad, h1, h3, fun i x j c hi hj => ⟨_, h4 _ ?_, hr i x j c hi hj⟩⟩
    have h5 : i < xs.length := lt_of_get hi
    have h6 : j < sz := by rw [← (hsz x (List.mem_of_getElem? hi)).1]; exact lt_of_get hj
    have : (i + 1) * sz ≤ xs.length * sz := Nat.mul_le_mul_right sz h5
    rw [Nat.succ_mul] at this
    omega

theorem calls_of_pureQ {f : FuncId} {args : List V} {vals : Array Value} {Q : V → Prop} {c : Value} (h : Pure P f args Q) (hc : ∀ (x : V) (v : Value) (w' : World) (β' : Nat → Loc) (H' : Heap), Q x → Rep w' β' H' x v → v = c) (hp : V.pureL args = true) (hl : args.length = vals.size)
    (hr : ∀ (j : Nat) (x : V) (v : Value), args[j]? = some x → vals[j]? = some v → Rep w β H x v) : Calls P f vals w fun e w' => e = .returned c ∧ RowKit.Below w.heap.size w w' := by
  intro cs
  obtain ⟨x, v, w', β', H', fr, hq, _, k3, hb, k4, k5, k6⟩ := pure_still h hp cs hl hr
  have hv := hc x v _ _ _ hq k3
  subst hv
  exact ⟨.returned v, w', fr, ⟨rfl, hb⟩, k4, k5, k6⟩

end
end Bow
/- AE41: shifts to the right; a string's comparison. -/
namespace Bow
open Go

section
variable {c : Cx} {E : Env} {T : Heap} {ops : Array Oper} {i : Nat} {rest : List Nat} {k : List Item} {o : Oper}
theorem goes_shr {t t' : TypeId} {x y : Operand} {ik yk : IntKind} {a b : Int} (n : Nat) (ho : lget ops.toList i = some o) (hg : o.guard = none) (hop : o.op = .binOp .shr t x y t') (hx : opd E x = .int ik a) (hy : opd E y = .int yk b) (hb : 0 ≤ b)
    (h : putE c.nt o.dst (.int ik (a / 2 ^ min b.toNat ik.bits)) E False fun E' => evp c n (.inRegion ops rest :: k) E' T) : Goes c (.inRegion ops (i :: rest) :: k) E T := by
  refine goes_opTo n ho hg hop (fun o hop w β H m a hs => ?_) (fun cl h => by cases h) h
  have e1 := rep_int (by have := opd_rep hs x; rwa [hx] at this)
  have e2 := rep_int (by have := opd_rep hs y; rwa [hy] at this)
  refine ⟨_, _, w, β, H, m, ?_, .inl rfl, hs, Fr.refl w β H, .int _ _, List.prefix_refl m⟩
  simp only [execOp, hop, e1, e2, eqGuard, binOp, shift_shr_any _ _ _ _ hb]
  rfl
/-- A nil slice in a box, as own memory. -/
theorem goes_ownBox {todo : List Item} (kb sz : Nat) (hk : lget T kb = some (some (.box [.nilsl]))) (h : Goes c todo E (List.set (T ++ [some (HObj.vec 0 sz [])]) kb (some (HObj.box [.osl (.loc T.length) 0 0 0])))) : Goes c todo E T := by
  rw [lget_eq] at hk
  refine goes_step fun w β H m a b cs0 hs _ _ _ => ?_
  obtain ⟨β', H', k1, k2, k3⟩ := hs.newNil 0 sz none
  have hk2 : (T ++ [some (HObj.vec 0 sz [])])[kb]? = some (some (.box [.nilsl])) := by rw [List.getElem?_append_left (lt_of_get hk)]; exact hk
  obtain ⟨r, hr, hH⟩ := k1.at hk2
  have hob := k1.hrel.obj r _ hH
  have hfr : Fr w β' H' w β' (H'.set r (some ((HObj.box [.osl (.loc T.length) 0 0 0]).conv (m ++ [H.length])))) := Fr.swap hH trivial
  have hrel : HRel w β' (H'.set r (some ((HObj.box [.osl (.loc T.length) 0 0 0]).conv (m ++ [H.length])))) := by
    refine k1.hrel.swap hH trivial ?_
    simp only [HObj.conv]
    cases hβ : β' r with
    | none => trivial
    | nil => rw [hβ] at hob; exact hob
    | blk bb N =>
      rw [hβ] at hob
      obtain ⟨vs, e, q1, q2, q3, q4⟩ := hob
      refine ⟨vs, e, q1, q2, q3, fun i x v hi hv => ?_⟩
      cases i with
      | succ i => simp [V.convL] at hi
      | zero =>
        have h0 := q4 0 .nilsl v rfl hv
        cases h0
        simp only [V.convL] at hi
        injection hi with hi
        subst hi
        exact k3.mono (by rw [← HObj.conv]; exact hfr)
  have hset := k1.setAt (o' := some (.box [.osl (.loc T.length) 0 0 0])) (w' := w) hr (fun o1 e1 => by
      injection e1 with e1
      subst e1
      have hm := hs.mlen
      exact ⟨by show T.length < (m ++ [H.length]).length; simp only [List.length_append, List.length_singleton]; have : m.length = T.length := hm; omega, trivial⟩)
    (fun hm => absurd hm (k1.notD hk2 (by simp))) hfr hrel
  exact ⟨w, β', _, m ++ [H.length], a, todo, ⟨E, _, c.B, c.D⟩, .refl _ _, hset, k2.trans hfr, h⟩
/-- A slot's value, said less closely. -/
theorem goes_wkSlot {todo : List Item} (t : Nat) {v v' : V} (hx : lk E t = v) (hp : v.pureB = true) (hp' : v'.pureB = true) (hw : Wk v v') (h : Goes c todo ((t, v') :: E) T) : Goes c todo E T := by
  refine goes_step fun w β H m a b cs hs _ _ _ => ?_
  have hr := hs.env t
  rw [hx, pure_conv _ _ hp] at hr
  have hr' := hw w β H _ hr
  exact ⟨w, β, H, m, a, todo, ⟨_, _, c.B, c.D⟩, .refl _ _, hs.know (x := v') (by rw [pure_conv _ _ hp']; exact hr'), Fr.refl w β H, h⟩
/-- An own slice, frozen, as one slot holds it; what else names it is of no use from here on. -/
theorem goes_fzSlot {todo : List Item} (t kn : Nat) {g l sz : Nat} {xs : List V} (hx : lk E t = .osl (.loc kn) g 0 l) (hk : lget T kn = some (some (.vec g sz xs))) (hl : l = xs.length) (h : lset T kn none fun T' => Goes c todo ((t, .sl sz xs) :: E) T') : Goes c todo E T := by
  rw [lset_eq] at h
  have hfz : frzAll [lk E t] T False fun vs T' => vs = [.sl sz xs] ∧ T' = T.set kn none := by
    rw [hx]
    simp only [frzAll, fv_eq, frz, frz1, hk, lset_eq]
    exact ⟨trivial, hl, trivial, trivial⟩
  rcases frzAll_sound (F := False) _ _ _ hfz with h' | ⟨vs', T', ⟨rfl, rfl⟩, hto⟩
  · exact h'.elim
  refine goes_step fun w β H m a b cs hs _ _ _ => ?_
  obtain ⟨H1, q1, q2, q3⟩ := hto.2 _ _ _ _ _ _ _ _ _ _ hs
  have hr := q3 0 _ _ _ rfl rfl (hs.env t)
  exact ⟨w, β, H1, m, a, todo, ⟨_, _, c.B, c.D⟩, .refl _ _, q1.know (x := .sl sz xs) (show Rep w β H1 ((V.sl sz xs).conv m) _ from hr), q2, h⟩
end
end Bow
/- AE42: nil in a row of cells as own memory; own slices cut ahead; a pointer into own memory is not nil. -/
namespace Bow
open Go

section
variable {c : Cx} {E : Env} {T : Heap} {ops : Array Oper} {i : Nat} {rest : List Nat} {k : List Item} {o : Oper}
end

end Bow
/- W1: plain: nodes. -/
namespace Bow
open Go Go.Proofs

set_option maxRecDepth 100000 in
theorem w_walk (t : Tree) : ∀ (d : Int) (m : List Nat) (r kl : Nat) (T T' : Heap) (b : Bool), 0 ≤ d → d + t.size ≤ 1000000000 → Rounds Tryz.prog kl ((t.pre d).map preV) T T' b → m[kl]? = some r →
    FunB Tryz.prog 161 m T [nodeV t, .int .i64 d, .yld (.abs r)] (fun x T'' => x = (if b then .tt else .ff) ∧ T'' = T') := by
  induction t using Tree.ind with
  | _ t ih =>
    intro d m r kl T T' b hd0 hd hR hr
    refine funB_of_goes 100 Tryz.func161 rfl rfl rfl fun B hout => ?_
    show Goes _ _ _ _
    rw [pre_eq] at hR
    have hlp : ∃ ob, T[kl]? = some (some ob) ∧ isLoop ob := by cases hR <;> assumption
    obtain ⟨T1, b1, hy, hk⟩ : ∃ T1 b1, YieldOk Tryz.prog T kl (preV (d, t)) b1 T1 ∧ ((b1 = true ∧ Rounds Tryz.prog kl ((pres (d + 1) t.subs).map preV) T1 T' b) ∨ (b1 = false ∧ T' = T1 ∧ b = false)) := by
      cases hR with
      | go hl h k => exact ⟨_, _, h, .inl ⟨rfl, k⟩⟩
      | stop hl h => exact ⟨_, _, h, .inr ⟨rfl, rfl, rfl⟩⟩
    refine goes_yield 100 rfl rfl rfl rfl rfl hout hr hlp rfl hy ?_
    intro B' hout' hB'
    rcases hk with ⟨rfl, hk⟩ | ⟨rfl, rfl, rfl⟩
    · show Goes _ _ _ _
      refine goes_iterB (ι := Nat × Heap) (fun i B1 => i.1 ≤ t.subs.length ∧ Rounds Tryz.prog kl ((pres (d + 1) (t.subs.drop i.1)).map preV) i.2 T' b ∧ Out m i.2 B1 ∧ ∀ q, q ∉ m → B1 q = B q) (fun i => t.subs.length - i.1)
        (fun i => [(17, .int .i64 i.1), (16, .int .i64 t.subV.length), (15, .sl 6 t.subV), (1, .int .i64 d), (2, .yld (.abs r))]) (fun _ => []) (0, T1) 100 (fun _ => rfl) (fun _ => rfl) ⟨?_, ?_, ?_⟩ ?_
      · exact ⟨Nat.zero_le _, hk, hout', hB'⟩
      · exact ⟨⟨rfl, rfl⟩, ⟨rfl, rfl⟩, ⟨rfl, rfl⟩, ⟨rfl, rfl⟩, ⟨rfl, rfl⟩, trivial⟩
      · trivial
      · rintro ⟨i, Ti⟩ B1 ⟨h1, h2, h3, h4⟩ next
        refine ⟨fun hlt => go 200 ?_, fun hge => go 200 ?_⟩
        · have hi : i < t.subs.length := by simpa [subV_eq] using hlt
          have hpre : (pres (d + 1) (t.subs.drop i)).map preV = ((t.subs[i]).pre (d + 1)).map preV ++ (pres (d + 1) (t.subs.drop (i + 1))).map preV := by
            rw [drop_cons hi, pres, List.map_append]
          rw [hpre] at h2
          obtain ⟨T2, b2, k1, k2⟩ := h2.cut
          have hmem : t.subs[i] ∈ t.subs := List.getElem_mem hi
          have hsz := Tree.size_sub hmem
          refine ⟨Int.natCast_nonneg i, nodeV t.subs[i], by simp [subV_eq, hi], ?_⟩
          refine ⟨by constructor <;> omega, ?_⟩
          show CallThen _ _ _ _ _ _
          refine call_funB (ih _ hmem (d + 1) m r kl Ti T2 b2 (by omega) (by omega) k1 hr) rfl h3 rfl ?_
          rintro x T3 B3 ⟨rfl, rfl⟩ _ hout3 hB3
          rcases k2 with ⟨rfl, k2⟩ | ⟨rfl, rfl, rfl⟩
          · have := size_eq t
            have := length_sizes t.subs
            refine ⟨by constructor <;> omega, ?_⟩
            show Goes _ _ _ _
            refine next (i + 1, T3) B3 _ _ ⟨⟨?_, ?_, ?_, ?_⟩, ?_, ?_, ?_⟩
            · simp only; omega
            · exact k2
            · exact hout3
            · exact fun q hq => (hB3 q hq).trans (h4 q hq)
            · simp only; omega
            · exact ⟨⟨rfl, rfl⟩, ⟨rfl, rfl⟩, ⟨rfl, rfl⟩, ⟨rfl, rfl⟩, ⟨rfl, rfl⟩, trivial⟩
            · trivial
          · exact ⟨trivial, rfl, fun q hq => (hB3 q hq).trans (h4 q hq), _, hout3, rfl, rfl, rfl⟩
        · have hi : t.subs.length ≤ i := by simpa [subV_eq] using hge
          rw [List.drop_eq_nil_of_le hi] at h2
          cases h2
          exact ⟨trivial, rfl, h4, Ti, h3, rfl, rfl, rfl⟩
    · exact ⟨trivial, rfl, hB', _, hout', rfl, rfl, rfl⟩

theorem w_iter (t : Tree) (h : t.size ≤ 1000000000) : Iter Tryz.prog 160 [] [.iptr (nodeV t).cells 0] ((t.pre 0).map preV) := by
  intro m r kl T T' b hR hr
  refine funB_of_goes 100 Tryz.func160 rfl rfl rfl fun B hout => ?_
  show CallThen _ _ _ _ _ _
  refine call_funB (w_walk t 0 m r kl T T' b (by omega) (by omega) hR hr) rfl hout rfl ?_
  rintro x T3 B3 ⟨rfl, rfl⟩ _ hout3 hB3
  exact ⟨trivial, rfl, hB3, _, hout3, rfl, rfl⟩

theorem w_nodes (t : Tree) : Pure Tryz.prog 108 [nodeV t] (fun x => x = .fn (.func 160) [] [.iptr (nodeV t).cells 0]) := by
  refine pure_fn_frz [0] 100 Tryz.func108 rfl rfl rfl fun B => ?_
  exact ⟨trivial, rfl, rfl, rfl, rfl, rfl⟩

theorem foldl_count {α : Type} : ∀ (l : List α) (n : Nat), l.foldl (fun c _ => c + 1) n = n + l.length
  | [], n => by simp
  | a :: l, n => by rw [List.foldl_cons, foldl_count l]; simp; omega

set_option maxRecDepth 100000 in
theorem w_Count (t : Tree) (h : t.size ≤ 1000000000) : Pure Tryz.prog 58 [nodeV t] (fun x => x = .int .i64 (t.pre 0).length) := by
  refine pure_fn 100 Tryz.func58 rfl rfl rfl fun B => ?_
  show CallThen _ _ _ _ _ _
  refine call_pure (w_nodes t) rfl ?_
  rintro x rfl
  show Goes _ _ _ _
  refine goes_range_all (σ := Nat) 100 2 (fun c => [some (.box (nodeV t).cells), some (.box [.int .i64 c])]) (fun c _ => c + 1) preV (fun c l => c + l.length ≤ 1000000000) 0 (t.pre 0) rfl rfl rfl (w_iter t h) rfl (fun _ => rfl) (fun _ => rfl) (fun _ => rfl) rfl (fun _ => rfl) (fun _ _ h => by cases h) ?_ ?_ ?_
  · have := pre_length t 0
    omega
  · intro s a l hI
    simp only [List.length_cons] at hI
    refine ⟨by omega, fun imps B r l h1 h2 => ?_⟩
    show Goes _ _ _ _
    refine goes_beginRound 100 rfl h2 rfl ?_
    refine ⟨by constructor <;> omega, rfl, rfl, trivial, ?_⟩
    exact ⟨⟨rfl, rfl⟩, ⟨rfl, rfl⟩, ⟨rfl, rfl⟩, ⟨rfl, rfl⟩, trivial⟩
  · intro s hs
    refine ⟨trivial, rfl, rfl, rfl, ?_⟩
    rw [hs, foldl_count]
    simp
    rfl
end Bow
/- W2: trees measured. -/
namespace Bow
open Go Go.Proofs

/-- The text of a node: its attributes' part is summed up round by round. -/
theorem attrLen_drop {l : List (List UInt8 × List UInt8)} {i : Nat} (h : i < l.length) : attrLen (l.drop i) = l[i].1.length + l[i].2.length + attrLen (l.drop (i + 1)) := by rw [drop_cons h, attrLen_cons]

end Bow
/- W3: trees measured, more. -/
namespace Bow
open Go Go.Proofs

set_option maxRecDepth 100000 in
theorem w_refLong (t : Tree) : t.weight ≤ 1000000 → Pure Tryz.prog 50 [nodeV t] (fun x => x = .int .i64 t.long) := by
  induction t using Tree.ind with
  | _ t ih =>
    intro h
    have hw := weight_eq t
    refine pure_fn 100 Tryz.func50 rfl rfl rfl fun B => ?_
    show Goes _ _ _ _
    refine goes_iter (ι := Nat × Nat) (fun i => i.1 ≤ t.attrs.length ∧ i.2 + attrLen (t.attrs.drop i.1) = t.len) (fun i => t.attrs.length - i.1) (fun i => [(4, .int .i64 i.1), (3, .int .i64 i.2), (1, .ptr (.loc 0) 0)]) (fun i => [some (.box (nodeV t).cells)]) (0, t.text.length) 200 (fun _ => rfl) (fun _ => rfl) ⟨?_, ?_, ?_⟩ ?_
    · exact ⟨Nat.zero_le _, rfl⟩
    · exact ⟨⟨rfl, rfl⟩, ⟨rfl, rfl⟩, ⟨rfl, rfl⟩, trivial⟩
    · exact ⟨⟨rfl, rfl⟩, trivial⟩
    · rintro ⟨i, acc⟩ ⟨h1, h2⟩ next
      have hlen := len_le_weight t
      refine ⟨fun hlt => go 200 ?_, fun hge => go 200 ?_⟩
      · have hi : i < t.attrs.length := by simpa using hlt
        simp only [attrLen_drop hi] at h2
        show Goes _ _ _ _
        refine goes_draw 300 ?_
        have hix : (t.attrs.map attrV)[i]? = some (attrV t.attrs[i]) := by simp [hi]
        refine ⟨Int.natCast_nonneg i, attrV t.attrs[i], hix, ?_⟩
        refine ⟨by constructor <;> omega, ?_⟩
        refine ⟨Int.natCast_nonneg i, attrV t.attrs[i], hix, ?_⟩
        refine ⟨by constructor <;> omega, ?_⟩
        refine ⟨by kernel_rfl, ?_⟩
        refine ⟨by constructor <;> omega, ?_⟩
        show Goes _ _ _ _
        refine next (i + 1, acc + t.attrs[i].1.length + t.attrs[i].2.length) _ _ ⟨⟨hi, by simp only; omega⟩, ?_, ?_, ?_⟩
        · simp only; omega
        · exact ⟨⟨rfl, rfl⟩, ⟨rfl, rfl⟩, ⟨rfl, rfl⟩, trivial⟩
        · exact ⟨⟨rfl, rfl⟩, trivial⟩
      · have hi : t.attrs.length ≤ i := by simpa using hge
        simp only [List.drop_eq_nil_of_le hi, attrLen, List.foldr_nil, Nat.add_zero] at h2
        show Goes _ _ _ _
        refine goes_iter (ι := Nat × Nat) (fun i => i.1 ≤ t.subs.length ∧ max i.2 (longs (t.subs.drop i.1)) = t.long) (fun i => t.subs.length - i.1) (fun i => [(5, .int .i64 i.1), (3, .int .i64 i.2), (1, .ptr (.loc 0) 0)]) (fun i => [some (.box (nodeV t).cells)]) (0, t.len) 200 (fun _ => rfl) (fun _ => rfl) ⟨?_, ?_, ?_⟩ ?_
        · exact ⟨Nat.zero_le _, by rw [long_eq t]; simp⟩
        · exact ⟨⟨rfl, rfl⟩, ⟨by rw [← h2]; rfl, rfl⟩, ⟨rfl, rfl⟩, trivial⟩
        · exact ⟨⟨rfl, rfl⟩, trivial⟩
        · rintro ⟨i, acc⟩ ⟨h1, h2⟩ next
          refine ⟨fun hlt => go 200 ?_, fun hge => go 200 ?_⟩
          · have hi : i < t.subs.length := by simpa [subV_eq] using hlt
            have hmem : t.subs[i] ∈ t.subs := List.getElem_mem hi
            have hws := weight_sub hmem
            have hst := size_le_weight t
            simp only [drop_cons hi, longs] at h2
            refine ⟨Int.natCast_nonneg i, nodeV t.subs[i], by simp [subV_eq, hi], ?_⟩
            show CallThen _ _ _ _ _ _
            refine call_pure (ih _ hmem (by omega)) rfl ?_
            rintro x rfl
            have := length_sizes t.subs
            have := sizes_le_weights t.subs
            refine ⟨by constructor <;> omega, ?_⟩
            show Goes _ _ _ _
            have e : (if ((t.subs[i]).long : Int) > (acc : Int) then ((t.subs[i]).long : Int) else (acc : Int)) = ((max acc (t.subs[i]).long : Nat) : Int) := by split <;> omega
            refine next (i + 1, max acc (t.subs[i]).long) _ _ ⟨⟨hi, by simp only; omega⟩, ?_, ?_, ?_⟩
            · simp only; omega
            · exact ⟨⟨rfl, rfl⟩, ⟨by rw [← e]; rfl, rfl⟩, ⟨rfl, rfl⟩, trivial⟩
            · exact ⟨⟨rfl, rfl⟩, trivial⟩
          · have hi : t.subs.length ≤ i := by simpa [subV_eq] using hge
            simp only [List.drop_eq_nil_of_le hi, longs, Nat.max_zero] at h2
            exact ⟨trivial, rfl, rfl, rfl, by rw [← h2]; rfl⟩

end Bow
/- W4: Weight. -/
namespace Bow
open Go Go.Proofs

theorem not_lt_of {a b : Int} (h : decide (a < b) = false) : b ≤ a := by simpa using h
theorem lt_of {a b : Int} (h : decide (a < b) = true) : a < b := by simpa using h
theorem le_of {a b : Int} (h : decide (a ≤ b) = true) : a ≤ b := by simpa using h
theorem not_le_of {a b : Int} (h : decide (a ≤ b) = false) : b < a := by simpa using h
theorem eq_of {a b : Int} (h : decide (a = b) = true) : a = b := by simpa using h
theorem ne_of {a b : Int} (h : decide (a = b) = false) : a ≠ b := by simpa using h
theorem ne_of' {a b : Int} (h : (!decide (a = b)) = true) : a ≠ b := by simpa using h
theorem eq_of' {a b : Int} (h : (!decide (a = b)) = false) : a = b := by simpa using h

set_option maxRecDepth 100000 in
theorem w_Weight (t : Tree) : ∀ top : Nat, top ≤ 1000000 → Pure Tryz.prog 42 [nodeV t, .int .i64 top] (fun x => ∃ w : Nat, x = .int .i64 w ∧ 1 ≤ w ∧ w ≤ 4 * top + 4 ∧ (w ≤ top → t.weight ≤ w)) := by
  induction t using Tree.ind with
  | _ t ih =>
    intro top htop
    have hw := weight_eq t
    refine pure_fn 200 Tryz.func42 rfl rfl rfl fun B => ?_
    have early : ∃ w : Nat, V.int .i64 ((top : Int) + 1) = .int .i64 w ∧ 1 ≤ w ∧ w ≤ 4 * top + 4 ∧ (w ≤ top → t.weight ≤ w) := ⟨top + 1, rfl, by omega, by omega, fun h => by omega⟩
    have hin : inI ((top : Int) + 1) := by constructor <;> omega
    refine ⟨fun g1 => go 200 ?_, fun g1 => go 200 ?_⟩
    · exact ⟨hin, trivial, rfl, rfl, rfl, early⟩
    refine ⟨fun g2 => go 200 ?_, fun g2 => go 200 ?_⟩
    · exact ⟨hin, trivial, rfl, rfl, rfl, early⟩
    refine ⟨fun g3 => go 200 ?_, fun g3 => go 200 ?_⟩
    · exact ⟨hin, trivial, rfl, rfl, rfl, early⟩
    have g1 := not_lt_of g1
    have g2 := not_lt_of g2
    have g3 := not_lt_of g3
    simp only [List.length_map] at g3
    refine ⟨by constructor <;> omega, by constructor <;> omega, ?_⟩
    show Goes _ _ _ _
    refine goes_while (ι := Nat × Nat) (fun i => i.1 ≤ t.attrs.length ∧ 1 ≤ i.2 ∧ i.2 ≤ 3 * top + 1 ∧ (i.2 ≤ top → 1 + t.label.length + t.text.length + (t.attrs.length + attrLen t.attrs) ≤ i.2 + (t.attrs.length - i.1) + attrLen (t.attrs.drop i.1))) (fun i => t.attrs.length - i.1)
      (fun i => [(6, .int .i64 i.1), (5, .int .i64 i.2), (1, .int .i64 top), (2, .ptr (.loc 0) 0)]) (fun i => [some (.box (nodeV t).cells)]) (0, 1 + t.label.length + t.text.length)
      (fun w : Nat => 1 ≤ w ∧ w ≤ 3 * top + 1 ∧ (w ≤ top → 1 + t.label.length + t.text.length + (t.attrs.length + attrLen t.attrs) ≤ w)) (fun w => [(5, .int .i64 w), (1, .int .i64 top), (2, .ptr (.loc 0) 0)]) (fun _ => [some (.box (nodeV t).cells)])
      200 (fun _ => rfl) (fun _ => rfl) (fun _ => rfl) (fun _ => rfl) ⟨?_, ?_, ?_⟩ ?_ ?_
    · exact ⟨Nat.zero_le _, by simp only; omega, by simp only; omega, fun _ => by simp only [List.drop_zero]; omega⟩
    · exact ⟨⟨rfl, rfl⟩, ⟨by simp only [lk]; rfl, rfl⟩, ⟨rfl, rfl⟩, ⟨rfl, rfl⟩, trivial⟩
    · exact ⟨⟨rfl, rfl⟩, trivial⟩
    · -- the nodes below
      rintro w0 ⟨q1, q2, q3⟩
      show Goes _ _ _ _
      refine goes_iter (ι := Nat × Nat) (fun i => i.1 ≤ t.subs.length ∧ i.1 + 1 ≤ i.2 ∧ i.2 ≤ 4 * top + 4 ∧ (i.2 ≤ top → t.weight ≤ i.2 + weights (t.subs.drop i.1))) (fun i => t.subs.length - i.1)
        (fun i => [(7, .int .i64 i.1), (5, .int .i64 i.2), (1, .int .i64 top), (2, .ptr (.loc 0) 0)]) (fun i => [some (.box (nodeV t).cells)]) (0, w0) 200 (fun _ => rfl) (fun _ => rfl) ⟨?_, ?_, ?_⟩ ?_
      · exact ⟨Nat.zero_le _, by simpa using q1, by simp only; omega, fun h => by simp only [List.drop_zero]; simp only at h; have := q3 h; omega⟩
      · exact ⟨⟨rfl, rfl⟩, ⟨rfl, rfl⟩, ⟨rfl, rfl⟩, ⟨rfl, rfl⟩, trivial⟩
      · exact ⟨⟨rfl, rfl⟩, trivial⟩
      · rintro ⟨i, w⟩ ⟨k1, k2, k3, k4⟩ next
        simp only at k1 k2 k3 k4
        refine ⟨fun hlt => go 200 ?_, fun hge => go 200 ?_⟩
        · have hi : i < t.subs.length := by simpa [subV_eq] using hlt
          have hmem : t.subs[i] ∈ t.subs := List.getElem_mem hi
          have hx : t.subV[i]? = some (nodeV t.subs[i]) := by simp [subV_eq, hi]
          refine ⟨fun h5 => go 200 ?_, fun h5 => go 200 ?_⟩
          · have h5 : (w : Int) ≤ top := le_of h5
            have h5' : w ≤ top := by omega
            rw [drop_cons hi, weights_cons] at k4
            refine ⟨Int.natCast_nonneg i, nodeV t.subs[i], hx, ?_⟩
            refine ⟨by constructor <;> omega, ?_⟩
            show CallThen _ _ _ _ _ _
            have hsub : (top : Int) - w = ((top - w : Nat) : Int) := by omega
            rw [hsub]
            refine call_pure (ih _ hmem (top - w) (by omega)) rfl ?_
            rintro x ⟨v, rfl, v0, v1, v2⟩
            refine ⟨by constructor <;> omega, ?_⟩
            refine ⟨by constructor <;> omega, ?_⟩
            show Goes _ _ _ _
            refine next (i + 1, w + v) _ _ ⟨⟨hi, by simp only; omega, by simp only; omega, fun h => ?_⟩, ?_, ?_, ?_⟩
            · have h : w + v ≤ top := h
              have := v2 (by omega)
              have := k4 h5'
              simp only
              omega
            · simp only; omega
            · exact ⟨⟨rfl, rfl⟩, ⟨rfl, rfl⟩, ⟨rfl, rfl⟩, ⟨rfl, rfl⟩, trivial⟩
            · exact ⟨⟨rfl, rfl⟩, trivial⟩
          · have h5 : ¬ (w : Int) ≤ top := by simpa using h5
            exact ⟨trivial, rfl, rfl, rfl, w, rfl, by omega, k3, fun h => by omega⟩
        · have hi : t.subs.length ≤ i := by simpa [subV_eq] using hge
          rw [List.drop_eq_nil_of_le hi, weights, Nat.add_zero] at k4
          exact ⟨trivial, rfl, rfl, rfl, w, rfl, by omega, k3, k4⟩
    · rintro ⟨i, w⟩ ⟨k1, k2, k3, k4⟩ next leave
      simp only at k1 k2 k3 k4
      refine ⟨fun hlt => go 200 ?_, fun hge => go 200 ?_⟩
      · have hi : i < t.attrs.length := by simpa using hlt
        have hix : (t.attrs.map attrV)[i]? = some (attrV t.attrs[i]) := by simp [hi]
        refine ⟨fun h5 => go 200 ?_, fun h5 => go 200 ?_⟩
        · have h5 := le_of h5
          rw [attrLen_drop hi] at k4
          refine ⟨Int.natCast_nonneg i, attrV t.attrs[i], hix, ?_⟩
          refine ⟨fun h6 => go 200 ?_, fun h6 => go 200 ?_⟩
          · exact ⟨hin, trivial, rfl, rfl, rfl, early⟩
          refine ⟨Int.natCast_nonneg i, attrV t.attrs[i], hix, ?_⟩
          refine ⟨fun h7 => go 200 ?_, fun h7 => go 200 ?_⟩
          · exact ⟨hin, trivial, rfl, rfl, rfl, early⟩
          have h6 := not_lt_of h6
          have h7 := not_lt_of h7
          show Goes _ _ _ _
          refine goes_draw 300 ?_
          refine ⟨by constructor <;> omega, ?_⟩
          refine ⟨Int.natCast_nonneg i, attrV t.attrs[i], hix, ?_⟩
          refine ⟨by constructor <;> omega, ?_⟩
          refine ⟨Int.natCast_nonneg i, attrV t.attrs[i], hix, ?_⟩
          refine ⟨by constructor <;> omega, ?_⟩
          refine ⟨by kernel_rfl, ?_⟩
          refine ⟨by constructor <;> omega, ?_⟩
          show Goes _ _ _ _
          refine next (i + 1, w + 1 + t.attrs[i].1.length + t.attrs[i].2.length) _ _ ⟨⟨hi, ?_, ?_, ?_⟩, ?_, ?_, ?_⟩
          · simp only; omega
          · simp only; omega
          · simp only; omega
          · simp only; omega
          · exact ⟨⟨rfl, rfl⟩, ⟨rfl, rfl⟩, ⟨rfl, rfl⟩, ⟨rfl, rfl⟩, trivial⟩
          · exact ⟨⟨rfl, rfl⟩, trivial⟩
        · have h5 : ¬ (w : Int) ≤ top := by simpa using h5
          exact leave w _ _ _ rfl ⟨⟨k2, k3, fun h => by omega⟩, ⟨⟨rfl, rfl⟩, ⟨rfl, rfl⟩, ⟨rfl, rfl⟩, trivial⟩, ⟨⟨rfl, rfl⟩, trivial⟩⟩
      · have hi : t.attrs.length ≤ i := by simpa using hge
        simp only [List.drop_eq_nil_of_le hi, attrLen, List.foldr_nil] at k4
        exact leave w _ _ _ rfl ⟨⟨k2, k3, fun h => by have := k4 h; unfold attrLen; omega⟩, ⟨⟨rfl, rfl⟩, ⟨rfl, rfl⟩, ⟨rfl, rfl⟩, trivial⟩, ⟨⟨rfl, rfl⟩, trivial⟩⟩
end Bow
/- W5: limits.Check; the trees of the chapter's examples. -/
namespace Bow
open Go Go.Proofs

/-! ### The examples' trees -/
def zeroT (ss : List Tree) : Tree := .mk 0 false [] [] [] ss
/-- As a literal lays it: what it does not name is nil. -/
def zeroV (k : V) : V := .agg [.int .u64 0, .ff, .str [], .nilsl, .str [], k]
theorem wk_zero {k : V} {ss : List Tree} (h : Wk k (.sl 6 (ss.map nodeV))) : Wk (zeroV k) (nodeV (zeroT ss)) := by
  refine Wk.agg ⟨.refl _, Wk.ff, .refl _, Wk.nil 2, .refl _, ?_, trivial⟩
  rw [subV_eq]
  exact h
theorem okE_node (t : Tree) : okE 6 (nodeV t) := ⟨rfl, rfl⟩
end Bow
/- W6: which operations are formed. -/
namespace Bow
open Go Go.Proofs

theorem w_May1 (n : Int) : Pure Tryz.prog 163 [intV n] (fun x => x = .bool (!stepOk n)) := by
  refine pure_wk (pure_fn 100 Tryz.func163 rfl rfl rfl fun B => ?_)
  refine ⟨fun g1 => go 200 ?_, fun g1 => go 200 ?_⟩
  · have g1 := lt_of g1
    exact ⟨trivial, rfl, rfl, rfl, leaf_tt (by unfold stepOk; rw [decide_eq_false (by omega)]; rfl)⟩
  · have g1 := not_lt_of g1
    refine ⟨trivial, rfl, rfl, rfl, leaf_b ?_⟩
    unfold stepOk
    rw [decide_eq_true (p := 0 ≤ n) (by omega), Bool.true_and]
    by_cases h : n < 1048576
    · rw [decide_eq_true h, decide_eq_false (by omega)]; rfl
    · rw [decide_eq_false h, decide_eq_true (by omega)]; rfl

/-- The first place where a predicate holds, or -1. -/
def findIx (f : Int → Bool) : Nat → List Int → Int
  | _, [] => -1
  | i, x :: xs => bif f x then i else findIx f (i + 1) xs
theorem findIx_any (f : Int → Bool) : ∀ (xs : List Int) (i : Nat), decide (0 ≤ findIx f i xs) = xs.any f
  | [], i => by simp [findIx]
  | x :: xs, i => by
    rw [findIx, List.any_cons]
    cases h : f x with
    | true => simp
    | false => simpa using findIx_any f xs (i + 1)

set_option maxRecDepth 100000 in
theorem w_IndexInt (f : Int → Bool) (g : FuncId) (xs : List Int) (hl : xs.length ≤ 1000000) (hg : ∀ n, Pure Tryz.prog g [intV n] (fun x => x = .bool (f n))) :
    Pure Tryz.prog 201 [pathV xs, .fn (.func g) [] []] (fun x => x = .int .i64 (findIx f 0 xs)) := by
  refine pure_fn 100 Tryz.func201 rfl rfl rfl fun B => ?_
  show Goes _ _ _ _
  refine goes_iter (ι := Nat) (fun i => i ≤ xs.length ∧ findIx f i (xs.drop i) = findIx f 0 xs) (fun i => xs.length - i) (fun i => [(8, .int .i64 i), (7, .int .i64 (xs.map intV).length), (1, .fn (.func g) [] []), (0, pathV xs)]) (fun _ => []) 0 200 (fun _ => rfl) (fun _ => rfl) ⟨⟨Nat.zero_le _, rfl⟩, ?_, ?_⟩ ?_
  · exact ⟨⟨rfl, rfl⟩, ⟨rfl, rfl⟩, ⟨rfl, rfl⟩, ⟨rfl, rfl⟩, trivial⟩
  · trivial
  · rintro i ⟨h1, h2⟩ next
    refine ⟨fun hlt => go 200 ?_, fun hge => go 200 ?_⟩
    · have hi : i < xs.length := by simpa using hlt
      have hx : (xs.map intV)[i]? = some (intV xs[i]) := by simp [hi]
      rw [drop_cons hi, findIx] at h2
      refine ⟨Int.natCast_nonneg i, _, hx, ?_⟩
      show CallThen _ _ _ _ _ _
      refine call_pure (hg xs[i]) rfl ?_
      rintro x rfl
      refine ⟨fun h => go 200 ?_, fun h => go 200 ?_⟩
      · rw [h] at h2
        exact ⟨trivial, rfl, rfl, rfl, by rw [← h2]; rfl⟩
      · rw [h] at h2
        refine ⟨by constructor <;> omega, ?_⟩
        show Goes _ _ _ _
        exact next (i + 1) _ _ ⟨⟨hi, h2⟩, by omega, ⟨⟨rfl, rfl⟩, ⟨rfl, rfl⟩, ⟨rfl, rfl⟩, ⟨rfl, rfl⟩, trivial⟩, trivial⟩
    · have hi : xs.length ≤ i := by simpa using hge
      rw [List.drop_eq_nil_of_le hi] at h2
      exact ⟨trivial, rfl, rfl, rfl, by rw [← h2]; rfl⟩

theorem w_ContainsInt (f : Int → Bool) (g : FuncId) (xs : List Int) (hl : xs.length ≤ 1000000) (hg : ∀ n, Pure Tryz.prog g [intV n] (fun x => x = .bool (f n))) :
    Pure Tryz.prog 162 [pathV xs, .fn (.func g) [] []] (fun x => x = .bool (xs.any f)) := by
  refine pure_fn 100 Tryz.func162 rfl rfl rfl fun B => ?_
  show CallThen _ _ _ _ _ _
  refine call_pure (w_IndexInt f g xs hl hg) rfl ?_
  rintro x rfl
  exact ⟨trivial, rfl, rfl, rfl, by rw [← findIx_any f xs 0]; rfl⟩

theorem any_not_all (xs : List Int) : (xs.any fun n => !stepOk n) = !xs.all stepOk := by
  induction xs with
  | nil => rfl
  | cons x xs ih => simp [ih]

theorem w_May (p : List Int) : Pure Tryz.prog 111 [pathV p] (fun x => x = .bool (mayP p)) := by
  refine pure_wk (pure_fn 100 Tryz.func111 rfl rfl rfl fun B => ?_)
  refine ⟨fun g1 => go 200 ?_, fun g1 => go 200 ?_⟩
  · have g1 : p.length ≤ 64 := by have := le_of g1; simp at this; omega
    show CallThen _ _ _ _ _ _
    refine call_pure (w_ContainsInt (fun n => !stepOk n) _ p (by omega) w_May1) rfl ?_
    rintro x rfl
    exact ⟨trivial, rfl, rfl, rfl, leaf_b (by rw [any_not_all]; simp [mayP, g1])⟩
  · have g1 : 64 < p.length := by have := not_le_of g1; simp at this; omega
    exact ⟨trivial, rfl, rfl, rfl, leaf_ff (by unfold mayP; rw [decide_eq_false (by omega)]; rfl)⟩

theorem w_Key (s : List UInt8) : Pure Tryz.prog 112 [.str s] (fun x => x = .bool (keyOk s)) := by
  refine pure_wk (pure_fn 100 Tryz.func112 rfl rfl rfl fun B => ?_)
  refine ⟨fun g1 => go 200 ?_, fun g1 => go 200 ?_⟩
  · have g1 : s ≠ [] := by simpa using g1
    have : 0 < s.length := List.length_pos_iff.2 g1
    exact ⟨trivial, rfl, rfl, rfl, leaf_b (by unfold keyOk; rw [decide_eq_true (p := 1 ≤ s.length) (by omega), Bool.true_and]; simp; omega)⟩
  · have g1 : s = [] := by simpa using g1
    exact ⟨trivial, rfl, rfl, rfl, leaf_ff (by rw [g1]; rfl)⟩
theorem w_refKey (s : List UInt8) : Pure Tryz.prog 115 [.str s] (fun x => x = .bool (keyOk s)) := by
  refine pure_wk (pure_fn 100 Tryz.func115 rfl rfl rfl fun B => ?_)
  refine ⟨fun g1 => go 200 ?_, fun g1 => go 200 ?_⟩
  · have g1 : (1 : Int) ≤ s.length := by simpa using g1
    exact ⟨trivial, rfl, rfl, rfl, leaf_b (by unfold keyOk; rw [decide_eq_true (p := 1 ≤ s.length) (by omega), Bool.true_and]; simp; omega)⟩
  · have g1 : ¬ (1 : Int) ≤ s.length := by simpa using g1
    exact ⟨trivial, rfl, rfl, rfl, leaf_ff (by unfold keyOk; rw [decide_eq_false (p := 1 ≤ s.length) (by omega)]; rfl)⟩
end Bow
