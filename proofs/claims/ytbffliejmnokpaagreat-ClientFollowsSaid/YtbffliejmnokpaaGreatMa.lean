/- The library, part 1: AE1, AE2, AE3, AE4, AE5, AE6, AE7, AE8, AE9, AE10, AE11, AE12, AE13. -/
import Derived.Below
import Derived.AtR
import Derived.Laws.Rows
import Derived.Laws.Tables
import Derived.Laws.Entries
import Derived.Laws.CopyRow
import Derived.IntWalk
import Derived.Laws.Strings
import Derived.Laws.Strings2
import Derived.Laws.StructEq
import Derived.Laws.AppendOwn
import Derived.Great.BuildSlice
set_option maxRecDepth 100000
set_option maxHeartbeats 4000000
namespace Bow
open Go
section
variable {aa:Sort _} {a:aa} {bb:Sort _} {b:bb} {cc:Sort _} {c:cc} {dd:Sort _} {d:dd} {ee:Sort _} {e:ee} {ff:Sort _} {f:ff} {gg:Sort _} {g:gg} {hh:Sort _} {h:hh} {ii:Sort _} {i:ii} {jj:Sort _} {j:jj} {kk:Sort _} {k:kk} {ll:Sort _} {l:ll} {mm:Sort _} {m:mm} {nn:Sort _} {n:nn} {oo:Sort _} {o:oo} {pp:Sort _} {p:pp} {qq:Sort _} {q:qq} {rr:Sort _} {r:rr} {ss:Sort _} {s:ss} {tt:Sort _} {t:tt} {uu:Sort _} {u:uu} {vv:Sort _} {v:vv}
theorem Zq1:(a=a∧b=b)∧True:=⟨⟨rfl,rfl⟩,.intro⟩
theorem Zq2:(a=a∧b=b)∧(c=c∧d=d)∧True:=⟨⟨rfl,rfl⟩,Zq1⟩
theorem Zq3:(a=a∧b=b)∧(c=c∧d=d)∧(e=e∧f=f)∧True:=⟨⟨rfl,rfl⟩,Zq2⟩
theorem Zq4:(a=a∧b=b)∧(c=c∧d=d)∧(e=e∧f=f)∧(g=g∧h=h)∧True:=⟨⟨rfl,rfl⟩,Zq3⟩
theorem Zq5:(a=a∧b=b)∧(c=c∧d=d)∧(e=e∧f=f)∧(g=g∧h=h)∧(i=i∧j=j)∧True:=⟨⟨rfl,rfl⟩,Zq4⟩
theorem Zq6:(a=a∧b=b)∧(c=c∧d=d)∧(e=e∧f=f)∧(g=g∧h=h)∧(i=i∧j=j)∧(k=k∧l=l)∧True:=⟨⟨rfl,rfl⟩,Zq5⟩
theorem Zq7:(a=a∧b=b)∧(c=c∧d=d)∧(e=e∧f=f)∧(g=g∧h=h)∧(i=i∧j=j)∧(k=k∧l=l)∧(m=m∧n=n)∧True:=⟨⟨rfl,rfl⟩,Zq6⟩
theorem Zq8:(a=a∧b=b)∧(c=c∧d=d)∧(e=e∧f=f)∧(g=g∧h=h)∧(i=i∧j=j)∧(k=k∧l=l)∧(m=m∧n=n)∧(o=o∧p=p)∧True:=⟨⟨rfl,rfl⟩,Zq7⟩
theorem Zq9:(a=a∧b=b)∧(c=c∧d=d)∧(e=e∧f=f)∧(g=g∧h=h)∧(i=i∧j=j)∧(k=k∧l=l)∧(m=m∧n=n)∧(o=o∧p=p)∧(q=q∧r=r)∧True:=⟨⟨rfl,rfl⟩,Zq8⟩
theorem Zq10:(a=a∧b=b)∧(c=c∧d=d)∧(e=e∧f=f)∧(g=g∧h=h)∧(i=i∧j=j)∧(k=k∧l=l)∧(m=m∧n=n)∧(o=o∧p=p)∧(q=q∧r=r)∧(s=s∧t=t)∧True:=⟨⟨rfl,rfl⟩,Zq9⟩
theorem Zq11:(a=a∧b=b)∧(c=c∧d=d)∧(e=e∧f=f)∧(g=g∧h=h)∧(i=i∧j=j)∧(k=k∧l=l)∧(m=m∧n=n)∧(o=o∧p=p)∧(q=q∧r=r)∧(s=s∧t=t)∧(u=u∧v=v)∧True:=⟨⟨rfl,rfl⟩,Zq10⟩
end
set_option linter.defProp false
def Aq3:= @List.getElem?_eq_getElem
def Aq4:= @Nat.zero_le
def Aq5:= @Int.natCast_nonneg
def Aq6:= @Bool.and_eq_true
def Aq7:= @List.mem_of_getElem?
def Aq8:= @List.length_cons
def Aq9:= @List.getElem?_append_left
def Ara:= @Nat.le_refl
def Arb:= @List.length_append
def Arc:= @List.length_nil
def Ard:= @List.length_eq_zero_iff
def Are:= @List.mem_cons_of_mem
def Arf:= @List.length_map
def Arg:= @Nat.mul_le_mul_right
def Arh:= @List.getElem?_append_right
def Ari:= @List.mem_cons_self
def Arj:= @List.getElem?_set_ne
def Ark:= @Nat.le_trans
def Arl:= @List.mem_cons
def Arm:= @Bool.not_true
def Arn:= @Nat.eq_of_beq_eq_true
def Aro:= @List.drop_eq_nil_of_le
def Arp:= @Nat.le_of_ble_eq_true
def Arq:= @List.getElem_mem
def Arr:= @Int.le_refl
def Ars:= @List.take_of_length_le
def Art:= @List.mem_append_right
def Aru:= @List.drop_eq_getElem_cons
def Arv:= @List.getElem?_map
def Arw:= @List.length_pos_iff
def Arx:= @List.cons_append
def Ary:= @Nat.zero_add
def Arz:= @List.append_assoc
def Ar0:= @List.mem_append_left
def Ar1:= @List.length_take
def Ar2:= @List.getElem?_cons_zero
def Ar3:= @Nat.lt_or_ge
def Ar4:= @List.take_append_drop
def Ar5:= @List.mem_singleton
def Ar6:= @List.prefix_refl
def Ar7:= @List.getElem?_of_mem
def Ar8:= @List.getElem?_eq_some_iff
def Ar9:= @List.nil_append
def Asa:= @List.map_cons
def Asb:= @Bool.true_and
def Asc:= @List.append_nil
def Asd:= @Bool.eq_false_or_eq_true
def Ase:= @Array.getElem?_eq_getElem
def Asf:= @List.length_drop
def Asg:= @List.getD_eq_getElem?_getD
def Ash:= @Bool.not_false
def Asi:= @List.mem_append
def Asj:= @List.take_length
def Ask:= @List.take_succ_eq_append_getElem
def Asl:= @Nat.lt_of_lt_of_le
def Asm:= @Array.getElem?_toList
def Asn:= @Nat.add_mul
def Aso:= @Nat.ne_of_lt
def Asp:= @List.mem_of_mem_drop
def Asq:= @List.getElem?_eq_none
def Asr:= @List.map_append
def Ass:= @Array.getElem?_append_left
def Ast:= @Bool.and_self
def Asu:= @Option.map_eq_some_iff
def Asv:= @List.getElem?_take
def Asw:= @Bool.or_eq_false_iff
def Asx:= @List.getElem?_cons_succ
def Asy:= @Bool.false_and
def Asz:= @Array.getElem?_eq_some_iff
def As0:= @List.mem_of_mem_take
def As1:= @Nat.add_zero
def As2:= @List.eq_nil_of_length_eq_zero
def As3:= @List.getElem?_set
def As4:= @Array.length_toList
def As5:= @List.getElem?_set_self
def As6:= @List.nodup_iff_count
def As7:= @List.nodup_append
def As8:= @List.getElem?_drop
def As9:= @List.take_append_of_le_length
def Ata:= @List.mem_iff_getElem
def Atb:= @List.set_cons_succ
def Atc:= @Bool.false_ne_true
def Atd:= @List.nodup_cons
def Ate:= @List.map_nil
def Atf:= @Bool.true_eq_false
def Atg:= @List.dropLast_concat_getLast
def Ath:= @Option.getD_some
def Ati:= @List.all_eq_true
def Atj:= @List.map_congr_left
def Atk:= @List.map_take
def Atl:= @List.prefix_append
def Atm:= @List.drop_append_of_le_length
def Atn:= @Bool.not_eq_true'
def Ato:= @List.mem_map
def Atp:= @List.length_set
def Atq:= @Option.map_some
def Atr:= @Array.getD_eq_getD_getElem?
def Ats:= @Array.getElem?_append_right
def Att:= @Bool.not_not
def Atu:= @Bool.and_false
def Atv:= @Nat.min_eq_left
def Atw:= @List.mem_or_eq_of_mem_set
def Atx:= @List.getLast?_eq_some_getLast
def Aty:= @Nat.le_of_lt
def Atz:= @List.drop_zero
def At0:= @Bool.or_eq_true
def At1:= @Int.add_zero
def At2:= @List.length_eq_one_iff
def At3:= @List.map_drop
def At4:= @Nat.add_sub_cancel'
def At5:= @List.nodup_nil
def At6:= @List.dropLast_cons_of_ne_nil
def At7:= @Nat.lt_succ_self
def At8:= @Array.getElem?_extract
def At9:= @List.drop_of_length_le
def Aua:= @Nat.zero_mul
def Aub:= @Nat.sub_self
def Auc:= @Bool.or_self
def Aud:= @List.drop_drop
def Aue:= @List.foldr_nil
def Auf:= @Nat.add_comm
def Aug:= @List.eq_of_mem_replicate
def Auh:= @Nat.add_lt_add_iff_right
def Aui:= @List.drop_length
def Auj:= @Nat.add_sub_cancel_left
def Auk:= @Array.eq_empty_of_size_eq_zero
def Aul:= @Bool.not_eq_false'
def Aum:= @List.count_pos_iff
def Aun:= @Nat.ne_of_beq_eq_false
def Auo:= @Array.size_append
def Aup:= @Nat.lt_trichotomy
def Auq:= @List.count_append
def Aur:= @List.reverse_cons
def Aus:= @List.getElem?_toArray
def Aut:= @List.length_singleton
def Auu:= @Int.zero_add
def Auv:= @Nat.le_max_right
def Auw:= @List.isEmpty_iff
def Aux:= @Bool.false_or
def Auy:= @Nat.le_succ
def Auz:= @List.take_succ_cons
def Au0:= @List.drop_succ_cons
def Au1:= @List.length_reverse
def Au2:= @List.foldl_cons
def Au3:= @Nat.le_max_left
def Au4:= @Array.getElem?_map
def Au5:= @List.map_set
def Au6:= @List.set_cons_zero
def Au7:= @Nat.le_mul_of_pos_right
def Au8:= @List.flatMap_cons
def Au9:= @List.length_range
def Ava:= @List.foldl_append
def Avb:= @List.all_cons
def Avc:= @List.isEmpty_nil
def Avd:= @List.getLast_mem
def Ave:= @Array.getElem?_setIfInBounds_ne
def Avf:= @List.map_map
def Avg:= @Nat.le_of_eq
def Avh:= @Array.toArray_toList
def Avi:= @List.mem_filter
def Avj:= @List.count_cons
def Avk:= @List.take_take
def Avl:= @List.mem_range
def Avm:= @List.take_zero
def Avn:= @Nat.eq_zero_or_pos
def Avo:= @List.filter_filter
def Avp:= @List.count_eq_zero
def Avq:= @Nat.add_assoc
def Avr:= @Nat.add_mul_mod_self_right
def Avs:= @Bool.and_true
def Avt:= @Bool.or_false
def Avu:= @List.append_cancel_left_eq
def Avv:= @Bool.and_comm
def Avw:= @List.nodup_iff_pairwise_ne
def Avx:= @List.size_toArray
def Avy:= @List.pairwise_iff_getElem
def Avz:= @List.append_right_eq_self
def Av0:= @List.getLast?_eq_getElem?
def Av1:= @Nat.sub_zero
def Av2:= @Nat.mod_eq_of_lt
def Av3:= @Nat.beq_refl
def Av4:= @List.range'_succ
def Av5:= @List.not_mem_nil
def Av6:= @List.drop_left'
def Av7:= @List.getElem_cons_succ
def Av8:= @List.append_eq_nil_iff
def Av9:= @Nat.ble_eq_true_of_le
def Awa:= @List.length_replicate
def Awb:= @Bool.and_eq_false_iff
def Awc:= @List.set_getElem_self
def Awd:= @List.set_append_right
def Awe:= @List.dropLast_eq_take
def Awf:= @List.any_cons
def Awg:= @Nat.mul_comm
def Awh:= @List.set_set
inductive Ref where
 |loc (k:Nat)
 |abs (n:Nat)
 |bad
inductive V where
 |int (k:IntKind) (n:Int)
 |bool (b:Bool)
 |tt|ff
 |str (s:List UInt8)
 |sl (sz:Nat) (xs:List V)
 |nilsl
 |osl (r:Ref) (g off len:Nat)
 |iptr (cs:List V) (off:Nat)
 |ptr (r:Ref) (off:Nat)
 |eptr (r:Ref) (g i off:Nat)
 |nilp|nilf|nili
 |agg (cs:List V)
 |tup (vs:List V)
 |fn (f:Fn) (first cap:List V)
 |yld (r:Ref)
 |iface (t:TypeId) (v:V)
 |nilmap
 |undef
abbrev Env:=List (Nat×V)
inductive HObj where
 |box (cs:List V)
 |vec (g sz:Nat) (xs:List V)
 |loop (st:LoopState) (pend:Option Code) (fn:FuncId) (E:Env) (nt:Nat) (ps:Array Tmp) (assign body:Code)
 |dfr
 |held (s:Nat)
abbrev Heap:=List (Option HObj)
def V.cells:V->List V
 | .agg cs=>cs
 |v=>[v]
def V.one:V->Bool
 | .agg _=>false
 | .tup _=>false
 | .undef=>false
 |_=>true
def onesB:List V->Bool
 | []=>true
 |v::vs=>v.one&&onesB vs
theorem Ez: ∀vs:List V,onesB vs=true↔ ∀v∈vs,v.one=true
 | []=>by simp[onesB]
 |v::vs=>by simp[onesB,Ez vs]
def okE (sz:Nat)(x:V):Prop:=x.cells.length=sz∧onesB x.cells=true
def Ref.conv (m:List Nat):Ref->Ref
 | .loc k=>match m[k]? with
  |some r=>.abs r
  |none=>.bad
 | .abs n=>.abs n
 | .bad=>.bad
def Ref.sc (n:Nat):Ref->Prop
 | .loc k=>k<n
 |_=>True
theorem Ref.conv_ext {m l:List Nat}{n:Nat}(hn:n≤m.length): ∀r:Ref,r.sc n->r.conv (m++l)=r.conv m
 | .loc k,h=>by
  have h:k<n:=h;simp only[Ref.conv];rw[Aq9 (by omega)]
 | .abs _,_=>rfl
 | .bad,_=>rfl
mutual
def V.conv (m:List Nat):V->V
 | .osl r g o l=>.osl (r.conv m) g o l
 | .ptr r o=>.ptr (r.conv m) o
 | .eptr r g i o=>.eptr (r.conv m) g i o
 | .agg cs=>.agg (V.convL m cs)
 | .tup vs=>.tup (V.convL m vs)
 | .fn f a c=>.fn f (V.convL m a) (V.convL m c)
 | .yld r=>.yld (r.conv m)
 | .iface t v=>.iface t (v.conv m)
 | .int k n=>.int k n
 | .bool b=>.bool b
 | .tt=>.tt
 | .ff=>.ff
 | .str s=>.str s
 | .sl s xs=>.sl s xs
 | .nilsl=>.nilsl
 | .iptr cs o=>.iptr cs o
 | .nilp=>.nilp
 | .nilf=>.nilf
 | .nili=>.nili
 | .nilmap=>.nilmap
 | .undef=>.undef
def V.convL (m:List Nat):List V->List V
 | []=>[]
 |v::vs=>v.conv m::V.convL m vs
end
mutual
def V.sc (n:Nat):V->Prop
 | .osl r _ _ _=>r.sc n
 | .ptr r _=>r.sc n
 | .eptr r _ _ _=>r.sc n
 | .agg cs=>V.scL n cs
 | .tup vs=>V.scL n vs
 | .fn _ a c=>V.scL n a∧V.scL n c
 | .yld r=>r.sc n
 | .iface _ v=>v.sc n
 |_=>True
def V.scL (n:Nat):List V->Prop
 | []=>True
 |v::vs=>v.sc n∧V.scL n vs
end
theorem V.convL_eq (m:List Nat): ∀vs,V.convL m vs=vs.map (V.conv m)
 | []=>rfl
 |v::vs=>by rw[V.convL,V.convL_eq m vs];rfl
mutual
theorem V.conv_ext {m l:List Nat}{n:Nat}(hn:n≤m.length): ∀v:V,v.sc n->v.conv (m++l)=v.conv m
 | .osl r _ _ _,h=>by simp only[V.conv,r.conv_ext hn h]
 | .ptr r _,h=>by simp only[V.conv,r.conv_ext hn h]
 | .eptr r _ _ _,h=>by simp only[V.conv,r.conv_ext hn h]
 | .yld r,h=>by simp only[V.conv,r.conv_ext hn h]
 | .agg cs,h=>by simp only[V.conv,V.convL_ext hn cs h]
 | .tup cs,h=>by simp only[V.conv,V.convL_ext hn cs h]
 | .fn _ a c,h=>by simp only[V.conv,V.convL_ext hn a h.1,V.convL_ext hn c h.2]
 | .iface _ v,h=>by simp only[V.conv,v.conv_ext hn h]
 | .int ..,_| .bool _,_| .tt,_| .ff,_| .str _,_| .sl ..,_| .nilsl,_| .iptr ..,_| .nilp,_| .nilf,_| .nili,_| .nilmap,_| .undef,_=>rfl
theorem V.convL_ext {m l:List Nat}{n:Nat}(hn:n≤m.length): ∀vs:List V,V.scL n vs->V.convL (m++l) vs=V.convL m vs
 | [],_=>rfl
 |v::vs,h=>by simp only[V.convL,v.conv_ext hn h.1,V.convL_ext hn vs h.2]
end
mutual
theorem V.sc_mono {n n':Nat}(hn:n≤n'): ∀v:V,v.sc n->v.sc n'
 | .osl r _ _ _,h| .ptr r _,h| .eptr r _ _ _,h| .yld r,h=>by cases r<;>first|trivial|exact Asl h hn
 | .agg cs,h| .tup cs,h=>V.scL_mono hn cs h
 | .fn _ a c,h=>⟨V.scL_mono hn a h.1,V.scL_mono hn c h.2⟩
 | .iface _ v,h=>v.sc_mono hn h
 | .int ..,_| .bool _,_| .tt,_| .ff,_| .str _,_| .sl ..,_| .nilsl,_| .iptr ..,_| .nilp,_| .nilf,_| .nili,_| .nilmap,_| .undef,_=>trivial
theorem V.scL_mono {n n':Nat}(hn:n≤n'): ∀vs:List V,V.scL n vs->V.scL n' vs
 | [],_=>trivial
 |v::vs,h=>⟨v.sc_mono hn h.1,V.scL_mono hn vs h.2⟩
end
theorem V.scL_iff (n:Nat): ∀vs:List V,V.scL n vs↔ ∀v∈vs,v.sc n
 | []=>by simp[V.scL]
 |v::vs=>by simp[V.scL,V.scL_iff n vs]
def Env.conv (m:List Nat)(E:Env):Env:=E.map λp=>(p.1,p.2.conv m)
def HObj.conv (m:List Nat):HObj->HObj
 | .box cs=>.box (V.convL m cs)
 | .vec g sz xs=>.vec g sz xs
 | .loop st pe fn E nt ps asg bo=>.loop st pe fn (Env.conv m E) nt ps asg bo
 | .dfr=>.dfr
 | .held s=>.held s
def HObj.sc (n:Nat):HObj->Prop
 | .box cs=>V.scL n cs
 | .loop _ _ _ E _ _ _ _=> ∀p∈E,p.2.sc n
 |_=>True
theorem HObj.conv_ext {m l:List Nat}{n:Nat}(hn:n≤m.length): ∀o:HObj,o.sc n->o.conv (m++l)=o.conv m
 | .box cs,h=>by simp only[HObj.conv,V.convL_ext hn cs h]
 | .vec ..,_=>rfl
 | .dfr,_=>rfl
 | .held _,_=>rfl
 | .loop _ _ _ E _ _ _ _,h=>by
  simp only[HObj.conv,Env.conv,HObj.loop.injEq,true_and,and_true];exact Atj λp hp=>by rw[V.conv_ext hn p.2 (h p hp)]
theorem HObj.sc_mono {n n':Nat}(hn:n≤n'): ∀o:HObj,o.sc n->o.sc n'
 | .box cs,h=>V.scL_mono hn cs h
 | .vec ..,_=>trivial
 | .dfr,_=>trivial
 | .held _,_=>trivial
 | .loop _ _ _ _ _ _ _ _,h=>λp hp=>V.sc_mono hn p.2 (h p hp)
def lk:Env->Nat->V
 | [],_=>.undef
 | (k,v)::E,n=>bif Nat.beq k n then v else lk E n
theorem Rp (m:List Nat): ∀(E:Env) (n:Nat),lk (Env.conv m E) n=(lk E n).conv m
 | [],_=>by simp[Env.conv,lk,V.conv]
 | (k,v)::E,n=>by
  have ih:=Rp m E n;unfold Env.conv at ih;simp only[Env.conv,Asa,lk];cases Nat.beq k n<;>simp[ih]
inductive Loc where
 |none
 |nil
 |blk (b N:Nat)
def live (H:Heap)(r:Nat):Prop:= ∃o,H[r]?=some (some o)
def isSeal:HObj->Prop
 | .held _=>True
 |_=>False
def open' (H:Heap)(r:Nat):Prop:= ∃o,H[r]?=some (some o)∧ ¬isSeal o
def ownB (β:Nat->Loc)(H:Heap)(b:Nat):Prop:= ∃r N,open' H r∧β r=.blk b N
def freeB (β:Nat->Loc)(H:Heap)(b sz:Nat):Prop:= ¬ownB β H b∧ ∀r s N,H[r]?=some (some (.held s))->β r=.blk b N->s=sz
inductive Rep (w:World)(β:Nat->Loc)(H:Heap):V->Value->Prop
 |int (k n):Rep w β H (.int k n) (.int k n)
 |bool (b):Rep w β H (.bool b) (.bool b)
 |tt:Rep w β H .tt (.bool true)
 |ff:Rep w β H .ff (.bool false)
 |str (s) (h:s.length≤maxLen):Rep w β H (.str s) (.string ⟨s.toArray⟩)
 |nilsl:Rep w β H .nilsl (.slice none 0 0)
 |nilp:Rep w β H .nilp (.pointer none)
 |nilf:Rep w β H .nilf .nilFunc
 |nili:Rep w β H .nili .nilIface
 |nilmap:Rep w β H .nilmap (.map none)
 |undef (v):Rep w β H .undef v
 |sl (sz:Nat) (xs:List V) (a:Option Addr) (cap:Nat) (vals:Nat->Value) (hcap:xs.length≤cap) (hmax:cap≤maxLen)
   (hsz: ∀x∈xs,okE sz x)
   (ha:xs≠[]-> ∃ad,a=some ad∧freeB β H ad.block sz∧ad.block<w.heap.size∧ ∀j,j<xs.length*sz->w.cell? (ad.add j)=some (vals j))
   (hr: ∀(i:Nat) (x:V) (j:Nat) (c:V),xs[i]?=some x->x.cells[j]?=some c->Rep w β H c (vals (i*sz+j))):Rep w β H (.sl sz xs) (.slice a xs.length cap)
 |iptr (cs:List V) (off:Nat) (ad:Addr) (vals:Nat->Value) (hown: ¬ownB β H ad.block) (hlt:ad.block<w.heap.size)
   (hc: ∀j,j<cs.length->w.cell? (ad.add j)=some (vals j))
   (hr: ∀(j:Nat) (c:V),cs[j]?=some c->Rep w β H c (vals j)):Rep w β H (.iptr cs off) (.pointer (some (ad.add off)))
 |ptrLive (r off b N cs) (hH:H[r]?=some (some (.box cs))) (hβ:β r=.blk b N):Rep w β H (.ptr (.abs r) off) (.pointer (some ⟨b,off,none⟩))
 |ptrDead (r off v) (hd:H[r]?=some none) (hv:v.oneCell'=true):Rep w β H (.ptr (.abs r) off) v
 |oslNil (r g sz xs a) (hH:H[r]?=some (some (.vec g sz xs))) (hβ:β r=.nil):Rep w β H (.osl (.abs r) g 0 0) (.slice a 0 0)
 |oslBlk (r g off len sz xs b N a cap) (hH:H[r]?=some (some (.vec g sz xs))) (hβ:β r=.blk b N) (hl:len≤cap) (hN:(off+cap)*sz≤N) (hcap:off+cap≤maxLen)
   (ha:0<cap->a=some ⟨b,off*sz,none⟩) (hlen:off+len≤xs.length):Rep w β H (.osl (.abs r) g off len) (.slice a len cap)
 |oslStale (r g off len g' sz xs v) (hH:H[r]?=some (some (.vec g' sz xs))) (hg:g<g') (hv:v.oneCell'=true):Rep w β H (.osl (.abs r) g off len) v
 |oslDead (r g off len v) (hd:H[r]?=some none) (hv:v.oneCell'=true):Rep w β H (.osl (.abs r) g off len) v
 |eptrLive (r g i off sz xs b N) (hH:H[r]?=some (some (.vec g sz xs))) (hβ:β r=.blk b N) (hi:i<xs.length):Rep w β H (.eptr (.abs r) g i off) (.pointer (some ⟨b,i*sz+off,none⟩))
 |eptrStale (r g i off g' sz xs v) (hH:H[r]?=some (some (.vec g' sz xs))) (hg:g<g') (hv:v.oneCell'=true):Rep w β H (.eptr (.abs r) g i off) v
 |eptrDead (r g i off v) (hd:H[r]?=some none) (hv:v.oneCell'=true):Rep w β H (.eptr (.abs r) g i off) v
 |agg (cs:List V) (vs:Array Value) (hl:cs.length=vs.size) (h: ∀(j:Nat) (c:V) (v:Value),cs[j]?=some c->vs[j]?=some v->Rep w β H c v):Rep w β H (.agg cs) (.agg vs)
 |tup (cs:List V) (vs:Array Value) (hl:cs.length=vs.size) (h: ∀(j:Nat) (c:V) (v:Value),cs[j]?=some c->vs[j]?=some v->Rep w β H c v):Rep w β H (.tup cs) (.tuple vs)
 |fn (f:Fn) (a c:List V) (va vc:Array Value) (hla:a.length=va.size) (hlc:c.length=vc.size)
   (h1: ∀(j:Nat) (x:V) (v:Value),a[j]?=some x->va[j]?=some v->Rep w β H x v)
   (h2: ∀(j:Nat) (x:V) (v:Value),c[j]?=some x->vc[j]?=some v->Rep w β H x v):Rep w β H (.fn f a c) (.func f va vc)
 |yldLive (r b N st pe fn E nt ps asg bo) (hH:H[r]?=some (some (.loop st pe fn E nt ps asg bo))) (hβ:β r=.blk b N):Rep w β H (.yld (.abs r)) (.func (.yield b) #[] #[])
 |yldDead (r v) (hd:H[r]?=some none) (hv:v.oneCell'=true):Rep w β H (.yld (.abs r)) v
 |iface (t:TypeId) (x:V) (v:Value) (h:Rep w β H x v):Rep w β H (.iface t x) (.iface t v)
def tyG (g:Nat)(e:TypeId):Prop:=g % 2=1->e=g / 2 % 1048576
def bump (g:Nat):Nat:=2* (g / 2)+2
theorem Eh (g:Nat):g<bump g:=by unfold bump;omega
theorem L1 (g e:Nat):tyG (bump g) e:=λh=>by unfold bump at h;omega
theorem Tj (e:Nat):tyG 0 e:=λh=>by omega
theorem Afe (e:Nat):tyG 2 e:=λh=>by omega
def ORel (w:World)(β:Nat->Loc)(H:Heap):Loc->HObj->Prop
 | .none,.vec _ sz _=>sz=0
 | .none,_=>True
 | .nil,.vec _ _ xs=>xs=[]
 | .nil,.held _=>True
 | .nil,_=>False
 | .blk b N,.box cs=> ∃vs e,w.heap[b]?=some (.cells vs e (0,0))∧vs.size=N∧cs.length=N∧
   ∀(j:Nat) (c:V) (v:Value),cs[j]?=some c->vs[j]?=some v->Rep w β H c v
 | .blk b N,.vec g sz xs=> ∃vs e,tyG g e∧w.heap[b]?=some (.cells vs e (0,0))∧vs.size=N∧xs.length*sz≤N∧0<sz∧(∀x∈xs,okE sz x)∧
   ∀(i:Nat) (x:V) (j:Nat) (c:V) (v:Value),xs[i]?=some x->x.cells[j]?=some c->vs[i*sz+j]?=some v->Rep w β H c v
 | .blk b _,.loop st pe fn E nt ps asg bo=> ∃(tmps:Array Value) (db:Nat),w.heap[b]?=some (.loop {state:=st,pending:=pe,fn:=fn,tmps:=tmps,params:=ps,assign:=asg,body:=bo,defers:=db})∧
   tmps.size=nt∧ ∀k,Rep w β H (lk E k) (tmps.getD k Go.undef)
 | .blk b _,.dfr=>w.heap[b]?=some (.deferred (some []))
 | .blk b _,.held _=>b<w.heap.size
structure HRel (w:World)(β:Nat->Loc)(H:Heap):Prop where
 obj: ∀r o,H[r]?=some (some o)->ORel w β H (β r) o
 inj: ∀r r' b N N',live H r->live H r'->β r=.blk b N->β r'=.blk b N'->r=r'
def Evo:HObj->HObj->Prop
 | .box _,.box _=>True
 | .vec g sz xs,.vec g' sz' xs'=>g≤g'∧(g=g'->sz=sz'∧xs.length=xs'.length)
 | .loop ..,.loop .. =>True
 | .dfr,.dfr=>True
 | .held s,.held s'=>s=s'
 |_,_=>False
def SameGen:HObj->HObj->Prop
 | .vec g _ _,.vec g' _ _=>g=g'
 |_,_=>True
def isLoop:HObj->Prop
 | .loop .. =>True
 |_=>False
def Fixed (H:Heap)(r:Nat):Prop:=H[r]?=some none∨ ∃o,H[r]?=some (some o)∧isLoop o
structure Fr0 (w:World)(β:Nat->Loc)(H:Heap)(w':World)(β':Nat->Loc)(H':Heap):Prop where
 os:w'.os=w.os
 tape:w'.tape=w.tape
 output:w'.output=w.output
 size:w.heap.size≤w'.heap.size
 len:H.length≤H'.length
 evo: ∀r o',r<H.length->H'[r]?=some (some o')-> ∃o,H[r]?=some (some o)∧Evo o o'∧(β r≠ .none->SameGen o o'->β' r=β r)
 keep: ∀b,b<w.heap.size-> ¬ownB β H b->w'.heap[b]?=w.heap[b]?
 fresh: ∀b,ownB β' H' b->w.heap.size≤b∨ownB β H b
 fix: ∀r,Fixed H r->β' r=β r
 seals: ∀r s,H'[r]?=some (some (.held s))->H[r]?=some (some (.held s))∧β' r=β r
structure Fr (w:World)(β:Nat->Loc)(H:Heap)(w':World)(β':Nat->Loc)(H':Heap):Prop extends Fr0 w β H w' β' H' where
 virt: ∀r,r<H.length->β r=.none->β' r=.none
theorem Evo.refl (o:HObj):Evo o o:=by cases o<;>simp[Evo]
theorem Evo.trans {a b c:HObj}(h:Evo a b)(k:Evo b c):Evo a c:=by
 cases a<;>cases b<;>first|exact h.elim|skip
 all_goals (cases c<;>first|exact k.elim|skip)
 all_goals first|trivial|exact Eq.trans (show _=_ from h) (show _=_ from k)|skip
 rename_i g sz xs g' sz' xs' g'' sz'' xs'';obtain⟨h1,h2⟩:=h;obtain⟨k1,k2⟩:=k;refine⟨Ark h1 k1,λe=> ?_⟩;have e1:g=g':=by omega
 have e2:g'=g'':=by omega
 obtain⟨p,q⟩:=h2 e1;obtain⟨p',q'⟩:=k2 e2;exact⟨p.trans p',q.trans q'⟩
theorem SameGen.split {a b c:HObj}(h:Evo a b)(k:Evo b c)(s:SameGen a c):SameGen a b∧SameGen b c:=by
 cases a<;>cases b<;>first|exact h.elim|skip
 all_goals (cases c<;>first|exact k.elim|skip)
 all_goals first|exact⟨trivial,trivial⟩|skip
 rename_i g sz xs g' sz' xs' g'' sz'' xs'';obtain⟨h1,h2⟩:=h;obtain⟨k1,k2⟩:=k;have s':g=g'':=s;exact⟨show g=g' by omega,show g'=g'' by omega⟩
theorem Ab {α:Type}{l:List α}{r:Nat}{x:α}(h:l[r]?=some x):r<l.length:=(Ar8.1 h).1
section
variable {w w' w'':World} {β β' β'':Nat->Loc} {H H' H'':Heap}
theorem Fr0.refl (w:World)(β:Nat->Loc)(H:Heap):Fr0 w β H w β H:=
 ⟨rfl,rfl,rfl,Ara _,Ara _,λ_ o' _ h=>⟨o',h,Evo.refl _,λ_ _=>rfl⟩,λ_ _ _=>rfl,λ_ h=>.inr h,λ_ _=>rfl,λ_ _ h=>⟨h,rfl⟩⟩
theorem Fr0.fixed (h:Fr0 w β H w' β' H'){r:Nat}(hr:Fixed H r):Fixed H' r:=by
 have hl:r<H.length:=by
  rcases hr with h1| ⟨o,h1,_⟩
  ·exact Ab h1
  ·exact Ab h1
 have hl':=Asl hl h.len;cases hx:H'[r] with
 |none=>exact .inl (by rw[Aq3 hl',hx])
 |some o'=>
  have h1:H'[r]?=some (some o'):=by rw[Aq3 hl',hx]
  obtain⟨o,ho,he,_⟩:=h.evo r o' hl h1
  rcases hr with h2| ⟨o2,h2,h3⟩
  ·rw[h2] at ho;cases ho
  ·rw[h2] at ho;injection ho with ho
   injection ho with ho
   subst ho;refine .inr ⟨o',h1,?_⟩;cases o2<;>first|exact h3.elim|skip;cases o'<;>first|exact he.elim|trivial
theorem Fr0.trans (h:Fr0 w β H w' β' H')(k:Fr0 w' β' H' w'' β'' H''):Fr0 w β H w'' β'' H'':=by
 refine⟨k.os.trans h.os,k.tape.trans h.tape,k.output.trans h.output,Ark h.size k.size,Ark h.len k.len,?_,?_,?_,λr hr=>(k.fix r (h.fixed hr)).trans (h.fix r hr),λr s hs=>⟨(h.seals r s (k.seals r s hs).1).1,(k.seals r s hs).2.trans (h.seals r s (k.seals r s hs).1).2⟩⟩
 ·intro r o'' hr ho'';obtain⟨o',ho',e2,b2⟩:=k.evo r o'' (Asl hr h.len) ho'';obtain⟨o,ho,e1,b1⟩:=h.evo r o' hr ho';refine⟨o,ho,e1.trans e2,λhn hs=> ?_⟩;obtain⟨s1,s2⟩:=SameGen.split e1 e2 hs;have q1:=b1 hn s1;have q2:=b2 (by rw[q1];exact hn) s2;exact q2.trans q1
 ·intro b hb hno;have hno': ¬ownB β' H' b:=λhx=>by
   rcases h.fresh b hx with h1|h1
   ·omega
   ·exact hno h1
  exact(k.keep b (Asl hb h.size) hno').trans (h.keep b hb hno)
 ·intro b hb
  rcases k.fresh b hb with h1|h1
  ·exact .inl (Ark h.size h1)
  ·exact h.fresh b h1
theorem Fr0.notOwn (h:Fr0 w β H w' β' H'){b:Nat}(hb:b<w.heap.size)(hno: ¬ownB β H b): ¬ownB β' H' b:=λhx=>by
 rcases h.fresh b hx with h1|h1
 ·omega
 ·exact hno h1
theorem Fr0.free (h:Fr0 w β H w' β' H'){b sz:Nat}(hb:b<w.heap.size)(hf:freeB β H b sz):freeB β' H' b sz:=
 ⟨h.notOwn hb hf.1,λr s N hs hβ=>hf.2 r s N (h.seals r s hs).1 ((h.seals r s hs).2.symm.trans hβ)⟩
theorem Fr0.at (h:Fr0 w β H w' β' H'){r:Nat}{o:HObj}(ho:H[r]?=some (some o)):H'[r]?=some none∨ ∃o',H'[r]?=some (some o')∧Evo o o'∧(β r≠ .none->SameGen o o'->β' r=β r):=by
 have hr:=Ab ho;have hr':=Asl hr h.len;cases hx:H'[r] with
 |none=>exact .inl (by rw[Aq3 hr',hx])
 |some o'=>
  have h1:H'[r]?=some (some o'):=by rw[Aq3 hr',hx]
  obtain⟨o1,ho1,e,hb⟩:=h.evo r o' hr h1;rw[ho] at ho1;injection ho1 with ho1
  injection ho1 with ho1
  subst ho1;exact .inr ⟨o',h1,e,hb⟩
theorem Fr0.dead (h:Fr0 w β H w' β' H'){r:Nat}(hd:H[r]?=some none):H'[r]?=some none:=by
 have hr:=Ab hd;have hr':=Asl hr h.len;cases hx:H'[r] with
 |none=>rw[Aq3 hr',hx]
 |some o'=>
  obtain⟨o1,ho1,_⟩:=h.evo r o' hr (by rw[Aq3 hr',hx]);rw[hd] at ho1;cases ho1
theorem Rep.mono0 {v:V}{x:Value}(h:Rep w β H v x)(f:Fr0 w β H w' β' H'):Rep w' β' H' v x:=by
 induction h with
 |int k n=>exact .int k n
 |bool b=>exact .bool b
 |tt=>exact .tt
 |ff=>exact .ff
 |str s h=>exact .str s h
 |nilsl=>exact .nilsl
 |nilp=>exact .nilp
 |nilf=>exact .nilf
 |nili=>exact .nili
 |nilmap=>exact .nilmap
 |undef v=>exact .undef v
 |sl sz xs a cap vals hcap hmax hsz ha hr ih=>
  refine .sl sz xs a cap vals hcap hmax hsz (λhne=> ?_) (λi x j c h1 h2=>ih i x j c h1 h2);obtain⟨ad,e,h1,h2,h3⟩:=ha hne;refine⟨ad,e,f.free h2 h1,Asl h2 f.size,λj hj=> ?_⟩;rw[←h3 j hj];refine World.cell?_of_block ?_;have hb:(ad.add j).block=ad.block:=by unfold Addr.add;split<;>rfl
  rw[hb];exact f.keep _ h2 h1.1
 |iptr cs off ad vals hown hlt hc hr ih=>
  refine .iptr cs off ad vals (f.notOwn hlt hown) (Asl hlt f.size) (λj hj=> ?_) (λj c h1=>ih j c h1);rw[←hc j hj];refine World.cell?_of_block ?_;have hb:(ad.add j).block=ad.block:=by unfold Addr.add;split<;>rfl
  rw[hb];exact f.keep _ hlt hown
 |ptrLive r off b N cs hH hβ=>
  rcases f.at hH with hd| ⟨o',ho',e,hb⟩
  ·exact .ptrDead _ _ _ hd rfl
  ·cases o'<;>first|exact e.elim|skip;exact .ptrLive r off b N _ ho' ((hb (by rw[hβ];simp) trivial).trans hβ)
 |ptrDead r off v hd hv=>exact .ptrDead _ _ _ (f.dead hd) hv
 |oslNil r g sz xs a hH hβ=>
  rcases f.at hH with hd| ⟨o',ho',e,hb⟩
  ·exact .oslDead _ _ _ _ _ hd (by first|rfl|assumption)
  ·cases o'<;>first|exact e.elim|skip;rename_i g' sz' xs';obtain⟨h1,h2⟩:=e
   rcases Ar3 g g' with hlt|hge
   ·exact .oslStale _ _ _ _ _ _ _ _ ho' hlt rfl
   ·obtain rfl:g=g':=by omega
    exact .oslNil r g _ _ a ho' ((hb (by rw[hβ];simp) rfl).trans hβ)
 |oslBlk r g off len sz xs b N a cap hH hβ hl hN hcap ha hlen=>
  rcases f.at hH with hd| ⟨o',ho',e,hb⟩
  ·exact .oslDead _ _ _ _ _ hd (by first|rfl|assumption)
  ·cases o'<;>first|exact e.elim|skip;rename_i g' sz' xs';obtain⟨h1,h2⟩:=e
   rcases Ar3 g g' with hlt|hge
   ·exact .oslStale _ _ _ _ _ _ _ _ ho' hlt rfl
   ·obtain rfl:g=g':=by omega
    obtain⟨rfl,hle⟩:=h2 rfl;exact .oslBlk r g off len sz _ b N a cap ho' ((hb (by rw[hβ];simp) rfl).trans hβ) hl hN hcap ha (by omega)
 |oslStale r g off len g' sz xs v hH hg hv=>
  rcases f.at hH with hd| ⟨o',ho',e,hb⟩
  ·exact .oslDead _ _ _ _ _ hd (by first|rfl|assumption)
  ·cases o'<;>first|exact e.elim|skip;exact .oslStale _ _ _ _ _ _ _ _ ho' (Asl hg e.1) hv
 |oslDead r g off len v hd hv=>exact .oslDead _ _ _ _ _ (f.dead hd) hv
 |eptrLive r g i off sz xs b N hH hβ hi=>
  rcases f.at hH with hd| ⟨o',ho',e,hb⟩
  ·exact .eptrDead _ _ _ _ _ hd (by first|rfl|assumption)
  ·cases o'<;>first|exact e.elim|skip;rename_i g' sz' xs';obtain⟨h1,h2⟩:=e
   rcases Ar3 g g' with hlt|hge
   ·exact .eptrStale _ _ _ _ _ _ _ _ ho' hlt rfl
   ·obtain rfl:g=g':=by omega
    obtain⟨rfl,hle⟩:=h2 rfl;exact .eptrLive r g i off sz _ b N ho' ((hb (by rw[hβ];simp) rfl).trans hβ) (by omega)
 |eptrStale r g i off g' sz xs v hH hg hv=>
  rcases f.at hH with hd| ⟨o',ho',e,hb⟩
  ·exact .eptrDead _ _ _ _ _ hd (by first|rfl|assumption)
  ·cases o'<;>first|exact e.elim|skip;exact .eptrStale _ _ _ _ _ _ _ _ ho' (Asl hg e.1) hv
 |eptrDead r g i off v hd hv=>exact .eptrDead _ _ _ _ _ (f.dead hd) hv
 |agg cs vs hl h ih=>exact .agg cs vs hl ih
 |tup cs vs hl h ih=>exact .tup cs vs hl ih
 |fn fn a c va vc hla hlc h1 h2 ih1 ih2=>exact .fn fn a c va vc hla hlc ih1 ih2
 |yldLive r b N st pe fn E nt ps asg bo hH hβ=>
  rcases f.at hH with hd| ⟨o',ho',e,hb⟩
  ·exact .yldDead _ _ hd rfl
  ·cases o'<;>first|exact e.elim|skip;exact .yldLive r b N _ _ _ _ _ _ _ _ ho' ((hb (by rw[hβ];simp) trivial).trans hβ)
 |yldDead r v hd hv=>exact .yldDead _ _ (f.dead hd) hv
 |iface t x v h ih=>exact .iface t x v ih
theorem Fr.refl (w:World)(β:Nat->Loc)(H:Heap):Fr w β H w β H:=⟨Fr0.refl w β H,λ_ _ h=>h⟩
theorem Fr.trans (h:Fr w β H w' β' H')(k:Fr w' β' H' w'' β'' H''):Fr w β H w'' β'' H'':=
 ⟨h.toFr0.trans k.toFr0,λr hr hn=>k.virt r (Asl hr h.len) (h.virt r hr hn)⟩
theorem Rep.mono {v:V}{x:Value}(h:Rep w β H v x)(f:Fr w β H w' β' H'):Rep w' β' H' v x:=h.mono0 f.toFr0
end
mutual
theorem De {w:World}{β:Nat->Loc}{H:Heap}{m:List Nat}: ∀(v:V) {x:Value},Rep w β H (v.conv m) x->v.sc m.length
 | .osl r _ _ _,x,h| .ptr r _,x,h| .eptr r _ _ _,x,h| .yld r,x,h=>by
  cases r with
  |loc k=>
   simp only[V.conv,Ref.conv] at h;cases hk:m[k]? with
   |none=>rw[hk] at h;cases h
   |some r=>exact Ab hk
  |abs n=>trivial
  |bad=>trivial
 | .agg cs,x,h=>by
  simp only[V.conv] at h;cases h with
  |agg _ vs hl h=>exact F7 cs vs (by rw[V.convL_eq] at hl;simpa using hl) h
 | .tup cs,x,h=>by
  simp only[V.conv] at h;cases h with
  |tup _ vs hl h=>exact F7 cs vs (by rw[V.convL_eq] at hl;simpa using hl) h
 | .fn _ a c,x,h=>by
  simp only[V.conv] at h;cases h with
  |fn _ _ _ va vc hla hlc h1 h2=>exact⟨F7 a va (by rw[V.convL_eq] at hla;simpa using hla) h1,F7 c vc (by rw[V.convL_eq] at hlc;simpa using hlc) h2⟩
 | .iface _ v,x,h=>by
  simp only[V.conv] at h;cases h with
  |iface _ _ _ h=>exact De v h
 | .int ..,_,_| .bool _,_,_| .tt,_,_| .ff,_,_| .str _,_,_| .sl ..,_,_| .nilsl,_,_| .iptr ..,_,_| .nilp,_,_| .nilf,_,_| .nili,_,_| .nilmap,_,_| .undef,_,_=>trivial
theorem F7 {w:World}{β:Nat->Loc}{H:Heap}{m:List Nat}: ∀(cs:List V) (vs:Array Value),cs.length=vs.size->
  (∀(j:Nat) (c:V) (v:Value),(V.convL m cs)[j]?=some c->vs[j]?=some v->Rep w β H c v)->V.scL m.length cs
 | [],_,_,_=>trivial
 |c::cs,vs,hl,h=>by
  have h0:0<vs.size:=by simp at hl;omega
  refine⟨De c (h 0 _ vs[0] rfl (Ase h0)),?_⟩;refine F7 cs (vs.extract 1 vs.size) (by simp at hl ⊢;omega) λj c' v hj hv=>h (j+1) c' v (by simpa[V.convL] using hj) ?_;rw[At8] at hv;split at hv
  ·rw[Auf];exact hv
  ·cases hv
end
theorem Fixed.lt {H:Heap}{r:Nat}(h:Fixed H r):r<H.length:=by
 rcases h with h| ⟨o,h,_⟩
 ·exact Ab h
 ·exact Ab h
theorem Fixed.ne {H:Heap}{r q:Nat}{o:HObj}(h:Fixed H r)(ho:H[q]?=some (some o))(hn: ¬isLoop o):r≠q:=λe=>by
 subst e
 rcases h with h| ⟨o',h,h'⟩
 ·rw[ho] at h;cases h
 ·rw[ho] at h;injection h with h
  injection h with h
  subst h;exact hn h'
def upd (β:Nat->Loc)(r:Nat)(l:Loc):Nat->Loc:=λx=>if x=r then l else β x
theorem Aq (β:Nat->Loc)(r:Nat)(l:Loc):upd β r l r=l:=by simp[upd]
theorem Am {β:Nat->Loc}{r x:Nat}{l:Loc}(h:x≠r):upd β r l x=β x:=by simp[upd,h]
section
variable {w w' w'':World} {β β' β'':Nat->Loc} {H H' H'':Heap}
theorem ORel.mono {l:Loc}{o:HObj}(h:ORel w β H l o)(f:Fr0 w β H w' β' H')(hb: ∀b N,l=.blk b N->w'.heap[b]?=w.heap[b]?):ORel w' β' H' l o:=by
 cases l with
 |none=>cases o<;>exact h
 |nil=>cases o<;>exact h
 |blk b N=>
  have hb:=hb b N rfl;cases o with
  |box cs=>
   obtain⟨vs,e,h1,h2,h3,h4⟩:=h;exact⟨vs,e,hb.trans h1,h2,h3,λj c v hj hv=>(h4 j c v hj hv).mono0 f⟩
  |vec g sz xs=>
   obtain⟨vs,e,h0,h1,h2,h3,h4,h5,h6⟩:=h;exact⟨vs,e,h0,hb.trans h1,h2,h3,h4,h5,λi x j c v hi hj hv=>(h6 i x j c v hi hj hv).mono0 f⟩
  |loop st pe fn E nt ps asg bo=>
   obtain⟨tmps,db,h1,h2,h3⟩:=h;exact⟨tmps,db,hb.trans h1,h2,λk=>(h3 k).mono0 f⟩
  |dfr=>exact hb.trans h
  |held s=>exact Asl h f.size
theorem ORel.lt {b N:Nat}{o:HObj}(h:ORel w β H (.blk b N) o):b<w.heap.size:=by
 have: ∃x,w.heap[b]?=some x:=by
  cases o with
  |box cs=>obtain⟨vs,e,h1,_⟩:=h;exact⟨_,h1⟩
  |vec g sz xs=>obtain⟨vs,e,_,h1,_⟩:=h;exact⟨_,h1⟩
  |loop st pe fn E nt ps asg bo=>obtain⟨tmps,db,h1,_⟩:=h;exact⟨_,h1⟩
  |dfr=>exact⟨_,h⟩
  |held s=>exact⟨_,Ase h⟩
 obtain⟨x,hx⟩:=this;exact(Asz.1 hx).1
theorem HRel.lt (h:HRel w β H){r b N:Nat}(hl:live H r)(hb:β r=.blk b N):b<w.heap.size:=by
 obtain⟨o,ho⟩:=hl;have:=h.obj r o ho;rw[hb] at this;exact this.lt
theorem HRel.step0 (h:HRel w β H)(f:Fr0 w β H w' β' H')
  (obj: ∀r o,H'[r]?=some (some o)->(H[r]?=some (some o)∧β' r=β r∧ ∀b N,β r=.blk b N->w'.heap[b]?=w.heap[b]?)∨ORel w' β' H' (β' r) o)
  (inj: ∀r r' b N N',live H' r->live H' r'->β' r=.blk b N->β' r'=.blk b N'->r=r'):HRel w' β' H':=by
 refine⟨λr o ho=> ?_,inj⟩
 rcases obj r o ho with⟨h1,h2,h3⟩|h1
 ·rw[h2];exact ORel.mono (h.obj r o h1) f h3
 ·exact h1
theorem HRel.step (h:HRel w β H)(f:Fr w β H w' β' H')
  (obj: ∀r o,H'[r]?=some (some o)->(H[r]?=some (some o)∧β' r=β r∧ ∀b N,β r=.blk b N->w'.heap[b]?=w.heap[b]?)∨ORel w' β' H' (β' r) o)
  (inj: ∀r r' b N N',live H' r->live H' r'->β' r=.blk b N->β' r'=.blk b N'->r=r'):HRel w' β' H':=h.step0 f.toFr0 obj inj
theorem Fr.of_heap (hh:w'.heap=w.heap)(ho:w'.os=w.os)(ht:w'.tape=w.tape)(hu:w'.output=w.output):Fr w β H w' β H:=
 ⟨⟨ho,ht,hu,by rw[hh];exact Ara _,Ara _,λ_ o' _ h=>⟨o',h,Evo.refl _,λ_ _=>rfl⟩,λ_ _ _=>by rw[hh],λ_ h=>.inr h,λ_ _=>rfl,λ_ _ h=>⟨h,rfl⟩⟩,λ_ _ h=>h⟩
theorem HRel.of_heap (h:HRel w β H)(hh:w'.heap=w.heap)(ho:w'.os=w.os)(ht:w'.tape=w.tape)(hu:w'.output=w.output):HRel w' β H:=
 h.step (Fr.of_heap hh ho ht hu) (λ_ _ h1=>.inl ⟨h1,rfl,λ_ _ _=>by rw[hh]⟩) h.inj
theorem Fh {α:Type}{l:List α}{y:α}{r:Nat}{x:α}(h:(l++ [y])[r]?=some x):(r<l.length∧l[r]?=some x)∨(r=l.length∧x=y):=by
 rcases Aup r l.length with h1|h1|h1
 ·exact .inl ⟨h1,by rwa [Aq9 h1] at h⟩
 ·subst h1;simp at h;exact .inr ⟨rfl,h.symm⟩
 ·rw[Asq (by simp;omega)] at h;cases h
theorem P7 {o:Option HObj}{r:Nat}(h:open' (H++ [o]) r):(r<H.length∧open' H r)∨(r=H.length∧ ∃x,o=some x):=by
 obtain⟨x,hx,hn⟩:=h
 rcases Fh hx with⟨h1,h2⟩| ⟨h1,h2⟩
 ·exact .inl ⟨h1,x,h2,hn⟩
 ·exact .inr ⟨h1,x,h2.symm⟩
theorem Ij {o:HObj}(ho: ¬isSeal o){r s:Nat}(h:(H++ [some o])[r]?=some (some (.held s))):r<H.length∧H[r]?=some (some (.held s)):=by
 rcases Fh h with h1| ⟨_,h2⟩
 ·exact h1
 ·injection h2 with h2
  subst h2;exact absurd trivial ho
theorem Ik {o:Option HObj}{r:Nat}(h:live (H++ [o]) r):(r<H.length∧live H r)∨(r=H.length∧ ∃x,o=some x):=by
 obtain⟨x,hx⟩:=h
 rcases Fh hx with⟨h1,h2⟩| ⟨h1,h2⟩
 ·exact .inl ⟨h1,x,h2⟩
 ·exact .inr ⟨h1,x,h2.symm⟩
theorem Fr.new (o:HObj)(x:Go.Obj)(N:Nat)(ho: ¬isSeal o:=by exact λh=>h):Fr w β H (w.alloc x) (upd β H.length (.blk w.heap.size N)) (H++ [some o]):=by
 refine⟨⟨rfl,rfl,rfl,by simp,by simp,?_,?_,?_,λr hr=>Am (Aso hr.lt),λr s hs=>⟨(Ij ho hs).2,Am (Aso (Ij ho hs).1)⟩⟩,λr hr hn=>by rw[Am (Aso hr)];exact hn⟩
 ·intro r o' hr ho';rw[Aq9 hr] at ho';exact⟨o',ho',Evo.refl _,λ_ _=>Am (Aso hr)⟩
 ·intro b hb _;exact RowKit.Below.heap_alloc w x b hb
 ·rintro b ⟨r,M,hl,hb⟩
  rcases P7 hl with⟨h1,h2⟩| ⟨h1,h2⟩
  ·rw[Am (Aso h1)] at hb;exact .inr ⟨r,M,h2,hb⟩
  ·subst h1;rw[Aq] at hb;injection hb with hb
   exact .inl (by omega)
theorem HRel.new (h:HRel w β H)(o:HObj)(x:Go.Obj)(N:Nat)
  (ho:ORel (w.alloc x) (upd β H.length (.blk w.heap.size N)) (H++ [some o]) (.blk w.heap.size N) o) (hns: ¬isSeal o:=by exact λh=>h):
  HRel (w.alloc x) (upd β H.length (.blk w.heap.size N)) (H++ [some o]):=by
 refine h.step (Fr.new o x N hns) ?_ ?_
 ·intro r o' ho'
  rcases Fh ho' with⟨h1,h2⟩| ⟨h1,h2⟩
  ·refine .inl ⟨h2,Am (Aso h1),λb M hb=>RowKit.Below.heap_alloc w x b (h.lt ⟨_,h2⟩ hb)⟩
  ·subst h1;injection h2 with h2
   subst h2;rw[Aq];exact .inr ho
 ·intro r r' b M M' hl hl' hb hb'
  rcases Ik hl with⟨h1,h2⟩| ⟨h1,h2⟩<;>rcases Ik hl' with⟨k1,k2⟩| ⟨k1,k2⟩
  ·rw[Am (Aso h1)] at hb;rw[Am (Aso k1)] at hb';exact h.inj r r' b M M' h2 k2 hb hb'
  ·subst k1;rw[Am (Aso h1)] at hb;rw[Aq] at hb';injection hb' with hb'
   have:=h.lt h2 hb;omega
  ·subst h1;rw[Am (Aso k1)] at hb';rw[Aq] at hb;injection hb with hb
   have:=h.lt k2 hb';omega
  ·rw[h1,k1]
theorem HRel.newBox (h:HRel w β H)(cs:List V)(vs:Array Value)(e:TypeId)(hl:cs.length=vs.size)
  (hr: ∀(j:Nat) (c:V) (v:Value),cs[j]?=some c->vs[j]?=some v->Rep w β H c v):
  HRel (w.alloc (.cells vs e)) (upd β H.length (.blk w.heap.size vs.size)) (H++ [some (.box cs)]):=by
 refine h.new (.box cs) (.cells vs e) vs.size ⟨vs,e,?_,rfl,hl,λj c v h1 h2=>(hr j c v h1 h2).mono (Fr.new _ _ _)⟩;show(w.heap.push _)[w.heap.size]?=_;simp
theorem HRel.newVec (h:HRel w β H)(g sz:Nat)(xs:List V)(vs:Array Value)(e:TypeId)(hg:tyG g e)(hsz:0<sz)(hx: ∀x∈xs,okE sz x)(hl:xs.length*sz≤vs.size)
  (hr: ∀(i:Nat) (x:V) (j:Nat) (c:V) (v:Value),xs[i]?=some x->x.cells[j]?=some c->vs[i*sz+j]?=some v->Rep w β H c v):
  HRel (w.alloc (.cells vs e)) (upd β H.length (.blk w.heap.size vs.size)) (H++ [some (.vec g sz xs)]):=by
 refine h.new (.vec g sz xs) (.cells vs e) vs.size ⟨vs,e,hg,?_,rfl,hl,hsz,hx,λi x j c v h0 h1 h2=>(hr i x j c v h0 h1 h2).mono (Fr.new _ _ _)⟩;show(w.heap.push _)[w.heap.size]?=_;simp
theorem Fr.newNil (g sz:Nat):Fr w β H w (upd β H.length .nil) (H++ [some (.vec g sz [])]):=by
 refine⟨⟨rfl,rfl,rfl,Ara _,by simp,?_,λ_ _ _=>rfl,?_,λr hr=>Am (Aso hr.lt),λr s hs=>⟨(Ij (o:=.vec g sz []) (λh=>h) hs).2,Am (Aso (Ij (o:=.vec g sz []) (λh=>h) hs).1)⟩⟩,λr hr hn=>by rw[Am (Aso hr)];exact hn⟩
 ·intro r o' hr ho';rw[Aq9 hr] at ho';exact⟨o',ho',Evo.refl _,λ_ _=>Am (Aso hr)⟩
 ·rintro b ⟨r,M,hl,hb⟩
  rcases P7 hl with⟨h1,h2⟩| ⟨h1,h2⟩
  ·rw[Am (Aso h1)] at hb;exact .inr ⟨r,M,h2,hb⟩
  ·subst h1;rw[Aq] at hb;cases hb
theorem HRel.newNil (h:HRel w β H)(g sz:Nat):HRel w (upd β H.length .nil) (H++ [some (.vec g sz [])]):=by
 refine h.step (Fr.newNil g sz) ?_ ?_
 ·intro r o' ho'
  rcases Fh ho' with⟨h1,h2⟩| ⟨h1,h2⟩
  ·exact .inl ⟨h2,Am (Aso h1),λ_ _ _=>rfl⟩
  ·subst h1;injection h2 with h2
   subst h2;rw[Aq];exact .inr rfl
 ·intro r r' b M M' hl hl' hb hb'
  rcases Ik hl with⟨h1,h2⟩| ⟨h1,h2⟩<;>rcases Ik hl' with⟨k1,k2⟩| ⟨k1,k2⟩
  ·rw[Am (Aso h1)] at hb;rw[Am (Aso k1)] at hb';exact h.inj r r' b M M' h2 k2 hb hb'
  ·subst k1;rw[Aq] at hb';cases hb'
  ·subst h1;rw[Aq] at hb;cases hb
  ·rw[h1,k1]
theorem Ai {α:Type}{l:List α}{r q:Nat}{y x:α}(h:(l.set r y)[q]?=some x):(q=r∧x=y∧r<l.length)∨(q≠r∧l[q]?=some x):=by
 by_cases e:q=r
 ·subst e;rw[As3] at h;simp at h;exact .inl ⟨rfl,h.2.symm,h.1⟩
 ·rw[Arj (λhe=>e he.symm)] at h;exact .inr ⟨e,h⟩
theorem Fr.kill (r:Nat):Fr w β H w β (H.set r none):=by
 refine⟨⟨rfl,rfl,rfl,Ara _,by simp,?_,λ_ _ _=>rfl,?_,λ_ _=>rfl,λq s hs=>⟨?_,rfl⟩⟩,λ_ _ h=>h⟩
 ·intro q o' _ ho'
  rcases Ai ho' with⟨_,h2,_⟩| ⟨_,h2⟩
  ·cases h2
  ·exact⟨o',h2,Evo.refl _,λ_ _=>rfl⟩
 ·rintro b ⟨q,M,⟨o,hl,hn⟩,hb⟩
  rcases Ai hl with⟨_,h2,_⟩| ⟨_,h2⟩
  ·cases h2
  ·exact .inr ⟨q,M,⟨o,h2,hn⟩,hb⟩
 ·rcases Ai hs with⟨_,h2,_⟩| ⟨_,h2⟩
  ·cases h2
  ·exact h2
theorem HRel.kill (h:HRel w β H)(r:Nat):HRel w β (H.set r none):=by
 refine h.step (Fr.kill r) ?_ ?_
 ·intro q o ho
  rcases Ai ho with⟨_,h2,_⟩| ⟨_,h2⟩
  ·cases h2
  ·exact .inl ⟨h2,rfl,λ_ _ _=>rfl⟩
 ·rintro q q' b M M' ⟨o,hl⟩ ⟨o',hl'⟩ hb hb'
  rcases Ai hl with⟨_,h2,_⟩| ⟨_,h2⟩
  ·cases h2
  ·rcases Ai hl' with⟨_,k2,_⟩| ⟨_,k2⟩
   ·cases k2
   ·exact h.inj q q' b M M' ⟨o,h2⟩ ⟨o',k2⟩ hb hb'
theorem HRel.free (h:HRel w β H){r b N:Nat}{o:HObj}(hH:H[r]?=some (some o))(hβ:β r=.blk b N)(sz:Nat):freeB β (H.set r none) b sz:=by
 refine⟨?_,λq s N' hq hb=> ?_⟩
 ·rintro⟨q,N',⟨p,hq,_⟩,hb⟩
  rcases Ai hq with⟨_,h2,_⟩| ⟨e1,e2⟩
  ·cases h2
  ·exact e1 (h.inj q r b N' N ⟨p,e2⟩ ⟨_,hH⟩ hb hβ)
 ·rcases Ai hq with⟨_,h2,_⟩| ⟨e1,e2⟩
  ·cases h2
  ·exact(e1 (h.inj q r b N' N ⟨_,e2⟩ ⟨_,hH⟩ hb hβ)).elim
theorem Aik {β:Nat->Loc}{H:Heap}(h: ∀(r:Nat) (o:HObj),H[r]?≠some (some o))(b sz:Nat):freeB β H b sz:=
 ⟨λ⟨r,_,⟨o,hr,_⟩,_⟩=>h r o hr,λr _ _ hr=>absurd hr (h r _)⟩
theorem Fr.turn {r b N:Nat}{o o':HObj}(ho:H[r]?=some (some o))(hβ:β r=.blk b N)(he:Evo o o')(hos:w'.os=w.os)(ht:w'.tape=w.tape)(hu:w'.output=w.output)
  (hs:w'.heap.size=w.heap.size) (hk: ∀k,k≠b->w'.heap[k]?=w.heap[k]?) (hns: ¬isSeal o:=by exact λh=>h):Fr w β H w' β (H.set r (some o')):=by
 refine⟨⟨hos,ht,hu,by rw[hs];exact Ara _,by simp,?_,?_,?_,λ_ _=>rfl,λq s hs=>⟨?_,rfl⟩⟩,λ_ _ h=>h⟩
 ·intro q p _ hp
  rcases Ai hp with⟨h1,h2,_⟩| ⟨_,h2⟩
  ·injection h2 with h2
   subst h1 h2;exact⟨o,ho,he,λ_ _=>rfl⟩
  ·exact⟨p,h2,Evo.refl _,λ_ _=>rfl⟩
 ·intro k _ hno;refine hk k (λe=>hno ?_);subst e;exact⟨r,N,⟨o,ho,hns⟩,hβ⟩
 ·rintro k ⟨q,M,⟨p,hl,hpn⟩,hb⟩
  rcases Ai hl with⟨h1,h2,_⟩| ⟨_,h2⟩
  ·subst h1;exact .inr ⟨_,M,⟨o,ho,hns⟩,hb⟩
  ·exact .inr ⟨q,M,⟨p,h2,hpn⟩,hb⟩
 ·rcases Ai hs with⟨_,h2,_⟩| ⟨_,h2⟩
  ·injection h2 with h2
   subst h2;exact(hns (by cases o<;>first|exact he.elim|trivial)).elim
  ·exact h2
theorem HRel.turn (h:HRel w β H){r b N:Nat}{o o':HObj}(ho:H[r]?=some (some o))(hβ:β r=.blk b N)(he:Evo o o')(hos:w'.os=w.os)(ht:w'.tape=w.tape)(hu:w'.output=w.output)
  (hs:w'.heap.size=w.heap.size) (hk: ∀k,k≠b->w'.heap[k]?=w.heap[k]?) (hn:ORel w' β (H.set r (some o')) (.blk b N) o') (hns: ¬isSeal o:=by exact λh=>h):HRel w' β (H.set r (some o')):=by
 refine h.step (Fr.turn ho hβ he hos ht hu hs hk hns) ?_ ?_
 ·intro q p hp
  rcases Ai hp with⟨h1,h2,_⟩| ⟨h1,h2⟩
  ·injection h2 with h2
   subst h1 h2;rw[hβ];exact .inr hn
  ·refine .inl ⟨h2,rfl,λk M hb=>hk k (λe=>h1 ?_)⟩;subst e;exact h.inj q r _ M N ⟨p,h2⟩ ⟨o,ho⟩ hb hβ
 ·rintro q q' k M M' ⟨p,hl⟩ ⟨p',hl'⟩ hb hb';have go: ∀ {q p},(H.set r (some o'))[q]?=some (some p)->live H q:=by
   intro q p hq
   rcases Ai hq with⟨h1,_,_⟩| ⟨_,h2⟩
   ·subst h1;exact⟨o,ho⟩
   ·exact⟨p,h2⟩
  exact h.inj q q' k M M' (go hl) (go hl') hb hb'
theorem Fr0.into {r:Nat}{o o':HObj}(x:Go.Obj)(N:Nat)(ho:H[r]?=some (some o))(hβ:β r=.none)(he:Evo o o')(hnl: ¬isLoop o)(hns: ¬isSeal o:=by exact λh=>h):Fr0 w β H (w.alloc x) (upd β r (.blk w.heap.size N)) (H.set r (some o')):=by
 refine⟨rfl,rfl,rfl,by simp,by simp,?_,?_,?_,λq hq=>Am (hq.ne ho hnl),λq s hs=> ?_⟩
 ·intro q p _ hp
  rcases Ai hp with⟨h1,h2,_⟩| ⟨h1,h2⟩
  ·injection h2 with h2
   subst h1 h2;exact⟨o,ho,he,λhn=>absurd hβ hn⟩
  ·exact⟨p,h2,Evo.refl _,λ_ _=>Am h1⟩
 ·intro b hb _;exact RowKit.Below.heap_alloc w x b hb
 ·rintro b ⟨q,M,⟨p,hp,hpn⟩,hb⟩
  rcases Ai hp with⟨h1,_,_⟩| ⟨h1,h2⟩
  ·subst h1;rw[Aq] at hb;injection hb with hb
   exact .inl (by omega)
  ·rw[Am h1] at hb;exact .inr ⟨q,M,⟨p,h2,hpn⟩,hb⟩
 ·rcases Ai hs with⟨_,h2,_⟩| ⟨h1,h2⟩
  ·injection h2 with h2
   subst h2;exact(hns (by cases o<;>first|exact he.elim|trivial)).elim
  ·exact⟨h2,Am h1⟩
theorem HRel.into (h:HRel w β H){r:Nat}{o o':HObj}(x:Go.Obj)(N:Nat)(ho:H[r]?=some (some o))(hβ:β r=.none)(he:Evo o o')(hnl: ¬isLoop o)
  (hn:ORel (w.alloc x) (upd β r (.blk w.heap.size N)) (H.set r (some o')) (.blk w.heap.size N) o') (hns: ¬isSeal o:=by exact λh=>h):HRel (w.alloc x) (upd β r (.blk w.heap.size N)) (H.set r (some o')):=by
 refine h.step0 (Fr0.into x N ho hβ he hnl hns) ?_ ?_
 ·intro q p hp
  rcases Ai hp with⟨h1,h2,_⟩| ⟨h1,h2⟩
  ·injection h2 with h2
   subst h1 h2;rw[Aq];exact .inr hn
  ·exact .inl ⟨h2,Am h1,λb M hb=>RowKit.Below.heap_alloc w x b (h.lt ⟨p,h2⟩ hb)⟩
 ·rintro q q' b M M' ⟨p,hp⟩ ⟨p',hp'⟩ hb hb'
  rcases Ai hp with⟨h1,_,_⟩| ⟨h1,h2⟩<;>rcases Ai hp' with⟨k1,_,_⟩| ⟨k1,k2⟩
  ·rw[h1,k1]
  ·subst h1;rw[Aq] at hb;rw[Am k1] at hb';injection hb with e1 e2
   have:=h.lt ⟨p',k2⟩ hb';omega
  ·subst k1;rw[Aq] at hb';rw[Am h1] at hb;injection hb' with e1 e2
   have:=h.lt ⟨p,h2⟩ hb;omega
  ·rw[Am h1] at hb;rw[Am k1] at hb';exact h.inj q q' b M M' ⟨p,h2⟩ ⟨p',k2⟩ hb hb'
end
abbrev Base:=Nat->Option HObj
structure St where
 E:Env
 T:Heap
 B:Base
 D:List Nat
structure Cx where
 P:Program
 nt:Nat
 fn:FuncId
 ro:Option (Nat×Nat)
 imps:List Nat
 X:Exit->St->Prop
 B:Base
 D:List Nat
 stop:List Nat:=[]
structure SRel (imps:List Nat)(nt:Nat)(w:World)(β:Nat->Loc)(H:Heap)(m:List Nat)(s:St)(a:Act):Prop where
 hrel:HRel w β H
 size:a.tmps.size=nt
 env: ∀k,Rep w β H ((lk s.E k).conv m) (a.tmps.getD k Go.undef)
 mlen:m.length=s.T.length
 nodup:m.Nodup
 loc: ∀(k r:Nat) (o:Option HObj),m[k]?=some r->s.T[k]?=some o->H[r]?=some (o.map (HObj.conv m))
 imp:m.take imps.length=imps
 base: ∀r,r<H.length->r∉m->H[r]?=some (s.B r)
 fut: ∀r,H.length≤r->s.B r=none
 own: ∀k r:Nat,imps.length≤k->m[k]?=some r->s.B r=none
 scE: ∀p∈s.E,p.2.sc s.T.length
 scT: ∀(k:Nat) (o:HObj),s.T[k]?=some (some o)->o.sc s.T.length
 defs:a.defers.length=s.D.length
 marks: ∀j k:Nat,s.D[j]?=some k-> ∃r b N,m[k]?=some r∧s.T[k]?=some (some .dfr)∧β r=.blk b N∧a.defers[j]?=some {target:=.collected b,args:= #[]}
def Ends (P:Program)(M:Machine)(b:Frame)(cs:List Frame):Exit->Act->World->Prop
 | .normal,a,w=>Steps P M (lone (b.atR a []) cs w)
 | .ret,a,w=> ∃k,Steps P M (lone (b.atR a (.code .ret::k)) cs w)
 | .exit id,a,w=> ∃k,exitTo id k=none∧Steps P M (lone (b.atR a (.code (.exit id)::k)) cs w)
 | .goto l,a,w=> ∃k,gotoIn l k=none∧Steps P M (lone (b.atR a (.code (.goto l)::k)) cs w)
 | .panic chain,a,w=> ∃k,Steps P M (lone {b.atR a k with mode:=.panicking chain} cs w)
 | .outgrown,_,_=>False
def RoundOk (β:Nat->Loc)(H:Heap):Option (Nat×Nat)->Option Nat->Prop
 |none,x=>x=none
 |some (r,l),x=>x=some l∧Fixed H r∧ ∃N,β r=.blk l N
@[irreducible] def Goes (c:Cx) (todo:List Item) (E:Env) (T:Heap):Prop:=
 ∀(w:World) (β:Nat->Loc) (H:Heap) (m:List Nat) (a:Act) (b:Frame) (cs:List Frame),SRel c.imps c.nt w β H m ⟨E,T,c.B,c.D⟩ a->b.fn=c.fn->b.kind=.normal->RoundOk β H c.ro b.roundOf->
  ∃(e:Exit) (s':St) (w':World) (β':Nat->Loc) (H':Heap) (m':List Nat) (a':Act),c.X e s'∧SRel c.imps c.nt w' β' H' m' s' a'∧Fr w β H w' β' H'∧Ends c.P (lone (b.atR a todo) cs w) b cs e a' w'
def Enterable (P : Program) (f : FuncId) : Prop := ∃ fn, P.funcs[f]? = some fn ∧ (fn.name == "runtime.NumGoroutine") = false ∧ fn.body.isNone = false
@[irreducible] def CallThen (c:Cx) (f:FuncId) (args:List V) (E:Env) (T:Heap) (K:V->St->Prop):Prop:=
 Enterable c.P f∧ ∀(w:World) (β:Nat->Loc) (H:Heap) (m:List Nat) (a:Act) (vals:Array Value) (cs:List Frame),SRel c.imps c.nt w β H m ⟨E,T,c.B,c.D⟩ a->args.length=vals.size->
  (∀(j:Nat) (x:V) (v:Value),args[j]?=some x->vals[j]?=some v->Rep w β H (x.conv m) v)->
  ∃(x:V) (s':St) (v:Value) (w':World) (β':Nat->Loc) (H':Heap) (m':List Nat) (fr:Frame),K x s'∧SRel c.imps c.nt w' β' H' m' s' a∧Fr w β H w' β' H'∧Rep w' β' H' (x.conv m') v∧
   Steps c.P (lone (Frame.enter c.P f vals .normal) cs w) (lone fr cs w')∧fr.fn=f∧fr.leaving c.P w' (.returned v)∧m<+:m'
def lget {α:Type}:List α->Nat->Option α
 | [],_=>none
 |x::_,0=>some x
 |_::xs,n+1=>lget xs n
theorem Af {α:Type}: ∀(l:List α) (n:Nat),lget l n=l[n]?
 | [],n=>by simp[lget]
 |x::xs,0=>rfl
 |x::xs,n+1=>by rw[lget,Af xs n];rfl
def lset {α:Type}:List α->Nat->α->(List α->Prop)->Prop
 | [],_,_,K=>K []
 |_::xs,0,y,K=>K (y::xs)
 |x::xs,n+1,y,K=>lset xs n y λys=>K (x::ys)
def lsnoc {α:Type}:List α->α->(List α->Prop)->Prop
 | [],y,K=>K [y]
 |x::xs,y,K=>lsnoc xs y λys=>K (x::ys)
def ldrop {α:Type}:List α->Nat->List α
 |xs,0=>xs
 | [],_+1=>[]
 |_::xs,n+1=>ldrop xs n
def ltake {α:Type}:List α->Nat->Prop->(List α->Prop)->Prop
 |_,0,_,K=>K []
 | [],_+1,F,_=>F
 |x::xs,n+1,F,K=>ltake xs n F λys=>K (x::ys)
def lover {α:Type}:List α->Nat->List α->Prop->(List α->Prop)->Prop
 |xs,0,[],_,K=>K xs
 | [],_,_::_,F,_=>F
 |_::xs,0,c::cs,F,K=>lover xs 0 cs F λys=>K (c::ys)
 | [],_+1,[],F,_=>F
 |x::xs,n+1,cs,F,K=>lover xs n cs F λys=>K (x::ys)
def lcount {α:Type}:List α->Nat->Nat
 | [],n=>n
 |_::xs,n=>lcount xs (n+1)
def lnum {α:Type}(xs:List α)(K:Nat->Prop):Prop:=
 match xs with
 | []=>K 0| [_]=>K 1| [_,_]=>K 2| [_,_,_]=>K 3| [_,_,_,_]=>K 4| [_,_,_,_,_]=>K 5| [_,_,_,_,_,_]=>K 6| [_,_,_,_,_,_,_]=>K 7
 | [_,_,_,_,_,_,_,_]=>K 8| [_,_,_,_,_,_,_,_,_]=>K 9| [_,_,_,_,_,_,_,_,_,_]=>K 10| [_,_,_,_,_,_,_,_,_,_,_]=>K 11| [_,_,_,_,_,_,_,_,_,_,_,_]=>K 12
 |xs=>K (lcount xs 0)
def fv (v:V)(K:V->Prop):Prop:=
 match v with
 | .int k n=>K (.int k n)
 | .bool b=>K (.bool b)
 | .tt=>K .tt
 | .ff=>K .ff
 | .str s=>K (.str s)
 | .sl s xs=>K (.sl s xs)
 | .nilsl=>K .nilsl
 | .osl r g o l=>K (.osl r g o l)
 | .iptr cs o=>K (.iptr cs o)
 | .ptr r o=>K (.ptr r o)
 | .eptr r g i o=>K (.eptr r g i o)
 | .nilp=>K .nilp
 | .nilf=>K .nilf
 | .nili=>K .nili
 | .nilmap=>K .nilmap
 | .agg cs=>K (.agg cs)
 | .tup vs=>K (.tup vs)
 | .fn f a c=>K (.fn f a c)
 | .yld r=>K (.yld r)
 | .iface t v=>K (.iface t v)
 | .undef=>K .undef
theorem Bq (v:V)(K:V->Prop):fv v K=K v:=by cases v<;>rfl
def ofVal1:Value->V
 | .int k n=>.int k n
 | .bool true=>.tt
 | .bool false=>.ff
 | .string s=>bif Nat.ble s.data.toList.length 1000000 then .str s.data.toList else .undef
 | .slice none 0 0=>.nilsl
 | .pointer none=>.nilp
 | .nilFunc=>.nilf
 | .nilIface=>.nili
 | .map none=>.nilmap
 |_=>.undef
def lmap {α β:Type}(f:α->β):List α->List β
 | []=>[]
 |x::xs=>f x::lmap f xs
theorem Rt {α β:Type}(f:α->β): ∀xs,lmap f xs=xs.map f
 | []=>rfl
 |x::xs=>by rw[lmap,Rt f xs];rfl
def ofVal:Value->V
 | .agg cs=>.agg (lmap ofVal1 cs.toList)
 |v=>ofVal1 v
def opd (E:Env):Operand->V
 | .tmp t=>lk E t
 | .const v=>ofVal v
 | .global _=>.undef
 | .func f=>.fn (.func f) [] []
def opds (E:Env):List Operand->(List V->Prop)->Prop
 | [],K=>K []
 |x::xs,K=>fv (opd E x) λv=>opds E xs λvs=>K (v::vs)
def tyI (P:Program)(t:TypeId):Option TypeInfo:=lget P.types.toList t
def tyU (P:Program)(t:TypeId):Option TypeDesc:=
 match tyI P t with
 |some {desc:=.named _ u,.. }=>match tyI P u with
  |some i=>some i.desc
  |none=>none
 |some i=>some i.desc
 |none=>none
def aggT:TypeDesc->Bool
 | .struct _| .array _ _=>true
 |_=>false
def inI (n:Int):Prop:= -9223372036854775808≤n∧n≤9223372036854775807
def room (n bytes:Nat):Prop:=n*bytes≤70368744177664
mutual
def V.pureB:V->Bool
 | .osl (.loc _) .. | .ptr (.loc _) _| .eptr (.loc _) .. | .yld (.loc _)=>false
 | .agg cs=>V.pureL cs
 | .tup cs=>V.pureL cs
 | .fn _ a c=>V.pureL a&&V.pureL c
 | .iface _ v=>v.pureB
 |_=>true
def V.pureL:List V->Bool
 | []=>true
 |v::vs=>v.pureB&&V.pureL vs
end
def frz1 (v:V)(T:Heap)(F:Prop)(K:V->Heap->Prop):Prop:=
 match v with
 | .osl (.loc k) g 0 l=>match lget T k with
  |some (some (.vec g' sz xs))=>g=g'∧l=xs.length∧lset T k none λT'=>K (.sl sz xs) T'
  |_=>F
 |v=>bif v.pureB then K v T else F
def frzL (vs:List V)(T:Heap)(F:Prop)(K:List V->Heap->Prop):Prop:=
 match vs with
 | []=>K [] T
 |v::vs=>fv v λv=>frz1 v T F λv' T'=>frzL vs T' F λvs' T''=>K (v'::vs') T''
def frz (v:V)(T:Heap)(F:Prop)(K:V->Heap->Prop):Prop:=
 match v with
 | .agg cs=>frzL cs T F λcs' T'=>K (.agg cs') T'
 | .tup cs=>frzL cs T F λcs' T'=>K (.tup cs') T'
 |v=>frz1 v T F K
def frzAll (vs:List V)(T:Heap)(F:Prop)(K:List V->Heap->Prop):Prop:=
 match vs with
 | []=>K [] T
 |v::vs=>fv v λv=>frz v T F λv' T'=>frzAll vs T' F λvs' T''=>K (v'::vs') T''
def asI (v:V):Option (IntKind×Int):=
 match v with
 | .int k n=>some (k,n)
 | .str _=>none
 | .bool _=>none
 | .tt=>none
 | .ff=>none
 | .sl _ _=>none
 | .nilsl=>none
 | .osl _ _ _ _=>none
 | .iptr _ _=>none
 | .ptr _ _=>none
 | .eptr _ _ _ _=>none
 | .nilp=>none
 | .nilf=>none
 | .nili=>none
 | .agg _=>none
 | .tup _=>none
 | .fn _ _ _=>none
 | .yld _=>none
 | .iface _ _=>none
 | .nilmap=>none
 | .undef=>none
def asS (v:V):Option (List UInt8):=
 match v with
 | .str s=>some s
 | .int _ _=>none
 | .bool _=>none
 | .tt=>none
 | .ff=>none
 | .sl _ _=>none
 | .nilsl=>none
 | .osl _ _ _ _=>none
 | .iptr _ _=>none
 | .ptr _ _=>none
 | .eptr _ _ _ _=>none
 | .nilp=>none
 | .nilf=>none
 | .nili=>none
 | .agg _=>none
 | .tup _=>none
 | .fn _ _ _=>none
 | .yld _=>none
 | .iface _ _=>none
 | .nilmap=>none
 | .undef=>none
def isIntT (d:TypeDesc):Bool:=
 match d with
 | .int _=>true
 | .string=>false
 | .invalid=>false
 | .bool=>false
 | .float _=>false
 | .complex _=>false
 | .unsafePointer=>false
 | .pointer _=>false
 | .slice _=>false
 | .array _ _=>false
 | .map _ _=>false
 | .chan _ _=>false
 | .struct _=>false
 | .func _ _ _=>false
 | .interface _=>false
 | .tuple _=>false
 | .named _ _=>false
def isStrT (d:TypeDesc):Bool:=
 match d with
 | .int _=>false
 | .string=>true
 | .invalid=>false
 | .bool=>false
 | .float _=>false
 | .complex _=>false
 | .unsafePointer=>false
 | .pointer _=>false
 | .slice _=>false
 | .array _ _=>false
 | .map _ _=>false
 | .chan _ _=>false
 | .struct _=>false
 | .func _ _ _=>false
 | .interface _=>false
 | .tuple _=>false
 | .named _ _=>false
def kindN (k:IntKind):Nat:=
 match k with
 | .i8=>0
 | .i16=>1
 | .i32=>2
 | .i64=>3
 | .u8=>4
 | .u16=>5
 | .u32=>6
 | .u64=>7
def eq1 (P:Program)(t:TypeId)(x y:V):Option Bool:=
 match tyU P t with
 |none=>none
 |some d=>bif isIntT d then(match asI x with
   |none=>none
   |some p=>match asI y with
    |none=>none
    |some q=>bif Nat.beq (kindN p.1) (kindN q.1) then some (decide (p.2=q.2)) else none)
  else bif isStrT d then(match asS x with
   |none=>none
   |some a=>match asS y with
    |none=>none
    |some b=>some (decide (a=b)))
  else none
def eqF (P:Program)(i:Nat)(fs:List Field)(xs ys:List V)(F:Prop)(K:Bool->Prop):Prop:=
 match fs with
 | []=>K true
 |f::fs=>match xs with
  | []=>F
  |x::xs=>match ys with
   | []=>F
   |y::ys=>bif Nat.beq f.offset i then(match eq1 P f.type x y with
    |some e=>eqF P (i+1) fs xs ys F λr=>K (e&&r)
    |none=>F) else F
def eqOk (P : Program) (t : TypeId) (fs : List Field) : Bool := !P.stoodInHeld t && !P.eqGuardType P.depth t && fs.all fun f => !decide (f.name = "_")
def binK (P:Program)(t:TypeId)(op:BinOp)(x y:V)(F:Prop)(K:V->Prop):Prop:=
 match x,y with
 | .int .i64 a,.int .i64 b=>
  match op with
  | .add=>inI (a+b)∧K (.int .i64 (a+b))
  | .sub=>inI (a-b)∧K (.int .i64 (a-b))
  | .mul=>inI (a*b)∧K (.int .i64 (a*b))
  | .quo=>b≠0∧inI (a.tdiv b)∧K (.int .i64 (a.tdiv b))
  | .rem=>b≠0∧K (.int .i64 (a.tmod b))
  | .eql=>K (.bool (decide (a=b)))
  | .neq=>K (.bool (!decide (a=b)))
  | .lss=>K (.bool (decide (a<b)))
  | .leq=>K (.bool (decide (a≤b)))
  | .gtr=>K (.bool (decide (b<a)))
  | .geq=>K (.bool (decide (b≤a)))
  |_=>F
 | .int .u8 a,.int .u8 b=>
  match op with
  | .eql=>K (.bool (decide (a=b)))
  | .neq=>K (.bool (!decide (a=b)))
  | .lss=>K (.bool (decide (a<b)))
  | .leq=>K (.bool (decide (a≤b)))
  | .gtr=>K (.bool (decide (b<a)))
  | .geq=>K (.bool (decide (b≤a)))
  |_=>F
 | .int .u64 a,.int .u64 b=>
  match op with
  | .eql=>K (.bool (decide (a=b)))
  | .neq=>K (.bool (!decide (a=b)))
  | .lss=>K (.bool (decide (a<b)))
  | .leq=>K (.bool (decide (a≤b)))
  | .gtr=>K (.bool (decide (b<a)))
  | .geq=>K (.bool (decide (b≤a)))
  | .add=>K (.int .u64 (IntKind.u64.wrap (a+b)))
  | .sub=>K (.int .u64 (IntKind.u64.wrap (a-b)))
  | .mul=>K (.int .u64 (IntKind.u64.wrap (a*b)))
  |_=>F
 | .str a,.str b=>
  match op with
  | .add=>(a++b).length≤9223372036854775807∧K (.str (a++b))
  | .eql=>K (.bool (decide (a=b)))
  | .neq=>K (.bool (!decide (a=b)))
  | .lss=>K (.bool (Op.bytesLess a b))
  | .leq=>K (.bool (Op.bytesLess a b||decide (a=b)))
  | .gtr=>K (.bool (!(Op.bytesLess a b||decide (a=b))))
  | .geq=>K (.bool (!Op.bytesLess a b))
  |_=>F
 | .agg xs,.agg ys=>match tyU P t with
  |some (.struct fs)=>match op with
   | .eql=>eqOk P t fs.toList=true∧eqF P 0 fs.toList xs ys F λb=>K (.bool b)
   | .neq=>eqOk P t fs.toList=true∧eqF P 0 fs.toList xs ys F λb=>K (.bool (!b))
   |_=>F
  |_=>F
 | .tt,y=>match tyU P t,op,y with
  |some .bool,.eql,.tt=>K .tt|some .bool,.eql,.ff=>K .ff|some .bool,.eql,.bool b=>K (.bool b)
  |some .bool,.neq,.tt=>K .ff|some .bool,.neq,.ff=>K .tt|some .bool,.neq,.bool b=>K (.bool (!b))
  |_,_,_=>F
 | .ff,y=>match tyU P t,op,y with
  |some .bool,.eql,.tt=>K .ff|some .bool,.eql,.ff=>K .tt|some .bool,.eql,.bool b=>K (.bool (!b))
  |some .bool,.neq,.tt=>K .tt|some .bool,.neq,.ff=>K .ff|some .bool,.neq,.bool b=>K (.bool b)
  |_,_,_=>F
 | .bool a,y=>match tyU P t,op,y with
  |some .bool,.eql,.tt=>K (.bool a)|some .bool,.eql,.ff=>K (.bool (!a))|some .bool,.eql,.bool b=>K (.bool (a==b))
  |some .bool,.neq,.tt=>K (.bool (!a))|some .bool,.neq,.ff=>K (.bool a)|some .bool,.neq,.bool b=>K (.bool (!(a==b)))
  |_,_,_=>F
 |_,_=>F
def unK (op:UnOp)(x:V)(F:Prop)(K:V->Prop):Prop:=
 match op,x with
 | .not,.tt=>K .ff
 | .not,.ff=>K .tt
 | .not,.bool b=>K (.bool (!b))
 | .neg,.int .i64 n=>inI (-n)∧K (.int .i64 (-n))
 |_,_=>F
def partK (P:Program)(t:TypeId)(cs:List V)(off:Nat)(F:Prop)(K:V->Prop):Prop:=
 match tyU P t,tyI P t with
 |some d,some i=>bif aggT d then ltake (ldrop cs off) i.size F λys=>K (.agg ys) else match lget cs off with
  |some v=>fv v K
  |none=>F
 |_,_=>F
def loadK (P:Program)(t:TypeId)(p:V)(T:Heap)(B:Base)(imps:List Nat)(F:Prop)(K:V->Prop):Prop:=
 match p with
 | .ptr (.loc k) off=>match lget T k with
  |some (some (.box cs))=>partK P t cs off F K
  |_=>F
 | .iptr cs off=>partK P t cs off F K
 | .ptr (.abs r) off=>r∉imps∧ ∃cs,B r=some (.box cs)∧partK P t cs off F K
 | .eptr (.loc k) g i off=>match lget T k with
  |some (some (.vec g' _ xs))=>g=g'∧ ∃x,xs[i]?=some x∧partK P t x.cells off F K
  |_=>F
 |_=>F
def mkE (x0:V)(cs:List V):V:=
 match x0 with
 | .agg _=>.agg cs
 |_=>match cs with
  | [c]=>c
  |cs=>.agg cs
def storeK (P:Program)(t:TypeId)(p x:V)(T:Heap)(F:Prop)(K:Heap->Prop):Prop:=
 match p,tyI P t with
 | .eptr (.loc k) g ix off,some i=>match lget T k with
  |some (some (.vec g' sz xs))=>g=g'∧ ∃x0,xs[ix]?=some x0∧(bif Nat.beq (lcount x.cells 0) i.size&&onesB x.cells&&V.pureL x.cells then lover x0.cells off x.cells F λcs'=>lset T k (some (.vec g' sz (xs.set ix (mkE x0 cs')))) K else F)
  |_=>F
 | .ptr (.loc k) off,some i=>match lget T k with
  |some (some (.box cs))=>bif Nat.beq (lcount x.cells 0) i.size&&onesB x.cells then lover cs off x.cells F λcs'=>lset T k (some (.box cs')) K else F
  |_=>F
 |_,_=>F
def lo? (E:Env):Option Operand->Int->(Int->Prop)->Prop->Prop
 |none,d,K,_=>K d
 |some x,_,K,F=>match opd E x with
  | .int _ n=>K n
  |_=>F
def appSrc (x:V)(sz:Nat)(T:Heap)(F:Prop)(K:List V->Prop):Prop:=
 match x with
 | .sl sz' ys=>bif Nat.beq sz' sz then K ys else F
 | .nilsl=>K []
 | .osl (.loc k) g 0 l=>match lget T k with
  |some (some (.vec g' sz' ys))=>bif Nat.beq sz' sz then g=g'∧l=ys.length∧K ys else F
  |_=>F
 |_=>F
def appK (P:Program)(t:TypeId)(s x:V)(T:Heap)(F:Prop)(K:V->Heap->Prop):Prop:=
  match tyU P t with
  |some (.slice e)=>match tyI P e with
    |some i=>match i.zero with
     |some z=>bif Nat.ble 1 i.size&&Nat.beq z.cells.size i.size&&Nat.ble 1 i.bytes then appSrc x i.size T F λys=>
      match s with
      | .nilsl=>room ys.length i.bytes∧lnum T λn=>lsnoc T (some (.vec 0 i.size ys)) λT'=>K (.osl (.loc n) 0 0 ys.length) T'
      | .osl (.loc k) g 0 l=>match lget T k with
        |some (some (.vec g' sz xs))=>bif Nat.beq sz i.size then g=g'∧l=xs.length∧room (xs.length+ys.length) i.bytes∧lset T k (some (.vec (bump g) sz (xs++ys))) λT'=>K (.osl (.loc k) (bump g) 0 (xs.length+ys.length)) T' else F
        |_=>F
      |_=>F
      else F
     |none=>F
    |none=>F
  |_=>F
def buildK (places:List (Nat×Nat))(E:Env):List (Nat×Operand)->List V->Prop->(List V->Prop)->Prop
 | [],cs,_,K=>K cs
 | (i,x)::ps,cs,F,K=>match lget places i with
  |some (off,sz)=>fv (opd E x) λv=>bif Nat.beq (lcount v.cells 0) sz&&onesB v.cells then lover cs off v.cells F λcs'=>buildK places E ps cs' F K else F
  |none=>F
def okEs (sz:Nat):List V->Prop
 | []=>True
 |x::xs=>(Nat.beq (lcount x.cells 0) sz&&onesB x.cells)=true∧okEs sz xs
def zeroOf (P:Program)(t:TypeId):Option V:=
 match tyI P t with
 |some i=>match i.zero with
  |some z=>some (ofVal z)
  |none=>none
 |none=>none
def places (P:Program):List Field->Option (List (Nat×Nat))
 | []=>some []
 |f::fs=>match tyI P f.type,places P fs with
  |some i,some ps=>some ((f.offset,i.size)::ps)
  |_,_=>none
def elems (E:Env):List (Nat×Operand)->Nat->(List V->Prop)->Prop->Prop
 | [],_,K,_=>K []
 | (i,x)::ps,n,K,F=>bif Nat.beq i n then fv (opd E x) λv=>elems E ps (n+1) (λvs=>K (v::vs)) F else F
def arrPl (sz:Nat):Nat->Nat->List (Nat×Nat)
 |0,_=>[]
 |n+1,i=>(i*sz,sz)::arrPl sz n (i+1)
def evOp (c:Cx)(o:Op)(E:Env)(T:Heap)(F:Prop)(K:V->Heap->Prop):Prop:=
 match o with
 | .move x| .assign x=>fv (opd E x) λv=>K v T
 | .pick c a b=>match opd E c with
  | .tt=>fv (opd E a) λv=>K v T
  | .ff=>fv (opd E b) λv=>K v T
  | .bool t=>(t=true->fv (opd E a) λv=>K v T)∧(t=false->fv (opd E b) λv=>K v T)
  |_=>F
 | .box t x=>match tyI c.P t with
  |some _=>fv (opd E x) λv=>bif onesB v.cells then lnum T λn=>lsnoc T (some (.box v.cells)) λT'=>K (.ptr (.loc n) 0) T' else F
  |none=>F
 | .alloc t=>match zeroOf c.P t with
  |some z=>bif onesB z.cells then lnum T λn=>lsnoc T (some (.box z.cells)) λT'=>K (.ptr (.loc n) 0) T' else F
  |none=>F
 | .build t ps=>match tyU c.P t,zeroOf c.P t with
  |some (.struct fs),some z=>match places c.P fs.toList with
   |some pl=>buildK pl E ps.toList z.cells F λcs=>K (.agg cs) T
   |none=>F
  |some (.array n e),some z=>match tyI c.P e with
   |some ti=>buildK (arrPl ti.size n 0) E ps.toList z.cells F λcs=>K (.agg cs) T
   |none=>F
  |_,_=>F
 | .buildSlice t len ps=>match tyU c.P t with
  |some (.slice e)=>match tyI c.P e with
   |some i=>match i.zero with
    |some _=>bif Nat.beq (lcount ps.toList 0) len&&Nat.ble (len*i.size) 16777216&&Nat.ble 1 i.size then elems E ps.toList 0 (λvs=>frzAll vs T F λvs' T'=>
     okEs i.size vs'∧lnum T' λn=>lsnoc T' (some (.vec 0 i.size vs')) λT''=>K (.osl (.loc n) 0 0 len) T'') F else F
    |none=>F
   |none=>F
  |_=>F
 | .load t x=>loadK c.P t (opd E x) T c.B c.imps F λv=>K v T
 | .store t x y=>fv (opd E y) λv=>storeK c.P t (opd E x) v T F λT'=>K (.tup []) T'
 | .nilCheck x=>match opd E x with
  | .ptr (.loc k) o=>match lget T k with
   |some (some (.box _))=>K (.ptr (.loc k) o) T
   |_=>F
  | .ptr (.abs r) o=>r∉c.imps∧(∃cs,c.B r=some (.box cs))∧K (.ptr (.abs r) o) T
  | .iptr cs o=>K (.iptr cs o) T
  | .fn f a cap=>match f with
   | .func _=>K (.fn f a cap) T
   |_=>F
  |_=>F
 | .binOp op t x y _=>binK c.P t op (opd E x) (opd E y) F λv=>K v T
 | .unOp op _ x=>unK op (opd E x) F λv=>K v T
 | .convert s d x=>match tyU c.P s,tyU c.P d,opd E x with
  |some _,some (.int k),.int _ n=>K (.int k (k.wrap n)) T
  |_,_,_=>F
 | .makeFunc f a cap=>opds E a.toList λva=>opds E cap.toList λvc=>K (.fn f va vc) T
 | .slice t x lo hi mx=>match tyU c.P t,opd E x,mx with
  |some .string,.str s,none=>lo? E lo 0 (λl=>lo? E hi s.length (λh=>0≤l∧l≤h∧h≤s.length∧K (.str ((s.drop l.toNat).take (h.toNat-l.toNat))) T) F) F
  |some (.slice e),.sl sz xs,none=>match tyI c.P e with
   |some ti=>bif Nat.beq sz ti.size then lo? E lo 0 (λl=>lo? E hi xs.length (λh=>0≤l∧l≤h∧h≤xs.length∧K (.sl sz ((xs.drop l.toNat).take (h.toNat-l.toNat))) T) F) F else F
   |none=>F
  |_,_,_=>F
 | .fieldAddr t x f=>match tyU c.P t with
  |some (.struct fs)=>match lget fs.toList f with
   |some fd=>match tyI c.P fd.type with
    |some ti=>bif Nat.ble 1 ti.size then match opd E x with
     | .ptr (.loc k) off=>match lget T k with
      |some (some (.box _))=>K (.ptr (.loc k) (off+fd.offset)) T
      |_=>F
     | .ptr (.abs r) off=>r∉c.imps∧(∃cs,c.B r=some (.box cs))∧K (.ptr (.abs r) (off+fd.offset)) T
     | .iptr cs off=>K (.iptr cs (off+fd.offset)) T
     | .eptr (.loc k) g i off=>match lget T k with
      |some (some (.vec g' _ _))=>g=g'∧K (.eptr (.loc k) g i (off+fd.offset)) T
      |_=>F
     |_=>F
     else F
    |none=>F
   |none=>F
  |_=>F
 | .field t x f=>match tyU c.P t,opd E x with
  |some (.struct fs),.agg cs=>match lget fs.toList f with
   |some fd=>partK c.P fd.type cs fd.offset F λv=>K v T
   |none=>F
  |_,_=>F
 | .indexAddr t x ix=>match tyU c.P t,opd E x,opd E ix with
  |some (.slice e),.sl sz xs,.int _ i=>match tyI c.P e with
   |some ti=>bif Nat.beq sz ti.size&&Nat.ble 1 sz then 0≤i∧ ∃v,xs[i.toNat]?=some v∧K (.iptr v.cells 0) T else F
   |none=>F
  |some (.slice e),.osl (.loc k) g off len,.int _ i=>match tyI c.P e,lget T k with
   |some ti,some (some (.vec g' sz _))=>bif Nat.beq sz ti.size&&Nat.ble 1 sz then g=g'∧0≤i∧i<len∧K (.eptr (.loc k) g (off+i.toNat) 0) T else F
   |_,_=>F
  |_,_,_=>F
 | .index t x ix=>match tyU c.P t,opd E x,opd E ix with
  |some .string,.str s,.int _ i=>0≤i∧ ∃b,s[i.toNat]?=some b∧K (.int .u8 b.toNat) T
  |some (.array len e),.agg cs,.int _ i=>match tyI c.P e with
   |some ti=>0≤i∧i<len∧partK c.P e cs (i.toNat*ti.size) F λv=>K v T
   |none=>F
  |_,_,_=>F
 | .extract x i=>match opd E x with
  | .tup vs=>match lget vs i with
   |some v=>fv v λv=>K v T
   |none=>F
  |_=>F
 | .call {callee:=.builtin b,args,argTypes}=>match b,args.toList,argTypes.toList with
  | .len,[x],[t]=>match tyU c.P t,opd E x with
   |some (.slice _),.sl _ xs=>K (.int .i64 xs.length) T
   |some (.slice _),.nilsl=>K (.int .i64 0) T
   |some (.slice _),.osl (.loc k) g _ l=>match lget T k with
    |some (some (.vec g' _ _))=>g=g'∧K (.int .i64 l) T
    |_=>F
   |some .string,.str s=>K (.int .i64 s.length) T
   |_,_=>F
  | .max,[x,y],_=>match opd E x,opd E y with
   | .int k a,.int _ b=>K (.int k (if b>a then b else a)) T
   |_,_=>F
  | .min,[x,y],_=>match opd E x,opd E y with
   | .int k a,.int _ b=>K (.int k (if b<a then b else a)) T
   |_,_=>F
  | .append,[x,y],[t,t']=>match tyU c.P t' with
   |some (.slice _)=>appK c.P t (opd E x) (opd E y) T F K
   |_=>F
  |_,_,_=>F
 |_=>F
def memN:List Nat->Nat->Bool
 | [],_=>false
 |x::xs,n=>bif Nat.beq x n then true else memN xs n
def idxs {α:Type}:Nat->List α->List Nat
 |_,[]=>[]
 |i,_::r=>i::idxs (i+1) r
def putE (nt:Nat)(d:Option Tmp)(v:V)(E:Env)(F:Prop)(K:Env->Prop):Prop:=
 match d with
 |none=>K E
 |some d=>bif Nat.blt d nt then K ((d,v)::E) else F
def evp (c:Cx):Nat->List Item->Env->Heap->Prop
 |0,todo,E,T=>Goes c todo E T
 |n+1,todo,E,T=>
  match todo with
  | []=>c.X .normal ⟨E,T,c.B,c.D⟩
  | .code (.seq a b)::k=>evp c n (.code a::.code b::k) E T
  | .code .skip::k=>evp c n k E T
  | .code (.label _)::k=>evp c n k E T
  | .inBlock _::k=>evp c n k E T
  | .inScope _::k=>evp c n k E T
  | .code .ret::_=>c.X .ret ⟨E,T,c.B,c.D⟩
  | .code (.cond (.tmp s) a b)::k=>match lk E s with
   | .tt=>evp c n (.code a::k) E T
   | .ff=>evp c n (.code b::k) E T
   | .bool t=>(t=true->Goes c (.code a::k) ((s,.tt)::E) T)∧(t=false->Goes c (.code b::k) ((s,.ff)::E) T)
   |_=>Goes c todo E T
  | .code (.block id b)::k=>evp c n (.code b::.inBlock id::k) E T
  | .code (.scope b)::k=>evp c n (.code b::.inScope b::k) E T
  | .code (.exit id)::k=>bif memN c.stop id then Goes c todo E T else match exitTo id k with
   |some k'=>evp c n k' E T
   |none=>Goes c todo E T
  | .code (.goto l)::k=>match gotoIn l k with
   |some k'=>evp c n k' E T
   |none=>Goes c todo E T
  | .code (.region _ ops false)::k=>evp c n (.inRegion ops (idxs 0 ops.toList)::k) E T
  | .inRegion _ []::k=>evp c n k E T
  | .inRegion ops (i::rest)::k=>match lget ops.toList i with
   |none=>Goes c todo E T
   |some o=>
    let skip:Prop:=putE c.nt o.dst (.tup []) E (Goes c todo E T) λE'=>evp c n (.inRegion ops rest::k) E' T
    let step (E:Env):Prop:=
     match o.op with
     | .call {callee:=.value f,args,.. }=>match opd E f with
      | .fn (.func g) first cap=>opds E args.toList λvs=>putE c.nt o.dst .undef E (Goes c todo E T) λ_=>CallThen c g (first++vs++cap) E T λx s'=>putE c.nt o.dst x s'.E (Goes c todo E T) λE'=>evp {c with B:=s'.B,D:=s'.D} n (.inRegion ops rest::k) E' s'.T
      |_=>Goes c todo E T
     |op=>evOp c op E T (Goes c todo E T) λv T'=>putE c.nt o.dst v E (Goes c todo E T) λE'=>evp c n (.inRegion ops rest::k) E' T'
    match o.guard with
    |none=>step E
    |some (j,want)=>match lget ops.toList j with
     |none=>Goes c todo E T
     |some oj=>match oj.dst with
      |none=>Goes c todo E T
      |some s=>match lk E s with
       | .tt=>bif want then step E else skip
       | .ff=>bif want then skip else step E
       | .bool t=>(t=true->Goes c todo ((s,.tt)::E) T)∧(t=false->Goes c todo ((s,.ff)::E) T)
       | .tup []=>skip
       |_=>Goes c todo E T
  |_=>Goes c todo E T
section
variable {imps:List Nat} {nt:Nat} {w w':World} {β β':Nat->Loc} {H H':Heap} {m:List Nat} {E:Env} {T:Heap} {B:Base} {D:List Nat} {a:Act}
theorem U4 {n:Nat}: ∀(E:Env) (k:Nat),(∀p∈E,p.2.sc n)->(lk E k).sc n
 | [],_,_=>trivial
 | (k',v)::E,k,h=>by
  simp only[lk];cases Nat.beq k' k
  ·exact U4 E k λp hp=>h p (Are _ hp)
  ·exact h (k',v) (Ari ..)
theorem SRel.lt (h:SRel imps nt w β H m ⟨E,T,B,D⟩ a){k r:Nat}(hk:m[k]?=some r):r<H.length:=by
 have h1:k<T.length:=by have:=Ab hk;have:=h.mlen;simp_all
 exact Ab (h.loc k r _ hk (Aq3 h1))
theorem SRel.at (h:SRel imps nt w β H m ⟨E,T,B,D⟩ a){k:Nat}{o:HObj}(ho:T[k]?=some (some o)): ∃r,m[k]?=some r∧H[r]?=some (some (o.conv m)):=by
 have h1:k<m.length:=by have:=Ab ho;have:=h.mlen;simp_all
 exact⟨m[k],Aq3 h1,by simpa using h.loc k m[k] _ (Aq3 h1) ho⟩
theorem SRel.inj (h:SRel imps nt w β H m ⟨E,T,B,D⟩ a){k k' r:Nat}(hk:m[k]?=some r)(hk':m[k']?=some r):k=k':=by
 obtain⟨h1,e1⟩:=Ar8.1 hk;obtain⟨h2,e2⟩:=Ar8.1 hk';exact(List.getElem_inj h.nodup).1 (e1.trans e2.symm)
theorem SRel.notIn (h:SRel imps nt w β H m ⟨E,T,B,D⟩ a){r:Nat}{o:HObj}(hr:B r=some o)(hi:r∉imps):r∉m:=λhm=>by
 obtain⟨k,hk⟩:=Ar7 hm
 rcases Ar3 k imps.length with h1|h1
 ·have h2:(m.take imps.length)[k]?=some r:=by rw[Asv,if_pos h1];exact hk
  rw[h.imp] at h2;exact hi (Aq7 h2)
 ·have h2:B r=none:=h.own k r h1 hk;rw[hr] at h2;cases h2
theorem SRel.baseAt (h:SRel imps nt w β H m ⟨E,T,B,D⟩ a){r:Nat}{o:HObj}(hi:r∉imps)(hr:B r=some o):H[r]?=some (some o):=by
 have hl:r<H.length:=by
  rcases Ar3 r H.length with h1|h1
  ·exact h1
  ·have h2:B r=none:=h.fut r h1;rw[hr] at h2;cases h2
 have:=h.base r hl (h.notIn hr hi);simp only at this;rw[this,hr]
theorem SRel.put (h:SRel imps nt w β H m ⟨E,T,B,D⟩ a){d:Nat}(hd:d<nt){x:V}{v:Value}(hx:Rep w β H (x.conv m) v):
  SRel imps nt w β H m ⟨(d,x)::E,T,B,D⟩ (a.put (some d) v):=by
 have hs:=h.size;refine⟨h.hrel,by simpa[Act.put] using hs,λk=> ?_,h.mlen,h.nodup,h.loc,h.imp,h.base,h.fut,h.own,?_,h.scT,h.defs,h.marks⟩
 ·simp only[lk,Act.put];cases hb:Nat.beq d k with
  |true=>
   obtain rfl:=Arn hb;have:d<a.tmps.size:=by omega
   simpa[this] using hx
  |false=>
   have hne:d≠k:=λe=>by subst e;rw[Av3] at hb;cases hb
   have:=h.env k;simp only[cond_false];rw[show(a.tmps.setIfInBounds d v).getD k Go.undef=a.tmps.getD k Go.undef by simp[Atr,hne]];exact this
 ·intro p hp
  rcases Arl.1 hp with rfl|hp
  ·have:=De _ hx;rwa [h.mlen] at this
  ·exact h.scE p hp
theorem SRel.know (h:SRel imps nt w β H m ⟨E,T,B,D⟩ a){s:Tmp}{x:V}(hx:Rep w β H (x.conv m) (a.tmps.getD s Go.undef)):SRel imps nt w β H m ⟨(s,x)::E,T,B,D⟩ a:=by
 refine⟨h.hrel,h.size,λk=> ?_,h.mlen,h.nodup,h.loc,h.imp,h.base,h.fut,h.own,?_,h.scT,h.defs,h.marks⟩
 ·simp only[lk];cases hb:Nat.beq s k with
  |true=>
   obtain rfl:=Arn hb;exact hx
  |false=>exact h.env k
 ·intro p hp
  rcases Arl.1 hp with rfl|hp
  ·have:=De _ hx;rwa [h.mlen] at this
  ·exact h.scE p hp
theorem RoundOk.mono {ro:Option (Nat×Nat)}{x:Option Nat}(h:RoundOk β H ro x)(f:Fr w β H w' β' H'):RoundOk β' H' ro x:=by
 cases ro with
 |none=>exact h
 |some p=>
  obtain⟨h1,h2,N,h3⟩:=h;exact⟨h1,f.toFr0.fixed h2,N,(f.fix _ h2).trans h3⟩
theorem Agn {l:List Nat}{x:Nat}(h:l.Nodup)(hx:x∉l):(l++ [x]).Nodup:=by
 rw[As7];exact⟨h,by simp,λa ha b hb=>by simp at hb;subst hb;exact λe=>hx (e▸ha)⟩
theorem SRel.snoc (h:SRel imps nt w β H m ⟨E,T,B,D⟩ a){o:HObj}(hsc:o.sc m.length)(f:Fr w β H w' β' (H++ [some (o.conv m)]))(hr:HRel w' β' (H++ [some (o.conv m)])):
  SRel imps nt w' β' (H++ [some (o.conv m)]) (m++ [H.length]) ⟨E,T++ [some o],B,D⟩ a:=by
 have hml:m.length=T.length:=h.mlen;have hnot:H.length∉m:=λhm=>by
  obtain⟨k,hk⟩:=Ar7 hm;have:=h.lt hk;omega
 have hscE: ∀p∈E,p.2.sc m.length:=λp hp=>by have:=h.scE p hp;rwa [←h.mlen] at this
 have imp:=h.imp;have hil:imps.length≤m.length:=by
  have:=congrArg List.length imp;simp at this;omega
 refine⟨hr,h.size,λk=> ?_,by simp[hml],Agn h.nodup hnot,?_,?_,?_,?_,?_,?_,?_,h.defs,?_⟩
 ·rw[V.conv_ext (Ara _) _ (U4 E k hscE)];exact(h.env k).mono f
 ·intro k r o' hk ho'
  rcases Fh hk with⟨h1,h2⟩| ⟨h1,h2⟩
  ·have ho2:T[k]?=some o':=by
    rw[Aq9 (by omega)] at ho';exact ho'
   have h3:=h.loc k r o' h2 ho2;rw[Aq9 (h.lt h2),h3];cases o' with
   |none=>rfl
   |some o'=>
    have:=h.scT k o' ho2;rw[←h.mlen] at this;simp[HObj.conv_ext (Ara _) o' this]
  ·subst h1 h2;have h4:=ho';rw[hml] at h4;simp at h4;subst h4;simp[HObj.conv_ext (Ara _) o hsc]
 ·show(m++ [H.length]).take imps.length=imps;rw[As9 hil];exact imp
 ·intro r hr' hm;have hr2:r<H.length:=by
   rcases Ar3 r H.length with h1|h1
   ·exact h1
   ·simp at hr';exact absurd (Art m (by simp;omega)) hm
  rw[Aq9 hr2];exact h.base r hr2 λhx=>hm (Ar0 _ hx)
 ·intro r hr';simp at hr';exact h.fut r (by omega)
 ·intro k r hk1 hk2
  rcases Fh hk2 with⟨h1,h2⟩| ⟨h1,h2⟩
  ·exact h.own k r hk1 h2
  ·subst h2;exact h.fut _ (Ara _)
 ·intro p hp;exact V.sc_mono (by simp) p.2 (h.scE p hp)
 ·intro k o' ho';show o'.sc (T++ [some o]).length
  rcases Fh ho' with⟨h1,h2⟩| ⟨h1,h2⟩
  ·exact HObj.sc_mono (by simp) o' (h.scT k o' h2)
  ·injection h2 with h2
   subst h2;exact HObj.sc_mono (by simp[hml]) o' hsc
 ·intro j k hj;obtain⟨r,b,N,h1,h2,h3,h4⟩:=h.marks j k hj;have hk1:k<m.length:=Ab h1;refine⟨r,b,N,by rw[Aq9 hk1];exact h1,?_,?_,h4⟩
  ·show(T++ [some o])[k]?=_;rw[Aq9 (by omega)];exact h2
  ·have h5:=h.loc k r _ h1 h2;obtain⟨o1,ho1,e,hb⟩:=f.evo r .dfr (h.lt h1) (by rw[Aq9 (h.lt h1),h5];rfl);exact(hb (by rw[h3];simp) (by cases o1<;>first|exact e.elim|trivial)).trans h3
theorem SRel.setAt (h:SRel imps nt w β H m ⟨E,T,B,D⟩ a){k r:Nat}{o':Option HObj}(hk:m[k]?=some r)(hsc: ∀o,o'=some o->o.sc m.length)
  (hD:k∈D->o'=some .dfr)
  (f:Fr w β H w' β (H.set r (o'.map (HObj.conv m)))) (hr:HRel w' β (H.set r (o'.map (HObj.conv m)))):
  SRel imps nt w' β (H.set r (o'.map (HObj.conv m))) m ⟨E,T.set k o',B,D⟩ a:=by
 have hml:m.length=T.length:=h.mlen;have hrl:=h.lt hk;have hrm:r∈m:=Aq7 hk;refine⟨hr,h.size,λj=>(h.env j).mono f,by simpa using hml,h.nodup,?_,h.imp,?_,λr hr=>h.fut r (by simpa using hr),h.own,?_,?_,h.defs,?_⟩
 ·intro j q o hj ho
  by_cases e:j=k
  ·subst e;have:q=r:=Option.some.inj (hj.symm.trans hk);subst this;have hjT:j<T.length:=by have:=Ab hk;omega
   simp only[As3,hjT,if_true] at ho;injection ho with ho
   subst ho;simp[hrl]
  ·have hne:q≠r:=λe'=>e (h.inj hj (e'▸hk));simp only at ho;rw[Arj (λx=>e x.symm)] at ho;rw[Arj (λx=>hne x.symm)];exact h.loc j q o hj ho
 ·intro q hq hqm;rw[Arj (λx:r=q=>hqm (x▸hrm))];exact h.base q (by simpa using hq) hqm
 ·intro p hp;simpa using h.scE p hp
 ·intro j o ho;simp only[Atp]
  by_cases e:j=k
  ·subst e;have hjT:j<T.length:=by have:=Ab hk;omega
   simp only[As3,hjT,if_true] at ho;injection ho with ho
   rw[←hml];exact hsc o ho
  ·simp only at ho;rw[Arj (λx=>e x.symm)] at ho;exact h.scT j o ho
 ·intro j q hj;obtain⟨r',b,N,h1,h2,h3,h4⟩:=h.marks j q hj;refine⟨r',b,N,h1,?_,h3,h4⟩
  by_cases e:q=k
  ·subst e;have hjT:q<T.length:=by have:=Ab hk;omega
   simp only[As3,hjT,if_true,hD (Aq7 hj)]
  ·simp only;rw[Arj (λx=>e x.symm)];exact h2
theorem SRel.set (h:SRel imps nt w β H m ⟨E,T,B,D⟩ a){k r:Nat}{o':Option HObj}(hk:m[k]?=some r)(hsc: ∀o,o'=some o->o.sc m.length)
  (hD: ∀o,T[k]?=some (some o)->o=.dfr->o'=some .dfr)
  (f:Fr w β H w' β (H.set r (o'.map (HObj.conv m)))) (hr:HRel w' β (H.set r (o'.map (HObj.conv m)))):
  SRel imps nt w' β (H.set r (o'.map (HObj.conv m))) m ⟨E,T.set k o',B,D⟩ a:=
 h.setAt hk hsc (λhm=>by
  obtain⟨j,hj,e⟩:=Ata.1 hm;obtain⟨r',b,N,h1,h2,h3,h4⟩:=h.marks j k (by simp only;rw[Aq3 hj,e]);exact hD _ h2 rfl) f hr
theorem SRel.same (h:SRel imps nt w β H m ⟨E,T,B,D⟩ a)(f:Fr w β H w' β H)(hr:HRel w' β H):SRel imps nt w' β H m ⟨E,T,B,D⟩ a:=
 ⟨hr,h.size,λk=>(h.env k).mono f,h.mlen,h.nodup,h.loc,h.imp,h.base,h.fut,h.own,h.scE,h.scT,h.defs,h.marks⟩
end
theorem Bz {α:Type}: ∀(xs:List α) (n:Nat) (y:α) (K:List α->Prop),lset xs n y K=K (xs.set n y)
 | [],n,y,K=>by simp[lset]
 |x::xs,0,y,K=>rfl
 |x::xs,n+1,y,K=>by rw[lset,Bz xs n];rfl
theorem Jn {α:Type}: ∀(xs:List α) (y:α) (K:List α->Prop),lsnoc xs y K=K (xs++ [y])
 | [],y,K=>rfl
 |x::xs,y,K=>by rw[lsnoc,Jn xs];rfl
theorem Og {α:Type}: ∀(xs:List α) (n:Nat),ldrop xs n=xs.drop n
 |xs,0=>by cases xs<;>rfl
 | [],n+1=>rfl
 |x::xs,n+1=>by rw[ldrop,Og xs n];rfl
theorem C5 {α:Type}: ∀(xs:List α) (n:Nat),lcount xs n=xs.length+n
 | [],n=>by simp[lcount]
 |x::xs,n=>by rw[lcount,C5 xs];simp;omega
theorem Ru {α:Type}(xs:List α)(K:Nat->Prop):lnum xs K=K xs.length:=by
 unfold lnum;split<;>first|rfl| (rw[C5];simp)
theorem Jo (E:Env): ∀(xs:List Operand) (K:List V->Prop),opds E xs K=K (xs.map (opd E))
 | [],K=>rfl
 |x::xs,K=>by rw[opds,Bq,Jo E xs];rfl
theorem M6 {α:Type}{F:Prop}: ∀(xs:List α) (n:Nat) (K:List α->Prop),ltake xs n F K->F∨(n≤xs.length∧K (xs.take n))
 |xs,0,K,h=>.inr ⟨Aq4 _,by cases xs<;>simpa[ltake] using h⟩
 | [],n+1,K,h=>.inl h
 |x::xs,n+1,K,h=>by
  rw[ltake] at h
  rcases M6 xs n _ h with h| ⟨h1,h2⟩
  ·exact .inl h
  ·exact .inr ⟨by simp;omega,by simpa using h2⟩
def over {α:Type}(xs:List α)(n:Nat)(cs:List α)(ys:List α):Prop:=
 n+cs.length≤xs.length∧ys.length=xs.length∧ ∀j,ys[j]?=if n≤j∧j<n+cs.length then cs[j-n]? else xs[j]?
theorem Hz {α:Type}{F:Prop}: ∀(xs:List α) (n:Nat) (cs:List α) (K:List α->Prop),lover xs n cs F K->F∨ ∃ys,over xs n cs ys∧K ys
 | [],n,c::cs,K,h=>by cases n<;>exact .inl h
 | [],0,[],K,h=>.inr ⟨[],⟨by simp,rfl,λj=>by simp⟩,h⟩
 | [],n+1,[],K,h=>.inl h
 |x::xs,0,[],K,h=>.inr ⟨x::xs,⟨by simp,rfl,λj=>by simp⟩,h⟩
 |x::xs,0,c::cs,K,h=>by
  rw[lover] at h
  rcases Hz xs 0 cs _ h with h| ⟨ys,⟨h1,h2,h3⟩,h4⟩
  ·exact .inl h
  ·refine .inr ⟨c::ys,⟨by simp at h1 ⊢;omega,by simp[h2],λj=> ?_⟩,h4⟩;cases j with
   |zero=>simp
   |succ j=>
    have:=h3 j;simp only[Asx,this];simp only[Aq4,Ary,true_and,Aq8,Av1,Auh,Asx]
 |x::xs,n+1,cs,K,h=>by
  rw[lover] at h
  rcases Hz xs n cs _ h with h| ⟨ys,⟨h1,h2,h3⟩,h4⟩
  ·exact .inl h
  ·refine .inr ⟨x::ys,⟨by simp;omega,by simp[h2],λj=> ?_⟩,h4⟩;cases j with
   |zero=>simp
   |succ j=>
    have:=h3 j;simp only[Asx,this];have e1:(n+1≤j+1∧j+1<n+1+cs.length) ↔ (n≤j∧j<n+cs.length):=by omega
    simp only[e1,Nat.add_sub_add_right]
def OpTo (c:Cx)(op:Op)(E:Env)(T:Heap)(x:V)(T':Heap):Prop:=
 ∀(o:Oper),o.op=op-> ∀(w:World) (β:Nat->Loc) (H:Heap) (m:List Nat) (a:Act),SRel c.imps c.nt w β H m ⟨E,T,c.B,c.D⟩ a->
  ∃(nx:Next) (v:Value) (w':World) (β':Nat->Loc) (H':Heap) (m':List Nat),(execOp a.eval o).run c.P w=.ok nx w'∧(nx=.value v∨nx=.skip∧v=Go.undef)∧
   SRel c.imps c.nt w' β' H' m' ⟨E,T',c.B,c.D⟩ a∧Fr w β H w' β' H'∧Rep w' β' H' (x.conv m') v∧m<+:m'
def OpStill (c:Cx)(op:Op)(E:Env)(T:Heap)(x:V):Prop:=
 ∀(o:Oper),o.op=op-> ∀(w:World) (β:Nat->Loc) (H:Heap) (m:List Nat) (a:Act),SRel c.imps c.nt w β H m ⟨E,T,c.B,c.D⟩ a->
  ∃v,(execOp a.eval o).run c.P w=.ok (.value v) w∧Rep w β H (x.conv m) v
theorem OpTo.still {c:Cx}{op:Op}{E:Env}{T:Heap}{x:V}(h:OpStill c op E T x):OpTo c op E T x T:=by
 intro o ho w β H m a hs;obtain⟨v,h1,h2⟩:=h o ho w β H m a hs;exact⟨_,v,w,β,H,m,h1,.inl rfl,hs,Fr.refl _ _ _,h2,Ar6 _⟩
section
variable {w:World} {β:Nat->Loc} {H:Heap} {m:List Nat}
theorem U7 (v:Value):Rep w β H ((ofVal1 v).conv m) v:=by
 unfold ofVal1;split<;>try exact .undef _
 ·exact .int _ _
 ·exact .tt
 ·exact .ff
 ·rename_i s;cases hb:Nat.ble s.data.toList.length 1000000 with
  |false=>exact .undef _
  |true=>
   have hl:s.data.toList.length≤1000000:=Arp hb;have:=Rep.str (w:=w) (β:=β) (H:=H) s.data.toList (by unfold maxLen;omega);simpa[V.conv] using this
 ·exact .nilsl
 ·exact .nilp
 ·exact .nilf
 ·exact .nili
 ·exact .nilmap
theorem Qb (v:Value):Rep w β H ((ofVal v).conv m) v:=by
 unfold ofVal;split
 ·rename_i cs;simp only[V.conv,Rt,V.convL_eq];refine .agg _ _ (by simp) λj c v hj hv=> ?_;simp only[Avf,Arv,Asm,hv,Atq,Option.some.injEq,Function.comp_apply] at hj;subst hj;exact U7 v
 ·exact U7 v
variable {imps:List Nat} {nt:Nat} {s:St} {a:Act}
theorem Ae (h:SRel imps nt w β H m s a)(x:Operand):Rep w β H ((opd s.E x).conv m) (a.eval x):=by
 cases x with
 |tmp t=>exact h.env t
 |const v=>exact Qb v
 |global g=>exact .undef _
 |func f=>exact .fn _ _ _ _ _ rfl rfl (λj x v h _=>by simp[V.convL] at h) (λj x v h _=>by simp[V.convL] at h)
theorem A8 {k:IntKind}{n:Int}{v:Value}(h:Rep w β H ((V.int k n).conv m) v):v=.int k n:=by
 simp only[V.conv] at h;cases h;rfl
theorem Fi {b:Bool}{v:Value}(h:Rep w β H ((V.bool b).conv m) v):v=.bool b:=by
 simp only[V.conv] at h;cases h;rfl
theorem Kp {v:Value}(h:Rep w β H (V.tt.conv m) v):v=.bool true:=by
 simp only[V.conv] at h;cases h;rfl
theorem Kq {v:Value}(h:Rep w β H (V.ff.conv m) v):v=.bool false:=by
 simp only[V.conv] at h;cases h;rfl
theorem Gn {s:List UInt8}{v:Value}(h:Rep w β H ((V.str s).conv m) v):v=.string ⟨s.toArray⟩∧s.length≤maxLen:=by
 simp only[V.conv] at h;cases h with
 |str _ h=>exact⟨rfl,h⟩
end
mutual
theorem Gp {w:World}{β:Nat->Loc}{H:Heap}(m:List Nat): ∀(v:V) {x:Value},Rep w β H v x->v.conv m=v
 | .osl r _ _ _,x,h| .ptr r _,x,h| .eptr r _ _ _,x,h| .yld r,x,h=>by
  cases r with
  |loc k=>cases h
  |abs n=>rfl
  |bad=>cases h
 | .agg cs,x,h=>by
  cases h with
  |agg _ vs hl h=>simp only[V.conv,G1 m cs vs hl h]
 | .tup cs,x,h=>by
  cases h with
  |tup _ vs hl h=>simp only[V.conv,G1 m cs vs hl h]
 | .fn _ a c,x,h=>by
  cases h with
  |fn _ _ _ va vc hla hlc h1 h2=>simp only[V.conv,G1 m a va hla h1,G1 m c vc hlc h2]
 | .iface _ v,x,h=>by
  cases h with
  |iface _ _ _ h=>simp only[V.conv,Gp m v h]
 | .int ..,_,_| .bool _,_,_| .tt,_,_| .ff,_,_| .str _,_,_| .sl ..,_,_| .nilsl,_,_| .iptr ..,_,_| .nilp,_,_| .nilf,_,_| .nili,_,_| .nilmap,_,_| .undef,_,_=>rfl
theorem G1 {w:World}{β:Nat->Loc}{H:Heap}(m:List Nat): ∀(cs:List V) (vs:Array Value),cs.length=vs.size->
  (∀(j:Nat) (c:V) (v:Value),cs[j]?=some c->vs[j]?=some v->Rep w β H c v)->V.convL m cs=cs
 | [],_,_,_=>rfl
 |c::cs,vs,hl,h=>by
  have h0:0<vs.size:=by simp at hl;omega
  simp only[V.convL];rw[Gp m c (h 0 _ vs[0] rfl (Ase h0))];rw[G1 m cs (vs.extract 1 vs.size) (by simp at hl ⊢;omega) λj c' v hj hv=>h (j+1) c' v (by simpa using hj) ?_];rw[At8] at hv;split at hv
  ·rw[Auf];exact hv
  ·cases hv
end
section
variable {P:Program}
theorem A4 {t:TypeId}{i:TypeInfo}(h:tyI P t=some i):P.info? t=some i:=by
 unfold tyI at h;rw[Af] at h;have hl:=Ab h;unfold Tables.info?;have:t<P.types.size:=by simpa using hl
 rw[if_pos this];simpa using h
theorem Al {t:TypeId}{d:TypeDesc}(h:tyU P t=some d):P.underlying t=some d:=by
 unfold tyU at h;unfold Program.underlying;split at h
 ·rename_i nm u _ _ _ _ _ _ _ _ _ heq;split at h
  ·rename_i i hi;simp only[A4 heq,A4 hi];simpa using h
  ·cases h
 ·rename_i i hne heq;rw[A4 heq];injection h with h
  subst h;split
  ·rename_i nm u _ _ _ _ _ _ _ _ _ he;injection he with he
   subst he;exact(hne _ _ _ _ _ _ _ _ _ _ _ rfl).elim
  ·rename_i i' _ he;injection he with he
   subst he;rfl
  ·rename_i he;cases he
 ·cases h
theorem A5 {t:TypeId}{i:TypeInfo}(h:P.info? t=some i)(w:World):(Go.sizeOf t).run P w=.ok i.size w:=by
 simp[Go.sizeOf,typeInfo,h]
theorem Hg {t:TypeId}{d:TypeDesc}(h:P.underlying t=some d)(w:World):(isAgg t).run P w=.ok (aggT d) w:=by
 unfold isAgg;rw[Sem.run_bind,run_underlying h w];cases d<;>simp[aggT]
end
theorem Js (a:Addr)(i j:Nat):(a.add i).add j=a.add (i+j):=by
 unfold Addr.add
 by_cases hi:i=0<;>by_cases hj:j=0<;>simp[hi,hj,Avq]
theorem Ka {P:Program}{t:TypeId}{cs:List V}{off:Nat}{F:Prop}{K:V->Prop}(h:partK P t cs off F K):
  F∨ ∃x,K x∧ ∀(w:World) (ad:Addr) (vals:Nat->Value),(∀j,j<cs.length->w.cell? (ad.add j)=some (vals j))->
   ∃v,(loadVar t (ad.add off)).run P w=.ok v w∧
    ∀(w1:World) (β:Nat->Loc) (H:Heap) (m:List Nat),(∀(j:Nat) (c:V),cs[j]?=some c->Rep w1 β H (c.conv m) (vals j))->Rep w1 β H (x.conv m) v:=by
 unfold partK at h;split at h
 ·rename_i d i hd hi;have hu:=Al hd;have hI:=A4 hi;cases ha:aggT d with
  |true=>
   rw[ha] at h;simp only[cond_true,Og] at h
   rcases M6 _ _ _ h with h| ⟨hle,hk⟩
   ·exact .inl h
   ·simp only[Asf] at hle;refine .inr ⟨_,hk,λw ad vals hc=> ?_⟩;have hrun:(loadCells (ad.add off) i.size).run P w=.ok ((List.range i.size).map λj=>vals (off+j)).toArray w:=by
     have:=run_loadCells_list (P:=P) w (ad.add off) ((List.range i.size).map λj=>vals (off+j)) (λj v hj=>by
      have hjl:j<i.size:=by have:=Ab hj;simpa using this
      simp[hjl] at hj;subst hj;rw[Js];exact hc (off+j) (by omega))
     simpa using this
    refine⟨.agg ((List.range i.size).map λj=>vals (off+j)).toArray,?_,λw1 β H m hr=> ?_⟩
    ·simp[loadVar,Hg hu,ha,A5 hI,hrun]
    ·simp only[V.conv,V.convL_eq];refine .agg _ _ (by simp;omega) λj c v hj hv=> ?_;have hjl:j<i.size:=by
      have:=Ab hj;simp at this;omega
     simp[hjl] at hv;subst hv;simp only[Arv,Asv,hjl,if_true,As8,Asu] at hj;obtain⟨c0,h0,rfl⟩:=hj;exact hr _ c0 h0
  |false=>
   rw[ha] at h;simp only[cond_false,Af] at h;split at h
   ·rename_i v hv;rw[Bq] at h;refine .inr ⟨v,h,λw ad vals hc=>⟨vals off,?_,λw1 β H m hr=>hr off v hv⟩⟩;simp[loadVar,Hg hu,ha,hc off (Ab hv)]
   ·exact .inl h
 ·exact .inl h
section
variable {w:World} {β:Nat->Loc} {H:Heap} {m:List Nat}
theorem Xo {v:V}{x:Value}(h:Rep w β H v x)(h1:v.one=true):x.oneCell'=true:=by
 cases h<;>first|rfl|assumption| (simp[V.one] at h1;done)
theorem Al2 (v:V):(v.conv m).one=v.one:=by cases v<;>rfl
theorem C1 (v:V):(v.conv m).cells=V.convL m v.cells:=by
 cases v<;>first|rfl| (simp only[V.conv,V.cells,V.convL];done)
theorem F3 {v:V}{x:Value}(h:Rep w β H v x)(h1:onesB v.cells=true):
  v.cells.length=x.cells.size∧(∀(j:Nat) (c:V) (u:Value),v.cells[j]?=some c->x.cells[j]?=some u->Rep w β H c u)∧ ∀u∈x.cells.toList,u.oneCell'=true:=by
 by_cases ha: ∃cs,v=.agg cs
 ·obtain⟨cs,rfl⟩:=ha;cases h with
  |agg _ vs hl h=>
   refine⟨hl,h,λu hu=> ?_⟩;obtain⟨j,hj,rfl⟩:=Ata.1 hu;have hj':j<vs.size:=by simpa[Value.cells] using hj
   have hjc:j<cs.length:=by omega
   have h2:=h j cs[j] vs[j] (Aq3 hjc) (Ase hj');have h3:=(Ez cs).1 h1 cs[j] (Arq hjc);simpa[Value.cells] using Xo h2 h3
 ·have hc:v.cells=[v]:=by cases v<;>first|rfl|exact absurd ⟨_,rfl⟩ ha
  rw[hc] at h1 ⊢;have ho:v.one=true:=by simpa[onesB] using h1
  have hx:=Xo h ho;have hxc:x.cells= #[x]:=by cases x<;>first|rfl| (simp[Value.oneCell'] at hx;done)
  rw[hxc];refine⟨rfl,λj c u hj hu=> ?_,λu hu=> ?_⟩
  ·cases j with
   |zero=>simp at hj hu;subst hj hu;exact h
   |succ j=>simp at hj
  ·simp at hu;subst hu;exact hx
theorem Hh (cs:List V):onesB (V.convL m cs)=onesB cs:=by
 induction cs with
 |nil=>rfl
 |cons c cs ih=>simp only[V.convL,onesB,Al2,ih]
end
section
variable {imps:List Nat} {nt:Nat} {w:World} {β:Nat->Loc} {H:Heap} {m:List Nat} {E:Env} {T:Heap} {B:Base} {D:List Nat} {a:Act}
theorem Sm {cs:List V}{vs:Array Value}(hl:cs.length=vs.size)(hr: ∀(j:Nat) (c:V) (v:Value),(V.convL m cs)[j]?=some c->vs[j]?=some v->Rep w β H c v):V.scL m.length cs:=
 F7 cs vs hl hr
theorem SRel.newBox (h:SRel imps nt w β H m ⟨E,T,B,D⟩ a)(cs:List V)(vs:Array Value)(e:TypeId)(hl:cs.length=vs.size)
  (hr: ∀(j:Nat) (c:V) (v:Value),(V.convL m cs)[j]?=some c->vs[j]?=some v->Rep w β H c v):
  ∃β' H',SRel imps nt (w.alloc (.cells vs e)) β' H' (m++ [H.length]) ⟨E,T++ [some (.box cs)],B,D⟩ a∧Fr w β H (w.alloc (.cells vs e)) β' H'∧
   Rep (w.alloc (.cells vs e)) β' H' ((V.ptr (.loc T.length) 0).conv (m++ [H.length])) (.pointer (some ⟨w.heap.size,0,none⟩)):=by
 have hsc:(HObj.box cs).sc m.length:=Sm hl hr;refine⟨_,_,h.snoc (o:=.box cs) hsc (Fr.new _ _ vs.size) (h.hrel.newBox _ vs e (by simp[V.convL_eq,hl]) hr),Fr.new _ _ _,?_⟩;have hml:m.length=T.length:=h.mlen;simp only[V.conv,Ref.conv,←hml];rw[Arh (Ara _)];simp only[Aub,Ar2];exact .ptrLive _ _ _ vs.size (V.convL m cs) (by simp[HObj.conv]) (Aq _ _ _)
theorem SRel.newVec (h:SRel imps nt w β H m ⟨E,T,B,D⟩ a)(g sz:Nat)(xs:List V)(vs:Array Value)(e:TypeId)(n cap:Nat)(hg:tyG g e)(hsz:0<sz)(hx: ∀x∈xs,okE sz x)(hn:n=xs.length)(hcap:n≤cap)
  (hmax:cap≤maxLen) (hl:cap*sz=vs.size)
  (hr: ∀(i:Nat) (x:V) (j:Nat) (c:V) (v:Value),xs[i]?=some x->x.cells[j]?=some c->vs[i*sz+j]?=some v->Rep w β H c v):
  ∃β' H',SRel imps nt (w.alloc (.cells vs e)) β' H' (m++ [H.length]) ⟨E,T++ [some (.vec g sz xs)],B,D⟩ a∧Fr w β H (w.alloc (.cells vs e)) β' H'∧
   Rep (w.alloc (.cells vs e)) β' H' ((V.osl (.loc T.length) g 0 n).conv (m++ [H.length])) (.slice (some ⟨w.heap.size,0,none⟩) n cap):=by
 subst hn;have hle:xs.length*sz≤vs.size:=by rw[←hl];exact Arg _ hcap
 refine⟨_,_,h.snoc (o:=.vec g sz xs) trivial (Fr.new _ _ vs.size) (h.hrel.newVec g sz xs vs e hg hsz hx hle hr),Fr.new _ _ _,?_⟩;have hml:m.length=T.length:=h.mlen;simp only[V.conv,Ref.conv,←hml];rw[Arh (Ara _)];simp only[Aub,Ar2];exact .oslBlk _ _ _ _ sz xs w.heap.size vs.size _ _ (by simp[HObj.conv]) (Aq _ _ _) hcap (by simpa using Avg hl) (by simpa using hmax) (λ_=>by simp) (by simp)
theorem SRel.newNil (h:SRel imps nt w β H m ⟨E,T,B,D⟩ a)(g sz:Nat)(ad:Option Addr):
  ∃β' H',SRel imps nt w β' H' (m++ [H.length]) ⟨E,T++ [some (.vec g sz [])],B,D⟩ a∧Fr w β H w β' H'∧Rep w β' H' ((V.osl (.loc T.length) g 0 0).conv (m++ [H.length])) (.slice ad 0 0):=by
 refine⟨_,_,h.snoc (o:=.vec g sz []) trivial (Fr.newNil g sz) (h.hrel.newNil g sz),Fr.newNil g sz,?_⟩;have hml:m.length=T.length:=h.mlen;simp only[V.conv,Ref.conv,←hml];rw[Arh (Ara _)];simp only[Aub,Ar2];exact .oslNil _ _ sz [] _ (by simp[HObj.conv]) (Aq _ _ _)
end
variable {c:Cx} {E:Env} {T:Heap} {F:Prop} {K:V->Heap->Prop}
theorem Aod {x:Operand}(h:evOp c (.move x) E T F K):F∨ ∃y T',K y T'∧OpTo c (.move x) E T y T':=by
 simp only[evOp,Bq] at h;exact .inr ⟨_,_,h,OpTo.still λo ho w β H m a hs=>⟨a.eval x,by simp[execOp,ho],Ae hs x⟩⟩
theorem Aiu {x:Operand}(h:evOp c (.assign x) E T F K):F∨ ∃y T',K y T'∧OpTo c (.assign x) E T y T':=by
 simp only[evOp,Bq] at h;exact .inr ⟨_,_,h,OpTo.still λo ho w β H m a hs=>⟨a.eval x,by simp[execOp,ho],Ae hs x⟩⟩
theorem Aoe {x y z:Operand}(h:evOp c (.pick x y z) E T F K):F∨ ∃u T',K u T'∧OpTo c (.pick x y z) E T u T':=by
 simp only[evOp,Bq] at h;split at h
 ·rename_i hx;refine .inr ⟨_,_,h,OpTo.still λo ho w β H m a hs=>⟨a.eval y,?_,Ae hs y⟩⟩;have:=Ae hs x;simp only[hx] at this;simp[execOp,ho,Kp this,asBool]
 ·rename_i hx;refine .inr ⟨_,_,h,OpTo.still λo ho w β H m a hs=>⟨a.eval z,?_,Ae hs z⟩⟩;have:=Ae hs x;simp only[hx] at this;simp[execOp,ho,Kq this,asBool]
 ·rename_i t hx;obtain⟨h1,h2⟩:=h;cases t with
  |true=>
   refine .inr ⟨_,_,h1 rfl,OpTo.still λo ho w β H m a hs=>⟨a.eval y,?_,Ae hs y⟩⟩;have:=Ae hs x;simp only[hx] at this;simp[execOp,ho,Fi this,asBool]
  |false=>
   refine .inr ⟨_,_,h2 rfl,OpTo.still λo ho w β H m a hs=>⟨a.eval z,?_,Ae hs z⟩⟩;have:=Ae hs x;simp only[hx] at this;simp[execOp,ho,Fi this,asBool]
 ·exact .inl h
theorem Apv {t:TypeId}{x:Operand}(h:evOp c (.box t x) E T F K):F∨ ∃u T',K u T'∧OpTo c (.box t x) E T u T':=by
 simp only[evOp,Bq,Ru,Jn] at h;split at h
 ·cases h1:onesB (opd E x).cells with
  |false=>rw[h1] at h;exact .inl h
  |true=>
   rw[h1] at h;refine .inr ⟨_,_,h,λo ho w β H m a hs=> ?_⟩;have hr:=Ae hs x;obtain⟨hl,hc,_⟩:=F3 hr (by rw[C1,Hh];exact h1);rw[C1] at hl hc;obtain⟨β',H',k1,k2,k3⟩:=hs.newBox (opd E x).cells (a.eval x).cells t (by rw[V.convL_eq] at hl;simpa using hl) hc;exact⟨_,_,_,β',H',_,by simp[execOp,ho,Instr.box,newVar,newRow],.inl rfl,k1,k2,k3,Atl _ _⟩
 ·exact .inl h
theorem I8 {P:Program}{t:TypeId}{z:V}(h:zeroOf P t=some z): ∃i v,P.info? t=some i∧i.zero=some v∧z=ofVal v:=by
 unfold zeroOf at h;split at h
 ·rename_i i hi;split at h
  ·rename_i v hv;injection h with h
   exact⟨i,v,A4 hi,hv,h.symm⟩
  ·cases h
 ·cases h
theorem Nr {P:Program}{t:TypeId}{i:TypeInfo}{v:Value}(hi:P.info? t=some i)(hv:i.zero=some v)(w:World):(zeroValue t).run P w=.ok v w:=by
 simp[zeroValue,typeInfo,hi,hv]
theorem Al3 {t:TypeId}(h:evOp c (.alloc t) E T F K):F∨ ∃u T',K u T'∧OpTo c (.alloc t) E T u T':=by
 simp only[evOp,Ru,Jn] at h;split at h
 ·rename_i z hz;obtain⟨i,v,hi,hv,rfl⟩:=I8 hz;cases h1:onesB (ofVal v).cells with
  |false=>rw[h1] at h;exact .inl h
  |true=>
   rw[h1] at h;refine .inr ⟨_,_,h,λo ho w β H m a hs=> ?_⟩;have hr:Rep w β H ((ofVal v).conv m) v:=Qb v;obtain⟨hl,hc,_⟩:=F3 hr (by rw[C1,Hh];exact h1);rw[C1] at hl hc;obtain⟨β',H',k1,k2,k3⟩:=hs.newBox (ofVal v).cells v.cells t (by rw[V.convL_eq] at hl;simpa using hl) hc;exact⟨_,_,_,β',H',_,by simp[execOp,ho,Instr.alloc,Nr hi hv,newVar,newRow],.inl rfl,k1,k2,k3,Atl _ _⟩
 ·exact .inl h
theorem Ek (b j:Nat):(⟨b,0,none⟩:Addr).add j=⟨b,j,none⟩:=by
 unfold Addr.add;split<;>simp_all
section
variable {w:World} {β:Nat->Loc} {H:Heap} {m:List Nat} {a:Act}
theorem SRel.box (h:SRel c.imps c.nt w β H m ⟨E,T,c.B,c.D⟩ a){k off:Nat}{cs:List V}{v:Value}(hk:T[k]?=some (some (.box cs)))(hp:Rep w β H ((V.ptr (.loc k) off).conv m) v):
  ∃r b N vs e,m[k]?=some r∧H[r]?=some (some (.box (V.convL m cs)))∧β r=.blk b N∧v=.pointer (some ⟨b,off,none⟩)∧w.heap[b]?=some (.cells vs e (0,0))∧vs.size=cs.length∧vs.size=N∧
   ∀(j:Nat) (x:V) (u:Value),(V.convL m cs)[j]?=some x->vs[j]?=some u->Rep w β H x u:=by
 obtain⟨r,hr,hH⟩:=h.at hk;simp only[V.conv,Ref.conv,hr] at hp;cases hp with
 |ptrLive _ _ b N cs' hH' hβ=>
  have:=h.hrel.obj r _ hH;rw[hβ] at this;obtain⟨vs,e,h1,h2,h3,h4⟩:=this;exact⟨r,b,N,vs,e,hr,hH,hβ,rfl,h1,by rw[h2,←h3,V.convL_eq];simp,h2,h4⟩
 |ptrDead _ _ _ hd=>rw[hH] at hd;cases hd
end
theorem Sn {P:Program}{t:TypeId}{x:Operand}{K:V->Prop}(hP:c.P=P)(h:loadK P t (opd E x) T c.B c.imps F K):F∨ ∃u,K u∧OpStill c (.load t x) E T u:=by
 subst hP;unfold loadK at h;split at h
 ·rename_i k off hx;rw[Af] at h;split at h
  ·rename_i cs hk
   rcases Ka h with h| ⟨u,hu,hrun⟩
   ·exact .inl h
   ·refine .inr ⟨u,hu,λo ho w β H m a hs=> ?_⟩;have hp:=Ae hs x;simp only[hx] at hp;obtain⟨r,b,N,vs,e,hr,hH,hβ,hv,hb,hl,hN,hc⟩:=hs.box hk hp;have hcell: ∀j,j<cs.length->w.cell? ((⟨b,0,none⟩:Addr).add j)=some (vs.getD j Go.undef):=λj hj=>by
     rw[Ek,cell_of_row w b j vs e (0,0) hb];simp[hl,hj]
    obtain⟨v,h1,h2⟩:=hrun w ⟨b,0,none⟩ (λj=>vs.getD j Go.undef) hcell;refine⟨v,?_,h2 w β H m λj x' hj=>hc j _ _ (by rw[V.convL_eq,Arv,hj];rfl) ?_⟩
    ·rw[Ek] at h1;simp[execOp,ho,Instr.loadAt,Instr.sureAddr,hv,h1]
    ·have hjl:=Ab hj;simp[hl,hjl]
  ·exact .inl h
 ·rename_i cs off hx
  rcases Ka h with h| ⟨u,hu,hrun⟩
  ·exact .inl h
  ·refine .inr ⟨u,hu,λo ho w β H m a hs=> ?_⟩;have hp:=Ae hs x;simp only[hx,V.conv] at hp;generalize hq:a.eval x=q at hp;cases hp with
   |iptr _ _ ad vals hown hlt hc hr=>
    obtain⟨v,h1,h2⟩:=hrun w ad vals hc;refine⟨v,by simp[execOp,ho,Instr.loadAt,Instr.sureAddr,hq,h1],h2 w β H m λj x' hj=> ?_⟩;have:=hr j x' hj;rw[Gp m _ this];exact this
 ·rename_i r off hx;obtain⟨hni,cs,hB,h⟩:=h
  rcases Ka h with h| ⟨u,hu,hrun⟩
  ·exact .inl h
  ·refine .inr ⟨u,hu,λo ho w β H m a hs=> ?_⟩;have hp:=Ae hs x;simp only[hx,V.conv,Ref.conv] at hp;have hH:H[r]?=some (some (.box cs)):=hs.baseAt hni hB;generalize hq:a.eval x=q at hp;cases hp with
   |ptrLive _ _ b N cs' hH' hβ=>
    rw[hH] at hH';injection hH' with hH'
    injection hH' with hH'
    injection hH' with hH'
    subst hH';have:=hs.hrel.obj r _ hH;rw[hβ] at this;obtain⟨vs,e,h1,h2,h3,h4⟩:=this;have hcell: ∀j,j<cs.length->w.cell? ((⟨b,0,none⟩:Addr).add j)=some (vs.getD j Go.undef):=λj hj=>by
     rw[Ek,cell_of_row w b j vs e (0,0) h1];have:j<vs.size:=by omega
     simp[this]
    obtain⟨v,k1,k2⟩:=hrun w ⟨b,0,none⟩ (λj=>vs.getD j Go.undef) hcell;refine⟨v,?_,k2 w β H m λj x' hj=> ?_⟩
    ·rw[Ek] at k1;simp[execOp,ho,Instr.loadAt,Instr.sureAddr,hq,k1]
    ·have hjl:=Ab hj;have hjv:j<vs.size:=by omega
     have:=h4 j x' vs[j] hj (Ase hjv);rw[Gp m _ this];simpa[hjv] using this
   |ptrDead _ _ _ hd=>rw[hH] at hd;cases hd
 ·rename_i k g i off hx;rw[Af] at h;split at h
  ·rename_i g' sz xs hk;obtain⟨rfl,y,hy,h⟩:=h
   rcases Ka h with h| ⟨u,hu,hrun⟩
   ·exact .inl h
   ·refine .inr ⟨u,hu,λo ho w β H m a hs=> ?_⟩;have hp:=Ae hs x;obtain⟨r,hr,hH⟩:=hs.at hk;simp only[hx,V.conv,Ref.conv,hr] at hp;simp only[HObj.conv] at hH;generalize hq:a.eval x=q at hp;cases hp with
    |eptrLive _ _ _ _ sz' xs' b N hH' hβ hi=>
     rw[hH] at hH';injection hH' with hH'
     injection hH' with hH'
     injection hH' with _ e1 e2
     subst e1 e2;have:=hs.hrel.obj r _ hH;rw[hβ] at this;obtain⟨vs,e,_,h1,h2,h3,h4,h5,h6⟩:=this;have hyl:y.cells.length=sz:=(h5 y (Aq7 hy)).1;have hbd: ∀j,j<sz->i*sz+j<vs.size:=λj hj=>by
      have:(i+1)*sz≤xs.length*sz:=Arg _ hi;rw[Asn] at this;omega
     have hcell: ∀j,j<y.cells.length->w.cell? ((⟨b,i*sz,none⟩:Addr).add j)=some (vs.getD (i*sz+j) Go.undef):=λj hj=>by
      have e1:(⟨b,i*sz,none⟩:Addr).add j=⟨b,i*sz+j,none⟩:=by unfold Addr.add;split<;>simp_all
      rw[e1,cell_of_row w b _ vs e (0,0) h1];have:=hbd j (by omega);simp[this]
     obtain⟨v,k1,k2⟩:=hrun w ⟨b,i*sz,none⟩ (λj=>vs.getD (i*sz+j) Go.undef) hcell;refine⟨v,?_,k2 w β H m λj x' hj=> ?_⟩
     ·have e1:(⟨b,i*sz,none⟩:Addr).add off=⟨b,i*sz+off,none⟩:=by unfold Addr.add;split<;>simp_all
      rw[e1] at k1;simp[execOp,ho,Instr.loadAt,Instr.sureAddr,hq,k1]
     ·have hjl:=Ab hj;have hjv:=hbd j (by omega);have:=h6 i y j x' vs[i*sz+j] hy hj (Ase hjv);rw[Gp m _ this];simpa[hjv] using this
    |eptrStale _ _ _ _ g' sz' xs' _ hH' hg=>
     rw[hH] at hH';injection hH' with hH'
     injection hH' with hH'
     injection hH' with e0 _ _
     omega
    |eptrDead _ _ _ _ _ hd=>rw[hH] at hd;cases hd
  ·exact .inl h
 ·exact .inl h
theorem Aof {t:TypeId}{x:Operand}(h:evOp c (.load t x) E T F K):F∨ ∃u T',K u T'∧OpTo c (.load t x) E T u T':=by
 simp only[evOp] at h
 rcases Sn rfl h with h| ⟨u,h1,h2⟩
 ·exact .inl h
 ·exact .inr ⟨u,T,h1,OpTo.still h2⟩
variable {c:Cx} {E:Env} {T:Heap} {F:Prop} {K:V->Heap->Prop}
theorem Y1 {m:List Nat}{xs cs ys:List V}{n:Nat}(h:over xs n cs ys):over (V.convL m xs) n (V.convL m cs) (V.convL m ys):=by
 obtain⟨h1,h2,h3⟩:=h;refine⟨by simpa[V.convL_eq] using h1,by simpa[V.convL_eq] using h2,λj=> ?_⟩;have:=h3 j;simp only[V.convL_eq,Arv,this,Arf];split<;>rfl
mutual
theorem Ao (m:List Nat): ∀v:V,v.pureB=true->v.conv m=v
 | .osl r _ _ _,h| .ptr r _,h| .eptr r _ _ _,h| .yld r,h=>by cases r<;>first|rfl|cases h
 | .agg cs,h| .tup cs,h=>by simp only[V.conv,E5 m cs h]
 | .fn _ a c,h=>by
  simp only[V.pureB,Aq6] at h;simp only[V.conv,E5 m a h.1,E5 m c h.2]
 | .iface _ v,h=>by simp only[V.conv,Ao m v h]
 | .int ..,_| .bool _,_| .tt,_| .ff,_| .str _,_| .sl ..,_| .nilsl,_| .iptr ..,_| .nilp,_| .nilf,_| .nili,_| .nilmap,_| .undef,_=>rfl
theorem E5 (m:List Nat): ∀vs:List V,V.pureL vs=true->V.convL m vs=vs
 | [],_=>rfl
 |v::vs,h=>by
  simp only[V.pureL,Aq6] at h;simp only[V.convL,Ao m v h.1,E5 m vs h.2]
end
theorem Aiv (x0:V)(cs:List V)(h:onesB cs=true):(mkE x0 cs).cells=cs:=by
 unfold mkE;split
 ·rfl
 ·split
  ·rename_i c;have:=(Ez _).1 h c (by simp);cases c<;>first|rfl|cases this
  ·rfl
theorem Al4 {t:TypeId}{x y:Operand}(h:evOp c (.store t x y) E T F K):F∨ ∃u T',K u T'∧OpTo c (.store t x y) E T u T':=by
 simp only[evOp,Bq] at h;unfold storeK at h;split at h
 ·rename_i k g ix off i hx hi;rw[Af] at h;split at h
  ·rename_i g' sz xs hk;obtain⟨rfl,x0,hx0,h⟩:=h;rw[C5] at h;cases hb:(Nat.beq ((opd E y).cells.length+0) i.size&&onesB (opd E y).cells&&V.pureL (opd E y).cells) with
   |false=>rw[hb] at h;exact .inl h
   |true=>
    rw[hb] at h;simp only[Aq6,As1] at hb;have hsz:=Arn hb.1.1
    rcases Hz _ _ _ _ h with h| ⟨cs',ho,h⟩
    ·exact .inl h
    ·rw[Bz] at h;refine .inr ⟨_,_,h,λo hop w β H m a hs=> ?_⟩;have hp:=Ae hs x;simp only[hx] at hp;obtain⟨r,hr,hH⟩:=hs.at hk;simp only[HObj.conv] at hH;simp only[V.conv,Ref.conv,hr] at hp;have hob:=hs.hrel.obj r _ hH;generalize hv:a.eval x=q at hp;cases hp with
     |eptrStale _ _ _ _ g' sz' xs' _ hH' hg=>
      rw[hH] at hH';injection hH' with hH'
      injection hH' with hH'
      injection hH' with e0 _ _
      omega
     |eptrDead _ _ _ _ _ hd=>rw[hH] at hd;cases hd
     |eptrLive _ _ _ _ sz' xs' b N hH' hβ hi'=>
     rw[hH] at hH';injection hH' with hH'
     injection hH' with hH'
     injection hH' with _ e1 e2
     subst e1 e2;rw[hβ] at hob;obtain⟨vs,e,hty,hbk,hN,hle,hpos,hok,hc⟩:=hob;have hy:Rep w β H ((opd E y).conv m) (a.eval y):=Ae hs y;obtain⟨hyl,hyc,hy1⟩:=F3 hy (by rw[C1,Hh];exact hb.1.2);rw[C1,E5 _ _ hb.2] at hyl hyc;obtain⟨hx0l,hx0o⟩:=hok x0 (Aq7 hx0);have hixl:=Ab hx0;have hrow:ix*sz+sz≤vs.size:=by
      have:(ix+1)*sz≤xs.length*sz:=Arg _ hixl;rw[Asn] at this;omega
     have hofit:off+ (opd E y).cells.length≤x0.cells.length:=ho.1;have hfit:ix*sz+off+ (a.eval y).cells.size≤vs.size:=by omega
     have hrun:=run_storeCells_at c.P b (ix*sz+off) e (a.eval y).cells.toList 0 vs w hbk (by simpa using hfit) hy1;have hI:=A4 hi;obtain⟨vs',hvs'⟩: ∃vs',vs'=(vs.toList.take (ix*sz+off+0)++ (a.eval y).cells.toList++vs.toList.drop (ix*sz+off+0+ (a.eval y).cells.toList.length)).toArray:=⟨_,rfl⟩;rw[←hvs'] at hrun;have hheap:(w.setRow b vs').heap[b]?=some (.cells vs' e (0,0)):=setRow_heap w b vs _ e _ hbk;have hother: ∀q,q≠b->(w.setRow b vs').heap[q]?=w.heap[q]?:=λq hq=>setRow_other w b q _ hq;have hvsz:vs'.size=vs.size:=by rw[hvs'];simp;omega
     have hget: ∀j,vs'[j]?=if ix*sz+off≤j∧j<ix*sz+off+ (a.eval y).cells.size then(a.eval y).cells[j- (ix*sz+off)]? else vs[j]?:=by
      intro j;rw[hvs'];simp only[As1,As4,Aus]
      rcases Ar3 j (ix*sz+off) with h1|h1
      ·rw[if_neg (by omega),Aq9 (by simp;omega),Aq9 (by simp;omega),Asv,if_pos h1];simp
      ·rcases Ar3 j (ix*sz+off+ (a.eval y).cells.size) with h2|h2
       ·rw[if_pos ⟨h1,h2⟩,Aq9 (by simp;omega),Arh (by simp;omega)];have:min (ix*sz+off) vs.size=ix*sz+off:=by omega
        simp[this]
       ·rw[if_neg (by omega),Arh (by simp;omega)];have e1:min (ix*sz+off) vs.size=ix*sz+off:=by omega
        simp only[Arb,Ar1,As4,e1,As8];rw[At4 h2];simp
     have hones:onesB cs'=true:=by
      rw[Ez];intro z hz;obtain⟨j,hj,rfl⟩:=Ata.1 hz;have:=ho.2.2 j;rw[Aq3 hj] at this;split at this
      ·exact(Ez _).1 hb.1.2 _ (Aq7 this.symm)
      ·exact(Ez _).1 hx0o _ (Aq7 this.symm)
     have hcs':cs'.length=sz:=ho.2.1.trans hx0l;have hmk:(mkE x0 cs').cells=cs':=Aiv x0 cs' hones;obtain⟨xs',hxs'⟩: ∃xs',xs'=xs.set ix (mkE x0 cs'):=⟨_,rfl⟩;rw[←hxs'];have hxl:xs'.length=xs.length:=by rw[hxs'];simp
     have hfr:Fr w β H (w.setRow b vs') β (H.set r (some (.vec g sz xs'))):=Fr.turn hH hβ ⟨Ara _,λ_=>⟨rfl,hxl.symm⟩⟩ rfl rfl rfl (by simp[World.setRow]) hother;have hok': ∀x∈xs',okE sz x:=λx hx=>by
      rw[hxs'] at hx
      rcases Atw hx with h1|h1
      ·exact hok x h1
      ·subst h1;exact⟨by rw[hmk];exact hcs',by rw[hmk];exact hones⟩
     have hrel:HRel (w.setRow b vs') β (H.set r (some (.vec g sz xs'))):=by
      refine hs.hrel.turn hH hβ ⟨Ara _,λ_=>⟨rfl,hxl.symm⟩⟩ rfl rfl rfl (by simp[World.setRow]) hother ⟨vs',e,hty,hheap,by omega,by rw[hxl];omega,hpos,hok',λi1 z j z1 u hi1 hj hu=> ?_⟩;refine Rep.mono ?_ hfr;rw[hget] at hu;have hzl:=(hok' z (Aq7 hi1)).1;have hjl:=Ab hj;rw[hxs'] at hi1
      by_cases hii:i1=ix
      ·subst hii;rw[As5 hixl] at hi1;injection hi1 with hi1
       subst hi1;rw[hmk,ho.2.2 j] at hj;split at hj
       ·rename_i hjj;rw[if_pos (by omega)] at hu;refine hyc (j-off) z1 u hj ?_;rw[←hu]
        congr 1
        omega
       ·rename_i hjj;rw[if_neg (by omega)] at hu;exact hc i1 x0 j z1 u hx0 hj hu
      ·rw[Arj (λe=>hii e.symm)] at hi1;have hne: ¬ (ix*sz+off≤i1*sz+j∧i1*sz+j<ix*sz+off+ (a.eval y).cells.size):=by
        rintro⟨q1,q2⟩
        rcases Nat.lt_or_gt_of_ne hii with h3|h3
        ·have:(i1+1)*sz≤ix*sz:=Arg _ h3;rw[Asn] at this;omega
        ·have:(ix+1)*sz≤i1*sz:=Arg _ h3;rw[Asn] at this;omega
       rw[if_neg hne] at hu;exact hc i1 z j z1 u hi1 hj hu
     have hset:=hs.set (o':=some (.vec g sz xs')) hr (λo1 h1=>by injection h1 with h1;subst h1;trivial) (λo1 h1 h2=>by rw[hk] at h1;injection h1 with h1;injection h1 with h1;subst h1;cases h2) hfr hrel;refine⟨.skip,Go.undef,w.setRow b vs',β,_,m,?_,.inr ⟨rfl,rfl⟩,hset,hfr,?_,Ar6 _⟩
     ·simp[execOp,hop,Instr.storeAt,Instr.sureAddr,hv,storeVar,A5 hI,←hsz,←hyl,hrun]
     ·exact .tup [] #[] rfl λj z u h1 _=>by simp at h1
  ·exact .inl h
 ·rename_i k off i hx hi;rw[Af] at h;split at h
  ·rename_i cs hk;rw[C5] at h;cases hb:(Nat.beq ((opd E y).cells.length+0) i.size&&onesB (opd E y).cells) with
   |false=>rw[hb] at h;exact .inl h
   |true=>
    rw[hb] at h;simp only[Aq6,As1] at hb;have hsz:=Arn hb.1
    rcases Hz _ _ _ _ h with h| ⟨cs',ho,h⟩
    ·exact .inl h
    ·rw[Bz] at h;refine .inr ⟨_,_,h,λo hop w β H m a hs=> ?_⟩;have hp:=Ae hs x;simp only[hx] at hp;obtain⟨r,b,N,vs,e,hr,hH,hβ,hv,hbk,hl,hN,hc⟩:=hs.box hk hp;have hy:Rep w β H ((opd E y).conv m) (a.eval y):=Ae hs y;obtain⟨hyl,hyc,hy1⟩:=F3 hy (by rw[C1,Hh];exact hb.2);rw[C1] at hyl hyc;have ho':=Y1 (m:=m) ho;have hlen:(V.convL m (opd E y).cells).length=(opd E y).cells.length:=by rw[V.convL_eq];simp
     have hfit:off+ (a.eval y).cells.size≤vs.size:=by
      have:=ho.1;omega
     have hrun:=run_storeCells_at c.P b off e (a.eval y).cells.toList 0 vs w hbk (by simpa using hfit) hy1;have hI:=A4 hi;obtain⟨vs',hvs'⟩: ∃vs',vs'=(vs.toList.take (off+0)++ (a.eval y).cells.toList++vs.toList.drop (off+0+ (a.eval y).cells.toList.length)).toArray:=⟨_,rfl⟩;rw[←hvs'] at hrun;have hheap:(w.setRow b vs').heap[b]?=some (.cells vs' e (0,0)):=setRow_heap w b vs _ e _ hbk;have hother: ∀q,q≠b->(w.setRow b vs').heap[q]?=w.heap[q]?:=λq hq=>setRow_other w b q _ hq;have hvsz:vs'.size=vs.size:=by rw[hvs'];simp;omega
     have hget: ∀j,vs'[j]?=if off≤j∧j<off+ (a.eval y).cells.size then(a.eval y).cells[j-off]? else vs[j]?:=by
      intro j;rw[hvs'];simp only[As1,As4,Aus]
      rcases Ar3 j off with h1|h1
      ·rw[if_neg (by omega),Aq9 (by simp;omega),Aq9 (by simp;omega),Asv,if_pos h1];simp
      ·rcases Ar3 j (off+ (a.eval y).cells.size) with h2|h2
       ·rw[if_pos ⟨h1,h2⟩,Aq9 (by simp;omega),Arh (by simp;omega)];have:min off vs.size=off:=by omega
        simp[this]
       ·rw[if_neg (by omega),Arh (by simp;omega)];have e1:min off vs.size=off:=by omega
        simp only[Arb,Ar1,As4,e1,As8];rw[At4 h2];simp
     have hfr:Fr w β H (w.setRow b vs') β (H.set r (some (.box (V.convL m cs')))):=Fr.turn hH hβ trivial rfl rfl rfl (by simp[World.setRow]) hother;have hrel:HRel (w.setRow b vs') β (H.set r (some (.box (V.convL m cs')))):=by
      refine hs.hrel.turn hH hβ trivial rfl rfl rfl (by simp[World.setRow]) hother ⟨vs',e,hheap,by omega,by rw[ho'.2.1,V.convL_eq];simp;omega,λj z u hz hu=> ?_⟩;refine Rep.mono ?_ hfr;rw[ho'.2.2 j,hlen] at hz;rw[hget j] at hu;split at hz
      ·rename_i hj;rw[if_pos (by omega)] at hu;exact hyc _ z u hz hu
      ·rename_i hj;rw[if_neg (by omega)] at hu;exact hc j z u hz hu
     have hsc':(HObj.box cs').sc m.length:=by
      refine F7 (w:=w.setRow b vs') (β:=β) (H:=H.set r (some (.box (V.convL m cs')))) cs' vs' (by rw[ho.2.1];omega) λj z u hz hu=> ?_;have:=hrel.obj r (.box (V.convL m cs')) (by simp[hs.lt hr]);rw[hβ] at this;obtain⟨vs2,e2,q1,q2,q3,q4⟩:=this;rw[hheap] at q1;injection q1 with q1
      injection q1 with q1 _ _
      subst q1;exact q4 j z u hz hu
     have hset:=hs.set (o':=some (.box cs')) hr (λo1 h1=>by injection h1 with h1;subst h1;exact hsc') (λo1 h1 h2=>by rw[hk] at h1;injection h1 with h1;injection h1 with h1;subst h1;cases h2) hfr hrel;refine⟨.skip,Go.undef,w.setRow b vs',β,_,m,?_,.inr ⟨rfl,rfl⟩,hset,hfr,?_,Ar6 _⟩
     ·simp[execOp,hop,Instr.storeAt,Instr.sureAddr,hv,storeVar,A5 hI,←hsz,←hyl,hlen,hrun]
     ·exact .tup [] #[] rfl λj z u h1 _=>by simp at h1
  ·exact .inl h
 ·exact .inl h
theorem Aej {x:Operand}(h:evOp c (.nilCheck x) E T F K):F∨ ∃u T',K u T'∧OpTo c (.nilCheck x) E T u T':=by
 simp only[evOp] at h;split at h
 ·rename_i k o hx;rw[Af] at h;split at h
  ·rename_i cs hk;refine .inr ⟨_,_,h,OpTo.still λop hop w β H m a hs=>⟨a.eval x,?_,by rw[←hx];exact Ae hs x⟩⟩;have hp:=Ae hs x;simp only[hx] at hp;obtain⟨r,b,N,vs,e,hr,hH,hβ,hv,_⟩:=hs.box hk hp;simp[execOp,hop,hv]
  ·exact .inl h
 ·rename_i r o hx;obtain⟨hni,⟨cs,hB⟩,h⟩:=h;refine .inr ⟨_,_,h,OpTo.still λop hop w β H m a hs=>⟨a.eval x,?_,by rw[←hx];exact Ae hs x⟩⟩;have hp:=Ae hs x;simp only[hx,V.conv,Ref.conv] at hp;have hH:H[r]?=some (some (.box cs)):=hs.baseAt hni hB;generalize hq:a.eval x=q at hp;cases hp with
  |ptrLive _ _ b N cs' hH' hβ=>simp[execOp,hop,hq]
  |ptrDead _ _ _ hd=>rw[hH] at hd;cases hd
 ·rename_i cs o hx;refine .inr ⟨_,_,h,OpTo.still λop hop w β H m a hs=>⟨a.eval x,?_,by rw[←hx];exact Ae hs x⟩⟩;have:=Ae hs x;simp only[hx,V.conv] at this;generalize hq:a.eval x=q at this;cases this;simp[execOp,hop,hq]
 ·rename_i f fa cap hx;split at h
  ·refine .inr ⟨_,_,h,OpTo.still λop hop w β H m a hs=>⟨a.eval x,?_,by rw[←hx];exact Ae hs x⟩⟩;have:=Ae hs x;simp only[hx,V.conv] at this;generalize hq:a.eval x=q at this;cases this;simp[execOp,hop,hq]
  ·exact .inl h
 ·exact .inl h
variable {c:Cx} {E:Env} {T:Heap} {F:Prop} {K:V->Heap->Prop}
def Bin (P:Program)(t:TypeId)(op:BinOp)(x y v:V):Prop:=
 ∀(w:World) (β:Nat->Loc) (H:Heap) (m:List Nat) (a b:Operand) (u u':Value),Rep w β H (x.conv m) u->Rep w β H (y.conv m) u'->
  ∃r,(do eqGuard op t a b u u';binOp op t u u':Sem Value).run P w=.ok r w∧Rep w β H (v.conv m) r
theorem Bin.mk {P:Program}{t:TypeId}{op:BinOp}{x y v:V}{fx fy fv:Value}(hx: ∀(w:World) β H m u,Rep w β H (V.conv m x) u->u=fx)(hy: ∀(w:World) β H m u,Rep w β H (V.conv m y) u->u=fy)
  (hr: ∀(w:World) (a b:Operand),(do eqGuard op t a b fx fy;binOp op t fx fy:Sem Value).run P w=.ok fv w) (hv: ∀(w:World) β H m,Rep w β H (V.conv m v) fv):Bin P t op x y v:=by
 intro w β H m a b u u' h1 h2;rw[hx w β H m u h1,hy w β H m u' h2];exact⟨fv,hr w a b,hv w β H m⟩
theorem C2 (a b:Int):decide (a=b)=(a==b):=by
 by_cases h:a=b
 ·subst h;simp
 ·simp[h]
theorem Fu (a b:List UInt8):decide (a=b)=(a==b):=by
 by_cases h:a=b
 ·subst h;simp
 ·simp[h]
theorem C8 {w:World}{β:Nat->Loc}{H:Heap}{m:List Nat}(b:Bool):Rep w β H ((V.bool b).conv m) (.bool b):=.bool b
theorem M8 {P:Program}{t:TypeId}{op:BinOp}{x y:V}{K:V->Prop}(hx:x=.tt∨x=.ff∨ ∃b,x=.bool b)(h:binK P t op x y F K):F∨ ∃v,K v∧Bin P t op x y v:=by
 have key: ∀(fx fy:Bool),P.underlying t=some .bool-> ∀(w:World) (a b:Operand),(do eqGuard .eql t a b (.bool fx) (.bool fy);binOp .eql t (.bool fx) (.bool fy):Sem Value).run P w=.ok (.bool (fx==fy)) w∧
   (do eqGuard .neq t a b (.bool fx) (.bool fy);binOp .neq t (.bool fx) (.bool fy):Sem Value).run P w=.ok (.bool (!(fx==fy))) w:=by
  intro fx fy hu w a b;have h: ∀d:Nat,(Op.equalIn (d+1) t (.bool fx) (.bool fy)).run P w=.ok (fx==fy) w:=λd=>by
   simp[Op.equalIn,run_underlying hu]
  have h':(Op.equal t (.bool fx) (.bool fy)).run P w=.ok (fx==fy) w:=h 9999;constructor
  ·simp only[eqGuard,binOp,Sem.run_bind];simp;rw[h'];rfl
  ·simp only[eqGuard,binOp,Sem.run_bind];simp;rw[h'];rfl
 have go: ∀(x y v:V) (fx fy:Bool),tyU P t=some .bool->(∀(w:World) β H m u,Rep w β H (V.conv m x) u->u=.bool fx)->(∀(w:World) β H m u,Rep w β H (V.conv m y) u->u=.bool fy)->
   ((op=.eql∧ ∀(w:World) β H m,Rep w β H (V.conv m v) (.bool (fx==fy)))∨(op=.neq∧ ∀(w:World) β H m,Rep w β H (V.conv m v) (.bool (!(fx==fy)))))->Bin P t op x y v:=by
  intro x y v fx fy hu h1 h2 h3;have hu:=Al hu
  rcases h3 with⟨rfl,hv⟩| ⟨rfl,hv⟩
  ·exact .mk h1 h2 (λw a b=>(key fx fy hu w a b).1) hv
  ·exact .mk h1 h2 (λw a b=>(key fx fy hu w a b).2) hv
 have ht: ∀(w:World) β H m u,Rep w β H (V.conv m .tt) u->u=.bool true:=λ_ _ _ _ _=>Kp;have hf: ∀(w:World) β H m u,Rep w β H (V.conv m .ff) u->u=.bool false:=λ_ _ _ _ _=>Kq;have hb: ∀b,∀(w:World) β H m u,Rep w β H (V.conv m (.bool b)) u->u=.bool b:=λ_ _ _ _ _ _=>Fi
 rcases hx with rfl|rfl| ⟨bx,rfl⟩
 ·unfold binK at h;simp only at h;split at h
  all_goals first
   |exact .inl h
   | (rename_i hu;exact .inr ⟨_,h,go _ _ _ _ _ hu ht ht (.inl ⟨rfl,λ_ _ _ _=>.tt⟩)⟩)
   | (rename_i hu;exact .inr ⟨_,h,go _ _ _ _ _ hu ht hf (.inl ⟨rfl,λ_ _ _ _=>.ff⟩)⟩)
   | (rename_i hu;exact .inr ⟨_,h,go _ _ _ _ _ hu ht ht (.inr ⟨rfl,λ_ _ _ _=>.ff⟩)⟩)
   | (rename_i hu;exact .inr ⟨_,h,go _ _ _ _ _ hu ht hf (.inr ⟨rfl,λ_ _ _ _=>.tt⟩)⟩)
   | (rename_i b hu;exact .inr ⟨_,h,go _ _ _ _ _ hu ht (hb b) (.inl ⟨rfl,λ_ _ _ _=>by cases b<;>exact C8 _⟩)⟩)
   | (rename_i b hu;exact .inr ⟨_,h,go _ _ _ _ _ hu ht (hb b) (.inr ⟨rfl,λ_ _ _ _=>by cases b<;>exact C8 _⟩)⟩)
 ·unfold binK at h;simp only at h;split at h
  all_goals first
   |exact .inl h
   | (rename_i hu;exact .inr ⟨_,h,go _ _ _ _ _ hu hf ht (.inl ⟨rfl,λ_ _ _ _=>.ff⟩)⟩)
   | (rename_i hu;exact .inr ⟨_,h,go _ _ _ _ _ hu hf hf (.inl ⟨rfl,λ_ _ _ _=>.tt⟩)⟩)
   | (rename_i hu;exact .inr ⟨_,h,go _ _ _ _ _ hu hf ht (.inr ⟨rfl,λ_ _ _ _=>.tt⟩)⟩)
   | (rename_i hu;exact .inr ⟨_,h,go _ _ _ _ _ hu hf hf (.inr ⟨rfl,λ_ _ _ _=>.ff⟩)⟩)
   | (rename_i b hu;exact .inr ⟨_,h,go _ _ _ _ _ hu hf (hb b) (.inl ⟨rfl,λ_ _ _ _=>by cases b<;>exact C8 _⟩)⟩)
   | (rename_i b hu;exact .inr ⟨_,h,go _ _ _ _ _ hu hf (hb b) (.inr ⟨rfl,λ_ _ _ _=>by cases b<;>exact C8 _⟩)⟩)
 ·unfold binK at h;simp only at h;split at h
  all_goals first
   |exact .inl h
   | (rename_i hu;exact .inr ⟨_,h,go _ _ _ _ _ hu (hb bx) ht (.inl ⟨rfl,λ_ _ _ _=>by cases bx<;>exact C8 _⟩)⟩)
   | (rename_i hu;exact .inr ⟨_,h,go _ _ _ _ _ hu (hb bx) hf (.inl ⟨rfl,λ_ _ _ _=>by cases bx<;>exact C8 _⟩)⟩)
   | (rename_i hu;exact .inr ⟨_,h,go _ _ _ _ _ hu (hb bx) ht (.inr ⟨rfl,λ_ _ _ _=>by cases bx<;>exact C8 _⟩)⟩)
   | (rename_i hu;exact .inr ⟨_,h,go _ _ _ _ _ hu (hb bx) hf (.inr ⟨rfl,λ_ _ _ _=>by cases bx<;>exact C8 _⟩)⟩)
   | (rename_i b hu;exact .inr ⟨_,h,go _ _ _ _ _ hu (hb bx) (hb b) (.inl ⟨rfl,λ_ _ _ _=>C8 _⟩)⟩)
   | (rename_i b hu;exact .inr ⟨_,h,go _ _ _ _ _ hu (hb bx) (hb b) (.inr ⟨rfl,λ_ _ _ _=>C8 _⟩)⟩)
theorem Y2 {P : Program} : ∀ (fs : List Field) (i : Nat) (xs ys : List V) (K : Bool → Prop), (∀ f ∈ fs, ¬ f.name = "_") → eqF P i fs xs ys F K → F ∨ ∃ b, K b ∧
  ∀(w:World) (β:Nat->Loc) (H:Heap) (m:List Nat) (us us':Array Value) (d:Nat),(∀(j:Nat) (x:V),xs[j]?=some x-> ∃u,us[i+j]?=some u∧Rep w β H (x.conv m) u)->(∀(j:Nat) (x:V),ys[j]?=some x-> ∃u,us'[i+j]?=some u∧Rep w β H (x.conv m) u)->
   (Op.eqFields (d+1) us us' fs).run P w=.ok b w
 | [],i,xs,ys,K,_,h=>.inr ⟨true,h,λ_ _ _ _ _ _ _ _ _=>by simp[Op.eqFields]⟩
 |f::fs,i,[],ys,K,_,h=>.inl h
 |f::fs,i,x::xs,[],K,_,h=>.inl h
 |f::fs,i,x::xs,y::ys,K,hn,h=>by
  rw[eqF] at h;have hnf:=hn f Ari;have hns : ∀ g ∈ fs, ¬ g.name = "_" := fun g hg => hn g (Are _ hg);cases hb:Nat.beq f.offset i with
  |false=>rw[hb] at h;exact .inl h
  |true=>
   rw[hb] at h;simp only[cond_true] at h;have ho:=Arn hb;have fin: ∀(e:Bool) (d0:TypeDesc),tyU P f.type=some d0->aggT d0=false->(F∨ ∃r,K (e&&r)∧ ∀(w:World) (β:Nat->Loc) (H:Heap) (m:List Nat) (us us':Array Value) (d:Nat),(∀(j:Nat) (x:V),xs[j]?=some x-> ∃u,us[i+1+j]?=some u∧Rep w β H (x.conv m) u)->(∀(j:Nat) (x:V),ys[j]?=some x-> ∃u,us'[i+1+j]?=some u∧Rep w β H (x.conv m) u)->
     (Op.eqFields (d+1) us us' fs).run P w=.ok r w)->
     (∀(w:World) (β:Nat->Loc) (H:Heap) (m:List Nat) (d:Nat) (u u':Value),Rep w β H (x.conv m) u->Rep w β H (y.conv m) u'->(Op.equalIn (d+1) f.type u u').run P w=.ok e w)->
     F∨ ∃b,K b∧ ∀(w:World) (β:Nat->Loc) (H:Heap) (m:List Nat) (us us':Array Value) (d:Nat),(∀(j:Nat) (z:V),(x::xs)[j]?=some z-> ∃u,us[i+j]?=some u∧Rep w β H (z.conv m) u)->(∀(j:Nat) (z:V),(y::ys)[j]?=some z-> ∃u,us'[i+j]?=some u∧Rep w β H (z.conv m) u)->
      (Op.eqFields (d+1) us us' (f::fs)).run P w=.ok b w:=by
    intro e d0 hd0 ha hrest heq
    rcases hrest with h| ⟨r,h1,h2⟩
    ·exact .inl h
    refine .inr ⟨e&&r,h1,λw β H m us us' d hx hy=> ?_⟩;obtain⟨u,e1,e2⟩:=hx 0 x rfl;obtain⟨u',e3,e4⟩:=hy 0 y rfl;have hu:=Al hd0;have p1:(part f.type us f.offset).run P w=.ok u w:=by
     have:us[i]?=some u:=e1;simp[part,Hg hu,ha,ho,this]
    have p2:(part f.type us' f.offset).run P w=.ok u' w:=by
     have:us'[i]?=some u':=e3;simp[part,Hg hu,ha,ho,this]
    have p3:=heq w β H m d u u' e2 e4;have p4:=h2 w β H m us us' d (λj z hz=>by have:=hx (j+1) z (by simpa using hz);rwa [show i+ (j+1)=i+1+j by omega] at this) (λj z hz=>by have:=hy (j+1) z (by simpa using hz);rwa [show i+ (j+1)=i+1+j by omega] at this);rw[Op.eqFields,if_pos (by simpa using hnf)];simp only[Sem.run_bind,p1,Result.andThen_ok,p2,p3];cases e with
    |false=>simp
    |true=>simp[p4]
   cases he:eq1 P f.type x y with
   |none=>rw[he] at h;exact .inl h
   |some e=>
    rw[he] at h;simp only at h;unfold eq1 at he;have go: ∀(d0:TypeDesc),tyU P f.type=some d0->aggT d0=false->(∀(w:World) (β:Nat->Loc) (H:Heap) (m:List Nat) (d:Nat) (u u':Value),Rep w β H (x.conv m) u->Rep w β H (y.conv m) u'->(Op.equalIn (d+1) f.type u u').run P w=.ok e w)->_:=
     λd0 h1 h2 h3=>fin e d0 h1 h2 (Y2 fs _ xs ys _ hns h) h3
    split at he
    ·cases he
    rename_i d0 ht;cases hi:isIntT d0 with
    |true=>
     obtain⟨kk,rfl⟩: ∃kk,d0=.int kk:=by cases d0<;>first|exact⟨_,rfl⟩|cases hi
     simp only[isIntT,cond_true] at he;split at he
     ·cases he
     rename_i p hp;split at he
     ·cases he
     rename_i q hq;cases hkk:Nat.beq (kindN p.1) (kindN q.1) with
     |false=>rw[hkk] at he;cases he
     |true=>
      rw[hkk] at he;injection he with he
      obtain⟨k1,a⟩:=p;obtain⟨k2,b⟩:=q;have hx:x=.int k1 a:=by cases x<;>simp[asI] at hp;rw[hp.1,hp.2]
      have hy:y=.int k2 b:=by cases y<;>simp[asI] at hq;rw[hq.1,hq.2]
      have hk12:k1=k2:=by
       have:=Arn hkk;cases k1<;>cases k2<;>first|rfl|cases this
      subst hx hy hk12;refine go _ ht rfl λw β H m d u u' r1 r2=> ?_;have q1:=A8 r1;have q2:=A8 r2;subst q1 q2;rw[run_equalIn_int w d _ _ _ _ _ (Al ht),←he,C2]
    |false=>
     rw[hi] at he;cases hs:isStrT d0 with
     |false=>rw[hs] at he;cases he
     |true=>
      obtain rfl:d0=.string:=by cases d0<;>first|rfl|cases hs
      simp only[isStrT,cond_true,cond_false] at he;split at he
      ·cases he
      rename_i a hp;split at he
      ·cases he
      rename_i b hq;injection he with he
      have hx:x=.str a:=by cases x<;>simp[asS] at hp;rw[hp]
      have hy:y=.str b:=by cases y<;>simp[asS] at hq;rw[hq]
      subst hx hy;refine go _ ht rfl λw β H m d u u' r1 r2=> ?_;have q1:=(Gn r1).1;have q2:=(Gn r2).1;subst q1 q2;rw[run_equalIn_string w d _ _ _ (Al ht),←he,Fu];simp[ByteArray.toList_eq]
theorem Ns {P:Program}{t:TypeId}{fs:Array Field}{xs ys:List V}{K:Bool->Prop}(ht:tyU P t=some (.struct fs))(hok:eqOk P t fs.toList=true)(h:eqF P 0 fs.toList xs ys F K):
  F∨ ∃b,K b∧Bin P t .eql (.agg xs) (.agg ys) (.bool b)∧Bin P t .neq (.agg xs) (.agg ys) (.bool (!b)):=by
 simp only[eqOk,Aq6,Atn,Ati,decide_eq_false_iff_not] at hok;obtain⟨⟨ho1,ho2⟩,ho3⟩:=hok
 rcases Y2 _ _ _ _ _ ho3 h with h| ⟨b,hk,hb⟩
 ·exact .inl h
 have hu:=Al ht;have hf:P.fieldsOf t=fs:=by simp[Program.fieldsOf,hu]
 have core: ∀(w:World) (β:Nat->Loc) (H:Heap) (m:List Nat) (u u':Value),Rep w β H ((V.agg xs).conv m) u->Rep w β H ((V.agg ys).conv m) u'-> ∃us us',u=.agg us∧u'=.agg us'∧(Op.equalIn 10000 t (.agg us) (.agg us')).run P w=.ok b w:=by
  intro w β H m u u' h1 h2;simp only[V.conv] at h1 h2;cases h1 with
  |agg _ us hl1 hc1=>
   cases h2 with
   |agg _ us' hl2 hc2=>
    refine⟨us,us',rfl,rfl,?_⟩;rw[run_equalIn_struct w 9999 t us us' (by rw[hf];exact hu) ho1,hf];refine hb w β H m us us' 9998 (λj x hx=> ?_) (λj x hx=> ?_)
    ·have hj:j<us.size:=by rw[←hl1,V.convL_eq,Arf];exact Ab hx
     refine⟨us[j],by rw[Ary];exact Ase hj,hc1 j _ _ (by rw[V.convL_eq,Arv,hx];rfl) (Ase hj)⟩
    ·have hj:j<us'.size:=by rw[←hl2,V.convL_eq,Arf];exact Ab hx
     refine⟨us'[j],by rw[Ary];exact Ase hj,hc2 j _ _ (by rw[V.convL_eq,Arv,hx];rfl) (Ase hj)⟩
 refine .inr ⟨b,hk,λw β H m a a' u u' h1 h2=> ?_,λw β H m a a' u u' h1 h2=> ?_⟩
 ·obtain⟨us,us',rfl,rfl,hr⟩:=core w β H m u u' h1 h2;refine⟨.bool b,?_,.bool b⟩;rw[Sem.run_bind,run_eqGuard_agg w .eql t a a' us us' ho2,Result.andThen_ok,run_eql_struct,hr];rfl
 ·obtain⟨us,us',rfl,rfl,hr⟩:=core w β H m u u' h1 h2;refine⟨.bool (!b),?_,.bool (!b)⟩;rw[Sem.run_bind,run_eqGuard_agg w .neq t a a' us us' ho2,Result.andThen_ok,run_neq_struct,hr];rfl
theorem Agu {P:Program}{t:TypeId}{op:BinOp}{x y:V}{K:V->Prop}(h:binK P t op x y F K):F∨ ∃v,K v∧Bin P t op x y v:=by
 have hi: ∀k n,∀(w:World) β H m u,Rep w β H (V.conv m (.int k n)) u->u=.int k n:=λ_ _ _ _ _ _ _=>A8;have hi': ∀k n,∀(w:World) β H m,Rep w β H (V.conv m (.int k n)) (.int k n):=λk n _ _ _ _=>.int k n;have hb': ∀b,∀(w:World) β H m,Rep w β H (V.conv m (.bool b)) (.bool b):=λb _ _ _ _=>.bool b;unfold binK at h;split at h
 ·rename_i a b;split at h
  ·obtain⟨⟨l,u⟩,h⟩:=h;exact .inr ⟨_,h,.mk (hi _ _) (hi _ _) (λw p q=>by simp[eqGuard,binOp,Op.intArith,IntWalk.i64_in _ ⟨l,u⟩]) (hi' _ _)⟩
  ·obtain⟨⟨l,u⟩,h⟩:=h;exact .inr ⟨_,h,.mk (hi _ _) (hi _ _) (λw p q=>by simp[eqGuard,binOp,Op.intArith,IntWalk.i64_in _ ⟨l,u⟩]) (hi' _ _)⟩
  ·obtain⟨⟨l,u⟩,h⟩:=h;exact .inr ⟨_,h,.mk (hi _ _) (hi _ _) (λw p q=>by simp[eqGuard,binOp,Op.intArith,IntWalk.i64_in _ ⟨l,u⟩]) (hi' _ _)⟩
  ·obtain⟨h0,⟨l,u⟩,h⟩:=h;exact .inr ⟨_,h,.mk (hi _ _) (hi _ _) (λw p q=>by simp[eqGuard,binOp,Op.intDiv,h0,IntWalk.i64_in _ ⟨l,u⟩]) (hi' _ _)⟩
  ·obtain⟨h0,h⟩:=h;exact .inr ⟨_,h,.mk (hi _ _) (hi _ _) (λw p q=>by simp[eqGuard,binOp,Op.intDiv,h0]) (hi' _ _)⟩
  ·exact .inr ⟨_,h,.mk (hi _ _) (hi _ _) (λw p q=>by simp[eqGuard,binOp,Op.intCmp,C2]) (hb' _)⟩
  ·exact .inr ⟨_,h,.mk (hi _ _) (hi _ _) (λw p q=>by simp[eqGuard,binOp,Op.intCmp,C2,bne]) (hb' _)⟩
  ·exact .inr ⟨_,h,.mk (hi _ _) (hi _ _) (λw p q=>by simp[eqGuard,binOp,Op.intCmp]) (hb' _)⟩
  ·exact .inr ⟨_,h,.mk (hi _ _) (hi _ _) (λw p q=>by simp[eqGuard,binOp,Op.intCmp]) (hb' _)⟩
  ·exact .inr ⟨_,h,.mk (hi _ _) (hi _ _) (λw p q=>by simp[eqGuard,binOp,Op.intCmp]) (hb' _)⟩
  ·exact .inr ⟨_,h,.mk (hi _ _) (hi _ _) (λw p q=>by simp[eqGuard,binOp,Op.intCmp]) (hb' _)⟩
  ·exact .inl h
 ·rename_i a b;split at h
  ·exact .inr ⟨_,h,.mk (hi _ _) (hi _ _) (λw p q=>by simp[eqGuard,binOp,Op.intCmp,C2]) (hb' _)⟩
  ·exact .inr ⟨_,h,.mk (hi _ _) (hi _ _) (λw p q=>by simp[eqGuard,binOp,Op.intCmp,C2,bne]) (hb' _)⟩
  ·exact .inr ⟨_,h,.mk (hi _ _) (hi _ _) (λw p q=>by simp[eqGuard,binOp,Op.intCmp]) (hb' _)⟩
  ·exact .inr ⟨_,h,.mk (hi _ _) (hi _ _) (λw p q=>by simp[eqGuard,binOp,Op.intCmp]) (hb' _)⟩
  ·exact .inr ⟨_,h,.mk (hi _ _) (hi _ _) (λw p q=>by simp[eqGuard,binOp,Op.intCmp]) (hb' _)⟩
  ·exact .inr ⟨_,h,.mk (hi _ _) (hi _ _) (λw p q=>by simp[eqGuard,binOp,Op.intCmp]) (hb' _)⟩
  ·exact .inl h
 ·rename_i a b;split at h
  ·exact .inr ⟨_,h,.mk (hi _ _) (hi _ _) (λw p q=>by simp[eqGuard,binOp,Op.intCmp,C2]) (hb' _)⟩
  ·exact .inr ⟨_,h,.mk (hi _ _) (hi _ _) (λw p q=>by simp[eqGuard,binOp,Op.intCmp,C2,bne]) (hb' _)⟩
  ·exact .inr ⟨_,h,.mk (hi _ _) (hi _ _) (λw p q=>by simp[eqGuard,binOp,Op.intCmp]) (hb' _)⟩
  ·exact .inr ⟨_,h,.mk (hi _ _) (hi _ _) (λw p q=>by simp[eqGuard,binOp,Op.intCmp]) (hb' _)⟩
  ·exact .inr ⟨_,h,.mk (hi _ _) (hi _ _) (λw p q=>by simp[eqGuard,binOp,Op.intCmp]) (hb' _)⟩
  ·exact .inr ⟨_,h,.mk (hi _ _) (hi _ _) (λw p q=>by simp[eqGuard,binOp,Op.intCmp]) (hb' _)⟩
  ·exact .inr ⟨_,h,.mk (hi _ _) (hi _ _) (λw p q=>by simp[eqGuard,binOp,Op.intArith]) (hi' _ _)⟩
  ·exact .inr ⟨_,h,.mk (hi _ _) (hi _ _) (λw p q=>by simp[eqGuard,binOp,Op.intArith]) (hi' _ _)⟩
  ·exact .inr ⟨_,h,.mk (hi _ _) (hi _ _) (λw p q=>by simp[eqGuard,binOp,Op.intArith]) (hi' _ _)⟩
  ·exact .inl h
 ·rename_i a b;have hs: ∀s,∀(w:World) β H m u,Rep w β H (V.conv m (.str s)) u->u=.string ⟨s.toArray⟩:=λ_ _ _ _ _ _ h=>(Gn h).1;split at h
  ·obtain⟨hl,h⟩:=h;refine .inr ⟨_,h,.mk (hs _) (hs _) (λw p q=> ?_) (λw β H m=>.str (a++b) (by unfold maxLen;omega))⟩;have e:(⟨a.toArray⟩:ByteArray)++ ⟨b.toArray⟩=⟨(a++b).toArray⟩:=by
    apply ByteArray.ext;simp[ByteArray.data_append]
   have hsz: ¬ (((⟨a.toArray⟩:ByteArray).size+ (⟨b.toArray⟩:ByteArray).size:Nat):Int)>IntKind.i64.max:=by
    have e1:IntKind.i64.max=9223372036854775807:=by decide
    have e2:(⟨a.toArray⟩:ByteArray).size=a.length:=by simp[ByteArray.size]
    have e3:(⟨b.toArray⟩:ByteArray).size=b.length:=by simp[ByteArray.size]
    rw[e1,e2,e3];simp at hl;omega
   simp only[eqGuard,binOp,Op.stringOp,if_neg hsz,e];simp
  ·exact .inr ⟨_,h,.mk (hs _) (hs _) (λw p q=>by simp[eqGuard,binOp,Op.stringOp,Fu]) (hb' _)⟩
  ·exact .inr ⟨_,h,.mk (hs _) (hs _) (λw p q=>by simp[eqGuard,binOp,Op.stringOp,Fu]) (hb' _)⟩
  ·exact .inr ⟨_,h,.mk (hs _) (hs _) (λw p q=>by simp[eqGuard,binOp,Op.stringOp]) (hb' _)⟩
  ·exact .inr ⟨_,h,.mk (hs _) (hs _) (λw p q=>by simp[eqGuard,binOp,Op.stringOp,Fu]) (hb' _)⟩
  ·exact .inr ⟨_,h,.mk (hs _) (hs _) (λw p q=>by simp[eqGuard,binOp,Op.stringOp,Fu]) (hb' _)⟩
  ·exact .inr ⟨_,h,.mk (hs _) (hs _) (λw p q=>by simp[eqGuard,binOp,Op.stringOp]) (hb' _)⟩
  ·exact .inl h
 ·split at h
  ·rename_i fs ht;split at h
   ·obtain⟨h0,h⟩:=h
    rcases Ns ht h0 h with h| ⟨b,h1,h2,_⟩
    ·exact .inl h
    ·exact .inr ⟨_,h1,h2⟩
   ·obtain⟨h0,h⟩:=h
    rcases Ns ht h0 h with h| ⟨b,h1,_,h2⟩
    ·exact .inl h
    ·exact .inr ⟨_,h1,h2⟩
   ·exact .inl h
  ·exact .inl h
 ·exact M8 (.inl rfl) h
 ·exact M8 (.inr (.inl rfl)) h
 ·exact M8 (.inr (.inr ⟨_,rfl⟩)) h
 ·exact .inl h
theorem Al5 {op:BinOp}{t t':TypeId}{x y:Operand}(h:evOp c (.binOp op t x y t') E T F K):F∨ ∃u T',K u T'∧OpTo c (.binOp op t x y t') E T u T':=by
 simp only[evOp] at h
 rcases Agu h with h| ⟨v,h1,h2⟩
 ·exact .inl h
 ·refine .inr ⟨v,T,h1,OpTo.still λo ho w β H m a hs=> ?_⟩;obtain⟨r,k1,k2⟩:=h2 w β H m x y _ _ (Ae hs x) (Ae hs y);refine⟨r,?_,k2⟩;simp only[execOp,ho];rw[Sem.run_bind,k1];rfl
theorem Aog {op:UnOp}{t:TypeId}{x:Operand}(h:evOp c (.unOp op t x) E T F K):F∨ ∃u T',K u T'∧OpTo c (.unOp op t x) E T u T':=by
 simp only[evOp] at h;unfold unK at h;split at h
 ·rename_i hx;refine .inr ⟨_,_,h,OpTo.still λo ho w β H m a hs=>⟨.bool false,?_,.ff⟩⟩;have:=Ae hs x;simp only[hx] at this;simp[execOp,ho,Kp this,Op.unary]
 ·rename_i hx;refine .inr ⟨_,_,h,OpTo.still λo ho w β H m a hs=>⟨.bool true,?_,.tt⟩⟩;have:=Ae hs x;simp only[hx] at this;simp[execOp,ho,Kq this,Op.unary]
 ·rename_i b hx;refine .inr ⟨_,_,h,OpTo.still λo ho w β H m a hs=>⟨.bool (!b),?_,.bool _⟩⟩;have:=Ae hs x;simp only[hx] at this;simp[execOp,ho,Fi this,Op.unary]
 ·rename_i n hx;obtain⟨⟨l,u⟩,h⟩:=h;refine .inr ⟨_,_,h,OpTo.still λo ho w β H m a hs=>⟨.int .i64 (-n),?_,.int _ _⟩⟩;have:=Ae hs x;simp only[hx] at this;simp[execOp,ho,A8 this,Op.unary,Op.intArith,IntWalk.i64_in _ ⟨l,u⟩]
 ·exact .inl h
variable {c:Cx} {E:Env} {T:Heap} {F:Prop} {K:V->Heap->Prop}
theorem lo?_sound {o:Option Operand}{d:Int}{K:Int->Prop}(h:lo? E o d K F):F∨ ∃n,K n∧((o=none∧n=d)∨ ∃x k,o=some x∧opd E x=.int k n):=by
 unfold lo? at h;split at h
 ·exact .inr ⟨_,h,.inl ⟨rfl,rfl⟩⟩
 ·rename_i x _;split at h
  ·rename_i k n hx;exact .inr ⟨n,h,.inr ⟨_,_,rfl,hx⟩⟩
  ·exact .inl h
def boundIs (o:Option Value)(d n:Int):Prop:=(o=none∧n=d)∨ ∃k,o=some (.int k n)
theorem lo?_val {o:Option Operand}{d n:Int}{w:World}{β:Nat->Loc}{H:Heap}{m:List Nat}{imps:List Nat}{nt:Nat}{B:Base}{D:List Nat}{a:Act}(hs:SRel imps nt w β H m ⟨E,T,B,D⟩ a)
  (h:(o=none∧n=d)∨ ∃x k,o=some x∧opd E x=.int k n):boundIs (o.map a.eval) d n:=by
 rcases h with⟨rfl,rfl⟩| ⟨x,k,rfl,hx⟩
 ·exact .inl ⟨rfl,rfl⟩
 ·have:=Ae hs x;simp only[hx] at this;exact .inr ⟨k,by simp[A8 this]⟩
theorem Uk {P:Program}{isS:Bool}{len cap:Nat}{lo hi:Option Value}{l h:Int}(h1:boundIs lo 0 l)(h2:boundIs hi len h)(hl:0≤l)(hlh:l≤h)(hc:h≤cap)(w:World):
  (Instr.sliceBounds isS len cap lo hi none).run P w=.ok (l.toNat,h.toNat,cap) w:=by
 have hh:0≤h:=by omega
 rcases h1 with⟨rfl,rfl⟩| ⟨k,rfl⟩<;>rcases h2 with⟨rfl,rfl⟩| ⟨k',rfl⟩
 ·simp[Instr.sliceBounds]
 ·have:(Int.toNat h:Int)=h:=Int.toNat_of_nonneg hh;simp[Instr.sliceBounds,Instr.sliceBound,asIntOf,hh,hc]
 ·have:l≤(len:Int):=hlh;simp[Instr.sliceBounds,Instr.sliceBound,asIntOf,hl,this]
 ·have:(Int.toNat h:Int)=h:=Int.toNat_of_nonneg hh;simp[Instr.sliceBounds,Instr.sliceBound,asIntOf,hl,hh,hc,this,hlh]
theorem Alm {t:TypeId}{x:Operand}{lo hi mx:Option Operand}(h:evOp c (.slice t x lo hi mx) E T F K):F∨ ∃u T',K u T'∧OpTo c (.slice t x lo hi mx) E T u T':=by
 simp only[evOp] at h;split at h
 ·rename_i s hu hx;have hu:=Al hu
  rcases lo?_sound h with h| ⟨l,h,hlo⟩
  ·exact .inl h
  ·rcases lo?_sound h with h| ⟨r,h,hhi⟩
   ·exact .inl h
   ·obtain⟨h1,h2,h3,h⟩:=h;refine .inr ⟨_,_,h,OpTo.still λo ho w β H m a hs=> ?_⟩;have hr:=Ae hs x;simp only[hx] at hr;obtain⟨hv,hl⟩:=Gn hr;have hb:=Uk (P:=c.P) (isS:=false) (lo?_val hs hlo) (lo?_val hs hhi) h1 h2 (by exact h3) w;have hsz:(⟨s.toArray⟩:ByteArray).size=s.length:=by simp[ByteArray.size]
    refine⟨_,?_,.str _ (by simp;omega)⟩
    ·simp only[execOp,ho,Instr.sliceAt,hv,Option.map_none];rw[Sem.run_bind,Sem.run_bind,run_underlying hu];simp only[Result.andThen_ok,Instr.slice];rw[Sem.run_bind,run_underlying hu];simp only[Result.andThen_ok,Option.isSome_none];simp[hsz,hb,ByteArray.extract_mk]
 ·rename_i e sz xs hu hx;have hu:=Al hu;split at h
  ·rename_i ti hti;cases hb:Nat.beq sz ti.size with
   |false=>rw[hb] at h;exact .inl h
   |true=>
    rw[hb] at h;have hsz:=Arn hb;have hI:=A4 hti
    rcases lo?_sound h with h| ⟨l,h,hlo⟩
    ·exact .inl h
    ·rcases lo?_sound h with h| ⟨r,h,hhi⟩
     ·exact .inl h
     ·obtain⟨h1,h2,h3,h⟩:=h;refine .inr ⟨_,_,h,OpTo.still λo ho w β H m a hs=> ?_⟩;have hr:=Ae hs x;simp only[hx,V.conv] at hr;generalize hq:a.eval x=q at hr;cases hr with
      |sl _ _ ad cap vals hcap hmax hok ha hrr=>
       have hbd:=Uk (P:=c.P) (isS:=true) (lo?_val hs hlo) (lo?_val hs hhi) h1 h2 (by omega:r≤(cap:Int)) w;refine⟨.slice (if cap=l.toNat then ad else ad.map (·.add (l.toNat*ti.size))) (r.toNat-l.toNat) (cap-l.toNat),?_,?_⟩
       ·simp only[execOp,ho,Instr.sliceAt,hq,Option.map_none];rw[Sem.run_bind,Sem.run_bind,run_underlying hu];simp only[Result.andThen_ok,Instr.slice];rw[Sem.run_bind,run_underlying hu];simp[hbd,A5 hI]
       ·have hlen:((xs.drop l.toNat).take (r.toNat-l.toNat)).length=r.toNat-l.toNat:=by simp;omega
        have:=Rep.sl (w:=w) (β:=β) (H:=H) sz ((xs.drop l.toNat).take (r.toNat-l.toNat)) (if cap=l.toNat then ad else ad.map (·.add (l.toNat*ti.size))) (cap-l.toNat) (λj=>vals (l.toNat*sz+j))
         (by rw[hlen];omega) (by omega) (λy hy=>hok y (Asp (As0 hy))) ?_ ?_
        ·rw[hlen] at this;simpa only[V.conv] using this
        ·intro hne;have hlt:l.toNat<r.toNat:=by
          rcases Ar3 l.toNat r.toNat with h5|h5
          ·exact h5
          ·exact absurd (As2 (by rw[hlen];omega)) hne
         obtain⟨ad',e1,e2,e3,e4⟩:=ha (λe=>by subst e;simp at h3;omega);subst e1;rw[if_neg (by omega),←hsz];refine⟨_,rfl,?_,?_,λj hj=> ?_⟩
         ·have:(ad'.add (l.toNat*sz)).block=ad'.block:=by unfold Addr.add;split<;>rfl
          simp only[this];exact e2
         ·have:(ad'.add (l.toNat*sz)).block=ad'.block:=by unfold Addr.add;split<;>rfl
          simp only[this];exact e3
         ·rw[Js];refine e4 _ ?_;rw[hlen] at hj;have e5:l.toNat*sz+ (r.toNat-l.toNat)*sz=r.toNat*sz:=by rw[←Asn];congr 1;omega
          have e6:r.toNat*sz≤xs.length*sz:=Arg _ (by omega);omega
        ·intro i y j cc hi hj;have hi':xs[l.toNat+i]?=some y:=by
          rw[Asv] at hi;split at hi
          ·rwa [As8] at hi
          ·cases hi
         have:=hrr _ y j cc hi' hj;rw[show l.toNat*sz+ (i*sz+j)=(l.toNat+i)*sz+j by rw[Asn];omega];exact this
  ·exact .inl h
 ·exact .inl h
theorem Ib (b o d:Nat):(⟨b,o,none⟩:Addr).add d=⟨b,o+d,none⟩:=by
 unfold Addr.add;split<;>simp_all
theorem J6 {P:Program}{t:TypeId}{fs:Array Field}{f:Nat}{fd:Field}{ti:TypeInfo}{q:Addr}(hu:P.underlying t=some (.struct fs))(hf:fs[f]?=some fd)(hi:P.info? fd.type=some ti)(h1:1≤ti.size)(w:World):
  (Instr.fieldAt t (.pointer (some q)) f).run P w=.ok (.pointer (some (q.add fd.offset))) w:=by
 have: ¬ti.size=0:=by omega
 simp[Instr.fieldAt,run_underlying hu,hf,Instr.sureAddr,fieldPlace,A5 hi,this]
theorem Aa8 {t:TypeId}{x:Operand}{f:Nat}(h:evOp c (.fieldAddr t x f) E T F K):F∨ ∃u T',K u T'∧OpTo c (.fieldAddr t x f) E T u T':=by
 simp only[evOp] at h;split at h
 ·rename_i fs hu;have hu:=Al hu;rw[Af] at h;split at h
  ·rename_i fd hf;have hf:fs[f]?=some fd:=by simpa using hf
   split at h
   ·rename_i ti hti;have hI:=A4 hti;cases hb:Nat.ble 1 ti.size with
    |false=>rw[hb] at h;exact .inl h
    |true=>
     rw[hb] at h;have h1:1≤ti.size:=Arp hb;simp only[cond_true] at h;split at h
     ·rename_i k off hx;rw[Af] at h;split at h
      ·rename_i cs hk;refine .inr ⟨_,_,h,OpTo.still λo ho w β H m a hs=> ?_⟩;have hp:=Ae hs x;simp only[hx] at hp;obtain⟨r,b,N,vs,e,hr,hH,hβ,hv,_⟩:=hs.box hk hp;refine⟨.pointer (some ((⟨b,off,none⟩:Addr).add fd.offset)),by simp[execOp,ho,hv,J6 hu hf hI h1],?_⟩;rw[Ib];simp only[V.conv,Ref.conv,hr];exact .ptrLive r _ b N _ hH hβ
      ·exact .inl h
     ·rename_i r off hx;obtain⟨hni,⟨cs,hB⟩,h⟩:=h;refine .inr ⟨_,_,h,OpTo.still λo ho w β H m a hs=> ?_⟩;have hp:=Ae hs x;simp only[hx,V.conv,Ref.conv] at hp;have hH:H[r]?=some (some (.box cs)):=hs.baseAt hni hB;generalize hq:a.eval x=q at hp;cases hp with
      |ptrLive _ _ b N cs' hH' hβ=>
       refine⟨.pointer (some ((⟨b,off,none⟩:Addr).add fd.offset)),by simp[execOp,ho,hq,J6 hu hf hI h1],?_⟩;rw[Ib];exact .ptrLive r _ b N _ hH hβ
      |ptrDead _ _ _ hd=>rw[hH] at hd;cases hd
     ·rename_i cs off hx;refine .inr ⟨_,_,h,OpTo.still λo ho w β H m a hs=> ?_⟩;have hp:=Ae hs x;simp only[hx,V.conv] at hp;generalize hq:a.eval x=q at hp;cases hp with
      |iptr _ _ ad vals hown hlt hc hr=>
       refine⟨.pointer (some ((ad.add off).add fd.offset)),by simp[execOp,ho,hq,J6 hu hf hI h1],?_⟩;rw[Js];exact .iptr cs _ ad vals hown hlt hc hr
     ·rename_i k g i off hx;rw[Af] at h;split at h
      ·rename_i g' sz xs hk;obtain⟨rfl,h⟩:=h;refine .inr ⟨_,_,h,OpTo.still λo ho w β H m a hs=> ?_⟩;have hp:=Ae hs x;obtain⟨r,hr,hH⟩:=hs.at hk;simp only[hx,V.conv,Ref.conv,hr] at hp;simp only[HObj.conv] at hH;generalize hq:a.eval x=q at hp;cases hp with
       |eptrLive _ _ _ _ sz' xs' b N hH' hβ hi=>
        refine⟨.pointer (some ((⟨b,i*sz'+off,none⟩:Addr).add fd.offset)),by simp[execOp,ho,hq,J6 hu hf hI h1],?_⟩;rw[Ib,Avq];simp only[V.conv,Ref.conv,hr];exact .eptrLive r g i _ sz' xs' b N hH' hβ hi
       |eptrStale _ _ _ _ g' sz' xs' _ hH' hg=>
        rw[hH] at hH';injection hH' with hH'
        injection hH' with hH'
        injection hH' with e0 _ _
        omega
       |eptrDead _ _ _ _ _ hd=>rw[hH] at hd;cases hd
      ·exact .inl h
     ·exact .inl h
   ·exact .inl h
  ·exact .inl h
 ·exact .inl h
theorem Ul {P:Program}{t:TypeId}{cs:List V}{off:Nat}{K:V->Prop}(h:partK P t cs off F K):
  F∨ ∃x,K x∧ ∀(w:World) (β:Nat->Loc) (H:Heap) (m:List Nat) (vs:Array Value),cs.length=vs.size->(∀(j:Nat) (c:V) (v:Value),(V.convL m cs)[j]?=some c->vs[j]?=some v->Rep w β H c v)->
   ∃v,(part t vs off).run P w=.ok v w∧Rep w β H (x.conv m) v:=by
 unfold partK at h;split at h
 ·rename_i d i hd hi;have hu:=Al hd;have hI:=A4 hi;cases ha:aggT d with
  |true=>
   rw[ha] at h;simp only[cond_true,Og] at h
   rcases M6 _ _ _ h with h| ⟨hle,hk⟩
   ·exact .inl h
   ·simp only[Asf] at hle;refine .inr ⟨_,hk,λw β H m vs hl hr=>⟨.agg (vs.extract off (off+i.size)),?_,?_⟩⟩
    ·simp[part,Hg hu,ha,A5 hI]
    ·simp only[V.conv,V.convL_eq];refine .agg _ _ (by simp;omega) λj c v hj hv=> ?_;have hjl:j<i.size:=by
      have:=Ab hj;simp at this;omega
     rw[At8] at hv;split at hv
     ·refine hr (off+j) c v ?_ hv;rw[V.convL_eq];simp only[Arv,Asv,hjl,if_true,As8] at hj;rw[Arv];exact hj
     ·cases hv
  |false=>
   rw[ha] at h;simp only[cond_false,Af] at h;split at h
   ·rename_i v hv;rw[Bq] at h;refine .inr ⟨v,h,λw β H m vs hl hr=> ?_⟩;have ho:off<vs.size:=by rw[←hl];exact Ab hv
    refine⟨vs[off],?_,hr off _ _ (by rw[V.convL_eq,Arv,hv];rfl) (Ase ho)⟩;simp[part,Hg hu,ha,ho]
   ·exact .inl h
 ·exact .inl h
theorem Aln {t:TypeId}{x:Operand}{f:Nat}(h:evOp c (.field t x f) E T F K):F∨ ∃u T',K u T'∧OpTo c (.field t x f) E T u T':=by
 simp only[evOp] at h;split at h
 ·rename_i fs cs hu hx;have hu:=Al hu;rw[Af] at h;split at h
  ·rename_i fd hf;have hf:fs[f]?=some fd:=by simpa using hf
   rcases Ul h with h| ⟨u,hk,hp⟩
   ·exact .inl h
   ·refine .inr ⟨u,T,hk,OpTo.still λo ho w β H m a hs=> ?_⟩;have hr:=Ae hs x;simp only[hx,V.conv] at hr;generalize hq:a.eval x=q at hr;cases hr with
    |agg _ vs hl hc=>
     obtain⟨v,h1,h2⟩:=hp w β H m vs (by rw[V.convL_eq] at hl;simpa using hl) hc;exact⟨v,by simp[execOp,ho,hq,Instr.field,run_underlying hu,hf,asAgg,h1],h2⟩
  ·exact .inl h
 ·exact .inl h
theorem Agf {x:Operand}{i:Nat}(h:evOp c (.extract x i) E T F K):F∨ ∃u T',K u T'∧OpTo c (.extract x i) E T u T':=by
 simp only[evOp,Af,Bq] at h;split at h
 ·rename_i vs hx;split at h
  ·rename_i v hv;refine .inr ⟨_,_,h,OpTo.still λo ho w β H m a hs=> ?_⟩;have hr:=Ae hs x;simp only[hx,V.conv] at hr;generalize hq:a.eval x=q at hr;cases hr with
   |tup _ us hl hc=>
    have hi:i<us.size:=by
     have:=Ab hv;rw[V.convL_eq] at hl;simp at hl;omega
    exact⟨us[i],by simp[execOp,ho,hq,Instr.extract,hi],hc i _ _ (by rw[V.convL_eq,Arv,hv];rfl) (Ase hi)⟩
  ·exact .inl h
 ·exact .inl h
theorem Agg {s d:TypeId}{x:Operand}(h:evOp c (.convert s d x) E T F K):F∨ ∃u T',K u T'∧OpTo c (.convert s d x) E T u T':=by
 simp only[evOp] at h;split at h
 ·rename_i ds k k' n hs' hd hx;have hs':=Al hs';have hd:=Al hd;refine .inr ⟨_,_,h,OpTo.still λo ho w β H m a hs=>⟨.int k (k.wrap n),?_,.int _ _⟩⟩;have:=Ae hs x;simp only[hx] at this;simp[execOp,ho,A8 this,convert,run_underlying hs',run_underlying hd,Conv.intToInt]
 ·exact .inl h
theorem Alo {t:TypeId}{x ix:Operand}(h:evOp c (.index t x ix) E T F K):F∨ ∃u T',K u T'∧OpTo c (.index t x ix) E T u T':=by
 simp only[evOp] at h;split at h
 ·rename_i s k i hu hx hi;have hu:=Al hu;obtain⟨h0,b,hb,h⟩:=h;refine .inr ⟨_,_,h,OpTo.still λo ho w β H m a hs=>⟨.int .u8 b.toNat,?_,.int _ _⟩⟩;have h1:=Ae hs x;have h2:=Ae hs ix;simp only[hx] at h1;simp only[hi] at h2;obtain⟨e1,_⟩:=Gn h1;have e2:=A8 h2;have hlt:=Ab hb;have hget:(⟨s.toArray⟩:ByteArray)[i.toNat]?=some b:=by
   have hl:i.toNat< (⟨s.toArray⟩:ByteArray).size:=by simpa[ByteArray.size] using hlt
   rw[getElem?_pos (⟨s.toArray⟩:ByteArray) i.toNat hl];have:s[i.toNat]=b:=by
    rw[Aq3 hlt] at hb;exact Option.some.inj hb
   rw[←this];rfl
  simp[execOp,ho,e1,e2,Instr.index,asIntOf,run_underlying hu,h0,hget]
 ·rename_i len e cs k i hu hx hi;have hu:=Al hu;split at h
  ·rename_i ti hti;obtain⟨h0,h1,h⟩:=h
   rcases Ul h with h| ⟨u,hk,hp⟩
   ·exact .inl h
   ·refine .inr ⟨u,T,hk,OpTo.still λo ho w β H m a hs=> ?_⟩;have hr:=Ae hs x;have h2:=Ae hs ix;simp only[hx,V.conv] at hr;simp only[hi] at h2;have e2:=A8 h2;generalize hq:a.eval x=q at hr;cases hr with
    |agg _ vs hl hc=>
     obtain⟨v,h3,h4⟩:=hp w β H m vs (by rw[V.convL_eq] at hl;simpa using hl) hc;exact⟨v,by simp[execOp,ho,hq,e2,Instr.index,asIntOf,run_underlying hu,h0,h1,A5 (A4 hti),h3],h4⟩
  ·exact .inl h
 ·exact .inl h
theorem Ad9 {f:Fn}{xs ys:Array Operand}(h:evOp c (.makeFunc f xs ys) E T F K):F∨ ∃u T',K u T'∧OpTo c (.makeFunc f xs ys) E T u T':=by
 simp only[evOp,Jo] at h;refine .inr ⟨_,_,h,OpTo.still λo ho w β H m a hs=>⟨.func f (xs.map a.eval) (ys.map a.eval),by simp[execOp,ho,Instr.makeFunc],?_⟩⟩;have key: ∀(zs:Array Operand) (j:Nat) (x:V) (v:Value),(V.convL m (zs.toList.map (opd E)))[j]?=some x->(zs.map a.eval)[j]?=some v->Rep w β H x v:=by
  intro zs j x v h1 h2;rw[V.convL_eq] at h1;simp only[Avf,Arv,Asm,Asu,Au4] at h1 h2;obtain⟨z,e1,e2⟩:=h1;obtain⟨z',e3,e4⟩:=h2;rw[e1] at e3;injection e3 with e3
  subst e3 e2 e4;exact Ae hs z
 simp only[V.conv];exact .fn _ _ _ _ _ (by rw[V.convL_eq];simp) (by rw[V.convL_eq];simp) (key xs) (key ys)
theorem Aa9 {t:TypeId}{x ix:Operand}(h:evOp c (.indexAddr t x ix) E T F K):F∨ ∃u T',K u T'∧OpTo c (.indexAddr t x ix) E T u T':=by
 simp only[evOp] at h;split at h
 ·rename_i e sz xs k i hu hx hi;have hu:=Al hu;split at h
  ·rename_i ti hti;have hI:=A4 hti;cases hb:(Nat.beq sz ti.size&&Nat.ble 1 sz) with
   |false=>rw[hb] at h;exact .inl h
   |true=>
    rw[hb] at h;simp only[Aq6] at hb;have hsz:=Arn hb.1;have hs1:1≤sz:=Arp hb.2;obtain⟨h0,v,hv,h⟩:=h;refine .inr ⟨_,_,h,OpTo.still λo ho w β H m a hs=> ?_⟩;have h1:=Ae hs x;have h2:=Ae hs ix;simp only[hx,V.conv] at h1;simp only[hi] at h2;have e2:=A8 h2;generalize hq:a.eval x=q at h1;cases h1 with
    |sl _ _ ad cap vals hcap hmax hok ha hr=>
     have hlt:=Ab hv;have hne:xs≠[]:=by rintro rfl;simp at hlt
     obtain⟨ad',rfl,e3,e4,e5⟩:=ha hne;have hil:i< (xs.length:Int):=by omega
     refine⟨.pointer (some (ad'.add (i.toNat*ti.size))),?_,?_⟩
     ·simp[execOp,ho,hq,e2,Instr.indexAt,asIntOf,run_underlying hu,h0,hil,A5 hI]
     ·have hlen:=(hok v (Aq7 hv)).1;have hbd: ∀j,j<sz->i.toNat*sz+j<xs.length*sz:=λj hj=>by
       have:(i.toNat+1)*sz≤xs.length*sz:=Arg _ hlt;rw[Asn] at this;omega
      have hblk:(ad'.add (i.toNat*ti.size)).block=ad'.block:=by unfold Addr.add;split<;>rfl
      have:=Rep.iptr (w:=w) (β:=β) (H:=H) v.cells 0 (ad'.add (i.toNat*ti.size)) (λj=>vals (i.toNat*sz+j)) (by rw[hblk];exact e3.1) (by rw[hblk];exact e4)
       (λj hj=>by rw[Js,←hsz];exact e5 _ (hbd j (by omega))) (λj cc hj=>hr _ v j cc hv hj)
      simpa[V.conv,Addr.add] using this
  ·exact .inl h
 ·rename_i e k g off len kk i hu hx hi;have hu:=Al hu;rw[Af] at h;split at h
  ·rename_i ti g' sz xs hti hk;have hI:=A4 hti;cases hb:(Nat.beq sz ti.size&&Nat.ble 1 sz) with
   |false=>rw[hb] at h;exact .inl h
   |true=>
    rw[hb] at h;simp only[Aq6] at hb;have hsz:=Arn hb.1;obtain⟨rfl,h0,hil,h⟩:=h;refine .inr ⟨_,_,h,OpTo.still λo ho w β H m a hs=> ?_⟩;have h1:=Ae hs x;have h2:=Ae hs ix;obtain⟨r,hr,hH⟩:=hs.at hk;simp only[hx,V.conv,Ref.conv,hr] at h1;simp only[HObj.conv] at hH;simp only[hi] at h2;have e2:=A8 h2;generalize hq:a.eval x=q at h1;cases h1 with
    |oslNil _ _ _ _ _ hH' hβ=>omega
    |oslBlk _ _ _ _ sz' xs' b N ad cap hH' hβ hl hN hcap ha hlen=>
     rw[hH] at hH';injection hH' with hH'
     injection hH' with hH'
     injection hH' with _ e3 e4
     subst e3 e4;have:=ha (by omega);subst this;refine⟨.pointer (some ⟨b,(off+i.toNat)*sz,none⟩),?_,?_⟩
     ·have:(⟨b,off*sz,none⟩:Addr).add (i.toNat*sz)=⟨b,(off+i.toNat)*sz,none⟩:=by rw[Ib,Asn]
      simp[execOp,ho,hq,e2,Instr.indexAt,asIntOf,run_underlying hu,h0,hil,A5 hI,←hsz,this]
     ·simp only[V.conv,Ref.conv,hr];exact .eptrLive r g _ 0 sz xs b N hH hβ (by omega)
    |oslStale _ _ _ _ g' sz' xs' _ hH' hg=>
     rw[hH] at hH';injection hH' with hH'
     injection hH' with hH'
     injection hH' with e0 _ _
     omega
    |oslDead _ _ _ _ _ hd=>rw[hH] at hd;cases hd
  ·exact .inl h
 ·exact .inl h
variable {c:Cx} {E:Env} {T:Heap} {F:Prop} {K:V->Heap->Prop}
structure SrcIs (P:Program)(w:World)(size:Nat)(x:Value)(m:Nat)(news:List Value):Prop where
 len: ∀w',(Builtin.lenOf x).run P w'=.ok m w'
 cells: ∀w',w'.heap=w.heap->(Builtin.firstCells size m x).run P w'=.ok news.toArray w'
 size:news.length=m*size
theorem SrcIs.of_cells {P:Program}{w:World}{size m c:Nat}{a:Option Addr}{news:List Value}(hl:news.length=m*size)(h:news≠[]-> ∃ad,a=some ad∧ ∀(j:Nat) (v:Value),news[j]?=some v->w.cell? (ad.add j)=some v):
  SrcIs P w size (.slice a m c) m news:=by
 refine⟨λw'=>rfl,λw' hw=> ?_,hl⟩;cases a with
 |none=>
  have:news=[]:=by
   rcases Classical.em (news=[]) with h1|h1
   ·exact h1
   ·obtain⟨ad,e,_⟩:=h h1;cases e
  subst this;rfl
 |some ad=>
  have key: ∀(j:Nat) (v:Value),news[j]?=some v->w'.cell? (ad.add j)=some v:=λj v hj=>by
   have hne:news≠[]:=by rintro rfl;simp at hj
   obtain⟨ad',e,h2⟩:=h hne;injection e with e
   subst e;rw[←h2 j v hj];exact World.cell?_of_block (by rw[hw])
  have:=run_loadCells_list (P:=P) w' ad news key;simp only[Builtin.firstCells];rw[hl] at this;simpa using this
section
variable {P:Program} {w:World} {t t' e e':TypeId} {i:TypeInfo}
theorem Xh (ht:P.underlying t=some (.slice e))(ht':P.underlying t'=some (.slice e'))(hi:P.info? e=some i){g sLen sCap m:Nat}{cur:Array Value}{et:TypeId}{x:Value}{news:List Value}(ty:TypeId)
  (hg:w.heap[g]?=some (.cells cur et (0,0))) (hx:SrcIs P w i.size x m news) (h1: ∀u∈news,u.oneCell'=true) (hroom:sLen+m≤sCap) (hfit:sLen*i.size+news.length≤cur.size):
  (Builtin.append_ #[t,t'] ty #[.slice (some ⟨g,0,none⟩) sLen sCap,x]).run P w=
   .ok (.slice (some ⟨g,0,none⟩) (sLen+m) sCap) (w.setRow g (cur.toList.take (sLen*i.size)++news++cur.toList.drop (sLen*i.size+news.length)).toArray):=by
 have hst:=run_storeCells_at P g (sLen*i.size) et news 0 cur w hg (by simpa using hfit) h1;simp only[As1] at hst;simp[Builtin.append_,run_underlying ht,run_underlying ht',A5 hi,hx.len,hroom,hx.cells w rfl,Ek,hst]
theorem Gw (ht:P.underlying t=some (.slice e))(ht':P.underlying t'=some (.slice e'))(hi:P.info? e=some i){sLen sCap:Nat}{a:Option Addr}{x:Value}(ty:TypeId)
  (hx:SrcIs P w i.size x 0 []) (hroom:sLen≤sCap):
  (Builtin.append_ #[t,t'] ty #[.slice a sLen sCap,x]).run P w=.ok (.slice a sLen sCap) w:=by
 cases a with
 |none=>simp[Builtin.append_,run_underlying ht,run_underlying ht',A5 hi,hx.len,hroom,hx.cells w rfl]
 |some ad=>simp[Builtin.append_,run_underlying ht,run_underlying ht',A5 hi,hx.len,hroom,hx.cells w rfl,storeCells]
theorem I4 (ht:P.underlying t=some (.slice e))(ht':P.underlying t'=some (.slice e'))(hi:P.info? e=some i){z:Value}(hz:i.zero=some z){sLen sCap m:Nat}{a:Option Addr}{x:Value}{olds news:List Value}(ty:TypeId)
  (hx:SrcIs P w i.size x m news) (ho:SrcIs P w i.size (.slice a sLen sCap) sLen olds) (hg:sCap<sLen+m) (h63:sLen+m≤9223372036854775807) (hfit:Builtin.nextslicecap (sLen+m) sCap*i.bytes≤281474976710656):
  (Builtin.append_ #[t,t'] ty #[.slice a sLen sCap,x]).run P w=
   .ok (.slice (some ⟨w.heap.size,0,none⟩) (sLen+m) (grownCap w (sLen+m) sCap e))
    (w.drew.alloc (.cells ((olds++news).toArray++Builtin.zeroCells z.cells (grownCap w (sLen+m) sCap e- (sLen+m))) e)):=by
 have hn: ¬ (sLen+m≤sCap):=by omega
 have h63': ¬ (9223372036854775807< ((sLen:Int)+ (m:Int))):=by omega
 have h48': ¬ (281474976710656<Builtin.nextslicecap (sLen+m) sCap*i.bytes):=by omega
 have e1:IntKind.i64.max=9223372036854775807:=by decide
 have h63'': ¬ (((sLen+m:Nat):Int)>IntKind.i64.max):=by rw[e1];omega
 have hold:=ho.cells w.drew rfl;have hnew:=hx.cells w.drew rfl;simp[Builtin.append_,run_underlying ht,run_underlying ht',A5 hi,typeInfo,zeroValue,hi,hz,hx.len,hn,h63',h48',Question.forced,newRow,grownCap,hold,hnew,e1];have: ∀Z:Array Value,olds.toArray++ (news.toArray++Z)=(olds++news).toArray++Z:=λZ=>by
  rw[←Array.append_assoc];simp
 rw[this]
end
theorem Apr {x:Operand}{t:TypeId}{K:V->Heap->Prop}(h:evOp c (.call {callee:=.builtin .len,args:= #[x],argTypes:= #[t]}) E T F K):
  F∨ ∃u T',K u T'∧OpTo c (.call {callee:=.builtin .len,args:= #[x],argTypes:= #[t]}) E T u T':=by
 simp only[evOp] at h;split at h
 ·rename_i e sz xs hu hx;have hu:=Al hu;refine .inr ⟨_,_,h,OpTo.still λo ho w β H m a hs=>⟨.int .i64 xs.length,?_,.int _ _⟩⟩;have hr:=Ae hs x;simp only[hx,V.conv] at hr;generalize hq:a.eval x=q at hr;cases hr;simp[execOp,ho,resolve,invoke,builtin,Builtin.len_,hq,run_underlying hu,goInt]
 ·rename_i e hu hx;have hu:=Al hu;refine .inr ⟨_,_,h,OpTo.still λo ho w β H m a hs=>⟨.int .i64 0,?_,.int _ _⟩⟩;have hr:=Ae hs x;simp only[hx,V.conv] at hr;generalize hq:a.eval x=q at hr;cases hr;simp[execOp,ho,resolve,invoke,builtin,Builtin.len_,hq,run_underlying hu,goInt]
 ·rename_i e k g off l hu hx;have hu:=Al hu;rw[Af] at h;split at h
  ·rename_i g' sz xs hk;obtain⟨rfl,h⟩:=h;refine .inr ⟨_,_,h,OpTo.still λo ho w β H m a hs=>⟨.int .i64 l,?_,.int _ _⟩⟩;have hr:=Ae hs x;obtain⟨r,hr',hH⟩:=hs.at hk;simp only[hx,V.conv,Ref.conv,hr'] at hr;simp only[HObj.conv] at hH;generalize hq:a.eval x=q at hr;cases hr with
   |oslNil=>simp[execOp,ho,resolve,invoke,builtin,Builtin.len_,hq,run_underlying hu,goInt]
   |oslBlk=>simp[execOp,ho,resolve,invoke,builtin,Builtin.len_,hq,run_underlying hu,goInt]
   |oslStale _ _ _ _ g' sz' xs' _ hH' hg=>
    rw[hH] at hH';injection hH' with hH'
    injection hH' with hH'
    injection hH' with e0 _ _
    omega
   |oslDead _ _ _ _ _ hd=>rw[hH] at hd;cases hd
  ·exact .inl h
 ·rename_i s hu hx;have hu:=Al hu;refine .inr ⟨_,_,h,OpTo.still λo ho w β H m a hs=>⟨.int .i64 s.length,?_,.int _ _⟩⟩;have hr:=Ae hs x;simp only[hx] at hr;obtain⟨hv,_⟩:=Gn hr;have hsz:(⟨s.toArray⟩:ByteArray).size=s.length:=by simp[ByteArray.size]
  simp[execOp,ho,resolve,invoke,builtin,Builtin.len_,hv,run_underlying hu,goInt,hsz]
 ·exact .inl h
theorem Aps {x y:Operand}{ts:Array TypeId}(h:evOp c (.call {callee:=.builtin .max,args:= #[x,y],argTypes:=ts}) E T F K):
  F∨ ∃u T',K u T'∧OpTo c (.call {callee:=.builtin .max,args:= #[x,y],argTypes:=ts}) E T u T':=by
 simp only[evOp] at h;split at h
 ·rename_i k p k' q hx hy;refine .inr ⟨_,_,h,OpTo.still λo ho w β H m a hs=>⟨.int k (if q>p then q else p),?_,.int _ _⟩⟩;have h1:=Ae hs x;have h2:=Ae hs y;simp only[hx] at h1;simp only[hy] at h2;simp[execOp,ho,resolve,invoke,builtin,Builtin.max_,Builtin.max2,A8 h1,A8 h2]
 ·exact .inl h
theorem Apt {x y:Operand}{ts:Array TypeId}(h:evOp c (.call {callee:=.builtin .min,args:= #[x,y],argTypes:=ts}) E T F K):
  F∨ ∃u T',K u T'∧OpTo c (.call {callee:=.builtin .min,args:= #[x,y],argTypes:=ts}) E T u T':=by
 simp only[evOp] at h;split at h
 ·rename_i k p k' q hx hy;refine .inr ⟨_,_,h,OpTo.still λo ho w β H m a hs=>⟨.int k (if q<p then q else p),?_,.int _ _⟩⟩;have h1:=Ae hs x;have h2:=Ae hs y;simp only[hx] at h1;simp only[hy] at h2;simp[execOp,ho,resolve,invoke,builtin,Builtin.min_,Builtin.min2,A8 h1,A8 h2]
 ·exact .inl h
def flat (xs:List V):List V:=xs.flatMap V.cells
theorem Gk {sz:Nat}: ∀(xs:List V),(∀x∈xs,okE sz x)->(flat xs).length=xs.length*sz
 | [],_=>by simp[flat]
 |x::xs,h=>by
  have h1:=(h x (Ari ..)).1;have ih:=Gk xs λy hy=>h y (Are _ hy);simp only[flat,Au8,Arb,Aq8] at ih ⊢;rw[ih,h1,Asn];omega
theorem Aba {sz:Nat}: ∀(xs:List V),(∀x∈xs,okE sz x)-> ∀(i:Nat) (x:V) (j:Nat) (c:V),xs[i]?=some x->x.cells[j]?=some c->(flat xs)[i*sz+j]?=some c
 | [],_,i,x,j,c,hi,_=>by simp at hi
 |y::xs,h,0,x,j,c,hi,hj=>by
  simp at hi;subst hi;have hl:=(h y (Ari ..)).1;have:=Ab hj;simp only[flat,Au8,Aua,Ary];rw[Aq9 this];exact hj
 |y::xs,h,i+1,x,j,c,hi,hj=>by
  have h1:=(h y (Ari ..)).1;have ih:=Aba xs (λz hz=>h z (Are _ hz)) i x j c (by simpa using hi) hj;simp only[flat,Au8] at ih ⊢;rw[Arh (by rw[h1,Asn];omega),h1,Asn,Nat.one_mul];rw[show i*sz+sz+j-sz=i*sz+j by omega];exact ih
theorem Aif {sz:Nat}(xs:List V)(h: ∀x∈xs,okE sz x): ∀c∈flat xs,c.one=true:=by
 intro c hc;obtain⟨x,hx,hc⟩:=List.mem_flatMap.1 hc;exact(Ez _).1 (h x hx).2 c hc
theorem Rq {sz:Nat}(hsz:0<sz): ∀(xs:List V),(∀x∈xs,okE sz x)-> ∀(k:Nat) (c:V),(flat xs)[k]?=some c-> ∃i x j,k=i*sz+j∧xs[i]?=some x∧x.cells[j]?=some c
 | [],_,k,c,hk=>by simp[flat] at hk
 |y::xs,h,k,c,hk=>by
  have h1:=(h y (Ari ..)).1;simp only[flat,Au8] at hk
  rcases Ar3 k sz with hlt|hge
  ·rw[Aq9 (by omega)] at hk;exact⟨0,y,k,by simp,rfl,hk⟩
  ·rw[Arh (by omega),h1] at hk;obtain⟨i,x,j,e,h2,h3⟩:=Rq hsz xs (λz hz=>h z (Are _ hz)) (k-sz) c hk;exact⟨i+1,x,j,by rw[Asn];omega,by simpa using h2,h3⟩
theorem P0 {x:Operand}{sz:Nat}{K:List V->Prop}(hsz:0<sz)(h:appSrc (opd E x) sz T F K):
  F∨ ∃ys,K ys∧ ∀(imps:List Nat) (nt:Nat) (w:World) (β:Nat->Loc) (H:Heap) (m:List Nat) (B:Base) (D:List Nat) (a:Act) (P:Program),SRel imps nt w β H m ⟨E,T,B,D⟩ a->
   (∀y∈ys,okE sz y)∧ ∃news,SrcIs P w sz (a.eval x) ys.length news∧(∀(k:Nat) (c:V) (u:Value),(flat ys)[k]?=some c->news[k]?=some u->Rep w β H c u):=by
 unfold appSrc at h;split at h
 ·rename_i sz' ys hx;cases hb:Nat.beq sz' sz with
  |false=>rw[hb] at h;exact .inl h
  |true=>
   rw[hb] at h;obtain rfl:=Arn hb;refine .inr ⟨ys,h,λimps nt w β H m B D a P hs=> ?_⟩;have hr:=Ae hs x;simp only[hx,V.conv] at hr;generalize hq:a.eval x=q at hr;cases hr with
   |sl _ _ ad cap vals hcap hmax hok ha hrr=>
    refine⟨hok,(List.range (ys.length*sz')).map vals,SrcIs.of_cells (by simp) (λhne=> ?_),λk c u hc hu=> ?_⟩
    ·have hys:ys≠[]:=by rintro rfl;simp at hne
     obtain⟨ad',e,_,_,h4⟩:=ha hys;refine⟨ad',e,λj v hj=> ?_⟩;have hjl:=Ab hj;simp only[Arf,Au9] at hjl;simp[hjl] at hj;subst hj;exact h4 j hjl
    ·obtain⟨i,y,j,e,h1,h2⟩:=Rq hsz ys hok k c hc;have hkl:=Ab hu;simp only[Arf,Au9] at hkl;simp[hkl] at hu;subst hu e;exact hrr i y j c h1 h2
 ·rename_i hx;refine .inr ⟨[],h,λimps nt w β H m B D a P hs=>⟨by simp,[],?_,λk c u hc _=>by simp[flat] at hc⟩⟩;have hr:=Ae hs x;simp only[hx,V.conv] at hr;generalize hq:a.eval x=q at hr;cases hr;exact SrcIs.of_cells (by simp) (λhne=>absurd rfl hne)
 ·rename_i k g l hx;rw[Af] at h;split at h
  ·rename_i g' sz' ys hk;cases hb:Nat.beq sz' sz with
   |false=>rw[hb] at h;exact .inl h
   |true=>
    rw[hb] at h;obtain rfl:=Arn hb;obtain⟨rfl,rfl,h⟩:=h;refine .inr ⟨ys,h,λimps nt w β H m B D a P hs=> ?_⟩;have hr:=Ae hs x;obtain⟨r,hr',hH⟩:=hs.at hk;simp only[hx,V.conv,Ref.conv,hr'] at hr;simp only[HObj.conv] at hH;generalize hq:a.eval x=q at hr;have hob:=hs.hrel.obj r _ hH;have hvec: ∀sz2 xs2,H[r]?=some (some (.vec g sz2 xs2))->sz2=sz'∧xs2=ys:=λsz2 xs2 h2=>by
     rw[hH] at h2;injection h2 with h2
     injection h2 with h2
     injection h2 with _ e1 e2
     exact⟨e1.symm,e2.symm⟩
    generalize hn:ys.length=n at hr;cases hr with
    |oslNil _ _ sz2 xs2 ad hH' hβ=>
     rw[hβ] at hob;have:ys=[]:=hob;subst this;exact⟨by simp,[],SrcIs.of_cells (by simp) (λhne=>absurd rfl hne),λk c u hc _=>by simp[flat] at hc⟩
    |oslBlk _ _ _ _ sz2 xs2 b N ad cap hH' hβ hl hN hcap ha hlen=>
     obtain⟨rfl,rfl⟩:=hvec _ _ hH';rw[hβ] at hob;obtain⟨vs,e,_,h1,h2,h3,h4,h5,h6⟩:=hob;have hN':n*sz2≤vs.size:=by rw[←hn,h2];exact h3
     refine⟨h5,(List.range (n*sz2)).map (λj=>vs.getD j Go.undef),SrcIs.of_cells (by simp) (λhne=> ?_),λk c u hc hu=> ?_⟩
     ·have hn0:0<n:=by
       rcases Avn n with h0|h0
       ·subst h0;simp at hne
       ·exact h0
      have:=ha (by omega);subst this;refine⟨_,rfl,λj v hj=> ?_⟩;have hjl:=Ab hj;simp only[Arf,Au9] at hjl;have hjv:j<vs.size:=by omega
      simp[hjl,hjv] at hj;subst hj;rw[Aua,Ek,cell_of_row w b j vs e (0,0) h1];simp[hjv]
     ·obtain⟨i,y,j,e1,k1,k2⟩:=Rq hsz xs2 h5 k c hc;have hkl:=Ab hu;simp only[Arf,Au9] at hkl;have hjv:k<vs.size:=by omega
      simp[hkl,hjv] at hu;subst hu e1;exact h6 i y j c _ k1 k2 (by simp[hjv])
    |oslStale _ _ _ _ g' sz' xs' _ hH' hg=>
     rw[hH] at hH';injection hH' with hH'
     injection hH' with hH'
     injection hH' with e0 _ _
     omega
    |oslDead _ _ _ _ _ hd=>rw[hH] at hd;cases hd
  ·exact .inl h
 ·exact .inl h
section
variable {w w':World} {β:Nat->Loc} {H:Heap} {r g g' sz sz':Nat} {xs xs':List V} {l':Loc}
theorem Fr.regen (hgg:g<g')(hβn:β r≠ .none)(ho:H[r]?=some (some (.vec g sz xs)))(hos:w'.os=w.os)(ht:w'.tape=w.tape)(hu:w'.output=w.output)(hs:w.heap.size≤w'.heap.size)
  (hk: ∀b,b<w.heap.size->(∀N,β r≠ .blk b N)->w'.heap[b]?=w.heap[b]?) (hl: ∀b N,l'=.blk b N->w.heap.size≤b∨ ∃N',β r=.blk b N'):
  Fr w β H w' (upd β r l') (H.set r (some (.vec g' sz' xs'))):=by
 refine⟨⟨hos,ht,hu,hs,by simp,?_,?_,?_,λq hq=>Am (hq.ne ho (λh=>h)),λq s hs=> ?_⟩,λq _ hn=>by
  by_cases e:q=r
  ·subst e;exact absurd hn hβn
  ·rw[Am e];exact hn⟩
 ·intro q o' _ ho'
  rcases Ai ho' with⟨h1,h2,_⟩| ⟨h1,h2⟩
  ·injection h2 with h2
   subst h1 h2;exact⟨_,ho,⟨by omega,λe=>by omega⟩,λ_ hsg=>by simp[SameGen] at hsg;omega⟩
  ·exact⟨o',h2,Evo.refl _,λ_ _=>Am h1⟩
 ·intro b hb hno;exact hk b hb λN hN=>hno ⟨r,N,⟨_,ho,λh=>h⟩,hN⟩
 ·rintro b ⟨q,N,⟨o,hq,hqn⟩,hb⟩
  rcases Ai hq with⟨h1,h2,_⟩| ⟨h1,h2⟩
  ·subst h1;rw[Aq] at hb
   rcases hl b N hb with h3| ⟨N',h3⟩
   ·exact .inl h3
   ·exact .inr ⟨_,N',⟨_,ho,λh=>h⟩,h3⟩
  ·rw[Am h1] at hb;exact .inr ⟨q,N,⟨o,h2,hqn⟩,hb⟩
 ·rcases Ai hs with⟨_,h2,_⟩| ⟨h1,h2⟩
  ·injection h2 with h2
   cases h2
  ·exact⟨h2,Am h1⟩
theorem HRel.regen (h:HRel w β H)(hgg:g<g')(hβn:β r≠ .none)(ho:H[r]?=some (some (.vec g sz xs)))(hos:w'.os=w.os)(ht:w'.tape=w.tape)(hu:w'.output=w.output)(hs:w.heap.size≤w'.heap.size)
  (hk: ∀b,b<w.heap.size->(∀N,β r≠ .blk b N)->w'.heap[b]?=w.heap[b]?) (hl: ∀b N,l'=.blk b N->w.heap.size≤b∨ ∃N',β r=.blk b N')
  (hn:ORel w' (upd β r l') (H.set r (some (.vec g' sz' xs'))) l' (.vec g' sz' xs')):HRel w' (upd β r l') (H.set r (some (.vec g' sz' xs'))):=by
 have other: ∀q p b N,q≠r->H[q]?=some (some p)->β q=.blk b N->b<w.heap.size∧ ∀N',β r≠ .blk b N':=λq p b N hq hp hb=>
  ⟨h.lt ⟨p,hp⟩ hb,λN' hN'=>hq (h.inj q r b N N' ⟨p,hp⟩ ⟨_,ho⟩ hb hN')⟩
 refine h.step (Fr.regen hgg hβn ho hos ht hu hs hk hl) ?_ ?_
 ·intro q p hp
  rcases Ai hp with⟨h1,h2,_⟩| ⟨h1,h2⟩
  ·injection h2 with h2
   subst h1 h2;rw[Aq];exact .inr hn
  ·refine .inl ⟨h2,Am h1,λb N hb=> ?_⟩;obtain⟨k1,k2⟩:=other q p b N h1 h2 hb;exact hk b k1 k2
 ·rintro q q' b N N' ⟨p,hp⟩ ⟨p',hp'⟩ hb hb'
  rcases Ai hp with⟨h1,_,_⟩| ⟨h1,h2⟩<;>rcases Ai hp' with⟨k1,_,_⟩| ⟨k1,k2⟩
  ·rw[h1,k1]
  ·subst h1;rw[Aq] at hb;rw[Am k1] at hb';obtain⟨e1,e2⟩:=other q' p' b N' k1 k2 hb'
   rcases hl b N hb with e3| ⟨N2,e3⟩
   ·omega
   ·exact absurd e3 (e2 N2)
  ·subst k1;rw[Aq] at hb';rw[Am h1] at hb;obtain⟨e1,e2⟩:=other q p b N h1 h2 hb
   rcases hl b N' hb' with e3| ⟨N2,e3⟩
   ·omega
   ·exact absurd e3 (e2 N2)
  ·rw[Am h1] at hb;rw[Am k1] at hb';exact h.inj q q' b N N' ⟨p,h2⟩ ⟨p',k2⟩ hb hb'
variable {imps:List Nat} {nt:Nat} {m:List Nat} {E:Env} {T:Heap} {B:Base} {D:List Nat} {a:Act}
theorem SRel.regen (h:SRel imps nt w β H m ⟨E,T,B,D⟩ a){k:Nat}(hk:T[k]?=some (some (.vec g sz xs)))(hr:m[k]?=some r)
  (f:Fr w β H w' (upd β r l') (H.set r (some (.vec g' sz' xs')))) (hrel:HRel w' (upd β r l') (H.set r (some (.vec g' sz' xs')))):
  SRel imps nt w' (upd β r l') (H.set r (some (.vec g' sz' xs'))) m ⟨E,T.set k (some (.vec g' sz' xs')),B,D⟩ a:=by
 have hml:m.length=T.length:=h.mlen;have hrl:=h.lt hr;have hrm:r∈m:=Aq7 hr;have hkT:k<T.length:=by have:=Ab hr;omega
 refine⟨hrel,h.size,λj=>(h.env j).mono f,by simpa using hml,h.nodup,?_,h.imp,?_,λr hr=>h.fut r (by simpa using hr),h.own,?_,?_,h.defs,?_⟩
 ·intro j q o hj ho
  by_cases e:j=k
  ·subst e;have:q=r:=Option.some.inj (hj.symm.trans hr);subst this;simp only[As3,hkT,if_true] at ho;injection ho with ho
   subst ho;simp[hrl,HObj.conv]
  ·have hne:q≠r:=λe'=>e (h.inj hj (e'▸hr));simp only at ho;rw[Arj (λx=>e x.symm)] at ho;rw[Arj (λx=>hne x.symm)];exact h.loc j q o hj ho
 ·intro q hq hqm;rw[Arj (λx:r=q=>hqm (x▸hrm))];exact h.base q (by simpa using hq) hqm
 ·intro p hp;simpa using h.scE p hp
 ·intro j o ho;simp only[Atp]
  by_cases e:j=k
  ·subst e;simp only[As3,hkT,if_true] at ho;injection ho with ho
   injection ho with ho
   subst ho;trivial
  ·simp only at ho;rw[Arj (λx=>e x.symm)] at ho;exact h.scT j o ho
 ·intro j q hj;obtain⟨r',b,N,h1,h2,h3,h4⟩:=h.marks j q hj;have hqk:q≠k:=λe=>by
   subst e;simp only at h2;rw[hk] at h2;cases h2
  have hne:r'≠r:=λe'=>hqk (h.inj h1 (e'▸hr));refine⟨r',b,N,h1,?_,by rw[Am hne];exact h3,h4⟩;simp only;rw[Arj (λx=>hqk x.symm)];exact h2
end
variable {c:Cx} {E:Env} {T:Heap} {F:Prop} {K:V->Heap->Prop}
def RowRep (w:World)(β:Nat->Loc)(H:Heap)(cs:List V)(us:List Value):Prop:=
 cs.length=us.length∧ ∀(k:Nat) (c:V) (u:Value),cs[k]?=some c->us[k]?=some u->Rep w β H c u
theorem RowRep.append {w:World}{β:Nat->Loc}{H:Heap}{cs cs':List V}{us us':List Value}(h:RowRep w β H cs us)(h':RowRep w β H cs' us'):RowRep w β H (cs++cs') (us++us'):=by
 refine⟨by simp[h.1,h'.1],λk c u hc hu=> ?_⟩
 rcases Ar3 k cs.length with h1|h1
 ·rw[Aq9 h1] at hc;rw[Aq9 (by rw[←h.1];exact h1)] at hu;exact h.2 k c u hc hu
 ·rw[Arh h1] at hc;rw[Arh (by rw[←h.1];exact h1),←h.1] at hu;exact h'.2 _ c u hc hu
theorem RowRep.ones {w:World}{β:Nat->Loc}{H:Heap}{cs:List V}{us:List Value}(h:RowRep w β H cs us)(h1: ∀c∈cs,c.one=true): ∀u∈us,u.oneCell'=true:=by
 intro u hu;obtain⟨k,hk,rfl⟩:=Ata.1 hu;have hkc:k<cs.length:=by rw[h.1];exact hk
 exact Xo (h.2 k cs[k] us[k] (Aq3 hkc) (Aq3 hk)) (h1 _ (Arq hkc))
theorem Se (xs ys:List V):flat (xs++ys)=flat xs++flat ys:=by simp[flat]
theorem Ld {w:World}{β:Nat->Loc}{H:Heap}{sz:Nat}{xs:List V}{us:List Value}{vs:Array Value}(hok: ∀x∈xs,okE sz x)(h:RowRep w β H (flat xs) us)(hp: ∀k,k<us.length->vs[k]?=us[k]?):
  xs.length*sz≤us.length∧ ∀(i:Nat) (x:V) (j:Nat) (c:V) (v:Value),xs[i]?=some x->x.cells[j]?=some c->vs[i*sz+j]?=some v->Rep w β H c v:=by
 refine⟨by rw[←h.1,Gk xs hok];exact Ara _,λi x j c v hi hj hv=> ?_⟩;have hc:=Aba xs hok i x j c hi hj;have hlt:=Ab hc;rw[h.1] at hlt;rw[hp _ hlt] at hv;exact h.2 _ c v hc hv
theorem E2 (z:Array Value)(n:Nat):(Builtin.zeroCells z n).size=n*z.size:=by simp[Builtin.zeroCells]
theorem Aig {x y:Operand}{t t':TypeId}(h:evOp c (.call {callee:=.builtin .append,args:= #[x,y],argTypes:= #[t,t']}) E T F K):
  F∨ ∃u T',K u T'∧OpTo c (.call {callee:=.builtin .append,args:= #[x,y],argTypes:= #[t,t']}) E T u T':=by
 simp only[evOp] at h;split at h
 case h_2=>exact .inl h
 rename_i e' ht';have ht':=Al ht';unfold appK at h;split at h
 case h_2=>exact .inl h
 rename_i e ht;have ht:=Al ht;split at h
 case h_2=>exact .inl h
 rename_i i hi;have hI:=A4 hi;split at h
 case h_2=>exact .inl h
 rename_i z hz;cases hb:(Nat.ble 1 i.size&&Nat.beq z.cells.size i.size&&Nat.ble 1 i.bytes) with
 |false=>rw[hb] at h;exact .inl h
 |true=>
 rw[hb] at h;simp only[Aq6] at hb;have hsz:0<i.size:=Arp hb.1.1;have hzs:z.cells.size=i.size:=Arn hb.1.2;have hby:1≤i.bytes:=Arp hb.2;simp only[cond_true] at h
 rcases P0 hsz h with h| ⟨ys,h,hsrc⟩
 ·exact .inl h
 have exec: ∀(o:Oper),o.op=.call {callee:=.builtin .append,args:= #[x,y],argTypes:= #[t,t']}-> ∀(a:Act) (w w':World) (v:Value),
   (Builtin.append_ #[t,t'] o.type #[a.eval x,a.eval y]).run c.P w=.ok v w'->(execOp a.eval o).run c.P w=.ok (.value v) w':=by
  intro o ho a w w' v hr;simp[execOp,ho,resolve,invoke,builtin,hr]
 have small: ∀n,room n i.bytes->n≤70368744177664:=λn hn=>by
  unfold room at hn;exact Ark (Au7 n hby) hn
 split at h
 ·rename_i hx;obtain⟨hroom,h⟩:=h;rw[Ru,Jn] at h;refine .inr ⟨_,_,h,λo ho w β H m a hs=> ?_⟩;obtain⟨hok,news,hsI,hrep⟩:=hsrc _ _ w β H m _ _ a c.P hs;have hv:=Ae hs x;simp only[hx,V.conv] at hv;generalize hq:a.eval x=q at hv;cases hv
  by_cases hm:ys.length=0
  ·have hys:ys=[]:=As2 hm;subst hys;have hnews:news=[]:=As2 (by simpa using hsI.size);subst hnews;obtain⟨β',H',k1,k2,k3⟩:=hs.newNil 0 i.size none;exact⟨_,_,w,β',H',_,exec o ho a w w _ (by rw[hq];exact Gw ht ht' hI o.type hsI (Aq4 _)),.inl rfl,k1,k2,k3,Atl _ _⟩
  ·have hfl:=Gk ys hok;have hro:RowRep w β H (flat ys) news:=⟨by rw[hfl,hsI.size],hrep⟩;have hle:=small _ hroom;have hroom':(0+ys.length)*i.bytes≤70368744177664:=by rw[Ary];exact hroom
   have holds:SrcIs c.P w i.size (.slice none 0 0) 0 []:=SrcIs.of_cells (by simp) (λhne=>absurd rfl hne);have hrun:=I4 (P:=c.P) (w:=w) ht ht' hI hz o.type hsI holds (by omega) (by omega) (growslice_fits (by omega) (by omega));simp only[Ary,Ar9] at hrun;have hge:=grownCap_ge w ys.length 0 e;have hcm:=grownCap_le_maxLen w ys.length 0 e (by unfold maxLen;omega);have hsame:SRel c.imps c.nt w.drew β H m ⟨E,T,c.B,c.D⟩ a:=hs.same (Fr.of_heap rfl rfl rfl rfl) (hs.hrel.of_heap rfl rfl rfl rfl);obtain⟨cap,hcap⟩: ∃cap,cap=grownCap w ys.length 0 e:=⟨_,rfl⟩;rw[←hcap] at hge hcm hrun;have hvec:=Ld (vs:=news.toArray++Builtin.zeroCells z.cells (cap-ys.length)) hok hro (λk hk=>by rw[Ass (by simpa using hk)];simp);have hvsz:(news.toArray++Builtin.zeroCells z.cells (cap-ys.length)).size=cap*i.size:=by
    simp only[Auo,Avx,E2,hzs,hsI.size,←Asn]
    congr 1
    omega
   obtain⟨β',H',k1,k2,k3⟩:=hsame.newVec 0 i.size ys (news.toArray++Builtin.zeroCells z.cells (cap-ys.length)) e ys.length cap (Tj _) hsz hok rfl hge hcm hvsz.symm
    (λi x j c v hi hj hv=>(hvec.2 i x j c v hi hj hv).mono (Fr.of_heap rfl rfl rfl rfl))
   exact⟨_,_,_,β',H',_,exec o ho a w _ _ (by rw[hq];exact hrun),.inl rfl,k1,(show Fr w β H w.drew β H from Fr.of_heap rfl rfl rfl rfl).trans k2,k3,Atl _ _⟩
 ·rename_i k g l hx;rw[Af] at h;split at h
  case h_2=>exact .inl h
  rename_i g' sz xs hk;cases hbs:Nat.beq sz i.size with
  |false=>rw[hbs] at h;exact .inl h
  |true=>
  rw[hbs] at h;obtain rfl:=Arn hbs;simp only[cond_true,Bz] at h;obtain⟨rfl,rfl,hroom,h⟩:=h;refine .inr ⟨_,_,h,λo ho w β H m a hs=> ?_⟩;obtain⟨hok,news,hsI,hrep⟩:=hsrc _ _ w β H m _ _ a c.P hs;have hfl:=Gk ys hok;have hro:RowRep w β H (flat ys) news:=⟨by rw[hfl,hsI.size],hrep⟩;have hle:=small _ hroom;have hroom':(xs.length+ys.length)*i.bytes≤70368744177664:=hroom;have hv:=Ae hs x;obtain⟨r,hr,hH⟩:=hs.at hk;simp only[hx,V.conv,Ref.conv,hr] at hv;simp only[HObj.conv] at hH;have hob:=hs.hrel.obj r _ hH;generalize hq:a.eval x=q at hv;have hvec2: ∀sz2 xs2,H[r]?=some (some (.vec g sz2 xs2))->sz2=i.size∧xs2=xs:=λsz2 xs2 h2=>by
   rw[hH] at h2;injection h2 with h2
   injection h2 with h2
   injection h2 with _ e1 e2
   exact⟨e1.symm,e2.symm⟩
  have hrl:=hs.lt hr;have grow: ∀(ad:Option Addr) (sCap:Nat) (olds:List Value),β r≠ .none->q=.slice ad xs.length sCap->(∀x∈xs,okE i.size x)->RowRep w β H (flat xs) olds->SrcIs c.P w i.size (.slice ad xs.length sCap) xs.length olds->sCap<xs.length+ys.length->
    ∃(nx:Next) (v:Value) (w':World) (β':Nat->Loc) (H':Heap) (m':List Nat),(execOp a.eval o).run c.P w=.ok nx w'∧(nx=.value v∨nx=.skip∧v=Go.undef)∧
     SRel c.imps c.nt w' β' H' m' ⟨E,T.set k (some (.vec (bump g) i.size (xs++ys))),c.B,c.D⟩ a∧Fr w β H w' β' H'∧Rep w' β' H' ((V.osl (.loc k) (bump g) 0 (xs.length+ys.length)).conv m') v∧m<+:m':=by
   intro ad sCap olds hβn hqe hokx hrx holds hlt;have hrun:=I4 (P:=c.P) (w:=w) ht ht' hI hz o.type hsI holds hlt (by omega) (growslice_fits (by omega) (by omega));have hge:=grownCap_ge w (xs.length+ys.length) sCap e;have hcm:=grownCap_le_maxLen w (xs.length+ys.length) sCap e (by unfold maxLen;omega);obtain⟨cap,hcap⟩: ∃cap,cap=grownCap w (xs.length+ys.length) sCap e:=⟨_,rfl⟩;rw[←hcap] at hge hcm hrun;obtain⟨vs,hvs⟩: ∃vs,vs=(olds++news).toArray++Builtin.zeroCells z.cells (cap- (xs.length+ys.length)):=⟨_,rfl⟩;rw[←hvs] at hrun;have hok2: ∀x∈xs++ys,okE i.size x:=λx hx=>by rcases Asi.1 hx with h|h;exact hokx x h;exact hok x h
   have hrow:RowRep w β H (flat (xs++ys)) (olds++news):=by rw[Se];exact hrx.append hro
   have hvec:=Ld (vs:=vs) hok2 hrow (λk hk=>by rw[hvs,Ass (by simpa using hk)];simp);have hvsz:vs.size=cap*i.size:=by
    rw[hvs];simp only[Auo,Avx,Arb,E2,hzs,hsI.size,holds.size,←Asn]
    congr 1
    omega
   have hnew:(w.drew.alloc (.cells vs e)).heap[w.heap.size]?=some (.cells vs e (0,0)):=by
    show(w.heap.push _)[w.heap.size]?=_;simp
   have hfr:Fr w β H (w.drew.alloc (.cells vs e)) (upd β r (.blk w.heap.size vs.size)) (H.set r (some (.vec (bump g) i.size (xs++ys)))):=
    Fr.regen (Eh g) hβn hH rfl rfl rfl (by simp) (λb hb _=>RowKit.Below.heap_alloc w.drew _ b hb) (λb N hb=>by injection hb with hb _;exact .inl (by omega))
   have hrel:HRel (w.drew.alloc (.cells vs e)) (upd β r (.blk w.heap.size vs.size)) (H.set r (some (.vec (bump g) i.size (xs++ys)))):=
    hs.hrel.regen (Eh g) hβn hH rfl rfl rfl (by simp) (λb hb _=>RowKit.Below.heap_alloc w.drew _ b hb) (λb N hb=>by injection hb with hb _;exact .inl (by omega))
     ⟨vs,e,L1 _ _,hnew,rfl,by rw[hvsz,Arb];exact Arg _ hge,hsz,hok2,λi x j c v hi hj hv=>(hvec.2 i x j c v hi hj hv).mono hfr⟩
   refine⟨_,_,_,_,_,m,exec o ho a w _ _ (by rw[hq,hqe];exact hrun),.inl rfl,hs.regen hk hr hfr hrel,hfr,?_,Ar6 _⟩;simp only[V.conv,Ref.conv,hr];exact .oslBlk r _ 0 _ i.size (xs++ys) w.heap.size vs.size _ _ (by simp[hrl]) (Aq _ _ _) hge (by simpa using Avg hvsz.symm) (by simpa using hcm) (λ_=>by simp) (by simp)
  generalize hn:xs.length=n at hv;cases hv with
  |oslNil _ _ sz2 xs2 ad hH' hβ=>
   rw[hβ] at hob;have hxs:xs=[]:=hob;subst hxs
   by_cases hm:ys.length=0
   ·have hys:ys=[]:=As2 hm;subst hys;have hnews:news=[]:=As2 (by simpa using hsI.size);subst hnews;have hfr:Fr w β H w (upd β r .nil) (H.set r (some (.vec (bump g) i.size []))):=Fr.regen (Eh g) (by rw[hβ];simp) hH rfl rfl rfl (Ara _) (λ_ _ _=>rfl) (λb N hb=>by cases hb);have hrel:HRel w (upd β r .nil) (H.set r (some (.vec (bump g) i.size []))):=hs.hrel.regen (Eh g) (by rw[hβ];simp) hH rfl rfl rfl (Ara _) (λ_ _ _=>rfl) (λb N hb=>by cases hb) rfl;refine⟨_,_,w,_,_,m,exec o ho a w w _ (by rw[hq];exact Gw ht ht' hI o.type hsI (Aq4 _)),.inl rfl,hs.regen hk hr hfr hrel,hfr,?_,Ar6 _⟩;simp only[V.conv,Ref.conv,hr];exact .oslNil r _ i.size [] _ (by simp[hrl]) (Aq _ _ _)
   ·exact grow ad 0 [] (by rw[hβ];simp) rfl (by simp) ⟨rfl,λk c u hc _=>by simp[flat] at hc⟩ (SrcIs.of_cells (by simp) (λhne=>absurd rfl hne)) (by simp;omega)
  |oslBlk _ _ _ _ sz2 xs2 b N ad cap hH' hβ hl hN hcap ha hlen=>
   obtain⟨rfl,rfl⟩:=hvec2 _ _ hH';rw[hβ] at hob;obtain⟨vs,et,_,h1,h2,h3,h4,h5,h6⟩:=hob;have hrx:RowRep w β H (flat xs2) (vs.toList.take (xs2.length*i.size)):=by
    refine⟨by rw[Gk xs2 h5];simp;omega,λk c u hc hu=> ?_⟩;obtain⟨p,y,j,e1,k1,k2⟩:=Rq hsz xs2 h5 k c hc;have hkl:=Ab hu;rw[Asv] at hu;split at hu
    ·subst e1;exact h6 p y j c u k1 k2 (by simpa using hu)
    ·cases hu
   have holds:SrcIs c.P w i.size (.slice ad n cap) n (vs.toList.take (xs2.length*i.size)):=by
    refine SrcIs.of_cells (by rw[←hn];simp;omega) (λhne=> ?_);have hn0:0<n:=by
     rcases Avn n with h0|h0
     ·rw[hn,h0] at hne;simp at hne
     ·exact h0
    have:=ha (by omega);subst this;refine⟨_,rfl,λj v hj=> ?_⟩;rw[Asv] at hj;split at hj
    ·rw[Aua,Ek,cell_of_row w b j vs et (0,0) h1];simpa using hj
    ·cases hj
   by_cases hfit:n+ys.length≤cap
   ·by_cases hm:ys.length=0
    ·have hys:ys=[]:=As2 hm;subst hys;have hnews:news=[]:=As2 (by simpa using hsI.size);subst hnews;have hfr:Fr w β H w (upd β r (.blk b N)) (H.set r (some (.vec (bump g) i.size (xs2++ [])))):=Fr.regen (Eh g) (by rw[hβ];simp) hH rfl rfl rfl (Ara _) (λ_ _ _=>rfl) (λb' N' hb'=>by injection hb' with e1 e2;subst e1;exact .inr ⟨N,hβ⟩);have hrel:HRel w (upd β r (.blk b N)) (H.set r (some (.vec (bump g) i.size (xs2++ [])))):=
      hs.hrel.regen (Eh g) (by rw[hβ];simp) hH rfl rfl rfl (Ara _) (λ_ _ _=>rfl) (λb' N' hb'=>by injection hb' with e1 e2;subst e1;exact .inr ⟨N,hβ⟩)
       (by rw[Asc];exact⟨vs,et,L1 _ _,h1,h2,h3,h4,h5,λp x j c v hi hj hv=>(h6 p x j c v hi hj hv).mono (by rw[Asc] at hfr;exact hfr)⟩)
     refine⟨_,_,w,_,_,m,exec o ho a w w _ (by rw[hq];exact Gw ht ht' hI o.type hsI (by omega)),.inl rfl,hs.regen hk hr hfr hrel,hfr,?_,Ar6 _⟩;simp only[V.conv,Ref.conv,hr];exact .oslBlk r _ 0 _ i.size (xs2++ []) b N _ _ (by simp[hrl]) (Aq _ _ _) (by simp;omega) hN hcap ha (by simp;omega)
    ·have hc0:0<cap:=by omega
     have:=ha hc0;subst this;rw[Aua] at hq;have hfitN:n*i.size+news.length≤vs.size:=by
      rw[hsI.size,←Asn,h2];rw[Ary] at hN;exact Ark (Arg _ hfit) hN
     have hones: ∀u∈news,u.oneCell'=true:=hro.ones (Aif ys hok);have hrun:=Xh (P:=c.P) (w:=w) ht ht' hI o.type h1 hsI hones hfit hfitN;obtain⟨vs',hvs'⟩: ∃vs',vs'=(vs.toList.take (n*i.size)++news++vs.toList.drop (n*i.size+news.length)).toArray:=⟨_,rfl⟩;rw[←hvs'] at hrun;have hheap:(w.setRow b vs').heap[b]?=some (.cells vs' et (0,0)):=setRow_heap w b vs _ et _ h1;have hvsz:vs'.size=vs.size:=by rw[hvs'];simp;omega
     have hkeep: ∀b',b'<w.heap.size->(∀N',β r≠ .blk b' N')->(w.setRow b vs').heap[b']?=w.heap[b']?:=λb' _ hne=>setRow_other w b b' _ (λe=>hne N (by rw[e];exact hβ));have hl': ∀b' N',Loc.blk b N=Loc.blk b' N'->w.heap.size≤b'∨ ∃N2,β r=.blk b' N2:=λb' N' hb'=>by injection hb' with e1 e2;subst e1;exact .inr ⟨N,hβ⟩
     have hfr:Fr w β H (w.setRow b vs') (upd β r (.blk b N)) (H.set r (some (.vec (bump g) i.size (xs2++ys)))):=Fr.regen (Eh g) (by rw[hβ];simp) hH rfl rfl rfl (by simp) hkeep hl';have hok2: ∀x∈xs2++ys,okE i.size x:=λx hx=>by rcases Asi.1 hx with h|h;exact h5 x h;exact hok x h
     have hrow:RowRep w β H (flat (xs2++ys)) (vs.toList.take (n*i.size)++news):=by rw[Se,←hn];exact hrx.append hro
     have hvec:=Ld (vs:=vs') hok2 hrow (λk hk=>by
      rw[hvs',Aus,Aq9 hk])
     have hrel:HRel (w.setRow b vs') (upd β r (.blk b N)) (H.set r (some (.vec (bump g) i.size (xs2++ys)))):=
      hs.hrel.regen (Eh g) (by rw[hβ];simp) hH rfl rfl rfl (by simp) hkeep hl'
       ⟨vs',et,L1 _ _,hheap,by omega,by rw[Arb,hn];rw[Ary] at hN;exact Ark (Arg _ hfit) hN,hsz,hok2,λp x j c v hi hj hv=>(hvec.2 p x j c v hi hj hv).mono hfr⟩
     refine⟨_,_,_,_,_,m,exec o ho a w _ _ (by rw[hq];exact hrun),.inl rfl,hs.regen hk hr hfr hrel,hfr,?_,Ar6 _⟩;simp only[V.conv,Ref.conv,hr];exact .oslBlk r _ 0 _ i.size (xs2++ys) b N _ _ (by simp[hrl]) (Aq _ _ _) hfit hN hcap (λ_=>by rw[Aua]) (by simp;omega)
   ·subst hn;exact grow ad cap _ (by rw[hβ];simp) rfl h5 hrx holds (by omega)
  |oslStale _ _ _ _ g' sz' xs' _ hH' hg=>
   rw[hH] at hH';injection hH' with hH'
   injection hH' with hH'
   injection hH' with e0 _ _
   omega
  |oslDead _ _ _ _ _ hd=>rw[hH] at hd;cases hd
 ·exact .inl h
variable {c:Cx} {E:Env} {T:Heap} {F:Prop} {K:V->Heap->Prop}
theorem N7 {sz:Nat}: ∀ {xs:List V},okEs sz xs-> ∀x∈xs,okE sz x
 | [],_,x,hx=>by cases hx
 |y::ys,h,x,hx=>by
  rcases Arl.1 hx with rfl|hx
  ·have h1:=h.1;rw[C5] at h1;simp only[Aq6,As1] at h1;exact⟨Arn h1.1,h1.2⟩
  ·exact N7 h.2 x hx
def FrzTo (T:Heap)(vs:List V)(T':Heap)(vs':List V):Prop:=
 vs'.length=vs.length∧ ∀(imps:List Nat) (nt:Nat) (w:World) (β:Nat->Loc) (H:Heap) (m:List Nat) (E:Env) (B:Base) (D:List Nat) (a:Act),SRel imps nt w β H m ⟨E,T,B,D⟩ a->
  ∃H',SRel imps nt w β H' m ⟨E,T',B,D⟩ a∧Fr w β H w β H'∧ ∀(k:Nat) (x x':V) (u:Value),vs[k]?=some x->vs'[k]?=some x'->Rep w β H (x.conv m) u->Rep w β H' x' u
theorem FrzTo.nil (T:Heap):FrzTo T [] T []:=⟨rfl,λ_ _ w β H _ _ _ _ _ hs=>⟨H,hs,Fr.refl _ _ _,λk x x' u h=>by simp at h⟩⟩
theorem FrzTo.cons {T T' T'':Heap}{v v':V}{vs vs':List V}(h:FrzTo T [v] T' [v'])(k:FrzTo T' vs T'' vs'):FrzTo T (v::vs) T'' (v'::vs'):=by
 refine⟨by simp[k.1],λimps nt w β H m E B D a hs=> ?_⟩;obtain⟨H',h1,h2,h3⟩:=h.2 imps nt w β H m E B D a hs;obtain⟨H'',k1,k2,k3⟩:=k.2 imps nt w β H' m E B D a h1;refine⟨H'',k1,h2.trans k2,λn x x' u hx hx' hr=> ?_⟩;cases n with
 |zero=>exact(h3 0 x x' u hx hx' hr).mono k2
 |succ n=>exact k3 n x x' u hx hx' (hr.mono h2)
theorem Um {v:V}(h:frz1 v T F K):F∨ ∃v' T',K v' T'∧FrzTo T [v] T' [v']:=by
 have plain:(bif v.pureB then K v T else F)->F∨ ∃v' T',K v' T'∧FrzTo T [v] T' [v']:=by
  intro h;cases hp:v.pureB with
  |false=>rw[hp] at h;exact .inl h
  |true=>
   rw[hp] at h;refine .inr ⟨v,T,h,rfl,λimps nt w β H m E B D a hs=>⟨H,hs,Fr.refl _ _ _,λk x x' u hx hx' hr=> ?_⟩⟩;cases k with
   |zero=>
    simp only[Ar2,Option.some.injEq] at hx hx';subst hx hx';rwa [Ao m v hp] at hr
   |succ k=>simp at hx
 unfold frz1 at h;split at h
 ·rename_i k g l;rw[Af] at h;split at h
  ·rename_i g' sz xs hk;obtain⟨rfl,rfl,h⟩:=h;rw[Bz] at h;refine .inr ⟨_,_,h,rfl,λimps nt w β H m E B D a hs=> ?_⟩;obtain⟨r,hr,hH⟩:=hs.at hk;have hset:=hs.set (o':=none) (w':=w) hr (λo h=>by cases h) (λo h1 h2=>by rw[hk] at h1;injection h1 with h1;injection h1 with h1;subst h1;cases h2) (Fr.kill r) (hs.hrel.kill r);refine⟨_,hset,Fr.kill r,λn x x' u hx hx' hrep=> ?_⟩;cases n with
   |succ n=>simp at hx
   |zero=>
   simp only[Ar2,Option.some.injEq] at hx hx';subst hx hx';simp only[V.conv,Ref.conv,hr] at hrep;simp only[HObj.conv] at hH;have hob:=hs.hrel.obj r _ hH;have hvec: ∀sz2 xs2,H[r]?=some (some (.vec g sz2 xs2))->sz2=sz∧xs2=xs:=λsz2 xs2 h2=>by
    rw[hH] at h2;injection h2 with h2
    injection h2 with h2
    injection h2 with _ e1 e2
    exact⟨e1.symm,e2.symm⟩
   generalize hn:xs.length=n at hrep;cases hrep with
   |oslNil _ _ sz2 xs2 ad hH' hβ=>
    rw[hβ] at hob;have:xs=[]:=hob;subst this;exact .sl sz [] ad 0 (λ_=>Go.undef) (Ara _) (Aq4 _) (by simp) (λhne=>absurd rfl hne) (λi x j c hi=>by simp at hi)
   |oslBlk _ _ _ _ sz2 xs2 b N ad cap hH' hβ hl hN hcap ha hlen=>
    obtain⟨rfl,rfl⟩:=hvec _ _ hH';rw[hβ] at hob;obtain⟨vs,e,h0,h1,h2,h3,h4,h5,h6⟩:=hob;subst hn;refine .sl sz2 xs2 ad cap (λj=>vs.getD j Go.undef) hl (by omega) h5 (λhne=> ?_) (λi x j c hi hj=> ?_)
    ·have h0:0<xs2.length:=Arw.2 hne;have:=ha (by omega);subst this;refine⟨_,rfl,?_,(Asz.1 h1).1,λj hj=> ?_⟩
     ·exact hs.hrel.free hH hβ _
     ·have hjv:j<vs.size:=by omega
      rw[Aua,Ek,cell_of_row w b j vs e (0,0) h1];simp[hjv]
    ·have hlt:i*sz2+j<vs.size:=by
      have e1:=Ab hi;have e2:=Ab hj;have e3:=(h5 x (Aq7 hi)).1;have:(i+1)*sz2≤xs2.length*sz2:=Arg _ e1;rw[Asn] at this;omega
     exact(h6 i x j c (vs.getD (i*sz2+j) Go.undef) hi hj (by simp[hlt])).mono (Fr.kill r)
   |oslStale _ _ _ _ g' sz' xs' _ hH' hg=>
    rw[hH] at hH';injection hH' with hH'
    injection hH' with hH'
    injection hH' with e0 _ _
    omega
   |oslDead _ _ _ _ _ hd=>rw[hH] at hd;cases hd
  ·exact .inl h
 ·exact plain h
theorem N8: ∀(vs:List V) (T:Heap) (K:List V->Heap->Prop),frzL vs T F K->F∨ ∃vs' T',K vs' T'∧FrzTo T vs T' vs'
 | [],T,K,h=>.inr ⟨[],T,h,FrzTo.nil T⟩
 |v::vs,T,K,h=>by
  rw[frzL,Bq] at h
  rcases Um h with h| ⟨v',T',h,h1⟩
  ·exact .inl h
  ·rcases N8 vs T' _ h with h| ⟨vs',T'',h,h2⟩
   ·exact .inl h
   ·exact .inr ⟨_,_,h,h1.cons h2⟩
theorem FrzTo.agg {T T':Heap}{vs vs':List V}(h:FrzTo T vs T' vs'):FrzTo T [.agg vs] T' [.agg vs']:=by
 refine⟨rfl,λimps nt w β H m E B D a hs=> ?_⟩;obtain⟨H',h1,h2,h3⟩:=h.2 imps nt w β H m E B D a hs;refine⟨H',h1,h2,λn x x' u hx hx' hr=> ?_⟩;cases n with
 |succ n=>simp at hx
 |zero=>
  simp only[Ar2,Option.some.injEq] at hx hx';subst hx hx';simp only[V.conv] at hr;cases hr with
  |agg _ us hl hc=>
   have hll:vs.length=us.size:=by rw[V.convL_eq] at hl;simpa using hl
   refine .agg _ us (by rw[h.1];exact hll) λj c' u hj hu=> ?_;have hjl:j<vs.length:=by have:=Ab hj;rw[h.1] at this;exact this
   exact h3 j vs[j] c' u (Aq3 hjl) hj (hc j _ u (by rw[V.convL_eq];simp[hjl]) hu)
theorem FrzTo.tup {T T':Heap}{vs vs':List V}(h:FrzTo T vs T' vs'):FrzTo T [.tup vs] T' [.tup vs']:=by
 refine⟨rfl,λimps nt w β H m E B D a hs=> ?_⟩;obtain⟨H',h1,h2,h3⟩:=h.2 imps nt w β H m E B D a hs;refine⟨H',h1,h2,λn x x' u hx hx' hr=> ?_⟩;cases n with
 |succ n=>simp at hx
 |zero=>
  simp only[Ar2,Option.some.injEq] at hx hx';subst hx hx';simp only[V.conv] at hr;cases hr with
  |tup _ us hl hc=>
   have hll:vs.length=us.size:=by rw[V.convL_eq] at hl;simpa using hl
   refine .tup _ us (by rw[h.1];exact hll) λj c' u hj hu=> ?_;have hjl:j<vs.length:=by have:=Ab hj;rw[h.1] at this;exact this
   exact h3 j vs[j] c' u (Aq3 hjl) hj (hc j _ u (by rw[V.convL_eq];simp[hjl]) hu)
theorem P1 {v:V}{T:Heap}{K:V->Heap->Prop}(h:frz v T F K):F∨ ∃v' T',K v' T'∧FrzTo T [v] T' [v']:=by
 unfold frz at h;split at h
 ·rcases N8 _ _ _ h with h| ⟨vs',T',h,h1⟩
  ·exact .inl h
  ·exact .inr ⟨_,_,h,h1.agg⟩
 ·rcases N8 _ _ _ h with h| ⟨vs',T',h,h1⟩
  ·exact .inl h
  ·exact .inr ⟨_,_,h,h1.tup⟩
 ·exact Um h
theorem Dq: ∀(vs:List V) (T:Heap) (K:List V->Heap->Prop),frzAll vs T F K->F∨ ∃vs' T',K vs' T'∧FrzTo T vs T' vs'
 | [],T,K,h=>.inr ⟨[],T,h,FrzTo.nil T⟩
 |v::vs,T,K,h=>by
  rw[frzAll,Bq] at h
  rcases P1 h with h| ⟨v',T',h,h1⟩
  ·exact .inl h
  ·rcases Dq vs T' _ h with h| ⟨vs',T'',h,h2⟩
   ·exact .inl h
   ·exact .inr ⟨_,_,h,h1.cons h2⟩
theorem M1: ∀(ps:List (Nat×Operand)) (n:Nat) (K:List V->Prop),elems E ps n K F->F∨(K (ps.map λp=>opd E p.2)∧ ∀f:Operand->Value,(ps.map λp=>(p.1,f p.2))=((ps.map λp=>f p.2).zipIdx n).map λx=>(x.2,x.1))
 | [],n,K,h=>.inr ⟨h,λf=>rfl⟩
 | (i,x)::ps,n,K,h=>by
  rw[elems] at h;cases hb:Nat.beq i n with
  |false=>rw[hb] at h;exact .inl h
  |true=>
   rw[hb] at h;obtain rfl:=Arn hb;simp only[cond_true,Bq] at h
   rcases M1 ps (i+1) _ h with h| ⟨h,h1⟩
   ·exact .inl h
   ·refine .inr ⟨h,λf=> ?_⟩;simp only[Asa,List.zipIdx_cons];rw[h1 f]
theorem Ml {t e:TypeId}{len:Nat}{ps:Array (Nat×Operand)}{i:TypeInfo}{z:Value}{vs':List V}{T':Heap}(ht:tyU c.P t=some (.slice e))(hi:tyI c.P e=some i)(hz:i.zero=some z)
  (hlen:ps.toList.length=len) (hsm:len*i.size≤16777216) (hsz:0<i.size)
  (hparts: ∀f:Operand->Value,(ps.toList.map λp=>(p.1,f p.2))=((ps.toList.map λp=>f p.2).zipIdx 0).map λx=>(x.2,x.1))
  (hfz:FrzTo T (ps.toList.map λp=>opd E p.2) T' vs') (hok: ∀x∈vs',okE i.size x) {o:Oper} (hop:o.op=.buildSlice t len ps) {w:World} {β:Nat->Loc} {H:Heap} {m:List Nat} {a:Act} (hs:SRel c.imps c.nt w β H m ⟨E,T,c.B,c.D⟩ a):
  ∃(H':Heap) (cells:Array Value),SRel c.imps c.nt w β H' m ⟨E,T',c.B,c.D⟩ a∧Fr w β H w β H'∧(execOp a.eval o).run c.P w=.ok (.value (.slice (some ⟨w.heap.size,0,none⟩) len len)) (w.alloc (.cells cells e))∧
   len=vs'.length∧len≤maxLen∧len*i.size=cells.size∧(∀(p:Nat) (x:V) (j:Nat) (cc:V) (v:Value),vs'[p]?=some x->x.cells[j]?=some cc->cells[p*i.size+j]?=some v->Rep w β H' cc v):=by
 obtain⟨H',h1,h2,h3⟩:=hfz.2 _ _ _ _ _ _ _ _ _ _ hs;have hI:=A4 hi;have hU:=Al ht;have hvl:vs'.length=len:=by rw[hfz.1,Arf];exact hlen
 have hus: ∀(k:Nat) (x':V) (u:Value),vs'[k]?=some x'->(ps.toList.map λp=>a.eval p.2)[k]?=some u->Rep w β H' x' u:=by
  intro k x' u hx hu;have hk:k<ps.toList.length:=by have:=Ab hu;simpa using this
  simp only[Arv,Aq3 hk,Atq,Option.some.injEq] at hu;subst hu;exact h3 k (opd E ps.toList[k].2) x' _ (by simp only[Arv,Aq3 hk,Atq]) hx (Ae hs _)
 have hcell: ∀u∈ (ps.toList.map λp=>a.eval p.2),u.cells.size=i.size:=by
  intro u hu;obtain⟨k,hk,rfl⟩:=Ata.1 hu;have hkv:k<vs'.length:=by simp only[Arf] at hk;omega
  have hx:=hok _ (Arq hkv);obtain⟨e1,_,_⟩:=F3 (hus k vs'[k] _ (Aq3 hkv) (Aq3 hk)) hx.2;rw[←e1];exact hx.1
 obtain⟨cells,hf,hcs,hck⟩:=Great.fill_dense hsz (ps.toList.map λp=>a.eval p.2) 0 ((Array.range (len*i.size)).map (z.cells[· % z.cells.size]!)) hcell (by simp[hlen]);simp only[Aua,Aq4,true_and,Ary,Arf,Av1] at hck;rw[hlen] at hck;have hrun:(Instr.buildSlice t len (ps.map λ(i,x)=>(i,a.eval x))).run c.P w=.ok (.slice (some ⟨w.heap.size,0,none⟩) len len) (w.alloc (.cells cells e)):=by
  have hpl:(ps.map λ(i,x)=>(i,a.eval x)).toList=((ps.toList.map λp=>a.eval p.2).zipIdx 0).map λx=>(x.2,x.1):=by
   rw[Array.toList_map];exact hparts a.eval
  rcases Avn (len*i.size) with h0|h0
  ·have hl0:len=0:=by
    rcases Nat.mul_eq_zero.1 h0 with h|h
    ·exact h
    ·omega
   subst hl0;have hps:ps.toList=[]:=Ard.1 hlen;rw[hps] at hf hpl;simp only[Ate,List.zipIdx_nil] at hf hpl;have he:cells= #[]:=by
    have:=hcs;simp at this;exact this
   subst he;have hpa:(ps.map λ(i,x)=>(i,a.eval x))= #[]:=by simpa using hpl
   simp only[hpa];simp[Instr.buildSlice,run_underlying hU,A5 hI,newRow,Instr.fill]
   congr 2
   exact Auk (by simp)
  ·exact run_buildSlice w t e len _ cells i z hU hI hz (by omega) (by omega) (by rw[hpl];exact hf)
 have hrun':(execOp a.eval o).run c.P w=.ok (.value (.slice (some ⟨w.heap.size,0,none⟩) len len)) (w.alloc (.cells cells e)):=by
  simp only[execOp,hop,Sem.run_bind,hrun,Result.andThen_ok];rfl
 have hcsz:cells.size=len*i.size:=by rw[hcs];simp
 refine⟨H',cells,h1,h2,hrun',hvl.symm,?_,hcsz.symm,λp x j cc v hp hj hv=> ?_⟩
 ·unfold maxLen;have:len*1≤len*i.size:=Nat.mul_le_mul_left _ hsz;omega
 ·have hx:=hok x (Aq7 hp);have hjl:=Ab hj;rw[hx.1] at hjl;have hpl:=Ab hp;have hlt:p*i.size+j<len*i.size:=by
   have:(p+1)*i.size≤len*i.size:=Arg _ (by omega);rw[Asn] at this;omega
  have hd:(p*i.size+j) / i.size=p:=Nat.div_eq_of_lt_le (by omega) (by rw[Asn];omega);have hm:(p*i.size+j) % i.size=j:=by rw[Awg,Nat.mul_add_mod];exact Av2 hjl
  have:=hck (p*i.size+j);rw[if_pos hlt,hd,hm,hv] at this;have hpk:p< (ps.toList.map λq=>a.eval q.2).length:=by simp;rw[←As4];omega
  rw[Aq3 hpk] at this;simp only[Option.bind_some] at this;obtain⟨_,e2,_⟩:=F3 (hus p x _ hp (Aq3 hpk)) hx.2;exact e2 j cc v hj this.symm
theorem Aaq {t:TypeId}{len:Nat}{ps:Array (Nat×Operand)}(h:evOp c (.buildSlice t len ps) E T F K):F∨ ∃u T',K u T'∧OpTo c (.buildSlice t len ps) E T u T':=by
 simp only[evOp] at h;split at h
 case h_2=>exact .inl h
 rename_i e ht;split at h
 case h_2=>exact .inl h
 rename_i i hi;split at h
 case h_2=>exact .inl h
 rename_i z hz;cases hb:(Nat.beq (lcount ps.toList 0) len&&Nat.ble (len*i.size) 16777216&&Nat.ble 1 i.size) with
 |false=>rw[hb] at h;exact .inl h
 |true=>
 rw[hb] at h;simp only[Aq6] at hb;obtain⟨⟨hb1,hb2⟩,hb3⟩:=hb;have hlen:=Arn hb1;have hsm:=Arp hb2;have hsz:0<i.size:=Arp hb3;rw[C5,As1] at hlen
 rcases M1 _ _ _ h with h| ⟨h,hparts⟩
 ·exact .inl h
 rcases Dq _ _ _ h with h| ⟨vs',T',h,hfz⟩
 ·exact .inl h
 obtain⟨hok,h⟩:=h;have hok:=N7 hok;rw[Ru,Jn] at h;refine .inr ⟨_,_,h,λo hop w β H m a hs=> ?_⟩;obtain⟨H',cells,h1,h2,hrun,c1,c2,c3,c4⟩:=Ml ht hi hz hlen hsm hsz hparts hfz hok hop hs;obtain⟨β',H'',k1,k2,k3⟩:=h1.newVec 0 i.size vs' cells e len len (Tj _) hsz hok c1 (Ara _) c2 c3 c4;exact⟨_,_,_,β',H'',_,hrun,.inl rfl,k1,h2.trans k2,k3,Atl _ _⟩
theorem P3 {P:Program}: ∀(fs:List Field) (pl:List (Nat×Nat)),places P fs=some pl->fs.mapM (λf=>(P.info? f.type).map λi=>(f.offset,i.size))=some pl
 | [],pl,h=>by
  rw[places] at h;simpa using h
 |f::fs,pl,h=>by
  rw[places] at h;split at h
  ·rename_i i ps hi hps;injection h with h
   subst h;simp[P3 fs ps hps,A4 hi]
  ·cases h
theorem P4 {pl:List (Nat×Nat)}: ∀(ps:List (Nat×Operand)) (cs:List V) (K:List V->Prop),buildK pl E ps cs F K->F∨ ∃cs',K cs'∧
  ∀(imps:List Nat) (nt:Nat) (w:World) (β:Nat->Loc) (H:Heap) (m:List Nat) (T:Heap) (B:Base) (D:List Nat) (a:Act),SRel imps nt w β H m ⟨E,T,B,D⟩ a->
   ∀vals:Array Value,RowRep w β H (V.convL m cs) vals.toList-> ∃vals',Instr.fill (pl.toArray[·]?) vals (ps.map λp=>(p.1,a.eval p.2))=some vals'∧RowRep w β H (V.convL m cs') vals'.toList
 | [],cs,K,h=>.inr ⟨cs,h,λ_ _ _ _ _ _ _ _ _ _ _ vals hv=>⟨vals,rfl,hv⟩⟩
 | (i,x)::ps,cs,K,h=>by
  rw[buildK] at h;rw[Af] at h;split at h
  case h_2=>exact .inl h
  rename_i off sz hpl;rw[Bq,C5] at h;cases hb:(Nat.beq ((opd E x).cells.length+0) sz&&onesB (opd E x).cells) with
  |false=>rw[hb] at h;exact .inl h
  |true=>
  rw[hb] at h;simp only[Aq6,As1] at hb;obtain⟨hb1,hb2⟩:=hb;obtain rfl:=Arn hb1
  rcases Hz _ _ _ _ h with h| ⟨cs',ho,h⟩
  ·exact .inl h
  rcases P4 ps cs' K h with h| ⟨cs'',h,hk⟩
  ·exact .inl h
  refine .inr ⟨cs'',h,λimps nt w β H m T B D a hs vals hv=> ?_⟩;have hx:Rep w β H ((opd E x).conv m) (a.eval x):=Ae hs x;obtain⟨hxl,hxc,_⟩:=F3 hx (by rw[C1,Hh];exact hb2);rw[C1] at hxl hxc;have hxl':(opd E x).cells.length=(a.eval x).cells.size:=by rw[V.convL_eq] at hxl;simpa using hxl
  have hcl:cs.length=vals.size:=by have:=hv.1;rw[V.convL_eq] at this;simpa using this
  obtain⟨g1,g2⟩:=Great.foldl_set off (a.eval x).cells.toList 0 vals;have ho':=Y1 (m:=m) ho;obtain⟨v1,hv1⟩: ∃v1,v1=((a.eval x).cells.toList.zipIdx 0).foldl (λcs (x:Value×Nat)=>cs.setIfInBounds (off+x.2) x.1) vals:=⟨_,rfl⟩;rw[←hv1] at g1 g2;have hfit:=ho.1;obtain⟨vals',h1,h2⟩:=hk imps nt w β H m T B D a hs v1 ⟨by rw[ho'.2.1,V.convL_eq];simp only[Arf,As4];rw[g1];exact hcl,λk z u hz hu=>by
   rw[Asm,g2 k] at hu;simp only[As1,As4] at hu;rw[ho'.2.2 k] at hz;have hll:(V.convL m (opd E x).cells).length=(opd E x).cells.length:=by rw[V.convL_eq];simp
   rw[hll] at hz;split at hz
   ·rename_i hj;rw[if_pos (by omega)] at hu;exact hxc _ z u hz (by simpa using hu)
   ·rename_i hj;rw[if_neg (by omega)] at hu;exact hv.2 k z u hz (by simpa using hu)⟩
  refine⟨vals',?_,h2⟩;simp only[Asa];unfold Instr.fill;simp only[Aus,hpl];rw[if_neg (by simp;omega),←h1,hv1];have hf:(λ(x:Nat)=>pl[x]?)=λ(x:Nat)=>pl.toArray[x]?:=by funext y;simp
  rw[hf,←Array.foldl_toList,Array.toList_zipIdx]
theorem L2 (v:Value):(ofVal1 v).cells=[ofVal1 v]:=by
 unfold ofVal1;split<;>first|rfl| (cases Nat.ble _ 1000000<;>rfl)
theorem Mm {w:World}{β:Nat->Loc}{H:Heap}(m:List Nat)(v:Value):RowRep w β H (V.convL m (ofVal v).cells) v.cells.toList:=by
 have hr:Rep w β H ((ofVal v).conv m) v:=Qb v
 by_cases hv: ∃vs,v=.agg vs
 ·obtain⟨vs,rfl⟩:=hv;simp only[ofVal,V.conv] at hr;cases hr with
  |agg _ _ hl hc=>exact⟨hl,λk c u h1 h2=>hc k c u h1 (by simpa[Value.cells] using h2)⟩
 ·have e1:ofVal v=ofVal1 v:=by
   cases v<;>first|rfl|exact absurd ⟨_,rfl⟩ hv
  have e2:v.cells= #[v]:=by
   cases v<;>first|rfl|exact absurd ⟨_,rfl⟩ hv
  rw[e1] at hr ⊢;rw[L2,e2];refine⟨rfl,λk c u h1 h2=> ?_⟩;cases k with
  |zero=>simp[V.convL] at h1 h2;subst h1 h2;exact hr
  |succ k=>simp[V.convL] at h1
theorem Yi (sz:Nat): ∀(n i j:Nat) (p:Nat×Nat),(arrPl sz n i)[j]?=some p->p=((i+j)*sz,sz)
 |0,i,j,p,h=>by simp[arrPl] at h
 |n+1,i,j,p,h=>by
  cases j with
  |zero=>simp[arrPl] at h;rw[←h];rfl
  |succ j=>
   have:=Yi sz n (i+1) j p (by simpa[arrPl] using h);rw[this,show i+1+j=i+ (j+1) by omega]
theorem Yj {f g:Nat->Option (Nat×Nat)}(hfg: ∀i v,f i=some v->g i=some v): ∀(parts:List (Nat×Value)) (cells r:Array Value),Instr.fill f cells parts=some r->Instr.fill g cells parts=some r
 | [],cells,r,h=>h
 | (i,v)::rest,cells,r,h=>by
  rw[Instr.fill] at h ⊢;cases hf:f i with
  |none=>rw[hf] at h;cases h
  |some p=>
   rw[hf] at h;rw[hfg i p hf];obtain⟨off,size⟩:=p;simp only at h ⊢;split at h
   ·cases h
   ·rename_i hc;rw[if_neg hc];exact Yj hfg rest _ r h
theorem Alp {t:TypeId}{ps:Array (Nat×Operand)}(h:evOp c (.build t ps) E T F K):F∨ ∃u T',K u T'∧OpTo c (.build t ps) E T u T':=by
 have fin: ∀(pl:List (Nat×Nat)) (z:V) (v:Value) (it:TypeInfo),c.P.info? t=some it->it.zero=some v->z=ofVal v->(∀parts:List (Nat×Value),∀vals',Instr.fill (pl.toArray[·]?) v.cells parts=some vals'->c.P.built t parts=some vals')->
   buildK pl E ps.toList z.cells F (λcs=>K (.agg cs) T)->F∨ ∃u T',K u T'∧OpTo c (.build t ps) E T u T':=by
  intro pl z v it hit hzv hz hbt h;subst hz
  rcases P4 _ _ _ h with h| ⟨cs,h,hk⟩
  ·exact .inl h
  refine .inr ⟨_,_,h,OpTo.still λo hop w β H m a hs=> ?_⟩;have hzr:RowRep w β H (V.convL m (ofVal v).cells) v.cells.toList:=Mm m v;obtain⟨vals',h1,h2⟩:=hk _ _ _ _ _ _ _ _ _ _ hs v.cells hzr;have hb:c.P.built t (ps.map λ(i,x)=>(i,a.eval x)).toList=some vals':=by
   refine hbt _ _ ?_;simp only[Array.toList_map];exact h1
  refine⟨.agg vals',?_,?_⟩
  ·simp only[execOp,hop,Sem.run_bind,run_build w t _ _ hb,Result.andThen_ok];rfl
  ·simp only[V.conv];exact .agg _ _ (by simpa using h2.1) λj c u e1 e2=>h2.2 j c u e1 (by simpa using e2)
 simp only[evOp] at h;split at h
 ·rename_i fs z ht hz;split at h
  ·rename_i pl hpl;obtain⟨it,v,hit,hzv,hze⟩:=I8 hz;refine fin pl z v it hit hzv hze (λparts vals' hf=> ?_) h;unfold Program.built;simp only[hit,Al ht,hzv,P3 _ _ hpl];exact hf
  ·exact .inl h
 ·rename_i n e z ht hz;split at h
  ·rename_i ti hti;obtain⟨it,v,hit,hzv,hze⟩:=I8 hz;refine fin _ z v it hit hzv hze (λparts vals' hf=> ?_) h;unfold Program.built;simp only[hit,Al ht,hzv,A4 hti];refine Yj (λi p hp=> ?_) _ _ _ hf;have:=Yi _ _ _ _ _ (by simpa using hp);rw[this];simp
  ·exact .inl h
 ·exact .inl h
end Bow
