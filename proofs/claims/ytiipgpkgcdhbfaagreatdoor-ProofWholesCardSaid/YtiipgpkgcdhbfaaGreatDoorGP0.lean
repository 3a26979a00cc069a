/- An abstract interpreter of the kit's code: values without memory, an abstract memory of named objects. Definitions alone. -/
import Derived.Calls
import Derived.KernelRfl
import Derived.Maps.OwnSet
import Derived.DeepKeys4
import Derived.Below
import Derived.Laws.AppendOwn
import Derived.Laws.MakeOwn
import Derived.Laws.OwnMore
import Derived.Laws.Rows
import Derived.MapKept
import Derived.WalkKit
import Derived.WalkSpells
import Derived.Laws.Small
import Derived.Laws.StructEq
import Derived.Laws.Cover3
import Derived.Laws.Cells
import Derived.Laws.Tables
import Derived.Great.BuildSlice
import Derived.Defers
set_option maxRecDepth 100000
set_option linter.unusedVariables false
set_option linter.unusedSimpArgs false
set_option linter.unusedSectionVars false
theorem an:type_of% @if_neg.{1}:=@if_neg.{1}
theorem aq:type_of% @if_pos.{1}:=@if_pos.{1}
theorem aQ:type_of% @Option.map_some.{0,0}:=@Option.map_some.{0,0}
theorem aR:type_of% @Nat.le_refl:=@Nat.le_refl
theorem aT:type_of% @List.getD_eq_getElem?_getD.{0}:=@List.getD_eq_getElem?_getD.{0}
theorem aW:type_of% @List.length_append.{0}:=@List.length_append.{0}
theorem ba:type_of% @List.length_cons.{0}:=@List.length_cons.{0}
theorem bn:type_of% @Option.bind_eq_some_iff.{0,0}:=@Option.bind_eq_some_iff.{0,0}
theorem bo:type_of% @List.length_nil.{0}:=@List.length_nil.{0}
theorem bq:type_of% @Nat.zero_add:=@Nat.zero_add
theorem bu:type_of% @List.length_map.{0,0}:=@List.length_map.{0,0}
theorem bA:type_of% @List.getElem_mem.{0}:=@List.getElem_mem.{0}
theorem bD:type_of% @decide_eq_false:=@decide_eq_false
theorem bF:type_of% @List.nil_append.{0}:=@List.nil_append.{0}
theorem bJ:type_of% @if_true.{1}:=@if_true.{1}
theorem bM:type_of% @decide_eq_true:=@decide_eq_true
theorem bP:type_of% @List.getElem?_eq_getElem.{0}:=@List.getElem?_eq_getElem.{0}
theorem b6:type_of% @List.cons_append.{0}:=@List.cons_append.{0}
theorem cg:type_of% @Option.some.injEq.{0}:=@Option.some.injEq.{0}
theorem cu:type_of% @List.append_nil.{0}:=@List.append_nil.{0}
theorem cD:type_of% @Bool.and_eq_true:=@Bool.and_eq_true
theorem cU:type_of% @Int.toNat_natCast:=@Int.toNat_natCast
theorem cW:type_of% @List.set_cons_zero.{0}:=@List.set_cons_zero.{0}
theorem dc:type_of% @congrArg.{1,1}:=@congrArg.{1,1}
theorem dd:type_of% @Bool.true_and:=@Bool.true_and
theorem dF:type_of% @Nat.mul_comm:=@Nat.mul_comm
theorem dO:type_of% @List.set_cons_succ.{0}:=@List.set_cons_succ.{0}
theorem fg:type_of% @List.set_nil.{0}:=@List.set_nil.{0}
theorem fk:type_of% @Option.getD_some.{0}:=@Option.getD_some.{0}
theorem fC:type_of% @Nat.le_trans:=@Nat.le_trans
theorem fE:type_of% @Prod.mk.injEq.{0,0}:=@Prod.mk.injEq.{0,0}
theorem fP:type_of% @Array.getElem?_eq_some_iff.{0}:=@Array.getElem?_eq_some_iff.{0}
theorem fQ:type_of% @Nat.mul_assoc:=@Nat.mul_assoc
theorem fW:type_of% @List.mem_cons_of_mem.{0}:=@List.mem_cons_of_mem.{0}
theorem gh:type_of% @List.map_cons.{0,0}:=@List.map_cons.{0,0}
theorem gj:type_of% @List.mem_cons_self.{0}:=@List.mem_cons_self.{0}
theorem gC:type_of% @List.drop_zero.{0}:=@List.drop_zero.{0}
theorem gD:type_of% @List.all_eq_true.{0}:=@List.all_eq_true.{0}
theorem gI:type_of% @List.mem_cons.{0}:=@List.mem_cons.{0}
theorem gL:type_of% @Nat.mul_add:=@Nat.mul_add
theorem gR:type_of% @List.append_assoc.{0}:=@List.append_assoc.{0}
theorem gU:type_of% @List.drop_eq_nil_of_le.{0}:=@List.drop_eq_nil_of_le.{0}
theorem hZ:type_of% @List.mem_append.{0}:=@List.mem_append.{0}
theorem il:type_of% @List.length_set.{0}:=@List.length_set.{0}
theorem im:type_of% @List.length_take.{0}:=@List.length_take.{0}
theorem iq:type_of% @Option.map_eq_some_iff.{0,0}:=@Option.map_eq_some_iff.{0,0}
theorem iv:type_of% @Bool.false_and:=@Bool.false_and
theorem iw:type_of% @List.mem_map.{0,0}:=@List.mem_map.{0,0}
theorem iH:type_of% @List.map_append.{0,0}:=@List.map_append.{0,0}
theorem iI:type_of% @Nat.add_mul:=@Nat.add_mul
theorem iX:type_of% @List.take_of_length_le.{0}:=@List.take_of_length_le.{0}
theorem jj:type_of% @Bool.not_true:=@Bool.not_true
theorem jl:type_of% @Nat.mul_le_mul_right:=@Nat.mul_le_mul_right
theorem jm:type_of% @decide_eq_decide:=@decide_eq_decide
theorem jJ:type_of% @Bool.false_eq_true:=@Bool.false_eq_true
theorem jP:type_of% @List.drop_eq_getElem_cons.{0}:=@List.drop_eq_getElem_cons.{0}
theorem jQ:type_of% @Nat.lt_of_le_of_lt:=@Nat.lt_of_le_of_lt
theorem jX:type_of% @Array.getD_eq_getD_getElem?.{0}:=@Array.getD_eq_getD_getElem?.{0}
theorem kh:type_of% @Nat.pow_succ:=@Nat.pow_succ
theorem kU:type_of% @Nat.add_zero:=@Nat.add_zero
theorem kV:type_of% @Nat.mod_lt:=@Nat.mod_lt
theorem lp:type_of% @if_false.{1}:=@if_false.{1}
theorem lG:type_of% @Nat.mul_le_mul_left:=@Nat.mul_le_mul_left
theorem lZ:type_of% @List.sum_cons.{0}:=@List.sum_cons.{0}
theorem my:type_of% @Bool.not_false:=@Bool.not_false
theorem mz:type_of% @Nat.mod_eq_of_lt:=@Nat.mod_eq_of_lt
theorem mS:type_of% @List.getElem?_map.{0,0}:=@List.getElem?_map.{0,0}
theorem mU:type_of% @List.take_succ_eq_append_getElem.{0}:=@List.take_succ_eq_append_getElem.{0}
theorem mV:type_of% @Nat.mul_one:=@Nat.mul_one
theorem nE:type_of% @Int.eq_ofNat_of_zero_le:=@Int.eq_ofNat_of_zero_le
theorem nF:type_of% @List.all_cons.{0}:=@List.all_cons.{0}
theorem nZ:type_of% @List.getElem?_append_left.{0}:=@List.getElem?_append_left.{0}
theorem n0:type_of% @List.getElem_of_mem.{0}:=@List.getElem_of_mem.{0}
theorem oF:type_of% @List.eq_nil_of_length_eq_zero.{0}:=@List.eq_nil_of_length_eq_zero.{0}
theorem oG:type_of% @List.take_append_drop.{0}:=@List.take_append_drop.{0}
theorem oH:type_of% @Nat.add_assoc:=@Nat.add_assoc
theorem oI:type_of% @Nat.mul_zero:=@Nat.mul_zero
theorem oJ:type_of% @Nat.zero_le:=@Nat.zero_le
theorem oM:type_of% @decide_eq_true_eq:=@decide_eq_true_eq
theorem pk:type_of% @List.getElem?_eq_none.{0}:=@List.getElem?_eq_none.{0}
theorem pn:type_of% @List.length_drop.{0}:=@List.length_drop.{0}
theorem po:type_of% @List.mem_filter.{0}:=@List.mem_filter.{0}
theorem pQ:type_of% @Nat.add_sub_cancel:=@Nat.add_sub_cancel
theorem pR:type_of% @Nat.pos_of_ne_zero:=@Nat.pos_of_ne_zero
theorem pS:type_of% @Option.some.inj.{0}:=@Option.some.inj.{0}
theorem qj:type_of% @List.cons.injEq.{0}:=@List.cons.injEq.{0}
theorem qk:type_of% @List.getD_cons_zero.{0}:=@List.getD_cons_zero.{0}
theorem ql:type_of% @List.getElem?_set_ne.{0}:=@List.getElem?_set_ne.{0}
theorem qm:type_of% @List.map_take.{0,0}:=@List.map_take.{0,0}
theorem qn:type_of% @Nat.sub_self:=@Nat.sub_self
theorem qG:type_of% @Int.le_refl:=@Int.le_refl
theorem qH:type_of% @List.getElem?_set_self.{0}:=@List.getElem?_set_self.{0}
theorem qI:type_of% @Nat.pow_le_pow_right:=@Nat.pow_le_pow_right
theorem ru:type_of% @Bool.and_self:=@Bool.and_self
theorem rA:type_of% @List.getElem?_append.{0}:=@List.getElem?_append.{0}
theorem rB:type_of% @List.getElem?_take.{0}:=@List.getElem?_take.{0}
theorem rC:type_of% @Nat.eq_of_beq_eq_true:=@Nat.eq_of_beq_eq_true
theorem rD:type_of% @Nat.one_mul:=@Nat.one_mul
theorem rE:type_of% @Nat.succ_mul:=@Nat.succ_mul
theorem sj:type_of% @List.map_map.{0,0,0}:=@List.map_map.{0,0,0}
theorem sk:type_of% @List.map_nil.{0,0}:=@List.map_nil.{0,0}
theorem so:type_of% @Nat.lt_of_lt_of_le:=@Nat.lt_of_lt_of_le
theorem sq:type_of% @Nat.lt_or_ge:=@Nat.lt_or_ge
theorem sr:type_of% @Nat.pow_add:=@Nat.pow_add
theorem sS:type_of% @of_decide_eq_true:=@of_decide_eq_true
theorem s6:type_of% @Array.all_eq_true_iff_forall_mem.{0}:=@Array.all_eq_true_iff_forall_mem.{0}
theorem s7:type_of% @Bool.eq_false_iff:=@Bool.eq_false_iff
theorem s8:type_of% @Classical.byContradiction:=@Classical.byContradiction
theorem ta:type_of% @Int.natCast_mul:=@Int.natCast_mul
theorem tb:type_of% @Int.natCast_nonneg:=@Int.natCast_nonneg
theorem td:type_of% @List.getElem?_append_right.{0}:=@List.getElem?_append_right.{0}
theorem te:type_of% @List.getElem?_drop.{0}:=@List.getElem?_drop.{0}
theorem tf:type_of% @List.getElem_map.{0,0}:=@List.getElem_map.{0,0}
theorem tg:type_of% @List.set_append_right.{0}:=@List.set_append_right.{0}
theorem th:type_of% @Nat.add_comm:=@Nat.add_comm
theorem ti:type_of% @Nat.mul_le_mul:=@Nat.mul_le_mul
theorem uu:type_of% @Bool.false_or:=@Bool.false_or
theorem uA:type_of% @List.map_eq_nil_iff.{0,0}:=@List.map_eq_nil_iff.{0,0}
theorem uC:type_of% @List.mem_of_mem_take.{0}:=@List.mem_of_mem_take.{0}
theorem uD:type_of% @List.nodup_cons.{0}:=@List.nodup_cons.{0}
theorem uH:type_of% @beq_iff_eq.{0}:=@beq_iff_eq.{0}
theorem vO:type_of% @List.flatMap_cons.{0,0}:=@List.flatMap_cons.{0,0}
theorem vP:type_of% @List.foldl_cons.{0,0}:=@List.foldl_cons.{0,0}
theorem vQ:type_of% @List.getElem?_eq_some_iff.{0}:=@List.getElem?_eq_some_iff.{0}
theorem vR:type_of% @List.length_replicate.{0}:=@List.length_replicate.{0}
theorem vS:type_of% @List.length_singleton.{0}:=@List.length_singleton.{0}
theorem vU:type_of% @List.mem_iff_getElem.{0}:=@List.mem_iff_getElem.{0}
theorem vV:type_of% @List.mem_range:=@List.mem_range
theorem vW:type_of% @List.ne_nil_of_length_pos.{0}:=@List.ne_nil_of_length_pos.{0}
theorem vZ:type_of% @Nat.div_lt_iff_lt_mul:=@Nat.div_lt_iff_lt_mul
theorem wa:type_of% @Nat.gcd_comm:=@Nat.gcd_comm
theorem wb:type_of% @Nat.two_pow_pos:=@Nat.two_pow_pos
theorem wu:type_of% @decide_eq_true_iff:=@decide_eq_true_iff
theorem xP:type_of% @Nat.div_add_mod:=@Nat.div_add_mod
theorem xQ:type_of% @Nat.le_of_not_lt:=@Nat.le_of_not_lt
theorem xR:type_of% @Nat.lt_irrefl:=@Nat.lt_irrefl
theorem zm:type_of% @BitVec.toNat_ofInt:=@BitVec.toNat_ofInt
theorem zn:type_of% @Bool.and_false:=@Bool.and_false
theorem zp:type_of% @Bool.not_eq_true':=@Bool.not_eq_true'
theorem zH:type_of% @List.getD_cons_succ.{0}:=@List.getD_cons_succ.{0}
theorem zI:type_of% @List.length_pos_iff.{0}:=@List.length_pos_iff.{0}
theorem zJ:type_of% @List.mem_append_left.{0}:=@List.mem_append_left.{0}
theorem zK:type_of% @List.not_mem_nil.{0}:=@List.not_mem_nil.{0}
theorem zL:type_of% @List.replicate_succ.{0}:=@List.replicate_succ.{0}
theorem zM:type_of% @Nat.zero_mul:=@Nat.zero_mul
theorem BC:type_of% @Array.size_append.{0}:=@Array.size_append.{0}
theorem BE:type_of% @Bool.or_eq_true:=@Bool.or_eq_true
theorem BX:type_of% @List.append_of_mem.{0}:=@List.append_of_mem.{0}
theorem BY:type_of% @List.getElem?_concat_length.{0}:=@List.getElem?_concat_length.{0}
theorem BZ:type_of% @List.getElem?_replicate.{0}:=@List.getElem?_replicate.{0}
theorem B0:type_of% @List.getElem?_toArray.{0}:=@List.getElem?_toArray.{0}
theorem B1:type_of% @List.pairwise_cons.{0}:=@List.pairwise_cons.{0}
theorem B2:type_of% @List.set_set.{0}:=@List.set_set.{0}
theorem B3:type_of% @Nat.div_le_self:=@Nat.div_le_self
theorem B4:type_of% @Nat.le_max_left:=@Nat.le_max_left
theorem DC:type_of% @Array.getElem?_eq_getElem.{0}:=@Array.getElem?_eq_getElem.{0}
theorem DD:type_of% @Array.getElem?_eq_none.{0}:=@Array.getElem?_eq_none.{0}
theorem Eb:type_of% @List.Pairwise.sublist.{0}:=@List.Pairwise.sublist.{0}
theorem Ec:type_of% @List.Perm.append_left.{0}:=@List.Perm.append_left.{0}
theorem Ed:type_of% @List.length_zip.{0,0}:=@List.length_zip.{0,0}
theorem Ee:type_of% @List.set_eq_take_append_cons_drop.{0}:=@List.set_eq_take_append_cons_drop.{0}
theorem Ef:type_of% @Nat.le_max_right:=@Nat.le_max_right
theorem Eg:type_of% @Nat.min_eq_left:=@Nat.min_eq_left
theorem Ej:type_of% @Option.bind_assoc.{0,0,0}:=@Option.bind_assoc.{0,0,0}
theorem G2:type_of% @Array.getElem?_setIfInBounds.{0}:=@Array.getElem?_setIfInBounds.{0}
theorem Iy:type_of% @Nat.div_mul_le_self:=@Nat.div_mul_le_self
theorem Iz:type_of% @Nat.le_div_iff_mul_le:=@Nat.le_div_iff_mul_le
theorem IB:type_of% @Nat.lt_of_mul_lt_mul_right:=@Nat.lt_of_mul_lt_mul_right
theorem ae{α β : Type}(a : α)(f : α -> Option β) : (some a).bind f = f a := rfl
theorem aa{p:Prop}(h:p:=by omega):p:=h
theorem aA{p:Prop}(h:p:=by simp):p:=h
theorem au{p:Prop}(h:p:=by kernel_rfl):p:=h
namespace Go.Ab
inductive Own where
 | no
 | full
 | tok (nm e:Nat)
abbrev Sh:=Option Nat
def Sh.size:Sh->Nat
 | none=>1
 | some n=>n
inductive AV where
 | any
 | int (k:IntKind) (n:Int)
 | bool (b:Bool)
 | str (s:ByteArray)
 | lst (sh:Sh) (z:Bool) (o:Own) (es:List AV)
 | arr (nm off n:Nat) (sh:Sh)
 | ptr (nm off:Nat)
 | vptr (cs:List AV)
 | nilp
 | nilf
 | nile
 | nilm
 | agg (cs:List AV)
 | tup (vs:List AV)
 | fn (f:Nat) (caps:List AV)
 | mref (nm:Nat)
 | vec (n:Nat) (sh:Sh) (cs:List AV)
def AV.cells:AV->List AV
 | .agg cs=>cs
 | v=>[v]
inductive KK where
 | str
 | int (k:IntKind)
 | arr (n:Nat) (k:IntKind)
 deriving DecidableEq
inductive Ent where
 | obj (bx:Bool) (cs:List AV)
 | tok (n sz:Nat)
 | resv
 | mp (kk:KK) (es:List (AV×AV))
abbrev ai:=List (Option Ent)
def ai.get(m:ai)(nm:Nat):Option Ent:=(m[nm]?).bind id
def ai.obj?(m:ai)(nm:Nat):Option (Bool×List AV):=match m.get nm with
 | some (.obj bx cs)=>some (bx,cs)
 | _=>none
structure St where
 tmps:List AV
 mem:ai
inductive Ex where
 | normal
 | exit (id:Nat)
 | ret
structure Masks where
 head:List Bool
 out:List Bool
 ret:List Bool
structure Cfg where
 P:Program
 inl:Nat->Nat->Bool
 arrm:Nat->Bool
 tokm:Nat->Bool
 two:Nat->Nat->List (Nat×Nat)
 thaw:Nat->Nat->Bool
 frzc:Nat->Nat->Bool
 seqm:Nat->Nat->Bool
 late:Nat->Nat->List (Nat×List Nat)
 ben:Nat->Bool
 mask:Nat->Option Nat->Masks
 ord:Nat->Nat->Option (List Nat)
 ahd:Nat->Nat->List Nat
 lib:Nat->Option (List AV->Option AV)
 libm:Nat->Option (List AV->ai->Option (AV×ai))
def jG(P:Program)(t:Nat):Option Sh:=
 match P.underlying t,P.info? t with
 | some (.struct _),some i|some (.array _ _),some i=>some (some i.size)
 | some _,some i=>if i.size=1 then some none else none
 | _,_=>none
def Cm(P:Program)(t:Nat):Option Nat:=
 match P.underlying t with
 | some (.slice e)=>some e
 | _=>none
def yh(P:Program)(t f:Nat):Option (Nat×Sh):=
 match P.underlying t with
 | some (.struct fs)=>
  match fs[f]? with
  | some fd=>match jG P fd.type with
   | some sh=>if sh.size=0 then none else some (fd.offset,sh)
   | none=>none
  | none=>none
 | _=>none
def Bh(P:Program)(t f:Nat):Option (Nat×Sh):=match P.underlying t with
 | some (.array _ e)=>match jG P e with
  | some sh=>if sh.size=0 then none else some (f*sh.size,sh)
  | none=>none
 | _=>yh P t f
def qo:Value->AV
 | .int k n=>.int k n
 | .bool b=>.bool b
 | .string s=>.str s
 | .slice none 0 0=>.lst none true .full []
 | .pointer none=>.nilp
 | .nilFunc=>.nilf
 | .nilIface=>.nile
 | .map none=>.nilm
 | _=>.any
def iN:Value->AV
 | .agg cs=>.agg (cs.toList.map qo)
 | v=>qo v
def sY(P:Program)(t:Nat):Option AV:=
 match P.info? t with
 | some i=>i.zero.map iN
 | none=>none
def qp(P:Program)(t:Nat):Nat:=max 1 (((P.info? t).map (·.bytes)).getD 0)
def aB{R:Type}(v:AV)(x y:Option R):Option R:=match v with
 | .bool b=>match b with
  | true=>x
  | false=>y
 | _=>none
def sC(op:BinOp)(k:IntKind)(a b:Int):Option AV:=match op with
 | .add=>some (.int k (k.wrap (a+b)))
 | .sub=>some (.int k (k.wrap (a-b)))
 | .mul=>some (.int k (k.wrap (a*b)))
 | .quo=>if b=0 then none else some (.int k (k.wrap (a.tdiv b)))
 | .rem=>if b=0 then none else some (.int k (a.tmod b))
 | .and=>some (.int k (k.wrap (BitVec.ofInt k.bits a &&& BitVec.ofInt k.bits b).toNat))
 | .or=>some (.int k (k.wrap (BitVec.ofInt k.bits a ||| BitVec.ofInt k.bits b).toNat))
 | .xor=>some (.int k (k.wrap (BitVec.ofInt k.bits a ^^^ BitVec.ofInt k.bits b).toNat))
 | .andNot=>some (.int k (k.wrap (BitVec.ofInt k.bits a &&& ~~~ BitVec.ofInt k.bits b).toNat))
 | .eql=>some (.bool (a==b))
 | .neq=>some (.bool (a != b))
 | .lss=>some (.bool (decide (a<b)))
 | .leq=>some (.bool (decide (a<=b)))
 | .gtr=>some (.bool (decide (a>b)))
 | .geq=>some (.bool (decide (a≥b)))
 | _=>none
def ug(left:Bool)(k:IntKind)(a b:Int):Option AV:=
 if b<0 then none
 else if left then some (.int k (k.wrap (a*2^(min b.toNat k.bits)))) else some (.int k (a.fdiv (2^(min b.toNat k.bits))))
inductive TK where
 | sl
 | bl
 | pt
 | fu
 | other
def Ds(P:Program)(t:Nat):TK:=match P.underlying t with
 | some (.slice _)=>.sl
 | some .bool=>.bl
 | some (.pointer _)=>.pt
 | some (.func ..)=>.fu
 | _=>.other
def ZW:AV->Option Bool
 | .nilp=>some true
 | .ptr .. | .vptr _=>some false
 | _=>none
def ZV:AV->Option Bool
 | .nilf=>some true
 | .fn ..=>some false
 | _=>none
def JN(op:BinOp)(b:Bool):Option AV:=match op with
 | .eql=>some (.bool b)
 | .neq=>some (.bool (!b))
 | _=>none
def Xc(op:BinOp)(a b:ByteArray):Option AV:=match op with
 | .add=>if a.size+b.size<=9223372036854775807 then some (.str (a++b)) else none
 | .eql=>some (.bool (a.toList==b.toList))
 | .neq=>some (.bool (!(a.toList==b.toList)))
 | _=>none
def ag(tk:TK)(op:BinOp)(x y:AV):Option AV:=match tk,x,y with
 | _,.int k a,.int k' b=>match op with
  | .shl=>ug true k a b
  | .shr=>ug false k a b
  | op=>if k=k' then sC op k a b else none
 | _,.str a,.str b=>Xc op a b
 | .bl,.bool a,.bool b=>match op with
  | .eql=>some (.bool (a==b))
  | .neq=>some (.bool (!(a==b)))
  | _=>none
 | .sl,.lst _ z _ _,.lst _ true _ []=>match op with
  | .eql=>some (.bool z)
  | .neq=>some (.bool (!z))
  | _=>none
 | .pt,x,.nilp=>(ZW x).bind (JN op)
 | .fu,x,.nilf=>(ZV x).bind (JN op)
 | _,_,_=>none
def gH(op:UnOp)(x:AV):Option AV:=match op,x with
 | .not,.bool b=>some (.bool !b)
 | .neg,.int k n=>some (.int k (k.wrap (0-n)))
 | _,_=>none
def Rr(c a b:AV):Option AV:=match c with
 | .bool c=>some (if c then a else b)
 | _=>none
def a8(t:AV)(i:Nat):Option AV:=match t with
 | .tup vs=>vs[i]?
 | _=>none
def aM(st:Bool)(x:AV):Option AV:=match st,x with
 | false,.lst _ _ _ es=>some (.int .i64 es.length)
 | false,.arr _ _ n _=>some (.int .i64 n)
 | false,.vec n _ _=>some (.int .i64 n)
 | true,.str s=>some (.int .i64 s.size)
 | _,_=>none
def oV(mx:Bool)(x y:AV):Option AV:=match x,y with
 | .int k a,.int k' b=>if k=k' then some (.int k (if mx then (if b>a then b else a) else (if b<a then b else a))) else none
 | _,_=>none
def bE(k:IntKind)(x:AV):Option AV:=match x with
 | .int _ n=>some (.int k (k.wrap n))
 | _=>none
def kH(sh:Sh)(cs:List AV)(off:Nat):Option AV:=match sh with
 | none=>cs[off]?
 | some n=>if off+n<=cs.length then some (.agg ((cs.drop off).take n)) else none
def aj(sh:Sh)(m:ai)(x:AV):Option AV:=match x with
 | .vptr cs=>kH sh cs 0
 | .ptr nm off=>(m.obj? nm).bind fun o=>kH sh o.2 off
 | _=>none
def fG:AV->Bool
 | .any | .agg _ | .tup _ | .vec ..=>false
 | _=>true
def dJ(sh:Sh)(v:AV):Bool:=match sh with
 | none=>fG v
 | some n=>match v with
  | .agg cs=>cs.length==n&&cs.all fG
  | _=>false
def b9(cs:List AV)(off:Nat)(vs:List AV):List AV:=cs.take off++vs++cs.drop (off+vs.length)
def aP(sh:Sh)(m:ai)(x v:AV):Option ai:=match x with
 | .ptr nm off=>(m.obj? nm).bind fun o=>
  if off+sh.size<=o.2.length then if dJ sh v then some (m.set nm (some (.obj o.1 (b9 o.2 off v.cells)))) else none else none
 | _=>none
def jb(x:AV):Option AV:=match x with
 | .vptr cs=>some (.vptr cs)
 | .ptr nm off=>some (.ptr nm off)
 | .fn f cs=>some (.fn f cs)
 | _=>none
def kI(x:AV):Option (Nat×List AV):=match x with
 | .fn f cs=>some (f,cs)
 | _=>none
def aL(off:Nat)(x:AV):Option AV:=match x with
 | .vptr cs=>if off<cs.length then some (.vptr (cs.drop off)) else none
 | .ptr nm o=>some (.ptr nm (o+off))
 | _=>none
def Pk(off:Nat)(sh:Sh)(x:AV):Option AV:=match x with
 | .agg cs=>kH sh cs off
 | _=>none
def aI(sh:Sh)(x i:AV):Option AV:=match i with
 | .int _ i=>match x with
  | .lst sh' _ _ es=>if sh'=sh then if 0<=i then (es[i.toNat]?).map fun e=>.vptr e.cells else none else none
  | .arr nm off n sh'=>if sh'=sh then if 0<=i/\i<n then some (.ptr nm (off+i.toNat*sh.size)) else none else none
  | .vec n sh' cs=>if sh'=sh then if 0<=i/\i<n then some (.vptr ((cs.drop (i.toNat*sh.size)).take sh.size)) else none else none
  | _=>none
 | _=>none
def OT(len:Nat)(sh:Sh)(x i:AV):Option AV:=match i with
 | .int _ i=>if 0<=i/\i<len then aL (i.toNat*sh.size) x else none
 | _=>none
def tY(x i:AV):Option AV:=match x,i with
 | .str s,.int _ i=>if 0<=i then (s[i.toNat]?).map fun b=>.int .u8 b.toNat else none
 | _,_=>none
def je(y:Nat)(x:Option AV)(dflt:Nat):Option Nat:=match x with
 | none=>some dflt
 | some (.int _ i)=>if 0<=i/\i<=y then some i.toNat else none
 | _=>none
def o0(x:AV)(lo hi mx:Option AV):Option AV:=match x with
 | .lst sh z _ es=>match mx with
  | none=>(je es.length hi es.length).bind fun h=>(je h lo 0).bind fun l=>some (.lst sh z .no ((es.take h).drop l))
  | some mv=>match hi with
   | none=>none
   | some hv=>(je es.length (some mv) 0).bind fun m=>(je m (some hv) 0).bind fun h=>(je h lo 0).bind fun l=>
    if h=m then some (.lst sh z .full ((es.take h).drop l)) else some (.lst sh z .no ((es.take h).drop l))
 | .arr nm off n sh=>match mx with
  | none=>(je n hi n).bind fun h=>(je h lo 0).bind fun l=>some (.arr nm (off+l*sh.size) (h-l) sh)
  | some _=>none
 | .str s=>match mx with
  | none=>(je s.size hi s.size).bind fun h=>(je h lo 0).bind fun l=>some (.str (s.extract l h))
  | some _=>none
 | _=>none
def gX(sh:Sh)(x:AV)(lo hi mx:Option AV):Option AV:=match x with
 | .lst sh' z o es=>if sh'=sh\/es=[] then o0 (.lst sh' z o es) lo hi mx else none
 | .arr nm off n sh'=>if sh'=sh then o0 (.arr nm off n sh') lo hi mx else none
 | _=>none
def qcn(x:AV)(lo hi mx:Option AV):Option AV:=match x with
 | .str s=>o0 (.str s) lo hi mx
 | _=>none
mutual
def pl:AV->Bool
 | .int .. | .bool _ | .str _ | .nilp | .nilf | .nile | .nilm=>true
 | .lst _ _ o _=>match o with
  | .tok ..=>false
  | _=>true
 | .agg cs=>oE cs
 | _=>false
def oE:List AV->Bool
 | []=>true
 | c::cs=>pl c&&oE cs
end
mutual
def cl:AV->Bool
 | .lst _ _ o _=>match o with
  | .tok ..=>false
  | _=>true
 | .arr .. | .ptr .. | .mref _ | .vec ..=>false
 | .vptr cs | .agg cs | .tup cs | .fn _ cs=>wm cs
 | _=>true
def wm:List AV->Bool
 | []=>true
 | c::cs=>cl c&&wm cs
end
mutual
def jo:AV->Bool
 | .vptr _=>false
 | .agg cs | .tup cs | .fn _ cs=>nr cs
 | _=>true
def nr:List AV->Bool
 | []=>true
 | c::cs=>jo c&&nr cs
end
def rl:AV->AV
 | .lst sh z (.tok ..) es=>.lst sh z .no es
 | v=>v
def mP:AV->AV
 | .agg cs=>.agg (cs.map rl)
 | v=>rl v
def rL(n:Nat):Nat->List AV->List (List AV)
 | 0,_=>[]
 | k+1,cs=>cs.take n::rL n k (cs.drop n)
def oQ(sh:Sh)(k:Nat)(cs:List AV):List AV:=match sh with
 | none=>cs.take k
 | some n=>(rL n k cs).map .agg
def fU(f:AV->Option (AV×List Nat)):List AV->Option (List AV×List Nat)
 | []=>some ([],[])
 | c::cs=>(f c).bind fun r=>(fU f cs).map fun s=>(r.1::s.1,r.2++s.2)
def cq(m:ai):Nat->AV->Option (AV×List Nat)
 | 0,_=>none
 | k+1,v=>match v with
  | .lst sh z o es=>some (match o with
   | .tok ..=>.lst sh z .no es
   | o=>.lst sh z o es,[])
  | .arr nm off n sh=>(m.obj? nm).bind fun o=>
   if !o.1&&decide (off+n*sh.size<=o.2.length) then (fU (cq m k) ((o.2.drop off).take (n*sh.size))).bind fun r=>
    if r.1.all fG&&oE r.1 then some (.lst sh false .no (oQ sh n r.1),nm::r.2) else none
   else none
  | .ptr nm off=>(m.obj? nm).bind fun o=>if o.1 then (fU (cq m k) (o.2.drop off)).map fun r=>(.vptr r.1,r.2) else none
  | .agg cs=>(fU (cq m k) cs).map fun r=>(.agg r.1,r.2)
  | .tup cs=>(fU (cq m k) cs).map fun r=>(.tup r.1,r.2)
  | .fn f cs=>(fU (cq m k) cs).map fun r=>(.fn f r.1,r.2)
  | .vptr cs=>(fU (cq m k) cs).map fun r=>(.vptr r.1,r.2)
  | .mref _=>some (.any,[])
  | .vec ..=>none
  | v=>some (v,[])
def kX:Nat:=9
def kB(m:ai)(l:List Nat):ai:=l.foldl (fun m nm=>m.set nm none) m
def QH:AV->Bool
 | .int ..=>true
 | _=>false
def nW:AV->Bool
 | .bool _=>true
 | .lst sh _ o ds=>match sh with
  | some _=>false
  | none=>match o with
   | .tok ..=>false
   | _=>ds.all QH
 | _=>false
def Sd(base:Nat)(m:ai)(v:AV):Option (AV×ai):=match v with
 | .agg [.int k a,.int k' b,.lst sh z o es]=>match o with
  | .tok nm _=>match sh with
   | none=>none
   | some n=>match m.get nm with
    | some (.tok c sz)=>if c=es.length/\sz=n/\(es.flatMap AV.cells).all nW=true then some (.agg [.int k a,.int k' b,.arr base 0 es.length (some n)],[some (.obj false (es.flatMap AV.cells))]) else none
    | _=>none
  | _=>match es with
   | []=>match z with
    | true=>some (.agg [.int k a,.int k' b,.lst sh true o []],[])
    | false=>none
   | _::_=>none
 | _=>none
def oO(P:Program)(e:Nat)(sh:Sh):Bool:=match P.info? e with
 | some i=>i.size==sh.size&&decide (0<i.size)&&(match i.zero with|some z=>z.cells.size==i.size&&(match sh,z with|none,.agg _=>false|_,_=>true)|none=>false)
 | none=>false
def sZ(sh:Sh)(z:AV)(n:Nat):List AV:=match sh with
 | none=>List.replicate n z
 | some _=>(List.replicate n z.cells).flatten
def az(d:Option Nat)(m:ai)(e:Ent):Nat×ai:=match d with
 | none=>(m.length,m++[some e])
 | some s=>(s,m.set s (some e))
def ft:Nat:=140737488355328
def Gu(m:ai)(sh:Sh):AV->Option (Nat×List AV)
 | .lst shy _ _ ys=>if shy=sh/\0<ys.length then some (ys.length,ys.flatMap AV.cells) else none
 | .arr nm off n shy=>(m.obj? nm).bind fun o=>if shy=sh/\0<n/\off+n*sh.size<=o.2.length/\((o.2.drop off).take (n*sh.size)).all fG=true then some (n,(o.2.drop off).take (n*sh.size)) else none
 | .vec n shy cs=>if shy=sh/\0<n/\cs.length=n*sh.size then some (n,cs) else none
 | _=>none
def Dh(m:ai)(sh:Sh):AV->Option (Nat×List AV×ai)
 | .lst shx _ o es=>match o with
  | .full=>if shx=sh\/es=[] then some (es.length,es.flatMap AV.cells,m) else none
  | _=>none
 | .arr nm off n shx=>(m.obj? nm).bind fun o=>if shx=sh/\off=0/\0<n/\o.1=false/\o.2.length=n*sh.size then some (n,o.2,m.set nm none) else none
 | _=>none
def zZ(d:Option Nat)(arrm:Bool)(sh:Sh)(bytes:Nat)(m:ai)(x y:AV):Option (AV×ai):=match d,arrm with
 | none,true=>(Gu m sh y).bind fun q=>(Dh m sh x).bind fun p=>
  if (p.1+q.1)*bytes<=ft then some (.arr p.2.2.length 0 (p.1+q.1) sh,p.2.2++[some (.obj false (p.2.1++q.2))]) else none
 | _,_=>none
def bL(d:Option Nat)(arrm:Bool)(e:Nat)(sh:Sh)(bytes:Nat)(m:ai)(x y:AV):Option (AV×ai):=match x,y with
 | .lst shx z o es,.lst shy _ _ ys=>match ys with
  | []=>some (.lst shx z o es,m)
  | y::ys=>
   if shy=sh then
    if (es.length+(y::ys).length)*bytes<=ft then
     match o with
     | .no=>none
     | .full=>
      if shx=sh\/es=[] then
       if arrm then some (.arr (az d m .resv).1 0 (es.length+(y::ys).length) sh,(az d m (.obj false ((es++y::ys).flatMap AV.cells))).2)
       else some (.lst sh false (.tok (az d m .resv).1 e) (es++y::ys),(az d m (.tok (es.length+(y::ys).length) sh.size)).2)
      else none
     | .tok nm e'=>
      if shx=sh/\e'=e/\arrm=false then match m.get nm with
       | some (.tok k sz)=>if k=es.length/\sz=sh.size then some (.lst sh false (.tok nm e) (es++y::ys),m.set nm (some (.tok (es.length+(y::ys).length) sh.size))) else none
       | _=>none
      else none
    else none
   else none
 | x,y=>zZ d arrm sh bytes m x y
def dp(d:Option Nat)(sh:Sh)(m:ai)(v:AV):Option (AV×ai):=if dJ sh v then some (.ptr (az d m .resv).1 0,(az d m (.obj true v.cells)).2) else none
def df(sh:Sh)(vs:List AV):Option AV:=if vs.all (fun v=>dJ sh (mP v)&&pl (mP v)) then some (.lst sh false .full (vs.map mP)) else if vs.all (fun v=>dJ sh (mP v)) then some (.vec vs.length sh ((vs.map mP).flatMap AV.cells)) else none
def E3:List AV->List (Nat×Sh×AV)->Option (List AV)
 | cs,[]=>some cs
 | cs,(off,sh,v)::r=>if dJ sh v then if off+sh.size<=cs.length then E3 (b9 cs off v.cells) r else none else none
def fR(zero:AV)(parts:List (Nat×Sh×AV)):Option AV:=match zero with
 | .agg cs=>(E3 cs parts).map .agg
 | _=>none
def jy(d:Option Nat)(e:Nat)(sh:Sh)(z:AV)(bytes:Nat)(m:ai)(l c:AV):Option (AV×ai):=match l,c with
 | .int _ l,.int _ c=>
  if 0<=l/\l<=c/\c*bytes<=281474976710656/\c<=9223372036854775807 then
   if l=c then some (.arr (az d m .resv).1 0 l.toNat sh,(az d m (.obj false (sZ sh z l.toNat))).2)
   else if l=0 then some (.lst sh false (.tok (az d m .resv).1 e) [],(az d m (.tok 0 sh.size)).2) else none
  else none
 | _,_=>none
def atomV:AV->Option Value
 | .int k n=>some (.int k n)
 | .bool b=>some (.bool b)
 | .str s=>some (.string s)
 | _=>none
def tp:List AV->Option (List Value)
 | []=>some []
 | x::xs=>(atomV x).bind fun v=>(tp xs).map fun vs=>v::vs
def flatV:AV->Option Value
 | .agg cs=>(tp cs).map fun vs=>.agg vs.toArray
 | x=>atomV x
def GM(k:IntKind)(n:Int):Bool:=decide (k.min<=n)&&decide (n<=k.max)
def oU(k:IntKind):AV->Bool
 | .int k' n=>decide (k'=k)&&GM k n
 | _=>false
def ku:KK->AV->Bool
 | .str,.str s=>decide (s.size<=maxLen)
 | .int k,x=>oU k x
 | .arr n k,.agg cs=>cs.length==n&&cs.all (oU k)
 | _,_=>false
def wi:AV->AV->Bool
 | .int k n,.int k' n'=>decide (k=k')&&decide (n=n')
 | .str s,.str t=>decide (s=t)
 | _,_=>false
def Ce:List AV->List AV->Bool
 | [],[]=>true
 | x::xs,y::ys=>wi x y&&Ce xs ys
 | _,_=>false
def jE:AV->AV->Bool
 | .agg cs,.agg ds=>Ce cs ds
 | x,y=>wi x y
def yN(P:Program)(k:Nat):Option KK:=match P.underlying k with
 | some .string=>some .str
 | some (.int q)=>some (.int q)
 | some (.array n e)=>match P.underlying e with
  | some (.int q)=>if P.tiled 2 k&&P.keyTypeAt 2 k&&P.keyType k&&(P.cellsOf e==1)&&decide (0<P.types.size) then some (.arr n q) else none
  | _=>none
 | _=>none
def xf(P:Program)(t:Nat):Option (KK×Nat):=match P.underlying t with
 | some (.map k e)=>(yN P k).map fun kk=>(kk,e)
 | _=>none
def nq(m:ai)(kk:KK)(x:AV):Option (Nat×List (AV×AV)):=match x with
 | .mref nm=>match m.get nm with
  | some (.mp kk' es)=>if kk'=kk then some (nm,es) else none
  | _=>none
 | _=>none
def C0(es:List (AV×AV))(key z:AV):AV×Bool:=match es.find? (fun p=>jE p.1 key) with
 | some p=>(p.2,true)
 | none=>(z,false)
def p6(kk:KK)(z:AV)(m:ai)(x key:AV):Option (AV×Bool):=(nq m kk x).bind fun q=>if ku kk key=true then some (C0 q.2 key z) else none
def oY(es:List (AV×AV))(key v:AV):List (AV×AV):=match es.any (fun p=>jE p.1 key) with
 | true=>es.map fun p=>if jE p.1 key then (p.1,v) else p
 | false=>es++[(key,v)]
def qr3(_:AV):Bool:=true
def lY(kk:KK)(m:ai)(x key v:AV):Option ai:=(nq m kk x).bind fun q=>if ku kk key=true/\qr3 v=true/\q.2.length<maxLen then some (m.set q.1 (some (.mp kk (oY q.2 key v)))) else none
def A5(d:Option Nat)(sh:Sh)(z:AV)(bytes:Nat)(m:ai)(l c:AV):Option (AV×ai):=match d,sh,l,c with
 | none,none,.int _ l,.int _ c=>
  if (0<=l/\l=c/\c*bytes<=281474976710656/\c<=9223372036854775807)/\fG z=true/\pl z=true then some (.lst none false .full (List.replicate l.toNat z),m) else none
 | _,_,_,_=>none
def R5(P:Program)(t:Nat):Bool:=match P.underlying t with
 | some (.struct fs)=>fs.all fun f=>(P.info? f.type).isSome
 | some (.array _ e)=>(P.info? e).isSome
 | _=>false
section
variable {R:Type} (C:Cfg) (fid:Nat) (callP:Nat->List AV->Option AV) (callI:Nat->List AV->ai->Option (AV×ai)) (d:Option Nat)
def aF(d:Option Nat)(m:ai)(g:Nat)(vs:List AV):Option (AV×ai):=
 (fU (cq m kX) vs).bind fun r=>if d.isSome && !r.2.isEmpty then none else (callP g r.1).map fun v=>(v,kB m r.2)
def LB(m:ai)(g:Nat)(vs:List AV):Option (AV×ai):=
 (fU (cq m kX) vs).bind fun r=>(callI g r.1 []).bind fun q=>(Sd m.length q.2 q.1).map fun t=>(t.1,kB m r.2++t.2)
def Cp(m:ai)(x:AV):Option (AV×List Nat):=match x with
 | .arr nm off n sh=>cq m kX (.arr nm off n sh)
 | x=>some (x,[])
def An(m:ai)(g:Nat)(vs:List AV):Option (AV×ai):=(fU (Cp m) vs).bind fun r=>callI g r.1 (kB m r.2)
def jZ(g:Nat)(vs:List AV)(m:ai)(K:AV->ai->Option R):Option R:=
 match C.libm g with
 | some h=>match d with
  | none=>(h vs m).bind fun r=>K r.1 r.2
  | some _=>none
 | none=>match C.lib g with
 | some h=>(h vs).bind fun v=>K v m
 | none=>match C.inl fid g with
  | true=>match d with
   | none=>(match C.frzc fid g with|true=>An callI m g vs|false=>match C.thaw fid g with|true=>LB callI m g vs|false=>callI g vs m).bind fun r=>K r.1 r.2
   | some _=>none
  | false=>(aF callP d m g vs).bind fun r=>K r.1 r.2
def Aa(b:Builtin)(ts:Array TypeId)(vs:List AV)(m:ai)(K:AV->ai->Option R):Option R:=
 match b,vs with
 | .len,[x]=>match (ts[0]?).bind C.P.underlying with
  | some (.slice _)=>(aM false x).bind fun v=>K v m
  | some .string=>(aM true x).bind fun v=>K v m
  | _=>none
 | .max,[x,y]=>(oV true x y).bind fun v=>K v m
 | .min,[x,y]=>(oV false x y).bind fun v=>K v m
 | .append,[x,y]=>match ts[0]?,ts[1]? with
  | some t,some t'=>if t=t' then
    match Cm C.P t with
    | some e=>match jG C.P e with
     | some sh=>if oO C.P e sh then (bL d (C.arrm fid) e sh (qp C.P e) m x y).bind fun r=>K r.1 r.2 else none
     | none=>none
    | none=>none
   else none
  | _,_=>none
 | _,_=>none
def lD(o:Oper)(ρ:Operand->AV)(m:ai)(K:AV->ai->Option R):Option R:=
 match o.op with
 | .move x=>K (ρ x) m
 | .assign x=>K (ρ x) m
 | .pick c a b=>(Rr (ρ c) (ρ a) (ρ b)).bind fun v=>K v m
 | .alloc t=>match sY C.P t with
  | some z=>K (.ptr (az d m .resv).1 0) (az d m (.obj true z.cells)).2
  | none=>none
 | .box t x=>match jG C.P t with
  | some sh=>(dp d sh m (ρ x)).bind fun r=>K r.1 r.2
  | none=>none
 | .build t ps=>if R5 C.P t then match sY C.P t,ps.toList.mapM (fun p=>(Bh C.P t p.1).map fun f=>(f.1,f.2,ρ p.2)) with
  | some z,some l=>(fR z l).bind fun v=>K v m
  | _,_=>none else none
 | .buildSlice t n ps=>match Cm C.P t with
  | some e=>match jG C.P e with
   | some sh=>if oO C.P e sh&&(ps.toList.map (·.1)==List.range n)&&decide (n*sh.size<=16777216) then (df sh (ps.toList.map fun p=>ρ p.2)).bind fun v=>K v m else none
   | none=>none
  | none=>none
 | .load t a=>match jG C.P t with
  | some sh=>(aj sh m (ρ a)).bind fun v=>K v m
  | none=>none
 | .store t a x=>match jG C.P t with
  | some sh=>(aP sh m (ρ a) (ρ x)).bind fun m'=>K .any m'
  | none=>none
 | .nilCheck x=>(jb (ρ x)).bind fun v=>K v m
 | .binOp op t x y _=>(ag (Ds C.P t) op (ρ x) (ρ y)).bind fun v=>K v m
 | .unOp op _ x=>(gH op (ρ x)).bind fun v=>K v m
 | .convert src dst x=>match C.P.underlying dst with
  | some (.int k)=>if (C.P.underlying src).isSome then (bE k (ρ x)).bind fun v=>K v m else none
  | _=>none
 | .makeFunc fn fi cs=>match fn,fi.toList with
  | .func f,[]=>K (.fn f (cs.toList.map ρ)) m
  | _,_=>none
 | .makeSlice t l c=>match Cm C.P t with
  | some e=>match jG C.P e,sY C.P e with
   | some sh,some z=>if oO C.P e sh then (match C.tokm fid with|true=>A5 d sh z (qp C.P e) m (ρ l) (ρ c)|false=>jy d e sh z (qp C.P e) m (ρ l) (ρ c)).bind fun r=>K r.1 r.2 else none
   | _,_=>none
  | none=>none
 | .slice t x lo hi mx=>match C.P.underlying t with
  | some (.slice e)=>match jG C.P e with
   | some sh=>if oO C.P e sh then (gX sh (ρ x) (lo.map ρ) (hi.map ρ) (mx.map ρ)).bind fun v=>K v m else none
   | none=>none
  | some .string=>(qcn (ρ x) (lo.map ρ) (hi.map ρ) (mx.map ρ)).bind fun v=>K v m
  | _=>none
 | .fieldAddr t x f=>match yh C.P t f with
  | some (off,_)=>(aL off (ρ x)).bind fun v=>K v m
  | none=>none
 | .field t x f=>match yh C.P t f with
  | some (off,sh)=>(Pk off sh (ρ x)).bind fun v=>K v m
  | none=>none
 | .indexAddr t x i=>match C.P.underlying t with
  | some (.slice e)=>match jG C.P e with
   | some sh=>if oO C.P e sh then (aI sh (ρ x) (ρ i)).bind fun v=>K v m else none
   | none=>none
  | some (.array n e)=>match jG C.P e with
   | some sh=>if oO C.P e sh then (OT n sh (ρ x) (ρ i)).bind fun v=>K v m else none
   | none=>none
  | _=>none
 | .index t x i=>match C.P.underlying t with
  | some .string=>(tY (ρ x) (ρ i)).bind fun v=>K v m
  | _=>none
 | .extract t i=>(a8 (ρ t) i).bind fun v=>K v m
 | .call c=>match c.callee with
  | .value f=>(kI (ρ f)).bind fun gc=>jZ C fid callP callI d gc.1 (c.args.toList.map ρ++gc.2) m K
  | .builtin b=>Aa C fid d b c.argTypes (c.args.toList.map ρ) m K
  | _=>none
 | .makeMap t n=>match n,d with
  | none,none=>match xf C.P t with
   | some (kk,_)=>K (.mref (az d m .resv).1) (az d m (.mp kk [])).2
   | none=>none
  | _,_=>none
 | .lookup t x i ok=>match xf C.P t with
  | some (kk,e)=>match sY C.P e with
   | some z=>(p6 kk z m (ρ x) (ρ i)).bind fun r=>match ok with
    | true=>K (.tup [r.1,.bool r.2]) m
    | false=>K r.1 m
   | none=>none
  | none=>none
 | .mapUpdate t x i y=>match xf C.P t with
  | some (kk,_)=>(lY kk m (ρ x) (ρ i) (ρ y)).bind fun m'=>K .any m'
  | none=>none
 | .insert t x i y=>match xf C.P t with
  | some (kk,_)=>(lY kk m (ρ x) (ρ i) (ρ y)).bind fun m'=>K .any m'
  | none=>none
 | .defer c=>match c.callee with
  | .value f=>match c.args.toList with
   | []=>(kI (ρ f)).bind fun gc=>match C.ben gc.1 with
    | true=>K .any m
    | false=>none
   | _::_=>none
  | _=>none
 | _=>none
end
def ev(ts:List AV):Operand->AV
 | .tmp t=>ts.getD t .any
 | .const v=>iN v
 | .global _=>.any
 | .func f=>.fn f []
def gK(ts:List AV)(dst:Option Nat)(v:AV):List AV:=match dst with
 | some d=>ts.set d v
 | none=>ts
section
variable {R:Type} (C:Cfg) (fid:Nat) (callP:Nat->List AV->Option AV) (callI:Nat->List AV->ai->Option (AV×ai))
def ow(o:Oper):Bool:=match o.op with
 | .alloc _ | .box .. | .makeSlice ..=>true
 | .call c=>match c.callee with
  | .builtin .append=>true
  | _=>false
 | _=>false
def gd(ops:Array Oper)(i:Nat):Nat:=((ops.toList.take i).filter ow).length
def y9(ops:Array Oper)(ts:List AV)(j:Nat):Bool:=match (ops[j]?).bind (·.guard) with
 | none=>false
 | some (j',want)=>match (ops[j']?).bind (·.dst) with
  | none=>false
  | some g=>match ts.getD g .any with
   | .bool b=>match b with
    | true=>match want with
     | true=>false
     | false=>true
    | false=>want
   | .tup _=>true
   | _=>false
def nA(base:Option Nat)(ops:Array Oper):List Nat->St->(St->Option R)->Option R
 | [],st,K=>K st
 | i::l,st,K=>match ops[i]? with
  | none=>none
  | some o=>match o.guard with
   | none=>lD C fid callP callI (base.map (· + gd ops i)) o (ev st.tmps) st.mem fun v m=>nA base ops l ⟨gK st.tmps o.dst v,m⟩ K
   | some (j,want)=>match (ops[j]?).bind (·.dst) with
    | none=>none
    | some g=>
     let run (b:Bool):Option R:=lD C fid callP callI (base.map (· + gd ops i)) o (ev (st.tmps.set g (.bool b))) st.mem fun v m=>nA base ops l ⟨gK (st.tmps.set g (.bool b)) o.dst v,m⟩ K
     let skip (b:Bool):Option R:=nA base ops l ⟨gK (st.tmps.set g (.bool b)) o.dst (.tup []),st.mem⟩ K
     match y9 ops st.tmps j with
     | true=>match st.tmps.getD g .any with
      | .tup cs=>match cs with
       | []=>nA base ops l ⟨gK st.tmps o.dst (.tup []),st.mem⟩ K
       | _::_=>none
      | _=>none
     | false=>match want with
      | true=>aB (st.tmps.getD g .any) (run true) (skip false)
      | false=>aB (st.tmps.getD g .any) (skip true) (run false)
def qA:List Bool->List AV->List AV
 | _,[]=>[]
 | [],_::vs=>.any::qA [] vs
 | b::bs,v::vs=>(match b with|true=>v|false=>.any)::qA bs vs
abbrev bw(id:Nat)(K:Ex->St->Option R):Ex->St->Option R:=fun e st'=>match e with
 | .normal=>K .normal st'
 | .exit j=>match j==id with
  | true=>K .normal st'
  | false=>K (.exit j) st'
 | .ret=>K .ret st'
abbrev y6(next:St->Option R)(K:Ex->St->Option R):Ex->St->Option R:=fun e st'=>match e with
 | .normal=>next st'
 | .exit id=>K (.exit id) st'
 | .ret=>K .ret st'
def keyOf:Code->Option Nat
 | .region id _ _=>some id
 | .seq a b=>match keyOf a with
  | some k=>some k
  | none=>keyOf b
 | .cond _ a b=>match keyOf a with
  | some k=>some k
  | none=>keyOf b
 | .block _ b | .loop b | .scope b=>keyOf b
 | _=>none
inductive Cls where
 | N|L|A|Ap|W
 deriving DecidableEq
def jz(o:Oper):Cls:=match o.op with
 | .move _ | .assign _ | .pick .. | .binOp .. | .unOp .. | .convert .. | .nilCheck _ | .extract .. | .field .. | .fieldAddr .. | .indexAddr .. | .index .. | .slice .. | .makeFunc .. | .build .. | .buildSlice ..=>.N
 | .load .. | .lookup ..=>.L
 | .alloc _ | .box .. | .makeSlice ..=>.A
 | .call c=>match c.callee with
  | .builtin .len | .builtin .max | .builtin .min=>.N
  | .builtin .append=>.Ap
  | .value _=>.L
  | _=>.W
 | _=>.W
def ET:Cls->Cls->Bool
 | .N,_|_,.N | .L,.L | .L,.A | .L,.Ap | .A,.A=>true
 | _,_=>false
def qz(ops:Array Oper)(o:Oper):List Nat:=
 (o.op.operands.toList.filterMap fun | .tmp t=>some t|_=>none) ++
 (match o.guard with
  | some (g,_)=>((ops[g]?).bind (·.dst)).toList++(match (ops[g]?).bind (·.guard) with
   | some (g',_)=>((ops[g']?).bind (·.dst)).toList
   | none=>[])
  | none=>[])
def xX(ops:Array Oper)(x y:Oper):Bool:=
 (match x.dst with
  | some d=>!(qz ops y).contains d&&y.dst != some d
  | none=>true) &&
 (match y.dst with
  | some d=>!(qz ops x).contains d
  | none=>true)
def F3(x y:Oper):Bool:=match x.op with
 | .lookup ..=>match y.op with
  | .store ..=>true
  | _=>false
 | _=>false
def zb(ops:Array Oper)(x y:Oper):Bool:=(ET (jz x) (jz y)||F3 x y)&&xX ops x y
def oK(ops:Array Oper):Nat->List Nat
 | 0=>[]
 | n+1=>(oK ops n)++[match ops[n]? with
  | some o=>(o.after.toList.filter (Region.binds .any)).foldl (fun s e=>s ||| (2^e.on ||| (oK ops n).getD e.on 0)) 0
  | none=>0]
def wh(ops:Array Oper):List Nat:=oK ops ops.size
def C9(ops:Array Oper)(ah:List Nat):List Nat->Bool
 | []=>true
 | j::l=>l.all (fun i=>(ah.getD i 0).testBit j||(match ops[j]?,ops[i]? with|some x,some y=>zb ops x y|_,_=>false))&&C9 ops ah l
def EH(ops:Array Oper)(ah:List Nat)(i:Nat):Bool:=match ops[i]?,ah[i]? with
 | some o,some a=>Nat.beq a (o.after.foldl (fun s e=>match Region.binds .any e with
  | true=>s ||| (2^e.on ||| ah.getD e.on 0)
  | false=>s) 0)
 | _,_=>false
def JL(P:Program)(ops:Array Oper)(l:List Nat):Bool:=
 P.follows .mixedOrders&&l.isPerm (List.range ops.size)&&(List.range ops.size).all (fun i=>(match ops[i]? with|some o=>o.after.all fun e=>!Region.binds .any e||decide (e.on<i)|none=>false))&&C9 ops (wh ops) l
def Pc(P:Program)(ops:Array Oper)(l ah:List Nat):Bool:=
 P.follows .mixedOrders&&(l.isPerm (List.range ops.size)&&((List.range ops.size).all (fun i=>(match ops[i]? with|some o=>o.after.all fun e=>!Region.binds .any e||decide (e.on<i)|none=>false))&&(Nat.beq ah.length ops.size&&((List.range ops.size).all (EH ops ah)&&C9 ops ah l))))
def jt(o:Oper):Cls:=match jz o with
 | .N=>.N
 | .L=>match o.op with
  | .load ..=>.L
  | _=>.W
 | _=>.W
def xC(ops:Array Oper)(x y:Oper):Bool:=(match jt x,jt y with
 | .N,_|_,.N | .L,.L=>true
 | _,_=>false)&&xX ops x y
def qZ:List (Nat×List Nat)->Nat->List Nat
 | [],_=>[]
 | (k,ys)::l,i=>match Nat.beq k i with
  | true=>ys
  | false=>qZ l i
def A3(ops:Array Oper)(x y:Oper):Bool:=(match jt x with | .L=>true|_=>false)&&(xX ops x y&&(match x.dst with|some d=>!(qz ops x).contains d|none=>false))
def qct(ops:Array Oper)(x:Oper)(l:List Nat):Bool:=l.all fun k=>match ops[k]? with
 | some o=>match o.dst with
  | some d=>!(qz ops x).contains d&&x.dst != some d
  | none=>true
 | none=>true
def xp(ops:Array Oper)(ah:List Nat)(lt:List (Nat×List Nat)):List Nat->Bool
 | []=>true
 | j::l=>(l.all (fun i=>(ah.getD i 0).testBit j||(match ops[j]?,ops[i]? with|some x,some y=>xC ops x y||((qZ lt i).contains j&&A3 ops x y)|_,_=>false)) &&
   ((match ops[j]? with
    | some x=>(match qZ lt j with | []=>true|_::_=>(match jt x with | .W=>true|_=>false))&&(!(lt.any fun p=>p.2.contains j)||qct ops x l)
    | none=>true)))&&xp ops ah lt l
def Al(P:Program)(ops:Array Oper)(l ah:List Nat)(lt:List (Nat×List Nat)):Bool:=
 P.follows .mixedOrders&&(l.isPerm (List.range ops.size)&&((List.range ops.size).all (fun i=>(match ops[i]? with|some o=>o.after.all fun e=>!Region.binds .any e||decide (e.on<i)|none=>false))&&(Nat.beq ah.length ops.size&&((List.range ops.size).all (EH ops ah)&&xp ops ah lt l))))
def bV(m:ai)(c:Nat):ai:=match c with
 | 0=>m
 | c+1=>m++List.replicate (c+1) (some .resv)
def re(o:Option (List Nat))(n:Nat):List Nat:=match o with
 | some l=>l
 | none=>List.range n
end
def Gt(P:Program)(m:ai)(ts:List AV):ResultVar->Option AV
 | .tmp t=>some (ts.getD t .any)
 | .cell a t=>(jG P t).bind fun sh=>aj sh m (ts.getD a .any)
def vy(P:Program)(m:ai)(ts:List AV):List ResultVar->Option (List AV)
 | []=>some []
 | r::rs=>(Gt P m ts r).bind fun v=>(vy P m ts rs).map fun vs=>v::vs
def Bn{R:Type}(P:Program)(m:ai)(ts:List AV):List ResultVar->(List AV->Option R)->Option R
 | [],K=>K []
 | .tmp t::rs,K=>Bn P m ts rs fun vs=>K (ts.getD t .any::vs)
 | .cell a t::rs,K=>match jG P t with
  | some sh=>(aj sh m (ts.getD a .any)).bind fun v=>Bn P m ts rs fun vs=>K (v::vs)
  | none=>none
def Gk:List AV->AV
 | [v]=>v
 | vs=>.tup vs
def jY(call:Nat->List AV->ai->Option (AV×ai))(g:Nat)(vs:List AV):Option AV:=
 (call g vs []).bind fun r=>(cq r.2 kX r.1).bind fun r'=>if nr vs||jo r'.1 then some r'.1 else none
def Co(P:Program)(rs:List ResultVar):Ex->St->Option (AV×ai):=fun e st=>match e with
 | .normal=>Bn P st.mem st.tmps rs fun vs=>some (Gk vs,st.mem)
 | .exit _=>none
 | .ret=>Bn P st.mem st.tmps rs fun vs=>some (Gk vs,st.mem)
def aE(f:Func):Code:=f.body.getD .skip
def c1:Code->Code
 | .seq a _=>a
 | .cond _ a _=>a
 | .block _ b | .loop b | .scope b=>b
 | c=>c
def c2:Code->Code
 | .seq _ b=>b
 | .cond _ _ b=>b
 | c=>c
def qaO:List (Nat×Nat×Masks)->Nat->Option Nat->Masks
 | [],_,_=>⟨[],[],[]⟩
 | (f,k,m)::l,f',k'=>match f==f'&&some k==k' with
  | true=>m
  | false=>qaO l f' k'
def qbh:List (Nat×Nat×List Nat)->Nat->Nat->Option (List Nat)
 | [],_,_=>none
 | (f,k,m)::l,f',k'=>match f==f'&&k==k' with
  | true=>some m
  | false=>qbh l f' k'
abbrev aD:AV:=.lst none true .full []
abbrev aJ(l:List AV):List AV:=.any::l
abbrev aK(l:List AV):List AV:=.any::.any::l
abbrev aO(l:List AV):List AV:=.any::.any::.any::.any::l
abbrev aV(l:List AV):List AV:=.any::.any::.any::.any::.any::.any::.any::.any::l
abbrev br(l:List AV):List AV:=aV (aV l)
abbrev bC(l:List AV):List AV:=br (br l)
abbrev bB(l:List AV):List AV:=bC (bC l)
@[match_pattern] abbrev AV.I(n:Int):AV:=.int .i64 n
@[match_pattern] abbrev TK.o:TK:=.other
@[match_pattern] abbrev AV.U(n:Int):AV:=.int .u64 n
@[match_pattern] abbrev Ent.B(l:List AV):Ent:=.obj true l
abbrev OM:=Option (AV×ai)
abbrev KT:=Ex->St->OM
end Go.Ab
namespace Go.Ab
open Go.RowKit
structure G where
 wr:Nat->Nat->Prop
 box:Nat->Prop
 loc:Nat->Option Nat
 tloc:Nat->Nat->Option Nat
abbrev dH(es:List AV):List AV:=es.flatMap AV.cells
def C8(w:World)(g:G)(sh:Sh)(o:Own)(n:Nat)(a:Addr)(cap:Nat):Prop:=match o with
 | .no=>True
 | .full=>cap=n
 | .tok nm e=>g.tloc nm n=some a.block/\a.off=0/\∃c:Array Value,w.heap[a.block]?=some (Obj.cells c e (0,0))/\c.size=cap*sh.size
inductive V (w:World) (g:G):AV->Value->Prop
 | any (x:Value):V w g .any x
 | int (k:IntKind) (n:Int):V w g (.int k n) (.int k n)
 | bool (b:Bool):V w g (.bool b) (.bool b)
 | str (s:ByteArray):V w g (.str s) (.string s)
 | nils (sh:Sh) (o:Own) (ho:o=.full\/o=.no):V w g (.lst sh true o []) (.slice none 0 0)
 | lst (sh:Sh) (o:Own) (es:List AV) (a:Addr) (cap:Nat) (us:Nat->Value) (hs:cap=0\/a.spot=none) (hc:es.length<=cap) (hm:cap<=maxLen)
   (hsh:∀e∈es,dJ sh e=true/\pl e=true)
   (hcell:∀j,j<(dH es).length->w.cell? ⟨a.block,a.off+j,none⟩=some (us j)/\¬ g.wr a.block (a.off+j)/\¬ g.box a.block)
   (hv:∀j,j<(dH es).length->V w g ((dH es).getD j .any) (us j))
   (ho:C8 w g sh o es.length a cap):V w g (.lst sh false o es) (.slice (some a) es.length cap)
 | arr (nm off n:Nat) (sh:Sh) (a:Addr) (cap:Nat) (hs:cap=0\/a.spot=none) (hc:n<=cap) (hm:cap<=maxLen) (hl:n=0\/g.loc nm=some a.block/\a=⟨a.block,off,none⟩/\∃(c:Array Value) (e:TypeId),w.heap[a.block]?=some (Obj.cells c e (0,0))/\off+cap*sh.size<=c.size):V w g (.arr nm off n sh) (.slice (some a) n cap)
 | ptr (nm off b:Nat) (hl:g.loc nm=some b):V w g (.ptr nm off) (.pointer (some ⟨b,off,none⟩))
 | vptr (cs:List AV) (b off:Nat) (us:Nat->Value)
   (hcell:∀j,j<cs.length->w.cell? ⟨b,off+j,none⟩=some (us j)/\¬ g.wr b (off+j))
   (hv:∀j,j<cs.length->V w g (cs.getD j .any) (us j)):V w g (.vptr cs) (.pointer (some ⟨b,off,none⟩))
 | nilp:V w g .nilp (.pointer none)
 | nilf:V w g .nilf .nilFunc
 | nile:V w g .nile .nilIface
 | nilm:V w g .nilm (.map none)
 | agg (cs:List AV) (vs:Array Value) (hl:cs.length=vs.size) (hv:∀j,j<cs.length->V w g (cs.getD j .any) (vs.getD j undef)):V w g (.agg cs) (.agg vs)
 | tup (cs:List AV) (vs:Array Value) (hl:cs.length=vs.size) (hv:∀j,j<cs.length->V w g (cs.getD j .any) (vs.getD j undef)):V w g (.tup cs) (.tuple vs)
 | fn (f:Nat) (cs:List AV) (vs:Array Value) (hl:cs.length=vs.size) (hv:∀j,j<cs.length->V w g (cs.getD j .any) (vs.getD j undef)):V w g (.fn f cs) (.func (.func f) #[] vs)
 | mref (nm b:Nat) (hl:g.loc nm=some b):V w g (.mref nm) (.map (some b))
 | vec (n:Nat) (sh:Sh) (cs:List AV) (a:Addr) (cap:Nat) (us:Nat->Value) (hs:cap=0\/a.spot=none) (hc:n<=cap) (hm:cap<=maxLen) (hn:cs.length=n*sh.size) (iC:∀c∈cs,fG c=true)
   (hcell:∀j,j<cs.length->w.cell? ⟨a.block,a.off+j,none⟩=some (us j)/\¬ g.wr a.block (a.off+j))
   (hv:∀j,j<cs.length->V w g (cs.getD j .any) (us j)):V w g (.vec n sh cs) (.slice (some a) n cap)
structure Step (B:Nat) (w:World) (g:G) (w':World) (g':G):Prop where
 below:Below B w w'
 cell:∀(b off:Nat) (u:Value),¬ g.wr b off->w.cell? ⟨b,off,none⟩=some u->w'.cell? ⟨b,off,none⟩=some u
 shape:∀(b:Nat) (c:Array Value) (e:TypeId) (fr:Nat×Nat),w.heap[b]?=some (Obj.cells c e fr)->∃c':Array Value,w'.heap[b]?=some (Obj.cells c' e fr)/\c'.size=c.size
 wr:∀(b off:Nat),b<w.heap.size->¬ g.wr b off->¬ g'.wr b off
 wrB:∀(b off:Nat),b<B->(g'.wr b off↔g.wr b off)
 box:∀(b:Nat),b<w.heap.size->(g'.box b↔g.box b)
 loc:∀nm b,g.loc nm=some b->g'.loc nm=some b
 tloc:∀nm n b,g.tloc nm n=some b->g'.tloc nm n=some b
theorem Step.refl(B:Nat)(w:World)(g:G):Step B w g w g:=
 ⟨Below.refl _ _,fun _ _ _ _ h=>h,fun _ c _ _ h=>⟨c,h,rfl⟩,fun _ _ _ h=>h,fun _ _ _=>Iff.rfl,fun _ _=>Iff.rfl,fun _ _ h=>h,fun _ _ _ h=>h⟩
theorem uJ{w:World}{b off:Nat}{u:Value}(h:w.cell? ⟨b,off,none⟩=some u):b<w.heap.size:=World.block_lt_of_cell? w ⟨b,off,none⟩ h
theorem Step.trans{B:Nat}{w w1 w2:World}{g g1 g2:G}(h:Step B w g w1 g1)(k:Step B w1 g1 w2 g2):Step B w g w2 g2 where
 below:=h.below.trans k.below
 cell b off u hm hc:=k.cell b off u (h.wr b off (uJ hc) hm) (h.cell b off u hm hc)
 shape b c e fr hb:=by
  obtain ⟨c1,h1,e1⟩:=h.shape b c e fr hb;obtain ⟨c2,h2,e2⟩:=k.shape b c1 e fr h1;exact ⟨c2,h2,e2.trans e1⟩
 wr b off hb hm:=k.wr b off (so hb h.below.size) (h.wr b off hb hm)
 wrB b off hb:=(k.wrB b off hb).trans (h.wrB b off hb)
 box b hb:=(k.box b (so hb h.below.size)).trans (h.box b hb)
 loc nm b hl:=k.loc nm b (h.loc nm b hl)
 tloc nm n b hl:=k.tloc nm n b (h.tloc nm n b hl)
theorem Step.mono{B B':Nat}{w w':World}{g g':G}(h:Step B w g w' g')(hB:B'<=B):Step B' w g w' g':=
 ⟨h.below.mono hB,h.cell,h.shape,h.wr,fun b off hb=>h.wrB b off aa,h.box,h.loc,h.tloc⟩
theorem C8.step{B:Nat}{w w':World}{g g':G}{sh:Sh}{o:Own}{n:Nat}{a:Addr}{cap:Nat}(h:C8 w g sh o n a cap)(s:Step B w g w' g'):C8 w' g' sh o n a cap:=by
 cases o with
 | no=>trivial
 | full=>exact h
 | tok nm e=>
  obtain ⟨h1,h2,c,hc,hs⟩:=h;obtain ⟨c',Fj,gS⟩:=s.shape _ _ _ _ hc;exact ⟨s.tloc _ _ _ h1,h2,c',Fj,gS.trans hs⟩
theorem V.step{B:Nat}{w w':World}{g g':G}{x:AV}{v:Value}(h:V w g x v)(s:Step B w g w' g'):V w' g' x v:=by
 induction h with
 | any x=>exact .any x
 | int k n=>exact .int k n
 | bool b=>exact .bool b
 | str x=>exact .str x
 | nils sh o ho=>exact .nils sh o ho
 | lst sh o es a cap us hs hc hm hsh hcell hv ho ih=>
  refine .lst sh o es a cap us hs hc hm hsh (fun j hj=>?_) ih (ho.step s);obtain ⟨h1,h2,h3⟩:=hcell j hj;exact ⟨s.cell _ _ _ h2 h1,s.wr _ _ (uJ h1) h2,fun hb=>h3 ((s.box _ (uJ h1)).1 hb)⟩
 | arr nm off n sh a cap hs hc hm hl=>exact .arr nm off n sh a cap hs hc hm (hl.imp id fun ⟨h1,h2,c,e,h3,h4⟩=>by
  obtain ⟨c',k1,k2⟩:=s.shape _ _ _ _ h3
  exact ⟨s.loc _ _ h1,h2,c',e,k1,aa⟩)
 | ptr nm off b hl=>exact .ptr nm off b (s.loc _ _ hl)
 | vptr cs b off us hcell hv ih=>
  refine .vptr cs b off us (fun j hj=>?_) ih;obtain ⟨h1,h2⟩:=hcell j hj;exact ⟨s.cell _ _ _ h2 h1,s.wr _ _ (uJ h1) h2⟩
 | nilp=>exact .nilp
 | nilf=>exact .nilf
 | nile=>exact .nile
 | nilm=>exact .nilm
 | agg cs vs hl hv ih=>exact .agg cs vs hl ih
 | tup cs vs hl hv ih=>exact .tup cs vs hl ih
 | fn f cs vs hl hv ih=>exact .fn f cs vs hl ih
 | mref nm b hl=>exact .mref nm b (s.loc _ _ hl)
 | vec n sh cs a cap us hs hc hm hn iC hcell hv ih=>
  refine .vec n sh cs a cap us hs hc hm hn iC (fun j hj=>?_) ih;obtain ⟨h1,h2⟩:=hcell j hj;exact ⟨s.cell _ _ _ h2 h1,s.wr _ _ (uJ h1) h2⟩
def bj(g:G)(m:ai)(nm:Nat):Option Nat:=match m.get nm with
 | some (.obj _ _)=>g.loc nm
 | some (.tok n _)=>g.tloc nm n
 | some .resv=>none
 | some (.mp _ _)=>g.loc nm
 | none=>none
def MX:KK->Value->Prop
 | .str,v=>∃s:ByteArray,v=.string s/\s.size<=maxLen
 | .int k,v=>∃n:Int,v=.int k n/\GM k n=true
 | .arr n k,v=>∃vs:Array Value,v=.agg vs/\vs.size=n/\∀x∈vs.toList,∃i:Int,x=.int k i/\GM k i=true
structure MapR (w:World) (g:G) (kk:KK) (es':Array MapEntry) (clock:Nat) (es:List (AV×AV)):Prop where
 size:es'.size<=es.length
 room:es.length<=maxLen
 stamped:MapKept.Stamped es' clock
 keys:∀x∈es'.toList,MX kk x.key
 ok:∀p∈es,ku kk p.1=true
 to:∀p∈es,∃x∈es'.toList,flatV p.1=some x.key/\V w g p.2 x.val
 frm:∀x∈es'.toList,∃p∈es,flatV p.1=some x.key/\V w g p.2 x.val
theorem MapR.step{B:Nat}{w w':World}{g g':G}{kk:KK}{es':Array MapEntry}{clock:Nat}{es:List (AV×AV)}(M:MapR w g kk es' clock es)(s:Step B w g w' g'):MapR w' g' kk es' clock es where
 size:=M.size
 room:=M.room
 stamped:=M.stamped
 keys:=M.keys
 ok:=M.ok
 to p hp:=by obtain ⟨x,hx,h1,h2⟩:=M.to p hp;exact ⟨x,hx,h1,h2.step s⟩
 frm x hx:=by obtain ⟨p,hp,h1,h2⟩:=M.frm x hx;exact ⟨p,hp,h1,h2.step s⟩
class WInv where
 inv:World->Prop
structure MemR [WInv] (B:Nat) (w:World) (g:G) (m:ai):Prop where
 obj:∀nm bx cs,m.get nm=some (.obj bx cs)->∃(b:Nat) (c:Array Value) (e:TypeId),g.loc nm=some b/\B<=b/\w.heap[b]?=some (Obj.cells c e (0,0))/\cs.length<=c.size /\
  (∀j,j<cs.length->V w g (cs.getD j .any) (c.getD j undef))/\(∀off,g.wr b off)/\(g.box b↔bx=true)
 tok:∀nm n sz,m.get nm=some (.tok n sz)->∃(b:Nat) (c:Array Value) (e:TypeId),g.tloc nm n=some b/\B<=b/\w.heap[b]?=some (Obj.cells c e (0,0))/\(∀off,n*sz<=off->g.wr b off)/\(∀n',n<n'->g.tloc nm n'=none)/\¬ g.box b
 resv:∀nm,m.get nm=some .resv->g.loc nm=none/\∀n,g.tloc nm n=none
 fresh:∀nm,m.length<=nm->g.loc nm=none/\∀n,g.tloc nm n=none
 inj:∀nm nm' b,bj g m nm=some b->bj g m nm'=some b->nm=nm'
 wrLt:∀b off,g.wr b off->b<w.heap.size
 inv:∀w',Below B w w'->WInv.inv w'
 boxLt:∀b,g.box b->b<w.heap.size
 mp:∀nm kk es,m.get nm=some (.mp kk es)->∃(b:Nat) (es':Array MapEntry) (clock:Nat),g.loc nm=some b/\B<=b/\w.heap[b]?=some (.map es' clock)/\MapR w g kk es' clock es
theorem MemR.invB[WInv]{B:Nat}{w w1:World}{g:G}{m:ai}(h:MemR B w g m)(s:Below B w w1):∀w',Below B w1 w'->WInv.inv w':=fun w' k=>h.inv w' (s.trans k)
theorem MemR.invS[WInv]{B:Nat}{w w1:World}{g g1:G}{m:ai}(h:MemR B w g m)(s:Step B w g w1 g1):∀w',Below B w1 w'->WInv.inv w':=h.invB s.below
def qJ(w:World)(g:G)(ts:List AV)(vs:Array Value):Prop:=ts.length=vs.size/\∀t,V w g (ts.getD t .any) (vs.getD t undef)
theorem qJ.step{B:Nat}{w w':World}{g g':G}{ts:List AV}{vs:Array Value}(h:qJ w g ts vs)(s:Step B w g w' g'):qJ w' g' ts vs:=⟨h.1,fun t=>(h.2 t).step s⟩
end Go.Ab
namespace Go.Ab
open Go.RowKit
theorem Jh(w:World)(g:G)(v:Value):V w g (qo v) v:=by
 unfold qo
 split
 .exact .int _ _
 .exact .bool _
 .exact .str _
 .exact .nils _ _ (.inl rfl)
 .exact .nilp
 .exact .nilf
 .exact .nile
 .exact .nilm
 .exact .any _
theorem VY(w:World)(g:G)(v:Value):V w g (iN v) v:=by
 unfold iN
 split
 .rename_i cs;refine .agg _ _ aA fun j hj=>?_;have hG:j<cs.size:=by simpa using hj
  have:(cs.toList.map qo).getD j .any=qo (cs.getD j undef):=by
   simp[aT,Array.getD,hG]
  rw[this];exact Jh _ _ _
 .exact Jh _ _ _
section
variable {P:Program} {w:World} {g:G}
theorem qtp(op:BinOp)(k:IntKind)(a b:Int){v:AV}(h:sC op k a b=some v)(hs:op≠.shl/\op≠.shr)(t:Nat):∃v',(binOp op t (.int k a) (.int k b)).run P w=.ok v' w/\V w g v v':=by
 cases op<;>simp[sC] at h<;>first
  | (obtain ⟨hb,rfl⟩:=h;refine ⟨_,?_,.int _ _⟩;simp[binOp,Op.intArith,Op.intDiv,Op.intBits,Op.intCmp,hb];done)
  | (subst h;first|refine ⟨_,?_,.int _ _⟩|refine ⟨_,?_,.bool _⟩)
 all_goals first
  | (simp[binOp,Op.intArith,Op.intDiv,Op.intBits,Op.intCmp];done)
  | exact absurd rfl hs.1|exact absurd rfl hs.2|skip
theorem Di(op:BinOp)(t:Nat)(x y:Operand)(a b:Value)(h:(match a,b with | .nilIface,.nilIface=>false | .agg _,.agg _=>false|_,_=>true)=true):(eqGuard op t x y a b).run P w=.ok () w:=by
 cases op<;>simp[eqGuard]<;>(split<;>simp_all)
theorem qts(d t e:Nat)(p:Option Addr)(h:P.underlying t=some (.pointer e)):(Op.equalIn (d+1) t (.pointer p) (.pointer none)).run P w=.ok p.isNone w:=by
 cases p<;>simp[Op.equalIn,run_underlying h]
theorem RJ(t e:Nat)(p:Option Addr)(h:P.underlying t=some (.pointer e)):(Op.equal t (.pointer p) (.pointer none)).run P w=.ok p.isNone w:=qts 9999 t e p h
theorem qtq(d t:Nat){a b:Array Nat}{c:Bool}(h:P.underlying t=some (.func a b c)):(Op.equalIn (d+1) t .nilFunc .nilFunc).run P w=.ok true w:=by
 simp[Op.equalIn,run_underlying h]
theorem qtt(t:Nat){a b:Array Nat}{c:Bool}(h:P.underlying t=some (.func a b c)):(Op.equal t .nilFunc .nilFunc).run P w=.ok true w:=qtq 9999 t h
theorem qtr(d t:Nat){a b:Array Nat}{c:Bool}{f:Fn}{x:Array Value}{y:Array Value}(h:P.underlying t=some (.func a b c)):(Op.equalIn (d+1) t (.func f x y) .nilFunc).run P w=.ok false w:=by
 simp[Op.equalIn,run_underlying h]
theorem qtu(t:Nat){a b:Array Nat}{c:Bool}{f:Fn}{x:Array Value}{y:Array Value}(h:P.underlying t=some (.func a b c)):(Op.equal t (.func f x y) .nilFunc).run P w=.ok false w:=qtr 9999 t h
theorem E2{op:BinOp}{b:Bool}{v:AV}{t:Nat}{x y:Value}(h:JN op b=some v)(hr:(Op.equal t x y).run P w=.ok b w)(he:binOp .eql t x y=(do pure (.bool (<- Op.equal t x y))))(hn:binOp .neq t x y=(do pure (.bool (!(<- Op.equal t x y))))):∃v',(binOp op t x y).run P w=.ok v' w/\V w g v v':=by
 cases op<;>simp[JN] at h
 .subst h;exact ⟨_,by rw[he];simp[hr],.bool _⟩
 .subst h;exact ⟨_,by rw[hn];simp[hr],.bool _⟩
theorem qon(op:BinOp)(t:Nat)(ox oy:Operand){x y v:AV}{x' y':Value}(hx:V w g x x')(hy:V w g y y')(h:ag (Ds P t) op x y=some v) :
  ∃v',(do eqGuard op t ox oy x' y';binOp op t x' y':Sem Value).run P w=.ok v' w/\V w g v v':=by
 unfold ag at h
 split at h
 .rename_i tk k a k' b;cases hx;cases hy;have hg:(eqGuard op t ox oy (.int k a) (.int k' b)).run P w=.ok () w:=Di _ _ _ _ _ _ rfl;simp only[Sem.run_bind,hg,Result.andThen_ok]
  split at h
  .unfold ug at h
   split at h
   .cases h
   .simp at h;subst h;refine ⟨_,?_,.int _ _⟩;simp[binOp,Op.shift, *]
  .unfold ug at h
   split at h
   .cases h
   .simp at h;subst h;refine ⟨_,?_,.int _ _⟩;simp[binOp,Op.shift, *]
  .split at h
   .rename_i hk;subst hk;exact qtp op k a b h ⟨by assumption,by assumption⟩ t
   .cases h
 .rename_i tk a b;cases hx;cases hy;have hg:(eqGuard op t ox oy (.string a) (.string b)).run P w=.ok () w:=Di _ _ _ _ _ _ rfl;simp only[Sem.run_bind,hg,Result.andThen_ok]
  cases op<;>simp[Xc] at h
  .obtain ⟨hsz,rfl⟩:=h;refine ⟨_,?_,.str _⟩
   have:¬ (IntKind.i64.max<((a.size:Int)+(b.size:Int))):=by
    have:IntKind.i64.max=9223372036854775807:=rfl;omega
   simp[binOp,Op.stringOp,this];omega
  .subst h;exact ⟨_,by simp[binOp,Op.stringOp],.bool _⟩
  .subst h;exact ⟨_,by simp[binOp,Op.stringOp],.bool _⟩
 .rename_i a b kN
  have ht:P.underlying t=some .bool:=by
   unfold Ds at kN;split at kN<;>simp_all
  cases hx;cases hy;have hg:(eqGuard op t ox oy (.bool a) (.bool b)).run P w=.ok () w:=Di _ _ _ _ _ _ rfl;simp only[Sem.run_bind,hg,Result.andThen_ok]
  split at h
  .simp at h;subst h;exact ⟨_,run_eql_bool w t a b ht,.bool _⟩
  .simp at h;subst h;exact ⟨_,run_neq_bool w t a b ht,.bool _⟩
  .cases h
 .rename_i sh z o es sh' o' kN
  obtain ⟨e,ht⟩:∃e,P.underlying t=some (.slice e):=by
   unfold Ds at kN;split at kN<;>simp_all
  cases hy;have hg:∀v,(eqGuard op t ox oy v (.slice none 0 0)).run P w=.ok () w:=fun v=>Di _ _ _ _ _ _ (by cases v<;>rfl);simp only[Sem.run_bind,hg,Result.andThen_ok]
  split at h
  .simp at h;subst h
   cases hx
   .exact ⟨_,by simp[binOp,run_equal_slice_nil w t e _ _ _ ht],.bool _⟩
   .exact ⟨_,by simp[binOp,run_equal_slice_nil w t e _ _ _ ht],.bool _⟩
  .simp at h;subst h
   cases hx
   .exact ⟨_,by simp[binOp,run_equal_slice_nil w t e _ _ _ ht],.bool _⟩
   .exact ⟨_,by simp[binOp,run_equal_slice_nil w t e _ _ _ ht],.bool _⟩
  .cases h
 .rename_i x kN
  obtain ⟨e,ht⟩:∃e,P.underlying t=some (.pointer e):=by
   unfold Ds at kN;split at kN<;>simp_all
  cases hy;have hg:∀v,(eqGuard op t ox oy v (.pointer none)).run P w=.ok () w:=fun v=>Di _ _ _ _ _ _ (by cases v<;>rfl);simp only[Sem.run_bind,hg,Result.andThen_ok];obtain ⟨b,hb,h⟩:=bn.1 h;unfold ZW at hb
  split at hb
  .simp at hb;subst hb;cases hx;exact E2 h (RJ t e _ ht) rfl rfl
  .simp at hb;subst hb;cases hx;exact E2 h (RJ t e _ ht) rfl rfl
  .simp at hb;subst hb;cases hx;exact E2 h (RJ t e _ ht) rfl rfl
  .cases hb
 .rename_i x kN
  obtain ⟨a1,a2,a3,ht⟩:∃a b c,P.underlying t=some (.func a b c):=by
   unfold Ds at kN;split at kN<;>simp_all
  cases hy;have hg:∀v,(eqGuard op t ox oy v .nilFunc).run P w=.ok () w:=fun v=>Di _ _ _ _ _ _ (by cases v<;>rfl);simp only[Sem.run_bind,hg,Result.andThen_ok];obtain ⟨b,hb,h⟩:=bn.1 h;unfold ZV at hb
  split at hb
  .simp at hb;subst hb;cases hx;exact E2 h (qtt t ht) rfl rfl
  .simp at hb;subst hb;cases hx;exact E2 h (qtu t ht) rfl rfl
  .cases hb
 .cases h
theorem quG(op:UnOp){x v:AV}{x':Value}(hx:V w g x x')(h:gH op x=some v):∃v',(Op.unary op x').run P w=.ok v' w/\V w g v v':=by
 unfold gH at h
 split at h
 .simp at h;subst h;cases hx;exact ⟨_,rfl,.bool _⟩
 .simp at h;subst h;cases hx;exact ⟨_,by simp[Op.unary,Op.intArith],.int _ _⟩
 .cases h
theorem qsO{c a b v:AV}{c' a' b':Value}(hc:V w g c c')(ha:V w g a a')(hb:V w g b b')(h:Rr c a b=some v) :
  ∃v',(do pure (if <- asBool c' then a' else b'):Sem Value).run P w=.ok v' w/\V w g v v':=by
 unfold Rr at h
 split at h
 .rename_i t;simp at h;subst h;cases hc
  cases t
  .exact ⟨b',by simp[asBool],by simpa using hb⟩
  .exact ⟨a',by simp[asBool],by simpa using ha⟩
 .cases h
theorem qpe{t v:AV}{t':Value}{i:Nat}(ht:V w g t t')(h:a8 t i=some v):∃v',(Instr.extract t' i).run P w=.ok v' w/\V w g v v':=by
 unfold a8 at h
 split at h
 .rename_i cs
  cases ht with
  | tup cs vs hl hv=>
   obtain ⟨hi,rfl⟩:=vQ.1 h;have gu:i<vs.size:=aa;refine ⟨vs[i],by simp[Instr.extract,gu],?_⟩;have:=hv i hi;simpa [aT,hi,Array.getD,gu] using this
 .cases h
theorem qaP{mx:Bool}{x y v:AV}{x' y':Value}(hx:V w g x x')(hy:V w g y y')(h:oV mx x y=some v) :
  ∃v',((if mx then Builtin.max_ else Builtin.min_) #[] 0 #[x',y']).run P w=.ok v' w/\V w g v v':=by
 unfold oV at h
 split at h
 .rename_i k a k' b
  split at h
  .rename_i hk;subst hk;simp at h;subst h;cases hx;cases hy
   cases mx
   .exact ⟨_,by simp[Builtin.min_,Builtin.min2],.int _ _⟩
   .exact ⟨_,by simp[Builtin.max_,Builtin.max2],.int _ _⟩
  .cases h
 .cases h
theorem qam{st:Bool}{x v:AV}{x':Value}(hx:V w g x x')(h:aM st x=some v)(ts:Array TypeId)(t ty:Nat)(ht:ts[0]?=some t)(hd:if st then P.underlying t=some .string else ∃e,P.underlying t=some (.slice e)) :
  ∃v',(Builtin.len_ ts ty #[x']).run P w=.ok v' w/\V w g v v':=by
 unfold aM at h
 split at h
 .simp at h;subst h;obtain ⟨e,hd⟩:∃e,P.underlying t=some (.slice e):=by simpa using hd
  cases hx
  .exact ⟨.int .i64 0,by simp[Builtin.len_,ht,run_underlying hd,goInt],.int _ _⟩
  .exact ⟨.int .i64 _,by simp[Builtin.len_,ht,run_underlying hd,goInt],.int _ _⟩
 .simp at h;subst h;obtain ⟨e,hd⟩:∃e,P.underlying t=some (.slice e):=by simpa using hd
  cases hx;exact ⟨.int .i64 _,by simp[Builtin.len_,ht,run_underlying hd,goInt],.int _ _⟩
 .simp at h;subst h;obtain ⟨e,hd⟩:∃e,P.underlying t=some (.slice e):=by simpa using hd
  cases hx;exact ⟨.int .i64 _,by simp[Builtin.len_,ht,run_underlying hd,goInt],.int _ _⟩
 .simp at h;subst h;have hd:P.underlying t=some .string:=by simpa using hd
  cases hx;exact ⟨.int .i64 _,by simp[Builtin.len_,ht,run_underlying hd,goInt],.int _ _⟩
 .cases h
theorem qoV{k:IntKind}{x v:AV}{x':Value}(hx:V w g x x')(h:bE k x=some v)(src dst:Nat)(hd:P.underlying dst=some (.int k))(hs:(P.underlying src).isSome) :
  ∃v',(convert src dst x').run P w=.ok v' w/\V w g v v':=by
 unfold bE at h
 split at h
 .simp at h;subst h;cases hx;obtain ⟨d,hsd⟩:=Option.isSome_iff_exists.1 hs;exact ⟨_,by simp[convert,run_underlying hd,run_underlying hsd,Conv.intToInt],.int _ _⟩
 .cases h
theorem Dk{t:Nat}{sh:Sh}(h:jG P t=some sh):∃i d,P.info? t=some i/\P.underlying t=some d/\i.size=sh.size /\
  ((sh=none/\∀w:World,(isAgg t).run P w=.ok false w)\/(∃n,sh=some n)/\∀w:World,(isAgg t).run P w=.ok true w):=by
 unfold jG at h
 split at h
 .rename_i fs i hu hi;simp at h;subst h;exact ⟨i,_,hi,hu,rfl,.inr ⟨⟨_,rfl⟩,fun w=>by simp[isAgg,run_underlying hu]⟩⟩
 .rename_i n e i hu hi;simp at h;subst h;exact ⟨i,_,hi,hu,rfl,.inr ⟨⟨_,rfl⟩,fun w=>by simp[isAgg,run_underlying hu]⟩⟩
 .rename_i d i h1 h2 hu hi
  split at h
  .simp at h;subst h;refine ⟨i,d,hi,hu,by simpa [Sh.size] using ‹i.size=1›,.inl ⟨rfl,fun w=>?_⟩⟩;cases d<;>simp[isAgg,run_underlying hu]<;>simp_all
  .cases h
 .cases h
theorem qb{t:Nat}{i:TypeInfo}(hi:P.info? t=some i):(sizeOf t).run P w=.ok i.size w:=by simp[sizeOf,typeInfo,hi]
theorem Pl{t f off:Nat}{sh:Sh}(h:yh P t f=some (off,sh)):∃fs fd,P.underlying t=some (.struct fs)/\fs[f]?=some fd/\jG P fd.type=some sh/\fd.offset=off/\sh.size≠0:=by
 unfold yh at h
 split at h
 .rename_i fs hu
  split at h
  .rename_i fd CA
   split at h
   .rename_i sh' hsh
    split at h
    .cases h
    .rename_i hne;simp at h;obtain ⟨rfl,rfl⟩:=h;exact ⟨fs,fd,hu,CA,hsh,rfl,hne⟩
   .cases h
  .cases h
 .cases h
theorem O7{sh:Sh}{cs:List AV}{off:Nat}{v:AV}(f:Nat->Value)(hv:∀j,j<cs.length->V w g (cs.getD j .any) (f j))(h:kH sh cs off=some v) :
  (sh=none->off<cs.length/\V w g v (f off))/\(∀n,sh=some n->off+n<=cs.length/\V w g v (.agg ((List.range n).map fun j=>f (off+j)).toArray)):=by
 unfold kH at h
 split at h
 .refine ⟨fun _=>?_,fun n hn=>by cases hn⟩;obtain ⟨hi,rfl⟩:=vQ.1 h;exact ⟨hi,by simpa [aT,hi] using hv off hi⟩
 .rename_i n;refine ⟨fun hn=>by (cases hn),fun n' hn=>?_⟩;simp only[cg] at hn;subst hn
  split at h
  .rename_i hle;simp at h;subst h;refine ⟨hle,.agg _ _ (by simp;omega) fun j hj=>?_⟩;have hG:j<n:=by simp at hj;omega
   have:=hv (off+j) aa;simpa [aT,hG,Array.getD,rB,te] using this
  .cases h
theorem qsF{sh:Sh}{t off:Nat}{cs:List AV}{vs:Array Value}{v:AV}(hsh:jG P t=some sh)(hl:cs.length=vs.size)(hv:∀j,j<cs.length->V w g (cs.getD j .any) (vs.getD j undef))(h:kH sh cs off=some v) :
  ∃v',(part t vs off).run P w=.ok v' w/\V w g v v':=by
 obtain ⟨i,d,hi,hd,hs,PN⟩:=Dk hsh;obtain ⟨h1,h2⟩:=O7 _ hv h
 rcases PN with ⟨rfl,ha⟩|⟨⟨n,rfl⟩,ha⟩
 .obtain ⟨hlt,hV⟩:=h1 rfl;have Zg:off<vs.size:=aa;refine ⟨vs[off],by simp[part,ha,Zg],by simpa [Array.getD,Zg] using hV⟩
 .obtain ⟨hlt,hV⟩:=h2 n rfl;refine ⟨_,?_,hV⟩;simp only[part,Sem.run_bind,ha,Result.andThen_ok,bJ,qb hi,Sem.run_pure];congr 2;simp only[Sh.size] at hs
  apply Array.ext
  .simp;omega
  .intro j hj hG;simp at hj hG;simp[Array.getD,show off+j<vs.size by omega]
theorem qpi{sh:Sh}{off:Nat}{x v:AV}{x':Value}(hx:V w g x x')(h:Pk off sh x=some v)(t f:Nat)(hf:yh P t f=some (off,sh)) :
  ∃v',(Instr.field t x' f).run P w=.ok v' w/\V w g v v':=by
 obtain ⟨fs,fd,hu,CA,hsh,rfl,_⟩:=Pl hf;unfold Pk at h
 split at h
 .rename_i cs
  cases hx with
  | agg cs vs hl hv=>
   obtain ⟨v',hr,hV⟩:=qsF hsh hl hv h;exact ⟨v',by simp[Instr.field,run_underlying hu,CA,asAgg,hr],hV⟩
 .cases h
theorem nY(b off n:Nat):(⟨b,off,none⟩:Addr).add n=⟨b,off+n,none⟩:=by
 unfold Addr.add;split<;>simp_all
theorem qph{sh:Sh}{off:Nat}{x v:AV}{x':Value}(hx:V w g x x')(h:aL off x=some v)(t f:Nat)(hf:yh P t f=some (off,sh)) :
  ∃v',(Instr.fieldAt t x' f).run P w=.ok v' w/\V w g v v':=by
 obtain ⟨fs,fd,hu,CA,hsh,rfl,hne⟩:=Pl hf;obtain ⟨i,d,hi,hd,hs,_⟩:=Dk hsh;have hz:i.size≠0:=aa;unfold aL at h
 split at h
 .rename_i cs
  split at h
  .rename_i hlt;simp at h;subst h
   cases hx with
   | vptr cs b o us hcell hv=>
    refine ⟨.pointer (some ⟨b,o+fd.offset,none⟩),by simp[Instr.fieldAt,run_underlying hu,CA,Instr.sureAddr,fieldPlace,qb hi,hz,nY],?_⟩
    refine .vptr _ _ _ (fun j=>us (fd.offset+j)) (fun j hj=>?_) (fun j hj=>?_)
    .have:=hcell (fd.offset+j) (by simp at hj;omega);simpa [oH] using this
    .have:=hv (fd.offset+j) (by simp at hj;omega);simpa [aT,te] using this
  .cases h
 .rename_i nm o;simp at h;subst h
  cases hx with
  | ptr nm o b hl=>exact ⟨.pointer (some ⟨b,o+fd.offset,none⟩),by simp[Instr.fieldAt,run_underlying hu,CA,Instr.sureAddr,fieldPlace,qb hi,hz,nY],.ptr _ _ _ hl⟩
 .cases h
theorem Lh{t b off:Nat}{sh:Sh}(hsh:jG P t=some sh)(f:Nat->Value)(hc:∀j,j<sh.size->w.cell? ⟨b,off+j,none⟩=some (f j)) :
  (loadVar t ⟨b,off,none⟩).run P w=.ok (match sh with|none=>f 0|some n=>.agg ((List.range n).map f).toArray) w:=by
 obtain ⟨i,d,hi,hd,hs,PN⟩:=Dk hsh
 rcases PN with ⟨rfl,ha⟩|⟨⟨n,rfl⟩,ha⟩
 .have:=hc 0 (by simp[Sh.size]);simp only[kU] at this;simp[loadVar,ha,this]
 .have hl:=run_loadCells (P:=P) w ⟨b,off,none⟩ n f (fun j hj=>by rw[nY];exact hc j hj);simp only[Sh.size] at hs;simp only[loadVar,Sem.run_bind,ha,Result.andThen_ok,bJ,qb hi,hs,hl,Sem.run_pure]
theorem qaz[WInv]{B:Nat}{m:ai}(hm:MemR B w g m){sh:Sh}{x v:AV}{x':Value}(hx:V w g x x')(h:aj sh m x=some v)(t:Nat)(hsh:jG P t=some sh) :
  ∃v',(Instr.loadAt t x').run P w=.ok v' w/\V w g v v':=by
 unfold aj at h
 split at h
 .rename_i cs
  cases hx with
  | vptr cs b o us hcell hv=>
   obtain ⟨h1,h2⟩:=O7 us hv h
   cases sh with
   | none=>
    obtain ⟨hlt,hV⟩:=h1 rfl;exact ⟨_,by simp only[Instr.loadAt,Instr.sureAddr,Sem.run_bind,Sem.run_pure,Result.andThen_ok];exact Lh hsh us (fun j hj=>(hcell j (by simp only[Sh.size] at hj;omega)).1),hV⟩
   | some n=>
    obtain ⟨hlt,hV⟩:=h2 n rfl;exact ⟨_,by simp only[Instr.loadAt,Instr.sureAddr,Sem.run_bind,Sem.run_pure,Result.andThen_ok];exact Lh hsh us (fun j hj=>(hcell j (by simp only[Sh.size] at hj;omega)).1),by simpa using hV⟩
 .rename_i nm o;obtain ⟨⟨bx,cs⟩,iO,h⟩:=bn.1 h
  cases hx with
  | ptr nm o b hl=>
   have aU:m.get nm=some (.obj bx cs):=by
    unfold ai.obj? at iO
    split at iO
    .rename_i hh;simp at iO;rw[hh,iO.1,iO.2]
    .cases iO
   obtain ⟨b',c,e,AF,hB,tJ,hsz,hV,_⟩:=hm.obj nm bx cs aU;obtain rfl:b=b':=by simpa [hl] using AF
   have hcell:∀j,j<cs.length->w.cell? ⟨b,j,none⟩=some (c.getD j undef):=fun j hj=>by
    rw[cell_of_row w b j c e (0,0) tJ];simp[Array.getD,show j<c.size by omega]
   obtain ⟨h1,h2⟩:=O7 _ hV h
   cases sh with
   | none=>
    obtain ⟨hlt,hV⟩:=h1 rfl;exact ⟨_,by simp only[Instr.loadAt,Instr.sureAddr,Sem.run_bind,Sem.run_pure,Result.andThen_ok];exact Lh hsh (fun j=>c.getD (o+j) undef) (fun j hj=>hcell _ (by simp only[Sh.size] at hj;omega)),hV⟩
   | some n=>
    obtain ⟨hlt,hV⟩:=h2 n rfl;exact ⟨_,by simp only[Instr.loadAt,Instr.sureAddr,Sem.run_bind,Sem.run_pure,Result.andThen_ok];exact Lh hsh (fun j=>c.getD (o+j) undef) (fun j hj=>hcell _ (by simp only[Sh.size] at hj;omega)),hV⟩
 .cases h
theorem uf{sh:Sh}{e:AV}(h:dJ sh e=true):e.cells.length=sh.size:=by
 cases sh with
 | none=>cases e<;>simp_all [dJ,fG,AV.cells,Sh.size]
 | some n=>cases e<;>simp_all [dJ,AV.cells,Sh.size]
theorem EB{x:AV}{v:Value}(h:V w g x v)(ha:fG x=true):v.oneCell'=true/\v.cells = #[v]:=by
 cases h<;>first|(simp[fG] at ha;done)|exact ⟨rfl,rfl⟩
theorem Ji{sh:Sh}{x:AV}{v:Value}(h:V w g x v)(hs:dJ sh x=true):v.cells.size=sh.size/\(∀j,j<sh.size->V w g (x.cells.getD j .any) (v.cells.getD j undef))/\∀u∈v.cells.toList,u.oneCell'=true:=by
 cases sh with
 | none=>
  have ha:fG x=true:=hs;obtain ⟨h1,h2⟩:=EB h ha
  have hx:x.cells=[x]:=by cases x<;>first|rfl|(simp[fG] at ha)
  rw[h2,hx]
  refine ⟨rfl,fun j hj=>?_,fun u hu=>?_⟩
  .obtain rfl:j=0:=by simp only[Sh.size] at hj;omega
   simpa using h
  .simp at hu;rw[hu];exact h1
 | some n=>
  cases h<;>first|(simp[dJ] at hs;done)|skip
  rename_i cs vs hl hv;simp[dJ] at hs;obtain ⟨hn,hall⟩:=hs;refine ⟨by simp[Value.cells,Sh.size];omega,fun j hj=>hv j (by simp only[Sh.size] at hj;omega),fun u hu=>?_⟩;obtain ⟨j,hj,rfl⟩:=vU.1 hu;have hG:j<cs.length:=by simp[Value.cells] at hj;omega
  have:=hv j hG;simp[Value.cells] at hj;have hc:=hall cs[j] (bA hG);have:=EB this (by simpa [aT,hG] using hc);simpa [Value.cells,Array.getD,hj] using this.1
theorem tq{sh:Sh}:∀{es:List AV},(∀e∈es,dJ sh e=true)->(dH es).length=es.length*sh.size
 | [],_=>aA
 | e::es,h=>by
  have h1:=uf (h e aA);have h2:=tq (es:=es) fun x hx=>h x (by simp[hx]);simp only[vO,aW,h1,ba,rE];rw[h2];omega
theorem X3{sh:Sh}:∀{es:List AV},(∀e∈es,dJ sh e=true)->∀(i j:Nat) (hi:i<es.length),j<sh.size->(dH es).getD (i*sh.size+j) .any=(es[i].cells).getD j .any
 | [],_,_,_,hi,_=>by simp at hi
 | e::es,h,i,j,hi,hj=>by
  have h1:=uf (h e aA)
  cases i with
  | zero=>simp[aT,rA,h1,hj]
  | succ i=>
   have ih:=X3 (es:=es) (fun x hx=>h x (by simp[hx])) i j (by simpa using hi) hj;have:(i+1)*sh.size+j=e.cells.length+(i*sh.size+j):=by rw[h1,rE];omega
   rw[this];simp only[vO,List.getElem_cons_succ];rw[<- ih];simp only[aT,rA];rw[an aa];simp
theorem uO{e:Nat}{sh:Sh}(h:oO P e sh=true):∃i z,P.info? e=some i/\i.size=sh.size/\0<i.size/\i.zero=some z/\z.cells.size=i.size/\(sh=none->∀cs,z≠.agg cs):=by
 unfold oO at h
 split at h
 .rename_i i hi;simp at h;obtain ⟨⟨h1,h2⟩,h3⟩:=h
  split at h3
  .rename_i z hz;simp at h3;refine ⟨i,z,hi,h1,h2,hz,h3.1,?_⟩;rintro rfl cs rfl;simp at h3
  .simp at h3
 .cases h
theorem qaV{i n s j:Nat}(hi:i<n)(hj:j<s):i*s+j<n*s:=by
 have:(i+1)*s<=n*s:=jl _ hi;rw[rE] at this;omega
theorem qrf{e:Nat}{sh:Sh}{x i v:AV}{x' i':Value}(hx:V w g x x')(hi:V w g i i')(h:aI sh x i=some v)(t:Nat)(ht:P.underlying t=some (.slice e))(he:oO P e sh=true) :
  ∃v',(Instr.indexAt t x' i').run P w=.ok v' w/\V w g v v':=by
 obtain ⟨inf,z,tL,hs,jd,_,_,_⟩:=uO he;unfold aI at h
 split at h
 .rename_i k i;cases hi
  split at h
  .rename_i sh' z o es
   split at h
   .rename_i hsh;subst hsh
    split at h
    .rename_i h0;obtain ⟨el,mH,rfl⟩:=iq.1 h;obtain ⟨hlt,mH⟩:=vQ.1 mH
     cases hx with
     | nils=>simp at hlt
     | lst _ o es a cap us hsp hc hm hsh hcell hv ho=>
      have hall:∀e∈es,dJ sh' e=true:=fun e he=>(hsh e he).1;have cE:i<(es.length:Int):=aa;have hfl:=tq hall;have hsp:a.spot=none:=hsp.resolve_left aa;have ha:a=⟨a.block,a.off,none⟩:=by cases a;simp_all
      refine ⟨.pointer (some ⟨a.block,a.off+i.toNat*sh'.size,none⟩),?_,?_⟩
      .rw[ha];simp[Instr.indexAt,asIntOf,run_underlying ht,h0,cE,qb tL,nY,hs]
      .have hcl:el.cells.length=sh'.size:=uf (hall el (mH▸bA hlt))
       refine .vptr _ _ _ (fun j=>us (i.toNat*sh'.size+j)) (fun j hj=>?_) (fun j hj=>?_)
       .have:=hcell (i.toNat*sh'.size+j) (by rw[hfl];exact qaV hlt aa);rw[oH];exact ⟨this.1,this.2.1⟩
       .have h1:=hv (i.toNat*sh'.size+j) (by rw[hfl];exact qaV hlt aa);rw[X3 hall i.toNat j hlt aa,mH] at h1;exact h1
    .cases h
   .cases h
  .rename_i nm off n sh'
   split at h
   .rename_i hsh;subst hsh
    split at h
    .rename_i hb;simp at h;subst h
     cases hx with
     | arr _ _ _ _ a cap hsp hc hm hl=>
      obtain ⟨hl,ha,_⟩:=hl.resolve_left aa;refine ⟨.pointer (some ⟨a.block,off+i.toNat*sh'.size,none⟩),?_,.ptr _ _ _ hl⟩;rw[ha];simp[Instr.indexAt,asIntOf,run_underlying ht,hb.1,hb.2,qb tL,nY,hs]
    .cases h
   .cases h
  .rename_i n sh' cs
   split at h
   .rename_i hsh;subst hsh
    split at h
    .rename_i hb;simp only[cg] at h;subst h
     cases hx with
     | vec _ _ _ a cap us hsp hc hm hn iC hcell hv=>
      have ha:a=⟨a.block,a.off,none⟩:=by
       have:=hsp.resolve_left aa;cases a;simp_all
      have hle:i.toNat*sh'.size+sh'.size<=cs.length:=by
       rw[hn,<- rE];exact jl _ aa
      have hlen:((cs.drop (i.toNat*sh'.size)).take sh'.size).length=sh'.size:=by simp;omega
      refine ⟨.pointer (some ⟨a.block,a.off+i.toNat*sh'.size,none⟩),?_,.vptr _ _ _ (fun j=>us (i.toNat*sh'.size+j)) (fun j hj=>?_) (fun j hj=>?_)⟩
      .rw[ha];simp[Instr.indexAt,asIntOf,run_underlying ht,hb.1,hb.2,qb tL,nY,hs]
      .rw[hlen] at hj;have:=hcell (i.toNat*sh'.size+j) aa;rw[<- oH] at this;exact this
      .rw[hlen] at hj;have:=hv (i.toNat*sh'.size+j) aa
       have e1:((cs.drop (i.toNat*sh'.size)).take sh'.size).getD j .any=cs.getD (i.toNat*sh'.size+j) .any:=by
        simp[aT,rB,te,hj]
       rw[e1];exact this
    .cases h
   .cases h
  .cases h
 .cases h
theorem ql4{e n:Nat}{sh:Sh}{x i v:AV}{x' i':Value}(hx:V w g x x')(hi:V w g i i')(h:OT n sh x i=some v)(t:Nat)(ht:P.underlying t=some (.array n e))(he:oO P e sh=true) :
  ∃v',(Instr.indexAt t x' i').run P w=.ok v' w/\V w g v v':=by
 obtain ⟨inf,z,tL,hs,jd,_,_,_⟩:=uO he;unfold OT at h
 split at h
 .rename_i k i;cases hi
  split at h
  .rename_i hb;unfold aL at h
   split at h
   .rename_i cs
    split at h
    .rename_i hlt;simp at h;subst h
     cases hx with
     | vptr cs b o us hcell hv=>
      refine ⟨.pointer (some ⟨b,o+i.toNat*sh.size,none⟩),by simp[Instr.indexAt,asIntOf,run_underlying ht,Instr.sureAddr,hb.1,hb.2,qb tL,nY,hs],?_⟩
      refine .vptr _ _ _ (fun j=>us (i.toNat*sh.size+j)) (fun j hj=>?_) (fun j hj=>?_)
      .have:=hcell (i.toNat*sh.size+j) (by simp at hj;omega);simpa [oH] using this
      .have:=hv (i.toNat*sh.size+j) (by simp at hj;omega);simpa [aT,te] using this
    .cases h
   .rename_i nm o;simp at h;subst h
    cases hx with
    | ptr nm o b hl=>exact ⟨.pointer (some ⟨b,o+i.toNat*sh.size,none⟩),by simp[Instr.indexAt,asIntOf,run_underlying ht,Instr.sureAddr,hb.1,hb.2,qb tL,nY,hs],.ptr _ _ _ hl⟩
   .cases h
  .cases h
 .cases h
theorem qrg{x i v:AV}{x' i':Value}(hx:V w g x x')(hi:V w g i i')(h:tY x i=some v)(t:Nat)(ht:P.underlying t=some .string) :
  ∃v',(Instr.index t x' i').run P w=.ok v' w/\V w g v v':=by
 unfold tY at h
 split at h
 .rename_i s k i;cases hx;cases hi
  split at h
  .rename_i h0;obtain ⟨b,hb,rfl⟩:=iq.1 h;exact ⟨_,by simp[Instr.index,asIntOf,run_underlying ht,h0,hb],.int _ _⟩
  .cases h
 .cases h
def su(w:World)(g:G):Option AV->Option Value->Prop
 | none,none=>True
 | some x,some x'=>V w g x x'
 | _,_=>False
theorem EL{y Y d r:Nat}{x:AV}{x':Value}(hx:V w g x x')(hY:y<=Y)(h:je y (some x) d=some r)(code:BoundsCode) :
  (Instr.sliceBound x' Y code).run P w=.ok r w/\r<=y:=by
 unfold je at h
 split at h
 .rename_i heq;cases heq
 .rename_i k i heq;simp at heq;subst heq;cases hx
  split at h
  .rename_i hb;simp at h;subst h;have h2:i<=(Y:Int):=aa;exact ⟨by simp[Instr.sliceBound,asIntOf,hb.1,h2],aa⟩
  .cases h
 .cases h
theorem Jq{isS:Bool}{len cap h l:Nat}{lo hi:Option AV}{lo' gu:Option Value}(iE:su w g lo lo')(qw:su w g hi gu)(hc:len<=cap)
  (h1:je len hi len=some h) (h2:je h lo 0=some l):(Instr.sliceBounds isS len cap lo' gu none).run P w=.ok (l,h,cap) w/\l<=h/\h<=len:=by
 have e1:(match gu with|some v=>Instr.sliceBound v cap (if isS then .sliceAcap else .sliceAlen)|none=>pure len:Sem Nat).run P w=.ok h w/\h<=len:=by
  cases hi with
  | none=>
   cases gu with
   | none=>simp[je] at h1;subst h1;exact ⟨rfl,aR _⟩
   | some _=>exact qw.elim
  | some x=>
   cases gu with
   | none=>exact qw.elim
   | some x'=>exact EL qw hc h1 _
 have e2:(match lo' with|some v=>Instr.sliceBound v h .sliceB|none=>pure 0:Sem Nat).run P w=.ok l w/\l<=h:=by
  cases lo with
  | none=>
   cases lo' with
   | none=>simp[je] at h2;subst h2;exact ⟨rfl,oJ _⟩
   | some _=>exact iE.elim
  | some x=>
   cases lo' with
   | none=>exact iE.elim
   | some x'=>exact EL iE (aR _) h2 _
 refine ⟨?_,e2.2,e1.2⟩;have a1:=e1.1;have a2:=e2.1;cases gu<;>cases lo'<;>simp_all [Instr.sliceBounds]
theorem Xd{len cap mx h l:Nat}{lo hi:Option AV}{mv:AV}{lo' gu:Option Value}{mv':Value}(iE:su w g lo lo')(qw:su w g hi gu)(hmv:V w g mv mv')(hc:len<=cap)
  (h0:je len (some mv) 0=some mx) (h1:je mx hi 0=some h) (h2:je h lo 0=some l) (qq0:hi.isSome):(Instr.sliceBounds true len cap lo' gu (some mv')).run P w=.ok (l,h,mx) w/\l<=h/\h<=mx/\mx<=len:=by
 obtain ⟨e0,e0'⟩:=EL (P:=P) hmv hc h0 .slice3Acap
 cases hi with
 | none=>simp at qq0
 | some x=>
  cases gu with
  | none=>exact qw.elim
  | some x'=>
   obtain ⟨e1,e1'⟩:=EL (P:=P) qw (aR _) h1 .slice3B
   cases lo with
   | none=>
    cases lo' with
    | none=>
     simp[je] at h2;subst h2;exact ⟨by simp[Instr.sliceBounds,e0,e1],oJ _,e1',e0'⟩
    | some _=>exact iE.elim
   | some y=>
    cases lo' with
    | none=>exact iE.elim
    | some y'=>
     obtain ⟨e2,e2'⟩:=EL (P:=P) iE (aR _) h2 .slice3C;exact ⟨by simp[Instr.sliceBounds,e0,e1,e2],e2',e1',e0'⟩
theorem Pr{sh:Sh}:∀{es:List AV},(∀e∈es,dJ sh e=true)->∀l,dH (es.drop l)=(dH es).drop (l*sh.size)
 | [],_,l=>aA
 | e::es,h,0=>aA
 | e::es,h,l+1=>by
  have h1:=uf (h e aA);have ih:=Pr (es:=es) (fun x hx=>h x (by simp[hx])) l;have e1:List.drop ((l+1)*sh.size) e.cells=[]:=gU (by rw[h1,rE];omega);have e2:(l+1)*sh.size-e.cells.length=l*sh.size:=by rw[h1,rE];omega
  show dH (es.drop l)=(e.cells++dH es).drop ((l+1)*sh.size);rw[ih,List.drop_append,e1,e2];simp
theorem Ps{sh:Sh}:∀{es:List AV},(∀e∈es,dJ sh e=true)->∀l,dH (es.take l)=(dH es).take (l*sh.size)
 | [],_,l=>aA
 | e::es,h,0=>aA
 | e::es,h,l+1=>by
  have h1:=uf (h e aA);have ih:=Ps (es:=es) (fun x hx=>h x (by simp[hx])) l;have e1:List.take ((l+1)*sh.size) e.cells=e.cells:=iX (by rw[h1,rE];omega);have e2:(l+1)*sh.size-e.cells.length=l*sh.size:=by rw[h1,rE];omega
  show e.cells++dH (es.take l)=(e.cells++dH es).take ((l+1)*sh.size);rw[ih,List.take_append,e1,e2]
theorem qk4{sh:Sh}{o o':Own}{es:List AV}{a:Addr}{cap l h m:Nat}(hx:V w g (.lst sh false o es) (.slice (some a) es.length cap))(hl:l<=h)(hh:h<=es.length)(Y5:h<=m)(hm:m<=cap)
  (ho:o'=.no\/o'=.full/\h=m):V w g (.lst sh false o' ((es.take h).drop l)) (.slice (some (if m=l then a else a.add (l*sh.size))) (h-l) (m-l)):=by
 generalize hn:es.length=n at hx
 cases hx with
 | lst _ o es a cap us hsp hc hm' hsh hcell hv FD=>
  have hall:∀e∈es,dJ sh e=true:=fun e he=>(hsh e he).1;have hlen:((es.take h).drop l).length=h-l:=by simp;omega
  have ha:¬ m=l->a=⟨a.block,a.off,none⟩:=fun j0=>by
   have:=hsp.resolve_left aa;cases a;simp_all
  have gz:∀e∈(es.take h).drop l,e∈es:=fun e he=>uC (List.mem_of_mem_drop he);rw[<- hlen];have Zi:m-l<=maxLen:=aa
  by_cases j0:m=l
  .have h0:h=l:=aa;have wP:(es.take h).drop l=[]:=oF aa;rw[aq j0,wP];refine .lst sh o' [] a _ us (.inl aa) (oJ _) Zi aA aA aA ?_
   rcases ho with rfl|⟨rfl,_⟩
   .trivial
   .show m-l=0;omega
  .rw[an j0];have ha:=ha j0
   refine .lst sh o' _ _ _ (fun j=>us (l*sh.size+j)) (.inr (by rw[ha,nY])) aa Zi (fun e he=>hsh e (gz e he)) (fun j hj=>?_) (fun j hj=>?_) ?_
   .rw[Pr (fun e he=>hall e (uC he)),Ps hall] at hj
    have hG:l*sh.size+j<(dH es).length:=by
     simp only[pn,im] at hj;omega
    have:=hcell _ hG;rw[ha,nY];simpa [oH] using this
   .rw[Pr (fun e he=>hall e (uC he)),Ps hall] at hj ⊢
    have uV:l*sh.size+j<h*sh.size:=by
     simp only[pn,im] at hj;omega
    have hG:l*sh.size+j<(dH es).length:=by
     simp only[pn,im] at hj;omega
    have:=hv _ hG;simpa [aT,te,rB,uV] using this
   .rcases ho with rfl|⟨rfl,fT⟩
    .trivial
    .show m-l=_;rw[hlen,fT]
theorem qtK{e:Nat}{sh sh':Sh}{z:Bool}{o:Own}{es:List AV}{v:AV}{x':Value}{lo hi mx:Option AV}{lo' gu mx':Option Value}(hx:V w g (.lst sh' z o es) x')(iE:su w g lo lo')(qw:su w g hi gu)(hmx:su w g mx mx')
  (h:o0 (.lst sh' z o es) lo hi mx=some v) (t:Nat) (ht:P.underlying t=some (.slice e)) (hsh:jG P e=some sh) (he:oO P e sh=true) (hs:sh'=sh\/es=[]) :
  ∃v',(Instr.sliceAt t x' lo' gu mx').run P w=.ok v' w/\V w g v v':=by
 obtain ⟨inf,z0,tL,jL,jd,_,_,_⟩:=uO he
 have key:∀(l hh m:Nat) (o':Own),(∀len cap a,x'=.slice a len cap->(Instr.sliceBounds true len cap lo' gu mx').run P w=.ok (l,hh,m) w/\m<=cap)->l<=hh->hh<=es.length->hh<=m->(o'=.no\/o'=.full/\hh=m) ->
   ∃v',(Instr.sliceAt t x' lo' gu mx').run P w=.ok v' w/\V w g (.lst sh' z o' ((es.take hh).drop l)) v':=by
  intro l hh m o' hb hl PY Y5 ho
  cases hx with
  | nils _ o Zn=>
   obtain ⟨hb1,hb2⟩:=hb 0 0 none rfl;have h1:hh=0:=by simpa using PY
   have h2:l=0:=aa;have h3:m=0:=aa;subst h1;subst h2;subst h3
   refine ⟨.slice none 0 0,?_,?_⟩
   .simp[Instr.sliceAt,run_underlying ht,Instr.slice,hb1,qb tL]
   .simp only[List.take_nil,List.drop_nil]
    exact .nils _ _ (by rcases ho with rfl|⟨rfl,_⟩<;>simp)
  | lst _ o es a cap us hsp hc hm' Qs hcell hv FD=>
   obtain ⟨hb1,hb2⟩:=hb es.length cap (some a) rfl
   refine ⟨.slice (some (if m=l then a else a.add (l*sh'.size))) (hh-l) (m-l),?_,qk4 (.lst sh' o es a cap us hsp hc hm' Qs hcell hv FD) hl PY Y5 hb2 ho⟩
   simp only[Instr.sliceAt,Sem.run_bind,run_underlying ht,Result.andThen_ok,Instr.slice,hb1,qb tL,Sem.run_pure]
   rcases hs with rfl|rfl
   .by_cases j0:m=l<;>simp[j0,jL]
   .have h1:hh=0:=by simpa using PY
    have h2:l=0:=aa;subst h2;by_cases j0:m=0<;>simp[j0]
 unfold o0 at h;simp only at h
 cases mx with
 | none=>
  cases mx' with
  | some _=>exact hmx.elim
  | none=>
   simp only at h;obtain ⟨hh,h1,h⟩:=bn.1 h;obtain ⟨l,h2,h⟩:=bn.1 h;simp at h;subst h
   have hcap:∀len cap a,x'=.slice a len cap->len=es.length/\len<=cap:=by
    rintro len cap a rfl;cases hx<;>simp_all
   cases hx with
   | nils _ o Zn=>
    obtain ⟨b1,b2,b3⟩:=Jq (P:=P) (isS:=true) iE qw (aR 0) h1 h2;exact key l hh 0 .no (by rintro len cap a h;cases h;exact ⟨b1,aR _⟩) b2 b3 b3 (.inl rfl)
   | lst _ o es a cap us hsp hc hm' Qs hcell hv FD=>
    obtain ⟨b1,b2,b3⟩:=Jq (P:=P) (isS:=true) iE qw hc h1 h2;exact key l hh cap .no (by rintro len cap a h;cases h;exact ⟨b1,aR _⟩) b2 b3 aa (.inl rfl)
 | some mv=>
  cases mx' with
  | none=>exact hmx.elim
  | some mv'=>
   cases hi with
   | none=>simp at h
   | some tS=>
    simp only at h;obtain ⟨m,h0,h⟩:=bn.1 h;obtain ⟨hh,h1,h⟩:=bn.1 h;obtain ⟨l,h2,h⟩:=bn.1 h
    cases hx with
    | nils _ o Zn=>
     obtain ⟨b1,b2,b3,b4⟩:=Xd (P:=P) iE qw hmx (aR 0) h0 h1 h2 rfl
     split at h
     .rename_i hm;simp at h;subst h;have:=key l hh m .full (by rintro len cap a h;cases h;exact ⟨b1,b4⟩) b2 (by simp at b4 ⊢;omega) b3 (.inr ⟨rfl,hm⟩);simpa using this
     .simp at h;subst h;have:=key l hh m .no (by rintro len cap a h;cases h;exact ⟨b1,b4⟩) b2 (by simp at b4 ⊢;omega) b3 (.inl rfl);simpa using this
    | lst _ o es a cap us hsp hc hm' Qs hcell hv FD=>
     obtain ⟨b1,b2,b3,b4⟩:=Xd (P:=P) iE qw hmx hc h0 h1 h2 rfl
     split at h
     .rename_i hm;simp at h;subst h;exact key l hh m .full (by rintro len cap a h;cases h;exact ⟨b1,aa⟩) b2 aa b3 (.inr ⟨rfl,hm⟩)
     .simp at h;subst h;exact key l hh m .no (by rintro len cap a h;cases h;exact ⟨b1,aa⟩) b2 aa b3 (.inl rfl)
theorem qtJ{e:Nat}{nm off n:Nat}{sh:Sh}{v:AV}{x':Value}{lo hi:Option AV}{lo' gu:Option Value}(hx:V w g (.arr nm off n sh) x')(iE:su w g lo lo')(qw:su w g hi gu)
  (h:o0 (.arr nm off n sh) lo hi none=some v) (t:Nat) (ht:P.underlying t=some (.slice e)) (he:oO P e sh=true) :
  ∃v',(Instr.sliceAt t x' lo' gu none).run P w=.ok v' w/\V w g v v':=by
 obtain ⟨inf,z0,tL,jL,jd,_,_,_⟩:=uO he;unfold o0 at h;simp only at h;obtain ⟨hh,h1,h⟩:=bn.1 h;obtain ⟨l,h2,h⟩:=bn.1 h;simp at h;subst h
 cases hx with
 | arr _ _ _ _ a cap hsp hc hm hl=>
  obtain ⟨b1,b2,b3⟩:=Jq (P:=P) (isS:=true) iE qw hc h1 h2
  refine ⟨.slice (some (if cap=l then a else a.add (l*sh.size))) (hh-l) (cap-l),?_,.arr _ _ _ _ _ _ (by
    by_cases j0:cap=l
    .exact .inl aa
    .right;have hsp:=hsp.resolve_left aa;have ha:a=⟨a.block,a.off,none⟩:=by cases a;simp_all
     rw[an j0,ha,nY]) aa aa ?_⟩
  .simp only[Instr.sliceAt,Sem.run_bind,run_underlying ht,Result.andThen_ok,Instr.slice,b1,qb tL,Sem.run_pure];by_cases j0:cap=l<;>simp[j0,jL]
  .by_cases h0:hh-l=0
   .exact .inl h0
   .refine .inr ?_;obtain ⟨nQ,ha,c,e,qT,hc2⟩:=hl.resolve_left aa;rw[an aa,ha,nY];refine ⟨nQ,rfl,c,e,qT,?_⟩;have e1:l*sh.size+(cap-l)*sh.size=cap*sh.size:=by rw[<- iI];congr 1;omega
    omega
theorem qtL{s:ByteArray}{v:AV}{x':Value}{lo hi:Option AV}{lo' gu:Option Value}(hx:V w g (.str s) x')(iE:su w g lo lo')(qw:su w g hi gu)
  (h:o0 (.str s) lo hi none=some v) (t:Nat) (ht:P.underlying t=some .string) :
  ∃v',(Instr.sliceAt t x' lo' gu none).run P w=.ok v' w/\V w g v v':=by
 unfold o0 at h;simp only at h;obtain ⟨hh,h1,h⟩:=bn.1 h;obtain ⟨l,h2,h⟩:=bn.1 h;simp at h;subst h;cases hx;obtain ⟨b1,b2,b3⟩:=Jq (P:=P) (isS:=false) iE qw (aR _) h1 h2;exact ⟨_,by simp[Instr.sliceAt,run_underlying ht,Instr.slice,b1],.str _⟩
end
end Go.Ab
namespace Go.Ab
open Go.RowKit
theorem PC(m:ai)(e:Option Ent)(nm:Nat):ai.get (m++[e]) nm=if nm<m.length then m.get nm else if nm=m.length then e else none:=by
 unfold ai.get
 by_cases h:nm<m.length
 .simp[h,rA]
 .by_cases h2:nm=m.length
  .subst h2;simp
  .rw[an h,an h2,pk (by simp;omega)];rfl
theorem gV(m:ai)(nm:Nat)(e:Option Ent)(n:Nat):ai.get (m.set nm e) n=if n=nm then (if nm<m.length then e else none) else m.get n:=by
 unfold ai.get
 by_cases h:n=nm
 .subst h
  by_cases h2:n<m.length
  .simp[h2]
  .simp[h2]
 .rw[List.getElem?_set,an aa,an h]
theorem bW{m:ai}{nm:Nat}{e:Ent}(h:m.get nm=some e):nm<m.length:=by
 unfold ai.get at h
 rcases sq nm m.length with hl|hl
 .exact hl
 .rw[pk hl] at h;cases h
theorem qK{g:G}{m:ai}{nm b:Nat}(h:bj g m nm=some b):(∃bx cs,m.get nm=some (.obj bx cs)/\g.loc nm=some b)\/(∃n sz,m.get nm=some (.tok n sz)/\g.tloc nm n=some b)\/∃kk es,m.get nm=some (.mp kk es)/\g.loc nm=some b:=by
 unfold bj at h
 split at h
 .exact .inl ⟨_,_,by assumption,h⟩
 .exact .inr (.inl ⟨_,_,by assumption,h⟩)
 .cases h
 .exact .inr (.inr ⟨_,_,by assumption,h⟩)
 .cases h
section
variable [WInv] {B:Nat} {w:World} {g:G} {m:ai}
theorem MemR.blk_lt(h:MemR B w g m){nm b:Nat}(hb:bj g m nm=some b):B<=b/\b<w.heap.size:=by
 rcases qK hb with ⟨bx,cs,h1,h2⟩|⟨n,sz,h1,h2⟩|⟨kk,es,h1,h2⟩
 .obtain ⟨b',c,e,h3,h4,h5,_⟩:=h.obj nm bx cs h1;obtain rfl:b=b':=by simpa [h2] using h3
  exact ⟨h4,(fP.1 h5).1⟩
 rotate_left
 .obtain ⟨b',es',cl,h3,h4,h5,_⟩:=h.mp nm kk es h1;obtain rfl:b=b':=by simpa [h2] using h3
  exact ⟨h4,(fP.1 h5).1⟩
 .obtain ⟨b',c,e,h3,h4,h5,_⟩:=h.tok nm n sz h1;obtain rfl:b=b':=by simpa [h2] using h3
  exact ⟨h4,(fP.1 h5).1⟩
theorem MemR.keep(h:MemR B w g m){w':World}{g':G}(s:Step B w g w' g')(tJ:∀b,B<=b->b<w.heap.size->w'.heap[b]?=w.heap[b]?)
  (sN:∀b off,g.wr b off->g'.wr b off) (jR:g'.loc=g.loc) (fJ:g'.tloc=g.tloc) (hlt:∀b off,g'.wr b off->b<w'.heap.size) (hbx:∀b,g'.box b->b<w'.heap.size):MemR B w' g' m where
 obj nm bx cs hn:=by
  obtain ⟨b,c,e,h1,h2,h3,h4,h5,h6,h7⟩:=h.obj nm bx cs hn;exact ⟨b,c,e,by rw[jR];exact h1,h2,(tJ b h2 (fP.1 h3).1).trans h3,h4,fun j hj=>(h5 j hj).step s,fun off=>sN _ _ (h6 off),(s.box b (fP.1 h3).1).trans h7⟩
 tok nm n sz hn:=by
  obtain ⟨b,c,e,h1,h2,h3,h4,h5,h6⟩:=h.tok nm n sz hn;exact ⟨b,c,e,by rw[fJ];exact h1,h2,(tJ b h2 (fP.1 h3).1).trans h3,fun off ho=>sN _ _ (h4 off ho),fun n' hn'=>by rw[fJ];exact h5 n' hn',fun hb=>h6 ((s.box b (fP.1 h3).1).1 hb)⟩
 resv nm hn:=by rw[jR,fJ];exact h.resv nm hn
 fresh nm hn:=by rw[jR,fJ];exact h.fresh nm hn
 inj nm nm' b h1 h2:=by
  have e:bj g' m=bj g m:=by funext x;unfold bj;rw[jR,fJ]
  rw[e] at h1 h2;exact h.inj nm nm' b h1 h2
 wrLt:=hlt
 inv:=h.invS s
 boxLt:=hbx
 mp nm kk es hn:=by
  obtain ⟨b,es',cl,h1,h2,h3,h4⟩:=h.mp nm kk es hn;exact ⟨b,es',cl,by rw[jR];exact h1,h2,(tJ b h2 (fP.1 h3).1).trans h3,h4.step s⟩
theorem Step.drew(B:Nat)(w:World)(g:G):Step B w g w.drew g:=
 ⟨(Below.refl _ _).drew,fun _ _ _ _ h=>h,fun _ c _ _ h=>⟨c,h,rfl⟩,fun _ _ _ h=>h,fun _ _ _=>Iff.rfl,fun _ _=>Iff.rfl,fun _ _ h=>h,fun _ _ _ h=>h⟩
theorem Step.alloc{B:Nat}{w:World}{g g':G}(hB:B<=w.heap.size)(o:Obj)(sN:∀b off,b<w.heap.size->(g'.wr b off↔g.wr b off))(tF:∀b,b<w.heap.size->(g'.box b↔g.box b))
  (jR:∀nm b,g.loc nm=some b->g'.loc nm=some b) (fJ:∀nm n b,g.tloc nm n=some b->g'.tloc nm n=some b):Step B w g (w.alloc o) g' where
 below:=(Below.refl _ _).alloc hB o
 cell b off u _ hc:=(World.cell?_alloc_lt w o _ (uJ hc)).trans hc
 shape b c e fr hb:=⟨c,(Go.heap_alloc_old w o (fP.1 hb).1).trans hb,rfl⟩
 wr b off hb hn:=fun hw=>hn ((sN b off hb).1 hw)
 wrB b off hb:=sN b off aa
 box b hb:=tF b hb
 loc:=jR
 tloc:=fJ
theorem MemR.alloc_imm(h:MemR B w g m)(hB:B<=w.heap.size)(o:Obj):Step B w g (w.alloc o) g/\MemR B (w.alloc o) g m:=by
 have s:=Step.alloc (g:=g) hB o (fun _ _ _=>Iff.rfl) (fun _ _=>Iff.rfl) (fun _ _ h=>h) (fun _ _ _ h=>h);exact ⟨s,h.keep s (fun b _ hb=>Go.heap_alloc_old w o hb) (fun _ _ h=>h) rfl rfl (fun b off hw=>by have:=h.wrLt b off hw;simp;omega) (fun b hb=>by have:=h.boxLt b hb;simp;omega)⟩
def ig(g:G)(nm b:Nat)(bx:Bool):G where
 wr b' off:=b'=b\/g.wr b' off
 box b':=(bx=true/\b'=b)\/g.box b'
 loc n:=if n=nm then some b else g.loc n
 tloc:=g.tloc
structure Slot (g:G) (m:ai) (nm:Nat) (e:Ent) (m':ai):Prop where
 get:∀x,ai.get m' x=if x=nm then some e else m.get x
 fresh:g.loc nm=none/\∀n,g.tloc nm n=none
 len:∀x,m'.length<=x->m.length<=x/\x≠nm
theorem MemR.slot(h:MemR B w g m){d:Option Nat}(hd:∀s,d=some s->m.get s=some .resv)(e:Ent):Slot g m (az d m .resv).1 e (az d m e).2:=by
 cases d with
 | none=>
  refine ⟨fun x=>?_,h.fresh _ (aR _),fun x hx=>?_⟩
  .show ai.get (m++[some e]) x=if x=m.length then some e else m.get x
   rw[PC]
   by_cases h1:x=m.length
   .rw[an aa,aq h1,aq h1]
   .rw[an h1,an h1]
    by_cases h2:x<m.length
    .rw[aq h2]
    .rw[an h2];unfold ai.get;rw[pk aa];rfl
  .simp only[az,aW,vS] at hx ⊢;omega
 | some s=>
  have hs:=hd s rfl;have hlt:=bW hs
  refine ⟨fun x=>?_,h.resv s hs,fun x hx=>?_⟩
  .show ai.get (m.set s (some e)) x=if x=s then some e else m.get x
   rw[gV,aq hlt]
  .simp only[az,il] at hx ⊢;omega
theorem MemR.alloc_obj(h:MemR B w g m)(hB:B<=w.heap.size)(c:Array Value)(e:TypeId)(cs:List AV)(hl:cs.length<=c.size)(hv:∀j,j<cs.length->V w g (cs.getD j .any) (c.getD j undef))(bx:Bool){nm:Nat}{m':ai}(hs:Slot g m nm (.obj bx cs) m') :
  Step B w g (w.alloc (.cells c e)) (ig g nm w.heap.size bx)/\MemR B (w.alloc (.cells c e)) (ig g nm w.heap.size bx) m':=by
 have mc:=hs.fresh;have pB:=h.boxLt
 have s:Step B w g (w.alloc (.cells c e)) (ig g nm w.heap.size bx):=by
  refine Step.alloc hB _ (fun b off hb=>?_) (fun b hb=>?_) (fun x b hb=>?_) (fun _ _ _ h=>h)
  .simp only[ig];constructor
   .rintro (rfl|h)<;>first|omega|exact h
   .exact .inr
  .simp only[ig];constructor
   .rintro (⟨_,rfl⟩|h)<;>first|omega|exact h
   .exact .inr
  .simp only[ig]
   split
   .rename_i he;rw[he,mc.1] at hb;cases hb
   .exact hb
 have hblk:∀x b,bj (ig g nm w.heap.size bx) m' x=some b->(x≠nm/\bj g m x=some b)\/(x=nm/\b=w.heap.size):=by
  intro x b hb
  rcases qK hb with ⟨bx',cs',h1,h2⟩|⟨n,sz,h1,h2⟩|⟨kk,es,h1,h2⟩
  .rw[hs.get] at h1
   split at h1
   .rename_i he;simp only[ig,aq he] at h2;exact .inr ⟨he,by simpa using h2.symm⟩
   .rename_i hne;simp only[ig,an hne] at h2;exact .inl ⟨hne,by simp[bj,h1,h2]⟩
  .rw[hs.get] at h1
   split at h1
   .simp at h1
   .rename_i hne;simp only[ig] at h2;exact .inl ⟨hne,by simp[bj,h1,h2]⟩
  .rw[hs.get] at h1
   split at h1
   .simp at h1
   .rename_i hne;simp only[ig,an hne] at h2;exact .inl ⟨hne,by simp[bj,h1,h2]⟩
 refine ⟨s,?_,?_,?_,?_,?_,?_,?_,?_,?mp⟩
 case mp=>
  intro x kk es hn;rw[hs.get] at hn
  split at hn
  .simp at hn
  .obtain ⟨b,es',cl,h1,h2,h3,h4⟩:=h.mp x kk es hn;exact ⟨b,es',cl,s.loc _ _ h1,h2,(Go.heap_alloc_old w _ (fP.1 h3).1).trans h3,h4.step s⟩
 .intro x bx' cs' hn;rw[hs.get] at hn
  split at hn
  .rename_i he;simp only[cg,Ent.obj.injEq] at hn;obtain ⟨rfl,rfl⟩:=hn;refine ⟨w.heap.size,c,e,by simp[ig,he],hB,heap_alloc_new w _,hl,fun j hj=>(hv j hj).step s,fun off=>.inl rfl,?_⟩;simp only[ig]
   constructor
   .rintro (⟨h,_⟩|h)
    .exact h
    .exact absurd (pB _ h) (xR _)
   .intro h;exact .inl ⟨h,trivial⟩
  .obtain ⟨b,c',e',h1,h2,h3,h4,h5,h6,h7⟩:=h.obj x bx' cs' hn;exact ⟨b,c',e',s.loc _ _ h1,h2,(Go.heap_alloc_old w _ (fP.1 h3).1).trans h3,h4,fun j hj=>(h5 j hj).step s,fun off=>.inr (h6 off),(s.box b (fP.1 h3).1).trans h7⟩
 .intro x n sz hn;rw[hs.get] at hn
  split at hn
  .simp at hn
  .obtain ⟨b,c',e',h1,h2,h3,h4,h5,h6⟩:=h.tok x n sz hn;exact ⟨b,c',e',h1,h2,(Go.heap_alloc_old w _ (fP.1 h3).1).trans h3,fun off ho=>.inr (h4 off ho),h5,fun hb=>h6 ((s.box b (fP.1 h3).1).1 hb)⟩
 .intro x hn;rw[hs.get] at hn
  split at hn
  .simp at hn
  .rename_i hne;have:=h.resv x hn;exact ⟨by simp only[ig];rw[an hne];exact this.1,this.2⟩
 .intro x hn;obtain ⟨h1,h2⟩:=hs.len x hn;have:=h.fresh x h1;exact ⟨by simp only[ig];rw[an h2];exact this.1,this.2⟩
 .intro x x' b h1 h2
  rcases hblk _ _ h1 with ⟨a1,a2⟩|⟨a1,a2⟩<;>rcases hblk _ _ h2 with ⟨b1,b2⟩|⟨b1,b2⟩
  .exact h.inj _ _ _ a2 b2
  .have:=(h.blk_lt a2).2;omega
  .have:=(h.blk_lt b2).2;omega
  .omega
 .rintro b off (rfl|hw)
  .simp
  .have:=h.wrLt b off hw;simp;omega
 .exact h.invS s
 .rintro b (⟨_,rfl⟩|hw)
  .simp
  .have:=h.boxLt b hw;simp;omega
def jg(g:G)(nm b n sz:Nat):G where
 wr b' off:=(b'=b/\n*sz<=off)\/g.wr b' off
 box:=g.box
 loc:=g.loc
 tloc nm' n':=if nm'=nm/\n'=n then some b else g.tloc nm' n'
theorem MemR.alloc_tok(h:MemR B w g m)(hB:B<=w.heap.size)(c:Array Value)(e:TypeId)(n sz:Nat){nm:Nat}{m':ai}(hs:Slot g m nm (.tok n sz) m') :
  Step B w g (w.alloc (.cells c e)) (jg g nm w.heap.size n sz)/\MemR B (w.alloc (.cells c e)) (jg g nm w.heap.size n sz) m':=by
 have mc:=hs.fresh
 have s:Step B w g (w.alloc (.cells c e)) (jg g nm w.heap.size n sz):=by
  refine Step.alloc hB _ (fun b off hb=>?_) (fun b hb=>Iff.rfl) (fun x b hb=>hb) (fun x n' b hb=>?_)
  .simp only[jg];constructor
   .rintro (⟨rfl,_⟩|h)<;>first|omega|exact h
   .exact .inr
  .simp only[jg]
   split
   .rename_i he;rw[he.1,mc.2] at hb;cases hb
   .exact hb
 have hblk:∀x b,bj (jg g nm w.heap.size n sz) m' x=some b->(x≠nm/\bj g m x=some b)\/(x=nm/\b=w.heap.size):=by
  intro x b hb
  rcases qK hb with ⟨bx',cs',h1,h2⟩|⟨n',sz',h1,h2⟩|⟨kk,es,h1,h2⟩
  .rw[hs.get] at h1
   split at h1
   .simp at h1
   .rename_i hne;simp only[jg] at h2;exact .inl ⟨hne,by simp[bj,h1,h2]⟩
  rotate_left
  .rw[hs.get] at h1
   split at h1
   .simp at h1
   .rename_i hne;simp only[jg] at h2;exact .inl ⟨hne,by simp[bj,h1,h2]⟩
  .rw[hs.get] at h1
   split at h1
   .rename_i he;simp only[cg,Ent.tok.injEq] at h1;simp only[jg,aq (show x=nm/\n'=n from ⟨he,h1.1.symm⟩)] at h2;exact .inr ⟨he,by simpa using h2.symm⟩
   .rename_i hne;simp only[jg,an (show ¬ (x=nm/\n'=n) from fun h=>hne h.1)] at h2;exact .inl ⟨hne,by simp[bj,h1,h2]⟩
 refine ⟨s,?_,?_,?_,?_,?_,?_,?_,?_,?mp⟩
 case mp=>
  intro x kk es hn;rw[hs.get] at hn
  split at hn
  .simp at hn
  .obtain ⟨b,es',cl,h1,h2,h3,h4⟩:=h.mp x kk es hn;exact ⟨b,es',cl,h1,h2,(Go.heap_alloc_old w _ (fP.1 h3).1).trans h3,h4.step s⟩
 .intro x bx' cs' hn;rw[hs.get] at hn
  split at hn
  .simp at hn
  .obtain ⟨b,c',e',h1,h2,h3,h4,h5,h6,h7⟩:=h.obj x bx' cs' hn;exact ⟨b,c',e',h1,h2,(Go.heap_alloc_old w _ (fP.1 h3).1).trans h3,h4,fun j hj=>(h5 j hj).step s,fun off=>.inr (h6 off),(s.box b (fP.1 h3).1).trans h7⟩
 .intro x n' sz' hn;rw[hs.get] at hn
  split at hn
  .rename_i he;simp only[cg,Ent.tok.injEq] at hn;obtain ⟨rfl,rfl⟩:=hn;refine ⟨w.heap.size,c,e,by simp[jg,he],hB,heap_alloc_new w _,fun off ho=>.inl ⟨rfl,ho⟩,fun n'' yz=>?_,fun hb=>xR _ (h.boxLt _ hb)⟩;simp only[jg];rw[an aa,he];exact mc.2 n''
  .rename_i hne;obtain ⟨b,c',e',h1,h2,h3,h4,h5,h6⟩:=h.tok x n' sz' hn;refine ⟨b,c',e',s.tloc _ _ _ h1,h2,(Go.heap_alloc_old w _ (fP.1 h3).1).trans h3,fun off ho=>.inr (h4 off ho),fun n'' yz=>?_,fun hb=>h6 ((s.box b (fP.1 h3).1).1 hb)⟩;simp only[jg];rw[an (fun h=>hne h.1)];exact h5 n'' yz
 .intro x hn;rw[hs.get] at hn
  split at hn
  .simp at hn
  .rename_i hne;have:=h.resv x hn;exact ⟨this.1,fun n'=>by simp only[jg];rw[an (fun h=>hne h.1)];exact this.2 n'⟩
 .intro x hn;obtain ⟨h1,h2⟩:=hs.len x hn;have:=h.fresh x h1;exact ⟨this.1,fun n'=>by simp only[jg];rw[an (fun h=>h2 h.1)];exact this.2 n'⟩
 .intro x x' b h1 h2
  rcases hblk _ _ h1 with ⟨a1,a2⟩|⟨a1,a2⟩<;>rcases hblk _ _ h2 with ⟨b1,b2⟩|⟨b1,b2⟩
  .exact h.inj _ _ _ a2 b2
  .have:=(h.blk_lt a2).2;omega
  .have:=(h.blk_lt b2).2;omega
  .omega
 .rintro b off (⟨rfl,_⟩|hw)
  .simp
  .have:=h.wrLt b off hw;simp;omega
 .exact h.invS s
 .intro b hw;have:=h.boxLt b hw;simp;omega
theorem uc{cs vs:List AV}{off:Nat}(h:off+vs.length<=cs.length):(b9 cs off vs).length=cs.length:=by
 simp[b9];omega
theorem Dd{cs vs:List AV}{off:Nat}(h:off+vs.length<=cs.length)(j:Nat):(b9 cs off vs).getD j .any=if off<=j/\j<off+vs.length then vs.getD (j-off) .any else cs.getD j .any:=by
 unfold b9;have hlen:(cs.take off).length=off:=by simp;omega
 simp only[aT,gR,rA,hlen,rB,te]
 by_cases h1:j<off
 .rw[aq h1,aq h1,an aa]
 .rw[an h1]
  by_cases h2:j-off<vs.length
  .rw[aq h2,aq aa]
  .rw[an h2,an aa,show off+vs.length+(j-off-vs.length)=j by omega]
theorem Pu(off:Nat):∀(vs:List Value) (i:Nat) (cs:Array Value),(off+i+vs.length<=cs.size) ->
  ((vs.zipIdx i).foldl (fun cs (c,j)=>cs.setIfInBounds (off+j) c) cs).size=cs.size /\
  ∀k,((vs.zipIdx i).foldl (fun cs (c,j)=>cs.setIfInBounds (off+j) c) cs).getD k undef=if off+i<=k/\k<off+i+vs.length then vs.getD (k-(off+i)) undef else cs.getD k undef
 | [],i,cs,_=>by
  refine ⟨rfl,fun k=>?_⟩;simp only[List.zipIdx_nil,List.foldl_nil,bo];rw[an aa]
 | v::vs,i,cs,h=>by
  simp only[ba] at h;obtain ⟨h1,h2⟩:=Pu off vs (i+1) (cs.setIfInBounds (off+i) v) (by simp;omega);simp only[List.zipIdx_cons,vP];refine ⟨by rw[h1];simp,fun k=>?_⟩;rw[h2];simp only[ba]
  by_cases hk:off+(i+1)<=k/\k<off+(i+1)+vs.length
  .rw[aq hk,aq aa,show k-(off+i)=(k-(off+(i+1)))+1 by omega]
   rfl
  .rw[an hk]
   by_cases jB:k=off+i
   .subst jB;rw[aq aa];simp[Array.getD,show off+i<cs.size by omega]
   .rw[an aa];simp only[jX];rw[G2,an aa]
theorem Pn{w:World}{g:G}(place:Nat->Option (Nat×Nat)):∀(parts:List (Nat×Sh×AV)) (ps:List (Nat×Value)) (cs cs':List AV) (c:Array Value),
  parts.length=ps.length->(∀k (h:k<parts.length) (h':k<ps.length),place ps[k].1=some (parts[k].1,(parts[k].2.1).size)/\V w g parts[k].2.2 ps[k].2) ->
  cs.length=c.size->(∀j,j<cs.length->V w g (cs.getD j .any) (c.getD j undef))->E3 cs parts=some cs' ->
  ∃c',Instr.fill place c ps=some c'/\cs'.length=c'.size/\cs'.length=cs.length/\∀j,j<cs'.length->V w g (cs'.getD j .any) (c'.getD j undef)
 | [],ps,cs,cs',c,hl,_,hc,hv,h=>by
  obtain rfl:ps=[]:=oF (by simpa using hl.symm);simp[E3] at h;subst h;exact ⟨c,rfl,hc,rfl,hv⟩
 | (off,sh,x)::parts,ps,cs,cs',c,hl,hp,hc,hv,h=>by
  match ps,hl with
  | (i,v)::ps,hl=>
  obtain ⟨hpl,hV⟩:=hp 0 aA aA;simp only[List.getElem_cons_zero] at hpl hV;simp only[E3] at h
  split at h
  .rename_i hsh
   split at h
   .rename_i hle;obtain ⟨lh,hvc,_⟩:=Ji hV hsh;have FT:=uf hsh;obtain ⟨f1,f2⟩:=Pu off v.cells.toList 0 c (by simp;omega);simp only[kU,Array.length_toList] at f2
    have hz:(v.cells.zipIdx.foldl (fun cs (c,j)=>cs.setIfInBounds (off+j) c) c)=(v.cells.toList.zipIdx.foldl (fun cs (c,j)=>cs.setIfInBounds (off+j) c) c):=by
     rw[<- Array.foldl_toList,Array.toList_zipIdx]
    have ih:=Pn place parts ps (b9 cs off x.cells) cs' (v.cells.zipIdx.foldl (fun cs (c,j)=>cs.setIfInBounds (off+j) c) c) (by simpa using hl)
     (fun k h1 h2=>by have:=hp (k+1) (by simpa using h1) (by simpa using h2);simpa using this)
     (by rw[hz,f1,uc aa];exact hc)
     (fun j hj=>by
      rw[uc aa] at hj;rw[hz,f2,Dd aa]
      by_cases hk:off<=j/\j<off+x.cells.length
      .rw[aq hk,aq aa];have:=hvc (j-off) aa;simpa [aT,jX] using this
      .rw[an hk,an aa];exact hv j hj) h
    obtain ⟨c',h1,h2,h3,h4⟩:=ih;refine ⟨c',?_,h2,by rw[h3,uc aa],h4⟩;simp only[Instr.fill,hpl];rw[an (by simp;omega)];exact h1
   .cases h
  .cases h
section
variable [WInv] {P:Program} {B:Nat} {w:World} {g:G} {m:ai}
theorem G1{t:Nat}{z:AV}(h:sY P t=some z):∃i v,P.info? t=some i/\i.zero=some v/\z=iN v:=by
 unfold sY at h
 split at h
 .rename_i i hi;obtain ⟨v,hv,rfl⟩:=iq.1 h;exact ⟨i,v,hi,hv,rfl⟩
 .cases h
theorem Sv(w:World)(g:G)(v:Value):(iN v).cells.length=v.cells.size/\∀j,j<v.cells.size->V w g ((iN v).cells.getD j .any) (v.cells.getD j undef):=by
 have iC:∀v:Value,(qo v).cells=[qo v]:=fun v=>by unfold qo;split<;>rfl
 by_cases ha:∃cs,v=.agg cs
 .obtain ⟨cs,rfl⟩:=ha;refine ⟨by simp[iN,AV.cells,Value.cells],fun j hj=>?_⟩;simp only[Value.cells] at hj
  have:(iN (.agg cs)).cells.getD j .any=qo (cs.getD j undef):=by
   simp[iN,AV.cells,aT,Array.getD,hj]
  rw[this];exact Jh _ _ _
 .have h1:iN v=qo v:=by
   unfold iN
   split
   .exact absurd ⟨_,rfl⟩ ha
   .rfl
  have h2:v.cells = #[v]:=by
   unfold Value.cells
   split
   .exact absurd ⟨_,rfl⟩ ha
   .rfl
  rw[h1,iC,h2];refine ⟨rfl,fun j hj=>?_⟩;obtain rfl:j=0:=by simp at hj;omega
  exact Jh _ _ _
def pj(P:Program)(B:Nat)(w:World)(g:G)(s:Sem Value)(v:AV)(m':ai):Prop:=
 ∃v' w' g',s.run P w=.ok v' w'/\Step B w g w' g'/\MemR B w' g' m'/\V w' g' v v'
theorem pj.same(hm:MemR B w g m){s:Sem Value}{v:AV}(h:∃v',s.run P w=.ok v' w/\V w g v v'):pj P B w g s v m:=
 let ⟨v',h1,h2⟩:=h;⟨v',w,g,h1,.refl _ _ _,hm,h2⟩
theorem VW(g:G)(nm b:Nat)(bx:Bool)(w':World):V w' (ig g nm b bx) (.ptr nm 0) (.pointer (some ⟨b,0,none⟩)):=.ptr _ _ _ (by simp[ig])
theorem qlU(hm:MemR B w g m)(hB:B<=w.heap.size){d:Option Nat}(hd:∀s,d=some s->m.get s=some .resv){t:Nat}{z:AV}(h:sY P t=some z):pj P B w g (Instr.alloc t true (.tuple #[])) (.ptr (az d m .resv).1 0) (az d m (.obj true z.cells)).2:=by
 obtain ⟨i,v,hi,hv,rfl⟩:=G1 h;obtain ⟨h1,h2⟩:=Sv w g v;obtain ⟨s,hm'⟩:=hm.alloc_obj hB v.cells t (iN v).cells aa (fun j hj=>h2 j aa) true (hm.slot hd _);refine ⟨_,_,_,?_,s,hm',VW _ _ _ _ _⟩;simp[Instr.alloc,zeroValue,typeInfo,hi,hv,newVar,newRow]
theorem qos(hm:MemR B w g m)(hB:B<=w.heap.size){d:Option Nat}(hd:∀s,d=some s->m.get s=some .resv){t:Nat}{sh:Sh}{x r:AV}{m':ai}{x':Value}(hx:V w g x x')(h:dp d sh m x=some (r,m')):pj P B w g (Instr.box t x') r m':=by
 unfold dp at h
 split at h
 .rename_i hs;simp at h;obtain ⟨rfl,rfl⟩:=h;obtain ⟨h1,h2,_⟩:=Ji hx hs;have hl:=uf hs;obtain ⟨s,hm'⟩:=hm.alloc_obj hB x'.cells t x.cells aa (fun j hj=>h2 j aa) true (hm.slot hd _);refine ⟨_,_,_,?_,s,hm',VW _ _ _ _ _⟩;simp[Instr.box,newVar,newRow]
 .cases h
theorem qtW{b:Nat}:∀(vs:List Value) (off i:Nat) (w:World) (c:Array Value) (e:TypeId),w.heap[b]?=some (Obj.cells c e (0,0))->off+i+vs.length<=c.size->(∀v∈vs,v.oneCell'=true) ->
  ∃w',(storeCells ⟨b,off,none⟩ vs i).run P w=.ok () w'/\w'=w.setRow b (c.toList.take (off+i)++vs++c.toList.drop (off+i+vs.length)).toArray:=
 fun vs off i w c e hb hl h1=>⟨_,run_storeCells_at P b off e vs i c w hb hl h1,rfl⟩
theorem MemR.write(hm:MemR B w g m){nm b:Nat}{cs cs':List AV}{c c':Array Value}{e:TypeId}{bx:Bool}(hn:m.get nm=some (.obj bx cs))(hl:g.loc nm=some b)(hb:w.heap[b]?=some (Obj.cells c e (0,0)))(hsz:c'.size=c.size)(hcl:cs'.length<=c'.size)
  (hv:∀j,j<cs'.length->V w g (cs'.getD j .any) (c'.getD j undef)):Step B w g (w.setRow b c') g/\MemR B (w.setRow b c') g (m.set nm (some (.obj bx cs'))):=by
 obtain ⟨b',c0,e0,h1,h2,h3,h4,h5,h6,h7⟩:=hm.obj nm bx cs hn;obtain rfl:b=b':=by simpa [hl] using h1
 have nc:∀k,k≠b->(w.setRow b c').heap[k]?=w.heap[k]?:=fun k hk=>setRow_other w b k c' hk;have CR:(w.setRow b c').heap[b]?=some (Obj.cells c' e (0,0)):=setRow_heap w b c c' e _ hb;have yI:(w.setRow b c').heap.size=w.heap.size:=aA
 have s:Step B w g (w.setRow b c') g:=by
  refine ⟨⟨rfl,rfl,rfl,aa,fun k hk=>nc k aa⟩,fun b' off u hw hc=>?_,fun b' c1 e1 fr gO=>?_,fun _ _ _ h=>h,fun _ _ _=>Iff.rfl,fun _ _=>Iff.rfl,fun _ _ h=>h,fun _ _ _ h=>h⟩
  .have hne:b'≠b:=fun he=>hw (he▸h6 off);exact (World.cell?_of_block (w:=w) (a:=⟨b',off,none⟩) (nc b' hne)).trans hc
  .by_cases he:b'=b
   .subst he;rw[hb] at gO;simp only[cg,Obj.cells.injEq] at gO;obtain ⟨rfl,rfl,rfl⟩:=gO;exact ⟨c',CR,hsz⟩
   .exact ⟨c1,(nc b' he).trans gO,rfl⟩
 have hlt:=bW hn
 have hblk:∀x b',bj g (m.set nm (some (.obj bx cs'))) x=some b'->bj g m x=some b':=by
  intro x b' hx
  rcases qK hx with ⟨bx1,cs1,a1,a2⟩|⟨n1,sz1,a1,a2⟩|⟨kk1,es1,a1,a2⟩
  rotate_left 2
  .rw[gV] at a1
   split at a1
   .simp at a1
   .simp[bj,a1,a2]
  .rw[gV] at a1
   split at a1
   .rename_i he;subst he;simp[bj,hn,a2]
   .simp[bj,a1,a2]
  .rw[gV] at a1
   split at a1
   .simp at a1
   .simp[bj,a1,a2]
 have tE:bj g m nm=some b:=by simp[bj,hn,hl]
 refine ⟨s,?_,?_,?_,?_,?_,?_,?_,?_,?mp⟩
 case mp=>
  intro x kk es hx;rw[gV] at hx
  split at hx
  .simp at hx
  .rename_i hne;obtain ⟨b1,es1,cl1,a1,a2,a3,a4⟩:=hm.mp x kk es hx;have mG:b1≠b:=fun he=>by rw[he,hb] at a3;cases a3
   exact ⟨b1,es1,cl1,a1,a2,(nc b1 mG).trans a3,a4.step s⟩
 .intro x bx1 cs1 hx;rw[gV] at hx
  split at hx
  .rename_i he;subst he;simp at hx;obtain ⟨rfl,rfl⟩:=hx;exact ⟨b,c',e,hl,h2,CR,hcl,fun j hj=>(hv j hj).step s,h6,h7⟩
  .rename_i hne;obtain ⟨b1,c1,e1,a1,a2,a3,a4,a5,a6⟩:=hm.obj x bx1 cs1 hx;have mG:b1≠b:=fun he=>hne (hm.inj x nm b (by simp[bj,hx,a1,he]) tE);exact ⟨b1,c1,e1,a1,a2,(nc b1 mG).trans a3,a4,fun j hj=>(a5 j hj).step s,a6⟩
 .intro x n1 sz1 hx;rw[gV] at hx
  split at hx
  .simp at hx
  .rename_i hne;obtain ⟨b1,c1,e1,a1,a2,a3,a4,a5,a6⟩:=hm.tok x n1 sz1 hx;have mG:b1≠b:=fun he=>hne (hm.inj x nm b (by simp[bj,hx,a1,he]) tE);exact ⟨b1,c1,e1,a1,a2,(nc b1 mG).trans a3,a4,a5,a6⟩
 .intro x hx;rw[gV] at hx
  split at hx
  .simp at hx
  .exact hm.resv x hx
 .intro x hx;exact hm.fresh x (by simpa using hx)
 .intro x x' b' h1 h2;exact hm.inj x x' b' (hblk x b' h1) (hblk x' b' h2)
 .intro b' off hw;rw[yI];exact hm.wrLt b' off hw
 .exact hm.invS s
 .intro b' hw;rw[yI];exact hm.boxLt b' hw
theorem obj?_get{m:ai}{nm:Nat}{bx:Bool}{cs:List AV}(h:m.obj? nm=some (bx,cs)):m.get nm=some (.obj bx cs):=by
 unfold ai.obj? at h
 split at h
 .rename_i hh;simp at h;rw[hh,h.1,h.2]
 .cases h
theorem qtX(hm:MemR B w g m){t:Nat}{sh:Sh}{x v:AV}{m':ai}{x' v':Value}(hx:V w g x x')(hv:V w g v v')(hsh:jG P t=some sh)(h:aP sh m x v=some m') :
  ∃w',(Instr.storeAt t x' v').run P w=.ok () w'/\Step B w g w' g/\MemR B w' g m':=by
 unfold aP at h
 split at h
 .rename_i nm off;obtain ⟨⟨bx,cs⟩,iO,h⟩:=bn.1 h
  split at h
  .rename_i hle;simp only at hle h
   split at h
   .rename_i hs;simp at h;subst h;have hn:=obj?_get iO;obtain ⟨b,c,e,h1,h2,h3,h4,h5,h6,h7⟩:=hm.obj nm bx cs hn
    cases hx with
    | ptr _ _ b' hl=>
     obtain rfl:b=b':=by simpa [hl] using h1.symm
     obtain ⟨k1,k2,k3⟩:=Ji hv hs;have kl:=uf hs;obtain ⟨i,d,hi,hd,hsz,_⟩:=Dk hsh;obtain ⟨w',hr,rfl⟩:=qtW (P:=P) v'.cells.toList off 0 w c e h3 (by simp;omega) k3
     have u6:(c.toList.take (off+0)++v'.cells.toList++c.toList.drop (off+0+v'.cells.toList.length)).toArray.size=c.size:=by
      simp;omega
     obtain ⟨s,hm'⟩:=hm.write (cs':=b9 cs off v.cells) (c':=(c.toList.take (off+0)++v'.cells.toList++c.toList.drop (off+0+v'.cells.toList.length)).toArray) hn hl h3 u6 (by rw[u6,uc aa];omega)
      (fun j hj=>by
       rw[uc aa] at hj;rw[Dd aa];have kr:j<c.size:=aa;have hlen:(c.toList.take off).length=off:=by simp;omega
       simp only[jX,B0,kU,gR,rA,hlen,rB,te,Array.length_toList]
       by_cases hk:off<=j/\j<off+v.cells.length
       .rw[aq hk,an aa,aq aa];have:=k2 (j-off) aa;simpa [jX] using this
       .rw[an hk];have tT:=h5 j hj
        by_cases uV:j<off
        .rw[aq uV,aq uV];simpa [jX] using tT
        .rw[an uV,an aa,show off+v'.cells.size+(j-off-v'.cells.size)=j by omega]
         simpa [jX] using tT)
     refine ⟨_,?_,s,hm'⟩;have hne:¬ (v'.cells.size≠i.size):=aa;simp only[Instr.storeAt,Instr.sureAddr,storeVar,Sem.run_bind,Sem.run_pure,Result.andThen_ok,qb hi,hne,lp];exact hr
   .cases h
  .cases h
 .cases h
theorem qaD(z:Array Value)(n k:Nat)(hz:0<z.size)(hk:k<n):(madeCells z n).getD k undef=z.getD (k%z.size) undef:=by
 have hlt:k%z.size<z.size:=kV _ hz;simp[madeCells,Array.getD,hk,hlt]
theorem qc7{sh:Sh}{zv:Value}{n:Nat}(hz:zv.cells.size=sh.size)(hne:sh=none->(iN zv).cells=[iN zv])(w:World)(g:G) :
  (sZ sh (iN zv) n).length=n*sh.size/\∀j,j<n*sh.size->V w g ((sZ sh (iN zv) n).getD j .any) (zv.cells.getD (j%zv.cells.size) undef):=by
 obtain ⟨h1,h2⟩:=Sv w g zv
 have key:∀n,((List.replicate n (iN zv).cells).flatten).length=n*sh.size/\∀j,j<n*sh.size->((List.replicate n (iN zv).cells).flatten).getD j .any=(iN zv).cells.getD (j%sh.size) .any:=by
  intro n
  induction n with
  | zero=>simp
  | succ n ih=>
   have hl:(iN zv).cells.length=sh.size:=aa;refine ⟨by simp only[zL,List.flatten_cons,aW,ih.1,hl,rE];omega,fun j hj=>?_⟩;simp only[zL,List.flatten_cons,aT,rA,hl]
   by_cases pY:j<sh.size
   .rw[aq pY,mz pY]
   .rw[an pY,Nat.mod_eq_sub_mod aa];rw[rE] at hj;simpa [aT] using ih.2 (j-sh.size) aa
 have hz':sZ sh (iN zv) n=(List.replicate n (iN zv).cells).flatten:=by
  cases sh with
  | none=>
   have:=hne rfl;simp only[sZ];rw[this]
   induction n with
   | zero=>rfl
   | succ n ih=>simp only[zL,List.flatten_cons,<- ih];rfl
  | some k=>rfl
 rw[hz'];refine ⟨(key n).1,fun j hj=>?_⟩;rw[(key n).2 j hj,hz]
 have jd:0<sh.size:=by
  rcases Nat.eq_zero_or_pos sh.size with h0|h0
  .rw[h0] at hj;simp at hj
  .exact h0
 exact h2 _ (by rw[hz];exact kV _ jd)
theorem qrS(hm:MemR B w g m)(hB:B<=w.heap.size){d:Option Nat}(hd:∀s,d=some s->m.get s=some .resv){t e:Nat}{sh:Sh}{z l c v:AV}{m':ai}{l' c':Value}(ht:P.underlying t=some (.slice e))(hsh:jG P e=some sh)(he:oO P e sh=true)(hz:sY P e=some z)
  (hl:V w g l l') (hc:V w g c c') (h:jy d e sh z (qp P e) m l c=some (v,m')):pj P B w g (Instr.makeSlice t l' c') v m':=by
 obtain ⟨i,zv,hi,hs,jd,oh,tW,rO⟩:=uO he;obtain ⟨i2,zv2,hi2,Qy,rfl⟩:=G1 hz;obtain rfl:i=i2:=by simpa [hi] using hi2
 obtain rfl:zv=zv2:=by simpa [oh] using Qy
 have hb:i.bytes<=qp P e:=by simp[qp,hi];omega
 have hz2:zv.cells.size=sh.size:=aa;unfold jy at h
 split at h
 .rename_i kl l kc c;cases hl;cases hc
  split at h
  .rename_i nO;obtain ⟨h0,P9,tG,tu⟩:=nO;have tG:c*(i.bytes:Int)<=281474976710656:=Int.le_trans (Int.mul_le_mul_of_nonneg_left aa aa) tG;have hr:=run_make (P:=P) w t e i zv ht hi oh kl kc l c h0 P9 (by rw[Int.mul_comm];exact tG) tu
   split at h
   .rename_i heq;subst heq;simp at h;obtain ⟨rfl,rfl⟩:=h
    have Kn:sh=none->(iN zv).cells=[iN zv]:=by
     intro hn
     have h1:iN zv=qo zv:=by
      unfold iN
      split
      .exact absurd rfl (rO hn _)
      .rfl
     rw[h1];unfold qo;split<;>rfl
    obtain ⟨z1,z2⟩:=qc7 (sh:=sh) (n:=l.toNat) hz2 Kn w g
    obtain ⟨s,hm'⟩:=hm.alloc_obj hB (madeCells zv.cells (l.toNat*i.size)) e (sZ sh (iN zv) l.toNat) (by rw[size_madeCells,z1,hs];exact aR _) (fun j hj=>by
     rw[z1] at hj;rw[qaD _ _ _ aa (by rw[hs];exact hj)]
     exact z2 j hj) false (hm.slot hd _)
    refine ⟨_,_,_,hr,s,hm',.arr _ _ _ _ _ _ (.inr rfl) (aR _) (by simp only[maxLen];omega) (.inr ⟨by simp[ig],rfl,_,_,heap_alloc_new w _,by rw[size_madeCells,hs,bq];exact aR _⟩)⟩
   .split at h
    .rename_i pF;subst pF;simp at h;obtain ⟨rfl,rfl⟩:=h;obtain ⟨s,hm'⟩:=hm.alloc_tok hB (madeCells zv.cells (c.toNat*i.size)) e 0 sh.size (hm.slot hd _);refine ⟨_,_,_,hr,s,hm',.lst sh (.tok (az d m .resv).1 e) [] ⟨w.heap.size,0,none⟩ _ (fun _=>undef) (.inr rfl) (oJ _) (by simp only[maxLen];omega) aA aA aA ?_⟩;exact ⟨by simp[jg],rfl,_,heap_alloc_new w _,by rw[size_madeCells,hs]⟩
    .cases h
  .cases h
 .cases h
theorem qaJ{α β:Type}(f:α->Option β):∀(l:List α) (r:List β),l.mapM f=some r->r.length=l.length/\∀k (h:k<l.length) (h':k<r.length),f l[k]=some r[k]
 | [],r,h=>by simp at h;subst h;simp
 | a::l,r,h=>by
  simp only[List.mapM_cons,Option.bind_eq_bind,bn,Option.pure_def,cg] at h;obtain ⟨b,hb,bs,pD,rfl⟩:=h;obtain ⟨h1,h2⟩:=qaJ f l bs pD;refine ⟨by simp[h1],fun k hk ck=>?_⟩
  cases k with
  | zero=>simpa using hb
  | succ k=>simpa using h2 k (by simpa using hk) (by simpa using ck)
theorem qb4(w:World):∀(l:List Field),(l.all fun f=>(P.info? f.type).isSome)=true->(l.mapM fun f=>do pure (f.offset,<- sizeOf f.type):Sem (List (Nat×Nat))).run P w=.ok (l.map fun f=>(f.offset,((P.info? f.type).map (·.size)).getD 0)) w
 | [],_=>aA
 | f::l,h=>by
  simp only[nF,cD] at h;obtain ⟨i,hi⟩:=Option.isSome_iff_exists.1 h.1;have ih:=qb4 w l h.2;simp only[List.mapM_cons,Sem.run_bind,qb hi,Result.andThen_ok,Sem.run_pure,ih,gh,hi,aQ,fk]
theorem qsB{t f:Nat}{fs:Array Field}(hu:P.underlying t=some (.struct fs)):Bh P t f=yh P t f:=by
 unfold Bh;rw[hu]
theorem qoA(hm:MemR B w g m){t:Nat}{z v:AV}{ps:Array (Nat×Operand)}{ρ:Operand->AV}{ρ':Operand->Value}(hρ:∀x,V w g (ρ x) (ρ' x))(ic:R5 P t=true)(hz:sY P t=some z)
  {l:List (Nat×Sh×AV)} (hl:ps.toList.mapM (fun p=>(Bh P t p.1).map fun f=>(f.1,f.2,ρ p.2))=some l) (h:fR z l=some v) :
  pj P B w g (Instr.build t (ps.map fun (i,x)=>(i,ρ' x))) v m:=by
 obtain ⟨i,zv,hi,oh,rfl⟩:=G1 hz;obtain ⟨h1,h2⟩:=Sv w g zv;obtain ⟨l1,l2⟩:=qaJ _ _ _ hl;unfold R5 at ic
 split at ic
 .rename_i fs hu;unfold fR at h
  split at h
  .rename_i cs iO;obtain ⟨cs',hf,rfl⟩:=iq.1 h;have yp:(iN zv).cells=cs:=by rw[iO];rfl
   rw[yp] at h1 h2
   let place:Nat->Option (Nat×Nat):=(((fs.toList.map fun f=>(f.offset,((P.info? f.type).map (·.size)).getD 0)).toArray)[·]?)
   obtain ⟨c',r1,r2,r3,r4⟩:=Pn (w:=w) (g:=g) place l ((ps.map fun (i,x)=>(i,ρ' x)).toList) cs cs' zv.cells (by simp[l1])
    (fun k hk ck=>by
     have:=l2 k aa hk;obtain ⟨⟨off,sh⟩,lQ,Fw⟩:=iq.1 this;rw[qsB hu] at lQ;obtain ⟨fs',fd,u1,u2,u3,u4,u5⟩:=Pl lQ;obtain rfl:fs=fs':=by simpa [hu] using u1
     obtain ⟨i',d,j1,j2,j3,_⟩:=Dk u3;simp only[<- Fw];refine ⟨?_,by simpa using hρ _⟩
     simp only[place,B0,mS,Array.toList_map,tf,Array.getElem?_toList,u2,aQ,u4,j1,fk,j3])
    h1 (fun j hj=>h2 j aa) hf
   refine pj.same hm ⟨.agg c',?_,.agg _ _ r2 r4⟩
   have hpl:(fs.mapM fun f=>do pure (f.offset,<- sizeOf f.type):Sem (Array (Nat×Nat))).run P w=.ok (fs.toList.map fun f=>(f.offset,((P.info? f.type).map (·.size)).getD 0)).toArray w:=by
    rw[Array.mapM_eq_mapM_toList];have:=qb4 (P:=P) w fs.toList (by rw[<- ic];simp);simp only[Sem.run_map,this,Result.andThen_ok]
   simp only[Instr.build,Sem.run_bind,zeroValue,typeInfo,run_program,Result.andThen_ok,hi,Sem.run_pure,oh,run_underlying hu,hpl];rw[show Instr.fill (fun x=>(List.map (fun (f:Field)=>(f.offset,((P.info? f.type).map (·.size)).getD 0)) fs.toList).toArray[x]?) zv.cells (Array.map (fun x=>(x.fst,ρ' x.snd)) ps).toList=some c' from r1]
   rfl
  .cases h
 .rename_i n e hu;unfold fR at h
  split at h
  .rename_i cs iO;obtain ⟨cs',hf,rfl⟩:=iq.1 h;have yp:(iN zv).cells=cs:=by rw[iO];rfl
   rw[yp] at h1 h2;obtain ⟨ie,J8⟩:=Option.isSome_iff_exists.1 ic
   obtain ⟨c',r1,r2,r3,r4⟩:=Pn (w:=w) (g:=g) (fun i=>some (i*ie.size,ie.size)) l ((ps.map fun (i,x)=>(i,ρ' x)).toList) cs cs' zv.cells (by simp[l1])
    (fun k hk ck=>by
     have:=l2 k aa hk;obtain ⟨⟨off,sh⟩,lQ,Fw⟩:=iq.1 this;unfold Bh at lQ;rw[hu] at lQ;simp only at lQ
     split at lQ
     .rename_i sh' hsh
      split at lQ
      .cases lQ
      .simp only[cg,fE] at lQ;obtain ⟨rfl,rfl⟩:=lQ;obtain ⟨i',d,j1,j2,j3,_⟩:=Dk hsh;obtain rfl:ie=i':=by simpa [J8] using j1
       simp only[<- Fw];refine ⟨?_,by simpa using hρ _⟩;simp[j3]
     .cases lQ)
    h1 (fun j hj=>h2 j aa) hf
   refine pj.same hm ⟨.agg c',?_,.agg _ _ r2 r4⟩;simp only[Instr.build,Sem.run_bind,zeroValue,typeInfo,sizeOf,run_program,Result.andThen_ok,hi,Sem.run_pure,oh,run_underlying hu,J8];rw[show Instr.fill (fun i=>some (i*ie.size,ie.size)) zv.cells (Array.map (fun x=>(x.fst,ρ' x.snd)) ps).toList=some c' from r1]
   rfl
  .cases h
 .cases ic
end
end
end Go.Ab
namespace Go.Ab
open Go.RowKit
section
variable [WInv] {P:Program} {B:Nat} {w:World} {g:G} {m:ai}
theorem VX{x:AV}{v:Value}(h:V w g x v):V w g (rl x) v:=by
 cases h with
 | lst sh o es a cap us hs hc hm hsh hcell hv ho=>
  cases o with
  | tok nm e=>exact .lst sh .no es a cap us hs hc hm hsh hcell hv trivial
  | no=>exact .lst sh .no es a cap us hs hc hm hsh hcell hv ho
  | full=>exact .lst sh .full es a cap us hs hc hm hsh hcell hv ho
 | nils sh o ho=>rcases ho with rfl|rfl<;>exact .nils sh _ aA
 | any=>exact .any _
 | int=>exact .int _ _
 | bool=>exact .bool _
 | str=>exact .str _
 | arr _ _ _ _ _ _ a b c d=>exact .arr _ _ _ _ _ _ a b c d
 | ptr _ _ _ a=>exact .ptr _ _ _ a
 | vptr _ _ _ _ a b=>exact .vptr _ _ _ _ a b
 | nilp=>exact .nilp
 | nilf=>exact .nilf
 | nile=>exact .nile
 | nilm=>exact .nilm
 | agg _ _ a b=>exact .agg _ _ a b
 | tup _ _ a b=>exact .tup _ _ a b
 | fn _ _ _ a b=>exact .fn _ _ _ a b
 | mref _ _ a=>exact .mref _ _ a
 | vec _ _ _ _ _ _ a b c d e f h=>exact .vec _ _ _ _ _ _ a b c d e f h
theorem qk3{x:AV}{v:Value}(h:V w g x v):V w g (mP x) v:=by
 by_cases hx:∃cs,x=.agg cs
 .obtain ⟨cs,rfl⟩:=hx
  cases h with
  | agg cs vs hl hv=>
   refine .agg _ _ (by simp[hl]) fun j hj=>?_;have hG:j<cs.length:=by simpa using hj
   have:=VX (hv j hG);have e:(cs.map rl).getD j .any=rl (cs.getD j .any):=by simp[aT,hG]
   rw[e];exact this
 .have e:mP x=rl x:=by cases x<;>first|rfl|exact absurd ⟨_,rfl⟩ hx
  rw[e];exact VX h
theorem Pp{sh:Sh}:∀{es:List AV},(∀e∈es,dJ sh e=true)->∀x∈dH es,fG x=true
 | [],_,x,hx=>by simp at hx
 | e::es,h,x,hx=>by
  simp only[vO,hZ] at hx
  rcases hx with hx|hx
  .have hs:=h e aA
   cases sh with
   | none=>
    have ha:fG e=true:=hs
    have hc:e.cells=[e]:=by cases e<;>first|rfl|(simp[fG] at ha)
    rw[hc] at hx;simp at hx;rw[hx];exact ha
   | some n=>
    cases e<;>first|(simp[dJ] at hs;done)|skip
    simp[dJ] at hs;exact hs.2 x (by simpa [AV.cells] using hx)
  .exact Pp (fun y hy=>h y (by simp[hy])) x hx
theorem EC{sh:Sh}{o:Own}{es:List AV}{a:Addr}{n cap:Nat}(h:V w g (.lst sh false o es) (.slice (some a) n cap)) :
  ∃vs:List Value,n=es.length/\vs.length=es.length*sh.size/\(∀j u,vs[j]?=some u->w.cell? (a.add j)=some u)/\(∀u∈vs,u.oneCell'=true) /\
   (∀j,j<vs.length->V w g ((dH es).getD j .any) (vs.getD j undef))/\(cap=0\/a=⟨a.block,a.off,none⟩)/\n<=cap/\cap<=maxLen/\(∀e∈es,dJ sh e=true/\pl e=true)/\C8 w g sh o es.length a cap /\
   (∀j,j<vs.length->¬ g.wr a.block (a.off+j)/\¬ g.box a.block):=by
 cases h with
 | lst _ _ es a cap us hs hc hm hsh hcell hv ho=>
  have hall:∀e∈es,dJ sh e=true:=fun e he=>(hsh e he).1;have hfl:=tq hall;have ha:cap=0\/a=⟨a.block,a.off,none⟩:=hs.imp id fun h=>by cases a;simp_all
  refine ⟨(List.range (es.length*sh.size)).map us,rfl,aA,fun j u hu=>?_,fun u hu=>?_,fun j hj=>?_,ha,hc,hm,hsh,ho,fun j hj=>?_⟩
  .have hj:j<es.length*sh.size:=by
    rcases sq j (es.length*sh.size) with hl|hl
    .exact hl
    .rw[pk (by simpa using hl)] at hu;cases hu
   simp[hj] at hu
   have ha:=ha.resolve_left (fun h0=>by
    have:es.length=0:=aa;rw[this,zM] at hj
    omega)
   rw[ha,nY,<- hu];exact (hcell j (by omega)).1
  .obtain ⟨j,hj,rfl⟩:=iw.1 hu;have hG:j<(dH es).length:=by rw[hfl];simpa using hj
   have h1:=hv j hG;have h2:=Pp hall (dH es)[j] (bA hG);have:(dH es).getD j .any=(dH es)[j]:=by rw[aT,bP hG];rfl
   rw[this] at h1;exact (EB h1 h2).1
  .have hG:j<es.length*sh.size:=by simpa using hj
   have:=hv j aa;simpa [aT,hG] using this
  .have hG:j<es.length*sh.size:=by simpa using hj
   exact (hcell j (by omega)).2
theorem Jj{sh:Sh}{o:Own}{es:List AV}{b cap:Nat}{c:Array Value}{e:TypeId}(hb:w.heap[b]?=some (Obj.cells c e (0,0)))(hc:es.length<=cap)(hm:cap<=maxLen)(hsh:∀e∈es,dJ sh e=true/\pl e=true)
  (hsz:es.length*sh.size<=c.size) (hv:∀j,j<es.length*sh.size->V w g ((dH es).getD j .any) (c.getD j undef)) (sN:∀j,j<es.length*sh.size->¬ g.wr b j) (hbx:¬ g.box b) (ho:C8 w g sh o es.length ⟨b,0,none⟩ cap) :
  V w g (.lst sh false o es) (.slice (some ⟨b,0,none⟩) es.length cap):=by
 have hfl:=tq (fun e he=>(hsh e he).1:∀e∈es,dJ sh e=true);refine .lst sh o es ⟨b,0,none⟩ cap (fun j=>c.getD j undef) (.inr rfl) hc hm hsh (fun j hj=>?_) (fun j hj=>hv j aa) ho;rw[hfl] at hj;refine ⟨?_,by simpa using sN j hj,hbx⟩;simp only[bq];rw[cell_of_row w b j c e (0,0) hb];simp[Array.getD,show j<c.size by omega]
theorem JP(xs ys:List AV):dH (xs++ys)=dH xs++dH ys:=by simp[dH]
theorem MemR.regrow(hm:MemR B w g m)(hB:B<=w.heap.size)(c:Array Value)(e:TypeId){nm k n sz:Nat}(hn:m.get nm=some (.tok k sz))(hk:k<n) :
  Step B w g (w.alloc (.cells c e)) (jg g nm w.heap.size n sz)/\MemR B (w.alloc (.cells c e)) (jg g nm w.heap.size n sz) (m.set nm (some (.tok n sz))):=by
 obtain ⟨b0,c0,e0,t1,t2,t3,t4,t5,t6⟩:=hm.tok nm k sz hn;have hlt:=bW hn
 have s:Step B w g (w.alloc (.cells c e)) (jg g nm w.heap.size n sz):=by
  refine Step.alloc hB _ (fun b off hb=>?_) (fun b hb=>Iff.rfl) (fun nm b hb=>hb) (fun nm' n' b hb=>?_)
  .simp only[jg];constructor
   .rintro (⟨rfl,_⟩|h)<;>first|omega|exact h
   .exact .inr
  .simp only[jg]
   split
   .rename_i he;rw[he.1,he.2,t5 n hk] at hb;cases hb
   .exact hb
 have hblk:∀x b,bj (jg g nm w.heap.size n sz) (m.set nm (some (.tok n sz))) x=some b->(x≠nm/\bj g m x=some b)\/(x=nm/\b=w.heap.size):=by
  intro x b hb
  rcases qK hb with ⟨bx',cs',h1,h2⟩|⟨n',sz',h1,h2⟩|⟨kk,es,h1,h2⟩
  .rw[gV] at h1
   split at h1
   .simp at h1
   .rename_i hne;exact .inl ⟨hne,by simp only[jg] at h2;simp[bj,h1,h2]⟩
  rotate_left
  .rw[gV] at h1
   split at h1
   .simp at h1
   .rename_i hne;exact .inl ⟨hne,by simp only[jg] at h2;simp[bj,h1,h2]⟩
  .rw[gV] at h1
   split at h1
   .rename_i he;simp at h1;simp only[jg,aq (show x=nm/\n'=n from ⟨he,h1.1.symm⟩)] at h2;exact .inr ⟨he,by simpa using h2.symm⟩
   .rename_i hne;simp only[jg,an (show ¬ (x=nm/\n'=n) from fun h=>hne h.1)] at h2;exact .inl ⟨hne,by simp[bj,h1,h2]⟩
 refine ⟨s,?_,?_,?_,?_,?_,?_,?_,?_,?mp⟩
 case mp=>
  intro x kk es hx;rw[gV] at hx
  split at hx
  .simp at hx
  .obtain ⟨b,es',cl,h1,h2,h3,h4⟩:=hm.mp x kk es hx;exact ⟨b,es',cl,h1,h2,(Go.heap_alloc_old w _ (fP.1 h3).1).trans h3,h4.step s⟩
 .intro x bx' cs' hx;rw[gV] at hx
  split at hx
  .simp at hx
  .obtain ⟨b,c',e',h1,h2,h3,h4,h5,h6,h7⟩:=hm.obj x bx' cs' hx;exact ⟨b,c',e',s.loc _ _ h1,h2,(Go.heap_alloc_old w _ (fP.1 h3).1).trans h3,h4,fun j hj=>(h5 j hj).step s,fun off=>.inr (h6 off),(s.box b (fP.1 h3).1).trans h7⟩
 .intro x n' sz' hx;rw[gV] at hx
  split at hx
  .rename_i he;simp at hx;obtain ⟨rfl,rfl⟩:=hx;subst he;refine ⟨w.heap.size,c,e,by simp[jg],hB,heap_alloc_new w _,fun off ho=>.inl ⟨rfl,ho⟩,fun n'' yz=>?_,fun hb=>xR _ (hm.boxLt _ hb)⟩;simp only[jg];rw[an aa];exact t5 n'' aa
  .rename_i hne;obtain ⟨b,c',e',h1,h2,h3,h4,h5,h6⟩:=hm.tok x n' sz' hx;refine ⟨b,c',e',s.tloc _ _ _ h1,h2,(Go.heap_alloc_old w _ (fP.1 h3).1).trans h3,fun off ho=>.inr (h4 off ho),fun n'' yz=>?_,h6⟩;simp only[jg];rw[an (fun h=>hne h.1)];exact h5 n'' yz
 .intro x hx;rw[gV] at hx
  split at hx
  .simp at hx
  .rename_i hne;have:=hm.resv x hx;exact ⟨this.1,fun n'=>by simp only[jg];rw[an (fun h=>hne h.1)];exact this.2 n'⟩
 .intro x hx;have:=hm.fresh x (by simpa using hx);have sO:m.length<=x:=by simpa using hx
  exact ⟨this.1,fun n'=>by simp only[jg];rw[an (fun h=>by have:=h.1;omega)];exact this.2 n'⟩
 .intro x x' b h1 h2
  rcases hblk _ _ h1 with ⟨a1,a2⟩|⟨a1,a2⟩<;>rcases hblk _ _ h2 with ⟨b1,b2⟩|⟨b1,b2⟩
  .exact hm.inj _ _ _ a2 b2
  .have:=(hm.blk_lt a2).2;omega
  .have:=(hm.blk_lt b2).2;omega
  .omega
 .rintro b off (⟨rfl,_⟩|hw)
  .simp
  .have:=hm.wrLt b off hw;simp;omega
 .exact hm.invS s
 .intro b hw;have:=hm.boxLt b hw;simp;omega
theorem MemR.drew(hm:MemR B w g m):MemR B w.drew g m:=hm.keep (Step.drew B w g) (fun _ _ _=>rfl) (fun _ _ h=>h) rfl rfl hm.wrLt hm.boxLt
theorem Yn(hm:MemR B w g m)(hB:B<=w.heap.size){d:Option Nat}(hd:∀s,d=some s->m.get s=some .resv){e:Nat}{sh:Sh}{es ys:List AV}{olds news:List Value}{rest:Array Value}{cap:Nat}(iE:olds.length=es.length*sh.size)(sL:news.length=ys.length*sh.size)
  (hes:∀e∈es,dJ sh e=true/\pl e=true) (qY:∀e∈ys,dJ sh e=true/\pl e=true)
  (vd:∀j,j<olds.length->V w g ((dH es).getD j .any) (olds.getD j undef)) (tU:∀j,j<news.length->V w g ((dH ys).getD j .any) (news.getD j undef)) (hcap:es.length+ys.length<=cap) (Kd:cap<=maxLen)
  (qqO:rest.size=(cap-(es.length+ys.length))*sh.size) :
  (∃g',Step B w g (w.drew.alloc (.cells (olds.toArray++news.toArray++rest) e)) g'/\MemR B (w.drew.alloc (.cells (olds.toArray++news.toArray++rest) e)) g' (az d m (.tok (es.length+ys.length) sh.size)).2/\V (w.drew.alloc (.cells (olds.toArray++news.toArray++rest) e)) g' (.lst sh false (.tok (az d m .resv).1 e) (es++ys)) (.slice (some ⟨w.heap.size,0,none⟩) (es.length+ys.length) cap)) /\
  (∃g',Step B w g (w.drew.alloc (.cells (olds.toArray++news.toArray++rest) e)) g'/\MemR B (w.drew.alloc (.cells (olds.toArray++news.toArray++rest) e)) g' (az d m (.obj false (dH (es++ys)))).2/\V (w.drew.alloc (.cells (olds.toArray++news.toArray++rest) e)) g' (.arr (az d m .resv).1 0 (es.length+ys.length) sh) (.slice (some ⟨w.heap.size,0,none⟩) (es.length+ys.length) cap)) /\
  (∀nm k,m.get nm=some (.tok k sh.size)->k<es.length+ys.length->∃g',Step B w g (w.drew.alloc (.cells (olds.toArray++news.toArray++rest) e)) g'/\MemR B (w.drew.alloc (.cells (olds.toArray++news.toArray++rest) e)) g' (m.set nm (some (.tok (es.length+ys.length) sh.size)))/\V (w.drew.alloc (.cells (olds.toArray++news.toArray++rest) e)) g' (.lst sh false (.tok nm e) (es++ys)) (.slice (some ⟨w.heap.size,0,none⟩) (es.length+ys.length) cap)):=by
 have pG:=hm.drew;have s1:=Step.drew B w g;have Au:B<=w.drew.heap.size:=hB;have AE:=tq (fun e he=>(hes e he).1:∀e∈es,dJ sh e=true);have YU:=tq (fun e he=>(qY e he).1:∀e∈ys,dJ sh e=true);have hmul:(es.length+ys.length)*sh.size=es.length*sh.size+ys.length*sh.size:=iI _ _ _
 have hall:∀e∈es++ys,dJ sh e=true/\pl e=true:=fun e he=>by
  rcases hZ.1 he with h|h
  .exact hes e h
  .exact qY e h
 have hlen:(es++ys).length=es.length+ys.length:=aA
 have hcell:∀j,j<(es.length+ys.length)*sh.size->V w g ((dH (es++ys)).getD j .any) ((olds.toArray++news.toArray++rest).getD j undef):=by
  intro j hj;rw[JP];simp only[aT,jX,rA,Array.getElem?_append,BC,List.size_toArray,B0,AE,iE,sL]
  by_cases h1:j<es.length*sh.size
  .rw[aq h1,aq aa,aq h1];simpa [aT] using vd j aa
  .rw[an h1,aq aa,an h1];simpa [aT] using tU (j-es.length*sh.size) aa
 have iO:(olds.toArray++news.toArray++rest).size=cap*sh.size:=by
  have:cap*sh.size=(es.length+ys.length)*sh.size+(cap-(es.length+ys.length))*sh.size:=by
   rw[<- iI];congr 1;omega
  simp only[BC,List.size_toArray];omega
 have uY:(w.drew.alloc (.cells (olds.toArray++news.toArray++rest) e)).heap[w.heap.size]?=some (Obj.cells (olds.toArray++news.toArray++rest) e (0,0)):=heap_alloc_new w.drew _;have CS:(es.length+ys.length)*sh.size<=(olds.toArray++news.toArray++rest).size:=by rw[iO];exact jl _ hcap
 have qqB:∀off,¬ g.wr w.heap.size off:=fun off h=>by have:=hm.wrLt _ _ h;omega
 have qqt:¬ g.box w.heap.size:=fun h=>by have:=hm.boxLt _ h;omega
 have tokV:∀nm g',Step B w g (w.drew.alloc (.cells (olds.toArray++news.toArray++rest) e)) g'->g'=jg g nm w.heap.size (es.length+ys.length) sh.size ->
   V (w.drew.alloc (.cells (olds.toArray++news.toArray++rest) e)) g' (.lst sh false (.tok nm e) (es++ys)) (.slice (some ⟨w.heap.size,0,none⟩) (es.length+ys.length) cap):=by
  rintro nm g' ic rfl
  have:=Jj (o:=.tok nm e) (es:=es++ys) (cap:=cap) (g:=jg g nm w.heap.size (es.length+ys.length) sh.size) uY (by rw[hlen];exact hcap) Kd hall (by rw[hlen];exact CS) (fun j hj=>(hcell j (by rw[hlen] at hj;exact hj)).step ic)
   (fun j hj=>by
    rw[hlen] at hj
    rintro (⟨_,h⟩|h)
    .omega
    .exact qqB _ h) qqt ⟨by simp[jg],rfl,_,uY,iO⟩
  rw[hlen] at this;exact this
 refine ⟨?_,?_,?_⟩
 .obtain ⟨s2,fT⟩:=pG.alloc_tok Au (olds.toArray++news.toArray++rest) e (es.length+ys.length) sh.size (pG.slot hd _);exact ⟨_,s1.trans s2,fT,tokV _ _ (s1.trans s2) rfl⟩
 .obtain ⟨s2,fT⟩:=pG.alloc_obj Au (olds.toArray++news.toArray++rest) e (dH (es++ys)) (by rw[JP,aW,AE,YU,<- hmul];exact CS) (fun j hj=>by
   rw[JP,aW,AE,YU,<- hmul] at hj
   exact (hcell j hj).step s1) false (pG.slot hd _)
  exact ⟨_,s1.trans s2,fT,(.arr _ _ _ _ _ _ (.inr rfl) hcap Kd (.inr ⟨by simp[ig],rfl,_,_,uY,by rw[iO,bq];exact aR _⟩))⟩
 .intro nm k hn hk;obtain ⟨s2,fT⟩:=pG.regrow Au (olds.toArray++news.toArray++rest) e (n:=es.length+ys.length) hn hk;exact ⟨_,s1.trans s2,fT,tokV _ _ (s1.trans s2) rfl⟩
theorem MemR.inplace(hm:MemR B w g m){nm b k n:Nat}{sh:Sh}{c c':Array Value}{e:TypeId}(hn:m.get nm=some (.tok k sh.size))(hl:g.tloc nm k=some b)(hb:w.heap[b]?=some (Obj.cells c e (0,0)))(hk:k<n)(hsz:c'.size=c.size)
  (Qq:∀j,j<k*sh.size->c'[j]?=c[j]?) :
  ∃g',Step B w g (w.setRow b c') g'/\MemR B (w.setRow b c') g' (m.set nm (some (.tok n sh.size)))/\g'.tloc nm n=some b/\(∀off,off<n*sh.size->¬ g'.wr b off)/\¬ g'.box b:=by
 obtain ⟨b0,c0,e0,t1,t2,t3,t4,t5,t6⟩:=hm.tok nm k sh.size hn;obtain rfl:b=b0:=by simpa [hl] using t1
 have hlt:=bW hn;have nc:∀x,x≠b->(w.setRow b c').heap[x]?=w.heap[x]?:=fun x hx=>setRow_other w b x c' hx;have CR:(w.setRow b c').heap[b]?=some (Obj.cells c' e (0,0)):=setRow_heap w b c c' e _ hb;have yI:(w.setRow b c').heap.size=w.heap.size:=aA
 let g':G:={ wr:=fun b' off=>g.wr b' off/\¬ (b'=b/\off<n*sh.size),box:=g.box,loc:=g.loc,tloc:=fun nm' n'=>if nm'=nm/\n'=n then some b else g.tloc nm' n' }
 have fJ:∀x n' b',g.tloc x n'=some b'->g'.tloc x n'=some b':=fun x n' b' hx=>by
  show (if x=nm/\n'=n then some b else g.tloc x n')=some b'
  split
  .rename_i he;rw[he.1,he.2,t5 n hk] at hx;cases hx
  .exact hx
 have s:Step B w g (w.setRow b c') g':=by
  refine ⟨⟨rfl,rfl,rfl,aa,fun x hx=>nc x aa⟩,fun b' off u hw hc=>?_,fun b' c1 e1 fr gO=>?_,fun b' off _ hn hw=>hn hw.1,fun b' off gO=>?_,fun _ _=>Iff.rfl,fun _ _ h=>h,fJ⟩
  .by_cases he:b'=b
   .subst he;have qqC:off<k*sh.size:=Nat.lt_of_not_le fun hle=>hw (t4 off hle);rw[cell_of_row w b' off c e (0,0) hb] at hc;rw[cell_of_row _ b' off c' e (0,0) CR,Qq off qqC];exact hc
   .exact (World.cell?_of_block (w:=w) (a:=⟨b',off,none⟩) (nc b' he)).trans hc
  .by_cases he:b'=b
   .subst he;rw[hb] at gO;simp only[cg,Obj.cells.injEq] at gO;obtain ⟨rfl,rfl,rfl⟩:=gO;exact ⟨c',CR,hsz⟩
   .exact ⟨c1,(nc b' he).trans gO,rfl⟩
  .exact ⟨fun h=>h.1,fun h=>⟨h,fun h2=>aa⟩⟩
 have tE:bj g m nm=some b:=by simp[bj,hn,hl]
 have hblk:∀x b',bj g' (m.set nm (some (.tok n sh.size))) x=some b'->bj g m x=some b':=by
  intro x b' hx
  rcases qK hx with ⟨bx',cs',h1,h2⟩|⟨n',sz',h1,h2⟩|⟨kk,es,h1,h2⟩
  .rw[gV] at h1
   split at h1
   .simp at h1
   .have iZ:g.loc x=some b':=h2;simp[bj,h1,iZ]
  rotate_left
  .rw[gV] at h1
   split at h1
   .simp at h1
   .have iZ:g.loc x=some b':=h2;simp[bj,h1,iZ]
  .rw[gV] at h1
   split at h1
   .rename_i he;simp at h1
    have iZ:(if x=nm/\n'=n then some b else g.tloc x n')=some b':=h2
    rw[aq ⟨he,h1.1.symm⟩] at iZ;simp at iZ;subst iZ;subst he;exact tE
   .rename_i hne
    have iZ:(if x=nm/\n'=n then some b else g.tloc x n')=some b':=h2
    rw[an (fun h=>hne h.1)] at iZ;simp[bj,h1,iZ]
 refine ⟨g',s,⟨?_,?_,?_,?_,?_,?_,?_,?_,?mp⟩,?_,?_,t6⟩
 case mp=>
  intro x kk es hx;rw[gV] at hx
  split at hx
  .simp at hx
  .obtain ⟨b1,es1,cl1,a1,a2,a3,a4⟩:=hm.mp x kk es hx;have mG:b1≠b:=fun he=>by rw[he,hb] at a3;cases a3
   exact ⟨b1,es1,cl1,a1,a2,(nc b1 mG).trans a3,a4.step s⟩
 .intro x bx' cs' hx;rw[gV] at hx
  split at hx
  .simp at hx
  .rename_i hne;obtain ⟨b1,c1,e1,a1,a2,a3,a4,a5,a6,a7⟩:=hm.obj x bx' cs' hx;have mG:b1≠b:=fun he=>hne (hm.inj x nm b (by simp[bj,hx,a1,he]) tE);exact ⟨b1,c1,e1,a1,a2,(nc b1 mG).trans a3,a4,fun j hj=>(a5 j hj).step s,fun off=>⟨a6 off,fun h=>mG h.1⟩,a7⟩
 .intro x n' sz' hx;rw[gV] at hx
  split at hx
  .rename_i he;simp at hx;obtain ⟨rfl,rfl⟩:=hx;subst he
   refine ⟨b,c',e,?_,t2,CR,fun off ho=>⟨t4 off ?_,fun h=>aa⟩,fun n'' yz=>?_,t6⟩
   .show (if x=x/\n=n then some b else _)=_;simp
   .exact fC (jl _ aa) ho
   .show (if x=x/\n''=n then some b else g.tloc x n'')=none
    rw[an aa];exact t5 n'' aa
  .rename_i hne;obtain ⟨b1,c1,e1,a1,a2,a3,a4,a5,a6⟩:=hm.tok x n' sz' hx;have mG:b1≠b:=fun he=>hne (hm.inj x nm b (by simp[bj,hx,a1,he]) tE);refine ⟨b1,c1,e1,fJ _ _ _ a1,a2,(nc b1 mG).trans a3,fun off ho=>⟨a4 off ho,fun h=>mG h.1⟩,fun n'' yz=>?_,a6⟩
   show (if x=nm/\n''=n then some b else g.tloc x n'')=none
   rw[an (fun h=>hne h.1)];exact a5 n'' yz
 .intro x hx;rw[gV] at hx
  split at hx
  .simp at hx
  .rename_i hne;have:=hm.resv x hx;refine ⟨this.1,fun n'=>?_⟩
   show (if x=nm/\n'=n then some b else g.tloc x n')=none
   rw[an (fun h=>hne h.1)];exact this.2 n'
 .intro x hx;have sO:m.length<=x:=by simpa using hx
  have:=hm.fresh x sO;refine ⟨this.1,fun n'=>?_⟩
  show (if x=nm/\n'=n then some b else g.tloc x n')=none
  rw[an (fun h=>by have:=h.1;omega)];exact this.2 n'
 .intro x x' b' h1 h2;exact hm.inj x x' b' (hblk x b' h1) (hblk x' b' h2)
 .intro b' off hw;rw[yI];exact hm.wrLt b' off hw.1
 .exact hm.invS s
 .intro b' hw;rw[yI];exact hm.boxLt b' hw
 .show (if nm=nm/\n=n then some b else _)=_;simp
 .intro off ho h;exact h.2 ⟨rfl,ho⟩
def xr(g:G)(nm b:Nat):G where
 wr:=g.wr
 box:=g.box
 loc n:=if n=nm then some b else g.loc n
 tloc:=g.tloc
theorem MemR.rename(hm:MemR B w g m){nm b:Nat}{bx:Bool}{cs:List AV}(hn:m.get nm=some (.obj bx cs))(hl:g.loc nm=some b):Step B w g w (xr g m.length b)/\MemR B w (xr g m.length b) (m.set nm none++[some (.obj bx cs)]):=by
 have hlt:=bW hn;have mc:=hm.fresh m.length (aR _)
 have jR:∀x b',g.loc x=some b'->(xr g m.length b).loc x=some b':=fun x b' hx=>by
  show (if x=m.length then some b else g.loc x)=some b'
  split
  .rename_i he;rw[he,mc.1] at hx;cases hx
  .exact hx
 have s:Step B w g w (xr g m.length b):=⟨Below.refl _ _,fun _ _ _ _ h=>h,fun _ c _ _ h=>⟨c,h,rfl⟩,fun _ _ _ h=>h,fun _ _ _=>Iff.rfl,fun _ _=>Iff.rfl,jR,fun _ _ _ h=>h⟩
 have aU:∀x,ai.get (m.set nm none++[some (.obj bx cs)]) x=if x=m.length then some (.obj bx cs) else if x=nm then none else m.get x:=by
  intro x;rw[PC,il]
  by_cases h1:x<m.length
  .rw[aq h1,an aa,gV,aq hlt]
  .rw[an h1]
   by_cases h2:x=m.length
   .rw[aq h2,aq h2]
   .rw[an h2,an h2,an aa];unfold ai.get;rw[pk aa];rfl
 have tE:bj g m nm=some b:=by simp[bj,hn,hl]
 have hblk:∀x b',bj (xr g m.length b) (m.set nm none++[some (.obj bx cs)]) x=some b'->(x=m.length/\b'=b)\/(x≠nm/\x≠m.length/\bj g m x=some b'):=by
  intro x b' hx
  by_cases h1:x=m.length
  .unfold bj at hx;rw[aU,aq h1] at hx;simp only[xr,aq h1,cg] at hx;exact .inl ⟨h1,hx.symm⟩
  .unfold bj at hx;rw[aU,an h1] at hx
   by_cases h2:x=nm
   .rw[aq h2] at hx;simp at hx
   .rw[an h2] at hx;refine .inr ⟨h2,h1,?_⟩;unfold bj;simp only[xr,an h1] at hx;exact hx
 refine ⟨s,?_,?_,?_,?_,?_,hm.wrLt,hm.invS s,hm.boxLt,?_⟩
 .intro x bx' cs' hx;rw[aU] at hx
  split at hx
  .rename_i he;simp only[cg,Ent.obj.injEq] at hx;obtain ⟨rfl,rfl⟩:=hx;obtain ⟨b1,c1,e1,a1,a2,a3,a4,a5,a6,a7⟩:=hm.obj nm bx cs hn;obtain rfl:b=b1:=by simpa [hl] using a1
   exact ⟨b,c1,e1,by simp[xr,he],a2,a3,a4,fun j hj=>(a5 j hj).step s,a6,a7⟩
  .split at hx
   .cases hx
   .obtain ⟨b1,c1,e1,a1,a2,a3,a4,a5,a6,a7⟩:=hm.obj x bx' cs' hx;exact ⟨b1,c1,e1,jR _ _ a1,a2,a3,a4,fun j hj=>(a5 j hj).step s,a6,a7⟩
 .intro x n sz hx;rw[aU] at hx
  split at hx
  .cases hx
  .split at hx
   .cases hx
   .exact hm.tok x n sz hx
 .intro x hx;rw[aU] at hx
  split at hx
  .cases hx
  .split at hx
   .cases hx
   .rename_i h1 h2;have:=hm.resv x hx
    exact ⟨by show (if x=m.length then some b else g.loc x)=none;rw[an h1];exact this.1,this.2⟩
 .intro x hx;simp only[aW,il,vS] at hx;have:=hm.fresh x aa
  exact ⟨by show (if x=m.length then some b else g.loc x)=none;rw[an aa];exact this.1,this.2⟩
 .intro x x' b' h1 h2
  rcases hblk x b' h1 with ⟨a1,a2⟩|⟨a1,a2,a3⟩<;>rcases hblk x' b' h2 with ⟨b1,b2⟩|⟨b1,b2,b3⟩
  .omega
  .subst a2;exact absurd (hm.inj _ _ _ b3 tE) b1
  .subst b2;exact absurd (hm.inj _ _ _ a3 tE) a1
  .exact hm.inj _ _ _ a3 b3
 .intro x kk es hx;rw[aU] at hx
  split at hx
  .cases hx
  .split at hx
   .cases hx
   .obtain ⟨b1,es1,cl1,a1,a2,a3,a4⟩:=hm.mp x kk es hx;exact ⟨b1,es1,cl1,jR _ _ a1,a2,a3,a4.step s⟩
theorem MemR.lose(hm:MemR B w g m)(nm:Nat):MemR B w g (m.set nm none):=by
 have aU:∀x e,ai.get (m.set nm none) x=some e->m.get x=some e:=by
  intro x e hx;rw[gV] at hx
  split at hx
  .simp at hx
  .exact hx
 have hblk:∀x b,bj g (m.set nm none) x=some b->bj g m x=some b:=by
  intro x b hx
  rcases qK hx with ⟨bx,cs,h1,h2⟩|⟨n,sz,h1,h2⟩|⟨kk,es,h1,h2⟩
  .have:=aU _ _ h1;simp[bj,this,h2]
  .have:=aU _ _ h1;simp[bj,this,h2]
  .have:=aU _ _ h1;simp[bj,this,h2]
 exact ⟨fun x bx cs hx=>hm.obj x bx cs (aU _ _ hx),fun x n sz hx=>hm.tok x n sz (aU _ _ hx),fun x hx=>hm.resv x (aU _ _ hx),fun x hx=>hm.fresh x (by simpa using hx),fun x x' b h1 h2=>hm.inj x x' b (hblk _ _ h1) (hblk _ _ h2),hm.wrLt,hm.inv,hm.boxLt,fun x kk es hx=>hm.mp x kk es (aU _ _ hx)⟩
theorem qto{P:Program}(w:World)(t ty e e0:TypeId)(i:TypeInfo)(ht:P.underlying t=some (.slice e))(hi:P.info? e=some i)
  (g sLen sCap:Nat) (cur:Array Value) (hg:w.heap[g]?=some (.cells cur e0 (0,0)))
  (a:Addr) (m c:Nat) (news:List Value) (hl:news.length=m*i.size) (tP:∀j u,news[j]?=some u->w.cell? (a.add j)=some u) (h1:∀u∈news,u.oneCell'=true)
  (wX:sLen+m<=sCap) (uS:sLen*i.size+news.length<=cur.size) :
  (Builtin.append_ #[t,t] ty #[.slice (some ⟨g,0,none⟩) sLen sCap,.slice (some a) m c]).run P w =
   .ok (.slice (some ⟨g,0,none⟩) (sLen+m) sCap) (w.setRow g (cur.toList.take (sLen*i.size)++news++cur.toList.drop (sLen*i.size+news.length)).toArray):=by
 have hf:=run_firstCells_some (P:=P) w i.size m a m c news hl tP;have ic:=run_storeCells_at P g (sLen*i.size) e0 news 0 cur w hg (by simpa using uS) h1;simp only[kU] at ic;simp[Builtin.append_,run_underlying ht,sizeOf,typeInfo,hi,Builtin.lenOf,wX,hf,Addr.add_lit,ic]
theorem qtm(hm:MemR B w g m){sh:Sh}{y:AV}{y':Value}{n:Nat}{cs:List AV}(hy:V w g y y')(h:Gu m sh y=some (n,cs)) :
  ∃(a:Addr) (cap:Nat) (vs:List Value),y'=.slice (some a) n cap/\0<n/\vs.length=n*sh.size/\cs.length=n*sh.size/\(∀j u,vs[j]?=some u->w.cell? (a.add j)=some u)/\(∀u∈vs,u.oneCell'=true)/\(∀j,j<vs.length->V w g (cs.getD j .any) (vs.getD j undef)):=by
 unfold Gu at h
 split at h
 .rename_i shy z o ys
  split at h
  .rename_i hc;obtain ⟨rfl,jd⟩:=hc;simp only[cg,fE] at h;obtain ⟨rfl,rfl⟩:=h
   have hz:z=false/\∃a n cap,y'=.slice (some a) n cap:=by
    cases hy with
    | nils=>simp at jd
    | lst=>exact ⟨rfl,_,_,_,rfl⟩
   obtain ⟨rfl,a,n,cap,rfl⟩:=hz;obtain ⟨vs,rfl,h2,h3,h4,h5,_,_,_,h6,_,_⟩:=EC hy;exact ⟨a,cap,vs,rfl,jd,h2,tq (fun e he=>(h6 e he).1),h3,h4,h5⟩
  .cases h
 .rename_i nm off n1 shy;obtain ⟨⟨bx,os⟩,ho,h⟩:=bn.1 h;simp only at h
  split at h
  .rename_i hc;obtain ⟨rfl,jd,hle,iC⟩:=hc;simp only[cg,fE] at h;obtain ⟨rfl,rfl⟩:=h;obtain ⟨b,c,e,o1,o2,o3,o4,o5,o6,o7⟩:=hm.obj nm bx os (obj?_get ho)
   cases hy with
   | arr _ _ _ _ a cap hs hc hmx hl=>
    obtain ⟨l1,l2,_⟩:=hl.resolve_left aa;obtain rfl:b=a.block:=by simpa [o1] using l1
    have hcl:((os.drop off).take (n1*shy.size)).length=n1*shy.size:=by simp;omega
    have jA:∀j,j<n1*shy.size->((os.drop off).take (n1*shy.size)).getD j .any=os.getD (off+j) .any:=fun j hj=>by
     simp[aT,rB,te,hj]
    refine ⟨a,cap,(List.range (n1*shy.size)).map fun j=>c.getD (off+j) undef,rfl,jd,aA,hcl,fun j u hu=>?_,fun u hu=>?_,fun j hj=>?_⟩
    .have hj:j<n1*shy.size:=by
      rcases sq j (n1*shy.size) with hl|hl
      .exact hl
      .rw[pk (by simpa using hl)] at hu;cases hu
     simp[hj] at hu;rw[l2,nY,cell_of_row w _ _ c e (0,0) o3,<- hu];simp[Array.getD,show off+j<c.size by omega]
    .obtain ⟨j,hj,rfl⟩:=iw.1 hu;have hG:j<n1*shy.size:=by simpa using hj
     have h1:=o5 (off+j) aa;rw[<- jA j hG] at h1;have CD:j<((os.drop off).take (n1*shy.size)).length:=aa;have e1:((os.drop off).take (n1*shy.size)).getD j .any=((os.drop off).take (n1*shy.size))[j]:=by rw[aT,bP CD];rfl
     rw[e1] at h1;exact (EB h1 (gD.1 iC _ (bA CD))).1
    .have hG:j<n1*shy.size:=by simpa using hj
     rw[jA j hG];have:=o5 (off+j) aa;simpa [aT,hG] using this
  .cases h
 .rename_i n1 shy cs1
  split at h
  .rename_i hc;obtain ⟨rfl,jd,hle⟩:=hc;simp only[cg,fE] at h;obtain ⟨rfl,rfl⟩:=h
   cases hy with
   | vec _ _ _ a cap us hs hc hmx hn iC hcell hv=>
    have J2:cap≠0:=aa
    have ha:a=⟨a.block,a.off,none⟩:=by
     have:=hs.resolve_left J2;cases a;simp_all
    refine ⟨a,cap,(List.range cs1.length).map us,rfl,jd,by simpa using hle,hle,fun j u hu=>?_,fun u hu=>?_,fun j hj=>?_⟩
    .have hj:j<cs1.length:=by
      rcases sq j cs1.length with hl|hl
      .exact hl
      .rw[pk (by simpa using hl)] at hu;cases hu
     simp[hj] at hu;rw[ha,nY,<- hu];exact (hcell j hj).1
    .obtain ⟨j,hj,rfl⟩:=iw.1 hu;have hG:j<cs1.length:=by simpa using hj
     have h1:=hv j hG;have e:cs1.getD j .any=cs1[j]:=by rw[aT,bP hG];rfl
     rw[e] at h1;exact (EB h1 (iC _ (bA hG))).1
    .have hG:j<cs1.length:=by simpa using hj
     have:=hv j hG;simpa [aT,hG] using this
  .cases h
 .cases h
theorem Ym(hm:MemR B w g m)(hB:B<=w.heap.size){e k n:Nat}{sh:Sh}{xcs ycs:List AV}{olds news:List Value}{rest:Array Value}{cap:Nat}(iE:olds.length=k*sh.size)(sL:news.length=n*sh.size)(sO:xcs.length=k*sh.size)(AZ:ycs.length=n*sh.size)
  (vd:∀j,j<olds.length->V w g (xcs.getD j .any) (olds.getD j undef)) (tU:∀j,j<news.length->V w g (ycs.getD j .any) (news.getD j undef)) (hcap:k+n<=cap) (Kd:cap<=maxLen)
  (qqO:rest.size=(cap-(k+n))*sh.size) :
  ∃g',Step B w g (w.drew.alloc (.cells (olds.toArray++news.toArray++rest) e)) g'/\MemR B (w.drew.alloc (.cells (olds.toArray++news.toArray++rest) e)) g' (m++[some (.obj false (xcs++ycs))])/\V (w.drew.alloc (.cells (olds.toArray++news.toArray++rest) e)) g' (.arr m.length 0 (k+n) sh) (.slice (some ⟨w.heap.size,0,none⟩) (k+n) cap):=by
 have pG:=hm.drew;have s1:=Step.drew B w g;have Au:B<=w.drew.heap.size:=hB;have hmul:(k+n)*sh.size=k*sh.size+n*sh.size:=iI _ _ _
 have hcell:∀j,j<(k+n)*sh.size->V w g ((xcs++ycs).getD j .any) ((olds.toArray++news.toArray++rest).getD j undef):=by
  intro j hj;simp only[aT,jX,rA,Array.getElem?_append,BC,List.size_toArray,B0,sO,iE,sL]
  by_cases h1:j<k*sh.size
  .rw[aq h1,aq aa,aq h1];simpa [aT] using vd j aa
  .rw[an h1,aq aa,an h1];simpa [aT] using tU (j-k*sh.size) aa
 have iO:(olds.toArray++news.toArray++rest).size=cap*sh.size:=by
  have:cap*sh.size=(k+n)*sh.size+(cap-(k+n))*sh.size:=by
   rw[<- iI];congr 1;omega
  simp only[BC,List.size_toArray];omega
 have uY:(w.drew.alloc (.cells (olds.toArray++news.toArray++rest) e)).heap[w.heap.size]?=some (Obj.cells (olds.toArray++news.toArray++rest) e (0,0)):=heap_alloc_new w.drew _;have CS:(k+n)*sh.size<=(olds.toArray++news.toArray++rest).size:=by rw[iO];exact jl _ hcap
 obtain ⟨s2,fT⟩:=pG.alloc_obj Au (olds.toArray++news.toArray++rest) e (xcs++ycs) (by rw[aW,sO,AZ,<- hmul];exact CS) (fun j hj=>by
  rw[aW,sO,AZ,<- hmul] at hj
  exact (hcell j hj).step s1) false (pG.slot (d:=none) (fun s hs=>by cases hs) _)
 exact ⟨_,s1.trans s2,fT,(.arr _ _ _ _ _ _ (.inr rfl) hcap Kd (.inr ⟨by simp[ig,az],rfl,_,_,uY,by rw[iO,bq];exact aR _⟩))⟩
theorem qlY(hm:MemR B w g m)(hB:B<=w.heap.size){d:Option Nat}{arrm:Bool}{t e ty:Nat}{sh:Sh}{x y v:AV}{m':ai}{x' y':Value}(ht:P.underlying t=some (.slice e))(he:oO P e sh=true)
  (hx:V w g x x') (hy:V w g y y') (h:zZ d arrm sh (qp P e) m x y=some (v,m')):pj P B w g (Builtin.append_ #[t,t] ty #[x',y']) v m':=by
 obtain ⟨i,zv,hi,hs,jd,oh,tW,rO⟩:=uO he;have tG:qp P e=max 1 i.bytes:=by simp[qp,hi]
 unfold zZ at h
 split at h
 .obtain ⟨⟨n,ycs⟩,hq,h⟩:=bn.1 h;obtain ⟨⟨k,xcs,m2⟩,hp,h⟩:=bn.1 h;simp only at h
  split at h
  .rename_i wX;simp only[cg,fE] at h;obtain ⟨rfl,rfl⟩:=h;obtain ⟨ay,cy,news,rfl,Kk,sL,AZ,tP,mJ,tU⟩:=qtm hm hy hq;rw[tG] at wX;have tO:news.length=n*i.size:=by rw[sL,hs]
   have lS:(k+n)*i.bytes<=140737488355328:=fC (lG _ aa) wX;have hlen:k+n<=140737488355328:=fC (Nat.le_mul_of_pos_right _ aa) wX;have tu:k+n<=maxLen:=by simp only[maxLen];omega
   unfold Dh at hp
   split at hp
   .rename_i shx z o es _
    split at hp
    .split at hp
     .rename_i FM;simp only[cg,fE] at hp;obtain ⟨rfl,rfl,rfl⟩:=hp
      have hgrow:∃(cap:Nat) (olds:List Value) (rest:Array Value),(Builtin.append_ #[t,t] ty #[x',.slice (some ay) n cy]).run P w=.ok (.slice (some ⟨w.heap.size,0,none⟩) (es.length+n) cap) (w.drew.alloc (.cells (olds.toArray++news.toArray++rest) e)) /\
        olds.length=es.length*sh.size/\(∀e∈es,dJ sh e=true/\pl e=true)/\(∀j,j<olds.length->V w g ((dH es).getD j .any) (olds.getD j undef))/\es.length+n<=cap/\cap<=maxLen/\rest.size=(cap-(es.length+n))*sh.size:=by
       cases z with
       | true=>
        have hes:es=[]/\x'=.slice none 0 0:=by cases hx;exact ⟨rfl,rfl⟩
        obtain ⟨rfl,rfl⟩:=hes;have hr:=run_append_nil (P:=P) w t ty e i zv ht hi oh ay n cy news tO tP Kk (by simp only[bo] at hlen;omega) (by simp only[bo,bq] at lS;omega)
        refine ⟨_,[],Builtin.zeroCells zv.cells (grownCap w n 0 e-n),?_,aA,aA,aA,by simpa using grownCap_ge w n 0 e,grownCap_le_maxLen w _ _ e (by simpa using tu),?_⟩
        .simpa using hr
        .rw[size_zeroCells,tW,hs];simp
       | false=>
        obtain ⟨ax,nx,cx,rfl⟩:∃ax nx cx,x'=.slice (some ax) nx cx:=by cases hx;exact ⟨_,_,_,rfl⟩
        obtain ⟨olds,rfl,iE,holds,Zm,vd,Fi,n7,hmx,AD,hown,_⟩:=EC hx;have qqc:cx=es.length:=hown
        have AG:olds.length=es.length*i.size:=by
         rcases FM with h|h
         .rw[iE,h,hs]
         .subst h;simp at iE;simp[iE]
        have hr:=run_append_grow (P:=P) w t ty e i zv ht hi oh ax es.length cx olds AG holds ay n cy news tO tP aa aa (growslice_fits aa lS);refine ⟨_,olds,Builtin.zeroCells zv.cells (grownCap w (es.length+n) cx e-(es.length+n)),hr,by rw[AG,hs],?_,vd,grownCap_ge _ _ _ _,grownCap_le_maxLen _ _ _ _ tu,by rw[size_zeroCells,tW,hs]⟩
        rcases FM with h|h
        .rw[<- h];exact AD
        .subst h;simp
      obtain ⟨cap,olds,rest,hr,g1,g2,g3,g4,g5,g6⟩:=hgrow;obtain ⟨g',s,hm',hV⟩:=Ym hm hB (e:=e) g1 sL (tq fun e he=>(g2 e he).1) AZ g3 tU g4 g5 g6;exact ⟨_,_,g',hr,s,hm',hV⟩
     .cases hp
    .cases hp
   .rename_i nm off k1 shx _;obtain ⟨⟨bx,cs⟩,ho,uZ⟩:=bn.1 hp;clear hp;simp only at uZ
    split at uZ
    .rename_i hc;obtain ⟨rfl,rfl,uW,rfl,hcl⟩:=hc;simp only[cg,fE] at uZ;obtain ⟨rfl,rfl,rfl⟩:=uZ;have aU:=obj?_get ho;have hlt:=bW aU;obtain ⟨b,c,e1,o1,o2,o3,o4,o5,o6,o7⟩:=hm.obj nm false cs aU
     cases hx with
     | arr _ _ _ _ a cap hsp yo hmx hl=>
      obtain ⟨l1,l2,c2,e2,l3,l4⟩:=hl.resolve_left aa;obtain rfl:b=a.block:=by simpa [o1] using l1
      rw[o3] at l3;simp only[cg,Obj.cells.injEq] at l3;obtain ⟨rfl,rfl,_⟩:=l3;rw[bq] at l4
      by_cases uS:k1+n<=cap
      .have J5:k1*i.size+news.length<=c.size:=by
        rw[tO,hs,<- iI];exact fC (jl _ uS) l4
       have wN:k1*i.size=k1*shx.size:=by rw[hs]
       have hnn:n*i.size=n*shx.size:=by rw[hs]
       have hr:=qto (P:=P) w t ty e e1 i ht hi a.block k1 cap c o3 ay n cy news tO tP mJ uS J5;rw[<- l2] at hr;have hsz:(c.toList.take (k1*i.size)++news++c.toList.drop (k1*i.size+news.length)).toArray.size=c.size:=by simp;omega
       obtain ⟨s1,pG⟩:=hm.write (cs':=cs++ycs) (c':=(c.toList.take (k1*i.size)++news++c.toList.drop (k1*i.size+news.length)).toArray) aU o1 o3 hsz (by rw[hsz,aW,hcl,AZ,<- sL,<- hs];exact J5) (fun j hj=>by
        rw[aW,hcl,AZ] at hj;have Ka:(c.toList.take (k1*i.size)).length=k1*shx.size:=by simp;omega
        simp only[aT,jX,B0,gR]
        by_cases h1:j<k1*shx.size
        .rw[nZ aa,nZ aa,rB,aq aa];have:=o5 j aa;simpa [aT,jX] using this
        .rw[td aa,td aa,hcl,Ka,nZ aa];have:=tU (j-k1*shx.size) aa
         simpa [aT] using this)
       obtain ⟨s2,fT⟩:=pG.rename (by rw[gV,aq rfl,aq hlt]) o1;rw[il,B2] at fT;rw[il] at s2;refine ⟨_,_,_,hr,s1.trans s2,by rw[il] at *;exact fT,?_⟩;rw[il];rw[l2];exact .arr _ _ _ _ _ _ (.inr rfl) uS hmx (.inr ⟨by simp[xr],rfl,_,e1,setRow_heap w _ c _ e1 _ o3,by rw[hsz,bq];exact l4⟩)
      .have hcd:∀j,j<k1*shx.size->w.cell? (a.add j)=some (c.getD j undef):=fun j hj=>by
        rw[l2,nY,cell_of_row w _ _ c e1 (0,0) o3];simp[Array.getD,show j<c.size by omega]
       have iE:((List.range (k1*shx.size)).map fun j=>c.getD j undef).length=k1*shx.size:=aA
       have hr:=run_append_grow (P:=P) w t ty e i zv ht hi oh a k1 cap ((List.range (k1*shx.size)).map fun j=>c.getD j undef) (by rw[iE,hs]) (fun j u hu=>by
         have hj:j<k1*shx.size:=by
          rcases sq j (k1*shx.size) with hl|hl
          .exact hl
          .rw[pk (by simpa using hl)] at hu;cases hu
         simp[hj] at hu;rw[hcd j hj,<- hu]
         simp[jX]) ay n cy news tO tP aa aa (growslice_fits aa lS)
       obtain ⟨g',s,hm',hV⟩:=Ym (hm.lose nm) hB (e:=e) (xcs:=cs) (ycs:=ycs) (olds:=(List.range (k1*shx.size)).map fun j=>c.getD j undef) iE sL hcl AZ (fun j hj=>by
         have hG:j<k1*shx.size:=by simpa using hj
         have:=o5 j aa
         simpa [aT,hG] using this) tU (grownCap_ge w (k1+n) cap e) (grownCap_le_maxLen w _ cap e tu) (rest:=Builtin.zeroCells zv.cells (grownCap w (k1+n) cap e-(k1+n))) (by rw[size_zeroCells,tW,hs])
       exact ⟨_,_,g',hr,s,hm',hV⟩
    .cases uZ
   .cases hp
  .cases h
 .cases h
theorem ql2(w:World)(t e ty:Nat)(i:TypeInfo)(ht:P.underlying t=some (.slice e))(hi:P.info? e=some i){x:AV}{x' y':Value}{sh shy:Sh}{z z':Bool}{o o':Own}{es:List AV}(hx:V w g (.lst sh z o es) x')(hy:V w g (.lst shy z' o' []) y') :
  (Builtin.append_ #[t,t] ty #[x',y']).run P w=.ok x' w:=by
 have hb:∀a n c,x'=.slice a n c->n<=c:=by
  rintro a n c rfl
  cases hx with
  | nils=>exact aR _
  | lst _ o es a cap us hs hc hm hsh hcell hv ho=>exact hc
 have qqX:∃a n c,x'=.slice a n c:=by cases hx<;>exact ⟨_,_,_,rfl⟩
 obtain ⟨a,n,c,rfl⟩:=qqX;have hn:=hb a n c rfl;have qqY:∃a' c',y'=.slice a' 0 c':=by cases hy<;>exact ⟨_,_,rfl⟩
 obtain ⟨a',c',rfl⟩:=qqY;cases a'<;>cases a<;>simp[Builtin.append_,run_underlying ht,sizeOf,typeInfo,hi,Builtin.lenOf,hn,Builtin.firstCells,loadCells,loadCellsFrom,storeCells]
theorem ql3(hm:MemR B w g m)(hB:B<=w.heap.size){d:Option Nat}(hd:∀s,d=some s->m.get s=some .resv){arrm:Bool}{t e ty:Nat}{sh:Sh}{x y v:AV}{m':ai}{x' y':Value}(ht:P.underlying t=some (.slice e))(hsh:jG P e=some sh)(he:oO P e sh=true)
  (hx:V w g x x') (hy:V w g y y') (h:bL d arrm e sh (qp P e) m x y=some (v,m')):pj P B w g (Builtin.append_ #[t,t] ty #[x',y']) v m':=by
 obtain ⟨i,zv,hi,hs,jd,oh,tW,rO⟩:=uO he;have tG:qp P e=max 1 i.bytes:=by simp[qp,hi]
 unfold bL at h
 split at h
 .rename_i shx z o es shy zy oy ys0
  split at h
  .simp at h;obtain ⟨rfl,rfl⟩:=h;exact pj.same hm ⟨x',ql2 (x:=.any) w t e ty i ht hi hx hy,hx⟩
  .rename_i y1 ys1;generalize qY:y1::ys1=ys at *;have Kk:0<ys.length:=by rw[<- qY];simp
   split at h
   .rename_i qqZ;subst qqZ
    split at h
    .rename_i wX;rw[tG] at wX
     have hy2:∃zy',zy=zy'/\zy'=false:=by
      cases zy
      .exact ⟨_,rfl,rfl⟩
      .cases hy;simp at Kk
     obtain ⟨_,rfl,rfl⟩:=hy2;obtain ⟨ay,ny,cy,rfl⟩:∃ay ny cy,y'=.slice (some ay) ny cy:=by cases hy;exact ⟨_,_,_,rfl⟩
     obtain ⟨news,rfl,sL,tP,mJ,tU,_,_,_,Qx,_,_⟩:=EC hy;have tO:news.length=ys.length*i.size:=by rw[sL,hs]
     have lS:(es.length+ys.length)*i.bytes<=140737488355328:=fC (lG _ aa) wX;have hlen:es.length+ys.length<=140737488355328:=fC (Nat.le_mul_of_pos_right _ aa) wX;have tu:es.length+ys.length<=maxLen:=by simp only[maxLen];omega
     split at h
     .cases h
     ·
      split at h
      .rename_i FM
       have hgrow:∃(cap:Nat) (olds:List Value) (rest:Array Value),(Builtin.append_ #[t,t] ty #[x',.slice (some ay) ys.length cy]).run P w=.ok (.slice (some ⟨w.heap.size,0,none⟩) (es.length+ys.length) cap) (w.drew.alloc (.cells (olds.toArray++news.toArray++rest) e)) /\
         olds.length=es.length*shy.size/\(∀e∈es,dJ shy e=true/\pl e=true)/\(∀j,j<olds.length->V w g ((dH es).getD j .any) (olds.getD j undef))/\es.length+ys.length<=cap/\cap<=maxLen/\rest.size=(cap-(es.length+ys.length))*shy.size:=by
        cases z with
        | true=>
         have hes:es=[]/\x'=.slice none 0 0:=by cases hx;exact ⟨rfl,rfl⟩
         obtain ⟨rfl,rfl⟩:=hes;have hr:=run_append_nil (P:=P) w t ty e i zv ht hi oh ay ys.length cy news tO tP Kk aa (by simp only[bo,bq] at lS;omega)
         refine ⟨_,[],Builtin.zeroCells zv.cells (grownCap w ys.length 0 e-ys.length),?_,aA,aA,aA,by simpa using grownCap_ge w ys.length 0 e,grownCap_le_maxLen w _ _ e (by simpa using tu),?_⟩
         .simpa using hr
         .rw[size_zeroCells,tW,hs];simp
        | false=>
         obtain ⟨ax,nx,cx,rfl⟩:∃ax nx cx,x'=.slice (some ax) nx cx:=by cases hx;exact ⟨_,_,_,rfl⟩
         obtain ⟨olds,rfl,iE,holds,Zm,vd,Fi,n7,hmx,AD,hown,_⟩:=EC hx;have qqc:cx=es.length:=hown
         have AG:olds.length=es.length*i.size:=by
          rcases FM with h|h
          .rw[iE,h,hs]
          .subst h;simp at iE;simp[iE]
         have hr:=run_append_grow (P:=P) w t ty e i zv ht hi oh ax es.length cx olds AG holds ay ys.length cy news tO tP aa aa (growslice_fits aa lS);refine ⟨_,olds,Builtin.zeroCells zv.cells (grownCap w (es.length+ys.length) cx e-(es.length+ys.length)),hr,by rw[AG,hs],?_,vd,grownCap_ge _ _ _ _,grownCap_le_maxLen _ _ _ _ tu,by rw[size_zeroCells,tW,hs]⟩
         rcases FM with h|h
         .rw[<- h];exact AD
         .subst h;simp
       obtain ⟨cap,olds,rest,hr,g1,g2,g3,g4,g5,g6⟩:=hgrow;obtain ⟨p1,p2,_⟩:=Yn hm hB hd (e:=e) g1 sL g2 Qx g3 tU g4 g5 g6
       split at h
       .simp only[cg,fE] at h;obtain ⟨rfl,rfl⟩:=h;obtain ⟨g',s,hm',hV⟩:=p2;exact ⟨_,_,g',hr,s,hm',hV⟩
       .simp at h;obtain ⟨rfl,rfl⟩:=h;obtain ⟨g',s,hm',hV⟩:=p1;exact ⟨_,_,g',hr,s,hm',hV⟩
      .cases h
     ·
      rename_i nm e'
      split at h
      .rename_i nO;obtain ⟨rfl,rfl,_⟩:=nO
       split at h
       .rename_i k sz aU
        split at h
        .rename_i hk;obtain ⟨rfl,rfl⟩:=hk;simp at h;obtain ⟨rfl,rfl⟩:=h
         have hz:z=false/\∃ax nx cx,x'=.slice (some ax) nx cx:=by
          cases hx with
          | nils _ _ ho=>rcases ho with h|h<;>cases h
          | lst=>exact ⟨rfl,_,_,_,rfl⟩
         obtain ⟨rfl,ax,nx,cx,rfl⟩:=hz;obtain ⟨olds,rfl,iE,holds,Zm,vd,Fi,n7,hmx,AD,hown,_⟩:=EC hx;obtain ⟨o1,o2,c,o3,o4⟩:=hown;have AG:olds.length=es.length*i.size:=by rw[iE,hs]
         by_cases uS:es.length+ys.length<=cx
         ·
          have Fi:=Fi.resolve_left aa;have PQ:ax=⟨ax.block,0,none⟩:=by rw[Fi,o2]
          have J5:es.length*i.size+news.length<=c.size:=by
           rw[tO,o4,hs,<- iI];exact jl _ uS
          have hr:=run_append_room (P:=P) w t ty e' i ht hi ax.block es.length cx c o3 ay ys.length cy news tO tP mJ uS J5;rw[<- PQ] at hr
          obtain ⟨g',s,hm',q1,q2,q3⟩:=hm.inplace (n:=es.length+ys.length) (c':=(c.toList.take (es.length*i.size)++news++c.toList.drop (es.length*i.size+news.length)).toArray) aU o1 o3 aa (by simp;omega)
           (fun j hj=>by
            rw[<- hs] at hj;simp only[B0,gR];rw[nZ (by simp;omega),rB,aq hj]
            simp)
          refine ⟨_,_,g',hr,s,hm',?_⟩;have tJ:(w.setRow ax.block (c.toList.take (es.length*i.size)++news++c.toList.drop (es.length*i.size+news.length)).toArray).heap[ax.block]?=some (Obj.cells (c.toList.take (es.length*i.size)++news++c.toList.drop (es.length*i.size+news.length)).toArray e' (0,0)):=setRow_heap w _ c _ e' _ o3;have YM:(c.toList.take (es.length*i.size)++news++c.toList.drop (es.length*i.size+news.length)).toArray.size=c.size:=by simp;omega
          have hmul:(es.length+ys.length)*shx.size=es.length*shx.size+ys.length*shx.size:=iI _ _ _;have AE:=tq (fun e he=>(AD e he).1:∀e∈es,dJ shx e=true);have jC:(es++ys).length=es.length+ys.length:=aA
          have:=Jj (sh:=shx) (o:=.tok nm e') (es:=es++ys) (cap:=cx) tJ (by rw[jC];exact uS) hmx (fun e he=>by
            rcases hZ.1 he with h|h
            .exact AD e h
            .exact Qx e h) (by rw[jC,YM,o4];exact jl _ uS)
           (fun j hj=>by
            rw[jC] at hj;have Ka:(c.toList.take (es.length*i.size)).length=es.length*shx.size:=by simp;omega
            rw[JP];simp only[aT,jX,B0,gR]
            by_cases h1:j<es.length*shx.size
            .rw[nZ aa,nZ aa,rB,aq aa];have hcell:=holds j (olds.getD j undef) (by simp[aT,show j<olds.length by omega]);rw[PQ,nY,cell_of_row w _ _ c e' (0,0) o3] at hcell;simp only[bq] at hcell;have:=(vd j (by omega)).step s;simp only[Array.getElem?_toList,hcell,fk];simpa [aT] using this
            .rw[td aa,td aa,AE,Ka,nZ aa];have:=(tU (j-es.length*shx.size) (by omega)).step s
             simpa [aT] using this)
           (fun j hj=>q2 j (by rw[<- jC];exact hj)) q3 ⟨by rw[jC];exact q1,rfl,_,tJ,by rw[YM,o4]⟩
          rw[jC] at this;rw[PQ];exact this
         .have hr:=run_append_grow (P:=P) w t ty e' i zv ht hi oh ax es.length cx olds AG holds ay ys.length cy news tO tP aa aa (growslice_fits aa lS);obtain ⟨_,_,p3⟩:=Yn hm hB hd (e:=e') iE sL AD Qx vd tU (grownCap_ge w (es.length+ys.length) cx e') (grownCap_le_maxLen w _ cx e' tu) (rest:=Builtin.zeroCells zv.cells (grownCap w (es.length+ys.length) cx e'-(es.length+ys.length))) (by rw[size_zeroCells,tW,hs]);obtain ⟨g',s,hm',hV⟩:=p3 nm es.length aU aa;exact ⟨_,_,g',hr,s,hm',hV⟩
        .cases h
       .cases h
      .cases h
    .cases h
   .cases h
 .exact qlY hm hB ht he hx hy h
theorem qpj{sh:Sh}(es:List AV):∀(vs:List Value) (i:Nat) (c:Array Value) (L:List (Nat×Value)),L=(vs.zipIdx i).map (fun x=>(x.2,x.1))->es.length=vs.length->(∀k (h:k<es.length) (h':k<vs.length),V w g es[k] vs[k])->(∀e∈es,dJ sh e=true)->(i+es.length)*sh.size<=c.size ->
  ∃c',Instr.fill (fun i=>some (i*sh.size,sh.size)) c L=some c'/\c'.size=c.size/\(∀j,j<es.length*sh.size->V w g ((dH es).getD j .any) (c'.getD (i*sh.size+j) undef))/\∀j,j<i*sh.size->c'.getD j undef=c.getD j undef:=by
 induction es with
 | nil=>
  intro vs i c L hL hl _ _ _;obtain rfl:vs=[]:=oF (by simpa using hl.symm);subst hL;exact ⟨c,rfl,rfl,aA,fun _ _=>rfl⟩
 | cons e es ih=>
  intro vs i c L hL hl hv hs hsz
  match vs,hl with
  | v::vs,hl=>
  subst hL;have hV:V w g e v:=hv 0 aA aA;have FK:=hs e aA;obtain ⟨v1,v2,_⟩:=Ji hV FK;have FT:=uf FK;simp only[ba] at hsz;have Qu:(i+(es.length+1))*sh.size=i*sh.size+sh.size+es.length*sh.size:=by rw[iI,rE];omega
  obtain ⟨f1,f2⟩:=Pu (i*sh.size) v.cells.toList 0 c (by simp;omega);simp only[kU,Array.length_toList] at f2
  have hz:(v.cells.zipIdx.foldl (fun cs (c,j)=>cs.setIfInBounds (i*sh.size+j) c) c)=(v.cells.toList.zipIdx.foldl (fun cs (c,j)=>cs.setIfInBounds (i*sh.size+j) c) c):=by
   rw[<- Array.foldl_toList,Array.toList_zipIdx]
  have hi1:(i+1)*sh.size=i*sh.size+sh.size:=rE _ _
  obtain ⟨c',g1,g2,g3,g4⟩:=ih vs (i+1) (v.cells.toList.zipIdx.foldl (fun cs (c,j)=>cs.setIfInBounds (i*sh.size+j) c) c) _ rfl (by simpa using hl)
   (fun k h h'=>hv (k+1) (by simpa using h) (by simpa using h')) (fun x hx=>hs x (by simp[hx])) (by rw[f1,iI,hi1];omega)
  refine ⟨c',?_,by rw[g2,f1],fun j hj=>?_,fun j hj=>?_⟩
  .simp only[List.zipIdx_cons,gh,Instr.fill];rw[an (by simp;omega),hz];exact g1
  .simp only[ba,rE] at hj;simp only[vO,aT,rA,FT]
   by_cases h1:j<sh.size
   .rw[aq h1,g4 _ aa,f2,aq aa];have:=v2 j h1;simpa [aT,jX] using this
   .rw[an h1];have:=g3 (j-sh.size) aa;rw[show (i+1)*sh.size+(j-sh.size)=i*sh.size+j by omega] at this;simpa [aT] using this
  .rw[g4 j aa,f2,an aa]
theorem Xf(hm:MemR B w g m)(hB:B<=w.heap.size){t e n:Nat}{sh:Sh}{ps:Array (Nat×Operand)}{ρ:Operand->AV}{ρ':Operand->Value}(hρ:∀x,V w g (ρ x) (ρ' x))(ht:P.underlying t=some (.slice e))(he:oO P e sh=true)(n8:ps.toList.map (·.1)=List.range n)
  (hn:n*sh.size<=16777216) (hall:(ps.toList.map fun p=>ρ p.2).all (fun v=>dJ sh (mP v))=true):∃c:Array Value,(Instr.buildSlice t n (ps.map fun (i,x)=>(i,ρ' x))).run P w=.ok (.slice (some ⟨w.heap.size,0,none⟩) n n) (w.alloc (.cells c e))/\c.size=n*sh.size/\(ps.toList.map fun p=>ρ p.2).length=n/\((ps.toList.map fun p=>ρ p.2).map mP).length=n/\(∀x∈(ps.toList.map fun p=>ρ p.2).map mP,dJ sh x=true)/\∀j,j<n*sh.size->V w g ((dH ((ps.toList.map fun p=>ρ p.2).map mP)).getD j .any) (c.getD j undef):=by
 obtain ⟨i,zv,hi,hs,jd,oh,tW,rO⟩:=uO he
 .have hlen:ps.toList.length=n:=by have:=dc List.length n8;simpa using this
  have Fh:∀p∈ps.toList,dJ sh (mP (ρ p.2))=true:=fun p hp=>by
   have:=gD.1 hall (ρ p.2) (iw.2 ⟨p,hp,rfl⟩);simpa using this
  generalize hes:(ps.toList.map fun p=>ρ p.2).map mP=es;have tI:es.length=n:=by rw[<- hes];simpa using hlen
  have Cy:∀x∈es,dJ sh x=true:=fun x hx=>by
   rw[<- hes] at hx;obtain ⟨y,hy,rfl⟩:=iw.1 hx;obtain ⟨p,hp,rfl⟩:=iw.1 hy;exact Fh p hp
  let base:Array Value:=(Array.range (n*i.size)).map ((if n*i.size=0 then #[] else zv.cells)[· % (if n*i.size=0 then #[] else zv.cells:Array Value).size]!)
  obtain ⟨c',g1,g2,g3,g4⟩:=qpj (w:=w) (g:=g) (sh:=sh) es (ps.toList.map fun p=>ρ' p.2) 0 base ((ps.map fun (i,x)=>(i,ρ' x)).toList)
   (by
    apply List.ext_getElem
    .simp
    .intro k h1 h2;have hk:k<ps.toList.length:=by simpa using h1
     have:(ps.toList.map (·.1))[k]'(by simpa using hk)=k:=by simp[n8]
     simp at this
     simp[this])
   (by simp[tI,<- hlen]) (fun k h1 h2=>by
    have hk:k<ps.toList.length:=by simpa using h2
    have:es[k]=mP (ρ (ps.toList[k]).2):=by simp[<- hes]
    rw[this];simp only[tf]
    exact qk3 (hρ _)) (fun x hx=>Cy x hx) (by simp only[base,Array.size_map,Array.size_range,bq,tI,hs];exact aR _)
  have iO:c'.size=n*sh.size:=by rw[g2];simp[base,hs]
  have pJ:(Instr.buildSlice t n (ps.map fun (i,x)=>(i,ρ' x))).run P w=.ok (.slice (some ⟨w.heap.size,0,none⟩) n n) (w.alloc (.cells c' e)):=by
   have hns:¬ (2^24<n*i.size):=by rw[hs];omega
   rw[<- hs] at g1
   by_cases h0:n*i.size=0
   .have hb:base=(Array.range (n*i.size)).map ((#[]:Array Value)[· % (#[]:Array Value).size]!):=by simp[base,h0]
    rw[hb] at g1;simp only[Instr.buildSlice,Sem.run_bind,run_underlying ht,Result.andThen_ok,qb hi,Sem.run_ite,an hns,Sem.run_pure,aq h0,g1]
    rfl
   .have hb:base=(Array.range (n*i.size)).map (zv.cells[· % zv.cells.size]!):=by simp[base,h0]
    rw[hb] at g1;have hz:(zeroValue e).run P w=.ok zv w:=by simp[zeroValue,typeInfo,hi,oh]
    simp only[Instr.buildSlice,Sem.run_bind,run_underlying ht,Result.andThen_ok,qb hi,Sem.run_ite,an hns,Sem.run_pure,an h0,hz,g1]
    rfl
  exact ⟨c',pJ,iO,by simpa using hlen,tI,Cy,fun j hj=>by
   have:=g3 j (by rw[tI];exact hj)
   simpa using this⟩
theorem qoy(hm:MemR B w g m)(hB:B<=w.heap.size){t e n:Nat}{sh:Sh}{ps:Array (Nat×Operand)}{ρ:Operand->AV}{ρ':Operand->Value}(hρ:∀x,V w g (ρ x) (ρ' x)){v:AV}(ht:P.underlying t=some (.slice e))(he:oO P e sh=true)(n8:ps.toList.map (·.1)=List.range n)
  (hn:n*sh.size<=16777216) (h:df sh (ps.toList.map fun p=>ρ p.2)=some v):pj P B w g (Instr.buildSlice t n (ps.map fun (i,x)=>(i,ρ' x))) v m:=by
 obtain ⟨i,zv,hi,hs,jd,oh,tW,rO⟩:=uO he
 have pH:n<=maxLen:=by
  have h1:n<=n*sh.size:=Nat.le_mul_of_pos_right _ aa;simp only[maxLen];omega
 unfold df at h
 split at h
 .rename_i hall;simp only[cg] at h;subst h
  obtain ⟨c,pJ,iO,pF,tI,Cy,hv⟩:=Xf hm hB hρ ht he n8 hn (gD.2 fun x hx=>by
   have:=gD.1 hall x hx;simp only[cD] at this
   exact this.1)
  have hpl:∀x∈(ps.toList.map fun p=>ρ p.2).map mP,dJ sh x=true/\pl x=true:=fun x hx=>by
   obtain ⟨y,hy,rfl⟩:=iw.1 hx;have:=gD.1 hall y hy;simpa only[cD] using this
  generalize (ps.toList.map fun p=>ρ p.2).map mP=es at *;obtain ⟨s,hm'⟩:=hm.alloc_imm hB (.cells c e)
  have hV:=Jj (w:=w.alloc (.cells c e)) (g:=g) (sh:=sh) (o:=.full) (es:=es) (cap:=n) (heap_alloc_new w _) aa pH hpl (by rw[tI,iO];exact aR _) (fun j hj=>by
    rw[tI] at hj
    exact (hv j hj).step s) (fun j _ h=>xR _ (hm.wrLt _ _ h)) (fun h=>xR _ (hm.boxLt _ h)) (show n=es.length from tI.symm)
  rw[tI] at hV;exact ⟨_,_,g,pJ,s,hm',hV⟩
 .split at h
  .rename_i hall;simp only[cg] at h;subst h;obtain ⟨c,pJ,iO,pF,tI,Cy,hv⟩:=Xf hm hB hρ ht he n8 hn hall;obtain ⟨s,hm'⟩:=hm.alloc_imm hB (.cells c e);rw[pF];generalize (ps.toList.map fun p=>ρ p.2).map mP=es at *;have hfl:=tq Cy;rw[tI] at hfl;refine ⟨_,_,g,pJ,s,hm',.vec n sh (dH es) ⟨w.heap.size,0,none⟩ n (fun j=>c.getD j undef) (.inr rfl) (aR _) pH hfl (Pp Cy) (fun j hj=>⟨?_,fun h=>xR _ (hm.wrLt _ _ h)⟩) (fun j hj=>(hv j (by omega)).step s)⟩;simp only[bq];rw[cell_of_row _ _ j c e (0,0) (heap_alloc_new w _)];simp[Array.getD,show j<c.size by omega]
  .cases h
theorem qrQ(hm:MemR B w g m)(hB:B<=w.heap.size){d:Option Nat}{t e:Nat}{sh:Sh}{z l c v:AV}{m':ai}{l' c':Value}(ht:P.underlying t=some (.slice e))(hsh:jG P e=some sh)(he:oO P e sh=true)(hz:sY P e=some z)
  (hl:V w g l l') (hc:V w g c c') (h:A5 d sh z (qp P e) m l c=some (v,m')):pj P B w g (Instr.makeSlice t l' c') v m':=by
 obtain ⟨i,zv,hi,hs,jd,oh,tW,rO⟩:=uO he;obtain ⟨i2,zv2,hi2,Qy,rfl⟩:=G1 hz;obtain rfl:i=i2:=by simpa [hi] using hi2
 obtain rfl:zv=zv2:=by simpa [oh] using Qy
 have hb:i.bytes<=qp P e:=by simp[qp,hi];omega
 have hz2:zv.cells.size=sh.size:=aa;unfold A5 at h
 split at h
 .rename_i kl l kc c;cases hl;cases hc
  split at h
  .rename_i nO;obtain ⟨⟨h0,P9,tG,tu⟩,iC,hpl⟩:=nO;subst P9;simp only[cg,fE] at h;obtain ⟨rfl,rfl⟩:=h;have tG:l*(i.bytes:Int)<=281474976710656:=Int.le_trans (Int.mul_le_mul_of_nonneg_left aa aa) tG;have hr:=run_make (P:=P) w t e i zv ht hi oh kl kc l l h0 (qG _) (by rw[Int.mul_comm];exact tG) tu
   have Kn:(iN zv).cells=[iN zv]:=by
    have h1:iN zv=qo zv:=by
     unfold iN
     split
     .exact absurd rfl (rO rfl _)
     .rfl
    rw[h1];unfold qo;split<;>rfl
   obtain ⟨z1,z2⟩:=qc7 (sh:=none) (n:=l.toNat) hz2 (fun _=>Kn) w g;obtain ⟨s,hm'⟩:=hm.alloc_imm hB (.cells (madeCells zv.cells (l.toNat*i.size)) e);have jL:i.size=1:=hs
   have hV:=Jj (w:=w.alloc (.cells (madeCells zv.cells (l.toNat*i.size)) e)) (g:=g) (sh:=none) (o:=.full) (es:=List.replicate l.toNat (iN zv)) (cap:=l.toNat) (heap_alloc_new w _) (by rw[vR];exact aR _) (by simp only[maxLen];omega)
    (fun x hx=>by
     obtain ⟨_,rfl⟩:=List.mem_replicate.1 hx
     exact ⟨iC,hpl⟩) (by rw[vR,size_madeCells,hs];exact aR _) (fun j hj=>by
     have hfl:dH (List.replicate l.toNat (iN zv))=sZ none (iN zv) l.toNat:=by
      unfold dH sZ
      induction l.toNat with
      | zero=>rfl
      | succ n ih=>rw[zL,vO,ih,Kn];rfl
     rw[hfl];rw[vR] at hj;have:=(z2 j hj).step s;rw[qaD _ _ _ aa (by rw[hs];exact hj)]
     exact this) (fun j _ h=>xR _ (hm.wrLt _ _ h)) (fun h=>xR _ (hm.boxLt _ h)) (show l.toNat=(List.replicate l.toNat (iN zv)).length from List.length_replicate.symm)
   rw[vR] at hV;exact ⟨_,_,g,hr,s,hm',hV⟩
  .cases h
 .cases h
end
end Go.Ab
namespace Go.Ab
open Go.RowKit
mutual
theorem qbA:∀x,pl x=true->cl x=true
 | .int ..,_ | .bool _,_ | .str _,_ | .nilp,_ | .nilf,_ | .nile,_ | .nilm,_=>rfl
 | .lst _ _ o _,h=>by cases o<;>first|rfl|(simp[pl] at h)
 | .agg cs,h=>by simp only[pl] at h;simp only[cl];exact qbw cs h
 | .any,h | .arr ..,h | .ptr ..,h | .vptr _,h | .tup _,h | .fn ..,h | .vec ..,h=>by simp[pl] at h
theorem qbw:∀cs,oE cs=true->wm cs=true
 | [],_=>rfl
 | c::cs,h=>by
  simp only[oE,cD] at h;simp only[wm,cD];exact ⟨qbA c h.1,qbw cs h.2⟩
end
mutual
theorem qbB:∀x,pl x=true->jo x=true
 | .int ..,_ | .bool _,_ | .str _,_ | .nilp,_ | .nilf,_ | .nile,_ | .nilm,_ | .lst ..,_=>rfl
 | .agg cs,h=>by simp only[pl] at h;simp only[jo];exact Ru cs h
 | .any,h | .arr ..,h | .ptr ..,h | .vptr _,h | .tup _,h | .fn ..,h | .vec ..,h=>by simp[pl] at h
theorem Ru:∀cs,oE cs=true->nr cs=true
 | [],_=>rfl
 | c::cs,h=>by
  simp only[oE,cD] at h;simp only[nr,cD];exact ⟨qbB c h.1,Ru cs h.2⟩
end
theorem Rt:∀{cs:List AV},oE cs=true->∀x∈cs,pl x=true
 | [],_,x,hx=>by simp at hx
 | c::cs,h,x,hx=>by
  simp only[oE,cD] at h
  rcases gI.1 hx with rfl|hx
  .exact h.1
  .exact Rt h.2 x hx
theorem ER:∀{cs:List AV},wm cs=true->∀x∈cs,cl x=true
 | [],_,x,hx=>by simp at hx
 | c::cs,h,x,hx=>by
  simp only[wm,cD] at h
  rcases gI.1 hx with rfl|hx
  .exact h.1
  .exact ER h.2 x hx
theorem Xt:∀{cs:List AV},(∀x∈cs,cl x=true)->wm cs=true
 | [],_=>rfl
 | c::cs,h=>by
  simp only[wm,cD];exact ⟨h c aA,Xt fun x hx=>h x (by simp[hx])⟩
theorem Ba:∀{cs:List AV},nr cs=true->∀x∈cs,jo x=true
 | [],_,x,hx=>by simp at hx
 | c::cs,h,x,hx=>by
  simp only[nr,cD] at h
  rcases gI.1 hx with rfl|hx
  .exact h.1
  .exact Ba h.2 x hx
theorem qbz{x:AV}(h:pl x=true):∀c∈x.cells,pl c=true:=by
 intro c hc
 cases x<;>first|(simp[AV.cells] at hc;subst hc;exact h)|(simp[pl] at h;done)|skip
 rename_i cs;simp only[pl] at h;exact Rt h c hc
theorem qt{cs:List AV}{j:Nat}(h:j<cs.length):cs.getD j .any∈cs:=by
 rw[aT,bP h];exact bA h
section
variable [WInv] {w:World} {g g2:G}
theorem VV{x:AV}{v:Value}{nv:Bool}(h:V w g x v)(hc:cl x=true)(hn:nv=true->jo x=true)(sN:∀b off,g2.wr b off->g.wr b off\/g.box b/\nv=true)(hbx:∀b,g2.box b->g.box b):V w g2 x v:=by
 induction h with
 | any=>exact .any _
 | int=>exact .int _ _
 | bool=>exact .bool _
 | str=>exact .str _
 | nils sh o ho=>exact .nils sh o ho
 | lst sh o es a cap us hs Fj hm hsh hcell hv ho ih=>
  refine .lst sh o es a cap us hs Fj hm hsh (fun j hj=>?_) (fun j hj=>ih j hj ?_ fun _=>?_) ?_
  .obtain ⟨h1,h2,h3⟩:=hcell j hj;exact ⟨h1,fun h=>(sN _ _ h).elim h2 fun h=>h3 h.1,fun h=>h3 (hbx _ h)⟩
  .obtain ⟨e,he,hx⟩:=List.mem_flatMap.1 (qt hj);exact qbA _ (qbz (hsh e he).2 _ hx)
  .obtain ⟨e,he,hx⟩:=List.mem_flatMap.1 (qt hj);exact qbB _ (qbz (hsh e he).2 _ hx)
  .cases o with
   | no=>trivial
   | full=>exact ho
   | tok=>simp[cl] at hc
 | arr=>simp[cl] at hc
 | ptr=>simp[cl] at hc
 | mref=>simp[cl] at hc
 | vec=>simp[cl] at hc
 | vptr cs b off us hcell hv ih=>
  simp only[cl] at hc
  have wS:nv=false:=by
   cases nv with
   | false=>rfl
   | true=>have:=hn rfl;simp[jo] at this
  subst wS;refine .vptr cs b off us (fun j hj=>?_) (fun j hj=>ih j hj (ER hc _ (qt hj)) (fun h=>by cases h));obtain ⟨h1,h2⟩:=hcell j hj;exact ⟨h1,fun h=>(sN _ _ h).elim h2 fun h=>by cases h.2⟩
 | nilp=>exact .nilp
 | nilf=>exact .nilf
 | nile=>exact .nile
 | nilm=>exact .nilm
 | agg cs vs hl hv ih=>
  simp only[cl] at hc;exact .agg cs vs hl fun j hj=>ih j hj (ER hc _ (qt hj)) fun h=>Ba (by simpa [jo] using hn h) _ (qt hj)
 | tup cs vs hl hv ih=>
  simp only[cl] at hc;exact .tup cs vs hl fun j hj=>ih j hj (ER hc _ (qt hj)) fun h=>Ba (by simpa [jo] using hn h) _ (qt hj)
 | fn f cs vs hl hv ih=>
  simp only[cl] at hc;exact .fn f cs vs hl fun j hj=>ih j hj (ER hc _ (qt hj)) fun h=>Ba (by simpa [jo] using hn h) _ (qt hj)
theorem OF{x:AV}{v:Value}(h:V w g x v)(hc:cl x=true)(sN:∀b off,g2.wr b off->g.wr b off)(hbx:∀b,g2.box b->g.box b):V w g2 x v:=
 VV (nv:=false) h hc (fun h=>by cases h) (fun b off h=>.inl (sN b off h)) hbx
theorem F9(f:AV->Option (AV×List Nat)):∀(cs rs:List AV) (l:List Nat),fU f cs=some (rs,l)->rs.length=cs.length/\(∀j,j<cs.length->∃lj,f (cs.getD j .any)=some (rs.getD j .any,lj)/\∀nm∈lj,nm∈l)/\∀nm∈l,∃j lj,j<cs.length/\f (cs.getD j .any)=some (rs.getD j .any,lj)/\nm∈lj
 | [],rs,l,h=>by simp[fU] at h;obtain ⟨rfl,rfl⟩:=h;simp
 | c::cs,rs,l,h=>by
  simp only[fU,bn,iq,fE] at h;obtain ⟨⟨r,l1⟩,h1,⟨rs',l2⟩,h2,rfl,rfl⟩:=h;obtain ⟨k1,k2,k3⟩:=F9 f cs rs' l2 h2
  refine ⟨by simp[k1],fun j hj=>?_,fun nm qU=>?_⟩
  .cases j with
   | zero=>exact ⟨l1,by simpa using h1,fun nm hn=>hZ.2 (.inl hn)⟩
   | succ j=>
    obtain ⟨lj,a1,a2⟩:=k2 j (by simpa using hj);exact ⟨lj,by simpa using a1,fun nm hn=>hZ.2 (.inr (a2 nm hn))⟩
  .rcases hZ.1 qU with hn|hn
   .exact ⟨0,l1,aA,by simpa using h1,hn⟩
   .obtain ⟨j,lj,a1,a2,a3⟩:=k3 nm hn;exact ⟨j+1,lj,by simpa using a1,by simpa using a2,a3⟩
theorem Yk(n:Nat)(hn:0<n):∀(k:Nat) (cs:List AV),cs.length=k*n->(rL n k cs).length=k/\(rL n k cs).flatten=cs/\∀x∈rL n k cs,x.length=n/\∀c∈x,c∈cs
 | 0,cs,h=>by
  have:cs=[]:=oF (by simpa using h);subst this;simp[rL]
 | k+1,cs,h=>by
  rw[rE] at h;obtain ⟨h1,h2,h3⟩:=Yk n hn k (cs.drop n) (by simp;omega);refine ⟨by simp[rL,h1],by simp[rL,h2],fun x hx=>?_⟩;simp only[rL,gI] at hx
  rcases hx with rfl|hx
  .exact ⟨by simp;omega,fun c hc=>uC hc⟩
  .exact ⟨(h3 x hx).1,fun c hc=>List.mem_of_mem_drop ((h3 x hx).2 c hc)⟩
theorem qpR{sh:Sh}{k:Nat}{cs:List AV}(hl:cs.length=k*sh.size)(jd:0<sh.size)(iC:∀c∈cs,fG c=true)(hpl:∀c∈cs,pl c=true) :
  (oQ sh k cs).length=k/\dH (oQ sh k cs)=cs/\∀e∈oQ sh k cs,dJ sh e=true/\pl e=true:=by
 cases sh with
 | none=>
  simp only[Sh.size,mV] at hl;have ht:cs.take k=cs:=iX aa;simp only[oQ,ht];refine ⟨hl,?_,fun e he=>⟨iC e he,hpl e he⟩⟩
  have qT:∀l:List AV,(∀c∈l,fG c=true)->dH l=l:=by
   intro l
   induction l with
   | nil=>intro _;rfl
   | cons c l ih=>
    intro h
    have hc:c.cells=[c]:=by
     have:=h c aA
     cases c<;>first|rfl|(simp[fG] at this)
    show c.cells++dH l=c::l;rw[hc,ih fun x hx=>h x (by simp[hx])];rfl
  exact qT cs iC
 | some n=>
  simp only[Sh.size] at hl jd;obtain ⟨h1,h2,h3⟩:=Yk n jd k cs hl
  have qqI:∀l:List AV,(∀c∈l,pl c=true)->oE l=true:=by
   intro l
   induction l with
   | nil=>intro _;rfl
   | cons c l ih=>intro h;simp only[oE,cD];exact ⟨h c aA,ih fun x hx=>h x (by simp[hx])⟩
  refine ⟨by simp[oQ,h1],?_,fun e he=>?_⟩
  .have hfl:∀L:List (List AV),dH (L.map .agg)=L.flatten:=by
    intro L
    induction L with
    | nil=>rfl
    | cons x L ih=>
     show (AV.agg x).cells++dH (L.map .agg)=x++L.flatten;rw[ih];rfl
   show dH ((rL n k cs).map .agg)=cs;rw[hfl,h2]
  .obtain ⟨x,hx,rfl⟩:=iw.1 he;obtain ⟨a1,a2⟩:=h3 x hx
   refine ⟨?_,?_⟩
   .simp only[dJ,cD,uH,gD];exact ⟨a1,fun c hc=>iC c (a2 c hc)⟩
   .simp only[pl];exact qqI x fun c hc=>hpl c (a2 c hc)
variable {B:Nat} {m:ai}
theorem Ao(hm:MemR B w g m):∀(k:Nat) (x x':AV) (l:List Nat) (v:Value),V w g x v->cq m k x=some (x',l) ->
  (∀nm∈l,∃cs,m.get nm=some (.obj false cs))/\cl x'=true /\
  ∀g2:G,(∀b off,g2.wr b off->g.wr b off)->(∀b,g2.box b->g.box b)->(∀nm∈l,∀b,g.loc nm=some b->∀off,¬ g2.wr b off)->(jo x'=true\/∀nm cs b,m.get nm=some (.obj true cs)->g.loc nm=some b->∀off,¬ g2.wr b off)->V w g2 x' v:=by
 intro k
 induction k with
 | zero=>intro x x' l v _ h;simp[cq] at h
 | succ k ih=>
  intro x x' l v hV h
  have jK:∀(cs rs:List AV) (l:List Nat) (f:Nat->Value),(∀j,j<cs.length->V w g (cs.getD j .any) (f j))->fU (cq m k) cs=some (rs,l) ->
    (∀nm∈l,∃cs,m.get nm=some (.obj false cs))/\wm rs=true/\rs.length=cs.length /\
    ∀g2:G,(∀b off,g2.wr b off->g.wr b off)->(∀b,g2.box b->g.box b)->(∀nm∈l,∀b,g.loc nm=some b->∀off,¬ g2.wr b off)->(nr rs=true\/∀nm cs b,m.get nm=some (.obj true cs)->g.loc nm=some b->∀off,¬ g2.wr b off)->∀j,j<rs.length->V w g2 (rs.getD j .any) (f j):=by
   intro cs rs l f hv rN;obtain ⟨k1,k2,k3⟩:=F9 _ _ _ _ rN
   refine ⟨fun nm hn=>?_,Xt fun x hx=>?_,k1,fun g2 c1 c2 c3 c4 j hj=>?_⟩
   .obtain ⟨j,lj,a1,a2,a3⟩:=k3 nm hn;exact (ih _ _ _ _ (hv j a1) a2).1 nm a3
   .obtain ⟨j,hj,rfl⟩:=vU.1 hx;obtain ⟨lj,a1,_⟩:=k2 j aa;have:=(ih _ _ _ _ (hv j aa) a1).2.1;simpa [aT,hj] using this
   .obtain ⟨lj,a1,a2⟩:=k2 j aa;refine (ih _ _ _ _ (hv j aa) a1).2.2 g2 c1 c2 (fun nm hn=>c3 nm (a2 nm hn)) (c4.imp (fun h=>?_) id);exact Ba h _ (qt hj)
  cases hV with
  | any=>simp[cq] at h;obtain ⟨rfl,rfl⟩:=h;exact ⟨aA,rfl,fun _ _ _ _ _=>.any _⟩
  | int=>simp[cq] at h;obtain ⟨rfl,rfl⟩:=h;exact ⟨aA,rfl,fun _ _ _ _ _=>.int _ _⟩
  | bool=>simp[cq] at h;obtain ⟨rfl,rfl⟩:=h;exact ⟨aA,rfl,fun _ _ _ _ _=>.bool _⟩
  | str=>simp[cq] at h;obtain ⟨rfl,rfl⟩:=h;exact ⟨aA,rfl,fun _ _ _ _ _=>.str _⟩
  | nilp=>simp[cq] at h;obtain ⟨rfl,rfl⟩:=h;exact ⟨aA,rfl,fun _ _ _ _ _=>.nilp⟩
  | nilf=>simp[cq] at h;obtain ⟨rfl,rfl⟩:=h;exact ⟨aA,rfl,fun _ _ _ _ _=>.nilf⟩
  | nile=>simp[cq] at h;obtain ⟨rfl,rfl⟩:=h;exact ⟨aA,rfl,fun _ _ _ _ _=>.nile⟩
  | nilm=>simp[cq] at h;obtain ⟨rfl,rfl⟩:=h;exact ⟨aA,rfl,fun _ _ _ _ _=>.nilm⟩
  | vec=>simp[cq] at h
  | mref=>simp[cq] at h;obtain ⟨rfl,rfl⟩:=h;exact ⟨aA,rfl,fun _ _ _ _ _=>.any _⟩
  | nils sh o ho=>
   rcases ho with rfl|rfl<;>(simp[cq] at h;obtain ⟨rfl,rfl⟩:=h;exact ⟨aA,rfl,fun _ _ _ _ _=>.nils _ _ aA⟩)
  | lst sh o es a cap us hs hc hmx hsh hcell hv ho=>
   have yA:V w g (.lst sh false .no es) (.slice (some a) es.length cap):=.lst sh .no es a cap us hs hc hmx hsh hcell hv trivial;have Yx:V w g (.lst sh false o es) (.slice (some a) es.length cap):=.lst sh o es a cap us hs hc hmx hsh hcell hv ho
   cases o with
   | no=>simp[cq] at h;obtain ⟨rfl,rfl⟩:=h;exact ⟨aA,rfl,fun g2 c1 c2 _ _=>OF Yx rfl c1 c2⟩
   | full=>simp[cq] at h;obtain ⟨rfl,rfl⟩:=h;exact ⟨aA,rfl,fun g2 c1 c2 _ _=>OF Yx rfl c1 c2⟩
   | tok=>simp[cq] at h;obtain ⟨rfl,rfl⟩:=h;exact ⟨aA,rfl,fun g2 c1 c2 _ _=>OF yA rfl c1 c2⟩
  | arr nm off n sh a cap hs hc hmx hl=>
   simp only[cq,bn] at h;obtain ⟨⟨bx,cs⟩,qV,h⟩:=h;simp only at h
   split at h
   .rename_i nO;simp only[cD,zp,oM] at nO;obtain ⟨rfl,hle⟩:=nO;simp only[bn] at h;obtain ⟨⟨rs,l1⟩,rN,h⟩:=h;simp only at h
    split at h
    .rename_i bc;simp only[cD,gD] at bc;obtain ⟨iC,hpl⟩:=bc;simp only[cg,fE] at h;obtain ⟨rfl,rfl⟩:=h;have aU:=obj?_get qV;obtain ⟨b,c,e,o1,o2,o3,o4,o5,o6,o7⟩:=hm.obj nm false cs aU
     obtain ⟨p1,p2,p3,p4⟩:=jK ((cs.drop off).take (n*sh.size)) rs l1 (fun j=>c.getD (off+j) undef) (fun j hj=>by
      simp only[im,pn] at hj;have:=o5 (off+j) aa
      simpa [aT,rB,te,show j<n*sh.size by omega] using this) rN
     have FJ:rs.length=n*sh.size:=by rw[p3];simp;omega
     refine ⟨fun x hx=>?_,rfl,fun g2 c1 c2 c3 c4=>?_⟩
     .rcases gI.1 hx with rfl|hx
      .exact ⟨cs,aU⟩
      .exact p1 x hx
     .have hrs:∀c∈rs,pl c=true:=Rt hpl
      by_cases mI:n=0
      .subst mI;have YV:oQ sh 0 rs=[]:=by cases sh<;>simp[oQ,rL]
       rw[YV];exact .lst sh .no [] a cap (fun _=>undef) hs (oJ _) hmx aA aA aA trivial
      .obtain ⟨nQ,ha⟩:=hl.resolve_left mI;obtain rfl:a.block=b:=by simpa [nQ] using o1
       by_cases hsz:sh.size=0
       ·
        cases sh with
        | none=>simp[Sh.size] at hsz
        | some s=>
         simp only[Sh.size] at hsz;subst hsz;have wP:rs=[]:=oF (by rw[FJ];simp[Sh.size]);subst wP
         have hg:∀n,rL 0 n ([]:List AV)=List.replicate n []:=by
          intro n
          induction n with
          | zero=>rfl
          | succ n ih=>simp[rL,ih,zL]
         have hes:oQ (some 0) n []=List.replicate n (.agg []):=by simp[oQ,hg]
         have hlen:n=(oQ (some 0) n []).length:=by rw[hes];simp
         have hfl:dH (oQ (some 0) n [])=[]:=by
          rw[hes]
          have:∀n,dH (List.replicate n (.agg []))=[]:=by
           intro n
           induction n with
           | zero=>rfl
           | succ n ih=>
            show (AV.agg []).cells++dH (List.replicate n (.agg []))=[];rw[ih];rfl
          exact this n
         have hV:=V.lst (w:=w) (g:=g2) (some 0) .no (oQ (some 0) n []) a cap (fun _=>undef) hs aa hmx (fun e he=>by
          rw[hes] at he;obtain rfl:=List.eq_of_mem_replicate he
          exact ⟨rfl,rfl⟩) (by rw[hfl];simp) (by rw[hfl];simp) trivial
         rw[<- hlen] at hV;exact hV
       .obtain ⟨q1,q2,q3⟩:=qpR FJ aa iC hrs
        have hV:=V.lst (w:=w) (g:=g2) sh .no (oQ sh n rs) a cap (fun j=>c.getD (off+j) undef) hs aa hmx q3 (fun j hj=>by
          rw[q2,FJ] at hj;have qpX:a.off=off:=by rw[ha.1]
          refine ⟨?_,c3 nm aA _ nQ _,fun hb=>?_⟩
          .rw[qpX,cell_of_row w _ _ c e (0,0) o3];simp[Array.getD,show off+j<c.size by omega]
          .have:=o7.1 (c2 _ hb)
           cases this) (fun j hj=>by
          rw[q2] at hj ⊢;refine p4 g2 c1 c2 (fun x hx=>c3 x (by simp[hx])) (.inl ?_) j hj
          exact Ru rs hpl) trivial
        rw[q1] at hV;exact hV
    .cases h
   .cases h
  | ptr nm off b hl=>
   simp only[cq,bn] at h;obtain ⟨⟨bx,cs⟩,qV,h⟩:=h;simp only at h
   split at h
   .rename_i hbx;simp only[iq,fE] at h;obtain ⟨⟨rs,l1⟩,rN,rfl,rfl⟩:=h;have aU:=obj?_get qV;obtain ⟨b',c,e,o1,o2,o3,o4,o5,o6,o7⟩:=hm.obj nm bx cs aU;obtain rfl:b=b':=by simpa [hl] using o1
    obtain ⟨p1,p2,p3,p4⟩:=jK (cs.drop off) rs l1 (fun j=>c.getD (off+j) undef) (fun j hj=>by
     simp only[pn] at hj;have:=o5 (off+j) aa
     simpa [aT,te] using this) rN
    refine ⟨p1,by simpa [cl] using p2,fun g2 c1 c2 c3 c4=>?_⟩;have c4':=c4.resolve_left (by simp[jo]);refine .vptr rs b off (fun j=>c.getD (off+j) undef) (fun j hj=>?_) (p4 g2 c1 c2 c3 (.inr c4'));rw[p3] at hj;simp only[pn] at hj;refine ⟨?_,c4' nm cs _ (hbx▸aU) hl _⟩;rw[cell_of_row w _ _ c e (0,0) o3];simp[Array.getD,show off+j<c.size by omega]
   .cases h
  | vptr cs b off us hcell hv=>
   simp only[cq,iq,fE] at h;obtain ⟨⟨rs,l1⟩,rN,rfl,rfl⟩:=h;obtain ⟨p1,p2,p3,p4⟩:=jK cs rs l1 us hv rN;refine ⟨p1,by simpa [cl] using p2,fun g2 c1 c2 c3 c4=>?_⟩;refine .vptr rs b off us (fun j hj=>?_) (p4 g2 c1 c2 c3 (.inr (c4.resolve_left (by simp[jo]))));rw[p3] at hj;exact ⟨(hcell j hj).1,fun h=>(hcell j hj).2 (c1 _ _ h)⟩
  | agg cs vs hl hv=>
   simp only[cq,iq,fE] at h;obtain ⟨⟨rs,l1⟩,rN,rfl,rfl⟩:=h;obtain ⟨p1,p2,p3,p4⟩:=jK cs rs l1 _ hv rN;exact ⟨p1,by simpa [cl] using p2,fun g2 c1 c2 c3 c4=>.agg _ _ (p3.trans hl) (p4 g2 c1 c2 c3 (c4.imp (fun h=>by simpa [jo] using h) id))⟩
  | tup cs vs hl hv=>
   simp only[cq,iq,fE] at h;obtain ⟨⟨rs,l1⟩,rN,rfl,rfl⟩:=h;obtain ⟨p1,p2,p3,p4⟩:=jK cs rs l1 _ hv rN;exact ⟨p1,by simpa [cl] using p2,fun g2 c1 c2 c3 c4=>.tup _ _ (p3.trans hl) (p4 g2 c1 c2 c3 (c4.imp (fun h=>by simpa [jo] using h) id))⟩
  | fn f cs vs hl hv=>
   simp only[cq,iq,fE] at h;obtain ⟨⟨rs,l1⟩,rN,rfl,rfl⟩:=h;obtain ⟨p1,p2,p3,p4⟩:=jK cs rs l1 _ hv rN;exact ⟨p1,by simpa [cl] using p2,fun g2 c1 c2 c3 c4=>.fn _ _ _ (p3.trans hl) (p4 g2 c1 c2 c3 (c4.imp (fun h=>by simpa [jo] using h) id))⟩
end
end Go.Ab
namespace Go.Ab
open Go.RowKit
def uv[WInv](P:Program)(f:Nat)(args:List AV)(m:ai)(v:AV)(m':ai):Prop:=
 ∀(B:Nat) (w:World) (g:G) (vs:Array Value),MemR B w g m->B<=w.heap.size->args.length=vs.size->(∀j,j<args.length->V w g (args.getD j .any) (vs.getD j undef)) ->
  Calls P f vs w fun e w'=>∃v' g',e=.returned v'/\Step B w g w' g'/\MemR B w' g' m'/\V w' g' v v'
def DF(P:Program)(d:Deferred):Prop:=∃fv cap f args,d.target=.fn fv cap/\∀w,(invoke d.target d.args).run P w=.ok (.enter f args) w/\CallsD P f args .returning w fun e u w'=>(∃v,e=.returned v)/\u=.returning/\w'=w
def Mc(P:Program)(ds:List Deferred):Prop:=∀d∈ds,DF P d
def jk(P:Program)(a' a:Act):Prop:=Mc P a.defers->Mc P a'.defers
theorem jk.refl(P:Program)(a:Act):jk P a a:=fun h=>h
theorem jk.trans{P:Program}{a b c:Act}(h:jk P c b)(k:jk P b a):jk P c a:=fun x=>h (k x)
theorem jk.of_eq{P:Program}{a b:Act}(h:b.defers=a.defers):jk P b a:=fun x=>by rw[h];exact x
theorem qaj{P:Program}{fn:Func}{tmps:Array Value}{R:Ending->World->Prop}{w:World}(h:∃v,(results fn tmps).run P w=.ok v w/\R (.returned v) w):∀ds:List Deferred,Mc P ds->Leaves P fn tmps R ds .returning w
 | [],_=>h
 | d::ds,hb=>by
  obtain ⟨fv,cap,f,args,h1,h2⟩:=hb d gj;obtain ⟨h3,h4⟩:=h2 w;refine ⟨aA,fv,cap,f,args,h1,h3,fun c cs hc=>?_⟩;obtain ⟨e,u',w',fr,⟨⟨v,rfl⟩,rfl,rfl⟩,h5⟩:=h4 c cs hc;exact ⟨_,_,_,fr,qaj h ds fun d hd=>hb d (fW _ hd),h5⟩
structure CfgOk [WInv] (C:Cfg):Prop where
 ben:∀(g:Nat),C.ben g=true->∀caps:Array Value,DF C.P { target:=.fn (.func g) caps,args:=#[] }
 name:∀(g:Nat) (fn:Func),C.P.funcs[g]?=some fn->(fn.name == "runtime.NumGoroutine")=false
 lib:∀(g:Nat) h,C.lib g=some h->(∃fn,C.P.funcs[g]?=some fn/\fn.body.isSome)/\∀vs v,h vs=some v->∀m,uv C.P g vs m v m
 libm:∀(g:Nat) h,C.libm g=some h->(∃fn,C.P.funcs[g]?=some fn/\fn.body.isSome)/\∀vs m v m',h vs m=some (v,m')->uv C.P g vs m v m'
section
variable [WInv] {C:Cfg} {B:Nat} {w:World} {g:G} {m:ai}
theorem qJ.put{ts:List AV}{a:Act}(h:qJ w g ts a.tmps){v:AV}{v':Value}(hv:V w g v v')(d:Option Nat):qJ w g (gK ts d v) (a.put d v').tmps:=by
 cases d with
 | none=>exact h
 | some d=>
  refine ⟨by simp[gK,Act.put,h.1],fun t=>?_⟩;simp only[gK,Act.put,aT,jX,List.getElem?_set,G2]
  by_cases he:d=t
  .subst he
   by_cases hl:d<ts.length
   .have AF:d<a.tmps.size:=by have:=h.1;omega
    simp only[aq hl,aq AF,bJ,fk];exact hv
   .have AF:¬ d<a.tmps.size:=by have:=h.1;omega
    simp only[an hl,an AF,bJ,Option.getD_none];exact .any _
  .simp only[an he];simpa [aT,jX] using h.2 t
theorem qbI(a:Act)(d:Option Nat)(v:Value):(a.put d v).defers=a.defers:=by cases d<;>rfl
theorem XV{ts:List AV}{a:Act}(h:qJ w g ts a.tmps)(x:Operand):V w g (ev ts x) (a.eval x):=by
 cases x with
 | tmp t=>exact h.2 t
 | const v=>exact VY w g v
 | global _=>exact .any _
 | func f=>exact .fn f [] #[] rfl aA
theorem quQ{P:Program}{o:Oper}{a:Act}{next:Act->World->Prop}{Q:Exit->Act->World->Prop}{v:AV}{m':ai}{s:Sem Value}(hs:∀w,(execOp a.eval o).run P w=(do pure (.value (<- s)):Sem Next).run P w)(h:pj P B w g s v m')
  (hn:∀v' w' g',Step B w g w' g'->MemR B w' g' m'->V w' g' v v'->next (a.put o.dst v') w'):o.wp P a w next Q:=by
 obtain ⟨v',w',g',h1,h2,h3,h4⟩:=h;unfold Oper.wp;rw[hs];simp only[Sem.run_bind,h1,Result.andThen_ok,Sem.run_pure];exact hn v' w' g' h2 h3 h4
theorem quP{P:Program}{o:Oper}{a:Act}{next:Act->World->Prop}{Q:Exit->Act->World->Prop}{c:Call}{fo:Operand}(ho:o.op=.call c)(hc:c.callee=.value fo){f:Nat}{caps:Array Value}(hf:a.eval fo=.func (.func f) #[] caps)
  {fn:Func} (hfn:P.funcs[f]?=some fn) (hname:(fn.name == "runtime.NumGoroutine")=false) (hbody:fn.body.isSome) {R:Ending->World->Prop} (h:Calls P f (c.args.map a.eval++caps) w R)
  (hR:∀e w',R e w'->∃v',e=.returned v'/\next (a.put o.dst v') w'):o.wp P a w next Q:=by
 have pJ:(execOp a.eval o).run P w=.ok (.enter f (c.args.map a.eval++caps)) w:=by
  have hb:fn.body.isNone=false:=by cases hb:fn.body<;>simp_all
  simp only[execOp,ho,resolve,hc,hf,Deferred.ofValue,invoke,callFunc,hfn,hname,hb,Sem.run_bind,Sem.run_pure,run_program,Result.andThen_ok,jJ,lp,Array.empty_append]
 unfold Oper.wp;rw[pJ,Oper.upon_enter];refine h.mono fun e w' hr=>?_;obtain ⟨v',rfl,hn⟩:=hR e w' hr;exact hn
def Ch(g:G)(m:ai)(l:List Nat)(ex:Bool):G where
 wr b off:=g.wr b off/\(¬ ∃nm∈l,g.loc nm=some b)/\(ex=true->¬ ∃nm cs,m.get nm=some (.obj true cs)/\g.loc nm=some b)
 box:=g.box
 loc _:=none
 tloc _ _:=none
def rF(g:G)(l:List Nat)(bx:Nat->Prop):G where
 wr b off:=g.wr b off/\¬ ∃nm∈l,g.loc nm=some b
 box:=bx
 loc:=g.loc
 tloc:=g.tloc
theorem lL:∀(l:List Nat) (m:ai) (nm:Nat),ai.get (kB m l) nm=if nm∈l then none else m.get nm
 | [],m,nm=>by simp[kB]
 | x::l,m,nm=>by
  have:=lL l (m.set x none) nm;show ai.get (kB (m.set x none) l) nm=_;rw[this,gV]
  by_cases h1:nm∈l
  .simp[h1]
  .by_cases h2:nm=x
   .subst h2;simp
   .simp[h1,h2]
theorem CY:∀(l:List Nat) (m:ai),(kB m l).length=m.length
 | [],m=>rfl
 | x::l,m=>by
  show (kB (m.set x none) l).length=_;rw[CY l];simp
theorem qlN(hm:MemR B w g m)(hB:B<=w.heap.size){w':World}{gb:G}{mk:ai}(ic:Step B w g w' gb)(nb:MemR B w' gb mk)(hlen:mk.length=m.length)(uT:gb.loc=g.loc)(wK:gb.tloc=g.tloc)(hJ:∀nm e,mk.get nm=some e->m.get nm=some e)
  (hblk:∀b,b<w.heap.size->w'.heap[b]?=w.heap[b]?) {b:Nat} {c:Array Value} {e:TypeId} {cs:List AV} (hb:w.heap.size<=b) (tJ:w'.heap[b]?=some (Obj.cells c e (0,0))) (iO:cs.length<=c.size) (tF:¬ gb.box b)
  (hV:∀j,j<cs.length->V w' (ig gb m.length b false) (cs.getD j .any) (c.getD j undef)) :
  Step B w g w' (ig gb m.length b false)/\MemR B w' (ig gb m.length b false) (mk++[some (.obj false cs)]):=by
 have mc:=hm.fresh m.length (aR _)
 have s:Step B w g w' (ig gb m.length b false):=by
  refine ⟨ic.below,ic.cell,ic.shape,fun b' off gO hn h=>?_,fun b' off gO=>?_,fun b' gO=>?_,fun nm b' h=>?_,fun nm n b' h=>ic.tloc nm n b' h⟩
  .rcases h with h|h
   .omega
   .exact ic.wr b' off gO hn h
  .constructor
   .rintro (h|h)
    .omega
    .exact (ic.wrB b' off gO).1 h
   .exact fun h=>.inr ((ic.wrB b' off gO).2 h)
  .simp only[ig,jJ,false_and,false_or];exact ic.box b' gO
  .simp only[ig]
   split
   .rename_i he;rw[he,mc.1] at h;cases h
   .exact ic.loc nm b' h
 have aU:∀x,ai.get (mk++[some (.obj false cs)]) x=if x<m.length then mk.get x else if x=m.length then some (.obj false cs) else none:=by
  intro x;unfold ai.get;rw[rA,hlen]
  by_cases h1:x<m.length
  .rw[aq h1,aq h1]
  .rw[an h1,an h1]
   by_cases h2:x=m.length
   .rw[aq h2,h2,qn];rfl
   .rw[an h2,pk (by simp;omega)];rfl
 have YI:∀x b',bj (ig gb m.length b false) (mk++[some (.obj false cs)]) x=some b'->(x<m.length/\bj gb mk x=some b'/\b'<w.heap.size)\/(x=m.length/\b'=b):=by
  intro x b' gO
  rcases qK gO with ⟨bx',cs',h1,h2⟩|⟨n',sz',h1,h2⟩|⟨kk,es,h1,h2⟩
  rotate_left 2
  .rw[aU] at h1
   split at h1
   .rename_i hlt;simp only[ig,an (Nat.ne_of_lt hlt)] at h2;refine .inl ⟨hlt,by simp[bj,h1,h2],?_⟩;obtain ⟨b0,es0,cl0,o1,o2,o3,_⟩:=hm.mp x kk es (hJ _ _ h1);rw[uT] at h2;obtain rfl:b'=b0:=by simpa [h2] using o1
    exact (fP.1 o3).1
   .split at h1<;>cases h1
  .rw[aU] at h1
   split at h1
   .rename_i hlt;simp only[ig,an (Nat.ne_of_lt hlt)] at h2;refine .inl ⟨hlt,by simp[bj,h1,h2],?_⟩;obtain ⟨b0,c0,e0,o1,o2,o3,_⟩:=hm.obj x bx' cs' (hJ _ _ h1);rw[uT] at h2;obtain rfl:b'=b0:=by simpa [h2] using o1
    exact (fP.1 o3).1
   .split at h1
    .rename_i he;simp only[ig,aq he] at h2;exact .inr ⟨he,by simpa using h2.symm⟩
    .cases h1
  .rw[aU] at h1
   split at h1
   .rename_i hlt
    refine .inl ⟨hlt,?_,?_⟩
    .simp only[ig] at h2;simp[bj,h1,h2]
    .obtain ⟨b0,c0,e0,o1,o2,o3,_⟩:=hm.tok x n' sz' (hJ _ _ h1);simp only[ig] at h2;rw[wK] at h2;obtain rfl:b'=b0:=by simpa [h2] using o1
     exact (fP.1 o3).1
   .split at h1<;>cases h1
 refine ⟨s,?_,?_,?_,?_,?_,?_,?_,?_,?mp⟩
 case mp=>
  intro x kk es hn;rw[aU] at hn
  split at hn
  .rename_i hlt;obtain ⟨b1,es1,cl1,h1,h2,h3,h4⟩:=hm.mp x kk es (hJ _ _ hn);exact ⟨b1,es1,cl1,by simp only[ig];rw[an (Nat.ne_of_lt hlt),uT];exact h1,h2,(hblk b1 (fP.1 h3).1).trans h3,h4.step s⟩
  .split at hn<;>cases hn
 .intro x bx' cs' hn;rw[aU] at hn
  split at hn
  .rename_i hlt;obtain ⟨b1,c1,e1,h1,h2,h3,h4,h5,h6,h7⟩:=hm.obj x bx' cs' (hJ _ _ hn);obtain ⟨b2,c2,e2,k1,k2,k3,k4,k5,k6,k7⟩:=nb.obj x bx' cs' hn;rw[uT] at k1;obtain rfl:b1=b2:=by simpa [h1] using k1
   have nQ:=(fP.1 h3).1;refine ⟨b1,c1,e1,s.loc _ _ h1,h2,(hblk b1 nQ).trans h3,h4,fun j hj=>(h5 j hj).step s,fun off=>.inr (k6 off),?_⟩;simp only[ig,jJ,false_and,false_or];exact k7
  .split at hn
   .rename_i he;simp only[cg,Ent.obj.injEq] at hn;obtain ⟨rfl,rfl⟩:=hn;refine ⟨b,c,e,by simp[ig,he],aa,tJ,iO,hV,fun off=>.inl rfl,?_⟩;simp only[ig,jJ,false_and,false_or,iff_false];exact tF
   .cases hn
 .intro x n sz hn;rw[aU] at hn
  split at hn
  .obtain ⟨b1,c1,e1,h1,h2,h3,h4,h5,h6⟩:=nb.tok x n sz hn;refine ⟨b1,c1,e1,h1,h2,h3,fun off ho=>.inr (h4 off ho),h5,?_⟩;simp only[ig,jJ,false_and,false_or];exact h6
  .split at hn<;>cases hn
 .intro x hn;rw[aU] at hn
  split at hn
  .rename_i hlt;have:=nb.resv x hn;exact ⟨by simp only[ig];rw[an (Nat.ne_of_lt hlt)];exact this.1,this.2⟩
  .split at hn<;>cases hn
 .intro x hn;rw[aW,hlen] at hn;have:=nb.fresh x (by rw[hlen];simp at hn;omega);exact ⟨by simp only[ig];rw[an (by simp at hn;omega)];exact this.1,this.2⟩
 .intro x x' b' h1 h2
  rcases YI _ _ h1 with ⟨a1,a2,a3⟩|⟨a1,a2⟩<;>rcases YI _ _ h2 with ⟨b1,b2,b3⟩|⟨b1,b2⟩
  .exact nb.inj _ _ _ a2 b2
  .omega
  .omega
  .omega
 .rintro b' off (rfl|hw)
  .exact (fP.1 tJ).1
  .exact nb.wrLt b' off hw
 .exact nb.inv
 .intro b' hw;simp only[ig,jJ,false_and,false_or] at hw;exact nb.boxLt b' hw
theorem qti{w':World}{g' g2:G}{x:AV}{u:Value}(hx:nW x=true)(h:V w' g' x u)
  (hne:∀bl off,¬ g'.wr bl off->¬ g'.box bl->(∃k n,w'.cell? ⟨bl,off,none⟩=some (.int k n))->¬ g2.wr bl off) (hbx:∀bl,g2.box bl->g'.box bl):V w' g2 x u:=by
 cases h with
 | bool b=>exact .bool b
 | nils sh o ho=>exact .nils sh o ho
 | lst sh o es a cap us hs hc hm hsh hcell hv ho=>
  cases sh with
  | some n=>simp[nW] at hx
  | none=>
  have yA:(es.all QH=true)/\∀nm e,o≠.tok nm e:=by
   cases o with
   | no=>exact ⟨hx,fun _ _ h=>by cases h⟩
   | full=>exact ⟨hx,fun _ _ h=>by cases h⟩
   | tok nm e=>simp[nW] at hx
  have hint:∀e∈es,∃k n,e=.int k n:=by
   intro e he;have:=gD.1 yA.1 e he;cases e<;>simp[QH] at this;exact ⟨_,_,rfl⟩
  have qp9:∀ds:List AV,(∀e∈ds,∃k n,e=.int k n)->dH ds=ds:=by
   intro ds
   induction ds with
   | nil=>intro _;rfl
   | cons e ds ih=>
    intro hi;obtain ⟨k,n,rfl⟩:=hi e aA;show _::dH ds=_;rw[ih (fun e he=>hi e (by simp[he]))]
  have FR:∀j,j<(dH es).length->∃k n,(dH es).getD j .any=.int k n/\us j=.int k n:=by
   intro j hj;have h1:=hv j hj;obtain ⟨k,n,he⟩:=hint ((dH es).getD j .any) (by rw[qp9 es hint] at hj ⊢;exact qt hj);rw[he] at h1;generalize us j=u at h1;cases h1;exact ⟨k,n,he,rfl⟩
  refine .lst _ _ es a cap us hs hc hm hsh (fun j hj=>?_) (fun j hj=>?_) ?_
  .obtain ⟨c1,c2,c3⟩:=hcell j hj;obtain ⟨k,n,_,hu⟩:=FR j hj;exact ⟨c1,hne _ _ c2 c3 ⟨k,n,by rw[c1,hu]⟩,fun hb=>c3 (hbx _ hb)⟩
  .obtain ⟨k,n,he,hu⟩:=FR j hj;rw[he,hu];exact .int k n
  .cases o with
   | no=>trivial
   | full=>exact ho
   | tok nm e=>exact absurd rfl (yA.2 nm e)
 | any=>simp[nW] at hx
 | int=>simp[nW] at hx
 | str=>simp[nW] at hx
 | arr=>simp[nW] at hx
 | ptr=>simp[nW] at hx
 | mref=>simp[nW] at hx
 | vec=>simp[nW] at hx
 | vptr=>simp[nW] at hx
 | nilp=>simp[nW] at hx
 | nilf=>simp[nW] at hx
 | nile=>simp[nW] at hx
 | nilm=>simp[nW] at hx
 | agg=>simp[nW] at hx
 | tup=>simp[nW] at hx
 | fn=>simp[nW] at hx
theorem qui(hm:MemR B w g m)(hB:B<=w.heap.size){P:Program}{f:Nat}{call:Nat->List AV->ai->OM}(Fk:∀args m v m',call f args m=some (v,m')->uv P f args m v m'){args rs:List AV}{l:List Nat}{vs:Array Value}
  (hl:args.length=vs.size) (hv:∀j,j<args.length->V w g (args.getD j .any) (vs.getD j undef)) (hf:fU (cq m kX) args=some (rs,l)) {v0 r:AV} {m0 mr:ai} (hc:call f rs []=some (v0,m0)) (nS:Sd m.length m0 v0=some (r,mr)) :
  Calls P f vs w fun e w'=>∃v' g',e=.returned v'/\Step B w g w' g'/\MemR B w' g' (kB m l++mr)/\V w' g' r v':=by
 obtain ⟨k1,k2,k3⟩:=F9 _ _ _ _ hf
 have qV:∀nm∈l,∃cs,m.get nm=some (.obj false cs):=fun nm hn=>by
  obtain ⟨j,lj,a1,a2,a3⟩:=k3 nm hn;exact (Ao hm kX _ _ _ _ (hv j a1) a2).1 nm a3
 have qR:∀j,j<rs.length->V w (Ch g m l (!nr rs)) (rs.getD j .any) (vs.getD j undef):=fun j hj=>by
  obtain ⟨lj,a1,a2⟩:=k2 j aa;refine (Ao hm kX _ _ _ _ (hv j aa) a1).2.2 _ (fun b off h=>h.1) (fun b h=>h) (fun nm hn b hb off h=>h.2.1 ⟨nm,a2 nm hn,hb⟩) ?_
  by_cases hn:nr rs=true
  .exact .inl (Ba hn _ (qt hj))
  .exact .inr fun nm cs b aU jR off h=>h.2.2 (by simpa using hn) ⟨nm,cs,aU,jR⟩
 have Qa:MemR w.heap.size w (Ch g m l (!nr rs)) []:=by
  refine ⟨fun nm bx cs h=>by simp[ai.get] at h,fun nm n sz h=>by simp[ai.get] at h,fun nm h=>by simp[ai.get] at h,fun nm _=>⟨rfl,fun _=>rfl⟩,fun nm nm' b h=>by simp[bj,ai.get] at h,fun b off h=>hm.wrLt b off h.1,fun w' k=>hm.inv w' (k.mono hB),hm.boxLt,fun nm kk es h=>by simp[ai.get] at h⟩
 refine (Fk rs [] v0 m0 hc w.heap.size w (Ch g m l (!nr rs)) vs Qa (aR _) aa qR).mono ?_;rintro e w' ⟨v',g',rfl,s,hm',hV⟩;have hblk:∀b,b<w.heap.size->w'.heap[b]?=w.heap[b]?:=fun b hb=>s.below.block b hb;have hcell:∀b off u,w.cell? ⟨b,off,none⟩=some u->w'.cell? ⟨b,off,none⟩=some u:=fun b off u hc=>(World.cell?_of_block (w:=w) (a:=⟨b,off,none⟩) (hblk b (uJ hc))).trans hc
 have ic:Step B w g w' (rF g l g'.box):=by
  refine ⟨s.below.mono hB,fun b off u _ hc=>hcell b off u hc,fun b c e fr hb=>⟨c,(hblk b (fP.1 hb).1).trans hb,rfl⟩,fun b off _ hn h=>hn h.1,fun b off hb=>?_,fun b hb=>s.box b hb,fun _ _ h=>h,fun _ _ _ h=>h⟩
  constructor
  .exact fun h=>h.1
  .intro h;refine ⟨h,?_⟩;rintro ⟨nm,hn,jR⟩;obtain ⟨cs,aU⟩:=qV nm hn;obtain ⟨b',c,e,o1,o2,_⟩:=hm.obj nm false cs aU;obtain rfl:b=b':=by simpa [jR] using o1
   omega
 have nb:MemR B w' (rF g l g'.box) (kB m l):=by
  have hJ:∀nm b,bj (rF g l g'.box) (kB m l) nm=some b->bj g m nm=some b:=by
   intro nm b hb
   rcases qK hb with ⟨bx,cs,h1,h2⟩|⟨n,sz,h1,h2⟩|⟨kk,es,h1,h2⟩
   rotate_left 2
   .rw[lL] at h1
    split at h1
    .cases h1
    .have iZ:g.loc nm=some b:=h2;simp[bj,h1,iZ]
   .rw[lL] at h1
    split at h1
    .cases h1
    .have iZ:g.loc nm=some b:=h2;simp[bj,h1,iZ]
   .rw[lL] at h1
    split at h1
    .cases h1
    .have iZ:g.tloc nm n=some b:=h2;simp[bj,h1,iZ]
  have yB:∀nm b,nm∉l->bj g m nm=some b->¬ ∃x∈l,g.loc x=some b:=by
   rintro nm b hn hb ⟨x,hx,jR⟩;obtain ⟨cs,aU⟩:=qV x hx;have:bj g m x=some b:=by simp[bj,aU,jR]
   exact hn (hm.inj nm x b hb this▸hx)
  refine ⟨fun nm bx cs aU=>?_,fun nm n sz aU=>?_,fun nm aU=>?_,fun nm hn=>hm.fresh nm (by rw[CY] at hn;exact hn),fun nm nm' b h1 h2=>hm.inj nm nm' b (hJ _ _ h1) (hJ _ _ h2),fun b off h=>so (hm.wrLt b off h.1) s.below.size,hm.invB (s.below.mono hB),hm'.boxLt,fun nm kk es aU=>by
    rw[lL] at aU
    split at aU
    .cases aU
    .obtain ⟨b,es',cl,o1,o2,o3,o4⟩:=hm.mp nm kk es aU
     exact ⟨b,es',cl,o1,o2,(hblk b (fP.1 o3).1).trans o3,o4.step ic⟩⟩
  .rw[lL] at aU
   split at aU
   .cases aU
   .rename_i pH;obtain ⟨b,c,e,o1,o2,o3,o4,o5,o6,o7⟩:=hm.obj nm bx cs aU;have hlt:=(fP.1 o3).1;exact ⟨b,c,e,o1,o2,(hblk b hlt).trans o3,o4,fun j hj=>(o5 j hj).step ic,fun off=>⟨o6 off,yB nm b pH (by simp[bj,aU,o1])⟩,(s.box b hlt).trans o7⟩
  .rw[lL] at aU
   split at aU
   .cases aU
   .rename_i pH;obtain ⟨b,c,e,o1,o2,o3,o4,o5,o6⟩:=hm.tok nm n sz aU;have hlt:=(fP.1 o3).1;exact ⟨b,c,e,o1,o2,(hblk b hlt).trans o3,fun off ho=>⟨o4 off ho,yB nm b pH (by simp[bj,aU,o1])⟩,o5,fun h=>o6 ((s.box b hlt).1 h)⟩
  .rw[lL] at aU
   split at aU
   .cases aU
   .exact hm.resv nm aU
 unfold Sd at nS;split at nS
 case h_2=>cases nS
 rename_i k a k' b sh z o es
 split at nS
 .rename_i nm ety
  split at nS
  .cases nS
  .rename_i n;split at nS
   case h_2=>cases nS
   rename_i c0 sz0 J7;split at nS
   case isFalse=>cases nS
   rename_i nO;obtain ⟨hc0,nR,AT⟩:=nO;have nR:=nR.symm;subst hc0;subst nR;simp only[cg,fE] at nS;obtain ⟨rfl,rfl⟩:=nS
   cases hV with
   | agg _ vs3 hl3 FQ=>
   have h0:=FQ 0 aA;have h1:=FQ 1 aA;have h2:=FQ 2 aA;simp only[qk,zH] at h0 h1 h2;generalize hu0:vs3.getD 0 undef=u0 at h0;generalize hu1:vs3.getD 1 undef=u1 at h1;generalize hu2:vs3.getD 2 undef=u2 at h2;cases h0;cases h1
   cases h2 with
   | nils _ _ ho=>rcases ho with ho|ho<;>cases ho
   | lst _ _ _ ad cap us hs hc hmx hsh hcl hvv ho=>
   obtain ⟨o1,o2,c,o3,o4⟩:=ho;obtain ⟨b1,c1,e1,t1,t2,t3,t4,t5,t6⟩:=hm'.tok nm es.length n J7;obtain rfl:ad.block=b1:=by simpa [o1] using t1
   have hfl:=tq (fun e he=>(hsh e he).1:∀e∈es,dJ (some n) e=true)
   have hcu:∀j,j<(dH es).length->c.getD j undef=us j:=by
    intro j hj;have h3:=(hcl j hj).1;rw[o2,bq,cell_of_row w' ad.block j c ety (0,0) o3] at h3;rw[jX,h3];rfl
   have qqA:∀j,j<(dH es).length->∀k n,us j≠.int k n:=by
    intro j hj k n he;have h3:=hvv j hj;have h4:=gD.1 AT _ (qt hj);rw[he] at h3;generalize (dH es).getD j .any=x at h3 h4;cases h3<;>simp[nW] at h4
   have hne:∀bl off,¬ g'.wr bl off->¬ g'.box bl->(∃k n,w'.cell? ⟨bl,off,none⟩=some (.int k n))->¬ (ig (rF g l g'.box) m.length ad.block false).wr bl off:=by
    rintro bl off hw hbx ⟨k,n',YJ⟩ hn
    rcases hn with rfl|hn
    .by_cases hlt:off<(dH es).length
     .have h3:=(hcl off hlt).1;rw[o2,bq] at h3;rw[h3] at YJ;exact qqA off hlt k n' (by simpa using YJ)
     .exact hw (t4 off (by rw[hfl] at hlt;simp only[Sh.size] at hlt;omega))
    .obtain ⟨mJ,n9⟩:=hn;have hlt:=hm.wrLt bl off mJ;refine hw ((s.wrB bl off hlt).2 ⟨mJ,n9,fun _=>?_⟩);rintro ⟨nm2,cs2,qv,jC⟩;obtain ⟨b2,_,_,q1,_,_,_,_,_,q7⟩:=hm.obj nm2 true cs2 qv;obtain rfl:bl=b2:=by simpa [jC] using q1
     exact hbx ((s.box bl hlt).2 (q7.2 rfl))
   obtain ⟨s2,fT⟩:=qlN hm hB ic nb (CY l m) rfl rfl (fun nm e hg=>by
    rw[lL] at hg
    split at hg
    .cases hg
    .exact hg) hblk t2 o3 (cs:=dH es) (by rw[hfl,o4];exact jl _ hc) t6 (fun j hj=>by
     rw[hcu j hj]
     exact qti (gD.1 AT _ (qt hj)) (hvv j hj) hne (fun bl h=>by simpa [ig,rF] using h))
   refine ⟨_,_,rfl,s2,fT,.agg _ _ hl3 (fun j hj=>?_)⟩
   match j,hj with
   | 0,_=>rw[hu0];exact .int _ _
   | 1,_=>rw[hu1];exact .int _ _
   | 2,_=>
    rw[hu2];refine .arr _ _ _ _ ad cap hs hc hmx ?_
    rcases hs with hs|hs
    .exact .inl aa
    refine .inr ⟨by simp[ig],?_,c,_,o3,by rw[bq,o4];exact aR _⟩;obtain ⟨adb,ado,ads⟩:=ad;simp only at o2 hs;rw[o2,hs]
   | j+3,hj=>simp at hj;omega
 .rename_i yA
  split at nS
  .split at nS
   .simp only[cg,fE] at nS;obtain ⟨rfl,rfl⟩:=nS;rw[cu];refine ⟨_,_,rfl,ic,nb,?_⟩
    cases hV with
    | agg _ vs3 hl3 FQ=>
    refine .agg _ _ hl3 (fun j hj=>?_);have hx:=FQ j hj
    match j,hj,hx with
    | 0,_,hx=>
     simp only[qk] at hx ⊢;generalize vs3.getD 0 undef=u at hx;cases hx;exact .int _ _
    | 1,_,hx=>
     simp only[zH,qk] at hx ⊢;generalize vs3.getD 1 undef=u at hx;cases hx;exact .int _ _
    | 2,_,hx=>
     simp only[zH,qk] at hx ⊢;generalize vs3.getD 2 undef=u at hx
     cases hx with
     | nils _ _ ho=>exact .nils _ _ ho
    | j+3,hj,_=>simp at hj;omega
   .cases nS
  .cases nS
theorem qps(hm:MemR B w g m){l:List Nat}(qV:∀nm∈l,∃cs,m.get nm=some (.obj false cs)):Step B w g w (rF g l g.box)/\MemR B w (rF g l g.box) (kB m l):=by
 have ic:Step B w g w (rF g l g.box):=by
  refine ⟨Below.refl _ _,fun b off u _ hc=>hc,fun b c e fr hb=>⟨c,hb,rfl⟩,fun b off _ hn h=>hn h.1,fun b off hb=>?_,fun b hb=>Iff.rfl,fun _ _ h=>h,fun _ _ _ h=>h⟩
  constructor
  .exact fun h=>h.1
  .intro h;refine ⟨h,?_⟩;rintro ⟨nm,hn,jR⟩;obtain ⟨cs,aU⟩:=qV nm hn;obtain ⟨b',c,e,o1,o2,_⟩:=hm.obj nm false cs aU;obtain rfl:b=b':=by simpa [jR] using o1
   omega
 refine ⟨ic,?_⟩
 have hJ:∀nm b,bj (rF g l g.box) (kB m l) nm=some b->bj g m nm=some b:=by
  intro nm b hb
  rcases qK hb with ⟨bx,cs,h1,h2⟩|⟨n,sz,h1,h2⟩|⟨kk,es,h1,h2⟩
  rotate_left 2
  .rw[lL] at h1
   split at h1
   .cases h1
   .have iZ:g.loc nm=some b:=h2;simp[bj,h1,iZ]
  .rw[lL] at h1
   split at h1
   .cases h1
   .have iZ:g.loc nm=some b:=h2;simp[bj,h1,iZ]
  .rw[lL] at h1
   split at h1
   .cases h1
   .have iZ:g.tloc nm n=some b:=h2;simp[bj,h1,iZ]
 have yB:∀nm b,nm∉l->bj g m nm=some b->¬ ∃x∈l,g.loc x=some b:=by
  rintro nm b hn hb ⟨x,hx,jR⟩;obtain ⟨cs,aU⟩:=qV x hx;have:bj g m x=some b:=by simp[bj,aU,jR]
  exact hn (hm.inj nm x b hb this▸hx)
 refine ⟨fun nm bx cs aU=>?_,fun nm n sz aU=>?_,fun nm aU=>?_,fun nm hn=>hm.fresh nm (by rw[CY] at hn;exact hn),fun nm nm' b h1 h2=>hm.inj nm nm' b (hJ _ _ h1) (hJ _ _ h2),fun b off h=>hm.wrLt b off h.1,hm.inv,hm.boxLt,fun nm kk es aU=>by
  rw[lL] at aU
  split at aU
  .cases aU
  .obtain ⟨b,es',cl,o1,o2,o3,o4⟩:=hm.mp nm kk es aU
   exact ⟨b,es',cl,o1,o2,o3,o4.step ic⟩⟩
 .rw[lL] at aU
  split at aU
  .cases aU
  .rename_i pH;obtain ⟨b,c,e,o1,o2,o3,o4,o5,o6,o7⟩:=hm.obj nm bx cs aU;exact ⟨b,c,e,o1,o2,o3,o4,fun j hj=>(o5 j hj).step ic,fun off=>⟨o6 off,yB nm b pH (by simp[bj,aU,o1])⟩,o7⟩
 .rw[lL] at aU
  split at aU
  .cases aU
  .rename_i pH;obtain ⟨b,c,e,o1,o2,o3,o4,o5,o6⟩:=hm.tok nm n sz aU;exact ⟨b,c,e,o1,o2,o3,fun off ho=>⟨o4 off ho,yB nm b pH (by simp[bj,aU,o1])⟩,o5,o6⟩
 .rw[lL] at aU
  split at aU
  .cases aU
  .exact hm.resv nm aU
theorem qpq(hm:MemR B w g m){args rs:List AV}{l:List Nat}{vs:Array Value}(hl:args.length=vs.size)(hv:∀j,j<args.length->V w g (args.getD j .any) (vs.getD j undef))(hf:fU (Cp m) args=some (rs,l)) :
  ∃g1,Step B w g w g1/\MemR B w g1 (kB m l)/\rs.length=vs.size/\∀j,j<rs.length->V w g1 (rs.getD j .any) (vs.getD j undef):=by
 obtain ⟨k1,k2,k3⟩:=F9 _ _ _ _ hf
 have one:∀(x x':AV) (lx:List Nat) (v:Value),V w g x v->Cp m x=some (x',lx)->(∃nm off n sh,x=.arr nm off n sh/\cq m kX x=some (x',lx))\/(x'=x/\lx=[]):=by
  intro x x' lx v hV hx;unfold Cp at hx
  split at hx
  .exact .inl ⟨_,_,_,_,rfl,hx⟩
  .simp only[cg,fE] at hx;exact .inr ⟨hx.1.symm,hx.2.symm⟩
 have qV:∀nm∈l,∃cs,m.get nm=some (.obj false cs):=fun nm hn=>by
  obtain ⟨j,lj,a1,a2,a3⟩:=k3 nm hn
  rcases one _ _ _ _ (hv j a1) a2 with ⟨_,_,_,_,_,h⟩|⟨_,h⟩
  .exact (Ao hm kX _ _ _ _ (hv j a1) h).1 nm a3
  .rw[h] at a3;cases a3
 obtain ⟨s,hk⟩:=qps hm qV;refine ⟨rF g l g.box,s,hk,aa,fun j hj=>?_⟩;obtain ⟨lj,a1,a2⟩:=k2 j aa
 rcases one _ _ _ _ (hv j aa) a1 with ⟨nm,off,n,sh,hx,h⟩|⟨h,_⟩
 .refine (Ao hm kX _ _ _ _ (hv j aa) h).2.2 _ (fun b off h=>h.1) (fun b h=>h) (fun nm hn b hb off h=>h.2 ⟨nm,a2 nm hn,hb⟩) (.inl ?_);rw[hx] at h;change (m.obj? nm).bind _=some _ at h;rw[bn] at h;obtain ⟨o,_,h⟩:=h
  split at h
  .simp only[bn] at h;obtain ⟨r,_,h⟩:=h
   split at h
   .simp only[cg,fE] at h;rw[<- h.1];rfl
   .cases h
  .cases h
 .rw[h];exact (hv j (by omega)).step s
theorem qsP(hm:MemR B w g m)(hB:B<=w.heap.size){P:Program}{f:Nat}{call:Nat->List AV->ai->OM}(Fk:∀args m v m',call f args m=some (v,m')->uv P f args m v m'){args rs:List AV}{l:List Nat}{vs:Array Value}
  (hl:args.length=vs.size) (hv:∀j,j<args.length->V w g (args.getD j .any) (vs.getD j undef)) (hf:fU (cq m kX) args=some (rs,l)) {r:AV} (h:jY call f rs=some r) :
  Calls P f vs w fun e w'=>∃v' g',e=.returned v'/\Step B w g w' g'/\MemR B w' g' (kB m l)/\V w' g' r v':=by
 unfold jY at h;simp only[bn] at h;obtain ⟨⟨v0,m0⟩,hc,⟨r',l'⟩,hfz,h⟩:=h;simp only at hfz h
 split at h
 .rename_i nO;simp only[cg] at h;subst h;obtain ⟨k1,k2,k3⟩:=F9 _ _ _ _ hf
  have qV:∀nm∈l,∃cs,m.get nm=some (.obj false cs):=fun nm hn=>by
   obtain ⟨j,lj,a1,a2,a3⟩:=k3 nm hn;exact (Ao hm kX _ _ _ _ (hv j a1) a2).1 nm a3
  have qR:∀j,j<rs.length->V w (Ch g m l (!nr rs)) (rs.getD j .any) (vs.getD j undef):=fun j hj=>by
   obtain ⟨lj,a1,a2⟩:=k2 j aa;refine (Ao hm kX _ _ _ _ (hv j aa) a1).2.2 _ (fun b off h=>h.1) (fun b h=>h) (fun nm hn b hb off h=>h.2.1 ⟨nm,a2 nm hn,hb⟩) ?_
   by_cases hn:nr rs=true
   .exact .inl (Ba hn _ (qt hj))
   .exact .inr fun nm cs b aU jR off h=>h.2.2 (by simpa using hn) ⟨nm,cs,aU,jR⟩
  have Qa:MemR w.heap.size w (Ch g m l (!nr rs)) []:=by
   refine ⟨fun nm bx cs h=>by simp[ai.get] at h,fun nm n sz h=>by simp[ai.get] at h,fun nm h=>by simp[ai.get] at h,fun nm _=>⟨rfl,fun _=>rfl⟩,fun nm nm' b h=>by simp[bj,ai.get] at h,fun b off h=>hm.wrLt b off h.1,fun w' k=>hm.inv w' (k.mono hB),hm.boxLt,fun nm kk es h=>by simp[ai.get] at h⟩
  refine (Fk rs [] v0 m0 hc w.heap.size w (Ch g m l (!nr rs)) vs Qa (aR _) aa qR).mono ?_;rintro e w' ⟨v',g',rfl,s,hm',hV⟩;have hblk:∀b,b<w.heap.size->w'.heap[b]?=w.heap[b]?:=fun b hb=>s.below.block b hb;have hcell:∀b off u,w.cell? ⟨b,off,none⟩=some u->w'.cell? ⟨b,off,none⟩=some u:=fun b off u hc=>(World.cell?_of_block (w:=w) (a:=⟨b,off,none⟩) (hblk b (uJ hc))).trans hc
  have ic:Step B w g w' (rF g l g'.box):=by
   refine ⟨s.below.mono hB,fun b off u _ hc=>hcell b off u hc,fun b c e fr hb=>⟨c,(hblk b (fP.1 hb).1).trans hb,rfl⟩,fun b off _ hn h=>hn h.1,fun b off hb=>?_,fun b hb=>s.box b hb,fun _ _ h=>h,fun _ _ _ h=>h⟩
   constructor
   .exact fun h=>h.1
   .intro h;refine ⟨h,?_⟩;rintro ⟨nm,hn,jR⟩;obtain ⟨cs,aU⟩:=qV nm hn;obtain ⟨b',c,e,o1,o2,_⟩:=hm.obj nm false cs aU;obtain rfl:b=b':=by simpa [jR] using o1
    omega
  have nb:MemR B w' (rF g l g'.box) (kB m l):=by
   have hJ:∀nm b,bj (rF g l g'.box) (kB m l) nm=some b->bj g m nm=some b:=by
    intro nm b hb
    rcases qK hb with ⟨bx,cs,h1,h2⟩|⟨n,sz,h1,h2⟩|⟨kk,es,h1,h2⟩
    rotate_left 2
    .rw[lL] at h1
     split at h1
     .cases h1
     .have iZ:g.loc nm=some b:=h2;simp[bj,h1,iZ]
    .rw[lL] at h1
     split at h1
     .cases h1
     .have iZ:g.loc nm=some b:=h2;simp[bj,h1,iZ]
    .rw[lL] at h1
     split at h1
     .cases h1
     .have iZ:g.tloc nm n=some b:=h2;simp[bj,h1,iZ]
   have yB:∀nm b,nm∉l->bj g m nm=some b->¬ ∃x∈l,g.loc x=some b:=by
    rintro nm b hn hb ⟨x,hx,jR⟩;obtain ⟨cs,aU⟩:=qV x hx;have:bj g m x=some b:=by simp[bj,aU,jR]
    exact hn (hm.inj nm x b hb this▸hx)
   refine ⟨fun nm bx cs aU=>?_,fun nm n sz aU=>?_,fun nm aU=>?_,fun nm hn=>hm.fresh nm (by rw[CY] at hn;exact hn),fun nm nm' b h1 h2=>hm.inj nm nm' b (hJ _ _ h1) (hJ _ _ h2),fun b off h=>so (hm.wrLt b off h.1) s.below.size,hm.invB (s.below.mono hB),hm'.boxLt,fun nm kk es aU=>by
    rw[lL] at aU
    split at aU
    .cases aU
    .obtain ⟨b,es',cl,o1,o2,o3,o4⟩:=hm.mp nm kk es aU
     exact ⟨b,es',cl,o1,o2,(hblk b (fP.1 o3).1).trans o3,o4.step ic⟩⟩
   .rw[lL] at aU
    split at aU
    .cases aU
    .rename_i pH;obtain ⟨b,c,e,o1,o2,o3,o4,o5,o6,o7⟩:=hm.obj nm bx cs aU;have hlt:=(fP.1 o3).1;exact ⟨b,c,e,o1,o2,(hblk b hlt).trans o3,o4,fun j hj=>(o5 j hj).step ic,fun off=>⟨o6 off,yB nm b pH (by simp[bj,aU,o1])⟩,(s.box b hlt).trans o7⟩
   .rw[lL] at aU
    split at aU
    .cases aU
    .rename_i pH;obtain ⟨b,c,e,o1,o2,o3,o4,o5,o6⟩:=hm.tok nm n sz aU;have hlt:=(fP.1 o3).1;exact ⟨b,c,e,o1,o2,(hblk b hlt).trans o3,fun off ho=>⟨o4 off ho,yB nm b pH (by simp[bj,aU,o1])⟩,o5,fun h=>o6 ((s.box b hlt).1 h)⟩
   .rw[lL] at aU
    split at aU
    .cases aU
    .exact hm.resv nm aU
  refine ⟨v',_,rfl,ic,nb,?_⟩;obtain ⟨f1,f2,f3⟩:=Ao hm' kX _ _ _ _ hV hfz
  let gf:G:={ wr:=fun b off=>b<w.heap.size/\g'.wr b off,box:=g'.box,loc:=fun _=>none,tloc:=fun _ _=>none }
  have hVf:V w' gf r' v':=by
   refine f3 gf (fun b off h=>h.2) (fun b h=>h) (fun nm hn b hb off h=>?_) (.inr fun nm cs b aU hb off h=>?_)
   .obtain ⟨cs,aU⟩:=f1 nm hn;obtain ⟨b',c,e,o1,o2,_⟩:=hm'.obj nm false cs aU;obtain rfl:b=b':=by simpa [hb] using o1
    have:=h.1;omega
   .obtain ⟨b',c,e,o1,o2,_⟩:=hm'.obj nm true cs aU;obtain rfl:b=b':=by simpa [hb] using o1
    have:=h.1;omega
  refine VV (nv:=!nr rs) hVf f2 (fun hn=>?_) (fun b off h=>?_) (fun b h=>h)
  .have:nr rs=false:=by simpa using hn
   simpa [this] using nO
  .have hlt:=hm.wrLt b off h.1
   by_cases Ke:∃nm cs,m.get nm=some (.obj true cs)/\g.loc nm=some b
   .by_cases wS:nr rs=true
    .exact .inl ⟨hlt,(s.wrB b off hlt).2 ⟨h.1,h.2,fun hx=>by simp[wS] at hx⟩⟩
    .refine .inr ⟨?_,by simpa using wS⟩;obtain ⟨nm,cs,aU,jR⟩:=Ke;obtain ⟨b',c,e,o1,o2,o3,o4,o5,o6,o7⟩:=hm.obj nm true cs aU;obtain rfl:b=b':=by simpa [jR] using o1
     exact (s.box b hlt).2 (o7.2 rfl)
   .exact .inl ⟨hlt,(s.wrB b off hlt).2 ⟨h.1,h.2,fun _=>Ke⟩⟩
 .cases h
end
end Go.Ab
namespace Go.Ab
open Go.RowKit Go.Maps Go.ChangeMaps
section
variable [WInv] {P:Program} {B:Nat} {w:World} {g:G} {m:ai}
open Go.WideElems (Fit rd rg pl rd_key rd_val rg_of rd_mk)
theorem V.atomV{x:AV}{v u:Value}(h:V w g x v)(hf:atomV x=some u):v=u:=by
 cases h<;>simp[Go.Ab.atomV] at hf<;>exact hf
theorem OU:∀(cs:List AV) (us:List Value),tp cs=some us->us.length=cs.length/\∀j,j<cs.length->Go.Ab.atomV (cs.getD j .any)=some (us.getD j undef)
 | [],us,h=>by simp[tp] at h;subst h;exact ⟨rfl,fun j hj=>by simp at hj⟩
 | x::xs,us,h=>by
  simp only[tp,bn,iq] at h;obtain ⟨v,hv,vs,lh,rfl⟩:=h;obtain ⟨h1,h2⟩:=OU xs vs lh;refine ⟨by simp[h1],fun j hj=>?_⟩
  cases j with
  | zero=>simpa using hv
  | succ j=>simpa using h2 j (by simpa using hj)
theorem V.flatV{x:AV}{v u:Value}(h:V w g x v)(hf:Go.Ab.flatV x=some u):v=u:=by
 by_cases hx:∃cs,x=.agg cs
 .obtain ⟨cs,rfl⟩:=hx
  cases h with
  | agg cs vs hl hv=>
   simp only[Go.Ab.flatV,iq] at hf;obtain ⟨us,hus,rfl⟩:=hf;obtain ⟨h1,h2⟩:=OU cs us hus;congr 1;apply Array.ext (by simp[h1,hl]);intro j uV pY;have:=(hv j (by omega)).atomV (h2 j aa);simpa [Array.getD,uV,aT,show j<us.length by omega] using this
 .refine h.atomV ?_
  cases x<;>first|(exact absurd ⟨_,rfl⟩ hx)|exact hf
theorem Z8{k:Nat}{kk:KK}(h:yN P k=some kk):(P.underlying k=some .string/\kk=.str)\/(∃q,P.underlying k=some (.int q)/\kk=.int q) \/
  ∃n e q,P.underlying k=some (.array n e)/\P.underlying e=some (.int q)/\kk=.arr n q/\P.tiled 2 k=true/\P.keyTypeAt 2 k=true/\P.keyType k=true/\P.cellsOf e=1/\0<P.types.size:=by
 unfold yN at h
 split at h
 .rename_i hu;simp at h;exact .inl ⟨hu,h.symm⟩
 .rename_i q hu;simp at h;exact .inr (.inl ⟨q,hu,h.symm⟩)
 .rename_i n e hu
  split at h
  .rename_i q hq
   split at h
   .rename_i hc;simp only[cD,uH,oM] at hc;obtain ⟨⟨⟨⟨c1,c2⟩,c3⟩,c4⟩,c5⟩:=hc;simp only[cg] at h;exact .inr (.inr ⟨n,e,q,hu,hq,h.symm,c1,c2,c3,c4,c5⟩)
   .cases h
  .cases h
 .cases h
theorem Z4{k:Nat}{kk:KK}(h:yN P k=some kk):Keyed P k:=by
 rcases Z8 h with ⟨hu,_⟩|⟨q,hu,_⟩|⟨n,e,q,hu,_,_,h1,h2,_⟩
 .exact string_keyed hu
 .exact int_keyed hu
 .exact Keyed.of_law (deep_law (m:=2) aa h2 h1 (by rw[hu]))
theorem qaK{α β:Type}{f:α->Option β}:∀{l:List α},(∀x∈l,∃y,f x=some y)->∃ys,l.mapM f=some ys
 | [],_=>⟨[],aA⟩
 | x::l,h=>by
  obtain ⟨y,hy⟩:=h x gj;obtain ⟨ys,qY⟩:=qaK (f:=f) (l:=l) fun z hz=>h z (fW _ hz);exact ⟨y::ys,by simp[List.mapM_cons,hy,qY]⟩
theorem FY{k:Nat}{kk:KK}{v:Value}(h:yN P k=some kk)(hv:MX kk v):∃l,Go.keyOf P k v=some l:=by
 rcases Z8 h with ⟨hu,rfl⟩|⟨q,hu,rfl⟩|⟨n,e,q,hu,he,rfl,h1,h2,h3,h4,h5⟩
 .obtain ⟨s,rfl,hs⟩:=hv;exact ⟨.string s.data.toList,by simp[Go.keyOf,mapKey,hu,hs]⟩
 .obtain ⟨n,rfl,hn⟩:=hv;have:(Lit.int q n).wf=true:=hn;exact ⟨.int q n,by simp[Go.keyOf,mapKey,hu,this]⟩
 .obtain ⟨us,rfl,hsz,hus⟩:=hv
  have yp:P.cellsOf k=n:=by
   have:=h1;unfold Program.tiled at this;rw[hu] at this;simp only[cD,uH] at this;rw[this.1,h4,mV]
  obtain ⟨d,hd⟩:∃d,P.types.size=d+1:=⟨P.types.size-1,aa⟩
  have hm:∃ys,(List.range n).mapM (fun i=>P.keyLits (d+1) e ((us.toList.drop (i*P.cellsOf e)).take (P.cellsOf e)))=some ys:=by
   refine qaK fun i hi=>?_;have hi:=vV.1 hi;have cE:i<us.toList.length:=by simpa [hsz] using hi
   rw[h4,mV,jP cE,List.take_succ_cons,List.take_zero];obtain ⟨z,hz,hw⟩:=hus us.toList[i] aA;have hw:(Lit.int q z).wf=true:=hw;rw[hz];exact ⟨[.int q z],by simp[Program.keyLits,he,hw]⟩
  obtain ⟨ys,qY⟩:=hm;refine ⟨.string (keyBytes ys.flatten),?_⟩;have hf:Value.formed P k (.agg us)=true:=by simp[Value.formed,hu,yp,hsz]
  have hl:us.toList.length=P.cellsOf k:=by simp[hsz,yp]
  unfold Go.keyOf;rw[hu];simp only[h3,hf,ru,bJ,Value.cells]
  have ek:P.keyLits (d+1+1) k us.toList=if us.toList.length=P.cellsOf k then ((List.range n).mapM fun i=>P.keyLits (d+1) e ((us.toList.drop (i*P.cellsOf e)).take (P.cellsOf e))).map List.flatten else none:=by
   simp only[Program.keyLits,hu]
  rw[hd,ek,aq hl,qY]
  rfl
theorem QK{kk:KK}{x:AV}{v:Value}(ho:ku kk x=true)(hf:Go.Ab.flatV x=some v):MX kk v:=by
 cases kk with
 | str=>
  cases x<;>simp[ku] at ho;simp[Go.Ab.flatV,Go.Ab.atomV] at hf;exact ⟨_,hf.symm,ho⟩
 | int q=>
  cases x<;>simp[ku,oU] at ho;obtain ⟨rfl,ho⟩:=ho;simp[Go.Ab.flatV,Go.Ab.atomV] at hf;exact ⟨_,hf.symm,ho⟩
 | arr n q=>
  cases x<;>simp only[ku,jJ] at ho;rename_i cs;simp only[cD,uH,gD] at ho;simp only[Go.Ab.flatV,iq] at hf;obtain ⟨us,hus,rfl⟩:=hf;obtain ⟨h1,h2⟩:=OU cs us hus;refine ⟨_,rfl,by simp[h1,ho.1],fun u hu=>?_⟩;obtain ⟨j,hj,rfl⟩:=n0 (by simpa using hu:u∈us);have h3:=h2 j aa;have h4:=ho.2 (cs.getD j .any) (by rw[aT,bP aa];exact bA _)
  cases hc:cs.getD j .any with
  | int k' i=>
   rw[hc] at h3 h4;simp only[oU,cD,oM] at h4;obtain ⟨rfl,h4⟩:=h4;simp[Go.Ab.atomV] at h3;exact ⟨i,by simpa [hj] using h3.symm,h4⟩
  | _=>rw[hc] at h4;simp[oU] at h4
theorem Z0{kk:KK}{x:AV}(ho:ku kk x=true):∃v,Go.Ab.flatV x=some v:=by
 cases kk with
 | str=>cases x<;>simp[ku] at ho;exact ⟨_,rfl⟩
 | int q=>cases x<;>simp[ku,oU] at ho;exact ⟨_,rfl⟩
 | arr n q=>
  cases x<;>simp only[ku,jJ] at ho;rename_i cs;simp only[cD,gD] at ho
  have:∀cs:List AV,(∀x∈cs,oU q x=true)->∃us,tp cs=some us:=by
   intro cs
   induction cs with
   | nil=>intro _;exact ⟨[],rfl⟩
   | cons c cs ih=>
    intro h;obtain ⟨us,hus⟩:=ih fun x hx=>h x (fW _ hx);have:=h c gj;cases c<;>simp[oU] at this;rename_i k' n';exact ⟨.int k' n'::us,by simp[tp,Go.Ab.atomV,hus]⟩
  obtain ⟨us,hus⟩:=this cs ho.2;exact ⟨.agg us.toArray,by simp[Go.Ab.flatV,hus]⟩
theorem qoi{q:IntKind}{x y:AV}{u v:Value}(hx:oU q x=true)(hy:oU q y=true)(hu:Go.Ab.atomV x=some u)(hv:Go.Ab.atomV y=some v):wi x y=true↔u=v:=by
 cases x<;>simp[oU] at hx;cases y<;>simp[oU] at hy;simp[Go.Ab.atomV] at hu hv;subst hu;subst hv;simp[wi]
theorem A2{kk:KK}{x y:AV}{u v:Value}(hx:ku kk x=true)(hy:ku kk y=true)(hu:Go.Ab.flatV x=some u)(hv:Go.Ab.flatV y=some v):jE x y=true↔u=v:=by
 cases kk with
 | str=>
  cases x<;>simp[ku] at hx;cases y<;>simp[ku] at hy;simp[Go.Ab.flatV,Go.Ab.atomV] at hu hv;subst hu;subst hv;simp[jE,wi]
 | int q=>
  cases x<;>simp[ku,oU] at hx;cases y<;>simp[ku,oU] at hy;simp[Go.Ab.flatV,Go.Ab.atomV] at hu hv;subst hu;subst hv;simp[jE,wi]
 | arr n q=>
  cases x<;>simp only[ku,jJ] at hx;cases y<;>simp only[ku,jJ] at hy;rename_i cs ds;simp only[cD,uH,gD] at hx hy;simp only[Go.Ab.flatV,iq] at hu hv;obtain ⟨us,hus,rfl⟩:=hu;obtain ⟨vs,lh,rfl⟩:=hv
  have key:∀(cs ds:List AV) (us vs:List Value),cs.length=ds.length->(∀x∈cs,oU q x=true)->(∀x∈ds,oU q x=true)->tp cs=some us->tp ds=some vs->(Ce cs ds=true↔us=vs):=by
   intro cs
   induction cs with
   | nil=>
    intro ds us vs hl _ _ h1 h2
    cases ds with
    | nil=>simp[tp] at h1 h2;subst h1;subst h2;simp[Ce]
    | cons=>simp at hl
   | cons c cs ih=>
    intro ds us vs hl h3 h4 h1 h2
    cases ds with
    | nil=>simp at hl
    | cons d ds=>
     simp only[tp,bn,iq] at h1 h2;obtain ⟨a,ha,qas,has,rfl⟩:=h1;obtain ⟨b,hb,bs,pD,rfl⟩:=h2;simp only[Ce,cD,qj];rw[qoi (h3 c gj) (h4 d gj) ha hb,ih ds qas bs (by simpa using hl) (fun x hx=>h3 x (fW _ hx)) (fun x hx=>h4 x (fW _ hx)) has pD]
  show Ce cs ds=true↔_;rw[key cs ds us vs aa hx.2 hy.2 hus lh]
  constructor
  .rintro rfl;rfl
  .intro h
   have:=dc (fun v=>match v with|Value.agg a=>a.toList|_=>[]) h
   simpa using this
def RU:Value->Option (DataW Unit×List MemPlace):=fun _=>some (.lit (.bool true),[])
theorem MapR.fit{k:Nat}{kk:KK}{es':Array MapEntry}{clock:Nat}{es:List (AV×AV)}(M:MapR w g kk es' clock es)(h:yN P k=some kk):Fit P k RU es' clock where
 size:=fC M.size M.room
 stamped:=M.stamped
 reads x hx:=by
  obtain ⟨l,hl⟩:=FY h (M.keys x hx);exact ⟨(l,.lit (.bool true)),by simp[Go.WideElems.rd,hl,RU]⟩
theorem MapR.uniq{kk:KK}{es':Array MapEntry}{clock:Nat}{es:List (AV×AV)}(M:MapR w g kk es' clock es){x y:MapEntry}(hx:x∈es'.toList)(hy:y∈es'.toList)(h:x.key=y.key):x=y:=by
 have hnd:=M.stamped.2.2;obtain ⟨i,hi,rfl⟩:=n0 hx;obtain ⟨j,hj,rfl⟩:=n0 hy
 have iD:(es'.toList.map (·.key))[i]'(by simpa using hi)=(es'.toList.map (·.key))[j]'(by simpa using hj):=by
  rw[tf,tf,h]
 have:=(List.getElem_inj hnd).1 iD;subst this;rfl
theorem qaM{t e:Nat}{kk:KK}(h:xf P t=some (kk,e)):∃k,P.underlying t=some (.map k e)/\yN P k=some kk:=by
 unfold xf at h
 split at h
 .rename_i k e' hu;simp only[iq,fE] at h;obtain ⟨kk',hk,rfl,rfl⟩:=h;exact ⟨k,hu,hk⟩
 .cases h
theorem qaS(hm:MemR B w g m){kk:KK}{x:AV}{x':Value}(hx:V w g x x'){nm:Nat}{es:List (AV×AV)}(h:nq m kk x=some (nm,es)):m.get nm=some (.mp kk es)/\∃b es' clock,x'=.map (some b)/\g.loc nm=some b/\B<=b/\w.heap[b]?=some (.map es' clock)/\MapR w g kk es' clock es:=by
 unfold nq at h
 split at h
 .rename_i nm'
  split at h
  .rename_i kk' es0 hg
   split at h
   .rename_i hk;simp only[cg,fE] at h;obtain ⟨rfl,rfl⟩:=h;subst hk
    cases hx with
    | mref _ b hl=>
     obtain ⟨b',es',clock,h1,h2,h3,h4⟩:=hm.mp nm' kk' es0 hg;obtain rfl:b=b':=by simpa [hl] using h1
     exact ⟨hg,b,es',clock,rfl,hl,h2,h3,h4⟩
   .cases h
  .cases h
 .cases h
theorem qtx{e:Nat}{z:AV}(h:sY P e=some z)(w:World):∃v,(zeroValue e).run P w=.ok v w/\z=iN v:=by
 obtain ⟨i,v,hi,hv,rfl⟩:=G1 h;exact ⟨v,by simp[zeroValue,typeInfo,hi,hv],rfl⟩
theorem qrL(hm:MemR B w g m){t e:Nat}{kk:KK}{z v:AV}{x key:AV}{x' key':Value}{b:Bool}(hx:V w g x x')(P6:V w g key key')(rP:xf P t=some (kk,e))(hz:sY P e=some z)(h:p6 kk z m x key=some (v,b)) :
  ∃v',V w g v v'/\(Instr.lookup t x' key' true).run P w=.ok (.tuple #[v',.bool b]) w/\(Instr.lookup t x' key' false).run P w=.ok v' w:=by
 obtain ⟨k,hu,hk⟩:=qaM rP;obtain ⟨z0,hz0,rfl⟩:=qtx hz w;simp only[p6,bn] at h;obtain ⟨⟨nm,es⟩,mf,h⟩:=h;simp only at h
 split at h
 .rename_i bc;simp only[cg] at h;obtain ⟨hg,bl,es',clock,rfl,hl,hB,hb,M⟩:=qaS hm hx mf;obtain ⟨kv,pE⟩:=Z0 bc;have Fv:=(P6.flatV pE).symm;subst Fv;obtain ⟨kl,fZ⟩:=FY hk (QK bc pE);have K:=Z4 hk;have F:=M.fit hk
  have none_case:(∀y∈es'.toList,y.key≠kv)->es.find? (fun p=>jE p.1 key)=none:=fun hne=>by
   rw[List.find?_eq_none];intro p hp wT;obtain ⟨y,hy,h1,_⟩:=M.to p hp;exact hne y hy ((A2 (M.ok p hp) bc h1 pE).1 wT)
  have some_case:∀e0∈es'.toList,e0.key=kv->∃p,es.find? (fun p=>jE p.1 key)=some p/\V w g p.2 e0.val:=fun e0 he YQ=>by
   obtain ⟨p0,Ki,h1,h2⟩:=M.frm e0 he;have hex:∃p∈es,jE p.1 key=true:=⟨p0,Ki,(A2 (M.ok p0 Ki) bc h1 pE).2 YQ⟩
   cases hf:es.find? (fun p=>jE p.1 key) with
   | none=>
    rw[List.find?_eq_none] at hf;obtain ⟨p,hp,wT⟩:=hex;exact absurd wT (hf p hp)
   | some p=>
    refine ⟨p,rfl,?_⟩;have hp:=List.mem_of_find?_eq_some hf;have wT:=List.find?_some hf;obtain ⟨y,hy,h3,h4⟩:=M.to p hp;have hyk:=(A2 (M.ok p hp) bc h3 pE).1 wT
    have:y=e0:=by
     exact M.uniq hy he (hyk.trans YQ.symm)
    rw[<- this];exact h4
  have ht:=fit_look (R:=RU) true K hu hz0 hb F fZ;have hf:=fit_look (R:=RU) false K hu hz0 hb F fZ;simp only[bJ,jJ,lp] at ht hf
  rcases ht with ⟨t1,t2,_⟩|⟨e0,y,t1,t2,t3,_⟩
  .rw[C0,none_case t2] at h;simp only[fE] at h;obtain ⟨rfl,rfl⟩:=h;refine ⟨z0,VY w g z0,t1,?_⟩
   rcases hf with ⟨f1,_,_⟩|⟨e1,y1,f1,f2,_⟩
   .exact f1
   .exact absurd f2 (t2 e1 f1)
  .obtain ⟨p,hp,yF⟩:=some_case e0 t1 t2;rw[C0,hp] at h;simp only[fE] at h;obtain ⟨rfl,rfl⟩:=h;refine ⟨e0.val,yF,t3,?_⟩
   rcases hf with ⟨_,f2,_⟩|⟨e1,y1,f1,f2,f3,_⟩
   .exact absurd t2 (f2 e0 t1)
   .have:e0=e1:=M.uniq t1 f1 (t2.trans f2.symm);rw[f3,this]
 .cases h
theorem Step.setMap{b:Nat}{es es':Array MapEntry}{clock clock':Nat}(hB:B<=b)(hb:w.heap[b]?=some (.map es clock)):Step B w g (setBlock w b (.map es' clock')) g:=by
 have nc:∀k,k≠b->(setBlock w b (.map es' clock')).heap[k]?=w.heap[k]?:=fun k hk=>heap_setBlock_other hb _ hk
 refine ⟨⟨rfl,rfl,rfl,by simp[setBlock],fun k hk=>nc k aa⟩,fun b' off u hw hc=>?_,fun b' c1 e1 fr gO=>?_,fun _ _ _ h=>h,fun _ _ _=>Iff.rfl,fun _ _=>Iff.rfl,fun _ _ h=>h,fun _ _ _ h=>h⟩
 .have hne:b'≠b:=fun he=>by
   subst he;unfold World.cell? at hc;rw[hb] at hc;cases hc
  exact (World.cell?_of_block (w:=w) (a:=⟨b',off,none⟩) (nc b' hne)).trans hc
 .have hne:b'≠b:=fun he=>by subst he;rw[hb] at gO;cases gO
  exact ⟨c1,(nc b' hne).trans gO,rfl⟩
theorem qaQ{es:List (AV×AV)}{key v:AV}{p:AV×AV}(h:p∈oY es key v):(p∈es/\jE p.1 key=false)\/(p.2=v/\(p.1=key\/∃q∈es,q.1=p.1/\jE q.1 key=true)):=by
 unfold oY at h
 split at h
 .obtain ⟨q,hq,rfl⟩:=iw.1 h
  by_cases hk:jE q.1 key=true
  .rw[aq hk];exact .inr ⟨rfl,.inr ⟨q,hq,rfl,hk⟩⟩
  .rw[an hk];exact .inl ⟨hq,by simpa using hk⟩
 .rename_i ha;rw[List.any_eq_false] at ha
  rcases hZ.1 h with h|h
  .exact .inl ⟨h,by simpa using ha p h⟩
  .rw[List.mem_singleton] at h;subst h;exact .inr ⟨rfl,.inl rfl⟩
theorem qsU{es:List (AV×AV)}{key v:AV}{p:AV×AV}(h:p∈es)(hk:jE p.1 key=false):p∈oY es key v:=by
 unfold oY
 split
 .exact iw.2 ⟨p,h,by rw[an (by simp[hk])]⟩
 .exact hZ.2 (.inl h)
theorem qsT{es:List (AV×AV)}{key v:AV}:∃p∈oY es key v,p.2=v/\(p.1=key\/∃q∈es,q.1=p.1/\jE q.1 key=true):=by
 unfold oY
 split
 .rename_i ha;obtain ⟨q,hq,hk⟩:=List.any_eq_true.1 ha;exact ⟨(q.1,v),iw.2 ⟨q,hq,by rw[aq hk]⟩,rfl,.inr ⟨q,hq,rfl,hk⟩⟩
 .exact ⟨(key,v),hZ.2 (.inr gj),rfl,.inl rfl⟩
theorem qsS(es:List (AV×AV))(key v:AV):(oY es key v).length=if es.any (fun p=>jE p.1 key)=true then es.length else es.length+1:=by
 unfold oY
 split
 .rename_i h;rw[aq h];simp
 .rename_i h;rw[h];simp
theorem qa5{α:Type}:∀(l l':List α),l.Nodup->(∀x∈l,x∈l')->l.length<=l'.length
 | [],_,_,_=>oJ _
 | a::t,l',hn,hs=>by
  obtain ⟨s,u,rfl⟩:=BX (hs a gj);rw[uD] at hn
  have:=qa5 t (s++u) hn.2 (fun x hx=>by
   have h:=hs x (fW _ hx)
   rcases hZ.1 h with h|h
   .exact hZ.2 (.inl h)
   .rcases gI.1 h with rfl|h
    .exact absurd hx hn.1
    .exact hZ.2 (.inr h))
  simp at this ⊢;omega
theorem qse{α β:Type}{f:α->β}{l:List α}(h:(l.map f).Nodup):(l.map fun x=>some (f x)).Nodup:=by
 have:(l.map fun x=>some (f x))=(l.map f).map some:=aA;rw[this];unfold List.Nodup at h ⊢;rw[List.pairwise_map];exact h.imp fun hne e=>hne (pS e)
theorem MapR.put{k:Nat}{kk:KK}{t e b:Nat}{es':Array MapEntry}{clock:Nat}{es:List (AV×AV)}(M:MapR w g kk es' clock es)(hu:P.underlying t=some (.map k e))(hk:yN P k=some kk)(hb:w.heap[b]?=some (.map es' clock)){key v:AV}{kv vv:Value}(bc:ku kk key=true)(pE:Go.Ab.flatV key=some kv)(hvv:V w g v vv)(hlen:es.length<maxLen) :
  ∃es2 clock2,(Instr.mapUpdate t (.map (some b)) kv vv).run P w=.ok () (setBlock w b (.map es2 clock2))/\MapR w g kk es2 clock2 (oY es key v):=by
 obtain ⟨kl,fZ⟩:=FY hk (QK bc pE);have K:=Z4 hk;have F:=M.fit (P:=P) hk;obtain ⟨es2,clock2,r1,r2,r3,_,_,r6⟩:=fit_store (R:=RU) (R':=RU) (yv:=(.lit (.bool true),[])) K hu hb F (jQ M.size hlen) (fun _ _ _ _ h=>h) fZ rfl;have Qo:∀(x:MapEntry) (l:Lit),Go.keyOf P k x.key=some l->Go.WideElems.rg P k RU x=(l,.lit (.bool true)):=fun x l hl=>Go.WideElems.rg_of (by simp[Go.WideElems.rd,hl,RU])
 have Za:∀x∈es2.toList,∃l,Go.keyOf P k x.key=some l:=fun x hx=>by
  rcases r6 x hx with ⟨h,_⟩|⟨h,_⟩
  .exact FY hk (M.keys x h)
  .exact ⟨kl,by rw[h];exact fZ⟩
 have back:∀p,p∈putKey kl (.lit (.bool true)) ((es'.toList.map (Go.WideElems.rg P k RU)).foldr DataW.insert [])->∃x∈es2.toList,Go.WideElems.rg P k RU x=p:=fun p hp=>by
  rw[<- r3,mem_sorted] at hp;obtain ⟨x,hx,rfl⟩:=iw.1 hp;exact ⟨x,hx,rfl⟩
 have uY:∃x∈es2.toList,x.key=kv/\x.val=vv:=by
  obtain ⟨x,hx,hp⟩:=back (kl,.lit (.bool true)) (mem_insert_iff.2 (.inl rfl));obtain ⟨l,hl⟩:=Za x hx;rw[Qo x l hl] at hp;have fI:l=kl:=(Prod.mk.inj hp).1;subst fI;have CG:x.key=kv:=K.inj hl fZ
  rcases r6 x hx with ⟨_,h⟩|⟨h,h'⟩
  .exact absurd CG h
  .exact ⟨x,hx,h,h'⟩
 have hold:∀x∈es'.toList,x.key≠kv->x∈es2.toList:=fun x hx hne=>by
  obtain ⟨l,hl⟩:=FY hk (M.keys x hx);have qqr:l≠kl:=fun e=>hne (K.inj (e▸hl) fZ)
  have gz:(l,DataW.lit (.bool true))∈putKey kl (.lit (.bool true)) ((es'.toList.map (Go.WideElems.rg P k RU)).foldr DataW.insert []):=by
   refine mem_insert_iff.2 (.inr (po.2 ⟨mem_sorted.2 (iw.2 ⟨x,hx,Qo x l hl⟩),?_⟩));simp only[notKey]
   cases hs:l.sameKey kl with
   | false=>rfl
   | true=>exact absurd (WideAt.sameKey_eq hs) qqr
  obtain ⟨x2,hx2,hp⟩:=back _ gz;obtain ⟨l2,jC⟩:=Za x2 hx2;rw[Qo x2 l2 jC] at hp;have fI:l2=l:=(Prod.mk.inj hp).1;subst fI;have CG:x2.key=x.key:=K.inj jC hl
  rcases r6 x2 hx2 with ⟨h,_⟩|⟨h,_⟩
  .have:x2=x:=by
    have hnd:=M.stamped.2.2;obtain ⟨i,hi,rfl⟩:=n0 h;obtain ⟨j,hj,rfl⟩:=n0 hx
    have iD:(es'.toList.map (·.key))[i]'(by simpa using hi)=(es'.toList.map (·.key))[j]'(by simpa using hj):=by
     rw[tf,tf,CG]
    have:=(List.getElem_inj hnd).1 iD;subst this;rfl
   rw[<- this];exact hx2
  .exact absurd (CG.symm.trans h) hne
 have qqb:∀p∈oY es key v,ku kk p.1=true:=fun p hp=>by
  rcases qaQ hp with ⟨h,_⟩|⟨_,h|⟨q,hq,h,_⟩⟩
  .exact M.ok p h
  .rw[h];exact bc
  .rw[<- h];exact M.ok q hq
 have YT:∀x∈es2.toList,∃p∈oY es key v,Go.Ab.flatV p.1=some x.key/\V w g p.2 x.val:=fun x hx=>by
  rcases r6 x hx with ⟨h,hne⟩|⟨h,h'⟩
  .obtain ⟨p,hp,h1,h2⟩:=M.frm x h;refine ⟨p,qsU hp ?_,h1,h2⟩
   cases ck:jE p.1 key with
   | false=>rfl
   | true=>exact absurd ((A2 (M.ok p hp) bc h1 pE).1 ck) hne
  .obtain ⟨p,hp,h1,h2⟩:=qsT (es:=es) (key:=key) (v:=v);refine ⟨p,hp,?_,by rw[h1,h'];exact hvv⟩
   rcases h2 with h2|⟨q,hq,h2,FH⟩
   .rw[h2,h];exact pE
   .obtain ⟨x0,hx0,h3,_⟩:=M.to q hq;rw[<- h2,h3,h,(A2 (M.ok q hq) bc h3 pE).1 FH]
 have qqa:∀x∈es2.toList,∃p∈oY es key v,Go.Ab.flatV p.1=some x.key:=fun x hx=>(YT x hx).imp fun p h=>⟨h.1,h.2.1⟩
 refine ⟨es2,clock2,r1,?_,?_,r2.stamped,fun x hx=>?_,qqb,fun p hp=>?_,YT⟩
 .have h:=qa5 (es2.toList.map fun x=>some x.key) ((oY es key v).map fun p=>Go.Ab.flatV p.1) (qse (f:=fun x:MapEntry=>x.key) r2.stamped.2.2) (fun y hy=>by
   obtain ⟨x,hx,rfl⟩:=iw.1 hy;obtain ⟨p,hp,h1⟩:=qqa x hx
   exact iw.2 ⟨p,hp,h1⟩)
  simpa using h
 .rw[qsS];split<;>omega
 .rcases r6 x hx with ⟨h,_⟩|⟨h,_⟩
  .exact M.keys x h
  .rw[h];exact QK bc pE
 .rcases qaQ hp with ⟨h,hne⟩|⟨hv,h⟩
  .obtain ⟨x,hx,h1,h2⟩:=M.to p h
   have hxk:x.key≠kv:=fun e=>by
    have:=(A2 (M.ok p h) bc h1 pE).2 e;rw[this] at hne;cases hne
   exact ⟨x,hold x hx hxk,h1,h2⟩
  .obtain ⟨x,hx,h1,h2⟩:=uY;refine ⟨x,hx,?_,by rw[hv,h2];exact hvv⟩
   rcases h with h|⟨q,hq,h,FH⟩
   .rw[h,h1];exact pE
   .obtain ⟨x0,hx0,h3,_⟩:=M.to q hq;rw[<- h,h3,h1,(A2 (M.ok q hq) bc h3 pE).1 FH]
theorem qcW(hm:MemR B w g m){t e:Nat}{kk:KK}{x key v:AV}{x' key' v':Value}{m1:ai}(hx:V w g x x')(P6:V w g key key')(hv:V w g v v')(rP:xf P t=some (kk,e))(h:lY kk m x key v=some m1) :
  ∃w',(Instr.mapUpdate t x' key' v').run P w=.ok () w'/\Step B w g w' g/\MemR B w' g m1:=by
 obtain ⟨k,hu,hk⟩:=qaM rP;simp only[lY,bn] at h;obtain ⟨⟨nm,es⟩,mf,h⟩:=h;simp only at h
 split at h
 .rename_i hc;obtain ⟨bc,_,hlen⟩:=hc;simp only[cg] at h;subst h;obtain ⟨hg,b,es',clock,rfl,hl,hB,hb,M⟩:=qaS hm hx mf;obtain ⟨kv,pE⟩:=Z0 bc;have Fv:=(P6.flatV pE).symm;subst Fv;obtain ⟨es2,clock2,r1,M2⟩:=M.put (w:=w) hu hk hb bc pE hv hlen;have s:=Step.setMap (w:=w) (g:=g) (es':=es2) (clock':=clock2) hB hb;have nc:∀k,k≠b->(setBlock w b (.map es2 clock2)).heap[k]?=w.heap[k]?:=fun k hk=>heap_setBlock_other hb _ hk;have yI:(setBlock w b (.map es2 clock2)).heap.size=w.heap.size:=by simp[setBlock]
  have hlt:=bW hg;refine ⟨_,r1,s,?_⟩;have tE:bj g m nm=some b:=by simp[bj,hg,hl]
  have hblk:∀x b',bj g (m.set nm (some (.mp kk (oY es key v)))) x=some b'->bj g m x=some b':=by
   intro x b' hx
   rcases qK hx with ⟨bx1,cs1,a1,a2⟩|⟨n1,sz1,a1,a2⟩|⟨kk1,es1,a1,a2⟩
   .rw[gV] at a1
    split at a1
    .simp at a1
    .simp[bj,a1,a2]
   .rw[gV] at a1
    split at a1
    .simp at a1
    .simp[bj,a1,a2]
   .rw[gV] at a1
    split at a1
    .rename_i he;subst he;simp[bj,hg,a2]
    .simp[bj,a1,a2]
  refine ⟨?_,?_,?_,?_,?_,?_,?_,?_,?_⟩
  .intro x bx1 cs1 hx;rw[gV] at hx
   split at hx
   .simp at hx
   .obtain ⟨b1,c1,e1,a1,a2,a3,a4,a5,a6⟩:=hm.obj x bx1 cs1 hx;have mG:b1≠b:=fun he=>by rw[he,hb] at a3;cases a3
    exact ⟨b1,c1,e1,a1,a2,(nc b1 mG).trans a3,a4,fun j hj=>(a5 j hj).step s,a6⟩
  .intro x n1 sz1 hx;rw[gV] at hx
   split at hx
   .simp at hx
   .obtain ⟨b1,c1,e1,a1,a2,a3,a4⟩:=hm.tok x n1 sz1 hx;have mG:b1≠b:=fun he=>by rw[he,hb] at a3;cases a3
    exact ⟨b1,c1,e1,a1,a2,(nc b1 mG).trans a3,a4⟩
  .intro x hx;rw[gV] at hx
   split at hx
   .simp at hx
   .exact hm.resv x hx
  .intro x hx;exact hm.fresh x (by simpa using hx)
  .intro x x' b' h1 h2;exact hm.inj x x' b' (hblk x b' h1) (hblk x' b' h2)
  .intro b' off hw;rw[yI];exact hm.wrLt b' off hw
  .exact hm.invS s
  .intro b' hw;rw[yI];exact hm.boxLt b' hw
  .intro x kk1 es1 hx;rw[gV] at hx
   split at hx
   .rename_i he;simp only[aq hlt,cg,Ent.mp.injEq] at hx;obtain ⟨rfl,rfl⟩:=hx;subst he;exact ⟨b,es2,clock2,hl,hB,heap_setBlock_same hb _,M2.step s⟩
   .rename_i hne;obtain ⟨b1,es3,cl3,a1,a2,a3,a4⟩:=hm.mp x kk1 es1 hx;have mG:b1≠b:=fun he=>hne (hm.inj x nm b (by simp[bj,hx,a1,he]) tE);exact ⟨b1,es3,cl3,a1,a2,(nc b1 mG).trans a3,a4.step s⟩
 .cases h
def rU(g:G)(nm b:Nat):G where
 wr:=g.wr
 box:=g.box
 loc nm':=if nm'=nm then some b else g.loc nm'
 tloc:=g.tloc
theorem MemR.alloc_mp(h:MemR B w g m)(hB:B<=w.heap.size)(kk:KK){nm:Nat}{m':ai}(hs:Slot g m nm (.mp kk []) m') :
  Step B w g (w.alloc (.map #[] 0)) (rU g nm w.heap.size)/\MemR B (w.alloc (.map #[] 0)) (rU g nm w.heap.size) m':=by
 have mc:=hs.fresh
 have s:Step B w g (w.alloc (.map #[] 0)) (rU g nm w.heap.size):=by
  refine Step.alloc hB _ (fun b off hb=>Iff.rfl) (fun b hb=>Iff.rfl) (fun x b hb=>?_) (fun _ _ _ h=>h);simp only[rU]
  split
  .rename_i he;rw[he,mc.1] at hb;cases hb
  .exact hb
 have hblk:∀x b,bj (rU g nm w.heap.size) m' x=some b->(x≠nm/\bj g m x=some b)\/(x=nm/\b=w.heap.size):=by
  intro x b hb
  rcases qK hb with ⟨bx',cs',h1,h2⟩|⟨n,sz,h1,h2⟩|⟨kk1,es,h1,h2⟩
  .rw[hs.get] at h1
   split at h1
   .simp at h1
   .rename_i hne;simp only[rU,an hne] at h2;exact .inl ⟨hne,by simp[bj,h1,h2]⟩
  .rw[hs.get] at h1
   split at h1
   .simp at h1
   .rename_i hne;simp only[rU] at h2;exact .inl ⟨hne,by simp[bj,h1,h2]⟩
  .rw[hs.get] at h1
   split at h1
   .rename_i he;simp only[rU,aq he] at h2;exact .inr ⟨he,by simpa using h2.symm⟩
   .rename_i hne;simp only[rU,an hne] at h2;exact .inl ⟨hne,by simp[bj,h1,h2]⟩
 refine ⟨s,?_,?_,?_,?_,?_,?_,?_,?_,?_⟩
 .intro x bx' cs' hn;rw[hs.get] at hn
  split at hn
  .simp at hn
  .obtain ⟨b,c',e',h1,h2,h3,h4,h5,h6,h7⟩:=h.obj x bx' cs' hn;exact ⟨b,c',e',s.loc _ _ h1,h2,(Go.heap_alloc_old w _ (fP.1 h3).1).trans h3,h4,fun j hj=>(h5 j hj).step s,h6,h7⟩
 .intro x n sz hn;rw[hs.get] at hn
  split at hn
  .simp at hn
  .obtain ⟨b,c',e',h1,h2,h3,h4⟩:=h.tok x n sz hn;exact ⟨b,c',e',h1,h2,(Go.heap_alloc_old w _ (fP.1 h3).1).trans h3,h4⟩
 .intro x hn;rw[hs.get] at hn
  split at hn
  .simp at hn
  .rename_i hne;have:=h.resv x hn;exact ⟨by simp only[rU];rw[an hne];exact this.1,this.2⟩
 .intro x hn;obtain ⟨h1,h2⟩:=hs.len x hn;have:=h.fresh x h1;exact ⟨by simp only[rU];rw[an h2];exact this.1,this.2⟩
 .intro x x' b h1 h2
  rcases hblk _ _ h1 with ⟨a1,a2⟩|⟨a1,a2⟩<;>rcases hblk _ _ h2 with ⟨b1,b2⟩|⟨b1,b2⟩
  .exact h.inj _ _ _ a2 b2
  .have:=(h.blk_lt a2).2;omega
  .have:=(h.blk_lt b2).2;omega
  .omega
 .intro b off hw;have:=h.wrLt b off hw;simp;omega
 .exact h.invS s
 .intro b hw;have:=h.boxLt b hw;simp;omega
 .intro x kk1 es hn;rw[hs.get] at hn
  split at hn
  .rename_i he;simp only[cg,Ent.mp.injEq] at hn;obtain ⟨rfl,rfl⟩:=hn;refine ⟨w.heap.size,#[],0,by simp[rU,he],hB,heap_alloc_new w _,⟨aR _,oJ _,MapKept.stamped_empty 0,aA,aA,aA,aA⟩⟩
  .obtain ⟨b,es',cl,h1,h2,h3,h4⟩:=h.mp x kk1 es hn;exact ⟨b,es',cl,s.loc _ _ h1,h2,(Go.heap_alloc_old w _ (fP.1 h3).1).trans h3,h4.step s⟩
theorem qrP(hm:MemR B w g m)(hB:B<=w.heap.size){t e:Nat}{kk:KK}(rP:xf P t=some (kk,e)):pj P B w g (Instr.makeMap t none) (.mref (az none m .resv).1) (az none m (.mp kk [])).2:=by
 obtain ⟨s,hm'⟩:=hm.alloc_mp hB kk (hm.slot (d:=none) (fun s h=>by cases h) (.mp kk []));refine ⟨_,_,_,?_,s,hm',.mref _ w.heap.size (by simp[rU])⟩;simp[Instr.makeMap,newObj]
 rfl
end
end Go.Ab
