/- An abstract interpreter of the kit's code: values without memory, an abstract memory of named objects. Definitions alone. -/
import Derived.Calls
import Derived.KernelRfl
import Derived.Maps.OwnSet
import Derived.DeepKeys4
import Derived.Below
import Derived.Laws.AppendOwn
import Derived.Laws.MakeOwn
import Derived.Laws.OwnMore
import Derived.Laws.Rows
import Derived.MapKept
import Derived.WalkKit
import Derived.WalkSpells
import Derived.Laws.Small
import Derived.Laws.StructEq
import Derived.Laws.Cover3
import Derived.Laws.Cells
import Derived.Laws.Tables
import Derived.Great.BuildSlice
import Derived.Defers
set_option maxRecDepth 100000
set_option linter.unusedVariables false
set_option linter.unusedSimpArgs false
set_option linter.unusedSectionVars false
theorem aj:type_of% @if_neg.{1}:=@if_neg.{1}
theorem an:type_of% @if_pos.{1}:=@if_pos.{1}
theorem aI:type_of% @List.length_append.{0}:=@List.length_append.{0}
theorem aJ:type_of% @List.length_cons.{0}:=@List.length_cons.{0}
theorem aM:type_of% @List.length_nil.{0}:=@List.length_nil.{0}
theorem aQ:type_of% @Option.map_some.{0,0}:=@Option.map_some.{0,0}
theorem aR:type_of% @Nat.le_refl:=@Nat.le_refl
theorem aT:type_of% @List.getD_eq_getElem?_getD.{0}:=@List.getD_eq_getElem?_getD.{0}
theorem aZ:type_of% @List.length_set.{0}:=@List.length_set.{0}
theorem bc:type_of% @Option.bind_eq_some_iff.{0,0}:=@Option.bind_eq_some_iff.{0,0}
theorem bf:type_of% @Nat.zero_add:=@Nat.zero_add
theorem bq:type_of% @if_true.{1}:=@if_true.{1}
theorem bA:type_of% @List.getElem?_eq_getElem.{0}:=@List.getElem?_eq_getElem.{0}
theorem bE:type_of% @List.nil_append.{0}:=@List.nil_append.{0}
theorem bG:type_of% @Option.some.injEq.{0}:=@Option.some.injEq.{0}
theorem bM:type_of% @List.getElem_mem.{0}:=@List.getElem_mem.{0}
theorem bP:type_of% @List.append_nil.{0}:=@List.append_nil.{0}
theorem bQ:type_of% @List.cons_append.{0}:=@List.cons_append.{0}
theorem bT:type_of% @Bool.and_eq_true:=@Bool.and_eq_true
theorem bU:type_of% @List.length_map.{0,0}:=@List.length_map.{0,0}
theorem cD:type_of% @List.set_cons_zero.{0}:=@List.set_cons_zero.{0}
theorem cK:type_of% @Int.toNat_natCast:=@Int.toNat_natCast
theorem cP:type_of% @Nat.mul_comm:=@Nat.mul_comm
theorem dc:type_of% @congrArg.{1,1}:=@congrArg.{1,1}
theorem dk:type_of% @decide_eq_false:=@decide_eq_false
theorem dC:type_of% @List.set_cons_succ.{0}:=@List.set_cons_succ.{0}
theorem eO:type_of% @List.set_nil.{0}:=@List.set_nil.{0}
theorem eT:type_of% @decide_eq_true:=@decide_eq_true
theorem fe:type_of% @Prod.mk.injEq.{0,0}:=@Prod.mk.injEq.{0,0}
theorem fg:type_of% @Option.getD_some.{0}:=@Option.getD_some.{0}
theorem fA:type_of% @Nat.le_trans:=@Nat.le_trans
theorem fB:type_of% @Nat.mul_assoc:=@Nat.mul_assoc
theorem fE:type_of% @Array.getElem?_eq_some_iff.{0}:=@Array.getElem?_eq_some_iff.{0}
theorem fI:type_of% @List.mem_cons_of_mem.{0}:=@List.mem_cons_of_mem.{0}
theorem fJ:type_of% @List.mem_cons_self.{0}:=@List.mem_cons_self.{0}
theorem fQ:type_of% @List.all_eq_true.{0}:=@List.all_eq_true.{0}
theorem fV:type_of% @List.map_cons.{0,0}:=@List.map_cons.{0,0}
theorem ga:type_of% @List.append_assoc.{0}:=@List.append_assoc.{0}
theorem gm:type_of% @Nat.mul_add:=@Nat.mul_add
theorem gB:type_of% @List.mem_cons.{0}:=@List.mem_cons.{0}
theorem gG:type_of% @Option.map_eq_some_iff.{0,0}:=@Option.map_eq_some_iff.{0,0}
theorem gX:type_of% @Nat.add_mul:=@Nat.add_mul
theorem il:type_of% @Bool.true_and:=@Bool.true_and
theorem im:type_of% @List.mem_append.{0}:=@List.mem_append.{0}
theorem iO:type_of% @Nat.mul_le_mul_right:=@Nat.mul_le_mul_right
theorem iX:type_of% @List.mem_map.{0,0}:=@List.mem_map.{0,0}
theorem ji:type_of% @List.length_take.{0}:=@List.length_take.{0}
theorem jq:type_of% @Array.getD_eq_getD_getElem?.{0}:=@Array.getD_eq_getD_getElem?.{0}
theorem jr:type_of% @Nat.lt_of_le_of_lt:=@Nat.lt_of_le_of_lt
theorem jA:type_of% @List.drop_eq_nil_of_le.{0}:=@List.drop_eq_nil_of_le.{0}
theorem jD:type_of% @decide_eq_decide:=@decide_eq_decide
theorem jM:type_of% @Bool.false_eq_true:=@Bool.false_eq_true
theorem jN:type_of% @Bool.not_true:=@Bool.not_true
theorem jO:type_of% @Nat.pow_succ:=@Nat.pow_succ
theorem jT:type_of% @List.drop_zero.{0}:=@List.drop_zero.{0}
theorem ke:type_of% @Nat.add_zero:=@Nat.add_zero
theorem kf:type_of% @Nat.mod_lt:=@Nat.mod_lt
theorem kE:type_of% @Nat.mul_le_mul_left:=@Nat.mul_le_mul_left
theorem kP:type_of% @List.drop_eq_getElem_cons.{0}:=@List.drop_eq_getElem_cons.{0}
theorem kX:type_of% @List.map_append.{0,0}:=@List.map_append.{0,0}
theorem kY:type_of% @List.take_of_length_le.{0}:=@List.take_of_length_le.{0}
theorem kZ:type_of% @Nat.mod_eq_of_lt:=@Nat.mod_eq_of_lt
theorem lL:type_of% @if_false.{1}:=@if_false.{1}
theorem lQ:type_of% @Bool.false_and:=@Bool.false_and
theorem mo:type_of% @Nat.add_assoc:=@Nat.add_assoc
theorem mq:type_of% @Nat.mul_one:=@Nat.mul_one
theorem mw:type_of% @Nat.zero_le:=@Nat.zero_le
theorem mQ:type_of% @List.getElem?_eq_none.{0}:=@List.getElem?_eq_none.{0}
theorem mR:type_of% @List.sum_cons.{0}:=@List.sum_cons.{0}
theorem nl:type_of% @List.getElem?_append_left.{0}:=@List.getElem?_append_left.{0}
theorem nt:type_of% @decide_eq_true_eq:=@decide_eq_true_eq
theorem nT:type_of% @Bool.not_false:=@Bool.not_false
theorem nW:type_of% @Int.eq_ofNat_of_zero_le:=@Int.eq_ofNat_of_zero_le
theorem nX:type_of% @List.all_cons.{0}:=@List.all_cons.{0}
theorem nY:type_of% @List.eq_nil_of_length_eq_zero.{0}:=@List.eq_nil_of_length_eq_zero.{0}
theorem nZ:type_of% @List.flatMap_cons.{0,0}:=@List.flatMap_cons.{0,0}
theorem n0:type_of% @List.getElem?_map.{0,0}:=@List.getElem?_map.{0,0}
theorem n5:type_of% @List.take_append_drop.{0}:=@List.take_append_drop.{0}
theorem n6:type_of% @List.take_succ_eq_append_getElem.{0}:=@List.take_succ_eq_append_getElem.{0}
theorem n7:type_of% @Nat.mul_zero:=@Nat.mul_zero
theorem oJ:type_of% @Nat.pos_of_ne_zero:=@Nat.pos_of_ne_zero
theorem pg:type_of% @Bool.and_self:=@Bool.and_self
theorem pj:type_of% @List.cons.injEq.{0}:=@List.cons.injEq.{0}
theorem pk:type_of% @List.getD_cons_zero.{0}:=@List.getD_cons_zero.{0}
theorem pn:type_of% @Nat.add_sub_cancel:=@Nat.add_sub_cancel
theorem po:type_of% @Option.some.inj.{0}:=@Option.some.inj.{0}
theorem pM:type_of% @List.getElem_of_mem.{0}:=@List.getElem_of_mem.{0}
theorem pO:type_of% @Nat.pow_le_pow_right:=@Nat.pow_le_pow_right
theorem pP:type_of% @Nat.sub_self:=@Nat.sub_self
theorem qk:type_of% @Classical.byContradiction:=@Classical.byContradiction
theorem qn:type_of% @List.getElem?_append.{0}:=@List.getElem?_append.{0}
theorem qo:type_of% @List.getElem?_take.{0}:=@List.getElem?_take.{0}
theorem qp:type_of% @Nat.eq_of_beq_eq_true:=@Nat.eq_of_beq_eq_true
theorem qq:type_of% @Nat.succ_mul:=@Nat.succ_mul
theorem qQ:type_of% @Int.le_refl:=@Int.le_refl
theorem qS:type_of% @List.length_drop.{0}:=@List.length_drop.{0}
theorem qT:type_of% @List.map_nil.{0,0}:=@List.map_nil.{0,0}
theorem qU:type_of% @Nat.lt_of_lt_of_le:=@Nat.lt_of_lt_of_le
theorem qV:type_of% @Nat.lt_or_ge:=@Nat.lt_or_ge
theorem qW:type_of% @Nat.one_mul:=@Nat.one_mul
theorem qX:type_of% @Nat.pow_add:=@Nat.pow_add
theorem rD:type_of% @of_decide_eq_true:=@of_decide_eq_true
theorem rO:type_of% @Array.all_eq_true_iff_forall_mem.{0}:=@Array.all_eq_true_iff_forall_mem.{0}
theorem rQ:type_of% @Int.natCast_mul:=@Int.natCast_mul
theorem rR:type_of% @Int.natCast_nonneg:=@Int.natCast_nonneg
theorem rU:type_of% @List.getElem?_append_right.{0}:=@List.getElem?_append_right.{0}
theorem rV:type_of% @List.getElem?_drop.{0}:=@List.getElem?_drop.{0}
theorem rW:type_of% @List.map_map.{0,0,0}:=@List.map_map.{0,0,0}
theorem rX:type_of% @List.mem_filter.{0}:=@List.mem_filter.{0}
theorem rY:type_of% @Nat.add_comm:=@Nat.add_comm
theorem rZ:type_of% @Nat.mul_le_mul:=@Nat.mul_le_mul
theorem ti:type_of% @List.getElem_map.{0,0}:=@List.getElem_map.{0,0}
theorem tj:type_of% @List.length_singleton.{0}:=@List.length_singleton.{0}
theorem tm:type_of% @List.set_append_right.{0}:=@List.set_append_right.{0}
theorem tu:type_of% @beq_iff_eq.{0}:=@beq_iff_eq.{0}
theorem ux:type_of% @List.foldl_cons.{0,0}:=@List.foldl_cons.{0,0}
theorem uy:type_of% @List.length_replicate.{0}:=@List.length_replicate.{0}
theorem uz:type_of% @List.mem_range:=@List.mem_range
theorem uA:type_of% @List.ne_nil_of_length_pos.{0}:=@List.ne_nil_of_length_pos.{0}
theorem uC:type_of% @List.nodup_cons.{0}:=@List.nodup_cons.{0}
theorem uD:type_of% @Nat.div_lt_iff_lt_mul:=@Nat.div_lt_iff_lt_mul
theorem uE:type_of% @Nat.gcd_comm:=@Nat.gcd_comm
theorem uF:type_of% @Nat.two_pow_pos:=@Nat.two_pow_pos
theorem vR:type_of% @Nat.div_add_mod:=@Nat.div_add_mod
theorem vS:type_of% @Nat.le_of_not_lt:=@Nat.le_of_not_lt
theorem vT:type_of% @Nat.lt_irrefl:=@Nat.lt_irrefl
theorem wk:type_of% @decide_eq_true_iff:=@decide_eq_true_iff
theorem xu:type_of% @BitVec.toNat_ofInt:=@BitVec.toNat_ofInt
theorem xy:type_of% @Bool.eq_false_iff:=@Bool.eq_false_iff
theorem xA:type_of% @Bool.not_eq_true':=@Bool.not_eq_true'
theorem xI:type_of% @List.getD_cons_succ.{0}:=@List.getD_cons_succ.{0}
theorem xJ:type_of% @List.length_pos_iff.{0}:=@List.length_pos_iff.{0}
theorem xK:type_of% @List.map_eq_nil_iff.{0,0}:=@List.map_eq_nil_iff.{0,0}
theorem xL:type_of% @List.map_take.{0,0}:=@List.map_take.{0,0}
theorem xM:type_of% @List.replicate_succ.{0}:=@List.replicate_succ.{0}
theorem xN:type_of% @Nat.zero_mul:=@Nat.zero_mul
theorem zD:type_of% @Array.size_append.{0}:=@Array.size_append.{0}
theorem zE:type_of% @Bool.false_or:=@Bool.false_or
theorem zF:type_of% @Bool.or_eq_true:=@Bool.or_eq_true
theorem zY:type_of% @List.append_of_mem.{0}:=@List.append_of_mem.{0}
theorem zZ:type_of% @List.getElem?_concat_length.{0}:=@List.getElem?_concat_length.{0}
theorem z8:type_of% @List.getElem?_eq_some_iff.{0}:=@List.getElem?_eq_some_iff.{0}
theorem Aa:type_of% @List.getElem?_replicate.{0}:=@List.getElem?_replicate.{0}
theorem Ac:type_of% @List.getElem?_toArray.{0}:=@List.getElem?_toArray.{0}
theorem Ad:type_of% @List.mem_append_left.{0}:=@List.mem_append_left.{0}
theorem Ae:type_of% @List.set_set.{0}:=@List.set_set.{0}
theorem Af:type_of% @Nat.div_le_self:=@Nat.div_le_self
theorem Ag:type_of% @Nat.le_max_left:=@Nat.le_max_left
theorem BV:type_of% @Array.getElem?_eq_getElem.{0}:=@Array.getElem?_eq_getElem.{0}
theorem BW:type_of% @Array.getElem?_eq_none.{0}:=@Array.getElem?_eq_none.{0}
theorem BX:type_of% @Array.getElem?_toList.{0}:=@Array.getElem?_toList.{0}
theorem Cs:type_of% @List.Pairwise.sublist.{0}:=@List.Pairwise.sublist.{0}
theorem Cu:type_of% @List.Perm.append_left.{0}:=@List.Perm.append_left.{0}
theorem Cv:type_of% @List.getElem?_set_self.{0}:=@List.getElem?_set_self.{0}
theorem Cw:type_of% @List.length_zip.{0,0}:=@List.length_zip.{0,0}
theorem Cx:type_of% @List.mem_iff_getElem.{0}:=@List.mem_iff_getElem.{0}
theorem Cy:type_of% @List.not_mem_nil.{0}:=@List.not_mem_nil.{0}
theorem Cz:type_of% @List.pairwise_cons.{0}:=@List.pairwise_cons.{0}
theorem CA:type_of% @List.set_eq_take_append_cons_drop.{0}:=@List.set_eq_take_append_cons_drop.{0}
theorem CB:type_of% @Nat.le_max_right:=@Nat.le_max_right
theorem CF:type_of% @Option.bind_assoc.{0,0,0}:=@Option.bind_assoc.{0,0,0}
theorem E8:type_of% @Array.getElem?_setIfInBounds.{0}:=@Array.getElem?_setIfInBounds.{0}
theorem E9:type_of% @Array.length_toList.{0}:=@Array.length_toList.{0}
theorem Gt:type_of% @List.getElem?_set_ne.{0}:=@List.getElem?_set_ne.{0}
theorem Gu:type_of% @List.mem_of_mem_take.{0}:=@List.mem_of_mem_take.{0}
theorem Gv:type_of% @Nat.div_mul_le_self:=@Nat.div_mul_le_self
theorem Gw:type_of% @Nat.le_div_iff_mul_le:=@Nat.le_div_iff_mul_le
theorem Gx:type_of% @Nat.lt_of_mul_lt_mul_right:=@Nat.lt_of_mul_lt_mul_right
theorem aa {α β : Type} (a : α) (f : α -> Option β) : (some a).bind f = f a := rfl
namespace Go.Ab
inductive Own where
 | no
 | full
 | tok (nm e:Nat)
abbrev Sh:=Option Nat
def Sh.size:Sh->Nat
 | none=>1
 | some n=>n
inductive AV where
 | any
 | int (k:IntKind) (n:Int)
 | bool (b:Bool)
 | str (s:ByteArray)
 | lst (sh:Sh) (z:Bool) (o:Own) (es:List AV)
 | arr (nm off n:Nat) (sh:Sh)
 | ptr (nm off:Nat)
 | vptr (cs:List AV)
 | nilp
 | nilf
 | nile
 | nilm
 | agg (cs:List AV)
 | tup (vs:List AV)
 | fn (f:Nat) (caps:List AV)
 | mref (nm:Nat)
 | vec (n:Nat) (sh:Sh) (cs:List AV)
def AV.cells:AV->List AV
 | .agg cs=>cs
 | v=>[v]
inductive KK where
 | str
 | int (k:IntKind)
 | arr (n:Nat) (k:IntKind)
 deriving DecidableEq
inductive Ent where
 | obj (bx:Bool) (cs:List AV)
 | tok (n sz:Nat)
 | resv
 | mp (kk:KK) (es:List (AV×AV))
abbrev af:=List (Option Ent)
def af.get (m:af) (nm:Nat):Option Ent:=(m[nm]?).bind id
def af.obj? (m:af) (nm:Nat):Option (Bool×List AV):=match m.get nm with
 | some (.obj bx cs)=>some (bx,cs)
 | _=>none
structure St where
 tmps:List AV
 mem:af
inductive Ex where
 | normal
 | exit (id:Nat)
 | ret
structure Masks where
 head:List Bool
 out:List Bool
 ret:List Bool
structure Cfg where
 P:Program
 inl:Nat->Nat->Bool
 arrm:Nat->Bool
 tokm:Nat->Bool
 two:Nat->Nat->List (Nat×Nat)
 thaw:Nat->Nat->Bool
 frzc:Nat->Nat->Bool
 seqm:Nat->Nat->Bool
 late:Nat->Nat->List (Nat×List Nat)
 ben:Nat->Bool
 mask:Nat->Option Nat->Masks
 ord:Nat->Nat->Option (List Nat)
 ahd:Nat->Nat->List Nat
 lib:Nat->Option (List AV->Option AV)
 libm:Nat->Option (List AV->af->Option (AV×af))
def je (P:Program) (t:Nat):Option Sh:=
 match P.underlying t,P.info? t with
 | some (.struct _),some i | some (.array _ _),some i=>some (some i.size)
 | some _,some i=>if i.size=1 then some none else none
 | _,_=>none
def Ax (P:Program) (t:Nat):Option Nat:=
 match P.underlying t with
 | some (.slice e)=>some e
 | _=>none
def wu (P:Program) (t f:Nat):Option (Nat×Sh):=
 match P.underlying t with
 | some (.struct fs)=>
  match fs[f]? with
  | some fd=>match je P fd.type with
   | some sh=>if sh.size=0 then none else some (fd.offset,sh)
   | none=>none
  | none=>none
 | _=>none
def y9 (P:Program) (t f:Nat):Option (Nat×Sh):=match P.underlying t with
 | some (.array _ e)=>match je P e with
  | some sh=>if sh.size=0 then none else some (f * sh.size,sh)
  | none=>none
 | _=>wu P t f
def pq:Value->AV
 | .int k n=>.int k n
 | .bool b=>.bool b
 | .string s=>.str s
 | .slice none 0 0=>.lst none true .full []
 | .pointer none=>.nilp
 | .nilFunc=>.nilf
 | .nilIface=>.nile
 | .map none=>.nilm
 | _=>.any
def hG:Value->AV
 | .agg cs=>.agg (cs.toList.map pq)
 | v=>pq v
def rM (P:Program) (t:Nat):Option AV:=
 match P.info? t with
 | some i=>i.zero.map hG
 | none=>none
def pw (P:Program) (t:Nat):Nat:=max 1 (((P.info? t).map (·.bytes)).getD 0)
def aw {R:Type} (v:AV) (x y:Option R):Option R:=match v with
 | .bool b=>match b with
  | true=>x
  | false=>y
 | _=>none
def re (op:BinOp) (k:IntKind) (a b:Int):Option AV:=match op with
 | .add=>some (.int k (k.wrap (a+b)))
 | .sub=>some (.int k (k.wrap (a - b)))
 | .mul=>some (.int k (k.wrap (a * b)))
 | .quo=>if b=0 then none else some (.int k (k.wrap (a.tdiv b)))
 | .rem=>if b=0 then none else some (.int k (a.tmod b))
 | .and=>some (.int k (k.wrap (BitVec.ofInt k.bits a &&& BitVec.ofInt k.bits b).toNat))
 | .or=>some (.int k (k.wrap (BitVec.ofInt k.bits a ||| BitVec.ofInt k.bits b).toNat))
 | .xor=>some (.int k (k.wrap (BitVec.ofInt k.bits a ^^^ BitVec.ofInt k.bits b).toNat))
 | .andNot=>some (.int k (k.wrap (BitVec.ofInt k.bits a &&& ~~~ BitVec.ofInt k.bits b).toNat))
 | .eql=>some (.bool (a == b))
 | .neq=>some (.bool (a != b))
 | .lss=>some (.bool (decide (a < b)))
 | .leq=>some (.bool (decide (a<=b)))
 | .gtr=>some (.bool (decide (a > b)))
 | .geq=>some (.bool (decide (a≥b)))
 | _=>none
def s6 (left:Bool) (k:IntKind) (a b:Int):Option AV:=
 if b < 0 then none
 else if left then some (.int k (k.wrap (a * 2 ^ (min b.toNat k.bits)))) else some (.int k (a.fdiv (2 ^ (min b.toNat k.bits))))
inductive TK where
 | sl
 | bl
 | pt
 | fu
 | other
def BI (P:Program) (t:Nat):TK:=match P.underlying t with
 | some (.slice _)=>.sl
 | some .bool=>.bl
 | some (.pointer _)=>.pt
 | some (.func ..)=>.fu
 | _=>.other
def VR:AV->Option Bool
 | .nilp=>some true
 | .ptr .. | .vptr _=>some false
 | _=>none
def VQ:AV->Option Bool
 | .nilf=>some true
 | .fn ..=>some false
 | _=>none
def HE (op:BinOp) (b:Bool):Option AV:=match op with
 | .eql=>some (.bool b)
 | .neq=>some (.bool (!b))
 | _=>none
def Td (op:BinOp) (a b:ByteArray):Option AV:=match op with
 | .add=>if a.size+b.size<=9223372036854775807 then some (.str (a++b)) else none
 | .eql=>some (.bool (a.toList == b.toList))
 | .neq=>some (.bool (!(a.toList == b.toList)))
 | _=>none
def ag (tk:TK) (op:BinOp) (x y:AV):Option AV:=match tk,x,y with
 | _,.int k a,.int k' b=>match op with
  | .shl=>s6 true k a b
  | .shr=>s6 false k a b
  | op=>if k=k' then re op k a b else none
 | _,.str a,.str b=>Td op a b
 | .bl,.bool a,.bool b=>match op with
  | .eql=>some (.bool (a == b))
  | .neq=>some (.bool (!(a == b)))
  | _=>none
 | .sl,.lst _ z _ _,.lst _ true _ []=>match op with
  | .eql=>some (.bool z)
  | .neq=>some (.bool (!z))
  | _=>none
 | .pt,x,.nilp=>(VR x).bind (HE op)
 | .fu,x,.nilf=>(VQ x).bind (HE op)
 | _,_,_=>none
def jg (op:UnOp) (x:AV):Option AV:=match op,x with
 | .not,.bool b=>some (.bool !b)
 | .neg,.int k n=>some (.int k (k.wrap (0 - n)))
 | _,_=>none
def Oz (c a b:AV):Option AV:=match c with
 | .bool c=>some (if c then a else b)
 | _=>none
def ba (t:AV) (i:Nat):Option AV:=match t with
 | .tup vs=>vs[i]?
 | _=>none
def aK (st:Bool) (x:AV):Option AV:=match st,x with
 | false,.lst _ _ _ es=>some (.int .i64 es.length)
 | false,.arr _ _ n _=>some (.int .i64 n)
 | false,.vec n _ _=>some (.int .i64 n)
 | true,.str s=>some (.int .i64 s.size)
 | _,_=>none
def sT (mx:Bool) (x y:AV):Option AV:=match x,y with
 | .int k a,.int k' b=>if k=k' then some (.int k (if mx then (if b > a then b else a) else (if b < a then b else a))) else none
 | _,_=>none
def bm (k:IntKind) (x:AV):Option AV:=match x with
 | .int _ n=>some (.int k (k.wrap n))
 | _=>none
def ki (sh:Sh) (cs:List AV) (off:Nat):Option AV:=match sh with
 | none=>cs[off]?
 | some n=>if off+n<=cs.length then some (.agg ((cs.drop off).take n)) else none
def ai (sh:Sh) (m:af) (x:AV):Option AV:=match x with
 | .vptr cs=>ki sh cs 0
 | .ptr nm off=>(m.obj? nm).bind fun o=>ki sh o.2 off
 | _=>none
def ff:AV->Bool
 | .any | .agg _ | .tup _ | .vec ..=>false
 | _=>true
def cZ (sh:Sh) (v:AV):Bool:=match sh with
 | none=>ff v
 | some n=>match v with
  | .agg cs=>cs.length == n && cs.all ff
  | _=>false
def bC (cs:List AV) (off:Nat) (vs:List AV):List AV:=cs.take off++vs++cs.drop (off+vs.length)
def aN (sh:Sh) (m:af) (x v:AV):Option af:=match x with
 | .ptr nm off=>(m.obj? nm).bind fun o=>
  if off+sh.size<=o.2.length then if cZ sh v then some (m.set nm (some (.obj o.1 (bC o.2 off v.cells)))) else none else none
 | _=>none
def iD (x:AV):Option AV:=match x with
 | .vptr cs=>some (.vptr cs)
 | .ptr nm off=>some (.ptr nm off)
 | .fn f cs=>some (.fn f cs)
 | _=>none
def lp (x:AV):Option (Nat×List AV):=match x with
 | .fn f cs=>some (f,cs)
 | _=>none
def aS (off:Nat) (x:AV):Option AV:=match x with
 | .vptr cs=>if off < cs.length then some (.vptr (cs.drop off)) else none
 | .ptr nm o=>some (.ptr nm (o+off))
 | _=>none
def L7 (off:Nat) (sh:Sh) (x:AV):Option AV:=match x with
 | .agg cs=>ki sh cs off
 | _=>none
def aG (sh:Sh) (x i:AV):Option AV:=match i with
 | .int _ i=>match x with
  | .lst sh' _ _ es=>if sh'=sh then if 0<=i then (es[i.toNat]?).map fun e=>.vptr e.cells else none else none
  | .arr nm off n sh'=>if sh'=sh then if 0<=i/\i < n then some (.ptr nm (off+i.toNat * sh.size)) else none else none
  | .vec n sh' cs=>if sh'=sh then if 0<=i/\i < n then some (.vptr ((cs.drop (i.toNat * sh.size)).take sh.size)) else none else none
  | _=>none
 | _=>none
def Lx (len:Nat) (sh:Sh) (x i:AV):Option AV:=match i with
 | .int _ i=>if 0<=i/\i < len then aS (i.toNat * sh.size) x else none
 | _=>none
def sP (x i:AV):Option AV:=match x,i with
 | .str s,.int _ i=>if 0<=i then (s[i.toNat]?).map fun b=>.int .u8 b.toNat else none
 | _,_=>none
def jj (y:Nat) (x:Option AV) (dflt:Nat):Option Nat:=match x with
 | none=>some dflt
 | some (.int _ i)=>if 0<=i/\i<=y then some i.toNat else none
 | _=>none
def qg (x:AV) (lo hi mx:Option AV):Option AV:=match x with
 | .lst sh z _ es=>match mx with
  | none=>(jj es.length hi es.length).bind fun h=>(jj h lo 0).bind fun l=>some (.lst sh z .no ((es.take h).drop l))
  | some mv=>match hi with
   | none=>none
   | some hv=>(jj es.length (some mv) 0).bind fun m=>(jj m (some hv) 0).bind fun h=>(jj h lo 0).bind fun l=>
    if h=m then some (.lst sh z .full ((es.take h).drop l)) else some (.lst sh z .no ((es.take h).drop l))
 | .arr nm off n sh=>match mx with
  | none=>(jj n hi n).bind fun h=>(jj h lo 0).bind fun l=>some (.arr nm (off+l * sh.size) (h - l) sh)
  | some _=>none
 | .str s=>match mx with
  | none=>(jj s.size hi s.size).bind fun h=>(jj h lo 0).bind fun l=>some (.str (s.extract l h))
  | some _=>none
 | _=>none
def kU (sh:Sh) (x:AV) (lo hi mx:Option AV):Option AV:=match x with
 | .lst sh' z o es=>if sh'=sh\/es=[] then qg (.lst sh' z o es) lo hi mx else none
 | .arr nm off n sh'=>if sh'=sh then qg (.arr nm off n sh') lo hi mx else none
 | _=>none
def YN (x:AV) (lo hi mx:Option AV):Option AV:=match x with
 | .str s=>qg (.str s) lo hi mx
 | _=>none
mutual
def pl:AV->Bool
 | .int .. | .bool _ | .str _ | .nilp | .nilf | .nile | .nilm=>true
 | .lst _ _ o _=>match o with
  | .tok ..=>false
  | _=>true
 | .agg cs=>mg cs
 | _=>false
def mg:List AV->Bool
 | []=>true
 | c::cs=>pl c && mg cs
end
mutual
def cl:AV->Bool
 | .lst _ _ o _=>match o with
  | .tok ..=>false
  | _=>true
 | .arr .. | .ptr .. | .mref _ | .vec ..=>false
 | .vptr cs | .agg cs | .tup cs | .fn _ cs=>uM cs
 | _=>true
def uM:List AV->Bool
 | []=>true
 | c::cs=>cl c && uM cs
end
mutual
def iQ:AV->Bool
 | .vptr _=>false
 | .agg cs | .tup cs | .fn _ cs=>mf cs
 | _=>true
def mf:List AV->Bool
 | []=>true
 | c::cs=>iQ c && mf cs
end
def qi:AV->AV
 | .lst sh z (.tok ..) es=>.lst sh z .no es
 | v=>v
def lO:AV->AV
 | .agg cs=>.agg (cs.map qi)
 | v=>qi v
def qw (n:Nat):Nat->List AV->List (List AV)
 | 0,_=>[]
 | k+1,cs=>cs.take n::qw n k (cs.drop n)
def lW (sh:Sh) (k:Nat) (cs:List AV):List AV:=match sh with
 | none=>cs.take k
 | some n=>(qw n k cs).map .agg
def fD (f:AV->Option (AV×List Nat)):List AV->Option (List AV×List Nat)
 | []=>some ([],[])
 | c::cs=>(f c).bind fun r=>(fD f cs).map fun s=>(r.1::s.1,r.2++s.2)
def bH (m:af):Nat->AV->Option (AV×List Nat)
 | 0,_=>none
 | k+1,v=>match v with
  | .lst sh z o es=>some (match o with
   | .tok ..=>.lst sh z .no es
   | o=>.lst sh z o es,[])
  | .arr nm off n sh=>(m.obj? nm).bind fun o=>
   if !o.1 && decide (off+n * sh.size<=o.2.length) then (fD (bH m k) ((o.2.drop off).take (n * sh.size))).bind fun r=>
    if r.1.all ff && mg r.1 then some (.lst sh false .no (lW sh n r.1),nm::r.2) else none
   else none
  | .ptr nm off=>(m.obj? nm).bind fun o=>if o.1 then (fD (bH m k) (o.2.drop off)).map fun r=>(.vptr r.1,r.2) else none
  | .agg cs=>(fD (bH m k) cs).map fun r=>(.agg r.1,r.2)
  | .tup cs=>(fD (bH m k) cs).map fun r=>(.tup r.1,r.2)
  | .fn f cs=>(fD (bH m k) cs).map fun r=>(.fn f r.1,r.2)
  | .vptr cs=>(fD (bH m k) cs).map fun r=>(.vptr r.1,r.2)
  | .mref _=>some (.any,[])
  | .vec ..=>none
  | v=>some (v,[])
def km:Nat:=9
def jm (m:af) (l:List Nat):af:=l.foldl (fun m nm=>m.set nm none) m
def NJ:AV->Bool
 | .int ..=>true
 | _=>false
def mL:AV->Bool
 | .bool _=>true
 | .lst sh _ o ds=>match sh with
  | some _=>false
  | none=>match o with
   | .tok ..=>false
   | _=>ds.all NJ
 | _=>false
def Pc (base:Nat) (m:af) (v:AV):Option (AV×af):=match v with
 | .agg [.int k a,.int k' b,.lst sh z o es]=>match o with
  | .tok nm _=>match sh with
   | none=>none
   | some n=>match m.get nm with
    | some (.tok c sz)=>if c=es.length/\sz=n/\(es.flatMap AV.cells).all mL=true then some (.agg [.int k a,.int k' b,.arr base 0 es.length (some n)],[some (.obj false (es.flatMap AV.cells))]) else none
    | _=>none
  | _=>match es with
   | []=>match z with
    | true=>some (.agg [.int k a,.int k' b,.lst sh true o []],[])
    | false=>none
   | _::_=>none
 | _=>none
def nw (P:Program) (e:Nat) (sh:Sh):Bool:=match P.info? e with
 | some i=>i.size == sh.size && decide (0 < i.size) && (match i.zero with | some z=>z.cells.size == i.size && (match sh,z with | none,.agg _=>false | _,_=>true) | none=>false)
 | none=>false
def rN (sh:Sh) (z:AV) (n:Nat):List AV:=match sh with
 | none=>List.replicate n z
 | some _=>(List.replicate n z.cells).flatten
def aA (d:Option Nat) (m:af) (e:Ent):Nat×af:=match d with
 | none=>(m.length,m++[some e])
 | some s=>(s,m.set s (some e))
def gL:Nat:=140737488355328
def zf (m:af) (sh:Sh):AV->Option (Nat×List AV)
 | .lst shy _ _ ys=>if shy=sh/\0 < ys.length then some (ys.length,ys.flatMap AV.cells) else none
 | .arr nm off n shy=>(m.obj? nm).bind fun o=>if shy=sh/\0 < n/\off+n * sh.size<=o.2.length/\((o.2.drop off).take (n * sh.size)).all ff=true then some (n,(o.2.drop off).take (n * sh.size)) else none
 | .vec n shy cs=>if shy=sh/\0 < n/\cs.length=n * sh.size then some (n,cs) else none
 | _=>none
def xc (m:af) (sh:Sh):AV->Option (Nat×List AV×af)
 | .lst shx _ o es=>match o with
  | .full=>if shx=sh\/es=[] then some (es.length,es.flatMap AV.cells,m) else none
  | _=>none
 | .arr nm off n shx=>(m.obj? nm).bind fun o=>if shx=sh/\off=0/\0 < n/\o.1=false/\o.2.length=n * sh.size then some (n,o.2,m.set nm none) else none
 | _=>none
def uJ (d:Option Nat) (arrm:Bool) (sh:Sh) (bytes:Nat) (m:af) (x y:AV):Option (AV×af):=match d,arrm with
 | none,true=>(zf m sh y).bind fun q=>(xc m sh x).bind fun p=>
  if (p.1+q.1) * bytes<=gL then some (.arr p.2.2.length 0 (p.1+q.1) sh,p.2.2++[some (.obj false (p.2.1++q.2))]) else none
 | _,_=>none
def cg (d:Option Nat) (arrm:Bool) (e:Nat) (sh:Sh) (bytes:Nat) (m:af) (x y:AV):Option (AV×af):=match x,y with
 | .lst shx z o es,.lst shy _ _ ys=>match ys with
  | []=>some (.lst shx z o es,m)
  | y::ys=>
   if shy=sh then
    if (es.length+(y::ys).length) * bytes<=gL then
     match o with
     | .no=>none
     | .full=>
      if shx=sh\/es=[] then
       if arrm then some (.arr (aA d m .resv).1 0 (es.length+(y::ys).length) sh,(aA d m (.obj false ((es++y::ys).flatMap AV.cells))).2)
       else some (.lst sh false (.tok (aA d m .resv).1 e) (es++y::ys),(aA d m (.tok (es.length+(y::ys).length) sh.size)).2)
      else none
     | .tok nm e'=>
      if shx=sh/\e'=e/\arrm=false then match m.get nm with
       | some (.tok k sz)=>if k=es.length/\sz=sh.size then some (.lst sh false (.tok nm e) (es++y::ys),m.set nm (some (.tok (es.length+(y::ys).length) sh.size))) else none
       | _=>none
      else none
    else none
   else none
 | x,y=>uJ d arrm sh bytes m x y
def eR (d:Option Nat) (sh:Sh) (m:af) (v:AV):Option (AV×af):=if cZ sh v then some (.ptr (aA d m .resv).1 0,(aA d m (.obj true v.cells)).2) else none
def fh (sh:Sh) (vs:List AV):Option AV:=if vs.all (fun v=>cZ sh (lO v) && pl (lO v)) then some (.lst sh false .full (vs.map lO)) else if vs.all (fun v=>cZ sh (lO v)) then some (.vec vs.length sh ((vs.map lO).flatMap AV.cells)) else none
def Dj:List AV->List (Nat×Sh×AV)->Option (List AV)
 | cs,[]=>some cs
 | cs,(off,sh,v)::r=>if cZ sh v then if off+sh.size<=cs.length then Dj (bC cs off v.cells) r else none else none
def fR (zero:AV) (parts:List (Nat×Sh×AV)):Option AV:=match zero with
 | .agg cs=>(Dj cs parts).map .agg
 | _=>none
def iV (d:Option Nat) (e:Nat) (sh:Sh) (z:AV) (bytes:Nat) (m:af) (l c:AV):Option (AV×af):=match l,c with
 | .int _ l,.int _ c=>
  if 0<=l/\l<=c/\c * bytes<=281474976710656/\c<=9223372036854775807 then
   if l=c then some (.arr (aA d m .resv).1 0 l.toNat sh,(aA d m (.obj false (rN sh z l.toNat))).2)
   else if l=0 then some (.lst sh false (.tok (aA d m .resv).1 e) [],(aA d m (.tok 0 sh.size)).2) else none
  else none
 | _,_=>none
def atomV:AV->Option Value
 | .int k n=>some (.int k n)
 | .bool b=>some (.bool b)
 | .str s=>some (.string s)
 | _=>none
def se:List AV->Option (List Value)
 | []=>some []
 | x::xs=>(atomV x).bind fun v=>(se xs).map fun vs=>v::vs
def flatV:AV->Option Value
 | .agg cs=>(se cs).map fun vs=>.agg vs.toArray
 | x=>atomV x
def ER (k:IntKind) (n:Int):Bool:=decide (k.min<=n) && decide (n<=k.max)
def nF (k:IntKind):AV->Bool
 | .int k' n=>decide (k'=k) && ER k n
 | _=>false
def jQ:KK->AV->Bool
 | .str,.str s=>decide (s.size<=maxLen)
 | .int k,x=>nF k x
 | .arr n k,.agg cs=>cs.length == n && cs.all (nF k)
 | _,_=>false
def uK:AV->AV->Bool
 | .int k n,.int k' n'=>decide (k=k') && decide (n=n')
 | .str s,.str t=>decide (s=t)
 | _,_=>false
def Am:List AV->List AV->Bool
 | [],[]=>true
 | x::xs,y::ys=>uK x y && Am xs ys
 | _,_=>false
def jc:AV->AV->Bool
 | .agg cs,.agg ds=>Am cs ds
 | x,y=>uK x y
def wU (P:Program) (k:Nat):Option KK:=match P.underlying k with
 | some .string=>some .str
 | some (.int q)=>some (.int q)
 | some (.array n e)=>match P.underlying e with
  | some (.int q)=>if P.tiled 2 k && P.keyTypeAt 2 k && P.keyType k && (P.cellsOf e == 1) && decide (0 < P.types.size) then some (.arr n q) else none
  | _=>none
 | _=>none
def vu (P:Program) (t:Nat):Option (KK×Nat):=match P.underlying t with
 | some (.map k e)=>(wU P k).map fun kk=>(kk,e)
 | _=>none
def mc (m:af) (kk:KK) (x:AV):Option (Nat×List (AV×AV)):=match x with
 | .mref nm=>match m.get nm with
  | some (.mp kk' es)=>if kk'=kk then some (nm,es) else none
  | _=>none
 | _=>none
def Bg (es:List (AV×AV)) (key z:AV):AV×Bool:=match es.find? (fun p=>jc p.1 key) with
 | some p=>(p.2,true)
 | none=>(z,false)
def oX (kk:KK) (z:AV) (m:af) (x key:AV):Option (AV×Bool):=(mc m kk x).bind fun q=>if jQ kk key=true then some (Bg q.2 key z) else none
def nK (es:List (AV×AV)) (key v:AV):List (AV×AV):=match es.any (fun p=>jc p.1 key) with
 | true=>es.map fun p=>if jc p.1 key then (p.1,v) else p
 | false=>es++[(key,v)]
def qmU (_:AV):Bool:=true
def kO (kk:KK) (m:af) (x key v:AV):Option af:=(mc m kk x).bind fun q=>if jQ kk key=true/\qmU v=true/\q.2.length < maxLen then some (m.set q.1 (some (.mp kk (nK q.2 key v)))) else none
def yY (d:Option Nat) (sh:Sh) (z:AV) (bytes:Nat) (m:af) (l c:AV):Option (AV×af):=match d,sh,l,c with
 | none,none,.int _ l,.int _ c=>
  if (0<=l/\l=c/\c * bytes<=281474976710656/\c<=9223372036854775807)/\ff z=true/\pl z=true then some (.lst none false .full (List.replicate l.toNat z),m) else none
 | _,_,_,_=>none
def O6 (P:Program) (t:Nat):Bool:=match P.underlying t with
 | some (.struct fs)=>fs.all fun f=>(P.info? f.type).isSome
 | some (.array _ e)=>(P.info? e).isSome
 | _=>false
section
variable {R:Type} (C:Cfg) (fid:Nat) (callP:Nat->List AV->Option AV) (callI:Nat->List AV->af->Option (AV×af)) (d:Option Nat)
def aD (d:Option Nat) (m:af) (g:Nat) (vs:List AV):Option (AV×af):=
 (fD (bH m km) vs).bind fun r=>if d.isSome && !r.2.isEmpty then none else (callP g r.1).map fun v=>(v,jm m r.2)
def Jo (m:af) (g:Nat) (vs:List AV):Option (AV×af):=
 (fD (bH m km) vs).bind fun r=>(callI g r.1 []).bind fun q=>(Pc m.length q.2 q.1).map fun t=>(t.1,jm m r.2++t.2)
def Az (m:af) (x:AV):Option (AV×List Nat):=match x with
 | .arr nm off n sh=>bH m km (.arr nm off n sh)
 | x=>some (x,[])
def yi (m:af) (g:Nat) (vs:List AV):Option (AV×af):=(fD (Az m) vs).bind fun r=>callI g r.1 (jm m r.2)
def jU (g:Nat) (vs:List AV) (m:af) (K:AV->af->Option R):Option R:=
 match C.libm g with
 | some h=>match d with
  | none=>(h vs m).bind fun r=>K r.1 r.2
  | some _=>none
 | none=>match C.lib g with
 | some h=>(h vs).bind fun v=>K v m
 | none=>match C.inl fid g with
  | true=>match d with
   | none=>(match C.frzc fid g with | true=>yi callI m g vs | false=>match C.thaw fid g with | true=>Jo callI m g vs | false=>callI g vs m).bind fun r=>K r.1 r.2
   | some _=>none
  | false=>(aD callP d m g vs).bind fun r=>K r.1 r.2
def xX (b:Builtin) (ts:Array TypeId) (vs:List AV) (m:af) (K:AV->af->Option R):Option R:=
 match b,vs with
 | .len,[x]=>match (ts[0]?).bind C.P.underlying with
  | some (.slice _)=>(aK false x).bind fun v=>K v m
  | some .string=>(aK true x).bind fun v=>K v m
  | _=>none
 | .max,[x,y]=>(sT true x y).bind fun v=>K v m
 | .min,[x,y]=>(sT false x y).bind fun v=>K v m
 | .append,[x,y]=>match ts[0]?,ts[1]? with
  | some t,some t'=>if t=t' then
    match Ax C.P t with
    | some e=>match je C.P e with
     | some sh=>if nw C.P e sh then (cg d (C.arrm fid) e sh (pw C.P e) m x y).bind fun r=>K r.1 r.2 else none
     | none=>none
    | none=>none
   else none
  | _,_=>none
 | _,_=>none
def kB (o:Oper) (ρ:Operand->AV) (m:af) (K:AV->af->Option R):Option R:=
 match o.op with
 | .move x=>K (ρ x) m
 | .assign x=>K (ρ x) m
 | .pick c a b=>(Oz (ρ c) (ρ a) (ρ b)).bind fun v=>K v m
 | .alloc t=>match rM C.P t with
  | some z=>K (.ptr (aA d m .resv).1 0) (aA d m (.obj true z.cells)).2
  | none=>none
 | .box t x=>match je C.P t with
  | some sh=>(eR d sh m (ρ x)).bind fun r=>K r.1 r.2
  | none=>none
 | .build t ps=>if O6 C.P t then match rM C.P t,ps.toList.mapM (fun p=>(y9 C.P t p.1).map fun f=>(f.1,f.2,ρ p.2)) with
  | some z,some l=>(fR z l).bind fun v=>K v m
  | _,_=>none else none
 | .buildSlice t n ps=>match Ax C.P t with
  | some e=>match je C.P e with
   | some sh=>if nw C.P e sh && (ps.toList.map (·.1) == List.range n) && decide (n * sh.size<=16777216) then (fh sh (ps.toList.map fun p=>ρ p.2)).bind fun v=>K v m else none
   | none=>none
  | none=>none
 | .load t a=>match je C.P t with
  | some sh=>(ai sh m (ρ a)).bind fun v=>K v m
  | none=>none
 | .store t a x=>match je C.P t with
  | some sh=>(aN sh m (ρ a) (ρ x)).bind fun m'=>K .any m'
  | none=>none
 | .nilCheck x=>(iD (ρ x)).bind fun v=>K v m
 | .binOp op t x y _=>(ag (BI C.P t) op (ρ x) (ρ y)).bind fun v=>K v m
 | .unOp op _ x=>(jg op (ρ x)).bind fun v=>K v m
 | .convert src dst x=>match C.P.underlying dst with
  | some (.int k)=>if (C.P.underlying src).isSome then (bm k (ρ x)).bind fun v=>K v m else none
  | _=>none
 | .makeFunc fn fi cs=>match fn,fi.toList with
  | .func f,[]=>K (.fn f (cs.toList.map ρ)) m
  | _,_=>none
 | .makeSlice t l c=>match Ax C.P t with
  | some e=>match je C.P e,rM C.P e with
   | some sh,some z=>if nw C.P e sh then (match C.tokm fid with | true=>yY d sh z (pw C.P e) m (ρ l) (ρ c) | false=>iV d e sh z (pw C.P e) m (ρ l) (ρ c)).bind fun r=>K r.1 r.2 else none
   | _,_=>none
  | none=>none
 | .slice t x lo hi mx=>match C.P.underlying t with
  | some (.slice e)=>match je C.P e with
   | some sh=>if nw C.P e sh then (kU sh (ρ x) (lo.map ρ) (hi.map ρ) (mx.map ρ)).bind fun v=>K v m else none
   | none=>none
  | some .string=>(YN (ρ x) (lo.map ρ) (hi.map ρ) (mx.map ρ)).bind fun v=>K v m
  | _=>none
 | .fieldAddr t x f=>match wu C.P t f with
  | some (off,_)=>(aS off (ρ x)).bind fun v=>K v m
  | none=>none
 | .field t x f=>match wu C.P t f with
  | some (off,sh)=>(L7 off sh (ρ x)).bind fun v=>K v m
  | none=>none
 | .indexAddr t x i=>match C.P.underlying t with
  | some (.slice e)=>match je C.P e with
   | some sh=>if nw C.P e sh then (aG sh (ρ x) (ρ i)).bind fun v=>K v m else none
   | none=>none
  | some (.array n e)=>match je C.P e with
   | some sh=>if nw C.P e sh then (Lx n sh (ρ x) (ρ i)).bind fun v=>K v m else none
   | none=>none
  | _=>none
 | .index t x i=>match C.P.underlying t with
  | some .string=>(sP (ρ x) (ρ i)).bind fun v=>K v m
  | _=>none
 | .extract t i=>(ba (ρ t) i).bind fun v=>K v m
 | .call c=>match c.callee with
  | .value f=>(lp (ρ f)).bind fun gc=>jU C fid callP callI d gc.1 (c.args.toList.map ρ++gc.2) m K
  | .builtin b=>xX C fid d b c.argTypes (c.args.toList.map ρ) m K
  | _=>none
 | .makeMap t n=>match n,d with
  | none,none=>match vu C.P t with
   | some (kk,_)=>K (.mref (aA d m .resv).1) (aA d m (.mp kk [])).2
   | none=>none
  | _,_=>none
 | .lookup t x i ok=>match vu C.P t with
  | some (kk,e)=>match rM C.P e with
   | some z=>(oX kk z m (ρ x) (ρ i)).bind fun r=>match ok with
    | true=>K (.tup [r.1,.bool r.2]) m
    | false=>K r.1 m
   | none=>none
  | none=>none
 | .mapUpdate t x i y=>match vu C.P t with
  | some (kk,_)=>(kO kk m (ρ x) (ρ i) (ρ y)).bind fun m'=>K .any m'
  | none=>none
 | .insert t x i y=>match vu C.P t with
  | some (kk,_)=>(kO kk m (ρ x) (ρ i) (ρ y)).bind fun m'=>K .any m'
  | none=>none
 | .defer c=>match c.callee with
  | .value f=>match c.args.toList with
   | []=>(lp (ρ f)).bind fun gc=>match C.ben gc.1 with
    | true=>K .any m
    | false=>none
   | _::_=>none
  | _=>none
 | _=>none
end
def ev (ts:List AV):Operand->AV
 | .tmp t=>ts.getD t .any
 | .const v=>hG v
 | .global _=>.any
 | .func f=>.fn f []
def fZ (ts:List AV) (dst:Option Nat) (v:AV):List AV:=match dst with
 | some d=>ts.set d v
 | none=>ts
section
variable {R:Type} (C:Cfg) (fid:Nat) (callP:Nat->List AV->Option AV) (callI:Nat->List AV->af->Option (AV×af))
def nh (o:Oper):Bool:=match o.op with
 | .alloc _ | .box .. | .makeSlice ..=>true
 | .call c=>match c.callee with
  | .builtin .append=>true
  | _=>false
 | _=>false
def fG (ops:Array Oper) (i:Nat):Nat:=((ops.toList.take i).filter nh).length
def xg (ops:Array Oper) (ts:List AV) (j:Nat):Bool:=match (ops[j]?).bind (·.guard) with
 | none=>false
 | some (j',want)=>match (ops[j']?).bind (·.dst) with
  | none=>false
  | some g=>match ts.getD g .any with
   | .bool b=>match b with
    | true=>match want with
     | true=>false
     | false=>true
    | false=>want
   | .tup _=>true
   | _=>false
def mh (base:Option Nat) (ops:Array Oper):List Nat->St->(St->Option R)->Option R
 | [],st,K=>K st
 | i::l,st,K=>match ops[i]? with
  | none=>none
  | some o=>match o.guard with
   | none=>kB C fid callP callI (base.map (· + fG ops i)) o (ev st.tmps) st.mem fun v m=>mh base ops l ⟨fZ st.tmps o.dst v,m⟩ K
   | some (j,want)=>match (ops[j]?).bind (·.dst) with
    | none=>none
    | some g=>
     let run (b:Bool):Option R:=kB C fid callP callI (base.map (· + fG ops i)) o (ev (st.tmps.set g (.bool b))) st.mem fun v m=>mh base ops l ⟨fZ (st.tmps.set g (.bool b)) o.dst v,m⟩ K
     let skip (b:Bool):Option R:=mh base ops l ⟨fZ (st.tmps.set g (.bool b)) o.dst (.tup []),st.mem⟩ K
     match xg ops st.tmps j with
     | true=>match st.tmps.getD g .any with
      | .tup cs=>match cs with
       | []=>mh base ops l ⟨fZ st.tmps o.dst (.tup []),st.mem⟩ K
       | _::_=>none
      | _=>none
     | false=>match want with
      | true=>aw (st.tmps.getD g .any) (run true) (skip false)
      | false=>aw (st.tmps.getD g .any) (skip true) (run false)
def pI:List Bool->List AV->List AV
 | _,[]=>[]
 | [],_::vs=>.any::pI [] vs
 | b::bs,v::vs=>(match b with | true=>v | false=>.any)::pI bs vs
abbrev bu (id:Nat) (K:Ex->St->Option R):Ex->St->Option R:=fun e st'=>match e with
 | .normal=>K .normal st'
 | .exit j=>match j == id with
  | true=>K .normal st'
  | false=>K (.exit j) st'
 | .ret=>K .ret st'
abbrev xe (next:St->Option R) (K:Ex->St->Option R):Ex->St->Option R:=fun e st'=>match e with
 | .normal=>next st'
 | .exit id=>K (.exit id) st'
 | .ret=>K .ret st'
def keyOf:Code->Option Nat
 | .region id _ _=>some id
 | .seq a b=>match keyOf a with
  | some k=>some k
  | none=>keyOf b
 | .cond _ a b=>match keyOf a with
  | some k=>some k
  | none=>keyOf b
 | .block _ b | .loop b | .scope b=>keyOf b
 | _=>none
inductive Cls where
 | N | L | A | Ap | W
 deriving DecidableEq
def iZ (o:Oper):Cls:=match o.op with
 | .move _ | .assign _ | .pick .. | .binOp .. | .unOp .. | .convert .. | .nilCheck _ | .extract .. | .field .. | .fieldAddr .. | .indexAddr .. | .index .. | .slice .. | .makeFunc .. | .build .. | .buildSlice ..=>.N
 | .load .. | .lookup ..=>.L
 | .alloc _ | .box .. | .makeSlice ..=>.A
 | .call c=>match c.callee with
  | .builtin .len | .builtin .max | .builtin .min=>.N
  | .builtin .append=>.Ap
  | .value _=>.L
  | _=>.W
 | _=>.W
def Da:Cls->Cls->Bool
 | .N,_ | _,.N | .L,.L | .L,.A | .L,.Ap | .A,.A=>true
 | _,_=>false
def pH (ops:Array Oper) (o:Oper):List Nat:=
 (o.op.operands.toList.filterMap fun | .tmp t=>some t | _=>none) ++
 (match o.guard with
  | some (g,_)=>((ops[g]?).bind (·.dst)).toList++(match (ops[g]?).bind (·.guard) with
   | some (g',_)=>((ops[g']?).bind (·.dst)).toList
   | none=>[])
  | none=>[])
def wb (ops:Array Oper) (x y:Oper):Bool:=
 (match x.dst with
  | some d=>!(pH ops y).contains d && y.dst != some d
  | none=>true) &&
 (match y.dst with
  | some d=>!(pH ops x).contains d
  | none=>true)
def Ea (x y:Oper):Bool:=match x.op with
 | .lookup ..=>match y.op with
  | .store ..=>true
  | _=>false
 | _=>false
def xi (ops:Array Oper) (x y:Oper):Bool:=(Da (iZ x) (iZ y) || Ea x y) && wb ops x y
def np (ops:Array Oper):Nat->List Nat
 | 0=>[]
 | n+1=>(np ops n)++[match ops[n]? with
  | some o=>(o.after.toList.filter (Region.binds .any)).foldl (fun s e=>s ||| (2 ^ e.on ||| (np ops n).getD e.on 0)) 0
  | none=>0]
def uH (ops:Array Oper):List Nat:=np ops ops.size
def Br (ops:Array Oper) (ah:List Nat):List Nat->Bool
 | []=>true
 | j::l=>l.all (fun i=>(ah.getD i 0).testBit j || (match ops[j]?,ops[i]? with | some x,some y=>xi ops x y | _,_=>false)) && Br ops ah l
def CY (ops:Array Oper) (ah:List Nat) (i:Nat):Bool:=match ops[i]?,ah[i]? with
 | some o,some a=>Nat.beq a (o.after.foldl (fun s e=>match Region.binds .any e with
  | true=>s ||| (2 ^ e.on ||| ah.getD e.on 0)
  | false=>s) 0)
 | _,_=>false
def HC (P:Program) (ops:Array Oper) (l:List Nat):Bool:=
 P.follows .mixedOrders && l.isPerm (List.range ops.size) && (List.range ops.size).all (fun i=>(match ops[i]? with | some o=>o.after.all fun e=>!Region.binds .any e || decide (e.on < i) | none=>false)) && Br ops (uH ops) l
def LY (P:Program) (ops:Array Oper) (l ah:List Nat):Bool:=
 P.follows .mixedOrders && (l.isPerm (List.range ops.size) && ((List.range ops.size).all (fun i=>(match ops[i]? with | some o=>o.after.all fun e=>!Region.binds .any e || decide (e.on < i) | none=>false)) && (Nat.beq ah.length ops.size && ((List.range ops.size).all (CY ops ah) && Br ops ah l))))
def iS (o:Oper):Cls:=match iZ o with
 | .N=>.N
 | .L=>match o.op with
  | .load ..=>.L
  | _=>.W
 | _=>.W
def vH (ops:Array Oper) (x y:Oper):Bool:=(match iS x,iS y with
 | .N,_ | _,.N | .L,.L=>true
 | _,_=>false) && wb ops x y
def p8:List (Nat×List Nat)->Nat->List Nat
 | [],_=>[]
 | (k,ys)::l,i=>match Nat.beq k i with
  | true=>ys
  | false=>p8 l i
def yW (ops:Array Oper) (x y:Oper):Bool:=(match iS x with | .L=>true | _=>false) && (wb ops x y && (match x.dst with | some d=>!(pH ops x).contains d | none=>false))
def YT (ops:Array Oper) (x:Oper) (l:List Nat):Bool:=l.all fun k=>match ops[k]? with
 | some o=>match o.dst with
  | some d=>!(pH ops x).contains d && x.dst != some d
  | none=>true
 | none=>true
def vC (ops:Array Oper) (ah:List Nat) (lt:List (Nat×List Nat)):List Nat->Bool
 | []=>true
 | j::l=>(l.all (fun i=>(ah.getD i 0).testBit j || (match ops[j]?,ops[i]? with | some x,some y=>vH ops x y || ((p8 lt i).contains j && yW ops x y) | _,_=>false)) &&
   ((match ops[j]? with
    | some x=>(match p8 lt j with | []=>true | _::_=>(match iS x with | .W=>true | _=>false)) && (!(lt.any fun p=>p.2.contains j) || YT ops x l)
    | none=>true))) && vC ops ah lt l
def yh (P:Program) (ops:Array Oper) (l ah:List Nat) (lt:List (Nat×List Nat)):Bool:=
 P.follows .mixedOrders && (l.isPerm (List.range ops.size) && ((List.range ops.size).all (fun i=>(match ops[i]? with | some o=>o.after.all fun e=>!Region.binds .any e || decide (e.on < i) | none=>false)) && (Nat.beq ah.length ops.size && ((List.range ops.size).all (CY ops ah) && vC ops ah lt l))))
def dG (m:af) (c:Nat):af:=match c with
 | 0=>m
 | c+1=>m++List.replicate (c+1) (some .resv)
def qb (o:Option (List Nat)) (n:Nat):List Nat:=match o with
 | some l=>l
 | none=>List.range n
end
def Ey (P:Program) (m:af) (ts:List AV):ResultVar->Option AV
 | .tmp t=>some (ts.getD t .any)
 | .cell a t=>(je P t).bind fun sh=>ai sh m (ts.getD a .any)
def ui (P:Program) (m:af) (ts:List AV):List ResultVar->Option (List AV)
 | []=>some []
 | r::rs=>(Ey P m ts r).bind fun v=>(ui P m ts rs).map fun vs=>v::vs
def ze {R:Type} (P:Program) (m:af) (ts:List AV):List ResultVar->(List AV->Option R)->Option R
 | [],K=>K []
 | .tmp t::rs,K=>ze P m ts rs fun vs=>K (ts.getD t .any::vs)
 | .cell a t::rs,K=>match je P t with
  | some sh=>(ai sh m (ts.getD a .any)).bind fun v=>ze P m ts rs fun vs=>K (v::vs)
  | none=>none
def Em:List AV->AV
 | [v]=>v
 | vs=>.tup vs
def jB (call:Nat->List AV->af->Option (AV×af)) (g:Nat) (vs:List AV):Option AV:=
 (call g vs []).bind fun r=>(bH r.2 km r.1).bind fun r'=>if mf vs || iQ r'.1 then some r'.1 else none
def aF (P:Program) (rs:List ResultVar):Ex->St->Option (AV×af):=fun e st=>match e with
 | .normal=>ze P st.mem st.tmps rs fun vs=>some (Em vs,st.mem)
 | .exit _=>none
 | .ret=>ze P st.mem st.tmps rs fun vs=>some (Em vs,st.mem)
def aC (f:Func):Code:=f.body.getD .skip
def c1:Code->Code
 | .seq a _=>a
 | .cond _ a _=>a
 | .block _ b | .loop b | .scope b=>b
 | c=>c
def c2:Code->Code
 | .seq _ b=>b
 | .cond _ _ b=>b
 | c=>c
def WQ:List (Nat×Nat×Masks)->Nat->Option Nat->Masks
 | [],_,_=>⟨[],[],[]⟩
 | (f,k,m)::l,f',k'=>match f == f' && some k == k' with
  | true=>m
  | false=>WQ l f' k'
def Xu:List (Nat×Nat×List Nat)->Nat->Nat->Option (List Nat)
 | [],_,_=>none
 | (f,k,m)::l,f',k'=>match f == f' && k == k' with
  | true=>some m
  | false=>Xu l f' k'
abbrev au:AV:=.lst none true .full []
abbrev aH (l:List AV):List AV:=.any::l
abbrev aO (l:List AV):List AV:=.any::.any::l
abbrev aP (l:List AV):List AV:=.any::.any::.any::.any::l
abbrev aY (l:List AV):List AV:=.any::.any::.any::.any::.any::.any::.any::.any::l
abbrev bD (l:List AV):List AV:=aY (aY l)
abbrev bI (l:List AV):List AV:=bD (bD l)
abbrev br (l:List AV):List AV:=bI (bI l)
abbrev OM:=Option (AV×af)
abbrev KT:=Ex->St->OM
end Go.Ab
namespace Go.Ab
open Go.RowKit
structure G where
 wr:Nat->Nat->Prop
 box:Nat->Prop
 loc:Nat->Option Nat
 tloc:Nat->Nat->Option Nat
abbrev c8 (es:List AV):List AV:=es.flatMap AV.cells
def Bq (w:World) (g:G) (sh:Sh) (o:Own) (n:Nat) (a:Addr) (cap:Nat):Prop:=match o with
 | .no=>True
 | .full=>cap=n
 | .tok nm e=>g.tloc nm n=some a.block/\a.off=0/\∃ c:Array Value,w.heap[a.block]?=some (Obj.cells c e (0,0))/\c.size=cap * sh.size
inductive V (w:World) (g:G):AV->Value->Prop
 | any (x:Value):V w g .any x
 | int (k:IntKind) (n:Int):V w g (.int k n) (.int k n)
 | bool (b:Bool):V w g (.bool b) (.bool b)
 | str (s:ByteArray):V w g (.str s) (.string s)
 | nils (sh:Sh) (o:Own) (ho:o=.full\/o=.no):V w g (.lst sh true o []) (.slice none 0 0)
 | lst (sh:Sh) (o:Own) (es:List AV) (a:Addr) (cap:Nat) (us:Nat->Value) (hs:cap=0\/a.spot=none) (hc:es.length<=cap) (hm:cap<=maxLen)
   (hsh:∀ e∈es,cZ sh e=true/\pl e=true)
   (hcell:∀ j,j < (c8 es).length->w.cell? ⟨a.block,a.off+j,none⟩=some (us j)/\¬ g.wr a.block (a.off+j)/\¬ g.box a.block)
   (hv:∀ j,j < (c8 es).length->V w g ((c8 es).getD j .any) (us j))
   (ho:Bq w g sh o es.length a cap):V w g (.lst sh false o es) (.slice (some a) es.length cap)
 | arr (nm off n:Nat) (sh:Sh) (a:Addr) (cap:Nat) (hs:cap=0\/a.spot=none) (hc:n<=cap) (hm:cap<=maxLen) (hl:n=0\/g.loc nm=some a.block/\a=⟨a.block,off,none⟩/\∃ (c:Array Value) (e:TypeId),w.heap[a.block]?=some (Obj.cells c e (0,0))/\off+cap * sh.size<=c.size):V w g (.arr nm off n sh) (.slice (some a) n cap)
 | ptr (nm off b:Nat) (hl:g.loc nm=some b):V w g (.ptr nm off) (.pointer (some ⟨b,off,none⟩))
 | vptr (cs:List AV) (b off:Nat) (us:Nat->Value)
   (hcell:∀ j,j < cs.length->w.cell? ⟨b,off+j,none⟩=some (us j)/\¬ g.wr b (off+j))
   (hv:∀ j,j < cs.length->V w g (cs.getD j .any) (us j)):V w g (.vptr cs) (.pointer (some ⟨b,off,none⟩))
 | nilp:V w g .nilp (.pointer none)
 | nilf:V w g .nilf .nilFunc
 | nile:V w g .nile .nilIface
 | nilm:V w g .nilm (.map none)
 | agg (cs:List AV) (vs:Array Value) (hl:cs.length=vs.size) (hv:∀ j,j < cs.length->V w g (cs.getD j .any) (vs.getD j undef)):V w g (.agg cs) (.agg vs)
 | tup (cs:List AV) (vs:Array Value) (hl:cs.length=vs.size) (hv:∀ j,j < cs.length->V w g (cs.getD j .any) (vs.getD j undef)):V w g (.tup cs) (.tuple vs)
 | fn (f:Nat) (cs:List AV) (vs:Array Value) (hl:cs.length=vs.size) (hv:∀ j,j < cs.length->V w g (cs.getD j .any) (vs.getD j undef)):V w g (.fn f cs) (.func (.func f) #[] vs)
 | mref (nm b:Nat) (hl:g.loc nm=some b):V w g (.mref nm) (.map (some b))
 | vec (n:Nat) (sh:Sh) (cs:List AV) (a:Addr) (cap:Nat) (us:Nat->Value) (hs:cap=0\/a.spot=none) (hc:n<=cap) (hm:cap<=maxLen) (hn:cs.length=n * sh.size) (iv:∀ c∈cs,ff c=true)
   (hcell:∀ j,j < cs.length->w.cell? ⟨a.block,a.off+j,none⟩=some (us j)/\¬ g.wr a.block (a.off+j))
   (hv:∀ j,j < cs.length->V w g (cs.getD j .any) (us j)):V w g (.vec n sh cs) (.slice (some a) n cap)
structure Step (B:Nat) (w:World) (g:G) (w':World) (g':G):Prop where
 below:Below B w w'
 cell:∀ (b off:Nat) (u:Value),¬ g.wr b off->w.cell? ⟨b,off,none⟩=some u->w'.cell? ⟨b,off,none⟩=some u
 shape:∀ (b:Nat) (c:Array Value) (e:TypeId) (fr:Nat×Nat),w.heap[b]?=some (Obj.cells c e fr)->∃ c':Array Value,w'.heap[b]?=some (Obj.cells c' e fr)/\c'.size=c.size
 wr:∀ (b off:Nat),b < w.heap.size->¬ g.wr b off->¬ g'.wr b off
 wrB:∀ (b off:Nat),b < B->(g'.wr b off↔g.wr b off)
 box:∀ (b:Nat),b < w.heap.size->(g'.box b↔g.box b)
 loc:∀ nm b,g.loc nm=some b->g'.loc nm=some b
 tloc:∀ nm n b,g.tloc nm n=some b->g'.tloc nm n=some b
theorem Step.refl (B:Nat) (w:World) (g:G):Step B w g w g:=
 ⟨Below.refl _ _,fun _ _ _ _ h=>h,fun _ c _ _ h=>⟨c,h,rfl⟩,fun _ _ _ h=>h,fun _ _ _=>Iff.rfl,fun _ _=>Iff.rfl,fun _ _ h=>h,fun _ _ _ h=>h⟩
theorem tz {w:World} {b off:Nat} {u:Value} (h:w.cell? ⟨b,off,none⟩=some u):b < w.heap.size:=World.block_lt_of_cell? w ⟨b,off,none⟩ h
theorem Step.trans {B:Nat} {w w1 w2:World} {g g1 g2:G} (h:Step B w g w1 g1) (k:Step B w1 g1 w2 g2):Step B w g w2 g2 where
 below:=h.below.trans k.below
 cell b off u hm hc:=k.cell b off u (h.wr b off (tz hc) hm) (h.cell b off u hm hc)
 shape b c e fr hb:=by
  obtain ⟨c1,h1,e1⟩:=h.shape b c e fr hb;obtain ⟨c2,h2,e2⟩:=k.shape b c1 e fr h1;exact ⟨c2,h2,e2.trans e1⟩
 wr b off hb hm:=k.wr b off (qU hb h.below.size) (h.wr b off hb hm)
 wrB b off hb:=(k.wrB b off hb).trans (h.wrB b off hb)
 box b hb:=(k.box b (qU hb h.below.size)).trans (h.box b hb)
 loc nm b hl:=k.loc nm b (h.loc nm b hl)
 tloc nm n b hl:=k.tloc nm n b (h.tloc nm n b hl)
theorem Step.mono {B B':Nat} {w w':World} {g g':G} (h:Step B w g w' g') (hB:B'<=B):Step B' w g w' g':=
 ⟨h.below.mono hB,h.cell,h.shape,h.wr,fun b off hb=>h.wrB b off (by omega),h.box,h.loc,h.tloc⟩
theorem Bq.step {B:Nat} {w w':World} {g g':G} {sh:Sh} {o:Own} {n:Nat} {a:Addr} {cap:Nat} (h:Bq w g sh o n a cap) (s:Step B w g w' g'):Bq w' g' sh o n a cap:=by
 cases o with
 | no=>trivial
 | full=>exact h
 | tok nm e=>
  obtain ⟨h1,h2,c,hc,hs⟩:=h;obtain ⟨c',Dw,gy⟩:=s.shape _ _ _ _ hc;exact ⟨s.tloc _ _ _ h1,h2,c',Dw,gy.trans hs⟩
theorem V.step {B:Nat} {w w':World} {g g':G} {x:AV} {v:Value} (h:V w g x v) (s:Step B w g w' g'):V w' g' x v:=by
 induction h with
 | any x=>exact .any x
 | int k n=>exact .int k n
 | bool b=>exact .bool b
 | str x=>exact .str x
 | nils sh o ho=>exact .nils sh o ho
 | lst sh o es a cap us hs hc hm hsh hcell hv ho ih=>
  refine .lst sh o es a cap us hs hc hm hsh (fun j hj=>?_) ih (ho.step s);obtain ⟨h1,h2,h3⟩:=hcell j hj;exact ⟨s.cell _ _ _ h2 h1,s.wr _ _ (tz h1) h2,fun hb=>h3 ((s.box _ (tz h1)).1 hb)⟩
 | arr nm off n sh a cap hs hc hm hl=>exact .arr nm off n sh a cap hs hc hm (hl.imp id fun ⟨h1,h2,c,e,h3,h4⟩=>by
  obtain ⟨c',k1,k2⟩:=s.shape _ _ _ _ h3
  exact ⟨s.loc _ _ h1,h2,c',e,k1,by omega⟩)
 | ptr nm off b hl=>exact .ptr nm off b (s.loc _ _ hl)
 | vptr cs b off us hcell hv ih=>
  refine .vptr cs b off us (fun j hj=>?_) ih;obtain ⟨h1,h2⟩:=hcell j hj;exact ⟨s.cell _ _ _ h2 h1,s.wr _ _ (tz h1) h2⟩
 | nilp=>exact .nilp
 | nilf=>exact .nilf
 | nile=>exact .nile
 | nilm=>exact .nilm
 | agg cs vs hl hv ih=>exact .agg cs vs hl ih
 | tup cs vs hl hv ih=>exact .tup cs vs hl ih
 | fn f cs vs hl hv ih=>exact .fn f cs vs hl ih
 | mref nm b hl=>exact .mref nm b (s.loc _ _ hl)
 | vec n sh cs a cap us hs hc hm hn iv hcell hv ih=>
  refine .vec n sh cs a cap us hs hc hm hn iv (fun j hj=>?_) ih;obtain ⟨h1,h2⟩:=hcell j hj;exact ⟨s.cell _ _ _ h2 h1,s.wr _ _ (tz h1) h2⟩
def a8 (g:G) (m:af) (nm:Nat):Option Nat:=match m.get nm with
 | some (.obj _ _)=>g.loc nm
 | some (.tok n _)=>g.tloc nm n
 | some .resv=>none
 | some (.mp _ _)=>g.loc nm
 | none=>none
def Kg:KK->Value->Prop
 | .str,v=>∃ s:ByteArray,v=.string s/\s.size<=maxLen
 | .int k,v=>∃ n:Int,v=.int k n/\ER k n=true
 | .arr n k,v=>∃ vs:Array Value,v=.agg vs/\vs.size=n/\∀ x∈vs.toList,∃ i:Int,x=.int k i/\ER k i=true
structure MapR (w:World) (g:G) (kk:KK) (es':Array MapEntry) (clock:Nat) (es:List (AV×AV)):Prop where
 size:es'.size<=es.length
 room:es.length<=maxLen
 stamped:MapKept.Stamped es' clock
 keys:∀ x∈es'.toList,Kg kk x.key
 ok:∀ p∈es,jQ kk p.1=true
 to:∀ p∈es,∃ x∈es'.toList,flatV p.1=some x.key/\V w g p.2 x.val
 frm:∀ x∈es'.toList,∃ p∈es,flatV p.1=some x.key/\V w g p.2 x.val
theorem MapR.step {B:Nat} {w w':World} {g g':G} {kk:KK} {es':Array MapEntry} {clock:Nat} {es:List (AV×AV)} (M:MapR w g kk es' clock es) (s:Step B w g w' g'):MapR w' g' kk es' clock es where
 size:=M.size
 room:=M.room
 stamped:=M.stamped
 keys:=M.keys
 ok:=M.ok
 to p hp:=by obtain ⟨x,hx,h1,h2⟩:=M.to p hp;exact ⟨x,hx,h1,h2.step s⟩
 frm x hx:=by obtain ⟨p,hp,h1,h2⟩:=M.frm x hx;exact ⟨p,hp,h1,h2.step s⟩
class WInv where
 inv:World->Prop
structure MemR [WInv] (B:Nat) (w:World) (g:G) (m:af):Prop where
 obj:∀ nm bx cs,m.get nm=some (.obj bx cs)->∃ (b:Nat) (c:Array Value) (e:TypeId),g.loc nm=some b/\B<=b/\w.heap[b]?=some (Obj.cells c e (0,0))/\cs.length<=c.size /\
  (∀ j,j < cs.length->V w g (cs.getD j .any) (c.getD j undef))/\(∀ off,g.wr b off)/\(g.box b↔bx=true)
 tok:∀ nm n sz,m.get nm=some (.tok n sz)->∃ (b:Nat) (c:Array Value) (e:TypeId),g.tloc nm n=some b/\B<=b/\w.heap[b]?=some (Obj.cells c e (0,0))/\(∀ off,n * sz<=off->g.wr b off)/\(∀ n',n < n'->g.tloc nm n'=none)/\¬ g.box b
 resv:∀ nm,m.get nm=some .resv->g.loc nm=none/\∀ n,g.tloc nm n=none
 fresh:∀ nm,m.length<=nm->g.loc nm=none/\∀ n,g.tloc nm n=none
 inj:∀ nm nm' b,a8 g m nm=some b->a8 g m nm'=some b->nm=nm'
 wrLt:∀ b off,g.wr b off->b < w.heap.size
 inv:∀ w',Below B w w'->WInv.inv w'
 boxLt:∀ b,g.box b->b < w.heap.size
 mp:∀ nm kk es,m.get nm=some (.mp kk es)->∃ (b:Nat) (es':Array MapEntry) (clock:Nat),g.loc nm=some b/\B<=b/\w.heap[b]?=some (.map es' clock)/\MapR w g kk es' clock es
theorem MemR.invB [WInv] {B:Nat} {w w1:World} {g:G} {m:af} (h:MemR B w g m) (s:Below B w w1):∀ w',Below B w1 w'->WInv.inv w':=fun w' k=>h.inv w' (s.trans k)
theorem MemR.invS [WInv] {B:Nat} {w w1:World} {g g1:G} {m:af} (h:MemR B w g m) (s:Step B w g w1 g1):∀ w',Below B w1 w'->WInv.inv w':=h.invB s.below
def pQ (w:World) (g:G) (ts:List AV) (vs:Array Value):Prop:=ts.length=vs.size/\∀ t,V w g (ts.getD t .any) (vs.getD t undef)
theorem pQ.step {B:Nat} {w w':World} {g g':G} {ts:List AV} {vs:Array Value} (h:pQ w g ts vs) (s:Step B w g w' g'):pQ w' g' ts vs:=⟨h.1,fun t=>(h.2 t).step s⟩
end Go.Ab
namespace Go.Ab
open Go.RowKit
theorem Ha (w:World) (g:G) (v:Value):V w g (pq v) v:=by
 unfold pq
 split
 ·exact .int _ _
 ·exact .bool _
 ·exact .str _
 ·exact .nils _ _ (.inl rfl)
 ·exact .nilp
 ·exact .nilf
 ·exact .nile
 ·exact .nilm
 ·exact .any _
theorem Sr (w:World) (g:G) (v:Value):V w g (hG v) v:=by
 unfold hG
 split
 ·rename_i cs;refine .agg _ _ (by simp) fun j hj=>?_;have gH:j < cs.size:=by simpa using hj
  have:(cs.toList.map pq).getD j .any=pq (cs.getD j undef):=by
   simp[aT,Array.getD,gH]
  rw[this];exact Ha _ _ _
 ·exact Ha _ _ _
section
variable {P:Program} {w:World} {g:G}
theorem qog (op:BinOp) (k:IntKind) (a b:Int) {v:AV} (h:re op k a b=some v) (hs:op≠.shl/\op≠.shr) (t:Nat):∃ v',(binOp op t (.int k a) (.int k b)).run P w=.ok v' w/\V w g v v':=by
 cases op<;>simp[re] at h<;>first
  | (obtain ⟨hb,rfl⟩:=h;refine ⟨_,?_,.int _ _⟩;simp[binOp,Op.intArith,Op.intDiv,Op.intBits,Op.intCmp,hb];done)
  | (subst h;first | refine ⟨_,?_,.int _ _⟩ | refine ⟨_,?_,.bool _⟩)
 all_goals first
  | (simp[binOp,Op.intArith,Op.intDiv,Op.intBits,Op.intCmp];done)
  | exact absurd rfl hs.1 | exact absurd rfl hs.2 | skip
theorem BA (op:BinOp) (t:Nat) (x y:Operand) (a b:Value) (h:(match a,b with | .nilIface,.nilIface=>false | .agg _,.agg _=>false | _,_=>true)=true):(eqGuard op t x y a b).run P w=.ok () w:=by
 cases op<;>simp[eqGuard]<;>(split<;>simp_all)
theorem qoj (d t e:Nat) (p:Option Addr) (h:P.underlying t=some (.pointer e)):(Op.equalIn (d+1) t (.pointer p) (.pointer none)).run P w=.ok p.isNone w:=by
 cases p<;>simp[Op.equalIn,run_underlying h]
theorem OR (t e:Nat) (p:Option Addr) (h:P.underlying t=some (.pointer e)):(Op.equal t (.pointer p) (.pointer none)).run P w=.ok p.isNone w:=qoj 9999 t e p h
theorem qoh (d t:Nat) {a b:Array Nat} {c:Bool} (h:P.underlying t=some (.func a b c)):(Op.equalIn (d+1) t .nilFunc .nilFunc).run P w=.ok true w:=by
 simp[Op.equalIn,run_underlying h]
theorem qok (t:Nat) {a b:Array Nat} {c:Bool} (h:P.underlying t=some (.func a b c)):(Op.equal t .nilFunc .nilFunc).run P w=.ok true w:=qoh 9999 t h
theorem qoi (d t:Nat) {a b:Array Nat} {c:Bool} {f:Fn} {x:Array Value} {y:Array Value} (h:P.underlying t=some (.func a b c)):(Op.equalIn (d+1) t (.func f x y) .nilFunc).run P w=.ok false w:=by
 simp[Op.equalIn,run_underlying h]
theorem qol (t:Nat) {a b:Array Nat} {c:Bool} {f:Fn} {x:Array Value} {y:Array Value} (h:P.underlying t=some (.func a b c)):(Op.equal t (.func f x y) .nilFunc).run P w=.ok false w:=qoi 9999 t h
theorem Di {op:BinOp} {b:Bool} {v:AV} {t:Nat} {x y:Value} (h:HE op b=some v) (hr:(Op.equal t x y).run P w=.ok b w) (he:binOp .eql t x y=(do pure (.bool (<- Op.equal t x y)))) (hn:binOp .neq t x y=(do pure (.bool (!(<- Op.equal t x y))))):∃ v',(binOp op t x y).run P w=.ok v' w/\V w g v v':=by
 cases op<;>simp[HE] at h
 ·subst h;exact ⟨_,by rw[he];simp[hr],.bool _⟩
 ·subst h;exact ⟨_,by rw[hn];simp[hr],.bool _⟩
theorem qjk (op:BinOp) (t:Nat) (ox oy:Operand) {x y v:AV} {x' y':Value} (hx:V w g x x') (hy:V w g y y') (h:ag (BI P t) op x y=some v) :
  ∃ v',(do eqGuard op t ox oy x' y';binOp op t x' y':Sem Value).run P w=.ok v' w/\V w g v v':=by
 unfold ag at h
 split at h
 ·rename_i tk k a k' b;cases hx;cases hy;have hg:(eqGuard op t ox oy (.int k a) (.int k' b)).run P w=.ok () w:=BA _ _ _ _ _ _ rfl;simp only[Sem.run_bind,hg,Result.andThen_ok]
  split at h
  ·unfold s6 at h
   split at h
   ·cases h
   ·simp at h;subst h;refine ⟨_,?_,.int _ _⟩;simp[binOp,Op.shift, *]
  ·unfold s6 at h
   split at h
   ·cases h
   ·simp at h;subst h;refine ⟨_,?_,.int _ _⟩;simp[binOp,Op.shift, *]
  ·split at h
   ·rename_i hk;subst hk;exact qog op k a b h ⟨by assumption,by assumption⟩ t
   ·cases h
 ·rename_i tk a b;cases hx;cases hy;have hg:(eqGuard op t ox oy (.string a) (.string b)).run P w=.ok () w:=BA _ _ _ _ _ _ rfl;simp only[Sem.run_bind,hg,Result.andThen_ok]
  cases op<;>simp[Td] at h
  ·obtain ⟨hsz,rfl⟩:=h;refine ⟨_,?_,.str _⟩
   have:¬ (IntKind.i64.max < ((a.size:Int)+(b.size:Int))):=by
    have:IntKind.i64.max=9223372036854775807:=rfl;omega
   simp[binOp,Op.stringOp,this];omega
  ·subst h;exact ⟨_,by simp[binOp,Op.stringOp],.bool _⟩
  ·subst h;exact ⟨_,by simp[binOp,Op.stringOp],.bool _⟩
 ·rename_i a b jZ
  have ht:P.underlying t=some .bool:=by
   unfold BI at jZ;split at jZ<;>simp_all
  cases hx;cases hy;have hg:(eqGuard op t ox oy (.bool a) (.bool b)).run P w=.ok () w:=BA _ _ _ _ _ _ rfl;simp only[Sem.run_bind,hg,Result.andThen_ok]
  split at h
  ·simp at h;subst h;exact ⟨_,run_eql_bool w t a b ht,.bool _⟩
  ·simp at h;subst h;exact ⟨_,run_neq_bool w t a b ht,.bool _⟩
  ·cases h
 ·rename_i sh z o es sh' o' jZ
  obtain ⟨e,ht⟩:∃ e,P.underlying t=some (.slice e):=by
   unfold BI at jZ;split at jZ<;>simp_all
  cases hy;have hg:∀ v,(eqGuard op t ox oy v (.slice none 0 0)).run P w=.ok () w:=fun v=>BA _ _ _ _ _ _ (by cases v<;>rfl);simp only[Sem.run_bind,hg,Result.andThen_ok]
  split at h
  ·simp at h;subst h
   cases hx
   ·exact ⟨_,by simp[binOp,run_equal_slice_nil w t e _ _ _ ht],.bool _⟩
   ·exact ⟨_,by simp[binOp,run_equal_slice_nil w t e _ _ _ ht],.bool _⟩
  ·simp at h;subst h
   cases hx
   ·exact ⟨_,by simp[binOp,run_equal_slice_nil w t e _ _ _ ht],.bool _⟩
   ·exact ⟨_,by simp[binOp,run_equal_slice_nil w t e _ _ _ ht],.bool _⟩
  ·cases h
 ·rename_i x jZ
  obtain ⟨e,ht⟩:∃ e,P.underlying t=some (.pointer e):=by
   unfold BI at jZ;split at jZ<;>simp_all
  cases hy;have hg:∀ v,(eqGuard op t ox oy v (.pointer none)).run P w=.ok () w:=fun v=>BA _ _ _ _ _ _ (by cases v<;>rfl);simp only[Sem.run_bind,hg,Result.andThen_ok];obtain ⟨b,hb,h⟩:=bc.1 h;unfold VR at hb
  split at hb
  ·simp at hb;subst hb;cases hx;exact Di h (OR t e _ ht) rfl rfl
  ·simp at hb;subst hb;cases hx;exact Di h (OR t e _ ht) rfl rfl
  ·simp at hb;subst hb;cases hx;exact Di h (OR t e _ ht) rfl rfl
  ·cases hb
 ·rename_i x jZ
  obtain ⟨a1,a2,a3,ht⟩:∃ a b c,P.underlying t=some (.func a b c):=by
   unfold BI at jZ;split at jZ<;>simp_all
  cases hy;have hg:∀ v,(eqGuard op t ox oy v .nilFunc).run P w=.ok () w:=fun v=>BA _ _ _ _ _ _ (by cases v<;>rfl);simp only[Sem.run_bind,hg,Result.andThen_ok];obtain ⟨b,hb,h⟩:=bc.1 h;unfold VQ at hb
  split at hb
  ·simp at hb;subst hb;cases hx;exact Di h (qok t ht) rfl rfl
  ·simp at hb;subst hb;cases hx;exact Di h (qol t ht) rfl rfl
  ·cases hb
 ·cases h
theorem qpx (op:UnOp) {x v:AV} {x':Value} (hx:V w g x x') (h:jg op x=some v):∃ v',(Op.unary op x').run P w=.ok v' w/\V w g v v':=by
 unfold jg at h
 split at h
 ·simp at h;subst h;cases hx;exact ⟨_,rfl,.bool _⟩
 ·simp at h;subst h;cases hx;exact ⟨_,by simp[Op.unary,Op.intArith],.int _ _⟩
 ·cases h
theorem qnH {c a b v:AV} {c' a' b':Value} (hc:V w g c c') (ha:V w g a a') (hb:V w g b b') (h:Oz c a b=some v) :
  ∃ v',(do pure (if <- asBool c' then a' else b'):Sem Value).run P w=.ok v' w/\V w g v v':=by
 unfold Oz at h
 split at h
 ·rename_i t;simp at h;subst h;cases hc
  cases t
  ·exact ⟨b',by simp[asBool],by simpa using hb⟩
  ·exact ⟨a',by simp[asBool],by simpa using ha⟩
 ·cases h
theorem qkc {t v:AV} {t':Value} {i:Nat} (ht:V w g t t') (h:ba t i=some v):∃ v',(Instr.extract t' i).run P w=.ok v' w/\V w g v v':=by
 unfold ba at h
 split at h
 ·rename_i cs
  cases ht with
  | tup cs vs hl hv=>
   obtain ⟨hi,rfl⟩:=z8.1 h;have fK:i < vs.size:=by omega
   refine ⟨vs[i],by simp[Instr.extract,fK],?_⟩;have:=hv i hi;simpa [aT,hi,Array.getD,fK] using this
 ·cases h
theorem WS {mx:Bool} {x y v:AV} {x' y':Value} (hx:V w g x x') (hy:V w g y y') (h:sT mx x y=some v) :
  ∃ v',((if mx then Builtin.max_ else Builtin.min_) #[] 0 #[x',y']).run P w=.ok v' w/\V w g v v':=by
 unfold sT at h
 split at h
 ·rename_i k a k' b
  split at h
  ·rename_i hk;subst hk;simp at h;subst h;cases hx;cases hy
   cases mx
   ·exact ⟨_,by simp[Builtin.min_,Builtin.min2],.int _ _⟩
   ·exact ⟨_,by simp[Builtin.max_,Builtin.max2],.int _ _⟩
  ·cases h
 ·cases h
theorem Wi {st:Bool} {x v:AV} {x':Value} (hx:V w g x x') (h:aK st x=some v) (ts:Array TypeId) (t ty:Nat) (ht:ts[0]?=some t) (hd:if st then P.underlying t=some .string else ∃ e,P.underlying t=some (.slice e)) :
  ∃ v',(Builtin.len_ ts ty #[x']).run P w=.ok v' w/\V w g v v':=by
 unfold aK at h
 split at h
 ·simp at h;subst h;obtain ⟨e,hd⟩:∃ e,P.underlying t=some (.slice e):=by simpa using hd
  cases hx
  ·exact ⟨.int .i64 0,by simp[Builtin.len_,ht,run_underlying hd,goInt],.int _ _⟩
  ·exact ⟨.int .i64 _,by simp[Builtin.len_,ht,run_underlying hd,goInt],.int _ _⟩
 ·simp at h;subst h;obtain ⟨e,hd⟩:∃ e,P.underlying t=some (.slice e):=by simpa using hd
  cases hx;exact ⟨.int .i64 _,by simp[Builtin.len_,ht,run_underlying hd,goInt],.int _ _⟩
 ·simp at h;subst h;obtain ⟨e,hd⟩:∃ e,P.underlying t=some (.slice e):=by simpa using hd
  cases hx;exact ⟨.int .i64 _,by simp[Builtin.len_,ht,run_underlying hd,goInt],.int _ _⟩
 ·simp at h;subst h;have hd:P.underlying t=some .string:=by simpa using hd
  cases hx;exact ⟨.int .i64 _,by simp[Builtin.len_,ht,run_underlying hd,goInt],.int _ _⟩
 ·cases h
theorem qjU {k:IntKind} {x v:AV} {x':Value} (hx:V w g x x') (h:bm k x=some v) (src dst:Nat) (hd:P.underlying dst=some (.int k)) (hs:(P.underlying src).isSome) :
  ∃ v',(convert src dst x').run P w=.ok v' w/\V w g v v':=by
 unfold bm at h
 split at h
 ·simp at h;subst h;cases hx;obtain ⟨d,hsd⟩:=Option.isSome_iff_exists.1 hs;exact ⟨_,by simp[convert,run_underlying hd,run_underlying hsd,Conv.intToInt],.int _ _⟩
 ·cases h
theorem BC {t:Nat} {sh:Sh} (h:je P t=some sh):∃ i d,P.info? t=some i/\P.underlying t=some d/\i.size=sh.size /\
  ((sh=none/\∀ w:World,(isAgg t).run P w=.ok false w)\/(∃ n,sh=some n)/\∀ w:World,(isAgg t).run P w=.ok true w):=by
 unfold je at h
 split at h
 ·rename_i fs i hu hi;simp at h;subst h;exact ⟨i,_,hi,hu,rfl,.inr ⟨⟨_,rfl⟩,fun w=>by simp[isAgg,run_underlying hu]⟩⟩
 ·rename_i n e i hu hi;simp at h;subst h;exact ⟨i,_,hi,hu,rfl,.inr ⟨⟨_,rfl⟩,fun w=>by simp[isAgg,run_underlying hu]⟩⟩
 ·rename_i d i h1 h2 hu hi
  split at h
  ·simp at h;subst h;refine ⟨i,d,hi,hu,by simpa [Sh.size] using ‹i.size=1›,.inl ⟨rfl,fun w=>?_⟩⟩;cases d<;>simp[isAgg,run_underlying hu]<;>simp_all
  ·cases h
 ·cases h
theorem o9 {t:Nat} {i:TypeInfo} (hi:P.info? t=some i):(sizeOf t).run P w=.ok i.size w:=by simp[sizeOf,typeInfo,hi]
theorem L8 {t f off:Nat} {sh:Sh} (h:wu P t f=some (off,sh)):∃ fs fd,P.underlying t=some (.struct fs)/\fs[f]?=some fd/\je P fd.type=some sh/\fd.offset=off/\sh.size≠0:=by
 unfold wu at h
 split at h
 ·rename_i fs hu
  split at h
  ·rename_i fd AO
   split at h
   ·rename_i sh' hsh
    split at h
    ·cases h
    ·rename_i hne;simp at h;obtain ⟨rfl,rfl⟩:=h;exact ⟨fs,fd,hu,AO,hsh,rfl,hne⟩
   ·cases h
  ·cases h
 ·cases h
theorem LP {sh:Sh} {cs:List AV} {off:Nat} {v:AV} (f:Nat->Value) (hv:∀ j,j < cs.length->V w g (cs.getD j .any) (f j)) (h:ki sh cs off=some v) :
  (sh=none->off < cs.length/\V w g v (f off))/\(∀ n,sh=some n->off+n<=cs.length/\V w g v (.agg ((List.range n).map fun j=>f (off+j)).toArray)):=by
 unfold ki at h
 split at h
 ·refine ⟨fun _=>?_,fun n hn=>by cases hn⟩;obtain ⟨hi,rfl⟩:=z8.1 h;exact ⟨hi,by simpa [aT,hi] using hv off hi⟩
 ·rename_i n;refine ⟨fun hn=>by (cases hn),fun n' hn=>?_⟩;simp only[bG] at hn;subst hn
  split at h
  ·rename_i hle;simp at h;subst h;refine ⟨hle,.agg _ _ (by simp;omega) fun j hj=>?_⟩;have gH:j < n:=by simp at hj;omega
   have:=hv (off+j) (by omega);simpa [aT,gH,Array.getD,qo,rV] using this
  ·cases h
theorem qnv {sh:Sh} {t off:Nat} {cs:List AV} {vs:Array Value} {v:AV} (hsh:je P t=some sh) (hl:cs.length=vs.size) (hv:∀ j,j < cs.length->V w g (cs.getD j .any) (vs.getD j undef)) (h:ki sh cs off=some v) :
  ∃ v',(part t vs off).run P w=.ok v' w/\V w g v v':=by
 obtain ⟨i,d,hi,hd,hs,Mx⟩:=BC hsh;obtain ⟨h1,h2⟩:=LP _ hv h
 rcases Mx with ⟨rfl,ha⟩ | ⟨⟨n,rfl⟩,ha⟩
 ·obtain ⟨hlt,hV⟩:=h1 rfl;have Vh:off < vs.size:=by omega
  refine ⟨vs[off],by simp[part,ha,Vh],by simpa [Array.getD,Vh] using hV⟩
 ·obtain ⟨hlt,hV⟩:=h2 n rfl;refine ⟨_,?_,hV⟩;simp only[part,Sem.run_bind,ha,Result.andThen_ok,bq,o9 hi,Sem.run_pure];congr 2;simp only[Sh.size] at hs
  apply Array.ext
  ·simp;omega
  ·intro j hj gH;simp at hj gH;simp[Array.getD,show off+j < vs.size by omega]
theorem qkf {sh:Sh} {off:Nat} {x v:AV} {x':Value} (hx:V w g x x') (h:L7 off sh x=some v) (t f:Nat) (hf:wu P t f=some (off,sh)) :
  ∃ v',(Instr.field t x' f).run P w=.ok v' w/\V w g v v':=by
 obtain ⟨fs,fd,hu,AO,hsh,rfl,_⟩:=L8 hf;unfold L7 at h
 split at h
 ·rename_i cs
  cases hx with
  | agg cs vs hl hv=>
   obtain ⟨v',hr,hV⟩:=qnv hsh hl hv h;exact ⟨v',by simp[Instr.field,run_underlying hu,AO,asAgg,hr],hV⟩
 ·cases h
theorem mP (b off n:Nat):(⟨b,off,none⟩:Addr).add n=⟨b,off+n,none⟩:=by
 unfold Addr.add;split<;>simp_all
theorem qke {sh:Sh} {off:Nat} {x v:AV} {x':Value} (hx:V w g x x') (h:aS off x=some v) (t f:Nat) (hf:wu P t f=some (off,sh)) :
  ∃ v',(Instr.fieldAt t x' f).run P w=.ok v' w/\V w g v v':=by
 obtain ⟨fs,fd,hu,AO,hsh,rfl,hne⟩:=L8 hf;obtain ⟨i,d,hi,hd,hs,_⟩:=BC hsh;have hz:i.size≠0:=by omega
 unfold aS at h
 split at h
 ·rename_i cs
  split at h
  ·rename_i hlt;simp at h;subst h
   cases hx with
   | vptr cs b o us hcell hv=>
    refine ⟨.pointer (some ⟨b,o+fd.offset,none⟩),by simp[Instr.fieldAt,run_underlying hu,AO,Instr.sureAddr,fieldPlace,o9 hi,hz,mP],?_⟩
    refine .vptr _ _ _ (fun j=>us (fd.offset+j)) (fun j hj=>?_) (fun j hj=>?_)
    ·have:=hcell (fd.offset+j) (by simp at hj;omega);simpa [mo] using this
    ·have:=hv (fd.offset+j) (by simp at hj;omega);simpa [aT,rV] using this
  ·cases h
 ·rename_i nm o;simp at h;subst h
  cases hx with
  | ptr nm o b hl=>exact ⟨.pointer (some ⟨b,o+fd.offset,none⟩),by simp[Instr.fieldAt,run_underlying hu,AO,Instr.sureAddr,fieldPlace,o9 hi,hz,mP],.ptr _ _ _ hl⟩
 ·cases h
theorem I9 {t b off:Nat} {sh:Sh} (hsh:je P t=some sh) (f:Nat->Value) (hc:∀ j,j < sh.size->w.cell? ⟨b,off+j,none⟩=some (f j)) :
  (loadVar t ⟨b,off,none⟩).run P w=.ok (match sh with | none=>f 0 | some n=>.agg ((List.range n).map f).toArray) w:=by
 obtain ⟨i,d,hi,hd,hs,Mx⟩:=BC hsh
 rcases Mx with ⟨rfl,ha⟩ | ⟨⟨n,rfl⟩,ha⟩
 ·have:=hc 0 (by simp[Sh.size]);simp only[ke] at this;simp[loadVar,ha,this]
 ·have hl:=run_loadCells (P:=P) w ⟨b,off,none⟩ n f (fun j hj=>by rw[mP];exact hc j hj);simp only[Sh.size] at hs;simp only[loadVar,Sem.run_bind,ha,Result.andThen_ok,bq,o9 hi,hs,hl,Sem.run_pure]
theorem Ww [WInv] {B:Nat} {m:af} (hm:MemR B w g m) {sh:Sh} {x v:AV} {x':Value} (hx:V w g x x') (h:ai sh m x=some v) (t:Nat) (hsh:je P t=some sh) :
  ∃ v',(Instr.loadAt t x').run P w=.ok v' w/\V w g v v':=by
 unfold ai at h
 split at h
 ·rename_i cs
  cases hx with
  | vptr cs b o us hcell hv=>
   obtain ⟨h1,h2⟩:=LP us hv h
   cases sh with
   | none=>
    obtain ⟨hlt,hV⟩:=h1 rfl;exact ⟨_,by simp only[Instr.loadAt,Instr.sureAddr,Sem.run_bind,Sem.run_pure,Result.andThen_ok];exact I9 hsh us (fun j hj=>(hcell j (by simp only[Sh.size] at hj;omega)).1),hV⟩
   | some n=>
    obtain ⟨hlt,hV⟩:=h2 n rfl;exact ⟨_,by simp only[Instr.loadAt,Instr.sureAddr,Sem.run_bind,Sem.run_pure,Result.andThen_ok];exact I9 hsh us (fun j hj=>(hcell j (by simp only[Sh.size] at hj;omega)).1),by simpa using hV⟩
 ·rename_i nm o;obtain ⟨⟨bx,cs⟩,hZ,h⟩:=bc.1 h
  cases hx with
  | ptr nm o b hl=>
   have aU:m.get nm=some (.obj bx cs):=by
    unfold af.obj? at hZ
    split at hZ
    ·rename_i hh;simp at hZ;rw[hh,hZ.1,hZ.2]
    ·cases hZ
   obtain ⟨b',c,e,yz,hB,sy,hsz,hV,_⟩:=hm.obj nm bx cs aU;obtain rfl:b=b':=by simpa [hl] using yz
   have hcell:∀ j,j < cs.length->w.cell? ⟨b,j,none⟩=some (c.getD j undef):=fun j hj=>by
    rw[cell_of_row w b j c e (0,0) sy];simp[Array.getD,show j < c.size by omega]
   obtain ⟨h1,h2⟩:=LP _ hV h
   cases sh with
   | none=>
    obtain ⟨hlt,hV⟩:=h1 rfl;exact ⟨_,by simp only[Instr.loadAt,Instr.sureAddr,Sem.run_bind,Sem.run_pure,Result.andThen_ok];exact I9 hsh (fun j=>c.getD (o+j) undef) (fun j hj=>hcell _ (by simp only[Sh.size] at hj;omega)),hV⟩
   | some n=>
    obtain ⟨hlt,hV⟩:=h2 n rfl;exact ⟨_,by simp only[Instr.loadAt,Instr.sureAddr,Sem.run_bind,Sem.run_pure,Result.andThen_ok];exact I9 hsh (fun j=>c.getD (o+j) undef) (fun j hj=>hcell _ (by simp only[Sh.size] at hj;omega)),hV⟩
 ·cases h
theorem sZ {sh:Sh} {e:AV} (h:cZ sh e=true):e.cells.length=sh.size:=by
 cases sh with
 | none=>cases e<;>simp_all [cZ,ff,AV.cells,Sh.size]
 | some n=>cases e<;>simp_all [cZ,AV.cells,Sh.size]
theorem CR {x:AV} {v:Value} (h:V w g x v) (ha:ff x=true):v.oneCell'=true/\v.cells = #[v]:=by
 cases h<;>first | (simp[ff] at ha;done) | exact ⟨rfl,rfl⟩
theorem Hb {sh:Sh} {x:AV} {v:Value} (h:V w g x v) (hs:cZ sh x=true):v.cells.size=sh.size/\(∀ j,j < sh.size->V w g (x.cells.getD j .any) (v.cells.getD j undef))/\∀ u∈v.cells.toList,u.oneCell'=true:=by
 cases sh with
 | none=>
  have ha:ff x=true:=hs;obtain ⟨h1,h2⟩:=CR h ha
  have hx:x.cells=[x]:=by cases x<;>first | rfl | (simp[ff] at ha)
  rw[h2,hx]
  refine ⟨rfl,fun j hj=>?_,fun u hu=>?_⟩
  ·obtain rfl:j=0:=by simp only[Sh.size] at hj;omega
   simpa using h
  ·simp at hu;rw[hu];exact h1
 | some n=>
  cases h<;>first | (simp[cZ] at hs;done) | skip
  rename_i cs vs hl hv;simp[cZ] at hs;obtain ⟨hn,hall⟩:=hs;refine ⟨by simp[Value.cells,Sh.size];omega,fun j hj=>hv j (by simp only[Sh.size] at hj;omega),fun u hu=>?_⟩;obtain ⟨j,hj,rfl⟩:=Cx.1 hu;have gH:j < cs.length:=by simp[Value.cells] at hj;omega
  have:=hv j gH;simp[Value.cells] at hj;have hc:=hall cs[j] (bM gH);have:=CR this (by simpa [aT,gH] using hc);simpa [Value.cells,Array.getD,hj] using this.1
theorem si {sh:Sh}:∀ {es:List AV},(∀ e∈es,cZ sh e=true)->(c8 es).length=es.length * sh.size
 | [],_=>by simp
 | e::es,h=>by
  have h1:=sZ (h e (by simp));have h2:=si (es:=es) fun x hx=>h x (by simp[hx]);simp only[nZ,aI,h1,aJ,qq];rw[h2];omega
theorem Ub {sh:Sh}:∀ {es:List AV},(∀ e∈es,cZ sh e=true)->∀ (i j:Nat) (hi:i < es.length),j < sh.size->(c8 es).getD (i * sh.size+j) .any=(es[i].cells).getD j .any
 | [],_,_,_,hi,_=>by simp at hi
 | e::es,h,i,j,hi,hj=>by
  have h1:=sZ (h e (by simp))
  cases i with
  | zero=>simp[aT,qn,h1,hj]
  | succ i=>
   have ih:=Ub (es:=es) (fun x hx=>h x (by simp[hx])) i j (by simpa using hi) hj;have:(i+1) * sh.size+j=e.cells.length+(i * sh.size+j):=by rw[h1,qq];omega
   rw[this];simp only[nZ,List.getElem_cons_succ];rw[<- ih];simp only[aT,qn];rw[aj (by omega)];simp
theorem tD {e:Nat} {sh:Sh} (h:nw P e sh=true):∃ i z,P.info? e=some i/\i.size=sh.size/\0 < i.size/\i.zero=some z/\z.cells.size=i.size/\(sh=none->∀ cs,z≠.agg cs):=by
 unfold nw at h
 split at h
 ·rename_i i hi;simp at h;obtain ⟨⟨h1,h2⟩,h3⟩:=h
  split at h3
  ·rename_i z hz;simp at h3;refine ⟨i,z,hi,h1,h2,hz,h3.1,?_⟩;rintro rfl cs rfl;simp at h3
  ·simp at h3
 ·cases h
theorem WZ {i n s j:Nat} (hi:i < n) (hj:j < s):i * s+j < n * s:=by
 have:(i+1) * s<=n * s:=iO _ hi;rw[qq] at this;omega
theorem ql7 {e:Nat} {sh:Sh} {x i v:AV} {x' i':Value} (hx:V w g x x') (hi:V w g i i') (h:aG sh x i=some v) (t:Nat) (ht:P.underlying t=some (.slice e)) (he:nw P e sh=true) :
  ∃ v',(Instr.indexAt t x' i').run P w=.ok v' w/\V w g v v':=by
 obtain ⟨inf,z,sC,hs,iU,_,_,_⟩:=tD he;unfold aG at h
 split at h
 ·rename_i k i;cases hi
  split at h
  ·rename_i sh' z o es
   split at h
   ·rename_i hsh;subst hsh
    split at h
    ·rename_i h0;obtain ⟨el,lC,rfl⟩:=gG.1 h;obtain ⟨hlt,lC⟩:=z8.1 lC
     cases hx with
     | nils=>simp at hlt
     | lst _ o es a cap us hsp hc hm hsh hcell hv ho=>
      have hall:∀ e∈es,cZ sh' e=true:=fun e he=>(hsh e he).1;have cq:i < (es.length:Int):=by omega
      have hfl:=si hall;have hsp:a.spot=none:=hsp.resolve_left (by omega);have ha:a=⟨a.block,a.off,none⟩:=by cases a;simp_all
      refine ⟨.pointer (some ⟨a.block,a.off+i.toNat * sh'.size,none⟩),?_,?_⟩
      ·rw[ha];simp[Instr.indexAt,asIntOf,run_underlying ht,h0,cq,o9 sC,mP,hs]
      ·have hcl:el.cells.length=sh'.size:=sZ (hall el (lC▸bM hlt))
       refine .vptr _ _ _ (fun j=>us (i.toNat * sh'.size+j)) (fun j hj=>?_) (fun j hj=>?_)
       ·have:=hcell (i.toNat * sh'.size+j) (by rw[hfl];exact WZ hlt (by omega));rw[mo];exact ⟨this.1,this.2.1⟩
       ·have h1:=hv (i.toNat * sh'.size+j) (by rw[hfl];exact WZ hlt (by omega));rw[Ub hall i.toNat j hlt (by omega),lC] at h1;exact h1
    ·cases h
   ·cases h
  ·rename_i nm off n sh'
   split at h
   ·rename_i hsh;subst hsh
    split at h
    ·rename_i hb;simp at h;subst h
     cases hx with
     | arr _ _ _ _ a cap hsp hc hm hl=>
      obtain ⟨hl,ha,_⟩:=hl.resolve_left (by omega);refine ⟨.pointer (some ⟨a.block,off+i.toNat * sh'.size,none⟩),?_,.ptr _ _ _ hl⟩;rw[ha];simp[Instr.indexAt,asIntOf,run_underlying ht,hb.1,hb.2,o9 sC,mP,hs]
    ·cases h
   ·cases h
  ·rename_i n sh' cs
   split at h
   ·rename_i hsh;subst hsh
    split at h
    ·rename_i hb;simp only[bG] at h;subst h
     cases hx with
     | vec _ _ _ a cap us hsp hc hm hn iv hcell hv=>
      have ha:a=⟨a.block,a.off,none⟩:=by
       have:=hsp.resolve_left (by omega);cases a;simp_all
      have hle:i.toNat * sh'.size+sh'.size<=cs.length:=by
       rw[hn,<- qq];exact iO _ (by omega)
      have hlen:((cs.drop (i.toNat * sh'.size)).take sh'.size).length=sh'.size:=by simp;omega
      refine ⟨.pointer (some ⟨a.block,a.off+i.toNat * sh'.size,none⟩),?_,.vptr _ _ _ (fun j=>us (i.toNat * sh'.size+j)) (fun j hj=>?_) (fun j hj=>?_)⟩
      ·rw[ha];simp[Instr.indexAt,asIntOf,run_underlying ht,hb.1,hb.2,o9 sC,mP,hs]
      ·rw[hlen] at hj;have:=hcell (i.toNat * sh'.size+j) (by omega);rw[<- mo] at this;exact this
      ·rw[hlen] at hj;have:=hv (i.toNat * sh'.size+j) (by omega)
       have e1:((cs.drop (i.toNat * sh'.size)).take sh'.size).getD j .any=cs.getD (i.toNat * sh'.size+j) .any:=by
        simp[aT,qo,rV,hj]
       rw[e1];exact this
    ·cases h
   ·cases h
  ·cases h
 ·cases h
theorem qhk {e n:Nat} {sh:Sh} {x i v:AV} {x' i':Value} (hx:V w g x x') (hi:V w g i i') (h:Lx n sh x i=some v) (t:Nat) (ht:P.underlying t=some (.array n e)) (he:nw P e sh=true) :
  ∃ v',(Instr.indexAt t x' i').run P w=.ok v' w/\V w g v v':=by
 obtain ⟨inf,z,sC,hs,iU,_,_,_⟩:=tD he;unfold Lx at h
 split at h
 ·rename_i k i;cases hi
  split at h
  ·rename_i hb;unfold aS at h
   split at h
   ·rename_i cs
    split at h
    ·rename_i hlt;simp at h;subst h
     cases hx with
     | vptr cs b o us hcell hv=>
      refine ⟨.pointer (some ⟨b,o+i.toNat * sh.size,none⟩),by simp[Instr.indexAt,asIntOf,run_underlying ht,Instr.sureAddr,hb.1,hb.2,o9 sC,mP,hs],?_⟩
      refine .vptr _ _ _ (fun j=>us (i.toNat * sh.size+j)) (fun j hj=>?_) (fun j hj=>?_)
      ·have:=hcell (i.toNat * sh.size+j) (by simp at hj;omega);simpa [mo] using this
      ·have:=hv (i.toNat * sh.size+j) (by simp at hj;omega);simpa [aT,rV] using this
    ·cases h
   ·rename_i nm o;simp at h;subst h
    cases hx with
    | ptr nm o b hl=>exact ⟨.pointer (some ⟨b,o+i.toNat * sh.size,none⟩),by simp[Instr.indexAt,asIntOf,run_underlying ht,Instr.sureAddr,hb.1,hb.2,o9 sC,mP,hs],.ptr _ _ _ hl⟩
   ·cases h
  ·cases h
 ·cases h
theorem ql8 {x i v:AV} {x' i':Value} (hx:V w g x x') (hi:V w g i i') (h:sP x i=some v) (t:Nat) (ht:P.underlying t=some .string) :
  ∃ v',(Instr.index t x' i').run P w=.ok v' w/\V w g v v':=by
 unfold sP at h
 split at h
 ·rename_i s k i;cases hx;cases hi
  split at h
  ·rename_i h0;obtain ⟨b,hb,rfl⟩:=gG.1 h;exact ⟨_,by simp[Instr.index,asIntOf,run_underlying ht,h0,hb],.int _ _⟩
  ·cases h
 ·cases h
def qY (w:World) (g:G):Option AV->Option Value->Prop
 | none,none=>True
 | some x,some x'=>V w g x x'
 | _,_=>False
theorem C3 {y Y d r:Nat} {x:AV} {x':Value} (hx:V w g x x') (hY:y<=Y) (h:jj y (some x) d=some r) (code:BoundsCode) :
  (Instr.sliceBound x' Y code).run P w=.ok r w/\r<=y:=by
 unfold jj at h
 split at h
 ·rename_i heq;cases heq
 ·rename_i k i heq;simp at heq;subst heq;cases hx
  split at h
  ·rename_i hb;simp at h;subst h;have h2:i<=(Y:Int):=by omega
   exact ⟨by simp[Instr.sliceBound,asIntOf,hb.1,h2],by omega⟩
  ·cases h
 ·cases h
theorem Hi {isS:Bool} {len cap h l:Nat} {lo hi:Option AV} {lo' fK:Option Value} (gR:qY w g lo lo') (pE:qY w g hi fK) (hc:len<=cap)
  (h1:jj len hi len=some h) (h2:jj h lo 0=some l):(Instr.sliceBounds isS len cap lo' fK none).run P w=.ok (l,h,cap) w/\l<=h/\h<=len:=by
 have e1:(match fK with | some v=>Instr.sliceBound v cap (if isS then .sliceAcap else .sliceAlen) | none=>pure len:Sem Nat).run P w=.ok h w/\h<=len:=by
  cases hi with
  | none=>
   cases fK with
   | none=>simp[jj] at h1;subst h1;exact ⟨rfl,aR _⟩
   | some _=>exact pE.elim
  | some x=>
   cases fK with
   | none=>exact pE.elim
   | some x'=>exact C3 pE hc h1 _
 have e2:(match lo' with | some v=>Instr.sliceBound v h .sliceB | none=>pure 0:Sem Nat).run P w=.ok l w/\l<=h:=by
  cases lo with
  | none=>
   cases lo' with
   | none=>simp[jj] at h2;subst h2;exact ⟨rfl,mw _⟩
   | some _=>exact gR.elim
  | some x=>
   cases lo' with
   | none=>exact gR.elim
   | some x'=>exact C3 gR (aR _) h2 _
 refine ⟨?_,e2.2,e1.2⟩;have a1:=e1.1;have a2:=e2.1;cases fK<;>cases lo'<;>simp_all [Instr.sliceBounds]
theorem Tf {len cap mx h l:Nat} {lo hi:Option AV} {mv:AV} {lo' fK:Option Value} {mv':Value} (gR:qY w g lo lo') (pE:qY w g hi fK) (hmv:V w g mv mv') (hc:len<=cap)
  (h0:jj len (some mv) 0=some mx) (h1:jj mx hi 0=some h) (h2:jj h lo 0=some l) (qlT:hi.isSome):(Instr.sliceBounds true len cap lo' fK (some mv')).run P w=.ok (l,h,mx) w/\l<=h/\h<=mx/\mx<=len:=by
 obtain ⟨e0,e0'⟩:=C3 (P:=P) hmv hc h0 .slice3Acap
 cases hi with
 | none=>simp at qlT
 | some x=>
  cases fK with
  | none=>exact pE.elim
  | some x'=>
   obtain ⟨e1,e1'⟩:=C3 (P:=P) pE (aR _) h1 .slice3B
   cases lo with
   | none=>
    cases lo' with
    | none=>
     simp[jj] at h2;subst h2;exact ⟨by simp[Instr.sliceBounds,e0,e1],mw _,e1',e0'⟩
    | some _=>exact gR.elim
   | some y=>
    cases lo' with
    | none=>exact gR.elim
    | some y'=>
     obtain ⟨e2,e2'⟩:=C3 (P:=P) gR (aR _) h2 .slice3C;exact ⟨by simp[Instr.sliceBounds,e0,e1,e2],e2',e1',e0'⟩
theorem Md {sh:Sh}:∀ {es:List AV},(∀ e∈es,cZ sh e=true)->∀ l,c8 (es.drop l)=(c8 es).drop (l * sh.size)
 | [],_,l=>by simp
 | e::es,h,0=>by simp
 | e::es,h,l+1=>by
  have h1:=sZ (h e (by simp));have ih:=Md (es:=es) (fun x hx=>h x (by simp[hx])) l;have e1:List.drop ((l+1) * sh.size) e.cells=[]:=jA (by rw[h1,qq];omega);have e2:(l+1) * sh.size - e.cells.length=l * sh.size:=by rw[h1,qq];omega
  show c8 (es.drop l)=(e.cells++c8 es).drop ((l+1) * sh.size);rw[ih,List.drop_append,e1,e2];simp
theorem Me {sh:Sh}:∀ {es:List AV},(∀ e∈es,cZ sh e=true)->∀ l,c8 (es.take l)=(c8 es).take (l * sh.size)
 | [],_,l=>by simp
 | e::es,h,0=>by simp
 | e::es,h,l+1=>by
  have h1:=sZ (h e (by simp));have ih:=Me (es:=es) (fun x hx=>h x (by simp[hx])) l;have e1:List.take ((l+1) * sh.size) e.cells=e.cells:=kY (by rw[h1,qq];omega);have e2:(l+1) * sh.size - e.cells.length=l * sh.size:=by rw[h1,qq];omega
  show e.cells++c8 (es.take l)=(e.cells++c8 es).take ((l+1) * sh.size);rw[ih,List.take_append,e1,e2]
theorem qgl {sh:Sh} {o o':Own} {es:List AV} {a:Addr} {cap l h m:Nat} (hx:V w g (.lst sh false o es) (.slice (some a) es.length cap)) (hl:l<=h) (hh:h<=es.length) (U7:h<=m) (hm:m<=cap)
  (ho:o'=.no\/o'=.full/\h=m):V w g (.lst sh false o' ((es.take h).drop l)) (.slice (some (if m=l then a else a.add (l * sh.size))) (h - l) (m - l)):=by
 generalize hn:es.length=n at hx
 cases hx with
 | lst _ o es a cap us hsp hc hm' hsh hcell hv DK=>
  have hall:∀ e∈es,cZ sh e=true:=fun e he=>(hsh e he).1;have hlen:((es.take h).drop l).length=h - l:=by simp;omega
  have ha:¬ m=l->a=⟨a.block,a.off,none⟩:=fun jv=>by
   have:=hsp.resolve_left (by omega);cases a;simp_all
  have gh:∀ e∈(es.take h).drop l,e∈es:=fun e he=>Gu (List.mem_of_mem_drop he);rw[<- hlen];have Vk:m - l<=maxLen:=by omega
  by_cases jv:m=l
  ·have h0:h=l:=by omega
   have vd:(es.take h).drop l=[]:=nY (by omega);rw[an jv,vd];refine .lst sh o' [] a _ us (.inl (by omega)) (mw _) Vk (by simp) (by simp) (by simp) ?_
   rcases ho with rfl | ⟨rfl,_⟩
   ·trivial
   ·show m - l=0;omega
  ·rw[aj jv];have ha:=ha jv
   refine .lst sh o' _ _ _ (fun j=>us (l * sh.size+j)) (.inr (by rw[ha,mP])) (by omega) Vk (fun e he=>hsh e (gh e he)) (fun j hj=>?_) (fun j hj=>?_) ?_
   ·rw[Md (fun e he=>hall e (Gu he)),Me hall] at hj
    have gH:l * sh.size+j < (c8 es).length:=by
     simp only[qS,ji] at hj;omega
    have:=hcell _ gH;rw[ha,mP];simpa [mo] using this
   ·rw[Md (fun e he=>hall e (Gu he)),Me hall] at hj ⊢
    have tL:l * sh.size+j < h * sh.size:=by
     simp only[qS,ji] at hj;omega
    have gH:l * sh.size+j < (c8 es).length:=by
     simp only[qS,ji] at hj;omega
    have:=hv _ gH;simpa [aT,rV,qo,tL] using this
   ·rcases ho with rfl | ⟨rfl,fO⟩
    ·trivial
    ·show m - l=_;rw[hlen,fO]
theorem qoC {e:Nat} {sh sh':Sh} {z:Bool} {o:Own} {es:List AV} {v:AV} {x':Value} {lo hi mx:Option AV} {lo' fK mx':Option Value} (hx:V w g (.lst sh' z o es) x') (gR:qY w g lo lo') (pE:qY w g hi fK) (hmx:qY w g mx mx')
  (h:qg (.lst sh' z o es) lo hi mx=some v) (t:Nat) (ht:P.underlying t=some (.slice e)) (hsh:je P e=some sh) (he:nw P e sh=true) (hs:sh'=sh\/es=[]) :
  ∃ v',(Instr.sliceAt t x' lo' fK mx').run P w=.ok v' w/\V w g v v':=by
 obtain ⟨inf,z0,sC,mY,iU,_,_,_⟩:=tD he
 have key:∀ (l hh m:Nat) (o':Own),(∀ len cap a,x'=.slice a len cap->(Instr.sliceBounds true len cap lo' fK mx').run P w=.ok (l,hh,m) w/\m<=cap)->l<=hh->hh<=es.length->hh<=m->(o'=.no\/o'=.full/\hh=m) ->
   ∃ v',(Instr.sliceAt t x' lo' fK mx').run P w=.ok v' w/\V w g (.lst sh' z o' ((es.take hh).drop l)) v':=by
  intro l hh m o' hb hl MK U7 ho
  cases hx with
  | nils _ o Vp=>
   obtain ⟨hb1,hb2⟩:=hb 0 0 none rfl;have h1:hh=0:=by simpa using MK
   have h2:l=0:=by omega
   have h3:m=0:=by omega
   subst h1;subst h2;subst h3
   refine ⟨.slice none 0 0,?_,?_⟩
   ·simp[Instr.sliceAt,run_underlying ht,Instr.slice,hb1,o9 sC]
   ·simp only[List.take_nil,List.drop_nil]
    exact .nils _ _ (by rcases ho with rfl | ⟨rfl,_⟩<;>simp)
  | lst _ o es a cap us hsp hc hm' Nr hcell hv DK=>
   obtain ⟨hb1,hb2⟩:=hb es.length cap (some a) rfl
   refine ⟨.slice (some (if m=l then a else a.add (l * sh'.size))) (hh - l) (m - l),?_,qgl (.lst sh' o es a cap us hsp hc hm' Nr hcell hv DK) hl MK U7 hb2 ho⟩
   simp only[Instr.sliceAt,Sem.run_bind,run_underlying ht,Result.andThen_ok,Instr.slice,hb1,o9 sC,Sem.run_pure]
   rcases hs with rfl | rfl
   ·by_cases jv:m=l<;>simp[jv,mY]
   ·have h1:hh=0:=by simpa using MK
    have h2:l=0:=by omega
    subst h2;by_cases jv:m=0<;>simp[jv]
 unfold qg at h;simp only at h
 cases mx with
 | none=>
  cases mx' with
  | some _=>exact hmx.elim
  | none=>
   simp only at h;obtain ⟨hh,h1,h⟩:=bc.1 h;obtain ⟨l,h2,h⟩:=bc.1 h;simp at h;subst h
   have hcap:∀ len cap a,x'=.slice a len cap->len=es.length/\len<=cap:=by
    rintro len cap a rfl;cases hx<;>simp_all
   cases hx with
   | nils _ o Vp=>
    obtain ⟨b1,b2,b3⟩:=Hi (P:=P) (isS:=true) gR pE (aR 0) h1 h2;exact key l hh 0 .no (by rintro len cap a h;cases h;exact ⟨b1,aR _⟩) b2 b3 b3 (.inl rfl)
   | lst _ o es a cap us hsp hc hm' Nr hcell hv DK=>
    obtain ⟨b1,b2,b3⟩:=Hi (P:=P) (isS:=true) gR pE hc h1 h2;exact key l hh cap .no (by rintro len cap a h;cases h;exact ⟨b1,aR _⟩) b2 b3 (by omega) (.inl rfl)
 | some mv=>
  cases mx' with
  | none=>exact hmx.elim
  | some mv'=>
   cases hi with
   | none=>simp at h
   | some sK=>
    simp only at h;obtain ⟨m,h0,h⟩:=bc.1 h;obtain ⟨hh,h1,h⟩:=bc.1 h;obtain ⟨l,h2,h⟩:=bc.1 h
    cases hx with
    | nils _ o Vp=>
     obtain ⟨b1,b2,b3,b4⟩:=Tf (P:=P) gR pE hmx (aR 0) h0 h1 h2 rfl
     split at h
     ·rename_i hm;simp at h;subst h;have:=key l hh m .full (by rintro len cap a h;cases h;exact ⟨b1,b4⟩) b2 (by simp at b4 ⊢;omega) b3 (.inr ⟨rfl,hm⟩);simpa using this
     ·simp at h;subst h;have:=key l hh m .no (by rintro len cap a h;cases h;exact ⟨b1,b4⟩) b2 (by simp at b4 ⊢;omega) b3 (.inl rfl);simpa using this
    | lst _ o es a cap us hsp hc hm' Nr hcell hv DK=>
     obtain ⟨b1,b2,b3,b4⟩:=Tf (P:=P) gR pE hmx hc h0 h1 h2 rfl
     split at h
     ·rename_i hm;simp at h;subst h;exact key l hh m .full (by rintro len cap a h;cases h;exact ⟨b1,by omega⟩) b2 (by omega) b3 (.inr ⟨rfl,hm⟩)
     ·simp at h;subst h;exact key l hh m .no (by rintro len cap a h;cases h;exact ⟨b1,by omega⟩) b2 (by omega) b3 (.inl rfl)
theorem qoB {e:Nat} {nm off n:Nat} {sh:Sh} {v:AV} {x':Value} {lo hi:Option AV} {lo' fK:Option Value} (hx:V w g (.arr nm off n sh) x') (gR:qY w g lo lo') (pE:qY w g hi fK)
  (h:qg (.arr nm off n sh) lo hi none=some v) (t:Nat) (ht:P.underlying t=some (.slice e)) (he:nw P e sh=true) :
  ∃ v',(Instr.sliceAt t x' lo' fK none).run P w=.ok v' w/\V w g v v':=by
 obtain ⟨inf,z0,sC,mY,iU,_,_,_⟩:=tD he;unfold qg at h;simp only at h;obtain ⟨hh,h1,h⟩:=bc.1 h;obtain ⟨l,h2,h⟩:=bc.1 h;simp at h;subst h
 cases hx with
 | arr _ _ _ _ a cap hsp hc hm hl=>
  obtain ⟨b1,b2,b3⟩:=Hi (P:=P) (isS:=true) gR pE hc h1 h2
  refine ⟨.slice (some (if cap=l then a else a.add (l * sh.size))) (hh - l) (cap - l),?_,.arr _ _ _ _ _ _ (by
    by_cases jv:cap=l
    ·exact .inl (by omega)
    ·right;have hsp:=hsp.resolve_left (by omega);have ha:a=⟨a.block,a.off,none⟩:=by cases a;simp_all
     rw[aj jv,ha,mP]) (by omega) (by omega) ?_⟩
  ·simp only[Instr.sliceAt,Sem.run_bind,run_underlying ht,Result.andThen_ok,Instr.slice,b1,o9 sC,Sem.run_pure];by_cases jv:cap=l<;>simp[jv,mY]
  ·by_cases h0:hh - l=0
   ·exact .inl h0
   ·refine .inr ?_;obtain ⟨mW,ha,c,e,pW,hc2⟩:=hl.resolve_left (by omega);rw[aj (by omega),ha,mP];refine ⟨mW,rfl,c,e,pW,?_⟩;have e1:l * sh.size+(cap - l) * sh.size=cap * sh.size:=by rw[<- gX];congr 1;omega
    omega
theorem qoD {s:ByteArray} {v:AV} {x':Value} {lo hi:Option AV} {lo' fK:Option Value} (hx:V w g (.str s) x') (gR:qY w g lo lo') (pE:qY w g hi fK)
  (h:qg (.str s) lo hi none=some v) (t:Nat) (ht:P.underlying t=some .string) :
  ∃ v',(Instr.sliceAt t x' lo' fK none).run P w=.ok v' w/\V w g v v':=by
 unfold qg at h;simp only at h;obtain ⟨hh,h1,h⟩:=bc.1 h;obtain ⟨l,h2,h⟩:=bc.1 h;simp at h;subst h;cases hx;obtain ⟨b1,b2,b3⟩:=Hi (P:=P) (isS:=false) gR pE (aR _) h1 h2;exact ⟨_,by simp[Instr.sliceAt,run_underlying ht,Instr.slice,b1],.str _⟩
end
end Go.Ab
namespace Go.Ab
open Go.RowKit
theorem Ml (m:af) (e:Option Ent) (nm:Nat):af.get (m++[e]) nm=if nm < m.length then m.get nm else if nm=m.length then e else none:=by
 unfold af.get
 by_cases h:nm < m.length
 ·simp[h,qn]
 ·by_cases h2:nm=m.length
  ·subst h2;simp
  ·rw[aj h,aj h2,mQ (by simp;omega)];rfl
theorem gC (m:af) (nm:Nat) (e:Option Ent) (n:Nat):af.get (m.set nm e) n=if n=nm then (if nm < m.length then e else none) else m.get n:=by
 unfold af.get
 by_cases h:n=nm
 ·subst h
  by_cases h2:n < m.length
  ·simp[h2]
  ·simp[h2]
 ·rw[List.getElem?_set,aj (by omega),aj h]
theorem bJ {m:af} {nm:Nat} {e:Ent} (h:m.get nm=some e):nm < m.length:=by
 unfold af.get at h
 rcases qV nm m.length with hl | hl
 ·exact hl
 ·rw[mQ hl] at h;cases h
theorem pR {g:G} {m:af} {nm b:Nat} (h:a8 g m nm=some b):(∃ bx cs,m.get nm=some (.obj bx cs)/\g.loc nm=some b)\/(∃ n sz,m.get nm=some (.tok n sz)/\g.tloc nm n=some b)\/∃ kk es,m.get nm=some (.mp kk es)/\g.loc nm=some b:=by
 unfold a8 at h
 split at h
 ·exact .inl ⟨_,_,by assumption,h⟩
 ·exact .inr (.inl ⟨_,_,by assumption,h⟩)
 ·cases h
 ·exact .inr (.inr ⟨_,_,by assumption,h⟩)
 ·cases h
section
variable [WInv] {B:Nat} {w:World} {g:G} {m:af}
theorem MemR.blk_lt (h:MemR B w g m) {nm b:Nat} (hb:a8 g m nm=some b):B<=b/\b < w.heap.size:=by
 rcases pR hb with ⟨bx,cs,h1,h2⟩ | ⟨n,sz,h1,h2⟩ | ⟨kk,es,h1,h2⟩
 ·obtain ⟨b',c,e,h3,h4,h5,_⟩:=h.obj nm bx cs h1;obtain rfl:b=b':=by simpa [h2] using h3
  exact ⟨h4,(fE.1 h5).1⟩
 rotate_left
 ·obtain ⟨b',es',cl,h3,h4,h5,_⟩:=h.mp nm kk es h1;obtain rfl:b=b':=by simpa [h2] using h3
  exact ⟨h4,(fE.1 h5).1⟩
 ·obtain ⟨b',c,e,h3,h4,h5,_⟩:=h.tok nm n sz h1;obtain rfl:b=b':=by simpa [h2] using h3
  exact ⟨h4,(fE.1 h5).1⟩
theorem MemR.keep (h:MemR B w g m) {w':World} {g':G} (s:Step B w g w' g') (sy:∀ b,B<=b->b < w.heap.size->w'.heap[b]?=w.heap[b]?)
  (rB:∀ b off,g.wr b off->g'.wr b off) (ju:g'.loc=g.loc) (gF:g'.tloc=g.tloc) (hlt:∀ b off,g'.wr b off->b < w'.heap.size) (hbx:∀ b,g'.box b->b < w'.heap.size):MemR B w' g' m where
 obj nm bx cs hn:=by
  obtain ⟨b,c,e,h1,h2,h3,h4,h5,h6,h7⟩:=h.obj nm bx cs hn;exact ⟨b,c,e,by rw[ju];exact h1,h2,(sy b h2 (fE.1 h3).1).trans h3,h4,fun j hj=>(h5 j hj).step s,fun off=>rB _ _ (h6 off),(s.box b (fE.1 h3).1).trans h7⟩
 tok nm n sz hn:=by
  obtain ⟨b,c,e,h1,h2,h3,h4,h5,h6⟩:=h.tok nm n sz hn;exact ⟨b,c,e,by rw[gF];exact h1,h2,(sy b h2 (fE.1 h3).1).trans h3,fun off ho=>rB _ _ (h4 off ho),fun n' hn'=>by rw[gF];exact h5 n' hn',fun hb=>h6 ((s.box b (fE.1 h3).1).1 hb)⟩
 resv nm hn:=by rw[ju,gF];exact h.resv nm hn
 fresh nm hn:=by rw[ju,gF];exact h.fresh nm hn
 inj nm nm' b h1 h2:=by
  have e:a8 g' m=a8 g m:=by funext x;unfold a8;rw[ju,gF]
  rw[e] at h1 h2;exact h.inj nm nm' b h1 h2
 wrLt:=hlt
 inv:=h.invS s
 boxLt:=hbx
 mp nm kk es hn:=by
  obtain ⟨b,es',cl,h1,h2,h3,h4⟩:=h.mp nm kk es hn;exact ⟨b,es',cl,by rw[ju];exact h1,h2,(sy b h2 (fE.1 h3).1).trans h3,h4.step s⟩
theorem Step.drew (B:Nat) (w:World) (g:G):Step B w g w.drew g:=
 ⟨(Below.refl _ _).drew,fun _ _ _ _ h=>h,fun _ c _ _ h=>⟨c,h,rfl⟩,fun _ _ _ h=>h,fun _ _ _=>Iff.rfl,fun _ _=>Iff.rfl,fun _ _ h=>h,fun _ _ _ h=>h⟩
theorem Step.alloc {B:Nat} {w:World} {g g':G} (hB:B<=w.heap.size) (o:Obj) (rB:∀ b off,b < w.heap.size->(g'.wr b off↔g.wr b off)) (sr:∀ b,b < w.heap.size->(g'.box b↔g.box b))
  (ju:∀ nm b,g.loc nm=some b->g'.loc nm=some b) (gF:∀ nm n b,g.tloc nm n=some b->g'.tloc nm n=some b):Step B w g (w.alloc o) g' where
 below:=(Below.refl _ _).alloc hB o
 cell b off u _ hc:=(World.cell?_alloc_lt w o _ (tz hc)).trans hc
 shape b c e fr hb:=⟨c,(Go.heap_alloc_old w o (fE.1 hb).1).trans hb,rfl⟩
 wr b off hb hn:=fun hw=>hn ((rB b off hb).1 hw)
 wrB b off hb:=rB b off (by omega)
 box b hb:=sr b hb
 loc:=ju
 tloc:=gF
theorem MemR.alloc_imm (h:MemR B w g m) (hB:B<=w.heap.size) (o:Obj):Step B w g (w.alloc o) g/\MemR B (w.alloc o) g m:=by
 have s:=Step.alloc (g:=g) hB o (fun _ _ _=>Iff.rfl) (fun _ _=>Iff.rfl) (fun _ _ h=>h) (fun _ _ _ h=>h);exact ⟨s,h.keep s (fun b _ hb=>Go.heap_alloc_old w o hb) (fun _ _ h=>h) rfl rfl (fun b off hw=>by have:=h.wrLt b off hw;simp;omega) (fun b hb=>by have:=h.boxLt b hb;simp;omega)⟩
def gJ (g:G) (nm b:Nat) (bx:Bool):G where
 wr b' off:=b'=b\/g.wr b' off
 box b':=(bx=true/\b'=b)\/g.box b'
 loc n:=if n=nm then some b else g.loc n
 tloc:=g.tloc
structure Slot (g:G) (m:af) (nm:Nat) (e:Ent) (m':af):Prop where
 get:∀ x,af.get m' x=if x=nm then some e else m.get x
 fresh:g.loc nm=none/\∀ n,g.tloc nm n=none
 len:∀ x,m'.length<=x->m.length<=x/\x≠nm
theorem MemR.slot (h:MemR B w g m) {d:Option Nat} (hd:∀ s,d=some s->m.get s=some .resv) (e:Ent):Slot g m (aA d m .resv).1 e (aA d m e).2:=by
 cases d with
 | none=>
  refine ⟨fun x=>?_,h.fresh _ (aR _),fun x hx=>?_⟩
  ·show af.get (m++[some e]) x=if x=m.length then some e else m.get x
   rw[Ml]
   by_cases h1:x=m.length
   ·rw[aj (by omega),an h1,an h1]
   ·rw[aj h1,aj h1]
    by_cases h2:x < m.length
    ·rw[an h2]
    ·rw[aj h2];unfold af.get;rw[mQ (by omega)];rfl
  ·simp only[aA,aI,tj] at hx ⊢;omega
 | some s=>
  have hs:=hd s rfl;have hlt:=bJ hs
  refine ⟨fun x=>?_,h.resv s hs,fun x hx=>?_⟩
  ·show af.get (m.set s (some e)) x=if x=s then some e else m.get x
   rw[gC,an hlt]
  ·simp only[aA,aZ] at hx ⊢;omega
theorem MemR.alloc_obj (h:MemR B w g m) (hB:B<=w.heap.size) (c:Array Value) (e:TypeId) (cs:List AV) (hl:cs.length<=c.size) (hv:∀ j,j < cs.length->V w g (cs.getD j .any) (c.getD j undef)) (bx:Bool) {nm:Nat} {m':af} (hs:Slot g m nm (.obj bx cs) m') :
  Step B w g (w.alloc (.cells c e)) (gJ g nm w.heap.size bx)/\MemR B (w.alloc (.cells c e)) (gJ g nm w.heap.size bx) m':=by
 have nB:=hs.fresh;have pB:=h.boxLt
 have s:Step B w g (w.alloc (.cells c e)) (gJ g nm w.heap.size bx):=by
  refine Step.alloc hB _ (fun b off hb=>?_) (fun b hb=>?_) (fun x b hb=>?_) (fun _ _ _ h=>h)
  ·simp only[gJ];constructor
   ·rintro (rfl | h)<;>first | omega | exact h
   ·exact .inr
  ·simp only[gJ];constructor
   ·rintro (⟨_,rfl⟩ | h)<;>first | omega | exact h
   ·exact .inr
  ·simp only[gJ]
   split
   ·rename_i he;rw[he,nB.1] at hb;cases hb
   ·exact hb
 have hblk:∀ x b,a8 (gJ g nm w.heap.size bx) m' x=some b->(x≠nm/\a8 g m x=some b)\/(x=nm/\b=w.heap.size):=by
  intro x b hb
  rcases pR hb with ⟨bx',cs',h1,h2⟩ | ⟨n,sz,h1,h2⟩ | ⟨kk,es,h1,h2⟩
  ·rw[hs.get] at h1
   split at h1
   ·rename_i he;simp only[gJ,an he] at h2;exact .inr ⟨he,by simpa using h2.symm⟩
   ·rename_i hne;simp only[gJ,aj hne] at h2;exact .inl ⟨hne,by simp[a8,h1,h2]⟩
  ·rw[hs.get] at h1
   split at h1
   ·simp at h1
   ·rename_i hne;simp only[gJ] at h2;exact .inl ⟨hne,by simp[a8,h1,h2]⟩
  ·rw[hs.get] at h1
   split at h1
   ·simp at h1
   ·rename_i hne;simp only[gJ,aj hne] at h2;exact .inl ⟨hne,by simp[a8,h1,h2]⟩
 refine ⟨s,?_,?_,?_,?_,?_,?_,?_,?_,?mp⟩
 case mp=>
  intro x kk es hn;rw[hs.get] at hn
  split at hn
  ·simp at hn
  ·obtain ⟨b,es',cl,h1,h2,h3,h4⟩:=h.mp x kk es hn;exact ⟨b,es',cl,s.loc _ _ h1,h2,(Go.heap_alloc_old w _ (fE.1 h3).1).trans h3,h4.step s⟩
 ·intro x bx' cs' hn;rw[hs.get] at hn
  split at hn
  ·rename_i he;simp only[bG,Ent.obj.injEq] at hn;obtain ⟨rfl,rfl⟩:=hn;refine ⟨w.heap.size,c,e,by simp[gJ,he],hB,heap_alloc_new w _,hl,fun j hj=>(hv j hj).step s,fun off=>.inl rfl,?_⟩;simp only[gJ]
   constructor
   ·rintro (⟨h,_⟩ | h)
    ·exact h
    ·exact absurd (pB _ h) (vT _)
   ·intro h;exact .inl ⟨h,trivial⟩
  ·obtain ⟨b,c',e',h1,h2,h3,h4,h5,h6,h7⟩:=h.obj x bx' cs' hn;exact ⟨b,c',e',s.loc _ _ h1,h2,(Go.heap_alloc_old w _ (fE.1 h3).1).trans h3,h4,fun j hj=>(h5 j hj).step s,fun off=>.inr (h6 off),(s.box b (fE.1 h3).1).trans h7⟩
 ·intro x n sz hn;rw[hs.get] at hn
  split at hn
  ·simp at hn
  ·obtain ⟨b,c',e',h1,h2,h3,h4,h5,h6⟩:=h.tok x n sz hn;exact ⟨b,c',e',h1,h2,(Go.heap_alloc_old w _ (fE.1 h3).1).trans h3,fun off ho=>.inr (h4 off ho),h5,fun hb=>h6 ((s.box b (fE.1 h3).1).1 hb)⟩
 ·intro x hn;rw[hs.get] at hn
  split at hn
  ·simp at hn
  ·rename_i hne;have:=h.resv x hn;exact ⟨by simp only[gJ];rw[aj hne];exact this.1,this.2⟩
 ·intro x hn;obtain ⟨h1,h2⟩:=hs.len x hn;have:=h.fresh x h1;exact ⟨by simp only[gJ];rw[aj h2];exact this.1,this.2⟩
 ·intro x x' b h1 h2
  rcases hblk _ _ h1 with ⟨a1,a2⟩ | ⟨a1,a2⟩<;>rcases hblk _ _ h2 with ⟨b1,b2⟩ | ⟨b1,b2⟩
  ·exact h.inj _ _ _ a2 b2
  ·have:=(h.blk_lt a2).2;omega
  ·have:=(h.blk_lt b2).2;omega
  ·omega
 ·rintro b off (rfl | hw)
  ·simp
  ·have:=h.wrLt b off hw;simp;omega
 ·exact h.invS s
 ·rintro b (⟨_,rfl⟩ | hw)
  ·simp
  ·have:=h.boxLt b hw;simp;omega
def iM (g:G) (nm b n sz:Nat):G where
 wr b' off:=(b'=b/\n * sz<=off)\/g.wr b' off
 box:=g.box
 loc:=g.loc
 tloc nm' n':=if nm'=nm/\n'=n then some b else g.tloc nm' n'
theorem MemR.alloc_tok (h:MemR B w g m) (hB:B<=w.heap.size) (c:Array Value) (e:TypeId) (n sz:Nat) {nm:Nat} {m':af} (hs:Slot g m nm (.tok n sz) m') :
  Step B w g (w.alloc (.cells c e)) (iM g nm w.heap.size n sz)/\MemR B (w.alloc (.cells c e)) (iM g nm w.heap.size n sz) m':=by
 have nB:=hs.fresh
 have s:Step B w g (w.alloc (.cells c e)) (iM g nm w.heap.size n sz):=by
  refine Step.alloc hB _ (fun b off hb=>?_) (fun b hb=>Iff.rfl) (fun x b hb=>hb) (fun x n' b hb=>?_)
  ·simp only[iM];constructor
   ·rintro (⟨rfl,_⟩ | h)<;>first | omega | exact h
   ·exact .inr
  ·simp only[iM]
   split
   ·rename_i he;rw[he.1,nB.2] at hb;cases hb
   ·exact hb
 have hblk:∀ x b,a8 (iM g nm w.heap.size n sz) m' x=some b->(x≠nm/\a8 g m x=some b)\/(x=nm/\b=w.heap.size):=by
  intro x b hb
  rcases pR hb with ⟨bx',cs',h1,h2⟩ | ⟨n',sz',h1,h2⟩ | ⟨kk,es,h1,h2⟩
  ·rw[hs.get] at h1
   split at h1
   ·simp at h1
   ·rename_i hne;simp only[iM] at h2;exact .inl ⟨hne,by simp[a8,h1,h2]⟩
  rotate_left
  ·rw[hs.get] at h1
   split at h1
   ·simp at h1
   ·rename_i hne;simp only[iM] at h2;exact .inl ⟨hne,by simp[a8,h1,h2]⟩
  ·rw[hs.get] at h1
   split at h1
   ·rename_i he;simp only[bG,Ent.tok.injEq] at h1;simp only[iM,an (show x=nm/\n'=n from ⟨he,h1.1.symm⟩)] at h2;exact .inr ⟨he,by simpa using h2.symm⟩
   ·rename_i hne;simp only[iM,aj (show ¬ (x=nm/\n'=n) from fun h=>hne h.1)] at h2;exact .inl ⟨hne,by simp[a8,h1,h2]⟩
 refine ⟨s,?_,?_,?_,?_,?_,?_,?_,?_,?mp⟩
 case mp=>
  intro x kk es hn;rw[hs.get] at hn
  split at hn
  ·simp at hn
  ·obtain ⟨b,es',cl,h1,h2,h3,h4⟩:=h.mp x kk es hn;exact ⟨b,es',cl,h1,h2,(Go.heap_alloc_old w _ (fE.1 h3).1).trans h3,h4.step s⟩
 ·intro x bx' cs' hn;rw[hs.get] at hn
  split at hn
  ·simp at hn
  ·obtain ⟨b,c',e',h1,h2,h3,h4,h5,h6,h7⟩:=h.obj x bx' cs' hn;exact ⟨b,c',e',h1,h2,(Go.heap_alloc_old w _ (fE.1 h3).1).trans h3,h4,fun j hj=>(h5 j hj).step s,fun off=>.inr (h6 off),(s.box b (fE.1 h3).1).trans h7⟩
 ·intro x n' sz' hn;rw[hs.get] at hn
  split at hn
  ·rename_i he;simp only[bG,Ent.tok.injEq] at hn;obtain ⟨rfl,rfl⟩:=hn;refine ⟨w.heap.size,c,e,by simp[iM,he],hB,heap_alloc_new w _,fun off ho=>.inl ⟨rfl,ho⟩,fun n'' wJ=>?_,fun hb=>vT _ (h.boxLt _ hb)⟩;simp only[iM];rw[aj (by omega),he];exact nB.2 n''
  ·rename_i hne;obtain ⟨b,c',e',h1,h2,h3,h4,h5,h6⟩:=h.tok x n' sz' hn;refine ⟨b,c',e',s.tloc _ _ _ h1,h2,(Go.heap_alloc_old w _ (fE.1 h3).1).trans h3,fun off ho=>.inr (h4 off ho),fun n'' wJ=>?_,fun hb=>h6 ((s.box b (fE.1 h3).1).1 hb)⟩;simp only[iM];rw[aj (fun h=>hne h.1)];exact h5 n'' wJ
 ·intro x hn;rw[hs.get] at hn
  split at hn
  ·simp at hn
  ·rename_i hne;have:=h.resv x hn;exact ⟨this.1,fun n'=>by simp only[iM];rw[aj (fun h=>hne h.1)];exact this.2 n'⟩
 ·intro x hn;obtain ⟨h1,h2⟩:=hs.len x hn;have:=h.fresh x h1;exact ⟨this.1,fun n'=>by simp only[iM];rw[aj (fun h=>h2 h.1)];exact this.2 n'⟩
 ·intro x x' b h1 h2
  rcases hblk _ _ h1 with ⟨a1,a2⟩ | ⟨a1,a2⟩<;>rcases hblk _ _ h2 with ⟨b1,b2⟩ | ⟨b1,b2⟩
  ·exact h.inj _ _ _ a2 b2
  ·have:=(h.blk_lt a2).2;omega
  ·have:=(h.blk_lt b2).2;omega
  ·omega
 ·rintro b off (⟨rfl,_⟩ | hw)
  ·simp
  ·have:=h.wrLt b off hw;simp;omega
 ·exact h.invS s
 ·intro b hw;have:=h.boxLt b hw;simp;omega
theorem sW {cs vs:List AV} {off:Nat} (h:off+vs.length<=cs.length):(bC cs off vs).length=cs.length:=by
 simp[bC];omega
theorem Bv {cs vs:List AV} {off:Nat} (h:off+vs.length<=cs.length) (j:Nat):(bC cs off vs).getD j .any=if off<=j/\j < off+vs.length then vs.getD (j - off) .any else cs.getD j .any:=by
 unfold bC;have hlen:(cs.take off).length=off:=by simp;omega
 simp only[aT,ga,qn,hlen,qo,rV]
 by_cases h1:j < off
 ·rw[an h1,an h1,aj (by omega)]
 ·rw[aj h1]
  by_cases h2:j - off < vs.length
  ·rw[an h2,an (by omega)]
  ·rw[aj h2,aj (by omega),show off+vs.length+(j - off - vs.length)=j by omega]
theorem Mg (off:Nat):∀ (vs:List Value) (i:Nat) (cs:Array Value),(off+i+vs.length<=cs.size) ->
  ((vs.zipIdx i).foldl (fun cs (c,j)=>cs.setIfInBounds (off+j) c) cs).size=cs.size /\
  ∀ k,((vs.zipIdx i).foldl (fun cs (c,j)=>cs.setIfInBounds (off+j) c) cs).getD k undef=if off+i<=k/\k < off+i+vs.length then vs.getD (k - (off+i)) undef else cs.getD k undef
 | [],i,cs,_=>by
  refine ⟨rfl,fun k=>?_⟩;simp only[List.zipIdx_nil,List.foldl_nil,aM];rw[aj (by omega)]
 | v::vs,i,cs,h=>by
  simp only[aJ] at h;obtain ⟨h1,h2⟩:=Mg off vs (i+1) (cs.setIfInBounds (off+i) v) (by simp;omega);simp only[List.zipIdx_cons,ux];refine ⟨by rw[h1];simp,fun k=>?_⟩;rw[h2];simp only[aJ]
  by_cases hk:off+(i+1)<=k/\k < off+(i+1)+vs.length
  ·rw[an hk,an (by omega),show k - (off+i)=(k - (off+(i+1)))+1 by omega]
   rfl
  ·rw[aj hk]
   by_cases kK:k=off+i
   ·subst kK;rw[an (by omega)];simp[Array.getD,show off+i < cs.size by omega]
   ·rw[aj (by omega)];simp only[jq];rw[E8,aj (by omega)]
theorem Ma {w:World} {g:G} (place:Nat->Option (Nat×Nat)):∀ (parts:List (Nat×Sh×AV)) (ps:List (Nat×Value)) (cs cs':List AV) (c:Array Value),
  parts.length=ps.length->(∀ k (h:k < parts.length) (h':k < ps.length),place ps[k].1=some (parts[k].1,(parts[k].2.1).size)/\V w g parts[k].2.2 ps[k].2) ->
  cs.length=c.size->(∀ j,j < cs.length->V w g (cs.getD j .any) (c.getD j undef))->Dj cs parts=some cs' ->
  ∃ c',Instr.fill place c ps=some c'/\cs'.length=c'.size/\cs'.length=cs.length/\∀ j,j < cs'.length->V w g (cs'.getD j .any) (c'.getD j undef)
 | [],ps,cs,cs',c,hl,_,hc,hv,h=>by
  obtain rfl:ps=[]:=nY (by simpa using hl.symm);simp[Dj] at h;subst h;exact ⟨c,rfl,hc,rfl,hv⟩
 | (off,sh,x)::parts,ps,cs,cs',c,hl,hp,hc,hv,h=>by
  match ps,hl with
  | (i,v)::ps,hl=>
  obtain ⟨hpl,hV⟩:=hp 0 (by simp) (by simp);simp only[List.getElem_cons_zero] at hpl hV;simp only[Dj] at h
  split at h
  ·rename_i hsh
   split at h
   ·rename_i hle;obtain ⟨ku,hvc,_⟩:=Hb hV hsh;have D2:=sZ hsh;obtain ⟨f1,f2⟩:=Mg off v.cells.toList 0 c (by simp;omega);simp only[ke,E9] at f2
    have hz:(v.cells.zipIdx.foldl (fun cs (c,j)=>cs.setIfInBounds (off+j) c) c)=(v.cells.toList.zipIdx.foldl (fun cs (c,j)=>cs.setIfInBounds (off+j) c) c):=by
     rw[<- Array.foldl_toList,Array.toList_zipIdx]
    have ih:=Ma place parts ps (bC cs off x.cells) cs' (v.cells.zipIdx.foldl (fun cs (c,j)=>cs.setIfInBounds (off+j) c) c) (by simpa using hl)
     (fun k h1 h2=>by have:=hp (k+1) (by simpa using h1) (by simpa using h2);simpa using this)
     (by rw[hz,f1,sW (by omega)];exact hc)
     (fun j hj=>by
      rw[sW (by omega)] at hj;rw[hz,f2,Bv (by omega)]
      by_cases hk:off<=j/\j < off+x.cells.length
      ·rw[an hk,an (by omega)];have:=hvc (j - off) (by omega);simpa [aT,jq] using this
      ·rw[aj hk,aj (by omega)];exact hv j hj) h
    obtain ⟨c',h1,h2,h3,h4⟩:=ih;refine ⟨c',?_,h2,by rw[h3,sW (by omega)],h4⟩;simp only[Instr.fill,hpl];rw[aj (by simp;omega)];exact h1
   ·cases h
  ·cases h
section
variable [WInv] {P:Program} {B:Nat} {w:World} {g:G} {m:af}
theorem E7 {t:Nat} {z:AV} (h:rM P t=some z):∃ i v,P.info? t=some i/\i.zero=some v/\z=hG v:=by
 unfold rM at h
 split at h
 ·rename_i i hi;obtain ⟨v,hv,rfl⟩:=gG.1 h;exact ⟨i,v,hi,hv,rfl⟩
 ·cases h
theorem Py (w:World) (g:G) (v:Value):(hG v).cells.length=v.cells.size/\∀ j,j < v.cells.size->V w g ((hG v).cells.getD j .any) (v.cells.getD j undef):=by
 have iv:∀ v:Value,(pq v).cells=[pq v]:=fun v=>by unfold pq;split<;>rfl
 by_cases ha:∃ cs,v=.agg cs
 ·obtain ⟨cs,rfl⟩:=ha;refine ⟨by simp[hG,AV.cells,Value.cells],fun j hj=>?_⟩;simp only[Value.cells] at hj
  have:(hG (.agg cs)).cells.getD j .any=pq (cs.getD j undef):=by
   simp[hG,AV.cells,aT,Array.getD,hj]
  rw[this];exact Ha _ _ _
 ·have h1:hG v=pq v:=by
   unfold hG
   split
   ·exact absurd ⟨_,rfl⟩ ha
   ·rfl
  have h2:v.cells = #[v]:=by
   unfold Value.cells
   split
   ·exact absurd ⟨_,rfl⟩ ha
   ·rfl
  rw[h1,iv,h2];refine ⟨rfl,fun j hj=>?_⟩;obtain rfl:j=0:=by simp at hj;omega
  exact Ha _ _ _
def nV (P:Program) (B:Nat) (w:World) (g:G) (s:Sem Value) (v:AV) (m':af):Prop:=
 ∃ v' w' g',s.run P w=.ok v' w'/\Step B w g w' g'/\MemR B w' g' m'/\V w' g' v v'
theorem nV.same (hm:MemR B w g m) {s:Sem Value} {v:AV} (h:∃ v',s.run P w=.ok v' w/\V w g v v'):nV P B w g s v m:=
 let ⟨v',h1,h2⟩:=h;⟨v',w,g,h1,.refl _ _ _,hm,h2⟩
theorem Sp (g:G) (nm b:Nat) (bx:Bool) (w':World):V w' (gJ g nm b bx) (.ptr nm 0) (.pointer (some ⟨b,0,none⟩)):=.ptr _ _ _ (by simp[gJ])
theorem qg8 (hm:MemR B w g m) (hB:B<=w.heap.size) {d:Option Nat} (hd:∀ s,d=some s->m.get s=some .resv) {t:Nat} {z:AV} (h:rM P t=some z):nV P B w g (Instr.alloc t true (.tuple #[])) (.ptr (aA d m .resv).1 0) (aA d m (.obj true z.cells)).2:=by
 obtain ⟨i,v,hi,hv,rfl⟩:=E7 h;obtain ⟨h1,h2⟩:=Py w g v;obtain ⟨s,hm'⟩:=hm.alloc_obj hB v.cells t (hG v).cells (by omega) (fun j hj=>h2 j (by omega)) true (hm.slot hd _);refine ⟨_,_,_,?_,s,hm',Sp _ _ _ _ _⟩;simp[Instr.alloc,zeroValue,typeInfo,hi,hv,newVar,newRow]
theorem qjp (hm:MemR B w g m) (hB:B<=w.heap.size) {d:Option Nat} (hd:∀ s,d=some s->m.get s=some .resv) {t:Nat} {sh:Sh} {x r:AV} {m':af} {x':Value} (hx:V w g x x') (h:eR d sh m x=some (r,m')):nV P B w g (Instr.box t x') r m':=by
 unfold eR at h
 split at h
 ·rename_i hs;simp at h;obtain ⟨rfl,rfl⟩:=h;obtain ⟨h1,h2,_⟩:=Hb hx hs;have hl:=sZ hs;obtain ⟨s,hm'⟩:=hm.alloc_obj hB x'.cells t x.cells (by omega) (fun j hj=>h2 j (by omega)) true (hm.slot hd _);refine ⟨_,_,_,?_,s,hm',Sp _ _ _ _ _⟩;simp[Instr.box,newVar,newRow]
 ·cases h
theorem qoM {b:Nat}:∀ (vs:List Value) (off i:Nat) (w:World) (c:Array Value) (e:TypeId),w.heap[b]?=some (Obj.cells c e (0,0))->off+i+vs.length<=c.size->(∀ v∈vs,v.oneCell'=true) ->
  ∃ w',(storeCells ⟨b,off,none⟩ vs i).run P w=.ok () w'/\w'=w.setRow b (c.toList.take (off+i)++vs++c.toList.drop (off+i+vs.length)).toArray:=
 fun vs off i w c e hb hl h1=>⟨_,run_storeCells_at P b off e vs i c w hb hl h1,rfl⟩
theorem MemR.write (hm:MemR B w g m) {nm b:Nat} {cs cs':List AV} {c c':Array Value} {e:TypeId} {bx:Bool} (hn:m.get nm=some (.obj bx cs)) (hl:g.loc nm=some b) (hb:w.heap[b]?=some (Obj.cells c e (0,0))) (hsz:c'.size=c.size) (hcl:cs'.length<=c'.size)
  (hv:∀ j,j < cs'.length->V w g (cs'.getD j .any) (c'.getD j undef)):Step B w g (w.setRow b c') g/\MemR B (w.setRow b c') g (m.set nm (some (.obj bx cs'))):=by
 obtain ⟨b',c0,e0,h1,h2,h3,h4,h5,h6,h7⟩:=hm.obj nm bx cs hn;obtain rfl:b=b':=by simpa [hl] using h1
 have l9:∀ k,k≠b->(w.setRow b c').heap[k]?=w.heap[k]?:=fun k hk=>setRow_other w b k c' hk;have A3:(w.setRow b c').heap[b]?=some (Obj.cells c' e (0,0)):=setRow_heap w b c c' e _ hb;have wR:(w.setRow b c').heap.size=w.heap.size:=by simp
 have s:Step B w g (w.setRow b c') g:=by
  refine ⟨⟨rfl,rfl,rfl,by omega,fun k hk=>l9 k (by omega)⟩,fun b' off u hw hc=>?_,fun b' c1 e1 fr iB=>?_,fun _ _ _ h=>h,fun _ _ _=>Iff.rfl,fun _ _=>Iff.rfl,fun _ _ h=>h,fun _ _ _ h=>h⟩
  ·have hne:b'≠b:=fun he=>hw (he▸h6 off);exact (World.cell?_of_block (w:=w) (a:=⟨b',off,none⟩) (l9 b' hne)).trans hc
  ·by_cases he:b'=b
   ·subst he;rw[hb] at iB;simp only[bG,Obj.cells.injEq] at iB;obtain ⟨rfl,rfl,rfl⟩:=iB;exact ⟨c',A3,hsz⟩
   ·exact ⟨c1,(l9 b' he).trans iB,rfl⟩
 have hlt:=bJ hn
 have hblk:∀ x b',a8 g (m.set nm (some (.obj bx cs'))) x=some b'->a8 g m x=some b':=by
  intro x b' hx
  rcases pR hx with ⟨bx1,cs1,a1,a2⟩ | ⟨n1,sz1,a1,a2⟩ | ⟨kk1,es1,a1,a2⟩
  rotate_left 2
  ·rw[gC] at a1
   split at a1
   ·simp at a1
   ·simp[a8,a1,a2]
  ·rw[gC] at a1
   split at a1
   ·rename_i he;subst he;simp[a8,hn,a2]
   ·simp[a8,a1,a2]
  ·rw[gC] at a1
   split at a1
   ·simp at a1
   ·simp[a8,a1,a2]
 have sq:a8 g m nm=some b:=by simp[a8,hn,hl]
 refine ⟨s,?_,?_,?_,?_,?_,?_,?_,?_,?mp⟩
 case mp=>
  intro x kk es hx;rw[gC] at hx
  split at hx
  ·simp at hx
  ·rename_i hne;obtain ⟨b1,es1,cl1,a1,a2,a3,a4⟩:=hm.mp x kk es hx;have lA:b1≠b:=fun he=>by rw[he,hb] at a3;cases a3
   exact ⟨b1,es1,cl1,a1,a2,(l9 b1 lA).trans a3,a4.step s⟩
 ·intro x bx1 cs1 hx;rw[gC] at hx
  split at hx
  ·rename_i he;subst he;simp at hx;obtain ⟨rfl,rfl⟩:=hx;exact ⟨b,c',e,hl,h2,A3,hcl,fun j hj=>(hv j hj).step s,h6,h7⟩
  ·rename_i hne;obtain ⟨b1,c1,e1,a1,a2,a3,a4,a5,a6⟩:=hm.obj x bx1 cs1 hx;have lA:b1≠b:=fun he=>hne (hm.inj x nm b (by simp[a8,hx,a1,he]) sq);exact ⟨b1,c1,e1,a1,a2,(l9 b1 lA).trans a3,a4,fun j hj=>(a5 j hj).step s,a6⟩
 ·intro x n1 sz1 hx;rw[gC] at hx
  split at hx
  ·simp at hx
  ·rename_i hne;obtain ⟨b1,c1,e1,a1,a2,a3,a4,a5,a6⟩:=hm.tok x n1 sz1 hx;have lA:b1≠b:=fun he=>hne (hm.inj x nm b (by simp[a8,hx,a1,he]) sq);exact ⟨b1,c1,e1,a1,a2,(l9 b1 lA).trans a3,a4,a5,a6⟩
 ·intro x hx;rw[gC] at hx
  split at hx
  ·simp at hx
  ·exact hm.resv x hx
 ·intro x hx;exact hm.fresh x (by simpa using hx)
 ·intro x x' b' h1 h2;exact hm.inj x x' b' (hblk x b' h1) (hblk x' b' h2)
 ·intro b' off hw;rw[wR];exact hm.wrLt b' off hw
 ·exact hm.invS s
 ·intro b' hw;rw[wR];exact hm.boxLt b' hw
theorem obj?_get {m:af} {nm:Nat} {bx:Bool} {cs:List AV} (h:m.obj? nm=some (bx,cs)):m.get nm=some (.obj bx cs):=by
 unfold af.obj? at h
 split at h
 ·rename_i hh;simp at h;rw[hh,h.1,h.2]
 ·cases h
theorem qoN (hm:MemR B w g m) {t:Nat} {sh:Sh} {x v:AV} {m':af} {x' v':Value} (hx:V w g x x') (hv:V w g v v') (hsh:je P t=some sh) (h:aN sh m x v=some m') :
  ∃ w',(Instr.storeAt t x' v').run P w=.ok () w'/\Step B w g w' g/\MemR B w' g m':=by
 unfold aN at h
 split at h
 ·rename_i nm off;obtain ⟨⟨bx,cs⟩,hZ,h⟩:=bc.1 h
  split at h
  ·rename_i hle;simp only at hle h
   split at h
   ·rename_i hs;simp at h;subst h;have hn:=obj?_get hZ;obtain ⟨b,c,e,h1,h2,h3,h4,h5,h6,h7⟩:=hm.obj nm bx cs hn
    cases hx with
    | ptr _ _ b' hl=>
     obtain rfl:b=b':=by simpa [hl] using h1.symm
     obtain ⟨k1,k2,k3⟩:=Hb hv hs;have kl:=sZ hs;obtain ⟨i,d,hi,hd,hsz,_⟩:=BC hsh;obtain ⟨w',hr,rfl⟩:=qoM (P:=P) v'.cells.toList off 0 w c e h3 (by simp;omega) k3
     have tR:(c.toList.take (off+0)++v'.cells.toList++c.toList.drop (off+0+v'.cells.toList.length)).toArray.size=c.size:=by
      simp;omega
     obtain ⟨s,hm'⟩:=hm.write (cs':=bC cs off v.cells) (c':=(c.toList.take (off+0)++v'.cells.toList++c.toList.drop (off+0+v'.cells.toList.length)).toArray) hn hl h3 tR (by rw[tR,sW (by omega)];omega)
      (fun j hj=>by
       rw[sW (by omega)] at hj;rw[Bv (by omega)];have lD:j < c.size:=by omega
       have hlen:(c.toList.take off).length=off:=by simp;omega
       simp only[jq,Ac,ke,ga,qn,hlen,qo,rV,E9]
       by_cases hk:off<=j/\j < off+v.cells.length
       ·rw[an hk,aj (by omega),an (by omega)];have:=k2 (j - off) (by omega);simpa [jq] using this
       ·rw[aj hk];have sL:=h5 j hj
        by_cases tL:j < off
        ·rw[an tL,an tL];simpa [jq] using sL
        ·rw[aj tL,aj (by omega),show off+v'.cells.size+(j - off - v'.cells.size)=j by omega]
         simpa [jq] using sL)
     refine ⟨_,?_,s,hm'⟩;have hne:¬ (v'.cells.size≠i.size):=by omega
     simp only[Instr.storeAt,Instr.sureAddr,storeVar,Sem.run_bind,Sem.run_pure,Result.andThen_ok,o9 hi,hne,lL];exact hr
   ·cases h
  ·cases h
 ·cases h
theorem WB (z:Array Value) (n k:Nat) (hz:0 < z.size) (hk:k < n):(madeCells z n).getD k undef=z.getD (k % z.size) undef:=by
 have hlt:k % z.size < z.size:=kf _ hz;simp[madeCells,Array.getD,hk,hlt]
theorem ZE {sh:Sh} {zv:Value} {n:Nat} (hz:zv.cells.size=sh.size) (hne:sh=none->(hG zv).cells=[hG zv]) (w:World) (g:G) :
  (rN sh (hG zv) n).length=n * sh.size/\∀ j,j < n * sh.size->V w g ((rN sh (hG zv) n).getD j .any) (zv.cells.getD (j % zv.cells.size) undef):=by
 obtain ⟨h1,h2⟩:=Py w g zv
 have key:∀ n,((List.replicate n (hG zv).cells).flatten).length=n * sh.size/\∀ j,j < n * sh.size->((List.replicate n (hG zv).cells).flatten).getD j .any=(hG zv).cells.getD (j % sh.size) .any:=by
  intro n
  induction n with
  | zero=>simp
  | succ n ih=>
   have hl:(hG zv).cells.length=sh.size:=by omega
   refine ⟨by simp only[xM,List.flatten_cons,aI,ih.1,hl,qq];omega,fun j hj=>?_⟩;simp only[xM,List.flatten_cons,aT,qn,hl]
   by_cases oR:j < sh.size
   ·rw[an oR,kZ oR]
   ·rw[aj oR,Nat.mod_eq_sub_mod (by omega)];rw[qq] at hj;simpa [aT] using ih.2 (j - sh.size) (by omega)
 have hz':rN sh (hG zv) n=(List.replicate n (hG zv).cells).flatten:=by
  cases sh with
  | none=>
   have:=hne rfl;simp only[rN];rw[this]
   induction n with
   | zero=>rfl
   | succ n ih=>simp only[xM,List.flatten_cons,<- ih];rfl
  | some k=>rfl
 rw[hz'];refine ⟨(key n).1,fun j hj=>?_⟩;rw[(key n).2 j hj,hz]
 have iU:0 < sh.size:=by
  rcases Nat.eq_zero_or_pos sh.size with h0 | h0
  ·rw[h0] at hj;simp at hj
  ·exact h0
 exact h2 _ (by rw[hz];exact kf _ iU)
theorem qmI (hm:MemR B w g m) (hB:B<=w.heap.size) {d:Option Nat} (hd:∀ s,d=some s->m.get s=some .resv) {t e:Nat} {sh:Sh} {z l c v:AV} {m':af} {l' c':Value} (ht:P.underlying t=some (.slice e)) (hsh:je P e=some sh) (he:nw P e sh=true) (hz:rM P e=some z)
  (hl:V w g l l') (hc:V w g c c') (h:iV d e sh z (pw P e) m l c=some (v,m')):nV P B w g (Instr.makeSlice t l' c') v m':=by
 obtain ⟨i,zv,hi,hs,iU,nb,sO,tO⟩:=tD he;obtain ⟨i2,zv2,hi2,Ny,rfl⟩:=E7 hz;obtain rfl:i=i2:=by simpa [hi] using hi2
 obtain rfl:zv=zv2:=by simpa [nb] using Ny
 have hb:i.bytes<=pw P e:=by simp[pw,hi];omega
 have hz2:zv.cells.size=sh.size:=by omega
 unfold iV at h
 split at h
 ·rename_i kl l kc c;cases hl;cases hc
  split at h
  ·rename_i mE;obtain ⟨h0,M4,su,sk⟩:=mE;have su:c * (i.bytes:Int)<=281474976710656:=Int.le_trans (Int.mul_le_mul_of_nonneg_left (by omega) (by omega)) su;have hr:=run_make (P:=P) w t e i zv ht hi nb kl kc l c h0 M4 (by rw[Int.mul_comm];exact su) sk
   split at h
   ·rename_i heq;subst heq;simp at h;obtain ⟨rfl,rfl⟩:=h
    have Ii:sh=none->(hG zv).cells=[hG zv]:=by
     intro hn
     have h1:hG zv=pq zv:=by
      unfold hG
      split
      ·exact absurd rfl (tO hn _)
      ·rfl
     rw[h1];unfold pq;split<;>rfl
    obtain ⟨z1,z2⟩:=ZE (sh:=sh) (n:=l.toNat) hz2 Ii w g
    obtain ⟨s,hm'⟩:=hm.alloc_obj hB (madeCells zv.cells (l.toNat * i.size)) e (rN sh (hG zv) l.toNat) (by rw[size_madeCells,z1,hs];exact aR _) (fun j hj=>by
     rw[z1] at hj;rw[WB _ _ _ (by omega) (by rw[hs];exact hj)]
     exact z2 j hj) false (hm.slot hd _)
    refine ⟨_,_,_,hr,s,hm',.arr _ _ _ _ _ _ (.inr rfl) (aR _) (by simp only[maxLen];omega) (.inr ⟨by simp[gJ],rfl,_,_,heap_alloc_new w _,by rw[size_madeCells,hs,bf];exact aR _⟩)⟩
   ·split at h
    ·rename_i vc;subst vc;simp at h;obtain ⟨rfl,rfl⟩:=h;obtain ⟨s,hm'⟩:=hm.alloc_tok hB (madeCells zv.cells (c.toNat * i.size)) e 0 sh.size (hm.slot hd _);refine ⟨_,_,_,hr,s,hm',.lst sh (.tok (aA d m .resv).1 e) [] ⟨w.heap.size,0,none⟩ _ (fun _=>undef) (.inr rfl) (mw _) (by simp only[maxLen];omega) (by simp) (by simp) (by simp) ?_⟩;exact ⟨by simp[iM],rfl,_,heap_alloc_new w _,by rw[size_madeCells,hs]⟩
    ·cases h
  ·cases h
 ·cases h
theorem WK {α β:Type} (f:α->Option β):∀ (l:List α) (r:List β),l.mapM f=some r->r.length=l.length/\∀ k (h:k < l.length) (h':k < r.length),f l[k]=some r[k]
 | [],r,h=>by simp at h;subst h;simp
 | a::l,r,h=>by
  simp only[List.mapM_cons,Option.bind_eq_bind,bc,Option.pure_def,bG] at h;obtain ⟨b,hb,bs,om,rfl⟩:=h;obtain ⟨h1,h2⟩:=WK f l bs om;refine ⟨by simp[h1],fun k hk bL=>?_⟩
  cases k with
  | zero=>simpa using hb
  | succ k=>simpa using h2 k (by simpa using hk) (by simpa using bL)
theorem Yy (w:World):∀ (l:List Field),(l.all fun f=>(P.info? f.type).isSome)=true->(l.mapM fun f=>do pure (f.offset,<- sizeOf f.type):Sem (List (Nat×Nat))).run P w=.ok (l.map fun f=>(f.offset,((P.info? f.type).map (·.size)).getD 0)) w
 | [],_=>by simp
 | f::l,h=>by
  simp only[nX,bT] at h;obtain ⟨i,hi⟩:=Option.isSome_iff_exists.1 h.1;have ih:=Yy w l h.2;simp only[List.mapM_cons,Sem.run_bind,o9 hi,Result.andThen_ok,Sem.run_pure,ih,fV,hi,aQ,fg]
theorem qns {t f:Nat} {fs:Array Field} (hu:P.underlying t=some (.struct fs)):y9 P t f=wu P t f:=by
 unfold y9;rw[hu]
theorem qjw (hm:MemR B w g m) {t:Nat} {z v:AV} {ps:Array (Nat×Operand)} {ρ:Operand->AV} {ρ':Operand->Value} (hρ:∀ x,V w g (ρ x) (ρ' x)) (gI:O6 P t=true) (hz:rM P t=some z)
  {l:List (Nat×Sh×AV)} (hl:ps.toList.mapM (fun p=>(y9 P t p.1).map fun f=>(f.1,f.2,ρ p.2))=some l) (h:fR z l=some v) :
  nV P B w g (Instr.build t (ps.map fun (i,x)=>(i,ρ' x))) v m:=by
 obtain ⟨i,zv,hi,nb,rfl⟩:=E7 hz;obtain ⟨h1,h2⟩:=Py w g zv;obtain ⟨l1,l2⟩:=WK _ _ _ hl;unfold O6 at gI
 split at gI
 ·rename_i fs hu;unfold fR at h
  split at h
  ·rename_i cs hZ;obtain ⟨cs',hf,rfl⟩:=gG.1 h;have wD:(hG zv).cells=cs:=by rw[hZ];rfl
   rw[wD] at h1 h2
   let place:Nat->Option (Nat×Nat):=(((fs.toList.map fun f=>(f.offset,((P.info? f.type).map (·.size)).getD 0)).toArray)[·]?)
   obtain ⟨c',r1,r2,r3,r4⟩:=Ma (w:=w) (g:=g) place l ((ps.map fun (i,x)=>(i,ρ' x)).toList) cs cs' zv.cells (by simp[l1])
    (fun k hk bL=>by
     have:=l2 k (by omega) hk;obtain ⟨⟨off,sh⟩,kJ,DG⟩:=gG.1 this;rw[qns hu] at kJ;obtain ⟨fs',fd,u1,u2,u3,u4,u5⟩:=L8 kJ;obtain rfl:fs=fs':=by simpa [hu] using u1
     obtain ⟨i',d,j1,j2,j3,_⟩:=BC u3;simp only[<- DG];refine ⟨?_,by simpa using hρ _⟩
     simp only[place,Ac,n0,Array.toList_map,ti,BX,u2,aQ,u4,j1,fg,j3])
    h1 (fun j hj=>h2 j (by omega)) hf
   refine nV.same hm ⟨.agg c',?_,.agg _ _ r2 r4⟩
   have hpl:(fs.mapM fun f=>do pure (f.offset,<- sizeOf f.type):Sem (Array (Nat×Nat))).run P w=.ok (fs.toList.map fun f=>(f.offset,((P.info? f.type).map (·.size)).getD 0)).toArray w:=by
    rw[Array.mapM_eq_mapM_toList];have:=Yy (P:=P) w fs.toList (by rw[<- gI];simp);simp only[Sem.run_map,this,Result.andThen_ok]
   simp only[Instr.build,Sem.run_bind,zeroValue,typeInfo,run_program,Result.andThen_ok,hi,Sem.run_pure,nb,run_underlying hu,hpl];rw[show Instr.fill (fun x=>(List.map (fun (f:Field)=>(f.offset,((P.info? f.type).map (·.size)).getD 0)) fs.toList).toArray[x]?) zv.cells (Array.map (fun x=>(x.fst,ρ' x.snd)) ps).toList=some c' from r1]
   rfl
  ·cases h
 ·rename_i n e hu;unfold fR at h
  split at h
  ·rename_i cs hZ;obtain ⟨cs',hf,rfl⟩:=gG.1 h;have wD:(hG zv).cells=cs:=by rw[hZ];rfl
   rw[wD] at h1 h2;obtain ⟨ie,HZ⟩:=Option.isSome_iff_exists.1 gI
   obtain ⟨c',r1,r2,r3,r4⟩:=Ma (w:=w) (g:=g) (fun i=>some (i * ie.size,ie.size)) l ((ps.map fun (i,x)=>(i,ρ' x)).toList) cs cs' zv.cells (by simp[l1])
    (fun k hk bL=>by
     have:=l2 k (by omega) hk;obtain ⟨⟨off,sh⟩,kJ,DG⟩:=gG.1 this;unfold y9 at kJ;rw[hu] at kJ;simp only at kJ
     split at kJ
     ·rename_i sh' hsh
      split at kJ
      ·cases kJ
      ·simp only[bG,fe] at kJ;obtain ⟨rfl,rfl⟩:=kJ;obtain ⟨i',d,j1,j2,j3,_⟩:=BC hsh;obtain rfl:ie=i':=by simpa [HZ] using j1
       simp only[<- DG];refine ⟨?_,by simpa using hρ _⟩;simp[j3]
     ·cases kJ)
    h1 (fun j hj=>h2 j (by omega)) hf
   refine nV.same hm ⟨.agg c',?_,.agg _ _ r2 r4⟩;simp only[Instr.build,Sem.run_bind,zeroValue,typeInfo,sizeOf,run_program,Result.andThen_ok,hi,Sem.run_pure,nb,run_underlying hu,HZ];rw[show Instr.fill (fun i=>some (i * ie.size,ie.size)) zv.cells (Array.map (fun x=>(x.fst,ρ' x.snd)) ps).toList=some c' from r1]
   rfl
  ·cases h
 ·cases gI
end
end
end Go.Ab
namespace Go.Ab
open Go.RowKit
section
variable [WInv] {P:Program} {B:Nat} {w:World} {g:G} {m:af}
theorem Sq {x:AV} {v:Value} (h:V w g x v):V w g (qi x) v:=by
 cases h with
 | lst sh o es a cap us hs hc hm hsh hcell hv ho=>
  cases o with
  | tok nm e=>exact .lst sh .no es a cap us hs hc hm hsh hcell hv trivial
  | no=>exact .lst sh .no es a cap us hs hc hm hsh hcell hv ho
  | full=>exact .lst sh .full es a cap us hs hc hm hsh hcell hv ho
 | nils sh o ho=>rcases ho with rfl | rfl<;>exact .nils sh _ (by simp)
 | any=>exact .any _
 | int=>exact .int _ _
 | bool=>exact .bool _
 | str=>exact .str _
 | arr _ _ _ _ _ _ a b c d=>exact .arr _ _ _ _ _ _ a b c d
 | ptr _ _ _ a=>exact .ptr _ _ _ a
 | vptr _ _ _ _ a b=>exact .vptr _ _ _ _ a b
 | nilp=>exact .nilp
 | nilf=>exact .nilf
 | nile=>exact .nile
 | nilm=>exact .nilm
 | agg _ _ a b=>exact .agg _ _ a b
 | tup _ _ a b=>exact .tup _ _ a b
 | fn _ _ _ a b=>exact .fn _ _ _ a b
 | mref _ _ a=>exact .mref _ _ a
 | vec _ _ _ _ _ _ a b c d e f h=>exact .vec _ _ _ _ _ _ a b c d e f h
theorem qgk {x:AV} {v:Value} (h:V w g x v):V w g (lO x) v:=by
 by_cases hx:∃ cs,x=.agg cs
 ·obtain ⟨cs,rfl⟩:=hx
  cases h with
  | agg cs vs hl hv=>
   refine .agg _ _ (by simp[hl]) fun j hj=>?_;have gH:j < cs.length:=by simpa using hj
   have:=Sq (hv j gH);have e:(cs.map qi).getD j .any=qi (cs.getD j .any):=by simp[aT,gH]
   rw[e];exact this
 ·have e:lO x=qi x:=by cases x<;>first | rfl | exact absurd ⟨_,rfl⟩ hx
  rw[e];exact Sq h
theorem Mc {sh:Sh}:∀ {es:List AV},(∀ e∈es,cZ sh e=true)->∀ x∈c8 es,ff x=true
 | [],_,x,hx=>by simp at hx
 | e::es,h,x,hx=>by
  simp only[nZ,im] at hx
  rcases hx with hx | hx
  ·have hs:=h e (by simp)
   cases sh with
   | none=>
    have ha:ff e=true:=hs
    have hc:e.cells=[e]:=by cases e<;>first | rfl | (simp[ff] at ha)
    rw[hc] at hx;simp at hx;rw[hx];exact ha
   | some n=>
    cases e<;>first | (simp[cZ] at hs;done) | skip
    simp[cZ] at hs;exact hs.2 x (by simpa [AV.cells] using hx)
  ·exact Mc (fun y hy=>h y (by simp[hy])) x hx
theorem CS {sh:Sh} {o:Own} {es:List AV} {a:Addr} {n cap:Nat} (h:V w g (.lst sh false o es) (.slice (some a) n cap)) :
  ∃ vs:List Value,n=es.length/\vs.length=es.length * sh.size/\(∀ j u,vs[j]?=some u->w.cell? (a.add j)=some u)/\(∀ u∈vs,u.oneCell'=true) /\
   (∀ j,j < vs.length->V w g ((c8 es).getD j .any) (vs.getD j undef))/\(cap=0\/a=⟨a.block,a.off,none⟩)/\n<=cap/\cap<=maxLen/\(∀ e∈es,cZ sh e=true/\pl e=true)/\Bq w g sh o es.length a cap /\
   (∀ j,j < vs.length->¬ g.wr a.block (a.off+j)/\¬ g.box a.block):=by
 cases h with
 | lst _ _ es a cap us hs hc hm hsh hcell hv ho=>
  have hall:∀ e∈es,cZ sh e=true:=fun e he=>(hsh e he).1;have hfl:=si hall;have ha:cap=0\/a=⟨a.block,a.off,none⟩:=hs.imp id fun h=>by cases a;simp_all
  refine ⟨(List.range (es.length * sh.size)).map us,rfl,by simp,fun j u hu=>?_,fun u hu=>?_,fun j hj=>?_,ha,hc,hm,hsh,ho,fun j hj=>?_⟩
  ·have hj:j < es.length * sh.size:=by
    rcases qV j (es.length * sh.size) with hl | hl
    ·exact hl
    ·rw[mQ (by simpa using hl)] at hu;cases hu
   simp[hj] at hu
   have ha:=ha.resolve_left (fun h0=>by
    have:es.length=0:=by omega
    rw[this,xN] at hj
    omega)
   rw[ha,mP,<- hu];exact (hcell j (by omega)).1
  ·obtain ⟨j,hj,rfl⟩:=iX.1 hu;have gH:j < (c8 es).length:=by rw[hfl];simpa using hj
   have h1:=hv j gH;have h2:=Mc hall (c8 es)[j] (bM gH);have:(c8 es).getD j .any=(c8 es)[j]:=by rw[aT,bA gH];rfl
   rw[this] at h1;exact (CR h1 h2).1
  ·have gH:j < es.length * sh.size:=by simpa using hj
   have:=hv j (by omega);simpa [aT,gH] using this
  ·have gH:j < es.length * sh.size:=by simpa using hj
   exact (hcell j (by omega)).2
theorem Hd {sh:Sh} {o:Own} {es:List AV} {b cap:Nat} {c:Array Value} {e:TypeId} (hb:w.heap[b]?=some (Obj.cells c e (0,0))) (hc:es.length<=cap) (hm:cap<=maxLen) (hsh:∀ e∈es,cZ sh e=true/\pl e=true)
  (hsz:es.length * sh.size<=c.size) (hv:∀ j,j < es.length * sh.size->V w g ((c8 es).getD j .any) (c.getD j undef)) (rB:∀ j,j < es.length * sh.size->¬ g.wr b j) (hbx:¬ g.box b) (ho:Bq w g sh o es.length ⟨b,0,none⟩ cap) :
  V w g (.lst sh false o es) (.slice (some ⟨b,0,none⟩) es.length cap):=by
 have hfl:=si (fun e he=>(hsh e he).1:∀ e∈es,cZ sh e=true);refine .lst sh o es ⟨b,0,none⟩ cap (fun j=>c.getD j undef) (.inr rfl) hc hm hsh (fun j hj=>?_) (fun j hj=>hv j (by omega)) ho;rw[hfl] at hj;refine ⟨?_,by simpa using rB j hj,hbx⟩;simp only[bf];rw[cell_of_row w b j c e (0,0) hb];simp[Array.getD,show j < c.size by omega]
theorem HG (xs ys:List AV):c8 (xs++ys)=c8 xs++c8 ys:=by simp[c8]
theorem MemR.regrow (hm:MemR B w g m) (hB:B<=w.heap.size) (c:Array Value) (e:TypeId) {nm k n sz:Nat} (hn:m.get nm=some (.tok k sz)) (hk:k < n) :
  Step B w g (w.alloc (.cells c e)) (iM g nm w.heap.size n sz)/\MemR B (w.alloc (.cells c e)) (iM g nm w.heap.size n sz) (m.set nm (some (.tok n sz))):=by
 obtain ⟨b0,c0,e0,t1,t2,t3,t4,t5,t6⟩:=hm.tok nm k sz hn;have hlt:=bJ hn
 have s:Step B w g (w.alloc (.cells c e)) (iM g nm w.heap.size n sz):=by
  refine Step.alloc hB _ (fun b off hb=>?_) (fun b hb=>Iff.rfl) (fun nm b hb=>hb) (fun nm' n' b hb=>?_)
  ·simp only[iM];constructor
   ·rintro (⟨rfl,_⟩ | h)<;>first | omega | exact h
   ·exact .inr
  ·simp only[iM]
   split
   ·rename_i he;rw[he.1,he.2,t5 n hk] at hb;cases hb
   ·exact hb
 have hblk:∀ x b,a8 (iM g nm w.heap.size n sz) (m.set nm (some (.tok n sz))) x=some b->(x≠nm/\a8 g m x=some b)\/(x=nm/\b=w.heap.size):=by
  intro x b hb
  rcases pR hb with ⟨bx',cs',h1,h2⟩ | ⟨n',sz',h1,h2⟩ | ⟨kk,es,h1,h2⟩
  ·rw[gC] at h1
   split at h1
   ·simp at h1
   ·rename_i hne;exact .inl ⟨hne,by simp only[iM] at h2;simp[a8,h1,h2]⟩
  rotate_left
  ·rw[gC] at h1
   split at h1
   ·simp at h1
   ·rename_i hne;exact .inl ⟨hne,by simp only[iM] at h2;simp[a8,h1,h2]⟩
  ·rw[gC] at h1
   split at h1
   ·rename_i he;simp at h1;simp only[iM,an (show x=nm/\n'=n from ⟨he,h1.1.symm⟩)] at h2;exact .inr ⟨he,by simpa using h2.symm⟩
   ·rename_i hne;simp only[iM,aj (show ¬ (x=nm/\n'=n) from fun h=>hne h.1)] at h2;exact .inl ⟨hne,by simp[a8,h1,h2]⟩
 refine ⟨s,?_,?_,?_,?_,?_,?_,?_,?_,?mp⟩
 case mp=>
  intro x kk es hx;rw[gC] at hx
  split at hx
  ·simp at hx
  ·obtain ⟨b,es',cl,h1,h2,h3,h4⟩:=hm.mp x kk es hx;exact ⟨b,es',cl,h1,h2,(Go.heap_alloc_old w _ (fE.1 h3).1).trans h3,h4.step s⟩
 ·intro x bx' cs' hx;rw[gC] at hx
  split at hx
  ·simp at hx
  ·obtain ⟨b,c',e',h1,h2,h3,h4,h5,h6,h7⟩:=hm.obj x bx' cs' hx;exact ⟨b,c',e',s.loc _ _ h1,h2,(Go.heap_alloc_old w _ (fE.1 h3).1).trans h3,h4,fun j hj=>(h5 j hj).step s,fun off=>.inr (h6 off),(s.box b (fE.1 h3).1).trans h7⟩
 ·intro x n' sz' hx;rw[gC] at hx
  split at hx
  ·rename_i he;simp at hx;obtain ⟨rfl,rfl⟩:=hx;subst he;refine ⟨w.heap.size,c,e,by simp[iM],hB,heap_alloc_new w _,fun off ho=>.inl ⟨rfl,ho⟩,fun n'' wJ=>?_,fun hb=>vT _ (hm.boxLt _ hb)⟩;simp only[iM];rw[aj (by omega)];exact t5 n'' (by omega)
  ·rename_i hne;obtain ⟨b,c',e',h1,h2,h3,h4,h5,h6⟩:=hm.tok x n' sz' hx;refine ⟨b,c',e',s.tloc _ _ _ h1,h2,(Go.heap_alloc_old w _ (fE.1 h3).1).trans h3,fun off ho=>.inr (h4 off ho),fun n'' wJ=>?_,h6⟩;simp only[iM];rw[aj (fun h=>hne h.1)];exact h5 n'' wJ
 ·intro x hx;rw[gC] at hx
  split at hx
  ·simp at hx
  ·rename_i hne;have:=hm.resv x hx;exact ⟨this.1,fun n'=>by simp only[iM];rw[aj (fun h=>hne h.1)];exact this.2 n'⟩
 ·intro x hx;have:=hm.fresh x (by simpa using hx);have rC:m.length<=x:=by simpa using hx
  exact ⟨this.1,fun n'=>by simp only[iM];rw[aj (fun h=>by have:=h.1;omega)];exact this.2 n'⟩
 ·intro x x' b h1 h2
  rcases hblk _ _ h1 with ⟨a1,a2⟩ | ⟨a1,a2⟩<;>rcases hblk _ _ h2 with ⟨b1,b2⟩ | ⟨b1,b2⟩
  ·exact hm.inj _ _ _ a2 b2
  ·have:=(hm.blk_lt a2).2;omega
  ·have:=(hm.blk_lt b2).2;omega
  ·omega
 ·rintro b off (⟨rfl,_⟩ | hw)
  ·simp
  ·have:=hm.wrLt b off hw;simp;omega
 ·exact hm.invS s
 ·intro b hw;have:=hm.boxLt b hw;simp;omega
theorem MemR.drew (hm:MemR B w g m):MemR B w.drew g m:=hm.keep (Step.drew B w g) (fun _ _ _=>rfl) (fun _ _ h=>h) rfl rfl hm.wrLt hm.boxLt
theorem Uu (hm:MemR B w g m) (hB:B<=w.heap.size) {d:Option Nat} (hd:∀ s,d=some s->m.get s=some .resv) {e:Nat} {sh:Sh} {es ys:List AV} {olds news:List Value} {rest:Array Value} {cap:Nat} (gR:olds.length=es.length * sh.size) (rA:news.length=ys.length * sh.size)
  (hes:∀ e∈es,cZ sh e=true/\pl e=true) (p6:∀ e∈ys,cZ sh e=true/\pl e=true)
  (tW:∀ j,j < olds.length->V w g ((c8 es).getD j .any) (olds.getD j undef)) (sM:∀ j,j < news.length->V w g ((c8 ys).getD j .any) (news.getD j undef)) (hcap:es.length+ys.length<=cap) (H4:cap<=maxLen)
  (qlJ:rest.size=(cap - (es.length+ys.length)) * sh.size) :
  (∃ g',Step B w g (w.drew.alloc (.cells (olds.toArray++news.toArray++rest) e)) g'/\MemR B (w.drew.alloc (.cells (olds.toArray++news.toArray++rest) e)) g' (aA d m (.tok (es.length+ys.length) sh.size)).2/\V (w.drew.alloc (.cells (olds.toArray++news.toArray++rest) e)) g' (.lst sh false (.tok (aA d m .resv).1 e) (es++ys)) (.slice (some ⟨w.heap.size,0,none⟩) (es.length+ys.length) cap)) /\
  (∃ g',Step B w g (w.drew.alloc (.cells (olds.toArray++news.toArray++rest) e)) g'/\MemR B (w.drew.alloc (.cells (olds.toArray++news.toArray++rest) e)) g' (aA d m (.obj false (c8 (es++ys)))).2/\V (w.drew.alloc (.cells (olds.toArray++news.toArray++rest) e)) g' (.arr (aA d m .resv).1 0 (es.length+ys.length) sh) (.slice (some ⟨w.heap.size,0,none⟩) (es.length+ys.length) cap)) /\
  (∀ nm k,m.get nm=some (.tok k sh.size)->k < es.length+ys.length->∃ g',Step B w g (w.drew.alloc (.cells (olds.toArray++news.toArray++rest) e)) g'/\MemR B (w.drew.alloc (.cells (olds.toArray++news.toArray++rest) e)) g' (m.set nm (some (.tok (es.length+ys.length) sh.size)))/\V (w.drew.alloc (.cells (olds.toArray++news.toArray++rest) e)) g' (.lst sh false (.tok nm e) (es++ys)) (.slice (some ⟨w.heap.size,0,none⟩) (es.length+ys.length) cap)):=by
 have lE:=hm.drew;have s1:=Step.drew B w g;have yn:B<=w.drew.heap.size:=hB;have yx:=si (fun e he=>(hes e he).1:∀ e∈es,cZ sh e=true);have UY:=si (fun e he=>(p6 e he).1:∀ e∈ys,cZ sh e=true);have hmul:(es.length+ys.length) * sh.size=es.length * sh.size+ys.length * sh.size:=gX _ _ _
 have hall:∀ e∈es++ys,cZ sh e=true/\pl e=true:=fun e he=>by
  rcases im.1 he with h | h
  ·exact hes e h
  ·exact p6 e h
 have hlen:(es++ys).length=es.length+ys.length:=by simp
 have hcell:∀ j,j < (es.length+ys.length) * sh.size->V w g ((c8 (es++ys)).getD j .any) ((olds.toArray++news.toArray++rest).getD j undef):=by
  intro j hj;rw[HG];simp only[aT,jq,qn,Array.getElem?_append,zD,List.size_toArray,Ac,yx,gR,rA]
  by_cases h1:j < es.length * sh.size
  ·rw[an h1,an (by omega),an h1];simpa [aT] using tW j (by omega)
  ·rw[aj h1,an (by omega),aj h1];simpa [aT] using sM (j - es.length * sh.size) (by omega)
 have hZ:(olds.toArray++news.toArray++rest).size=cap * sh.size:=by
  have:cap * sh.size=(es.length+ys.length) * sh.size+(cap - (es.length+ys.length)) * sh.size:=by
   rw[<- gX];congr 1;omega
  simp only[zD,List.size_toArray];omega
 have tP:(w.drew.alloc (.cells (olds.toArray++news.toArray++rest) e)).heap[w.heap.size]?=some (Obj.cells (olds.toArray++news.toArray++rest) e (0,0)):=heap_alloc_new w.drew _;have A4:(es.length+ys.length) * sh.size<=(olds.toArray++news.toArray++rest).size:=by rw[hZ];exact iO _ hcap
 have qlw:∀ off,¬ g.wr w.heap.size off:=fun off h=>by have:=hm.wrLt _ _ h;omega
 have qln:¬ g.box w.heap.size:=fun h=>by have:=hm.boxLt _ h;omega
 have tokV:∀ nm g',Step B w g (w.drew.alloc (.cells (olds.toArray++news.toArray++rest) e)) g'->g'=iM g nm w.heap.size (es.length+ys.length) sh.size ->
   V (w.drew.alloc (.cells (olds.toArray++news.toArray++rest) e)) g' (.lst sh false (.tok nm e) (es++ys)) (.slice (some ⟨w.heap.size,0,none⟩) (es.length+ys.length) cap):=by
  rintro nm g' gI rfl
  have:=Hd (o:=.tok nm e) (es:=es++ys) (cap:=cap) (g:=iM g nm w.heap.size (es.length+ys.length) sh.size) tP (by rw[hlen];exact hcap) H4 hall (by rw[hlen];exact A4) (fun j hj=>(hcell j (by rw[hlen] at hj;exact hj)).step gI)
   (fun j hj=>by
    rw[hlen] at hj
    rintro (⟨_,h⟩ | h)
    ·omega
    ·exact qlw _ h) qln ⟨by simp[iM],rfl,_,tP,hZ⟩
  rw[hlen] at this;exact this
 refine ⟨?_,?_,?_⟩
 ·obtain ⟨s2,fO⟩:=lE.alloc_tok yn (olds.toArray++news.toArray++rest) e (es.length+ys.length) sh.size (lE.slot hd _);exact ⟨_,s1.trans s2,fO,tokV _ _ (s1.trans s2) rfl⟩
 ·obtain ⟨s2,fO⟩:=lE.alloc_obj yn (olds.toArray++news.toArray++rest) e (c8 (es++ys)) (by rw[HG,aI,yx,UY,<- hmul];exact A4) (fun j hj=>by
   rw[HG,aI,yx,UY,<- hmul] at hj
   exact (hcell j hj).step s1) false (lE.slot hd _)
  exact ⟨_,s1.trans s2,fO,(.arr _ _ _ _ _ _ (.inr rfl) hcap H4 (.inr ⟨by simp[gJ],rfl,_,_,tP,by rw[hZ,bf];exact aR _⟩))⟩
 ·intro nm k hn hk;obtain ⟨s2,fO⟩:=lE.regrow yn (olds.toArray++news.toArray++rest) e (n:=es.length+ys.length) hn hk;exact ⟨_,s1.trans s2,fO,tokV _ _ (s1.trans s2) rfl⟩
theorem MemR.inplace (hm:MemR B w g m) {nm b k n:Nat} {sh:Sh} {c c':Array Value} {e:TypeId} (hn:m.get nm=some (.tok k sh.size)) (hl:g.tloc nm k=some b) (hb:w.heap[b]?=some (Obj.cells c e (0,0))) (hk:k < n) (hsz:c'.size=c.size)
  (No:∀ j,j < k * sh.size->c'[j]?=c[j]?) :
  ∃ g',Step B w g (w.setRow b c') g'/\MemR B (w.setRow b c') g' (m.set nm (some (.tok n sh.size)))/\g'.tloc nm n=some b/\(∀ off,off < n * sh.size->¬ g'.wr b off)/\¬ g'.box b:=by
 obtain ⟨b0,c0,e0,t1,t2,t3,t4,t5,t6⟩:=hm.tok nm k sh.size hn;obtain rfl:b=b0:=by simpa [hl] using t1
 have hlt:=bJ hn;have l9:∀ x,x≠b->(w.setRow b c').heap[x]?=w.heap[x]?:=fun x hx=>setRow_other w b x c' hx;have A3:(w.setRow b c').heap[b]?=some (Obj.cells c' e (0,0)):=setRow_heap w b c c' e _ hb;have wR:(w.setRow b c').heap.size=w.heap.size:=by simp
 let g':G:={ wr:=fun b' off=>g.wr b' off/\¬ (b'=b/\off < n * sh.size),box:=g.box,loc:=g.loc,tloc:=fun nm' n'=>if nm'=nm/\n'=n then some b else g.tloc nm' n' }
 have gF:∀ x n' b',g.tloc x n'=some b'->g'.tloc x n'=some b':=fun x n' b' hx=>by
  show (if x=nm/\n'=n then some b else g.tloc x n')=some b'
  split
  ·rename_i he;rw[he.1,he.2,t5 n hk] at hx;cases hx
  ·exact hx
 have s:Step B w g (w.setRow b c') g':=by
  refine ⟨⟨rfl,rfl,rfl,by omega,fun x hx=>l9 x (by omega)⟩,fun b' off u hw hc=>?_,fun b' c1 e1 fr iB=>?_,fun b' off _ hn hw=>hn hw.1,fun b' off iB=>?_,fun _ _=>Iff.rfl,fun _ _ h=>h,gF⟩
  ·by_cases he:b'=b
   ·subst he;have qlx:off < k * sh.size:=Nat.lt_of_not_le fun hle=>hw (t4 off hle);rw[cell_of_row w b' off c e (0,0) hb] at hc;rw[cell_of_row _ b' off c' e (0,0) A3,No off qlx];exact hc
   ·exact (World.cell?_of_block (w:=w) (a:=⟨b',off,none⟩) (l9 b' he)).trans hc
  ·by_cases he:b'=b
   ·subst he;rw[hb] at iB;simp only[bG,Obj.cells.injEq] at iB;obtain ⟨rfl,rfl,rfl⟩:=iB;exact ⟨c',A3,hsz⟩
   ·exact ⟨c1,(l9 b' he).trans iB,rfl⟩
  ·exact ⟨fun h=>h.1,fun h=>⟨h,fun h2=>by omega⟩⟩
 have sq:a8 g m nm=some b:=by simp[a8,hn,hl]
 have hblk:∀ x b',a8 g' (m.set nm (some (.tok n sh.size))) x=some b'->a8 g m x=some b':=by
  intro x b' hx
  rcases pR hx with ⟨bx',cs',h1,h2⟩ | ⟨n',sz',h1,h2⟩ | ⟨kk,es,h1,h2⟩
  ·rw[gC] at h1
   split at h1
   ·simp at h1
   ·have iz:g.loc x=some b':=h2;simp[a8,h1,iz]
  rotate_left
  ·rw[gC] at h1
   split at h1
   ·simp at h1
   ·have iz:g.loc x=some b':=h2;simp[a8,h1,iz]
  ·rw[gC] at h1
   split at h1
   ·rename_i he;simp at h1
    have iz:(if x=nm/\n'=n then some b else g.tloc x n')=some b':=h2
    rw[an ⟨he,h1.1.symm⟩] at iz;simp at iz;subst iz;subst he;exact sq
   ·rename_i hne
    have iz:(if x=nm/\n'=n then some b else g.tloc x n')=some b':=h2
    rw[aj (fun h=>hne h.1)] at iz;simp[a8,h1,iz]
 refine ⟨g',s,⟨?_,?_,?_,?_,?_,?_,?_,?_,?mp⟩,?_,?_,t6⟩
 case mp=>
  intro x kk es hx;rw[gC] at hx
  split at hx
  ·simp at hx
  ·obtain ⟨b1,es1,cl1,a1,a2,a3,a4⟩:=hm.mp x kk es hx;have lA:b1≠b:=fun he=>by rw[he,hb] at a3;cases a3
   exact ⟨b1,es1,cl1,a1,a2,(l9 b1 lA).trans a3,a4.step s⟩
 ·intro x bx' cs' hx;rw[gC] at hx
  split at hx
  ·simp at hx
  ·rename_i hne;obtain ⟨b1,c1,e1,a1,a2,a3,a4,a5,a6,a7⟩:=hm.obj x bx' cs' hx;have lA:b1≠b:=fun he=>hne (hm.inj x nm b (by simp[a8,hx,a1,he]) sq);exact ⟨b1,c1,e1,a1,a2,(l9 b1 lA).trans a3,a4,fun j hj=>(a5 j hj).step s,fun off=>⟨a6 off,fun h=>lA h.1⟩,a7⟩
 ·intro x n' sz' hx;rw[gC] at hx
  split at hx
  ·rename_i he;simp at hx;obtain ⟨rfl,rfl⟩:=hx;subst he
   refine ⟨b,c',e,?_,t2,A3,fun off ho=>⟨t4 off ?_,fun h=>by omega⟩,fun n'' wJ=>?_,t6⟩
   ·show (if x=x/\n=n then some b else _)=_;simp
   ·exact fA (iO _ (by omega)) ho
   ·show (if x=x/\n''=n then some b else g.tloc x n'')=none
    rw[aj (by omega)];exact t5 n'' (by omega)
  ·rename_i hne;obtain ⟨b1,c1,e1,a1,a2,a3,a4,a5,a6⟩:=hm.tok x n' sz' hx;have lA:b1≠b:=fun he=>hne (hm.inj x nm b (by simp[a8,hx,a1,he]) sq);refine ⟨b1,c1,e1,gF _ _ _ a1,a2,(l9 b1 lA).trans a3,fun off ho=>⟨a4 off ho,fun h=>lA h.1⟩,fun n'' wJ=>?_,a6⟩
   show (if x=nm/\n''=n then some b else g.tloc x n'')=none
   rw[aj (fun h=>hne h.1)];exact a5 n'' wJ
 ·intro x hx;rw[gC] at hx
  split at hx
  ·simp at hx
  ·rename_i hne;have:=hm.resv x hx;refine ⟨this.1,fun n'=>?_⟩
   show (if x=nm/\n'=n then some b else g.tloc x n')=none
   rw[aj (fun h=>hne h.1)];exact this.2 n'
 ·intro x hx;have rC:m.length<=x:=by simpa using hx
  have:=hm.fresh x rC;refine ⟨this.1,fun n'=>?_⟩
  show (if x=nm/\n'=n then some b else g.tloc x n')=none
  rw[aj (fun h=>by have:=h.1;omega)];exact this.2 n'
 ·intro x x' b' h1 h2;exact hm.inj x x' b' (hblk x b' h1) (hblk x' b' h2)
 ·intro b' off hw;rw[wR];exact hm.wrLt b' off hw.1
 ·exact hm.invS s
 ·intro b' hw;rw[wR];exact hm.boxLt b' hw
 ·show (if nm=nm/\n=n then some b else _)=_;simp
 ·intro off ho h;exact h.2 ⟨rfl,ho⟩
def vF (g:G) (nm b:Nat):G where
 wr:=g.wr
 box:=g.box
 loc n:=if n=nm then some b else g.loc n
 tloc:=g.tloc
theorem MemR.rename (hm:MemR B w g m) {nm b:Nat} {bx:Bool} {cs:List AV} (hn:m.get nm=some (.obj bx cs)) (hl:g.loc nm=some b):Step B w g w (vF g m.length b)/\MemR B w (vF g m.length b) (m.set nm none++[some (.obj bx cs)]):=by
 have hlt:=bJ hn;have nB:=hm.fresh m.length (aR _)
 have ju:∀ x b',g.loc x=some b'->(vF g m.length b).loc x=some b':=fun x b' hx=>by
  show (if x=m.length then some b else g.loc x)=some b'
  split
  ·rename_i he;rw[he,nB.1] at hx;cases hx
  ·exact hx
 have s:Step B w g w (vF g m.length b):=⟨Below.refl _ _,fun _ _ _ _ h=>h,fun _ c _ _ h=>⟨c,h,rfl⟩,fun _ _ _ h=>h,fun _ _ _=>Iff.rfl,fun _ _=>Iff.rfl,ju,fun _ _ _ h=>h⟩
 have aU:∀ x,af.get (m.set nm none++[some (.obj bx cs)]) x=if x=m.length then some (.obj bx cs) else if x=nm then none else m.get x:=by
  intro x;rw[Ml,aZ]
  by_cases h1:x < m.length
  ·rw[an h1,aj (by omega),gC,an hlt]
  ·rw[aj h1]
   by_cases h2:x=m.length
   ·rw[an h2,an h2]
   ·rw[aj h2,aj h2,aj (by omega)];unfold af.get;rw[mQ (by omega)];rfl
 have sq:a8 g m nm=some b:=by simp[a8,hn,hl]
 have hblk:∀ x b',a8 (vF g m.length b) (m.set nm none++[some (.obj bx cs)]) x=some b'->(x=m.length/\b'=b)\/(x≠nm/\x≠m.length/\a8 g m x=some b'):=by
  intro x b' hx
  by_cases h1:x=m.length
  ·unfold a8 at hx;rw[aU,an h1] at hx;simp only[vF,an h1,bG] at hx;exact .inl ⟨h1,hx.symm⟩
  ·unfold a8 at hx;rw[aU,aj h1] at hx
   by_cases h2:x=nm
   ·rw[an h2] at hx;simp at hx
   ·rw[aj h2] at hx;refine .inr ⟨h2,h1,?_⟩;unfold a8;simp only[vF,aj h1] at hx;exact hx
 refine ⟨s,?_,?_,?_,?_,?_,hm.wrLt,hm.invS s,hm.boxLt,?_⟩
 ·intro x bx' cs' hx;rw[aU] at hx
  split at hx
  ·rename_i he;simp only[bG,Ent.obj.injEq] at hx;obtain ⟨rfl,rfl⟩:=hx;obtain ⟨b1,c1,e1,a1,a2,a3,a4,a5,a6,a7⟩:=hm.obj nm bx cs hn;obtain rfl:b=b1:=by simpa [hl] using a1
   exact ⟨b,c1,e1,by simp[vF,he],a2,a3,a4,fun j hj=>(a5 j hj).step s,a6,a7⟩
  ·split at hx
   ·cases hx
   ·obtain ⟨b1,c1,e1,a1,a2,a3,a4,a5,a6,a7⟩:=hm.obj x bx' cs' hx;exact ⟨b1,c1,e1,ju _ _ a1,a2,a3,a4,fun j hj=>(a5 j hj).step s,a6,a7⟩
 ·intro x n sz hx;rw[aU] at hx
  split at hx
  ·cases hx
  ·split at hx
   ·cases hx
   ·exact hm.tok x n sz hx
 ·intro x hx;rw[aU] at hx
  split at hx
  ·cases hx
  ·split at hx
   ·cases hx
   ·rename_i h1 h2;have:=hm.resv x hx
    exact ⟨by show (if x=m.length then some b else g.loc x)=none;rw[aj h1];exact this.1,this.2⟩
 ·intro x hx;simp only[aI,aZ,tj] at hx;have:=hm.fresh x (by omega)
  exact ⟨by show (if x=m.length then some b else g.loc x)=none;rw[aj (by omega)];exact this.1,this.2⟩
 ·intro x x' b' h1 h2
  rcases hblk x b' h1 with ⟨a1,a2⟩ | ⟨a1,a2,a3⟩<;>rcases hblk x' b' h2 with ⟨b1,b2⟩ | ⟨b1,b2,b3⟩
  ·omega
  ·subst a2;exact absurd (hm.inj _ _ _ b3 sq) b1
  ·subst b2;exact absurd (hm.inj _ _ _ a3 sq) a1
  ·exact hm.inj _ _ _ a3 b3
 ·intro x kk es hx;rw[aU] at hx
  split at hx
  ·cases hx
  ·split at hx
   ·cases hx
   ·obtain ⟨b1,es1,cl1,a1,a2,a3,a4⟩:=hm.mp x kk es hx;exact ⟨b1,es1,cl1,ju _ _ a1,a2,a3,a4.step s⟩
theorem MemR.lose (hm:MemR B w g m) (nm:Nat):MemR B w g (m.set nm none):=by
 have aU:∀ x e,af.get (m.set nm none) x=some e->m.get x=some e:=by
  intro x e hx;rw[gC] at hx
  split at hx
  ·simp at hx
  ·exact hx
 have hblk:∀ x b,a8 g (m.set nm none) x=some b->a8 g m x=some b:=by
  intro x b hx
  rcases pR hx with ⟨bx,cs,h1,h2⟩ | ⟨n,sz,h1,h2⟩ | ⟨kk,es,h1,h2⟩
  ·have:=aU _ _ h1;simp[a8,this,h2]
  ·have:=aU _ _ h1;simp[a8,this,h2]
  ·have:=aU _ _ h1;simp[a8,this,h2]
 exact ⟨fun x bx cs hx=>hm.obj x bx cs (aU _ _ hx),fun x n sz hx=>hm.tok x n sz (aU _ _ hx),fun x hx=>hm.resv x (aU _ _ hx),fun x hx=>hm.fresh x (by simpa using hx),fun x x' b h1 h2=>hm.inj x x' b (hblk _ _ h1) (hblk _ _ h2),hm.wrLt,hm.inv,hm.boxLt,fun x kk es hx=>hm.mp x kk es (aU _ _ hx)⟩
theorem qof {P:Program} (w:World) (t ty e e0:TypeId) (i:TypeInfo) (ht:P.underlying t=some (.slice e)) (hi:P.info? e=some i)
  (g sLen sCap:Nat) (cur:Array Value) (hg:w.heap[g]?=some (.cells cur e0 (0,0)))
  (a:Addr) (m c:Nat) (news:List Value) (hl:news.length=m * i.size) (sG:∀ j u,news[j]?=some u->w.cell? (a.add j)=some u) (h1:∀ u∈news,u.oneCell'=true)
  (vm:sLen+m<=sCap) (tI:sLen * i.size+news.length<=cur.size) :
  (Builtin.append_ #[t,t] ty #[.slice (some ⟨g,0,none⟩) sLen sCap,.slice (some a) m c]).run P w =
   .ok (.slice (some ⟨g,0,none⟩) (sLen+m) sCap) (w.setRow g (cur.toList.take (sLen * i.size)++news++cur.toList.drop (sLen * i.size+news.length)).toArray):=by
 have hf:=run_firstCells_some (P:=P) w i.size m a m c news hl sG;have gI:=run_storeCells_at P g (sLen * i.size) e0 news 0 cur w hg (by simpa using tI) h1;simp only[ke] at gI;simp[Builtin.append_,run_underlying ht,sizeOf,typeInfo,hi,Builtin.lenOf,vm,hf,Addr.add_lit,gI]
theorem qod (hm:MemR B w g m) {sh:Sh} {y:AV} {y':Value} {n:Nat} {cs:List AV} (hy:V w g y y') (h:zf m sh y=some (n,cs)) :
  ∃ (a:Addr) (cap:Nat) (vs:List Value),y'=.slice (some a) n cap/\0 < n/\vs.length=n * sh.size/\cs.length=n * sh.size/\(∀ j u,vs[j]?=some u->w.cell? (a.add j)=some u)/\(∀ u∈vs,u.oneCell'=true)/\(∀ j,j < vs.length->V w g (cs.getD j .any) (vs.getD j undef)):=by
 unfold zf at h
 split at h
 ·rename_i shy z o ys
  split at h
  ·rename_i hc;obtain ⟨rfl,iU⟩:=hc;simp only[bG,fe] at h;obtain ⟨rfl,rfl⟩:=h
   have hz:z=false/\∃ a n cap,y'=.slice (some a) n cap:=by
    cases hy with
    | nils=>simp at iU
    | lst=>exact ⟨rfl,_,_,_,rfl⟩
   obtain ⟨rfl,a,n,cap,rfl⟩:=hz;obtain ⟨vs,rfl,h2,h3,h4,h5,_,_,_,h6,_,_⟩:=CS hy;exact ⟨a,cap,vs,rfl,iU,h2,si (fun e he=>(h6 e he).1),h3,h4,h5⟩
  ·cases h
 ·rename_i nm off n1 shy;obtain ⟨⟨bx,os⟩,ho,h⟩:=bc.1 h;simp only at h
  split at h
  ·rename_i hc;obtain ⟨rfl,iU,hle,iv⟩:=hc;simp only[bG,fe] at h;obtain ⟨rfl,rfl⟩:=h;obtain ⟨b,c,e,o1,o2,o3,o4,o5,o6,o7⟩:=hm.obj nm bx os (obj?_get ho)
   cases hy with
   | arr _ _ _ _ a cap hs hc hmx hl=>
    obtain ⟨l1,l2,_⟩:=hl.resolve_left (by omega);obtain rfl:b=a.block:=by simpa [o1] using l1
    have hcl:((os.drop off).take (n1 * shy.size)).length=n1 * shy.size:=by simp;omega
    have js:∀ j,j < n1 * shy.size->((os.drop off).take (n1 * shy.size)).getD j .any=os.getD (off+j) .any:=fun j hj=>by
     simp[aT,qo,rV,hj]
    refine ⟨a,cap,(List.range (n1 * shy.size)).map fun j=>c.getD (off+j) undef,rfl,iU,by simp,hcl,fun j u hu=>?_,fun u hu=>?_,fun j hj=>?_⟩
    ·have hj:j < n1 * shy.size:=by
      rcases qV j (n1 * shy.size) with hl | hl
      ·exact hl
      ·rw[mQ (by simpa using hl)] at hu;cases hu
     simp[hj] at hu;rw[l2,mP,cell_of_row w _ _ c e (0,0) o3,<- hu];simp[Array.getD,show off+j < c.size by omega]
    ·obtain ⟨j,hj,rfl⟩:=iX.1 hu;have gH:j < n1 * shy.size:=by simpa using hj
     have h1:=o5 (off+j) (by omega);rw[<- js j gH] at h1;have AS:j < ((os.drop off).take (n1 * shy.size)).length:=by omega
     have e1:((os.drop off).take (n1 * shy.size)).getD j .any=((os.drop off).take (n1 * shy.size))[j]:=by rw[aT,bA AS];rfl
     rw[e1] at h1;exact (CR h1 (fQ.1 iv _ (bM AS))).1
    ·have gH:j < n1 * shy.size:=by simpa using hj
     rw[js j gH];have:=o5 (off+j) (by omega);simpa [aT,gH] using this
  ·cases h
 ·rename_i n1 shy cs1
  split at h
  ·rename_i hc;obtain ⟨rfl,iU,hle⟩:=hc;simp only[bG,fe] at h;obtain ⟨rfl,rfl⟩:=h
   cases hy with
   | vec _ _ _ a cap us hs hc hmx hn iv hcell hv=>
    have HS:cap≠0:=by omega
    have ha:a=⟨a.block,a.off,none⟩:=by
     have:=hs.resolve_left HS;cases a;simp_all
    refine ⟨a,cap,(List.range cs1.length).map us,rfl,iU,by simpa using hle,hle,fun j u hu=>?_,fun u hu=>?_,fun j hj=>?_⟩
    ·have hj:j < cs1.length:=by
      rcases qV j cs1.length with hl | hl
      ·exact hl
      ·rw[mQ (by simpa using hl)] at hu;cases hu
     simp[hj] at hu;rw[ha,mP,<- hu];exact (hcell j hj).1
    ·obtain ⟨j,hj,rfl⟩:=iX.1 hu;have gH:j < cs1.length:=by simpa using hj
     have h1:=hv j gH;have e:cs1.getD j .any=cs1[j]:=by rw[aT,bA gH];rfl
     rw[e] at h1;exact (CR h1 (iv _ (bM gH))).1
    ·have gH:j < cs1.length:=by simpa using hj
     have:=hv j gH;simpa [aT,gH] using this
  ·cases h
 ·cases h
theorem Ut (hm:MemR B w g m) (hB:B<=w.heap.size) {e k n:Nat} {sh:Sh} {xcs ycs:List AV} {olds news:List Value} {rest:Array Value} {cap:Nat} (gR:olds.length=k * sh.size) (rA:news.length=n * sh.size) (rC:xcs.length=k * sh.size) (yR:ycs.length=n * sh.size)
  (tW:∀ j,j < olds.length->V w g (xcs.getD j .any) (olds.getD j undef)) (sM:∀ j,j < news.length->V w g (ycs.getD j .any) (news.getD j undef)) (hcap:k+n<=cap) (H4:cap<=maxLen)
  (qlJ:rest.size=(cap - (k+n)) * sh.size) :
  ∃ g',Step B w g (w.drew.alloc (.cells (olds.toArray++news.toArray++rest) e)) g'/\MemR B (w.drew.alloc (.cells (olds.toArray++news.toArray++rest) e)) g' (m++[some (.obj false (xcs++ycs))])/\V (w.drew.alloc (.cells (olds.toArray++news.toArray++rest) e)) g' (.arr m.length 0 (k+n) sh) (.slice (some ⟨w.heap.size,0,none⟩) (k+n) cap):=by
 have lE:=hm.drew;have s1:=Step.drew B w g;have yn:B<=w.drew.heap.size:=hB;have hmul:(k+n) * sh.size=k * sh.size+n * sh.size:=gX _ _ _
 have hcell:∀ j,j < (k+n) * sh.size->V w g ((xcs++ycs).getD j .any) ((olds.toArray++news.toArray++rest).getD j undef):=by
  intro j hj;simp only[aT,jq,qn,Array.getElem?_append,zD,List.size_toArray,Ac,rC,gR,rA]
  by_cases h1:j < k * sh.size
  ·rw[an h1,an (by omega),an h1];simpa [aT] using tW j (by omega)
  ·rw[aj h1,an (by omega),aj h1];simpa [aT] using sM (j - k * sh.size) (by omega)
 have hZ:(olds.toArray++news.toArray++rest).size=cap * sh.size:=by
  have:cap * sh.size=(k+n) * sh.size+(cap - (k+n)) * sh.size:=by
   rw[<- gX];congr 1;omega
  simp only[zD,List.size_toArray];omega
 have tP:(w.drew.alloc (.cells (olds.toArray++news.toArray++rest) e)).heap[w.heap.size]?=some (Obj.cells (olds.toArray++news.toArray++rest) e (0,0)):=heap_alloc_new w.drew _;have A4:(k+n) * sh.size<=(olds.toArray++news.toArray++rest).size:=by rw[hZ];exact iO _ hcap
 obtain ⟨s2,fO⟩:=lE.alloc_obj yn (olds.toArray++news.toArray++rest) e (xcs++ycs) (by rw[aI,rC,yR,<- hmul];exact A4) (fun j hj=>by
  rw[aI,rC,yR,<- hmul] at hj
  exact (hcell j hj).step s1) false (lE.slot (d:=none) (fun s hs=>by cases hs) _)
 exact ⟨_,s1.trans s2,fO,(.arr _ _ _ _ _ _ (.inr rfl) hcap H4 (.inr ⟨by simp[gJ,aA],rfl,_,_,tP,by rw[hZ,bf];exact aR _⟩))⟩
theorem qhd (hm:MemR B w g m) (hB:B<=w.heap.size) {d:Option Nat} {arrm:Bool} {t e ty:Nat} {sh:Sh} {x y v:AV} {m':af} {x' y':Value} (ht:P.underlying t=some (.slice e)) (he:nw P e sh=true)
  (hx:V w g x x') (hy:V w g y y') (h:uJ d arrm sh (pw P e) m x y=some (v,m')):nV P B w g (Builtin.append_ #[t,t] ty #[x',y']) v m':=by
 obtain ⟨i,zv,hi,hs,iU,nb,sO,tO⟩:=tD he;have su:pw P e=max 1 i.bytes:=by simp[pw,hi]
 unfold uJ at h
 split at h
 ·obtain ⟨⟨n,ycs⟩,hq,h⟩:=bc.1 h;obtain ⟨⟨k,xcs,m2⟩,hp,h⟩:=bc.1 h;simp only at h
  split at h
  ·rename_i vm;simp only[bG,fe] at h;obtain ⟨rfl,rfl⟩:=h;obtain ⟨ay,cy,news,rfl,Ib,rA,yR,sG,lG,sM⟩:=qod hm hy hq;rw[su] at vm;have sF:news.length=n * i.size:=by rw[rA,hs]
   have nD:(k+n) * i.bytes<=140737488355328:=fA (kE _ (by omega)) vm;have hlen:k+n<=140737488355328:=fA (Nat.le_mul_of_pos_right _ (by omega)) vm;have sk:k+n<=maxLen:=by simp only[maxLen];omega
   unfold xc at hp
   split at hp
   ·rename_i shx z o es _
    split at hp
    ·split at hp
     ·rename_i DT;simp only[bG,fe] at hp;obtain ⟨rfl,rfl,rfl⟩:=hp
      have hgrow:∃ (cap:Nat) (olds:List Value) (rest:Array Value),(Builtin.append_ #[t,t] ty #[x',.slice (some ay) n cy]).run P w=.ok (.slice (some ⟨w.heap.size,0,none⟩) (es.length+n) cap) (w.drew.alloc (.cells (olds.toArray++news.toArray++rest) e)) /\
        olds.length=es.length * sh.size/\(∀ e∈es,cZ sh e=true/\pl e=true)/\(∀ j,j < olds.length->V w g ((c8 es).getD j .any) (olds.getD j undef))/\es.length+n<=cap/\cap<=maxLen/\rest.size=(cap - (es.length+n)) * sh.size:=by
       cases z with
       | true=>
        have hes:es=[]/\x'=.slice none 0 0:=by cases hx;exact ⟨rfl,rfl⟩
        obtain ⟨rfl,rfl⟩:=hes;have hr:=run_append_nil (P:=P) w t ty e i zv ht hi nb ay n cy news sF sG Ib (by simp only[aM] at hlen;omega) (by simp only[aM,bf] at nD;omega)
        refine ⟨_,[],Builtin.zeroCells zv.cells (grownCap w n 0 e - n),?_,by simp,by simp,by simp,by simpa using grownCap_ge w n 0 e,grownCap_le_maxLen w _ _ e (by simpa using sk),?_⟩
        ·simpa using hr
        ·rw[size_zeroCells,sO,hs];simp
       | false=>
        obtain ⟨ax,nx,cx,rfl⟩:∃ ax nx cx,x'=.slice (some ax) nx cx:=by cases hx;exact ⟨_,_,_,rfl⟩
        obtain ⟨olds,rfl,gR,holds,Vo,tW,Dv,mU,hmx,yw,hown,_⟩:=CS hx;have qk6:cx=es.length:=hown
        have yA:olds.length=es.length * i.size:=by
         rcases DT with h | h
         ·rw[gR,h,hs]
         ·subst h;simp at gR;simp[gR]
        have hr:=run_append_grow (P:=P) w t ty e i zv ht hi nb ax es.length cx olds yA holds ay n cy news sF sG (by omega) (by omega) (growslice_fits (by omega) nD);refine ⟨_,olds,Builtin.zeroCells zv.cells (grownCap w (es.length+n) cx e - (es.length+n)),hr,by rw[yA,hs],?_,tW,grownCap_ge _ _ _ _,grownCap_le_maxLen _ _ _ _ sk,by rw[size_zeroCells,sO,hs]⟩
        rcases DT with h | h
        ·rw[<- h];exact yw
        ·subst h;simp
      obtain ⟨cap,olds,rest,hr,g1,g2,g3,g4,g5,g6⟩:=hgrow;obtain ⟨g',s,hm',hV⟩:=Ut hm hB (e:=e) g1 rA (si fun e he=>(g2 e he).1) yR g3 sM g4 g5 g6;exact ⟨_,_,g',hr,s,hm',hV⟩
     ·cases hp
    ·cases hp
   ·rename_i nm off k1 shx _;obtain ⟨⟨bx,cs⟩,ho,yK⟩:=bc.1 hp;clear hp;simp only at yK
    split at yK
    ·rename_i hc;obtain ⟨rfl,rfl,uZ,rfl,hcl⟩:=hc;simp only[bG,fe] at yK;obtain ⟨rfl,rfl,rfl⟩:=yK;have aU:=obj?_get ho;have hlt:=bJ aU;obtain ⟨b,c,e1,o1,o2,o3,o4,o5,o6,o7⟩:=hm.obj nm false cs aU
     cases hx with
     | arr _ _ _ _ a cap hsp tG hmx hl=>
      obtain ⟨l1,l2,c2,e2,l3,l4⟩:=hl.resolve_left (by omega);obtain rfl:b=a.block:=by simpa [o1] using l1
      rw[o3] at l3;simp only[bG,Obj.cells.injEq] at l3;obtain ⟨rfl,rfl,_⟩:=l3;rw[bf] at l4
      by_cases tI:k1+n<=cap
      ·have HV:k1 * i.size+news.length<=c.size:=by
        rw[sF,hs,<- gX];exact fA (iO _ tI) l4
       have u7:k1 * i.size=k1 * shx.size:=by rw[hs]
       have hnn:n * i.size=n * shx.size:=by rw[hs]
       have hr:=qof (P:=P) w t ty e e1 i ht hi a.block k1 cap c o3 ay n cy news sF sG lG tI HV;rw[<- l2] at hr;have hsz:(c.toList.take (k1 * i.size)++news++c.toList.drop (k1 * i.size+news.length)).toArray.size=c.size:=by simp;omega
       obtain ⟨s1,lE⟩:=hm.write (cs':=cs++ycs) (c':=(c.toList.take (k1 * i.size)++news++c.toList.drop (k1 * i.size+news.length)).toArray) aU o1 o3 hsz (by rw[hsz,aI,hcl,yR,<- rA,<- hs];exact HV) (fun j hj=>by
        rw[aI,hcl,yR] at hj;have H0:(c.toList.take (k1 * i.size)).length=k1 * shx.size:=by simp;omega
        simp only[aT,jq,Ac,ga]
        by_cases h1:j < k1 * shx.size
        ·rw[nl (by omega),nl (by omega),qo,an (by omega)];have:=o5 j (by omega);simpa [aT,jq] using this
        ·rw[rU (by omega),rU (by omega),hcl,H0,nl (by omega)];have:=sM (j - k1 * shx.size) (by omega)
         simpa [aT] using this)
       obtain ⟨s2,fO⟩:=lE.rename (by rw[gC,an rfl,an hlt]) o1;rw[aZ,Ae] at fO;rw[aZ] at s2;refine ⟨_,_,_,hr,s1.trans s2,by rw[aZ] at *;exact fO,?_⟩;rw[aZ];rw[l2];exact .arr _ _ _ _ _ _ (.inr rfl) tI hmx (.inr ⟨by simp[vF],rfl,_,e1,setRow_heap w _ c _ e1 _ o3,by rw[hsz,bf];exact l4⟩)
      ·have hcd:∀ j,j < k1 * shx.size->w.cell? (a.add j)=some (c.getD j undef):=fun j hj=>by
        rw[l2,mP,cell_of_row w _ _ c e1 (0,0) o3];simp[Array.getD,show j < c.size by omega]
       have gR:((List.range (k1 * shx.size)).map fun j=>c.getD j undef).length=k1 * shx.size:=by simp
       have hr:=run_append_grow (P:=P) w t ty e i zv ht hi nb a k1 cap ((List.range (k1 * shx.size)).map fun j=>c.getD j undef) (by rw[gR,hs]) (fun j u hu=>by
         have hj:j < k1 * shx.size:=by
          rcases qV j (k1 * shx.size) with hl | hl
          ·exact hl
          ·rw[mQ (by simpa using hl)] at hu;cases hu
         simp[hj] at hu;rw[hcd j hj,<- hu]
         simp[jq]) ay n cy news sF sG (by omega) (by omega) (growslice_fits (by omega) nD)
       obtain ⟨g',s,hm',hV⟩:=Ut (hm.lose nm) hB (e:=e) (xcs:=cs) (ycs:=ycs) (olds:=(List.range (k1 * shx.size)).map fun j=>c.getD j undef) gR rA hcl yR (fun j hj=>by
         have gH:j < k1 * shx.size:=by simpa using hj
         have:=o5 j (by omega)
         simpa [aT,gH] using this) sM (grownCap_ge w (k1+n) cap e) (grownCap_le_maxLen w _ cap e sk) (rest:=Builtin.zeroCells zv.cells (grownCap w (k1+n) cap e - (k1+n))) (by rw[size_zeroCells,sO,hs])
       exact ⟨_,_,g',hr,s,hm',hV⟩
    ·cases yK
   ·cases hp
  ·cases h
 ·cases h
theorem qhh (w:World) (t e ty:Nat) (i:TypeInfo) (ht:P.underlying t=some (.slice e)) (hi:P.info? e=some i) {x:AV} {x' y':Value} {sh shy:Sh} {z z':Bool} {o o':Own} {es:List AV} (hx:V w g (.lst sh z o es) x') (hy:V w g (.lst shy z' o' []) y') :
  (Builtin.append_ #[t,t] ty #[x',y']).run P w=.ok x' w:=by
 have hb:∀ a n c,x'=.slice a n c->n<=c:=by
  rintro a n c rfl
  cases hx with
  | nils=>exact aR _
  | lst _ o es a cap us hs hc hm hsh hcell hv ho=>exact hc
 have qlQ:∃ a n c,x'=.slice a n c:=by cases hx<;>exact ⟨_,_,_,rfl⟩
 obtain ⟨a,n,c,rfl⟩:=qlQ;have hn:=hb a n c rfl;have qlR:∃ a' c',y'=.slice a' 0 c':=by cases hy<;>exact ⟨_,_,rfl⟩
 obtain ⟨a',c',rfl⟩:=qlR;cases a'<;>cases a<;>simp[Builtin.append_,run_underlying ht,sizeOf,typeInfo,hi,Builtin.lenOf,hn,Builtin.firstCells,loadCells,loadCellsFrom,storeCells]
theorem qhi (hm:MemR B w g m) (hB:B<=w.heap.size) {d:Option Nat} (hd:∀ s,d=some s->m.get s=some .resv) {arrm:Bool} {t e ty:Nat} {sh:Sh} {x y v:AV} {m':af} {x' y':Value} (ht:P.underlying t=some (.slice e)) (hsh:je P e=some sh) (he:nw P e sh=true)
  (hx:V w g x x') (hy:V w g y y') (h:cg d arrm e sh (pw P e) m x y=some (v,m')):nV P B w g (Builtin.append_ #[t,t] ty #[x',y']) v m':=by
 obtain ⟨i,zv,hi,hs,iU,nb,sO,tO⟩:=tD he;have su:pw P e=max 1 i.bytes:=by simp[pw,hi]
 unfold cg at h
 split at h
 ·rename_i shx z o es shy zy oy ys0
  split at h
  ·simp at h;obtain ⟨rfl,rfl⟩:=h;exact nV.same hm ⟨x',qhh (x:=.any) w t e ty i ht hi hx hy,hx⟩
  ·rename_i y1 ys1;generalize p6:y1::ys1=ys at *;have Ib:0 < ys.length:=by rw[<- p6];simp
   split at h
   ·rename_i qlS;subst qlS
    split at h
    ·rename_i vm;rw[su] at vm
     have hy2:∃ zy',zy=zy'/\zy'=false:=by
      cases zy
      ·exact ⟨_,rfl,rfl⟩
      ·cases hy;simp at Ib
     obtain ⟨_,rfl,rfl⟩:=hy2;obtain ⟨ay,ny,cy,rfl⟩:∃ ay ny cy,y'=.slice (some ay) ny cy:=by cases hy;exact ⟨_,_,_,rfl⟩
     obtain ⟨news,rfl,rA,sG,lG,sM,_,_,_,Nx,_,_⟩:=CS hy;have sF:news.length=ys.length * i.size:=by rw[rA,hs]
     have nD:(es.length+ys.length) * i.bytes<=140737488355328:=fA (kE _ (by omega)) vm;have hlen:es.length+ys.length<=140737488355328:=fA (Nat.le_mul_of_pos_right _ (by omega)) vm;have sk:es.length+ys.length<=maxLen:=by simp only[maxLen];omega
     split at h
     ·cases h
     ·
      split at h
      ·rename_i DT
       have hgrow:∃ (cap:Nat) (olds:List Value) (rest:Array Value),(Builtin.append_ #[t,t] ty #[x',.slice (some ay) ys.length cy]).run P w=.ok (.slice (some ⟨w.heap.size,0,none⟩) (es.length+ys.length) cap) (w.drew.alloc (.cells (olds.toArray++news.toArray++rest) e)) /\
         olds.length=es.length * shy.size/\(∀ e∈es,cZ shy e=true/\pl e=true)/\(∀ j,j < olds.length->V w g ((c8 es).getD j .any) (olds.getD j undef))/\es.length+ys.length<=cap/\cap<=maxLen/\rest.size=(cap - (es.length+ys.length)) * shy.size:=by
        cases z with
        | true=>
         have hes:es=[]/\x'=.slice none 0 0:=by cases hx;exact ⟨rfl,rfl⟩
         obtain ⟨rfl,rfl⟩:=hes;have hr:=run_append_nil (P:=P) w t ty e i zv ht hi nb ay ys.length cy news sF sG Ib (by omega) (by simp only[aM,bf] at nD;omega)
         refine ⟨_,[],Builtin.zeroCells zv.cells (grownCap w ys.length 0 e - ys.length),?_,by simp,by simp,by simp,by simpa using grownCap_ge w ys.length 0 e,grownCap_le_maxLen w _ _ e (by simpa using sk),?_⟩
         ·simpa using hr
         ·rw[size_zeroCells,sO,hs];simp
        | false=>
         obtain ⟨ax,nx,cx,rfl⟩:∃ ax nx cx,x'=.slice (some ax) nx cx:=by cases hx;exact ⟨_,_,_,rfl⟩
         obtain ⟨olds,rfl,gR,holds,Vo,tW,Dv,mU,hmx,yw,hown,_⟩:=CS hx;have qk6:cx=es.length:=hown
         have yA:olds.length=es.length * i.size:=by
          rcases DT with h | h
          ·rw[gR,h,hs]
          ·subst h;simp at gR;simp[gR]
         have hr:=run_append_grow (P:=P) w t ty e i zv ht hi nb ax es.length cx olds yA holds ay ys.length cy news sF sG (by omega) (by omega) (growslice_fits (by omega) nD);refine ⟨_,olds,Builtin.zeroCells zv.cells (grownCap w (es.length+ys.length) cx e - (es.length+ys.length)),hr,by rw[yA,hs],?_,tW,grownCap_ge _ _ _ _,grownCap_le_maxLen _ _ _ _ sk,by rw[size_zeroCells,sO,hs]⟩
         rcases DT with h | h
         ·rw[<- h];exact yw
         ·subst h;simp
       obtain ⟨cap,olds,rest,hr,g1,g2,g3,g4,g5,g6⟩:=hgrow;obtain ⟨p1,p2,_⟩:=Uu hm hB hd (e:=e) g1 rA g2 Nx g3 sM g4 g5 g6
       split at h
       ·simp only[bG,fe] at h;obtain ⟨rfl,rfl⟩:=h;obtain ⟨g',s,hm',hV⟩:=p2;exact ⟨_,_,g',hr,s,hm',hV⟩
       ·simp at h;obtain ⟨rfl,rfl⟩:=h;obtain ⟨g',s,hm',hV⟩:=p1;exact ⟨_,_,g',hr,s,hm',hV⟩
      ·cases h
     ·
      rename_i nm e'
      split at h
      ·rename_i mE;obtain ⟨rfl,rfl,_⟩:=mE
       split at h
       ·rename_i k sz aU
        split at h
        ·rename_i hk;obtain ⟨rfl,rfl⟩:=hk;simp at h;obtain ⟨rfl,rfl⟩:=h
         have hz:z=false/\∃ ax nx cx,x'=.slice (some ax) nx cx:=by
          cases hx with
          | nils _ _ ho=>rcases ho with h | h<;>cases h
          | lst=>exact ⟨rfl,_,_,_,rfl⟩
         obtain ⟨rfl,ax,nx,cx,rfl⟩:=hz;obtain ⟨olds,rfl,gR,holds,Vo,tW,Dv,mU,hmx,yw,hown,_⟩:=CS hx;obtain ⟨o1,o2,c,o3,o4⟩:=hown;have yA:olds.length=es.length * i.size:=by rw[gR,hs]
         by_cases tI:es.length+ys.length<=cx
         ·
          have Dv:=Dv.resolve_left (by omega);have MA:ax=⟨ax.block,0,none⟩:=by rw[Dv,o2]
          have HV:es.length * i.size+news.length<=c.size:=by
           rw[sF,o4,hs,<- gX];exact iO _ tI
          have hr:=run_append_room (P:=P) w t ty e' i ht hi ax.block es.length cx c o3 ay ys.length cy news sF sG lG tI HV;rw[<- MA] at hr
          obtain ⟨g',s,hm',q1,q2,q3⟩:=hm.inplace (n:=es.length+ys.length) (c':=(c.toList.take (es.length * i.size)++news++c.toList.drop (es.length * i.size+news.length)).toArray) aU o1 o3 (by omega) (by simp;omega)
           (fun j hj=>by
            rw[<- hs] at hj;simp only[Ac,ga];rw[nl (by simp;omega),qo,an hj]
            simp)
          refine ⟨_,_,g',hr,s,hm',?_⟩;have sy:(w.setRow ax.block (c.toList.take (es.length * i.size)++news++c.toList.drop (es.length * i.size+news.length)).toArray).heap[ax.block]?=some (Obj.cells (c.toList.take (es.length * i.size)++news++c.toList.drop (es.length * i.size+news.length)).toArray e' (0,0)):=setRow_heap w _ c _ e' _ o3;have UP:(c.toList.take (es.length * i.size)++news++c.toList.drop (es.length * i.size+news.length)).toArray.size=c.size:=by simp;omega
          have hmul:(es.length+ys.length) * shx.size=es.length * shx.size+ys.length * shx.size:=gX _ _ _;have yx:=si (fun e he=>(yw e he).1:∀ e∈es,cZ shx e=true);have ja:(es++ys).length=es.length+ys.length:=by simp
          have:=Hd (sh:=shx) (o:=.tok nm e') (es:=es++ys) (cap:=cx) sy (by rw[ja];exact tI) hmx (fun e he=>by
            rcases im.1 he with h | h
            ·exact yw e h
            ·exact Nx e h) (by rw[ja,UP,o4];exact iO _ tI)
           (fun j hj=>by
            rw[ja] at hj;have H0:(c.toList.take (es.length * i.size)).length=es.length * shx.size:=by simp;omega
            rw[HG];simp only[aT,jq,Ac,ga]
            by_cases h1:j < es.length * shx.size
            ·rw[nl (by omega),nl (by omega),qo,an (by omega)];have hcell:=holds j (olds.getD j undef) (by simp[aT,show j < olds.length by omega]);rw[MA,mP,cell_of_row w _ _ c e' (0,0) o3] at hcell;simp only[bf] at hcell;have:=(tW j (by omega)).step s;simp only[BX,hcell,fg];simpa [aT] using this
            ·rw[rU (by omega),rU (by omega),yx,H0,nl (by omega)];have:=(sM (j - es.length * shx.size) (by omega)).step s
             simpa [aT] using this)
           (fun j hj=>q2 j (by rw[<- ja];exact hj)) q3 ⟨by rw[ja];exact q1,rfl,_,sy,by rw[UP,o4]⟩
          rw[ja] at this;rw[MA];exact this
         ·have hr:=run_append_grow (P:=P) w t ty e' i zv ht hi nb ax es.length cx olds yA holds ay ys.length cy news sF sG (by omega) (by omega) (growslice_fits (by omega) nD);obtain ⟨_,_,p3⟩:=Uu hm hB hd (e:=e') gR rA yw Nx tW sM (grownCap_ge w (es.length+ys.length) cx e') (grownCap_le_maxLen w _ cx e' sk) (rest:=Builtin.zeroCells zv.cells (grownCap w (es.length+ys.length) cx e' - (es.length+ys.length))) (by rw[size_zeroCells,sO,hs]);obtain ⟨g',s,hm',hV⟩:=p3 nm es.length aU (by omega);exact ⟨_,_,g',hr,s,hm',hV⟩
        ·cases h
       ·cases h
      ·cases h
    ·cases h
   ·cases h
 ·exact qhd hm hB ht he hx hy h
theorem qkg {sh:Sh} (es:List AV):∀ (vs:List Value) (i:Nat) (c:Array Value) (L:List (Nat×Value)),L=(vs.zipIdx i).map (fun x=>(x.2,x.1))->es.length=vs.length->(∀ k (h:k < es.length) (h':k < vs.length),V w g es[k] vs[k])->(∀ e∈es,cZ sh e=true)->(i+es.length) * sh.size<=c.size ->
  ∃ c',Instr.fill (fun i=>some (i * sh.size,sh.size)) c L=some c'/\c'.size=c.size/\(∀ j,j < es.length * sh.size->V w g ((c8 es).getD j .any) (c'.getD (i * sh.size+j) undef))/\∀ j,j < i * sh.size->c'.getD j undef=c.getD j undef:=by
 induction es with
 | nil=>
  intro vs i c L hL hl _ _ _;obtain rfl:vs=[]:=nY (by simpa using hl.symm);subst hL;exact ⟨c,rfl,rfl,by simp,fun _ _=>rfl⟩
 | cons e es ih=>
  intro vs i c L hL hl hv hs hsz
  match vs,hl with
  | v::vs,hl=>
  subst hL;have hV:V w g e v:=hv 0 (by simp) (by simp);have DR:=hs e (by simp);obtain ⟨v1,v2,_⟩:=Hb hV DR;have D2:=sZ DR;simp only[aJ] at hsz;have Nt:(i+(es.length+1)) * sh.size=i * sh.size+sh.size+es.length * sh.size:=by rw[gX,qq];omega
  obtain ⟨f1,f2⟩:=Mg (i * sh.size) v.cells.toList 0 c (by simp;omega);simp only[ke,E9] at f2
  have hz:(v.cells.zipIdx.foldl (fun cs (c,j)=>cs.setIfInBounds (i * sh.size+j) c) c)=(v.cells.toList.zipIdx.foldl (fun cs (c,j)=>cs.setIfInBounds (i * sh.size+j) c) c):=by
   rw[<- Array.foldl_toList,Array.toList_zipIdx]
  have hi1:(i+1) * sh.size=i * sh.size+sh.size:=qq _ _
  obtain ⟨c',g1,g2,g3,g4⟩:=ih vs (i+1) (v.cells.toList.zipIdx.foldl (fun cs (c,j)=>cs.setIfInBounds (i * sh.size+j) c) c) _ rfl (by simpa using hl)
   (fun k h h'=>hv (k+1) (by simpa using h) (by simpa using h')) (fun x hx=>hs x (by simp[hx])) (by rw[f1,gX,hi1];omega)
  refine ⟨c',?_,by rw[g2,f1],fun j hj=>?_,fun j hj=>?_⟩
  ·simp only[List.zipIdx_cons,fV,Instr.fill];rw[aj (by simp;omega),hz];exact g1
  ·simp only[aJ,qq] at hj;simp only[nZ,aT,qn,D2]
   by_cases h1:j < sh.size
   ·rw[an h1,g4 _ (by omega),f2,an (by omega)];have:=v2 j h1;simpa [aT,jq] using this
   ·rw[aj h1];have:=g3 (j - sh.size) (by omega);rw[show (i+1) * sh.size+(j - sh.size)=i * sh.size+j by omega] at this;simpa [aT] using this
  ·rw[g4 j (by omega),f2,aj (by omega)]
theorem Ti (hm:MemR B w g m) (hB:B<=w.heap.size) {t e n:Nat} {sh:Sh} {ps:Array (Nat×Operand)} {ρ:Operand->AV} {ρ':Operand->Value} (hρ:∀ x,V w g (ρ x) (ρ' x)) (ht:P.underlying t=some (.slice e)) (he:nw P e sh=true) (mV:ps.toList.map (·.1)=List.range n)
  (hn:n * sh.size<=16777216) (hall:(ps.toList.map fun p=>ρ p.2).all (fun v=>cZ sh (lO v))=true):∃ c:Array Value,(Instr.buildSlice t n (ps.map fun (i,x)=>(i,ρ' x))).run P w=.ok (.slice (some ⟨w.heap.size,0,none⟩) n n) (w.alloc (.cells c e))/\c.size=n * sh.size/\(ps.toList.map fun p=>ρ p.2).length=n/\((ps.toList.map fun p=>ρ p.2).map lO).length=n/\(∀ x∈(ps.toList.map fun p=>ρ p.2).map lO,cZ sh x=true)/\∀ j,j < n * sh.size->V w g ((c8 ((ps.toList.map fun p=>ρ p.2).map lO)).getD j .any) (c.getD j undef):=by
 obtain ⟨i,zv,hi,hs,iU,nb,sO,tO⟩:=tD he
 ·have hlen:ps.toList.length=n:=by have:=dc List.length mV;simpa using this
  have Du:∀ p∈ps.toList,cZ sh (lO (ρ p.2))=true:=fun p hp=>by
   have:=fQ.1 hall (ρ p.2) (iX.2 ⟨p,hp,rfl⟩);simpa using this
  generalize hes:(ps.toList.map fun p=>ρ p.2).map lO=es;have sw:es.length=n:=by rw[<- hes];simpa using hlen
  have AM:∀ x∈es,cZ sh x=true:=fun x hx=>by
   rw[<- hes] at hx;obtain ⟨y,hy,rfl⟩:=iX.1 hx;obtain ⟨p,hp,rfl⟩:=iX.1 hy;exact Du p hp
  let base:Array Value:=(Array.range (n * i.size)).map ((if n * i.size=0 then #[] else zv.cells)[· % (if n * i.size=0 then #[] else zv.cells:Array Value).size]!)
  obtain ⟨c',g1,g2,g3,g4⟩:=qkg (w:=w) (g:=g) (sh:=sh) es (ps.toList.map fun p=>ρ' p.2) 0 base ((ps.map fun (i,x)=>(i,ρ' x)).toList)
   (by
    apply List.ext_getElem
    ·simp
    ·intro k h1 h2;have hk:k < ps.toList.length:=by simpa using h1
     have:(ps.toList.map (·.1))[k]'(by simpa using hk)=k:=by simp[mV]
     simp at this
     simp[this])
   (by simp[sw,<- hlen]) (fun k h1 h2=>by
    have hk:k < ps.toList.length:=by simpa using h2
    have:es[k]=lO (ρ (ps.toList[k]).2):=by simp[<- hes]
    rw[this];simp only[ti]
    exact qgk (hρ _)) (fun x hx=>AM x hx) (by simp only[base,Array.size_map,Array.size_range,bf,sw,hs];exact aR _)
  have hZ:c'.size=n * sh.size:=by rw[g2];simp[base,hs]
  have ow:(Instr.buildSlice t n (ps.map fun (i,x)=>(i,ρ' x))).run P w=.ok (.slice (some ⟨w.heap.size,0,none⟩) n n) (w.alloc (.cells c' e)):=by
   have hns:¬ (2 ^ 24 < n * i.size):=by rw[hs];omega
   rw[<- hs] at g1
   by_cases h0:n * i.size=0
   ·have hb:base=(Array.range (n * i.size)).map ((#[]:Array Value)[· % (#[]:Array Value).size]!):=by simp[base,h0]
    rw[hb] at g1;simp only[Instr.buildSlice,Sem.run_bind,run_underlying ht,Result.andThen_ok,o9 hi,Sem.run_ite,aj hns,Sem.run_pure,an h0,g1]
    rfl
   ·have hb:base=(Array.range (n * i.size)).map (zv.cells[· % zv.cells.size]!):=by simp[base,h0]
    rw[hb] at g1;have hz:(zeroValue e).run P w=.ok zv w:=by simp[zeroValue,typeInfo,hi,nb]
    simp only[Instr.buildSlice,Sem.run_bind,run_underlying ht,Result.andThen_ok,o9 hi,Sem.run_ite,aj hns,Sem.run_pure,aj h0,hz,g1]
    rfl
  exact ⟨c',ow,hZ,by simpa using hlen,sw,AM,fun j hj=>by
   have:=g3 j (by rw[sw];exact hj)
   simpa using this⟩
theorem qju (hm:MemR B w g m) (hB:B<=w.heap.size) {t e n:Nat} {sh:Sh} {ps:Array (Nat×Operand)} {ρ:Operand->AV} {ρ':Operand->Value} (hρ:∀ x,V w g (ρ x) (ρ' x)) {v:AV} (ht:P.underlying t=some (.slice e)) (he:nw P e sh=true) (mV:ps.toList.map (·.1)=List.range n)
  (hn:n * sh.size<=16777216) (h:fh sh (ps.toList.map fun p=>ρ p.2)=some v):nV P B w g (Instr.buildSlice t n (ps.map fun (i,x)=>(i,ρ' x))) v m:=by
 obtain ⟨i,zv,hi,hs,iU,nb,sO,tO⟩:=tD he
 have ou:n<=maxLen:=by
  have h1:n<=n * sh.size:=Nat.le_mul_of_pos_right _ (by omega);simp only[maxLen];omega
 unfold fh at h
 split at h
 ·rename_i hall;simp only[bG] at h;subst h
  obtain ⟨c,ow,hZ,vc,sw,AM,hv⟩:=Ti hm hB hρ ht he mV hn (fQ.2 fun x hx=>by
   have:=fQ.1 hall x hx;simp only[bT] at this
   exact this.1)
  have hpl:∀ x∈(ps.toList.map fun p=>ρ p.2).map lO,cZ sh x=true/\pl x=true:=fun x hx=>by
   obtain ⟨y,hy,rfl⟩:=iX.1 hx;have:=fQ.1 hall y hy;simpa only[bT] using this
  generalize (ps.toList.map fun p=>ρ p.2).map lO=es at *;obtain ⟨s,hm'⟩:=hm.alloc_imm hB (.cells c e)
  have hV:=Hd (w:=w.alloc (.cells c e)) (g:=g) (sh:=sh) (o:=.full) (es:=es) (cap:=n) (heap_alloc_new w _) (by omega) ou hpl (by rw[sw,hZ];exact aR _) (fun j hj=>by
    rw[sw] at hj
    exact (hv j hj).step s) (fun j _ h=>vT _ (hm.wrLt _ _ h)) (fun h=>vT _ (hm.boxLt _ h)) (show n=es.length from sw.symm)
  rw[sw] at hV;exact ⟨_,_,g,ow,s,hm',hV⟩
 ·split at h
  ·rename_i hall;simp only[bG] at h;subst h;obtain ⟨c,ow,hZ,vc,sw,AM,hv⟩:=Ti hm hB hρ ht he mV hn hall;obtain ⟨s,hm'⟩:=hm.alloc_imm hB (.cells c e);rw[vc];generalize (ps.toList.map fun p=>ρ p.2).map lO=es at *;have hfl:=si AM;rw[sw] at hfl;refine ⟨_,_,g,ow,s,hm',.vec n sh (c8 es) ⟨w.heap.size,0,none⟩ n (fun j=>c.getD j undef) (.inr rfl) (aR _) ou hfl (Mc AM) (fun j hj=>⟨?_,fun h=>vT _ (hm.wrLt _ _ h)⟩) (fun j hj=>(hv j (by omega)).step s)⟩;simp only[bf];rw[cell_of_row _ _ j c e (0,0) (heap_alloc_new w _)];simp[Array.getD,show j < c.size by omega]
  ·cases h
theorem qmG (hm:MemR B w g m) (hB:B<=w.heap.size) {d:Option Nat} {t e:Nat} {sh:Sh} {z l c v:AV} {m':af} {l' c':Value} (ht:P.underlying t=some (.slice e)) (hsh:je P e=some sh) (he:nw P e sh=true) (hz:rM P e=some z)
  (hl:V w g l l') (hc:V w g c c') (h:yY d sh z (pw P e) m l c=some (v,m')):nV P B w g (Instr.makeSlice t l' c') v m':=by
 obtain ⟨i,zv,hi,hs,iU,nb,sO,tO⟩:=tD he;obtain ⟨i2,zv2,hi2,Ny,rfl⟩:=E7 hz;obtain rfl:i=i2:=by simpa [hi] using hi2
 obtain rfl:zv=zv2:=by simpa [nb] using Ny
 have hb:i.bytes<=pw P e:=by simp[pw,hi];omega
 have hz2:zv.cells.size=sh.size:=by omega
 unfold yY at h
 split at h
 ·rename_i kl l kc c;cases hl;cases hc
  split at h
  ·rename_i mE;obtain ⟨⟨h0,M4,su,sk⟩,iv,hpl⟩:=mE;subst M4;simp only[bG,fe] at h;obtain ⟨rfl,rfl⟩:=h;have su:l * (i.bytes:Int)<=281474976710656:=Int.le_trans (Int.mul_le_mul_of_nonneg_left (by omega) (by omega)) su;have hr:=run_make (P:=P) w t e i zv ht hi nb kl kc l l h0 (qQ _) (by rw[Int.mul_comm];exact su) sk
   have Ii:(hG zv).cells=[hG zv]:=by
    have h1:hG zv=pq zv:=by
     unfold hG
     split
     ·exact absurd rfl (tO rfl _)
     ·rfl
    rw[h1];unfold pq;split<;>rfl
   obtain ⟨z1,z2⟩:=ZE (sh:=none) (n:=l.toNat) hz2 (fun _=>Ii) w g;obtain ⟨s,hm'⟩:=hm.alloc_imm hB (.cells (madeCells zv.cells (l.toNat * i.size)) e);have mY:i.size=1:=hs
   have hV:=Hd (w:=w.alloc (.cells (madeCells zv.cells (l.toNat * i.size)) e)) (g:=g) (sh:=none) (o:=.full) (es:=List.replicate l.toNat (hG zv)) (cap:=l.toNat) (heap_alloc_new w _) (by rw[uy];exact aR _) (by simp only[maxLen];omega)
    (fun x hx=>by
     obtain ⟨_,rfl⟩:=List.mem_replicate.1 hx
     exact ⟨iv,hpl⟩) (by rw[uy,size_madeCells,hs];exact aR _) (fun j hj=>by
     have hfl:c8 (List.replicate l.toNat (hG zv))=rN none (hG zv) l.toNat:=by
      unfold c8 rN
      induction l.toNat with
      | zero=>rfl
      | succ n ih=>rw[xM,nZ,ih,Ii];rfl
     rw[hfl];rw[uy] at hj;have:=(z2 j hj).step s;rw[WB _ _ _ (by omega) (by rw[hs];exact hj)]
     exact this) (fun j _ h=>vT _ (hm.wrLt _ _ h)) (fun h=>vT _ (hm.boxLt _ h)) (show l.toNat=(List.replicate l.toNat (hG zv)).length from List.length_replicate.symm)
   rw[uy] at hV;exact ⟨_,_,g,hr,s,hm',hV⟩
  ·cases h
 ·cases h
end
end Go.Ab
namespace Go.Ab
open Go.RowKit
mutual
theorem XO:∀ x,pl x=true->cl x=true
 | .int ..,_ | .bool _,_ | .str _,_ | .nilp,_ | .nilf,_ | .nile,_ | .nilm,_=>rfl
 | .lst _ _ o _,h=>by cases o<;>first | rfl | (simp[pl] at h)
 | .agg cs,h=>by simp only[pl] at h;simp only[cl];exact XI cs h
 | .any,h | .arr ..,h | .ptr ..,h | .vptr _,h | .tup _,h | .fn ..,h | .vec ..,h=>by simp[pl] at h
theorem XI:∀ cs,mg cs=true->uM cs=true
 | [],_=>rfl
 | c::cs,h=>by
  simp only[mg,bT] at h;simp only[uM,bT];exact ⟨XO c h.1,XI cs h.2⟩
end
mutual
theorem XP:∀ x,pl x=true->iQ x=true
 | .int ..,_ | .bool _,_ | .str _,_ | .nilp,_ | .nilf,_ | .nile,_ | .nilm,_ | .lst ..,_=>rfl
 | .agg cs,h=>by simp only[pl] at h;simp only[iQ];exact OC cs h
 | .any,h | .arr ..,h | .ptr ..,h | .vptr _,h | .tup _,h | .fn ..,h | .vec ..,h=>by simp[pl] at h
theorem OC:∀ cs,mg cs=true->mf cs=true
 | [],_=>rfl
 | c::cs,h=>by
  simp only[mg,bT] at h;simp only[mf,bT];exact ⟨XP c h.1,OC cs h.2⟩
end
theorem OB:∀ {cs:List AV},mg cs=true->∀ x∈cs,pl x=true
 | [],_,x,hx=>by simp at hx
 | c::cs,h,x,hx=>by
  simp only[mg,bT] at h
  rcases gB.1 hx with rfl | hx
  ·exact h.1
  ·exact OB h.2 x hx
theorem C8:∀ {cs:List AV},uM cs=true->∀ x∈cs,cl x=true
 | [],_,x,hx=>by simp at hx
 | c::cs,h,x,hx=>by
  simp only[uM,bT] at h
  rcases gB.1 hx with rfl | hx
  ·exact h.1
  ·exact C8 h.2 x hx
theorem Tv:∀ {cs:List AV},(∀ x∈cs,cl x=true)->uM cs=true
 | [],_=>rfl
 | c::cs,h=>by
  simp only[uM,bT];exact ⟨h c (by simp),Tv fun x hx=>h x (by simp[hx])⟩
theorem y5:∀ {cs:List AV},mf cs=true->∀ x∈cs,iQ x=true
 | [],_,x,hx=>by simp at hx
 | c::cs,h,x,hx=>by
  simp only[mf,bT] at h
  rcases gB.1 hx with rfl | hx
  ·exact h.1
  ·exact y5 h.2 x hx
theorem XM {x:AV} (h:pl x=true):∀ c∈x.cells,pl c=true:=by
 intro c hc
 cases x<;>first | (simp[AV.cells] at hc;subst hc;exact h) | (simp[pl] at h;done) | skip
 rename_i cs;simp only[pl] at h;exact OB h c hc
theorem py {cs:List AV} {j:Nat} (h:j < cs.length):cs.getD j .any∈cs:=by
 rw[aT,bA h];exact bM h
section
variable [WInv] {w:World} {g g2:G}
theorem Sn {x:AV} {v:Value} {nv:Bool} (h:V w g x v) (hc:cl x=true) (hn:nv=true->iQ x=true) (rB:∀ b off,g2.wr b off->g.wr b off\/g.box b/\nv=true) (hbx:∀ b,g2.box b->g.box b):V w g2 x v:=by
 induction h with
 | any=>exact .any _
 | int=>exact .int _ _
 | bool=>exact .bool _
 | str=>exact .str _
 | nils sh o ho=>exact .nils sh o ho
 | lst sh o es a cap us hs Dw hm hsh hcell hv ho ih=>
  refine .lst sh o es a cap us hs Dw hm hsh (fun j hj=>?_) (fun j hj=>ih j hj ?_ fun _=>?_) ?_
  ·obtain ⟨h1,h2,h3⟩:=hcell j hj;exact ⟨h1,fun h=>(rB _ _ h).elim h2 fun h=>h3 h.1,fun h=>h3 (hbx _ h)⟩
  ·obtain ⟨e,he,hx⟩:=List.mem_flatMap.1 (py hj);exact XO _ (XM (hsh e he).2 _ hx)
  ·obtain ⟨e,he,hx⟩:=List.mem_flatMap.1 (py hj);exact XP _ (XM (hsh e he).2 _ hx)
  ·cases o with
   | no=>trivial
   | full=>exact ho
   | tok=>simp[cl] at hc
 | arr=>simp[cl] at hc
 | ptr=>simp[cl] at hc
 | mref=>simp[cl] at hc
 | vec=>simp[cl] at hc
 | vptr cs b off us hcell hv ih=>
  simp only[cl] at hc
  have vf:nv=false:=by
   cases nv with
   | false=>rfl
   | true=>have:=hn rfl;simp[iQ] at this
  subst vf;refine .vptr cs b off us (fun j hj=>?_) (fun j hj=>ih j hj (C8 hc _ (py hj)) (fun h=>by cases h));obtain ⟨h1,h2⟩:=hcell j hj;exact ⟨h1,fun h=>(rB _ _ h).elim h2 fun h=>by cases h.2⟩
 | nilp=>exact .nilp
 | nilf=>exact .nilf
 | nile=>exact .nile
 | nilm=>exact .nilm
 | agg cs vs hl hv ih=>
  simp only[cl] at hc;exact .agg cs vs hl fun j hj=>ih j hj (C8 hc _ (py hj)) fun h=>y5 (by simpa [iQ] using hn h) _ (py hj)
 | tup cs vs hl hv ih=>
  simp only[cl] at hc;exact .tup cs vs hl fun j hj=>ih j hj (C8 hc _ (py hj)) fun h=>y5 (by simpa [iQ] using hn h) _ (py hj)
 | fn f cs vs hl hv ih=>
  simp only[cl] at hc;exact .fn f cs vs hl fun j hj=>ih j hj (C8 hc _ (py hj)) fun h=>y5 (by simpa [iQ] using hn h) _ (py hj)
theorem Lm {x:AV} {v:Value} (h:V w g x v) (hc:cl x=true) (rB:∀ b off,g2.wr b off->g.wr b off) (hbx:∀ b,g2.box b->g.box b):V w g2 x v:=
 Sn (nv:=false) h hc (fun h=>by cases h) (fun b off h=>.inl (rB b off h)) hbx
theorem Ec (f:AV->Option (AV×List Nat)):∀ (cs rs:List AV) (l:List Nat),fD f cs=some (rs,l)->rs.length=cs.length/\(∀ j,j < cs.length->∃ lj,f (cs.getD j .any)=some (rs.getD j .any,lj)/\∀ nm∈lj,nm∈l)/\∀ nm∈l,∃ j lj,j < cs.length/\f (cs.getD j .any)=some (rs.getD j .any,lj)/\nm∈lj
 | [],rs,l,h=>by simp[fD] at h;obtain ⟨rfl,rfl⟩:=h;simp
 | c::cs,rs,l,h=>by
  simp only[fD,bc,gG,fe] at h;obtain ⟨⟨r,l1⟩,h1,⟨rs',l2⟩,h2,rfl,rfl⟩:=h;obtain ⟨k1,k2,k3⟩:=Ec f cs rs' l2 h2
  refine ⟨by simp[k1],fun j hj=>?_,fun nm pX=>?_⟩
  ·cases j with
   | zero=>exact ⟨l1,by simpa using h1,fun nm hn=>im.2 (.inl hn)⟩
   | succ j=>
    obtain ⟨lj,a1,a2⟩:=k2 j (by simpa using hj);exact ⟨lj,by simpa using a1,fun nm hn=>im.2 (.inr (a2 nm hn))⟩
  ·rcases im.1 pX with hn | hn
   ·exact ⟨0,l1,by simp,by simpa using h1,hn⟩
   ·obtain ⟨j,lj,a1,a2,a3⟩:=k3 nm hn;exact ⟨j+1,lj,by simpa using a1,by simpa using a2,a3⟩
theorem Us (n:Nat) (hn:0 < n):∀ (k:Nat) (cs:List AV),cs.length=k * n->(qw n k cs).length=k/\(qw n k cs).flatten=cs/\∀ x∈qw n k cs,x.length=n/\∀ c∈x,c∈cs
 | 0,cs,h=>by
  have:cs=[]:=nY (by simpa using h);subst this;simp[qw]
 | k+1,cs,h=>by
  rw[qq] at h;obtain ⟨h1,h2,h3⟩:=Us n hn k (cs.drop n) (by simp;omega);refine ⟨by simp[qw,h1],by simp[qw,h2],fun x hx=>?_⟩;simp only[qw,gB] at hx
  rcases hx with rfl | hx
  ·exact ⟨by simp;omega,fun c hc=>Gu hc⟩
  ·exact ⟨(h3 x hx).1,fun c hc=>List.mem_of_mem_drop ((h3 x hx).2 c hc)⟩
theorem qkN {sh:Sh} {k:Nat} {cs:List AV} (hl:cs.length=k * sh.size) (iU:0 < sh.size) (iv:∀ c∈cs,ff c=true) (hpl:∀ c∈cs,pl c=true) :
  (lW sh k cs).length=k/\c8 (lW sh k cs)=cs/\∀ e∈lW sh k cs,cZ sh e=true/\pl e=true:=by
 cases sh with
 | none=>
  simp only[Sh.size,mq] at hl;have ht:cs.take k=cs:=kY (by omega);simp only[lW,ht];refine ⟨hl,?_,fun e he=>⟨iv e he,hpl e he⟩⟩
  have pW:∀ l:List AV,(∀ c∈l,ff c=true)->c8 l=l:=by
   intro l
   induction l with
   | nil=>intro _;rfl
   | cons c l ih=>
    intro h
    have hc:c.cells=[c]:=by
     have:=h c (by simp)
     cases c<;>first | rfl | (simp[ff] at this)
    show c.cells++c8 l=c::l;rw[hc,ih fun x hx=>h x (by simp[hx])];rfl
  exact pW cs iv
 | some n=>
  simp only[Sh.size] at hl iU;obtain ⟨h1,h2,h3⟩:=Us n iU k cs hl
  have qlD:∀ l:List AV,(∀ c∈l,pl c=true)->mg l=true:=by
   intro l
   induction l with
   | nil=>intro _;rfl
   | cons c l ih=>intro h;simp only[mg,bT];exact ⟨h c (by simp),ih fun x hx=>h x (by simp[hx])⟩
  refine ⟨by simp[lW,h1],?_,fun e he=>?_⟩
  ·have hfl:∀ L:List (List AV),c8 (L.map .agg)=L.flatten:=by
    intro L
    induction L with
    | nil=>rfl
    | cons x L ih=>
     show (AV.agg x).cells++c8 (L.map .agg)=x++L.flatten;rw[ih];rfl
   show c8 ((qw n k cs).map .agg)=cs;rw[hfl,h2]
  ·obtain ⟨x,hx,rfl⟩:=iX.1 he;obtain ⟨a1,a2⟩:=h3 x hx
   refine ⟨?_,?_⟩
   ·simp only[cZ,bT,tu,fQ];exact ⟨a1,fun c hc=>iv c (a2 c hc)⟩
   ·simp only[pl];exact qlD x fun c hc=>hpl c (a2 c hc)
variable {B:Nat} {m:af}
theorem yj (hm:MemR B w g m):∀ (k:Nat) (x x':AV) (l:List Nat) (v:Value),V w g x v->bH m k x=some (x',l) ->
  (∀ nm∈l,∃ cs,m.get nm=some (.obj false cs))/\cl x'=true /\
  ∀ g2:G,(∀ b off,g2.wr b off->g.wr b off)->(∀ b,g2.box b->g.box b)->(∀ nm∈l,∀ b,g.loc nm=some b->∀ off,¬ g2.wr b off)->(iQ x'=true\/∀ nm cs b,m.get nm=some (.obj true cs)->g.loc nm=some b->∀ off,¬ g2.wr b off)->V w g2 x' v:=by
 intro k
 induction k with
 | zero=>intro x x' l v _ h;simp[bH] at h
 | succ k ih=>
  intro x x' l v hV h
  have jl:∀ (cs rs:List AV) (l:List Nat) (f:Nat->Value),(∀ j,j < cs.length->V w g (cs.getD j .any) (f j))->fD (bH m k) cs=some (rs,l) ->
    (∀ nm∈l,∃ cs,m.get nm=some (.obj false cs))/\uM rs=true/\rs.length=cs.length /\
    ∀ g2:G,(∀ b off,g2.wr b off->g.wr b off)->(∀ b,g2.box b->g.box b)->(∀ nm∈l,∀ b,g.loc nm=some b->∀ off,¬ g2.wr b off)->(mf rs=true\/∀ nm cs b,m.get nm=some (.obj true cs)->g.loc nm=some b->∀ off,¬ g2.wr b off)->∀ j,j < rs.length->V w g2 (rs.getD j .any) (f j):=by
   intro cs rs l f hv qx;obtain ⟨k1,k2,k3⟩:=Ec _ _ _ _ qx
   refine ⟨fun nm hn=>?_,Tv fun x hx=>?_,k1,fun g2 c1 c2 c3 c4 j hj=>?_⟩
   ·obtain ⟨j,lj,a1,a2,a3⟩:=k3 nm hn;exact (ih _ _ _ _ (hv j a1) a2).1 nm a3
   ·obtain ⟨j,hj,rfl⟩:=Cx.1 hx;obtain ⟨lj,a1,_⟩:=k2 j (by omega);have:=(ih _ _ _ _ (hv j (by omega)) a1).2.1;simpa [aT,hj] using this
   ·obtain ⟨lj,a1,a2⟩:=k2 j (by omega);refine (ih _ _ _ _ (hv j (by omega)) a1).2.2 g2 c1 c2 (fun nm hn=>c3 nm (a2 nm hn)) (c4.imp (fun h=>?_) id);exact y5 h _ (py hj)
  cases hV with
  | any=>simp[bH] at h;obtain ⟨rfl,rfl⟩:=h;exact ⟨by simp,rfl,fun _ _ _ _ _=>.any _⟩
  | int=>simp[bH] at h;obtain ⟨rfl,rfl⟩:=h;exact ⟨by simp,rfl,fun _ _ _ _ _=>.int _ _⟩
  | bool=>simp[bH] at h;obtain ⟨rfl,rfl⟩:=h;exact ⟨by simp,rfl,fun _ _ _ _ _=>.bool _⟩
  | str=>simp[bH] at h;obtain ⟨rfl,rfl⟩:=h;exact ⟨by simp,rfl,fun _ _ _ _ _=>.str _⟩
  | nilp=>simp[bH] at h;obtain ⟨rfl,rfl⟩:=h;exact ⟨by simp,rfl,fun _ _ _ _ _=>.nilp⟩
  | nilf=>simp[bH] at h;obtain ⟨rfl,rfl⟩:=h;exact ⟨by simp,rfl,fun _ _ _ _ _=>.nilf⟩
  | nile=>simp[bH] at h;obtain ⟨rfl,rfl⟩:=h;exact ⟨by simp,rfl,fun _ _ _ _ _=>.nile⟩
  | nilm=>simp[bH] at h;obtain ⟨rfl,rfl⟩:=h;exact ⟨by simp,rfl,fun _ _ _ _ _=>.nilm⟩
  | vec=>simp[bH] at h
  | mref=>simp[bH] at h;obtain ⟨rfl,rfl⟩:=h;exact ⟨by simp,rfl,fun _ _ _ _ _=>.any _⟩
  | nils sh o ho=>
   rcases ho with rfl | rfl<;>(simp[bH] at h;obtain ⟨rfl,rfl⟩:=h;exact ⟨by simp,rfl,fun _ _ _ _ _=>.nils _ _ (by simp)⟩)
  | lst sh o es a cap us hs hc hmx hsh hcell hv ho=>
   have wK:V w g (.lst sh false .no es) (.slice (some a) es.length cap):=.lst sh .no es a cap us hs hc hmx hsh hcell hv trivial;have UE:V w g (.lst sh false o es) (.slice (some a) es.length cap):=.lst sh o es a cap us hs hc hmx hsh hcell hv ho
   cases o with
   | no=>simp[bH] at h;obtain ⟨rfl,rfl⟩:=h;exact ⟨by simp,rfl,fun g2 c1 c2 _ _=>Lm UE rfl c1 c2⟩
   | full=>simp[bH] at h;obtain ⟨rfl,rfl⟩:=h;exact ⟨by simp,rfl,fun g2 c1 c2 _ _=>Lm UE rfl c1 c2⟩
   | tok=>simp[bH] at h;obtain ⟨rfl,rfl⟩:=h;exact ⟨by simp,rfl,fun g2 c1 c2 _ _=>Lm wK rfl c1 c2⟩
  | arr nm off n sh a cap hs hc hmx hl=>
   simp only[bH,bc] at h;obtain ⟨⟨bx,cs⟩,pY,h⟩:=h;simp only at h
   split at h
   ·rename_i mE;simp only[bT,xA,nt] at mE;obtain ⟨rfl,hle⟩:=mE;simp only[bc] at h;obtain ⟨⟨rs,l1⟩,qx,h⟩:=h;simp only at h
    split at h
    ·rename_i be;simp only[bT,fQ] at be;obtain ⟨iv,hpl⟩:=be;simp only[bG,fe] at h;obtain ⟨rfl,rfl⟩:=h;have aU:=obj?_get pY;obtain ⟨b,c,e,o1,o2,o3,o4,o5,o6,o7⟩:=hm.obj nm false cs aU
     obtain ⟨p1,p2,p3,p4⟩:=jl ((cs.drop off).take (n * sh.size)) rs l1 (fun j=>c.getD (off+j) undef) (fun j hj=>by
      simp only[ji,qS] at hj;have:=o5 (off+j) (by omega)
      simpa [aT,qo,rV,show j < n * sh.size by omega] using this) qx
     have DQ:rs.length=n * sh.size:=by rw[p3];simp;omega
     refine ⟨fun x hx=>?_,rfl,fun g2 c1 c2 c3 c4=>?_⟩
     ·rcases gB.1 hx with rfl | hx
      ·exact ⟨cs,aU⟩
      ·exact p1 x hx
     ·have hrs:∀ c∈rs,pl c=true:=OB hpl
      by_cases lF:n=0
      ·subst lF;have UZ:lW sh 0 rs=[]:=by cases sh<;>simp[lW,qw]
       rw[UZ];exact .lst sh .no [] a cap (fun _=>undef) hs (mw _) hmx (by simp) (by simp) (by simp) trivial
      ·obtain ⟨mW,ha⟩:=hl.resolve_left lF;obtain rfl:a.block=b:=by simpa [mW] using o1
       by_cases hsz:sh.size=0
       ·
        cases sh with
        | none=>simp[Sh.size] at hsz
        | some s=>
         simp only[Sh.size] at hsz;subst hsz;have vd:rs=[]:=nY (by rw[DQ];simp[Sh.size]);subst vd
         have hg:∀ n,qw 0 n ([]:List AV)=List.replicate n []:=by
          intro n
          induction n with
          | zero=>rfl
          | succ n ih=>simp[qw,ih,xM]
         have hes:lW (some 0) n []=List.replicate n (.agg []):=by simp[lW,hg]
         have hlen:n=(lW (some 0) n []).length:=by rw[hes];simp
         have hfl:c8 (lW (some 0) n [])=[]:=by
          rw[hes]
          have:∀ n,c8 (List.replicate n (.agg []))=[]:=by
           intro n
           induction n with
           | zero=>rfl
           | succ n ih=>
            show (AV.agg []).cells++c8 (List.replicate n (.agg []))=[];rw[ih];rfl
          exact this n
         have hV:=V.lst (w:=w) (g:=g2) (some 0) .no (lW (some 0) n []) a cap (fun _=>undef) hs (by omega) hmx (fun e he=>by
          rw[hes] at he;obtain rfl:=List.eq_of_mem_replicate he
          exact ⟨rfl,rfl⟩) (by rw[hfl];simp) (by rw[hfl];simp) trivial
         rw[<- hlen] at hV;exact hV
       ·obtain ⟨q1,q2,q3⟩:=qkN DQ (by omega) iv hrs
        have hV:=V.lst (w:=w) (g:=g2) sh .no (lW sh n rs) a cap (fun j=>c.getD (off+j) undef) hs (by omega) hmx q3 (fun j hj=>by
          rw[q2,DQ] at hj;have qkS:a.off=off:=by rw[ha.1]
          refine ⟨?_,c3 nm (by simp) _ mW _,fun hb=>?_⟩
          ·rw[qkS,cell_of_row w _ _ c e (0,0) o3];simp[Array.getD,show off+j < c.size by omega]
          ·have:=o7.1 (c2 _ hb)
           cases this) (fun j hj=>by
          rw[q2] at hj ⊢;refine p4 g2 c1 c2 (fun x hx=>c3 x (by simp[hx])) (.inl ?_) j hj
          exact OC rs hpl) trivial
        rw[q1] at hV;exact hV
    ·cases h
   ·cases h
  | ptr nm off b hl=>
   simp only[bH,bc] at h;obtain ⟨⟨bx,cs⟩,pY,h⟩:=h;simp only at h
   split at h
   ·rename_i hbx;simp only[gG,fe] at h;obtain ⟨⟨rs,l1⟩,qx,rfl,rfl⟩:=h;have aU:=obj?_get pY;obtain ⟨b',c,e,o1,o2,o3,o4,o5,o6,o7⟩:=hm.obj nm bx cs aU;obtain rfl:b=b':=by simpa [hl] using o1
    obtain ⟨p1,p2,p3,p4⟩:=jl (cs.drop off) rs l1 (fun j=>c.getD (off+j) undef) (fun j hj=>by
     simp only[qS] at hj;have:=o5 (off+j) (by omega)
     simpa [aT,rV] using this) qx
    refine ⟨p1,by simpa [cl] using p2,fun g2 c1 c2 c3 c4=>?_⟩;have c4':=c4.resolve_left (by simp[iQ]);refine .vptr rs b off (fun j=>c.getD (off+j) undef) (fun j hj=>?_) (p4 g2 c1 c2 c3 (.inr c4'));rw[p3] at hj;simp only[qS] at hj;refine ⟨?_,c4' nm cs _ (hbx▸aU) hl _⟩;rw[cell_of_row w _ _ c e (0,0) o3];simp[Array.getD,show off+j < c.size by omega]
   ·cases h
  | vptr cs b off us hcell hv=>
   simp only[bH,gG,fe] at h;obtain ⟨⟨rs,l1⟩,qx,rfl,rfl⟩:=h;obtain ⟨p1,p2,p3,p4⟩:=jl cs rs l1 us hv qx;refine ⟨p1,by simpa [cl] using p2,fun g2 c1 c2 c3 c4=>?_⟩;refine .vptr rs b off us (fun j hj=>?_) (p4 g2 c1 c2 c3 (.inr (c4.resolve_left (by simp[iQ]))));rw[p3] at hj;exact ⟨(hcell j hj).1,fun h=>(hcell j hj).2 (c1 _ _ h)⟩
  | agg cs vs hl hv=>
   simp only[bH,gG,fe] at h;obtain ⟨⟨rs,l1⟩,qx,rfl,rfl⟩:=h;obtain ⟨p1,p2,p3,p4⟩:=jl cs rs l1 _ hv qx;exact ⟨p1,by simpa [cl] using p2,fun g2 c1 c2 c3 c4=>.agg _ _ (p3.trans hl) (p4 g2 c1 c2 c3 (c4.imp (fun h=>by simpa [iQ] using h) id))⟩
  | tup cs vs hl hv=>
   simp only[bH,gG,fe] at h;obtain ⟨⟨rs,l1⟩,qx,rfl,rfl⟩:=h;obtain ⟨p1,p2,p3,p4⟩:=jl cs rs l1 _ hv qx;exact ⟨p1,by simpa [cl] using p2,fun g2 c1 c2 c3 c4=>.tup _ _ (p3.trans hl) (p4 g2 c1 c2 c3 (c4.imp (fun h=>by simpa [iQ] using h) id))⟩
  | fn f cs vs hl hv=>
   simp only[bH,gG,fe] at h;obtain ⟨⟨rs,l1⟩,qx,rfl,rfl⟩:=h;obtain ⟨p1,p2,p3,p4⟩:=jl cs rs l1 _ hv qx;exact ⟨p1,by simpa [cl] using p2,fun g2 c1 c2 c3 c4=>.fn _ _ _ (p3.trans hl) (p4 g2 c1 c2 c3 (c4.imp (fun h=>by simpa [iQ] using h) id))⟩
end
end Go.Ab
namespace Go.Ab
open Go.RowKit
def te [WInv] (P:Program) (f:Nat) (args:List AV) (m:af) (v:AV) (m':af):Prop:=
 ∀ (B:Nat) (w:World) (g:G) (vs:Array Value),MemR B w g m->B<=w.heap.size->args.length=vs.size->(∀ j,j < args.length->V w g (args.getD j .any) (vs.getD j undef)) ->
  Calls P f vs w fun e w'=>∃ v' g',e=.returned v'/\Step B w g w' g'/\MemR B w' g' m'/\V w' g' v v'
def BZ (P:Program) (d:Deferred):Prop:=∃ fv cap f args,d.target=.fn fv cap/\∀ w,(invoke d.target d.args).run P w=.ok (.enter f args) w/\CallsD P f args .returning w fun e u w'=>(∃ v,e=.returned v)/\u=.returning/\w'=w
def JG (P:Program) (ds:List Deferred):Prop:=∀ d∈ds,BZ P d
def iN (P:Program) (a' a:Act):Prop:=JG P a.defers->JG P a'.defers
theorem iN.refl (P:Program) (a:Act):iN P a a:=fun h=>h
theorem iN.trans {P:Program} {a b c:Act} (h:iN P c b) (k:iN P b a):iN P c a:=fun x=>h (k x)
theorem iN.of_eq {P:Program} {a b:Act} (h:b.defers=a.defers):iN P b a:=fun x=>by rw[h];exact x
theorem Wf {P:Program} {fn:Func} {tmps:Array Value} {R:Ending->World->Prop} {w:World} (h:∃ v,(results fn tmps).run P w=.ok v w/\R (.returned v) w):∀ ds:List Deferred,JG P ds->Leaves P fn tmps R ds .returning w
 | [],_=>h
 | d::ds,hb=>by
  obtain ⟨fv,cap,f,args,h1,h2⟩:=hb d fJ;obtain ⟨h3,h4⟩:=h2 w;refine ⟨by simp,fv,cap,f,args,h1,h3,fun c cs hc=>?_⟩;obtain ⟨e,u',w',fr,⟨⟨v,rfl⟩,rfl,rfl⟩,h5⟩:=h4 c cs hc;exact ⟨_,_,_,fr,Wf h ds fun d hd=>hb d (fI _ hd),h5⟩
structure CfgOk [WInv] (C:Cfg):Prop where
 ben:∀ (g:Nat),C.ben g=true->∀ caps:Array Value,BZ C.P { target:=.fn (.func g) caps,args:=#[] }
 name:∀ (g:Nat) (fn:Func),C.P.funcs[g]?=some fn->(fn.name == "runtime.NumGoroutine")=false
 lib:∀ (g:Nat) h,C.lib g=some h->(∃ fn,C.P.funcs[g]?=some fn/\fn.body.isSome)/\∀ vs v,h vs=some v->∀ m,te C.P g vs m v m
 libm:∀ (g:Nat) h,C.libm g=some h->(∃ fn,C.P.funcs[g]?=some fn/\fn.body.isSome)/\∀ vs m v m',h vs m=some (v,m')->te C.P g vs m v m'
section
variable [WInv] {C:Cfg} {B:Nat} {w:World} {g:G} {m:af}
theorem pQ.put {ts:List AV} {a:Act} (h:pQ w g ts a.tmps) {v:AV} {v':Value} (hv:V w g v v') (d:Option Nat):pQ w g (fZ ts d v) (a.put d v').tmps:=by
 cases d with
 | none=>exact h
 | some d=>
  refine ⟨by simp[fZ,Act.put,h.1],fun t=>?_⟩;simp only[fZ,Act.put,aT,jq,List.getElem?_set,E8]
  by_cases he:d=t
  ·subst he
   by_cases hl:d < ts.length
   ·have yz:d < a.tmps.size:=by have:=h.1;omega
    simp only[an hl,an yz,bq,fg];exact hv
   ·have yz:¬ d < a.tmps.size:=by have:=h.1;omega
    simp only[aj hl,aj yz,bq,Option.getD_none];exact .any _
  ·simp only[aj he];simpa [aT,jq] using h.2 t
theorem XW (a:Act) (d:Option Nat) (v:Value):(a.put d v).defers=a.defers:=by cases d<;>rfl
theorem TW {ts:List AV} {a:Act} (h:pQ w g ts a.tmps) (x:Operand):V w g (ev ts x) (a.eval x):=by
 cases x with
 | tmp t=>exact h.2 t
 | const v=>exact Sr w g v
 | global _=>exact .any _
 | func f=>exact .fn f [] #[] rfl (by simp)
theorem qpF {P:Program} {o:Oper} {a:Act} {next:Act->World->Prop} {Q:Exit->Act->World->Prop} {v:AV} {m':af} {s:Sem Value} (hs:∀ w,(execOp a.eval o).run P w=(do pure (.value (<- s)):Sem Next).run P w) (h:nV P B w g s v m')
  (hn:∀ v' w' g',Step B w g w' g'->MemR B w' g' m'->V w' g' v v'->next (a.put o.dst v') w'):o.wp P a w next Q:=by
 obtain ⟨v',w',g',h1,h2,h3,h4⟩:=h;unfold Oper.wp;rw[hs];simp only[Sem.run_bind,h1,Result.andThen_ok,Sem.run_pure];exact hn v' w' g' h2 h3 h4
theorem qpE {P:Program} {o:Oper} {a:Act} {next:Act->World->Prop} {Q:Exit->Act->World->Prop} {c:Call} {fo:Operand} (ho:o.op=.call c) (hc:c.callee=.value fo) {f:Nat} {caps:Array Value} (hf:a.eval fo=.func (.func f) #[] caps)
  {fn:Func} (hfn:P.funcs[f]?=some fn) (hname:(fn.name == "runtime.NumGoroutine")=false) (hbody:fn.body.isSome) {R:Ending->World->Prop} (h:Calls P f (c.args.map a.eval++caps) w R)
  (hR:∀ e w',R e w'->∃ v',e=.returned v'/\next (a.put o.dst v') w'):o.wp P a w next Q:=by
 have ow:(execOp a.eval o).run P w=.ok (.enter f (c.args.map a.eval++caps)) w:=by
  have hb:fn.body.isNone=false:=by cases hb:fn.body<;>simp_all
  simp only[execOp,ho,resolve,hc,hf,Deferred.ofValue,invoke,callFunc,hfn,hname,hb,Sem.run_bind,Sem.run_pure,run_program,Result.andThen_ok,jM,lL,Array.empty_append]
 unfold Oper.wp;rw[ow,Oper.upon_enter];refine h.mono fun e w' hr=>?_;obtain ⟨v',rfl,hn⟩:=hR e w' hr;exact hn
def Ao (g:G) (m:af) (l:List Nat) (ex:Bool):G where
 wr b off:=g.wr b off/\(¬ ∃ nm∈l,g.loc nm=some b)/\(ex=true->¬ ∃ nm cs,m.get nm=some (.obj true cs)/\g.loc nm=some b)
 box:=g.box
 loc _:=none
 tloc _ _:=none
def qt (g:G) (l:List Nat) (bx:Nat->Prop):G where
 wr b off:=g.wr b off/\¬ ∃ nm∈l,g.loc nm=some b
 box:=bx
 loc:=g.loc
 tloc:=g.tloc
theorem kH:∀ (l:List Nat) (m:af) (nm:Nat),af.get (jm m l) nm=if nm∈l then none else m.get nm
 | [],m,nm=>by simp[jm]
 | x::l,m,nm=>by
  have:=kH l (m.set x none) nm;show af.get (jm (m.set x none) l) nm=_;rw[this,gC]
  by_cases h1:nm∈l
  ·simp[h1]
  ·by_cases h2:nm=x
   ·subst h2;simp
   ·simp[h1,h2]
theorem Bc:∀ (l:List Nat) (m:af),(jm m l).length=m.length
 | [],m=>rfl
 | x::l,m=>by
  show (jm (m.set x none) l).length=_;rw[Bc l];simp
theorem qg2 (hm:MemR B w g m) (hB:B<=w.heap.size) {w':World} {gb:G} {mk:af} (gI:Step B w g w' gb) (lZ:MemR B w' gb mk) (hlen:mk.length=m.length) (tJ:gb.loc=g.loc) (HY:gb.tloc=g.tloc) (gS:∀ nm e,mk.get nm=some e->m.get nm=some e)
  (hblk:∀ b,b < w.heap.size->w'.heap[b]?=w.heap[b]?) {b:Nat} {c:Array Value} {e:TypeId} {cs:List AV} (hb:w.heap.size<=b) (sy:w'.heap[b]?=some (Obj.cells c e (0,0))) (hZ:cs.length<=c.size) (sr:¬ gb.box b)
  (hV:∀ j,j < cs.length->V w' (gJ gb m.length b false) (cs.getD j .any) (c.getD j undef)) :
  Step B w g w' (gJ gb m.length b false)/\MemR B w' (gJ gb m.length b false) (mk++[some (.obj false cs)]):=by
 have nB:=hm.fresh m.length (aR _)
 have s:Step B w g w' (gJ gb m.length b false):=by
  refine ⟨gI.below,gI.cell,gI.shape,fun b' off iB hn h=>?_,fun b' off iB=>?_,fun b' iB=>?_,fun nm b' h=>?_,fun nm n b' h=>gI.tloc nm n b' h⟩
  ·rcases h with h | h
   ·omega
   ·exact gI.wr b' off iB hn h
  ·constructor
   ·rintro (h | h)
    ·omega
    ·exact (gI.wrB b' off iB).1 h
   ·exact fun h=>.inr ((gI.wrB b' off iB).2 h)
  ·simp only[gJ,jM,false_and,false_or];exact gI.box b' iB
  ·simp only[gJ]
   split
   ·rename_i he;rw[he,nB.1] at h;cases h
   ·exact gI.loc nm b' h
 have aU:∀ x,af.get (mk++[some (.obj false cs)]) x=if x < m.length then mk.get x else if x=m.length then some (.obj false cs) else none:=by
  intro x;unfold af.get;rw[qn,hlen]
  by_cases h1:x < m.length
  ·rw[an h1,an h1]
  ·rw[aj h1,aj h1]
   by_cases h2:x=m.length
   ·rw[an h2,h2,pP];rfl
   ·rw[aj h2,mQ (by simp;omega)];rfl
 have UL:∀ x b',a8 (gJ gb m.length b false) (mk++[some (.obj false cs)]) x=some b'->(x < m.length/\a8 gb mk x=some b'/\b' < w.heap.size)\/(x=m.length/\b'=b):=by
  intro x b' iB
  rcases pR iB with ⟨bx',cs',h1,h2⟩ | ⟨n',sz',h1,h2⟩ | ⟨kk,es,h1,h2⟩
  rotate_left 2
  ·rw[aU] at h1
   split at h1
   ·rename_i hlt;simp only[gJ,aj (Nat.ne_of_lt hlt)] at h2;refine .inl ⟨hlt,by simp[a8,h1,h2],?_⟩;obtain ⟨b0,es0,cl0,o1,o2,o3,_⟩:=hm.mp x kk es (gS _ _ h1);rw[tJ] at h2;obtain rfl:b'=b0:=by simpa [h2] using o1
    exact (fE.1 o3).1
   ·split at h1<;>cases h1
  ·rw[aU] at h1
   split at h1
   ·rename_i hlt;simp only[gJ,aj (Nat.ne_of_lt hlt)] at h2;refine .inl ⟨hlt,by simp[a8,h1,h2],?_⟩;obtain ⟨b0,c0,e0,o1,o2,o3,_⟩:=hm.obj x bx' cs' (gS _ _ h1);rw[tJ] at h2;obtain rfl:b'=b0:=by simpa [h2] using o1
    exact (fE.1 o3).1
   ·split at h1
    ·rename_i he;simp only[gJ,an he] at h2;exact .inr ⟨he,by simpa using h2.symm⟩
    ·cases h1
  ·rw[aU] at h1
   split at h1
   ·rename_i hlt
    refine .inl ⟨hlt,?_,?_⟩
    ·simp only[gJ] at h2;simp[a8,h1,h2]
    ·obtain ⟨b0,c0,e0,o1,o2,o3,_⟩:=hm.tok x n' sz' (gS _ _ h1);simp only[gJ] at h2;rw[HY] at h2;obtain rfl:b'=b0:=by simpa [h2] using o1
     exact (fE.1 o3).1
   ·split at h1<;>cases h1
 refine ⟨s,?_,?_,?_,?_,?_,?_,?_,?_,?mp⟩
 case mp=>
  intro x kk es hn;rw[aU] at hn
  split at hn
  ·rename_i hlt;obtain ⟨b1,es1,cl1,h1,h2,h3,h4⟩:=hm.mp x kk es (gS _ _ hn);exact ⟨b1,es1,cl1,by simp only[gJ];rw[aj (Nat.ne_of_lt hlt),tJ];exact h1,h2,(hblk b1 (fE.1 h3).1).trans h3,h4.step s⟩
  ·split at hn<;>cases hn
 ·intro x bx' cs' hn;rw[aU] at hn
  split at hn
  ·rename_i hlt;obtain ⟨b1,c1,e1,h1,h2,h3,h4,h5,h6,h7⟩:=hm.obj x bx' cs' (gS _ _ hn);obtain ⟨b2,c2,e2,k1,k2,k3,k4,k5,k6,k7⟩:=lZ.obj x bx' cs' hn;rw[tJ] at k1;obtain rfl:b1=b2:=by simpa [h1] using k1
   have mW:=(fE.1 h3).1;refine ⟨b1,c1,e1,s.loc _ _ h1,h2,(hblk b1 mW).trans h3,h4,fun j hj=>(h5 j hj).step s,fun off=>.inr (k6 off),?_⟩;simp only[gJ,jM,false_and,false_or];exact k7
  ·split at hn
   ·rename_i he;simp only[bG,Ent.obj.injEq] at hn;obtain ⟨rfl,rfl⟩:=hn;refine ⟨b,c,e,by simp[gJ,he],by omega,sy,hZ,hV,fun off=>.inl rfl,?_⟩;simp only[gJ,jM,false_and,false_or,iff_false];exact sr
   ·cases hn
 ·intro x n sz hn;rw[aU] at hn
  split at hn
  ·obtain ⟨b1,c1,e1,h1,h2,h3,h4,h5,h6⟩:=lZ.tok x n sz hn;refine ⟨b1,c1,e1,h1,h2,h3,fun off ho=>.inr (h4 off ho),h5,?_⟩;simp only[gJ,jM,false_and,false_or];exact h6
  ·split at hn<;>cases hn
 ·intro x hn;rw[aU] at hn
  split at hn
  ·rename_i hlt;have:=lZ.resv x hn;exact ⟨by simp only[gJ];rw[aj (Nat.ne_of_lt hlt)];exact this.1,this.2⟩
  ·split at hn<;>cases hn
 ·intro x hn;rw[aI,hlen] at hn;have:=lZ.fresh x (by rw[hlen];simp at hn;omega);exact ⟨by simp only[gJ];rw[aj (by simp at hn;omega)];exact this.1,this.2⟩
 ·intro x x' b' h1 h2
  rcases UL _ _ h1 with ⟨a1,a2,a3⟩ | ⟨a1,a2⟩<;>rcases UL _ _ h2 with ⟨b1,b2,b3⟩ | ⟨b1,b2⟩
  ·exact lZ.inj _ _ _ a2 b2
  ·omega
  ·omega
  ·omega
 ·rintro b' off (rfl | hw)
  ·exact (fE.1 sy).1
  ·exact lZ.wrLt b' off hw
 ·exact lZ.inv
 ·intro b' hw;simp only[gJ,jM,false_and,false_or] at hw;exact lZ.boxLt b' hw
theorem qn9 {w':World} {g' g2:G} {x:AV} {u:Value} (hx:mL x=true) (h:V w' g' x u)
  (hne:∀ bl off,¬ g'.wr bl off->¬ g'.box bl->(∃ k n,w'.cell? ⟨bl,off,none⟩=some (.int k n))->¬ g2.wr bl off) (hbx:∀ bl,g2.box bl->g'.box bl):V w' g2 x u:=by
 cases h with
 | bool b=>exact .bool b
 | nils sh o ho=>exact .nils sh o ho
 | lst sh o es a cap us hs hc hm hsh hcell hv ho=>
  cases sh with
  | some n=>simp[mL] at hx
  | none=>
  have wK:(es.all NJ=true)/\∀ nm e,o≠.tok nm e:=by
   cases o with
   | no=>exact ⟨hx,fun _ _ h=>by cases h⟩
   | full=>exact ⟨hx,fun _ _ h=>by cases h⟩
   | tok nm e=>simp[mL] at hx
  have hint:∀ e∈es,∃ k n,e=.int k n:=by
   intro e he;have:=fQ.1 wK.1 e he;cases e<;>simp[NJ] at this;exact ⟨_,_,rfl⟩
  have qk3:∀ ds:List AV,(∀ e∈ds,∃ k n,e=.int k n)->c8 ds=ds:=by
   intro ds
   induction ds with
   | nil=>intro _;rfl
   | cons e ds ih=>
    intro hi;obtain ⟨k,n,rfl⟩:=hi e (by simp);show _::c8 ds=_;rw[ih (fun e he=>hi e (by simp[he]))]
  have D0:∀ j,j < (c8 es).length->∃ k n,(c8 es).getD j .any=.int k n/\us j=.int k n:=by
   intro j hj;have h1:=hv j hj;obtain ⟨k,n,he⟩:=hint ((c8 es).getD j .any) (by rw[qk3 es hint] at hj ⊢;exact py hj);rw[he] at h1;generalize us j=u at h1;cases h1;exact ⟨k,n,he,rfl⟩
  refine .lst _ _ es a cap us hs hc hm hsh (fun j hj=>?_) (fun j hj=>?_) ?_
  ·obtain ⟨c1,c2,c3⟩:=hcell j hj;obtain ⟨k,n,_,hu⟩:=D0 j hj;exact ⟨c1,hne _ _ c2 c3 ⟨k,n,by rw[c1,hu]⟩,fun hb=>c3 (hbx _ hb)⟩
  ·obtain ⟨k,n,he,hu⟩:=D0 j hj;rw[he,hu];exact .int k n
  ·cases o with
   | no=>trivial
   | full=>exact ho
   | tok nm e=>exact absurd rfl (wK.2 nm e)
 | any=>simp[mL] at hx
 | int=>simp[mL] at hx
 | str=>simp[mL] at hx
 | arr=>simp[mL] at hx
 | ptr=>simp[mL] at hx
 | mref=>simp[mL] at hx
 | vec=>simp[mL] at hx
 | vptr=>simp[mL] at hx
 | nilp=>simp[mL] at hx
 | nilf=>simp[mL] at hx
 | nile=>simp[mL] at hx
 | nilm=>simp[mL] at hx
 | agg=>simp[mL] at hx
 | tup=>simp[mL] at hx
 | fn=>simp[mL] at hx
theorem qpc (hm:MemR B w g m) (hB:B<=w.heap.size) {P:Program} {f:Nat} {call:Nat->List AV->af->OM} (Dx:∀ args m v m',call f args m=some (v,m')->te P f args m v m') {args rs:List AV} {l:List Nat} {vs:Array Value}
  (hl:args.length=vs.size) (hv:∀ j,j < args.length->V w g (args.getD j .any) (vs.getD j undef)) (hf:fD (bH m km) args=some (rs,l)) {v0 r:AV} {m0 mr:af} (hc:call f rs []=some (v0,m0)) (mH:Pc m.length m0 v0=some (r,mr)) :
  Calls P f vs w fun e w'=>∃ v' g',e=.returned v'/\Step B w g w' g'/\MemR B w' g' (jm m l++mr)/\V w' g' r v':=by
 obtain ⟨k1,k2,k3⟩:=Ec _ _ _ _ hf
 have pY:∀ nm∈l,∃ cs,m.get nm=some (.obj false cs):=fun nm hn=>by
  obtain ⟨j,lj,a1,a2,a3⟩:=k3 nm hn;exact (yj hm km _ _ _ _ (hv j a1) a2).1 nm a3
 have pA:∀ j,j < rs.length->V w (Ao g m l (!mf rs)) (rs.getD j .any) (vs.getD j undef):=fun j hj=>by
  obtain ⟨lj,a1,a2⟩:=k2 j (by omega);refine (yj hm km _ _ _ _ (hv j (by omega)) a1).2.2 _ (fun b off h=>h.1) (fun b h=>h) (fun nm hn b hb off h=>h.2.1 ⟨nm,a2 nm hn,hb⟩) ?_
  by_cases hn:mf rs=true
  ·exact .inl (y5 hn _ (py hj))
  ·exact .inr fun nm cs b aU ju off h=>h.2.2 (by simpa using hn) ⟨nm,cs,aU,ju⟩
 have M6:MemR w.heap.size w (Ao g m l (!mf rs)) []:=by
  refine ⟨fun nm bx cs h=>by simp[af.get] at h,fun nm n sz h=>by simp[af.get] at h,fun nm h=>by simp[af.get] at h,fun nm _=>⟨rfl,fun _=>rfl⟩,fun nm nm' b h=>by simp[a8,af.get] at h,fun b off h=>hm.wrLt b off h.1,fun w' k=>hm.inv w' (k.mono hB),hm.boxLt,fun nm kk es h=>by simp[af.get] at h⟩
 refine (Dx rs [] v0 m0 hc w.heap.size w (Ao g m l (!mf rs)) vs M6 (aR _) (by omega) pA).mono ?_;rintro e w' ⟨v',g',rfl,s,hm',hV⟩;have hblk:∀ b,b < w.heap.size->w'.heap[b]?=w.heap[b]?:=fun b hb=>s.below.block b hb;have hcell:∀ b off u,w.cell? ⟨b,off,none⟩=some u->w'.cell? ⟨b,off,none⟩=some u:=fun b off u hc=>(World.cell?_of_block (w:=w) (a:=⟨b,off,none⟩) (hblk b (tz hc))).trans hc
 have gI:Step B w g w' (qt g l g'.box):=by
  refine ⟨s.below.mono hB,fun b off u _ hc=>hcell b off u hc,fun b c e fr hb=>⟨c,(hblk b (fE.1 hb).1).trans hb,rfl⟩,fun b off _ hn h=>hn h.1,fun b off hb=>?_,fun b hb=>s.box b hb,fun _ _ h=>h,fun _ _ _ h=>h⟩
  constructor
  ·exact fun h=>h.1
  ·intro h;refine ⟨h,?_⟩;rintro ⟨nm,hn,ju⟩;obtain ⟨cs,aU⟩:=pY nm hn;obtain ⟨b',c,e,o1,o2,_⟩:=hm.obj nm false cs aU;obtain rfl:b=b':=by simpa [ju] using o1
   omega
 have lZ:MemR B w' (qt g l g'.box) (jm m l):=by
  have gS:∀ nm b,a8 (qt g l g'.box) (jm m l) nm=some b->a8 g m nm=some b:=by
   intro nm b hb
   rcases pR hb with ⟨bx,cs,h1,h2⟩ | ⟨n,sz,h1,h2⟩ | ⟨kk,es,h1,h2⟩
   rotate_left 2
   ·rw[kH] at h1
    split at h1
    ·cases h1
    ·have iz:g.loc nm=some b:=h2;simp[a8,h1,iz]
   ·rw[kH] at h1
    split at h1
    ·cases h1
    ·have iz:g.loc nm=some b:=h2;simp[a8,h1,iz]
   ·rw[kH] at h1
    split at h1
    ·cases h1
    ·have iz:g.tloc nm n=some b:=h2;simp[a8,h1,iz]
  have wL:∀ nm b,nm∉l->a8 g m nm=some b->¬ ∃ x∈l,g.loc x=some b:=by
   rintro nm b hn hb ⟨x,hx,ju⟩;obtain ⟨cs,aU⟩:=pY x hx;have:a8 g m x=some b:=by simp[a8,aU,ju]
   exact hn (hm.inj nm x b hb this▸hx)
  refine ⟨fun nm bx cs aU=>?_,fun nm n sz aU=>?_,fun nm aU=>?_,fun nm hn=>hm.fresh nm (by rw[Bc] at hn;exact hn),fun nm nm' b h1 h2=>hm.inj nm nm' b (gS _ _ h1) (gS _ _ h2),fun b off h=>qU (hm.wrLt b off h.1) s.below.size,hm.invB (s.below.mono hB),hm'.boxLt,fun nm kk es aU=>by
    rw[kH] at aU
    split at aU
    ·cases aU
    ·obtain ⟨b,es',cl,o1,o2,o3,o4⟩:=hm.mp nm kk es aU
     exact ⟨b,es',cl,o1,o2,(hblk b (fE.1 o3).1).trans o3,o4.step gI⟩⟩
  ·rw[kH] at aU
   split at aU
   ·cases aU
   ·rename_i ou;obtain ⟨b,c,e,o1,o2,o3,o4,o5,o6,o7⟩:=hm.obj nm bx cs aU;have hlt:=(fE.1 o3).1;exact ⟨b,c,e,o1,o2,(hblk b hlt).trans o3,o4,fun j hj=>(o5 j hj).step gI,fun off=>⟨o6 off,wL nm b ou (by simp[a8,aU,o1])⟩,(s.box b hlt).trans o7⟩
  ·rw[kH] at aU
   split at aU
   ·cases aU
   ·rename_i ou;obtain ⟨b,c,e,o1,o2,o3,o4,o5,o6⟩:=hm.tok nm n sz aU;have hlt:=(fE.1 o3).1;exact ⟨b,c,e,o1,o2,(hblk b hlt).trans o3,fun off ho=>⟨o4 off ho,wL nm b ou (by simp[a8,aU,o1])⟩,o5,fun h=>o6 ((s.box b hlt).1 h)⟩
  ·rw[kH] at aU
   split at aU
   ·cases aU
   ·exact hm.resv nm aU
 unfold Pc at mH;split at mH
 case h_2=>cases mH
 rename_i k a k' b sh z o es
 split at mH
 ·rename_i nm ety
  split at mH
  ·cases mH
  ·rename_i n;split at mH
   case h_2=>cases mH
   rename_i c0 sz0 HX;split at mH
   case isFalse=>cases mH
   rename_i mE;obtain ⟨hc0,nC,Ig⟩:=mE;have nC:=nC.symm;subst hc0;subst nC;simp only[bG,fe] at mH;obtain ⟨rfl,rfl⟩:=mH
   cases hV with
   | agg _ vs3 hl3 DZ=>
   have h0:=DZ 0 (by simp);have h1:=DZ 1 (by simp);have h2:=DZ 2 (by simp);simp only[pk,xI] at h0 h1 h2;generalize hu0:vs3.getD 0 undef=u0 at h0;generalize hu1:vs3.getD 1 undef=u1 at h1;generalize hu2:vs3.getD 2 undef=u2 at h2;cases h0;cases h1
   cases h2 with
   | nils _ _ ho=>rcases ho with ho | ho<;>cases ho
   | lst _ _ _ ad cap us hs hc hmx hsh hcl hvv ho=>
   obtain ⟨o1,o2,c,o3,o4⟩:=ho;obtain ⟨b1,c1,e1,t1,t2,t3,t4,t5,t6⟩:=hm'.tok nm es.length n HX;obtain rfl:ad.block=b1:=by simpa [o1] using t1
   have hfl:=si (fun e he=>(hsh e he).1:∀ e∈es,cZ (some n) e=true)
   have hcu:∀ j,j < (c8 es).length->c.getD j undef=us j:=by
    intro j hj;have h3:=(hcl j hj).1;rw[o2,bf,cell_of_row w' ad.block j c ety (0,0) o3] at h3;rw[jq,h3];rfl
   have qlv:∀ j,j < (c8 es).length->∀ k n,us j≠.int k n:=by
    intro j hj k n he;have h3:=hvv j hj;have h4:=fQ.1 Ig _ (py hj);rw[he] at h3;generalize (c8 es).getD j .any=x at h3 h4;cases h3<;>simp[mL] at h4
   have hne:∀ bl off,¬ g'.wr bl off->¬ g'.box bl->(∃ k n,w'.cell? ⟨bl,off,none⟩=some (.int k n))->¬ (gJ (qt g l g'.box) m.length ad.block false).wr bl off:=by
    rintro bl off hw hbx ⟨k,n',UM⟩ hn
    rcases hn with rfl | hn
    ·by_cases hlt:off < (c8 es).length
     ·have h3:=(hcl off hlt).1;rw[o2,bf] at h3;rw[h3] at UM;exact qlv off hlt k n' (by simpa using UM)
     ·exact hw (t4 off (by rw[hfl] at hlt;simp only[Sh.size] at hlt;omega))
    ·obtain ⟨lG,mX⟩:=hn;have hlt:=hm.wrLt bl off lG;refine hw ((s.wrB bl off hlt).2 ⟨lG,mX,fun _=>?_⟩);rintro ⟨nm2,cs2,pD,ja⟩;obtain ⟨b2,_,_,q1,_,_,_,_,_,q7⟩:=hm.obj nm2 true cs2 pD;obtain rfl:bl=b2:=by simpa [ja] using q1
     exact hbx ((s.box bl hlt).2 (q7.2 rfl))
   obtain ⟨s2,fO⟩:=qg2 hm hB gI lZ (Bc l m) rfl rfl (fun nm e hg=>by
    rw[kH] at hg
    split at hg
    ·cases hg
    ·exact hg) hblk t2 o3 (cs:=c8 es) (by rw[hfl,o4];exact iO _ hc) t6 (fun j hj=>by
     rw[hcu j hj]
     exact qn9 (fQ.1 Ig _ (py hj)) (hvv j hj) hne (fun bl h=>by simpa [gJ,qt] using h))
   refine ⟨_,_,rfl,s2,fO,.agg _ _ hl3 (fun j hj=>?_)⟩
   match j,hj with
   | 0,_=>rw[hu0];exact .int _ _
   | 1,_=>rw[hu1];exact .int _ _
   | 2,_=>
    rw[hu2];refine .arr _ _ _ _ ad cap hs hc hmx ?_
    rcases hs with hs | hs
    ·exact .inl (by omega)
    refine .inr ⟨by simp[gJ],?_,c,_,o3,by rw[bf,o4];exact aR _⟩;obtain ⟨adb,ado,ads⟩:=ad;simp only at o2 hs;rw[o2,hs]
   | j+3,hj=>simp at hj;omega
 ·rename_i wK
  split at mH
  ·split at mH
   ·simp only[bG,fe] at mH;obtain ⟨rfl,rfl⟩:=mH;rw[bP];refine ⟨_,_,rfl,gI,lZ,?_⟩
    cases hV with
    | agg _ vs3 hl3 DZ=>
    refine .agg _ _ hl3 (fun j hj=>?_);have hx:=DZ j hj
    match j,hj,hx with
    | 0,_,hx=>
     simp only[pk] at hx ⊢;generalize vs3.getD 0 undef=u at hx;cases hx;exact .int _ _
    | 1,_,hx=>
     simp only[xI,pk] at hx ⊢;generalize vs3.getD 1 undef=u at hx;cases hx;exact .int _ _
    | 2,_,hx=>
     simp only[xI,pk] at hx ⊢;generalize vs3.getD 2 undef=u at hx
     cases hx with
     | nils _ _ ho=>exact .nils _ _ ho
    | j+3,hj,_=>simp at hj;omega
   ·cases mH
  ·cases mH
theorem qkn (hm:MemR B w g m) {l:List Nat} (pY:∀ nm∈l,∃ cs,m.get nm=some (.obj false cs)):Step B w g w (qt g l g.box)/\MemR B w (qt g l g.box) (jm m l):=by
 have gI:Step B w g w (qt g l g.box):=by
  refine ⟨Below.refl _ _,fun b off u _ hc=>hc,fun b c e fr hb=>⟨c,hb,rfl⟩,fun b off _ hn h=>hn h.1,fun b off hb=>?_,fun b hb=>Iff.rfl,fun _ _ h=>h,fun _ _ _ h=>h⟩
  constructor
  ·exact fun h=>h.1
  ·intro h;refine ⟨h,?_⟩;rintro ⟨nm,hn,ju⟩;obtain ⟨cs,aU⟩:=pY nm hn;obtain ⟨b',c,e,o1,o2,_⟩:=hm.obj nm false cs aU;obtain rfl:b=b':=by simpa [ju] using o1
   omega
 refine ⟨gI,?_⟩
 have gS:∀ nm b,a8 (qt g l g.box) (jm m l) nm=some b->a8 g m nm=some b:=by
  intro nm b hb
  rcases pR hb with ⟨bx,cs,h1,h2⟩ | ⟨n,sz,h1,h2⟩ | ⟨kk,es,h1,h2⟩
  rotate_left 2
  ·rw[kH] at h1
   split at h1
   ·cases h1
   ·have iz:g.loc nm=some b:=h2;simp[a8,h1,iz]
  ·rw[kH] at h1
   split at h1
   ·cases h1
   ·have iz:g.loc nm=some b:=h2;simp[a8,h1,iz]
  ·rw[kH] at h1
   split at h1
   ·cases h1
   ·have iz:g.tloc nm n=some b:=h2;simp[a8,h1,iz]
 have wL:∀ nm b,nm∉l->a8 g m nm=some b->¬ ∃ x∈l,g.loc x=some b:=by
  rintro nm b hn hb ⟨x,hx,ju⟩;obtain ⟨cs,aU⟩:=pY x hx;have:a8 g m x=some b:=by simp[a8,aU,ju]
  exact hn (hm.inj nm x b hb this▸hx)
 refine ⟨fun nm bx cs aU=>?_,fun nm n sz aU=>?_,fun nm aU=>?_,fun nm hn=>hm.fresh nm (by rw[Bc] at hn;exact hn),fun nm nm' b h1 h2=>hm.inj nm nm' b (gS _ _ h1) (gS _ _ h2),fun b off h=>hm.wrLt b off h.1,hm.inv,hm.boxLt,fun nm kk es aU=>by
  rw[kH] at aU
  split at aU
  ·cases aU
  ·obtain ⟨b,es',cl,o1,o2,o3,o4⟩:=hm.mp nm kk es aU
   exact ⟨b,es',cl,o1,o2,o3,o4.step gI⟩⟩
 ·rw[kH] at aU
  split at aU
  ·cases aU
  ·rename_i ou;obtain ⟨b,c,e,o1,o2,o3,o4,o5,o6,o7⟩:=hm.obj nm bx cs aU;exact ⟨b,c,e,o1,o2,o3,o4,fun j hj=>(o5 j hj).step gI,fun off=>⟨o6 off,wL nm b ou (by simp[a8,aU,o1])⟩,o7⟩
 ·rw[kH] at aU
  split at aU
  ·cases aU
  ·rename_i ou;obtain ⟨b,c,e,o1,o2,o3,o4,o5,o6⟩:=hm.tok nm n sz aU;exact ⟨b,c,e,o1,o2,o3,fun off ho=>⟨o4 off ho,wL nm b ou (by simp[a8,aU,o1])⟩,o5,o6⟩
 ·rw[kH] at aU
  split at aU
  ·cases aU
  ·exact hm.resv nm aU
theorem qkl (hm:MemR B w g m) {args rs:List AV} {l:List Nat} {vs:Array Value} (hl:args.length=vs.size) (hv:∀ j,j < args.length->V w g (args.getD j .any) (vs.getD j undef)) (hf:fD (Az m) args=some (rs,l)) :
  ∃ g1,Step B w g w g1/\MemR B w g1 (jm m l)/\rs.length=vs.size/\∀ j,j < rs.length->V w g1 (rs.getD j .any) (vs.getD j undef):=by
 obtain ⟨k1,k2,k3⟩:=Ec _ _ _ _ hf
 have one:∀ (x x':AV) (lx:List Nat) (v:Value),V w g x v->Az m x=some (x',lx)->(∃ nm off n sh,x=.arr nm off n sh/\bH m km x=some (x',lx))\/(x'=x/\lx=[]):=by
  intro x x' lx v hV hx;unfold Az at hx
  split at hx
  ·exact .inl ⟨_,_,_,_,rfl,hx⟩
  ·simp only[bG,fe] at hx;exact .inr ⟨hx.1.symm,hx.2.symm⟩
 have pY:∀ nm∈l,∃ cs,m.get nm=some (.obj false cs):=fun nm hn=>by
  obtain ⟨j,lj,a1,a2,a3⟩:=k3 nm hn
  rcases one _ _ _ _ (hv j a1) a2 with ⟨_,_,_,_,_,h⟩ | ⟨_,h⟩
  ·exact (yj hm km _ _ _ _ (hv j a1) h).1 nm a3
  ·rw[h] at a3;cases a3
 obtain ⟨s,hk⟩:=qkn hm pY;refine ⟨qt g l g.box,s,hk,by omega,fun j hj=>?_⟩;obtain ⟨lj,a1,a2⟩:=k2 j (by omega)
 rcases one _ _ _ _ (hv j (by omega)) a1 with ⟨nm,off,n,sh,hx,h⟩ | ⟨h,_⟩
 ·refine (yj hm km _ _ _ _ (hv j (by omega)) h).2.2 _ (fun b off h=>h.1) (fun b h=>h) (fun nm hn b hb off h=>h.2 ⟨nm,a2 nm hn,hb⟩) (.inl ?_);rw[hx] at h;change (m.obj? nm).bind _=some _ at h;rw[bc] at h;obtain ⟨o,_,h⟩:=h
  split at h
  ·simp only[bc] at h;obtain ⟨r,_,h⟩:=h
   split at h
   ·simp only[bG,fe] at h;rw[<- h.1];rfl
   ·cases h
  ·cases h
 ·rw[h];exact (hv j (by omega)).step s
theorem qnI (hm:MemR B w g m) (hB:B<=w.heap.size) {P:Program} {f:Nat} {call:Nat->List AV->af->OM} (Dx:∀ args m v m',call f args m=some (v,m')->te P f args m v m') {args rs:List AV} {l:List Nat} {vs:Array Value}
  (hl:args.length=vs.size) (hv:∀ j,j < args.length->V w g (args.getD j .any) (vs.getD j undef)) (hf:fD (bH m km) args=some (rs,l)) {r:AV} (h:jB call f rs=some r) :
  Calls P f vs w fun e w'=>∃ v' g',e=.returned v'/\Step B w g w' g'/\MemR B w' g' (jm m l)/\V w' g' r v':=by
 unfold jB at h;simp only[bc] at h;obtain ⟨⟨v0,m0⟩,hc,⟨r',l'⟩,hfz,h⟩:=h;simp only at hfz h
 split at h
 ·rename_i mE;simp only[bG] at h;subst h;obtain ⟨k1,k2,k3⟩:=Ec _ _ _ _ hf
  have pY:∀ nm∈l,∃ cs,m.get nm=some (.obj false cs):=fun nm hn=>by
   obtain ⟨j,lj,a1,a2,a3⟩:=k3 nm hn;exact (yj hm km _ _ _ _ (hv j a1) a2).1 nm a3
  have pA:∀ j,j < rs.length->V w (Ao g m l (!mf rs)) (rs.getD j .any) (vs.getD j undef):=fun j hj=>by
   obtain ⟨lj,a1,a2⟩:=k2 j (by omega);refine (yj hm km _ _ _ _ (hv j (by omega)) a1).2.2 _ (fun b off h=>h.1) (fun b h=>h) (fun nm hn b hb off h=>h.2.1 ⟨nm,a2 nm hn,hb⟩) ?_
   by_cases hn:mf rs=true
   ·exact .inl (y5 hn _ (py hj))
   ·exact .inr fun nm cs b aU ju off h=>h.2.2 (by simpa using hn) ⟨nm,cs,aU,ju⟩
  have M6:MemR w.heap.size w (Ao g m l (!mf rs)) []:=by
   refine ⟨fun nm bx cs h=>by simp[af.get] at h,fun nm n sz h=>by simp[af.get] at h,fun nm h=>by simp[af.get] at h,fun nm _=>⟨rfl,fun _=>rfl⟩,fun nm nm' b h=>by simp[a8,af.get] at h,fun b off h=>hm.wrLt b off h.1,fun w' k=>hm.inv w' (k.mono hB),hm.boxLt,fun nm kk es h=>by simp[af.get] at h⟩
  refine (Dx rs [] v0 m0 hc w.heap.size w (Ao g m l (!mf rs)) vs M6 (aR _) (by omega) pA).mono ?_;rintro e w' ⟨v',g',rfl,s,hm',hV⟩;have hblk:∀ b,b < w.heap.size->w'.heap[b]?=w.heap[b]?:=fun b hb=>s.below.block b hb;have hcell:∀ b off u,w.cell? ⟨b,off,none⟩=some u->w'.cell? ⟨b,off,none⟩=some u:=fun b off u hc=>(World.cell?_of_block (w:=w) (a:=⟨b,off,none⟩) (hblk b (tz hc))).trans hc
  have gI:Step B w g w' (qt g l g'.box):=by
   refine ⟨s.below.mono hB,fun b off u _ hc=>hcell b off u hc,fun b c e fr hb=>⟨c,(hblk b (fE.1 hb).1).trans hb,rfl⟩,fun b off _ hn h=>hn h.1,fun b off hb=>?_,fun b hb=>s.box b hb,fun _ _ h=>h,fun _ _ _ h=>h⟩
   constructor
   ·exact fun h=>h.1
   ·intro h;refine ⟨h,?_⟩;rintro ⟨nm,hn,ju⟩;obtain ⟨cs,aU⟩:=pY nm hn;obtain ⟨b',c,e,o1,o2,_⟩:=hm.obj nm false cs aU;obtain rfl:b=b':=by simpa [ju] using o1
    omega
  have lZ:MemR B w' (qt g l g'.box) (jm m l):=by
   have gS:∀ nm b,a8 (qt g l g'.box) (jm m l) nm=some b->a8 g m nm=some b:=by
    intro nm b hb
    rcases pR hb with ⟨bx,cs,h1,h2⟩ | ⟨n,sz,h1,h2⟩ | ⟨kk,es,h1,h2⟩
    rotate_left 2
    ·rw[kH] at h1
     split at h1
     ·cases h1
     ·have iz:g.loc nm=some b:=h2;simp[a8,h1,iz]
    ·rw[kH] at h1
     split at h1
     ·cases h1
     ·have iz:g.loc nm=some b:=h2;simp[a8,h1,iz]
    ·rw[kH] at h1
     split at h1
     ·cases h1
     ·have iz:g.tloc nm n=some b:=h2;simp[a8,h1,iz]
   have wL:∀ nm b,nm∉l->a8 g m nm=some b->¬ ∃ x∈l,g.loc x=some b:=by
    rintro nm b hn hb ⟨x,hx,ju⟩;obtain ⟨cs,aU⟩:=pY x hx;have:a8 g m x=some b:=by simp[a8,aU,ju]
    exact hn (hm.inj nm x b hb this▸hx)
   refine ⟨fun nm bx cs aU=>?_,fun nm n sz aU=>?_,fun nm aU=>?_,fun nm hn=>hm.fresh nm (by rw[Bc] at hn;exact hn),fun nm nm' b h1 h2=>hm.inj nm nm' b (gS _ _ h1) (gS _ _ h2),fun b off h=>qU (hm.wrLt b off h.1) s.below.size,hm.invB (s.below.mono hB),hm'.boxLt,fun nm kk es aU=>by
    rw[kH] at aU
    split at aU
    ·cases aU
    ·obtain ⟨b,es',cl,o1,o2,o3,o4⟩:=hm.mp nm kk es aU
     exact ⟨b,es',cl,o1,o2,(hblk b (fE.1 o3).1).trans o3,o4.step gI⟩⟩
   ·rw[kH] at aU
    split at aU
    ·cases aU
    ·rename_i ou;obtain ⟨b,c,e,o1,o2,o3,o4,o5,o6,o7⟩:=hm.obj nm bx cs aU;have hlt:=(fE.1 o3).1;exact ⟨b,c,e,o1,o2,(hblk b hlt).trans o3,o4,fun j hj=>(o5 j hj).step gI,fun off=>⟨o6 off,wL nm b ou (by simp[a8,aU,o1])⟩,(s.box b hlt).trans o7⟩
   ·rw[kH] at aU
    split at aU
    ·cases aU
    ·rename_i ou;obtain ⟨b,c,e,o1,o2,o3,o4,o5,o6⟩:=hm.tok nm n sz aU;have hlt:=(fE.1 o3).1;exact ⟨b,c,e,o1,o2,(hblk b hlt).trans o3,fun off ho=>⟨o4 off ho,wL nm b ou (by simp[a8,aU,o1])⟩,o5,fun h=>o6 ((s.box b hlt).1 h)⟩
   ·rw[kH] at aU
    split at aU
    ·cases aU
    ·exact hm.resv nm aU
  refine ⟨v',_,rfl,gI,lZ,?_⟩;obtain ⟨f1,f2,f3⟩:=yj hm' km _ _ _ _ hV hfz
  let gf:G:={ wr:=fun b off=>b < w.heap.size/\g'.wr b off,box:=g'.box,loc:=fun _=>none,tloc:=fun _ _=>none }
  have hVf:V w' gf r' v':=by
   refine f3 gf (fun b off h=>h.2) (fun b h=>h) (fun nm hn b hb off h=>?_) (.inr fun nm cs b aU hb off h=>?_)
   ·obtain ⟨cs,aU⟩:=f1 nm hn;obtain ⟨b',c,e,o1,o2,_⟩:=hm'.obj nm false cs aU;obtain rfl:b=b':=by simpa [hb] using o1
    have:=h.1;omega
   ·obtain ⟨b',c,e,o1,o2,_⟩:=hm'.obj nm true cs aU;obtain rfl:b=b':=by simpa [hb] using o1
    have:=h.1;omega
  refine Sn (nv:=!mf rs) hVf f2 (fun hn=>?_) (fun b off h=>?_) (fun b h=>h)
  ·have:mf rs=false:=by simpa using hn
   simpa [this] using mE
  ·have hlt:=hm.wrLt b off h.1
   by_cases H5:∃ nm cs,m.get nm=some (.obj true cs)/\g.loc nm=some b
   ·by_cases vf:mf rs=true
    ·exact .inl ⟨hlt,(s.wrB b off hlt).2 ⟨h.1,h.2,fun hx=>by simp[vf] at hx⟩⟩
    ·refine .inr ⟨?_,by simpa using vf⟩;obtain ⟨nm,cs,aU,ju⟩:=H5;obtain ⟨b',c,e,o1,o2,o3,o4,o5,o6,o7⟩:=hm.obj nm true cs aU;obtain rfl:b=b':=by simpa [ju] using o1
     exact (s.box b hlt).2 (o7.2 rfl)
   ·exact .inl ⟨hlt,(s.wrB b off hlt).2 ⟨h.1,h.2,fun _=>H5⟩⟩
 ·cases h
end
end Go.Ab
