/- An abstract interpreter of the kit's code: values without memory, an abstract memory of named objects. Definitions alone. -/
import Derived.Calls
import Derived.KernelRfl
import Derived.Maps.OwnSet
import Derived.DeepKeys4
import Derived.Below
import Derived.Laws.AppendOwn
import Derived.Laws.MakeOwn
import Derived.Laws.OwnMore
import Derived.Laws.Rows
import Derived.MapKept
import Derived.WalkKit
import Derived.WalkSpells
import Derived.Laws.Small
import Derived.Laws.StructEq
import Derived.Laws.Cover3
import Derived.Laws.Cells
import Derived.Laws.Tables
import Derived.Great.BuildSlice
import Derived.Defers
set_option maxRecDepth 100000
set_option linter.unusedVariables false
set_option linter.unusedSimpArgs false
set_option linter.unusedSectionVars false
theorem ai:type_of% @if_neg.{1}:=@if_neg.{1}
theorem an:type_of% @if_pos.{1}:=@if_pos.{1}
theorem aI:type_of% @List.length_append.{0}:=@List.length_append.{0}
theorem aJ:type_of% @List.length_cons.{0}:=@List.length_cons.{0}
theorem aP:type_of% @List.length_nil.{0}:=@List.length_nil.{0}
theorem aQ:type_of% @Nat.le_refl:=@Nat.le_refl
theorem aR:type_of% @Option.map_some.{0,0}:=@Option.map_some.{0,0}
theorem aS:type_of% @List.getD_eq_getElem?_getD.{0}:=@List.getD_eq_getElem?_getD.{0}
theorem a8:type_of% @List.length_set.{0}:=@List.length_set.{0}
theorem bc:type_of% @Option.bind_eq_some_iff.{0,0}:=@Option.bind_eq_some_iff.{0,0}
theorem bp:type_of% @Nat.zero_add:=@Nat.zero_add
theorem bw:type_of% @if_true.{1}:=@if_true.{1}
theorem bD:type_of% @List.getElem?_eq_getElem.{0}:=@List.getElem?_eq_getElem.{0}
theorem bM:type_of% @Option.some.injEq.{0}:=@Option.some.injEq.{0}
theorem bS:type_of% @List.getElem_mem.{0}:=@List.getElem_mem.{0}
theorem bV:type_of% @List.nil_append.{0}:=@List.nil_append.{0}
theorem bX:type_of% @List.length_map.{0,0}:=@List.length_map.{0,0}
theorem b7:type_of% @Bool.and_eq_true:=@Bool.and_eq_true
theorem cm:type_of% @List.append_nil.{0}:=@List.append_nil.{0}
theorem cn:type_of% @List.cons_append.{0}:=@List.cons_append.{0}
theorem cK:type_of% @Int.toNat_natCast:=@Int.toNat_natCast
theorem cM:type_of% @Nat.mul_comm:=@Nat.mul_comm
theorem cV:type_of% @congrArg.{1,1}:=@congrArg.{1,1}
theorem cZ:type_of% @List.set_cons_zero.{0}:=@List.set_cons_zero.{0}
theorem dd:type_of% @decide_eq_false:=@decide_eq_false
theorem dh:type_of% @Option.getD_some.{0}:=@Option.getD_some.{0}
theorem dD:type_of% @decide_eq_true:=@decide_eq_true
theorem dT:type_of% @Prod.mk.injEq.{0,0}:=@Prod.mk.injEq.{0,0}
theorem dY:type_of% @Nat.le_trans:=@Nat.le_trans
theorem dZ:type_of% @Nat.mul_assoc:=@Nat.mul_assoc
theorem ei:type_of% @List.set_cons_succ.{0}:=@List.set_cons_succ.{0}
theorem fC:type_of% @List.set_nil.{0}:=@List.set_nil.{0}
theorem fF:type_of% @Array.getElem?_eq_some_iff.{0}:=@Array.getElem?_eq_some_iff.{0}
theorem fJ:type_of% @List.mem_cons_of_mem.{0}:=@List.mem_cons_of_mem.{0}
theorem fN:type_of% @List.mem_cons_self.{0}:=@List.mem_cons_self.{0}
theorem ga:type_of% @List.all_eq_true.{0}:=@List.all_eq_true.{0}
theorem gd:type_of% @List.map_cons.{0,0}:=@List.map_cons.{0,0}
theorem gA:type_of% @List.append_assoc.{0}:=@List.append_assoc.{0}
theorem gB:type_of% @Nat.mul_add:=@Nat.mul_add
theorem gE:type_of% @List.mem_cons.{0}:=@List.mem_cons.{0}
theorem gO:type_of% @Nat.add_mul:=@Nat.add_mul
theorem gP:type_of% @Option.map_eq_some_iff.{0,0}:=@Option.map_eq_some_iff.{0,0}
theorem il:type_of% @List.mem_append.{0}:=@List.mem_append.{0}
theorem iL:type_of% @Bool.true_and:=@Bool.true_and
theorem iM:type_of% @Nat.mul_le_mul_right:=@Nat.mul_le_mul_right
theorem iR:type_of% @List.drop_zero.{0}:=@List.drop_zero.{0}
theorem jf:type_of% @List.mem_map.{0,0}:=@List.mem_map.{0,0}
theorem jo:type_of% @List.drop_eq_nil_of_le.{0}:=@List.drop_eq_nil_of_le.{0}
theorem jq:type_of% @Nat.lt_of_le_of_lt:=@Nat.lt_of_le_of_lt
theorem jE:type_of% @Array.getD_eq_getD_getElem?.{0}:=@Array.getD_eq_getD_getElem?.{0}
theorem jF:type_of% @Nat.add_zero:=@Nat.add_zero
theorem jP:type_of% @List.length_take.{0}:=@List.length_take.{0}
theorem jQ:type_of% @List.take_of_length_le.{0}:=@List.take_of_length_le.{0}
theorem jR:type_of% @Nat.pow_succ:=@Nat.pow_succ
theorem jS:type_of% @decide_eq_decide:=@decide_eq_decide
theorem jX:type_of% @Bool.false_eq_true:=@Bool.false_eq_true
theorem jY:type_of% @Nat.mod_lt:=@Nat.mod_lt
theorem kG:type_of% @Nat.mul_le_mul_left:=@Nat.mul_le_mul_left
theorem kS:type_of% @Bool.not_true:=@Bool.not_true
theorem kT:type_of% @List.drop_eq_getElem_cons.{0}:=@List.drop_eq_getElem_cons.{0}
theorem kU:type_of% @List.map_append.{0,0}:=@List.map_append.{0,0}
theorem kV:type_of% @Nat.mul_one:=@Nat.mul_one
theorem kW:type_of% @Nat.zero_le:=@Nat.zero_le
theorem lE:type_of% @Nat.mod_eq_of_lt:=@Nat.mod_eq_of_lt
theorem lY:type_of% @Bool.false_and:=@Bool.false_and
theorem me:type_of% @if_false.{1}:=@if_false.{1}
theorem mw:type_of% @Nat.add_assoc:=@Nat.add_assoc
theorem mV:type_of% @Bool.and_self:=@Bool.and_self
theorem mW:type_of% @List.sum_cons.{0}:=@List.sum_cons.{0}
theorem nA:type_of% @Int.eq_ofNat_of_zero_le:=@Int.eq_ofNat_of_zero_le
theorem nB:type_of% @List.getElem?_append_left.{0}:=@List.getElem?_append_left.{0}
theorem nX:type_of% @Bool.not_false:=@Bool.not_false
theorem n0:type_of% @List.all_cons.{0}:=@List.all_cons.{0}
theorem n5:type_of% @List.getElem?_eq_none.{0}:=@List.getElem?_eq_none.{0}
theorem n6:type_of% @List.take_append_drop.{0}:=@List.take_append_drop.{0}
theorem n7:type_of% @List.take_succ_eq_append_getElem.{0}:=@List.take_succ_eq_append_getElem.{0}
theorem n8:type_of% @Nat.mul_zero:=@Nat.mul_zero
theorem oq:type_of% @decide_eq_true_eq:=@decide_eq_true_eq
theorem oN:type_of% @List.eq_nil_of_length_eq_zero.{0}:=@List.eq_nil_of_length_eq_zero.{0}
theorem oO:type_of% @List.getElem?_map.{0,0}:=@List.getElem?_map.{0,0}
theorem oP:type_of% @Nat.pos_of_ne_zero:=@Nat.pos_of_ne_zero
theorem po:type_of% @List.cons.injEq.{0}:=@List.cons.injEq.{0}
theorem pq:type_of% @List.getD_cons_zero.{0}:=@List.getD_cons_zero.{0}
theorem pv:type_of% @List.getElem_of_mem.{0}:=@List.getElem_of_mem.{0}
theorem pw:type_of% @Nat.add_sub_cancel:=@Nat.add_sub_cancel
theorem px:type_of% @Nat.one_mul:=@Nat.one_mul
theorem py:type_of% @Nat.pow_le_pow_right:=@Nat.pow_le_pow_right
theorem pz:type_of% @Nat.sub_self:=@Nat.sub_self
theorem pT:type_of% @List.flatMap_cons.{0,0}:=@List.flatMap_cons.{0,0}
theorem pU:type_of% @Option.some.inj.{0}:=@Option.some.inj.{0}
theorem qj:type_of% @Classical.byContradiction:=@Classical.byContradiction
theorem ql:type_of% @Int.le_refl:=@Int.le_refl
theorem qn:type_of% @List.getElem?_append.{0}:=@List.getElem?_append.{0}
theorem qo:type_of% @List.getElem?_take.{0}:=@List.getElem?_take.{0}
theorem qp:type_of% @Nat.eq_of_beq_eq_true:=@Nat.eq_of_beq_eq_true
theorem qq:type_of% @Nat.succ_mul:=@Nat.succ_mul
theorem qR:type_of% @Int.natCast_mul:=@Int.natCast_mul
theorem qT:type_of% @List.length_drop.{0}:=@List.length_drop.{0}
theorem qU:type_of% @List.map_nil.{0,0}:=@List.map_nil.{0,0}
theorem qV:type_of% @Nat.lt_of_lt_of_le:=@Nat.lt_of_lt_of_le
theorem qW:type_of% @Nat.lt_or_ge:=@Nat.lt_or_ge
theorem qX:type_of% @Nat.mul_le_mul:=@Nat.mul_le_mul
theorem qY:type_of% @Nat.pow_add:=@Nat.pow_add
theorem rO:type_of% @Array.all_eq_true_iff_forall_mem.{0}:=@Array.all_eq_true_iff_forall_mem.{0}
theorem rQ:type_of% @Int.natCast_nonneg:=@Int.natCast_nonneg
theorem rS:type_of% @List.getElem?_append_right.{0}:=@List.getElem?_append_right.{0}
theorem rU:type_of% @List.getElem?_drop.{0}:=@List.getElem?_drop.{0}
theorem rV:type_of% @List.getElem_map.{0,0}:=@List.getElem_map.{0,0}
theorem rW:type_of% @List.map_map.{0,0,0}:=@List.map_map.{0,0,0}
theorem rX:type_of% @List.mem_filter.{0}:=@List.mem_filter.{0}
theorem rY:type_of% @List.set_append_right.{0}:=@List.set_append_right.{0}
theorem rZ:type_of% @Nat.add_comm:=@Nat.add_comm
theorem sV:type_of% @of_decide_eq_true:=@of_decide_eq_true
theorem tn:type_of% @List.length_singleton.{0}:=@List.length_singleton.{0}
theorem tw:type_of% @beq_iff_eq.{0}:=@beq_iff_eq.{0}
theorem ux:type_of% @List.foldl_cons.{0,0}:=@List.foldl_cons.{0,0}
theorem uy:type_of% @List.length_replicate.{0}:=@List.length_replicate.{0}
theorem uz:type_of% @List.mem_range:=@List.mem_range
theorem uA:type_of% @List.ne_nil_of_length_pos.{0}:=@List.ne_nil_of_length_pos.{0}
theorem uC:type_of% @List.nodup_cons.{0}:=@List.nodup_cons.{0}
theorem uD:type_of% @Nat.div_add_mod:=@Nat.div_add_mod
theorem uE:type_of% @Nat.div_lt_iff_lt_mul:=@Nat.div_lt_iff_lt_mul
theorem uF:type_of% @Nat.gcd_comm:=@Nat.gcd_comm
theorem uG:type_of% @Nat.two_pow_pos:=@Nat.two_pow_pos
theorem vR:type_of% @Nat.le_of_not_lt:=@Nat.le_of_not_lt
theorem vS:type_of% @Nat.lt_irrefl:=@Nat.lt_irrefl
theorem wj:type_of% @decide_eq_true_iff:=@decide_eq_true_iff
theorem xr:type_of% @BitVec.toNat_ofInt:=@BitVec.toNat_ofInt
theorem xu:type_of% @Bool.eq_false_iff:=@Bool.eq_false_iff
theorem xy:type_of% @Bool.not_eq_true':=@Bool.not_eq_true'
theorem xH:type_of% @List.getD_cons_succ.{0}:=@List.getD_cons_succ.{0}
theorem xI:type_of% @List.getElem?_set_self.{0}:=@List.getElem?_set_self.{0}
theorem xJ:type_of% @List.length_pos_iff.{0}:=@List.length_pos_iff.{0}
theorem xK:type_of% @List.replicate_succ.{0}:=@List.replicate_succ.{0}
theorem xL:type_of% @List.set_set.{0}:=@List.set_set.{0}
theorem xM:type_of% @Nat.div_le_self:=@Nat.div_le_self
theorem xN:type_of% @Nat.zero_mul:=@Nat.zero_mul
theorem zE:type_of% @Array.size_append.{0}:=@Array.size_append.{0}
theorem zG:type_of% @Bool.false_or:=@Bool.false_or
theorem zH:type_of% @Bool.or_eq_true:=@Bool.or_eq_true
theorem z8:type_of% @List.append_of_mem.{0}:=@List.append_of_mem.{0}
theorem Aa:type_of% @List.getElem?_concat_length.{0}:=@List.getElem?_concat_length.{0}
theorem Ac:type_of% @List.getElem?_eq_some_iff.{0}:=@List.getElem?_eq_some_iff.{0}
theorem Ad:type_of% @List.getElem?_replicate.{0}:=@List.getElem?_replicate.{0}
theorem Ae:type_of% @List.getElem?_set_ne.{0}:=@List.getElem?_set_ne.{0}
theorem Af:type_of% @List.getElem?_toArray.{0}:=@List.getElem?_toArray.{0}
theorem Ag:type_of% @List.map_eq_nil_iff.{0,0}:=@List.map_eq_nil_iff.{0,0}
theorem Ah:type_of% @List.map_take.{0,0}:=@List.map_take.{0,0}
theorem Ai:type_of% @List.mem_append_left.{0}:=@List.mem_append_left.{0}
theorem Aj:type_of% @Nat.div_eq_of_lt:=@Nat.div_eq_of_lt
theorem Ak:type_of% @Nat.le_max_left:=@Nat.le_max_left
theorem B1:type_of% @Array.getElem?_eq_getElem.{0}:=@Array.getElem?_eq_getElem.{0}
theorem B2:type_of% @Array.getElem?_eq_none.{0}:=@Array.getElem?_eq_none.{0}
theorem Cz:type_of% @List.Pairwise.sublist.{0}:=@List.Pairwise.sublist.{0}
theorem CA:type_of% @List.Perm.append_left.{0}:=@List.Perm.append_left.{0}
theorem CB:type_of% @List.getElem?_set.{0}:=@List.getElem?_set.{0}
theorem CC:type_of% @List.length_zip.{0,0}:=@List.length_zip.{0,0}
theorem CD:type_of% @List.mem_iff_getElem.{0}:=@List.mem_iff_getElem.{0}
theorem CE:type_of% @List.not_mem_nil.{0}:=@List.not_mem_nil.{0}
theorem CF:type_of% @List.pairwise_cons.{0}:=@List.pairwise_cons.{0}
theorem CG:type_of% @List.set_eq_take_append_cons_drop.{0}:=@List.set_eq_take_append_cons_drop.{0}
theorem CH:type_of% @Nat.le_max_right:=@Nat.le_max_right
theorem CM:type_of% @Option.bind_assoc.{0,0,0}:=@Option.bind_assoc.{0,0,0}
theorem Fc:type_of% @Array.getElem?_setIfInBounds.{0}:=@Array.getElem?_setIfInBounds.{0}
theorem GD:type_of% @List.mem_of_mem_take.{0}:=@List.mem_of_mem_take.{0}
theorem GF:type_of% @Nat.div_mul_le_self:=@Nat.div_mul_le_self
theorem GG:type_of% @Nat.le_div_iff_mul_le:=@Nat.le_div_iff_mul_le
theorem GH:type_of% @Nat.lt_of_mul_lt_mul_right:=@Nat.lt_of_mul_lt_mul_right
theorem aa {α β : Type} (a : α) (f : α -> Option β) : (some a).bind f = f a := rfl
namespace Go.Ab
inductive Own where
 | no
 | full
 | tok (nm e:Nat)
abbrev Sh:=Option Nat
def Sh.size:Sh->Nat
 | none=>1
 | some n=>n
inductive AV where
 | any
 | int (k:IntKind) (n:Int)
 | bool (b:Bool)
 | str (s:ByteArray)
 | lst (sh:Sh) (z:Bool) (o:Own) (es:List AV)
 | arr (nm off n:Nat) (sh:Sh)
 | ptr (nm off:Nat)
 | vptr (cs:List AV)
 | nilp
 | nilf
 | nile
 | nilm
 | agg (cs:List AV)
 | tup (vs:List AV)
 | fn (f:Nat) (caps:List AV)
 | mref (nm:Nat)
 | vec (n:Nat) (sh:Sh) (cs:List AV)
def AV.cells:AV->List AV
 | .agg cs=>cs
 | v=>[v]
inductive KK where
 | str
 | int (k:IntKind)
 | arr (n:Nat) (k:IntKind)
 deriving DecidableEq
inductive Ent where
 | obj (bx:Bool) (cs:List AV)
 | tok (n sz:Nat)
 | resv
 | mp (kk:KK) (es:List (AV×AV))
abbrev af:=List (Option Ent)
def af.get (m:af) (nm:Nat):Option Ent:=(m[nm]?).bind id
def af.obj? (m:af) (nm:Nat):Option (Bool×List AV):=match m.get nm with
 | some (.obj bx cs)=>some (bx,cs)
 | _=>none
structure St where
 tmps:List AV
 mem:af
inductive Ex where
 | normal
 | exit (id:Nat)
 | ret
structure Masks where
 head:List Bool
 out:List Bool
 ret:List Bool
structure Cfg where
 P:Program
 inl:Nat->Nat->Bool
 arrm:Nat->Bool
 tokm:Nat->Bool
 two:Nat->Nat->List (Nat×Nat)
 thaw:Nat->Nat->Bool
 frzc:Nat->Nat->Bool
 seqm:Nat->Nat->Bool
 late:Nat->Nat->List (Nat×List Nat)
 ben:Nat->Bool
 mask:Nat->Option Nat->Masks
 ord:Nat->Nat->Option (List Nat)
 ahd:Nat->Nat->List Nat
 lib:Nat->Option (List AV->Option AV)
 libm:Nat->Option (List AV->af->Option (AV×af))
def jl (P:Program) (t:Nat):Option Sh:=
 match P.underlying t,P.info? t with
 | some (.struct _),some i | some (.array _ _),some i=>some (some i.size)
 | some _,some i=>if i.size=1 then some none else none
 | _,_=>none
def AD (P:Program) (t:Nat):Option Nat:=
 match P.underlying t with
 | some (.slice e)=>some e
 | _=>none
def wq (P:Program) (t f:Nat):Option (Nat×Sh):=
 match P.underlying t with
 | some (.struct fs)=>
  match fs[f]? with
  | some fd=>match jl P fd.type with
   | some sh=>if sh.size=0 then none else some (fd.offset,sh)
   | none=>none
  | none=>none
 | _=>none
def y9 (P:Program) (t f:Nat):Option (Nat×Sh):=match P.underlying t with
 | some (.array _ e)=>match jl P e with
  | some sh=>if sh.size=0 then none else some (f * sh.size,sh)
  | none=>none
 | _=>wq P t f
def pA:Value->AV
 | .int k n=>.int k n
 | .bool b=>.bool b
 | .string s=>.str s
 | .slice none 0 0=>.lst none true .full []
 | .pointer none=>.nilp
 | .nilFunc=>.nilf
 | .nilIface=>.nile
 | .map none=>.nilm
 | _=>.any
def iq:Value->AV
 | .agg cs=>.agg (cs.toList.map pA)
 | v=>pA v
def rN (P:Program) (t:Nat):Option AV:=
 match P.info? t with
 | some i=>i.zero.map iq
 | none=>none
def pD (P:Program) (t:Nat):Nat:=max 1 (((P.info? t).map (·.bytes)).getD 0)
def aw {R:Type} (v:AV) (x y:Option R):Option R:=match v with
 | .bool b=>match b with
  | true=>x
  | false=>y
 | _=>none
def re (op:BinOp) (k:IntKind) (a b:Int):Option AV:=match op with
 | .add=>some (.int k (k.wrap (a+b)))
 | .sub=>some (.int k (k.wrap (a - b)))
 | .mul=>some (.int k (k.wrap (a * b)))
 | .quo=>if b=0 then none else some (.int k (k.wrap (a.tdiv b)))
 | .rem=>if b=0 then none else some (.int k (a.tmod b))
 | .and=>some (.int k (k.wrap (BitVec.ofInt k.bits a &&& BitVec.ofInt k.bits b).toNat))
 | .or=>some (.int k (k.wrap (BitVec.ofInt k.bits a ||| BitVec.ofInt k.bits b).toNat))
 | .xor=>some (.int k (k.wrap (BitVec.ofInt k.bits a ^^^ BitVec.ofInt k.bits b).toNat))
 | .andNot=>some (.int k (k.wrap (BitVec.ofInt k.bits a &&& ~~~ BitVec.ofInt k.bits b).toNat))
 | .eql=>some (.bool (a == b))
 | .neq=>some (.bool (a != b))
 | .lss=>some (.bool (decide (a < b)))
 | .leq=>some (.bool (decide (a<=b)))
 | .gtr=>some (.bool (decide (a > b)))
 | .geq=>some (.bool (decide (a≥b)))
 | _=>none
def s7 (left:Bool) (k:IntKind) (a b:Int):Option AV:=
 if b < 0 then none
 else if left then some (.int k (k.wrap (a * 2 ^ (min b.toNat k.bits)))) else some (.int k (a.fdiv (2 ^ (min b.toNat k.bits))))
inductive TK where
 | sl
 | bl
 | pt
 | fu
 | other
def BN (P:Program) (t:Nat):TK:=match P.underlying t with
 | some (.slice _)=>.sl
 | some .bool=>.bl
 | some (.pointer _)=>.pt
 | some (.func ..)=>.fu
 | _=>.other
def Wc:AV->Option Bool
 | .nilp=>some true
 | .ptr .. | .vptr _=>some false
 | _=>none
def Wb:AV->Option Bool
 | .nilf=>some true
 | .fn ..=>some false
 | _=>none
def HG (op:BinOp) (b:Bool):Option AV:=match op with
 | .eql=>some (.bool b)
 | .neq=>some (.bool (!b))
 | _=>none
def Tp (op:BinOp) (a b:ByteArray):Option AV:=match op with
 | .add=>if a.size+b.size<=9223372036854775807 then some (.str (a++b)) else none
 | .eql=>some (.bool (a.toList == b.toList))
 | .neq=>some (.bool (!(a.toList == b.toList)))
 | _=>none
def ag (tk:TK) (op:BinOp) (x y:AV):Option AV:=match tk,x,y with
 | _,.int k a,.int k' b=>match op with
  | .shl=>s7 true k a b
  | .shr=>s7 false k a b
  | op=>if k=k' then re op k a b else none
 | _,.str a,.str b=>Tp op a b
 | .bl,.bool a,.bool b=>match op with
  | .eql=>some (.bool (a == b))
  | .neq=>some (.bool (!(a == b)))
  | _=>none
 | .sl,.lst _ z _ _,.lst _ true _ []=>match op with
  | .eql=>some (.bool z)
  | .neq=>some (.bool (!z))
  | _=>none
 | .pt,x,.nilp=>(Wc x).bind (HG op)
 | .fu,x,.nilf=>(Wb x).bind (HG op)
 | _,_,_=>none
def jN (op:UnOp) (x:AV):Option AV:=match op,x with
 | .not,.bool b=>some (.bool !b)
 | .neg,.int k n=>some (.int k (k.wrap (0 - n)))
 | _,_=>none
def ON (c a b:AV):Option AV:=match c with
 | .bool c=>some (if c then a else b)
 | _=>none
def aY (t:AV) (i:Nat):Option AV:=match t with
 | .tup vs=>vs[i]?
 | _=>none
def aO (st:Bool) (x:AV):Option AV:=match st,x with
 | false,.lst _ _ _ es=>some (.int .i64 es.length)
 | false,.arr _ _ n _=>some (.int .i64 n)
 | false,.vec n _ _=>some (.int .i64 n)
 | true,.str s=>some (.int .i64 s.size)
 | _,_=>none
def yX (mx:Bool) (x y:AV):Option AV:=match x,y with
 | .int k a,.int k' b=>if k=k' then some (.int k (if mx then (if b > a then b else a) else (if b < a then b else a))) else none
 | _,_=>none
def bn (k:IntKind) (x:AV):Option AV:=match x with
 | .int _ n=>some (.int k (k.wrap n))
 | _=>none
def ku (sh:Sh) (cs:List AV) (off:Nat):Option AV:=match sh with
 | none=>cs[off]?
 | some n=>if off+n<=cs.length then some (.agg ((cs.drop off).take n)) else none
def aj (sh:Sh) (m:af) (x:AV):Option AV:=match x with
 | .vptr cs=>ku sh cs 0
 | .ptr nm off=>(m.obj? nm).bind fun o=>ku sh o.2 off
 | _=>none
def di:AV->Bool
 | .any | .agg _ | .tup _ | .vec ..=>false
 | _=>true
def c9 (sh:Sh) (v:AV):Bool:=match sh with
 | none=>di v
 | some n=>match v with
  | .agg cs=>cs.length == n && cs.all di
  | _=>false
def bP (cs:List AV) (off:Nat) (vs:List AV):List AV:=cs.take off++vs++cs.drop (off+vs.length)
def aL (sh:Sh) (m:af) (x v:AV):Option af:=match x with
 | .ptr nm off=>(m.obj? nm).bind fun o=>
  if off+sh.size<=o.2.length then if c9 sh v then some (m.set nm (some (.obj o.1 (bP o.2 off v.cells)))) else none else none
 | _=>none
def iG (x:AV):Option AV:=match x with
 | .vptr cs=>some (.vptr cs)
 | .ptr nm off=>some (.ptr nm off)
 | .fn f cs=>some (.fn f cs)
 | _=>none
def lH (x:AV):Option (Nat×List AV):=match x with
 | .fn f cs=>some (f,cs)
 | _=>none
def aT (off:Nat) (x:AV):Option AV:=match x with
 | .vptr cs=>if off < cs.length then some (.vptr (cs.drop off)) else none
 | .ptr nm o=>some (.ptr nm (o+off))
 | _=>none
def Mi (off:Nat) (sh:Sh) (x:AV):Option AV:=match x with
 | .agg cs=>ku sh cs off
 | _=>none
def aH (sh:Sh) (x i:AV):Option AV:=match i with
 | .int _ i=>match x with
  | .lst sh' _ _ es=>if sh'=sh then if 0<=i then (es[i.toNat]?).map fun e=>.vptr e.cells else none else none
  | .arr nm off n sh'=>if sh'=sh then if 0<=i/\i < n then some (.ptr nm (off+i.toNat * sh.size)) else none else none
  | .vec n sh' cs=>if sh'=sh then if 0<=i/\i < n then some (.vptr ((cs.drop (i.toNat * sh.size)).take sh.size)) else none else none
  | _=>none
 | _=>none
def LL (len:Nat) (sh:Sh) (x i:AV):Option AV:=match i with
 | .int _ i=>if 0<=i/\i < len then aT (i.toNat * sh.size) x else none
 | _=>none
def sR (x i:AV):Option AV:=match x,i with
 | .str s,.int _ i=>if 0<=i then (s[i.toNat]?).map fun b=>.int .u8 b.toNat else none
 | _,_=>none
def jy (y:Nat) (x:Option AV) (dflt:Nat):Option Nat:=match x with
 | none=>some dflt
 | some (.int _ i)=>if 0<=i/\i<=y then some i.toNat else none
 | _=>none
def qK (x:AV) (lo hi mx:Option AV):Option AV:=match x with
 | .lst sh z _ es=>match mx with
  | none=>(jy es.length hi es.length).bind fun h=>(jy h lo 0).bind fun l=>some (.lst sh z .no ((es.take h).drop l))
  | some mv=>match hi with
   | none=>none
   | some hv=>(jy es.length (some mv) 0).bind fun m=>(jy m (some hv) 0).bind fun h=>(jy h lo 0).bind fun l=>
    if h=m then some (.lst sh z .full ((es.take h).drop l)) else some (.lst sh z .no ((es.take h).drop l))
 | .arr nm off n sh=>match mx with
  | none=>(jy n hi n).bind fun h=>(jy h lo 0).bind fun l=>some (.arr nm (off+l * sh.size) (h - l) sh)
  | some _=>none
 | .str s=>match mx with
  | none=>(jy s.size hi s.size).bind fun h=>(jy h lo 0).bind fun l=>some (.str (s.extract l h))
  | some _=>none
 | _=>none
def nS (sh:Sh) (x:AV) (lo hi mx:Option AV):Option AV:=match x with
 | .lst sh' z o es=>if sh'=sh\/es=[] then qK (.lst sh' z o es) lo hi mx else none
 | .arr nm off n sh'=>if sh'=sh then qK (.arr nm off n sh') lo hi mx else none
 | _=>none
def YW (x:AV) (lo hi mx:Option AV):Option AV:=match x with
 | .str s=>qK (.str s) lo hi mx
 | _=>none
mutual
def pl:AV->Bool
 | .int .. | .bool _ | .str _ | .nilp | .nilf | .nile | .nilm=>true
 | .lst _ _ o _=>match o with
  | .tok ..=>false
  | _=>true
 | .agg cs=>lB cs
 | _=>false
def lB:List AV->Bool
 | []=>true
 | c::cs=>pl c && lB cs
end
mutual
def cl:AV->Bool
 | .lst _ _ o _=>match o with
  | .tok ..=>false
  | _=>true
 | .arr .. | .ptr .. | .mref _ | .vec ..=>false
 | .vptr cs | .agg cs | .tup cs | .fn _ cs=>uM cs
 | _=>true
def uM:List AV->Bool
 | []=>true
 | c::cs=>cl c && uM cs
end
mutual
def jd:AV->Bool
 | .vptr _=>false
 | .agg cs | .tup cs | .fn _ cs=>mh cs
 | _=>true
def mh:List AV->Bool
 | []=>true
 | c::cs=>jd c && mh cs
end
def qh:AV->AV
 | .lst sh z (.tok ..) es=>.lst sh z .no es
 | v=>v
def lV:AV->AV
 | .agg cs=>.agg (cs.map qh)
 | v=>qh v
def qy (n:Nat):Nat->List AV->List (List AV)
 | 0,_=>[]
 | k+1,cs=>cs.take n::qy n k (cs.drop n)
def ll (sh:Sh) (k:Nat) (cs:List AV):List AV:=match sh with
 | none=>cs.take k
 | some n=>(qy n k cs).map .agg
def eY (f:AV->Option (AV×List Nat)):List AV->Option (List AV×List Nat)
 | []=>some ([],[])
 | c::cs=>(f c).bind fun r=>(eY f cs).map fun s=>(r.1::s.1,r.2++s.2)
def bG (m:af):Nat->AV->Option (AV×List Nat)
 | 0,_=>none
 | k+1,v=>match v with
  | .lst sh z o es=>some (match o with
   | .tok ..=>.lst sh z .no es
   | o=>.lst sh z o es,[])
  | .arr nm off n sh=>(m.obj? nm).bind fun o=>
   if !o.1 && decide (off+n * sh.size<=o.2.length) then (eY (bG m k) ((o.2.drop off).take (n * sh.size))).bind fun r=>
    if r.1.all di && lB r.1 then some (.lst sh false .no (ll sh n r.1),nm::r.2) else none
   else none
  | .ptr nm off=>(m.obj? nm).bind fun o=>if o.1 then (eY (bG m k) (o.2.drop off)).map fun r=>(.vptr r.1,r.2) else none
  | .agg cs=>(eY (bG m k) cs).map fun r=>(.agg r.1,r.2)
  | .tup cs=>(eY (bG m k) cs).map fun r=>(.tup r.1,r.2)
  | .fn f cs=>(eY (bG m k) cs).map fun r=>(.fn f r.1,r.2)
  | .vptr cs=>(eY (bG m k) cs).map fun r=>(.vptr r.1,r.2)
  | .mref _=>some (.any,[])
  | .vec ..=>none
  | v=>some (v,[])
def j6:Nat:=9
def ju (m:af) (l:List Nat):af:=l.foldl (fun m nm=>m.set nm none) m
def NW:AV->Bool
 | .int ..=>true
 | _=>false
def mP:AV->Bool
 | .bool _=>true
 | .lst sh _ o ds=>match sh with
  | some _=>false
  | none=>match o with
   | .tok ..=>false
   | _=>ds.all NW
 | _=>false
def Pm (base:Nat) (m:af) (v:AV):Option (AV×af):=match v with
 | .agg [.int k a,.int k' b,.lst sh z o es]=>match o with
  | .tok nm _=>match sh with
   | none=>none
   | some n=>match m.get nm with
    | some (.tok c sz)=>if c=es.length/\sz=n/\(es.flatMap AV.cells).all mP=true then some (.agg [.int k a,.int k' b,.arr base 0 es.length (some n)],[some (.obj false (es.flatMap AV.cells))]) else none
    | _=>none
  | _=>match es with
   | []=>match z with
    | true=>some (.agg [.int k a,.int k' b,.lst sh true o []],[])
    | false=>none
   | _::_=>none
 | _=>none
def nE (P:Program) (e:Nat) (sh:Sh):Bool:=match P.info? e with
 | some i=>i.size == sh.size && decide (0 < i.size) && (match i.zero with | some z=>z.cells.size == i.size && (match sh,z with | none,.agg _=>false | _,_=>true) | none=>false)
 | none=>false
def qQ (sh:Sh) (z:AV) (n:Nat):List AV:=match sh with
 | none=>List.replicate n z
 | some _=>(List.replicate n z.cells).flatten
def az (d:Option Nat) (m:af) (e:Ent):Nat×af:=match d with
 | none=>(m.length,m++[some e])
 | some s=>(s,m.set s (some e))
def gG:Nat:=140737488355328
def w9 (m:af) (sh:Sh):AV->Option (Nat×List AV)
 | .lst shy _ _ ys=>if shy=sh/\0 < ys.length then some (ys.length,ys.flatMap AV.cells) else none
 | .arr nm off n shy=>(m.obj? nm).bind fun o=>if shy=sh/\0 < n/\off+n * sh.size<=o.2.length/\((o.2.drop off).take (n * sh.size)).all di=true then some (n,(o.2.drop off).take (n * sh.size)) else none
 | .vec n shy cs=>if shy=sh/\0 < n/\cs.length=n * sh.size then some (n,cs) else none
 | _=>none
def sY (m:af) (sh:Sh):AV->Option (Nat×List AV×af)
 | .lst shx _ o es=>match o with
  | .full=>if shx=sh\/es=[] then some (es.length,es.flatMap AV.cells,m) else none
  | _=>none
 | .arr nm off n shx=>(m.obj? nm).bind fun o=>if shx=sh/\off=0/\0 < n/\o.1=false/\o.2.length=n * sh.size then some (n,o.2,m.set nm none) else none
 | _=>none
def sc (d:Option Nat) (arrm:Bool) (sh:Sh) (bytes:Nat) (m:af) (x y:AV):Option (AV×af):=match d,arrm with
 | none,true=>(w9 m sh y).bind fun q=>(sY m sh x).bind fun p=>
  if (p.1+q.1) * bytes<=gG then some (.arr p.2.2.length 0 (p.1+q.1) sh,p.2.2++[some (.obj false (p.2.1++q.2))]) else none
 | _,_=>none
def b8 (d:Option Nat) (arrm:Bool) (e:Nat) (sh:Sh) (bytes:Nat) (m:af) (x y:AV):Option (AV×af):=match x,y with
 | .lst shx z o es,.lst shy _ _ ys=>match ys with
  | []=>some (.lst shx z o es,m)
  | y::ys=>
   if shy=sh then
    if (es.length+(y::ys).length) * bytes<=gG then
     match o with
     | .no=>none
     | .full=>
      if shx=sh\/es=[] then
       if arrm then some (.arr (az d m .resv).1 0 (es.length+(y::ys).length) sh,(az d m (.obj false ((es++y::ys).flatMap AV.cells))).2)
       else some (.lst sh false (.tok (az d m .resv).1 e) (es++y::ys),(az d m (.tok (es.length+(y::ys).length) sh.size)).2)
      else none
     | .tok nm e'=>
      if shx=sh/\e'=e/\arrm=false then match m.get nm with
       | some (.tok k sz)=>if k=es.length/\sz=sh.size then some (.lst sh false (.tok nm e) (es++y::ys),m.set nm (some (.tok (es.length+(y::ys).length) sh.size))) else none
       | _=>none
      else none
    else none
   else none
 | x,y=>sc d arrm sh bytes m x y
def dI (d:Option Nat) (sh:Sh) (m:af) (v:AV):Option (AV×af):=if c9 sh v then some (.ptr (az d m .resv).1 0,(az d m (.obj true v.cells)).2) else none
def dO (sh:Sh) (vs:List AV):Option AV:=if vs.all (fun v=>c9 sh (lV v) && pl (lV v)) then some (.lst sh false .full (vs.map lV)) else if vs.all (fun v=>c9 sh (lV v)) then some (.vec vs.length sh ((vs.map lV).flatMap AV.cells)) else none
def Dq:List AV->List (Nat×Sh×AV)->Option (List AV)
 | cs,[]=>some cs
 | cs,(off,sh,v)::r=>if c9 sh v then if off+sh.size<=cs.length then Dq (bP cs off v.cells) r else none else none
def gm (zero:AV) (parts:List (Nat×Sh×AV)):Option AV:=match zero with
 | .agg cs=>(Dq cs parts).map .agg
 | _=>none
def iP (d:Option Nat) (e:Nat) (sh:Sh) (z:AV) (bytes:Nat) (m:af) (l c:AV):Option (AV×af):=match l,c with
 | .int _ l,.int _ c=>
  if 0<=l/\l<=c/\c * bytes<=281474976710656/\c<=9223372036854775807 then
   if l=c then some (.arr (az d m .resv).1 0 l.toNat sh,(az d m (.obj false (qQ sh z l.toNat))).2)
   else if l=0 then some (.lst sh false (.tok (az d m .resv).1 e) [],(az d m (.tok 0 sh.size)).2) else none
  else none
 | _,_=>none
def atomV:AV->Option Value
 | .int k n=>some (.int k n)
 | .bool b=>some (.bool b)
 | .str s=>some (.string s)
 | _=>none
def sg:List AV->Option (List Value)
 | []=>some []
 | x::xs=>(atomV x).bind fun v=>(sg xs).map fun vs=>v::vs
def flatV:AV->Option Value
 | .agg cs=>(sg cs).map fun vs=>.agg vs.toArray
 | x=>atomV x
def EU (k:IntKind) (n:Int):Bool:=decide (k.min<=n) && decide (n<=k.max)
def nK (k:IntKind):AV->Bool
 | .int k' n=>decide (k'=k) && EU k n
 | _=>false
def jU:KK->AV->Bool
 | .str,.str s=>decide (s.size<=maxLen)
 | .int k,x=>nK k x
 | .arr n k,.agg cs=>cs.length == n && cs.all (nK k)
 | _,_=>false
def uK:AV->AV->Bool
 | .int k n,.int k' n'=>decide (k=k') && decide (n=n')
 | .str s,.str t=>decide (s=t)
 | _,_=>false
def Av:List AV->List AV->Bool
 | [],[]=>true
 | x::xs,y::ys=>uK x y && Av xs ys
 | _,_=>false
def jj:AV->AV->Bool
 | .agg cs,.agg ds=>Av cs ds
 | x,y=>uK x y
def wV (P:Program) (k:Nat):Option KK:=match P.underlying k with
 | some .string=>some .str
 | some (.int q)=>some (.int q)
 | some (.array n e)=>match P.underlying e with
  | some (.int q)=>if P.tiled 2 k && P.keyTypeAt 2 k && P.keyType k && (P.cellsOf e == 1) && decide (0 < P.types.size) then some (.arr n q) else none
  | _=>none
 | _=>none
def vu (P:Program) (t:Nat):Option (KK×Nat):=match P.underlying t with
 | some (.map k e)=>(wV P k).map fun kk=>(kk,e)
 | _=>none
def mg (m:af) (kk:KK) (x:AV):Option (Nat×List (AV×AV)):=match x with
 | .mref nm=>match m.get nm with
  | some (.mp kk' es)=>if kk'=kk then some (nm,es) else none
  | _=>none
 | _=>none
def Bn (es:List (AV×AV)) (key z:AV):AV×Bool:=match es.find? (fun p=>jj p.1 key) with
 | some p=>(p.2,true)
 | none=>(z,false)
def o8 (kk:KK) (z:AV) (m:af) (x key:AV):Option (AV×Bool):=(mg m kk x).bind fun q=>if jU kk key=true then some (Bn q.2 key z) else none
def nO (es:List (AV×AV)) (key v:AV):List (AV×AV):=match es.any (fun p=>jj p.1 key) with
 | true=>es.map fun p=>if jj p.1 key then (p.1,v) else p
 | false=>es++[(key,v)]
def qnr (_:AV):Bool:=true
def kQ (kk:KK) (m:af) (x key v:AV):Option af:=(mg m kk x).bind fun q=>if jU kk key=true/\qnr v=true/\q.2.length < maxLen then some (m.set q.1 (some (.mp kk (nO q.2 key v)))) else none
def yW (d:Option Nat) (sh:Sh) (z:AV) (bytes:Nat) (m:af) (l c:AV):Option (AV×af):=match d,sh,l,c with
 | none,none,.int _ l,.int _ c=>
  if (0<=l/\l=c/\c * bytes<=281474976710656/\c<=9223372036854775807)/\di z=true/\pl z=true then some (.lst none false .full (List.replicate l.toNat z),m) else none
 | _,_,_,_=>none
def Pf (P:Program) (t:Nat):Bool:=match P.underlying t with
 | some (.struct fs)=>fs.all fun f=>(P.info? f.type).isSome
 | some (.array _ e)=>(P.info? e).isSome
 | _=>false
section
variable {R:Type} (C:Cfg) (fid:Nat) (callP:Nat->List AV->Option AV) (callI:Nat->List AV->af->Option (AV×af)) (d:Option Nat)
def aD (d:Option Nat) (m:af) (g:Nat) (vs:List AV):Option (AV×af):=
 (eY (bG m j6) vs).bind fun r=>if d.isSome && !r.2.isEmpty then none else (callP g r.1).map fun v=>(v,ju m r.2)
def Jr (m:af) (g:Nat) (vs:List AV):Option (AV×af):=
 (eY (bG m j6) vs).bind fun r=>(callI g r.1 []).bind fun q=>(Pm m.length q.2 q.1).map fun t=>(t.1,ju m r.2++t.2)
def AF (m:af) (x:AV):Option (AV×List Nat):=match x with
 | .arr nm off n sh=>bG m j6 (.arr nm off n sh)
 | x=>some (x,[])
def yi (m:af) (g:Nat) (vs:List AV):Option (AV×af):=(eY (AF m) vs).bind fun r=>callI g r.1 (ju m r.2)
def j0 (g:Nat) (vs:List AV) (m:af) (K:AV->af->Option R):Option R:=
 match C.libm g with
 | some h=>match d with
  | none=>(h vs m).bind fun r=>K r.1 r.2
  | some _=>none
 | none=>match C.lib g with
 | some h=>(h vs).bind fun v=>K v m
 | none=>match C.inl fid g with
  | true=>match d with
   | none=>(match C.frzc fid g with | true=>yi callI m g vs | false=>match C.thaw fid g with | true=>Jr callI m g vs | false=>callI g vs m).bind fun r=>K r.1 r.2
   | some _=>none
  | false=>(aD callP d m g vs).bind fun r=>K r.1 r.2
def xW (b:Builtin) (ts:Array TypeId) (vs:List AV) (m:af) (K:AV->af->Option R):Option R:=
 match b,vs with
 | .len,[x]=>match (ts[0]?).bind C.P.underlying with
  | some (.slice _)=>(aO false x).bind fun v=>K v m
  | some .string=>(aO true x).bind fun v=>K v m
  | _=>none
 | .max,[x,y]=>(yX true x y).bind fun v=>K v m
 | .min,[x,y]=>(yX false x y).bind fun v=>K v m
 | .append,[x,y]=>match ts[0]?,ts[1]? with
  | some t,some t'=>if t=t' then
    match AD C.P t with
    | some e=>match jl C.P e with
     | some sh=>if nE C.P e sh then (b8 d (C.arrm fid) e sh (pD C.P e) m x y).bind fun r=>K r.1 r.2 else none
     | none=>none
    | none=>none
   else none
  | _,_=>none
 | _,_=>none
def kE (o:Oper) (ρ:Operand->AV) (m:af) (K:AV->af->Option R):Option R:=
 match o.op with
 | .move x=>K (ρ x) m
 | .assign x=>K (ρ x) m
 | .pick c a b=>(ON (ρ c) (ρ a) (ρ b)).bind fun v=>K v m
 | .alloc t=>match rN C.P t with
  | some z=>K (.ptr (az d m .resv).1 0) (az d m (.obj true z.cells)).2
  | none=>none
 | .box t x=>match jl C.P t with
  | some sh=>(dI d sh m (ρ x)).bind fun r=>K r.1 r.2
  | none=>none
 | .build t ps=>if Pf C.P t then match rN C.P t,ps.toList.mapM (fun p=>(y9 C.P t p.1).map fun f=>(f.1,f.2,ρ p.2)) with
  | some z,some l=>(gm z l).bind fun v=>K v m
  | _,_=>none else none
 | .buildSlice t n ps=>match AD C.P t with
  | some e=>match jl C.P e with
   | some sh=>if nE C.P e sh && (ps.toList.map (·.1) == List.range n) && decide (n * sh.size<=16777216) then (dO sh (ps.toList.map fun p=>ρ p.2)).bind fun v=>K v m else none
   | none=>none
  | none=>none
 | .load t a=>match jl C.P t with
  | some sh=>(aj sh m (ρ a)).bind fun v=>K v m
  | none=>none
 | .store t a x=>match jl C.P t with
  | some sh=>(aL sh m (ρ a) (ρ x)).bind fun m'=>K .any m'
  | none=>none
 | .nilCheck x=>(iG (ρ x)).bind fun v=>K v m
 | .binOp op t x y _=>(ag (BN C.P t) op (ρ x) (ρ y)).bind fun v=>K v m
 | .unOp op _ x=>(jN op (ρ x)).bind fun v=>K v m
 | .convert src dst x=>match C.P.underlying dst with
  | some (.int k)=>if (C.P.underlying src).isSome then (bn k (ρ x)).bind fun v=>K v m else none
  | _=>none
 | .makeFunc fn fi cs=>match fn,fi.toList with
  | .func f,[]=>K (.fn f (cs.toList.map ρ)) m
  | _,_=>none
 | .makeSlice t l c=>match AD C.P t with
  | some e=>match jl C.P e,rN C.P e with
   | some sh,some z=>if nE C.P e sh then (match C.tokm fid with | true=>yW d sh z (pD C.P e) m (ρ l) (ρ c) | false=>iP d e sh z (pD C.P e) m (ρ l) (ρ c)).bind fun r=>K r.1 r.2 else none
   | _,_=>none
  | none=>none
 | .slice t x lo hi mx=>match C.P.underlying t with
  | some (.slice e)=>match jl C.P e with
   | some sh=>if nE C.P e sh then (nS sh (ρ x) (lo.map ρ) (hi.map ρ) (mx.map ρ)).bind fun v=>K v m else none
   | none=>none
  | some .string=>(YW (ρ x) (lo.map ρ) (hi.map ρ) (mx.map ρ)).bind fun v=>K v m
  | _=>none
 | .fieldAddr t x f=>match wq C.P t f with
  | some (off,_)=>(aT off (ρ x)).bind fun v=>K v m
  | none=>none
 | .field t x f=>match wq C.P t f with
  | some (off,sh)=>(Mi off sh (ρ x)).bind fun v=>K v m
  | none=>none
 | .indexAddr t x i=>match C.P.underlying t with
  | some (.slice e)=>match jl C.P e with
   | some sh=>if nE C.P e sh then (aH sh (ρ x) (ρ i)).bind fun v=>K v m else none
   | none=>none
  | some (.array n e)=>match jl C.P e with
   | some sh=>if nE C.P e sh then (LL n sh (ρ x) (ρ i)).bind fun v=>K v m else none
   | none=>none
  | _=>none
 | .index t x i=>match C.P.underlying t with
  | some .string=>(sR (ρ x) (ρ i)).bind fun v=>K v m
  | _=>none
 | .extract t i=>(aY (ρ t) i).bind fun v=>K v m
 | .call c=>match c.callee with
  | .value f=>(lH (ρ f)).bind fun gc=>j0 C fid callP callI d gc.1 (c.args.toList.map ρ++gc.2) m K
  | .builtin b=>xW C fid d b c.argTypes (c.args.toList.map ρ) m K
  | _=>none
 | .makeMap t n=>match n,d with
  | none,none=>match vu C.P t with
   | some (kk,_)=>K (.mref (az d m .resv).1) (az d m (.mp kk [])).2
   | none=>none
  | _,_=>none
 | .lookup t x i ok=>match vu C.P t with
  | some (kk,e)=>match rN C.P e with
   | some z=>(o8 kk z m (ρ x) (ρ i)).bind fun r=>match ok with
    | true=>K (.tup [r.1,.bool r.2]) m
    | false=>K r.1 m
   | none=>none
  | none=>none
 | .mapUpdate t x i y=>match vu C.P t with
  | some (kk,_)=>(kQ kk m (ρ x) (ρ i) (ρ y)).bind fun m'=>K .any m'
  | none=>none
 | .insert t x i y=>match vu C.P t with
  | some (kk,_)=>(kQ kk m (ρ x) (ρ i) (ρ y)).bind fun m'=>K .any m'
  | none=>none
 | .defer c=>match c.callee with
  | .value f=>match c.args.toList with
   | []=>(lH (ρ f)).bind fun gc=>match C.ben gc.1 with
    | true=>K .any m
    | false=>none
   | _::_=>none
  | _=>none
 | _=>none
end
def ev (ts:List AV):Operand->AV
 | .tmp t=>ts.getD t .any
 | .const v=>iq v
 | .global _=>.any
 | .func f=>.fn f []
def gj (ts:List AV) (dst:Option Nat) (v:AV):List AV:=match dst with
 | some d=>ts.set d v
 | none=>ts
section
variable {R:Type} (C:Cfg) (fid:Nat) (callP:Nat->List AV->Option AV) (callI:Nat->List AV->af->Option (AV×af))
def nl (o:Oper):Bool:=match o.op with
 | .alloc _ | .box .. | .makeSlice ..=>true
 | .call c=>match c.callee with
  | .builtin .append=>true
  | _=>false
 | _=>false
def fL (ops:Array Oper) (i:Nat):Nat:=((ops.toList.take i).filter nl).length
def xf (ops:Array Oper) (ts:List AV) (j:Nat):Bool:=match (ops[j]?).bind (·.guard) with
 | none=>false
 | some (j',want)=>match (ops[j']?).bind (·.dst) with
  | none=>false
  | some g=>match ts.getD g .any with
   | .bool b=>match b with
    | true=>match want with
     | true=>false
     | false=>true
    | false=>want
   | .tup _=>true
   | _=>false
def mq (base:Option Nat) (ops:Array Oper):List Nat->St->(St->Option R)->Option R
 | [],st,K=>K st
 | i::l,st,K=>match ops[i]? with
  | none=>none
  | some o=>match o.guard with
   | none=>kE C fid callP callI (base.map (· + fL ops i)) o (ev st.tmps) st.mem fun v m=>mq base ops l ⟨gj st.tmps o.dst v,m⟩ K
   | some (j,want)=>match (ops[j]?).bind (·.dst) with
    | none=>none
    | some g=>
     let run (b:Bool):Option R:=kE C fid callP callI (base.map (· + fL ops i)) o (ev (st.tmps.set g (.bool b))) st.mem fun v m=>mq base ops l ⟨gj (st.tmps.set g (.bool b)) o.dst v,m⟩ K
     let skip (b:Bool):Option R:=mq base ops l ⟨gj (st.tmps.set g (.bool b)) o.dst (.tup []),st.mem⟩ K
     match xf ops st.tmps j with
     | true=>match st.tmps.getD g .any with
      | .tup cs=>match cs with
       | []=>mq base ops l ⟨gj st.tmps o.dst (.tup []),st.mem⟩ K
       | _::_=>none
      | _=>none
     | false=>match want with
      | true=>aw (st.tmps.getD g .any) (run true) (skip false)
      | false=>aw (st.tmps.getD g .any) (skip true) (run false)
def pL:List Bool->List AV->List AV
 | _,[]=>[]
 | [],_::vs=>.any::pL [] vs
 | b::bs,v::vs=>(match b with | true=>v | false=>.any)::pL bs vs
abbrev bz (id:Nat) (K:Ex->St->Option R):Ex->St->Option R:=fun e st'=>match e with
 | .normal=>K .normal st'
 | .exit j=>match j == id with
  | true=>K .normal st'
  | false=>K (.exit j) st'
 | .ret=>K .ret st'
abbrev xd (next:St->Option R) (K:Ex->St->Option R):Ex->St->Option R:=fun e st'=>match e with
 | .normal=>next st'
 | .exit id=>K (.exit id) st'
 | .ret=>K .ret st'
def keyOf:Code->Option Nat
 | .region id _ _=>some id
 | .seq a b=>match keyOf a with
  | some k=>some k
  | none=>keyOf b
 | .cond _ a b=>match keyOf a with
  | some k=>some k
  | none=>keyOf b
 | .block _ b | .loop b | .scope b=>keyOf b
 | _=>none
inductive Cls where
 | N | L | A | Ap | W
 deriving DecidableEq
def jh (o:Oper):Cls:=match o.op with
 | .move _ | .assign _ | .pick .. | .binOp .. | .unOp .. | .convert .. | .nilCheck _ | .extract .. | .field .. | .fieldAddr .. | .indexAddr .. | .index .. | .slice .. | .makeFunc .. | .build .. | .buildSlice ..=>.N
 | .load .. | .lookup ..=>.L
 | .alloc _ | .box .. | .makeSlice ..=>.A
 | .call c=>match c.callee with
  | .builtin .len | .builtin .max | .builtin .min=>.N
  | .builtin .append=>.Ap
  | .value _=>.L
  | _=>.W
 | _=>.W
def Dh:Cls->Cls->Bool
 | .N,_ | _,.N | .L,.L | .L,.A | .L,.Ap | .A,.A=>true
 | _,_=>false
def pK (ops:Array Oper) (o:Oper):List Nat:=
 (o.op.operands.toList.filterMap fun | .tmp t=>some t | _=>none) ++
 (match o.guard with
  | some (g,_)=>((ops[g]?).bind (·.dst)).toList++(match (ops[g]?).bind (·.guard) with
   | some (g',_)=>((ops[g']?).bind (·.dst)).toList
   | none=>[])
  | none=>[])
def wa (ops:Array Oper) (x y:Oper):Bool:=
 (match x.dst with
  | some d=>!(pK ops y).contains d && y.dst != some d
  | none=>true) &&
 (match y.dst with
  | some d=>!(pK ops x).contains d
  | none=>true)
def Ef (x y:Oper):Bool:=match x.op with
 | .lookup ..=>match y.op with
  | .store ..=>true
  | _=>false
 | _=>false
def xg (ops:Array Oper) (x y:Oper):Bool:=(Dh (jh x) (jh y) || Ef x y) && wa ops x y
def nC (ops:Array Oper):Nat->List Nat
 | 0=>[]
 | n+1=>(nC ops n)++[match ops[n]? with
  | some o=>(o.after.toList.filter (Region.binds .any)).foldl (fun s e=>s ||| (2 ^ e.on ||| (nC ops n).getD e.on 0)) 0
  | none=>0]
def uI (ops:Array Oper):List Nat:=nC ops ops.size
def By (ops:Array Oper) (ah:List Nat):List Nat->Bool
 | []=>true
 | j::l=>l.all (fun i=>(ah.getD i 0).testBit j || (match ops[j]?,ops[i]? with | some x,some y=>xg ops x y | _,_=>false)) && By ops ah l
def C6 (ops:Array Oper) (ah:List Nat) (i:Nat):Bool:=match ops[i]?,ah[i]? with
 | some o,some a=>Nat.beq a (o.after.foldl (fun s e=>match Region.binds .any e with
  | true=>s ||| (2 ^ e.on ||| ah.getD e.on 0)
  | false=>s) 0)
 | _,_=>false
def HE (P:Program) (ops:Array Oper) (l:List Nat):Bool:=
 P.follows .mixedOrders && l.isPerm (List.range ops.size) && (List.range ops.size).all (fun i=>(match ops[i]? with | some o=>o.after.all fun e=>!Region.binds .any e || decide (e.on < i) | none=>false)) && By ops (uI ops) l
def Mb (P:Program) (ops:Array Oper) (l ah:List Nat):Bool:=
 P.follows .mixedOrders && (l.isPerm (List.range ops.size) && ((List.range ops.size).all (fun i=>(match ops[i]? with | some o=>o.after.all fun e=>!Region.binds .any e || decide (e.on < i) | none=>false)) && (Nat.beq ah.length ops.size && ((List.range ops.size).all (C6 ops ah) && By ops ah l))))
def ja (o:Oper):Cls:=match jh o with
 | .N=>.N
 | .L=>match o.op with
  | .load ..=>.L
  | _=>.W
 | _=>.W
def vH (ops:Array Oper) (x y:Oper):Bool:=(match ja x,ja y with
 | .N,_ | _,.N | .L,.L=>true
 | _,_=>false) && wa ops x y
def qa:List (Nat×List Nat)->Nat->List Nat
 | [],_=>[]
 | (k,ys)::l,i=>match Nat.beq k i with
  | true=>ys
  | false=>qa l i
def yU (ops:Array Oper) (x y:Oper):Bool:=(match ja x with | .L=>true | _=>false) && (wa ops x y && (match x.dst with | some d=>!(pK ops x).contains d | none=>false))
def Y3 (ops:Array Oper) (x:Oper) (l:List Nat):Bool:=l.all fun k=>match ops[k]? with
 | some o=>match o.dst with
  | some d=>!(pK ops x).contains d && x.dst != some d
  | none=>true
 | none=>true
def vC (ops:Array Oper) (ah:List Nat) (lt:List (Nat×List Nat)):List Nat->Bool
 | []=>true
 | j::l=>(l.all (fun i=>(ah.getD i 0).testBit j || (match ops[j]?,ops[i]? with | some x,some y=>vH ops x y || ((qa lt i).contains j && yU ops x y) | _,_=>false)) &&
   ((match ops[j]? with
    | some x=>(match qa lt j with | []=>true | _::_=>(match ja x with | .W=>true | _=>false)) && (!(lt.any fun p=>p.2.contains j) || Y3 ops x l)
    | none=>true))) && vC ops ah lt l
def yh (P:Program) (ops:Array Oper) (l ah:List Nat) (lt:List (Nat×List Nat)):Bool:=
 P.follows .mixedOrders && (l.isPerm (List.range ops.size) && ((List.range ops.size).all (fun i=>(match ops[i]? with | some o=>o.after.all fun e=>!Region.binds .any e || decide (e.on < i) | none=>false)) && (Nat.beq ah.length ops.size && ((List.range ops.size).all (C6 ops ah) && vC ops ah lt l))))
def cU (m:af) (c:Nat):af:=match c with
 | 0=>m
 | c+1=>m++List.replicate (c+1) (some .resv)
def qd (o:Option (List Nat)) (n:Nat):List Nat:=match o with
 | some l=>l
 | none=>List.range n
end
def EE (P:Program) (m:af) (ts:List AV):ResultVar->Option AV
 | .tmp t=>some (ts.getD t .any)
 | .cell a t=>(jl P t).bind fun sh=>aj sh m (ts.getD a .any)
def ug (P:Program) (m:af) (ts:List AV):List ResultVar->Option (List AV)
 | []=>some []
 | r::rs=>(EE P m ts r).bind fun v=>(ug P m ts rs).map fun vs=>v::vs
def zk {R:Type} (P:Program) (m:af) (ts:List AV):List ResultVar->(List AV->Option R)->Option R
 | [],K=>K []
 | .tmp t::rs,K=>zk P m ts rs fun vs=>K (ts.getD t .any::vs)
 | .cell a t::rs,K=>match jl P t with
  | some sh=>(aj sh m (ts.getD a .any)).bind fun v=>zk P m ts rs fun vs=>K (v::vs)
  | none=>none
def Eu:List AV->AV
 | [v]=>v
 | vs=>.tup vs
def jG (call:Nat->List AV->af->Option (AV×af)) (g:Nat) (vs:List AV):Option AV:=
 (call g vs []).bind fun r=>(bG r.2 j6 r.1).bind fun r'=>if mh vs || jd r'.1 then some r'.1 else none
def aE (P:Program) (rs:List ResultVar):Ex->St->Option (AV×af):=fun e st=>match e with
 | .normal=>zk P st.mem st.tmps rs fun vs=>some (Eu vs,st.mem)
 | .exit _=>none
 | .ret=>zk P st.mem st.tmps rs fun vs=>some (Eu vs,st.mem)
def aB (f:Func):Code:=f.body.getD .skip
def c1:Code->Code
 | .seq a _=>a
 | .cond _ a _=>a
 | .block _ b | .loop b | .scope b=>b
 | c=>c
def c2:Code->Code
 | .seq _ b=>b
 | .cond _ _ b=>b
 | c=>c
def Xf:List (Nat×Nat×Masks)->Nat->Option Nat->Masks
 | [],_,_=>⟨[],[],[]⟩
 | (f,k,m)::l,f',k'=>match f == f' && some k == k' with
  | true=>m
  | false=>Xf l f' k'
def XH:List (Nat×Nat×List Nat)->Nat->Nat->Option (List Nat)
 | [],_,_=>none
 | (f,k,m)::l,f',k'=>match f == f' && k == k' with
  | true=>some m
  | false=>XH l f' k'
abbrev au:AV:=.lst none true .full []
abbrev aG (l:List AV):List AV:=.any::l
abbrev aK (l:List AV):List AV:=.any::.any::l
abbrev aM (l:List AV):List AV:=.any::.any::.any::.any::l
abbrev aW (l:List AV):List AV:=.any::.any::.any::.any::.any::.any::.any::.any::l
abbrev bC (l:List AV):List AV:=aW (aW l)
abbrev bI (l:List AV):List AV:=bC (bC l)
abbrev bA (l:List AV):List AV:=bI (bI l)
abbrev OM:=Option (AV×af)
abbrev KT:=Ex->St->OM
end Go.Ab
namespace Go.Ab
open Go.RowKit
structure G where
 wr:Nat->Nat->Prop
 box:Nat->Prop
 loc:Nat->Option Nat
 tloc:Nat->Nat->Option Nat
abbrev cW (es:List AV):List AV:=es.flatMap AV.cells
def Bx (w:World) (g:G) (sh:Sh) (o:Own) (n:Nat) (a:Addr) (cap:Nat):Prop:=match o with
 | .no=>True
 | .full=>cap=n
 | .tok nm e=>g.tloc nm n=some a.block/\a.off=0/\∃ c:Array Value,w.heap[a.block]?=some (Obj.cells c e (0,0))/\c.size=cap * sh.size
inductive V (w:World) (g:G):AV->Value->Prop
 | any (x:Value):V w g .any x
 | int (k:IntKind) (n:Int):V w g (.int k n) (.int k n)
 | bool (b:Bool):V w g (.bool b) (.bool b)
 | str (s:ByteArray):V w g (.str s) (.string s)
 | nils (sh:Sh) (o:Own) (ho:o=.full\/o=.no):V w g (.lst sh true o []) (.slice none 0 0)
 | lst (sh:Sh) (o:Own) (es:List AV) (a:Addr) (cap:Nat) (us:Nat->Value) (hs:cap=0\/a.spot=none) (hc:es.length<=cap) (hm:cap<=maxLen)
   (hsh:∀ e∈es,c9 sh e=true/\pl e=true)
   (hcell:∀ j,j < (cW es).length->w.cell? ⟨a.block,a.off+j,none⟩=some (us j)/\¬ g.wr a.block (a.off+j)/\¬ g.box a.block)
   (hv:∀ j,j < (cW es).length->V w g ((cW es).getD j .any) (us j))
   (ho:Bx w g sh o es.length a cap):V w g (.lst sh false o es) (.slice (some a) es.length cap)
 | arr (nm off n:Nat) (sh:Sh) (a:Addr) (cap:Nat) (hs:cap=0\/a.spot=none) (hc:n<=cap) (hm:cap<=maxLen) (hl:n=0\/g.loc nm=some a.block/\a=⟨a.block,off,none⟩/\∃ (c:Array Value) (e:TypeId),w.heap[a.block]?=some (Obj.cells c e (0,0))/\off+cap * sh.size<=c.size):V w g (.arr nm off n sh) (.slice (some a) n cap)
 | ptr (nm off b:Nat) (hl:g.loc nm=some b):V w g (.ptr nm off) (.pointer (some ⟨b,off,none⟩))
 | vptr (cs:List AV) (b off:Nat) (us:Nat->Value)
   (hcell:∀ j,j < cs.length->w.cell? ⟨b,off+j,none⟩=some (us j)/\¬ g.wr b (off+j))
   (hv:∀ j,j < cs.length->V w g (cs.getD j .any) (us j)):V w g (.vptr cs) (.pointer (some ⟨b,off,none⟩))
 | nilp:V w g .nilp (.pointer none)
 | nilf:V w g .nilf .nilFunc
 | nile:V w g .nile .nilIface
 | nilm:V w g .nilm (.map none)
 | agg (cs:List AV) (vs:Array Value) (hl:cs.length=vs.size) (hv:∀ j,j < cs.length->V w g (cs.getD j .any) (vs.getD j undef)):V w g (.agg cs) (.agg vs)
 | tup (cs:List AV) (vs:Array Value) (hl:cs.length=vs.size) (hv:∀ j,j < cs.length->V w g (cs.getD j .any) (vs.getD j undef)):V w g (.tup cs) (.tuple vs)
 | fn (f:Nat) (cs:List AV) (vs:Array Value) (hl:cs.length=vs.size) (hv:∀ j,j < cs.length->V w g (cs.getD j .any) (vs.getD j undef)):V w g (.fn f cs) (.func (.func f) #[] vs)
 | mref (nm b:Nat) (hl:g.loc nm=some b):V w g (.mref nm) (.map (some b))
 | vec (n:Nat) (sh:Sh) (cs:List AV) (a:Addr) (cap:Nat) (us:Nat->Value) (hs:cap=0\/a.spot=none) (hc:n<=cap) (hm:cap<=maxLen) (hn:cs.length=n * sh.size) (iT:∀ c∈cs,di c=true)
   (hcell:∀ j,j < cs.length->w.cell? ⟨a.block,a.off+j,none⟩=some (us j)/\¬ g.wr a.block (a.off+j))
   (hv:∀ j,j < cs.length->V w g (cs.getD j .any) (us j)):V w g (.vec n sh cs) (.slice (some a) n cap)
structure Step (B:Nat) (w:World) (g:G) (w':World) (g':G):Prop where
 below:Below B w w'
 cell:∀ (b off:Nat) (u:Value),¬ g.wr b off->w.cell? ⟨b,off,none⟩=some u->w'.cell? ⟨b,off,none⟩=some u
 shape:∀ (b:Nat) (c:Array Value) (e:TypeId) (fr:Nat×Nat),w.heap[b]?=some (Obj.cells c e fr)->∃ c':Array Value,w'.heap[b]?=some (Obj.cells c' e fr)/\c'.size=c.size
 wr:∀ (b off:Nat),b < w.heap.size->¬ g.wr b off->¬ g'.wr b off
 wrB:∀ (b off:Nat),b < B->(g'.wr b off↔g.wr b off)
 box:∀ (b:Nat),b < w.heap.size->(g'.box b↔g.box b)
 loc:∀ nm b,g.loc nm=some b->g'.loc nm=some b
 tloc:∀ nm n b,g.tloc nm n=some b->g'.tloc nm n=some b
theorem Step.refl (B:Nat) (w:World) (g:G):Step B w g w g:=
 ⟨Below.refl _ _,fun _ _ _ _ h=>h,fun _ c _ _ h=>⟨c,h,rfl⟩,fun _ _ _ h=>h,fun _ _ _=>Iff.rfl,fun _ _=>Iff.rfl,fun _ _ h=>h,fun _ _ _ h=>h⟩
theorem tC {w:World} {b off:Nat} {u:Value} (h:w.cell? ⟨b,off,none⟩=some u):b < w.heap.size:=World.block_lt_of_cell? w ⟨b,off,none⟩ h
theorem Step.trans {B:Nat} {w w1 w2:World} {g g1 g2:G} (h:Step B w g w1 g1) (k:Step B w1 g1 w2 g2):Step B w g w2 g2 where
 below:=h.below.trans k.below
 cell b off u hm hc:=k.cell b off u (h.wr b off (tC hc) hm) (h.cell b off u hm hc)
 shape b c e fr hb:=by
  obtain ⟨c1,h1,e1⟩:=h.shape b c e fr hb;obtain ⟨c2,h2,e2⟩:=k.shape b c1 e fr h1;exact ⟨c2,h2,e2.trans e1⟩
 wr b off hb hm:=k.wr b off (qV hb h.below.size) (h.wr b off hb hm)
 wrB b off hb:=(k.wrB b off hb).trans (h.wrB b off hb)
 box b hb:=(k.box b (qV hb h.below.size)).trans (h.box b hb)
 loc nm b hl:=k.loc nm b (h.loc nm b hl)
 tloc nm n b hl:=k.tloc nm n b (h.tloc nm n b hl)
theorem Step.mono {B B':Nat} {w w':World} {g g':G} (h:Step B w g w' g') (hB:B'<=B):Step B' w g w' g':=
 ⟨h.below.mono hB,h.cell,h.shape,h.wr,fun b off hb=>h.wrB b off (by omega),h.box,h.loc,h.tloc⟩
theorem Bx.step {B:Nat} {w w':World} {g g':G} {sh:Sh} {o:Own} {n:Nat} {a:Addr} {cap:Nat} (h:Bx w g sh o n a cap) (s:Step B w g w' g'):Bx w' g' sh o n a cap:=by
 cases o with
 | no=>trivial
 | full=>exact h
 | tok nm e=>
  obtain ⟨h1,h2,c,hc,hs⟩:=h;obtain ⟨c',DC,gC⟩:=s.shape _ _ _ _ hc;exact ⟨s.tloc _ _ _ h1,h2,c',DC,gC.trans hs⟩
theorem V.step {B:Nat} {w w':World} {g g':G} {x:AV} {v:Value} (h:V w g x v) (s:Step B w g w' g'):V w' g' x v:=by
 induction h with
 | any x=>exact .any x
 | int k n=>exact .int k n
 | bool b=>exact .bool b
 | str x=>exact .str x
 | nils sh o ho=>exact .nils sh o ho
 | lst sh o es a cap us hs hc hm hsh hcell hv ho ih=>
  refine .lst sh o es a cap us hs hc hm hsh (fun j hj=>?_) ih (ho.step s);obtain ⟨h1,h2,h3⟩:=hcell j hj;exact ⟨s.cell _ _ _ h2 h1,s.wr _ _ (tC h1) h2,fun hb=>h3 ((s.box _ (tC h1)).1 hb)⟩
 | arr nm off n sh a cap hs hc hm hl=>exact .arr nm off n sh a cap hs hc hm (hl.imp id fun ⟨h1,h2,c,e,h3,h4⟩=>by
  obtain ⟨c',k1,k2⟩:=s.shape _ _ _ _ h3
  exact ⟨s.loc _ _ h1,h2,c',e,k1,by omega⟩)
 | ptr nm off b hl=>exact .ptr nm off b (s.loc _ _ hl)
 | vptr cs b off us hcell hv ih=>
  refine .vptr cs b off us (fun j hj=>?_) ih;obtain ⟨h1,h2⟩:=hcell j hj;exact ⟨s.cell _ _ _ h2 h1,s.wr _ _ (tC h1) h2⟩
 | nilp=>exact .nilp
 | nilf=>exact .nilf
 | nile=>exact .nile
 | nilm=>exact .nilm
 | agg cs vs hl hv ih=>exact .agg cs vs hl ih
 | tup cs vs hl hv ih=>exact .tup cs vs hl ih
 | fn f cs vs hl hv ih=>exact .fn f cs vs hl ih
 | mref nm b hl=>exact .mref nm b (s.loc _ _ hl)
 | vec n sh cs a cap us hs hc hm hn iT hcell hv ih=>
  refine .vec n sh cs a cap us hs hc hm hn iT (fun j hj=>?_) ih;obtain ⟨h1,h2⟩:=hcell j hj;exact ⟨s.cell _ _ _ h2 h1,s.wr _ _ (tC h1) h2⟩
def ba (g:G) (m:af) (nm:Nat):Option Nat:=match m.get nm with
 | some (.obj _ _)=>g.loc nm
 | some (.tok n _)=>g.tloc nm n
 | some .resv=>none
 | some (.mp _ _)=>g.loc nm
 | none=>none
def Kn:KK->Value->Prop
 | .str,v=>∃ s:ByteArray,v=.string s/\s.size<=maxLen
 | .int k,v=>∃ n:Int,v=.int k n/\EU k n=true
 | .arr n k,v=>∃ vs:Array Value,v=.agg vs/\vs.size=n/\∀ x∈vs.toList,∃ i:Int,x=.int k i/\EU k i=true
structure MapR (w:World) (g:G) (kk:KK) (es':Array MapEntry) (clock:Nat) (es:List (AV×AV)):Prop where
 size:es'.size<=es.length
 room:es.length<=maxLen
 stamped:MapKept.Stamped es' clock
 keys:∀ x∈es'.toList,Kn kk x.key
 ok:∀ p∈es,jU kk p.1=true
 to:∀ p∈es,∃ x∈es'.toList,flatV p.1=some x.key/\V w g p.2 x.val
 frm:∀ x∈es'.toList,∃ p∈es,flatV p.1=some x.key/\V w g p.2 x.val
theorem MapR.step {B:Nat} {w w':World} {g g':G} {kk:KK} {es':Array MapEntry} {clock:Nat} {es:List (AV×AV)} (M:MapR w g kk es' clock es) (s:Step B w g w' g'):MapR w' g' kk es' clock es where
 size:=M.size
 room:=M.room
 stamped:=M.stamped
 keys:=M.keys
 ok:=M.ok
 to p hp:=by obtain ⟨x,hx,h1,h2⟩:=M.to p hp;exact ⟨x,hx,h1,h2.step s⟩
 frm x hx:=by obtain ⟨p,hp,h1,h2⟩:=M.frm x hx;exact ⟨p,hp,h1,h2.step s⟩
class WInv where
 inv:World->Prop
structure MemR [WInv] (B:Nat) (w:World) (g:G) (m:af):Prop where
 obj:∀ nm bx cs,m.get nm=some (.obj bx cs)->∃ (b:Nat) (c:Array Value) (e:TypeId),g.loc nm=some b/\B<=b/\w.heap[b]?=some (Obj.cells c e (0,0))/\cs.length<=c.size /\
  (∀ j,j < cs.length->V w g (cs.getD j .any) (c.getD j undef))/\(∀ off,g.wr b off)/\(g.box b↔bx=true)
 tok:∀ nm n sz,m.get nm=some (.tok n sz)->∃ (b:Nat) (c:Array Value) (e:TypeId),g.tloc nm n=some b/\B<=b/\w.heap[b]?=some (Obj.cells c e (0,0))/\(∀ off,n * sz<=off->g.wr b off)/\(∀ n',n < n'->g.tloc nm n'=none)/\¬ g.box b
 resv:∀ nm,m.get nm=some .resv->g.loc nm=none/\∀ n,g.tloc nm n=none
 fresh:∀ nm,m.length<=nm->g.loc nm=none/\∀ n,g.tloc nm n=none
 inj:∀ nm nm' b,ba g m nm=some b->ba g m nm'=some b->nm=nm'
 wrLt:∀ b off,g.wr b off->b < w.heap.size
 inv:∀ w',Below B w w'->WInv.inv w'
 boxLt:∀ b,g.box b->b < w.heap.size
 mp:∀ nm kk es,m.get nm=some (.mp kk es)->∃ (b:Nat) (es':Array MapEntry) (clock:Nat),g.loc nm=some b/\B<=b/\w.heap[b]?=some (.map es' clock)/\MapR w g kk es' clock es
theorem MemR.invB [WInv] {B:Nat} {w w1:World} {g:G} {m:af} (h:MemR B w g m) (s:Below B w w1):∀ w',Below B w1 w'->WInv.inv w':=fun w' k=>h.inv w' (s.trans k)
theorem MemR.invS [WInv] {B:Nat} {w w1:World} {g g1:G} {m:af} (h:MemR B w g m) (s:Step B w g w1 g1):∀ w',Below B w1 w'->WInv.inv w':=h.invB s.below
def pV (w:World) (g:G) (ts:List AV) (vs:Array Value):Prop:=ts.length=vs.size/\∀ t,V w g (ts.getD t .any) (vs.getD t undef)
theorem pV.step {B:Nat} {w w':World} {g g':G} {ts:List AV} {vs:Array Value} (h:pV w g ts vs) (s:Step B w g w' g'):pV w' g' ts vs:=⟨h.1,fun t=>(h.2 t).step s⟩
end Go.Ab
namespace Go.Ab
open Go.RowKit
theorem Hf (w:World) (g:G) (v:Value):V w g (pA v) v:=by
 unfold pA
 split
 ·exact .int _ _
 ·exact .bool _
 ·exact .str _
 ·exact .nils _ _ (.inl rfl)
 ·exact .nilp
 ·exact .nilf
 ·exact .nile
 ·exact .nilm
 ·exact .any _
theorem Sy (w:World) (g:G) (v:Value):V w g (iq v) v:=by
 unfold iq
 split
 ·rename_i cs;refine .agg _ _ (by simp) fun j hj=>?_;have gJ:j < cs.size:=by simpa using hj
  have:(cs.toList.map pA).getD j .any=pA (cs.getD j undef):=by
   simp[aS,Array.getD,gJ]
  rw[this];exact Hf _ _ _
 ·exact Hf _ _ _
section
variable {P:Program} {w:World} {g:G}
theorem qoJ (op:BinOp) (k:IntKind) (a b:Int) {v:AV} (h:re op k a b=some v) (hs:op≠.shl/\op≠.shr) (t:Nat):∃ v',(binOp op t (.int k a) (.int k b)).run P w=.ok v' w/\V w g v v':=by
 cases op<;>simp[re] at h<;>first
  | (obtain ⟨hb,rfl⟩:=h;refine ⟨_,?_,.int _ _⟩;simp[binOp,Op.intArith,Op.intDiv,Op.intBits,Op.intCmp,hb];done)
  | (subst h;first | refine ⟨_,?_,.int _ _⟩ | refine ⟨_,?_,.bool _⟩)
 all_goals first
  | (simp[binOp,Op.intArith,Op.intDiv,Op.intBits,Op.intCmp];done)
  | exact absurd rfl hs.1 | exact absurd rfl hs.2 | skip
theorem BF (op:BinOp) (t:Nat) (x y:Operand) (a b:Value) (h:(match a,b with | .nilIface,.nilIface=>false | .agg _,.agg _=>false | _,_=>true)=true):(eqGuard op t x y a b).run P w=.ok () w:=by
 cases op<;>simp[eqGuard]<;>(split<;>simp_all)
theorem qoM (d t e:Nat) (p:Option Addr) (h:P.underlying t=some (.pointer e)):(Op.equalIn (d+1) t (.pointer p) (.pointer none)).run P w=.ok p.isNone w:=by
 cases p<;>simp[Op.equalIn,run_underlying h]
theorem O2 (t e:Nat) (p:Option Addr) (h:P.underlying t=some (.pointer e)):(Op.equal t (.pointer p) (.pointer none)).run P w=.ok p.isNone w:=qoM 9999 t e p h
theorem qoK (d t:Nat) {a b:Array Nat} {c:Bool} (h:P.underlying t=some (.func a b c)):(Op.equalIn (d+1) t .nilFunc .nilFunc).run P w=.ok true w:=by
 simp[Op.equalIn,run_underlying h]
theorem qoN (t:Nat) {a b:Array Nat} {c:Bool} (h:P.underlying t=some (.func a b c)):(Op.equal t .nilFunc .nilFunc).run P w=.ok true w:=qoK 9999 t h
theorem qoL (d t:Nat) {a b:Array Nat} {c:Bool} {f:Fn} {x:Array Value} {y:Array Value} (h:P.underlying t=some (.func a b c)):(Op.equalIn (d+1) t (.func f x y) .nilFunc).run P w=.ok false w:=by
 simp[Op.equalIn,run_underlying h]
theorem qoO (t:Nat) {a b:Array Nat} {c:Bool} {f:Fn} {x:Array Value} {y:Array Value} (h:P.underlying t=some (.func a b c)):(Op.equal t (.func f x y) .nilFunc).run P w=.ok false w:=qoL 9999 t h
theorem Dp {op:BinOp} {b:Bool} {v:AV} {t:Nat} {x y:Value} (h:HG op b=some v) (hr:(Op.equal t x y).run P w=.ok b w) (he:binOp .eql t x y=(do pure (.bool (<- Op.equal t x y)))) (hn:binOp .neq t x y=(do pure (.bool (!(<- Op.equal t x y))))):∃ v',(binOp op t x y).run P w=.ok v' w/\V w g v v':=by
 cases op<;>simp[HG] at h
 ·subst h;exact ⟨_,by rw[he];simp[hr],.bool _⟩
 ·subst h;exact ⟨_,by rw[hn];simp[hr],.bool _⟩
theorem qjV (op:BinOp) (t:Nat) (ox oy:Operand) {x y v:AV} {x' y':Value} (hx:V w g x x') (hy:V w g y y') (h:ag (BN P t) op x y=some v) :
  ∃ v',(do eqGuard op t ox oy x' y';binOp op t x' y':Sem Value).run P w=.ok v' w/\V w g v v':=by
 unfold ag at h
 split at h
 ·rename_i tk k a k' b;cases hx;cases hy;have hg:(eqGuard op t ox oy (.int k a) (.int k' b)).run P w=.ok () w:=BF _ _ _ _ _ _ rfl;simp only[Sem.run_bind,hg,Result.andThen_ok]
  split at h
  ·unfold s7 at h
   split at h
   ·cases h
   ·simp at h;subst h;refine ⟨_,?_,.int _ _⟩;simp[binOp,Op.shift, *]
  ·unfold s7 at h
   split at h
   ·cases h
   ·simp at h;subst h;refine ⟨_,?_,.int _ _⟩;simp[binOp,Op.shift, *]
  ·split at h
   ·rename_i hk;subst hk;exact qoJ op k a b h ⟨by assumption,by assumption⟩ t
   ·cases h
 ·rename_i tk a b;cases hx;cases hy;have hg:(eqGuard op t ox oy (.string a) (.string b)).run P w=.ok () w:=BF _ _ _ _ _ _ rfl;simp only[Sem.run_bind,hg,Result.andThen_ok]
  cases op<;>simp[Tp] at h
  ·obtain ⟨hsz,rfl⟩:=h;refine ⟨_,?_,.str _⟩
   have:¬ (IntKind.i64.max < ((a.size:Int)+(b.size:Int))):=by
    have:IntKind.i64.max=9223372036854775807:=rfl;omega
   simp[binOp,Op.stringOp,this];omega
  ·subst h;exact ⟨_,by simp[binOp,Op.stringOp],.bool _⟩
  ·subst h;exact ⟨_,by simp[binOp,Op.stringOp],.bool _⟩
 ·rename_i a b ka
  have ht:P.underlying t=some .bool:=by
   unfold BN at ka;split at ka<;>simp_all
  cases hx;cases hy;have hg:(eqGuard op t ox oy (.bool a) (.bool b)).run P w=.ok () w:=BF _ _ _ _ _ _ rfl;simp only[Sem.run_bind,hg,Result.andThen_ok]
  split at h
  ·simp at h;subst h;exact ⟨_,run_eql_bool w t a b ht,.bool _⟩
  ·simp at h;subst h;exact ⟨_,run_neq_bool w t a b ht,.bool _⟩
  ·cases h
 ·rename_i sh z o es sh' o' ka
  obtain ⟨e,ht⟩:∃ e,P.underlying t=some (.slice e):=by
   unfold BN at ka;split at ka<;>simp_all
  cases hy;have hg:∀ v,(eqGuard op t ox oy v (.slice none 0 0)).run P w=.ok () w:=fun v=>BF _ _ _ _ _ _ (by cases v<;>rfl);simp only[Sem.run_bind,hg,Result.andThen_ok]
  split at h
  ·simp at h;subst h
   cases hx
   ·exact ⟨_,by simp[binOp,run_equal_slice_nil w t e _ _ _ ht],.bool _⟩
   ·exact ⟨_,by simp[binOp,run_equal_slice_nil w t e _ _ _ ht],.bool _⟩
  ·simp at h;subst h
   cases hx
   ·exact ⟨_,by simp[binOp,run_equal_slice_nil w t e _ _ _ ht],.bool _⟩
   ·exact ⟨_,by simp[binOp,run_equal_slice_nil w t e _ _ _ ht],.bool _⟩
  ·cases h
 ·rename_i x ka
  obtain ⟨e,ht⟩:∃ e,P.underlying t=some (.pointer e):=by
   unfold BN at ka;split at ka<;>simp_all
  cases hy;have hg:∀ v,(eqGuard op t ox oy v (.pointer none)).run P w=.ok () w:=fun v=>BF _ _ _ _ _ _ (by cases v<;>rfl);simp only[Sem.run_bind,hg,Result.andThen_ok];obtain ⟨b,hb,h⟩:=bc.1 h;unfold Wc at hb
  split at hb
  ·simp at hb;subst hb;cases hx;exact Dp h (O2 t e _ ht) rfl rfl
  ·simp at hb;subst hb;cases hx;exact Dp h (O2 t e _ ht) rfl rfl
  ·simp at hb;subst hb;cases hx;exact Dp h (O2 t e _ ht) rfl rfl
  ·cases hb
 ·rename_i x ka
  obtain ⟨a1,a2,a3,ht⟩:∃ a b c,P.underlying t=some (.func a b c):=by
   unfold BN at ka;split at ka<;>simp_all
  cases hy;have hg:∀ v,(eqGuard op t ox oy v .nilFunc).run P w=.ok () w:=fun v=>BF _ _ _ _ _ _ (by cases v<;>rfl);simp only[Sem.run_bind,hg,Result.andThen_ok];obtain ⟨b,hb,h⟩:=bc.1 h;unfold Wb at hb
  split at hb
  ·simp at hb;subst hb;cases hx;exact Dp h (qoN t ht) rfl rfl
  ·simp at hb;subst hb;cases hx;exact Dp h (qoO t ht) rfl rfl
  ·cases hb
 ·cases h
theorem qpT (op:UnOp) {x v:AV} {x':Value} (hx:V w g x x') (h:jN op x=some v):∃ v',(Op.unary op x').run P w=.ok v' w/\V w g v v':=by
 unfold jN at h
 split at h
 ·simp at h;subst h;cases hx;exact ⟨_,rfl,.bool _⟩
 ·simp at h;subst h;cases hx;exact ⟨_,by simp[Op.unary,Op.intArith],.int _ _⟩
 ·cases h
theorem qof {c a b v:AV} {c' a' b':Value} (hc:V w g c c') (ha:V w g a a') (hb:V w g b b') (h:ON c a b=some v) :
  ∃ v',(do pure (if <- asBool c' then a' else b'):Sem Value).run P w=.ok v' w/\V w g v v':=by
 unfold ON at h
 split at h
 ·rename_i t;simp at h;subst h;cases hc
  cases t
  ·exact ⟨b',by simp[asBool],by simpa using hb⟩
  ·exact ⟨a',by simp[asBool],by simpa using ha⟩
 ·cases h
theorem qkJ {t v:AV} {t':Value} {i:Nat} (ht:V w g t t') (h:aY t i=some v):∃ v',(Instr.extract t' i).run P w=.ok v' w/\V w g v v':=by
 unfold aY at h
 split at h
 ·rename_i cs
  cases ht with
  | tup cs vs hl hv=>
   obtain ⟨hi,rfl⟩:=Ac.1 h;have fQ:i < vs.size:=by omega
   refine ⟨vs[i],by simp[Instr.extract,fQ],?_⟩;have:=hv i hi;simpa [aS,hi,Array.getD,fQ] using this
 ·cases h
theorem Xg {mx:Bool} {x y v:AV} {x' y':Value} (hx:V w g x x') (hy:V w g y y') (h:yX mx x y=some v) :
  ∃ v',((if mx then Builtin.max_ else Builtin.min_) #[] 0 #[x',y']).run P w=.ok v' w/\V w g v v':=by
 unfold yX at h
 split at h
 ·rename_i k a k' b
  split at h
  ·rename_i hk;subst hk;simp at h;subst h;cases hx;cases hy
   cases mx
   ·exact ⟨_,by simp[Builtin.min_,Builtin.min2],.int _ _⟩
   ·exact ⟨_,by simp[Builtin.max_,Builtin.max2],.int _ _⟩
  ·cases h
 ·cases h
theorem WB {st:Bool} {x v:AV} {x':Value} (hx:V w g x x') (h:aO st x=some v) (ts:Array TypeId) (t ty:Nat) (ht:ts[0]?=some t) (hd:if st then P.underlying t=some .string else ∃ e,P.underlying t=some (.slice e)) :
  ∃ v',(Builtin.len_ ts ty #[x']).run P w=.ok v' w/\V w g v v':=by
 unfold aO at h
 split at h
 ·simp at h;subst h;obtain ⟨e,hd⟩:∃ e,P.underlying t=some (.slice e):=by simpa using hd
  cases hx
  ·exact ⟨.int .i64 0,by simp[Builtin.len_,ht,run_underlying hd,goInt],.int _ _⟩
  ·exact ⟨.int .i64 _,by simp[Builtin.len_,ht,run_underlying hd,goInt],.int _ _⟩
 ·simp at h;subst h;obtain ⟨e,hd⟩:∃ e,P.underlying t=some (.slice e):=by simpa using hd
  cases hx;exact ⟨.int .i64 _,by simp[Builtin.len_,ht,run_underlying hd,goInt],.int _ _⟩
 ·simp at h;subst h;obtain ⟨e,hd⟩:∃ e,P.underlying t=some (.slice e):=by simpa using hd
  cases hx;exact ⟨.int .i64 _,by simp[Builtin.len_,ht,run_underlying hd,goInt],.int _ _⟩
 ·simp at h;subst h;have hd:P.underlying t=some .string:=by simpa using hd
  cases hx;exact ⟨.int .i64 _,by simp[Builtin.len_,ht,run_underlying hd,goInt],.int _ _⟩
 ·cases h
theorem qks {k:IntKind} {x v:AV} {x':Value} (hx:V w g x x') (h:bn k x=some v) (src dst:Nat) (hd:P.underlying dst=some (.int k)) (hs:(P.underlying src).isSome) :
  ∃ v',(convert src dst x').run P w=.ok v' w/\V w g v v':=by
 unfold bn at h
 split at h
 ·simp at h;subst h;cases hx;obtain ⟨d,hsd⟩:=Option.isSome_iff_exists.1 hs;exact ⟨_,by simp[convert,run_underlying hd,run_underlying hsd,Conv.intToInt],.int _ _⟩
 ·cases h
theorem BH {t:Nat} {sh:Sh} (h:jl P t=some sh):∃ i d,P.info? t=some i/\P.underlying t=some d/\i.size=sh.size /\
  ((sh=none/\∀ w:World,(isAgg t).run P w=.ok false w)\/(∃ n,sh=some n)/\∀ w:World,(isAgg t).run P w=.ok true w):=by
 unfold jl at h
 split at h
 ·rename_i fs i hu hi;simp at h;subst h;exact ⟨i,_,hi,hu,rfl,.inr ⟨⟨_,rfl⟩,fun w=>by simp[isAgg,run_underlying hu]⟩⟩
 ·rename_i n e i hu hi;simp at h;subst h;exact ⟨i,_,hi,hu,rfl,.inr ⟨⟨_,rfl⟩,fun w=>by simp[isAgg,run_underlying hu]⟩⟩
 ·rename_i d i h1 h2 hu hi
  split at h
  ·simp at h;subst h;refine ⟨i,d,hi,hu,by simpa [Sh.size] using ‹i.size=1›,.inl ⟨rfl,fun w=>?_⟩⟩;cases d<;>simp[isAgg,run_underlying hu]<;>simp_all
  ·cases h
 ·cases h
theorem ph {t:Nat} {i:TypeInfo} (hi:P.info? t=some i):(sizeOf t).run P w=.ok i.size w:=by simp[sizeOf,typeInfo,hi]
theorem Mj {t f off:Nat} {sh:Sh} (h:wq P t f=some (off,sh)):∃ fs fd,P.underlying t=some (.struct fs)/\fs[f]?=some fd/\jl P fd.type=some sh/\fd.offset=off/\sh.size≠0:=by
 unfold wq at h
 split at h
 ·rename_i fs hu
  split at h
  ·rename_i fd AW
   split at h
   ·rename_i sh' hsh
    split at h
    ·cases h
    ·rename_i hne;simp at h;obtain ⟨rfl,rfl⟩:=h;exact ⟨fs,fd,hu,AW,hsh,rfl,hne⟩
   ·cases h
  ·cases h
 ·cases h
theorem L6 {sh:Sh} {cs:List AV} {off:Nat} {v:AV} (f:Nat->Value) (hv:∀ j,j < cs.length->V w g (cs.getD j .any) (f j)) (h:ku sh cs off=some v) :
  (sh=none->off < cs.length/\V w g v (f off))/\(∀ n,sh=some n->off+n<=cs.length/\V w g v (.agg ((List.range n).map fun j=>f (off+j)).toArray)):=by
 unfold ku at h
 split at h
 ·refine ⟨fun _=>?_,fun n hn=>by cases hn⟩;obtain ⟨hi,rfl⟩:=Ac.1 h;exact ⟨hi,by simpa [aS,hi] using hv off hi⟩
 ·rename_i n;refine ⟨fun hn=>by (cases hn),fun n' hn=>?_⟩;simp only[bM] at hn;subst hn
  split at h
  ·rename_i hle;simp at h;subst h;refine ⟨hle,.agg _ _ (by simp;omega) fun j hj=>?_⟩;have gJ:j < n:=by simp at hj;omega
   have:=hv (off+j) (by omega);simpa [aS,gJ,Array.getD,qo,rU] using this
  ·cases h
theorem qn2 {sh:Sh} {t off:Nat} {cs:List AV} {vs:Array Value} {v:AV} (hsh:jl P t=some sh) (hl:cs.length=vs.size) (hv:∀ j,j < cs.length->V w g (cs.getD j .any) (vs.getD j undef)) (h:ku sh cs off=some v) :
  ∃ v',(part t vs off).run P w=.ok v' w/\V w g v v':=by
 obtain ⟨i,d,hi,hd,hs,MJ⟩:=BH hsh;obtain ⟨h1,h2⟩:=L6 _ hv h
 rcases MJ with ⟨rfl,ha⟩ | ⟨⟨n,rfl⟩,ha⟩
 ·obtain ⟨hlt,hV⟩:=h1 rfl;have Vw:off < vs.size:=by omega
  refine ⟨vs[off],by simp[part,ha,Vw],by simpa [Array.getD,Vw] using hV⟩
 ·obtain ⟨hlt,hV⟩:=h2 n rfl;refine ⟨_,?_,hV⟩;simp only[part,Sem.run_bind,ha,Result.andThen_ok,bw,ph hi,Sem.run_pure];congr 2;simp only[Sh.size] at hs
  apply Array.ext
  ·simp;omega
  ·intro j hj gJ;simp at hj gJ;simp[Array.getD,show off+j < vs.size by omega]
theorem qkM {sh:Sh} {off:Nat} {x v:AV} {x':Value} (hx:V w g x x') (h:Mi off sh x=some v) (t f:Nat) (hf:wq P t f=some (off,sh)) :
  ∃ v',(Instr.field t x' f).run P w=.ok v' w/\V w g v v':=by
 obtain ⟨fs,fd,hu,AW,hsh,rfl,_⟩:=Mj hf;unfold Mi at h
 split at h
 ·rename_i cs
  cases hx with
  | agg cs vs hl hv=>
   obtain ⟨v',hr,hV⟩:=qn2 hsh hl hv h;exact ⟨v',by simp[Instr.field,run_underlying hu,AW,asAgg,hr],hV⟩
 ·cases h
theorem mU (b off n:Nat):(⟨b,off,none⟩:Addr).add n=⟨b,off+n,none⟩:=by
 unfold Addr.add;split<;>simp_all
theorem qkL {sh:Sh} {off:Nat} {x v:AV} {x':Value} (hx:V w g x x') (h:aT off x=some v) (t f:Nat) (hf:wq P t f=some (off,sh)) :
  ∃ v',(Instr.fieldAt t x' f).run P w=.ok v' w/\V w g v v':=by
 obtain ⟨fs,fd,hu,AW,hsh,rfl,hne⟩:=Mj hf;obtain ⟨i,d,hi,hd,hs,_⟩:=BH hsh;have hz:i.size≠0:=by omega
 unfold aT at h
 split at h
 ·rename_i cs
  split at h
  ·rename_i hlt;simp at h;subst h
   cases hx with
   | vptr cs b o us hcell hv=>
    refine ⟨.pointer (some ⟨b,o+fd.offset,none⟩),by simp[Instr.fieldAt,run_underlying hu,AW,Instr.sureAddr,fieldPlace,ph hi,hz,mU],?_⟩
    refine .vptr _ _ _ (fun j=>us (fd.offset+j)) (fun j hj=>?_) (fun j hj=>?_)
    ·have:=hcell (fd.offset+j) (by simp at hj;omega);simpa [mw] using this
    ·have:=hv (fd.offset+j) (by simp at hj;omega);simpa [aS,rU] using this
  ·cases h
 ·rename_i nm o;simp at h;subst h
  cases hx with
  | ptr nm o b hl=>exact ⟨.pointer (some ⟨b,o+fd.offset,none⟩),by simp[Instr.fieldAt,run_underlying hu,AW,Instr.sureAddr,fieldPlace,ph hi,hz,mU],.ptr _ _ _ hl⟩
 ·cases h
theorem I8 {t b off:Nat} {sh:Sh} (hsh:jl P t=some sh) (f:Nat->Value) (hc:∀ j,j < sh.size->w.cell? ⟨b,off+j,none⟩=some (f j)) :
  (loadVar t ⟨b,off,none⟩).run P w=.ok (match sh with | none=>f 0 | some n=>.agg ((List.range n).map f).toArray) w:=by
 obtain ⟨i,d,hi,hd,hs,MJ⟩:=BH hsh
 rcases MJ with ⟨rfl,ha⟩ | ⟨⟨n,rfl⟩,ha⟩
 ·have:=hc 0 (by simp[Sh.size]);simp only[jF] at this;simp[loadVar,ha,this]
 ·have hl:=run_loadCells (P:=P) w ⟨b,off,none⟩ n f (fun j hj=>by rw[mU];exact hc j hj);simp only[Sh.size] at hs;simp only[loadVar,Sem.run_bind,ha,Result.andThen_ok,bw,ph hi,hs,hl,Sem.run_pure]
theorem WS [WInv] {B:Nat} {m:af} (hm:MemR B w g m) {sh:Sh} {x v:AV} {x':Value} (hx:V w g x x') (h:aj sh m x=some v) (t:Nat) (hsh:jl P t=some sh) :
  ∃ v',(Instr.loadAt t x').run P w=.ok v' w/\V w g v v':=by
 unfold aj at h
 split at h
 ·rename_i cs
  cases hx with
  | vptr cs b o us hcell hv=>
   obtain ⟨h1,h2⟩:=L6 us hv h
   cases sh with
   | none=>
    obtain ⟨hlt,hV⟩:=h1 rfl;exact ⟨_,by simp only[Instr.loadAt,Instr.sureAddr,Sem.run_bind,Sem.run_pure,Result.andThen_ok];exact I8 hsh us (fun j hj=>(hcell j (by simp only[Sh.size] at hj;omega)).1),hV⟩
   | some n=>
    obtain ⟨hlt,hV⟩:=h2 n rfl;exact ⟨_,by simp only[Instr.loadAt,Instr.sureAddr,Sem.run_bind,Sem.run_pure,Result.andThen_ok];exact I8 hsh us (fun j hj=>(hcell j (by simp only[Sh.size] at hj;omega)).1),by simpa using hV⟩
 ·rename_i nm o;obtain ⟨⟨bx,cs⟩,gV,h⟩:=bc.1 h
  cases hx with
  | ptr nm o b hl=>
   have aU:m.get nm=some (.obj bx cs):=by
    unfold af.obj? at gV
    split at gV
    ·rename_i hh;simp at gV;rw[hh,gV.1,gV.2]
    ·cases gV
   obtain ⟨b',c,e,wG,hB,sD,hsz,hV,_⟩:=hm.obj nm bx cs aU;obtain rfl:b=b':=by simpa [hl] using wG
   have hcell:∀ j,j < cs.length->w.cell? ⟨b,j,none⟩=some (c.getD j undef):=fun j hj=>by
    rw[cell_of_row w b j c e (0,0) sD];simp[Array.getD,show j < c.size by omega]
   obtain ⟨h1,h2⟩:=L6 _ hV h
   cases sh with
   | none=>
    obtain ⟨hlt,hV⟩:=h1 rfl;exact ⟨_,by simp only[Instr.loadAt,Instr.sureAddr,Sem.run_bind,Sem.run_pure,Result.andThen_ok];exact I8 hsh (fun j=>c.getD (o+j) undef) (fun j hj=>hcell _ (by simp only[Sh.size] at hj;omega)),hV⟩
   | some n=>
    obtain ⟨hlt,hV⟩:=h2 n rfl;exact ⟨_,by simp only[Instr.loadAt,Instr.sureAddr,Sem.run_bind,Sem.run_pure,Result.andThen_ok];exact I8 hsh (fun j=>c.getD (o+j) undef) (fun j hj=>hcell _ (by simp only[Sh.size] at hj;omega)),hV⟩
 ·cases h
theorem s6 {sh:Sh} {e:AV} (h:c9 sh e=true):e.cells.length=sh.size:=by
 cases sh with
 | none=>cases e<;>simp_all [c9,di,AV.cells,Sh.size]
 | some n=>cases e<;>simp_all [c9,AV.cells,Sh.size]
theorem C0 {x:AV} {v:Value} (h:V w g x v) (ha:di x=true):v.oneCell'=true/\v.cells = #[v]:=by
 cases h<;>first | (simp[di] at ha;done) | exact ⟨rfl,rfl⟩
theorem Hg {sh:Sh} {x:AV} {v:Value} (h:V w g x v) (hs:c9 sh x=true):v.cells.size=sh.size/\(∀ j,j < sh.size->V w g (x.cells.getD j .any) (v.cells.getD j undef))/\∀ u∈v.cells.toList,u.oneCell'=true:=by
 cases sh with
 | none=>
  have ha:di x=true:=hs;obtain ⟨h1,h2⟩:=C0 h ha
  have hx:x.cells=[x]:=by cases x<;>first | rfl | (simp[di] at ha)
  rw[h2,hx]
  refine ⟨rfl,fun j hj=>?_,fun u hu=>?_⟩
  ·obtain rfl:j=0:=by simp only[Sh.size] at hj;omega
   simpa using h
  ·simp at hu;rw[hu];exact h1
 | some n=>
  cases h<;>first | (simp[c9] at hs;done) | skip
  rename_i cs vs hl hv;simp[c9] at hs;obtain ⟨hn,hall⟩:=hs;refine ⟨by simp[Value.cells,Sh.size];omega,fun j hj=>hv j (by simp only[Sh.size] at hj;omega),fun u hu=>?_⟩;obtain ⟨j,hj,rfl⟩:=CD.1 hu;have gJ:j < cs.length:=by simp[Value.cells] at hj;omega
  have:=hv j gJ;simp[Value.cells] at hj;have hc:=hall cs[j] (bS gJ);have:=C0 this (by simpa [aS,gJ] using hc);simpa [Value.cells,Array.getD,hj] using this.1
theorem sk {sh:Sh}:∀ {es:List AV},(∀ e∈es,c9 sh e=true)->(cW es).length=es.length * sh.size
 | [],_=>by simp
 | e::es,h=>by
  have h1:=s6 (h e (by simp));have h2:=sk (es:=es) fun x hx=>h x (by simp[hx]);simp only[pT,aI,h1,aJ,qq];rw[h2];omega
theorem Un {sh:Sh}:∀ {es:List AV},(∀ e∈es,c9 sh e=true)->∀ (i j:Nat) (hi:i < es.length),j < sh.size->(cW es).getD (i * sh.size+j) .any=(es[i].cells).getD j .any
 | [],_,_,_,hi,_=>by simp at hi
 | e::es,h,i,j,hi,hj=>by
  have h1:=s6 (h e (by simp))
  cases i with
  | zero=>simp[aS,qn,h1,hj]
  | succ i=>
   have ih:=Un (es:=es) (fun x hx=>h x (by simp[hx])) i j (by simpa using hi) hj;have:(i+1) * sh.size+j=e.cells.length+(i * sh.size+j):=by rw[h1,qq];omega
   rw[this];simp only[pT,List.getElem_cons_succ];rw[<- ih];simp only[aS,qn];rw[ai (by omega)];simp
theorem tE {e:Nat} {sh:Sh} (h:nE P e sh=true):∃ i z,P.info? e=some i/\i.size=sh.size/\0 < i.size/\i.zero=some z/\z.cells.size=i.size/\(sh=none->∀ cs,z≠.agg cs):=by
 unfold nE at h
 split at h
 ·rename_i i hi;simp at h;obtain ⟨⟨h1,h2⟩,h3⟩:=h
  split at h3
  ·rename_i z hz;simp at h3;refine ⟨i,z,hi,h1,h2,hz,h3.1,?_⟩;rintro rfl cs rfl;simp at h3
  ·simp at h3
 ·cases h
theorem Xm {i n s j:Nat} (hi:i < n) (hj:j < s):i * s+j < n * s:=by
 have:(i+1) * s<=n * s:=iM _ hi;rw[qq] at this;omega
theorem qmG {e:Nat} {sh:Sh} {x i v:AV} {x' i':Value} (hx:V w g x x') (hi:V w g i i') (h:aH sh x i=some v) (t:Nat) (ht:P.underlying t=some (.slice e)) (he:nE P e sh=true) :
  ∃ v',(Instr.indexAt t x' i').run P w=.ok v' w/\V w g v v':=by
 obtain ⟨inf,z,sF,hs,iO,_,_,_⟩:=tE he;unfold aH at h
 split at h
 ·rename_i k i;cases hi
  split at h
  ·rename_i sh' z o es
   split at h
   ·rename_i hsh;subst hsh
    split at h
    ·rename_i h0;obtain ⟨el,lO,rfl⟩:=gP.1 h;obtain ⟨hlt,lO⟩:=Ac.1 lO
     cases hx with
     | nils=>simp at hlt
     | lst _ o es a cap us hsp hc hm hsh hcell hv ho=>
      have hall:∀ e∈es,c9 sh' e=true:=fun e he=>(hsh e he).1;have b6:i < (es.length:Int):=by omega
      have hfl:=sk hall;have hsp:a.spot=none:=hsp.resolve_left (by omega);have ha:a=⟨a.block,a.off,none⟩:=by cases a;simp_all
      refine ⟨.pointer (some ⟨a.block,a.off+i.toNat * sh'.size,none⟩),?_,?_⟩
      ·rw[ha];simp[Instr.indexAt,asIntOf,run_underlying ht,h0,b6,ph sF,mU,hs]
      ·have hcl:el.cells.length=sh'.size:=s6 (hall el (lO▸bS hlt))
       refine .vptr _ _ _ (fun j=>us (i.toNat * sh'.size+j)) (fun j hj=>?_) (fun j hj=>?_)
       ·have:=hcell (i.toNat * sh'.size+j) (by rw[hfl];exact Xm hlt (by omega));rw[mw];exact ⟨this.1,this.2.1⟩
       ·have h1:=hv (i.toNat * sh'.size+j) (by rw[hfl];exact Xm hlt (by omega));rw[Un hall i.toNat j hlt (by omega),lO] at h1;exact h1
    ·cases h
   ·cases h
  ·rename_i nm off n sh'
   split at h
   ·rename_i hsh;subst hsh
    split at h
    ·rename_i hb;simp at h;subst h
     cases hx with
     | arr _ _ _ _ a cap hsp hc hm hl=>
      obtain ⟨hl,ha,_⟩:=hl.resolve_left (by omega);refine ⟨.pointer (some ⟨a.block,off+i.toNat * sh'.size,none⟩),?_,.ptr _ _ _ hl⟩;rw[ha];simp[Instr.indexAt,asIntOf,run_underlying ht,hb.1,hb.2,ph sF,mU,hs]
    ·cases h
   ·cases h
  ·rename_i n sh' cs
   split at h
   ·rename_i hsh;subst hsh
    split at h
    ·rename_i hb;simp only[bM] at h;subst h
     cases hx with
     | vec _ _ _ a cap us hsp hc hm hn iT hcell hv=>
      have ha:a=⟨a.block,a.off,none⟩:=by
       have:=hsp.resolve_left (by omega);cases a;simp_all
      have hle:i.toNat * sh'.size+sh'.size<=cs.length:=by
       rw[hn,<- qq];exact iM _ (by omega)
      have hlen:((cs.drop (i.toNat * sh'.size)).take sh'.size).length=sh'.size:=by simp;omega
      refine ⟨.pointer (some ⟨a.block,a.off+i.toNat * sh'.size,none⟩),?_,.vptr _ _ _ (fun j=>us (i.toNat * sh'.size+j)) (fun j hj=>?_) (fun j hj=>?_)⟩
      ·rw[ha];simp[Instr.indexAt,asIntOf,run_underlying ht,hb.1,hb.2,ph sF,mU,hs]
      ·rw[hlen] at hj;have:=hcell (i.toNat * sh'.size+j) (by omega);rw[<- mw] at this;exact this
      ·rw[hlen] at hj;have:=hv (i.toNat * sh'.size+j) (by omega)
       have e1:((cs.drop (i.toNat * sh'.size)).take sh'.size).getD j .any=cs.getD (i.toNat * sh'.size+j) .any:=by
        simp[aS,qo,rU,hj]
       rw[e1];exact this
    ·cases h
   ·cases h
  ·cases h
 ·cases h
theorem qhS {e n:Nat} {sh:Sh} {x i v:AV} {x' i':Value} (hx:V w g x x') (hi:V w g i i') (h:LL n sh x i=some v) (t:Nat) (ht:P.underlying t=some (.array n e)) (he:nE P e sh=true) :
  ∃ v',(Instr.indexAt t x' i').run P w=.ok v' w/\V w g v v':=by
 obtain ⟨inf,z,sF,hs,iO,_,_,_⟩:=tE he;unfold LL at h
 split at h
 ·rename_i k i;cases hi
  split at h
  ·rename_i hb;unfold aT at h
   split at h
   ·rename_i cs
    split at h
    ·rename_i hlt;simp at h;subst h
     cases hx with
     | vptr cs b o us hcell hv=>
      refine ⟨.pointer (some ⟨b,o+i.toNat * sh.size,none⟩),by simp[Instr.indexAt,asIntOf,run_underlying ht,Instr.sureAddr,hb.1,hb.2,ph sF,mU,hs],?_⟩
      refine .vptr _ _ _ (fun j=>us (i.toNat * sh.size+j)) (fun j hj=>?_) (fun j hj=>?_)
      ·have:=hcell (i.toNat * sh.size+j) (by simp at hj;omega);simpa [mw] using this
      ·have:=hv (i.toNat * sh.size+j) (by simp at hj;omega);simpa [aS,rU] using this
    ·cases h
   ·rename_i nm o;simp at h;subst h
    cases hx with
    | ptr nm o b hl=>exact ⟨.pointer (some ⟨b,o+i.toNat * sh.size,none⟩),by simp[Instr.indexAt,asIntOf,run_underlying ht,Instr.sureAddr,hb.1,hb.2,ph sF,mU,hs],.ptr _ _ _ hl⟩
   ·cases h
  ·cases h
 ·cases h
theorem qmH {x i v:AV} {x' i':Value} (hx:V w g x x') (hi:V w g i i') (h:sR x i=some v) (t:Nat) (ht:P.underlying t=some .string) :
  ∃ v',(Instr.index t x' i').run P w=.ok v' w/\V w g v v':=by
 unfold sR at h
 split at h
 ·rename_i s k i;cases hx;cases hi
  split at h
  ·rename_i h0;obtain ⟨b,hb,rfl⟩:=gP.1 h;exact ⟨_,by simp[Instr.index,asIntOf,run_underlying ht,h0,hb],.int _ _⟩
  ·cases h
 ·cases h
def qZ (w:World) (g:G):Option AV->Option Value->Prop
 | none,none=>True
 | some x,some x'=>V w g x x'
 | _,_=>False
theorem Da {y Y d r:Nat} {x:AV} {x':Value} (hx:V w g x x') (hY:y<=Y) (h:jy y (some x) d=some r) (code:BoundsCode) :
  (Instr.sliceBound x' Y code).run P w=.ok r w/\r<=y:=by
 unfold jy at h
 split at h
 ·rename_i heq;cases heq
 ·rename_i k i heq;simp at heq;subst heq;cases hx
  split at h
  ·rename_i hb;simp at h;subst h;have h2:i<=(Y:Int):=by omega
   exact ⟨by simp[Instr.sliceBound,asIntOf,hb.1,h2],by omega⟩
  ·cases h
 ·cases h
theorem Hm {isS:Bool} {len cap h l:Nat} {lo hi:Option AV} {lo' fQ:Option Value} (gY:qZ w g lo lo') (pI:qZ w g hi fQ) (hc:len<=cap)
  (h1:jy len hi len=some h) (h2:jy h lo 0=some l):(Instr.sliceBounds isS len cap lo' fQ none).run P w=.ok (l,h,cap) w/\l<=h/\h<=len:=by
 have e1:(match fQ with | some v=>Instr.sliceBound v cap (if isS then .sliceAcap else .sliceAlen) | none=>pure len:Sem Nat).run P w=.ok h w/\h<=len:=by
  cases hi with
  | none=>
   cases fQ with
   | none=>simp[jy] at h1;subst h1;exact ⟨rfl,aQ _⟩
   | some _=>exact pI.elim
  | some x=>
   cases fQ with
   | none=>exact pI.elim
   | some x'=>exact Da pI hc h1 _
 have e2:(match lo' with | some v=>Instr.sliceBound v h .sliceB | none=>pure 0:Sem Nat).run P w=.ok l w/\l<=h:=by
  cases lo with
  | none=>
   cases lo' with
   | none=>simp[jy] at h2;subst h2;exact ⟨rfl,kW _⟩
   | some _=>exact gY.elim
  | some x=>
   cases lo' with
   | none=>exact gY.elim
   | some x'=>exact Da gY (aQ _) h2 _
 refine ⟨?_,e2.2,e1.2⟩;have a1:=e1.1;have a2:=e2.1;cases fQ<;>cases lo'<;>simp_all [Instr.sliceBounds]
theorem Tr {len cap mx h l:Nat} {lo hi:Option AV} {mv:AV} {lo' fQ:Option Value} {mv':Value} (gY:qZ w g lo lo') (pI:qZ w g hi fQ) (hmv:V w g mv mv') (hc:len<=cap)
  (h0:jy len (some mv) 0=some mx) (h1:jy mx hi 0=some h) (h2:jy h lo 0=some l) (qmp:hi.isSome):(Instr.sliceBounds true len cap lo' fQ (some mv')).run P w=.ok (l,h,mx) w/\l<=h/\h<=mx/\mx<=len:=by
 obtain ⟨e0,e0'⟩:=Da (P:=P) hmv hc h0 .slice3Acap
 cases hi with
 | none=>simp at qmp
 | some x=>
  cases fQ with
  | none=>exact pI.elim
  | some x'=>
   obtain ⟨e1,e1'⟩:=Da (P:=P) pI (aQ _) h1 .slice3B
   cases lo with
   | none=>
    cases lo' with
    | none=>
     simp[jy] at h2;subst h2;exact ⟨by simp[Instr.sliceBounds,e0,e1],kW _,e1',e0'⟩
    | some _=>exact gY.elim
   | some y=>
    cases lo' with
    | none=>exact gY.elim
    | some y'=>
     obtain ⟨e2,e2'⟩:=Da (P:=P) gY (aQ _) h2 .slice3C;exact ⟨by simp[Instr.sliceBounds,e0,e1,e2],e2',e1',e0'⟩
theorem Mo {sh:Sh}:∀ {es:List AV},(∀ e∈es,c9 sh e=true)->∀ l,cW (es.drop l)=(cW es).drop (l * sh.size)
 | [],_,l=>by simp
 | e::es,h,0=>by simp
 | e::es,h,l+1=>by
  have h1:=s6 (h e (by simp));have ih:=Mo (es:=es) (fun x hx=>h x (by simp[hx])) l;have e1:List.drop ((l+1) * sh.size) e.cells=[]:=jo (by rw[h1,qq];omega);have e2:(l+1) * sh.size - e.cells.length=l * sh.size:=by rw[h1,qq];omega
  show cW (es.drop l)=(e.cells++cW es).drop ((l+1) * sh.size);rw[ih,List.drop_append,e1,e2];simp
theorem Mp {sh:Sh}:∀ {es:List AV},(∀ e∈es,c9 sh e=true)->∀ l,cW (es.take l)=(cW es).take (l * sh.size)
 | [],_,l=>by simp
 | e::es,h,0=>by simp
 | e::es,h,l+1=>by
  have h1:=s6 (h e (by simp));have ih:=Mp (es:=es) (fun x hx=>h x (by simp[hx])) l;have e1:List.take ((l+1) * sh.size) e.cells=e.cells:=jQ (by rw[h1,qq];omega);have e2:(l+1) * sh.size - e.cells.length=l * sh.size:=by rw[h1,qq];omega
  show e.cells++cW (es.take l)=(e.cells++cW es).take ((l+1) * sh.size);rw[ih,List.take_append,e1,e2]
theorem qgS {sh:Sh} {o o':Own} {es:List AV} {a:Addr} {cap l h m:Nat} (hx:V w g (.lst sh false o es) (.slice (some a) es.length cap)) (hl:l<=h) (hh:h<=es.length) (Vl:h<=m) (hm:m<=cap)
  (ho:o'=.no\/o'=.full/\h=m):V w g (.lst sh false o' ((es.take h).drop l)) (.slice (some (if m=l then a else a.add (l * sh.size))) (h - l) (m - l)):=by
 generalize hn:es.length=n at hx
 cases hx with
 | lst _ o es a cap us hsp hc hm' hsh hcell hv DR=>
  have hall:∀ e∈es,c9 sh e=true:=fun e he=>(hsh e he).1;have hlen:((es.take h).drop l).length=h - l:=by simp;omega
  have ha:¬ m=l->a=⟨a.block,a.off,none⟩:=fun iN=>by
   have:=hsp.resolve_left (by omega);cases a;simp_all
  have fW:∀ e∈(es.take h).drop l,e∈es:=fun e he=>GD (List.mem_of_mem_drop he);rw[<- hlen];have Vy:m - l<=maxLen:=by omega
  by_cases iN:m=l
  ·have h0:h=l:=by omega
   have ve:(es.take h).drop l=[]:=oN (by omega);rw[an iN,ve];refine .lst sh o' [] a _ us (.inl (by omega)) (kW _) Vy (by simp) (by simp) (by simp) ?_
   rcases ho with rfl | ⟨rfl,_⟩
   ·trivial
   ·show m - l=0;omega
  ·rw[ai iN];have ha:=ha iN
   refine .lst sh o' _ _ _ (fun j=>us (l * sh.size+j)) (.inr (by rw[ha,mU])) (by omega) Vy (fun e he=>hsh e (fW e he)) (fun j hj=>?_) (fun j hj=>?_) ?_
   ·rw[Mo (fun e he=>hall e (GD he)),Mp hall] at hj
    have gJ:l * sh.size+j < (cW es).length:=by
     simp only[qT,jP] at hj;omega
    have:=hcell _ gJ;rw[ha,mU];simpa [mw] using this
   ·rw[Mo (fun e he=>hall e (GD he)),Mp hall] at hj ⊢
    have tL:l * sh.size+j < h * sh.size:=by
     simp only[qT,jP] at hj;omega
    have gJ:l * sh.size+j < (cW es).length:=by
     simp only[qT,jP] at hj;omega
    have:=hv _ gJ;simpa [aS,rU,qo,tL] using this
   ·rcases ho with rfl | ⟨rfl,fU⟩
    ·trivial
    ·show m - l=_;rw[hlen,fU]
theorem qo5 {e:Nat} {sh sh':Sh} {z:Bool} {o:Own} {es:List AV} {v:AV} {x':Value} {lo hi mx:Option AV} {lo' fQ mx':Option Value} (hx:V w g (.lst sh' z o es) x') (gY:qZ w g lo lo') (pI:qZ w g hi fQ) (hmx:qZ w g mx mx')
  (h:qK (.lst sh' z o es) lo hi mx=some v) (t:Nat) (ht:P.underlying t=some (.slice e)) (hsh:jl P e=some sh) (he:nE P e sh=true) (hs:sh'=sh\/es=[]) :
  ∃ v',(Instr.sliceAt t x' lo' fQ mx').run P w=.ok v' w/\V w g v v':=by
 obtain ⟨inf,z0,sF,lA,iO,_,_,_⟩:=tE he
 have key:∀ (l hh m:Nat) (o':Own),(∀ len cap a,x'=.slice a len cap->(Instr.sliceBounds true len cap lo' fQ mx').run P w=.ok (l,hh,m) w/\m<=cap)->l<=hh->hh<=es.length->hh<=m->(o'=.no\/o'=.full/\hh=m) ->
   ∃ v',(Instr.sliceAt t x' lo' fQ mx').run P w=.ok v' w/\V w g (.lst sh' z o' ((es.take hh).drop l)) v':=by
  intro l hh m o' hb hl MW Vl ho
  cases hx with
  | nils _ o VD=>
   obtain ⟨hb1,hb2⟩:=hb 0 0 none rfl;have h1:hh=0:=by simpa using MW
   have h2:l=0:=by omega
   have h3:m=0:=by omega
   subst h1;subst h2;subst h3
   refine ⟨.slice none 0 0,?_,?_⟩
   ·simp[Instr.sliceAt,run_underlying ht,Instr.slice,hb1,ph sF]
   ·simp only[List.take_nil,List.drop_nil]
    exact .nils _ _ (by rcases ho with rfl | ⟨rfl,_⟩<;>simp)
  | lst _ o es a cap us hsp hc hm' NC hcell hv DR=>
   obtain ⟨hb1,hb2⟩:=hb es.length cap (some a) rfl
   refine ⟨.slice (some (if m=l then a else a.add (l * sh'.size))) (hh - l) (m - l),?_,qgS (.lst sh' o es a cap us hsp hc hm' NC hcell hv DR) hl MW Vl hb2 ho⟩
   simp only[Instr.sliceAt,Sem.run_bind,run_underlying ht,Result.andThen_ok,Instr.slice,hb1,ph sF,Sem.run_pure]
   rcases hs with rfl | rfl
   ·by_cases iN:m=l<;>simp[iN,lA]
   ·have h1:hh=0:=by simpa using MW
    have h2:l=0:=by omega
    subst h2;by_cases iN:m=0<;>simp[iN]
 unfold qK at h;simp only at h
 cases mx with
 | none=>
  cases mx' with
  | some _=>exact hmx.elim
  | none=>
   simp only at h;obtain ⟨hh,h1,h⟩:=bc.1 h;obtain ⟨l,h2,h⟩:=bc.1 h;simp at h;subst h
   have hcap:∀ len cap a,x'=.slice a len cap->len=es.length/\len<=cap:=by
    rintro len cap a rfl;cases hx<;>simp_all
   cases hx with
   | nils _ o VD=>
    obtain ⟨b1,b2,b3⟩:=Hm (P:=P) (isS:=true) gY pI (aQ 0) h1 h2;exact key l hh 0 .no (by rintro len cap a h;cases h;exact ⟨b1,aQ _⟩) b2 b3 b3 (.inl rfl)
   | lst _ o es a cap us hsp hc hm' NC hcell hv DR=>
    obtain ⟨b1,b2,b3⟩:=Hm (P:=P) (isS:=true) gY pI hc h1 h2;exact key l hh cap .no (by rintro len cap a h;cases h;exact ⟨b1,aQ _⟩) b2 b3 (by omega) (.inl rfl)
 | some mv=>
  cases mx' with
  | none=>exact hmx.elim
  | some mv'=>
   cases hi with
   | none=>simp at h
   | some sN=>
    simp only at h;obtain ⟨m,h0,h⟩:=bc.1 h;obtain ⟨hh,h1,h⟩:=bc.1 h;obtain ⟨l,h2,h⟩:=bc.1 h
    cases hx with
    | nils _ o VD=>
     obtain ⟨b1,b2,b3,b4⟩:=Tr (P:=P) gY pI hmx (aQ 0) h0 h1 h2 rfl
     split at h
     ·rename_i hm;simp at h;subst h;have:=key l hh m .full (by rintro len cap a h;cases h;exact ⟨b1,b4⟩) b2 (by simp at b4 ⊢;omega) b3 (.inr ⟨rfl,hm⟩);simpa using this
     ·simp at h;subst h;have:=key l hh m .no (by rintro len cap a h;cases h;exact ⟨b1,b4⟩) b2 (by simp at b4 ⊢;omega) b3 (.inl rfl);simpa using this
    | lst _ o es a cap us hsp hc hm' NC hcell hv DR=>
     obtain ⟨b1,b2,b3,b4⟩:=Tr (P:=P) gY pI hmx hc h0 h1 h2 rfl
     split at h
     ·rename_i hm;simp at h;subst h;exact key l hh m .full (by rintro len cap a h;cases h;exact ⟨b1,by omega⟩) b2 (by omega) b3 (.inr ⟨rfl,hm⟩)
     ·simp at h;subst h;exact key l hh m .no (by rintro len cap a h;cases h;exact ⟨b1,by omega⟩) b2 (by omega) b3 (.inl rfl)
theorem qo4 {e:Nat} {nm off n:Nat} {sh:Sh} {v:AV} {x':Value} {lo hi:Option AV} {lo' fQ:Option Value} (hx:V w g (.arr nm off n sh) x') (gY:qZ w g lo lo') (pI:qZ w g hi fQ)
  (h:qK (.arr nm off n sh) lo hi none=some v) (t:Nat) (ht:P.underlying t=some (.slice e)) (he:nE P e sh=true) :
  ∃ v',(Instr.sliceAt t x' lo' fQ none).run P w=.ok v' w/\V w g v v':=by
 obtain ⟨inf,z0,sF,lA,iO,_,_,_⟩:=tE he;unfold qK at h;simp only at h;obtain ⟨hh,h1,h⟩:=bc.1 h;obtain ⟨l,h2,h⟩:=bc.1 h;simp at h;subst h
 cases hx with
 | arr _ _ _ _ a cap hsp hc hm hl=>
  obtain ⟨b1,b2,b3⟩:=Hm (P:=P) (isS:=true) gY pI hc h1 h2
  refine ⟨.slice (some (if cap=l then a else a.add (l * sh.size))) (hh - l) (cap - l),?_,.arr _ _ _ _ _ _ (by
    by_cases iN:cap=l
    ·exact .inl (by omega)
    ·right;have hsp:=hsp.resolve_left (by omega);have ha:a=⟨a.block,a.off,none⟩:=by cases a;simp_all
     rw[ai iN,ha,mU]) (by omega) (by omega) ?_⟩
  ·simp only[Instr.sliceAt,Sem.run_bind,run_underlying ht,Result.andThen_ok,Instr.slice,b1,ph sF,Sem.run_pure];by_cases iN:cap=l<;>simp[iN,lA]
  ·by_cases h0:hh - l=0
   ·exact .inl h0
   ·refine .inr ?_;obtain ⟨nc,ha,c,e,p5,hc2⟩:=hl.resolve_left (by omega);rw[ai (by omega),ha,mU];refine ⟨nc,rfl,c,e,p5,?_⟩;have e1:l * sh.size+(cap - l) * sh.size=cap * sh.size:=by rw[<- gO];congr 1;omega
    omega
theorem qo6 {s:ByteArray} {v:AV} {x':Value} {lo hi:Option AV} {lo' fQ:Option Value} (hx:V w g (.str s) x') (gY:qZ w g lo lo') (pI:qZ w g hi fQ)
  (h:qK (.str s) lo hi none=some v) (t:Nat) (ht:P.underlying t=some .string) :
  ∃ v',(Instr.sliceAt t x' lo' fQ none).run P w=.ok v' w/\V w g v v':=by
 unfold qK at h;simp only at h;obtain ⟨hh,h1,h⟩:=bc.1 h;obtain ⟨l,h2,h⟩:=bc.1 h;simp at h;subst h;cases hx;obtain ⟨b1,b2,b3⟩:=Hm (P:=P) (isS:=false) gY pI (aQ _) h1 h2;exact ⟨_,by simp[Instr.sliceAt,run_underlying ht,Instr.slice,b1],.str _⟩
end
end Go.Ab
namespace Go.Ab
open Go.RowKit
theorem Mx (m:af) (e:Option Ent) (nm:Nat):af.get (m++[e]) nm=if nm < m.length then m.get nm else if nm=m.length then e else none:=by
 unfold af.get
 by_cases h:nm < m.length
 ·simp[h,qn]
 ·by_cases h2:nm=m.length
  ·subst h2;simp
  ·rw[ai h,ai h2,n5 (by simp;omega)];rfl
theorem gF (m:af) (nm:Nat) (e:Option Ent) (n:Nat):af.get (m.set nm e) n=if n=nm then (if nm < m.length then e else none) else m.get n:=by
 unfold af.get
 by_cases h:n=nm
 ·subst h
  by_cases h2:n < m.length
  ·simp[h2]
  ·simp[h2]
 ·rw[CB,ai (by omega),ai h]
theorem bF {m:af} {nm:Nat} {e:Ent} (h:m.get nm=some e):nm < m.length:=by
 unfold af.get at h
 rcases qW nm m.length with hl | hl
 ·exact hl
 ·rw[n5 hl] at h;cases h
theorem pW {g:G} {m:af} {nm b:Nat} (h:ba g m nm=some b):(∃ bx cs,m.get nm=some (.obj bx cs)/\g.loc nm=some b)\/(∃ n sz,m.get nm=some (.tok n sz)/\g.tloc nm n=some b)\/∃ kk es,m.get nm=some (.mp kk es)/\g.loc nm=some b:=by
 unfold ba at h
 split at h
 ·exact .inl ⟨_,_,by assumption,h⟩
 ·exact .inr (.inl ⟨_,_,by assumption,h⟩)
 ·cases h
 ·exact .inr (.inr ⟨_,_,by assumption,h⟩)
 ·cases h
section
variable [WInv] {B:Nat} {w:World} {g:G} {m:af}
theorem MemR.blk_lt (h:MemR B w g m) {nm b:Nat} (hb:ba g m nm=some b):B<=b/\b < w.heap.size:=by
 rcases pW hb with ⟨bx,cs,h1,h2⟩ | ⟨n,sz,h1,h2⟩ | ⟨kk,es,h1,h2⟩
 ·obtain ⟨b',c,e,h3,h4,h5,_⟩:=h.obj nm bx cs h1;obtain rfl:b=b':=by simpa [h2] using h3
  exact ⟨h4,(fF.1 h5).1⟩
 rotate_left
 ·obtain ⟨b',es',cl,h3,h4,h5,_⟩:=h.mp nm kk es h1;obtain rfl:b=b':=by simpa [h2] using h3
  exact ⟨h4,(fF.1 h5).1⟩
 ·obtain ⟨b',c,e,h3,h4,h5,_⟩:=h.tok nm n sz h1;obtain rfl:b=b':=by simpa [h2] using h3
  exact ⟨h4,(fF.1 h5).1⟩
theorem MemR.keep (h:MemR B w g m) {w':World} {g':G} (s:Step B w g w' g') (sD:∀ b,B<=b->b < w.heap.size->w'.heap[b]?=w.heap[b]?)
  (rD:∀ b off,g.wr b off->g'.wr b off) (jA:g'.loc=g.loc) (gy:g'.tloc=g.tloc) (hlt:∀ b off,g'.wr b off->b < w'.heap.size) (hbx:∀ b,g'.box b->b < w'.heap.size):MemR B w' g' m where
 obj nm bx cs hn:=by
  obtain ⟨b,c,e,h1,h2,h3,h4,h5,h6,h7⟩:=h.obj nm bx cs hn;exact ⟨b,c,e,by rw[jA];exact h1,h2,(sD b h2 (fF.1 h3).1).trans h3,h4,fun j hj=>(h5 j hj).step s,fun off=>rD _ _ (h6 off),(s.box b (fF.1 h3).1).trans h7⟩
 tok nm n sz hn:=by
  obtain ⟨b,c,e,h1,h2,h3,h4,h5,h6⟩:=h.tok nm n sz hn;exact ⟨b,c,e,by rw[gy];exact h1,h2,(sD b h2 (fF.1 h3).1).trans h3,fun off ho=>rD _ _ (h4 off ho),fun n' hn'=>by rw[gy];exact h5 n' hn',fun hb=>h6 ((s.box b (fF.1 h3).1).1 hb)⟩
 resv nm hn:=by rw[jA,gy];exact h.resv nm hn
 fresh nm hn:=by rw[jA,gy];exact h.fresh nm hn
 inj nm nm' b h1 h2:=by
  have e:ba g' m=ba g m:=by funext x;unfold ba;rw[jA,gy]
  rw[e] at h1 h2;exact h.inj nm nm' b h1 h2
 wrLt:=hlt
 inv:=h.invS s
 boxLt:=hbx
 mp nm kk es hn:=by
  obtain ⟨b,es',cl,h1,h2,h3,h4⟩:=h.mp nm kk es hn;exact ⟨b,es',cl,by rw[jA];exact h1,h2,(sD b h2 (fF.1 h3).1).trans h3,h4.step s⟩
theorem Step.drew (B:Nat) (w:World) (g:G):Step B w g w.drew g:=
 ⟨(Below.refl _ _).drew,fun _ _ _ _ h=>h,fun _ c _ _ h=>⟨c,h,rfl⟩,fun _ _ _ h=>h,fun _ _ _=>Iff.rfl,fun _ _=>Iff.rfl,fun _ _ h=>h,fun _ _ _ h=>h⟩
theorem Step.alloc {B:Nat} {w:World} {g g':G} (hB:B<=w.heap.size) (o:Obj) (rD:∀ b off,b < w.heap.size->(g'.wr b off↔g.wr b off)) (sv:∀ b,b < w.heap.size->(g'.box b↔g.box b))
  (jA:∀ nm b,g.loc nm=some b->g'.loc nm=some b) (gy:∀ nm n b,g.tloc nm n=some b->g'.tloc nm n=some b):Step B w g (w.alloc o) g' where
 below:=(Below.refl _ _).alloc hB o
 cell b off u _ hc:=(World.cell?_alloc_lt w o _ (tC hc)).trans hc
 shape b c e fr hb:=⟨c,(Go.heap_alloc_old w o (fF.1 hb).1).trans hb,rfl⟩
 wr b off hb hn:=fun hw=>hn ((rD b off hb).1 hw)
 wrB b off hb:=rD b off (by omega)
 box b hb:=sv b hb
 loc:=jA
 tloc:=gy
theorem MemR.alloc_imm (h:MemR B w g m) (hB:B<=w.heap.size) (o:Obj):Step B w g (w.alloc o) g/\MemR B (w.alloc o) g m:=by
 have s:=Step.alloc (g:=g) hB o (fun _ _ _=>Iff.rfl) (fun _ _=>Iff.rfl) (fun _ _ h=>h) (fun _ _ _ h=>h);exact ⟨s,h.keep s (fun b _ hb=>Go.heap_alloc_old w o hb) (fun _ _ h=>h) rfl rfl (fun b off hw=>by have:=h.wrLt b off hw;simp;omega) (fun b hb=>by have:=h.boxLt b hb;simp;omega)⟩
def gL (g:G) (nm b:Nat) (bx:Bool):G where
 wr b' off:=b'=b\/g.wr b' off
 box b':=(bx=true/\b'=b)\/g.box b'
 loc n:=if n=nm then some b else g.loc n
 tloc:=g.tloc
structure Slot (g:G) (m:af) (nm:Nat) (e:Ent) (m':af):Prop where
 get:∀ x,af.get m' x=if x=nm then some e else m.get x
 fresh:g.loc nm=none/\∀ n,g.tloc nm n=none
 len:∀ x,m'.length<=x->m.length<=x/\x≠nm
theorem MemR.slot (h:MemR B w g m) {d:Option Nat} (hd:∀ s,d=some s->m.get s=some .resv) (e:Ent):Slot g m (az d m .resv).1 e (az d m e).2:=by
 cases d with
 | none=>
  refine ⟨fun x=>?_,h.fresh _ (aQ _),fun x hx=>?_⟩
  ·show af.get (m++[some e]) x=if x=m.length then some e else m.get x
   rw[Mx]
   by_cases h1:x=m.length
   ·rw[ai (by omega),an h1,an h1]
   ·rw[ai h1,ai h1]
    by_cases h2:x < m.length
    ·rw[an h2]
    ·rw[ai h2];unfold af.get;rw[n5 (by omega)];rfl
  ·simp only[az,aI,tn] at hx ⊢;omega
 | some s=>
  have hs:=hd s rfl;have hlt:=bF hs
  refine ⟨fun x=>?_,h.resv s hs,fun x hx=>?_⟩
  ·show af.get (m.set s (some e)) x=if x=s then some e else m.get x
   rw[gF,an hlt]
  ·simp only[az,a8] at hx ⊢;omega
theorem MemR.alloc_obj (h:MemR B w g m) (hB:B<=w.heap.size) (c:Array Value) (e:TypeId) (cs:List AV) (hl:cs.length<=c.size) (hv:∀ j,j < cs.length->V w g (cs.getD j .any) (c.getD j undef)) (bx:Bool) {nm:Nat} {m':af} (hs:Slot g m nm (.obj bx cs) m') :
  Step B w g (w.alloc (.cells c e)) (gL g nm w.heap.size bx)/\MemR B (w.alloc (.cells c e)) (gL g nm w.heap.size bx) m':=by
 have nF:=hs.fresh;have pH:=h.boxLt
 have s:Step B w g (w.alloc (.cells c e)) (gL g nm w.heap.size bx):=by
  refine Step.alloc hB _ (fun b off hb=>?_) (fun b hb=>?_) (fun x b hb=>?_) (fun _ _ _ h=>h)
  ·simp only[gL];constructor
   ·rintro (rfl | h)<;>first | omega | exact h
   ·exact .inr
  ·simp only[gL];constructor
   ·rintro (⟨_,rfl⟩ | h)<;>first | omega | exact h
   ·exact .inr
  ·simp only[gL]
   split
   ·rename_i he;rw[he,nF.1] at hb;cases hb
   ·exact hb
 have hblk:∀ x b,ba (gL g nm w.heap.size bx) m' x=some b->(x≠nm/\ba g m x=some b)\/(x=nm/\b=w.heap.size):=by
  intro x b hb
  rcases pW hb with ⟨bx',cs',h1,h2⟩ | ⟨n,sz,h1,h2⟩ | ⟨kk,es,h1,h2⟩
  ·rw[hs.get] at h1
   split at h1
   ·rename_i he;simp only[gL,an he] at h2;exact .inr ⟨he,by simpa using h2.symm⟩
   ·rename_i hne;simp only[gL,ai hne] at h2;exact .inl ⟨hne,by simp[ba,h1,h2]⟩
  ·rw[hs.get] at h1
   split at h1
   ·simp at h1
   ·rename_i hne;simp only[gL] at h2;exact .inl ⟨hne,by simp[ba,h1,h2]⟩
  ·rw[hs.get] at h1
   split at h1
   ·simp at h1
   ·rename_i hne;simp only[gL,ai hne] at h2;exact .inl ⟨hne,by simp[ba,h1,h2]⟩
 refine ⟨s,?_,?_,?_,?_,?_,?_,?_,?_,?mp⟩
 case mp=>
  intro x kk es hn;rw[hs.get] at hn
  split at hn
  ·simp at hn
  ·obtain ⟨b,es',cl,h1,h2,h3,h4⟩:=h.mp x kk es hn;exact ⟨b,es',cl,s.loc _ _ h1,h2,(Go.heap_alloc_old w _ (fF.1 h3).1).trans h3,h4.step s⟩
 ·intro x bx' cs' hn;rw[hs.get] at hn
  split at hn
  ·rename_i he;simp only[bM,Ent.obj.injEq] at hn;obtain ⟨rfl,rfl⟩:=hn;refine ⟨w.heap.size,c,e,by simp[gL,he],hB,heap_alloc_new w _,hl,fun j hj=>(hv j hj).step s,fun off=>.inl rfl,?_⟩;simp only[gL]
   constructor
   ·rintro (⟨h,_⟩ | h)
    ·exact h
    ·exact absurd (pH _ h) (vS _)
   ·intro h;exact .inl ⟨h,trivial⟩
  ·obtain ⟨b,c',e',h1,h2,h3,h4,h5,h6,h7⟩:=h.obj x bx' cs' hn;exact ⟨b,c',e',s.loc _ _ h1,h2,(Go.heap_alloc_old w _ (fF.1 h3).1).trans h3,h4,fun j hj=>(h5 j hj).step s,fun off=>.inr (h6 off),(s.box b (fF.1 h3).1).trans h7⟩
 ·intro x n sz hn;rw[hs.get] at hn
  split at hn
  ·simp at hn
  ·obtain ⟨b,c',e',h1,h2,h3,h4,h5,h6⟩:=h.tok x n sz hn;exact ⟨b,c',e',h1,h2,(Go.heap_alloc_old w _ (fF.1 h3).1).trans h3,fun off ho=>.inr (h4 off ho),h5,fun hb=>h6 ((s.box b (fF.1 h3).1).1 hb)⟩
 ·intro x hn;rw[hs.get] at hn
  split at hn
  ·simp at hn
  ·rename_i hne;have:=h.resv x hn;exact ⟨by simp only[gL];rw[ai hne];exact this.1,this.2⟩
 ·intro x hn;obtain ⟨h1,h2⟩:=hs.len x hn;have:=h.fresh x h1;exact ⟨by simp only[gL];rw[ai h2];exact this.1,this.2⟩
 ·intro x x' b h1 h2
  rcases hblk _ _ h1 with ⟨a1,a2⟩ | ⟨a1,a2⟩<;>rcases hblk _ _ h2 with ⟨b1,b2⟩ | ⟨b1,b2⟩
  ·exact h.inj _ _ _ a2 b2
  ·have:=(h.blk_lt a2).2;omega
  ·have:=(h.blk_lt b2).2;omega
  ·omega
 ·rintro b off (rfl | hw)
  ·simp
  ·have:=h.wrLt b off hw;simp;omega
 ·exact h.invS s
 ·rintro b (⟨_,rfl⟩ | hw)
  ·simp
  ·have:=h.boxLt b hw;simp;omega
def iV (g:G) (nm b n sz:Nat):G where
 wr b' off:=(b'=b/\n * sz<=off)\/g.wr b' off
 box:=g.box
 loc:=g.loc
 tloc nm' n':=if nm'=nm/\n'=n then some b else g.tloc nm' n'
theorem MemR.alloc_tok (h:MemR B w g m) (hB:B<=w.heap.size) (c:Array Value) (e:TypeId) (n sz:Nat) {nm:Nat} {m':af} (hs:Slot g m nm (.tok n sz) m') :
  Step B w g (w.alloc (.cells c e)) (iV g nm w.heap.size n sz)/\MemR B (w.alloc (.cells c e)) (iV g nm w.heap.size n sz) m':=by
 have nF:=hs.fresh
 have s:Step B w g (w.alloc (.cells c e)) (iV g nm w.heap.size n sz):=by
  refine Step.alloc hB _ (fun b off hb=>?_) (fun b hb=>Iff.rfl) (fun x b hb=>hb) (fun x n' b hb=>?_)
  ·simp only[iV];constructor
   ·rintro (⟨rfl,_⟩ | h)<;>first | omega | exact h
   ·exact .inr
  ·simp only[iV]
   split
   ·rename_i he;rw[he.1,nF.2] at hb;cases hb
   ·exact hb
 have hblk:∀ x b,ba (iV g nm w.heap.size n sz) m' x=some b->(x≠nm/\ba g m x=some b)\/(x=nm/\b=w.heap.size):=by
  intro x b hb
  rcases pW hb with ⟨bx',cs',h1,h2⟩ | ⟨n',sz',h1,h2⟩ | ⟨kk,es,h1,h2⟩
  ·rw[hs.get] at h1
   split at h1
   ·simp at h1
   ·rename_i hne;simp only[iV] at h2;exact .inl ⟨hne,by simp[ba,h1,h2]⟩
  rotate_left
  ·rw[hs.get] at h1
   split at h1
   ·simp at h1
   ·rename_i hne;simp only[iV] at h2;exact .inl ⟨hne,by simp[ba,h1,h2]⟩
  ·rw[hs.get] at h1
   split at h1
   ·rename_i he;simp only[bM,Ent.tok.injEq] at h1;simp only[iV,an (show x=nm/\n'=n from ⟨he,h1.1.symm⟩)] at h2;exact .inr ⟨he,by simpa using h2.symm⟩
   ·rename_i hne;simp only[iV,ai (show ¬ (x=nm/\n'=n) from fun h=>hne h.1)] at h2;exact .inl ⟨hne,by simp[ba,h1,h2]⟩
 refine ⟨s,?_,?_,?_,?_,?_,?_,?_,?_,?mp⟩
 case mp=>
  intro x kk es hn;rw[hs.get] at hn
  split at hn
  ·simp at hn
  ·obtain ⟨b,es',cl,h1,h2,h3,h4⟩:=h.mp x kk es hn;exact ⟨b,es',cl,h1,h2,(Go.heap_alloc_old w _ (fF.1 h3).1).trans h3,h4.step s⟩
 ·intro x bx' cs' hn;rw[hs.get] at hn
  split at hn
  ·simp at hn
  ·obtain ⟨b,c',e',h1,h2,h3,h4,h5,h6,h7⟩:=h.obj x bx' cs' hn;exact ⟨b,c',e',h1,h2,(Go.heap_alloc_old w _ (fF.1 h3).1).trans h3,h4,fun j hj=>(h5 j hj).step s,fun off=>.inr (h6 off),(s.box b (fF.1 h3).1).trans h7⟩
 ·intro x n' sz' hn;rw[hs.get] at hn
  split at hn
  ·rename_i he;simp only[bM,Ent.tok.injEq] at hn;obtain ⟨rfl,rfl⟩:=hn;refine ⟨w.heap.size,c,e,by simp[iV,he],hB,heap_alloc_new w _,fun off ho=>.inl ⟨rfl,ho⟩,fun n'' wJ=>?_,fun hb=>vS _ (h.boxLt _ hb)⟩;simp only[iV];rw[ai (by omega),he];exact nF.2 n''
  ·rename_i hne;obtain ⟨b,c',e',h1,h2,h3,h4,h5,h6⟩:=h.tok x n' sz' hn;refine ⟨b,c',e',s.tloc _ _ _ h1,h2,(Go.heap_alloc_old w _ (fF.1 h3).1).trans h3,fun off ho=>.inr (h4 off ho),fun n'' wJ=>?_,fun hb=>h6 ((s.box b (fF.1 h3).1).1 hb)⟩;simp only[iV];rw[ai (fun h=>hne h.1)];exact h5 n'' wJ
 ·intro x hn;rw[hs.get] at hn
  split at hn
  ·simp at hn
  ·rename_i hne;have:=h.resv x hn;exact ⟨this.1,fun n'=>by simp only[iV];rw[ai (fun h=>hne h.1)];exact this.2 n'⟩
 ·intro x hn;obtain ⟨h1,h2⟩:=hs.len x hn;have:=h.fresh x h1;exact ⟨this.1,fun n'=>by simp only[iV];rw[ai (fun h=>h2 h.1)];exact this.2 n'⟩
 ·intro x x' b h1 h2
  rcases hblk _ _ h1 with ⟨a1,a2⟩ | ⟨a1,a2⟩<;>rcases hblk _ _ h2 with ⟨b1,b2⟩ | ⟨b1,b2⟩
  ·exact h.inj _ _ _ a2 b2
  ·have:=(h.blk_lt a2).2;omega
  ·have:=(h.blk_lt b2).2;omega
  ·omega
 ·rintro b off (⟨rfl,_⟩ | hw)
  ·simp
  ·have:=h.wrLt b off hw;simp;omega
 ·exact h.invS s
 ·intro b hw;have:=h.boxLt b hw;simp;omega
theorem sW {cs vs:List AV} {off:Nat} (h:off+vs.length<=cs.length):(bP cs off vs).length=cs.length:=by
 simp[bP];omega
theorem BC {cs vs:List AV} {off:Nat} (h:off+vs.length<=cs.length) (j:Nat):(bP cs off vs).getD j .any=if off<=j/\j < off+vs.length then vs.getD (j - off) .any else cs.getD j .any:=by
 unfold bP;have hlen:(cs.take off).length=off:=by simp;omega
 simp only[aS,gA,qn,hlen,qo,rU]
 by_cases h1:j < off
 ·rw[an h1,an h1,ai (by omega)]
 ·rw[ai h1]
  by_cases h2:j - off < vs.length
  ·rw[an h2,an (by omega)]
  ·rw[ai h2,ai (by omega),show off+vs.length+(j - off - vs.length)=j by omega]
theorem Mr (off:Nat):∀ (vs:List Value) (i:Nat) (cs:Array Value),(off+i+vs.length<=cs.size) ->
  ((vs.zipIdx i).foldl (fun cs (c,j)=>cs.setIfInBounds (off+j) c) cs).size=cs.size /\
  ∀ k,((vs.zipIdx i).foldl (fun cs (c,j)=>cs.setIfInBounds (off+j) c) cs).getD k undef=if off+i<=k/\k < off+i+vs.length then vs.getD (k - (off+i)) undef else cs.getD k undef
 | [],i,cs,_=>by
  refine ⟨rfl,fun k=>?_⟩;simp only[List.zipIdx_nil,List.foldl_nil,aP];rw[ai (by omega)]
 | v::vs,i,cs,h=>by
  simp only[aJ] at h;obtain ⟨h1,h2⟩:=Mr off vs (i+1) (cs.setIfInBounds (off+i) v) (by simp;omega);simp only[List.zipIdx_cons,ux];refine ⟨by rw[h1];simp,fun k=>?_⟩;rw[h2];simp only[aJ]
  by_cases hk:off+(i+1)<=k/\k < off+(i+1)+vs.length
  ·rw[an hk,an (by omega),show k - (off+i)=(k - (off+(i+1)))+1 by omega]
   rfl
  ·rw[ai hk]
   by_cases kA:k=off+i
   ·subst kA;rw[an (by omega)];simp[Array.getD,show off+i < cs.size by omega]
   ·rw[ai (by omega)];simp only[jE];rw[Fc,ai (by omega)]
theorem Ml {w:World} {g:G} (place:Nat->Option (Nat×Nat)):∀ (parts:List (Nat×Sh×AV)) (ps:List (Nat×Value)) (cs cs':List AV) (c:Array Value),
  parts.length=ps.length->(∀ k (h:k < parts.length) (h':k < ps.length),place ps[k].1=some (parts[k].1,(parts[k].2.1).size)/\V w g parts[k].2.2 ps[k].2) ->
  cs.length=c.size->(∀ j,j < cs.length->V w g (cs.getD j .any) (c.getD j undef))->Dq cs parts=some cs' ->
  ∃ c',Instr.fill place c ps=some c'/\cs'.length=c'.size/\cs'.length=cs.length/\∀ j,j < cs'.length->V w g (cs'.getD j .any) (c'.getD j undef)
 | [],ps,cs,cs',c,hl,_,hc,hv,h=>by
  obtain rfl:ps=[]:=oN (by simpa using hl.symm);simp[Dq] at h;subst h;exact ⟨c,rfl,hc,rfl,hv⟩
 | (off,sh,x)::parts,ps,cs,cs',c,hl,hp,hc,hv,h=>by
  match ps,hl with
  | (i,v)::ps,hl=>
  obtain ⟨hpl,hV⟩:=hp 0 (by simp) (by simp);simp only[List.getElem_cons_zero] at hpl hV;simp only[Dq] at h
  split at h
  ·rename_i hsh
   split at h
   ·rename_i hle;obtain ⟨kC,hvc,_⟩:=Hg hV hsh;have D7:=s6 hsh;obtain ⟨f1,f2⟩:=Mr off v.cells.toList 0 c (by simp;omega);simp only[jF,Array.length_toList] at f2
    have hz:(v.cells.zipIdx.foldl (fun cs (c,j)=>cs.setIfInBounds (off+j) c) c)=(v.cells.toList.zipIdx.foldl (fun cs (c,j)=>cs.setIfInBounds (off+j) c) c):=by
     rw[<- Array.foldl_toList,Array.toList_zipIdx]
    have ih:=Ml place parts ps (bP cs off x.cells) cs' (v.cells.zipIdx.foldl (fun cs (c,j)=>cs.setIfInBounds (off+j) c) c) (by simpa using hl)
     (fun k h1 h2=>by have:=hp (k+1) (by simpa using h1) (by simpa using h2);simpa using this)
     (by rw[hz,f1,sW (by omega)];exact hc)
     (fun j hj=>by
      rw[sW (by omega)] at hj;rw[hz,f2,BC (by omega)]
      by_cases hk:off<=j/\j < off+x.cells.length
      ·rw[an hk,an (by omega)];have:=hvc (j - off) (by omega);simpa [aS,jE] using this
      ·rw[ai hk,ai (by omega)];exact hv j hj) h
    obtain ⟨c',h1,h2,h3,h4⟩:=ih;refine ⟨c',?_,h2,by rw[h3,sW (by omega)],h4⟩;simp only[Instr.fill,hpl];rw[ai (by simp;omega)];exact h1
   ·cases h
  ·cases h
section
variable [WInv] {P:Program} {B:Nat} {w:World} {g:G} {m:af}
theorem Fb {t:Nat} {z:AV} (h:rN P t=some z):∃ i v,P.info? t=some i/\i.zero=some v/\z=iq v:=by
 unfold rN at h
 split at h
 ·rename_i i hi;obtain ⟨v,hv,rfl⟩:=gP.1 h;exact ⟨i,v,hi,hv,rfl⟩
 ·cases h
theorem PA (w:World) (g:G) (v:Value):(iq v).cells.length=v.cells.size/\∀ j,j < v.cells.size->V w g ((iq v).cells.getD j .any) (v.cells.getD j undef):=by
 have iT:∀ v:Value,(pA v).cells=[pA v]:=fun v=>by unfold pA;split<;>rfl
 by_cases ha:∃ cs,v=.agg cs
 ·obtain ⟨cs,rfl⟩:=ha;refine ⟨by simp[iq,AV.cells,Value.cells],fun j hj=>?_⟩;simp only[Value.cells] at hj
  have:(iq (.agg cs)).cells.getD j .any=pA (cs.getD j undef):=by
   simp[iq,AV.cells,aS,Array.getD,hj]
  rw[this];exact Hf _ _ _
 ·have h1:iq v=pA v:=by
   unfold iq
   split
   ·exact absurd ⟨_,rfl⟩ ha
   ·rfl
  have h2:v.cells = #[v]:=by
   unfold Value.cells
   split
   ·exact absurd ⟨_,rfl⟩ ha
   ·rfl
  rw[h1,iT,h2];refine ⟨rfl,fun j hj=>?_⟩;obtain rfl:j=0:=by simp at hj;omega
  exact Hf _ _ _
def nZ (P:Program) (B:Nat) (w:World) (g:G) (s:Sem Value) (v:AV) (m':af):Prop:=
 ∃ v' w' g',s.run P w=.ok v' w'/\Step B w g w' g'/\MemR B w' g' m'/\V w' g' v v'
theorem nZ.same (hm:MemR B w g m) {s:Sem Value} {v:AV} (h:∃ v',s.run P w=.ok v' w/\V w g v v'):nZ P B w g s v m:=
 let ⟨v',h1,h2⟩:=h;⟨v',w,g,h1,.refl _ _ _,hm,h2⟩
theorem Sw (g:G) (nm b:Nat) (bx:Bool) (w':World):V w' (gL g nm b bx) (.ptr nm 0) (.pointer (some ⟨b,0,none⟩)):=.ptr _ _ _ (by simp[gL])
theorem qhG (hm:MemR B w g m) (hB:B<=w.heap.size) {d:Option Nat} (hd:∀ s,d=some s->m.get s=some .resv) {t:Nat} {z:AV} (h:rN P t=some z):nZ P B w g (Instr.alloc t true (.tuple #[])) (.ptr (az d m .resv).1 0) (az d m (.obj true z.cells)).2:=by
 obtain ⟨i,v,hi,hv,rfl⟩:=Fb h;obtain ⟨h1,h2⟩:=PA w g v;obtain ⟨s,hm'⟩:=hm.alloc_obj hB v.cells t (iq v).cells (by omega) (fun j hj=>h2 j (by omega)) true (hm.slot hd _);refine ⟨_,_,_,?_,s,hm',Sw _ _ _ _ _⟩;simp[Instr.alloc,zeroValue,typeInfo,hi,hv,newVar,newRow]
theorem qjZ (hm:MemR B w g m) (hB:B<=w.heap.size) {d:Option Nat} (hd:∀ s,d=some s->m.get s=some .resv) {t:Nat} {sh:Sh} {x r:AV} {m':af} {x':Value} (hx:V w g x x') (h:dI d sh m x=some (r,m')):nZ P B w g (Instr.box t x') r m':=by
 unfold dI at h
 split at h
 ·rename_i hs;simp at h;obtain ⟨rfl,rfl⟩:=h;obtain ⟨h1,h2,_⟩:=Hg hx hs;have hl:=s6 hs;obtain ⟨s,hm'⟩:=hm.alloc_obj hB x'.cells t x.cells (by omega) (fun j hj=>h2 j (by omega)) true (hm.slot hd _);refine ⟨_,_,_,?_,s,hm',Sw _ _ _ _ _⟩;simp[Instr.box,newVar,newRow]
 ·cases h
theorem qpf {b:Nat}:∀ (vs:List Value) (off i:Nat) (w:World) (c:Array Value) (e:TypeId),w.heap[b]?=some (Obj.cells c e (0,0))->off+i+vs.length<=c.size->(∀ v∈vs,v.oneCell'=true) ->
  ∃ w',(storeCells ⟨b,off,none⟩ vs i).run P w=.ok () w'/\w'=w.setRow b (c.toList.take (off+i)++vs++c.toList.drop (off+i+vs.length)).toArray:=
 fun vs off i w c e hb hl h1=>⟨_,run_storeCells_at P b off e vs i c w hb hl h1,rfl⟩
theorem MemR.write (hm:MemR B w g m) {nm b:Nat} {cs cs':List AV} {c c':Array Value} {e:TypeId} {bx:Bool} (hn:m.get nm=some (.obj bx cs)) (hl:g.loc nm=some b) (hb:w.heap[b]?=some (Obj.cells c e (0,0))) (hsz:c'.size=c.size) (hcl:cs'.length<=c'.size)
  (hv:∀ j,j < cs'.length->V w g (cs'.getD j .any) (c'.getD j undef)):Step B w g (w.setRow b c') g/\MemR B (w.setRow b c') g (m.set nm (some (.obj bx cs'))):=by
 obtain ⟨b',c0,e0,h1,h2,h3,h4,h5,h6,h7⟩:=hm.obj nm bx cs hn;obtain rfl:b=b':=by simpa [hl] using h1
 have mb:∀ k,k≠b->(w.setRow b c').heap[k]?=w.heap[k]?:=fun k hk=>setRow_other w b k c' hk;have Be:(w.setRow b c').heap[b]?=some (Obj.cells c' e (0,0)):=setRow_heap w b c c' e _ hb;have wR:(w.setRow b c').heap.size=w.heap.size:=by simp
 have s:Step B w g (w.setRow b c') g:=by
  refine ⟨⟨rfl,rfl,rfl,by omega,fun k hk=>mb k (by omega)⟩,fun b' off u hw hc=>?_,fun b' c1 e1 fr iy=>?_,fun _ _ _ h=>h,fun _ _ _=>Iff.rfl,fun _ _=>Iff.rfl,fun _ _ h=>h,fun _ _ _ h=>h⟩
  ·have hne:b'≠b:=fun he=>hw (he▸h6 off);exact (World.cell?_of_block (w:=w) (a:=⟨b',off,none⟩) (mb b' hne)).trans hc
  ·by_cases he:b'=b
   ·subst he;rw[hb] at iy;simp only[bM,Obj.cells.injEq] at iy;obtain ⟨rfl,rfl,rfl⟩:=iy;exact ⟨c',Be,hsz⟩
   ·exact ⟨c1,(mb b' he).trans iy,rfl⟩
 have hlt:=bF hn
 have hblk:∀ x b',ba g (m.set nm (some (.obj bx cs'))) x=some b'->ba g m x=some b':=by
  intro x b' hx
  rcases pW hx with ⟨bx1,cs1,a1,a2⟩ | ⟨n1,sz1,a1,a2⟩ | ⟨kk1,es1,a1,a2⟩
  rotate_left 2
  ·rw[gF] at a1
   split at a1
   ·simp at a1
   ·simp[ba,a1,a2]
  ·rw[gF] at a1
   split at a1
   ·rename_i he;subst he;simp[ba,hn,a2]
   ·simp[ba,a1,a2]
  ·rw[gF] at a1
   split at a1
   ·simp at a1
   ·simp[ba,a1,a2]
 have su:ba g m nm=some b:=by simp[ba,hn,hl]
 refine ⟨s,?_,?_,?_,?_,?_,?_,?_,?_,?mp⟩
 case mp=>
  intro x kk es hx;rw[gF] at hx
  split at hx
  ·simp at hx
  ·rename_i hne;obtain ⟨b1,es1,cl1,a1,a2,a3,a4⟩:=hm.mp x kk es hx;have lN:b1≠b:=fun he=>by rw[he,hb] at a3;cases a3
   exact ⟨b1,es1,cl1,a1,a2,(mb b1 lN).trans a3,a4.step s⟩
 ·intro x bx1 cs1 hx;rw[gF] at hx
  split at hx
  ·rename_i he;subst he;simp at hx;obtain ⟨rfl,rfl⟩:=hx;exact ⟨b,c',e,hl,h2,Be,hcl,fun j hj=>(hv j hj).step s,h6,h7⟩
  ·rename_i hne;obtain ⟨b1,c1,e1,a1,a2,a3,a4,a5,a6⟩:=hm.obj x bx1 cs1 hx;have lN:b1≠b:=fun he=>hne (hm.inj x nm b (by simp[ba,hx,a1,he]) su);exact ⟨b1,c1,e1,a1,a2,(mb b1 lN).trans a3,a4,fun j hj=>(a5 j hj).step s,a6⟩
 ·intro x n1 sz1 hx;rw[gF] at hx
  split at hx
  ·simp at hx
  ·rename_i hne;obtain ⟨b1,c1,e1,a1,a2,a3,a4,a5,a6⟩:=hm.tok x n1 sz1 hx;have lN:b1≠b:=fun he=>hne (hm.inj x nm b (by simp[ba,hx,a1,he]) su);exact ⟨b1,c1,e1,a1,a2,(mb b1 lN).trans a3,a4,a5,a6⟩
 ·intro x hx;rw[gF] at hx
  split at hx
  ·simp at hx
  ·exact hm.resv x hx
 ·intro x hx;exact hm.fresh x (by simpa using hx)
 ·intro x x' b' h1 h2;exact hm.inj x x' b' (hblk x b' h1) (hblk x' b' h2)
 ·intro b' off hw;rw[wR];exact hm.wrLt b' off hw
 ·exact hm.invS s
 ·intro b' hw;rw[wR];exact hm.boxLt b' hw
theorem obj?_get {m:af} {nm:Nat} {bx:Bool} {cs:List AV} (h:m.obj? nm=some (bx,cs)):m.get nm=some (.obj bx cs):=by
 unfold af.obj? at h
 split at h
 ·rename_i hh;simp at h;rw[hh,h.1,h.2]
 ·cases h
theorem qpg (hm:MemR B w g m) {t:Nat} {sh:Sh} {x v:AV} {m':af} {x' v':Value} (hx:V w g x x') (hv:V w g v v') (hsh:jl P t=some sh) (h:aL sh m x v=some m') :
  ∃ w',(Instr.storeAt t x' v').run P w=.ok () w'/\Step B w g w' g/\MemR B w' g m':=by
 unfold aL at h
 split at h
 ·rename_i nm off;obtain ⟨⟨bx,cs⟩,gV,h⟩:=bc.1 h
  split at h
  ·rename_i hle;simp only at hle h
   split at h
   ·rename_i hs;simp at h;subst h;have hn:=obj?_get gV;obtain ⟨b,c,e,h1,h2,h3,h4,h5,h6,h7⟩:=hm.obj nm bx cs hn
    cases hx with
    | ptr _ _ b' hl=>
     obtain rfl:b=b':=by simpa [hl] using h1.symm
     obtain ⟨k1,k2,k3⟩:=Hg hv hs;have kl:=s6 hs;obtain ⟨i,d,hi,hd,hsz,_⟩:=BH hsh;obtain ⟨w',hr,rfl⟩:=qpf (P:=P) v'.cells.toList off 0 w c e h3 (by simp;omega) k3
     have tQ:(c.toList.take (off+0)++v'.cells.toList++c.toList.drop (off+0+v'.cells.toList.length)).toArray.size=c.size:=by
      simp;omega
     obtain ⟨s,hm'⟩:=hm.write (cs':=bP cs off v.cells) (c':=(c.toList.take (off+0)++v'.cells.toList++c.toList.drop (off+0+v'.cells.toList.length)).toArray) hn hl h3 tQ (by rw[tQ,sW (by omega)];omega)
      (fun j hj=>by
       rw[sW (by omega)] at hj;rw[BC (by omega)];have lP:j < c.size:=by omega
       have hlen:(c.toList.take off).length=off:=by simp;omega
       simp only[jE,Af,jF,gA,qn,hlen,qo,rU,Array.length_toList]
       by_cases hk:off<=j/\j < off+v.cells.length
       ·rw[an hk,ai (by omega),an (by omega)];have:=k2 (j - off) (by omega);simpa [jE] using this
       ·rw[ai hk];have qB:=h5 j hj
        by_cases tL:j < off
        ·rw[an tL,an tL];simpa [jE] using qB
        ·rw[ai tL,ai (by omega),show off+v'.cells.size+(j - off - v'.cells.size)=j by omega]
         simpa [jE] using qB)
     refine ⟨_,?_,s,hm'⟩;have hne:¬ (v'.cells.size≠i.size):=by omega
     simp only[Instr.storeAt,Instr.sureAddr,storeVar,Sem.run_bind,Sem.run_pure,Result.andThen_ok,ph hi,hne,me];exact hr
   ·cases h
  ·cases h
 ·cases h
theorem WX (z:Array Value) (n k:Nat) (hz:0 < z.size) (hk:k < n):(madeCells z n).getD k undef=z.getD (k % z.size) undef:=by
 have hlt:k % z.size < z.size:=jY _ hz;simp[madeCells,Array.getD,hk,hlt]
theorem ZL {sh:Sh} {zv:Value} {n:Nat} (hz:zv.cells.size=sh.size) (hne:sh=none->(iq zv).cells=[iq zv]) (w:World) (g:G) :
  (qQ sh (iq zv) n).length=n * sh.size/\∀ j,j < n * sh.size->V w g ((qQ sh (iq zv) n).getD j .any) (zv.cells.getD (j % zv.cells.size) undef):=by
 obtain ⟨h1,h2⟩:=PA w g zv
 have key:∀ n,((List.replicate n (iq zv).cells).flatten).length=n * sh.size/\∀ j,j < n * sh.size->((List.replicate n (iq zv).cells).flatten).getD j .any=(iq zv).cells.getD (j % sh.size) .any:=by
  intro n
  induction n with
  | zero=>simp
  | succ n ih=>
   have hl:(iq zv).cells.length=sh.size:=by omega
   refine ⟨by simp only[xK,List.flatten_cons,aI,ih.1,hl,qq];omega,fun j hj=>?_⟩;simp only[xK,List.flatten_cons,aS,qn,hl]
   by_cases oV:j < sh.size
   ·rw[an oV,lE oV]
   ·rw[ai oV,Nat.mod_eq_sub_mod (by omega)];rw[qq] at hj;simpa [aS] using ih.2 (j - sh.size) (by omega)
 have hz':qQ sh (iq zv) n=(List.replicate n (iq zv).cells).flatten:=by
  cases sh with
  | none=>
   have:=hne rfl;simp only[qQ];rw[this]
   induction n with
   | zero=>rfl
   | succ n ih=>simp only[xK,List.flatten_cons,<- ih];rfl
  | some k=>rfl
 rw[hz'];refine ⟨(key n).1,fun j hj=>?_⟩;rw[(key n).2 j hj,hz]
 have iO:0 < sh.size:=by
  rcases Nat.eq_zero_or_pos sh.size with h0 | h0
  ·rw[h0] at hj;simp at hj
  ·exact h0
 exact h2 _ (by rw[hz];exact jY _ iO)
theorem qng (hm:MemR B w g m) (hB:B<=w.heap.size) {d:Option Nat} (hd:∀ s,d=some s->m.get s=some .resv) {t e:Nat} {sh:Sh} {z l c v:AV} {m':af} {l' c':Value} (ht:P.underlying t=some (.slice e)) (hsh:jl P e=some sh) (he:nE P e sh=true) (hz:rN P e=some z)
  (hl:V w g l l') (hc:V w g c c') (h:iP d e sh z (pD P e) m l c=some (v,m')):nZ P B w g (Instr.makeSlice t l' c') v m':=by
 obtain ⟨i,zv,hi,hs,iO,nj,sQ,tO⟩:=tE he;obtain ⟨i2,zv2,hi2,NM,rfl⟩:=Fb hz;obtain rfl:i=i2:=by simpa [hi] using hi2
 obtain rfl:zv=zv2:=by simpa [nj] using NM
 have hb:i.bytes<=pD P e:=by simp[pD,hi];omega
 have hz2:zv.cells.size=sh.size:=by omega
 unfold iP at h
 split at h
 ·rename_i kl l kc c;cases hl;cases hc
  split at h
  ·rename_i mH;obtain ⟨h0,Nf,sw,sq⟩:=mH;have sw:c * (i.bytes:Int)<=281474976710656:=Int.le_trans (Int.mul_le_mul_of_nonneg_left (by omega) (by omega)) sw;have hr:=run_make (P:=P) w t e i zv ht hi nj kl kc l c h0 Nf (by rw[Int.mul_comm];exact sw) sq
   split at h
   ·rename_i heq;subst heq;simp at h;obtain ⟨rfl,rfl⟩:=h
    have Ig:sh=none->(iq zv).cells=[iq zv]:=by
     intro hn
     have h1:iq zv=pA zv:=by
      unfold iq
      split
      ·exact absurd rfl (tO hn _)
      ·rfl
     rw[h1];unfold pA;split<;>rfl
    obtain ⟨z1,z2⟩:=ZL (sh:=sh) (n:=l.toNat) hz2 Ig w g
    obtain ⟨s,hm'⟩:=hm.alloc_obj hB (madeCells zv.cells (l.toNat * i.size)) e (qQ sh (iq zv) l.toNat) (by rw[size_madeCells,z1,hs];exact aQ _) (fun j hj=>by
     rw[z1] at hj;rw[WX _ _ _ (by omega) (by rw[hs];exact hj)]
     exact z2 j hj) false (hm.slot hd _)
    refine ⟨_,_,_,hr,s,hm',.arr _ _ _ _ _ _ (.inr rfl) (aQ _) (by simp only[maxLen];omega) (.inr ⟨by simp[gL],rfl,_,_,heap_alloc_new w _,by rw[size_madeCells,hs,bp];exact aQ _⟩)⟩
   ·split at h
    ·rename_i vd;subst vd;simp at h;obtain ⟨rfl,rfl⟩:=h;obtain ⟨s,hm'⟩:=hm.alloc_tok hB (madeCells zv.cells (c.toNat * i.size)) e 0 sh.size (hm.slot hd _);refine ⟨_,_,_,hr,s,hm',.lst sh (.tok (az d m .resv).1 e) [] ⟨w.heap.size,0,none⟩ _ (fun _=>undef) (.inr rfl) (kW _) (by simp only[maxLen];omega) (by simp) (by simp) (by simp) ?_⟩;exact ⟨by simp[iV],rfl,_,heap_alloc_new w _,by rw[size_madeCells,hs]⟩
    ·cases h
  ·cases h
 ·cases h
theorem Xa {α β:Type} (f:α->Option β):∀ (l:List α) (r:List β),l.mapM f=some r->r.length=l.length/\∀ k (h:k < l.length) (h':k < r.length),f l[k]=some r[k]
 | [],r,h=>by simp at h;subst h;simp
 | a::l,r,h=>by
  simp only[List.mapM_cons,Option.bind_eq_bind,bc,Option.pure_def,bM] at h;obtain ⟨b,hb,bs,ov,rfl⟩:=h;obtain ⟨h1,h2⟩:=Xa f l bs ov;refine ⟨by simp[h1],fun k hk bO=>?_⟩
  cases k with
  | zero=>simpa using hb
  | succ k=>simpa using h2 k (by simpa using hk) (by simpa using bO)
theorem YH (w:World):∀ (l:List Field),(l.all fun f=>(P.info? f.type).isSome)=true->(l.mapM fun f=>do pure (f.offset,<- sizeOf f.type):Sem (List (Nat×Nat))).run P w=.ok (l.map fun f=>(f.offset,((P.info? f.type).map (·.size)).getD 0)) w
 | [],_=>by simp
 | f::l,h=>by
  simp only[n0,b7] at h;obtain ⟨i,hi⟩:=Option.isSome_iff_exists.1 h.1;have ih:=YH w l h.2;simp only[List.mapM_cons,Sem.run_bind,ph hi,Result.andThen_ok,Sem.run_pure,ih,gd,hi,aR,dh]
theorem qnZ {t f:Nat} {fs:Array Field} (hu:P.underlying t=some (.struct fs)):y9 P t f=wq P t f:=by
 unfold y9;rw[hu]
theorem qj6 (hm:MemR B w g m) {t:Nat} {z v:AV} {ps:Array (Nat×Operand)} {ρ:Operand->AV} {ρ':Operand->Value} (hρ:∀ x,V w g (ρ x) (ρ' x)) (gK:Pf P t=true) (hz:rN P t=some z)
  {l:List (Nat×Sh×AV)} (hl:ps.toList.mapM (fun p=>(y9 P t p.1).map fun f=>(f.1,f.2,ρ p.2))=some l) (h:gm z l=some v) :
  nZ P B w g (Instr.build t (ps.map fun (i,x)=>(i,ρ' x))) v m:=by
 obtain ⟨i,zv,hi,nj,rfl⟩:=Fb hz;obtain ⟨h1,h2⟩:=PA w g zv;obtain ⟨l1,l2⟩:=Xa _ _ _ hl;unfold Pf at gK
 split at gK
 ·rename_i fs hu;unfold gm at h
  split at h
  ·rename_i cs gV;obtain ⟨cs',hf,rfl⟩:=gP.1 h;have wB:(iq zv).cells=cs:=by rw[gV];rfl
   rw[wB] at h1 h2
   let place:Nat->Option (Nat×Nat):=(((fs.toList.map fun f=>(f.offset,((P.info? f.type).map (·.size)).getD 0)).toArray)[·]?)
   obtain ⟨c',r1,r2,r3,r4⟩:=Ml (w:=w) (g:=g) place l ((ps.map fun (i,x)=>(i,ρ' x)).toList) cs cs' zv.cells (by simp[l1])
    (fun k hk bO=>by
     have:=l2 k (by omega) hk;obtain ⟨⟨off,sh⟩,kK,DN⟩:=gP.1 this;rw[qnZ hu] at kK;obtain ⟨fs',fd,u1,u2,u3,u4,u5⟩:=Mj kK;obtain rfl:fs=fs':=by simpa [hu] using u1
     obtain ⟨i',d,j1,j2,j3,_⟩:=BH u3;simp only[<- DN];refine ⟨?_,by simpa using hρ _⟩
     simp only[place,Af,oO,Array.toList_map,rV,Array.getElem?_toList,u2,aR,u4,j1,dh,j3])
    h1 (fun j hj=>h2 j (by omega)) hf
   refine nZ.same hm ⟨.agg c',?_,.agg _ _ r2 r4⟩
   have hpl:(fs.mapM fun f=>do pure (f.offset,<- sizeOf f.type):Sem (Array (Nat×Nat))).run P w=.ok (fs.toList.map fun f=>(f.offset,((P.info? f.type).map (·.size)).getD 0)).toArray w:=by
    rw[Array.mapM_eq_mapM_toList];have:=YH (P:=P) w fs.toList (by rw[<- gK];simp);simp only[Sem.run_map,this,Result.andThen_ok]
   simp only[Instr.build,Sem.run_bind,zeroValue,typeInfo,run_program,Result.andThen_ok,hi,Sem.run_pure,nj,run_underlying hu,hpl];rw[show Instr.fill (fun x=>(List.map (fun (f:Field)=>(f.offset,((P.info? f.type).map (·.size)).getD 0)) fs.toList).toArray[x]?) zv.cells (Array.map (fun x=>(x.fst,ρ' x.snd)) ps).toList=some c' from r1]
   rfl
  ·cases h
 ·rename_i n e hu;unfold gm at h
  split at h
  ·rename_i cs gV;obtain ⟨cs',hf,rfl⟩:=gP.1 h;have wB:(iq zv).cells=cs:=by rw[gV];rfl
   rw[wB] at h1 h2;obtain ⟨ie,H0⟩:=Option.isSome_iff_exists.1 gK
   obtain ⟨c',r1,r2,r3,r4⟩:=Ml (w:=w) (g:=g) (fun i=>some (i * ie.size,ie.size)) l ((ps.map fun (i,x)=>(i,ρ' x)).toList) cs cs' zv.cells (by simp[l1])
    (fun k hk bO=>by
     have:=l2 k (by omega) hk;obtain ⟨⟨off,sh⟩,kK,DN⟩:=gP.1 this;unfold y9 at kK;rw[hu] at kK;simp only at kK
     split at kK
     ·rename_i sh' hsh
      split at kK
      ·cases kK
      ·simp only[bM,dT] at kK;obtain ⟨rfl,rfl⟩:=kK;obtain ⟨i',d,j1,j2,j3,_⟩:=BH hsh;obtain rfl:ie=i':=by simpa [H0] using j1
       simp only[<- DN];refine ⟨?_,by simpa using hρ _⟩;simp[j3]
     ·cases kK)
    h1 (fun j hj=>h2 j (by omega)) hf
   refine nZ.same hm ⟨.agg c',?_,.agg _ _ r2 r4⟩;simp only[Instr.build,Sem.run_bind,zeroValue,typeInfo,sizeOf,run_program,Result.andThen_ok,hi,Sem.run_pure,nj,run_underlying hu,H0];rw[show Instr.fill (fun i=>some (i * ie.size,ie.size)) zv.cells (Array.map (fun x=>(x.fst,ρ' x.snd)) ps).toList=some c' from r1]
   rfl
  ·cases h
 ·cases gK
end
end
end Go.Ab
namespace Go.Ab
open Go.RowKit
section
variable [WInv] {P:Program} {B:Nat} {w:World} {g:G} {m:af}
theorem Sx {x:AV} {v:Value} (h:V w g x v):V w g (qh x) v:=by
 cases h with
 | lst sh o es a cap us hs hc hm hsh hcell hv ho=>
  cases o with
  | tok nm e=>exact .lst sh .no es a cap us hs hc hm hsh hcell hv trivial
  | no=>exact .lst sh .no es a cap us hs hc hm hsh hcell hv ho
  | full=>exact .lst sh .full es a cap us hs hc hm hsh hcell hv ho
 | nils sh o ho=>rcases ho with rfl | rfl<;>exact .nils sh _ (by simp)
 | any=>exact .any _
 | int=>exact .int _ _
 | bool=>exact .bool _
 | str=>exact .str _
 | arr _ _ _ _ _ _ a b c d=>exact .arr _ _ _ _ _ _ a b c d
 | ptr _ _ _ a=>exact .ptr _ _ _ a
 | vptr _ _ _ _ a b=>exact .vptr _ _ _ _ a b
 | nilp=>exact .nilp
 | nilf=>exact .nilf
 | nile=>exact .nile
 | nilm=>exact .nilm
 | agg _ _ a b=>exact .agg _ _ a b
 | tup _ _ a b=>exact .tup _ _ a b
 | fn _ _ _ a b=>exact .fn _ _ _ a b
 | mref _ _ a=>exact .mref _ _ a
 | vec _ _ _ _ _ _ a b c d e f h=>exact .vec _ _ _ _ _ _ a b c d e f h
theorem qgR {x:AV} {v:Value} (h:V w g x v):V w g (lV x) v:=by
 by_cases hx:∃ cs,x=.agg cs
 ·obtain ⟨cs,rfl⟩:=hx
  cases h with
  | agg cs vs hl hv=>
   refine .agg _ _ (by simp[hl]) fun j hj=>?_;have gJ:j < cs.length:=by simpa using hj
   have:=Sx (hv j gJ);have e:(cs.map qh).getD j .any=qh (cs.getD j .any):=by simp[aS,gJ]
   rw[e];exact this
 ·have e:lV x=qh x:=by cases x<;>first | rfl | exact absurd ⟨_,rfl⟩ hx
  rw[e];exact Sx h
theorem Mn {sh:Sh}:∀ {es:List AV},(∀ e∈es,c9 sh e=true)->∀ x∈cW es,di x=true
 | [],_,x,hx=>by simp at hx
 | e::es,h,x,hx=>by
  simp only[pT,il] at hx
  rcases hx with hx | hx
  ·have hs:=h e (by simp)
   cases sh with
   | none=>
    have ha:di e=true:=hs
    have hc:e.cells=[e]:=by cases e<;>first | rfl | (simp[di] at ha)
    rw[hc] at hx;simp at hx;rw[hx];exact ha
   | some n=>
    cases e<;>first | (simp[c9] at hs;done) | skip
    simp[c9] at hs;exact hs.2 x (by simpa [AV.cells] using hx)
  ·exact Mn (fun y hy=>h y (by simp[hy])) x hx
theorem C1 {sh:Sh} {o:Own} {es:List AV} {a:Addr} {n cap:Nat} (h:V w g (.lst sh false o es) (.slice (some a) n cap)) :
  ∃ vs:List Value,n=es.length/\vs.length=es.length * sh.size/\(∀ j u,vs[j]?=some u->w.cell? (a.add j)=some u)/\(∀ u∈vs,u.oneCell'=true) /\
   (∀ j,j < vs.length->V w g ((cW es).getD j .any) (vs.getD j undef))/\(cap=0\/a=⟨a.block,a.off,none⟩)/\n<=cap/\cap<=maxLen/\(∀ e∈es,c9 sh e=true/\pl e=true)/\Bx w g sh o es.length a cap /\
   (∀ j,j < vs.length->¬ g.wr a.block (a.off+j)/\¬ g.box a.block):=by
 cases h with
 | lst _ _ es a cap us hs hc hm hsh hcell hv ho=>
  have hall:∀ e∈es,c9 sh e=true:=fun e he=>(hsh e he).1;have hfl:=sk hall;have ha:cap=0\/a=⟨a.block,a.off,none⟩:=hs.imp id fun h=>by cases a;simp_all
  refine ⟨(List.range (es.length * sh.size)).map us,rfl,by simp,fun j u hu=>?_,fun u hu=>?_,fun j hj=>?_,ha,hc,hm,hsh,ho,fun j hj=>?_⟩
  ·have hj:j < es.length * sh.size:=by
    rcases qW j (es.length * sh.size) with hl | hl
    ·exact hl
    ·rw[n5 (by simpa using hl)] at hu;cases hu
   simp[hj] at hu
   have ha:=ha.resolve_left (fun h0=>by
    have:es.length=0:=by omega
    rw[this,xN] at hj
    omega)
   rw[ha,mU,<- hu];exact (hcell j (by omega)).1
  ·obtain ⟨j,hj,rfl⟩:=jf.1 hu;have gJ:j < (cW es).length:=by rw[hfl];simpa using hj
   have h1:=hv j gJ;have h2:=Mn hall (cW es)[j] (bS gJ);have:(cW es).getD j .any=(cW es)[j]:=by rw[aS,bD gJ];rfl
   rw[this] at h1;exact (C0 h1 h2).1
  ·have gJ:j < es.length * sh.size:=by simpa using hj
   have:=hv j (by omega);simpa [aS,gJ] using this
  ·have gJ:j < es.length * sh.size:=by simpa using hj
   exact (hcell j (by omega)).2
theorem Hh {sh:Sh} {o:Own} {es:List AV} {b cap:Nat} {c:Array Value} {e:TypeId} (hb:w.heap[b]?=some (Obj.cells c e (0,0))) (hc:es.length<=cap) (hm:cap<=maxLen) (hsh:∀ e∈es,c9 sh e=true/\pl e=true)
  (hsz:es.length * sh.size<=c.size) (hv:∀ j,j < es.length * sh.size->V w g ((cW es).getD j .any) (c.getD j undef)) (rD:∀ j,j < es.length * sh.size->¬ g.wr b j) (hbx:¬ g.box b) (ho:Bx w g sh o es.length ⟨b,0,none⟩ cap) :
  V w g (.lst sh false o es) (.slice (some ⟨b,0,none⟩) es.length cap):=by
 have hfl:=sk (fun e he=>(hsh e he).1:∀ e∈es,c9 sh e=true);refine .lst sh o es ⟨b,0,none⟩ cap (fun j=>c.getD j undef) (.inr rfl) hc hm hsh (fun j hj=>?_) (fun j hj=>hv j (by omega)) ho;rw[hfl] at hj;refine ⟨?_,by simpa using rD j hj,hbx⟩;simp only[bp];rw[cell_of_row w b j c e (0,0) hb];simp[Array.getD,show j < c.size by omega]
theorem HK (xs ys:List AV):cW (xs++ys)=cW xs++cW ys:=by simp[cW]
theorem MemR.regrow (hm:MemR B w g m) (hB:B<=w.heap.size) (c:Array Value) (e:TypeId) {nm k n sz:Nat} (hn:m.get nm=some (.tok k sz)) (hk:k < n) :
  Step B w g (w.alloc (.cells c e)) (iV g nm w.heap.size n sz)/\MemR B (w.alloc (.cells c e)) (iV g nm w.heap.size n sz) (m.set nm (some (.tok n sz))):=by
 obtain ⟨b0,c0,e0,t1,t2,t3,t4,t5,t6⟩:=hm.tok nm k sz hn;have hlt:=bF hn
 have s:Step B w g (w.alloc (.cells c e)) (iV g nm w.heap.size n sz):=by
  refine Step.alloc hB _ (fun b off hb=>?_) (fun b hb=>Iff.rfl) (fun nm b hb=>hb) (fun nm' n' b hb=>?_)
  ·simp only[iV];constructor
   ·rintro (⟨rfl,_⟩ | h)<;>first | omega | exact h
   ·exact .inr
  ·simp only[iV]
   split
   ·rename_i he;rw[he.1,he.2,t5 n hk] at hb;cases hb
   ·exact hb
 have hblk:∀ x b,ba (iV g nm w.heap.size n sz) (m.set nm (some (.tok n sz))) x=some b->(x≠nm/\ba g m x=some b)\/(x=nm/\b=w.heap.size):=by
  intro x b hb
  rcases pW hb with ⟨bx',cs',h1,h2⟩ | ⟨n',sz',h1,h2⟩ | ⟨kk,es,h1,h2⟩
  ·rw[gF] at h1
   split at h1
   ·simp at h1
   ·rename_i hne;exact .inl ⟨hne,by simp only[iV] at h2;simp[ba,h1,h2]⟩
  rotate_left
  ·rw[gF] at h1
   split at h1
   ·simp at h1
   ·rename_i hne;exact .inl ⟨hne,by simp only[iV] at h2;simp[ba,h1,h2]⟩
  ·rw[gF] at h1
   split at h1
   ·rename_i he;simp at h1;simp only[iV,an (show x=nm/\n'=n from ⟨he,h1.1.symm⟩)] at h2;exact .inr ⟨he,by simpa using h2.symm⟩
   ·rename_i hne;simp only[iV,ai (show ¬ (x=nm/\n'=n) from fun h=>hne h.1)] at h2;exact .inl ⟨hne,by simp[ba,h1,h2]⟩
 refine ⟨s,?_,?_,?_,?_,?_,?_,?_,?_,?mp⟩
 case mp=>
  intro x kk es hx;rw[gF] at hx
  split at hx
  ·simp at hx
  ·obtain ⟨b,es',cl,h1,h2,h3,h4⟩:=hm.mp x kk es hx;exact ⟨b,es',cl,h1,h2,(Go.heap_alloc_old w _ (fF.1 h3).1).trans h3,h4.step s⟩
 ·intro x bx' cs' hx;rw[gF] at hx
  split at hx
  ·simp at hx
  ·obtain ⟨b,c',e',h1,h2,h3,h4,h5,h6,h7⟩:=hm.obj x bx' cs' hx;exact ⟨b,c',e',s.loc _ _ h1,h2,(Go.heap_alloc_old w _ (fF.1 h3).1).trans h3,h4,fun j hj=>(h5 j hj).step s,fun off=>.inr (h6 off),(s.box b (fF.1 h3).1).trans h7⟩
 ·intro x n' sz' hx;rw[gF] at hx
  split at hx
  ·rename_i he;simp at hx;obtain ⟨rfl,rfl⟩:=hx;subst he;refine ⟨w.heap.size,c,e,by simp[iV],hB,heap_alloc_new w _,fun off ho=>.inl ⟨rfl,ho⟩,fun n'' wJ=>?_,fun hb=>vS _ (hm.boxLt _ hb)⟩;simp only[iV];rw[ai (by omega)];exact t5 n'' (by omega)
  ·rename_i hne;obtain ⟨b,c',e',h1,h2,h3,h4,h5,h6⟩:=hm.tok x n' sz' hx;refine ⟨b,c',e',s.tloc _ _ _ h1,h2,(Go.heap_alloc_old w _ (fF.1 h3).1).trans h3,fun off ho=>.inr (h4 off ho),fun n'' wJ=>?_,h6⟩;simp only[iV];rw[ai (fun h=>hne h.1)];exact h5 n'' wJ
 ·intro x hx;rw[gF] at hx
  split at hx
  ·simp at hx
  ·rename_i hne;have:=hm.resv x hx;exact ⟨this.1,fun n'=>by simp only[iV];rw[ai (fun h=>hne h.1)];exact this.2 n'⟩
 ·intro x hx;have:=hm.fresh x (by simpa using hx);have rE:m.length<=x:=by simpa using hx
  exact ⟨this.1,fun n'=>by simp only[iV];rw[ai (fun h=>by have:=h.1;omega)];exact this.2 n'⟩
 ·intro x x' b h1 h2
  rcases hblk _ _ h1 with ⟨a1,a2⟩ | ⟨a1,a2⟩<;>rcases hblk _ _ h2 with ⟨b1,b2⟩ | ⟨b1,b2⟩
  ·exact hm.inj _ _ _ a2 b2
  ·have:=(hm.blk_lt a2).2;omega
  ·have:=(hm.blk_lt b2).2;omega
  ·omega
 ·rintro b off (⟨rfl,_⟩ | hw)
  ·simp
  ·have:=hm.wrLt b off hw;simp;omega
 ·exact hm.invS s
 ·intro b hw;have:=hm.boxLt b hw;simp;omega
theorem MemR.drew (hm:MemR B w g m):MemR B w.drew g m:=hm.keep (Step.drew B w g) (fun _ _ _=>rfl) (fun _ _ h=>h) rfl rfl hm.wrLt hm.boxLt
theorem UG (hm:MemR B w g m) (hB:B<=w.heap.size) {d:Option Nat} (hd:∀ s,d=some s->m.get s=some .resv) {e:Nat} {sh:Sh} {es ys:List AV} {olds news:List Value} {rest:Array Value} {cap:Nat} (gY:olds.length=es.length * sh.size) (rB:news.length=ys.length * sh.size)
  (hes:∀ e∈es,c9 sh e=true/\pl e=true) (p9:∀ e∈ys,c9 sh e=true/\pl e=true)
  (tT:∀ j,j < olds.length->V w g ((cW es).getD j .any) (olds.getD j undef)) (sO:∀ j,j < news.length->V w g ((cW ys).getD j .any) (news.getD j undef)) (hcap:es.length+ys.length<=cap) (H5:cap<=maxLen)
  (qmf:rest.size=(cap - (es.length+ys.length)) * sh.size) :
  (∃ g',Step B w g (w.drew.alloc (.cells (olds.toArray++news.toArray++rest) e)) g'/\MemR B (w.drew.alloc (.cells (olds.toArray++news.toArray++rest) e)) g' (az d m (.tok (es.length+ys.length) sh.size)).2/\V (w.drew.alloc (.cells (olds.toArray++news.toArray++rest) e)) g' (.lst sh false (.tok (az d m .resv).1 e) (es++ys)) (.slice (some ⟨w.heap.size,0,none⟩) (es.length+ys.length) cap)) /\
  (∃ g',Step B w g (w.drew.alloc (.cells (olds.toArray++news.toArray++rest) e)) g'/\MemR B (w.drew.alloc (.cells (olds.toArray++news.toArray++rest) e)) g' (az d m (.obj false (cW (es++ys)))).2/\V (w.drew.alloc (.cells (olds.toArray++news.toArray++rest) e)) g' (.arr (az d m .resv).1 0 (es.length+ys.length) sh) (.slice (some ⟨w.heap.size,0,none⟩) (es.length+ys.length) cap)) /\
  (∀ nm k,m.get nm=some (.tok k sh.size)->k < es.length+ys.length->∃ g',Step B w g (w.drew.alloc (.cells (olds.toArray++news.toArray++rest) e)) g'/\MemR B (w.drew.alloc (.cells (olds.toArray++news.toArray++rest) e)) g' (m.set nm (some (.tok (es.length+ys.length) sh.size)))/\V (w.drew.alloc (.cells (olds.toArray++news.toArray++rest) e)) g' (.lst sh false (.tok nm e) (es++ys)) (.slice (some ⟨w.heap.size,0,none⟩) (es.length+ys.length) cap)):=by
 have lQ:=hm.drew;have s1:=Step.drew B w g;have yn:B<=w.drew.heap.size:=hB;have yx:=sk (fun e he=>(hes e he).1:∀ e∈es,c9 sh e=true);have Vb:=sk (fun e he=>(p9 e he).1:∀ e∈ys,c9 sh e=true);have hmul:(es.length+ys.length) * sh.size=es.length * sh.size+ys.length * sh.size:=gO _ _ _
 have hall:∀ e∈es++ys,c9 sh e=true/\pl e=true:=fun e he=>by
  rcases il.1 he with h | h
  ·exact hes e h
  ·exact p9 e h
 have hlen:(es++ys).length=es.length+ys.length:=by simp
 have hcell:∀ j,j < (es.length+ys.length) * sh.size->V w g ((cW (es++ys)).getD j .any) ((olds.toArray++news.toArray++rest).getD j undef):=by
  intro j hj;rw[HK];simp only[aS,jE,qn,Array.getElem?_append,zE,List.size_toArray,Af,yx,gY,rB]
  by_cases h1:j < es.length * sh.size
  ·rw[an h1,an (by omega),an h1];simpa [aS] using tT j (by omega)
  ·rw[ai h1,an (by omega),ai h1];simpa [aS] using sO (j - es.length * sh.size) (by omega)
 have gV:(olds.toArray++news.toArray++rest).size=cap * sh.size:=by
  have:cap * sh.size=(es.length+ys.length) * sh.size+(cap - (es.length+ys.length)) * sh.size:=by
   rw[<- gO];congr 1;omega
  simp only[zE,List.size_toArray];omega
 have tP:(w.drew.alloc (.cells (olds.toArray++news.toArray++rest) e)).heap[w.heap.size]?=some (Obj.cells (olds.toArray++news.toArray++rest) e (0,0)):=heap_alloc_new w.drew _;have Bf:(es.length+ys.length) * sh.size<=(olds.toArray++news.toArray++rest).size:=by rw[gV];exact iM _ hcap
 have ql2:∀ off,¬ g.wr w.heap.size off:=fun off h=>by have:=hm.wrLt _ _ h;omega
 have qlU:¬ g.box w.heap.size:=fun h=>by have:=hm.boxLt _ h;omega
 have tokV:∀ nm g',Step B w g (w.drew.alloc (.cells (olds.toArray++news.toArray++rest) e)) g'->g'=iV g nm w.heap.size (es.length+ys.length) sh.size ->
   V (w.drew.alloc (.cells (olds.toArray++news.toArray++rest) e)) g' (.lst sh false (.tok nm e) (es++ys)) (.slice (some ⟨w.heap.size,0,none⟩) (es.length+ys.length) cap):=by
  rintro nm g' gK rfl
  have:=Hh (o:=.tok nm e) (es:=es++ys) (cap:=cap) (g:=iV g nm w.heap.size (es.length+ys.length) sh.size) tP (by rw[hlen];exact hcap) H5 hall (by rw[hlen];exact Bf) (fun j hj=>(hcell j (by rw[hlen] at hj;exact hj)).step gK)
   (fun j hj=>by
    rw[hlen] at hj
    rintro (⟨_,h⟩ | h)
    ·omega
    ·exact ql2 _ h) qlU ⟨by simp[iV],rfl,_,tP,gV⟩
  rw[hlen] at this;exact this
 refine ⟨?_,?_,?_⟩
 ·obtain ⟨s2,fU⟩:=lQ.alloc_tok yn (olds.toArray++news.toArray++rest) e (es.length+ys.length) sh.size (lQ.slot hd _);exact ⟨_,s1.trans s2,fU,tokV _ _ (s1.trans s2) rfl⟩
 ·obtain ⟨s2,fU⟩:=lQ.alloc_obj yn (olds.toArray++news.toArray++rest) e (cW (es++ys)) (by rw[HK,aI,yx,Vb,<- hmul];exact Bf) (fun j hj=>by
   rw[HK,aI,yx,Vb,<- hmul] at hj
   exact (hcell j hj).step s1) false (lQ.slot hd _)
  exact ⟨_,s1.trans s2,fU,(.arr _ _ _ _ _ _ (.inr rfl) hcap H5 (.inr ⟨by simp[gL],rfl,_,_,tP,by rw[gV,bp];exact aQ _⟩))⟩
 ·intro nm k hn hk;obtain ⟨s2,fU⟩:=lQ.regrow yn (olds.toArray++news.toArray++rest) e (n:=es.length+ys.length) hn hk;exact ⟨_,s1.trans s2,fU,tokV _ _ (s1.trans s2) rfl⟩
theorem MemR.inplace (hm:MemR B w g m) {nm b k n:Nat} {sh:Sh} {c c':Array Value} {e:TypeId} (hn:m.get nm=some (.tok k sh.size)) (hl:g.tloc nm k=some b) (hb:w.heap[b]?=some (Obj.cells c e (0,0))) (hk:k < n) (hsz:c'.size=c.size)
  (Nz:∀ j,j < k * sh.size->c'[j]?=c[j]?) :
  ∃ g',Step B w g (w.setRow b c') g'/\MemR B (w.setRow b c') g' (m.set nm (some (.tok n sh.size)))/\g'.tloc nm n=some b/\(∀ off,off < n * sh.size->¬ g'.wr b off)/\¬ g'.box b:=by
 obtain ⟨b0,c0,e0,t1,t2,t3,t4,t5,t6⟩:=hm.tok nm k sh.size hn;obtain rfl:b=b0:=by simpa [hl] using t1
 have hlt:=bF hn;have mb:∀ x,x≠b->(w.setRow b c').heap[x]?=w.heap[x]?:=fun x hx=>setRow_other w b x c' hx;have Be:(w.setRow b c').heap[b]?=some (Obj.cells c' e (0,0)):=setRow_heap w b c c' e _ hb;have wR:(w.setRow b c').heap.size=w.heap.size:=by simp
 let g':G:={ wr:=fun b' off=>g.wr b' off/\¬ (b'=b/\off < n * sh.size),box:=g.box,loc:=g.loc,tloc:=fun nm' n'=>if nm'=nm/\n'=n then some b else g.tloc nm' n' }
 have gy:∀ x n' b',g.tloc x n'=some b'->g'.tloc x n'=some b':=fun x n' b' hx=>by
  show (if x=nm/\n'=n then some b else g.tloc x n')=some b'
  split
  ·rename_i he;rw[he.1,he.2,t5 n hk] at hx;cases hx
  ·exact hx
 have s:Step B w g (w.setRow b c') g':=by
  refine ⟨⟨rfl,rfl,rfl,by omega,fun x hx=>mb x (by omega)⟩,fun b' off u hw hc=>?_,fun b' c1 e1 fr iy=>?_,fun b' off _ hn hw=>hn hw.1,fun b' off iy=>?_,fun _ _=>Iff.rfl,fun _ _ h=>h,gy⟩
  ·by_cases he:b'=b
   ·subst he;have ql3:off < k * sh.size:=Nat.lt_of_not_le fun hle=>hw (t4 off hle);rw[cell_of_row w b' off c e (0,0) hb] at hc;rw[cell_of_row _ b' off c' e (0,0) Be,Nz off ql3];exact hc
   ·exact (World.cell?_of_block (w:=w) (a:=⟨b',off,none⟩) (mb b' he)).trans hc
  ·by_cases he:b'=b
   ·subst he;rw[hb] at iy;simp only[bM,Obj.cells.injEq] at iy;obtain ⟨rfl,rfl,rfl⟩:=iy;exact ⟨c',Be,hsz⟩
   ·exact ⟨c1,(mb b' he).trans iy,rfl⟩
  ·exact ⟨fun h=>h.1,fun h=>⟨h,fun h2=>by omega⟩⟩
 have su:ba g m nm=some b:=by simp[ba,hn,hl]
 have hblk:∀ x b',ba g' (m.set nm (some (.tok n sh.size))) x=some b'->ba g m x=some b':=by
  intro x b' hx
  rcases pW hx with ⟨bx',cs',h1,h2⟩ | ⟨n',sz',h1,h2⟩ | ⟨kk,es,h1,h2⟩
  ·rw[gF] at h1
   split at h1
   ·simp at h1
   ·have im:g.loc x=some b':=h2;simp[ba,h1,im]
  rotate_left
  ·rw[gF] at h1
   split at h1
   ·simp at h1
   ·have im:g.loc x=some b':=h2;simp[ba,h1,im]
  ·rw[gF] at h1
   split at h1
   ·rename_i he;simp at h1
    have im:(if x=nm/\n'=n then some b else g.tloc x n')=some b':=h2
    rw[an ⟨he,h1.1.symm⟩] at im;simp at im;subst im;subst he;exact su
   ·rename_i hne
    have im:(if x=nm/\n'=n then some b else g.tloc x n')=some b':=h2
    rw[ai (fun h=>hne h.1)] at im;simp[ba,h1,im]
 refine ⟨g',s,⟨?_,?_,?_,?_,?_,?_,?_,?_,?mp⟩,?_,?_,t6⟩
 case mp=>
  intro x kk es hx;rw[gF] at hx
  split at hx
  ·simp at hx
  ·obtain ⟨b1,es1,cl1,a1,a2,a3,a4⟩:=hm.mp x kk es hx;have lN:b1≠b:=fun he=>by rw[he,hb] at a3;cases a3
   exact ⟨b1,es1,cl1,a1,a2,(mb b1 lN).trans a3,a4.step s⟩
 ·intro x bx' cs' hx;rw[gF] at hx
  split at hx
  ·simp at hx
  ·rename_i hne;obtain ⟨b1,c1,e1,a1,a2,a3,a4,a5,a6,a7⟩:=hm.obj x bx' cs' hx;have lN:b1≠b:=fun he=>hne (hm.inj x nm b (by simp[ba,hx,a1,he]) su);exact ⟨b1,c1,e1,a1,a2,(mb b1 lN).trans a3,a4,fun j hj=>(a5 j hj).step s,fun off=>⟨a6 off,fun h=>lN h.1⟩,a7⟩
 ·intro x n' sz' hx;rw[gF] at hx
  split at hx
  ·rename_i he;simp at hx;obtain ⟨rfl,rfl⟩:=hx;subst he
   refine ⟨b,c',e,?_,t2,Be,fun off ho=>⟨t4 off ?_,fun h=>by omega⟩,fun n'' wJ=>?_,t6⟩
   ·show (if x=x/\n=n then some b else _)=_;simp
   ·exact dY (iM _ (by omega)) ho
   ·show (if x=x/\n''=n then some b else g.tloc x n'')=none
    rw[ai (by omega)];exact t5 n'' (by omega)
  ·rename_i hne;obtain ⟨b1,c1,e1,a1,a2,a3,a4,a5,a6⟩:=hm.tok x n' sz' hx;have lN:b1≠b:=fun he=>hne (hm.inj x nm b (by simp[ba,hx,a1,he]) su);refine ⟨b1,c1,e1,gy _ _ _ a1,a2,(mb b1 lN).trans a3,fun off ho=>⟨a4 off ho,fun h=>lN h.1⟩,fun n'' wJ=>?_,a6⟩
   show (if x=nm/\n''=n then some b else g.tloc x n'')=none
   rw[ai (fun h=>hne h.1)];exact a5 n'' wJ
 ·intro x hx;rw[gF] at hx
  split at hx
  ·simp at hx
  ·rename_i hne;have:=hm.resv x hx;refine ⟨this.1,fun n'=>?_⟩
   show (if x=nm/\n'=n then some b else g.tloc x n')=none
   rw[ai (fun h=>hne h.1)];exact this.2 n'
 ·intro x hx;have rE:m.length<=x:=by simpa using hx
  have:=hm.fresh x rE;refine ⟨this.1,fun n'=>?_⟩
  show (if x=nm/\n'=n then some b else g.tloc x n')=none
  rw[ai (fun h=>by have:=h.1;omega)];exact this.2 n'
 ·intro x x' b' h1 h2;exact hm.inj x x' b' (hblk x b' h1) (hblk x' b' h2)
 ·intro b' off hw;rw[wR];exact hm.wrLt b' off hw.1
 ·exact hm.invS s
 ·intro b' hw;rw[wR];exact hm.boxLt b' hw
 ·show (if nm=nm/\n=n then some b else _)=_;simp
 ·intro off ho h;exact h.2 ⟨rfl,ho⟩
def vF (g:G) (nm b:Nat):G where
 wr:=g.wr
 box:=g.box
 loc n:=if n=nm then some b else g.loc n
 tloc:=g.tloc
theorem MemR.rename (hm:MemR B w g m) {nm b:Nat} {bx:Bool} {cs:List AV} (hn:m.get nm=some (.obj bx cs)) (hl:g.loc nm=some b):Step B w g w (vF g m.length b)/\MemR B w (vF g m.length b) (m.set nm none++[some (.obj bx cs)]):=by
 have hlt:=bF hn;have nF:=hm.fresh m.length (aQ _)
 have jA:∀ x b',g.loc x=some b'->(vF g m.length b).loc x=some b':=fun x b' hx=>by
  show (if x=m.length then some b else g.loc x)=some b'
  split
  ·rename_i he;rw[he,nF.1] at hx;cases hx
  ·exact hx
 have s:Step B w g w (vF g m.length b):=⟨Below.refl _ _,fun _ _ _ _ h=>h,fun _ c _ _ h=>⟨c,h,rfl⟩,fun _ _ _ h=>h,fun _ _ _=>Iff.rfl,fun _ _=>Iff.rfl,jA,fun _ _ _ h=>h⟩
 have aU:∀ x,af.get (m.set nm none++[some (.obj bx cs)]) x=if x=m.length then some (.obj bx cs) else if x=nm then none else m.get x:=by
  intro x;rw[Mx,a8]
  by_cases h1:x < m.length
  ·rw[an h1,ai (by omega),gF,an hlt]
  ·rw[ai h1]
   by_cases h2:x=m.length
   ·rw[an h2,an h2]
   ·rw[ai h2,ai h2,ai (by omega)];unfold af.get;rw[n5 (by omega)];rfl
 have su:ba g m nm=some b:=by simp[ba,hn,hl]
 have hblk:∀ x b',ba (vF g m.length b) (m.set nm none++[some (.obj bx cs)]) x=some b'->(x=m.length/\b'=b)\/(x≠nm/\x≠m.length/\ba g m x=some b'):=by
  intro x b' hx
  by_cases h1:x=m.length
  ·unfold ba at hx;rw[aU,an h1] at hx;simp only[vF,an h1,bM] at hx;exact .inl ⟨h1,hx.symm⟩
  ·unfold ba at hx;rw[aU,ai h1] at hx
   by_cases h2:x=nm
   ·rw[an h2] at hx;simp at hx
   ·rw[ai h2] at hx;refine .inr ⟨h2,h1,?_⟩;unfold ba;simp only[vF,ai h1] at hx;exact hx
 refine ⟨s,?_,?_,?_,?_,?_,hm.wrLt,hm.invS s,hm.boxLt,?_⟩
 ·intro x bx' cs' hx;rw[aU] at hx
  split at hx
  ·rename_i he;simp only[bM,Ent.obj.injEq] at hx;obtain ⟨rfl,rfl⟩:=hx;obtain ⟨b1,c1,e1,a1,a2,a3,a4,a5,a6,a7⟩:=hm.obj nm bx cs hn;obtain rfl:b=b1:=by simpa [hl] using a1
   exact ⟨b,c1,e1,by simp[vF,he],a2,a3,a4,fun j hj=>(a5 j hj).step s,a6,a7⟩
  ·split at hx
   ·cases hx
   ·obtain ⟨b1,c1,e1,a1,a2,a3,a4,a5,a6,a7⟩:=hm.obj x bx' cs' hx;exact ⟨b1,c1,e1,jA _ _ a1,a2,a3,a4,fun j hj=>(a5 j hj).step s,a6,a7⟩
 ·intro x n sz hx;rw[aU] at hx
  split at hx
  ·cases hx
  ·split at hx
   ·cases hx
   ·exact hm.tok x n sz hx
 ·intro x hx;rw[aU] at hx
  split at hx
  ·cases hx
  ·split at hx
   ·cases hx
   ·rename_i h1 h2;have:=hm.resv x hx
    exact ⟨by show (if x=m.length then some b else g.loc x)=none;rw[ai h1];exact this.1,this.2⟩
 ·intro x hx;simp only[aI,a8,tn] at hx;have:=hm.fresh x (by omega)
  exact ⟨by show (if x=m.length then some b else g.loc x)=none;rw[ai (by omega)];exact this.1,this.2⟩
 ·intro x x' b' h1 h2
  rcases hblk x b' h1 with ⟨a1,a2⟩ | ⟨a1,a2,a3⟩<;>rcases hblk x' b' h2 with ⟨b1,b2⟩ | ⟨b1,b2,b3⟩
  ·omega
  ·subst a2;exact absurd (hm.inj _ _ _ b3 su) b1
  ·subst b2;exact absurd (hm.inj _ _ _ a3 su) a1
  ·exact hm.inj _ _ _ a3 b3
 ·intro x kk es hx;rw[aU] at hx
  split at hx
  ·cases hx
  ·split at hx
   ·cases hx
   ·obtain ⟨b1,es1,cl1,a1,a2,a3,a4⟩:=hm.mp x kk es hx;exact ⟨b1,es1,cl1,jA _ _ a1,a2,a3,a4.step s⟩
theorem MemR.lose (hm:MemR B w g m) (nm:Nat):MemR B w g (m.set nm none):=by
 have aU:∀ x e,af.get (m.set nm none) x=some e->m.get x=some e:=by
  intro x e hx;rw[gF] at hx
  split at hx
  ·simp at hx
  ·exact hx
 have hblk:∀ x b,ba g (m.set nm none) x=some b->ba g m x=some b:=by
  intro x b hx
  rcases pW hx with ⟨bx,cs,h1,h2⟩ | ⟨n,sz,h1,h2⟩ | ⟨kk,es,h1,h2⟩
  ·have:=aU _ _ h1;simp[ba,this,h2]
  ·have:=aU _ _ h1;simp[ba,this,h2]
  ·have:=aU _ _ h1;simp[ba,this,h2]
 exact ⟨fun x bx cs hx=>hm.obj x bx cs (aU _ _ hx),fun x n sz hx=>hm.tok x n sz (aU _ _ hx),fun x hx=>hm.resv x (aU _ _ hx),fun x hx=>hm.fresh x (by simpa using hx),fun x x' b h1 h2=>hm.inj x x' b (hblk _ _ h1) (hblk _ _ h2),hm.wrLt,hm.inv,hm.boxLt,fun x kk es hx=>hm.mp x kk es (aU _ _ hx)⟩
theorem qoI {P:Program} (w:World) (t ty e e0:TypeId) (i:TypeInfo) (ht:P.underlying t=some (.slice e)) (hi:P.info? e=some i)
  (g sLen sCap:Nat) (cur:Array Value) (hg:w.heap[g]?=some (.cells cur e0 (0,0)))
  (a:Addr) (m c:Nat) (news:List Value) (hl:news.length=m * i.size) (sI:∀ j u,news[j]?=some u->w.cell? (a.add j)=some u) (h1:∀ u∈news,u.oneCell'=true)
  (sL:sLen+m<=sCap) (tI:sLen * i.size+news.length<=cur.size) :
  (Builtin.append_ #[t,t] ty #[.slice (some ⟨g,0,none⟩) sLen sCap,.slice (some a) m c]).run P w =
   .ok (.slice (some ⟨g,0,none⟩) (sLen+m) sCap) (w.setRow g (cur.toList.take (sLen * i.size)++news++cur.toList.drop (sLen * i.size+news.length)).toArray):=by
 have hf:=run_firstCells_some (P:=P) w i.size m a m c news hl sI;have gK:=run_storeCells_at P g (sLen * i.size) e0 news 0 cur w hg (by simpa using tI) h1;simp only[jF] at gK;simp[Builtin.append_,run_underlying ht,sizeOf,typeInfo,hi,Builtin.lenOf,sL,hf,Addr.add_lit,gK]
theorem qoG (hm:MemR B w g m) {sh:Sh} {y:AV} {y':Value} {n:Nat} {cs:List AV} (hy:V w g y y') (h:w9 m sh y=some (n,cs)) :
  ∃ (a:Addr) (cap:Nat) (vs:List Value),y'=.slice (some a) n cap/\0 < n/\vs.length=n * sh.size/\cs.length=n * sh.size/\(∀ j u,vs[j]?=some u->w.cell? (a.add j)=some u)/\(∀ u∈vs,u.oneCell'=true)/\(∀ j,j < vs.length->V w g (cs.getD j .any) (vs.getD j undef)):=by
 unfold w9 at h
 split at h
 ·rename_i shy z o ys
  split at h
  ·rename_i hc;obtain ⟨rfl,iO⟩:=hc;simp only[bM,dT] at h;obtain ⟨rfl,rfl⟩:=h
   have hz:z=false/\∃ a n cap,y'=.slice (some a) n cap:=by
    cases hy with
    | nils=>simp at iO
    | lst=>exact ⟨rfl,_,_,_,rfl⟩
   obtain ⟨rfl,a,n,cap,rfl⟩:=hz;obtain ⟨vs,rfl,h2,h3,h4,h5,_,_,_,h6,_,_⟩:=C1 hy;exact ⟨a,cap,vs,rfl,iO,h2,sk (fun e he=>(h6 e he).1),h3,h4,h5⟩
  ·cases h
 ·rename_i nm off n1 shy;obtain ⟨⟨bx,os⟩,ho,h⟩:=bc.1 h;simp only at h
  split at h
  ·rename_i hc;obtain ⟨rfl,iO,hle,iT⟩:=hc;simp only[bM,dT] at h;obtain ⟨rfl,rfl⟩:=h;obtain ⟨b,c,e,o1,o2,o3,o4,o5,o6,o7⟩:=hm.obj nm bx os (obj?_get ho)
   cases hy with
   | arr _ _ _ _ a cap hs hc hmx hl=>
    obtain ⟨l1,l2,_⟩:=hl.resolve_left (by omega);obtain rfl:b=a.block:=by simpa [o1] using l1
    have hcl:((os.drop off).take (n1 * shy.size)).length=n1 * shy.size:=by simp;omega
    have jz:∀ j,j < n1 * shy.size->((os.drop off).take (n1 * shy.size)).getD j .any=os.getD (off+j) .any:=fun j hj=>by
     simp[aS,qo,rU,hj]
    refine ⟨a,cap,(List.range (n1 * shy.size)).map fun j=>c.getD (off+j) undef,rfl,iO,by simp,hcl,fun j u hu=>?_,fun u hu=>?_,fun j hj=>?_⟩
    ·have hj:j < n1 * shy.size:=by
      rcases qW j (n1 * shy.size) with hl | hl
      ·exact hl
      ·rw[n5 (by simpa using hl)] at hu;cases hu
     simp[hj] at hu;rw[l2,mU,cell_of_row w _ _ c e (0,0) o3,<- hu];simp[Array.getD,show off+j < c.size by omega]
    ·obtain ⟨j,hj,rfl⟩:=jf.1 hu;have gJ:j < n1 * shy.size:=by simpa using hj
     have h1:=o5 (off+j) (by omega);rw[<- jz j gJ] at h1;have A0:j < ((os.drop off).take (n1 * shy.size)).length:=by omega
     have e1:((os.drop off).take (n1 * shy.size)).getD j .any=((os.drop off).take (n1 * shy.size))[j]:=by rw[aS,bD A0];rfl
     rw[e1] at h1;exact (C0 h1 (ga.1 iT _ (bS A0))).1
    ·have gJ:j < n1 * shy.size:=by simpa using hj
     rw[jz j gJ];have:=o5 (off+j) (by omega);simpa [aS,gJ] using this
  ·cases h
 ·rename_i n1 shy cs1
  split at h
  ·rename_i hc;obtain ⟨rfl,iO,hle⟩:=hc;simp only[bM,dT] at h;obtain ⟨rfl,rfl⟩:=h
   cases hy with
   | vec _ _ _ a cap us hs hc hmx hn iT hcell hv=>
    have HU:cap≠0:=by omega
    have ha:a=⟨a.block,a.off,none⟩:=by
     have:=hs.resolve_left HU;cases a;simp_all
    refine ⟨a,cap,(List.range cs1.length).map us,rfl,iO,by simpa using hle,hle,fun j u hu=>?_,fun u hu=>?_,fun j hj=>?_⟩
    ·have hj:j < cs1.length:=by
      rcases qW j cs1.length with hl | hl
      ·exact hl
      ·rw[n5 (by simpa using hl)] at hu;cases hu
     simp[hj] at hu;rw[ha,mU,<- hu];exact (hcell j hj).1
    ·obtain ⟨j,hj,rfl⟩:=jf.1 hu;have gJ:j < cs1.length:=by simpa using hj
     have h1:=hv j gJ;have e:cs1.getD j .any=cs1[j]:=by rw[aS,bD gJ];rfl
     rw[e] at h1;exact (C0 h1 (iT _ (bS gJ))).1
    ·have gJ:j < cs1.length:=by simpa using hj
     have:=hv j gJ;simpa [aS,gJ] using this
  ·cases h
 ·cases h
theorem UF (hm:MemR B w g m) (hB:B<=w.heap.size) {e k n:Nat} {sh:Sh} {xcs ycs:List AV} {olds news:List Value} {rest:Array Value} {cap:Nat} (gY:olds.length=k * sh.size) (rB:news.length=n * sh.size) (rE:xcs.length=k * sh.size) (yP:ycs.length=n * sh.size)
  (tT:∀ j,j < olds.length->V w g (xcs.getD j .any) (olds.getD j undef)) (sO:∀ j,j < news.length->V w g (ycs.getD j .any) (news.getD j undef)) (hcap:k+n<=cap) (H5:cap<=maxLen)
  (qmf:rest.size=(cap - (k+n)) * sh.size) :
  ∃ g',Step B w g (w.drew.alloc (.cells (olds.toArray++news.toArray++rest) e)) g'/\MemR B (w.drew.alloc (.cells (olds.toArray++news.toArray++rest) e)) g' (m++[some (.obj false (xcs++ycs))])/\V (w.drew.alloc (.cells (olds.toArray++news.toArray++rest) e)) g' (.arr m.length 0 (k+n) sh) (.slice (some ⟨w.heap.size,0,none⟩) (k+n) cap):=by
 have lQ:=hm.drew;have s1:=Step.drew B w g;have yn:B<=w.drew.heap.size:=hB;have hmul:(k+n) * sh.size=k * sh.size+n * sh.size:=gO _ _ _
 have hcell:∀ j,j < (k+n) * sh.size->V w g ((xcs++ycs).getD j .any) ((olds.toArray++news.toArray++rest).getD j undef):=by
  intro j hj;simp only[aS,jE,qn,Array.getElem?_append,zE,List.size_toArray,Af,rE,gY,rB]
  by_cases h1:j < k * sh.size
  ·rw[an h1,an (by omega),an h1];simpa [aS] using tT j (by omega)
  ·rw[ai h1,an (by omega),ai h1];simpa [aS] using sO (j - k * sh.size) (by omega)
 have gV:(olds.toArray++news.toArray++rest).size=cap * sh.size:=by
  have:cap * sh.size=(k+n) * sh.size+(cap - (k+n)) * sh.size:=by
   rw[<- gO];congr 1;omega
  simp only[zE,List.size_toArray];omega
 have tP:(w.drew.alloc (.cells (olds.toArray++news.toArray++rest) e)).heap[w.heap.size]?=some (Obj.cells (olds.toArray++news.toArray++rest) e (0,0)):=heap_alloc_new w.drew _;have Bf:(k+n) * sh.size<=(olds.toArray++news.toArray++rest).size:=by rw[gV];exact iM _ hcap
 obtain ⟨s2,fU⟩:=lQ.alloc_obj yn (olds.toArray++news.toArray++rest) e (xcs++ycs) (by rw[aI,rE,yP,<- hmul];exact Bf) (fun j hj=>by
  rw[aI,rE,yP,<- hmul] at hj
  exact (hcell j hj).step s1) false (lQ.slot (d:=none) (fun s hs=>by cases hs) _)
 exact ⟨_,s1.trans s2,fU,(.arr _ _ _ _ _ _ (.inr rfl) hcap H5 (.inr ⟨by simp[gL,az],rfl,_,_,tP,by rw[gV,bp];exact aQ _⟩))⟩
theorem qhL (hm:MemR B w g m) (hB:B<=w.heap.size) {d:Option Nat} {arrm:Bool} {t e ty:Nat} {sh:Sh} {x y v:AV} {m':af} {x' y':Value} (ht:P.underlying t=some (.slice e)) (he:nE P e sh=true)
  (hx:V w g x x') (hy:V w g y y') (h:sc d arrm sh (pD P e) m x y=some (v,m')):nZ P B w g (Builtin.append_ #[t,t] ty #[x',y']) v m':=by
 obtain ⟨i,zv,hi,hs,iO,nj,sQ,tO⟩:=tE he;have sw:pD P e=max 1 i.bytes:=by simp[pD,hi]
 unfold sc at h
 split at h
 ·obtain ⟨⟨n,ycs⟩,hq,h⟩:=bc.1 h;obtain ⟨⟨k,xcs,m2⟩,hp,h⟩:=bc.1 h;simp only at h
  split at h
  ·rename_i sL;simp only[bM,dT] at h;obtain ⟨rfl,rfl⟩:=h;obtain ⟨ay,cy,news,rfl,Ic,rB,yP,sI,lS,sO⟩:=qoG hm hy hq;rw[sw] at sL;have sH:news.length=n * i.size:=by rw[rB,hs]
   have nH:(k+n) * i.bytes<=140737488355328:=dY (kG _ (by omega)) sL;have hlen:k+n<=140737488355328:=dY (Nat.le_mul_of_pos_right _ (by omega)) sL;have sq:k+n<=maxLen:=by simp only[maxLen];omega
   unfold sY at hp
   split at hp
   ·rename_i shx z o es _
    split at hp
    ·split at hp
     ·rename_i DZ;simp only[bM,dT] at hp;obtain ⟨rfl,rfl,rfl⟩:=hp
      have hgrow:∃ (cap:Nat) (olds:List Value) (rest:Array Value),(Builtin.append_ #[t,t] ty #[x',.slice (some ay) n cy]).run P w=.ok (.slice (some ⟨w.heap.size,0,none⟩) (es.length+n) cap) (w.drew.alloc (.cells (olds.toArray++news.toArray++rest) e)) /\
        olds.length=es.length * sh.size/\(∀ e∈es,c9 sh e=true/\pl e=true)/\(∀ j,j < olds.length->V w g ((cW es).getD j .any) (olds.getD j undef))/\es.length+n<=cap/\cap<=maxLen/\rest.size=(cap - (es.length+n)) * sh.size:=by
       cases z with
       | true=>
        have hes:es=[]/\x'=.slice none 0 0:=by cases hx;exact ⟨rfl,rfl⟩
        obtain ⟨rfl,rfl⟩:=hes;have hr:=run_append_nil (P:=P) w t ty e i zv ht hi nj ay n cy news sH sI Ic (by simp only[aP] at hlen;omega) (by simp only[aP,bp] at nH;omega)
        refine ⟨_,[],Builtin.zeroCells zv.cells (grownCap w n 0 e - n),?_,by simp,by simp,by simp,by simpa using grownCap_ge w n 0 e,grownCap_le_maxLen w _ _ e (by simpa using sq),?_⟩
        ·simpa using hr
        ·rw[size_zeroCells,sQ,hs];simp
       | false=>
        obtain ⟨ax,nx,cx,rfl⟩:∃ ax nx cx,x'=.slice (some ax) nx cx:=by cases hx;exact ⟨_,_,_,rfl⟩
        obtain ⟨olds,rfl,gY,holds,VC,tT,DB,mZ,hmx,yw,hown,_⟩:=C1 hx;have qlE:cx=es.length:=hown
        have yz:olds.length=es.length * i.size:=by
         rcases DZ with h | h
         ·rw[gY,h,hs]
         ·subst h;simp at gY;simp[gY]
        have hr:=run_append_grow (P:=P) w t ty e i zv ht hi nj ax es.length cx olds yz holds ay n cy news sH sI (by omega) (by omega) (growslice_fits (by omega) nH);refine ⟨_,olds,Builtin.zeroCells zv.cells (grownCap w (es.length+n) cx e - (es.length+n)),hr,by rw[yz,hs],?_,tT,grownCap_ge _ _ _ _,grownCap_le_maxLen _ _ _ _ sq,by rw[size_zeroCells,sQ,hs]⟩
        rcases DZ with h | h
        ·rw[<- h];exact yw
        ·subst h;simp
      obtain ⟨cap,olds,rest,hr,g1,g2,g3,g4,g5,g6⟩:=hgrow;obtain ⟨g',s,hm',hV⟩:=UF hm hB (e:=e) g1 rB (sk fun e he=>(g2 e he).1) yP g3 sO g4 g5 g6;exact ⟨_,_,g',hr,s,hm',hV⟩
     ·cases hp
    ·cases hp
   ·rename_i nm off k1 shx _;obtain ⟨⟨bx,cs⟩,ho,yJ⟩:=bc.1 hp;clear hp;simp only at yJ
    split at yJ
    ·rename_i hc;obtain ⟨rfl,rfl,u6,rfl,hcl⟩:=hc;simp only[bM,dT] at yJ;obtain ⟨rfl,rfl,rfl⟩:=yJ;have aU:=obj?_get ho;have hlt:=bF aU;obtain ⟨b,c,e1,o1,o2,o3,o4,o5,o6,o7⟩:=hm.obj nm false cs aU
     cases hx with
     | arr _ _ _ _ a cap hsp tG hmx hl=>
      obtain ⟨l1,l2,c2,e2,l3,l4⟩:=hl.resolve_left (by omega);obtain rfl:b=a.block:=by simpa [o1] using l1
      rw[o3] at l3;simp only[bM,Obj.cells.injEq] at l3;obtain ⟨rfl,rfl,_⟩:=l3;rw[bp] at l4
      by_cases tI:k1+n<=cap
      ·have HX:k1 * i.size+news.length<=c.size:=by
        rw[sH,hs,<- gO];exact dY (iM _ tI) l4
       have vc:k1 * i.size=k1 * shx.size:=by rw[hs]
       have hnn:n * i.size=n * shx.size:=by rw[hs]
       have hr:=qoI (P:=P) w t ty e e1 i ht hi a.block k1 cap c o3 ay n cy news sH sI lS tI HX;rw[<- l2] at hr;have hsz:(c.toList.take (k1 * i.size)++news++c.toList.drop (k1 * i.size+news.length)).toArray.size=c.size:=by simp;omega
       obtain ⟨s1,lQ⟩:=hm.write (cs':=cs++ycs) (c':=(c.toList.take (k1 * i.size)++news++c.toList.drop (k1 * i.size+news.length)).toArray) aU o1 o3 hsz (by rw[hsz,aI,hcl,yP,<- rB,<- hs];exact HX) (fun j hj=>by
        rw[aI,hcl,yP] at hj;have H2:(c.toList.take (k1 * i.size)).length=k1 * shx.size:=by simp;omega
        simp only[aS,jE,Af,gA]
        by_cases h1:j < k1 * shx.size
        ·rw[nB (by omega),nB (by omega),qo,an (by omega)];have:=o5 j (by omega);simpa [aS,jE] using this
        ·rw[rS (by omega),rS (by omega),hcl,H2,nB (by omega)];have:=sO (j - k1 * shx.size) (by omega)
         simpa [aS] using this)
       obtain ⟨s2,fU⟩:=lQ.rename (by rw[gF,an rfl,an hlt]) o1;rw[a8,xL] at fU;rw[a8] at s2;refine ⟨_,_,_,hr,s1.trans s2,by rw[a8] at *;exact fU,?_⟩;rw[a8];rw[l2];exact .arr _ _ _ _ _ _ (.inr rfl) tI hmx (.inr ⟨by simp[vF],rfl,_,e1,setRow_heap w _ c _ e1 _ o3,by rw[hsz,bp];exact l4⟩)
      ·have hcd:∀ j,j < k1 * shx.size->w.cell? (a.add j)=some (c.getD j undef):=fun j hj=>by
        rw[l2,mU,cell_of_row w _ _ c e1 (0,0) o3];simp[Array.getD,show j < c.size by omega]
       have gY:((List.range (k1 * shx.size)).map fun j=>c.getD j undef).length=k1 * shx.size:=by simp
       have hr:=run_append_grow (P:=P) w t ty e i zv ht hi nj a k1 cap ((List.range (k1 * shx.size)).map fun j=>c.getD j undef) (by rw[gY,hs]) (fun j u hu=>by
         have hj:j < k1 * shx.size:=by
          rcases qW j (k1 * shx.size) with hl | hl
          ·exact hl
          ·rw[n5 (by simpa using hl)] at hu;cases hu
         simp[hj] at hu;rw[hcd j hj,<- hu]
         simp[jE]) ay n cy news sH sI (by omega) (by omega) (growslice_fits (by omega) nH)
       obtain ⟨g',s,hm',hV⟩:=UF (hm.lose nm) hB (e:=e) (xcs:=cs) (ycs:=ycs) (olds:=(List.range (k1 * shx.size)).map fun j=>c.getD j undef) gY rB hcl yP (fun j hj=>by
         have gJ:j < k1 * shx.size:=by simpa using hj
         have:=o5 j (by omega)
         simpa [aS,gJ] using this) sO (grownCap_ge w (k1+n) cap e) (grownCap_le_maxLen w _ cap e sq) (rest:=Builtin.zeroCells zv.cells (grownCap w (k1+n) cap e - (k1+n))) (by rw[size_zeroCells,sQ,hs])
       exact ⟨_,_,g',hr,s,hm',hV⟩
    ·cases yJ
   ·cases hp
  ·cases h
 ·cases h
theorem qhP (w:World) (t e ty:Nat) (i:TypeInfo) (ht:P.underlying t=some (.slice e)) (hi:P.info? e=some i) {x:AV} {x' y':Value} {sh shy:Sh} {z z':Bool} {o o':Own} {es:List AV} (hx:V w g (.lst sh z o es) x') (hy:V w g (.lst shy z' o' []) y') :
  (Builtin.append_ #[t,t] ty #[x',y']).run P w=.ok x' w:=by
 have hb:∀ a n c,x'=.slice a n c->n<=c:=by
  rintro a n c rfl
  cases hx with
  | nils=>exact aQ _
  | lst _ o es a cap us hs hc hm hsh hcell hv ho=>exact hc
 have qmm:∃ a n c,x'=.slice a n c:=by cases hx<;>exact ⟨_,_,_,rfl⟩
 obtain ⟨a,n,c,rfl⟩:=qmm;have hn:=hb a n c rfl;have qmn:∃ a' c',y'=.slice a' 0 c':=by cases hy<;>exact ⟨_,_,rfl⟩
 obtain ⟨a',c',rfl⟩:=qmn;cases a'<;>cases a<;>simp[Builtin.append_,run_underlying ht,sizeOf,typeInfo,hi,Builtin.lenOf,hn,Builtin.firstCells,loadCells,loadCellsFrom,storeCells]
theorem qhQ (hm:MemR B w g m) (hB:B<=w.heap.size) {d:Option Nat} (hd:∀ s,d=some s->m.get s=some .resv) {arrm:Bool} {t e ty:Nat} {sh:Sh} {x y v:AV} {m':af} {x' y':Value} (ht:P.underlying t=some (.slice e)) (hsh:jl P e=some sh) (he:nE P e sh=true)
  (hx:V w g x x') (hy:V w g y y') (h:b8 d arrm e sh (pD P e) m x y=some (v,m')):nZ P B w g (Builtin.append_ #[t,t] ty #[x',y']) v m':=by
 obtain ⟨i,zv,hi,hs,iO,nj,sQ,tO⟩:=tE he;have sw:pD P e=max 1 i.bytes:=by simp[pD,hi]
 unfold b8 at h
 split at h
 ·rename_i shx z o es shy zy oy ys0
  split at h
  ·simp at h;obtain ⟨rfl,rfl⟩:=h;exact nZ.same hm ⟨x',qhP (x:=.any) w t e ty i ht hi hx hy,hx⟩
  ·rename_i y1 ys1;generalize p9:y1::ys1=ys at *;have Ic:0 < ys.length:=by rw[<- p9];simp
   split at h
   ·rename_i qmo;subst qmo
    split at h
    ·rename_i sL;rw[sw] at sL
     have hy2:∃ zy',zy=zy'/\zy'=false:=by
      cases zy
      ·exact ⟨_,rfl,rfl⟩
      ·cases hy;simp at Ic
     obtain ⟨_,rfl,rfl⟩:=hy2;obtain ⟨ay,ny,cy,rfl⟩:∃ ay ny cy,y'=.slice (some ay) ny cy:=by cases hy;exact ⟨_,_,_,rfl⟩
     obtain ⟨news,rfl,rB,sI,lS,sO,_,_,_,NK,_,_⟩:=C1 hy;have sH:news.length=ys.length * i.size:=by rw[rB,hs]
     have nH:(es.length+ys.length) * i.bytes<=140737488355328:=dY (kG _ (by omega)) sL;have hlen:es.length+ys.length<=140737488355328:=dY (Nat.le_mul_of_pos_right _ (by omega)) sL;have sq:es.length+ys.length<=maxLen:=by simp only[maxLen];omega
     split at h
     ·cases h
     ·
      split at h
      ·rename_i DZ
       have hgrow:∃ (cap:Nat) (olds:List Value) (rest:Array Value),(Builtin.append_ #[t,t] ty #[x',.slice (some ay) ys.length cy]).run P w=.ok (.slice (some ⟨w.heap.size,0,none⟩) (es.length+ys.length) cap) (w.drew.alloc (.cells (olds.toArray++news.toArray++rest) e)) /\
         olds.length=es.length * shy.size/\(∀ e∈es,c9 shy e=true/\pl e=true)/\(∀ j,j < olds.length->V w g ((cW es).getD j .any) (olds.getD j undef))/\es.length+ys.length<=cap/\cap<=maxLen/\rest.size=(cap - (es.length+ys.length)) * shy.size:=by
        cases z with
        | true=>
         have hes:es=[]/\x'=.slice none 0 0:=by cases hx;exact ⟨rfl,rfl⟩
         obtain ⟨rfl,rfl⟩:=hes;have hr:=run_append_nil (P:=P) w t ty e i zv ht hi nj ay ys.length cy news sH sI Ic (by omega) (by simp only[aP,bp] at nH;omega)
         refine ⟨_,[],Builtin.zeroCells zv.cells (grownCap w ys.length 0 e - ys.length),?_,by simp,by simp,by simp,by simpa using grownCap_ge w ys.length 0 e,grownCap_le_maxLen w _ _ e (by simpa using sq),?_⟩
         ·simpa using hr
         ·rw[size_zeroCells,sQ,hs];simp
        | false=>
         obtain ⟨ax,nx,cx,rfl⟩:∃ ax nx cx,x'=.slice (some ax) nx cx:=by cases hx;exact ⟨_,_,_,rfl⟩
         obtain ⟨olds,rfl,gY,holds,VC,tT,DB,mZ,hmx,yw,hown,_⟩:=C1 hx;have qlE:cx=es.length:=hown
         have yz:olds.length=es.length * i.size:=by
          rcases DZ with h | h
          ·rw[gY,h,hs]
          ·subst h;simp at gY;simp[gY]
         have hr:=run_append_grow (P:=P) w t ty e i zv ht hi nj ax es.length cx olds yz holds ay ys.length cy news sH sI (by omega) (by omega) (growslice_fits (by omega) nH);refine ⟨_,olds,Builtin.zeroCells zv.cells (grownCap w (es.length+ys.length) cx e - (es.length+ys.length)),hr,by rw[yz,hs],?_,tT,grownCap_ge _ _ _ _,grownCap_le_maxLen _ _ _ _ sq,by rw[size_zeroCells,sQ,hs]⟩
         rcases DZ with h | h
         ·rw[<- h];exact yw
         ·subst h;simp
       obtain ⟨cap,olds,rest,hr,g1,g2,g3,g4,g5,g6⟩:=hgrow;obtain ⟨p1,p2,_⟩:=UG hm hB hd (e:=e) g1 rB g2 NK g3 sO g4 g5 g6
       split at h
       ·simp only[bM,dT] at h;obtain ⟨rfl,rfl⟩:=h;obtain ⟨g',s,hm',hV⟩:=p2;exact ⟨_,_,g',hr,s,hm',hV⟩
       ·simp at h;obtain ⟨rfl,rfl⟩:=h;obtain ⟨g',s,hm',hV⟩:=p1;exact ⟨_,_,g',hr,s,hm',hV⟩
      ·cases h
     ·
      rename_i nm e'
      split at h
      ·rename_i mH;obtain ⟨rfl,rfl,_⟩:=mH
       split at h
       ·rename_i k sz aU
        split at h
        ·rename_i hk;obtain ⟨rfl,rfl⟩:=hk;simp at h;obtain ⟨rfl,rfl⟩:=h
         have hz:z=false/\∃ ax nx cx,x'=.slice (some ax) nx cx:=by
          cases hx with
          | nils _ _ ho=>rcases ho with h | h<;>cases h
          | lst=>exact ⟨rfl,_,_,_,rfl⟩
         obtain ⟨rfl,ax,nx,cx,rfl⟩:=hz;obtain ⟨olds,rfl,gY,holds,VC,tT,DB,mZ,hmx,yw,hown,_⟩:=C1 hx;obtain ⟨o1,o2,c,o3,o4⟩:=hown;have yz:olds.length=es.length * i.size:=by rw[gY,hs]
         by_cases tI:es.length+ys.length<=cx
         ·
          have DB:=DB.resolve_left (by omega);have MN:ax=⟨ax.block,0,none⟩:=by rw[DB,o2]
          have HX:es.length * i.size+news.length<=c.size:=by
           rw[sH,o4,hs,<- gO];exact iM _ tI
          have hr:=run_append_room (P:=P) w t ty e' i ht hi ax.block es.length cx c o3 ay ys.length cy news sH sI lS tI HX;rw[<- MN] at hr
          obtain ⟨g',s,hm',q1,q2,q3⟩:=hm.inplace (n:=es.length+ys.length) (c':=(c.toList.take (es.length * i.size)++news++c.toList.drop (es.length * i.size+news.length)).toArray) aU o1 o3 (by omega) (by simp;omega)
           (fun j hj=>by
            rw[<- hs] at hj;simp only[Af,gA];rw[nB (by simp;omega),qo,an hj]
            simp)
          refine ⟨_,_,g',hr,s,hm',?_⟩;have sD:(w.setRow ax.block (c.toList.take (es.length * i.size)++news++c.toList.drop (es.length * i.size+news.length)).toArray).heap[ax.block]?=some (Obj.cells (c.toList.take (es.length * i.size)++news++c.toList.drop (es.length * i.size+news.length)).toArray e' (0,0)):=setRow_heap w _ c _ e' _ o3;have U3:(c.toList.take (es.length * i.size)++news++c.toList.drop (es.length * i.size+news.length)).toArray.size=c.size:=by simp;omega
          have hmul:(es.length+ys.length) * shx.size=es.length * shx.size+ys.length * shx.size:=gO _ _ _;have yx:=sk (fun e he=>(yw e he).1:∀ e∈es,c9 shx e=true);have iX:(es++ys).length=es.length+ys.length:=by simp
          have:=Hh (sh:=shx) (o:=.tok nm e') (es:=es++ys) (cap:=cx) sD (by rw[iX];exact tI) hmx (fun e he=>by
            rcases il.1 he with h | h
            ·exact yw e h
            ·exact NK e h) (by rw[iX,U3,o4];exact iM _ tI)
           (fun j hj=>by
            rw[iX] at hj;have H2:(c.toList.take (es.length * i.size)).length=es.length * shx.size:=by simp;omega
            rw[HK];simp only[aS,jE,Af,gA]
            by_cases h1:j < es.length * shx.size
            ·rw[nB (by omega),nB (by omega),qo,an (by omega)];have hcell:=holds j (olds.getD j undef) (by simp[aS,show j < olds.length by omega]);rw[MN,mU,cell_of_row w _ _ c e' (0,0) o3] at hcell;simp only[bp] at hcell;have:=(tT j (by omega)).step s;simp only[Array.getElem?_toList,hcell,dh];simpa [aS] using this
            ·rw[rS (by omega),rS (by omega),yx,H2,nB (by omega)];have:=(sO (j - es.length * shx.size) (by omega)).step s
             simpa [aS] using this)
           (fun j hj=>q2 j (by rw[<- iX];exact hj)) q3 ⟨by rw[iX];exact q1,rfl,_,sD,by rw[U3,o4]⟩
          rw[iX] at this;rw[MN];exact this
         ·have hr:=run_append_grow (P:=P) w t ty e' i zv ht hi nj ax es.length cx olds yz holds ay ys.length cy news sH sI (by omega) (by omega) (growslice_fits (by omega) nH);obtain ⟨_,_,p3⟩:=UG hm hB hd (e:=e') gY rB yw NK tT sO (grownCap_ge w (es.length+ys.length) cx e') (grownCap_le_maxLen w _ cx e' sq) (rest:=Builtin.zeroCells zv.cells (grownCap w (es.length+ys.length) cx e' - (es.length+ys.length))) (by rw[size_zeroCells,sQ,hs]);obtain ⟨g',s,hm',hV⟩:=p3 nm es.length aU (by omega);exact ⟨_,_,g',hr,s,hm',hV⟩
        ·cases h
       ·cases h
      ·cases h
    ·cases h
   ·cases h
 ·exact qhL hm hB ht he hx hy h
theorem qkN {sh:Sh} (es:List AV):∀ (vs:List Value) (i:Nat) (c:Array Value) (L:List (Nat×Value)),L=(vs.zipIdx i).map (fun x=>(x.2,x.1))->es.length=vs.length->(∀ k (h:k < es.length) (h':k < vs.length),V w g es[k] vs[k])->(∀ e∈es,c9 sh e=true)->(i+es.length) * sh.size<=c.size ->
  ∃ c',Instr.fill (fun i=>some (i * sh.size,sh.size)) c L=some c'/\c'.size=c.size/\(∀ j,j < es.length * sh.size->V w g ((cW es).getD j .any) (c'.getD (i * sh.size+j) undef))/\∀ j,j < i * sh.size->c'.getD j undef=c.getD j undef:=by
 induction es with
 | nil=>
  intro vs i c L hL hl _ _ _;obtain rfl:vs=[]:=oN (by simpa using hl.symm);subst hL;exact ⟨c,rfl,rfl,by simp,fun _ _=>rfl⟩
 | cons e es ih=>
  intro vs i c L hL hl hv hs hsz
  match vs,hl with
  | v::vs,hl=>
  subst hL;have hV:V w g e v:=hv 0 (by simp) (by simp);have DX:=hs e (by simp);obtain ⟨v1,v2,_⟩:=Hg hV DX;have D7:=s6 DX;simp only[aJ] at hsz;have NG:(i+(es.length+1)) * sh.size=i * sh.size+sh.size+es.length * sh.size:=by rw[gO,qq];omega
  obtain ⟨f1,f2⟩:=Mr (i * sh.size) v.cells.toList 0 c (by simp;omega);simp only[jF,Array.length_toList] at f2
  have hz:(v.cells.zipIdx.foldl (fun cs (c,j)=>cs.setIfInBounds (i * sh.size+j) c) c)=(v.cells.toList.zipIdx.foldl (fun cs (c,j)=>cs.setIfInBounds (i * sh.size+j) c) c):=by
   rw[<- Array.foldl_toList,Array.toList_zipIdx]
  have hi1:(i+1) * sh.size=i * sh.size+sh.size:=qq _ _
  obtain ⟨c',g1,g2,g3,g4⟩:=ih vs (i+1) (v.cells.toList.zipIdx.foldl (fun cs (c,j)=>cs.setIfInBounds (i * sh.size+j) c) c) _ rfl (by simpa using hl)
   (fun k h h'=>hv (k+1) (by simpa using h) (by simpa using h')) (fun x hx=>hs x (by simp[hx])) (by rw[f1,gO,hi1];omega)
  refine ⟨c',?_,by rw[g2,f1],fun j hj=>?_,fun j hj=>?_⟩
  ·simp only[List.zipIdx_cons,gd,Instr.fill];rw[ai (by simp;omega),hz];exact g1
  ·simp only[aJ,qq] at hj;simp only[pT,aS,qn,D7]
   by_cases h1:j < sh.size
   ·rw[an h1,g4 _ (by omega),f2,an (by omega)];have:=v2 j h1;simpa [aS,jE] using this
   ·rw[ai h1];have:=g3 (j - sh.size) (by omega);rw[show (i+1) * sh.size+(j - sh.size)=i * sh.size+j by omega] at this;simpa [aS] using this
  ·rw[g4 j (by omega),f2,ai (by omega)]
theorem Tu (hm:MemR B w g m) (hB:B<=w.heap.size) {t e n:Nat} {sh:Sh} {ps:Array (Nat×Operand)} {ρ:Operand->AV} {ρ':Operand->Value} (hρ:∀ x,V w g (ρ x) (ρ' x)) (ht:P.underlying t=some (.slice e)) (he:nE P e sh=true) (nb:ps.toList.map (·.1)=List.range n)
  (hn:n * sh.size<=16777216) (hall:(ps.toList.map fun p=>ρ p.2).all (fun v=>c9 sh (lV v))=true):∃ c:Array Value,(Instr.buildSlice t n (ps.map fun (i,x)=>(i,ρ' x))).run P w=.ok (.slice (some ⟨w.heap.size,0,none⟩) n n) (w.alloc (.cells c e))/\c.size=n * sh.size/\(ps.toList.map fun p=>ρ p.2).length=n/\((ps.toList.map fun p=>ρ p.2).map lV).length=n/\(∀ x∈(ps.toList.map fun p=>ρ p.2).map lV,c9 sh x=true)/\∀ j,j < n * sh.size->V w g ((cW ((ps.toList.map fun p=>ρ p.2).map lV)).getD j .any) (c.getD j undef):=by
 obtain ⟨i,zv,hi,hs,iO,nj,sQ,tO⟩:=tE he
 ·have hlen:ps.toList.length=n:=by have:=cV List.length nb;simpa using this
  have DA:∀ p∈ps.toList,c9 sh (lV (ρ p.2))=true:=fun p hp=>by
   have:=ga.1 hall (ρ p.2) (jf.2 ⟨p,hp,rfl⟩);simpa using this
  generalize hes:(ps.toList.map fun p=>ρ p.2).map lV=es;have sC:es.length=n:=by rw[<- hes];simpa using hlen
  have AT:∀ x∈es,c9 sh x=true:=fun x hx=>by
   rw[<- hes] at hx;obtain ⟨y,hy,rfl⟩:=jf.1 hx;obtain ⟨p,hp,rfl⟩:=jf.1 hy;exact DA p hp
  let base:Array Value:=(Array.range (n * i.size)).map ((if n * i.size=0 then #[] else zv.cells)[· % (if n * i.size=0 then #[] else zv.cells:Array Value).size]!)
  obtain ⟨c',g1,g2,g3,g4⟩:=qkN (w:=w) (g:=g) (sh:=sh) es (ps.toList.map fun p=>ρ' p.2) 0 base ((ps.map fun (i,x)=>(i,ρ' x)).toList)
   (by
    apply List.ext_getElem
    ·simp
    ·intro k h1 h2;have hk:k < ps.toList.length:=by simpa using h1
     have:(ps.toList.map (·.1))[k]'(by simpa using hk)=k:=by simp[nb]
     simp at this
     simp[this])
   (by simp[sC,<- hlen]) (fun k h1 h2=>by
    have hk:k < ps.toList.length:=by simpa using h2
    have:es[k]=lV (ρ (ps.toList[k]).2):=by simp[<- hes]
    rw[this];simp only[rV]
    exact qgR (hρ _)) (fun x hx=>AT x hx) (by simp only[base,Array.size_map,Array.size_range,bp,sC,hs];exact aQ _)
  have gV:c'.size=n * sh.size:=by rw[g2];simp[base,hs]
  have oE:(Instr.buildSlice t n (ps.map fun (i,x)=>(i,ρ' x))).run P w=.ok (.slice (some ⟨w.heap.size,0,none⟩) n n) (w.alloc (.cells c' e)):=by
   have hns:¬ (2 ^ 24 < n * i.size):=by rw[hs];omega
   rw[<- hs] at g1
   by_cases h0:n * i.size=0
   ·have hb:base=(Array.range (n * i.size)).map ((#[]:Array Value)[· % (#[]:Array Value).size]!):=by simp[base,h0]
    rw[hb] at g1;simp only[Instr.buildSlice,Sem.run_bind,run_underlying ht,Result.andThen_ok,ph hi,Sem.run_ite,ai hns,Sem.run_pure,an h0,g1]
    rfl
   ·have hb:base=(Array.range (n * i.size)).map (zv.cells[· % zv.cells.size]!):=by simp[base,h0]
    rw[hb] at g1;have hz:(zeroValue e).run P w=.ok zv w:=by simp[zeroValue,typeInfo,hi,nj]
    simp only[Instr.buildSlice,Sem.run_bind,run_underlying ht,Result.andThen_ok,ph hi,Sem.run_ite,ai hns,Sem.run_pure,ai h0,hz,g1]
    rfl
  exact ⟨c',oE,gV,by simpa using hlen,sC,AT,fun j hj=>by
   have:=g3 j (by rw[sC];exact hj)
   simpa using this⟩
theorem qj4 (hm:MemR B w g m) (hB:B<=w.heap.size) {t e n:Nat} {sh:Sh} {ps:Array (Nat×Operand)} {ρ:Operand->AV} {ρ':Operand->Value} (hρ:∀ x,V w g (ρ x) (ρ' x)) {v:AV} (ht:P.underlying t=some (.slice e)) (he:nE P e sh=true) (nb:ps.toList.map (·.1)=List.range n)
  (hn:n * sh.size<=16777216) (h:dO sh (ps.toList.map fun p=>ρ p.2)=some v):nZ P B w g (Instr.buildSlice t n (ps.map fun (i,x)=>(i,ρ' x))) v m:=by
 obtain ⟨i,zv,hi,hs,iO,nj,sQ,tO⟩:=tE he
 have oC:n<=maxLen:=by
  have h1:n<=n * sh.size:=Nat.le_mul_of_pos_right _ (by omega);simp only[maxLen];omega
 unfold dO at h
 split at h
 ·rename_i hall;simp only[bM] at h;subst h
  obtain ⟨c,oE,gV,vd,sC,AT,hv⟩:=Tu hm hB hρ ht he nb hn (ga.2 fun x hx=>by
   have:=ga.1 hall x hx;simp only[b7] at this
   exact this.1)
  have hpl:∀ x∈(ps.toList.map fun p=>ρ p.2).map lV,c9 sh x=true/\pl x=true:=fun x hx=>by
   obtain ⟨y,hy,rfl⟩:=jf.1 hx;have:=ga.1 hall y hy;simpa only[b7] using this
  generalize (ps.toList.map fun p=>ρ p.2).map lV=es at *;obtain ⟨s,hm'⟩:=hm.alloc_imm hB (.cells c e)
  have hV:=Hh (w:=w.alloc (.cells c e)) (g:=g) (sh:=sh) (o:=.full) (es:=es) (cap:=n) (heap_alloc_new w _) (by omega) oC hpl (by rw[sC,gV];exact aQ _) (fun j hj=>by
    rw[sC] at hj
    exact (hv j hj).step s) (fun j _ h=>vS _ (hm.wrLt _ _ h)) (fun h=>vS _ (hm.boxLt _ h)) (show n=es.length from sC.symm)
  rw[sC] at hV;exact ⟨_,_,g,oE,s,hm',hV⟩
 ·split at h
  ·rename_i hall;simp only[bM] at h;subst h;obtain ⟨c,oE,gV,vd,sC,AT,hv⟩:=Tu hm hB hρ ht he nb hn hall;obtain ⟨s,hm'⟩:=hm.alloc_imm hB (.cells c e);rw[vd];generalize (ps.toList.map fun p=>ρ p.2).map lV=es at *;have hfl:=sk AT;rw[sC] at hfl;refine ⟨_,_,g,oE,s,hm',.vec n sh (cW es) ⟨w.heap.size,0,none⟩ n (fun j=>c.getD j undef) (.inr rfl) (aQ _) oC hfl (Mn AT) (fun j hj=>⟨?_,fun h=>vS _ (hm.wrLt _ _ h)⟩) (fun j hj=>(hv j (by omega)).step s)⟩;simp only[bp];rw[cell_of_row _ _ j c e (0,0) (heap_alloc_new w _)];simp[Array.getD,show j < c.size by omega]
  ·cases h
theorem qne (hm:MemR B w g m) (hB:B<=w.heap.size) {d:Option Nat} {t e:Nat} {sh:Sh} {z l c v:AV} {m':af} {l' c':Value} (ht:P.underlying t=some (.slice e)) (hsh:jl P e=some sh) (he:nE P e sh=true) (hz:rN P e=some z)
  (hl:V w g l l') (hc:V w g c c') (h:yW d sh z (pD P e) m l c=some (v,m')):nZ P B w g (Instr.makeSlice t l' c') v m':=by
 obtain ⟨i,zv,hi,hs,iO,nj,sQ,tO⟩:=tE he;obtain ⟨i2,zv2,hi2,NM,rfl⟩:=Fb hz;obtain rfl:i=i2:=by simpa [hi] using hi2
 obtain rfl:zv=zv2:=by simpa [nj] using NM
 have hb:i.bytes<=pD P e:=by simp[pD,hi];omega
 have hz2:zv.cells.size=sh.size:=by omega
 unfold yW at h
 split at h
 ·rename_i kl l kc c;cases hl;cases hc
  split at h
  ·rename_i mH;obtain ⟨⟨h0,Nf,sw,sq⟩,iT,hpl⟩:=mH;subst Nf;simp only[bM,dT] at h;obtain ⟨rfl,rfl⟩:=h;have sw:l * (i.bytes:Int)<=281474976710656:=Int.le_trans (Int.mul_le_mul_of_nonneg_left (by omega) (by omega)) sw;have hr:=run_make (P:=P) w t e i zv ht hi nj kl kc l l h0 (ql _) (by rw[Int.mul_comm];exact sw) sq
   have Ig:(iq zv).cells=[iq zv]:=by
    have h1:iq zv=pA zv:=by
     unfold iq
     split
     ·exact absurd rfl (tO rfl _)
     ·rfl
    rw[h1];unfold pA;split<;>rfl
   obtain ⟨z1,z2⟩:=ZL (sh:=none) (n:=l.toNat) hz2 (fun _=>Ig) w g;obtain ⟨s,hm'⟩:=hm.alloc_imm hB (.cells (madeCells zv.cells (l.toNat * i.size)) e);have lA:i.size=1:=hs
   have hV:=Hh (w:=w.alloc (.cells (madeCells zv.cells (l.toNat * i.size)) e)) (g:=g) (sh:=none) (o:=.full) (es:=List.replicate l.toNat (iq zv)) (cap:=l.toNat) (heap_alloc_new w _) (by rw[uy];exact aQ _) (by simp only[maxLen];omega)
    (fun x hx=>by
     obtain ⟨_,rfl⟩:=List.mem_replicate.1 hx
     exact ⟨iT,hpl⟩) (by rw[uy,size_madeCells,hs];exact aQ _) (fun j hj=>by
     have hfl:cW (List.replicate l.toNat (iq zv))=qQ none (iq zv) l.toNat:=by
      unfold cW qQ
      induction l.toNat with
      | zero=>rfl
      | succ n ih=>rw[xK,pT,ih,Ig];rfl
     rw[hfl];rw[uy] at hj;have:=(z2 j hj).step s;rw[WX _ _ _ (by omega) (by rw[hs];exact hj)]
     exact this) (fun j _ h=>vS _ (hm.wrLt _ _ h)) (fun h=>vS _ (hm.boxLt _ h)) (show l.toNat=(List.replicate l.toNat (iq zv)).length from List.length_replicate.symm)
   rw[uy] at hV;exact ⟨_,_,g,hr,s,hm',hV⟩
  ·cases h
 ·cases h
end
end Go.Ab
namespace Go.Ab
open Go.RowKit
mutual
theorem X0:∀ x,pl x=true->cl x=true
 | .int ..,_ | .bool _,_ | .str _,_ | .nilp,_ | .nilf,_ | .nile,_ | .nilm,_=>rfl
 | .lst _ _ o _,h=>by cases o<;>first | rfl | (simp[pl] at h)
 | .agg cs,h=>by simp only[pl] at h;simp only[cl];exact XV cs h
 | .any,h | .arr ..,h | .ptr ..,h | .vptr _,h | .tup _,h | .fn ..,h | .vec ..,h=>by simp[pl] at h
theorem XV:∀ cs,lB cs=true->uM cs=true
 | [],_=>rfl
 | c::cs,h=>by
  simp only[lB,b7] at h;simp only[uM,b7];exact ⟨X0 c h.1,XV cs h.2⟩
end
mutual
theorem X3:∀ x,pl x=true->jd x=true
 | .int ..,_ | .bool _,_ | .str _,_ | .nilp,_ | .nilf,_ | .nile,_ | .nilm,_ | .lst ..,_=>rfl
 | .agg cs,h=>by simp only[pl] at h;simp only[jd];exact OR cs h
 | .any,h | .arr ..,h | .ptr ..,h | .vptr _,h | .tup _,h | .fn ..,h | .vec ..,h=>by simp[pl] at h
theorem OR:∀ cs,lB cs=true->mh cs=true
 | [],_=>rfl
 | c::cs,h=>by
  simp only[lB,b7] at h;simp only[mh,b7];exact ⟨X3 c h.1,OR cs h.2⟩
end
theorem OQ:∀ {cs:List AV},lB cs=true->∀ x∈cs,pl x=true
 | [],_,x,hx=>by simp at hx
 | c::cs,h,x,hx=>by
  simp only[lB,b7] at h
  rcases gE.1 hx with rfl | hx
  ·exact h.1
  ·exact OQ h.2 x hx
theorem De:∀ {cs:List AV},uM cs=true->∀ x∈cs,cl x=true
 | [],_,x,hx=>by simp at hx
 | c::cs,h,x,hx=>by
  simp only[uM,b7] at h
  rcases gE.1 hx with rfl | hx
  ·exact h.1
  ·exact De h.2 x hx
theorem TL:∀ {cs:List AV},(∀ x∈cs,cl x=true)->uM cs=true
 | [],_=>rfl
 | c::cs,h=>by
  simp only[uM,b7];exact ⟨h c (by simp),TL fun x hx=>h x (by simp[hx])⟩
theorem y5:∀ {cs:List AV},mh cs=true->∀ x∈cs,jd x=true
 | [],_,x,hx=>by simp at hx
 | c::cs,h,x,hx=>by
  simp only[mh,b7] at h
  rcases gE.1 hx with rfl | hx
  ·exact h.1
  ·exact y5 h.2 x hx
theorem XZ {x:AV} (h:pl x=true):∀ c∈x.cells,pl c=true:=by
 intro c hc
 cases x<;>first | (simp[AV.cells] at hc;subst hc;exact h) | (simp[pl] at h;done) | skip
 rename_i cs;simp only[pl] at h;exact OQ h c hc
theorem pF {cs:List AV} {j:Nat} (h:j < cs.length):cs.getD j .any∈cs:=by
 rw[aS,bD h];exact bS h
section
variable [WInv] {w:World} {g g2:G}
theorem Sv {x:AV} {v:Value} {nv:Bool} (h:V w g x v) (hc:cl x=true) (hn:nv=true->jd x=true) (rD:∀ b off,g2.wr b off->g.wr b off\/g.box b/\nv=true) (hbx:∀ b,g2.box b->g.box b):V w g2 x v:=by
 induction h with
 | any=>exact .any _
 | int=>exact .int _ _
 | bool=>exact .bool _
 | str=>exact .str _
 | nils sh o ho=>exact .nils sh o ho
 | lst sh o es a cap us hs DC hm hsh hcell hv ho ih=>
  refine .lst sh o es a cap us hs DC hm hsh (fun j hj=>?_) (fun j hj=>ih j hj ?_ fun _=>?_) ?_
  ·obtain ⟨h1,h2,h3⟩:=hcell j hj;exact ⟨h1,fun h=>(rD _ _ h).elim h2 fun h=>h3 h.1,fun h=>h3 (hbx _ h)⟩
  ·obtain ⟨e,he,hx⟩:=List.mem_flatMap.1 (pF hj);exact X0 _ (XZ (hsh e he).2 _ hx)
  ·obtain ⟨e,he,hx⟩:=List.mem_flatMap.1 (pF hj);exact X3 _ (XZ (hsh e he).2 _ hx)
  ·cases o with
   | no=>trivial
   | full=>exact ho
   | tok=>simp[cl] at hc
 | arr=>simp[cl] at hc
 | ptr=>simp[cl] at hc
 | mref=>simp[cl] at hc
 | vec=>simp[cl] at hc
 | vptr cs b off us hcell hv ih=>
  simp only[cl] at hc
  have vg:nv=false:=by
   cases nv with
   | false=>rfl
   | true=>have:=hn rfl;simp[jd] at this
  subst vg;refine .vptr cs b off us (fun j hj=>?_) (fun j hj=>ih j hj (De hc _ (pF hj)) (fun h=>by cases h));obtain ⟨h1,h2⟩:=hcell j hj;exact ⟨h1,fun h=>(rD _ _ h).elim h2 fun h=>by cases h.2⟩
 | nilp=>exact .nilp
 | nilf=>exact .nilf
 | nile=>exact .nile
 | nilm=>exact .nilm
 | agg cs vs hl hv ih=>
  simp only[cl] at hc;exact .agg cs vs hl fun j hj=>ih j hj (De hc _ (pF hj)) fun h=>y5 (by simpa [jd] using hn h) _ (pF hj)
 | tup cs vs hl hv ih=>
  simp only[cl] at hc;exact .tup cs vs hl fun j hj=>ih j hj (De hc _ (pF hj)) fun h=>y5 (by simpa [jd] using hn h) _ (pF hj)
 | fn f cs vs hl hv ih=>
  simp only[cl] at hc;exact .fn f cs vs hl fun j hj=>ih j hj (De hc _ (pF hj)) fun h=>y5 (by simpa [jd] using hn h) _ (pF hj)
theorem Ly {x:AV} {v:Value} (h:V w g x v) (hc:cl x=true) (rD:∀ b off,g2.wr b off->g.wr b off) (hbx:∀ b,g2.box b->g.box b):V w g2 x v:=
 Sv (nv:=false) h hc (fun h=>by cases h) (fun b off h=>.inl (rD b off h)) hbx
theorem Eh (f:AV->Option (AV×List Nat)):∀ (cs rs:List AV) (l:List Nat),eY f cs=some (rs,l)->rs.length=cs.length/\(∀ j,j < cs.length->∃ lj,f (cs.getD j .any)=some (rs.getD j .any,lj)/\∀ nm∈lj,nm∈l)/\∀ nm∈l,∃ j lj,j < cs.length/\f (cs.getD j .any)=some (rs.getD j .any,lj)/\nm∈lj
 | [],rs,l,h=>by simp[eY] at h;obtain ⟨rfl,rfl⟩:=h;simp
 | c::cs,rs,l,h=>by
  simp only[eY,bc,gP,dT] at h;obtain ⟨⟨r,l1⟩,h1,⟨rs',l2⟩,h2,rfl,rfl⟩:=h;obtain ⟨k1,k2,k3⟩:=Eh f cs rs' l2 h2
  refine ⟨by simp[k1],fun j hj=>?_,fun nm p6=>?_⟩
  ·cases j with
   | zero=>exact ⟨l1,by simpa using h1,fun nm hn=>il.2 (.inl hn)⟩
   | succ j=>
    obtain ⟨lj,a1,a2⟩:=k2 j (by simpa using hj);exact ⟨lj,by simpa using a1,fun nm hn=>il.2 (.inr (a2 nm hn))⟩
  ·rcases il.1 p6 with hn | hn
   ·exact ⟨0,l1,by simp,by simpa using h1,hn⟩
   ·obtain ⟨j,lj,a1,a2,a3⟩:=k3 nm hn;exact ⟨j+1,lj,by simpa using a1,by simpa using a2,a3⟩
theorem UE (n:Nat) (hn:0 < n):∀ (k:Nat) (cs:List AV),cs.length=k * n->(qy n k cs).length=k/\(qy n k cs).flatten=cs/\∀ x∈qy n k cs,x.length=n/\∀ c∈x,c∈cs
 | 0,cs,h=>by
  have:cs=[]:=oN (by simpa using h);subst this;simp[qy]
 | k+1,cs,h=>by
  rw[qq] at h;obtain ⟨h1,h2,h3⟩:=UE n hn k (cs.drop n) (by simp;omega);refine ⟨by simp[qy,h1],by simp[qy,h2],fun x hx=>?_⟩;simp only[qy,gE] at hx
  rcases hx with rfl | hx
  ·exact ⟨by simp;omega,fun c hc=>GD hc⟩
  ·exact ⟨(h3 x hx).1,fun c hc=>List.mem_of_mem_drop ((h3 x hx).2 c hc)⟩
theorem qlm {sh:Sh} {k:Nat} {cs:List AV} (hl:cs.length=k * sh.size) (iO:0 < sh.size) (iT:∀ c∈cs,di c=true) (hpl:∀ c∈cs,pl c=true) :
  (ll sh k cs).length=k/\cW (ll sh k cs)=cs/\∀ e∈ll sh k cs,c9 sh e=true/\pl e=true:=by
 cases sh with
 | none=>
  simp only[Sh.size,kV] at hl;have ht:cs.take k=cs:=jQ (by omega);simp only[ll,ht];refine ⟨hl,?_,fun e he=>⟨iT e he,hpl e he⟩⟩
  have p5:∀ l:List AV,(∀ c∈l,di c=true)->cW l=l:=by
   intro l
   induction l with
   | nil=>intro _;rfl
   | cons c l ih=>
    intro h
    have hc:c.cells=[c]:=by
     have:=h c (by simp)
     cases c<;>first | rfl | (simp[di] at this)
    show c.cells++cW l=c::l;rw[hc,ih fun x hx=>h x (by simp[hx])];rfl
  exact p5 cs iT
 | some n=>
  simp only[Sh.size] at hl iO;obtain ⟨h1,h2,h3⟩:=UE n iO k cs hl
  have ql9:∀ l:List AV,(∀ c∈l,pl c=true)->lB l=true:=by
   intro l
   induction l with
   | nil=>intro _;rfl
   | cons c l ih=>intro h;simp only[lB,b7];exact ⟨h c (by simp),ih fun x hx=>h x (by simp[hx])⟩
  refine ⟨by simp[ll,h1],?_,fun e he=>?_⟩
  ·have hfl:∀ L:List (List AV),cW (L.map .agg)=L.flatten:=by
    intro L
    induction L with
    | nil=>rfl
    | cons x L ih=>
     show (AV.agg x).cells++cW (L.map .agg)=x++L.flatten;rw[ih];rfl
   show cW ((qy n k cs).map .agg)=cs;rw[hfl,h2]
  ·obtain ⟨x,hx,rfl⟩:=jf.1 he;obtain ⟨a1,a2⟩:=h3 x hx
   refine ⟨?_,?_⟩
   ·simp only[c9,b7,tw,ga];exact ⟨a1,fun c hc=>iT c (a2 c hc)⟩
   ·simp only[pl];exact ql9 x fun c hc=>hpl c (a2 c hc)
variable {B:Nat} {m:af}
theorem yj (hm:MemR B w g m):∀ (k:Nat) (x x':AV) (l:List Nat) (v:Value),V w g x v->bG m k x=some (x',l) ->
  (∀ nm∈l,∃ cs,m.get nm=some (.obj false cs))/\cl x'=true /\
  ∀ g2:G,(∀ b off,g2.wr b off->g.wr b off)->(∀ b,g2.box b->g.box b)->(∀ nm∈l,∀ b,g.loc nm=some b->∀ off,¬ g2.wr b off)->(jd x'=true\/∀ nm cs b,m.get nm=some (.obj true cs)->g.loc nm=some b->∀ off,¬ g2.wr b off)->V w g2 x' v:=by
 intro k
 induction k with
 | zero=>intro x x' l v _ h;simp[bG] at h
 | succ k ih=>
  intro x x' l v hV h
  have jt:∀ (cs rs:List AV) (l:List Nat) (f:Nat->Value),(∀ j,j < cs.length->V w g (cs.getD j .any) (f j))->eY (bG m k) cs=some (rs,l) ->
    (∀ nm∈l,∃ cs,m.get nm=some (.obj false cs))/\uM rs=true/\rs.length=cs.length /\
    ∀ g2:G,(∀ b off,g2.wr b off->g.wr b off)->(∀ b,g2.box b->g.box b)->(∀ nm∈l,∀ b,g.loc nm=some b->∀ off,¬ g2.wr b off)->(mh rs=true\/∀ nm cs b,m.get nm=some (.obj true cs)->g.loc nm=some b->∀ off,¬ g2.wr b off)->∀ j,j < rs.length->V w g2 (rs.getD j .any) (f j):=by
   intro cs rs l f hv qz;obtain ⟨k1,k2,k3⟩:=Eh _ _ _ _ qz
   refine ⟨fun nm hn=>?_,TL fun x hx=>?_,k1,fun g2 c1 c2 c3 c4 j hj=>?_⟩
   ·obtain ⟨j,lj,a1,a2,a3⟩:=k3 nm hn;exact (ih _ _ _ _ (hv j a1) a2).1 nm a3
   ·obtain ⟨j,hj,rfl⟩:=CD.1 hx;obtain ⟨lj,a1,_⟩:=k2 j (by omega);have:=(ih _ _ _ _ (hv j (by omega)) a1).2.1;simpa [aS,hj] using this
   ·obtain ⟨lj,a1,a2⟩:=k2 j (by omega);refine (ih _ _ _ _ (hv j (by omega)) a1).2.2 g2 c1 c2 (fun nm hn=>c3 nm (a2 nm hn)) (c4.imp (fun h=>?_) id);exact y5 h _ (pF hj)
  cases hV with
  | any=>simp[bG] at h;obtain ⟨rfl,rfl⟩:=h;exact ⟨by simp,rfl,fun _ _ _ _ _=>.any _⟩
  | int=>simp[bG] at h;obtain ⟨rfl,rfl⟩:=h;exact ⟨by simp,rfl,fun _ _ _ _ _=>.int _ _⟩
  | bool=>simp[bG] at h;obtain ⟨rfl,rfl⟩:=h;exact ⟨by simp,rfl,fun _ _ _ _ _=>.bool _⟩
  | str=>simp[bG] at h;obtain ⟨rfl,rfl⟩:=h;exact ⟨by simp,rfl,fun _ _ _ _ _=>.str _⟩
  | nilp=>simp[bG] at h;obtain ⟨rfl,rfl⟩:=h;exact ⟨by simp,rfl,fun _ _ _ _ _=>.nilp⟩
  | nilf=>simp[bG] at h;obtain ⟨rfl,rfl⟩:=h;exact ⟨by simp,rfl,fun _ _ _ _ _=>.nilf⟩
  | nile=>simp[bG] at h;obtain ⟨rfl,rfl⟩:=h;exact ⟨by simp,rfl,fun _ _ _ _ _=>.nile⟩
  | nilm=>simp[bG] at h;obtain ⟨rfl,rfl⟩:=h;exact ⟨by simp,rfl,fun _ _ _ _ _=>.nilm⟩
  | vec=>simp[bG] at h
  | mref=>simp[bG] at h;obtain ⟨rfl,rfl⟩:=h;exact ⟨by simp,rfl,fun _ _ _ _ _=>.any _⟩
  | nils sh o ho=>
   rcases ho with rfl | rfl<;>(simp[bG] at h;obtain ⟨rfl,rfl⟩:=h;exact ⟨by simp,rfl,fun _ _ _ _ _=>.nils _ _ (by simp)⟩)
  | lst sh o es a cap us hs hc hmx hsh hcell hv ho=>
   have wK:V w g (.lst sh false .no es) (.slice (some a) es.length cap):=.lst sh .no es a cap us hs hc hmx hsh hcell hv trivial;have UQ:V w g (.lst sh false o es) (.slice (some a) es.length cap):=.lst sh o es a cap us hs hc hmx hsh hcell hv ho
   cases o with
   | no=>simp[bG] at h;obtain ⟨rfl,rfl⟩:=h;exact ⟨by simp,rfl,fun g2 c1 c2 _ _=>Ly UQ rfl c1 c2⟩
   | full=>simp[bG] at h;obtain ⟨rfl,rfl⟩:=h;exact ⟨by simp,rfl,fun g2 c1 c2 _ _=>Ly UQ rfl c1 c2⟩
   | tok=>simp[bG] at h;obtain ⟨rfl,rfl⟩:=h;exact ⟨by simp,rfl,fun g2 c1 c2 _ _=>Ly wK rfl c1 c2⟩
  | arr nm off n sh a cap hs hc hmx hl=>
   simp only[bG,bc] at h;obtain ⟨⟨bx,cs⟩,p7,h⟩:=h;simp only at h
   split at h
   ·rename_i mH;simp only[b7,xy,oq] at mH;obtain ⟨rfl,hle⟩:=mH;simp only[bc] at h;obtain ⟨⟨rs,l1⟩,qz,h⟩:=h;simp only at h
    split at h
    ·rename_i bg;simp only[b7,ga] at bg;obtain ⟨iT,hpl⟩:=bg;simp only[bM,dT] at h;obtain ⟨rfl,rfl⟩:=h;have aU:=obj?_get p7;obtain ⟨b,c,e,o1,o2,o3,o4,o5,o6,o7⟩:=hm.obj nm false cs aU
     obtain ⟨p1,p2,p3,p4⟩:=jt ((cs.drop off).take (n * sh.size)) rs l1 (fun j=>c.getD (off+j) undef) (fun j hj=>by
      simp only[jP,qT] at hj;have:=o5 (off+j) (by omega)
      simpa [aS,qo,rU,show j < n * sh.size by omega] using this) qz
     have Ba:rs.length=n * sh.size:=by rw[p3];simp;omega
     refine ⟨fun x hx=>?_,rfl,fun g2 c1 c2 c3 c4=>?_⟩
     ·rcases gE.1 hx with rfl | hx
      ·exact ⟨cs,aU⟩
      ·exact p1 x hx
     ·have hrs:∀ c∈rs,pl c=true:=OQ hpl
      by_cases lR:n=0
      ·subst lR;have Vc:ll sh 0 rs=[]:=by cases sh<;>simp[ll,qy]
       rw[Vc];exact .lst sh .no [] a cap (fun _=>undef) hs (kW _) hmx (by simp) (by simp) (by simp) trivial
      ·obtain ⟨nc,ha⟩:=hl.resolve_left lR;obtain rfl:a.block=b:=by simpa [nc] using o1
       by_cases hsz:sh.size=0
       ·
        cases sh with
        | none=>simp[Sh.size] at hsz
        | some s=>
         simp only[Sh.size] at hsz;subst hsz;have ve:rs=[]:=oN (by rw[Ba];simp[Sh.size]);subst ve
         have hg:∀ n,qy 0 n ([]:List AV)=List.replicate n []:=by
          intro n
          induction n with
          | zero=>rfl
          | succ n ih=>simp[qy,ih,xK]
         have hes:ll (some 0) n []=List.replicate n (.agg []):=by simp[ll,hg]
         have hlen:n=(ll (some 0) n []).length:=by rw[hes];simp
         have hfl:cW (ll (some 0) n [])=[]:=by
          rw[hes]
          have:∀ n,cW (List.replicate n (.agg []))=[]:=by
           intro n
           induction n with
           | zero=>rfl
           | succ n ih=>
            show (AV.agg []).cells++cW (List.replicate n (.agg []))=[];rw[ih];rfl
          exact this n
         have hV:=V.lst (w:=w) (g:=g2) (some 0) .no (ll (some 0) n []) a cap (fun _=>undef) hs (by omega) hmx (fun e he=>by
          rw[hes] at he;obtain rfl:=List.eq_of_mem_replicate he
          exact ⟨rfl,rfl⟩) (by rw[hfl];simp) (by rw[hfl];simp) trivial
         rw[<- hlen] at hV;exact hV
       ·obtain ⟨q1,q2,q3⟩:=qlm Ba (by omega) iT hrs
        have hV:=V.lst (w:=w) (g:=g2) sh .no (ll sh n rs) a cap (fun j=>c.getD (off+j) undef) hs (by omega) hmx q3 (fun j hj=>by
          rw[q2,Ba] at hj;have qlr:a.off=off:=by rw[ha.1]
          refine ⟨?_,c3 nm (by simp) _ nc _,fun hb=>?_⟩
          ·rw[qlr,cell_of_row w _ _ c e (0,0) o3];simp[Array.getD,show off+j < c.size by omega]
          ·have:=o7.1 (c2 _ hb)
           cases this) (fun j hj=>by
          rw[q2] at hj ⊢;refine p4 g2 c1 c2 (fun x hx=>c3 x (by simp[hx])) (.inl ?_) j hj
          exact OR rs hpl) trivial
        rw[q1] at hV;exact hV
    ·cases h
   ·cases h
  | ptr nm off b hl=>
   simp only[bG,bc] at h;obtain ⟨⟨bx,cs⟩,p7,h⟩:=h;simp only at h
   split at h
   ·rename_i hbx;simp only[gP,dT] at h;obtain ⟨⟨rs,l1⟩,qz,rfl,rfl⟩:=h;have aU:=obj?_get p7;obtain ⟨b',c,e,o1,o2,o3,o4,o5,o6,o7⟩:=hm.obj nm bx cs aU;obtain rfl:b=b':=by simpa [hl] using o1
    obtain ⟨p1,p2,p3,p4⟩:=jt (cs.drop off) rs l1 (fun j=>c.getD (off+j) undef) (fun j hj=>by
     simp only[qT] at hj;have:=o5 (off+j) (by omega)
     simpa [aS,rU] using this) qz
    refine ⟨p1,by simpa [cl] using p2,fun g2 c1 c2 c3 c4=>?_⟩;have c4':=c4.resolve_left (by simp[jd]);refine .vptr rs b off (fun j=>c.getD (off+j) undef) (fun j hj=>?_) (p4 g2 c1 c2 c3 (.inr c4'));rw[p3] at hj;simp only[qT] at hj;refine ⟨?_,c4' nm cs _ (hbx▸aU) hl _⟩;rw[cell_of_row w _ _ c e (0,0) o3];simp[Array.getD,show off+j < c.size by omega]
   ·cases h
  | vptr cs b off us hcell hv=>
   simp only[bG,gP,dT] at h;obtain ⟨⟨rs,l1⟩,qz,rfl,rfl⟩:=h;obtain ⟨p1,p2,p3,p4⟩:=jt cs rs l1 us hv qz;refine ⟨p1,by simpa [cl] using p2,fun g2 c1 c2 c3 c4=>?_⟩;refine .vptr rs b off us (fun j hj=>?_) (p4 g2 c1 c2 c3 (.inr (c4.resolve_left (by simp[jd]))));rw[p3] at hj;exact ⟨(hcell j hj).1,fun h=>(hcell j hj).2 (c1 _ _ h)⟩
  | agg cs vs hl hv=>
   simp only[bG,gP,dT] at h;obtain ⟨⟨rs,l1⟩,qz,rfl,rfl⟩:=h;obtain ⟨p1,p2,p3,p4⟩:=jt cs rs l1 _ hv qz;exact ⟨p1,by simpa [cl] using p2,fun g2 c1 c2 c3 c4=>.agg _ _ (p3.trans hl) (p4 g2 c1 c2 c3 (c4.imp (fun h=>by simpa [jd] using h) id))⟩
  | tup cs vs hl hv=>
   simp only[bG,gP,dT] at h;obtain ⟨⟨rs,l1⟩,qz,rfl,rfl⟩:=h;obtain ⟨p1,p2,p3,p4⟩:=jt cs rs l1 _ hv qz;exact ⟨p1,by simpa [cl] using p2,fun g2 c1 c2 c3 c4=>.tup _ _ (p3.trans hl) (p4 g2 c1 c2 c3 (c4.imp (fun h=>by simpa [jd] using h) id))⟩
  | fn f cs vs hl hv=>
   simp only[bG,gP,dT] at h;obtain ⟨⟨rs,l1⟩,qz,rfl,rfl⟩:=h;obtain ⟨p1,p2,p3,p4⟩:=jt cs rs l1 _ hv qz;exact ⟨p1,by simpa [cl] using p2,fun g2 c1 c2 c3 c4=>.fn _ _ _ (p3.trans hl) (p4 g2 c1 c2 c3 (c4.imp (fun h=>by simpa [jd] using h) id))⟩
end
end Go.Ab
namespace Go.Ab
open Go.RowKit
def th [WInv] (P:Program) (f:Nat) (args:List AV) (m:af) (v:AV) (m':af):Prop:=
 ∀ (B:Nat) (w:World) (g:G) (vs:Array Value),MemR B w g m->B<=w.heap.size->args.length=vs.size->(∀ j,j < args.length->V w g (args.getD j .any) (vs.getD j undef)) ->
  Calls P f vs w fun e w'=>∃ v' g',e=.returned v'/\Step B w g w' g'/\MemR B w' g' m'/\V w' g' v v'
def B3 (P:Program) (d:Deferred):Prop:=∃ fv cap f args,d.target=.fn fv cap/\∀ w,(invoke d.target d.args).run P w=.ok (.enter f args) w/\CallsD P f args .returning w fun e u w'=>(∃ v,e=.returned v)/\u=.returning/\w'=w
def JK (P:Program) (ds:List Deferred):Prop:=∀ d∈ds,B3 P d
def iW (P:Program) (a' a:Act):Prop:=JK P a.defers->JK P a'.defers
theorem iW.refl (P:Program) (a:Act):iW P a a:=fun h=>h
theorem iW.trans {P:Program} {a b c:Act} (h:iW P c b) (k:iW P b a):iW P c a:=fun x=>h (k x)
theorem iW.of_eq {P:Program} {a b:Act} (h:b.defers=a.defers):iW P b a:=fun x=>by rw[h];exact x
theorem Wy {P:Program} {fn:Func} {tmps:Array Value} {R:Ending->World->Prop} {w:World} (h:∃ v,(results fn tmps).run P w=.ok v w/\R (.returned v) w):∀ ds:List Deferred,JK P ds->Leaves P fn tmps R ds .returning w
 | [],_=>h
 | d::ds,hb=>by
  obtain ⟨fv,cap,f,args,h1,h2⟩:=hb d fN;obtain ⟨h3,h4⟩:=h2 w;refine ⟨by simp,fv,cap,f,args,h1,h3,fun c cs hc=>?_⟩;obtain ⟨e,u',w',fr,⟨⟨v,rfl⟩,rfl,rfl⟩,h5⟩:=h4 c cs hc;exact ⟨_,_,_,fr,Wy h ds fun d hd=>hb d (fJ _ hd),h5⟩
structure CfgOk [WInv] (C:Cfg):Prop where
 ben:∀ (g:Nat),C.ben g=true->∀ caps:Array Value,B3 C.P { target:=.fn (.func g) caps,args:=#[] }
 name:∀ (g:Nat) (fn:Func),C.P.funcs[g]?=some fn->(fn.name == "runtime.NumGoroutine")=false
 lib:∀ (g:Nat) h,C.lib g=some h->(∃ fn,C.P.funcs[g]?=some fn/\fn.body.isSome)/\∀ vs v,h vs=some v->∀ m,th C.P g vs m v m
 libm:∀ (g:Nat) h,C.libm g=some h->(∃ fn,C.P.funcs[g]?=some fn/\fn.body.isSome)/\∀ vs m v m',h vs m=some (v,m')->th C.P g vs m v m'
section
variable [WInv] {C:Cfg} {B:Nat} {w:World} {g:G} {m:af}
theorem pV.put {ts:List AV} {a:Act} (h:pV w g ts a.tmps) {v:AV} {v':Value} (hv:V w g v v') (d:Option Nat):pV w g (gj ts d v) (a.put d v').tmps:=by
 cases d with
 | none=>exact h
 | some d=>
  refine ⟨by simp[gj,Act.put,h.1],fun t=>?_⟩;simp only[gj,Act.put,aS,jE,CB,Fc]
  by_cases he:d=t
  ·subst he
   by_cases hl:d < ts.length
   ·have wG:d < a.tmps.size:=by have:=h.1;omega
    simp only[an hl,an wG,bw,dh];exact hv
   ·have wG:¬ d < a.tmps.size:=by have:=h.1;omega
    simp only[ai hl,ai wG,bw,Option.getD_none];exact .any _
  ·simp only[ai he];simpa [aS,jE] using h.2 t
theorem Yb (a:Act) (d:Option Nat) (v:Value):(a.put d v).defers=a.defers:=by cases d<;>rfl
theorem Uh {ts:List AV} {a:Act} (h:pV w g ts a.tmps) (x:Operand):V w g (ev ts x) (a.eval x):=by
 cases x with
 | tmp t=>exact h.2 t
 | const v=>exact Sy w g v
 | global _=>exact .any _
 | func f=>exact .fn f [] #[] rfl (by simp)
theorem qp1 {P:Program} {o:Oper} {a:Act} {next:Act->World->Prop} {Q:Exit->Act->World->Prop} {v:AV} {m':af} {s:Sem Value} (hs:∀ w,(execOp a.eval o).run P w=(do pure (.value (<- s)):Sem Next).run P w) (h:nZ P B w g s v m')
  (hn:∀ v' w' g',Step B w g w' g'->MemR B w' g' m'->V w' g' v v'->next (a.put o.dst v') w'):o.wp P a w next Q:=by
 obtain ⟨v',w',g',h1,h2,h3,h4⟩:=h;unfold Oper.wp;rw[hs];simp only[Sem.run_bind,h1,Result.andThen_ok,Sem.run_pure];exact hn v' w' g' h2 h3 h4
theorem qp0 {P:Program} {o:Oper} {a:Act} {next:Act->World->Prop} {Q:Exit->Act->World->Prop} {c:Call} {fo:Operand} (ho:o.op=.call c) (hc:c.callee=.value fo) {f:Nat} {caps:Array Value} (hf:a.eval fo=.func (.func f) #[] caps)
  {fn:Func} (hfn:P.funcs[f]?=some fn) (hname:(fn.name == "runtime.NumGoroutine")=false) (hbody:fn.body.isSome) {R:Ending->World->Prop} (h:Calls P f (c.args.map a.eval++caps) w R)
  (hR:∀ e w',R e w'->∃ v',e=.returned v'/\next (a.put o.dst v') w'):o.wp P a w next Q:=by
 have oE:(execOp a.eval o).run P w=.ok (.enter f (c.args.map a.eval++caps)) w:=by
  have hb:fn.body.isNone=false:=by cases hb:fn.body<;>simp_all
  simp only[execOp,ho,resolve,hc,hf,Deferred.ofValue,invoke,callFunc,hfn,hname,hb,Sem.run_bind,Sem.run_pure,run_program,Result.andThen_ok,jX,me,Array.empty_append]
 unfold Oper.wp;rw[oE,Oper.upon_enter];refine h.mono fun e w' hr=>?_;obtain ⟨v',rfl,hn⟩:=hR e w' hr;exact hn
def Ay (g:G) (m:af) (l:List Nat) (ex:Bool):G where
 wr b off:=g.wr b off/\(¬ ∃ nm∈l,g.loc nm=some b)/\(ex=true->¬ ∃ nm cs,m.get nm=some (.obj true cs)/\g.loc nm=some b)
 box:=g.box
 loc _:=none
 tloc _ _:=none
def qu (g:G) (l:List Nat) (bx:Nat->Prop):G where
 wr b off:=g.wr b off/\¬ ∃ nm∈l,g.loc nm=some b
 box:=bx
 loc:=g.loc
 tloc:=g.tloc
theorem kI:∀ (l:List Nat) (m:af) (nm:Nat),af.get (ju m l) nm=if nm∈l then none else m.get nm
 | [],m,nm=>by simp[ju]
 | x::l,m,nm=>by
  have:=kI l (m.set x none) nm;show af.get (ju (m.set x none) l) nm=_;rw[this,gF]
  by_cases h1:nm∈l
  ·simp[h1]
  ·by_cases h2:nm=x
   ·subst h2;simp
   ·simp[h1,h2]
theorem Bk:∀ (l:List Nat) (m:af),(ju m l).length=m.length
 | [],m=>rfl
 | x::l,m=>by
  show (ju (m.set x none) l).length=_;rw[Bk l];simp
theorem qhz (hm:MemR B w g m) (hB:B<=w.heap.size) {w':World} {gb:G} {mk:af} (gK:Step B w g w' gb) (lp:MemR B w' gb mk) (hlen:mk.length=m.length) (tJ:gb.loc=g.loc) (AZ:gb.tloc=g.tloc) (gZ:∀ nm e,mk.get nm=some e->m.get nm=some e)
  (hblk:∀ b,b < w.heap.size->w'.heap[b]?=w.heap[b]?) {b:Nat} {c:Array Value} {e:TypeId} {cs:List AV} (hb:w.heap.size<=b) (sD:w'.heap[b]?=some (Obj.cells c e (0,0))) (gV:cs.length<=c.size) (sv:¬ gb.box b)
  (hV:∀ j,j < cs.length->V w' (gL gb m.length b false) (cs.getD j .any) (c.getD j undef)) :
  Step B w g w' (gL gb m.length b false)/\MemR B w' (gL gb m.length b false) (mk++[some (.obj false cs)]):=by
 have nF:=hm.fresh m.length (aQ _)
 have s:Step B w g w' (gL gb m.length b false):=by
  refine ⟨gK.below,gK.cell,gK.shape,fun b' off iy hn h=>?_,fun b' off iy=>?_,fun b' iy=>?_,fun nm b' h=>?_,fun nm n b' h=>gK.tloc nm n b' h⟩
  ·rcases h with h | h
   ·omega
   ·exact gK.wr b' off iy hn h
  ·constructor
   ·rintro (h | h)
    ·omega
    ·exact (gK.wrB b' off iy).1 h
   ·exact fun h=>.inr ((gK.wrB b' off iy).2 h)
  ·simp only[gL,jX,false_and,false_or];exact gK.box b' iy
  ·simp only[gL]
   split
   ·rename_i he;rw[he,nF.1] at h;cases h
   ·exact gK.loc nm b' h
 have aU:∀ x,af.get (mk++[some (.obj false cs)]) x=if x < m.length then mk.get x else if x=m.length then some (.obj false cs) else none:=by
  intro x;unfold af.get;rw[qn,hlen]
  by_cases h1:x < m.length
  ·rw[an h1,an h1]
  ·rw[ai h1,ai h1]
   by_cases h2:x=m.length
   ·rw[an h2,h2,pz];rfl
   ·rw[ai h2,n5 (by simp;omega)];rfl
 have UY:∀ x b',ba (gL gb m.length b false) (mk++[some (.obj false cs)]) x=some b'->(x < m.length/\ba gb mk x=some b'/\b' < w.heap.size)\/(x=m.length/\b'=b):=by
  intro x b' iy
  rcases pW iy with ⟨bx',cs',h1,h2⟩ | ⟨n',sz',h1,h2⟩ | ⟨kk,es,h1,h2⟩
  rotate_left 2
  ·rw[aU] at h1
   split at h1
   ·rename_i hlt;simp only[gL,ai (Nat.ne_of_lt hlt)] at h2;refine .inl ⟨hlt,by simp[ba,h1,h2],?_⟩;obtain ⟨b0,es0,cl0,o1,o2,o3,_⟩:=hm.mp x kk es (gZ _ _ h1);rw[tJ] at h2;obtain rfl:b'=b0:=by simpa [h2] using o1
    exact (fF.1 o3).1
   ·split at h1<;>cases h1
  ·rw[aU] at h1
   split at h1
   ·rename_i hlt;simp only[gL,ai (Nat.ne_of_lt hlt)] at h2;refine .inl ⟨hlt,by simp[ba,h1,h2],?_⟩;obtain ⟨b0,c0,e0,o1,o2,o3,_⟩:=hm.obj x bx' cs' (gZ _ _ h1);rw[tJ] at h2;obtain rfl:b'=b0:=by simpa [h2] using o1
    exact (fF.1 o3).1
   ·split at h1
    ·rename_i he;simp only[gL,an he] at h2;exact .inr ⟨he,by simpa using h2.symm⟩
    ·cases h1
  ·rw[aU] at h1
   split at h1
   ·rename_i hlt
    refine .inl ⟨hlt,?_,?_⟩
    ·simp only[gL] at h2;simp[ba,h1,h2]
    ·obtain ⟨b0,c0,e0,o1,o2,o3,_⟩:=hm.tok x n' sz' (gZ _ _ h1);simp only[gL] at h2;rw[AZ] at h2;obtain rfl:b'=b0:=by simpa [h2] using o1
     exact (fF.1 o3).1
   ·split at h1<;>cases h1
 refine ⟨s,?_,?_,?_,?_,?_,?_,?_,?_,?mp⟩
 case mp=>
  intro x kk es hn;rw[aU] at hn
  split at hn
  ·rename_i hlt;obtain ⟨b1,es1,cl1,h1,h2,h3,h4⟩:=hm.mp x kk es (gZ _ _ hn);exact ⟨b1,es1,cl1,by simp only[gL];rw[ai (Nat.ne_of_lt hlt),tJ];exact h1,h2,(hblk b1 (fF.1 h3).1).trans h3,h4.step s⟩
  ·split at hn<;>cases hn
 ·intro x bx' cs' hn;rw[aU] at hn
  split at hn
  ·rename_i hlt;obtain ⟨b1,c1,e1,h1,h2,h3,h4,h5,h6,h7⟩:=hm.obj x bx' cs' (gZ _ _ hn);obtain ⟨b2,c2,e2,k1,k2,k3,k4,k5,k6,k7⟩:=lp.obj x bx' cs' hn;rw[tJ] at k1;obtain rfl:b1=b2:=by simpa [h1] using k1
   have nc:=(fF.1 h3).1;refine ⟨b1,c1,e1,s.loc _ _ h1,h2,(hblk b1 nc).trans h3,h4,fun j hj=>(h5 j hj).step s,fun off=>.inr (k6 off),?_⟩;simp only[gL,jX,false_and,false_or];exact k7
  ·split at hn
   ·rename_i he;simp only[bM,Ent.obj.injEq] at hn;obtain ⟨rfl,rfl⟩:=hn;refine ⟨b,c,e,by simp[gL,he],by omega,sD,gV,hV,fun off=>.inl rfl,?_⟩;simp only[gL,jX,false_and,false_or,iff_false];exact sv
   ·cases hn
 ·intro x n sz hn;rw[aU] at hn
  split at hn
  ·obtain ⟨b1,c1,e1,h1,h2,h3,h4,h5,h6⟩:=lp.tok x n sz hn;refine ⟨b1,c1,e1,h1,h2,h3,fun off ho=>.inr (h4 off ho),h5,?_⟩;simp only[gL,jX,false_and,false_or];exact h6
  ·split at hn<;>cases hn
 ·intro x hn;rw[aU] at hn
  split at hn
  ·rename_i hlt;have:=lp.resv x hn;exact ⟨by simp only[gL];rw[ai (Nat.ne_of_lt hlt)];exact this.1,this.2⟩
  ·split at hn<;>cases hn
 ·intro x hn;rw[aI,hlen] at hn;have:=lp.fresh x (by rw[hlen];simp at hn;omega);exact ⟨by simp only[gL];rw[ai (by simp at hn;omega)];exact this.1,this.2⟩
 ·intro x x' b' h1 h2
  rcases UY _ _ h1 with ⟨a1,a2,a3⟩ | ⟨a1,a2⟩<;>rcases UY _ _ h2 with ⟨b1,b2,b3⟩ | ⟨b1,b2⟩
  ·exact lp.inj _ _ _ a2 b2
  ·omega
  ·omega
  ·omega
 ·rintro b' off (rfl | hw)
  ·exact (fF.1 sD).1
  ·exact lp.wrLt b' off hw
 ·exact lp.inv
 ·intro b' hw;simp only[gL,jX,false_and,false_or] at hw;exact lp.boxLt b' hw
theorem qoC {w':World} {g' g2:G} {x:AV} {u:Value} (hx:mP x=true) (h:V w' g' x u)
  (hne:∀ bl off,¬ g'.wr bl off->¬ g'.box bl->(∃ k n,w'.cell? ⟨bl,off,none⟩=some (.int k n))->¬ g2.wr bl off) (hbx:∀ bl,g2.box bl->g'.box bl):V w' g2 x u:=by
 cases h with
 | bool b=>exact .bool b
 | nils sh o ho=>exact .nils sh o ho
 | lst sh o es a cap us hs hc hm hsh hcell hv ho=>
  cases sh with
  | some n=>simp[mP] at hx
  | none=>
  have wK:(es.all NW=true)/\∀ nm e,o≠.tok nm e:=by
   cases o with
   | no=>exact ⟨hx,fun _ _ h=>by cases h⟩
   | full=>exact ⟨hx,fun _ _ h=>by cases h⟩
   | tok nm e=>simp[mP] at hx
  have hint:∀ e∈es,∃ k n,e=.int k n:=by
   intro e he;have:=ga.1 wK.1 e he;cases e<;>simp[NW] at this;exact ⟨_,_,rfl⟩
  have qlB:∀ ds:List AV,(∀ e∈ds,∃ k n,e=.int k n)->cW ds=ds:=by
   intro ds
   induction ds with
   | nil=>intro _;rfl
   | cons e ds ih=>
    intro hi;obtain ⟨k,n,rfl⟩:=hi e (by simp);show _::cW ds=_;rw[ih (fun e he=>hi e (by simp[he]))]
  have D6:∀ j,j < (cW es).length->∃ k n,(cW es).getD j .any=.int k n/\us j=.int k n:=by
   intro j hj;have h1:=hv j hj;obtain ⟨k,n,he⟩:=hint ((cW es).getD j .any) (by rw[qlB es hint] at hj ⊢;exact pF hj);rw[he] at h1;generalize us j=u at h1;cases h1;exact ⟨k,n,he,rfl⟩
  refine .lst _ _ es a cap us hs hc hm hsh (fun j hj=>?_) (fun j hj=>?_) ?_
  ·obtain ⟨c1,c2,c3⟩:=hcell j hj;obtain ⟨k,n,_,hu⟩:=D6 j hj;exact ⟨c1,hne _ _ c2 c3 ⟨k,n,by rw[c1,hu]⟩,fun hb=>c3 (hbx _ hb)⟩
  ·obtain ⟨k,n,he,hu⟩:=D6 j hj;rw[he,hu];exact .int k n
  ·cases o with
   | no=>trivial
   | full=>exact ho
   | tok nm e=>exact absurd rfl (wK.2 nm e)
 | any=>simp[mP] at hx
 | int=>simp[mP] at hx
 | str=>simp[mP] at hx
 | arr=>simp[mP] at hx
 | ptr=>simp[mP] at hx
 | mref=>simp[mP] at hx
 | vec=>simp[mP] at hx
 | vptr=>simp[mP] at hx
 | nilp=>simp[mP] at hx
 | nilf=>simp[mP] at hx
 | nile=>simp[mP] at hx
 | nilm=>simp[mP] at hx
 | agg=>simp[mP] at hx
 | tup=>simp[mP] at hx
 | fn=>simp[mP] at hx
theorem qpA (hm:MemR B w g m) (hB:B<=w.heap.size) {P:Program} {f:Nat} {call:Nat->List AV->af->OM} (DD:∀ args m v m',call f args m=some (v,m')->th P f args m v m') {args rs:List AV} {l:List Nat} {vs:Array Value}
  (hl:args.length=vs.size) (hv:∀ j,j < args.length->V w g (args.getD j .any) (vs.getD j undef)) (hf:eY (bG m j6) args=some (rs,l)) {v0 r:AV} {m0 mr:af} (hc:call f rs []=some (v0,m0)) (mL:Pm m.length m0 v0=some (r,mr)) :
  Calls P f vs w fun e w'=>∃ v' g',e=.returned v'/\Step B w g w' g'/\MemR B w' g' (ju m l++mr)/\V w' g' r v':=by
 obtain ⟨k1,k2,k3⟩:=Eh _ _ _ _ hf
 have p7:∀ nm∈l,∃ cs,m.get nm=some (.obj false cs):=fun nm hn=>by
  obtain ⟨j,lj,a1,a2,a3⟩:=k3 nm hn;exact (yj hm j6 _ _ _ _ (hv j a1) a2).1 nm a3
 have pY:∀ j,j < rs.length->V w (Ay g m l (!mh rs)) (rs.getD j .any) (vs.getD j undef):=fun j hj=>by
  obtain ⟨lj,a1,a2⟩:=k2 j (by omega);refine (yj hm j6 _ _ _ _ (hv j (by omega)) a1).2.2 _ (fun b off h=>h.1) (fun b h=>h) (fun nm hn b hb off h=>h.2.1 ⟨nm,a2 nm hn,hb⟩) ?_
  by_cases hn:mh rs=true
  ·exact .inl (y5 hn _ (pF hj))
  ·exact .inr fun nm cs b aU jA off h=>h.2.2 (by simpa using hn) ⟨nm,cs,aU,jA⟩
 have Nh:MemR w.heap.size w (Ay g m l (!mh rs)) []:=by
  refine ⟨fun nm bx cs h=>by simp[af.get] at h,fun nm n sz h=>by simp[af.get] at h,fun nm h=>by simp[af.get] at h,fun nm _=>⟨rfl,fun _=>rfl⟩,fun nm nm' b h=>by simp[ba,af.get] at h,fun b off h=>hm.wrLt b off h.1,fun w' k=>hm.inv w' (k.mono hB),hm.boxLt,fun nm kk es h=>by simp[af.get] at h⟩
 refine (DD rs [] v0 m0 hc w.heap.size w (Ay g m l (!mh rs)) vs Nh (aQ _) (by omega) pY).mono ?_;rintro e w' ⟨v',g',rfl,s,hm',hV⟩;have hblk:∀ b,b < w.heap.size->w'.heap[b]?=w.heap[b]?:=fun b hb=>s.below.block b hb;have hcell:∀ b off u,w.cell? ⟨b,off,none⟩=some u->w'.cell? ⟨b,off,none⟩=some u:=fun b off u hc=>(World.cell?_of_block (w:=w) (a:=⟨b,off,none⟩) (hblk b (tC hc))).trans hc
 have gK:Step B w g w' (qu g l g'.box):=by
  refine ⟨s.below.mono hB,fun b off u _ hc=>hcell b off u hc,fun b c e fr hb=>⟨c,(hblk b (fF.1 hb).1).trans hb,rfl⟩,fun b off _ hn h=>hn h.1,fun b off hb=>?_,fun b hb=>s.box b hb,fun _ _ h=>h,fun _ _ _ h=>h⟩
  constructor
  ·exact fun h=>h.1
  ·intro h;refine ⟨h,?_⟩;rintro ⟨nm,hn,jA⟩;obtain ⟨cs,aU⟩:=p7 nm hn;obtain ⟨b',c,e,o1,o2,_⟩:=hm.obj nm false cs aU;obtain rfl:b=b':=by simpa [jA] using o1
   omega
 have lp:MemR B w' (qu g l g'.box) (ju m l):=by
  have gZ:∀ nm b,ba (qu g l g'.box) (ju m l) nm=some b->ba g m nm=some b:=by
   intro nm b hb
   rcases pW hb with ⟨bx,cs,h1,h2⟩ | ⟨n,sz,h1,h2⟩ | ⟨kk,es,h1,h2⟩
   rotate_left 2
   ·rw[kI] at h1
    split at h1
    ·cases h1
    ·have im:g.loc nm=some b:=h2;simp[ba,h1,im]
   ·rw[kI] at h1
    split at h1
    ·cases h1
    ·have im:g.loc nm=some b:=h2;simp[ba,h1,im]
   ·rw[kI] at h1
    split at h1
    ·cases h1
    ·have im:g.tloc nm n=some b:=h2;simp[ba,h1,im]
  have wL:∀ nm b,nm∉l->ba g m nm=some b->¬ ∃ x∈l,g.loc x=some b:=by
   rintro nm b hn hb ⟨x,hx,jA⟩;obtain ⟨cs,aU⟩:=p7 x hx;have:ba g m x=some b:=by simp[ba,aU,jA]
   exact hn (hm.inj nm x b hb this▸hx)
  refine ⟨fun nm bx cs aU=>?_,fun nm n sz aU=>?_,fun nm aU=>?_,fun nm hn=>hm.fresh nm (by rw[Bk] at hn;exact hn),fun nm nm' b h1 h2=>hm.inj nm nm' b (gZ _ _ h1) (gZ _ _ h2),fun b off h=>qV (hm.wrLt b off h.1) s.below.size,hm.invB (s.below.mono hB),hm'.boxLt,fun nm kk es aU=>by
    rw[kI] at aU
    split at aU
    ·cases aU
    ·obtain ⟨b,es',cl,o1,o2,o3,o4⟩:=hm.mp nm kk es aU
     exact ⟨b,es',cl,o1,o2,(hblk b (fF.1 o3).1).trans o3,o4.step gK⟩⟩
  ·rw[kI] at aU
   split at aU
   ·cases aU
   ·rename_i oC;obtain ⟨b,c,e,o1,o2,o3,o4,o5,o6,o7⟩:=hm.obj nm bx cs aU;have hlt:=(fF.1 o3).1;exact ⟨b,c,e,o1,o2,(hblk b hlt).trans o3,o4,fun j hj=>(o5 j hj).step gK,fun off=>⟨o6 off,wL nm b oC (by simp[ba,aU,o1])⟩,(s.box b hlt).trans o7⟩
  ·rw[kI] at aU
   split at aU
   ·cases aU
   ·rename_i oC;obtain ⟨b,c,e,o1,o2,o3,o4,o5,o6⟩:=hm.tok nm n sz aU;have hlt:=(fF.1 o3).1;exact ⟨b,c,e,o1,o2,(hblk b hlt).trans o3,fun off ho=>⟨o4 off ho,wL nm b oC (by simp[ba,aU,o1])⟩,o5,fun h=>o6 ((s.box b hlt).1 h)⟩
  ·rw[kI] at aU
   split at aU
   ·cases aU
   ·exact hm.resv nm aU
 unfold Pm at mL;split at mL
 case h_2=>cases mL
 rename_i k a k' b sh z o es
 split at mL
 ·rename_i nm ety
  split at mL
  ·cases mL
  ·rename_i n;split at mL
   case h_2=>cases mL
   rename_i c0 sz0 HZ;split at mL
   case isFalse=>cases mL
   rename_i mH;obtain ⟨hc0,nG,yM⟩:=mH;have nG:=nG.symm;subst hc0;subst nG;simp only[bM,dT] at mL;obtain ⟨rfl,rfl⟩:=mL
   cases hV with
   | agg _ vs3 hl3 D5=>
   have h0:=D5 0 (by simp);have h1:=D5 1 (by simp);have h2:=D5 2 (by simp);simp only[pq,xH] at h0 h1 h2;generalize hu0:vs3.getD 0 undef=u0 at h0;generalize hu1:vs3.getD 1 undef=u1 at h1;generalize hu2:vs3.getD 2 undef=u2 at h2;cases h0;cases h1
   cases h2 with
   | nils _ _ ho=>rcases ho with ho | ho<;>cases ho
   | lst _ _ _ ad cap us hs hc hmx hsh hcl hvv ho=>
   obtain ⟨o1,o2,c,o3,o4⟩:=ho;obtain ⟨b1,c1,e1,t1,t2,t3,t4,t5,t6⟩:=hm'.tok nm es.length n HZ;obtain rfl:ad.block=b1:=by simpa [o1] using t1
   have hfl:=sk (fun e he=>(hsh e he).1:∀ e∈es,c9 (some n) e=true)
   have hcu:∀ j,j < (cW es).length->c.getD j undef=us j:=by
    intro j hj;have h3:=(hcl j hj).1;rw[o2,bp,cell_of_row w' ad.block j c ety (0,0) o3] at h3;rw[jE,h3];rfl
   have ql1:∀ j,j < (cW es).length->∀ k n,us j≠.int k n:=by
    intro j hj k n he;have h3:=hvv j hj;have h4:=ga.1 yM _ (pF hj);rw[he] at h3;generalize (cW es).getD j .any=x at h3 h4;cases h3<;>simp[mP] at h4
   have hne:∀ bl off,¬ g'.wr bl off->¬ g'.box bl->(∃ k n,w'.cell? ⟨bl,off,none⟩=some (.int k n))->¬ (gL (qu g l g'.box) m.length ad.block false).wr bl off:=by
    rintro bl off hw hbx ⟨k,n',UZ⟩ hn
    rcases hn with rfl | hn
    ·by_cases hlt:off < (cW es).length
     ·have h3:=(hcl off hlt).1;rw[o2,bp] at h3;rw[h3] at UZ;exact ql1 off hlt k n' (by simpa using UZ)
     ·exact hw (t4 off (by rw[hfl] at hlt;simp only[Sh.size] at hlt;omega))
    ·obtain ⟨lS,ng⟩:=hn;have hlt:=hm.wrLt bl off lS;refine hw ((s.wrB bl off hlt).2 ⟨lS,ng,fun _=>?_⟩);rintro ⟨nm2,cs2,ow,iX⟩;obtain ⟨b2,_,_,q1,_,_,_,_,_,q7⟩:=hm.obj nm2 true cs2 ow;obtain rfl:bl=b2:=by simpa [iX] using q1
     exact hbx ((s.box bl hlt).2 (q7.2 rfl))
   obtain ⟨s2,fU⟩:=qhz hm hB gK lp (Bk l m) rfl rfl (fun nm e hg=>by
    rw[kI] at hg
    split at hg
    ·cases hg
    ·exact hg) hblk t2 o3 (cs:=cW es) (by rw[hfl,o4];exact iM _ hc) t6 (fun j hj=>by
     rw[hcu j hj]
     exact qoC (ga.1 yM _ (pF hj)) (hvv j hj) hne (fun bl h=>by simpa [gL,qu] using h))
   refine ⟨_,_,rfl,s2,fU,.agg _ _ hl3 (fun j hj=>?_)⟩
   match j,hj with
   | 0,_=>rw[hu0];exact .int _ _
   | 1,_=>rw[hu1];exact .int _ _
   | 2,_=>
    rw[hu2];refine .arr _ _ _ _ ad cap hs hc hmx ?_
    rcases hs with hs | hs
    ·exact .inl (by omega)
    refine .inr ⟨by simp[gL],?_,c,_,o3,by rw[bp,o4];exact aQ _⟩;obtain ⟨adb,ado,ads⟩:=ad;simp only at o2 hs;rw[o2,hs]
   | j+3,hj=>simp at hj;omega
 ·rename_i wK
  split at mL
  ·split at mL
   ·simp only[bM,dT] at mL;obtain ⟨rfl,rfl⟩:=mL;rw[cm];refine ⟨_,_,rfl,gK,lp,?_⟩
    cases hV with
    | agg _ vs3 hl3 D5=>
    refine .agg _ _ hl3 (fun j hj=>?_);have hx:=D5 j hj
    match j,hj,hx with
    | 0,_,hx=>
     simp only[pq] at hx ⊢;generalize vs3.getD 0 undef=u at hx;cases hx;exact .int _ _
    | 1,_,hx=>
     simp only[xH,pq] at hx ⊢;generalize vs3.getD 1 undef=u at hx;cases hx;exact .int _ _
    | 2,_,hx=>
     simp only[xH,pq] at hx ⊢;generalize vs3.getD 2 undef=u at hx
     cases hx with
     | nils _ _ ho=>exact .nils _ _ ho
    | j+3,hj,_=>simp at hj;omega
   ·cases mL
  ·cases mL
theorem qkT (hm:MemR B w g m) {l:List Nat} (p7:∀ nm∈l,∃ cs,m.get nm=some (.obj false cs)):Step B w g w (qu g l g.box)/\MemR B w (qu g l g.box) (ju m l):=by
 have gK:Step B w g w (qu g l g.box):=by
  refine ⟨Below.refl _ _,fun b off u _ hc=>hc,fun b c e fr hb=>⟨c,hb,rfl⟩,fun b off _ hn h=>hn h.1,fun b off hb=>?_,fun b hb=>Iff.rfl,fun _ _ h=>h,fun _ _ _ h=>h⟩
  constructor
  ·exact fun h=>h.1
  ·intro h;refine ⟨h,?_⟩;rintro ⟨nm,hn,jA⟩;obtain ⟨cs,aU⟩:=p7 nm hn;obtain ⟨b',c,e,o1,o2,_⟩:=hm.obj nm false cs aU;obtain rfl:b=b':=by simpa [jA] using o1
   omega
 refine ⟨gK,?_⟩
 have gZ:∀ nm b,ba (qu g l g.box) (ju m l) nm=some b->ba g m nm=some b:=by
  intro nm b hb
  rcases pW hb with ⟨bx,cs,h1,h2⟩ | ⟨n,sz,h1,h2⟩ | ⟨kk,es,h1,h2⟩
  rotate_left 2
  ·rw[kI] at h1
   split at h1
   ·cases h1
   ·have im:g.loc nm=some b:=h2;simp[ba,h1,im]
  ·rw[kI] at h1
   split at h1
   ·cases h1
   ·have im:g.loc nm=some b:=h2;simp[ba,h1,im]
  ·rw[kI] at h1
   split at h1
   ·cases h1
   ·have im:g.tloc nm n=some b:=h2;simp[ba,h1,im]
 have wL:∀ nm b,nm∉l->ba g m nm=some b->¬ ∃ x∈l,g.loc x=some b:=by
  rintro nm b hn hb ⟨x,hx,jA⟩;obtain ⟨cs,aU⟩:=p7 x hx;have:ba g m x=some b:=by simp[ba,aU,jA]
  exact hn (hm.inj nm x b hb this▸hx)
 refine ⟨fun nm bx cs aU=>?_,fun nm n sz aU=>?_,fun nm aU=>?_,fun nm hn=>hm.fresh nm (by rw[Bk] at hn;exact hn),fun nm nm' b h1 h2=>hm.inj nm nm' b (gZ _ _ h1) (gZ _ _ h2),fun b off h=>hm.wrLt b off h.1,hm.inv,hm.boxLt,fun nm kk es aU=>by
  rw[kI] at aU
  split at aU
  ·cases aU
  ·obtain ⟨b,es',cl,o1,o2,o3,o4⟩:=hm.mp nm kk es aU
   exact ⟨b,es',cl,o1,o2,o3,o4.step gK⟩⟩
 ·rw[kI] at aU
  split at aU
  ·cases aU
  ·rename_i oC;obtain ⟨b,c,e,o1,o2,o3,o4,o5,o6,o7⟩:=hm.obj nm bx cs aU;exact ⟨b,c,e,o1,o2,o3,o4,fun j hj=>(o5 j hj).step gK,fun off=>⟨o6 off,wL nm b oC (by simp[ba,aU,o1])⟩,o7⟩
 ·rw[kI] at aU
  split at aU
  ·cases aU
  ·rename_i oC;obtain ⟨b,c,e,o1,o2,o3,o4,o5,o6⟩:=hm.tok nm n sz aU;exact ⟨b,c,e,o1,o2,o3,fun off ho=>⟨o4 off ho,wL nm b oC (by simp[ba,aU,o1])⟩,o5,o6⟩
 ·rw[kI] at aU
  split at aU
  ·cases aU
  ·exact hm.resv nm aU
theorem qkR (hm:MemR B w g m) {args rs:List AV} {l:List Nat} {vs:Array Value} (hl:args.length=vs.size) (hv:∀ j,j < args.length->V w g (args.getD j .any) (vs.getD j undef)) (hf:eY (AF m) args=some (rs,l)) :
  ∃ g1,Step B w g w g1/\MemR B w g1 (ju m l)/\rs.length=vs.size/\∀ j,j < rs.length->V w g1 (rs.getD j .any) (vs.getD j undef):=by
 obtain ⟨k1,k2,k3⟩:=Eh _ _ _ _ hf
 have one:∀ (x x':AV) (lx:List Nat) (v:Value),V w g x v->AF m x=some (x',lx)->(∃ nm off n sh,x=.arr nm off n sh/\bG m j6 x=some (x',lx))\/(x'=x/\lx=[]):=by
  intro x x' lx v hV hx;unfold AF at hx
  split at hx
  ·exact .inl ⟨_,_,_,_,rfl,hx⟩
  ·simp only[bM,dT] at hx;exact .inr ⟨hx.1.symm,hx.2.symm⟩
 have p7:∀ nm∈l,∃ cs,m.get nm=some (.obj false cs):=fun nm hn=>by
  obtain ⟨j,lj,a1,a2,a3⟩:=k3 nm hn
  rcases one _ _ _ _ (hv j a1) a2 with ⟨_,_,_,_,_,h⟩ | ⟨_,h⟩
  ·exact (yj hm j6 _ _ _ _ (hv j a1) h).1 nm a3
  ·rw[h] at a3;cases a3
 obtain ⟨s,hk⟩:=qkT hm p7;refine ⟨qu g l g.box,s,hk,by omega,fun j hj=>?_⟩;obtain ⟨lj,a1,a2⟩:=k2 j (by omega)
 rcases one _ _ _ _ (hv j (by omega)) a1 with ⟨nm,off,n,sh,hx,h⟩ | ⟨h,_⟩
 ·refine (yj hm j6 _ _ _ _ (hv j (by omega)) h).2.2 _ (fun b off h=>h.1) (fun b h=>h) (fun nm hn b hb off h=>h.2 ⟨nm,a2 nm hn,hb⟩) (.inl ?_);rw[hx] at h;change (m.obj? nm).bind _=some _ at h;rw[bc] at h;obtain ⟨o,_,h⟩:=h
  split at h
  ·simp only[bc] at h;obtain ⟨r,_,h⟩:=h
   split at h
   ·simp only[bM,dT] at h;rw[<- h.1];rfl
   ·cases h
  ·cases h
 ·rw[h];exact (hv j (by omega)).step s
theorem qog (hm:MemR B w g m) (hB:B<=w.heap.size) {P:Program} {f:Nat} {call:Nat->List AV->af->OM} (DD:∀ args m v m',call f args m=some (v,m')->th P f args m v m') {args rs:List AV} {l:List Nat} {vs:Array Value}
  (hl:args.length=vs.size) (hv:∀ j,j < args.length->V w g (args.getD j .any) (vs.getD j undef)) (hf:eY (bG m j6) args=some (rs,l)) {r:AV} (h:jG call f rs=some r) :
  Calls P f vs w fun e w'=>∃ v' g',e=.returned v'/\Step B w g w' g'/\MemR B w' g' (ju m l)/\V w' g' r v':=by
 unfold jG at h;simp only[bc] at h;obtain ⟨⟨v0,m0⟩,hc,⟨r',l'⟩,hfz,h⟩:=h;simp only at hfz h
 split at h
 ·rename_i mH;simp only[bM] at h;subst h;obtain ⟨k1,k2,k3⟩:=Eh _ _ _ _ hf
  have p7:∀ nm∈l,∃ cs,m.get nm=some (.obj false cs):=fun nm hn=>by
   obtain ⟨j,lj,a1,a2,a3⟩:=k3 nm hn;exact (yj hm j6 _ _ _ _ (hv j a1) a2).1 nm a3
  have pY:∀ j,j < rs.length->V w (Ay g m l (!mh rs)) (rs.getD j .any) (vs.getD j undef):=fun j hj=>by
   obtain ⟨lj,a1,a2⟩:=k2 j (by omega);refine (yj hm j6 _ _ _ _ (hv j (by omega)) a1).2.2 _ (fun b off h=>h.1) (fun b h=>h) (fun nm hn b hb off h=>h.2.1 ⟨nm,a2 nm hn,hb⟩) ?_
   by_cases hn:mh rs=true
   ·exact .inl (y5 hn _ (pF hj))
   ·exact .inr fun nm cs b aU jA off h=>h.2.2 (by simpa using hn) ⟨nm,cs,aU,jA⟩
  have Nh:MemR w.heap.size w (Ay g m l (!mh rs)) []:=by
   refine ⟨fun nm bx cs h=>by simp[af.get] at h,fun nm n sz h=>by simp[af.get] at h,fun nm h=>by simp[af.get] at h,fun nm _=>⟨rfl,fun _=>rfl⟩,fun nm nm' b h=>by simp[ba,af.get] at h,fun b off h=>hm.wrLt b off h.1,fun w' k=>hm.inv w' (k.mono hB),hm.boxLt,fun nm kk es h=>by simp[af.get] at h⟩
  refine (DD rs [] v0 m0 hc w.heap.size w (Ay g m l (!mh rs)) vs Nh (aQ _) (by omega) pY).mono ?_;rintro e w' ⟨v',g',rfl,s,hm',hV⟩;have hblk:∀ b,b < w.heap.size->w'.heap[b]?=w.heap[b]?:=fun b hb=>s.below.block b hb;have hcell:∀ b off u,w.cell? ⟨b,off,none⟩=some u->w'.cell? ⟨b,off,none⟩=some u:=fun b off u hc=>(World.cell?_of_block (w:=w) (a:=⟨b,off,none⟩) (hblk b (tC hc))).trans hc
  have gK:Step B w g w' (qu g l g'.box):=by
   refine ⟨s.below.mono hB,fun b off u _ hc=>hcell b off u hc,fun b c e fr hb=>⟨c,(hblk b (fF.1 hb).1).trans hb,rfl⟩,fun b off _ hn h=>hn h.1,fun b off hb=>?_,fun b hb=>s.box b hb,fun _ _ h=>h,fun _ _ _ h=>h⟩
   constructor
   ·exact fun h=>h.1
   ·intro h;refine ⟨h,?_⟩;rintro ⟨nm,hn,jA⟩;obtain ⟨cs,aU⟩:=p7 nm hn;obtain ⟨b',c,e,o1,o2,_⟩:=hm.obj nm false cs aU;obtain rfl:b=b':=by simpa [jA] using o1
    omega
  have lp:MemR B w' (qu g l g'.box) (ju m l):=by
   have gZ:∀ nm b,ba (qu g l g'.box) (ju m l) nm=some b->ba g m nm=some b:=by
    intro nm b hb
    rcases pW hb with ⟨bx,cs,h1,h2⟩ | ⟨n,sz,h1,h2⟩ | ⟨kk,es,h1,h2⟩
    rotate_left 2
    ·rw[kI] at h1
     split at h1
     ·cases h1
     ·have im:g.loc nm=some b:=h2;simp[ba,h1,im]
    ·rw[kI] at h1
     split at h1
     ·cases h1
     ·have im:g.loc nm=some b:=h2;simp[ba,h1,im]
    ·rw[kI] at h1
     split at h1
     ·cases h1
     ·have im:g.tloc nm n=some b:=h2;simp[ba,h1,im]
   have wL:∀ nm b,nm∉l->ba g m nm=some b->¬ ∃ x∈l,g.loc x=some b:=by
    rintro nm b hn hb ⟨x,hx,jA⟩;obtain ⟨cs,aU⟩:=p7 x hx;have:ba g m x=some b:=by simp[ba,aU,jA]
    exact hn (hm.inj nm x b hb this▸hx)
   refine ⟨fun nm bx cs aU=>?_,fun nm n sz aU=>?_,fun nm aU=>?_,fun nm hn=>hm.fresh nm (by rw[Bk] at hn;exact hn),fun nm nm' b h1 h2=>hm.inj nm nm' b (gZ _ _ h1) (gZ _ _ h2),fun b off h=>qV (hm.wrLt b off h.1) s.below.size,hm.invB (s.below.mono hB),hm'.boxLt,fun nm kk es aU=>by
    rw[kI] at aU
    split at aU
    ·cases aU
    ·obtain ⟨b,es',cl,o1,o2,o3,o4⟩:=hm.mp nm kk es aU
     exact ⟨b,es',cl,o1,o2,(hblk b (fF.1 o3).1).trans o3,o4.step gK⟩⟩
   ·rw[kI] at aU
    split at aU
    ·cases aU
    ·rename_i oC;obtain ⟨b,c,e,o1,o2,o3,o4,o5,o6,o7⟩:=hm.obj nm bx cs aU;have hlt:=(fF.1 o3).1;exact ⟨b,c,e,o1,o2,(hblk b hlt).trans o3,o4,fun j hj=>(o5 j hj).step gK,fun off=>⟨o6 off,wL nm b oC (by simp[ba,aU,o1])⟩,(s.box b hlt).trans o7⟩
   ·rw[kI] at aU
    split at aU
    ·cases aU
    ·rename_i oC;obtain ⟨b,c,e,o1,o2,o3,o4,o5,o6⟩:=hm.tok nm n sz aU;have hlt:=(fF.1 o3).1;exact ⟨b,c,e,o1,o2,(hblk b hlt).trans o3,fun off ho=>⟨o4 off ho,wL nm b oC (by simp[ba,aU,o1])⟩,o5,fun h=>o6 ((s.box b hlt).1 h)⟩
   ·rw[kI] at aU
    split at aU
    ·cases aU
    ·exact hm.resv nm aU
  refine ⟨v',_,rfl,gK,lp,?_⟩;obtain ⟨f1,f2,f3⟩:=yj hm' j6 _ _ _ _ hV hfz
  let gf:G:={ wr:=fun b off=>b < w.heap.size/\g'.wr b off,box:=g'.box,loc:=fun _=>none,tloc:=fun _ _=>none }
  have hVf:V w' gf r' v':=by
   refine f3 gf (fun b off h=>h.2) (fun b h=>h) (fun nm hn b hb off h=>?_) (.inr fun nm cs b aU hb off h=>?_)
   ·obtain ⟨cs,aU⟩:=f1 nm hn;obtain ⟨b',c,e,o1,o2,_⟩:=hm'.obj nm false cs aU;obtain rfl:b=b':=by simpa [hb] using o1
    have:=h.1;omega
   ·obtain ⟨b',c,e,o1,o2,_⟩:=hm'.obj nm true cs aU;obtain rfl:b=b':=by simpa [hb] using o1
    have:=h.1;omega
  refine Sv (nv:=!mh rs) hVf f2 (fun hn=>?_) (fun b off h=>?_) (fun b h=>h)
  ·have:mh rs=false:=by simpa using hn
   simpa [this] using mH
  ·have hlt:=hm.wrLt b off h.1
   by_cases H6:∃ nm cs,m.get nm=some (.obj true cs)/\g.loc nm=some b
   ·by_cases vg:mh rs=true
    ·exact .inl ⟨hlt,(s.wrB b off hlt).2 ⟨h.1,h.2,fun hx=>by simp[vg] at hx⟩⟩
    ·refine .inr ⟨?_,by simpa using vg⟩;obtain ⟨nm,cs,aU,jA⟩:=H6;obtain ⟨b',c,e,o1,o2,o3,o4,o5,o6,o7⟩:=hm.obj nm true cs aU;obtain rfl:b=b':=by simpa [jA] using o1
     exact (s.box b hlt).2 (o7.2 rfl)
   ·exact .inl ⟨hlt,(s.wrB b off hlt).2 ⟨h.1,h.2,fun _=>H6⟩⟩
 ·cases h
end
end Go.Ab
