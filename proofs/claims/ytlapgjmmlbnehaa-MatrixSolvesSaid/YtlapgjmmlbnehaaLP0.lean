/- An abstract interpreter of the kit's code: values without memory, an abstract memory of named objects. Definitions alone. -/
import Derived.Calls
import Derived.KernelRfl
import Derived.Maps.OwnSet
import Derived.DeepKeys4
import Derived.Below
import Derived.Laws.AppendOwn
import Derived.Laws.MakeOwn
import Derived.Laws.OwnMore
import Derived.Laws.Rows
import Derived.MapKept
import Derived.RangeFuncOwn
import Derived.WalkKit
import Derived.WalkSpells
import Derived.Laws.Small
import Derived.Laws.StructEq
import Derived.Laws.Cover3
import Derived.Laws.Cells
import Derived.Laws.Tables
import Derived.Great.BuildSlice
import Derived.Defers
set_option maxRecDepth 100000
set_option linter.unusedVariables false
set_option linter.unusedSimpArgs false
set_option linter.unusedSectionVars false
theorem ag:type_of% @if_neg.{1}:=@if_neg.{1}
theorem aj:type_of% @if_pos.{1}:=@if_pos.{1}
theorem ar:type_of% @Option.map_some.{0,0}:=@Option.map_some.{0,0}
theorem aK:type_of% @List.length_append.{0}:=@List.length_append.{0}
theorem aL:type_of% @Nat.zero_add:=@Nat.zero_add
theorem aR:type_of% @List.length_cons.{0}:=@List.length_cons.{0}
theorem aS:type_of% @Option.bind_eq_some_iff.{0,0}:=@Option.bind_eq_some_iff.{0,0}
theorem aW:type_of% @Nat.le_refl:=@Nat.le_refl
theorem aX:type_of% @List.length_nil.{0}:=@List.length_nil.{0}
theorem aZ:type_of% @List.nil_append.{0}:=@List.nil_append.{0}
theorem bk:type_of% @List.set_cons_zero.{0}:=@List.set_cons_zero.{0}
theorem bm:type_of% @List.cons_append.{0}:=@List.cons_append.{0}
theorem bp:type_of% @Option.some.injEq.{0}:=@Option.some.injEq.{0}
theorem bA:type_of% @List.getD_eq_getElem?_getD.{0}:=@List.getD_eq_getElem?_getD.{0}
theorem bH:type_of% @List.set_cons_succ.{0}:=@List.set_cons_succ.{0}
theorem bN:type_of% @List.append_nil.{0}:=@List.append_nil.{0}
theorem b7:type_of% @Nat.le_trans:=@Nat.le_trans
theorem dI:type_of% @List.mem_cons.{0}:=@List.mem_cons.{0}
theorem dJ:type_of% @List.set_nil.{0}:=@List.set_nil.{0}
theorem dM:type_of% @List.getElem?_set_ne.{0}:=@List.getElem?_set_ne.{0}
theorem dT:type_of% @Prod.mk.injEq.{0,0}:=@Prod.mk.injEq.{0,0}
theorem dX:type_of% @List.getElem?_eq_some_iff.{0}:=@List.getElem?_eq_some_iff.{0}
theorem dY:type_of% @Bool.and_eq_true:=@Bool.and_eq_true
theorem en:type_of% @Nat.mul_comm:=@Nat.mul_comm
theorem er:type_of% @List.getElem?_append_left.{0}:=@List.getElem?_append_left.{0}
theorem et:type_of% @List.not_mem_nil.{0}:=@List.not_mem_nil.{0}
theorem eA:type_of% @Array.getElem?_eq_some_iff.{0}:=@Array.getElem?_eq_some_iff.{0}
theorem eB:type_of% @List.length_set.{0}:=@List.length_set.{0}
theorem eC:type_of% @if_true.{1}:=@if_true.{1}
theorem fE:type_of% @congrArg.{1,1}:=@congrArg.{1,1}
theorem fH:type_of% @List.getElem_mem.{0}:=@List.getElem_mem.{0}
theorem fI:type_of% @Nat.add_mul:=@Nat.add_mul
theorem fL:type_of% @Nat.mul_add:=@Nat.mul_add
theorem fV:type_of% @Array.getD_eq_getD_getElem?.{0}:=@Array.getD_eq_getD_getElem?.{0}
theorem fW:type_of% @Nat.mul_le_mul_right:=@Nat.mul_le_mul_right
theorem gk:type_of% @Bool.not_true:=@Bool.not_true
theorem gm:type_of% @Option.map_eq_some_iff.{0,0}:=@Option.map_eq_some_iff.{0,0}
theorem gu:type_of% @List.length_map.{0,0}:=@List.length_map.{0,0}
theorem gQ:type_of% @Nat.mul_assoc:=@Nat.mul_assoc
theorem il:type_of% @Nat.mul_le_mul:=@Nat.mul_le_mul
theorem iC:type_of% @List.getElem?_eq_none.{0}:=@List.getElem?_eq_none.{0}
theorem iX:type_of% @List.all_eq_true.{0}:=@List.all_eq_true.{0}
theorem jo:type_of% @Nat.add_zero:=@Nat.add_zero
theorem jv:type_of% @Classical.byContradiction:=@Classical.byContradiction
theorem jx:type_of% @Nat.mod_lt:=@Nat.mod_lt
theorem jF:type_of% @List.getElem?_set_self.{0}:=@List.getElem?_set_self.{0}
theorem jG:type_of% @Nat.lt_of_le_of_lt:=@Nat.lt_of_le_of_lt
theorem jH:type_of% @Nat.zero_le:=@Nat.zero_le
theorem jR:type_of% @List.getElem?_eq_getElem.{0}:=@List.getElem?_eq_getElem.{0}
theorem jS:type_of% @Nat.pow_succ:=@Nat.pow_succ
theorem j6:type_of% @if_false.{1}:=@if_false.{1}
theorem ko:type_of% @Bool.false_eq_true:=@Bool.false_eq_true
theorem ks:type_of% @List.mem_map.{0,0}:=@List.mem_map.{0,0}
theorem ku:type_of% @Nat.mod_eq_of_lt:=@Nat.mod_eq_of_lt
theorem kz:type_of% @Option.some.inj.{0}:=@Option.some.inj.{0}
theorem kC:type_of% @decide_eq_false:=@decide_eq_false
theorem kT:type_of% @List.mem_append.{0}:=@List.mem_append.{0}
theorem kU:type_of% @Nat.mul_le_mul_left:=@Nat.mul_le_mul_left
theorem l5:type_of% @Int.natCast_mul:=@Int.natCast_mul
theorem my:type_of% @Nat.add_assoc:=@Nat.add_assoc
theorem mz:type_of% @Nat.eq_of_beq_eq_true:=@Nat.eq_of_beq_eq_true
theorem mA:type_of% @Nat.mul_zero:=@Nat.mul_zero
theorem mC:type_of% @Nat.succ_mul:=@Nat.succ_mul
theorem mI:type_of% @decide_eq_decide:=@decide_eq_decide
theorem mZ:type_of% @Bool.not_false:=@Bool.not_false
theorem na:type_of% @Nat.pos_of_ne_zero:=@Nat.pos_of_ne_zero
theorem nd:type_of% @decide_eq_true:=@decide_eq_true
theorem nG:type_of% @Int.toNat_natCast:=@Int.toNat_natCast
theorem nH:type_of% @Nat.one_mul:=@Nat.one_mul
theorem nX:type_of% @List.mem_cons_of_mem.{0}:=@List.mem_cons_of_mem.{0}
theorem nY:type_of% @List.take_of_length_le.{0}:=@List.take_of_length_le.{0}
theorem nZ:type_of% @Option.getD_some.{0}:=@Option.getD_some.{0}
theorem ow:type_of% @Bool.true_and:=@Bool.true_and
theorem oA:type_of% @List.length_take.{0}:=@List.length_take.{0}
theorem oB:type_of% @List.mem_cons_self.{0}:=@List.mem_cons_self.{0}
theorem oC:type_of% @List.mem_range:=@List.mem_range
theorem oE:type_of% @Nat.sub_self:=@Nat.sub_self
theorem o0:type_of% @List.getElem?_map.{0,0}:=@List.getElem?_map.{0,0}
theorem pI:type_of% @Array.all_eq_true_iff_forall_mem.{0}:=@Array.all_eq_true_iff_forall_mem.{0}
theorem pL:type_of% @List.getElem?_append.{0}:=@List.getElem?_append.{0}
theorem qn:type_of% @List.map_cons.{0,0}:=@List.map_cons.{0,0}
theorem qo:type_of% @Nat.mul_one:=@Nat.mul_one
theorem qp:type_of% @Nat.pow_le_pow_right:=@Nat.pow_le_pow_right
theorem qH:type_of% @List.cons.injEq.{0}:=@List.cons.injEq.{0}
theorem qI:type_of% @List.getElem?_drop.{0}:=@List.getElem?_drop.{0}
theorem qJ:type_of% @List.getElem?_take.{0}:=@List.getElem?_take.{0}
theorem qK:type_of% @List.set_append_right.{0}:=@List.set_append_right.{0}
theorem qL:type_of% @Nat.pow_add:=@Nat.pow_add
theorem qM:type_of% @Nat.zero_mul:=@Nat.zero_mul
theorem rH:type_of% @Bool.not_eq_true':=@Bool.not_eq_true'
theorem rK:type_of% @List.getD_cons_zero.{0}:=@List.getD_cons_zero.{0}
theorem rL:type_of% @List.length_drop.{0}:=@List.length_drop.{0}
theorem rM:type_of% @List.length_replicate.{0}:=@List.length_replicate.{0}
theorem rO:type_of% @Nat.div_add_mod:=@Nat.div_add_mod
theorem rP:type_of% @Nat.lt_irrefl:=@Nat.lt_irrefl
theorem rQ:type_of% @Nat.lt_of_lt_of_le:=@Nat.lt_of_lt_of_le
theorem tg:type_of% @List.drop_zero.{0}:=@List.drop_zero.{0}
theorem th:type_of% @Nat.add_comm:=@Nat.add_comm
theorem ti:type_of% @Nat.add_sub_cancel:=@Nat.add_sub_cancel
theorem tj:type_of% @Nat.lt_or_ge:=@Nat.lt_or_ge
theorem ue:type_of% @Int.natCast_nonneg:=@Int.natCast_nonneg
theorem ui:type_of% @List.getElem?_replicate.{0}:=@List.getElem?_replicate.{0}
theorem uj:type_of% @List.getElem_of_mem.{0}:=@List.getElem_of_mem.{0}
theorem uk:type_of% @List.mem_filter.{0}:=@List.mem_filter.{0}
theorem um:type_of% @List.mem_of_mem_take.{0}:=@List.mem_of_mem_take.{0}
theorem uo:type_of% @Nat.gcd_comm:=@Nat.gcd_comm
theorem ur:type_of% @Nat.min_eq_left:=@Nat.min_eq_left
theorem uu:type_of% @Nat.two_pow_pos:=@Nat.two_pow_pos
theorem vB:type_of% @Int.eq_ofNat_of_zero_le:=@Int.eq_ofNat_of_zero_le
theorem vC:type_of% @List.append_assoc.{0}:=@List.append_assoc.{0}
theorem vD:type_of% @List.eq_nil_of_length_eq_zero.{0}:=@List.eq_nil_of_length_eq_zero.{0}
theorem vE:type_of% @List.getElem?_append_right.{0}:=@List.getElem?_append_right.{0}
theorem vF:type_of% @Nat.div_lt_iff_lt_mul:=@Nat.div_lt_iff_lt_mul
theorem vG:type_of% @Nat.le_of_not_lt:=@Nat.le_of_not_lt
theorem vU:type_of% @decide_eq_true_eq:=@decide_eq_true_eq
theorem xk:type_of% @Array.getElem?_setIfInBounds.{0}:=@Array.getElem?_setIfInBounds.{0}
theorem xl:type_of% @BitVec.toNat_ofInt:=@BitVec.toNat_ofInt
theorem xu:type_of% @List.all_cons.{0}:=@List.all_cons.{0}
theorem xv:type_of% @List.append_of_mem.{0}:=@List.append_of_mem.{0}
theorem xw:type_of% @List.map_nil.{0,0}:=@List.map_nil.{0,0}
theorem yP:type_of% @of_decide_eq_true:=@of_decide_eq_true
theorem zr:type_of% @Bool.false_or:=@Bool.false_or
theorem zI:type_of% @List.getD_cons_succ.{0}:=@List.getD_cons_succ.{0}
theorem zJ:type_of% @List.getElem?_concat_length.{0}:=@List.getElem?_concat_length.{0}
theorem zK:type_of% @List.getElem?_set.{0}:=@List.getElem?_set.{0}
theorem zL:type_of% @List.getElem?_toArray.{0}:=@List.getElem?_toArray.{0}
theorem zN:type_of% @List.getElem_map.{0,0}:=@List.getElem_map.{0,0}
theorem zO:type_of% @List.map_append.{0,0}:=@List.map_append.{0,0}
theorem zP:type_of% @List.replicate_succ.{0}:=@List.replicate_succ.{0}
theorem zQ:type_of% @Nat.div_eq_of_lt:=@Nat.div_eq_of_lt
theorem zS:type_of% @Nat.le_max_left:=@Nat.le_max_left
theorem Bw:type_of% @Bool.or_eq_true:=@Bool.or_eq_true
theorem BV:type_of% @List.flatMap_cons.{0,0}:=@List.flatMap_cons.{0,0}
theorem BW:type_of% @List.foldl_cons.{0,0}:=@List.foldl_cons.{0,0}
theorem BX:type_of% @Nat.div_le_self:=@Nat.div_le_self
theorem BY:type_of% @Nat.le_max_right:=@Nat.le_max_right
theorem B2:type_of% @Option.bind_assoc.{0,0,0}:=@Option.bind_assoc.{0,0,0}
theorem Em:type_of% @Array.getElem?_append.{0}:=@Array.getElem?_append.{0}
theorem En:type_of% @Array.getElem?_eq_none.{0}:=@Array.getElem?_eq_none.{0}
theorem Fi:type_of% @List.append_sublist_iff.{0}:=@List.append_sublist_iff.{0}
theorem Fj:type_of% @List.drop_eq_getElem_cons.{0}:=@List.drop_eq_getElem_cons.{0}
theorem Fk:type_of% @List.take_succ_eq_append_getElem.{0}:=@List.take_succ_eq_append_getElem.{0}
theorem Fl:type_of% @Nat.le_div_iff_mul_le:=@Nat.le_div_iff_mul_le
theorem Fm:type_of% @Nat.lt_of_mul_lt_mul_right:=@Nat.lt_of_mul_lt_mul_right
theorem IA:type_of% @Array.mapM_eq_mapM_toList.{0,0,0}:=@Array.mapM_eq_mapM_toList.{0,0,0}
theorem aa{α β : Type}(a : α)(f : α -> Option β) : (some a).bind f = f a := rfl
theorem oMg{p:Prop}(h:p:=by omega):p:=h
theorem sMp{p:Prop}(h:p:=by simp):p:=h
theorem kRf{p:Prop}(h:p:=by kernel_rfl):p:=h
namespace Go.Ab
inductive Own where
 | no
 | full
 | tok (nm e:Nat)
abbrev Sh:=Option Nat
def Sh.size:Sh->Nat
 | none=>1
 | some n=>n
inductive AV where
 | any
 | int (k:IntKind) (n:Int)
 | bool (b:Bool)
 | str (s:ByteArray)
 | lst (sh:Sh) (z:Bool) (o:Own) (es:List AV)
 | arr (nm off n:Nat) (sh:Sh)
 | ptr (nm off:Nat)
 | vptr (cs:List AV)
 | nilp
 | nilf
 | nile
 | nilm
 | agg (cs:List AV)
 | tup (vs:List AV)
 | fn (f:Nat) (caps:List AV)
 | mref (nm:Nat)
 | vec (n:Nat) (sh:Sh) (cs:List AV)
def AV.cells:AV->List AV
 | .agg cs=>cs
 | v=>[v]
inductive KK where
 | str
 | int (k:IntKind)
 | arr (n:Nat) (k:IntKind)
 deriving DecidableEq
inductive Ent where
 | obj (bx:Bool) (cs:List AV)
 | tok (n sz:Nat)
 | resv
 | mp (kk:KK) (es:List (AV×AV))
abbrev ae:=List (Option Ent)
def ae.get(m:ae)(nm:Nat):Option Ent:=(m[nm]?).bind id
def ae.obj?(m:ae)(nm:Nat):Option (Bool×List AV):=match m.get nm with
 | some (.obj bx cs)=>some (bx,cs)
 | _=>none
structure St where
 tmps:List AV
 mem:ae
inductive Ex where
 | normal
 | exit (id:Nat)
 | ret
structure Masks where
 head:List Bool
 out:List Bool
 ret:List Bool
structure Cfg where
 P:Program
 inl:Nat->Nat->Bool
 arrm:Nat->Bool
 tokm:Nat->Bool
 two:Nat->Nat->List (Nat×Nat)
 thaw:Nat->Nat->Bool
 frzc:Nat->Nat->Bool
 seqm:Nat->Nat->Bool
 late:Nat->Nat->List (Nat×List Nat)
 ben:Nat->Bool
 mask:Nat->Option Nat->Masks
 ord:Nat->Nat->Option (List Nat)
 ahd:Nat->Nat->List Nat
 lib:Nat->Option (List AV->Option AV)
 libm:Nat->Option (List AV->ae->Option (AV×ae))
def iz(P:Program)(t:Nat):Option Sh:=
 match P.underlying t,P.info? t with
 | some (.struct _),some i|some (.array _ _),some i=>some (some i.size)
 | some _,some i=>if i.size=1 then some none else none
 | _,_=>none
def Af(P:Program)(t:Nat):Option Nat:=
 match P.underlying t with
 | some (.slice e)=>some e
 | _=>none
def wb(P:Program)(t f:Nat):Option (Nat×Sh):=
 match P.underlying t with
 | some (.struct fs)=>
  match fs[f]? with
  | some fd=>match iz P fd.type with
   | some sh=>if sh.size=0 then none else some (fd.offset,sh)
   | none=>none
  | none=>none
 | _=>none
def yU(P:Program)(t f:Nat):Option (Nat×Sh):=match P.underlying t with
 | some (.array _ e)=>match iz P e with
  | some sh=>if sh.size=0 then none else some (f*sh.size,sh)
  | none=>none
 | _=>wb P t f
def o8:Value->AV
 | .int k n=>.int k n
 | .bool b=>.bool b
 | .string s=>.str s
 | .slice none 0 0=>.lst none true .full []
 | .pointer none=>.nilp
 | .nilFunc=>.nilf
 | .nilIface=>.nile
 | .map none=>.nilm
 | _=>.any
def gE:Value->AV
 | .agg cs=>.agg (cs.toList.map o8)
 | v=>o8 v
def rG(P:Program)(t:Nat):Option AV:=
 match P.info? t with
 | some i=>i.zero.map gE
 | none=>none
def pd(P:Program)(t:Nat):Nat:=max 1 (((P.info? t).map (·.bytes)).getD 0)
def au{R:Type}(v:AV)(x y:Option R):Option R:=match v with
 | .bool b=>match b with
  | true=>x
  | false=>y
 | _=>none
def qS(op:BinOp)(k:IntKind)(a b:Int):Option AV:=match op with
 | .add=>some (.int k (k.wrap (a+b)))
 | .sub=>some (.int k (k.wrap (a-b)))
 | .mul=>some (.int k (k.wrap (a*b)))
 | .quo=>if b=0 then none else some (.int k (k.wrap (a.tdiv b)))
 | .rem=>if b=0 then none else some (.int k (a.tmod b))
 | .and=>some (.int k (k.wrap (BitVec.ofInt k.bits a &&& BitVec.ofInt k.bits b).toNat))
 | .or=>some (.int k (k.wrap (BitVec.ofInt k.bits a ||| BitVec.ofInt k.bits b).toNat))
 | .xor=>some (.int k (k.wrap (BitVec.ofInt k.bits a ^^^ BitVec.ofInt k.bits b).toNat))
 | .andNot=>some (.int k (k.wrap (BitVec.ofInt k.bits a &&& ~~~ BitVec.ofInt k.bits b).toNat))
 | .eql=>some (.bool (a==b))
 | .neq=>some (.bool (a != b))
 | .lss=>some (.bool (decide (a<b)))
 | .leq=>some (.bool (decide (a<=b)))
 | .gtr=>some (.bool (decide (a>b)))
 | .geq=>some (.bool (decide (a≥b)))
 | _=>none
def sU(left:Bool)(k:IntKind)(a b:Int):Option AV:=
 if b<0 then none
 else if left then some (.int k (k.wrap (a*2^(min b.toNat k.bits)))) else some (.int k (a.fdiv (2^(min b.toNat k.bits))))
inductive TK where
 | sl
 | bl
 | pt
 | fu
 | other
def Bi(P:Program)(t:Nat):TK:=match P.underlying t with
 | some (.slice _)=>.sl
 | some .bool=>.bl
 | some (.pointer _)=>.pt
 | some (.func ..)=>.fu
 | _=>.other
def Ui:AV->Option Bool
 | .nilp=>some true
 | .ptr .. | .vptr _=>some false
 | _=>none
def Uh:AV->Option Bool
 | .nilf=>some true
 | .fn ..=>some false
 | _=>none
def Gx(op:BinOp)(b:Bool):Option AV:=match op with
 | .eql=>some (.bool b)
 | .neq=>some (.bool (!b))
 | _=>none
def RA(op:BinOp)(a b:ByteArray):Option AV:=match op with
 | .add=>if a.size+b.size<=9223372036854775807 then some (.str (a++b)) else none
 | .eql=>some (.bool (a.toList==b.toList))
 | .neq=>some (.bool (!(a.toList==b.toList)))
 | _=>none
def af(tk:TK)(op:BinOp)(x y:AV):Option AV:=match tk,x,y with
 | _,.int k a,.int k' b=>match op with
  | .shl=>sU true k a b
  | .shr=>sU false k a b
  | op=>if k=k' then qS op k a b else none
 | _,.str a,.str b=>RA op a b
 | .bl,.bool a,.bool b=>match op with
  | .eql=>some (.bool (a==b))
  | .neq=>some (.bool (!(a==b)))
  | _=>none
 | .sl,.lst _ z _ _,.lst _ true _ []=>match op with
  | .eql=>some (.bool z)
  | .neq=>some (.bool (!z))
  | _=>none
 | .pt,x,.nilp=>(Ui x).bind (Gx op)
 | .fu,x,.nilf=>(Uh x).bind (Gx op)
 | _,_,_=>none
def iI(op:UnOp)(x:AV):Option AV:=match op,x with
 | .not,.bool b=>some (.bool !b)
 | .neg,.int k n=>some (.int k (k.wrap (0-n)))
 | _,_=>none
def Nd(c a b:AV):Option AV:=match c with
 | .bool c=>some (if c then a else b)
 | _=>none
def bg(t:AV)(i:Nat):Option AV:=match t with
 | .tup vs=>vs[i]?
 | _=>none
def aY(st:Bool)(x:AV):Option AV:=match st,x with
 | false,.lst _ _ _ es=>some (.int .i64 es.length)
 | false,.arr _ _ n _=>some (.int .i64 n)
 | false,.vec n _ _=>some (.int .i64 n)
 | true,.str s=>some (.int .i64 s.size)
 | _,_=>none
def oR(mx:Bool)(x y:AV):Option AV:=match x,y with
 | .int k a,.int k' b=>if k=k' then some (.int k (if mx then (if b>a then b else a) else (if b<a then b else a))) else none
 | _,_=>none
def bF(k:IntKind)(x:AV):Option AV:=match x with
 | .int _ n=>some (.int k (k.wrap n))
 | _=>none
def jU(sh:Sh)(cs:List AV)(off:Nat):Option AV:=match sh with
 | none=>cs[off]?
 | some n=>if off+n<=cs.length then some (.agg ((cs.drop off).take n)) else none
def ai(sh:Sh)(m:ae)(x:AV):Option AV:=match x with
 | .vptr cs=>jU sh cs 0
 | .ptr nm off=>(m.obj? nm).bind fun o=>jU sh o.2 off
 | _=>none
def fZ:AV->Bool
 | .any | .agg _ | .tup _ | .vec ..=>false
 | _=>true
def eP(sh:Sh)(v:AV):Bool:=match sh with
 | none=>fZ v
 | some n=>match v with
  | .agg cs=>cs.length==n&&cs.all fZ
  | _=>false
def ka(cs:List AV)(off:Nat)(vs:List AV):List AV:=cs.take off++vs++cs.drop (off+vs.length)
def aA(sh:Sh)(m:ae)(x v:AV):Option ae:=match x with
 | .ptr nm off=>(m.obj? nm).bind fun o=>
  if off+sh.size<=o.2.length then if eP sh v then some (m.set nm (some (.obj o.1 (ka o.2 off v.cells)))) else none else none
 | _=>none
def UZ(x:AV):Option AV:=match x with
 | .vptr cs=>some (.vptr cs)
 | .ptr nm off=>some (.ptr nm off)
 | .fn f cs=>some (.fn f cs)
 | _=>none
def xU(x:AV):Option (Nat×List AV):=match x with
 | .fn f cs=>some (f,cs)
 | _=>none
def aB(off:Nat)(x:AV):Option AV:=match x with
 | .vptr cs=>if off<cs.length then some (.vptr (cs.drop off)) else none
 | .ptr nm o=>some (.ptr nm (o+off))
 | _=>none
def K3(off:Nat)(sh:Sh)(x:AV):Option AV:=match x with
 | .agg cs=>jU sh cs off
 | _=>none
def aJ(sh:Sh)(x i:AV):Option AV:=match i with
 | .int _ i=>match x with
  | .lst sh' _ _ es=>if sh'=sh then if 0<=i then (es[i.toNat]?).map fun e=>.vptr e.cells else none else none
  | .arr nm off n sh'=>if sh'=sh then if 0<=i/\i<n then some (.ptr nm (off+i.toNat*sh.size)) else none else none
  | .vec n sh' cs=>if sh'=sh then if 0<=i/\i<n then some (.vptr ((cs.drop (i.toNat*sh.size)).take sh.size)) else none else none
  | _=>none
 | _=>none
def Kz(len:Nat)(sh:Sh)(x i:AV):Option AV:=match i with
 | .int _ i=>if 0<=i/\i<len then aB (i.toNat*sh.size) x else none
 | _=>none
def sy(x i:AV):Option AV:=match x,i with
 | .str s,.int _ i=>if 0<=i then (s[i.toNat]?).map fun b=>.int .u8 b.toNat else none
 | _,_=>none
def jI(y:Nat)(x:Option AV)(dflt:Nat):Option Nat:=match x with
 | none=>some dflt
 | some (.int _ i)=>if 0<=i/\i<=y then some i.toNat else none
 | _=>none
def qk(x:AV)(lo hi mx:Option AV):Option AV:=match x with
 | .lst sh z _ es=>match mx with
  | none=>(jI es.length hi es.length).bind fun h=>(jI h lo 0).bind fun l=>some (.lst sh z .no ((es.take h).drop l))
  | some mv=>match hi with
   | none=>none
   | some hv=>(jI es.length (some mv) 0).bind fun m=>(jI m (some hv) 0).bind fun h=>(jI h lo 0).bind fun l=>
    if h=m then some (.lst sh z .full ((es.take h).drop l)) else some (.lst sh z .no ((es.take h).drop l))
 | .arr nm off n sh=>match mx with
  | none=>(jI n hi n).bind fun h=>(jI h lo 0).bind fun l=>some (.arr nm (off+l*sh.size) (h-l) sh)
  | some _=>none
 | .str s=>match mx with
  | none=>(jI s.size hi s.size).bind fun h=>(jI h lo 0).bind fun l=>some (.str (s.extract l h))
  | some _=>none
 | _=>none
def nS(sh:Sh)(x:AV)(lo hi mx:Option AV):Option AV:=match x with
 | .lst sh' z o es=>if sh'=sh\/es=[] then qk (.lst sh' z o es) lo hi mx else none
 | .arr nm off n sh'=>if sh'=sh then qk (.arr nm off n sh') lo hi mx else none
 | _=>none
def Wq(x:AV)(lo hi mx:Option AV):Option AV:=match x with
 | .str s=>qk (.str s) lo hi mx
 | _=>none
mutual
def pl:AV->Bool
 | .int .. | .bool _ | .str _ | .nilp | .nilf | .nile | .nilm=>true
 | .lst _ _ o _=>match o with
  | .tok ..=>false
  | _=>true
 | .agg cs=>pC cs
 | _=>false
def pC:List AV->Bool
 | []=>true
 | c::cs=>pl c&&pC cs
end
mutual
def cl:AV->Bool
 | .lst _ _ o _=>match o with
  | .tok ..=>false
  | _=>true
 | .arr .. | .ptr .. | .mref _ | .vec ..=>false
 | .vptr cs | .agg cs | .tup cs | .fn _ cs=>uA cs
 | _=>true
def uA:List AV->Bool
 | []=>true
 | c::cs=>cl c&&uA cs
end
mutual
def gV:AV->Bool
 | .vptr _=>false
 | .agg cs | .tup cs | .fn _ cs=>mh cs
 | _=>true
def mh:List AV->Bool
 | []=>true
 | c::cs=>gV c&&mh cs
end
def Be:AV->AV
 | .lst sh z (.tok ..) es=>.lst sh z .no es
 | v=>v
def lV:AV->AV
 | .agg cs=>.agg (cs.map Be)
 | v=>Be v
def n5(n:Nat):Nat->List AV->List (List AV)
 | 0,_=>[]
 | k+1,cs=>cs.take n::n5 n k (cs.drop n)
def n7(sh:Sh)(k:Nat)(cs:List AV):List AV:=match sh with
 | none=>cs.take k
 | some n=>(n5 n k cs).map .agg
def bJ(f:AV->Option (AV×List Nat)):List AV->Option (List AV×List Nat)
 | []=>some ([],[])
 | c::cs=>(f c).bind fun r=>(bJ f cs).map fun s=>(r.1::s.1,r.2++s.2)
def frz(m:ae):Nat->AV->Option (AV×List Nat)
 | 0,_=>none
 | k+1,v=>match v with
  | .lst sh z o es=>some (match o with
   | .tok ..=>.lst sh z .no es
   | o=>.lst sh z o es,[])
  | .arr nm off n sh=>(m.obj? nm).bind fun o=>
   if !o.1&&decide (off+n*sh.size<=o.2.length) then (bJ (frz m k) ((o.2.drop off).take (n*sh.size))).bind fun r=>
    if r.1.all fZ&&pC r.1 then some (.lst sh false .no (n7 sh n r.1),nm::r.2) else none
   else none
  | .ptr nm off=>(m.obj? nm).bind fun o=>if o.1 then (bJ (frz m k) (o.2.drop off)).map fun r=>(.vptr r.1,r.2) else none
  | .agg cs=>(bJ (frz m k) cs).map fun r=>(.agg r.1,r.2)
  | .tup cs=>(bJ (frz m k) cs).map fun r=>(.tup r.1,r.2)
  | .fn f cs=>(bJ (frz m k) cs).map fun r=>(.fn f r.1,r.2)
  | .vptr cs=>(bJ (frz m k) cs).map fun r=>(.vptr r.1,r.2)
  | .mref _=>some (.any,[])
  | .vec ..=>none
  | v=>some (v,[])
def eo:Nat:=9
def fg(m:ae)(l:List Nat):ae:=l.foldl (fun m nm=>m.set nm none) m
def Dm:AV->Bool
 | .int ..=>true
 | _=>false
def ke:AV->Bool
 | .bool _=>true
 | .lst sh _ o ds=>match sh with
  | some _=>false
  | none=>match o with
   | .tok ..=>false
   | _=>ds.all Dm
 | _=>false
def zf(base:Nat)(m:ae)(v:AV):Option (AV×ae):=match v with
 | .agg [.int k a,.int k' b,.lst sh z o es]=>match o with
  | .tok nm _=>match sh with
   | none=>none
   | some n=>match m.get nm with
    | some (.tok c sz)=>if c=es.length/\sz=n/\(es.flatMap AV.cells).all ke=true then some (.agg [.int k a,.int k' b,.arr base 0 es.length (some n)],[some (.obj false (es.flatMap AV.cells))]) else none
    | _=>none
  | _=>match es with
   | []=>match z with
    | true=>some (.agg [.int k a,.int k' b,.lst sh true o []],[])
    | false=>none
   | _::_=>none
 | _=>none
def mL(P:Program)(e:Nat)(sh:Sh):Bool:=match P.info? e with
 | some i=>i.size==sh.size&&decide (0<i.size)&&(match i.zero with|some z=>z.cells.size==i.size&&(match sh,z with|none,.agg _=>false|_,_=>true)|none=>false)
 | none=>false
def ud(sh:Sh)(z:AV)(n:Nat):List AV:=match sh with
 | none=>List.replicate n z
 | some _=>(List.replicate n z.cells).flatten
def ak(d:Option Nat)(m:ae)(e:Ent):Nat×ae:=match d with
 | none=>(m.length,m++[some e])
 | some s=>(s,m.set s (some e))
def iU:Nat:=140737488355328
def DR(m:ae)(sh:Sh):AV->Option (Nat×List AV)
 | .lst shy _ _ ys=>if shy=sh/\0<ys.length then some (ys.length,ys.flatMap AV.cells) else none
 | .arr nm off n shy=>(m.obj? nm).bind fun o=>if shy=sh/\0<n/\off+n*sh.size<=o.2.length/\((o.2.drop off).take (n*sh.size)).all fZ=true then some (n,(o.2.drop off).take (n*sh.size)) else none
 | .vec n shy cs=>if shy=sh/\0<n/\cs.length=n*sh.size then some (n,cs) else none
 | _=>none
def H2(m:ae)(sh:Sh):AV->Option (Nat×List AV×ae)
 | .lst shx _ o es=>match o with
  | .full=>if shx=sh\/es=[] then some (es.length,es.flatMap AV.cells,m) else none
  | _=>none
 | .arr nm off n shx=>(m.obj? nm).bind fun o=>if shx=sh/\off=0/\0<n/\o.1=false/\o.2.length=n*sh.size then some (n,o.2,m.set nm none) else none
 | _=>none
def Hw:AV->Bool
 | .lst _ _ _ es=>es.isEmpty
 | .arr _ _ n _=>n==0
 | _=>false
def VN:AV->Bool
 | .lst .. | .arr ..=>true
 | _=>false
def rT(d:Option Nat)(arrm:Bool)(sh:Sh)(bytes:Nat)(m:ae)(x y:AV):Option (AV×ae):=match d,arrm with
 | none,true=>match DR m sh y with
  | some q=>(H2 m sh x).bind fun p=>
   if (p.1+q.1)*bytes<=iU then some (.arr p.2.2.length 0 (p.1+q.1) sh,p.2.2++[some (.obj false (p.2.1++q.2))]) else none
  | none=>if Hw y=true/\VN x=true then some (x,m) else none
 | _,_=>none
def eG(d:Option Nat)(arrm:Bool)(e:Nat)(sh:Sh)(bytes:Nat)(m:ae)(x y:AV):Option (AV×ae):=match x,y with
 | .lst shx z o es,.lst shy _ _ ys=>match ys with
  | []=>some (.lst shx z o es,m)
  | y::ys=>
   if shy=sh then
    if (es.length+(y::ys).length)*bytes<=iU then
     match o with
     | .no=>none
     | .full=>
      if shx=sh\/es=[] then
       if arrm then some (.arr (ak d m .resv).1 0 (es.length+(y::ys).length) sh,(ak d m (.obj false ((es++y::ys).flatMap AV.cells))).2)
       else some (.lst sh false (.tok (ak d m .resv).1 e) (es++y::ys),(ak d m (.tok (es.length+(y::ys).length) sh.size)).2)
      else none
     | .tok nm e'=>
      if shx=sh/\e'=e/\arrm=false then match m.get nm with
       | some (.tok k sz)=>if k=es.length/\sz=sh.size then some (.lst sh false (.tok nm e) (es++y::ys),m.set nm (some (.tok (es.length+(y::ys).length) sh.size))) else none
       | _=>none
      else none
    else none
   else none
 | x,y=>rT d arrm sh bytes m x y
def ef(d:Option Nat)(sh:Sh)(m:ae)(v:AV):Option (AV×ae):=if eP sh v then some (.ptr (ak d m .resv).1 0,(ak d m (.obj true v.cells)).2) else none
def iq(sh:Sh)(vs:List AV):Option AV:=if vs.all (fun v=>eP sh (lV v)&&pl (lV v)) then some (.lst sh false .full (vs.map lV)) else if vs.all (fun v=>eP sh (lV v)) then some (.vec vs.length sh ((vs.map lV).flatMap AV.cells)) else none
def Cw:List AV->List (Nat×Sh×AV)->Option (List AV)
 | cs,[]=>some cs
 | cs,(off,sh,v)::r=>if eP sh v then if off+sh.size<=cs.length then Cw (ka cs off v.cells) r else none else none
def eI(zero:AV)(parts:List (Nat×Sh×AV)):Option AV:=match zero with
 | .agg cs=>(Cw cs parts).map .agg
 | _=>none
def jM(d:Option Nat)(e:Nat)(sh:Sh)(z:AV)(bytes:Nat)(m:ae)(l c:AV):Option (AV×ae):=match l,c with
 | .int _ l,.int _ c=>
  if 0<=l/\l<=c/\c*bytes<=281474976710656/\c<=9223372036854775807 then
   if l=c then some (.arr (ak d m .resv).1 0 l.toNat sh,(ak d m (.obj false (ud sh z l.toNat))).2)
   else if l=0 then some (.lst sh false (.tok (ak d m .resv).1 e) [],(ak d m (.tok 0 sh.size)).2) else none
  else none
 | _,_=>none
def atomV:AV->Option Value
 | .int k n=>some (.int k n)
 | .bool b=>some (.bool b)
 | .str s=>some (.string s)
 | _=>none
def rU:List AV->Option (List Value)
 | []=>some []
 | x::xs=>(atomV x).bind fun v=>(rU xs).map fun vs=>v::vs
def flatV:AV->Option Value
 | .agg cs=>(rU cs).map fun vs=>.agg vs.toArray
 | x=>atomV x
def Ob(k:IntKind)(n:Int):Bool:=decide (k.min<=n)&&decide (n<=k.max)
def oQ(k:IntKind):AV->Bool
 | .int k' n=>decide (k'=k)&&Ob k n
 | _=>false
def me:KK->AV->Bool
 | .str,.str s=>decide (s.size<=maxLen)
 | .int k,x=>oQ k x
 | .arr n k,.agg cs=>cs.length==n&&cs.all (oQ k)
 | _,_=>false
def zX:AV->AV->Bool
 | .int k n,.int k' n'=>decide (k=k')&&decide (n=n')
 | .str s,.str t=>decide (s=t)
 | _,_=>false
def zY:List AV->List AV->Bool
 | [],[]=>true
 | x::xs,y::ys=>zX x y&&zY xs ys
 | _,_=>false
def oi:AV->AV->Bool
 | .agg cs,.agg ds=>zY cs ds
 | x,y=>zX x y
def wH(P:Program)(k:Nat):Option KK:=match P.underlying k with
 | some .string=>some .str
 | some (.int q)=>some (.int q)
 | some (.array n e)=>match P.underlying e with
  | some (.int q)=>if P.tiled 2 k&&P.keyTypeAt 2 k&&P.keyType k&&(P.cellsOf e==1)&&decide (0<P.types.size) then some (.arr n q) else none
  | _=>none
 | _=>none
def tS:Bool:=false
def UF(P:Program)(t:Nat):Option (KK×Nat):=match P.underlying t with
 | some (.map k e)=>(wH P k).map fun kk=>(kk,e)
 | _=>none
def rj(P:Program)(t:Nat):Option (KK×Nat):=match tS with
 | true=>UF P t
 | false=>none
def vd(m:ae)(kk:KK)(x:AV):Option (Nat×List (AV×AV)):=match x with
 | .mref nm=>match m.get nm with
  | some (.mp kk' es)=>if kk'=kk then some (nm,es) else none
  | _=>none
 | _=>none
def MD(es:List (AV×AV))(key z:AV):AV×Bool:=match es.find? (fun p=>oi p.1 key) with
 | some p=>(p.2,true)
 | none=>(z,false)
def Dv(kk:KK)(z:AV)(m:ae)(x key:AV):Option (AV×Bool):=(vd m kk x).bind fun q=>if me kk key=true then some (MD q.2 key z) else none
def pD(es:List (AV×AV))(key v:AV):List (AV×AV):=match es.any (fun p=>oi p.1 key) with
 | true=>es.map fun p=>if oi p.1 key then (p.1,v) else p
 | false=>es++[(key,v)]
def qh1(_:AV):Bool:=true
def Bm(kk:KK)(m:ae)(x key v:AV):Option ae:=(vd m kk x).bind fun q=>if me kk key=true/\qh1 v=true/\q.2.length<maxLen then some (m.set q.1 (some (.mp kk (pD q.2 key v)))) else none
def yI(d:Option Nat)(sh:Sh)(z:AV)(bytes:Nat)(m:ae)(l c:AV):Option (AV×ae):=match d,sh,l,c with
 | none,none,.int _ l,.int _ c=>
  if (0<=l/\l=c/\c*bytes<=281474976710656/\c<=9223372036854775807)/\fZ z=true/\pl z=true then some (.lst none false .full (List.replicate l.toNat z),m) else none
 | _,_,_,_=>none
def NQ(P:Program)(t:Nat):Bool:=match P.underlying t with
 | some (.struct fs)=>fs.all fun f=>(P.info? f.type).isSome
 | some (.array _ e)=>(P.info? e).isSome
 | _=>false
section
variable {R:Type} (C:Cfg) (fid:Nat) (callP:Nat->List AV->Option AV) (callI:Nat->List AV->ae->Option (AV×ae)) (d:Option Nat)
def ao(d:Option Nat)(m:ae)(g:Nat)(vs:List AV):Option (AV×ae):=
 (bJ (frz m eo) vs).bind fun r=>if d.isSome && !r.2.isEmpty then none else (callP g r.1).map fun v=>(v,fg m r.2)
def nT(m:ae)(g:Nat)(vs:List AV):Option (AV×ae):=
 (bJ (frz m eo) vs).bind fun r=>(callI g r.1 []).bind fun q=>(zf m.length q.2 q.1).map fun t=>(t.1,fg m r.2++t.2)
def GA(m:ae)(x:AV):Option (AV×List Nat):=match x with
 | .arr nm off n sh=>frz m eo (.arr nm off n sh)
 | x=>some (x,[])
def Cy(m:ae)(g:Nat)(vs:List AV):Option (AV×ae):=(bJ (GA m) vs).bind fun r=>callI g r.1 (fg m r.2)
def nK(g:Nat)(vs:List AV)(m:ae)(K:AV->ae->Option R):Option R:=
 match C.libm g with
 | some h=>match d with
  | none=>(h vs m).bind fun r=>K r.1 r.2
  | some _=>none
 | none=>match C.lib g with
 | some h=>(h vs).bind fun v=>K v m
 | none=>match C.inl fid g with
  | true=>match d with
   | none=>(match C.frzc fid g with|true=>Cy callI m g vs|false=>match C.thaw fid g with|true=>nT callI m g vs|false=>callI g vs m).bind fun r=>K r.1 r.2
   | some _=>none
  | false=>(ao callP d m g vs).bind fun r=>K r.1 r.2
def xH(b:Builtin)(ts:Array TypeId)(vs:List AV)(m:ae)(K:AV->ae->Option R):Option R:=
 match b,vs with
 | .len,[x]=>match (ts[0]?).bind C.P.underlying with
  | some (.slice _)=>(aY false x).bind fun v=>K v m
  | some .string=>(aY true x).bind fun v=>K v m
  | _=>none
 | .max,[x,y]=>(oR true x y).bind fun v=>K v m
 | .min,[x,y]=>(oR false x y).bind fun v=>K v m
 | .append,[x,y]=>match ts[0]?,ts[1]? with
  | some t,some t'=>if t=t' then
    match Af C.P t with
    | some e=>match iz C.P e with
     | some sh=>if mL C.P e sh then (eG d (C.arrm fid) e sh (pd C.P e) m x y).bind fun r=>K r.1 r.2 else none
     | none=>none
    | none=>none
   else none
  | _,_=>none
 | _,_=>none
def jr(o:Oper)(ρ:Operand->AV)(m:ae)(K:AV->ae->Option R):Option R:=
 match o.op with
 | .move x=>K (ρ x) m
 | .assign x=>K (ρ x) m
 | .pick c a b=>(Nd (ρ c) (ρ a) (ρ b)).bind fun v=>K v m
 | .alloc t=>match rG C.P t with
  | some z=>K (.ptr (ak d m .resv).1 0) (ak d m (.obj true z.cells)).2
  | none=>none
 | .box t x=>match iz C.P t with
  | some sh=>(ef d sh m (ρ x)).bind fun r=>K r.1 r.2
  | none=>none
 | .build t ps=>if NQ C.P t then match rG C.P t,ps.toList.mapM (fun p=>(yU C.P t p.1).map fun f=>(f.1,f.2,ρ p.2)) with
  | some z,some l=>(eI z l).bind fun v=>K v m
  | _,_=>none else none
 | .buildSlice t n ps=>match Af C.P t with
  | some e=>match iz C.P e with
   | some sh=>if mL C.P e sh&&(ps.toList.map (·.1)==List.range n)&&decide (n*sh.size<=16777216) then (iq sh (ps.toList.map fun p=>ρ p.2)).bind fun v=>K v m else none
   | none=>none
  | none=>none
 | .load t a=>match iz C.P t with
  | some sh=>(ai sh m (ρ a)).bind fun v=>K v m
  | none=>none
 | .store t a x=>match iz C.P t with
  | some sh=>(aA sh m (ρ a) (ρ x)).bind fun m'=>K .any m'
  | none=>none
 | .nilCheck x=>(UZ (ρ x)).bind fun v=>K v m
 | .binOp op t x y _=>(af (Bi C.P t) op (ρ x) (ρ y)).bind fun v=>K v m
 | .unOp op _ x=>(iI op (ρ x)).bind fun v=>K v m
 | .convert src dst x=>match C.P.underlying dst with
  | some (.int k)=>if (C.P.underlying src).isSome then (bF k (ρ x)).bind fun v=>K v m else none
  | _=>none
 | .makeFunc fn fi cs=>match fn,fi.toList with
  | .func f,[]=>K (.fn f (cs.toList.map ρ)) m
  | _,_=>none
 | .makeSlice t l c=>match Af C.P t with
  | some e=>match iz C.P e,rG C.P e with
   | some sh,some z=>if mL C.P e sh then (match C.tokm fid with|true=>yI d sh z (pd C.P e) m (ρ l) (ρ c)|false=>jM d e sh z (pd C.P e) m (ρ l) (ρ c)).bind fun r=>K r.1 r.2 else none
   | _,_=>none
  | none=>none
 | .slice t x lo hi mx=>match C.P.underlying t with
  | some (.slice e)=>match iz C.P e with
   | some sh=>if mL C.P e sh then (nS sh (ρ x) (lo.map ρ) (hi.map ρ) (mx.map ρ)).bind fun v=>K v m else none
   | none=>none
  | some .string=>(Wq (ρ x) (lo.map ρ) (hi.map ρ) (mx.map ρ)).bind fun v=>K v m
  | _=>none
 | .fieldAddr t x f=>match wb C.P t f with
  | some (off,_)=>(aB off (ρ x)).bind fun v=>K v m
  | none=>none
 | .field t x f=>match wb C.P t f with
  | some (off,sh)=>(K3 off sh (ρ x)).bind fun v=>K v m
  | none=>none
 | .indexAddr t x i=>match C.P.underlying t with
  | some (.slice e)=>match iz C.P e with
   | some sh=>if mL C.P e sh then (aJ sh (ρ x) (ρ i)).bind fun v=>K v m else none
   | none=>none
  | some (.array n e)=>match iz C.P e with
   | some sh=>if mL C.P e sh then (Kz n sh (ρ x) (ρ i)).bind fun v=>K v m else none
   | none=>none
  | _=>none
 | .index t x i=>match C.P.underlying t with
  | some .string=>(sy (ρ x) (ρ i)).bind fun v=>K v m
  | _=>none
 | .extract t i=>(bg (ρ t) i).bind fun v=>K v m
 | .call c=>match c.callee with
  | .value f=>(xU (ρ f)).bind fun gc=>nK C fid callP callI d gc.1 (c.args.toList.map ρ++gc.2) m K
  | .builtin b=>xH C fid d b c.argTypes (c.args.toList.map ρ) m K
  | _=>none
 | .makeMap t n=>match n,d with
  | none,none=>match rj C.P t with
   | some (kk,_)=>K (.mref (ak d m .resv).1) (ak d m (.mp kk [])).2
   | none=>none
  | _,_=>none
 | .lookup t x i ok=>match rj C.P t with
  | some (kk,e)=>match rG C.P e with
   | some z=>(Dv kk z m (ρ x) (ρ i)).bind fun r=>match ok with
    | true=>K (.tup [r.1,.bool r.2]) m
    | false=>K r.1 m
   | none=>none
  | none=>none
 | .mapUpdate t x i y=>match rj C.P t with
  | some (kk,_)=>(Bm kk m (ρ x) (ρ i) (ρ y)).bind fun m'=>K .any m'
  | none=>none
 | .insert t x i y=>match rj C.P t with
  | some (kk,_)=>(Bm kk m (ρ x) (ρ i) (ρ y)).bind fun m'=>K .any m'
  | none=>none
 | .defer c=>match c.callee with
  | .value f=>match c.args.toList with
   | []=>(xU (ρ f)).bind fun gc=>match C.ben gc.1 with
    | true=>K .any m
    | false=>none
   | _::_=>none
  | _=>none
 | _=>none
end
def ev(ts:List AV):Operand->AV
 | .tmp t=>ts.getD t .any
 | .const v=>gE v
 | .global _=>.any
 | .func f=>.fn f []
def ee(ts:List AV)(dst:Option Nat)(v:AV):List AV:=match dst with
 | some d=>ts.set d v
 | none=>ts
section
variable {R:Type} (C:Cfg) (fid:Nat) (callP:Nat->List AV->Option AV) (callI:Nat->List AV->ae->Option (AV×ae))
def nt(o:Oper):Bool:=match o.op with
 | .alloc _ | .box .. | .makeSlice ..=>true
 | .call c=>match c.callee with
  | .builtin .append=>true
  | _=>false
 | _=>false
def eE(ops:Array Oper)(i:Nat):Nat:=((ops.toList.take i).filter nt).length
def rv(ops:Array Oper)(ts:List AV)(j:Nat):Bool:=match (ops[j]?).bind (·.guard) with
 | none=>false
 | some (j',want)=>match (ops[j']?).bind (·.dst) with
  | none=>false
  | some g=>match ts.getD g .any with
   | .bool b=>match b with
    | true=>match want with
     | true=>false
     | false=>true
    | false=>want
   | .tup _=>true
   | _=>false
def kR(base:Option Nat)(ops:Array Oper):List Nat->St->(St->Option R)->Option R
 | [],st,K=>K st
 | i::l,st,K=>match ops[i]? with
  | none=>none
  | some o=>match o.guard with
   | none=>jr C fid callP callI (base.map (· + eE ops i)) o (ev st.tmps) st.mem fun v m=>kR base ops l ⟨ee st.tmps o.dst v,m⟩ K
   | some (j,want)=>match (ops[j]?).bind (·.dst) with
    | none=>none
    | some g=>
     let run (b:Bool):Option R:=jr C fid callP callI (base.map (· + eE ops i)) o (ev (st.tmps.set g (.bool b))) st.mem fun v m=>kR base ops l ⟨ee (st.tmps.set g (.bool b)) o.dst v,m⟩ K
     let skip (b:Bool):Option R:=kR base ops l ⟨ee (st.tmps.set g (.bool b)) o.dst (.tup []),st.mem⟩ K
     match rv ops st.tmps j with
     | true=>match st.tmps.getD g .any with
      | .tup cs=>match cs with
       | []=>kR base ops l ⟨ee st.tmps o.dst (.tup []),st.mem⟩ K
       | _::_=>none
      | _=>none
     | false=>match want with
      | true=>au (st.tmps.getD g .any) (run true) (skip false)
      | false=>au (st.tmps.getD g .any) (skip true) (run false)
def pz:List Bool->List AV->List AV
 | _,[]=>[]
 | [],_::vs=>.any::pz [] vs
 | b::bs,v::vs=>(match b with|true=>v|false=>.any)::pz bs vs
abbrev dK(id:Nat)(K:Ex->St->Option R):Ex->St->Option R:=fun e st'=>match e with
 | .normal=>K .normal st'
 | .exit j=>match j==id with
  | true=>K .normal st'
  | false=>K (.exit j) st'
 | .ret=>K .ret st'
abbrev dQ(next:St->Option R)(K:Ex->St->Option R):Ex->St->Option R:=fun e st'=>match e with
 | .normal=>next st'
 | .exit id=>K (.exit id) st'
 | .ret=>K .ret st'
def keyOf:Code->Option Nat
 | .region id _ _=>some id
 | .seq a b=>match keyOf a with
  | some k=>some k
  | none=>keyOf b
 | .cond _ a b=>match keyOf a with
  | some k=>some k
  | none=>keyOf b
 | .block _ b | .loop b | .scope b=>keyOf b
 | _=>none
inductive Cls where
 | N|L|A|Ap|W
 deriving DecidableEq
def iM(o:Oper):Cls:=match o.op with
 | .move _ | .assign _ | .pick .. | .binOp .. | .unOp .. | .convert .. | .nilCheck _ | .extract .. | .field .. | .fieldAddr .. | .indexAddr .. | .index .. | .slice .. | .makeFunc .. | .build .. | .buildSlice ..=>.N
 | .load .. | .lookup ..=>.L
 | .alloc _ | .box .. | .makeSlice ..=>.A
 | .call c=>match c.callee with
  | .builtin .len | .builtin .max | .builtin .min=>.N
  | .builtin .append=>.Ap
  | .value _=>.L
  | _=>.W
 | _=>.W
def Cp:Cls->Cls->Bool
 | .N,_|_,.N | .L,.L | .L,.A | .L,.Ap | .A,.A=>true
 | _,_=>false
def py(ops:Array Oper)(o:Oper):List Nat:=
 (o.op.operands.toList.filterMap fun | .tmp t=>some t|_=>none) ++
 (match o.guard with
  | some (g,_)=>((ops[g]?).bind (·.dst)).toList++(match (ops[g]?).bind (·.guard) with
   | some (g',_)=>((ops[g']?).bind (·.dst)).toList
   | none=>[])
  | none=>[])
def vO(ops:Array Oper)(x y:Oper):Bool:=
 (match x.dst with
  | some d=>!(py ops y).contains d&&y.dst != some d
  | none=>true) &&
 (match y.dst with
  | some d=>!(py ops x).contains d
  | none=>true)
def Dw(x y:Oper):Bool:=match x.op with
 | .lookup ..=>match y.op with
  | .store ..=>true
  | _=>false
 | _=>false
def wZ(ops:Array Oper)(x y:Oper):Bool:=(Cp (iM x) (iM y)||Dw x y)&&vO ops x y
def nc(ops:Array Oper):Nat->List Nat
 | 0=>[]
 | n+1=>(nc ops n)++[match ops[n]? with
  | some o=>(o.after.toList.filter (Region.binds .any)).foldl (fun s e=>s ||| (2^e.on ||| (nc ops n).getD e.on 0)) 0
  | none=>0]
def tp(ops:Array Oper):List Nat:=nc ops ops.size
def yT(ops:Array Oper)(ah:List Nat):List Nat->Bool
 | []=>true
 | j::l=>l.all (fun i=>(ah.getD i 0).testBit j||(match ops[j]?,ops[i]? with|some x,some y=>wZ ops x y|_,_=>false))&&yT ops ah l
def Cb(ops:Array Oper)(ah:List Nat)(i:Nat):Bool:=match ops[i]?,ah[i]? with
 | some o,some a=>Nat.beq a (o.after.foldl (fun s e=>match Region.binds .any e with
  | true=>s ||| (2^e.on ||| ah.getD e.on 0)
  | false=>s) 0)
 | _,_=>false
def Ae(P:Program)(ops:Array Oper)(l:List Nat):Bool:=
 P.follows .mixedOrders&&l.isPerm (List.range ops.size)&&(List.range ops.size).all (fun i=>(match ops[i]? with|some o=>o.after.all fun e=>!Region.binds .any e||decide (e.on<i)|none=>false))&&yT ops (tp ops) l
def KR(P:Program)(ops:Array Oper)(l ah:List Nat):Bool:=
 P.follows .mixedOrders&&(l.isPerm (List.range ops.size)&&((List.range ops.size).all (fun i=>(match ops[i]? with|some o=>o.after.all fun e=>!Region.binds .any e||decide (e.on<i)|none=>false))&&(Nat.beq ah.length ops.size&&((List.range ops.size).all (Cb ops ah)&&yT ops ah l))))
def iD(o:Oper):Cls:=match iM o with
 | .N=>.N
 | .L=>match o.op with
  | .load ..=>.L
  | _=>.W
 | _=>.W
def vt(ops:Array Oper)(x y:Oper):Bool:=(match iD x,iD y with
 | .N,_|_,.N | .L,.L=>true
 | _,_=>false)&&vO ops x y
def qa:List (Nat×List Nat)->Nat->List Nat
 | [],_=>[]
 | (k,ys)::l,i=>match Nat.beq k i with
  | true=>ys
  | false=>qa l i
def yH(ops:Array Oper)(x y:Oper):Bool:=(match iD x with | .L=>true|_=>false)&&(vO ops x y&&(match x.dst with|some d=>!(py ops x).contains d|none=>false))
def Ww(ops:Array Oper)(x:Oper)(l:List Nat):Bool:=l.all fun k=>match ops[k]? with
 | some o=>match o.dst with
  | some d=>!(py ops x).contains d&&x.dst != some d
  | none=>true
 | none=>true
def vk(ops:Array Oper)(ah:List Nat)(lt:List (Nat×List Nat)):List Nat->Bool
 | []=>true
 | j::l=>(l.all (fun i=>(ah.getD i 0).testBit j||(match ops[j]?,ops[i]? with|some x,some y=>vt ops x y||((qa lt i).contains j&&yH ops x y)|_,_=>false)) &&
   ((match ops[j]? with
    | some x=>(match qa lt j with | []=>true|_::_=>(match iD x with | .W=>true|_=>false))&&(!(lt.any fun p=>p.2.contains j)||Ww ops x l)
    | none=>true)))&&vk ops ah lt l
def vZ(P:Program)(ops:Array Oper)(l ah:List Nat)(lt:List (Nat×List Nat)):Bool:=
 P.follows .mixedOrders&&(l.isPerm (List.range ops.size)&&((List.range ops.size).all (fun i=>(match ops[i]? with|some o=>o.after.all fun e=>!Region.binds .any e||decide (e.on<i)|none=>false))&&(Nat.beq ah.length ops.size&&((List.range ops.size).all (Cb ops ah)&&vk ops ah lt l))))
def eH(m:ae)(c:Nat):ae:=match c with
 | 0=>m
 | c+1=>m++List.replicate (c+1) (some .resv)
def oS(o:Option (List Nat))(n:Nat):List Nat:=match o with
 | some l=>l
 | none=>List.range n
end
def sN(P:Program)(m:ae)(ts:List AV):ResultVar->Option AV
 | .tmp t=>some (ts.getD t .any)
 | .cell a t=>(iz P t).bind fun sh=>ai sh m (ts.getD a .any)
def lU(P:Program)(m:ae)(ts:List AV):List ResultVar->Option (List AV)
 | []=>some []
 | r::rs=>(sN P m ts r).bind fun v=>(lU P m ts rs).map fun vs=>v::vs
def y9{R:Type}(P:Program)(m:ae)(ts:List AV):List ResultVar->(List AV->Option R)->Option R
 | [],K=>K []
 | .tmp t::rs,K=>y9 P m ts rs fun vs=>K (ts.getD t .any::vs)
 | .cell a t::rs,K=>match iz P t with
  | some sh=>(ai sh m (ts.getD a .any)).bind fun v=>y9 P m ts rs fun vs=>K (v::vs)
  | none=>none
def wN:List AV->AV
 | [v]=>v
 | vs=>.tup vs
def gv(call:Nat->List AV->ae->Option (AV×ae))(g:Nat)(vs:List AV):Option AV:=
 (call g vs []).bind fun r=>(frz r.2 eo r.1).bind fun r'=>if mh vs||gV r'.1 then some r'.1 else none
def aN(P:Program)(rs:List ResultVar):Ex->St->Option (AV×ae):=fun e st=>match e with
 | .normal=>y9 P st.mem st.tmps rs fun vs=>some (wN vs,st.mem)
 | .exit _=>none
 | .ret=>y9 P st.mem st.tmps rs fun vs=>some (wN vs,st.mem)
def al(f:Func):Code:=f.body.getD .skip
def c1:Code->Code
 | .seq a _=>a
 | .cond _ a _=>a
 | .block _ b | .loop b | .scope b=>b
 | c=>c
def c2:Code->Code
 | .seq _ b=>b
 | .cond _ _ b=>b
 | c=>c
def UI:List (Nat×Nat×Masks)->Nat->Option Nat->Masks
 | [],_,_=>⟨[],[],[]⟩
 | (f,k,m)::l,f',k'=>match f==f'&&some k==k' with
  | true=>m
  | false=>UI l f' k'
def Vj:List (Nat×Nat×List Nat)->Nat->Nat->Option (List Nat)
 | [],_,_=>none
 | (f,k,m)::l,f',k'=>match f==f'&&k==k' with
  | true=>some m
  | false=>Vj l f' k'
abbrev nl0:AV:=.lst none true .full []
abbrev yA1(l:List AV):List AV:=.any::l
abbrev yA2(l:List AV):List AV:=.any::.any::l
abbrev yA4(l:List AV):List AV:=.any::.any::.any::.any::l
abbrev Xw(l:List AV):List AV:=.any::.any::.any::.any::.any::.any::.any::.any::l
abbrev Xu(l:List AV):List AV:=Xw (Xw l)
abbrev Xv(l:List AV):List AV:=Xu (Xu l)
abbrev qkD(l:List AV):List AV:=Xv (Xv l)
@[match_pattern] abbrev AV.I(n:Int):AV:=.int .i64 n
@[match_pattern] abbrev TK.o:TK:=.other
@[match_pattern] abbrev AV.U(n:Int):AV:=.int .u64 n
@[match_pattern] abbrev Ent.B(l:List AV):Ent:=.obj true l
abbrev OM:=Option (AV×ae)
abbrev KT:=Ex->St->OM
end Go.Ab
namespace Go.Ab
open Go.RowKit
structure G where
 wr:Nat->Nat->Prop
 box:Nat->Prop
 loc:Nat->Option Nat
 tloc:Nat->Nat->Option Nat
abbrev flat(es:List AV):List AV:=es.flatMap AV.cells
def AQ(w:World)(g:G)(sh:Sh)(o:Own)(n:Nat)(a:Addr)(cap:Nat):Prop:=match o with
 | .no=>True
 | .full=>cap=n
 | .tok nm e=>g.tloc nm n=some a.block/\a.off=0/\∃c:Array Value,w.heap[a.block]?=some (Obj.cells c e (0,0))/\c.size=cap*sh.size
inductive V (w:World) (g:G):AV->Value->Prop
 | any (x:Value):V w g .any x
 | int (k:IntKind) (n:Int):V w g (.int k n) (.int k n)
 | bool (b:Bool):V w g (.bool b) (.bool b)
 | str (s:ByteArray):V w g (.str s) (.string s)
 | nils (sh:Sh) (o:Own) (ho:o=.full\/o=.no):V w g (.lst sh true o []) (.slice none 0 0)
 | lst (sh:Sh) (o:Own) (es:List AV) (a:Addr) (cap:Nat) (us:Nat->Value) (hs:cap=0\/a.spot=none) (hc:es.length<=cap) (hm:cap<=maxLen)
   (bO:∀e∈es,eP sh e=true/\pl e=true)
   (cf:∀j,j<(flat es).length->w.cell? ⟨a.block,a.off+j,none⟩=some (us j)/\¬ g.wr a.block (a.off+j)/\¬ g.box a.block)
   (hv:∀j,j<(flat es).length->V w g ((flat es).getD j .any) (us j))
   (ho:AQ w g sh o es.length a cap):V w g (.lst sh false o es) (.slice (some a) es.length cap)
 | arr (nm off n:Nat) (sh:Sh) (a:Addr) (cap:Nat) (hs:cap=0\/a.spot=none) (hc:n<=cap) (hm:cap<=maxLen) (hl:n=0\/g.loc nm=some a.block/\a=⟨a.block,off,none⟩/\∃(c:Array Value) (e:TypeId),w.heap[a.block]?=some (Obj.cells c e (0,0))/\off+cap*sh.size<=c.size):V w g (.arr nm off n sh) (.slice (some a) n cap)
 | ptr (nm off b:Nat) (hl:g.loc nm=some b):V w g (.ptr nm off) (.pointer (some ⟨b,off,none⟩))
 | vptr (cs:List AV) (b off:Nat) (us:Nat->Value)
   (cf:∀j,j<cs.length->w.cell? ⟨b,off+j,none⟩=some (us j)/\¬ g.wr b (off+j))
   (hv:∀j,j<cs.length->V w g (cs.getD j .any) (us j)):V w g (.vptr cs) (.pointer (some ⟨b,off,none⟩))
 | nilp:V w g .nilp (.pointer none)
 | nilf:V w g .nilf .nilFunc
 | nile:V w g .nile .nilIface
 | nilm:V w g .nilm (.map none)
 | agg (cs:List AV) (vs:Array Value) (hl:cs.length=vs.size) (hv:∀j,j<cs.length->V w g (cs.getD j .any) (vs.getD j undef)):V w g (.agg cs) (.agg vs)
 | tup (cs:List AV) (vs:Array Value) (hl:cs.length=vs.size) (hv:∀j,j<cs.length->V w g (cs.getD j .any) (vs.getD j undef)):V w g (.tup cs) (.tuple vs)
 | fn (f:Nat) (cs:List AV) (vs:Array Value) (hl:cs.length=vs.size) (hv:∀j,j<cs.length->V w g (cs.getD j .any) (vs.getD j undef)):V w g (.fn f cs) (.func (.func f) #[] vs)
 | mref (nm b:Nat) (hl:g.loc nm=some b):V w g (.mref nm) (.map (some b))
 | vec (n:Nat) (sh:Sh) (cs:List AV) (a:Addr) (cap:Nat) (us:Nat->Value) (hs:cap=0\/a.spot=none) (hc:n<=cap) (hm:cap<=maxLen) (hn:cs.length=n*sh.size) (gX:∀c∈cs,fZ c=true)
   (cf:∀j,j<cs.length->w.cell? ⟨a.block,a.off+j,none⟩=some (us j)/\¬ g.wr a.block (a.off+j))
   (hv:∀j,j<cs.length->V w g (cs.getD j .any) (us j)):V w g (.vec n sh cs) (.slice (some a) n cap)
structure Step (B:Nat) (w:World) (g:G) (w':World) (g':G):Prop where
 below:Below B w w'
 cell:∀(b off:Nat) (u:Value),¬ g.wr b off->w.cell? ⟨b,off,none⟩=some u->w'.cell? ⟨b,off,none⟩=some u
 shape:∀(b:Nat) (c:Array Value) (e:TypeId) (fr:Nat×Nat),w.heap[b]?=some (Obj.cells c e fr)->∃c':Array Value,w'.heap[b]?=some (Obj.cells c' e fr)/\c'.size=c.size
 wr:∀(b off:Nat),b<w.heap.size->¬ g.wr b off->¬ g'.wr b off
 wrB:∀(b off:Nat),b<B->(g'.wr b off↔g.wr b off)
 box:∀(b:Nat),b<w.heap.size->(g'.box b↔g.box b)
 loc:∀nm b,g.loc nm=some b->g'.loc nm=some b
 tloc:∀nm n b,g.tloc nm n=some b->g'.tloc nm n=some b
 others:∀(k:Nat) (o:Obj),w.heap[k]?=some o->o.isCells=false->(tS=true->∀es c,o≠.map es c)->w'.heap[k]?=some o
theorem Step.refl(B:Nat)(w:World)(g:G):Step B w g w g:=
 ⟨Below.refl _ _,fun _ _ _ _ h=>h,fun _ c _ _ h=>⟨c,h,rfl⟩,fun _ _ _ h=>h,fun _ _ _=>Iff.rfl,fun _ _=>Iff.rfl,fun _ _ h=>h,fun _ _ _ h=>h,fun _ _ h _ _=>h⟩
theorem tq{w:World}{b off:Nat}{u:Value}(h:w.cell? ⟨b,off,none⟩=some u):b<w.heap.size:=World.block_lt_of_cell? w ⟨b,off,none⟩ h
theorem Step.trans{B:Nat}{w w1 w2:World}{g g1 g2:G}(h:Step B w g w1 g1)(k:Step B w1 g1 w2 g2):Step B w g w2 g2 where
 below:=h.below.trans k.below
 cell b off u hm hc:=k.cell b off u (h.wr b off (tq hc) hm) (h.cell b off u hm hc)
 shape b c e fr hb:=by
  obtain ⟨c1,h1,e1⟩:=h.shape b c e fr hb;obtain ⟨c2,h2,e2⟩:=k.shape b c1 e fr h1;exact ⟨c2,h2,e2.trans e1⟩
 wr b off hb hm:=k.wr b off (rQ hb h.below.size) (h.wr b off hb hm)
 wrB b off hb:=(k.wrB b off hb).trans (h.wrB b off hb)
 box b hb:=(k.box b (rQ hb h.below.size)).trans (h.box b hb)
 loc nm b hl:=k.loc nm b (h.loc nm b hl)
 tloc nm n b hl:=k.tloc nm n b (h.tloc nm n b hl)
 others x o hx ho hm:=k.others x o (h.others x o hx ho hm) ho hm
theorem Step.mono{B B':Nat}{w w':World}{g g':G}(h:Step B w g w' g')(hB:B'<=B):Step B' w g w' g':=
 ⟨h.below.mono hB,h.cell,h.shape,h.wr,fun b off hb=>h.wrB b off (by omega),h.box,h.loc,h.tloc,h.others⟩
theorem AQ.step{B:Nat}{w w':World}{g g':G}{sh:Sh}{o:Own}{n:Nat}{a:Addr}{cap:Nat}(h:AQ w g sh o n a cap)(s:Step B w g w' g'):AQ w' g' sh o n a cap:=by
 cases o with
 | no=>trivial
 | full=>exact h
 | tok nm e=>
  obtain ⟨h1,h2,c,hc,hs⟩:=h;obtain ⟨c',tA,dP⟩:=s.shape _ _ _ _ hc;exact ⟨s.tloc _ _ _ h1,h2,c',tA,dP.trans hs⟩
theorem V.step{B:Nat}{w w':World}{g g':G}{x:AV}{v:Value}(h:V w g x v)(s:Step B w g w' g'):V w' g' x v:=by
 induction h with
 | any x=>exact .any x
 | int k n=>exact .int k n
 | bool b=>exact .bool b
 | str x=>exact .str x
 | nils sh o ho=>exact .nils sh o ho
 | lst sh o es a cap us hs hc hm bO cf hv ho ih=>
  refine .lst sh o es a cap us hs hc hm bO (fun j hj=>?_) ih (ho.step s);obtain ⟨h1,h2,h3⟩:=cf j hj;exact ⟨s.cell _ _ _ h2 h1,s.wr _ _ (tq h1) h2,fun hb=>h3 ((s.box _ (tq h1)).1 hb)⟩
 | arr nm off n sh a cap hs hc hm hl=>exact .arr nm off n sh a cap hs hc hm (hl.imp id fun ⟨h1,h2,c,e,h3,h4⟩=>by
  obtain ⟨c',k1,k2⟩:=s.shape _ _ _ _ h3
  exact ⟨s.loc _ _ h1,h2,c',e,k1,by omega⟩)
 | ptr nm off b hl=>exact .ptr nm off b (s.loc _ _ hl)
 | vptr cs b off us cf hv ih=>
  refine .vptr cs b off us (fun j hj=>?_) ih;obtain ⟨h1,h2⟩:=cf j hj;exact ⟨s.cell _ _ _ h2 h1,s.wr _ _ (tq h1) h2⟩
 | nilp=>exact .nilp
 | nilf=>exact .nilf
 | nile=>exact .nile
 | nilm=>exact .nilm
 | agg cs vs hl hv ih=>exact .agg cs vs hl ih
 | tup cs vs hl hv ih=>exact .tup cs vs hl ih
 | fn f cs vs hl hv ih=>exact .fn f cs vs hl ih
 | mref nm b hl=>exact .mref nm b (s.loc _ _ hl)
 | vec n sh cs a cap us hs hc hm hn gX cf hv ih=>
  refine .vec n sh cs a cap us hs hc hm hn gX (fun j hj=>?_) ih;obtain ⟨h1,h2⟩:=cf j hj;exact ⟨s.cell _ _ _ h2 h1,s.wr _ _ (tq h1) h2⟩
def bw(g:G)(m:ae)(nm:Nat):Option Nat:=match m.get nm with
 | some (.obj _ _)=>g.loc nm
 | some (.tok n _)=>g.tloc nm n
 | some .resv=>none
 | some (.mp _ _)=>g.loc nm
 | none=>none
def Jp:KK->Value->Prop
 | .str,v=>∃s:ByteArray,v=.string s/\s.size<=maxLen
 | .int k,v=>∃n:Int,v=.int k n/\Ob k n=true
 | .arr n k,v=>∃vs:Array Value,v=.agg vs/\vs.size=n/\∀x∈vs.toList,∃i:Int,x=.int k i/\Ob k i=true
structure MapR (w:World) (g:G) (kk:KK) (es':Array MapEntry) (clock:Nat) (es:List (AV×AV)):Prop where
 size:es'.size<=es.length
 room:es.length<=maxLen
 stamped:MapKept.Stamped es' clock
 keys:∀x∈es'.toList,Jp kk x.key
 ok:∀p∈es,me kk p.1=true
 to:∀p∈es,∃x∈es'.toList,flatV p.1=some x.key/\V w g p.2 x.val
 frm:∀x∈es'.toList,∃p∈es,flatV p.1=some x.key/\V w g p.2 x.val
 on:tS=true
theorem MapR.step{B:Nat}{w w':World}{g g':G}{kk:KK}{es':Array MapEntry}{clock:Nat}{es:List (AV×AV)}(M:MapR w g kk es' clock es)(s:Step B w g w' g'):MapR w' g' kk es' clock es where
 size:=M.size
 room:=M.room
 stamped:=M.stamped
 keys:=M.keys
 ok:=M.ok
 on:=M.on
 to p hp:=by obtain ⟨x,hx,h1,h2⟩:=M.to p hp;exact ⟨x,hx,h1,h2.step s⟩
 frm x hx:=by obtain ⟨p,hp,h1,h2⟩:=M.frm x hx;exact ⟨p,hp,h1,h2.step s⟩
class WInv where
 inv:World->Prop
structure MemR [WInv] (B:Nat) (w:World) (g:G) (m:ae):Prop where
 obj:∀nm bx cs,m.get nm=some (.obj bx cs)->∃(b:Nat) (c:Array Value) (e:TypeId),g.loc nm=some b/\B<=b/\w.heap[b]?=some (Obj.cells c e (0,0))/\cs.length<=c.size /\
  (∀j,j<cs.length->V w g (cs.getD j .any) (c.getD j undef))/\(∀off,g.wr b off)/\(g.box b↔bx=true)
 tok:∀nm n sz,m.get nm=some (.tok n sz)->∃(b:Nat) (c:Array Value) (e:TypeId),g.tloc nm n=some b/\B<=b/\w.heap[b]?=some (Obj.cells c e (0,0))/\(∀off,n*sz<=off->g.wr b off)/\(∀n',n<n'->g.tloc nm n'=none)/\¬ g.box b
 resv:∀nm,m.get nm=some .resv->g.loc nm=none/\∀n,g.tloc nm n=none
 fresh:∀nm,m.length<=nm->g.loc nm=none/\∀n,g.tloc nm n=none
 inj:∀nm nm' b,bw g m nm=some b->bw g m nm'=some b->nm=nm'
 wrLt:∀b off,g.wr b off->b<w.heap.size
 inv:∀w',Below B w w'->WInv.inv w'
 boxLt:∀b,g.box b->b<w.heap.size
 mp:∀nm kk es,m.get nm=some (.mp kk es)->∃(b:Nat) (es':Array MapEntry) (clock:Nat),g.loc nm=some b/\B<=b/\w.heap[b]?=some (.map es' clock)/\MapR w g kk es' clock es
theorem MemR.invB[WInv]{B:Nat}{w w1:World}{g:G}{m:ae}(h:MemR B w g m)(s:Below B w w1):∀w',Below B w1 w'->WInv.inv w':=fun w' k=>h.inv w' (s.trans k)
theorem MemR.invS[WInv]{B:Nat}{w w1:World}{g g1:G}{m:ae}(h:MemR B w g m)(s:Step B w g w1 g1):∀w',Below B w1 w'->WInv.inv w':=h.invB s.below
def gn(w:World)(g:G)(ts:List AV)(vs:Array Value):Prop:=ts.length=vs.size/\∀t,V w g (ts.getD t .any) (vs.getD t undef)
theorem gn.step{B:Nat}{w w':World}{g g':G}{ts:List AV}{vs:Array Value}(h:gn w g ts vs)(s:Step B w g w' g'):gn w' g' ts vs:=⟨h.1,fun t=>(h.2 t).step s⟩
end Go.Ab
namespace Go.Ab
open Go.RowKit
theorem FR(w:World)(g:G)(v:Value):V w g (o8 v) v:=by
 unfold o8
 split
 .exact .int _ _
 .exact .bool _
 .exact .str _
 .exact .nils _ _ (.inl rfl)
 .exact .nilp
 .exact .nilf
 .exact .nile
 .exact .nilm
 .exact .any _
theorem Ra(w:World)(g:G)(v:Value):V w g (gE v) v:=by
 unfold gE
 split
 .rename_i cs;refine .agg _ _ (by simp) fun j hj=>?_;have gg:j<cs.size:=by simpa using hj
  have:(cs.toList.map o8).getD j .any=o8 (cs.getD j undef):=by
   simp[bA,Array.getD,gg]
  rw[this];exact FR _ _ _
 .exact FR _ _ _
section
variable {P:Program} {w:World} {g:G}
theorem qi7(op:BinOp)(k:IntKind)(a b:Int){v:AV}(h:qS op k a b=some v)(hs:op≠.shl/\op≠.shr)(t:Nat):∃v',(binOp op t (.int k a) (.int k b)).run P w=.ok v' w/\V w g v v':=by
 cases op<;>simp[qS] at h<;>first
  | (obtain ⟨hb,rfl⟩:=h;refine ⟨_,?_,.int _ _⟩;simp[binOp,Op.intArith,Op.intDiv,Op.intBits,Op.intCmp,hb];done)
  | (subst h;first|refine ⟨_,?_,.int _ _⟩|refine ⟨_,?_,.bool _⟩)
 all_goals first
  | (simp[binOp,Op.intArith,Op.intDiv,Op.intBits,Op.intCmp];done)
  | exact absurd rfl hs.1|exact absurd rfl hs.2|skip
theorem A0(op:BinOp)(t:Nat)(x y:Operand)(a b:Value)(h:(match a,b with | .nilIface,.nilIface=>false | .agg _,.agg _=>false|_,_=>true)=true):(eqGuard op t x y a b).run P w=.ok () w:=by
 cases op<;>simp[eqGuard]<;>(split<;>simp_all)
theorem qja(d t e:Nat)(p:Option Addr)(h:P.underlying t=some (.pointer e)):(Op.equalIn (d+1) t (.pointer p) (.pointer none)).run P w=.ok p.isNone w:=by
 cases p<;>simp[Op.equalIn,run_underlying h]
theorem NF(t e:Nat)(p:Option Addr)(h:P.underlying t=some (.pointer e)):(Op.equal t (.pointer p) (.pointer none)).run P w=.ok p.isNone w:=qja 9999 t e p h
theorem qi8(d t:Nat){a b:Array Nat}{c:Bool}(h:P.underlying t=some (.func a b c)):(Op.equalIn (d+1) t .nilFunc .nilFunc).run P w=.ok true w:=by
 simp[Op.equalIn,run_underlying h]
theorem qjb(t:Nat){a b:Array Nat}{c:Bool}(h:P.underlying t=some (.func a b c)):(Op.equal t .nilFunc .nilFunc).run P w=.ok true w:=qi8 9999 t h
theorem qi9(d t:Nat){a b:Array Nat}{c:Bool}{f:Fn}{x:Array Value}{y:Array Value}(h:P.underlying t=some (.func a b c)):(Op.equalIn (d+1) t (.func f x y) .nilFunc).run P w=.ok false w:=by
 simp[Op.equalIn,run_underlying h]
theorem qjc(t:Nat){a b:Array Nat}{c:Bool}{f:Fn}{x:Array Value}{y:Array Value}(h:P.underlying t=some (.func a b c)):(Op.equal t (.func f x y) .nilFunc).run P w=.ok false w:=qi9 9999 t h
theorem Cv{op:BinOp}{b:Bool}{v:AV}{t:Nat}{x y:Value}(h:Gx op b=some v)(hr:(Op.equal t x y).run P w=.ok b w)(he:binOp .eql t x y=(do pure (.bool (<- Op.equal t x y))))(hn:binOp .neq t x y=(do pure (.bool (!(<- Op.equal t x y))))):∃v',(binOp op t x y).run P w=.ok v' w/\V w g v v':=by
 cases op<;>simp[Gx] at h
 .subst h;exact ⟨_,by rw[he];simp[hr],.bool _⟩
 .subst h;exact ⟨_,by rw[hn];simp[hr],.bool _⟩
theorem RB(op:BinOp)(t:Nat)(ox oy:Operand){x y v:AV}{x' y':Value}(hx:V w g x x')(hy:V w g y y')(h:af (Bi P t) op x y=some v) :
  ∃v',(do eqGuard op t ox oy x' y';binOp op t x' y':Sem Value).run P w=.ok v' w/\V w g v v':=by
 unfold af at h
 split at h
 .rename_i tk k a k' b;cases hx;cases hy;have hg:(eqGuard op t ox oy (.int k a) (.int k' b)).run P w=.ok () w:=A0 _ _ _ _ _ _ rfl;simp only[Sem.run_bind,hg,Result.andThen_ok]
  split at h
  .unfold sU at h
   split at h
   .cases h
   .simp at h;subst h;refine ⟨_,?_,.int _ _⟩;simp[binOp,Op.shift, *]
  .unfold sU at h
   split at h
   .cases h
   .simp at h;subst h;refine ⟨_,?_,.int _ _⟩;simp[binOp,Op.shift, *]
  .split at h
   .rename_i hk;subst hk;exact qi7 op k a b h ⟨by assumption,by assumption⟩ t
   .cases h
 .rename_i tk a b;cases hx;cases hy;have hg:(eqGuard op t ox oy (.string a) (.string b)).run P w=.ok () w:=A0 _ _ _ _ _ _ rfl;simp only[Sem.run_bind,hg,Result.andThen_ok]
  cases op<;>simp[RA] at h
  .obtain ⟨gU,rfl⟩:=h;refine ⟨_,?_,.str _⟩
   have:¬ (IntKind.i64.max<((a.size:Int)+(b.size:Int))):=by
    have:IntKind.i64.max=9223372036854775807:=rfl;omega
   simp[binOp,Op.stringOp,this];omega
  .subst h;exact ⟨_,by simp[binOp,Op.stringOp],.bool _⟩
  .subst h;exact ⟨_,by simp[binOp,Op.stringOp],.bool _⟩
 .rename_i a b og
  have ht:P.underlying t=some .bool:=by
   unfold Bi at og;split at og<;>simp_all
  cases hx;cases hy;have hg:(eqGuard op t ox oy (.bool a) (.bool b)).run P w=.ok () w:=A0 _ _ _ _ _ _ rfl;simp only[Sem.run_bind,hg,Result.andThen_ok]
  split at h
  .simp at h;subst h;exact ⟨_,run_eql_bool w t a b ht,.bool _⟩
  .simp at h;subst h;exact ⟨_,run_neq_bool w t a b ht,.bool _⟩
  .cases h
 .rename_i sh z o es sh' o' og
  obtain ⟨e,ht⟩:∃e,P.underlying t=some (.slice e):=by
   unfold Bi at og;split at og<;>simp_all
  cases hy;have hg:∀v,(eqGuard op t ox oy v (.slice none 0 0)).run P w=.ok () w:=fun v=>A0 _ _ _ _ _ _ (by cases v<;>rfl);simp only[Sem.run_bind,hg,Result.andThen_ok]
  split at h
  .simp at h;subst h
   cases hx
   .exact ⟨_,by simp[binOp,run_equal_slice_nil w t e _ _ _ ht],.bool _⟩
   .exact ⟨_,by simp[binOp,run_equal_slice_nil w t e _ _ _ ht],.bool _⟩
  .simp at h;subst h
   cases hx
   .exact ⟨_,by simp[binOp,run_equal_slice_nil w t e _ _ _ ht],.bool _⟩
   .exact ⟨_,by simp[binOp,run_equal_slice_nil w t e _ _ _ ht],.bool _⟩
  .cases h
 .rename_i x og
  obtain ⟨e,ht⟩:∃e,P.underlying t=some (.pointer e):=by
   unfold Bi at og;split at og<;>simp_all
  cases hy;have hg:∀v,(eqGuard op t ox oy v (.pointer none)).run P w=.ok () w:=fun v=>A0 _ _ _ _ _ _ (by cases v<;>rfl);simp only[Sem.run_bind,hg,Result.andThen_ok];obtain ⟨b,hb,h⟩:=aS.1 h;unfold Ui at hb
  split at hb
  .simp at hb;subst hb;cases hx;exact Cv h (NF t e _ ht) rfl rfl
  .simp at hb;subst hb;cases hx;exact Cv h (NF t e _ ht) rfl rfl
  .simp at hb;subst hb;cases hx;exact Cv h (NF t e _ ht) rfl rfl
  .cases hb
 .rename_i x og
  obtain ⟨a1,a2,a3,ht⟩:∃a b c,P.underlying t=some (.func a b c):=by
   unfold Bi at og;split at og<;>simp_all
  cases hy;have hg:∀v,(eqGuard op t ox oy v .nilFunc).run P w=.ok () w:=fun v=>A0 _ _ _ _ _ _ (by cases v<;>rfl);simp only[Sem.run_bind,hg,Result.andThen_ok];obtain ⟨b,hb,h⟩:=aS.1 h;unfold Uh at hb
  split at hb
  .simp at hb;subst hb;cases hx;exact Cv h (qjb t ht) rfl rfl
  .simp at hb;subst hb;cases hx;exact Cv h (qjc t ht) rfl rfl
  .cases hb
 .cases h
theorem Xe(op:UnOp){x v:AV}{x':Value}(hx:V w g x x')(h:iI op x=some v):∃v',(Op.unary op x').run P w=.ok v' w/\V w g v v':=by
 unfold iI at h
 split at h
 .simp at h;subst h;cases hx;exact ⟨_,rfl,.bool _⟩
 .simp at h;subst h;cases hx;exact ⟨_,by simp[Op.unary,Op.intArith],.int _ _⟩
 .cases h
theorem qiu{c a b v:AV}{c' a' b':Value}(hc:V w g c c')(ha:V w g a a')(hb:V w g b b')(h:Nd c a b=some v) :
  ∃v',(do pure (if <- asBool c' then a' else b'):Sem Value).run P w=.ok v' w/\V w g v v':=by
 unfold Nd at h
 split at h
 .rename_i t;simp at h;subst h;cases hc
  cases t
  .exact ⟨b',by simp[asBool],by simpa using hb⟩
  .exact ⟨a',by simp[asBool],by simpa using ha⟩
 .cases h
theorem qfW{t v:AV}{t':Value}{i:Nat}(ht:V w g t t')(h:bg t i=some v):∃v',(Instr.extract t' i).run P w=.ok v' w/\V w g v v':=by
 unfold bg at h
 split at h
 .rename_i cs
  cases ht with
  | tup cs vs hl hv=>
   obtain ⟨hi,rfl⟩:=dX.1 h;have hi':i<vs.size:=by omega
   refine ⟨vs[i],by simp[Instr.extract,hi'],?_⟩;have:=hv i hi;simpa [bA,hi,Array.getD,hi'] using this
 .cases h
theorem UK{mx:Bool}{x y v:AV}{x' y':Value}(hx:V w g x x')(hy:V w g y y')(h:oR mx x y=some v) :
  ∃v',((if mx then Builtin.max_ else Builtin.min_) #[] 0 #[x',y']).run P w=.ok v' w/\V w g v v':=by
 unfold oR at h
 split at h
 .rename_i k a k' b
  split at h
  .rename_i hk;subst hk;simp at h;subst h;cases hx;cases hy
   cases mx
   .exact ⟨_,by simp[Builtin.min_,Builtin.min2],.int _ _⟩
   .exact ⟨_,by simp[Builtin.max_,Builtin.max2],.int _ _⟩
  .cases h
 .cases h
theorem Ut{st:Bool}{x v:AV}{x':Value}(hx:V w g x x')(h:aY st x=some v)(ts:Array TypeId)(t ty:Nat)(ht:ts[0]?=some t)(hd:if st then P.underlying t=some .string else ∃e,P.underlying t=some (.slice e)) :
  ∃v',(Builtin.len_ ts ty #[x']).run P w=.ok v' w/\V w g v v':=by
 unfold aY at h
 split at h
 .simp at h;subst h;obtain ⟨e,hd⟩:∃e,P.underlying t=some (.slice e):=by simpa using hd
  cases hx
  .exact ⟨.int .i64 0,by simp[Builtin.len_,ht,run_underlying hd,goInt],.int _ _⟩
  .exact ⟨.int .i64 _,by simp[Builtin.len_,ht,run_underlying hd,goInt],.int _ _⟩
 .simp at h;subst h;obtain ⟨e,hd⟩:∃e,P.underlying t=some (.slice e):=by simpa using hd
  cases hx;exact ⟨.int .i64 _,by simp[Builtin.len_,ht,run_underlying hd,goInt],.int _ _⟩
 .simp at h;subst h;obtain ⟨e,hd⟩:∃e,P.underlying t=some (.slice e):=by simpa using hd
  cases hx;exact ⟨.int .i64 _,by simp[Builtin.len_,ht,run_underlying hd,goInt],.int _ _⟩
 .simp at h;subst h;have hd:P.underlying t=some .string:=by simpa using hd
  cases hx;exact ⟨.int .i64 _,by simp[Builtin.len_,ht,run_underlying hd,goInt],.int _ _⟩
 .cases h
theorem qfl{k:IntKind}{x v:AV}{x':Value}(hx:V w g x x')(h:bF k x=some v)(src dst:Nat)(hd:P.underlying dst=some (.int k))(hs:(P.underlying src).isSome) :
  ∃v',(convert src dst x').run P w=.ok v' w/\V w g v v':=by
 unfold bF at h
 split at h
 .simp at h;subst h;cases hx;obtain ⟨d,hsd⟩:=Option.isSome_iff_exists.1 hs;exact ⟨_,by simp[convert,run_underlying hd,run_underlying hsd,Conv.intToInt],.int _ _⟩
 .cases h
theorem zc{t:Nat}{sh:Sh}(h:iz P t=some sh):∃i d,P.info? t=some i/\P.underlying t=some d/\i.size=sh.size /\
  ((sh=none/\∀w:World,(isAgg t).run P w=.ok false w)\/(∃n,sh=some n)/\∀w:World,(isAgg t).run P w=.ok true w):=by
 unfold iz at h
 split at h
 .rename_i fs i hu hi;simp at h;subst h;exact ⟨i,_,hi,hu,rfl,.inr ⟨⟨_,rfl⟩,fun w=>by simp[isAgg,run_underlying hu]⟩⟩
 .rename_i n e i hu hi;simp at h;subst h;exact ⟨i,_,hi,hu,rfl,.inr ⟨⟨_,rfl⟩,fun w=>by simp[isAgg,run_underlying hu]⟩⟩
 .rename_i d i h1 h2 hu hi
  split at h
  .simp at h;subst h;refine ⟨i,d,hi,hu,by simpa [Sh.size] using ‹i.size=1›,.inl ⟨rfl,fun w=>?_⟩⟩;cases d<;>simp[isAgg,run_underlying hu]<;>simp_all
  .cases h
 .cases h
theorem mW{t:Nat}{i:TypeInfo}(hi:P.info? t=some i):(sizeOf t).run P w=.ok i.size w:=by simp[sizeOf,typeInfo,hi]
theorem Gy{t f off:Nat}{sh:Sh}(h:wb P t f=some (off,sh)):∃fs fd,P.underlying t=some (.struct fs)/\fs[f]?=some fd/\iz P fd.type=some sh/\fd.offset=off/\sh.size≠0:=by
 unfold wb at h
 split at h
 .rename_i fs hu
  split at h
  .rename_i fd uK
   split at h
   .rename_i sh' bO
    split at h
    .cases h
    .rename_i aE;simp at h;obtain ⟨rfl,rfl⟩:=h;exact ⟨fs,fd,hu,uK,bO,rfl,aE⟩
   .cases h
  .cases h
 .cases h
theorem Gh{sh:Sh}{cs:List AV}{off:Nat}{v:AV}(f:Nat->Value)(hv:∀j,j<cs.length->V w g (cs.getD j .any) (f j))(h:jU sh cs off=some v) :
  (sh=none->off<cs.length/\V w g v (f off))/\(∀n,sh=some n->off+n<=cs.length/\V w g v (.agg ((List.range n).map fun j=>f (off+j)).toArray)):=by
 unfold jU at h
 split at h
 .refine ⟨fun _=>?_,fun n hn=>by cases hn⟩;obtain ⟨hi,rfl⟩:=dX.1 h;exact ⟨hi,by simpa [bA,hi] using hv off hi⟩
 .rename_i n;refine ⟨fun hn=>by (cases hn),fun n' hn=>?_⟩;simp only[bp] at hn;subst hn
  split at h
  .rename_i hle;simp at h;subst h;refine ⟨hle,.agg _ _ (by simp;omega) fun j hj=>?_⟩;have gg:j<n:=by simp at hj;omega
   have:=hv (off+j) (by omega);simpa [bA,gg,Array.getD,qJ,qI] using this
  .cases h
theorem qiq{sh:Sh}{t off:Nat}{cs:List AV}{vs:Array Value}{v:AV}(bO:iz P t=some sh)(hl:cs.length=vs.size)(hv:∀j,j<cs.length->V w g (cs.getD j .any) (vs.getD j undef))(h:jU sh cs off=some v) :
  ∃v',(part t vs off).run P w=.ok v' w/\V w g v v':=by
 obtain ⟨i,d,hi,hd,hs,Lt⟩:=zc bO;obtain ⟨h1,h2⟩:=Gh _ hv h
 rcases Lt with ⟨rfl,ha⟩|⟨⟨n,rfl⟩,ha⟩
 .obtain ⟨aG,hV⟩:=h1 rfl;have TG:off<vs.size:=by omega
  refine ⟨vs[off],by simp[part,ha,TG],by simpa [Array.getD,TG] using hV⟩
 .obtain ⟨aG,hV⟩:=h2 n rfl;refine ⟨_,?_,hV⟩;simp only[part,Sem.run_bind,ha,Result.andThen_ok,eC,mW hi,Sem.run_pure];congr 2;simp only[Sh.size] at hs
  apply Array.ext
  .simp;omega
  .intro j hj gg;simp at hj gg;simp[Array.getD,show off+j<vs.size by omega]
theorem qfY{sh:Sh}{off:Nat}{x v:AV}{x':Value}(hx:V w g x x')(h:K3 off sh x=some v)(t f:Nat)(hf:wb P t f=some (off,sh)) :
  ∃v',(Instr.field t x' f).run P w=.ok v' w/\V w g v v':=by
 obtain ⟨fs,fd,hu,uK,bO,rfl,_⟩:=Gy hf;unfold K3 at h
 split at h
 .rename_i cs
  cases hx with
  | agg cs vs hl hv=>
   obtain ⟨v',hr,hV⟩:=qiq bO hl hv h;exact ⟨v',by simp[Instr.field,run_underlying hu,uK,asAgg,hr],hV⟩
 .cases h
theorem lZ(b off n:Nat):(⟨b,off,none⟩:Addr).add n=⟨b,off+n,none⟩:=by
 unfold Addr.add;split<;>simp_all
theorem qfX{sh:Sh}{off:Nat}{x v:AV}{x':Value}(hx:V w g x x')(h:aB off x=some v)(t f:Nat)(hf:wb P t f=some (off,sh)) :
  ∃v',(Instr.fieldAt t x' f).run P w=.ok v' w/\V w g v v':=by
 obtain ⟨fs,fd,hu,uK,bO,rfl,aE⟩:=Gy hf;obtain ⟨i,d,hi,hd,hs,_⟩:=zc bO;have hz:i.size≠0:=by omega
 unfold aB at h
 split at h
 .rename_i cs
  split at h
  .rename_i aG;simp at h;subst h
   cases hx with
   | vptr cs b o us cf hv=>
    refine ⟨.pointer (some ⟨b,o+fd.offset,none⟩),by simp[Instr.fieldAt,run_underlying hu,uK,Instr.sureAddr,fieldPlace,mW hi,hz,lZ],?_⟩
    refine .vptr _ _ _ (fun j=>us (fd.offset+j)) (fun j hj=>?_) (fun j hj=>?_)
    .have:=cf (fd.offset+j) (by simp at hj;omega);simpa [my] using this
    .have:=hv (fd.offset+j) (by simp at hj;omega);simpa [bA,qI] using this
  .cases h
 .rename_i nm o;simp at h;subst h
  cases hx with
  | ptr nm o b hl=>exact ⟨.pointer (some ⟨b,o+fd.offset,none⟩),by simp[Instr.fieldAt,run_underlying hu,uK,Instr.sureAddr,fieldPlace,mW hi,hz,lZ],.ptr _ _ _ hl⟩
 .cases h
theorem A1{t b off:Nat}{sh:Sh}(bO:iz P t=some sh)(f:Nat->Value)(hc:∀j,j<sh.size->w.cell? ⟨b,off+j,none⟩=some (f j)) :
  (loadVar t ⟨b,off,none⟩).run P w=.ok (match sh with|none=>f 0|some n=>.agg ((List.range n).map f).toArray) w:=by
 obtain ⟨i,d,hi,hd,hs,Lt⟩:=zc bO
 rcases Lt with ⟨rfl,ha⟩|⟨⟨n,rfl⟩,ha⟩
 .have:=hc 0 (by simp[Sh.size]);simp only[jo] at this;simp[loadVar,ha,this]
 .have hl:=run_loadCells (P:=P) w ⟨b,off,none⟩ n f (fun j hj=>by rw[lZ];exact hc j hj);simp only[Sh.size] at hs;simp only[loadVar,Sem.run_bind,ha,Result.andThen_ok,eC,mW hi,hs,hl,Sem.run_pure]
theorem Uw[WInv]{B:Nat}{m:ae}(hm:MemR B w g m){sh:Sh}{x v:AV}{x':Value}(hx:V w g x x')(h:ai sh m x=some v)(t:Nat)(bO:iz P t=some sh) :
  ∃v',(Instr.loadAt t x').run P w=.ok v' w/\V w g v v':=by
 unfold ai at h
 split at h
 .rename_i cs
  cases hx with
  | vptr cs b o us cf hv=>
   obtain ⟨h1,h2⟩:=Gh us hv h
   cases sh with
   | none=>
    obtain ⟨aG,hV⟩:=h1 rfl;exact ⟨_,by simp only[Instr.loadAt,Instr.sureAddr,Sem.run_bind,Sem.run_pure,Result.andThen_ok];exact A1 bO us (fun j hj=>(cf j (by simp only[Sh.size] at hj;omega)).1),hV⟩
   | some n=>
    obtain ⟨aG,hV⟩:=h2 n rfl;exact ⟨_,by simp only[Instr.loadAt,Instr.sureAddr,Sem.run_bind,Sem.run_pure,Result.andThen_ok];exact A1 bO us (fun j hj=>(cf j (by simp only[Sh.size] at hj;omega)).1),by simpa using hV⟩
 .rename_i nm o;obtain ⟨⟨bx,cs⟩,gd,h⟩:=aS.1 h
  cases hx with
  | ptr nm o b hl=>
   have aQ:m.get nm=some (.obj bx cs):=by
    unfold ae.obj? at gd
    split at gd
    .rename_i hh;simp at gd;rw[hh,gd.1,gd.2]
    .cases gd
   obtain ⟨b',c,e,nO,hB,si,gU,hV,_⟩:=hm.obj nm bx cs aQ;obtain rfl:b=b':=by simpa [hl] using nO
   have cf:∀j,j<cs.length->w.cell? ⟨b,j,none⟩=some (c.getD j undef):=fun j hj=>by
    rw[cell_of_row w b j c e (0,0) si];simp[Array.getD,show j<c.size by omega]
   obtain ⟨h1,h2⟩:=Gh _ hV h
   cases sh with
   | none=>
    obtain ⟨aG,hV⟩:=h1 rfl;exact ⟨_,by simp only[Instr.loadAt,Instr.sureAddr,Sem.run_bind,Sem.run_pure,Result.andThen_ok];exact A1 bO (fun j=>c.getD (o+j) undef) (fun j hj=>cf _ (by simp only[Sh.size] at hj;omega)),hV⟩
   | some n=>
    obtain ⟨aG,hV⟩:=h2 n rfl;exact ⟨_,by simp only[Instr.loadAt,Instr.sureAddr,Sem.run_bind,Sem.run_pure,Result.andThen_ok];exact A1 bO (fun j=>c.getD (o+j) undef) (fun j hj=>cf _ (by simp only[Sh.size] at hj;omega)),hV⟩
 .cases h
theorem sS{sh:Sh}{e:AV}(h:eP sh e=true):e.cells.length=sh.size:=by
 cases sh with
 | none=>cases e<;>simp_all [eP,fZ,AV.cells,Sh.size]
 | some n=>cases e<;>simp_all [eP,AV.cells,Sh.size]
theorem B5{x:AV}{v:Value}(h:V w g x v)(ha:fZ x=true):v.oneCell'=true/\v.cells = #[v]:=by
 cases h<;>first|(simp[fZ] at ha;done)|exact ⟨rfl,rfl⟩
theorem FT{sh:Sh}{x:AV}{v:Value}(h:V w g x v)(hs:eP sh x=true):v.cells.size=sh.size/\(∀j,j<sh.size->V w g (x.cells.getD j .any) (v.cells.getD j undef))/\∀u∈v.cells.toList,u.oneCell'=true:=by
 cases sh with
 | none=>
  have ha:fZ x=true:=hs;obtain ⟨h1,h2⟩:=B5 h ha
  have hx:x.cells=[x]:=by cases x<;>first|rfl|(simp[fZ] at ha)
  rw[h2,hx]
  refine ⟨rfl,fun j hj=>?_,fun u hu=>?_⟩
  .obtain rfl:j=0:=by simp only[Sh.size] at hj;omega
   simpa using h
  .simp at hu;rw[hu];exact h1
 | some n=>
  cases h<;>first|(simp[eP] at hs;done)|skip
  rename_i cs vs hl hv;simp[eP] at hs;obtain ⟨hn,dS⟩:=hs;refine ⟨by simp[Value.cells,Sh.size];omega,fun j hj=>hv j (by simp only[Sh.size] at hj;omega),fun u hu=>?_⟩;obtain ⟨j,hj,rfl⟩:=List.mem_iff_getElem.1 hu;have gg:j<cs.length:=by simp[Value.cells] at hj;omega
  have:=hv j gg;simp[Value.cells] at hj;have hc:=dS cs[j] (fH gg);have:=B5 this (by simpa [bA,gg] using hc);simpa [Value.cells,Array.getD,hj] using this.1
theorem rY{sh:Sh}:∀{es:List AV},(∀e∈es,eP sh e=true)->(flat es).length=es.length*sh.size
 | [],_=>by simp
 | e::es,h=>by
  have h1:=sS (h e (by simp));have h2:=rY (es:=es) fun x hx=>h x (by simp[hx]);simp only[BV,aK,h1,aR,mC];rw[h2];omega
theorem Sr{sh:Sh}:∀{es:List AV},(∀e∈es,eP sh e=true)->∀(i j:Nat) (hi:i<es.length),j<sh.size->(flat es).getD (i*sh.size+j) .any=(es[i].cells).getD j .any
 | [],_,_,_,hi,_=>by simp at hi
 | e::es,h,i,j,hi,hj=>by
  have h1:=sS (h e (by simp))
  cases i with
  | zero=>simp[bA,pL,h1,hj]
  | succ i=>
   have ih:=Sr (es:=es) (fun x hx=>h x (by simp[hx])) i j (by simpa using hi) hj;have:(i+1)*sh.size+j=e.cells.length+(i*sh.size+j):=by rw[h1,mC];omega
   rw[this];simp only[BV,List.getElem_cons_succ];rw[<- ih];simp only[bA,pL];rw[ag (by omega)];simp
theorem rX{e:Nat}{sh:Sh}(h:mL P e sh=true):∃i z,P.info? e=some i/\i.size=sh.size/\0<i.size/\i.zero=some z/\z.cells.size=i.size/\(sh=none->∀cs,z≠.agg cs):=by
 unfold mL at h
 split at h
 .rename_i i hi;simp at h;obtain ⟨⟨h1,h2⟩,h3⟩:=h
  split at h3
  .rename_i z hz;simp at h3;refine ⟨i,z,hi,h1,h2,hz,h3.1,?_⟩;rintro rfl cs rfl;simp at h3
  .simp at h3
 .cases h
theorem UR{i n s j:Nat}(hi:i<n)(hj:j<s):i*s+j<n*s:=by
 have:(i+1)*s<=n*s:=fW _ hi;rw[mC] at this;omega
theorem qhm{e:Nat}{sh:Sh}{x i v:AV}{x' i':Value}(hx:V w g x x')(hi:V w g i i')(h:aJ sh x i=some v)(t:Nat)(ht:P.underlying t=some (.slice e))(he:mL P e sh=true) :
  ∃v',(Instr.indexAt t x' i').run P w=.ok v' w/\V w g v v':=by
 obtain ⟨inf,z,pS,hs,lO,_,_,_⟩:=rX he;unfold aJ at h
 split at h
 .rename_i k i;cases hi
  split at h
  .rename_i sh' z o es
   split at h
   .rename_i bO;subst bO
    split at h
    .rename_i h0;obtain ⟨el,kI,rfl⟩:=gm.1 h;obtain ⟨aG,kI⟩:=dX.1 kI
     cases hx with
     | nils=>simp at aG
     | lst _ o es a cap us jZ hc hm bO cf hv ho=>
      have dS:∀e∈es,eP sh' e=true:=fun e he=>(bO e he).1;have aU:i<(es.length:Int):=by omega
      have jW:=rY dS;have jZ:a.spot=none:=jZ.resolve_left (by omega);have ha:a=⟨a.block,a.off,none⟩:=by cases a;simp_all
      refine ⟨.pointer (some ⟨a.block,a.off+i.toNat*sh'.size,none⟩),?_,?_⟩
      .rw[ha];simp[Instr.indexAt,asIntOf,run_underlying ht,h0,aU,mW pS,lZ,hs]
      .have kH:el.cells.length=sh'.size:=sS (dS el (kI▸fH aG))
       refine .vptr _ _ _ (fun j=>us (i.toNat*sh'.size+j)) (fun j hj=>?_) (fun j hj=>?_)
       .have:=cf (i.toNat*sh'.size+j) (by rw[jW];exact UR aG (by omega));rw[my];exact ⟨this.1,this.2.1⟩
       .have h1:=hv (i.toNat*sh'.size+j) (by rw[jW];exact UR aG (by omega));rw[Sr dS i.toNat j aG (by omega),kI] at h1;exact h1
    .cases h
   .cases h
  .rename_i nm off n sh'
   split at h
   .rename_i bO;subst bO
    split at h
    .rename_i hb;simp at h;subst h
     cases hx with
     | arr _ _ _ _ a cap jZ hc hm hl=>
      obtain ⟨hl,ha,_⟩:=hl.resolve_left (by omega);refine ⟨.pointer (some ⟨a.block,off+i.toNat*sh'.size,none⟩),?_,.ptr _ _ _ hl⟩;rw[ha];simp[Instr.indexAt,asIntOf,run_underlying ht,hb.1,hb.2,mW pS,lZ,hs]
    .cases h
   .cases h
  .rename_i n sh' cs
   split at h
   .rename_i bO;subst bO
    split at h
    .rename_i hb;simp only[bp] at h;subst h
     cases hx with
     | vec _ _ _ a cap us jZ hc hm hn gX cf hv=>
      have ha:a=⟨a.block,a.off,none⟩:=by
       have:=jZ.resolve_left (by omega);cases a;simp_all
      have hle:i.toNat*sh'.size+sh'.size<=cs.length:=by
       rw[hn,<- mC];exact fW _ (by omega)
      have hlen:((cs.drop (i.toNat*sh'.size)).take sh'.size).length=sh'.size:=by simp;omega
      refine ⟨.pointer (some ⟨a.block,a.off+i.toNat*sh'.size,none⟩),?_,.vptr _ _ _ (fun j=>us (i.toNat*sh'.size+j)) (fun j hj=>?_) (fun j hj=>?_)⟩
      .rw[ha];simp[Instr.indexAt,asIntOf,run_underlying ht,hb.1,hb.2,mW pS,lZ,hs]
      .rw[hlen] at hj;have:=cf (i.toNat*sh'.size+j) (by omega);rw[<- my] at this;exact this
      .rw[hlen] at hj;have:=hv (i.toNat*sh'.size+j) (by omega)
       have e1:((cs.drop (i.toNat*sh'.size)).take sh'.size).getD j .any=cs.getD (i.toNat*sh'.size+j) .any:=by
        simp[bA,qJ,qI,hj]
       rw[e1];exact this
    .cases h
   .cases h
  .cases h
 .cases h
theorem qdo{e n:Nat}{sh:Sh}{x i v:AV}{x' i':Value}(hx:V w g x x')(hi:V w g i i')(h:Kz n sh x i=some v)(t:Nat)(ht:P.underlying t=some (.array n e))(he:mL P e sh=true) :
  ∃v',(Instr.indexAt t x' i').run P w=.ok v' w/\V w g v v':=by
 obtain ⟨inf,z,pS,hs,lO,_,_,_⟩:=rX he;unfold Kz at h
 split at h
 .rename_i k i;cases hi
  split at h
  .rename_i hb;unfold aB at h
   split at h
   .rename_i cs
    split at h
    .rename_i aG;simp at h;subst h
     cases hx with
     | vptr cs b o us cf hv=>
      refine ⟨.pointer (some ⟨b,o+i.toNat*sh.size,none⟩),by simp[Instr.indexAt,asIntOf,run_underlying ht,Instr.sureAddr,hb.1,hb.2,mW pS,lZ,hs],?_⟩
      refine .vptr _ _ _ (fun j=>us (i.toNat*sh.size+j)) (fun j hj=>?_) (fun j hj=>?_)
      .have:=cf (i.toNat*sh.size+j) (by simp at hj;omega);simpa [my] using this
      .have:=hv (i.toNat*sh.size+j) (by simp at hj;omega);simpa [bA,qI] using this
    .cases h
   .rename_i nm o;simp at h;subst h
    cases hx with
    | ptr nm o b hl=>exact ⟨.pointer (some ⟨b,o+i.toNat*sh.size,none⟩),by simp[Instr.indexAt,asIntOf,run_underlying ht,Instr.sureAddr,hb.1,hb.2,mW pS,lZ,hs],.ptr _ _ _ hl⟩
   .cases h
  .cases h
 .cases h
theorem qhn{x i v:AV}{x' i':Value}(hx:V w g x x')(hi:V w g i i')(h:sy x i=some v)(t:Nat)(ht:P.underlying t=some .string) :
  ∃v',(Instr.index t x' i').run P w=.ok v' w/\V w g v v':=by
 unfold sy at h
 split at h
 .rename_i s k i;cases hx;cases hi
  split at h
  .rename_i h0;obtain ⟨b,hb,rfl⟩:=gm.1 h;exact ⟨_,by simp[Instr.index,asIntOf,run_underlying ht,h0,hb],.int _ _⟩
  .cases h
 .cases h
def qN(w:World)(g:G):Option AV->Option Value->Prop
 | none,none=>True
 | some x,some x'=>V w g x x'
 | _,_=>False
theorem Cg{y Y d r:Nat}{x:AV}{x':Value}(hx:V w g x x')(hY:y<=Y)(h:jI y (some x) d=some r)(code:BoundsCode) :
  (Instr.sliceBound x' Y code).run P w=.ok r w/\r<=y:=by
 unfold jI at h
 split at h
 .rename_i heq;cases heq
 .rename_i k i heq;simp at heq;subst heq;cases hx
  split at h
  .rename_i hb;simp at h;subst h;have h2:i<=(Y:Int):=by omega
   exact ⟨by simp[Instr.sliceBound,asIntOf,hb.1,h2],by omega⟩
  .cases h
 .cases h
theorem Ch{isS:Bool}{len cap h l:Nat}{lo hi:Option AV}{lo' hi':Option Value}(eV:qN w g lo lo')(pj:qN w g hi hi')(hc:len<=cap)
  (h1:jI len hi len=some h) (h2:jI h lo 0=some l):(Instr.sliceBounds isS len cap lo' hi' none).run P w=.ok (l,h,cap) w/\l<=h/\h<=len:=by
 have e1:(match hi' with|some v=>Instr.sliceBound v cap (if isS then .sliceAcap else .sliceAlen)|none=>pure len:Sem Nat).run P w=.ok h w/\h<=len:=by
  cases hi with
  | none=>
   cases hi' with
   | none=>simp[jI] at h1;subst h1;exact ⟨rfl,aW _⟩
   | some _=>exact pj.elim
  | some x=>
   cases hi' with
   | none=>exact pj.elim
   | some x'=>exact Cg pj hc h1 _
 have e2:(match lo' with|some v=>Instr.sliceBound v h .sliceB|none=>pure 0:Sem Nat).run P w=.ok l w/\l<=h:=by
  cases lo with
  | none=>
   cases lo' with
   | none=>simp[jI] at h2;subst h2;exact ⟨rfl,jH _⟩
   | some _=>exact eV.elim
  | some x=>
   cases lo' with
   | none=>exact eV.elim
   | some x'=>exact Cg eV (aW _) h2 _
 refine ⟨?_,e2.2,e1.2⟩;have a1:=e1.1;have a2:=e2.1;cases hi'<;>cases lo'<;>simp_all [Instr.sliceBounds]
theorem RD{len cap mx h l:Nat}{lo hi:Option AV}{mv:AV}{lo' hi':Option Value}{mv':Value}(eV:qN w g lo lo')(pj:qN w g hi hi')(hmv:V w g mv mv')(hc:len<=cap)
  (h0:jI len (some mv) 0=some mx) (h1:jI mx hi 0=some h) (h2:jI h lo 0=some l) (qha:hi.isSome):(Instr.sliceBounds true len cap lo' hi' (some mv')).run P w=.ok (l,h,mx) w/\l<=h/\h<=mx/\mx<=len:=by
 obtain ⟨e0,e0'⟩:=Cg (P:=P) hmv hc h0 .slice3Acap
 cases hi with
 | none=>simp at qha
 | some x=>
  cases hi' with
  | none=>exact pj.elim
  | some x'=>
   obtain ⟨e1,e1'⟩:=Cg (P:=P) pj (aW _) h1 .slice3B
   cases lo with
   | none=>
    cases lo' with
    | none=>
     simp[jI] at h2;subst h2;exact ⟨by simp[Instr.sliceBounds,e0,e1],jH _,e1',e0'⟩
    | some _=>exact eV.elim
   | some y=>
    cases lo' with
    | none=>exact eV.elim
    | some y'=>
     obtain ⟨e2,e2'⟩:=Cg (P:=P) eV (aW _) h2 .slice3C;exact ⟨by simp[Instr.sliceBounds,e0,e1,e2],e2',e1',e0'⟩
theorem K9{sh:Sh}:∀{es:List AV},(∀e∈es,eP sh e=true)->∀l,flat (es.drop l)=(flat es).drop (l*sh.size)
 | [],_,l=>by simp
 | e::es,h,0=>by simp
 | e::es,h,l+1=>by
  have h1:=sS (h e (by simp));have ih:=K9 (es:=es) (fun x hx=>h x (by simp[hx])) l;have e1:List.drop ((l+1)*sh.size) e.cells=[]:=List.drop_eq_nil_of_le (by rw[h1,mC];omega);have e2:(l+1)*sh.size-e.cells.length=l*sh.size:=by rw[h1,mC];omega
  show flat (es.drop l)=(e.cells++flat es).drop ((l+1)*sh.size);rw[ih,List.drop_append,e1,e2];simp
theorem Lb{sh:Sh}:∀{es:List AV},(∀e∈es,eP sh e=true)->∀l,flat (es.take l)=(flat es).take (l*sh.size)
 | [],_,l=>by simp
 | e::es,h,0=>by simp
 | e::es,h,l+1=>by
  have h1:=sS (h e (by simp));have ih:=Lb (es:=es) (fun x hx=>h x (by simp[hx])) l;have e1:List.take ((l+1)*sh.size) e.cells=e.cells:=nY (by rw[h1,mC];omega);have e2:(l+1)*sh.size-e.cells.length=l*sh.size:=by rw[h1,mC];omega
  show e.cells++flat (es.take l)=(e.cells++flat es).take ((l+1)*sh.size);rw[ih,List.take_append,e1,e2]
theorem Q9{sh:Sh}{o o':Own}{es:List AV}{a:Addr}{cap l h m:Nat}(hx:V w g (.lst sh false o es) (.slice (some a) es.length cap))(hl:l<=h)(hh:h<=es.length)(Ts:h<=m)(hm:m<=cap)
  (ho:o'=.no\/o'=.full/\h=m):V w g (.lst sh false o' ((es.take h).drop l)) (.slice (some (if m=l then a else a.add (l*sh.size))) (h-l) (m-l)):=by
 generalize hn:es.length=n at hx
 cases hx with
 | lst _ o es a cap us jZ hc eR bO cf hv jb=>
  have dS:∀e∈es,eP sh e=true:=fun e he=>(bO e he).1;have hlen:((es.take h).drop l).length=h-l:=by simp;omega
  have ha:¬ m=l->a=⟨a.block,a.off,none⟩:=fun iF=>by
   have:=jZ.resolve_left (by omega);cases a;simp_all
  have fp:∀e∈(es.take h).drop l,e∈es:=fun e he=>um (List.mem_of_mem_drop he);rw[<- hlen];have TJ:m-l<=maxLen:=by omega
  by_cases iF:m=l
  .have h0:h=l:=by omega
   have so:(es.take h).drop l=[]:=vD (by omega);rw[aj iF,so];refine .lst sh o' [] a _ us (.inl (by omega)) (jH _) TJ (by simp) (by simp) (by simp) ?_
   rcases ho with rfl|⟨rfl,_⟩
   .trivial
   .show m-l=0;omega
  .rw[ag iF];have ha:=ha iF
   refine .lst sh o' _ _ _ (fun j=>us (l*sh.size+j)) (.inr (by rw[ha,lZ])) (by omega) TJ (fun e he=>bO e (fp e he)) (fun j hj=>?_) (fun j hj=>?_) ?_
   .rw[K9 (fun e he=>dS e (um he)),Lb dS] at hj
    have gg:l*sh.size+j<(flat es).length:=by
     simp only[rL,oA] at hj;omega
    have:=cf _ gg;rw[ha,lZ];simpa [my] using this
   .rw[K9 (fun e he=>dS e (um he)),Lb dS] at hj ⊢
    have mO:l*sh.size+j<h*sh.size:=by
     simp only[rL,oA] at hj;omega
    have gg:l*sh.size+j<(flat es).length:=by
     simp only[rL,oA] at hj;omega
    have:=hv _ gg;simpa [bA,qI,qJ,mO] using this
   .rcases ho with rfl|⟨rfl,eL⟩
    .trivial
    .show m-l=_;rw[hlen,eL]
theorem qju{e:Nat}{sh sh':Sh}{z:Bool}{o:Own}{es:List AV}{v:AV}{x':Value}{lo hi mx:Option AV}{lo' hi' mx':Option Value}(hx:V w g (.lst sh' z o es) x')(eV:qN w g lo lo')(pj:qN w g hi hi')(mb:qN w g mx mx')
  (h:qk (.lst sh' z o es) lo hi mx=some v) (t:Nat) (ht:P.underlying t=some (.slice e)) (bO:iz P e=some sh) (he:mL P e sh=true) (hs:sh'=sh\/es=[]) :
  ∃v',(Instr.sliceAt t x' lo' hi' mx').run P w=.ok v' w/\V w g v v':=by
 obtain ⟨inf,z0,pS,eM,lO,_,_,_⟩:=rX he
 have key:∀(l hh m:Nat) (o':Own),(∀len cap a,x'=.slice a len cap->(Instr.sliceBounds true len cap lo' hi' mx').run P w=.ok (l,hh,m) w/\m<=cap)->l<=hh->hh<=es.length->hh<=m->(o'=.no\/o'=.full/\hh=m) ->
   ∃v',(Instr.sliceAt t x' lo' hi' mx').run P w=.ok v' w/\V w g (.lst sh' z o' ((es.take hh).drop l)) v':=by
  intro l hh m o' hb hl hO Ts ho
  cases hx with
  | nils _ o L5=>
   obtain ⟨gI,ng⟩:=hb 0 0 none rfl;have h1:hh=0:=by simpa using hO
   have h2:l=0:=by omega
   have h3:m=0:=by omega
   subst h1;subst h2;subst h3
   refine ⟨.slice none 0 0,?_,?_⟩
   .simp[Instr.sliceAt,run_underlying ht,Instr.slice,gI,mW pS]
   .simp only[List.take_nil,List.drop_nil]
    exact .nils _ _ (by rcases ho with rfl|⟨rfl,_⟩<;>simp)
  | lst _ o es a cap us jZ hc eR C8 cf hv jb=>
   obtain ⟨gI,ng⟩:=hb es.length cap (some a) rfl
   refine ⟨.slice (some (if m=l then a else a.add (l*sh'.size))) (hh-l) (m-l),?_,Q9 (.lst sh' o es a cap us jZ hc eR C8 cf hv jb) hl hO Ts ng ho⟩
   simp only[Instr.sliceAt,Sem.run_bind,run_underlying ht,Result.andThen_ok,Instr.slice,gI,mW pS,Sem.run_pure]
   rcases hs with rfl|rfl
   .by_cases iF:m=l<;>simp[iF,eM]
   .have h1:hh=0:=by simpa using hO
    have h2:l=0:=by omega
    subst h2;by_cases iF:m=0<;>simp[iF]
 unfold qk at h;simp only at h
 cases mx with
 | none=>
  cases mx' with
  | some _=>exact mb.elim
  | none=>
   simp only at h;obtain ⟨hh,h1,h⟩:=aS.1 h;obtain ⟨l,h2,h⟩:=aS.1 h;simp at h;subst h
   have yc:∀len cap a,x'=.slice a len cap->len=es.length/\len<=cap:=by
    rintro len cap a rfl;cases hx<;>simp_all
   cases hx with
   | nils _ o L5=>
    obtain ⟨b1,b2,b3⟩:=Ch (P:=P) (isS:=true) eV pj (aW 0) h1 h2;exact key l hh 0 .no (by rintro len cap a h;cases h;exact ⟨b1,aW _⟩) b2 b3 b3 (.inl rfl)
   | lst _ o es a cap us jZ hc eR C8 cf hv jb=>
    obtain ⟨b1,b2,b3⟩:=Ch (P:=P) (isS:=true) eV pj hc h1 h2;exact key l hh cap .no (by rintro len cap a h;cases h;exact ⟨b1,aW _⟩) b2 b3 (by omega) (.inl rfl)
 | some mv=>
  cases mx' with
  | none=>exact mb.elim
  | some mv'=>
   cases hi with
   | none=>simp at h
   | some hv0=>
    simp only at h;obtain ⟨m,h0,h⟩:=aS.1 h;obtain ⟨hh,h1,h⟩:=aS.1 h;obtain ⟨l,h2,h⟩:=aS.1 h
    cases hx with
    | nils _ o L5=>
     obtain ⟨b1,b2,b3,b4⟩:=RD (P:=P) eV pj mb (aW 0) h0 h1 h2 rfl
     split at h
     .rename_i hm;simp at h;subst h;have:=key l hh m .full (by rintro len cap a h;cases h;exact ⟨b1,b4⟩) b2 (by simp at b4 ⊢;omega) b3 (.inr ⟨rfl,hm⟩);simpa using this
     .simp at h;subst h;have:=key l hh m .no (by rintro len cap a h;cases h;exact ⟨b1,b4⟩) b2 (by simp at b4 ⊢;omega) b3 (.inl rfl);simpa using this
    | lst _ o es a cap us jZ hc eR C8 cf hv jb=>
     obtain ⟨b1,b2,b3,b4⟩:=RD (P:=P) eV pj mb hc h0 h1 h2 rfl
     split at h
     .rename_i hm;simp at h;subst h;exact key l hh m .full (by rintro len cap a h;cases h;exact ⟨b1,by omega⟩) b2 (by omega) b3 (.inr ⟨rfl,hm⟩)
     .simp at h;subst h;exact key l hh m .no (by rintro len cap a h;cases h;exact ⟨b1,by omega⟩) b2 (by omega) b3 (.inl rfl)
theorem qjt{e:Nat}{nm off n:Nat}{sh:Sh}{v:AV}{x':Value}{lo hi:Option AV}{lo' hi':Option Value}(hx:V w g (.arr nm off n sh) x')(eV:qN w g lo lo')(pj:qN w g hi hi')
  (h:qk (.arr nm off n sh) lo hi none=some v) (t:Nat) (ht:P.underlying t=some (.slice e)) (he:mL P e sh=true) :
  ∃v',(Instr.sliceAt t x' lo' hi' none).run P w=.ok v' w/\V w g v v':=by
 obtain ⟨inf,z0,pS,eM,lO,_,_,_⟩:=rX he;unfold qk at h;simp only at h;obtain ⟨hh,h1,h⟩:=aS.1 h;obtain ⟨l,h2,h⟩:=aS.1 h;simp at h;subst h
 cases hx with
 | arr _ _ _ _ a cap jZ hc hm hl=>
  obtain ⟨b1,b2,b3⟩:=Ch (P:=P) (isS:=true) eV pj hc h1 h2
  refine ⟨.slice (some (if cap=l then a else a.add (l*sh.size))) (hh-l) (cap-l),?_,.arr _ _ _ _ _ _ (by
    by_cases iF:cap=l
    .exact .inl (by omega)
    .right;have jZ:=jZ.resolve_left (by omega);have ha:a=⟨a.block,a.off,none⟩:=by cases a;simp_all
     rw[ag iF,ha,lZ]) (by omega) (by omega) ?_⟩
  .simp only[Instr.sliceAt,Sem.run_bind,run_underlying ht,Result.andThen_ok,Instr.slice,b1,mW pS,Sem.run_pure];by_cases iF:cap=l<;>simp[iF,eM]
  .by_cases h0:hh-l=0
   .exact .inl h0
   .refine .inr ?_;obtain ⟨jB,ha,c,e,ph,hc2⟩:=hl.resolve_left (by omega);rw[ag (by omega),ha,lZ];refine ⟨jB,rfl,c,e,ph,?_⟩;have e1:l*sh.size+(cap-l)*sh.size=cap*sh.size:=by rw[<- fI];congr 1;omega
    omega
theorem qjv{s:ByteArray}{v:AV}{x':Value}{lo hi:Option AV}{lo' hi':Option Value}(hx:V w g (.str s) x')(eV:qN w g lo lo')(pj:qN w g hi hi')
  (h:qk (.str s) lo hi none=some v) (t:Nat) (ht:P.underlying t=some .string) :
  ∃v',(Instr.sliceAt t x' lo' hi' none).run P w=.ok v' w/\V w g v v':=by
 unfold qk at h;simp only at h;obtain ⟨hh,h1,h⟩:=aS.1 h;obtain ⟨l,h2,h⟩:=aS.1 h;simp at h;subst h;cases hx;obtain ⟨b1,b2,b3⟩:=Ch (P:=P) (isS:=false) eV pj (aW _) h1 h2;exact ⟨_,by simp[Instr.sliceAt,run_underlying ht,Instr.slice,b1],.str _⟩
end
end Go.Ab
namespace Go.Ab
open Go.RowKit
theorem SG(m:ae)(e:Option Ent)(nm:Nat):ae.get (m++[e]) nm=if nm<m.length then m.get nm else if nm=m.length then e else none:=by
 unfold ae.get
 by_cases h:nm<m.length
 .simp[h,pL]
 .by_cases h2:nm=m.length
  .subst h2;simp
  .rw[ag h,ag h2,iC (by simp;omega)];rfl
theorem fJ(m:ae)(nm:Nat)(e:Option Ent)(n:Nat):ae.get (m.set nm e) n=if n=nm then (if nm<m.length then e else none) else m.get n:=by
 unfold ae.get
 by_cases h:n=nm
 .subst h
  by_cases h2:n<m.length
  .simp[h2]
  .simp[h2]
 .rw[zK,ag (by omega),ag h]
theorem wh{m:ae}{nm:Nat}{e:Ent}(h:m.get nm=some e):nm<m.length:=by
 unfold ae.get at h
 rcases tj nm m.length with hl|hl
 .exact hl
 .rw[iC hl] at h;cases h
theorem pN{g:G}{m:ae}{nm b:Nat}(h:bw g m nm=some b):(∃bx cs,m.get nm=some (.obj bx cs)/\g.loc nm=some b)\/(∃n sz,m.get nm=some (.tok n sz)/\g.tloc nm n=some b)\/∃kk es,m.get nm=some (.mp kk es)/\g.loc nm=some b:=by
 unfold bw at h
 split at h
 .exact .inl ⟨_,_,by assumption,h⟩
 .exact .inr (.inl ⟨_,_,by assumption,h⟩)
 .cases h
 .exact .inr (.inr ⟨_,_,by assumption,h⟩)
 .cases h
section
variable [WInv] {B:Nat} {w:World} {g:G} {m:ae}
theorem MemR.blk_lt(h:MemR B w g m){nm b:Nat}(hb:bw g m nm=some b):B<=b/\b<w.heap.size:=by
 rcases pN hb with ⟨bx,cs,h1,h2⟩|⟨n,sz,h1,h2⟩|⟨kk,es,h1,h2⟩
 .obtain ⟨b',c,e,h3,h4,h5,_⟩:=h.obj nm bx cs h1;obtain rfl:b=b':=by simpa [h2] using h3
  exact ⟨h4,(eA.1 h5).1⟩
 rotate_left
 .obtain ⟨b',es',cl,h3,h4,h5,_⟩:=h.mp nm kk es h1;obtain rfl:b=b':=by simpa [h2] using h3
  exact ⟨h4,(eA.1 h5).1⟩
 .obtain ⟨b',c,e,h3,h4,h5,_⟩:=h.tok nm n sz h1;obtain rfl:b=b':=by simpa [h2] using h3
  exact ⟨h4,(eA.1 h5).1⟩
theorem MemR.keep(h:MemR B w g m){w':World}{g':G}(s:Step B w g w' g')(si:∀b,B<=b->b<w.heap.size->w'.heap[b]?=w.heap[b]?)
  (ri:∀b off,g.wr b off->g'.wr b off) (ji:g'.loc=g.loc) (tJ:g'.tloc=g.tloc) (aG:∀b off,g'.wr b off->b<w'.heap.size) (ff:∀b,g'.box b->b<w'.heap.size):MemR B w' g' m where
 obj nm bx cs hn:=by
  obtain ⟨b,c,e,h1,h2,h3,h4,h5,h6,h7⟩:=h.obj nm bx cs hn;exact ⟨b,c,e,by rw[ji];exact h1,h2,(si b h2 (eA.1 h3).1).trans h3,h4,fun j hj=>(h5 j hj).step s,fun off=>ri _ _ (h6 off),(s.box b (eA.1 h3).1).trans h7⟩
 tok nm n sz hn:=by
  obtain ⟨b,c,e,h1,h2,h3,h4,h5,h6⟩:=h.tok nm n sz hn;exact ⟨b,c,e,by rw[tJ];exact h1,h2,(si b h2 (eA.1 h3).1).trans h3,fun off ho=>ri _ _ (h4 off ho),fun n' ni=>by rw[tJ];exact h5 n' ni,fun hb=>h6 ((s.box b (eA.1 h3).1).1 hb)⟩
 resv nm hn:=by rw[ji,tJ];exact h.resv nm hn
 fresh nm hn:=by rw[ji,tJ];exact h.fresh nm hn
 inj nm nm' b h1 h2:=by
  have e:bw g' m=bw g m:=by funext x;unfold bw;rw[ji,tJ]
  rw[e] at h1 h2;exact h.inj nm nm' b h1 h2
 wrLt:=aG
 inv:=h.invS s
 boxLt:=ff
 mp nm kk es hn:=by
  obtain ⟨b,es',cl,h1,h2,h3,h4⟩:=h.mp nm kk es hn;exact ⟨b,es',cl,by rw[ji];exact h1,h2,(si b h2 (eA.1 h3).1).trans h3,h4.step s⟩
theorem Step.drew(B:Nat)(w:World)(g:G):Step B w g w.drew g:=
 ⟨(Below.refl _ _).drew,fun _ _ _ _ h=>h,fun _ c _ _ h=>⟨c,h,rfl⟩,fun _ _ _ h=>h,fun _ _ _=>Iff.rfl,fun _ _=>Iff.rfl,fun _ _ h=>h,fun _ _ _ h=>h,fun _ _ h _ _=>h⟩
theorem Step.alloc{B:Nat}{w:World}{g g':G}(hB:B<=w.heap.size)(o:Obj)(ri:∀b off,b<w.heap.size->(g'.wr b off↔g.wr b off))(Lw:∀b,b<w.heap.size->(g'.box b↔g.box b))
  (ji:∀nm b,g.loc nm=some b->g'.loc nm=some b) (tJ:∀nm n b,g.tloc nm n=some b->g'.tloc nm n=some b):Step B w g (w.alloc o) g' where
 below:=(Below.refl _ _).alloc hB o
 cell b off u _ hc:=(World.cell?_alloc_lt w o _ (tq hc)).trans hc
 shape b c e fr hb:=⟨c,(Go.heap_alloc_old w o (eA.1 hb).1).trans hb,rfl⟩
 wr b off hb hn:=fun hw=>hn ((ri b off hb).1 hw)
 wrB b off hb:=ri b off (by omega)
 box b hb:=Lw b hb
 loc:=ji
 tloc:=tJ
 others k x hx _ _:=(Go.heap_alloc_old w o (eA.1 hx).1).trans hx
theorem MemR.alloc_imm(h:MemR B w g m)(hB:B<=w.heap.size)(o:Obj):Step B w g (w.alloc o) g/\MemR B (w.alloc o) g m:=by
 have s:=Step.alloc (g:=g) hB o (fun _ _ _=>Iff.rfl) (fun _ _=>Iff.rfl) (fun _ _ h=>h) (fun _ _ _ h=>h);exact ⟨s,h.keep s (fun b _ hb=>Go.heap_alloc_old w o hb) (fun _ _ h=>h) rfl rfl (fun b off hw=>by have:=h.wrLt b off hw;simp;omega) (fun b hb=>by have:=h.boxLt b hb;simp;omega)⟩
def fK(g:G)(nm b:Nat)(bx:Bool):G where
 wr b' off:=b'=b\/g.wr b' off
 box b':=(bx=true/\b'=b)\/g.box b'
 loc n:=if n=nm then some b else g.loc n
 tloc:=g.tloc
structure Slot (g:G) (m:ae) (nm:Nat) (e:Ent) (m':ae):Prop where
 get:∀x,ae.get m' x=if x=nm then some e else m.get x
 fresh:g.loc nm=none/\∀n,g.tloc nm n=none
 len:∀x,m'.length<=x->m.length<=x/\x≠nm
theorem MemR.slot(h:MemR B w g m){d:Option Nat}(hd:∀s,d=some s->m.get s=some .resv)(e:Ent):Slot g m (ak d m .resv).1 e (ak d m e).2:=by
 cases d with
 | none=>
  refine ⟨fun x=>?_,h.fresh _ (aW _),fun x hx=>?_⟩
  .show ae.get (m++[some e]) x=if x=m.length then some e else m.get x
   rw[SG]
   by_cases h1:x=m.length
   .rw[ag (by omega),aj h1,aj h1]
   .rw[ag h1,ag h1]
    by_cases h2:x<m.length
    .rw[aj h2]
    .rw[ag h2];unfold ae.get;rw[iC (by omega)];rfl
  .simp only[ak,aK,List.length_singleton] at hx ⊢;omega
 | some s=>
  have hs:=hd s rfl;have aG:=wh hs
  refine ⟨fun x=>?_,h.resv s hs,fun x hx=>?_⟩
  .show ae.get (m.set s (some e)) x=if x=s then some e else m.get x
   rw[fJ,aj aG]
  .simp only[ak,eB] at hx ⊢;omega
theorem MemR.alloc_obj(h:MemR B w g m)(hB:B<=w.heap.size)(c:Array Value)(e:TypeId)(cs:List AV)(hl:cs.length<=c.size)(hv:∀j,j<cs.length->V w g (cs.getD j .any) (c.getD j undef))(bx:Bool){nm:Nat}{m':ae}(hs:Slot g m nm (.obj bx cs) m') :
  Step B w g (w.alloc (.cells c e)) (fK g nm w.heap.size bx)/\MemR B (w.alloc (.cells c e)) (fK g nm w.heap.size bx) m':=by
 have lM:=hs.fresh;have r0:=h.boxLt
 have s:Step B w g (w.alloc (.cells c e)) (fK g nm w.heap.size bx):=by
  refine Step.alloc hB _ (fun b off hb=>?_) (fun b hb=>?_) (fun x b hb=>?_) (fun _ _ _ h=>h)
  .simp only[fK];constructor
   .rintro (rfl|h)<;>first|omega|exact h
   .exact .inr
  .simp only[fK];constructor
   .rintro (⟨_,rfl⟩|h)<;>first|omega|exact h
   .exact .inr
  .simp only[fK]
   split
   .rename_i he;rw[he,lM.1] at hb;cases hb
   .exact hb
 have fe:∀x b,bw (fK g nm w.heap.size bx) m' x=some b->(x≠nm/\bw g m x=some b)\/(x=nm/\b=w.heap.size):=by
  intro x b hb
  rcases pN hb with ⟨bx',cs',h1,h2⟩|⟨n,sz,h1,h2⟩|⟨kk,es,h1,h2⟩
  .rw[hs.get] at h1
   split at h1
   .rename_i he;simp only[fK,aj he] at h2;exact .inr ⟨he,by simpa using h2.symm⟩
   .rename_i aE;simp only[fK,ag aE] at h2;exact .inl ⟨aE,by simp[bw,h1,h2]⟩
  .rw[hs.get] at h1
   split at h1
   .simp at h1
   .rename_i aE;simp only[fK] at h2;exact .inl ⟨aE,by simp[bw,h1,h2]⟩
  .rw[hs.get] at h1
   split at h1
   .simp at h1
   .rename_i aE;simp only[fK,ag aE] at h2;exact .inl ⟨aE,by simp[bw,h1,h2]⟩
 refine ⟨s,?_,?_,?_,?_,?_,?_,?_,?_,?mp⟩
 case mp=>
  intro x kk es hn;rw[hs.get] at hn
  split at hn
  .simp at hn
  .obtain ⟨b,es',cl,h1,h2,h3,h4⟩:=h.mp x kk es hn;exact ⟨b,es',cl,s.loc _ _ h1,h2,(Go.heap_alloc_old w _ (eA.1 h3).1).trans h3,h4.step s⟩
 .intro x bx' cs' hn;rw[hs.get] at hn
  split at hn
  .rename_i he;simp only[bp,Ent.obj.injEq] at hn;obtain ⟨rfl,rfl⟩:=hn;refine ⟨w.heap.size,c,e,by simp[fK,he],hB,heap_alloc_new w _,hl,fun j hj=>(hv j hj).step s,fun off=>.inl rfl,?_⟩;simp only[fK]
   constructor
   .rintro (⟨h,_⟩|h)
    .exact h
    .exact absurd (r0 _ h) (rP _)
   .intro h;exact .inl ⟨h,trivial⟩
  .obtain ⟨b,c',e',h1,h2,h3,h4,h5,h6,h7⟩:=h.obj x bx' cs' hn;exact ⟨b,c',e',s.loc _ _ h1,h2,(Go.heap_alloc_old w _ (eA.1 h3).1).trans h3,h4,fun j hj=>(h5 j hj).step s,fun off=>.inr (h6 off),(s.box b (eA.1 h3).1).trans h7⟩
 .intro x n sz hn;rw[hs.get] at hn
  split at hn
  .simp at hn
  .obtain ⟨b,c',e',h1,h2,h3,h4,h5,h6⟩:=h.tok x n sz hn;exact ⟨b,c',e',h1,h2,(Go.heap_alloc_old w _ (eA.1 h3).1).trans h3,fun off ho=>.inr (h4 off ho),h5,fun hb=>h6 ((s.box b (eA.1 h3).1).1 hb)⟩
 .intro x hn;rw[hs.get] at hn
  split at hn
  .simp at hn
  .rename_i aE;have:=h.resv x hn;exact ⟨by simp only[fK];rw[ag aE];exact this.1,this.2⟩
 .intro x hn;obtain ⟨h1,h2⟩:=hs.len x hn;have:=h.fresh x h1;exact ⟨by simp only[fK];rw[ag h2];exact this.1,this.2⟩
 .intro x x' b h1 h2
  rcases fe _ _ h1 with ⟨a1,a2⟩|⟨a1,a2⟩<;>rcases fe _ _ h2 with ⟨b1,b2⟩|⟨b1,b2⟩
  .exact h.inj _ _ _ a2 b2
  .have:=(h.blk_lt a2).2;omega
  .have:=(h.blk_lt b2).2;omega
  .omega
 .rintro b off (rfl|hw)
  .simp
  .have:=h.wrLt b off hw;simp;omega
 .exact h.invS s
 .rintro b (⟨_,rfl⟩|hw)
  .simp
  .have:=h.boxLt b hw;simp;omega
def ic(g:G)(nm b n sz:Nat):G where
 wr b' off:=(b'=b/\n*sz<=off)\/g.wr b' off
 box:=g.box
 loc:=g.loc
 tloc nm' n':=if nm'=nm/\n'=n then some b else g.tloc nm' n'
theorem MemR.alloc_tok(h:MemR B w g m)(hB:B<=w.heap.size)(c:Array Value)(e:TypeId)(n sz:Nat){nm:Nat}{m':ae}(hs:Slot g m nm (.tok n sz) m') :
  Step B w g (w.alloc (.cells c e)) (ic g nm w.heap.size n sz)/\MemR B (w.alloc (.cells c e)) (ic g nm w.heap.size n sz) m':=by
 have lM:=hs.fresh
 have s:Step B w g (w.alloc (.cells c e)) (ic g nm w.heap.size n sz):=by
  refine Step.alloc hB _ (fun b off hb=>?_) (fun b hb=>Iff.rfl) (fun x b hb=>hb) (fun x n' b hb=>?_)
  .simp only[ic];constructor
   .rintro (⟨rfl,_⟩|h)<;>first|omega|exact h
   .exact .inr
  .simp only[ic]
   split
   .rename_i he;rw[he.1,lM.2] at hb;cases hb
   .exact hb
 have fe:∀x b,bw (ic g nm w.heap.size n sz) m' x=some b->(x≠nm/\bw g m x=some b)\/(x=nm/\b=w.heap.size):=by
  intro x b hb
  rcases pN hb with ⟨bx',cs',h1,h2⟩|⟨n',sz',h1,h2⟩|⟨kk,es,h1,h2⟩
  .rw[hs.get] at h1
   split at h1
   .simp at h1
   .rename_i aE;simp only[ic] at h2;exact .inl ⟨aE,by simp[bw,h1,h2]⟩
  rotate_left
  .rw[hs.get] at h1
   split at h1
   .simp at h1
   .rename_i aE;simp only[ic] at h2;exact .inl ⟨aE,by simp[bw,h1,h2]⟩
  .rw[hs.get] at h1
   split at h1
   .rename_i he;simp only[bp,Ent.tok.injEq] at h1;simp only[ic,aj (show x=nm/\n'=n from ⟨he,h1.1.symm⟩)] at h2;exact .inr ⟨he,by simpa using h2.symm⟩
   .rename_i aE;simp only[ic,ag (show ¬ (x=nm/\n'=n) from fun h=>aE h.1)] at h2;exact .inl ⟨aE,by simp[bw,h1,h2]⟩
 refine ⟨s,?_,?_,?_,?_,?_,?_,?_,?_,?mp⟩
 case mp=>
  intro x kk es hn;rw[hs.get] at hn
  split at hn
  .simp at hn
  .obtain ⟨b,es',cl,h1,h2,h3,h4⟩:=h.mp x kk es hn;exact ⟨b,es',cl,h1,h2,(Go.heap_alloc_old w _ (eA.1 h3).1).trans h3,h4.step s⟩
 .intro x bx' cs' hn;rw[hs.get] at hn
  split at hn
  .simp at hn
  .obtain ⟨b,c',e',h1,h2,h3,h4,h5,h6,h7⟩:=h.obj x bx' cs' hn;exact ⟨b,c',e',h1,h2,(Go.heap_alloc_old w _ (eA.1 h3).1).trans h3,h4,fun j hj=>(h5 j hj).step s,fun off=>.inr (h6 off),(s.box b (eA.1 h3).1).trans h7⟩
 .intro x n' sz' hn;rw[hs.get] at hn
  split at hn
  .rename_i he;simp only[bp,Ent.tok.injEq] at hn;obtain ⟨rfl,rfl⟩:=hn;refine ⟨w.heap.size,c,e,by simp[ic,he],hB,heap_alloc_new w _,fun off ho=>.inl ⟨rfl,ho⟩,fun n'' wA=>?_,fun hb=>rP _ (h.boxLt _ hb)⟩;simp only[ic];rw[ag (by omega),he];exact lM.2 n''
  .rename_i aE;obtain ⟨b,c',e',h1,h2,h3,h4,h5,h6⟩:=h.tok x n' sz' hn;refine ⟨b,c',e',s.tloc _ _ _ h1,h2,(Go.heap_alloc_old w _ (eA.1 h3).1).trans h3,fun off ho=>.inr (h4 off ho),fun n'' wA=>?_,fun hb=>h6 ((s.box b (eA.1 h3).1).1 hb)⟩;simp only[ic];rw[ag (fun h=>aE h.1)];exact h5 n'' wA
 .intro x hn;rw[hs.get] at hn
  split at hn
  .simp at hn
  .rename_i aE;have:=h.resv x hn;exact ⟨this.1,fun n'=>by simp only[ic];rw[ag (fun h=>aE h.1)];exact this.2 n'⟩
 .intro x hn;obtain ⟨h1,h2⟩:=hs.len x hn;have:=h.fresh x h1;exact ⟨this.1,fun n'=>by simp only[ic];rw[ag (fun h=>h2 h.1)];exact this.2 n'⟩
 .intro x x' b h1 h2
  rcases fe _ _ h1 with ⟨a1,a2⟩|⟨a1,a2⟩<;>rcases fe _ _ h2 with ⟨b1,b2⟩|⟨b1,b2⟩
  .exact h.inj _ _ _ a2 b2
  .have:=(h.blk_lt a2).2;omega
  .have:=(h.blk_lt b2).2;omega
  .omega
 .rintro b off (⟨rfl,_⟩|hw)
  .simp
  .have:=h.wrLt b off hw;simp;omega
 .exact h.invS s
 .intro b hw;have:=h.boxLt b hw;simp;omega
theorem sH{cs vs:List AV}{off:Nat}(h:off+vs.length<=cs.length):(ka cs off vs).length=cs.length:=by
 simp[ka];omega
theorem AT{cs vs:List AV}{off:Nat}(h:off+vs.length<=cs.length)(j:Nat):(ka cs off vs).getD j .any=if off<=j/\j<off+vs.length then vs.getD (j-off) .any else cs.getD j .any:=by
 unfold ka;have hlen:(cs.take off).length=off:=by simp;omega
 simp only[bA,vC,pL,hlen,qJ,qI]
 by_cases h1:j<off
 .rw[aj h1,aj h1,ag (by omega)]
 .rw[ag h1]
  by_cases h2:j-off<vs.length
  .rw[aj h2,aj (by omega)]
  .rw[ag h2,ag (by omega),show off+vs.length+(j-off-vs.length)=j by omega]
theorem Ld(off:Nat):∀(vs:List Value) (i:Nat) (cs:Array Value),(off+i+vs.length<=cs.size) ->
  ((vs.zipIdx i).foldl (fun cs (c,j)=>cs.setIfInBounds (off+j) c) cs).size=cs.size /\
  ∀k,((vs.zipIdx i).foldl (fun cs (c,j)=>cs.setIfInBounds (off+j) c) cs).getD k undef=if off+i<=k/\k<off+i+vs.length then vs.getD (k-(off+i)) undef else cs.getD k undef
 | [],i,cs,_=>by
  refine ⟨rfl,fun k=>?_⟩;simp only[List.zipIdx_nil,List.foldl_nil,aX];rw[ag (by omega)]
 | v::vs,i,cs,h=>by
  simp only[aR] at h;obtain ⟨h1,h2⟩:=Ld off vs (i+1) (cs.setIfInBounds (off+i) v) (by simp;omega);simp only[List.zipIdx_cons,BW];refine ⟨by rw[h1];simp,fun k=>?_⟩;rw[h2];simp only[aR]
  by_cases hk:off+(i+1)<=k/\k<off+(i+1)+vs.length
  .rw[aj hk,aj (by omega),show k-(off+i)=(k-(off+(i+1)))+1 by omega]
   rfl
  .rw[ag hk]
   by_cases pU:k=off+i
   .subst pU;rw[aj (by omega)];simp[Array.getD,show off+i<cs.size by omega]
   .rw[ag (by omega)];simp only[fV];rw[xk,ag (by omega)]
theorem K5{w:World}{g:G}(place:Nat->Option (Nat×Nat)):∀(parts:List (Nat×Sh×AV)) (ps:List (Nat×Value)) (cs cs':List AV) (c:Array Value),
  parts.length=ps.length->(∀k (h:k<parts.length) (h':k<ps.length),place ps[k].1=some (parts[k].1,(parts[k].2.1).size)/\V w g parts[k].2.2 ps[k].2) ->
  cs.length=c.size->(∀j,j<cs.length->V w g (cs.getD j .any) (c.getD j undef))->Cw cs parts=some cs' ->
  ∃c',Instr.fill place c ps=some c'/\cs'.length=c'.size/\cs'.length=cs.length/\∀j,j<cs'.length->V w g (cs'.getD j .any) (c'.getD j undef)
 | [],ps,cs,cs',c,hl,_,hc,hv,h=>by
  obtain rfl:ps=[]:=vD (by simpa using hl.symm);simp[Cw] at h;subst h;exact ⟨c,rfl,hc,rfl,hv⟩
 | (off,sh,x)::parts,ps,cs,cs',c,hl,hp,hc,hv,h=>by
  match ps,hl with
  | (i,v)::ps,hl=>
  obtain ⟨kN,hV⟩:=hp 0 (by simp) (by simp);simp only[List.getElem_cons_zero] at kN hV;simp only[Cw] at h
  split at h
  .rename_i bO
   split at h
   .rename_i hle;obtain ⟨j0,hvc,_⟩:=FT hV bO;have De:=sS bO;obtain ⟨f1,f2⟩:=Ld off v.cells.toList 0 c (by simp;omega);simp only[jo,Array.length_toList] at f2
    have hz:(v.cells.zipIdx.foldl (fun cs (c,j)=>cs.setIfInBounds (off+j) c) c)=(v.cells.toList.zipIdx.foldl (fun cs (c,j)=>cs.setIfInBounds (off+j) c) c):=by
     rw[<- Array.foldl_toList,Array.toList_zipIdx]
    have ih:=K5 place parts ps (ka cs off x.cells) cs' (v.cells.zipIdx.foldl (fun cs (c,j)=>cs.setIfInBounds (off+j) c) c) (by simpa using hl)
     (fun k h1 h2=>by have:=hp (k+1) (by simpa using h1) (by simpa using h2);simpa using this)
     (by rw[hz,f1,sH (by omega)];exact hc)
     (fun j hj=>by
      rw[sH (by omega)] at hj;rw[hz,f2,AT (by omega)]
      by_cases hk:off<=j/\j<off+x.cells.length
      .rw[aj hk,aj (by omega)];have:=hvc (j-off) (by omega);simpa [bA,fV] using this
      .rw[ag hk,ag (by omega)];exact hv j hj) h
    obtain ⟨c',h1,h2,h3,h4⟩:=ih;refine ⟨c',?_,h2,by rw[h3,sH (by omega)],h4⟩;simp only[Instr.fill,kN];rw[ag (by simp;omega)];exact h1
   .cases h
  .cases h
section
variable [WInv] {P:Program} {B:Nat} {w:World} {g:G} {m:ae}
theorem El{t:Nat}{z:AV}(h:rG P t=some z):∃i v,P.info? t=some i/\i.zero=some v/\z=gE v:=by
 unfold rG at h
 split at h
 .rename_i i hi;obtain ⟨v,hv,rfl⟩:=gm.1 h;exact ⟨i,v,hi,hv,rfl⟩
 .cases h
theorem Oa(w:World)(g:G)(v:Value):(gE v).cells.length=v.cells.size/\∀j,j<v.cells.size->V w g ((gE v).cells.getD j .any) (v.cells.getD j undef):=by
 have gX:∀v:Value,(o8 v).cells=[o8 v]:=fun v=>by unfold o8;split<;>rfl
 by_cases ha:∃cs,v=.agg cs
 .obtain ⟨cs,rfl⟩:=ha;refine ⟨by simp[gE,AV.cells,Value.cells],fun j hj=>?_⟩;simp only[Value.cells] at hj
  have:(gE (.agg cs)).cells.getD j .any=o8 (cs.getD j undef):=by
   simp[gE,AV.cells,bA,Array.getD,hj]
  rw[this];exact FR _ _ _
 .have h1:gE v=o8 v:=by
   unfold gE
   split
   .exact absurd ⟨_,rfl⟩ ha
   .rfl
  have h2:v.cells = #[v]:=by
   unfold Value.cells
   split
   .exact absurd ⟨_,rfl⟩ ha
   .rfl
  rw[h1,gX,h2];refine ⟨rfl,fun j hj=>?_⟩;obtain rfl:j=0:=by simp at hj;omega
  exact FR _ _ _
def nF(P:Program)(B:Nat)(w:World)(g:G)(s:Sem Value)(v:AV)(m':ae):Prop:=
 ∃v' w' g',s.run P w=.ok v' w'/\Step B w g w' g'/\MemR B w' g' m'/\V w' g' v v'
theorem nF.same(hm:MemR B w g m){s:Sem Value}{v:AV}(h:∃v',s.run P w=.ok v' w/\V w g v v'):nF P B w g s v m:=
 let ⟨v',h1,h2⟩:=h;⟨v',w,g,h1,.refl _ _ _,hm,h2⟩
theorem Q7(g:G)(nm b:Nat)(bx:Bool)(w':World):V w' (fK g nm b bx) (.ptr nm 0) (.pointer (some ⟨b,0,none⟩)):=.ptr _ _ _ (by simp[fK])
theorem qc8(hm:MemR B w g m)(hB:B<=w.heap.size){d:Option Nat}(hd:∀s,d=some s->m.get s=some .resv){t:Nat}{z:AV}(h:rG P t=some z):nF P B w g (Instr.alloc t true (.tuple #[])) (.ptr (ak d m .resv).1 0) (ak d m (.obj true z.cells)).2:=by
 obtain ⟨i,v,hi,hv,rfl⟩:=El h;obtain ⟨h1,h2⟩:=Oa w g v;obtain ⟨s,eR⟩:=hm.alloc_obj hB v.cells t (gE v).cells (by omega) (fun j hj=>h2 j (by omega)) true (hm.slot hd _);refine ⟨_,_,_,?_,s,eR,Q7 _ _ _ _ _⟩;simp[Instr.alloc,zeroValue,typeInfo,hi,hv,newVar,newRow]
theorem qeZ(hm:MemR B w g m)(hB:B<=w.heap.size){d:Option Nat}(hd:∀s,d=some s->m.get s=some .resv){t:Nat}{sh:Sh}{x r:AV}{m':ae}{x':Value}(hx:V w g x x')(h:ef d sh m x=some (r,m')):nF P B w g (Instr.box t x') r m':=by
 unfold ef at h
 split at h
 .rename_i hs;simp at h;obtain ⟨rfl,rfl⟩:=h;obtain ⟨h1,h2,_⟩:=FT hx hs;have hl:=sS hs;obtain ⟨s,eR⟩:=hm.alloc_obj hB x'.cells t x.cells (by omega) (fun j hj=>h2 j (by omega)) true (hm.slot hd _);refine ⟨_,_,_,?_,s,eR,Q7 _ _ _ _ _⟩;simp[Instr.box,newVar,newRow]
 .cases h
theorem qjC{b:Nat}:∀(vs:List Value) (off i:Nat) (w:World) (c:Array Value) (e:TypeId),w.heap[b]?=some (Obj.cells c e (0,0))->off+i+vs.length<=c.size->(∀v∈vs,v.oneCell'=true) ->
  ∃w',(storeCells ⟨b,off,none⟩ vs i).run P w=.ok () w'/\w'=w.setRow b (c.toList.take (off+i)++vs++c.toList.drop (off+i+vs.length)).toArray:=
 fun vs off i w c e hb hl h1=>⟨_,run_storeCells_at P b off e vs i c w hb hl h1,rfl⟩
theorem MemR.write(hm:MemR B w g m){nm b:Nat}{cs cs':List AV}{c c':Array Value}{e:TypeId}{bx:Bool}(hn:m.get nm=some (.obj bx cs))(hl:g.loc nm=some b)(hb:w.heap[b]?=some (Obj.cells c e (0,0)))(gU:c'.size=c.size)(kH:cs'.length<=c'.size)
  (hv:∀j,j<cs'.length->V w g (cs'.getD j .any) (c'.getD j undef)):Step B w g (w.setRow b c') g/\MemR B (w.setRow b c') g (m.set nm (some (.obj bx cs'))):=by
 obtain ⟨b',c0,e0,h1,h2,h3,h4,h5,h6,h7⟩:=hm.obj nm bx cs hn;obtain rfl:b=b':=by simpa [hl] using h1
 have kM:∀k,k≠b->(w.setRow b c').heap[k]?=w.heap[k]?:=fun k hk=>setRow_other w b k c' hk;have AH:(w.setRow b c').heap[b]?=some (Obj.cells c' e (0,0)):=setRow_heap w b c c' e _ hb;have wF:(w.setRow b c').heap.size=w.heap.size:=by simp
 have s:Step B w g (w.setRow b c') g:=by
  refine ⟨⟨rfl,rfl,rfl,by omega,fun k hk=>kM k (by omega)⟩,fun b' off u hw hc=>?_,fun b' c1 e1 fr fm=>?_,fun _ _ _ h=>h,fun _ _ _=>Iff.rfl,fun _ _=>Iff.rfl,fun _ _ h=>h,fun _ _ _ h=>h,fun k o hk ho _=>(kM k (fun he=>by rw[he,hb] at hk;cases hk;cases ho)).trans hk⟩
  .have aE:b'≠b:=fun he=>hw (he▸h6 off);exact (World.cell?_of_block (w:=w) (a:=⟨b',off,none⟩) (kM b' aE)).trans hc
  .by_cases he:b'=b
   .subst he;rw[hb] at fm;simp only[bp,Obj.cells.injEq] at fm;obtain ⟨rfl,rfl,rfl⟩:=fm;exact ⟨c',AH,gU⟩
   .exact ⟨c1,(kM b' he).trans fm,rfl⟩
 have aG:=wh hn
 have fe:∀x b',bw g (m.set nm (some (.obj bx cs'))) x=some b'->bw g m x=some b':=by
  intro x b' hx
  rcases pN hx with ⟨bx1,cs1,a1,a2⟩|⟨n1,sz1,a1,a2⟩|⟨kk1,es1,a1,a2⟩
  rotate_left 2
  .rw[fJ] at a1
   split at a1
   .simp at a1
   .simp[bw,a1,a2]
  .rw[fJ] at a1
   split at a1
   .rename_i he;subst he;simp[bw,hn,a2]
   .simp[bw,a1,a2]
  .rw[fJ] at a1
   split at a1
   .simp at a1
   .simp[bw,a1,a2]
 have sa:bw g m nm=some b:=by simp[bw,hn,hl]
 refine ⟨s,?_,?_,?_,?_,?_,?_,?_,?_,?mp⟩
 case mp=>
  intro x kk es hx;rw[fJ] at hx
  split at hx
  .simp at hx
  .rename_i aE;obtain ⟨b1,es1,cl1,a1,a2,a3,a4⟩:=hm.mp x kk es hx;have lL:b1≠b:=fun he=>by rw[he,hb] at a3;cases a3
   exact ⟨b1,es1,cl1,a1,a2,(kM b1 lL).trans a3,a4.step s⟩
 .intro x bx1 cs1 hx;rw[fJ] at hx
  split at hx
  .rename_i he;subst he;simp at hx;obtain ⟨rfl,rfl⟩:=hx;exact ⟨b,c',e,hl,h2,AH,kH,fun j hj=>(hv j hj).step s,h6,h7⟩
  .rename_i aE;obtain ⟨b1,c1,e1,a1,a2,a3,a4,a5,a6⟩:=hm.obj x bx1 cs1 hx;have lL:b1≠b:=fun he=>aE (hm.inj x nm b (by simp[bw,hx,a1,he]) sa);exact ⟨b1,c1,e1,a1,a2,(kM b1 lL).trans a3,a4,fun j hj=>(a5 j hj).step s,a6⟩
 .intro x n1 sz1 hx;rw[fJ] at hx
  split at hx
  .simp at hx
  .rename_i aE;obtain ⟨b1,c1,e1,a1,a2,a3,a4,a5,a6⟩:=hm.tok x n1 sz1 hx;have lL:b1≠b:=fun he=>aE (hm.inj x nm b (by simp[bw,hx,a1,he]) sa);exact ⟨b1,c1,e1,a1,a2,(kM b1 lL).trans a3,a4,a5,a6⟩
 .intro x hx;rw[fJ] at hx
  split at hx
  .simp at hx
  .exact hm.resv x hx
 .intro x hx;exact hm.fresh x (by simpa using hx)
 .intro x x' b' h1 h2;exact hm.inj x x' b' (fe x b' h1) (fe x' b' h2)
 .intro b' off hw;rw[wF];exact hm.wrLt b' off hw
 .exact hm.invS s
 .intro b' hw;rw[wF];exact hm.boxLt b' hw
theorem obj?_get{m:ae}{nm:Nat}{bx:Bool}{cs:List AV}(h:m.obj? nm=some (bx,cs)):m.get nm=some (.obj bx cs):=by
 unfold ae.obj? at h
 split at h
 .rename_i hh;simp at h;rw[hh,h.1,h.2]
 .cases h
theorem qjD(hm:MemR B w g m){t:Nat}{sh:Sh}{x v:AV}{m':ae}{x' v':Value}(hx:V w g x x')(hv:V w g v v')(bO:iz P t=some sh)(h:aA sh m x v=some m') :
  ∃w',(Instr.storeAt t x' v').run P w=.ok () w'/\Step B w g w' g/\MemR B w' g m':=by
 unfold aA at h
 split at h
 .rename_i nm off;obtain ⟨⟨bx,cs⟩,gd,h⟩:=aS.1 h
  split at h
  .rename_i hle;simp only at hle h
   split at h
   .rename_i hs;simp at h;subst h;have hn:=obj?_get gd;obtain ⟨b,c,e,h1,h2,h3,h4,h5,h6,h7⟩:=hm.obj nm bx cs hn
    cases hx with
    | ptr _ _ b' hl=>
     obtain rfl:b=b':=by simpa [hl] using h1.symm
     obtain ⟨k1,k2,k3⟩:=FT hv hs;have kl:=sS hs;obtain ⟨i,d,hi,hd,gU,_⟩:=zc bO;obtain ⟨w',hr,rfl⟩:=qjC (P:=P) v'.cells.toList off 0 w c e h3 (by simp;omega) k3
     have yz:(c.toList.take (off+0)++v'.cells.toList++c.toList.drop (off+0+v'.cells.toList.length)).toArray.size=c.size:=by
      simp;omega
     obtain ⟨s,eR⟩:=hm.write (cs':=ka cs off v.cells) (c':=(c.toList.take (off+0)++v'.cells.toList++c.toList.drop (off+0+v'.cells.toList.length)).toArray) hn hl h3 yz (by rw[yz,sH (by omega)];omega)
      (fun j hj=>by
       rw[sH (by omega)] at hj;rw[AT (by omega)];have Tx:j<c.size:=by omega
       have hlen:(c.toList.take off).length=off:=by simp;omega
       simp only[fV,zL,jo,vC,pL,hlen,qJ,qI,Array.length_toList]
       by_cases hk:off<=j/\j<off+v.cells.length
       .rw[aj hk,ag (by omega),aj (by omega)];have:=k2 (j-off) (by omega);simpa [fV] using this
       .rw[ag hk];have T8:=h5 j hj
        by_cases mO:j<off
        .rw[aj mO,aj mO];simpa [fV] using T8
        .rw[ag mO,ag (by omega),show off+v'.cells.size+(j-off-v'.cells.size)=j by omega]
         simpa [fV] using T8)
     refine ⟨_,?_,s,eR⟩;have aE:¬ (v'.cells.size≠i.size):=by omega
     simp only[Instr.storeAt,Instr.sureAddr,storeVar,Sem.run_bind,Sem.run_pure,Result.andThen_ok,mW hi,aE,j6];exact hr
   .cases h
  .cases h
 .cases h
theorem Uz(z:Array Value)(n k:Nat)(hz:0<z.size)(hk:k<n):(madeCells z n).getD k undef=z.getD (k%z.size) undef:=by
 have aG:k%z.size<z.size:=jx _ hz;simp[madeCells,Array.getD,hk,aG]
theorem Xy{sh:Sh}{zv:Value}{n:Nat}(hz:zv.cells.size=sh.size)(aE:sh=none->(gE zv).cells=[gE zv])(w:World)(g:G) :
  (ud sh (gE zv) n).length=n*sh.size/\∀j,j<n*sh.size->V w g ((ud sh (gE zv) n).getD j .any) (zv.cells.getD (j%zv.cells.size) undef):=by
 obtain ⟨h1,h2⟩:=Oa w g zv
 have key:∀n,((List.replicate n (gE zv).cells).flatten).length=n*sh.size/\∀j,j<n*sh.size->((List.replicate n (gE zv).cells).flatten).getD j .any=(gE zv).cells.getD (j%sh.size) .any:=by
  intro n
  induction n with
  | zero=>simp
  | succ n ih=>
   have hl:(gE zv).cells.length=sh.size:=by omega
   refine ⟨by simp only[zP,List.flatten_cons,aK,ih.1,hl,mC];omega,fun j hj=>?_⟩;simp only[zP,List.flatten_cons,bA,pL,hl]
   by_cases tE:j<sh.size
   .rw[aj tE,ku tE]
   .rw[ag tE,Nat.mod_eq_sub_mod (by omega)];rw[mC] at hj;simpa [bA] using ih.2 (j-sh.size) (by omega)
 have Mq:ud sh (gE zv) n=(List.replicate n (gE zv).cells).flatten:=by
  cases sh with
  | none=>
   have:=aE rfl;simp only[ud];rw[this]
   induction n with
   | zero=>rfl
   | succ n ih=>simp only[zP,List.flatten_cons,<- ih];rfl
  | some k=>rfl
 rw[Mq];refine ⟨(key n).1,fun j hj=>?_⟩;rw[(key n).2 j hj,hz]
 have lO:0<sh.size:=by
  rcases Nat.eq_zero_or_pos sh.size with h0|h0
  .rw[h0] at hj;simp at hj
  .exact h0
 exact h2 _ (by rw[hz];exact jx _ lO)
theorem qhN(hm:MemR B w g m)(hB:B<=w.heap.size){d:Option Nat}(hd:∀s,d=some s->m.get s=some .resv){t e:Nat}{sh:Sh}{z l c v:AV}{m':ae}{l' c':Value}(ht:P.underlying t=some (.slice e))(bO:iz P e=some sh)(he:mL P e sh=true)(hz:rG P e=some z)
  (hl:V w g l l') (hc:V w g c c') (h:jM d e sh z (pd P e) m l c=some (v,m')):nF P B w g (Instr.makeSlice t l' c') v m':=by
 obtain ⟨i,zv,hi,hs,lO,np,sx,yo⟩:=rX he;obtain ⟨i2,zv2,uM,Ms,rfl⟩:=El hz;obtain rfl:i=i2:=by simpa [hi] using uM
 obtain rfl:zv=zv2:=by simpa [np] using Ms
 have hb:i.bytes<=pd P e:=by simp[pd,hi];omega
 have Mr:zv.cells.size=sh.size:=by omega
 unfold jM at h
 split at h
 .rename_i kl l kc c;cases hl;cases hc
  split at h
  .rename_i mN;obtain ⟨h0,LQ,gJ,rZ⟩:=mN;have gJ:c*(i.bytes:Int)<=281474976710656:=Int.le_trans (Int.mul_le_mul_of_nonneg_left (by omega) (by omega)) gJ;have hr:=run_make (P:=P) w t e i zv ht hi np kl kc l c h0 LQ (by rw[Int.mul_comm];exact gJ) rZ
   split at h
   .rename_i heq;subst heq;simp at h;obtain ⟨rfl,rfl⟩:=h
    have Ha:sh=none->(gE zv).cells=[gE zv]:=by
     intro hn
     have h1:gE zv=o8 zv:=by
      unfold gE
      split
      .exact absurd rfl (yo hn _)
      .rfl
     rw[h1];unfold o8;split<;>rfl
    obtain ⟨z1,z2⟩:=Xy (sh:=sh) (n:=l.toNat) Mr Ha w g
    obtain ⟨s,eR⟩:=hm.alloc_obj hB (madeCells zv.cells (l.toNat*i.size)) e (ud sh (gE zv) l.toNat) (by rw[size_madeCells,z1,hs];exact aW _) (fun j hj=>by
     rw[z1] at hj;rw[Uz _ _ _ (by omega) (by rw[hs];exact hj)]
     exact z2 j hj) false (hm.slot hd _)
    refine ⟨_,_,_,hr,s,eR,.arr _ _ _ _ _ _ (.inr rfl) (aW _) (by simp only[maxLen];omega) (.inr ⟨by simp[fK],rfl,_,_,heap_alloc_new w _,by rw[size_madeCells,hs,aL];exact aW _⟩)⟩
   .split at h
    .rename_i uP;subst uP;simp at h;obtain ⟨rfl,rfl⟩:=h;obtain ⟨s,eR⟩:=hm.alloc_tok hB (madeCells zv.cells (c.toNat*i.size)) e 0 sh.size (hm.slot hd _);refine ⟨_,_,_,hr,s,eR,.lst sh (.tok (ak d m .resv).1 e) [] ⟨w.heap.size,0,none⟩ _ (fun _=>undef) (.inr rfl) (jH _) (by simp only[maxLen];omega) (by simp) (by simp) (by simp) ?_⟩;exact ⟨by simp[ic],rfl,_,heap_alloc_new w _,by rw[size_madeCells,hs]⟩
    .cases h
  .cases h
 .cases h
theorem UD{α β:Type}(f:α->Option β):∀(l:List α) (r:List β),l.mapM f=some r->r.length=l.length/\∀k (h:k<l.length) (h':k<r.length),f l[k]=some r[k]
 | [],r,h=>by simp at h;subst h;simp
 | a::l,r,h=>by
  simp only[List.mapM_cons,Option.bind_eq_bind,aS,Option.pure_def,bp] at h;obtain ⟨b,hb,bs,CO,rfl⟩:=h;obtain ⟨h1,h2⟩:=UD f l bs CO;refine ⟨by simp[h1],fun k hk dO=>?_⟩
  cases k with
  | zero=>simpa using hb
  | succ k=>simpa using h2 k (by simpa using hk) (by simpa using dO)
theorem V8(w:World):∀(l:List Field),(l.all fun f=>(P.info? f.type).isSome)=true->(l.mapM fun f=>do pure (f.offset,<- sizeOf f.type):Sem (List (Nat×Nat))).run P w=.ok (l.map fun f=>(f.offset,((P.info? f.type).map (·.size)).getD 0)) w
 | [],_=>by simp
 | f::l,h=>by
  simp only[xu,dY] at h;obtain ⟨i,hi⟩:=Option.isSome_iff_exists.1 h.1;have ih:=V8 w l h.2;simp only[List.mapM_cons,Sem.run_bind,mW hi,Result.andThen_ok,Sem.run_pure,ih,qn,hi,ar,nZ]
theorem qip{t f:Nat}{fs:Array Field}(hu:P.underlying t=some (.struct fs)):yU P t f=wb P t f:=by
 unfold yU;rw[hu]
theorem qe1(hm:MemR B w g m){t:Nat}{z v:AV}{ps:Array (Nat×Operand)}{ρ:Operand->AV}{ρ':Operand->Value}(hρ:∀x,V w g (ρ x) (ρ' x))(eD:NQ P t=true)(hz:rG P t=some z)
  {l:List (Nat×Sh×AV)} (hl:ps.toList.mapM (fun p=>(yU P t p.1).map fun f=>(f.1,f.2,ρ p.2))=some l) (h:eI z l=some v) :
  nF P B w g (Instr.build t (ps.map fun (i,x)=>(i,ρ' x))) v m:=by
 obtain ⟨i,zv,hi,np,rfl⟩:=El hz;obtain ⟨h1,h2⟩:=Oa w g zv;obtain ⟨l1,l2⟩:=UD _ _ _ hl;unfold NQ at eD
 split at eD
 .rename_i fs hu;unfold eI at h
  split at h
  .rename_i cs gd;obtain ⟨cs',hf,rfl⟩:=gm.1 h;have As:(gE zv).cells=cs:=by rw[gd];rfl
   rw[As] at h1 h2
   let place:Nat->Option (Nat×Nat):=(((fs.toList.map fun f=>(f.offset,((P.info? f.type).map (·.size)).getD 0)).toArray)[·]?)
   obtain ⟨c',r1,r2,r3,r4⟩:=K5 (w:=w) (g:=g) place l ((ps.map fun (i,x)=>(i,ρ' x)).toList) cs cs' zv.cells (by simp[l1])
    (fun k hk dO=>by
     have:=l2 k (by omega) hk;obtain ⟨⟨off,sh⟩,kJ,LX⟩:=gm.1 this;rw[qip hu] at kJ;obtain ⟨fs',fd,u1,u2,u3,u4,u5⟩:=Gy kJ;obtain rfl:fs=fs':=by simpa [hu] using u1
     obtain ⟨i',d,j1,j2,j3,_⟩:=zc u3;simp only[<- LX];refine ⟨?_,by simpa using hρ _⟩
     simp only[place,zL,o0,Array.toList_map,zN,Array.getElem?_toList,u2,ar,u4,j1,nZ,j3])
    h1 (fun j hj=>h2 j (by omega)) hf
   refine nF.same hm ⟨.agg c',?_,.agg _ _ r2 r4⟩
   have kN:(fs.mapM fun f=>do pure (f.offset,<- sizeOf f.type):Sem (Array (Nat×Nat))).run P w=.ok (fs.toList.map fun f=>(f.offset,((P.info? f.type).map (·.size)).getD 0)).toArray w:=by
    rw[IA];have:=V8 (P:=P) w fs.toList (by rw[<- eD];simp);simp only[Sem.run_map,this,Result.andThen_ok]
   simp only[Instr.build,Sem.run_bind,zeroValue,typeInfo,run_program,Result.andThen_ok,hi,Sem.run_pure,np,run_underlying hu,kN];rw[show Instr.fill (fun x=>(List.map (fun (f:Field)=>(f.offset,((P.info? f.type).map (·.size)).getD 0)) fs.toList).toArray[x]?) zv.cells (Array.map (fun x=>(x.fst,ρ' x.snd)) ps).toList=some c' from r1]
   rfl
  .cases h
 .rename_i n e hu;unfold eI at h
  split at h
  .rename_i cs gd;obtain ⟨cs',hf,rfl⟩:=gm.1 h;have As:(gE zv).cells=cs:=by rw[gd];rfl
   rw[As] at h1 h2;obtain ⟨ie,Tw⟩:=Option.isSome_iff_exists.1 eD
   obtain ⟨c',r1,r2,r3,r4⟩:=K5 (w:=w) (g:=g) (fun i=>some (i*ie.size,ie.size)) l ((ps.map fun (i,x)=>(i,ρ' x)).toList) cs cs' zv.cells (by simp[l1])
    (fun k hk dO=>by
     have:=l2 k (by omega) hk;obtain ⟨⟨off,sh⟩,kJ,LX⟩:=gm.1 this;unfold yU at kJ;rw[hu] at kJ;simp only at kJ
     split at kJ
     .rename_i sh' bO
      split at kJ
      .cases kJ
      .simp only[bp,dT] at kJ;obtain ⟨rfl,rfl⟩:=kJ;obtain ⟨i',d,j1,j2,j3,_⟩:=zc bO;obtain rfl:ie=i':=by simpa [Tw] using j1
       simp only[<- LX];refine ⟨?_,by simpa using hρ _⟩;simp[j3]
     .cases kJ)
    h1 (fun j hj=>h2 j (by omega)) hf
   refine nF.same hm ⟨.agg c',?_,.agg _ _ r2 r4⟩;simp only[Instr.build,Sem.run_bind,zeroValue,typeInfo,sizeOf,run_program,Result.andThen_ok,hi,Sem.run_pure,np,run_underlying hu,Tw];rw[show Instr.fill (fun i=>some (i*ie.size,ie.size)) zv.cells (Array.map (fun x=>(x.fst,ρ' x.snd)) ps).toList=some c' from r1]
   rfl
  .cases h
 .cases eD
end
end
end Go.Ab
namespace Go.Ab
open Go.RowKit
section
variable [WInv] {P:Program} {B:Nat} {w:World} {g:G} {m:ae}
theorem Q8{x:AV}{v:Value}(h:V w g x v):V w g (Be x) v:=by
 cases h with
 | lst sh o es a cap us hs hc hm bO cf hv ho=>
  cases o with
  | tok nm e=>exact .lst sh .no es a cap us hs hc hm bO cf hv trivial
  | no=>exact .lst sh .no es a cap us hs hc hm bO cf hv ho
  | full=>exact .lst sh .full es a cap us hs hc hm bO cf hv ho
 | nils sh o ho=>rcases ho with rfl|rfl<;>exact .nils sh _ (by simp)
 | any=>exact .any _
 | int=>exact .int _ _
 | bool=>exact .bool _
 | str=>exact .str _
 | arr _ _ _ _ _ _ a b c d=>exact .arr _ _ _ _ _ _ a b c d
 | ptr _ _ _ a=>exact .ptr _ _ _ a
 | vptr _ _ _ _ a b=>exact .vptr _ _ _ _ a b
 | nilp=>exact .nilp
 | nilf=>exact .nilf
 | nile=>exact .nile
 | nilm=>exact .nilm
 | agg _ _ a b=>exact .agg _ _ a b
 | tup _ _ a b=>exact .tup _ _ a b
 | fn _ _ _ a b=>exact .fn _ _ _ a b
 | mref _ _ a=>exact .mref _ _ a
 | vec _ _ _ _ _ _ a b c d e f h=>exact .vec _ _ _ _ _ _ a b c d e f h
theorem qcz{x:AV}{v:Value}(h:V w g x v):V w g (lV x) v:=by
 by_cases hx:∃cs,x=.agg cs
 .obtain ⟨cs,rfl⟩:=hx
  cases h with
  | agg cs vs hl hv=>
   refine .agg _ _ (by simp[hl]) fun j hj=>?_;have gg:j<cs.length:=by simpa using hj
   have:=Q8 (hv j gg);have e:(cs.map Be).getD j .any=Be (cs.getD j .any):=by simp[bA,gg]
   rw[e];exact this
 .have e:lV x=Be x:=by cases x<;>first|rfl|exact absurd ⟨_,rfl⟩ hx
  rw[e];exact Q8 h
theorem K8{sh:Sh}:∀{es:List AV},(∀e∈es,eP sh e=true)->∀x∈flat es,fZ x=true
 | [],_,x,hx=>by simp at hx
 | e::es,h,x,hx=>by
  simp only[BV,kT] at hx
  rcases hx with hx|hx
  .have hs:=h e (by simp)
   cases sh with
   | none=>
    have ha:fZ e=true:=hs
    have hc:e.cells=[e]:=by cases e<;>first|rfl|(simp[fZ] at ha)
    rw[hc] at hx;simp at hx;rw[hx];exact ha
   | some n=>
    cases e<;>first|(simp[eP] at hs;done)|skip
    simp[eP] at hs;exact hs.2 x (by simpa [AV.cells] using hx)
  .exact K8 (fun y hy=>h y (by simp[hy])) x hx
theorem B6{sh:Sh}{o:Own}{es:List AV}{a:Addr}{n cap:Nat}(h:V w g (.lst sh false o es) (.slice (some a) n cap)) :
  ∃vs:List Value,n=es.length/\vs.length=es.length*sh.size/\(∀j u,vs[j]?=some u->w.cell? (a.add j)=some u)/\(∀u∈vs,u.oneCell'=true) /\
   (∀j,j<vs.length->V w g ((flat es).getD j .any) (vs.getD j undef))/\(cap=0\/a=⟨a.block,a.off,none⟩)/\n<=cap/\cap<=maxLen/\(∀e∈es,eP sh e=true/\pl e=true)/\AQ w g sh o es.length a cap /\
   (∀j,j<vs.length->¬ g.wr a.block (a.off+j)/\¬ g.box a.block):=by
 cases h with
 | lst _ _ es a cap us hs hc hm bO cf hv ho=>
  have dS:∀e∈es,eP sh e=true:=fun e he=>(bO e he).1;have jW:=rY dS;have ha:cap=0\/a=⟨a.block,a.off,none⟩:=hs.imp id fun h=>by cases a;simp_all
  refine ⟨(List.range (es.length*sh.size)).map us,rfl,by simp,fun j u hu=>?_,fun u hu=>?_,fun j hj=>?_,ha,hc,hm,bO,ho,fun j hj=>?_⟩
  .have hj:j<es.length*sh.size:=by
    rcases tj j (es.length*sh.size) with hl|hl
    .exact hl
    .rw[iC (by simpa using hl)] at hu;cases hu
   simp[hj] at hu
   have ha:=ha.resolve_left (fun h0=>by
    have:es.length=0:=by omega
    rw[this,qM] at hj
    omega)
   rw[ha,lZ,<- hu];exact (cf j (by omega)).1
  .obtain ⟨j,hj,rfl⟩:=ks.1 hu;have gg:j<(flat es).length:=by rw[jW];simpa using hj
   have h1:=hv j gg;have h2:=K8 dS (flat es)[j] (fH gg);have:(flat es).getD j .any=(flat es)[j]:=by rw[bA,jR gg];rfl
   rw[this] at h1;exact (B5 h1 h2).1
  .have gg:j<es.length*sh.size:=by simpa using hj
   have:=hv j (by omega);simpa [bA,gg] using this
  .have gg:j<es.length*sh.size:=by simpa using hj
   exact (cf j (by omega)).2
theorem FV{sh:Sh}{o:Own}{es:List AV}{b cap:Nat}{c:Array Value}{e:TypeId}(hb:w.heap[b]?=some (Obj.cells c e (0,0)))(hc:es.length<=cap)(hm:cap<=maxLen)(bO:∀e∈es,eP sh e=true/\pl e=true)
  (gU:es.length*sh.size<=c.size) (hv:∀j,j<es.length*sh.size->V w g ((flat es).getD j .any) (c.getD j undef)) (ri:∀j,j<es.length*sh.size->¬ g.wr b j) (ff:¬ g.box b) (ho:AQ w g sh o es.length ⟨b,0,none⟩ cap) :
  V w g (.lst sh false o es) (.slice (some ⟨b,0,none⟩) es.length cap):=by
 have jW:=rY (fun e he=>(bO e he).1:∀e∈es,eP sh e=true);refine .lst sh o es ⟨b,0,none⟩ cap (fun j=>c.getD j undef) (.inr rfl) hc hm bO (fun j hj=>?_) (fun j hj=>hv j (by omega)) ho;rw[jW] at hj;refine ⟨?_,by simpa using ri j hj,ff⟩;simp only[aL];rw[cell_of_row w b j c e (0,0) hb];simp[Array.getD,show j<c.size by omega]
theorem Gz(xs ys:List AV):flat (xs++ys)=flat xs++flat ys:=by simp[flat]
theorem MemR.regrow(hm:MemR B w g m)(hB:B<=w.heap.size)(c:Array Value)(e:TypeId){nm k n sz:Nat}(hn:m.get nm=some (.tok k sz))(hk:k<n) :
  Step B w g (w.alloc (.cells c e)) (ic g nm w.heap.size n sz)/\MemR B (w.alloc (.cells c e)) (ic g nm w.heap.size n sz) (m.set nm (some (.tok n sz))):=by
 obtain ⟨b0,c0,e0,t1,t2,t3,t4,t5,t6⟩:=hm.tok nm k sz hn;have aG:=wh hn
 have s:Step B w g (w.alloc (.cells c e)) (ic g nm w.heap.size n sz):=by
  refine Step.alloc hB _ (fun b off hb=>?_) (fun b hb=>Iff.rfl) (fun nm b hb=>hb) (fun nm' n' b hb=>?_)
  .simp only[ic];constructor
   .rintro (⟨rfl,_⟩|h)<;>first|omega|exact h
   .exact .inr
  .simp only[ic]
   split
   .rename_i he;rw[he.1,he.2,t5 n hk] at hb;cases hb
   .exact hb
 have fe:∀x b,bw (ic g nm w.heap.size n sz) (m.set nm (some (.tok n sz))) x=some b->(x≠nm/\bw g m x=some b)\/(x=nm/\b=w.heap.size):=by
  intro x b hb
  rcases pN hb with ⟨bx',cs',h1,h2⟩|⟨n',sz',h1,h2⟩|⟨kk,es,h1,h2⟩
  .rw[fJ] at h1
   split at h1
   .simp at h1
   .rename_i aE;exact .inl ⟨aE,by simp only[ic] at h2;simp[bw,h1,h2]⟩
  rotate_left
  .rw[fJ] at h1
   split at h1
   .simp at h1
   .rename_i aE;exact .inl ⟨aE,by simp only[ic] at h2;simp[bw,h1,h2]⟩
  .rw[fJ] at h1
   split at h1
   .rename_i he;simp at h1;simp only[ic,aj (show x=nm/\n'=n from ⟨he,h1.1.symm⟩)] at h2;exact .inr ⟨he,by simpa using h2.symm⟩
   .rename_i aE;simp only[ic,ag (show ¬ (x=nm/\n'=n) from fun h=>aE h.1)] at h2;exact .inl ⟨aE,by simp[bw,h1,h2]⟩
 refine ⟨s,?_,?_,?_,?_,?_,?_,?_,?_,?mp⟩
 case mp=>
  intro x kk es hx;rw[fJ] at hx
  split at hx
  .simp at hx
  .obtain ⟨b,es',cl,h1,h2,h3,h4⟩:=hm.mp x kk es hx;exact ⟨b,es',cl,h1,h2,(Go.heap_alloc_old w _ (eA.1 h3).1).trans h3,h4.step s⟩
 .intro x bx' cs' hx;rw[fJ] at hx
  split at hx
  .simp at hx
  .obtain ⟨b,c',e',h1,h2,h3,h4,h5,h6,h7⟩:=hm.obj x bx' cs' hx;exact ⟨b,c',e',s.loc _ _ h1,h2,(Go.heap_alloc_old w _ (eA.1 h3).1).trans h3,h4,fun j hj=>(h5 j hj).step s,fun off=>.inr (h6 off),(s.box b (eA.1 h3).1).trans h7⟩
 .intro x n' sz' hx;rw[fJ] at hx
  split at hx
  .rename_i he;simp at hx;obtain ⟨rfl,rfl⟩:=hx;subst he;refine ⟨w.heap.size,c,e,by simp[ic],hB,heap_alloc_new w _,fun off ho=>.inl ⟨rfl,ho⟩,fun n'' wA=>?_,fun hb=>rP _ (hm.boxLt _ hb)⟩;simp only[ic];rw[ag (by omega)];exact t5 n'' (by omega)
  .rename_i aE;obtain ⟨b,c',e',h1,h2,h3,h4,h5,h6⟩:=hm.tok x n' sz' hx;refine ⟨b,c',e',s.tloc _ _ _ h1,h2,(Go.heap_alloc_old w _ (eA.1 h3).1).trans h3,fun off ho=>.inr (h4 off ho),fun n'' wA=>?_,h6⟩;simp only[ic];rw[ag (fun h=>aE h.1)];exact h5 n'' wA
 .intro x hx;rw[fJ] at hx
  split at hx
  .simp at hx
  .rename_i aE;have:=hm.resv x hx;exact ⟨this.1,fun n'=>by simp only[ic];rw[ag (fun h=>aE h.1)];exact this.2 n'⟩
 .intro x hx;have:=hm.fresh x (by simpa using hx);have uY:m.length<=x:=by simpa using hx
  exact ⟨this.1,fun n'=>by simp only[ic];rw[ag (fun h=>by have:=h.1;omega)];exact this.2 n'⟩
 .intro x x' b h1 h2
  rcases fe _ _ h1 with ⟨a1,a2⟩|⟨a1,a2⟩<;>rcases fe _ _ h2 with ⟨b1,b2⟩|⟨b1,b2⟩
  .exact hm.inj _ _ _ a2 b2
  .have:=(hm.blk_lt a2).2;omega
  .have:=(hm.blk_lt b2).2;omega
  .omega
 .rintro b off (⟨rfl,_⟩|hw)
  .simp
  .have:=hm.wrLt b off hw;simp;omega
 .exact hm.invS s
 .intro b hw;have:=hm.boxLt b hw;simp;omega
theorem MemR.drew(hm:MemR B w g m):MemR B w.drew g m:=hm.keep (Step.drew B w g) (fun _ _ _=>rfl) (fun _ _ h=>h) rfl rfl hm.wrLt hm.boxLt
theorem SK(hm:MemR B w g m)(hB:B<=w.heap.size){d:Option Nat}(hd:∀s,d=some s->m.get s=some .resv){e:Nat}{sh:Sh}{es ys:List AV}{olds news:List Value}{rest:Array Value}{cap:Nat}(eV:olds.length=es.length*sh.size)(ra:news.length=ys.length*sh.size)
  (iZ:∀e∈es,eP sh e=true/\pl e=true) (oP:∀e∈ys,eP sh e=true/\pl e=true)
  (tN:∀j,j<olds.length->V w g ((flat es).getD j .any) (olds.getD j undef)) (sw:∀j,j<news.length->V w g ((flat ys).getD j .any) (news.getD j undef)) (yc:es.length+ys.length<=cap) (G0:cap<=maxLen)
  (qgX:rest.size=(cap-(es.length+ys.length))*sh.size) :
  (∃g',Step B w g (w.drew.alloc (.cells (olds.toArray++news.toArray++rest) e)) g'/\MemR B (w.drew.alloc (.cells (olds.toArray++news.toArray++rest) e)) g' (ak d m (.tok (es.length+ys.length) sh.size)).2/\V (w.drew.alloc (.cells (olds.toArray++news.toArray++rest) e)) g' (.lst sh false (.tok (ak d m .resv).1 e) (es++ys)) (.slice (some ⟨w.heap.size,0,none⟩) (es.length+ys.length) cap)) /\
  (∃g',Step B w g (w.drew.alloc (.cells (olds.toArray++news.toArray++rest) e)) g'/\MemR B (w.drew.alloc (.cells (olds.toArray++news.toArray++rest) e)) g' (ak d m (.obj false (flat (es++ys)))).2/\V (w.drew.alloc (.cells (olds.toArray++news.toArray++rest) e)) g' (.arr (ak d m .resv).1 0 (es.length+ys.length) sh) (.slice (some ⟨w.heap.size,0,none⟩) (es.length+ys.length) cap)) /\
  (∀nm k,m.get nm=some (.tok k sh.size)->k<es.length+ys.length->∃g',Step B w g (w.drew.alloc (.cells (olds.toArray++news.toArray++rest) e)) g'/\MemR B (w.drew.alloc (.cells (olds.toArray++news.toArray++rest) e)) g' (m.set nm (some (.tok (es.length+ys.length) sh.size)))/\V (w.drew.alloc (.cells (olds.toArray++news.toArray++rest) e)) g' (.lst sh false (.tok nm e) (es++ys)) (.slice (some ⟨w.heap.size,0,none⟩) (es.length+ys.length) cap)):=by
 have kK:=hm.drew;have s1:=Step.drew B w g;have CG:B<=w.drew.heap.size:=hB;have yi:=rY (fun e he=>(iZ e he).1:∀e∈es,eP sh e=true);have Tl:=rY (fun e he=>(oP e he).1:∀e∈ys,eP sh e=true);have hmul:(es.length+ys.length)*sh.size=es.length*sh.size+ys.length*sh.size:=fI _ _ _
 have dS:∀e∈es++ys,eP sh e=true/\pl e=true:=fun e he=>by
  rcases kT.1 he with h|h
  .exact iZ e h
  .exact oP e h
 have hlen:(es++ys).length=es.length+ys.length:=by simp
 have cf:∀j,j<(es.length+ys.length)*sh.size->V w g ((flat (es++ys)).getD j .any) ((olds.toArray++news.toArray++rest).getD j undef):=by
  intro j hj;rw[Gz];simp only[bA,fV,pL,Em,Array.size_append,List.size_toArray,zL,yi,eV,ra]
  by_cases h1:j<es.length*sh.size
  .rw[aj h1,aj (by omega),aj h1];simpa [bA] using tN j (by omega)
  .rw[ag h1,aj (by omega),ag h1];simpa [bA] using sw (j-es.length*sh.size) (by omega)
 have gd:(olds.toArray++news.toArray++rest).size=cap*sh.size:=by
  have:cap*sh.size=(es.length+ys.length)*sh.size+(cap-(es.length+ys.length))*sh.size:=by
   rw[<- fI];congr 1;omega
  simp only[Array.size_append,List.size_toArray];omega
 have yq:(w.drew.alloc (.cells (olds.toArray++news.toArray++rest) e)).heap[w.heap.size]?=some (Obj.cells (olds.toArray++news.toArray++rest) e (0,0)):=heap_alloc_new w.drew _;have Hc:(es.length+ys.length)*sh.size<=(olds.toArray++news.toArray++rest).size:=by rw[gd];exact fW _ yc
 have qgQ:∀off,¬ g.wr w.heap.size off:=fun off h=>by have:=hm.wrLt _ _ h;omega
 have qgK:¬ g.box w.heap.size:=fun h=>by have:=hm.boxLt _ h;omega
 have tokV:∀nm g',Step B w g (w.drew.alloc (.cells (olds.toArray++news.toArray++rest) e)) g'->g'=ic g nm w.heap.size (es.length+ys.length) sh.size ->
   V (w.drew.alloc (.cells (olds.toArray++news.toArray++rest) e)) g' (.lst sh false (.tok nm e) (es++ys)) (.slice (some ⟨w.heap.size,0,none⟩) (es.length+ys.length) cap):=by
  rintro nm g' eD rfl
  have:=FV (o:=.tok nm e) (es:=es++ys) (cap:=cap) (g:=ic g nm w.heap.size (es.length+ys.length) sh.size) yq (by rw[hlen];exact yc) G0 dS (by rw[hlen];exact Hc) (fun j hj=>(cf j (by rw[hlen] at hj;exact hj)).step eD)
   (fun j hj=>by
    rw[hlen] at hj
    rintro (⟨_,h⟩|h)
    .omega
    .exact qgQ _ h) qgK ⟨by simp[ic],rfl,_,yq,gd⟩
  rw[hlen] at this;exact this
 refine ⟨?_,?_,?_⟩
 .obtain ⟨s2,eL⟩:=kK.alloc_tok CG (olds.toArray++news.toArray++rest) e (es.length+ys.length) sh.size (kK.slot hd _);exact ⟨_,s1.trans s2,eL,tokV _ _ (s1.trans s2) rfl⟩
 .obtain ⟨s2,eL⟩:=kK.alloc_obj CG (olds.toArray++news.toArray++rest) e (flat (es++ys)) (by rw[Gz,aK,yi,Tl,<- hmul];exact Hc) (fun j hj=>by
   rw[Gz,aK,yi,Tl,<- hmul] at hj
   exact (cf j hj).step s1) false (kK.slot hd _)
  exact ⟨_,s1.trans s2,eL,(.arr _ _ _ _ _ _ (.inr rfl) yc G0 (.inr ⟨by simp[fK],rfl,_,_,yq,by rw[gd,aL];exact aW _⟩))⟩
 .intro nm k hn hk;obtain ⟨s2,eL⟩:=kK.regrow CG (olds.toArray++news.toArray++rest) e (n:=es.length+ys.length) hn hk;exact ⟨_,s1.trans s2,eL,tokV _ _ (s1.trans s2) rfl⟩
theorem MemR.inplace(hm:MemR B w g m){nm b k n:Nat}{sh:Sh}{c c':Array Value}{e:TypeId}(hn:m.get nm=some (.tok k sh.size))(hl:g.tloc nm k=some b)(hb:w.heap[b]?=some (Obj.cells c e (0,0)))(hk:k<n)(gU:c'.size=c.size)
  (qg6:∀j,j<k*sh.size->c'[j]?=c[j]?) :
  ∃g',Step B w g (w.setRow b c') g'/\MemR B (w.setRow b c') g' (m.set nm (some (.tok n sh.size)))/\g'.tloc nm n=some b/\(∀off,off<n*sh.size->¬ g'.wr b off)/\¬ g'.box b:=by
 obtain ⟨b0,c0,e0,t1,t2,t3,t4,t5,t6⟩:=hm.tok nm k sh.size hn;obtain rfl:b=b0:=by simpa [hl] using t1
 have aG:=wh hn;have kM:∀x,x≠b->(w.setRow b c').heap[x]?=w.heap[x]?:=fun x hx=>setRow_other w b x c' hx;have AH:(w.setRow b c').heap[b]?=some (Obj.cells c' e (0,0)):=setRow_heap w b c c' e _ hb;have wF:(w.setRow b c').heap.size=w.heap.size:=by simp
 let g':G:={ wr:=fun b' off=>g.wr b' off/\¬ (b'=b/\off<n*sh.size),box:=g.box,loc:=g.loc,tloc:=fun nm' n'=>if nm'=nm/\n'=n then some b else g.tloc nm' n' }
 have tJ:∀x n' b',g.tloc x n'=some b'->g'.tloc x n'=some b':=fun x n' b' hx=>by
  show (if x=nm/\n'=n then some b else g.tloc x n')=some b'
  split
  .rename_i he;rw[he.1,he.2,t5 n hk] at hx;cases hx
  .exact hx
 have s:Step B w g (w.setRow b c') g':=by
  refine ⟨⟨rfl,rfl,rfl,by omega,fun x hx=>kM x (by omega)⟩,fun b' off u hw hc=>?_,fun b' c1 e1 fr fm=>?_,fun b' off _ hn hw=>hn hw.1,fun b' off fm=>?_,fun _ _=>Iff.rfl,fun _ _ h=>h,tJ,fun x o hx ho _=>(kM x (fun he=>by rw[he,hb] at hx;cases hx;cases ho)).trans hx⟩
  .by_cases he:b'=b
   .subst he;have qgR:off<k*sh.size:=Nat.lt_of_not_le fun hle=>hw (t4 off hle);rw[cell_of_row w b' off c e (0,0) hb] at hc;rw[cell_of_row _ b' off c' e (0,0) AH,qg6 off qgR];exact hc
   .exact (World.cell?_of_block (w:=w) (a:=⟨b',off,none⟩) (kM b' he)).trans hc
  .by_cases he:b'=b
   .subst he;rw[hb] at fm;simp only[bp,Obj.cells.injEq] at fm;obtain ⟨rfl,rfl,rfl⟩:=fm;exact ⟨c',AH,gU⟩
   .exact ⟨c1,(kM b' he).trans fm,rfl⟩
  .exact ⟨fun h=>h.1,fun h=>⟨h,fun h2=>by omega⟩⟩
 have sa:bw g m nm=some b:=by simp[bw,hn,hl]
 have fe:∀x b',bw g' (m.set nm (some (.tok n sh.size))) x=some b'->bw g m x=some b':=by
  intro x b' hx
  rcases pN hx with ⟨bx',cs',h1,h2⟩|⟨n',sz',h1,h2⟩|⟨kk,es,h1,h2⟩
  .rw[fJ] at h1
   split at h1
   .simp at h1
   .have iv:g.loc x=some b':=h2;simp[bw,h1,iv]
  rotate_left
  .rw[fJ] at h1
   split at h1
   .simp at h1
   .have iv:g.loc x=some b':=h2;simp[bw,h1,iv]
  .rw[fJ] at h1
   split at h1
   .rename_i he;simp at h1
    have iv:(if x=nm/\n'=n then some b else g.tloc x n')=some b':=h2
    rw[aj ⟨he,h1.1.symm⟩] at iv;simp at iv;subst iv;subst he;exact sa
   .rename_i aE
    have iv:(if x=nm/\n'=n then some b else g.tloc x n')=some b':=h2
    rw[ag (fun h=>aE h.1)] at iv;simp[bw,h1,iv]
 refine ⟨g',s,⟨?_,?_,?_,?_,?_,?_,?_,?_,?mp⟩,?_,?_,t6⟩
 case mp=>
  intro x kk es hx;rw[fJ] at hx
  split at hx
  .simp at hx
  .obtain ⟨b1,es1,cl1,a1,a2,a3,a4⟩:=hm.mp x kk es hx;have lL:b1≠b:=fun he=>by rw[he,hb] at a3;cases a3
   exact ⟨b1,es1,cl1,a1,a2,(kM b1 lL).trans a3,a4.step s⟩
 .intro x bx' cs' hx;rw[fJ] at hx
  split at hx
  .simp at hx
  .rename_i aE;obtain ⟨b1,c1,e1,a1,a2,a3,a4,a5,a6,a7⟩:=hm.obj x bx' cs' hx;have lL:b1≠b:=fun he=>aE (hm.inj x nm b (by simp[bw,hx,a1,he]) sa);exact ⟨b1,c1,e1,a1,a2,(kM b1 lL).trans a3,a4,fun j hj=>(a5 j hj).step s,fun off=>⟨a6 off,fun h=>lL h.1⟩,a7⟩
 .intro x n' sz' hx;rw[fJ] at hx
  split at hx
  .rename_i he;simp at hx;obtain ⟨rfl,rfl⟩:=hx;subst he
   refine ⟨b,c',e,?_,t2,AH,fun off ho=>⟨t4 off ?_,fun h=>by omega⟩,fun n'' wA=>?_,t6⟩
   .show (if x=x/\n=n then some b else _)=_;simp
   .exact b7 (fW _ (by omega)) ho
   .show (if x=x/\n''=n then some b else g.tloc x n'')=none
    rw[ag (by omega)];exact t5 n'' (by omega)
  .rename_i aE;obtain ⟨b1,c1,e1,a1,a2,a3,a4,a5,a6⟩:=hm.tok x n' sz' hx;have lL:b1≠b:=fun he=>aE (hm.inj x nm b (by simp[bw,hx,a1,he]) sa);refine ⟨b1,c1,e1,tJ _ _ _ a1,a2,(kM b1 lL).trans a3,fun off ho=>⟨a4 off ho,fun h=>lL h.1⟩,fun n'' wA=>?_,a6⟩
   show (if x=nm/\n''=n then some b else g.tloc x n'')=none
   rw[ag (fun h=>aE h.1)];exact a5 n'' wA
 .intro x hx;rw[fJ] at hx
  split at hx
  .simp at hx
  .rename_i aE;have:=hm.resv x hx;refine ⟨this.1,fun n'=>?_⟩
   show (if x=nm/\n'=n then some b else g.tloc x n')=none
   rw[ag (fun h=>aE h.1)];exact this.2 n'
 .intro x hx;have uY:m.length<=x:=by simpa using hx
  have:=hm.fresh x uY;refine ⟨this.1,fun n'=>?_⟩
  show (if x=nm/\n'=n then some b else g.tloc x n')=none
  rw[ag (fun h=>by have:=h.1;omega)];exact this.2 n'
 .intro x x' b' h1 h2;exact hm.inj x x' b' (fe x b' h1) (fe x' b' h2)
 .intro b' off hw;rw[wF];exact hm.wrLt b' off hw.1
 .exact hm.invS s
 .intro b' hw;rw[wF];exact hm.boxLt b' hw
 .show (if nm=nm/\n=n then some b else _)=_;simp
 .intro off ho h;exact h.2 ⟨rfl,ho⟩
def vp(g:G)(nm b:Nat):G where
 wr:=g.wr
 box:=g.box
 loc n:=if n=nm then some b else g.loc n
 tloc:=g.tloc
theorem MemR.rename(hm:MemR B w g m){nm b:Nat}{bx:Bool}{cs:List AV}(hn:m.get nm=some (.obj bx cs))(hl:g.loc nm=some b):Step B w g w (vp g m.length b)/\MemR B w (vp g m.length b) (m.set nm none++[some (.obj bx cs)]):=by
 have aG:=wh hn;have lM:=hm.fresh m.length (aW _)
 have ji:∀x b',g.loc x=some b'->(vp g m.length b).loc x=some b':=fun x b' hx=>by
  show (if x=m.length then some b else g.loc x)=some b'
  split
  .rename_i he;rw[he,lM.1] at hx;cases hx
  .exact hx
 have s:Step B w g w (vp g m.length b):=⟨Below.refl _ _,fun _ _ _ _ h=>h,fun _ c _ _ h=>⟨c,h,rfl⟩,fun _ _ _ h=>h,fun _ _ _=>Iff.rfl,fun _ _=>Iff.rfl,ji,fun _ _ _ h=>h,fun _ _ h _ _=>h⟩
 have aQ:∀x,ae.get (m.set nm none++[some (.obj bx cs)]) x=if x=m.length then some (.obj bx cs) else if x=nm then none else m.get x:=by
  intro x;rw[SG,eB]
  by_cases h1:x<m.length
  .rw[aj h1,ag (by omega),fJ,aj aG]
  .rw[ag h1]
   by_cases h2:x=m.length
   .rw[aj h2,aj h2]
   .rw[ag h2,ag h2,ag (by omega)];unfold ae.get;rw[iC (by omega)];rfl
 have sa:bw g m nm=some b:=by simp[bw,hn,hl]
 have fe:∀x b',bw (vp g m.length b) (m.set nm none++[some (.obj bx cs)]) x=some b'->(x=m.length/\b'=b)\/(x≠nm/\x≠m.length/\bw g m x=some b'):=by
  intro x b' hx
  by_cases h1:x=m.length
  .unfold bw at hx;rw[aQ,aj h1] at hx;simp only[vp,aj h1,bp] at hx;exact .inl ⟨h1,hx.symm⟩
  .unfold bw at hx;rw[aQ,ag h1] at hx
   by_cases h2:x=nm
   .rw[aj h2] at hx;simp at hx
   .rw[ag h2] at hx;refine .inr ⟨h2,h1,?_⟩;unfold bw;simp only[vp,ag h1] at hx;exact hx
 refine ⟨s,?_,?_,?_,?_,?_,hm.wrLt,hm.invS s,hm.boxLt,?_⟩
 .intro x bx' cs' hx;rw[aQ] at hx
  split at hx
  .rename_i he;simp only[bp,Ent.obj.injEq] at hx;obtain ⟨rfl,rfl⟩:=hx;obtain ⟨b1,c1,e1,a1,a2,a3,a4,a5,a6,a7⟩:=hm.obj nm bx cs hn;obtain rfl:b=b1:=by simpa [hl] using a1
   exact ⟨b,c1,e1,by simp[vp,he],a2,a3,a4,fun j hj=>(a5 j hj).step s,a6,a7⟩
  .split at hx
   .cases hx
   .obtain ⟨b1,c1,e1,a1,a2,a3,a4,a5,a6,a7⟩:=hm.obj x bx' cs' hx;exact ⟨b1,c1,e1,ji _ _ a1,a2,a3,a4,fun j hj=>(a5 j hj).step s,a6,a7⟩
 .intro x n sz hx;rw[aQ] at hx
  split at hx
  .cases hx
  .split at hx
   .cases hx
   .exact hm.tok x n sz hx
 .intro x hx;rw[aQ] at hx
  split at hx
  .cases hx
  .split at hx
   .cases hx
   .rename_i h1 h2;have:=hm.resv x hx
    exact ⟨by show (if x=m.length then some b else g.loc x)=none;rw[ag h1];exact this.1,this.2⟩
 .intro x hx;simp only[aK,eB,List.length_singleton] at hx;have:=hm.fresh x (by omega)
  exact ⟨by show (if x=m.length then some b else g.loc x)=none;rw[ag (by omega)];exact this.1,this.2⟩
 .intro x x' b' h1 h2
  rcases fe x b' h1 with ⟨a1,a2⟩|⟨a1,a2,a3⟩<;>rcases fe x' b' h2 with ⟨b1,b2⟩|⟨b1,b2,b3⟩
  .omega
  .subst a2;exact absurd (hm.inj _ _ _ b3 sa) b1
  .subst b2;exact absurd (hm.inj _ _ _ a3 sa) a1
  .exact hm.inj _ _ _ a3 b3
 .intro x kk es hx;rw[aQ] at hx
  split at hx
  .cases hx
  .split at hx
   .cases hx
   .obtain ⟨b1,es1,cl1,a1,a2,a3,a4⟩:=hm.mp x kk es hx;exact ⟨b1,es1,cl1,ji _ _ a1,a2,a3,a4.step s⟩
theorem MemR.lose(hm:MemR B w g m)(nm:Nat):MemR B w g (m.set nm none):=by
 have aQ:∀x e,ae.get (m.set nm none) x=some e->m.get x=some e:=by
  intro x e hx;rw[fJ] at hx
  split at hx
  .simp at hx
  .exact hx
 have fe:∀x b,bw g (m.set nm none) x=some b->bw g m x=some b:=by
  intro x b hx
  rcases pN hx with ⟨bx,cs,h1,h2⟩|⟨n,sz,h1,h2⟩|⟨kk,es,h1,h2⟩
  .have:=aQ _ _ h1;simp[bw,this,h2]
  .have:=aQ _ _ h1;simp[bw,this,h2]
  .have:=aQ _ _ h1;simp[bw,this,h2]
 exact ⟨fun x bx cs hx=>hm.obj x bx cs (aQ _ _ hx),fun x n sz hx=>hm.tok x n sz (aQ _ _ hx),fun x hx=>hm.resv x (aQ _ _ hx),fun x hx=>hm.fresh x (by simpa using hx),fun x x' b h1 h2=>hm.inj x x' b (fe _ _ h1) (fe _ _ h2),hm.wrLt,hm.inv,hm.boxLt,fun x kk es hx=>hm.mp x kk es (aQ _ _ hx)⟩
theorem qi6{P:Program}(w:World)(t ty e e0:TypeId)(i:TypeInfo)(ht:P.underlying t=some (.slice e))(hi:P.info? e=some i)
  (g sLen sCap:Nat) (cur:Array Value) (hg:w.heap[g]?=some (.cells cur e0 (0,0)))
  (a:Addr) (m c:Nat) (news:List Value) (hl:news.length=m*i.size) (sn:∀j u,news[j]?=some u->w.cell? (a.add j)=some u) (h1:∀u∈news,u.oneCell'=true)
  (uU:sLen+m<=sCap) (tD:sLen*i.size+news.length<=cur.size) :
  (Builtin.append_ #[t,t] ty #[.slice (some ⟨g,0,none⟩) sLen sCap,.slice (some a) m c]).run P w =
   .ok (.slice (some ⟨g,0,none⟩) (sLen+m) sCap) (w.setRow g (cur.toList.take (sLen*i.size)++news++cur.toList.drop (sLen*i.size+news.length)).toArray):=by
 have hf:=run_firstCells_some (P:=P) w i.size m a m c news hl sn;have eD:=run_storeCells_at P g (sLen*i.size) e0 news 0 cur w hg (by simpa using tD) h1;simp only[jo] at eD;simp[Builtin.append_,run_underlying ht,sizeOf,typeInfo,hi,Builtin.lenOf,uU,hf,Addr.add_lit,eD]
theorem qi1(hm:MemR B w g m){sh:Sh}{y:AV}{y':Value}{n:Nat}{cs:List AV}(hy:V w g y y')(h:DR m sh y=some (n,cs)) :
  ∃(a:Addr) (cap:Nat) (vs:List Value),y'=.slice (some a) n cap/\0<n/\vs.length=n*sh.size/\cs.length=n*sh.size/\(∀j u,vs[j]?=some u->w.cell? (a.add j)=some u)/\(∀u∈vs,u.oneCell'=true)/\(∀j,j<vs.length->V w g (cs.getD j .any) (vs.getD j undef)):=by
 unfold DR at h
 split at h
 .rename_i shy z o ys
  split at h
  .rename_i hc;obtain ⟨rfl,lO⟩:=hc;simp only[bp,dT] at h;obtain ⟨rfl,rfl⟩:=h
   have hz:z=false/\∃a n cap,y'=.slice (some a) n cap:=by
    cases hy with
    | nils=>simp at lO
    | lst=>exact ⟨rfl,_,_,_,rfl⟩
   obtain ⟨rfl,a,n,cap,rfl⟩:=hz;obtain ⟨vs,rfl,h2,h3,h4,h5,_,_,_,h6,_,_⟩:=B6 hy;exact ⟨a,cap,vs,rfl,lO,h2,rY (fun e he=>(h6 e he).1),h3,h4,h5⟩
  .cases h
 .rename_i nm off n1 shy;obtain ⟨⟨bx,os⟩,ho,h⟩:=aS.1 h;simp only at h
  split at h
  .rename_i hc;obtain ⟨rfl,lO,hle,gX⟩:=hc;simp only[bp,dT] at h;obtain ⟨rfl,rfl⟩:=h;obtain ⟨b,c,e,o1,o2,o3,o4,o5,o6,o7⟩:=hm.obj nm bx os (obj?_get ho)
   cases hy with
   | arr _ _ _ _ a cap hs hc mb hl=>
    obtain ⟨l1,l2,_⟩:=hl.resolve_left (by omega);obtain rfl:b=a.block:=by simpa [o1] using l1
    have kH:((os.drop off).take (n1*shy.size)).length=n1*shy.size:=by simp;omega
    have uL:∀j,j<n1*shy.size->((os.drop off).take (n1*shy.size)).getD j .any=os.getD (off+j) .any:=fun j hj=>by
     simp[bA,qJ,qI,hj]
    refine ⟨a,cap,(List.range (n1*shy.size)).map fun j=>c.getD (off+j) undef,rfl,lO,by simp,kH,fun j u hu=>?_,fun u hu=>?_,fun j hj=>?_⟩
    .have hj:j<n1*shy.size:=by
      rcases tj j (n1*shy.size) with hl|hl
      .exact hl
      .rw[iC (by simpa using hl)] at hu;cases hu
     simp[hj] at hu;rw[l2,lZ,cell_of_row w _ _ c e (0,0) o3,<- hu];simp[Array.getD,show off+j<c.size by omega]
    .obtain ⟨j,hj,rfl⟩:=ks.1 hu;have gg:j<n1*shy.size:=by simpa using hj
     have h1:=o5 (off+j) (by omega);rw[<- uL j gg] at h1;have lN:j<((os.drop off).take (n1*shy.size)).length:=by omega
     have e1:((os.drop off).take (n1*shy.size)).getD j .any=((os.drop off).take (n1*shy.size))[j]:=by rw[bA,jR lN];rfl
     rw[e1] at h1;exact (B5 h1 (iX.1 gX _ (fH lN))).1
    .have gg:j<n1*shy.size:=by simpa using hj
     rw[uL j gg];have:=o5 (off+j) (by omega);simpa [bA,gg] using this
  .cases h
 .rename_i n1 shy cs1
  split at h
  .rename_i hc;obtain ⟨rfl,lO,hle⟩:=hc;simp only[bp,dT] at h;obtain ⟨rfl,rfl⟩:=h
   cases hy with
   | vec _ _ _ a cap us hs hc mb hn gX cf hv=>
    have hcp:cap≠0:=by omega
    have ha:a=⟨a.block,a.off,none⟩:=by
     have:=hs.resolve_left hcp;cases a;simp_all
    refine ⟨a,cap,(List.range cs1.length).map us,rfl,lO,by simpa using hle,hle,fun j u hu=>?_,fun u hu=>?_,fun j hj=>?_⟩
    .have hj:j<cs1.length:=by
      rcases tj j cs1.length with hl|hl
      .exact hl
      .rw[iC (by simpa using hl)] at hu;cases hu
     simp[hj] at hu;rw[ha,lZ,<- hu];exact (cf j hj).1
    .obtain ⟨j,hj,rfl⟩:=ks.1 hu;have gg:j<cs1.length:=by simpa using hj
     have h1:=hv j gg;have e:cs1.getD j .any=cs1[j]:=by rw[bA,jR gg];rfl
     rw[e] at h1;exact (B5 h1 (gX _ (fH gg))).1
    .have gg:j<cs1.length:=by simpa using hj
     have:=hv j gg;simpa [bA,gg] using this
  .cases h
 .cases h
theorem SJ(hm:MemR B w g m)(hB:B<=w.heap.size){e k n:Nat}{sh:Sh}{xcs ycs:List AV}{olds news:List Value}{rest:Array Value}{cap:Nat}(eV:olds.length=k*sh.size)(ra:news.length=n*sh.size)(uY:xcs.length=k*sh.size)(yD:ycs.length=n*sh.size)
  (tN:∀j,j<olds.length->V w g (xcs.getD j .any) (olds.getD j undef)) (sw:∀j,j<news.length->V w g (ycs.getD j .any) (news.getD j undef)) (yc:k+n<=cap) (G0:cap<=maxLen)
  (qgX:rest.size=(cap-(k+n))*sh.size) :
  ∃g',Step B w g (w.drew.alloc (.cells (olds.toArray++news.toArray++rest) e)) g'/\MemR B (w.drew.alloc (.cells (olds.toArray++news.toArray++rest) e)) g' (m++[some (.obj false (xcs++ycs))])/\V (w.drew.alloc (.cells (olds.toArray++news.toArray++rest) e)) g' (.arr m.length 0 (k+n) sh) (.slice (some ⟨w.heap.size,0,none⟩) (k+n) cap):=by
 have kK:=hm.drew;have s1:=Step.drew B w g;have CG:B<=w.drew.heap.size:=hB;have hmul:(k+n)*sh.size=k*sh.size+n*sh.size:=fI _ _ _
 have cf:∀j,j<(k+n)*sh.size->V w g ((xcs++ycs).getD j .any) ((olds.toArray++news.toArray++rest).getD j undef):=by
  intro j hj;simp only[bA,fV,pL,Em,Array.size_append,List.size_toArray,zL,uY,eV,ra]
  by_cases h1:j<k*sh.size
  .rw[aj h1,aj (by omega),aj h1];simpa [bA] using tN j (by omega)
  .rw[ag h1,aj (by omega),ag h1];simpa [bA] using sw (j-k*sh.size) (by omega)
 have gd:(olds.toArray++news.toArray++rest).size=cap*sh.size:=by
  have:cap*sh.size=(k+n)*sh.size+(cap-(k+n))*sh.size:=by
   rw[<- fI];congr 1;omega
  simp only[Array.size_append,List.size_toArray];omega
 have yq:(w.drew.alloc (.cells (olds.toArray++news.toArray++rest) e)).heap[w.heap.size]?=some (Obj.cells (olds.toArray++news.toArray++rest) e (0,0)):=heap_alloc_new w.drew _;have Hc:(k+n)*sh.size<=(olds.toArray++news.toArray++rest).size:=by rw[gd];exact fW _ yc
 obtain ⟨s2,eL⟩:=kK.alloc_obj CG (olds.toArray++news.toArray++rest) e (xcs++ycs) (by rw[aK,uY,yD,<- hmul];exact Hc) (fun j hj=>by
  rw[aK,uY,yD,<- hmul] at hj
  exact (cf j hj).step s1) false (kK.slot (d:=none) (fun s hs=>by cases hs) _)
 exact ⟨_,s1.trans s2,eL,(.arr _ _ _ _ _ _ (.inr rfl) yc G0 (.inr ⟨by simp[fK,ak],rfl,_,_,yq,by rw[gd,aL];exact aW _⟩))⟩
theorem qdm(w:World)(t e ty:Nat)(i:TypeInfo)(ht:P.underlying t=some (.slice e))(hi:P.info? e=some i){x y:AV}{x' y':Value}(hx:V w g x x')(hy:V w g y y')(h1:Hw y=true)(h2:VN x=true) :
  (Builtin.append_ #[t,t] ty #[x',y']).run P w=.ok x' w:=by
 have hsx:∃a n c,x'=.slice a n c/\n<=c:=by
  cases hx<;>first|exact ⟨_,_,_,rfl,aW _⟩|exact ⟨_,_,_,rfl,by assumption⟩|(cases h2;done)
 obtain ⟨a,n,c,rfl,hn⟩:=hsx
 have hsy:∃a' c',y'=.slice a' 0 c':=by
  cases hy<;>first|exact ⟨_,_,rfl⟩|(cases h1;done)|skip
  .rename_i es _ _ _ _ _ _ _ _ _ _;simp only[Hw,List.isEmpty_iff] at h1;subst h1;exact ⟨_,_,rfl⟩
  .simp only[Hw,beq_iff_eq] at h1;subst h1;exact ⟨_,_,rfl⟩
 obtain ⟨a',c',rfl⟩:=hsy;cases a'<;>cases a<;>simp[Builtin.append_,run_underlying ht,sizeOf,typeInfo,hi,Builtin.lenOf,hn,Builtin.firstCells,loadCells,loadCellsFrom,storeCells]
theorem qde(hm:MemR B w g m)(hB:B<=w.heap.size){d:Option Nat}{arrm:Bool}{t e ty:Nat}{sh:Sh}{x y v:AV}{m':ae}{x' y':Value}(ht:P.underlying t=some (.slice e))(he:mL P e sh=true)
  (hx:V w g x x') (hy:V w g y y') (h:rT d arrm sh (pd P e) m x y=some (v,m')):nF P B w g (Builtin.append_ #[t,t] ty #[x',y']) v m':=by
 obtain ⟨i,zv,hi,hs,lO,np,sx,yo⟩:=rX he;have gJ:pd P e=max 1 i.bytes:=by simp[pd,hi]
 unfold rT at h
 split at h
 .split at h
  case h_2=>
   split at h
   .rename_i hc;simp only[bp,dT] at h;obtain ⟨rfl,rfl⟩:=h;exact nF.same hm ⟨x',qdm w t e ty i ht hi hx hy hc.1 hc.2,hx⟩
   .cases h
  rename_i q hq;obtain ⟨n,ycs⟩:=q;obtain ⟨⟨k,xcs,m2⟩,hp,h⟩:=aS.1 h;simp only at h
  split at h
  .rename_i uU;simp only[bp,dT] at h;obtain ⟨rfl,rfl⟩:=h;obtain ⟨ay,cy,news,rfl,G6,ra,yD,sn,mP,sw⟩:=qi1 hm hy hq;rw[gJ] at uU;have sm:news.length=n*i.size:=by rw[ra,hs]
   have su:(k+n)*i.bytes<=140737488355328:=b7 (kU _ (by omega)) uU;have hlen:k+n<=140737488355328:=b7 (Nat.le_mul_of_pos_right _ (by omega)) uU;have rZ:k+n<=maxLen:=by simp only[maxLen];omega
   unfold H2 at hp
   split at hp
   .rename_i shx z o es
    split at hp
    .split at hp
     .rename_i C9;simp only[bp,dT] at hp;obtain ⟨rfl,rfl,rfl⟩:=hp
      have LI:∃(cap:Nat) (olds:List Value) (rest:Array Value),(Builtin.append_ #[t,t] ty #[x',.slice (some ay) n cy]).run P w=.ok (.slice (some ⟨w.heap.size,0,none⟩) (es.length+n) cap) (w.drew.alloc (.cells (olds.toArray++news.toArray++rest) e)) /\
        olds.length=es.length*sh.size/\(∀e∈es,eP sh e=true/\pl e=true)/\(∀j,j<olds.length->V w g ((flat es).getD j .any) (olds.getD j undef))/\es.length+n<=cap/\cap<=maxLen/\rest.size=(cap-(es.length+n))*sh.size:=by
       cases z with
       | true=>
        have iZ:es=[]/\x'=.slice none 0 0:=by cases hx;exact ⟨rfl,rfl⟩
        obtain ⟨rfl,rfl⟩:=iZ;have hr:=run_append_nil (P:=P) w t ty e i zv ht hi np ay n cy news sm sn G6 (by simp only[aX] at hlen;omega) (by simp only[aX,aL] at su;omega)
        refine ⟨_,[],Builtin.zeroCells zv.cells (grownCap w n 0 e-n),?_,by simp,by simp,by simp,by simpa using grownCap_ge w n 0 e,grownCap_le_maxLen w _ _ e (by simpa using rZ),?_⟩
        .simpa using hr
        .rw[size_zeroCells,sx,hs];simp
       | false=>
        obtain ⟨ax,nx,cx,rfl⟩:∃ax nx cx,x'=.slice (some ax) nx cx:=by cases hx;exact ⟨_,_,_,rfl⟩
        obtain ⟨olds,rfl,eV,holds,TO,tN,CM,nh,mb,yh,C0,_⟩:=B6 hx;have qgy:cx=es.length:=C0
        have ym:olds.length=es.length*i.size:=by
         rcases C9 with h|h
         .rw[eV,h,hs]
         .subst h;simp at eV;simp[eV]
        have hr:=run_append_grow (P:=P) w t ty e i zv ht hi np ax es.length cx olds ym holds ay n cy news sm sn (by omega) (by omega) (growslice_fits (by omega) su);refine ⟨_,olds,Builtin.zeroCells zv.cells (grownCap w (es.length+n) cx e-(es.length+n)),hr,by rw[ym,hs],?_,tN,grownCap_ge _ _ _ _,grownCap_le_maxLen _ _ _ _ rZ,by rw[size_zeroCells,sx,hs]⟩
        rcases C9 with h|h
        .rw[<- h];exact yh
        .subst h;simp
      obtain ⟨cap,olds,rest,hr,g1,g2,g3,g4,g5,g6⟩:=LI;obtain ⟨g',s,eR,hV⟩:=SJ hm hB (e:=e) g1 ra (rY fun e he=>(g2 e he).1) yD g3 sw g4 g5 g6;exact ⟨_,_,g',hr,s,eR,hV⟩
     .cases hp
    .cases hp
   .rename_i nm off k1 shx;obtain ⟨⟨bx,cs⟩,ho,yt⟩:=aS.1 hp;clear hp;simp only at yt
    split at yt
    .rename_i hc;obtain ⟨rfl,rfl,hk0,rfl,kH⟩:=hc;simp only[bp,dT] at yt;obtain ⟨rfl,rfl,rfl⟩:=yt;have aQ:=obj?_get ho;have aG:=wh aQ;obtain ⟨b,c,e1,o1,o2,o3,o4,o5,o6,o7⟩:=hm.obj nm false cs aQ
     cases hx with
     | arr _ _ _ _ a cap jZ kG mb hl=>
      obtain ⟨l1,l2,c2,e2,l3,l4⟩:=hl.resolve_left (by omega);obtain rfl:b=a.block:=by simpa [o1] using l1
      rw[o3] at l3;simp only[bp,Obj.cells.injEq] at l3;obtain ⟨rfl,rfl,_⟩:=l3;rw[aL] at l4
      by_cases tD:k1+n<=cap
      .have GQ:k1*i.size+news.length<=c.size:=by
        rw[sm,hs,<- fI];exact b7 (fW _ tD) l4
       have hkk:k1*i.size=k1*shx.size:=by rw[hs]
       have hnn:n*i.size=n*shx.size:=by rw[hs]
       have hr:=qi6 (P:=P) w t ty e e1 i ht hi a.block k1 cap c o3 ay n cy news sm sn mP tD GQ;rw[<- l2] at hr;have gU:(c.toList.take (k1*i.size)++news++c.toList.drop (k1*i.size+news.length)).toArray.size=c.size:=by simp;omega
       obtain ⟨s1,kK⟩:=hm.write (cs':=cs++ycs) (c':=(c.toList.take (k1*i.size)++news++c.toList.drop (k1*i.size+news.length)).toArray) aQ o1 o3 gU (by rw[gU,aK,kH,yD,<- ra,<- hs];exact GQ) (fun j hj=>by
        rw[aK,kH,yD] at hj;have wy:(c.toList.take (k1*i.size)).length=k1*shx.size:=by simp;omega
        simp only[bA,fV,zL,vC]
        by_cases h1:j<k1*shx.size
        .rw[er (by omega),er (by omega),qJ,aj (by omega)];have:=o5 j (by omega);simpa [bA,fV] using this
        .rw[vE (by omega),vE (by omega),kH,wy,er (by omega)];have:=sw (j-k1*shx.size) (by omega)
         simpa [bA] using this)
       obtain ⟨s2,eL⟩:=kK.rename (by rw[fJ,aj rfl,aj aG]) o1;rw[eB,List.set_set] at eL;rw[eB] at s2;refine ⟨_,_,_,hr,s1.trans s2,by rw[eB] at *;exact eL,?_⟩;rw[eB];rw[l2];exact .arr _ _ _ _ _ _ (.inr rfl) tD mb (.inr ⟨by simp[vp],rfl,_,e1,setRow_heap w _ c _ e1 _ o3,by rw[gU,aL];exact l4⟩)
      .have hcd:∀j,j<k1*shx.size->w.cell? (a.add j)=some (c.getD j undef):=fun j hj=>by
        rw[l2,lZ,cell_of_row w _ _ c e1 (0,0) o3];simp[Array.getD,show j<c.size by omega]
       have eV:((List.range (k1*shx.size)).map fun j=>c.getD j undef).length=k1*shx.size:=by simp
       have hr:=run_append_grow (P:=P) w t ty e i zv ht hi np a k1 cap ((List.range (k1*shx.size)).map fun j=>c.getD j undef) (by rw[eV,hs]) (fun j u hu=>by
         have hj:j<k1*shx.size:=by
          rcases tj j (k1*shx.size) with hl|hl
          .exact hl
          .rw[iC (by simpa using hl)] at hu;cases hu
         simp[hj] at hu;rw[hcd j hj,<- hu]
         simp[fV]) ay n cy news sm sn (by omega) (by omega) (growslice_fits (by omega) su)
       obtain ⟨g',s,eR,hV⟩:=SJ (hm.lose nm) hB (e:=e) (xcs:=cs) (ycs:=ycs) (olds:=(List.range (k1*shx.size)).map fun j=>c.getD j undef) eV ra kH yD (fun j hj=>by
         have gg:j<k1*shx.size:=by simpa using hj
         have:=o5 j (by omega)
         simpa [bA,gg] using this) sw (grownCap_ge w (k1+n) cap e) (grownCap_le_maxLen w _ cap e rZ) (rest:=Builtin.zeroCells zv.cells (grownCap w (k1+n) cap e-(k1+n))) (by rw[size_zeroCells,sx,hs])
       exact ⟨_,_,g',hr,s,eR,hV⟩
    .cases yt
   .cases hp
  .cases h
 .cases h
theorem qdl(w:World)(t e ty:Nat)(i:TypeInfo)(ht:P.underlying t=some (.slice e))(hi:P.info? e=some i){x:AV}{x' y':Value}{sh shy:Sh}{z z':Bool}{o o':Own}{es:List AV}(hx:V w g (.lst sh z o es) x')(hy:V w g (.lst shy z' o' []) y') :
  (Builtin.append_ #[t,t] ty #[x',y']).run P w=.ok x' w:=by
 have hb:∀a n c,x'=.slice a n c->n<=c:=by
  rintro a n c rfl
  cases hx with
  | nils=>exact aW _
  | lst _ o es a cap us hs hc hm bO cf hv ho=>exact hc
 have qg7:∃a n c,x'=.slice a n c:=by cases hx<;>exact ⟨_,_,_,rfl⟩
 obtain ⟨a,n,c,rfl⟩:=qg7;have hn:=hb a n c rfl;have qg8:∃a' c',y'=.slice a' 0 c':=by cases hy<;>exact ⟨_,_,rfl⟩
 obtain ⟨a',c',rfl⟩:=qg8;cases a'<;>cases a<;>simp[Builtin.append_,run_underlying ht,sizeOf,typeInfo,hi,Builtin.lenOf,hn,Builtin.firstCells,loadCells,loadCellsFrom,storeCells]
theorem qdn(hm:MemR B w g m)(hB:B<=w.heap.size){d:Option Nat}(hd:∀s,d=some s->m.get s=some .resv){arrm:Bool}{t e ty:Nat}{sh:Sh}{x y v:AV}{m':ae}{x' y':Value}(ht:P.underlying t=some (.slice e))(bO:iz P e=some sh)(he:mL P e sh=true)
  (hx:V w g x x') (hy:V w g y y') (h:eG d arrm e sh (pd P e) m x y=some (v,m')):nF P B w g (Builtin.append_ #[t,t] ty #[x',y']) v m':=by
 obtain ⟨i,zv,hi,hs,lO,np,sx,yo⟩:=rX he;have gJ:pd P e=max 1 i.bytes:=by simp[pd,hi]
 unfold eG at h
 split at h
 .rename_i shx z o es shy zy oy ys0
  split at h
  .simp at h;obtain ⟨rfl,rfl⟩:=h;exact nF.same hm ⟨x',qdl (x:=.any) w t e ty i ht hi hx hy,hx⟩
  .rename_i y1 ys1;generalize oP:y1::ys1=ys at *;have G6:0<ys.length:=by rw[<- oP];simp
   split at h
   .rename_i qg9;subst qg9
    split at h
    .rename_i uU;rw[gJ] at uU
     have Hf:∃zy',zy=zy'/\zy'=false:=by
      cases zy
      .exact ⟨_,rfl,rfl⟩
      .cases hy;simp at G6
     obtain ⟨_,rfl,rfl⟩:=Hf;obtain ⟨ay,ny,cy,rfl⟩:∃ay ny cy,y'=.slice (some ay) ny cy:=by cases hy;exact ⟨_,_,_,rfl⟩
     obtain ⟨news,rfl,ra,sn,mP,sw,_,_,_,Mp,_,_⟩:=B6 hy;have sm:news.length=ys.length*i.size:=by rw[ra,hs]
     have su:(es.length+ys.length)*i.bytes<=140737488355328:=b7 (kU _ (by omega)) uU;have hlen:es.length+ys.length<=140737488355328:=b7 (Nat.le_mul_of_pos_right _ (by omega)) uU;have rZ:es.length+ys.length<=maxLen:=by simp only[maxLen];omega
     split at h
     .cases h
     ·
      split at h
      .rename_i C9
       have LI:∃(cap:Nat) (olds:List Value) (rest:Array Value),(Builtin.append_ #[t,t] ty #[x',.slice (some ay) ys.length cy]).run P w=.ok (.slice (some ⟨w.heap.size,0,none⟩) (es.length+ys.length) cap) (w.drew.alloc (.cells (olds.toArray++news.toArray++rest) e)) /\
         olds.length=es.length*shy.size/\(∀e∈es,eP shy e=true/\pl e=true)/\(∀j,j<olds.length->V w g ((flat es).getD j .any) (olds.getD j undef))/\es.length+ys.length<=cap/\cap<=maxLen/\rest.size=(cap-(es.length+ys.length))*shy.size:=by
        cases z with
        | true=>
         have iZ:es=[]/\x'=.slice none 0 0:=by cases hx;exact ⟨rfl,rfl⟩
         obtain ⟨rfl,rfl⟩:=iZ;have hr:=run_append_nil (P:=P) w t ty e i zv ht hi np ay ys.length cy news sm sn G6 (by omega) (by simp only[aX,aL] at su;omega)
         refine ⟨_,[],Builtin.zeroCells zv.cells (grownCap w ys.length 0 e-ys.length),?_,by simp,by simp,by simp,by simpa using grownCap_ge w ys.length 0 e,grownCap_le_maxLen w _ _ e (by simpa using rZ),?_⟩
         .simpa using hr
         .rw[size_zeroCells,sx,hs];simp
        | false=>
         obtain ⟨ax,nx,cx,rfl⟩:∃ax nx cx,x'=.slice (some ax) nx cx:=by cases hx;exact ⟨_,_,_,rfl⟩
         obtain ⟨olds,rfl,eV,holds,TO,tN,CM,nh,mb,yh,C0,_⟩:=B6 hx;have qgy:cx=es.length:=C0
         have ym:olds.length=es.length*i.size:=by
          rcases C9 with h|h
          .rw[eV,h,hs]
          .subst h;simp at eV;simp[eV]
         have hr:=run_append_grow (P:=P) w t ty e i zv ht hi np ax es.length cx olds ym holds ay ys.length cy news sm sn (by omega) (by omega) (growslice_fits (by omega) su);refine ⟨_,olds,Builtin.zeroCells zv.cells (grownCap w (es.length+ys.length) cx e-(es.length+ys.length)),hr,by rw[ym,hs],?_,tN,grownCap_ge _ _ _ _,grownCap_le_maxLen _ _ _ _ rZ,by rw[size_zeroCells,sx,hs]⟩
         rcases C9 with h|h
         .rw[<- h];exact yh
         .subst h;simp
       obtain ⟨cap,olds,rest,hr,g1,g2,g3,g4,g5,g6⟩:=LI;obtain ⟨p1,p2,_⟩:=SK hm hB hd (e:=e) g1 ra g2 Mp g3 sw g4 g5 g6
       split at h
       .simp only[bp,dT] at h;obtain ⟨rfl,rfl⟩:=h;obtain ⟨g',s,eR,hV⟩:=p2;exact ⟨_,_,g',hr,s,eR,hV⟩
       .simp at h;obtain ⟨rfl,rfl⟩:=h;obtain ⟨g',s,eR,hV⟩:=p1;exact ⟨_,_,g',hr,s,eR,hV⟩
      .cases h
     ·
      rename_i nm e'
      split at h
      .rename_i mN;obtain ⟨rfl,rfl,_⟩:=mN
       split at h
       .rename_i k sz aQ
        split at h
        .rename_i hk;obtain ⟨rfl,rfl⟩:=hk;simp at h;obtain ⟨rfl,rfl⟩:=h
         have hz:z=false/\∃ax nx cx,x'=.slice (some ax) nx cx:=by
          cases hx with
          | nils _ _ ho=>rcases ho with h|h<;>cases h
          | lst=>exact ⟨rfl,_,_,_,rfl⟩
         obtain ⟨rfl,ax,nx,cx,rfl⟩:=hz;obtain ⟨olds,rfl,eV,holds,TO,tN,CM,nh,mb,yh,C0,_⟩:=B6 hx;obtain ⟨o1,o2,c,o3,o4⟩:=C0;have ym:olds.length=es.length*i.size:=by rw[eV,hs]
         by_cases tD:es.length+ys.length<=cx
         ·
          have CM:=CM.resolve_left (by omega);have Lu:ax=⟨ax.block,0,none⟩:=by rw[CM,o2]
          have GQ:es.length*i.size+news.length<=c.size:=by
           rw[sm,o4,hs,<- fI];exact fW _ tD
          have hr:=run_append_room (P:=P) w t ty e' i ht hi ax.block es.length cx c o3 ay ys.length cy news sm sn mP tD GQ;rw[<- Lu] at hr
          obtain ⟨g',s,eR,q1,q2,q3⟩:=hm.inplace (n:=es.length+ys.length) (c':=(c.toList.take (es.length*i.size)++news++c.toList.drop (es.length*i.size+news.length)).toArray) aQ o1 o3 (by omega) (by simp;omega)
           (fun j hj=>by
            rw[<- hs] at hj;simp only[zL,vC];rw[er (by simp;omega),qJ,aj hj]
            simp)
          refine ⟨_,_,g',hr,s,eR,?_⟩;have si:(w.setRow ax.block (c.toList.take (es.length*i.size)++news++c.toList.drop (es.length*i.size+news.length)).toArray).heap[ax.block]?=some (Obj.cells (c.toList.take (es.length*i.size)++news++c.toList.drop (es.length*i.size+news.length)).toArray e' (0,0)):=setRow_heap w _ c _ e' _ o3;have S8:(c.toList.take (es.length*i.size)++news++c.toList.drop (es.length*i.size+news.length)).toArray.size=c.size:=by simp;omega
          have hmul:(es.length+ys.length)*shx.size=es.length*shx.size+ys.length*shx.size:=fI _ _ _;have yi:=rY (fun e he=>(yh e he).1:∀e∈es,eP shx e=true);have pn:(es++ys).length=es.length+ys.length:=by simp
          have:=FV (sh:=shx) (o:=.tok nm e') (es:=es++ys) (cap:=cx) si (by rw[pn];exact tD) mb (fun e he=>by
            rcases kT.1 he with h|h
            .exact yh e h
            .exact Mp e h) (by rw[pn,S8,o4];exact fW _ tD)
           (fun j hj=>by
            rw[pn] at hj;have wy:(c.toList.take (es.length*i.size)).length=es.length*shx.size:=by simp;omega
            rw[Gz];simp only[bA,fV,zL,vC]
            by_cases h1:j<es.length*shx.size
            .rw[er (by omega),er (by omega),qJ,aj (by omega)];have cf:=holds j (olds.getD j undef) (by simp[bA,show j<olds.length by omega]);rw[Lu,lZ,cell_of_row w _ _ c e' (0,0) o3] at cf;simp only[aL] at cf;have:=(tN j (by omega)).step s;simp only[Array.getElem?_toList,cf,nZ];simpa [bA] using this
            .rw[vE (by omega),vE (by omega),yi,wy,er (by omega)];have:=(sw (j-es.length*shx.size) (by omega)).step s
             simpa [bA] using this)
           (fun j hj=>q2 j (by rw[<- pn];exact hj)) q3 ⟨by rw[pn];exact q1,rfl,_,si,by rw[S8,o4]⟩
          rw[pn] at this;rw[Lu];exact this
         .have hr:=run_append_grow (P:=P) w t ty e' i zv ht hi np ax es.length cx olds ym holds ay ys.length cy news sm sn (by omega) (by omega) (growslice_fits (by omega) su);obtain ⟨_,_,p3⟩:=SK hm hB hd (e:=e') eV ra yh Mp tN sw (grownCap_ge w (es.length+ys.length) cx e') (grownCap_le_maxLen w _ cx e' rZ) (rest:=Builtin.zeroCells zv.cells (grownCap w (es.length+ys.length) cx e'-(es.length+ys.length))) (by rw[size_zeroCells,sx,hs]);obtain ⟨g',s,eR,hV⟩:=p3 nm es.length aQ (by omega);exact ⟨_,_,g',hr,s,eR,hV⟩
        .cases h
       .cases h
      .cases h
    .cases h
   .cases h
 .exact qde hm hB ht he hx hy h
theorem qfZ{sh:Sh}(es:List AV):∀(vs:List Value) (i:Nat) (c:Array Value) (L:List (Nat×Value)),L=(vs.zipIdx i).map (fun x=>(x.2,x.1))->es.length=vs.length->(∀k (h:k<es.length) (h':k<vs.length),V w g es[k] vs[k])->(∀e∈es,eP sh e=true)->(i+es.length)*sh.size<=c.size ->
  ∃c',Instr.fill (fun i=>some (i*sh.size,sh.size)) c L=some c'/\c'.size=c.size/\(∀j,j<es.length*sh.size->V w g ((flat es).getD j .any) (c'.getD (i*sh.size+j) undef))/\∀j,j<i*sh.size->c'.getD j undef=c.getD j undef:=by
 induction es with
 | nil=>
  intro vs i c L hL hl _ _ _;obtain rfl:vs=[]:=vD (by simpa using hl.symm);subst hL;exact ⟨c,rfl,rfl,by simp,fun _ _=>rfl⟩
 | cons e es ih=>
  intro vs i c L hL hl hv hs gU
  match vs,hl with
  | v::vs,hl=>
  subst hL;have hV:V w g e v:=hv 0 (by simp) (by simp);have TZ:=hs e (by simp);obtain ⟨v1,v2,_⟩:=FT hV TZ;have De:=sS TZ;simp only[aR] at gU;have qhd:(i+(es.length+1))*sh.size=i*sh.size+sh.size+es.length*sh.size:=by rw[fI,mC];omega
  obtain ⟨f1,f2⟩:=Ld (i*sh.size) v.cells.toList 0 c (by simp;omega);simp only[jo,Array.length_toList] at f2
  have hz:(v.cells.zipIdx.foldl (fun cs (c,j)=>cs.setIfInBounds (i*sh.size+j) c) c)=(v.cells.toList.zipIdx.foldl (fun cs (c,j)=>cs.setIfInBounds (i*sh.size+j) c) c):=by
   rw[<- Array.foldl_toList,Array.toList_zipIdx]
  have Tt:(i+1)*sh.size=i*sh.size+sh.size:=mC _ _
  obtain ⟨c',g1,g2,g3,g4⟩:=ih vs (i+1) (v.cells.toList.zipIdx.foldl (fun cs (c,j)=>cs.setIfInBounds (i*sh.size+j) c) c) _ rfl (by simpa using hl)
   (fun k h h'=>hv (k+1) (by simpa using h) (by simpa using h')) (fun x hx=>hs x (by simp[hx])) (by rw[f1,fI,Tt];omega)
  refine ⟨c',?_,by rw[g2,f1],fun j hj=>?_,fun j hj=>?_⟩
  .simp only[List.zipIdx_cons,qn,Instr.fill];rw[ag (by simp;omega),hz];exact g1
  .simp only[aR,mC] at hj;simp only[BV,bA,pL,De]
   by_cases h1:j<sh.size
   .rw[aj h1,g4 _ (by omega),f2,aj (by omega)];have:=v2 j h1;simpa [bA,fV] using this
   .rw[ag h1];have:=g3 (j-sh.size) (by omega);rw[show (i+1)*sh.size+(j-sh.size)=i*sh.size+j by omega] at this;simpa [bA] using this
  .rw[g4 j (by omega),f2,ag (by omega)]
theorem RF(hm:MemR B w g m)(hB:B<=w.heap.size){t e n:Nat}{sh:Sh}{ps:Array (Nat×Operand)}{ρ:Operand->AV}{ρ':Operand->Value}(hρ:∀x,V w g (ρ x) (ρ' x))(ht:P.underlying t=some (.slice e))(he:mL P e sh=true)(pk:ps.toList.map (·.1)=List.range n)
  (hn:n*sh.size<=16777216) (dS:(ps.toList.map fun p=>ρ p.2).all (fun v=>eP sh (lV v))=true):∃c:Array Value,(Instr.buildSlice t n (ps.map fun (i,x)=>(i,ρ' x))).run P w=.ok (.slice (some ⟨w.heap.size,0,none⟩) n n) (w.alloc (.cells c e))/\c.size=n*sh.size/\(ps.toList.map fun p=>ρ p.2).length=n/\((ps.toList.map fun p=>ρ p.2).map lV).length=n/\(∀x∈(ps.toList.map fun p=>ρ p.2).map lV,eP sh x=true)/\∀j,j<n*sh.size->V w g ((flat ((ps.toList.map fun p=>ρ p.2).map lV)).getD j .any) (c.getD j undef):=by
 obtain ⟨i,zv,hi,hs,lO,np,sx,yo⟩:=rX he
 .have hlen:ps.toList.length=n:=by have:=fE List.length pk;simpa using this
  have CK:∀p∈ps.toList,eP sh (lV (ρ p.2))=true:=fun p hp=>by
   have:=iX.1 dS (ρ p.2) (ks.2 ⟨p,hp,rfl⟩);simpa using this
  generalize iZ:(ps.toList.map fun p=>ρ p.2).map lV=es;have se:es.length=n:=by rw[<- iZ];simpa using hlen
  have Au:∀x∈es,eP sh x=true:=fun x hx=>by
   rw[<- iZ] at hx;obtain ⟨y,hy,rfl⟩:=ks.1 hx;obtain ⟨p,hp,rfl⟩:=ks.1 hy;exact CK p hp
  let base:Array Value:=(Array.range (n*i.size)).map ((if n*i.size=0 then #[] else zv.cells)[· % (if n*i.size=0 then #[] else zv.cells:Array Value).size]!)
  obtain ⟨c',g1,g2,g3,g4⟩:=qfZ (w:=w) (g:=g) (sh:=sh) es (ps.toList.map fun p=>ρ' p.2) 0 base ((ps.map fun (i,x)=>(i,ρ' x)).toList)
   (by
    apply List.ext_getElem
    .simp
    .intro k h1 h2;have hk:k<ps.toList.length:=by simpa using h1
     have:(ps.toList.map (·.1))[k]'(by simpa using hk)=k:=by simp[pk]
     simp at this
     simp[this])
   (by simp[se,<- hlen]) (fun k h1 h2=>by
    have hk:k<ps.toList.length:=by simpa using h2
    have:es[k]=lV (ρ (ps.toList[k]).2):=by simp[<- iZ]
    rw[this];simp only[zN]
    exact qcz (hρ _)) (fun x hx=>Au x hx) (by simp only[base,Array.size_map,Array.size_range,aL,se,hs];exact aW _)
  have gd:c'.size=n*sh.size:=by rw[g2];simp[base,hs]
  have jY:(Instr.buildSlice t n (ps.map fun (i,x)=>(i,ρ' x))).run P w=.ok (.slice (some ⟨w.heap.size,0,none⟩) n n) (w.alloc (.cells c' e)):=by
   have AD:¬ (2^24<n*i.size):=by rw[hs];omega
   rw[<- hs] at g1
   by_cases h0:n*i.size=0
   .have hb:base=(Array.range (n*i.size)).map ((#[]:Array Value)[· % (#[]:Array Value).size]!):=by simp[base,h0]
    rw[hb] at g1;simp only[Instr.buildSlice,Sem.run_bind,run_underlying ht,Result.andThen_ok,mW hi,Sem.run_ite,ag AD,Sem.run_pure,aj h0,g1]
    rfl
   .have hb:base=(Array.range (n*i.size)).map (zv.cells[· % zv.cells.size]!):=by simp[base,h0]
    rw[hb] at g1;have hz:(zeroValue e).run P w=.ok zv w:=by simp[zeroValue,typeInfo,hi,np]
    simp only[Instr.buildSlice,Sem.run_bind,run_underlying ht,Result.andThen_ok,mW hi,Sem.run_ite,ag AD,Sem.run_pure,ag h0,hz,g1]
    rfl
  exact ⟨c',jY,gd,by simpa using hlen,se,Au,fun j hj=>by
   have:=g3 j (by rw[se];exact hj)
   simpa using this⟩
theorem qe0(hm:MemR B w g m)(hB:B<=w.heap.size){t e n:Nat}{sh:Sh}{ps:Array (Nat×Operand)}{ρ:Operand->AV}{ρ':Operand->Value}(hρ:∀x,V w g (ρ x) (ρ' x)){v:AV}(ht:P.underlying t=some (.slice e))(he:mL P e sh=true)(pk:ps.toList.map (·.1)=List.range n)
  (hn:n*sh.size<=16777216) (h:iq sh (ps.toList.map fun p=>ρ p.2)=some v):nF P B w g (Instr.buildSlice t n (ps.map fun (i,x)=>(i,ρ' x))) v m:=by
 obtain ⟨i,zv,hi,hs,lO,np,sx,yo⟩:=rX he
 have mQ:n<=maxLen:=by
  have h1:n<=n*sh.size:=Nat.le_mul_of_pos_right _ (by omega);simp only[maxLen];omega
 unfold iq at h
 split at h
 .rename_i dS;simp only[bp] at h;subst h
  obtain ⟨c,jY,gd,uP,se,Au,hv⟩:=RF hm hB hρ ht he pk hn (iX.2 fun x hx=>by
   have:=iX.1 dS x hx;simp only[dY] at this
   exact this.1)
  have kN:∀x∈(ps.toList.map fun p=>ρ p.2).map lV,eP sh x=true/\pl x=true:=fun x hx=>by
   obtain ⟨y,hy,rfl⟩:=ks.1 hx;have:=iX.1 dS y hy;simpa only[dY] using this
  generalize (ps.toList.map fun p=>ρ p.2).map lV=es at *;obtain ⟨s,eR⟩:=hm.alloc_imm hB (.cells c e)
  have hV:=FV (w:=w.alloc (.cells c e)) (g:=g) (sh:=sh) (o:=.full) (es:=es) (cap:=n) (heap_alloc_new w _) (by omega) mQ kN (by rw[se,gd];exact aW _) (fun j hj=>by
    rw[se] at hj
    exact (hv j hj).step s) (fun j _ h=>rP _ (hm.wrLt _ _ h)) (fun h=>rP _ (hm.boxLt _ h)) (show n=es.length from se.symm)
  rw[se] at hV;exact ⟨_,_,g,jY,s,eR,hV⟩
 .split at h
  .rename_i dS;simp only[bp] at h;subst h;obtain ⟨c,jY,gd,uP,se,Au,hv⟩:=RF hm hB hρ ht he pk hn dS;obtain ⟨s,eR⟩:=hm.alloc_imm hB (.cells c e);rw[uP];generalize (ps.toList.map fun p=>ρ p.2).map lV=es at *;have jW:=rY Au;rw[se] at jW;refine ⟨_,_,g,jY,s,eR,.vec n sh (flat es) ⟨w.heap.size,0,none⟩ n (fun j=>c.getD j undef) (.inr rfl) (aW _) mQ jW (K8 Au) (fun j hj=>⟨?_,fun h=>rP _ (hm.wrLt _ _ h)⟩) (fun j hj=>(hv j (by omega)).step s)⟩;simp only[aL];rw[cell_of_row _ _ j c e (0,0) (heap_alloc_new w _)];simp[Array.getD,show j<c.size by omega]
  .cases h
theorem qhM(hm:MemR B w g m)(hB:B<=w.heap.size){d:Option Nat}{t e:Nat}{sh:Sh}{z l c v:AV}{m':ae}{l' c':Value}(ht:P.underlying t=some (.slice e))(bO:iz P e=some sh)(he:mL P e sh=true)(hz:rG P e=some z)
  (hl:V w g l l') (hc:V w g c c') (h:yI d sh z (pd P e) m l c=some (v,m')):nF P B w g (Instr.makeSlice t l' c') v m':=by
 obtain ⟨i,zv,hi,hs,lO,np,sx,yo⟩:=rX he;obtain ⟨i2,zv2,uM,Ms,rfl⟩:=El hz;obtain rfl:i=i2:=by simpa [hi] using uM
 obtain rfl:zv=zv2:=by simpa [np] using Ms
 have hb:i.bytes<=pd P e:=by simp[pd,hi];omega
 have Mr:zv.cells.size=sh.size:=by omega
 unfold yI at h
 split at h
 .rename_i kl l kc c;cases hl;cases hc
  split at h
  .rename_i mN;obtain ⟨⟨h0,LQ,gJ,rZ⟩,gX,kN⟩:=mN;subst LQ;simp only[bp,dT] at h;obtain ⟨rfl,rfl⟩:=h;have gJ:l*(i.bytes:Int)<=281474976710656:=Int.le_trans (Int.mul_le_mul_of_nonneg_left (by omega) (by omega)) gJ;have hr:=run_make (P:=P) w t e i zv ht hi np kl kc l l h0 (Int.le_refl _) (by rw[Int.mul_comm];exact gJ) rZ
   have Ha:(gE zv).cells=[gE zv]:=by
    have h1:gE zv=o8 zv:=by
     unfold gE
     split
     .exact absurd rfl (yo rfl _)
     .rfl
    rw[h1];unfold o8;split<;>rfl
   obtain ⟨z1,z2⟩:=Xy (sh:=none) (n:=l.toNat) Mr (fun _=>Ha) w g;obtain ⟨s,eR⟩:=hm.alloc_imm hB (.cells (madeCells zv.cells (l.toNat*i.size)) e);have eM:i.size=1:=hs
   have hV:=FV (w:=w.alloc (.cells (madeCells zv.cells (l.toNat*i.size)) e)) (g:=g) (sh:=none) (o:=.full) (es:=List.replicate l.toNat (gE zv)) (cap:=l.toNat) (heap_alloc_new w _) (by rw[rM];exact aW _) (by simp only[maxLen];omega)
    (fun x hx=>by
     obtain ⟨_,rfl⟩:=List.mem_replicate.1 hx
     exact ⟨gX,kN⟩) (by rw[rM,size_madeCells,hs];exact aW _) (fun j hj=>by
     have jW:flat (List.replicate l.toNat (gE zv))=ud none (gE zv) l.toNat:=by
      unfold flat ud
      induction l.toNat with
      | zero=>rfl
      | succ n ih=>rw[zP,BV,ih,Ha];rfl
     rw[jW];rw[rM] at hj;have:=(z2 j hj).step s;rw[Uz _ _ _ (by omega) (by rw[hs];exact hj)]
     exact this) (fun j _ h=>rP _ (hm.wrLt _ _ h)) (fun h=>rP _ (hm.boxLt _ h)) (show l.toNat=(List.replicate l.toNat (gE zv)).length from List.length_replicate.symm)
   rw[rM] at hV;exact ⟨_,_,g,hr,s,eR,hV⟩
  .cases h
 .cases h
end
end Go.Ab
namespace Go.Ab
open Go.RowKit
mutual
theorem Vt:∀x,pl x=true->cl x=true
 | .int ..,_ | .bool _,_ | .str _,_ | .nilp,_ | .nilf,_ | .nile,_ | .nilm,_=>rfl
 | .lst _ _ o _,h=>by cases o<;>first|rfl|(simp[pl] at h)
 | .agg cs,h=>by simp only[pl] at h;simp only[cl];exact Vr cs h
 | .any,h | .arr ..,h | .ptr ..,h | .vptr _,h | .tup _,h | .fn ..,h | .vec ..,h=>by simp[pl] at h
theorem Vr:∀cs,pC cs=true->uA cs=true
 | [],_=>rfl
 | c::cs,h=>by
  simp only[pC,dY] at h;simp only[uA,dY];exact ⟨Vt c h.1,Vr cs h.2⟩
end
mutual
theorem Vu:∀x,pl x=true->gV x=true
 | .int ..,_ | .bool _,_ | .str _,_ | .nilp,_ | .nilf,_ | .nile,_ | .nilm,_ | .lst ..,_=>rfl
 | .agg cs,h=>by simp only[pl] at h;simp only[gV];exact Nj cs h
 | .any,h | .arr ..,h | .ptr ..,h | .vptr _,h | .tup _,h | .fn ..,h | .vec ..,h=>by simp[pl] at h
theorem Nj:∀cs,pC cs=true->mh cs=true
 | [],_=>rfl
 | c::cs,h=>by
  simp only[pC,dY] at h;simp only[mh,dY];exact ⟨Vu c h.1,Nj cs h.2⟩
end
theorem Ni:∀{cs:List AV},pC cs=true->∀x∈cs,pl x=true
 | [],_,x,hx=>by simp at hx
 | c::cs,h,x,hx=>by
  simp only[pC,dY] at h
  rcases dI.1 hx with rfl|hx
  .exact h.1
  .exact Ni h.2 x hx
theorem Co:∀{cs:List AV},uA cs=true->∀x∈cs,cl x=true
 | [],_,x,hx=>by simp at hx
 | c::cs,h,x,hx=>by
  simp only[uA,dY] at h
  rcases dI.1 hx with rfl|hx
  .exact h.1
  .exact Co h.2 x hx
theorem RK:∀{cs:List AV},(∀x∈cs,cl x=true)->uA cs=true
 | [],_=>rfl
 | c::cs,h=>by
  simp only[uA,dY];exact ⟨h c (by simp),RK fun x hx=>h x (by simp[hx])⟩
theorem yO:∀{cs:List AV},mh cs=true->∀x∈cs,gV x=true
 | [],_,x,hx=>by simp at hx
 | c::cs,h,x,hx=>by
  simp only[mh,dY] at h
  rcases dI.1 hx with rfl|hx
  .exact h.1
  .exact yO h.2 x hx
theorem Vs{x:AV}(h:pl x=true):∀c∈x.cells,pl c=true:=by
 intro c hc
 cases x<;>first|(simp[AV.cells] at hc;subst hc;exact h)|(simp[pl] at h;done)|skip
 rename_i cs;simp only[pl] at h;exact Ni h c hc
theorem oI{cs:List AV}{j:Nat}(h:j<cs.length):cs.getD j .any∈cs:=by
 rw[bA,jR h];exact fH h
section
variable [WInv] {w:World} {g g2:G}
theorem Q6{x:AV}{v:Value}{nv:Bool}(h:V w g x v)(hc:cl x=true)(hn:nv=true->gV x=true)(ri:∀b off,g2.wr b off->g.wr b off\/g.box b/\nv=true)(ff:∀b,g2.box b->g.box b):V w g2 x v:=by
 induction h with
 | any=>exact .any _
 | int=>exact .int _ _
 | bool=>exact .bool _
 | str=>exact .str _
 | nils sh o ho=>exact .nils sh o ho
 | lst sh o es a cap us hs tA hm bO cf hv ho ih=>
  refine .lst sh o es a cap us hs tA hm bO (fun j hj=>?_) (fun j hj=>ih j hj ?_ fun _=>?_) ?_
  .obtain ⟨h1,h2,h3⟩:=cf j hj;exact ⟨h1,fun h=>(ri _ _ h).elim h2 fun h=>h3 h.1,fun h=>h3 (ff _ h)⟩
  .obtain ⟨e,he,hx⟩:=List.mem_flatMap.1 (oI hj);exact Vt _ (Vs (bO e he).2 _ hx)
  .obtain ⟨e,he,hx⟩:=List.mem_flatMap.1 (oI hj);exact Vu _ (Vs (bO e he).2 _ hx)
  .cases o with
   | no=>trivial
   | full=>exact ho
   | tok=>simp[cl] at hc
 | arr=>simp[cl] at hc
 | ptr=>simp[cl] at hc
 | mref=>simp[cl] at hc
 | vec=>simp[cl] at hc
 | vptr cs b off us cf hv ih=>
  simp only[cl] at hc
  have G4:nv=false:=by
   cases nv with
   | false=>rfl
   | true=>have:=hn rfl;simp[gV] at this
  subst G4;refine .vptr cs b off us (fun j hj=>?_) (fun j hj=>ih j hj (Co hc _ (oI hj)) (fun h=>by cases h));obtain ⟨h1,h2⟩:=cf j hj;exact ⟨h1,fun h=>(ri _ _ h).elim h2 fun h=>by cases h.2⟩
 | nilp=>exact .nilp
 | nilf=>exact .nilf
 | nile=>exact .nile
 | nilm=>exact .nilm
 | agg cs vs hl hv ih=>
  simp only[cl] at hc;exact .agg cs vs hl fun j hj=>ih j hj (Co hc _ (oI hj)) fun h=>yO (by simpa [gV] using hn h) _ (oI hj)
 | tup cs vs hl hv ih=>
  simp only[cl] at hc;exact .tup cs vs hl fun j hj=>ih j hj (Co hc _ (oI hj)) fun h=>yO (by simpa [gV] using hn h) _ (oI hj)
 | fn f cs vs hl hv ih=>
  simp only[cl] at hc;exact .fn f cs vs hl fun j hj=>ih j hj (Co hc _ (oI hj)) fun h=>yO (by simpa [gV] using hn h) _ (oI hj)
theorem FU{x:AV}{v:Value}(h:V w g x v)(hc:cl x=true)(ri:∀b off,g2.wr b off->g.wr b off)(ff:∀b,g2.box b->g.box b):V w g2 x v:=
 Q6 (nv:=false) h hc (fun h=>by cases h) (fun b off h=>.inl (ri b off h)) ff
theorem Dy(f:AV->Option (AV×List Nat)):∀(cs rs:List AV) (l:List Nat),bJ f cs=some (rs,l)->rs.length=cs.length/\(∀j,j<cs.length->∃lj,f (cs.getD j .any)=some (rs.getD j .any,lj)/\∀nm∈lj,nm∈l)/\∀nm∈l,∃j lj,j<cs.length/\f (cs.getD j .any)=some (rs.getD j .any,lj)/\nm∈lj
 | [],rs,l,h=>by simp[bJ] at h;obtain ⟨rfl,rfl⟩:=h;simp
 | c::cs,rs,l,h=>by
  simp only[bJ,aS,gm,dT] at h;obtain ⟨⟨r,l1⟩,h1,⟨rs',l2⟩,h2,rfl,rfl⟩:=h;obtain ⟨k1,k2,k3⟩:=Dy f cs rs' l2 h2
  refine ⟨by simp[k1],fun j hj=>?_,fun nm G3=>?_⟩
  .cases j with
   | zero=>exact ⟨l1,by simpa using h1,fun nm hn=>kT.2 (.inl hn)⟩
   | succ j=>
    obtain ⟨lj,a1,a2⟩:=k2 j (by simpa using hj);exact ⟨lj,by simpa using a1,fun nm hn=>kT.2 (.inr (a2 nm hn))⟩
  .rcases kT.1 G3 with hn|hn
   .exact ⟨0,l1,by simp,by simpa using h1,hn⟩
   .obtain ⟨j,lj,a1,a2,a3⟩:=k3 nm hn;exact ⟨j+1,lj,by simpa using a1,by simpa using a2,a3⟩
theorem SI(n:Nat)(hn:0<n):∀(k:Nat) (cs:List AV),cs.length=k*n->(n5 n k cs).length=k/\(n5 n k cs).flatten=cs/\∀x∈n5 n k cs,x.length=n/\∀c∈x,c∈cs
 | 0,cs,h=>by
  have:cs=[]:=vD (by simpa using h);subst this;simp[n5]
 | k+1,cs,h=>by
  rw[mC] at h;obtain ⟨h1,h2,h3⟩:=SI n hn k (cs.drop n) (by simp;omega);refine ⟨by simp[n5,h1],by simp[n5,h2],fun x hx=>?_⟩;simp only[n5,dI] at hx
  rcases hx with rfl|hx
  .exact ⟨by simp;omega,fun c hc=>um hc⟩
  .exact ⟨(h3 x hx).1,fun c hc=>List.mem_of_mem_drop ((h3 x hx).2 c hc)⟩
theorem qgh{sh:Sh}{k:Nat}{cs:List AV}(hl:cs.length=k*sh.size)(lO:0<sh.size)(gX:∀c∈cs,fZ c=true)(kN:∀c∈cs,pl c=true) :
  (n7 sh k cs).length=k/\flat (n7 sh k cs)=cs/\∀e∈n7 sh k cs,eP sh e=true/\pl e=true:=by
 cases sh with
 | none=>
  simp only[Sh.size,qo] at hl;have ht:cs.take k=cs:=nY (by omega);simp only[n7,ht];refine ⟨hl,?_,fun e he=>⟨gX e he,kN e he⟩⟩
  have ph:∀l:List AV,(∀c∈l,fZ c=true)->flat l=l:=by
   intro l
   induction l with
   | nil=>intro _;rfl
   | cons c l ih=>
    intro h
    have hc:c.cells=[c]:=by
     have:=h c (by simp)
     cases c<;>first|rfl|(simp[fZ] at this)
    show c.cells++flat l=c::l;rw[hc,ih fun x hx=>h x (by simp[hx])];rfl
  exact ph cs gX
 | some n=>
  simp only[Sh.size] at hl lO;obtain ⟨h1,h2,h3⟩:=SI n lO k cs hl
  have qgV:∀l:List AV,(∀c∈l,pl c=true)->pC l=true:=by
   intro l
   induction l with
   | nil=>intro _;rfl
   | cons c l ih=>intro h;simp only[pC,dY];exact ⟨h c (by simp),ih fun x hx=>h x (by simp[hx])⟩
  refine ⟨by simp[n7,h1],?_,fun e he=>?_⟩
  .have jW:∀L:List (List AV),flat (L.map .agg)=L.flatten:=by
    intro L
    induction L with
    | nil=>rfl
    | cons x L ih=>
     show (AV.agg x).cells++flat (L.map .agg)=x++L.flatten;rw[ih];rfl
   show flat ((n5 n k cs).map .agg)=cs;rw[jW,h2]
  .obtain ⟨x,hx,rfl⟩:=ks.1 he;obtain ⟨a1,a2⟩:=h3 x hx
   refine ⟨?_,?_⟩
   .simp only[eP,dY,beq_iff_eq,iX];exact ⟨a1,fun c hc=>gX c (a2 c hc)⟩
   .simp only[pl];exact qgV x fun c hc=>kN c (a2 c hc)
variable {B:Nat} {m:ae}
theorem xV(hm:MemR B w g m):∀(k:Nat) (x x':AV) (l:List Nat) (v:Value),V w g x v->frz m k x=some (x',l) ->
  (∀nm∈l,∃cs,m.get nm=some (.obj false cs))/\cl x'=true /\
  ∀g2:G,(∀b off,g2.wr b off->g.wr b off)->(∀b,g2.box b->g.box b)->(∀nm∈l,∀b,g.loc nm=some b->∀off,¬ g2.wr b off)->(gV x'=true\/∀nm cs b,m.get nm=some (.obj true cs)->g.loc nm=some b->∀off,¬ g2.wr b off)->V w g2 x' v:=by
 intro k
 induction k with
 | zero=>intro x x' l v _ h;simp[frz] at h
 | succ k ih=>
  intro x x' l v hV h
  have gK:∀(cs rs:List AV) (l:List Nat) (f:Nat->Value),(∀j,j<cs.length->V w g (cs.getD j .any) (f j))->bJ (frz m k) cs=some (rs,l) ->
    (∀nm∈l,∃cs,m.get nm=some (.obj false cs))/\uA rs=true/\rs.length=cs.length /\
    ∀g2:G,(∀b off,g2.wr b off->g.wr b off)->(∀b,g2.box b->g.box b)->(∀nm∈l,∀b,g.loc nm=some b->∀off,¬ g2.wr b off)->(mh rs=true\/∀nm cs b,m.get nm=some (.obj true cs)->g.loc nm=some b->∀off,¬ g2.wr b off)->∀j,j<rs.length->V w g2 (rs.getD j .any) (f j):=by
   intro cs rs l f hv qw;obtain ⟨k1,k2,k3⟩:=Dy _ _ _ _ qw
   refine ⟨fun nm hn=>?_,RK fun x hx=>?_,k1,fun g2 c1 c2 c3 c4 j hj=>?_⟩
   .obtain ⟨j,lj,a1,a2,a3⟩:=k3 nm hn;exact (ih _ _ _ _ (hv j a1) a2).1 nm a3
   .obtain ⟨j,hj,rfl⟩:=List.mem_iff_getElem.1 hx;obtain ⟨lj,a1,_⟩:=k2 j (by omega);have:=(ih _ _ _ _ (hv j (by omega)) a1).2.1;simpa [bA,hj] using this
   .obtain ⟨lj,a1,a2⟩:=k2 j (by omega);refine (ih _ _ _ _ (hv j (by omega)) a1).2.2 g2 c1 c2 (fun nm hn=>c3 nm (a2 nm hn)) (c4.imp (fun h=>?_) id);exact yO h _ (oI hj)
  cases hV with
  | any=>simp[frz] at h;obtain ⟨rfl,rfl⟩:=h;exact ⟨by simp,rfl,fun _ _ _ _ _=>.any _⟩
  | int=>simp[frz] at h;obtain ⟨rfl,rfl⟩:=h;exact ⟨by simp,rfl,fun _ _ _ _ _=>.int _ _⟩
  | bool=>simp[frz] at h;obtain ⟨rfl,rfl⟩:=h;exact ⟨by simp,rfl,fun _ _ _ _ _=>.bool _⟩
  | str=>simp[frz] at h;obtain ⟨rfl,rfl⟩:=h;exact ⟨by simp,rfl,fun _ _ _ _ _=>.str _⟩
  | nilp=>simp[frz] at h;obtain ⟨rfl,rfl⟩:=h;exact ⟨by simp,rfl,fun _ _ _ _ _=>.nilp⟩
  | nilf=>simp[frz] at h;obtain ⟨rfl,rfl⟩:=h;exact ⟨by simp,rfl,fun _ _ _ _ _=>.nilf⟩
  | nile=>simp[frz] at h;obtain ⟨rfl,rfl⟩:=h;exact ⟨by simp,rfl,fun _ _ _ _ _=>.nile⟩
  | nilm=>simp[frz] at h;obtain ⟨rfl,rfl⟩:=h;exact ⟨by simp,rfl,fun _ _ _ _ _=>.nilm⟩
  | vec=>simp[frz] at h
  | mref=>simp[frz] at h;obtain ⟨rfl,rfl⟩:=h;exact ⟨by simp,rfl,fun _ _ _ _ _=>.any _⟩
  | nils sh o ho=>
   rcases ho with rfl|rfl<;>(simp[frz] at h;obtain ⟨rfl,rfl⟩:=h;exact ⟨by simp,rfl,fun _ _ _ _ _=>.nils _ _ (by simp)⟩)
  | lst sh o es a cap us hs hc mb bO cf hv ho=>
   have uT:V w g (.lst sh false .no es) (.slice (some a) es.length cap):=.lst sh .no es a cap us hs hc mb bO cf hv trivial;have SV:V w g (.lst sh false o es) (.slice (some a) es.length cap):=.lst sh o es a cap us hs hc mb bO cf hv ho
   cases o with
   | no=>simp[frz] at h;obtain ⟨rfl,rfl⟩:=h;exact ⟨by simp,rfl,fun g2 c1 c2 _ _=>FU SV rfl c1 c2⟩
   | full=>simp[frz] at h;obtain ⟨rfl,rfl⟩:=h;exact ⟨by simp,rfl,fun g2 c1 c2 _ _=>FU SV rfl c1 c2⟩
   | tok=>simp[frz] at h;obtain ⟨rfl,rfl⟩:=h;exact ⟨by simp,rfl,fun g2 c1 c2 _ _=>FU uT rfl c1 c2⟩
  | arr nm off n sh a cap hs hc mb hl=>
   simp only[frz,aS] at h;obtain ⟨⟨bx,cs⟩,pW,h⟩:=h;simp only at h
   split at h
   .rename_i mN;simp only[dY,rH,vU] at mN;obtain ⟨rfl,hle⟩:=mN;simp only[aS] at h;obtain ⟨⟨rs,l1⟩,qw,h⟩:=h;simp only at h
    split at h
    .rename_i bI;simp only[dY,iX] at bI;obtain ⟨gX,kN⟩:=bI;simp only[bp,dT] at h;obtain ⟨rfl,rfl⟩:=h;have aQ:=obj?_get pW;obtain ⟨b,c,e,o1,o2,o3,o4,o5,o6,o7⟩:=hm.obj nm false cs aQ
     obtain ⟨p1,p2,p3,p4⟩:=gK ((cs.drop off).take (n*sh.size)) rs l1 (fun j=>c.getD (off+j) undef) (fun j hj=>by
      simp only[oA,rL] at hj;have:=o5 (off+j) (by omega)
      simpa [bA,qJ,qI,show j<n*sh.size by omega] using this) qw
     have yA:rs.length=n*sh.size:=by rw[p3];simp;omega
     refine ⟨fun x hx=>?_,rfl,fun g2 c1 c2 c3 c4=>?_⟩
     .rcases dI.1 hx with rfl|hx
      .exact ⟨cs,aQ⟩
      .exact p1 x hx
     .have hrs:∀c∈rs,pl c=true:=Ni kN
      by_cases jC:n=0
      .subst jC;have Tm:n7 sh 0 rs=[]:=by cases sh<;>simp[n7,n5]
       rw[Tm];exact .lst sh .no [] a cap (fun _=>undef) hs (jH _) mb (by simp) (by simp) (by simp) trivial
      .obtain ⟨jB,ha⟩:=hl.resolve_left jC;obtain rfl:a.block=b:=by simpa [jB] using o1
       by_cases gU:sh.size=0
       ·
        cases sh with
        | none=>simp[Sh.size] at gU
        | some s=>
         simp only[Sh.size] at gU;subst gU;have so:rs=[]:=vD (by rw[yA];simp[Sh.size]);subst so
         have hg:∀n,n5 0 n ([]:List AV)=List.replicate n []:=by
          intro n
          induction n with
          | zero=>rfl
          | succ n ih=>simp[n5,ih,zP]
         have iZ:n7 (some 0) n []=List.replicate n (.agg []):=by simp[n7,hg]
         have hlen:n=(n7 (some 0) n []).length:=by rw[iZ];simp
         have jW:flat (n7 (some 0) n [])=[]:=by
          rw[iZ]
          have:∀n,flat (List.replicate n (.agg []))=[]:=by
           intro n
           induction n with
           | zero=>rfl
           | succ n ih=>
            show (AV.agg []).cells++flat (List.replicate n (.agg []))=[];rw[ih];rfl
          exact this n
         have hV:=V.lst (w:=w) (g:=g2) (some 0) .no (n7 (some 0) n []) a cap (fun _=>undef) hs (by omega) mb (fun e he=>by
          rw[iZ] at he;obtain rfl:=List.eq_of_mem_replicate he
          exact ⟨rfl,rfl⟩) (by rw[jW];simp) (by rw[jW];simp) trivial
         rw[<- hlen] at hV;exact hV
       .obtain ⟨q1,q2,q3⟩:=qgh yA (by omega) gX hrs
        have hV:=V.lst (w:=w) (g:=g2) sh .no (n7 sh n rs) a cap (fun j=>c.getD (off+j) undef) hs (by omega) mb q3 (fun j hj=>by
          rw[q2,yA] at hj;have qgn:a.off=off:=by rw[ha.1]
          refine ⟨?_,c3 nm (by simp) _ jB _,fun hb=>?_⟩
          .rw[qgn,cell_of_row w _ _ c e (0,0) o3];simp[Array.getD,show off+j<c.size by omega]
          .have:=o7.1 (c2 _ hb)
           cases this) (fun j hj=>by
          rw[q2] at hj ⊢;refine p4 g2 c1 c2 (fun x hx=>c3 x (by simp[hx])) (.inl ?_) j hj
          exact Nj rs kN) trivial
        rw[q1] at hV;exact hV
    .cases h
   .cases h
  | ptr nm off b hl=>
   simp only[frz,aS] at h;obtain ⟨⟨bx,cs⟩,pW,h⟩:=h;simp only at h
   split at h
   .rename_i ff;simp only[gm,dT] at h;obtain ⟨⟨rs,l1⟩,qw,rfl,rfl⟩:=h;have aQ:=obj?_get pW;obtain ⟨b',c,e,o1,o2,o3,o4,o5,o6,o7⟩:=hm.obj nm bx cs aQ;obtain rfl:b=b':=by simpa [hl] using o1
    obtain ⟨p1,p2,p3,p4⟩:=gK (cs.drop off) rs l1 (fun j=>c.getD (off+j) undef) (fun j hj=>by
     simp only[rL] at hj;have:=o5 (off+j) (by omega)
     simpa [bA,qI] using this) qw
    refine ⟨p1,by simpa [cl] using p2,fun g2 c1 c2 c3 c4=>?_⟩;have c4':=c4.resolve_left (by simp[gV]);refine .vptr rs b off (fun j=>c.getD (off+j) undef) (fun j hj=>?_) (p4 g2 c1 c2 c3 (.inr c4'));rw[p3] at hj;simp only[rL] at hj;refine ⟨?_,c4' nm cs _ (ff▸aQ) hl _⟩;rw[cell_of_row w _ _ c e (0,0) o3];simp[Array.getD,show off+j<c.size by omega]
   .cases h
  | vptr cs b off us cf hv=>
   simp only[frz,gm,dT] at h;obtain ⟨⟨rs,l1⟩,qw,rfl,rfl⟩:=h;obtain ⟨p1,p2,p3,p4⟩:=gK cs rs l1 us hv qw;refine ⟨p1,by simpa [cl] using p2,fun g2 c1 c2 c3 c4=>?_⟩;refine .vptr rs b off us (fun j hj=>?_) (p4 g2 c1 c2 c3 (.inr (c4.resolve_left (by simp[gV]))));rw[p3] at hj;exact ⟨(cf j hj).1,fun h=>(cf j hj).2 (c1 _ _ h)⟩
  | agg cs vs hl hv=>
   simp only[frz,gm,dT] at h;obtain ⟨⟨rs,l1⟩,qw,rfl,rfl⟩:=h;obtain ⟨p1,p2,p3,p4⟩:=gK cs rs l1 _ hv qw;exact ⟨p1,by simpa [cl] using p2,fun g2 c1 c2 c3 c4=>.agg _ _ (p3.trans hl) (p4 g2 c1 c2 c3 (c4.imp (fun h=>by simpa [gV] using h) id))⟩
  | tup cs vs hl hv=>
   simp only[frz,gm,dT] at h;obtain ⟨⟨rs,l1⟩,qw,rfl,rfl⟩:=h;obtain ⟨p1,p2,p3,p4⟩:=gK cs rs l1 _ hv qw;exact ⟨p1,by simpa [cl] using p2,fun g2 c1 c2 c3 c4=>.tup _ _ (p3.trans hl) (p4 g2 c1 c2 c3 (c4.imp (fun h=>by simpa [gV] using h) id))⟩
  | fn f cs vs hl hv=>
   simp only[frz,gm,dT] at h;obtain ⟨⟨rs,l1⟩,qw,rfl,rfl⟩:=h;obtain ⟨p1,p2,p3,p4⟩:=gK cs rs l1 _ hv qw;exact ⟨p1,by simpa [cl] using p2,fun g2 c1 c2 c3 c4=>.fn _ _ _ (p3.trans hl) (p4 g2 c1 c2 c3 (c4.imp (fun h=>by simpa [gV] using h) id))⟩
end
end Go.Ab
namespace Go.Ab
open Go.RowKit
def kr[WInv](P:Program)(f:Nat)(args:List AV)(m:ae)(v:AV)(m':ae):Prop:=
 ∀(B:Nat) (w:World) (g:G) (vs:Array Value),MemR B w g m->B<=w.heap.size->args.length=vs.size->(∀j,j<args.length->V w g (args.getD j .any) (vs.getD j undef)) ->
  Calls P f vs w fun e w'=>∃v' g',e=.returned v'/\Step B w g w' g'/\MemR B w' g' m'/\V w' g' v v'
def Og(P:Program)(d:Deferred):Prop:=∃fv cap f args,d.target=.fn fv cap/\∀w,(invoke d.target d.args).run P w=.ok (.enter f args) w/\CallsD P f args .returning w fun e u w'=>(∃v,e=.returned v)/\u=.returning/\w'=w
def ID(P:Program)(ds:List Deferred):Prop:=∀d∈ds,Og P d
def ij(P:Program)(a' a:Act):Prop:=ID P a.defers->ID P a'.defers
theorem ij.refl(P:Program)(a:Act):ij P a a:=fun h=>h
theorem ij.trans{P:Program}{a b c:Act}(h:ij P c b)(k:ij P b a):ij P c a:=fun x=>h (k x)
theorem ij.of_eq{P:Program}{a b:Act}(h:b.defers=a.defers):ij P b a:=fun x=>by rw[h];exact x
theorem Us{P:Program}{fn:Func}{tmps:Array Value}{R:Ending->World->Prop}{w:World}(h:∃v,(results fn tmps).run P w=.ok v w/\R (.returned v) w):∀ds:List Deferred,ID P ds->Leaves P fn tmps R ds .returning w
 | [],_=>h
 | d::ds,hb=>by
  obtain ⟨fv,cap,f,args,h1,h2⟩:=hb d oB;obtain ⟨h3,h4⟩:=h2 w;refine ⟨by simp,fv,cap,f,args,h1,h3,fun c cs hc=>?_⟩;obtain ⟨e,u',w',fr,⟨⟨v,rfl⟩,rfl,rfl⟩,h5⟩:=h4 c cs hc;exact ⟨_,_,_,fr,Us h ds fun d hd=>hb d (nX _ hd),h5⟩
structure CfgOk [WInv] (C:Cfg):Prop where
 ben:∀(g:Nat),C.ben g=true->∀caps:Array Value,Og C.P { target:=.fn (.func g) caps,args:=#[] }
 name:∀(g:Nat) (fn:Func),C.P.funcs[g]?=some fn->(fn.name == "runtime.NumGoroutine")=false
 lib:∀(g:Nat) h,C.lib g=some h->(∃fn,C.P.funcs[g]?=some fn/\fn.body.isSome)/\∀vs v,h vs=some v->∀m,kr C.P g vs m v m
 libm:∀(g:Nat) h,C.libm g=some h->(∃fn,C.P.funcs[g]?=some fn/\fn.body.isSome)/\∀vs m v m',h vs m=some (v,m')->kr C.P g vs m v m'
section
variable [WInv] {C:Cfg} {B:Nat} {w:World} {g:G} {m:ae}
theorem gn.put{ts:List AV}{a:Act}(h:gn w g ts a.tmps){v:AV}{v':Value}(hv:V w g v v')(d:Option Nat):gn w g (ee ts d v) (a.put d v').tmps:=by
 cases d with
 | none=>exact h
 | some d=>
  refine ⟨by simp[ee,Act.put,h.1],fun t=>?_⟩;simp only[ee,Act.put,bA,fV,zK,xk]
  by_cases he:d=t
  .subst he
   by_cases hl:d<ts.length
   .have nO:d<a.tmps.size:=by have:=h.1;omega
    simp only[aj hl,aj nO,eC,nZ];exact hv
   .have nO:¬ d<a.tmps.size:=by have:=h.1;omega
    simp only[ag hl,ag nO,eC,Option.getD_none];exact .any _
  .simp only[ag he];simpa [bA,fV] using h.2 t
theorem sI(a:Act)(d:Option Nat)(v:Value):(a.put d v).defers=a.defers:=by cases d<;>rfl
theorem Ag{ts:List AV}{a:Act}(h:gn w g ts a.tmps)(x:Operand):V w g (ev ts x) (a.eval x):=by
 cases x with
 | tmp t=>exact h.2 t
 | const v=>exact Ra w g v
 | global _=>exact .any _
 | func f=>exact .fn f [] #[] rfl (by simp)
theorem qkq{P:Program}{o:Oper}{a:Act}{next:Act->World->Prop}{Q:Exit->Act->World->Prop}{v:AV}{m':ae}{s:Sem Value}(hs:∀w,(execOp a.eval o).run P w=(do pure (.value (<- s)):Sem Next).run P w)(h:nF P B w g s v m')
  (hn:∀v' w' g',Step B w g w' g'->MemR B w' g' m'->V w' g' v v'->next (a.put o.dst v') w'):o.wp P a w next Q:=by
 obtain ⟨v',w',g',h1,h2,h3,h4⟩:=h;unfold Oper.wp;rw[hs];simp only[Sem.run_bind,h1,Result.andThen_ok,Sem.run_pure];exact hn v' w' g' h2 h3 h4
theorem qkp{P:Program}{o:Oper}{a:Act}{next:Act->World->Prop}{Q:Exit->Act->World->Prop}{c:Call}{fo:Operand}(ho:o.op=.call c)(hc:c.callee=.value fo){f:Nat}{caps:Array Value}(hf:a.eval fo=.func (.func f) #[] caps)
  {fn:Func} (q8:P.funcs[f]?=some fn) (L1:(fn.name == "runtime.NumGoroutine")=false) (S2:fn.body.isSome) {R:Ending->World->Prop} (h:Calls P f (c.args.map a.eval++caps) w R)
  (hR:∀e w',R e w'->∃v',e=.returned v'/\next (a.put o.dst v') w'):o.wp P a w next Q:=by
 have jY:(execOp a.eval o).run P w=.ok (.enter f (c.args.map a.eval++caps)) w:=by
  have hb:fn.body.isNone=false:=by cases hb:fn.body<;>simp_all
  simp only[execOp,ho,resolve,hc,hf,Deferred.ofValue,invoke,callFunc,q8,L1,hb,Sem.run_bind,Sem.run_pure,run_program,Result.andThen_ok,ko,j6,Array.empty_append]
 unfold Oper.wp;rw[jY,Oper.upon_enter];refine h.mono fun e w' hr=>?_;obtain ⟨v',rfl,hn⟩:=hR e w' hr;exact hn
def z7(g:G)(m:ae)(l:List Nat)(ex:Bool):G where
 wr b off:=g.wr b off/\(¬ ∃nm∈l,g.loc nm=some b)/\(ex=true->¬ ∃nm cs,m.get nm=some (.obj true cs)/\g.loc nm=some b)
 box:=g.box
 loc _:=none
 tloc _ _:=none
def qt(g:G)(l:List Nat)(bx:Nat->Prop):G where
 wr b off:=g.wr b off/\¬ ∃nm∈l,g.loc nm=some b
 box:=bx
 loc:=g.loc
 tloc:=g.tloc
theorem kV:∀(l:List Nat) (m:ae) (nm:Nat),ae.get (fg m l) nm=if nm∈l then none else m.get nm
 | [],m,nm=>by simp[fg]
 | x::l,m,nm=>by
  have:=kV l (m.set x none) nm;show ae.get (fg (m.set x none) l) nm=_;rw[this,fJ]
  by_cases h1:nm∈l
  .simp[h1]
  .by_cases h2:nm=x
   .subst h2;simp
   .simp[h1,h2]
theorem Dq:∀(l:List Nat) (m:ae),(fg m l).length=m.length
 | [],m=>rfl
 | x::l,m=>by
  show (fg (m.set x none) l).length=_;rw[Dq l];simp
theorem qc6(hm:MemR B w g m)(hB:B<=w.heap.size){w':World}{gb:G}{mk:ae}(eD:Step B w g w' gb)(kL:MemR B w' gb mk)(hlen:mk.length=m.length)(Ax:gb.loc=g.loc)(GS:gb.tloc=g.tloc)(ft:∀nm e,mk.get nm=some e->m.get nm=some e)
  (fe:∀b,b<w.heap.size->w'.heap[b]?=w.heap[b]?) {b:Nat} {c:Array Value} {e:TypeId} {cs:List AV} (hb:w.heap.size<=b) (si:w'.heap[b]?=some (Obj.cells c e (0,0))) (gd:cs.length<=c.size) (Lw:¬ gb.box b)
  (hV:∀j,j<cs.length->V w' (fK gb m.length b false) (cs.getD j .any) (c.getD j undef)) :
  Step B w g w' (fK gb m.length b false)/\MemR B w' (fK gb m.length b false) (mk++[some (.obj false cs)]):=by
 have lM:=hm.fresh m.length (aW _)
 have s:Step B w g w' (fK gb m.length b false):=by
  refine ⟨eD.below,eD.cell,eD.shape,fun b' off fm hn h=>?_,fun b' off fm=>?_,fun b' fm=>?_,fun nm b' h=>?_,fun nm n b' h=>eD.tloc nm n b' h,eD.others⟩
  .rcases h with h|h
   .omega
   .exact eD.wr b' off fm hn h
  .constructor
   .rintro (h|h)
    .omega
    .exact (eD.wrB b' off fm).1 h
   .exact fun h=>.inr ((eD.wrB b' off fm).2 h)
  .simp only[fK,ko,false_and,false_or];exact eD.box b' fm
  .simp only[fK]
   split
   .rename_i he;rw[he,lM.1] at h;cases h
   .exact eD.loc nm b' h
 have aQ:∀x,ae.get (mk++[some (.obj false cs)]) x=if x<m.length then mk.get x else if x=m.length then some (.obj false cs) else none:=by
  intro x;unfold ae.get;rw[pL,hlen]
  by_cases h1:x<m.length
  .rw[aj h1,aj h1]
  .rw[ag h1,ag h1]
   by_cases h2:x=m.length
   .rw[aj h2,h2,oE];rfl
   .rw[ag h2,iC (by simp;omega)];rfl
 have S1:∀x b',bw (fK gb m.length b false) (mk++[some (.obj false cs)]) x=some b'->(x<m.length/\bw gb mk x=some b'/\b'<w.heap.size)\/(x=m.length/\b'=b):=by
  intro x b' fm
  rcases pN fm with ⟨bx',cs',h1,h2⟩|⟨n',sz',h1,h2⟩|⟨kk,es,h1,h2⟩
  rotate_left 2
  .rw[aQ] at h1
   split at h1
   .rename_i aG;simp only[fK,ag (Nat.ne_of_lt aG)] at h2;refine .inl ⟨aG,by simp[bw,h1,h2],?_⟩;obtain ⟨b0,es0,cl0,o1,o2,o3,_⟩:=hm.mp x kk es (ft _ _ h1);rw[Ax] at h2;obtain rfl:b'=b0:=by simpa [h2] using o1
    exact (eA.1 o3).1
   .split at h1<;>cases h1
  .rw[aQ] at h1
   split at h1
   .rename_i aG;simp only[fK,ag (Nat.ne_of_lt aG)] at h2;refine .inl ⟨aG,by simp[bw,h1,h2],?_⟩;obtain ⟨b0,c0,e0,o1,o2,o3,_⟩:=hm.obj x bx' cs' (ft _ _ h1);rw[Ax] at h2;obtain rfl:b'=b0:=by simpa [h2] using o1
    exact (eA.1 o3).1
   .split at h1
    .rename_i he;simp only[fK,aj he] at h2;exact .inr ⟨he,by simpa using h2.symm⟩
    .cases h1
  .rw[aQ] at h1
   split at h1
   .rename_i aG
    refine .inl ⟨aG,?_,?_⟩
    .simp only[fK] at h2;simp[bw,h1,h2]
    .obtain ⟨b0,c0,e0,o1,o2,o3,_⟩:=hm.tok x n' sz' (ft _ _ h1);simp only[fK] at h2;rw[GS] at h2;obtain rfl:b'=b0:=by simpa [h2] using o1
     exact (eA.1 o3).1
   .split at h1<;>cases h1
 refine ⟨s,?_,?_,?_,?_,?_,?_,?_,?_,?mp⟩
 case mp=>
  intro x kk es hn;rw[aQ] at hn
  split at hn
  .rename_i aG;obtain ⟨b1,es1,cl1,h1,h2,h3,h4⟩:=hm.mp x kk es (ft _ _ hn);exact ⟨b1,es1,cl1,by simp only[fK];rw[ag (Nat.ne_of_lt aG),Ax];exact h1,h2,(fe b1 (eA.1 h3).1).trans h3,h4.step s⟩
  .split at hn<;>cases hn
 .intro x bx' cs' hn;rw[aQ] at hn
  split at hn
  .rename_i aG;obtain ⟨b1,c1,e1,h1,h2,h3,h4,h5,h6,h7⟩:=hm.obj x bx' cs' (ft _ _ hn);obtain ⟨b2,c2,e2,k1,k2,k3,k4,k5,k6,k7⟩:=kL.obj x bx' cs' hn;rw[Ax] at k1;obtain rfl:b1=b2:=by simpa [h1] using k1
   have jB:=(eA.1 h3).1;refine ⟨b1,c1,e1,s.loc _ _ h1,h2,(fe b1 jB).trans h3,h4,fun j hj=>(h5 j hj).step s,fun off=>.inr (k6 off),?_⟩;simp only[fK,ko,false_and,false_or];exact k7
  .split at hn
   .rename_i he;simp only[bp,Ent.obj.injEq] at hn;obtain ⟨rfl,rfl⟩:=hn;refine ⟨b,c,e,by simp[fK,he],by omega,si,gd,hV,fun off=>.inl rfl,?_⟩;simp only[fK,ko,false_and,false_or,iff_false];exact Lw
   .cases hn
 .intro x n sz hn;rw[aQ] at hn
  split at hn
  .obtain ⟨b1,c1,e1,h1,h2,h3,h4,h5,h6⟩:=kL.tok x n sz hn;refine ⟨b1,c1,e1,h1,h2,h3,fun off ho=>.inr (h4 off ho),h5,?_⟩;simp only[fK,ko,false_and,false_or];exact h6
  .split at hn<;>cases hn
 .intro x hn;rw[aQ] at hn
  split at hn
  .rename_i aG;have:=kL.resv x hn;exact ⟨by simp only[fK];rw[ag (Nat.ne_of_lt aG)];exact this.1,this.2⟩
  .split at hn<;>cases hn
 .intro x hn;rw[aK,hlen] at hn;have:=kL.fresh x (by rw[hlen];simp at hn;omega);exact ⟨by simp only[fK];rw[ag (by simp at hn;omega)];exact this.1,this.2⟩
 .intro x x' b' h1 h2
  rcases S1 _ _ h1 with ⟨a1,a2,a3⟩|⟨a1,a2⟩<;>rcases S1 _ _ h2 with ⟨b1,b2,b3⟩|⟨b1,b2⟩
  .exact kL.inj _ _ _ a2 b2
  .omega
  .omega
  .omega
 .rintro b' off (rfl|hw)
  .exact (eA.1 si).1
  .exact kL.wrLt b' off hw
 .exact kL.inv
 .intro b' hw;simp only[fK,ko,false_and,false_or] at hw;exact kL.boxLt b' hw
theorem qiX{w':World}{g' g2:G}{x:AV}{u:Value}(hx:ke x=true)(h:V w' g' x u)
  (aE:∀bl off,¬ g'.wr bl off->¬ g'.box bl->(∃k n,w'.cell? ⟨bl,off,none⟩=some (.int k n))->¬ g2.wr bl off) (ff:∀bl,g2.box bl->g'.box bl):V w' g2 x u:=by
 cases h with
 | bool b=>exact .bool b
 | nils sh o ho=>exact .nils sh o ho
 | lst sh o es a cap us hs hc hm bO cf hv ho=>
  cases sh with
  | some n=>simp[ke] at hx
  | none=>
  have uT:(es.all Dm=true)/\∀nm e,o≠.tok nm e:=by
   cases o with
   | no=>exact ⟨hx,fun _ _ h=>by cases h⟩
   | full=>exact ⟨hx,fun _ _ h=>by cases h⟩
   | tok nm e=>simp[ke] at hx
  have hint:∀e∈es,∃k n,e=.int k n:=by
   intro e he;have:=iX.1 uT.1 e he;cases e<;>simp[Dm] at this;exact ⟨_,_,rfl⟩
  have qgv:∀ds:List AV,(∀e∈ds,∃k n,e=.int k n)->flat ds=ds:=by
   intro ds
   induction ds with
   | nil=>intro _;rfl
   | cons e ds ih=>
    intro hi;obtain ⟨k,n,rfl⟩:=hi e (by simp);show _::flat ds=_;rw[ih (fun e he=>hi e (by simp[he]))]
  have T7:∀j,j<(flat es).length->∃k n,(flat es).getD j .any=.int k n/\us j=.int k n:=by
   intro j hj;have h1:=hv j hj;obtain ⟨k,n,he⟩:=hint ((flat es).getD j .any) (by rw[qgv es hint] at hj ⊢;exact oI hj);rw[he] at h1;generalize us j=u at h1;cases h1;exact ⟨k,n,he,rfl⟩
  refine .lst _ _ es a cap us hs hc hm bO (fun j hj=>?_) (fun j hj=>?_) ?_
  .obtain ⟨c1,c2,c3⟩:=cf j hj;obtain ⟨k,n,_,hu⟩:=T7 j hj;exact ⟨c1,aE _ _ c2 c3 ⟨k,n,by rw[c1,hu]⟩,fun hb=>c3 (ff _ hb)⟩
  .obtain ⟨k,n,he,hu⟩:=T7 j hj;rw[he,hu];exact .int k n
  .cases o with
   | no=>trivial
   | full=>exact ho
   | tok nm e=>exact absurd rfl (uT.2 nm e)
 | any=>simp[ke] at hx
 | int=>simp[ke] at hx
 | str=>simp[ke] at hx
 | arr=>simp[ke] at hx
 | ptr=>simp[ke] at hx
 | mref=>simp[ke] at hx
 | vec=>simp[ke] at hx
 | vptr=>simp[ke] at hx
 | nilp=>simp[ke] at hx
 | nilf=>simp[ke] at hx
 | nile=>simp[ke] at hx
 | nilm=>simp[ke] at hx
 | agg=>simp[ke] at hx
 | tup=>simp[ke] at hx
 | fn=>simp[ke] at hx
theorem qjV(hm:MemR B w g m)(hB:B<=w.heap.size){P:Program}{f:Nat}{call:Nat->List AV->ae->OM}(CP:∀args m v m',call f args m=some (v,m')->kr P f args m v m'){args rs:List AV}{l:List Nat}{vs:Array Value}
  (hl:args.length=vs.size) (hv:∀j,j<args.length->V w g (args.getD j .any) (vs.getD j undef)) (hf:bJ (frz m eo) args=some (rs,l)) {v0 r:AV} {m0 mr:ae} (hc:call f rs []=some (v0,m0)) (mS:zf m.length m0 v0=some (r,mr)) :
  Calls P f vs w fun e w'=>∃v' g',e=.returned v'/\Step B w g w' g'/\MemR B w' g' (fg m l++mr)/\V w' g' r v':=by
 obtain ⟨k1,k2,k3⟩:=Dy _ _ _ _ hf
 have pW:∀nm∈l,∃cs,m.get nm=some (.obj false cs):=fun nm hn=>by
  obtain ⟨j,lj,a1,a2,a3⟩:=k3 nm hn;exact (xV hm eo _ _ _ _ (hv j a1) a2).1 nm a3
 have pR:∀j,j<rs.length->V w (z7 g m l (!mh rs)) (rs.getD j .any) (vs.getD j undef):=fun j hj=>by
  obtain ⟨lj,a1,a2⟩:=k2 j (by omega);refine (xV hm eo _ _ _ _ (hv j (by omega)) a1).2.2 _ (fun b off h=>h.1) (fun b h=>h) (fun nm hn b hb off h=>h.2.1 ⟨nm,a2 nm hn,hb⟩) ?_
  by_cases hn:mh rs=true
  .exact .inl (yO hn _ (oI hj))
  .exact .inr fun nm cs b aQ ji off h=>h.2.2 (by simpa using hn) ⟨nm,cs,aQ,ji⟩
 have LY:MemR w.heap.size w (z7 g m l (!mh rs)) []:=by
  refine ⟨fun nm bx cs h=>by simp[ae.get] at h,fun nm n sz h=>by simp[ae.get] at h,fun nm h=>by simp[ae.get] at h,fun nm _=>⟨rfl,fun _=>rfl⟩,fun nm nm' b h=>by simp[bw,ae.get] at h,fun b off h=>hm.wrLt b off h.1,fun w' k=>hm.inv w' (k.mono hB),hm.boxLt,fun nm kk es h=>by simp[ae.get] at h⟩
 refine (CP rs [] v0 m0 hc w.heap.size w (z7 g m l (!mh rs)) vs LY (aW _) (by omega) pR).mono ?_;rintro e w' ⟨v',g',rfl,s,eR,hV⟩;have fe:∀b,b<w.heap.size->w'.heap[b]?=w.heap[b]?:=fun b hb=>s.below.block b hb;have cf:∀b off u,w.cell? ⟨b,off,none⟩=some u->w'.cell? ⟨b,off,none⟩=some u:=fun b off u hc=>(World.cell?_of_block (w:=w) (a:=⟨b,off,none⟩) (fe b (tq hc))).trans hc
 have eD:Step B w g w' (qt g l g'.box):=by
  refine ⟨s.below.mono hB,fun b off u _ hc=>cf b off u hc,fun b c e fr hb=>⟨c,(fe b (eA.1 hb).1).trans hb,rfl⟩,fun b off _ hn h=>hn h.1,fun b off hb=>?_,fun b hb=>s.box b hb,fun _ _ h=>h,fun _ _ _ h=>h,fun k o hk _ _=>(fe k (eA.1 hk).1).trans hk⟩
  constructor
  .exact fun h=>h.1
  .intro h;refine ⟨h,?_⟩;rintro ⟨nm,hn,ji⟩;obtain ⟨cs,aQ⟩:=pW nm hn;obtain ⟨b',c,e,o1,o2,_⟩:=hm.obj nm false cs aQ;obtain rfl:b=b':=by simpa [ji] using o1
   omega
 have kL:MemR B w' (qt g l g'.box) (fg m l):=by
  have ft:∀nm b,bw (qt g l g'.box) (fg m l) nm=some b->bw g m nm=some b:=by
   intro nm b hb
   rcases pN hb with ⟨bx,cs,h1,h2⟩|⟨n,sz,h1,h2⟩|⟨kk,es,h1,h2⟩
   rotate_left 2
   .rw[kV] at h1
    split at h1
    .cases h1
    .have iv:g.loc nm=some b:=h2;simp[bw,h1,iv]
   .rw[kV] at h1
    split at h1
    .cases h1
    .have iv:g.loc nm=some b:=h2;simp[bw,h1,iv]
   .rw[kV] at h1
    split at h1
    .cases h1
    .have iv:g.tloc nm n=some b:=h2;simp[bw,h1,iv]
  have wB:∀nm b,nm∉l->bw g m nm=some b->¬ ∃x∈l,g.loc x=some b:=by
   rintro nm b hn hb ⟨x,hx,ji⟩;obtain ⟨cs,aQ⟩:=pW x hx;have:bw g m x=some b:=by simp[bw,aQ,ji]
   exact hn (hm.inj nm x b hb this▸hx)
  refine ⟨fun nm bx cs aQ=>?_,fun nm n sz aQ=>?_,fun nm aQ=>?_,fun nm hn=>hm.fresh nm (by rw[Dq] at hn;exact hn),fun nm nm' b h1 h2=>hm.inj nm nm' b (ft _ _ h1) (ft _ _ h2),fun b off h=>rQ (hm.wrLt b off h.1) s.below.size,hm.invB (s.below.mono hB),eR.boxLt,fun nm kk es aQ=>by
    rw[kV] at aQ
    split at aQ
    .cases aQ
    .obtain ⟨b,es',cl,o1,o2,o3,o4⟩:=hm.mp nm kk es aQ
     exact ⟨b,es',cl,o1,o2,(fe b (eA.1 o3).1).trans o3,o4.step eD⟩⟩
  .rw[kV] at aQ
   split at aQ
   .cases aQ
   .rename_i mQ;obtain ⟨b,c,e,o1,o2,o3,o4,o5,o6,o7⟩:=hm.obj nm bx cs aQ;have aG:=(eA.1 o3).1;exact ⟨b,c,e,o1,o2,(fe b aG).trans o3,o4,fun j hj=>(o5 j hj).step eD,fun off=>⟨o6 off,wB nm b mQ (by simp[bw,aQ,o1])⟩,(s.box b aG).trans o7⟩
  .rw[kV] at aQ
   split at aQ
   .cases aQ
   .rename_i mQ;obtain ⟨b,c,e,o1,o2,o3,o4,o5,o6⟩:=hm.tok nm n sz aQ;have aG:=(eA.1 o3).1;exact ⟨b,c,e,o1,o2,(fe b aG).trans o3,fun off ho=>⟨o4 off ho,wB nm b mQ (by simp[bw,aQ,o1])⟩,o5,fun h=>o6 ((s.box b aG).1 h)⟩
  .rw[kV] at aQ
   split at aQ
   .cases aQ
   .exact hm.resv nm aQ
 unfold zf at mS;split at mS
 case h_2=>cases mS
 rename_i k a k' b sh z o es
 split at mS
 .rename_i nm ety
  split at mS
  .cases mS
  .rename_i n;split at mS
   case h_2=>cases mS
   rename_i c0 sz0 GR;split at mS
   case isFalse=>cases mS
   rename_i mN;obtain ⟨kF,qz,tH⟩:=mN;have qz:=qz.symm;subst kF;subst qz;simp only[bp,dT] at mS;obtain ⟨rfl,rfl⟩:=mS
   cases hV with
   | agg _ vs3 AA Dc=>
   have h0:=Dc 0 (by simp);have h1:=Dc 1 (by simp);have h2:=Dc 2 (by simp);simp only[rK,zI] at h0 h1 h2;generalize hu0:vs3.getD 0 undef=u0 at h0;generalize hu1:vs3.getD 1 undef=u1 at h1;generalize hu2:vs3.getD 2 undef=u2 at h2;cases h0;cases h1
   cases h2 with
   | nils _ _ ho=>rcases ho with ho|ho<;>cases ho
   | lst _ _ _ ad cap us hs hc mb bO kH Dd ho=>
   obtain ⟨o1,o2,c,o3,o4⟩:=ho;obtain ⟨b1,c1,e1,t1,t2,t3,t4,t5,t6⟩:=eR.tok nm es.length n GR;obtain rfl:ad.block=b1:=by simpa [o1] using t1
   have jW:=rY (fun e he=>(bO e he).1:∀e∈es,eP (some n) e=true)
   have hcu:∀j,j<(flat es).length->c.getD j undef=us j:=by
    intro j hj;have h3:=(kH j hj).1;rw[o2,aL,cell_of_row w' ad.block j c ety (0,0) o3] at h3;rw[fV,h3];rfl
   have qgP:∀j,j<(flat es).length->∀k n,us j≠.int k n:=by
    intro j hj k n he;have h3:=Dd j hj;have h4:=iX.1 tH _ (oI hj);rw[he] at h3;generalize (flat es).getD j .any=x at h3 h4;cases h3<;>simp[ke] at h4
   have aE:∀bl off,¬ g'.wr bl off->¬ g'.box bl->(∃k n,w'.cell? ⟨bl,off,none⟩=some (.int k n))->¬ (fK (qt g l g'.box) m.length ad.block false).wr bl off:=by
    rintro bl off hw ff ⟨k,n',S5⟩ hn
    rcases hn with rfl|hn
    .by_cases aG:off<(flat es).length
     .have h3:=(kH off aG).1;rw[o2,aL] at h3;rw[h3] at S5;exact qgP off aG k n' (by simpa using S5)
     .exact hw (t4 off (by rw[jW] at aG;simp only[Sh.size] at aG;omega))
    .obtain ⟨mP,pV⟩:=hn;have aG:=hm.wrLt bl off mP;refine hw ((s.wrB bl off aG).2 ⟨mP,pV,fun _=>?_⟩);rintro ⟨nm2,cs2,Av,pn⟩;obtain ⟨b2,_,_,q1,_,_,_,_,_,q7⟩:=hm.obj nm2 true cs2 Av;obtain rfl:bl=b2:=by simpa [pn] using q1
     exact ff ((s.box bl aG).2 (q7.2 rfl))
   obtain ⟨s2,eL⟩:=qc6 hm hB eD kL (Dq l m) rfl rfl (fun nm e hg=>by
    rw[kV] at hg
    split at hg
    .cases hg
    .exact hg) fe t2 o3 (cs:=flat es) (by rw[jW,o4];exact fW _ hc) t6 (fun j hj=>by
     rw[hcu j hj]
     exact qiX (iX.1 tH _ (oI hj)) (Dd j hj) aE (fun bl h=>by simpa [fK,qt] using h))
   refine ⟨_,_,rfl,s2,eL,.agg _ _ AA (fun j hj=>?_)⟩
   match j,hj with
   | 0,_=>rw[hu0];exact .int _ _
   | 1,_=>rw[hu1];exact .int _ _
   | 2,_=>
    rw[hu2];refine .arr _ _ _ _ ad cap hs hc mb ?_
    rcases hs with hs|hs
    .exact .inl (by omega)
    refine .inr ⟨by simp[fK],?_,c,_,o3,by rw[aL,o4];exact aW _⟩;obtain ⟨adb,ado,ads⟩:=ad;simp only at o2 hs;rw[o2,hs]
   | j+3,hj=>simp at hj;omega
 .rename_i uT
  split at mS
  .split at mS
   .simp only[bp,dT] at mS;obtain ⟨rfl,rfl⟩:=mS;rw[bN];refine ⟨_,_,rfl,eD,kL,?_⟩
    cases hV with
    | agg _ vs3 AA Dc=>
    refine .agg _ _ AA (fun j hj=>?_);have hx:=Dc j hj
    match j,hj,hx with
    | 0,_,hx=>
     simp only[rK] at hx ⊢;generalize vs3.getD 0 undef=u at hx;cases hx;exact .int _ _
    | 1,_,hx=>
     simp only[zI,rK] at hx ⊢;generalize vs3.getD 1 undef=u at hx;cases hx;exact .int _ _
    | 2,_,hx=>
     simp only[zI,rK] at hx ⊢;generalize vs3.getD 2 undef=u at hx
     cases hx with
     | nils _ _ ho=>exact .nils _ _ ho
    | j+3,hj,_=>simp at hj;omega
   .cases mS
  .cases mS
theorem qf5(hm:MemR B w g m){l:List Nat}(pW:∀nm∈l,∃cs,m.get nm=some (.obj false cs)):Step B w g w (qt g l g.box)/\MemR B w (qt g l g.box) (fg m l):=by
 have eD:Step B w g w (qt g l g.box):=by
  refine ⟨Below.refl _ _,fun b off u _ hc=>hc,fun b c e fr hb=>⟨c,hb,rfl⟩,fun b off _ hn h=>hn h.1,fun b off hb=>?_,fun b hb=>Iff.rfl,fun _ _ h=>h,fun _ _ _ h=>h,fun _ _ h _ _=>h⟩
  constructor
  .exact fun h=>h.1
  .intro h;refine ⟨h,?_⟩;rintro ⟨nm,hn,ji⟩;obtain ⟨cs,aQ⟩:=pW nm hn;obtain ⟨b',c,e,o1,o2,_⟩:=hm.obj nm false cs aQ;obtain rfl:b=b':=by simpa [ji] using o1
   omega
 refine ⟨eD,?_⟩
 have ft:∀nm b,bw (qt g l g.box) (fg m l) nm=some b->bw g m nm=some b:=by
  intro nm b hb
  rcases pN hb with ⟨bx,cs,h1,h2⟩|⟨n,sz,h1,h2⟩|⟨kk,es,h1,h2⟩
  rotate_left 2
  .rw[kV] at h1
   split at h1
   .cases h1
   .have iv:g.loc nm=some b:=h2;simp[bw,h1,iv]
  .rw[kV] at h1
   split at h1
   .cases h1
   .have iv:g.loc nm=some b:=h2;simp[bw,h1,iv]
  .rw[kV] at h1
   split at h1
   .cases h1
   .have iv:g.tloc nm n=some b:=h2;simp[bw,h1,iv]
 have wB:∀nm b,nm∉l->bw g m nm=some b->¬ ∃x∈l,g.loc x=some b:=by
  rintro nm b hn hb ⟨x,hx,ji⟩;obtain ⟨cs,aQ⟩:=pW x hx;have:bw g m x=some b:=by simp[bw,aQ,ji]
  exact hn (hm.inj nm x b hb this▸hx)
 refine ⟨fun nm bx cs aQ=>?_,fun nm n sz aQ=>?_,fun nm aQ=>?_,fun nm hn=>hm.fresh nm (by rw[Dq] at hn;exact hn),fun nm nm' b h1 h2=>hm.inj nm nm' b (ft _ _ h1) (ft _ _ h2),fun b off h=>hm.wrLt b off h.1,hm.inv,hm.boxLt,fun nm kk es aQ=>by
  rw[kV] at aQ
  split at aQ
  .cases aQ
  .obtain ⟨b,es',cl,o1,o2,o3,o4⟩:=hm.mp nm kk es aQ
   exact ⟨b,es',cl,o1,o2,o3,o4.step eD⟩⟩
 .rw[kV] at aQ
  split at aQ
  .cases aQ
  .rename_i mQ;obtain ⟨b,c,e,o1,o2,o3,o4,o5,o6,o7⟩:=hm.obj nm bx cs aQ;exact ⟨b,c,e,o1,o2,o3,o4,fun j hj=>(o5 j hj).step eD,fun off=>⟨o6 off,wB nm b mQ (by simp[bw,aQ,o1])⟩,o7⟩
 .rw[kV] at aQ
  split at aQ
  .cases aQ
  .rename_i mQ;obtain ⟨b,c,e,o1,o2,o3,o4,o5,o6⟩:=hm.tok nm n sz aQ;exact ⟨b,c,e,o1,o2,o3,fun off ho=>⟨o4 off ho,wB nm b mQ (by simp[bw,aQ,o1])⟩,o5,o6⟩
 .rw[kV] at aQ
  split at aQ
  .cases aQ
  .exact hm.resv nm aQ
theorem qf3(hm:MemR B w g m){args rs:List AV}{l:List Nat}{vs:Array Value}(hl:args.length=vs.size)(hv:∀j,j<args.length->V w g (args.getD j .any) (vs.getD j undef))(hf:bJ (GA m) args=some (rs,l)) :
  ∃g1,Step B w g w g1/\MemR B w g1 (fg m l)/\rs.length=vs.size/\∀j,j<rs.length->V w g1 (rs.getD j .any) (vs.getD j undef):=by
 obtain ⟨k1,k2,k3⟩:=Dy _ _ _ _ hf
 have one:∀(x x':AV) (lx:List Nat) (v:Value),V w g x v->GA m x=some (x',lx)->(∃nm off n sh,x=.arr nm off n sh/\frz m eo x=some (x',lx))\/(x'=x/\lx=[]):=by
  intro x x' lx v hV hx;unfold GA at hx
  split at hx
  .exact .inl ⟨_,_,_,_,rfl,hx⟩
  .simp only[bp,dT] at hx;exact .inr ⟨hx.1.symm,hx.2.symm⟩
 have pW:∀nm∈l,∃cs,m.get nm=some (.obj false cs):=fun nm hn=>by
  obtain ⟨j,lj,a1,a2,a3⟩:=k3 nm hn
  rcases one _ _ _ _ (hv j a1) a2 with ⟨_,_,_,_,_,h⟩|⟨_,h⟩
  .exact (xV hm eo _ _ _ _ (hv j a1) h).1 nm a3
  .rw[h] at a3;cases a3
 obtain ⟨s,hk⟩:=qf5 hm pW;refine ⟨qt g l g.box,s,hk,by omega,fun j hj=>?_⟩;obtain ⟨lj,a1,a2⟩:=k2 j (by omega)
 rcases one _ _ _ _ (hv j (by omega)) a1 with ⟨nm,off,n,sh,hx,h⟩|⟨h,_⟩
 .refine (xV hm eo _ _ _ _ (hv j (by omega)) h).2.2 _ (fun b off h=>h.1) (fun b h=>h) (fun nm hn b hb off h=>h.2 ⟨nm,a2 nm hn,hb⟩) (.inl ?_);rw[hx] at h;change (m.obj? nm).bind _=some _ at h;rw[aS] at h;obtain ⟨o,_,h⟩:=h
  split at h
  .simp only[aS] at h;obtain ⟨r,_,h⟩:=h
   split at h
   .simp only[bp,dT] at h;rw[<- h.1];rfl
   .cases h
  .cases h
 .rw[h];exact (hv j (by omega)).step s
theorem HM(hm:MemR B w g m)(hB:B<=w.heap.size){P:Program}{f:Nat}{call:Nat->List AV->ae->OM}(CP:∀args m v m',call f args m=some (v,m')->kr P f args m v m'){args rs:List AV}{l:List Nat}{vs:Array Value}
  (hl:args.length=vs.size) (hv:∀j,j<args.length->V w g (args.getD j .any) (vs.getD j undef)) (hf:bJ (frz m eo) args=some (rs,l)) {r:AV} (h:gv call f rs=some r) :
  Calls P f vs w fun e w'=>∃v' g',e=.returned v'/\Step B w g w' g'/\MemR B w' g' (fg m l)/\V w' g' r v':=by
 unfold gv at h;simp only[aS] at h;obtain ⟨⟨v0,m0⟩,hc,⟨r',l'⟩,hfz,h⟩:=h;simp only at hfz h
 split at h
 .rename_i mN;simp only[bp] at h;subst h;obtain ⟨k1,k2,k3⟩:=Dy _ _ _ _ hf
  have pW:∀nm∈l,∃cs,m.get nm=some (.obj false cs):=fun nm hn=>by
   obtain ⟨j,lj,a1,a2,a3⟩:=k3 nm hn;exact (xV hm eo _ _ _ _ (hv j a1) a2).1 nm a3
  have pR:∀j,j<rs.length->V w (z7 g m l (!mh rs)) (rs.getD j .any) (vs.getD j undef):=fun j hj=>by
   obtain ⟨lj,a1,a2⟩:=k2 j (by omega);refine (xV hm eo _ _ _ _ (hv j (by omega)) a1).2.2 _ (fun b off h=>h.1) (fun b h=>h) (fun nm hn b hb off h=>h.2.1 ⟨nm,a2 nm hn,hb⟩) ?_
   by_cases hn:mh rs=true
   .exact .inl (yO hn _ (oI hj))
   .exact .inr fun nm cs b aQ ji off h=>h.2.2 (by simpa using hn) ⟨nm,cs,aQ,ji⟩
  have LY:MemR w.heap.size w (z7 g m l (!mh rs)) []:=by
   refine ⟨fun nm bx cs h=>by simp[ae.get] at h,fun nm n sz h=>by simp[ae.get] at h,fun nm h=>by simp[ae.get] at h,fun nm _=>⟨rfl,fun _=>rfl⟩,fun nm nm' b h=>by simp[bw,ae.get] at h,fun b off h=>hm.wrLt b off h.1,fun w' k=>hm.inv w' (k.mono hB),hm.boxLt,fun nm kk es h=>by simp[ae.get] at h⟩
  refine (CP rs [] v0 m0 hc w.heap.size w (z7 g m l (!mh rs)) vs LY (aW _) (by omega) pR).mono ?_;rintro e w' ⟨v',g',rfl,s,eR,hV⟩;have fe:∀b,b<w.heap.size->w'.heap[b]?=w.heap[b]?:=fun b hb=>s.below.block b hb;have cf:∀b off u,w.cell? ⟨b,off,none⟩=some u->w'.cell? ⟨b,off,none⟩=some u:=fun b off u hc=>(World.cell?_of_block (w:=w) (a:=⟨b,off,none⟩) (fe b (tq hc))).trans hc
  have eD:Step B w g w' (qt g l g'.box):=by
   refine ⟨s.below.mono hB,fun b off u _ hc=>cf b off u hc,fun b c e fr hb=>⟨c,(fe b (eA.1 hb).1).trans hb,rfl⟩,fun b off _ hn h=>hn h.1,fun b off hb=>?_,fun b hb=>s.box b hb,fun _ _ h=>h,fun _ _ _ h=>h,fun k o hk _ _=>(fe k (eA.1 hk).1).trans hk⟩
   constructor
   .exact fun h=>h.1
   .intro h;refine ⟨h,?_⟩;rintro ⟨nm,hn,ji⟩;obtain ⟨cs,aQ⟩:=pW nm hn;obtain ⟨b',c,e,o1,o2,_⟩:=hm.obj nm false cs aQ;obtain rfl:b=b':=by simpa [ji] using o1
    omega
  have kL:MemR B w' (qt g l g'.box) (fg m l):=by
   have ft:∀nm b,bw (qt g l g'.box) (fg m l) nm=some b->bw g m nm=some b:=by
    intro nm b hb
    rcases pN hb with ⟨bx,cs,h1,h2⟩|⟨n,sz,h1,h2⟩|⟨kk,es,h1,h2⟩
    rotate_left 2
    .rw[kV] at h1
     split at h1
     .cases h1
     .have iv:g.loc nm=some b:=h2;simp[bw,h1,iv]
    .rw[kV] at h1
     split at h1
     .cases h1
     .have iv:g.loc nm=some b:=h2;simp[bw,h1,iv]
    .rw[kV] at h1
     split at h1
     .cases h1
     .have iv:g.tloc nm n=some b:=h2;simp[bw,h1,iv]
   have wB:∀nm b,nm∉l->bw g m nm=some b->¬ ∃x∈l,g.loc x=some b:=by
    rintro nm b hn hb ⟨x,hx,ji⟩;obtain ⟨cs,aQ⟩:=pW x hx;have:bw g m x=some b:=by simp[bw,aQ,ji]
    exact hn (hm.inj nm x b hb this▸hx)
   refine ⟨fun nm bx cs aQ=>?_,fun nm n sz aQ=>?_,fun nm aQ=>?_,fun nm hn=>hm.fresh nm (by rw[Dq] at hn;exact hn),fun nm nm' b h1 h2=>hm.inj nm nm' b (ft _ _ h1) (ft _ _ h2),fun b off h=>rQ (hm.wrLt b off h.1) s.below.size,hm.invB (s.below.mono hB),eR.boxLt,fun nm kk es aQ=>by
    rw[kV] at aQ
    split at aQ
    .cases aQ
    .obtain ⟨b,es',cl,o1,o2,o3,o4⟩:=hm.mp nm kk es aQ
     exact ⟨b,es',cl,o1,o2,(fe b (eA.1 o3).1).trans o3,o4.step eD⟩⟩
   .rw[kV] at aQ
    split at aQ
    .cases aQ
    .rename_i mQ;obtain ⟨b,c,e,o1,o2,o3,o4,o5,o6,o7⟩:=hm.obj nm bx cs aQ;have aG:=(eA.1 o3).1;exact ⟨b,c,e,o1,o2,(fe b aG).trans o3,o4,fun j hj=>(o5 j hj).step eD,fun off=>⟨o6 off,wB nm b mQ (by simp[bw,aQ,o1])⟩,(s.box b aG).trans o7⟩
   .rw[kV] at aQ
    split at aQ
    .cases aQ
    .rename_i mQ;obtain ⟨b,c,e,o1,o2,o3,o4,o5,o6⟩:=hm.tok nm n sz aQ;have aG:=(eA.1 o3).1;exact ⟨b,c,e,o1,o2,(fe b aG).trans o3,fun off ho=>⟨o4 off ho,wB nm b mQ (by simp[bw,aQ,o1])⟩,o5,fun h=>o6 ((s.box b aG).1 h)⟩
   .rw[kV] at aQ
    split at aQ
    .cases aQ
    .exact hm.resv nm aQ
  refine ⟨v',_,rfl,eD,kL,?_⟩;obtain ⟨f1,f2,f3⟩:=xV eR eo _ _ _ _ hV hfz
  let gf:G:={ wr:=fun b off=>b<w.heap.size/\g'.wr b off,box:=g'.box,loc:=fun _=>none,tloc:=fun _ _=>none }
  have hVf:V w' gf r' v':=by
   refine f3 gf (fun b off h=>h.2) (fun b h=>h) (fun nm hn b hb off h=>?_) (.inr fun nm cs b aQ hb off h=>?_)
   .obtain ⟨cs,aQ⟩:=f1 nm hn;obtain ⟨b',c,e,o1,o2,_⟩:=eR.obj nm false cs aQ;obtain rfl:b=b':=by simpa [hb] using o1
    have:=h.1;omega
   .obtain ⟨b',c,e,o1,o2,_⟩:=eR.obj nm true cs aQ;obtain rfl:b=b':=by simpa [hb] using o1
    have:=h.1;omega
  refine Q6 (nv:=!mh rs) hVf f2 (fun hn=>?_) (fun b off h=>?_) (fun b h=>h)
  .have:mh rs=false:=by simpa using hn
   simpa [this] using mN
  .have aG:=hm.wrLt b off h.1
   by_cases qy:∃nm cs,m.get nm=some (.obj true cs)/\g.loc nm=some b
   .by_cases G4:mh rs=true
    .exact .inl ⟨aG,(s.wrB b off aG).2 ⟨h.1,h.2,fun hx=>by simp[G4] at hx⟩⟩
    .refine .inr ⟨?_,by simpa using G4⟩;obtain ⟨nm,cs,aQ,ji⟩:=qy;obtain ⟨b',c,e,o1,o2,o3,o4,o5,o6,o7⟩:=hm.obj nm true cs aQ;obtain rfl:b=b':=by simpa [ji] using o1
     exact (s.box b aG).2 (o7.2 rfl)
   .exact .inl ⟨aG,(s.wrB b off aG).2 ⟨h.1,h.2,fun _=>qy⟩⟩
 .cases h
end
end Go.Ab
