/- An abstract interpreter of the kit's code: values without memory, an abstract memory of named objects. Definitions alone. -/
import Derived.Calls
import Derived.KernelRfl
import Derived.Maps.OwnSet
import Derived.DeepKeys4
import Derived.Below
import Derived.Laws.AppendOwn
import Derived.Laws.MakeOwn
import Derived.Laws.OwnMore
import Derived.Laws.Rows
import Derived.MapKept
import Derived.RangeFuncOwn
import Derived.WalkKit
import Derived.WalkSpells
import Derived.Laws.Small
import Derived.Laws.StructEq
import Derived.Laws.Cover3
import Derived.Laws.Cells
import Derived.Laws.Tables
import Derived.Great.BuildSlice
import Derived.Defers
set_option maxRecDepth 100000
set_option linter.unusedVariables false
set_option linter.unusedSimpArgs false
set_option linter.unusedSectionVars false
set_option linter.unusedSectionVars false
theorem oBs {α β : Type} (a : α) (f : α → Option β) : (some a).bind f = f a := rfl
theorem oMg {p:Prop} (h:p:=by omega):p:=h
theorem sMp {p:Prop} (h:p:=by simp):p:=h
theorem kRf {p:Prop} (h:p:=by kernel_rfl):p:=h
namespace Go.Ab
inductive Own where
 | no
 | full
 | tok (nm e:Nat)
abbrev Sh:=Option Nat
def Sh.size:Sh→Nat
 | none=>1
 | some n=>n
inductive AV where
 | any
 | int (k:IntKind) (n:Int)
 | bool (b:Bool)
 | str (s:ByteArray)
 | lst (sh:Sh) (z:Bool) (o:Own) (es:List AV)
 | arr (nm off n:Nat) (sh:Sh)
 | ptr (nm off:Nat)
 | vptr (cs:List AV)
 | nilp
 | nilf
 | nile
 | nilm
 | agg (cs:List AV)
 | tup (vs:List AV)
 | fn (f:Nat) (caps:List AV)
 | mref (nm:Nat)
 | vec (n:Nat) (sh:Sh) (cs:List AV)
def AV.cells:AV→List AV
 | .agg cs=>cs
 | v=>[v]
inductive KK where
 | str
 | int (k:IntKind)
 | arr (n:Nat) (k:IntKind)
 deriving DecidableEq
inductive Ent where
 | obj (bx:Bool) (cs:List AV)
 | tok (n sz:Nat)
 | resv
 | mp (kk:KK) (es:List (AV×AV))
abbrev Mem:=List (Option Ent)
def Mem.get (m:Mem) (nm:Nat):Option Ent:=(m[nm]?).bind id
def Mem.obj? (m:Mem) (nm:Nat):Option (Bool×List AV):=match m.get nm with
 | some (.obj bx cs)=>some (bx,cs)
 | _=>none
structure St where
 tmps:List AV
 mem:Mem
inductive Ex where
 | normal
 | exit (id:Nat)
 | ret
structure Masks where
 head:List Bool
 out:List Bool
 ret:List Bool
structure Cfg where
 P:Program
 inl:Nat→Nat→Bool
 arrm:Nat→Bool
 tokm:Nat→Bool
 two:Nat→Nat→List (Nat×Nat)
 thaw:Nat→Nat→Bool
 frzc:Nat→Nat→Bool
 seqm:Nat→Nat→Bool
 late:Nat→Nat→List (Nat×List Nat)
 ben:Nat→Bool
 mask:Nat→Option Nat→Masks
 ord:Nat→Nat→Option (List Nat)
 ahd:Nat→Nat→List Nat
 lib:Nat→Option (List AV→Option AV)
 libm:Nat→Option (List AV→Mem→Option (AV×Mem))
def shOf (P:Program) (t:Nat):Option Sh:=
 match P.underlying t,P.info? t with
 | some (.struct _),some i|some (.array _ _),some i=>some (some i.size)
 | some _,some i=>if i.size=1 then some none else none
 | _,_=>none
def elemOf (P:Program) (t:Nat):Option Nat:=
 match P.underlying t with
 | some (.slice e)=>some e
 | _=>none
def fieldOf (P:Program) (t f:Nat):Option (Nat×Sh):=
 match P.underlying t with
 | some (.struct fs)=>
  match fs[f]? with
  | some fd=>match shOf P fd.type with
   | some sh=>if sh.size=0 then none else some (fd.offset,sh)
   | none=>none
  | none=>none
 | _=>none
def partOf (P:Program) (t f:Nat):Option (Nat×Sh):=match P.underlying t with
 | some (.array _ e)=>match shOf P e with
  | some sh=>if sh.size=0 then none else some (f*sh.size,sh)
  | none=>none
 | _=>fieldOf P t f
def atomA:Value→AV
 | .int k n=>.int k n
 | .bool b=>.bool b
 | .string s=>.str s
 | .slice none 0 0=>.lst none true .full []
 | .pointer none=>.nilp
 | .nilFunc=>.nilf
 | .nilIface=>.nile
 | .map none=>.nilm
 | _=>.any
def valA:Value→AV
 | .agg cs=>.agg (cs.toList.map atomA)
 | v=>atomA v
def zeroOf (P:Program) (t:Nat):Option AV:=
 match P.info? t with
 | some i=>i.zero.map valA
 | none=>none
def bytesOf (P:Program) (t:Nat):Nat:=max 1 (((P.info? t).map (·.bytes)).getD 0)
def ifA {R:Type} (v:AV) (x y:Option R):Option R:=match v with
 | .bool b=>match b with
  | true=>x
  | false=>y
 | _=>none
def binInt (op:BinOp) (k:IntKind) (a b:Int):Option AV:=match op with
 | .add=>some (.int k (k.wrap (a+b)))
 | .sub=>some (.int k (k.wrap (a-b)))
 | .mul=>some (.int k (k.wrap (a*b)))
 | .quo=>if b=0 then none else some (.int k (k.wrap (a.tdiv b)))
 | .rem=>if b=0 then none else some (.int k (a.tmod b))
 | .and=>some (.int k (k.wrap (BitVec.ofInt k.bits a &&& BitVec.ofInt k.bits b).toNat))
 | .or=>some (.int k (k.wrap (BitVec.ofInt k.bits a ||| BitVec.ofInt k.bits b).toNat))
 | .xor=>some (.int k (k.wrap (BitVec.ofInt k.bits a ^^^ BitVec.ofInt k.bits b).toNat))
 | .andNot=>some (.int k (k.wrap (BitVec.ofInt k.bits a &&& ~~~ BitVec.ofInt k.bits b).toNat))
 | .eql=>some (.bool (a==b))
 | .neq=>some (.bool (a != b))
 | .lss=>some (.bool (decide (a<b)))
 | .leq=>some (.bool (decide (a≤b)))
 | .gtr=>some (.bool (decide (a>b)))
 | .geq=>some (.bool (decide (a≥b)))
 | _=>none
def shiftA (left:Bool) (k:IntKind) (a b:Int):Option AV:=
 if b<0 then none
 else if left then some (.int k (k.wrap (a*2^(min b.toNat k.bits)))) else some (.int k (a.fdiv (2^(min b.toNat k.bits))))
inductive TK where
 | sl
 | bl
 | pt
 | fu
 | other
def tkOf (P:Program) (t:Nat):TK:=match P.underlying t with
 | some (.slice _)=>.sl
 | some .bool=>.bl
 | some (.pointer _)=>.pt
 | some (.func ..)=>.fu
 | _=>.other
def isNilP:AV→Option Bool
 | .nilp=>some true
 | .ptr .. | .vptr _=>some false
 | _=>none
def isNilF:AV→Option Bool
 | .nilf=>some true
 | .fn ..=>some false
 | _=>none
def eqB (op:BinOp) (b:Bool):Option AV:=match op with
 | .eql=>some (.bool b)
 | .neq=>some (.bool (!b))
 | _=>none
def binStr (op:BinOp) (a b:ByteArray):Option AV:=match op with
 | .add=>if a.size+b.size≤9223372036854775807 then some (.str (a++b)) else none
 | .eql=>some (.bool (a.toList==b.toList))
 | .neq=>some (.bool (!(a.toList==b.toList)))
 | _=>none
def binA (tk:TK) (op:BinOp) (x y:AV):Option AV:=match tk,x,y with
 | _,.int k a,.int k' b=>match op with
  | .shl=>shiftA true k a b
  | .shr=>shiftA false k a b
  | op=>if k=k' then binInt op k a b else none
 | _,.str a,.str b=>binStr op a b
 | .bl,.bool a,.bool b=>match op with
  | .eql=>some (.bool (a==b))
  | .neq=>some (.bool (!(a==b)))
  | _=>none
 | .sl,.lst _ z _ _,.lst _ true _ []=>match op with
  | .eql=>some (.bool z)
  | .neq=>some (.bool (!z))
  | _=>none
 | .pt,x,.nilp=>(isNilP x).bind (eqB op)
 | .fu,x,.nilf=>(isNilF x).bind (eqB op)
 | _,_,_=>none
def unA (op:UnOp) (x:AV):Option AV:=match op,x with
 | .not,.bool b=>some (.bool !b)
 | .neg,.int k n=>some (.int k (k.wrap (0-n)))
 | _,_=>none
def pickA (c a b:AV):Option AV:=match c with
 | .bool c=>some (if c then a else b)
 | _=>none
def extractA (t:AV) (i:Nat):Option AV:=match t with
 | .tup vs=>vs[i]?
 | _=>none
def lenA (st:Bool) (x:AV):Option AV:=match st,x with
 | false,.lst _ _ _ es=>some (.int .i64 es.length)
 | false,.arr _ _ n _=>some (.int .i64 n)
 | false,.vec n _ _=>some (.int .i64 n)
 | true,.str s=>some (.int .i64 s.size)
 | _,_=>none
def maxA (mx:Bool) (x y:AV):Option AV:=match x,y with
 | .int k a,.int k' b=>if k=k' then some (.int k (if mx then (if b>a then b else a) else (if b<a then b else a))) else none
 | _,_=>none
def convA (k:IntKind) (x:AV):Option AV:=match x with
 | .int _ n=>some (.int k (k.wrap n))
 | _=>none
def cutSh (sh:Sh) (cs:List AV) (off:Nat):Option AV:=match sh with
 | none=>cs[off]?
 | some n=>if off+n≤cs.length then some (.agg ((cs.drop off).take n)) else none
def loadA (sh:Sh) (m:Mem) (x:AV):Option AV:=match x with
 | .vptr cs=>cutSh sh cs 0
 | .ptr nm off=>(m.obj? nm).bind fun o=>cutSh sh o.2 off
 | _=>none
def atomOk:AV→Bool
 | .any | .agg _ | .tup _ | .vec ..=>false
 | _=>true
def shOk (sh:Sh) (v:AV):Bool:=match sh with
 | none=>atomOk v
 | some n=>match v with
  | .agg cs=>cs.length==n&&cs.all atomOk
  | _=>false
def putAt (cs:List AV) (off:Nat) (vs:List AV):List AV:=cs.take off++vs++cs.drop (off+vs.length)
def storeA (sh:Sh) (m:Mem) (x v:AV):Option Mem:=match x with
 | .ptr nm off=>(m.obj? nm).bind fun o=>
  if off+sh.size≤o.2.length then if shOk sh v then some (m.set nm (some (.obj o.1 (putAt o.2 off v.cells)))) else none else none
 | _=>none
def nilA (x:AV):Option AV:=match x with
 | .vptr cs=>some (.vptr cs)
 | .ptr nm off=>some (.ptr nm off)
 | .fn f cs=>some (.fn f cs)
 | _=>none
def fnOf (x:AV):Option (Nat×List AV):=match x with
 | .fn f cs=>some (f,cs)
 | _=>none
def fieldAddrA (off:Nat) (x:AV):Option AV:=match x with
 | .vptr cs=>if off<cs.length then some (.vptr (cs.drop off)) else none
 | .ptr nm o=>some (.ptr nm (o+off))
 | _=>none
def fieldA (off:Nat) (sh:Sh) (x:AV):Option AV:=match x with
 | .agg cs=>cutSh sh cs off
 | _=>none
def indexAddrA (sh:Sh) (x i:AV):Option AV:=match i with
 | .int _ i=>match x with
  | .lst sh' _ _ es=>if sh'=sh then if 0≤i then (es[i.toNat]?).map fun e=>.vptr e.cells else none else none
  | .arr nm off n sh'=>if sh'=sh then if 0≤i∧i<n then some (.ptr nm (off+i.toNat*sh.size)) else none else none
  | .vec n sh' cs=>if sh'=sh then if 0≤i∧i<n then some (.vptr ((cs.drop (i.toNat*sh.size)).take sh.size)) else none else none
  | _=>none
 | _=>none
def arrAddrA (len:Nat) (sh:Sh) (x i:AV):Option AV:=match i with
 | .int _ i=>if 0≤i∧i<len then fieldAddrA (i.toNat*sh.size) x else none
 | _=>none
def indexStrA (x i:AV):Option AV:=match x,i with
 | .str s,.int _ i=>if 0≤i then (s[i.toNat]?).map fun b=>.int .u8 b.toNat else none
 | _,_=>none
def boundA (y:Nat) (x:Option AV) (dflt:Nat):Option Nat:=match x with
 | none=>some dflt
 | some (.int _ i)=>if 0≤i∧i≤y then some i.toNat else none
 | _=>none
def sliceA (x:AV) (lo hi mx:Option AV):Option AV:=match x with
 | .lst sh z _ es=>match mx with
  | none=>(boundA es.length hi es.length).bind fun h=>(boundA h lo 0).bind fun l=>some (.lst sh z .no ((es.take h).drop l))
  | some mv=>match hi with
   | none=>none
   | some hv=>(boundA es.length (some mv) 0).bind fun m=>(boundA m (some hv) 0).bind fun h=>(boundA h lo 0).bind fun l=>
    if h=m then some (.lst sh z .full ((es.take h).drop l)) else some (.lst sh z .no ((es.take h).drop l))
 | .arr nm off n sh=>match mx with
  | none=>(boundA n hi n).bind fun h=>(boundA h lo 0).bind fun l=>some (.arr nm (off+l*sh.size) (h-l) sh)
  | some _=>none
 | .str s=>match mx with
  | none=>(boundA s.size hi s.size).bind fun h=>(boundA h lo 0).bind fun l=>some (.str (s.extract l h))
  | some _=>none
 | _=>none
def sliceT (sh:Sh) (x:AV) (lo hi mx:Option AV):Option AV:=match x with
 | .lst sh' z o es=>if sh'=sh∨es=[] then sliceA (.lst sh' z o es) lo hi mx else none
 | .arr nm off n sh'=>if sh'=sh then sliceA (.arr nm off n sh') lo hi mx else none
 | _=>none
def sliceS (x:AV) (lo hi mx:Option AV):Option AV:=match x with
 | .str s=>sliceA (.str s) lo hi mx
 | _=>none
mutual
def pl:AV→Bool
 | .int .. | .bool _ | .str _ | .nilp | .nilf | .nile | .nilm=>true
 | .lst _ _ o _=>match o with
  | .tok ..=>false
  | _=>true
 | .agg cs=>plL cs
 | _=>false
def plL:List AV→Bool
 | []=>true
 | c::cs=>pl c&&plL cs
end
mutual
def cl:AV→Bool
 | .lst _ _ o _=>match o with
  | .tok ..=>false
  | _=>true
 | .arr .. | .ptr .. | .mref _ | .vec ..=>false
 | .vptr cs | .agg cs | .tup cs | .fn _ cs=>clL cs
 | _=>true
def clL:List AV→Bool
 | []=>true
 | c::cs=>cl c&&clL cs
end
mutual
def noV:AV→Bool
 | .vptr _=>false
 | .agg cs | .tup cs | .fn _ cs=>noVL cs
 | _=>true
def noVL:List AV→Bool
 | []=>true
 | c::cs=>noV c&&noVL cs
end
def stripA:AV→AV
 | .lst sh z (.tok ..) es=>.lst sh z .no es
 | v=>v
def strip:AV→AV
 | .agg cs=>.agg (cs.map stripA)
 | v=>stripA v
def groupBy (n:Nat):Nat→List AV→List (List AV)
 | 0,_=>[]
 | k+1,cs=>cs.take n::groupBy n k (cs.drop n)
def grp (sh:Sh) (k:Nat) (cs:List AV):List AV:=match sh with
 | none=>cs.take k
 | some n=>(groupBy n k cs).map .agg
def mapF (f:AV→Option (AV×List Nat)):List AV→Option (List AV×List Nat)
 | []=>some ([],[])
 | c::cs=>(f c).bind fun r=>(mapF f cs).map fun s=>(r.1::s.1,r.2++s.2)
def frz (m:Mem):Nat→AV→Option (AV×List Nat)
 | 0,_=>none
 | k+1,v=>match v with
  | .lst sh z o es=>some (match o with
   | .tok ..=>.lst sh z .no es
   | o=>.lst sh z o es,[])
  | .arr nm off n sh=>(m.obj? nm).bind fun o=>
   if !o.1&&decide (off+n*sh.size≤o.2.length) then (mapF (frz m k) ((o.2.drop off).take (n*sh.size))).bind fun r=>
    if r.1.all atomOk&&plL r.1 then some (.lst sh false .no (grp sh n r.1),nm::r.2) else none
   else none
  | .ptr nm off=>(m.obj? nm).bind fun o=>if o.1 then (mapF (frz m k) (o.2.drop off)).map fun r=>(.vptr r.1,r.2) else none
  | .agg cs=>(mapF (frz m k) cs).map fun r=>(.agg r.1,r.2)
  | .tup cs=>(mapF (frz m k) cs).map fun r=>(.tup r.1,r.2)
  | .fn f cs=>(mapF (frz m k) cs).map fun r=>(.fn f r.1,r.2)
  | .vptr cs=>(mapF (frz m k) cs).map fun r=>(.vptr r.1,r.2)
  | .mref _=>some (.any,[])
  | .vec ..=>none
  | v=>some (v,[])
def fuelF:Nat:=9
def kill (m:Mem) (l:List Nat):Mem:=l.foldl (fun m nm=>m.set nm none) m
def isIntA:AV→Bool
 | .int ..=>true
 | _=>false
def rowC:AV→Bool
 | .bool _=>true
 | .lst sh _ o ds=>match sh with
  | some _=>false
  | none=>match o with
   | .tok ..=>false
   | _=>ds.all isIntA
 | _=>false
def thawA (base:Nat) (m:Mem) (v:AV):Option (AV×Mem):=match v with
 | .agg [.int k a,.int k' b,.lst sh z o es]=>match o with
  | .tok nm _=>match sh with
   | none=>none
   | some n=>match m.get nm with
    | some (.tok c sz)=>if c=es.length∧sz=n∧(es.flatMap AV.cells).all rowC=true then some (.agg [.int k a,.int k' b,.arr base 0 es.length (some n)],[some (.obj false (es.flatMap AV.cells))]) else none
    | _=>none
  | _=>match es with
   | []=>match z with
    | true=>some (.agg [.int k a,.int k' b,.lst sh true o []],[])
    | false=>none
   | _::_=>none
 | _=>none
def elemOk (P:Program) (e:Nat) (sh:Sh):Bool:=match P.info? e with
 | some i=>i.size==sh.size&&decide (0<i.size)&&(match i.zero with|some z=>z.cells.size==i.size&&(match sh,z with|none,.agg _=>false|_,_=>true)|none=>false)
 | none=>false
def zeros (sh:Sh) (z:AV) (n:Nat):List AV:=match sh with
 | none=>List.replicate n z
 | some _=>(List.replicate n z.cells).flatten
def newAt (d:Option Nat) (m:Mem) (e:Ent):Nat×Mem:=match d with
 | none=>(m.length,m++[some e])
 | some s=>(s,m.set s (some e))
def roomA:Nat:=140737488355328
def rowY (m:Mem) (sh:Sh):AV→Option (Nat×List AV)
 | .lst shy _ _ ys=>if shy=sh∧0<ys.length then some (ys.length,ys.flatMap AV.cells) else none
 | .arr nm off n shy=>(m.obj? nm).bind fun o=>if shy=sh∧0<n∧off+n*sh.size≤o.2.length∧((o.2.drop off).take (n*sh.size)).all atomOk=true then some (n,(o.2.drop off).take (n*sh.size)) else none
 | .vec n shy cs=>if shy=sh∧0<n∧cs.length=n*sh.size then some (n,cs) else none
 | _=>none
def rowX (m:Mem) (sh:Sh):AV→Option (Nat×List AV×Mem)
 | .lst shx _ o es=>match o with
  | .full=>if shx=sh∨es=[] then some (es.length,es.flatMap AV.cells,m) else none
  | _=>none
 | .arr nm off n shx=>(m.obj? nm).bind fun o=>if shx=sh∧off=0∧0<n∧o.1=false∧o.2.length=n*sh.size then some (n,o.2,m.set nm none) else none
 | _=>none
def appR (d:Option Nat) (arrm:Bool) (sh:Sh) (bytes:Nat) (m:Mem) (x y:AV):Option (AV×Mem):=match d,arrm with
 | none,true=>(rowY m sh y).bind fun q=>(rowX m sh x).bind fun p=>
  if (p.1+q.1)*bytes≤roomA then some (.arr p.2.2.length 0 (p.1+q.1) sh,p.2.2++[some (.obj false (p.2.1++q.2))]) else none
 | _,_=>none
def appA (d:Option Nat) (arrm:Bool) (e:Nat) (sh:Sh) (bytes:Nat) (m:Mem) (x y:AV):Option (AV×Mem):=match x,y with
 | .lst shx z o es,.lst shy _ _ ys=>match ys with
  | []=>some (.lst shx z o es,m)
  | y::ys=>
   if shy=sh then
    if (es.length+(y::ys).length)*bytes≤roomA then
     match o with
     | .no=>none
     | .full=>
      if shx=sh∨es=[] then
       if arrm then some (.arr (newAt d m .resv).1 0 (es.length+(y::ys).length) sh,(newAt d m (.obj false ((es++y::ys).flatMap AV.cells))).2)
       else some (.lst sh false (.tok (newAt d m .resv).1 e) (es++y::ys),(newAt d m (.tok (es.length+(y::ys).length) sh.size)).2)
      else none
     | .tok nm e'=>
      if shx=sh∧e'=e∧arrm=false then match m.get nm with
       | some (.tok k sz)=>if k=es.length∧sz=sh.size then some (.lst sh false (.tok nm e) (es++y::ys),m.set nm (some (.tok (es.length+(y::ys).length) sh.size))) else none
       | _=>none
      else none
    else none
   else none
 | x,y=>appR d arrm sh bytes m x y
def boxA (d:Option Nat) (sh:Sh) (m:Mem) (v:AV):Option (AV×Mem):=if shOk sh v then some (.ptr (newAt d m .resv).1 0,(newAt d m (.obj true v.cells)).2) else none
def buildSliceA (sh:Sh) (vs:List AV):Option AV:=if vs.all (fun v=>shOk sh (strip v)&&pl (strip v)) then some (.lst sh false .full (vs.map strip)) else if vs.all (fun v=>shOk sh (strip v)) then some (.vec vs.length sh ((vs.map strip).flatMap AV.cells)) else none
def fillA:List AV→List (Nat×Sh×AV)→Option (List AV)
 | cs,[]=>some cs
 | cs,(off,sh,v)::r=>if shOk sh v then if off+sh.size≤cs.length then fillA (putAt cs off v.cells) r else none else none
def buildA (zero:AV) (parts:List (Nat×Sh×AV)):Option AV:=match zero with
 | .agg cs=>(fillA cs parts).map .agg
 | _=>none
def makeA (d:Option Nat) (e:Nat) (sh:Sh) (z:AV) (bytes:Nat) (m:Mem) (l c:AV):Option (AV×Mem):=match l,c with
 | .int _ l,.int _ c=>
  if 0≤l∧l≤c∧c*bytes≤281474976710656∧c≤9223372036854775807 then
   if l=c then some (.arr (newAt d m .resv).1 0 l.toNat sh,(newAt d m (.obj false (zeros sh z l.toNat))).2)
   else if l=0 then some (.lst sh false (.tok (newAt d m .resv).1 e) [],(newAt d m (.tok 0 sh.size)).2) else none
  else none
 | _,_=>none
def atomV:AV→Option Value
 | .int k n=>some (.int k n)
 | .bool b=>some (.bool b)
 | .str s=>some (.string s)
 | _=>none
def atomsV:List AV→Option (List Value)
 | []=>some []
 | x::xs=>(atomV x).bind fun v=>(atomsV xs).map fun vs=>v::vs
def flatV:AV→Option Value
 | .agg cs=>(atomsV cs).map fun vs=>.agg vs.toArray
 | x=>atomV x
def wfI (k:IntKind) (n:Int):Bool:=decide (k.min≤n)&&decide (n≤k.max)
def intW (k:IntKind):AV→Bool
 | .int k' n=>decide (k'=k)&&wfI k n
 | _=>false
def keyOkA:KK→AV→Bool
 | .str,.str s=>decide (s.size≤maxLen)
 | .int k,x=>intW k x
 | .arr n k,.agg cs=>cs.length==n&&cs.all (intW k)
 | _,_=>false
def atomB:AV→AV→Bool
 | .int k n,.int k' n'=>decide (k=k')&&decide (n=n')
 | .str s,.str t=>decide (s=t)
 | _,_=>false
def atomsB:List AV→List AV→Bool
 | [],[]=>true
 | x::xs,y::ys=>atomB x y&&atomsB xs ys
 | _,_=>false
def keyB:AV→AV→Bool
 | .agg cs,.agg ds=>atomsB cs ds
 | x,y=>atomB x y
def kkOf (P:Program) (k:Nat):Option KK:=match P.underlying k with
 | some .string=>some .str
 | some (.int q)=>some (.int q)
 | some (.array n e)=>match P.underlying e with
  | some (.int q)=>if P.tiled 2 k&&P.keyTypeAt 2 k&&P.keyType k&&(P.cellsOf e==1)&&decide (0<P.types.size) then some (.arr n q) else none
  | _=>none
 | _=>none
def mapsOn:Bool:=false
def mapTyA (P:Program) (t:Nat):Option (KK×Nat):=match P.underlying t with
 | some (.map k e)=>(kkOf P k).map fun kk=>(kk,e)
 | _=>none
def mapTy (P:Program) (t:Nat):Option (KK×Nat):=match mapsOn with
 | true=>mapTyA P t
 | false=>none
def mpA (m:Mem) (kk:KK) (x:AV):Option (Nat×List (AV×AV)):=match x with
 | .mref nm=>match m.get nm with
  | some (.mp kk' es)=>if kk'=kk then some (nm,es) else none
  | _=>none
 | _=>none
def lookE (es:List (AV×AV)) (key z:AV):AV×Bool:=match es.find? (fun p=>keyB p.1 key) with
 | some p=>(p.2,true)
 | none=>(z,false)
def lookA (kk:KK) (z:AV) (m:Mem) (x key:AV):Option (AV×Bool):=(mpA m kk x).bind fun q=>if keyOkA kk key=true then some (lookE q.2 key z) else none
def putE (es:List (AV×AV)) (key v:AV):List (AV×AV):=match es.any (fun p=>keyB p.1 key) with
 | true=>es.map fun p=>if keyB p.1 key then (p.1,v) else p
 | false=>es++[(key,v)]
def mvOk (_:AV):Bool:=true
def updA (kk:KK) (m:Mem) (x key v:AV):Option Mem:=(mpA m kk x).bind fun q=>if keyOkA kk key=true∧mvOk v=true∧q.2.length<maxLen then some (m.set q.1 (some (.mp kk (putE q.2 key v)))) else none
def makeT (d:Option Nat) (sh:Sh) (z:AV) (bytes:Nat) (m:Mem) (l c:AV):Option (AV×Mem):=match d,sh,l,c with
 | none,none,.int _ l,.int _ c=>
  if (0≤l∧l=c∧c*bytes≤281474976710656∧c≤9223372036854775807)∧atomOk z=true∧pl z=true then some (.lst none false .full (List.replicate l.toNat z),m) else none
 | _,_,_,_=>none
def structOk (P:Program) (t:Nat):Bool:=match P.underlying t with
 | some (.struct fs)=>fs.all fun f=>(P.info? f.type).isSome
 | some (.array _ e)=>(P.info? e).isSome
 | _=>false
section
variable {R:Type} (C:Cfg) (fid:Nat) (callP:Nat→List AV→Option AV) (callI:Nat→List AV→Mem→Option (AV×Mem)) (d:Option Nat)
def pcall (d:Option Nat) (m:Mem) (g:Nat) (vs:List AV):Option (AV×Mem):=
 (mapF (frz m fuelF) vs).bind fun r=>if d.isSome && !r.2.isEmpty then none else (callP g r.1).map fun v=>(v,kill m r.2)
def thawCall (m:Mem) (g:Nat) (vs:List AV):Option (AV×Mem):=
 (mapF (frz m fuelF) vs).bind fun r=>(callI g r.1 []).bind fun q=>(thawA m.length q.2 q.1).map fun t=>(t.1,kill m r.2++t.2)
def frzI (m:Mem) (x:AV):Option (AV×List Nat):=match x with
 | .arr nm off n sh=>frz m fuelF (.arr nm off n sh)
 | x=>some (x,[])
def frzCall (m:Mem) (g:Nat) (vs:List AV):Option (AV×Mem):=(mapF (frzI m) vs).bind fun r=>callI g r.1 (kill m r.2)
def callK (g:Nat) (vs:List AV) (m:Mem) (K:AV→Mem→Option R):Option R:=
 match C.libm g with
 | some h=>match d with
  | none=>(h vs m).bind fun r=>K r.1 r.2
  | some _=>none
 | none=>match C.lib g with
 | some h=>(h vs).bind fun v=>K v m
 | none=>match C.inl fid g with
  | true=>match d with
   | none=>(match C.frzc fid g with|true=>frzCall callI m g vs|false=>match C.thaw fid g with|true=>thawCall callI m g vs|false=>callI g vs m).bind fun r=>K r.1 r.2
   | some _=>none
  | false=>(pcall callP d m g vs).bind fun r=>K r.1 r.2
def builtinK (b:Builtin) (ts:Array TypeId) (vs:List AV) (m:Mem) (K:AV→Mem→Option R):Option R:=
 match b,vs with
 | .len,[x]=>match (ts[0]?).bind C.P.underlying with
  | some (.slice _)=>(lenA false x).bind fun v=>K v m
  | some .string=>(lenA true x).bind fun v=>K v m
  | _=>none
 | .max,[x,y]=>(maxA true x y).bind fun v=>K v m
 | .min,[x,y]=>(maxA false x y).bind fun v=>K v m
 | .append,[x,y]=>match ts[0]?,ts[1]? with
  | some t,some t'=>if t=t' then
    match elemOf C.P t with
    | some e=>match shOf C.P e with
     | some sh=>if elemOk C.P e sh then (appA d (C.arrm fid) e sh (bytesOf C.P e) m x y).bind fun r=>K r.1 r.2 else none
     | none=>none
    | none=>none
   else none
  | _,_=>none
 | _,_=>none
def opK (o:Oper) (ρ:Operand→AV) (m:Mem) (K:AV→Mem→Option R):Option R:=
 match o.op with
 | .move x=>K (ρ x) m
 | .assign x=>K (ρ x) m
 | .pick c a b=>(pickA (ρ c) (ρ a) (ρ b)).bind fun v=>K v m
 | .alloc t=>match zeroOf C.P t with
  | some z=>K (.ptr (newAt d m .resv).1 0) (newAt d m (.obj true z.cells)).2
  | none=>none
 | .box t x=>match shOf C.P t with
  | some sh=>(boxA d sh m (ρ x)).bind fun r=>K r.1 r.2
  | none=>none
 | .build t ps=>if structOk C.P t then match zeroOf C.P t,ps.toList.mapM (fun p=>(partOf C.P t p.1).map fun f=>(f.1,f.2,ρ p.2)) with
  | some z,some l=>(buildA z l).bind fun v=>K v m
  | _,_=>none else none
 | .buildSlice t n ps=>match elemOf C.P t with
  | some e=>match shOf C.P e with
   | some sh=>if elemOk C.P e sh&&(ps.toList.map (·.1)==List.range n)&&decide (n*sh.size≤16777216) then (buildSliceA sh (ps.toList.map fun p=>ρ p.2)).bind fun v=>K v m else none
   | none=>none
  | none=>none
 | .load t a=>match shOf C.P t with
  | some sh=>(loadA sh m (ρ a)).bind fun v=>K v m
  | none=>none
 | .store t a x=>match shOf C.P t with
  | some sh=>(storeA sh m (ρ a) (ρ x)).bind fun m'=>K .any m'
  | none=>none
 | .nilCheck x=>(nilA (ρ x)).bind fun v=>K v m
 | .binOp op t x y _=>(binA (tkOf C.P t) op (ρ x) (ρ y)).bind fun v=>K v m
 | .unOp op _ x=>(unA op (ρ x)).bind fun v=>K v m
 | .convert src dst x=>match C.P.underlying dst with
  | some (.int k)=>if (C.P.underlying src).isSome then (convA k (ρ x)).bind fun v=>K v m else none
  | _=>none
 | .makeFunc fn fi cs=>match fn,fi.toList with
  | .func f,[]=>K (.fn f (cs.toList.map ρ)) m
  | _,_=>none
 | .makeSlice t l c=>match elemOf C.P t with
  | some e=>match shOf C.P e,zeroOf C.P e with
   | some sh,some z=>if elemOk C.P e sh then (match C.tokm fid with|true=>makeT d sh z (bytesOf C.P e) m (ρ l) (ρ c)|false=>makeA d e sh z (bytesOf C.P e) m (ρ l) (ρ c)).bind fun r=>K r.1 r.2 else none
   | _,_=>none
  | none=>none
 | .slice t x lo hi mx=>match C.P.underlying t with
  | some (.slice e)=>match shOf C.P e with
   | some sh=>if elemOk C.P e sh then (sliceT sh (ρ x) (lo.map ρ) (hi.map ρ) (mx.map ρ)).bind fun v=>K v m else none
   | none=>none
  | some .string=>(sliceS (ρ x) (lo.map ρ) (hi.map ρ) (mx.map ρ)).bind fun v=>K v m
  | _=>none
 | .fieldAddr t x f=>match fieldOf C.P t f with
  | some (off,_)=>(fieldAddrA off (ρ x)).bind fun v=>K v m
  | none=>none
 | .field t x f=>match fieldOf C.P t f with
  | some (off,sh)=>(fieldA off sh (ρ x)).bind fun v=>K v m
  | none=>none
 | .indexAddr t x i=>match C.P.underlying t with
  | some (.slice e)=>match shOf C.P e with
   | some sh=>if elemOk C.P e sh then (indexAddrA sh (ρ x) (ρ i)).bind fun v=>K v m else none
   | none=>none
  | some (.array n e)=>match shOf C.P e with
   | some sh=>if elemOk C.P e sh then (arrAddrA n sh (ρ x) (ρ i)).bind fun v=>K v m else none
   | none=>none
  | _=>none
 | .index t x i=>match C.P.underlying t with
  | some .string=>(indexStrA (ρ x) (ρ i)).bind fun v=>K v m
  | _=>none
 | .extract t i=>(extractA (ρ t) i).bind fun v=>K v m
 | .call c=>match c.callee with
  | .value f=>(fnOf (ρ f)).bind fun gc=>callK C fid callP callI d gc.1 (c.args.toList.map ρ++gc.2) m K
  | .builtin b=>builtinK C fid d b c.argTypes (c.args.toList.map ρ) m K
  | _=>none
 | .makeMap t n=>match n,d with
  | none,none=>match mapTy C.P t with
   | some (kk,_)=>K (.mref (newAt d m .resv).1) (newAt d m (.mp kk [])).2
   | none=>none
  | _,_=>none
 | .lookup t x i ok=>match mapTy C.P t with
  | some (kk,e)=>match zeroOf C.P e with
   | some z=>(lookA kk z m (ρ x) (ρ i)).bind fun r=>match ok with
    | true=>K (.tup [r.1,.bool r.2]) m
    | false=>K r.1 m
   | none=>none
  | none=>none
 | .mapUpdate t x i y=>match mapTy C.P t with
  | some (kk,_)=>(updA kk m (ρ x) (ρ i) (ρ y)).bind fun m'=>K .any m'
  | none=>none
 | .insert t x i y=>match mapTy C.P t with
  | some (kk,_)=>(updA kk m (ρ x) (ρ i) (ρ y)).bind fun m'=>K .any m'
  | none=>none
 | .defer c=>match c.callee with
  | .value f=>match c.args.toList with
   | []=>(fnOf (ρ f)).bind fun gc=>match C.ben gc.1 with
    | true=>K .any m
    | false=>none
   | _::_=>none
  | _=>none
 | _=>none
end
def ev (ts:List AV):Operand→AV
 | .tmp t=>ts.getD t .any
 | .const v=>valA v
 | .global _=>.any
 | .func f=>.fn f []
def setD (ts:List AV) (dst:Option Nat) (v:AV):List AV:=match dst with
 | some d=>ts.set d v
 | none=>ts
section
variable {R:Type} (C:Cfg) (fid:Nat) (callP:Nat→List AV→Option AV) (callI:Nat→List AV→Mem→Option (AV×Mem))
def makes (o:Oper):Bool:=match o.op with
 | .alloc _ | .box .. | .makeSlice ..=>true
 | .call c=>match c.callee with
  | .builtin .append=>true
  | _=>false
 | _=>false
def rankA (ops:Array Oper) (i:Nat):Nat:=((ops.toList.take i).filter makes).length
def skpd (ops:Array Oper) (ts:List AV) (j:Nat):Bool:=match (ops[j]?).bind (·.guard) with
 | none=>false
 | some (j',want)=>match (ops[j']?).bind (·.dst) with
  | none=>false
  | some g=>match ts.getD g .any with
   | .bool b=>match b with
    | true=>match want with
     | true=>false
     | false=>true
    | false=>want
   | .tup _=>true
   | _=>false
def runOps (base:Option Nat) (ops:Array Oper):List Nat→St→(St→Option R)→Option R
 | [],st,K=>K st
 | i::l,st,K=>match ops[i]? with
  | none=>none
  | some o=>match o.guard with
   | none=>opK C fid callP callI (base.map (· + rankA ops i)) o (ev st.tmps) st.mem fun v m=>runOps base ops l ⟨setD st.tmps o.dst v,m⟩ K
   | some (j,want)=>match (ops[j]?).bind (·.dst) with
    | none=>none
    | some g=>
     let run (b:Bool):Option R:=opK C fid callP callI (base.map (· + rankA ops i)) o (ev (st.tmps.set g (.bool b))) st.mem fun v m=>runOps base ops l ⟨setD (st.tmps.set g (.bool b)) o.dst v,m⟩ K
     let skip (b:Bool):Option R:=runOps base ops l ⟨setD (st.tmps.set g (.bool b)) o.dst (.tup []),st.mem⟩ K
     match skpd ops st.tmps j with
     | true=>match st.tmps.getD g .any with
      | .tup cs=>match cs with
       | []=>runOps base ops l ⟨setD st.tmps o.dst (.tup []),st.mem⟩ K
       | _::_=>none
      | _=>none
     | false=>match want with
      | true=>ifA (st.tmps.getD g .any) (run true) (skip false)
      | false=>ifA (st.tmps.getD g .any) (skip true) (run false)
def maskA:List Bool→List AV→List AV
 | _,[]=>[]
 | [],_::vs=>.any::maskA [] vs
 | b::bs,v::vs=>(match b with|true=>v|false=>.any)::maskA bs vs
abbrev blockK (id:Nat) (K:Ex→St→Option R):Ex→St→Option R:=fun e st'=>match e with
 | .normal=>K .normal st'
 | .exit j=>match j==id with
  | true=>K .normal st'
  | false=>K (.exit j) st'
 | .ret=>K .ret st'
abbrev seqK (next:St→Option R) (K:Ex→St→Option R):Ex→St→Option R:=fun e st'=>match e with
 | .normal=>next st'
 | .exit id=>K (.exit id) st'
 | .ret=>K .ret st'
def keyOf:Code→Option Nat
 | .region id _ _=>some id
 | .seq a b=>match keyOf a with
  | some k=>some k
  | none=>keyOf b
 | .cond _ a b=>match keyOf a with
  | some k=>some k
  | none=>keyOf b
 | .block _ b | .loop b | .scope b=>keyOf b
 | _=>none
inductive Cls where
 | N|L|A|Ap|W
 deriving DecidableEq
def clsOf (o:Oper):Cls:=match o.op with
 | .move _ | .assign _ | .pick .. | .binOp .. | .unOp .. | .convert .. | .nilCheck _ | .extract .. | .field .. | .fieldAddr .. | .indexAddr .. | .index .. | .slice .. | .makeFunc .. | .build .. | .buildSlice ..=>.N
 | .load .. | .lookup ..=>.L
 | .alloc _ | .box .. | .makeSlice ..=>.A
 | .call c=>match c.callee with
  | .builtin .len | .builtin .max | .builtin .min=>.N
  | .builtin .append=>.Ap
  | .value _=>.L
  | _=>.W
 | _=>.W
def clsSwap:Cls→Cls→Bool
 | .N,_|_,.N | .L,.L | .L,.A | .L,.Ap | .A,.A=>true
 | _,_=>false
def looks (ops:Array Oper) (o:Oper):List Nat:=
 (o.op.operands.toList.filterMap fun | .tmp t=>some t|_=>none) ++
 (match o.guard with
  | some (g,_)=>((ops[g]?).bind (·.dst)).toList++(match (ops[g]?).bind (·.guard) with
   | some (g',_)=>((ops[g']?).bind (·.dst)).toList
   | none=>[])
  | none=>[])
def apartA (ops:Array Oper) (x y:Oper):Bool:=
 (match x.dst with
  | some d=>!(looks ops y).contains d&&y.dst != some d
  | none=>true) &&
 (match y.dst with
  | some d=>!(looks ops x).contains d
  | none=>true)
def lookSt (x y:Oper):Bool:=match x.op with
 | .lookup ..=>match y.op with
  | .store ..=>true
  | _=>false
 | _=>false
def swapOk (ops:Array Oper) (x y:Oper):Bool:=(clsSwap (clsOf x) (clsOf y)||lookSt x y)&&apartA ops x y
def aheadTo (ops:Array Oper):Nat→List Nat
 | 0=>[]
 | n+1=>(aheadTo ops n)++[match ops[n]? with
  | some o=>(o.after.toList.filter (Region.binds .any)).foldl (fun s e=>s ||| (2^e.on ||| (aheadTo ops n).getD e.on 0)) 0
  | none=>0]
def aheadOf (ops:Array Oper):List Nat:=aheadTo ops ops.size
def pairsOk (ops:Array Oper) (ah:List Nat):List Nat→Bool
 | []=>true
 | j::l=>l.all (fun i=>(ah.getD i 0).testBit j||(match ops[j]?,ops[i]? with|some x,some y=>swapOk ops x y|_,_=>false))&&pairsOk ops ah l
def aheadAt (ops:Array Oper) (ah:List Nat) (i:Nat):Bool:=match ops[i]?,ah[i]? with
 | some o,some a=>Nat.beq a (o.after.foldl (fun s e=>match Region.binds .any e with
  | true=>s ||| (2^e.on ||| ah.getD e.on 0)
  | false=>s) 0)
 | _,_=>false
def drawOk (P:Program) (ops:Array Oper) (l:List Nat):Bool:=
 P.follows .mixedOrders&&l.isPerm (List.range ops.size)&&(List.range ops.size).all (fun i=>(match ops[i]? with|some o=>o.after.all fun e=>!Region.binds .any e||decide (e.on<i)|none=>false))&&pairsOk ops (aheadOf ops) l
def drawOk2 (P:Program) (ops:Array Oper) (l ah:List Nat):Bool:=
 P.follows .mixedOrders&&(l.isPerm (List.range ops.size)&&((List.range ops.size).all (fun i=>(match ops[i]? with|some o=>o.after.all fun e=>!Region.binds .any e||decide (e.on<i)|none=>false))&&(Nat.beq ah.length ops.size&&((List.range ops.size).all (aheadAt ops ah)&&pairsOk ops ah l))))
def clsS (o:Oper):Cls:=match clsOf o with
 | .N=>.N
 | .L=>match o.op with
  | .load ..=>.L
  | _=>.W
 | _=>.W
def swapS (ops:Array Oper) (x y:Oper):Bool:=(match clsS x,clsS y with
 | .N,_|_,.N | .L,.L=>true
 | _,_=>false)&&apartA ops x y
def lateAt:List (Nat×List Nat)→Nat→List Nat
 | [],_=>[]
 | (k,ys)::l,i=>match Nat.beq k i with
  | true=>ys
  | false=>lateAt l i
def lateS (ops:Array Oper) (x y:Oper):Bool:=(match clsS x with | .L=>true|_=>false)&&(apartA ops x y&&(match x.dst with|some d=>!(looks ops x).contains d|none=>false))
def steady (ops:Array Oper) (x:Oper) (l:List Nat):Bool:=l.all fun k=>match ops[k]? with
 | some o=>match o.dst with
  | some d=>!(looks ops x).contains d&&x.dst != some d
  | none=>true
 | none=>true
def pairsS (ops:Array Oper) (ah:List Nat) (lt:List (Nat×List Nat)):List Nat→Bool
 | []=>true
 | j::l=>(l.all (fun i=>(ah.getD i 0).testBit j||(match ops[j]?,ops[i]? with|some x,some y=>swapS ops x y||((lateAt lt i).contains j&&lateS ops x y)|_,_=>false)) &&
   ((match ops[j]? with
    | some x=>(match lateAt lt j with | []=>true|_::_=>(match clsS x with | .W=>true|_=>false))&&(!(lt.any fun p=>p.2.contains j)||steady ops x l)
    | none=>true)))&&pairsS ops ah lt l
def drawS (P:Program) (ops:Array Oper) (l ah:List Nat) (lt:List (Nat×List Nat)):Bool:=
 P.follows .mixedOrders&&(l.isPerm (List.range ops.size)&&((List.range ops.size).all (fun i=>(match ops[i]? with|some o=>o.after.all fun e=>!Region.binds .any e||decide (e.on<i)|none=>false))&&(Nat.beq ah.length ops.size&&((List.range ops.size).all (aheadAt ops ah)&&pairsS ops ah lt l))))
def reserve (m:Mem) (c:Nat):Mem:=match c with
 | 0=>m
 | c+1=>m++List.replicate (c+1) (some .resv)
def ordOf (o:Option (List Nat)) (n:Nat):List Nat:=match o with
 | some l=>l
 | none=>List.range n
end
def resA (P:Program) (m:Mem) (ts:List AV):ResultVar→Option AV
 | .tmp t=>some (ts.getD t .any)
 | .cell a t=>(shOf P t).bind fun sh=>loadA sh m (ts.getD a .any)
def resultsA (P:Program) (m:Mem) (ts:List AV):List ResultVar→Option (List AV)
 | []=>some []
 | r::rs=>(resA P m ts r).bind fun v=>(resultsA P m ts rs).map fun vs=>v::vs
def resultsK {R:Type} (P:Program) (m:Mem) (ts:List AV):List ResultVar→(List AV→Option R)→Option R
 | [],K=>K []
 | .tmp t::rs,K=>resultsK P m ts rs fun vs=>K (ts.getD t .any::vs)
 | .cell a t::rs,K=>match shOf P t with
  | some sh=>(loadA sh m (ts.getD a .any)).bind fun v=>resultsK P m ts rs fun vs=>K (v::vs)
  | none=>none
def oneOf:List AV→AV
 | [v]=>v
 | vs=>.tup vs
def acallP (call:Nat→List AV→Mem→Option (AV×Mem)) (g:Nat) (vs:List AV):Option AV:=
 (call g vs []).bind fun r=>(frz r.2 fuelF r.1).bind fun r'=>if noVL vs||noV r'.1 then some r'.1 else none
def finK (P:Program) (rs:List ResultVar):Ex→St→Option (AV×Mem):=fun e st=>match e with
 | .normal=>resultsK P st.mem st.tmps rs fun vs=>some (oneOf vs,st.mem)
 | .exit _=>none
 | .ret=>resultsK P st.mem st.tmps rs fun vs=>some (oneOf vs,st.mem)
def bodyOf (f:Func):Code:=f.body.getD .skip
def c1:Code→Code
 | .seq a _=>a
 | .cond _ a _=>a
 | .block _ b | .loop b | .scope b=>b
 | c=>c
def c2:Code→Code
 | .seq _ b=>b
 | .cond _ _ b=>b
 | c=>c
def maskGet:List (Nat×Nat×Masks)→Nat→Option Nat→Masks
 | [],_,_=>⟨[],[],[]⟩
 | (f,k,m)::l,f',k'=>match f==f'&&some k==k' with
  | true=>m
  | false=>maskGet l f' k'
def ordGet:List (Nat×Nat×List Nat)→Nat→Nat→Option (List Nat)
 | [],_,_=>none
 | (f,k,m)::l,f',k'=>match f==f'&&k==k' with
  | true=>some m
  | false=>ordGet l f' k'
abbrev nl0:AV:=.lst none true .full []
abbrev yA1 (l:List AV):List AV:=.any::l
abbrev yA2 (l:List AV):List AV:=.any::.any::l
abbrev yA4 (l:List AV):List AV:=.any::.any::.any::.any::l
abbrev yA8 (l:List AV):List AV:=.any::.any::.any::.any::.any::.any::.any::.any::l
abbrev yA16 (l:List AV):List AV:=yA8 (yA8 l)
abbrev yA32 (l:List AV):List AV:=yA16 (yA16 l)
abbrev yA64 (l:List AV):List AV:=yA32 (yA32 l)
@[match_pattern] abbrev AV.I (n:Int):AV:=.int .i64 n
@[match_pattern] abbrev TK.o:TK:=.other
@[match_pattern] abbrev AV.U (n:Int):AV:=.int .u64 n
@[match_pattern] abbrev Ent.B (l:List AV):Ent:=.obj true l
abbrev OM:=Option (AV×Mem)
abbrev KT:=Ex→St→OM
end Go.Ab
set_option linter.unusedVariables false
set_option linter.unusedSimpArgs false
set_option linter.unusedSectionVars false
namespace Go.Ab
open Go.RowKit
structure G where
 wr:Nat→Nat→Prop
 box:Nat→Prop
 loc:Nat→Option Nat
 tloc:Nat→Nat→Option Nat
abbrev flat (es:List AV):List AV:=es.flatMap AV.cells
def ownOk (w:World) (g:G) (sh:Sh) (o:Own) (n:Nat) (a:Addr) (cap:Nat):Prop:=match o with
 | .no=>True
 | .full=>cap=n
 | .tok nm e=>g.tloc nm n=some a.block∧a.off=0∧∃ c:Array Value,w.heap[a.block]?=some (Obj.cells c e (0,0))∧c.size=cap*sh.size
inductive V (w:World) (g:G):AV→Value→Prop
 | any (x:Value):V w g .any x
 | int (k:IntKind) (n:Int):V w g (.int k n) (.int k n)
 | bool (b:Bool):V w g (.bool b) (.bool b)
 | str (s:ByteArray):V w g (.str s) (.string s)
 | nils (sh:Sh) (o:Own) (ho:o=.full∨o=.no):V w g (.lst sh true o []) (.slice none 0 0)
 | lst (sh:Sh) (o:Own) (es:List AV) (a:Addr) (cap:Nat) (us:Nat→Value) (hs:cap=0∨a.spot=none) (hc:es.length≤cap) (hm:cap≤maxLen)
   (hsh:∀ e∈es,shOk sh e=true∧pl e=true)
   (hcell:∀ j,j<(flat es).length→w.cell? ⟨a.block,a.off+j,none⟩=some (us j)∧¬ g.wr a.block (a.off+j)∧¬ g.box a.block)
   (hv:∀ j,j<(flat es).length→V w g ((flat es).getD j .any) (us j))
   (ho:ownOk w g sh o es.length a cap):V w g (.lst sh false o es) (.slice (some a) es.length cap)
 | arr (nm off n:Nat) (sh:Sh) (a:Addr) (cap:Nat) (hs:cap=0∨a.spot=none) (hc:n≤cap) (hm:cap≤maxLen) (hl:n=0∨g.loc nm=some a.block∧a=⟨a.block,off,none⟩∧∃ (c:Array Value) (e:TypeId),w.heap[a.block]?=some (Obj.cells c e (0,0))∧off+cap*sh.size≤c.size):V w g (.arr nm off n sh) (.slice (some a) n cap)
 | ptr (nm off b:Nat) (hl:g.loc nm=some b):V w g (.ptr nm off) (.pointer (some ⟨b,off,none⟩))
 | vptr (cs:List AV) (b off:Nat) (us:Nat→Value)
   (hcell:∀ j,j<cs.length→w.cell? ⟨b,off+j,none⟩=some (us j)∧¬ g.wr b (off+j))
   (hv:∀ j,j<cs.length→V w g (cs.getD j .any) (us j)):V w g (.vptr cs) (.pointer (some ⟨b,off,none⟩))
 | nilp:V w g .nilp (.pointer none)
 | nilf:V w g .nilf .nilFunc
 | nile:V w g .nile .nilIface
 | nilm:V w g .nilm (.map none)
 | agg (cs:List AV) (vs:Array Value) (hl:cs.length=vs.size) (hv:∀ j,j<cs.length→V w g (cs.getD j .any) (vs.getD j undef)):V w g (.agg cs) (.agg vs)
 | tup (cs:List AV) (vs:Array Value) (hl:cs.length=vs.size) (hv:∀ j,j<cs.length→V w g (cs.getD j .any) (vs.getD j undef)):V w g (.tup cs) (.tuple vs)
 | fn (f:Nat) (cs:List AV) (vs:Array Value) (hl:cs.length=vs.size) (hv:∀ j,j<cs.length→V w g (cs.getD j .any) (vs.getD j undef)):V w g (.fn f cs) (.func (.func f) #[] vs)
 | mref (nm b:Nat) (hl:g.loc nm=some b):V w g (.mref nm) (.map (some b))
 | vec (n:Nat) (sh:Sh) (cs:List AV) (a:Addr) (cap:Nat) (us:Nat→Value) (hs:cap=0∨a.spot=none) (hc:n≤cap) (hm:cap≤maxLen) (hn:cs.length=n*sh.size) (hat:∀ c∈cs,atomOk c=true)
   (hcell:∀ j,j<cs.length→w.cell? ⟨a.block,a.off+j,none⟩=some (us j)∧¬ g.wr a.block (a.off+j))
   (hv:∀ j,j<cs.length→V w g (cs.getD j .any) (us j)):V w g (.vec n sh cs) (.slice (some a) n cap)
structure Step (B:Nat) (w:World) (g:G) (w':World) (g':G):Prop where
 below:Below B w w'
 cell:∀ (b off:Nat) (u:Value),¬ g.wr b off→w.cell? ⟨b,off,none⟩=some u→w'.cell? ⟨b,off,none⟩=some u
 shape:∀ (b:Nat) (c:Array Value) (e:TypeId) (fr:Nat×Nat),w.heap[b]?=some (Obj.cells c e fr)→∃ c':Array Value,w'.heap[b]?=some (Obj.cells c' e fr)∧c'.size=c.size
 wr:∀ (b off:Nat),b<w.heap.size→¬ g.wr b off→¬ g'.wr b off
 wrB:∀ (b off:Nat),b<B→(g'.wr b off↔g.wr b off)
 box:∀ (b:Nat),b<w.heap.size→(g'.box b↔g.box b)
 loc:∀ nm b,g.loc nm=some b→g'.loc nm=some b
 tloc:∀ nm n b,g.tloc nm n=some b→g'.tloc nm n=some b
 others:∀ (k:Nat) (o:Obj),w.heap[k]?=some o→o.isCells=false→(mapsOn=true→∀ es c,o≠.map es c)→w'.heap[k]?=some o
theorem Step.refl (B:Nat) (w:World) (g:G):Step B w g w g:=
 ⟨Below.refl _ _,fun _ _ _ _ h=>h,fun _ c _ _ h=>⟨c,h,rfl⟩,fun _ _ _ h=>h,fun _ _ _=>Iff.rfl,fun _ _=>Iff.rfl,fun _ _ h=>h,fun _ _ _ h=>h,fun _ _ h _ _=>h⟩
theorem cell_lt {w:World} {b off:Nat} {u:Value} (h:w.cell? ⟨b,off,none⟩=some u):b<w.heap.size:=World.block_lt_of_cell? w ⟨b,off,none⟩ h
theorem Step.trans {B:Nat} {w w1 w2:World} {g g1 g2:G} (h:Step B w g w1 g1) (k:Step B w1 g1 w2 g2):Step B w g w2 g2 where
 below:=h.below.trans k.below
 cell b off u hm hc:=k.cell b off u (h.wr b off (cell_lt hc) hm) (h.cell b off u hm hc)
 shape b c e fr hb:=by
  obtain ⟨c1,h1,e1⟩:=h.shape b c e fr hb
  obtain ⟨c2,h2,e2⟩:=k.shape b c1 e fr h1
  exact ⟨c2,h2,e2.trans e1⟩
 wr b off hb hm:=k.wr b off (Nat.lt_of_lt_of_le hb h.below.size) (h.wr b off hb hm)
 wrB b off hb:=(k.wrB b off hb).trans (h.wrB b off hb)
 box b hb:=(k.box b (Nat.lt_of_lt_of_le hb h.below.size)).trans (h.box b hb)
 loc nm b hl:=k.loc nm b (h.loc nm b hl)
 tloc nm n b hl:=k.tloc nm n b (h.tloc nm n b hl)
 others x o hx ho hm:=k.others x o (h.others x o hx ho hm) ho hm
theorem Step.mono {B B':Nat} {w w':World} {g g':G} (h:Step B w g w' g') (hB:B'≤B):Step B' w g w' g':=
 ⟨h.below.mono hB,h.cell,h.shape,h.wr,fun b off hb=>h.wrB b off (by omega),h.box,h.loc,h.tloc,h.others⟩
theorem ownOk.step {B:Nat} {w w':World} {g g':G} {sh:Sh} {o:Own} {n:Nat} {a:Addr} {cap:Nat} (h:ownOk w g sh o n a cap) (s:Step B w g w' g'):ownOk w' g' sh o n a cap:=by
 cases o with
 | no=>trivial
 | full=>exact h
 | tok nm e=>
  obtain ⟨h1,h2,c,hc,hs⟩:=h
  obtain ⟨c',hc',hs'⟩:=s.shape _ _ _ _ hc
  exact ⟨s.tloc _ _ _ h1,h2,c',hc',hs'.trans hs⟩
theorem V.step {B:Nat} {w w':World} {g g':G} {x:AV} {v:Value} (h:V w g x v) (s:Step B w g w' g'):V w' g' x v:=by
 induction h with
 | any x=>exact .any x
 | int k n=>exact .int k n
 | bool b=>exact .bool b
 | str x=>exact .str x
 | nils sh o ho=>exact .nils sh o ho
 | lst sh o es a cap us hs hc hm hsh hcell hv ho ih=>
  refine .lst sh o es a cap us hs hc hm hsh (fun j hj=>?_) ih (ho.step s)
  obtain ⟨h1,h2,h3⟩:=hcell j hj
  exact ⟨s.cell _ _ _ h2 h1,s.wr _ _ (cell_lt h1) h2,fun hb=>h3 ((s.box _ (cell_lt h1)).1 hb)⟩
 | arr nm off n sh a cap hs hc hm hl=>exact .arr nm off n sh a cap hs hc hm (hl.imp id fun ⟨h1,h2,c,e,h3,h4⟩=>by
  obtain ⟨c',k1,k2⟩:=s.shape _ _ _ _ h3
  exact ⟨s.loc _ _ h1,h2,c',e,k1,by omega⟩)
 | ptr nm off b hl=>exact .ptr nm off b (s.loc _ _ hl)
 | vptr cs b off us hcell hv ih=>
  refine .vptr cs b off us (fun j hj=>?_) ih
  obtain ⟨h1,h2⟩:=hcell j hj
  exact ⟨s.cell _ _ _ h2 h1,s.wr _ _ (cell_lt h1) h2⟩
 | nilp=>exact .nilp
 | nilf=>exact .nilf
 | nile=>exact .nile
 | nilm=>exact .nilm
 | agg cs vs hl hv ih=>exact .agg cs vs hl ih
 | tup cs vs hl hv ih=>exact .tup cs vs hl ih
 | fn f cs vs hl hv ih=>exact .fn f cs vs hl ih
 | mref nm b hl=>exact .mref nm b (s.loc _ _ hl)
 | vec n sh cs a cap us hs hc hm hn hat hcell hv ih=>
  refine .vec n sh cs a cap us hs hc hm hn hat (fun j hj=>?_) ih
  obtain ⟨h1,h2⟩:=hcell j hj
  exact ⟨s.cell _ _ _ h2 h1,s.wr _ _ (cell_lt h1) h2⟩
def blk (g:G) (m:Mem) (nm:Nat):Option Nat:=match m.get nm with
 | some (.obj _ _)=>g.loc nm
 | some (.tok n _)=>g.tloc nm n
 | some .resv=>none
 | some (.mp _ _)=>g.loc nm
 | none=>none
def KKv:KK→Value→Prop
 | .str,v=>∃ s:ByteArray,v=.string s∧s.size≤maxLen
 | .int k,v=>∃ n:Int,v=.int k n∧wfI k n=true
 | .arr n k,v=>∃ vs:Array Value,v=.agg vs∧vs.size=n∧∀ x∈vs.toList,∃ i:Int,x=.int k i∧wfI k i=true
structure MapR (w:World) (g:G) (kk:KK) (es':Array MapEntry) (clock:Nat) (es:List (AV×AV)):Prop where
 size:es'.size≤es.length
 room:es.length≤maxLen
 stamped:MapKept.Stamped es' clock
 keys:∀ x∈es'.toList,KKv kk x.key
 ok:∀ p∈es,keyOkA kk p.1=true
 to:∀ p∈es,∃ x∈es'.toList,flatV p.1=some x.key∧V w g p.2 x.val
 frm:∀ x∈es'.toList,∃ p∈es,flatV p.1=some x.key∧V w g p.2 x.val
 on:mapsOn=true
theorem MapR.step {B:Nat} {w w':World} {g g':G} {kk:KK} {es':Array MapEntry} {clock:Nat} {es:List (AV×AV)} (M:MapR w g kk es' clock es) (s:Step B w g w' g'):MapR w' g' kk es' clock es where
 size:=M.size
 room:=M.room
 stamped:=M.stamped
 keys:=M.keys
 ok:=M.ok
 on:=M.on
 to p hp:=by obtain ⟨x,hx,h1,h2⟩:=M.to p hp;exact ⟨x,hx,h1,h2.step s⟩
 frm x hx:=by obtain ⟨p,hp,h1,h2⟩:=M.frm x hx;exact ⟨p,hp,h1,h2.step s⟩
class WInv where
 inv:World→Prop
structure MemR [WInv] (B:Nat) (w:World) (g:G) (m:Mem):Prop where
 obj:∀ nm bx cs,m.get nm=some (.obj bx cs)→∃ (b:Nat) (c:Array Value) (e:TypeId),g.loc nm=some b∧B≤b∧w.heap[b]?=some (Obj.cells c e (0,0))∧cs.length≤c.size ∧
  (∀ j,j<cs.length→V w g (cs.getD j .any) (c.getD j undef))∧(∀ off,g.wr b off)∧(g.box b↔bx=true)
 tok:∀ nm n sz,m.get nm=some (.tok n sz)→∃ (b:Nat) (c:Array Value) (e:TypeId),g.tloc nm n=some b∧B≤b∧w.heap[b]?=some (Obj.cells c e (0,0))∧(∀ off,n*sz≤off→g.wr b off)∧(∀ n',n<n'→g.tloc nm n'=none)∧¬ g.box b
 resv:∀ nm,m.get nm=some .resv→g.loc nm=none∧∀ n,g.tloc nm n=none
 fresh:∀ nm,m.length≤nm→g.loc nm=none∧∀ n,g.tloc nm n=none
 inj:∀ nm nm' b,blk g m nm=some b→blk g m nm'=some b→nm=nm'
 wrLt:∀ b off,g.wr b off→b<w.heap.size
 inv:∀ w',Below B w w'→WInv.inv w'
 boxLt:∀ b,g.box b→b<w.heap.size
 mp:∀ nm kk es,m.get nm=some (.mp kk es)→∃ (b:Nat) (es':Array MapEntry) (clock:Nat),g.loc nm=some b∧B≤b∧w.heap[b]?=some (.map es' clock)∧MapR w g kk es' clock es
theorem MemR.invB [WInv] {B:Nat} {w w1:World} {g:G} {m:Mem} (h:MemR B w g m) (s:Below B w w1):∀ w',Below B w1 w'→WInv.inv w':=fun w' k=>h.inv w' (s.trans k)
theorem MemR.invS [WInv] {B:Nat} {w w1:World} {g g1:G} {m:Mem} (h:MemR B w g m) (s:Step B w g w1 g1):∀ w',Below B w1 w'→WInv.inv w':=h.invB s.below
def TmpR (w:World) (g:G) (ts:List AV) (vs:Array Value):Prop:=ts.length=vs.size∧∀ t,V w g (ts.getD t .any) (vs.getD t undef)
theorem TmpR.step {B:Nat} {w w':World} {g g':G} {ts:List AV} {vs:Array Value} (h:TmpR w g ts vs) (s:Step B w g w' g'):TmpR w' g' ts vs:=⟨h.1,fun t=>(h.2 t).step s⟩
end Go.Ab
set_option linter.unusedVariables false
set_option linter.unusedSimpArgs false
set_option linter.unusedSectionVars false
namespace Go.Ab
open Go.RowKit
theorem V_atom (w:World) (g:G) (v:Value):V w g (atomA v) v:=by
 unfold atomA
 split
 ·exact .int _ _
 ·exact .bool _
 ·exact .str _
 ·exact .nils _ _ (.inl rfl)
 ·exact .nilp
 ·exact .nilf
 ·exact .nile
 ·exact .nilm
 ·exact .any _
theorem V_val (w:World) (g:G) (v:Value):V w g (valA v) v:=by
 unfold valA
 split
 ·rename_i cs
  refine .agg _ _ (by simp) fun j hj=>?_
  have hj':j<cs.size:=by simpa using hj
  have:(cs.toList.map atomA).getD j .any=atomA (cs.getD j undef):=by
   simp[List.getD_eq_getElem?_getD,Array.getD,hj']
  rw[this]
  exact V_atom _ _ _
 ·exact V_atom _ _ _
section
variable {P:Program} {w:World} {g:G}
theorem run_binOp_other (op:BinOp) (k:IntKind) (a b:Int) {v:AV} (h:binInt op k a b=some v) (hs:op≠.shl∧op≠.shr) (t:Nat):∃ v',(binOp op t (.int k a) (.int k b)).run P w=.ok v' w∧V w g v v':=by
 cases op<;>simp[binInt] at h<;>first
  | (obtain ⟨hb,rfl⟩:=h;refine ⟨_,?_,.int _ _⟩;simp[binOp,Op.intArith,Op.intDiv,Op.intBits,Op.intCmp,hb];done)
  | (subst h;first|refine ⟨_,?_,.int _ _⟩|refine ⟨_,?_,.bool _⟩)
 all_goals first
  | (simp[binOp,Op.intArith,Op.intDiv,Op.intBits,Op.intCmp];done)
  | exact absurd rfl hs.1|exact absurd rfl hs.2|skip
theorem run_eqGuard (op:BinOp) (t:Nat) (x y:Operand) (a b:Value) (h:(match a,b with | .nilIface,.nilIface=>false | .agg _,.agg _=>false|_,_=>true)=true):(eqGuard op t x y a b).run P w=.ok () w:=by
 cases op<;>simp[eqGuard]<;>(split<;>simp_all)
theorem run_equalIn_ptr (d t e:Nat) (p:Option Addr) (h:P.underlying t=some (.pointer e)):(Op.equalIn (d+1) t (.pointer p) (.pointer none)).run P w=.ok p.isNone w:=by
 cases p<;>simp[Op.equalIn,run_underlying h]
theorem run_equal_ptr (t e:Nat) (p:Option Addr) (h:P.underlying t=some (.pointer e)):(Op.equal t (.pointer p) (.pointer none)).run P w=.ok p.isNone w:=run_equalIn_ptr 9999 t e p h
theorem run_equalIn_fnil (d t:Nat) {a b:Array Nat} {c:Bool} (h:P.underlying t=some (.func a b c)):(Op.equalIn (d+1) t .nilFunc .nilFunc).run P w=.ok true w:=by
 simp[Op.equalIn,run_underlying h]
theorem run_equal_fnil (t:Nat) {a b:Array Nat} {c:Bool} (h:P.underlying t=some (.func a b c)):(Op.equal t .nilFunc .nilFunc).run P w=.ok true w:=run_equalIn_fnil 9999 t h
theorem run_equalIn_func (d t:Nat) {a b:Array Nat} {c:Bool} {f:Fn} {x:Array Value} {y:Array Value} (h:P.underlying t=some (.func a b c)):(Op.equalIn (d+1) t (.func f x y) .nilFunc).run P w=.ok false w:=by
 simp[Op.equalIn,run_underlying h]
theorem run_equal_func (t:Nat) {a b:Array Nat} {c:Bool} {f:Fn} {x:Array Value} {y:Array Value} (h:P.underlying t=some (.func a b c)):(Op.equal t (.func f x y) .nilFunc).run P w=.ok false w:=run_equalIn_func 9999 t h
theorem eqB_sound {op:BinOp} {b:Bool} {v:AV} {t:Nat} {x y:Value} (h:eqB op b=some v) (hr:(Op.equal t x y).run P w=.ok b w) (he:binOp .eql t x y=(do pure (.bool (← Op.equal t x y)))) (hn:binOp .neq t x y=(do pure (.bool (!(← Op.equal t x y))))):∃ v',(binOp op t x y).run P w=.ok v' w∧V w g v v':=by
 cases op<;>simp[eqB] at h
 ·subst h
  exact ⟨_,by rw[he];simp[hr],.bool _⟩
 ·subst h
  exact ⟨_,by rw[hn];simp[hr],.bool _⟩
theorem bin_sound (op:BinOp) (t:Nat) (ox oy:Operand) {x y v:AV} {x' y':Value} (hx:V w g x x') (hy:V w g y y') (h:binA (tkOf P t) op x y=some v) :
  ∃ v',(do eqGuard op t ox oy x' y';binOp op t x' y':Sem Value).run P w=.ok v' w∧V w g v v':=by
 unfold binA at h
 split at h
 ·rename_i tk k a k' b
  cases hx;cases hy
  have hg:(eqGuard op t ox oy (.int k a) (.int k' b)).run P w=.ok () w:=run_eqGuard _ _ _ _ _ _ rfl
  simp only[Sem.run_bind,hg,Result.andThen_ok]
  split at h
  ·unfold shiftA at h
   split at h
   ·cases h
   ·simp at h
    subst h
    refine ⟨_,?_,.int _ _⟩
    simp[binOp,Op.shift, *]
  ·unfold shiftA at h
   split at h
   ·cases h
   ·simp at h
    subst h
    refine ⟨_,?_,.int _ _⟩
    simp[binOp,Op.shift, *]
  ·split at h
   ·rename_i hk
    subst hk
    exact run_binOp_other op k a b h ⟨by assumption,by assumption⟩ t
   ·cases h
 ·rename_i tk a b
  cases hx;cases hy
  have hg:(eqGuard op t ox oy (.string a) (.string b)).run P w=.ok () w:=run_eqGuard _ _ _ _ _ _ rfl
  simp only[Sem.run_bind,hg,Result.andThen_ok]
  cases op<;>simp[binStr] at h
  ·obtain ⟨hsz,rfl⟩:=h
   refine ⟨_,?_,.str _⟩
   have:¬ (IntKind.i64.max<((a.size:Int)+(b.size:Int))):=by
    have:IntKind.i64.max=9223372036854775807:=rfl
    omega
   simp[binOp,Op.stringOp,this]
   omega
  ·subst h
   exact ⟨_,by simp[binOp,Op.stringOp],.bool _⟩
  ·subst h
   exact ⟨_,by simp[binOp,Op.stringOp],.bool _⟩
 ·rename_i a b htk
  have ht:P.underlying t=some .bool:=by
   unfold tkOf at htk
   split at htk<;>simp_all
  cases hx;cases hy
  have hg:(eqGuard op t ox oy (.bool a) (.bool b)).run P w=.ok () w:=run_eqGuard _ _ _ _ _ _ rfl
  simp only[Sem.run_bind,hg,Result.andThen_ok]
  split at h
  ·simp at h;subst h
   exact ⟨_,run_eql_bool w t a b ht,.bool _⟩
  ·simp at h;subst h
   exact ⟨_,run_neq_bool w t a b ht,.bool _⟩
  ·cases h
 ·rename_i sh z o es sh' o' htk
  obtain ⟨e,ht⟩:∃ e,P.underlying t=some (.slice e):=by
   unfold tkOf at htk
   split at htk<;>simp_all
  cases hy
  have hg:∀ v,(eqGuard op t ox oy v (.slice none 0 0)).run P w=.ok () w:=fun v=>run_eqGuard _ _ _ _ _ _ (by cases v<;>rfl)
  simp only[Sem.run_bind,hg,Result.andThen_ok]
  split at h
  ·simp at h;subst h
   cases hx
   ·exact ⟨_,by simp[binOp,run_equal_slice_nil w t e _ _ _ ht],.bool _⟩
   ·exact ⟨_,by simp[binOp,run_equal_slice_nil w t e _ _ _ ht],.bool _⟩
  ·simp at h;subst h
   cases hx
   ·exact ⟨_,by simp[binOp,run_equal_slice_nil w t e _ _ _ ht],.bool _⟩
   ·exact ⟨_,by simp[binOp,run_equal_slice_nil w t e _ _ _ ht],.bool _⟩
  ·cases h
 ·rename_i x htk
  obtain ⟨e,ht⟩:∃ e,P.underlying t=some (.pointer e):=by
   unfold tkOf at htk
   split at htk<;>simp_all
  cases hy
  have hg:∀ v,(eqGuard op t ox oy v (.pointer none)).run P w=.ok () w:=fun v=>run_eqGuard _ _ _ _ _ _ (by cases v<;>rfl)
  simp only[Sem.run_bind,hg,Result.andThen_ok]
  obtain ⟨b,hb,h⟩:=Option.bind_eq_some_iff.1 h
  unfold isNilP at hb
  split at hb
  ·simp at hb;subst hb;cases hx
   exact eqB_sound h (run_equal_ptr t e _ ht) rfl rfl
  ·simp at hb;subst hb;cases hx
   exact eqB_sound h (run_equal_ptr t e _ ht) rfl rfl
  ·simp at hb;subst hb;cases hx
   exact eqB_sound h (run_equal_ptr t e _ ht) rfl rfl
  ·cases hb
 ·rename_i x htk
  obtain ⟨a1,a2,a3,ht⟩:∃ a b c,P.underlying t=some (.func a b c):=by
   unfold tkOf at htk
   split at htk<;>simp_all
  cases hy
  have hg:∀ v,(eqGuard op t ox oy v .nilFunc).run P w=.ok () w:=fun v=>run_eqGuard _ _ _ _ _ _ (by cases v<;>rfl)
  simp only[Sem.run_bind,hg,Result.andThen_ok]
  obtain ⟨b,hb,h⟩:=Option.bind_eq_some_iff.1 h
  unfold isNilF at hb
  split at hb
  ·simp at hb;subst hb;cases hx
   exact eqB_sound h (run_equal_fnil t ht) rfl rfl
  ·simp at hb;subst hb;cases hx
   exact eqB_sound h (run_equal_func t ht) rfl rfl
  ·cases hb
 ·cases h
theorem un_sound (op:UnOp) {x v:AV} {x':Value} (hx:V w g x x') (h:unA op x=some v):∃ v',(Op.unary op x').run P w=.ok v' w∧V w g v v':=by
 unfold unA at h
 split at h
 ·simp at h;subst h;cases hx;exact ⟨_,rfl,.bool _⟩
 ·simp at h;subst h;cases hx;exact ⟨_,by simp[Op.unary,Op.intArith],.int _ _⟩
 ·cases h
theorem pick_sound {c a b v:AV} {c' a' b':Value} (hc:V w g c c') (ha:V w g a a') (hb:V w g b b') (h:pickA c a b=some v) :
  ∃ v',(do pure (if ← asBool c' then a' else b'):Sem Value).run P w=.ok v' w∧V w g v v':=by
 unfold pickA at h
 split at h
 ·rename_i t
  simp at h;subst h;cases hc
  cases t
  ·exact ⟨b',by simp[asBool],by simpa using hb⟩
  ·exact ⟨a',by simp[asBool],by simpa using ha⟩
 ·cases h
theorem extract_sound {t v:AV} {t':Value} {i:Nat} (ht:V w g t t') (h:extractA t i=some v):∃ v',(Instr.extract t' i).run P w=.ok v' w∧V w g v v':=by
 unfold extractA at h
 split at h
 ·rename_i cs
  cases ht with
  | tup cs vs hl hv=>
   obtain ⟨hi,rfl⟩:=List.getElem?_eq_some_iff.1 h
   have hi':i<vs.size:=by omega
   refine ⟨vs[i],by simp[Instr.extract,hi'],?_⟩
   have:=hv i hi
   simpa [List.getD_eq_getElem?_getD,hi,Array.getD,hi'] using this
 ·cases h
theorem max_sound {mx:Bool} {x y v:AV} {x' y':Value} (hx:V w g x x') (hy:V w g y y') (h:maxA mx x y=some v) :
  ∃ v',((if mx then Builtin.max_ else Builtin.min_) #[] 0 #[x',y']).run P w=.ok v' w∧V w g v v':=by
 unfold maxA at h
 split at h
 ·rename_i k a k' b
  split at h
  ·rename_i hk
   subst hk
   simp at h;subst h;cases hx;cases hy
   cases mx
   ·exact ⟨_,by simp[Builtin.min_,Builtin.min2],.int _ _⟩
   ·exact ⟨_,by simp[Builtin.max_,Builtin.max2],.int _ _⟩
  ·cases h
 ·cases h
theorem len_sound {st:Bool} {x v:AV} {x':Value} (hx:V w g x x') (h:lenA st x=some v) (ts:Array TypeId) (t ty:Nat) (ht:ts[0]?=some t) (hd:if st then P.underlying t=some .string else ∃ e,P.underlying t=some (.slice e)) :
  ∃ v',(Builtin.len_ ts ty #[x']).run P w=.ok v' w∧V w g v v':=by
 unfold lenA at h
 split at h
 ·simp at h;subst h
  obtain ⟨e,hd⟩:∃ e,P.underlying t=some (.slice e):=by simpa using hd
  cases hx
  ·exact ⟨.int .i64 0,by simp[Builtin.len_,ht,run_underlying hd,goInt],.int _ _⟩
  ·exact ⟨.int .i64 _,by simp[Builtin.len_,ht,run_underlying hd,goInt],.int _ _⟩
 ·simp at h;subst h
  obtain ⟨e,hd⟩:∃ e,P.underlying t=some (.slice e):=by simpa using hd
  cases hx
  exact ⟨.int .i64 _,by simp[Builtin.len_,ht,run_underlying hd,goInt],.int _ _⟩
 ·simp at h;subst h
  obtain ⟨e,hd⟩:∃ e,P.underlying t=some (.slice e):=by simpa using hd
  cases hx
  exact ⟨.int .i64 _,by simp[Builtin.len_,ht,run_underlying hd,goInt],.int _ _⟩
 ·simp at h;subst h
  have hd:P.underlying t=some .string:=by simpa using hd
  cases hx
  exact ⟨.int .i64 _,by simp[Builtin.len_,ht,run_underlying hd,goInt],.int _ _⟩
 ·cases h
theorem conv_sound {k:IntKind} {x v:AV} {x':Value} (hx:V w g x x') (h:convA k x=some v) (src dst:Nat) (hd:P.underlying dst=some (.int k)) (hs:(P.underlying src).isSome) :
  ∃ v',(convert src dst x').run P w=.ok v' w∧V w g v v':=by
 unfold convA at h
 split at h
 ·simp at h;subst h;cases hx
  obtain ⟨d,hsd⟩:=Option.isSome_iff_exists.1 hs
  exact ⟨_,by simp[convert,run_underlying hd,run_underlying hsd,Conv.intToInt],.int _ _⟩
 ·cases h
theorem shOf_facts {t:Nat} {sh:Sh} (h:shOf P t=some sh):∃ i d,P.info? t=some i∧P.underlying t=some d∧i.size=sh.size ∧
  ((sh=none∧∀ w:World,(isAgg t).run P w=.ok false w)∨(∃ n,sh=some n)∧∀ w:World,(isAgg t).run P w=.ok true w):=by
 unfold shOf at h
 split at h
 ·rename_i fs i hu hi
  simp at h;subst h
  exact ⟨i,_,hi,hu,rfl,.inr ⟨⟨_,rfl⟩,fun w=>by simp[isAgg,run_underlying hu]⟩⟩
 ·rename_i n e i hu hi
  simp at h;subst h
  exact ⟨i,_,hi,hu,rfl,.inr ⟨⟨_,rfl⟩,fun w=>by simp[isAgg,run_underlying hu]⟩⟩
 ·rename_i d i h1 h2 hu hi
  split at h
  ·simp at h;subst h
   refine ⟨i,d,hi,hu,by simpa [Sh.size] using ‹i.size=1›,.inl ⟨rfl,fun w=>?_⟩⟩
   cases d<;>simp[isAgg,run_underlying hu]<;>simp_all
  ·cases h
 ·cases h
theorem run_sizeOf {t:Nat} {i:TypeInfo} (hi:P.info? t=some i):(sizeOf t).run P w=.ok i.size w:=by simp[sizeOf,typeInfo,hi]
theorem fieldOf_facts {t f off:Nat} {sh:Sh} (h:fieldOf P t f=some (off,sh)):∃ fs fd,P.underlying t=some (.struct fs)∧fs[f]?=some fd∧shOf P fd.type=some sh∧fd.offset=off∧sh.size≠0:=by
 unfold fieldOf at h
 split at h
 ·rename_i fs hu
  split at h
  ·rename_i fd hfd
   split at h
   ·rename_i sh' hsh
    split at h
    ·cases h
    ·rename_i hne
     simp at h
     obtain ⟨rfl,rfl⟩:=h
     exact ⟨fs,fd,hu,hfd,hsh,rfl,hne⟩
   ·cases h
  ·cases h
 ·cases h
theorem cut_V {sh:Sh} {cs:List AV} {off:Nat} {v:AV} (f:Nat→Value) (hv:∀ j,j<cs.length→V w g (cs.getD j .any) (f j)) (h:cutSh sh cs off=some v) :
  (sh=none→off<cs.length∧V w g v (f off))∧(∀ n,sh=some n→off+n≤cs.length∧V w g v (.agg ((List.range n).map fun j=>f (off+j)).toArray)):=by
 unfold cutSh at h
 split at h
 ·refine ⟨fun _=>?_,fun n hn=>by cases hn⟩
  obtain ⟨hi,rfl⟩:=List.getElem?_eq_some_iff.1 h
  exact ⟨hi,by simpa [List.getD_eq_getElem?_getD,hi] using hv off hi⟩
 ·rename_i n
  refine ⟨fun hn=>by (cases hn),fun n' hn=>?_⟩
  simp only[Option.some.injEq] at hn
  subst hn
  split at h
  ·rename_i hle
   simp at h;subst h
   refine ⟨hle,.agg _ _ (by simp;omega) fun j hj=>?_⟩
   have hj':j<n:=by simp at hj;omega
   have:=hv (off+j) (by omega)
   simpa [List.getD_eq_getElem?_getD,hj',Array.getD,List.getElem?_take,List.getElem?_drop] using this
  ·cases h
theorem part_sound {sh:Sh} {t off:Nat} {cs:List AV} {vs:Array Value} {v:AV} (hsh:shOf P t=some sh) (hl:cs.length=vs.size) (hv:∀ j,j<cs.length→V w g (cs.getD j .any) (vs.getD j undef)) (h:cutSh sh cs off=some v) :
  ∃ v',(part t vs off).run P w=.ok v' w∧V w g v v':=by
 obtain ⟨i,d,hi,hd,hs,hagg⟩:=shOf_facts hsh
 obtain ⟨h1,h2⟩:=cut_V _ hv h
 rcases hagg with ⟨rfl,ha⟩|⟨⟨n,rfl⟩,ha⟩
 ·obtain ⟨hlt,hV⟩:=h1 rfl
  have hlt':off<vs.size:=by omega
  refine ⟨vs[off],by simp[part,ha,hlt'],by simpa [Array.getD,hlt'] using hV⟩
 ·obtain ⟨hlt,hV⟩:=h2 n rfl
  refine ⟨_,?_,hV⟩
  simp only[part,Sem.run_bind,ha,Result.andThen_ok,if_true,run_sizeOf hi,Sem.run_pure]
  congr 2
  simp only[Sh.size] at hs
  apply Array.ext
  ·simp;omega
  ·intro j hj hj'
   simp at hj hj'
   simp[Array.getD,show off+j<vs.size by omega]
theorem field_sound {sh:Sh} {off:Nat} {x v:AV} {x':Value} (hx:V w g x x') (h:fieldA off sh x=some v) (t f:Nat) (hf:fieldOf P t f=some (off,sh)) :
  ∃ v',(Instr.field t x' f).run P w=.ok v' w∧V w g v v':=by
 obtain ⟨fs,fd,hu,hfd,hsh,rfl,_⟩:=fieldOf_facts hf
 unfold fieldA at h
 split at h
 ·rename_i cs
  cases hx with
  | agg cs vs hl hv=>
   obtain ⟨v',hr,hV⟩:=part_sound hsh hl hv h
   exact ⟨v',by simp[Instr.field,run_underlying hu,hfd,asAgg,hr],hV⟩
 ·cases h
theorem Addr_add (b off n:Nat):(⟨b,off,none⟩:Addr).add n=⟨b,off+n,none⟩:=by
 unfold Addr.add
 split<;>simp_all
theorem fieldAddr_sound {sh:Sh} {off:Nat} {x v:AV} {x':Value} (hx:V w g x x') (h:fieldAddrA off x=some v) (t f:Nat) (hf:fieldOf P t f=some (off,sh)) :
  ∃ v',(Instr.fieldAt t x' f).run P w=.ok v' w∧V w g v v':=by
 obtain ⟨fs,fd,hu,hfd,hsh,rfl,hne⟩:=fieldOf_facts hf
 obtain ⟨i,d,hi,hd,hs,_⟩:=shOf_facts hsh
 have hz:i.size≠0:=by omega
 unfold fieldAddrA at h
 split at h
 ·rename_i cs
  split at h
  ·rename_i hlt
   simp at h;subst h
   cases hx with
   | vptr cs b o us hcell hv=>
    refine ⟨.pointer (some ⟨b,o+fd.offset,none⟩),by simp[Instr.fieldAt,run_underlying hu,hfd,Instr.sureAddr,fieldPlace,run_sizeOf hi,hz,Addr_add],?_⟩
    refine .vptr _ _ _ (fun j=>us (fd.offset+j)) (fun j hj=>?_) (fun j hj=>?_)
    ·have:=hcell (fd.offset+j) (by simp at hj;omega)
     simpa [Nat.add_assoc] using this
    ·have:=hv (fd.offset+j) (by simp at hj;omega)
     simpa [List.getD_eq_getElem?_getD,List.getElem?_drop] using this
  ·cases h
 ·rename_i nm o
  simp at h;subst h
  cases hx with
  | ptr nm o b hl=>exact ⟨.pointer (some ⟨b,o+fd.offset,none⟩),by simp[Instr.fieldAt,run_underlying hu,hfd,Instr.sureAddr,fieldPlace,run_sizeOf hi,hz,Addr_add],.ptr _ _ _ hl⟩
 ·cases h
theorem run_loadVar_fn {t b off:Nat} {sh:Sh} (hsh:shOf P t=some sh) (f:Nat→Value) (hc:∀ j,j<sh.size→w.cell? ⟨b,off+j,none⟩=some (f j)) :
  (loadVar t ⟨b,off,none⟩).run P w=.ok (match sh with|none=>f 0|some n=>.agg ((List.range n).map f).toArray) w:=by
 obtain ⟨i,d,hi,hd,hs,hagg⟩:=shOf_facts hsh
 rcases hagg with ⟨rfl,ha⟩|⟨⟨n,rfl⟩,ha⟩
 ·have:=hc 0 (by simp[Sh.size])
  simp only[Nat.add_zero] at this
  simp[loadVar,ha,this]
 ·have hl:=run_loadCells (P:=P) w ⟨b,off,none⟩ n f (fun j hj=>by rw[Addr_add];exact hc j hj)
  simp only[Sh.size] at hs
  simp only[loadVar,Sem.run_bind,ha,Result.andThen_ok,if_true,run_sizeOf hi,hs,hl,Sem.run_pure]
theorem load_sound [WInv] {B:Nat} {m:Mem} (hm:MemR B w g m) {sh:Sh} {x v:AV} {x':Value} (hx:V w g x x') (h:loadA sh m x=some v) (t:Nat) (hsh:shOf P t=some sh) :
  ∃ v',(Instr.loadAt t x').run P w=.ok v' w∧V w g v v':=by
 unfold loadA at h
 split at h
 ·rename_i cs
  cases hx with
  | vptr cs b o us hcell hv=>
   obtain ⟨h1,h2⟩:=cut_V us hv h
   cases sh with
   | none=>
    obtain ⟨hlt,hV⟩:=h1 rfl
    exact ⟨_,by simp only[Instr.loadAt,Instr.sureAddr,Sem.run_bind,Sem.run_pure,Result.andThen_ok];exact run_loadVar_fn hsh us (fun j hj=>(hcell j (by simp only[Sh.size] at hj;omega)).1),hV⟩
   | some n=>
    obtain ⟨hlt,hV⟩:=h2 n rfl
    exact ⟨_,by simp only[Instr.loadAt,Instr.sureAddr,Sem.run_bind,Sem.run_pure,Result.andThen_ok];exact run_loadVar_fn hsh us (fun j hj=>(hcell j (by simp only[Sh.size] at hj;omega)).1),by simpa using hV⟩
 ·rename_i nm o
  obtain ⟨⟨bx,cs⟩,hcs,h⟩:=Option.bind_eq_some_iff.1 h
  cases hx with
  | ptr nm o b hl=>
   have hget:m.get nm=some (.obj bx cs):=by
    unfold Mem.obj? at hcs
    split at hcs
    ·rename_i hh
     simp at hcs;rw[hh,hcs.1,hcs.2]
    ·cases hcs
   obtain ⟨b',c,e,hl',hB,hheap,hsz,hV,_⟩:=hm.obj nm bx cs hget
   obtain rfl:b=b':=by simpa [hl] using hl'
   have hcell:∀ j,j<cs.length→w.cell? ⟨b,j,none⟩=some (c.getD j undef):=fun j hj=>by
    rw[cell_of_row w b j c e (0,0) hheap]
    simp[Array.getD,show j<c.size by omega]
   obtain ⟨h1,h2⟩:=cut_V _ hV h
   cases sh with
   | none=>
    obtain ⟨hlt,hV⟩:=h1 rfl
    exact ⟨_,by simp only[Instr.loadAt,Instr.sureAddr,Sem.run_bind,Sem.run_pure,Result.andThen_ok];exact run_loadVar_fn hsh (fun j=>c.getD (o+j) undef) (fun j hj=>hcell _ (by simp only[Sh.size] at hj;omega)),hV⟩
   | some n=>
    obtain ⟨hlt,hV⟩:=h2 n rfl
    exact ⟨_,by simp only[Instr.loadAt,Instr.sureAddr,Sem.run_bind,Sem.run_pure,Result.andThen_ok];exact run_loadVar_fn hsh (fun j=>c.getD (o+j) undef) (fun j hj=>hcell _ (by simp only[Sh.size] at hj;omega)),hV⟩
 ·cases h
theorem shOk_size {sh:Sh} {e:AV} (h:shOk sh e=true):e.cells.length=sh.size:=by
 cases sh with
 | none=>cases e<;>simp_all [shOk,atomOk,AV.cells,Sh.size]
 | some n=>cases e<;>simp_all [shOk,AV.cells,Sh.size]
theorem V_atomOk {x:AV} {v:Value} (h:V w g x v) (ha:atomOk x=true):v.oneCell'=true∧v.cells = #[v]:=by
 cases h<;>first|(simp[atomOk] at ha;done)|exact ⟨rfl,rfl⟩
theorem V_cells {sh:Sh} {x:AV} {v:Value} (h:V w g x v) (hs:shOk sh x=true):v.cells.size=sh.size∧(∀ j,j<sh.size→V w g (x.cells.getD j .any) (v.cells.getD j undef))∧∀ u∈v.cells.toList,u.oneCell'=true:=by
 cases sh with
 | none=>
  have ha:atomOk x=true:=hs
  obtain ⟨h1,h2⟩:=V_atomOk h ha
  have hx:x.cells=[x]:=by cases x<;>first|rfl|(simp[atomOk] at ha)
  rw[h2,hx]
  refine ⟨rfl,fun j hj=>?_,fun u hu=>?_⟩
  ·obtain rfl:j=0:=by simp only[Sh.size] at hj;omega
   simpa using h
  ·simp at hu;rw[hu];exact h1
 | some n=>
  cases h<;>first|(simp[shOk] at hs;done)|skip
  rename_i cs vs hl hv
  simp[shOk] at hs
  obtain ⟨hn,hall⟩:=hs
  refine ⟨by simp[Value.cells,Sh.size];omega,fun j hj=>hv j (by simp only[Sh.size] at hj;omega),fun u hu=>?_⟩
  obtain ⟨j,hj,rfl⟩:=List.mem_iff_getElem.1 hu
  have hj':j<cs.length:=by simp[Value.cells] at hj;omega
  have:=hv j hj'
  simp[Value.cells] at hj
  have hc:=hall cs[j] (List.getElem_mem hj')
  have:=V_atomOk this (by simpa [List.getD_eq_getElem?_getD,hj'] using hc)
  simpa [Value.cells,Array.getD,hj] using this.1
theorem flat_len {sh:Sh}:∀ {es:List AV},(∀ e∈es,shOk sh e=true)→(flat es).length=es.length*sh.size
 | [],_=>by simp
 | e::es,h=>by
  have h1:=shOk_size (h e (by simp))
  have h2:=flat_len (es:=es) fun x hx=>h x (by simp[hx])
  simp only[List.flatMap_cons,List.length_append,h1,List.length_cons,Nat.succ_mul]
  rw[h2];omega
theorem flat_get {sh:Sh}:∀ {es:List AV},(∀ e∈es,shOk sh e=true)→∀ (i j:Nat) (hi:i<es.length),j<sh.size→(flat es).getD (i*sh.size+j) .any=(es[i].cells).getD j .any
 | [],_,_,_,hi,_=>by simp at hi
 | e::es,h,i,j,hi,hj=>by
  have h1:=shOk_size (h e (by simp))
  cases i with
  | zero=>simp[List.getD_eq_getElem?_getD,List.getElem?_append,h1,hj]
  | succ i=>
   have ih:=flat_get (es:=es) (fun x hx=>h x (by simp[hx])) i j (by simpa using hi) hj
   have:(i+1)*sh.size+j=e.cells.length+(i*sh.size+j):=by rw[h1,Nat.succ_mul];omega
   rw[this]
   simp only[List.flatMap_cons,List.getElem_cons_succ]
   rw[← ih]
   simp only[List.getD_eq_getElem?_getD,List.getElem?_append]
   rw[if_neg (by omega)]
   simp
theorem elemOk_facts {e:Nat} {sh:Sh} (h:elemOk P e sh=true):∃ i z,P.info? e=some i∧i.size=sh.size∧0<i.size∧i.zero=some z∧z.cells.size=i.size∧(sh=none→∀ cs,z≠.agg cs):=by
 unfold elemOk at h
 split at h
 ·rename_i i hi
  simp at h
  obtain ⟨⟨h1,h2⟩,h3⟩:=h
  split at h3
  ·rename_i z hz
   simp at h3
   refine ⟨i,z,hi,h1,h2,hz,h3.1,?_⟩
   rintro rfl cs rfl
   simp at h3
  ·simp at h3
 ·cases h
theorem mul_lt_of {i n s j:Nat} (hi:i<n) (hj:j<s):i*s+j<n*s:=by
 have:(i+1)*s≤n*s:=Nat.mul_le_mul_right _ hi
 rw[Nat.succ_mul] at this
 omega
theorem indexAddr_slice_sound {e:Nat} {sh:Sh} {x i v:AV} {x' i':Value} (hx:V w g x x') (hi:V w g i i') (h:indexAddrA sh x i=some v) (t:Nat) (ht:P.underlying t=some (.slice e)) (he:elemOk P e sh=true) :
  ∃ v',(Instr.indexAt t x' i').run P w=.ok v' w∧V w g v v':=by
 obtain ⟨inf,z,hinf,hs,hpos,_,_,_⟩:=elemOk_facts he
 unfold indexAddrA at h
 split at h
 ·rename_i k i
  cases hi
  split at h
  ·rename_i sh' z o es
   split at h
   ·rename_i hsh
    subst hsh
    split at h
    ·rename_i h0
     obtain ⟨el,hel,rfl⟩:=Option.map_eq_some_iff.1 h
     obtain ⟨hlt,hel⟩:=List.getElem?_eq_some_iff.1 hel
     cases hx with
     | nils=>simp at hlt
     | lst _ o es a cap us hsp hc hm hsh hcell hv ho=>
      have hall:∀ e∈es,shOk sh' e=true:=fun e he=>(hsh e he).1
      have hil:i<(es.length:Int):=by omega
      have hfl:=flat_len hall
      have hsp:a.spot=none:=hsp.resolve_left (by omega)
      have ha:a=⟨a.block,a.off,none⟩:=by cases a;simp_all
      refine ⟨.pointer (some ⟨a.block,a.off+i.toNat*sh'.size,none⟩),?_,?_⟩
      ·rw[ha]
       simp[Instr.indexAt,asIntOf,run_underlying ht,h0,hil,run_sizeOf hinf,Addr_add,hs]
      ·have hcl:el.cells.length=sh'.size:=shOk_size (hall el (hel▸List.getElem_mem hlt))
       refine .vptr _ _ _ (fun j=>us (i.toNat*sh'.size+j)) (fun j hj=>?_) (fun j hj=>?_)
       ·have:=hcell (i.toNat*sh'.size+j) (by rw[hfl];exact mul_lt_of hlt (by omega))
        rw[Nat.add_assoc]
        exact ⟨this.1,this.2.1⟩
       ·have h1:=hv (i.toNat*sh'.size+j) (by rw[hfl];exact mul_lt_of hlt (by omega))
        rw[flat_get hall i.toNat j hlt (by omega),hel] at h1
        exact h1
    ·cases h
   ·cases h
  ·rename_i nm off n sh'
   split at h
   ·rename_i hsh
    subst hsh
    split at h
    ·rename_i hb
     simp at h;subst h
     cases hx with
     | arr _ _ _ _ a cap hsp hc hm hl=>
      obtain ⟨hl,ha,_⟩:=hl.resolve_left (by omega)
      refine ⟨.pointer (some ⟨a.block,off+i.toNat*sh'.size,none⟩),?_,.ptr _ _ _ hl⟩
      rw[ha]
      simp[Instr.indexAt,asIntOf,run_underlying ht,hb.1,hb.2,run_sizeOf hinf,Addr_add,hs]
    ·cases h
   ·cases h
  ·rename_i n sh' cs
   split at h
   ·rename_i hsh
    subst hsh
    split at h
    ·rename_i hb
     simp only[Option.some.injEq] at h;subst h
     cases hx with
     | vec _ _ _ a cap us hsp hc hm hn hat hcell hv=>
      have ha:a=⟨a.block,a.off,none⟩:=by
       have:=hsp.resolve_left (by omega)
       cases a;simp_all
      have hle:i.toNat*sh'.size+sh'.size≤cs.length:=by
       rw[hn,← Nat.succ_mul];exact Nat.mul_le_mul_right _ (by omega)
      have hlen:((cs.drop (i.toNat*sh'.size)).take sh'.size).length=sh'.size:=by simp;omega
      refine ⟨.pointer (some ⟨a.block,a.off+i.toNat*sh'.size,none⟩),?_,.vptr _ _ _ (fun j=>us (i.toNat*sh'.size+j)) (fun j hj=>?_) (fun j hj=>?_)⟩
      ·rw[ha]
       simp[Instr.indexAt,asIntOf,run_underlying ht,hb.1,hb.2,run_sizeOf hinf,Addr_add,hs]
      ·rw[hlen] at hj
       have:=hcell (i.toNat*sh'.size+j) (by omega)
       rw[← Nat.add_assoc] at this
       exact this
      ·rw[hlen] at hj
       have:=hv (i.toNat*sh'.size+j) (by omega)
       have e1:((cs.drop (i.toNat*sh'.size)).take sh'.size).getD j .any=cs.getD (i.toNat*sh'.size+j) .any:=by
        simp[List.getD_eq_getElem?_getD,List.getElem?_take,List.getElem?_drop,hj]
       rw[e1];exact this
    ·cases h
   ·cases h
  ·cases h
 ·cases h
theorem arrAddr_sound {e n:Nat} {sh:Sh} {x i v:AV} {x' i':Value} (hx:V w g x x') (hi:V w g i i') (h:arrAddrA n sh x i=some v) (t:Nat) (ht:P.underlying t=some (.array n e)) (he:elemOk P e sh=true) :
  ∃ v',(Instr.indexAt t x' i').run P w=.ok v' w∧V w g v v':=by
 obtain ⟨inf,z,hinf,hs,hpos,_,_,_⟩:=elemOk_facts he
 unfold arrAddrA at h
 split at h
 ·rename_i k i
  cases hi
  split at h
  ·rename_i hb
   unfold fieldAddrA at h
   split at h
   ·rename_i cs
    split at h
    ·rename_i hlt
     simp at h;subst h
     cases hx with
     | vptr cs b o us hcell hv=>
      refine ⟨.pointer (some ⟨b,o+i.toNat*sh.size,none⟩),by simp[Instr.indexAt,asIntOf,run_underlying ht,Instr.sureAddr,hb.1,hb.2,run_sizeOf hinf,Addr_add,hs],?_⟩
      refine .vptr _ _ _ (fun j=>us (i.toNat*sh.size+j)) (fun j hj=>?_) (fun j hj=>?_)
      ·have:=hcell (i.toNat*sh.size+j) (by simp at hj;omega)
       simpa [Nat.add_assoc] using this
      ·have:=hv (i.toNat*sh.size+j) (by simp at hj;omega)
       simpa [List.getD_eq_getElem?_getD,List.getElem?_drop] using this
    ·cases h
   ·rename_i nm o
    simp at h;subst h
    cases hx with
    | ptr nm o b hl=>exact ⟨.pointer (some ⟨b,o+i.toNat*sh.size,none⟩),by simp[Instr.indexAt,asIntOf,run_underlying ht,Instr.sureAddr,hb.1,hb.2,run_sizeOf hinf,Addr_add,hs],.ptr _ _ _ hl⟩
   ·cases h
  ·cases h
 ·cases h
theorem indexStr_sound {x i v:AV} {x' i':Value} (hx:V w g x x') (hi:V w g i i') (h:indexStrA x i=some v) (t:Nat) (ht:P.underlying t=some .string) :
  ∃ v',(Instr.index t x' i').run P w=.ok v' w∧V w g v v':=by
 unfold indexStrA at h
 split at h
 ·rename_i s k i
  cases hx;cases hi
  split at h
  ·rename_i h0
   obtain ⟨b,hb,rfl⟩:=Option.map_eq_some_iff.1 h
   exact ⟨_,by simp[Instr.index,asIntOf,run_underlying ht,h0,hb],.int _ _⟩
  ·cases h
 ·cases h
def OptV (w:World) (g:G):Option AV→Option Value→Prop
 | none,none=>True
 | some x,some x'=>V w g x x'
 | _,_=>False
theorem bound_some {y Y d r:Nat} {x:AV} {x':Value} (hx:V w g x x') (hY:y≤Y) (h:boundA y (some x) d=some r) (code:BoundsCode) :
  (Instr.sliceBound x' Y code).run P w=.ok r w∧r≤y:=by
 unfold boundA at h
 split at h
 ·rename_i heq;cases heq
 ·rename_i k i heq
  simp at heq;subst heq
  cases hx
  split at h
  ·rename_i hb
   simp at h;subst h
   have h2:i≤(Y:Int):=by omega
   exact ⟨by simp[Instr.sliceBound,asIntOf,hb.1,h2],by omega⟩
  ·cases h
 ·cases h
theorem bounds_two {isS:Bool} {len cap h l:Nat} {lo hi:Option AV} {lo' hi':Option Value} (hlo:OptV w g lo lo') (hhi:OptV w g hi hi') (hc:len≤cap)
  (h1:boundA len hi len=some h) (h2:boundA h lo 0=some l):(Instr.sliceBounds isS len cap lo' hi' none).run P w=.ok (l,h,cap) w∧l≤h∧h≤len:=by
 have e1:(match hi' with|some v=>Instr.sliceBound v cap (if isS then .sliceAcap else .sliceAlen)|none=>pure len:Sem Nat).run P w=.ok h w∧h≤len:=by
  cases hi with
  | none=>
   cases hi' with
   | none=>simp[boundA] at h1;subst h1;exact ⟨rfl,Nat.le_refl _⟩
   | some _=>exact hhi.elim
  | some x=>
   cases hi' with
   | none=>exact hhi.elim
   | some x'=>exact bound_some hhi hc h1 _
 have e2:(match lo' with|some v=>Instr.sliceBound v h .sliceB|none=>pure 0:Sem Nat).run P w=.ok l w∧l≤h:=by
  cases lo with
  | none=>
   cases lo' with
   | none=>simp[boundA] at h2;subst h2;exact ⟨rfl,Nat.zero_le _⟩
   | some _=>exact hlo.elim
  | some x=>
   cases lo' with
   | none=>exact hlo.elim
   | some x'=>exact bound_some hlo (Nat.le_refl _) h2 _
 refine ⟨?_,e2.2,e1.2⟩
 have a1:=e1.1
 have a2:=e2.1
 cases hi'<;>cases lo'<;>simp_all [Instr.sliceBounds]
theorem bounds_three {len cap mx h l:Nat} {lo hi:Option AV} {mv:AV} {lo' hi':Option Value} {mv':Value} (hlo:OptV w g lo lo') (hhi:OptV w g hi hi') (hmv:V w g mv mv') (hc:len≤cap)
  (h0:boundA len (some mv) 0=some mx) (h1:boundA mx hi 0=some h) (h2:boundA h lo 0=some l) (hsome:hi.isSome):(Instr.sliceBounds true len cap lo' hi' (some mv')).run P w=.ok (l,h,mx) w∧l≤h∧h≤mx∧mx≤len:=by
 obtain ⟨e0,e0'⟩:=bound_some (P:=P) hmv hc h0 .slice3Acap
 cases hi with
 | none=>simp at hsome
 | some x=>
  cases hi' with
  | none=>exact hhi.elim
  | some x'=>
   obtain ⟨e1,e1'⟩:=bound_some (P:=P) hhi (Nat.le_refl _) h1 .slice3B
   cases lo with
   | none=>
    cases lo' with
    | none=>
     simp[boundA] at h2;subst h2
     exact ⟨by simp[Instr.sliceBounds,e0,e1],Nat.zero_le _,e1',e0'⟩
    | some _=>exact hlo.elim
   | some y=>
    cases lo' with
    | none=>exact hlo.elim
    | some y'=>
     obtain ⟨e2,e2'⟩:=bound_some (P:=P) hlo (Nat.le_refl _) h2 .slice3C
     exact ⟨by simp[Instr.sliceBounds,e0,e1,e2],e2',e1',e0'⟩
theorem flat_drop {sh:Sh}:∀ {es:List AV},(∀ e∈es,shOk sh e=true)→∀ l,flat (es.drop l)=(flat es).drop (l*sh.size)
 | [],_,l=>by simp
 | e::es,h,0=>by simp
 | e::es,h,l+1=>by
  have h1:=shOk_size (h e (by simp))
  have ih:=flat_drop (es:=es) (fun x hx=>h x (by simp[hx])) l
  have e1:List.drop ((l+1)*sh.size) e.cells=[]:=List.drop_eq_nil_of_le (by rw[h1,Nat.succ_mul];omega)
  have e2:(l+1)*sh.size-e.cells.length=l*sh.size:=by rw[h1,Nat.succ_mul];omega
  show flat (es.drop l)=(e.cells++flat es).drop ((l+1)*sh.size)
  rw[ih,List.drop_append,e1,e2]
  simp
theorem flat_take {sh:Sh}:∀ {es:List AV},(∀ e∈es,shOk sh e=true)→∀ l,flat (es.take l)=(flat es).take (l*sh.size)
 | [],_,l=>by simp
 | e::es,h,0=>by simp
 | e::es,h,l+1=>by
  have h1:=shOk_size (h e (by simp))
  have ih:=flat_take (es:=es) (fun x hx=>h x (by simp[hx])) l
  have e1:List.take ((l+1)*sh.size) e.cells=e.cells:=List.take_of_length_le (by rw[h1,Nat.succ_mul];omega)
  have e2:(l+1)*sh.size-e.cells.length=l*sh.size:=by rw[h1,Nat.succ_mul];omega
  show e.cells++flat (es.take l)=(e.cells++flat es).take ((l+1)*sh.size)
  rw[ih,List.take_append,e1,e2]
theorem V_sub {sh:Sh} {o o':Own} {es:List AV} {a:Addr} {cap l h m:Nat} (hx:V w g (.lst sh false o es) (.slice (some a) es.length cap)) (hl:l≤h) (hh:h≤es.length) (hhm:h≤m) (hm:m≤cap)
  (ho:o'=.no∨o'=.full∧h=m):V w g (.lst sh false o' ((es.take h).drop l)) (.slice (some (if m=l then a else a.add (l*sh.size))) (h-l) (m-l)):=by
 generalize hn:es.length=n at hx
 cases hx with
 | lst _ o es a cap us hsp hc hm' hsh hcell hv ho'=>
  have hall:∀ e∈es,shOk sh e=true:=fun e he=>(hsh e he).1
  have hlen:((es.take h).drop l).length=h-l:=by simp;omega
  have ha:¬ m=l→a=⟨a.block,a.off,none⟩:=fun hml=>by
   have:=hsp.resolve_left (by omega)
   cases a;simp_all
  have hmem:∀ e∈(es.take h).drop l,e∈es:=fun e he=>List.mem_of_mem_take (List.mem_of_mem_drop he)
  rw[← hlen]
  have hmaxl:m-l≤maxLen:=by omega
  by_cases hml:m=l
  ·have h0:h=l:=by omega
   have hnil:(es.take h).drop l=[]:=List.eq_nil_of_length_eq_zero (by omega)
   rw[if_pos hml,hnil]
   refine .lst sh o' [] a _ us (.inl (by omega)) (Nat.zero_le _) hmaxl (by simp) (by simp) (by simp) ?_
   rcases ho with rfl|⟨rfl,_⟩
   ·trivial
   ·show m-l=0;omega
  ·rw[if_neg hml]
   have ha:=ha hml
   refine .lst sh o' _ _ _ (fun j=>us (l*sh.size+j)) (.inr (by rw[ha,Addr_add])) (by omega) hmaxl (fun e he=>hsh e (hmem e he)) (fun j hj=>?_) (fun j hj=>?_) ?_
   ·rw[flat_drop (fun e he=>hall e (List.mem_of_mem_take he)),flat_take hall] at hj
    have hj':l*sh.size+j<(flat es).length:=by
     simp only[List.length_drop,List.length_take] at hj
     omega
    have:=hcell _ hj'
    rw[ha,Addr_add]
    simpa [Nat.add_assoc] using this
   ·rw[flat_drop (fun e he=>hall e (List.mem_of_mem_take he)),flat_take hall] at hj ⊢
    have hj1:l*sh.size+j<h*sh.size:=by
     simp only[List.length_drop,List.length_take] at hj
     omega
    have hj':l*sh.size+j<(flat es).length:=by
     simp only[List.length_drop,List.length_take] at hj
     omega
    have:=hv _ hj'
    simpa [List.getD_eq_getElem?_getD,List.getElem?_drop,List.getElem?_take,hj1] using this
   ·rcases ho with rfl|⟨rfl,hm2⟩
    ·trivial
    ·show m-l=_;rw[hlen,hm2]
theorem slice_sound_lst {e:Nat} {sh sh':Sh} {z:Bool} {o:Own} {es:List AV} {v:AV} {x':Value} {lo hi mx:Option AV} {lo' hi' mx':Option Value} (hx:V w g (.lst sh' z o es) x') (hlo:OptV w g lo lo') (hhi:OptV w g hi hi') (hmx:OptV w g mx mx')
  (h:sliceA (.lst sh' z o es) lo hi mx=some v) (t:Nat) (ht:P.underlying t=some (.slice e)) (hsh:shOf P e=some sh) (he:elemOk P e sh=true) (hs:sh'=sh∨es=[]) :
  ∃ v',(Instr.sliceAt t x' lo' hi' mx').run P w=.ok v' w∧V w g v v':=by
 obtain ⟨inf,z0,hinf,hs1,hpos,_,_,_⟩:=elemOk_facts he
 have key:∀ (l hh m:Nat) (o':Own),(∀ len cap a,x'=.slice a len cap→(Instr.sliceBounds true len cap lo' hi' mx').run P w=.ok (l,hh,m) w∧m≤cap)→l≤hh→hh≤es.length→hh≤m→(o'=.no∨o'=.full∧hh=m) →
   ∃ v',(Instr.sliceAt t x' lo' hi' mx').run P w=.ok v' w∧V w g (.lst sh' z o' ((es.take hh).drop l)) v':=by
  intro l hh m o' hb hl hh' hhm ho
  cases hx with
  | nils _ o hof=>
   obtain ⟨hb1,hb2⟩:=hb 0 0 none rfl
   have h1:hh=0:=by simpa using hh'
   have h2:l=0:=by omega
   have h3:m=0:=by omega
   subst h1;subst h2;subst h3
   refine ⟨.slice none 0 0,?_,?_⟩
   ·simp[Instr.sliceAt,run_underlying ht,Instr.slice,hb1,run_sizeOf hinf]
   ·simp only[List.take_nil,List.drop_nil]
    exact .nils _ _ (by rcases ho with rfl|⟨rfl,_⟩<;>simp)
  | lst _ o es a cap us hsp hc hm' hsh' hcell hv ho'=>
   obtain ⟨hb1,hb2⟩:=hb es.length cap (some a) rfl
   refine ⟨.slice (some (if m=l then a else a.add (l*sh'.size))) (hh-l) (m-l),?_,V_sub (.lst sh' o es a cap us hsp hc hm' hsh' hcell hv ho') hl hh' hhm hb2 ho⟩
   simp only[Instr.sliceAt,Sem.run_bind,run_underlying ht,Result.andThen_ok,Instr.slice,hb1,run_sizeOf hinf,Sem.run_pure]
   rcases hs with rfl|rfl
   ·by_cases hml:m=l<;>simp[hml,hs1]
   ·have h1:hh=0:=by simpa using hh'
    have h2:l=0:=by omega
    subst h2
    by_cases hml:m=0<;>simp[hml]
 unfold sliceA at h
 simp only at h
 cases mx with
 | none=>
  cases mx' with
  | some _=>exact hmx.elim
  | none=>
   simp only at h
   obtain ⟨hh,h1,h⟩:=Option.bind_eq_some_iff.1 h
   obtain ⟨l,h2,h⟩:=Option.bind_eq_some_iff.1 h
   simp at h;subst h
   have hcap:∀ len cap a,x'=.slice a len cap→len=es.length∧len≤cap:=by
    rintro len cap a rfl
    cases hx<;>simp_all
   cases hx with
   | nils _ o hof=>
    obtain ⟨b1,b2,b3⟩:=bounds_two (P:=P) (isS:=true) hlo hhi (Nat.le_refl 0) h1 h2
    exact key l hh 0 .no (by rintro len cap a h;cases h;exact ⟨b1,Nat.le_refl _⟩) b2 b3 b3 (.inl rfl)
   | lst _ o es a cap us hsp hc hm' hsh' hcell hv ho'=>
    obtain ⟨b1,b2,b3⟩:=bounds_two (P:=P) (isS:=true) hlo hhi hc h1 h2
    exact key l hh cap .no (by rintro len cap a h;cases h;exact ⟨b1,Nat.le_refl _⟩) b2 b3 (by omega) (.inl rfl)
 | some mv=>
  cases mx' with
  | none=>exact hmx.elim
  | some mv'=>
   cases hi with
   | none=>simp at h
   | some hv0=>
    simp only at h
    obtain ⟨m,h0,h⟩:=Option.bind_eq_some_iff.1 h
    obtain ⟨hh,h1,h⟩:=Option.bind_eq_some_iff.1 h
    obtain ⟨l,h2,h⟩:=Option.bind_eq_some_iff.1 h
    cases hx with
    | nils _ o hof=>
     obtain ⟨b1,b2,b3,b4⟩:=bounds_three (P:=P) hlo hhi hmx (Nat.le_refl 0) h0 h1 h2 rfl
     split at h
     ·rename_i hm;simp at h;subst h
      have:=key l hh m .full (by rintro len cap a h;cases h;exact ⟨b1,b4⟩) b2 (by simp at b4 ⊢;omega) b3 (.inr ⟨rfl,hm⟩)
      simpa using this
     ·simp at h;subst h
      have:=key l hh m .no (by rintro len cap a h;cases h;exact ⟨b1,b4⟩) b2 (by simp at b4 ⊢;omega) b3 (.inl rfl)
      simpa using this
    | lst _ o es a cap us hsp hc hm' hsh' hcell hv ho'=>
     obtain ⟨b1,b2,b3,b4⟩:=bounds_three (P:=P) hlo hhi hmx hc h0 h1 h2 rfl
     split at h
     ·rename_i hm;simp at h;subst h
      exact key l hh m .full (by rintro len cap a h;cases h;exact ⟨b1,by omega⟩) b2 (by omega) b3 (.inr ⟨rfl,hm⟩)
     ·simp at h;subst h
      exact key l hh m .no (by rintro len cap a h;cases h;exact ⟨b1,by omega⟩) b2 (by omega) b3 (.inl rfl)
theorem slice_sound_arr {e:Nat} {nm off n:Nat} {sh:Sh} {v:AV} {x':Value} {lo hi:Option AV} {lo' hi':Option Value} (hx:V w g (.arr nm off n sh) x') (hlo:OptV w g lo lo') (hhi:OptV w g hi hi')
  (h:sliceA (.arr nm off n sh) lo hi none=some v) (t:Nat) (ht:P.underlying t=some (.slice e)) (he:elemOk P e sh=true) :
  ∃ v',(Instr.sliceAt t x' lo' hi' none).run P w=.ok v' w∧V w g v v':=by
 obtain ⟨inf,z0,hinf,hs1,hpos,_,_,_⟩:=elemOk_facts he
 unfold sliceA at h
 simp only at h
 obtain ⟨hh,h1,h⟩:=Option.bind_eq_some_iff.1 h
 obtain ⟨l,h2,h⟩:=Option.bind_eq_some_iff.1 h
 simp at h;subst h
 cases hx with
 | arr _ _ _ _ a cap hsp hc hm hl=>
  obtain ⟨b1,b2,b3⟩:=bounds_two (P:=P) (isS:=true) hlo hhi hc h1 h2
  refine ⟨.slice (some (if cap=l then a else a.add (l*sh.size))) (hh-l) (cap-l),?_,.arr _ _ _ _ _ _ (by
    by_cases hml:cap=l
    ·exact .inl (by omega)
    ·right
     have hsp:=hsp.resolve_left (by omega)
     have ha:a=⟨a.block,a.off,none⟩:=by cases a;simp_all
     rw[if_neg hml,ha,Addr_add]) (by omega) (by omega) ?_⟩
  ·simp only[Instr.sliceAt,Sem.run_bind,run_underlying ht,Result.andThen_ok,Instr.slice,b1,run_sizeOf hinf,Sem.run_pure]
   by_cases hml:cap=l<;>simp[hml,hs1]
  ·by_cases h0:hh-l=0
   ·exact .inl h0
   ·refine .inr ?_
    obtain ⟨hl1,ha,c,e,hc1,hc2⟩:=hl.resolve_left (by omega)
    rw[if_neg (by omega),ha,Addr_add]
    refine ⟨hl1,rfl,c,e,hc1,?_⟩
    have e1:l*sh.size+(cap-l)*sh.size=cap*sh.size:=by rw[← Nat.add_mul];congr 1;omega
    omega
theorem slice_sound_str {s:ByteArray} {v:AV} {x':Value} {lo hi:Option AV} {lo' hi':Option Value} (hx:V w g (.str s) x') (hlo:OptV w g lo lo') (hhi:OptV w g hi hi')
  (h:sliceA (.str s) lo hi none=some v) (t:Nat) (ht:P.underlying t=some .string) :
  ∃ v',(Instr.sliceAt t x' lo' hi' none).run P w=.ok v' w∧V w g v v':=by
 unfold sliceA at h
 simp only at h
 obtain ⟨hh,h1,h⟩:=Option.bind_eq_some_iff.1 h
 obtain ⟨l,h2,h⟩:=Option.bind_eq_some_iff.1 h
 simp at h;subst h
 cases hx
 obtain ⟨b1,b2,b3⟩:=bounds_two (P:=P) (isS:=false) hlo hhi (Nat.le_refl _) h1 h2
 exact ⟨_,by simp[Instr.sliceAt,run_underlying ht,Instr.slice,b1],.str _⟩
end
end Go.Ab
set_option linter.unusedVariables false
set_option linter.unusedSimpArgs false
set_option linter.unusedSectionVars false
namespace Go.Ab
open Go.RowKit
theorem get_append (m:Mem) (e:Option Ent) (nm:Nat):Mem.get (m++[e]) nm=if nm<m.length then m.get nm else if nm=m.length then e else none:=by
 unfold Mem.get
 by_cases h:nm<m.length
 ·simp[h,List.getElem?_append]
 ·by_cases h2:nm=m.length
  ·subst h2;simp
  ·rw[if_neg h,if_neg h2,List.getElem?_eq_none (by simp;omega)];rfl
theorem get_set (m:Mem) (nm:Nat) (e:Option Ent) (n:Nat):Mem.get (m.set nm e) n=if n=nm then (if nm<m.length then e else none) else m.get n:=by
 unfold Mem.get
 by_cases h:n=nm
 ·subst h
  by_cases h2:n<m.length
  ·simp[h2]
  ·simp[h2]
 ·rw[List.getElem?_set,if_neg (by omega),if_neg h]
theorem get_lt {m:Mem} {nm:Nat} {e:Ent} (h:m.get nm=some e):nm<m.length:=by
 unfold Mem.get at h
 rcases Nat.lt_or_ge nm m.length with hl|hl
 ·exact hl
 ·rw[List.getElem?_eq_none hl] at h;cases h
theorem blk_some {g:G} {m:Mem} {nm b:Nat} (h:blk g m nm=some b):(∃ bx cs,m.get nm=some (.obj bx cs)∧g.loc nm=some b)∨(∃ n sz,m.get nm=some (.tok n sz)∧g.tloc nm n=some b)∨∃ kk es,m.get nm=some (.mp kk es)∧g.loc nm=some b:=by
 unfold blk at h
 split at h
 ·exact .inl ⟨_,_,by assumption,h⟩
 ·exact .inr (.inl ⟨_,_,by assumption,h⟩)
 ·cases h
 ·exact .inr (.inr ⟨_,_,by assumption,h⟩)
 ·cases h
section
variable [WInv] {B:Nat} {w:World} {g:G} {m:Mem}
theorem MemR.blk_lt (h:MemR B w g m) {nm b:Nat} (hb:blk g m nm=some b):B≤b∧b<w.heap.size:=by
 rcases blk_some hb with ⟨bx,cs,h1,h2⟩|⟨n,sz,h1,h2⟩|⟨kk,es,h1,h2⟩
 ·obtain ⟨b',c,e,h3,h4,h5,_⟩:=h.obj nm bx cs h1
  obtain rfl:b=b':=by simpa [h2] using h3
  exact ⟨h4,(Array.getElem?_eq_some_iff.1 h5).1⟩
 rotate_left
 ·obtain ⟨b',es',cl,h3,h4,h5,_⟩:=h.mp nm kk es h1
  obtain rfl:b=b':=by simpa [h2] using h3
  exact ⟨h4,(Array.getElem?_eq_some_iff.1 h5).1⟩
 ·obtain ⟨b',c,e,h3,h4,h5,_⟩:=h.tok nm n sz h1
  obtain rfl:b=b':=by simpa [h2] using h3
  exact ⟨h4,(Array.getElem?_eq_some_iff.1 h5).1⟩
theorem MemR.keep (h:MemR B w g m) {w':World} {g':G} (s:Step B w g w' g') (hheap:∀ b,B≤b→b<w.heap.size→w'.heap[b]?=w.heap[b]?)
  (hwr:∀ b off,g.wr b off→g'.wr b off) (hloc:g'.loc=g.loc) (htl:g'.tloc=g.tloc) (hlt:∀ b off,g'.wr b off→b<w'.heap.size) (hbx:∀ b,g'.box b→b<w'.heap.size):MemR B w' g' m where
 obj nm bx cs hn:=by
  obtain ⟨b,c,e,h1,h2,h3,h4,h5,h6,h7⟩:=h.obj nm bx cs hn
  exact ⟨b,c,e,by rw[hloc];exact h1,h2,(hheap b h2 (Array.getElem?_eq_some_iff.1 h3).1).trans h3,h4,fun j hj=>(h5 j hj).step s,fun off=>hwr _ _ (h6 off),(s.box b (Array.getElem?_eq_some_iff.1 h3).1).trans h7⟩
 tok nm n sz hn:=by
  obtain ⟨b,c,e,h1,h2,h3,h4,h5,h6⟩:=h.tok nm n sz hn
  exact ⟨b,c,e,by rw[htl];exact h1,h2,(hheap b h2 (Array.getElem?_eq_some_iff.1 h3).1).trans h3,fun off ho=>hwr _ _ (h4 off ho),fun n' hn'=>by rw[htl];exact h5 n' hn',fun hb=>h6 ((s.box b (Array.getElem?_eq_some_iff.1 h3).1).1 hb)⟩
 resv nm hn:=by rw[hloc,htl];exact h.resv nm hn
 fresh nm hn:=by rw[hloc,htl];exact h.fresh nm hn
 inj nm nm' b h1 h2:=by
  have e:blk g' m=blk g m:=by funext x;unfold blk;rw[hloc,htl]
  rw[e] at h1 h2
  exact h.inj nm nm' b h1 h2
 wrLt:=hlt
 inv:=h.invS s
 boxLt:=hbx
 mp nm kk es hn:=by
  obtain ⟨b,es',cl,h1,h2,h3,h4⟩:=h.mp nm kk es hn
  exact ⟨b,es',cl,by rw[hloc];exact h1,h2,(hheap b h2 (Array.getElem?_eq_some_iff.1 h3).1).trans h3,h4.step s⟩
theorem Step.drew (B:Nat) (w:World) (g:G):Step B w g w.drew g:=
 ⟨(Below.refl _ _).drew,fun _ _ _ _ h=>h,fun _ c _ _ h=>⟨c,h,rfl⟩,fun _ _ _ h=>h,fun _ _ _=>Iff.rfl,fun _ _=>Iff.rfl,fun _ _ h=>h,fun _ _ _ h=>h,fun _ _ h _ _=>h⟩
theorem Step.alloc {B:Nat} {w:World} {g g':G} (hB:B≤w.heap.size) (o:Obj) (hwr:∀ b off,b<w.heap.size→(g'.wr b off↔g.wr b off)) (hbox:∀ b,b<w.heap.size→(g'.box b↔g.box b))
  (hloc:∀ nm b,g.loc nm=some b→g'.loc nm=some b) (htl:∀ nm n b,g.tloc nm n=some b→g'.tloc nm n=some b):Step B w g (w.alloc o) g' where
 below:=(Below.refl _ _).alloc hB o
 cell b off u _ hc:=(World.cell?_alloc_lt w o _ (cell_lt hc)).trans hc
 shape b c e fr hb:=⟨c,(Go.heap_alloc_old w o (Array.getElem?_eq_some_iff.1 hb).1).trans hb,rfl⟩
 wr b off hb hn:=fun hw=>hn ((hwr b off hb).1 hw)
 wrB b off hb:=hwr b off (by omega)
 box b hb:=hbox b hb
 loc:=hloc
 tloc:=htl
 others k x hx _ _:=(Go.heap_alloc_old w o (Array.getElem?_eq_some_iff.1 hx).1).trans hx
theorem MemR.alloc_imm (h:MemR B w g m) (hB:B≤w.heap.size) (o:Obj):Step B w g (w.alloc o) g∧MemR B (w.alloc o) g m:=by
 have s:=Step.alloc (g:=g) hB o (fun _ _ _=>Iff.rfl) (fun _ _=>Iff.rfl) (fun _ _ h=>h) (fun _ _ _ h=>h)
 exact ⟨s,h.keep s (fun b _ hb=>Go.heap_alloc_old w o hb) (fun _ _ h=>h) rfl rfl (fun b off hw=>by have:=h.wrLt b off hw;simp;omega) (fun b hb=>by have:=h.boxLt b hb;simp;omega)⟩
def newG (g:G) (nm b:Nat) (bx:Bool):G where
 wr b' off:=b'=b∨g.wr b' off
 box b':=(bx=true∧b'=b)∨g.box b'
 loc n:=if n=nm then some b else g.loc n
 tloc:=g.tloc
structure Slot (g:G) (m:Mem) (nm:Nat) (e:Ent) (m':Mem):Prop where
 get:∀ x,Mem.get m' x=if x=nm then some e else m.get x
 fresh:g.loc nm=none∧∀ n,g.tloc nm n=none
 len:∀ x,m'.length≤x→m.length≤x∧x≠nm
theorem MemR.slot (h:MemR B w g m) {d:Option Nat} (hd:∀ s,d=some s→m.get s=some .resv) (e:Ent):Slot g m (newAt d m .resv).1 e (newAt d m e).2:=by
 cases d with
 | none=>
  refine ⟨fun x=>?_,h.fresh _ (Nat.le_refl _),fun x hx=>?_⟩
  ·show Mem.get (m++[some e]) x=if x=m.length then some e else m.get x
   rw[get_append]
   by_cases h1:x=m.length
   ·rw[if_neg (by omega),if_pos h1,if_pos h1]
   ·rw[if_neg h1,if_neg h1]
    by_cases h2:x<m.length
    ·rw[if_pos h2]
    ·rw[if_neg h2]
     unfold Mem.get
     rw[List.getElem?_eq_none (by omega)];rfl
  ·simp only[newAt,List.length_append,List.length_singleton] at hx ⊢
   omega
 | some s=>
  have hs:=hd s rfl
  have hlt:=get_lt hs
  refine ⟨fun x=>?_,h.resv s hs,fun x hx=>?_⟩
  ·show Mem.get (m.set s (some e)) x=if x=s then some e else m.get x
   rw[get_set,if_pos hlt]
  ·simp only[newAt,List.length_set] at hx ⊢
   omega
theorem MemR.alloc_obj (h:MemR B w g m) (hB:B≤w.heap.size) (c:Array Value) (e:TypeId) (cs:List AV) (hl:cs.length≤c.size) (hv:∀ j,j<cs.length→V w g (cs.getD j .any) (c.getD j undef)) (bx:Bool) {nm:Nat} {m':Mem} (hs:Slot g m nm (.obj bx cs) m') :
  Step B w g (w.alloc (.cells c e)) (newG g nm w.heap.size bx)∧MemR B (w.alloc (.cells c e)) (newG g nm w.heap.size bx) m':=by
 have hfr:=hs.fresh
 have hbl:=h.boxLt
 have s:Step B w g (w.alloc (.cells c e)) (newG g nm w.heap.size bx):=by
  refine Step.alloc hB _ (fun b off hb=>?_) (fun b hb=>?_) (fun x b hb=>?_) (fun _ _ _ h=>h)
  ·simp only[newG];constructor
   ·rintro (rfl|h)<;>first|omega|exact h
   ·exact .inr
  ·simp only[newG];constructor
   ·rintro (⟨_,rfl⟩|h)<;>first|omega|exact h
   ·exact .inr
  ·simp only[newG]
   split
   ·rename_i he;rw[he,hfr.1] at hb;cases hb
   ·exact hb
 have hblk:∀ x b,blk (newG g nm w.heap.size bx) m' x=some b→(x≠nm∧blk g m x=some b)∨(x=nm∧b=w.heap.size):=by
  intro x b hb
  rcases blk_some hb with ⟨bx',cs',h1,h2⟩|⟨n,sz,h1,h2⟩|⟨kk,es,h1,h2⟩
  ·rw[hs.get] at h1
   split at h1
   ·rename_i he
    simp only[newG,if_pos he] at h2
    exact .inr ⟨he,by simpa using h2.symm⟩
   ·rename_i hne
    simp only[newG,if_neg hne] at h2
    exact .inl ⟨hne,by simp[blk,h1,h2]⟩
  ·rw[hs.get] at h1
   split at h1
   ·simp at h1
   ·rename_i hne
    simp only[newG] at h2
    exact .inl ⟨hne,by simp[blk,h1,h2]⟩
  ·rw[hs.get] at h1
   split at h1
   ·simp at h1
   ·rename_i hne
    simp only[newG,if_neg hne] at h2
    exact .inl ⟨hne,by simp[blk,h1,h2]⟩
 refine ⟨s,?_,?_,?_,?_,?_,?_,?_,?_,?mp⟩
 case mp=>
  intro x kk es hn
  rw[hs.get] at hn
  split at hn
  ·simp at hn
  ·obtain ⟨b,es',cl,h1,h2,h3,h4⟩:=h.mp x kk es hn
   exact ⟨b,es',cl,s.loc _ _ h1,h2,(Go.heap_alloc_old w _ (Array.getElem?_eq_some_iff.1 h3).1).trans h3,h4.step s⟩
 ·intro x bx' cs' hn
  rw[hs.get] at hn
  split at hn
  ·rename_i he
   simp only[Option.some.injEq,Ent.obj.injEq] at hn
   obtain ⟨rfl,rfl⟩:=hn
   refine ⟨w.heap.size,c,e,by simp[newG,he],hB,heap_alloc_new w _,hl,fun j hj=>(hv j hj).step s,fun off=>.inl rfl,?_⟩
   simp only[newG]
   constructor
   ·rintro (⟨h,_⟩|h)
    ·exact h
    ·exact absurd (hbl _ h) (Nat.lt_irrefl _)
   ·intro h;exact .inl ⟨h,trivial⟩
  ·obtain ⟨b,c',e',h1,h2,h3,h4,h5,h6,h7⟩:=h.obj x bx' cs' hn
   exact ⟨b,c',e',s.loc _ _ h1,h2,(Go.heap_alloc_old w _ (Array.getElem?_eq_some_iff.1 h3).1).trans h3,h4,fun j hj=>(h5 j hj).step s,fun off=>.inr (h6 off),(s.box b (Array.getElem?_eq_some_iff.1 h3).1).trans h7⟩
 ·intro x n sz hn
  rw[hs.get] at hn
  split at hn
  ·simp at hn
  ·obtain ⟨b,c',e',h1,h2,h3,h4,h5,h6⟩:=h.tok x n sz hn
   exact ⟨b,c',e',h1,h2,(Go.heap_alloc_old w _ (Array.getElem?_eq_some_iff.1 h3).1).trans h3,fun off ho=>.inr (h4 off ho),h5,fun hb=>h6 ((s.box b (Array.getElem?_eq_some_iff.1 h3).1).1 hb)⟩
 ·intro x hn
  rw[hs.get] at hn
  split at hn
  ·simp at hn
  ·rename_i hne
   have:=h.resv x hn
   exact ⟨by simp only[newG];rw[if_neg hne];exact this.1,this.2⟩
 ·intro x hn
  obtain ⟨h1,h2⟩:=hs.len x hn
  have:=h.fresh x h1
  exact ⟨by simp only[newG];rw[if_neg h2];exact this.1,this.2⟩
 ·intro x x' b h1 h2
  rcases hblk _ _ h1 with ⟨a1,a2⟩|⟨a1,a2⟩<;>rcases hblk _ _ h2 with ⟨b1,b2⟩|⟨b1,b2⟩
  ·exact h.inj _ _ _ a2 b2
  ·have:=(h.blk_lt a2).2;omega
  ·have:=(h.blk_lt b2).2;omega
  ·omega
 ·rintro b off (rfl|hw)
  ·simp
  ·have:=h.wrLt b off hw;simp;omega
 ·exact h.invS s
 ·rintro b (⟨_,rfl⟩|hw)
  ·simp
  ·have:=h.boxLt b hw;simp;omega
def tokG (g:G) (nm b n sz:Nat):G where
 wr b' off:=(b'=b∧n*sz≤off)∨g.wr b' off
 box:=g.box
 loc:=g.loc
 tloc nm' n':=if nm'=nm∧n'=n then some b else g.tloc nm' n'
theorem MemR.alloc_tok (h:MemR B w g m) (hB:B≤w.heap.size) (c:Array Value) (e:TypeId) (n sz:Nat) {nm:Nat} {m':Mem} (hs:Slot g m nm (.tok n sz) m') :
  Step B w g (w.alloc (.cells c e)) (tokG g nm w.heap.size n sz)∧MemR B (w.alloc (.cells c e)) (tokG g nm w.heap.size n sz) m':=by
 have hfr:=hs.fresh
 have s:Step B w g (w.alloc (.cells c e)) (tokG g nm w.heap.size n sz):=by
  refine Step.alloc hB _ (fun b off hb=>?_) (fun b hb=>Iff.rfl) (fun x b hb=>hb) (fun x n' b hb=>?_)
  ·simp only[tokG];constructor
   ·rintro (⟨rfl,_⟩|h)<;>first|omega|exact h
   ·exact .inr
  ·simp only[tokG]
   split
   ·rename_i he;rw[he.1,hfr.2] at hb;cases hb
   ·exact hb
 have hblk:∀ x b,blk (tokG g nm w.heap.size n sz) m' x=some b→(x≠nm∧blk g m x=some b)∨(x=nm∧b=w.heap.size):=by
  intro x b hb
  rcases blk_some hb with ⟨bx',cs',h1,h2⟩|⟨n',sz',h1,h2⟩|⟨kk,es,h1,h2⟩
  ·rw[hs.get] at h1
   split at h1
   ·simp at h1
   ·rename_i hne
    simp only[tokG] at h2
    exact .inl ⟨hne,by simp[blk,h1,h2]⟩
  rotate_left
  ·rw[hs.get] at h1
   split at h1
   ·simp at h1
   ·rename_i hne
    simp only[tokG] at h2
    exact .inl ⟨hne,by simp[blk,h1,h2]⟩
  ·rw[hs.get] at h1
   split at h1
   ·rename_i he
    simp only[Option.some.injEq,Ent.tok.injEq] at h1
    simp only[tokG,if_pos (show x=nm∧n'=n from ⟨he,h1.1.symm⟩)] at h2
    exact .inr ⟨he,by simpa using h2.symm⟩
   ·rename_i hne
    simp only[tokG,if_neg (show ¬ (x=nm∧n'=n) from fun h=>hne h.1)] at h2
    exact .inl ⟨hne,by simp[blk,h1,h2]⟩
 refine ⟨s,?_,?_,?_,?_,?_,?_,?_,?_,?mp⟩
 case mp=>
  intro x kk es hn
  rw[hs.get] at hn
  split at hn
  ·simp at hn
  ·obtain ⟨b,es',cl,h1,h2,h3,h4⟩:=h.mp x kk es hn
   exact ⟨b,es',cl,h1,h2,(Go.heap_alloc_old w _ (Array.getElem?_eq_some_iff.1 h3).1).trans h3,h4.step s⟩
 ·intro x bx' cs' hn
  rw[hs.get] at hn
  split at hn
  ·simp at hn
  ·obtain ⟨b,c',e',h1,h2,h3,h4,h5,h6,h7⟩:=h.obj x bx' cs' hn
   exact ⟨b,c',e',h1,h2,(Go.heap_alloc_old w _ (Array.getElem?_eq_some_iff.1 h3).1).trans h3,h4,fun j hj=>(h5 j hj).step s,fun off=>.inr (h6 off),(s.box b (Array.getElem?_eq_some_iff.1 h3).1).trans h7⟩
 ·intro x n' sz' hn
  rw[hs.get] at hn
  split at hn
  ·rename_i he
   simp only[Option.some.injEq,Ent.tok.injEq] at hn
   obtain ⟨rfl,rfl⟩:=hn
   refine ⟨w.heap.size,c,e,by simp[tokG,he],hB,heap_alloc_new w _,fun off ho=>.inl ⟨rfl,ho⟩,fun n'' hn''=>?_,fun hb=>Nat.lt_irrefl _ (h.boxLt _ hb)⟩
   simp only[tokG];rw[if_neg (by omega),he];exact hfr.2 n''
  ·rename_i hne
   obtain ⟨b,c',e',h1,h2,h3,h4,h5,h6⟩:=h.tok x n' sz' hn
   refine ⟨b,c',e',s.tloc _ _ _ h1,h2,(Go.heap_alloc_old w _ (Array.getElem?_eq_some_iff.1 h3).1).trans h3,fun off ho=>.inr (h4 off ho),fun n'' hn''=>?_,fun hb=>h6 ((s.box b (Array.getElem?_eq_some_iff.1 h3).1).1 hb)⟩
   simp only[tokG];rw[if_neg (fun h=>hne h.1)];exact h5 n'' hn''
 ·intro x hn
  rw[hs.get] at hn
  split at hn
  ·simp at hn
  ·rename_i hne
   have:=h.resv x hn
   exact ⟨this.1,fun n'=>by simp only[tokG];rw[if_neg (fun h=>hne h.1)];exact this.2 n'⟩
 ·intro x hn
  obtain ⟨h1,h2⟩:=hs.len x hn
  have:=h.fresh x h1
  exact ⟨this.1,fun n'=>by simp only[tokG];rw[if_neg (fun h=>h2 h.1)];exact this.2 n'⟩
 ·intro x x' b h1 h2
  rcases hblk _ _ h1 with ⟨a1,a2⟩|⟨a1,a2⟩<;>rcases hblk _ _ h2 with ⟨b1,b2⟩|⟨b1,b2⟩
  ·exact h.inj _ _ _ a2 b2
  ·have:=(h.blk_lt a2).2;omega
  ·have:=(h.blk_lt b2).2;omega
  ·omega
 ·rintro b off (⟨rfl,_⟩|hw)
  ·simp
  ·have:=h.wrLt b off hw;simp;omega
 ·exact h.invS s
 ·intro b hw
  have:=h.boxLt b hw;simp;omega
theorem putAt_length {cs vs:List AV} {off:Nat} (h:off+vs.length≤cs.length):(putAt cs off vs).length=cs.length:=by
 simp[putAt];omega
theorem putAt_getD {cs vs:List AV} {off:Nat} (h:off+vs.length≤cs.length) (j:Nat):(putAt cs off vs).getD j .any=if off≤j∧j<off+vs.length then vs.getD (j-off) .any else cs.getD j .any:=by
 unfold putAt
 have hlen:(cs.take off).length=off:=by simp;omega
 simp only[List.getD_eq_getElem?_getD,List.append_assoc,List.getElem?_append,hlen,List.getElem?_take,List.getElem?_drop]
 by_cases h1:j<off
 ·rw[if_pos h1,if_pos h1,if_neg (by omega)]
 ·rw[if_neg h1]
  by_cases h2:j-off<vs.length
  ·rw[if_pos h2,if_pos (by omega)]
  ·rw[if_neg h2,if_neg (by omega),show off+vs.length+(j-off-vs.length)=j by omega]
theorem foldl_set (off:Nat):∀ (vs:List Value) (i:Nat) (cs:Array Value),(off+i+vs.length≤cs.size) →
  ((vs.zipIdx i).foldl (fun cs (c,j)=>cs.setIfInBounds (off+j) c) cs).size=cs.size ∧
  ∀ k,((vs.zipIdx i).foldl (fun cs (c,j)=>cs.setIfInBounds (off+j) c) cs).getD k undef=if off+i≤k∧k<off+i+vs.length then vs.getD (k-(off+i)) undef else cs.getD k undef
 | [],i,cs,_=>by
  refine ⟨rfl,fun k=>?_⟩
  simp only[List.zipIdx_nil,List.foldl_nil,List.length_nil]
  rw[if_neg (by omega)]
 | v::vs,i,cs,h=>by
  simp only[List.length_cons] at h
  obtain ⟨h1,h2⟩:=foldl_set off vs (i+1) (cs.setIfInBounds (off+i) v) (by simp;omega)
  simp only[List.zipIdx_cons,List.foldl_cons]
  refine ⟨by rw[h1];simp,fun k=>?_⟩
  rw[h2]
  simp only[List.length_cons]
  by_cases hk:off+(i+1)≤k∧k<off+(i+1)+vs.length
  ·rw[if_pos hk,if_pos (by omega),show k-(off+i)=(k-(off+(i+1)))+1 by omega]
   rfl
  ·rw[if_neg hk]
   by_cases hk2:k=off+i
   ·subst hk2
    rw[if_pos (by omega)]
    simp[Array.getD,show off+i<cs.size by omega]
   ·rw[if_neg (by omega)]
    simp only[Array.getD_eq_getD_getElem?]
    rw[Array.getElem?_setIfInBounds,if_neg (by omega)]
theorem fill_sound {w:World} {g:G} (place:Nat→Option (Nat×Nat)):∀ (parts:List (Nat×Sh×AV)) (ps:List (Nat×Value)) (cs cs':List AV) (c:Array Value),
  parts.length=ps.length→(∀ k (h:k<parts.length) (h':k<ps.length),place ps[k].1=some (parts[k].1,(parts[k].2.1).size)∧V w g parts[k].2.2 ps[k].2) →
  cs.length=c.size→(∀ j,j<cs.length→V w g (cs.getD j .any) (c.getD j undef))→fillA cs parts=some cs' →
  ∃ c',Instr.fill place c ps=some c'∧cs'.length=c'.size∧cs'.length=cs.length∧∀ j,j<cs'.length→V w g (cs'.getD j .any) (c'.getD j undef)
 | [],ps,cs,cs',c,hl,_,hc,hv,h=>by
  obtain rfl:ps=[]:=List.eq_nil_of_length_eq_zero (by simpa using hl.symm)
  simp[fillA] at h;subst h
  exact ⟨c,rfl,hc,rfl,hv⟩
 | (off,sh,x)::parts,ps,cs,cs',c,hl,hp,hc,hv,h=>by
  match ps,hl with
  | (i,v)::ps,hl=>
  obtain ⟨hpl,hV⟩:=hp 0 (by simp) (by simp)
  simp only[List.getElem_cons_zero] at hpl hV
  simp only[fillA] at h
  split at h
  ·rename_i hsh
   split at h
   ·rename_i hle
    obtain ⟨hvs,hvc,_⟩:=V_cells hV hsh
    have hxs:=shOk_size hsh
    obtain ⟨f1,f2⟩:=foldl_set off v.cells.toList 0 c (by simp;omega)
    simp only[Nat.add_zero,Array.length_toList] at f2
    have hz:(v.cells.zipIdx.foldl (fun cs (c,j)=>cs.setIfInBounds (off+j) c) c)=(v.cells.toList.zipIdx.foldl (fun cs (c,j)=>cs.setIfInBounds (off+j) c) c):=by
     rw[← Array.foldl_toList,Array.toList_zipIdx]
    have ih:=fill_sound place parts ps (putAt cs off x.cells) cs' (v.cells.zipIdx.foldl (fun cs (c,j)=>cs.setIfInBounds (off+j) c) c) (by simpa using hl)
     (fun k h1 h2=>by have:=hp (k+1) (by simpa using h1) (by simpa using h2);simpa using this)
     (by rw[hz,f1,putAt_length (by omega)];exact hc)
     (fun j hj=>by
      rw[putAt_length (by omega)] at hj
      rw[hz,f2,putAt_getD (by omega)]
      by_cases hk:off≤j∧j<off+x.cells.length
      ·rw[if_pos hk,if_pos (by omega)]
       have:=hvc (j-off) (by omega)
       simpa [List.getD_eq_getElem?_getD,Array.getD_eq_getD_getElem?] using this
      ·rw[if_neg hk,if_neg (by omega)];exact hv j hj) h
    obtain ⟨c',h1,h2,h3,h4⟩:=ih
    refine ⟨c',?_,h2,by rw[h3,putAt_length (by omega)],h4⟩
    simp only[Instr.fill,hpl]
    rw[if_neg (by simp;omega)]
    exact h1
   ·cases h
  ·cases h
section
variable [WInv] {P:Program} {B:Nat} {w:World} {g:G} {m:Mem}
theorem zero_facts {t:Nat} {z:AV} (h:zeroOf P t=some z):∃ i v,P.info? t=some i∧i.zero=some v∧z=valA v:=by
 unfold zeroOf at h
 split at h
 ·rename_i i hi
  obtain ⟨v,hv,rfl⟩:=Option.map_eq_some_iff.1 h
  exact ⟨i,v,hi,hv,rfl⟩
 ·cases h
theorem valA_cells (w:World) (g:G) (v:Value):(valA v).cells.length=v.cells.size∧∀ j,j<v.cells.size→V w g ((valA v).cells.getD j .any) (v.cells.getD j undef):=by
 have hat:∀ v:Value,(atomA v).cells=[atomA v]:=fun v=>by unfold atomA;split<;>rfl
 by_cases ha:∃ cs,v=.agg cs
 ·obtain ⟨cs,rfl⟩:=ha
  refine ⟨by simp[valA,AV.cells,Value.cells],fun j hj=>?_⟩
  simp only[Value.cells] at hj
  have:(valA (.agg cs)).cells.getD j .any=atomA (cs.getD j undef):=by
   simp[valA,AV.cells,List.getD_eq_getElem?_getD,Array.getD,hj]
  rw[this]
  exact V_atom _ _ _
 ·have h1:valA v=atomA v:=by
   unfold valA
   split
   ·exact absurd ⟨_,rfl⟩ ha
   ·rfl
  have h2:v.cells = #[v]:=by
   unfold Value.cells
   split
   ·exact absurd ⟨_,rfl⟩ ha
   ·rfl
  rw[h1,hat,h2]
  refine ⟨rfl,fun j hj=>?_⟩
  obtain rfl:j=0:=by simp at hj;omega
  exact V_atom _ _ _
def Done (P:Program) (B:Nat) (w:World) (g:G) (s:Sem Value) (v:AV) (m':Mem):Prop:=
 ∃ v' w' g',s.run P w=.ok v' w'∧Step B w g w' g'∧MemR B w' g' m'∧V w' g' v v'
theorem Done.same (hm:MemR B w g m) {s:Sem Value} {v:AV} (h:∃ v',s.run P w=.ok v' w∧V w g v v'):Done P B w g s v m:=
 let ⟨v',h1,h2⟩:=h;⟨v',w,g,h1,.refl _ _ _,hm,h2⟩
theorem V_newptr (g:G) (nm b:Nat) (bx:Bool) (w':World):V w' (newG g nm b bx) (.ptr nm 0) (.pointer (some ⟨b,0,none⟩)):=.ptr _ _ _ (by simp[newG])
theorem alloc_sound (hm:MemR B w g m) (hB:B≤w.heap.size) {d:Option Nat} (hd:∀ s,d=some s→m.get s=some .resv) {t:Nat} {z:AV} (h:zeroOf P t=some z):Done P B w g (Instr.alloc t true (.tuple #[])) (.ptr (newAt d m .resv).1 0) (newAt d m (.obj true z.cells)).2:=by
 obtain ⟨i,v,hi,hv,rfl⟩:=zero_facts h
 obtain ⟨h1,h2⟩:=valA_cells w g v
 obtain ⟨s,hm'⟩:=hm.alloc_obj hB v.cells t (valA v).cells (by omega) (fun j hj=>h2 j (by omega)) true (hm.slot hd _)
 refine ⟨_,_,_,?_,s,hm',V_newptr _ _ _ _ _⟩
 simp[Instr.alloc,zeroValue,typeInfo,hi,hv,newVar,newRow]
theorem box_sound (hm:MemR B w g m) (hB:B≤w.heap.size) {d:Option Nat} (hd:∀ s,d=some s→m.get s=some .resv) {t:Nat} {sh:Sh} {x r:AV} {m':Mem} {x':Value} (hx:V w g x x') (h:boxA d sh m x=some (r,m')):Done P B w g (Instr.box t x') r m':=by
 unfold boxA at h
 split at h
 ·rename_i hs
  simp at h
  obtain ⟨rfl,rfl⟩:=h
  obtain ⟨h1,h2,_⟩:=V_cells hx hs
  have hl:=shOk_size hs
  obtain ⟨s,hm'⟩:=hm.alloc_obj hB x'.cells t x.cells (by omega) (fun j hj=>h2 j (by omega)) true (hm.slot hd _)
  refine ⟨_,_,_,?_,s,hm',V_newptr _ _ _ _ _⟩
  simp[Instr.box,newVar,newRow]
 ·cases h
theorem storeCells_wr {b:Nat}:∀ (vs:List Value) (off i:Nat) (w:World) (c:Array Value) (e:TypeId),w.heap[b]?=some (Obj.cells c e (0,0))→off+i+vs.length≤c.size→(∀ v∈vs,v.oneCell'=true) →
  ∃ w',(storeCells ⟨b,off,none⟩ vs i).run P w=.ok () w'∧w'=w.setRow b (c.toList.take (off+i)++vs++c.toList.drop (off+i+vs.length)).toArray:=
 fun vs off i w c e hb hl h1=>⟨_,run_storeCells_at P b off e vs i c w hb hl h1,rfl⟩
theorem MemR.write (hm:MemR B w g m) {nm b:Nat} {cs cs':List AV} {c c':Array Value} {e:TypeId} {bx:Bool} (hn:m.get nm=some (.obj bx cs)) (hl:g.loc nm=some b) (hb:w.heap[b]?=some (Obj.cells c e (0,0))) (hsz:c'.size=c.size) (hcl:cs'.length≤c'.size)
  (hv:∀ j,j<cs'.length→V w g (cs'.getD j .any) (c'.getD j undef)):Step B w g (w.setRow b c') g∧MemR B (w.setRow b c') g (m.set nm (some (.obj bx cs'))):=by
 obtain ⟨b',c0,e0,h1,h2,h3,h4,h5,h6,h7⟩:=hm.obj nm bx cs hn
 obtain rfl:b=b':=by simpa [hl] using h1
 have hother:∀ k,k≠b→(w.setRow b c').heap[k]?=w.heap[k]?:=fun k hk=>setRow_other w b k c' hk
 have hthis:(w.setRow b c').heap[b]?=some (Obj.cells c' e (0,0)):=setRow_heap w b c c' e _ hb
 have hsize:(w.setRow b c').heap.size=w.heap.size:=by simp
 have s:Step B w g (w.setRow b c') g:=by
  refine ⟨⟨rfl,rfl,rfl,by omega,fun k hk=>hother k (by omega)⟩,fun b' off u hw hc=>?_,fun b' c1 e1 fr hb'=>?_,fun _ _ _ h=>h,fun _ _ _=>Iff.rfl,fun _ _=>Iff.rfl,fun _ _ h=>h,fun _ _ _ h=>h,fun k o hk ho _=>(hother k (fun he=>by rw[he,hb] at hk;cases hk;cases ho)).trans hk⟩
  ·have hne:b'≠b:=fun he=>hw (he▸h6 off)
   exact (World.cell?_of_block (w:=w) (a:=⟨b',off,none⟩) (hother b' hne)).trans hc
  ·by_cases he:b'=b
   ·subst he
    rw[hb] at hb'
    simp only[Option.some.injEq,Obj.cells.injEq] at hb'
    obtain ⟨rfl,rfl,rfl⟩:=hb'
    exact ⟨c',hthis,hsz⟩
   ·exact ⟨c1,(hother b' he).trans hb',rfl⟩
 have hlt:=get_lt hn
 have hblk:∀ x b',blk g (m.set nm (some (.obj bx cs'))) x=some b'→blk g m x=some b':=by
  intro x b' hx
  rcases blk_some hx with ⟨bx1,cs1,a1,a2⟩|⟨n1,sz1,a1,a2⟩|⟨kk1,es1,a1,a2⟩
  rotate_left 2
  ·rw[get_set] at a1
   split at a1
   ·simp at a1
   ·simp[blk,a1,a2]
  ·rw[get_set] at a1
   split at a1
   ·rename_i he;subst he;simp[blk,hn,a2]
   ·simp[blk,a1,a2]
  ·rw[get_set] at a1
   split at a1
   ·simp at a1
   ·simp[blk,a1,a2]
 have hbnm:blk g m nm=some b:=by simp[blk,hn,hl]
 refine ⟨s,?_,?_,?_,?_,?_,?_,?_,?_,?mp⟩
 case mp=>
  intro x kk es hx
  rw[get_set] at hx
  split at hx
  ·simp at hx
  ·rename_i hne
   obtain ⟨b1,es1,cl1,a1,a2,a3,a4⟩:=hm.mp x kk es hx
   have hbne:b1≠b:=fun he=>by rw[he,hb] at a3;cases a3
   exact ⟨b1,es1,cl1,a1,a2,(hother b1 hbne).trans a3,a4.step s⟩
 ·intro x bx1 cs1 hx
  rw[get_set] at hx
  split at hx
  ·rename_i he
   subst he
   simp at hx
   obtain ⟨rfl,rfl⟩:=hx
   exact ⟨b,c',e,hl,h2,hthis,hcl,fun j hj=>(hv j hj).step s,h6,h7⟩
  ·rename_i hne
   obtain ⟨b1,c1,e1,a1,a2,a3,a4,a5,a6⟩:=hm.obj x bx1 cs1 hx
   have hbne:b1≠b:=fun he=>hne (hm.inj x nm b (by simp[blk,hx,a1,he]) hbnm)
   exact ⟨b1,c1,e1,a1,a2,(hother b1 hbne).trans a3,a4,fun j hj=>(a5 j hj).step s,a6⟩
 ·intro x n1 sz1 hx
  rw[get_set] at hx
  split at hx
  ·simp at hx
  ·rename_i hne
   obtain ⟨b1,c1,e1,a1,a2,a3,a4,a5,a6⟩:=hm.tok x n1 sz1 hx
   have hbne:b1≠b:=fun he=>hne (hm.inj x nm b (by simp[blk,hx,a1,he]) hbnm)
   exact ⟨b1,c1,e1,a1,a2,(hother b1 hbne).trans a3,a4,a5,a6⟩
 ·intro x hx
  rw[get_set] at hx
  split at hx
  ·simp at hx
  ·exact hm.resv x hx
 ·intro x hx
  exact hm.fresh x (by simpa using hx)
 ·intro x x' b' h1 h2
  exact hm.inj x x' b' (hblk x b' h1) (hblk x' b' h2)
 ·intro b' off hw;rw[hsize];exact hm.wrLt b' off hw
 ·exact hm.invS s
 ·intro b' hw;rw[hsize];exact hm.boxLt b' hw
theorem obj?_get {m:Mem} {nm:Nat} {bx:Bool} {cs:List AV} (h:m.obj? nm=some (bx,cs)):m.get nm=some (.obj bx cs):=by
 unfold Mem.obj? at h
 split at h
 ·rename_i hh;simp at h;rw[hh,h.1,h.2]
 ·cases h
theorem store_sound (hm:MemR B w g m) {t:Nat} {sh:Sh} {x v:AV} {m':Mem} {x' v':Value} (hx:V w g x x') (hv:V w g v v') (hsh:shOf P t=some sh) (h:storeA sh m x v=some m') :
  ∃ w',(Instr.storeAt t x' v').run P w=.ok () w'∧Step B w g w' g∧MemR B w' g m':=by
 unfold storeA at h
 split at h
 ·rename_i nm off
  obtain ⟨⟨bx,cs⟩,hcs,h⟩:=Option.bind_eq_some_iff.1 h
  split at h
  ·rename_i hle
   simp only at hle h
   split at h
   ·rename_i hs
    simp at h;subst h
    have hn:=obj?_get hcs
    obtain ⟨b,c,e,h1,h2,h3,h4,h5,h6,h7⟩:=hm.obj nm bx cs hn
    cases hx with
    | ptr _ _ b' hl=>
     obtain rfl:b=b':=by simpa [hl] using h1.symm
     obtain ⟨k1,k2,k3⟩:=V_cells hv hs
     have kl:=shOk_size hs
     obtain ⟨i,d,hi,hd,hsz,_⟩:=shOf_facts hsh
     obtain ⟨w',hr,rfl⟩:=storeCells_wr (P:=P) v'.cells.toList off 0 w c e h3 (by simp;omega) k3
     have hres:(c.toList.take (off+0)++v'.cells.toList++c.toList.drop (off+0+v'.cells.toList.length)).toArray.size=c.size:=by
      simp;omega
     obtain ⟨s,hm'⟩:=hm.write (cs':=putAt cs off v.cells) (c':=(c.toList.take (off+0)++v'.cells.toList++c.toList.drop (off+0+v'.cells.toList.length)).toArray) hn hl h3 hres (by rw[hres,putAt_length (by omega)];omega)
      (fun j hj=>by
       rw[putAt_length (by omega)] at hj
       rw[putAt_getD (by omega)]
       have hjl:j<c.size:=by omega
       have hlen:(c.toList.take off).length=off:=by simp;omega
       simp only[Array.getD_eq_getD_getElem?,List.getElem?_toArray,Nat.add_zero,List.append_assoc,List.getElem?_append,hlen,List.getElem?_take,List.getElem?_drop,Array.length_toList]
       by_cases hk:off≤j∧j<off+v.cells.length
       ·rw[if_pos hk,if_neg (by omega),if_pos (by omega)]
        have:=k2 (j-off) (by omega)
        simpa [Array.getD_eq_getD_getElem?] using this
       ·rw[if_neg hk]
        have hvj:=h5 j hj
        by_cases hj1:j<off
        ·rw[if_pos hj1,if_pos hj1]
         simpa [Array.getD_eq_getD_getElem?] using hvj
        ·rw[if_neg hj1,if_neg (by omega),show off+v'.cells.size+(j-off-v'.cells.size)=j by omega]
         simpa [Array.getD_eq_getD_getElem?] using hvj)
     refine ⟨_,?_,s,hm'⟩
     have hne:¬ (v'.cells.size≠i.size):=by omega
     simp only[Instr.storeAt,Instr.sureAddr,storeVar,Sem.run_bind,Sem.run_pure,Result.andThen_ok,run_sizeOf hi,hne,if_false]
     exact hr
   ·cases h
  ·cases h
 ·cases h
theorem madeCells_getD (z:Array Value) (n k:Nat) (hz:0<z.size) (hk:k<n):(madeCells z n).getD k undef=z.getD (k%z.size) undef:=by
 have hlt:k%z.size<z.size:=Nat.mod_lt _ hz
 simp[madeCells,Array.getD,hk,hlt]
theorem zeros_facts {sh:Sh} {zv:Value} {n:Nat} (hz:zv.cells.size=sh.size) (hne:sh=none→(valA zv).cells=[valA zv]) (w:World) (g:G) :
  (zeros sh (valA zv) n).length=n*sh.size∧∀ j,j<n*sh.size→V w g ((zeros sh (valA zv) n).getD j .any) (zv.cells.getD (j%zv.cells.size) undef):=by
 obtain ⟨h1,h2⟩:=valA_cells w g zv
 have key:∀ n,((List.replicate n (valA zv).cells).flatten).length=n*sh.size∧∀ j,j<n*sh.size→((List.replicate n (valA zv).cells).flatten).getD j .any=(valA zv).cells.getD (j%sh.size) .any:=by
  intro n
  induction n with
  | zero=>simp
  | succ n ih=>
   have hl:(valA zv).cells.length=sh.size:=by omega
   refine ⟨by simp only[List.replicate_succ,List.flatten_cons,List.length_append,ih.1,hl,Nat.succ_mul];omega,fun j hj=>?_⟩
   simp only[List.replicate_succ,List.flatten_cons,List.getD_eq_getElem?_getD,List.getElem?_append,hl]
   by_cases hj2:j<sh.size
   ·rw[if_pos hj2,Nat.mod_eq_of_lt hj2]
   ·rw[if_neg hj2,Nat.mod_eq_sub_mod (by omega)]
    rw[Nat.succ_mul] at hj
    simpa [List.getD_eq_getElem?_getD] using ih.2 (j-sh.size) (by omega)
 have hz':zeros sh (valA zv) n=(List.replicate n (valA zv).cells).flatten:=by
  cases sh with
  | none=>
   have:=hne rfl
   simp only[zeros]
   rw[this]
   induction n with
   | zero=>rfl
   | succ n ih=>simp only[List.replicate_succ,List.flatten_cons,← ih];rfl
  | some k=>rfl
 rw[hz']
 refine ⟨(key n).1,fun j hj=>?_⟩
 rw[(key n).2 j hj,hz]
 have hpos:0<sh.size:=by
  rcases Nat.eq_zero_or_pos sh.size with h0|h0
  ·rw[h0] at hj;simp at hj
  ·exact h0
 exact h2 _ (by rw[hz];exact Nat.mod_lt _ hpos)
theorem make_sound (hm:MemR B w g m) (hB:B≤w.heap.size) {d:Option Nat} (hd:∀ s,d=some s→m.get s=some .resv) {t e:Nat} {sh:Sh} {z l c v:AV} {m':Mem} {l' c':Value} (ht:P.underlying t=some (.slice e)) (hsh:shOf P e=some sh) (he:elemOk P e sh=true) (hz:zeroOf P e=some z)
  (hl:V w g l l') (hc:V w g c c') (h:makeA d e sh z (bytesOf P e) m l c=some (v,m')):Done P B w g (Instr.makeSlice t l' c') v m':=by
 obtain ⟨i,zv,hi,hs,hpos,hzv,hzs,hna⟩:=elemOk_facts he
 obtain ⟨i2,zv2,hi2,hzv2,rfl⟩:=zero_facts hz
 obtain rfl:i=i2:=by simpa [hi] using hi2
 obtain rfl:zv=zv2:=by simpa [hzv] using hzv2
 have hb:i.bytes≤bytesOf P e:=by simp[bytesOf,hi];omega
 have hz2:zv.cells.size=sh.size:=by omega
 unfold makeA at h
 split at h
 ·rename_i kl l kc c
  cases hl;cases hc
  split at h
  ·rename_i hcond
   obtain ⟨h0,hlc,hby,h63⟩:=hcond
   have hby:c*(i.bytes:Int)≤281474976710656:=Int.le_trans (Int.mul_le_mul_of_nonneg_left (by omega) (by omega)) hby
   have hr:=run_make (P:=P) w t e i zv ht hi hzv kl kc l c h0 hlc (by rw[Int.mul_comm];exact hby) h63
   split at h
   ·rename_i heq
    subst heq
    simp at h
    obtain ⟨rfl,rfl⟩:=h
    have hshn:sh=none→(valA zv).cells=[valA zv]:=by
     intro hn
     have h1:valA zv=atomA zv:=by
      unfold valA
      split
      ·exact absurd rfl (hna hn _)
      ·rfl
     rw[h1]
     unfold atomA;split<;>rfl
    obtain ⟨z1,z2⟩:=zeros_facts (sh:=sh) (n:=l.toNat) hz2 hshn w g
    obtain ⟨s,hm'⟩:=hm.alloc_obj hB (madeCells zv.cells (l.toNat*i.size)) e (zeros sh (valA zv) l.toNat) (by rw[size_madeCells,z1,hs];exact Nat.le_refl _) (fun j hj=>by
     rw[z1] at hj
     rw[madeCells_getD _ _ _ (by omega) (by rw[hs];exact hj)]
     exact z2 j hj) false (hm.slot hd _)
    refine ⟨_,_,_,hr,s,hm',.arr _ _ _ _ _ _ (.inr rfl) (Nat.le_refl _) (by simp only[maxLen];omega) (.inr ⟨by simp[newG],rfl,_,_,heap_alloc_new w _,by rw[size_madeCells,hs,Nat.zero_add];exact Nat.le_refl _⟩)⟩
   ·split at h
    ·rename_i hl0
     subst hl0
     simp at h
     obtain ⟨rfl,rfl⟩:=h
     obtain ⟨s,hm'⟩:=hm.alloc_tok hB (madeCells zv.cells (c.toNat*i.size)) e 0 sh.size (hm.slot hd _)
     refine ⟨_,_,_,hr,s,hm',.lst sh (.tok (newAt d m .resv).1 e) [] ⟨w.heap.size,0,none⟩ _ (fun _=>undef) (.inr rfl) (Nat.zero_le _) (by simp only[maxLen];omega) (by simp) (by simp) (by simp) ?_⟩
     exact ⟨by simp[tokG],rfl,_,heap_alloc_new w _,by rw[size_madeCells,hs]⟩
    ·cases h
  ·cases h
 ·cases h
theorem mapM_rel {α β:Type} (f:α→Option β):∀ (l:List α) (r:List β),l.mapM f=some r→r.length=l.length∧∀ k (h:k<l.length) (h':k<r.length),f l[k]=some r[k]
 | [],r,h=>by simp at h;subst h;simp
 | a::l,r,h=>by
  simp only[List.mapM_cons,Option.bind_eq_bind,Option.bind_eq_some_iff,Option.pure_def,Option.some.injEq] at h
  obtain ⟨b,hb,bs,hbs,rfl⟩:=h
  obtain ⟨h1,h2⟩:=mapM_rel f l bs hbs
  refine ⟨by simp[h1],fun k hk hk'=>?_⟩
  cases k with
  | zero=>simpa using hb
  | succ k=>simpa using h2 k (by simpa using hk) (by simpa using hk')
theorem run_places (w:World):∀ (l:List Field),(l.all fun f=>(P.info? f.type).isSome)=true→(l.mapM fun f=>do pure (f.offset,← sizeOf f.type):Sem (List (Nat×Nat))).run P w=.ok (l.map fun f=>(f.offset,((P.info? f.type).map (·.size)).getD 0)) w
 | [],_=>by simp
 | f::l,h=>by
  simp only[List.all_cons,Bool.and_eq_true] at h
  obtain ⟨i,hi⟩:=Option.isSome_iff_exists.1 h.1
  have ih:=run_places w l h.2
  simp only[List.mapM_cons,Sem.run_bind,run_sizeOf hi,Result.andThen_ok,Sem.run_pure,ih,List.map_cons,hi,Option.map_some,Option.getD_some]
theorem partOf_struct {t f:Nat} {fs:Array Field} (hu:P.underlying t=some (.struct fs)):partOf P t f=fieldOf P t f:=by
 unfold partOf
 rw[hu]
theorem build_sound (hm:MemR B w g m) {t:Nat} {z v:AV} {ps:Array (Nat×Operand)} {ρ:Operand→AV} {ρ':Operand→Value} (hρ:∀ x,V w g (ρ x) (ρ' x)) (hst:structOk P t=true) (hz:zeroOf P t=some z)
  {l:List (Nat×Sh×AV)} (hl:ps.toList.mapM (fun p=>(partOf P t p.1).map fun f=>(f.1,f.2,ρ p.2))=some l) (h:buildA z l=some v) :
  Done P B w g (Instr.build t (ps.map fun (i,x)=>(i,ρ' x))) v m:=by
 obtain ⟨i,zv,hi,hzv,rfl⟩:=zero_facts hz
 obtain ⟨h1,h2⟩:=valA_cells w g zv
 obtain ⟨l1,l2⟩:=mapM_rel _ _ _ hl
 unfold structOk at hst
 split at hst
 ·rename_i fs hu
  unfold buildA at h
  split at h
  ·rename_i cs hcs
   obtain ⟨cs',hf,rfl⟩:=Option.map_eq_some_iff.1 h
   have hcells:(valA zv).cells=cs:=by rw[hcs];rfl
   rw[hcells] at h1 h2
   let place:Nat→Option (Nat×Nat):=(((fs.toList.map fun f=>(f.offset,((P.info? f.type).map (·.size)).getD 0)).toArray)[·]?)
   obtain ⟨c',r1,r2,r3,r4⟩:=fill_sound (w:=w) (g:=g) place l ((ps.map fun (i,x)=>(i,ρ' x)).toList) cs cs' zv.cells (by simp[l1])
    (fun k hk hk'=>by
     have:=l2 k (by omega) hk
     obtain ⟨⟨off,sh⟩,hfo,hlk⟩:=Option.map_eq_some_iff.1 this
     rw[partOf_struct hu] at hfo
     obtain ⟨fs',fd,u1,u2,u3,u4,u5⟩:=fieldOf_facts hfo
     obtain rfl:fs=fs':=by simpa [hu] using u1
     obtain ⟨i',d,j1,j2,j3,_⟩:=shOf_facts u3
     simp only[← hlk]
     refine ⟨?_,by simpa using hρ _⟩
     simp only[place,List.getElem?_toArray,List.getElem?_map,Array.toList_map,List.getElem_map,Array.getElem?_toList,u2,Option.map_some,u4,j1,Option.getD_some,j3])
    h1 (fun j hj=>h2 j (by omega)) hf
   refine Done.same hm ⟨.agg c',?_,.agg _ _ r2 r4⟩
   have hpl:(fs.mapM fun f=>do pure (f.offset,← sizeOf f.type):Sem (Array (Nat×Nat))).run P w=.ok (fs.toList.map fun f=>(f.offset,((P.info? f.type).map (·.size)).getD 0)).toArray w:=by
    rw[Array.mapM_eq_mapM_toList]
    have:=run_places (P:=P) w fs.toList (by rw[← hst];simp)
    simp only[Sem.run_map,this,Result.andThen_ok]
   simp only[Instr.build,Sem.run_bind,zeroValue,typeInfo,run_program,Result.andThen_ok,hi,Sem.run_pure,hzv,run_underlying hu,hpl]
   rw[show Instr.fill (fun x=>(List.map (fun (f:Field)=>(f.offset,((P.info? f.type).map (·.size)).getD 0)) fs.toList).toArray[x]?) zv.cells (Array.map (fun x=>(x.fst,ρ' x.snd)) ps).toList=some c' from r1]
   rfl
  ·cases h
 ·rename_i n e hu
  unfold buildA at h
  split at h
  ·rename_i cs hcs
   obtain ⟨cs',hf,rfl⟩:=Option.map_eq_some_iff.1 h
   have hcells:(valA zv).cells=cs:=by rw[hcs];rfl
   rw[hcells] at h1 h2
   obtain ⟨ie,hie⟩:=Option.isSome_iff_exists.1 hst
   obtain ⟨c',r1,r2,r3,r4⟩:=fill_sound (w:=w) (g:=g) (fun i=>some (i*ie.size,ie.size)) l ((ps.map fun (i,x)=>(i,ρ' x)).toList) cs cs' zv.cells (by simp[l1])
    (fun k hk hk'=>by
     have:=l2 k (by omega) hk
     obtain ⟨⟨off,sh⟩,hfo,hlk⟩:=Option.map_eq_some_iff.1 this
     unfold partOf at hfo
     rw[hu] at hfo
     simp only at hfo
     split at hfo
     ·rename_i sh' hsh
      split at hfo
      ·cases hfo
      ·simp only[Option.some.injEq,Prod.mk.injEq] at hfo
       obtain ⟨rfl,rfl⟩:=hfo
       obtain ⟨i',d,j1,j2,j3,_⟩:=shOf_facts hsh
       obtain rfl:ie=i':=by simpa [hie] using j1
       simp only[← hlk]
       refine ⟨?_,by simpa using hρ _⟩
       simp[j3]
     ·cases hfo)
    h1 (fun j hj=>h2 j (by omega)) hf
   refine Done.same hm ⟨.agg c',?_,.agg _ _ r2 r4⟩
   simp only[Instr.build,Sem.run_bind,zeroValue,typeInfo,sizeOf,run_program,Result.andThen_ok,hi,Sem.run_pure,hzv,run_underlying hu,hie]
   rw[show Instr.fill (fun i=>some (i*ie.size,ie.size)) zv.cells (Array.map (fun x=>(x.fst,ρ' x.snd)) ps).toList=some c' from r1]
   rfl
  ·cases h
 ·cases hst
end
end
end Go.Ab
set_option linter.unusedVariables false
set_option linter.unusedSimpArgs false
set_option linter.unusedSectionVars false
namespace Go.Ab
open Go.RowKit
section
variable [WInv] {P:Program} {B:Nat} {w:World} {g:G} {m:Mem}
theorem V_stripA {x:AV} {v:Value} (h:V w g x v):V w g (stripA x) v:=by
 cases h with
 | lst sh o es a cap us hs hc hm hsh hcell hv ho=>
  cases o with
  | tok nm e=>exact .lst sh .no es a cap us hs hc hm hsh hcell hv trivial
  | no=>exact .lst sh .no es a cap us hs hc hm hsh hcell hv ho
  | full=>exact .lst sh .full es a cap us hs hc hm hsh hcell hv ho
 | nils sh o ho=>rcases ho with rfl|rfl<;>exact .nils sh _ (by simp)
 | any=>exact .any _
 | int=>exact .int _ _
 | bool=>exact .bool _
 | str=>exact .str _
 | arr _ _ _ _ _ _ a b c d=>exact .arr _ _ _ _ _ _ a b c d
 | ptr _ _ _ a=>exact .ptr _ _ _ a
 | vptr _ _ _ _ a b=>exact .vptr _ _ _ _ a b
 | nilp=>exact .nilp
 | nilf=>exact .nilf
 | nile=>exact .nile
 | nilm=>exact .nilm
 | agg _ _ a b=>exact .agg _ _ a b
 | tup _ _ a b=>exact .tup _ _ a b
 | fn _ _ _ a b=>exact .fn _ _ _ a b
 | mref _ _ a=>exact .mref _ _ a
 | vec _ _ _ _ _ _ a b c d e f h=>exact .vec _ _ _ _ _ _ a b c d e f h
theorem V_strip {x:AV} {v:Value} (h:V w g x v):V w g (strip x) v:=by
 by_cases hx:∃ cs,x=.agg cs
 ·obtain ⟨cs,rfl⟩:=hx
  cases h with
  | agg cs vs hl hv=>
   refine .agg _ _ (by simp[hl]) fun j hj=>?_
   have hj':j<cs.length:=by simpa using hj
   have:=V_stripA (hv j hj')
   have e:(cs.map stripA).getD j .any=stripA (cs.getD j .any):=by simp[List.getD_eq_getElem?_getD,hj']
   rw[e];exact this
 ·have e:strip x=stripA x:=by cases x<;>first|rfl|exact absurd ⟨_,rfl⟩ hx
  rw[e];exact V_stripA h
theorem flat_atom {sh:Sh}:∀ {es:List AV},(∀ e∈es,shOk sh e=true)→∀ x∈flat es,atomOk x=true
 | [],_,x,hx=>by simp at hx
 | e::es,h,x,hx=>by
  simp only[List.flatMap_cons,List.mem_append] at hx
  rcases hx with hx|hx
  ·have hs:=h e (by simp)
   cases sh with
   | none=>
    have ha:atomOk e=true:=hs
    have hc:e.cells=[e]:=by cases e<;>first|rfl|(simp[atomOk] at ha)
    rw[hc] at hx
    simp at hx;rw[hx];exact ha
   | some n=>
    cases e<;>first|(simp[shOk] at hs;done)|skip
    simp[shOk] at hs
    exact hs.2 x (by simpa [AV.cells] using hx)
  ·exact flat_atom (fun y hy=>h y (by simp[hy])) x hx
theorem V_row {sh:Sh} {o:Own} {es:List AV} {a:Addr} {n cap:Nat} (h:V w g (.lst sh false o es) (.slice (some a) n cap)) :
  ∃ vs:List Value,n=es.length∧vs.length=es.length*sh.size∧(∀ j u,vs[j]?=some u→w.cell? (a.add j)=some u)∧(∀ u∈vs,u.oneCell'=true) ∧
   (∀ j,j<vs.length→V w g ((flat es).getD j .any) (vs.getD j undef))∧(cap=0∨a=⟨a.block,a.off,none⟩)∧n≤cap∧cap≤maxLen∧(∀ e∈es,shOk sh e=true∧pl e=true)∧ownOk w g sh o es.length a cap ∧
   (∀ j,j<vs.length→¬ g.wr a.block (a.off+j)∧¬ g.box a.block):=by
 cases h with
 | lst _ _ es a cap us hs hc hm hsh hcell hv ho=>
  have hall:∀ e∈es,shOk sh e=true:=fun e he=>(hsh e he).1
  have hfl:=flat_len hall
  have ha:cap=0∨a=⟨a.block,a.off,none⟩:=hs.imp id fun h=>by cases a;simp_all
  refine ⟨(List.range (es.length*sh.size)).map us,rfl,by simp,fun j u hu=>?_,fun u hu=>?_,fun j hj=>?_,ha,hc,hm,hsh,ho,fun j hj=>?_⟩
  ·have hj:j<es.length*sh.size:=by
    rcases Nat.lt_or_ge j (es.length*sh.size) with hl|hl
    ·exact hl
    ·rw[List.getElem?_eq_none (by simpa using hl)] at hu;cases hu
   simp[hj] at hu
   have ha:=ha.resolve_left (fun h0=>by
    have:es.length=0:=by omega
    rw[this,Nat.zero_mul] at hj
    omega)
   rw[ha,Addr_add,← hu]
   exact (hcell j (by omega)).1
  ·obtain ⟨j,hj,rfl⟩:=List.mem_map.1 hu
   have hj':j<(flat es).length:=by rw[hfl];simpa using hj
   have h1:=hv j hj'
   have h2:=flat_atom hall (flat es)[j] (List.getElem_mem hj')
   have:(flat es).getD j .any=(flat es)[j]:=by rw[List.getD_eq_getElem?_getD,List.getElem?_eq_getElem hj'];rfl
   rw[this] at h1
   exact (V_atomOk h1 h2).1
  ·have hj':j<es.length*sh.size:=by simpa using hj
   have:=hv j (by omega)
   simpa [List.getD_eq_getElem?_getD,hj'] using this
  ·have hj':j<es.length*sh.size:=by simpa using hj
   exact (hcell j (by omega)).2
theorem V_of_row {sh:Sh} {o:Own} {es:List AV} {b cap:Nat} {c:Array Value} {e:TypeId} (hb:w.heap[b]?=some (Obj.cells c e (0,0))) (hc:es.length≤cap) (hm:cap≤maxLen) (hsh:∀ e∈es,shOk sh e=true∧pl e=true)
  (hsz:es.length*sh.size≤c.size) (hv:∀ j,j<es.length*sh.size→V w g ((flat es).getD j .any) (c.getD j undef)) (hwr:∀ j,j<es.length*sh.size→¬ g.wr b j) (hbx:¬ g.box b) (ho:ownOk w g sh o es.length ⟨b,0,none⟩ cap) :
  V w g (.lst sh false o es) (.slice (some ⟨b,0,none⟩) es.length cap):=by
 have hfl:=flat_len (fun e he=>(hsh e he).1:∀ e∈es,shOk sh e=true)
 refine .lst sh o es ⟨b,0,none⟩ cap (fun j=>c.getD j undef) (.inr rfl) hc hm hsh (fun j hj=>?_) (fun j hj=>hv j (by omega)) ho
 rw[hfl] at hj
 refine ⟨?_,by simpa using hwr j hj,hbx⟩
 simp only[Nat.zero_add]
 rw[cell_of_row w b j c e (0,0) hb]
 simp[Array.getD,show j<c.size by omega]
theorem flat_append (xs ys:List AV):flat (xs++ys)=flat xs++flat ys:=by simp[flat]
theorem MemR.regrow (hm:MemR B w g m) (hB:B≤w.heap.size) (c:Array Value) (e:TypeId) {nm k n sz:Nat} (hn:m.get nm=some (.tok k sz)) (hk:k<n) :
  Step B w g (w.alloc (.cells c e)) (tokG g nm w.heap.size n sz)∧MemR B (w.alloc (.cells c e)) (tokG g nm w.heap.size n sz) (m.set nm (some (.tok n sz))):=by
 obtain ⟨b0,c0,e0,t1,t2,t3,t4,t5,t6⟩:=hm.tok nm k sz hn
 have hlt:=get_lt hn
 have s:Step B w g (w.alloc (.cells c e)) (tokG g nm w.heap.size n sz):=by
  refine Step.alloc hB _ (fun b off hb=>?_) (fun b hb=>Iff.rfl) (fun nm b hb=>hb) (fun nm' n' b hb=>?_)
  ·simp only[tokG];constructor
   ·rintro (⟨rfl,_⟩|h)<;>first|omega|exact h
   ·exact .inr
  ·simp only[tokG]
   split
   ·rename_i he;rw[he.1,he.2,t5 n hk] at hb;cases hb
   ·exact hb
 have hblk:∀ x b,blk (tokG g nm w.heap.size n sz) (m.set nm (some (.tok n sz))) x=some b→(x≠nm∧blk g m x=some b)∨(x=nm∧b=w.heap.size):=by
  intro x b hb
  rcases blk_some hb with ⟨bx',cs',h1,h2⟩|⟨n',sz',h1,h2⟩|⟨kk,es,h1,h2⟩
  ·rw[get_set] at h1
   split at h1
   ·simp at h1
   ·rename_i hne
    exact .inl ⟨hne,by simp only[tokG] at h2;simp[blk,h1,h2]⟩
  rotate_left
  ·rw[get_set] at h1
   split at h1
   ·simp at h1
   ·rename_i hne
    exact .inl ⟨hne,by simp only[tokG] at h2;simp[blk,h1,h2]⟩
  ·rw[get_set] at h1
   split at h1
   ·rename_i he
    simp at h1
    simp only[tokG,if_pos (show x=nm∧n'=n from ⟨he,h1.1.symm⟩)] at h2
    exact .inr ⟨he,by simpa using h2.symm⟩
   ·rename_i hne
    simp only[tokG,if_neg (show ¬ (x=nm∧n'=n) from fun h=>hne h.1)] at h2
    exact .inl ⟨hne,by simp[blk,h1,h2]⟩
 refine ⟨s,?_,?_,?_,?_,?_,?_,?_,?_,?mp⟩
 case mp=>
  intro x kk es hx
  rw[get_set] at hx
  split at hx
  ·simp at hx
  ·obtain ⟨b,es',cl,h1,h2,h3,h4⟩:=hm.mp x kk es hx
   exact ⟨b,es',cl,h1,h2,(Go.heap_alloc_old w _ (Array.getElem?_eq_some_iff.1 h3).1).trans h3,h4.step s⟩
 ·intro x bx' cs' hx
  rw[get_set] at hx
  split at hx
  ·simp at hx
  ·obtain ⟨b,c',e',h1,h2,h3,h4,h5,h6,h7⟩:=hm.obj x bx' cs' hx
   exact ⟨b,c',e',s.loc _ _ h1,h2,(Go.heap_alloc_old w _ (Array.getElem?_eq_some_iff.1 h3).1).trans h3,h4,fun j hj=>(h5 j hj).step s,fun off=>.inr (h6 off),(s.box b (Array.getElem?_eq_some_iff.1 h3).1).trans h7⟩
 ·intro x n' sz' hx
  rw[get_set] at hx
  split at hx
  ·rename_i he
   simp at hx
   obtain ⟨rfl,rfl⟩:=hx
   subst he
   refine ⟨w.heap.size,c,e,by simp[tokG],hB,heap_alloc_new w _,fun off ho=>.inl ⟨rfl,ho⟩,fun n'' hn''=>?_,fun hb=>Nat.lt_irrefl _ (hm.boxLt _ hb)⟩
   simp only[tokG];rw[if_neg (by omega)];exact t5 n'' (by omega)
  ·rename_i hne
   obtain ⟨b,c',e',h1,h2,h3,h4,h5,h6⟩:=hm.tok x n' sz' hx
   refine ⟨b,c',e',s.tloc _ _ _ h1,h2,(Go.heap_alloc_old w _ (Array.getElem?_eq_some_iff.1 h3).1).trans h3,fun off ho=>.inr (h4 off ho),fun n'' hn''=>?_,h6⟩
   simp only[tokG];rw[if_neg (fun h=>hne h.1)];exact h5 n'' hn''
 ·intro x hx
  rw[get_set] at hx
  split at hx
  ·simp at hx
  ·rename_i hne
   have:=hm.resv x hx
   exact ⟨this.1,fun n'=>by simp only[tokG];rw[if_neg (fun h=>hne h.1)];exact this.2 n'⟩
 ·intro x hx
  have:=hm.fresh x (by simpa using hx)
  have hxl:m.length≤x:=by simpa using hx
  exact ⟨this.1,fun n'=>by simp only[tokG];rw[if_neg (fun h=>by have:=h.1;omega)];exact this.2 n'⟩
 ·intro x x' b h1 h2
  rcases hblk _ _ h1 with ⟨a1,a2⟩|⟨a1,a2⟩<;>rcases hblk _ _ h2 with ⟨b1,b2⟩|⟨b1,b2⟩
  ·exact hm.inj _ _ _ a2 b2
  ·have:=(hm.blk_lt a2).2;omega
  ·have:=(hm.blk_lt b2).2;omega
  ·omega
 ·rintro b off (⟨rfl,_⟩|hw)
  ·simp
  ·have:=hm.wrLt b off hw;simp;omega
 ·exact hm.invS s
 ·intro b hw
  have:=hm.boxLt b hw;simp;omega
theorem MemR.drew (hm:MemR B w g m):MemR B w.drew g m:=hm.keep (Step.drew B w g) (fun _ _ _=>rfl) (fun _ _ h=>h) rfl rfl hm.wrLt hm.boxLt
theorem grown_sound (hm:MemR B w g m) (hB:B≤w.heap.size) {d:Option Nat} (hd:∀ s,d=some s→m.get s=some .resv) {e:Nat} {sh:Sh} {es ys:List AV} {olds news:List Value} {rest:Array Value} {cap:Nat} (hlo:olds.length=es.length*sh.size) (hln:news.length=ys.length*sh.size)
  (hes:∀ e∈es,shOk sh e=true∧pl e=true) (hys:∀ e∈ys,shOk sh e=true∧pl e=true)
  (hvo:∀ j,j<olds.length→V w g ((flat es).getD j .any) (olds.getD j undef)) (hvn:∀ j,j<news.length→V w g ((flat ys).getD j .any) (news.getD j undef)) (hcap:es.length+ys.length≤cap) (hmax:cap≤maxLen)
  (hrest:rest.size=(cap-(es.length+ys.length))*sh.size) :
  (∃ g',Step B w g (w.drew.alloc (.cells (olds.toArray++news.toArray++rest) e)) g'∧MemR B (w.drew.alloc (.cells (olds.toArray++news.toArray++rest) e)) g' (newAt d m (.tok (es.length+ys.length) sh.size)).2∧V (w.drew.alloc (.cells (olds.toArray++news.toArray++rest) e)) g' (.lst sh false (.tok (newAt d m .resv).1 e) (es++ys)) (.slice (some ⟨w.heap.size,0,none⟩) (es.length+ys.length) cap)) ∧
  (∃ g',Step B w g (w.drew.alloc (.cells (olds.toArray++news.toArray++rest) e)) g'∧MemR B (w.drew.alloc (.cells (olds.toArray++news.toArray++rest) e)) g' (newAt d m (.obj false (flat (es++ys)))).2∧V (w.drew.alloc (.cells (olds.toArray++news.toArray++rest) e)) g' (.arr (newAt d m .resv).1 0 (es.length+ys.length) sh) (.slice (some ⟨w.heap.size,0,none⟩) (es.length+ys.length) cap)) ∧
  (∀ nm k,m.get nm=some (.tok k sh.size)→k<es.length+ys.length→∃ g',Step B w g (w.drew.alloc (.cells (olds.toArray++news.toArray++rest) e)) g'∧MemR B (w.drew.alloc (.cells (olds.toArray++news.toArray++rest) e)) g' (m.set nm (some (.tok (es.length+ys.length) sh.size)))∧V (w.drew.alloc (.cells (olds.toArray++news.toArray++rest) e)) g' (.lst sh false (.tok nm e) (es++ys)) (.slice (some ⟨w.heap.size,0,none⟩) (es.length+ys.length) cap)):=by
 have hm1:=hm.drew
 have s1:=Step.drew B w g
 have hB1:B≤w.drew.heap.size:=hB
 have hfe:=flat_len (fun e he=>(hes e he).1:∀ e∈es,shOk sh e=true)
 have hfy:=flat_len (fun e he=>(hys e he).1:∀ e∈ys,shOk sh e=true)
 have hmul:(es.length+ys.length)*sh.size=es.length*sh.size+ys.length*sh.size:=Nat.add_mul _ _ _
 have hall:∀ e∈es++ys,shOk sh e=true∧pl e=true:=fun e he=>by
  rcases List.mem_append.1 he with h|h
  ·exact hes e h
  ·exact hys e h
 have hlen:(es++ys).length=es.length+ys.length:=by simp
 have hcell:∀ j,j<(es.length+ys.length)*sh.size→V w g ((flat (es++ys)).getD j .any) ((olds.toArray++news.toArray++rest).getD j undef):=by
  intro j hj
  rw[flat_append]
  simp only[List.getD_eq_getElem?_getD,Array.getD_eq_getD_getElem?,List.getElem?_append,Array.getElem?_append,Array.size_append,List.size_toArray,List.getElem?_toArray,hfe,hlo,hln]
  by_cases h1:j<es.length*sh.size
  ·rw[if_pos h1,if_pos (by omega),if_pos h1]
   simpa [List.getD_eq_getElem?_getD] using hvo j (by omega)
  ·rw[if_neg h1,if_pos (by omega),if_neg h1]
   simpa [List.getD_eq_getElem?_getD] using hvn (j-es.length*sh.size) (by omega)
 have hcs:(olds.toArray++news.toArray++rest).size=cap*sh.size:=by
  have:cap*sh.size=(es.length+ys.length)*sh.size+(cap-(es.length+ys.length))*sh.size:=by
   rw[← Nat.add_mul];congr 1;omega
  simp only[Array.size_append,List.size_toArray]
  omega
 have hnew:(w.drew.alloc (.cells (olds.toArray++news.toArray++rest) e)).heap[w.heap.size]?=some (Obj.cells (olds.toArray++news.toArray++rest) e (0,0)):=heap_alloc_new w.drew _
 have htot:(es.length+ys.length)*sh.size≤(olds.toArray++news.toArray++rest).size:=by rw[hcs];exact Nat.mul_le_mul_right _ hcap
 have hnwr:∀ off,¬ g.wr w.heap.size off:=fun off h=>by have:=hm.wrLt _ _ h;omega
 have hnbx:¬ g.box w.heap.size:=fun h=>by have:=hm.boxLt _ h;omega
 have tokV:∀ nm g',Step B w g (w.drew.alloc (.cells (olds.toArray++news.toArray++rest) e)) g'→g'=tokG g nm w.heap.size (es.length+ys.length) sh.size →
   V (w.drew.alloc (.cells (olds.toArray++news.toArray++rest) e)) g' (.lst sh false (.tok nm e) (es++ys)) (.slice (some ⟨w.heap.size,0,none⟩) (es.length+ys.length) cap):=by
  rintro nm g' hst rfl
  have:=V_of_row (o:=.tok nm e) (es:=es++ys) (cap:=cap) (g:=tokG g nm w.heap.size (es.length+ys.length) sh.size) hnew (by rw[hlen];exact hcap) hmax hall (by rw[hlen];exact htot) (fun j hj=>(hcell j (by rw[hlen] at hj;exact hj)).step hst)
   (fun j hj=>by
    rw[hlen] at hj
    rintro (⟨_,h⟩|h)
    ·omega
    ·exact hnwr _ h) hnbx ⟨by simp[tokG],rfl,_,hnew,hcs⟩
  rw[hlen] at this
  exact this
 refine ⟨?_,?_,?_⟩
 ·obtain ⟨s2,hm2⟩:=hm1.alloc_tok hB1 (olds.toArray++news.toArray++rest) e (es.length+ys.length) sh.size (hm1.slot hd _)
  exact ⟨_,s1.trans s2,hm2,tokV _ _ (s1.trans s2) rfl⟩
 ·obtain ⟨s2,hm2⟩:=hm1.alloc_obj hB1 (olds.toArray++news.toArray++rest) e (flat (es++ys)) (by rw[flat_append,List.length_append,hfe,hfy,← hmul];exact htot) (fun j hj=>by
   rw[flat_append,List.length_append,hfe,hfy,← hmul] at hj
   exact (hcell j hj).step s1) false (hm1.slot hd _)
  exact ⟨_,s1.trans s2,hm2,(.arr _ _ _ _ _ _ (.inr rfl) hcap hmax (.inr ⟨by simp[newG],rfl,_,_,hnew,by rw[hcs,Nat.zero_add];exact Nat.le_refl _⟩))⟩
 ·intro nm k hn hk
  obtain ⟨s2,hm2⟩:=hm1.regrow hB1 (olds.toArray++news.toArray++rest) e (n:=es.length+ys.length) hn hk
  exact ⟨_,s1.trans s2,hm2,tokV _ _ (s1.trans s2) rfl⟩
theorem MemR.inplace (hm:MemR B w g m) {nm b k n:Nat} {sh:Sh} {c c':Array Value} {e:TypeId} (hn:m.get nm=some (.tok k sh.size)) (hl:g.tloc nm k=some b) (hb:w.heap[b]?=some (Obj.cells c e (0,0))) (hk:k<n) (hsz:c'.size=c.size)
  (hsame:∀ j,j<k*sh.size→c'[j]?=c[j]?) :
  ∃ g',Step B w g (w.setRow b c') g'∧MemR B (w.setRow b c') g' (m.set nm (some (.tok n sh.size)))∧g'.tloc nm n=some b∧(∀ off,off<n*sh.size→¬ g'.wr b off)∧¬ g'.box b:=by
 obtain ⟨b0,c0,e0,t1,t2,t3,t4,t5,t6⟩:=hm.tok nm k sh.size hn
 obtain rfl:b=b0:=by simpa [hl] using t1
 have hlt:=get_lt hn
 have hother:∀ x,x≠b→(w.setRow b c').heap[x]?=w.heap[x]?:=fun x hx=>setRow_other w b x c' hx
 have hthis:(w.setRow b c').heap[b]?=some (Obj.cells c' e (0,0)):=setRow_heap w b c c' e _ hb
 have hsize:(w.setRow b c').heap.size=w.heap.size:=by simp
 let g':G:={ wr:=fun b' off=>g.wr b' off∧¬ (b'=b∧off<n*sh.size),box:=g.box,loc:=g.loc,tloc:=fun nm' n'=>if nm'=nm∧n'=n then some b else g.tloc nm' n' }
 have htl:∀ x n' b',g.tloc x n'=some b'→g'.tloc x n'=some b':=fun x n' b' hx=>by
  show (if x=nm∧n'=n then some b else g.tloc x n')=some b'
  split
  ·rename_i he;rw[he.1,he.2,t5 n hk] at hx;cases hx
  ·exact hx
 have s:Step B w g (w.setRow b c') g':=by
  refine ⟨⟨rfl,rfl,rfl,by omega,fun x hx=>hother x (by omega)⟩,fun b' off u hw hc=>?_,fun b' c1 e1 fr hb'=>?_,fun b' off _ hn hw=>hn hw.1,fun b' off hb'=>?_,fun _ _=>Iff.rfl,fun _ _ h=>h,htl,fun x o hx ho _=>(hother x (fun he=>by rw[he,hb] at hx;cases hx;cases ho)).trans hx⟩
  ·by_cases he:b'=b
   ·subst he
    have hoff:off<k*sh.size:=Nat.lt_of_not_le fun hle=>hw (t4 off hle)
    rw[cell_of_row w b' off c e (0,0) hb] at hc
    rw[cell_of_row _ b' off c' e (0,0) hthis,hsame off hoff]
    exact hc
   ·exact (World.cell?_of_block (w:=w) (a:=⟨b',off,none⟩) (hother b' he)).trans hc
  ·by_cases he:b'=b
   ·subst he
    rw[hb] at hb'
    simp only[Option.some.injEq,Obj.cells.injEq] at hb'
    obtain ⟨rfl,rfl,rfl⟩:=hb'
    exact ⟨c',hthis,hsz⟩
   ·exact ⟨c1,(hother b' he).trans hb',rfl⟩
  ·exact ⟨fun h=>h.1,fun h=>⟨h,fun h2=>by omega⟩⟩
 have hbnm:blk g m nm=some b:=by simp[blk,hn,hl]
 have hblk:∀ x b',blk g' (m.set nm (some (.tok n sh.size))) x=some b'→blk g m x=some b':=by
  intro x b' hx
  rcases blk_some hx with ⟨bx',cs',h1,h2⟩|⟨n',sz',h1,h2⟩|⟨kk,es,h1,h2⟩
  ·rw[get_set] at h1
   split at h1
   ·simp at h1
   ·have h2':g.loc x=some b':=h2
    simp[blk,h1,h2']
  rotate_left
  ·rw[get_set] at h1
   split at h1
   ·simp at h1
   ·have h2':g.loc x=some b':=h2
    simp[blk,h1,h2']
  ·rw[get_set] at h1
   split at h1
   ·rename_i he
    simp at h1
    have h2':(if x=nm∧n'=n then some b else g.tloc x n')=some b':=h2
    rw[if_pos ⟨he,h1.1.symm⟩] at h2'
    simp at h2'
    subst h2';subst he
    exact hbnm
   ·rename_i hne
    have h2':(if x=nm∧n'=n then some b else g.tloc x n')=some b':=h2
    rw[if_neg (fun h=>hne h.1)] at h2'
    simp[blk,h1,h2']
 refine ⟨g',s,⟨?_,?_,?_,?_,?_,?_,?_,?_,?mp⟩,?_,?_,t6⟩
 case mp=>
  intro x kk es hx
  rw[get_set] at hx
  split at hx
  ·simp at hx
  ·obtain ⟨b1,es1,cl1,a1,a2,a3,a4⟩:=hm.mp x kk es hx
   have hbne:b1≠b:=fun he=>by rw[he,hb] at a3;cases a3
   exact ⟨b1,es1,cl1,a1,a2,(hother b1 hbne).trans a3,a4.step s⟩
 ·intro x bx' cs' hx
  rw[get_set] at hx
  split at hx
  ·simp at hx
  ·rename_i hne
   obtain ⟨b1,c1,e1,a1,a2,a3,a4,a5,a6,a7⟩:=hm.obj x bx' cs' hx
   have hbne:b1≠b:=fun he=>hne (hm.inj x nm b (by simp[blk,hx,a1,he]) hbnm)
   exact ⟨b1,c1,e1,a1,a2,(hother b1 hbne).trans a3,a4,fun j hj=>(a5 j hj).step s,fun off=>⟨a6 off,fun h=>hbne h.1⟩,a7⟩
 ·intro x n' sz' hx
  rw[get_set] at hx
  split at hx
  ·rename_i he
   simp at hx
   obtain ⟨rfl,rfl⟩:=hx
   subst he
   refine ⟨b,c',e,?_,t2,hthis,fun off ho=>⟨t4 off ?_,fun h=>by omega⟩,fun n'' hn''=>?_,t6⟩
   ·show (if x=x∧n=n then some b else _)=_;simp
   ·exact Nat.le_trans (Nat.mul_le_mul_right _ (by omega)) ho
   ·show (if x=x∧n''=n then some b else g.tloc x n'')=none
    rw[if_neg (by omega)];exact t5 n'' (by omega)
  ·rename_i hne
   obtain ⟨b1,c1,e1,a1,a2,a3,a4,a5,a6⟩:=hm.tok x n' sz' hx
   have hbne:b1≠b:=fun he=>hne (hm.inj x nm b (by simp[blk,hx,a1,he]) hbnm)
   refine ⟨b1,c1,e1,htl _ _ _ a1,a2,(hother b1 hbne).trans a3,fun off ho=>⟨a4 off ho,fun h=>hbne h.1⟩,fun n'' hn''=>?_,a6⟩
   show (if x=nm∧n''=n then some b else g.tloc x n'')=none
   rw[if_neg (fun h=>hne h.1)];exact a5 n'' hn''
 ·intro x hx
  rw[get_set] at hx
  split at hx
  ·simp at hx
  ·rename_i hne
   have:=hm.resv x hx
   refine ⟨this.1,fun n'=>?_⟩
   show (if x=nm∧n'=n then some b else g.tloc x n')=none
   rw[if_neg (fun h=>hne h.1)];exact this.2 n'
 ·intro x hx
  have hxl:m.length≤x:=by simpa using hx
  have:=hm.fresh x hxl
  refine ⟨this.1,fun n'=>?_⟩
  show (if x=nm∧n'=n then some b else g.tloc x n')=none
  rw[if_neg (fun h=>by have:=h.1;omega)];exact this.2 n'
 ·intro x x' b' h1 h2
  exact hm.inj x x' b' (hblk x b' h1) (hblk x' b' h2)
 ·intro b' off hw;rw[hsize];exact hm.wrLt b' off hw.1
 ·exact hm.invS s
 ·intro b' hw;rw[hsize];exact hm.boxLt b' hw
 ·show (if nm=nm∧n=n then some b else _)=_;simp
 ·intro off ho h;exact h.2 ⟨rfl,ho⟩
def renG (g:G) (nm b:Nat):G where
 wr:=g.wr
 box:=g.box
 loc n:=if n=nm then some b else g.loc n
 tloc:=g.tloc
theorem MemR.rename (hm:MemR B w g m) {nm b:Nat} {bx:Bool} {cs:List AV} (hn:m.get nm=some (.obj bx cs)) (hl:g.loc nm=some b):Step B w g w (renG g m.length b)∧MemR B w (renG g m.length b) (m.set nm none++[some (.obj bx cs)]):=by
 have hlt:=get_lt hn
 have hfr:=hm.fresh m.length (Nat.le_refl _)
 have hloc:∀ x b',g.loc x=some b'→(renG g m.length b).loc x=some b':=fun x b' hx=>by
  show (if x=m.length then some b else g.loc x)=some b'
  split
  ·rename_i he;rw[he,hfr.1] at hx;cases hx
  ·exact hx
 have s:Step B w g w (renG g m.length b):=⟨Below.refl _ _,fun _ _ _ _ h=>h,fun _ c _ _ h=>⟨c,h,rfl⟩,fun _ _ _ h=>h,fun _ _ _=>Iff.rfl,fun _ _=>Iff.rfl,hloc,fun _ _ _ h=>h,fun _ _ h _ _=>h⟩
 have hget:∀ x,Mem.get (m.set nm none++[some (.obj bx cs)]) x=if x=m.length then some (.obj bx cs) else if x=nm then none else m.get x:=by
  intro x
  rw[get_append,List.length_set]
  by_cases h1:x<m.length
  ·rw[if_pos h1,if_neg (by omega),get_set,if_pos hlt]
  ·rw[if_neg h1]
   by_cases h2:x=m.length
   ·rw[if_pos h2,if_pos h2]
   ·rw[if_neg h2,if_neg h2,if_neg (by omega)]
    unfold Mem.get
    rw[List.getElem?_eq_none (by omega)];rfl
 have hbnm:blk g m nm=some b:=by simp[blk,hn,hl]
 have hblk:∀ x b',blk (renG g m.length b) (m.set nm none++[some (.obj bx cs)]) x=some b'→(x=m.length∧b'=b)∨(x≠nm∧x≠m.length∧blk g m x=some b'):=by
  intro x b' hx
  by_cases h1:x=m.length
  ·unfold blk at hx
   rw[hget,if_pos h1] at hx
   simp only[renG,if_pos h1,Option.some.injEq] at hx
   exact .inl ⟨h1,hx.symm⟩
  ·unfold blk at hx
   rw[hget,if_neg h1] at hx
   by_cases h2:x=nm
   ·rw[if_pos h2] at hx;simp at hx
   ·rw[if_neg h2] at hx
    refine .inr ⟨h2,h1,?_⟩
    unfold blk
    simp only[renG,if_neg h1] at hx
    exact hx
 refine ⟨s,?_,?_,?_,?_,?_,hm.wrLt,hm.invS s,hm.boxLt,?_⟩
 ·intro x bx' cs' hx
  rw[hget] at hx
  split at hx
  ·rename_i he
   simp only[Option.some.injEq,Ent.obj.injEq] at hx
   obtain ⟨rfl,rfl⟩:=hx
   obtain ⟨b1,c1,e1,a1,a2,a3,a4,a5,a6,a7⟩:=hm.obj nm bx cs hn
   obtain rfl:b=b1:=by simpa [hl] using a1
   exact ⟨b,c1,e1,by simp[renG,he],a2,a3,a4,fun j hj=>(a5 j hj).step s,a6,a7⟩
  ·split at hx
   ·cases hx
   ·obtain ⟨b1,c1,e1,a1,a2,a3,a4,a5,a6,a7⟩:=hm.obj x bx' cs' hx
    exact ⟨b1,c1,e1,hloc _ _ a1,a2,a3,a4,fun j hj=>(a5 j hj).step s,a6,a7⟩
 ·intro x n sz hx
  rw[hget] at hx
  split at hx
  ·cases hx
  ·split at hx
   ·cases hx
   ·exact hm.tok x n sz hx
 ·intro x hx
  rw[hget] at hx
  split at hx
  ·cases hx
  ·split at hx
   ·cases hx
   ·rename_i h1 h2
    have:=hm.resv x hx
    exact ⟨by show (if x=m.length then some b else g.loc x)=none;rw[if_neg h1];exact this.1,this.2⟩
 ·intro x hx
  simp only[List.length_append,List.length_set,List.length_singleton] at hx
  have:=hm.fresh x (by omega)
  exact ⟨by show (if x=m.length then some b else g.loc x)=none;rw[if_neg (by omega)];exact this.1,this.2⟩
 ·intro x x' b' h1 h2
  rcases hblk x b' h1 with ⟨a1,a2⟩|⟨a1,a2,a3⟩<;>rcases hblk x' b' h2 with ⟨b1,b2⟩|⟨b1,b2,b3⟩
  ·omega
  ·subst a2;exact absurd (hm.inj _ _ _ b3 hbnm) b1
  ·subst b2;exact absurd (hm.inj _ _ _ a3 hbnm) a1
  ·exact hm.inj _ _ _ a3 b3
 ·intro x kk es hx
  rw[hget] at hx
  split at hx
  ·cases hx
  ·split at hx
   ·cases hx
   ·obtain ⟨b1,es1,cl1,a1,a2,a3,a4⟩:=hm.mp x kk es hx
    exact ⟨b1,es1,cl1,hloc _ _ a1,a2,a3,a4.step s⟩
theorem MemR.lose (hm:MemR B w g m) (nm:Nat):MemR B w g (m.set nm none):=by
 have hget:∀ x e,Mem.get (m.set nm none) x=some e→m.get x=some e:=by
  intro x e hx
  rw[get_set] at hx
  split at hx
  ·simp at hx
  ·exact hx
 have hblk:∀ x b,blk g (m.set nm none) x=some b→blk g m x=some b:=by
  intro x b hx
  rcases blk_some hx with ⟨bx,cs,h1,h2⟩|⟨n,sz,h1,h2⟩|⟨kk,es,h1,h2⟩
  ·have:=hget _ _ h1;simp[blk,this,h2]
  ·have:=hget _ _ h1;simp[blk,this,h2]
  ·have:=hget _ _ h1;simp[blk,this,h2]
 exact ⟨fun x bx cs hx=>hm.obj x bx cs (hget _ _ hx),fun x n sz hx=>hm.tok x n sz (hget _ _ hx),fun x hx=>hm.resv x (hget _ _ hx),fun x hx=>hm.fresh x (by simpa using hx),fun x x' b h1 h2=>hm.inj x x' b (hblk _ _ h1) (hblk _ _ h2),hm.wrLt,hm.inv,hm.boxLt,fun x kk es hx=>hm.mp x kk es (hget _ _ hx)⟩
theorem run_append_room2 {P:Program} (w:World) (t ty e e0:TypeId) (i:TypeInfo) (ht:P.underlying t=some (.slice e)) (hi:P.info? e=some i)
  (g sLen sCap:Nat) (cur:Array Value) (hg:w.heap[g]?=some (.cells cur e0 (0,0)))
  (a:Addr) (m c:Nat) (news:List Value) (hl:news.length=m*i.size) (hnews:∀ j u,news[j]?=some u→w.cell? (a.add j)=some u) (h1:∀ u∈news,u.oneCell'=true)
  (hroom:sLen+m≤sCap) (hfit:sLen*i.size+news.length≤cur.size) :
  (Builtin.append_ #[t,t] ty #[.slice (some ⟨g,0,none⟩) sLen sCap,.slice (some a) m c]).run P w =
   .ok (.slice (some ⟨g,0,none⟩) (sLen+m) sCap) (w.setRow g (cur.toList.take (sLen*i.size)++news++cur.toList.drop (sLen*i.size+news.length)).toArray):=by
 have hf:=run_firstCells_some (P:=P) w i.size m a m c news hl hnews
 have hst:=run_storeCells_at P g (sLen*i.size) e0 news 0 cur w hg (by simpa using hfit) h1
 simp only[Nat.add_zero] at hst
 simp[Builtin.append_,run_underlying ht,sizeOf,typeInfo,hi,Builtin.lenOf,hroom,hf,Addr.add_lit,hst]
theorem rowY_V (hm:MemR B w g m) {sh:Sh} {y:AV} {y':Value} {n:Nat} {cs:List AV} (hy:V w g y y') (h:rowY m sh y=some (n,cs)) :
  ∃ (a:Addr) (cap:Nat) (vs:List Value),y'=.slice (some a) n cap∧0<n∧vs.length=n*sh.size∧cs.length=n*sh.size∧(∀ j u,vs[j]?=some u→w.cell? (a.add j)=some u)∧(∀ u∈vs,u.oneCell'=true)∧(∀ j,j<vs.length→V w g (cs.getD j .any) (vs.getD j undef)):=by
 unfold rowY at h
 split at h
 ·rename_i shy z o ys
  split at h
  ·rename_i hc
   obtain ⟨rfl,hpos⟩:=hc
   simp only[Option.some.injEq,Prod.mk.injEq] at h
   obtain ⟨rfl,rfl⟩:=h
   have hz:z=false∧∃ a n cap,y'=.slice (some a) n cap:=by
    cases hy with
    | nils=>simp at hpos
    | lst=>exact ⟨rfl,_,_,_,rfl⟩
   obtain ⟨rfl,a,n,cap,rfl⟩:=hz
   obtain ⟨vs,rfl,h2,h3,h4,h5,_,_,_,h6,_,_⟩:=V_row hy
   exact ⟨a,cap,vs,rfl,hpos,h2,flat_len (fun e he=>(h6 e he).1),h3,h4,h5⟩
  ·cases h
 ·rename_i nm off n1 shy
  obtain ⟨⟨bx,os⟩,ho,h⟩:=Option.bind_eq_some_iff.1 h
  simp only at h
  split at h
  ·rename_i hc
   obtain ⟨rfl,hpos,hle,hat⟩:=hc
   simp only[Option.some.injEq,Prod.mk.injEq] at h
   obtain ⟨rfl,rfl⟩:=h
   obtain ⟨b,c,e,o1,o2,o3,o4,o5,o6,o7⟩:=hm.obj nm bx os (obj?_get ho)
   cases hy with
   | arr _ _ _ _ a cap hs hc hmx hl=>
    obtain ⟨l1,l2,_⟩:=hl.resolve_left (by omega)
    obtain rfl:b=a.block:=by simpa [o1] using l1
    have hcl:((os.drop off).take (n1*shy.size)).length=n1*shy.size:=by simp;omega
    have hgd:∀ j,j<n1*shy.size→((os.drop off).take (n1*shy.size)).getD j .any=os.getD (off+j) .any:=fun j hj=>by
     simp[List.getD_eq_getElem?_getD,List.getElem?_take,List.getElem?_drop,hj]
    refine ⟨a,cap,(List.range (n1*shy.size)).map fun j=>c.getD (off+j) undef,rfl,hpos,by simp,hcl,fun j u hu=>?_,fun u hu=>?_,fun j hj=>?_⟩
    ·have hj:j<n1*shy.size:=by
      rcases Nat.lt_or_ge j (n1*shy.size) with hl|hl
      ·exact hl
      ·rw[List.getElem?_eq_none (by simpa using hl)] at hu;cases hu
     simp[hj] at hu
     rw[l2,Addr_add,cell_of_row w _ _ c e (0,0) o3,← hu]
     simp[Array.getD,show off+j<c.size by omega]
    ·obtain ⟨j,hj,rfl⟩:=List.mem_map.1 hu
     have hj':j<n1*shy.size:=by simpa using hj
     have h1:=o5 (off+j) (by omega)
     rw[← hgd j hj'] at h1
     have hjc:j<((os.drop off).take (n1*shy.size)).length:=by omega
     have e1:((os.drop off).take (n1*shy.size)).getD j .any=((os.drop off).take (n1*shy.size))[j]:=by rw[List.getD_eq_getElem?_getD,List.getElem?_eq_getElem hjc];rfl
     rw[e1] at h1
     exact (V_atomOk h1 (List.all_eq_true.1 hat _ (List.getElem_mem hjc))).1
    ·have hj':j<n1*shy.size:=by simpa using hj
     rw[hgd j hj']
     have:=o5 (off+j) (by omega)
     simpa [List.getD_eq_getElem?_getD,hj'] using this
  ·cases h
 ·rename_i n1 shy cs1
  split at h
  ·rename_i hc
   obtain ⟨rfl,hpos,hle⟩:=hc
   simp only[Option.some.injEq,Prod.mk.injEq] at h
   obtain ⟨rfl,rfl⟩:=h
   cases hy with
   | vec _ _ _ a cap us hs hc hmx hn hat hcell hv=>
    have hcp:cap≠0:=by omega
    have ha:a=⟨a.block,a.off,none⟩:=by
     have:=hs.resolve_left hcp
     cases a;simp_all
    refine ⟨a,cap,(List.range cs1.length).map us,rfl,hpos,by simpa using hle,hle,fun j u hu=>?_,fun u hu=>?_,fun j hj=>?_⟩
    ·have hj:j<cs1.length:=by
      rcases Nat.lt_or_ge j cs1.length with hl|hl
      ·exact hl
      ·rw[List.getElem?_eq_none (by simpa using hl)] at hu;cases hu
     simp[hj] at hu
     rw[ha,Addr_add,← hu]
     exact (hcell j hj).1
    ·obtain ⟨j,hj,rfl⟩:=List.mem_map.1 hu
     have hj':j<cs1.length:=by simpa using hj
     have h1:=hv j hj'
     have e:cs1.getD j .any=cs1[j]:=by rw[List.getD_eq_getElem?_getD,List.getElem?_eq_getElem hj'];rfl
     rw[e] at h1
     exact (V_atomOk h1 (hat _ (List.getElem_mem hj'))).1
    ·have hj':j<cs1.length:=by simpa using hj
     have:=hv j hj'
     simpa [List.getD_eq_getElem?_getD,hj'] using this
  ·cases h
 ·cases h
theorem grownR (hm:MemR B w g m) (hB:B≤w.heap.size) {e k n:Nat} {sh:Sh} {xcs ycs:List AV} {olds news:List Value} {rest:Array Value} {cap:Nat} (hlo:olds.length=k*sh.size) (hln:news.length=n*sh.size) (hxl:xcs.length=k*sh.size) (hyl:ycs.length=n*sh.size)
  (hvo:∀ j,j<olds.length→V w g (xcs.getD j .any) (olds.getD j undef)) (hvn:∀ j,j<news.length→V w g (ycs.getD j .any) (news.getD j undef)) (hcap:k+n≤cap) (hmax:cap≤maxLen)
  (hrest:rest.size=(cap-(k+n))*sh.size) :
  ∃ g',Step B w g (w.drew.alloc (.cells (olds.toArray++news.toArray++rest) e)) g'∧MemR B (w.drew.alloc (.cells (olds.toArray++news.toArray++rest) e)) g' (m++[some (.obj false (xcs++ycs))])∧V (w.drew.alloc (.cells (olds.toArray++news.toArray++rest) e)) g' (.arr m.length 0 (k+n) sh) (.slice (some ⟨w.heap.size,0,none⟩) (k+n) cap):=by
 have hm1:=hm.drew
 have s1:=Step.drew B w g
 have hB1:B≤w.drew.heap.size:=hB
 have hmul:(k+n)*sh.size=k*sh.size+n*sh.size:=Nat.add_mul _ _ _
 have hcell:∀ j,j<(k+n)*sh.size→V w g ((xcs++ycs).getD j .any) ((olds.toArray++news.toArray++rest).getD j undef):=by
  intro j hj
  simp only[List.getD_eq_getElem?_getD,Array.getD_eq_getD_getElem?,List.getElem?_append,Array.getElem?_append,Array.size_append,List.size_toArray,List.getElem?_toArray,hxl,hlo,hln]
  by_cases h1:j<k*sh.size
  ·rw[if_pos h1,if_pos (by omega),if_pos h1]
   simpa [List.getD_eq_getElem?_getD] using hvo j (by omega)
  ·rw[if_neg h1,if_pos (by omega),if_neg h1]
   simpa [List.getD_eq_getElem?_getD] using hvn (j-k*sh.size) (by omega)
 have hcs:(olds.toArray++news.toArray++rest).size=cap*sh.size:=by
  have:cap*sh.size=(k+n)*sh.size+(cap-(k+n))*sh.size:=by
   rw[← Nat.add_mul];congr 1;omega
  simp only[Array.size_append,List.size_toArray]
  omega
 have hnew:(w.drew.alloc (.cells (olds.toArray++news.toArray++rest) e)).heap[w.heap.size]?=some (Obj.cells (olds.toArray++news.toArray++rest) e (0,0)):=heap_alloc_new w.drew _
 have htot:(k+n)*sh.size≤(olds.toArray++news.toArray++rest).size:=by rw[hcs];exact Nat.mul_le_mul_right _ hcap
 obtain ⟨s2,hm2⟩:=hm1.alloc_obj hB1 (olds.toArray++news.toArray++rest) e (xcs++ycs) (by rw[List.length_append,hxl,hyl,← hmul];exact htot) (fun j hj=>by
  rw[List.length_append,hxl,hyl,← hmul] at hj
  exact (hcell j hj).step s1) false (hm1.slot (d:=none) (fun s hs=>by cases hs) _)
 exact ⟨_,s1.trans s2,hm2,(.arr _ _ _ _ _ _ (.inr rfl) hcap hmax (.inr ⟨by simp[newG,newAt],rfl,_,_,hnew,by rw[hcs,Nat.zero_add];exact Nat.le_refl _⟩))⟩
theorem appR_sound (hm:MemR B w g m) (hB:B≤w.heap.size) {d:Option Nat} {arrm:Bool} {t e ty:Nat} {sh:Sh} {x y v:AV} {m':Mem} {x' y':Value} (ht:P.underlying t=some (.slice e)) (he:elemOk P e sh=true)
  (hx:V w g x x') (hy:V w g y y') (h:appR d arrm sh (bytesOf P e) m x y=some (v,m')):Done P B w g (Builtin.append_ #[t,t] ty #[x',y']) v m':=by
 obtain ⟨i,zv,hi,hs,hpos,hzv,hzs,hna⟩:=elemOk_facts he
 have hby:bytesOf P e=max 1 i.bytes:=by simp[bytesOf,hi]
 unfold appR at h
 split at h
 ·obtain ⟨⟨n,ycs⟩,hq,h⟩:=Option.bind_eq_some_iff.1 h
  obtain ⟨⟨k,xcs,m2⟩,hp,h⟩:=Option.bind_eq_some_iff.1 h
  simp only at h
  split at h
  ·rename_i hroom
   simp only[Option.some.injEq,Prod.mk.injEq] at h
   obtain ⟨rfl,rfl⟩:=h
   obtain ⟨ay,cy,news,rfl,hpos',hln,hyl,hnews,hn1,hvn⟩:=rowY_V hm hy hq
   rw[hby] at hroom
   have hln':news.length=n*i.size:=by rw[hln,hs]
   have hsum:(k+n)*i.bytes≤140737488355328:=Nat.le_trans (Nat.mul_le_mul_left _ (by omega)) hroom
   have hlen:k+n≤140737488355328:=Nat.le_trans (Nat.le_mul_of_pos_right _ (by omega)) hroom
   have h63:k+n≤maxLen:=by simp only[maxLen];omega
   unfold rowX at hp
   split at hp
   ·rename_i shx z o es _
    split at hp
    ·split at hp
     ·rename_i hshx
      simp only[Option.some.injEq,Prod.mk.injEq] at hp
      obtain ⟨rfl,rfl,rfl⟩:=hp
      have hgrow:∃ (cap:Nat) (olds:List Value) (rest:Array Value),(Builtin.append_ #[t,t] ty #[x',.slice (some ay) n cy]).run P w=.ok (.slice (some ⟨w.heap.size,0,none⟩) (es.length+n) cap) (w.drew.alloc (.cells (olds.toArray++news.toArray++rest) e)) ∧
        olds.length=es.length*sh.size∧(∀ e∈es,shOk sh e=true∧pl e=true)∧(∀ j,j<olds.length→V w g ((flat es).getD j .any) (olds.getD j undef))∧es.length+n≤cap∧cap≤maxLen∧rest.size=(cap-(es.length+n))*sh.size:=by
       cases z with
       | true=>
        have hes:es=[]∧x'=.slice none 0 0:=by cases hx;exact ⟨rfl,rfl⟩
        obtain ⟨rfl,rfl⟩:=hes
        have hr:=run_append_nil (P:=P) w t ty e i zv ht hi hzv ay n cy news hln' hnews hpos' (by simp only[List.length_nil] at hlen;omega) (by simp only[List.length_nil,Nat.zero_add] at hsum;omega)
        refine ⟨_,[],Builtin.zeroCells zv.cells (grownCap w n 0 e-n),?_,by simp,by simp,by simp,by simpa using grownCap_ge w n 0 e,grownCap_le_maxLen w _ _ e (by simpa using h63),?_⟩
        ·simpa using hr
        ·rw[size_zeroCells,hzs,hs];simp
       | false=>
        obtain ⟨ax,nx,cx,rfl⟩:∃ ax nx cx,x'=.slice (some ax) nx cx:=by cases hx;exact ⟨_,_,_,rfl⟩
        obtain ⟨olds,rfl,hlo,holds,ho1,hvo,hax,hcx,hmx,hesx,hown,_⟩:=V_row hx
        have hfull:cx=es.length:=hown
        have hlo':olds.length=es.length*i.size:=by
         rcases hshx with h|h
         ·rw[hlo,h,hs]
         ·subst h;simp at hlo;simp[hlo]
        have hr:=run_append_grow (P:=P) w t ty e i zv ht hi hzv ax es.length cx olds hlo' holds ay n cy news hln' hnews (by omega) (by omega) (growslice_fits (by omega) hsum)
        refine ⟨_,olds,Builtin.zeroCells zv.cells (grownCap w (es.length+n) cx e-(es.length+n)),hr,by rw[hlo',hs],?_,hvo,grownCap_ge _ _ _ _,grownCap_le_maxLen _ _ _ _ h63,by rw[size_zeroCells,hzs,hs]⟩
        rcases hshx with h|h
        ·rw[← h];exact hesx
        ·subst h;simp
      obtain ⟨cap,olds,rest,hr,g1,g2,g3,g4,g5,g6⟩:=hgrow
      obtain ⟨g',s,hm',hV⟩:=grownR hm hB (e:=e) g1 hln (flat_len fun e he=>(g2 e he).1) hyl g3 hvn g4 g5 g6
      exact ⟨_,_,g',hr,s,hm',hV⟩
     ·cases hp
    ·cases hp
   ·rename_i nm off k1 shx _
    obtain ⟨⟨bx,cs⟩,ho,hp2⟩:=Option.bind_eq_some_iff.1 hp
    clear hp
    simp only at hp2
    split at hp2
    ·rename_i hc
     obtain ⟨rfl,rfl,hk0,rfl,hcl⟩:=hc
     simp only[Option.some.injEq,Prod.mk.injEq] at hp2
     obtain ⟨rfl,rfl,rfl⟩:=hp2
     have hget:=obj?_get ho
     have hlt:=get_lt hget
     obtain ⟨b,c,e1,o1,o2,o3,o4,o5,o6,o7⟩:=hm.obj nm false cs hget
     cases hx with
     | arr _ _ _ _ a cap hsp hcc hmx hl=>
      obtain ⟨l1,l2,c2,e2,l3,l4⟩:=hl.resolve_left (by omega)
      obtain rfl:b=a.block:=by simpa [o1] using l1
      rw[o3] at l3
      simp only[Option.some.injEq,Obj.cells.injEq] at l3
      obtain ⟨rfl,rfl,_⟩:=l3
      rw[Nat.zero_add] at l4
      by_cases hfit:k1+n≤cap
      ·have hfits:k1*i.size+news.length≤c.size:=by
        rw[hln',hs,← Nat.add_mul];exact Nat.le_trans (Nat.mul_le_mul_right _ hfit) l4
       have hkk:k1*i.size=k1*shx.size:=by rw[hs]
       have hnn:n*i.size=n*shx.size:=by rw[hs]
       have hr:=run_append_room2 (P:=P) w t ty e e1 i ht hi a.block k1 cap c o3 ay n cy news hln' hnews hn1 hfit hfits
       rw[← l2] at hr
       have hsz:(c.toList.take (k1*i.size)++news++c.toList.drop (k1*i.size+news.length)).toArray.size=c.size:=by simp;omega
       obtain ⟨s1,hm1⟩:=hm.write (cs':=cs++ycs) (c':=(c.toList.take (k1*i.size)++news++c.toList.drop (k1*i.size+news.length)).toArray) hget o1 o3 hsz (by rw[hsz,List.length_append,hcl,hyl,← hln,← hs];exact hfits) (fun j hj=>by
        rw[List.length_append,hcl,hyl] at hj
        have hlen1:(c.toList.take (k1*i.size)).length=k1*shx.size:=by simp;omega
        simp only[List.getD_eq_getElem?_getD,Array.getD_eq_getD_getElem?,List.getElem?_toArray,List.append_assoc]
        by_cases h1:j<k1*shx.size
        ·rw[List.getElem?_append_left (by omega),List.getElem?_append_left (by omega),List.getElem?_take,if_pos (by omega)]
         have:=o5 j (by omega)
         simpa [List.getD_eq_getElem?_getD,Array.getD_eq_getD_getElem?] using this
        ·rw[List.getElem?_append_right (by omega),List.getElem?_append_right (by omega),hcl,hlen1,List.getElem?_append_left (by omega)]
         have:=hvn (j-k1*shx.size) (by omega)
         simpa [List.getD_eq_getElem?_getD] using this)
       obtain ⟨s2,hm2⟩:=hm1.rename (by rw[get_set,if_pos rfl,if_pos hlt]) o1
       rw[List.length_set,List.set_set] at hm2
       rw[List.length_set] at s2
       refine ⟨_,_,_,hr,s1.trans s2,by rw[List.length_set] at *;exact hm2,?_⟩
       rw[List.length_set]
       rw[l2]
       exact .arr _ _ _ _ _ _ (.inr rfl) hfit hmx (.inr ⟨by simp[renG],rfl,_,e1,setRow_heap w _ c _ e1 _ o3,by rw[hsz,Nat.zero_add];exact l4⟩)
      ·have hcd:∀ j,j<k1*shx.size→w.cell? (a.add j)=some (c.getD j undef):=fun j hj=>by
        rw[l2,Addr_add,cell_of_row w _ _ c e1 (0,0) o3]
        simp[Array.getD,show j<c.size by omega]
       have hlo:((List.range (k1*shx.size)).map fun j=>c.getD j undef).length=k1*shx.size:=by simp
       have hr:=run_append_grow (P:=P) w t ty e i zv ht hi hzv a k1 cap ((List.range (k1*shx.size)).map fun j=>c.getD j undef) (by rw[hlo,hs]) (fun j u hu=>by
         have hj:j<k1*shx.size:=by
          rcases Nat.lt_or_ge j (k1*shx.size) with hl|hl
          ·exact hl
          ·rw[List.getElem?_eq_none (by simpa using hl)] at hu;cases hu
         simp[hj] at hu
         rw[hcd j hj,← hu]
         simp[Array.getD_eq_getD_getElem?]) ay n cy news hln' hnews (by omega) (by omega) (growslice_fits (by omega) hsum)
       obtain ⟨g',s,hm',hV⟩:=grownR (hm.lose nm) hB (e:=e) (xcs:=cs) (ycs:=ycs) (olds:=(List.range (k1*shx.size)).map fun j=>c.getD j undef) hlo hln hcl hyl (fun j hj=>by
         have hj':j<k1*shx.size:=by simpa using hj
         have:=o5 j (by omega)
         simpa [List.getD_eq_getElem?_getD,hj'] using this) hvn (grownCap_ge w (k1+n) cap e) (grownCap_le_maxLen w _ cap e h63) (rest:=Builtin.zeroCells zv.cells (grownCap w (k1+n) cap e-(k1+n))) (by rw[size_zeroCells,hzs,hs])
       exact ⟨_,_,g',hr,s,hm',hV⟩
    ·cases hp2
   ·cases hp
  ·cases h
 ·cases h
theorem append_none (w:World) (t e ty:Nat) (i:TypeInfo) (ht:P.underlying t=some (.slice e)) (hi:P.info? e=some i) {x:AV} {x' y':Value} {sh shy:Sh} {z z':Bool} {o o':Own} {es:List AV} (hx:V w g (.lst sh z o es) x') (hy:V w g (.lst shy z' o' []) y') :
  (Builtin.append_ #[t,t] ty #[x',y']).run P w=.ok x' w:=by
 have hb:∀ a n c,x'=.slice a n c→n≤c:=by
  rintro a n c rfl
  cases hx with
  | nils=>exact Nat.le_refl _
  | lst _ o es a cap us hs hc hm hsh hcell hv ho=>exact hc
 have hshape:∃ a n c,x'=.slice a n c:=by cases hx<;>exact ⟨_,_,_,rfl⟩
 obtain ⟨a,n,c,rfl⟩:=hshape
 have hn:=hb a n c rfl
 have hshape2:∃ a' c',y'=.slice a' 0 c':=by cases hy<;>exact ⟨_,_,rfl⟩
 obtain ⟨a',c',rfl⟩:=hshape2
 cases a'<;>cases a<;>simp[Builtin.append_,run_underlying ht,sizeOf,typeInfo,hi,Builtin.lenOf,hn,Builtin.firstCells,loadCells,loadCellsFrom,storeCells]
theorem append_sound (hm:MemR B w g m) (hB:B≤w.heap.size) {d:Option Nat} (hd:∀ s,d=some s→m.get s=some .resv) {arrm:Bool} {t e ty:Nat} {sh:Sh} {x y v:AV} {m':Mem} {x' y':Value} (ht:P.underlying t=some (.slice e)) (hsh:shOf P e=some sh) (he:elemOk P e sh=true)
  (hx:V w g x x') (hy:V w g y y') (h:appA d arrm e sh (bytesOf P e) m x y=some (v,m')):Done P B w g (Builtin.append_ #[t,t] ty #[x',y']) v m':=by
 obtain ⟨i,zv,hi,hs,hpos,hzv,hzs,hna⟩:=elemOk_facts he
 have hby:bytesOf P e=max 1 i.bytes:=by simp[bytesOf,hi]
 unfold appA at h
 split at h
 ·rename_i shx z o es shy zy oy ys0
  split at h
  ·simp at h
   obtain ⟨rfl,rfl⟩:=h
   exact Done.same hm ⟨x',append_none (x:=.any) w t e ty i ht hi hx hy,hx⟩
  ·rename_i y1 ys1
   generalize hys:y1::ys1=ys at *
   have hpos':0<ys.length:=by rw[← hys];simp
   split at h
   ·rename_i hshy
    subst hshy
    split at h
    ·rename_i hroom
     rw[hby] at hroom
     have hy2:∃ zy',zy=zy'∧zy'=false:=by
      cases zy
      ·exact ⟨_,rfl,rfl⟩
      ·cases hy;simp at hpos'
     obtain ⟨_,rfl,rfl⟩:=hy2
     obtain ⟨ay,ny,cy,rfl⟩:∃ ay ny cy,y'=.slice (some ay) ny cy:=by cases hy;exact ⟨_,_,_,rfl⟩
     obtain ⟨news,rfl,hln,hnews,hn1,hvn,_,_,_,hys',_,_⟩:=V_row hy
     have hln':news.length=ys.length*i.size:=by rw[hln,hs]
     have hsum:(es.length+ys.length)*i.bytes≤140737488355328:=Nat.le_trans (Nat.mul_le_mul_left _ (by omega)) hroom
     have hlen:es.length+ys.length≤140737488355328:=Nat.le_trans (Nat.le_mul_of_pos_right _ (by omega)) hroom
     have h63:es.length+ys.length≤maxLen:=by simp only[maxLen];omega
     split at h
     ·cases h
     ·
      split at h
      ·rename_i hshx
       have hgrow:∃ (cap:Nat) (olds:List Value) (rest:Array Value),(Builtin.append_ #[t,t] ty #[x',.slice (some ay) ys.length cy]).run P w=.ok (.slice (some ⟨w.heap.size,0,none⟩) (es.length+ys.length) cap) (w.drew.alloc (.cells (olds.toArray++news.toArray++rest) e)) ∧
         olds.length=es.length*shy.size∧(∀ e∈es,shOk shy e=true∧pl e=true)∧(∀ j,j<olds.length→V w g ((flat es).getD j .any) (olds.getD j undef))∧es.length+ys.length≤cap∧cap≤maxLen∧rest.size=(cap-(es.length+ys.length))*shy.size:=by
        cases z with
        | true=>
         have hes:es=[]∧x'=.slice none 0 0:=by cases hx;exact ⟨rfl,rfl⟩
         obtain ⟨rfl,rfl⟩:=hes
         have hr:=run_append_nil (P:=P) w t ty e i zv ht hi hzv ay ys.length cy news hln' hnews hpos' (by omega) (by simp only[List.length_nil,Nat.zero_add] at hsum;omega)
         refine ⟨_,[],Builtin.zeroCells zv.cells (grownCap w ys.length 0 e-ys.length),?_,by simp,by simp,by simp,by simpa using grownCap_ge w ys.length 0 e,grownCap_le_maxLen w _ _ e (by simpa using h63),?_⟩
         ·simpa using hr
         ·rw[size_zeroCells,hzs,hs];simp
        | false=>
         obtain ⟨ax,nx,cx,rfl⟩:∃ ax nx cx,x'=.slice (some ax) nx cx:=by cases hx;exact ⟨_,_,_,rfl⟩
         obtain ⟨olds,rfl,hlo,holds,ho1,hvo,hax,hcx,hmx,hesx,hown,_⟩:=V_row hx
         have hfull:cx=es.length:=hown
         have hlo':olds.length=es.length*i.size:=by
          rcases hshx with h|h
          ·rw[hlo,h,hs]
          ·subst h;simp at hlo;simp[hlo]
         have hr:=run_append_grow (P:=P) w t ty e i zv ht hi hzv ax es.length cx olds hlo' holds ay ys.length cy news hln' hnews (by omega) (by omega) (growslice_fits (by omega) hsum)
         refine ⟨_,olds,Builtin.zeroCells zv.cells (grownCap w (es.length+ys.length) cx e-(es.length+ys.length)),hr,by rw[hlo',hs],?_,hvo,grownCap_ge _ _ _ _,grownCap_le_maxLen _ _ _ _ h63,by rw[size_zeroCells,hzs,hs]⟩
         rcases hshx with h|h
         ·rw[← h];exact hesx
         ·subst h;simp
       obtain ⟨cap,olds,rest,hr,g1,g2,g3,g4,g5,g6⟩:=hgrow
       obtain ⟨p1,p2,_⟩:=grown_sound hm hB hd (e:=e) g1 hln g2 hys' g3 hvn g4 g5 g6
       split at h
       ·simp only[Option.some.injEq,Prod.mk.injEq] at h
        obtain ⟨rfl,rfl⟩:=h
        obtain ⟨g',s,hm',hV⟩:=p2
        exact ⟨_,_,g',hr,s,hm',hV⟩
       ·simp at h
        obtain ⟨rfl,rfl⟩:=h
        obtain ⟨g',s,hm',hV⟩:=p1
        exact ⟨_,_,g',hr,s,hm',hV⟩
      ·cases h
     ·
      rename_i nm e'
      split at h
      ·rename_i hcond
       obtain ⟨rfl,rfl,_⟩:=hcond
       split at h
       ·rename_i k sz hget
        split at h
        ·rename_i hk
         obtain ⟨rfl,rfl⟩:=hk
         simp at h
         obtain ⟨rfl,rfl⟩:=h
         have hz:z=false∧∃ ax nx cx,x'=.slice (some ax) nx cx:=by
          cases hx with
          | nils _ _ ho=>rcases ho with h|h<;>cases h
          | lst=>exact ⟨rfl,_,_,_,rfl⟩
         obtain ⟨rfl,ax,nx,cx,rfl⟩:=hz
         obtain ⟨olds,rfl,hlo,holds,ho1,hvo,hax,hcx,hmx,hesx,hown,_⟩:=V_row hx
         obtain ⟨o1,o2,c,o3,o4⟩:=hown
         have hlo':olds.length=es.length*i.size:=by rw[hlo,hs]
         by_cases hfit:es.length+ys.length≤cx
         ·
          have hax:=hax.resolve_left (by omega)
          have hax':ax=⟨ax.block,0,none⟩:=by rw[hax,o2]
          have hfits:es.length*i.size+news.length≤c.size:=by
           rw[hln',o4,hs,← Nat.add_mul];exact Nat.mul_le_mul_right _ hfit
          have hr:=run_append_room (P:=P) w t ty e' i ht hi ax.block es.length cx c o3 ay ys.length cy news hln' hnews hn1 hfit hfits
          rw[← hax'] at hr
          obtain ⟨g',s,hm',q1,q2,q3⟩:=hm.inplace (n:=es.length+ys.length) (c':=(c.toList.take (es.length*i.size)++news++c.toList.drop (es.length*i.size+news.length)).toArray) hget o1 o3 (by omega) (by simp;omega)
           (fun j hj=>by
            rw[← hs] at hj
            simp only[List.getElem?_toArray,List.append_assoc]
            rw[List.getElem?_append_left (by simp;omega),List.getElem?_take,if_pos hj]
            simp)
          refine ⟨_,_,g',hr,s,hm',?_⟩
          have hheap:(w.setRow ax.block (c.toList.take (es.length*i.size)++news++c.toList.drop (es.length*i.size+news.length)).toArray).heap[ax.block]?=some (Obj.cells (c.toList.take (es.length*i.size)++news++c.toList.drop (es.length*i.size+news.length)).toArray e' (0,0)):=setRow_heap w _ c _ e' _ o3
          have hcsz:(c.toList.take (es.length*i.size)++news++c.toList.drop (es.length*i.size+news.length)).toArray.size=c.size:=by simp;omega
          have hmul:(es.length+ys.length)*shx.size=es.length*shx.size+ys.length*shx.size:=Nat.add_mul _ _ _
          have hfe:=flat_len (fun e he=>(hesx e he).1:∀ e∈es,shOk shx e=true)
          have hl2:(es++ys).length=es.length+ys.length:=by simp
          have:=V_of_row (sh:=shx) (o:=.tok nm e') (es:=es++ys) (cap:=cx) hheap (by rw[hl2];exact hfit) hmx (fun e he=>by
            rcases List.mem_append.1 he with h|h
            ·exact hesx e h
            ·exact hys' e h) (by rw[hl2,hcsz,o4];exact Nat.mul_le_mul_right _ hfit)
           (fun j hj=>by
            rw[hl2] at hj
            have hlen1:(c.toList.take (es.length*i.size)).length=es.length*shx.size:=by simp;omega
            rw[flat_append]
            simp only[List.getD_eq_getElem?_getD,Array.getD_eq_getD_getElem?,List.getElem?_toArray,List.append_assoc]
            by_cases h1:j<es.length*shx.size
            ·rw[List.getElem?_append_left (by omega),List.getElem?_append_left (by omega),List.getElem?_take,if_pos (by omega)]
             have hcell:=holds j (olds.getD j undef) (by simp[List.getD_eq_getElem?_getD,show j<olds.length by omega])
             rw[hax',Addr_add,cell_of_row w _ _ c e' (0,0) o3] at hcell
             simp only[Nat.zero_add] at hcell
             have:=(hvo j (by omega)).step s
             simp only[Array.getElem?_toList,hcell,Option.getD_some]
             simpa [List.getD_eq_getElem?_getD] using this
            ·rw[List.getElem?_append_right (by omega),List.getElem?_append_right (by omega),hfe,hlen1,List.getElem?_append_left (by omega)]
             have:=(hvn (j-es.length*shx.size) (by omega)).step s
             simpa [List.getD_eq_getElem?_getD] using this)
           (fun j hj=>q2 j (by rw[← hl2];exact hj)) q3 ⟨by rw[hl2];exact q1,rfl,_,hheap,by rw[hcsz,o4]⟩
          rw[hl2] at this
          rw[hax']
          exact this
         ·have hr:=run_append_grow (P:=P) w t ty e' i zv ht hi hzv ax es.length cx olds hlo' holds ay ys.length cy news hln' hnews (by omega) (by omega) (growslice_fits (by omega) hsum)
          obtain ⟨_,_,p3⟩:=grown_sound hm hB hd (e:=e') hlo hln hesx hys' hvo hvn (grownCap_ge w (es.length+ys.length) cx e') (grownCap_le_maxLen w _ cx e' h63) (rest:=Builtin.zeroCells zv.cells (grownCap w (es.length+ys.length) cx e'-(es.length+ys.length))) (by rw[size_zeroCells,hzs,hs])
          obtain ⟨g',s,hm',hV⟩:=p3 nm es.length hget (by omega)
          exact ⟨_,_,g',hr,s,hm',hV⟩
        ·cases h
       ·cases h
      ·cases h
    ·cases h
   ·cases h
 ·exact appR_sound hm hB ht he hx hy h
theorem fill_row {sh:Sh} (es:List AV):∀ (vs:List Value) (i:Nat) (c:Array Value) (L:List (Nat×Value)),L=(vs.zipIdx i).map (fun x=>(x.2,x.1))→es.length=vs.length→(∀ k (h:k<es.length) (h':k<vs.length),V w g es[k] vs[k])→(∀ e∈es,shOk sh e=true)→(i+es.length)*sh.size≤c.size →
  ∃ c',Instr.fill (fun i=>some (i*sh.size,sh.size)) c L=some c'∧c'.size=c.size∧(∀ j,j<es.length*sh.size→V w g ((flat es).getD j .any) (c'.getD (i*sh.size+j) undef))∧∀ j,j<i*sh.size→c'.getD j undef=c.getD j undef:=by
 induction es with
 | nil=>
  intro vs i c L hL hl _ _ _
  obtain rfl:vs=[]:=List.eq_nil_of_length_eq_zero (by simpa using hl.symm)
  subst hL
  exact ⟨c,rfl,rfl,by simp,fun _ _=>rfl⟩
 | cons e es ih=>
  intro vs i c L hL hl hv hs hsz
  match vs,hl with
  | v::vs,hl=>
  subst hL
  have hV:V w g e v:=hv 0 (by simp) (by simp)
  have hse:=hs e (by simp)
  obtain ⟨v1,v2,_⟩:=V_cells hV hse
  have hxs:=shOk_size hse
  simp only[List.length_cons] at hsz
  have hsz2:(i+(es.length+1))*sh.size=i*sh.size+sh.size+es.length*sh.size:=by rw[Nat.add_mul,Nat.succ_mul];omega
  obtain ⟨f1,f2⟩:=foldl_set (i*sh.size) v.cells.toList 0 c (by simp;omega)
  simp only[Nat.add_zero,Array.length_toList] at f2
  have hz:(v.cells.zipIdx.foldl (fun cs (c,j)=>cs.setIfInBounds (i*sh.size+j) c) c)=(v.cells.toList.zipIdx.foldl (fun cs (c,j)=>cs.setIfInBounds (i*sh.size+j) c) c):=by
   rw[← Array.foldl_toList,Array.toList_zipIdx]
  have hi1:(i+1)*sh.size=i*sh.size+sh.size:=Nat.succ_mul _ _
  obtain ⟨c',g1,g2,g3,g4⟩:=ih vs (i+1) (v.cells.toList.zipIdx.foldl (fun cs (c,j)=>cs.setIfInBounds (i*sh.size+j) c) c) _ rfl (by simpa using hl)
   (fun k h h'=>hv (k+1) (by simpa using h) (by simpa using h')) (fun x hx=>hs x (by simp[hx])) (by rw[f1,Nat.add_mul,hi1];omega)
  refine ⟨c',?_,by rw[g2,f1],fun j hj=>?_,fun j hj=>?_⟩
  ·simp only[List.zipIdx_cons,List.map_cons,Instr.fill]
   rw[if_neg (by simp;omega),hz]
   exact g1
  ·simp only[List.length_cons,Nat.succ_mul] at hj
   simp only[List.flatMap_cons,List.getD_eq_getElem?_getD,List.getElem?_append,hxs]
   by_cases h1:j<sh.size
   ·rw[if_pos h1,g4 _ (by omega),f2,if_pos (by omega)]
    have:=v2 j h1
    simpa [List.getD_eq_getElem?_getD,Array.getD_eq_getD_getElem?] using this
   ·rw[if_neg h1]
    have:=g3 (j-sh.size) (by omega)
    rw[show (i+1)*sh.size+(j-sh.size)=i*sh.size+j by omega] at this
    simpa [List.getD_eq_getElem?_getD] using this
  ·rw[g4 j (by omega),f2,if_neg (by omega)]
theorem buildSlice_sound0 (hm:MemR B w g m) (hB:B≤w.heap.size) {t e n:Nat} {sh:Sh} {ps:Array (Nat×Operand)} {ρ:Operand→AV} {ρ':Operand→Value} (hρ:∀ x,V w g (ρ x) (ρ' x)) (ht:P.underlying t=some (.slice e)) (he:elemOk P e sh=true) (hidx:ps.toList.map (·.1)=List.range n)
  (hn:n*sh.size≤16777216) (hall:(ps.toList.map fun p=>ρ p.2).all (fun v=>shOk sh (strip v))=true):∃ c:Array Value,(Instr.buildSlice t n (ps.map fun (i,x)=>(i,ρ' x))).run P w=.ok (.slice (some ⟨w.heap.size,0,none⟩) n n) (w.alloc (.cells c e))∧c.size=n*sh.size∧(ps.toList.map fun p=>ρ p.2).length=n∧((ps.toList.map fun p=>ρ p.2).map strip).length=n∧(∀ x∈(ps.toList.map fun p=>ρ p.2).map strip,shOk sh x=true)∧∀ j,j<n*sh.size→V w g ((flat ((ps.toList.map fun p=>ρ p.2).map strip)).getD j .any) (c.getD j undef):=by
 obtain ⟨i,zv,hi,hs,hpos,hzv,hzs,hna⟩:=elemOk_facts he
 ·have hlen:ps.toList.length=n:=by have:=congrArg List.length hidx;simpa using this
  have hall':∀ p∈ps.toList,shOk sh (strip (ρ p.2))=true:=fun p hp=>by
   have:=List.all_eq_true.1 hall (ρ p.2) (List.mem_map.2 ⟨p,hp,rfl⟩)
   simpa using this
  generalize hes:(ps.toList.map fun p=>ρ p.2).map strip=es
  have hesl:es.length=n:=by rw[← hes];simpa using hlen
  have hesok:∀ x∈es,shOk sh x=true:=fun x hx=>by
   rw[← hes] at hx
   obtain ⟨y,hy,rfl⟩:=List.mem_map.1 hx
   obtain ⟨p,hp,rfl⟩:=List.mem_map.1 hy
   exact hall' p hp
  let base:Array Value:=(Array.range (n*i.size)).map ((if n*i.size=0 then #[] else zv.cells)[· % (if n*i.size=0 then #[] else zv.cells:Array Value).size]!)
  obtain ⟨c',g1,g2,g3,g4⟩:=fill_row (w:=w) (g:=g) (sh:=sh) es (ps.toList.map fun p=>ρ' p.2) 0 base ((ps.map fun (i,x)=>(i,ρ' x)).toList)
   (by
    apply List.ext_getElem
    ·simp
    ·intro k h1 h2
     have hk:k<ps.toList.length:=by simpa using h1
     have:(ps.toList.map (·.1))[k]'(by simpa using hk)=k:=by simp[hidx]
     simp at this
     simp[this])
   (by simp[hesl,← hlen]) (fun k h1 h2=>by
    have hk:k<ps.toList.length:=by simpa using h2
    have:es[k]=strip (ρ (ps.toList[k]).2):=by simp[← hes]
    rw[this]
    simp only[List.getElem_map]
    exact V_strip (hρ _)) (fun x hx=>hesok x hx) (by simp only[base,Array.size_map,Array.size_range,Nat.zero_add,hesl,hs];exact Nat.le_refl _)
  have hcs:c'.size=n*sh.size:=by rw[g2];simp[base,hs]
  have hrun:(Instr.buildSlice t n (ps.map fun (i,x)=>(i,ρ' x))).run P w=.ok (.slice (some ⟨w.heap.size,0,none⟩) n n) (w.alloc (.cells c' e)):=by
   have hns:¬ (2^24<n*i.size):=by rw[hs];omega
   rw[← hs] at g1
   by_cases h0:n*i.size=0
   ·have hb:base=(Array.range (n*i.size)).map ((#[]:Array Value)[· % (#[]:Array Value).size]!):=by simp[base,h0]
    rw[hb] at g1
    simp only[Instr.buildSlice,Sem.run_bind,run_underlying ht,Result.andThen_ok,run_sizeOf hi,Sem.run_ite,if_neg hns,Sem.run_pure,if_pos h0,g1]
    rfl
   ·have hb:base=(Array.range (n*i.size)).map (zv.cells[· % zv.cells.size]!):=by simp[base,h0]
    rw[hb] at g1
    have hz:(zeroValue e).run P w=.ok zv w:=by simp[zeroValue,typeInfo,hi,hzv]
    simp only[Instr.buildSlice,Sem.run_bind,run_underlying ht,Result.andThen_ok,run_sizeOf hi,Sem.run_ite,if_neg hns,Sem.run_pure,if_neg h0,hz,g1]
    rfl
  exact ⟨c',hrun,hcs,by simpa using hlen,hesl,hesok,fun j hj=>by
   have:=g3 j (by rw[hesl];exact hj)
   simpa using this⟩
theorem buildSlice_sound (hm:MemR B w g m) (hB:B≤w.heap.size) {t e n:Nat} {sh:Sh} {ps:Array (Nat×Operand)} {ρ:Operand→AV} {ρ':Operand→Value} (hρ:∀ x,V w g (ρ x) (ρ' x)) {v:AV} (ht:P.underlying t=some (.slice e)) (he:elemOk P e sh=true) (hidx:ps.toList.map (·.1)=List.range n)
  (hn:n*sh.size≤16777216) (h:buildSliceA sh (ps.toList.map fun p=>ρ p.2)=some v):Done P B w g (Instr.buildSlice t n (ps.map fun (i,x)=>(i,ρ' x))) v m:=by
 obtain ⟨i,zv,hi,hs,hpos,hzv,hzs,hna⟩:=elemOk_facts he
 have hnl:n≤maxLen:=by
  have h1:n≤n*sh.size:=Nat.le_mul_of_pos_right _ (by omega)
  simp only[maxLen];omega
 unfold buildSliceA at h
 split at h
 ·rename_i hall
  simp only[Option.some.injEq] at h
  subst h
  obtain ⟨c,hrun,hcs,hl0,hesl,hesok,hv⟩:=buildSlice_sound0 hm hB hρ ht he hidx hn (List.all_eq_true.2 fun x hx=>by
   have:=List.all_eq_true.1 hall x hx
   simp only[Bool.and_eq_true] at this
   exact this.1)
  have hpl:∀ x∈(ps.toList.map fun p=>ρ p.2).map strip,shOk sh x=true∧pl x=true:=fun x hx=>by
   obtain ⟨y,hy,rfl⟩:=List.mem_map.1 hx
   have:=List.all_eq_true.1 hall y hy
   simpa only[Bool.and_eq_true] using this
  generalize (ps.toList.map fun p=>ρ p.2).map strip=es at *
  obtain ⟨s,hm'⟩:=hm.alloc_imm hB (.cells c e)
  have hV:=V_of_row (w:=w.alloc (.cells c e)) (g:=g) (sh:=sh) (o:=.full) (es:=es) (cap:=n) (heap_alloc_new w _) (by omega) hnl hpl (by rw[hesl,hcs];exact Nat.le_refl _) (fun j hj=>by
    rw[hesl] at hj
    exact (hv j hj).step s) (fun j _ h=>Nat.lt_irrefl _ (hm.wrLt _ _ h)) (fun h=>Nat.lt_irrefl _ (hm.boxLt _ h)) (show n=es.length from hesl.symm)
  rw[hesl] at hV
  exact ⟨_,_,g,hrun,s,hm',hV⟩
 ·split at h
  ·rename_i hall
   simp only[Option.some.injEq] at h
   subst h
   obtain ⟨c,hrun,hcs,hl0,hesl,hesok,hv⟩:=buildSlice_sound0 hm hB hρ ht he hidx hn hall
   obtain ⟨s,hm'⟩:=hm.alloc_imm hB (.cells c e)
   rw[hl0]
   generalize (ps.toList.map fun p=>ρ p.2).map strip=es at *
   have hfl:=flat_len hesok
   rw[hesl] at hfl
   refine ⟨_,_,g,hrun,s,hm',.vec n sh (flat es) ⟨w.heap.size,0,none⟩ n (fun j=>c.getD j undef) (.inr rfl) (Nat.le_refl _) hnl hfl (flat_atom hesok) (fun j hj=>⟨?_,fun h=>Nat.lt_irrefl _ (hm.wrLt _ _ h)⟩) (fun j hj=>(hv j (by omega)).step s)⟩
   simp only[Nat.zero_add]
   rw[cell_of_row _ _ j c e (0,0) (heap_alloc_new w _)]
   simp[Array.getD,show j<c.size by omega]
  ·cases h
theorem makeT_sound (hm:MemR B w g m) (hB:B≤w.heap.size) {d:Option Nat} {t e:Nat} {sh:Sh} {z l c v:AV} {m':Mem} {l' c':Value} (ht:P.underlying t=some (.slice e)) (hsh:shOf P e=some sh) (he:elemOk P e sh=true) (hz:zeroOf P e=some z)
  (hl:V w g l l') (hc:V w g c c') (h:makeT d sh z (bytesOf P e) m l c=some (v,m')):Done P B w g (Instr.makeSlice t l' c') v m':=by
 obtain ⟨i,zv,hi,hs,hpos,hzv,hzs,hna⟩:=elemOk_facts he
 obtain ⟨i2,zv2,hi2,hzv2,rfl⟩:=zero_facts hz
 obtain rfl:i=i2:=by simpa [hi] using hi2
 obtain rfl:zv=zv2:=by simpa [hzv] using hzv2
 have hb:i.bytes≤bytesOf P e:=by simp[bytesOf,hi];omega
 have hz2:zv.cells.size=sh.size:=by omega
 unfold makeT at h
 split at h
 ·rename_i kl l kc c
  cases hl;cases hc
  split at h
  ·rename_i hcond
   obtain ⟨⟨h0,hlc,hby,h63⟩,hat,hpl⟩:=hcond
   subst hlc
   simp only[Option.some.injEq,Prod.mk.injEq] at h
   obtain ⟨rfl,rfl⟩:=h
   have hby:l*(i.bytes:Int)≤281474976710656:=Int.le_trans (Int.mul_le_mul_of_nonneg_left (by omega) (by omega)) hby
   have hr:=run_make (P:=P) w t e i zv ht hi hzv kl kc l l h0 (Int.le_refl _) (by rw[Int.mul_comm];exact hby) h63
   have hshn:(valA zv).cells=[valA zv]:=by
    have h1:valA zv=atomA zv:=by
     unfold valA
     split
     ·exact absurd rfl (hna rfl _)
     ·rfl
    rw[h1]
    unfold atomA;split<;>rfl
   obtain ⟨z1,z2⟩:=zeros_facts (sh:=none) (n:=l.toNat) hz2 (fun _=>hshn) w g
   obtain ⟨s,hm'⟩:=hm.alloc_imm hB (.cells (madeCells zv.cells (l.toNat*i.size)) e)
   have hs1:i.size=1:=hs
   have hV:=V_of_row (w:=w.alloc (.cells (madeCells zv.cells (l.toNat*i.size)) e)) (g:=g) (sh:=none) (o:=.full) (es:=List.replicate l.toNat (valA zv)) (cap:=l.toNat) (heap_alloc_new w _) (by rw[List.length_replicate];exact Nat.le_refl _) (by simp only[maxLen];omega)
    (fun x hx=>by
     obtain ⟨_,rfl⟩:=List.mem_replicate.1 hx
     exact ⟨hat,hpl⟩) (by rw[List.length_replicate,size_madeCells,hs];exact Nat.le_refl _) (fun j hj=>by
     have hfl:flat (List.replicate l.toNat (valA zv))=zeros none (valA zv) l.toNat:=by
      unfold flat zeros
      induction l.toNat with
      | zero=>rfl
      | succ n ih=>rw[List.replicate_succ,List.flatMap_cons,ih,hshn];rfl
     rw[hfl]
     rw[List.length_replicate] at hj
     have:=(z2 j hj).step s
     rw[madeCells_getD _ _ _ (by omega) (by rw[hs];exact hj)]
     exact this) (fun j _ h=>Nat.lt_irrefl _ (hm.wrLt _ _ h)) (fun h=>Nat.lt_irrefl _ (hm.boxLt _ h)) (show l.toNat=(List.replicate l.toNat (valA zv)).length from List.length_replicate.symm)
   rw[List.length_replicate] at hV
   exact ⟨_,_,g,hr,s,hm',hV⟩
  ·cases h
 ·cases h
end
end Go.Ab
set_option linter.unusedVariables false
set_option linter.unusedSimpArgs false
set_option linter.unusedSectionVars false
namespace Go.Ab
open Go.RowKit
mutual
theorem pl_cl:∀ x,pl x=true→cl x=true
 | .int ..,_ | .bool _,_ | .str _,_ | .nilp,_ | .nilf,_ | .nile,_ | .nilm,_=>rfl
 | .lst _ _ o _,h=>by cases o<;>first|rfl|(simp[pl] at h)
 | .agg cs,h=>by simp only[pl] at h;simp only[cl];exact plL_clL cs h
 | .any,h | .arr ..,h | .ptr ..,h | .vptr _,h | .tup _,h | .fn ..,h | .vec ..,h=>by simp[pl] at h
theorem plL_clL:∀ cs,plL cs=true→clL cs=true
 | [],_=>rfl
 | c::cs,h=>by
  simp only[plL,Bool.and_eq_true] at h
  simp only[clL,Bool.and_eq_true]
  exact ⟨pl_cl c h.1,plL_clL cs h.2⟩
end
mutual
theorem pl_noV:∀ x,pl x=true→noV x=true
 | .int ..,_ | .bool _,_ | .str _,_ | .nilp,_ | .nilf,_ | .nile,_ | .nilm,_ | .lst ..,_=>rfl
 | .agg cs,h=>by simp only[pl] at h;simp only[noV];exact plL_noVL cs h
 | .any,h | .arr ..,h | .ptr ..,h | .vptr _,h | .tup _,h | .fn ..,h | .vec ..,h=>by simp[pl] at h
theorem plL_noVL:∀ cs,plL cs=true→noVL cs=true
 | [],_=>rfl
 | c::cs,h=>by
  simp only[plL,Bool.and_eq_true] at h
  simp only[noVL,Bool.and_eq_true]
  exact ⟨pl_noV c h.1,plL_noVL cs h.2⟩
end
theorem plL_mem:∀ {cs:List AV},plL cs=true→∀ x∈cs,pl x=true
 | [],_,x,hx=>by simp at hx
 | c::cs,h,x,hx=>by
  simp only[plL,Bool.and_eq_true] at h
  rcases List.mem_cons.1 hx with rfl|hx
  ·exact h.1
  ·exact plL_mem h.2 x hx
theorem clL_mem:∀ {cs:List AV},clL cs=true→∀ x∈cs,cl x=true
 | [],_,x,hx=>by simp at hx
 | c::cs,h,x,hx=>by
  simp only[clL,Bool.and_eq_true] at h
  rcases List.mem_cons.1 hx with rfl|hx
  ·exact h.1
  ·exact clL_mem h.2 x hx
theorem clL_of:∀ {cs:List AV},(∀ x∈cs,cl x=true)→clL cs=true
 | [],_=>rfl
 | c::cs,h=>by
  simp only[clL,Bool.and_eq_true]
  exact ⟨h c (by simp),clL_of fun x hx=>h x (by simp[hx])⟩
theorem noVL_mem:∀ {cs:List AV},noVL cs=true→∀ x∈cs,noV x=true
 | [],_,x,hx=>by simp at hx
 | c::cs,h,x,hx=>by
  simp only[noVL,Bool.and_eq_true] at h
  rcases List.mem_cons.1 hx with rfl|hx
  ·exact h.1
  ·exact noVL_mem h.2 x hx
theorem pl_cells {x:AV} (h:pl x=true):∀ c∈x.cells,pl c=true:=by
 intro c hc
 cases x<;>first|(simp[AV.cells] at hc;subst hc;exact h)|(simp[pl] at h;done)|skip
 rename_i cs
 simp only[pl] at h
 exact plL_mem h c hc
theorem getD_mem {cs:List AV} {j:Nat} (h:j<cs.length):cs.getD j .any∈cs:=by
 rw[List.getD_eq_getElem?_getD,List.getElem?_eq_getElem h];exact List.getElem_mem h
section
variable [WInv] {w:World} {g g2:G}
theorem V_cl' {x:AV} {v:Value} {nv:Bool} (h:V w g x v) (hc:cl x=true) (hn:nv=true→noV x=true) (hwr:∀ b off,g2.wr b off→g.wr b off∨g.box b∧nv=true) (hbx:∀ b,g2.box b→g.box b):V w g2 x v:=by
 induction h with
 | any=>exact .any _
 | int=>exact .int _ _
 | bool=>exact .bool _
 | str=>exact .str _
 | nils sh o ho=>exact .nils sh o ho
 | lst sh o es a cap us hs hc' hm hsh hcell hv ho ih=>
  refine .lst sh o es a cap us hs hc' hm hsh (fun j hj=>?_) (fun j hj=>ih j hj ?_ fun _=>?_) ?_
  ·obtain ⟨h1,h2,h3⟩:=hcell j hj
   exact ⟨h1,fun h=>(hwr _ _ h).elim h2 fun h=>h3 h.1,fun h=>h3 (hbx _ h)⟩
  ·obtain ⟨e,he,hx⟩:=List.mem_flatMap.1 (getD_mem hj)
   exact pl_cl _ (pl_cells (hsh e he).2 _ hx)
  ·obtain ⟨e,he,hx⟩:=List.mem_flatMap.1 (getD_mem hj)
   exact pl_noV _ (pl_cells (hsh e he).2 _ hx)
  ·cases o with
   | no=>trivial
   | full=>exact ho
   | tok=>simp[cl] at hc
 | arr=>simp[cl] at hc
 | ptr=>simp[cl] at hc
 | mref=>simp[cl] at hc
 | vec=>simp[cl] at hc
 | vptr cs b off us hcell hv ih=>
  simp only[cl] at hc
  have hnv:nv=false:=by
   cases nv with
   | false=>rfl
   | true=>have:=hn rfl;simp[noV] at this
  subst hnv
  refine .vptr cs b off us (fun j hj=>?_) (fun j hj=>ih j hj (clL_mem hc _ (getD_mem hj)) (fun h=>by cases h))
  obtain ⟨h1,h2⟩:=hcell j hj
  exact ⟨h1,fun h=>(hwr _ _ h).elim h2 fun h=>by cases h.2⟩
 | nilp=>exact .nilp
 | nilf=>exact .nilf
 | nile=>exact .nile
 | nilm=>exact .nilm
 | agg cs vs hl hv ih=>
  simp only[cl] at hc
  exact .agg cs vs hl fun j hj=>ih j hj (clL_mem hc _ (getD_mem hj)) fun h=>noVL_mem (by simpa [noV] using hn h) _ (getD_mem hj)
 | tup cs vs hl hv ih=>
  simp only[cl] at hc
  exact .tup cs vs hl fun j hj=>ih j hj (clL_mem hc _ (getD_mem hj)) fun h=>noVL_mem (by simpa [noV] using hn h) _ (getD_mem hj)
 | fn f cs vs hl hv ih=>
  simp only[cl] at hc
  exact .fn f cs vs hl fun j hj=>ih j hj (clL_mem hc _ (getD_mem hj)) fun h=>noVL_mem (by simpa [noV] using hn h) _ (getD_mem hj)
theorem V_cl {x:AV} {v:Value} (h:V w g x v) (hc:cl x=true) (hwr:∀ b off,g2.wr b off→g.wr b off) (hbx:∀ b,g2.box b→g.box b):V w g2 x v:=
 V_cl' (nv:=false) h hc (fun h=>by cases h) (fun b off h=>.inl (hwr b off h)) hbx
theorem mapF_facts (f:AV→Option (AV×List Nat)):∀ (cs rs:List AV) (l:List Nat),mapF f cs=some (rs,l)→rs.length=cs.length∧(∀ j,j<cs.length→∃ lj,f (cs.getD j .any)=some (rs.getD j .any,lj)∧∀ nm∈lj,nm∈l)∧∀ nm∈l,∃ j lj,j<cs.length∧f (cs.getD j .any)=some (rs.getD j .any,lj)∧nm∈lj
 | [],rs,l,h=>by simp[mapF] at h;obtain ⟨rfl,rfl⟩:=h;simp
 | c::cs,rs,l,h=>by
  simp only[mapF,Option.bind_eq_some_iff,Option.map_eq_some_iff,Prod.mk.injEq] at h
  obtain ⟨⟨r,l1⟩,h1,⟨rs',l2⟩,h2,rfl,rfl⟩:=h
  obtain ⟨k1,k2,k3⟩:=mapF_facts f cs rs' l2 h2
  refine ⟨by simp[k1],fun j hj=>?_,fun nm hnm=>?_⟩
  ·cases j with
   | zero=>exact ⟨l1,by simpa using h1,fun nm hn=>List.mem_append.2 (.inl hn)⟩
   | succ j=>
    obtain ⟨lj,a1,a2⟩:=k2 j (by simpa using hj)
    exact ⟨lj,by simpa using a1,fun nm hn=>List.mem_append.2 (.inr (a2 nm hn))⟩
  ·rcases List.mem_append.1 hnm with hn|hn
   ·exact ⟨0,l1,by simp,by simpa using h1,hn⟩
   ·obtain ⟨j,lj,a1,a2,a3⟩:=k3 nm hn
    exact ⟨j+1,lj,by simpa using a1,by simpa using a2,a3⟩
theorem groupBy_facts (n:Nat) (hn:0<n):∀ (k:Nat) (cs:List AV),cs.length=k*n→(groupBy n k cs).length=k∧(groupBy n k cs).flatten=cs∧∀ x∈groupBy n k cs,x.length=n∧∀ c∈x,c∈cs
 | 0,cs,h=>by
  have:cs=[]:=List.eq_nil_of_length_eq_zero (by simpa using h)
  subst this;simp[groupBy]
 | k+1,cs,h=>by
  rw[Nat.succ_mul] at h
  obtain ⟨h1,h2,h3⟩:=groupBy_facts n hn k (cs.drop n) (by simp;omega)
  refine ⟨by simp[groupBy,h1],by simp[groupBy,h2],fun x hx=>?_⟩
  simp only[groupBy,List.mem_cons] at hx
  rcases hx with rfl|hx
  ·exact ⟨by simp;omega,fun c hc=>List.mem_of_mem_take hc⟩
  ·exact ⟨(h3 x hx).1,fun c hc=>List.mem_of_mem_drop ((h3 x hx).2 c hc)⟩
theorem grp_facts {sh:Sh} {k:Nat} {cs:List AV} (hl:cs.length=k*sh.size) (hpos:0<sh.size) (hat:∀ c∈cs,atomOk c=true) (hpl:∀ c∈cs,pl c=true) :
  (grp sh k cs).length=k∧flat (grp sh k cs)=cs∧∀ e∈grp sh k cs,shOk sh e=true∧pl e=true:=by
 cases sh with
 | none=>
  simp only[Sh.size,Nat.mul_one] at hl
  have ht:cs.take k=cs:=List.take_of_length_le (by omega)
  simp only[grp,ht]
  refine ⟨hl,?_,fun e he=>⟨hat e he,hpl e he⟩⟩
  have hc1:∀ l:List AV,(∀ c∈l,atomOk c=true)→flat l=l:=by
   intro l
   induction l with
   | nil=>intro _;rfl
   | cons c l ih=>
    intro h
    have hc:c.cells=[c]:=by
     have:=h c (by simp)
     cases c<;>first|rfl|(simp[atomOk] at this)
    show c.cells++flat l=c::l
    rw[hc,ih fun x hx=>h x (by simp[hx])];rfl
  exact hc1 cs hat
 | some n=>
  simp only[Sh.size] at hl hpos
  obtain ⟨h1,h2,h3⟩:=groupBy_facts n hpos k cs hl
  have hplL:∀ l:List AV,(∀ c∈l,pl c=true)→plL l=true:=by
   intro l
   induction l with
   | nil=>intro _;rfl
   | cons c l ih=>intro h;simp only[plL,Bool.and_eq_true];exact ⟨h c (by simp),ih fun x hx=>h x (by simp[hx])⟩
  refine ⟨by simp[grp,h1],?_,fun e he=>?_⟩
  ·have hfl:∀ L:List (List AV),flat (L.map .agg)=L.flatten:=by
    intro L
    induction L with
    | nil=>rfl
    | cons x L ih=>
     show (AV.agg x).cells++flat (L.map .agg)=x++L.flatten
     rw[ih];rfl
   show flat ((groupBy n k cs).map .agg)=cs
   rw[hfl,h2]
  ·obtain ⟨x,hx,rfl⟩:=List.mem_map.1 he
   obtain ⟨a1,a2⟩:=h3 x hx
   refine ⟨?_,?_⟩
   ·simp only[shOk,Bool.and_eq_true,beq_iff_eq,List.all_eq_true]
    exact ⟨a1,fun c hc=>hat c (a2 c hc)⟩
   ·simp only[pl];exact hplL x fun c hc=>hpl c (a2 c hc)
variable {B:Nat} {m:Mem}
theorem frz_sound (hm:MemR B w g m):∀ (k:Nat) (x x':AV) (l:List Nat) (v:Value),V w g x v→frz m k x=some (x',l) →
  (∀ nm∈l,∃ cs,m.get nm=some (.obj false cs))∧cl x'=true ∧
  ∀ g2:G,(∀ b off,g2.wr b off→g.wr b off)→(∀ b,g2.box b→g.box b)→(∀ nm∈l,∀ b,g.loc nm=some b→∀ off,¬ g2.wr b off)→(noV x'=true∨∀ nm cs b,m.get nm=some (.obj true cs)→g.loc nm=some b→∀ off,¬ g2.wr b off)→V w g2 x' v:=by
 intro k
 induction k with
 | zero=>intro x x' l v _ h;simp[frz] at h
 | succ k ih=>
  intro x x' l v hV h
  have hlist:∀ (cs rs:List AV) (l:List Nat) (f:Nat→Value),(∀ j,j<cs.length→V w g (cs.getD j .any) (f j))→mapF (frz m k) cs=some (rs,l) →
    (∀ nm∈l,∃ cs,m.get nm=some (.obj false cs))∧clL rs=true∧rs.length=cs.length ∧
    ∀ g2:G,(∀ b off,g2.wr b off→g.wr b off)→(∀ b,g2.box b→g.box b)→(∀ nm∈l,∀ b,g.loc nm=some b→∀ off,¬ g2.wr b off)→(noVL rs=true∨∀ nm cs b,m.get nm=some (.obj true cs)→g.loc nm=some b→∀ off,¬ g2.wr b off)→∀ j,j<rs.length→V w g2 (rs.getD j .any) (f j):=by
   intro cs rs l f hv hmap
   obtain ⟨k1,k2,k3⟩:=mapF_facts _ _ _ _ hmap
   refine ⟨fun nm hn=>?_,clL_of fun x hx=>?_,k1,fun g2 c1 c2 c3 c4 j hj=>?_⟩
   ·obtain ⟨j,lj,a1,a2,a3⟩:=k3 nm hn
    exact (ih _ _ _ _ (hv j a1) a2).1 nm a3
   ·obtain ⟨j,hj,rfl⟩:=List.mem_iff_getElem.1 hx
    obtain ⟨lj,a1,_⟩:=k2 j (by omega)
    have:=(ih _ _ _ _ (hv j (by omega)) a1).2.1
    simpa [List.getD_eq_getElem?_getD,hj] using this
   ·obtain ⟨lj,a1,a2⟩:=k2 j (by omega)
    refine (ih _ _ _ _ (hv j (by omega)) a1).2.2 g2 c1 c2 (fun nm hn=>c3 nm (a2 nm hn)) (c4.imp (fun h=>?_) id)
    exact noVL_mem h _ (getD_mem hj)
  cases hV with
  | any=>simp[frz] at h;obtain ⟨rfl,rfl⟩:=h;exact ⟨by simp,rfl,fun _ _ _ _ _=>.any _⟩
  | int=>simp[frz] at h;obtain ⟨rfl,rfl⟩:=h;exact ⟨by simp,rfl,fun _ _ _ _ _=>.int _ _⟩
  | bool=>simp[frz] at h;obtain ⟨rfl,rfl⟩:=h;exact ⟨by simp,rfl,fun _ _ _ _ _=>.bool _⟩
  | str=>simp[frz] at h;obtain ⟨rfl,rfl⟩:=h;exact ⟨by simp,rfl,fun _ _ _ _ _=>.str _⟩
  | nilp=>simp[frz] at h;obtain ⟨rfl,rfl⟩:=h;exact ⟨by simp,rfl,fun _ _ _ _ _=>.nilp⟩
  | nilf=>simp[frz] at h;obtain ⟨rfl,rfl⟩:=h;exact ⟨by simp,rfl,fun _ _ _ _ _=>.nilf⟩
  | nile=>simp[frz] at h;obtain ⟨rfl,rfl⟩:=h;exact ⟨by simp,rfl,fun _ _ _ _ _=>.nile⟩
  | nilm=>simp[frz] at h;obtain ⟨rfl,rfl⟩:=h;exact ⟨by simp,rfl,fun _ _ _ _ _=>.nilm⟩
  | vec=>simp[frz] at h
  | mref=>simp[frz] at h;obtain ⟨rfl,rfl⟩:=h;exact ⟨by simp,rfl,fun _ _ _ _ _=>.any _⟩
  | nils sh o ho=>
   rcases ho with rfl|rfl<;>(simp[frz] at h;obtain ⟨rfl,rfl⟩:=h;exact ⟨by simp,rfl,fun _ _ _ _ _=>.nils _ _ (by simp)⟩)
  | lst sh o es a cap us hs hc hmx hsh hcell hv ho=>
   have hno:V w g (.lst sh false .no es) (.slice (some a) es.length cap):=.lst sh .no es a cap us hs hc hmx hsh hcell hv trivial
   have hV':V w g (.lst sh false o es) (.slice (some a) es.length cap):=.lst sh o es a cap us hs hc hmx hsh hcell hv ho
   cases o with
   | no=>simp[frz] at h;obtain ⟨rfl,rfl⟩:=h;exact ⟨by simp,rfl,fun g2 c1 c2 _ _=>V_cl hV' rfl c1 c2⟩
   | full=>simp[frz] at h;obtain ⟨rfl,rfl⟩:=h;exact ⟨by simp,rfl,fun g2 c1 c2 _ _=>V_cl hV' rfl c1 c2⟩
   | tok=>simp[frz] at h;obtain ⟨rfl,rfl⟩:=h;exact ⟨by simp,rfl,fun g2 c1 c2 _ _=>V_cl hno rfl c1 c2⟩
  | arr nm off n sh a cap hs hc hmx hl=>
   simp only[frz,Option.bind_eq_some_iff] at h
   obtain ⟨⟨bx,cs⟩,hobj,h⟩:=h
   simp only at h
   split at h
   ·rename_i hcond
    simp only[Bool.and_eq_true,Bool.not_eq_true',decide_eq_true_eq] at hcond
    obtain ⟨rfl,hle⟩:=hcond
    simp only[Option.bind_eq_some_iff] at h
    obtain ⟨⟨rs,l1⟩,hmap,h⟩:=h
    simp only at h
    split at h
    ·rename_i hok
     simp only[Bool.and_eq_true,List.all_eq_true] at hok
     obtain ⟨hat,hpl⟩:=hok
     simp only[Option.some.injEq,Prod.mk.injEq] at h
     obtain ⟨rfl,rfl⟩:=h
     have hget:=obj?_get hobj
     obtain ⟨b,c,e,o1,o2,o3,o4,o5,o6,o7⟩:=hm.obj nm false cs hget
     obtain ⟨p1,p2,p3,p4⟩:=hlist ((cs.drop off).take (n*sh.size)) rs l1 (fun j=>c.getD (off+j) undef) (fun j hj=>by
      simp only[List.length_take,List.length_drop] at hj
      have:=o5 (off+j) (by omega)
      simpa [List.getD_eq_getElem?_getD,List.getElem?_take,List.getElem?_drop,show j<n*sh.size by omega] using this) hmap
     have hrl:rs.length=n*sh.size:=by rw[p3];simp;omega
     refine ⟨fun x hx=>?_,rfl,fun g2 c1 c2 c3 c4=>?_⟩
     ·rcases List.mem_cons.1 hx with rfl|hx
      ·exact ⟨cs,hget⟩
      ·exact p1 x hx
     ·have hrs:∀ c∈rs,pl c=true:=plL_mem hpl
      by_cases hn0:n=0
      ·subst hn0
       have hg0:grp sh 0 rs=[]:=by cases sh<;>simp[grp,groupBy]
       rw[hg0]
       exact .lst sh .no [] a cap (fun _=>undef) hs (Nat.zero_le _) hmx (by simp) (by simp) (by simp) trivial
      ·obtain ⟨hl1,ha⟩:=hl.resolve_left hn0
       obtain rfl:a.block=b:=by simpa [hl1] using o1
       by_cases hsz:sh.size=0
       ·
        cases sh with
        | none=>simp[Sh.size] at hsz
        | some s=>
         simp only[Sh.size] at hsz
         subst hsz
         have hnil:rs=[]:=List.eq_nil_of_length_eq_zero (by rw[hrl];simp[Sh.size])
         subst hnil
         have hg:∀ n,groupBy 0 n ([]:List AV)=List.replicate n []:=by
          intro n
          induction n with
          | zero=>rfl
          | succ n ih=>simp[groupBy,ih,List.replicate_succ]
         have hes:grp (some 0) n []=List.replicate n (.agg []):=by simp[grp,hg]
         have hlen:n=(grp (some 0) n []).length:=by rw[hes];simp
         have hfl:flat (grp (some 0) n [])=[]:=by
          rw[hes]
          have:∀ n,flat (List.replicate n (.agg []))=[]:=by
           intro n
           induction n with
           | zero=>rfl
           | succ n ih=>
            show (AV.agg []).cells++flat (List.replicate n (.agg []))=[]
            rw[ih];rfl
          exact this n
         have hV:=V.lst (w:=w) (g:=g2) (some 0) .no (grp (some 0) n []) a cap (fun _=>undef) hs (by omega) hmx (fun e he=>by
          rw[hes] at he
          obtain rfl:=List.eq_of_mem_replicate he
          exact ⟨rfl,rfl⟩) (by rw[hfl];simp) (by rw[hfl];simp) trivial
         rw[← hlen] at hV
         exact hV
       ·obtain ⟨q1,q2,q3⟩:=grp_facts hrl (by omega) hat hrs
        have hV:=V.lst (w:=w) (g:=g2) sh .no (grp sh n rs) a cap (fun j=>c.getD (off+j) undef) hs (by omega) hmx q3 (fun j hj=>by
          rw[q2,hrl] at hj
          have haoff:a.off=off:=by rw[ha.1]
          refine ⟨?_,c3 nm (by simp) _ hl1 _,fun hb=>?_⟩
          ·rw[haoff,cell_of_row w _ _ c e (0,0) o3]
           simp[Array.getD,show off+j<c.size by omega]
          ·have:=o7.1 (c2 _ hb)
           cases this) (fun j hj=>by
          rw[q2] at hj ⊢
          refine p4 g2 c1 c2 (fun x hx=>c3 x (by simp[hx])) (.inl ?_) j hj
          exact plL_noVL rs hpl) trivial
        rw[q1] at hV
        exact hV
    ·cases h
   ·cases h
  | ptr nm off b hl=>
   simp only[frz,Option.bind_eq_some_iff] at h
   obtain ⟨⟨bx,cs⟩,hobj,h⟩:=h
   simp only at h
   split at h
   ·rename_i hbx
    simp only[Option.map_eq_some_iff,Prod.mk.injEq] at h
    obtain ⟨⟨rs,l1⟩,hmap,rfl,rfl⟩:=h
    have hget:=obj?_get hobj
    obtain ⟨b',c,e,o1,o2,o3,o4,o5,o6,o7⟩:=hm.obj nm bx cs hget
    obtain rfl:b=b':=by simpa [hl] using o1
    obtain ⟨p1,p2,p3,p4⟩:=hlist (cs.drop off) rs l1 (fun j=>c.getD (off+j) undef) (fun j hj=>by
     simp only[List.length_drop] at hj
     have:=o5 (off+j) (by omega)
     simpa [List.getD_eq_getElem?_getD,List.getElem?_drop] using this) hmap
    refine ⟨p1,by simpa [cl] using p2,fun g2 c1 c2 c3 c4=>?_⟩
    have c4':=c4.resolve_left (by simp[noV])
    refine .vptr rs b off (fun j=>c.getD (off+j) undef) (fun j hj=>?_) (p4 g2 c1 c2 c3 (.inr c4'))
    rw[p3] at hj
    simp only[List.length_drop] at hj
    refine ⟨?_,c4' nm cs _ (hbx▸hget) hl _⟩
    rw[cell_of_row w _ _ c e (0,0) o3]
    simp[Array.getD,show off+j<c.size by omega]
   ·cases h
  | vptr cs b off us hcell hv=>
   simp only[frz,Option.map_eq_some_iff,Prod.mk.injEq] at h
   obtain ⟨⟨rs,l1⟩,hmap,rfl,rfl⟩:=h
   obtain ⟨p1,p2,p3,p4⟩:=hlist cs rs l1 us hv hmap
   refine ⟨p1,by simpa [cl] using p2,fun g2 c1 c2 c3 c4=>?_⟩
   refine .vptr rs b off us (fun j hj=>?_) (p4 g2 c1 c2 c3 (.inr (c4.resolve_left (by simp[noV]))))
   rw[p3] at hj
   exact ⟨(hcell j hj).1,fun h=>(hcell j hj).2 (c1 _ _ h)⟩
  | agg cs vs hl hv=>
   simp only[frz,Option.map_eq_some_iff,Prod.mk.injEq] at h
   obtain ⟨⟨rs,l1⟩,hmap,rfl,rfl⟩:=h
   obtain ⟨p1,p2,p3,p4⟩:=hlist cs rs l1 _ hv hmap
   exact ⟨p1,by simpa [cl] using p2,fun g2 c1 c2 c3 c4=>.agg _ _ (p3.trans hl) (p4 g2 c1 c2 c3 (c4.imp (fun h=>by simpa [noV] using h) id))⟩
  | tup cs vs hl hv=>
   simp only[frz,Option.map_eq_some_iff,Prod.mk.injEq] at h
   obtain ⟨⟨rs,l1⟩,hmap,rfl,rfl⟩:=h
   obtain ⟨p1,p2,p3,p4⟩:=hlist cs rs l1 _ hv hmap
   exact ⟨p1,by simpa [cl] using p2,fun g2 c1 c2 c3 c4=>.tup _ _ (p3.trans hl) (p4 g2 c1 c2 c3 (c4.imp (fun h=>by simpa [noV] using h) id))⟩
  | fn f cs vs hl hv=>
   simp only[frz,Option.map_eq_some_iff,Prod.mk.injEq] at h
   obtain ⟨⟨rs,l1⟩,hmap,rfl,rfl⟩:=h
   obtain ⟨p1,p2,p3,p4⟩:=hlist cs rs l1 _ hv hmap
   exact ⟨p1,by simpa [cl] using p2,fun g2 c1 c2 c3 c4=>.fn _ _ _ (p3.trans hl) (p4 g2 c1 c2 c3 (c4.imp (fun h=>by simpa [noV] using h) id))⟩
end
end Go.Ab
set_option linter.unusedVariables false
set_option linter.unusedSimpArgs false
set_option linter.unusedSectionVars false
namespace Go.Ab
open Go.RowKit
def CallOk [WInv] (P:Program) (f:Nat) (args:List AV) (m:Mem) (v:AV) (m':Mem):Prop:=
 ∀ (B:Nat) (w:World) (g:G) (vs:Array Value),MemR B w g m→B≤w.heap.size→args.length=vs.size→(∀ j,j<args.length→V w g (args.getD j .any) (vs.getD j undef)) →
  Calls P f vs w fun e w'=>∃ v' g',e=.returned v'∧Step B w g w' g'∧MemR B w' g' m'∧V w' g' v v'
def BenD (P:Program) (d:Deferred):Prop:=∃ fv cap f args,d.target=.fn fv cap∧∀ w,(invoke d.target d.args).run P w=.ok (.enter f args) w∧CallsD P f args .returning w fun e u w'=>(∃ v,e=.returned v)∧u=.returning∧w'=w
def Bens (P:Program) (ds:List Deferred):Prop:=∀ d∈ds,BenD P d
def DOk (P:Program) (a' a:Act):Prop:=Bens P a.defers→Bens P a'.defers
theorem DOk.refl (P:Program) (a:Act):DOk P a a:=fun h=>h
theorem DOk.trans {P:Program} {a b c:Act} (h:DOk P c b) (k:DOk P b a):DOk P c a:=fun x=>h (k x)
theorem DOk.of_eq {P:Program} {a b:Act} (h:b.defers=a.defers):DOk P b a:=fun x=>by rw[h];exact x
theorem leaves_ben {P:Program} {fn:Func} {tmps:Array Value} {R:Ending→World→Prop} {w:World} (h:∃ v,(results fn tmps).run P w=.ok v w∧R (.returned v) w):∀ ds:List Deferred,Bens P ds→Leaves P fn tmps R ds .returning w
 | [],_=>h
 | d::ds,hb=>by
  obtain ⟨fv,cap,f,args,h1,h2⟩:=hb d List.mem_cons_self
  obtain ⟨h3,h4⟩:=h2 w
  refine ⟨by simp,fv,cap,f,args,h1,h3,fun c cs hc=>?_⟩
  obtain ⟨e,u',w',fr,⟨⟨v,rfl⟩,rfl,rfl⟩,h5⟩:=h4 c cs hc
  exact ⟨_,_,_,fr,leaves_ben h ds fun d hd=>hb d (List.mem_cons_of_mem _ hd),h5⟩
structure CfgOk [WInv] (C:Cfg):Prop where
 ben:∀ (g:Nat),C.ben g=true→∀ caps:Array Value,BenD C.P { target:=.fn (.func g) caps,args:=#[] }
 name:∀ (g:Nat) (fn:Func),C.P.funcs[g]?=some fn→(fn.name == "runtime.NumGoroutine")=false
 lib:∀ (g:Nat) h,C.lib g=some h→(∃ fn,C.P.funcs[g]?=some fn∧fn.body.isSome)∧∀ vs v,h vs=some v→∀ m,CallOk C.P g vs m v m
 libm:∀ (g:Nat) h,C.libm g=some h→(∃ fn,C.P.funcs[g]?=some fn∧fn.body.isSome)∧∀ vs m v m',h vs m=some (v,m')→CallOk C.P g vs m v m'
section
variable [WInv] {C:Cfg} {B:Nat} {w:World} {g:G} {m:Mem}
theorem TmpR.put {ts:List AV} {a:Act} (h:TmpR w g ts a.tmps) {v:AV} {v':Value} (hv:V w g v v') (d:Option Nat):TmpR w g (setD ts d v) (a.put d v').tmps:=by
 cases d with
 | none=>exact h
 | some d=>
  refine ⟨by simp[setD,Act.put,h.1],fun t=>?_⟩
  simp only[setD,Act.put,List.getD_eq_getElem?_getD,Array.getD_eq_getD_getElem?,List.getElem?_set,Array.getElem?_setIfInBounds]
  by_cases he:d=t
  ·subst he
   by_cases hl:d<ts.length
   ·have hl':d<a.tmps.size:=by have:=h.1;omega
    simp only[if_pos hl,if_pos hl',if_true,Option.getD_some];exact hv
   ·have hl':¬ d<a.tmps.size:=by have:=h.1;omega
    simp only[if_neg hl,if_neg hl',if_true,Option.getD_none];exact .any _
  ·simp only[if_neg he]
   simpa [List.getD_eq_getElem?_getD,Array.getD_eq_getD_getElem?] using h.2 t
theorem put_defers (a:Act) (d:Option Nat) (v:Value):(a.put d v).defers=a.defers:=by cases d<;>rfl
theorem ev_V {ts:List AV} {a:Act} (h:TmpR w g ts a.tmps) (x:Operand):V w g (ev ts x) (a.eval x):=by
 cases x with
 | tmp t=>exact h.2 t
 | const v=>exact V_val w g v
 | global _=>exact .any _
 | func f=>exact .fn f [] #[] rfl (by simp)
theorem wp_of_done {P:Program} {o:Oper} {a:Act} {next:Act→World→Prop} {Q:Exit→Act→World→Prop} {v:AV} {m':Mem} {s:Sem Value} (hs:∀ w,(execOp a.eval o).run P w=(do pure (.value (← s)):Sem Next).run P w) (h:Done P B w g s v m')
  (hn:∀ v' w' g',Step B w g w' g'→MemR B w' g' m'→V w' g' v v'→next (a.put o.dst v') w'):o.wp P a w next Q:=by
 obtain ⟨v',w',g',h1,h2,h3,h4⟩:=h
 unfold Oper.wp
 rw[hs]
 simp only[Sem.run_bind,h1,Result.andThen_ok,Sem.run_pure]
 exact hn v' w' g' h2 h3 h4
theorem wp_of_call {P:Program} {o:Oper} {a:Act} {next:Act→World→Prop} {Q:Exit→Act→World→Prop} {c:Call} {fo:Operand} (ho:o.op=.call c) (hc:c.callee=.value fo) {f:Nat} {caps:Array Value} (hf:a.eval fo=.func (.func f) #[] caps)
  {fn:Func} (hfn:P.funcs[f]?=some fn) (hname:(fn.name == "runtime.NumGoroutine")=false) (hbody:fn.body.isSome) {R:Ending→World→Prop} (h:Calls P f (c.args.map a.eval++caps) w R)
  (hR:∀ e w',R e w'→∃ v',e=.returned v'∧next (a.put o.dst v') w'):o.wp P a w next Q:=by
 have hrun:(execOp a.eval o).run P w=.ok (.enter f (c.args.map a.eval++caps)) w:=by
  have hb:fn.body.isNone=false:=by cases hb:fn.body<;>simp_all
  simp only[execOp,ho,resolve,hc,hf,Deferred.ofValue,invoke,callFunc,hfn,hname,hb,Sem.run_bind,Sem.run_pure,run_program,Result.andThen_ok,Bool.false_eq_true,if_false,Array.empty_append]
 unfold Oper.wp
 rw[hrun,Oper.upon_enter]
 refine h.mono fun e w' hr=>?_
 obtain ⟨v',rfl,hn⟩:=hR e w' hr
 exact hn
def callG (g:G) (m:Mem) (l:List Nat) (ex:Bool):G where
 wr b off:=g.wr b off∧(¬ ∃ nm∈l,g.loc nm=some b)∧(ex=true→¬ ∃ nm cs,m.get nm=some (.obj true cs)∧g.loc nm=some b)
 box:=g.box
 loc _:=none
 tloc _ _:=none
def backG (g:G) (l:List Nat) (bx:Nat→Prop):G where
 wr b off:=g.wr b off∧¬ ∃ nm∈l,g.loc nm=some b
 box:=bx
 loc:=g.loc
 tloc:=g.tloc
theorem get_kill:∀ (l:List Nat) (m:Mem) (nm:Nat),Mem.get (kill m l) nm=if nm∈l then none else m.get nm
 | [],m,nm=>by simp[kill]
 | x::l,m,nm=>by
  have:=get_kill l (m.set x none) nm
  show Mem.get (kill (m.set x none) l) nm=_
  rw[this,get_set]
  by_cases h1:nm∈l
  ·simp[h1]
  ·by_cases h2:nm=x
   ·subst h2;simp
   ·simp[h1,h2]
theorem length_kill:∀ (l:List Nat) (m:Mem),(kill m l).length=m.length
 | [],m=>rfl
 | x::l,m=>by
  show (kill (m.set x none) l).length=_
  rw[length_kill l];simp
theorem adopt (hm:MemR B w g m) (hB:B≤w.heap.size) {w':World} {gb:G} {mk:Mem} (hst:Step B w g w' gb) (hmk:MemR B w' gb mk) (hlen:mk.length=m.length) (hgl:gb.loc=g.loc) (hgt:gb.tloc=g.tloc) (hsub:∀ nm e,mk.get nm=some e→m.get nm=some e)
  (hblk:∀ b,b<w.heap.size→w'.heap[b]?=w.heap[b]?) {b:Nat} {c:Array Value} {e:TypeId} {cs:List AV} (hb:w.heap.size≤b) (hheap:w'.heap[b]?=some (Obj.cells c e (0,0))) (hcs:cs.length≤c.size) (hbox:¬ gb.box b)
  (hV:∀ j,j<cs.length→V w' (newG gb m.length b false) (cs.getD j .any) (c.getD j undef)) :
  Step B w g w' (newG gb m.length b false)∧MemR B w' (newG gb m.length b false) (mk++[some (.obj false cs)]):=by
 have hfr:=hm.fresh m.length (Nat.le_refl _)
 have s:Step B w g w' (newG gb m.length b false):=by
  refine ⟨hst.below,hst.cell,hst.shape,fun b' off hb' hn h=>?_,fun b' off hb'=>?_,fun b' hb'=>?_,fun nm b' h=>?_,fun nm n b' h=>hst.tloc nm n b' h,hst.others⟩
  ·rcases h with h|h
   ·omega
   ·exact hst.wr b' off hb' hn h
  ·constructor
   ·rintro (h|h)
    ·omega
    ·exact (hst.wrB b' off hb').1 h
   ·exact fun h=>.inr ((hst.wrB b' off hb').2 h)
  ·simp only[newG,Bool.false_eq_true,false_and,false_or]
   exact hst.box b' hb'
  ·simp only[newG]
   split
   ·rename_i he;rw[he,hfr.1] at h;cases h
   ·exact hst.loc nm b' h
 have hget:∀ x,Mem.get (mk++[some (.obj false cs)]) x=if x<m.length then mk.get x else if x=m.length then some (.obj false cs) else none:=by
  intro x
  unfold Mem.get
  rw[List.getElem?_append,hlen]
  by_cases h1:x<m.length
  ·rw[if_pos h1,if_pos h1]
  ·rw[if_neg h1,if_neg h1]
   by_cases h2:x=m.length
   ·rw[if_pos h2,h2,Nat.sub_self];rfl
   ·rw[if_neg h2,List.getElem?_eq_none (by simp;omega)];rfl
 have hblk2:∀ x b',blk (newG gb m.length b false) (mk++[some (.obj false cs)]) x=some b'→(x<m.length∧blk gb mk x=some b'∧b'<w.heap.size)∨(x=m.length∧b'=b):=by
  intro x b' hb'
  rcases blk_some hb' with ⟨bx',cs',h1,h2⟩|⟨n',sz',h1,h2⟩|⟨kk,es,h1,h2⟩
  rotate_left 2
  ·rw[hget] at h1
   split at h1
   ·rename_i hlt
    simp only[newG,if_neg (Nat.ne_of_lt hlt)] at h2
    refine .inl ⟨hlt,by simp[blk,h1,h2],?_⟩
    obtain ⟨b0,es0,cl0,o1,o2,o3,_⟩:=hm.mp x kk es (hsub _ _ h1)
    rw[hgl] at h2
    obtain rfl:b'=b0:=by simpa [h2] using o1
    exact (Array.getElem?_eq_some_iff.1 o3).1
   ·split at h1<;>cases h1
  ·rw[hget] at h1
   split at h1
   ·rename_i hlt
    simp only[newG,if_neg (Nat.ne_of_lt hlt)] at h2
    refine .inl ⟨hlt,by simp[blk,h1,h2],?_⟩
    obtain ⟨b0,c0,e0,o1,o2,o3,_⟩:=hm.obj x bx' cs' (hsub _ _ h1)
    rw[hgl] at h2
    obtain rfl:b'=b0:=by simpa [h2] using o1
    exact (Array.getElem?_eq_some_iff.1 o3).1
   ·split at h1
    ·rename_i he
     simp only[newG,if_pos he] at h2
     exact .inr ⟨he,by simpa using h2.symm⟩
    ·cases h1
  ·rw[hget] at h1
   split at h1
   ·rename_i hlt
    refine .inl ⟨hlt,?_,?_⟩
    ·simp only[newG] at h2
     simp[blk,h1,h2]
    ·obtain ⟨b0,c0,e0,o1,o2,o3,_⟩:=hm.tok x n' sz' (hsub _ _ h1)
     simp only[newG] at h2
     rw[hgt] at h2
     obtain rfl:b'=b0:=by simpa [h2] using o1
     exact (Array.getElem?_eq_some_iff.1 o3).1
   ·split at h1<;>cases h1
 refine ⟨s,?_,?_,?_,?_,?_,?_,?_,?_,?mp⟩
 case mp=>
  intro x kk es hn
  rw[hget] at hn
  split at hn
  ·rename_i hlt
   obtain ⟨b1,es1,cl1,h1,h2,h3,h4⟩:=hm.mp x kk es (hsub _ _ hn)
   exact ⟨b1,es1,cl1,by simp only[newG];rw[if_neg (Nat.ne_of_lt hlt),hgl];exact h1,h2,(hblk b1 (Array.getElem?_eq_some_iff.1 h3).1).trans h3,h4.step s⟩
  ·split at hn<;>cases hn
 ·intro x bx' cs' hn
  rw[hget] at hn
  split at hn
  ·rename_i hlt
   obtain ⟨b1,c1,e1,h1,h2,h3,h4,h5,h6,h7⟩:=hm.obj x bx' cs' (hsub _ _ hn)
   obtain ⟨b2,c2,e2,k1,k2,k3,k4,k5,k6,k7⟩:=hmk.obj x bx' cs' hn
   rw[hgl] at k1
   obtain rfl:b1=b2:=by simpa [h1] using k1
   have hl1:=(Array.getElem?_eq_some_iff.1 h3).1
   refine ⟨b1,c1,e1,s.loc _ _ h1,h2,(hblk b1 hl1).trans h3,h4,fun j hj=>(h5 j hj).step s,fun off=>.inr (k6 off),?_⟩
   simp only[newG,Bool.false_eq_true,false_and,false_or]
   exact k7
  ·split at hn
   ·rename_i he
    simp only[Option.some.injEq,Ent.obj.injEq] at hn
    obtain ⟨rfl,rfl⟩:=hn
    refine ⟨b,c,e,by simp[newG,he],by omega,hheap,hcs,hV,fun off=>.inl rfl,?_⟩
    simp only[newG,Bool.false_eq_true,false_and,false_or,iff_false]
    exact hbox
   ·cases hn
 ·intro x n sz hn
  rw[hget] at hn
  split at hn
  ·obtain ⟨b1,c1,e1,h1,h2,h3,h4,h5,h6⟩:=hmk.tok x n sz hn
   refine ⟨b1,c1,e1,h1,h2,h3,fun off ho=>.inr (h4 off ho),h5,?_⟩
   simp only[newG,Bool.false_eq_true,false_and,false_or]
   exact h6
  ·split at hn<;>cases hn
 ·intro x hn
  rw[hget] at hn
  split at hn
  ·rename_i hlt
   have:=hmk.resv x hn
   exact ⟨by simp only[newG];rw[if_neg (Nat.ne_of_lt hlt)];exact this.1,this.2⟩
  ·split at hn<;>cases hn
 ·intro x hn
  rw[List.length_append,hlen] at hn
  have:=hmk.fresh x (by rw[hlen];simp at hn;omega)
  exact ⟨by simp only[newG];rw[if_neg (by simp at hn;omega)];exact this.1,this.2⟩
 ·intro x x' b' h1 h2
  rcases hblk2 _ _ h1 with ⟨a1,a2,a3⟩|⟨a1,a2⟩<;>rcases hblk2 _ _ h2 with ⟨b1,b2,b3⟩|⟨b1,b2⟩
  ·exact hmk.inj _ _ _ a2 b2
  ·omega
  ·omega
  ·omega
 ·rintro b' off (rfl|hw)
  ·exact (Array.getElem?_eq_some_iff.1 hheap).1
  ·exact hmk.wrLt b' off hw
 ·exact hmk.inv
 ·intro b' hw
  simp only[newG,Bool.false_eq_true,false_and,false_or] at hw
  exact hmk.boxLt b' hw
theorem rowC_V {w':World} {g' g2:G} {x:AV} {u:Value} (hx:rowC x=true) (h:V w' g' x u)
  (hne:∀ bl off,¬ g'.wr bl off→¬ g'.box bl→(∃ k n,w'.cell? ⟨bl,off,none⟩=some (.int k n))→¬ g2.wr bl off) (hbx:∀ bl,g2.box bl→g'.box bl):V w' g2 x u:=by
 cases h with
 | bool b=>exact .bool b
 | nils sh o ho=>exact .nils sh o ho
 | lst sh o es a cap us hs hc hm hsh hcell hv ho=>
  cases sh with
  | some n=>simp[rowC] at hx
  | none=>
  have hno:(es.all isIntA=true)∧∀ nm e,o≠.tok nm e:=by
   cases o with
   | no=>exact ⟨hx,fun _ _ h=>by cases h⟩
   | full=>exact ⟨hx,fun _ _ h=>by cases h⟩
   | tok nm e=>simp[rowC] at hx
  have hint:∀ e∈es,∃ k n,e=.int k n:=by
   intro e he
   have:=List.all_eq_true.1 hno.1 e he
   cases e<;>simp[isIntA] at this
   exact ⟨_,_,rfl⟩
  have hflat:∀ ds:List AV,(∀ e∈ds,∃ k n,e=.int k n)→flat ds=ds:=by
   intro ds
   induction ds with
   | nil=>intro _;rfl
   | cons e ds ih=>
    intro hi
    obtain ⟨k,n,rfl⟩:=hi e (by simp)
    show _::flat ds=_
    rw[ih (fun e he=>hi e (by simp[he]))]
  have hvi:∀ j,j<(flat es).length→∃ k n,(flat es).getD j .any=.int k n∧us j=.int k n:=by
   intro j hj
   have h1:=hv j hj
   obtain ⟨k,n,he⟩:=hint ((flat es).getD j .any) (by rw[hflat es hint] at hj ⊢;exact getD_mem hj)
   rw[he] at h1
   generalize us j=u at h1
   cases h1
   exact ⟨k,n,he,rfl⟩
  refine .lst _ _ es a cap us hs hc hm hsh (fun j hj=>?_) (fun j hj=>?_) ?_
  ·obtain ⟨c1,c2,c3⟩:=hcell j hj
   obtain ⟨k,n,_,hu⟩:=hvi j hj
   exact ⟨c1,hne _ _ c2 c3 ⟨k,n,by rw[c1,hu]⟩,fun hb=>c3 (hbx _ hb)⟩
  ·obtain ⟨k,n,he,hu⟩:=hvi j hj
   rw[he,hu]
   exact .int k n
  ·cases o with
   | no=>trivial
   | full=>exact ho
   | tok nm e=>exact absurd rfl (hno.2 nm e)
 | any=>simp[rowC] at hx
 | int=>simp[rowC] at hx
 | str=>simp[rowC] at hx
 | arr=>simp[rowC] at hx
 | ptr=>simp[rowC] at hx
 | mref=>simp[rowC] at hx
 | vec=>simp[rowC] at hx
 | vptr=>simp[rowC] at hx
 | nilp=>simp[rowC] at hx
 | nilf=>simp[rowC] at hx
 | nile=>simp[rowC] at hx
 | nilm=>simp[rowC] at hx
 | agg=>simp[rowC] at hx
 | tup=>simp[rowC] at hx
 | fn=>simp[rowC] at hx
theorem thawCall_sound (hm:MemR B w g m) (hB:B≤w.heap.size) {P:Program} {f:Nat} {call:Nat→List AV→Mem→OM} (hcall:∀ args m v m',call f args m=some (v,m')→CallOk P f args m v m') {args rs:List AV} {l:List Nat} {vs:Array Value}
  (hl:args.length=vs.size) (hv:∀ j,j<args.length→V w g (args.getD j .any) (vs.getD j undef)) (hf:mapF (frz m fuelF) args=some (rs,l)) {v0 r:AV} {m0 mr:Mem} (hc:call f rs []=some (v0,m0)) (hth:thawA m.length m0 v0=some (r,mr)) :
  Calls P f vs w fun e w'=>∃ v' g',e=.returned v'∧Step B w g w' g'∧MemR B w' g' (kill m l++mr)∧V w' g' r v':=by
 obtain ⟨k1,k2,k3⟩:=mapF_facts _ _ _ _ hf
 have hobj:∀ nm∈l,∃ cs,m.get nm=some (.obj false cs):=fun nm hn=>by
  obtain ⟨j,lj,a1,a2,a3⟩:=k3 nm hn
  exact (frz_sound hm fuelF _ _ _ _ (hv j a1) a2).1 nm a3
 have hargs:∀ j,j<rs.length→V w (callG g m l (!noVL rs)) (rs.getD j .any) (vs.getD j undef):=fun j hj=>by
  obtain ⟨lj,a1,a2⟩:=k2 j (by omega)
  refine (frz_sound hm fuelF _ _ _ _ (hv j (by omega)) a1).2.2 _ (fun b off h=>h.1) (fun b h=>h) (fun nm hn b hb off h=>h.2.1 ⟨nm,a2 nm hn,hb⟩) ?_
  by_cases hn:noVL rs=true
  ·exact .inl (noVL_mem hn _ (getD_mem hj))
  ·exact .inr fun nm cs b hget hloc off h=>h.2.2 (by simpa using hn) ⟨nm,cs,hget,hloc⟩
 have hm0:MemR w.heap.size w (callG g m l (!noVL rs)) []:=by
  refine ⟨fun nm bx cs h=>by simp[Mem.get] at h,fun nm n sz h=>by simp[Mem.get] at h,fun nm h=>by simp[Mem.get] at h,fun nm _=>⟨rfl,fun _=>rfl⟩,fun nm nm' b h=>by simp[blk,Mem.get] at h,fun b off h=>hm.wrLt b off h.1,fun w' k=>hm.inv w' (k.mono hB),hm.boxLt,fun nm kk es h=>by simp[Mem.get] at h⟩
 refine (hcall rs [] v0 m0 hc w.heap.size w (callG g m l (!noVL rs)) vs hm0 (Nat.le_refl _) (by omega) hargs).mono ?_
 rintro e w' ⟨v',g',rfl,s,hm',hV⟩
 have hblk:∀ b,b<w.heap.size→w'.heap[b]?=w.heap[b]?:=fun b hb=>s.below.block b hb
 have hcell:∀ b off u,w.cell? ⟨b,off,none⟩=some u→w'.cell? ⟨b,off,none⟩=some u:=fun b off u hc=>(World.cell?_of_block (w:=w) (a:=⟨b,off,none⟩) (hblk b (cell_lt hc))).trans hc
 have hst:Step B w g w' (backG g l g'.box):=by
  refine ⟨s.below.mono hB,fun b off u _ hc=>hcell b off u hc,fun b c e fr hb=>⟨c,(hblk b (Array.getElem?_eq_some_iff.1 hb).1).trans hb,rfl⟩,fun b off _ hn h=>hn h.1,fun b off hb=>?_,fun b hb=>s.box b hb,fun _ _ h=>h,fun _ _ _ h=>h,fun k o hk _ _=>(hblk k (Array.getElem?_eq_some_iff.1 hk).1).trans hk⟩
  constructor
  ·exact fun h=>h.1
  ·intro h
   refine ⟨h,?_⟩
   rintro ⟨nm,hn,hloc⟩
   obtain ⟨cs,hget⟩:=hobj nm hn
   obtain ⟨b',c,e,o1,o2,_⟩:=hm.obj nm false cs hget
   obtain rfl:b=b':=by simpa [hloc] using o1
   omega
 have hmk:MemR B w' (backG g l g'.box) (kill m l):=by
  have hsub:∀ nm b,blk (backG g l g'.box) (kill m l) nm=some b→blk g m nm=some b:=by
   intro nm b hb
   rcases blk_some hb with ⟨bx,cs,h1,h2⟩|⟨n,sz,h1,h2⟩|⟨kk,es,h1,h2⟩
   rotate_left 2
   ·rw[get_kill] at h1
    split at h1
    ·cases h1
    ·have h2':g.loc nm=some b:=h2
     simp[blk,h1,h2']
   ·rw[get_kill] at h1
    split at h1
    ·cases h1
    ·have h2':g.loc nm=some b:=h2
     simp[blk,h1,h2']
   ·rw[get_kill] at h1
    split at h1
    ·cases h1
    ·have h2':g.tloc nm n=some b:=h2
     simp[blk,h1,h2']
  have hnotK:∀ nm b,nm∉l→blk g m nm=some b→¬ ∃ x∈l,g.loc x=some b:=by
   rintro nm b hn hb ⟨x,hx,hloc⟩
   obtain ⟨cs,hget⟩:=hobj x hx
   have:blk g m x=some b:=by simp[blk,hget,hloc]
   exact hn (hm.inj nm x b hb this▸hx)
  refine ⟨fun nm bx cs hget=>?_,fun nm n sz hget=>?_,fun nm hget=>?_,fun nm hn=>hm.fresh nm (by rw[length_kill] at hn;exact hn),fun nm nm' b h1 h2=>hm.inj nm nm' b (hsub _ _ h1) (hsub _ _ h2),fun b off h=>Nat.lt_of_lt_of_le (hm.wrLt b off h.1) s.below.size,hm.invB (s.below.mono hB),hm'.boxLt,fun nm kk es hget=>by
    rw[get_kill] at hget
    split at hget
    ·cases hget
    ·obtain ⟨b,es',cl,o1,o2,o3,o4⟩:=hm.mp nm kk es hget
     exact ⟨b,es',cl,o1,o2,(hblk b (Array.getElem?_eq_some_iff.1 o3).1).trans o3,o4.step hst⟩⟩
  ·rw[get_kill] at hget
   split at hget
   ·cases hget
   ·rename_i hnl
    obtain ⟨b,c,e,o1,o2,o3,o4,o5,o6,o7⟩:=hm.obj nm bx cs hget
    have hlt:=(Array.getElem?_eq_some_iff.1 o3).1
    exact ⟨b,c,e,o1,o2,(hblk b hlt).trans o3,o4,fun j hj=>(o5 j hj).step hst,fun off=>⟨o6 off,hnotK nm b hnl (by simp[blk,hget,o1])⟩,(s.box b hlt).trans o7⟩
  ·rw[get_kill] at hget
   split at hget
   ·cases hget
   ·rename_i hnl
    obtain ⟨b,c,e,o1,o2,o3,o4,o5,o6⟩:=hm.tok nm n sz hget
    have hlt:=(Array.getElem?_eq_some_iff.1 o3).1
    exact ⟨b,c,e,o1,o2,(hblk b hlt).trans o3,fun off ho=>⟨o4 off ho,hnotK nm b hnl (by simp[blk,hget,o1])⟩,o5,fun h=>o6 ((s.box b hlt).1 h)⟩
  ·rw[get_kill] at hget
   split at hget
   ·cases hget
   ·exact hm.resv nm hget
 unfold thawA at hth
 split at hth
 case h_2=>cases hth
 rename_i k a k' b sh z o es
 split at hth
 ·rename_i nm ety
  split at hth
  ·cases hth
  ·rename_i n
   split at hth
   case h_2=>cases hth
   rename_i c0 sz0 hget0
   split at hth
   case isFalse=>cases hth
   rename_i hcond
   obtain ⟨hc0,hs0,hrow⟩:=hcond
   have hs0:=hs0.symm
   subst hc0
   subst hs0
   simp only[Option.some.injEq,Prod.mk.injEq] at hth
   obtain ⟨rfl,rfl⟩:=hth
   cases hV with
   | agg _ vs3 hl3 hv3=>
   have h0:=hv3 0 (by simp)
   have h1:=hv3 1 (by simp)
   have h2:=hv3 2 (by simp)
   simp only[List.getD_cons_zero,List.getD_cons_succ] at h0 h1 h2
   generalize hu0:vs3.getD 0 undef=u0 at h0
   generalize hu1:vs3.getD 1 undef=u1 at h1
   generalize hu2:vs3.getD 2 undef=u2 at h2
   cases h0;cases h1
   cases h2 with
   | nils _ _ ho=>rcases ho with ho|ho<;>cases ho
   | lst _ _ _ ad cap us hs hc hmx hsh hcl hvv ho=>
   obtain ⟨o1,o2,c,o3,o4⟩:=ho
   obtain ⟨b1,c1,e1,t1,t2,t3,t4,t5,t6⟩:=hm'.tok nm es.length n hget0
   obtain rfl:ad.block=b1:=by simpa [o1] using t1
   have hfl:=flat_len (fun e he=>(hsh e he).1:∀ e∈es,shOk (some n) e=true)
   have hcu:∀ j,j<(flat es).length→c.getD j undef=us j:=by
    intro j hj
    have h3:=(hcl j hj).1
    rw[o2,Nat.zero_add,cell_of_row w' ad.block j c ety (0,0) o3] at h3
    rw[Array.getD_eq_getD_getElem?,h3];rfl
   have hnotint:∀ j,j<(flat es).length→∀ k n,us j≠.int k n:=by
    intro j hj k n he
    have h3:=hvv j hj
    have h4:=List.all_eq_true.1 hrow _ (getD_mem hj)
    rw[he] at h3
    generalize (flat es).getD j .any=x at h3 h4
    cases h3<;>simp[rowC] at h4
   have hne:∀ bl off,¬ g'.wr bl off→¬ g'.box bl→(∃ k n,w'.cell? ⟨bl,off,none⟩=some (.int k n))→¬ (newG (backG g l g'.box) m.length ad.block false).wr bl off:=by
    rintro bl off hw hbx ⟨k,n',hcell'⟩ hn
    rcases hn with rfl|hn
    ·by_cases hlt:off<(flat es).length
     ·have h3:=(hcl off hlt).1
      rw[o2,Nat.zero_add] at h3
      rw[h3] at hcell'
      exact hnotint off hlt k n' (by simpa using hcell')
     ·exact hw (t4 off (by rw[hfl] at hlt;simp only[Sh.size] at hlt;omega))
    ·obtain ⟨hn1,hn2⟩:=hn
     have hlt:=hm.wrLt bl off hn1
     refine hw ((s.wrB bl off hlt).2 ⟨hn1,hn2,fun _=>?_⟩)
     rintro ⟨nm2,cs2,hg2,hl2⟩
     obtain ⟨b2,_,_,q1,_,_,_,_,_,q7⟩:=hm.obj nm2 true cs2 hg2
     obtain rfl:bl=b2:=by simpa [hl2] using q1
     exact hbx ((s.box bl hlt).2 (q7.2 rfl))
   obtain ⟨s2,hm2⟩:=adopt hm hB hst hmk (length_kill l m) rfl rfl (fun nm e hg=>by
    rw[get_kill] at hg
    split at hg
    ·cases hg
    ·exact hg) hblk t2 o3 (cs:=flat es) (by rw[hfl,o4];exact Nat.mul_le_mul_right _ hc) t6 (fun j hj=>by
     rw[hcu j hj]
     exact rowC_V (List.all_eq_true.1 hrow _ (getD_mem hj)) (hvv j hj) hne (fun bl h=>by simpa [newG,backG] using h))
   refine ⟨_,_,rfl,s2,hm2,.agg _ _ hl3 (fun j hj=>?_)⟩
   match j,hj with
   | 0,_=>rw[hu0];exact .int _ _
   | 1,_=>rw[hu1];exact .int _ _
   | 2,_=>
    rw[hu2]
    refine .arr _ _ _ _ ad cap hs hc hmx ?_
    rcases hs with hs|hs
    ·exact .inl (by omega)
    refine .inr ⟨by simp[newG],?_,c,_,o3,by rw[Nat.zero_add,o4];exact Nat.le_refl _⟩
    obtain ⟨adb,ado,ads⟩:=ad
    simp only at o2 hs
    rw[o2,hs]
   | j+3,hj=>simp at hj;omega
 ·rename_i hno
  split at hth
  ·split at hth
   ·simp only[Option.some.injEq,Prod.mk.injEq] at hth
    obtain ⟨rfl,rfl⟩:=hth
    rw[List.append_nil]
    refine ⟨_,_,rfl,hst,hmk,?_⟩
    cases hV with
    | agg _ vs3 hl3 hv3=>
    refine .agg _ _ hl3 (fun j hj=>?_)
    have hx:=hv3 j hj
    match j,hj,hx with
    | 0,_,hx=>
     simp only[List.getD_cons_zero] at hx ⊢
     generalize vs3.getD 0 undef=u at hx
     cases hx;exact .int _ _
    | 1,_,hx=>
     simp only[List.getD_cons_succ,List.getD_cons_zero] at hx ⊢
     generalize vs3.getD 1 undef=u at hx
     cases hx;exact .int _ _
    | 2,_,hx=>
     simp only[List.getD_cons_succ,List.getD_cons_zero] at hx ⊢
     generalize vs3.getD 2 undef=u at hx
     cases hx with
     | nils _ _ ho=>exact .nils _ _ ho
    | j+3,hj,_=>simp at hj;omega
   ·cases hth
  ·cases hth
theorem frzStep (hm:MemR B w g m) {l:List Nat} (hobj:∀ nm∈l,∃ cs,m.get nm=some (.obj false cs)):Step B w g w (backG g l g.box)∧MemR B w (backG g l g.box) (kill m l):=by
 have hst:Step B w g w (backG g l g.box):=by
  refine ⟨Below.refl _ _,fun b off u _ hc=>hc,fun b c e fr hb=>⟨c,hb,rfl⟩,fun b off _ hn h=>hn h.1,fun b off hb=>?_,fun b hb=>Iff.rfl,fun _ _ h=>h,fun _ _ _ h=>h,fun _ _ h _ _=>h⟩
  constructor
  ·exact fun h=>h.1
  ·intro h
   refine ⟨h,?_⟩
   rintro ⟨nm,hn,hloc⟩
   obtain ⟨cs,hget⟩:=hobj nm hn
   obtain ⟨b',c,e,o1,o2,_⟩:=hm.obj nm false cs hget
   obtain rfl:b=b':=by simpa [hloc] using o1
   omega
 refine ⟨hst,?_⟩
 have hsub:∀ nm b,blk (backG g l g.box) (kill m l) nm=some b→blk g m nm=some b:=by
  intro nm b hb
  rcases blk_some hb with ⟨bx,cs,h1,h2⟩|⟨n,sz,h1,h2⟩|⟨kk,es,h1,h2⟩
  rotate_left 2
  ·rw[get_kill] at h1
   split at h1
   ·cases h1
   ·have h2':g.loc nm=some b:=h2
    simp[blk,h1,h2']
  ·rw[get_kill] at h1
   split at h1
   ·cases h1
   ·have h2':g.loc nm=some b:=h2
    simp[blk,h1,h2']
  ·rw[get_kill] at h1
   split at h1
   ·cases h1
   ·have h2':g.tloc nm n=some b:=h2
    simp[blk,h1,h2']
 have hnotK:∀ nm b,nm∉l→blk g m nm=some b→¬ ∃ x∈l,g.loc x=some b:=by
  rintro nm b hn hb ⟨x,hx,hloc⟩
  obtain ⟨cs,hget⟩:=hobj x hx
  have:blk g m x=some b:=by simp[blk,hget,hloc]
  exact hn (hm.inj nm x b hb this▸hx)
 refine ⟨fun nm bx cs hget=>?_,fun nm n sz hget=>?_,fun nm hget=>?_,fun nm hn=>hm.fresh nm (by rw[length_kill] at hn;exact hn),fun nm nm' b h1 h2=>hm.inj nm nm' b (hsub _ _ h1) (hsub _ _ h2),fun b off h=>hm.wrLt b off h.1,hm.inv,hm.boxLt,fun nm kk es hget=>by
  rw[get_kill] at hget
  split at hget
  ·cases hget
  ·obtain ⟨b,es',cl,o1,o2,o3,o4⟩:=hm.mp nm kk es hget
   exact ⟨b,es',cl,o1,o2,o3,o4.step hst⟩⟩
 ·rw[get_kill] at hget
  split at hget
  ·cases hget
  ·rename_i hnl
   obtain ⟨b,c,e,o1,o2,o3,o4,o5,o6,o7⟩:=hm.obj nm bx cs hget
   exact ⟨b,c,e,o1,o2,o3,o4,fun j hj=>(o5 j hj).step hst,fun off=>⟨o6 off,hnotK nm b hnl (by simp[blk,hget,o1])⟩,o7⟩
 ·rw[get_kill] at hget
  split at hget
  ·cases hget
  ·rename_i hnl
   obtain ⟨b,c,e,o1,o2,o3,o4,o5,o6⟩:=hm.tok nm n sz hget
   exact ⟨b,c,e,o1,o2,o3,fun off ho=>⟨o4 off ho,hnotK nm b hnl (by simp[blk,hget,o1])⟩,o5,o6⟩
 ·rw[get_kill] at hget
  split at hget
  ·cases hget
  ·exact hm.resv nm hget
theorem frzI_sound (hm:MemR B w g m) {args rs:List AV} {l:List Nat} {vs:Array Value} (hl:args.length=vs.size) (hv:∀ j,j<args.length→V w g (args.getD j .any) (vs.getD j undef)) (hf:mapF (frzI m) args=some (rs,l)) :
  ∃ g1,Step B w g w g1∧MemR B w g1 (kill m l)∧rs.length=vs.size∧∀ j,j<rs.length→V w g1 (rs.getD j .any) (vs.getD j undef):=by
 obtain ⟨k1,k2,k3⟩:=mapF_facts _ _ _ _ hf
 have one:∀ (x x':AV) (lx:List Nat) (v:Value),V w g x v→frzI m x=some (x',lx)→(∃ nm off n sh,x=.arr nm off n sh∧frz m fuelF x=some (x',lx))∨(x'=x∧lx=[]):=by
  intro x x' lx v hV hx
  unfold frzI at hx
  split at hx
  ·exact .inl ⟨_,_,_,_,rfl,hx⟩
  ·simp only[Option.some.injEq,Prod.mk.injEq] at hx
   exact .inr ⟨hx.1.symm,hx.2.symm⟩
 have hobj:∀ nm∈l,∃ cs,m.get nm=some (.obj false cs):=fun nm hn=>by
  obtain ⟨j,lj,a1,a2,a3⟩:=k3 nm hn
  rcases one _ _ _ _ (hv j a1) a2 with ⟨_,_,_,_,_,h⟩|⟨_,h⟩
  ·exact (frz_sound hm fuelF _ _ _ _ (hv j a1) h).1 nm a3
  ·rw[h] at a3;cases a3
 obtain ⟨s,hk⟩:=frzStep hm hobj
 refine ⟨backG g l g.box,s,hk,by omega,fun j hj=>?_⟩
 obtain ⟨lj,a1,a2⟩:=k2 j (by omega)
 rcases one _ _ _ _ (hv j (by omega)) a1 with ⟨nm,off,n,sh,hx,h⟩|⟨h,_⟩
 ·refine (frz_sound hm fuelF _ _ _ _ (hv j (by omega)) h).2.2 _ (fun b off h=>h.1) (fun b h=>h) (fun nm hn b hb off h=>h.2 ⟨nm,a2 nm hn,hb⟩) (.inl ?_)
  rw[hx] at h
  change (m.obj? nm).bind _=some _ at h
  rw[Option.bind_eq_some_iff] at h
  obtain ⟨o,_,h⟩:=h
  split at h
  ·simp only[Option.bind_eq_some_iff] at h
   obtain ⟨r,_,h⟩:=h
   split at h
   ·simp only[Option.some.injEq,Prod.mk.injEq] at h
    rw[← h.1];rfl
   ·cases h
  ·cases h
 ·rw[h]
  exact (hv j (by omega)).step s
theorem pureCall_sound (hm:MemR B w g m) (hB:B≤w.heap.size) {P:Program} {f:Nat} {call:Nat→List AV→Mem→OM} (hcall:∀ args m v m',call f args m=some (v,m')→CallOk P f args m v m') {args rs:List AV} {l:List Nat} {vs:Array Value}
  (hl:args.length=vs.size) (hv:∀ j,j<args.length→V w g (args.getD j .any) (vs.getD j undef)) (hf:mapF (frz m fuelF) args=some (rs,l)) {r:AV} (h:acallP call f rs=some r) :
  Calls P f vs w fun e w'=>∃ v' g',e=.returned v'∧Step B w g w' g'∧MemR B w' g' (kill m l)∧V w' g' r v':=by
 unfold acallP at h
 simp only[Option.bind_eq_some_iff] at h
 obtain ⟨⟨v0,m0⟩,hc,⟨r',l'⟩,hfz,h⟩:=h
 simp only at hfz h
 split at h
 ·rename_i hcond
  simp only[Option.some.injEq] at h
  subst h
  obtain ⟨k1,k2,k3⟩:=mapF_facts _ _ _ _ hf
  have hobj:∀ nm∈l,∃ cs,m.get nm=some (.obj false cs):=fun nm hn=>by
   obtain ⟨j,lj,a1,a2,a3⟩:=k3 nm hn
   exact (frz_sound hm fuelF _ _ _ _ (hv j a1) a2).1 nm a3
  have hargs:∀ j,j<rs.length→V w (callG g m l (!noVL rs)) (rs.getD j .any) (vs.getD j undef):=fun j hj=>by
   obtain ⟨lj,a1,a2⟩:=k2 j (by omega)
   refine (frz_sound hm fuelF _ _ _ _ (hv j (by omega)) a1).2.2 _ (fun b off h=>h.1) (fun b h=>h) (fun nm hn b hb off h=>h.2.1 ⟨nm,a2 nm hn,hb⟩) ?_
   by_cases hn:noVL rs=true
   ·exact .inl (noVL_mem hn _ (getD_mem hj))
   ·exact .inr fun nm cs b hget hloc off h=>h.2.2 (by simpa using hn) ⟨nm,cs,hget,hloc⟩
  have hm0:MemR w.heap.size w (callG g m l (!noVL rs)) []:=by
   refine ⟨fun nm bx cs h=>by simp[Mem.get] at h,fun nm n sz h=>by simp[Mem.get] at h,fun nm h=>by simp[Mem.get] at h,fun nm _=>⟨rfl,fun _=>rfl⟩,fun nm nm' b h=>by simp[blk,Mem.get] at h,fun b off h=>hm.wrLt b off h.1,fun w' k=>hm.inv w' (k.mono hB),hm.boxLt,fun nm kk es h=>by simp[Mem.get] at h⟩
  refine (hcall rs [] v0 m0 hc w.heap.size w (callG g m l (!noVL rs)) vs hm0 (Nat.le_refl _) (by omega) hargs).mono ?_
  rintro e w' ⟨v',g',rfl,s,hm',hV⟩
  have hblk:∀ b,b<w.heap.size→w'.heap[b]?=w.heap[b]?:=fun b hb=>s.below.block b hb
  have hcell:∀ b off u,w.cell? ⟨b,off,none⟩=some u→w'.cell? ⟨b,off,none⟩=some u:=fun b off u hc=>(World.cell?_of_block (w:=w) (a:=⟨b,off,none⟩) (hblk b (cell_lt hc))).trans hc
  have hst:Step B w g w' (backG g l g'.box):=by
   refine ⟨s.below.mono hB,fun b off u _ hc=>hcell b off u hc,fun b c e fr hb=>⟨c,(hblk b (Array.getElem?_eq_some_iff.1 hb).1).trans hb,rfl⟩,fun b off _ hn h=>hn h.1,fun b off hb=>?_,fun b hb=>s.box b hb,fun _ _ h=>h,fun _ _ _ h=>h,fun k o hk _ _=>(hblk k (Array.getElem?_eq_some_iff.1 hk).1).trans hk⟩
   constructor
   ·exact fun h=>h.1
   ·intro h
    refine ⟨h,?_⟩
    rintro ⟨nm,hn,hloc⟩
    obtain ⟨cs,hget⟩:=hobj nm hn
    obtain ⟨b',c,e,o1,o2,_⟩:=hm.obj nm false cs hget
    obtain rfl:b=b':=by simpa [hloc] using o1
    omega
  have hmk:MemR B w' (backG g l g'.box) (kill m l):=by
   have hsub:∀ nm b,blk (backG g l g'.box) (kill m l) nm=some b→blk g m nm=some b:=by
    intro nm b hb
    rcases blk_some hb with ⟨bx,cs,h1,h2⟩|⟨n,sz,h1,h2⟩|⟨kk,es,h1,h2⟩
    rotate_left 2
    ·rw[get_kill] at h1
     split at h1
     ·cases h1
     ·have h2':g.loc nm=some b:=h2
      simp[blk,h1,h2']
    ·rw[get_kill] at h1
     split at h1
     ·cases h1
     ·have h2':g.loc nm=some b:=h2
      simp[blk,h1,h2']
    ·rw[get_kill] at h1
     split at h1
     ·cases h1
     ·have h2':g.tloc nm n=some b:=h2
      simp[blk,h1,h2']
   have hnotK:∀ nm b,nm∉l→blk g m nm=some b→¬ ∃ x∈l,g.loc x=some b:=by
    rintro nm b hn hb ⟨x,hx,hloc⟩
    obtain ⟨cs,hget⟩:=hobj x hx
    have:blk g m x=some b:=by simp[blk,hget,hloc]
    exact hn (hm.inj nm x b hb this▸hx)
   refine ⟨fun nm bx cs hget=>?_,fun nm n sz hget=>?_,fun nm hget=>?_,fun nm hn=>hm.fresh nm (by rw[length_kill] at hn;exact hn),fun nm nm' b h1 h2=>hm.inj nm nm' b (hsub _ _ h1) (hsub _ _ h2),fun b off h=>Nat.lt_of_lt_of_le (hm.wrLt b off h.1) s.below.size,hm.invB (s.below.mono hB),hm'.boxLt,fun nm kk es hget=>by
    rw[get_kill] at hget
    split at hget
    ·cases hget
    ·obtain ⟨b,es',cl,o1,o2,o3,o4⟩:=hm.mp nm kk es hget
     exact ⟨b,es',cl,o1,o2,(hblk b (Array.getElem?_eq_some_iff.1 o3).1).trans o3,o4.step hst⟩⟩
   ·rw[get_kill] at hget
    split at hget
    ·cases hget
    ·rename_i hnl
     obtain ⟨b,c,e,o1,o2,o3,o4,o5,o6,o7⟩:=hm.obj nm bx cs hget
     have hlt:=(Array.getElem?_eq_some_iff.1 o3).1
     exact ⟨b,c,e,o1,o2,(hblk b hlt).trans o3,o4,fun j hj=>(o5 j hj).step hst,fun off=>⟨o6 off,hnotK nm b hnl (by simp[blk,hget,o1])⟩,(s.box b hlt).trans o7⟩
   ·rw[get_kill] at hget
    split at hget
    ·cases hget
    ·rename_i hnl
     obtain ⟨b,c,e,o1,o2,o3,o4,o5,o6⟩:=hm.tok nm n sz hget
     have hlt:=(Array.getElem?_eq_some_iff.1 o3).1
     exact ⟨b,c,e,o1,o2,(hblk b hlt).trans o3,fun off ho=>⟨o4 off ho,hnotK nm b hnl (by simp[blk,hget,o1])⟩,o5,fun h=>o6 ((s.box b hlt).1 h)⟩
   ·rw[get_kill] at hget
    split at hget
    ·cases hget
    ·exact hm.resv nm hget
  refine ⟨v',_,rfl,hst,hmk,?_⟩
  obtain ⟨f1,f2,f3⟩:=frz_sound hm' fuelF _ _ _ _ hV hfz
  let gf:G:={ wr:=fun b off=>b<w.heap.size∧g'.wr b off,box:=g'.box,loc:=fun _=>none,tloc:=fun _ _=>none }
  have hVf:V w' gf r' v':=by
   refine f3 gf (fun b off h=>h.2) (fun b h=>h) (fun nm hn b hb off h=>?_) (.inr fun nm cs b hget hb off h=>?_)
   ·obtain ⟨cs,hget⟩:=f1 nm hn
    obtain ⟨b',c,e,o1,o2,_⟩:=hm'.obj nm false cs hget
    obtain rfl:b=b':=by simpa [hb] using o1
    have:=h.1
    omega
   ·obtain ⟨b',c,e,o1,o2,_⟩:=hm'.obj nm true cs hget
    obtain rfl:b=b':=by simpa [hb] using o1
    have:=h.1
    omega
  refine V_cl' (nv:=!noVL rs) hVf f2 (fun hn=>?_) (fun b off h=>?_) (fun b h=>h)
  ·have:noVL rs=false:=by simpa using hn
   simpa [this] using hcond
  ·have hlt:=hm.wrLt b off h.1
   by_cases hnb:∃ nm cs,m.get nm=some (.obj true cs)∧g.loc nm=some b
   ·by_cases hnv:noVL rs=true
    ·exact .inl ⟨hlt,(s.wrB b off hlt).2 ⟨h.1,h.2,fun hx=>by simp[hnv] at hx⟩⟩
    ·refine .inr ⟨?_,by simpa using hnv⟩
     obtain ⟨nm,cs,hget,hloc⟩:=hnb
     obtain ⟨b',c,e,o1,o2,o3,o4,o5,o6,o7⟩:=hm.obj nm true cs hget
     obtain rfl:b=b':=by simpa [hloc] using o1
     exact (s.box b hlt).2 (o7.2 rfl)
   ·exact .inl ⟨hlt,(s.wrB b off hlt).2 ⟨h.1,h.2,fun _=>hnb⟩⟩
 ·cases h
end
end Go.Ab
