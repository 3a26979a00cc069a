/- An abstract interpreter of the kit's code: values without memory, an abstract memory of named objects. Definitions alone. -/
import Derived.Calls
import Derived.KernelRfl
namespace Go.Ab

/-- How a slice's capacity is known: not at all; it is the length; it is the head of an owned row (name, element type). -/
inductive Own where
  | no
  | full
  | tok (nm e : Nat)

abbrev Sh := Option Nat
def Sh.size : Sh → Nat
  | none => 1
  | some n => n

inductive AV where
  | any
  | int (k : IntKind) (n : Int)
  | bool (b : Bool)
  | str (s : ByteArray)
  | lst (sh : Sh) (z : Bool) (o : Own) (es : List AV)
  | arr (nm off n : Nat) (sh : Sh)
  | ptr (nm off : Nat)
  | vptr (cs : List AV)
  | nilp
  | nilf
  | nile
  | agg (cs : List AV)
  | tup (vs : List AV)
  | fn (f : Nat) (caps : List AV)

def AV.cells : AV → List AV
  | .agg cs => cs
  | v => [v]

/-- What stands in memory under a name: a row of cells that may be written; a row that is appended to, with its length. -/
inductive Ent where
  | obj (bx : Bool) (cs : List AV)
  | tok (n sz : Nat)
  | resv

abbrev Mem := List (Option Ent)
def Mem.get (m : Mem) (nm : Nat) : Option Ent := (m[nm]?).bind id
def Mem.obj? (m : Mem) (nm : Nat) : Option (Bool × List AV) := match m.get nm with
  | some (.obj bx cs) => some (bx, cs)
  | _ => none

structure St where
  tmps : List AV
  mem : Mem

inductive Ex where
  | normal
  | exit (id : Nat)
  | ret

structure Masks where
  head : List Bool
  out : List Bool
  ret : List Bool

structure Cfg where
  P : Program
  inl : Nat → Nat → Bool
  arrm : Nat → Bool
  tokm : Nat → Bool
  two : Nat → Nat → List (Nat × Nat)
  thaw : Nat → Nat → Bool
  mask : Nat → Option Nat → Masks
  ord : Nat → Nat → Option (List Nat)
  ahd : Nat → Nat → List Nat
  lib : Nat → Option (List AV → Option AV)

/-! ### Types -/
def shOf (P : Program) (t : Nat) : Option Sh :=
  match P.underlying t, P.info? t with
  | some (.struct _), some i | some (.array _ _), some i => some (some i.size)
  | some _, some i => if i.size = 1 then some none else none
  | _, _ => none
def elemOf (P : Program) (t : Nat) : Option Nat :=
  match P.underlying t with
  | some (.slice e) => some e
  | _ => none
def fieldOf (P : Program) (t f : Nat) : Option (Nat × Sh) :=
  match P.underlying t with
  | some (.struct fs) =>
    match fs[f]? with
    | some fd => match shOf P fd.type with
      | some sh => if sh.size = 0 then none else some (fd.offset, sh)
      | none => none
    | none => none
  | _ => none
def atomA : Value → AV
  | .int k n => .int k n
  | .bool b => .bool b
  | .string s => .str s
  | .slice none 0 0 => .lst none true .full []
  | .pointer none => .nilp
  | .nilFunc => .nilf
  | .nilIface => .nile
  | _ => .any
def valA : Value → AV
  | .agg cs => .agg (cs.toList.map atomA)
  | v => atomA v
def zeroOf (P : Program) (t : Nat) : Option AV :=
  match P.info? t with
  | some i => i.zero.map valA
  | none => none
def bytesOf (P : Program) (t : Nat) : Nat := max 1 (((P.info? t).map (·.bytes)).getD 0)

/-! ### Operations on values -/
def ifA {R : Type} (v : AV) (x y : Option R) : Option R := match v with
  | .bool b => match b with
    | true => x
    | false => y
  | _ => none
def binInt (op : BinOp) (k : IntKind) (a b : Int) : Option AV := match op with
  | .add => some (.int k (k.wrap (a + b)))
  | .sub => some (.int k (k.wrap (a - b)))
  | .mul => some (.int k (k.wrap (a * b)))
  | .quo => if b = 0 then none else some (.int k (k.wrap (a.tdiv b)))
  | .rem => if b = 0 then none else some (.int k (a.tmod b))
  | .and => some (.int k (k.wrap (BitVec.ofInt k.bits a &&& BitVec.ofInt k.bits b).toNat))
  | .or => some (.int k (k.wrap (BitVec.ofInt k.bits a ||| BitVec.ofInt k.bits b).toNat))
  | .xor => some (.int k (k.wrap (BitVec.ofInt k.bits a ^^^ BitVec.ofInt k.bits b).toNat))
  | .andNot => some (.int k (k.wrap (BitVec.ofInt k.bits a &&& ~~~ BitVec.ofInt k.bits b).toNat))
  | .eql => some (.bool (a == b))
  | .neq => some (.bool (a != b))
  | .lss => some (.bool (decide (a < b)))
  | .leq => some (.bool (decide (a ≤ b)))
  | .gtr => some (.bool (decide (a > b)))
  | .geq => some (.bool (decide (a ≥ b)))
  | _ => none
def shiftA (left : Bool) (k : IntKind) (a b : Int) : Option AV :=
  if b < 0 then none
  else if left then some (.int k (k.wrap (a * 2 ^ (min b.toNat k.bits)))) else some (.int k (a.fdiv (2 ^ (min b.toNat k.bits))))
/-- What kind of type two operands have, as far as it matters. -/
inductive TK where
  | sl
  | bl
  | other
def tkOf (P : Program) (t : Nat) : TK := match P.underlying t with
  | some (.slice _) => .sl
  | some .bool => .bl
  | _ => .other
def binStr (op : BinOp) (a b : ByteArray) : Option AV := match op with
  | .add => if a.size + b.size ≤ 9223372036854775807 then some (.str (a ++ b)) else none
  | .eql => some (.bool (a.toList == b.toList))
  | .neq => some (.bool (!(a.toList == b.toList)))
  | _ => none
def binA (tk : TK) (op : BinOp) (x y : AV) : Option AV := match tk, x, y with
  | _, .int k a, .int k' b => match op with
    | .shl => shiftA true k a b
    | .shr => shiftA false k a b
    | op => if k = k' then binInt op k a b else none
  | _, .str a, .str b => binStr op a b
  | .bl, .bool a, .bool b => match op with
    | .eql => some (.bool (a == b))
    | .neq => some (.bool (!(a == b)))
    | _ => none
  | .sl, .lst _ z _ _, .lst _ true _ [] => match op with
    | .eql => some (.bool z)
    | .neq => some (.bool (!z))
    | _ => none
  | _, _, _ => none
def unA (op : UnOp) (x : AV) : Option AV := match op, x with
  | .not, .bool b => some (.bool !b)
  | .neg, .int k n => some (.int k (k.wrap (0 - n)))
  | _, _ => none
def pickA (c a b : AV) : Option AV := match c with
  | .bool c => some (if c then a else b)
  | _ => none
def extractA (t : AV) (i : Nat) : Option AV := match t with
  | .tup vs => vs[i]?
  | _ => none
def lenA (st : Bool) (x : AV) : Option AV := match st, x with
  | false, .lst _ _ _ es => some (.int .i64 es.length)
  | false, .arr _ _ n _ => some (.int .i64 n)
  | true, .str s => some (.int .i64 s.size)
  | _, _ => none
def maxA (mx : Bool) (x y : AV) : Option AV := match x, y with
  | .int k a, .int k' b => if k = k' then some (.int k (if mx then (if b > a then b else a) else (if b < a then b else a))) else none
  | _, _ => none
def convA (k : IntKind) (x : AV) : Option AV := match x with
  | .int _ n => some (.int k (k.wrap n))
  | _ => none
/-- A part of a row of cells, as a value of the shape. -/
def cutSh (sh : Sh) (cs : List AV) (off : Nat) : Option AV := match sh with
  | none => cs[off]?
  | some n => if off + n ≤ cs.length then some (.agg ((cs.drop off).take n)) else none
def loadA (sh : Sh) (m : Mem) (x : AV) : Option AV := match x with
  | .vptr cs => cutSh sh cs 0
  | .ptr nm off => (m.obj? nm).bind fun o => cutSh sh o.2 off
  | _ => none
def atomOk : AV → Bool
  | .any | .agg _ | .tup _ => false
  | _ => true
def shOk (sh : Sh) (v : AV) : Bool := match sh with
  | none => atomOk v
  | some n => match v with
    | .agg cs => cs.length == n && cs.all atomOk
    | _ => false
def putAt (cs : List AV) (off : Nat) (vs : List AV) : List AV := cs.take off ++ vs ++ cs.drop (off + vs.length)
def storeA (sh : Sh) (m : Mem) (x v : AV) : Option Mem := match x with
  | .ptr nm off => (m.obj? nm).bind fun o =>
    if off + sh.size ≤ o.2.length then if shOk sh v then some (m.set nm (some (.obj o.1 (putAt o.2 off v.cells)))) else none else none
  | _ => none
def nilA (x : AV) : Option AV := match x with
  | .vptr cs => some (.vptr cs)
  | .ptr nm off => some (.ptr nm off)
  | .fn f cs => some (.fn f cs)
  | _ => none
def fnOf (x : AV) : Option (Nat × List AV) := match x with
  | .fn f cs => some (f, cs)
  | _ => none
def fieldAddrA (off : Nat) (x : AV) : Option AV := match x with
  | .vptr cs => if off < cs.length then some (.vptr (cs.drop off)) else none
  | .ptr nm o => some (.ptr nm (o + off))
  | _ => none
def fieldA (off : Nat) (sh : Sh) (x : AV) : Option AV := match x with
  | .agg cs => cutSh sh cs off
  | _ => none
def indexAddrA (sh : Sh) (x i : AV) : Option AV := match i with
  | .int _ i => match x with
    | .lst sh' _ _ es => if sh' = sh then if 0 ≤ i then (es[i.toNat]?).map fun e => .vptr e.cells else none else none
    | .arr nm off n sh' => if sh' = sh then if 0 ≤ i ∧ i < n then some (.ptr nm (off + i.toNat * sh.size)) else none else none
    | _ => none
  | _ => none
/-- The place of an element of an array variable. -/
def arrAddrA (len : Nat) (sh : Sh) (x i : AV) : Option AV := match i with
  | .int _ i => if 0 ≤ i ∧ i < len then fieldAddrA (i.toNat * sh.size) x else none
  | _ => none
def indexStrA (x i : AV) : Option AV := match x, i with
  | .str s, .int _ i => if 0 ≤ i then (s[i.toNat]?).map fun b => .int .u8 b.toNat else none
  | _, _ => none
def boundA (y : Nat) (x : Option AV) (dflt : Nat) : Option Nat := match x with
  | none => some dflt
  | some (.int _ i) => if 0 ≤ i ∧ i ≤ y then some i.toNat else none
  | _ => none
def sliceA (x : AV) (lo hi mx : Option AV) : Option AV := match x with
  | .lst sh z _ es => match mx with
    | none => (boundA es.length hi es.length).bind fun h => (boundA h lo 0).bind fun l => some (.lst sh z .no ((es.take h).drop l))
    | some mv => match hi with
      | none => none
      | some hv => (boundA es.length (some mv) 0).bind fun m => (boundA m (some hv) 0).bind fun h => (boundA h lo 0).bind fun l =>
        if h = m then some (.lst sh z .full ((es.take h).drop l)) else some (.lst sh z .no ((es.take h).drop l))
  | .arr nm off n sh => match mx with
    | none => (boundA n hi n).bind fun h => (boundA h lo 0).bind fun l => some (.arr nm (off + l * sh.size) (h - l) sh)
    | some _ => none
  | .str s => match mx with
    | none => (boundA s.size hi s.size).bind fun h => (boundA h lo 0).bind fun l => some (.str (s.extract l h))
    | some _ => none
  | _ => none

/-- A part of what has the slice's shape. -/
def sliceT (sh : Sh) (x : AV) (lo hi mx : Option AV) : Option AV := match x with
  | .lst sh' z o es => if sh' = sh ∨ es = [] then sliceA (.lst sh' z o es) lo hi mx else none
  | .arr nm off n sh' => if sh' = sh then sliceA (.arr nm off n sh') lo hi mx else none
  | _ => none
def sliceS (x : AV) (lo hi mx : Option AV) : Option AV := match x with
  | .str s => sliceA (.str s) lo hi mx
  | _ => none

/-! ### What may stand in a slice; what bears no name -/
mutual
def pl : AV → Bool
  | .int .. | .bool _ | .str _ | .nilp | .nilf | .nile => true
  | .lst _ _ o _ => match o with
    | .tok .. => false
    | _ => true
  | .agg cs => plL cs
  | _ => false
def plL : List AV → Bool
  | [] => true
  | c :: cs => pl c && plL cs
end
mutual
def cl : AV → Bool
  | .lst _ _ o _ => match o with
    | .tok .. => false
    | _ => true
  | .arr .. | .ptr .. => false
  | .vptr cs | .agg cs | .tup cs | .fn _ cs => clL cs
  | _ => true
def clL : List AV → Bool
  | [] => true
  | c :: cs => cl c && clL cs
end
mutual
def noV : AV → Bool
  | .vptr _ => false
  | .agg cs | .tup cs | .fn _ cs => noVL cs
  | _ => true
def noVL : List AV → Bool
  | [] => true
  | c :: cs => noV c && noVL cs
end
def stripA : AV → AV
  | .lst sh z (.tok ..) es => .lst sh z .no es
  | v => v
def strip : AV → AV
  | .agg cs => .agg (cs.map stripA)
  | v => stripA v
/-! ### Values that leave: the row of an array becomes a slice's, a variable is seen as it stands -/
def groupBy (n : Nat) : Nat → List AV → List (List AV)
  | 0, _ => []
  | k + 1, cs => cs.take n :: groupBy n k (cs.drop n)
def grp (sh : Sh) (k : Nat) (cs : List AV) : List AV := match sh with
  | none => cs.take k
  | some n => (groupBy n k cs).map .agg
def mapF (f : AV → Option (AV × List Nat)) : List AV → Option (List AV × List Nat)
  | [] => some ([], [])
  | c :: cs => (f c).bind fun r => (mapF f cs).map fun s => (r.1 :: s.1, r.2 ++ s.2)
def frz (m : Mem) : Nat → AV → Option (AV × List Nat)
  | 0, _ => none
  | k + 1, v => match v with
    | .lst sh z o es => some (match o with
      | .tok .. => .lst sh z .no es
      | o => .lst sh z o es, [])
    | .arr nm off n sh => (m.obj? nm).bind fun o =>
      if !o.1 && decide (off + n * sh.size ≤ o.2.length) then (mapF (frz m k) ((o.2.drop off).take (n * sh.size))).bind fun r =>
        if r.1.all atomOk && plL r.1 then some (.lst sh false .no (grp sh n r.1), nm :: r.2) else none
      else none
    | .ptr nm off => (m.obj? nm).bind fun o => if o.1 then (mapF (frz m k) (o.2.drop off)).map fun r => (.vptr r.1, r.2) else none
    | .agg cs => (mapF (frz m k) cs).map fun r => (.agg r.1, r.2)
    | .tup cs => (mapF (frz m k) cs).map fun r => (.tup r.1, r.2)
    | .fn f cs => (mapF (frz m k) cs).map fun r => (.fn f r.1, r.2)
    | .vptr cs => (mapF (frz m k) cs).map fun r => (.vptr r.1, r.2)
    | v => some (v, [])
def fuelF : Nat := 9
def kill (m : Mem) (l : List Nat) : Mem := l.foldl (fun m nm => m.set nm none) m

/-! ### A row that is handed out to be written to -/
def isIntA : AV → Bool
  | .int .. => true
  | _ => false
def rowC : AV → Bool
  | .bool _ => true
  | .lst sh _ o ds => match sh with
    | some _ => false
    | none => match o with
      | .tok .. => false
      | _ => ds.all isIntA
  | _ => false
def thawA (base : Nat) (m : Mem) (v : AV) : Option (AV × Mem) := match v with
  | .agg [.int k a, .int k' b, .lst sh z o es] => match o with
    | .tok nm _ => match sh with
      | none => none
      | some n => match m.get nm with
        | some (.tok c sz) => if c = es.length ∧ sz = n ∧ (es.flatMap AV.cells).all rowC = true then some (.agg [.int k a, .int k' b, .arr base 0 es.length (some n)], [some (.obj false (es.flatMap AV.cells))]) else none
        | _ => none
    | _ => match es with
      | [] => match z with
        | true => some (.agg [.int k a, .int k' b, .lst sh true o []], [])
        | false => none
      | _ :: _ => none
  | _ => none

/-! ### Memory that is made -/
def elemOk (P : Program) (e : Nat) (sh : Sh) : Bool := match P.info? e with
  | some i => i.size == sh.size && decide (0 < i.size) && (match i.zero with | some z => z.cells.size == i.size && (match sh, z with | none, .agg _ => false | _, _ => true) | none => false)
  | none => false
def zeros (sh : Sh) (z : AV) (n : Nat) : List AV := match sh with
  | none => List.replicate n z
  | some _ => (List.replicate n z.cells).flatten
/-- Where a new entry goes: behind the others, or into a place kept for it. -/
def newAt (d : Option Nat) (m : Mem) (e : Ent) : Nat × Mem := match d with
  | none => (m.length, m ++ [some e])
  | some s => (s, m.set s (some e))
def roomA : Nat := 140737488355328
def appA (d : Option Nat) (arrm : Bool) (e : Nat) (sh : Sh) (bytes : Nat) (m : Mem) (x y : AV) : Option (AV × Mem) := match x, y with
  | .lst shx z o es, .lst shy _ _ ys => match ys with
    | [] => some (.lst shx z o es, m)
    | y :: ys =>
      if shy = sh then
        if (es.length + (y :: ys).length) * bytes ≤ roomA then
          match o with
          | .no => none
          | .full =>
            if shx = sh ∨ es = [] then
              if arrm then some (.arr (newAt d m .resv).1 0 (es.length + (y :: ys).length) sh, (newAt d m (.obj false ((es ++ y :: ys).flatMap AV.cells))).2)
              else some (.lst sh false (.tok (newAt d m .resv).1 e) (es ++ y :: ys), (newAt d m (.tok (es.length + (y :: ys).length) sh.size)).2)
            else none
          | .tok nm e' =>
            if shx = sh ∧ e' = e ∧ arrm = false then match m.get nm with
              | some (.tok k sz) => if k = es.length ∧ sz = sh.size then some (.lst sh false (.tok nm e) (es ++ y :: ys), m.set nm (some (.tok (es.length + (y :: ys).length) sh.size))) else none
              | _ => none
            else none
        else none
      else none
  | _, _ => none
def boxA (d : Option Nat) (sh : Sh) (m : Mem) (v : AV) : Option (AV × Mem) := if shOk sh v then some (.ptr (newAt d m .resv).1 0, (newAt d m (.obj true v.cells)).2) else none
def buildSliceA (sh : Sh) (vs : List AV) : Option AV := if vs.all (fun v => shOk sh (strip v) && pl (strip v)) then some (.lst sh false .full (vs.map strip)) else none
def fillA : List AV → List (Nat × Sh × AV) → Option (List AV)
  | cs, [] => some cs
  | cs, (off, sh, v) :: r => if shOk sh v then if off + sh.size ≤ cs.length then fillA (putAt cs off v.cells) r else none else none
def buildA (zero : AV) (parts : List (Nat × Sh × AV)) : Option AV := match zero with
  | .agg cs => (fillA cs parts).map .agg
  | _ => none
def makeA (d : Option Nat) (e : Nat) (sh : Sh) (z : AV) (bytes : Nat) (m : Mem) (l c : AV) : Option (AV × Mem) := match l, c with
  | .int _ l, .int _ c =>
    if 0 ≤ l ∧ l ≤ c ∧ c * bytes ≤ 281474976710656 ∧ c ≤ 9223372036854775807 then
      if l = c then some (.arr (newAt d m .resv).1 0 l.toNat sh, (newAt d m (.obj false (zeros sh z l.toNat))).2)
      else if l = 0 then some (.lst sh false (.tok (newAt d m .resv).1 e) [], (newAt d m (.tok 0 sh.size)).2) else none
    else none
  | _, _ => none
/-- A row that is made and only appended to. -/
def makeT (d : Option Nat) (sh : Sh) (z : AV) (bytes : Nat) (m : Mem) (l c : AV) : Option (AV × Mem) := match d, sh, l, c with
  | none, none, .int _ l, .int _ c =>
    if (0 ≤ l ∧ l = c ∧ c * bytes ≤ 281474976710656 ∧ c ≤ 9223372036854775807) ∧ atomOk z = true ∧ pl z = true then some (.lst none false .full (List.replicate l.toNat z), m) else none
  | _, _, _, _ => none
def structOk (P : Program) (t : Nat) : Bool := match P.underlying t with
  | some (.struct fs) => fs.all fun f => (P.info? f.type).isSome
  | _ => false

/-! ### One operation -/
section
variable {R : Type} (C : Cfg) (fid : Nat) (callP : Nat → List AV → Option AV) (callI : Nat → List AV → Mem → Option (AV × Mem)) (d : Option Nat)
/-- A call that shares nothing with its caller. -/
def pcall (d : Option Nat) (m : Mem) (g : Nat) (vs : List AV) : Option (AV × Mem) :=
  (mapF (frz m fuelF) vs).bind fun r => if d.isSome && !r.2.isEmpty then none else (callP g r.1).map fun v => (v, kill m r.2)
/-- A call that shares nothing, and hands out a row that is nobody else's: it may be written to. -/
def thawCall (m : Mem) (g : Nat) (vs : List AV) : Option (AV × Mem) :=
  (mapF (frz m fuelF) vs).bind fun r => (callI g r.1 []).bind fun q => (thawA m.length q.2 q.1).map fun t => (t.1, kill m r.2 ++ t.2)
def callK (g : Nat) (vs : List AV) (m : Mem) (K : AV → Mem → Option R) : Option R :=
  match C.lib g with
  | some h => (h vs).bind fun v => K v m
  | none => match C.inl fid g with
    | true => match d with
      | none => (match C.thaw fid g with | true => thawCall callI m g vs | false => callI g vs m).bind fun r => K r.1 r.2
      | some _ => none
    | false => (pcall callP d m g vs).bind fun r => K r.1 r.2
def builtinK (b : Builtin) (ts : Array TypeId) (vs : List AV) (m : Mem) (K : AV → Mem → Option R) : Option R :=
  match b, vs with
  | .len, [x] => match (ts[0]?).bind C.P.underlying with
    | some (.slice _) => (lenA false x).bind fun v => K v m
    | some .string => (lenA true x).bind fun v => K v m
    | _ => none
  | .max, [x, y] => (maxA true x y).bind fun v => K v m
  | .min, [x, y] => (maxA false x y).bind fun v => K v m
  | .append, [x, y] => match ts[0]?, ts[1]? with
    | some t, some t' => if t = t' then
        match elemOf C.P t with
        | some e => match shOf C.P e with
          | some sh => if elemOk C.P e sh then (appA d (C.arrm fid) e sh (bytesOf C.P e) m x y).bind fun r => K r.1 r.2 else none
          | none => none
        | none => none
      else none
    | _, _ => none
  | _, _ => none
def opK (o : Oper) (ρ : Operand → AV) (m : Mem) (K : AV → Mem → Option R) : Option R :=
  match o.op with
  | .move x => K (ρ x) m
  | .assign x => K (ρ x) m
  | .pick c a b => (pickA (ρ c) (ρ a) (ρ b)).bind fun v => K v m
  | .alloc t => match zeroOf C.P t with
    | some z => K (.ptr (newAt d m .resv).1 0) (newAt d m (.obj true z.cells)).2
    | none => none
  | .box t x => match shOf C.P t with
    | some sh => (boxA d sh m (ρ x)).bind fun r => K r.1 r.2
    | none => none
  | .build t ps => if structOk C.P t then match zeroOf C.P t, ps.toList.mapM (fun p => (fieldOf C.P t p.1).map fun f => (f.1, f.2, ρ p.2)) with
    | some z, some l => (buildA z l).bind fun v => K v m
    | _, _ => none else none
  | .buildSlice t n ps => match elemOf C.P t with
    | some e => match shOf C.P e with
      | some sh => if elemOk C.P e sh && (ps.toList.map (·.1) == List.range n) && decide (n * sh.size ≤ 16777216) then (buildSliceA sh (ps.toList.map fun p => ρ p.2)).bind fun v => K v m else none
      | none => none
    | none => none
  | .load t a => match shOf C.P t with
    | some sh => (loadA sh m (ρ a)).bind fun v => K v m
    | none => none
  | .store t a x => match shOf C.P t with
    | some sh => (storeA sh m (ρ a) (ρ x)).bind fun m' => K .any m'
    | none => none
  | .nilCheck x => (nilA (ρ x)).bind fun v => K v m
  | .binOp op t x y _ => (binA (tkOf C.P t) op (ρ x) (ρ y)).bind fun v => K v m
  | .unOp op _ x => (unA op (ρ x)).bind fun v => K v m
  | .convert src dst x => match C.P.underlying dst with
    | some (.int k) => if (C.P.underlying src).isSome then (convA k (ρ x)).bind fun v => K v m else none
    | _ => none
  | .makeFunc fn fi cs => match fn, fi.toList with
    | .func f, [] => K (.fn f (cs.toList.map ρ)) m
    | _, _ => none
  | .makeSlice t l c => match elemOf C.P t with
    | some e => match shOf C.P e, zeroOf C.P e with
      | some sh, some z => if elemOk C.P e sh then (match C.tokm fid with | true => makeT d sh z (bytesOf C.P e) m (ρ l) (ρ c) | false => makeA d e sh z (bytesOf C.P e) m (ρ l) (ρ c)).bind fun r => K r.1 r.2 else none
      | _, _ => none
    | none => none
  | .slice t x lo hi mx => match C.P.underlying t with
    | some (.slice e) => match shOf C.P e with
      | some sh => if elemOk C.P e sh then (sliceT sh (ρ x) (lo.map ρ) (hi.map ρ) (mx.map ρ)).bind fun v => K v m else none
      | none => none
    | some .string => (sliceS (ρ x) (lo.map ρ) (hi.map ρ) (mx.map ρ)).bind fun v => K v m
    | _ => none
  | .fieldAddr t x f => match fieldOf C.P t f with
    | some (off, _) => (fieldAddrA off (ρ x)).bind fun v => K v m
    | none => none
  | .field t x f => match fieldOf C.P t f with
    | some (off, sh) => (fieldA off sh (ρ x)).bind fun v => K v m
    | none => none
  | .indexAddr t x i => match C.P.underlying t with
    | some (.slice e) => match shOf C.P e with
      | some sh => if elemOk C.P e sh then (indexAddrA sh (ρ x) (ρ i)).bind fun v => K v m else none
      | none => none
    | some (.array n e) => match shOf C.P e with
      | some sh => if elemOk C.P e sh then (arrAddrA n sh (ρ x) (ρ i)).bind fun v => K v m else none
      | none => none
    | _ => none
  | .index t x i => match C.P.underlying t with
    | some .string => (indexStrA (ρ x) (ρ i)).bind fun v => K v m
    | _ => none
  | .extract t i => (extractA (ρ t) i).bind fun v => K v m
  | .call c => match c.callee with
    | .value f => (fnOf (ρ f)).bind fun gc => callK C fid callP callI d gc.1 (c.args.toList.map ρ ++ gc.2) m K
    | .builtin b => builtinK C fid d b c.argTypes (c.args.toList.map ρ) m K
    | _ => none
  | _ => none
end

/-! ### A region; code; a call -/
def ev (ts : List AV) : Operand → AV
  | .tmp t => ts.getD t .any
  | .const v => valA v
  | .global _ => .any
  | .func f => .fn f []
def setD (ts : List AV) (dst : Option Nat) (v : AV) : List AV := match dst with
  | some d => ts.set d v
  | none => ts
section
variable {R : Type} (C : Cfg) (fid : Nat) (callP : Nat → List AV → Option AV) (callI : Nat → List AV → Mem → Option (AV × Mem))
/-- Operations that may make an entry. -/
def makes (o : Oper) : Bool := match o.op with
  | .alloc _ | .box .. | .makeSlice .. => true
  | .call c => match c.callee with
    | .builtin .append => true
    | _ => false
  | _ => false
def rankA (ops : Array Oper) (i : Nat) : Nat := ((ops.toList.take i).filter makes).length
/-- Has the operation that a guard asks been passed over itself? -/
def skpd (ops : Array Oper) (ts : List AV) (j : Nat) : Bool := match (ops[j]?).bind (·.guard) with
  | none => false
  | some (j', want) => match (ops[j']?).bind (·.dst) with
    | none => false
    | some g => match ts.getD g .any with
      | .bool b => match b with
        | true => match want with
          | true => false
          | false => true
        | false => want
      | .tup _ => true
      | _ => false
def runOps (base : Option Nat) (ops : Array Oper) : List Nat → St → (St → Option R) → Option R
  | [], st, K => K st
  | i :: l, st, K => match ops[i]? with
    | none => none
    | some o => match o.guard with
      | none => opK C fid callP callI (base.map (· + rankA ops i)) o (ev st.tmps) st.mem fun v m => runOps base ops l ⟨setD st.tmps o.dst v, m⟩ K
      | some (j, want) => match (ops[j]?).bind (·.dst) with
        | none => none
        | some g =>
          let run (b : Bool) : Option R := opK C fid callP callI (base.map (· + rankA ops i)) o (ev (st.tmps.set g (.bool b))) st.mem fun v m => runOps base ops l ⟨setD (st.tmps.set g (.bool b)) o.dst v, m⟩ K
          let skip (b : Bool) : Option R := runOps base ops l ⟨setD (st.tmps.set g (.bool b)) o.dst (.tup []), st.mem⟩ K
          match skpd ops st.tmps j with
          | true => match st.tmps.getD g .any with
            | .tup cs => match cs with
              | [] => runOps base ops l ⟨setD st.tmps o.dst (.tup []), st.mem⟩ K
              | _ :: _ => none
            | _ => none
          | false => match want with
            | true => ifA (st.tmps.getD g .any) (run true) (skip false)
            | false => ifA (st.tmps.getD g .any) (skip true) (run false)
def maskA : List Bool → List AV → List AV
  | _, [] => []
  | [], _ :: vs => .any :: maskA [] vs
  | b :: bs, v :: vs => (match b with | true => v | false => .any) :: maskA bs vs
def maskS (l : List Bool) (st : St) : St := ⟨maskA l st.tmps, st.mem⟩
/-- What follows a round; a block; the first of two. -/
abbrev roundK (again : St → Option R) (mk : Masks) (K : Ex → St → Option R) : Ex → St → Option R := fun e st' => match e with
  | .normal => again (maskS mk.head st')
  | .exit id => K (.exit id) (maskS mk.out st')
  | .ret => K .ret (maskS mk.ret st')
abbrev blockK (id : Nat) (K : Ex → St → Option R) : Ex → St → Option R := fun e st' => match e with
  | .normal => K .normal st'
  | .exit j => match j == id with
    | true => K .normal st'
    | false => K (.exit j) st'
  | .ret => K .ret st'
abbrev seqK (next : St → Option R) (K : Ex → St → Option R) : Ex → St → Option R := fun e st' => match e with
  | .normal => next st'
  | .exit id => K (.exit id) st'
  | .ret => K .ret st'
def loopN (body : St → (Ex → St → Option R) → Option R) (mk : Masks) : Nat → St → (Ex → St → Option R) → Option R
  | 0, _, _ => none
  | n + 1, st, K => body st (roundK (fun st' => loopN body mk n st' K) mk K)
/-- The number of the first region: it tells the loops of a function apart. -/
def keyOf : Code → Option Nat
  | .region id _ _ => some id
  | .seq a b => match keyOf a with
    | some k => some k
    | none => keyOf b
  | .cond _ a b => match keyOf a with
    | some k => some k
    | none => keyOf b
  | .block _ b | .loop b | .scope b => keyOf b
  | _ => none
/-- What an operation has to do with memory: nothing; it reads; it makes an entry; it appends; all else. -/
inductive Cls where
  | N | L | A | Ap | W
  deriving DecidableEq
def clsOf (o : Oper) : Cls := match o.op with
  | .move _ | .assign _ | .pick .. | .binOp .. | .unOp .. | .convert .. | .nilCheck _ | .extract .. | .field .. | .fieldAddr .. | .indexAddr .. | .index .. | .slice .. | .makeFunc .. | .build .. | .buildSlice .. => .N
  | .load .. => .L
  | .alloc _ | .box .. | .makeSlice .. => .A
  | .call c => match c.callee with
    | .builtin .len | .builtin .max | .builtin .min => .N
    | .builtin .append => .Ap
    | .value _ => .L
    | _ => .W
  | _ => .W
/-- May the second be carried out ahead of the first? (asked where no edge stands between them) -/
def clsSwap : Cls → Cls → Bool
  | .N, _ | _, .N | .L, .L | .L, .A | .L, .Ap | .A, .A => true
  | _, _ => false
def looks (ops : Array Oper) (o : Oper) : List Nat :=
  (o.op.operands.toList.filterMap fun | .tmp t => some t | _ => none) ++
  (match o.guard with
   | some (g, _) => ((ops[g]?).bind (·.dst)).toList ++ (match (ops[g]?).bind (·.guard) with
     | some (g', _) => ((ops[g']?).bind (·.dst)).toList
     | none => [])
   | none => [])
/-- They touch no slot in common. -/
def apartA (ops : Array Oper) (x y : Oper) : Bool :=
  (match x.dst with
   | some d => !(looks ops y).contains d && y.dst != some d
   | none => true) &&
  (match y.dst with
   | some d => !(looks ops x).contains d
   | none => true)
def swapOk (ops : Array Oper) (x y : Oper) : Bool := clsSwap (clsOf x) (clsOf y) && apartA ops x y
/-- For each operation all that must stand ahead of it, a bit each. -/
def aheadTo (ops : Array Oper) : Nat → List Nat
  | 0 => []
  | n + 1 => (aheadTo ops n) ++ [match ops[n]? with
    | some o => (o.after.toList.filter (Region.binds .any)).foldl (fun s e => s ||| (2 ^ e.on ||| (aheadTo ops n).getD e.on 0)) 0
    | none => 0]
def aheadOf (ops : Array Oper) : List Nat := aheadTo ops ops.size
def pairsOk (ops : Array Oper) (ah : List Nat) : List Nat → Bool
  | [] => true
  | j :: l => l.all (fun i => (ah.getD i 0).testBit j || (match ops[j]?, ops[i]? with | some x, some y => swapOk ops x y | _, _ => false)) && pairsOk ops ah l
/-- What is told to stand ahead, place by place. -/
def aheadAt (ops : Array Oper) (ah : List Nat) (i : Nat) : Bool := match ops[i]?, ah[i]? with
  | some o, some a => Nat.beq a (o.after.foldl (fun s e => match Region.binds .any e with
    | true => s ||| (2 ^ e.on ||| ah.getD e.on 0)
    | false => s) 0)
  | _, _ => false
def drawOk (P : Program) (ops : Array Oper) (l : List Nat) : Bool :=
  P.follows .mixedOrders && l.isPerm (List.range ops.size) && (List.range ops.size).all (fun i => (match ops[i]? with | some o => o.after.all fun e => !Region.binds .any e || decide (e.on < i) | none => false)) && pairsOk ops (aheadOf ops) l
/-- The same, with what stands ahead told. -/
def drawOk2 (P : Program) (ops : Array Oper) (l ah : List Nat) : Bool :=
  P.follows .mixedOrders && (l.isPerm (List.range ops.size) && ((List.range ops.size).all (fun i => (match ops[i]? with | some o => o.after.all fun e => !Region.binds .any e || decide (e.on < i) | none => false)) && (Nat.beq ah.length ops.size && ((List.range ops.size).all (aheadAt ops ah) && pairsOk ops ah l))))
/-- Places kept for what a region makes. -/
def reserve (m : Mem) (c : Nat) : Mem := match c with
  | 0 => m
  | c + 1 => m ++ List.replicate (c + 1) (some .resv)
def ordOf (o : Option (List Nat)) (n : Nat) : List Nat := match o with
  | some l => l
  | none => List.range n
def exec (n : Nat) : Code → St → (Ex → St → Option R) → Option R
  | .skip, st, K => K .normal st
  | .region id ops d, st, K => match d with
    | false => runOps C fid callP callI none ops (List.range ops.size) st (K .normal)
    | true => match drawOk C.P ops (ordOf (C.ord fid id) ops.size) with
      | true => runOps C fid callP callI (some st.mem.length) ops (ordOf (C.ord fid id) ops.size) ⟨st.tmps, reserve st.mem (rankA ops ops.size)⟩ (K .normal)
      | false => none
  | .seq a b, st, K => exec n a st (seqK (fun st' => exec n b st' K) K)
  | .cond c a b, st, K => ifA (ev st.tmps c) (exec n a st K) (exec n b st K)
  | .block id b, st, K => exec n b st (blockK id K)
  | .loop b, st, K => loopN (exec n b) (C.mask fid (keyOf b)) n (maskS (C.mask fid (keyOf b)).head st) K
  | .exit id, st, K => K (.exit id) st
  | .ret, st, K => K .ret st
  | _, _, _ => none
end
def resA (P : Program) (m : Mem) (ts : List AV) : ResultVar → Option AV
  | .tmp t => some (ts.getD t .any)
  | .cell a t => (shOf P t).bind fun sh => loadA sh m (ts.getD a .any)
def resultsA (P : Program) (m : Mem) (ts : List AV) : List ResultVar → Option (List AV)
  | [] => some []
  | r :: rs => (resA P m ts r).bind fun v => (resultsA P m ts rs).map fun vs => v :: vs
def resultsK {R : Type} (P : Program) (m : Mem) (ts : List AV) : List ResultVar → (List AV → Option R) → Option R
  | [], K => K []
  | .tmp t :: rs, K => resultsK P m ts rs fun vs => K (ts.getD t .any :: vs)
  | .cell a t :: rs, K => match shOf P t with
    | some sh => (loadA sh m (ts.getD a .any)).bind fun v => resultsK P m ts rs fun vs => K (v :: vs)
    | none => none
def oneOf : List AV → AV
  | [v] => v
  | vs => .tup vs
def acallP (call : Nat → List AV → Mem → Option (AV × Mem)) (g : Nat) (vs : List AV) : Option AV :=
  (call g vs []).bind fun r => (frz r.2 fuelF r.1).bind fun r' => if noVL vs || noV r'.1 then some r'.1 else none
def finK (P : Program) (rs : List ResultVar) : Ex → St → Option (AV × Mem) := fun e st => match e with
  | .normal => resultsK P st.mem st.tmps rs fun vs => some (oneOf vs, st.mem)
  | .exit _ => none
  | .ret => resultsK P st.mem st.tmps rs fun vs => some (oneOf vs, st.mem)
def acall (C : Cfg) : Nat → Nat → List AV → Mem → Option (AV × Mem)
  | 0, _, _, _ => none
  | k + 1, f, args, m => match C.P.funcs[f]? with
    | none => none
    | some fn => match fn.body with
      | none => none
      | some c => exec C f (acallP (acall C k)) (acall C k) k c ⟨args ++ List.replicate (fn.ntmps - args.length) .any, m⟩ (finK C.P fn.results.toList)

/-! ### Places in code -/
def bodyOf (f : Func) : Code := f.body.getD .skip
def c1 : Code → Code
  | .seq a _ => a
  | .cond _ a _ => a
  | .block _ b | .loop b | .scope b => b
  | c => c
def c2 : Code → Code
  | .seq _ b => b
  | .cond _ _ b => b
  | c => c
def maskGet : List (Nat × Nat × Masks) → Nat → Option Nat → Masks
  | [], _, _ => ⟨[], [], []⟩
  | (f, k, m) :: l, f', k' => match f == f' && some k == k' with
    | true => m
    | false => maskGet l f' k'
def ordGet : List (Nat × Nat × List Nat) → Nat → Nat → Option (List Nat)
  | [], _, _ => none
  | (f, k, m) :: l, f', k' => match f == f' && k == k' with
    | true => some m
    | false => ordGet l f' k'

end Go.Ab
