/- What the functions of nat compute, in values. -/
import Derived.Test.YtiipgpkgcdhbfaaGreatDoorBP3
import Derived.Test.YtiipgpkgcdhbfaaGreatDoorBP2
set_option linter.unusedVariables false
set_option linter.unusedSimpArgs false
set_option linter.unusedSectionVars false
set_option maxRecDepth 100000
namespace Go.Ab
open Go.Proofs.Tryz
structure NOk (x:NV):Prop where
 dg:Dg x.ds
 len:x.ds.length < 2 ^ 40
 nil:x.z=true->x.ds=[]
def NV.v (x:NV):Nat:=val x.ds
theorem NOk.fr {x:NV} (h:NOk x):NOk x.fr:=⟨h.dg,h.len,h.nil⟩
theorem qf5 {o:Own} {n:Nat} (h:(qba n).length < 2 ^ 40):NOk ⟨false,o,qba n⟩:=⟨qbC n,h,by simp⟩
theorem qwY {x:NV} (h:NOk x):AP cfg 164 [x.av]=some (NV.av ⟨x.z,.no,qba x.v⟩):=by
 rw[qu1 x (by have:=h.len;omega),qf1 h.dg];rfl
theorem qCB {x y:NV} (hx:NOk x) (hy:NOk y):AP cfg 131 [x.av,y.av]=some (.int .i64 (qhu x.v y.v)):=by
 rw[qHV x y (by have:=hx.len;omega) (by have:=hy.len;omega),qCY hx.dg hy.dg];rfl
theorem qIB {x y:NV} (hx:NOk x) (hy:NOk y):AP cfg 130 [x.av,y.av]=some (NV.av ⟨false,.no,qba (x.v+y.v)⟩):=by
 rw[qHU x y hx.len hy.len hx.dg hy.dg,qCQ hx.dg hy.dg];rfl
theorem qEp {x y:NV} (hx:NOk x) (hy:NOk y):AP cfg 127 [x.av,y.av]=some (NV.av ⟨false,.no,qba (x.v * y.v)⟩):=by
 rw[qHT x y hx.len hy.len hx.dg hy.dg,qDn hx.dg hy.dg];rfl
def qsK (n:Nat):Own:=if n=0 then .full else .no
theorem qj1 (z:Bool) (o:Own) (n:Nat):qhO ⟨z,o,qba n⟩=⟨z,qsK n,qba n⟩:=by
 unfold qhO qsK
 simp only[qff]
theorem qHx {z:Bool} {o:Own} {n:Nat} (h:NOk ⟨z,o,qba n⟩):AP cfg 163 [NV.av ⟨z,o,qba n⟩]=some (NV.av ⟨z,qsK n,qba n⟩):=by
 rw[qHk _ h.nil h.len,qj1]
theorem qE9 {n:Nat} (h:n < 18446744073709551616):ofL n=qba n:=by
 rw[ofL,qf1 (qdO.2 ⟨qcO _ (by omega),qig (by omega)⟩)]
 congr 1
 simp only[val]
 omega
theorem qFW {n:Nat} (h:n < 18446744073709551616):AP cfg 123 [.int .u64 n]=some (NV.av ⟨false,qsK n,qba n⟩):=by
 rw[qHS n h,qE9 h,qj1]
def qFA (ds:List Nat):Bool:=decide (ds=qba (val ds))
theorem qDR {ds:List Nat} (h:ds.length≠0) (h':ds.getD (ds.length - 1) 0≠0):tr ds=ds:=by
 obtain ⟨n,hn⟩:∃ n,ds.length=n+1:=⟨ds.length - 1,by omega⟩
 rw[hn,qbO] at h'
 rw[tr,hn,trN,qah h',<- hn,List.take_length]
theorem qwt {ds:List Nat} (h:Dg ds):qws ds=qFA ds:=by
 unfold qws qFA
 rw[<- qf1 h]
 by_cases h0:ds.length=0
 ·have:ds=[]:=List.length_eq_zero_iff.1 h0
  subst this
  rfl
 ·by_cases h1:ds.getD (ds.length - 1) 0=0
  ·have hlt:(tr ds).length < ds.length:=by
    obtain ⟨n,hn⟩:∃ n,ds.length=n+1:=⟨ds.length - 1,by omega⟩
    rw[hn,qbO] at h1
    have:=qoy ds n
    rw[tr,qbn,hn,trN,qal h1]
    omega
   have hne:¬ ds=tr ds:=fun e=>by rw[<- e] at hlt;omega
   rw[qa7 h0,qa7 hne,h1];rfl
  ·have:=qDR h0 h1
   rw[qa6 this.symm,qa6 h1,Bool.or_true]
def qjk (n:Nat):AV:=if n < 18446744073709551616 then .tup [.int .u64 n,.bool true] else .tup [.int .u64 0,.bool false]
theorem qwD (n:Nat):qhT (qba n)=qjk n:=by
 have hv:=qbv n
 have hd:=qbC n
 unfold qjk
 generalize he:qba n=l at *
 match l,hv,hd with
 | [],hv,_=>
  simp only[val] at hv
  subst hv
  rfl
 | [d],hv,hd=>
  have:=(qdO.1 hd).1
  simp only[val] at hv
  rw[qal (by omega),qhT,<- hv]
  rfl
 | [d,e],hv,hd=>
  have:=(qdO.1 hd).1
  have:=(qdO.1 (qdO.1 hd).2).1
  simp only[val] at hv
  rw[qal (by omega),qhT,<- hv]
  congr 4
  omega
 | d::e::f::l,hv,hd=>
  have hl:2 < (qba n).length:=by rw[he];simp
  have:=qeL hl
  rw[qah (by omega),qhT]
  ·intro h;cases h
  ·intro x h;cases h
  ·intro x y h;cases h
theorem qmf (sh:Sh) (z:Bool) (o:Own) (es:List AV):∀ m k,frz m (k+1) (.lst sh z o es)=some (.lst sh z o.fr es,[]):=by
 intro m k
 cases o<;>rfl
theorem qdv (k:IntKind) (n:Int):∀ m j,frz m (j+1) (.int k n)=some (.int k n,[]):=fun _ _=>rfl
theorem qme (b:Bool):∀ m j,frz m (j+1) (.bool b)=some (.bool b,[]):=fun _ _=>rfl
theorem qgI {a a' b b':AV} (ha:∀ m k,frz m (k+1) a=some (a',[])) (hb:∀ m k,frz m (k+1) b=some (b',[])):Fz (.tup [a,b]) (.tup [a',b']):=by
 intro m
 show (qgc (frz m 8) [a,b]).map _=_
 simp[qgc,ha m 7,hb m 7]
theorem qhj {a a' b b' c c':AV} (ha:∀ m k,frz m (k+1) a=some (a',[])) (hb:∀ m k,frz m (k+1) b=some (b',[])) (hc:∀ m k,frz m (k+1) c=some (c',[])):Fz (.tup [a,b,c]) (.tup [a',b',c']):=by
 intro m
 show (qgc (frz m 8) [a,b,c]).map _=_
 simp[qgc,ha m 7,hb m 7,hc m 7]
theorem qbI {C:Cfg} {f:Nat} {args:List AV} {m:Mem} (v v':AV) (hf:Fz v v') (hv:noV v'=true) (h:AC C f args []=some (v,m)):AP C f args=some v':=
 qeG h (hf m) (by rw[hv,Bool.or_true])
theorem qgl (x:NV):∀ m k,frz m (k+1) x.av=some (x.fr.av,[]):=qmf _ _ _ _
theorem qiU:∀ m k,frz m (k+1) (.lst none true .full [])=some (.lst none true .full [],[]):=qmf _ _ _ _
def qD3:AV:=.lst none true .full []
def qG7 (x y:NV):AV:=if x.v < y.v then .tup [qD3,.int .i64 1] else .tup [NV.av ⟨false,.no,qba (x.v - y.v)⟩,.int .i64 0]
theorem qHt {x y:NV} (hx:NOk x) (hy:NOk y):AP cfg 132 [x.av,y.av]=some (qG7 x y):=by
 have hx':=qgw x.ds
 have lx:=hx.len
 have e1:=qwY hx.fr
 have e2:=qwY hy.fr
 rw[show x.fr.v=x.v from rfl] at e1
 rw[show y.fr.v=y.v from rfl] at e2
 have hxl:(qba x.v).length < 2 ^ 40:=by rw[NV.v,<- qf1 hx.dg];omega
 unfold qG7
 by_cases h:x.v < y.v
 ·rw[qal h]
  refine qbI _ _ (qgI qiU (qdv _ _)) rfl (m:=[]) ?_
  rw[qHn,qcH (qcy x) (qcy y),qCB hx.fr hy.fr]
  simp only[qaf,oBs,qaU,qap,qhu]
  rw[show x.fr.v=x.v from rfl,show y.fr.v=y.v from rfl,qal h,qal (by omega)]
 ·rw[qah h]
  have key:=qDL hx.dg hy.dg (qfz h)
  rw[qf1 hx.dg,qf1 hy.dg,qFH] at key
  refine qbI _ _ (qgI (qgl ⟨false,.no,qba (x.v - y.v)⟩) (qdv _ _)) rfl (m:=[none]) ?_
  rw[qHn,qcH (qcy x) (qcy y),qCB hx.fr hy.fr]
  simp only[qaf,oBs,qaU,qap,qhu]
  rw[show x.fr.v=x.v from rfl,show y.fr.v=y.v from rfl,qah h,qah (by split<;>omega),qbt (qcy x),e1]
  simp only[qaf,oBs,qbt (qcy y),e2,qdj]
  rw[qhn (by omega) (by omega)]
  simp only[oBs]
  have:=qHO ⟨x.z,.no,qba x.v⟩ ⟨y.z,.no,qba y.v⟩ [] (qtu (qbw cfg.P f132.results.toList)) hxl (qbC _) (qbC _) (qba x.v).length 0 (by simp)
  refine this.trans ?_
  rw[qtv]
  have hm:(qmt [] (qfZ (qba x.v) (qba y.v) (qba x.v).length).1)[0]?=some (oc (qfZ (qba x.v) (qba y.v) (qba x.v).length).1):=rfl
  have hp:=qf6 (cp:=AP cfg) (g:=164) hm
  rw[qe1] at hp
  rw[show ([]:Mem).length=0 from rfl,hp,qwY ⟨qi2 (qbC _) (qbC _) _,by simp only[qe1];exact hxl,by simp⟩]
  simp only[qaf,oBs,NV.v]
  rw[qf1 (qi2 (qbC _) (qbC _) _)] at key
  rw[key]
  rfl
theorem qHQ (x:NV) (d:Nat) (m:Mem) (K:KT) (hl:x.ds.length < 2 ^ 40) (dx:Dg x.ds) (hd:0 < d) (hd':d < 4294967296):∀ j k:Nat,k+j=x.ds.length ->
  qqA x.av (dg d) (.arr m.length 0 x.ds.length none) (.int .u64 (shS x.ds d k).2) (.int .i64 ((j:Int) - 1)) (m++[oc (shS x.ds d k).1]) K
   = K (.exit 0) (quZ (.arr m.length 0 x.ds.length none) (.int .u64 (shS x.ds d x.ds.length).2) (m++[oc (shS x.ds d x.ds.length).1])):=by
 intro j
 induction j with
 | zero=>
  intro k hk
  have:k=x.ds.length:=by omega
  subst this
  rw[qny]
  simp[qdD,ifA]
 | succ j ih=>
  intro k hk
  have ih:=ih (k+1) (by omega)
  have hr:=qjG (a:=x.ds) hd k
  have hq:=qpM (a:=x.ds) dx hd k j
  have hlen:=qeE x.ds d k
  have hj:=dx j
  have ej:x.ds.length - 1 - k=j:=by omega
  rw[qny,show ((j+1:Nat):Int) - 1=(j:Nat) by omega]
  simp only[shS,ej] at ih
  generalize shS x.ds d k=t at *
  simp (disch:=omega) only[qoa,oBs,ifA,qkH,qdi,qd4,qln,qoA,qpV,qsU,qlo]
  rw[qbf (by omega),oBs,qbo hq,qdN (qdV ..) (by omega)]
  simp (disch:=omega) only[oBs,qfh]
  rw[qcV _ _ (qak _)]
  simp only[qd1,qau]
  exact ih
theorem qII {x:NV} {d:Nat} (hx:NOk x) (hd:0 < d) (hd':d < 4294967296):AP cfg 202 [x.av,dg d]=some (.tup [NV.av ⟨false,.no,qba (x.v / d)⟩,dg (x.v % d)]):=by
 have lx:=hx.len
 obtain ⟨k1,k2⟩:=qrO hx.dg hd
 have hlt:val x.ds % d < d:=qcO _ hd
 refine qbI _ _ (qgI (qgl ⟨false,.no,qba (x.v / d)⟩) (qdv _ _)) rfl (m:=[none]) ?_
 rw[qIt]
 simp only[qdj,oBs]
 rw[qhn (by omega) (by omega)]
 simp only[oBs]
 rw[qfh (by omega)]
 simp only[oBs]
 have:=qHQ x d [] (qum (qbw cfg.P f202.results.toList)) lx hx.dg hd hd' x.ds.length 0 (by omega)
 refine this.trans ?_
 rw[qun]
 have hm:(([]:Mem)++[oc (shS x.ds d x.ds.length).1])[0]?=some (oc (shS x.ds d x.ds.length).1):=rfl
 have hp:=qf6 (cp:=AP cfg) (g:=164) hm
 rw[qeE] at hp
 rw[qrN,qf1 (qlH hx.dg hd _)] at k1
 rw[show ([]:Mem).length=0 from rfl,hp,qwY ⟨qlH hx.dg hd _,by simp only[qeE];exact lx,by simp⟩,k2]
 simp only[qaf,oBs,NV.v,qlo]
 rw[k1,qbo (Nat.lt_trans hlt hd')]
 rfl
theorem qHR (x:NV) (s:Nat) (m:Mem) (K:KT) (hl:x.ds.length < 2 ^ 40) (dx:Dg x.ds) (hs:s < 32):∀ j i:Nat,i+j=x.ds.length ->
  qqB (.int .u64 s) (.arr m.length 0 (x.ds.length+1) none) x.av (.int .i64 x.ds.length) (.int .i64 i) (m++[oc (sfS x.ds s i)]) K
   = K (.exit 0) (qu0 (.arr m.length 0 (x.ds.length+1) none) (m++[oc (sfS x.ds s x.ds.length)])):=by
 intro j
 induction j with
 | zero=>
  intro i hi
  have:i=x.ds.length:=by omega
  subst this
  rw[qnz]
  simp[qaU,ifA]
 | succ j ih=>
  intro i hi
  have ih:=ih (i+1) (by omega)
  have hlen:=qe0 x.ds s i
  have hd:=dx i
  have h1:=qpL (s:=s) dx i (by omega)
  have h2:=qE2 (x:=x.ds.getD i 0) hs
  have h3:=qDc (x:=x.ds.getD i 0) (s:=s) hd
  have h4:2 ^ s<=2 ^ 31:=qbA (by omega) (by omega)
  have h6:x.ds.getD i 0 * 2 ^ s % 4294967296 % 2 ^ s=0:=by
   rw[<- qfS hs,qaI (2 ^ s),Nat.mul_mod_mul_right,Nat.mul_mod_left]
  rw[qnz]
  simp only[sfS] at ih
  generalize sfS x.ds s i=t at *
  simp (disch:=omega) only[qdc,oBs,qap,qal,qdi,qd4,qbf]
  rw[qfP (qdV ..) (by omega)]
  simp only[dg,oBs]
  rw[qwN hs hd,oBs,qA4 h1 h6 (by omega),oBs,qdN (qdV ..) (by omega)]
  simp (disch:=omega) only[oBs,qbM,qD1,qDV hs,qmM,qlo,qbf]
  rw[qcV _ _ (qak _)]
  simp only[qd1,qau]
  rw[qdN (qdV ..) (by rw[qai];omega),qcV _ _ (qak _)]
  simp only[qd1,qau,oBs]
  rw[qbo (by omega:x.ds.getD i 0 * 2 ^ s / 4294967296 < 4294967296)]
  exact ih
theorem qHC {x:NV} {s:Nat} (m:Mem) (hx:NOk x) (hs:s < 32):AC cfg 204 [x.av,.int .u64 s] m=some (.arr m.length 0 (x.ds.length+1) none,m++[oc (sfS x.ds s x.ds.length)]):=by
 have lx:=hx.len
 rw[qIv]
 simp only[qdj,oBs]
 rw[qbM (by omega),oBs,qhn (by omega) (by omega)]
 simp only[oBs]
 refine (qHR x s m _ lx hx.dg hs x.ds.length 0 (by omega)).trans ?_
 rw[qup]
def lz (x:Nat):Nat:=31 - Nat.log2 x
theorem qDi {x k:Nat} (h:2 ^ k<=x) (h':x < 2 ^ (k+1)):Nat.log2 x=k:=by
 have hx:x≠0:=by have:=qe7 k;omega
 exact (Nat.log2_eq_iff hx).2 ⟨h,h'⟩
def qzq:ByteArray:=⟨⟨[0,1,2,2,3,3,3,3,4,4,4,4,4,4,4,4,5,5,5,5,5,5,5,5,5,5,5,5,5,5,5,5,6,6,6,6,6,6,6,6,6,6,6,6,6,6,6,6,6,6,6,6,6,6,6,6,6,6,6,6,6,6,6,6,7,7,7,7,7,7,7,7,7,7,7,7,7,7,7,7,7,7,7,7,7,7,7,7,7,7,7,7,7,7,7,7,7,7,7,7,7,7,7,7,7,7,7,7,7,7,7,7,7,7,7,7,7,7,7,7,7,7,7,7,7,7,7,7,8,8,8,8,8,8,8,8,8,8,8,8,8,8,8,8,8,8,8,8,8,8,8,8,8,8,8,8,8,8,8,8,8,8,8,8,8,8,8,8,8,8,8,8,8,8,8,8,8,8,8,8,8,8,8,8,8,8,8,8,8,8,8,8,8,8,8,8,8,8,8,8,8,8,8,8,8,8,8,8,8,8,8,8,8,8,8,8,8,8,8,8,8,8,8,8,8,8,8,8,8,8,8,8,8,8,8,8,8,8,8,8,8,8,8,8,8,8,8,8,8,8,8,8,8,8,8,8]⟩⟩
theorem qzr (v:AV):qd9 (.str ⟨⟨[0,1,2,2,3,3,3,3,4,4,4,4,4,4,4,4,5,5,5,5,5,5,5,5,5,5,5,5,5,5,5,5,6,6,6,6,6,6,6,6,6,6,6,6,6,6,6,6,6,6,6,6,6,6,6,6,6,6,6,6,6,6,6,6,7,7,7,7,7,7,7,7,7,7,7,7,7,7,7,7,7,7,7,7,7,7,7,7,7,7,7,7,7,7,7,7,7,7,7,7,7,7,7,7,7,7,7,7,7,7,7,7,7,7,7,7,7,7,7,7,7,7,7,7,7,7,7,7,8,8,8,8,8,8,8,8,8,8,8,8,8,8,8,8,8,8,8,8,8,8,8,8,8,8,8,8,8,8,8,8,8,8,8,8,8,8,8,8,8,8,8,8,8,8,8,8,8,8,8,8,8,8,8,8,8,8,8,8,8,8,8,8,8,8,8,8,8,8,8,8,8,8,8,8,8,8,8,8,8,8,8,8,8,8,8,8,8,8,8,8,8,8,8,8,8,8,8,8,8,8,8,8,8,8,8,8,8,8,8,8,8,8,8,8,8,8,8,8,8,8,8,8,8,8,8,8]⟩⟩) v=qd9 (.str qzq) v:=rfl
theorem qzp:∀ x:Fin 256,(qzq[x.1]?).map (fun b=>b.toNat)=some (if x.1=0 then 0 else Nat.log2 x.1+1):=by decide +kernel
theorem qFD {x:Nat} (h:0 < x) (h':x < 256):qd9 (.str qzq) (.int .u8 x)=some (.int .u8 (Nat.log2 x+1:Nat)):=by
 have:=qzp ⟨x,h'⟩
 simp only[qah (Nat.pos_iff_ne_zero.1 h)] at this
 rw[qd9,qal (by omega),qaQ]
 cases he:qzq[x]? with
 | none=>rw[he] at this;cases this
 | some b=>
  rw[he] at this
  simp only[qaf,qan] at this ⊢
  rw[this]
theorem qFz {a:Nat} {k:IntKind} (h:a < 256):qbl .u8 (.int k a)=some (.int .u8 a):=by
 rw[qcX,show IntKind.wrap .u8 (a:Int)=(a:Int) % 256 from rfl,Int.emod_eq_of_lt (by omega) (by omega)]
theorem qy2 {a:Nat} {k:IntKind} (h:a < 9223372036854775808):qbl .i64 (.int k a)=some (.int .i64 a):=by
 rw[qcX,qbQ (by omega) (by omega)]
theorem qml {x k:Nat} (h:2 ^ k<=x):Nat.log2 x=Nat.log2 (x / 2 ^ k)+k:=by
 have hp:=qe7 k
 have hy:x / 2 ^ k≠0:=by
  have:0 < x / 2 ^ k:=Nat.div_pos h hp
  omega
 have h1:=Nat.log2_self_le hy
 have h2:=Nat.lt_log2_self (n:=x / 2 ^ k)
 apply qDi
 ·rw[qfY]
  exact (quK hp).1 h1
 ·rw[show Nat.log2 (x / 2 ^ k)+k+1=Nat.log2 (x / 2 ^ k)+1+k by omega,qfY]
  exact (qdp hp).1 h2
theorem qwO {tk:TK} {a:Nat}:qaz tk .shr (.int .u32 a) (.int .u64 16)=some (.int .u32 (a / 65536:Nat)):=qpU (s:=16) (by omega)
theorem qrW {tk:TK} {a:Nat}:qaz tk .shr (.int .u32 a) (.int .u64 8)=some (.int .u32 (a / 256:Nat)):=qpU (s:=8) (by omega)
theorem qim {x:Nat} (h:x < 256):Nat.log2 x < 8:=by
 by_cases h0:x=0
 ·subst h0;decide
 ·exact (Nat.log2_lt h0).2 h
theorem qFV {x:Nat} (m:Mem) (h:0 < x) (h':x < 4294967296):AC cfg 199 [dg x] m=some (.int .i64 (Nat.log2 x+1:Nat),m):=by
 have g1:qaz .other .geq (dg x) (.int .u32 65536)=some (.bool (decide (x≥65536))):=qzw (b:=65536)
 have g2:∀ y:Nat,qaz .other .geq (.int .u32 y) (.int .u32 256)=some (.bool (decide (y≥256))):=fun y=>qzw (b:=256)
 have g3:qaz .other .geq (dg x) (.int .u32 256)=some (.bool (decide (x≥256))):=qzw (b:=256)
 have a1:qaz .other .add (.int .i64 16) (.int .i64 8)=some (.int .i64 24):=rfl
 have a2:qaz .other .add (.int .i64 0) (.int .i64 8)=some (.int .i64 8):=rfl
 have b1:∀ y:Nat,y < 300->qaz .other .add (.int .i64 24) (.int .i64 y)=some (.int .i64 (24+y:Nat)):=fun y h=>qfu (a:=24) (by omega)
 have b2:∀ y:Nat,y < 300->qaz .other .add (.int .i64 16) (.int .i64 y)=some (.int .i64 (16+y:Nat)):=fun y h=>qfu (a:=16) (by omega)
 have b3:∀ y:Nat,y < 300->qaz .other .add (.int .i64 8) (.int .i64 y)=some (.int .i64 (8+y:Nat)):=fun y h=>qfu (a:=8) (by omega)
 have b4:∀ y:Nat,y < 300->qaz .other .add (.int .i64 0) (.int .i64 y)=some (.int .i64 (0+y:Nat)):=fun y h=>qfu (a:=0) (by omega)
 have s1:qaz .other .shr (dg x) (.int .u64 16)=some (.int .u32 (x / 65536:Nat)):=qwO
 have s2:qaz .other .shr (dg x) (.int .u64 8)=some (.int .u32 (x / 256:Nat)):=qrW
 have k0:qbl .u8 (dg x)=if x < 256 then some (.int .u8 x) else qbl .u8 (dg x):=by
  split
  ·rename_i h;exact qFz h
  ·rfl
 rw[qIr]
 simp only[qzr,g1,g2,g3,a1,a2,s1,s2,oBs,qap,qrW]
 by_cases c1:x≥65536
 ·rw[qal c1]
  have e1:=qml (x:=x) (k:=16) (by omega)
  rw[show 2 ^ 16=65536 from rfl] at e1
  by_cases c2:x / 65536≥256
  ·rw[qal c2]
   have e2:=qml (x:=x / 65536) (k:=8) (by omega)
   rw[show 2 ^ 8=256 from rfl] at e2
   have l8:=qim (x:=x / 65536 / 256) (by omega)
   rw[qFz (by omega),oBs,qFD (by omega) (by omega),oBs,qy2 (by omega),oBs,b1 _ (by omega),oBs]
   congr 4
   omega
  ·rw[qah c2]
   have l8:=qim (x:=x / 65536) (by omega)
   rw[qFz (by omega),oBs,qFD (by omega) (by omega),oBs,qy2 (by omega),oBs,b2 _ (by omega),oBs]
   congr 4
   omega
 ·rw[qah c1]
  by_cases c2:x≥256
  ·rw[qal c2]
   have e2:=qml (x:=x) (k:=8) (by omega)
   rw[show 2 ^ 8=256 from rfl] at e2
   have l8:=qim (x:=x / 256) (by omega)
   rw[qFz (by omega),oBs,qFD (by omega) (by omega),oBs,qy2 (by omega),oBs,b3 _ (by omega),oBs]
   congr 4
   omega
  ·rw[qah c2]
   have l8:=qim (x:=x) (by omega)
   rw[k0,qal (by omega),oBs,qFD (by omega) (by omega),oBs,qy2 (by omega),oBs,b4 _ (by omega),oBs]
   congr 4
   omega
theorem qIH {x:Nat} (h:0 < x) (h':x < 4294967296):AP cfg 199 [dg x]=some (.int .i64 (Nat.log2 x+1:Nat)):=
 qeG (qFV [] h h') (qcR _ _ _) (by simp[noV])
theorem qIJ {x:Nat} (h:0 < x) (h':x < 4294967296):AP cfg 203 [dg x]=some (.int .i64 (lz x:Nat)):=by
 have hl:Nat.log2 x < 32:=(Nat.log2_lt (by omega)).2 h'
 refine qeG (m:=[]) ?_ (qcR _ _ _) (by simp[noV])
 rw[qIu,qbt (a:=dg x) (a':=dg x) (qcR .u32 x),qIH h h']
 simp only[qaf,oBs]
 have e:qaz .other .sub (.int .i64 32) (.int .i64 (Nat.log2 x+1:Nat))=some (.int .i64 (32 - (Nat.log2 x+1):Nat)):=qgM (a:=32) (by omega) (by omega)
 have e2:32 - (Nat.log2 x+1)=lz x:=by rw[lz];omega
 rw[e,e2]
 rfl
end Go.Ab

/- Division and the greatest common divisor of nat, in values. -/
namespace Go.Ab
open Go.Proofs.Tryz
theorem qCK (v:NV) (u:List Nat) (m:Mem) (K:KT) (x9 x13:AV) (nu L n j top v1 v2 u0 p lo vlo q:Nat)
  (hn:v.ds.length=n) (hn2:2<=n) (hm:m[nu]?=some (oc u)) (hL:u.length=L) (hL':L < 2 ^ 42) (hjn:j+n < L) (du:Dg u) (dv:Dg v.ds)
  (e1:v.ds.getD (n - 1) 0=v1) (e2:v.ds.getD (n - 2) 0=v2) (e3:u.getD (j+n - 2) 0=u0)
  (hv1:2147483648<=v1) (htop:top<=v1 * 4294967296+4294967295) (hlo:lo < p) (hvlo:vlo < p)
  (hq:q=((top * 4294967296+u0) * p+lo) / ((v1 * 4294967296+v2) * p+vlo)) (hqB:q < 4294967296) :
  ∀ k g r:Nat,4294967296<=r+k * v1->r < 4294967296->g * v1+r=top->q<=g ->
  ∃ g',q<=g'/\g' < 4294967296/\g' * ((v1 * 4294967296+v2) * p+vlo) < ((top * 4294967296+u0) * p+lo)+((v1 * 4294967296+v2) * p+vlo) /\
   qiJ x9 (.arr nu 0 L none) v.av (.int .i64 n) x13 (.int .i64 j) (.int .u64 g) (.int .u64 r) m K
    = K (.exit 3) (qhU x9 (.arr nu 0 L none) v.av (.int .i64 n) x13 (.int .i64 j) (.int .u64 g') m):=by
 have hv1':v1 < 4294967296:=e1▸dv (n - 1)
 have hv2':v2 < 4294967296:=e2▸dv (n - 2)
 have hu0':u0 < 4294967296:=e3▸du (j+n - 2)
 intro k
 induction k with
 | zero=>intro g r h1 h2;omega
 | succ k ih=>
  intro g r h1 h2 h3 h4
  have hgB:g < 4294967296+2:=by
   have:g * v1 < (4294967296+2) * v1:=by omega
   exact qi9 this
  have hgv:g * v2<=4294967297 * 4294967295:=qdU (by omega) (by omega)
  have dec:q < g->∃ g',q<=g'/\g' < 4294967296/\g' * ((v1 * 4294967296+v2) * p+vlo) < ((top * 4294967296+u0) * p+lo)+((v1 * 4294967296+v2) * p+vlo) /\
    (if r+v1≥4294967296 then K (.exit 3) (qhU x9 (.arr nu 0 L none) v.av (.int .i64 n) x13 (.int .i64 j) (.int .u64 (g - 1:Nat)) m)
     else qiJ x9 (.arr nu 0 L none) v.av (.int .i64 n) x13 (.int .i64 j) (.int .u64 (g - 1:Nat)) (.int .u64 (r+v1:Nat)) m K)
    = K (.exit 3) (qhU x9 (.arr nu 0 L none) v.av (.int .i64 n) x13 (.int .i64 j) (.int .u64 g') m):=by
   intro hqg
   obtain ⟨g1,hg1⟩:∃ g1,g=g1+1:=⟨g - 1,by omega⟩
   subst hg1
   rw[qbd,qek] at h3
   rw[qbO]
   by_cases hb:r+v1≥4294967296
   ·rw[qal hb]
    have hlt:g1 < 4294967296:=by
     have:g1 * v1 < 4294967296 * v1:=by omega
     exact qi9 this
    refine ⟨g1,by omega,hlt,?_,rfl⟩
    have h5:g1 * v2<=4294967296 * 4294967295:=qdU (by omega) (by omega)
    exact qre (r:=r+v1) (top:=top) (u0:=u0) (by omega) (by omega) hlt hvlo (by omega) rfl rfl
   ·rw[qah hb]
    rw[qbd] at h1
    exact ih g1 (r+v1) (by omega) (by omega) (by omega) (by omega)
  rw[qso]
  simp (disch:=omega) only[qE5,oBs,qap,qrX,qfN,qdi,qd4,qln,qg8,e1]
  by_cases c1:g≥4294967296
  ·rw[qal c1]
   exact dec (by omega)
  ·rw[qah c1]
   simp (disch:=omega) only[qAz,oBs,qdi,qd4,e2]
   rw[qln v2 hv2',oBs,qwP (by omega),oBs,qkH (by omega),oBs,qfu (by omega),oBs,qAz (by omega) (by omega),oBs,qbf (by omega),oBs,
    qfP hm (by omega),oBs,e3,qln u0 hu0',oBs,qoA (by omega) (by omega),oBs,qsG,oBs,qap]
   by_cases c2:g * v2 > r * 4294967296+u0
   ·have hqg:=qzi (q:=q) (vlo:=vlo) h3 c2 hlo (by rw[hq];exact qEg _ _)
    rw[qal c2,qrX (by omega) (by omega),oBs]
    exact dec hqg
   ·rw[qah c2]
    exact ⟨g,h4,by omega,qre h3 (qfz c2) (by omega) hvlo (by omega) rfl rfl,rfl⟩
theorem qCL (v:NV) (u:List Nat) (m0:Mem) (K:KT) (x9 x13:AV) (nu L n j g:Nat)
  (hn:v.ds.length=n) (hm:m0[nu]?=some (oc u)) (hL:u.length=L) (hL':L < 2 ^ 42) (hjn:j+n < L) (du:Dg u) (dv:Dg v.ds) (hg:g < 4294967296):∀ r i:Nat,i+r=n ->
  qjU x9 (.arr nu 0 L none) v.av (.int .i64 n) x13 (.int .i64 j) (.int .u64 g) (.int .u64 (msS v.ds g j i u).2.1) (.int .u64 (msS v.ds g j i u).2.2) (.int .i64 n) (.int .i64 i) (m0.set nu (oc (msS v.ds g j i u).1)) K
   = K (.exit 5) (qo0 x9 (.arr nu 0 L none) v.av (.int .i64 n) x13 (.int .i64 j) (.int .u64 g) (.int .u64 (msS v.ds g j n u).2.1) (.int .u64 (msS v.ds g j n u).2.2) (m0.set nu (oc (msS v.ds g j n u).1))):=by
 have hnu:nu < m0.length:=by
  apply qbJ
  intro h
  rw[qbu (by omega)] at hm
  cases hm
 intro r
 induction r with
 | zero=>
  intro i hi
  have:i=n:=by omega
  subst this
  rw[qlf]
  simp[qaU,ifA]
 | succ r ih=>
  intro i hi
  have ih:=ih (i+1) (by omega)
  have hlen:=qgq v.ds g j u i
  have hb:=qgp v.ds g j u i
  have hc:=qin dv hg j u i
  have hd:=qru (v:=v.ds) (g:=g) du j i (i+j)
  have hvd:=dv i
  have hgv:g * v.ds.getD i 0<=4294967295 * 4294967295:=qdU (by omega) (by omega)
  have s1:qaz .other .shl (.int .u64 1) (.int .u64 32)=some (.int .u64 (4294967296:Nat)):=rfl
  have s0:qaz .other .shl (.int .u64 0) (.int .u64 32)=some (.int .u64 (0:Nat)):=rfl
  rw[qlf]
  simp only[msS] at ih
  generalize msS v.ds g j i u=t at *
  obtain ⟨t,b,c⟩:=t
  simp only[] at *
  have hget:(m0.set nu (oc t))[nu]?=some (oc t):=qhG hnu
  simp (disch:=omega) only[qdc,oBs,qap,qal,qdi,qd4,qln,qwP,qg8,qHd,qfu,qbf,qfP hget,qmM,qbM]
  by_cases h:t.getD (i+j) 0 < (c+g * v.ds.getD i 0) % 4294967296+b
  ·rw[qal h]
   rw[qal h] at ih
   rw[s1,oBs,qg8 (by omega),oBs,qpW (by omega) (by omega),oBs,qlo,oBs,qbo (by omega),qdN hget (by omega),quJ]
   exact ih
  ·rw[qah h]
   rw[qah h] at ih
   rw[s0,oBs,qg8 (by omega),oBs,qpW (by omega) (by omega),oBs,qlo,oBs,qbo (by omega),qdN hget (by omega),quJ]
   exact ih
theorem qCM (v:NV) (u:List Nat) (m0:Mem) (K:KT) (x9 x13 x16:AV) (nu L n j:Nat)
  (hn:v.ds.length=n) (hm:m0[nu]?=some (oc u)) (hL:u.length=L) (hL':L < 2 ^ 42) (hjn:j+n < L) (du:Dg u) (dv:Dg v.ds):∀ r i:Nat,i+r=n ->
  qlS x9 (.arr nu 0 L none) v.av (.int .i64 n) x13 (.int .i64 j) x16 (.int .u64 (abS v.ds j i u).2) (.int .i64 n) (.int .i64 i) (m0.set nu (oc (abS v.ds j i u).1)) K
   = K (.exit 7) (qo1 x9 (.arr nu 0 L none) v.av (.int .i64 n) x13 (.int .i64 j) x16 (.int .u64 (abS v.ds j n u).2) (m0.set nu (oc (abS v.ds j n u).1))):=by
 have hnu:nu < m0.length:=by
  apply qbJ
  intro h
  rw[qbu (by omega)] at hm
  cases hm
 intro r
 induction r with
 | zero=>
  intro i hi
  have:i=n:=by omega
  subst this
  rw[qlg]
  simp[qaU,ifA]
 | succ r ih=>
  intro i hi
  have ih:=ih (i+1) (by omega)
  have hlen:=qgg v.ds j u i
  obtain ⟨hd,hc⟩:=qie dv du j i
  have hd:=hd (i+j)
  have hvd:=dv i
  rw[qlg]
  simp only[abS] at ih
  generalize abS v.ds j i u=t at *
  obtain ⟨t,c⟩:=t
  simp only[] at *
  have hget:(m0.set nu (oc t))[nu]?=some (oc t):=qhG hnu
  simp (disch:=omega) only[qdc,oBs,qap,qal,qdi,qd4,qln,qg8,qfu,qbf,qfP hget,qmM,qbM,qlo,qdN hget,quJ]
  exact ih
theorem qzW {tk:TK} {t y:Nat} (ht:t < 4294967296) (hy:y<=4294967296):∃ w,qaz tk .sub (.int .u64 t) (.int .u64 y)=some w/\qbl .u32 w=some (.int .u32 ((t+4294967296 - y) % 4294967296:Nat)):=by
 refine ⟨_,qel _ _ _ _,?_⟩
 rw[qcX,qei,qkJ]
 congr 2
 omega
theorem qES {v u:List Nat} {n j:Nat} (hv:Dg v) (hu:Dg u) (hn:v.length=n) (hn2:2<=n) :
  val v=(v.getD (n - 1) 0 * 4294967296+v.getD (n - 2) 0) * 4294967296 ^ (n - 2)+vs v (n - 2) /\
  wn u j (n+1)=((u.getD (j+n) 0 * 4294967296+u.getD (j+n - 1) 0) * 4294967296+u.getD (j+n - 2) 0) * 4294967296 ^ (n - 2)+wn u j (n - 2):=by
 obtain ⟨k,rfl⟩:∃ k,n=k+2:=⟨n - 2,by omega⟩
 have e1:k+2 - 1=k+1:=by omega
 have e2:k+2 - 2=k:=by omega
 have e3:j+(k+2) - 1=j+(k+1):=by omega
 have e4:j+(k+2) - 2=j+k:=by omega
 rw[e1,e2,e3,e4]
 constructor
 ·rw[<- qdB (Nat.le_of_eq hn),qc3,qc3,qbB,qbd,qaI (4294967296 ^ k) (v.getD k 0),qaI (4294967296 ^ k * 4294967296),qaI (4294967296 ^ k),qaO]
  omega
 ·rw[wn,wn,wn,qbB (m:=k+1),qbB]
  rw[qbd,qbd,qbd,qaI (4294967296 ^ k) (u.getD (j+k) 0),qaI (4294967296 ^ k * 4294967296) (u.getD (j+(k+1)) 0),qaI (4294967296 ^ k * 4294967296 * 4294967296),qaI (4294967296 ^ k),]
  generalize 4294967296 ^ k=p
  have h1:u.getD (j+(k+1)) 0 * (4294967296 * p)=u.getD (j+(k+1)) 0 * 4294967296 * p:=(qaO _ _ _).symm
  have h2:u.getD (j+(k+2)) 0 * (4294967296 * p * 4294967296)=u.getD (j+(k+2)) 0 * 4294967296 * 4294967296 * p:=by
   rw[Nat.mul_right_comm 4294967296 p,<- qaO,<- qaO]
  rw[h1,h2]
  omega
theorem qER {v u0 u q:List Nat} {n m j:Nat} (hv:Dg v) (hn:v.length=n) (hn2:2<=n) (h:KInv v u0 n m (j+1) u q) :
  u.getD (j+n) 0<=v.getD (n - 1) 0/\wn u j (n+1) / val v < 4294967296/\0 < val v:=by
 have hlt:=h.lt
 have hp:0 < val v:=by omega
 obtain ⟨k,rfl⟩:∃ k,n=k+1:=⟨n - 1,by omega⟩
 have hV:val v=vs v k+4294967296 ^ k * v.getD k 0:=by rw[<- qdB (Nat.le_of_eq hn),qc3]
 have h1:=qoC hv k
 refine ⟨?_,?_,hp⟩
 ·rw[qbO]
  rw[wn,show j+1+k=j+(k+1) by omega] at hlt
  apply qfz
  intro hc
  have:4294967296 ^ k * (v.getD k 0+1)<=4294967296 ^ k * u.getD (j+(k+1)) 0:=qa9 _ hc
  rw[qa8] at this
  omega
 ·rw[qdp hp,qiB]
  have h2:=h.du j
  omega
theorem qzd {top u0 v1 v2 p lo vlo:Nat} (hv1:0 < v1) (hlo:lo < p) (hu:u0 < 4294967296) :
  ((top * 4294967296+u0) * p+lo) / ((v1 * 4294967296+v2) * p+vlo)<=top / v1:=by
 have h:=qEg ((top * 4294967296+u0) * p+lo) ((v1 * 4294967296+v2) * p+vlo)
 generalize ((top * 4294967296+u0) * p+lo) / ((v1 * 4294967296+v2) * p+vlo)=q at *
 rw[quK hv1]
 have h1:(top * 4294967296+u0) * p+lo < (top+1) * 4294967296 * p:=by
  have:(top * 4294967296+u0+1) * p<=(top+1) * 4294967296 * p:=qaS _ (by omega)
  rw[qbd _ 1,qek] at this
  omega
 have h2:q * v1 * 4294967296 * p<=q * ((v1 * 4294967296+v2) * p+vlo):=by
  rw[qaO q,qaO q]
  exact qa9 _ (qa0 (qaS _ (Nat.le_add_right _ _)) (Nat.le_add_right _ _))
 have h3:q * v1 * 4294967296 * p < (top+1) * 4294967296 * p:=by omega
 have h4:=qi9 (qi9 h3)
 omega
def M3 (u q:List Nat):Mem:=[oc u,none,oc q]
theorem qCJ (v:NV) (u0:List Nat) (K:KT) (x9:AV) (L n mm:Nat)
  (hn:v.ds.length=n) (hn2:2<=n) (dv:Dg v.ds) (hL:L=mm+n) (hL':L < 2 ^ 42) (hv1:2147483648<=v.ds.getD (n - 1) 0):∀ (j:Nat) (u q:List Nat),j<=mm->KInv v.ds u0 n mm j u q ->
  ∃ u' q',KInv v.ds u0 n mm 0 u' q'/\qjT x9 (.arr 0 0 L none) v.av (.int .i64 n) (.arr 2 0 mm none) (.int .i64 ((j:Int) - 1)) (M3 u q) K
   = K (.exit 1) (qoZ x9 (.arr 0 0 L none) (.int .i64 n) (.arr 2 0 mm none) (M3 u' q')):=by
 intro j
 induction j with
 | zero=>
  intro u q _ hI
  refine ⟨u,q,hI,?_⟩
  rw[qld]
  simp[qdD,ifA]
 | succ j ih=>
  intro u q hj hI
  have hu:=hI.du
  have hlu:=hI.lu
  have hlq:=hI.lq
  obtain ⟨p1,p2,p3⟩:=qER dv hn hn2 hI
  obtain ⟨t1,t2⟩:=qES (j:=j) dv hu hn hn2
  have d1:=hu (j+n)
  have d2:=hu (j+n - 1)
  have d3:=dv (n - 1)
  have hget:(M3 u q)[0]?=some (oc u):=rfl
  have hVp:=p3
  rw[qld,show ((j+1:Nat):Int) - 1=(j:Nat) by omega]
  simp (disch:=omega) only[qoa,oBs,ifA,qfu,qbf,qfP hget,qln,qkH,qfN,qoA,qdi,qd4,qpV,qsU]
  have hvs:=qoC dv (n - 2)
  have hws:=qpX hu j (n - 2)
  have hdm:=qe6 (u.getD (j+n) 0 * 4294967296+u.getD (j+n - 1) 0) (v.ds.getD (n - 1) 0)
  have hrm:(u.getD (j+n) 0 * 4294967296+u.getD (j+n - 1) 0) % v.ds.getD (n - 1) 0 < v.ds.getD (n - 1) 0:=qcO _ (by omega)
  have hq:wn u j (n+1) / val v.ds=(((u.getD (j+n) 0 * 4294967296+u.getD (j+n - 1) 0) * 4294967296+u.getD (j+n - 2) 0) * 4294967296 ^ (n - 2)+wn u j (n - 2)) / ((v.ds.getD (n - 1) 0 * 4294967296+v.ds.getD (n - 2) 0) * 4294967296 ^ (n - 2)+vs v.ds (n - 2)):=by rw[t1,t2]
  have hle:u.getD (j+n) 0 * 4294967296+u.getD (j+n - 1) 0<=v.ds.getD (n - 1) 0 * 4294967296+4294967295:=by omega
  have h0:4294967296<=(u.getD (j+n) 0 * 4294967296+u.getD (j+n - 1) 0) % v.ds.getD (n - 1) 0+2 * v.ds.getD (n - 1) 0:=by omega
  have h1:(u.getD (j+n) 0 * 4294967296+u.getD (j+n - 1) 0) % v.ds.getD (n - 1) 0 < 4294967296:=by omega
  have h2:(u.getD (j+n) 0 * 4294967296+u.getD (j+n - 1) 0) / v.ds.getD (n - 1) 0 * v.ds.getD (n - 1) 0+(u.getD (j+n) 0 * 4294967296+u.getD (j+n - 1) 0) % v.ds.getD (n - 1) 0=u.getD (j+n) 0 * 4294967296+u.getD (j+n - 1) 0:=by rw[qaI];exact hdm
  have h3:wn u j (n+1) / val v.ds<=(u.getD (j+n) 0 * 4294967296+u.getD (j+n - 1) 0) / v.ds.getD (n - 1) 0:=by
   rw[t1,t2]
   exact qzd (by omega) hws (hu _)
  obtain ⟨g,g1,g2,g3,g4⟩:=qCK v u (M3 u q) (qoN K) x9 (.arr 2 0 mm none) 0 L n j (u.getD (j+n) 0 * 4294967296+u.getD (j+n - 1) 0) (v.ds.getD (n - 1) 0) (v.ds.getD (n - 2) 0) (u.getD (j+n - 2) 0) (4294967296 ^ (n - 2)) (wn u j (n - 2)) (vs v.ds (n - 2))
   (wn u j (n+1) / val v.ds) hn hn2 hget (by omega) hL' (by omega) hu dv rfl rfl rfl hv1 hle hws hvs hq p2 2 ((u.getD (j+n) 0 * 4294967296+u.getD (j+n - 1) 0) / v.ds.getD (n - 1) 0) ((u.getD (j+n) 0 * 4294967296+u.getD (j+n - 1) 0) % v.ds.getD (n - 1) 0) h0 h1 h2 h3
  rw[<- t1,<- t2] at g3
  obtain ⟨s1,s2,s3,s4,s5⟩:=qzk dv hu hn (by omega) g2 p3 g1 g3
  have hI':=KInv.step dv hn (by omega) hI s1 s2 s3 s4 s5 p3
  have hdB:=hI'.dq j
  have hlq':=hI'.lq
  rw[qdk (by omega)] at hdB
  obtain ⟨u',q',i1,i2⟩:=ih _ _ (by omega) hI'
  refine ⟨u',q',i1,g4.trans ?_⟩
  rw[qsf]
  have m0:=qCL v u (M3 u q) (qoO K) x9 (.arr 2 0 mm none) 0 L n j g hn hget (by omega) hL' (by omega) hu dv g2 n 0 (by omega)
  refine Eq.trans ?_ (m0.trans ?_)
  ·rfl
  rw[qsg]
  have hb:=qgp v.ds g j u n
  have hc:=qin dv g2 j u n
  have hd:=qru (v:=v.ds) (g:=g) hu j n
  have hl:=qgq v.ds g j u n
  have hwn0:=qv4 (v:=v.ds) (g:=g) hu j n (by omega)
  unfold kdU at i2 hdB
  simp only[] at i2 hdB
  generalize msS v.ds g j n u=t at *
  obtain ⟨t,b,c⟩:=t
  simp only[] at *
  have hM:(M3 u q).set 0 (oc t)=M3 t q:=rfl
  have hget2:(M3 t q)[0]?=some (oc t):=rfl
  have hset2:∀ l r:List Nat,(M3 l q).set 0 (oc r)=M3 r q:=fun _ _=>rfl
  have hget3:∀ l r:List Nat,(M3 l r)[2]?=some (oc r):=fun _ _=>rfl
  have hset3:∀ l r p:List Nat,(M3 l r).set 2 (oc p)=M3 l p:=fun _ _ _=>rfl
  rw[hM]
  have hd4:=hd (j+n)
  obtain ⟨w,w1,w2⟩:=qzW (tk:=.other) (t:=t.getD (j+n) 0) (y:=c+b) hd4 (by omega)
  simp (disch:=omega) only[qg8,oBs,qfu,qbf,qfP hget2,qln,qdc,w1,w2,qdN hget2,hset2]
  rw[qap]
  by_cases hc1:t.getD (j+n) 0 < c+b
  ·rw[qal hc1]
   rw[qal hc1] at i2 hdB
   have hd5:Dg (t.set (j+n) (t.getD (j+n) 0+4294967296 - (c+b))):=hd.set _ _ (by omega)
   have m1:=qCM v (t.set (j+n) (t.getD (j+n) 0+4294967296 - (c+b))) (M3 (t.set (j+n) (t.getD (j+n) 0+4294967296 - (c+b))) q) (qoP K) x9 (.arr 2 0 mm none) (.int .u64 (g - 1:Nat)) 0 L n j hn rfl (by rw[qai];omega) hL' (by omega) hd5 dv n 0 (by omega)
   have ha:=qie dv hd5 j n
   have hal:=qgg v.ds j (t.set (j+n) (t.getD (j+n) 0+4294967296 - (c+b))) n
   have hg0:0 < g:=by
    apply qbG
    intro e0
    rw[e0,qHj,qby] at hwn0
    have hlt:=qpX hd j n
    have h9:4294967296 ^ n * 1<=4294967296 ^ n * (c+b):=qa9 _ (by omega)
    omega
   rw[show (t.getD (j+n) 0+4294967296 - (c+b)) % 4294967296=t.getD (j+n) 0+4294967296 - (c+b) by omega,qrX (by omega) (by omega),oBs]
   rw[qai] at hal
   refine Eq.trans ?_ (m1.trans ?_)
   ·rfl
   generalize abS v.ds j n (t.set (j+n) (t.getD (j+n) 0+4294967296 - (c+b)))=w at *
   obtain ⟨w,x⟩:=w
   simp only[] at *
   obtain ⟨a1,a2⟩:=ha
   rw[hset2,qsh]
   have hget4:(M3 w q)[0]?=some (oc w):=rfl
   rw[qfu (by omega),oBs,qbf (by omega),oBs,qfP hget4 (by omega),oBs,qlo,oBs,qbo (by omega:x < 4294967296),dg,qDU,oBs,oBs,
    qdN hget4 (by omega),hset2,oBs,qlo,oBs,qbf (by omega),oBs,qdN (hget3 _ _) (by omega),hset3,oBs,qfh (by omega),oBs]
   rw[qbo (by omega:g - 1 < 4294967296)]
   exact i2
  ·rw[qah hc1]
   rw[qah hc1] at i2 hdB
   rw[qlo,oBs,qdN (hget3 _ _) (by omega),hset3,oBs,qfh (by omega),oBs]
   rw[show (t.getD (j+n) 0+4294967296 - (c+b)) % 4294967296=t.getD (j+n) 0 - (c+b) by omega,qbo g2]
   exact i2
theorem qCN (u q:List Nat) (K:KT) (x13:AV) (s L n:Nat) (du:Dg u) (hL:u.length=L) (hL':L < 2 ^ 42) (hn:n < L) (hs:s < 32):∀ r i:Nat,i+r=n ->
  qjV (.int .u64 s) (.arr 0 0 L none) x13 (.arr 3 0 n none) (.int .i64 n) (.int .i64 i) (M3 u q++[oc (unS u s i++List.replicate r 0)]) K
   = K (.exit 9) (qo2 x13 (.arr 3 0 n none) (M3 u q++[oc (unS u s n)])):=by
 intro r
 induction r with
 | zero=>
  intro i hi
  have:i=n:=by omega
  subst this
  rw[qlh]
  simp[qaU,ifA]
 | succ r ih=>
  intro i hi
  have ih:=ih (i+1) (by omega)
  have hlen:=qgx u s i
  have hd1:=du i
  have hd2:=du (i+1)
  have b1:=qFq hs hd1
  have b2:=qA6 (y:=u.getD (i+1) 0) hs hd1
  have b3:u.getD (i+1) 0 * 2 ^ (32 - s) % 4294967296 % 2 ^ (32 - s)=0:=by rw[qDW hs,Nat.mul_mod_left]
  have hget0:∀ l,(M3 u q++[oc l])[0]?=some (oc u):=fun _=>rfl
  have hget3:∀ l,(M3 u q++[oc l])[3]?=some (oc l):=fun _=>rfl
  have hset3:∀ l l',(M3 u q++[oc l]).set 3 (oc l')=M3 u q++[oc l']:=fun _ _=>rfl
  have hrow:∀ x,(unS u s i++List.replicate (r+1) 0).set i x=unS u s i++x::List.replicate r 0:=by
   intro x
   rw[qcV _ _ (by omega),hlen,qd1,qg5,qau]
  have hrow2:∀ x y,(unS u s i++x::List.replicate r 0).set i y=unS u s i++y::List.replicate r 0:=by
   intro x y
   rw[qcV _ _ (by omega),hlen,qd1,qau]
  have hrow3:∀ x,(unS u s i++x::List.replicate r 0).getD i 0=x:=by
   intro x
   rw[qaa,qcG (by omega),hlen,qd1]
   rfl
  have hl1:i < (unS u s i++List.replicate (r+1) 0).length:=by rw[qab,hlen,qdn];omega
  have hl2:∀ x,i < (unS u s i++x::List.replicate r 0).length:=by intro x;rw[qab,hlen,qad,qdn];omega
  rw[unS,qaL,qas,qaw] at ih
  rw[qlh,qdc,oBs,qap,qal (by omega),qbf (by omega),oBs,qfP (hget0 _) (by omega),oBs,dg,qpU hs,oBs,qbf (by omega),oBs,
   qdN (hget3 _) hl1,hset3,hrow,oBs,qio,oBs,qap]
  by_cases h0:s > 0
  ·rw[qal h0]
   have e32:qaz .other .sub (.int .u64 32) (.int .u64 s)=some (.int .u64 (32 - s:Nat)):=qpW (a:=32) (by omega) (by omega)
   rw[oBs,qfP (hget3 _) (hl2 _),oBs,hrow3,qbM (by omega),oBs,qbf (by omega),oBs,qfP (hget0 _) (by omega),oBs,e32,oBs,dg,dg,qwN (by omega) hd2,oBs,
    qA4 b1 b3 b2,oBs,oBs,qdN (hget3 _) (hl2 _),hset3,hrow2,oBs,oBs]
   exact ih
  ·rw[qah h0,qbM (by omega),oBs]
   have hs0:s=0:=by omega
   subst hs0
   rw[show u.getD (i+1) 0 * 2 ^ (32 - 0) % 4294967296=0 from Nat.mul_mod_left _ _,qby] at ih
   exact ih
end Go.Ab

/- Division and the greatest common divisor of nat, in values. -/
namespace Go.Ab
open Go.Proofs.Tryz
def qkN (x y:NV):NV:=if x.v < y.v then ⟨true,.full,[]⟩ else ⟨false,.no,qba (x.v / y.v)⟩
def qoD (x y:NV):NV:=if x.v < y.v then ⟨x.z,qsK x.v,qba x.v⟩ else if y.v < 4294967296 then ⟨false,qsK (x.v % y.v),qba (x.v % y.v)⟩ else ⟨false,.no,qba (x.v % y.v)⟩
theorem ql7 (x y:NV):(qkN x y).ds=qba (x.v / y.v):=by
 unfold qkN
 split
 ·rename_i h;rw[qkM h,qcP]
 ·rfl
theorem ql8 (x y:NV):(qoD x y).ds=qba (x.v % y.v):=by
 unfold qoD
 split
 ·rename_i h;rw[qbo h]
 ·split<;>rfl
theorem qcF {a b:Nat} (h:a<=b):(qba a).length<=(qba b).length:=by
 have:=qeF (qbC b)
 rw[qbv] at this
 exact qbp (qa2 h this)
theorem NOk.v_len {x:NV} (h:NOk x):(qba x.v).length<=x.ds.length:=qhf h.dg
theorem NOk.v_len' {x:NV} (h:NOk x):(qba x.v).length < 2 ^ 40:=qa2 h.v_len h.len
theorem NOk.z_v {x:NV} (h:NOk x):x.z=true->qba x.v=[]:=by
 intro hz
 rw[NV.v,h.nil hz]
 exact qcP
theorem qvw {x y:NV} (hx:NOk x):NOk (qkN x y):=by
 refine ⟨by rw[ql7];exact qbC _,?_,?_⟩
 ·rw[ql7]
  exact qa2 (qcF (qib _ _)) hx.v_len'
 ·unfold qkN
  split
  ·intro _;rfl
  ·intro h;cases h
theorem qC3 {x y:NV} (hx:NOk x):NOk (qoD x y):=by
 refine ⟨by rw[ql8];exact qbC _,?_,?_⟩
 ·rw[ql8]
  exact qa2 (qcF (Nat.mod_le _ _)) hx.v_len'
 ·unfold qoD
  split
  ·exact hx.z_v
  ·split<;>(intro h;cases h)
theorem qmv (n:Nat):(qsK n).fr=qsK n:=by unfold qsK;split<;>rfl
theorem qj6 (x y:NV):(qkN x y).fr=qkN x y:=by unfold qkN;split<;>rfl
theorem ql9 (x y:NV):(qoD x y).fr=qoD x y:=by
 unfold qoD
 split
 ·simp only[NV.fr,qmv]
 ·split
  ·simp only[NV.fr,qmv]
  ·rfl
theorem qvx (x y:NV):(qoD x y).v=x.v % y.v:=by rw[NV.v,ql8,qbv]
def qFB (x y:NV):AV:=if y.v=0 then .tup [qD3,qD3,.int .i64 31] else .tup [(qkN x y).av,(qoD x y).av,.int .i64 0]
theorem qc5 {n:Nat}:(qba n).length=0↔n=0:=by rw[List.length_eq_zero_iff];exact qff
theorem qii {n:Nat}:(qba n).length=1↔n≠0/\n < 4294967296:=by
 constructor
 ·intro h
  have h1:=qeF (qbC n)
  rw[qbv,h] at h1
  exact ⟨fun e=>by rw[e,qcP] at h;simp at h,by simpa using h1⟩
 ·intro ⟨h,h'⟩
  have h1:=qbp (k:=1) (n:=n) (by simpa using h')
  have h2:(qba n).length≠0:=fun e=>h (qc5.1 e)
  omega
theorem qih {n:Nat} (h:n≠0):(qba n).getD ((qba n).length - 1) 0≠0:=by
 intro e
 have h1:qFA (qba n)=true:=by rw[qFA,qbv];exact qa6 rfl
 rw[<- qwt (qbC n),qws] at h1
 have h2:¬ (qba n).length=0:=fun e=>h (qc5.1 e)
 rw[e] at h1
 simp[h2] at h1
theorem qro {t:Nat} (h:0 < t) (h':t < 4294967296):lz t < 32/\2147483648<=t * 2 ^ lz t/\t * 2 ^ lz t < 4294967296:=by
 have hl:Nat.log2 t < 32:=(Nat.log2_lt (by omega)).2 h'
 have h1:=Nat.log2_self_le (n:=t) (by omega)
 have h2:=Nat.lt_log2_self (n:=t)
 unfold lz
 generalize Nat.log2 t=k at *
 have e:2 ^ k * 2 ^ (31 - k)=2147483648:=by rw[<- qfY,show k+(31 - k)=31 by omega]
 have e2:2 ^ (k+1) * 2 ^ (31 - k)=4294967296:=by rw[<- qfY,show k+1+(31 - k)=32 by omega]
 refine ⟨by omega,?_,?_⟩
 ·rw[<- e];exact qaS _ h1
 ·rw[<- e2];exact Nat.mul_lt_mul_of_pos_right h2 (qe7 _)
theorem qpN {b:Nat} {n:Nat} (hn:(qba b).length=n) (hn2:1<=n) (hs:lz ((qba b).getD (n - 1) 0) < 32) :
  (qba (2 ^ lz ((qba b).getD (n - 1) 0) * b)).length=n/\2147483648<=(qba (2 ^ lz ((qba b).getD (n - 1) 0) * b)).getD (n - 1) 0:=by
 have hb:b≠0:=by intro e;rw[e,qcP] at hn;simp at hn;omega
 have hlast:=qih hb
 rw[hn] at hlast
 have hd:=qbC b (n - 1)
 obtain ⟨s1,s2,s3⟩:=qro (qbG hlast) hd
 obtain ⟨k,rfl⟩:∃ k,n=k+1:=⟨n - 1,by omega⟩
 rw[qbO] at *
 have hv:b=vs (qba b) k+4294967296 ^ k * (qba b).getD k 0:=by rw[<- qc3,qdB (Nat.le_of_eq hn),qbv]
 have hlo:=qoC (qbC b) k
 generalize (qba b).getD k 0=t at *
 generalize vs (qba b) k=l at *
 generalize lz t=s at *
 have hp:=qe7 s
 have hlt:2 ^ s * b < 4294967296 ^ (k+1):=by
  have h1:b < 4294967296 ^ k * (t+1):=by rw[qa8];omega
  have h4:(t+1) * 2 ^ s<=4294967296:=by
   have hpw:2 ^ s * 2 ^ (32 - s)=4294967296:=qfS s1
   rw[<- hpw,qaI] at s3 ⊢
   have:=Nat.lt_of_mul_lt_mul_left s3
   exact qa9 _ this
  have h2:2 ^ s * b < 2 ^ s * (4294967296 ^ k * (t+1)):=Nat.mul_lt_mul_of_pos_left h1 hp
  have h3:2 ^ s * (4294967296 ^ k * (t+1))=4294967296 ^ k * ((t+1) * 2 ^ s):=by rw[Nat.mul_left_comm,qaI (2 ^ s)]
  have h5:4294967296 ^ k * ((t+1) * 2 ^ s)<=4294967296 ^ k * 4294967296:=qa9 _ h4
  rw[qbB]
  omega
 have hge:4294967296 ^ k * (t * 2 ^ s)<=2 ^ s * b:=by
  rw[qaI t,Nat.mul_left_comm]
  exact qa9 _ (by omega)
 have hlen1:=qbp hlt
 have hlen2:k < (qba (2 ^ s * b)).length:=by
  apply qbJ
  intro hc
  have h1:=qeF (qbC (2 ^ s * b))
  rw[qbv] at h1
  have h2:4294967296 ^ (qba (2 ^ s * b)).length<=4294967296 ^ k:=qbA (by omega) (by omega)
  have h3:4294967296 ^ k * 1<=4294967296 ^ k * (t * 2 ^ s):=qa9 _ (by omega)
  omega
 refine ⟨by omega,?_⟩
 have hv2:2 ^ s * b=vs (qba (2 ^ s * b)) k+4294967296 ^ k * (qba (2 ^ s * b)).getD k 0:=by rw[<- qc3,qdB (by omega),qbv]
 have hlo2:=qoC (qbC (2 ^ s * b)) k
 generalize (qba (2 ^ s * b)).getD k 0=y at *
 generalize vs (qba (2 ^ s * b)) k=l2 at *
 apply qbJ
 intro hc
 have h1:4294967296 ^ k * (y+1)<=4294967296 ^ k * (t * 2 ^ s):=qa9 _ (by omega)
 rw[qa8] at h1
 omega
theorem qsA {v u0:List Nat} {n m:Nat} (du:Dg u0) (hu:u0.length=m+n) (hlt:wn u0 m n < val v):KInv v u0 n m m u0 (List.replicate m 0) where
 du:=du
 lu:=hu
 dq:=qj5 m
 lq:=qdn
 hi:=by
  intro k hk
  exact qgL (by omega)
 lo:=fun _ _=>rfl
 lt:=hlt
 eq:=by rw[qd1,wn,qHj,qar,Nat.add_sub_cancel_left]
theorem qFp {u v:List Nat} {n m:Nat} (hu:Dg u) (hn:v.length=n) (hn2:1<=n) (h:u.getD (m+n - 1) 0 < v.getD (n - 1) 0):wn u m n < val v:=by
 obtain ⟨k,rfl⟩:∃ k,n=k+1:=⟨n - 1,by omega⟩
 rw[qbO,show m+(k+1) - 1=m+k by omega] at h
 have h1:=qpX hu m k
 have h2:4294967296 ^ k * (u.getD (m+k) 0+1)<=4294967296 ^ k * v.getD k 0:=qa9 _ h
 rw[wn,<- qdB (Nat.le_of_eq hn),qc3]
 rw[qa8] at h2
 omega
theorem qFX {x y:NV} (hx:NOk x) (hy:NOk y):AP cfg 187 [x.av,y.av]=some (qFB x y):=by
 have lx:=hx.v_len'
 have ly:=hy.v_len'
 have hX:NOk ⟨x.z,.no,qba x.v⟩:=⟨qbC _,lx,hx.z_v⟩
 have hY:NOk ⟨y.z,.no,qba y.v⟩:=⟨qbC _,ly,hy.z_v⟩
 have e1:=qwY hx.fr
 have e2:=qwY hy.fr
 rw[show x.fr.v=x.v from rfl,show x.fr.z=x.z from rfl] at e1
 rw[show y.fr.v=y.v from rfl,show y.fr.z=y.z from rfl] at e2
 have e3:=qCB hX hY
 have vX:(NV.mk x.z .no (qba x.v)).v=x.v:=qbv _
 have vY:(NV.mk y.z .no (qba y.v)).v=y.v:=qbv _
 rw[vX,vY] at e3
 have fX:=qcy ⟨x.z,.no,qba x.v⟩
 have fY:=qcy ⟨y.z,.no,qba y.v⟩
 rw[show (NV.mk x.z .no (qba x.v)).fr=⟨x.z,.no,qba x.v⟩ from rfl] at fX
 rw[show (NV.mk y.z .no (qba y.v)).fr=⟨y.z,.no,qba y.v⟩ from rfl] at fY
 unfold qFB
 by_cases h0:y.v=0
 ·rw[qal h0]
  refine qbI _ _ (qhj qiU qiU (qdv _ _)) rfl (m:=[]) ?_
  rw[qFv,qbt (qcy x),e1,qaf,oBs,qbt (qcy y),e2,qaf,oBs,qdj,oBs,qfb,oBs,qap,qal (qc5.2 h0)]
 ·rw[qah h0]
  have hn0:¬ (qba y.v).length=0:=fun e=>h0 (qc5.1 e)
  by_cases h1:x.v < y.v
  ·have hc:qhu x.v y.v < 0:=by unfold qhu;rw[qal h1];omega
   refine qbI _ _ (qhj (qgl (qkN x y)) (qgl (qoD x y)) (qdv _ _)) rfl (m:=[]) ?_ |>.trans (by rw[qj6,ql9])
   rw[qFv,qbt (qcy x),e1,qaf,oBs,qbt (qcy y),e2,qaf,oBs,qdj,oBs,qfb,oBs,qap,qah hn0,
    qcH fX fY,e3,qaf,oBs,qaU,oBs,qap,qal hc,qbt fX,qHx hX,qaf,oBs]
   unfold qkN qoD
   rw[qal h1,qal h1]
   rfl
  ·have hc:¬ qhu x.v y.v < 0:=by unfold qhu;rw[qah h1];split<;>omega
   by_cases h2:y.v < 4294967296
   ·have hn1:(qba y.v).length=1:=qii.2 ⟨h0,h2⟩
    have hdig:(qba y.v).getD 0 0=y.v:=by
     rw[qgF h0,qcz,qbo h2]
    have hlt:x.v % y.v < y.v:=qcO _ (by omega)
    refine qbI _ _ (qhj (qgl (qkN x y)) (qgl (qoD x y)) (qdv _ _)) rfl (m:=[]) ?_ |>.trans (by rw[qj6,ql9])
    have e4:=qII (d:=y.v) hX (by omega) h2
    rw[vX] at e4
    rw[qFv,qbt (qcy x),e1,qaf,oBs,qbt (qcy y),e2,qaf,oBs,qdj,oBs,qfb,oBs,qap,qah hn0,
     qcH fX fY,e3,qaf,oBs,qaU,oBs,qap,qah hc,oBs,qji,oBs,qap,qal hn1,qil (by simp only[hn1];omega),oBs,qd4,oBs]
    simp only[hdig]
    rw[qcH (b:=dg y.v) (b':=dg y.v) fX (qcR .u32 y.v),e4]
    simp only[qaf,oBs,qaF]
    rw[show ([NV.av ⟨false,.no,qba (x.v / y.v)⟩,dg (x.v % y.v)]:List AV)[0]?=some (NV.av ⟨false,.no,qba (x.v / y.v)⟩) from rfl,show ([NV.av ⟨false,.no,qba (x.v / y.v)⟩,dg (x.v % y.v)]:List AV)[1]?=some (dg (x.v % y.v)) from rfl,
     oBs,oBs,qln _ (by omega),oBs,qbt (qcR _ _),qFW (by omega)]
    unfold qkN qoD
    rw[qah h1,qah h1,qal h2]
    rfl
   ·have hn1:¬ (qba y.v).length=1:=fun e=>h2 (qii.1 e).2
    obtain ⟨n,hn⟩:∃ n,n=(qba y.v).length:=⟨_,rfl⟩
    have hn2:2<=n:=by omega
    have hlast:=qih h0
    rw[<- hn] at hlast
    have htd:=qbC y.v (n - 1)
    obtain ⟨z1,z2,z3⟩:=qro (qbG hlast) htd
    obtain ⟨w1,w2⟩:=qpN hn.symm (by omega) z1
    have hle:y.v<=x.v:=qfz h1
    have hmono:=qcF hle
    generalize hs:lz ((qba y.v).getD (n - 1) 0)=s at *
    have hsub:(sfS (qba x.v) s (qba x.v).length).length=(qba x.v).length+1:=qe0 _ _ _
    have hsvb:(sfS (qba y.v) s (qba y.v).length).length=(qba y.v).length+1:=qe0 _ _ _
    have hsu:val (sfS (qba x.v) s (qba x.v).length)=2 ^ s * x.v:=by rw[qAV,qbv]
    have hsv:val (sfS (qba y.v) s (qba y.v).length)=2 ^ s * y.v:=by rw[qAV,qbv]
    have hdu:Dg (sfS (qba x.v) s (qba x.v).length):=qwB (qbC _) z1 _ (qak _)
    have hdv:Dg (sfS (qba y.v) s (qba y.v).length):=qwB (qbC _) z1 _ (qak _)
    have htop:(sfS (qba x.v) s (qba x.v).length).getD (qba x.v).length 0 < 2 ^ s:=qpL (qbC _) _ (qak _)
    have hpow:2 ^ s<=2 ^ 31:=qbA (by omega) (by omega)
    obtain ⟨mm,hmm⟩:∃ mm,(qba x.v).length+1=mm+n:=⟨(qba x.v).length+1 - n,by omega⟩
    have hW:NOk ⟨false,.no,qba (2 ^ s * y.v)⟩:=⟨qbC _,by simp only[w1];omega,by simp⟩
    have e5:AP cfg 164 [(NV.mk false .no (sfS (qba y.v) s (qba y.v).length)).av]=some (NV.av ⟨false,.no,qba (2 ^ s * y.v)⟩):=by
     rw[qu1 _ (by simp only[hsvb];omega),qf1 hdv,hsv]
    have hp:=qf6 (cp:=AP cfg) (g:=164) (m:=[oc (sfS (qba x.v) s (qba x.v).length),oc (sfS (qba y.v) s (qba y.v).length)]) (nm:=1) (ds:=sfS (qba y.v) s (qba y.v).length) rfl
    have hI:=qsA (v:=qba (2 ^ s * y.v)) (n:=n) (m:=mm) hdu (by omega) (qFp hdu w1 (by omega) (by
     rw[show mm+n - 1=(qba x.v).length by omega]
     exact qcU htop (qa0 hpow w2)))
    obtain ⟨u',q',i1,i2⟩:=qCJ ⟨false,.no,qba (2 ^ s * y.v)⟩ _ (qoM (qbw cfg.P f187.results.toList)) (.int .u64 s) (mm+n) n mm w1 hn2 (qbC _) rfl (by omega) w2 mm _ _ (qak _) hI
    obtain ⟨k1,k2⟩:=KInv.done (a:=qba x.v) (b:=qba y.v) z1 (by omega) (by rw[hsu,qbv]) (by rw[qbv,qbv]) i1
    rw[qbv,qbv] at k1 k2
    have hlq:=i1.lq
    have hlu:=i1.lu
    have i3:=qCN u' q' (qoQ (qbw cfg.P f187.results.toList)) (.arr 2 0 mm none) s (mm+n) n i1.du hlu (by omega) (by omega) z1 n 0 (by omega)
    have p1:=qf6 (cp:=AP cfg) (g:=164) (m:=M3 u' q'++[oc (unS u' s n)]) (nm:=2) (ds:=q') rfl
    have p2:=qf6 (cp:=AP cfg) (g:=164) (m:=(M3 u' q'++[oc (unS u' s n)]).set 2 none) (nm:=3) (ds:=unS u' s n) rfl
    rw[hlq] at p1
    rw[qgx] at p2
    have f1:=qwY (x:=⟨false,.no,q'⟩) ⟨i1.dq,by simp only[hlq];omega,by simp⟩
    have f2:=qwY (x:=⟨false,.no,unS u' s n⟩) ⟨qrY i1.du z1 n,by simp only[qgx];omega,by simp⟩
    rw[NV.v,<- qf1 i1.dq,k1] at f1
    rw[NV.v,<- qf1 (qrY i1.du z1 n),k2] at f2
    refine qbI _ _ (qhj (qgl (qkN x y)) (qgl (qoD x y)) (qdv _ _)) rfl (m:=[oc u',none,none,none]) ?_ |>.trans (by rw[qj6,ql9])
    rw[qFv,qbt (qcy x),e1,qaf,oBs,qbt (qcy y),e2,qaf,oBs,qdj,oBs,qfb,oBs,qap,qah hn0,
     qcH fX fY,e3,qaf,oBs,qaU,oBs,qap,qah hc,oBs,qji,oBs,qap,qah hn1,
     oBs,qfN (by simp only[];omega) (by simp only[];omega),oBs,qdi (by simp only[];omega),oBs,qd4,oBs]
    simp only[show (qba y.v).getD ((qba y.v).length - 1) 0=(qba y.v).getD (n - 1) 0 by rw[hn]]
    rw[qbt (a:=dg ((qba y.v).getD (n - 1) 0)) (a':=dg ((qba y.v).getD (n - 1) 0)) (qcR _ _),qIJ (qbG hlast) htd,qaf,oBs,hs,qD1 (by omega),oBs,qHC [] hX z1,oBs,qHC _ hY z1,oBs]
    simp only[qaw,qae,qad,qas]
    rw[hsvb] at hp
    rw[hp,e5,qaf,oBs,qdj,oBs,qDh,oBs]
    simp only[w1,hmm]
    rw[qgM (by omega) (by omega),oBs,qbO,qhn (by omega) (by omega),oBs,oBs,qgM (by omega) (by omega),oBs,qbO,qfh (by omega),oBs]
    refine Eq.trans ?_ (i2.trans ?_)
    ·rfl
    rw[qse,qhn (by omega) (by omega),oBs]
    refine Eq.trans ?_ (i3.trans ?_)
    ·rfl
    rw[qsi,p1,f1,qaf,oBs,p2,f2,qaf,oBs]
    unfold qkN qoD
    rw[qah h1,qah h1,qah h2]
    rfl
end Go.Ab

/- The greatest common divisor and the binary digits of nat, in values. -/
namespace Go.Ab
open Go.Proofs.Tryz
def qkR (x y:NV):NV:=⟨if Nat.gcd x.v y.v=0 then x.z else false,qsK (Nat.gcd x.v y.v),qba (Nat.gcd x.v y.v)⟩
theorem qIQ (K:KT) (m:Mem):∀ (n:Nat) (a b:NV),NOk a->NOk b->a.ds=qba a.v->b.ds=qba b.v->b.v=n->a.fr=a->b.fr=b ->
  ∃ c:NV,NOk c/\c.ds=qba (Nat.gcd a.v b.v)/\c.fr=c/\(b.v=0->c.z=a.z)/\qqu a.av b.av m K=K (.exit 0) (quY c.av m):=by
 intro n
 induction n using Nat.strongRecOn with
 | ind n ih=>
  intro a b ha hb ca cb hn fa fb
  have fza:=qcy a
  have fzb:=qcy b
  rw[fa] at fza
  rw[fb] at fzb
  rw[quD,qdj,oBs,qio,oBs,qap]
  by_cases h:b.v=0
  ·have hl:¬ b.ds.length > 0:=by rw[cb,h,qcP];simp
   rw[qah hl]
   exact ⟨a,ha,by rw[h,Nat.gcd_zero_right];exact ca,fa,fun _=>rfl,rfl⟩
  ·have hl:b.ds.length > 0:=by
    rw[cb]
    have:(qba b.v).length≠0:=fun e=>h (qc5.1 e)
    omega
   rw[qal hl,qcH fza fzb,qFX ha hb,qFB,qah h]
   simp only[qaf,oBs]
   have hlt:a.v % b.v < b.v:=qcO _ (qbG h)
   obtain ⟨c,c1,c2,c3,c4,c5⟩:=ih (a.v % b.v) (by omega) b (qoD a b) hb (qC3 ha) cb (by rw[ql8,qvx]) (qvx a b) fb (ql9 a b)
   rw[qvx] at c2
   refine ⟨c,c1,?_,c3,fun e=>absurd e h,c5⟩
   rw[c2,qic b.v,<- Nat.gcd_rec,qic]
theorem qIG {x y:NV} (hx:NOk x) (hy:NOk y):AP cfg 183 [x.av,y.av]=some (qkR x y).av:=by
 have lx:=hx.v_len'
 have ly:=hy.v_len'
 have hX:NOk ⟨x.z,.no,qba x.v⟩:=⟨qbC _,lx,hx.z_v⟩
 have hY:NOk ⟨y.z,.no,qba y.v⟩:=⟨qbC _,ly,hy.z_v⟩
 have e1:=qwY hx.fr
 have e2:=qwY hy.fr
 rw[show x.fr.v=x.v from rfl,show x.fr.z=x.z from rfl] at e1
 rw[show y.fr.v=y.v from rfl,show y.fr.z=y.z from rfl] at e2
 have vX:(NV.mk x.z .no (qba x.v)).v=x.v:=qbv _
 have vY:(NV.mk y.z .no (qba y.v)).v=y.v:=qbv _
 obtain ⟨⟨cz,co,cd⟩,c1,c2,c3,c4,c5⟩:=qIQ (qtZ (qbw cfg.P f183.results.toList)) [] _ _ _ hX hY (by rw[vX]) (by rw[vY]) rfl rfl rfl
 rw[vX,vY] at c2
 rw[vY] at c4
 simp only at c2 c4
 subst c2
 have hz:cz=if Nat.gcd x.v y.v=0 then x.z else false:=by
  split
  ·rename_i h
   exact c4 (Nat.eq_zero_of_gcd_eq_zero_right h)
  ·rename_i h
   have h5:=c1.nil
   simp only at h5
   cases cz with
   | false=>rfl
   | true=>exact absurd (qff.1 (h5 rfl)) h
 refine qeG (v:=(NV.mk cz (qsK (Nat.gcd x.v y.v)) (qba (Nat.gcd x.v y.v))).av) (m:=[]) ?_ (by rw[qcy];simp only[NV.fr,qmv];rw[qkR,<- hz]) (by simp[qkR,NV.av,noV])
 rw[qIp,qbt (qcy x),e1,qaf,oBs,qbt (qcy y),e2,qaf,oBs]
 refine c5.trans ?_
 rw[qt0,qbt (qcy _),c3,qHx c1]
 rfl
theorem qnN {a b:Nat} (h:(qba a).length < 2 ^ 40) (h':(qba b).length < 2 ^ 40):(qba (Nat.gcd a b)).length < 2 ^ 40:=by
 by_cases ha:a=0
 ·rw[ha,Nat.gcd_zero_left];exact h'
 ·exact qa2 (qcF (Nat.gcd_le_left _ (qbG ha))) h
theorem qC9 {x y:NV} (hx:NOk x) (hy:NOk y):NOk (qkR x y):=by
 refine ⟨qbC _,qnN hx.v_len' hy.v_len',?_⟩
 unfold qkR
 simp only
 split
 ·rename_i h;intro _;rw[h];exact qcP
 ·intro h;cases h
theorem qEK (x y:NV):(qkR x y).v=Nat.gcd x.v y.v:=qbv _
theorem qC8 (x y:NV):(qkR x y).fr=qkR x y:=by unfold qkR NV.fr;simp only[qmv]
end Go.Ab

/- What the interpreter does, function by function. -/
set_option maxRecDepth 100000
namespace Go.Ab
open Go.Proofs.Tryz
theorem T72 (a0:AV) (m:Mem):AC cfg 72 [a0] m =
 (qbl .u32 a0).bind fun v1=>
 (qaz .other .shr a0 (.int .u64 32)).bind fun v2=>
 (qbl .u32 v2).bind fun v3=>
 (qaY none [v1,v3]).bind fun v4=>
 (qaN (AP cfg) none m 133 [v4]).bind fun r5=>
 some (r5.1,r5.2):=
(qbx cfg 72 [a0] m (fn:=f72) (c:=qaq f72) qJx rfl).trans (by kernel_rfl)
def qCs (x5:AV) (m:Mem):St:=⟨(yA4 (yA1 (x5::qdC (yA2 (yA1 []))))),m⟩
noncomputable def qyK (x0 x1 x5 x6:AV) (m:Mem) (K:KT):OM:=qbq (qaM cfg 75 (AP cfg) (AC cfg) (c1 (c1 (c2 (c1 (c2 (c2 (c2 (qaq f75))))))))) (cfg.mask 75 (some 4)) ⟨(x0::x1::yA2 (yA1 (x5::x6::qdC (yA2 [])))),m⟩ K
def qCt (x0 x1 x5 x6 x7:AV) (m:Mem):St:=⟨(x0::x1::yA2 (yA1 (x5::x6::x7::qdC (yA1 [])))),m⟩
noncomputable def qyL (x0 x1 x5 x6 x7 x8:AV) (m:Mem) (K:KT):OM:=qbq (qaM cfg 75 (AP cfg) (AC cfg) (c1 (c1 (c2 (c1 (c2 (c1 (c1 (c2 (c1 (c1 (c2 (c1 (c2 (c2 (c2 (qaq f75))))))))))))))))) (cfg.mask 75 (some 8)) ⟨(x0::x1::yA2 (yA1 (x5::x6::x7::x8::qdC []))),m⟩ K
noncomputable abbrev qBZ (K:KT):KT:=qdH (fun st=>qaM cfg 75 (AP cfg) (AC cfg) (c2 (c2 (c2 (c2 (qaq f75))))) st K) K
noncomputable abbrev qB0 (K:KT):KT:=qbb 0 (qBZ K)
noncomputable abbrev qBY (K:KT):KT:=(qB0 K)
noncomputable abbrev qB2 (K:KT):KT:=qdH (fun st=>qaM cfg 75 (AP cfg) (AC cfg) (c2 (c2 (c1 (c1 (c2 (c1 (c2 (c2 (c2 (qaq f75)))))))))) st (qcQ (fun st=>qbq (qaM cfg 75 (AP cfg) (AC cfg) (c1 (c1 (c2 (c1 (c2 (c2 (c2 (qaq f75))))))))) (cfg.mask 75 (some 4)) st K) (cfg.mask 75 (some 4)) K)) (qcQ (fun st=>qbq (qaM cfg 75 (AP cfg) (AC cfg) (c1 (c1 (c2 (c1 (c2 (c2 (c2 (qaq f75))))))))) (cfg.mask 75 (some 4)) st K) (cfg.mask 75 (some 4)) K)
noncomputable abbrev qux (K:KT):KT:=qbb 1 (qB2 K)
noncomputable abbrev qB3 (K:KT):KT:=qdH (fun st=>qaM cfg 75 (AP cfg) (AC cfg) (c2 (c2 (c1 (c1 (c2 (c1 (c1 (c2 (c1 (c2 (c2 (c2 (qaq f75))))))))))))) st (qux K)) (qux K)
noncomputable abbrev qB4 (K:KT):KT:=qbb 2 (qB3 K)
noncomputable abbrev qB1 (K:KT):KT:=(qB4 K)
theorem T75 (a0 a1:AV) (m:Mem):AC cfg 75 [a0,a1] m =
 (qaN (AP cfg) none m 133 [a0]).bind fun r1=>
 (qaN (AP cfg) none r1.2 133 [a1]).bind fun r2=>
 (qbY false r1.1).bind fun v3=>
 (qbY false r2.1).bind fun v4=>
 (qaz .other .add v3 v4).bind fun v5=>
 (qeU none 161 none (.int .u32 0) 4 r2.2 v5 v5).bind fun r6=>
 qyK r1.1 r2.1 r6.1 (.int .i64 0) r6.2 (qBY (qbw cfg.P f75.results.toList)):=
(qbx cfg 75 [a0,a1] m (fn:=f75) (c:=qaq f75) qJA rfl).trans (by kernel_rfl)
theorem qqL (x0 x1 x5 x6:AV) (m:Mem) (K:KT):qyK x0 x1 x5 x6 m K =
 (qbY false x0).bind fun v1=>
 (qaz .other .lss x6 v1).bind fun v2=>
 ifA v2 (
 qyL x0 x1 x5 x6 (.int .u64 0) (.int .i64 0) m (qB1 K)) (
 K (.exit 0) (qCs x5 m)):=
(qa3 (qaT _) _ _ _).trans (by kernel_rfl)
theorem qqM (x0 x1 x5 x6 x7 x8:AV) (m:Mem) (K:KT):qyL x0 x1 x5 x6 x7 x8 m K =
 (qbY false x1).bind fun v1=>
 (qaz .other .lss x8 v1).bind fun v2=>
 ifA v2 (
 (qag none x0 x6).bind fun v3=>
 (qat none m v3).bind fun v4=>
 (qbl .u64 v4).bind fun v5=>
 (qag none x1 x8).bind fun v6=>
 (qat none m v6).bind fun v7=>
 (qbl .u64 v7).bind fun v8=>
 (qaz .other .mul v5 v8).bind fun v9=>
 (qaz .other .add x6 x8).bind fun v10=>
 (qag none x5 v10).bind fun v11=>
 (qat none m v11).bind fun v12=>
 (qbl .u64 v12).bind fun v13=>
 (qaz .other .add v9 v13).bind fun v14=>
 (qaz .other .add v14 x7).bind fun v15=>
 (qaz .other .add x6 x8).bind fun v16=>
 (qaz .other .rem v15 (.int .u64 4294967296)).bind fun v17=>
 (qbl .u32 v17).bind fun v18=>
 (qag none x5 v16).bind fun v19=>
 (qaR none m v19 v18).bind fun m20=>
 (qaz .other .quo v15 (.int .u64 4294967296)).bind fun v21=>
 (qaz .other .add x8 (.int .i64 1)).bind fun v22=>
 qyL x0 x1 x5 x6 v21 v22 m20 K) (
 K (.exit 2) (qCt x0 x1 x5 x6 x7 m)):=
(qa3 (qaT _) _ _ _).trans (by kernel_rfl)
theorem qys (x5:AV) (m:Mem):qBY (qbw cfg.P f75.results.toList) (.exit 0) (qCs x5 m) =
 (qaN (AP cfg) none m 133 [x5]).bind fun r1=>
 some (r1.1,r1.2):=by kernel_rfl
theorem qyt (x0 x1 x5 x6 x7:AV) (m:Mem) (K:KT):qB1 K (.exit 2) (qCt x0 x1 x5 x6 x7 m) =
 (qbY false x1).bind fun v1=>
 (qaz .other .add x6 v1).bind fun v2=>
 (qbl .u32 x7).bind fun v3=>
 (qag none x5 v2).bind fun v4=>
 (qaR none m v4 v3).bind fun m5=>
 (qaz .other .add x6 (.int .i64 1)).bind fun v6=>
 qyK x0 x1 x5 v6 m5 K:=by kernel_rfl
def qyQ (x5:AV) (m:Mem):St:=⟨(yA4 (yA1 (x5::qdR (yA4 (yA2 []))))),m⟩
noncomputable def qlU (x0 x1 x5 x6 x7:AV) (m:Mem) (K:KT):OM:=qbq (qaM cfg 76 (AP cfg) (AC cfg) (c1 (c1 (c2 (c1 (c2 (c2 (c2 (qaq f76))))))))) (cfg.mask 76 (some 4)) ⟨(x0::x1::yA2 (yA1 (x5::x6::x7::qdR (yA4 [])))),m⟩ K
noncomputable abbrev qB6 (K:KT):KT:=qdH (fun st=>qaM cfg 76 (AP cfg) (AC cfg) (c2 (c2 (c2 (c2 (qaq f76))))) st K) K
noncomputable abbrev qB7 (K:KT):KT:=qbb 0 (qB6 K)
noncomputable abbrev qB5 (K:KT):KT:=(qB7 K)
theorem T76 (a0 a1:AV) (m:Mem):AC cfg 76 [a0,a1] m =
 qlU a0 a1 (.lst none true .full []) (.int .u64 0) (.int .i64 0) m (qB5 (qbw cfg.P f76.results.toList)):=
(qbx cfg 76 [a0,a1] m (fn:=f76) (c:=qaq f76) qJB rfl).trans (by kernel_rfl)
theorem qlV (x0 x1 x5 x6 x7:AV) (m:Mem) (K:KT):qlU x0 x1 x5 x6 x7 m K =
 (qbY false x0).bind fun v1=>
 (qaz .other .lss x7 v1).bind fun v2=>
 ifA v2 (
 (qaN (AP cfg) none m 135 [x0,x7]).bind fun r3=>
 (qaN (AP cfg) none r3.2 135 [x1,x7]).bind fun r4=>
 (qaz .other .add r3.1 r4.1).bind fun v5=>
 (qaz .other .add v5 x6).bind fun v6=>
 (qaz .other .rem v6 (.int .u64 4294967296)).bind fun v7=>
 (qbl .u32 v7).bind fun v8=>
 (qaY none [v8]).bind fun v9=>
 (qd6 none false 161 none 4 r4.2 x5 v9).bind fun r10=>
 (qaz .other .quo v6 (.int .u64 4294967296)).bind fun v11=>
 (qaz .other .add x7 (.int .i64 1)).bind fun v12=>
 qlU x0 x1 r10.1 v11 v12 r10.2 K) (
 (qbY false x1).bind fun v13=>
 (qaz .other .lss x7 v13).bind fun v14=>
 ifA v14 (
 (qaN (AP cfg) none m 135 [x0,x7]).bind fun r15=>
 (qaN (AP cfg) none r15.2 135 [x1,x7]).bind fun r16=>
 (qaz .other .add r15.1 r16.1).bind fun v17=>
 (qaz .other .add v17 x6).bind fun v18=>
 (qaz .other .rem v18 (.int .u64 4294967296)).bind fun v19=>
 (qbl .u32 v19).bind fun v20=>
 (qaY none [v20]).bind fun v21=>
 (qd6 none false 161 none 4 r16.2 x5 v21).bind fun r22=>
 (qaz .other .quo v18 (.int .u64 4294967296)).bind fun v23=>
 (qaz .other .add x7 (.int .i64 1)).bind fun v24=>
 qlU x0 x1 r22.1 v23 v24 r22.2 K) (
 (qaz .other .gtr x6 (.int .u64 0)).bind fun v25=>
 ifA v25 (
 (qaN (AP cfg) none m 135 [x0,x7]).bind fun r26=>
 (qaN (AP cfg) none r26.2 135 [x1,x7]).bind fun r27=>
 (qaz .other .add r26.1 r27.1).bind fun v28=>
 (qaz .other .add v28 x6).bind fun v29=>
 (qaz .other .rem v29 (.int .u64 4294967296)).bind fun v30=>
 (qbl .u32 v30).bind fun v31=>
 (qaY none [v31]).bind fun v32=>
 (qd6 none false 161 none 4 r27.2 x5 v32).bind fun r33=>
 (qaz .other .quo v29 (.int .u64 4294967296)).bind fun v34=>
 (qaz .other .add x7 (.int .i64 1)).bind fun v35=>
 qlU x0 x1 r33.1 v34 v35 r33.2 K) (
 K (.exit 0) (qyQ x5 m)))):=
(qa3 (qaT _) _ _ _).trans (by kernel_rfl)
theorem qyu (x5:AV) (m:Mem):qB5 (qbw cfg.P f76.results.toList) (.exit 0) (qyQ x5 m) =
 (qaN (AP cfg) none m 133 [x5]).bind fun r1=>
 some (r1.1,r1.2):=by kernel_rfl
def qCu (m:Mem):St:=⟨(qdR (yA8 (yA4 (yA1 [])))),m⟩
def qyU (x4:AV) (m:Mem):St:=⟨(yA4 (x4::qdR (yA8 []))),m⟩
noncomputable def qyM (x0 x1 x5:AV) (m:Mem) (K:KT):OM:=qbq (qaM cfg 77 (AP cfg) (AC cfg) (c1 (c1 (c2 (c1 (c2 (c2 (c2 (qaq f77))))))))) (cfg.mask 77 (some 7)) ⟨(x0::x1::yA2 (yA1 (x5::qdR (yA4 (yA2 (yA1 [])))))),m⟩ K
noncomputable abbrev qB8 (K:KT):KT:=qdH (fun st=>qaM cfg 77 (AP cfg) (AC cfg) (c2 (c2 (c2 (c2 (qaq f77))))) st K) K
noncomputable abbrev qB9 (K:KT):KT:=qbb 0 (qB8 K)
noncomputable abbrev qyv (K:KT):KT:=(qB9 K)
theorem T77 (a0 a1:AV) (m:Mem):AC cfg 77 [a0,a1] m =
 (qaN (AP cfg) none m 133 [a0]).bind fun r1=>
 (qaN (AP cfg) none r1.2 133 [a1]).bind fun r2=>
 (qbY false r1.1).bind fun v3=>
 (qbY false r2.1).bind fun v4=>
 (qaz .other .neq v3 v4).bind fun v5=>
 ifA v5 (
 (qbY false r1.1).bind fun v6=>
 (qbY false r2.1).bind fun v7=>
 (qaz .other .lss v6 v7).bind fun v8=>
 ifA v8 (
 some ((.int .i64 (-1)),r2.2)) (
 some ((.int .i64 1),r2.2))) (
 (qbY false r1.1).bind fun v9=>
 (qaz .other .sub v9 (.int .i64 1)).bind fun v10=>
 qyM r1.1 r2.1 v10 r2.2 (qyv (qbw cfg.P f77.results.toList))):=
(qbx cfg 77 [a0,a1] m (fn:=f77) (c:=qaq f77) qJC rfl).trans (by kernel_rfl)
theorem qqN (x0 x1 x5:AV) (m:Mem) (K:KT):qyM x0 x1 x5 m K =
 (qaz .other .geq x5 (.int .i64 0)).bind fun v1=>
 ifA v1 (
 (qag none x0 x5).bind fun v2=>
 (qat none m v2).bind fun v3=>
 (qag none x1 x5).bind fun v4=>
 (qat none m v4).bind fun v5=>
 (qaz .other .neq v3 v5).bind fun v6=>
 ifA v6 (
 (qag none x0 x5).bind fun v7=>
 (qat none m v7).bind fun v8=>
 (qag none x1 x5).bind fun v9=>
 (qat none m v9).bind fun v10=>
 (qaz .other .lss v8 v10).bind fun v11=>
 ifA v11 (
 K .ret (qyU (.int .i64 (-1)) m)) (
 K .ret (qyU (.int .i64 1) m))) (
 (qaz .other .sub x5 (.int .i64 1)).bind fun v12=>
 qyM x0 x1 v12 m K)) (
 K (.exit 0) (qCu m)):=
(qa3 (qaT _) _ _ _).trans (by kernel_rfl)
theorem qyw (m:Mem):qyv (qbw cfg.P f77.results.toList) (.exit 0) (qCu  m) =
 some ((.int .i64 0),m):=by kernel_rfl
theorem quy (x4:AV) (m:Mem):qyv (qbw cfg.P f77.results.toList) .ret (qyU x4 m) =
 some (x4,m):=by kernel_rfl
def qCv (x6:AV) (m:Mem):St:=⟨(yA4 (yA2 (x6::qdR (yA4 (yA1 []))))),m⟩
noncomputable def quI (x0 x1 x6 x7 x8:AV) (m:Mem) (K:KT):OM:=qbq (qaM cfg 78 (AP cfg) (AC cfg) (c1 (c1 (c2 (c1 (c2 (c2 (c2 (c2 (qaq f78)))))))))) (cfg.mask 78 (some 6)) ⟨(x0::x1::yA4 (x6::x7::x8::qdR (yA2 (yA1 [])))),m⟩ K
noncomputable abbrev qCa (K:KT):KT:=qdH (fun st=>qaM cfg 78 (AP cfg) (AC cfg) (c2 (c2 (c2 (c2 (c2 (qaq f78)))))) st K) K
noncomputable abbrev qCb (K:KT):KT:=qbb 0 (qCa K)
noncomputable abbrev qEf (K:KT):KT:=(qCb K)
theorem T78 (a0 a1:AV) (m:Mem):AC cfg 78 [a0,a1] m =
 (qaN (AP cfg) none m 77 [a0,a1]).bind fun r1=>
 (qaz .other .lss r1.1 (.int .i64 0)).bind fun v2=>
 ifA v2 (
 some ((.tup [(.lst none true .full []),(.int .i64 1)]),r1.2)) (
 quI a0 a1 (.lst none true .full []) (.int .u64 0) (.int .i64 0) r1.2 (qEf (qbw cfg.P f78.results.toList))):=
(qbx cfg 78 [a0,a1] m (fn:=f78) (c:=qaq f78) qJD rfl).trans (by kernel_rfl)
theorem qqO (x0 x1 x6 x7 x8:AV) (m:Mem) (K:KT):quI x0 x1 x6 x7 x8 m K =
 (qbY false x0).bind fun v1=>
 (qaz .other .lss x8 v1).bind fun v2=>
 ifA v2 (
 (qaN (AP cfg) none m 135 [x1,x8]).bind fun r3=>
 (qaz .other .add r3.1 x7).bind fun v4=>
 (qaN (AP cfg) none r3.2 135 [x0,x8]).bind fun r5=>
 (qaz .other .lss r5.1 v4).bind fun v6=>
 ifA v6 (
 (qaN (AP cfg) none r5.2 135 [x0,x8]).bind fun r7=>
 (qaz .other .mul (.int .u64 1) (.int .u64 4294967296)).bind fun v8=>
 (qaz .other .add r7.1 v8).bind fun v9=>
 (qaz .other .sub v9 v4).bind fun v10=>
 (qbl .u32 v10).bind fun v11=>
 (qaY none [v11]).bind fun v12=>
 (qd6 none false 161 none 4 r7.2 x6 v12).bind fun r13=>
 (qaz .other .add x8 (.int .i64 1)).bind fun v14=>
 quI x0 x1 r13.1 (.int .u64 1) v14 r13.2 K) (
 (qaN (AP cfg) none r5.2 135 [x0,x8]).bind fun r15=>
 (qaz .other .mul (.int .u64 0) (.int .u64 4294967296)).bind fun v16=>
 (qaz .other .add r15.1 v16).bind fun v17=>
 (qaz .other .sub v17 v4).bind fun v18=>
 (qbl .u32 v18).bind fun v19=>
 (qaY none [v19]).bind fun v20=>
 (qd6 none false 161 none 4 r15.2 x6 v20).bind fun r21=>
 (qaz .other .add x8 (.int .i64 1)).bind fun v22=>
 quI x0 x1 r21.1 (.int .u64 0) v22 r21.2 K)) (
 K (.exit 0) (qCv x6 m)):=
(qa3 (qaT _) _ _ _).trans (by kernel_rfl)
theorem qyx (x6:AV) (m:Mem):qEf (qbw cfg.P f78.results.toList) (.exit 0) (qCv x6 m) =
 (qaN (AP cfg) none m 133 [x6]).bind fun r1=>
 some ((.tup [r1.1,(.int .i64 0)]),r1.2):=by kernel_rfl
def quL (x5:AV) (m:Mem):St:=⟨(yA4 (yA1 (x5::qdC (yA8 (yA4 (yA2 [])))))),m⟩
noncomputable def qqe (x5 x7:AV) (m:Mem) (K:KT):OM:=qbq (qaM cfg 119 (AP cfg) (AC cfg) (c1 (c1 (c1 (c1 (c2 (c1 (c2 (c2 (c2 (c2 (qaq f119)))))))))))) (cfg.mask 119 (some 5)) ⟨(yA4 (yA1 (x5::yA1 (x7::qdC (yA8 (yA4 [])))))),m⟩ K
def qlW (x0 x1 x9:AV) (m:Mem):St:=⟨(x0::x1::yA4 (yA2 (yA1 (x9::qdC (yA8 (yA2 [])))))),m⟩
noncomputable def qiI (x0 x1 x9:AV) (m:Mem) (K:KT):OM:=qbq (qaM cfg 119 (AP cfg) (AC cfg) (c1 (c1 (c1 (c2 (c2 (c2 (c2 (c2 (c2 (c2 (c2 (qaq f119))))))))))))) (cfg.mask 119 (some 13)) ⟨(x0::x1::yA4 (yA2 (yA1 (x9::qdC (yA8 (yA2 [])))))),m⟩ K
def qoT (x0 x9:AV) (m:Mem):St:=⟨(x0::yA8 (x9::qdC (yA8 (yA2 [])))),m⟩
noncomputable def qjN (x0 x1 x9:AV) (m:Mem) (K:KT):OM:=qbq (qaM cfg 119 (AP cfg) (AC cfg) (c1 (c1 (c1 (c2 (c2 (c2 (c2 (c2 (c2 (c2 (c2 (c2 (qaq f119)))))))))))))) (cfg.mask 119 (some 15)) ⟨(x0::x1::yA4 (yA2 (yA1 (x9::qdC (yA8 (yA2 [])))))),m⟩ K
def qoU (x0 x1 x9:AV) (m:Mem):St:=⟨(x0::x1::yA4 (yA2 (yA1 (x9::qdC (yA8 (yA2 [])))))),m⟩
noncomputable def qlN (x0 x1 x9:AV) (m:Mem) (K:KT):OM:=qbq (qaM cfg 119 (AP cfg) (AC cfg) (c1 (c1 (c1 (c1 (c2 (c1 (c1 (c1 (c2 (c2 (c2 (c2 (c2 (c2 (c2 (c2 (c2 (qaq f119))))))))))))))))))) (cfg.mask 119 (some 16)) ⟨(x0::x1::yA4 (yA2 (yA1 (x9::qdC (yA8 (yA2 [])))))),m⟩ K
def qoV (x0 x1 x9:AV) (m:Mem):St:=⟨(x0::x1::yA4 (yA2 (yA1 (x9::qdC (yA8 (yA2 [])))))),m⟩
noncomputable def qlO (x0 x1 x9:AV) (m:Mem) (K:KT):OM:=qbq (qaM cfg 119 (AP cfg) (AC cfg) (c1 (c1 (c1 (c2 (c1 (c2 (c1 (c1 (c1 (c2 (c2 (c2 (c2 (c2 (c2 (c2 (c2 (c2 (qaq f119)))))))))))))))))))) (cfg.mask 119 (some 18)) ⟨(x0::x1::yA4 (yA2 (yA1 (x9::qdC (yA8 (yA2 [])))))),m⟩ K
noncomputable abbrev qp1 (K:KT):KT:=qdH (fun st=>qaM cfg 119 (AP cfg) (AC cfg) (c2 (c2 (c2 (c2 (c2 (qaq f119)))))) st K) K
noncomputable abbrev qw6 (K:KT):KT:=qdH (fun st=>qaM cfg 119 (AP cfg) (AC cfg) (c2 (c1 (c2 (c1 (c2 (c2 (c2 (c2 (qaq f119))))))))) st (qp1 K)) (qp1 K)
noncomputable abbrev qw7 (K:KT):KT:=qbb 0 (qw6 K)
noncomputable abbrev qz2 (K:KT):KT:=(qw7 K)
noncomputable abbrev qs7 (K:KT):KT:=qdH (fun st=>qaM cfg 119 (AP cfg) (AC cfg) (c2 (c2 (c2 (c2 (c2 (c2 (c2 (c2 (c2 (qaq f119)))))))))) st K) K
noncomputable abbrev qs8 (K:KT):KT:=qbb 2 (qs7 K)
noncomputable abbrev qjK (K:KT):KT:=(qs8 K)
noncomputable abbrev qmV (K:KT):KT:=qbb 5 (qcQ (fun st=>qbq (qaM cfg 119 (AP cfg) (AC cfg) (c1 (c1 (c1 (c2 (c2 (c2 (c2 (c2 (c2 (c2 (c2 (c2 (qaq f119)))))))))))))) (cfg.mask 119 (some 15)) st K) (cfg.mask 119 (some 15)) K)
noncomputable abbrev qtc (K:KT):KT:=qdH (fun st=>qaM cfg 119 (AP cfg) (AC cfg) (c2 (c1 (c2 (c1 (c1 (c1 (c2 (c2 (c2 (c2 (c2 (c2 (c2 (c2 (c2 (qaq f119)))))))))))))))) st (qmV K)) (qmV K)
noncomputable abbrev qtd (K:KT):KT:=qbb 6 (qtc K)
noncomputable abbrev qoG (K:KT):KT:=(qtd K)
noncomputable abbrev qta (K:KT):KT:=qdH (fun st=>qaM cfg 119 (AP cfg) (AC cfg) (c2 (c2 (c2 (c2 (c2 (c2 (c2 (c2 (c2 (c2 (qaq f119))))))))))) st K) K
noncomputable abbrev qtb (K:KT):KT:=qbb 4 (qta K)
noncomputable abbrev qs9 (K:KT):KT:=(qtb K)
noncomputable abbrev qmW (K:KT):KT:=qbb 5 (qcQ (fun st=>qbq (qaM cfg 119 (AP cfg) (AC cfg) (c1 (c1 (c1 (c2 (c2 (c2 (c2 (c2 (c2 (c2 (c2 (c2 (qaq f119)))))))))))))) (cfg.mask 119 (some 15)) st K) (cfg.mask 119 (some 15)) K)
noncomputable abbrev qte (K:KT):KT:=qdH (fun st=>qaM cfg 119 (AP cfg) (AC cfg) (c2 (c2 (c1 (c2 (c1 (c1 (c1 (c2 (c2 (c2 (c2 (c2 (c2 (c2 (c2 (c2 (qaq f119))))))))))))))))) st (qmW K)) (qmW K)
noncomputable abbrev qtf (K:KT):KT:=qbb 8 (qte K)
noncomputable abbrev qoH (K:KT):KT:=(qtf K)
theorem qH3 (a0 a1:AV) (m:Mem):AC cfg 119 [a0,a1] m =
 (qaN (AP cfg) none m 133 [a0]).bind fun r1=>
 (qaN (AP cfg) none r1.2 133 [a1]).bind fun r2=>
 (qaN (AP cfg) none r2.2 155 [r1.1]).bind fun r3=>
 (qaF r3.1 0).bind fun v4=>
 (qaF r3.1 1).bind fun v5=>
 (qaN (AP cfg) none r3.2 155 [r2.1]).bind fun r6=>
 (qaF r6.1 0).bind fun v7=>
 (qaF r6.1 1).bind fun v8=>
 ifA v5 (
 ifA v8 (
 qqe v4 v7 r6.2 (qz2 (qbw cfg.P f119.results.toList))) (
 (qbY false r1.1).bind fun v9=>
 (qaz .other .eql v9 (.int .i64 0)).bind fun v10=>
 ifA v10 (
 some (r2.1,r6.2)) (
 (qbY false r2.1).bind fun v11=>
 (qaz .other .eql v11 (.int .i64 0)).bind fun v12=>
 ifA v12 (
 some (r1.1,r6.2)) (
 (qaN (AP cfg) none r6.2 72 [(.int .u64 1)]).bind fun r13=>
 qiI r1.1 r2.1 r13.1 r13.2 (qjK (qbw cfg.P f119.results.toList)))))) (
 (qbY false r1.1).bind fun v14=>
 (qaz .other .eql v14 (.int .i64 0)).bind fun v15=>
 ifA v15 (
 some (r2.1,r6.2)) (
 (qbY false r2.1).bind fun v16=>
 (qaz .other .eql v16 (.int .i64 0)).bind fun v17=>
 ifA v17 (
 some (r1.1,r6.2)) (
 (qaN (AP cfg) none r6.2 72 [(.int .u64 1)]).bind fun r18=>
 qiI r1.1 r2.1 r18.1 r18.2 (qjK (qbw cfg.P f119.results.toList))))):=
(qbx cfg 119 [a0,a1] m (fn:=f119) (c:=qaq f119) qGc rfl).trans (by kernel_rfl)
theorem quB (x5 x7:AV) (m:Mem) (K:KT):qqe x5 x7 m K =
 (qaz .other .neq x7 (.int .u64 0)).bind fun v1=>
 ifA v1 (
 (qaz .other .rem x5 x7).bind fun v2=>
 qqe x7 v2 m K) (
 K (.exit 0) (quL x5 m)):=
(qa3 (qaT _) _ _ _).trans (by kernel_rfl)
theorem qsj (x0 x1 x9:AV) (m:Mem) (K:KT):qiI x0 x1 x9 m K =
 (qaN (AP cfg) none m 156 [x0]).bind fun r1=>
 ifA r1.1 (
 (qaN (AP cfg) none r1.2 156 [x1]).bind fun r2=>
 ifA r2.1 (
 (qaN (AP cfg) none r2.2 157 [x0]).bind fun r3=>
 (qaN (AP cfg) none r3.2 157 [x1]).bind fun r4=>
 (qaN (AP cfg) none r4.2 76 [x9,x9]).bind fun r5=>
 qiI r3.1 r4.1 r5.1 r5.2 K) (
 K (.exit 2) (qlW x0 x1 x9 r2.2))) (
 K (.exit 2) (qlW x0 x1 x9 r1.2)):=
(qa3 (qaT _) _ _ _).trans (by kernel_rfl)
theorem qsk (x0 x1 x9:AV) (m:Mem) (K:KT):qjN x0 x1 x9 m K =
 (qbY false x1).bind fun v1=>
 (qaz .other .gtr v1 (.int .i64 0)).bind fun v2=>
 ifA v2 (
 qlN x0 x1 x9 m (qoG K)) (
 K (.exit 4) (qoT x0 x9 m)):=
(qa3 (qaT _) _ _ _).trans (by kernel_rfl)
theorem qsl (x0 x1 x9:AV) (m:Mem) (K:KT):qlN x0 x1 x9 m K =
 (qaN (AP cfg) none m 156 [x0]).bind fun r1=>
 ifA r1.1 (
 (qaN (AP cfg) none r1.2 157 [x0]).bind fun r2=>
 qlN r2.1 x1 x9 r2.2 K) (
 K (.exit 6) (qoU x0 x1 x9 r1.2)):=
(qa3 (qaT _) _ _ _).trans (by kernel_rfl)
theorem qsm (x0 x1 x9:AV) (m:Mem) (K:KT):qlO x0 x1 x9 m K =
 (qaN (AP cfg) none m 156 [x1]).bind fun r1=>
 ifA r1.1 (
 (qaN (AP cfg) none r1.2 157 [x1]).bind fun r2=>
 qlO x0 r2.1 x9 r2.2 K) (
 K (.exit 8) (qoV x0 x1 x9 r1.2)):=
(qa3 (qaT _) _ _ _).trans (by kernel_rfl)
theorem qtg (x5:AV) (m:Mem):qz2 (qbw cfg.P f119.results.toList) (.exit 0) (quL x5 m) =
 (qaN (AP cfg) none m 72 [x5]).bind fun r1=>
 some (r1.1,r1.2):=by kernel_rfl
theorem qr3 (x0 x1 x9:AV) (m:Mem):qjK (qbw cfg.P f119.results.toList) (.exit 2) (qlW x0 x1 x9 m) =
 qjN x0 x1 x9 m (qs9 (qbw cfg.P f119.results.toList)):=by kernel_rfl
theorem qr5 (x0 x1 x9:AV) (m:Mem) (K:KT):qoG K (.exit 6) (qoU x0 x1 x9 m) =
 qlO x0 x1 x9 m (qoH K):=by kernel_rfl
theorem qr4 (x0 x9:AV) (m:Mem):qs9 (qbw cfg.P f119.results.toList) (.exit 4) (qoT x0 x9 m) =
 (qaN (AP cfg) none m 75 [x0,x9]).bind fun r1=>
 some (r1.1,r1.2):=by kernel_rfl
theorem qr6 (x0 x1 x9:AV) (m:Mem) (K:KT):qoH K (.exit 8) (qoV x0 x1 x9 m) =
 (qaN (AP cfg) none m 77 [x0,x1]).bind fun r1=>
 (qaz .other .gtr r1.1 (.int .i64 0)).bind fun v2=>
 ifA v2 (
 (qaN (AP cfg) none r1.2 78 [x0,x1]).bind fun r3=>
 (qaF r3.1 0).bind fun v4=>
 (qaF r3.1 1).bind fun v5=>
 qjN x1 v4 x9 r3.2 K) (
 (qaN (AP cfg) none r1.2 78 [x1,x0]).bind fun r6=>
 (qaF r6.1 0).bind fun v7=>
 (qaF r6.1 1).bind fun v8=>
 qjN x0 v7 x9 r6.2 K):=by kernel_rfl
def qqS (x0 x3:AV) (m:Mem):St:=⟨(x0::yA2 (x3::qd7 (yA2 []))),m⟩
noncomputable def qql (x0 x3:AV) (m:Mem) (K:KT):OM:=qbq (qaM cfg 133 (AP cfg) (AC cfg) (c1 (c1 (c1 (c2 (c2 (qaq f133))))))) (cfg.mask 133 (some 2)) ⟨(x0::yA2 (x3::qd7 (yA2 []))),m⟩ K
noncomputable abbrev qxt (K:KT):KT:=qdH (fun st=>qaM cfg 133 (AP cfg) (AC cfg) (c2 (c2 (c2 (qaq f133)))) st K) K
noncomputable abbrev qxu (K:KT):KT:=qbb 0 (qxt K)
noncomputable abbrev qz3 (K:KT):KT:=(qxu K)
theorem qIb (a0:AV) (m:Mem):AC cfg 133 [a0] m =
 (qbY false a0).bind fun v1=>
 qql a0 v1 m (qz3 (qbw cfg.P f133.results.toList)):=
(qbx cfg 133 [a0] m (fn:=f133) (c:=qaq f133) qGn rfl).trans (by kernel_rfl)
theorem qnk (x0 x3:AV) (m:Mem) (K:KT):qql x0 x3 m K =
 (qaz .other .gtr x3 (.int .i64 0)).bind fun v1=>
 ifA v1 (
 (qaz .other .sub x3 (.int .i64 1)).bind fun v2=>
 (qag none x0 v2).bind fun v3=>
 (qat none m v3).bind fun v4=>
 (qaz .other .eql v4 (.int .u32 0)).bind fun v5=>
 ifA v5 (
 (qaz .other .sub x3 (.int .i64 1)).bind fun v6=>
 qql x0 v6 m K) (
 K (.exit 0) (qqS x0 x3 m))) (
 K (.exit 0) (qqS x0 x3 m)):=
(qa3 (qaT _) _ _ _).trans (by kernel_rfl)
theorem qtw (x0 x3:AV) (m:Mem):qz3 (qbw cfg.P f133.results.toList) (.exit 0) (qqS x0 x3 m) =
 (qf7 none x0 none (some x3) none).bind fun v1=>
 (qd6 none false 161 none 4 m (.lst none true .full []) v1).bind fun r2=>
 some (r2.1,r2.2):=by kernel_rfl
theorem qId (a0 a1:AV) (m:Mem):AC cfg 135 [a0,a1] m =
 (qbY false a0).bind fun v1=>
 (qaz .other .lss a1 v1).bind fun v2=>
 ifA v2 (
 (qag none a0 a1).bind fun v3=>
 (qat none m v3).bind fun v4=>
 (qbl .u64 v4).bind fun v5=>
 some (v5,m)) (
 some ((.int .u64 0),m)):=
(qbx cfg 135 [a0,a1] m (fn:=f135) (c:=qaq f135) qGp rfl).trans (by kernel_rfl)
def quR (x3:AV) (m:Mem):St:=⟨(yA2 (yA1 (x3::qd7 (yA4 (yA2 (yA1 [])))))),m⟩
noncomputable def qqm (x3 x4:AV) (m:Mem) (K:KT):OM:=qbq (qaM cfg 136 (AP cfg) (AC cfg) (c1 (c1 (c2 (c1 (c2 (c2 (c2 (c2 (qaq f136)))))))))) (cfg.mask 136 (some 6)) ⟨(yA2 (yA1 (x3::x4::qd7 (yA4 (yA2 []))))),m⟩ K
noncomputable abbrev qxv (K:KT):KT:=qdH (fun st=>qaM cfg 136 (AP cfg) (AC cfg) (c2 (c2 (c2 (c2 (c2 (qaq f136)))))) st K) K
noncomputable abbrev qxw (K:KT):KT:=qbb 0 (qxv K)
noncomputable abbrev qtx (K:KT):KT:=(qxw K)
theorem qHo (a0:AV) (m:Mem):AC cfg 136 [a0] m =
 (qaN (AP cfg) none m 133 [a0]).bind fun r1=>
 (qbY false r1.1).bind fun v2=>
 (qaz .other .eql v2 (.int .i64 0)).bind fun v3=>
 ifA v3 (
 some ((.int .i64 0),r1.2)) (
 (qbY false r1.1).bind fun v4=>
 (qaz .other .sub v4 (.int .i64 1)).bind fun v5=>
 (qaz .other .mul (.int .i64 32) v5).bind fun v6=>
 (qbY false r1.1).bind fun v7=>
 (qaz .other .sub v7 (.int .i64 1)).bind fun v8=>
 (qag none r1.1 v8).bind fun v9=>
 (qat none r1.2 v9).bind fun v10=>
 qqm v6 v10 r1.2 (qtx (qbw cfg.P f136.results.toList))):=
(qbx cfg 136 [a0] m (fn:=f136) (c:=qaq f136) qGq rfl).trans (by kernel_rfl)
theorem qnl (x3 x4:AV) (m:Mem) (K:KT):qqm x3 x4 m K =
 (qaz .other .gtr x4 (.int .u32 0)).bind fun v1=>
 ifA v1 (
 (qaz .other .add x3 (.int .i64 1)).bind fun v2=>
 (qaz .other .quo x4 (.int .u32 2)).bind fun v3=>
 qqm v2 v3 m K) (
 K (.exit 0) (quR x3 m)):=
(qa3 (qaT _) _ _ _).trans (by kernel_rfl)
theorem qty (x3:AV) (m:Mem):qtx (qbw cfg.P f136.results.toList) (.exit 0) (quR x3 m) =
 some (x3,m):=by kernel_rfl
def qoW (x0 x9:AV) (m:Mem):St:=⟨(x0::yA8 (x9::qdC (qd7 (yA8 [])))),m⟩
noncomputable def qlP (x0 x1 x9 x10:AV) (m:Mem) (K:KT):OM:=qbq (qaM cfg 137 (AP cfg) (AC cfg) (c1 (c1 (c2 (c1 (c2 (c2 (c2 (c2 (c2 (c2 (qaq f137)))))))))))) (cfg.mask 137 (some 11)) ⟨(x0::x1::yA4 (yA2 (yA1 (x9::x10::qdC (qd7 (yA4 (yA2 (yA1 [])))))))),m⟩ K
def qoX (x0 x1 x9 x10 x11:AV) (m:Mem):St:=⟨(x0::x1::yA4 (yA2 (yA1 (x9::x10::x11::qdC (qd7 (yA4 (yA2 []))))))),m⟩
noncomputable def qjP (x0 x1 x9 x10 x11 x12:AV) (m:Mem) (K:KT):OM:=qbq (qaM cfg 137 (AP cfg) (AC cfg) (c1 (c1 (c1 (c2 (c1 (c1 (c2 (c1 (c1 (c2 (c1 (c2 (c2 (c2 (c2 (c2 (c2 (qaq f137))))))))))))))))))) (cfg.mask 137 (some 14)) ⟨(x0::x1::yA4 (yA2 (yA1 (x9::x10::x11::x12::qdC (qd7 (yA4 (yA1 []))))))),m⟩ K
noncomputable abbrev qtz (K:KT):KT:=qdH (fun st=>qaM cfg 137 (AP cfg) (AC cfg) (c2 (c2 (c2 (c2 (c2 (c2 (c2 (qaq f137)))))))) st K) K
noncomputable abbrev qtA (K:KT):KT:=qbb 0 (qtz K)
noncomputable abbrev qoI (K:KT):KT:=(qtA K)
noncomputable abbrev qtB (K:KT):KT:=qdH (fun st=>qaM cfg 137 (AP cfg) (AC cfg) (c2 (c2 (c1 (c1 (c2 (c1 (c2 (c2 (c2 (c2 (c2 (c2 (qaq f137))))))))))))) st (qcQ (fun st=>qbq (qaM cfg 137 (AP cfg) (AC cfg) (c1 (c1 (c2 (c1 (c2 (c2 (c2 (c2 (c2 (c2 (qaq f137)))))))))))) (cfg.mask 137 (some 11)) st K) (cfg.mask 137 (some 11)) K)) (qcQ (fun st=>qbq (qaM cfg 137 (AP cfg) (AC cfg) (c1 (c1 (c2 (c1 (c2 (c2 (c2 (c2 (c2 (c2 (qaq f137)))))))))))) (cfg.mask 137 (some 11)) st K) (cfg.mask 137 (some 11)) K)
noncomputable abbrev qmY (K:KT):KT:=qbb 1 (qtB K)
noncomputable abbrev qtC (K:KT):KT:=qdH (fun st=>qaM cfg 137 (AP cfg) (AC cfg) (c2 (c2 (c1 (c1 (c2 (c1 (c1 (c2 (c1 (c2 (c2 (c2 (c2 (c2 (c2 (qaq f137)))))))))))))))) st (qmY K)) (qmY K)
noncomputable abbrev qtD (K:KT):KT:=qbb 2 (qtC K)
noncomputable abbrev qoJ (K:KT):KT:=(qtD K)
theorem qFu (a0 a1:AV) (m:Mem):AC cfg 137 [a0,a1] m =
 (qaN (AP cfg) none m 133 [a0]).bind fun r1=>
 (qaN (AP cfg) none r1.2 133 [a1]).bind fun r2=>
 (qbY false r2.1).bind fun v3=>
 (qaz .other .eql v3 (.int .i64 0)).bind fun v4=>
 ifA v4 (
 some ((.tup [(.lst none true .full []),(.lst none true .full []),(.int .i64 31)]),r2.2)) (
 (qbY false r2.1).bind fun v5=>
 (qaz .other .eql v5 (.int .i64 1)).bind fun v6=>
 ifA v6 (
 (qag none r2.1 (.int .i64 0)).bind fun v7=>
 (qat none r2.2 v7).bind fun v8=>
 (qbl .u64 v8).bind fun v9=>
 (qaN (AP cfg) none r2.2 170 [r1.1,v9]).bind fun r10=>
 (qaF r10.1 0).bind fun v11=>
 (qaF r10.1 1).bind fun v12=>
 (qaN (AP cfg) none r10.2 72 [v12]).bind fun r13=>
 some ((.tup [v11,r13.1,(.int .i64 0)]),r13.2)) (
 (qbY false r1.1).bind fun v14=>
 (qbY false r2.1).bind fun v15=>
 (qaz .other .lss v14 v15).bind fun v16=>
 ifA v16 (
 some ((.tup [(.lst none true .full []),r1.1,(.int .i64 0)]),r2.2)) (
 (qbY false r1.1).bind fun v17=>
 (qeU none 161 none (.int .u32 0) 4 r2.2 v17 v17).bind fun r18=>
 (qbY false r1.1).bind fun v19=>
 (qbY false r2.1).bind fun v20=>
 (qaz .other .sub v19 v20).bind fun v21=>
 qlP r1.1 r2.1 r18.1 v21 r18.2 (qoI (qbw cfg.P f137.results.toList))))):=
(qbx cfg 137 [a0,a1] m (fn:=f137) (c:=qaq f137) qGr rfl).trans (by kernel_rfl)
theorem qk5 (x0 x1 x9 x10:AV) (m:Mem) (K:KT):qlP x0 x1 x9 x10 m K =
 (qaz .other .geq x10 (.int .i64 0)).bind fun v1=>
 ifA v1 (
 (qaN (AP cfg) none m 171 [x0,x1,x10]).bind fun r2=>
 (qaF r2.1 0).bind fun v3=>
 (qaF r2.1 1).bind fun v4=>
 qjP x0 x1 x9 x10 v3 v4 r2.2 (qoJ K)) (
 K (.exit 0) (qoW x0 x9 m)):=
(qa3 (qaT _) _ _ _).trans (by kernel_rfl)
theorem qk6 (x0 x1 x9 x10 x11 x12:AV) (m:Mem) (K:KT):qjP x0 x1 x9 x10 x11 x12 m K =
 (qaz .other .lss x11 x12).bind fun v1=>
 ifA v1 (
 (qaz .other .sub x12 x11).bind fun v2=>
 (qaz .other .add v2 (.int .u64 1)).bind fun v3=>
 (qaz .other .quo v3 (.int .u64 2)).bind fun v4=>
 (qaz .other .add x11 v4).bind fun v5=>
 (qaN (AP cfg) none m 172 [x1,v5,x10]).bind fun r6=>
 (qaN (AP cfg) none r6.2 77 [r6.1,x0]).bind fun r7=>
 (qaz .other .leq r7.1 (.int .i64 0)).bind fun v8=>
 ifA v8 (
 qjP x0 x1 x9 x10 v5 x12 r7.2 K) (
 (qaz .other .sub v5 (.int .u64 1)).bind fun v9=>
 qjP x0 x1 x9 x10 x11 v9 r7.2 K)) (
 K (.exit 2) (qoX x0 x1 x9 x10 x11 m)):=
(qa3 (qaT _) _ _ _).trans (by kernel_rfl)
theorem qr8 (x0 x9:AV) (m:Mem):qoI (qbw cfg.P f137.results.toList) (.exit 0) (qoW x0 x9 m) =
 (qaN (AP cfg) none m 133 [x9]).bind fun r1=>
 some ((.tup [r1.1,x0,(.int .i64 0)]),r1.2):=by kernel_rfl
theorem qr9 (x0 x1 x9 x10 x11:AV) (m:Mem) (K:KT):qoJ K (.exit 2) (qoX x0 x1 x9 x10 x11 m) =
 (qbl .u32 x11).bind fun v1=>
 (qag none x9 x10).bind fun v2=>
 (qaR none m v2 v1).bind fun m3=>
 (qaN (AP cfg) none m3 172 [x1,x11,x10]).bind fun r4=>
 (qaN (AP cfg) none r4.2 78 [x0,r4.1]).bind fun r5=>
 (qaF r5.1 0).bind fun v6=>
 (qaF r5.1 1).bind fun v7=>
 (qaz .other .sub x10 (.int .i64 1)).bind fun v8=>
 qlP v6 x1 x9 v8 r5.2 K:=by kernel_rfl
theorem qIg (a0:AV) (m:Mem):AC cfg 155 [a0] m =
 (qaN (AP cfg) none m 133 [a0]).bind fun r1=>
 (qbY false r1.1).bind fun v2=>
 (qaz .other .eql v2 (.int .i64 0)).bind fun v3=>
 ifA v3 (
 some ((.tup [(.int .u64 0),(.bool true)]),r1.2)) (
 (qaz .other .eql v2 (.int .i64 1)).bind fun v4=>
 ifA v4 (
 (qag none r1.1 (.int .i64 0)).bind fun v5=>
 (qat none r1.2 v5).bind fun v6=>
 (qbl .u64 v6).bind fun v7=>
 some ((.tup [v7,(.bool true)]),r1.2)) (
 (qaz .other .eql v2 (.int .i64 2)).bind fun v8=>
 ifA v8 (
 (qag none r1.1 (.int .i64 1)).bind fun v9=>
 (qat none r1.2 v9).bind fun v10=>
 (qbl .u64 v10).bind fun v11=>
 (qaz .other .shl v11 (.int .u64 32)).bind fun v12=>
 (qag none r1.1 (.int .i64 0)).bind fun v13=>
 (qat none r1.2 v13).bind fun v14=>
 (qbl .u64 v14).bind fun v15=>
 (qaz .other .or v12 v15).bind fun v16=>
 some ((.tup [v16,(.bool true)]),r1.2)) (
 some ((.tup [(.int .u64 0),(.bool false)]),r1.2)))):=
(qbx cfg 155 [a0] m (fn:=f155) (c:=qaq f155) qGx rfl).trans (by kernel_rfl)
theorem qIh (a0:AV) (m:Mem):AC cfg 156 [a0] m =
 (qaN (AP cfg) none m 135 [a0,(.int .i64 0)]).bind fun r1=>
 (qaz .other .rem r1.1 (.int .u64 2)).bind fun v2=>
 (qaz .other .eql v2 (.int .u64 0)).bind fun v3=>
 some (v3,r1.2):=
(qbx cfg 156 [a0] m (fn:=f156) (c:=qaq f156) qGy rfl).trans (by kernel_rfl)
theorem qIi (a0:AV) (m:Mem):AC cfg 157 [a0] m =
 (qaN (AP cfg) none m 133 [a0]).bind fun r1=>
 (qaN (AP cfg) none r1.2 170 [r1.1,(.int .u64 2)]).bind fun r2=>
 (qaF r2.1 0).bind fun v3=>
 (qaF r2.1 1).bind fun v4=>
 some (v3,r2.2):=
(qbx cfg 157 [a0] m (fn:=f157) (c:=qaq f157) qGz rfl).trans (by kernel_rfl)
def quU (x6 x7:AV) (m:Mem):St:=⟨(yA4 (yA2 (x6::x7::qdR (yA1 [])))),m⟩
noncomputable def qqs (x0 x1 x6 x7 x8:AV) (m:Mem) (K:KT):OM:=qbq (qaM cfg 170 (AP cfg) (AC cfg) (c1 (c1 (c2 (c1 (c2 (c2 (c2 (qaq f170))))))))) (cfg.mask 170 (some 4)) ⟨(x0::x1::yA4 (x6::x7::x8::qdR [])),m⟩ K
noncomputable abbrev qxP (K:KT):KT:=qdH (fun st=>qaM cfg 170 (AP cfg) (AC cfg) (c2 (c2 (c2 (c2 (qaq f170))))) st K) K
noncomputable abbrev qxQ (K:KT):KT:=qbb 0 (qxP K)
noncomputable abbrev qtU (K:KT):KT:=(qxQ K)
theorem qIm (a0 a1:AV) (m:Mem):AC cfg 170 [a0,a1] m =
 (qbY false a0).bind fun v1=>
 (qeU none 161 none (.int .u32 0) 4 m v1 v1).bind fun r2=>
 (qbY false a0).bind fun v3=>
 (qaz .other .sub v3 (.int .i64 1)).bind fun v4=>
 qqs a0 a1 r2.1 (.int .u64 0) v4 r2.2 (qtU (qbw cfg.P f170.results.toList)):=
(qbx cfg 170 [a0,a1] m (fn:=f170) (c:=qaq f170) qGH rfl).trans (by kernel_rfl)
theorem qnr (x0 x1 x6 x7 x8:AV) (m:Mem) (K:KT):qqs x0 x1 x6 x7 x8 m K =
 (qaz .other .geq x8 (.int .i64 0)).bind fun v1=>
 ifA v1 (
 (qaz .other .mul x7 (.int .u64 4294967296)).bind fun v2=>
 (qag none x0 x8).bind fun v3=>
 (qat none m v3).bind fun v4=>
 (qbl .u64 v4).bind fun v5=>
 (qaz .other .add v2 v5).bind fun v6=>
 (qaz .other .quo v6 x1).bind fun v7=>
 (qbl .u32 v7).bind fun v8=>
 (qag none x6 x8).bind fun v9=>
 (qaR none m v9 v8).bind fun m10=>
 (qaz .other .rem v6 x1).bind fun v11=>
 (qaz .other .sub x8 (.int .i64 1)).bind fun v12=>
 qqs x0 x1 x6 v11 v12 m10 K) (
 K (.exit 0) (quU x6 x7 m)):=
(qa3 (qaT _) _ _ _).trans (by kernel_rfl)
theorem qtV (x6 x7:AV) (m:Mem):qtU (qbw cfg.P f170.results.toList) (.exit 0) (quU x6 x7 m) =
 (qaN (AP cfg) none m 133 [x6]).bind fun r1=>
 some ((.tup [r1.1,x7]),r1.2):=by kernel_rfl
theorem qIn (a0 a1 a2:AV) (m:Mem):AC cfg 171 [a0,a1,a2] m =
 (qbY false a1).bind fun v1=>
 (qaz .other .add a2 v1).bind fun v2=>
 (qaN (AP cfg) (some m.length) m 135 [a0,v2]).bind fun r3=>
 (qaz .other .shl r3.1 (.int .u64 32)).bind fun v4=>
 (qaz .other .add a2 v1).bind fun v5=>
 (qaz .other .sub v5 (.int .i64 1)).bind fun v6=>
 (qaN (AP cfg) (some m.length) r3.2 135 [a0,v6]).bind fun r7=>
 (qaz .other .or v4 r7.1).bind fun v8=>
 (qaz .other .sub v1 (.int .i64 1)).bind fun v9=>
 (qag none a1 v9).bind fun v10=>
 (qat none r7.2 v10).bind fun v11=>
 (qbl .u64 v11).bind fun v12=>
 (qaz .other .quo v8 v12).bind fun v13=>
 (qaz .other .lss v13 (.int .u64 4294967295)).bind fun v14=>
 ifA v14 (
 (qaz .other .quo v8 v12).bind fun v15=>
 (qaz .other .add v12 (.int .u64 1)).bind fun v16=>
 (qaz .other .lss v16 (.int .u64 4294967296)).bind fun v17=>
 ifA v17 (
 (qaz .other .add v12 (.int .u64 1)).bind fun v18=>
 (qaz .other .quo v8 v18).bind fun v19=>
 (qaz .other .lss v19 (.int .u64 4294967296)).bind fun v20=>
 ifA v20 (
 (qaz .other .add v12 (.int .u64 1)).bind fun v21=>
 (qaz .other .quo v8 v21).bind fun v22=>
 (qaz .other .gtr v22 v15).bind fun v23=>
 ifA v23 (
 some ((.tup [v15,v15]),r7.2)) (
 some ((.tup [v22,v15]),r7.2))) (
 (qaz .other .gtr (.int .u64 0) v15).bind fun v24=>
 ifA v24 (
 some ((.tup [v15,v15]),r7.2)) (
 some ((.tup [(.int .u64 0),v15]),r7.2)))) (
 (qaz .other .gtr (.int .u64 0) v15).bind fun v25=>
 ifA v25 (
 some ((.tup [v15,v15]),r7.2)) (
 some ((.tup [(.int .u64 0),v15]),r7.2)))) (
 (qaz .other .add v12 (.int .u64 1)).bind fun v26=>
 (qaz .other .lss v26 (.int .u64 4294967296)).bind fun v27=>
 ifA v27 (
 (qaz .other .add v12 (.int .u64 1)).bind fun v28=>
 (qaz .other .quo v8 v28).bind fun v29=>
 (qaz .other .lss v29 (.int .u64 4294967296)).bind fun v30=>
 ifA v30 (
 (qaz .other .add v12 (.int .u64 1)).bind fun v31=>
 (qaz .other .quo v8 v31).bind fun v32=>
 (qaz .other .gtr v32 (.int .u64 4294967295)).bind fun v33=>
 ifA v33 (
 some ((.tup [(.int .u64 4294967295),(.int .u64 4294967295)]),r7.2)) (
 some ((.tup [v32,(.int .u64 4294967295)]),r7.2))) (
 (qaz .other .gtr (.int .u64 0) (.int .u64 4294967295)).bind fun v34=>
 ifA v34 (
 some ((.tup [(.int .u64 4294967295),(.int .u64 4294967295)]),r7.2)) (
 some ((.tup [(.int .u64 0),(.int .u64 4294967295)]),r7.2)))) (
 (qaz .other .gtr (.int .u64 0) (.int .u64 4294967295)).bind fun v35=>
 ifA v35 (
 some ((.tup [(.int .u64 4294967295),(.int .u64 4294967295)]),r7.2)) (
 some ((.tup [(.int .u64 0),(.int .u64 4294967295)]),r7.2)))):=
(qbx cfg 171 [a0,a1,a2] m (fn:=f171) (c:=qaq f171) qGI rfl).trans (by kernel_rfl)
def quV (x7 x8:AV) (m:Mem):St:=⟨(yA4 (yA2 (yA1 (x7::x8::qdR (yA1 []))))),m⟩
noncomputable def qqt (x0 x1 x7 x8 x9:AV) (m:Mem) (K:KT):OM:=qbq (qaM cfg 172 (AP cfg) (AC cfg) (c1 (c1 (c2 (c1 (c2 (c2 (c2 (qaq f172))))))))) (cfg.mask 172 (some 4)) ⟨(x0::x1::yA4 (yA1 (x7::x8::x9::qdR []))),m⟩ K
noncomputable abbrev qxR (K:KT):KT:=qdH (fun st=>qaM cfg 172 (AP cfg) (AC cfg) (c2 (c2 (c2 (c2 (qaq f172))))) st K) K
noncomputable abbrev qxS (K:KT):KT:=qbb 0 (qxR K)
noncomputable abbrev qz4 (K:KT):KT:=(qxS K)
theorem qIo (a0 a1 a2:AV) (m:Mem):AC cfg 172 [a0,a1,a2] m =
 (qpt none none (.int .u32 0) 4 m a2 a2).bind fun r1=>
 qqt a0 a1 r1.1 (.int .u64 0) (.int .i64 0) r1.2 (qz4 (qbw cfg.P f172.results.toList)):=
(qbx cfg 172 [a0,a1,a2] m (fn:=f172) (c:=qaq f172) qGJ rfl).trans (by kernel_rfl)
theorem qns (x0 x1 x7 x8 x9:AV) (m:Mem) (K:KT):qqt x0 x1 x7 x8 x9 m K =
 (qbY false x0).bind fun v1=>
 (qaz .other .lss x9 v1).bind fun v2=>
 ifA v2 (
 (qag none x0 x9).bind fun v3=>
 (qat none m v3).bind fun v4=>
 (qbl .u64 v4).bind fun v5=>
 (qaz .other .mul v5 x1).bind fun v6=>
 (qaz .other .add v6 x8).bind fun v7=>
 (qaz .other .rem v7 (.int .u64 4294967296)).bind fun v8=>
 (qbl .u32 v8).bind fun v9=>
 (qaY none [v9]).bind fun v10=>
 (qd6 none false 161 none 4 m x7 v10).bind fun r11=>
 (qaz .other .quo v7 (.int .u64 4294967296)).bind fun v12=>
 (qaz .other .add x9 (.int .i64 1)).bind fun v13=>
 qqt x0 x1 r11.1 v12 v13 r11.2 K) (
 K (.exit 0) (quV x7 x8 m)):=
(qa3 (qaT _) _ _ _).trans (by kernel_rfl)
theorem qtW (x7 x8:AV) (m:Mem):qz4 (qbw cfg.P f172.results.toList) (.exit 0) (quV x7 x8 m) =
 (qbl .u32 x8).bind fun v1=>
 (qaY none [v1]).bind fun v2=>
 (qd6 none false 161 none 4 m x7 v2).bind fun r3=>
 (qaN (AP cfg) none r3.2 133 [r3.1]).bind fun r4=>
 some (r4.1,r4.2):=by kernel_rfl
end Go.Ab

/- What the functions of the reference's numbers compute, in values. -/
set_option maxRecDepth 100000
namespace Go.Ab
open Go.Proofs.Tryz
def qmP (m:Mem) (ds:List Nat):NV:=if ds=[] then ⟨true,.full,[]⟩ else ⟨false,.tok m.length 161,ds⟩
def qoE (m:Mem) (ds:List Nat):Mem:=if ds=[] then m else qpT m ds.length
def qsR (ds:List Nat):NV:=if ds=[] then ⟨true,.full,[]⟩ else ⟨false,.no,ds⟩
theorem qDE (m:Mem) (ds:List Nat):(qmP m ds).fr=qsR ds:=by unfold qmP qsR;split<;>rfl
theorem qDC (ds:List Nat):(qsR ds).fr=qsR ds:=by unfold qsR;split<;>rfl
theorem qho (ds:List Nat):(qsR ds).ds=ds:=by
 unfold qsR
 split
 ·rename_i h;rw[h]
 ·rfl
theorem qvG (m:Mem) (ds:List Nat):Fz (qmP m ds).av (qsR ds).av:=by
 have:=qcy (qmP m ds)
 rwa [qDE] at this
theorem qDD {ds:List Nat} (h:Dg ds) (h':ds.length < 2 ^ 40):NOk (qsR ds):=by
 refine ⟨by rw[qho];exact h,by rw[qho];exact h',?_⟩
 unfold qsR
 split
 ·intro _;rfl
 ·intro h;cases h
theorem qAT (ds:List Nat):(qsR ds).v=val ds:=by rw[NV.v,qho]
theorem qfx {R:Type} {x y:Option R}:ifA (.bool true) x y=x:=rfl
theorem qe9 {R:Type} {x y:Option R}:ifA (.bool false) x y=y:=rfl
theorem qvj {m:Mem} {ds:List Nat} {z:Bool} {o:Own} (h:ds.length * 4<=qef):qd6 none false 161 none 4 m (.lst none true .full []) (.lst none z o (ds.map dg))=some ((qmP m ds).av,qoE m ds):=by
 cases ds with
 | nil=>rfl
 | cons d ds=>
  have h2:(ds.length+1) * 4<=qef:=by simpa using h
  simp only[qmP,qoE,NV.av,qd6,qaX,qad,qae,qaE,qar,h2,qa5,qaH,qpT,Sh.size,qaw,reduceCtorEq,qg7,qbe,or_true,qar]
theorem ql1 {m:Mem} {ds:List Nat} {v:Nat} (h:(ds.length+1) * 4<=qef):qd6 none false 161 none 4 (qoE m ds) (qmP m ds).av (.lst none false .full [.int .u32 v])=some ((qmP m (ds++[v])).av,qoE m (ds++[v])):=by
 cases ds with
 | nil=>exact qvj (ds:=[v]) h
 | cons d ds=>
  have:=ql2 (e:=161) (b:=4) (m:=m) (es:=(d::ds).map dg) (z:=false) (o:=.full) (y:=.int .u32 v) (by rw[qaE];exact h)
  rw[qaE] at this
  simp only[qmP,qoE,reduceCtorEq,qg7,NV.av]
  rw[this]
  simp[dg,qmP,qoE]
def qdy (n:Nat):NV:=qsR (qba n)
theorem qc2 (n:Nat):(qdy n).fr=qdy n:=qDC _
theorem qdg (n:Nat):(qdy n).ds=qba n:=qho _
theorem qbU (n:Nat):(qdy n).v=n:=by rw[NV.v,qdg,qbv]
theorem qbR {n:Nat} (h:(qba n).length < 2 ^ 40):NOk (qdy n):=qDD (qbC n) h
theorem qdM (n:Nat):qbY false (qdy n).av=some (.int .i64 (qba n).length):=by rw[qdj,qdg]
theorem qc8 (n:Nat):Fz (qdy n).av (qdy n).av:=by
 have:=qcy (qdy n)
 rwa [qc2] at this
theorem qgJ (n:Nat):∀ m k,frz m (k+1) (qdy n).av=some ((qdy n).av,[]):=by
 have:=qgl (qdy n)
 rwa [qc2] at this
theorem qIL (x:NV) (m:Mem) (K:KT):∀ n:Nat,n<=x.ds.length->x.ds.length < 2 ^ 62->qql x.av (.int .i64 n) m K=K (.exit 0) (qqS x.av (.int .i64 (trN x.ds n)) m):=by
 intro n
 induction n with
 | zero=>
  intro _ _
  rw[qnk]
  simp[qcB,ifA,trN]
 | succ n ih=>
  intro hn hl
  have ih:=ih (by omega) hl
  rw[qnk]
  have h1:((n+1:Nat):Int) > 0:=by omega
  have h2:IntKind.wrap .i64 (((n+1:Nat):Int) - 1)=n:=by rw[qbQ]<;>omega
  simp only[qcB,oBs,qap,qal h1,qel,h2]
  rw[NV.av,qeO (by omega) (by omega)]
  simp only[oBs,qbs,dg,qcK,qap,qaQ]
  rw[trN]
  by_cases h:x.ds.getD n 0=0
  ·rw[qal (by omega),qal h]
   exact ih
  ·rw[qah (by omega),qah h]
theorem qCx (x:NV) (dx:Dg x.ds) (hl:x.ds.length < 2 ^ 41):AP cfg 133 [x.av]=some (qdy x.v).av:=by
 have ht:=qoy x.ds x.ds.length
 refine qbI _ _ (qvG [] (qba x.v)) (qfQ _) (m:=qoE [] (qba x.v)) ?_
 rw[qIb,qdj,oBs,qIL x [] _ _ (qak _) (by omega),qtw]
 have hs:=qoo (z:=x.z) (o:=x.o) (ds:=x.ds) (k:=.i64) (i:=trN x.ds x.ds.length) (by omega) (by omega)
 rw[<- NV.av] at hs
 rw[hs,oBs]
 have he:x.ds.take (trN x.ds x.ds.length)=qba x.v:=qf1 dx
 have hdl:=qhf dx
 rw[qaQ,he,qvj (by rw[NV.v];simp only[qef];omega)]
 rfl
theorem qsZ {x:NV} (h:NOk x):AP cfg 133 [x.av]=some (qdy x.v).av:=qCx x h.dg (by have:=h.len;omega)
theorem qyV {x:NV} {i:Nat} (h:NOk x) (hi:i < 2 ^ 60):AP cfg 135 [x.av,.int .i64 i]=some (.int .u64 (x.ds.getD i 0:Nat)):=by
 have:=h.dg i
 refine qeG (m:=[]) ?_ (qcR _ _ _) (by simp[noV])
 rw[qId,qdj,oBs,qdc,oBs,qap]
 by_cases hl:i < x.ds.length
 ·rw[qal hl,qdi hl,oBs,qd4,oBs,qln _ this,oBs]
 ·rw[qah hl,qgL (by omega)];rfl
theorem W77 (x y:NV) (m:Mem) (K:KT) (hl:x.ds.length < 2 ^ 62):∀ n:Nat,n<=x.ds.length->n<=y.ds.length ->
  qyM x.av y.av (.int .i64 ((n:Int) - 1)) m K=if qls x.ds y.ds n=0 then K (.exit 0) (qCu m) else K .ret (qyU (.int .i64 (qls x.ds y.ds n)) m):=by
 intro n
 induction n with
 | zero=>
  intro _ _
  rw[qqN]
  simp[qdD,ifA,qls]
 | succ n ih=>
  intro hx hy
  have ih:=ih (by omega) (by omega)
  rw[qqN,show ((n+1:Nat):Int) - 1=(n:Nat) by omega,qoa,oBs,qfx]
  rw[qdi (by omega),oBs,qd4,oBs,qdi (by omega),oBs,qd4,oBs,dg,dg,qDo,oBs,qap]
  by_cases h:x.ds.getD n 0=y.ds.getD n 0
  ·have hc:qls x.ds y.ds (n+1)=qls x.ds y.ds n:=by rw[qls,qah (by omega),qah (by omega)]
   rw[hc,qah (fun hn=>hn h),qfh (by omega),oBs]
   exact ih
  ·rw[qal h,oBs,qd4,oBs,oBs,qd4,oBs,qdc,oBs,qap]
   by_cases h2:x.ds.getD n 0 < y.ds.getD n 0
   ·have hc:qls x.ds y.ds (n+1)=-1:=by rw[qls,qal h2]
    rw[hc,qal h2];rfl
   ·have hc:qls x.ds y.ds (n+1)=1:=by rw[qls,qah h2,qal (by omega)]
    rw[hc,qah h2];rfl
theorem V77 {x y:NV} (hx:NOk x) (hy:NOk y):AP cfg 77 [x.av,y.av]=some (.int .i64 (qhu x.v y.v)):=by
 have lx:=hx.v_len'
 have ly:=hy.v_len'
 refine qeG (m:=[]) ?_ (qcR _ _ _) (by simp[noV])
 rw[T77,qbt (qcy x),qsZ hx.fr,qaf,oBs,qbt (qcy y),qsZ hy.fr,qaf,oBs]
 rw[show x.fr.v=x.v from rfl,show y.fr.v=y.v from rfl,qdM,oBs,qdM,oBs,qDo,oBs,qap,<- qnL]
 by_cases h:(qba x.v).length=(qba y.v).length
 ·have hc:qy7 (qba x.v) (qba y.v)=qls (qba x.v) (qba y.v) (qba x.v).length:=by
   unfold qy7
   rw[qah (by omega),qah (by omega)]
  rw[hc,qah (fun hn=>hn h),oBs,qfh (by omega),oBs]
  have:=W77 (qdy x.v) (qdy y.v) [] (qyv (qbw cfg.P f77.results.toList)) (by rw[qdg];omega) (qba x.v).length (by rw[qdg];exact qak _) (by rw[qdg];omega)
  rw[this,qyw,quy,qdg,qdg]
  split
  ·rename_i h0;rw[h0]
  ·rfl
 ·rw[qal h,oBs,oBs,qdc,oBs,qap]
  unfold qy7
  by_cases h2:(qba x.v).length < (qba y.v).length
  ·rw[qal h2,qal h2]
  ·have h3:(qba x.v).length > (qba y.v).length:=by omega
   rw[qah h2,qah h2,qal h3]
theorem V72 {n:Nat} (h:n < 18446744073709551616):AP cfg 72 [.int .u64 n]=some (qdy n).av:=by
 have hb:∀ a b:Nat,qaY none [.int .u32 (a:Nat),.int .u32 (b:Nat)]=some (NV.av ⟨false,.full,[a,b]⟩):=fun _ _=>rfl
 have hd:Dg [n % 4294967296,n / 4294967296]:=qdO.2 ⟨qcO _ (by omega),qig (by omega)⟩
 refine qbI _ _ (qc8 n) (qfQ _) (m:=[]) ?_
 rw[T72,qlo,oBs,qmM,oBs,qlo,oBs,qbo (by omega:n / 4294967296 < 4294967296),hb,oBs,qbt (qcy _),qsZ (NOk.fr ⟨hd,by simp,by simp⟩)]
 simp only[qaf,oBs,NV.fr,NV.v,val]
 congr 4
 omega
theorem qHw {x:NV} (h:NOk x):AP cfg 155 [x.av]=some (qjk x.v):=by
 have e:qjk x.v=qhT (qdy x.v).ds:=by rw[qdg,qwD]
 rw[e]
 refine qeG (m:=[]) ?_ ((qrb _).1 _) (by simp[(qrb _).2])
 rw[qIg,qbt (qcy x),qsZ h.fr]
 have dt:Dg (qdy x.v).ds:=by rw[qdg];exact qbC _
 simp only[qaf,oBs]
 rw[show x.fr.v=x.v from rfl]
 generalize qdy x.v=a at dt
 rw[qdj,oBs,qfb,oBs,qap]
 obtain ⟨z,o,ds⟩:=a
 match ds,dt with
 | [],_=>rfl
 | [d],dt=>
  have h0:=(qdO.1 dt).1
  rw[qah (by simp),qji,oBs,qap,qal (by simp),qil (by simp),oBs,qd4,oBs]
  simp only[qcz]
  rw[qln d h0]
  rfl
 | [d,e],dt=>
  have h0:=(qdO.1 dt).1
  have h1:=(qdO.1 (qdO.1 dt).2).1
  have i1:qag none (NV.mk z o [d,e]).av (.int .i64 1)=some (.vptr [dg e]):=rfl
  rw[qah (by simp),qji,oBs,qap,qah (by simp),qAG,oBs,qap,qal (by simp),i1,oBs,qd4,oBs,qln e h1,oBs,qkH h1,oBs,qil (by simp),oBs,qd4,oBs]
  simp only[qcz]
  rw[qln d h0,oBs,qoA h1 h0,oBs]
  simp only[qhT,qfI]
 | d::e::f::l,_=>
  rw[qah (by simp),qji,oBs,qap,qah (by simp),qAG,oBs,qap,qah (by simp)]
  rfl
end Go.Ab

/- The reference's Add, Sub, Mul and short division, in values. -/
set_option maxRecDepth 100000
namespace Go.Ab
open Go.Proofs.Tryz
theorem qwR {tk:TK} {a:Nat} (h:a < 18446744073709551616):qaz tk .rem (.int .u64 a) (.int .u64 4294967296)=some (.int .u64 (a % 4294967296:Nat)):=qsU (b:=4294967296) (by omega) h
theorem qwQ {tk:TK} {a:Nat} (h:a < 18446744073709551616):qaz tk .quo (.int .u64 a) (.int .u64 4294967296)=some (.int .u64 (a / 4294967296:Nat)):=qpV (b:=4294967296) (by omega) h
theorem qA5 {tk:TK} {a:Nat}:qaz tk .gtr (.int .u64 a) (.int .u64 0)=some (.bool (decide (a > 0))):=qio
theorem qmq (a:Nat):a % 4294967296 % 4294967296=a % 4294967296:=Nat.mod_mod _ _
theorem qhe (n:Nat):qaY none [.int .u32 (n:Nat)]=some (.lst none false .full [.int .u32 n]):=rfl
theorem qFK {x y:NV} (hx:NOk x) (hy:NOk y) (m:Mem) (K:KT) (i:Nat) (hi:i < 2 ^ 41) (fx:x.fr=x) (fy:y.fr=y) :
  ((qaN (AP cfg) none (qoE m (qd2 x.ds y.ds i).1) 135 [x.av,.int .i64 i]).bind fun r3=>
  (qaN (AP cfg) none r3.2 135 [y.av,.int .i64 i]).bind fun r4=>
  (qaz .other .add r3.1 r4.1).bind fun v5=>
  (qaz .other .add v5 (.int .u64 (qd2 x.ds y.ds i).2)).bind fun v6=>
  (qaz .other .rem v6 (.int .u64 4294967296)).bind fun v7=>
  (qbl .u32 v7).bind fun v8=>
  (qaY none [v8]).bind fun v9=>
  (qd6 none false 161 none 4 r4.2 (qmP m (qd2 x.ds y.ds i).1).av v9).bind fun r10=>
  (qaz .other .quo v6 (.int .u64 4294967296)).bind fun v11=>
  (qaz .other .add (.int .i64 i) (.int .i64 1)).bind fun v12=>
  qlU x.av y.av r10.1 v11 v12 r10.2 K) =
  qlU x.av y.av (qmP m (qd2 x.ds y.ds (i+1)).1).av (.int .u64 (qd2 x.ds y.ds (i+1)).2) (.int .i64 (i+1:Nat)) (qoE m (qd2 x.ds y.ds (i+1)).1) K:=by
 have fzx:=qcy x
 have fzy:=qcy y
 rw[fx] at fzx
 rw[fy] at fzy
 have hc:=qeX hx.dg hy.dg i
 have h1:=hx.dg i
 have h2:=hy.dg i
 have hl:=qd8 x.ds y.ds i
 have e:(qd2 x.ds y.ds i).2+x.ds.getD i 0+y.ds.getD i 0=x.ds.getD i 0+y.ds.getD i 0+(qd2 x.ds y.ds i).2:=by omega
 simp only[qd2,e]
 rw[qcH fzx (qcR _ _),qyV hx (by omega),qaf,oBs,qcH fzy (qcR _ _),qyV hy (by omega),qaf,oBs,
  qg8 (by omega),oBs,qg8 (by omega),oBs,qwR (by omega),oBs,qlo,oBs,qmq,qhe,oBs,
  ql1 (by rw[hl];simp only[qef];omega),oBs,qwQ (by omega),oBs,qbM (by omega),oBs]
def qvb (a b:List Nat):Nat:=if (qd2 a b (max a.length b.length)).2 > 0 then max a.length b.length+1 else max a.length b.length
theorem qyX {a b:List Nat} (ha:Dg a) (hb:Dg b):val (qd2 a b (qvb a b)).1=val a+val b:=by
 have hc:=qeX ha hb (max a.length b.length)
 have e1:∀ n,max a.length b.length<=n->(qd2 a b n).2=0->val (qd2 a b n).1=val a+val b:=by
  intro n hn h0
  have:=ql0 a b n
  rw[h0,qc7,qby,qdB (by omega),qdB (by omega)] at this
  exact this
 unfold qvb
 split
 ·refine e1 _ (by omega) ?_
  have o1:a.getD (max a.length b.length) 0=0:=qgL (by omega)
  have o2:b.getD (max a.length b.length) 0=0:=qgL (by omega)
  simp only[qd2,o1,o2]
  omega
 ·exact e1 _ (qak _) (by omega)
theorem W76 {x y:NV} (hx:NOk x) (hy:NOk y) (m:Mem) (K:KT) (fx:x.fr=x) (fy:y.fr=y):∀ j i:Nat,i+j=max x.ds.length y.ds.length ->
  ∃ v,qlU x.av y.av (qmP m (qd2 x.ds y.ds i).1).av (.int .u64 (qd2 x.ds y.ds i).2) (.int .i64 i) (qoE m (qd2 x.ds y.ds i).1) K
   = K (.exit 0) (qyQ (qmP m (qd2 x.ds y.ds (qvb x.ds y.ds)).1).av v):=by
 have lx:=hx.len
 have ly:=hy.len
 have lst:∀ i,x.ds.length<=i->y.ds.length<=i->i < 2 ^ 41->(qd2 x.ds y.ds i).2=0 ->
   qlU x.av y.av (qmP m (qd2 x.ds y.ds i).1).av (.int .u64 (qd2 x.ds y.ds i).2) (.int .i64 i) (qoE m (qd2 x.ds y.ds i).1) K=K (.exit 0) (qyQ (qmP m (qd2 x.ds y.ds i).1).av (qoE m (qd2 x.ds y.ds i).1)):=by
  intro i h1 h2 h3 h4
  rw[qlV,qdj,oBs,qdc,oBs,qap,qah (by omega),qdj,oBs,qdc,oBs,qap,qah (by omega),qA5,oBs,qap,qah (by omega)]
 intro j
 induction j with
 | zero=>
  intro i hi
  have hi:i=max x.ds.length y.ds.length:=by omega
  by_cases hc:(qd2 x.ds y.ds i).2 > 0
  ·have ht:qvb x.ds y.ds=i+1:=by unfold qvb;rw[<- hi,qal hc]
   have o1:x.ds.getD i 0=0:=qgL (by omega)
   have o2:y.ds.getD i 0=0:=qgL (by omega)
   have hcc:=qeX hx.dg hy.dg i
   refine ⟨qoE m (qd2 x.ds y.ds (i+1)).1,?_⟩
   rw[qlV,qdj,oBs,qdc,oBs,qap,qah (by omega),qdj,oBs,qdc,oBs,qap,qah (by omega),qA5,oBs,qap,qal hc,qFK hx hy m K i (by omega) fx fy,ht]
   exact lst (i+1) (by omega) (by omega) (by omega) (by simp only[qd2,o1,o2];omega)
  ·have ht:qvb x.ds y.ds=i:=by unfold qvb;rw[<- hi,qah hc]
   rw[ht]
   exact ⟨_,lst i (by omega) (by omega) (by omega) (by omega)⟩
 | succ j ih=>
  intro i hi
  obtain ⟨v,ih⟩:=ih (i+1) (by omega)
  refine ⟨v,?_⟩
  rw[qlV,qdj,oBs,qdc,oBs,qap]
  by_cases h1:i < x.ds.length
  ·rw[qal h1,qFK hx hy m K i (by omega) fx fy]
   exact ih
  ·rw[qah h1,qdj,oBs,qdc,oBs,qap,qal (by omega),qFK hx hy m K i (by omega) fx fy]
   exact ih
theorem V76 {x y:NV} (hx:NOk x) (hy:NOk y) (fx:x.fr=x) (fy:y.fr=y):AP cfg 76 [x.av,y.av]=some (qdy (x.v+y.v)).av:=by
 have lx:=hx.len
 have ly:=hy.len
 obtain ⟨v,hw⟩:=W76 hx hy [] (qB5 (qbw cfg.P f76.results.toList)) fx fy (max x.ds.length y.ds.length) 0 (by omega)
 have hl:=qd8 x.ds y.ds (qvb x.ds y.ds)
 have hT:qvb x.ds y.ds<=max x.ds.length y.ds.length+1:=by unfold qvb;split<;>omega
 have hd:=qo5 x.ds y.ds (qvb x.ds y.ds)
 refine qbI _ _ (qc8 _) (qfQ _) (m:=v) ?_
 rw[T76]
 refine hw.trans ?_
 rw[qyu,qbt (qvG _ _),qCx _ (by rw[qho];exact hd) (by rw[qho,hl];omega),qAT,qyX hx.dg hy.dg]
 rfl
def qiD (a b:List Nat):Nat->List Nat×Nat
 | 0=>([],0)
 | i+1=>if a.getD i 0 < b.getD i 0+(qiD a b i).2 then ((qiD a b i).1++[a.getD i 0+4294967296 - (b.getD i 0+(qiD a b i).2)],1)
  else ((qiD a b i).1++[a.getD i 0 - (b.getD i 0+(qiD a b i).2)],0)
theorem qfT (a b:List Nat):∀ i,(qiD a b i).1.length=i
 | 0=>rfl
 | i+1=>by simp only[qiD];split<;>simp[qfT a b i]
theorem qgV (a b:List Nat):∀ i,(qiD a b i).2<=1
 | 0=>by simp[qiD]
 | i+1=>by simp only[qiD];split<;>simp
theorem qmJ {a b:List Nat} (ha:Dg a) (hb:Dg b):∀ i,Dg (qiD a b i).1
 | 0=>qj4
 | i+1=>by
  have:=qgV a b i
  have h1:=ha i
  have h2:=hb i
  simp only[qiD]
  split
  ·exact qj3 (qmJ ha hb i) (qig (by omega))
  ·exact qj3 (qmJ ha hb i) (qig (by omega))
theorem qzO {a b:List Nat} (ha:Dg a) (hb:Dg b) (i:Nat):val (qiD a b i).1+vs b i=vs a i+4294967296 ^ i * (qiD a b i).2:=by
 induction i with
 | zero=>
  rw[qiD,qfi,qfi]
  rfl
 | succ i ih=>
  have hl:=qfT a b i
  have hc:=qgV a b i
  have h1:=ha i
  have h2:=hb i
  rw[qc3,qc3,qbB,qiD]
  obtain ⟨s1,s2⟩:=qou (x:=a.getD i 0) (y:=b.getD i 0) (v1:=4294967296) ih
  rw[qfI (qiD a b i).2] at s1 s2
  split
  ·rename_i hlt
   simp only[]
   rw[qhr,hl,val,val,qc7,qby]
   exact s1 hlt (by omega)
  ·rename_i hlt
   simp only[]
   rw[qhr,hl,val,val,qc7,qby]
   exact s2 hlt
theorem qzN {a b:List Nat} (ha:Dg a) (hb:Dg b) (h:val b<=val a):val (qiD a b a.length).1=val a - val b:=by
 have h1:=qzO ha hb a.length
 rw[qdB (qak _),qA7 ha h] at h1
 have h2:=qeF (qmJ ha hb a.length)
 rw[qfT] at h2
 have h3:=qeF ha
 have hc:=qgV a b a.length
 have:(qiD a b a.length).2=0:=by
  apply qbJ
  intro hn
  have e:(qiD a b a.length).2=1:=by omega
  rw[e,qc1] at h1
  omega
 rw[this,qc7,qby] at h1
 omega
theorem W78 {x y:NV} (hx:NOk x) (hy:NOk y) (m:Mem) (K:KT) (fx:x.fr=x) (fy:y.fr=y):∀ j i:Nat,i+j=x.ds.length ->
  quI x.av y.av (qmP m (qiD x.ds y.ds i).1).av (.int .u64 (qiD x.ds y.ds i).2) (.int .i64 i) (qoE m (qiD x.ds y.ds i).1) K
   = K (.exit 0) (qCv (qmP m (qiD x.ds y.ds x.ds.length).1).av (qoE m (qiD x.ds y.ds x.ds.length).1)):=by
 have lx:=hx.len
 have fzx:=qcy x
 have fzy:=qcy y
 rw[fx] at fzx
 rw[fy] at fzy
 intro j
 induction j with
 | zero=>
  intro i hi
  have:i=x.ds.length:=by omega
  subst this
  rw[qqO,qdj,oBs,qdc,oBs,qap,qah (by omega)]
 | succ j ih=>
  intro i hi
  have ih:=ih (i+1) (by omega)
  have hc:=qgV x.ds y.ds i
  have h1:=hx.dg i
  have h2:=hy.dg i
  have hl:=qfT x.ds y.ds i
  have s1:qaz .other .mul (.int .u64 1) (.int .u64 4294967296)=some (.int .u64 (4294967296:Nat)):=rfl
  have s0:qaz .other .mul (.int .u64 0) (.int .u64 4294967296)=some (.int .u64 (0:Nat)):=rfl
  rw[qqO,qdj,oBs,qdc,oBs,qap,qal (by omega),qcH fzy (qcR _ _),qyV hy (by omega),qaf,oBs,qg8 (by omega),oBs,qcH fzx (qcR _ _),qyV hx (by omega),qaf,oBs,qdc,oBs,qap]
  simp only[qiD] at ih
  by_cases h:x.ds.getD i 0 < y.ds.getD i 0+(qiD x.ds y.ds i).2
  ·rw[qal h] at ih ⊢
   rw[qcH fzx (qcR _ _),qyV hx (by omega),qaf,oBs,s1,oBs,qg8 (by omega),oBs,qpW (by omega) (by omega),oBs,qlo,oBs,qhe,oBs,qbo (by omega),
    ql1 (by rw[hl];simp only[qef];omega),oBs,qbM (by omega),oBs]
   exact ih
  ·rw[qah h] at ih ⊢
   rw[qcH fzx (qcR _ _),qyV hx (by omega),qaf,oBs,s0,oBs,qg8 (by omega),oBs,qpW (by omega) (by omega),oBs,qlo,oBs,qhe,oBs,qbo (by omega),
    ql1 (by rw[hl];simp only[qef];omega),oBs,qbM (by omega),oBs]
   exact ih
def qD7 (x y:NV):AV:=if x.v < y.v then .tup [qD3,.int .i64 1] else .tup [(qdy (x.v - y.v)).av,.int .i64 0]
theorem V78 {x y:NV} (hx:NOk x) (hy:NOk y) (fx:x.fr=x) (fy:y.fr=y):AP cfg 78 [x.av,y.av]=some (qD7 x y):=by
 have lx:=hx.len
 have fzx:=qcy x
 have fzy:=qcy y
 rw[fx] at fzx
 rw[fy] at fzy
 unfold qD7
 by_cases h:x.v < y.v
 ·rw[qal h]
  refine qbI _ _ (qgI qiU (qdv _ _)) rfl (m:=[]) ?_
  rw[T78,qcH fzx fzy,V77 hx hy,qaf,oBs,qaU,oBs,qap,qhu,qal h,qal (by omega)]
 ·rw[qah h]
  have hl:=qfT x.ds y.ds x.ds.length
  have hd:=qmJ hx.dg hy.dg x.ds.length
  refine qbI _ _ (qgI (qgJ (x.v - y.v)) (qdv _ _)) rfl (m:=qoE [] (qiD x.ds y.ds x.ds.length).1) ?_
  have hc:¬ qhu x.v y.v < 0:=by unfold qhu;rw[qah h];split<;>omega
  rw[T78,qcH fzx fzy,V77 hx hy,qaf,oBs,qaU,oBs,qap,qah hc]
  refine (W78 hx hy [] _ fx fy x.ds.length 0 (by omega)).trans ?_
  rw[qyx,qbt (qvG _ _),qCx _ (by rw[qho];exact hd) (by rw[qho,hl];omega),qAT,qzN hx.dg hy.dg (qfz h)]
  rfl
theorem qIU (x y:NV) (m:Mem) (K:KT) (i n:Nat) (s:List Nat×Nat) (hl:n < 2 ^ 42) (hn:s.1.length=n) (hi:i+y.ds.length<=n) (hix:i < x.ds.length) (dx:Dg x.ds) (dy:Dg y.ds) (hs:Dg s.1) (hc:s.2 < 4294967296):∀ j k:Nat,k+j=y.ds.length ->
  qyL x.av y.av (.arr m.length 0 n none) (.int .i64 i) (.int .u64 (qgd y.ds (x.ds.getD i 0) i k s).2) (.int .i64 k) (m++[oc (qgd y.ds (x.ds.getD i 0) i k s).1]) K
   = K (.exit 2) (qCt x.av y.av (.arr m.length 0 n none) (.int .i64 i) (.int .u64 (qgd y.ds (x.ds.getD i 0) i y.ds.length s).2) (m++[oc (qgd y.ds (x.ds.getD i 0) i y.ds.length s).1])):=by
 intro j
 induction j with
 | zero=>
  intro k hk
  have:k=y.ds.length:=by omega
  subst this
  rw[qqM,qdj,oBs,qdc,oBs,qap,qah (by omega)]
 | succ j ih=>
  intro k hk
  have ih:=ih (k+1) (by omega)
  have hx:=dx i
  obtain ⟨h1,h2⟩:=qfB (i:=i) dy hx hs hc k
  have h3:=h1 (i+k)
  have h4:=dy k
  have h5:x.ds.getD i 0 * y.ds.getD k 0<=4294967295 * 4294967295:=qdU (by omega) (by omega)
  have hlen:=qed y.ds (x.ds.getD i 0) i s k
  have hget:∀ l,(m++[oc l])[m.length]?=some (oc l):=fun l=>qdV ..
  have hset:∀ l l',(m++[oc l]).set m.length (oc l')=m++[oc l']:=by
   intro l l'
   rw[qcV _ _ (qak _),qd1,qau]
  rw[qqM,qdj,oBs,qdc,oBs,qap,qal (by omega)]
  simp only[qgd] at ih
  generalize qgd y.ds (x.ds.getD i 0) i k s=t at *
  rw[qdi hix,oBs,qd4,oBs,qln _ hx,oBs,qdi (by omega),oBs,qd4,oBs,qln _ h4,oBs,qwP (by omega),oBs,qfu (by omega),oBs,qbf (by omega),oBs,qfP (hget _) (by omega),oBs,qln _ h3,oBs,
   qg8 (by omega),oBs,qg8 (by omega),oBs,oBs,qwR (by omega),oBs,qlo,oBs,qmq,qbf (by omega),oBs,qdN (hget _) (by omega),hset,oBs,qwQ (by omega),oBs,qbM (by omega),oBs]
  have e:t.2+(t.1.getD (i+k) 0+x.ds.getD i 0 * y.ds.getD k 0)=x.ds.getD i 0 * y.ds.getD k 0+t.1.getD (i+k) 0+t.2:=by omega
  rw[e] at ih
  exact ih
theorem W75 (x y:NV) (m:Mem) (K:KT) (hx:x.ds.length < 2 ^ 40) (hy:y.ds.length < 2 ^ 40) (dx:Dg x.ds) (dy:Dg y.ds):∀ j i:Nat,i+j=x.ds.length ->
  qyK x.av y.av (.arr m.length 0 (x.ds.length+y.ds.length) none) (.int .i64 i) (m++[oc (qhy x.ds y.ds i)]) K
   = K (.exit 0) (qCs (.arr m.length 0 (x.ds.length+y.ds.length) none) (m++[oc (qhy x.ds y.ds x.ds.length)])):=by
 intro j
 induction j with
 | zero=>
  intro i hi
  have:i=x.ds.length:=by omega
  subst this
  rw[qqL,qdj,oBs,qdc,oBs,qap,qah (by omega)]
 | succ j ih=>
  intro i hi
  have ih:=ih (i+1) (by omega)
  rw[qqL,qdj,oBs,qdc,oBs,qap,qal (by omega)]
  have hb:=qIU x y m (qB1 K) i (x.ds.length+y.ds.length) (qhy x.ds y.ds i,0) (by omega) (qec ..) (by omega) (by omega) dx dy (qh3 dx dy i) (by simp) y.ds.length 0 (by omega)
  refine Eq.trans ?_ (hb.trans ?_)
  ·rfl
  obtain ⟨h1,h2⟩:=qfB (i:=i) (s:=(qhy x.ds y.ds i,0)) dy (dx i) (qh3 dx dy i) (by simp) y.ds.length
  have hl:=qed y.ds (x.ds.getD i 0) i (qhy x.ds y.ds i,0) y.ds.length
  simp only[qec] at hl
  have hget:∀ l,(m++[oc l])[m.length]?=some (oc l):=fun l=>qdV ..
  have hset:∀ l l',(m++[oc l]).set m.length (oc l')=m++[oc l']:=by
   intro l l'
   rw[qcV _ _ (qak _),qd1,qau]
  rw[qyt,qdj,oBs,qfu (by omega),oBs,qlo,oBs,qbo h2,qbf (by omega),oBs,qdN (hget _) (by omega),hset,oBs,qbM (by omega),oBs]
  exact ih
theorem V75 {x y:NV} (hx:NOk x) (hy:NOk y):AP cfg 75 [x.av,y.av]=some (qdy (x.v * y.v)).av:=by
 have lx:=hx.v_len'
 have ly:=hy.v_len'
 have hd:=qh3 (qbC x.v) (qbC y.v) (qba x.v).length
 have hlen:=qec (qba x.v) (qba y.v) (qba x.v).length
 have hval:=qms (qba x.v) (qba y.v) (qba x.v).length (qak _)
 rw[qdB (qak _),qbv,qbv] at hval
 refine qbI _ _ (qc8 _) (qfQ _) (m:=[none]) ?_
 rw[T75,qbt (qcy x),qsZ hx.fr,qaf,oBs,qbt (qcy y),qsZ hy.fr,qaf,oBs]
 rw[show x.fr.v=x.v from rfl,show y.fr.v=y.v from rfl,qdM,oBs,qdM,oBs,qfu (by omega),oBs,qhn (by omega) (by omega),oBs]
 have hw:=W75 (qdy x.v) (qdy y.v) [] (qBY (qbw cfg.P f75.results.toList)) (by rw[qdg];omega) (by rw[qdg];omega) (by rw[qdg];exact qbC _) (by rw[qdg];exact qbC _) (qba x.v).length 0 (by rw[qdg];omega)
 simp only[qdg] at hw
 refine Eq.trans ?_ (hw.trans ?_)
 ·rfl
 have hp:=qf6 (cp:=AP cfg) (g:=133) (m:=[]++[oc (qhy (qba x.v) (qba y.v) (qba x.v).length)]) (nm:=0) (ds:=qhy (qba x.v) (qba y.v) (qba x.v).length) rfl
 rw[hlen] at hp
 rw[qys,show ([]:Mem).length=0 from rfl,hp,qCx _ hd (by simp only[hlen];omega)]
 simp only[NV.v] at hval ⊢
 rw[hval]
 rfl
theorem qIO (x:NV) (d:Nat) (m:Mem) (K:KT) (hl:x.ds.length < 2 ^ 40) (dx:Dg x.ds) (hd:0 < d) (hd':d < 4294967296):∀ j k:Nat,k+j=x.ds.length ->
  qqs x.av (.int .u64 d) (.arr m.length 0 x.ds.length none) (.int .u64 (shS x.ds d k).2) (.int .i64 ((j:Int) - 1)) (m++[oc (shS x.ds d k).1]) K
   = K (.exit 0) (quU (.arr m.length 0 x.ds.length none) (.int .u64 (shS x.ds d x.ds.length).2) (m++[oc (shS x.ds d x.ds.length).1])):=by
 intro j
 induction j with
 | zero=>
  intro k hk
  have:k=x.ds.length:=by omega
  subst this
  rw[qnr]
  simp[qdD,ifA]
 | succ j ih=>
  intro k hk
  have ih:=ih (k+1) (by omega)
  have hr:=qjG (a:=x.ds) hd k
  have hq:=qpM (a:=x.ds) dx hd k j
  have hlen:=qeE x.ds d k
  have hj:=dx j
  have ej:x.ds.length - 1 - k=j:=by omega
  have mB:∀ a:Nat,a < 4294967296->qaz .other .mul (.int .u64 a) (.int .u64 4294967296)=some (.int .u64 (a * 4294967296:Nat)):=fun a h=>qwP (b:=4294967296) (by omega)
  have hset:∀ l l',(m++[oc l]).set m.length (oc l')=m++[oc l']:=by
   intro l l'
   rw[qcV _ _ (qak _),qd1,qau]
  rw[qnr,show ((j+1:Nat):Int) - 1=(j:Nat) by omega,qoa,oBs,qfx]
  simp only[shS,ej] at ih
  generalize shS x.ds d k=t at *
  rw[mB _ (by omega),oBs,qdi (by omega),oBs,qd4,oBs,qln _ hj,oBs,qg8 (by omega),oBs,qpV (by omega) (by omega),oBs,qlo,oBs,qbf (by omega),oBs,qbo hq,qdN (qdV ..) (by omega),hset,oBs,qsU (by omega) (by omega),oBs,qfh (by omega),oBs]
  exact ih
theorem qHA {x:NV} {d:Nat} (hx:NOk x) (hd:0 < d) (hd':d < 4294967296):AP cfg 170 [x.av,.int .u64 d]=some (.tup [(qdy (x.v / d)).av,.int .u64 (x.v % d:Nat)]):=by
 have lx:=hx.len
 obtain ⟨k1,k2⟩:=qrO hx.dg hd
 refine qbI _ _ (qgI (qgJ (x.v / d)) (qdv _ _)) rfl (m:=[none]) ?_
 rw[qIm,qdj,oBs,qhn (by omega) (by omega),oBs,oBs,qfh (by omega),oBs]
 have:=qIO x d [] (qtU (qbw cfg.P f170.results.toList)) lx hx.dg hd hd' x.ds.length 0 (by omega)
 refine this.trans ?_
 have hp:=qf6 (cp:=AP cfg) (g:=133) (m:=[]++[oc (shS x.ds d x.ds.length).1]) (nm:=0) (ds:=(shS x.ds d x.ds.length).1) rfl
 rw[qeE] at hp
 rw[qrN,qf1 (qlH hx.dg hd _)] at k1
 rw[qtV,show ([]:Mem).length=0 from rfl,hp,qCx _ (qlH hx.dg hd _) (by simp only[qeE];omega),k2]
 simp only[qaf,oBs,NV.v]
 rw[qy8 k1]
 rfl
theorem qFy {x:NV} (hx:NOk x):AP cfg 157 [x.av]=some (qdy (x.v / 2)).av:=by
 refine qbI _ _ (qc8 _) (qfQ _) (m:=[]) ?_
 have h:=qHA (d:=2) (qbR hx.v_len') (by omega) (by omega)
 rw[qbU] at h
 rw[qIi,qbt (qcy x),qsZ hx.fr,qaf,oBs,show x.fr.v=x.v from rfl,qcH (qc8 _) (qcR _ _)]
 simp only[]
 rw[show AV.int .u64 2=.int .u64 ((2:Nat):Int) from rfl,h]
 rfl
theorem qvI (ds:List Nat):ds.getD 0 0 % 2=val ds % 2:=by
 cases ds with
 | nil=>rfl
 | cons d ds=>rw[qcz,val];omega
theorem qFx {x:NV} (hx:NOk x):AP cfg 156 [x.av]=some (.bool (decide (x.v % 2=0))):=by
 have h0:=hx.dg 0
 have h:=qyV (i:=0) hx.fr (by omega)
 refine qeG (m:=[]) ?_ (qke _ _) (by simp[noV])
 rw[qIh,qcH (qcy x) (qcR _ _),show AV.int .i64 0=.int .i64 ((0:Nat):Int) from rfl,h,qaf,oBs]
 simp only[NV.fr]
 rw[show AV.int .u64 2=.int .u64 ((2:Nat):Int) from rfl,qsU (by omega) (by omega),oBs,qfb,oBs,qvI]
 rfl
end Go.Ab

/- The reference's division, in values. -/
set_option maxRecDepth 100000
namespace Go.Ab
open Go.Proofs.Tryz
def qhI (b:List Nat) (d s:Nat):Nat->List Nat×Nat
 | 0=>(List.replicate s 0,0)
 | i+1=>((qhI b d s i).1++[(b.getD i 0 * d+(qhI b d s i).2) % 4294967296],(b.getD i 0 * d+(qhI b d s i).2) / 4294967296)
theorem qgX (b:List Nat) (d s:Nat):∀ i,(qhI b d s i).1.length=s+i
 | 0=>by simp[qhI]
 | i+1=>by simp only[qhI,qab,qgX b d s i,qad,qae];omega
theorem qi3 {b:List Nat} {d:Nat} (hb:Dg b) (hd:d < 4294967296) (s:Nat):∀ i,(qhI b d s i).2 < 4294967296
 | 0=>by simp[qhI]
 | i+1=>by
  have:=qi3 hb hd s i
  have h1:=hb i
  have h5:b.getD i 0 * d<=4294967295 * 4294967295:=qdU (by omega) (by omega)
  simp only[qhI]
  omega
theorem qwK (b:List Nat) (d s:Nat):∀ i,Dg (qhI b d s i).1
 | 0=>qj5 _
 | i+1=>qj3 (qwK b d s i) (qig (qcO _ (by omega)))
theorem qrT (b:List Nat) (d s:Nat):∀ i,val (qhI b d s i).1+4294967296 ^ (s+i) * (qhI b d s i).2=4294967296 ^ s * (vs b i * d)
 | 0=>by simp[qhI,qmN,qfi]
 | i+1=>by
  have ih:=qrT b d s i
  simp only[qhI,qhr,qgX,val,qc3]
  have h1:=pmd (4294967296 ^ (s+i)) 4294967296 (b.getD i 0 * d+(qhI b d s i).2)
  generalize hw:b.getD i 0 * d+(qhI b d s i).2=w at *
  rw[<- hw,qa8,hw] at h1
  have e:4294967296 ^ s * ((vs b i+4294967296 ^ i * b.getD i 0) * d)=4294967296 ^ s * (vs b i * d)+4294967296 ^ (s+i) * (b.getD i 0 * d):=by
   rw[qbd,qa8,qfY,qaO,qaO]
  rw[e,<- ih,<- qcD,qbB,qc7,qby]
  omega
def tV (m:Mem) (i:Nat) (ds:List Nat):NV:=if i=0 then ⟨false,.full,ds⟩ else ⟨false,.tok m.length 161,ds⟩
def tM (m:Mem) (i:Nat) (ds:List Nat):Mem:=if i=0 then m else qpT m ds.length
theorem qEx {m:Mem} {i:Nat} {ds:List Nat} {v:Nat} (h:(ds.length+1) * 4<=qef):qd6 none false 161 none 4 (tM m i ds) (tV m i ds).av (.lst none false .full [.int .u32 v])=some ((tV m (i+1) (ds++[v])).av,tM m (i+1) (ds++[v])):=by
 by_cases hi:i=0
 ·subst hi
  simp only[tV,tM,qa5,NV.av,qd6,qaE,qad,qae,qar,h,qaH,qpT,Sh.size,qbe,qg7,true_or,qcA,qaX,qia,dg,qab,Nat.add_eq_zero_iff,Nat.one_ne_zero,and_false,Nat.succ_ne_zero]
 ·have:=ql2 (e:=161) (b:=4) (m:=m) (es:=ds.map dg) (z:=false) (o:=.full) (y:=.int .u32 v) (by rw[qaE];exact h)
  rw[qaE] at this
  simp only[tV,tM,qah hi,NV.av,qah (Nat.succ_ne_zero i)]
  rw[this]
  simp[dg]
theorem qIP (x:NV) (d s:Nat) (m:Mem) (K:KT) (hl:x.ds.length < 2 ^ 40) (dx:Dg x.ds) (hd:d < 4294967296) (hs:s < 2 ^ 40):∀ j i:Nat,i+j=x.ds.length ->
  qqt x.av (.int .u64 d) (tV m i (qhI x.ds d s i).1).av (.int .u64 (qhI x.ds d s i).2) (.int .i64 i) (tM m i (qhI x.ds d s i).1) K
   = K (.exit 0) (quV (tV m x.ds.length (qhI x.ds d s x.ds.length).1).av (.int .u64 (qhI x.ds d s x.ds.length).2) (tM m x.ds.length (qhI x.ds d s x.ds.length).1)):=by
 intro j
 induction j with
 | zero=>
  intro i hi
  have:i=x.ds.length:=by omega
  subst this
  rw[qns,qdj,oBs,qdc,oBs,qap,qah (by omega)]
 | succ j ih=>
  intro i hi
  have ih:=ih (i+1) (by omega)
  have h1:=dx i
  have h2:=qi3 dx hd s i
  have hlen:=qgX x.ds d s i
  have h5:x.ds.getD i 0 * d<=4294967295 * 4294967295:=qdU (by omega) (by omega)
  simp only[qhI] at ih
  rw[qns,qdj,oBs,qdc,oBs,qap,qal (by omega),qdi (by omega),oBs,qd4,oBs,qln _ h1,oBs,qwP (by omega),oBs,qg8 (by omega),oBs,qwR (by omega),oBs,qlo,oBs,qmq,qhe,oBs,
   qEx (by rw[hlen];simp only[qef];omega),oBs,qwQ (by omega),oBs,qbM (by omega),oBs]
  exact ih
theorem qHB {x:NV} {d s:Nat} (hx:NOk x) (hd:d < 4294967296) (hs:s < 2 ^ 40):AP cfg 172 [x.av,.int .u64 d,.int .i64 s]=some (qdy (4294967296 ^ s * (x.v * d))).av:=by
 have lx:=hx.len
 have hlen:=qgX x.ds d s x.ds.length
 have hc:=qi3 hx.dg hd s x.ds.length
 have hv:=qrT x.ds d s x.ds.length
 rw[qdB (qak _)] at hv
 have hdg:Dg ((qhI x.ds d s x.ds.length).1++[(qhI x.ds d s x.ds.length).2]):=qj3 (qwK _ _ _ _) (qig hc)
 have hmk:qpt none none (.int .u32 0) 4 [] (.int .i64 s) (.int .i64 s)=some ((NV.mk false .full (List.replicate s 0)).av,[]):=by
  have h1:(s:Int) * 4<=281474976710656:=by omega
  have h2:(s:Int)<=9223372036854775807:=by omega
  have h3:(0:Int)<=s:=by omega
  simp only[qpt,NV.av,List.map_replicate,dg]
  rw[qal ⟨⟨h3,trivial,h1,h2⟩,rfl,rfl⟩]
  rfl
 refine qbI _ _ (qc8 _) (qfQ _) (m:=tM [] (x.ds.length+1) ((qhI x.ds d s x.ds.length).1++[(qhI x.ds d s x.ds.length).2])) ?_
 rw[qIo,hmk,oBs]
 refine (qIP x d s [] _ lx hx.dg hd hs x.ds.length 0 (by omega)).trans ?_
 have hfz:Fz (tV [] (x.ds.length+1) ((qhI x.ds d s x.ds.length).1++[(qhI x.ds d s x.ds.length).2])).av (NV.mk false .no ((qhI x.ds d s x.ds.length).1++[(qhI x.ds d s x.ds.length).2])).av:=by
  have:=qcy (tV [] (x.ds.length+1) ((qhI x.ds d s x.ds.length).1++[(qhI x.ds d s x.ds.length).2]))
  unfold tV at this ⊢
  rw[qah (by omega)] at this ⊢
  exact this
 rw[qtW,qlo,oBs,qhe,oBs,qbo hc,qEx (by rw[hlen];simp only[qef];omega),oBs,qbt hfz,qCx _ hdg (by simp only[qab,hlen,qad,qae];omega)]
 simp only[qaf,oBs,NV.v] at hv ⊢
 rw[qhr,hlen,val,val,qc7,qby,hv]
theorem qJV {a b p q top lead:Nat} (hq:q * b<=a) (ha:a < (top+1) * p) (hb:lead * p<=b) (hl:0 < lead):q<=top / lead:=by
 rw[quK hl]
 have h1:q * lead * p<=q * b:=by rw[qaO];exact qa9 _ hb
 have h2:q * lead * p < (top+1) * p:=by omega
 have:=qi9 h2
 omega
theorem qJU {a b p top lead:Nat} (ha:top * p<=a) (hb:b<=(lead+1) * p) (hb0:0 < b):top / (lead+1)<=a / b:=by
 rw[quK hb0]
 have h1:top / (lead+1) * b<=top / (lead+1) * ((lead+1) * p):=qa9 _ hb
 rw[<- qaO] at h1
 have h2:top / (lead+1) * (lead+1) * p<=top * p:=qaS _ (qEg _ _)
 omega
theorem qDT {a:List Nat} {k:Nat} (ha:Dg a) (h:val a < 4294967296 ^ (k+2)):(a.getD (k+1) 0 * 4294967296+a.getD k 0) * 4294967296 ^ k<=val a/\val a < (a.getD (k+1) 0 * 4294967296+a.getD k 0+1) * 4294967296 ^ k:=by
 have h1:val a=vs a (k+2):=by
  have hz:∀ j,vs a (k+2+j)=vs a (k+2):=by
   intro j
   induction j with
   | zero=>rfl
   | succ j ih=>
    rw[<- qcD,qc3,ih]
    have hle:=qFr a (k+2+j+1)
    rw[qc3] at hle
    have hp:4294967296 ^ (k+2)<=4294967296 ^ (k+2+j):=qbA (by omega) (by omega)
    have h0:a.getD (k+2+j) 0=0:=by
     apply qbJ
     intro hn
     have:4294967296 ^ (k+2+j) * 1<=4294967296 ^ (k+2+j) * a.getD (k+2+j) 0:=qa9 _ (by omega)
     omega
    rw[h0,qc7,qby]
  rw[<- qdB (a:=a) (i:=k+2+a.length) (by omega)]
  exact hz a.length
 have h2:=qoC ha k
 rw[h1,qc3,qc3,qbB,qbd _ 1,qbd,qaO,qaI (4294967296 ^ k) (a.getD k 0),qaI (4294967296 ^ k) 4294967296,qaI (4294967296 * 4294967296 ^ k)]
 omega
theorem qIF {x y:NV} {i n:Nat} (hx:NOk x) (hy:NOk y) (hi:i < 2 ^ 40) (hn:y.ds.length=n) (hn1:1<=n) (hlead:y.ds.getD (n - 1) 0≠0) (hq:x.v / (y.v * 4294967296 ^ i) < 4294967296) :
  ∃ lo hi:Nat,AP cfg 171 [x.av,y.av,.int .i64 i]=some (.tup [.int .u64 lo,.int .u64 hi])/\lo<=x.v / (y.v * 4294967296 ^ i)/\x.v / (y.v * 4294967296 ^ i)<=hi/\hi < 4294967296:=by
 have lx:=hx.len
 have ly:=hy.len
 obtain ⟨k,rfl⟩:∃ k,n=k+1:=⟨n - 1,by omega⟩
 rw[qbO] at hlead
 have hyv:y.v=vs y.ds k+4294967296 ^ k * y.ds.getD k 0:=by rw[NV.v,<- qdB (Nat.le_of_eq hn),qc3]
 have hlo:=qoC hy.dg k
 have hld:=hy.dg k
 have hpi:0 < 4294967296 ^ i:=Nat.pow_pos (by omega)
 have hpk:0 < 4294967296 ^ k:=Nat.pow_pos (by omega)
 have hyp:0 < y.v:=by
  rw[hyv]
  have:4294967296 ^ k * 1<=4294967296 ^ k * y.ds.getD k 0:=qa9 _ (by omega)
  omega
 have hb0:0 < y.v * 4294967296 ^ i:=Nat.mul_pos hyp hpi
 have hb1:y.ds.getD k 0 * 4294967296 ^ (k+i)<=y.v * 4294967296 ^ i:=by
  rw[qfY,<- qaO]
  exact qaS _ (by rw[hyv,qaI];omega)
 have hb2:y.v * 4294967296 ^ i<=(y.ds.getD k 0+1) * 4294967296 ^ (k+i):=by
  rw[qfY,<- qaO]
  refine qaS _ ?_
  rw[hyv,qbd,qek,qaI]
  omega
 have hxlt:val x.ds < 4294967296 ^ (k+i+2):=by
  rw[qdp hb0] at hq
  have h1:(y.ds.getD k 0+1) * 4294967296 ^ (k+i)<=4294967296 * 4294967296 ^ (k+i):=qaS _ hld
  have h2:4294967296 * (y.v * 4294967296 ^ i)<=4294967296 * (4294967296 * 4294967296 ^ (k+i)):=qa9 _ (qa0 hb2 h1)
  rw[qbB,qbB]
  have h3:4294967296 ^ (k+i) * 4294967296 * 4294967296=4294967296 * (4294967296 * 4294967296 ^ (k+i)):=by
   rw[qaI,qaI (4294967296 ^ (k+i))]
  rw[h3]
  exact qcU hq h2
 obtain ⟨t1,t2⟩:=qDT hx.dg hxlt
 have d1:=hx.dg (k+i+1)
 have d2:=hx.dg (k+i)
 have qle:x.v / (y.v * 4294967296 ^ i)<=(x.ds.getD (k+i+1) 0 * 4294967296+x.ds.getD (k+i) 0) / y.ds.getD k 0:=qJV (qEg _ _) t2 hb1 (by omega)
 have qge:(x.ds.getD (k+i+1) 0 * 4294967296+x.ds.getD (k+i) 0) / (y.ds.getD k 0+1)<=x.v / (y.v * 4294967296 ^ i):=qJU t1 hb2 hb0
 have hfz:=qgI (qdv .u64 0) (qdv .u64 0)
 have key:∃ lo hi:Nat,AC cfg 171 [x.av,y.av,.int .i64 i] []=some (.tup [.int .u64 lo,.int .u64 hi],[])/\lo<=x.v / (y.v * 4294967296 ^ i)/\x.v / (y.v * 4294967296 ^ i)<=hi/\hi < 4294967296:=by
  have e1:i+(k+1)=k+i+1:=by omega
  have uB:∀ a:Nat,qaz .other .lss (.int .u64 a) (.int .u64 4294967295)=some (.bool (decide (a < 4294967295))):=fun a=>qdc (b:=4294967295)
  have u0:∀ a:Nat,qaz .other .gtr (.int .u64 0) (.int .u64 a)=some (.bool (decide (0 > a))):=fun a=>qsG (a:=0)
  have u0B:qaz .other .gtr (.int .u64 0) (.int .u64 4294967295)=some (.bool false):=rfl
  have uaB:∀ a:Nat,qaz .other .gtr (.int .u64 a) (.int .u64 4294967295)=some (.bool (decide (a > 4294967295))):=fun a=>qsG (b:=4294967295)
  have ua1:∀ a:Nat,a < 4294967296->qaz .other .add (.int .u64 a) (.int .u64 1)=some (.int .u64 (a+1:Nat)):=fun a h=>qg8 (b:=1) (by omega)
  rw[qIn,qdj,hn,oBs,qfu (by omega),oBs,qcH (qcy x) (qcR _ _),qyV hx.fr (by omega),qaf,oBs]
  rw[show x.fr.ds=x.ds from rfl,e1,qkH (hx.dg _),oBs,oBs,qfN (by omega) (by omega),oBs,qbO,qcH (qcy x) (qcR _ _),qyV hx.fr (by omega),qaf,oBs]
  rw[show x.fr.ds=x.ds from rfl,qoA (hx.dg _) (hx.dg _),oBs,qfN (by omega) (by omega),oBs,qbO,qdi (by omega),oBs,qd4,oBs,qln _ hld,oBs,qpV (by omega) (by omega),oBs,uB,oBs,qap]
  have hdl:=qib (x.ds.getD (k+i+1) 0 * 4294967296+x.ds.getD (k+i) 0) (y.ds.getD k 0+1)
  have uq:qaz .other .quo (.int .u64 (x.ds.getD (k+i+1) 0 * 4294967296+x.ds.getD (k+i) 0:Nat)) (.int .u64 (y.ds.getD k 0+1:Nat))=some (.int .u64 ((x.ds.getD (k+i+1) 0 * 4294967296+x.ds.getD (k+i) 0) / (y.ds.getD k 0+1):Nat)):=qpV (by omega) (by omega)
  by_cases c1:(x.ds.getD (k+i+1) 0 * 4294967296+x.ds.getD (k+i) 0) / y.ds.getD k 0 < 4294967295
  ·rw[qal c1,oBs,ua1 _ hld,oBs,qrx,oBs,qap]
   by_cases c2:y.ds.getD k 0+1 < 4294967296
   ·rw[qal c2,oBs,uq,oBs,qrx,oBs,qap]
    by_cases c3:(x.ds.getD (k+i+1) 0 * 4294967296+x.ds.getD (k+i) 0) / (y.ds.getD k 0+1) < 4294967296
    ·rw[qal c3,oBs,uq,oBs,qsG,oBs,qap,qah (by omega)]
     exact ⟨_,_,rfl,qge,qle,by omega⟩
    ·rw[qah c3,u0,oBs,qap,qah (Nat.not_lt_zero _)]
     exact ⟨0,_,rfl,qdq _,qle,by omega⟩
   ·rw[qah c2,u0,oBs,qap,qah (Nat.not_lt_zero _)]
    exact ⟨0,_,rfl,qdq _,qle,by omega⟩
  ·rw[qah c1,ua1 _ hld,oBs,qrx,oBs,qap]
   by_cases c2:y.ds.getD k 0+1 < 4294967296
   ·rw[qal c2,oBs,uq,oBs,qrx,oBs,qap]
    by_cases c3:(x.ds.getD (k+i+1) 0 * 4294967296+x.ds.getD (k+i) 0) / (y.ds.getD k 0+1) < 4294967296
    ·rw[qal c3,oBs,uq,oBs,uaB,oBs,qap,qah (by omega)]
     exact ⟨_,4294967295,rfl,qge,by omega,by omega⟩
    ·rw[qah c3,u0B,oBs,qe9]
     exact ⟨0,4294967295,rfl,qdq _,by omega,by omega⟩
   ·rw[qah c2,u0B,oBs,qe9]
    exact ⟨0,4294967295,rfl,qdq _,by omega,by omega⟩
 obtain ⟨lo,hi',k1,k2⟩:=key
 exact ⟨lo,hi',qbI _ _ (qgI (qdv _ _) (qdv _ _)) rfl k1,k2⟩
end Go.Ab

/- The reference's division and greatest common divisor, in values. -/
set_option maxRecDepth 100000
namespace Go.Ab
open Go.Proofs.Tryz
theorem qje {b s d:Nat} (hd:d < 4294967296):(qba (4294967296 ^ s * (b * d))).length<=s+((qba b).length+1):=by
 refine qbp ?_
 rw[qfY]
 refine Nat.mul_lt_mul_of_pos_left ?_ (Nat.pow_pos (by omega))
 have h:=qeF (qbC b)
 rw[qbv] at h
 rw[qbB]
 exact Nat.mul_lt_mul'' h hd
theorem qCI {a b i q:Nat} (K:KT) (x9:AV) (m:Mem) (la:(qba a).length < 2 ^ 40) (lb:(qba b).length < 2 ^ 40) (hi:i < 2 ^ 39) (lb2:(qba b).length+i+1 < 2 ^ 40) (hq:q=a / (b * 4294967296 ^ i)) (hb:0 < b):∀ (r lo hi':Nat),hi' - lo<=r->lo<=q->q<=hi'->hi' < 4294967296 ->
  qjP (qdy a).av (qdy b).av x9 (.int .i64 i) (.int .u64 lo) (.int .u64 hi') m K=K (.exit 2) (qoX (qdy a).av (qdy b).av x9 (.int .i64 i) (.int .u64 q) m):=by
 have hpi:0 < 4294967296 ^ i:=Nat.pow_pos (by omega)
 have hbp:0 < b * 4294967296 ^ i:=Nat.mul_pos hb hpi
 intro r
 induction r with
 | zero=>
  intro lo hi' hr h1 h2 h3
  have:lo=q:=by omega
  subst this
  rw[qk6,qdc,oBs,qap,qah (by omega)]
 | succ r ih=>
  intro lo hi' hr h1 h2 h3
  rw[qk6,qdc,oBs,qap]
  by_cases hlt:lo < hi'
  ·have u1:∀ a:Nat,a < 4294967296->qaz .other .add (.int .u64 a) (.int .u64 1)=some (.int .u64 (a+1:Nat)):=fun a h=>qg8 (b:=1) (by omega)
   have u2:∀ a:Nat,a < 4294967298->qaz .other .quo (.int .u64 a) (.int .u64 2)=some (.int .u64 (a / 2:Nat)):=fun a h=>qpV (b:=2) (by omega) (by omega)
   rw[qal hlt,qpW (by omega) (by omega),oBs,u1 _ (by omega),oBs,u2 _ (by omega),oBs,qg8 (by omega),oBs]
   generalize hmid:lo+(hi' - lo+1) / 2=mid
   have hm1:lo < mid:=by omega
   have hm2:mid<=hi':=by omega
   have hpl:=qje (b:=b) (s:=i) (d:=mid) (by omega)
   rw[qof (qc8 b) (qcR _ _) (qcR _ _),qHB (qbR lb) (by omega) (by omega),qaf,oBs,qbU,qcH (qc8 _) (qc8 a),V77 (qbR (by omega)) (qbR la),qaf,oBs,qf2,oBs,qap,qbU,qbU]
   have hcmp:qhu (4294967296 ^ i * (b * mid)) a<=0↔mid<=q:=by
    rw[hq,quK hbp]
    have e:mid * (b * 4294967296 ^ i)=4294967296 ^ i * (b * mid):=by rw[qaI,qaI b,qaO]
    rw[e]
    unfold qhu
    constructor
    ·intro h
     apply qfz
     intro hc
     rw[qah (by omega),qal hc] at h
     omega
    ·intro h
     split
     ·omega
     ·rw[qah (by omega)];omega
   by_cases hc:mid<=q
   ·rw[qal (hcmp.2 hc)]
    exact ih mid hi' (by omega) hc h2 h3
   ·rw[qah (fun h=>hc (hcmp.1 h)),qrX (by omega) (by omega),oBs]
    exact ih lo (mid - 1) (by omega) h1 (by omega) (by omega)
  ·have:lo=q:=by omega
   subst this
   rw[qah hlt]
structure DInv (a0 b la j:Nat) (a:Nat) (q:List Nat):Prop where
 dq:Dg q
 lq:q.length=la
 lt:a < b * 4294967296 ^ j
 eq:wn q j (la - j) * (b * 4294967296 ^ j)+a=a0
theorem DInv.step {a0 b la j a:Nat} {q:List Nat} (hb:0 < b) (hj:j < la) (h:DInv a0 b la (j+1) a q) :
  a / (b * 4294967296 ^ j) < 4294967296/\DInv a0 b la j (a % (b * 4294967296 ^ j)) (q.set j (a / (b * 4294967296 ^ j))):=by
 have hp:0 < b * 4294967296 ^ j:=Nat.mul_pos hb (Nat.pow_pos (by omega))
 have e0:b * 4294967296 ^ (j+1)=4294967296 * (b * 4294967296 ^ j):=by rw[qbB,<- qaO,qaI]
 have hlt:=h.lt
 have heq:=h.eq
 rw[e0] at hlt heq
 have hq:a / (b * 4294967296 ^ j) < 4294967296:=by rw[qdp hp];exact hlt
 refine ⟨hq,h.dq.set _ _ hq,by rw[qai,h.lq],qcO _ hp,?_⟩
 obtain ⟨r,hr⟩:∃ r,la - j=r+1:=⟨la - j - 1,by omega⟩
 rw[hr,qiB,qdk (by rw[h.lq];exact hj),qdZ (by omega),<- heq,show la - (j+1)=r by omega]
 have h2:=qe6 a (b * 4294967296 ^ j)
 generalize b * 4294967296 ^ j=p at *
 rw[qbd,qaI (a / p),qaI 4294967296,qaO]
 omega
theorem qCH {a0 b la:Nat} (K:KT) (hb:0 < b) (lla:la < 2 ^ 39) (l0:(qba a0).length < 2 ^ 39) (lb:(qba b).length < 2 ^ 39):∀ (j a:Nat) (q:List Nat),j<=la->a<=a0->DInv a0 b la j a q ->
  ∃ a' q',DInv a0 b la 0 a' q'/\qlP (qdy a).av (qdy b).av (.arr 0 0 la none) (.int .i64 ((j:Int) - 1)) [oc q] K=K (.exit 0) (qoW (qdy a').av (.arr 0 0 la none) [oc q']):=by
 intro j
 induction j with
 | zero=>
  intro a q _ _ hI
  refine ⟨a,q,hI,?_⟩
  rw[qk5]
  simp[qdD,ifA]
 | succ j ih=>
  intro a q hj ha hI
  obtain ⟨hq,hI'⟩:=hI.step hb (by omega)
  have la':(qba a).length < 2 ^ 39:=qa2 (qcF ha) l0
  have hlq:=hI.lq
  obtain ⟨a',q',i1,i2⟩:=ih _ _ (by omega) (qa0 (Nat.mod_le _ _) ha) hI'
  refine ⟨a',q',i1,?_⟩
  have hbne:b≠0:=by omega
  have hl0:(qba b).length≠0:=fun e=>hbne (qc5.1 e)
  obtain ⟨lo,hi',g1,g2,g3,g4⟩:=qIF (i:=j) (n:=(qba b).length) (qbR (n:=a) (by omega)) (qbR (n:=b) (by omega)) (by omega) (by rw[qdg]) (by omega) (by rw[qdg];exact qih hbne) (by rw[qbU,qbU];exact hq)
  rw[qbU,qbU] at g2 g3
  rw[qk5,show ((j+1:Nat):Int) - 1=(j:Nat) by omega,qoa,oBs,qfx,qof (qc8 a) (qc8 b) (qcR _ _),g1,qaf,oBs]
  simp only[qaF]
  rw[show ([AV.int .u64 lo,AV.int .u64 hi']:List AV)[0]?=some (.int .u64 lo) from rfl,show ([AV.int .u64 lo,AV.int .u64 hi']:List AV)[1]?=some (.int .u64 hi') from rfl,oBs,oBs,
   qCI (qoJ K) _ _ (by omega) (by omega) (by omega) (by omega) rfl hb (hi' - lo) lo hi' (qak _) g2 g3 g4]
  have hpl:=qje (b:=b) (s:=j) (d:=a / (b * 4294967296 ^ j)) hq
  have he:4294967296 ^ j * (b * (a / (b * 4294967296 ^ j)))=b * 4294967296 ^ j * (a / (b * 4294967296 ^ j)):=by rw[<- qaO,qaI b]
  have hsub:a - 4294967296 ^ j * (b * (a / (b * 4294967296 ^ j)))=a % (b * 4294967296 ^ j):=by
   rw[he]
   have:=qe6 a (b * 4294967296 ^ j)
   omega
  have hle:¬ a < 4294967296 ^ j * (b * (a / (b * 4294967296 ^ j))):=by
   rw[he]
   have:=qe6 a (b * 4294967296 ^ j)
   omega
  rw[qr9,qlo,oBs,qbo hq,qbf (by omega),oBs,qdN (m:=[oc q]) (n:=0) (ds:=q) rfl (by omega),oBs,qof (qc8 b) (qcR _ _) (qcR _ _),qHB (qbR (n:=b) (by omega)) hq (by omega),qaf,oBs,qbU,
   qcH (qc8 a) (qc8 (4294967296 ^ j * (b * (a / (b * 4294967296 ^ j))))),V78 (qbR (n:=a) (by omega)) (qbR (n:=4294967296 ^ j * (b * (a / (b * 4294967296 ^ j)))) (by omega)) (qc2 a) (qc2 (4294967296 ^ j * (b * (a / (b * 4294967296 ^ j))))),qaf,oBs]
  unfold qD7
  rw[qbU,qbU,qah hle,hsub]
  simp only[qaF]
  rw[show ([(qdy (a % (b * 4294967296 ^ j))).av,AV.int .i64 0]:List AV)[0]?=some (qdy (a % (b * 4294967296 ^ j))).av from rfl,show ([(qdy (a % (b * 4294967296 ^ j))).av,AV.int .i64 0]:List AV)[1]?=some (.int .i64 0) from rfl,oBs,oBs,qfh (by omega),oBs]
  exact i2
def qC2 (x y:NV):AV:=if y.v=0 then .tup [qD3,qD3,.int .i64 31] else .tup [(qdy (x.v / y.v)).av,(qdy (x.v % y.v)).av,.int .i64 0]
theorem qwq:(qdy 0).av=.lst none true .full []:=by rw[qdy,qcP];rfl
theorem qHu {x y:NV} (hx:NOk x) (hy:NOk y) (lx:(qba x.v).length < 2 ^ 39) (ly:(qba y.v).length < 2 ^ 39):AP cfg 137 [x.av,y.av]=some (qC2 x y):=by
 have e1:=qsZ hx.fr
 have e2:=qsZ hy.fr
 rw[show x.fr.v=x.v from rfl] at e1
 rw[show y.fr.v=y.v from rfl] at e2
 have hX:=qbR (n:=x.v) (by omega)
 have hY:=qbR (n:=y.v) (by omega)
 unfold qC2
 by_cases h0:y.v=0
 ·rw[qal h0]
  refine qbI _ _ (qhj qiU qiU (qdv _ _)) rfl (m:=[]) ?_
  rw[qFu,qbt (qcy x),e1,qaf,oBs,qbt (qcy y),e2,qaf,oBs,qdM,oBs,qfb,oBs,qap,qal (qc5.2 h0)]
 ·rw[qah h0]
  have hn0:¬ (qba y.v).length=0:=fun e=>h0 (qc5.1 e)
  by_cases h2:y.v < 4294967296
  ·have hn1:(qba y.v).length=1:=qii.2 ⟨h0,h2⟩
   have hdig:(qba y.v).getD 0 0=y.v:=by
    rw[qgF h0,qcz,qbo h2]
   have hlt:x.v % y.v < y.v:=qcO _ (by omega)
   refine qbI _ _ (qhj (qgJ (x.v / y.v)) (qgJ (x.v % y.v)) (qdv _ _)) rfl (m:=[]) ?_
   have e4:=qHA (d:=y.v) hX (by omega) h2
   rw[qbU] at e4
   rw[qFu,qbt (qcy x),e1,qaf,oBs,qbt (qcy y),e2,qaf,oBs,qdM,oBs,qfb,oBs,qap,qah hn0,oBs,qji,oBs,qap,qal hn1,
    qil (by rw[qdg,hn1];omega),oBs,qd4,oBs,qdg,hdig,qln _ h2,oBs,qcH (qc8 _) (qcR _ _),e4,qaf,oBs]
   simp only[qaF]
   rw[show ([(qdy (x.v / y.v)).av,AV.int .u64 (x.v % y.v:Nat)]:List AV)[0]?=some (qdy (x.v / y.v)).av from rfl,show ([(qdy (x.v / y.v)).av,AV.int .u64 (x.v % y.v:Nat)]:List AV)[1]?=some (AV.int .u64 (x.v % y.v:Nat)) from rfl,oBs,oBs,
    qbt (qcR _ _),V72 (by omega),qaf,oBs]
  ·have hn1:¬ (qba y.v).length=1:=fun e=>h2 (qii.1 e).2
   by_cases h3:(qba x.v).length < (qba y.v).length
   ·have hlt:x.v < y.v:=by
     apply Nat.lt_of_not_le
     intro h
     have:=qcF h
     omega
    rw[qkM hlt,qbo hlt]
    refine qbI _ _ (qhj (qgJ 0) (qgJ x.v) (qdv _ _)) rfl (m:=[]) ?_
    rw[qFu,qbt (qcy x),e1,qaf,oBs,qbt (qcy y),e2,qaf,oBs,qdM,oBs,qfb,oBs,qap,qah hn0,oBs,qji,oBs,qap,qah hn1,
     qdM,oBs,oBs,qdc,oBs,qap,qal h3,qwq]
   ·have hb:0 < y.v:=qbG h0
    have hI:DInv x.v y.v (qba x.v).length ((qba x.v).length - (qba y.v).length+1) x.v (List.replicate (qba x.v).length 0):=by
     refine ⟨qj5 _,qdn,?_,?_⟩
     ·have h4:=qeF (qbC x.v)
      rw[qbv] at h4
      have h5:=qeL (n:=y.v) (k:=(qba y.v).length - 1) (by omega)
      refine qcU h4 ?_
      refine qa0 ?_ (qaS _ h5)
      rw[<- qfY]
      exact qbA (by omega) (by omega)
     ·rw[qpY _ (fun k _=>qjA _ _),qHj,qar]
    obtain ⟨a',q',i1,i2⟩:=qCH (qoI (qbw cfg.P f137.results.toList)) hb lx lx ly _ _ _ (by omega) (qak _) hI
    have heq:=i1.eq
    have hlt:=i1.lt
    have hlq:=i1.lq
    rw[Nat.pow_zero,qc1] at heq hlt
    rw[Nat.sub_zero,qwU,qdB (by omega)] at heq
    obtain ⟨k1,k2⟩:=qjf heq.symm hlt
    refine qbI _ _ (qhj (qgJ (x.v / y.v)) (qgJ (x.v % y.v)) (qdv _ _)) rfl (m:=[none]) ?_
    have hp:=qf6 (cp:=AP cfg) (g:=133) (m:=[oc q']) (nm:=0) (ds:=q') rfl
    rw[hlq] at hp
    rw[qFu,qbt (qcy x),e1,qaf,oBs,qbt (qcy y),e2,qaf,oBs,qdM,oBs,qfb,oBs,qap,qah hn0,oBs,qji,oBs,qap,qah hn1,
     qdM,oBs,oBs,qdc,oBs,qap,qah h3,oBs,qhn (by omega) (by omega),oBs,oBs,oBs,qgM (by omega) (by omega),oBs]
    rw[show (((qba x.v).length - (qba y.v).length+1:Nat):Int) - 1=(((qba x.v).length - (qba y.v).length:Nat):Int) by omega] at i2
    refine Eq.trans ?_ (i2.trans ?_)
    ·rfl
    rw[qr8,hp,qCx _ i1.dq (by simp only[hlq];omega),qaf,oBs]
    simp only[NV.v] at k1 k2 ⊢
    rw[k1,k2]
    rfl
end Go.Ab

/- The reference's greatest common divisor and binary digits, in values. -/
set_option maxRecDepth 100000
namespace Go.Ab
open Go.Proofs.Tryz
theorem qzV {tk:TK} {a:Nat} (h:a < 4294967296):qaz tk .quo (.int .u32 a) (.int .u32 2)=some (.int .u32 (a / 2:Nat)):=by
 have e:qaz tk .quo (.int .u32 a) (.int .u32 2)=some (.int .u32 (IntKind.wrap .u32 ((a:Int).tdiv 2))):=by cases tk<;>rfl
 have e2:(a:Int).tdiv 2=((a / 2:Nat):Int):=rfl
 rw[e,e2,qgZ (by omega) (by omega)]
theorem qIM (K:KT) (m:Mem):∀ (r x n:Nat),x < 2 ^ r->r<=32->n+r < 2 ^ 60->∃ k,k<=n+r/\(0 < n\/0 < x->0 < k)/\(n=0->x=0->k=0)/\qqm (.int .i64 n) (.int .u32 x) m K=K (.exit 0) (quR (.int .i64 k) m):=by
 intro r
 induction r with
 | zero=>
  intro x n hx hr hn
  have:x=0:=by simpa using hx
  subst this
  refine ⟨n,by omega,by omega,fun h _=>h,?_⟩
  rw[qnl,qio,oBs,qap,qah (by omega)]
 | succ r ih=>
  intro x n hx hr hn
  rw[qnl,qio,oBs,qap]
  by_cases h:x > 0
  ·have hp:2 ^ (r+1)<=2 ^ 32:=qbA (by omega) hr
   rw[qal h,qbM (by omega),oBs,qzV (by omega),oBs]
   rw[qbB] at hx
   obtain ⟨k,k1,k2,k3,k4⟩:=ih (x / 2) (n+1) (by omega) (by omega) (by omega)
   exact ⟨k,by omega,fun _=>k2 (.inl (by omega)),by omega,k4⟩
  ·rw[qah h]
   exact ⟨n,by omega,by omega,fun h _=>h,rfl⟩
theorem qID {x:NV} (hx:NOk x):∃ k:Nat,AP cfg 136 [x.av]=some (.int .i64 k)/\(k=0↔x.v=0):=by
 have lx:=hx.v_len'
 have e1:=qsZ hx.fr
 rw[show x.fr.v=x.v from rfl] at e1
 by_cases h0:x.v=0
 ·refine ⟨0,qeG (m:=[]) (v:=.int .i64 (0:Nat)) ?_ (qcR _ _ _) (by simp[noV]),by simp[h0]⟩
  rw[qHo,qbt (qcy x),e1,qaf,oBs,qdM,oBs,qfb,oBs,qap,qal (qc5.2 h0)]
  rfl
 ·have hn0:¬ (qba x.v).length=0:=fun e=>h0 (qc5.1 e)
  have hlast:=qih h0
  have hd:=qbC x.v ((qba x.v).length - 1)
  obtain ⟨k,k1,k2,k3,k4⟩:=qIM (qtx (qbw cfg.P f136.results.toList)) [] 32 ((qba x.v).getD ((qba x.v).length - 1) 0) (32 * ((qba x.v).length - 1)) (by omega) (by omega) (by omega)
  have m32:∀ a:Nat,a < 2 ^ 41->qaz .other .mul (.int .i64 32) (.int .i64 a)=some (.int .i64 (32 * a:Nat)):=by
   intro a ha
   rw[qf3,qbQ (by omega) (by omega)];rfl
  have hkp:=k2 (.inr (qbG hlast))
  refine ⟨k,qeG (m:=[]) (v:=.int .i64 (k:Nat)) ?_ (qcR _ _ _) (by simp[noV]),by omega⟩
  rw[qHo,qbt (qcy x),e1,qaf,oBs,qdM,oBs,qfb,oBs,qap,qah hn0,oBs,qfN (by omega) (by omega),oBs,m32 _ (by omega),oBs,oBs,qfN (by omega) (by omega),oBs,qdi (by rw[qdg];omega),oBs,qd4,oBs,qdg]
  refine k4.trans ?_
  rw[qty]
theorem qj7 {a:Nat} (h:a % 2=0):2 * (a / 2)=a:=by omega
theorem qrc {a b:Nat} (ha:a % 2=0) (hb:b % 2=1):Nat.gcd (a / 2) b=Nat.gcd a b:=by
 have hc:Nat.Coprime 2 b:=by
  rw[Nat.coprime_iff_gcd_eq_one,Nat.gcd_rec,hb]
  rfl
 have:=Nat.Coprime.gcd_mul_left_cancel (a / 2) hc
 rw[qj7 ha] at this
 exact this.symm
theorem qjB {a:Nat} (h:(qba a).length < 2 ^ 39):(qba (a / 2)).length < 2 ^ 39:=qa2 (qcF (qib _ _)) h
theorem qEs (K:KT) (m:Mem):∀ (n x y:Nat),y=n->x < 18446744073709551616->y < 18446744073709551616->qqe (.int .u64 x) (.int .u64 y) m K=K (.exit 0) (quL (.int .u64 (Nat.gcd x y:Nat)) m):=by
 intro n
 induction n using Nat.strongRecOn with
 | ind n ih=>
  intro x y hn hx hy
  rw[quB,qE7,oBs,qap]
  by_cases h:y=0
  ·rw[qah (fun hh=>hh h),h,Nat.gcd_zero_right]
  ·have hlt:x % y < y:=qcO _ (qbG h)
   rw[qal h,qsU h hx,oBs,ih (x % y) (by omega) y (x % y) rfl hy (by omega),qic y,<- Nat.gcd_rec,qic]
theorem qCD (K:KT) (m:Mem):∀ (n a b t:Nat),a=n->0 < a->0 < b->0 < t->(qba (a * t)).length < 2 ^ 39->(qba a).length < 2 ^ 39->(qba b).length < 2 ^ 39->(qba t).length < 2 ^ 39 ->
  ∃ a' b' t',0 < a'/\0 < b'/\0 < t'/\a'<=a/\b'<=b/\(a' % 2=1\/b' % 2=1)/\Nat.gcd a' b' * t'=Nat.gcd a b * t/\(qba t').length < 2 ^ 39/\qiI (qdy a).av (qdy b).av (qdy t).av m K=K (.exit 2) (qlW (qdy a').av (qdy b').av (qdy t').av m):=by
 intro n
 induction n using Nat.strongRecOn with
 | ind n ih=>
  intro a b t hn ha hb ht hat la lb lt
  rw[qsj,qbt (qc8 a),qFx (qbR (by omega)),qbU,qaf,oBs,qap]
  by_cases h1:a % 2=0
  ·rw[qal h1,qbt (qc8 b),qFx (qbR (by omega)),qbU,qaf,oBs,qap]
   by_cases h2:b % 2=0
   ·have ea:=qj7 h1
    have eb:=qj7 h2
    have e:a / 2 * (t+t)=a * t:=by
     rw[<- Nat.mul_two,<- qaO,Nat.mul_right_comm,qaI (a / 2) 2,ea]
    have ltt:(qba (t+t)).length < 2 ^ 39:=by
     refine qa2 (qcF (b:=a * t) ?_) hat
     rw[<- e]
     exact Nat.le_mul_of_pos_left _ (by omega)
    obtain ⟨a',b',t',k1,k2,k3,k4,k5,k6,k7,k8,k9⟩:=ih (a / 2) (by omega) (a / 2) (b / 2) (t+t) rfl (by omega) (by omega) (by omega) (by rw[e];exact hat) (qjB la) (qjB lb) ltt
    refine ⟨a',b',t',k1,k2,k3,by omega,by omega,k6,?_,k8,?_⟩
    ·rw[k7]
     have:Nat.gcd a b=2 * Nat.gcd (a / 2) (b / 2):=by
      conv=>lhs;rw[<- ea,<- eb]
      exact Nat.gcd_mul_left _ _ _
     rw[this,<- Nat.mul_two,<- qaO,Nat.mul_right_comm,qaI _ 2]
    ·rw[qal h2,qbt (qc8 a),qFy (qbR (by omega)),qbU,qaf,oBs,qbt (qc8 b),qFy (qbR (by omega)),qbU,qaf,oBs,qcH (qc8 t) (qc8 t),V76 (qbR (by omega)) (qbR (by omega)) (qc2 _) (qc2 _),qbU,qaf,oBs]
     exact k9
   ·rw[qah h2]
    exact ⟨a,b,t,ha,hb,ht,qak _,qak _,.inr (by omega),rfl,lt,rfl⟩
  ·rw[qah h1]
   exact ⟨a,b,t,ha,hb,ht,qak _,qak _,.inl (by omega),rfl,lt,rfl⟩
theorem qCF (K:KT) (m:Mem) (xb xt:AV) (b:Nat):∀ (n a:Nat),a=n->0 < a->(a % 2=1\/b % 2=1)->(qba a).length < 2 ^ 39 ->
  ∃ a',0 < a'/\a'<=a/\a' % 2=1/\Nat.gcd a' b=Nat.gcd a b/\qlN (qdy a).av xb xt m K=K (.exit 6) (qoU (qdy a').av xb xt m):=by
 intro n
 induction n using Nat.strongRecOn with
 | ind n ih=>
  intro a hn ha hab la
  rw[qsl,qbt (qc8 a),qFx (qbR (by omega)),qbU,qaf,oBs,qap]
  by_cases h1:a % 2=0
  ·have hb1:b % 2=1:=by omega
   obtain ⟨a',k1,k2,k3,k4,k5⟩:=ih (a / 2) (by omega) (a / 2) rfl (by omega) (.inr hb1) (qjB la)
   rw[qal h1,qbt (qc8 a),qFy (qbR (by omega)),qbU,qaf,oBs]
   exact ⟨a',k1,by omega,k3,by rw[k4,qrc h1 hb1],k5⟩
  ·rw[qah h1]
   exact ⟨a,ha,qak _,by omega,rfl,rfl⟩
theorem qCG (K:KT) (m:Mem) (xa xt:AV) (a:Nat) (ha:a % 2=1):∀ (n b:Nat),b=n->0 < b->(qba b).length < 2 ^ 39 ->
  ∃ b',0 < b'/\b'<=b/\b' % 2=1/\Nat.gcd a b'=Nat.gcd a b/\qlO xa (qdy b).av xt m K=K (.exit 8) (qoV xa (qdy b').av xt m):=by
 intro n
 induction n using Nat.strongRecOn with
 | ind n ih=>
  intro b hn hb lb
  rw[qsm,qbt (qc8 b),qFx (qbR (by omega)),qbU,qaf,oBs,qap]
  by_cases h1:b % 2=0
  ·obtain ⟨b',k1,k2,k3,k4,k5⟩:=ih (b / 2) (by omega) (b / 2) rfl (by omega) (qjB lb)
   rw[qal h1,qbt (qc8 b),qFy (qbR (by omega)),qbU,qaf,oBs]
   exact ⟨b',k1,by omega,k3,by rw[k4,qic a,qrc h1 ha,qic],k5⟩
  ·rw[qah h1]
   exact ⟨b,hb,qak _,by omega,rfl,rfl⟩
theorem qCE (K:KT) (m:Mem) (xt:AV):∀ (n a b:Nat),a+b=n->0 < a->(a % 2=1\/b % 2=1)->(qba a).length < 2 ^ 39->(qba b).length < 2 ^ 39 ->
  qjN (qdy a).av (qdy b).av xt m K=K (.exit 4) (qoT (qdy (Nat.gcd a b)).av xt m):=by
 intro n
 induction n using Nat.strongRecOn with
 | ind n ih=>
  intro a b hn ha hab la lb
  rw[qsk,qdM,oBs,qio,oBs,qap]
  by_cases hb:b=0
  ·rw[qah (by rw[hb,qcP];simp),hb,Nat.gcd_zero_right]
  ·have hl0:(qba b).length≠0:=fun e=>hb (qc5.1 e)
   obtain ⟨a',k1,k2,k3,k4,k5⟩:=qCF (qoG K) m (qdy b).av xt b a a rfl ha hab la
   obtain ⟨b',j1,j2,j3,j4,j5⟩:=qCG (qoH K) m (qdy a').av xt a' k3 b b rfl (by omega) lb
   have la':(qba a').length < 2 ^ 39:=qa2 (qcF k2) la
   have lb':(qba b').length < 2 ^ 39:=qa2 (qcF j2) lb
   rw[qal (by omega),k5,qr5,j5,qr6,qcH (qc8 a') (qc8 b'),V77 (qbR (by omega)) (qbR (by omega)),qbU,qbU,qaf,oBs,qcB,oBs,qap]
   have hg:Nat.gcd a' b'=Nat.gcd a b:=by rw[j4,k4]
   by_cases hgt:a' > b'
   ·have hc:qhu a' b' > 0:=by unfold qhu;rw[qah (by omega),qal hgt];omega
    rw[qal hc,qcH (qc8 a') (qc8 b'),V78 (qbR (by omega)) (qbR (by omega)) (qc2 _) (qc2 _),qD7,qbU,qbU,qah (by omega),qaf,oBs]
    simp only[qaF]
    rw[show ([(qdy (a' - b')).av,AV.int .i64 0]:List AV)[0]?=some (qdy (a' - b')).av from rfl,show ([(qdy (a' - b')).av,AV.int .i64 0]:List AV)[1]?=some (.int .i64 0) from rfl,oBs,oBs]
    have lab:(qba (a' - b')).length < 2 ^ 39:=qa2 (qcF (Nat.sub_le _ _)) la'
    rw[ih (b'+(a' - b')) (by omega) b' (a' - b') rfl j1 (.inl j3) lb' lab]
    have:Nat.gcd b' (a' - b')=Nat.gcd a b:=by
     rw[<- hg,Nat.gcd_sub_self_right (by omega),qic]
    rw[this]
   ·have hc:¬ qhu a' b' > 0:=by unfold qhu;split<;>first | omega | (rw[qah hgt];omega)
    rw[qah hc,qcH (qc8 b') (qc8 a'),V78 (qbR (by omega)) (qbR (by omega)) (qc2 _) (qc2 _),qD7,qbU,qbU,qah (by omega),qaf,oBs]
    simp only[qaF]
    rw[show ([(qdy (b' - a')).av,AV.int .i64 0]:List AV)[0]?=some (qdy (b' - a')).av from rfl,show ([(qdy (b' - a')).av,AV.int .i64 0]:List AV)[1]?=some (.int .i64 0) from rfl,oBs,oBs]
    have lab:(qba (b' - a')).length < 2 ^ 39:=qa2 (qcF (Nat.sub_le _ _)) lb'
    rw[ih (a'+(b' - a')) (by omega) a' (b' - a') rfl k1 (.inl k3) la' lab]
    have:Nat.gcd a' (b' - a')=Nat.gcd a b:=by
     rw[<- hg,Nat.gcd_sub_self_right (by omega)]
    rw[this]
theorem qIz {x y:NV} (hx:NOk x) (hy:NOk y) (lx:(qba x.v).length < 2 ^ 38) (ly:(qba y.v).length < 2 ^ 38):AP cfg 119 [x.av,y.av]=some (qdy (Nat.gcd x.v y.v)).av:=by
 have e1:=qsZ hx.fr
 have e2:=qsZ hy.fr
 rw[show x.fr.v=x.v from rfl] at e1
 rw[show y.fr.v=y.v from rfl] at e2
 have s1:=qHw (qbR (n:=x.v) (by omega))
 have s2:=qHw (qbR (n:=y.v) (by omega))
 rw[qbU] at s1 s2
 have hx1:∀ n,qaF (qjk n) 1=some (.bool (decide (n < 18446744073709551616))):=by
  intro n;unfold qjk;split<;>(rename_i h;simp[qaF,h])
 have hx0:∀ n,∃ k:Nat,qaF (qjk n) 0=some (.int .u64 k)/\(n < 18446744073709551616->k=n):=by
  intro n;unfold qjk
  split
  ·exact ⟨n,rfl,fun _=>rfl⟩
  ·rename_i h;exact ⟨0,rfl,fun h'=>absurd h' h⟩
 obtain ⟨kx,hkx,hkx'⟩:=hx0 x.v
 obtain ⟨ky,hky,hky'⟩:=hx0 y.v
 have big:∀ {R:OM},R=((qbY false (qdy x.v).av).bind fun v9=>(qaz .other .eql v9 (.int .i64 0)).bind fun v10=>ifA v10 (some ((qdy y.v).av,[])) (
   (qbY false (qdy y.v).av).bind fun v11=>(qaz .other .eql v11 (.int .i64 0)).bind fun v12=>ifA v12 (some ((qdy x.v).av,[])) (
   (qaN (AP cfg) none [] 72 [(.int .u64 1)]).bind fun r13=>qiI (qdy x.v).av (qdy y.v).av r13.1 r13.2 (qjK (qbw cfg.P f119.results.toList)))))->R=some ((qdy (Nat.gcd x.v y.v)).av,[]):=by
  intro R hR
  rw[hR,qdM,oBs,qfb,oBs,qap]
  by_cases h0:x.v=0
  ·rw[qal (qc5.2 h0),h0,Nat.gcd_zero_left]
  ·rw[qah (fun e=>h0 (qc5.1 e)),qdM,oBs,qfb,oBs,qap]
   by_cases h1:y.v=0
   ·rw[qal (qc5.2 h1),h1,Nat.gcd_zero_right]
   ·have h70:=V72 (n:=1) (by omega)
    have l1:(qba 1).length < 2 ^ 39:=qa2 (qbp (k:=1) (by omega)) (by omega)
    obtain ⟨a',b',t',k1,k2,k3,k4,k5,k6,k7,k8,k9⟩:=qCD (qjK (qbw cfg.P f119.results.toList)) [] x.v x.v y.v 1 rfl (by omega) (by omega) (by omega) (by rw[qc1];omega) (by omega) (by omega) l1
    have la':(qba a').length < 2 ^ 39:=qa2 (qcF k4) (by omega)
    have lb':(qba b').length < 2 ^ 39:=qa2 (qcF k5) (by omega)
    have lg:(qba (Nat.gcd a' b')).length < 2 ^ 39:=qa2 (qcF (Nat.gcd_le_left _ k1)) la'
    rw[qah (fun e=>h1 (qc5.1 e)),qbt (qcR _ _),show AV.int .u64 1=.int .u64 ((1:Nat):Int) from rfl,h70,qaf,oBs,k9,qr3,qCE _ _ _ (a'+b') a' b' rfl k1 k6 la' lb',qr4,qcH (qc8 _) (qc8 _),V75 (qbR (by omega)) (qbR (by omega)),qbU,qbU,k7,qc1]
    rfl
 refine qbI _ _ (qc8 _) (qfQ _) (m:=[]) ?_
 rw[qH3,qbt (qcy x),e1,qaf,oBs,qbt (qcy y),e2,qaf,oBs,qbt (qc8 _),s1,qaf,oBs,hkx,oBs,hx1,oBs,qbt (qc8 _),s2,qaf,oBs,hky,oBs,hx1,oBs,qap]
 by_cases c1:x.v < 18446744073709551616
 ·rw[qal c1,qap]
  by_cases c2:y.v < 18446744073709551616
  ·have hgl:Nat.gcd x.v y.v < 18446744073709551616:=by
    by_cases h0:x.v=0
    ·rw[h0,Nat.gcd_zero_left];exact c2
    ·exact qa2 (Nat.gcd_le_left _ (qbG h0)) c1
   rw[qal c2,hkx' c1,hky' c2,qEs _ _ y.v x.v y.v rfl c1 c2,qtg,qbt (qcR _ _),V72 hgl]
   rfl
  ·rw[qah c2]
   exact big rfl
 ·rw[qah c1]
  exact big rfl
end Go.Ab

/- Fractions as they stand in memory, and what they are worth. -/
namespace Go.Ab
def sgn (neg:Bool) (n:Nat):Int:=if neg then -(n:Int) else n
def qOf (neg:Bool) (n d:Nat):Rat:=mkRat (sgn neg n) d
theorem qkz (neg:Bool) (n:Nat):(sgn neg n).natAbs=n:=by cases neg<;>simp[sgn]
theorem qit (neg:Bool) (n:Nat):qOf neg n 0=0:=by simp[qOf,Rat.mkRat_zero]
theorem qiu (neg:Bool) (d:Nat):qOf neg 0 d=0:=by
 have:sgn neg 0=0:=by cases neg<;>rfl
 rw[qOf,this,Rat.zero_mkRat]
theorem qpF {neg:Bool} {n d:Nat} (hd:d≠0):(qOf neg n d).num.natAbs=n / Nat.gcd n d:=by
 rw[qOf,Rat.num_mkRat,qah hd,qkz,qic]
 cases neg with
 | false=>rfl
 | true=>
  have hdv:((Nat.gcd n d:Nat):Int)∣(n:Int):=Int.natCast_dvd_natCast.2 (Nat.gcd_dvd_left _ _)
  show (-(n:Int) / ((Nat.gcd n d:Nat):Int)).natAbs=_
  rw[Int.neg_ediv_of_dvd hdv,Int.natAbs_neg]
  rfl
theorem qpG {neg:Bool} {n d:Nat} (hd:d≠0):(qOf neg n d).den=d / Nat.gcd n d:=by
 rw[qOf,Rat.den_mkRat,qah hd,qkz,qic]
theorem qwo {neg:Bool} {n d:Nat} (hd:d≠0):decide ((qOf neg n d).num < 0)=(neg && decide (n / Nat.gcd n d > 0)):=by
 have hdv:((Nat.gcd n d:Nat):Int)∣(n:Int):=Int.natCast_dvd_natCast.2 (Nat.gcd_dvd_left _ _)
 have e:(qOf neg n d).num=sgn neg (n / Nat.gcd n d):=by
  rw[qOf,Rat.num_mkRat,qah hd,qkz,qic]
  cases neg with
  | false=>rfl
  | true=>
   show -(n:Int) / ((Nat.gcd n d:Nat):Int)=_
   rw[Int.neg_ediv_of_dvd hdv]
   rfl
 rw[e]
 cases neg with
 | false=>
  rw[Bool.false_and]
  exact qa7 (Int.not_lt.2 (qfF _))
 | true=>
  simp only[sgn,qa5,qdx]
  exact qbP.2 (by omega)
theorem qwn {neg:Bool} {n d:Nat} (hd:d≠0):qOf neg n d=0↔n=0:=by
 rw[qOf,Rat.mkRat_eq_zero hd]
 cases neg<;>simp[sgn]
theorem qmB (s t:Bool) (n d k e:Nat):qOf s n d * qOf t k e=qOf (s != t) (n * k) (d * e):=by
 rw[qOf,qOf,qOf,Rat.mkRat_mul_mkRat]
 congr 1
 cases s<;>cases t<;>simp[sgn,qer,Int.neg_mul,Int.mul_neg]
theorem qmA {s t:Bool} {n d k e:Nat} (hd:d≠0) (he:e≠0):qOf s n d+qOf t k e=mkRat (sgn s (n * e)+sgn t (k * d)) (d * e):=by
 rw[qOf,qOf,Rat.mkRat_add_mkRat _ _ hd he]
 congr 1
 cases s<;>cases t<;>simp[sgn,qer,Int.neg_mul]
theorem qrL {s:Bool} {x y:Nat}:sgn s x+sgn s y=sgn s (x+y):=by cases s<;>simp[sgn]<;>omega
theorem qAW {s t:Bool} {x y:Nat} (h:s≠t) (hxy:¬ x < y):sgn s x+sgn t y=sgn s (x - y):=by
 cases s<;>cases t<;>simp[sgn] at h ⊢<;>omega
theorem qAX {s t:Bool} {x y:Nat} (h:s≠t) (hxy:x < y):sgn s x+sgn t y=sgn t (y - x):=by
 cases s<;>cases t<;>simp[sgn] at h ⊢<;>omega
structure RV where
 neg:Bool
 num:NV
 den:NV
def RV.av (r:RV):AV:=.agg [.bool r.neg,r.num.av,r.den.av]
def RV.fr (r:RV):RV:=⟨r.neg,r.num.fr,r.den.fr⟩
def RV.q (r:RV):Rat:=qOf r.neg r.num.v r.den.v
structure ROk (k:Nat) (r:RV):Prop where
 num:NOk r.num
 den:NOk r.den
 ln:r.num.ds.length<=k
 ld:r.den.ds.length<=k
theorem ROk.fr {k:Nat} {r:RV} (h:ROk k r):ROk k r.fr:=⟨h.num.fr,h.den.fr,h.ln,h.ld⟩
theorem ROk.mono {k k':Nat} {r:RV} (h:ROk k r) (hk:k<=k'):ROk k' r:=⟨h.num,h.den,qa0 h.ln hk,qa0 h.ld hk⟩
theorem RV.fr_q (r:RV):r.fr.q=r.q:=rfl
theorem qdQ (r:RV):Fz r.av r.fr.av:=by
 intro m
 have e:frz m qga r.av=(qgc (frz m 8) [.bool r.neg,r.num.av,r.den.av]).map fun r=>(.agg r.1,r.2):=rfl
 rw[e]
 simp[qgc,qme r.neg m 7,qgl r.num m 7,qgl r.den m 7,RV.fr,RV.av]
theorem qee (r:RV):noV r.av=true:=by simp[RV.av,noV,qkU,NV.av]
structure Can (r:RV) (q:Rat):Prop where
 neg:r.neg=decide (q.num < 0)
 num:r.num.ds=qba q.num.natAbs
 den:r.den.ds=qba q.den
 numz:r.num.z=true->r.num.ds=[]
 denz:r.den.z=true->r.den.ds=[]
theorem Can.q {r:RV} {q:Rat} (h:Can r q):r.q=q:=by
 rw[RV.q,NV.v,NV.v,h.num,h.den,qbv,qbv,h.neg,qOf]
 have e:sgn (decide (q.num < 0)) q.num.natAbs=q.num:=by
  by_cases hq:q.num < 0
  ·simp[sgn,hq];omega
  ·simp[sgn,hq];omega
 rw[e]
 exact Rat.mkRat_self q
def Bd (k:Nat) (q:Rat):Prop:=(qba q.num.natAbs).length<=k/\(qba q.den).length<=k
theorem Can.ok {r:RV} {q:Rat} {k:Nat} (h:Can r q) (hb:Bd k q) (hk:k < 2 ^ 40):ROk k r:=by
 refine ⟨⟨by rw[h.num];exact qbC _,by rw[h.num];exact qa2 hb.1 hk,h.numz⟩,⟨by rw[h.den];exact qbC _,by rw[h.den];exact qa2 hb.2 hk,h.denz⟩,by rw[h.num];exact hb.1,by rw[h.den];exact hb.2⟩
theorem Can.den0 {r:RV} {q:Rat} (h:Can r q):r.den.v≠0:=by
 rw[NV.v,h.den,qbv];exact q.den_nz
theorem qgn {a b i j:Nat} (ha:(qba a).length<=i) (hb:(qba b).length<=j):(qba (a * b)).length<=i+j:=by
 refine qbp ?_
 have h1:=qeF (qbC a)
 have h2:=qeF (qbC b)
 rw[qbv] at h1 h2
 have h3:4294967296 ^ (qba a).length<=4294967296 ^ i:=qbA (by omega) ha
 have h4:4294967296 ^ (qba b).length<=4294967296 ^ j:=qbA (by omega) hb
 rw[qfY]
 exact Nat.mul_lt_mul'' (by omega) (by omega)
theorem qvY {a b i:Nat} (ha:(qba a).length<=i) (hb:(qba b).length<=i):(qba (a+b)).length<=i+1:=by
 refine qbp ?_
 have h1:=qeF (qbC a)
 have h2:=qeF (qbC b)
 rw[qbv] at h1 h2
 have h3:4294967296 ^ (qba a).length<=4294967296 ^ i:=qbA (by omega) ha
 have h4:4294967296 ^ (qba b).length<=4294967296 ^ i:=qbA (by omega) hb
 rw[qbB]
 omega
theorem qE1:(qba 1).length<=1:=qbp (by omega)
theorem qmQ {neg:Bool} {n d k:Nat} (hn:(qba n).length<=k) (hd:(qba d).length<=k) (hk:1<=k):Bd k (qOf neg n d):=by
 by_cases h0:d=0
 ·subst h0
  rw[qit]
  refine ⟨?_,?_⟩
  ·show (qba 0).length<=k
   rw[qcP];exact qdq _
  ·show (qba 1).length<=k
   exact qa0 qE1 hk
 ·refine ⟨?_,?_⟩
  ·rw[qpF h0];exact qa0 (qcF (qib _ _)) hn
  ·rw[qpG h0];exact qa0 (qcF (qib _ _)) hd
theorem qrG (q:Rat):qOf (decide (q.num < 0)) q.num.natAbs q.den=q:=by
 have e:sgn (decide (q.num < 0)) q.num.natAbs=q.num:=by
  by_cases hq:q.num < 0
  ·simp[sgn,hq];omega
  ·simp[sgn,hq];omega
 rw[qOf,e]
 exact Rat.mkRat_self q
theorem qE3 (x:Int):∃ s n,x=sgn s n/\n=x.natAbs:=⟨decide (x < 0),x.natAbs,by
 by_cases hq:x < 0
 ·simp[sgn,hq];omega
 ·simp[sgn,hq];omega,rfl⟩
theorem qEa {p q:Rat} {k l:Nat} (hp:Bd k p) (hq:Bd l q) (hk:1<=k):Bd (k+l+1) (p+q):=by
 have h1:=qgn hp.1 hq.2
 have h2:=qgn hq.1 hp.2
 rw[<- qrG p,<- qrG q,qmA p.den_nz q.den_nz]
 obtain ⟨s,n,e1,e2⟩:=qE3 (sgn (decide (p.num < 0)) (p.num.natAbs * q.den)+sgn (decide (q.num < 0)) (q.num.natAbs * p.den))
 have hle:n<=p.num.natAbs * q.den+q.num.natAbs * p.den:=by
  rw[e2]
  refine qa0 (Int.natAbs_add_le _ _) ?_
  rw[qkz,qkz]
  exact qak _
 have h2':(qba (q.num.natAbs * p.den)).length<=k+l:=by omega
 have h3:=qvY h1 h2'
 rw[e1,<- qOf]
 exact qmQ (qa0 (qcF hle) h3) (qa0 (qgn hp.2 hq.2) (by omega)) (by omega)
theorem ROk.bd {k:Nat} {r:RV} (h:ROk k r) (hk:1<=k):Bd k r.q:=qmQ (qa0 h.num.v_len h.ln) (qa0 h.den.v_len h.ld) hk
end Go.Ab

/- Fractions in memory: what the operations do. -/
set_option maxRecDepth 100000
namespace Go.Ab
def cR (r:RV):Option Ent:=some (.obj true [.bool r.neg,r.num.av,r.den.av])
def qhR:NV:=⟨true,.full,[]⟩
def zR:RV:=⟨false,qhR,qhR⟩
theorem qb0 (m:Mem) (r:RV):qf8 none (some 3) m r.av=some (.ptr m.length 0,m++[cR r]):=rfl
theorem qdl (m:Mem):qaH none m (.obj true [.bool false,qhR.av,qhR.av])=(m.length,m++[cR zR]):=rfl
theorem qdd (m:Mem):qaH none m .resv=(m.length,m++[some .resv]):=rfl
theorem qcp (m:Mem) (n:Nat):qaH (some n) m (.obj true [.bool false,qhR.av,qhR.av])=(n,m.set n (cR zR)):=rfl
theorem qco (m:Mem) (n:Nat):qaH (some n) m .resv=(n,m.set n (some .resv)):=rfl
theorem qfl (n:Nat):qaB 0 (.ptr n 0)=some (.ptr n 0):=rfl
theorem qfm (n:Nat):qaB 1 (.ptr n 0)=some (.ptr n 1):=rfl
theorem qfn (n:Nat):qaB 2 (.ptr n 0)=some (.ptr n 2):=rfl
theorem qfq (m:Mem):qbm m 1=m++[some .resv]:=rfl
theorem qfr (m:Mem):qbm m 2=m++[some .resv,some .resv]:=rfl
theorem qb7 {M:Mem} {r:RV}:qat none (cR r::M) (.ptr 0 0)=some (.bool r.neg):=rfl
theorem qb8 {M:Mem} {r:RV}:qat none (cR r::M) (.ptr 0 1)=some (r.num.av):=rfl
theorem qb6 {M:Mem} {r:RV}:qat none (cR r::M) (.ptr 0 2)=some (r.den.av):=rfl
theorem qbT {M:Mem} {r:RV}:qat (some 3) (cR r::M) (.ptr 0 0)=some r.av:=rfl
theorem qbV {M:Mem} {r r':RV}:qaR (some 3) (cR r::M) (.ptr 0 0) r'.av=some (cR r'::M):=rfl
theorem qcq {M:Mem} {r:RV} {b:Bool}:qaR none (cR r::M) (.ptr 0 0) (.bool b)=some (cR ⟨b,r.num,r.den⟩::M):=rfl
theorem qca {c0:Option Ent} {M:Mem} {r:RV}:qat none (c0::cR r::M) (.ptr 1 0)=some (.bool r.neg):=rfl
theorem qcb {c0:Option Ent} {M:Mem} {r:RV}:qat none (c0::cR r::M) (.ptr 1 1)=some (r.num.av):=rfl
theorem qb9 {c0:Option Ent} {M:Mem} {r:RV}:qat none (c0::cR r::M) (.ptr 1 2)=some (r.den.av):=rfl
theorem qb1 {c0:Option Ent} {M:Mem} {r:RV}:qat (some 3) (c0::cR r::M) (.ptr 1 0)=some r.av:=rfl
theorem qb3 {c0:Option Ent} {M:Mem} {r r':RV}:qaR (some 3) (c0::cR r::M) (.ptr 1 0) r'.av=some (c0::cR r'::M):=rfl
theorem qcr {c0:Option Ent} {M:Mem} {r:RV} {b:Bool}:qaR none (c0::cR r::M) (.ptr 1 0) (.bool b)=some (c0::cR ⟨b,r.num,r.den⟩::M):=rfl
theorem qce {c0 c1:Option Ent} {M:Mem} {r:RV}:qat none (c0::c1::cR r::M) (.ptr 2 0)=some (.bool r.neg):=rfl
theorem qcf {c0 c1:Option Ent} {M:Mem} {r:RV}:qat none (c0::c1::cR r::M) (.ptr 2 1)=some (r.num.av):=rfl
theorem qcd {c0 c1:Option Ent} {M:Mem} {r:RV}:qat none (c0::c1::cR r::M) (.ptr 2 2)=some (r.den.av):=rfl
theorem qcc {c0 c1:Option Ent} {M:Mem} {r:RV}:qat (some 3) (c0::c1::cR r::M) (.ptr 2 0)=some r.av:=rfl
theorem qcs {c0 c1:Option Ent} {M:Mem} {r r':RV}:qaR (some 3) (c0::c1::cR r::M) (.ptr 2 0) r'.av=some (c0::c1::cR r'::M):=rfl
theorem qct {c0 c1:Option Ent} {M:Mem} {r:RV} {b:Bool}:qaR none (c0::c1::cR r::M) (.ptr 2 0) (.bool b)=some (c0::c1::cR ⟨b,r.num,r.den⟩::M):=rfl
theorem qci {c0 c1 c2:Option Ent} {M:Mem} {r:RV}:qat none (c0::c1::c2::cR r::M) (.ptr 3 0)=some (.bool r.neg):=rfl
theorem qcj {c0 c1 c2:Option Ent} {M:Mem} {r:RV}:qat none (c0::c1::c2::cR r::M) (.ptr 3 1)=some (r.num.av):=rfl
theorem qch {c0 c1 c2:Option Ent} {M:Mem} {r:RV}:qat none (c0::c1::c2::cR r::M) (.ptr 3 2)=some (r.den.av):=rfl
theorem qcg {c0 c1 c2:Option Ent} {M:Mem} {r:RV}:qat (some 3) (c0::c1::c2::cR r::M) (.ptr 3 0)=some r.av:=rfl
theorem qcu {c0 c1 c2:Option Ent} {M:Mem} {r r':RV}:qaR (some 3) (c0::c1::c2::cR r::M) (.ptr 3 0) r'.av=some (c0::c1::c2::cR r'::M):=rfl
theorem qcv {c0 c1 c2:Option Ent} {M:Mem} {r:RV} {b:Bool}:qaR none (c0::c1::c2::cR r::M) (.ptr 3 0) (.bool b)=some (c0::c1::c2::cR ⟨b,r.num,r.den⟩::M):=rfl
theorem qcm {c0 c1 c2 c3:Option Ent} {M:Mem} {r:RV}:qat none (c0::c1::c2::c3::cR r::M) (.ptr 4 0)=some (.bool r.neg):=rfl
theorem qcn {c0 c1 c2 c3:Option Ent} {M:Mem} {r:RV}:qat none (c0::c1::c2::c3::cR r::M) (.ptr 4 1)=some (r.num.av):=rfl
theorem qcl {c0 c1 c2 c3:Option Ent} {M:Mem} {r:RV}:qat none (c0::c1::c2::c3::cR r::M) (.ptr 4 2)=some (r.den.av):=rfl
theorem qck {c0 c1 c2 c3:Option Ent} {M:Mem} {r:RV}:qat (some 3) (c0::c1::c2::c3::cR r::M) (.ptr 4 0)=some r.av:=rfl
theorem qcw {c0 c1 c2 c3:Option Ent} {M:Mem} {r r':RV}:qaR (some 3) (c0::c1::c2::c3::cR r::M) (.ptr 4 0) r'.av=some (c0::c1::c2::c3::cR r'::M):=rfl
theorem qcx {c0 c1 c2 c3:Option Ent} {M:Mem} {r:RV} {b:Bool}:qaR none (c0::c1::c2::c3::cR r::M) (.ptr 4 0) (.bool b)=some (c0::c1::c2::c3::cR ⟨b,r.num,r.den⟩::M):=rfl
theorem qfc (a:AV) (l:List AV):qaF (.tup (a::l)) 0=some a:=rfl
theorem qfd (a b:AV) (l:List AV):qaF (.tup (a::b::l)) 1=some b:=rfl
theorem ex2 (a b c:AV) (l:List AV):qaF (.tup (a::b::c::l)) 2=some c:=rfl
theorem qfj:qdz (.agg [.bool false,qhR.av,qhR.av]) []=some zR.av:=rfl
theorem qfk (x:NV):qdz (.agg [.bool false,qhR.av,qhR.av]) [(2,none,x.av)]=some (RV.av ⟨false,qhR,x⟩):=rfl
theorem qdr (x y:NV):qdz (.agg [.bool false,qhR.av,qhR.av]) [(1,none,x.av),(2,none,y.av)]=some (RV.av ⟨false,x,y⟩):=rfl
theorem qb5 (b:Bool) (x y:NV):qdz (.agg [.bool false,qhR.av,qhR.av]) [(0,none,.bool b),(1,none,x.av),(2,none,y.av)]=some (RV.av ⟨b,x,y⟩):=rfl
theorem qb2:AV.lst none true .full []=qhR.av:=rfl
theorem qds (b:Bool):unA .not (.bool b)=some (.bool (!b)):=rfl
theorem qbX (a b:Bool):qaz .bl .neq (.bool a) (.bool b)=some (.bool (a != b)):=rfl
theorem qb4 (a b:Bool):qaz .bl .eql (.bool a) (.bool b)=some (.bool (a == b)):=rfl
section
variable {cp:Nat->List AV->Option AV} {d:Option Nat} {m:Mem} {g:Nat}
theorem pcN (x:NV):qaN cp d m g [x.av]=(cp g [x.fr.av]).map fun v=>(v,m):=qbt (qcy x)
theorem pcI (k:IntKind) (n:Int):qaN cp d m g [.int k n]=(cp g [.int k n]).map fun v=>(v,m):=qbt (qcR k n)
theorem qfo (x y:NV):qaN cp d m g [x.av,y.av]=(cp g [x.fr.av,y.fr.av]).map fun v=>(v,m):=qcH (qcy x) (qcy y)
theorem qdh (b:Bool) (x y:NV):qaN cp d m g [.bool b,x.av,y.av]=(cp g [.bool b,x.fr.av,y.fr.av]).map fun v=>(v,m):=qof (qke b) (qcy x) (qcy y)
theorem pcR (r:RV):qaN cp d m g [r.av]=(cp g [r.fr.av]).map fun v=>(v,m):=qbt (qdQ r)
theorem qfp (r s:RV):qaN cp d m g [r.av,s.av]=(cp g [r.fr.av,s.fr.av]).map fun v=>(v,m):=qcH (qdQ r) (qdQ s)
theorem pc0:qaN cp d m g []=(cp g []).map fun v=>(v,m):=qkt
end
theorem qEH (m:Mem) (r:RV):frz m 8 r.av=some (r.fr.av,[]):=by
 have e:frz m 8 r.av=(qgc (frz m 7) [.bool r.neg,r.num.av,r.den.av]).map fun r=>(.agg r.1,r.2):=rfl
 rw[e]
 simp[qgc,qme r.neg m 6,qgl r.num m 6,qgl r.den m 6,RV.fr,RV.av]
theorem qhw (r:RV) {b b':AV} (hb:∀ m k,frz m (k+1) b=some (b',[])):Fz (.tup [r.av,b]) (.tup [r.fr.av,b']):=by
 intro m
 show (qgc (frz m 8) [r.av,b]).map _=_
 simp[qgc,qEH,hb m 7]
end Go.Ab

/- Matrices as they stand in memory. -/
set_option maxRecDepth 100000
namespace Go.Ab
structure LV where
 sh:Sh
 z:Bool
 o:Own
 es:List RV
def LV.av (l:LV):AV:=.lst l.sh l.z l.o (l.es.map RV.av)
structure LOk (k:Nat) (l:LV):Prop where
 sh:l.sh=some 3\/l.es=[]
 z:l.z=true->l.es=[]
 fr:∀ r∈l.es,r.fr=r
 ok:∀ r∈l.es,ROk k r
structure MV where
 rows:Int
 cols:Int
 lv:LV
def MV.av (x:MV):AV:=.agg [.int .i64 x.rows,.int .i64 x.cols,x.lv.av]
end Go.Ab

/- What the interpreter does, function by function. -/
set_option maxRecDepth 100000
namespace Go.Ab
open Go.Proofs.Tryz
theorem T71 (a0 a1:AV) (m:Mem):AC cfg 71 [a0,a1] m =
 (qf8 none (some 3) m a0).bind fun r1=>
 (qf8 none (some 3) r1.2 a1).bind fun r2=>
 (qat (some 3) (qaH none r2.2 (.obj true [(.bool false),(.lst none true .full []),(.lst none true .full [])])).2 r1.1).bind fun v3=>
 (qaN (AP cfg) none (qaH none r2.2 (.obj true [(.bool false),(.lst none true .full []),(.lst none true .full [])])).2 129 [v3]).bind fun r4=>
 (qaz .other .eql r4.1 (.int .i64 0)).bind fun v5=>
 ifA v5 (
 (qaB 0 r2.1).bind fun v6=>
 (qat none r4.2 v6).bind fun v7=>
 (qaB 1 r2.1).bind fun v8=>
 (qat none r4.2 v8).bind fun v9=>
 (qaB 2 r2.1).bind fun v10=>
 (qat none r4.2 v10).bind fun v11=>
 (qaN (AP cfg) none r4.2 126 [v7,v9,v11]).bind fun r12=>
 (qaR (some 3) r12.2 (.ptr (qaH none r2.2 .resv).1 0) r12.1).bind fun m13=>
 (qat (some 3) m13 (.ptr (qaH none r2.2 .resv).1 0)).bind fun v14=>
 some (v14,m13)) (
 (qat (some 3) r4.2 r2.1).bind fun v15=>
 (qaN (AP cfg) none r4.2 129 [v15]).bind fun r16=>
 (qaz .other .eql r16.1 (.int .i64 0)).bind fun v17=>
 ifA v17 (
 (qaB 0 r1.1).bind fun v18=>
 (qat none r16.2 v18).bind fun v19=>
 (qaB 1 r1.1).bind fun v20=>
 (qat none r16.2 v20).bind fun v21=>
 (qaB 2 r1.1).bind fun v22=>
 (qat none r16.2 v22).bind fun v23=>
 (qaN (AP cfg) none r16.2 126 [v19,v21,v23]).bind fun r24=>
 (qaR (some 3) r24.2 (.ptr (qaH none r2.2 .resv).1 0) r24.1).bind fun m25=>
 (qat (some 3) m25 (.ptr (qaH none r2.2 .resv).1 0)).bind fun v26=>
 some (v26,m25)) (
 (qaB 1 r1.1).bind fun v27=>
 (qat none r16.2 v27).bind fun v28=>
 (qaB 2 r2.1).bind fun v29=>
 (qat none r16.2 v29).bind fun v30=>
 (qaN (AP cfg) (some r16.2.length) r16.2 127 [v28,v30]).bind fun r31=>
 (qaB 1 r2.1).bind fun v32=>
 (qat none r31.2 v32).bind fun v33=>
 (qaB 2 r1.1).bind fun v34=>
 (qat none r31.2 v34).bind fun v35=>
 (qaN (AP cfg) (some r16.2.length) r31.2 127 [v33,v35]).bind fun r36=>
 (qaB 2 r1.1).bind fun v37=>
 (qat none r36.2 v37).bind fun v38=>
 (qaB 2 r2.1).bind fun v39=>
 (qat none r36.2 v39).bind fun v40=>
 (qaN (AP cfg) (some r16.2.length) r36.2 127 [v38,v40]).bind fun r41=>
 (qaB 0 r1.1).bind fun v42=>
 (qat none r41.2 v42).bind fun v43=>
 (qaB 0 r2.1).bind fun v44=>
 (qat none r41.2 v44).bind fun v45=>
 (qaz .bl .eql v43 v45).bind fun v46=>
 ifA v46 (
 (qaB 0 r1.1).bind fun v47=>
 (qat none r41.2 v47).bind fun v48=>
 (qaN (AP cfg) (some r41.2.length) r41.2 130 [r31.1,r36.1]).bind fun r49=>
 (qaN (AP cfg) (some r41.2.length) r49.2 126 [v48,r49.1,r41.1]).bind fun r50=>
 (qaR (some 3) r50.2 (.ptr (qaH none r2.2 .resv).1 0) r50.1).bind fun m51=>
 (qat (some 3) m51 (.ptr (qaH none r2.2 .resv).1 0)).bind fun v52=>
 some (v52,m51)) (
 (qaN (AP cfg) none r41.2 131 [r31.1,r36.1]).bind fun r53=>
 (qaz .other .lss r53.1 (.int .i64 0)).bind fun v54=>
 ifA v54 (
 (qat (some 3) r53.2 r2.1).bind fun v55=>
 (qaR (some 3) r53.2 r1.1 v55).bind fun m56=>
 (qaN (AP cfg) none m56 132 [r36.1,r31.1]).bind fun r57=>
 (qaF r57.1 0).bind fun v58=>
 (qaF r57.1 1).bind fun v59=>
 (qaB 0 r1.1).bind fun v60=>
 (qat none r57.2 v60).bind fun v61=>
 (qaN (AP cfg) none r57.2 126 [v61,v58,r41.1]).bind fun r62=>
 (qaR (some 3) r62.2 (.ptr (qaH none r2.2 .resv).1 0) r62.1).bind fun m63=>
 (qat (some 3) m63 (.ptr (qaH none r2.2 .resv).1 0)).bind fun v64=>
 some (v64,m63)) (
 (qaN (AP cfg) none r53.2 132 [r31.1,r36.1]).bind fun r65=>
 (qaF r65.1 0).bind fun v66=>
 (qaF r65.1 1).bind fun v67=>
 (qaB 0 r1.1).bind fun v68=>
 (qat none r65.2 v68).bind fun v69=>
 (qaN (AP cfg) none r65.2 126 [v69,v66,r41.1]).bind fun r70=>
 (qaR (some 3) r70.2 (.ptr (qaH none r2.2 .resv).1 0) r70.1).bind fun m71=>
 (qat (some 3) m71 (.ptr (qaH none r2.2 .resv).1 0)).bind fun v72=>
 some (v72,m71))))):=
(qbx cfg 71 [a0,a1] m (fn:=f71) (c:=qaq f71) qJw rfl).trans (by kernel_rfl)
theorem qHZ (m:Mem):AC cfg 114 [] m =
 (qaN (AP cfg) none (qaH none m (.obj true [(.bool false),(.lst none true .full []),(.lst none true .full [])])).2 123 [(.int .u64 1)]).bind fun r1=>
 (qdz (.agg [(.bool false),(.lst none true .full []),(.lst none true .full [])]) [(2,none,r1.1)]).bind fun v2=>
 (qaR (some 3) r1.2 (.ptr (qaH none m .resv).1 0) v2).bind fun m3=>
 (qat (some 3) m3 (.ptr (qaH none m .resv).1 0)).bind fun v4=>
 some (v4,m3):=
(qbx cfg 114 [] m (fn:=f114) (c:=qaq f114) qF8 rfl).trans (by kernel_rfl)
theorem T64 (m:Mem):AC cfg 64 [] m =
 (qaN (AP cfg) none (qaH none m (.obj true [(.bool false),(.lst none true .full []),(.lst none true .full [])])).2 123 [(.int .u64 1)]).bind fun r1=>
 (qaN (AP cfg) none r1.2 123 [(.int .u64 1)]).bind fun r2=>
 (qdz (.agg [(.bool false),(.lst none true .full []),(.lst none true .full [])]) [(1,none,r1.1),(2,none,r2.1)]).bind fun v3=>
 (qaR (some 3) r2.2 (.ptr (qaH none m .resv).1 0) v3).bind fun m4=>
 (qat (some 3) m4 (.ptr (qaH none m .resv).1 0)).bind fun v5=>
 some (v5,m4):=
(qbx cfg 64 [] m (fn:=f64) (c:=qaq f64) qJp rfl).trans (by kernel_rfl)
theorem T69 (a0 a1:AV) (m:Mem):AC cfg 69 [a0,a1] m =
 (qf8 none (some 3) m a0).bind fun r1=>
 (qf8 none (some 3) r1.2 a1).bind fun r2=>
 (qaB 0 r1.1).bind fun v3=>
 (qat none (qaH none r2.2 (.obj true [(.bool false),(.lst none true .full []),(.lst none true .full [])])).2 v3).bind fun v4=>
 (qaB 0 r2.1).bind fun v5=>
 (qat none (qaH none r2.2 (.obj true [(.bool false),(.lst none true .full []),(.lst none true .full [])])).2 v5).bind fun v6=>
 (qaz .bl .neq v4 v6).bind fun v7=>
 (qaB 1 r1.1).bind fun v8=>
 (qat none (qaH none r2.2 (.obj true [(.bool false),(.lst none true .full []),(.lst none true .full [])])).2 v8).bind fun v9=>
 (qaB 1 r2.1).bind fun v10=>
 (qat none (qaH none r2.2 (.obj true [(.bool false),(.lst none true .full []),(.lst none true .full [])])).2 v10).bind fun v11=>
 (qaN (AP cfg) (some (qaH none r2.2 (.obj true [(.bool false),(.lst none true .full []),(.lst none true .full [])])).2.length) (qaH none r2.2 (.obj true [(.bool false),(.lst none true .full []),(.lst none true .full [])])).2 127 [v9,v11]).bind fun r12=>
 (qaB 2 r1.1).bind fun v13=>
 (qat none r12.2 v13).bind fun v14=>
 (qaB 2 r2.1).bind fun v15=>
 (qat none r12.2 v15).bind fun v16=>
 (qaN (AP cfg) (some (qaH none r2.2 (.obj true [(.bool false),(.lst none true .full []),(.lst none true .full [])])).2.length) r12.2 127 [v14,v16]).bind fun r17=>
 (qaN (AP cfg) (some (qaH none r2.2 (.obj true [(.bool false),(.lst none true .full []),(.lst none true .full [])])).2.length) r17.2 126 [v7,r12.1,r17.1]).bind fun r18=>
 (qaR (some 3) r18.2 (.ptr (qaH none r2.2 .resv).1 0) r18.1).bind fun m19=>
 (qat (some 3) m19 (.ptr (qaH none r2.2 .resv).1 0)).bind fun v20=>
 some (v20,m19):=
(qbx cfg 69 [a0,a1] m (fn:=f69) (c:=qaq f69) qJu rfl).trans (by kernel_rfl)
theorem qH8 (a0:AV) (m:Mem):AC cfg 129 [a0] m =
 (qf8 none (some 3) m a0).bind fun r1=>
 (qaB 1 r1.1).bind fun v2=>
 (qat none r1.2 v2).bind fun v3=>
 (qaN (AP cfg) none r1.2 131 [v3,(.lst none true .full [])]).bind fun r4=>
 (qaz .other .eql r4.1 (.int .i64 0)).bind fun v5=>
 ifA v5 (
 some ((.int .i64 0),r4.2)) (
 (qaB 2 r1.1).bind fun v6=>
 (qat none r4.2 v6).bind fun v7=>
 (qaN (AP cfg) none r4.2 131 [v7,(.lst none true .full [])]).bind fun r8=>
 (qaz .other .eql r8.1 (.int .i64 0)).bind fun v9=>
 ifA v9 (
 some ((.int .i64 0),r8.2)) (
 (qaB 0 r1.1).bind fun v10=>
 (qat none r8.2 v10).bind fun v11=>
 ifA v11 (
 some ((.int .i64 (-1)),r8.2)) (
 some ((.int .i64 1),r8.2)))):=
(qbx cfg 129 [a0] m (fn:=f129) (c:=qaq f129) qGj rfl).trans (by kernel_rfl)
theorem qHm (a0 a1 a2:AV) (m:Mem):AC cfg 126 [a0,a1,a2] m =
 (qaN (AP cfg) none (qaH none m (.obj true [(.bool false),(.lst none true .full []),(.lst none true .full [])])).2 167 [a0,a1,a2]).bind fun r1=>
 (qaF r1.1 0).bind fun v2=>
 (qaF r1.1 1).bind fun v3=>
 (qaR (some 3) (qaH none r1.2 (.obj true [(.bool false),(.lst none true .full []),(.lst none true .full [])])).2 (.ptr (qaH none r1.2 .resv).1 0) v2).bind fun m4=>
 (qaz .other .neq v3 (.int .i64 0)).bind fun v5=>
 ifA v5 (
 (qaN (AP cfg) none m4 114 []).bind fun r6=>
 (qaR (some 3) r6.2 (.ptr (qaH none m .resv).1 0) r6.1).bind fun m7=>
 (qat (some 3) m7 (.ptr (qaH none m .resv).1 0)).bind fun v8=>
 some (v8,m7)) (
 (qat (some 3) m4 (.ptr (qaH none r1.2 .resv).1 0)).bind fun v9=>
 (qaR (some 3) m4 (.ptr (qaH none m .resv).1 0) v9).bind fun m10=>
 (qat (some 3) m10 (.ptr (qaH none m .resv).1 0)).bind fun v11=>
 some (v11,m10)):=
(qbx cfg 126 [a0,a1,a2] m (fn:=f126) (c:=qaq f126) qGg rfl).trans (by kernel_rfl)
theorem qHq (a0 a1 a2:AV) (m:Mem):AC cfg 167 [a0,a1,a2] m =
 (qaN (AP cfg) none (qaH none m (.obj true [(.bool false),(.lst none true .full []),(.lst none true .full [])])).2 183 [a1,a2]).bind fun r1=>
 (qaN (AP cfg) none r1.2 131 [a2,(.lst none true .full [])]).bind fun r2=>
 (qaz .other .eql r2.1 (.int .i64 0)).bind fun v3=>
 ifA v3 (
 (qdz (.agg [(.bool false),(.lst none true .full []),(.lst none true .full [])]) []).bind fun v4=>
 (qaR (some 3) r2.2 (.ptr (qaH none m .resv).1 0) v4).bind fun m5=>
 (qat (some 3) m5 (.ptr (qaH none m .resv).1 0)).bind fun v6=>
 some ((.tup [v6,(.int .i64 31)]),m5)) (
 (qaN (AP cfg) none r2.2 187 [a1,r1.1]).bind fun r7=>
 (qaF r7.1 0).bind fun v8=>
 (qaF r7.1 1).bind fun v9=>
 (qaF r7.1 2).bind fun v10=>
 (qaN (AP cfg) none r7.2 187 [a2,r1.1]).bind fun r11=>
 (qaF r11.1 0).bind fun v12=>
 (qaF r11.1 1).bind fun v13=>
 (qaF r11.1 2).bind fun v14=>
 ifA a0 (
 (qbY false v8).bind fun v15=>
 (qaz .other .gtr v15 (.int .i64 0)).bind fun v16=>
 (qdz (.agg [(.bool false),(.lst none true .full []),(.lst none true .full [])]) [(0,none,v16),(1,none,v8),(2,none,v12)]).bind fun v17=>
 (qaR (some 3) r11.2 (.ptr (qaH none m .resv).1 0) v17).bind fun m18=>
 (qat (some 3) m18 (.ptr (qaH none m .resv).1 0)).bind fun v19=>
 some ((.tup [v19,(.int .i64 0)]),m18)) (
 (qdz (.agg [(.bool false),(.lst none true .full []),(.lst none true .full [])]) [(0,none,(.bool false)),(1,none,v8),(2,none,v12)]).bind fun v20=>
 (qaR (some 3) r11.2 (.ptr (qaH none m .resv).1 0) v20).bind fun m21=>
 (qat (some 3) m21 (.ptr (qaH none m .resv).1 0)).bind fun v22=>
 some ((.tup [v22,(.int .i64 0)]),m21))):=
(qbx cfg 167 [a0,a1,a2] m (fn:=f167) (c:=qaq f167) qGE rfl).trans (by kernel_rfl)
theorem qIl (a0:AV) (m:Mem):AC cfg 168 [a0] m =
 (qaz .other .lss a0 (.int .i64 0)).bind fun v1=>
 ifA v1 (
 (qbl .u64 a0).bind fun v2=>
 (unA .neg v2).bind fun v3=>
 (qaN (AP cfg) none m 123 [v3]).bind fun r4=>
 some (r4.1,r4.2)) (
 (qbl .u64 a0).bind fun v5=>
 (qaN (AP cfg) none m 123 [v5]).bind fun r6=>
 some (r6.1,r6.2)):=
(qbx cfg 168 [a0] m (fn:=f168) (c:=qaq f168) qGF rfl).trans (by kernel_rfl)
theorem qH7 (a0 a1:AV) (m:Mem):AC cfg 128 [a0,a1] m =
 (qaz .other .lss a0 (.int .i64 0)).bind fun v1=>
 (qaz .other .lss a1 (.int .i64 0)).bind fun v2=>
 (qaz .bl .neq v1 v2).bind fun v3=>
 (qaN (AP cfg) none (qaH none m (.obj true [(.bool false),(.lst none true .full []),(.lst none true .full [])])).2 168 [a0]).bind fun r4=>
 (qaN (AP cfg) none r4.2 168 [a1]).bind fun r5=>
 (qaN (AP cfg) none r5.2 167 [v3,r4.1,r5.1]).bind fun r6=>
 (qaF r6.1 0).bind fun v7=>
 (qaF r6.1 1).bind fun v8=>
 (qaR (some 3) r6.2 (.ptr (qaH none m .resv).1 0) v7).bind fun m9=>
 (qat (some 3) m9 (.ptr (qaH none m .resv).1 0)).bind fun v10=>
 some ((.tup [v10,v8]),m9):=
(qbx cfg 128 [a0,a1] m (fn:=f128) (c:=qaq f128) qGi rfl).trans (by kernel_rfl)
end Go.Ab

/- What the functions of ratio compute, in values. -/
set_option maxRecDepth 100000
namespace Go.Ab
open Go.Proofs.Tryz
theorem qpy:NOk qhR:=⟨qj4,by simp[qhR],by simp[qhR]⟩
theorem qv8:qhR.v=0:=rfl
def qDu:NV:=⟨false,.no,qba 1⟩
theorem qu6:AP cfg 123 [.int .u64 1]=some qDu.av:=qFW (n:=1) (by omega)
def qk1:RV:=⟨false,qhR,qDu⟩
def qkr:RV:=⟨false,qDu,qDu⟩
theorem qy5:Can qk1 0:=⟨rfl,qcP.symm,rfl,fun _=>rfl,by simp[qk1,qDu]⟩
theorem qCW:Can qkr 1:=⟨rfl,rfl,rfl,by simp[qkr,qDu],by simp[qkr,qDu]⟩
theorem qIw:AP cfg 114 []=some qk1.av:=by
 refine qbI _ _ (qdQ qk1) (qee _) (m:=[cR qk1]) ?_
 rw[qHZ]
 simp only[oBs,qaf,qb0,qdl,qdd,qcp,qco,qfl,qfm,qfn,qfq,qfr,qb7,qb8,qb6,qbT,qbV,qcq,qca,qcb,qb9,qb1,qb3,qcr,qce,qcf,qcd,qcc,qcs,qct,qci,qcj,qch,qcg,qcu,qcv,qcm,qcn,qcl,qck,qcw,qcx,qfc,qfd,ex2,qfj,qfk,qdr,qb5,qb2,qds,qbX,qb4,qad,qae,qab,qaw,qas,qav,qar,qau,qaD,qaZ,pcN,pcI,qfo,qdh,pcR,qfp,pc0,qu6]
 rfl
theorem V64:AP cfg 64 []=some qkr.av:=by
 refine qbI _ _ (qdQ qkr) (qee _) (m:=[cR qkr]) ?_
 rw[T64]
 simp only[oBs,qaf,qb0,qdl,qdd,qcp,qco,qfl,qfm,qfn,qfq,qfr,qb7,qb8,qb6,qbT,qbV,qcq,qca,qcb,qb9,qb1,qb3,qcr,qce,qcf,qcd,qcc,qcs,qct,qci,qcj,qch,qcg,qcu,qcv,qcm,qcn,qcl,qck,qcw,qcx,qfc,qfd,ex2,qfj,qfk,qdr,qb5,qb2,qds,qbX,qb4,qad,qae,qab,qaw,qas,qav,qar,qau,qaD,qaZ,pcN,pcI,qfo,qdh,pcR,qfp,pc0,qu6]
 rfl
theorem qD2 (n:Nat):(qhu n 0=0)↔n=0:=by unfold qhu;constructor<;>intro h<;>(repeat' split at *)<;>omega
theorem qHy {x y:NV} (neg:Bool) (hx:NOk x) (hy:NOk y):(y.v=0/\AP cfg 167 [.bool neg,x.av,y.av]=some (.tup [zR.av,.int .i64 31])) \/
  (y.v≠0/\∃ r:RV,AP cfg 167 [.bool neg,x.av,y.av]=some (.tup [r.av,.int .i64 0])/\Can r (qOf neg x.v y.v)/\r.fr=r):=by
 have e1:=qIG hx.fr hy.fr
 have e2:=qCB hy.fr qpy
 have hg:=qC9 hx.fr hy.fr
 have hgf:(qkR x.fr y.fr).fr=qkR x.fr y.fr:=qC8 _ _
 have hgv:(qkR x.fr y.fr).v=Nat.gcd x.v y.v:=qEK _ _
 have e3:=qFX hx.fr hg
 have e4:=qFX hy.fr hg
 have nf:qhR.fr=qhR:=rfl
 have hyv:y.fr.v=y.v:=rfl
 rw[qv8,hyv] at e2
 by_cases h0:y.v=0
 ·refine .inl ⟨h0,qbI _ _ (qhw zR (qdv _ _)) rfl (m:=[cR zR]) ?_⟩
  rw[qHq]
  simp only[oBs,qaf,qb0,qdl,qdd,qcp,qco,qfl,qfm,qfn,qfq,qfr,qb7,qb8,qb6,qbT,qbV,qcq,qca,qcb,qb9,qb1,qb3,qcr,qce,qcf,qcd,qcc,qcs,qct,qci,qcj,qch,qcg,qcu,qcv,qcm,qcn,qcl,qck,qcw,qcx,qfc,qfd,ex2,qfj,qfk,qdr,qb5,qb2,qds,qbX,qb4,qad,qae,qab,qaw,qas,qav,qar,qau,qaD,qaZ,pcN,pcI,qfo,qdh,pcR,qfp,pc0,e1,nf,e2,qcK,qap]
  rw[qal ((qD2 _).2 h0)]
 ·refine .inr ⟨h0,?_⟩
  have hgp:Nat.gcd x.v y.v≠0:=by
   have:=Nat.gcd_pos_of_pos_right x.v (qbG h0)
   omega
  have hgn:¬ (qkR x.fr y.fr).v=0:=by rw[hgv];exact hgp
  unfold qFB at e3 e4
  rw[qah hgn] at e3 e4
  have hq:(qkN x.fr (qkR x.fr y.fr)).ds=qba (x.v / Nat.gcd x.v y.v):=by rw[ql7,hgv];rfl
  have hd:(qkN y.fr (qkR x.fr y.fr)).ds=qba (y.v / Nat.gcd x.v y.v):=by rw[ql7,hgv];rfl
  refine ⟨⟨neg && decide (x.v / Nat.gcd x.v y.v > 0),qkN x.fr (qkR x.fr y.fr),qkN y.fr (qkR x.fr y.fr)⟩,?_,⟨(qwo h0).symm,?_,?_,(qvw hx.fr).nil,(qvw hy.fr).nil⟩,?_⟩
  ·refine (qbI _ _ (qhw ⟨neg && decide (x.v / Nat.gcd x.v y.v > 0),qkN x.fr (qkR x.fr y.fr),qkN y.fr (qkR x.fr y.fr)⟩ (qdv .i64 0)) rfl (m:=[cR ⟨neg && decide (x.v / Nat.gcd x.v y.v > 0),qkN x.fr (qkR x.fr y.fr),qkN y.fr (qkR x.fr y.fr)⟩]) ?_).trans (by simp only[RV.fr,qj6])
   rw[qHq]
   simp only[oBs,qaf,qb0,qdl,qdd,qcp,qco,qfl,qfm,qfn,qfq,qfr,qb7,qb8,qb6,qbT,qbV,qcq,qca,qcb,qb9,qb1,qb3,qcr,qce,qcf,qcd,qcc,qcs,qct,qci,qcj,qch,qcg,qcu,qcv,qcm,qcn,qcl,qck,qcw,qcx,qfc,qfd,ex2,qfj,qfk,qdr,qb5,qb2,qds,qbX,qb4,qad,qae,qab,qaw,qas,qav,qar,qau,qaD,qaZ,pcN,pcI,qfo,qdh,pcR,qfp,pc0,e1,nf,e2,qcK,qap]
   rw[qah (fun h=>h0 ((qD2 _).1 h))]
   simp only[oBs,qaf,qb0,qdl,qdd,qcp,qco,qfl,qfm,qfn,qfq,qfr,qb7,qb8,qb6,qbT,qbV,qcq,qca,qcb,qb9,qb1,qb3,qcr,qce,qcf,qcd,qcc,qcs,qct,qci,qcj,qch,qcg,qcu,qcv,qcm,qcn,qcl,qck,qcw,qcx,qfc,qfd,ex2,qfj,qfk,qdr,qb5,qb2,qds,qbX,qb4,qad,qae,qab,qaw,qas,qav,qar,qau,qaD,qaZ,pcN,pcI,qfo,qdh,pcR,qfp,pc0,hgf,e3,e4,qdj,qio,hq]
   have hlen:decide ((qba (x.v / Nat.gcd x.v y.v)).length > 0)=decide (x.v / Nat.gcd x.v y.v > 0):=qbP.2 (by
    constructor
    ·intro h
     apply qbG
     intro e
     rw[e,qcP] at h
     simp at h
    ·intro h
     have:(qba (x.v / Nat.gcd x.v y.v)).length≠0:=fun e=>by have:=qc5.1 e;omega
     omega)
   cases neg with
   | false=>rfl
   | true=>
    rw[qfx,hlen]
    simp only[oBs,qaf,qb0,qdl,qdd,qcp,qco,qfl,qfm,qfn,qfq,qfr,qb7,qb8,qb6,qbT,qbV,qcq,qca,qcb,qb9,qb1,qb3,qcr,qce,qcf,qcd,qcc,qcs,qct,qci,qcj,qch,qcg,qcu,qcv,qcm,qcn,qcl,qck,qcw,qcx,qfc,qfd,ex2,qfj,qfk,qdr,qb5,qb2,qds,qbX,qb4,qad,qae,qab,qaw,qas,qav,qar,qau,qaD,qaZ,pcN,pcI,qfo,qdh,pcR,qfp,pc0,qdx]
  ·rw[qpF h0];exact hq
  ·rw[qpG h0];exact hd
  ·simp only[RV.fr,qj6]
theorem qz0:qk1.fr=qk1:=rfl
theorem qFw {x y:NV} (neg:Bool) (hx:NOk x) (hy:NOk y):∃ r:RV,AP cfg 126 [.bool neg,x.av,y.av]=some r.av/\Can r (qOf neg x.v y.v)/\r.fr=r:=by
 rcases qHy neg hx.fr hy.fr with ⟨h0,h1⟩ | ⟨h0,r,h1,h2,h3⟩
 ·refine ⟨qk1,qbI _ _ (qdQ qk1) (qee _) (m:=[cR qk1,cR zR]) ?_,?_,qz0⟩
  ·rw[qHm]
   simp only[oBs,qaf,qb0,qdl,qdd,qcp,qco,qfl,qfm,qfn,qfq,qfr,qb7,qb8,qb6,qbT,qbV,qcq,qca,qcb,qb9,qb1,qb3,qcr,qce,qcf,qcd,qcc,qcs,qct,qci,qcj,qch,qcg,qcu,qcv,qcm,qcn,qcl,qck,qcw,qcx,qfc,qfd,ex2,qfj,qfk,qdr,qb5,qb2,qds,qbX,qb4,qad,qae,qab,qaw,qas,qav,qar,qau,qaD,qaZ,pcN,pcI,qfo,qdh,pcR,qfp,pc0,h1,qcW,qap]
   rw[qal (by decide)]
   simp only[oBs,qaf,qb0,qdl,qdd,qcp,qco,qfl,qfm,qfn,qfq,qfr,qb7,qb8,qb6,qbT,qbV,qcq,qca,qcb,qb9,qb1,qb3,qcr,qce,qcf,qcd,qcc,qcs,qct,qci,qcj,qch,qcg,qcu,qcv,qcm,qcn,qcl,qck,qcw,qcx,qfc,qfd,ex2,qfj,qfk,qdr,qb5,qb2,qds,qbX,qb4,qad,qae,qab,qaw,qas,qav,qar,qau,qaD,qaZ,pcN,pcI,qfo,qdh,pcR,qfp,pc0,qIw]
  ·have:y.v=0:=h0
   rw[this,qit];exact qy5
 ·refine ⟨r,(qbI _ _ (qdQ r) (qee _) (m:=[cR r,cR r]) ?_).trans (by rw[h3]),h2,h3⟩
  rw[qHm]
  simp only[oBs,qaf,qb0,qdl,qdd,qcp,qco,qfl,qfm,qfn,qfq,qfr,qb7,qb8,qb6,qbT,qbV,qcq,qca,qcb,qb9,qb1,qb3,qcr,qce,qcf,qcd,qcc,qcs,qct,qci,qcj,qch,qcg,qcu,qcv,qcm,qcn,qcl,qck,qcw,qcx,qfc,qfd,ex2,qfj,qfk,qdr,qb5,qb2,qds,qbX,qb4,qad,qae,qab,qaw,qas,qav,qar,qau,qaD,qaZ,pcN,pcI,qfo,qdh,pcR,qfp,pc0,h1,qcW,qap]
  rw[qah (by decide)]
def qjt (r:RV):Int:=if r.num.v=0\/r.den.v=0 then 0 else if r.neg then -1 else 1
theorem qHs {r:RV} {k:Nat} (h:ROk k r):AP cfg 129 [r.av]=some (.int .i64 (qjt r)):=by
 have nf:qhR.fr=qhR:=rfl
 have e1:=qCB h.num.fr qpy
 have e2:=qCB h.den.fr qpy
 have v1:r.num.fr.v=r.num.v:=rfl
 have v2:r.den.fr.v=r.den.v:=rfl
 rw[qv8,v1] at e1
 rw[qv8,v2] at e2
 refine qbI _ _ (qcR _ _) rfl (m:=[cR r]) ?_
 rw[qH8]
 simp only[oBs,qaf,qb0,qdl,qdd,qcp,qco,qfl,qfm,qfn,qfq,qfr,qb7,qb8,qb6,qbT,qbV,qcq,qca,qcb,qb9,qb1,qb3,qcr,qce,qcf,qcd,qcc,qcs,qct,qci,qcj,qch,qcg,qcu,qcv,qcm,qcn,qcl,qck,qcw,qcx,qfc,qfd,ex2,qfj,qfk,qdr,qb5,qb2,qds,qbX,qb4,qad,qae,qab,qaw,qas,qav,qar,qau,qaD,qaZ,pcN,pcI,qfo,qdh,pcR,qfp,pc0,nf,e1,qcK,qap]
 unfold qjt
 by_cases h1:r.num.v=0
 ·rw[qal ((qD2 _).2 h1),qal (.inl h1)]
 ·rw[qah (fun h=>h1 ((qD2 _).1 h))]
  simp only[oBs,qaf,qb0,qdl,qdd,qcp,qco,qfl,qfm,qfn,qfq,qfr,qb7,qb8,qb6,qbT,qbV,qcq,qca,qcb,qb9,qb1,qb3,qcr,qce,qcf,qcd,qcc,qcs,qct,qci,qcj,qch,qcg,qcu,qcv,qcm,qcn,qcl,qck,qcw,qcx,qfc,qfd,ex2,qfj,qfk,qdr,qb5,qb2,qds,qbX,qb4,qad,qae,qab,qaw,qas,qav,qar,qau,qaD,qaZ,pcN,pcI,qfo,qdh,pcR,qfp,pc0,e2,qcK,qap]
  by_cases h2:r.den.v=0
  ·rw[qal ((qD2 _).2 h2),qal (.inr h2)]
  ·rw[qah (fun h=>h2 ((qD2 _).1 h)),qah (fun h=>h.elim h1 h2)]
   cases hn:r.neg<;>rfl
end Go.Ab

/- What the interpreter does, function by function. -/
set_option maxRecDepth 100000
namespace Go.Ab
open Go.Proofs.Tryz
theorem T21 (a0 a1:AV) (m:Mem):AC cfg 21 [a0,a1] m =
 (qf8 none (some 3) m a0).bind fun r1=>
 (qf8 none (some 3) r1.2 a1).bind fun r2=>
 (qat (some 3) r2.2 r1.1).bind fun v3=>
 (qat (some 3) r2.2 r2.1).bind fun v4=>
 (qaN (AP cfg) none r2.2 73 [v3,v4]).bind fun r5=>
 (qaz .other .eql r5.1 (.int .i64 0)).bind fun v6=>
 some (v6,r5.2):=
(qbx cfg 21 [a0,a1] m (fn:=f21) (c:=qaq f21) qJb rfl).trans (by kernel_rfl)
theorem T73 (a0 a1:AV) (m:Mem):AC cfg 73 [a0,a1] m =
 (qf8 none (some 3) m a0).bind fun r1=>
 (qf8 none (some 3) r1.2 a1).bind fun r2=>
 (qat (some 3) r2.2 r1.1).bind fun v3=>
 (qat (some 3) r2.2 r2.1).bind fun v4=>
 (qaN (AP cfg) none r2.2 134 [v3,v4]).bind fun r5=>
 (qaN (AP cfg) none r5.2 57 [r5.1]).bind fun r6=>
 some (r6.1,r6.2):=
(qbx cfg 73 [a0,a1] m (fn:=f73) (c:=qaq f73) qJy rfl).trans (by kernel_rfl)
theorem T23 (m:Mem):AC cfg 23 [] m =
 (qaN (AP cfg) none (qaH none m (.obj true [(.bool false),(.lst none true .full []),(.lst none true .full [])])).2 72 [(.int .u64 1)]).bind fun r1=>
 (qaN (AP cfg) none r1.2 72 [(.int .u64 1)]).bind fun r2=>
 (qdz (.agg [(.bool false),(.lst none true .full []),(.lst none true .full [])]) [(1,none,r1.1),(2,none,r2.1)]).bind fun v3=>
 (qaR (some 3) r2.2 (.ptr (qaH none m .resv).1 0) v3).bind fun m4=>
 (qat (some 3) m4 (.ptr (qaH none m .resv).1 0)).bind fun v5=>
 some (v5,m4):=
(qbx cfg 23 [] m (fn:=f23) (c:=qaq f23) qJd rfl).trans (by kernel_rfl)
theorem T20 (m:Mem):AC cfg 20 [] m =
 (qaN (AP cfg) none (qaH none m (.obj true [(.bool false),(.lst none true .full []),(.lst none true .full [])])).2 72 [(.int .u64 1)]).bind fun r1=>
 (qdz (.agg [(.bool false),(.lst none true .full []),(.lst none true .full [])]) [(2,none,r1.1)]).bind fun v2=>
 (qaR (some 3) r1.2 (.ptr (qaH none m .resv).1 0) v2).bind fun m3=>
 (qat (some 3) m3 (.ptr (qaH none m .resv).1 0)).bind fun v4=>
 some (v4,m3):=
(qbx cfg 20 [] m (fn:=f20) (c:=qaq f20) qJa rfl).trans (by kernel_rfl)
theorem T22 (a0 a1:AV) (m:Mem):AC cfg 22 [a0,a1] m =
 (qf8 none (some 3) m a0).bind fun r1=>
 (qf8 none (some 3) r1.2 a1).bind fun r2=>
 (qat (some 3) (qaH none r2.2 (.obj true [(.bool false),(.lst none true .full []),(.lst none true .full [])])).2 r1.1).bind fun v3=>
 (qaN (AP cfg) (some (qaH none r2.2 (.obj true [(.bool false),(.lst none true .full []),(.lst none true .full [])])).2.length) (qaH none r2.2 (.obj true [(.bool false),(.lst none true .full []),(.lst none true .full [])])).2 74 [v3]).bind fun r4=>
 (qat (some 3) r4.2 r2.1).bind fun v5=>
 (qaN (AP cfg) (some (qaH none r2.2 (.obj true [(.bool false),(.lst none true .full []),(.lst none true .full [])])).2.length) r4.2 74 [v5]).bind fun r6=>
 (qaR (some 3) r6.2 r1.1 r4.1).bind fun m7=>
 (qaR (some 3) m7 r2.1 r6.1).bind fun m8=>
 (qaB 1 r1.1).bind fun v9=>
 (qat none m8 v9).bind fun v10=>
 (qaB 2 r2.1).bind fun v11=>
 (qat none m8 v11).bind fun v12=>
 (qaN (AP cfg) (some m8.length) m8 75 [v10,v12]).bind fun r13=>
 (qaB 1 r2.1).bind fun v14=>
 (qat none r13.2 v14).bind fun v15=>
 (qaB 2 r1.1).bind fun v16=>
 (qat none r13.2 v16).bind fun v17=>
 (qaN (AP cfg) (some m8.length) r13.2 75 [v15,v17]).bind fun r18=>
 (qaB 2 r1.1).bind fun v19=>
 (qat none r18.2 v19).bind fun v20=>
 (qaB 2 r2.1).bind fun v21=>
 (qat none r18.2 v21).bind fun v22=>
 (qaN (AP cfg) (some m8.length) r18.2 75 [v20,v22]).bind fun r23=>
 (qaB 0 r1.1).bind fun v24=>
 (qat none r23.2 v24).bind fun v25=>
 (qaN (AP cfg) (some r23.2.length) r23.2 76 [r13.1,r18.1]).bind fun r26=>
 (qaB 0 r1.1).bind fun v27=>
 (qat none r26.2 v27).bind fun v28=>
 (qaB 0 r2.1).bind fun v29=>
 (qat none r26.2 v29).bind fun v30=>
 (qaz .bl .neq v28 v30).bind fun v31=>
 ifA v31 (
 (qaN (AP cfg) none r26.2 77 [r13.1,r18.1]).bind fun r32=>
 (qaz .other .geq r32.1 (.int .i64 0)).bind fun v33=>
 ifA v33 (
 (qaN (AP cfg) none r32.2 78 [r13.1,r18.1]).bind fun r34=>
 (qaF r34.1 0).bind fun v35=>
 (qaF r34.1 1).bind fun v36=>
 (qaN (AP cfg) none r34.2 79 [v25,v35,r23.1]).bind fun r37=>
 (qaF r37.1 0).bind fun v38=>
 (qaF r37.1 1).bind fun v39=>
 (qaR (some 3) (qaH none r37.2 (.obj true [(.bool false),(.lst none true .full []),(.lst none true .full [])])).2 (.ptr (qaH none r37.2 .resv).1 0) v38).bind fun m40=>
 (qat (some 3) m40 (.ptr (qaH none r37.2 .resv).1 0)).bind fun v41=>
 (qaR (some 3) m40 (.ptr (qaH none r2.2 .resv).1 0) v41).bind fun m42=>
 (qat (some 3) m42 (.ptr (qaH none r2.2 .resv).1 0)).bind fun v43=>
 some (v43,m42)) (
 (qaB 0 r2.1).bind fun v44=>
 (qat none r32.2 v44).bind fun v45=>
 (qaN (AP cfg) none r32.2 78 [r18.1,r13.1]).bind fun r46=>
 (qaF r46.1 0).bind fun v47=>
 (qaF r46.1 1).bind fun v48=>
 (qaN (AP cfg) none r46.2 79 [v45,v47,r23.1]).bind fun r49=>
 (qaF r49.1 0).bind fun v50=>
 (qaF r49.1 1).bind fun v51=>
 (qaR (some 3) (qaH none r49.2 (.obj true [(.bool false),(.lst none true .full []),(.lst none true .full [])])).2 (.ptr (qaH none r49.2 .resv).1 0) v50).bind fun m52=>
 (qat (some 3) m52 (.ptr (qaH none r49.2 .resv).1 0)).bind fun v53=>
 (qaR (some 3) m52 (.ptr (qaH none r2.2 .resv).1 0) v53).bind fun m54=>
 (qat (some 3) m54 (.ptr (qaH none r2.2 .resv).1 0)).bind fun v55=>
 some (v55,m54))) (
 (qaN (AP cfg) none r26.2 79 [v25,r26.1,r23.1]).bind fun r56=>
 (qaF r56.1 0).bind fun v57=>
 (qaF r56.1 1).bind fun v58=>
 (qaR (some 3) (qaH none r56.2 (.obj true [(.bool false),(.lst none true .full []),(.lst none true .full [])])).2 (.ptr (qaH none r56.2 .resv).1 0) v57).bind fun m59=>
 (qat (some 3) m59 (.ptr (qaH none r56.2 .resv).1 0)).bind fun v60=>
 (qaR (some 3) m59 (.ptr (qaH none r2.2 .resv).1 0) v60).bind fun m61=>
 (qat (some 3) m61 (.ptr (qaH none r2.2 .resv).1 0)).bind fun v62=>
 some (v62,m61)):=
(qbx cfg 22 [a0,a1] m (fn:=f22) (c:=qaq f22) qJc rfl).trans (by kernel_rfl)
theorem qH1 (a0 a1:AV) (m:Mem):AC cfg 116 [a0,a1] m =
 (qaN (AP cfg) none (qaH none m (.obj true [(.bool false),(.lst none true .full []),(.lst none true .full [])])).2 154 [a0]).bind fun r1=>
 (qaF r1.1 0).bind fun v2=>
 (qaF r1.1 1).bind fun v3=>
 (qaN (AP cfg) none r1.2 154 [a1]).bind fun r4=>
 (qaF r4.1 0).bind fun v5=>
 (qaF r4.1 1).bind fun v6=>
 (qaz .bl .neq v3 v6).bind fun v7=>
 (qaN (AP cfg) none r4.2 79 [v7,v2,v5]).bind fun r8=>
 (qaF r8.1 0).bind fun v9=>
 (qaF r8.1 1).bind fun v10=>
 (qaR (some 3) r8.2 (.ptr (qaH none m .resv).1 0) v9).bind fun m11=>
 (qat (some 3) m11 (.ptr (qaH none m .resv).1 0)).bind fun v12=>
 some ((.tup [v12,v10]),m11):=
(qbx cfg 116 [a0,a1] m (fn:=f116) (c:=qaq f116) qGa rfl).trans (by kernel_rfl)
theorem qH2 (a0 a1:AV) (m:Mem):AC cfg 117 [a0,a1] m =
 (qf8 none (some 3) m a0).bind fun r1=>
 (qf8 none (some 3) r1.2 a1).bind fun r2=>
 (qat (some 3) (qaH none r2.2 (.obj true [(.bool false),(.lst none true .full []),(.lst none true .full [])])).2 r1.1).bind fun v3=>
 (qaN (AP cfg) (some (qaH none r2.2 (.obj true [(.bool false),(.lst none true .full []),(.lst none true .full [])])).2.length) (qaH none r2.2 (.obj true [(.bool false),(.lst none true .full []),(.lst none true .full [])])).2 74 [v3]).bind fun r4=>
 (qat (some 3) r4.2 r2.1).bind fun v5=>
 (qaN (AP cfg) (some (qaH none r2.2 (.obj true [(.bool false),(.lst none true .full []),(.lst none true .full [])])).2.length) r4.2 74 [v5]).bind fun r6=>
 (qaR (some 3) r6.2 r1.1 r4.1).bind fun m7=>
 (qaR (some 3) m7 r2.1 r6.1).bind fun m8=>
 (qaB 0 r1.1).bind fun v9=>
 (qat none (qbm m8 1) v9).bind fun v10=>
 (qaB 0 r2.1).bind fun v11=>
 (qat none (qbm m8 1) v11).bind fun v12=>
 (qaz .bl .neq v10 v12).bind fun v13=>
 (qaB 1 r1.1).bind fun v14=>
 (qat none (qbm m8 1) v14).bind fun v15=>
 (qaB 1 r2.1).bind fun v16=>
 (qat none (qbm m8 1) v16).bind fun v17=>
 (qaN (AP cfg) (some m8.length) (qbm m8 1) 75 [v15,v17]).bind fun r18=>
 (qaB 2 r1.1).bind fun v19=>
 (qat none r18.2 v19).bind fun v20=>
 (qaB 2 r2.1).bind fun v21=>
 (qat none r18.2 v21).bind fun v22=>
 (qaN (AP cfg) (some m8.length) r18.2 75 [v20,v22]).bind fun r23=>
 (qaN (AP cfg) (some m8.length) r23.2 79 [v13,r18.1,r23.1]).bind fun r24=>
 (qaF r24.1 0).bind fun v25=>
 (qaF r24.1 1).bind fun v26=>
 (qaR (some 3) (qaH (some m8.length) r24.2 (.obj true [(.bool false),(.lst none true .full []),(.lst none true .full [])])).2 (.ptr (qaH (some m8.length) r24.2 .resv).1 0) v25).bind fun m27=>
 (qat (some 3) m27 (.ptr (qaH (some m8.length) r24.2 .resv).1 0)).bind fun v28=>
 (qaR (some 3) m27 (.ptr (qaH none r2.2 .resv).1 0) v28).bind fun m29=>
 (qat (some 3) m29 (.ptr (qaH none r2.2 .resv).1 0)).bind fun v30=>
 some (v30,m29):=
(qbx cfg 117 [a0,a1] m (fn:=f117) (c:=qaq f117) qGb rfl).trans (by kernel_rfl)
theorem T57 (a0:AV) (m:Mem):AC cfg 57 [a0] m =
 (qf8 none (some 3) m a0).bind fun r1=>
 (qat (some 3) r1.2 r1.1).bind fun v2=>
 (qaN (AP cfg) none r1.2 74 [v2]).bind fun r3=>
 (qaR (some 3) r3.2 r1.1 r3.1).bind fun m4=>
 (qaB 1 r1.1).bind fun v5=>
 (qat none m4 v5).bind fun v6=>
 (qbY false v6).bind fun v7=>
 (qaz .other .eql v7 (.int .i64 0)).bind fun v8=>
 ifA v8 (
 some ((.int .i64 0),m4)) (
 (qaB 0 r1.1).bind fun v9=>
 (qat none m4 v9).bind fun v10=>
 ifA v10 (
 some ((.int .i64 (-1)),m4)) (
 some ((.int .i64 1),m4))):=
(qbx cfg 57 [a0] m (fn:=f57) (c:=qaq f57) qJl rfl).trans (by kernel_rfl)
theorem qIc (a0 a1:AV) (m:Mem):AC cfg 134 [a0,a1] m =
 (qf8 none (some 3) m a0).bind fun r1=>
 (qf8 none (some 3) r1.2 a1).bind fun r2=>
 (qat (some 3) (qaH none r2.2 (.obj true [(.bool false),(.lst none true .full []),(.lst none true .full [])])).2 r1.1).bind fun v3=>
 (qat (some 3) (qaH none r2.2 (.obj true [(.bool false),(.lst none true .full []),(.lst none true .full [])])).2 r2.1).bind fun v4=>
 (qaN (AP cfg) (some (qaH none r2.2 (.obj true [(.bool false),(.lst none true .full []),(.lst none true .full [])])).2.length) (qaH none r2.2 (.obj true [(.bool false),(.lst none true .full []),(.lst none true .full [])])).2 169 [v4]).bind fun r5=>
 (qaN (AP cfg) (some (qaH none r2.2 (.obj true [(.bool false),(.lst none true .full []),(.lst none true .full [])])).2.length) r5.2 22 [v3,r5.1]).bind fun r6=>
 (qaR (some 3) r6.2 (.ptr (qaH none r2.2 .resv).1 0) r6.1).bind fun m7=>
 (qat (some 3) m7 (.ptr (qaH none r2.2 .resv).1 0)).bind fun v8=>
 some (v8,m7):=
(qbx cfg 134 [a0,a1] m (fn:=f134) (c:=qaq f134) qGo rfl).trans (by kernel_rfl)
theorem T74 (a0:AV) (m:Mem):AC cfg 74 [a0] m =
 (qf8 none (some 3) m a0).bind fun r1=>
 (qaB 0 r1.1).bind fun v2=>
 (qat none (qaH none r1.2 (.obj true [(.bool false),(.lst none true .full []),(.lst none true .full [])])).2 v2).bind fun v3=>
 (qaB 1 r1.1).bind fun v4=>
 (qat none (qaH none r1.2 (.obj true [(.bool false),(.lst none true .full []),(.lst none true .full [])])).2 v4).bind fun v5=>
 (qaB 2 r1.1).bind fun v6=>
 (qat none (qaH none r1.2 (.obj true [(.bool false),(.lst none true .full []),(.lst none true .full [])])).2 v6).bind fun v7=>
 (qaN (AP cfg) none (qaH none r1.2 (.obj true [(.bool false),(.lst none true .full []),(.lst none true .full [])])).2 79 [v3,v5,v7]).bind fun r8=>
 (qaF r8.1 0).bind fun v9=>
 (qaF r8.1 1).bind fun v10=>
 (qaR (some 3) (qaH none r8.2 (.obj true [(.bool false),(.lst none true .full []),(.lst none true .full [])])).2 (.ptr (qaH none r8.2 .resv).1 0) v9).bind fun m11=>
 (qaz .other .neq v10 (.int .i64 0)).bind fun v12=>
 ifA v12 (
 (qaN (AP cfg) none m11 20 []).bind fun r13=>
 (qaR (some 3) r13.2 (.ptr (qaH none r1.2 .resv).1 0) r13.1).bind fun m14=>
 (qat (some 3) m14 (.ptr (qaH none r1.2 .resv).1 0)).bind fun v15=>
 some (v15,m14)) (
 (qat (some 3) m11 (.ptr (qaH none r8.2 .resv).1 0)).bind fun v16=>
 (qaR (some 3) m11 (.ptr (qaH none r1.2 .resv).1 0) v16).bind fun m17=>
 (qat (some 3) m17 (.ptr (qaH none r1.2 .resv).1 0)).bind fun v18=>
 some (v18,m17)):=
(qbx cfg 74 [a0] m (fn:=f74) (c:=qaq f74) qJz rfl).trans (by kernel_rfl)
theorem T79 (a0 a1 a2:AV) (m:Mem):AC cfg 79 [a0,a1,a2] m =
 (qaN (AP cfg) none (qaH none m (.obj true [(.bool false),(.lst none true .full []),(.lst none true .full [])])).2 136 [a2]).bind fun r1=>
 (qaz .other .eql r1.1 (.int .i64 0)).bind fun v2=>
 ifA v2 (
 (qdz (.agg [(.bool false),(.lst none true .full []),(.lst none true .full [])]) []).bind fun v3=>
 (qaR (some 3) r1.2 (.ptr (qaH none m .resv).1 0) v3).bind fun m4=>
 (qat (some 3) m4 (.ptr (qaH none m .resv).1 0)).bind fun v5=>
 some ((.tup [v5,(.int .i64 31)]),m4)) (
 (qaN (AP cfg) none r1.2 119 [a1,a2]).bind fun r6=>
 (qaN (AP cfg) none r6.2 137 [a1,r6.1]).bind fun r7=>
 (qaF r7.1 0).bind fun v8=>
 (qaF r7.1 1).bind fun v9=>
 (qaF r7.1 2).bind fun v10=>
 (qaN (AP cfg) none r7.2 137 [a2,r6.1]).bind fun r11=>
 (qaF r11.1 0).bind fun v12=>
 (qaF r11.1 1).bind fun v13=>
 (qaF r11.1 2).bind fun v14=>
 ifA a0 (
 (qbY false v8).bind fun v15=>
 (qaz .other .gtr v15 (.int .i64 0)).bind fun v16=>
 (qdz (.agg [(.bool false),(.lst none true .full []),(.lst none true .full [])]) [(0,none,v16),(1,none,v8),(2,none,v12)]).bind fun v17=>
 (qaR (some 3) r11.2 (.ptr (qaH none m .resv).1 0) v17).bind fun m18=>
 (qat (some 3) m18 (.ptr (qaH none m .resv).1 0)).bind fun v19=>
 some ((.tup [v19,(.int .i64 0)]),m18)) (
 (qdz (.agg [(.bool false),(.lst none true .full []),(.lst none true .full [])]) [(0,none,(.bool false)),(1,none,v8),(2,none,v12)]).bind fun v20=>
 (qaR (some 3) r11.2 (.ptr (qaH none m .resv).1 0) v20).bind fun m21=>
 (qat (some 3) m21 (.ptr (qaH none m .resv).1 0)).bind fun v22=>
 some ((.tup [v22,(.int .i64 0)]),m21))):=
(qbx cfg 79 [a0,a1,a2] m (fn:=f79) (c:=qaq f79) qJE rfl).trans (by kernel_rfl)
theorem qIf (a0:AV) (m:Mem):AC cfg 154 [a0] m =
 (qaz .other .lss a0 (.int .i64 0)).bind fun v1=>
 ifA v1 (
 (qaz .other .add a0 (.int .i64 1)).bind fun v2=>
 (unA .neg v2).bind fun v3=>
 (qbl .u64 v3).bind fun v4=>
 (qaz .other .add v4 (.int .u64 1)).bind fun v5=>
 (qaN (AP cfg) none m 72 [v5]).bind fun r6=>
 some ((.tup [r6.1,(.bool true)]),r6.2)) (
 (qbl .u64 a0).bind fun v7=>
 (qaN (AP cfg) none m 72 [v7]).bind fun r8=>
 some ((.tup [r8.1,(.bool false)]),r8.2)):=
(qbx cfg 154 [a0] m (fn:=f154) (c:=qaq f154) qGw rfl).trans (by kernel_rfl)
theorem qHr (a0:AV) (m:Mem):AC cfg 169 [a0] m =
 (qf8 none (some 3) m a0).bind fun r1=>
 (qat (some 3) (qaH none r1.2 (.obj true [(.bool false),(.lst none true .full []),(.lst none true .full [])])).2 r1.1).bind fun v2=>
 (qaN (AP cfg) none (qaH none r1.2 (.obj true [(.bool false),(.lst none true .full []),(.lst none true .full [])])).2 74 [v2]).bind fun r3=>
 (qaR (some 3) r3.2 r1.1 r3.1).bind fun m4=>
 (qaB 0 r1.1).bind fun v5=>
 (qat none m4 v5).bind fun v6=>
 (unA .not v6).bind fun v7=>
 ifA v7 (
 (qaB 1 r1.1).bind fun v8=>
 (qat none m4 v8).bind fun v9=>
 (qbY false v9).bind fun v10=>
 (qaz .other .gtr v10 (.int .i64 0)).bind fun v11=>
 (qaB 0 r1.1).bind fun v12=>
 (qaR none m4 v12 v11).bind fun m13=>
 (qat (some 3) m13 r1.1).bind fun v14=>
 (qaR (some 3) m13 (.ptr (qaH none r1.2 .resv).1 0) v14).bind fun m15=>
 (qat (some 3) m15 (.ptr (qaH none r1.2 .resv).1 0)).bind fun v16=>
 some (v16,m15)) (
 (qaB 0 r1.1).bind fun v17=>
 (qaR none m4 v17 (.bool false)).bind fun m18=>
 (qat (some 3) m18 r1.1).bind fun v19=>
 (qaR (some 3) m18 (.ptr (qaH none r1.2 .resv).1 0) v19).bind fun m20=>
 (qat (some 3) m20 (.ptr (qaH none r1.2 .resv).1 0)).bind fun v21=>
 some (v21,m20)):=
(qbx cfg 169 [a0] m (fn:=f169) (c:=qaq f169) qGG rfl).trans (by kernel_rfl)
end Go.Ab

/- Right of ratio; the reference's fractions, in values. -/
set_option maxRecDepth 100000
namespace Go.Ab
open Go.Proofs.Tryz
theorem qAj:AP cfg 72 [.int .u64 1]=some (qdy 1).av:=V72 (n:=1) (by omega)
def qfV:RV:=⟨false,qhR,qdy 1⟩
def qmO:RV:=⟨false,qdy 1,qdy 1⟩
theorem qiw (n:Nat):(qdy n).z=true->(qdy n).ds=[]:=by
 intro h
 unfold qdy qsR at h ⊢
 split at h
 ·split<;>first | rfl | (rename_i h1 h2;exact absurd h1 h2)
 ·cases h
theorem qjZ:Can qfV 0:=⟨rfl,qcP.symm,qdg 1,fun _=>rfl,qiw 1⟩
theorem qq5:Can qmO 1:=⟨rfl,qdg 1,qdg 1,qiw 1,qiw 1⟩
theorem qiC:qfV.fr=qfV:=by simp only[qfV,RV.fr,qc2];rfl
theorem qmu:qmO.fr=qmO:=by simp only[qmO,RV.fr,qc2]
theorem V20:AP cfg 20 []=some qfV.av:=by
 refine (qbI _ _ (qdQ qfV) (qee _) (m:=[cR qfV]) ?_).trans (by rw[qiC])
 rw[T20]
 simp only[Nat.reduceAdd,oBs,qaf,qb0,qdl,qdd,qcp,qco,qfl,qfm,qfn,qfq,qfr,qb7,qb8,qb6,qbT,qbV,qcq,qca,qcb,qb9,qb1,qb3,qcr,qce,qcf,qcd,qcc,qcs,qct,qci,qcj,qch,qcg,qcu,qcv,qcm,qcn,qcl,qck,qcw,qcx,qfc,qfd,ex2,qfj,qfk,qdr,qb5,qb2,qds,qbX,qb4,qad,qae,qab,qaw,qas,qav,qar,qau,qaD,qaZ,pcN,pcI,qfo,qdh,pcR,qfp,pc0,qAj]
 rfl
theorem V23:AP cfg 23 []=some qmO.av:=by
 refine (qbI _ _ (qdQ qmO) (qee _) (m:=[cR qmO]) ?_).trans (by rw[qmu])
 rw[T23]
 simp only[Nat.reduceAdd,oBs,qaf,qb0,qdl,qdd,qcp,qco,qfl,qfm,qfn,qfq,qfr,qb7,qb8,qb6,qbT,qbV,qcq,qca,qcb,qb9,qb1,qb3,qcr,qce,qcf,qcd,qcc,qcs,qct,qci,qcj,qch,qcg,qcu,qcv,qcm,qcn,qcl,qck,qcw,qcx,qfc,qfd,ex2,qfj,qfk,qdr,qb5,qb2,qds,qbX,qb4,qad,qae,qab,qaw,qas,qav,qar,qau,qaD,qaZ,pcN,pcI,qfo,qdh,pcR,qfp,pc0,qAj]
 rfl
theorem qHF (k:Nat):qaz .other .eql (.int .i64 k) (.int .i64 0)=some (.bool (decide (k=0))):=qfb
theorem V79 {x y:NV} (neg:Bool) (hx:NOk x) (hy:NOk y) (lx:(qba x.v).length < 2 ^ 38) (ly:(qba y.v).length < 2 ^ 38):(y.v=0/\AP cfg 79 [.bool neg,x.av,y.av]=some (.tup [zR.av,.int .i64 31])) \/
  (y.v≠0/\∃ r:RV,AP cfg 79 [.bool neg,x.av,y.av]=some (.tup [r.av,.int .i64 0])/\Can r (qOf neg x.v y.v)/\r.fr=r):=by
 obtain ⟨kb,e0,e0'⟩:=qID hy.fr
 have e1:=qIz hx.fr hy.fr lx ly
 have v1:x.fr.v=x.v:=rfl
 have v2:y.fr.v=y.v:=rfl
 rw[v1,v2] at e1
 rw[v2] at e0'
 have lg:(qba (Nat.gcd x.v y.v)).length < 2 ^ 38:=by
  by_cases h0:x.v=0
  ·rw[h0,Nat.gcd_zero_left];exact ly
  ·exact qa2 (qcF (Nat.gcd_le_left _ (qbG h0))) lx
 have hg:NOk (qdy (Nat.gcd x.v y.v)):=qbR (by omega)
 have e3:=qHu hx.fr hg (by rw[v1];omega) (by rw[qbU];omega)
 have e4:=qHu hy.fr hg (by rw[v2];omega) (by rw[qbU];omega)
 by_cases h0:y.v=0
 ·refine .inl ⟨h0,qbI _ _ (qhw zR (qdv _ _)) rfl (m:=[cR zR]) ?_⟩
  rw[T79]
  simp only[Nat.reduceAdd,oBs,qaf,qb0,qdl,qdd,qcp,qco,qfl,qfm,qfn,qfq,qfr,qb7,qb8,qb6,qbT,qbV,qcq,qca,qcb,qb9,qb1,qb3,qcr,qce,qcf,qcd,qcc,qcs,qct,qci,qcj,qch,qcg,qcu,qcv,qcm,qcn,qcl,qck,qcw,qcx,qfc,qfd,ex2,qfj,qfk,qdr,qb5,qb2,qds,qbX,qb4,qad,qae,qab,qaw,qas,qav,qar,qau,qaD,qaZ,pcN,pcI,qfo,qdh,pcR,qfp,pc0,e0,qHF,qap]
  rw[qal (e0'.2 h0)]
 ·refine .inr ⟨h0,?_⟩
  have hgp:Nat.gcd x.v y.v≠0:=by
   have:=Nat.gcd_pos_of_pos_right x.v (qbG h0)
   omega
  unfold qC2 at e3 e4
  rw[qbU,qah hgp,v1] at e3
  rw[qbU,qah hgp,v2] at e4
  refine ⟨⟨neg && decide (x.v / Nat.gcd x.v y.v > 0),qdy (x.v / Nat.gcd x.v y.v),qdy (y.v / Nat.gcd x.v y.v)⟩,?_,⟨(qwo h0).symm,?_,?_,qiw _,qiw _⟩,?_⟩
  ·refine (qbI _ _ (qhw ⟨neg && decide (x.v / Nat.gcd x.v y.v > 0),qdy (x.v / Nat.gcd x.v y.v),qdy (y.v / Nat.gcd x.v y.v)⟩ (qdv .i64 0)) rfl (m:=[cR ⟨neg && decide (x.v / Nat.gcd x.v y.v > 0),qdy (x.v / Nat.gcd x.v y.v),qdy (y.v / Nat.gcd x.v y.v)⟩]) ?_).trans (by simp only[RV.fr,qc2])
   rw[T79]
   simp only[Nat.reduceAdd,oBs,qaf,qb0,qdl,qdd,qcp,qco,qfl,qfm,qfn,qfq,qfr,qb7,qb8,qb6,qbT,qbV,qcq,qca,qcb,qb9,qb1,qb3,qcr,qce,qcf,qcd,qcc,qcs,qct,qci,qcj,qch,qcg,qcu,qcv,qcm,qcn,qcl,qck,qcw,qcx,qfc,qfd,ex2,qfj,qfk,qdr,qb5,qb2,qds,qbX,qb4,qad,qae,qab,qaw,qas,qav,qar,qau,qaD,qaZ,pcN,pcI,qfo,qdh,pcR,qfp,pc0,e0,qHF,qap]
   rw[qah (fun h=>h0 (e0'.1 h))]
   simp only[Nat.reduceAdd,oBs,qaf,qb0,qdl,qdd,qcp,qco,qfl,qfm,qfn,qfq,qfr,qb7,qb8,qb6,qbT,qbV,qcq,qca,qcb,qb9,qb1,qb3,qcr,qce,qcf,qcd,qcc,qcs,qct,qci,qcj,qch,qcg,qcu,qcv,qcm,qcn,qcl,qck,qcw,qcx,qfc,qfd,ex2,qfj,qfk,qdr,qb5,qb2,qds,qbX,qb4,qad,qae,qab,qaw,qas,qav,qar,qau,qaD,qaZ,pcN,pcI,qfo,qdh,pcR,qfp,pc0,e1,qc2,e3,e4,qdM,qio]
   have hlen:decide ((qba (x.v / Nat.gcd x.v y.v)).length > 0)=decide (x.v / Nat.gcd x.v y.v > 0):=qbP.2 (by
    constructor
    ·intro h
     apply qbG
     intro e
     rw[e,qcP] at h
     simp at h
    ·intro h
     have:(qba (x.v / Nat.gcd x.v y.v)).length≠0:=fun e=>by have:=qc5.1 e;omega
     omega)
   cases neg with
   | false=>rfl
   | true=>
    rw[qfx,hlen]
    simp only[Nat.reduceAdd,oBs,qaf,qb0,qdl,qdd,qcp,qco,qfl,qfm,qfn,qfq,qfr,qb7,qb8,qb6,qbT,qbV,qcq,qca,qcb,qb9,qb1,qb3,qcr,qce,qcf,qcd,qcc,qcs,qct,qci,qcj,qch,qcg,qcu,qcv,qcm,qcn,qcl,qck,qcw,qcx,qfc,qfd,ex2,qfj,qfk,qdr,qb5,qb2,qds,qbX,qb4,qad,qae,qab,qaw,qas,qav,qar,qau,qaD,qaZ,pcN,pcI,qfo,qdh,pcR,qfp,pc0,qdx]
  ·rw[qpF h0];exact qdg _
  ·rw[qpG h0];exact qdg _
  ·simp only[RV.fr,qc2]
theorem V74 {r:RV} {k:Nat} (h:ROk k r) (hk:k < 2 ^ 38):∃ s:RV,AP cfg 74 [r.av]=some s.av/\Can s r.q/\s.fr=s:=by
 have ln:=qa0 h.num.v_len h.ln
 have ld:=qa0 h.den.v_len h.ld
 rcases V79 r.neg h.num.fr h.den.fr (by show (qba r.num.v).length < _;omega) (by show (qba r.den.v).length < _;omega) with ⟨h0,h1⟩ | ⟨h0,s,h1,h2,h3⟩
 ·refine ⟨qfV,(qbI _ _ (qdQ qfV) (qee _) (m:=[cR r,cR qfV,cR zR]) ?_).trans (by rw[qiC]),?_,qiC⟩
  ·rw[T74]
   simp only[Nat.reduceAdd,oBs,qaf,qb0,qdl,qdd,qcp,qco,qfl,qfm,qfn,qfq,qfr,qb7,qb8,qb6,qbT,qbV,qcq,qca,qcb,qb9,qb1,qb3,qcr,qce,qcf,qcd,qcc,qcs,qct,qci,qcj,qch,qcg,qcu,qcv,qcm,qcn,qcl,qck,qcw,qcx,qfc,qfd,ex2,qfj,qfk,qdr,qb5,qb2,qds,qbX,qb4,qad,qae,qab,qaw,qas,qav,qar,qau,qaD,qaZ,pcN,pcI,qfo,qdh,pcR,qfp,pc0,h1,qcW,qap]
   rw[qal (by decide)]
   simp only[Nat.reduceAdd,oBs,qaf,qb0,qdl,qdd,qcp,qco,qfl,qfm,qfn,qfq,qfr,qb7,qb8,qb6,qbT,qbV,qcq,qca,qcb,qb9,qb1,qb3,qcr,qce,qcf,qcd,qcc,qcs,qct,qci,qcj,qch,qcg,qcu,qcv,qcm,qcn,qcl,qck,qcw,qcx,qfc,qfd,ex2,qfj,qfk,qdr,qb5,qb2,qds,qbX,qb4,qad,qae,qab,qaw,qas,qav,qar,qau,qaD,qaZ,pcN,pcI,qfo,qdh,pcR,qfp,pc0,V20]
  ·have:r.den.v=0:=h0
   rw[RV.q,this,qit];exact qjZ
 ·refine ⟨s,(qbI _ _ (qdQ s) (qee _) (m:=[cR r,cR s,cR s]) ?_).trans (by rw[h3]),h2,h3⟩
  rw[T74]
  simp only[Nat.reduceAdd,oBs,qaf,qb0,qdl,qdd,qcp,qco,qfl,qfm,qfn,qfq,qfr,qb7,qb8,qb6,qbT,qbV,qcq,qca,qcb,qb9,qb1,qb3,qcr,qce,qcf,qcd,qcc,qcs,qct,qci,qcj,qch,qcg,qcu,qcv,qcm,qcn,qcl,qck,qcw,qcx,qfc,qfd,ex2,qfj,qfk,qdr,qb5,qb2,qds,qbX,qb4,qad,qae,qab,qaw,qas,qav,qar,qau,qaD,qaZ,pcN,pcI,qfo,qdh,pcR,qfp,pc0,h1,qcW,qap]
  rw[qah (by decide)]
end Go.Ab

/- The reference's sums, products and comparisons of fractions, in values. -/
set_option maxRecDepth 100000
namespace Go.Ab
open Go.Proofs.Tryz
def sgQ (q:Rat):Int:=if q=0 then 0 else if q.num < 0 then -1 else 1
theorem qzL (q:Rat):sgQ q=0↔q=0:=by
 unfold sgQ
 constructor
 ·intro h
  split at h
  ·assumption
  ·split at h<;>omega
 ·intro h;rw[qal h]
theorem Can.len0 {r:RV} {q:Rat} (h:Can r q):r.num.ds.length=0↔q=0:=by
 rw[h.num,qc5,Int.natAbs_eq_zero,Rat.num_eq_zero]
theorem V57 {r:RV} {k:Nat} (h:ROk k r) (hk:k < 2 ^ 38):AP cfg 57 [r.av]=some (.int .i64 (sgQ r.q)):=by
 obtain ⟨s,e1,e2,e3⟩:=V74 h.fr hk
 rw[RV.fr_q] at e2
 refine qbI _ _ (qcR _ _) rfl (m:=[cR s]) ?_
 rw[T57]
 simp only[Nat.reduceAdd,oBs,qaf,qb0,qdl,qdd,qcp,qco,qfl,qfm,qfn,qfq,qfr,qb7,qb8,qb6,qbT,qbV,qcq,qca,qcb,qb9,qb1,qb3,qcr,qce,qcf,qcd,qcc,qcs,qct,qci,qcj,qch,qcg,qcu,qcv,qcm,qcn,qcl,qck,qcw,qcx,qfc,qfd,ex2,qfj,qfk,qdr,qb5,qb2,qds,qbX,qb4,qad,qae,qab,qaw,qas,qav,qar,qau,qaD,qaZ,pcN,pcI,qfo,qdh,pcR,qfp,pc0,e1,qdj,qfb,qap]
 unfold sgQ
 by_cases h0:r.q=0
 ·rw[qal (e2.len0.2 h0),qal h0]
 ·rw[qah (fun hh=>h0 (e2.len0.1 hh)),qah h0,e2.neg,qap]
  split<;>rfl
theorem qIE {r:RV} {k:Nat} (h:ROk k r) (hk:k < 2 ^ 38):∃ s:RV,AP cfg 169 [r.av]=some s.av/\Can s (-r.q)/\s.fr=s:=by
 obtain ⟨s,e1,e2,e3⟩:=V74 h.fr hk
 rw[RV.fr_q] at e2
 have hlen:∀ b:Bool,decide (s.num.ds.length > 0)=decide (r.q≠0):=by
  intro b
  refine qbP.2 ?_
  have:=e2.len0
  constructor
  ·intro h1 h2
   have:=this.2 h2
   omega
  ·intro h1
   have:s.num.ds.length≠0:=fun e=>h1 (this.1 e)
   omega
 have hs1:s.num.fr=s.num:=qbi RV.num e3
 have hs2:s.den.fr=s.den:=qbi RV.den e3
 have hc:∀ b:Bool,b=decide ((-r.q).num < 0)->Can ⟨b,s.num,s.den⟩ (-r.q):=by
  intro b hb
  refine ⟨hb,?_,?_,e2.numz,e2.denz⟩
  ·rw[Rat.neg_num,Int.natAbs_neg];exact e2.num
  ·rw[Rat.neg_den];exact e2.den
 cases hn:s.neg with
 | true=>
  have hq:r.q.num < 0:=by have:=e2.neg;rw[hn] at this;exact qi0 this.symm
  refine ⟨⟨false,s.num,s.den⟩,(qbI _ _ (qdQ ⟨false,s.num,s.den⟩) (qee _) (m:=[cR ⟨false,s.num,s.den⟩,cR ⟨false,s.num,s.den⟩]) ?_).trans (by simp only[RV.fr,hs1,hs2]),hc false ?_,by simp only[RV.fr,hs1,hs2]⟩
  ·rw[qHr]
   simp only[Nat.reduceAdd,oBs,qaf,qb0,qdl,qdd,qcp,qco,qfl,qfm,qfn,qfq,qfr,qb7,qb8,qb6,qbT,qbV,qcq,qca,qcb,qb9,qb1,qb3,qcr,qce,qcf,qcd,qcc,qcs,qct,qci,qcj,qch,qcg,qcu,qcv,qcm,qcn,qcl,qck,qcw,qcx,qfc,qfd,ex2,qfj,qfk,qdr,qb5,qb2,qds,qbX,qb4,qad,qae,qab,qaw,qas,qav,qar,qau,qaD,qaZ,pcN,pcI,qfo,qdh,pcR,qfp,pc0,e1,hn,qcC,qe9]
  ·rw[Rat.neg_num];exact (qa7 (by omega)).symm
 | false=>
  have hq:¬ r.q.num < 0:=by have:=e2.neg;rw[hn] at this;exact of_decide_eq_false this.symm
  refine ⟨⟨decide (r.q≠0),s.num,s.den⟩,(qbI _ _ (qdQ ⟨decide (r.q≠0),s.num,s.den⟩) (qee _) (m:=[cR ⟨decide (r.q≠0),s.num,s.den⟩,cR ⟨decide (r.q≠0),s.num,s.den⟩]) ?_).trans (by simp only[RV.fr,hs1,hs2]),hc _ ?_,by simp only[RV.fr,hs1,hs2]⟩
  ·rw[qHr]
   simp only[Nat.reduceAdd,oBs,qaf,qb0,qdl,qdd,qcp,qco,qfl,qfm,qfn,qfq,qfr,qb7,qb8,qb6,qbT,qbV,qcq,qca,qcb,qb9,qb1,qb3,qcr,qce,qcf,qcd,qcc,qcs,qct,qci,qcj,qch,qcg,qcu,qcv,qcm,qcn,qcl,qck,qcw,qcx,qfc,qfd,ex2,qfj,qfk,qdr,qb5,qb2,qds,qbX,qb4,qad,qae,qab,qaw,qas,qav,qar,qau,qaD,qaZ,pcN,pcI,qfo,qdh,pcR,qfp,pc0,e1,hn,qcS,qfx,qdj,qio,hlen true]
  ·rw[Rat.neg_num]
   refine qbP.2 ?_
   have h0:r.q=0↔r.q.num=0:=Rat.num_eq_zero.symm
   constructor
   ·intro h1
    have:r.q.num≠0:=fun e=>h1 (h0.2 e)
    omega
   ·intro h1 h2
    have:=h0.1 h2
    omega
theorem V22 {a b:RV} {k:Nat} (ha:ROk k a) (hb:ROk k b) (hk1:1<=k) (hk:k < 2 ^ 36):∃ s:RV,AP cfg 22 [a.av,b.av]=some s.av/\Can s (a.q+b.q)/\s.fr=s:=by
 obtain ⟨s,e1,e2,e3⟩:=V74 ha.fr (by omega)
 obtain ⟨t,f1,f2,f3⟩:=V74 hb.fr (by omega)
 rw[RV.fr_q] at e2 f2
 have os:=e2.ok (ha.bd hk1) (by omega)
 have ot:=f2.ok (hb.bd hk1) (by omega)
 have hs1:s.num.fr=s.num:=qbi RV.num e3
 have hs2:s.den.fr=s.den:=qbi RV.den e3
 have ht1:t.num.fr=t.num:=qbi RV.num f3
 have ht2:t.den.fr=t.den:=qbi RV.den f3
 have lx:=qgn (qa0 os.num.v_len os.ln) (qa0 ot.den.v_len ot.ld)
 have ly:=qgn (qa0 ot.num.v_len ot.ln) (qa0 os.den.v_len os.ld)
 have ld:=qgn (qa0 os.den.v_len os.ld) (qa0 ot.den.v_len ot.ld)
 have lxy:=qvY lx ly
 have g1:=V75 os.num ot.den
 have g2:=V75 ot.num os.den
 have g3:=V75 os.den ot.den
 have ox:NOk (qdy (s.num.v * t.den.v)):=qbR (by omega)
 have oy:NOk (qdy (t.num.v * s.den.v)):=qbR (by omega)
 have od:NOk (qdy (s.den.v * t.den.v)):=qbR (by omega)
 have g4:=V76 ox oy (qc2 _) (qc2 _)
 have g5:=V77 ox oy
 have g6:=V78 ox oy (qc2 _) (qc2 _)
 have g7:=V78 oy ox (qc2 _) (qc2 _)
 rw[qbU,qbU] at g4 g5
 unfold qD7 at g6 g7
 rw[qbU,qbU] at g6 g7
 have hd0:s.den.v * t.den.v≠0:=Nat.mul_ne_zero e2.den0 f2.den0
 have hsum:a.q+b.q=mkRat (sgn s.neg (s.num.v * t.den.v)+sgn t.neg (t.num.v * s.den.v)) (s.den.v * t.den.v):=by
  rw[<- e2.q,<- f2.q]
  exact qmA e2.den0 f2.den0
 have fin:∀ (neg:Bool) (n:Nat),(qba n).length < 2 ^ 38->mkRat (sgn s.neg (s.num.v * t.den.v)+sgn t.neg (t.num.v * s.den.v)) (s.den.v * t.den.v)=qOf neg n (s.den.v * t.den.v)->∃ r:RV,AP cfg 79 [.bool neg,(qdy n).av,(qdy (s.den.v * t.den.v)).av]=some (.tup [r.av,.int .i64 0])/\Can r (a.q+b.q)/\r.fr=r:=by
  intro neg n hn he
  rcases V79 neg (qbR (n:=n) (by omega)) od (by rw[qbU];exact hn) (by rw[qbU];omega) with ⟨h0,_⟩ | ⟨_,r,h1,h2,h3⟩
  ·rw[qbU] at h0;exact absurd h0 hd0
  ·rw[qbU,qbU,<- he,<- hsum] at h2
   exact ⟨r,h1,h2,h3⟩
 by_cases hn:s.neg=t.neg
 ·obtain ⟨r,h1,h2,h3⟩:=fin s.neg (s.num.v * t.den.v+t.num.v * s.den.v) (by omega) (by rw[<- hn,qrL];rfl)
  refine ⟨r,(qbI _ _ (qdQ r) (qee _) (m:=[cR s,cR t,cR r,cR r]) ?_).trans (by rw[h3]),h2,h3⟩
  rw[T22]
  simp only[Nat.reduceAdd,oBs,qaf,qb0,qdl,qdd,qcp,qco,qfl,qfm,qfn,qfq,qfr,qb7,qb8,qb6,qbT,qbV,qcq,qca,qcb,qb9,qb1,qb3,qcr,qce,qcf,qcd,qcc,qcs,qct,qci,qcj,qch,qcg,qcu,qcv,qcm,qcn,qcl,qck,qcw,qcx,qfc,qfd,ex2,qfj,qfk,qdr,qb5,qb2,qds,qbX,qb4,qad,qae,qab,qaw,qas,qav,qar,qau,qaD,qaZ,pcN,pcI,qfo,qdh,pcR,qfp,pc0,e1,f1,hs1,hs2,ht1,ht2,g1,g2,g3,qc2,g4,hn,bne_self_eq_false,qe9]
  rw[hn] at h1
  simp only[Nat.reduceAdd,oBs,qaf,qb0,qdl,qdd,qcp,qco,qfl,qfm,qfn,qfq,qfr,qb7,qb8,qb6,qbT,qbV,qcq,qca,qcb,qb9,qb1,qb3,qcr,qce,qcf,qcd,qcc,qcs,qct,qci,qcj,qch,qcg,qcu,qcv,qcm,qcn,qcl,qck,qcw,qcx,qfc,qfd,ex2,qfj,qfk,qdr,qb5,qb2,qds,qbX,qb4,qad,qae,qab,qaw,qas,qav,qar,qau,qaD,qaZ,pcN,pcI,qfo,qdh,pcR,qfp,pc0,h1]
 ·have hne:(s.neg != t.neg)=true:=by simpa using hn
  by_cases hlt:s.num.v * t.den.v < t.num.v * s.den.v
  ·obtain ⟨r,h1,h2,h3⟩:=fin t.neg (t.num.v * s.den.v - s.num.v * t.den.v) (qa2 (qcF (Nat.sub_le _ _)) (by omega)) (by rw[qAX hn hlt];rfl)
   refine ⟨r,(qbI _ _ (qdQ r) (qee _) (m:=[cR s,cR t,cR r,cR r]) ?_).trans (by rw[h3]),h2,h3⟩
   have hc:¬ qhu (s.num.v * t.den.v) (t.num.v * s.den.v)≥0:=by unfold qhu;rw[qal hlt];omega
   rw[qah (by omega)] at g7
   rw[T22]
   simp only[Nat.reduceAdd,oBs,qaf,qb0,qdl,qdd,qcp,qco,qfl,qfm,qfn,qfq,qfr,qb7,qb8,qb6,qbT,qbV,qcq,qca,qcb,qb9,qb1,qb3,qcr,qce,qcf,qcd,qcc,qcs,qct,qci,qcj,qch,qcg,qcu,qcv,qcm,qcn,qcl,qck,qcw,qcx,qfc,qfd,ex2,qfj,qfk,qdr,qb5,qb2,qds,qbX,qb4,qad,qae,qab,qaw,qas,qav,qar,qau,qaD,qaZ,pcN,pcI,qfo,qdh,pcR,qfp,pc0,e1,f1,hs1,hs2,ht1,ht2,g1,g2,g3,qc2,g4,hne,qfx,g5,qdD,qap]
   rw[qah hc]
   simp only[Nat.reduceAdd,oBs,qaf,qb0,qdl,qdd,qcp,qco,qfl,qfm,qfn,qfq,qfr,qb7,qb8,qb6,qbT,qbV,qcq,qca,qcb,qb9,qb1,qb3,qcr,qce,qcf,qcd,qcc,qcs,qct,qci,qcj,qch,qcg,qcu,qcv,qcm,qcn,qcl,qck,qcw,qcx,qfc,qfd,ex2,qfj,qfk,qdr,qb5,qb2,qds,qbX,qb4,qad,qae,qab,qaw,qas,qav,qar,qau,qaD,qaZ,pcN,pcI,qfo,qdh,pcR,qfp,pc0,qc2,g7,h1]
  ·obtain ⟨r,h1,h2,h3⟩:=fin s.neg (s.num.v * t.den.v - t.num.v * s.den.v) (qa2 (qcF (Nat.sub_le _ _)) (by omega)) (by rw[qAW hn hlt];rfl)
   refine ⟨r,(qbI _ _ (qdQ r) (qee _) (m:=[cR s,cR t,cR r,cR r]) ?_).trans (by rw[h3]),h2,h3⟩
   have hc:qhu (s.num.v * t.den.v) (t.num.v * s.den.v)≥0:=by unfold qhu;rw[qah hlt];split<;>omega
   rw[qah hlt] at g6
   rw[T22]
   simp only[Nat.reduceAdd,oBs,qaf,qb0,qdl,qdd,qcp,qco,qfl,qfm,qfn,qfq,qfr,qb7,qb8,qb6,qbT,qbV,qcq,qca,qcb,qb9,qb1,qb3,qcr,qce,qcf,qcd,qcc,qcs,qct,qci,qcj,qch,qcg,qcu,qcv,qcm,qcn,qcl,qck,qcw,qcx,qfc,qfd,ex2,qfj,qfk,qdr,qb5,qb2,qds,qbX,qb4,qad,qae,qab,qaw,qas,qav,qar,qau,qaD,qaZ,pcN,pcI,qfo,qdh,pcR,qfp,pc0,e1,f1,hs1,hs2,ht1,ht2,g1,g2,g3,qc2,g4,hne,qfx,g5,qdD,qap]
   rw[qal hc]
   simp only[Nat.reduceAdd,oBs,qaf,qb0,qdl,qdd,qcp,qco,qfl,qfm,qfn,qfq,qfr,qb7,qb8,qb6,qbT,qbV,qcq,qca,qcb,qb9,qb1,qb3,qcr,qce,qcf,qcd,qcc,qcs,qct,qci,qcj,qch,qcg,qcu,qcv,qcm,qcn,qcl,qck,qcw,qcx,qfc,qfd,ex2,qfj,qfk,qdr,qb5,qb2,qds,qbX,qb4,qad,qae,qab,qaw,qas,qav,qar,qau,qaD,qaZ,pcN,pcI,qfo,qdh,pcR,qfp,pc0,qc2,g6,h1]
theorem qIC {a b:RV} {k:Nat} (ha:ROk k a) (hb:ROk k b) (hk1:1<=k) (hk:k < 2 ^ 36):∃ s:RV,AP cfg 134 [a.av,b.av]=some s.av/\Can s (a.q - b.q)/\s.fr=s:=by
 obtain ⟨t,f1,f2,f3⟩:=qIE hb.fr (by omega)
 rw[RV.fr_q] at f2
 have bt:Bd k (-b.q):=by
  have:=hb.bd hk1
  refine ⟨?_,?_⟩
  ·rw[Rat.neg_num,Int.natAbs_neg];exact this.1
  ·rw[Rat.neg_den];exact this.2
 have ot:=f2.ok bt (by omega)
 obtain ⟨s,e1,e2,e3⟩:=V22 ha.fr ot hk1 hk
 rw[f2.q,RV.fr_q,<- Rat.sub_eq_add_neg] at e2
 refine ⟨s,(qbI _ _ (qdQ s) (qee _) (m:=[cR a,cR b,cR s]) ?_).trans (by rw[e3]),e2,e3⟩
 rw[qIc]
 simp only[Nat.reduceAdd,oBs,qaf,qb0,qdl,qdd,qcp,qco,qfl,qfm,qfn,qfq,qfr,qb7,qb8,qb6,qbT,qbV,qcq,qca,qcb,qb9,qb1,qb3,qcr,qce,qcf,qcd,qcc,qcs,qct,qci,qcj,qch,qcg,qcu,qcv,qcm,qcn,qcl,qck,qcw,qcx,qfc,qfd,ex2,qfj,qfk,qdr,qb5,qb2,qds,qbX,qb4,qad,qae,qab,qaw,qas,qav,qar,qau,qaD,qaZ,pcN,pcI,qfo,qdh,pcR,qfp,pc0,f1,f3,e1]
theorem V73 {a b:RV} {k:Nat} (ha:ROk k a) (hb:ROk k b) (hk1:1<=k) (hk:k < 2 ^ 36):AP cfg 73 [a.av,b.av]=some (.int .i64 (sgQ (a.q - b.q))):=by
 obtain ⟨s,e1,e2,e3⟩:=qIC ha.fr hb.fr hk1 hk
 rw[RV.fr_q,RV.fr_q] at e2
 have bs:=qEa (ha.bd hk1) (q:=-b.q) (l:=k) (by
  have:=hb.bd hk1
  refine ⟨?_,?_⟩
  ·rw[Rat.neg_num,Int.natAbs_neg];exact this.1
  ·rw[Rat.neg_den];exact this.2) hk1
 rw[<- Rat.sub_eq_add_neg] at bs
 have os:=e2.ok bs (by omega)
 have e4:=V57 os (by omega)
 rw[e2.q] at e4
 refine qbI _ _ (qcR _ _) rfl (m:=[cR a,cR b]) ?_
 rw[T73]
 simp only[Nat.reduceAdd,oBs,qaf,qb0,qdl,qdd,qcp,qco,qfl,qfm,qfn,qfq,qfr,qb7,qb8,qb6,qbT,qbV,qcq,qca,qcb,qb9,qb1,qb3,qcr,qce,qcf,qcd,qcc,qcs,qct,qci,qcj,qch,qcg,qcu,qcv,qcm,qcn,qcl,qck,qcw,qcx,qfc,qfd,ex2,qfj,qfk,qdr,qb5,qb2,qds,qbX,qb4,qad,qae,qab,qaw,qas,qav,qar,qau,qaD,qaZ,pcN,pcI,qfo,qdh,pcR,qfp,pc0,e1,e3,e4]
theorem V21 {a b:RV} {k:Nat} (ha:ROk k a) (hb:ROk k b) (hk1:1<=k) (hk:k < 2 ^ 36):AP cfg 21 [a.av,b.av]=some (.bool (decide (a.q=b.q))):=by
 have e1:=V73 ha.fr hb.fr hk1 hk
 rw[RV.fr_q,RV.fr_q] at e1
 refine qbI _ _ (qke _) rfl (m:=[cR a,cR b]) ?_
 rw[T21]
 simp only[Nat.reduceAdd,oBs,qaf,qb0,qdl,qdd,qcp,qco,qfl,qfm,qfn,qfq,qfr,qb7,qb8,qb6,qbT,qbV,qcq,qca,qcb,qb9,qb1,qb3,qcr,qce,qcf,qcd,qcc,qcs,qct,qci,qcj,qch,qcg,qcu,qcv,qcm,qcn,qcl,qck,qcw,qcx,qfc,qfd,ex2,qfj,qfk,qdr,qb5,qb2,qds,qbX,qb4,qad,qae,qab,qaw,qas,qav,qar,qau,qaD,qaZ,pcN,pcI,qfo,qdh,pcR,qfp,pc0,e1,qcK]
 congr 3
 refine qbP.2 ?_
 rw[qzL]
 constructor
 ·intro h
  have:=Rat.sub_add_cancel (a:=a.q) (b:=b.q)
  rw[h,Rat.zero_add] at this
  exact this.symm
 ·intro h;rw[h,Rat.sub_self]
end Go.Ab

/- Lowest terms in the reference; sums and products of ratio, in values. -/
set_option maxRecDepth 100000
namespace Go.Ab
open Go.Proofs.Tryz
theorem qIy {a b:RV} {k:Nat} (ha:ROk k a) (hb:ROk k b) (hk1:1<=k) (hk:k < 2 ^ 36):∃ s:RV,AP cfg 117 [a.av,b.av]=some s.av/\Can s (a.q * b.q)/\s.fr=s:=by
 obtain ⟨s,e1,e2,e3⟩:=V74 ha.fr (by omega)
 obtain ⟨t,f1,f2,f3⟩:=V74 hb.fr (by omega)
 rw[RV.fr_q] at e2 f2
 have os:=e2.ok (ha.bd hk1) (by omega)
 have ot:=f2.ok (hb.bd hk1) (by omega)
 have hs1:s.num.fr=s.num:=qbi RV.num e3
 have hs2:s.den.fr=s.den:=qbi RV.den e3
 have ht1:t.num.fr=t.num:=qbi RV.num f3
 have ht2:t.den.fr=t.den:=qbi RV.den f3
 have ln:=qgn (qa0 os.num.v_len os.ln) (qa0 ot.num.v_len ot.ln)
 have ld:=qgn (qa0 os.den.v_len os.ld) (qa0 ot.den.v_len ot.ld)
 have g1:=V75 os.num ot.num
 have g3:=V75 os.den ot.den
 have on:NOk (qdy (s.num.v * t.num.v)):=qbR (by omega)
 have od:NOk (qdy (s.den.v * t.den.v)):=qbR (by omega)
 have hd0:s.den.v * t.den.v≠0:=Nat.mul_ne_zero e2.den0 f2.den0
 have hq:qOf (s.neg != t.neg) (s.num.v * t.num.v) (s.den.v * t.den.v)=a.q * b.q:=by rw[<- qmB,<- e2.q,<- f2.q];rfl
 rcases V79 (s.neg != t.neg) on od (by rw[qbU];omega) (by rw[qbU];omega) with ⟨h0,_⟩ | ⟨_,r,h1,h2,h3⟩
 ·rw[qbU] at h0;exact absurd h0 hd0
 ·rw[qbU,qbU,hq] at h2
  refine ⟨r,(qbI _ _ (qdQ r) (qee _) (m:=[cR s,cR t,cR r,cR r]) ?_).trans (by rw[h3]),h2,h3⟩
  rw[qH2]
  simp only[Nat.reduceAdd,oBs,qaf,qb0,qdl,qdd,qcp,qco,qfl,qfm,qfn,qfq,qfr,qb7,qb8,qb6,qbT,qbV,qcq,qca,qcb,qb9,qb1,qb3,qcr,qce,qcf,qcd,qcc,qcs,qct,qci,qcj,qch,qcg,qcu,qcv,qcm,qcn,qcl,qck,qcw,qcx,qfc,qfd,ex2,qfj,qfk,qdr,qb5,qb2,qds,qbX,qb4,qad,qae,qab,qaw,qas,qav,qar,qau,qaD,qaZ,pcN,pcI,qfo,qdh,pcR,qfp,pc0,e1,f1,hs1,hs2,ht1,ht2,g1,g3,qc2,h1]
theorem V69 {a b:RV} {k:Nat} (ha:ROk k a) (hb:ROk k b) (hk1:1<=k) (hk:k < 2 ^ 36):∃ s:RV,AP cfg 69 [a.av,b.av]=some s.av/\Can s (a.q * b.q)/\s.fr=s:=by
 have g1:=qEp ha.num.fr hb.num.fr
 have g2:=qEp ha.den.fr hb.den.fr
 have v1:a.num.fr.v=a.num.v:=rfl
 have v2:a.den.fr.v=a.den.v:=rfl
 have v3:b.num.fr.v=b.num.v:=rfl
 have v4:b.den.fr.v=b.den.v:=rfl
 rw[v1,v3] at g1
 rw[v2,v4] at g2
 have ln:=qgn (qa0 ha.num.v_len ha.ln) (qa0 hb.num.v_len hb.ln)
 have ld:=qgn (qa0 ha.den.v_len ha.ld) (qa0 hb.den.v_len hb.ld)
 have on:NOk ⟨false,.no,qba (a.num.v * b.num.v)⟩:=qf5 (by omega)
 have od:NOk ⟨false,.no,qba (a.den.v * b.den.v)⟩:=qf5 (by omega)
 have nf:∀ n:Nat,(NV.mk false .no (qba n)).fr=⟨false,.no,qba n⟩:=fun _=>rfl
 have nv:∀ n:Nat,(NV.mk false .no (qba n)).v=n:=fun n=>qbv n
 obtain ⟨r,h1,h2,h3⟩:=qFw (a.neg != b.neg) on od
 rw[nv,nv,<- qmB] at h2
 refine ⟨r,(qbI _ _ (qdQ r) (qee _) (m:=[cR a,cR b,cR r]) ?_).trans (by rw[h3]),h2,h3⟩
 rw[T69]
 simp only[Nat.reduceAdd,oBs,qaf,qb0,qdl,qdd,qcp,qco,qfl,qfm,qfn,qfq,qfr,qb7,qb8,qb6,qbT,qbV,qcq,qca,qcb,qb9,qb1,qb3,qcr,qce,qcf,qcd,qcc,qcs,qct,qci,qcj,qch,qcg,qcu,qcv,qcm,qcn,qcl,qck,qcw,qcx,qfc,qfd,ex2,qfj,qfk,qdr,qb5,qb2,qds,qbX,qb4,qad,qae,qab,qaw,qas,qav,qar,qau,qaD,qaZ,pcN,pcI,qfo,qdh,pcR,qfp,pc0,g1,g2,nf,h1]
theorem qlI {r:RV}:qjt r=0↔r.q=0:=by
 unfold qjt
 by_cases h:r.num.v=0\/r.den.v=0
 ·rw[qal h]
  refine ⟨fun _=>?_,fun _=>rfl⟩
  rcases h with h | h
  ·rw[RV.q,h,qiu]
  ·rw[RV.q,h,qit]
 ·rw[qah h]
  constructor
  ·intro h';split at h'<;>omega
  ·intro h'
   have hd:r.den.v≠0:=fun e=>h (.inr e)
   exact absurd (.inl ((qwn hd).1 h')) h
theorem V71 {a b:RV} {k:Nat} (ha:ROk k a) (hb:ROk k b) (hk1:1<=k) (hk:k < 2 ^ 36):∃ s:RV,AP cfg 71 [a.av,b.av]=some s.av/\Can s (a.q+b.q)/\s.fr=s:=by
 have e1:=qHs ha.fr
 have e2:=qHs hb.fr
 have s1:qjt a.fr=qjt a:=rfl
 have s2:qjt b.fr=qjt b:=rfl
 rw[s1] at e1
 rw[s2] at e2
 have v1:a.num.fr.v=a.num.v:=rfl
 have v2:a.den.fr.v=a.den.v:=rfl
 have v3:b.num.fr.v=b.num.v:=rfl
 have v4:b.den.fr.v=b.den.v:=rfl
 by_cases ha0:qjt a=0
 ·obtain ⟨r,h1,h2,h3⟩:=qFw b.neg hb.num.fr hb.den.fr
  rw[v3,v4] at h2
  refine ⟨r,(qbI _ _ (qdQ r) (qee _) (m:=[cR a,cR b,cR r]) ?_).trans (by rw[h3]),?_,h3⟩
  ·rw[T71]
   simp only[Nat.reduceAdd,oBs,qaf,qb0,qdl,qdd,qcp,qco,qfl,qfm,qfn,qfq,qfr,qb7,qb8,qb6,qbT,qbV,qcq,qca,qcb,qb9,qb1,qb3,qcr,qce,qcf,qcd,qcc,qcs,qct,qci,qcj,qch,qcg,qcu,qcv,qcm,qcn,qcl,qck,qcw,qcx,qfc,qfd,ex2,qfj,qfk,qdr,qb5,qb2,qds,qbX,qb4,qad,qae,qab,qaw,qas,qav,qar,qau,qaD,qaZ,pcN,pcI,qfo,qdh,pcR,qfp,pc0,e1,qcK,qap]
   rw[qal ha0]
   simp only[Nat.reduceAdd,oBs,qaf,qb0,qdl,qdd,qcp,qco,qfl,qfm,qfn,qfq,qfr,qb7,qb8,qb6,qbT,qbV,qcq,qca,qcb,qb9,qb1,qb3,qcr,qce,qcf,qcd,qcc,qcs,qct,qci,qcj,qch,qcg,qcu,qcv,qcm,qcn,qcl,qck,qcw,qcx,qfc,qfd,ex2,qfj,qfk,qdr,qb5,qb2,qds,qbX,qb4,qad,qae,qab,qaw,qas,qav,qar,qau,qaD,qaZ,pcN,pcI,qfo,qdh,pcR,qfp,pc0,h1]
  ·rw[qlI.1 ha0,Rat.zero_add];exact h2
 ·by_cases hb0:qjt b=0
  ·obtain ⟨r,h1,h2,h3⟩:=qFw a.neg ha.num.fr ha.den.fr
   rw[v1,v2] at h2
   refine ⟨r,(qbI _ _ (qdQ r) (qee _) (m:=[cR a,cR b,cR r]) ?_).trans (by rw[h3]),?_,h3⟩
   ·rw[T71]
    simp only[Nat.reduceAdd,oBs,qaf,qb0,qdl,qdd,qcp,qco,qfl,qfm,qfn,qfq,qfr,qb7,qb8,qb6,qbT,qbV,qcq,qca,qcb,qb9,qb1,qb3,qcr,qce,qcf,qcd,qcc,qcs,qct,qci,qcj,qch,qcg,qcu,qcv,qcm,qcn,qcl,qck,qcw,qcx,qfc,qfd,ex2,qfj,qfk,qdr,qb5,qb2,qds,qbX,qb4,qad,qae,qab,qaw,qas,qav,qar,qau,qaD,qaZ,pcN,pcI,qfo,qdh,pcR,qfp,pc0,e1,qcK,qap]
    rw[qah ha0]
    simp only[Nat.reduceAdd,oBs,qaf,qb0,qdl,qdd,qcp,qco,qfl,qfm,qfn,qfq,qfr,qb7,qb8,qb6,qbT,qbV,qcq,qca,qcb,qb9,qb1,qb3,qcr,qce,qcf,qcd,qcc,qcs,qct,qci,qcj,qch,qcg,qcu,qcv,qcm,qcn,qcl,qck,qcw,qcx,qfc,qfd,ex2,qfj,qfk,qdr,qb5,qb2,qds,qbX,qb4,qad,qae,qab,qaw,qas,qav,qar,qau,qaD,qaZ,pcN,pcI,qfo,qdh,pcR,qfp,pc0,e2,qcK,qap]
    rw[qal hb0]
    simp only[Nat.reduceAdd,oBs,qaf,qb0,qdl,qdd,qcp,qco,qfl,qfm,qfn,qfq,qfr,qb7,qb8,qb6,qbT,qbV,qcq,qca,qcb,qb9,qb1,qb3,qcr,qce,qcf,qcd,qcc,qcs,qct,qci,qcj,qch,qcg,qcu,qcv,qcm,qcn,qcl,qck,qcw,qcx,qfc,qfd,ex2,qfj,qfk,qdr,qb5,qb2,qds,qbX,qb4,qad,qae,qab,qaw,qas,qav,qar,qau,qaD,qaZ,pcN,pcI,qfo,qdh,pcR,qfp,pc0,h1]
   ·rw[qlI.1 hb0,Rat.add_zero];exact h2
  ·have da:a.den.v≠0:=fun e=>ha0 (by unfold qjt;rw[qal (.inr e)])
   have db:b.den.v≠0:=fun e=>hb0 (by unfold qjt;rw[qal (.inr e)])
   have g1:=qEp ha.num.fr hb.den.fr
   have g2:=qEp hb.num.fr ha.den.fr
   have g3:=qEp ha.den.fr hb.den.fr
   rw[v1,v4] at g1
   rw[v3,v2] at g2
   rw[v2,v4] at g3
   have lx:=qgn (qa0 ha.num.v_len ha.ln) (qa0 hb.den.v_len hb.ld)
   have ly:=qgn (qa0 hb.num.v_len hb.ln) (qa0 ha.den.v_len ha.ld)
   have ld:=qgn (qa0 ha.den.v_len ha.ld) (qa0 hb.den.v_len hb.ld)
   have lxy:=qvY lx ly
   have ox:NOk ⟨false,.no,qba (a.num.v * b.den.v)⟩:=qf5 (by omega)
   have oy:NOk ⟨false,.no,qba (b.num.v * a.den.v)⟩:=qf5 (by omega)
   have od:NOk ⟨false,.no,qba (a.den.v * b.den.v)⟩:=qf5 (by omega)
   have nf:∀ n:Nat,(NV.mk false .no (qba n)).fr=⟨false,.no,qba n⟩:=fun _=>rfl
   have nv:∀ n:Nat,(NV.mk false .no (qba n)).v=n:=fun n=>qbv n
   have g4:=qIB ox oy
   have g5:=qCB ox oy
   have g6:=qHt ox oy
   have g7:=qHt oy ox
   rw[nv,nv] at g4 g5
   unfold qG7 at g6 g7
   rw[nv,nv] at g6 g7
   have hsum:a.q+b.q=mkRat (sgn a.neg (a.num.v * b.den.v)+sgn b.neg (b.num.v * a.den.v)) (a.den.v * b.den.v):=qmA da db
   have fin:∀ (neg:Bool) (n:Nat),(qba n).length < 2 ^ 38->mkRat (sgn a.neg (a.num.v * b.den.v)+sgn b.neg (b.num.v * a.den.v)) (a.den.v * b.den.v)=qOf neg n (a.den.v * b.den.v)->∃ r:RV,AP cfg 126 [.bool neg,(NV.mk false .no (qba n)).av,(NV.mk false .no (qba (a.den.v * b.den.v))).av]=some r.av/\Can r (a.q+b.q)/\r.fr=r:=by
    intro neg n hn he
    obtain ⟨r,h1,h2,h3⟩:=qFw neg (x:=⟨false,.no,qba n⟩) (qf5 (by omega)) od
    rw[nv,nv,<- he,<- hsum] at h2
    exact ⟨r,h1,h2,h3⟩
   by_cases hn:a.neg=b.neg
   ·obtain ⟨r,h1,h2,h3⟩:=fin a.neg (a.num.v * b.den.v+b.num.v * a.den.v) (by omega) (by rw[<- hn,qrL];rfl)
    refine ⟨r,(qbI _ _ (qdQ r) (qee _) (m:=[cR a,cR b,cR r]) ?_).trans (by rw[h3]),h2,h3⟩
    rw[T71]
    simp only[Nat.reduceAdd,oBs,qaf,qb0,qdl,qdd,qcp,qco,qfl,qfm,qfn,qfq,qfr,qb7,qb8,qb6,qbT,qbV,qcq,qca,qcb,qb9,qb1,qb3,qcr,qce,qcf,qcd,qcc,qcs,qct,qci,qcj,qch,qcg,qcu,qcv,qcm,qcn,qcl,qck,qcw,qcx,qfc,qfd,ex2,qfj,qfk,qdr,qb5,qb2,qds,qbX,qb4,qad,qae,qab,qaw,qas,qav,qar,qau,qaD,qaZ,pcN,pcI,qfo,qdh,pcR,qfp,pc0,e1,qcK,qap]
    rw[qah ha0]
    simp only[Nat.reduceAdd,oBs,qaf,qb0,qdl,qdd,qcp,qco,qfl,qfm,qfn,qfq,qfr,qb7,qb8,qb6,qbT,qbV,qcq,qca,qcb,qb9,qb1,qb3,qcr,qce,qcf,qcd,qcc,qcs,qct,qci,qcj,qch,qcg,qcu,qcv,qcm,qcn,qcl,qck,qcw,qcx,qfc,qfd,ex2,qfj,qfk,qdr,qb5,qb2,qds,qbX,qb4,qad,qae,qab,qaw,qas,qav,qar,qau,qaD,qaZ,pcN,pcI,qfo,qdh,pcR,qfp,pc0,e2,qcK,qap]
    rw[qah hb0]
    rw[hn] at h1
    simp only[Nat.reduceAdd,oBs,qaf,qb0,qdl,qdd,qcp,qco,qfl,qfm,qfn,qfq,qfr,qb7,qb8,qb6,qbT,qbV,qcq,qca,qcb,qb9,qb1,qb3,qcr,qce,qcf,qcd,qcc,qcs,qct,qci,qcj,qch,qcg,qcu,qcv,qcm,qcn,qcl,qck,qcw,qcx,qfc,qfd,ex2,qfj,qfk,qdr,qb5,qb2,qds,qbX,qb4,qad,qae,qab,qaw,qas,qav,qar,qau,qaD,qaZ,pcN,pcI,qfo,qdh,pcR,qfp,pc0,g1,g2,g3,nf,hn,BEq.rfl,qfx,g4,h1]
   ·have hne:(a.neg == b.neg)=false:=by simpa using hn
    by_cases hlt:a.num.v * b.den.v < b.num.v * a.den.v
    ·obtain ⟨r,h1,h2,h3⟩:=fin b.neg (b.num.v * a.den.v - a.num.v * b.den.v) (qa2 (qcF (Nat.sub_le _ _)) (by omega)) (by rw[qAX hn hlt];rfl)
     refine ⟨r,(qbI _ _ (qdQ r) (qee _) (m:=[cR b,cR b,cR r]) ?_).trans (by rw[h3]),h2,h3⟩
     have hc:qhu (a.num.v * b.den.v) (b.num.v * a.den.v) < 0:=by unfold qhu;rw[qal hlt];omega
     rw[qah (by omega)] at g7
     rw[T71]
     simp only[Nat.reduceAdd,oBs,qaf,qb0,qdl,qdd,qcp,qco,qfl,qfm,qfn,qfq,qfr,qb7,qb8,qb6,qbT,qbV,qcq,qca,qcb,qb9,qb1,qb3,qcr,qce,qcf,qcd,qcc,qcs,qct,qci,qcj,qch,qcg,qcu,qcv,qcm,qcn,qcl,qck,qcw,qcx,qfc,qfd,ex2,qfj,qfk,qdr,qb5,qb2,qds,qbX,qb4,qad,qae,qab,qaw,qas,qav,qar,qau,qaD,qaZ,pcN,pcI,qfo,qdh,pcR,qfp,pc0,e1,qcK,qap]
     rw[qah ha0]
     simp only[Nat.reduceAdd,oBs,qaf,qb0,qdl,qdd,qcp,qco,qfl,qfm,qfn,qfq,qfr,qb7,qb8,qb6,qbT,qbV,qcq,qca,qcb,qb9,qb1,qb3,qcr,qce,qcf,qcd,qcc,qcs,qct,qci,qcj,qch,qcg,qcu,qcv,qcm,qcn,qcl,qck,qcw,qcx,qfc,qfd,ex2,qfj,qfk,qdr,qb5,qb2,qds,qbX,qb4,qad,qae,qab,qaw,qas,qav,qar,qau,qaD,qaZ,pcN,pcI,qfo,qdh,pcR,qfp,pc0,e2,qcK,qap]
     rw[qah hb0]
     simp only[Nat.reduceAdd,oBs,qaf,qb0,qdl,qdd,qcp,qco,qfl,qfm,qfn,qfq,qfr,qb7,qb8,qb6,qbT,qbV,qcq,qca,qcb,qb9,qb1,qb3,qcr,qce,qcf,qcd,qcc,qcs,qct,qci,qcj,qch,qcg,qcu,qcv,qcm,qcn,qcl,qck,qcw,qcx,qfc,qfd,ex2,qfj,qfk,qdr,qb5,qb2,qds,qbX,qb4,qad,qae,qab,qaw,qas,qav,qar,qau,qaD,qaZ,pcN,pcI,qfo,qdh,pcR,qfp,pc0,g1,g2,g3,nf,hne,qe9,g5,qaU,qap]
     rw[qal hc]
     simp only[Nat.reduceAdd,oBs,qaf,qb0,qdl,qdd,qcp,qco,qfl,qfm,qfn,qfq,qfr,qb7,qb8,qb6,qbT,qbV,qcq,qca,qcb,qb9,qb1,qb3,qcr,qce,qcf,qcd,qcc,qcs,qct,qci,qcj,qch,qcg,qcu,qcv,qcm,qcn,qcl,qck,qcw,qcx,qfc,qfd,ex2,qfj,qfk,qdr,qb5,qb2,qds,qbX,qb4,qad,qae,qab,qaw,qas,qav,qar,qau,qaD,qaZ,pcN,pcI,qfo,qdh,pcR,qfp,pc0,nf,g7,h1]
    ·obtain ⟨r,h1,h2,h3⟩:=fin a.neg (a.num.v * b.den.v - b.num.v * a.den.v) (qa2 (qcF (Nat.sub_le _ _)) (by omega)) (by rw[qAW hn hlt];rfl)
     refine ⟨r,(qbI _ _ (qdQ r) (qee _) (m:=[cR a,cR b,cR r]) ?_).trans (by rw[h3]),h2,h3⟩
     have hc:¬ qhu (a.num.v * b.den.v) (b.num.v * a.den.v) < 0:=by unfold qhu;rw[qah hlt];split<;>omega
     rw[qah hlt] at g6
     rw[T71]
     simp only[Nat.reduceAdd,oBs,qaf,qb0,qdl,qdd,qcp,qco,qfl,qfm,qfn,qfq,qfr,qb7,qb8,qb6,qbT,qbV,qcq,qca,qcb,qb9,qb1,qb3,qcr,qce,qcf,qcd,qcc,qcs,qct,qci,qcj,qch,qcg,qcu,qcv,qcm,qcn,qcl,qck,qcw,qcx,qfc,qfd,ex2,qfj,qfk,qdr,qb5,qb2,qds,qbX,qb4,qad,qae,qab,qaw,qas,qav,qar,qau,qaD,qaZ,pcN,pcI,qfo,qdh,pcR,qfp,pc0,e1,qcK,qap]
     rw[qah ha0]
     simp only[Nat.reduceAdd,oBs,qaf,qb0,qdl,qdd,qcp,qco,qfl,qfm,qfn,qfq,qfr,qb7,qb8,qb6,qbT,qbV,qcq,qca,qcb,qb9,qb1,qb3,qcr,qce,qcf,qcd,qcc,qcs,qct,qci,qcj,qch,qcg,qcu,qcv,qcm,qcn,qcl,qck,qcw,qcx,qfc,qfd,ex2,qfj,qfk,qdr,qb5,qb2,qds,qbX,qb4,qad,qae,qab,qaw,qas,qav,qar,qau,qaD,qaZ,pcN,pcI,qfo,qdh,pcR,qfp,pc0,e2,qcK,qap]
     rw[qah hb0]
     simp only[Nat.reduceAdd,oBs,qaf,qb0,qdl,qdd,qcp,qco,qfl,qfm,qfn,qfq,qfr,qb7,qb8,qb6,qbT,qbV,qcq,qca,qcb,qb9,qb1,qb3,qcr,qce,qcf,qcd,qcc,qcs,qct,qci,qcj,qch,qcg,qcu,qcv,qcm,qcn,qcl,qck,qcw,qcx,qfc,qfd,ex2,qfj,qfk,qdr,qb5,qb2,qds,qbX,qb4,qad,qae,qab,qaw,qas,qav,qar,qau,qaD,qaZ,pcN,pcI,qfo,qdh,pcR,qfp,pc0,g1,g2,g3,nf,hne,qe9,g5,qaU,qap]
     rw[qah hc]
     simp only[Nat.reduceAdd,oBs,qaf,qb0,qdl,qdd,qcp,qco,qfl,qfm,qfn,qfq,qfr,qb7,qb8,qb6,qbT,qbV,qcq,qca,qcb,qb9,qb1,qb3,qcr,qce,qcf,qcd,qcc,qcs,qct,qci,qcj,qch,qcg,qcu,qcv,qcm,qcn,qcl,qck,qcw,qcx,qfc,qfd,ex2,qfj,qfk,qdr,qb5,qb2,qds,qbX,qb4,qad,qae,qab,qaw,qas,qav,qar,qau,qaD,qaZ,pcN,pcI,qfo,qdh,pcR,qfp,pc0,nf,g6,h1]
end Go.Ab

/- Comparing, and fractions of two whole numbers. -/
set_option maxRecDepth 100000
namespace Go.Ab
open Go.Proofs.Tryz
theorem qAH (m:Mem):qaH none m (.obj true [.bool false,.lst none true .full [],.lst none true .full []])=(m.length,m++[cR zR]):=rfl
theorem qHv {n:Nat} (h:n < 9223372036854775808):AP cfg 154 [.int .i64 (n:Int)]=some (.tup [(qdy n).av,.bool false]):=by
 refine qbI _ _ (qgI (qgJ n) (qme false)) rfl (m:=[]) ?_
 rw[qIf,qrw,oBs,qe9,qD1 (by omega),oBs,pcI,V72 (by omega)];rfl
theorem qIx {a b:Nat} (ha:a < 9223372036854775808) (hb:b < 9223372036854775808) (h0:b≠0):∃ r:RV,AP cfg 116 [.int .i64 (a:Int),.int .i64 (b:Int)]=some (.tup [r.av,.int .i64 0])/\Can r (qOf false a b)/\r.fr=r:=by
 have la:(qba a).length<=2:=qbp (by omega)
 have lb:(qba b).length<=2:=qbp (by omega)
 rcases V79 false (qbR (n:=a) (by omega)) (qbR (n:=b) (by omega)) (by rw[qbU];omega) (by rw[qbU];omega) with ⟨h,_⟩ | ⟨_,r,e,h2,h3⟩
 ·rw[qbU] at h;exact absurd h h0
 ·rw[qbU,qbU] at h2
  refine ⟨r,(qbI _ _ (qhw r (qdv .i64 0)) rfl (m:=[cR r]) ?_).trans (by rw[h3]),h2,h3⟩
  rw[qH1]
  simp only[Nat.reduceAdd,oBs,qaf,qb0,qdl,qdd,qbV,qbT,qfc,qfd,qb2,qbX,qad,qae,qaw,pcI,qdh,qHv ha,qHv hb,qc2,bne_self_eq_false,e]
end Go.Ab

/- What the interpreter does, function by function. -/
set_option maxRecDepth 100000
namespace Go.Ab
open Go.Proofs.Tryz
end Go.Ab

/- What the interpreter does, function by function. -/
set_option maxRecDepth 100000
namespace Go.Ab
open Go.Proofs.Tryz
def qCp (m:Mem):St:=⟨(qdR (qd7 (yA2 []))),m⟩
def qu4 (x4:AV) (m:Mem):St:=⟨(yA4 (x4::qdR (yA8 (yA4 (yA1 []))))),m⟩
noncomputable def qyH (x0 x15 x16 x17:AV) (m:Mem) (K:KT):OM:=qbq (qaM cfg 63 (AP cfg) (AC cfg) (c1 (c1 (c2 (c1 (c2 (c2 (qaq f63)))))))) (cfg.mask 63 (some 4)) ⟨(x0::yA8 (yA4 (yA2 (x15::x16::x17::qdR [])))),m⟩ K
def qCq (x0 x5 x6 x7 x15 x16 x17:AV) (m:Mem):St:=⟨(x0::yA4 (x5::x6::x7::yA4 (yA2 (yA1 (x15::x16::x17::qdR []))))),m⟩
def qyT (x4:AV) (m:Mem):St:=⟨(yA4 (x4::qdR (yA8 (yA4 (yA1 []))))),m⟩
noncomputable def qyI (x0 x5 x6 x7 x15 x16 x17 x22 x23 x24:AV) (m:Mem) (K:KT):OM:=qbq (qaM cfg 63 (AP cfg) (AC cfg) (c1 (c1 (c2 (c1 (c2 (c2 (c1 (c1 (c2 (c2 (c1 (c1 (c2 (c1 (c2 (c2 (qaq f63)))))))))))))))))) (cfg.mask 63 (some 8)) ⟨(x0::yA4 (x5::x6::x7::yA4 (yA2 (yA1 (x15::x16::x17::yA4 (x22::x23::x24::qd7 (yA8 (yA1 [])))))))),m⟩ K
noncomputable abbrev qBQ (K:KT):KT:=qdH (fun st=>qaM cfg 63 (AP cfg) (AC cfg) (c2 (c2 (c2 (qaq f63)))) st K) K
noncomputable abbrev qBR (K:KT):KT:=qbb 0 (qBQ K)
noncomputable abbrev qBP (K:KT):KT:=(qBR K)
noncomputable abbrev qBS (K:KT):KT:=qdH (fun st=>qaM cfg 63 (AP cfg) (AC cfg) (c2 (c2 (c2 (c1 (c1 (c2 (c1 (c2 (c2 (qaq f63)))))))))) st (qcQ (fun st=>qbq (qaM cfg 63 (AP cfg) (AC cfg) (c1 (c1 (c2 (c1 (c2 (c2 (qaq f63)))))))) (cfg.mask 63 (some 4)) st K) (cfg.mask 63 (some 4)) K)) (qcQ (fun st=>qbq (qaM cfg 63 (AP cfg) (AC cfg) (c1 (c1 (c2 (c1 (c2 (c2 (qaq f63)))))))) (cfg.mask 63 (some 4)) st K) (cfg.mask 63 (some 4)) K)
noncomputable abbrev quv (K:KT):KT:=qbb 1 (qBS K)
noncomputable abbrev qBT (K:KT):KT:=qdH (fun st=>qaM cfg 63 (AP cfg) (AC cfg) (c2 (c2 (c2 (c1 (c1 (c2 (c2 (c1 (c1 (c2 (c1 (c2 (c2 (qaq f63)))))))))))))) st (quv K)) (quv K)
noncomputable abbrev qBU (K:KT):KT:=qbb 2 (qBT K)
noncomputable abbrev qyp (K:KT):KT:=(qBU K)
theorem T63 (a0 a1:AV) (m:Mem):AC cfg 63 [a0,a1] m =
 (qbY false a1).bind fun v1=>
 (qbY false a0).bind fun v2=>
 (qaz .other .neq v1 v2).bind fun v3=>
 ifA v3 (
 some ((.bool false),m)) (
 (qbY false a1).bind fun v4=>
 qyH a0 a1 v4 (.int .i64 0) m (qBP (qbw cfg.P f63.results.toList))):=
(qbx cfg 63 [a0,a1] m (fn:=f63) (c:=qaq f63) qJo rfl).trans (by kernel_rfl)
theorem qqI (x0 x15 x16 x17:AV) (m:Mem) (K:KT):qyH x0 x15 x16 x17 m K =
 (qaz .other .lss x17 x16).bind fun v1=>
 ifA v1 (
 (qag none x15 x17).bind fun v2=>
 (qat none m v2).bind fun v3=>
 (qbY false v3).bind fun v4=>
 qyI x0 x17 v3 (.int .i64 0) x15 x16 x17 v3 v4 (.int .i64 0) m (qyp K)) (
 K (.exit 0) (qCp m)):=
(qa3 (qaT _) _ _ _).trans (by kernel_rfl)
theorem qqJ (x0 x5 x6 x7 x15 x16 x17 x22 x23 x24:AV) (m:Mem) (K:KT):qyI x0 x5 x6 x7 x15 x16 x17 x22 x23 x24 m K =
 (qaz .other .lss x24 x23).bind fun v1=>
 ifA v1 (
 (qag none x22 x24).bind fun v2=>
 (qat none m v2).bind fun v3=>
 (qaz .other .lss v3 (.int .i64 0)).bind fun v4=>
 ifA v4 (
 K .ret (qyT (.bool false) m)) (
 (qaz .other .gtr v3 (.int .i64 1000)).bind fun v5=>
 ifA v5 (
 K .ret (qyT (.bool false) m)) (
 (qaz .other .add x7 v3).bind fun v6=>
 (qaz .other .add x24 (.int .i64 1)).bind fun v7=>
 qyI x0 x5 x6 v6 x15 x16 x17 x22 x23 v7 m K))) (
 K (.exit 2) (qCq x0 x5 x6 x7 x15 x16 x17 m)):=
(qa3 (qaT _) _ _ _).trans (by kernel_rfl)
theorem qyo (m:Mem):qBP (qbw cfg.P f63.results.toList) (.exit 0) (qCp  m) =
 some ((.bool true),m):=by kernel_rfl
theorem quu (x4:AV) (m:Mem):qBP (qbw cfg.P f63.results.toList) .ret (qu4 x4 m) =
 some (x4,m):=by kernel_rfl
theorem qyq (x0 x5 x6 x7 x15 x16 x17:AV) (m:Mem) (K:KT):qyp K (.exit 2) (qCq x0 x5 x6 x7 x15 x16 x17 m) =
 (qbY false x6).bind fun v1=>
 (qag none x0 x5).bind fun v2=>
 (qat none m v2).bind fun v3=>
 (qaz .other .neq v1 v3).bind fun v4=>
 ifA v4 (
 K .ret (qu4 (.bool false) m)) (
 (qaz .other .eql x7 (.int .i64 0)).bind fun v5=>
 ifA v5 (
 K .ret (qu4 (.bool false) m)) (
 (qaz .other .add x17 (.int .i64 1)).bind fun v6=>
 qyH x0 x15 x16 v6 m K)):=by kernel_rfl
theorem quw (x4:AV) (m:Mem) (K:KT):qyp K .ret (qyT x4 m) =
 K .ret (qu4 x4 m):=by kernel_rfl
def qCr (x0 x1 x4 x5:AV) (m:Mem):St:=⟨(x0::x1::yA2 (x4::x5::qd7 (yA8 []))),m⟩
noncomputable def qyJ (x0 x1 x4 x5 x10 x11 x12:AV) (m:Mem) (K:KT):OM:=qbq (qaM cfg 70 (AP cfg) (AC cfg) (c1 (c1 (c2 (c1 (c2 (c2 (qaq f70)))))))) (cfg.mask 70 (some 3)) ⟨(x0::x1::yA2 (x4::x5::yA4 (x10::x11::x12::qd7 (yA1 [])))),m⟩ K
noncomputable abbrev qBW (K:KT):KT:=qdH (fun st=>qaM cfg 70 (AP cfg) (AC cfg) (c2 (c2 (c2 (qaq f70)))) st K) K
noncomputable abbrev qBX (K:KT):KT:=qbb 0 (qBW K)
noncomputable abbrev qBV (K:KT):KT:=(qBX K)
theorem T70 (a0 a1:AV) (m:Mem):AC cfg 70 [a0,a1] m =
 (qbY false a0).bind fun v1=>
 qyJ a0 a1 (.ptr (qaH none m .resv).1 0) (.int .i64 0) a0 v1 (.int .i64 0) (qaH none m (.obj true [(.bool false),(.lst none true .full []),(.lst none true .full [])])).2 (qBV (qbw cfg.P f70.results.toList)):=
(qbx cfg 70 [a0,a1] m (fn:=f70) (c:=qaq f70) qJv rfl).trans (by kernel_rfl)
theorem qqK (x0 x1 x4 x5 x10 x11 x12:AV) (m:Mem) (K:KT):qyJ x0 x1 x4 x5 x10 x11 x12 m K =
 (qaz .other .lss x12 x11).bind fun v1=>
 ifA v1 (
 (qag none x10 x12).bind fun v2=>
 (qat none m v2).bind fun v3=>
 (qaz .other .add x5 v3).bind fun v4=>
 (qaz .other .add x12 (.int .i64 1)).bind fun v5=>
 qyJ x0 x1 x4 v4 x10 x11 v5 m K) (
 K (.exit 0) (qCr x0 x1 x4 x5 m)):=
(qa3 (qaT _) _ _ _).trans (by kernel_rfl)
theorem qyr (x0 x1 x4 x5:AV) (m:Mem):qBV (qbw cfg.P f70.results.toList) (.exit 0) (qCr x0 x1 x4 x5 m) =
 (qag none x0 x1).bind fun v1=>
 (qat none m v1).bind fun v2=>
 (qaN (AP cfg) none m 128 [v2,x5]).bind fun r3=>
 (qaF r3.1 0).bind fun v4=>
 (qaF r3.1 1).bind fun v5=>
 (qaR (some 3) (qaH none r3.2 (.obj true [(.bool false),(.lst none true .full []),(.lst none true .full [])])).2 (.ptr (qaH none r3.2 .resv).1 0) v4).bind fun m6=>
 (qat (some 3) m6 (.ptr (qaH none r3.2 .resv).1 0)).bind fun v7=>
 (qaR (some 3) m6 x4 v7).bind fun m8=>
 (qat (some 3) m8 x4).bind fun v9=>
 some (v9,m8):=by kernel_rfl
theorem T67 (a0 a1 a2:AV) (m:Mem):AC cfg 67 [a0,a1,a2] m =
 (qat none m a2).bind fun v1=>
 (qat none m a2).bind fun v2=>
 (AC cfg 68 [v1,a0] m).bind fun r3=>
 ifP ((qat none r3.2 a2).bind (fun v=>some (v,r3.2))=some (v2,r3.2)) (
 (AC cfg 68 [v2,a1] r3.2).bind fun r4=>
 (qaz .other .sub r3.1 r4.1).bind fun v5=>
 some (v5,r4.2)):=
(qbx cfg 67 [a0,a1,a2] m (fn:=f67) (c:=qaq f67) qJs rfl).trans (by kernel_rfl)
def quW (x8 x12:AV) (m:Mem):St:=⟨(yA8 (x8::yA2 (yA1 (x12::qdC (qdR (yA8 (yA4 (yA2 [])))))))),m⟩
noncomputable def qlc (x2 x3 x8 x10 x12 x52 x53 x54:AV) (m:Mem) (K:KT):OM:=qbq (qaM cfg 17 (AP cfg) (AC cfg) (c1 (c1 (c2 (c1 (c2 (c2 (c2 (c2 (c2 (c2 (c2 (c2 (qaq f17)))))))))))))) (cfg.mask 17 (some 11)) ⟨(yA2 (x2::x3::yA4 (x8::yA1 (x10::yA1 (x12::qdR (yA4 (yA2 (yA1 (x52::x53::x54::qdC (yA4 [])))))))))),m⟩ K
def qqU (x2 x3 x8 x10 x12 x52 x53 x54:AV) (m:Mem):St:=⟨(yA2 (x2::x3::yA4 (x8::yA1 (x10::yA1 (x12::qdR (yA4 (yA2 (yA1 (x52::x53::x54::qdC (yA4 [])))))))))),m⟩
noncomputable def qgf (x2 x3 x8 x10 x12 x15 x16 x52 x53 x54 x76 x77 x78:AV) (m:Mem) (K:KT):OM:=qbq (qaM cfg 17 (AP cfg) (AC cfg) (c1 (c1 (c2 (c2 (c2 (c2 (c1 (c1 (c2 (c2 (c1 (c1 (c2 (c1 (c2 (c2 (c2 (c2 (c2 (c2 (c2 (c2 (qaq f17)))))))))))))))))))))))) (cfg.mask 17 (some 17)) ⟨(yA2 (x2::x3::yA4 (x8::yA1 (x10::yA1 (x12::yA2 (x15::x16::qdR (yA2 (yA1 (x52::x53::x54::qd7 (yA4 (yA1 (x76::x77::x78::qdR (yA8 (yA4 [])))))))))))))),m⟩ K
def quX (x22:AV) (m:Mem):St:=⟨(qd7 (yA4 (yA2 (x22::qdC (qdR (yA4 [])))))),m⟩
noncomputable def qnu (x12 x22 x107 x108 x109:AV) (m:Mem) (K:KT):OM:=qbq (qaM cfg 17 (AP cfg) (AC cfg) (c1 (c1 (c2 (c1 (c2 (c2 (c2 (c2 (c2 (c2 (c2 (c2 (c2 (c2 (qaq f17)))))))))))))))) (cfg.mask 17 (some 28)) ⟨(yA8 (yA4 (x12::yA8 (yA1 (x22::qdC (qd7 (yA4 (x107::x108::x109::yA8 (yA4 (yA1 [])))))))))),m⟩ K
noncomputable abbrev qxT (K:KT):KT:=qdH (fun st=>qaM cfg 17 (AP cfg) (AC cfg) (c2 (c2 (c2 (c2 (c2 (c2 (c2 (c2 (c2 (qaq f17)))))))))) st K) K
noncomputable abbrev qxU (K:KT):KT:=qbb 0 (qxT K)
noncomputable abbrev qp9 (K:KT):KT:=(qxU K)
noncomputable abbrev qxV (K:KT):KT:=qdH (fun st=>qaM cfg 17 (AP cfg) (AC cfg) (c2 (c2 (c2 (c1 (c1 (c2 (c1 (c2 (c2 (c2 (c2 (c2 (c2 (c2 (c2 (qaq f17)))))))))))))))) st (qcQ (fun st=>qbq (qaM cfg 17 (AP cfg) (AC cfg) (c1 (c1 (c2 (c1 (c2 (c2 (c2 (c2 (c2 (c2 (c2 (c2 (qaq f17)))))))))))))) (cfg.mask 17 (some 11)) st K) (cfg.mask 17 (some 11)) K)) (qcQ (fun st=>qbq (qaM cfg 17 (AP cfg) (AC cfg) (c1 (c1 (c2 (c1 (c2 (c2 (c2 (c2 (c2 (c2 (c2 (c2 (qaq f17)))))))))))))) (cfg.mask 17 (some 11)) st K) (cfg.mask 17 (some 11)) K)
noncomputable abbrev qxW (K:KT):KT:=qbb 1 (qxV K)
noncomputable abbrev qxX (K:KT):KT:=qbb 2 (qxW K)
noncomputable abbrev qjM (K:KT):KT:=(qxX K)
noncomputable abbrev qxY (K:KT):KT:=qdH (fun st=>qaM cfg 17 (AP cfg) (AC cfg) (c2 (c2 (c2 (c2 (c2 (c2 (c2 (c2 (c2 (c2 (c2 (qaq f17)))))))))))) st K) K
noncomputable abbrev qxZ (K:KT):KT:=qbb 4 (qxY K)
noncomputable abbrev qqa (K:KT):KT:=(qxZ K)
theorem T17 (a0 a1 a2:AV) (m:Mem):AC cfg 17 [a0,a1,a2] m =
 (qf8 none none m a0).bind fun r1=>
 (qat none r1.2 r1.1).bind fun v2=>
 (AC cfg 41 [v2,a1] r1.2).bind fun r3=>
 (qaF r3.1 0).bind fun v4=>
 (qaF r3.1 1).bind fun v5=>
 (qaz .other .neq v5 (.int .i64 0)).bind fun v6=>
 ifA v6 (
 some ((.tup [(.lst none true .full []),v5]),r3.2)) (
 (qat none r3.2 r1.1).bind fun v7=>
 (qjD v7).bind fun v8=>
 (qaB 0 v8).bind fun v9=>
 (qat none r3.2 v9).bind fun v10=>
 (qaN (AP cfg) none r3.2 63 [v10,a2]).bind fun r11=>
 (unA .not r11.1).bind fun v12=>
 ifA v12 (
 some ((.tup [(.lst none true .full []),(.int .i64 1)]),r11.2)) (
 (qaN (AP cfg) none (qaH none r11.2 (.mp (.int .i64) [])).2 64 []).bind fun r13=>
 (qk0 (.int .i64) r13.2 (.mref (qaH none r11.2 .resv).1) a1 r13.1).bind fun m14=>
 (qat none m14 r1.1).bind fun v15=>
 (AC cfg 65 [v15,a1] m14).bind fun r16=>
 (AC cfg 66 [r16.1,(.fn 67 [r1.1])] r16.2).bind fun r17=>
 (qbY false r16.1).bind fun v18=>
 qlc a2 r1.1 v4 (.mref (qaH none r11.2 .resv).1) (.mref (qaH none r17.2 .resv).1) r16.1 v18 (.int .i64 0) (qaH none r17.2 (.mp (.int .i64) [])).2 (qp9 (qbw cfg.P f17.results.toList)))):=
(qbx cfg 17 [a0,a1,a2] m (fn:=f17) (c:=qaq f17) qI7 rfl).trans (by kernel_rfl)
theorem qnt (x2 x3 x8 x10 x12 x52 x53 x54:AV) (m:Mem) (K:KT):qlc x2 x3 x8 x10 x12 x52 x53 x54 m K =
 (qaz .other .lss x54 x53).bind fun v1=>
 ifA v1 (
 (qag none x52 x54).bind fun v2=>
 (qat none m v2).bind fun v3=>
 (qat none (qbm m 2) x3).bind fun v4=>
 (qjD v4).bind fun v5=>
 (qaB 1 v5).bind fun v6=>
 (qat none (qbm m 2) v6).bind fun v7=>
 (qag (some 3) v7 v3).bind fun v8=>
 (qat (some 3) (qbm m 2) v8).bind fun v9=>
 (qiY (.int .i64) (.agg [(.bool false),(.lst none true .full []),(.lst none true .full [])]) (qbm m 2) x10 v3).bind fun q10=>
 (qaR (some 3) (qaH (some (m.length+1)) (qaH (some m.length) (qbm m 2) (.obj true [(.int .i64 0),(.lst none true .full []),(.int .i64 0)])).2 (.obj true [(.bool false),(.lst none true .full []),(.lst none true .full [])])).2 (.ptr (qaH (some m.length) (qbm m 2) .resv).1 0) v9).bind fun m11=>
 (qaR (some 3) m11 (.ptr (qaH (some (m.length+1)) (qaH (some m.length) (qbm m 2) (.obj true [(.int .i64 0),(.lst none true .full []),(.int .i64 0)])).2 .resv).1 0) q10.1).bind fun m12=>
 (qaB 0 (.ptr (qaH (some m.length) (qbm m 2) .resv).1 0)).bind fun v13=>
 (qat none m12 v13).bind fun v14=>
 (qaz .other .lss v14 (.int .i64 0)).bind fun v15=>
 ifA v15 (
 (qaB 2 (.ptr (qaH (some m.length) (qbm m 2) .resv).1 0)).bind fun v16=>
 (qat none m12 v16).bind fun v17=>
 (qat (some 3) m12 (.ptr (qaH (some (m.length+1)) (qaH (some m.length) (qbm m 2) (.obj true [(.int .i64 0),(.lst none true .full []),(.int .i64 0)])).2 .resv).1 0)).bind fun v18=>
 (qk0 (.int .i64) m12 x12 v17 v18).bind fun m19=>
 (qaB 1 (.ptr (qaH (some m.length) (qbm m 2) .resv).1 0)).bind fun v20=>
 (qat none m19 v20).bind fun v21=>
 (qbY false v21).bind fun v22=>
 qgf x2 x3 x8 x10 x12 (.ptr (qaH (some m.length) (qbm m 2) .resv).1 0) (.ptr (qaH (some (m.length+1)) (qaH (some m.length) (qbm m 2) (.obj true [(.int .i64 0),(.lst none true .full []),(.int .i64 0)])).2 .resv).1 0) x52 x53 x54 v21 v22 (.int .i64 0) m19 (qjM K)) (
 (qaB 1 (.ptr (qaH (some m.length) (qbm m 2) .resv).1 0)).bind fun v23=>
 (qat none m12 v23).bind fun v24=>
 (qbY false v24).bind fun v25=>
 qgf x2 x3 x8 x10 x12 (.ptr (qaH (some m.length) (qbm m 2) .resv).1 0) (.ptr (qaH (some (m.length+1)) (qaH (some m.length) (qbm m 2) (.obj true [(.int .i64 0),(.lst none true .full []),(.int .i64 0)])).2 .resv).1 0) x52 x53 x54 v24 v25 (.int .i64 0) m12 (qjM K))) (
 K (.exit 0) (quW x8 x12 m)):=
(qa3 (qaT _) _ _ _).trans (by kernel_rfl)
theorem qjR (x2 x3 x8 x10 x12 x15 x16 x52 x53 x54 x76 x77 x78:AV) (m:Mem) (K:KT):qgf x2 x3 x8 x10 x12 x15 x16 x52 x53 x54 x76 x77 x78 m K =
 (qaz .other .lss x78 x77).bind fun v1=>
 ifA v1 (
 (qag none x76 x78).bind fun v2=>
 (qat none m v2).bind fun v3=>
 (qat (some 3) (qbm m 1) x16).bind fun v4=>
 (qaB 0 x15).bind fun v5=>
 (qat none (qbm m 1) v5).bind fun v6=>
 (qag none x2 v6).bind fun v7=>
 (qat none (qbm m 1) v7).bind fun v8=>
 (qaN (AP cfg) (some m.length) (qbm m 1) 70 [v8,x78]).bind fun r9=>
 (qaN (AP cfg) (some m.length) r9.2 69 [v4,r9.1]).bind fun r10=>
 (qaR (some 3) (qaH (some m.length) r10.2 (.obj true [(.bool false),(.lst none true .full []),(.lst none true .full [])])).2 (.ptr (qaH (some m.length) r10.2 .resv).1 0) r10.1).bind fun m11=>
 (qiY (.int .i64) (.agg [(.bool false),(.lst none true .full []),(.lst none true .full [])]) m11 x10 v3).bind fun q12=>
 (qaF (.tup [q12.1,.bool q12.2]) 0).bind fun v13=>
 (qaF (.tup [q12.1,.bool q12.2]) 1).bind fun v14=>
 (qaR (some 3) (qaH none m11 (.obj true [(.bool false),(.lst none true .full []),(.lst none true .full [])])).2 (.ptr (qaH none m11 .resv).1 0) v13).bind fun m15=>
 ifA v14 (
 (qat (some 3) m15 (.ptr (qaH none m11 .resv).1 0)).bind fun v16=>
 (qat (some 3) m15 (.ptr (qaH (some m.length) r10.2 .resv).1 0)).bind fun v17=>
 (qaN (AP cfg) none m15 71 [v16,v17]).bind fun r18=>
 (qaR (some 3) r18.2 (.ptr (qaH (some m.length) r10.2 .resv).1 0) r18.1).bind fun m19=>
 (qat (some 3) m19 (.ptr (qaH (some m.length) r10.2 .resv).1 0)).bind fun v20=>
 (qk0 (.int .i64) m19 x10 v3 v20).bind fun m21=>
 (qaz .other .add x78 (.int .i64 1)).bind fun v22=>
 qgf x2 x3 x8 x10 x12 x15 x16 x52 x53 x54 x76 x77 v22 m21 K) (
 (qat (some 3) m15 (.ptr (qaH (some m.length) r10.2 .resv).1 0)).bind fun v23=>
 (qk0 (.int .i64) m15 x10 v3 v23).bind fun m24=>
 (qaz .other .add x78 (.int .i64 1)).bind fun v25=>
 qgf x2 x3 x8 x10 x12 x15 x16 x52 x53 x54 x76 x77 v25 m24 K)) (
 K (.exit 2) (qqU x2 x3 x8 x10 x12 x52 x53 x54 m)):=
(qa3 (qaT _) _ _ _).trans (by kernel_rfl)
theorem qnv (x12 x22 x107 x108 x109:AV) (m:Mem) (K:KT):qnu x12 x22 x107 x108 x109 m K =
 (qaz .other .lss x109 x108).bind fun v1=>
 ifA v1 (
 (qag none x107 x109).bind fun v2=>
 (qat none m v2).bind fun v3=>
 (qiY (.int .i64) (.agg [(.bool false),(.lst none true .full []),(.lst none true .full [])]) m x12 v3).bind fun q4=>
 (qdz (.agg [(.int .i64 0),(.bool false),(.lst none true .full []),(.lst none true .full [])]) [(0,none,v3),(1,(some 3),q4.1)]).bind fun v5=>
 (qaY (some 4) [v5]).bind fun v6=>
 (qd6 none false 46 (some 4) 64 m x22 v6).bind fun r7=>
 (qaz .other .add x109 (.int .i64 1)).bind fun v8=>
 qnu x12 r7.1 x107 x108 v8 r7.2 K) (
 K (.exit 4) (quX x22 m)):=
(qa3 (qaT _) _ _ _).trans (by kernel_rfl)
theorem qtX (x8 x12:AV) (m:Mem):qp9 (qbw cfg.P f17.results.toList) (.exit 0) (quW x8 x12 m) =
 (qbY false x8).bind fun v1=>
 qnu x12 (.lst none true .full []) x8 v1 (.int .i64 0) m (qqa (qbw cfg.P f17.results.toList)):=by kernel_rfl
theorem qm2 (x2 x3 x8 x10 x12 x52 x53 x54:AV) (m:Mem) (K:KT):qjM K (.exit 2) (qqU x2 x3 x8 x10 x12 x52 x53 x54 m) =
 (qaz .other .add x54 (.int .i64 1)).bind fun v1=>
 qlc x2 x3 x8 x10 x12 x52 x53 v1 m K:=by kernel_rfl
theorem qtY (x22:AV) (m:Mem):qqa (qbw cfg.P f17.results.toList) (.exit 4) (quX x22 m) =
 some ((.tup [x22,(.int .i64 0)]),m):=by kernel_rfl
end Go.Ab

/- What the interpreter does, function by function. -/
set_option maxRecDepth 100000
namespace Go.Ab
open Go.Proofs.Tryz
end Go.Ab
