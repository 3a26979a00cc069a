/- Certificates in values: rows of whole numbers, nodes, odds; boxes of nodes and certificates; numbers, arms and odds. -/
import Derived.Test.YtiipgpkgcdhbfaaGreatDoorBP4
import Derived.Test.YtiipgpkgcdhbfaaGreatDoorBP2
import Derived.Test.YtiipgpkgcdhbfaaGreatDoorBP3
import Derived.Test.YtiipgpkgcdhbfaaGreatDoorBP0
import Derived.Test.YtiipgpkgcdhbfaaGreatDoorProg
import Derived.Tactics
import Derived.Tactics2
import Derived.Defers
import Derived.Recover
import Derived.Laws.Pointers
import Derived.ProofKit
import Derived.OpenShut
import Derived.ChangeArms
import Derived.Test.YtiipgpkgcdhbfaaGreatDoorBP1
import Derived.LaidMore
import Derived.Lay
import Derived.KernelRfl
import Derived.Test.YtiipgpkgcdhbfaaGreatDoorRows
set_option linter.unusedVariables false
set_option linter.unusedSimpArgs false
set_option linter.unusedSectionVars false
set_option maxRecDepth 100000
namespace Go.Ab.Pq
open Go.Proofs.Tryz
structure IL where
 z:Bool
 o:Own
 ns:List Int
def iA (n:Int):AV:=.int .i64 n
def IL.av (l:IL):AV:=.lst none l.z l.o (l.ns.map iA)
def IL.fr (l:IL):IL:=⟨l.z,l.o.fr,l.ns⟩
structure ND where
 var:Int
 kids:IL
 leaf:Int
def ND.av (n:ND):AV:=.agg [.int .i64 n.var,n.kids.av,.int .i64 n.leaf]
structure OL where
 z:Bool
 o:Own
 es:List IL
def OL.av (l:OL):AV:=.lst none l.z l.o (l.es.map IL.av)
def OL.fr (l:OL):OL:=⟨l.z,l.o.fr,l.es⟩
structure NL where
 sh:Sh
 z:Bool
 o:Own
 es:List ND
def NL.av (l:NL):AV:=.lst l.sh l.z l.o (l.es.map ND.av)
structure CV where
 odds:OL
 nodes:NL
 ws:LV
 leaf:Int
def CV.av (c:CV):AV:=.agg [c.odds.av,c.nodes.av,c.ws.av,.int .i64 c.leaf]
theorem fz_il (l:IL):Fz l.av l.fr.av:=fun m=>qmf none l.z l.o (l.ns.map iA) m 8
theorem fz_ol (l:OL):Fz l.av l.fr.av:=fun m=>qmf none l.z l.o (l.es.map IL.av) m 8
theorem len_il (l:IL):qbY false l.av=some (.int .i64 l.ns.length):=by simp[IL.av,qbY]
theorem len_ol (l:OL):qbY false l.av=some (.int .i64 l.es.length):=by simp[OL.av,qbY]
theorem index_il {l:IL} {k:Nat} {kk:IntKind} (hk:k < l.ns.length):qag none l.av (.int kk k)=some (.vptr [iA l.ns[k]]):=by
 simp[IL.av,qag,hk,iA,AV.cells]
theorem load_il (m:Mem) (n:Int):qat none m (.vptr [iA n])=some (.int .i64 n):=rfl
theorem index_ol {l:OL} {k:Nat} {kk:IntKind} (hk:k < l.es.length):qag none l.av (.int kk k)=some (.vptr [l.es[k].av]):=by
 simp[OL.av,qag,hk,IL.av,AV.cells]
theorem load_ol (m:Mem) (n:IL):qat none m (.vptr [n.av])=some n.av:=rfl
def cN (n:ND):Option Ent:=some (.obj true [.int .i64 n.var,n.kids.av,.int .i64 n.leaf])
def cC (c:CV):Option Ent:=some (.obj true [c.odds.av,c.nodes.av,c.ws.av,.int .i64 c.leaf])
def qsI (o:Int):Bool:=decide (0<=o/\o<=1000)
def rowB (l:IL) (a:Int):Bool:=l.ns.all qsI && (decide ((l.ns.length:Int)=a) && decide (l.ns.sum≠0))
def oddsB (arms:IL) (L:OL):Bool:=decide (L.es.length=arms.ns.length) && (L.es.zip arms.ns).all fun p=>rowB p.1 p.2
theorem oddB_iff {o:Int}:qsI o=true↔0<=o/\o<=1000:=by unfold qsI;exact decide_eq_true_iff
theorem X28 (l:IL) (hl:l.ns.length<=64) (x0 x5 x6 x15 x16 x17:AV) (m:Mem) (K:KT):∀ (j i:Nat) (s:Int),i+j=l.ns.length->0<=s->s<=1000 * i ->
  qyI x0 x5 x6 (.int .i64 s) x15 x16 x17 l.av (.int .i64 l.ns.length) (.int .i64 i) m K=if (l.ns.drop i).all qsI then K (.exit 2) (qCq x0 x5 x6 (.int .i64 (s+(l.ns.drop i).sum)) x15 x16 x17 m) else K .ret (qyT (.bool false) m)
 | 0,i,s,h,h0,h1=>by
  rw[qqJ,qdc,oBs,qap,qah (by omega),qbc (by omega),List.sum_nil,Int.add_zero];rfl
 | j+1,i,s,h,h0,h1=>by
  have hi:i < l.ns.length:=by omega
  rw[qqJ,qdc,oBs,qap,qal hi,index_il hi,oBs,load_il,oBs,qaU,oBs,qap,qbr hi,qeR,qbN]
  by_cases c1:l.ns[i] < 0
  ·rw[qal c1,show qsI l.ns[i]=false from qa7 (by omega)];rfl
  ·rw[qah c1,qcB,oBs,qap]
   by_cases c2:l.ns[i] > 1000
   ·rw[qal c2,show qsI l.ns[i]=false from qa7 (by omega)];rfl
   ·have ih:=X28 l hl x0 x5 x6 x15 x16 x17 m K j (i+1) (s+l.ns[i]) (by omega) (by omega) (by omega)
    rw[qah c2,qc4,qbQ (by omega) (by omega),oBs,qbM (by omega),oBs,ih,show qsI l.ns[i]=true from qa6 (by omega),qdx,Int.add_assoc]
theorem W63 (arms:IL) (L:OL) (hlen:L.es.length=arms.ns.length) (h64:∀ l∈L.es,l.ns.length<=64) (h40:L.es.length<=40) (m:Mem) (K:KT):∀ j i:Nat,i+j=L.es.length ->
  qyH arms.av L.av (.int .i64 L.es.length) (.int .i64 i) m K=if ((L.es.zip arms.ns).drop i).all (fun p=>rowB p.1 p.2) then K (.exit 0) (qCp m) else K .ret (qu4 (.bool false) m)
 | 0,i,h=>by
  rw[qqI,qdc,oBs,qap,qah (by omega),qbc (by rw[List.length_zip];omega)];rfl
 | j+1,i,h=>by
  have hi:i < L.es.length:=by omega
  have hz:i < (L.es.zip arms.ns).length:=by rw[List.length_zip];omega
  have ih:=W63 arms L hlen h64 h40 m K j (i+1) (by omega)
  have hx:=X28 L.es[i] (h64 _ (qaJ hi)) arms.av (.int .i64 i) L.es[i].av L.av (.int .i64 L.es.length) (.int .i64 i) m (qyp K) L.es[i].ns.length 0 0 (by omega) (by omega) (by omega)
  rw[qbk,Int.zero_add,show (((0:Nat):Int))=(0:Int) from rfl] at hx
  rw[qqI,qdc,oBs,qap,qal hi,index_ol hi,oBs,load_ol,oBs,len_il,oBs,hx,qbr hz,qeR,List.getElem_zip]
  dsimp only
  unfold rowB
  by_cases c1:L.es[i].ns.all qsI=true
  ·rw[qal c1,qyq,len_il,oBs,index_il (by omega),oBs,load_il,oBs,qcW,oBs,qap,c1,qdx]
   by_cases c2:(L.es[i].ns.length:Int)=arms.ns[i]
   ·rw[qah (by omega),qcK,oBs,qap,qa6 c2,qdx]
    by_cases c3:L.es[i].ns.sum=0
    ·rw[qal c3,qa7 (by omega)];rfl
    ·rw[qah c3,qa6 c3,qdx,qbM (by omega),oBs,ih];rfl
   ·rw[qal c2,qa7 c2];rfl
  ·rw[qah c1,quw,Bool.eq_false_iff.2 c1];rfl
theorem V63 (arms:IL) (L:OL) (h64:∀ l∈L.es,l.ns.length<=64) (h40:L.es.length<=40):AP cfg 63 [arms.av,L.av]=some (.bool (oddsB arms L)):=by
 refine qbI _ _ (qke _) rfl (m:=[]) ?_
 unfold oddsB
 rw[T63,len_ol,oBs,len_il,oBs,qcW,oBs,qap]
 by_cases h:L.es.length=arms.ns.length
 ·rw[qah (by omega),oBs,show ((0:Int))=((0:Nat):Int) from rfl,W63 arms L h h64 h40 [] _ L.es.length 0 (by omega),qbk,qa6 h,qdx]
  by_cases h2:(L.es.zip arms.ns).all (fun p=>rowB p.1 p.2)=true
  ·rw[qal h2,h2,qyo]
  ·rw[qah h2,Bool.eq_false_iff.2 h2,quu]
 ·rw[qal (by omega),qa7 h];rfl
theorem X45 (l:IL) (hl:l.ns.length<=64) (x0 x5 x6 x15 x16 x17:AV) (m:Mem) (K:KT):∀ (j i:Nat) (s:Int),i+j=l.ns.length->0<=s->s<=1000 * i ->
  qyE x0 x5 x6 (.int .i64 s) x15 x16 x17 l.av (.int .i64 l.ns.length) (.int .i64 i) m K=if (l.ns.drop i).all qsI then K (.exit 2) (qCj x0 x5 x6 (.int .i64 (s+(l.ns.drop i).sum)) x15 x16 x17 m) else K .ret (qyS (.bool false) m)
 | 0,i,s,h,h0,h1=>by
  rw[qqw,qdc,oBs,qap,qah (by omega),qbc (by omega),List.sum_nil,Int.add_zero];rfl
 | j+1,i,s,h,h0,h1=>by
  have hi:i < l.ns.length:=by omega
  rw[qqw,qdc,oBs,qap,qal hi,index_il hi,oBs,load_il,oBs,qaU,oBs,qap,qbr hi,qeR,qbN]
  by_cases c1:l.ns[i] < 0
  ·rw[qal c1,show qsI l.ns[i]=false from qa7 (by omega)];rfl
  ·rw[qah c1,qcB,oBs,qap]
   by_cases c2:l.ns[i] > 1000
   ·rw[qal c2,show qsI l.ns[i]=false from qa7 (by omega)];rfl
   ·have ih:=X45 l hl x0 x5 x6 x15 x16 x17 m K j (i+1) (s+l.ns[i]) (by omega) (by omega) (by omega)
    rw[qah c2,qc4,qbQ (by omega) (by omega),oBs,qbM (by omega),oBs,ih,show qsI l.ns[i]=true from qa6 (by omega),qdx,Int.add_assoc]
theorem W18 (arms:IL) (L:OL) (hlen:L.es.length=arms.ns.length) (h64:∀ l∈L.es,l.ns.length<=64) (h40:L.es.length<=40) (m:Mem) (K:KT):∀ j i:Nat,i+j=L.es.length ->
  qyD arms.av L.av (.int .i64 L.es.length) (.int .i64 i) m K=if ((L.es.zip arms.ns).drop i).all (fun p=>rowB p.1 p.2) then K (.exit 0) (qCi m) else K .ret (qu3 (.bool false) m)
 | 0,i,h=>by
  rw[qqv,qdc,oBs,qap,qah (by omega),qbc (by rw[List.length_zip];omega)];rfl
 | j+1,i,h=>by
  have hi:i < L.es.length:=by omega
  have hz:i < (L.es.zip arms.ns).length:=by rw[List.length_zip];omega
  have ih:=W18 arms L hlen h64 h40 m K j (i+1) (by omega)
  have hx:=X45 L.es[i] (h64 _ (qaJ hi)) arms.av (.int .i64 i) L.es[i].av L.av (.int .i64 L.es.length) (.int .i64 i) m (qx5 K) L.es[i].ns.length 0 0 (by omega) (by omega) (by omega)
  rw[qbk,Int.zero_add,show (((0:Nat):Int))=(0:Int) from rfl] at hx
  rw[qqv,qdc,oBs,qap,qal hi,index_ol hi,oBs,load_ol,oBs,len_il,oBs,hx,qbr hz,qeR,List.getElem_zip]
  dsimp only
  unfold rowB
  by_cases c1:L.es[i].ns.all qsI=true
  ·rw[qal c1,qx6,len_il,oBs,index_il (by omega),oBs,load_il,oBs,qcW,oBs,qap,c1,qdx]
   by_cases c2:(L.es[i].ns.length:Int)=arms.ns[i]
   ·rw[qah (by omega),qcK,oBs,qap,qa6 c2,qdx]
    by_cases c3:L.es[i].ns.sum=0
    ·rw[qal c3,qa7 (by omega)];rfl
    ·rw[qah c3,qa6 c3,qdx,qbM (by omega),oBs,ih];rfl
   ·rw[qal c2,qa7 c2];rfl
  ·rw[qah c1,qui,Bool.eq_false_iff.2 c1];rfl
theorem V18 (arms:IL) (L:OL) (h64:∀ l∈L.es,l.ns.length<=64) (h40:L.es.length<=40):AP cfg 18 [arms.av,L.av]=some (.bool (oddsB arms L)):=by
 refine qbI _ _ (qke _) rfl (m:=[]) ?_
 unfold oddsB
 rw[T18,len_ol,oBs,len_il,oBs,qcW,oBs,qap]
 by_cases h:L.es.length=arms.ns.length
 ·rw[qah (by omega),oBs,show ((0:Int))=((0:Nat):Int) from rfl,W18 arms L h h64 h40 [] _ L.es.length 0 (by omega),qbk,qa6 h,qdx]
  by_cases h2:(L.es.zip arms.ns).all (fun p=>rowB p.1 p.2)=true
  ·rw[qal h2,h2,qx4]
  ·rw[qah h2,Bool.eq_false_iff.2 h2,qug]
 ·rw[qal (by omega),qa7 h];rfl
end Go.Ab.Pq

/- Lists of nodes, rows of weights, the shape of a certificate, in values. -/
set_option maxRecDepth 100000
namespace Go.Ab.Pq
open Go.Proofs.Tryz
end Go.Ab.Pq

/- The shape of a certificate, in values. -/
set_option maxRecDepth 100000
namespace Go.Ab.Pq
open Go.Proofs.Tryz
end Go.Ab.Pq

/- Is a certificate in order? Both answers in values. -/
set_option maxRecDepth 100000
namespace Go.Ab.Pq
open Go.Proofs.Tryz
structure COk (k:Nat) (c:CV):Prop where
 odds:c.odds.es.length<=40
 nsh:c.nodes.sh=some 3\/c.nodes.es=[]
 nlen:c.nodes.es.length<=120
 ws:LOk k c.ws
 wlen:c.ws.es.length<=120
end Go.Ab.Pq

/- What a node has to weigh, in values: the program. -/
set_option maxRecDepth 100000
namespace Go.Ab.Pq
open Go.Proofs.Tryz
def qzx (n:Nat):NV:=⟨false,qsK n,qba n⟩
theorem qpx (n:Nat):(qzx n).fr=qzx n:=by
 unfold qzx NV.fr qsK
 split<;>rfl
theorem qHz {n:Nat} (h:n < 9223372036854775808):AP cfg 168 [.int .i64 (n:Int)]=some (qzx n).av:=by
 refine (qbI _ _ (qcy (qzx n)) (qfQ _) (m:=[]) ?_).trans (by rw[qpx])
 rw[qIl,qrw,oBs,qe9,qD1 (by omega),oBs,pcI,qFW (by omega)];rfl
theorem qIA {a b:Nat} (ha:a < 9223372036854775808) (hb:b < 9223372036854775808) (h0:b≠0):∃ r:RV,AP cfg 128 [.int .i64 (a:Int),.int .i64 (b:Int)]=some (.tup [r.av,.int .i64 0])/\Can r (qOf false a b)/\r.fr=r:=by
 have la:(qba a).length<=2:=qbp (by omega)
 have lb:(qba b).length<=2:=qbp (by omega)
 have va:(qzx a).v=a:=qbv a
 have vb:(qzx b).v=b:=qbv b
 rcases qHy (x:=qzx a) (y:=qzx b) false (qf5 (by omega)) (qf5 (by omega)) with ⟨h,_⟩ | ⟨_,r,e,h2,h3⟩
 ·rw[vb] at h;exact absurd h h0
 ·rw[va,vb] at h2
  refine ⟨r,(qbI _ _ (qhw r (qdv .i64 0)) rfl (m:=[cR r]) ?_).trans (by rw[h3]),h2,h3⟩
  rw[qH7,qrw,oBs,qrw,oBs,qbX,oBs]
  simp only[qAH,qdd,qae,qaw]
  rw[pcI,qHz ha,qaf,oBs,pcI,qHz hb,qaf,oBs,qdh,qpx,qpx,show (false != false)=false from rfl,e,qaf,oBs,qfc,oBs,qfd,oBs,qbV,oBs,qbT,oBs]
def RowOk (l:IL):Prop:=l.ns.length<=64/\(∀ o∈l.ns,0<=o/\o<=1000)/\l.ns.sum≠0
theorem qwH:∀ {l:List Int},(∀ o∈l,0<=o/\o<=1000)->0<=l.sum/\l.sum<=1000 * (l.length:Int)
 | [],_=>by simp
 | a::l,h=>by
  obtain ⟨h1,h2⟩:=h a qaC
  obtain ⟨h3,h4⟩:=qwH (fun o ho=>h o (qax _ ho))
  rw[qbN,qad]
  omega
theorem RowOk.sum {l:IL} (h:RowOk l):∃ S:Nat,l.ns.sum=(S:Int)/\S≠0/\S<=64000:=by
 obtain ⟨h1,h2⟩:=qwH h.2.1
 obtain ⟨S,hS⟩:=qc0 h1
 have:=h.1
 exact ⟨S,hS,fun e=>h.2.2 (by rw[hS,e];rfl),by omega⟩
theorem RowOk.get {l:IL} (h:RowOk l) {i:Nat} (hi:i < l.ns.length):∃ a:Nat,l.ns[i]=(a:Int)/\a<=1000:=by
 obtain ⟨h1,h2⟩:=h.2.1 _ (qaJ hi)
 obtain ⟨a,ha⟩:=qc0 h1
 exact ⟨a,ha,by omega⟩
def partQ (l:IL) (i:Nat):Rat:=qOf false (l.ns.getD i 0).toNat l.ns.sum.toNat
theorem qrD {l:IL} {i a S:Nat} (hi:i < l.ns.length) (ha:l.ns[i]=(a:Int)) (hS:l.ns.sum=(S:Int)):partQ l i=qOf false a S:=by
 unfold partQ
 rw[qaa,qam hi,hS]
 show qOf false (l.ns[i]).toNat _=_
 rw[ha];rfl
theorem partQ_bd {l:IL} (h:RowOk l) {i:Nat} (hi:i < l.ns.length):Bd 1 (partQ l i):=by
 obtain ⟨S,hS,_,hS2⟩:=h.sum
 obtain ⟨a,ha,ha2⟩:=h.get hi
 rw[qrD hi ha hS]
 exact qmQ (qbp (by omega)) (qbp (by omega)) (by omega)
theorem take_sum {l:List Int} {i:Nat} (hi:i < l.length):(l.take (i+1)).sum=(l.take i).sum+l[i]:=by
 rw[qbW hi,List.sum_append];simp
theorem take_bd {l:IL} (h:RowOk l) (i:Nat):0<=(l.ns.take i).sum/\(l.ns.take i).sum<=64000:=by
 obtain ⟨h1,h2⟩:=qwH (l:=l.ns.take i) (fun o ho=>h.2.1 o (qz7 ho))
 have:=h.1
 rw[qbn] at h2
 omega
theorem W70 {l:IL} (h:RowOk l) (x1 x4:AV) (m:Mem) (K:KT):∀ j i:Nat,i+j=l.ns.length ->
  qyJ l.av x1 x4 (.int .i64 (l.ns.take i).sum) l.av (.int .i64 l.ns.length) (.int .i64 i) m K=K (.exit 0) (qCr l.av x1 x4 (.int .i64 l.ns.sum) m)
 | 0,i,hij=>by
  rw[qqK,qdc,oBs,qap,qah (by omega),qbg (by omega)]
 | j+1,i,hij=>by
  have hi:i < l.ns.length:=by omega
  have:=h.1
  obtain ⟨b1,b2⟩:=take_bd h i
  obtain ⟨a,ha,ha2⟩:=h.get hi
  have ih:=W70 h x1 x4 m K j (i+1) (by omega)
  rw[take_sum hi] at ih
  rw[qqK,qdc,oBs,qap,qal hi,index_il hi,oBs,load_il,oBs,qc4,qbQ (by omega) (by omega),oBs,qbM (by omega),oBs,ih]
theorem qG4 {m:Mem} {d:Option Nat} {g:Nat} (a b:Int):qaN (AP cfg) d m g [.int .i64 a,.int .i64 b]=(AP cfg g [.int .i64 a,.int .i64 b]).map fun v=>(v,m):=qcH (qcR _ a) (qcR _ b)
theorem V70 {l:IL} (h:RowOk l) {i:Nat} (hi:i < l.ns.length):∃ r:RV,AP cfg 70 [l.av,.int .i64 (i:Int)]=some r.av/\Can r (partQ l i)/\r.fr=r:=by
 obtain ⟨S,hS,hS0,hS2⟩:=h.sum
 obtain ⟨a,ha,ha2⟩:=h.get hi
 obtain ⟨r,e1,e2,e3⟩:=qIA (a:=a) (b:=S) (by omega) (by omega) hS0
 refine ⟨r,(qbI _ _ (qdQ r) (qee _) (m:=[cR r,cR r]) ?_).trans (by rw[e3]),by rw[qrD hi ha hS];exact e2,e3⟩
 have hW:=W70 h (.int .i64 (i:Int)) (.ptr 0 0) [cR zR] (qBV (qbw cfg.P f70.results.toList)) l.ns.length 0 (by omega)
 rw[T70,len_il,oBs]
 refine (show _=_ from hW).trans ?_
 rw[qyr,index_il hi,oBs,load_il,oBs,ha,hS,qG4,e1,qaf,oBs,qfc,oBs,qfd,oBs]
 simp only[qAH,qdd,qae,qaw,qad,qas,qar]
 rw[qb3,oBs,qb1,oBs,qbV,oBs,qbT,oBs]
structure NodeOk (l:IL) (ws:LV) (n:ND):Prop where
 row:RowOk l
 len:n.kids.ns.length=l.ns.length
 kids:∀ k∈n.kids.ns,0<=k/\k < ws.es.length
end Go.Ab.Pq

/- Weights by value: a value of so many parts of a whole; maps of fractions; the sort's measure. -/
set_option maxRecDepth 100000
namespace Go.Ab
open Go.Proofs Go.Proofs.Tryz
structure WV (M:Nat) (r:RV) (N:Nat):Prop where
 ok:ROk 9 r
 q:r.q=qOf false N M
 fr:r.fr=r
theorem qmC {M a b:Nat} (hM:M≠0):qOf false a M+qOf false b M=qOf false (a+b) M:=by
 rw[qmA hM hM]
 have e:sgn false (a * M)+sgn false (b * M)=((a+b:Nat):Int) * (M:Int):=by
  simp only[sgn,qbe,qg7]
  rw[<- qer,<- Int.natCast_add,<- qbd]
 rw[e,qOf]
 have:=Rat.mkRat_mul_right (a:=M) (n:=((a+b:Nat):Int)) (d:=M) hM
 rw[this]
 simp[sgn]
theorem qoi {n d a:Nat} (ha:a≠0):qOf false (n * a) (d * a)=qOf false n d:=by
 have:=Rat.mkRat_mul_right (a:=a) (n:=((n:Nat):Int)) (d:=d) ha
 rw[qOf,qOf]
 simp only[sgn,qbe,qg7,qer]
 exact this
theorem bd9 {M N:Nat} (hM:M < 4294967296 ^ 8) (hN:N<=M):Bd 8 (qOf false N M):=qmQ (qbp (by omega)) (qbp (by omega)) (by omega)
theorem Can.wv {M N:Nat} {r:RV} (hM:M < 4294967296 ^ 8) (hN:N<=M) (h:Can r (qOf false N M)) (hf:r.fr=r):WV M r N:=⟨(h.ok (bd9 hM hN) (by omega)).mono (by omega),h.q,hf⟩
theorem WV.mul {M N a S:Nat} {r p:RV} (hM:M < 4294967296 ^ 8) (h:WV M r (N * S)) (hS:S≠0) (hp:Can p (qOf false a S)) (hpk:ROk 9 p) (hb:N * a<=M):∃ x:RV,AP cfg 69 [r.av,p.av]=some x.av/\WV M x (N * a):=by
 obtain ⟨x,e,hc,hf⟩:=V69 h.ok hpk (by omega) (by omega)
 refine ⟨x,e,Can.wv hM hb ?_ hf⟩
 rw[h.q,hp.q,qmB] at hc
 have e1:N * S * a=N * a * S:=by rw[qaO,qaI S a,<- qaO]
 rw[show (false != false)=false from rfl,e1,qoi hS] at hc
 exact hc
theorem WV.add {M N1 N2:Nat} {r1 r2:RV} (hM:M < 4294967296 ^ 8) (h0:M≠0) (h1:WV M r1 N1) (h2:WV M r2 N2) (hb:N1+N2<=M):∃ x:RV,AP cfg 71 [r1.av,r2.av]=some x.av/\WV M x (N1+N2):=by
 obtain ⟨x,e,hc,hf⟩:=V71 h1.ok h2.ok (by omega) (by omega)
 rw[h1.q,h2.q,qmC h0] at hc
 exact ⟨x,e,Can.wv hM hb hc hf⟩
theorem qwW (M:Nat):WV M zR 0:=⟨⟨⟨by simp[zR,qhR,Dg],by simp[zR,qhR],fun _=>rfl⟩,⟨by simp[zR,qhR,Dg],by simp[zR,qhR],fun _=>rfl⟩,by simp[zR,qhR],by simp[zR,qhR]⟩,by rw[qiu];exact qit _ _,rfl⟩
theorem qoj {M:Nat} (h0:M≠0):qOf false M M=1:=by
 have:=qoi (n:=1) (d:=1) h0
 rw[qek] at this
 rw[this];rfl
theorem qFs {M:Nat} (hM:M < 4294967296 ^ 8) (h0:M≠0):WV M qkr M:=Can.wv hM (qak _) (by rw[qoj h0];exact qCW) rfl
def dm (E:List (Int×RV)):List (AV×AV):=E.map fun p=>(.int .i64 p.1,p.2.av)
def lk:List (Int×RV)->Int->Option RV
 | [],_=>none
 | p::E,k=>if p.1=k then some p.2 else lk E k
def pm (E:List (Int×RV)) (k:Int) (r:RV):List (Int×RV):=match lk E k with
 | some _=>E.map fun p=>if p.1=k then (p.1,r) else p
 | none=>E++[(k,r)]
theorem qAC (a k:Int):qiX (.int .i64 a) (.int .i64 k)=decide (a=k):=by simp[qiX,qnE]
theorem qpd (k:Int):∀ E:List (Int×RV),(dm E).find? (fun p=>qiX p.1 (.int .i64 k))=(lk E k).map fun r=>(.int .i64 k,r.av)
 | []=>rfl
 | p::E=>by
  rw[dm,qaX,List.find?_cons,qAC,lk]
  by_cases h:p.1=k
  ·rw[qa6 h,qal h,h];rfl
  ·rw[qa7 h,qah h];exact qpd k E
theorem qvS {k:Int} (h:-1000000000000<=k/\k<=1000000000000):qdX (.int .i64) (.int .i64 k)=true:=by
 have h1:IntKind.min .i64<=k:=by show (-9223372036854775808:Int)<=k;omega
 have h2:k<=IntKind.max .i64:=by show k<=9223372036854775807;omega
 simp only[qdX,qnW,wfI,qa6 h1,qa6 h2,decide_true,qeo]
theorem qv0 {m:Mem} {p:Nat} {E:List (Int×RV)} {k:Int} (hp:m.get p=some (.mp (.int .i64) (dm E))) (hk:-1000000000000<=k/\k<=1000000000000):qiY (.int .i64) zR.av m (.mref p) (.int .i64 k)=some (((lk E k).getD zR).av,(lk E k).isSome):=by
 have h1:mpA m (.int .i64) (.mref p)=some (p,dm E):=by simp[mpA,hp]
 unfold qiY
 rw[h1,oBs,qal (qvS hk),qvZ,qpd]
 cases lk E k<;>rfl
theorem qDX {m:Mem} {p:Nat} {E:List (Int×RV)} {k:Int} (hp:m.get p=some (.mp (.int .i64) (dm E))) (hk:-1000000000000<=k/\k<=1000000000000) (hl:E.length<=1000000000) (r:RV):qk0 (.int .i64) m (.mref p) (.int .i64 k) r.av=some (m.set p (some (.mp (.int .i64) (dm (pm E k r))))):=by
 have h1:mpA m (.int .i64) (.mref p)=some (p,dm E):=by simp[mpA,hp]
 unfold qk0
 rw[h1,oBs,qal ⟨qvS hk,rfl,by rw[dm,qaE];unfold maxLen;omega⟩]
 have hf:=qpd k E
 congr 5
 unfold qoh pm
 cases hq:lk E k with
 | none=>
  rw[hq,Option.map_none,List.find?_eq_none] at hf
  have:(dm E).any (fun p=>qiX p.1 (.int .i64 k))=false:=by rw[List.any_eq_false];exact hf
  rw[this]
  simp[dm]
 | some r0=>
  rw[hq] at hf
  have:(dm E).any (fun p=>qiX p.1 (.int .i64 k))=true:=by
   rw[List.any_eq_true]
   exact ⟨_,List.mem_of_find?_eq_some hf,List.find?_some (p:=fun p:AV×AV=>qiX p.1 (.int .i64 k)) hf⟩
  rw[this]
  simp only[dm,List.map_map]
  refine List.map_congr_left fun p hp=>?_
  simp only[Function.comp]
  rw[qAC]
  by_cases h:p.1=k
  ·rw[qa6 h,qal rfl,qal h]
  ·rw[qa7 h,qah (by simp),qah h]
theorem qAN (E:List (Int×RV)) (k:Int) (r:RV):(pm E k r).length<=E.length+1:=by
 unfold pm
 split<;>simp
theorem qAE (k k':Int) (r:RV):∀ E:List (Int×RV),lk (E++[(k,r)]) k'=match lk E k' with | some x=>some x | none=>if k=k' then some r else none
 | []=>rfl
 | p::E=>by
  rw[qas,lk,lk]
  by_cases h:p.1=k'
  ·rw[qal h,qal h]
  ·rw[qah h,qah h,qAE k k' r E]
theorem qAF (k k':Int) (r:RV):∀ E:List (Int×RV),lk (E.map fun p=>if p.1=k then (p.1,r) else p) k'=if k=k' then (lk E k').map fun _=>r else lk E k'
 | []=>by simp[lk]
 | p::E=>by
  rw[qaX,lk,qAF k k' r E,lk]
  by_cases h:p.1=k
  ·subst h
   rw[qal rfl]
   by_cases h2:p.1=k'
   ·rw[qal h2,qal h2,qal h2];rfl
   ·simp[h2]
  ·rw[qah h]
   by_cases h2:p.1=k'
   ·subst h2
    have h3:¬ k=p.1:=fun e=>h e.symm
    rw[qal rfl,qah h3];simp
   ·simp[h2]
theorem qE0 (E:List (Int×RV)) (k k':Int) (r:RV):lk (pm E k r) k'=if k=k' then some r else lk E k':=by
 unfold pm
 cases hq:lk E k with
 | none=>
  simp only[qAE]
  by_cases h:k=k'
  ·subst h;rw[hq]
  ·rw[qah h,qah h];cases lk E k'<;>rfl
 | some x=>
  simp only[qAF]
  by_cases h:k=k'
  ·subst h;rw[qal rfl,qal rfl,hq];rfl
  ·rw[qah h,qah h]
def Rep (M:Nat) (E:List (Int×RV)) (T:Nat->Nat):Prop:=∀ j:Nat,WV M ((lk E j).getD zR) (T j)
theorem Rep.put {M:Nat} {E:List (Int×RV)} {T:Nat->Nat} (h:Rep M E T) {k N:Nat} {r:RV} (hr:WV M r N):Rep M (pm E k r) (upd T k N):=fun j=>by
 rw[qE0]
 unfold upd
 by_cases hj:j=k
 ·subst hj;rw[qal rfl,qal rfl];exact hr
 ·rw[qah (by omega),qah hj];exact h j
theorem qsB {m:Mem} {k:Nat} {r:RV} (h:m.get k=some (.obj true [.bool r.neg,r.num.av,r.den.av])):qat (some 3) m (.ptr k 0)=some r.av:=by
 rw[qea,h];rfl
theorem qwF {m:Mem} {k:Nat} {c1 c2 c3:AV} {r:RV} (h:m.get k=some (.obj true [c1,c2,c3])):qaR (some 3) m (.ptr k 0) r.av=some (m.set k (some (.obj true [.bool r.neg,r.num.av,r.den.av]))):=by
 rw[qlJ,h];rfl
section
variable {s:Nat} {F:List Nat} {zs:Bool} {os:Own} {most:Int} {l:List ND} {ar:List Int}
def ab (ar:List Int) (l:List ND) (i:Nat):Int:=abv ar.length (l.getD i ⟨0,[],0⟩)
theorem A67 {m:Mem} (h:St8 m s F (IA zs os ar) most l) {pb:Nat} (hb:m.get pb=some (.obj true [.ptr s 0])) {x y:Nat} (hx:x < l.length) (hy:y < l.length) (hal:ar.length<=16) (g:GoodL ar l):∃ m',AC cfg 67 [ni x,ni y,.ptr pb 0] m=some (.int .i64 (ab ar l x - ab ar l y),m')/\Fr m m' []:=by
 obtain ⟨m1,e1,f1⟩:=A57 h hx
 have h1:St8 m1 s F (IA zs os ar) most l:=h.fr f1 (fun _ _ h=>by cases h)
 obtain ⟨m2,e2,f2⟩:=A57 h1 hy
 have hb1:m1.get pb=some (.obj true [.ptr s 0]):=by rw[f1.get pb (qbz hb) (by simp)];exact hb
 refine ⟨m2,?_,Fr.trans f1 f2 fun _ h=>by cases h⟩
 have bnd:∀ i (hi:i < l.length),-2<=abv ar.length l[i]/\abv ar.length l[i]<=16:=fun i hi=>by
  unfold abv
  split
  ·have:=(g.var i hi (by omega)).1;omega
  ·omega
 have b1:=bnd x hx
 have b2:=bnd y hy
 unfold ab
 rw[qeD hx,qeD hy,T67,qgm hb,oBs,oBs,e1,oBs]
 rw[qh0 (by rw[qgm hb1];rfl),e2,oBs,qel,qbQ (by omega) (by omega),oBs]
theorem qGV {m0:Mem} {nm:Nat} (h:St8 m0 s F (IA zs os ar) most l) (hnF:nm∉F) {pb:Nat} (hb:m0.get pb=some (.obj true [.ptr s 0])) (hne:pb≠nm) (hal:ar.length<=16) (g:GoodL ar l):qiG m0 nm l.length (.ptr pb 0) (ab ar l):=fun m f x y hx hy=>
 A67 (h.fr f fun a ha hh=>hnF (by simpa [List.mem_singleton.1 hh] using ha)) (by rw[f.get pb (qbz hb) (by simpa using hne)];exact hb) hx hy hal g
end
end Go.Ab

/- Weigh by value: one node's arms; all nodes. -/
set_option maxRecDepth 100000
namespace Go.Ab
open Go.Proofs Go.Proofs.Tryz
abbrev OL:=Pq.OL
abbrev IL:=Pq.IL
def sOf (L:OL) (u j:Nat):Nat:=(((L.es.map Pq.IL.ns).getD u []).getD j 0).toNat
structure OddsOk (ar:List Int) (L:OL):Prop where
 len:L.es.length=ar.length
 row:∀ (u:Nat) (h:u < L.es.length),Pq.RowOk L.es[u]/\(L.es[u].ns.length:Int)=ar.getD u 0
theorem qwA {L:OL} {u:Nat} (h:u < L.es.length) (j:Nat):sOf L u j=(L.es[u].ns.getD j 0).toNat:=by
 unfold sOf
 rw[qaa (l:=L.es.map Pq.IL.ns),qiL,qam h];rfl
theorem qDN:∀ (l:List Int),(∀ o∈l,0<=o)->qgA l.length (fun j=>(l.getD j 0).toNat)=l.sum.toNat/\0<=l.sum:=by
 have key:∀ (l:List Int),(∀ o∈l,0<=o)->(((List.range l.length).map fun j=>(l.getD j 0).toNat).sum:Nat)=l.sum.toNat/\0<=l.sum:=by
  intro l
  induction l with
  | nil=>intro _;exact ⟨rfl,by simp⟩
  | cons a l ih=>
   intro h
   obtain ⟨h1,h2⟩:=ih fun o ho=>h o (qax _ ho)
   have ha:=h a qaC
   rw[qad,List.range_succ_eq_map,qaX,qbN,List.map_map,qbN]
   refine ⟨?_,by omega⟩
   have e:((fun j=>((a::l).getD j 0).toNat) ∘ Nat.succ)=fun j=>(l.getD j 0).toNat:=by funext j;rfl
   rw[e,h1]
   show a.toNat+_=_
   omega
 exact key
theorem OddsOk.ss {ar:List Int} {L:OL} (h:OddsOk ar L) {u:Nat} (hu:u < L.es.length):SS ar (sOf L) u=L.es[u].ns.sum.toNat/\0 < SS ar (sOf L) u/\SS ar (sOf L) u<=64000:=by
 obtain ⟨r,hl⟩:=h.row u hu
 have e:SS ar (sOf L) u=L.es[u].ns.sum.toNat:=by
  rw[<- (qDN L.es[u].ns fun o ho=>(r.2.1 o ho).1).1]
  unfold SS
  rw[show ql3 ar u=L.es[u].ns.length by unfold ql3;omega]
  exact qdI fun j _=>qwA hu j
 obtain ⟨S,hS,h0,hb⟩:=r.sum
 rw[hS] at e
 exact ⟨by rw[e,hS],by rw[e];omega,by rw[e];omega⟩
theorem qCy {ar:List Int} {s:Nat->Nat->Nat} (h:∀ v,v < ar.length->0 < SS ar s v/\SS ar s v<=64000):∀ d v,v+d<=ar.length->0 < PM ar s d v/\PM ar s d v<=64000 ^ d
 | 0,v,_=>⟨Nat.one_pos,qak _⟩
 | d+1,v,hv=>by
  obtain ⟨h1,h2⟩:=h v (by omega)
  obtain ⟨h3,h4⟩:=qCy h d (v+1) (by omega)
  refine ⟨Nat.mul_pos h1 h3,?_⟩
  rw[PM,qbB,qaI]
  exact qdU h4 h2
theorem qu2 {ar:List Int} {s:Nat->Nat->Nat} (h:∀ v,v < ar.length->0 < SS ar s v/\SS ar s v<=64000) (hal:ar.length<=16):PM ar s ar.length 0≠0/\PM ar s ar.length 0 < 4294967296 ^ 8:=by
 obtain ⟨h1,h2⟩:=qCy h ar.length 0 (by omega)
 refine ⟨by omega,qa2 h2 ?_⟩
 exact qa2 (qbA (by omega) hal) (by decide)
theorem OddsOk.all {ar:List Int} {L:OL} (h:OddsOk ar L):∀ v,v < ar.length->0 < SS ar (sOf L) v/\SS ar (sOf L) v<=64000:=fun v hv=>(h.ss (by rw[h.len];exact hv)).2
theorem qFe {ar:List Int} {L:OL} (h:OddsOk ar L) {u:Nat} (hu:u < L.es.length) {j:Nat} (hj:j < L.es[u].ns.length):∃ p:RV,AP cfg 70 [(L.es[u].fr).av,.int .i64 (j:Int)]=some p.av/\Can p (qOf false (sOf L u j) (SS ar (sOf L) u))/\ROk 9 p/\p.fr=p:=by
 obtain ⟨r,hl⟩:=h.row u hu
 have r':Pq.RowOk L.es[u].fr:=r
 obtain ⟨p,e,hc,hf⟩:=Pq.V70 r' (i:=j) hj
 have e1:Pq.partQ L.es[u].fr j=qOf false (sOf L u j) (SS ar (sOf L) u):=by rw[(h.ss hu).1,qwA hu];rfl
 have hb:=Pq.partQ_bd r (i:=j) hj
 have hb':Bd 1 (qOf false (sOf L u j) (SS ar (sOf L) u)):=by rw[<- e1];exact hb
 rw[e1] at hc
 exact ⟨p,e,hc,(hc.ok hb' (by omega)).mono (by omega),hf⟩
abbrev bR (r:RV):Option Ent:=some (.obj true [.bool r.neg,r.num.av,r.den.av])
abbrev bZ:Option Ent:=some (.obj true [.bool false,.lst none true .full [],.lst none true .full []])
theorem qe4 (m:Mem) (e e':Option Ent) {k:Nat} (hk:k=m.length):List.set (m++[e]) k e'=m++[e']:=by
 subst hk
 rw[qcV _ _ (qak _),qd1];rfl
theorem qmF (m:Mem) (e f e':Option Ent) {k:Nat} (hk:k=m.length):List.set ((m++[e])++[f]) k e'=(m++[e'])++[f]:=by
 rw[List.set_append_left _ _ (by simp;omega),qe4 m e e' hk]
theorem qwr (m:Mem):qbm m 1=m++[some .resv]:=rfl
theorem qAS (m:Mem):qbm m 2=(m++[some .resv])++[some .resv]:=by simp[qbm,List.replicate]
section
variable {M:Nat} {pd:Nat}
theorem qIZ {ar:List Int} {L:OL} (hO:OddsOk ar L) {l:List ND} {k u:Nat} (hk:k < l.length) (hu:l[k].var=u) (hul:u < L.es.length) (hM:M < 4294967296 ^ 8) (h0:M≠0) {t:Nat} {w:RV} (hw:WV M w (t * SS ar (sOf L) u)) {T:Nat->Nat}
  (hb:∀ (A:List (Nat×Nat)) (p:Nat×Nat) (A':List (Nat×Nat)),qeT ar (sOf L) l[k]=A++p::A'->qdY t A T p.1+t * p.2<=M) (hkn:∀ (i:Nat) (h:i < l[k].kids.length),∃ q:Nat,l[k].kids[i]=q/\q<=1000000) (hkl:l[k].kids.length=ql3 ar u) (hk6:ql3 ar u<=64)
  {c:Nat} {z:Bool} {o:Own} (x3 x8 x12 x52 x53 x54:AV) (K:KT):∀ (d j:Nat) (m:Mem) (E:List (Int×RV)),j+d=l[k].kids.length->pd < c->c+1 < m.length ->
  m.get c=some (.obj true [.int .i64 l[k].var,qdE l[k],.int .i64 l[k].leaf])->m.get (c+1)=bR w->m.get pd=some (.mp (.int .i64) (dm E))->Rep M E (qdY t ((qeT ar (sOf L) l[k]).take j) T)->E.length+d<=900000000 ->
  ∃ (m':Mem) (E':List (Int×RV)),qgf L.av x3 x8 (.mref pd) x12 (.ptr c 0) (.ptr (c+1) 0) x52 x53 x54 (IA z o l[k].kids) (.int .i64 l[k].kids.length) (.int .i64 j) m K=K (.exit 2) (qqU L.av x3 x8 (.mref pd) x12 x52 x53 x54 m')/\Fr m m' [pd]/\m'.get pd=some (.mp (.int .i64) (dm E'))/\Rep M E' (qdY t (qeT ar (sOf L) l[k]) T)/\E'.length<=E.length+d:=by
 have hut:l[k].var.toNat=u:=by omega
 have hWl:(qeT ar (sOf L) l[k]).length=l[k].kids.length:=by unfold qeT;rw[qaE,List.length_range,hut,hkl]
 intro d
 induction d with
 | zero=>
  intro j m E hj hpc hcm hgc hgw hgp hR hE
  refine ⟨m,E,?_,Fr.refl _ _,hgp,by rw[qbg (by omega)] at hR;exact hR,by omega⟩
  rw[qjR,qaU,oBs,qap,qah (by omega)]
 | succ d ih=>
  intro j m E hj hpc hcm hgc hgw hgp hR hE
  have hjl:j < l[k].kids.length:=by omega
  obtain ⟨q,eq,hq⟩:=hkn j hjl
  have hgd:l[k].kids.getD j 0=(q:Int):=by rw[qaa,qam hjl,qaP,eq]
  have hWj:(qeT ar (sOf L) l[k])[j]'(by omega)=(q,sOf L u j):=by
   unfold qeT
   rw[qfy,List.getElem_range,hgd,hut];rfl
  have hsplit:qeT ar (sOf L) l[k]=(qeT ar (sOf L) l[k]).take j++(q,sOf L u j)::(qeT ar (sOf L) l[k]).drop (j+1):=by
   rw[<- hWj,<- qbr,qbj]
  have hbj:=hb _ _ _ hsplit
  dsimp only at hbj
  have htk:(qeT ar (sOf L) l[k]).take (j+1)=(qeT ar (sOf L) l[k]).take j++[(q,sOf L u j)]:=by rw[qbW (by omega),hWj]
  generalize hTj:qdY t ((qeT ar (sOf L) l[k]).take j) T=Tj at hR hbj
  have hjr:j < L.es[u].ns.length:=by have:=(hO.row u hul).2;unfold ql3 at hkl;omega
  obtain ⟨p,ep,cp,op,fp⟩:=qFe hO hul hjr
  obtain ⟨x,ex,wx⟩:=hw.mul hM (Nat.pos_iff_ne_zero.1 (hO.ss hul).2.1) cp op (by omega)
  have hS:=hO.ss hul
  have hix:=Pq.index_ol (l:=L) (kk:=.i64) hul
  have hidx:qag none (IA z o l[k].kids) (.int .i64 j)=some (.vptr [.int .i64 (q:Int)]):=by rw[qeN hjl,eq]
  have hc1:=qbz hgc
  have hpl:=qbz hgp
  have ldw:qat (some 3) (qbm m 1) (.ptr (c+1) 0)=some w.av:=qsB (by rw[qwr,qey (by omega)];exact hgw)
  have ldv:qat none (qbm m 1) (.ptr c (0+0))=some (.int .i64 u):=by rw[qea,qwr,qey (by omega),hgc,hu];rfl
  have p70:qaN (AP cfg) (some m.length) (qbm m 1) 70 [L.es[u].av,.int .i64 j]=some (p.av,qbm m 1):=by rw[qcH (Pq.fz_il _) (qcR _ _),ep];rfl
  have p69:qaN (AP cfg) (some m.length) (qbm m 1) 69 [w.av,p.av]=some (x.av,qbm m 1):=by rw[qcH (qdQ w) (qdQ p),hw.fr,fp,ex];rfl
  have m1e:((qaH (some m.length) (qbm m 1) (.obj true [.bool false,.lst none true .full [],.lst none true .full []])).2)=m++[bZ]:=by rw[qDs,qwr,qe4 m _ _ rfl]
  have st1:qaR (some 3) (m++[bZ]) (.ptr m.length 0) x.av=some (m++[bR x]):=by rw[qwF (qev rfl),qe4 m _ _ rfl]
  have hgp1:Mem.get (m++[bR x]) pd=some (.mp (.int .i64) (dm E)):=by rw[qey hpl];exact hgp
  have lkq:=qv0 hgp1 (k:=(q:Int)) (by omega)
  have m2e:(qaH none (m++[bR x]) (.obj true [.bool false,.lst none true .full [],.lst none true .full []])).2=(m++[bR x])++[bZ]:=rfl
  have l1:(m++[bR x]).length=m.length+1:=by simp
  generalize hr:(lk E q).getD zR=r at lkq
  have wr:WV M r (Tj q):=by rw[<- hr];exact hR q
  have st2:qaR (some 3) ((m++[bR x])++[bZ]) (.ptr (m.length+1) 0) r.av=some ((m++[bR x])++[bR r]):=by
   rw[qwF (c1:=.bool false) (c2:=.lst none true .full []) (c3:=.lst none true .full []) (qev l1.symm),qe4 _ _ _ l1.symm]
  have ldx:qat (some 3) ((m++[bR x])++[bR r]) (.ptr m.length 0)=some x.av:=qsB (by rw[qey (by simp),qev rfl])
  have ldr:qat (some 3) ((m++[bR x])++[bR r]) (.ptr (m.length+1) 0)=some r.av:=qsB (qev l1.symm)
  have fin:∀ (y:RV) (M2:Mem),WV M y (Tj q+t * sOf L u j)->Fr m M2 []->m.length<=M2.length ->
    ∃ (m':Mem) (E':List (Int×RV)),((qk0 (.int .i64) M2 (.mref pd) (.int .i64 (q:Int)) y.av).bind fun m21=>(qaz .other .add (.int .i64 (j:Int)) (.int .i64 1)).bind fun v22=>qgf L.av x3 x8 (.mref pd) x12 (.ptr c 0) (.ptr (c+1) 0) x52 x53 x54 (IA z o l[k].kids) (.int .i64 l[k].kids.length) v22 m21 K)=K (.exit 2) (qqU L.av x3 x8 (.mref pd) x12 x52 x53 x54 m')/\Fr m m' [pd]/\m'.get pd=some (.mp (.int .i64) (dm E'))/\Rep M E' (qdY t (qeT ar (sOf L) l[k]) T)/\E'.length<=E.length+(d+1):=by
   intro y M2 wy f2 hl2
   have hg2:M2.get pd=some (.mp (.int .i64) (dm E)):=by rw[f2.get pd hpl (by simp)];exact hgp
   have hpl2:=qbz hg2
   have up:=qDX hg2 (k:=(q:Int)) (by omega) (by omega) y
   have ple:=qAN E q y
   have fr2:Fr m (M2.set pd (some (.mp (.int .i64) (dm (pm E q y))))) [pd]:=(f2.mono (by simp)).set _ (.inl (by simp))
   obtain ⟨m',E',e,k1,k2,k3,k4⟩:=ih (j+1) (M2.set pd (some (.mp (.int .i64) (dm (pm E q y))))) (pm E q y) (by omega) hpc (by rw[qai];omega) (by rw[qdb (by omega),f2.get c hc1 (by simp)];exact hgc) (by rw[qdb (by omega),f2.get (c+1) hcm (by simp)];exact hgw) (qdF rfl hpl2) (by
    rw[htk,qhC,hTj]
    exact hR.put wy) (by omega)
   refine ⟨m',E',?_,Fr.trans fr2 k1 (fun a ha=>.inl ha),k2,k3,by omega⟩
   rw[up,oBs,qbM (by omega),oBs]
   exact e
  have pre:qgf L.av x3 x8 (.mref pd) x12 (.ptr c 0) (.ptr (c+1) 0) x52 x53 x54 (IA z o l[k].kids) (.int .i64 l[k].kids.length) (.int .i64 j) m K =
    ifA (.bool (lk E q).isSome) (
     (qat (some 3) ((m++[bR x])++[bR r]) (.ptr (m.length+1) 0)).bind fun v16=>
     (qat (some 3) ((m++[bR x])++[bR r]) (.ptr m.length 0)).bind fun v17=>
     (qaN (AP cfg) none ((m++[bR x])++[bR r]) 71 [v16,v17]).bind fun r18=>
     (qaR (some 3) r18.2 (.ptr m.length 0) r18.1).bind fun m19=>
     (qat (some 3) m19 (.ptr m.length 0)).bind fun v20=>
     (qk0 (.int .i64) m19 (.mref pd) (.int .i64 (q:Int)) v20).bind fun m21=>
     (qaz .other .add (.int .i64 (j:Int)) (.int .i64 1)).bind fun v22=>
     qgf L.av x3 x8 (.mref pd) x12 (.ptr c 0) (.ptr (c+1) 0) x52 x53 x54 (IA z o l[k].kids) (.int .i64 l[k].kids.length) v22 m21 K) (
     (qat (some 3) ((m++[bR x])++[bR r]) (.ptr m.length 0)).bind fun v23=>
     (qk0 (.int .i64) ((m++[bR x])++[bR r]) (.mref pd) (.int .i64 (q:Int)) v23).bind fun m24=>
     (qaz .other .add (.int .i64 (j:Int)) (.int .i64 1)).bind fun v25=>
     qgf L.av x3 x8 (.mref pd) x12 (.ptr c 0) (.ptr (c+1) 0) x52 x53 x54 (IA z o l[k].kids) (.int .i64 l[k].kids.length) v25 m24 K):=by
   rw[qjR,qaU,oBs,qap,qal (by omega),hidx,oBs,qbs,oBs,ldw,oBs,qgk,oBs,ldv,oBs,hix,oBs,Pq.load_ol,oBs,p70,oBs]
   dsimp only
   rw[p69,oBs]
   dsimp only
   rw[m1e,show (qaH (some m.length) (qbm m 1) Ent.resv).1=m.length from rfl,st1,oBs,show (AV.agg [.bool false,.lst none true .full [],.lst none true .full []])=zR.av from rfl,lkq,oBs]
   dsimp only
   rw[show ∀ a b:AV,qaF (.tup [a,b]) 0=some a from fun _ _=>rfl,oBs,show ∀ a b:AV,qaF (.tup [a,b]) 1=some b from fun _ _=>rfl,oBs,m2e,show (qaH none (m++[bR x]) Ent.resv).1=m.length+1 from l1,st2,oBs]
  rw[pre]
  cases hlk:lk E q with
  | none=>
   rw[Option.isSome_none,qdW,ldx,oBs]
   have hz:Tj q=0:=by
    have h1:=hR q
    rw[hlk,Option.getD_none] at h1
    have h2:=(qwW M).q
    rw[h1.q,qiu,qwn h0] at h2
    exact h2
   obtain ⟨m',E',e,kk⟩:=fin x ((m++[bR x])++[bR r]) (by rw[hz,qar];exact wx) (((Fr.refl m []).snoc _).snoc _) (by simp)
   exact ⟨m',E',e,kk⟩
  | some r0=>
   obtain ⟨y,ey,wy⟩:=wr.add hM h0 wx hbj
   have p71:qaN (AP cfg) none ((m++[bR x])++[bR r]) 71 [r.av,x.av]=some (y.av,(m++[bR x])++[bR r]):=by rw[qcH (qdQ r) (qdQ x),wr.fr,wx.fr,ey];rfl
   have st3:qaR (some 3) ((m++[bR x])++[bR r]) (.ptr m.length 0) y.av=some ((m++[bR y])++[bR r]):=by
    rw[qwF (c1:=.bool x.neg) (c2:=x.num.av) (c3:=x.den.av) (by rw[qey (by simp),qev rfl]),qmF m _ _ _ rfl]
   have ldy:qat (some 3) ((m++[bR y])++[bR r]) (.ptr m.length 0)=some y.av:=qsB (by rw[qey (by simp),qev rfl])
   rw[Option.isSome_some,qfw,ldr,oBs,ldx,oBs,p71,oBs]
   dsimp only
   rw[st3,oBs,ldy,oBs]
   obtain ⟨m',E',e,kk⟩:=fin y ((m++[bR y])++[bR r]) wy (((Fr.refl m []).snoc _).snoc _) (by simp)
   exact ⟨m',E',e,kk⟩
end
end Go.Ab

/- Weigh by value: all nodes. -/
set_option maxRecDepth 100000
namespace Go.Ab
open Go.Proofs Go.Proofs.Tryz
def qmU (M:Nat) (En:List (Int×RV)) (D:List (Int×Nat)):Prop:=∀ p∈D,∃ r,lk En p.1=some r/\WV M r p.2
theorem qmU.put {M:Nat} {En:List (Int×RV)} {D:List (Int×Nat)} (h:qmU M En D) {c:Int} {N:Nat} {r:RV} (hc:c∉D.map Prod.fst) (hr:WV M r N):qmU M (pm En c r) (D++[(c,N)]):=fun p hp=>by
 rw[qE0]
 rcases qaW.1 hp with hp | hp
 ·rw[qah (fun e=>hc (by rw[e];exact List.mem_map_of_mem hp))]
  exact h p hp
 ·obtain rfl:p=(c,N):=by simpa using hp
  rw[qal rfl]
  exact ⟨r,rfl,hr⟩
abbrev bN (n:ND):Option Ent:=some (.obj true [.int .i64 n.var,qdE n,.int .i64 n.leaf])
section
variable {s:Nat} {F:List Nat} {zs:Bool} {os:Own} {most:Int} {l:List ND} {ar:List Int}
theorem qF3 {L:OL} (hO:OddsOk ar L) (g:GoodL ar l) (h1:∀ x∈ar,1<=x/\x<=64) (hal:ar.length<=16) (hll:l.length<=100000) {M0:Mem} (h0:St8 M0 s F (IA zs os ar) most l) {pb pd pe nm:Nat} (hpd:pd∉F) (hpe:pe∉F) (hne:pd≠pe) (hb0:M0.get pb=some (.obj true [.ptr s 0])) (hbd:pb≠pd) (hbe:pb≠pe) {ids:List Nat} (hn0:M0.get nm=some (.obj false (ds ids))) (hnd:nm≠pd) (hnp:nm≠pe)
  (hil:ids.length<=100000) (x8:AV) (K:KT):∀ (R P:List Nat) (m:Mem) (E En:List (Int×RV)) (T:Nat->Nat) (done:Nat) (D:List (Int×Nat)),ids=P++R->Flow ar (sOf L) l R T done->Fr M0 m [pd,pe]->m.get pd=some (.mp (.int .i64) (dm E))->m.get pe=some (.mp (.int .i64) (dm En)) ->
  Rep (PM ar (sOf L) ar.length 0) E T->qmU (PM ar (sOf L) ar.length 0) En D->((D++run ar (sOf L) l R T).map Prod.fst).Nodup->E.length+64 * R.length<=900000000->En.length+R.length<=900000000 ->
  ∃ (m':Mem) (En':List (Int×RV)),qlc L.av (.ptr pb 0) x8 (.mref pd) (.mref pe) (.arr nm 0 ids.length none) (.int .i64 ids.length) (.int .i64 P.length) m K=K (.exit 0) (quW x8 (.mref pe) m')/\Fr M0 m' [pd,pe]/\m'.get pe=some (.mp (.int .i64) (dm En'))/\qmU (PM ar (sOf L) ar.length 0) En' (D++run ar (sOf L) l R T):=by
 obtain ⟨hM0,hM8⟩:=qu2 hO.all hal
 intro R
 induction R with
 | nil=>
  intro P m E En T done D hPR hF f hgd hge hR hEn hnod hE1 hE2
  rw[qav] at hPR
  subst hPR
  refine ⟨m,En,?_,f,hge,by rw[run,qav];exact hEn⟩
  rw[qnt,qaU,oBs,qap,qah (by omega)]
 | cons k R ih=>
  intro P m E En T done D hPR hF f hgd hge hR hEn hnod hE1 hE2
  have hk:=hF.lt k qaC
  have hPl:P.length < ids.length:=by rw[hPR];simp
  have hnot:∀ a∈F,a∉[pd,pe]:=fun a ha hh=>by
   simp only[qa1,List.not_mem_nil,or_false] at hh
   rcases hh with rfl | rfl
   ·exact hpd ha
   ·exact hpe ha
  have hst:=h0.fr f hnot
  obtain ⟨p0,na,TT,st,_⟩:=hst
  have hok:=st.ok _ (qaJ hk)
  have hgb:m.get pb=some (.obj true [.ptr s 0]):=by rw[f.get pb (qbz hb0) (by simp[hbd,hbe])];exact hb0
  have hgn:m.get nm=some (.obj false (ds ids)):=by rw[f.get nm (qbz hn0) (by simp[hnd,hnp])];exact hn0
  have hpbl:=qbz hgb
  have hpdl:=qbz hgd
  have hpel:=qbz hge
  have hsl:=qbz st.hs
  have rg:∀ x,x < m.length->Mem.get (qbm m 2) x=m.get x:=fun x hx=>by rw[qAS,qey (by simp;omega),qey hx]
  have ix:qag none (.arr nm 0 ids.length none) (.int .i64 P.length)=some (.ptr nm P.length):=qbf hPl
  have ldk:qat none m (.ptr nm P.length)=some (.int .i64 (k:Nat)):=by
   rw[qea,hgn,qd5,oBs,qC0]
   exact qvz (by rw[hPR];simp)
  have ldb:qat none (qbm m 2) (.ptr pb 0)=some (.ptr s 0):=qgm (by rw[rg _ hpbl];exact hgb)
  have ldn:qat none (qbm m 2) (.ptr s (0+1))=some na:=by rw[qea,rg _ hsl,st.hs];rfl
  have hnx:=qob st.hn hk
  have ldv:qat (some 3) (qbm m 2) (.vptr [.int .i64 l[k].var,qdE l[k],.int .i64 l[k].leaf])=some l[k].av:=rfl
  have lkq:=qv0 (m:=qbm m 2) (p:=pd) (E:=E) (k:=(k:Int)) (by rw[rg _ hpdl];exact hgd) (by omega)
  generalize hw:(lk E k).getD zR=w at lkq
  have ww:WV (PM ar (sOf L) ar.length 0) w (T k):=by rw[<- hw];exact hR k
  have e1:((qaH (some (m.length+1)) (qaH (some m.length) (qbm m 2) (.obj true [.int .i64 0,.lst none true .full [],.int .i64 0])).2 (.obj true [.bool false,.lst none true .full [],.lst none true .full []])).2)=(m++[some (.obj true [.int .i64 0,.lst none true .full [],.int .i64 0])])++[bZ]:=by
   rw[qDs,qDs,qAS,qmF m _ _ _ rfl,qe4 _ _ _ (by simp)]
  have hsh:qeJ (some 3) l[k].av=true:=by unfold ND.av qdE;split<;>rfl
  have st1:qaR (some 3) ((m++[some (.obj true [.int .i64 0,.lst none true .full [],.int .i64 0])])++[bZ]) (.ptr m.length 0) l[k].av=some ((m++[bN l[k]])++[bZ]):=by
   rw[show l[k].av=.agg [.int .i64 l[k].var,qdE l[k],.int .i64 l[k].leaf] from rfl,qpP (a:=.int .i64 0) (b:=.lst none true .full []) (c:=.int .i64 0) (by rw[qey (by simp),qev rfl]) hsh,qmF m _ _ _ rfl]
  have st2:qaR (some 3) ((m++[bN l[k]])++[bZ]) (.ptr (m.length+1) 0) w.av=some ((m++[bN l[k]])++[bR w]):=by
   rw[qwF (c1:=.bool false) (c2:=.lst none true .full []) (c3:=.lst none true .full []) (qev (by simp)),qe4 _ _ _ (by simp)]
  have gn:Mem.get ((m++[bN l[k]])++[bR w]) m.length=some (.obj true [.int .i64 l[k].var,qdE l[k],.int .i64 l[k].leaf]):=by rw[qey (by simp),qev rfl]
  have gw:Mem.get ((m++[bN l[k]])++[bR w]) (m.length+1)=bR w:=qev (by simp)
  have gl:∀ x,x < m.length->Mem.get ((m++[bN l[k]])++[bR w]) x=m.get x:=fun x hx=>by rw[qey (by simp;omega),qey hx]
  have fM:Fr m ((m++[bN l[k]])++[bR w]) []:=((Fr.refl m []).snoc _).snoc _
  have lM:((m++[bN l[k]])++[bR w]).length=m.length+2:=by simp
  generalize hMM:(m++[bN l[k]])++[bR w]=MM at gn gw gl fM lM st2
  have ld0:qat none MM (.ptr m.length (0+0))=some (.int .i64 l[k].var):=by rw[qea,gn];rfl
  have ld1:∀ M',M'.get m.length=some (.obj true [.int .i64 l[k].var,qdE l[k],.int .i64 l[k].leaf])->qat none M' (.ptr m.length (0+1))=some (qdE l[k]):=fun M' h=>by rw[qea,h];rfl
  have ld2:qat none MM (.ptr m.length (0+2))=some (.int .i64 l[k].leaf):=by rw[qea,gn];rfl
  have ldw:qat (some 3) MM (.ptr (m.length+1) 0)=some w.av:=qsB gw
  have hkA:=qpp hok
  have hP1:(P++[k]).length=P.length+1:=by simp
  have pre:qlc L.av (.ptr pb 0) x8 (.mref pd) (.mref pe) (.arr nm 0 ids.length none) (.int .i64 ids.length) (.int .i64 P.length) m K =
    ifA (.bool (decide (l[k].var < 0))) (
     (qk0 (.int .i64) MM (.mref pe) (.int .i64 l[k].leaf) w.av).bind fun m19=>
     (some (AV.ptr m.length (0+1))).bind fun v20=>
     (qat none m19 v20).bind fun v21=>
     (qbY false v21).bind fun v22=>
     qgf L.av (.ptr pb 0) x8 (.mref pd) (.mref pe) (.ptr m.length 0) (.ptr (m.length+1) 0) (.arr nm 0 ids.length none) (.int .i64 ids.length) (.int .i64 P.length) v21 v22 (.int .i64 0) m19 (qjM K)) (
     qgf L.av (.ptr pb 0) x8 (.mref pd) (.mref pe) (.ptr m.length 0) (.ptr (m.length+1) 0) (.arr nm 0 ids.length none) (.int .i64 ids.length) (.int .i64 P.length) (IA (kz l[k]) (ko l[k]) l[k].kids) (.int .i64 l[k].kids.length) (.int .i64 0) MM (qjM K)):=by
   rw[qnt,qaU,oBs,qap,qal (by omega),ix,oBs,ldk,oBs,ldb,oBs,qh4,oBs,qgk,oBs,ldn,oBs,hnx,oBs,ldv,oBs,show (AV.agg [.bool false,.lst none true .full [],.lst none true .full []])=zR.av from rfl,lkq,oBs]
   dsimp only
   rw[e1,show (qaH (some m.length) (qbm m 2) Ent.resv).1=m.length from rfl,st1,oBs]
   have e2:∀ x,(qaH (some (m.length+1)) x Ent.resv).1=m.length+1:=fun _=>rfl
   rw[e2,st2,oBs,qgk,oBs,ld0,oBs,qaU,oBs,qgk,oBs,ld2,oBs,ldw,oBs,qgk,oBs,ld1 MM gn,oBs,hkA,qeb,oBs]
  by_cases hv:l[k].var < 0
  ·
   obtain ⟨hF',hTk,_⟩:=hF.leaf g hk hv
   have hrun:run ar (sOf L) l (k::R) T=(l[k].leaf,T k)::run ar (sOf L) l R T:=by
    rw[run,qam hk];dsimp only;rw[qal hv]
   rw[hrun] at hnod ⊢
   have hlf:-1000000000000<=l[k].leaf/\l[k].leaf<=1000000000000:=by
    rcases hok with ⟨_,_,h3⟩ | ⟨h3,_⟩<;>omega
   have hge2:MM.get pe=some (.mp (.int .i64) (dm En)):=by rw[gl _ hpel];exact hge
   have up:=qDX hge2 hlf (by simp at hE2;omega) w
   have hcn:l[k].leaf∉D.map Prod.fst:=fun hh=>by
    rw[qcA,qaX] at hnod
    exact (List.nodup_append.1 hnod).2.2 _ hh _ qaC rfl
   have ple:=qAN En l[k].leaf w
   have hk0:l[k].kids=[]:=by
    rcases hok with ⟨_,h2,_⟩ | ⟨h2,_⟩
    ·exact h2
    ·omega
   have hpl2:=qbz hge2
   have f2:Fr M0 (MM.set pe (some (.mp (.int .i64) (dm (pm En l[k].leaf w))))) [pd,pe]:=(Fr.trans f fM fun _ h=>by cases h).set _ (.inl (by simp))
   obtain ⟨m',En',e,k1,k2,k3⟩:=ih (P++[k]) _ E (pm En l[k].leaf w) T _ (D++[(l[k].leaf,T k)]) (by rw[hPR,qaL];rfl) hF' f2 (by rw[qdb hne,gl _ hpdl];exact hgd) (qdF rfl hpl2) hR (hEn.put hcn ww) (by rw[qaL];exact hnod) (by simp at hE1;omega) (by simp at hE2;omega)
   refine ⟨m',En',?_,k1,k2,by rw[qaL] at k3;exact k3⟩
   rw[hP1] at e
   have gn2:Mem.get (MM.set pe (some (.mp (.int .i64) (dm (pm En l[k].leaf w))))) m.length=some (.obj true [.int .i64 l[k].var,qdE l[k],.int .i64 l[k].leaf]):=by rw[qdb (by omega)];exact gn
   rw[pre,qa6 hv,qfw,up,oBs,oBs,ld1 _ gn2,oBs,hkA,qeb,oBs,qjR,qaU,oBs,qap,qah (by rw[hk0];simp),qm2,qbM (by omega),oBs]
   exact e
  ·
   obtain ⟨u,hu⟩:∃ u:Nat,l[k].var=u:=⟨l[k].var.toNat,by omega⟩
   have hut:l[k].var.toNat=u:=by omega
   obtain ⟨hul,htm,hmem,_,hbound,hF',_⟩:=hF.inner g (fun v hv=>(hO.all v hv).1) hk hu
   have hrun:run ar (sOf L) l (k::R) T=run ar (sOf L) l R (qdY (T k / SS ar (sOf L) u) (qeT ar (sOf L) l[k]) T):=by
    rw[run,qam hk];dsimp only;rw[qah hv,hut]
   rw[hrun] at hnod ⊢
   obtain ⟨hv1,hv2⟩:=g.var k hk (by omega)
   rw[hut] at hv2
   have hkl:l[k].kids.length=ql3 ar u:=by unfold ql3;omega
   have hk6:ql3 ar u<=64:=by
    have:=h1 _ (qaJ hul)
    unfold ql3
    rw[qaa,qam hul,qaP];omega
   have hE1':E.length+(64 * R.length+64)<=900000000:=by simp only[qad] at hE1;omega
   obtain ⟨m1,E1,e17,f1,g1,r1,hl1⟩:=qIZ hO hk hu (by rw[hO.len];exact hul) hM8 hM0 (t:=T k / SS ar (sOf L) u) (w:=w) (by rw[htm];exact ww) (T:=T) hbound (fun i hi=>by
     obtain ⟨q,e,hq⟩:=qkj g hk _ (qaJ hi)
     exact ⟨q,e,by omega⟩) hkl hk6 (c:=m.length) (z:=kz l[k]) (o:=ko l[k]) (.ptr pb 0) x8 (.mref pe) (.arr nm 0 ids.length none) (.int .i64 ids.length) (.int .i64 P.length) (qjM K) l[k].kids.length 0 MM E (by omega) hpdl (by omega) gn gw (by rw[gl _ hpdl];exact hgd) (by rw[List.take_zero];exact hR) (by omega)
   have f2:Fr M0 m1 [pd,pe]:=Fr.trans (Fr.trans f fM fun _ h=>by cases h) f1 fun a ha=>.inl (by simp at ha;simp[ha])
   have hge1:m1.get pe=some (.mp (.int .i64) (dm En)):=by rw[f1.get pe (by omega) (by simp;exact fun e=>hne e.symm),gl _ hpel];exact hge
   obtain ⟨m',En',e,k1,k2,k3⟩:=ih (P++[k]) m1 E1 En _ done D (by rw[hPR,qaL];rfl) hF' f2 g1 hge1 r1 hEn hnod (by omega) (by simp at hE2;omega)
   refine ⟨m',En',?_,k1,k2,k3⟩
   rw[hP1] at e
   have e17:qgf L.av (.ptr pb 0) x8 (.mref pd) (.mref pe) (.ptr m.length 0) (.ptr (m.length+1) 0) (.arr nm 0 ids.length none) (.int .i64 ids.length) (.int .i64 P.length) (IA (kz l[k]) (ko l[k]) l[k].kids) (.int .i64 l[k].kids.length) (.int .i64 0) MM (qjM K)=_:=e17
   rw[pre,qa7 hv,qdW,e17,qm2,qbM (by omega),oBs]
   exact e
end
end Go.Ab

/- What a node has to weigh, in values: the reference. -/
set_option maxRecDepth 100000
namespace Go.Ab.Pq
open Go.Proofs.Tryz
structure HI (c:CV) (n:ND) (s:RV) (m:Mem):Prop where
 g0:m[0]?=some (cC c)
 g1:m[1]?=some (cR zR)
 g2:m[2]?=some (cN n)
 g3:m[3]?=some (cR s)
end Go.Ab.Pq

/- Check, in values: the program's and the reference's. -/
set_option maxRecDepth 100000
namespace Go.Ab.Pq
open Go.Proofs.Tryz
theorem zip_all {L:OL} {ns:List Int} (hl:L.es.length=ns.length) (h:(L.es.zip ns).all (fun p=>rowB p.1 p.2)=true) {v:Nat} (hv:v < L.es.length):rowB L.es[v] (ns[v]'(by omega))=true:=by
 have hz:v < (L.es.zip ns).length:=by rw[List.length_zip];omega
 have:=qaV.1 h _ (qaJ hz)
 rw[List.getElem_zip] at this
 exact this
structure CI (c:CV) (m:Mem):Prop where
 g0:m[0]?=some (cC c)
 g1:m[1]?=some (cR zR)
end Go.Ab.Pq

/- Weigh by value: what is answered. -/
set_option maxRecDepth 100000
namespace Go.Ab
open Go.Proofs Go.Proofs.Tryz
def shA (c:Int) (r:RV):AV:=.agg [.int .i64 c,.bool r.neg,r.num.av,r.den.av]
inductive QR (e:Nat) (sh:Sh) (m:Mem):AV->List AV->List Nat->Prop
 | none:QR e sh m (.lst none true .full []) [] []
 | some (t:Nat) (es:List AV) (ht:m.get t=some (.tok es.length sh.size)) (hne:es≠[]):QR e sh m (.lst sh false (.tok t e) es) es [t]
theorem qDA {e:Nat} {sh:Sh} {m m':Mem} {x:AV} {l:List AV} {T:List Nat} (h:QR e sh m x l T) (f:∀ k∈T,m'.get k=m.get k):QR e sh m' x l T:=by
 cases h with
 | none=>exact .none
 | some t l ht hne=>exact .some t l ((f t (by simp)).trans ht) hne
theorem qAQ {e b:Nat} {sh:Sh} {m:Mem} {x:AV} {l:List AV} {T:List Nat} (h:QR e sh m x l T) (hb:(l.length+1) * b<=qef) (y:AV):∃ x' m' T',qd6 none false e sh b m x (.lst sh false .full [y])=some (x',m')/\QR e sh m' x' (l++[y]) T'/\Fr m m' T/\Gr m T T':=by
 cases h with
 | none=>
  refine ⟨.lst sh false (.tok m.length e) [y],m++[some (Ent.tok 1 sh.size)],[m.length],?_,.some _ [y] (by rw[qev rfl];rfl) (by simp),Fr.app m _ _,fun k hk=>?_⟩
  ·have h2:b<=qef:=by simpa using hb
   simp[qd6,h2,qaH]
  ·obtain rfl:k=m.length:=by simpa using hk
   exact .inr (qak _)
 | some t es ht _=>
  have htl:=qbz ht
  refine ⟨.lst sh false (.tok t e) (l++[y]),m.set t (some (Ent.tok (l.length+1) sh.size)),[t],?_,?_,(Fr.refl m [t]).set _ (.inl (by simp)),Gr.refl _ _⟩
  ·simp[qd6,ht,hb]
  ·refine .some t (l++[y]) ?_ (by simp)
   rw[qdF rfl htl,qab];rfl
theorem qAR {e:Nat} {sh:Sh} {m:Mem} {x:AV} {l:List AV} {T:List Nat} (h:QR e sh m x l T):(x=.lst none true .full []/\l=[])\/∃ t,x=.lst sh false (.tok t e) l:=by
 cases h with
 | none=>exact .inl ⟨rfl,rfl⟩
 | some t l ht _=>exact .inr ⟨t,rfl⟩
theorem qAL {o:Own} (h:o.fr=o):∀ a b,o≠.tok a b:=fun a b e=>by subst e;cases h
theorem qos {x:NV} (h:x.fr=x):qhq x.av=x.av:=by
 have h2:x.o.fr=x.o:=by have:=qbi NV.o h;exact this
 unfold NV.av
 cases ho:x.o with
 | tok a b=>exact absurd ho (qAL h2 a b)
 | no=>rfl
 | full=>rfl
theorem qFg {x:NV} (h:x.fr=x):pl x.av=true:=by
 have h2:x.o.fr=x.o:=by have:=qbi NV.o h;exact this
 unfold NV.av
 cases ho:x.o with
 | tok a b=>exact absurd ho (qAL h2 a b)
 | no=>rfl
 | full=>rfl
theorem qzM {c:Int} {r:RV} (h:r.fr=r):qgv (shA c r)=shA c r:=by
 have h1:r.num.fr=r.num:=qbi RV.num h
 have h2:r.den.fr=r.den:=qbi RV.den h
 unfold shA qgv
 simp only[qaX,qia,qos h1,qos h2]
 rfl
theorem qAr {c:Int} {r:RV} (h:r.fr=r):qaY (some 4) [shA c r]=some (.lst (some 4) false .full [shA c r]):=by
 have h1:r.num.fr=r.num:=qbi RV.num h
 have h2:r.den.fr=r.den:=qbi RV.den h
 have hs:qeJ (some 4) (shA c r)=true:=rfl
 have hp:pl (shA c r)=true:=by
  show (pl (.int .i64 c) && (pl (.bool r.neg) && (pl r.num.av && (pl r.den.av && true))))=true
  rw[qFg h1,qFg h2];rfl
 unfold qaY
 simp only[qeR,List.all_nil,qaX,qia,qzM h,hs,hp,qeo,Bool.and_true,qa5]
theorem qAo (c:Int) (r:RV):qdz (.agg [.int .i64 0,.bool false,.lst none true .full [],.lst none true .full []]) [(0,none,.int .i64 c),(1,some 3,r.av)]=some (shA c r):=rfl
section
variable {s:Nat} {F:List Nat} {zs:Bool} {os:Own} {most:Int} {l:List ND} {ar:List Int}
theorem X28 {M0:Mem} {pe B:Nat} {En:List (Int×RV)} {rs:List Int} (hfr:∀ c∈rs,((lk En c).getD zR).fr=(lk En c).getD zR) (hpe:M0.get pe=some (.mp (.int .i64) (dm En))) {y:AV} (hy:qFt B M0 y rs) (hb:∀ c∈rs,-1000000000000<=c/\c<=1000000000000) (hl:rs.length<=100000) (K:KT):∀ (Q P:List Int) (m:Mem) (x:AV) (T:List Nat),rs=P++Q->Fr M0 m []->QR 46 (some 4) m x (P.map fun c=>shA c ((lk En c).getD zR)) T->(∀ k∈T,M0.length<=k) ->
  ∃ (m':Mem) (x':AV) (T':List Nat),qnu (.mref pe) x y (.int .i64 rs.length) (.int .i64 P.length) m K=K (.exit 4) (quX x' m')/\Fr M0 m' []/\QR 46 (some 4) m' x' (rs.map fun c=>shA c ((lk En c).getD zR)) T'/\∀ k∈T',M0.length<=k:=by
 intro Q
 induction Q with
 | nil=>
  intro P m x T hPQ f hx hT
  rw[qav] at hPQ
  subst hPQ
  refine ⟨m,x,T,?_,f,hx,hT⟩
  rw[qnv,qaU,oBs,qap,qah (by omega)]
 | cons c Q ih=>
  intro P m x T hPQ f hx hT
  have hPl:P.length < rs.length:=by rw[hPQ];simp
  rcases hy with ⟨_,h2⟩ | ⟨t,zs',rfl,hg,_⟩
  ·rw[h2] at hPl;simp at hPl
  ·have hgm:m.get t=some (.obj false ((rs++zs').map (AV.int .i64))):=by rw[f.get t (qbz hg) (by simp)];exact hg
   have hpm:m.get pe=some (.mp (.int .i64) (dm En)):=by rw[f.get pe (qbz hpe) (by simp)];exact hpe
   have ix:qag none (.arr t 0 rs.length none) (.int .i64 P.length)=some (.ptr t P.length):=qbf hPl
   have ld:qat none m (.ptr t P.length)=some (.int .i64 c):=by
    rw[qea,hgm,qd5,oBs,qC0]
    have:((rs++zs').map (AV.int .i64))[P.length]?=some (.int .i64 c):=by rw[hPQ];simp
    exact this
   have lkq:=qv0 hpm (k:=c) (hb c (by rw[hPQ];simp))
   obtain ⟨x2,m2,T2,ea,q2,f2,g2⟩:=qAQ (b:=64) hx (by rw[qaE];unfold qef;omega) (shA c ((lk En c).getD zR))
   have hml:=f.len
   obtain ⟨m',x',T',e,k1,k2,k3⟩:=ih (P++[c]) m2 x2 T2 (by rw[hPQ,qaL];rfl) (Fr.trans f f2 fun a ha=>.inr (hT a ha)) (by rw[qcA];exact q2) (fun a ha=>by
    rcases g2 a ha with hh | hh
    ·exact hT a hh
    ·omega)
   refine ⟨m',x',T',?_,k1,k2,k3⟩
   rw[qab,qdo] at e
   rw[qnv,qaU,oBs,qap,qal (by omega),ix,oBs,ld,oBs,show (AV.agg [.bool false,.lst none true .full [],.lst none true .full []])=zR.av from rfl,lkq,oBs]
   dsimp only
   rw[qAo,oBs,qAr (hfr c (by rw[hPQ];simp)),oBs,ea,oBs,qbM (by omega),oBs]
   exact e
theorem qwb {L:OL} (h64:∀ r∈L.es,r.ns.length<=64) (h:Pq.oddsB ⟨zs,os,ar⟩ L=true):OddsOk ar L:=by
 unfold Pq.oddsB at h
 rw[qay] at h
 have hl:L.es.length=ar.length:=qi0 h.1
 refine ⟨hl,fun u hu=>?_⟩
 have hz:=Pq.zip_all (L:=L) (ns:=ar) hl h.2 hu
 unfold Pq.rowB at hz
 simp only[qay,qcI,qaV] at hz
 refine ⟨⟨h64 _ (qaJ hu),fun o ho=>Pq.oddB_iff.1 (hz.1 o ho),hz.2.2⟩,?_⟩
 rw[hz.2.1,qaa,qam (by omega),qaP]
theorem qEF (g:GoodL ar l) {sf:Nat->Nat->Nat} {id:Nat} (hid:id < l.length) {R:List Nat} (hp:R.Perm (Vi l id [])) (hs:Srt (ab ar l) R):Flow ar sf l R (upd (fun _=>0) id (PM ar sf ar.length 0)) 0:=by
 obtain ⟨c1,c2,_⟩:=qfs g id hid [] qjd
 have hnd:R.Nodup:=hp.nodup_iff.2 c1.nd
 refine ⟨hnd,fun j hj=>c1.lt j (hp.mem_iff.1 hj),hs,fun j hj hjR hv k hk=>hp.mem_iff.2 (c1.kids (hp.mem_iff.1 hjR) hj k hk),fun j hj v hjR hv=>?_,?_⟩
 ·unfold upd
  split
  ·have hvl:v<=ar.length:=by
    unfold abv at hv
    split at hv
    ·have:=(g.var j hj (by omega)).1;omega
    ·omega
   have:=qli (ar:=ar) (s:=sf) v (ar.length - v) 0
   rw[show v+(ar.length - v)=ar.length by omega,qar] at this
   rw[this]
   exact Nat.dvd_mul_left _ _
  ·exact Nat.dvd_zero _
 ·have:=qmy (h:=fun _=>1) (T:=fun _=>0) (j:=id) (x:=PM ar sf ar.length 0) hnd
  rw[qar,qal (hp.mem_iff.2 c2),qc1] at this
  rw[this]
  have z:∀ R:List Nat,pot (fun _=>1) (fun _=>0) R=0:=fun R=>by
   unfold pot
   induction R with
   | nil=>rfl
   | cons a R ih=>rw[qaX,qbN,ih];rfl
  rw[z];omega
abbrev qeW (l:List ND) (id:Nat):List Int:=qrU (qf0 (fun n=>n.leaf) (fun n=>decide (n.var < 0)) l (Vi l id []))
theorem qvW (g:GoodL ar l) {i j:Nat} (hi:i < l.length) (hj:j < l.length) (vi:l[i].var < 0) (vj:l[j].var < 0) (e:l[i].leaf=l[j].leaf):i=j:=by
 refine qv9 g.nd hi hj ?_
 have h1:=g.ok _ (qaJ hi)
 have h2:=g.ok _ (qaJ hj)
 rcases h1 with ⟨a1,a2,_⟩ | ⟨a1,_⟩
 ·rcases h2 with ⟨b1,b2,_⟩ | ⟨b1,_⟩
  ·cases hx:l[i];cases hy:l[j]
   rw[hx] at a1 a2 e vi;rw[hy] at b1 b2 e vj
   simp_all
  ·omega
 ·omega
theorem qon (g:GoodL ar l) {sf:Nat->Nat->Nat} {R:List Nat} (hn:R.Nodup) (hlt:∀ j∈R,j < l.length) (T:Nat->Nat):((run ar sf l R T).map Prod.fst).Nodup:=by
 rw[qjF g R T hlt]
 have key:∀ (A:List Nat),A.Nodup->(∀ j∈A,j < l.length/\(l.getD j ⟨0,[],0⟩).var < 0)->(A.map fun j=>(l.getD j ⟨0,[],0⟩).leaf).Nodup:=by
  intro A
  induction A with
  | nil=>intro _ _;simp
  | cons a A ih=>
   intro hn hA
   obtain ⟨h1,h2⟩:=qes.1 hn
   rw[qaX,qes]
   refine ⟨fun hm=>?_,ih h2 fun j hj=>hA j (qax _ hj)⟩
   obtain ⟨b,hb,e⟩:=qbF.1 hm
   obtain ⟨la,va⟩:=hA a qaC
   obtain ⟨lb,vb⟩:=hA b (qax _ hb)
   rw[qeD la] at va e
   rw[qeD lb] at vb e
   have:=qvW g lb la vb va e
   subst this
   exact h1 hb
 refine key _ (hn.filter _) fun j hj=>?_
 obtain ⟨h1,h2⟩:=qcJ.1 hj
 exact ⟨hlt j h1,by simpa using h2⟩
theorem qDO {D:List (Int×Nat)} {c:Int} {N M:Nat} (hn:(D.map Prod.fst).Nodup) (hm:(c,N)∈D):(D.map fun p=>p.2 * (if p.1=c then M else 0)).sum=N * M:=by
 induction D with
 | nil=>cases hm
 | cons p D ih=>
  rw[qaX,qes] at hn
  rw[qaX,qbN]
  rcases qa1.1 hm with e | hm
  ·subst e
   rw[qal rfl]
   have z:(D.map fun p=>p.2 * (if p.1=c then M else 0)).sum=0:=by
    have:∀ q∈D,q.1≠c:=fun q hq e=>hn.1 (by
     show c∈_
     rw[<- e];exact List.mem_map_of_mem hq)
    clear ih hm hn
    induction D with
    | nil=>rfl
    | cons q D ih=>rw[qaX,qbN,qah (this q qaC),ih fun r hr=>this r (qax _ hr)];simp
   rw[z];rfl
  ·have hne:p.1≠c:=fun e=>hn.1 (by rw[e];exact List.mem_map_of_mem (f:=Prod.fst) hm)
   rw[qah hne,ih hn.2 hm,qc7,qar]
theorem qDG (g:GoodL ar l) (h1:∀ x∈ar,1<=x) {sf:Nat->Nat->Nat} (h0:∀ v,v < ar.length->0 < SS ar sf v) (hM:PM ar sf ar.length 0≠0) {id:Nat} (hid:id < l.length) {R:List Nat} (hp:R.Perm (Vi l id [])) (hs:Srt (ab ar l) R) {c:Int} {N:Nat}
  (hm:(c,N)∈run ar sf l R (upd (fun _=>0) id (PM ar sf ar.length 0))):N=Hc ar sf l c id:=by
 have F:=qEF g (sf:=sf) hid hp hs
 obtain ⟨_,c2,_⟩:=qfs g id hid [] qjd
 have hsum:=qpK g h0 (qEN g h1 c) (q:=fun c'=>if c'=c then PM ar sf ar.length 0 else 0) (fun k hk hv=>qEc c hk hv) R _ 0 F
 rw[qDO (qon g F.nd F.lt _) hm] at hsum
 have:=qmy (h:=Hc ar sf l c) (T:=fun _=>0) (j:=id) (x:=PM ar sf ar.length 0) F.nd
 rw[qar,qal (hp.mem_iff.2 c2)] at this
 have z:pot (Hc ar sf l c) (fun _=>0) R=0:=by
  unfold pot
  clear this hsum hm F hs hp
  induction R with
  | nil=>rfl
  | cons a R ih=>rw[qaX,qbN,ih];simp
 rw[this,z,qar,qaI] at hsum
 exact (Nat.eq_of_mul_eq_mul_right (Nat.pos_iff_ne_zero.2 hM) hsum).symm
theorem qDF (g:GoodL ar l) {sf:Nat->Nat->Nat} {id:Nat} (hid:id < l.length) {R:List Nat} (hp:R.Perm (Vi l id [])) (T:Nat->Nat) {c:Int} (hc:c∈qeW l id):∃ N,(c,N)∈run ar sf l R T:=by
 obtain ⟨c1,_,_⟩:=qfs g id hid [] qjd
 rw[qmL] at hc
 have hk:=qjF (s:=sf) g R T fun j hj=>c1.lt j (hp.mem_iff.1 hj)
 have:c∈(run ar sf l R T).map Prod.fst:=by
  rw[hk]
  exact ((hp.filter _).map _).mem_iff.2 hc
 obtain ⟨p,hp2,e⟩:=qbF.1 this
 exact ⟨p.2,by rw[<- e];exact hp2⟩
theorem qzS (ns:List Int):(qrU ns).length<=ns.length:=by
 unfold qrU
 have:=qhY (qgt ns)
 rw[qkD] at this
 exact this
end
end Go.Ab

/- Weigh by value. -/
set_option maxRecDepth 100000
namespace Go.Ab
open Go.Proofs Go.Proofs.Tryz
section
variable {s:Nat} {F:List Nat} {zs:Bool} {os:Own} {most:Int} {l:List ND} {ar:List Int}
theorem qJW {M:Nat} (hM:M < 4294967296 ^ 8) (h0:M≠0) (id:Nat):Rep M [((id:Int),qkr)] (upd (fun _=>0) id M):=fun j=>by
 unfold upd
 show WV M ((if (id:Int)=(j:Int) then some qkr else none).getD zR) _
 by_cases h:j=id
 ·subst h;rw[qal rfl,qal rfl];exact qFs hM h0
 ·rw[qah (by omega),qah h];exact qwW M
theorem qCO {m0:Mem} (h0:St8 m0 s F (IA zs os ar) most l) (hm:most≠0) (g:GoodL ar l) (hll:l.length<=100000) {id:Nat} (hid:id < l.length) {L:OL} (h64:∀ r∈L.es,r.ns.length<=64) (h40:L.es.length<=40) (hO:Pq.oddsB ⟨zs,os,ar⟩ L=false) :
  ∃ m',AC cfg 17 [.ptr s 0,.int .i64 id,L.av] m0=some (.tup [.lst none true .full [],.int .i64 1],m')/\Fr m0 m' []:=by
 have f1:Fr m0 (m0++[some (Ent.obj true [.ptr s 0])]) []:=Fr.app m0 _ _
 have h1:=h0.app f1
 obtain ⟨m2,y,e41,f2,_⟩:=B10 h1 hm g hll hid
 have f12:Fr m0 m2 []:=Fr.trans f1 f2 fun _ h=>by cases h
 obtain ⟨p,na,TT,st,_⟩:=h0.app f12
 have hb:m2.get m0.length=some (.obj true [.ptr s 0]):=by rw[f2.get _ (by simp) (by simp),qev rfl]
 have lb:=qgm hb
 have l0:qat none (m0++[some (Ent.obj true [.ptr s 0])]) (.ptr m0.length 0)=some (.ptr s 0):=qgm (qev rfl)
 have la:qat none m2 (.ptr s (0+0))=some (IA zs os ar):=by rw[qea,st.hs];rfl
 have p63:qaN (AP cfg) none m2 63 [IA zs os ar,L.av]=some (.bool false,m2):=by
  have:=Pq.V63 (Pq.IL.fr ⟨zs,os,ar⟩) (Pq.OL.fr L) h64 h40
  rw[qcH (qg6 zs os ar) (Pq.fz_ol L)]
  have e:AP cfg 63 [IA zs os.fr ar,(Pq.OL.fr L).av]=some (.bool (Pq.oddsB ⟨zs,os,ar⟩ L)):=this
  rw[e,hO];rfl
 refine ⟨m2,?_,f12⟩
 rw[T17,qiQ,oBs,l0,oBs,e41,oBs,ex0,oBs,ex1,oBs,qcW,oBs,qap,qah (by omega),lb,oBs,qh4,oBs,qgk,oBs,la,oBs,p63,oBs,qfU,oBs,qcS,qfw]
theorem qEt {m0:Mem} (h0:St8 m0 s F (IA zs os ar) most l) (hm:most≠0) (g:GoodL ar l) (hll:l.length<=100000) (h1:∀ x∈ar,1<=x/\x<=64) (hal:ar.length<=16) {id:Nat} (hid:id < l.length) {L:OL} (h64:∀ r∈L.es,r.ns.length<=64) (h40:L.es.length<=40) (hO:Pq.oddsB ⟨zs,os,ar⟩ L=true) :
  ∃ (m':Mem) (x:AV) (En:List (Int×RV)) (T:List Nat),AC cfg 17 [.ptr s 0,.int .i64 id,L.av] m0=some (.tup [x,.int .i64 0],m')/\Fr m0 m' []/\QR 46 (some 4) m' x ((qeW l id).map fun c=>shA c ((lk En c).getD zR)) T/\(∀ k∈T,m0.length<=k) /\
   ∀ c∈qeW l id,WV (PM ar (sOf L) ar.length 0) ((lk En c).getD zR) (Hc ar (sOf L) l c id):=by
 have hok:=qwb h64 hO
 obtain ⟨hM0,hM8⟩:=qu2 hok.all hal
 have f1:Fr m0 (m0++[some (Ent.obj true [.ptr s 0])]) []:=Fr.app m0 _ _
 have h1':=h0.app f1
 obtain ⟨m2,y,e41,f2,hres⟩:=B10 h1' hm g hll hid
 have f12:Fr m0 m2 []:=Fr.trans f1 f2 fun _ h=>by cases h
 have lm2:=f12.len
 have lm1:=f2.len
 simp only[qab,qad,qae] at lm1
 have h2:=h0.app f12
 have hb2:m2.get m0.length=some (.obj true [.ptr s 0]):=by rw[f2.get _ (by simp) (by simp),qev rfl]
 have lb:=qgm hb2
 have l0:qat none (m0++[some (Ent.obj true [.ptr s 0])]) (.ptr m0.length 0)=some (.ptr s 0):=qgm (qev rfl)
 have la:qat none m2 (.ptr s (0+0))=some (IA zs os ar):=by
  obtain ⟨p,na,TT,st,_⟩:=h2
  rw[qea,st.hs];rfl
 have p63:qaN (AP cfg) none m2 63 [IA zs os ar,L.av]=some (.bool true,m2):=by
  have:=Pq.V63 (Pq.IL.fr ⟨zs,os,ar⟩) (Pq.OL.fr L) h64 h40
  rw[qcH (qg6 zs os ar) (Pq.fz_ol L)]
  have e:AP cfg 63 [IA zs os.fr ar,(Pq.OL.fr L).av]=some (.bool (Pq.oddsB ⟨zs,os,ar⟩ L)):=this
  rw[e,hO];rfl
 have p64:∀ m,qaN (AP cfg) none m 64 []=some (qkr.av,m):=fun m=>by rw[qkt,V64];rfl
 have up:qk0 (.int .i64) (m2++[some (.mp (.int .i64) [])]) (.mref m2.length) (.int .i64 (id:Int)) qkr.av=some (m2++[some (.mp (.int .i64) (dm [((id:Int),qkr)]))]):=by
  have e0:qk0 (.int .i64) (m2++[some (.mp (.int .i64) [])]) (.mref m2.length) (.int .i64 (id:Int)) qkr.av=_:=qDX (m:=m2++[some (.mp (.int .i64) (dm []))]) (p:=m2.length) (E:=[]) (k:=(id:Int)) (qev rfl) (by omega) (by simp) qkr
  rw[e0,qe4 _ _ _ rfl];rfl
 have f3:Fr m0 (m2++[some (.mp (.int .i64) (dm [((id:Int),qkr)]))]) []:=f12.snoc _
 have hb3:Mem.get (m2++[some (.mp (.int .i64) (dm [((id:Int),qkr)]))]) m0.length=some (.obj true [.ptr s 0]):=by rw[qey (by omega)];exact hb2
 have gd3:Mem.get (m2++[some (.mp (.int .i64) (dm [((id:Int),qkr)]))]) m2.length=some (.mp (.int .i64) (dm [((id:Int),qkr)])):=qev rfl
 have gx3:∀ x,x < m2.length->Mem.get (m2++[some (.mp (.int .i64) (dm [((id:Int),qkr)]))]) x=m2.get x:=fun x hx=>qey hx
 have l3:(m2++[some (Ent.mp (.int .i64) (dm [((id:Int),qkr)]))]).length=m2.length+1:=by simp
 generalize hm3:m2++[some (Ent.mp (.int .i64) (dm [((id:Int),qkr)]))]=m3 at up f3 hb3 gd3 gx3 l3
 have lb3:=qgm hb3
 have h3:=h0.app f3
 obtain ⟨m5,x5,T5,e65,hga,f5,hT5⟩:=A61 h3 g hll hid
 obtain ⟨cl1,_,_⟩:=qfs g id hid [] qjd
 have hvl:=qhz _ _ cl1.nd cl1.lt
 have f05:Fr m0 m5 []:=Fr.trans f3 f5 fun _ h=>by cases h
 have l5:=f5.len
 obtain ⟨t,rfl,ht,htn⟩:∃ t,x5=.arr t 0 (Vi l id []).length none/\m5.get t=some (.obj false (ds (Vi l id [])))/\m3.length<=t:=by
  generalize hV:Vi l id []=ids at hga
  cases hga with
  | none=>
   have:id∈Vi l id []:=by rw[qo4 g hid,qah (by simp)];simp
   rw[hV] at this;cases this
  | some t ids ht hne=>exact ⟨t,rfl,ht,hT5 t (by simp)⟩
 have htl:=qbz ht
 have h5:=h0.app f05
 have hFlt:∀ a∈F,a < m0.length:=h0.lt
 have hb5:m5.get m0.length=some (.obj true [.ptr s 0]):=by rw[f5.get _ (by omega) (by simp)];exact hb3
 have hcmp:=qGV (nm:=t) h5 (fun ha=>by have:=hFlt t ha;omega) (pb:=m0.length) hb5 (by omega) hal g
 obtain ⟨m6,ids,e66,sd,hperm,hsrt⟩:=A66 (L:=(Vi l id []).length) (by omega) hcmp (l:=Vi l id []) (m:=m5) ⟨Fr.refl _ _,ht,rfl,cl1.lt⟩
 have f56:=sd.fr
 have l6:=f56.len
 have hlen:ids.length=(Vi l id []).length:=hperm.length_eq
 have f06:Fr m0 m6 []:=Fr.trans f05 f56 fun a ha=>.inr (by simp at ha;omega)
 have f7:Fr m6 (m6++[some (Ent.mp (.int .i64) [])]) []:=Fr.app m6 _ _
 have l7:(m6++[some (Ent.mp (.int .i64) [])]).length=m6.length+1:=by simp
 have f07:Fr m0 (m6++[some (Ent.mp (.int .i64) [])]) []:=f06.snoc _
 have h7:=h0.app f07
 have g67:∀ x,x < m6.length->Mem.get (m6++[some (Ent.mp (.int .i64) [])]) x=m6.get x:=fun x hx=>qey hx
 have gpd:Mem.get (m6++[some (Ent.mp (.int .i64) [])]) m2.length=some (.mp (.int .i64) (dm [((id:Int),qkr)])):=by
  rw[g67 _ (by omega),f56.get _ (by omega) (by simp;omega),f5.get _ (by omega) (by simp)];exact gd3
 have gpe:Mem.get (m6++[some (Ent.mp (.int .i64) [])]) m6.length=some (.mp (.int .i64) (dm [])):=qev rfl
 have gpb:Mem.get (m6++[some (Ent.mp (.int .i64) [])]) m0.length=some (.obj true [.ptr s 0]):=by
  rw[g67 _ (by omega),f56.get _ (by omega) (by simp;omega)];exact hb5
 have gnm:Mem.get (m6++[some (Ent.mp (.int .i64) [])]) t=some (.obj false (ds ids)):=by rw[g67 _ (by omega)];exact sd.hd
 have fl:=qEF g (sf:=sOf L) hid hperm hsrt
 have hrn:=qon g (sf:=sOf L) fl.nd fl.lt (upd (fun _=>0) id (PM ar (sOf L) ar.length 0))
 obtain ⟨m8,En,e11,f8,gpe8,hends⟩:=qF3 hok g h1 hal hll h7 (pb:=m0.length) (pd:=m2.length) (pe:=m6.length) (nm:=t) (fun ha=>by have:=hFlt _ ha;omega) (fun ha=>by have:=hFlt _ ha;omega) (by omega) gpb (by omega) (by omega) gnm (by omega) (by omega) (by omega) y (qp9 (qbw cfg.P f17.results.toList)) ids [] (m6++[some (Ent.mp (.int .i64) [])]) [((id:Int),qkr)] [] (upd (fun _=>0) id (PM ar (sOf L) ar.length 0)) 0 [] rfl fl (Fr.refl _ _) gpd gpe (qJW hM8 hM0 id) (fun p hp=>by cases hp) (by simpa using hrn) (by simp;omega) (by simp;omega)
 rw[qaw] at hends
 have l8:=f8.len
 have hresL:(qeW l id).length<=100000:=by
  have:=qzS (qf0 (fun n=>n.leaf) (fun n=>decide (n.var < 0)) l (Vi l id []))
  unfold qf0 at this
  rw[qaE] at this
  have h2:=List.length_filter_le (fun i=>(fun n:ND=>decide (n.var < 0)) (l.getD i ⟨0,[],0⟩)) (Vi l id [])
  unfold qeW qf0
  omega
 have hres8:qFt (m0.length+1) m8 y (qeW l id):=by
  rcases hres with hh | ⟨t',z',hx,hg,hB⟩
  ·exact .inl hh
  ·have h2:=qbz hg
   have hB':m0.length+1<=t':=by simpa using hB
   refine .inr ⟨t',z',hx,?_,hB'⟩
   rw[f8.get _ (by omega) (by simp;omega),g67 _ (by omega),f56.get _ (by omega) (by simp;omega),f5.get _ (by omega) (by simp),gx3 _ h2]
   exact hg
 have hwv:∀ c∈qeW l id,WV (PM ar (sOf L) ar.length 0) ((lk En c).getD zR) (Hc ar (sOf L) l c id):=fun c hc=>by
  obtain ⟨N,hN⟩:=qDF g (sf:=sOf L) hid hperm (upd (fun _=>0) id (PM ar (sOf L) ar.length 0)) hc
  obtain ⟨r,hr,wr⟩:=hends _ hN
  have hv:=qDG g (fun x hx=>(h1 x hx).1) (fun v hv=>(hok.all v hv).1) hM0 hid hperm hsrt hN
  dsimp only at hr wr
  rw[hr,qaP,<- hv]
  exact wr
 have hcb:∀ c∈qeW l id,-1000000000000<=c/\c<=1000000000000:=fun c hc=>by
  rw[qmL] at hc
  obtain ⟨j,hj,rfl⟩:=qbF.1 hc
  have hjl:=cl1.lt j (qcJ.1 hj).1
  dsimp only
  rw[qeD hjl]
  rcases g.ok _ (qaJ hjl) with ⟨_,_,h3⟩ | ⟨_,h3,_⟩<;>omega
 obtain ⟨m9,x9,T9,e28,f9,q9,hT9⟩:=X28 (M0:=m8) (pe:=m6.length) (fun c hc=>(hwv c hc).fr) gpe8 hres8 hcb hresL (qqa (qbw cfg.P f17.results.toList)) (qeW l id) [] m8 (.lst none true .full []) [] rfl (Fr.refl _ _) .none (by simp)
 have f08:Fr m0 m8 []:=Fr.trans f07 f8 fun a ha=>.inr (by
  simp only[qa1,List.not_mem_nil,or_false] at ha
  rcases ha with rfl | rfl<;>omega)
 refine ⟨m9,x9,En,T9,?_,Fr.trans f08 f9 (fun _ h=>by cases h),q9,fun k hk=>by have:=hT9 k hk;omega,hwv⟩
 ·rw[T17,qiQ,oBs,l0,oBs,e41,oBs,ex0,oBs,ex1,oBs,qcW,oBs,qap,qah (by omega),lb,oBs,qh4,oBs,qgk,oBs,la,oBs,p63,oBs,qfU,oBs,qcC,qdW]
  rw[show (qaH none m2 (Ent.mp (.int .i64) [])).2=m2++[some (.mp (.int .i64) [])] from rfl,p64,oBs]
  dsimp only
  rw[show (qaH none m2 Ent.resv).1=m2.length from rfl,up,oBs,lb3,oBs,e65,oBs]
  dsimp only
  rw[e66,oBs]
  dsimp only
  rw[show qbY false (.arr t 0 (Vi l id []).length none)=some (.int .i64 (Vi l id []).length) from rfl,oBs,<- hlen]
  have e11:qlc L.av (.ptr m0.length 0) y (.mref m2.length) (.mref (qaH none m6 Ent.resv).1) (.arr t 0 ids.length none) (.int .i64 ids.length) (.int .i64 0) (qaH none m6 (Ent.mp (.int .i64) [])).2 (qp9 (qbw cfg.P f17.results.toList))=_:=e11
  rw[e11,qtX]
  have hly:qbY false y=some (.int .i64 (qeW l id).length):=by
   rcases hres with ⟨h1,h2⟩ | ⟨t',z',h1,_⟩
   ·rw[h1]
    have:(qeW l id).length=0:=by unfold qeW;rw[h2];rfl
    rw[this];rfl
   ·rw[h1];rfl
  rw[hly,oBs]
  have e28:qnu (.mref m6.length) (.lst none true .full []) y (.int .i64 (qeW l id).length) (.int .i64 0) m8 (qqa (qbw cfg.P f17.results.toList))=_:=e28
  rw[e28,qtY]
end
end Go.Ab

/- The reference's Leaves, Weight and Weigh, by value; the odds that a law makes. -/
set_option maxRecDepth 100000
namespace Go.Ab
open Go.Proofs Go.Proofs.Tryz
theorem qij {l:List Int} {i:Nat} (h:i < l.length):l.getD i 0=l[i]:=by rw[qaa,qam h,qaP]
theorem qmD {os:List Int} (h:os.Pairwise (· < ·)) (hb:∀ y∈os,0<=y/\y<=4):os.length<=5:=by
 have hn:(os.map Int.toNat).Nodup:=by
  rw[List.nodup_iff_pairwise_ne,List.pairwise_map]
  refine List.Pairwise.imp_of_mem ?_ h
  intro a b ha hb' hab e
  have:=hb a ha;have:=hb b hb'
  omega
 have:=qhz 5 _ hn fun x hx=>by
  obtain ⟨y,hy,rfl⟩:=qbF.1 hx
  have:=hb y hy;omega
 rwa [qaE] at this
theorem qwv {os:List Int} (h:os.Pairwise (· < ·)):∀ y∈os,y<=os.getLastD 0:=by
 intro y hy
 obtain ⟨i,hi,rfl⟩:=qbH hy
 have hne:os≠[]:=fun e=>by rw[e] at hi;simp at hi
 have hl:os.getLastD 0=os[os.length - 1]'(by omega):=by
  rw[List.getLastD_eq_getLast?,List.getLast?_eq_getElem?,qam (by omega)];rfl
 rw[hl]
 by_cases e:i=os.length - 1
 ·subst e;exact qeH _
 ·exact Int.le_of_lt (List.pairwise_iff_getElem.1 h i (os.length - 1) hi (by omega) (by omega))
def okB (os:List Int) (n:Int):Bool:=os.isEmpty || decide (n > os.getLastD 0)
section
variable {z zo:Bool} {o oo:Own} {t:List Int}
theorem qIW (htl:t.length<=300) {os:List Int} (hol:os.length<=100) (m:Mem) (K:KT):∀ (j i:Nat),i+j=t.length->∀ (nx:Int) (fd:Bool),(fd=false->∀ k (h:k < t.length),k < i->okB os t[k]=false)->(fd=true->okB os nx=true/\nx∈t/\∀ k (h:k < t.length),k < i->okB os t[k]=true->nx<=t[k]) ->
  ∃ nx' fd',qiK (IA z o t) (IA zo oo os) (.int .i64 nx) (.bool fd) (IA z o t) (.int .i64 t.length) (.int .i64 i) m (qkO K)=qkO K (.exit 2) (qsr (IA z o t) (IA zo oo os) (.int .i64 nx') (.bool fd') m)/\(fd'=false->∀ k (h:k < t.length),okB os t[k]=false)/\(fd'=true->okB os nx'=true/\nx'∈t/\∀ k (h:k < t.length),okB os t[k]=true->nx'<=t[k]):=by
 intro j
 induction j with
 | zero=>
  intro i hi nx fd h1 h2
  refine ⟨nx,fd,?_,fun h k hk=>h1 h k hk (by omega),fun h=>⟨(h2 h).1,(h2 h).2.1,fun k hk=>(h2 h).2.2 k hk (by omega)⟩⟩
  rw[qqG,qdc,oBs,qap,qah (by omega)]
 | succ j ih=>
  intro i hi nx fd h1 h2
  have hil:i < t.length:=by omega
  have hit:qag none (IA z o t) (.int .i64 i)=some (.vptr [.int .i64 t[i]]):=qeN hil
  have take:okB os t[i]=true->(fd=true->t[i] < nx)->∃ nx' fd',qiK (IA z o t) (IA zo oo os) (.int .i64 t[i]) (.bool true) (IA z o t) (.int .i64 t.length) (.int .i64 (i+1:Nat)) m (qkO K)=qkO K (.exit 2) (qsr (IA z o t) (IA zo oo os) (.int .i64 nx') (.bool fd') m)/\(fd'=false->∀ k (h:k < t.length),okB os t[k]=false)/\(fd'=true->okB os nx'=true/\nx'∈t/\∀ k (h:k < t.length),okB os t[k]=true->nx'<=t[k]):=fun hok hlt=>
   ih (i+1) (by omega) t[i] true (fun h=>by cases h) fun _=>⟨hok,qaJ hil,fun k hk hki hok2=>by
    by_cases e:k=i
    ·subst e;exact qeH _
    ·cases hf:fd with
     | false=>have:=h1 hf k hk (by omega);rw[this] at hok2;cases hok2
     | true=>have:=(h2 hf).2.2 k hk (by omega) hok2;have:=hlt hf;omega⟩
  have leave:(okB os t[i]=true->fd=true/\nx<=t[i])->∃ nx' fd',qiK (IA z o t) (IA zo oo os) (.int .i64 nx) (.bool fd) (IA z o t) (.int .i64 t.length) (.int .i64 (i+1:Nat)) m (qkO K)=qkO K (.exit 2) (qsr (IA z o t) (IA zo oo os) (.int .i64 nx') (.bool fd') m)/\(fd'=false->∀ k (h:k < t.length),okB os t[k]=false)/\(fd'=true->okB os nx'=true/\nx'∈t/\∀ k (h:k < t.length),okB os t[k]=true->nx'<=t[k]):=fun hle=>
   ih (i+1) (by omega) nx fd (fun h k hk hki=>by
    by_cases e:k=i
    ·subst e
     cases hq:okB os t[k] with
     | false=>rfl
     | true=>have:=(hle hq).1;rw[h] at this;cases this
    ·exact h1 h k hk (by omega)) fun h=>⟨(h2 h).1,(h2 h).2.1,fun k hk hki hok2=>by
    by_cases e:k=i
    ·subst e;exact (hle hok2).2
    ·exact (h2 h).2.2 k hk (by omega) hok2⟩
  rw[qqG,qdc,oBs,qap,qal hil,hit,oBs,qbs,oBs,qeb,oBs,qfb,oBs,qap]
  by_cases hoe:os.length=0
  ·have hok:okB os t[i]=true:=by
    unfold okB
    have:os=[]:=qa4 hoe
    rw[this];rfl
   rw[qal hoe,qfU,oBs]
   cases hf:fd with
   | false=>
    obtain ⟨a,b,e,k⟩:=take hok fun h=>by rw[hf] at h;cases h
    exact ⟨a,b,by rw[qcS,qfw,qbM (by omega),oBs];exact e,k⟩
   | true=>
    rw[qcC,qdW,qaU,oBs,qap]
    by_cases hlt:t[i] < nx
    ·obtain ⟨a,b,e,k⟩:=take hok fun _=>hlt
     exact ⟨a,b,by rw[qal hlt,qbM (by omega),oBs];exact e,k⟩
    ·obtain ⟨a,b,e,k⟩:=leave fun _=>⟨hf,by omega⟩
     rw[hf] at e
     exact ⟨a,b,by rw[qah hlt,qbM (by omega),oBs];exact e,k⟩
  ·have hol1:os.length - 1 < os.length:=by omega
   have hlast:os.getLastD 0=os[os.length - 1]:=by
    rw[List.getLastD_eq_getLast?,List.getLast?_eq_getElem?,qam hol1];rfl
   have hil2:qag none (IA zo oo os) (.int .i64 (os.length - 1:Nat))=some (.vptr [.int .i64 (os.getLastD 0)]):=by rw[qeN hol1,hlast]
   have hemp:os.isEmpty=false:=by
    cases os with
    | nil=>simp at hoe
    | cons a b=>rfl
   rw[qah hoe,oBs,qfN (by omega) (by omega),oBs,hil2,oBs,qbs,oBs,qcB,oBs,qap]
   by_cases hgt:t[i] > os.getLastD 0
   ·have hok:okB os t[i]=true:=by unfold okB;rw[qa6 hgt,Bool.or_true]
    rw[qal hgt,qfU,oBs]
    cases hf:fd with
    | false=>
     obtain ⟨a,b,e,k⟩:=take hok fun h=>by rw[hf] at h;cases h
     exact ⟨a,b,by rw[qcS,qfw,qbM (by omega),oBs];exact e,k⟩
    | true=>
     rw[qcC,qdW,qaU,oBs,qap]
     by_cases hlt:t[i] < nx
     ·obtain ⟨a,b,e,k⟩:=take hok fun _=>hlt
      exact ⟨a,b,by rw[qal hlt,qbM (by omega),oBs];exact e,k⟩
     ·obtain ⟨a,b,e,k⟩:=leave fun _=>⟨hf,by omega⟩
      rw[hf] at e
      exact ⟨a,b,by rw[qah hlt,qbM (by omega),oBs];exact e,k⟩
   ·have hok:okB os t[i]=false:=by unfold okB;rw[hemp,qa7 hgt];rfl
    obtain ⟨a,b,e,k⟩:=leave fun h=>by rw[hok] at h;cases h
    exact ⟨a,b,by rw[qah hgt,qbM (by omega),oBs];exact e,k⟩
theorem qIV (htl:t.length<=300) (hb:∀ y∈t,0<=y/\y<=4):∀ (j:Nat) (m:Mem) (x:AV) (os:List Int) (T:List Nat),os.length+j=6->GR 3 m x (os.map (AV.int .i64)) T->os.Pairwise (· < ·)->(∀ y∈os,y∈t)->(os≠[]->∀ y∈t,y<=os.getLastD 0->y∈os) ->
  ∃ (m':Mem) (x':AV) (os':List Int) (T':List Nat),qoS (IA z o t) x m (qlM (qbw cfg.P f58.results.toList))=some (x',m')/\GR 3 m' x' (os'.map (AV.int .i64)) T'/\os'.Pairwise (· < ·)/\∀ y,y∈os'↔y∈t:=by
 intro j
 induction j with
 | zero=>
  intro m x os T hj hx hp hs _
  have:=qmD hp fun y hy=>hb y (hs y hy)
  omega
 | succ j ih=>
  intro m x os T hj hx hp hs hc
  obtain ⟨zo,oo,rfl,_⟩:=qnQ hx
  obtain ⟨nx,fd,e,k1,k2⟩:=qIW (z:=z) (o:=o) (zo:=zo) (oo:=oo) htl (os:=os) (by omega) m (qlM (qbw cfg.P f58.results.toList)) t.length 0 (by omega) 0 false (fun _ k hk hk0=>by omega) (fun h=>by cases h)
  have e:qiK (IA z o t) (IA zo oo os) (.int .i64 0) (.bool false) (IA z o t) (.int .i64 t.length) (.int .i64 0) m (qkO (qlM (qbw cfg.P f58.results.toList)))=_:=e
  have e0:qoS (IA z o t) (IA zo oo os) m (qlM (qbw cfg.P f58.results.toList))=qkO (qlM (qbw cfg.P f58.results.toList)) (.exit 2) (qsr (IA z o t) (IA zo oo os) (.int .i64 nx) (.bool fd) m):=by
   rw[qyG,qeb,oBs]
   exact e
  have last:∀ y,okB os y=false->os≠[]/\y<=os.getLastD 0:=fun y h=>by
   unfold okB at h
   rw[Bool.or_eq_false_iff,decide_eq_false_iff_not] at h
   exact ⟨fun e=>by rw[e] at h;simp at h,by omega⟩
  cases fd with
  | false=>
   refine ⟨m,_,os,T,?_,hx,hp,fun y=>⟨hs y,fun hy=>?_⟩⟩
   ·have e0:qoS (IA z o t) (.lst none zo oo (os.map (AV.int .i64))) m (qlM (qbw cfg.P f58.results.toList))=_:=e0
    rw[e0,qqb,qfU,oBs,qcS,qfw,qur]
   ·obtain ⟨i,hi,rfl⟩:=qbH hy
    obtain ⟨h1,h2⟩:=last _ (k1 rfl i hi)
    exact hc h1 _ hy h2
  | true=>
   obtain ⟨q1,q2,q3⟩:=k2 rfl
   obtain ⟨x2,m2,T2,ea,g2,_,_⟩:=qnP (b:=8) hx (by rw[qaE];omega) (by omega) (.int .i64 nx)
   have hlt:∀ y∈os,y < nx:=fun y hy=>by
    have h1:=qwv hp y hy
    have hne:os.isEmpty=false:=by
     cases os with
     | nil=>cases hy
     | cons a b=>rfl
    unfold okB at q1
    rw[hne,Bool.false_or,qcI] at q1
    omega
   obtain ⟨m',x',os',T',e',k⟩:=ih m2 x2 (os++[nx]) T2 (by simp;omega) (by rw[qcA];exact g2) (by
    rw[List.pairwise_append]
    exact ⟨hp,by simp,fun a ha b hb'=>by
     have:b=nx:=by simpa using hb'
     rw[this];exact hlt a ha⟩) (fun y hy=>by
    rcases qaW.1 hy with hy | hy
    ·exact hs y hy
    ·have:y=nx:=by simpa using hy
     rw[this];exact q2) (fun _ y hy hle=>by
    have hl:(os++[nx]).getLastD 0=nx:=by simp
    rw[hl] at hle
    obtain ⟨i,hi,rfl⟩:=qbH hy
    cases hq:okB os t[i] with
    | true=>
     have:=q3 i hi hq
     have e2:t[i]=nx:=by omega
     rw[e2];simp
    | false=>
     obtain ⟨h1,h2⟩:=last _ hq
     exact qz6 _ (hc h1 _ hy h2))
   refine ⟨m',x',os',T',?_,k⟩
   have e0:qoS (IA z o t) (.lst none zo oo (os.map (AV.int .i64))) m (qlM (qbw cfg.P f58.results.toList))=_:=e0
   have ea:qd6 none false 3 none 8 m (IA zo oo os) (.lst none false .full [.int .i64 nx])=_:=ea
   rw[e0,qqb,qfU,oBs,qcC,qdW,qeu,oBs,ea,oBs]
   exact e'
theorem B14 (htl:t.length<=300) (hb:∀ y∈t,0<=y/\y<=4) (z:Bool) (o:Own) (m:Mem):∃ (z':Bool) (o':Own) (os:List Int),qaN (AP cfg) none m 58 [IA z o t]=some (IA z' o' os,m)/\os.Pairwise (· < ·)/\∀ y,y∈os↔y∈t:=by
 obtain ⟨m',x',os,T,e,hx,k⟩:=qIV (z:=z) (o:=o.fr) htl hb 6 [] (.lst none true .full []) [] [] rfl .none (by simp) (by simp) (fun h=>absurd rfl h)
 obtain ⟨z',o',rfl,_⟩:=qnQ hx
 refine ⟨z',o'.fr,os,?_,k⟩
 have e0:AC cfg 58 [IA z o.fr t] []=some (IA z' o' os,m'):=by
  rw[T58];exact e
 rw[qbt (qg6 z o t),qeG (m:=m') (v:=IA z' o' os) (v':=IA z' o'.fr os) (l:=[]) e0 (by cases o'<;>rfl) rfl];rfl
end
theorem qzR {val:ND->Int} {keep:ND->Bool} {l:List ND} {ids:List Nat} (hids:∀ i∈ids,i < l.length) (x:Int):x∈qf0 val keep l ids↔∃ j∈ids,∃ hj:j < l.length,keep l[j]=true/\val l[j]=x:=by
 unfold qf0
 rw[qbF]
 constructor
 ·rintro ⟨j,hj,rfl⟩
  obtain ⟨h1,h2⟩:=qcJ.1 hj
  have hl:=hids j h1
  rw[qeD hl] at h2 ⊢
  exact ⟨j,h1,hl,h2,rfl⟩
 ·rintro ⟨j,hj,hl,h2,rfl⟩
  refine ⟨j,qcJ.2 ⟨hj,?_⟩,?_⟩
  ·rw[qeD hl];exact h2
  ·rw[qeD hl]
section
variable {ar:List Int} {s:Nat->Nat->Nat}
def Wt (s:Nat->Nat->Nat):Nat->Nat->(Nat->Nat)->Nat
 | 0,_,_=>1
 | d+1,v,a=>s v (a v) * Wt s d (v+1) a
theorem qoF {φ:(Nat->Nat)->Nat} (hφ:∀ b b',Asg ar b->Asg ar b'->(∀ w,w < ar.length->b w=b' w)->φ b=φ b'):∀ (d v:Nat),v+d=ar.length->∀ (a:Nat->Nat) (A:Nat->Nat->Nat),Asg ar a ->
  (∀ k,k < qbD (ar.drop v)->Asg ar (A k)/\(∀ w,w < v->A k w=a w)/\qhl (ar.drop v) v (A k)=k)->Ct ar s d v φ a=qgA (qbD (ar.drop v)) fun k=>Wt s d v (A k) * φ (A k)
 | 0,v,hv,a,A,ha,hA=>by
  have e:ar.drop v=[]:=qbc (by omega)
  rw[e] at hA ⊢
  obtain ⟨h1,h2,_⟩:=hA 0 (by simp[qbD])
  show φ a=qgA 1 _
  rw[qdA,qox,qar,Wt,qek]
  exact hφ _ _ ha h1 fun w hw=>(h2 w (by omega)).symm
 | d+1,v,hv,a,A,ha,hA=>by
  have hvl:v < ar.length:=by omega
  have hp:=qgr hvl
  rw[hp,qkE,Ct]
  refine qdI fun j hj=>?_
  have hk:∀ r,r < qbD (ar.drop (v+1))->j * qbD (ar.drop (v+1))+r < qbD (ar.drop v):=fun r hr=>by
   rw[hp]
   have:=qaS (qbD (ar.drop (v+1))) (show j+1<=(ar.getD v 0).toNat from hj)
   rw[qbd,qek] at this
   omega
  have hdig:∀ r,r < qbD (ar.drop (v+1))->A (j * qbD (ar.drop (v+1))+r) v=j/\qhl (ar.drop (v+1)) (v+1) (A (j * qbD (ar.drop (v+1))+r))=r:=fun r hr=>by
   obtain ⟨h1,_,h3⟩:=hA _ (hk r hr)
   rw[qfv hvl] at h3
   have hlt:=qnU h1 d (v+1) (by omega)
   generalize qbD (ar.drop (v+1))=P at *
   generalize A (j * P+r) v=x at *
   generalize qhl (ar.drop (v+1)) (v+1) (A (j * P+r))=y at *
   have e1:(x * P+y) / P=x:=by rw[qaI,Nat.mul_add_div (by omega),qkM hlt,qby]
   have e2:(j * P+r) / P=j:=by rw[qaI,Nat.mul_add_div (by omega),qkM hr,qby]
   have:x=j:=by rw[<- e1,h3,e2]
   subst this
   exact ⟨rfl,by omega⟩
  rw[qoF hφ d (v+1) (by omega) (upd a v j) (fun r=>A (j * qbD (ar.drop (v+1))+r)) (ha.upd (qhc hj)) fun r hr=>by
   obtain ⟨h1,h2,_⟩:=hA _ (hk r hr)
   obtain ⟨d1,d2⟩:=hdig r hr
   refine ⟨h1,fun w hw=>?_,d2⟩
   by_cases hwv:w=v
   ·subst hwv;rw[qiA];exact d1
   ·rw[qrZ hwv];exact h2 w (by omega),<- qjI]
  refine qdI fun r hr=>?_
  rw[Wt,(hdig r hr).1,qaO]
theorem qu9 (a:Nat->Nat):∀ (d v:Nat),Wt s (d+1) v a=Wt s d v a * s (v+d) (a (v+d))
 | 0,v=>by simp[Wt]
 | d+1,v=>by
  rw[Wt,qu9 a d (v+1),Wt,qaO,show v+1+d=v+(d+1) by omega]
theorem qCz (d:Nat):PM ar s (d+1) 0=PM ar s d 0 * SS ar s d:=by
 rw[qli d 1 0];simp[PM]
theorem qEu {a:Nat->Nat} (ha:Asg ar a):∀ (d v:Nat),v+d<=ar.length->Wt s d v a<=PM ar s d v
 | 0,v,_=>qak _
 | d+1,v,h=>qdU (qDM (s v) (show a v < ql3 ar v by have:=ha v (by omega);unfold ql3;omega)) (qEu ha d (v+1) (by omega))
end
section
variable {ar:List Int} {L:OL}
theorem X55 (hO:OddsOk ar L) {u:Nat} (hu:u < L.es.length) (x1 x4 x5 x6 x14 x15 x16:AV) (m:Mem) (K:KT):∀ (j i:Nat),i+j=L.es[u].ns.length ->
  quH x1 x4 x5 x6 L.es[u].av (.int .i64 (L.es[u].ns.take i).sum) x14 x15 x16 L.es[u].av (.int .i64 L.es[u].ns.length) (.int .i64 i) m K=K (.exit 2) (qCo x1 x4 x5 x6 L.es[u].av (.int .i64 L.es[u].ns.sum) x14 x15 x16 m)
 | 0,i,h=>by rw[qqF,qaU,oBs,qap,qah (by omega),qbg (by omega)]
 | j+1,i,h=>by
  have hi:i < L.es[u].ns.length:=by omega
  have hr:=(hO.row u hu).1
  have hr1:=hr.1
  obtain ⟨b1,b2⟩:=Pq.take_bd hr i
  obtain ⟨a,ha,ha2⟩:=hr.get hi
  have ih:=X55 hO hu x1 x4 x5 x6 x14 x15 x16 m K j (i+1) (by omega)
  rw[Pq.take_sum hi] at ih
  rw[qqF,qaU,oBs,qap,qal (by omega),Pq.index_il hi,oBs,Pq.load_il,oBs,qc4,qbQ (by omega) (by omega),oBs,qbM (by omega),oBs,ih]
theorem W55 (hO:OddsOk ar L) (hal:ar.length<=16) {cs:List Int} (hcl:cs.length=ar.length) (hcb:∀ v,v < ar.length->0<=cs.getD v 0/\cs.getD v 0 < ar.getD v 0) (K:KT):∀ (j i:Nat) (m:Mem) (w:RV),i+j=L.es.length->2<=m.length->m.get 1=bR w->(∃ a b c,m.get 0=some (.obj true [a,b,c]))->WV (PM ar (sOf L) i 0) w (Wt (sOf L) i 0 (qeK cs)) ->
  ∃ (m':Mem) (w':RV),quG (IA false .no cs) (.ptr 0 0) (.ptr 1 0) L.av (.int .i64 L.es.length) (.int .i64 i) m K=K (.exit 0) (qCn (.ptr 0 0) (.ptr 1 0) m')/\2<=m'.length/\m'.get 1=bR w'/\(∃ a b c,m'.get 0=some (.obj true [a,b,c]))/\WV (PM ar (sOf L) ar.length 0) w' (Wt (sOf L) ar.length 0 (qeK cs)):=by
 intro j
 induction j with
 | zero=>
  intro i m w hi hm h1 h0 hw
  refine ⟨m,w,?_,hm,h1,h0,?_⟩
  ·rw[qqE,qaU,oBs,qap,qah (by omega)]
  ·have:i=ar.length:=by have:=hO.len;omega
   rw[this] at hw;exact hw
 | succ j ih=>
  intro i m w hi hm h1 h0 hw
  have hil:i < L.es.length:=by omega
  have hia:i < ar.length:=by have:=hO.len;omega
  have hr:=(hO.row i hil).1
  have hrl:=(hO.row i hil).2
  obtain ⟨S,hS,hS0,hSb⟩:=hr.sum
  have hcsi:i < cs.length:=by omega
  obtain ⟨q1,q2⟩:=hcb i hia
  have hgi:cs.getD i 0=cs[i]:=qij hcsi
  obtain ⟨c,hc⟩:=qc0 (show 0<=cs[i] by omega)
  have hcl2:c < L.es[i].ns.length:=by omega
  obtain ⟨a,ha,ha2⟩:=hr.get hcl2
  obtain ⟨r,er,cr,fr⟩:=qIx (a:=a) (b:=S) (by omega) (by omega) hS0
  have hss:=hO.ss hil
  have hsi:sOf L i (qeK cs i)=a:=by
   have e:qeK cs i=c:=by unfold qeK;rw[hgi,hc];rfl
   rw[e,qwA hil,qaa,qam hcl2,qaP,ha];rfl
  have hSS:SS ar (sOf L) i=S:=by rw[hss.1,hS];rfl
  obtain ⟨x,ex,cx,fx⟩:=qIy hw.ok (b:=r) ((cr.ok (k:=1) (qmQ (qbp (by omega)) (qbp (by omega)) (by omega)) (by omega)).mono (by omega)) (by omega) (by omega)
  have hall:=qCy hO.all
  have hMb:PM ar (sOf L) (i+1) 0 < 4294967296 ^ 8:=qa2 (hall (i+1) 0 (by omega)).2 (qa2 (qbA (by omega) (show i+1<=16 by omega)) (by decide))
  have asg:Asg ar (qeK cs):=fun v hv=>by
   have:=hcb v hv
   unfold qeK;omega
  have wx:WV (PM ar (sOf L) (i+1) 0) x (Wt (sOf L) (i+1) 0 (qeK cs)):=by
   refine Can.wv hMb (qEu asg (i+1) 0 (by omega)) ?_ fx
   rw[hw.q,cr.q,qmB] at cx
   rw[qu9,qCz,qar,hsi,hSS]
   exact cx
  have X:=X55 hO hil (IA false .no cs) (.ptr 0 0) (.ptr 1 0) (.int .i64 i) L.av (.int .i64 L.es.length) (.int .i64 i) m (qyl K) L.es[i].ns.length 0 (by omega)
  rw[List.take_zero,List.sum_nil] at X
  have X:quH (IA false .no cs) (.ptr 0 0) (.ptr 1 0) (.int .i64 i) L.es[i].av (.int .i64 0) L.av (.int .i64 L.es.length) (.int .i64 i) L.es[i].av (.int .i64 L.es[i].ns.length) (.int .i64 0) m (qyl K)=_:=X
  have p116:qaN (AP cfg) none m 116 [.int .i64 (a:Nat),.int .i64 (S:Nat)]=some (.tup [r.av,.int .i64 0],m):=by rw[qcH (qcR _ _) (qcR _ _),er];rfl
  have st1:qaR (some 3) (m++[bZ]) (.ptr m.length 0) r.av=some (m++[bR r]):=by
   rw[qwF (c1:=.bool false) (c2:=.lst none true .full []) (c3:=.lst none true .full []) (qev rfl),qe4 m _ _ rfl]
  have ld1:qat (some 3) (m++[bR r]) (.ptr 1 0)=some w.av:=qsB (by rw[qey (by omega)];exact h1)
  have ldr:qat (some 3) (m++[bR r]) (.ptr m.length 0)=some r.av:=qsB (qev rfl)
  have p117:qaN (AP cfg) none (m++[bR r]) 117 [w.av,r.av]=some (x.av,m++[bR r]):=by rw[qcH (qdQ w) (qdQ r),hw.fr,fr,ex];rfl
  have st2:qaR (some 3) (m++[bR r]) (.ptr 1 0) x.av=some ((m++[bR r]).set 1 (bR x)):=qwF (c1:=.bool w.neg) (c2:=w.num.av) (c3:=w.den.av) (by rw[qey (by omega)];exact h1)
  obtain ⟨m',w',e,k⟩:=ih (i+1) ((m++[bR r]).set 1 (bR x)) x (by omega) (by simp;omega) (qdF rfl (by simp;omega)) (by
   obtain ⟨y1,y2,y3,hy⟩:=h0
   exact ⟨y1,y2,y3,by rw[qdb (by omega),qey (by omega)];exact hy⟩) wx
  refine ⟨m',w',?_,k⟩
  have ixc:qag none (IA false .no cs) (.int .i64 i)=some (.vptr [.int .i64 (c:Nat)]):=by rw[qeN hcsi,hc]
  rw[qqE,qaU,oBs,qap,qal (by omega),Pq.index_ol hil,oBs,Pq.load_ol,oBs,Pq.len_il,oBs,X,qym,ixc,oBs,qbs,oBs,Pq.index_il hcl2,oBs,Pq.load_il,oBs,ha,hS,p116,oBs]
  dsimp only
  rw[show ∀ a b:AV,qaF (.tup [a,b]) 0=some a from fun _ _=>rfl,oBs,show ∀ a b:AV,qaF (.tup [a,b]) 1=some b from fun _ _=>rfl,oBs,show (qaH none m Ent.resv).1=m.length from rfl,show (qaH none m (Ent.obj true [.bool false,.lst none true .full [],.lst none true .full []])).2=m++[bZ] from rfl,st1,oBs,ld1,oBs,ldr,oBs,p117,oBs]
  dsimp only
  rw[st2,oBs,qbM (by omega),oBs]
  exact e
theorem V55 (hO:OddsOk ar L) (hal:ar.length<=16) {cs:List Int} (hcl:cs.length=ar.length) (hcb:∀ v,v < ar.length->0<=cs.getD v 0/\cs.getD v 0 < ar.getD v 0):∃ w:RV,AP cfg 55 [L.av,IA false .no cs]=some w.av/\WV (PM ar (sOf L) ar.length 0) w (Wt (sOf L) ar.length 0 (qeK cs)):=by
 have p23:∀ m,qaN (AP cfg) none m 23 []=some (qmO.av,m):=fun m=>by rw[qkt,V23];rfl
 have w0:WV (PM ar (sOf L) 0 0) qmO (Wt (sOf L) 0 0 (qeK cs)):=Can.wv (show (1:Nat) < 4294967296 ^ 8 by decide) (qak 1) (by show Can qmO (qOf false 1 1);rw[show qOf false 1 1=1 from rfl];exact qq5) qmu
 obtain ⟨m',w,e,_,g1,⟨a,b,c,g0⟩,hw⟩:=W55 hO hal hcl hcb (qyj (qbw cfg.P f55.results.toList)) L.es.length 0 ([bZ]++[bR qmO]) qmO (by omega) (by simp) rfl ⟨_,_,_,rfl⟩ w0
 have e1:AC cfg 55 [L.av,IA false .no cs] []=some (w.av,m'.set 0 (bR w)):=by
  rw[T55,show (qaH none ([]:Mem) (Ent.obj true [.bool false,.lst none true .full [],.lst none true .full []])).2=[bZ] from rfl,p23,oBs]
  dsimp only
  have st:qaR (some 3) ([bZ]++[bZ]) (.ptr 1 0) qmO.av=some ([bZ]++[bR qmO]):=rfl
  have e:quG (IA false .no cs) (.ptr 0 0) (.ptr 1 0) L.av (.int .i64 L.es.length) (.int .i64 0) ([bZ]++[bR qmO]) (qyj (qbw cfg.P f55.results.toList))=_:=e
  rw[show (qaH none ([]:Mem) Ent.resv).1=0 from rfl,show (qaH none ([bZ]:Mem) Ent.resv).1=1 from rfl,show (qaH none ([bZ]:Mem) (Ent.obj true [.bool false,.lst none true .full [],.lst none true .full []])).2=[bZ]++[bZ] from rfl,st,oBs,Pq.len_ol,oBs,e,qyk,qsB g1,oBs,qwF g0,oBs,qsB (qdF rfl (qbz g0)),oBs]
 exact ⟨w,(qbI _ _ (qdQ w) (qee _) e1).trans (by rw[hw.fr]),hw⟩
end
end Go.Ab

/- Number and the reference's Restrict, by value. -/
set_option maxRecDepth 100000
namespace Go.Ab
open Go.Proofs Go.Proofs.Tryz
theorem qnT {ar:List Int} {a b:Nat->Nat} (h:∀ w,w < ar.length->a w=b w):∀ (d v:Nat),v+d=ar.length->qhl (ar.drop v) v a=qhl (ar.drop v) v b
 | 0,v,e=>by rw[qbc (by omega)];rfl
 | d+1,v,e=>by
  have hv:v < ar.length:=by omega
  rw[qfv hv,qfv hv,h v hv,qnT h d (v+1) (by omega)]
end Go.Ab

/- The reference's Weigh by value; the odds that a law makes. -/
set_option maxRecDepth 100000
namespace Go.Ab
open Go.Proofs Go.Proofs.Tryz
theorem qGZ {z:Bool} {o:Own} {es:List AV} {i:Nat} (h:i < es.length):qag none (.lst none z o es) (.int .i64 i)=some (.vptr es[i].cells):=by simp[qag,h]
theorem qG5 {e:Nat} {sh:Sh} {m:Mem} {x:AV} {l:List AV} {T:List Nat} (h:QR e sh m x l T):∀ k∈T,k < m.length:=by
 cases h with
 | none=>intro k hk;cases hk
 | some t es ht _=>
  intro k hk
  obtain rfl:k=t:=by simpa using hk
  exact qbz ht
theorem qov {F G:Nat->Nat}:∀ {n:Nat},(∀ k,k < n->F k<=G k)->qgA n F<=qgA n G
 | 0,_=>qak _
 | n+1,h=>by
  rw[qdA,qdA]
  exact Nat.add_le_add (qov fun k hk=>h k (by omega)) (h n (by omega))
theorem qwG {F:Nat->Nat} {i n:Nat} (h:i<=n):qgA i F<=qgA n F:=by
 obtain ⟨d,rfl⟩:=Nat.exists_eq_add_of_le h
 rw[qrS];omega
section
variable {ar t:List Int} {L:OL}
def Ht (ar:List Int) (s:Nat->Nat->Nat) (t:List Int) (c:Int):Nat:=Ct ar s ar.length 0 (fun a=>if t.getD (qhl ar 0 a) 0=c then 1 else 0) fun _=>0
structure Alls (ar:List Int) (css:List (List Int)):Prop where
 len:css.length=qbD ar
 row:∀ k (h:k < css.length),Asn ar k css[k]
def qwV (s:Nat->Nat->Nat) (ar t:List Int) (css:List (List Int)) (c:Int) (k:Nat):Nat:=if t.getD k 0=c then Wt s ar.length 0 (qeK (css.getD k [])) else 0
theorem qvu {css:List (List Int)} {k:Nat} (h:k < css.length):css.getD k []=css[k]:=by rw[qaa,qam h];rfl
theorem qEe {s:Nat->Nat->Nat} (h1:∀ x∈ar,1<=x) {css:List (List Int)} (hA:Alls ar css) (c:Int):Ht ar s t c=qgA (qbD ar) (qwV s ar t css c)/\∀ i,i<=qbD ar->qgA i (qwV s ar t css c)<=PM ar s ar.length 0:=by
 have hk:∀ k,k < qbD (ar.drop 0)->Asg ar (qeK (css.getD k []))/\(∀ w,w < 0->qeK (css.getD k []) w=(fun _=>0) w)/\qhl (ar.drop 0) 0 (qeK (css.getD k []))=k:=fun k hk=>by
  rw[qbk] at hk ⊢
  have hl:k < css.length:=by rw[hA.len];exact hk
  rw[qvu hl]
  exact ⟨(hA.row k hl).asg,fun w hw=>by omega,(hA.row k hl).idx⟩
 have e:=qoF (s:=s) (φ:=fun a=>if t.getD (qhl ar 0 a) 0=c then 1 else 0) (fun b b' hb hb' h=>by
  have:qhl ar 0 b=qhl ar 0 b':=by
   have:=qnT (ar:=ar) h ar.length 0 (by omega)
   rwa [qbk] at this
  simp only[this]) ar.length 0 (by omega) (fun _=>0) (fun k=>qeK (css.getD k [])) (qCT h1) hk
 have e2:=qoF (s:=s) (φ:=fun _=>1) (fun _ _ _ _ _=>rfl) ar.length 0 (by omega) (fun _=>0) (fun k=>qeK (css.getD k [])) (qCT h1) hk
 rw[qh7,qc1] at e2
 have hF:∀ k,k < qbD (ar.drop 0)->Wt s ar.length 0 (qeK (css.getD k [])) * (if t.getD (qhl ar 0 (qeK (css.getD k []))) 0=c then 1 else 0)=qwV s ar t css c k:=fun k hk'=>by
  have:=(hk k hk').2.2
  rw[qbk] at this
  rw[this]
  unfold qwV
  split<;>simp
 rw[qdI hF,qbk] at e
 refine ⟨e,fun i hi=>?_⟩
 refine qa0 (qwG hi) ?_
 rw[qbk] at e2
 rw[e2]
 refine qov fun k _=>?_
 unfold qwV
 split
 ·simp
 ·exact qdq _
theorem X19 (hO:OddsOk ar L) (hLf:L.fr=L) (hal:ar.length<=16) (h1:∀ x∈ar,1<=x) {css:List (List Int)} (hA:Alls ar css) (htl:t.length=qbD ar) (hp:qbD ar<=1000000) {zt zc:Bool} {ot oc:Own} {c:Int} (b:Nat) (x0 x7 x14 x15 x16:AV) (K:KT):∀ (j i:Nat) (m:Mem) (sm:RV),i+j=css.length->m.get b=bR sm->WV (PM ar (sOf L) ar.length 0) sm (qgA i (qwV (sOf L) ar t css c)) ->
  ∃ (m':Mem) (sm':RV),qlT x0 (IA zt ot t) L.av x7 (.int .i64 c) (.ptr b 0) x14 x15 x16 (.lst none zc oc (css.map (IA false .no))) (.int .i64 css.length) (.int .i64 i) m K=K (.exit 2) (qCl x0 (IA zt ot t) L.av x7 (.int .i64 c) (.ptr b 0) x14 x15 x16 m')/\Fr m m' [b]/\m'.get b=bR sm'/\WV (PM ar (sOf L) ar.length 0) sm' (Ht ar (sOf L) t c):=by
 obtain ⟨hM0,hM8⟩:=qu2 hO.all hal
 obtain ⟨hs1,hs2⟩:=qEe (s:=sOf L) (t:=t) h1 hA c
 have hcl:=hA.len
 intro j
 induction j with
 | zero=>
  intro i m sm hi hg hw
  refine ⟨m,sm,?_,Fr.refl _ _,hg,by rw[hs1,<- hcl,show css.length=i by omega];exact hw⟩
  rw[qqy,qaU,oBs,qap,qah (by omega)]
 | succ j ih=>
  intro i m sm hi hg hw
  have hil:i < css.length:=by omega
  have hit:i < t.length:=by omega
  have hrow:=hA.row i hil
  have ixc:qag none (.lst none zc oc (css.map (IA false .no))) (.int .i64 i)=some (.vptr [IA false .no css[i]]):=by
   rw[qGZ (by simpa using hil),qfy];rfl
  have ixt:qag none (IA zt ot t) (.int .i64 i)=some (.vptr [.int .i64 t[i]]):=qeN hit
  have pre:qlT x0 (IA zt ot t) L.av x7 (.int .i64 c) (.ptr b 0) x14 x15 x16 (.lst none zc oc (css.map (IA false .no))) (.int .i64 css.length) (.int .i64 i) m K=if t[i]=c then
    ((qat (some 3) m (.ptr b 0)).bind fun v7=>
    (qaN (AP cfg) (some m.length) m 55 [L.av,IA false .no css[i]]).bind fun r8=>
    (qaN (AP cfg) (some m.length) r8.2 22 [v7,r8.1]).bind fun r9=>
    (qaR (some 3) r9.2 (.ptr b 0) r9.1).bind fun m10=>
    qlT x0 (IA zt ot t) L.av x7 (.int .i64 c) (.ptr b 0) x14 x15 x16 (.lst none zc oc (css.map (IA false .no))) (.int .i64 css.length) (.int .i64 (i+1:Nat)) m10 K)
    else qlT x0 (IA zt ot t) L.av x7 (.int .i64 c) (.ptr b 0) x14 x15 x16 (.lst none zc oc (css.map (IA false .no))) (.int .i64 css.length) (.int .i64 (i+1:Nat)) m K:=by
   rw[qqy,qaU,oBs,qap,qal (by omega),ixc,oBs,qbs,oBs,ixt,oBs,qbs,oBs,qcK,oBs,qap,qbM (by omega)]
   rfl
  have hgt:t.getD i 0=t[i]:=qij hit
  have hstep:qgA (i+1) (qwV (sOf L) ar t css c)=qgA i (qwV (sOf L) ar t css c)+(if t[i]=c then Wt (sOf L) ar.length 0 (qeK css[i]) else 0):=by
   rw[qdA]
   unfold qwV
   rw[hgt,qvu hil]
  rw[pre]
  by_cases hc:t[i]=c
  ·rw[qal hc]
   obtain ⟨w,ew,ww⟩:=V55 hO hal hrow.len hrow.bd
   have p55:qaN (AP cfg) (some m.length) m 55 [L.av,IA false .no css[i]]=some (w.av,m):=by
    rw[qcH (Pq.fz_ol L) (qg6 false .no css[i]),hLf]
    rw[show (Own.no).fr=Own.no from rfl,ew];rfl
   obtain ⟨y,ey,cy,fy⟩:=V22 hw.ok ww.ok (by omega) (by omega)
   have hb:=hs2 (i+1) (by omega)
   rw[hstep,qal hc] at hb
   have wy:WV (PM ar (sOf L) ar.length 0) y (qgA (i+1) (qwV (sOf L) ar t css c)):=by
    rw[hstep,qal hc]
    refine Can.wv hM8 hb ?_ fy
    rw[hw.q,ww.q,qmC hM0] at cy
    exact cy
   have p22:qaN (AP cfg) (some m.length) m 22 [sm.av,w.av]=some (y.av,m):=by rw[qcH (qdQ sm) (qdQ w),hw.fr,ww.fr,ey];rfl
   have st:qaR (some 3) m (.ptr b 0) y.av=some (m.set b (bR y)):=qwF (c1:=.bool sm.neg) (c2:=sm.num.av) (c3:=sm.den.av) hg
   obtain ⟨m',sm',e,f,k⟩:=ih (i+1) (m.set b (bR y)) y (by omega) (qdF rfl (qbz hg)) wy
   refine ⟨m',sm',?_,Fr.trans ((Fr.refl m [b]).set _ (.inl (by simp))) f fun a ha=>.inl ha,k⟩
   rw[qsB hg,oBs,p55,oBs]
   dsimp only
   rw[p22,oBs]
   dsimp only
   rw[st,oBs]
   exact e
  ·rw[qah hc]
   obtain ⟨m',sm',e,k⟩:=ih (i+1) m sm (by omega) hg (by rw[hstep,qah hc,qby];exact hw)
   exact ⟨m',sm',e,k⟩
theorem qIY (hO:OddsOk ar L) (hLf:L.fr=L) (hal:ar.length<=16) (h1:∀ x∈ar,1<=x/\x<=64) (htl:t.length=qbD ar) (hp:qbD ar<=300) {z zt zs:Bool} {o ot os:Own} {cs:List Int} (hcs:cs.length<=1000) (K:KT):∀ (Q P:List Int) (m:Mem) (x:AV) (D:List (Int×RV)) (T:List Nat),cs=P++Q->QR 47 (some 4) m x (D.map fun p=>shA p.1 p.2) T->D.map Prod.fst=P->(∀ p∈D,WV (PM ar (sOf L) ar.length 0) p.2 (Ht ar (sOf L) t p.1)) ->
  ∃ (m':Mem) (x':AV) (D':List (Int×RV)) (T':List Nat),quE (IA z o ar) (IA zt ot t) L.av x (IA zs os cs) (.int .i64 cs.length) (.int .i64 P.length) m K=K (.exit 0) (qCk x' m')/\QR 47 (some 4) m' x' (D'.map fun p=>shA p.1 p.2) T'/\D'.map Prod.fst=cs/\∀ p∈D',WV (PM ar (sOf L) ar.length 0) p.2 (Ht ar (sOf L) t p.1):=by
 obtain ⟨hM0,hM8⟩:=qu2 hO.all hal
 intro Q
 induction Q with
 | nil=>
  intro P m x D T hPQ hx hD hw
  rw[qav] at hPQ
  subst hPQ
  refine ⟨m,x,D,T,?_,hx,hD,hw⟩
  rw[qqx,qaU,oBs,qap,qah (by omega)]
 | cons c Q ih=>
  intro P m x D T hPQ hx hD hw
  have hPl:P.length < cs.length:=by rw[hPQ];simp
  have ix:qag none (IA zs os cs) (.int .i64 P.length)=some (.vptr [.int .i64 c]):=by
   rw[qeN hPl]
   congr 3
   simp[hPQ]
  have p20:qaN (AP cfg) none m 20 []=some (qfV.av,m):=by rw[qkt,V20];rfl
  have st0:qaR (some 3) (m++[bZ]) (.ptr m.length 0) qfV.av=some (m++[bR qfV]):=by
   rw[qwF (c1:=.bool false) (c2:=.lst none true .full []) (c3:=.lst none true .full []) (qev rfl),qe4 m _ _ rfl]
  obtain ⟨zc,oc,css,e54,hl,hr⟩:=V35 z o.fr ar h1 hal hp
  have p54:∀ m,qaN (AP cfg) none m 54 [IA z o ar]=some (.lst none zc oc (css.map (IA false .no)),m):=fun m=>by rw[qbt (qg6 z o ar),e54];rfl
  have w0:WV (PM ar (sOf L) ar.length 0) qfV (qgA 0 (qwV (sOf L) ar t css c)):=Can.wv hM8 (qdq _) (by rw[qox,qiu];exact qjZ) qiC
  obtain ⟨m1,sm,e7,f1,g1,w1⟩:=X19 hO hLf hal (fun x hx=>(h1 x hx).1) ⟨hl,hr⟩ htl (by omega) (zt:=zt) (zc:=zc) (ot:=ot) (oc:=oc) (c:=c) m.length (IA z o ar) x (IA zs os cs) (.int .i64 cs.length) (.int .i64 P.length) (qx9 K) css.length 0 (m++[bR qfV]) qfV (by omega) (qev rfl) w0
  have hx1:QR 47 (some 4) m1 x (D.map fun p=>shA p.1 p.2) T:=by
   have hT:=qG5 hx
   exact qDA hx fun k hk=>by
    have:=hT k hk
    rw[f1.get k (by simp;omega) (by simp;omega),qey this]
  have hDl:D.length=P.length:=by rw[<- hD,qaE]
  obtain ⟨x2,m2,T2,ea,q2,_,_⟩:=qAQ (b:=64) hx1 (by rw[qaE];unfold qef;omega) (shA c sm)
  obtain ⟨m',x',D',T',e,k⟩:=ih (P++[c]) m2 x2 (D++[(c,sm)]) T2 (by rw[hPQ,qaL];rfl) (by rw[qcA];exact q2) (by rw[qcA,hD];rfl) (fun p hp'=>by
   rcases qaW.1 hp' with h | h
   ·exact hw p h
   ·obtain rfl:p=(c,sm):=by simpa using h
    exact w1)
  refine ⟨m',x',D',T',?_,k⟩
  rw[qab,qdo] at e
  have e7:qlT (IA z o ar) (IA zt ot t) L.av x (.int .i64 c) (.ptr m.length 0) (IA zs os cs) (.int .i64 cs.length) (.int .i64 P.length) (.lst none zc oc (css.map (IA false .no))) (.int .i64 css.length) (.int .i64 0) (m++[bR qfV]) (qx9 K)=_:=e7
  rw[qqx,qaU,oBs,qap,qal (by omega),ix,oBs,qbs,oBs,p20,oBs]
  dsimp only
  rw[show (qaH none m (Ent.obj true [.bool false,.lst none true .full [],.lst none true .full []])).2=m++[bZ] from rfl,show (qaH none m Ent.resv).1=m.length from rfl,st0,oBs,p54,oBs]
  dsimp only
  rw[show qbY false (.lst none zc oc (css.map (IA false .no)))=some (.int .i64 css.length) by rw[qez,qaE],oBs,e7,qya,qsB g1,oBs,qAo,oBs,qAr w1.fr,oBs,ea,oBs,qbM (by omega),oBs]
  exact e
theorem V19 (hO:OddsOk ar L) (hLf:L.fr=L) (hal:ar.length<=16) (h1:∀ x∈ar,1<=x/\x<=64) (htl:t.length=qbD ar) (hp:qbD ar<=300) (hb:∀ y∈t,0<=y/\y<=4) (z zt:Bool) (o ot:Own) :
  ∃ (x:AV) (D:List (Int×RV)),AP cfg 19 [IA z o ar,IA zt ot t,L.av]=some x/\((x=.lst none true .full []/\D=[])\/x=.lst (some 4) false .no (D.map fun p=>shA p.1 p.2))/\(D.map Prod.fst).Pairwise (· < ·)/\(∀ y,y∈D.map Prod.fst↔y∈t)/\∀ p∈D,WV (PM ar (sOf L) ar.length 0) p.2 (Ht ar (sOf L) t p.1):=by
 obtain ⟨z',o',cs,p58,c1,c2⟩:=B14 (t:=t) (by omega) hb zt ot []
 have hcl:cs.length<=5:=qmD c1 fun y hy=>hb y ((c2 y).1 hy)
 obtain ⟨m',x,D,T,e,hx,hD,hw⟩:=qIY hO hLf hal h1 htl hp (z:=z) (zt:=zt) (zs:=z') (o:=o) (ot:=ot) (os:=o') (cs:=cs) (by omega) (qx7 (qbw cfg.P f19.results.toList)) cs [] [] (.lst none true .full []) [] [] rfl .none rfl (by simp)
 have e:quE (IA z o ar) (IA zt ot t) L.av (.lst none true .full []) (IA z' o' cs) (.int .i64 cs.length) (.int .i64 0) [] (qx7 (qbw cfg.P f19.results.toList))=_:=e
 have e19:AC cfg 19 [IA z o ar,IA zt ot t,L.av] []=some (x,m'):=by
  rw[T19,p58,oBs]
  dsimp only
  rw[qeb,oBs,e,qx8]
 rcases qAR hx with ⟨rfl,h⟩ | ⟨q,rfl⟩
 ·refine ⟨.lst none true .full [],D,qeG (m:=m') (v:=.lst none true .full []) (v':=.lst none true .full []) (l:=[]) e19 rfl rfl,.inl ⟨rfl,qg4.1 h⟩,by rw[hD];exact c1,by rw[hD];exact c2,hw⟩
 ·exact ⟨_,D,qeG (m:=m') (v:=.lst (some 4) false (.tok q 47) (D.map fun p=>shA p.1 p.2)) (v':=.lst (some 4) false .no (D.map fun p=>shA p.1 p.2)) (l:=[]) e19 rfl rfl,.inr rfl,by rw[hD];exact c1,by rw[hD];exact c2,hw⟩
end
def qww (r:List Int):IL:=⟨false,.no,r⟩
theorem X16 {z zl:Bool} {o ol:Own} {l:List Int} {n:Nat} (hn:n<=64) (x5 x12 x13 x14:AV) (K:KT):∀ (j i:Nat) (m:Mem) (x:AV) (es:List Int) (T:List Nat) (at':Nat),i+j=n->at'+64<=100000+i->GR 3 m x (es.map (AV.int .i64)) T->es.length=i ->
  ∃ (m':Mem) (x':AV) (es':List Int) (T':List Nat) (a':Nat),qoR (IA zl ol l) x5 (.int .i64 at') (.int .i64 n) x (.int .i64 i) x12 x13 x14 m K=K (.exit 2) (qyP (IA zl ol l) x5 (.int .i64 a') x' x12 x13 x14 m')/\GR 3 m' x' (es'.map (AV.int .i64)) T'/\es'.length=n/\a'<=at'+j/\Fr m m' T/\Gr m T T':=by
 intro j
 induction j with
 | zero=>
  intro i m x es T a hi ha hx he
  refine ⟨m,x,es,T,a,?_,hx,by omega,by omega,Fr.refl _ _,Gr.refl _ _⟩
  rw[qlR,qaU,oBs,qap,qah (by omega)]
 | succ j ih=>
  intro i m x es T a hi ha hx he
  have go:∀ (v:Int) (a2:Nat),a2<=a+1->∃ (m':Mem) (x':AV) (es':List Int) (T':List Nat) (a':Nat),((qaY none [.int .i64 v]).bind fun v9=>(qd6 none false 3 none 8 m x v9).bind fun r10=>(qaz .other .add (.int .i64 (i:Nat)) (.int .i64 1)).bind fun v11=>qoR (IA zl ol l) x5 (.int .i64 a2) (.int .i64 n) r10.1 v11 x12 x13 x14 r10.2 K)=K (.exit 2) (qyP (IA zl ol l) x5 (.int .i64 a') x' x12 x13 x14 m')/\GR 3 m' x' (es'.map (AV.int .i64)) T'/\es'.length=n/\a'<=a+(j+1)/\Fr m m' T/\Gr m T T':=by
   intro v a2 ha2
   obtain ⟨x2,m2,T2,ea,g2,f2,gg2⟩:=qnP (b:=8) hx (by simp;omega) (by omega) (.int .i64 v)
   obtain ⟨m',x',es',T',a',e,k1,k2,k3,k4,k5⟩:=ih (i+1) m2 x2 (es++[v]) T2 a2 (by omega) (by omega) (by rw[qcA];exact g2) (by simp[he])
   refine ⟨m',x',es',T',a',?_,k1,k2,by omega,Fr.trans f2 k4 gg2,Gr.trans f2.len gg2 k5⟩
   rw[qeu,oBs,ea,oBs,qbM (by omega),oBs]
   exact e
  by_cases hl:0 < l.length
  ·have hlt:a % l.length < l.length:=qcO _ hl
   obtain ⟨m',x',es',T',a',e,k⟩:=go l[a % l.length] (a+1) (qak _)
   refine ⟨m',x',es',T',a',?_,k⟩
   have ia1:qaz .other .add (.int .i64 (a:Nat)) (.int .i64 1)=some (.int .i64 (a+1:Nat)):=qbM (by omega)
   rw[qlR,qaU,oBs,qap,qal (by omega),qeb,oBs,qcB,oBs,qap,qal (by omega),oBs,qDp (by omega),oBs,qeN hlt,oBs,qbs,oBs,ia1,oBs]
   exact e
  ·obtain ⟨m',x',es',T',a',e,k⟩:=go 1 a (by omega)
   refine ⟨m',x',es',T',a',?_,k⟩
   rw[qlR,qaU,oBs,qap,qal (by omega),qeb,oBs,qcB,oBs,qap,qah (by omega)]
   exact e
end Go.Ab

/- DiagramWeighs in values. -/
set_option maxRecDepth 100000
namespace Go.Ab
open Go.Proofs Go.Proofs.Tryz
theorem qCV {x:AV} {es:List Int} {m:Mem} {T:List Nat} (h:GR 3 m x (es.map (AV.int .i64)) T) (hne:es≠[]):qaY none [x]=some (.lst none false .full [(qww es).av]):=by
 generalize he:es.map (AV.int .i64)=bs at h
 cases h with
 | none=>exact absurd (qg4.1 he) hne
 | some t bs' ht hne2=>
  subst he
  have e:qgv (.lst none false (.tok t 3) (es.map (AV.int .i64)))=(qww es).av:=rfl
  unfold qaY
  simp only[qeR,List.all_nil,qaX,qia,e]
  rfl
theorem qIX {z zl:Bool} {o ol:Own} {l ar:List Int} (h1:∀ x∈ar,1<=x/\x<=64) (hal:ar.length<=16) (K:KT):∀ (Q P:List Int) (m:Mem) (x:AV) (rows:List (List Int)) (T:List Nat) (a:Nat),ar=P++Q->a<=64 * P.length->GR 22 m x (rows.map fun r=>(qww r).av) T->rows.map (fun r=>(r.length:Int))=P ->
  ∃ (m':Mem) (x':AV) (rows':List (List Int)) (T':List Nat),quC (IA zl ol l) x (.int .i64 a) (IA z o ar) (.int .i64 ar.length) (.int .i64 P.length) m K=K (.exit 0) (qCh x' m')/\GR 22 m' x' (rows'.map fun r=>(qww r).av) T'/\rows'.map (fun r=>(r.length:Int))=ar:=by
 intro Q
 induction Q with
 | nil=>
  intro P m x rows T a hPQ ha hx hr
  rw[qav] at hPQ
  subst hPQ
  refine ⟨m,x,rows,T,?_,hx,hr⟩
  rw[qqr,qaU,oBs,qap,qah (by omega)]
 | cons n Q ih=>
  intro P m x rows T a hPQ ha hx hr
  have hPl:P.length < ar.length:=by rw[hPQ];simp
  have hn:=h1 n (by rw[hPQ];simp)
  obtain ⟨k,rfl⟩:=qc0 (show 0<=n by omega)
  have ix:qag none (IA z o ar) (.int .i64 P.length)=some (.vptr [.int .i64 (k:Nat)]):=by
   rw[qeN hPl]
   congr 3
   simp[hPQ]
  obtain ⟨m1,x1,es,T1,a1,e8,g1,l1,ha1,f1,gr1⟩:=X16 (z:=z) (zl:=zl) (o:=o) (ol:=ol) (l:=l) (n:=k) (by omega) x (IA z o ar) (.int .i64 ar.length) (.int .i64 P.length) (qxN K) k 0 m (.lst none true .full []) [] [] a (by omega) (by omega) .none rfl
  have hx1:GR 22 m1 x (rows.map fun r=>(qww r).av) T:=qvL hx fun q hq=>f1.get q (qDa hx q hq) (by simp)
  have hrl:rows.length=P.length:=by rw[<- hr,qaE]
  obtain ⟨x2,m2,T2,ea,g2,f2,gg2⟩:=qnP (b:=24) hx1 (by simp;omega) (by omega) (qww es).av
  obtain ⟨m',x',rows',T',e,k1,k2⟩:=ih (P++[(k:Int)]) m2 x2 (rows++[es]) T2 a1 (by rw[hPQ,qaL];rfl) (by rw[qab,qdo];omega) (by rw[qcA];exact g2) (by rw[qcA,hr,qaX,qia,l1])
  refine ⟨m',x',rows',T',?_,k1,k2⟩
  rw[qab,qdo] at e
  have e8:qoR (IA zl ol l) x (.int .i64 a) (.int .i64 (k:Nat)) (.lst none true .full []) (.int .i64 0) (IA z o ar) (.int .i64 ar.length) (.int .i64 P.length) m (qxN K)=_:=e8
  rw[qqr,qaU,oBs,qap,qal (by omega),ix,oBs,qbs,oBs]
  rw[e8,qxO,qCV g1 (by intro h;rw[h] at l1;simp at l1;omega),oBs,ea,oBs,qbM (by omega),oBs]
  exact e
structure LawOdds (ar:List Int) (L:OL):Prop where
 len:L.es.length=ar.length
 row:∀ (u:Nat) (h:u < L.es.length),(L.es[u].ns.length:Int)=ar.getD u 0
 fr:L.fr=L
theorem V16 (z zl:Bool) (o ol:Own) {ar:List Int} (h1:∀ x∈ar,1<=x/\x<=64) (hal:ar.length<=16) (l:List Int):∃ L:OL,AP cfg 16 [IA z o ar,IA zl ol l]=some L.av/\LawOdds ar L:=by
 obtain ⟨m',x',rows,T,e,g,hr⟩:=qIX (z:=z) (zl:=zl) (o:=o) (ol:=ol) (l:=l) h1 hal (qxL (qbw cfg.P f16.results.toList)) ar [] [] (.lst none true .full []) [] [] 0 rfl (by simp) .none rfl
 have e:quC (IA zl ol l) (.lst none true .full []) (.int .i64 0) (IA z o ar) (.int .i64 ar.length) (.int .i64 0) [] (qxL (qbw cfg.P f16.results.toList))=_:=e
 have e16:AC cfg 16 [IA z o ar,IA zl ol l] []=some (x',m'):=by
  rw[T16,qeb,oBs,e,qxM]
 obtain ⟨z',o',rfl,hz⟩:=qnQ g
 have lo:∀ o2,LawOdds ar ⟨z',(o2:Own).fr,rows.map qww⟩:=fun o2=>by
  have hl:rows.length=ar.length:=by rw[<- hr,qaE]
  refine ⟨by simp[hl],fun u hu=>?_,?_⟩
  ·have hur:u < rows.length:=by simpa using hu
   have:(ar.getD u 0)=(rows[u].length:Int):=by
    rw[<- hr,qaa,qiL,qam hur];rfl
   rw[this]
   simp[qww]
  ·unfold Pq.OL.fr
   cases o2<;>rfl
 refine ⟨⟨z',o'.fr,rows.map qww⟩,?_,lo o'⟩
 have hav:Pq.OL.av ⟨z',o'.fr,rows.map qww⟩=.lst none z' o'.fr (rows.map fun r=>(qww r).av):=by
  unfold Pq.OL.av
  rw[List.map_map];rfl
 rw[hav]
 exact qeG (m:=m') (l:=[]) e16 (by cases o'<;>rfl) rfl
section
variable {ar t:List Int} {s:Nat->Nat->Nat}
theorem qow {F G:Nat->Nat}:∀ n,qgA n (fun k=>F k+G k)=qgA n F+qgA n G
 | 0=>rfl
 | n+1=>by rw[qdA,qdA,qdA,qow n];omega
theorem qs2 (φ ψ:(Nat->Nat)->Nat):∀ (d v:Nat) (a:Nat->Nat),Ct ar s d v (fun a=>φ a+ψ a) a=Ct ar s d v φ a+Ct ar s d v ψ a
 | 0,_,_=>rfl
 | d+1,v,a=>by
  rw[Ct,Ct,Ct,<- qow]
  refine qdI fun k _=>?_
  rw[qs2 φ ψ d (v+1),qa8]
theorem qvP {x:Int}:∀ {os:List Int},os.Nodup->x∈os->(os.map fun c=>if x=c then 1 else 0).sum=1
 | c::os,hn,hm=>by
  obtain ⟨h1,h2⟩:=qes.1 hn
  rw[qaX,qbN]
  by_cases h:x=c
  ·subst h
   rw[qal rfl]
   have:∀ os:List Int,x∉os->(os.map fun c=>if x=c then 1 else 0).sum=0:=fun os hx=>by
    induction os with
    | nil=>rfl
    | cons y os ih=>
     rw[qaX,qbN,qah (fun e=>hx (by rw[e];simp)),ih fun hh=>hx (qax _ hh)]
   rw[this os h1]
  ·rw[qah h,qvP h2 (by rcases qa1.1 hm with e | e;exact absurd e h;exact e)]
theorem qBa (os:List Int):(os.map (Ht ar s t)).sum=Ct ar s ar.length 0 (fun a=>(os.map fun c=>if t.getD (qhl ar 0 a) 0=c then 1 else 0).sum) fun _=>0:=by
 induction os with
 | nil=>
  show 0=Ct ar s ar.length 0 (fun _=>0) _
  rw[qh7,qc7]
 | cons c os ih=>
  rw[qaX,qbN,ih,Ht,<- qs2]
  rfl
theorem qEd (h1:∀ x∈ar,1<=x) (htl:t.length=qbD ar) {os:List Int} (hn:os.Nodup) (hm:∀ y∈t,y∈os):(os.map (Ht ar s t)).sum=PM ar s ar.length 0:=by
 rw[qBa]
 have:=qju (s:=s) (φ:=fun a=>(os.map fun c=>if t.getD (qhl ar 0 a) 0=c then 1 else 0).sum) (ψ:=fun _=>1) ar.length 0 (fun _=>0) (qCT h1) fun b hb _=>by
  have hlt:=qnU hb ar.length 0 (by omega)
  rw[qbk,<- htl] at hlt
  exact qvP hn (hm _ (by rw[qij hlt];exact qaJ hlt))
 rw[this,qh7,qc1]
end
def ShR (x:AV) (D:List (Int×RV)):Prop:=(x=.lst none true .full []/\D=[])\/∃ o,x=.lst (some 4) false o (D.map fun p=>shA p.1 p.2)
theorem ShR.len {x:AV} {D:List (Int×RV)} (h:ShR x D):qbY false x=some (.int .i64 D.length):=by
 rcases h with ⟨rfl,rfl⟩ | ⟨o,rfl⟩
 ·rfl
 ·rw[qez,qaE]
theorem ShR.idx {x:AV} {D:List (Int×RV)} (h:ShR x D) {i:Nat} (hi:i < D.length):qag (some 4) x (.int .i64 i)=some (.vptr [.int .i64 D[i].1,.bool D[i].2.neg,D[i].2.num.av,D[i].2.den.av]):=by
 rcases h with ⟨rfl,rfl⟩ | ⟨o,rfl⟩
 ·simp at hi
 ·have:qag (some 4) (.lst (some 4) false o (D.map fun p=>shA p.1 p.2)) (.int .i64 i)=some (.vptr ((D.map fun p=>shA p.1 p.2)[i]'(by simpa using hi)).cells):=by simp[qag,hi]
  rw[this,qfy];rfl
theorem X3 {ar t:List Int} {s:Nat->Nat->Nat} (hM0:PM ar s ar.length 0≠0) (hM8:PM ar s ar.length 0 < 4294967296 ^ 8) {D1 D2:List (Int×RV)} {x1 x2:AV} (r1:ShR x1 D1) (r2:ShR x2 D2) (hD:D1.map Prod.fst=D2.map Prod.fst) (hl:D1.length<=1000) (w1:∀ p∈D1,WV (PM ar s ar.length 0) p.2 (Ht ar s t p.1)) (w2:∀ p∈D2,WV (PM ar s ar.length 0) p.2 (Ht ar s t p.1))
  (hs:((D1.map Prod.fst).map (Ht ar s t)).sum=PM ar s ar.length 0) (b:Nat) (K:KT):∀ (j i:Nat) (m:Mem) (sm:RV),i+j=D1.length->m.get b=bR sm->WV (PM ar s ar.length 0) sm ((((D1.map Prod.fst).map (Ht ar s t)).take i).sum) ->
  ∃ (m':Mem) (sm':RV),quF x1 x2 (.ptr b 0) (.int .i64 D1.length) (.int .i64 i) m K=K (.exit 0) (qCm (.ptr b 0) m')/\m'.get b=bR sm'/\WV (PM ar s ar.length 0) sm' (PM ar s ar.length 0):=by
 have hl2:D2.length=D1.length:=by have:=qbi List.length hD;simpa using this.symm
 intro j
 induction j with
 | zero=>
  intro i m sm hi hg hw
  rw[qbg (by simp;omega),hs] at hw
  refine ⟨m,sm,?_,hg,hw⟩
  rw[qqC,qaU,oBs,qap,qah (by omega)]
 | succ j ih=>
  intro i m sm hi hg hw
  have hi1:i < D1.length:=by omega
  have hi2:i < D2.length:=by omega
  have hk:D1[i].1=D2[i].1:=by
   have h1:(D1.map Prod.fst)[i]'(by simpa using hi1)=(D2.map Prod.fst)[i]'(by simpa using hi2):=by
    simp only[hD]
   simpa using h1
  have v1:=w1 _ (qaJ hi1)
  have v2:=w2 _ (qaJ hi2)
  rw[<- hk] at v2
  have hlm:i < ((D1.map Prod.fst).map (Ht ar s t)).length:=by simpa using hi1
  have hstep:(((D1.map Prod.fst).map (Ht ar s t)).take (i+1)).sum=(((D1.map Prod.fst).map (Ht ar s t)).take i).sum+Ht ar s t D1[i].1:=by
   rw[qbW hlm,List.sum_append]
   simp
  have hbd:(((D1.map Prod.fst).map (Ht ar s t)).take (i+1)).sum<=PM ar s ar.length 0:=by
   rw[<- hs]
   conv=>rhs;rw[<- qbj (i+1) ((D1.map Prod.fst).map (Ht ar s t)),List.sum_append]
   omega
  obtain ⟨y,ey,cy,fy⟩:=V22 hw.ok v1.ok (by omega) (by omega)
  have wy:WV (PM ar s ar.length 0) y (((D1.map Prod.fst).map (Ht ar s t)).take (i+1)).sum:=by
   refine Can.wv hM8 hbd ?_ fy
   rw[hw.q,v1.q,qmC hM0,<- hstep] at cy
   exact cy
  have p21:qaN (AP cfg) (some m.length) m 21 [D1[i].2.av,D2[i].2.av]=some (.bool true,m):=by
   rw[qcH (qdQ _) (qdQ _),v1.fr,v2.fr,V21 v1.ok v2.ok (by omega) (by omega),qa6 (v1.q.trans v2.q.symm)];rfl
  have p22:qaN (AP cfg) (some m.length) m 22 [sm.av,D1[i].2.av]=some (y.av,m):=by rw[qcH (qdQ sm) (qdQ _),hw.fr,v1.fr,ey];rfl
  have st:qaR (some 3) m (.ptr b 0) y.av=some (m.set b (bR y)):=qwF (c1:=.bool sm.neg) (c2:=sm.num.av) (c3:=sm.den.av) hg
  obtain ⟨m',sm',e,k⟩:=ih (i+1) (m.set b (bR y)) y (by omega) (qdF rfl (qbz hg)) wy
  refine ⟨m',sm',?_,k⟩
  have f0:∀ a b c d:AV,qaB 0 (.vptr [a,b,c,d])=some (.vptr [a,b,c,d]):=fun _ _ _ _=>rfl
  have f1:∀ a b c d:AV,qaB 1 (.vptr [a,b,c,d])=some (.vptr [b,c,d]):=fun _ _ _ _=>rfl
  have l0:∀ (m:Mem) (a b c d:AV),qat none m (.vptr [a,b,c,d])=some a:=fun _ _ _ _ _=>rfl
  have l1:∀ (m:Mem) (r:RV),qat (some 3) m (.vptr [.bool r.neg,r.num.av,r.den.av])=some r.av:=fun _ _=>rfl
  rw[qqC,qaU,oBs,qap,qal (by omega),r1.idx hi1,oBs,f0,oBs,l0,oBs,r2.idx hi2,oBs,f0,oBs,l0,oBs,qcW,oBs,qap,qah (by rw[hk];simp),oBs,f1,oBs,l1,oBs,oBs,f1,oBs,l1,oBs,p21,oBs]
  dsimp only
  rw[qfU,oBs,qcC,qdW,qsB hg,oBs,oBs,f1,oBs,l1,oBs,p22,oBs]
  dsimp only
  rw[st,oBs,qbM (by omega),oBs]
  exact e
end Go.Ab

/- DiagramWeighs: the law, in values. -/
set_option maxRecDepth 100000
namespace Go.Ab
open Go.Proofs Go.Proofs.Tryz
theorem qpj {r:List Int} (hg:qmh r) (he:qhH r=0):qdG 300 1 r=(qbD r:Nat)/\qbD r<=300:=by
 obtain ⟨_,h2⟩:=qhs he
 have:=qku r 1 (fun a ha=>(h2 a ha).1) (by omega) (by omega) (hg he)
 rw[Int.one_mul] at this
 exact ⟨this.1,by omega⟩
theorem pcT (z zl:Bool) (o ol:Own) (ar l:List Int) (h1:ar.length<=16) (h2:∀ a∈ar,1<=a/\a<=64) {N:Nat} (hN:qdG 300 1 ar=N) (hN2:N<=300) (m:Mem):∃ (z':Bool) (o':Own) (t:List Int),qaN (AP cfg) none m 14 [IA z o ar,IA zl ol l]=some (IA z' o' t,m)/\(z'=true->t=[])/\t.length=N/\∀ y∈t,0<=y/\y<=4:=by
 obtain ⟨z',o',t,e,h⟩:=V28 z zl o.fr ol.fr ar l h1 h2 hN hN2
 exact ⟨z',o',t,by rw[qcH (qg6 z o ar) (qg6 zl ol l),e];rfl,h⟩
theorem LawOdds.h64 {ar:List Int} {L:OL} (h:LawOdds ar L) (h1:∀ x∈ar,1<=x/\x<=64):∀ r∈L.es,r.ns.length<=64:=fun r hr=>by
 obtain ⟨u,hu,rfl⟩:=qbH hr
 have:=h.row u hu
 have hua:u < ar.length:=by rw[<- h.len];exact hu
 rw[qaa,qam hua,qaP] at this
 have:=h1 _ (qaJ hua)
 omega
theorem qzo {r:List Int} {l1:List ND} {id1:Nat} {t:List Int} (g1:GoodL r l1) (h1:∀ x∈r,1<=x) (tab1:TabV r l1 id1 0 t) (x:Int):x∈qeW l1 id1↔x∈t:=by
 have hid:=tab1.lt
 obtain ⟨cc1,_,_⟩:=qfs g1 id1 hid [] qjd
 have tab:∀ y,Asg r y->S l1 y id1=t.getD (qhl r 0 y) 0:=fun y hy=>by
  have:=tab1.val y hy
  rwa [qbk] at this
 have htl:t.length=qbD r:=by have:=tab1.len;rwa [qbk] at this
 have hleaf:(∃ y,Asg r y/\S l1 y id1=x)↔x∈t:=by
  constructor
  ·rintro ⟨y,hy,rfl⟩
   rw[tab y hy]
   have hlt:=qnU hy r.length 0 (by omega)
   rw[qbk] at hlt
   have hi:qhl r 0 y < t.length:=by omega
   rw[qij hi]
   exact qaJ hi
  ·intro hx
   obtain ⟨i,hi,rfl⟩:=qbH hx
   obtain ⟨y,hy,e⟩:=qrg h1 r.length 0 i (by omega) (by rw[qbk];omega)
   rw[qbk] at e
   exact ⟨y,hy,by rw[tab y hy,e,qij hi]⟩
 rw[qmL,qzR cc1.lt,<- hleaf,<- qsD g1 h1 hid]
 constructor
 ·rintro ⟨j,hj,hjl,hk,rfl⟩
  exact ⟨j,hj,hjl,by simpa using hk,rfl⟩
 ·rintro ⟨j,hj,hjl,hk,rfl⟩
  exact ⟨j,hj,hjl,by simpa using hk,rfl⟩
theorem qFM {r:List Int} {l1:List ND} {id1:Nat} {t:List Int} (h1:∀ x∈r,1<=x) (tab1:TabV r l1 id1 0 t) (s:Nat->Nat->Nat) (c:Int):Hc r s l1 c id1=Ht r s t c:=by
 unfold Hc Ht
 refine qju _ _ _ (qCT h1) fun b hb _=>?_
 have:=tab1.val b hb
 rw[qbk] at this
 rw[this]
theorem qiH (z zl zg:Bool) (ar l gv:List Int):∃ m',AC cfg 3 [IA z .no ar,IA zl .no l,IA zg .no gv] []=some (.bool true,m'):=by
 obtain ⟨o',r,e11,hg,hr17,ho'⟩:=V11 z .no ar
 have p10:∀ m,qaN (AP cfg) none m 10 [IA z .no ar]=some (IA false o' r,m):=fun m=>by
  rw[qbt (qg6 z .no ar),show (Own.no).fr=Own.no from rfl,e11];rfl
 rw[T3,p10,oBs,qHH,oBs,qcW,oBs,qap]
 by_cases he:qhH r=0
 ·rw[qah (by simpa using he)]
  obtain ⟨h1,h2⟩:=qhs he
  obtain ⟨hN,hN2⟩:=qpj hg he
  have h2':∀ x∈r,1<=x:=fun x hx=>(h2 x hx).1
  dsimp only
  rw[qD5 false o' r h1 h2 100 (by omega),oBs,qcK,oBs,qap]
  by_cases h100:qdG 100 1 r=0
  ·rw[qal h100,qFE,oBs]
   exact ⟨_,rfl⟩
  rw[qah h100]
  obtain ⟨zt,ot,t,e14,_,htl,htb⟩:=pcT false zl o' .no r l h1 h2 hN hN2 []
  obtain ⟨m1,s,F,zs,os,l1,id1,e29,st1,g1,tab1,hl1,f1,_⟩:=A29 (za:=false) (z:=zt) (oa:=o') (o:=ot) (ar:=r) (t:=t) [] (fun h=>by cases h) he hN2 htl htb
  have hid:=tab1.lt
  have hll:l1.length<=100000:=by omega
  obtain ⟨L,e16,hL⟩:=V16 false zg o'.fr .no h2 h1 gv
  have p16:∀ m,qaN (AP cfg) none m 16 [IA false o' r,IA zg .no gv]=some (L.av,m):=fun m=>by
   rw[qcH (qg6 false o' r) (qg6 zg .no gv),show (Own.no).fr=Own.no from rfl,e16];rfl
  have h64:=hL.h64 h2
  have h40:L.es.length<=40:=by rw[hL.len];omega
  have p18:∀ m,qaN (AP cfg) none m 18 [IA false o' r,L.av]=some (.bool (Pq.oddsB ⟨zs,os,r⟩ L),m):=fun m=>by
   rw[qcH (qg6 false o' r) (Pq.fz_ol L),hL.fr]
   have:=Pq.V18 ⟨false,o'.fr,r⟩ L h64 h40
   have e:AP cfg 18 [IA false o'.fr r,L.av]=some (.bool (Pq.oddsB ⟨zs,os,r⟩ L)):=this
   rw[e];rfl
  dsimp only
  rw[e14,oBs,e29,oBs,show qaF (.tup [.ptr s 0,.int .i64 (id1:Nat),.bool true]) 0=some (.ptr s 0) from rfl,oBs,show qaF (.tup [.ptr s 0,.int .i64 (id1:Nat),.bool true]) 1=some (.int .i64 (id1:Nat)) from rfl,oBs,show qaF (.tup [.ptr s 0,.int .i64 (id1:Nat),.bool true]) 2=some (.bool true) from rfl,oBs,qfU,oBs,qcC,qdW,p16,oBs]
  dsimp only
  cases hO:Pq.oddsB ⟨zs,os,r⟩ L with
  | false=>
   obtain ⟨m2,e17,f2⟩:=qCO st1 (by omega) g1 hll hid h64 h40 hO
   rw[e17,oBs]
   dsimp only
   rw[ex0,oBs,ex1,oBs,p18,hO,oBs]
   dsimp only
   rw[qfU,oBs,qcS,qfw,show qaz .other .eql (.int .i64 1) (.int .i64 1)=some (.bool true) from rfl,oBs,qfw,show qbY false (.lst none true .full [])=some (.int .i64 0) from rfl,oBs,show qaz .other .eql (.int .i64 0) (.int .i64 0)=some (.bool true) from rfl,oBs,qfw,qFE,oBs]
   exact ⟨_,rfl⟩
  | true=>
   have hok:=qwb h64 hO
   obtain ⟨hM0,hM8⟩:=qu2 hok.all h1
   obtain ⟨m2,x1,En,T1,e17,f2,q1,_,w1⟩:=qEt st1 (by omega) g1 hll h2 h1 hid h64 h40 hO
   obtain ⟨x2,D2,e19,hx2,hrise,hmem,w2⟩:=V19 hok hL.fr h1 h2 htl hN2 htb false zt o'.fr ot.fr
   have p19:∀ m,qaN (AP cfg) none m 19 [IA false o' r,IA zt ot t,L.av]=some (x2,m):=fun m=>by
    rw[qof (qg6 false o' r) (qg6 zt ot t) (Pq.fz_ol L),hL.fr,e19];rfl
   have p20:∀ m,qaN (AP cfg) none m 20 []=some (qfV.av,m):=fun m=>by rw[qkt,V20];rfl
   obtain ⟨D1,hD1⟩:∃ D1:List (Int×RV),D1=(qeW l1 id1).map fun c=>(c,(lk En c).getD zR):=⟨_,rfl⟩
   have hk1:D1.map Prod.fst=qeW l1 id1:=by rw[hD1,List.map_map];exact List.map_id' _
   have heq:qeW l1 id1=D2.map Prod.fst:=qwu (qwL _) hrise fun x=>(qzo g1 h2' tab1 x).trans (hmem x).symm
   have r1:ShR x1 D1:=by
    have:(D1.map fun p=>shA p.1 p.2)=(qeW l1 id1).map fun c=>shA c ((lk En c).getD zR):=by rw[hD1,List.map_map];rfl
    rcases qAR q1 with ⟨h,h'⟩ | ⟨q,h⟩
    ·exact .inl ⟨h,by rw[hD1,qg4.1 h'];rfl⟩
    ·exact .inr ⟨_,by rw[this];exact h⟩
   have r2:ShR x2 D2:=by
    rcases hx2 with h | h
    ·exact .inl h
    ·exact .inr ⟨_,h⟩
   have v1:∀ p∈D1,WV (PM r (sOf L) r.length 0) p.2 (Ht r (sOf L) t p.1):=fun p hp=>by
    rw[hD1] at hp
    obtain ⟨c,hc,rfl⟩:=qbF.1 hp
    have:=w1 c hc
    rw[qFM h2' tab1] at this
    exact this
   have hD:D1.map Prod.fst=D2.map Prod.fst:=hk1.trans heq
   have hlen5:D2.length<=5:=by
    have:=qmD hrise fun y hy=>htb y ((hmem y).1 hy)
    rwa [qaE] at this
   have hl12:D1.length=D2.length:=by have:=qbi List.length hD;simpa using this
   have hsum:((D1.map Prod.fst).map (Ht r (sOf L) t)).sum=PM r (sOf L) r.length 0:=by
    rw[hD]
    refine qEd h2' htl ?_ fun y hy=>(hmem y).2 hy
    rw[List.nodup_iff_pairwise_ne]
    exact hrise.imp fun h=>by omega
   have st0:∀ m:Mem,qaR (some 3) (m++[bZ]) (.ptr m.length 0) qfV.av=some (m++[bR qfV]):=fun m=>by
    rw[qwF (c1:=.bool false) (c2:=.lst none true .full []) (c3:=.lst none true .full []) (qev rfl),qe4 m _ _ rfl]
   obtain ⟨m3,sm,e3,g3,w3⟩:=X3 hM0 hM8 r1 r2 hD (by omega) v1 w2 hsum m2.length (qyg (qbw cfg.P f3.results.toList)) D1.length 0 (m2++[bR qfV]) qfV (by omega) (qev rfl) (Can.wv hM8 (by simp) (by rw[List.take_zero,List.sum_nil,qiu];exact qjZ) qiC)
   have e3:quF x1 x2 (.ptr m2.length 0) (.int .i64 D1.length) (.int .i64 0) (m2++[bR qfV]) (qyg (qbw cfg.P f3.results.toList))=_:=e3
   have p23:∀ d m,qaN (AP cfg) d m 23 []=some (qmO.av,m):=fun d m=>by rw[qkt,V23];rfl
   have p21:qaN (AP cfg) (some m3.length) m3 21 [sm.av,qmO.av]=some (.bool true,m3):=by
    have wo:WV (PM r (sOf L) r.length 0) qmO (PM r (sOf L) r.length 0):=Can.wv hM8 (qak _) (by rw[qoj hM0];exact qq5) qmu
    rw[qcH (qdQ _) (qdQ _),w3.fr,qmu,V21 w3.ok wo.ok (by omega) (by omega),qa6 (w3.q.trans wo.q.symm)];rfl
   rw[e17,oBs]
   dsimp only
   rw[ex0,oBs,ex1,oBs,p18,hO,oBs]
   dsimp only
   rw[qfU,oBs,qcC,qdW,p19,oBs]
   dsimp only
   rw[p20,oBs]
   dsimp only
   rw[show (qaH none m2 (Ent.obj true [.bool false,.lst none true .full [],.lst none true .full []])).2=m2++[bZ] from rfl,show (qaH none m2 Ent.resv).1=m2.length from rfl,st0,oBs,show qaz .other .neq (.int .i64 0) (.int .i64 0)=some (.bool false) from rfl,oBs,qdW,r1.len,oBs,r2.len,oBs,qcW,oBs,qap,qah (by rw[hl12];simp),oBs,e3,qyh,qsB g3,oBs,p23,oBs]
   dsimp only
   rw[p21,oBs]
   dsimp only
   rw[qfw,qFE,oBs]
   exact ⟨_,rfl⟩
 ·rw[qal he,qFE,oBs]
  exact ⟨_,rfl⟩
end Go.Ab

/- The deferred closures of the diagram seat: where nothing has panicked they do nothing. -/
namespace Go.Ab
open Go.Proofs Go.RowKit
theorem qEO (caps:Array Value) (w:World):CallsD Tryz.prog 140 caps .returning w fun e u w'=>(∃ v,e=.returned v)/\u=.returning/\w'=w:=by
 refine callsD_of_wpS Tryz.func140 rfl fun c₀ cs hu=>?_
 have hs:45<=(caps++Array.replicate (Tryz.f140.ntmps - caps.size) undef).size:=by
  rw[Tryz.ntmps140,qiE,Array.size_replicate];omega
 generalize caps++Array.replicate (Tryz.f140.ntmps - caps.size) undef=T at hs
 apply wpS_seq
 apply wpS_region
 simp[wpOpsS,go_sem,recoverD,hu,Exit.thenS,Act.put,Act.eval,show 9 < T.size by omega,show 4 < T.size by omega]
 apply wpS_seq
 apply wpS_seq
 apply wpS_region
 simp[wpOpsS,go_sem,recoverD,hu,Exit.thenS,Act.put,Act.eval,show 9 < T.size by omega,show 4 < T.size by omega,show 10 < T.size by omega,show 11 < T.size by omega]
 refine wpS_cond (t:=true) (by simp[Act.eval,show 11 < T.size by omega]) ?_
 simp only[qa5]
 refine wpS_of_wp (wp_ret ?_)
 cases c₀
 simp_all [bodyPostS,results,Tryz.results140,Exit.thenS]
theorem qEP (caps:Array Value) (w:World):CallsD Tryz.prog 177 caps .returning w fun e u w'=>(∃ v,e=.returned v)/\u=.returning/\w'=w:=by
 refine callsD_of_wpS Tryz.func177 rfl fun c₀ cs hu=>?_
 have hs:3<=(caps++Array.replicate (Tryz.f177.ntmps - caps.size) undef).size:=by
  rw[Tryz.ntmps177,qiE,Array.size_replicate];omega
 generalize caps++Array.replicate (Tryz.f177.ntmps - caps.size) undef=T at hs
 apply wpS_seq
 apply wpS_region
 simp[wpOpsS,go_sem,recoverD,hu,Exit.thenS,Act.put,Act.eval,show 1 < T.size by omega,show 2 < T.size by omega]
 refine wpS_cond (t:=false) (by simp[Act.eval,show 2 < T.size by omega]) ?_
 simp only[qbe,qg7]
 refine wpS_of_wp (wp_skip ?_)
 cases c₀
 simp_all [bodyPostS,results,Tryz.results177]
theorem qvm {g:Nat} {fn:Func} (hfn:Tryz.prog.funcs[g]?=some fn) (hname:(fn.name == "runtime.NumGoroutine")=false) (hbody:fn.body.isSome) (caps:Array Value)
  (h:∀ w,CallsD Tryz.prog g caps .returning w fun e u w'=>(∃ v,e=.returned v)/\u=.returning/\w'=w):qEb Tryz.prog { target:=.fn (.func g) caps,args:=#[] }:=by
 refine ⟨.func g,caps,g,caps,rfl,fun w=>⟨?_,h w⟩⟩
 have hb:fn.body.isNone=false:=by cases hb:fn.body<;>simp_all
 simp only[invoke,callFunc,hfn,hname,hb,Sem.run_bind,Sem.run_pure,run_program,Result.andThen_ok,qbe,qg7,Array.empty_append]
theorem qGS (caps:Array Value):qEb Tryz.prog { target:=.fn (.func 140) caps,args:=#[] }:=qvm Tryz.func140 (by kernel_rfl) (by kernel_rfl) caps (qEO caps)
theorem qGT (caps:Array Value):qEb Tryz.prog { target:=.fn (.func 177) caps,args:=#[] }:=qvm Tryz.func177 (by kernel_rfl) (by kernel_rfl) caps (qEP caps)
end Go.Ab

/- Data that can be read, as values of the interpreter: any type of whole numbers, truth values, texts, rows of these, and flat structs. -/
set_option maxRecDepth 100000
namespace Go.Ab
open Go.RowKit
def gN:G:=⟨fun _ _=>False,fun _=>False,fun _=>none,fun _ _=>none⟩
def qsu (P:Program) (t:Nat):Bool:=match P.underlying t with
 | some (.int _) | some .bool | some .string | some (.slice _)=>true
 | _=>false
def shE (P:Program) (t:Nat):Sh:=match P.underlying t with
 | some (.struct fs)=>some fs.size
 | _=>none
def qhb (P:Program):Nat->Nat->AV->Prop
 | 0,_,_=>False
 | n+1,t,v=>match P.underlying t with
  | some (.int k)=>∃ i,v=.int k i/\(Lit.int k i).wf=true
  | some .bool=>∃ b,v=.bool b
  | some .string=>∃ s,v=.str s/\s.size<=maxLen
  | some (.slice e)=>∃ z es,v=.lst (shE P e) z .no es/\(z=true->es=[])/\∀ x∈es,qhb P n e x
  | some (.struct fs)=>∃ cs,v=.agg cs/\cs.length=fs.size/\∀ i f,fs[i]?=some f->qhb P n f.type (cs.getD i .any)
  | _=>False
def qjy (P:Program) (ok:Nat->Bool):Nat->List Field->Bool
 | _,[]=>true
 | i,f::l=>f.offset == i && P.cellsOf f.type == 1 && qsu P f.type && ok f.type && qjy P ok (i+1) l
def qwZ (P:Program):Nat->Nat->Bool
 | 0,_=>false
 | n+1,t=>match P.underlying t with
  | some (.int _) | some .bool | some .string=>P.cellsOf t == 1
  | some (.slice e)=>P.cellsOf t == 1 && qwZ P n e
  | some (.struct fs)=>P.cellsOf t == fs.size && decide (0 < fs.size) && qjy P (qwZ P n) 0 fs.toList
  | _=>false
theorem qhi {P:Program} {ok:Nat->Bool}:∀ {l:List Field} {i0:Nat},qjy P ok i0 l=true->∀ i f,l[i]?=some f->f.offset=i0+i/\P.cellsOf f.type=1/\qsu P f.type=true/\ok f.type=true
 | [],i0,h,i,f,hf=>by simp at hf
 | g::l,i0,h,i,f,hf=>by
  simp only[qjy,qay,qlm] at h
  obtain ⟨⟨⟨⟨h1,h2⟩,h3⟩,h4⟩,h5⟩:=h
  cases i with
  | zero=>
   simp at hf;subst hf
   exact ⟨h1,h2,h3,h4⟩
  | succ i=>
   simp at hf
   obtain ⟨a,b⟩:=qhi h5 i f hf
   exact ⟨by omega,b⟩
theorem qEE {s:Nat} (hs:0 < s):∀ {es:List AV},(∀ e∈es,e.cells.length=s)->(qen es).length=es.length * s/\∀ j,j < es.length * s->(qen es).getD j .any=(es.getD (j / s) .any).cells.getD (j % s) .any
 | [],h=>⟨by simp[qen],fun j hj=>by simp at hj⟩
 | e::es,h=>by
  have h0:=h e qaC
  obtain ⟨h1,h2⟩:=qEE hs (fun x hx=>h x (qax _ hx))
  have e1:qen (e::es)=e.cells++qen es:=rfl
  have e2:(e::es).length * s=es.length * s+s:=by rw[qad,qbd,qek]
  refine ⟨by rw[e1,qab,h0,h1,e2];omega,fun j hj=>?_⟩
  rw[e1,qaa]
  by_cases hj2:j < s
  ·rw[qbZ (by omega),qkM hj2,qbo hj2]
   show _=e.cells.getD j .any
   rw[qaa]
  ·rw[qcG (by omega),h0,<- qaa,h2 (j - s) (by omega)]
   have e3:j / s=(j - s) / s+1:=by
    have:=Nat.div_eq_sub_div hs (by omega:s<=j)
    omega
   have e4:j % s=(j - s) % s:=Nat.mod_eq_sub_mod (by omega)
   rw[e3,e4,qg2]
theorem qiv {P:Program}:∀ (n t:Nat) (v:AV),qwZ P n t=true->qhb P n t v->qeJ (shE P t) v=true/\pl v=true/\v.cells.length=P.cellsOf t/\0 < P.cellsOf t/\(shE P t).size=P.cellsOf t/\(qsu P t=true->qcE v=true)
 | 0,t,v,ht,_=>by simp[qwZ] at ht
 | n+1,t,v,ht,h=>by
  unfold qhb at h
  unfold qwZ at ht
  unfold shE qsu
  cases hu:P.underlying t with
  | none=>rw[hu] at h;exact h.elim
  | some ty=>
   rw[hu] at h ht
   cases ty with
   | int k=>
    obtain ⟨i,rfl,_⟩:=h
    have hc:P.cellsOf t=1:=by simpa using ht
    exact ⟨rfl,rfl,hc.symm,by omega,hc.symm,fun _=>rfl⟩
   | bool=>
    obtain ⟨i,rfl⟩:=h
    have hc:P.cellsOf t=1:=by simpa using ht
    exact ⟨rfl,rfl,hc.symm,by omega,hc.symm,fun _=>rfl⟩
   | string=>
    obtain ⟨i,rfl,_⟩:=h
    have hc:P.cellsOf t=1:=by simpa using ht
    exact ⟨rfl,rfl,hc.symm,by omega,hc.symm,fun _=>rfl⟩
   | slice e=>
    obtain ⟨z,es,rfl,_⟩:=h
    have hc:P.cellsOf t=1:=by
     simp only[qay,qlm] at ht
     exact ht.1
    exact ⟨rfl,rfl,hc.symm,by omega,hc.symm,fun _=>rfl⟩
   | struct fs=>
    obtain ⟨cs,rfl,hl,hf⟩:=h
    simp only[qay,qlm,qcI] at ht
    obtain ⟨⟨h1,h2⟩,h3⟩:=ht
    have hall:∀ c∈cs,qcE c=true/\pl c=true:=by
     intro c hc
     obtain ⟨i,hi,rfl⟩:=List.mem_iff_getElem.1 hc
     have hfi:fs[i]?=some (fs[i]'(by omega)):=qfW (by omega)
     obtain ⟨_,b,c2,d⟩:=qhi h3 i _ (by rw[Array.getElem?_toList];exact hfi)
     have r:=hf i _ hfi
     rw[qaa,qam hi] at r
     have:=qiv n _ _ d r
     exact ⟨this.2.2.2.2.2 c2,this.2.1⟩
    have hpl:∀ l:List AV,(∀ c∈l,pl c=true)->plL l=true:=by
     intro l
     induction l with
     | nil=>intro _;rfl
     | cons a l ih=>
      intro h
      show (pl a && plL l)=true
      rw[h a qaC,ih (fun c hc=>h c (qax _ hc))];rfl
    refine ⟨?_,hpl cs (fun c hc=>(hall c hc).2),by show cs.length=_;omega,by omega,h1.symm,fun h=>by cases h⟩
    show (cs.length == fs.size && cs.all qcE)=true
    rw[qay]
    exact ⟨by simp[hl],qaV.2 fun c hc=>(hall c hc).1⟩
   | _=>exact h.elim
section
variable {P:Program} {H:Type} {enc:TypeId×Value->H} {W:World}
theorem qzF {w:World} {a:Addr} {n:Nat} {cs:List Value} (h:w.cells? 0 a n=some cs):cs.length=n/\∀ j,j < n->w.cell? (a.add j)=cs[j]?:=by
 unfold World.cells? at h
 rw[qal (qdq _)] at h
 refine ⟨by simpa using mapM_some_length h,fun j hj=>mapM_some_get h j j (by simp[hj])⟩
theorem qFh {a:Addr} (h:a.spot=none) (j:Nat):a.add j=⟨a.block,a.off+j,none⟩:=by
 obtain ⟨b,o,s⟩:=a
 subst h
 exact qdu b o j
theorem reads:∀ (n t:Nat),qwZ P n t=true->∀ {fuel:Nat} {cs:List Value} {x:DataW H×List MemPlace},DataW.trod enc P W 0 (fun _=>true) true fuel t cs=some x->∃ v:AV,qhb P n t v/\cs.length=P.cellsOf t/\∀ j,j < P.cellsOf t->V W gN (v.cells.getD j .any) (cs.getD j undef)
 | 0,t,ht,_,_,_,_=>by simp[qwZ] at ht
 | n+1,t,ht,fuel,cs,x,h=>by
  have ht0:=ht
  unfold qwZ at ht
  unfold qhb
  cases hu:P.underlying t with
  | none=>rw[hu] at ht;cases ht
  | some ty=>
   rw[hu] at ht
   cases ty with
   | int k=>
    have hc:P.cellsOf t=1:=by simpa using ht
    obtain ⟨i,rfl,_,hw⟩:=DataW.trod_int hu h
    refine ⟨.int k i,⟨i,rfl,hw⟩,hc.symm,fun j hj=>?_⟩
    obtain rfl:j=0:=by omega
    exact .int _ _
   | bool=>
    have hc:P.cellsOf t=1:=by simpa using ht
    obtain ⟨i,rfl,_⟩:=DataW.trod_bool hu h
    refine ⟨.bool i,⟨i,rfl⟩,hc.symm,fun j hj=>?_⟩
    obtain rfl:j=0:=by omega
    exact .bool _
   | string=>
    have hc:P.cellsOf t=1:=by simpa using ht
    obtain ⟨i,rfl,_,hw⟩:=DataW.trod_string hu h
    refine ⟨.str i,⟨i,rfl,hw⟩,hc.symm,fun j hj=>?_⟩
    obtain rfl:j=0:=by omega
    exact .str _
   | slice e=>
    simp only[qay,qlm] at ht
    obtain ⟨hc,hte⟩:=ht
    rcases DataW.trod_slice hu h with ⟨rfl,_⟩ | ⟨a,len,cap,elems,rest,m,_,rfl,_,_,hl,hm,he,hel,hre,_⟩
    ·refine ⟨.lst (shE P e) true .no [],⟨true,[],rfl,fun _=>rfl,fun x hx=>by cases hx⟩,hc.symm,fun j hj=>?_⟩
     obtain rfl:j=0:=by omega
     exact .nils _ .no (.inr rfl)
    ·obtain ⟨hrl,hre⟩:=hre rfl
     have raw:∀ i,i < cap->∃ y,(W.cells? 0 (a.add (i * P.cellsOf e)) (P.cellsOf e)).bind (DataW.trod enc P W 0 (fun _=>true) true m e)=some y:=by
      intro i hi
      by_cases hi2:i < len
      ·have h1:=hel i hi2
       rw[qam (by omega)] at h1
       exact ⟨_,h1⟩
      ·have h1:=hre (i - len) (by omega)
       rw[qam (by omega),show len+(i - len)=i by omega] at h1
       exact ⟨_,h1⟩
     have at1:∀ i,i < cap->(i=0\/a.spot=none)->a.spot=none/\∃ v:AV,qhb P n e v/\∀ j,j < P.cellsOf e->∃ u,W.cell? ⟨a.block,a.off+(i * P.cellsOf e+j),none⟩=some u/\V W gN (v.cells.getD j .any) u:=by
      intro i hi hs0
      obtain ⟨y,hy⟩:=raw i hi
      obtain ⟨cs,h1,h2⟩:=qac.1 hy
      obtain ⟨v,hv,hlen,hV⟩:=reads n e hte h2
      have hpos:=(qiv n e v hte hv).2.2.2.1
      have h3:=(qzF h1).2
      have hs:a.spot=none:=by
       rcases hs0 with rfl | hs0
       ·rw[qHj] at h3
        have h4:=h3 0 hpos
        rw[qam (by omega)] at h4
        exact World.cell?_spot h4
       ·exact hs0
      refine ⟨hs,v,hv,fun j hj=>?_⟩
      have h4:=h3 j hj
      rw[qFh hs,qdu,qcD,qam (by omega)] at h4
      refine ⟨_,h4,?_⟩
      have:=hV j hj
      rwa [qaa (l:=cs),qam (by omega)] at this
     have hsp:cap=0\/a.spot=none:=by
      by_cases h0:cap=0
      ·exact .inl h0
      ·exact .inr (at1 0 (by omega) (.inl rfl)).1
     have cell:∀ i,∃ v:AV,i < cap->qhb P n e v/\∀ j,j < P.cellsOf e->∃ u,W.cell? ⟨a.block,a.off+(i * P.cellsOf e+j),none⟩=some u/\V W gN (v.cells.getD j .any) u:=by
      intro i
      by_cases hi:i < cap
      ·obtain ⟨v,hv⟩:=(at1 i hi (.inr (hsp.resolve_left (by omega)))).2
       exact ⟨v,fun _=>hv⟩
      ·exact ⟨.any,fun h=>absurd h hi⟩
     obtain ⟨f,hf⟩:=Classical.axiomOfChoice cell
     have hlen:((List.range len).map f).length=len:=by simp
     have hmem:∀ v∈(List.range len).map f,qhb P n e v:=by
      intro v hv
      obtain ⟨i,hi,rfl⟩:=qbF.1 hv
      exact (hf i (by have:=qfX.1 hi;omega)).1
     have hok:=fun v hv=>qiv n e v hte (hmem v hv)
     by_cases hl0:len=0
     ·subst hl0
      refine ⟨.lst (shE P e) false .no [],⟨false,[],rfl,(fun h=>by cases h),fun x hx=>by cases hx⟩,hc.symm,fun j hj=>?_⟩
      obtain rfl:j=0:=by omega
      exact V.lst (w:=W) (g:=gN) (shE P e) .no [] a cap (fun _=>undef) hsp (qdq _) hm (fun e he=>by cases he) (fun j hj=>by simp[qen] at hj) (fun j hj=>by simp[qen] at hj) trivial
     ·have hs0:0 < P.cellsOf e:=(hok (f 0) (qbF.2 ⟨0,qfX.2 (by omega),rfl⟩)).2.2.2.1
      obtain ⟨fl1,fl2⟩:=qEE hs0 (fun v hv=>(hok v hv).2.2.1)
      rw[hlen] at fl1 fl2
      have hcl:∀ j,j < len * P.cellsOf e->∃ u,W.cell? ⟨a.block,a.off+j,none⟩=some u/\V W gN ((qen ((List.range len).map f)).getD j .any) u:=by
       intro j hj
       have hd:j / P.cellsOf e < len:=Nat.div_lt_of_lt_mul (by rw[qaI];exact hj)
       have h1:=(hf (j / P.cellsOf e) (by omega)).2 (j % P.cellsOf e) (qcO _ hs0)
       have e1:j / P.cellsOf e * P.cellsOf e+j % P.cellsOf e=j:=Nat.div_add_mod' j _
       rw[e1] at h1
       rw[fl2 j hj,qaa (l:=(List.range len).map f),qiL,List.getElem?_range hd]
       exact h1
      have hus:∀ j,∃ u,j < len * P.cellsOf e->W.cell? ⟨a.block,a.off+j,none⟩=some u/\V W gN ((qen ((List.range len).map f)).getD j .any) u:=by
       intro j
       by_cases hj:j < len * P.cellsOf e
       ·obtain ⟨u,hu⟩:=hcl j hj
        exact ⟨u,fun _=>hu⟩
       ·exact ⟨undef,fun h=>absurd h hj⟩
      obtain ⟨us,hus⟩:=Classical.axiomOfChoice hus
      refine ⟨.lst (shE P e) false .no ((List.range len).map f),⟨false,_,rfl,(fun h=>by cases h),hmem⟩,hc.symm,fun j hj=>?_⟩
      obtain rfl:j=0:=by omega
      have hV:=V.lst (w:=W) (g:=gN) (shE P e) .no ((List.range len).map f) a cap us hsp (by rw[hlen];exact hl) hm
       (fun v hv=>⟨(hok v hv).1,(hok v hv).2.1⟩)
       (fun j hj=>by
        rw[fl1] at hj
        exact ⟨(hus j hj).1,fun h=>h,fun h=>h⟩)
       (fun j hj=>by
        rw[fl1] at hj
        exact (hus j hj).2) trivial
      rw[hlen] at hV
      exact hV
   | struct fs=>
    simp only[qay,qlm,qcI] at ht
    obtain ⟨⟨h1,h2⟩,h3⟩:=ht
    obtain ⟨xs,m,_,_,hcl,hxl,hf⟩:=DataW.trod_struct hu h
    have fld:∀ i,∃ v:AV,i < fs.size->∀ f,fs[i]?=some f->qhb P n f.type v/\V W gN v (cs.getD i undef):=by
     intro i
     by_cases hi:i < fs.size
     ·have hfi:fs[i]?=some fs[i]:=qfW hi
      obtain ⟨o,c,a,k⟩:=qhi h3 i fs[i] (by rw[Array.getElem?_toList];exact hfi)
      have hx:=hf i fs[i] hfi
      rw[qam (by omega)] at hx
      obtain ⟨v,hv,hlen,hV⟩:=reads n _ k hx
      refine ⟨v,fun _ f hf=>?_⟩
      rw[hfi] at hf
      obtain rfl:=qdJ hf
      refine ⟨hv,?_⟩
      have h0:=hV 0 (by omega)
      have hat:=(qiv n _ v k hv).2.2.2.2.2 a
      have hcells:v.cells=[v]:=by
       cases v<;>first | rfl | (simp[qcE] at hat)
      rw[hcells,o,qar,c] at h0
      have e0:((cs.drop i).take 1).getD 0 undef=cs.getD i undef:=by
       rw[qaa,qaa,List.getElem?_take_of_lt (by omega),qda];rfl
      rw[e0] at h0
      exact h0
     ·exact ⟨.any,fun h=>absurd h hi⟩
    obtain ⟨F,hF⟩:=Classical.axiomOfChoice fld
    have hg:∀ i,i < fs.size->((List.range fs.size).map F).getD i .any=F i:=by
     intro i hi
     rw[qaa,qiL,List.getElem?_range hi];rfl
    refine ⟨.agg ((List.range fs.size).map F),⟨_,rfl,by simp,fun i f hf=>?_⟩,hcl,fun j hj=>?_⟩
    ·have hi:i < fs.size:=(qao.1 hf).1
     rw[hg i hi]
     exact (hF i hi f hf).1
    ·rw[h1] at hj
     show V W gN (((List.range fs.size).map F).getD j .any) _
     rw[hg j hj]
     exact (hF j hj fs[j] (qfW hj)).2
   | _=>cases ht
theorem qsP {n t e:Nat} (ht:qwZ P n t=true) {v:Value} {d:DataW H} {ps:List MemPlace} (hu:P.underlying t=some (.slice e)) (hv:∃ a len cap,v=.slice a len cap) (h:DataW.Trod enc P W 0 (fun _=>true) true t v d ps):∃ y:AV,V W gN y v/\qhb P n t y:=by
 obtain ⟨a,len,cap,rfl⟩:=hv
 obtain ⟨fuel,h⟩:=h
 have h:DataW.trod enc P W 0 (fun _=>true) true fuel t [.slice a len cap]=some (d,ps):=h
 obtain ⟨y,hy,hl,hV⟩:=reads n t ht h
 obtain ⟨_,_,h3,_,_,h6⟩:=qiv n t y ht hy
 have hat:qsu P t=true:=by unfold qsu;rw[hu]
 have hc:y.cells=[y]:=by
  have:=h6 hat
  cases y<;>first | rfl | (simp[qcE] at this)
 have:=hV 0 (by rw[<- hl];exact Nat.zero_lt_one)
 rw[hc] at this
 exact ⟨y,this,hy⟩
end
end Go.Ab

/- What the rows of the diagram seat share: the settings are sound; the table of powers; arguments read as data. -/
set_option maxRecDepth 100000
namespace Go.Ab
open Go.Proofs Go.Proofs.Tryz Go.RowKit
theorem qmg (nm:Nat):Mem.get ([]:Mem) nm=none:=by simp[Mem.get]
theorem qG1 {w:World} (h:Yd.tab w):MemR w.heap.size w gN [] where
 obj nm bx cs h:=by rw[qmg] at h;cases h
 tok nm n sz h:=by rw[qmg] at h;cases h
 resv nm h:=⟨rfl,fun _=>rfl⟩
 fresh nm h:=⟨rfl,fun _=>rfl⟩
 inj nm nm' b h:=by unfold blk at h;rw[qmg] at h;cases h
 wrLt b off h:=h.elim
 inv w' k:=Yd.tab_below (Yd.tab_lt h) h k
 boxLt b h:=h.elim
 mp nm kk es h:=by rw[qmg] at h;cases h
theorem qGU:CfgOk cfg where
 ben g h caps:=by
  have h:qkG qCU g=true:=h
  unfold qCU at h
  simp only[qkG] at h
  split at h
  ·rename_i e;obtain rfl:140=g:=qbL e;exact qGS caps
  ·split at h
   ·rename_i e;obtain rfl:177=g:=qbL e;exact qGT caps
   ·cases h
 name g fn h:=by
  have hall:(Tryz.prog.funcs.toList.all fun fn=>!(fn.name == "runtime.NumGoroutine"))=true:=by kernel_rfl
  have hm:fn∈Tryz.prog.funcs.toList:=by
   rw[Array.mem_toList_iff]
   exact Array.mem_of_getElem? h
  have:=qaV.1 hall fn hm
  simpa using this
 lib g h hh:=by
  have hh:(match Nat.beq g 141 with | true=>some qpw | false=>none)=some h:=hh
  split at hh
  ·rename_i e
   obtain rfl:g=141:=qbL e
   obtain rfl:=qdJ hh
   exact ⟨⟨f141,qGt,by kernel_rfl⟩,fun vs v hv m=>qDq vs v hv m⟩
  ·cases hh
 libm g h hh:=by
  have hh:(match Nat.beq g 148 with | true=>some qpO | false=>match Nat.beq g 149 with | true=>some qgE | false=>none)=some h:=hh
  split at hh
  ·rename_i e
   obtain rfl:g=148:=qbL e
   obtain rfl:=qdJ hh
   exact ⟨⟨f148,qGv,by kernel_rfl⟩,fun vs m v m' hv=>qDI (fun blk cap zs w hH hb hs=>Tryz.slices_Sort_int blk 0 cap zs w hH hb hs) (fun p cap w=>Tryz.slices_Sort_int_none p cap w) vs m v m' hv⟩
  ·split at hh
   ·rename_i e
    obtain rfl:g=149:=qbL e
    obtain rfl:=qdJ hh
    exact ⟨⟨f149,(show Tryz.prog.funcs[149]?=some f149 by kernel_rfl),by kernel_rfl⟩,fun vs m v m' hv=>qsx (fun blk cap zs w hH hs hc=>Tryz.slices_Compact_int blk 0 cap zs w hH hs hc) (fun p cap w=>Tryz.slices_Compact_int_empty p cap w) qhY vs m v m' hv⟩
   ·cases hh
theorem qvV {f:Nat} {args:List AV} {vs:Array Value} {W:World} (ht:Yd.tab W) (h:∃ m',AC cfg f args []=some (.bool true,m')) (hl:args.length=vs.size) (hv:∀ j,j < args.length->V W gN (args.getD j .any) (vs.getD j undef)) :
  Calls Tryz.prog f vs W fun e W'=>e=.returned (.bool true)/\Below W.heap.size W W':=by
 obtain ⟨m',hm'⟩:=h
 refine ((qw0 qGU f args [] _ _ hm').1 W.heap.size W gN vs (qG1 ht) (qak _) hl hv).mono ?_
 rintro e W' ⟨v',g',rfl,hs,_,hv'⟩
 cases hv'
 exact ⟨rfl,hs.below⟩
abbrev qEV:List (String×DataW Unit):=YtiipgpkgcdhbfaaGreatDoor.Rows.diagramNewsRow.laid
theorem qpS {W:World} (h:laidMetH Tryz.prog qEV W):Yd.tab W:=by
 rw[MakeChecks.laidMetH_plain _ _ _ (by kernel_rfl)] at h
 obtain ⟨ps,⟨g1,t1,cs1,fuel1,p1,q1,_,_,_,_,⟨g2,t2,cs2,fuel2,p2,q2,_,_,_,_,⟨g,t,cs,fuel,p,q,hg,ht,hv,hd,_,_⟩,_⟩,_⟩,_⟩:=h
 obtain rfl:=qdJ (Yd.globalPow.symm.trans hg)
 obtain rfl:=qdJ ((show (Tryz.prog.globals[0]?).map (·.type)=some 246 by kernel_rfl).symm.trans ht)
 unfold Yd.tab Lib.TabIs
 rw[hv]
 have:=Lib.cells_of_tab (zs:=Lib.pow10Tab) (k:=.u64) Tryz.underlying246 Tryz.underlying117 (by kernel_rfl) (by kernel_rfl) hd
 rw[<- this]
theorem u3:Tryz.prog.underlying 3=some (.int .i64):=by kernel_rfl
theorem u4:Tryz.prog.underlying 4=some .bool:=by kernel_rfl
theorem u22:Tryz.prog.underlying 22=some (.slice 3):=by kernel_rfl
theorem s3:shE Tryz.prog 3=none:=by unfold shE;rw[u3]
theorem qzG {n t e:Nat} {v:AV} (ht:Tryz.prog.underlying t=some (.slice e)) (h:qhb Tryz.prog (n+1) t v):∃ z es,v=.lst (shE Tryz.prog e) z .no es/\(z=true->es=[])/\∀ x∈es,qhb Tryz.prog n e x:=by
 unfold qhb at h
 rw[ht] at h
 exact h
theorem qFi {n:Nat} {v:AV} (h:qhb Tryz.prog (n+1) 3 v):∃ i,v=.int .i64 i/\Yd.i64 i:=by
 unfold qhb at h
 rw[u3] at h
 obtain ⟨i,h1,hw⟩:=h
 refine ⟨i,h1,?_⟩
 simp only[Lit.wf,qay,qcI] at hw
 exact hw
theorem qn0 {α:Type} {f:α->AV} {Q:α->Prop}:∀ {es:List AV},(∀ x∈es,∃ a,x=f a/\Q a)->∃ l:List α,es=l.map f/\∀ a∈l,Q a
 | [],_=>⟨[],rfl,by simp⟩
 | x::es,h=>by
  obtain ⟨a,rfl,ha⟩:=h x qaC
  obtain ⟨l,rfl,hl⟩:=qn0 (f:=f) (Q:=Q) fun y hy=>h y (qax _ hy)
  exact ⟨a::l,rfl,fun b hb=>by
   rcases qa1.1 hb with rfl | hb
   ·exact ha
   ·exact hl b hb⟩
theorem qDB {n:Nat} {v:AV} (h:qhb Tryz.prog (n+2) 22 v):∃ z ns,v=IA z .no ns/\(z=true->ns=[])/\∀ k∈ns,Yd.i64 k:=by
 obtain ⟨z,es,rfl,hz,he⟩:=qzG u22 h
 obtain ⟨ns,rfl,hd⟩:=qn0 (f:=AV.int .i64) (Q:=Yd.i64) (fun x hx=>qFi (he x hx))
 exact ⟨z,ns,by rw[s3],fun h=>qg4.1 (hz h),hd⟩
theorem qJT:qwZ Tryz.prog 2 22=true:=by kernel_rfl
section
variable {H:Type} {enc:TypeId×Value->H} {W:World}
theorem qkh {v:Value} {d:DataW H} {ps:List MemPlace} (hv:∃ a len cap,v=.slice a len cap) (h:DataW.Trod enc Tryz.prog W 0 (fun _=>true) true 22 v d ps):∃ z ns,V W gN (IA z .no ns) v/\(z=true->ns=[])/\∀ k∈ns,Yd.i64 k:=by
 obtain ⟨y,hy,hr⟩:=qsP qJT u22 hv h
 obtain ⟨z,ns,rfl,hc⟩:=qDB hr
 exact ⟨z,ns,hy,hc⟩
end
end Go.Ab
