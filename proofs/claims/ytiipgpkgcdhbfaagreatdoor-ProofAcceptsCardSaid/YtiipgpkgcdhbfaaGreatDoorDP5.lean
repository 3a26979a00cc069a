/- Certificates in values: rows of whole numbers, nodes, odds; boxes of nodes and certificates; numbers, arms and odds. -/
import Derived.Test.YtiipgpkgcdhbfaaGreatDoorDP4
import Derived.Test.YtiipgpkgcdhbfaaGreatDoorDP2
import Derived.Test.YtiipgpkgcdhbfaaGreatDoorDP3
set_option maxRecDepth 100000
set_option linter.unusedVariables false
set_option linter.unusedSimpArgs false
set_option linter.unusedSectionVars false
namespace Go.Ab.Pq
open Go.Proofs.Tryz
structure IL where
 z:Bool
 o:Own
 ns:List Int
def iA (n:Int):AV:=.int .i64 n
def IL.av (l:IL):AV:=.lst none l.z l.o (l.ns.map iA)
def IL.fr (l:IL):IL:=⟨l.z,l.o.fr,l.ns⟩
structure ND where
 var:Int
 kids:IL
 leaf:Int
def ND.av (n:ND):AV:=.agg [.int .i64 n.var,n.kids.av,.int .i64 n.leaf]
structure OL where
 z:Bool
 o:Own
 es:List IL
def OL.av (l:OL):AV:=.lst none l.z l.o (l.es.map IL.av)
def OL.fr (l:OL):OL:=⟨l.z,l.o.fr,l.es⟩
structure NL where
 sh:Sh
 z:Bool
 o:Own
 es:List ND
def NL.av (l:NL):AV:=.lst l.sh l.z l.o (l.es.map ND.av)
def NL.fr (l:NL):NL:=⟨l.sh,l.z,l.o.fr,l.es⟩
structure CV where
 odds:OL
 nodes:NL
 ws:LV
 leaf:Int
def CV.av (c:CV):AV:=.agg [c.odds.av,c.nodes.av,c.ws.av,.int .i64 c.leaf]
def CV.fr (c:CV):CV:=⟨c.odds.fr,c.nodes.fr,c.ws.fr,c.leaf⟩
theorem fz_il (l:IL):Fz l.av l.fr.av:=fun m=>qw none l.z l.o (l.ns.map iA) m 8
theorem fz_ol (l:OL):Fz l.av l.fr.av:=fun m=>qw none l.z l.o (l.es.map IL.av) m 8
theorem qk6 (l:NL):Fz l.av l.fr.av:=fun m=>qw l.sh l.z l.o (l.es.map ND.av) m 8
theorem fza_il (l:IL):∀ m k,bG m (k+1) l.av=some (l.fr.av,[]):=qw none l.z l.o (l.ns.map iA)
theorem fza_ol (l:OL):∀ m k,bG m (k+1) l.av=some (l.fr.av,[]):=qw none l.z l.o (l.es.map IL.av)
theorem qld (l:NL):∀ m k,bG m (k+1) l.av=some (l.fr.av,[]):=qw l.sh l.z l.o (l.es.map ND.av)
theorem qlb (l:LV):∀ m k,bG m (k+1) l.av=some (l.fr.av,[]):=qw l.sh l.z l.o (l.es.map RV.av)
theorem qlc (n:ND):∀ m k,bG m (k+2) n.av=some (ND.av ⟨n.var,n.kids.fr,n.leaf⟩,[]):=by
 intro m k;have e:bG m (k+2) n.av=(eY (bG m (k+1)) [.int .i64 n.var,n.kids.av,.int .i64 n.leaf]).map fun r=>(.agg r.1,r.2):=rfl;rw[e];simp[eY,jT _ _ m k,fza_il n.kids m k,ND.av]
theorem qla (c:CV):∀ m k,bG m (k+2) c.av=some (c.fr.av,[]):=by
 intro m k;have e:bG m (k+2) c.av=(eY (bG m (k+1)) [c.odds.av,c.nodes.av,c.ws.av,.int .i64 c.leaf]).map fun r=>(.agg r.1,r.2):=rfl;rw[e];simp[eY,jT _ _ m k,fza_ol _ m k,qld _ m k,qlb _ m k,CV.av,CV.fr]
theorem qk5 (n:ND):Fz n.av (ND.av ⟨n.var,n.kids.fr,n.leaf⟩):=fun m=>qlc n m 7
theorem Ut (c:CV):Fz c.av c.fr.av:=fun m=>qla c m 7
theorem len_il (l:IL):aO false l.av=some (.int .i64 l.ns.length):=by simp[IL.av,aO]
theorem len_ol (l:OL):aO false l.av=some (.int .i64 l.es.length):=by simp[OL.av,aO]
theorem Ed (l:NL):aO false l.av=some (.int .i64 l.es.length):=by simp[NL.av,aO]
theorem index_il {l:IL} {k:Nat} {kk:IntKind} (hk:k < l.ns.length):aH none l.av (.int kk k)=some (.vptr [iA l.ns[k]]):=by
 simp[IL.av,aH,hk,iA,AV.cells]
theorem load_il (m:af) (n:Int):aj none m (.vptr [iA n])=some (.int .i64 n):=rfl
theorem index_ol {l:OL} {k:Nat} {kk:IntKind} (hk:k < l.es.length):aH none l.av (.int kk k)=some (.vptr [l.es[k].av]):=by
 simp[OL.av,aH,hk,IL.av,AV.cells]
theorem load_ol (m:af) (n:IL):aj none m (.vptr [n.av])=some n.av:=rfl
theorem NQ {l:NL} {k:Nat} {kk:IntKind} (hs:l.sh=some 3\/l.es=[]) (hk:k < l.es.length):aH (some 3) l.av (.int kk k)=some (.vptr (l.es[k].av).cells):=by
 have hs:l.sh=some 3:=hs.resolve_right (fun e=>by rw[e] at hk;simp at hk);simp[NL.av,aH,hs,hk]
theorem WM (m:af) (n:ND):aj (some 3) m (.vptr n.av.cells)=some n.av:=rfl
theorem Up (n:ND):aT 0 (.vptr n.av.cells)=some (.vptr n.av.cells):=rfl
theorem WN (m:af) (n:ND):aj none m (.vptr n.av.cells)=some (.int .i64 n.var):=rfl
def cN (n:ND):Option Ent:=some (.obj true [.int .i64 n.var,n.kids.av,.int .i64 n.leaf])
def y0:IL:=⟨true,.full,[]⟩
def zN:ND:=⟨0,y0,0⟩
theorem nM (m:af):az none m (.obj true [.int .i64 0,.lst none true .full [],.int .i64 0])=(m.length,m++[cN zN]):=rfl
theorem y4 {m:af} {k:Nat} {x:ND} (h:m[k]?=some (cN x)):aj none m (.ptr k 0)=some (.int .i64 x.var):=by simp[aj,pM h,ku]
theorem IH {m:af} {k:Nat} {x:ND} (h:m[k]?=some (cN x)):aj none m (.ptr k 1)=some x.kids.av:=by simp[aj,pM h,ku]
theorem Ox {m:af} {k:Nat} {x:ND} (h:m[k]?=some (cN x)):aj none m (.ptr k 2)=some (.int .i64 x.leaf):=by simp[aj,pM h,ku]
theorem qny {m:af} {k:Nat} {x:ND} (h:m[k]?=some (cN x)):aj (some 3) m (.ptr k 0)=some x.av:=by simp[aj,pM h,ku,ND.av]
theorem Xx {m:af} {x y:ND}:aL (some 3) (m++[cN x]) (.ptr m.length 0) y.av=some (m++[cN y]):=by
 simp only[aL,pM (My (m:=m) (e:=cN x)),aa];simp[ND.av,IL.av,Sh.size,c9,di,bP,AV.cells,cN]
theorem qjY (m:af) (x:ND):dI none (some 3) m x.av=some (.ptr m.length 0,m++[cN x]):=rfl
def cC (c:CV):Option Ent:=some (.obj true [c.odds.av,c.nodes.av,c.ws.av,.int .i64 c.leaf])
def zC:CV:=⟨⟨true,.full,[]⟩,⟨none,true,.full,[]⟩,Xp,0⟩
theorem Ts (m:af) (x:CV):dI none (some 4) m x.av=some (.ptr m.length 0,m++[cC x]):=rfl
theorem qnx (m:af):az none m (.obj true [.lst none true .full [],.lst none true .full [],.lst none true .full [],.int .i64 0])=(m.length,m++[cC zC]):=rfl
theorem Hs {m:af} {k:Nat} {x:CV} (h:m[k]?=some (cC x)):aj none m (.ptr k 0)=some x.odds.av:=by simp[aj,pM h,ku]
theorem Hu {m:af} {k:Nat} {x:CV} (h:m[k]?=some (cC x)):aj none m (.ptr k 1)=some x.nodes.av:=by simp[aj,pM h,ku]
theorem AA {m:af} {k:Nat} {x:CV} (h:m[k]?=some (cC x)):aj none m (.ptr k 2)=some x.ws.av:=by simp[aj,pM h,ku]
theorem LX {m:af} {k:Nat} {x:CV} (h:m[k]?=some (cC x)):aj none m (.ptr k 3)=some (.int .i64 x.leaf):=by simp[aj,pM h,ku]
theorem TO {m:af} {k:Nat} {x:CV} (h:m[k]?=some (cC x)):aj (some 4) m (.ptr k 0)=some x.av:=by simp[aj,pM h,ku,CV.av]
theorem qkv {m:af} {k:Nat} {x y:CV} (h:m[k]?=some (cC x)):aL (some 4) m (.ptr k 0) y.av=some (m.set k (cC y)):=by
 simp only[aL,pM h,aa]
 rfl
theorem Uo (n:Nat):aT 3 (.ptr n 0)=some (.ptr n 3):=rfl
theorem V94 (n:Int):AP ae 94 [.int .i64 n]=some (.bool (decide (0<=n/\n<=2147483647))):=by
 refine cO _ _ (qv _) rfl (m:=[]) ?_;rw[R7,jZ,aa,aA]
 by_cases h:n≥0
 ·rw[an h,si,aa];congr 3;exact jS.2 (by omega)
 ·rw[ai h];congr 3;exact (dd (by omega)).symm
def qF (o:Int):Bool:=decide (0<=o/\o<=1000)
def rowB (l:IL) (a:Int):Bool:=l.ns.all qF && (decide ((l.ns.length:Int)=a) && decide (l.ns.sum≠0))
def oddsB (arms:IL) (L:OL):Bool:=decide (L.es.length=arms.ns.length) && (L.es.zip arms.ns).all fun p=>rowB p.1 p.2
theorem oddB_iff {o:Int}:qF o=true↔0<=o/\o<=1000:=by unfold qF;exact wj
theorem Hi (l:IL) (hl:l.ns.length<=64) (x0 x5 x6 bL be cw:AV) (m:af) (K:KT):∀ (j i:Nat) (s:Int),i+j=l.ns.length->0<=s->s<=1000 * i ->
  Gw x0 x5 x6 (.int .i64 s) bL be cw l.av (.int .i64 l.ns.length) (.int .i64 i) m K=if (l.ns.drop i).all qF then K (.exit 2) (Lb x0 x5 x6 (.int .i64 (s+(l.ns.drop i).sum)) bL be cw m) else K .ret (G2 (.bool false) m)
 | 0,i,s,h,h0,h1=>by
  rw[Q7,cX,aa,aA,ai (by omega),jo (by omega),List.sum_nil,Int.add_zero];rfl
 | j+1,i,s,h,h0,h1=>by
  have hi:i < l.ns.length:=by omega
  rw[Q7,cX,aa,aA,an hi,index_il hi,aa,load_il,aa,bh,aa,aA,kT hi,n0,mW]
  by_cases c1:l.ns[i] < 0
  ·rw[an c1,show qF l.ns[i]=false from dd (by omega)];rfl
  ·rw[ai c1,ir,aa,aA]
   by_cases c2:l.ns[i] > 1000
   ·rw[an c2,show qF l.ns[i]=false from dd (by omega)];rfl
   ·have ih:=Hi l hl x0 x5 x6 bL be cw m K j (i+1) (s+l.ns[i]) (by omega) (by omega) (by omega);rw[ai c2,kX,iQ (by omega) (by omega),aa,cB (by omega),aa,ih,show qF l.ns[i]=true from dD (by omega),iL,Int.add_assoc]
theorem SN (arms:IL) (L:OL) (hlen:L.es.length=arms.ns.length) (h64:∀ l∈L.es,l.ns.length<=64) (oS:L.es.length<=40) (m:af) (K:KT):∀ j i:Nat,i+j=L.es.length ->
  Gv arms.av L.av (.int .i64 L.es.length) (.int .i64 i) m K=if ((L.es.zip arms.ns).drop i).all (fun p=>rowB p.1 p.2) then K (.exit 0) (La m) else K .ret (CQ (.bool false) m)
 | 0,i,h=>by
  rw[Q6,cX,aa,aA,ai (by omega),jo (by rw[CC];omega)];rfl
 | j+1,i,h=>by
  have hi:i < L.es.length:=by omega
  have hz:i < (L.es.zip arms.ns).length:=by rw[CC];omega
  have ih:=SN arms L hlen h64 oS m K j (i+1) (by omega);have hx:=Hi L.es[i] (h64 _ (bS hi)) arms.av (.int .i64 i) L.es[i].av L.av (.int .i64 L.es.length) (.int .i64 i) m (FH K) L.es[i].ns.length 0 0 (by omega) (by omega) (by omega);rw[iR,Int.zero_add,show (((0:Nat):Int))=(0:Int) from rfl] at hx;rw[Q6,cX,aa,aA,an hi,index_ol hi,aa,load_ol,aa,len_il,aa,hx,kT hz,n0,List.getElem_zip];dsimp only;unfold rowB
  by_cases c1:L.es[i].ns.all qF=true
  ·rw[an c1,qew,len_il,aa,index_il (by omega),aa,load_il,aa,jg,aa,aA,c1,iL]
   by_cases c2:(L.es[i].ns.length:Int)=arms.ns[i]
   ·rw[ai (by omega),iS,aa,aA,dD c2,iL]
    by_cases c3:L.es[i].ns.sum=0
    ·rw[an c3,dd (by omega)];rfl
    ·rw[ai c3,dD c3,iL,cB (by omega),aa,ih];rfl
   ·rw[an c2,dd c2];rfl
  ·rw[ai c1,qev,xu.2 c1];rfl
theorem V63 (arms:IL) (L:OL) (h64:∀ l∈L.es,l.ns.length<=64) (oS:L.es.length<=40):AP ae 63 [arms.av,L.av]=some (.bool (oddsB arms L)):=by
 refine cO _ _ (qv _) rfl (m:=[]) ?_;unfold oddsB;rw[T63,len_ol,aa,len_il,aa,jg,aa,aA]
 by_cases h:L.es.length=arms.ns.length
 ·rw[ai (by omega),aa,show ((0:Int))=((0:Nat):Int) from rfl,SN arms L h h64 oS [] _ L.es.length 0 (by omega),iR,dD h,iL]
  by_cases h2:(L.es.zip arms.ns).all (fun p=>rowB p.1 p.2)=true
  ·rw[an h2,h2,qeq]
  ·rw[ai h2,xu.2 h2,qep]
 ·rw[an (by omega),dd h];rfl
theorem SZ (l:IL) (hl:l.ns.length<=64) (x0 x5 x6 bL be cw:AV) (m:af) (K:KT):∀ (j i:Nat) (s:Int),i+j=l.ns.length->0<=s->s<=1000 * i ->
  Gn x0 x5 x6 (.int .i64 s) bL be cw l.av (.int .i64 l.ns.length) (.int .i64 i) m K=if (l.ns.drop i).all qF then K (.exit 2) (KZ x0 x5 x6 (.int .i64 (s+(l.ns.drop i).sum)) bL be cw m) else K .ret (G0 (.bool false) m)
 | 0,i,s,h,h0,h1=>by
  rw[QP,cX,aa,aA,ai (by omega),jo (by omega),List.sum_nil,Int.add_zero];rfl
 | j+1,i,s,h,h0,h1=>by
  have hi:i < l.ns.length:=by omega
  rw[QP,cX,aa,aA,an hi,index_il hi,aa,load_il,aa,bh,aa,aA,kT hi,n0,mW]
  by_cases c1:l.ns[i] < 0
  ·rw[an c1,show qF l.ns[i]=false from dd (by omega)];rfl
  ·rw[ai c1,ir,aa,aA]
   by_cases c2:l.ns[i] > 1000
   ·rw[an c2,show qF l.ns[i]=false from dd (by omega)];rfl
   ·have ih:=SZ l hl x0 x5 x6 bL be cw m K j (i+1) (s+l.ns[i]) (by omega) (by omega) (by omega);rw[ai c2,kX,iQ (by omega) (by omega),aa,cB (by omega),aa,ih,show qF l.ns[i]=true from dD (by omega),iL,Int.add_assoc]
theorem SG (arms:IL) (L:OL) (hlen:L.es.length=arms.ns.length) (h64:∀ l∈L.es,l.ns.length<=64) (oS:L.es.length<=40) (m:af) (K:KT):∀ j i:Nat,i+j=L.es.length ->
  Gm arms.av L.av (.int .i64 L.es.length) (.int .i64 i) m K=if ((L.es.zip arms.ns).drop i).all (fun p=>rowB p.1 p.2) then K (.exit 0) (KY m) else K .ret (CP (.bool false) m)
 | 0,i,h=>by
  rw[QO,cX,aa,aA,ai (by omega),jo (by rw[CC];omega)];rfl
 | j+1,i,h=>by
  have hi:i < L.es.length:=by omega
  have hz:i < (L.es.zip arms.ns).length:=by rw[CC];omega
  have ih:=SG arms L hlen h64 oS m K j (i+1) (by omega);have hx:=SZ L.es[i] (h64 _ (bS hi)) arms.av (.int .i64 i) L.es[i].av L.av (.int .i64 L.es.length) (.int .i64 i) m (Fv K) L.es[i].ns.length 0 0 (by omega) (by omega) (by omega);rw[iR,Int.zero_add,show (((0:Nat):Int))=(0:Int) from rfl] at hx;rw[QO,cX,aa,aA,an hi,index_ol hi,aa,load_ol,aa,len_il,aa,hx,kT hz,n0,List.getElem_zip];dsimp only;unfold rowB
  by_cases c1:L.es[i].ns.all qF=true
  ·rw[an c1,qds,len_il,aa,index_il (by omega),aa,load_il,aa,jg,aa,aA,c1,iL]
   by_cases c2:(L.es[i].ns.length:Int)=arms.ns[i]
   ·rw[ai (by omega),iS,aa,aA,dD c2,iL]
    by_cases c3:L.es[i].ns.sum=0
    ·rw[an c3,dd (by omega)];rfl
    ·rw[ai c3,dD c3,iL,cB (by omega),aa,ih];rfl
   ·rw[an c2,dd c2];rfl
  ·rw[ai c1,qdr,xu.2 c1];rfl
theorem V18 (arms:IL) (L:OL) (h64:∀ l∈L.es,l.ns.length<=64) (oS:L.es.length<=40):AP ae 18 [arms.av,L.av]=some (.bool (oddsB arms L)):=by
 refine cO _ _ (qv _) rfl (m:=[]) ?_;unfold oddsB;rw[T18,len_ol,aa,len_il,aa,jg,aa,aA]
 by_cases h:L.es.length=arms.ns.length
 ·rw[ai (by omega),aa,show ((0:Int))=((0:Nat):Int) from rfl,SG arms L h h64 oS [] _ L.es.length 0 (by omega),iR,dD h,iL]
  by_cases h2:(L.es.zip arms.ns).all (fun p=>rowB p.1 p.2)=true
  ·rw[an h2,h2,qdm]
  ·rw[ai h2,xu.2 h2,qdl]
 ·rw[an (by omega),dd h];rfl
end Go.Ab.Pq
namespace Go.Ab.Pq
open Go.Proofs.Tryz
def uJ (f:Nat->Bool):Nat->Nat->Bool
 | 0,_=>true
 | j+1,i=>f i && uJ f j (i+1)
theorem allF_iff {f:Nat->Bool}:∀ {j i:Nat},uJ f j i=true↔∀ k,i<=k->k < i+j->f k=true
 | 0,i=>by
  constructor
  ·intro _ k h1 h2;omega
  ·intro _;rfl
 | j+1,i=>by
  rw[uJ,b7,allF_iff (j:=j)]
  constructor
  ·rintro ⟨h1,h2⟩ k h3 h4
   by_cases h:k=i
   ·rw[h];exact h1
   ·exact h2 k (by omega) (by omega)
  ·intro h;exact ⟨h i (aQ _) (by omega),fun k h1 h2=>h k (by omega) (by omega)⟩
def varAt (ns:List ND) (k:Nat):Int:=(ns.map ND.var).getD k 0
def kidB (ns:List ND) (i:Nat) (v k:Int):Bool:=decide (0<=k/\k < i) && (decide (varAt ns k.toNat < 0) || decide (v < varAt ns k.toNat))
def nodeB (arms:IL) (ns:List ND) (i:Nat) (n:ND):Bool:=
 if n.var=-1 then decide (n.kids.ns.length=0/\0<=n.leaf/\n.leaf<=2147483647)
 else decide (0<=n.var/\n.var < arms.ns.length/\n.leaf=0/\(n.kids.ns.length:Int)=arms.ns.getD n.var.toNat 0) && n.kids.ns.all (kidB ns i n.var)
def nodesB (arms:IL) (ns:List ND):Bool:=decide (0 < ns.length) && uJ (fun i=>nodeB arms ns i (ns.getD i zN)) ns.length 0
theorem PB {ns:List ND} {k:Nat} (h:k < ns.length):varAt ns k=ns[k].var:=by
 unfold varAt;rw[aS,oO,bD h];rfl
theorem Mw {ns:List ND} {k:Nat} (h:k < ns.length):ns.getD k zN=ns[k]:=by
 rw[aS,bD h];rfl
theorem Xq {arms:IL} {ns:List ND} {i:Nat} {n:ND} (h:nodeB arms ns i n=true):n.var=-1\/0<=n.var:=by
 unfold nodeB at h
 by_cases c:n.var=-1
 ·exact .inl c
 ·rw[ai c,b7,wj] at h;exact .inr h.1.1
theorem qoc {m:af} {d:Option Nat} {g:Nat} (a:Int):aD (AP ae) d m g [.int .i64 a]=(AP ae g [.int .i64 a]).map fun v=>(v,m):=cJ (gh _ a)
theorem SY (L:NL) (hs:L.sh=some 3\/L.es=[]) (i:Nat) (hi:i<=L.es.length) (hp:∀ k,k < i->varAt L.es k=-1\/0<=varAt L.es k) (n:ND) (b:Nat) (m:af) (hb:m[b]?=some (cN n)) (hk:n.kids.ns.length<=64) (x0 x9 aF aZ:AV) (K:KT):∀ j c:Nat,c+j=n.kids.ns.length ->
  xD x0 L.av (.int .i64 i) (.ptr b 0) x9 aF aZ n.kids.av (.int .i64 n.kids.ns.length) (.int .i64 c) m K=if (n.kids.ns.drop c).all (kidB L.es i n.var) then K (.exit 2) (GJ x0 L.av x9 aF aZ m) else K .ret (CO (.bool false) m)
 | 0,c,h=>by
  rw[FM,cX,aa,aA,ai (by omega),jo (by omega)];rfl
 | j+1,c,h=>by
  have hc:c < n.kids.ns.length:=by omega
  have ih:=SY L hs i hi hp n b m hb hk x0 x9 aF aZ K j (c+1) (by omega);rw[FM,cX,aa,aA,an hc,index_il hc,aa,load_il,aa,bh,aa,aA,kT hc,n0];generalize n.kids.ns[c]=k;unfold kidB
  by_cases c1:k < 0
  ·rw[an c1,dd (by omega:¬ (0<=k/\k < i))];rfl
  ·rw[ai c1,jZ,aa,aA]
   by_cases c2:k≥i
   ·rw[an c2,dd (by omega:¬ (0<=k/\k < i))];rfl
   ·obtain ⟨q,rfl⟩:=nA (by omega:0<=k);have hq:q < L.es.length:=by omega
    have gg:=hp q (by omega);rw[PB hq] at gg;rw[ai c2,NQ hs hq,aa,Up,aa,WN,aa,jZ,aa,aA,dD (by omega:(0:Int)<=(q:Int)/\(q:Int) < i),iL,cK,PB hq]
    by_cases c3:L.es[q].var≥0
    ·rw[an c3,aa,Up,aa,WN,aa,de,aa,y4 hb,aa,si,aa,aA,dd (by omega:¬ L.es[q].var < 0),zG]
     by_cases c4:L.es[q].var<=n.var
     ·rw[an c4,dd (by omega)];rfl
     ·rw[ai c4,cB (by omega),aa,ih,dD (by omega),iL];rfl
    ·rw[ai c3,cB (by omega),aa,ih,dD (by omega:L.es[q].var < 0),Bool.true_or,iL];rfl
theorem SB (arms:IL) (ha:∀ a∈arms.ns,a<=64) (L:NL) (hs:L.sh=some 3\/L.es=[]) (hL:L.es.length<=4000) (K:KT):∀ (j i:Nat) (m:af),i+j=L.es.length->(∀ k,k < i->varAt L.es k=-1\/0<=varAt L.es k) ->
  ∃ m',ur arms.av L.av L.av (.int .i64 L.es.length) (.int .i64 i) m K=if uJ (fun i=>nodeB arms L.es i (L.es.getD i zN)) j i then K (.exit 0) (GK L.av m') else K .ret (tp (.bool false) m')
 | 0,i,m,h,hp=>⟨m,by rw[FN,cX,aa,aA,ai (by omega)];rfl⟩
 | j+1,i,m,h,hp=>by
  have hi:i < L.es.length:=by omega
  have nx:nodeB arms L.es i L.es[i]=true->∃ m',ur arms.av L.av L.av (.int .i64 L.es.length) (.int .i64 ((i+1:Nat):Int)) (m++[cN L.es[i]]) K=if uJ (fun i=>nodeB arms L.es i (L.es.getD i zN)) j (i+1) then K (.exit 0) (GK L.av m') else K .ret (tp (.bool false) m'):=by
   intro hn;refine SB arms ha L hs hL K j (i+1) _ (by omega) (fun k hk=>?_)
   by_cases c:k=i
   ·rw[c,PB hi];exact Xq hn
   ·exact hp k (by omega)
  rw[uJ,Mw hi,FN,cX,aa,aA,an hi,NQ hs hi,aa,WM,aa];simp only[nM,cY];rw[Xx,aa];have hb:(m++[cN L.es[i]])[m.length]?=some (cN L.es[i]):=My;have hX:=fun (hk:L.es[i].kids.ns.length<=64) (K:KT)=>SY L hs i (by omega) hp L.es[i] m.length _ hb hk arms.av L.av (.int .i64 L.es.length) (.int .i64 i) K L.es[i].kids.ns.length 0 (by omega);rw[iR] at hX;generalize hne:L.es[i]=n at *;simp only[de,df,dc];rw[aa,y4 hb,aa,iS,aa,aA]
  by_cases c1:n.var=-1
  ·rw[an c1,aa,IH hb,aa,len_il,aa,ir,aa,aA];have e1:nodeB arms L.es i n=decide (n.kids.ns.length=0/\0<=n.leaf/\n.leaf<=2147483647):=by unfold nodeB;rw[an c1]
   by_cases c2:n.kids.ns.length=0
   ·rw[ai (by omega),aa,Ox hb,aa];rw[qoc,V94,aR,aa,dE,aa]
    by_cases c3:0<=n.leaf/\n.leaf<=2147483647
    ·obtain ⟨m',hm⟩:=nx (e1.trans (dD ⟨c2,c3⟩));refine ⟨m',?_⟩;rw[dD c3,kS,oG,cB (by omega),aa,hm,e1,dD ⟨c2,c3⟩,iL]
    ·refine ⟨m++[cN n],?_⟩;rw[dd c3,nX,oH,e1,dd (fun h=>c3 h.2)];rfl
   ·refine ⟨m++[cN n],?_⟩;rw[an (by omega),e1,dd (by omega)];rfl
  ·have e1:nodeB arms L.es i n=(decide (0<=n.var/\n.var < arms.ns.length/\n.leaf=0/\(n.kids.ns.length:Int)=arms.ns.getD n.var.toNat 0) && n.kids.ns.all (kidB L.es i n.var)):=by unfold nodeB;rw[ai c1]
   rw[ai c1,aa,y4 hb,aa,bh,aa,aA]
   by_cases c2:n.var < 0
   ·refine ⟨m++[cN n],?_⟩;rw[an c2,e1,dd (by omega)];rfl
   ·rw[ai c2,aa,y4 hb,aa,len_il,aa,jZ,aa,aA]
    by_cases c3:n.var≥(arms.ns.length:Nat)
    ·refine ⟨m++[cN n],?_⟩;rw[an c3,e1,dd (by omega)];rfl
    ·rw[ai c3,aa,Ox hb,aa,jg,aa,aA]
     by_cases c4:n.leaf=0
     ·obtain ⟨v,hv⟩:=nA (by omega:0<=n.var);have fS:v < arms.ns.length:=by omega
      have jz:arms.ns.getD n.var.toNat 0=arms.ns[v]:=by
       rw[hv,cK,aS,bD fS];rfl
      rw[ai (by omega),aa,IH hb,aa,len_il,aa,aa,y4 hb,aa,hv,index_il fS,aa,load_il,aa,jg,aa,aA];rw[jz] at e1
      by_cases c5:(n.kids.ns.length:Int)=arms.ns[v]
      ·have:=ha _ (bS fS);rw[ai (by omega),aa,IH hb,aa,len_il,aa,show ((0:Int))=((0:Nat):Int) from rfl,hX (by omega),e1,dD (by omega),iL];rw[dD (by omega:0<=n.var/\n.var < arms.ns.length/\n.leaf=0/\(n.kids.ns.length:Int)=arms.ns[v]),iL] at e1
       by_cases c6:n.kids.ns.all (kidB L.es i n.var)=true
       ·obtain ⟨m',hm⟩:=nx (e1.trans c6);refine ⟨m',?_⟩;rw[an c6,PV,cB (by omega),aa,hm,c6,iL]
       ·refine ⟨m++[cN n],?_⟩;rw[ai c6,Fg,xu.2 c6];rfl
      ·refine ⟨m++[cN n],?_⟩;rw[an (by omega),e1,dd (by omega)];rfl
     ·refine ⟨m++[cN n],?_⟩;rw[an (by omega),e1,dd (by omega)];rfl
theorem qgt (arms:IL) (ha:∀ a∈arms.ns,a<=64) (L:NL) (hs:L.sh=some 3\/L.es=[]) (hL:L.es.length<=4000):AP ae 107 [arms.av,L.av]=some (.bool (nodesB arms L.es)):=by
 obtain ⟨m',h⟩:=SB arms ha L hs hL (ti (aE ae.P f107.results.toList)) L.es.length 0 [] (by omega) (fun k hk=>by omega);refine cO _ _ (qv _) rfl (m:=m') ?_;unfold nodesB;rw[RM,Ed,aa,show ((0:Int))=((0:Nat):Int) from rfl,h]
 by_cases h2:uJ (fun i=>nodeB arms L.es i (L.es.getD i zN)) L.es.length 0=true
 ·rw[an h2,h2,PW,Ed,aa,ir,aa,Bool.and_true];congr 3;exact jS.2 (by omega)
 ·rw[ai h2,xu.2 h2,tj,Bool.and_false]
end Go.Ab.Pq
namespace Go.Ab.Pq
open Go.Proofs.Tryz
theorem V7 {R:Type} (b:Bool) (x y:Option R):aw (.bool (!b)) x y=aw (.bool b) y x:=by cases b<;>rfl
theorem qgG {r:RV} {k:Nat} (h:ROk k r):AP ae 151 [r.av]=some (.bool (!nt r)):=by
 refine cO _ _ (qv _) rfl (m:=[cR r]) ?_;rw[qf4,dj,aa];simp only[aP,bV];rw[dK,aa,dL,qgH h.fr,aR,aa,dE,aa];rfl
theorem qka {fid g:Nat} {vs:List AV} {m:af} {d:Option Nat} {K:AV->af->OM} (hi:ae.inl fid g=false) (h1:((ae.lib g).isNone && (ae.libm g).isNone)=true:=by rfl):j0 ae fid (AP ae) (AC ae) d g vs m K=(aD (AP ae) d m g vs).bind fun r=>K r.1 r.2:=by
 have h5:ae.lib g=none/\ae.libm g=none:=by
  rw[b7] at h1;exact ⟨Option.isNone_iff_eq_none.1 h1.1,Option.isNone_iff_eq_none.1 h1.2⟩
 unfold j0;rw[h5.2,h5.1,hi]
theorem SH {l:LV} {k:Nat} (hl:LOk k l) (hlen:l.es.length < 2 ^ 40) (m:af) (K:KT):∀ j i:Nat,i+j=l.es.length ->
  ∃ r:Nat,zU l.av (.fn 151 []) (.int .i64 l.es.length) (.int .i64 i) m K=if (l.es.drop i).all nt then K (.exit 0) (CL m) else K .ret (Ao (.int .i64 r) m)
 | 0,i,h=>⟨0,by rw[QJ,cX,aa,aA,ai (by omega),jo (by omega)];rfl⟩
 | j+1,i,h=>by
  have hi:i < l.es.length:=by omega
  have hr:=hl.ok _ (bS hi);obtain ⟨r,ih⟩:=SH hl hlen m K j (i+1) (by omega)
  have pre:∀ r',(zU l.av (.fn 151 []) (.int .i64 l.es.length) (.int .i64 i) m K=if (l.es.drop i).all nt then K (.exit 0) (CL m) else K .ret (Ao (.int .i64 r') m))↔(aw (.bool (!nt l.es[i])) (K .ret (Ao (.int .i64 i) m)) (zU l.av (.fn 151 []) (.int .i64 l.es.length) (.int .i64 ((i+1:Nat):Int)) m K)=if nt l.es[i] && (l.es.drop (i+1)).all nt then K (.exit 0) (CL m) else K .ret (Ao (.int .i64 r') m)):=by
   intro r';rw[QJ,cX,aa,aA,an hi,Il hl hi,aa,Iv,aa,show lH (.fn 151 [])=some (151,[]) from rfl,aa,qka rfl,show ([l.es[i].av]++([]:List AV))=[l.es[i].av] from rfl,dL,qgG hr.fr,aR,aa,cB (by omega),aa,kT hi,n0];exact Iff.rfl
  cases hb:nt l.es[i] with
  | false=>
   refine ⟨i,(pre i).2 ?_⟩;rw[hb];rfl
  | true=>
   refine ⟨r,(pre r).2 ?_⟩;rw[hb,kS,oG,ih,iL]
theorem qgF {l:LV} {k:Nat} (hl:LOk k l) (hlen:l.es.length < 2 ^ 40):AP ae 150 [l.av,.fn 151 []]=some (.bool (!l.es.all nt)):=by
 have h65:∃ n:Int,AP ae 180 [l.fr.av,.fn 151 []]=some (.int .i64 n)/\decide (n≥0) = !l.es.all nt:=by
  obtain ⟨r,h⟩:=SH hl.fr' hlen [] (Fu (aE ae.P f180.results.toList)) l.fr.es.length 0 (by omega);rw[iR] at h
  by_cases c:l.fr.es.all nt=true
  ·refine ⟨-1,cO _ _ (gh _ _) rfl (m:=[]) ?_,?_⟩
   ·rw[RY,Is,aa,show ((0:Int))=((0:Nat):Int) from rfl,h,an c,qcQ]
   ·have c:l.es.all nt=true:=c;rw[c];rfl
  ·refine ⟨r,cO _ _ (gh _ _) rfl (m:=[]) ?_,?_⟩
   ·rw[RY,Is,aa,show ((0:Int))=((0:Nat):Int) from rfl,h,ai c,qcP]
   ·have c:¬ l.es.all nt=true:=c;rw[xu.2 c,dD (by omega)];rfl
 obtain ⟨n,h1,h2⟩:=h65;refine cO _ _ (qv _) rfl (m:=[]) ?_;rw[qf3,fG (Mt l) (fun _=>rfl),h1,aR,aa,jZ,aa,h2]
def rT (m:af) (e:Nat) (es:List AV):AV:=if es=[] then .lst none true .full [] else .lst none false (.tok m.length e) es
def mT (m:af) (es:List AV):af:=if es=[] then m else nU m es.length
theorem qhK {m:af} {e b:Nat} {es:List AV} {z:Bool} {o:Own} {y:AV} (h:(es.length+1) * b<=gG):b8 none false e none b (mT m es) (rT m e es) (.lst none z o [y])=some (rT m e (es++[y]),mT m (es++[y])):=by
 cases es with
 | nil=>
  simp[b8,rT,mT,nU,az,Sh.size,h];simpa using h
 | cons a es=>
  have:=C8 (e:=e) (b:=b) (m:=m) (es:=a::es) (z:=z) (o:=o) (y:=y) h;simp only[rT,mT,ai (List.cons_ne_nil a es)];rw[this];simp
theorem qk8 (m:af) (e:Nat) (es:List AV):Fz (rT m e es) (if es=[] then .lst none true .full [] else .lst none false .no es):=by
 intro m';unfold rT;split<;>rfl
def lens (L:OL):List Int:=L.es.map fun l=>(l.ns.length:Int)
def armsI (ns:List Int):IL:=if ns=[] then ⟨true,.full,[]⟩ else ⟨false,.no,ns⟩
theorem armsI_ns (ns:List Int):(armsI ns).ns=ns:=by
 unfold armsI
 split
 ·rename_i h;rw[h]
 ·rfl
theorem Uu (m:af) (e:Nat) (ns:List Int):Fz (rT m e (ns.map iA)) (armsI ns).av:=by
 have:=qk8 m e (ns.map iA);unfold armsI
 cases ns with
 | nil=>exact this
 | cons a l=>exact this
theorem Bl (L:OL):(lens L).length=L.es.length:=by simp[lens]
theorem lens_get {L:OL} {i:Nat} (h:i < L.es.length):(lens L)[i]'(by rw[Bl];exact h)=(L.es[i].ns.length:Int):=by simp[lens]
theorem qm3 {L:OL} {i:Nat} (h:i < L.es.length):((lens L).take (i+1)).map iA=((lens L).take i).map iA++[.int .i64 (L.es[i].ns.length:Int)]:=by
 rw[n7 (by rw[Bl];exact h),kU,lens_get h];rfl
theorem qpy (L:OL) {i:Nat} (h:i<=L.es.length):(((lens L).take i).map iA).length=i:=by
 rw[bX,jP,Bl];omega
def Bj (l:IL):Bool:=decide (1<=l.ns.length/\l.ns.length<=64)
theorem SE (x1:AV) (m:af) (L:OL) (oS:L.es.length<=40) (K:KT):∀ j i:Nat,i+j=L.es.length ->
  ∃ m',FP x1 (rT m 3 (((lens L).take i).map iA)) L.av (.int .i64 L.es.length) (.int .i64 i) (mT m (((lens L).take i).map iA)) K=if (L.es.drop i).all Bj then K (.exit 0) (Kx x1 (rT m 3 ((lens L).map iA)) (mT m ((lens L).map iA))) else K .ret (GX (.bool false) m')
 | 0,i,h=>⟨m,by
  rw[Qc,cX,aa,aA,ai (by omega),jQ (by rw[Bl];omega),jo (by omega)];rfl⟩
 | j+1,i,h=>by
  have hi:i < L.es.length:=by omega
  obtain ⟨m',ih⟩:=SE x1 m L oS K j (i+1) (by omega);rw[qm3 hi] at ih;rw[Qc,cX,aa,aA,an hi,index_ol hi,aa,load_ol,aa,len_il,aa,bh,aa,aA,kT hi,n0];unfold Bj
  by_cases c1:(L.es[i].ns.length:Int) < 1
  ·refine ⟨mT m (((lens L).take i).map iA),?_⟩;rw[an c1,dd (by omega)];rfl
  ·rw[ai c1,aa,ir,aa,aA]
   by_cases c2:(L.es[i].ns.length:Int) > 64
   ·refine ⟨mT m (((lens L).take i).map iA),?_⟩;rw[an c2,dd (by omega)];rfl
   ·refine ⟨m',?_⟩;rw[ai c2,aa,rh,aa,qhK (by rw[qpy L (by omega)];simp only[gG];omega),aa,cB (by omega),aa,dD (by omega),iL];exact ih
end Go.Ab.Pq
namespace Go.Ab.Pq
open Go.Proofs.Tryz
structure COk (k:Nat) (c:CV):Prop where
 odds:c.odds.es.length<=40
 nsh:c.nodes.sh=some 3\/c.nodes.es=[]
 nlen:c.nodes.es.length<=4000
 ws:LOk k c.ws
 wlen:c.ws.es.length<=4000
theorem COk.fr {k:Nat} {c:CV} (h:COk k c):COk k c.fr:=⟨h.odds,h.nsh,h.nlen,h.ws.fr',h.wlen⟩
def shapedB (c:CV):Bool:=decide (c.odds.es.length<=16/\0<=c.leaf/\c.leaf<=2147483647/\c.ws.es.length=c.nodes.es.length) && (c.odds.es.all Bj && (oddsB (armsI (lens c.odds)) c.odds && (nodesB (armsI (lens c.odds)) c.nodes.es && c.ws.es.all nt)))
theorem qnc {m:af} {n:Nat} {e:Option Ent} (h:m[n]?=some e) (es:List AV):(mT m es)[n]?=some e:=by
 unfold mT
 split
 ·exact h
 ·unfold nU
  rw[nB]
  ·exact h
  ·exact (Ac.1 h).1
theorem N4 {L:OL} (h:L.es.all Bj=true):∀ l∈L.es,l.ns.length<=64:=fun l hl=>(sV (ga.1 h l hl)).2
theorem qhR {L:OL} (h:L.es.all Bj=true):∀ a∈(armsI (lens L)).ns,a<=64:=by
 rw[armsI_ns];intro a ha;obtain ⟨l,hl,rfl⟩:=jf.1 ha;have:=N4 h l hl;omega
theorem qgw {c:CV} {k:Nat} (hc:COk k c):AP ae 112 [c.av]=some (.bool (shapedB c)):=by
 have fin:∀ (v:Bool) (m:af),AC ae 112 [c.av] []=some (.bool v,m)->AP ae 112 [c.av]=some (.bool v):=fun v m h=>cO _ _ (qv _) rfl h;have start:AC ae 112 [c.av] []=AC ae 112 [c.av] []:=rfl;have g0:([cC c]:af)[0]?=some (cC c):=rfl
 conv at start=>rhs;rw[qfF,Ts,aa]
 simp only[aP,bV,de,df,dc,Uo] at start;rw[aa,Hs g0,aa,len_ol,aa,ir,aa,aA] at start;unfold shapedB
 by_cases c1:(c.odds.es.length:Int) > 16
 ·rw[an c1] at start;rw[dd (by omega),lY];exact fin _ _ start
 rw[ai c1,aa,LX g0,aa,bh,aa,aA] at start
 by_cases c2:c.leaf < 0
 ·rw[an c2] at start;rw[dd (by omega),lY];exact fin _ _ start
 rw[ai c2,aa,LX g0,aa,ir,aa,aA] at start
 by_cases c3:c.leaf > 2147483647
 ·rw[an c3] at start;rw[dd (by omega),lY];exact fin _ _ start
 have hn:=hc.nlen;rw[ai c3,aa,Hu g0,aa,Ed,aa,ir,aa,aA,ai (by omega)] at start;rw[aa,AA g0,aa,Is,aa,aa,Hu g0,aa,Ed,aa,jg,aa,aA] at start;by_cases c4:c.ws.es.length=c.nodes.es.length
 case neg=>
  rw[an (by omega)] at start;rw[dd (fun h=>c4 h.2.2.2),lY];exact fin _ _ start
 rw[dD (by omega),iL];rw[ai (by omega),aa,Hs g0,aa,len_ol,aa] at start;obtain ⟨m',hW⟩:=SE (.ptr 0 0) [cC c] c.odds (by omega) (Fi (aE ae.P f112.results.toList)) c.odds.es.length 0 (by omega);have e0:(.lst none true .full []:AV)=rT [cC c] 3 (((lens c.odds).take 0).map iA):=rfl;have e1:([cC c]:af)=mT [cC c] (((lens c.odds).take 0).map iA):=rfl;have start2:=start.trans hW;rw[iR] at start2;by_cases c5:c.odds.es.all Bj=true
 case neg=>
  rw[ai c5,qaE] at start2;rw[xu.2 c5,lY];exact fin _ _ start2
 rw[an c5,qaF] at start2;rw[c5,iL];have g1:=qnc g0 ((lens c.odds).map iA);have V1:=V63 (armsI (lens c.odds)) c.odds.fr (N4 c5) (by show c.odds.es.length<=40;omega);have V2:=qgt (armsI (lens c.odds)) (qhR c5) c.nodes.fr hc.nsh (by show c.nodes.es.length<=4000;omega);have V3:=qgF hc.ws.fr' (by have:=hc.wlen;show c.ws.es.length < _;omega);rw[de,aa,Hs g1,aa,fG (Uu _ _ _) (fz_ol _),V1,aR,aa] at start2;have o1:oddsB (armsI (lens c.odds)) c.odds.fr=oddsB (armsI (lens c.odds)) c.odds:=rfl;rw[o1] at start2
 cases c6:oddsB (armsI (lens c.odds)) c.odds with
 | false=>
  rw[c6,oG] at start2;exact fin _ _ start2
 | true=>
  rw[c6,oH,df,aa,Hu g1,aa,fG (Uu _ _ _) (qk6 _),V2,aR,aa] at start2;have o2:nodesB (armsI (lens c.odds)) c.nodes.fr.es=nodesB (armsI (lens c.odds)) c.nodes.es:=rfl;rw[o2] at start2
  cases c7:nodesB (armsI (lens c.odds)) c.nodes.es with
  | false=>
   rw[c7,oG] at start2;exact fin _ _ start2
  | true=>
   rw[c7,oH,dc,aa,AA g1,aa,fG (Mt _) (fun _=>rfl),V3,aR,aa,dE,aa,Bool.not_not] at start2;exact fin _ _ start2
end Go.Ab.Pq
namespace Go.Ab.Pq
open Go.Proofs.Tryz
def vy (n:Nat):NV:=⟨false,qG n,aC n⟩
theorem Oo (n:Nat):(vy n).fr=vy n:=by
 unfold vy NV.fr qG;split<;>rfl
theorem Sg {n:Nat} (h:n < 9223372036854775808):AP ae 168 [.int .i64 (n:Int)]=some (vy n).av:=by
 refine (cO _ _ (cF (vy n)) (pO _) (m:=[]) ?_).trans (by rw[Oo]);rw[qgf,IF,aa,oG,Ax (by omega),aa,dF,Lt (by omega)];rfl
theorem qgB {a b:Nat} (ha:a < 9223372036854775808) (hb:b < 9223372036854775808) (h0:b≠0):∃ r:RV,AP ae 128 [.int .i64 (a:Int),.int .i64 (b:Int)]=some (.tup [r.av,.int .i64 0])/\Can r (cT false a b)/\r.fr=r:=by
 have la:(aC a).length<=2:=mF (by omega);have lb:(aC b).length<=2:=mF (by omega);have va:(vy a).v=a:=gz a;have vb:(vy b).v=b:=gz b
 rcases Sf (x:=vy a) (y:=vy b) false (ub (by omega)) (ub (by omega)) with ⟨h,_⟩ | ⟨_,r,e,h2,h3⟩
 ·rw[vb] at h;exact absurd h h0
 ·rw[va,vb] at h2;refine ⟨r,(cO _ _ (AG r (jT .i64 0)) rfl (m:=[cR r]) ?_).trans (by rw[h3]),h2,h3⟩;rw[qfQ,IF,aa,IF,aa,dU,aa];simp only[Bs,cY,aP,bV];rw[dF,Sg ha,aR,aa,dF,Sg hb,aR,aa,dW,Oo,Oo,show (false != false)=false from rfl,e,aR,aa,dM,aa,dN,aa,dS,aa,dK,aa]
def RowOk (l:IL):Prop:=l.ns.length<=64/\(∀ o∈l.ns,0<=o/\o<=1000)/\l.ns.sum≠0
theorem Pk:∀ {l:List Int},(∀ o∈l,0<=o/\o<=1000)->0<=l.sum/\l.sum<=1000 * (l.length:Int)
 | [],_=>by simp
 | a::l,h=>by
  obtain ⟨h1,h2⟩:=h a fN;obtain ⟨h3,h4⟩:=Pk (fun o ho=>h o (fJ _ ho));rw[mW,aJ];omega
theorem RowOk.sum {l:IL} (h:RowOk l):∃ S:Nat,l.ns.sum=(S:Int)/\S≠0/\S<=64000:=by
 obtain ⟨h1,h2⟩:=Pk h.2.1;obtain ⟨S,hS⟩:=nA h1;have:=h.1;exact ⟨S,hS,fun e=>h.2.2 (by rw[hS,e];rfl),by omega⟩
theorem RowOk.get {l:IL} (h:RowOk l) {i:Nat} (hi:i < l.ns.length):∃ a:Nat,l.ns[i]=(a:Int)/\a<=1000:=by
 obtain ⟨h1,h2⟩:=h.2.1 _ (bS hi);obtain ⟨a,ha⟩:=nA h1;exact ⟨a,ha,by omega⟩
def partQ (l:IL) (i:Nat):Rat:=cT false (l.ns.getD i 0).toNat l.ns.sum.toNat
theorem XP {l:IL} {i a S:Nat} (hi:i < l.ns.length) (ha:l.ns[i]=(a:Int)) (hS:l.ns.sum=(S:Int)):partQ l i=cT false a S:=by
 unfold partQ;rw[aS,bD hi,hS];show cT false (l.ns[i]).toNat _=_;rw[ha];rfl
theorem partQ_bd {l:IL} (h:RowOk l) {i:Nat} (hi:i < l.ns.length):Bd 1 (partQ l i):=by
 obtain ⟨S,hS,_,hS2⟩:=h.sum;obtain ⟨a,ha,Dz⟩:=h.get hi;rw[XP hi ha hS];exact zF (mF (by omega)) (mF (by omega)) (by omega)
theorem take_sum {l:List Int} {i:Nat} (hi:i < l.length):(l.take (i+1)).sum=(l.take i).sum+l[i]:=by
 rw[n7 hi,List.sum_append];simp
theorem take_bd {l:IL} (h:RowOk l) (i:Nat):0<=(l.ns.take i).sum/\(l.ns.take i).sum<=64000:=by
 obtain ⟨h1,h2⟩:=Pk (l:=l.ns.take i) (fun o ho=>h.2.1 o (GD ho));have:=h.1;rw[jP] at h2;omega
theorem SR {l:IL} (h:RowOk l) (x1 x4:AV) (m:af) (K:KT):∀ j i:Nat,i+j=l.ns.length ->
  Gx l.av x1 x4 (.int .i64 (l.ns.take i).sum) l.av (.int .i64 l.ns.length) (.int .i64 i) m K=K (.exit 0) (Lc l.av x1 x4 (.int .i64 l.ns.sum) m)
 | 0,i,ry=>by
  rw[Q8,cX,aa,aA,ai (by omega),jQ (by omega)]
 | j+1,i,ry=>by
  have hi:i < l.ns.length:=by omega
  have:=h.1;obtain ⟨b1,b2⟩:=take_bd h i;obtain ⟨a,ha,Dz⟩:=h.get hi;have ih:=SR h x1 x4 m K j (i+1) (by omega);rw[take_sum hi] at ih;rw[Q8,cX,aa,aA,an hi,index_il hi,aa,load_il,aa,kX,iQ (by omega) (by omega),aa,cB (by omega),aa,ih]
theorem qob {m:af} {d:Option Nat} {g:Nat} (a b:Int):aD (AP ae) d m g [.int .i64 a,.int .i64 b]=(AP ae g [.int .i64 a,.int .i64 b]).map fun v=>(v,m):=fG (gh _ a) (gh _ b)
theorem V70 {l:IL} (h:RowOk l) {i:Nat} (hi:i < l.ns.length):∃ r:RV,AP ae 70 [l.av,.int .i64 (i:Int)]=some r.av/\Can r (partQ l i)/\r.fr=r:=by
 obtain ⟨S,hS,MH,hS2⟩:=h.sum;obtain ⟨a,ha,Dz⟩:=h.get hi;obtain ⟨r,e1,e2,e3⟩:=qgB (a:=a) (b:=S) (by omega) (by omega) MH;refine ⟨r,(cO _ _ (gU r) (kO _) (m:=[cR r,cR r]) ?_).trans (by rw[e3]),by rw[XP hi ha hS];exact e2,e3⟩;have hW:=SR h (.int .i64 (i:Int)) (.ptr 0 0) [cR zR] (Kj (aE ae.P f70.results.toList)) l.ns.length 0 (by omega);rw[T70,len_il,aa];refine (show _=_ from hW).trans ?_;rw[qez,index_il hi,aa,load_il,aa,ha,hS,qob,e1,aR,aa,dM,aa,dN,aa];simp only[Bs,cY,aP,bV,aJ,cn,bp];rw[dw,aa,dk,aa,dS,aa,dK,aa]
def sumR (F:Nat->Rat):Nat->Rat
 | 0=>0
 | j+1=>sumR F j+F j
def wQ (ws:LV) (k:Nat):Rat:=(ws.es.map RV.q).getD k 0
theorem wQ_get {ws:LV} {k:Nat} (h:k < ws.es.length):wQ ws k=ws.es[k].q:=by
 unfold wQ;rw[aS,oO,bD h];rfl
def termQ (l:IL) (ws:LV) (n:ND) (i:Nat):Rat:=partQ l i * wQ ws (n.kids.ns.getD i 0).toNat
def hasQ (odds:OL) (ws:LV) (leaf:Int) (n:ND):Rat:=
 if n.var < 0 then (if n.leaf=leaf then 1 else 0) else sumR (termQ (odds.es.getD n.var.toNat ⟨true,.full,[]⟩) ws n) n.kids.ns.length
structure NodeOk (l:IL) (ws:LV) (n:ND):Prop where
 row:RowOk l
 len:n.kids.ns.length=l.ns.length
 kids:∀ k∈n.kids.ns,0<=k/\k < ws.es.length
theorem NodeOk.kid {l:IL} {ws:LV} {n:ND} (h:NodeOk l ws n) {i:Nat} (hi:i < n.kids.ns.length):∃ k:Nat,n.kids.ns[i]=(k:Int)/\k < ws.es.length/\n.kids.ns.getD i 0=(k:Int):=by
 obtain ⟨h1,h2⟩:=h.kids _ (bS hi);obtain ⟨k,hk⟩:=nA h1;refine ⟨k,hk,by omega,?_⟩;rw[aS,bD hi];exact hk
theorem Zi {l:IL} {ws:LV} {n:ND} (h:NodeOk l ws n) (hw:LOk 30 ws) {i:Nat} (hi:i < n.kids.ns.length):Bd 31 (termQ l ws n i):=by
 obtain ⟨k,hk,kA,M8⟩:=h.kid hi;unfold termQ;rw[M8,cK,wQ_get kA];exact Z9 (partQ_bd h.row (by rw[<- h.len];exact hi)) ((hw.ok _ (bS kA)).bd (by omega)) (by omega)
theorem Zf {l:IL} {ws:LV} {n:ND} (h:NodeOk l ws n) (hw:LOk 30 ws):∀ {j:Nat},j<=n.kids.ns.length->Bd (32 * j+1) (sumR (termQ l ws n) j)
 | 0,_=>JJ (by omega)
 | j+1,hj=>(PR (Zf h hw (by omega)) (Zi h hw (by omega)) (by omega)).mono (by omega)
theorem Zg {l:IL} {ws:LV} {n:ND} (h:NodeOk l ws n) (hw:LOk 30 ws) {j:Nat} (hj:j<=n.kids.ns.length):Bd 4000 (sumR (termQ l ws n) j):=by
 have h1:=h.row.1;have h2:=h.len;exact (Zf h hw hj).mono (by omega)
theorem SC {odds:OL} {n:ND} {ws:LV} {v:Nat} (hw:LOk 30 ws) (hv:n.var=(v:Int)) (fS:v < odds.es.length) (h:NodeOk odds.es[v] ws n) (K:KT):∀ (j i:Nat) (s:RV),i+j=n.kids.ns.length->Can s (sumR (termQ odds.es[v] ws n) i)->s.fr=s ->
  ∃ t:RV,Can t (sumR (termQ odds.es[v] ws n) n.kids.ns.length)/\t.fr=t/\zM odds.av ws.av (.ptr 0 0) (.ptr 1 0) (.ptr 2 0) n.kids.av (.int .i64 n.kids.ns.length) (.int .i64 i) [cN n,cR zR,cR s] K=K (.exit 0) (GL (.ptr 1 0) (.ptr 2 0) [cN n,cR zR,cR t])
 | 0,i,s,ry,hs,hf=>by
  obtain rfl:i=n.kids.ns.length:=by omega
  exact ⟨s,hs,hf,by rw[FO,cX,aa,aA,ai (by omega)]⟩
 | j+1,i,s,ry,hs,hf=>by
  have hi:i < n.kids.ns.length:=by omega
  have hlen:=h.len;have h64:=h.row.1;obtain ⟨k,hk,kA,M8⟩:=h.kid hi;obtain ⟨p,p1,p2,p3⟩:=V70 (l:=odds.es[v].fr) h.row (i:=i) (show i < odds.es[v].ns.length by omega);have p2:Can p (partQ odds.es[v] i):=p2;have okp:=p2.ok ((partQ_bd h.row (by omega)).mono (by omega:1<=4000)) (by omega);have okw:=(hw.ok _ (bS kA)).mono (by omega:30<=4000);obtain ⟨q,q1,q2,q3⟩:=Lx okp okw (by omega) (by omega)
  have et:p.q * ws.es[k].q=termQ odds.es[v] ws n i:=by
   unfold termQ;rw[p2.q,M8,cK,wQ_get kA]
  rw[et] at q2;have oks:=hs.ok (Zg h hw (by omega)) (by omega);have okq:=q2.ok ((Zi h hw hi).mono (by omega:31<=4000)) (by omega);obtain ⟨t,t1,t2,t3⟩:=Hd oks okq (by omega) (by omega);have es:s.q+q.q=sumR (termQ odds.es[v] ws n) (i+1):=by rw[hs.q,q2.q];rfl
  rw[es] at t2;obtain ⟨u,u1,u2,u3⟩:=SC hw hv fS h K j (i+1) t (by omega) t2 t3;refine ⟨u,u1,u2,?_⟩;have wfr:=hw.fr _ (bS kA)
  have rowfr:∀ (d:Option Nat) (m:af),aD (AP ae) d m 70 [odds.es[v].av,.int .i64 (i:Int)]=some (p.av,m):=by
   intro d m;rw[fG (fz_il _) (gh _ _),p1];rfl
  rw[FO,cX,aa,aA,an hi,index_il hi,aa,load_il,aa,dV,aa,de,aa,y4 (x:=n) rfl,aa,hv,index_ol fS,aa,load_ol,aa,rowfr,aa,hk,Il hw kA,aa,Iv,aa,dr,p3,wfr,q1,aR,aa,dr,hf,q3,t1,aR,aa,dX,aa,cB (by omega),aa];exact u3
def CJ (odds:OL) (ws:LV) (n:ND):Prop:=n.var < 0\/∃ (v:Nat) (hv:v < odds.es.length),n.var=(v:Int)/\NodeOk odds.es[v] ws n
theorem hasQ_leaf {odds:OL} {ws:LV} {leaf:Int} {n:ND} (h:n.var < 0):hasQ odds ws leaf n=if n.leaf=leaf then 1 else 0:=by unfold hasQ;rw[an h]
theorem hasQ_node {odds:OL} {ws:LV} {leaf:Int} {n:ND} {v:Nat} (hv:v < odds.es.length) (h:n.var=(v:Int)):hasQ odds ws leaf n=sumR (termQ odds.es[v] ws n) n.kids.ns.length:=by
 unfold hasQ;rw[ai (by omega),h,cK,aS,bD hv];rfl
theorem qgv {odds:OL} {n:ND} {ws:LV} (leaf:Int) (hw:LOk 30 ws) (h:CJ odds ws n):∃ s:RV,AP ae 110 [odds.av,n.av,.int .i64 leaf,ws.av]=some s.av/\Can s (hasQ odds ws leaf n)/\s.fr=s:=by
 have fin:∀ (s:RV) (m:af),s.fr=s->AC ae 110 [odds.av,n.av,.int .i64 leaf,ws.av] []=some (s.av,m)->AP ae 110 [odds.av,n.av,.int .i64 leaf,ws.av]=some s.av:=fun s m hs h=>(cO _ _ (gU s) (kO _) h).trans (by rw[hs]);have start:AC ae 110 [odds.av,n.av,.int .i64 leaf,ws.av] []=AC ae 110 [odds.av,n.av,.int .i64 leaf,ws.av] []:=rfl;have gn:∀ M:af,(cN n::M)[0]?=some (cN n):=fun _=>rfl
 conv at start=>rhs;rw[RO,qjY,aa]
 simp only[Bs,cY,aP,bV,aJ,cn,bp] at start;rw[de,aa,y4 (gn _),aa,bh,aa,aA] at start
 rcases h with h | ⟨v,hv,hn,h⟩
 ·rw[an h,dc,aa,Ox (gn _),aa,iS,aa,aA] at start;rw[hasQ_leaf h]
  by_cases c:n.leaf=leaf
  ·rw[an c,dp,Lw,aR,aa,dw,aa,dk,aa] at start;refine ⟨jJ,fin _ _ XB start,?_,XB⟩;rw[an c];exact LP
  ·rw[ai c,dp,CW,aR,aa,dw,aa,dk,aa] at start;refine ⟨nW,fin _ _ zD start,?_,zD⟩;rw[ai c];exact wg
 ·obtain ⟨t,t1,t2,t3⟩:=SC hw hn hv h (B6 (aE ae.P f110.results.toList)) n.kids.ns.length 0 nW (by omega) wg zD;rw[show (((0:Nat):Int))=(0:Int) from rfl] at t3;rw[ai (by omega),dp,CW,aR,aa] at start;simp only[Bs,cY,aP,bV,aJ,cn,bp,Nat.reduceAdd] at start;rw[dX,aa,df,aa,IH (gn _),aa,len_il,aa,t3,PX,dV,aa,dw,aa,dk,aa] at start;exact ⟨t,fin _ _ t2 start,by rw[hasQ_node hv hn];exact t1,t2⟩
end Go.Ab.Pq
namespace Go.Ab
open Go.Proofs Go.Proofs.Tryz
structure WV (M:Nat) (r:RV) (N:Nat):Prop where
 ok:ROk 9 r
 q:r.q=cT false N M
 fr:r.fr=r
theorem IV {M a b:Nat} (hM:M≠0):cT false a M+cT false b M=cT false (a+b) M:=by
 rw[IU hM hM]
 have e:fP false (a * M)+fP false (b * M)=((a+b:Nat):Int) * (M:Int):=by
  simp only[fP,jX,me];rw[<- qR,<- Int.natCast_add,<- gO]
 rw[e,cT];have:=Rat.mkRat_mul_right (a:=M) (n:=((a+b:Nat):Int)) (d:=M) hM;rw[this];simp[fP]
theorem IW {n d a:Nat} (ha:a≠0):cT false (n * a) (d * a)=cT false n d:=by
 have:=Rat.mkRat_mul_right (a:=a) (n:=((n:Nat):Int)) (d:=d) ha;rw[cT,cT];simp only[fP,jX,me,qR];exact this
theorem bd9 {M N:Nat} (hM:M < 4294967296 ^ 8) (hN:N<=M):Bd 8 (cT false N M):=zF (mF (by omega)) (mF (by omega)) (by omega)
theorem Can.wv {M N:Nat} {r:RV} (hM:M < 4294967296 ^ 8) (hN:N<=M) (h:Can r (cT false N M)) (hf:r.fr=r):WV M r N:=⟨(h.ok (bd9 hM hN) (by omega)).mono (by omega),h.q,hf⟩
theorem WV.mul {M N a S:Nat} {r p:RV} (hM:M < 4294967296 ^ 8) (h:WV M r (N * S)) (hS:S≠0) (hp:Can p (cT false a S)) (sJ:ROk 9 p) (hb:N * a<=M):∃ x:RV,AP ae 69 [r.av,p.av]=some x.av/\WV M x (N * a):=by
 obtain ⟨x,e,hc,hf⟩:=Lx h.ok sJ (by omega) (by omega);refine ⟨x,e,Can.wv hM hb ?_ hf⟩;rw[h.q,hp.q,zf] at hc;have e1:N * S * a=N * a * S:=by rw[dZ,cM S a,<- dZ]
 rw[show (false != false)=false from rfl,e1,IW hS] at hc;exact hc
theorem WV.add {M N1 N2:Nat} {r1 r2:RV} (hM:M < 4294967296 ^ 8) (h0:M≠0) (h1:WV M r1 N1) (h2:WV M r2 N2) (hb:N1+N2<=M):∃ x:RV,AP ae 71 [r1.av,r2.av]=some x.av/\WV M x (N1+N2):=by
 obtain ⟨x,e,hc,hf⟩:=Hd h1.ok h2.ok (by omega) (by omega);rw[h1.q,h2.q,IV h0] at hc;exact ⟨x,e,Can.wv hM hb hc hf⟩
theorem ZH (M:Nat):WV M zR 0:=⟨⟨⟨by simp[zR,iv,Dg],by simp[zR,iv],fun _=>rfl⟩,⟨by simp[zR,iv,Dg],by simp[zR,iv],fun _=>rfl⟩,by simp[zR,iv],by simp[zR,iv]⟩,by rw[vD];exact ze _ _,rfl⟩
theorem OU {M:Nat} (h0:M≠0):cT false M M=1:=by
 have:=IW (n:=1) (d:=1) h0;rw[px] at this;rw[this];rfl
theorem ZG {M:Nat} (hM:M < 4294967296 ^ 8) (h0:M≠0):WV M jJ M:=Can.wv hM (aQ _) (by rw[OU h0];exact LP) rfl
def dm (E:List (Int×RV)):List (AV×AV):=E.map fun p=>(.int .i64 p.1,p.2.av)
def lk:List (Int×RV)->Int->Option RV
 | [],_=>none
 | p::E,k=>if p.1=k then some p.2 else lk E k
def pm (E:List (Int×RV)) (k:Int) (r:RV):List (Int×RV):=match lk E k with
 | some _=>E.map fun p=>if p.1=k then (p.1,r) else p
 | none=>E++[(k,r)]
theorem Wf (a k:Int):jj (.int .i64 a) (.int .i64 k)=decide (a=k):=by simp[jj,uK]
theorem Ma (k:Int):∀ E:List (Int×RV),(dm E).find? (fun p=>jj p.1 (.int .i64 k))=(lk E k).map fun r=>(.int .i64 k,r.av)
 | []=>rfl
 | p::E=>by
  rw[dm,gd,List.find?_cons,Wf,lk]
  by_cases h:p.1=k
  ·rw[dD h,an h,h];rfl
  ·rw[dd h,ai h];exact Ma k E
theorem Wi {k:Int} (h:-1000000000000<=k/\k<=1000000000000):jU (.int .i64) (.int .i64 k)=true:=by
 have h1:IntKind.min .i64<=k:=by show (-9223372036854775808:Int)<=k;omega
 have h2:k<=IntKind.max .i64:=by show k<=9223372036854775807;omega
 simp only[jU,nK,EU,dD h1,dD h2,decide_true,mV]
theorem N8 {m:af} {p:Nat} {E:List (Int×RV)} {k:Int} (hp:m.get p=some (.mp (.int .i64) (dm E))) (hk:-1000000000000<=k/\k<=1000000000000):o8 (.int .i64) zR.av m (.mref p) (.int .i64 k)=some (((lk E k).getD zR).av,(lk E k).isSome):=by
 have h1:mg m (.int .i64) (.mref p)=some (p,dm E):=by simp[mg,hp]
 unfold o8;rw[h1,aa,an (Wi hk),Bn,Ma];cases lk E k<;>rfl
theorem Pu {m:af} {p:Nat} {E:List (Int×RV)} {k:Int} (hp:m.get p=some (.mp (.int .i64) (dm E))) (hk:-1000000000000<=k/\k<=1000000000000) (hl:E.length<=1000000000) (r:RV):kQ (.int .i64) m (.mref p) (.int .i64 k) r.av=some (m.set p (some (.mp (.int .i64) (dm (pm E k r))))):=by
 have h1:mg m (.int .i64) (.mref p)=some (p,dm E):=by simp[mg,hp]
 unfold kQ;rw[h1,aa,an ⟨Wi hk,rfl,by rw[dm,bX];unfold maxLen;omega⟩];have hf:=Ma k E;congr 5;unfold nO pm
 cases hq:lk E k with
 | none=>
  rw[hq,Option.map_none,List.find?_eq_none] at hf;have:(dm E).any (fun p=>jj p.1 (.int .i64 k))=false:=by rw[List.any_eq_false];exact hf
  rw[this];simp[dm]
 | some r0=>
  rw[hq] at hf
  have:(dm E).any (fun p=>jj p.1 (.int .i64 k))=true:=by
   rw[List.any_eq_true];exact ⟨_,List.mem_of_find?_eq_some hf,List.find?_some (p:=fun p:AV×AV=>jj p.1 (.int .i64 k)) hf⟩
  rw[this];simp only[dm,rW];refine List.map_congr_left fun p hp=>?_;simp only[Function.comp];rw[Wf]
  by_cases h:p.1=k
  ·rw[dD h,an rfl,an h]
  ·rw[dd h,ai (by simp),ai h]
theorem X6 (E:List (Int×RV)) (k:Int) (r:RV):(pm E k r).length<=E.length+1:=by
 unfold pm;split<;>simp
theorem WH (k k':Int) (r:RV):∀ E:List (Int×RV),lk (E++[(k,r)]) k'=match lk E k' with | some x=>some x | none=>if k=k' then some r else none
 | []=>rfl
 | p::E=>by
  rw[cn,lk,lk]
  by_cases h:p.1=k'
  ·rw[an h,an h]
  ·rw[ai h,ai h,WH k k' r E]
theorem WI (k k':Int) (r:RV):∀ E:List (Int×RV),lk (E.map fun p=>if p.1=k then (p.1,r) else p) k'=if k=k' then (lk E k').map fun _=>r else lk E k'
 | []=>by simp[lk]
 | p::E=>by
  rw[gd,lk,WI k k' r E,lk]
  by_cases h:p.1=k
  ·subst h;rw[an rfl]
   by_cases h2:p.1=k'
   ·rw[an h2,an h2,an h2];rfl
   ·simp[h2]
  ·rw[ai h]
   by_cases h2:p.1=k'
   ·subst h2;have h3:¬ k=p.1:=fun e=>h e.symm;rw[an rfl,ai h3];simp
   ·simp[h2]
theorem WJ (E:List (Int×RV)) (k k':Int) (r:RV):lk (pm E k r) k'=if k=k' then some r else lk E k':=by
 unfold pm
 cases hq:lk E k with
 | none=>
  simp only[WH]
  by_cases h:k=k'
  ·subst h;rw[hq]
  ·rw[ai h,ai h];cases lk E k'<;>rfl
 | some x=>
  simp only[WI]
  by_cases h:k=k'
  ·subst h;rw[an rfl,an rfl,hq];rfl
  ·rw[ai h,ai h]
def vU (M:Nat) (E:List (Int×RV)) (T:Nat->Nat):Prop:=∀ j:Nat,WV M ((lk E j).getD zR) (T j)
theorem vU.put {M:Nat} {E:List (Int×RV)} {T:Nat->Nat} (h:vU M E T) {k N:Nat} {r:RV} (hr:WV M r N):vU M (pm E k r) (upd T k N):=fun j=>by
 rw[WJ];unfold upd
 by_cases hj:j=k
 ·subst hj;rw[an rfl,an rfl];exact hr
 ·rw[ai (by omega),ai hj];exact h j
theorem oJ {m:af} {k:Nat} {r:RV} (h:m.get k=some (.obj true [.bool r.neg,r.num.av,r.den.av])):aj (some 3) m (.ptr k 0)=some r.av:=by
 rw[dQ,h];rfl
theorem qM {m:af} {k:Nat} {c1 c2 c3:AV} {r:RV} (h:m.get k=some (.obj true [c1,c2,c3])):aL (some 3) m (.ptr k 0) r.av=some (m.set k (some (.obj true [.bool r.neg,r.num.av,r.den.av]))):=by
 rw[qL,h];rfl
section
variable {s:Nat} {F:List Nat} {zs:Bool} {os:Own} {most:Int} {l:List ND} {ar:List Int}
def ab (ar:List Int) (l:List ND) (i:Nat):Int:=fD ar.length (l.getD i ⟨0,[],0⟩)
theorem Z2 {m:af} (h:dC m s F (IA zs os ar) most l) {pb:Nat} (hb:m.get pb=some (.obj true [.ptr s 0])) {x y:Nat} (hx:x < l.length) (hy:y < l.length) (cH:ar.length<=16) (g:GoodL ar l):∃ m',AC ae 67 [ni x,ni y,.ptr pb 0] m=some (.int .i64 (ab ar l x - ab ar l y),m')/\Fr m m' []:=by
 obtain ⟨m1,e1,f1⟩:=JE h hx;have h1:dC m1 s F (IA zs os ar) most l:=h.fr f1 (fun _ _ h=>by cases h);obtain ⟨m2,e2,f2⟩:=JE h1 hy;have hb1:m1.get pb=some (.obj true [.ptr s 0]):=by rw[f1.get pb (bF hb) (by simp)];exact hb
 refine ⟨m2,?_,Fr.trans f1 f2 fun _ h=>by cases h⟩
 have bnd:∀ i (hi:i < l.length),-2<=fD ar.length l[i]/\fD ar.length l[i]<=16:=fun i hi=>by
  unfold fD
  split
  ·have:=(g.var i hi (by omega)).1;omega
  ·omega
 have b1:=bnd x hx;have b2:=bnd y hy;unfold ab;rw[js hx,js hy,T67,oZ hb,aa,aa,e1,aa];rw[vr (by rw[oZ hb1];rfl),e2,aa,pB,iQ (by omega) (by omega),aa]
theorem qkk {m0:af} {nm:Nat} (h:dC m0 s F (IA zs os ar) most l) (yE:nm∉F) {pb:Nat} (hb:m0.get pb=some (.obj true [.ptr s 0])) (hne:pb≠nm) (cH:ar.length<=16) (g:GoodL ar l):qk m0 nm l.length (.ptr pb 0) (ab ar l):=fun m f x y hx hy=>
 Z2 (h.fr f fun a ha hh=>yE (by simpa [List.mem_singleton.1 hh] using ha)) (by rw[f.get pb (bF hb) (by simpa using hne)];exact hb) hx hy cH g
end
end Go.Ab
namespace Go.Ab
open Go.Proofs Go.Proofs.Tryz
abbrev OL:=Pq.OL
abbrev IL:=Pq.IL
def bf (L:OL) (u j:Nat):Nat:=(((L.es.map Pq.IL.ns).getD u []).getD j 0).toNat
structure OddsOk (ar:List Int) (L:OL):Prop where
 len:L.es.length=ar.length
 row:∀ (u:Nat) (h:u < L.es.length),Pq.RowOk L.es[u]/\(L.es[u].ns.length:Int)=ar.getD u 0
theorem I9 {L:OL} {u:Nat} (h:u < L.es.length) (j:Nat):bf L u j=(L.es[u].ns.getD j 0).toNat:=by
 unfold bf;rw[aS (l:=L.es.map Pq.IL.ns),oO,bD h];rfl
theorem qpn:∀ (l:List Int),(∀ o∈l,0<=o)->ij l.length (fun j=>(l.getD j 0).toNat)=l.sum.toNat/\0<=l.sum:=by
 have key:∀ (l:List Int),(∀ o∈l,0<=o)->(((List.range l.length).map fun j=>(l.getD j 0).toNat).sum:Nat)=l.sum.toNat/\0<=l.sum:=by
  intro l
  induction l with
  | nil=>intro _;exact ⟨rfl,by simp⟩
  | cons a l ih=>
   intro h;obtain ⟨h1,h2⟩:=ih fun o ho=>h o (fJ _ ho);have ha:=h a fN;rw[aJ,List.range_succ_eq_map,gd,mW,rW,mW];refine ⟨?_,by omega⟩;have e:((fun j=>((a::l).getD j 0).toNat) ∘ Nat.succ)=fun j=>(l.getD j 0).toNat:=by funext j;rfl
   rw[e,h1];show a.toNat+_=_;omega
 exact key
theorem OddsOk.ss {ar:List Int} {L:OL} (h:OddsOk ar L) {u:Nat} (hu:u < L.es.length):SS ar (bf L) u=L.es[u].ns.sum.toNat/\0 < SS ar (bf L) u/\SS ar (bf L) u<=64000:=by
 obtain ⟨r,hl⟩:=h.row u hu
 have e:SS ar (bf L) u=L.es[u].ns.sum.toNat:=by
  rw[<- (qpn L.es[u].ns fun o ho=>(r.2.1 o ho).1).1];unfold SS;rw[show jr ar u=L.es[u].ns.length by unfold jr;omega];exact tb fun j _=>I9 hu j
 obtain ⟨S,hS,h0,hb⟩:=r.sum;rw[hS] at e;exact ⟨by rw[e,hS],by rw[e];omega,by rw[e];omega⟩
theorem Lm {ar:List Int} {s:Nat->Nat->Nat} (h:∀ v,v < ar.length->0 < SS ar s v/\SS ar s v<=64000):∀ d v,v+d<=ar.length->0 < PM ar s d v/\PM ar s d v<=64000 ^ d
 | 0,v,_=>⟨Nat.one_pos,aQ _⟩
 | d+1,v,hv=>by
  obtain ⟨h1,h2⟩:=h v (by omega);obtain ⟨h3,h4⟩:=Lm h d (v+1) (by omega);refine ⟨Nat.mul_pos h1 h3,?_⟩;rw[PM,jR,cM];exact qX h4 h2
theorem CN {ar:List Int} {s:Nat->Nat->Nat} (h:∀ v,v < ar.length->0 < SS ar s v/\SS ar s v<=64000) (cH:ar.length<=16):PM ar s ar.length 0≠0/\PM ar s ar.length 0 < 4294967296 ^ 8:=by
 obtain ⟨h1,h2⟩:=Lm h ar.length 0 (by omega);refine ⟨by omega,jq h2 ?_⟩;exact jq (py (by omega) cH) (by decide)
theorem OddsOk.all {ar:List Int} {L:OL} (h:OddsOk ar L):∀ v,v < ar.length->0 < SS ar (bf L) v/\SS ar (bf L) v<=64000:=fun v hv=>(h.ss (by rw[h.len];exact hv)).2
theorem XR {ar:List Int} {L:OL} (h:OddsOk ar L) {u:Nat} (hu:u < L.es.length) {j:Nat} (hj:j < L.es[u].ns.length):∃ p:RV,AP ae 70 [(L.es[u].fr).av,.int .i64 (j:Int)]=some p.av/\Can p (cT false (bf L u j) (SS ar (bf L) u))/\ROk 9 p/\p.fr=p:=by
 obtain ⟨r,hl⟩:=h.row u hu;have r':Pq.RowOk L.es[u].fr:=r;obtain ⟨p,e,hc,hf⟩:=Pq.V70 r' (i:=j) hj;have e1:Pq.partQ L.es[u].fr j=cT false (bf L u j) (SS ar (bf L) u):=by rw[(h.ss hu).1,I9 hu];rfl
 have hb:=Pq.partQ_bd r (i:=j) hj;have iy:Bd 1 (cT false (bf L u j) (SS ar (bf L) u)):=by rw[<- e1];exact hb
 rw[e1] at hc;exact ⟨p,e,hc,(hc.ok iy (by omega)).mono (by omega),hf⟩
abbrev bR (r:RV):Option Ent:=some (.obj true [.bool r.neg,r.num.av,r.den.av])
abbrev bZ:Option Ent:=some (.obj true [.bool false,au,au])
theorem qg (m:af) (e e':Option Ent) {k:Nat} (hk:k=m.length):List.set (m++[e]) k e'=m++[e']:=by
 subst hk;rw[rY _ _ (aQ _),pz];rfl
theorem Ja (m:af) (e f e':Option Ent) {k:Nat} (hk:k=m.length):List.set ((m++[e])++[f]) k e'=(m++[e'])++[f]:=by
 rw[List.set_append_left _ _ (by simp;omega),qg m e e' hk]
theorem OY (m:af):cU m 1=m++[some .resv]:=rfl
theorem Ys (m:af):cU m 2=(m++[some .resv])++[some .resv]:=by simp[cU,List.replicate]
section
variable {M:Nat} {pd:Nat}
theorem qhs {ar:List Int} {L:OL} (hO:OddsOk ar L) {l:List ND} {k u:Nat} (hk:k < l.length) (hu:l[k].var=u) (kd:u < L.es.length) (hM:M < 4294967296 ^ 8) (h0:M≠0) {t:Nat} {w:RV} (hw:WV M w (t * SS ar (bf L) u)) {T:Nat->Nat}
  (hb:∀ (A:List (Nat×Nat)) (p:Nat×Nat) (A':List (Nat×Nat)),jI ar (bf L) l[k]=A++p::A'->kF t A T p.1+t * p.2<=M) (sG:∀ (i:Nat) (h:i < l[k].kids.length),∃ q:Nat,l[k].kids[i]=q/\q<=1000000) (fR:l[k].kids.length=jr ar u) (M9:jr ar u<=64)
  {c:Nat} {z:Bool} {o:Own} (x3 x8 aN ki km jW:AV) (K:KT):∀ (d j:Nat) (m:af) (E:List (Int×RV)),j+d=l[k].kids.length->pd < c->c+1 < m.length ->
  m.get c=some (.obj true [.int .i64 l[k].var,dP l[k],.int .i64 l[k].leaf])->m.get (c+1)=bR w->m.get pd=some (.mp (.int .i64) (dm E))->vU M E (kF t ((jI ar (bf L) l[k]).take j) T)->E.length+d<=900000000 ->
  ∃ (m':af) (E':List (Int×RV)),qm L.av x3 x8 (.mref pd) aN (.ptr c 0) (.ptr (c+1) 0) ki km jW (IA z o l[k].kids) (.int .i64 l[k].kids.length) (.int .i64 j) m K=K (.exit 2) (GU L.av x3 x8 (.mref pd) aN ki km jW m')/\Fr m m' [pd]/\m'.get pd=some (.mp (.int .i64) (dm E'))/\vU M E' (kF t (jI ar (bf L) l[k]) T)/\E'.length<=E.length+d:=by
 have oF:l[k].var.toNat=u:=by omega
 have hWl:(jI ar (bf L) l[k]).length=l[k].kids.length:=by unfold jI;rw[bX,List.length_range,oF,fR]
 intro d
 induction d with
 | zero=>
  intro j m E hj Ia U1 AX MU tK hR hE;refine ⟨m,E,?_,Fr.refl _ _,tK,by rw[jQ (by omega)] at hR;exact hR,by omega⟩;rw[Kq,bh,aa,aA,ai (by omega)]
 | succ d ih=>
  intro j m E hj Ia U1 AX MU tK hR hE;have lP:j < l[k].kids.length:=by omega
  obtain ⟨q,eq,hq⟩:=sG j lP;have jz:l[k].kids.getD j 0=(q:Int):=by rw[aS,bD lP,dh,eq]
  have UR:(jI ar (bf L) l[k])[j]'(by omega)=(q,bf L u j):=by
   unfold jI;rw[rV,List.getElem_range,jz,oF];rfl
  have qmq:jI ar (bf L) l[k]=(jI ar (bf L) l[k]).take j++(q,bf L u j)::(jI ar (bf L) l[k]).drop (j+1):=by
   rw[<- UR,<- kT,n6]
  have MP:=hb _ _ _ qmq;dsimp only at MP;have ka:(jI ar (bf L) l[k]).take (j+1)=(jI ar (bf L) l[k]).take j++[(q,bf L u j)]:=by rw[n7 (by omega),UR]
  generalize hTj:kF t ((jI ar (bf L) l[k]).take j) T=Tj at hR MP;have M6:j < L.es[u].ns.length:=by have:=(hO.row u kd).2;unfold jr at fR;omega
  obtain ⟨p,ep,cp,op,fp⟩:=XR hO kd M6;obtain ⟨x,ex,wx⟩:=hw.mul hM (Nat.pos_iff_ne_zero.1 (hO.ss kd).2.1) cp op (by omega);have hS:=hO.ss kd;have gW:=Pq.index_ol (l:=L) (kk:=.i64) kd;have nb:aH none (IA z o l[k].kids) (.int .i64 j)=some (.vptr [.int .i64 (q:Int)]):=by rw[jB lP,eq]
  have p5:=bF AX;have hpl:=bF tK;have ldw:aj (some 3) (cU m 1) (.ptr (c+1) 0)=some w.av:=oJ (by rw[OY,bY (by omega)];exact MU);have ldv:aj none (cU m 1) (.ptr c (0+0))=some (.int .i64 u):=by rw[dQ,OY,bY (by omega),AX,hu];rfl
  have p70:aD (AP ae) (some m.length) (cU m 1) 70 [L.es[u].av,.int .i64 j]=some (p.av,cU m 1):=by rw[fG (Pq.fz_il _) (gh _ _),ep];rfl
  have p69:aD (AP ae) (some m.length) (cU m 1) 69 [w.av,p.av]=some (x.av,cU m 1):=by rw[fG (gU w) (gU p),hw.fr,fp,ex];rfl
  have m1e:((az (some m.length) (cU m 1) (.obj true [.bool false,au,au])).2)=m++[bZ]:=by rw[Es,OY,qg m _ _ rfl]
  have st1:aL (some 3) (m++[bZ]) (.ptr m.length 0) x.av=some (m++[bR x]):=by rw[qM (bJ rfl),qg m _ _ rfl]
  have qlI:af.get (m++[bR x]) pd=some (.mp (.int .i64) (dm E)):=by rw[bY hpl];exact tK
  have lkq:=N8 qlI (k:=(q:Int)) (by omega);have m2e:(az none (m++[bR x]) (.obj true [.bool false,au,au])).2=(m++[bR x])++[bZ]:=rfl;have l1:(m++[bR x]).length=m.length+1:=by simp
  generalize hr:(lk E q).getD zR=r at lkq;have wr:WV M r (Tj q):=by rw[<- hr];exact hR q
  have st2:aL (some 3) ((m++[bR x])++[bZ]) (.ptr (m.length+1) 0) r.av=some ((m++[bR x])++[bR r]):=by
   rw[qM (c1:=.bool false) (c2:=au) (c3:=au) (bJ l1.symm),qg _ _ _ l1.symm]
  have ldx:aj (some 3) ((m++[bR x])++[bR r]) (.ptr m.length 0)=some x.av:=oJ (by rw[bY (by simp),bJ rfl]);have ldr:aj (some 3) ((m++[bR x])++[bR r]) (.ptr (m.length+1) 0)=some r.av:=oJ (bJ l1.symm)
  have fin:∀ (y:RV) (M2:af),WV M y (Tj q+t * bf L u j)->Fr m M2 []->m.length<=M2.length ->
    ∃ (m':af) (E':List (Int×RV)),((kQ (.int .i64) M2 (.mref pd) (.int .i64 (q:Int)) y.av).bind fun m21=>(ag .other .add (.int .i64 (j:Int)) (.int .i64 1)).bind fun v22=>qm L.av x3 x8 (.mref pd) aN (.ptr c 0) (.ptr (c+1) 0) ki km jW (IA z o l[k].kids) (.int .i64 l[k].kids.length) v22 m21 K)=K (.exit 2) (GU L.av x3 x8 (.mref pd) aN ki km jW m')/\Fr m m' [pd]/\m'.get pd=some (.mp (.int .i64) (dm E'))/\vU M E' (kF t (jI ar (bf L) l[k]) T)/\E'.length<=E.length+(d+1):=by
   intro y M2 wy f2 iX;have ow:M2.get pd=some (.mp (.int .i64) (dm E)):=by rw[f2.get pd hpl (by simp)];exact tK
   have Nr:=bF ow;have up:=Pu ow (k:=(q:Int)) (by omega) (by omega) y;have ple:=X6 E q y;have fr2:Fr m (M2.set pd (some (.mp (.int .i64) (dm (pm E q y))))) [pd]:=(f2.mono (by simp)).set _ (.inl (by simp))
   obtain ⟨m',E',e,k1,k2,k3,k4⟩:=ih (j+1) (M2.set pd (some (.mp (.int .i64) (dm (pm E q y))))) (pm E q y) (by omega) Ia (by rw[a8];omega) (by rw[cG (by omega),f2.get c p5 (by simp)];exact AX) (by rw[cG (by omega),f2.get (c+1) U1 (by simp)];exact MU) (c8 rfl Nr) (by
    rw[ka,Jd,hTj]
    exact hR.put wy) (by omega)
   refine ⟨m',E',?_,Fr.trans fr2 k1 (fun a ha=>.inl ha),k2,k3,by omega⟩;rw[up,aa,cB (by omega),aa];exact e
  have pre:qm L.av x3 x8 (.mref pd) aN (.ptr c 0) (.ptr (c+1) 0) ki km jW (IA z o l[k].kids) (.int .i64 l[k].kids.length) (.int .i64 j) m K =
    aw (.bool (lk E q).isSome) (
     (aj (some 3) ((m++[bR x])++[bR r]) (.ptr (m.length+1) 0)).bind fun bT=>
     (aj (some 3) ((m++[bR x])++[bR r]) (.ptr m.length 0)).bind fun bH=>
     (aD (AP ae) none ((m++[bR x])++[bR r]) 71 [bT,bH]).bind fun gD=>
     (aL (some 3) gD.2 (.ptr m.length 0) gD.1).bind fun m19=>
     (aj (some 3) m19 (.ptr m.length 0)).bind fun v20=>
     (kQ (.int .i64) m19 (.mref pd) (.int .i64 (q:Int)) v20).bind fun m21=>
     (ag .other .add (.int .i64 (j:Int)) (.int .i64 1)).bind fun v22=>
     qm L.av x3 x8 (.mref pd) aN (.ptr c 0) (.ptr (c+1) 0) ki km jW (IA z o l[k].kids) (.int .i64 l[k].kids.length) v22 m21 K) (
     (aj (some 3) ((m++[bR x])++[bR r]) (.ptr m.length 0)).bind fun v23=>
     (kQ (.int .i64) ((m++[bR x])++[bR r]) (.mref pd) (.int .i64 (q:Int)) v23).bind fun m24=>
     (ag .other .add (.int .i64 (j:Int)) (.int .i64 1)).bind fun v25=>
     qm L.av x3 x8 (.mref pd) aN (.ptr c 0) (.ptr (c+1) 0) ki km jW (IA z o l[k].kids) (.int .i64 l[k].kids.length) v25 m24 K):=by
   rw[Kq,bh,aa,aA,an (by omega),nb,aa,fV,aa,ldw,aa,gI,aa,ldv,aa,gW,aa,Pq.load_ol,aa,p70,aa];dsimp only;rw[p69,aa];dsimp only;rw[m1e,show (az (some m.length) (cU m 1) Ent.resv).1=m.length from rfl,st1,aa,show (AV.agg [.bool false,au,au])=zR.av from rfl,lkq,aa];dsimp only;rw[show ∀ a b:AV,aY (.tup [a,b]) 0=some a from fun _ _=>rfl,aa,show ∀ a b:AV,aY (.tup [a,b]) 1=some b from fun _ _=>rfl,aa,m2e,show (az none (m++[bR x]) Ent.resv).1=m.length+1 from l1,st2,aa]
  rw[pre]
  cases DN:lk E q with
  | none=>
   rw[Option.isSome_none,iC,ldx,aa]
   have hz:Tj q=0:=by
    have h1:=hR q;rw[DN,Option.getD_none] at h1;have h2:=(ZH M).q;rw[h1.q,vD,Yf h0] at h2;exact h2
   obtain ⟨m',E',e,kk⟩:=fin x ((m++[bR x])++[bR r]) (by rw[hz,bp];exact wx) (((Fr.refl m []).snoc _).snoc _) (by simp);exact ⟨m',E',e,kk⟩
  | some r0=>
   obtain ⟨y,ey,wy⟩:=wr.add hM h0 wx MP;have p71:aD (AP ae) none ((m++[bR x])++[bR r]) 71 [r.av,x.av]=some (y.av,(m++[bR x])++[bR r]):=by rw[fG (gU r) (gU x),wr.fr,wx.fr,ey];rfl
   have st3:aL (some 3) ((m++[bR x])++[bR r]) (.ptr m.length 0) y.av=some ((m++[bR y])++[bR r]):=by
    rw[qM (c1:=.bool x.neg) (c2:=x.num.av) (c3:=x.den.av) (by rw[bY (by simp),bJ rfl]),Ja m _ _ _ rfl]
   have ldy:aj (some 3) ((m++[bR y])++[bR r]) (.ptr m.length 0)=some y.av:=oJ (by rw[bY (by simp),bJ rfl]);rw[Option.isSome_some,mc,ldr,aa,ldx,aa,p71,aa];dsimp only;rw[st3,aa,ldy,aa];obtain ⟨m',E',e,kk⟩:=fin y ((m++[bR y])++[bR r]) wy (((Fr.refl m []).snoc _).snoc _) (by simp);exact ⟨m',E',e,kk⟩
end
end Go.Ab
namespace Go.Ab
open Go.Proofs Go.Proofs.Tryz
section
variable {ar:List Int} {L:OL} {l:List ND}
theorem qn1 (hO:OddsOk ar L) {u:Nat} (hu:u < L.es.length) {j:Nat}:Pq.partQ L.es[u] j=cT false (bf L u j) (SS ar (bf L) u):=by rw[(hO.ss hu).1,I9 hu];rfl
theorem qlu (hO:OddsOk ar L) (g:GoodL ar l) (h1:∀ x∈ar,1<=x) (c:Int) {M:Nat} (hM:M=PM ar (bf L) ar.length 0) (h0:M≠0) {i:Nat} (hi:i < l.length) {n:Pq.ND} (hv:n.var=l[i].var) (hk:n.kids.ns=l[i].kids) (hf:n.leaf=l[i].leaf) {ws:LV} (hw:∀ j,j < i->Pq.wQ ws j=cT false (Hc ar (bf L) l c j) M):Pq.hasQ L ws c n=cT false (Hc ar (bf L) l c i) M:=by
 by_cases hn:l[i].var < 0
 ·rw[Pq.hasQ_leaf (by omega),JO c hi hn,hf,<- hM]
  split
  ·exact (OU h0).symm
  ·exact (vD _ _).symm
 ·obtain ⟨a1,a2⟩:=g.var i hi (by omega);obtain ⟨u,hu⟩:=nA (show 0<=l[i].var by omega);have oF:l[i].var.toNat=u:=by omega
  have kd:u < L.es.length:=by rw[hO.len];omega
  obtain ⟨q,b1,b2⟩:=ML (s:=bf L) g h1 c i u hi hu;rw[oF] at a2;have fR:l[i].kids.length=jr ar u:=by unfold jr;omega
  rw[Pq.hasQ_node kd (hv.trans hu),b2,hk,fR]
  have key:∀ j,j<=jr ar u->Pq.sumR (Pq.termQ L.es[u] ws n) j=cT false (ij j fun j=>bf L u j * q j) M:=by
   intro j
   induction j with
   | zero=>intro _;rw[Jp];exact (vD _ _).symm
   | succ j ih=>
    intro hj;obtain ⟨t,e,ht,_⟩:=oI g hi (by omega) (k:=j) (by rw[oF];exact qt (by omega))
    have e2:Pq.termQ L.es[u] ws n j=cT false (bf L u j * q j) M:=by
     unfold Pq.termQ;have:=b1 j (by omega);rw[hk,qn1 hO kd,hw _ (by rw[e,cK];exact ht),this,zf,show (false != false)=false from rfl];have hS:=(hO.ss kd).2.1;rw[show bf L u j * (SS ar (bf L) u * q j)=bf L u j * q j * SS ar (bf L) u by rw[cM (SS ar (bf L) u),dZ],cM (SS ar (bf L) u) M];exact IW (by omega)
    rw[Pq.sumR,ih (by omega),e2,IV h0,pP]
  exact key _ (aQ _)
end
end Go.Ab
namespace Go.Ab
open Go.Proofs Go.Proofs.Tryz
def B4 (M:Nat) (En:List (Int×RV)) (D:List (Int×Nat)):Prop:=∀ p∈D,∃ r,lk En p.1=some r/\WV M r p.2
theorem B4.put {M:Nat} {En:List (Int×RV)} {D:List (Int×Nat)} (h:B4 M En D) {c:Int} {N:Nat} {r:RV} (hc:c∉D.map Prod.fst) (hr:WV M r N):B4 M (pm En c r) (D++[(c,N)]):=fun p hp=>by
 rw[WJ]
 rcases il.1 hp with hp | hp
 ·rw[ai (fun e=>hc (by rw[e];exact List.mem_map_of_mem hp))];exact h p hp
 ·obtain rfl:p=(c,N):=by simpa using hp
  rw[an rfl];exact ⟨r,rfl,hr⟩
abbrev bN (n:ND):Option Ent:=some (.obj true [.int .i64 n.var,dP n,.int .i64 n.leaf])
section
variable {s:Nat} {F:List Nat} {zs:Bool} {os:Own} {most:Int} {l:List ND} {ar:List Int}
theorem qht {L:OL} (hO:OddsOk ar L) (g:GoodL ar l) (h1:∀ x∈ar,1<=x/\x<=64) (cH:ar.length<=16) (eE:l.length<=100000) {M0:af} (h0:dC M0 s F (IA zs os ar) most l) {pb pd pe nm:Nat} (hpd:pd∉F) (yK:pe∉F) (hne:pd≠pe) (hb0:M0.get pb=some (.obj true [.ptr s 0])) (hbd:pb≠pd) (hbe:pb≠pe) {ids:List Nat} (lR:M0.get nm=some (.obj false (ds ids))) (hnd:nm≠pd) (hnp:nm≠pe)
  (b6:ids.length<=100000) (x8:AV) (K:KT):∀ (R P:List Nat) (m:af) (E En:List (Int×RV)) (T:Nat->Nat) (done:Nat) (D:List (Int×Nat)),ids=P++R->Flow ar (bf L) l R T done->Fr M0 m [pd,pe]->m.get pd=some (.mp (.int .i64) (dm E))->m.get pe=some (.mp (.int .i64) (dm En)) ->
  vU (PM ar (bf L) ar.length 0) E T->B4 (PM ar (bf L) ar.length 0) En D->((D++run ar (bf L) l R T).map Prod.fst).Nodup->E.length+64 * R.length<=900000000->En.length+R.length<=900000000 ->
  ∃ (m':af) (En':List (Int×RV)),zT L.av (.ptr pb 0) x8 (.mref pd) (.mref pe) (.arr nm 0 ids.length none) (.int .i64 ids.length) (.int .i64 P.length) m K=K (.exit 0) (KQ x8 (.mref pe) m')/\Fr M0 m' [pd,pe]/\m'.get pe=some (.mp (.int .i64) (dm En'))/\B4 (PM ar (bf L) ar.length 0) En' (D++run ar (bf L) l R T):=by
 obtain ⟨rn,mY⟩:=CN hO.all cH;intro R
 induction R with
 | nil=>
  intro P m E En T done D yp hF f jz wE hR HQ yG MD HP;rw[cm] at yp;subst yp;refine ⟨m,En,?_,f,wE,by rw[run,cm];exact HQ⟩;rw[QH,bh,aa,aA,ai (by omega)]
 | cons k R ih=>
  intro P m E En T done D yp hF f jz wE hR HQ yG MD HP;have hk:=hF.lt k fN;have pG:P.length < ids.length:=by rw[yp];simp
  have Nk:∀ a∈F,a∉[pd,pe]:=fun a ha hh=>by
   simp only[gE,CE,or_false] at hh
   rcases hh with rfl | rfl
   ·exact hpd ha
   ·exact yK ha
  have gK:=h0.fr f Nk;obtain ⟨p0,na,TT,st,_⟩:=gK;have bg:=st.ok _ (bS hk);have Vg:m.get pb=some (.obj true [.ptr s 0]):=by rw[f.get pb (bF hb0) (by simp[hbd,hbe])];exact hb0
  have DJ:m.get nm=some (.obj false (ds ids)):=by rw[f.get nm (bF lR) (by simp[hnd,hnp])];exact lR
  have ql8:=bF Vg;have Ib:=bF jz;have VJ:=bF wE;have mK:=bF st.hs;have rg:∀ x,x < m.length->af.get (cU m 2) x=m.get x:=fun x hx=>by rw[Ys,bY (by simp;omega),bY hx]
  have ix:aH none (.arr nm 0 ids.length none) (.int .i64 P.length)=some (.ptr nm P.length):=fZ pG
  have ldk:aj none m (.ptr nm P.length)=some (.int .i64 (k:Nat)):=by
   rw[dQ,DJ,kD,aa,uP];exact HF (by rw[yp];simp)
  have ldb:aj none (cU m 2) (.ptr pb 0)=some (.ptr s 0):=oZ (by rw[rg _ ql8];exact Vg);have Io:aj none (cU m 2) (.ptr s (0+1))=some na:=by rw[dQ,rg _ mK,st.hs];rfl
  have yH:=Eo st.hn hk;have ldv:aj (some 3) (cU m 2) (.vptr [.int .i64 l[k].var,dP l[k],.int .i64 l[k].leaf])=some l[k].av:=rfl;have lkq:=N8 (m:=cU m 2) (p:=pd) (E:=E) (k:=(k:Int)) (by rw[rg _ Ib];exact jz) (by omega);generalize hw:(lk E k).getD zR=w at lkq;have ww:WV (PM ar (bf L) ar.length 0) w (T k):=by rw[<- hw];exact hR k
  have e1:((az (some (m.length+1)) (az (some m.length) (cU m 2) (.obj true [.int .i64 0,au,.int .i64 0])).2 (.obj true [.bool false,au,au])).2)=(m++[some (.obj true [.int .i64 0,au,.int .i64 0])])++[bZ]:=by
   rw[Es,Es,Ys,Ja m _ _ _ rfl,qg _ _ _ (by simp)]
  have hsh:c9 (some 3) l[k].av=true:=by unfold ND.av dP;split<;>rfl
  have st1:aL (some 3) ((m++[some (.obj true [.int .i64 0,au,.int .i64 0])])++[bZ]) (.ptr m.length 0) l[k].av=some ((m++[bN l[k]])++[bZ]):=by
   rw[show l[k].av=.agg [.int .i64 l[k].var,dP l[k],.int .i64 l[k].leaf] from rfl,Y0 (a:=.int .i64 0) (b:=au) (c:=.int .i64 0) (by rw[bY (by simp),bJ rfl]) hsh,Ja m _ _ _ rfl]
  have st2:aL (some 3) ((m++[bN l[k]])++[bZ]) (.ptr (m.length+1) 0) w.av=some ((m++[bN l[k]])++[bR w]):=by
   rw[qM (c1:=.bool false) (c2:=au) (c3:=au) (bJ (by simp)),qg _ _ _ (by simp)]
  have gn:af.get ((m++[bN l[k]])++[bR w]) m.length=some (.obj true [.int .i64 l[k].var,dP l[k],.int .i64 l[k].leaf]):=by rw[bY (by simp),bJ rfl]
  have gw:af.get ((m++[bN l[k]])++[bR w]) (m.length+1)=bR w:=bJ (by simp);have gl:∀ x,x < m.length->af.get ((m++[bN l[k]])++[bR w]) x=m.get x:=fun x hx=>by rw[bY (by simp;omega),bY hx]
  have fM:Fr m ((m++[bN l[k]])++[bR w]) []:=((Fr.refl m []).snoc _).snoc _;have lM:((m++[bN l[k]])++[bR w]).length=m.length+2:=by simp
  generalize hMM:(m++[bN l[k]])++[bR w]=MM at gn gw gl fM lM st2;have ld0:aj none MM (.ptr m.length (0+0))=some (.int .i64 l[k].var):=by rw[dQ,gn];rfl
  have ld1:∀ M',M'.get m.length=some (.obj true [.int .i64 l[k].var,dP l[k],.int .i64 l[k].leaf])->aj none M' (.ptr m.length (0+1))=some (dP l[k]):=fun M' h=>by rw[dQ,h];rfl
  have ld2:aj none MM (.ptr m.length (0+2))=some (.int .i64 l[k].leaf):=by rw[dQ,gn];rfl
  have ldw:aj (some 3) MM (.ptr (m.length+1) 0)=some w.av:=oJ gw;have A1:=ua bg;have UK:(P++[k]).length=P.length+1:=by simp
  have pre:zT L.av (.ptr pb 0) x8 (.mref pd) (.mref pe) (.arr nm 0 ids.length none) (.int .i64 ids.length) (.int .i64 P.length) m K =
    aw (.bool (decide (l[k].var < 0))) (
     (kQ (.int .i64) MM (.mref pe) (.int .i64 l[k].leaf) w.av).bind fun m19=>
     (some (AV.ptr m.length (0+1))).bind fun v20=>
     (aj none m19 v20).bind fun v21=>
     (aO false v21).bind fun v22=>
     qm L.av (.ptr pb 0) x8 (.mref pd) (.mref pe) (.ptr m.length 0) (.ptr (m.length+1) 0) (.arr nm 0 ids.length none) (.int .i64 ids.length) (.int .i64 P.length) v21 v22 (.int .i64 0) m19 (xC K)) (
     qm L.av (.ptr pb 0) x8 (.mref pd) (.mref pe) (.ptr m.length 0) (.ptr (m.length+1) 0) (.arr nm 0 ids.length none) (.int .i64 ids.length) (.int .i64 P.length) (IA (kz l[k]) (ko l[k]) l[k].kids) (.int .i64 l[k].kids.length) (.int .i64 0) MM (xC K)):=by
   rw[QH,bh,aa,aA,an (by omega),ix,aa,ldk,aa,ldb,aa,o9,aa,gI,aa,Io,aa,yH,aa,ldv,aa,show (AV.agg [.bool false,au,au])=zR.av from rfl,lkq,aa];dsimp only;rw[e1,show (az (some m.length) (cU m 2) Ent.resv).1=m.length from rfl,st1,aa];have e2:∀ x,(az (some (m.length+1)) x Ent.resv).1=m.length+1:=fun _=>rfl;rw[e2,st2,aa,gI,aa,ld0,aa,bh,aa,gI,aa,ld2,aa,ldw,aa,gI,aa,ld1 MM gn,aa,A1,iE,aa]
  by_cases hv:l[k].var < 0
  ·
   obtain ⟨ME,uU,_⟩:=hF.leaf g hk hv
   have oE:run ar (bf L) l (k::R) T=(l[k].leaf,T k)::run ar (bf L) l R T:=by
    rw[run,bD hk];dsimp only;rw[an hv]
   rw[oE] at yG ⊢
   have hlf:-1000000000000<=l[k].leaf/\l[k].leaf<=1000000000000:=by
    rcases bg with ⟨_,_,h3⟩ | ⟨h3,_⟩<;>omega
   have Vh:MM.get pe=some (.mp (.int .i64) (dm En)):=by rw[gl _ VJ];exact wE
   have up:=Pu Vh hlf (by simp at HP;omega) w
   have hcn:l[k].leaf∉D.map Prod.fst:=fun hh=>by
    rw[kU,gd] at yG;exact (List.nodup_append.1 yG).2.2 _ hh _ fN rfl
   have ple:=X6 En l[k].leaf w
   have u6:l[k].kids=[]:=by
    rcases bg with ⟨_,h2,_⟩ | ⟨h2,_⟩
    ·exact h2
    ·omega
   have Nr:=bF Vh;have f2:Fr M0 (MM.set pe (some (.mp (.int .i64) (dm (pm En l[k].leaf w))))) [pd,pe]:=(Fr.trans f fM fun _ h=>by cases h).set _ (.inl (by simp));obtain ⟨m',En',e,k1,k2,k3⟩:=ih (P++[k]) _ E (pm En l[k].leaf w) T _ (D++[(l[k].leaf,T k)]) (by rw[yp,gA];rfl) ME f2 (by rw[cG hne,gl _ Ib];exact jz) (c8 rfl Nr) hR (HQ.put hcn ww) (by rw[gA];exact yG) (by simp at MD;omega) (by simp at HP;omega);refine ⟨m',En',?_,k1,k2,by rw[gA] at k3;exact k3⟩;rw[UK] at e;have gn2:af.get (MM.set pe (some (.mp (.int .i64) (dm (pm En l[k].leaf w))))) m.length=some (.obj true [.int .i64 l[k].var,dP l[k],.int .i64 l[k].leaf]):=by rw[cG (by omega)];exact gn
   rw[pre,dD hv,mc,up,aa,aa,ld1 _ gn2,aa,A1,iE,aa,Kq,bh,aa,aA,ai (by rw[u6];simp),P4,cB (by omega),aa];exact e
  ·
   obtain ⟨u,hu⟩:∃ u:Nat,l[k].var=u:=⟨l[k].var.toNat,by omega⟩;have oF:l[k].var.toNat=u:=by omega
   obtain ⟨kd,Ih,fW,_,hbound,ME,_⟩:=hF.inner g (fun v hv=>(hO.all v hv).1) hk hu
   have oE:run ar (bf L) l (k::R) T=run ar (bf L) l R (kF (T k / SS ar (bf L) u) (jI ar (bf L) l[k]) T):=by
    rw[run,bD hk];dsimp only;rw[ai hv,oF]
   rw[oE] at yG ⊢;obtain ⟨ke,rC⟩:=g.var k hk (by omega);rw[oF] at rC;have fR:l[k].kids.length=jr ar u:=by unfold jr;omega
   have M9:jr ar u<=64:=by
    have:=h1 _ (bS kd);unfold jr;rw[aS,bD kd,dh];omega
   have qp7:E.length+(64 * R.length+64)<=900000000:=by simp only[aJ] at MD;omega
   obtain ⟨m1,E1,e17,f1,g1,r1,nc⟩:=qhs hO hk hu (by rw[hO.len];exact kd) mY rn (t:=T k / SS ar (bf L) u) (w:=w) (by rw[Ih];exact ww) (T:=T) hbound (fun i hi=>by
     obtain ⟨q,e,hq⟩:=pJ g hk _ (bS hi)
     exact ⟨q,e,by omega⟩) fR M9 (c:=m.length) (z:=kz l[k]) (o:=ko l[k]) (.ptr pb 0) x8 (.mref pe) (.arr nm 0 ids.length none) (.int .i64 ids.length) (.int .i64 P.length) (xC K) l[k].kids.length 0 MM E (by omega) Ib (by omega) gn gw (by rw[gl _ Ib];exact jz) (by rw[List.take_zero];exact hR) (by omega)
   have f2:Fr M0 m1 [pd,pe]:=Fr.trans (Fr.trans f fM fun _ h=>by cases h) f1 fun a ha=>.inl (by simp at ha;simp[ha]);have qlG:m1.get pe=some (.mp (.int .i64) (dm En)):=by rw[f1.get pe (by omega) (by simp;exact fun e=>hne e.symm),gl _ VJ];exact wE
   obtain ⟨m',En',e,k1,k2,k3⟩:=ih (P++[k]) m1 E1 En _ done D (by rw[yp,gA];rfl) ME f2 g1 qlG r1 HQ yG (by omega) (by simp at HP;omega);refine ⟨m',En',?_,k1,k2,k3⟩;rw[UK] at e;have e17:qm L.av (.ptr pb 0) x8 (.mref pd) (.mref pe) (.ptr m.length 0) (.ptr (m.length+1) 0) (.arr nm 0 ids.length none) (.int .i64 ids.length) (.int .i64 P.length) (IA (kz l[k]) (ko l[k]) l[k].kids) (.int .i64 l[k].kids.length) (.int .i64 0) MM (xC K)=_:=e17;rw[pre,dd hv,iC,e17,P4,cB (by omega),aa];exact e
end
end Go.Ab
namespace Go.Ab.Pq
open Go.Proofs.Tryz
structure HI (c:CV) (n:ND) (s:RV) (m:af):Prop where
 g0:m[0]?=some (cC c)
 g1:m[1]?=some (cR zR)
 g2:m[2]?=some (cN n)
 g3:m[3]?=some (cR s)
theorem AI {m:af} {k:Nat} {e:Option Ent} (h:m[k]?=some e) (x:Option Ent):(m++[x])[k]?=some e:=by
 rw[nB (Ac.1 h).1];exact h
theorem HI.app {c:CV} {n:ND} {s:RV} {m:af} (h:HI c n s m) (e:Option Ent):HI c n s (m++[e]):=⟨AI h.g0 e,AI h.g1 e,AI h.g2 e,AI h.g3 e⟩
end Go.Ab.Pq
namespace Go.Ab.Pq
open Go.Proofs.Tryz
theorem zip_all {L:OL} {ns:List Int} (hl:L.es.length=ns.length) (h:(L.es.zip ns).all (fun p=>rowB p.1 p.2)=true) {v:Nat} (hv:v < L.es.length):rowB L.es[v] (ns[v]'(by omega))=true:=by
 have hz:v < (L.es.zip ns).length:=by rw[CC];omega
 have:=ga.1 h _ (bS hz);rw[List.getElem_zip] at this;exact this
theorem qo0 {c:CV} (h:shapedB c=true) {v:Nat} (hv:v < c.odds.es.length):RowOk c.odds.es[v]:=by
 unfold shapedB at h;simp only[b7] at h;obtain ⟨_,h1,h2,_⟩:=h;unfold oddsB at h2;rw[b7,wj] at h2;have h3:=zip_all h2.1 h2.2 hv;unfold rowB at h3;simp only[b7,wj] at h3;exact ⟨N4 h1 _ (bS hv),fun o ho=>oddB_iff.1 (ga.1 h3.1 o ho),h3.2.2⟩
theorem O9 {c:CV} (h:shapedB c=true):c.ws.es.length=c.nodes.es.length/\0 < c.nodes.es.length:=by
 unfold shapedB at h;simp only[b7,wj] at h;obtain ⟨h0,_,_,h1,_⟩:=h;unfold nodesB at h1;rw[b7,wj] at h1;exact ⟨h0.2.2.2,h1.1⟩
theorem qoZ {c:CV} (h:shapedB c=true) {i:Nat} (hi:i < c.nodes.es.length):nodeB (armsI (lens c.odds)) c.nodes.es i c.nodes.es[i]=true:=by
 unfold shapedB at h;simp only[b7] at h;obtain ⟨_,_,_,h1,_⟩:=h;unfold nodesB at h1;rw[b7] at h1;have:=allF_iff.1 h1.2 i (by omega) (by omega)
 rwa [Mw hi] at this
theorem qoY {c:CV} (h:shapedB c=true) {i:Nat} (hi:i < c.nodes.es.length):CJ c.odds c.ws c.nodes.es[i]/\(c.nodes.es[i].var=-1\/0<=c.nodes.es[i].var):=by
 have hn:=qoZ h hi;have hl:=(O9 h).1;refine ⟨?_,Xq hn⟩;unfold nodeB at hn
 by_cases c1:c.nodes.es[i].var=-1
 ·exact .inl (by omega)
 ·rw[ai c1,b7,wj] at hn;obtain ⟨⟨h0,h1,h2,h3⟩,h4⟩:=hn;obtain ⟨v,hv⟩:=nA h0;rw[armsI_ns,Bl] at h1;have fS:v < c.odds.es.length:=by omega
  have qmw:v < (lens c.odds).length:=by rw[Bl];exact fS
  rw[armsI_ns,hv,cK,aS,bD qmw] at h3;have h3:(c.nodes.es[i].kids.ns.length:Int)=(lens c.odds)[v]:=h3;rw[lens_get fS] at h3;refine .inr ⟨v,fS,hv,qo0 h fS,by omega,fun k hk=>?_⟩;have:=ga.1 h4 k hk;unfold kidB at this;rw[b7,wj] at this;omega
def okAt (c:CV) (i:Nat):Bool:=decide (wQ c.ws i=hasQ c.odds c.ws c.leaf (c.nodes.es.getD i zN))
def firstF (f:Nat->Bool):Nat->Nat->Option Nat
 | 0,_=>none
 | j+1,i=>if f i then firstF f j (i+1) else some i
def checkE (c:CV):Int:=if shapedB c=true then (match firstF (okAt c) c.nodes.es.length 0 with | none=>0 | some _=>32) else 1
def checkI (c:CV):Int:=if shapedB c=true then (match firstF (okAt c) c.nodes.es.length 0 with | none=>0 | some i=>i) else 0
def checkQ (c:CV):Rat:=if checkE c=0 then wQ c.ws (c.nodes.es.length - 1) else 0
theorem qk9 (r:RV) (a b:Int):Fz (.tup [r.av,.int .i64 a,.int .i64 b]) (.tup [r.fr.av,.int .i64 a,.int .i64 b]):=by
 intro m;have e:bG m j6 (.tup [r.av,.int .i64 a,.int .i64 b])=(eY (bG m 8) [r.av,.int .i64 a,.int .i64 b]).map fun r=>(.tup r.1,r.2):=rfl;rw[e];simp[eY,Us,jT _ _ m 7]
theorem Tq:gm (.agg [.bool false,.lst none true .full [],.lst none true .full []]) []=some zR.av:=rfl
theorem CJ.fr {odds:OL} {ws:LV} {n:ND} (h:CJ odds ws n):CJ odds.fr ws.fr ⟨n.var,n.kids.fr,n.leaf⟩:=by
 rcases h with h | ⟨v,hv,hn,h⟩
 ·exact .inl h
 ·exact .inr ⟨v,hv,hn,h.row,h.len,h.kids⟩
theorem ZJ:zR.q=0:=ze _ _
theorem ZI:ROk 1 zR:=⟨⟨by simp[zR,iv,Dg],by simp[zR,iv],fun _=>rfl⟩,⟨by simp[zR,iv,Dg],by simp[zR,iv],fun _=>rfl⟩,by simp[zR,iv],by simp[zR,iv]⟩
structure CI (c:CV) (m:af):Prop where
 g0:m[0]?=some (cC c)
 g1:m[1]?=some (cR zR)
theorem CI.app {c:CV} {m:af} (h:CI c m) (e:Option Ent):CI c (m++[e]):=⟨AI h.g0 e,AI h.g1 e⟩
theorem SK {c:CV} (hc:COk 30 c) (hs:shapedB c=true) (K:KT):∀ (j i:Nat) (m:af),i+j=c.nodes.es.length->CI c m ->
  ∃ m',CI c m'/\zX (.ptr 0 0) (.ptr 1 0) c.nodes.av (.int .i64 c.nodes.es.length) (.int .i64 i) m K=match firstF (okAt c) j i with
   | none=>K (.exit 0) (K7 (.ptr 0 0) (.ptr 1 0) m')
   | some p=>K .ret (G1 (.ptr 1 0) (.int .i64 p) (.int .i64 32) m')
 | 0,i,m,ry,hm=>⟨m,hm,by rw[Q1,cX,aa,aA,ai (by omega)];rfl⟩
 | j+1,i,m,ry,hm=>by
  have hi:i < c.nodes.es.length:=by omega
  have hl:=(O9 hs).1;have hn:=hc.nlen;have hw:i < c.ws.es.length:=by omega
  obtain ⟨tO,_⟩:=qoY hs hi;obtain ⟨m',hm',ih⟩:=SK hc hs K j (i+1) (m++[cN c.nodes.es[i]]) (by omega) (hm.app _);obtain ⟨s,s1,s2,s3⟩:=qgv (odds:=c.odds.fr) (n:=⟨c.nodes.es[i].var,c.nodes.es[i].kids.fr,c.nodes.es[i].leaf⟩) (ws:=c.ws.fr) c.leaf hc.ws.fr' tO.fr;have s2:Can s (hasQ c.odds c.ws c.leaf c.nodes.es[i]):=s2;have okw:=hc.ws.ok _ (bS hw)
  have hb:Bd 4000 (hasQ c.odds c.ws c.leaf c.nodes.es[i]):=by
   rcases tO with h | ⟨v,hv,rC,h⟩
   ·rw[hasQ_leaf h]
    split
    ·exact JI (by omega)
    ·exact JJ (by omega)
   ·rw[hasQ_node hv rC];exact Zg h hc.ws (aQ _)
  have wfr:=hc.ws.fr _ (bS hw);have e14:=qgx (okw.mono (by omega:30<=4000)) (s2.ok hb (by omega)) wfr s3 (by omega) (by omega);have fU:=hm.app (cN c.nodes.es[i])
  have eok:decide (c.ws.es[i].q=s.q)=okAt c i:=by
   unfold okAt;rw[wQ_get hw,Mw hi,s2.q]
  rw[eok] at e14
  have key:zX (.ptr 0 0) (.ptr 1 0) c.nodes.av (.int .i64 c.nodes.es.length) (.int .i64 i) m K=aw (.bool (okAt c i)) (zX (.ptr 0 0) (.ptr 1 0) c.nodes.av (.int .i64 c.nodes.es.length) (.int .i64 ((i+1:Nat):Int)) (m++[cN c.nodes.es[i]]) K) (K .ret (G1 (.ptr 1 0) (.int .i64 i) (.int .i64 32) ((m++[cN c.nodes.es[i]]).set 1 (cR zR)))):=by
   rw[Q1,cX,aa,aA,an hi,NQ hc.nsh hi,aa,WM,aa];simp only[nM,cY];rw[Xx,aa,dc,aa,AA fU.g0,aa,Il hc.ws hw,aa,Iv,aa,de,aa,Hs fU.g0,aa,qny (x:=c.nodes.es[i]) My,aa,Uo,aa,LX fU.g0,aa,aa,AA fU.g0,aa,qod (fz_ol _) (qk5 _) (gh _ _) (Mt _),s1,aR,aa,dr,wfr,s3,e14,aR,aa,dE,aa,V7,cB (by omega),aa,Tq,aa,Yy fU.g1,aa]
  rw[key,firstF]
  cases okAt c i with
  | true=>
   refine ⟨m',hm',?_⟩;rw[oH,ih];rfl
  | false=>
   refine ⟨(m++[cN c.nodes.es[i]]).set 1 (cR zR),⟨?_,?_⟩,rfl⟩
   ·rw[Ae (by omega)];exact fU.g0
   ·rw[xI (Ac.1 fU.g1).1]
theorem V53 {c:CV} (hc:COk 30 c):∃ r:RV,AP ae 53 [c.av]=some (.tup [r.av,.int .i64 (checkI c),.int .i64 (checkE c)])/\r.q=checkQ c/\r.fr=r/\ROk 4000 r:=by
 have fin:∀ (r:RV) (a b:Int) (m:af),r.fr=r->AC ae 53 [c.av] []=some (.tup [r.av,.int .i64 a,.int .i64 b],m)->AP ae 53 [c.av]=some (.tup [r.av,.int .i64 a,.int .i64 b]):=fun r a b m hr h=>(cO _ _ (qk9 r a b) rfl h).trans (by rw[hr]);have start:AC ae 53 [c.av] []=AC ae 53 [c.av] []:=rfl;have g0:([cC c,cR zR]:af)[0]?=some (cC c):=rfl;have e13:AP ae 112 [c.fr.av]=some (.bool (shapedB c)):=qgw hc.fr;have hl:=hc.nlen
 conv at start=>rhs;rw[T53,Ts,aa]
 simp only[Bs,cY,aP,bV,aJ,cn,bp] at start;rw[TO g0,aa,cJ (Ut _),e13,aR,aa,dE,aa,V7] at start;unfold checkI checkE checkQ checkE
 cases hs:shapedB c with
 | false=>
  rw[hs,oG,Tq,aa,dw,aa,dk,aa] at start;exact ⟨zR,fin _ _ _ _ JA start,by simp[ZJ],JA,ZI.mono (by omega)⟩
 | true=>
  obtain ⟨iX,hl3⟩:=O9 hs;obtain ⟨m',hm',hW⟩:=SK hc hs (FE (aE ae.P f53.results.toList)) c.nodes.es.length 0 [cC c,cR zR] (by omega) ⟨rfl,rfl⟩;rw[show (((0:Nat):Int))=(0:Int) from rfl] at hW;rw[hs,oH,df,aa,Hu g0,aa,Ed,aa,hW] at start;simp only[bw]
  cases hf:firstF (okAt c) c.nodes.es.length 0 with
  | some p=>
   rw[hf] at start;dsimp only at start;rw[qd7,BE hm'.g1,aa] at start;exact ⟨zR,fin _ _ _ _ JA start,by simp[ZJ],JA,ZI.mono (by omega)⟩
  | none=>
   rw[hf] at start;dsimp only at start;have oW:c.nodes.es.length - 1 < c.ws.es.length:=by omega
   have okw:=(hc.ws.ok _ (bS oW)).mono (by omega:30<=100);have wfr:=hc.ws.fr _ (bS oW);obtain ⟨t,t1,t2,t3⟩:=Hd okw (wg.ok (JJ (by omega:1<=100)) (by omega)) (by omega) (by omega)
   have gZ:ag .other .sub (.int .i64 (c.ws.es.length:Int)) (.int .i64 1)=some (.int .i64 ((c.nodes.es.length - 1:Nat):Int)):=by
    rw[pB,iQ (by omega) (by omega)];congr 2;omega
   rw[qd8,dc,aa,AA hm'.g0,aa,aa,AA hm'.g0,aa,Is,aa,gZ,aa,Il hc.ws oW,aa,Iv,aa,dp,CW,aR,aa,dr,wfr,zD,t1,aR,aa,Yy hm'.g1,aa,BE (x:=t) (by rw[xI (Ac.1 hm'.g1).1]),aa] at start;have hq:t.q=wQ c.ws (c.nodes.es.length - 1):=by rw[t2.q,wg.q,Rat.add_zero,wQ_get oW]
   refine ⟨t,fin _ _ _ _ t3 start,by rw[an rfl,hq],t3,?_⟩;have:t.q=c.ws.es[c.nodes.es.length - 1].q:=by rw[hq,wQ_get oW]
   have tF:=t2;rw[wg.q,Rat.add_zero] at tF;exact tF.ok ((okw.bd (by omega)).mono (by omega)) (by omega)
end Go.Ab.Pq
namespace Go.Ab
open Go.Proofs Go.Proofs.Tryz
def qJ (c:Int) (r:RV):AV:=.agg [.int .i64 c,.bool r.neg,r.num.av,r.den.av]
inductive QR (e:Nat) (sh:Sh) (m:af):AV->List AV->List Nat->Prop
 | none:QR e sh m au [] []
 | some (t:Nat) (es:List AV) (ht:m.get t=some (.tok es.length sh.size)) (hne:es≠[]):QR e sh m (.lst sh false (.tok t e) es) es [t]
theorem qor {e b:Nat} {sh:Sh} {m:af} {x:AV} {l:List AV} {T:List Nat} (h:QR e sh m x l T) (hb:(l.length+1) * b<=gG) (y:AV):∃ x' m' T',b8 none false e sh b m x (.lst sh false .full [y])=some (x',m')/\QR e sh m' x' (l++[y]) T'/\Fr m m' T/\Gr m T T':=by
 cases h with
 | none=>
  refine ⟨.lst sh false (.tok m.length e) [y],m++[some (Ent.tok 1 sh.size)],[m.length],?_,.some _ [y] (by rw[bJ rfl];rfl) (by simp),Fr.app m _ _,fun k hk=>?_⟩
  ·have h2:b<=gG:=by simpa using hb
   simp[b8,h2,az]
  ·obtain rfl:k=m.length:=by simpa using hk
   exact .inr (aQ _)
 | some t es ht _=>
  have gy:=bF ht
  refine ⟨.lst sh false (.tok t e) (l++[y]),m.set t (some (Ent.tok (l.length+1) sh.size)),[t],?_,?_,(Fr.refl m [t]).set _ (.inl (by simp)),Gr.refl _ _⟩
  ·simp[b8,ht,hb]
  ·refine .some t (l++[y]) ?_ (by simp);rw[c8 rfl gy,aI];rfl
theorem XI {o:Own} (h:o.fr=o):∀ a b,o≠.tok a b:=fun a b e=>by subst e;cases h
theorem Jj {x:NV} (h:x.fr=x):qh x.av=x.av:=by
 have h2:x.o.fr=x.o:=by have:=cV NV.o h;exact this
 unfold NV.av
 cases ho:x.o with
 | tok a b=>exact absurd ho (XI h2 a b)
 | no=>rfl
 | full=>rfl
theorem BA {x:NV} (h:x.fr=x):pl x.av=true:=by
 have h2:x.o.fr=x.o:=by have:=cV NV.o h;exact this
 unfold NV.av
 cases ho:x.o with
 | tok a b=>exact absurd ho (XI h2 a b)
 | no=>rfl
 | full=>rfl
theorem qph {c:Int} {r:RV} (h:r.fr=r):lV (qJ c r)=qJ c r:=by
 have h1:r.num.fr=r.num:=cV RV.num h;have h2:r.den.fr=r.den:=cV RV.den h;unfold qJ lV;simp only[gd,qU,Jj h1,Jj h2]
 rfl
theorem qj3 {c:Int} {r:RV} (h:r.fr=r):dO (some 4) [qJ c r]=some (.lst (some 4) false .full [qJ c r]):=by
 have h1:r.num.fr=r.num:=cV RV.num h;have h2:r.den.fr=r.den:=cV RV.den h;have hs:c9 (some 4) (qJ c r)=true:=rfl
 have hp:pl (qJ c r)=true:=by
  show (pl (.int .i64 c) && (pl (.bool r.neg) && (pl r.num.av && (pl r.den.av && true))))=true;rw[BA h1,BA h2];rfl
 unfold dO;simp only[n0,List.all_nil,gd,qU,qph h,hs,hp,mV,Bool.and_true,bw]
theorem qjW (c:Int) (r:RV):gm (.agg [.int .i64 0,.bool false,au,au]) [(0,none,.int .i64 c),(1,some 3,r.av)]=some (qJ c r):=rfl
section
variable {s:Nat} {F:List Nat} {zs:Bool} {os:Own} {most:Int} {l:List ND} {ar:List Int}
theorem Hi {M0:af} {pe B:Nat} {En:List (Int×RV)} {rs:List Int} (nF:∀ c∈rs,((lk En c).getD zR).fr=(lk En c).getD zR) (yK:M0.get pe=some (.mp (.int .i64) (dm En))) {y:AV} (hy:G4 B M0 y rs) (hb:∀ c∈rs,-1000000000000<=c/\c<=1000000000000) (hl:rs.length<=100000) (K:KT):∀ (Q P:List Int) (m:af) (x:AV) (T:List Nat),rs=P++Q->Fr M0 m []->QR 46 (some 4) m x (P.map fun c=>qJ c ((lk En c).getD zR)) T->(∀ k∈T,M0.length<=k) ->
  ∃ (m':af) (x':AV) (T':List Nat),Cj (.mref pe) x y (.int .i64 rs.length) (.int .i64 P.length) m K=K (.exit 4) (KR x' m')/\Fr M0 m' []/\QR 46 (some 4) m' x' (rs.map fun c=>qJ c ((lk En c).getD zR)) T'/\∀ k∈T',M0.length<=k:=by
 intro Q
 induction Q with
 | nil=>
  intro P m x T oT f hx hT;rw[cm] at oT;subst oT;refine ⟨m,x,T,?_,f,hx,hT⟩;rw[QI,bh,aa,aA,ai (by omega)]
 | cons c Q ih=>
  intro P m x T oT f hx hT;have pG:P.length < rs.length:=by rw[oT];simp
  rcases hy with ⟨_,h2⟩ | ⟨t,zs',rfl,hg,_⟩
  ·rw[h2] at pG;simp at pG
  ·have hgm:m.get t=some (.obj false ((rs++zs').map (AV.int .i64))):=by rw[f.get t (bF hg) (by simp)];exact hg
   have A7:m.get pe=some (.mp (.int .i64) (dm En)):=by rw[f.get pe (bF yK) (by simp)];exact yK
   have ix:aH none (.arr t 0 rs.length none) (.int .i64 P.length)=some (.ptr t P.length):=fZ pG
   have ld:aj none m (.ptr t P.length)=some (.int .i64 c):=by
    rw[dQ,hgm,kD,aa,uP];have:((rs++zs').map (AV.int .i64))[P.length]?=some (.int .i64 c):=by rw[oT];simp
    exact this
   have lkq:=N8 A7 (k:=c) (hb c (by rw[oT];simp));obtain ⟨x2,m2,T2,ea,q2,f2,g2⟩:=qor (b:=64) hx (by rw[bX];unfold gG;omega) (qJ c ((lk En c).getD zR));have iN:=f.len
   obtain ⟨m',x',T',e,k1,k2,k3⟩:=ih (P++[c]) m2 x2 T2 (by rw[oT,gA];rfl) (Fr.trans f f2 fun a ha=>.inr (hT a ha)) (by rw[kU];exact q2) (fun a ha=>by
    rcases g2 a ha with hh | hh
    ·exact hT a hh
    ·omega)
   refine ⟨m',x',T',?_,k1,k2,k3⟩;rw[aI,tn] at e;rw[QI,bh,aa,aA,an (by omega),ix,aa,ld,aa,show (AV.agg [.bool false,au,au])=zR.av from rfl,lkq,aa];dsimp only;rw[qjW,aa,qj3 (nF c (by rw[oT];simp)),aa,ea,aa,cB (by omega),aa];exact e
theorem OD {L:OL} (h64:∀ r∈L.es,r.ns.length<=64) (h:Pq.oddsB ⟨zs,os,ar⟩ L=true):OddsOk ar L:=by
 unfold Pq.oddsB at h;rw[b7] at h;have hl:L.es.length=ar.length:=sV h.1;refine ⟨hl,fun u hu=>?_⟩;have hz:=Pq.zip_all (L:=L) (ns:=ar) hl h.2 hu;unfold Pq.rowB at hz;simp only[b7,oq,ga] at hz;refine ⟨⟨h64 _ (bS hu),fun o ho=>Pq.oddB_iff.1 (hz.1 o ho),hz.2.2⟩,?_⟩;rw[hz.2.1,aS,bD (by omega),dh]
theorem qnG {L:OL} (h64:∀ r∈L.es,r.ns.length<=64) (h:OddsOk ar L):Pq.oddsB ⟨zs,os,ar⟩ L=true:=by
 unfold Pq.oddsB;rw[b7];refine ⟨dD h.len,ga.2 fun p hp=>?_⟩;obtain ⟨i,hi,rfl⟩:=pv hp;have hi2:i < L.es.length:=by rw[CC] at hi;omega
 obtain ⟨⟨r1,r2,r3⟩,hl⟩:=h.row i hi2;rw[List.getElem_zip];unfold Pq.rowB;simp only[b7,oq,ga];have hi3:i < ar.length:=by rw[<- h.len];exact hi2
 refine ⟨fun o ho=>Pq.oddB_iff.2 (r2 o ho),?_,r3⟩;rw[hl,aS,bD hi3,dh]
theorem Uq (g:GoodL ar l) {sf:Nat->Nat->Nat} {id:Nat} (hid:id < l.length) {R:List Nat} (hp:R.Perm (Vi l id [])) (hs:cP (ab ar l) R):Flow ar sf l R (upd (fun _=>0) id (PM ar sf ar.length 0)) 0:=by
 obtain ⟨c1,c2,_⟩:=qs g id hid [] ri;have hnd:R.Nodup:=hp.nodup_iff.2 c1.nd
 refine ⟨hnd,fun j hj=>c1.lt j (hp.mem_iff.1 hj),hs,fun j hj rz hv k hk=>hp.mem_iff.2 (c1.kids (hp.mem_iff.1 rz) hj k hk),fun j hj v rz hv=>?_,?_⟩
 ·unfold upd
  split
  ·have fS:v<=ar.length:=by
    unfold fD at hv
    split at hv
    ·have:=(g.var j hj (by omega)).1;omega
    ·omega
   have:=An (ar:=ar) (s:=sf) v (ar.length - v) 0;rw[show v+(ar.length - v)=ar.length by omega,bp] at this;rw[this];exact Nat.dvd_mul_left _ _
  ·exact Nat.dvd_zero _
 ·have:=IS (h:=fun _=>1) (T:=fun _=>0) (j:=id) (x:=PM ar sf ar.length 0) hnd;rw[bp,an (hp.mem_iff.2 c2),kV] at this;rw[this]
  have z:∀ R:List Nat,jC (fun _=>1) (fun _=>0) R=0:=fun R=>by
   unfold jC
   induction R with
   | nil=>rfl
   | cons a R ih=>rw[gd,mW,ih];rfl
  rw[z];omega
abbrev qC (l:List ND) (id:Nat):List Int:=qN (mQ (fun n=>n.leaf) (fun n=>decide (n.var < 0)) l (Vi l id []))
theorem qmY (g:GoodL ar l) {i j:Nat} (hi:i < l.length) (hj:j < l.length) (vi:l[i].var < 0) (vj:l[j].var < 0) (e:l[i].leaf=l[j].leaf):i=j:=by
 refine Bu g.nd hi hj ?_;have h1:=g.ok _ (bS hi);have h2:=g.ok _ (bS hj)
 rcases h1 with ⟨a1,a2,_⟩ | ⟨a1,_⟩
 ·rcases h2 with ⟨b1,b2,_⟩ | ⟨b1,_⟩
  ·cases hx:l[i];cases hy:l[j];rw[hx] at a1 a2 e vi;rw[hy] at b1 b2 e vj
   simp_all
  ·omega
 ·omega
theorem YG (g:GoodL ar l) {sf:Nat->Nat->Nat} {R:List Nat} (hn:R.Nodup) (hlt:∀ j∈R,j < l.length) (T:Nat->Nat):((run ar sf l R T).map Prod.fst).Nodup:=by
 rw[I7 g R T hlt]
 have key:∀ (A:List Nat),A.Nodup->(∀ j∈A,j < l.length/\(l.getD j ⟨0,[],0⟩).var < 0)->(A.map fun j=>(l.getD j ⟨0,[],0⟩).leaf).Nodup:=by
  intro A
  induction A with
  | nil=>intro _ _;simp
  | cons a A ih=>
   intro hn hA;obtain ⟨h1,h2⟩:=uC.1 hn;rw[gd,uC];refine ⟨fun hm=>?_,ih h2 fun j hj=>hA j (fJ _ hj)⟩;obtain ⟨b,hb,e⟩:=jf.1 hm;obtain ⟨la,va⟩:=hA a fN;obtain ⟨lb,vb⟩:=hA b (fJ _ hb);rw[js la] at va e;rw[js lb] at vb e;have:=qmY g lb la vb va e;subst this;exact h1 hb
 refine key _ (hn.filter _) fun j hj=>?_;obtain ⟨h1,h2⟩:=rX.1 hj;exact ⟨hlt j h1,by simpa using h2⟩
theorem qpo {D:List (Int×Nat)} {c:Int} {N M:Nat} (hn:(D.map Prod.fst).Nodup) (hm:(c,N)∈D):(D.map fun p=>p.2 * (if p.1=c then M else 0)).sum=N * M:=by
 induction D with
 | nil=>cases hm
 | cons p D ih=>
  rw[gd,uC] at hn;rw[gd,mW]
  rcases gE.1 hm with e | hm
  ·subst e;rw[an rfl]
   have z:(D.map fun p=>p.2 * (if p.1=c then M else 0)).sum=0:=by
    have:∀ q∈D,q.1≠c:=fun q hq e=>hn.1 (by
     show c∈_
     rw[<- e];exact List.mem_map_of_mem hq)
    clear ih hm hn
    induction D with
    | nil=>rfl
    | cons q D ih=>rw[gd,mW,ai (this q fN),ih fun r hr=>this r (fJ _ hr)];simp
   rw[z];rfl
  ·have hne:p.1≠c:=fun e=>hn.1 (by rw[e];exact List.mem_map_of_mem (f:=Prod.fst) hm);rw[ai hne,ih hn.2 hm,n8,bp]
theorem qoQ (g:GoodL ar l) (h1:∀ x∈ar,1<=x) {sf:Nat->Nat->Nat} (h0:∀ v,v < ar.length->0 < SS ar sf v) (hM:PM ar sf ar.length 0≠0) {id:Nat} (hid:id < l.length) {R:List Nat} (hp:R.Perm (Vi l id [])) (hs:cP (ab ar l) R) {c:Int} {N:Nat}
  (hm:(c,N)∈run ar sf l R (upd (fun _=>0) id (PM ar sf ar.length 0))):N=Hc ar sf l c id:=by
 have F:=Uq g (sf:=sf) hid hp hs;obtain ⟨_,c2,_⟩:=qs g id hid [] ri
 have nH:=O3 g h0 (ML g h1 c) (q:=fun c'=>if c'=c then PM ar sf ar.length 0 else 0) (fun k hk hv=>JO c hk hv) R _ 0 F
 rw[qpo (YG g F.nd F.lt _) hm] at nH;have:=IS (h:=Hc ar sf l c) (T:=fun _=>0) (j:=id) (x:=PM ar sf ar.length 0) F.nd;rw[bp,an (hp.mem_iff.2 c2)] at this
 have z:jC (Hc ar sf l c) (fun _=>0) R=0:=by
  unfold jC;clear this nH hm F hs hp
  induction R with
  | nil=>rfl
  | cons a R ih=>rw[gd,mW,ih];simp
 rw[this,z,bp,cM] at nH;exact (Nat.eq_of_mul_eq_mul_right (Nat.pos_iff_ne_zero.2 hM) nH).symm
theorem qoP (g:GoodL ar l) {sf:Nat->Nat->Nat} {id:Nat} (hid:id < l.length) {R:List Nat} (hp:R.Perm (Vi l id [])) (T:Nat->Nat) {c:Int} (hc:c∈qC l id):∃ N,(c,N)∈run ar sf l R T:=by
 obtain ⟨c1,_,_⟩:=qs g id hid [] ri;rw[Zl] at hc;have hk:=I7 (s:=sf) g R T fun j hj=>c1.lt j (hp.mem_iff.1 hj)
 have:c∈(run ar sf l R T).map Prod.fst:=by
  rw[hk];exact ((hp.filter _).map _).mem_iff.2 hc
 obtain ⟨p,yJ,e⟩:=jf.1 this;exact ⟨p.2,by rw[<- e];exact yJ⟩
theorem qpE (ns:List Int):(qN ns).length<=ns.length:=by
 unfold qN;have:=LZ (nT ns);rw[Pb] at this;exact this
end
end Go.Ab
namespace Go.Ab
open Go.Proofs Go.Proofs.Tryz
section
variable {s:Nat} {F:List Nat} {zs:Bool} {os:Own} {most:Int} {l:List ND} {ar:List Int}
theorem qoz {M:Nat} (hM:M < 4294967296 ^ 8) (h0:M≠0) (id:Nat):vU M [((id:Int),jJ)] (upd (fun _=>0) id M):=fun j=>by
 unfold upd
 show WV M ((if (id:Int)=(j:Int) then some jJ else none).getD zR) _
 by_cases h:j=id
 ·subst h;rw[an rfl,an rfl];exact ZG hM h0
 ·rw[ai (by omega),ai h];exact ZH M
theorem qho {m0:af} (h0:dC m0 s F (IA zs os ar) most l) (hm:most≠0) (g:GoodL ar l) (eE:l.length<=100000) (h1:∀ x∈ar,1<=x/\x<=64) (cH:ar.length<=16) {id:Nat} (hid:id < l.length) {L:OL} (h64:∀ r∈L.es,r.ns.length<=64) (oS:L.es.length<=40) (hO:Pq.oddsB ⟨zs,os,ar⟩ L=true) :
  ∃ (m':af) (x:AV) (En:List (Int×RV)) (T:List Nat),AC ae 17 [.ptr s 0,.int .i64 id,L.av] m0=some (.tup [x,.int .i64 0],m')/\Fr m0 m' []/\QR 46 (some 4) m' x ((qC l id).map fun c=>qJ c ((lk En c).getD zR)) T/\(∀ k∈T,m0.length<=k) /\
   ∀ c∈qC l id,WV (PM ar (bf L) ar.length 0) ((lk En c).getD zR) (Hc ar (bf L) l c id):=by
 have bg:=OD h64 hO;obtain ⟨rn,mY⟩:=CN bg.all cH;have f1:Fr m0 (m0++[some (Ent.obj true [.ptr s 0])]) []:=Fr.app m0 _ _;have so:=h0.app f1;obtain ⟨m2,y,e41,f2,tQ⟩:=Z6 so hm g eE hid;have f12:Fr m0 m2 []:=Fr.trans f1 f2 fun _ h=>by cases h
 have lm2:=f12.len;have lm1:=f2.len;simp only[aI,aJ,aP] at lm1;have h2:=h0.app f12;have hb2:m2.get m0.length=some (.obj true [.ptr s 0]):=by rw[f2.get _ (by simp) (by simp),bJ rfl]
 have lb:=oZ hb2;have l0:aj none (m0++[some (Ent.obj true [.ptr s 0])]) (.ptr m0.length 0)=some (.ptr s 0):=oZ (bJ rfl)
 have la:aj none m2 (.ptr s (0+0))=some (IA zs os ar):=by
  obtain ⟨p,na,TT,st,_⟩:=h2;rw[dQ,st.hs];rfl
 have p63:aD (AP ae) none m2 63 [IA zs os ar,L.av]=some (.bool true,m2):=by
  have:=Pq.V63 (Pq.IL.fr ⟨zs,os,ar⟩) (Pq.OL.fr L) h64 oS;rw[fG (mG zs os ar) (Pq.fz_ol L)];have e:AP ae 63 [IA zs os.fr ar,(Pq.OL.fr L).av]=some (.bool (Pq.oddsB ⟨zs,os,ar⟩ L)):=this;rw[e,hO];rfl
 have p64:∀ m,aD (AP ae) none m 64 []=some (jJ.av,m):=fun m=>by rw[zb,Lw];rfl
 have up:kQ (.int .i64) (m2++[some (.mp (.int .i64) [])]) (.mref m2.length) (.int .i64 (id:Int)) jJ.av=some (m2++[some (.mp (.int .i64) (dm [((id:Int),jJ)]))]):=by
  have e0:kQ (.int .i64) (m2++[some (.mp (.int .i64) [])]) (.mref m2.length) (.int .i64 (id:Int)) jJ.av=_:=Pu (m:=m2++[some (.mp (.int .i64) (dm []))]) (p:=m2.length) (E:=[]) (k:=(id:Int)) (bJ rfl) (by omega) (by simp) jJ;rw[e0,qg _ _ _ rfl];rfl
 have f3:Fr m0 (m2++[some (.mp (.int .i64) (dm [((id:Int),jJ)]))]) []:=f12.snoc _;have MO:af.get (m2++[some (.mp (.int .i64) (dm [((id:Int),jJ)]))]) m0.length=some (.obj true [.ptr s 0]):=by rw[bY (by omega)];exact hb2
 have gd3:af.get (m2++[some (.mp (.int .i64) (dm [((id:Int),jJ)]))]) m2.length=some (.mp (.int .i64) (dm [((id:Int),jJ)])):=bJ rfl;have gx3:∀ x,x < m2.length->af.get (m2++[some (.mp (.int .i64) (dm [((id:Int),jJ)]))]) x=m2.get x:=fun x hx=>bY hx;have l3:(m2++[some (Ent.mp (.int .i64) (dm [((id:Int),jJ)]))]).length=m2.length+1:=by simp
 generalize hm3:m2++[some (Ent.mp (.int .i64) (dm [((id:Int),jJ)]))]=m3 at up f3 MO gd3 gx3 l3;have lb3:=oZ MO;have h3:=h0.app f3;obtain ⟨m5,x5,T5,e65,Vf,f5,hT5⟩:=JF h3 g eE hid;obtain ⟨cl1,_,_⟩:=qs g id hid [] ri;have fS:=sU _ _ cl1.nd cl1.lt;have f05:Fr m0 m5 []:=Fr.trans f3 f5 fun _ h=>by cases h
 have l5:=f5.len
 obtain ⟨t,rfl,ht,htn⟩:∃ t,x5=.arr t 0 (Vi l id []).length none/\m5.get t=some (.obj false (ds (Vi l id [])))/\m3.length<=t:=by
  generalize hV:Vi l id []=ids at Vf
  cases Vf with
  | none=>
   have:id∈Vi l id []:=by rw[tu g hid,ai (by simp)];simp
   rw[hV] at this;cases this
  | some t ids ht hne=>exact ⟨t,rfl,ht,hT5 t (by simp)⟩
 have gy:=bF ht;have h5:=h0.app f05;have MF:∀ a∈F,a < m0.length:=h0.lt;have UW:m5.get m0.length=some (.obj true [.ptr s 0]):=by rw[f5.get _ (by omega) (by simp)];exact MO
 have HT:=qkk (nm:=t) h5 (fun ha=>by have:=MF t ha;omega) (pb:=m0.length) UW (by omega) cH g;obtain ⟨m6,ids,e66,sd,lU,VP⟩:=Z1 (L:=(Vi l id []).length) (by omega) HT (l:=Vi l id []) (m:=m5) ⟨Fr.refl _ _,ht,rfl,cl1.lt⟩;have f56:=sd.fr;have l6:=f56.len;have hlen:ids.length=(Vi l id []).length:=lU.length_eq;have f06:Fr m0 m6 []:=Fr.trans f05 f56 fun a ha=>.inr (by simp at ha;omega);have f7:Fr m6 (m6++[some (Ent.mp (.int .i64) [])]) []:=Fr.app m6 _ _;have l7:(m6++[some (Ent.mp (.int .i64) [])]).length=m6.length+1:=by simp
 have f07:Fr m0 (m6++[some (Ent.mp (.int .i64) [])]) []:=f06.snoc _;have h7:=h0.app f07;have g67:∀ x,x < m6.length->af.get (m6++[some (Ent.mp (.int .i64) [])]) x=m6.get x:=fun x hx=>bY hx
 have gpd:af.get (m6++[some (Ent.mp (.int .i64) [])]) m2.length=some (.mp (.int .i64) (dm [((id:Int),jJ)])):=by
  rw[g67 _ (by omega),f56.get _ (by omega) (by simp;omega),f5.get _ (by omega) (by simp)];exact gd3
 have gpe:af.get (m6++[some (Ent.mp (.int .i64) [])]) m6.length=some (.mp (.int .i64) (dm [])):=bJ rfl
 have gpb:af.get (m6++[some (Ent.mp (.int .i64) [])]) m0.length=some (.obj true [.ptr s 0]):=by
  rw[g67 _ (by omega),f56.get _ (by omega) (by simp;omega)];exact UW
 have gnm:af.get (m6++[some (Ent.mp (.int .i64) [])]) t=some (.obj false (ds ids)):=by rw[g67 _ (by omega)];exact sd.hd
 have fl:=Uq g (sf:=bf L) hid lU VP;have hrn:=YG g (sf:=bf L) fl.nd fl.lt (upd (fun _=>0) id (PM ar (bf L) ar.length 0));obtain ⟨m8,En,e11,f8,gpe8,U8⟩:=qht bg g h1 cH eE h7 (pb:=m0.length) (pd:=m2.length) (pe:=m6.length) (nm:=t) (fun ha=>by have:=MF _ ha;omega) (fun ha=>by have:=MF _ ha;omega) (by omega) gpb (by omega) (by omega) gnm (by omega) (by omega) (by omega) y (Fs (aE ae.P f17.results.toList)) ids [] (m6++[some (Ent.mp (.int .i64) [])]) [((id:Int),jJ)] [] (upd (fun _=>0) id (PM ar (bf L) ar.length 0)) 0 [] rfl fl (Fr.refl _ _) gpd gpe (qoz mY rn id) (fun p hp=>by cases hp) (by simpa using hrn) (by simp;omega) (by simp;omega);rw[bV] at U8;have l8:=f8.len
 have qme:(qC l id).length<=100000:=by
  have:=qpE (mQ (fun n=>n.leaf) (fun n=>decide (n.var < 0)) l (Vi l id []));unfold mQ at this;rw[bX] at this;have h2:=List.length_filter_le (fun i=>(fun n:ND=>decide (n.var < 0)) (l.getD i ⟨0,[],0⟩)) (Vi l id []);unfold qC mQ;omega
 have qmd:G4 (m0.length+1) m8 y (qC l id):=by
  rcases tQ with hh | ⟨t',z',hx,hg,hB⟩
  ·exact .inl hh
  ·have h2:=bF hg;have hB':m0.length+1<=t':=by simpa using hB
   refine .inr ⟨t',z',hx,?_,hB'⟩;rw[f8.get _ (by omega) (by simp;omega),g67 _ (by omega),f56.get _ (by omega) (by simp;omega),f5.get _ (by omega) (by simp),gx3 _ h2];exact hg
 have Bh:∀ c∈qC l id,WV (PM ar (bf L) ar.length 0) ((lk En c).getD zR) (Hc ar (bf L) l c id):=fun c hc=>by
  obtain ⟨N,hN⟩:=qoP g (sf:=bf L) hid lU (upd (fun _=>0) id (PM ar (bf L) ar.length 0)) hc;obtain ⟨r,hr,wr⟩:=U8 _ hN;have hv:=qoQ g (fun x hx=>(h1 x hx).1) (fun v hv=>(bg.all v hv).1) rn hid lU VP hN;dsimp only at hr wr;rw[hr,dh,<- hv];exact wr
 have AR:∀ c∈qC l id,-1000000000000<=c/\c<=1000000000000:=fun c hc=>by
  rw[Zl] at hc;obtain ⟨j,hj,rfl⟩:=jf.1 hc;have lP:=cl1.lt j (rX.1 hj).1;dsimp only;rw[js lP]
  rcases g.ok _ (bS lP) with ⟨_,_,h3⟩ | ⟨_,h3,_⟩<;>omega
 obtain ⟨m9,x9,T9,e28,f9,q9,hT9⟩:=Hi (M0:=m8) (pe:=m6.length) (fun c hc=>(Bh c hc).fr) gpe8 qmd AR qme (Ft (aE ae.P f17.results.toList)) (qC l id) [] m8 au [] rfl (Fr.refl _ _) .none (by simp)
 have f08:Fr m0 m8 []:=Fr.trans f07 f8 fun a ha=>.inr (by
  simp only[gE,CE,or_false] at ha
  rcases ha with rfl | rfl<;>omega)
 refine ⟨m9,x9,En,T9,?_,Fr.trans f08 f9 (fun _ h=>by cases h),q9,fun k hk=>by have:=hT9 k hk;omega,Bh⟩
 ·rw[T17,pX,aa,l0,aa,e41,aa,rj,aa,rl,aa,jg,aa,aA,ai (by omega),lb,aa,o9,aa,gI,aa,la,aa,p63,aa,rI,aa,kS,iC];rw[show (az none m2 (Ent.mp (.int .i64) [])).2=m2++[some (.mp (.int .i64) [])] from rfl,p64,aa];dsimp only;rw[show (az none m2 Ent.resv).1=m2.length from rfl,up,aa,lb3,aa,e65,aa];dsimp only;rw[e66,aa];dsimp only;rw[show aO false (.arr t 0 (Vi l id []).length none)=some (.int .i64 (Vi l id []).length) from rfl,aa,<- hlen];have e11:zT L.av (.ptr m0.length 0) y (.mref m2.length) (.mref (az none m6 Ent.resv).1) (.arr t 0 ids.length none) (.int .i64 ids.length) (.int .i64 0) (az none m6 (Ent.mp (.int .i64) [])).2 (Fs (aE ae.P f17.results.toList))=_:=e11;rw[e11,qcG]
  have hly:aO false y=some (.int .i64 (qC l id).length):=by
   rcases tQ with ⟨h1,h2⟩ | ⟨t',z',h1,_⟩
   ·rw[h1];have:(qC l id).length=0:=by unfold qC;rw[h2];rfl
    rw[this];rfl
   ·rw[h1];rfl
  rw[hly,aa];have e28:Cj (.mref m6.length) au y (.int .i64 (qC l id).length) (.int .i64 0) m8 (Ft (aE ae.P f17.results.toList))=_:=e28;rw[e28,qcM]
end
end Go.Ab
namespace Go.Ab
open Go.Proofs Go.Proofs.Tryz
theorem UA {l:List Int} {i:Nat} (h:i < l.length):l.getD i 0=l[i]:=by rw[aS,bD h,dh]
section
variable {z zo:Bool} {o oo:Own} {t:List Int}
end
section
variable {ar:List Int} {s:Nat->Nat->Nat}
def Wt (s:Nat->Nat->Nat):Nat->Nat->(Nat->Nat)->Nat
 | 0,_,_=>1
 | d+1,v,a=>s v (a v) * Wt s d (v+1) a
theorem JM {φ:(Nat->Nat)->Nat} (hφ:∀ b b',ik ar b->ik ar b'->(∀ w,w < ar.length->b w=b' w)->φ b=φ b'):∀ (d v:Nat),v+d=ar.length->∀ (a:Nat->Nat) (A:Nat->Nat->Nat),ik ar a ->
  (∀ k,k < bj (ar.drop v)->ik ar (A k)/\(∀ w,w < v->A k w=a w)/\jc (ar.drop v) v (A k)=k)->Ct ar s d v φ a=ij (bj (ar.drop v)) fun k=>Wt s d v (A k) * φ (A k)
 | 0,v,hv,a,A,ha,hA=>by
  have e:ar.drop v=[]:=jo (by omega);rw[e] at hA ⊢;obtain ⟨h1,h2,_⟩:=hA 0 (by simp[bj]);show φ a=ij 1 _;rw[pP,Jp,bp,Wt,px];exact hφ _ _ ha h1 fun w hw=>(h2 w (by omega)).symm
 | d+1,v,hv,a,A,ha,hA=>by
  have fS:v < ar.length:=by omega
  have hp:=uc fS;rw[hp,Zc,Ct];refine tb fun j hj=>?_
  have hk:∀ r,r < bj (ar.drop (v+1))->j * bj (ar.drop (v+1))+r < bj (ar.drop v):=fun r hr=>by
   rw[hp];have:=iM (bj (ar.drop (v+1))) (show j+1<=(ar.getD v 0).toNat from hj);rw[gO,px] at this;omega
  have AS:∀ r,r < bj (ar.drop (v+1))->A (j * bj (ar.drop (v+1))+r) v=j/\jc (ar.drop (v+1)) (v+1) (A (j * bj (ar.drop (v+1))+r))=r:=fun r hr=>by
   obtain ⟨h1,_,h3⟩:=hA _ (hk r hr);rw[tU fS] at h3;have hlt:=Eb h1 d (v+1) (by omega);generalize bj (ar.drop (v+1))=P at *;generalize A (j * P+r) v=x at *;generalize jc (ar.drop (v+1)) (v+1) (A (j * P+r))=y at *;have e1:(x * P+y) / P=x:=by rw[cM,Nat.mul_add_div (by omega),Aj hlt,jF]
   have e2:(j * P+r) / P=j:=by rw[cM,Nat.mul_add_div (by omega),Aj hr,jF]
   have:x=j:=by rw[<- e1,h3,e2]
   subst this;exact ⟨rfl,by omega⟩
  rw[JM hφ d (v+1) (by omega) (upd a v j) (fun r=>A (j * bj (ar.drop (v+1))+r)) (ha.upd (qt hj)) fun r hr=>by
   obtain ⟨h1,h2,_⟩:=hA _ (hk r hr);obtain ⟨d1,d2⟩:=AS r hr;refine ⟨h1,fun w hw=>?_,d2⟩
   by_cases Bh:w=v
   ·subst Bh;rw[Jw];exact d1
   ·rw[Pt Bh];exact h2 w (by omega),<- Jo]
  refine tb fun r hr=>?_;rw[Wt,(AS r hr).1,dZ]
theorem SX (a:Nat->Nat):∀ (d v:Nat),Wt s (d+1) v a=Wt s d v a * s (v+d) (a (v+d))
 | 0,v=>by simp[Wt]
 | d+1,v=>by
  rw[Wt,SX a d (v+1),Wt,dZ,show v+1+d=v+(d+1) by omega]
theorem qfx (d:Nat):PM ar s (d+1) 0=PM ar s d 0 * SS ar s d:=by
 rw[An d 1 0];simp[PM]
theorem SW {a:Nat->Nat} (ha:ik ar a):∀ (d v:Nat),v+d<=ar.length->Wt s d v a<=PM ar s d v
 | 0,v,_=>aQ _
 | d+1,v,h=>qX (Zd (s v) (show a v < jr ar v by have:=ha v (by omega);unfold jr;omega)) (SW ha d (v+1) (by omega))
end
section
variable {ar:List Int} {L:OL}
theorem S0 (hO:OddsOk ar L) {u:Nat} (hu:u < L.es.length) (x1 x4 x5 x6 aV bL be:AV) (m:af) (K:KT):∀ (j i:Nat),i+j=L.es[u].ns.length ->
  Cw x1 x4 x5 x6 L.es[u].av (.int .i64 (L.es[u].ns.take i).sum) aV bL be L.es[u].av (.int .i64 L.es[u].ns.length) (.int .i64 i) m K=K (.exit 2) (K9 x1 x4 x5 x6 L.es[u].av (.int .i64 L.es[u].ns.sum) aV bL be m)
 | 0,i,h=>by rw[Q4,bh,aa,aA,ai (by omega),jQ (by omega)]
 | j+1,i,h=>by
  have hi:i < L.es[u].ns.length:=by omega
  have hr:=(hO.row u hu).1;have Nu:=hr.1;obtain ⟨b1,b2⟩:=Pq.take_bd hr i;obtain ⟨a,ha,Dz⟩:=hr.get hi;have ih:=S0 hO hu x1 x4 x5 x6 aV bL be m K j (i+1) (by omega);rw[Pq.take_sum hi] at ih;rw[Q4,bh,aa,aA,an (by omega),Pq.index_il hi,aa,Pq.load_il,aa,kX,iQ (by omega) (by omega),aa,cB (by omega),aa,ih]
theorem W55 (hO:OddsOk ar L) (cH:ar.length<=16) {cs:List Int} (hcl:cs.length=ar.length) (AR:∀ v,v < ar.length->0<=cs.getD v 0/\cs.getD v 0 < ar.getD v 0) (K:KT):∀ (j i:Nat) (m:af) (w:RV),i+j=L.es.length->2<=m.length->m.get 1=bR w->(∃ a b c,m.get 0=some (.obj true [a,b,c]))->WV (PM ar (bf L) i 0) w (Wt (bf L) i 0 (jx cs)) ->
  ∃ (m':af) (w':RV),Cv (IA false .no cs) (.ptr 0 0) (.ptr 1 0) L.av (.int .i64 L.es.length) (.int .i64 i) m K=K (.exit 0) (K8 (.ptr 0 0) (.ptr 1 0) m')/\2<=m'.length/\m'.get 1=bR w'/\(∃ a b c,m'.get 0=some (.obj true [a,b,c]))/\WV (PM ar (bf L) ar.length 0) w' (Wt (bf L) ar.length 0 (jx cs)):=by
 intro j
 induction j with
 | zero=>
  intro i m w hi hm h1 h0 hw
  refine ⟨m,w,?_,hm,h1,h0,?_⟩
  ·rw[Q3,bh,aa,aA,ai (by omega)]
  ·have:i=ar.length:=by have:=hO.len;omega
   rw[this] at hw;exact hw
 | succ j ih=>
  intro i m w hi hm h1 h0 hw;have b6:i < L.es.length:=by omega
  have hia:i < ar.length:=by have:=hO.len;omega
  have hr:=(hO.row i b6).1;have Ba:=(hO.row i b6).2;obtain ⟨S,hS,MH,hSb⟩:=hr.sum;have U2:i < cs.length:=by omega
  obtain ⟨q1,q2⟩:=AR i hia;have hgi:cs.getD i 0=cs[i]:=UA U2;obtain ⟨c,hc⟩:=nA (show 0<=cs[i] by omega);have DE:c < L.es[i].ns.length:=by omega
  obtain ⟨a,ha,Dz⟩:=hr.get DE;obtain ⟨r,er,cr,fr⟩:=qgy (a:=a) (b:=S) (by omega) (by omega) MH;have hss:=hO.ss b6
  have hsi:bf L i (jx cs i)=a:=by
   have e:jx cs i=c:=by unfold jx;rw[hgi,hc];rfl
   rw[e,I9 b6,aS,bD DE,dh,ha];rfl
  have hSS:SS ar (bf L) i=S:=by rw[hss.1,hS];rfl
  obtain ⟨x,ex,cx,fx⟩:=qgz hw.ok (b:=r) ((cr.ok (k:=1) (zF (mF (by omega)) (mF (by omega)) (by omega)) (by omega)).mono (by omega)) (by omega) (by omega);have hall:=Lm hO.all;have hMb:PM ar (bf L) (i+1) 0 < 4294967296 ^ 8:=jq (hall (i+1) 0 (by omega)).2 (jq (py (by omega) (show i+1<=16 by omega)) (by decide))
  have asg:ik ar (jx cs):=fun v hv=>by
   have:=AR v hv;unfold jx;omega
  have wx:WV (PM ar (bf L) (i+1) 0) x (Wt (bf L) (i+1) 0 (jx cs)):=by
   refine Can.wv hMb (SW asg (i+1) 0 (by omega)) ?_ fx;rw[hw.q,cr.q,zf] at cx;rw[SX,qfx,bp,hsi,hSS];exact cx
  have X:=S0 hO b6 (IA false .no cs) (.ptr 0 0) (.ptr 1 0) (.int .i64 i) L.av (.int .i64 L.es.length) (.int .i64 i) m (FG K) L.es[i].ns.length 0 (by omega);rw[List.take_zero,List.sum_nil] at X;have X:Cw (IA false .no cs) (.ptr 0 0) (.ptr 1 0) (.int .i64 i) L.es[i].av (.int .i64 0) L.av (.int .i64 L.es.length) (.int .i64 i) L.es[i].av (.int .i64 L.es[i].ns.length) (.int .i64 0) m (FG K)=_:=X;have p116:aD (AP ae) none m 116 [.int .i64 (a:Nat),.int .i64 (S:Nat)]=some (.tup [r.av,.int .i64 0],m):=by rw[fG (gh _ _) (gh _ _),er];rfl
  have st1:aL (some 3) (m++[bZ]) (.ptr m.length 0) r.av=some (m++[bR r]):=by
   rw[qM (c1:=.bool false) (c2:=au) (c3:=au) (bJ rfl),qg m _ _ rfl]
  have ld1:aj (some 3) (m++[bR r]) (.ptr 1 0)=some w.av:=oJ (by rw[bY (by omega)];exact h1);have ldr:aj (some 3) (m++[bR r]) (.ptr m.length 0)=some r.av:=oJ (bJ rfl);have p117:aD (AP ae) none (m++[bR r]) 117 [w.av,r.av]=some (x.av,m++[bR r]):=by rw[fG (gU w) (gU r),hw.fr,fr,ex];rfl
  have st2:aL (some 3) (m++[bR r]) (.ptr 1 0) x.av=some ((m++[bR r]).set 1 (bR x)):=qM (c1:=.bool w.neg) (c2:=w.num.av) (c3:=w.den.av) (by rw[bY (by omega)];exact h1)
  obtain ⟨m',w',e,k⟩:=ih (i+1) ((m++[bR r]).set 1 (bR x)) x (by omega) (by simp;omega) (c8 rfl (by simp;omega)) (by
   obtain ⟨y1,y2,y3,hy⟩:=h0
   exact ⟨y1,y2,y3,by rw[cG (by omega),bY (by omega)];exact hy⟩) wx
  refine ⟨m',w',?_,k⟩;have ixc:aH none (IA false .no cs) (.int .i64 i)=some (.vptr [.int .i64 (c:Nat)]):=by rw[jB U2,hc]
  rw[Q3,bh,aa,aA,an (by omega),Pq.index_ol b6,aa,Pq.load_ol,aa,Pq.len_il,aa,X,qej,ixc,aa,fV,aa,Pq.index_il DE,aa,Pq.load_il,aa,ha,hS,p116,aa];dsimp only;rw[show ∀ a b:AV,aY (.tup [a,b]) 0=some a from fun _ _=>rfl,aa,show ∀ a b:AV,aY (.tup [a,b]) 1=some b from fun _ _=>rfl,aa,show (az none m Ent.resv).1=m.length from rfl,show (az none m (Ent.obj true [.bool false,au,au])).2=m++[bZ] from rfl,st1,aa,ld1,aa,ldr,aa,p117,aa];dsimp only;rw[st2,aa,cB (by omega),aa];exact e
theorem V55 (hO:OddsOk ar L) (cH:ar.length<=16) {cs:List Int} (hcl:cs.length=ar.length) (AR:∀ v,v < ar.length->0<=cs.getD v 0/\cs.getD v 0 < ar.getD v 0):∃ w:RV,AP ae 55 [L.av,IA false .no cs]=some w.av/\WV (PM ar (bf L) ar.length 0) w (Wt (bf L) ar.length 0 (jx cs)):=by
 have p23:∀ m,aD (AP ae) none m 23 []=some (nr.av,m):=fun m=>by rw[zb,Lv];rfl
 have w0:WV (PM ar (bf L) 0 0) nr (Wt (bf L) 0 0 (jx cs)):=Can.wv (show (1:Nat) < 4294967296 ^ 8 by decide) (aQ 1) (by show Can nr (cT false 1 1);rw[show cT false 1 1=1 from rfl];exact xX) Et;obtain ⟨m',w,e,_,g1,⟨a,b,c,g0⟩,hw⟩:=W55 hO cH hcl AR (FF (aE ae.P f55.results.toList)) L.es.length 0 ([bZ]++[bR nr]) nr (by omega) (by simp) rfl ⟨_,_,_,rfl⟩ w0
 have e1:AC ae 55 [L.av,IA false .no cs] []=some (w.av,m'.set 0 (bR w)):=by
  rw[T55,show (az none ([]:af) (Ent.obj true [.bool false,au,au])).2=[bZ] from rfl,p23,aa];dsimp only;have st:aL (some 3) ([bZ]++[bZ]) (.ptr 1 0) nr.av=some ([bZ]++[bR nr]):=rfl;have e:Cv (IA false .no cs) (.ptr 0 0) (.ptr 1 0) L.av (.int .i64 L.es.length) (.int .i64 0) ([bZ]++[bR nr]) (FF (aE ae.P f55.results.toList))=_:=e;rw[show (az none ([]:af) Ent.resv).1=0 from rfl,show (az none ([bZ]:af) Ent.resv).1=1 from rfl,show (az none ([bZ]:af) (Ent.obj true [.bool false,au,au])).2=[bZ]++[bZ] from rfl,st,aa,Pq.len_ol,aa,e,qee,oJ g1,aa,qM g0,aa,oJ (c8 rfl (bF g0)),aa]
 exact ⟨w,(cO _ _ (gU w) (kO _) e1).trans (by rw[hw.fr]),hw⟩
end
end Go.Ab
namespace Go.Ab
open Go.Proofs Go.Proofs.Tryz
theorem V4 {ar:List Int} {a b:Nat->Nat} (h:∀ w,w < ar.length->a w=b w):∀ (d v:Nat),v+d=ar.length->jc (ar.drop v) v a=jc (ar.drop v) v b
 | 0,v,e=>by rw[jo (by omega)];rfl
 | d+1,v,e=>by
  have hv:v < ar.length:=by omega
  rw[tU hv,tU hv,h v hv,V4 h d (v+1) (by omega)]
end Go.Ab
namespace Go.Ab
open Go.Proofs Go.Proofs.Tryz
theorem qmE {z:Bool} {o:Own} {es:List AV} {i:Nat} (h:i < es.length):aH none (.lst none z o es) (.int .i64 i)=some (.vptr es[i].cells):=by simp[aH,h]
theorem Ph {F G:Nat->Nat}:∀ {n:Nat},(∀ k,k < n->F k<=G k)->ij n F<=ij n G
 | 0,_=>aQ _
 | n+1,h=>by
  rw[pP,pP];exact Nat.add_le_add (Ph fun k hk=>h k (by omega)) (h n (by omega))
theorem Ze {F:Nat->Nat} {i n:Nat} (h:i<=n):ij i F<=ij n F:=by
 obtain ⟨d,rfl⟩:=Nat.exists_eq_add_of_le h;rw[Zb];omega
section
variable {ar t:List Int} {L:OL}
def Ht (ar:List Int) (s:Nat->Nat->Nat) (t:List Int) (c:Int):Nat:=Ct ar s ar.length 0 (fun a=>if t.getD (jc ar 0 a) 0=c then 1 else 0) fun _=>0
structure Alls (ar:List Int) (css:List (List Int)):Prop where
 len:css.length=bj ar
 row:∀ k (h:k < css.length),Asn ar k css[k]
def um (s:Nat->Nat->Nat) (ar t:List Int) (css:List (List Int)) (c:Int) (k:Nat):Nat:=if t.getD k 0=c then Wt s ar.length 0 (jx (css.getD k [])) else 0
theorem TX {css:List (List Int)} {k:Nat} (h:k < css.length):css.getD k []=css[k]:=by rw[aS,bD h];rfl
theorem qag {s:Nat->Nat->Nat} (h1:∀ x∈ar,1<=x) {css:List (List Int)} (hA:Alls ar css) (c:Int):Ht ar s t c=ij (bj ar) (um s ar t css c)/\∀ i,i<=bj ar->ij i (um s ar t css c)<=PM ar s ar.length 0:=by
 have hk:∀ k,k < bj (ar.drop 0)->ik ar (jx (css.getD k []))/\(∀ w,w < 0->jx (css.getD k []) w=(fun _=>0) w)/\jc (ar.drop 0) 0 (jx (css.getD k []))=k:=fun k hk=>by
  rw[iR] at hk ⊢;have hl:k < css.length:=by rw[hA.len];exact hk
  rw[TX hl];exact ⟨(hA.row k hl).asg,fun w hw=>by omega,(hA.row k hl).idx⟩
 have e:=JM (s:=s) (φ:=fun a=>if t.getD (jc ar 0 a) 0=c then 1 else 0) (fun b b' hb iy h=>by
  have:jc ar 0 b=jc ar 0 b':=by
   have:=V4 (ar:=ar) h ar.length 0 (by omega)
   rwa [iR] at this
  simp only[this]) ar.length 0 (by omega) (fun _=>0) (fun k=>jx (css.getD k [])) (wb h1) hk
 have e2:=JM (s:=s) (φ:=fun _=>1) (fun _ _ _ _ _=>rfl) ar.length 0 (by omega) (fun _=>0) (fun k=>jx (css.getD k [])) (wb h1) hk;rw[Ff,kV] at e2
 have hF:∀ k,k < bj (ar.drop 0)->Wt s ar.length 0 (jx (css.getD k [])) * (if t.getD (jc ar 0 (jx (css.getD k []))) 0=c then 1 else 0)=um s ar t css c k:=fun k bO=>by
  have:=(hk k bO).2.2;rw[iR] at this;rw[this];unfold um;split<;>simp
 rw[tb hF,iR] at e;refine ⟨e,fun i hi=>?_⟩;refine dY (Ze hi) ?_;rw[iR] at e2;rw[e2];refine Ph fun k _=>?_;unfold um
 split
 ·simp
 ·exact kW _
end
def rG (r:List Int):IL:=⟨false,.no,r⟩
end Go.Ab
namespace Go.Ab
open Go.Proofs Go.Proofs.Tryz
theorem qj1 {x:AV} {es:List Int} {m:af} {T:List Nat} (h:GR 3 m x (es.map (AV.int .i64)) T) (hne:es≠[]):dO none [x]=some (.lst none false .full [(rG es).av]):=by
 generalize he:es.map (AV.int .i64)=bs at h
 cases h with
 | none=>exact absurd (Ag.1 he) hne
 | some t bs' ht H7=>
  subst he;have e:lV (.lst none false (.tok t 3) (es.map (AV.int .i64)))=(rG es).av:=rfl;unfold dO;simp only[n0,List.all_nil,gd,qU,e]
  rfl
structure LawOdds (ar:List Int) (L:OL):Prop where
 len:L.es.length=ar.length
 row:∀ (u:Nat) (h:u < L.es.length),(L.es[u].ns.length:Int)=ar.getD u 0
 fr:L.fr=L
section
variable {ar t:List Int} {s:Nat->Nat->Nat}
end
def RK (x:AV) (D:List (Int×RV)):Prop:=(x=au/\D=[])\/∃ o,x=.lst (some 4) false o (D.map fun p=>qJ p.1 p.2)
theorem RK.len {x:AV} {D:List (Int×RV)} (h:RK x D):aO false x=some (.int .i64 D.length):=by
 rcases h with ⟨rfl,rfl⟩ | ⟨o,rfl⟩
 ·rfl
 ·rw[o0,bX]
end Go.Ab
namespace Go.Ab
noncomputable section
open Go.Proofs.Tryz
def K3 (x3:AV) (m:af):St:=⟨(aK (aG (x3::bC (aW (aG []))))),m⟩
def Cq (x3:AV) (m:af) (K:KT):OM:=ck 45 (nD (c2 (c2 (aB f45)))) 4 (aK (aG (x3::bC (aW (aG []))))) m K
abbrev qdM (K:KT):KT:=bE 45 (bo (aB f45)) K
abbrev qdN (K:KT):KT:=bz 0 (qdM K)
abbrev Fw (K:KT):KT:=(qdN K)
theorem T45 (a0:AV) (m:af):AC ae 45 [a0] m=(dO none []).bind fun v1=>(aO false a0).bind fun v2=>(yX false v2 (.int .i64 17)).bind fun v3=>(nS none a0 none (some v3) none).bind fun v4=>(b8 none false 3 none 8 m v1 v4).bind fun r5=>(aD (AP ae) none r5.2 11 [r5.1]).bind fun r6=>(ag .other .neq r6.1 (.int .i64 0)).bind fun v7=>aw v7 (some (r5.1,r6.2)) (Cq r5.1 r6.2 (Fw (aE ae.P f45.results.toList))):=
(bm ae 45 [a0] m (fn:=f45) (c:=aB f45) qjb rfl).trans (by kernel_rfl)
theorem QW (x3:AV) (m:af) (K:KT):Cq x3 m K=(aO false x3).bind fun v1=>(ag .other .gtr v1 (.int .i64 0)).bind fun v2=>aw v2 ((aD (AP ae) none m 12 [x3,(.int .i64 100)]).bind fun r3=>(ag .other .eql r3.1 (.int .i64 0)).bind fun v4=>aw v4 ((aO false x3).bind fun v5=>(ag .other .sub v5 (.int .i64 1)).bind fun v6=>(nS none x3 none (some v6) none).bind fun v7=>Cq v7 r3.2 K) (K (.exit 0) (K3 x3 r3.2))) (K (.exit 0) (K3 x3 m)):=
(cg (bW _) _ _ _).trans (by kernel_rfl)
theorem P6 (x3:AV) (m:af):Fw (aE ae.P f45.results.toList) (.exit 0) (K3 x3 m)=some (x3,m):=by kernel_rfl
theorem T46 (m:af):AC ae 46 [] m=(gm (.agg [(.int .i64 0),au,(.int .i64 0)]) [(0,none,(.int .i64 (-1))),(2,none,(.int .i64 4))]).bind fun v1=>(dO (some 3) [v1]).bind fun v2=>(aD (AP ae) none m 23 []).bind fun r3=>(dO (some 3) [r3.1]).bind fun v4=>(gm (.agg [au,au,au,(.int .i64 0)]) [(1,none,v2),(2,none,v4),(3,none,(.int .i64 4))]).bind fun v5=>(aL (some 4) (az none r3.2 (.obj true [au,au,au,(.int .i64 0)])).2 (.ptr (az none r3.2 .resv).1 0) v5).bind fun m6=>(aj (some 4) m6 (.ptr (az none r3.2 .resv).1 0)).bind fun v7=>(aD (AP ae) none m6 53 [v7]).bind fun r8=>(aY r8.1 0).bind fun v9=>(aY r8.1 1).bind fun v10=>(aY r8.1 2).bind fun v11=>(aL (some 3) (az none r8.2 (.obj true [(.bool false),au,au])).2 (.ptr (az none r8.2 .resv).1 0) v9).bind fun m12=>(ag .other .eql v11 (.int .i64 0)).bind fun bu=>aw bu ((aj (some 3) m12 (.ptr (az none r8.2 .resv).1 0)).bind fun bq=>(aD (AP ae) (some m12.length) m12 23 []).bind fun nP=>(aD (AP ae) (some m12.length) nP.2 21 [bq,nP.1]).bind fun hZ=>some (hZ.1,hZ.2)) (some ((.bool false),m12)):=
(bm ae 46 [] m (fn:=f46) (c:=aB f46) qjc rfl).trans (by kernel_rfl)
def Rz (x5:AV) (m:af):St:=⟨(aM (aG (x5::bC (aW (aK []))))),m⟩
def zW (x0 x1 x5 x6:AV) (m:af) (K:KT):OM:=ck 47 (b9 (c2 (c2 (aB f47)))) 3 (x0::x1::aK (aG (x5::x6::bC (aW (aG []))))) m K
abbrev qdO (K:KT):KT:=bE 47 (c2 (c2 (c2 (aB f47)))) K
abbrev qdP (K:KT):KT:=bz 0 (qdO K)
abbrev Fx (K:KT):KT:=(qdP K)
theorem T47 (a0 a1:AV) (m:af):AC ae 47 [a0,a1] m=zW a0 a1 au (.int .i64 0) m (Fx (aE ae.P f47.results.toList)):=
(bm ae 47 [a0,a1] m (fn:=f47) (c:=aB f47) qjd rfl).trans (by kernel_rfl)
theorem QX (x0 x1 x5 x6:AV) (m:af) (K:KT):zW x0 x1 x5 x6 m K=(aD (AP ae) none m 12 [x0,(.int .i64 100)]).bind fun r1=>(ag .other .lss x6 r1.1).bind fun v2=>aw v2 ((aO false x1).bind fun v3=>(ag .other .gtr v3 (.int .i64 0)).bind fun v4=>aw v4 ((aO false x1).bind fun v5=>(ag .other .rem x6 v5).bind fun v6=>(aH none x1 v6).bind fun v7=>(aj none r1.2 v7).bind fun v8=>(ag .other .rem v8 (.int .i64 4)).bind fun v9=>(ag .other .add v9 (.int .i64 4)).bind fun v10=>(ag .other .rem v10 (.int .i64 4)).bind fun v11=>(dO none [v11]).bind fun v12=>(b8 none false 3 none 8 r1.2 x5 v12).bind fun fK=>(ag .other .add x6 (.int .i64 1)).bind fun bq=>zW x0 x1 fK.1 bq fK.2 K) ((ag .other .rem (.int .i64 0) (.int .i64 4)).bind fun br=>(ag .other .add br (.int .i64 4)).bind fun bT=>(ag .other .rem bT (.int .i64 4)).bind fun bH=>(dO none [bH]).bind fun fI=>(b8 none false 3 none 8 r1.2 x5 fI).bind fun pa=>(ag .other .add x6 (.int .i64 1)).bind fun v20=>zW x0 x1 pa.1 v20 pa.2 K)) (K (.exit 0) (Rz x5 r1.2)):=
(cg (bW _) _ _ _).trans (by kernel_rfl)
theorem qdQ (x5:AV) (m:af):Fx (aE ae.P f47.results.toList) (.exit 0) (Rz x5 m)=some (x5,m):=by kernel_rfl
def K4 (x5:AV) (m:af):St:=⟨(aM (aG (x5::bI (aM (aK (aG [])))))),m⟩
def Cr (x1 x5 x6 aN aX aV:AV) (m:af) (K:KT):OM:=ck 48 (b9 (c2 (c2 (c2 (aB f48))))) 4 (aG (x1::aK (aG (x5::x6::aM (aG (aN::aX::aV::bC (aW (aM (aK []))))))))) m K
def GV (x1 x5 x6 x9 aN aX aV:AV) (m:af):St:=⟨(aG (x1::aK (aG (x5::x6::aK (x9::aK (aN::aX::aV::bC (aW (aM (aK []))))))))),m⟩
def xG (x1 x5 x6 x8 x9 aF aN aX aV:AV) (m:af) (K:KT):OM:=ck 48 (b9 (kY (kY (pE (c2 (aB f48)))))) 8 (aG (x1::aK (aG (x5::x6::aG (x8::x9::aF::aG (aN::aX::aV::bC (aW (aM (aK []))))))))) m K
abbrev qdR (K:KT):KT:=bE 48 (bo (aB f48)) K
abbrev qdS (K:KT):KT:=bz 0 (qdR K)
abbrev Fy (K:KT):KT:=(qdS K)
abbrev qdU (K:KT):KT:=bE 48 (kZ (mD (c2 (c2 (aB f48))))) (nQ 48 (b9 (c2 (c2 (c2 (aB f48))))) 4 K)
abbrev qdV (K:KT):KT:=bz 1 (qdU K)
abbrev qdW (K:KT):KT:=bE 48 (kZ (yb (mD (c2 (c2 (aB f48)))))) (qdV K)
abbrev qdX (K:KT):KT:=bz 2 (qdW K)
abbrev FB (K:KT):KT:=(qdX K)
theorem T48 (a0 a1:AV) (m:af):AC ae 48 [a0,a1] m=(aO false a0).bind fun v1=>Cr a1 au (.int .i64 0) a0 v1 (.int .i64 0) m (Fy (aE ae.P f48.results.toList)):=
(bm ae 48 [a0,a1] m (fn:=f48) (c:=aB f48) qje rfl).trans (by kernel_rfl)
theorem QY (x1 x5 x6 aN aX aV:AV) (m:af) (K:KT):Cr x1 x5 x6 aN aX aV m K=(ag .other .lss aV aX).bind fun v1=>aw v1 ((aH none aN aV).bind fun v2=>(aj none m v2).bind fun v3=>xG x1 x5 x6 v3 au (.int .i64 0) aN aX aV m (FB K)) (K (.exit 0) (K4 x5 m)):=
(cg (bW _) _ _ _).trans (by kernel_rfl)
theorem Ks (x1 x5 x6 x8 x9 aF aN aX aV:AV) (m:af) (K:KT):xG x1 x5 x6 x8 x9 aF aN aX aV m K=(ag .other .lss aF x8).bind fun v1=>aw v1 ((aO false x1).bind fun v2=>(ag .other .gtr v2 (.int .i64 0)).bind fun v3=>aw v3 ((aO false x1).bind fun v4=>(ag .other .rem x6 v4).bind fun v5=>(aH none x1 v5).bind fun v6=>(aj none m v6).bind fun v7=>(ag .other .add x6 (.int .i64 1)).bind fun v8=>(dO none [v7]).bind fun v9=>(b8 none false 3 none 8 m x9 v9).bind fun hJ=>(ag .other .add aF (.int .i64 1)).bind fun v11=>xG x1 x5 v8 x8 hJ.1 v11 aN aX aV hJ.2 K) ((dO none [(.int .i64 1)]).bind fun v12=>(b8 none false 3 none 8 m x9 v12).bind fun fK=>(ag .other .add aF (.int .i64 1)).bind fun bq=>xG x1 x5 x6 x8 fK.1 bq aN aX aV fK.2 K)) (K (.exit 2) (GV x1 x5 x6 x9 aN aX aV m)):=
(cg (bW _) _ _ _).trans (by kernel_rfl)
theorem qdT (x5:AV) (m:af):Fy (aE ae.P f48.results.toList) (.exit 0) (K4 x5 m)=some (x5,m):=by kernel_rfl
theorem qdY (x1 x5 x6 x9 aN aX aV:AV) (m:af) (K:KT):FB K (.exit 2) (GV x1 x5 x6 x9 aN aX aV m)=(dO none [x9]).bind fun v1=>(b8 none false 22 none 24 m x5 v1).bind fun r2=>(ag .other .add aV (.int .i64 1)).bind fun v3=>Cr x1 r2.1 x6 aN aX v3 r2.2 K:=by kernel_rfl
def K5 (x7 x9:AV) (m:af):St:=⟨(aM (aK (aG (x7::aG (x9::bI (aK [])))))),m⟩
def Cs (x7 x9 bU cD iJ:AV) (m:af) (K:KT):OM:=ck 49 (b9 (bo (aB f49))) 6 (aM (aK (aG (x7::aG (x9::aW (aM (aG (bU::cD::iJ::bC (aK []))))))))) m K
abbrev qdZ (K:KT):KT:=bE 49 (bo (c2 (aB f49))) K
abbrev qd0 (K:KT):KT:=bz 0 (qdZ K)
abbrev FC (K:KT):KT:=(qd0 K)
theorem T49 (a0 a1:AV) (m:af):AC ae 49 [a0,a1] m=(AC ae 32 [a0] m).bind fun r1=>(aY r1.1 0).bind fun v2=>(aY r1.1 1).bind fun v3=>(ag .other .neq v3 (.int .i64 0)).bind fun v4=>aw v4 (some ((.tup [.nilp,(.int .i64 0),(.bool false)]),r1.2)) ((aD (AP ae) none r1.2 31 [a0,a1]).bind fun r5=>(aO false r5.1).bind fun v6=>Cs v2 au r5.1 v6 (.int .i64 0) r5.2 (FC (aE ae.P f49.results.toList))):=
(bm ae 49 [a0,a1] m (fn:=f49) (c:=aB f49) qjf rfl).trans (by kernel_rfl)
theorem QZ (x7 x9 bU cD iJ:AV) (m:af) (K:KT):Cs x7 x9 bU cD iJ m K=(ag .other .lss iJ cD).bind fun v1=>aw v1 ((aH (some 3) bU iJ).bind fun v2=>(aj (some 3) m v2).bind fun v3=>(aL (some 3) (az none m (.obj true [(.int .i64 0),au,(.int .i64 0)])).2 (.ptr (az none m .resv).1 0) v3).bind fun m4=>(aj (some 3) m4 (.ptr (az none m .resv).1 0)).bind fun v5=>(dO (some 3) [v5]).bind fun v6=>(b8 none false 74 (some 3) 40 m4 x9 v6).bind fun r7=>(ag .other .add iJ (.int .i64 1)).bind fun v8=>Cs x7 r7.1 bU cD v8 r7.2 K) (K (.exit 0) (K5 x7 x9 m)):=
(cg (bW _) _ _ _).trans (by kernel_rfl)
theorem qd1 (x7 x9:AV) (m:af):FC (aE ae.P f49.results.toList) (.exit 0) (K5 x7 x9 m)=(AC ae 44 [x7,x9] m).bind fun r1=>(aY r1.1 0).bind fun v2=>(aY r1.1 1).bind fun v3=>(ag .other .eql v3 (.int .i64 0)).bind fun v4=>some ((.tup [x7,v2,v4]),r1.2):=by kernel_rfl
def K6 (x8 aN:AV) (m:af):St:=⟨(aW (x8::aK (aG (aN::bI (bC (aM [])))))),m⟩
def Cu (x3 x8 aN E9 Fa BV:AV) (m:af) (K:KT):OM:=ck 50 (b9 (bo (c2 (aB f50)))) 9 (aK (aG (x3::aM (x8::aK (aG (aN::bI (E9::Fa::BV::bC (aG [])))))))) m K
abbrev qd2 (K:KT):KT:=bE 50 (bo (c2 (c2 (aB f50)))) K
abbrev qd3 (K:KT):KT:=bz 0 (qd2 K)
abbrev FD (K:KT):KT:=(qd3 K)
theorem T50 (a0 a1 a2 a3:AV) (m:af):AC ae 50 [a0,a1,a2,a3] m=(AC ae 17 [a0,a1,a2] (az none m (.obj true [au,au,au,(.int .i64 0)])).2).bind fun r1=>(aY r1.1 0).bind fun v2=>(aY r1.1 1).bind fun v3=>(ag .other .neq v3 (.int .i64 0)).bind fun v4=>aw v4 ((gm (.agg [au,au,au,(.int .i64 0)]) []).bind fun v5=>(aL (some 4) r1.2 (.ptr (az none m .resv).1 0) v5).bind fun m6=>(aj (some 4) m6 (.ptr (az none m .resv).1 0)).bind fun v7=>some ((.tup [v7,v3]),m6)) ((ag .other .lss a3 (.int .i64 0)).bind fun v8=>aw v8 ((gm (.agg [au,au,au,(.int .i64 0)]) []).bind fun v9=>(aL (some 4) r1.2 (.ptr (az none m .resv).1 0) v9).bind fun m10=>(aj (some 4) m10 (.ptr (az none m .resv).1 0)).bind fun v11=>some ((.tup [v11,(.int .i64 1)]),m10)) ((ag .other .gtr a3 (.int .i64 2147483647)).bind fun v12=>aw v12 ((gm (.agg [au,au,au,(.int .i64 0)]) []).bind fun bu=>(aL (some 4) r1.2 (.ptr (az none m .resv).1 0) bu).bind fun m14=>(aj (some 4) m14 (.ptr (az none m .resv).1 0)).bind fun br=>some ((.tup [br,(.int .i64 1)]),m14)) ((aD (AP ae) none r1.2 109 [a2]).bind fun hZ=>(gm (.agg [au,au,au,(.int .i64 0)]) [(0,none,hZ.1),(3,none,a3)]).bind fun bH=>(aL (some 4) (az none hZ.2 (.obj true [au,au,au,(.int .i64 0)])).2 (.ptr (az none hZ.2 .resv).1 0) bH).bind fun m18=>(AC ae 43 [a0,a1] m18).bind fun pa=>(aY pa.1 0).bind fun v20=>(aY pa.1 1).bind fun v21=>(aT 1 (.ptr (az none hZ.2 .resv).1 0)).bind fun v22=>(aL none pa.2 v22 v20).bind fun m23=>(aT 1 (.ptr (az none hZ.2 .resv).1 0)).bind fun v24=>(aj none m23 v24).bind fun v25=>(aO false v25).bind fun v26=>Cu a3 (.ptr (az none m .resv).1 0) (.ptr (az none hZ.2 .resv).1 0) v25 v26 (.int .i64 0) m23 (FD (aE ae.P f50.results.toList))))):=
(bm ae 50 [a0,a1,a2,a3] m (fn:=f50) (c:=aB f50) qjg rfl).trans (by kernel_rfl)
theorem Q0 (x3 x8 aN E9 Fa BV:AV) (m:af) (K:KT):Cu x3 x8 aN E9 Fa BV m K=(ag .other .lss BV Fa).bind fun v1=>aw v1 ((aH (some 3) E9 BV).bind fun v2=>(aj (some 3) m v2).bind fun v3=>(aL (some 3) (az none m (.obj true [(.int .i64 0),au,(.int .i64 0)])).2 (.ptr (az none m .resv).1 0) v3).bind fun m4=>(aT 2 aN).bind fun v5=>(aj none m4 v5).bind fun v6=>(aT 0 aN).bind fun v7=>(aj none m4 v7).bind fun v8=>(aj (some 3) m4 (.ptr (az none m .resv).1 0)).bind fun v9=>(aT 2 aN).bind fun v10=>(aj none m4 v10).bind fun v11=>(AC ae 110 [v8,v9,x3,v11] m4).bind fun kf=>tW ((aj none kf.2 v5).bind (fun v=>some (v,kf.2))=some (v6,kf.2)) ((dO (some 3) [kf.1]).bind fun bu=>(b8 none true 43 (some 3) 56 kf.2 v6 bu).bind fun jK=>(aT 2 aN).bind fun br=>(aL none jK.2 br jK.1).bind fun m16=>(ag .other .add BV (.int .i64 1)).bind fun bH=>Cu x3 x8 aN E9 Fa bH m16 K)) (K (.exit 0) (K6 x8 aN m)):=
(cg (bW _) _ _ _).trans (by kernel_rfl)
theorem qd4 (x8 aN:AV) (m:af):FD (aE ae.P f50.results.toList) (.exit 0) (K6 x8 aN m)=(aj (some 4) m aN).bind fun v1=>(aL (some 4) m x8 v1).bind fun m2=>(aj (some 4) m2 x8).bind fun v3=>some ((.tup [v3,(.int .i64 0)]),m2):=by kernel_rfl
def Kw (x3:AV) (m:af):St:=⟨(aK (aG (x3::bC (aK (aG []))))),m⟩
def Ce (x3 x9 aF aZ:AV) (m:af) (K:KT):OM:=ck 109 (b9 (c2 (c2 (aB f109)))) 3 (aK (aG (x3::aM (aG (x9::aF::aZ::aW (aK (aG []))))))) m K
abbrev qax (K:KT):KT:=bE 109 (c2 (c2 (c2 (aB f109)))) K
abbrev qay (K:KT):KT:=bz 0 (qax K)
abbrev Fh (K:KT):KT:=(qay K)
theorem qfE (a0:AV) (m:af):AC ae 109 [a0] m=(aO false a0).bind fun v1=>(iP none 22 none au 24 m v1 v1).bind fun r2=>(aO false a0).bind fun v3=>Ce r2.1 a0 v3 (.int .i64 0) r2.2 (Fh (aE ae.P f109.results.toList)):=
(bm ae 109 [a0] m (fn:=f109) (c:=aB f109) qhX rfl).trans (by kernel_rfl)
theorem Qb (x3 x9 aF aZ:AV) (m:af) (K:KT):Ce x3 x9 aF aZ m K=(ag .other .lss aZ aF).bind fun v1=>aw v1 ((aH none x9 aZ).bind fun v2=>(aj none m v2).bind fun v3=>(aD (AP ae) none m 88 [v3]).bind fun r4=>(aH none x3 aZ).bind fun v5=>(aL none r4.2 v5 r4.1).bind fun m6=>(ag .other .add aZ (.int .i64 1)).bind fun v7=>Ce x3 x9 aF v7 m6 K) (K (.exit 0) (Kw x3 m)):=
(cg (bW _) _ _ _).trans (by kernel_rfl)
theorem qaz (x3:AV) (m:af):Fh (aE ae.P f109.results.toList) (.exit 0) (Kw x3 m)=some (x3,m):=by kernel_rfl
end
end Go.Ab
namespace Go.Ab
open Go.Proofs Go.Proofs.Tryz
def Mz (r:List Int):Prop:=om r=0->ml 100 1 r≠0
theorem SJ:∀ (n:Nat) (r:List Int) (o:Own) (m:af),r.length=n->om r=0->∃ o' r' m',Cq (IA false o r) m (Fw (aE ae.P f45.results.toList))=some (IA false o' r',m')/\om r'=0/\ml 100 1 r'≠0
 | 0,r,o,m,hn,hr=>by
  obtain rfl:r=[]:=oN hn;refine ⟨o,[],m,?_,hr,by decide⟩;rw[QW,iE,aa,ir,aa,aA,ai (by simp),P6]
 | n+1,r,o,m,hn,hr=>by
  obtain ⟨h1,h2⟩:=xV hr;rw[QW,iE,aa,ir,aa,aA,an (by omega),Ev _ _ _ h1 h2 100 (by omega),aa,iS,aa,aA]
  by_cases hp:ml 100 1 r=0
  ·rw[an hp,aa,oY (by omega) (by omega),aa,Pa _ _ _ _ _ (by omega),aa];refine SJ n (r.take (r.length - 1)) .no m (by rw[jP];omega) ?_;unfold om;rw[ai (by rw[jP];omega),an];exact ga.2 fun a ha=>dD (h2 a (List.take_subset _ _ ha))
  ·rw[ai hp,P6];exact ⟨o,r,m,rfl,hr,hp⟩
theorem qgP (z:Bool) (o:Own) (ns:List Int):∃ o' r,AP ae 45 [IA z o ns]=some (IA false o' r)/\Mz r/\r.length<=17/\(o'=.no\/o'=.full):=by
 have key:∃ o' r m',AC ae 45 [IA z o ns] []=some (IA false o' r,m')/\Mz r/\r.length<=17:=by
  have yC:yX false (.int .i64 ns.length) (.int .i64 17)=some (.int .i64 (min ns.length 17:Nat)):=by
   simp only[yX,bw,jX,me];congr 2;split<;>omega
  obtain ⟨o1,m1,ha,_,_⟩:=qhN [] z .no (ns.take (min ns.length 17)) (by rw[jP];omega)
  have e0:AC ae 45 [IA z o ns] []=aw (.bool (decide (om (ns.take (min ns.length 17))≠0))) (some (IA false o1 (ns.take (min ns.length 17)),m1)) (Cq (IA false o1 (ns.take (min ns.length 17))) m1 (Fw (aE ae.P f45.results.toList))):=by
   rw[T45,show dO none []=some (.lst none false .full []) from rfl,aa,iE,aa,yC,aa,Pa _ _ _ _ _ (by omega),aa,ha,aa,XS,aa,jg,aa]
  rw[e0,aA]
  by_cases hz:om (ns.take (min ns.length 17))≠0
  ·rw[an hz];exact ⟨_,_,_,rfl,fun h=>absurd h hz,by rw[jP];omega⟩
  ·rw[ai hz];obtain ⟨o',r',m',e,h1,h2⟩:=SJ _ _ o1 m1 rfl (Decidable.not_not.1 hz);exact ⟨o',r',m',e,fun _=>h2,by have:=(xV h1).1;omega⟩
 obtain ⟨o',r,m',e,h1,h2⟩:=key
 refine ⟨o'.fr,r,?_,h1,h2,?_⟩
 ·unfold AP jG;rw[e,aa,mG false o' r m',aa]
  rfl
 ·cases o'<;>simp[Own.fr]
theorem qkK {r:List Int} (hg:Mz r) (he:om r=0):ml 100 1 r=(bj r:Nat)/\bj r<=100:=by
 obtain ⟨_,h2⟩:=xV he;have:=X5 r 1 (fun a ha=>(h2 a ha).1) (by omega) (by omega) (hg he);rw[Int.one_mul] at this;exact ⟨this.1,by omega⟩
theorem I4 (tk:TK) (a:Int):ag tk .rem (.int .i64 a) (.int .i64 4)=some (.int .i64 (a.tmod 4)):=by cases tk<;>rfl
theorem W47 {z zl:Bool} {o ol:Own} {ar l:List Int} (h1:ar.length<=16) (h2:∀ a∈ar,1<=a/\a<=64) {N:Nat} (hN:ml 100 1 ar=N) (AM:N<=100):∀ (j i:Nat) (m:af) (x:AV) (t:List Int) (T:List Nat),i+j=N->GR 3 m x (t.map (AV.int .i64)) T->t.length=i->(∀ y∈t,0<=y/\y<=3) ->
  ∃ (m':af) (x':AV) (t':List Int) (T':List Nat),zW (IA z o ar) (IA zl ol l) x (.int .i64 i) m (Fx (aE ae.P f47.results.toList))=some (x',m')/\GR 3 m' x' (t'.map (AV.int .i64)) T'/\t'.length=N/\∀ y∈t',0<=y/\y<=3:=by
 intro j
 induction j with
 | zero=>
  intro i m x t T hi h ht hy;refine ⟨m,x,t,T,?_,h,by omega,hy⟩;rw[QX,Ev _ _ _ h1 h2 100 (by omega),aa,hN,cX,aa,aA,ai (by omega),qdQ]
 | succ j ih=>
  intro i m x t T hi h ht hy
  have nx:∀ (y:Int),∃ (m':af) (x':AV) (t':List Int) (T':List Nat),((b8 none false 3 none 8 m x (.lst none false .full [.int .i64 ((IntKind.wrap .i64 (y.tmod 4+4)).tmod 4)])).bind fun fK=>zW (IA z o ar) (IA zl ol l) fK.1 (.int .i64 (i+1:Nat)) fK.2 (Fx (aE ae.P f47.results.toList)))=some (x',m')/\GR 3 m' x' (t'.map (AV.int .i64)) T'/\t'.length=N/\∀ y∈t',0<=y/\y<=3:=fun y=>by
   obtain ⟨x1,m1,T1,ea,g1,_,_⟩:=AJ (b:=8) h (by rw[bX];omega) (by omega) (.int .i64 ((IntKind.wrap .i64 (y.tmod 4+4)).tmod 4));rw[ea,aa]
   have hb:0<=(IntKind.wrap .i64 (y.tmod 4+4)).tmod 4/\(IntKind.wrap .i64 (y.tmod 4+4)).tmod 4<=3:=by
    have a1:=Int.tmod_lt_of_pos y (show (0:Int) < 4 by omega)
    have a2:-4 < y.tmod 4:=by
     have hd:=Int.tmod_add_mul_tdiv y 4
     rcases Int.le_total 0 y with h0 | h0
     ·have:=Int.tmod_nonneg (a:=y) 4 h0;omega
     ·have e:(-y).tmod 4=-(y.tmod 4):=Int.neg_tmod ..;have:=Int.tmod_lt_of_pos (-y) (show (0:Int) < 4 by omega);omega
    rw[iQ (by omega) (by omega)];have b1:=Int.tmod_lt_of_pos (y.tmod 4+4) (show (0:Int) < 4 by omega);have b2:=Int.tmod_nonneg (a:=y.tmod 4+4) 4 (by omega);omega
   have g2:GR 3 m1 x1 ((t++[(IntKind.wrap .i64 (y.tmod 4+4)).tmod 4]).map (AV.int .i64)) T1:=by
    rw[kU];exact g1
   exact ih (i+1) m1 x1 _ T1 (by omega) g2 (by simp[ht]) fun k hk=>by
    rcases il.1 hk with hk | hk
    ·exact hy k hk
    ·obtain rfl:k=_:=by simpa using hk
     exact hb
  rw[QX,Ev _ _ _ h1 h2 100 (by omega),aa,hN,cX,aa,aA,an (by omega),iE,aa,ir,aa,aA]
  by_cases hl:(l.length:Int) > 0
  ·rw[an hl,aa,Om (by omega),aa,jB (jY _ (by omega)),aa,fV,aa,I4,aa,kX,aa,I4,aa,rh,aa];simp only[cB (show i+1 < 9223372036854775808 by omega)];exact nx _
  ·rw[ai hl,I4,aa,kX,aa,I4,aa,rh,aa];simp only[cB (show i+1 < 9223372036854775808 by omega)];exact nx _
theorem V47 (z zl:Bool) (o ol:Own) (ar l:List Int) (h1:ar.length<=16) (h2:∀ a∈ar,1<=a/\a<=64) {N:Nat} (hN:ml 100 1 ar=N) (AM:N<=100):∃ (z':Bool) (o':Own) (t:List Int),AP ae 47 [IA z o ar,IA zl ol l]=some (IA z' o' t)/\(z'=true->t=[])/\t.length=N/\∀ y∈t,0<=y/\y<=3:=by
 obtain ⟨m',x',t,T',e,g,ht,hy⟩:=W47 (z:=z) (zl:=zl) (o:=o) (ol:=ol) (l:=l) h1 h2 hN AM N 0 [] au [] [] (by omega) .none rfl (by simp);obtain ⟨z',o',rfl,hz⟩:=Dw g;refine ⟨z',o'.fr,t,?_,fun h=>Ag.1 (hz h),ht,hy⟩;refine iK (m:=m') (v:=IA z' o' t) (l:=[]) ?_ (mG z' o' t m') rfl;rw[T47];exact e
theorem X48 {z zl:Bool} {o ol:Own} {l:List Int} {n:Nat} (hn:n<=64) (x5 aN aX aV:AV) (K:KT):∀ (j i:Nat) (m:af) (x:AV) (es:List Int) (T:List Nat) (at':Nat),i+j=n->at'+64<=100000+i->GR 3 m x (es.map (AV.int .i64)) T->es.length=i ->
  ∃ (m':af) (x':AV) (es':List Int) (T':List Nat) (a':Nat),xG (IA zl ol l) x5 (.int .i64 at') (.int .i64 n) x (.int .i64 i) aN aX aV m K=K (.exit 2) (GV (IA zl ol l) x5 (.int .i64 a') x' aN aX aV m')/\GR 3 m' x' (es'.map (AV.int .i64)) T'/\es'.length=n/\a'<=at'+j/\Fr m m' T/\Gr m T T':=by
 intro j
 induction j with
 | zero=>
  intro i m x es T a hi ha hx he;refine ⟨m,x,es,T,a,?_,hx,by omega,by omega,Fr.refl _ _,Gr.refl _ _⟩;rw[Ks,bh,aa,aA,ai (by omega)]
 | succ j ih=>
  intro i m x es T a hi ha hx he
  have go:∀ (v:Int) (a2:Nat),a2<=a+1->∃ (m':af) (x':AV) (es':List Int) (T':List Nat) (a':Nat),((dO none [.int .i64 v]).bind fun v9=>(b8 none false 3 none 8 m x v9).bind fun hJ=>(ag .other .add (.int .i64 (i:Nat)) (.int .i64 1)).bind fun v11=>xG (IA zl ol l) x5 (.int .i64 a2) (.int .i64 n) hJ.1 v11 aN aX aV hJ.2 K)=K (.exit 2) (GV (IA zl ol l) x5 (.int .i64 a') x' aN aX aV m')/\GR 3 m' x' (es'.map (AV.int .i64)) T'/\es'.length=n/\a'<=a+(j+1)/\Fr m m' T/\Gr m T T':=by
   intro v a2 Dz;obtain ⟨x2,m2,T2,ea,g2,f2,gg2⟩:=AJ (b:=8) hx (by simp;omega) (by omega) (.int .i64 v);obtain ⟨m',x',es',T',a',e,k1,k2,k3,k4,k5⟩:=ih (i+1) m2 x2 (es++[v]) T2 a2 (by omega) (by omega) (by rw[kU];exact g2) (by simp[he]);refine ⟨m',x',es',T',a',?_,k1,k2,by omega,Fr.trans f2 k4 gg2,Gr.trans f2.len gg2 k5⟩;rw[rh,aa,ea,aa,cB (by omega),aa];exact e
  by_cases hl:0 < l.length
  ·have hlt:a % l.length < l.length:=jY _ hl;obtain ⟨m',x',es',T',a',e,k⟩:=go l[a % l.length] (a+1) (aQ _);refine ⟨m',x',es',T',a',?_,k⟩;have ia1:ag .other .add (.int .i64 (a:Nat)) (.int .i64 1)=some (.int .i64 (a+1:Nat)):=cB (by omega);rw[Ks,bh,aa,aA,an (by omega),iE,aa,ir,aa,aA,an (by omega),aa,Om (by omega),aa,jB hlt,aa,fV,aa,ia1,aa];exact e
  ·obtain ⟨m',x',es',T',a',e,k⟩:=go 1 a (by omega);refine ⟨m',x',es',T',a',?_,k⟩;rw[Ks,bh,aa,aA,an (by omega),iE,aa,ir,aa,aA,ai (by omega)];exact e
theorem qhr {z zl:Bool} {o ol:Own} {l ar:List Int} (h1:∀ x∈ar,1<=x/\x<=64) (cH:ar.length<=16) (K:KT):∀ (Q P:List Int) (m:af) (x:AV) (rows:List (List Int)) (T:List Nat) (a:Nat),ar=P++Q->a<=64 * P.length->GR 22 m x (rows.map fun r=>(rG r).av) T->rows.map (fun r=>(r.length:Int))=P ->
  ∃ (m':af) (x':AV) (rows':List (List Int)) (T':List Nat),Cr (IA zl ol l) x (.int .i64 a) (IA z o ar) (.int .i64 ar.length) (.int .i64 P.length) m K=K (.exit 0) (K4 x' m')/\GR 22 m' x' (rows'.map fun r=>(rG r).av) T'/\rows'.map (fun r=>(r.length:Int))=ar:=by
 intro Q
 induction Q with
 | nil=>
  intro P m x rows T a oT ha hx hr;rw[cm] at oT;subst oT;refine ⟨m,x,rows,T,?_,hx,hr⟩;rw[QY,bh,aa,aA,ai (by omega)]
 | cons n Q ih=>
  intro P m x rows T a oT ha hx hr;have pG:P.length < ar.length:=by rw[oT];simp
  have hn:=h1 n (by rw[oT];simp);obtain ⟨k,rfl⟩:=nA (show 0<=n by omega)
  have ix:aH none (IA z o ar) (.int .i64 P.length)=some (.vptr [.int .i64 (k:Nat)]):=by
   rw[jB pG];congr 3;simp[oT]
  obtain ⟨m1,x1,es,T1,a1,e8,g1,l1,ha1,f1,gr1⟩:=X48 (z:=z) (zl:=zl) (o:=o) (ol:=ol) (l:=l) (n:=k) (by omega) x (IA z o ar) (.int .i64 ar.length) (.int .i64 P.length) (FB K) k 0 m au [] [] a (by omega) (by omega) .none rfl;have hx1:GR 22 m1 x (rows.map fun r=>(rG r).av) T:=Dv hx fun q hq=>f1.get q (AK hx q hq) (by simp);have Ba:rows.length=P.length:=by rw[<- hr,bX]
  obtain ⟨x2,m2,T2,ea,g2,f2,gg2⟩:=AJ (b:=24) hx1 (by simp;omega) (by omega) (rG es).av;obtain ⟨m',x',rows',T',e,k1,k2⟩:=ih (P++[(k:Int)]) m2 x2 (rows++[es]) T2 a1 (by rw[oT,gA];rfl) (by rw[aI,tn];omega) (by rw[kU];exact g2) (by rw[kU,hr,gd,qU,l1]);refine ⟨m',x',rows',T',?_,k1,k2⟩;rw[aI,tn] at e;have e8:xG (IA zl ol l) x (.int .i64 a) (.int .i64 (k:Nat)) au (.int .i64 0) (IA z o ar) (.int .i64 ar.length) (.int .i64 P.length) m (FB K)=_:=e8;rw[QY,bh,aa,aA,an (by omega),ix,aa,fV,aa];rw[e8,qdY,qj1 g1 (by intro h;rw[h] at l1;simp at l1;omega),aa,ea,aa,cB (by omega),aa];exact e
theorem qgQ (z zl:Bool) (o ol:Own) {ar:List Int} (h1:∀ x∈ar,1<=x/\x<=64) (cH:ar.length<=16) (l:List Int):∃ L:OL,AP ae 48 [IA z o ar,IA zl ol l]=some L.av/\LawOdds ar L/\∀ r∈L.es,r.z=false:=by
 obtain ⟨m',x',rows,T,e,g,hr⟩:=qhr (z:=z) (zl:=zl) (o:=o) (ol:=ol) (l:=l) h1 cH (Fy (aE ae.P f48.results.toList)) ar [] [] au [] [] 0 rfl (by simp) .none rfl;have e:Cr (IA zl ol l) au (.int .i64 0) (IA z o ar) (.int .i64 ar.length) (.int .i64 0) [] (Fy (aE ae.P f48.results.toList))=_:=e
 have e16:AC ae 48 [IA z o ar,IA zl ol l] []=some (x',m'):=by
  rw[T48,iE,aa,e,qdT]
 obtain ⟨z',o',rfl,hz⟩:=Dw g
 have lo:∀ o2,LawOdds ar ⟨z',(o2:Own).fr,rows.map rG⟩:=fun o2=>by
  have hl:rows.length=ar.length:=by rw[<- hr,bX]
  refine ⟨by simp[hl],fun u hu=>?_,?_⟩
  ·have hur:u < rows.length:=by simpa using hu
   have:(ar.getD u 0)=(rows[u].length:Int):=by
    rw[<- hr,aS,oO,bD hur];rfl
   rw[this];simp[rG]
  ·unfold Pq.OL.fr;cases o2<;>rfl
 refine ⟨⟨z',o'.fr,rows.map rG⟩,?_,lo o',by simp[rG]⟩
 have ou:Pq.OL.av ⟨z',o'.fr,rows.map rG⟩=.lst none z' o'.fr (rows.map fun r=>(rG r).av):=by
  unfold Pq.OL.av;rw[rW];rfl
 rw[ou];exact iK (m:=m') (l:=[]) e16 (by cases o'<;>rfl) rfl
end Go.Ab
namespace Go.Ab
open Go.Proofs Go.Proofs.Tryz
theorem Pd {m:af} {a b c a' b' c':AV} (hs:c9 (some 3) (.agg [a',b',c'])=true):aL (some 3) (m++[some (Ent.obj true [a,b,c])]) (.ptr m.length 0) (.agg [a',b',c'])=some (m++[some (Ent.obj true [a',b',c'])]):=by
 rw[qL,bJ rfl,kD,aa];simp[cS,Sh.size,hs,bP,AV.cells]
theorem qnD {e:Nat} {m:af} {x:AV} {l:List ND} {T:List Nat} (h:NR e m x l T) (hl:l.length<=100000) (n:ND):∃ x' m' T',b8 (some m.length) false e (some 3) 40 (m++[some Ent.resv]) x (.lst (some 3) false .full [n.av])=some (x',m')/\NR e m' x' (l++[n]) T'/\Fr m m' T/\Gr m T T':=by
 have h2:(l.length+1) * 40<=gG:=by unfold gG;omega
 cases h with
 | none=>
  refine ⟨.lst (some 3) false (.tok m.length e) [n.av],(m++[some Ent.resv]).set m.length (some (Ent.tok 1 3)),[m.length],?_,.some _ [n] (by simp (disch:=(first | assumption | omega | (simp only[aI,a8,aJ,aP];first | done | omega))) only[gM,bY,bJ,cG,c8];first | done | rfl),(Fr.app m _ _).set _ (.inr (aQ _)),fun k hk=>?_⟩
  ·have h2:40<=gG:=by unfold gG;omega
   simp[b8,h2,az,Sh.size]
  ·obtain rfl:k=m.length:=by simpa using hk
   exact .inr (aQ _)
 | some t es ht=>
  have gy:=bF ht;have wT:af.get (m++[some Ent.resv]) t=some (.tok l.length 3):=by rw[bY gy];exact ht
  refine ⟨.lst (some 3) false (.tok t e) (l.map ND.av++[n.av]),(m++[some Ent.resv]).set t (some (Ent.tok (l.length+1) 3)),[t],?_,?_,(Fr.app m _ [t]).set _ (.inl (by simp)),Gr.refl _ _⟩
  ·simp[b8,wT,Sh.size,h2]
  ·have e3:l.map ND.av++[n.av]=(l++[n]).map ND.av:=by simp
   rw[e3];refine .some t (l++[n]) ?_;rw[c8 rfl (by simp;omega),aI];rfl
theorem qk7 (a b:Int) (z:Bool) (o:Own) (ks:List AV):Fz (.agg [.int .i64 a,.lst none z o ks,.int .i64 b]) (.agg [.int .i64 a,qh (.lst none z o ks),.int .i64 b]):=fun m=>by cases o<;>rfl
theorem qnF {e:Nat} {m:af} {x:AV} {l:List ND} {T:List Nat} (h:NR e m x l T):∃ sh z o es,x=.lst sh z o es:=by
 cases h with
 | none=>exact ⟨_,_,_,_,rfl⟩
 | some t l ht=>exact ⟨_,_,_,_,rfl⟩
theorem PN {m:af} {b q:Nat} {arms x:AV} {L:List ND} {T:List Nat} {n:ND} {z:Bool} {o:Own} (pZ:m.get b=some (.obj true [arms,x])) (h:NR 146 m x L T) (sr:b∉T) (Nt:q≠b) (vk:q∉T) (hq:m.get q=some (.obj true [.int .i64 n.var,.lst none z o (n.kids.map (AV.int .i64)),.int .i64 n.leaf]))
  (hk:qh (.lst none z o (n.kids.map (AV.int .i64)))=dP n) (hn:n.ok) (hL:∀ y∈L,y.ok) (hl:L.length<=100000) :
  ∃ (m':af) (x':AV) (T':List Nat),uw (.ptr b 0) (.ptr q 0) x (.int .i64 L.length) (.int .i64 0) m (tm (aE ae.P f91.results.toList))=some (.int .i64 (L.idxOf n:Nat),m')/\m'.get b=some (.obj true [arms,x'])/\NR 146 m' x' (ji L n) T'/\Fr m m' (b::T)/\Gr m T T'/\b∉T':=by
 have pH:=bF pZ;have Ie:=bF hq;have ou:AV.agg [.int .i64 n.var,dP n,.int .i64 n.leaf]=n.av:=rfl
 have W:∀ (j i:Nat) (m1:af),i+j=L.length->(∀ t (ht:t < L.length),t < i->L[t]≠n)->Fr m m1 [] ->
   ∃ m2,uw (.ptr b 0) (.ptr q 0) x (.int .i64 L.length) (.int .i64 i) m1 (tm (aE ae.P f91.results.toList))=(if n∈L then some (.int .i64 (L.idxOf n:Nat),m2) else tm (aE ae.P f91.results.toList) (.exit 4) (Lj (.ptr b 0) (.ptr q 0) m2))/\Fr m m2 []:=by
  intro j
  induction j with
  | zero=>
   intro i m1 hi hne f
   have p6:n∉L:=fun hm=>by
    obtain ⟨t,ht,e⟩:=pv hm;exact hne t ht (by omega) e
   refine ⟨m1,?_,f⟩;rw[Rh,bh,aa,aA,ai (by omega),ai p6]
  | succ j ih=>
   intro i m1 hi hne f;have b6:i < L.length:=by omega
   have nb:=qnE h b6;have bxi:=Hn L[i] m1 (HN m1);have f2:Fr m (m1++[some (Ent.obj true [.int .i64 L[i].var,dP L[i],.int .i64 L[i].leaf])]) []:=f.snoc _;have gq:af.get (m1++[some (Ent.obj true [.int .i64 L[i].var,dP L[i],.int .i64 L[i].leaf])]) q=_:=(f2.get q Ie (by simp)).trans hq
   have ld1:aj (some 3) (m1++[some (Ent.obj true [.int .i64 L[i].var,dP L[i],.int .i64 L[i].leaf])]) (.ptr q 0)=some (.agg [.int .i64 n.var,.lst none z o (n.kids.map (AV.int .i64)),.int .i64 n.leaf]):=by
    rw[dQ,gq];rfl
   have ld2:aj (some 3) (m1++[some (Ent.obj true [.int .i64 L[i].var,dP L[i],.int .i64 L[i].leaf])]) (.ptr m1.length 0)=some L[i].av:=by
    rw[dQ,bJ rfl];rfl
   have p60:aD (AP ae) none (m1++[some (Ent.obj true [.int .i64 L[i].var,dP L[i],.int .i64 L[i].leaf])]) 142 [.agg [.int .i64 n.var,.lst none z o (n.kids.map (AV.int .i64)),.int .i64 n.leaf],L[i].av]=some (.bool (decide (n=L[i])),m1++[some (Ent.obj true [.int .i64 L[i].var,dP L[i],.int .i64 L[i].leaf])]):=by
    rw[fG (qk7 _ _ _ _ _) (qk3 _),hk,ou,V60 hn (hL _ (bS b6))];rfl
   have e0:uw (.ptr b 0) (.ptr q 0) x (.int .i64 L.length) (.int .i64 i) m1 (tm (aE ae.P f91.results.toList))=aw (.bool (decide (n=L[i]))) (some (.int .i64 i,m1++[some (Ent.obj true [.int .i64 L[i].var,dP L[i],.int .i64 L[i].leaf])])) (uw (.ptr b 0) (.ptr q 0) x (.int .i64 L.length) (.int .i64 (i+1:Nat)) (m1++[some (Ent.obj true [.int .i64 L[i].var,dP L[i],.int .i64 L[i].leaf])]) (tm (aE ae.P f91.results.toList))):=by
    rw[Rh,bh,aa,aA,an (by omega),nb,aa,yV,aa,nM,nM];dsimp only;rw[bxi,aa,ld1,aa,ld2,aa,p60,aa,cB (by omega),aa,qe0]
   rw[e0,aA]
   by_cases he:n=L[i]
   ·have hm:n∈L:=he▸bS b6;have gW:L.idxOf n=i:=V0 b6 he.symm hne;refine ⟨_,?_,f2⟩;rw[an he,an hm,gW]
   ·rw[ai he]
    exact ih (i+1) _ (by omega) (fun t ht hti=>by
     rcases qW t i with hh | hh
     ·exact hne t ht hh
     ·obtain rfl:t=i:=by omega
      exact fun e=>he e.symm) f2
 obtain ⟨m2,e2,f2⟩:=W L.length 0 m (by omega) (fun _ _ h=>by omega) (Fr.refl _ _);have e2:uw (.ptr b 0) (.ptr q 0) x (.int .i64 L.length) (.int .i64 0) m (tm (aE ae.P f91.results.toList))=_:=e2;rw[e2];have gb2:m2.get b=some (.obj true [arms,x]):=(f2.get b pH (by simp)).trans pZ
 by_cases hm:n∈L
 ·rw[an hm,ji,an hm];exact ⟨m2,x,T,rfl,gb2,vB h fun k hk=>f2.get k (vA h k hk) (by simp),f2.mono (by simp),Gr.refl _ _,sr⟩
 ·rw[ai hm,ji,ai hm,D9 hm];have gq2:af.get m2 q=some (.obj true [.int .i64 n.var,.lst none z o (n.kids.map (AV.int .i64)),.int .i64 n.leaf]):=(f2.get q Ie (by simp)).trans hq;have h2:NR 146 m2 x L T:=vB h fun k hk=>f2.get k (vA h k hk) (by simp);obtain ⟨x3,m3,T3,ea,n3,f3,gg3⟩:=qnD h2 hl n;have ov:=Hp n.var n.leaf z o (n.kids.map (AV.int .i64));rw[hk,ou] at ov;have UT:=bF gb2;have Ns:=bF gq2;have gb3:m3.get b=some (.obj true [arms,x]):=(f3.get b UT sr).trans gb2;have UU:=bF gb3;have ldx:aj none (cU m2 1) (.ptr b (0+1))=some x:=by rw[gM,dQ,bY UT,gb2];rfl
  have ldq:aj (some 3) (cU m2 1) (.ptr q 0)=some (.agg [.int .i64 n.var,.lst none z o (n.kids.map (AV.int .i64)),.int .i64 n.leaf]):=by rw[gM,dQ,bY Ns,gq2];rfl
  obtain ⟨sh3,z3,o3,es3,rfl⟩:=qnF n3
  have st:aL none m3 (.ptr b (0+1)) (.lst sh3 z3 o3 es3)=some (m3.set b (some (.obj true [arms,.lst sh3 z3 o3 es3]))):=by
   rw[qL,gb3,kD,aa];rfl
  have ld4:aj none (m3.set b (some (.obj true [arms,.lst sh3 z3 o3 es3]))) (.ptr b (0+1))=some (.lst sh3 z3 o3 es3):=by
   rw[dQ,c8 rfl UU];rfl
  have ln:=Oz n3
  have UX:b∉T3:=fun hh=>by
   rcases gg3 b hh with h4 | h4
   ·exact sr h4
   ·omega
  refine ⟨m3.set b (some (.obj true [arms,.lst sh3 z3 o3 es3])),.lst sh3 z3 o3 es3,T3,?_,c8 rfl UU,vB n3 fun k hk=>cG (fun e=>UX (e▸hk)),?_,?_,UX⟩
  ·rw[gM] at ldx ldq;rw[qe1,o9,aa,gI,aa,gM,ldx,aa,ldq,aa,ov,aa,ea,aa,aa,gI,aa,st,aa,aa,gI,aa,ld4,aa,ln,aa,aI,oY (by simp) (by simp;omega),aa];simp
  ·exact ((Fr.trans (f2.mono (F':=b::T) (by simp)) f3 fun x hx=>.inl (by simp[hx])).set _ (.inl (by simp)))
  ·intro k hk
   rcases gg3 k hk with h4 | h4
   ·exact .inl h4
   ·have:=f2.len;exact .inr (by omega)
end Go.Ab
namespace Go.Ab
open Go.Proofs Go.Proofs.Tryz
theorem qll {e:Nat} {m:af} {x:AV} {l:List AV} {T:List Nat} (h:GR e m x l T):∀ k∈T,∃ n,m.get k=some (.tok n 1):=by
 cases h with
 | none=>simp
 | some t l ht _=>
  intro k hk;obtain rfl:k=t:=by simpa using hk
  exact ⟨_,ht⟩
def Fe (l:List ND) (ar:List Int) (za:Bool) (oa:Own) (b v:Nat):Prop:=∀ (m:af) (z:Bool) (o:Own) (part:List Int) (id:Nat) (out:List Nat) (x:AV) (T:List Nat),m.get b=some (.obj true [IA za oa ar,x])->NR 146 m x (dn l out) T->b∉T->Cl l out->TabV ar l id v part ->
 ∃ (m':af) (x':AV) (T':List Nat),AC ae 91 [.ptr b 0,.int .i64 v,IA z o part] m=some (.int .i64 ((Vi l id out).idxOf id:Nat),m')/\m'.get b=some (.obj true [IA za oa ar,x'])/\NR 146 m' x' (dn l (Vi l id out)) T'/\Fr m m' (b::T)/\Gr m T T'/\b∉T'
section
variable {l:List ND} {ar:List Int} {za:Bool} {oa:Own} {b v:Nat}
theorem qhl {m:af} {x:AV} (pZ:m.get b=some (.obj true [IA za oa ar,x])) {z z1:Bool} {o o1:Own} {part first:List Int} {a n:Nat} (hv:v < ar.length) (ha:ar[v]=(a:Int)) (qp8:a<=64) (hp:part.length=a * n) (hpl:part.length<=300) (hf:first.length<=300) (x7:AV) (K:KT):∀ (j k:Nat) (fr:Bool),k+j=a ->
  ∃ fr':Bool,zZ (.ptr b 0) (.int .i64 v) (IA z o part) x7 (.int .i64 n) (IA z1 o1 first) (.bool fr) (.int .i64 k) m K=K (.exit 0) (Lk (.ptr b 0) (.int .i64 v) (IA z o part) x7 (.int .i64 n) (IA z1 o1 first) (.bool fr') m)/\(fr'=true↔fr=true/\∀ q,k<=q->q < a->_root_.Go.Ab.part part n q=first):=by
 have gW:aH none (IA za oa ar) (.int .i64 v)=some (.vptr [.int .i64 a]):=by rw[jB hv,ha]
 have ldx:aj none m (.ptr b (0+0))=some (IA za oa ar):=by rw[dQ,pZ];rfl
 intro j
 induction j with
 | zero=>
  intro k fr hk;refine ⟨fr,?_,⟨fun h=>⟨h,fun q h1 h2=>by omega⟩,fun h=>h.1⟩⟩;rw[Ku,o9,aa,gI,aa,ldx,aa,gW,aa,fV,aa,cX,aa,aA,ai (by omega)]
 | succ j ih=>
  intro k fr hk;have u7:k < a:=by omega
  have sG:(k+1) * n<=part.length:=by rw[hp];exact iM _ (by omega)
  have Vs:k * n<=(k+1) * n:=iM _ (by omega);have sJ:=part_len hp u7;have lR:n<=(k+1) * n:=Nat.le_mul_of_pos_left _ (by omega)
  cases fr with
  | false=>
   obtain ⟨fr',e,h⟩:=ih (k+1) false (by omega)
   refine ⟨fr',?_,?_⟩
   ·rw[Ku,o9,aa,gI,aa,ldx,aa,gW,aa,fV,aa,cX,aa,aA,an u7,iC,cB (by omega),aa];exact e
   ·rw[h];simp
  | true=>
   obtain ⟨fr',e,h⟩:=ih (k+1) (decide (_root_.Go.Ab.part part n k=first)) (by omega)
   refine ⟨fr',?_,?_⟩
   ·rw[Ku,o9,aa,gI,aa,ldx,aa,gW,aa,fV,aa,cX,aa,aA,an u7,mc,Br (by omega),aa,cB (by omega),aa,Br (by omega),aa,L5 z o part .i64 sG,aa,qn9 z z1 .no o1 _ first (by omega) m,aa,aa]
    exact e
   ·rw[h,wj]
    constructor
    ·rintro ⟨h1,h2⟩;refine ⟨rfl,fun q p8 vh=>?_⟩
     by_cases DV:q=k
     ·subst DV;exact h1
     ·exact h2 q (by omega) vh
    ·rintro ⟨_,h2⟩;exact ⟨h2 k (aQ _) u7,fun q p8 vh=>h2 q (by omega) vh⟩
theorem qhm (g:GoodL ar l) (h1:∀ x∈ar,1<=x/\x<=64) (eE:l.length<=100000) (hv:v < ar.length) (cH:ar.length<=16) {a n:Nat} (ha:ar[v]=(a:Int)) (hn:n=bj (ar.drop (v+1))) {id:Nat} (hid:id < l.length) (tS:l[id].var=v) {part:List Int} (htab:TabV ar l id v part) (hpl:part.length<=300) (ih:Fe l ar za oa b (v+1)) {z:Bool} {o:Own}
  {m0:af} {T0:List Nat} {q:Nat} (hq0:m0.length<=q) (hbq:b < m0.length) (hT0:∀ y∈T0,y < m0.length):∀ (j k:Nat) (m:af) (out:List Nat) (x xk:AV) (T Tk:List Nat),k+j=a->m.get b=some (.obj true [IA za oa ar,x])->NR 146 m x (dn l out) T->b∉T->Cl l out->Fr m0 m (b::T0)->Gr m0 T0 T->q∉T->(∀ i∈l[id].kids.take k,i.toNat∈out) ->
   m.get q=some (.obj true [.int .i64 v,xk,.int .i64 0])->GR 3 m xk (((l[id].kids.take k).map fun i=>((out.idxOf i.toNat:Nat):Int)).map (AV.int .i64)) Tk->(∀ y∈Tk,m0.length<=y/\y∉T) ->
   ∃ (m':af) (x' xk':AV) (T' Tk':List Nat),Cy (.ptr b 0) (.int .i64 v) (IA z o part) (.ptr q 0) (.int .i64 n) (.int .i64 k) m (Cc (aE ae.P f91.results.toList))=Cc (aE ae.P f91.results.toList) (.exit 2) (Li (.ptr b 0) (.ptr q 0) m') /\
    m'.get b=some (.obj true [IA za oa ar,x'])/\NR 146 m' x' (dn l (iw l (l[id].kids.drop k) out)) T'/\b∉T'/\Fr m0 m' (b::T0)/\Gr m0 T0 T'/\q∉T'/\m'.get q=some (.obj true [.int .i64 v,xk',.int .i64 0])/\GR 3 m' xk' ((l[id].kids.map fun i=>(((iw l (l[id].kids.drop k) out).idxOf i.toNat:Nat):Int)).map (AV.int .i64)) Tk':=by
 have aU:ar.getD v 0=(a:Int):=by rw[aS,bD hv,dh,ha]
 have lL:=h1 _ (bS hv)
 have fR:l[id].kids.length=a:=by
  have:=(g.var id hid (by omega)).2;rw[tS,cK,aU] at this;omega
 have hp:part.length=a * n:=by
  rw[htab.len,uc hv,aU,hn];rfl
 have gW:aH none (IA za oa ar) (.int .i64 v)=some (.vptr [.int .i64 a]):=by rw[jB hv,ha]
 intro j
 induction j with
 | zero=>
  intro k m out x xk T Tk hk pZ vf sr hc f gr vk Nd vm wF uU;have hd:l[id].kids.drop k=[]:=jo (by omega);have ht:l[id].kids.take k=l[id].kids:=jQ (by omega);rw[ht] at wF;have ldx:aj none m (.ptr b (0+0))=some (IA za oa ar):=by rw[dQ,pZ];rfl
  refine ⟨m,x,xk,T,Tk,?_,pZ,by rw[hd];exact vf,sr,f,gr,vk,vm,by rw[hd];exact wF⟩;rw[Rg,o9,aa,gI,aa,ldx,aa,gW,aa,fV,aa,cX,aa,aA,ai (by omega)]
 | succ j ihj=>
  intro k m out x xk T Tk hk pZ vf sr hc f gr vk Nd vm wF uU;have u7:k < a:=by omega
  have vc:k < l[id].kids.length:=by omega
  have sG:(k+1) * n<=part.length:=by rw[hp];exact iM _ (by omega)
  have Vs:k * n<=(k+1) * n:=iM _ (by omega);have ldx:aj none m (.ptr b (0+0))=some (IA za oa ar):=by rw[dQ,pZ];rfl
  obtain ⟨t,et,ht⟩:=pJ g hid _ (bS vc);have ka:=Pl g (fun x hx=>(h1 x hx).1) hv htab hid tS (k:=k) (by rw[aU];omega);have eg:l[id].kids.getD k 0=(t:Int):=by rw[aS,bD vc,dh,et]
  rw[eg,cK,<- hn] at ka;have pH:=bF pZ;have Ie:=bF vm;obtain ⟨m1,x1,T1,e70,gb1,n1,f1,gr1,qlw⟩:=ih m z .no _ t out x T pZ vf sr hc ka;obtain ⟨c1,c2,r,c3,c4⟩:=qs g t ka.lt out hc;have Nt:q≠b:=by omega
  have p8:m1.get q=some (.obj true [.int .i64 v,xk,.int .i64 0]):=(f1.get q Ie (by simp;exact ⟨Nt,vk⟩)).trans vm
  have VL:q∉T1:=fun hh=>by
   rcases gr1 q hh with h4 | h4
   ·exact vk h4
   ·omega
  have qlH:GR 3 m1 xk (((l[id].kids.take k).map fun i=>(((Vi l t out).idxOf i.toNat:Nat):Int)).map (AV.int .i64)) Tk:=by
   have e:((l[id].kids.take k).map fun i=>(((Vi l t out).idxOf i.toNat:Nat):Int))=((l[id].kids.take k).map fun i=>((out.idxOf i.toNat:Nat):Int)):=List.map_congr_left fun i hi=>by
    rw[c3,List.idxOf_append,an (Nd i hi)]
   rw[e]
   exact Dv wF fun y hy=>f1.get y (AK wF y hy) (by
    simp only[gE,not_or]
    exact ⟨fun e=>by have:=(uU y hy).1;omega,(uU y hy).2⟩)
  obtain ⟨x2,m2,Tk2,ea,g2,f2,gg2⟩:=AJ (b:=8) qlH (by simp;omega) (by omega) (.int .i64 ((Vi l t out).idxOf t:Nat));have ntk:∀ y,y∉Tk->y < m1.length->m2.get y=m1.get y:=fun y h h'=>f2.get y h' h;have qlv:=bF gb1;have qmc:=bF p8;have qlq:b∉Tk:=fun h=>by have:=(uU b h).1;omega
  have UP:q∉Tk:=fun h=>by
   have h2:=AK wF q h;obtain ⟨k',wT⟩:=qll wF q h;rw[vm] at wT;cases wT
  have gb2:m2.get b=some (.obj true [IA za oa ar,x1]):=(ntk b qlq qlv).trans gb1;have gq2:m2.get q=some (.obj true [.int .i64 v,xk,.int .i64 0]):=(ntk q UP qmc).trans p8
  have UO:∀ y∈Tk,y∉T1:=fun y hy hh=>by
   rcases gr1 y hh with h4 | h4
   ·exact (uU y hy).2 h4
   ·have:=AK wF y hy;omega
  have n2:NR 146 m2 x1 (dn l (Vi l t out)) T1:=vB n1 fun y hy=>ntk y (fun h=>UO y h hy) (vA n1 y hy);have Ns:=bF gq2;obtain ⟨xz,xo,rfl,_⟩:=Dw g2
  have st:aL none m2 (.ptr q (0+1)) (.lst none xz xo (((l[id].kids.take k).map fun i=>(((Vi l t out).idxOf i.toNat:Nat):Int)).map (AV.int .i64)++[.int .i64 ((Vi l t out).idxOf t:Nat)]))=some (m2.set q (some (.obj true [.int .i64 v,.lst none xz xo (((l[id].kids.take k).map fun i=>(((Vi l t out).idxOf i.toNat:Nat):Int)).map (AV.int .i64)++[.int .i64 ((Vi l t out).idxOf t:Nat)]),.int .i64 0]))):=by
   rw[qL,gq2,kD,aa];rfl
  have ek:(((l[id].kids.take k).map fun i=>(((Vi l t out).idxOf i.toNat:Nat):Int)).map (AV.int .i64)++[.int .i64 ((Vi l t out).idxOf t:Nat)])=((l[id].kids.take (k+1)).map fun i=>(((Vi l t out).idxOf i.toNat:Nat):Int)).map (AV.int .i64):=by
   rw[n7 vc,kU,kU,et];rfl
  have hnq:∀ y∈Tk2,y≠q:=fun y hy e=>by
   rcases gg2 y hy with h4 | h4
   ·exact UP (e▸h4)
   ·omega
  have ed:iw l (l[id].kids.drop k) out=iw l (l[id].kids.drop (k+1)) (Vi l t out):=by
   rw[kT vc,C2,et,cK]
  have F1:Fr m0 m1 (b::T0):=Fr.trans f f1 fun y hy=>by
   rcases gE.1 hy with rfl | hy
   ·exact .inl (by simp)
   ·rcases gr y hy with h4 | h4
    ·exact .inl (by simp[h4])
    ·exact .inr h4
  have F2:Fr m0 m2 (b::T0):=Fr.trans F1 f2 fun y hy=>.inr (uU y hy).1
  obtain ⟨m',x',xk',T',Tk',e,k1,k2,k3,k4,k5,k6,k7,k8⟩:=ihj (k+1) (m2.set q (some (.obj true [.int .i64 v,.lst none xz xo (((l[id].kids.take k).map fun i=>(((Vi l t out).idxOf i.toNat:Nat):Int)).map (AV.int .i64)++[.int .i64 ((Vi l t out).idxOf t:Nat)]),.int .i64 0]))) (Vi l t out) x1 _ T1 Tk2 (by omega)
   (by rw[cG (fun e=>Nt e.symm)];exact gb2) (vB n2 fun y hy=>cG (fun e=>VL (e▸hy))) qlw c1 (F2.set _ (.inr hq0)) (Gr.trans f.len gr gr1) VL (fun i hi=>by
    rw[n7 vc] at hi
    rcases il.1 hi with hi | hi
    ·rw[c3];exact Ai _ (Nd i hi)
    ·obtain rfl:i=l[id].kids[k]:=by simpa using hi
     rw[et,cK];exact c2) (c8 rfl Ns) (by
    rw[<- ek]
    exact Dv g2 fun y hy=>cG (hnq y hy)) (fun y hy=>by
    have l1:=f1.len;have l0:=f.len
    rcases gg2 y hy with h4 | h4
    ·exact ⟨(uU y h4).1,UO y h4⟩
    ·refine ⟨by omega,fun hh=>?_⟩;have:=vA n1 y hh
     omega)
  refine ⟨m',x',xk',T',Tk',?_,k1,by rw[ed];exact k2,k3,k4,k5,k6,k7,by rw[ed];exact k8⟩;have ldk:aj none m (.ptr q (0+1))=some xk:=by rw[dQ,vm];rfl
  have ldk1:aj none m1 (.ptr q (0+1))=some xk:=by rw[dQ,p8];rfl
  rw[Rg,o9,aa,gI,aa,ldx,aa,gW,aa,fV,aa,cX,aa,aA,an u7,gI,aa,ldk,aa,cB (by omega),aa,Br (by omega),aa,cB (by omega),aa,Br (by omega),aa,L5 z o part .i64 sG,aa,e70,aa];rw[vr (by simp only[ldk1,aa]),rh,aa,ea,aa,aa,st,aa,aa];exact e
theorem Iy (g:GoodL ar l) (eE:l.length<=100000) {out:List Nat} (hc:Cl l out):∀ y∈dn l out,y.ok:=fun y hy=>by
 obtain ⟨i,hi,rfl⟩:=jf.1 hy;have:=sU _ _ hc.nd hc.lt;exact Ep g eE (by omega) (hc.lt i hi)
theorem PL (g:GoodL ar l) (h1:∀ x∈ar,1<=x/\x<=64) (eE:l.length<=100000) (cH:ar.length<=16) (hv:v<=ar.length) (wN:bj (ar.drop v)<=300) (ih:v < ar.length->Fe l ar za oa b (v+1)):Fe l ar za oa b v:=by
 intro m z o part id out x T pZ vf sr hc htab;have so:∀ x∈ar,1<=x:=fun x hx=>(h1 x hx).1;have hid:=htab.lt;have hpp:1<=bj (ar.drop v):=Ew fun x hx=>so x (List.drop_subset _ _ hx);have hpl:=htab.len;obtain ⟨c0,ct,ec⟩:=List.exists_cons_of_ne_nil (show part≠[] from fun e=>by rw[e] at hpl;simp at hpl;omega);have pH:=bF pZ;have i0:aH none (IA z o part) (.int .i64 0)=some (.vptr [.int .i64 c0]):=by rw[ec];exact Ea (by simp)
 have hb:gm (.agg [(.int .i64 0),au,(.int .i64 0)]) [(0,none,(.int .i64 (-1))),(2,none,.int .i64 c0)]=some (.agg [.int .i64 (-1),au,.int .i64 c0]):=rfl;have sn:=Pd (m:=m) (a:=.int .i64 0) (b:=au) (c:=.int .i64 0) (a':=.int .i64 (-1)) (b':=au) (c':=.int .i64 c0) rfl;have f4:Fr m (m++[some (Ent.obj true [.int .i64 (-1),au,.int .i64 c0])]) []:=Fr.app m _ _;generalize yB:m++[some (Ent.obj true [.int .i64 (-1),au,.int .i64 c0])]=m4 at sn f4
 have gq:m4.get m.length=some (Ent.obj true [.int .i64 (-1),au,.int .i64 c0]):=by rw[<- yB];exact (by simp (disch:=(first | assumption | omega | (simp only[aI,a8,aJ,aP];first | done | omega))) only[gM,bY,bJ,cG,c8];first | done | rfl)
 have l4:m4.length=m.length+1:=by rw[<- yB];simp
 have gb4:m4.get b=some (.obj true [IA za oa ar,x]):=(f4.get b pH (by simp)).trans pZ;have n4:NR 146 m4 x (dn l out) T:=vB vf fun k hk=>f4.get k (vA vf k hk) (by simp);have vk:m.length∉T:=fun h=>by have:=vA vf _ h;omega
 have VF:out.length<=l.length:=sU _ _ hc.nd hc.lt;have p78:=qn8 z o part (by rw[ec];simp) (by omega) m4;have e0:AC ae 91 [.ptr b 0,.int .i64 v,IA z o part] m=_:=T91 _ _ _ m;rw[i0,aa,fV,aa,hb,aa,nM,nM] at e0;dsimp only at e0;rw[sn,aa,p78,aa,rI,aa,ec,List.headD_cons,<- ec] at e0;have ldx0:aj none m4 (.ptr b (0+0))=some (IA za oa ar):=by rw[dQ,gb4];rfl
 have ldx1:aj none m4 (.ptr b (0+1))=some x:=by rw[dQ,gb4];rfl
 by_cases hall:(part.all fun k=>k == c0)=true
 ·
  rw[hall,kS,iC,o9,aa,gI,aa,ldx1,aa,Oz vf,aa] at e0;have Ng:=qkr g so hv htab (c:=c0) (fun y hy=>by simpa using ga.1 hall y hy)
  have hnd:nd l out id=iD c0:=by
   unfold nd;rw[Ng];rfl
  rw[js hid] at Ng;have Vr:l[id].kids=[]:=by rw[Ng];rfl
  have bg:=Ep g eE (p:=out) (by omega) hid;rw[hnd] at bg;obtain ⟨m5,x5,T5,e5,k1,k2,k3,k4,k5⟩:=PN (n:=iD c0) (z:=true) (o:=.full) gb4 n4 sr (show m.length≠b by omega) vk gq rfl bg (Iy g eE hc) (by unfold dn;rw[bX];omega);have pr:=Yc g hc hid (by rw[Vr];simp)
  have eV:Vi l id out=if id∈out then out else out++[id]:=by rw[Sz g hid hc,Vr,qgT]
  rw[hnd,<- eV] at pr;refine ⟨m5,x5,T5,?_,k1,by rw[<- pr.1];exact k2,Fr.trans (f4.mono (by simp)) k3 fun y hy=>.inl hy,Gr.trans f4.len (Gr.refl _ _) k4,k5⟩;rw[e0,e5,pr.2]
 ·rw[Bool.not_eq_true] at hall
  have fS:v < ar.length:=by
   refine Decidable.byContradiction fun hn=>?_;have:ar.drop v=[]:=jo (by omega);rw[this] at hpl;have hpl:part.length=1:=hpl;rw[ec] at hpl hall;have:ct=[]:=by simpa using hpl
   rw[this] at hall;simp at hall
  have lL:=h1 _ (bS fS);obtain ⟨a,ha⟩:=nA (by omega:0<=ar[v]);have aU:ar.getD v 0=(a:Int):=by rw[aS,bD fS,dh,ha]
  have gW:aH none (IA za oa ar) (.int .i64 v)=some (.vptr [.int .i64 a]):=by rw[jB fS,ha]
  have sK:bj (ar.drop v)=a * bj (ar.drop (v+1)):=by rw[uc fS,aU];rfl
  have lR:1<=bj (ar.drop (v+1)):=Ew fun x hx=>so x (List.drop_subset _ _ hx);have yN:part.length=a * bj (ar.drop (v+1)):=by rw[hpl,sK]
  have hle:bj (ar.drop (v+1))<=part.length:=by rw[yN];exact Nat.le_mul_of_pos_left _ (by omega)
  have hdiv:part.length / a=bj (ar.drop (v+1)):=by rw[yN,Nat.mul_div_cancel_left _ (by omega)]
  have mK:nS none (IA z o part) none (some (.int .i64 (bj (ar.drop (v+1)):Nat))) none=some (IA z .no (_root_.Go.Ab.part part (bj (ar.drop (v+1))) 0)):=by
   rw[Pa _ _ _ _ _ hle];unfold _root_.Go.Ab.part;rw[xN,iR]
  have H9:=part_len yN (k:=0) (by omega)
  obtain ⟨fr,e7,nF⟩:=qhl (z:=z) (z1:=z) (o:=o) (o1:=.no) (first:=_root_.Go.Ab.part part (bj (ar.drop (v+1))) 0) gb4 fS ha (by omega) yN (by omega) (by omega) (.ptr m.length 0) (FK (aE ae.P f91.results.toList)) (a - 1) 1 true (by omega)
  have e7:zZ (.ptr b 0) (.int .i64 v) (IA z o part) (.ptr m.length 0) (.int .i64 (bj (ar.drop (v+1)):Nat)) (IA z .no (_root_.Go.Ab.part part (bj (ar.drop (v+1))) 0)) (.bool true) (.int .i64 1) m4 (FK (aE ae.P f91.results.toList))=_:=e7;rw[hall,nX,mc,iE,aa,o9,aa,gI,aa,ldx0,aa,gW,aa,fV,aa,Ol (by omega) (by omega),aa,hdiv,mK,aa,e7,qe5] at e0
  have U9:fr=true↔∀ k:Nat,(k:Int) < ar.getD v 0->_root_.Go.Ab.part part (bj (ar.drop (v+1))) k=_root_.Go.Ab.part part (bj (ar.drop (v+1))) 0:=by
   rw[nF,aU]
   constructor
   ·rintro ⟨_,h⟩ k hk
    by_cases u6:k=0
    ·rw[u6]
    ·exact h k (by omega) (by omega)
   ·exact fun h=>⟨rfl,fun q _ hq=>h q (by omega)⟩
  by_cases hf:fr=true
  ·
   rw[hf,mc,cB (by omega),aa] at e0;have ht:=qkQ g so fS htab (U9.1 hf);obtain ⟨m5,x5,T5,e5,k1,k2,k3,k4,k5⟩:=ih fS m4 z .no _ id out x T gb4 n4 sr hc ht;refine ⟨m5,x5,T5,?_,k1,k2,Fr.trans (f4.mono (by simp)) k3 fun y hy=>.inl hy,Gr.trans f4.len (Gr.refl _ _) k4,k5⟩;rw[e0,e5,aa]
  ·have hff:fr=false:=by simpa using hf
   have tS:=qnA g so fS htab hid (fun h=>hf (U9.2 h));have hb2:gm (.agg [(.int .i64 0),au,(.int .i64 0)]) [(0,none,.int .i64 v)]=some (.agg [.int .i64 v,au,.int .i64 0]):=rfl;have st:aL (some 3) m4 (.ptr m.length 0) (.agg [.int .i64 v,au,.int .i64 0])=some (m4.set m.length (some (Ent.obj true [.int .i64 v,au,.int .i64 0]))):=Y0 gq rfl;rw[hff,iC,hb2,aa,st,aa] at e0;have f5:Fr m (m4.set m.length (some (Ent.obj true [.int .i64 v,au,.int .i64 0]))) (b::T):=(f4.mono (F':=b::T) (by simp)).set _ (.inr (aQ _))
   obtain ⟨m6,x6,xk,T6,Tk,e14,k1,k2,k3,k4,k5,k6,k7,k8⟩:=qhm g h1 eE fS cH ha rfl hid tS htab (by omega) (ih fS) (z:=z) (o:=o) (m0:=m) (T0:=T) (q:=m.length) (aQ _) pH (vA vf) a 0 (m4.set m.length (some (Ent.obj true [.int .i64 v,au,.int .i64 0]))) out x au T [] (by omega)
    (by rw[cG (by omega)];exact gb4) (vB n4 fun y hy=>cG (fun e=>vk (e▸hy))) sr hc f5 (Gr.refl _ _) vk (by simp) (c8 rfl (by omega)) .none (by simp)
   rw[iR] at k2 k8;obtain ⟨c1,c2,r,c3,c4⟩:=Lz g hid l[id].kids (fun k hk=>pJ g hid k hk) out hc;have qqj:=sU _ _ c1.nd c1.lt
   have hnk:(nd l (iw l l[id].kids out) id).kids=l[id].kids.map fun i=>(((iw l l[id].kids out).idxOf i.toNat:Nat):Int):=by
    unfold nd;rw[js hid]
   have vg:(nd l (iw l l[id].kids out) id).var=v:=by unfold nd;rw[js hid];exact tS
   have bg:=Ep g eE (p:=iw l l[id].kids out) (by omega) hid
   have oC:(nd l (iw l l[id].kids out) id).leaf=0:=by
    rcases bg with ⟨q1,_⟩ | ⟨_,_,q3,_⟩
    ·rw[vg] at q1;omega
    ·exact q3
   have A2:l[id].kids≠[]:=UC g _ (bS hid) (by omega);obtain ⟨kz',ko',rfl,NF⟩:=Y8 k8 hnk bg (fun _=>by simpa using A2)
   have gq6:m6.get m.length=some (.obj true [.int .i64 (nd l (iw l l[id].kids out) id).var,.lst none kz' ko' ((nd l (iw l l[id].kids out) id).kids.map (AV.int .i64)),.int .i64 (nd l (iw l l[id].kids out) id).leaf]):=by
    rw[k7,vg,oC]
   obtain ⟨m7,x7,T7,e18,j1,j2,j3,j4,j5⟩:=PN (n:=nd l (iw l l[id].kids out) id) (z:=kz') (o:=ko') k1 k2 k3 (show m.length≠b by omega) k6 gq6 NF bg (Iy g eE c1) (by unfold dn;rw[bX];omega);have pr:=Yc g c1 hid c2;rw[<- Sz g hid hc] at pr
   refine ⟨m7,x7,T7,?_,j1,by rw[<- pr.1];exact j2,Fr.trans k4 j3 fun y hy=>?_,Gr.trans k4.len k5 j4,j5⟩
   ·have e14:Cy (.ptr b 0) (.int .i64 v) (IA z o part) (.ptr m.length 0) (.int .i64 (bj (ar.drop (v+1)):Nat)) (.int .i64 0) (m4.set m.length (some (Ent.obj true [.int .i64 v,au,.int .i64 0]))) (Cc (aE ae.P f91.results.toList))=_:=e14;have ld6:aj none m6 (.ptr b (0+1))=some x6:=by rw[dQ,k1];rfl
    rw[e0,e14,qeX,o9,aa,gI,aa,ld6,aa,Oz k2,aa,e18,pr.2]
   ·rcases gE.1 hy with rfl | hy
    ·exact .inl (by simp)
    ·rcases k5 y hy with h4 | h4
     ·exact .inl (by simp[h4])
     ·exact .inr h4
theorem Z3 (g:GoodL ar l) (h1:∀ x∈ar,1<=x/\x<=64) (eE:l.length<=100000) (cH:ar.length<=16):∀ (d v:Nat),v+d=ar.length->bj (ar.drop v)<=300->Fe l ar za oa b v:=by
 have so:∀ x∈ar,1<=x:=fun x hx=>(h1 x hx).1;intro d
 induction d with
 | zero=>
  intro v hv wN;exact PL g h1 eE cH (by omega) wN (fun hlt=>by omega)
 | succ d ih=>
  intro v hv wN;refine PL g h1 eE cH (by omega) wN (fun hlt=>ih (v+1) (by omega) ?_);have lL:=h1 _ (bS hlt);have sK:=uc hlt;rw[aS,bD hlt,dh] at sK
  have:bj (ar.drop (v+1))<=bj (ar.drop v):=by
   rw[sK];exact Nat.le_mul_of_pos_left _ (by omega)
  omega
end
end Go.Ab
namespace Go.Ab
open Go.Proofs Go.Proofs.Tryz
theorem OA {e:Nat} {m:af} {x:AV} {l:List ND} {T:List Nat} (h:NR e m x l T) (hl:l≠[]):∃ t,x=NL false (.tok t e) l:=by
 cases h with
 | none=>exact absurd rfl hl
 | some t l ht=>exact ⟨t,rfl⟩
theorem Sr {l:List ND} {ar:List Int} (g:GoodL ar l) (h1:∀ x∈ar,1<=x/\x<=64) (eE:l.length<=100000) (cH:ar.length<=16) (hp:bj ar<=300) {id:Nat} {t:List Int} (htab:TabV ar l id 0 t) (za z:Bool) (oa o:Own) :
  AP ae 31 [IA za oa ar,IA z o t]=some (NL false .no (dn l (Vi l id []))):=by
 have hne:dn l (Vi l id [])≠[]:=by
  obtain ⟨_,c2,_⟩:=qs g id htab.lt [] ri;intro e;unfold dn at e;rw[Ag] at e;rw[e] at c2;cases c2
 have hb:gm (.agg [au,au]) [(0,none,IA za oa ar)]=some (.agg [IA za oa ar,au]):=rfl;have hx:dI none (some 2) ([]:af) (.agg [IA za oa ar,au])=some (.ptr 0 0,[some (Ent.obj true [IA za oa ar,au])]):=rfl;obtain ⟨m',x',T',e,k1,k2,_,_,_⟩:=Z3 (za:=za) (oa:=oa) (b:=0) g h1 eE cH ar.length 0 (by omega) hp [some (Ent.obj true [IA za oa ar,au])] z o t id [] au [] rfl .none (by simp) ri htab;obtain ⟨tk,rfl⟩:=OA k2 hne;refine iK (m:=m') (v:=NL false (.tok tk 146) (dn l (Vi l id []))) (l:=[]) ?_ rfl rfl;have e:AC ae 91 [.ptr 0 0,.int .i64 0,IA z o t] [some (Ent.obj true [IA za oa ar,au])]=_:=e;have ld:aj none m' (.ptr 0 (0+1))=some (NL false (.tok tk 146) (dn l (Vi l id []))):=by rw[dQ,k1];rfl
 rw[T31,hb,aa,hx,aa,e,aa,o9,aa,gI,aa,ld,aa]
end Go.Ab
namespace Go.Ab
open Go.Proofs Go.Proofs.Tryz
structure RN where
 var:Int
 z:Bool
 o:Own
 kids:List Int
 leaf:Int
def dz:RN:=⟨0,true,.full,[],0⟩
def RN.av (x:RN):AV:=.agg [.int .i64 x.var,IA x.z x.o x.kids,.int .i64 x.leaf]
abbrev RL (z:Bool) (o:Own) (L:List RN):AV:=.lst (some 3) z o (L.map RN.av)
theorem Ec (z:Bool) (o:Own) (L:List RN):aO false (RL z o L)=some (.int .i64 L.length):=by rw[o0,bX]
theorem NO {z:Bool} {o:Own} {L:List RN} {i:Nat} (hi:i < L.length):aH (some 3) (RL z o L) (.int .i64 i)=some (.vptr [.int .i64 L[i].var,IA L[i].z L[i].o L[i].kids,.int .i64 L[i].leaf]):=by
 simp[aH,hi];rfl
def kidB (L:List RN) (i:Nat) (v k:Int):Bool:=decide (0<=k/\k < i) && decide ((L.getD k.toNat dz).var=-1\/v < (L.getD k.toNat dz).var)
def nq (ar:List Int) (L:List RN) (i:Nat) (x:RN):Bool:=if x.var=-1 then decide (x.kids=[]/\0<=x.leaf/\x.leaf<=2147483647) else decide (0<=x.var/\x.var < ar.length/\x.leaf=0/\(x.kids.length:Int)=ar.getD x.var.toNat 0) && x.kids.all (kidB L i x.var)
def qb (ar:List Int) (L:List RN):Nat->Nat->Bool
 | 0,_=>decide (0 < L.length)
 | j+1,i=>nq ar L i (L.getD i dz) && qb ar L j (i+1)
theorem XA {ar:List Int} {L:List RN} {i:Nat} {x:RN} (h:nq ar L i x=true):x.var=-1\/0<=x.var:=by
 unfold nq at h
 split at h
 ·exact .inl (by assumption)
 ·simp only[b7,oq] at h;exact .inr h.1.1
theorem qk2 (z:Bool) (o:Own) (L:List RN):Fz (RL z o L) (RL z o.fr L):=fun m=>by cases o<;>rfl
theorem SQ {za zl z zr:Bool} {oa ol o orr:Own} {ar:List Int} {L:List RN} {i:Nat} {x:RN} {m:af} {q:Nat} (hi:i < L.length) (hl:L.length<=100000) (hx:x.kids.length<=100000) (hq:m.get q=some (.obj true [.int .i64 x.var,IA x.z x.o x.kids,.int .i64 x.leaf])) (DT:∀ k (h:k < i),(L.getD k dz).var=-1\/0<=(L.getD k dz).var) (x9 aF aZ:AV):∀ j c:Nat,c+j=x.kids.length ->
  xD (IA za oa ar) (RL zl ol L) (.int .i64 i) (.ptr q 0) x9 aF aZ (IA z o x.kids) (.int .i64 x.kids.length) (.int .i64 c) m (zJ (ti (aE ae.P f107.results.toList)))=if (x.kids.drop c).all (kidB L i x.var) then zJ (ti (aE ae.P f107.results.toList)) (.exit 2) (GJ (IA za oa ar) (RL zl ol L) x9 aF aZ m) else some (.bool false,m)
 | 0,c,h=>by
  rw[FM,bh,aa,aA,ai (by omega),jo (by omega)];rfl
 | j+1,c,h=>by
  have hc:c < x.kids.length:=by omega
  have ih:=SQ (za:=za) (zl:=zl) (z:=z) (zr:=zr) (oa:=oa) (ol:=ol) (o:=o) (orr:=orr) (ar:=ar) hi hl hx hq DT x9 aF aZ j (c+1) (by omega);have ldq:aj none m (.ptr q (0+0))=some (.int .i64 x.var):=by rw[dQ,hq];rfl
  rw[FM,bh,aa,aA,an (by omega),jB hc,aa,fV,aa,bh,aa,aA,kT hc,n0]
  by_cases h1:x.kids[c] < 0
  ·rw[an h1,Fg,tj,kidB,dd (by omega),lY,lY];rfl
  ·rw[ai h1,jZ,aa,aA]
   by_cases h2:x.kids[c]≥i
   ·rw[an h2,Fg,tj,kidB,dd (by omega),lY,lY];rfl
   ·obtain ⟨k,hk⟩:=nA (by omega:0<=x.kids[c]);have jH:k < i:=by omega
    have fR:k < L.length:=by omega
    have tN:=DT k jH;have hg:L.getD k dz=L[k]:=by rw[aS,bD fR,dh]
    rw[hg] at tN;have l3:∀ (a b c:AV),aj none m (.vptr [a,b,c])=some a:=fun _ _ _=>rfl;have hb1:decide (0<=(k:Int)/\(k:Int) < i)=true:=dD (by omega);rw[ai h2,hk,NO fR,aa,Mh,aa,l3,aa,jZ,aa,aA,kidB,hb1,iL,cK,hg]
    by_cases h3:L[k].var≥0
    ·rw[an h3,aa,Mh,aa,l3,aa,gI,aa,ldq,aa,si,aa,aA]
     by_cases h4:L[k].var<=x.var
     ·rw[an h4,Fg,tj,dd (by omega),lY];rfl
     ·rw[ai h4,cB (by omega),aa,ih,dD (by omega),iL]
    ·rw[ai h3,cB (by omega),aa,ih,dD (by omega),iL]
theorem SP {za zl z:Bool} {oa ol o:Own} {ar:List Int} {L:List RN} (hl:L.length<=100000) (hx:∀ a∈ar,1<=a/\a<=64):∀ (j i:Nat) (m:af),i+j=L.length->(∀ k (h:k < i),(L.getD k dz).var=-1\/0<=(L.getD k dz).var) ->
  ∃ m',ur (IA za oa ar) (RL zl ol L) (RL zl ol L) (.int .i64 L.length) (.int .i64 i) m (ti (aE ae.P f107.results.toList))=some (.bool (qb ar L j i),m')
 | 0,i,m,h,_=>by
  refine ⟨m,?_⟩;rw[FN,bh,aa,aA,ai (by omega),PW,Ec,aa,ir,aa,qb];congr 3;exact jS.2 (by omega)
 | j+1,i,m,h,DT=>by
  have hi:i < L.length:=by omega
  have hg:L.getD i dz=L[i]:=by rw[aS,bD hi,dh]
  have gW:=NO (z:=zl) (o:=ol) hi;have sn:aL (some 3) (m++[some (Ent.obj true [.int .i64 0,au,.int .i64 0])]) (.ptr m.length 0) (.agg [.int .i64 L[i].var,IA L[i].z L[i].o L[i].kids,.int .i64 L[i].leaf])=some (m++[some (Ent.obj true [.int .i64 L[i].var,IA L[i].z L[i].o L[i].kids,.int .i64 L[i].leaf])]):=Pd rfl;have gq:af.get (m++[some (Ent.obj true [.int .i64 L[i].var,IA L[i].z L[i].o L[i].kids,.int .i64 L[i].leaf])]) m.length=some (Ent.obj true [.int .i64 L[i].var,IA L[i].z L[i].o L[i].kids,.int .i64 L[i].leaf]):=bJ rfl;generalize yB:m++[some (Ent.obj true [.int .i64 L[i].var,IA L[i].z L[i].o L[i].kids,.int .i64 L[i].leaf])]=m4 at sn gq;have ld0:aj none m4 (.ptr m.length (0+0))=some (.int .i64 L[i].var):=by rw[dQ,gq];rfl
  have ld1:aj none m4 (.ptr m.length (0+1))=some (IA L[i].z L[i].o L[i].kids):=by rw[dQ,gq];rfl
  have ld2:aj none m4 (.ptr m.length (0+2))=some (.int .i64 L[i].leaf):=by rw[dQ,gq];rfl
  have e0:∃ r,ur (IA za oa ar) (RL zl ol L) (RL zl ol L) (.int .i64 L.length) (.int .i64 i) m (ti (aE ae.P f107.results.toList))=r:=⟨_,rfl⟩;obtain ⟨r0,e0⟩:=e0;have e1:=e0;rw[FN,bh,aa,aA,an (by omega),gW,aa,yV,aa,nM,nM] at e1;dsimp only at e1;rw[sn,aa,gI,aa,ld0,aa,iS,aa,aA] at e1;rw[e0,qb,hg,nq];have bad:∀ (b:Bool),nq ar L i L[i]=false->r0=some (.bool false,m4)->∃ m',r0=some (.bool (nq ar L i L[i] && b),m'):=fun b h1 h2=>⟨m4,by rw[h2,h1,lY]⟩
  have good:nq ar L i L[i]=true->r0=ur (IA za oa ar) (RL zl ol L) (RL zl ol L) (.int .i64 L.length) (.int .i64 (i+1:Nat)) m4 (ti (aE ae.P f107.results.toList))->∃ m',r0=some (.bool (nq ar L i L[i] && qb ar L j (i+1)),m'):=fun h1 h2=>by
   obtain ⟨m',e⟩:=SP (za:=za) (zl:=zl) (z:=z) (oa:=oa) (ol:=ol) (o:=o) (ar:=ar) hl hx j (i+1) m4 (by omega) fun k hk=>by
    by_cases jH:k < i
    ·exact DT k jH
    ·obtain rfl:k=i:=by omega
     rw[hg];exact XA h1
   exact ⟨m',by rw[h2,e,h1,iL]⟩
  rw[<- nq]
  by_cases hv:L[i].var=-1
  ·rw[an hv,gI,aa,ld1,aa,iE,aa,ir,aa,aA] at e1;have lT:nq ar L i L[i]=decide (L[i].kids=[]/\0<=L[i].leaf/\L[i].leaf<=2147483647):=by unfold nq;rw[an hv]
   by_cases hk:L[i].kids=[]
   ·rw[ai (by rw[hk];simp),gI,aa,ld2,aa,OJ,aa,rI,aa] at e1
    by_cases h1:0<=L[i].leaf/\L[i].leaf<=2147483647
    ·rw[dD h1,kS,iC,cB (by omega),aa] at e1;exact good (by rw[lT];exact dD ⟨hk,h1⟩) e1.symm
    ·rw[dd h1,nX,mc,tj] at e1;exact bad _ (by rw[lT];exact dd (fun h=>h1 h.2)) e1.symm
   ·have fR:L[i].kids.length≠0:=fun e=>hk (oN e);rw[an (by omega),tj] at e1;exact bad _ (by rw[lT];exact dd (fun h=>hk h.1)) e1.symm
  ·have lT:nq ar L i L[i]=(decide (0<=L[i].var/\L[i].var < ar.length/\L[i].leaf=0/\(L[i].kids.length:Int)=ar.getD L[i].var.toNat 0) && L[i].kids.all (kidB L i L[i].var)):=by unfold nq;rw[ai hv]
   rw[ai hv,aa,ld0,aa,bh,aa,aA] at e1
   by_cases h1:L[i].var < 0
   ·rw[an h1,tj] at e1;exact bad _ (by rw[lT,dd (by omega),lY]) e1.symm
   ·rw[ai h1,aa,ld0,aa,iE,aa,jZ,aa,aA] at e1
    by_cases h2:L[i].var≥ar.length
    ·rw[an h2,tj] at e1;exact bad _ (by rw[lT,dd (by omega),lY]) e1.symm
    ·rw[ai h2,gI,aa,ld2,aa,jg,aa,aA] at e1
     by_cases h3:L[i].leaf=0
     ·obtain ⟨v,nh⟩:=nA (by omega:0<=L[i].var);have fS:v < ar.length:=by omega
      have ou:ar.getD v 0=ar[v]:=by rw[aS,bD fS,dh]
      have hiv:aH none (IA za oa ar) (.int .i64 L[i].var)=some (.vptr [.int .i64 ar[v]]):=by rw[nh];exact jB fS
      rw[ai (by simpa using h3),gI,aa,ld1,aa,iE,aa,aa,ld0,aa,hiv,aa,fV,aa,jg,aa,aA] at e1
      by_cases h4:(L[i].kids.length:Int)=ar[v]
      ·have hd:decide (0<=L[i].var/\L[i].var < ar.length/\L[i].leaf=0/\(L[i].kids.length:Int)=ar.getD L[i].var.toNat 0)=true:=dD ⟨by omega,by omega,h3,by rw[nh,cK,ou];exact h4⟩;rw[ai (by simpa using h4),aa,ld1,aa,iE,aa] at e1;have rE:L[i].kids.length<=100000:=by have:=hx _ (bS fS);omega
       have w:=SQ (za:=za) (zl:=zl) (z:=L[i].z) (zr:=z) (oa:=oa) (ol:=ol) (o:=L[i].o) (orr:=o) (ar:=ar) hi hl rE gq DT (RL zl ol L) (.int .i64 L.length) (.int .i64 i) L[i].kids.length 0 (by omega);have w:xD (IA za oa ar) (RL zl ol L) (.int .i64 i) (.ptr m.length 0) (RL zl ol L) (.int .i64 L.length) (.int .i64 i) (IA L[i].z L[i].o L[i].kids) (.int .i64 L[i].kids.length) (.int .i64 0) m4 (zJ (ti (aE ae.P f107.results.toList)))=_:=w;rw[w,iR] at e1
       by_cases h5:L[i].kids.all (kidB L i L[i].var)=true
       ·rw[an h5,PV,cB (by omega),aa] at e1;exact good (by rw[lT,hd,h5];rfl) e1.symm
       ·rw[ai h5] at e1;exact bad _ (by rw[lT];simp only[Bool.not_eq_true] at h5;rw[h5,Bool.and_false]) e1.symm
      ·rw[an (by simpa using h4),tj] at e1;exact bad _ (by rw[lT,dd (fun h=>h4 (by have:=h.2.2.2;rw[nh,cK,ou] at this;exact this)),lY]) e1.symm
     ·rw[an (by simpa using h3),tj] at e1;exact bad _ (by rw[lT,dd (fun h=>h3 h.2.2.1),lY]) e1.symm
theorem V65 (za zl:Bool) (oa ol:Own) (ar:List Int) (L:List RN) (hl:L.length<=100000) (hx:∀ a∈ar,1<=a/\a<=64):AP ae 107 [IA za oa ar,RL zl ol L]=some (.bool (qb ar L L.length 0)):=by
 obtain ⟨m',e⟩:=SP (za:=za) (zl:=zl) (z:=za) (oa:=oa) (ol:=ol) (o:=oa) (ar:=ar) hl hx L.length 0 [] (by omega) (fun k h=>by omega);refine iK (m:=m') (v:=.bool (qb ar L L.length 0)) (l:=[]) ?_ rfl rfl;rw[RM,Ec,aa];exact e
theorem qn7 (za zl:Bool) (oa ol:Own) (ar:List Int) (L:List RN) (hl:L.length<=100000) (hx:∀ a∈ar,1<=a/\a<=64) (d:Option Nat) (m:af):aD (AP ae) d m 107 [IA za oa ar,RL zl ol L]=some (.bool (qb ar L L.length 0),m):=by
 rw[fG (mG za oa ar) (qk2 zl ol L),V65 _ _ _ _ ar L hl hx];rfl
end Go.Ab
namespace Go.Ab
open Go.Proofs Go.Proofs.Tryz
theorem qlj {l r:List ND} {id:Nat} (h:id < l.length):(l++r).getD id ⟨0,[],0⟩=l.getD id ⟨0,[],0⟩:=by
 rw[aS,nB h,<- aS]
def vW (ar:List Int) (l:List ND) (id:Nat):Int:=fD ar.length (l.getD id ⟨0,[],0⟩)
theorem S5 {ar:List Int} {l r:List ND} {id:Nat} (h:id < l.length):vW ar (l++r) id=vW ar l id:=by unfold vW;rw[qlj h]
theorem C4 {ar:List Int} {l:List ND} {id:Nat} (h:id < l.length):vW ar l id=fD ar.length l[id]:=by unfold vW;rw[js h]
section
variable {m:af} {s:Nat} {F:List Nat} {arms:AV} {most:Int} {l:List ND}
theorem qhu {ar:List Int} {l:List ND} (g:GoodL ar l) {i:Nat} (hi:i < l.length):0<=vW ar l i/\vW ar l i<=ar.length:=by
 rw[C4 hi];unfold fD
 split
 ·have:=(g.var i hi (by omega)).1;omega
 ·omega
theorem ZX {g:Nat} {caps:List AV} {Q:Int->List ND->Prop} (h:dC m s F arms most l) (h1:((ae.lib g).isNone && (ae.libm g).isNone)=true) (h2:ae.inl 84 g=true) (h3:ae.thaw 84 g=false)
  (hc:∀ m1,Fr m m1 []->∃ m' F' id l',AC ae g caps m1=some (.int .i64 id,m')/\Q id l'/\dC m' s F' arms most l'/\Fr m1 m' F/\Gr m1 F F') :
  ∃ m' F' id l',AC ae 84 [.ptr s 0,.fn g caps] m=some (.tup [.int .i64 id,.int .i64 0],m')/\Q id l'/\dC m' s F' arms most l'/\Fr m m' F/\Gr m F F':=by
 have hlt:=h.lt;obtain ⟨p,na,T,h,rfl⟩:=h;have hs:=h.hs;have mK:=bF hs
 have hlen:aO false na=some (.int .i64 l.length):=by
  cases h.hn with
  | none=>rfl
  | some t l ht=>rw[o0,bX]
 obtain ⟨m2,F2,id,l',e2,hQ,k1,k2,k3⟩:=hc (List.set (((m++[some (Ent.obj true [.ptr s 0])])++[some (Ent.obj true [.int .i64 0])])++[some (Ent.obj true [.int .i64 0])]++[some (Ent.obj true [.int .i64 0])]) (m.length+1+1+1) (some (Ent.obj true [.int .i64 l.length]))) (((((Fr.app m _ _).snoc _).snoc _).snoc _).set _ (.inr (by omega)));have len2:=k2.len;simp only[a8,aI,aJ,aP] at len2
 have g1:af.get m2 (m.length+1)=some (Ent.obj true [.int .i64 0]):=by
  rw[k2.get _ (by simp) (fun hx=>by have:=hlt _ hx;omega)];exact (by simp (disch:=(first | assumption | omega | (simp only[aI,a8,aJ,aP];first | done | omega))) only[gM,bY,bJ,cG,c8];first | done | rfl)
 have g2:af.get m2 (m.length+2)=some (Ent.obj true [.int .i64 0]):=by
  rw[k2.get _ (by simp) (fun hx=>by have:=hlt _ hx;omega)];exact (by simp (disch:=(first | assumption | omega | (simp only[aI,a8,aJ,aP];first | done | omega))) only[gM,bY,bJ,cG,c8];first | done | rfl)
 have e:AC ae 84 [.ptr s 0,.fn g caps] m=some (.tup [.int .i64 id,.int .i64 0],(m2.set (m.length+1) (some (Ent.obj true [.int .i64 id]))).set (m.length+1+1) (some (Ent.obj true [.int .i64 0]))):=by
  rw[R6]
  repeat ((with_reducible (first | apply bs | apply dJ));(focus (first | (simp (disch:=(first | assumption | omega | (simp only[aI,a8,aJ,aP];first | done | omega))) only[dH,beq_self_eq_true,cS,aa,Sh.size,bw,bP,Nat.reduceAdd,Nat.reduceLeDiff,aQ,hs,hlen,pX];first | done | rfl) | rfl));try dsimp only)
  rw[bV,tz h1 h2 h3,e2,aa];dsimp only
  repeat ((with_reducible (first | apply bs | apply dJ));(focus (first | (simp (disch:=(first | assumption | omega | (simp only[aI,a8,aJ,aP];first | done | omega))) only[dH,beq_self_eq_true,cS,aa,Sh.size,bw,bP,Nat.reduceAdd,Nat.reduceLeDiff,aQ,g1,g2];first | done | rfl) | rfl));try dsimp only)
 refine ⟨_,F2,id,l',e,hQ,?_,?_,?_⟩
 ·refine k1.move fun x hx=>?_
  have hx2:x≠m.length+1/\x≠m.length+1+1:=by
   rcases k3 x hx with h | h
   ·have:=hlt x h;omega
   ·simp only[a8,aI,aJ,aP] at h;omega
  rw[cG hx2.2,cG hx2.1]
 ·have f1:Fr m m2 (s::p::T):=Fr.trans (((((Fr.app m _ _).snoc _).snoc _).snoc _).set _ (.inr (by omega))) k2 fun x hx=>.inl hx;exact (f1.set _ (.inr (by omega))).set _ (.inr (by omega))
 ·intro x hx
  rcases k3 x hx with h | h
  ·exact .inl h
  ·simp only[a8,aI,aJ,aP] at h;exact .inr (by omega)
end
end Go.Ab
namespace Go.Ab
def wo (L:List RN) (y:Nat->Nat):Nat->Nat->Int
 | 0,_=>0
 | n+1,i=>if (L.getD i dz).var=-1 then (L.getD i dz).leaf else wo L y n ((L.getD i dz).kids.getD (y (L.getD i dz).var.toNat) 0).toNat
def EV (L:List RN) (y:Nat->Nat) (i:Nat):Int:=wo L y (i+1) i
def oQ (ar:List Int) (L:List RN):Prop:=∀ i,i < L.length->nq ar L i (L.getD i dz)=true
theorem Xy {ar:List Int} {L:List RN}:∀ (j i:Nat),i+j=L.length->qb ar L j i=true->0 < L.length/\∀ k,i<=k->k < L.length->nq ar L k (L.getD k dz)=true
 | 0,i,h,ho=>⟨by simpa [qb] using ho,fun k h1 h2=>by omega⟩
 | j+1,i,h,ho=>by
  rw[qb,b7] at ho;obtain ⟨h1,h2⟩:=Xy j (i+1) (by omega) ho.2;refine ⟨h1,fun k hk1 kA=>?_⟩
  by_cases jH:k=i
  ·rw[jH];exact ho.1
  ·exact h2 k (by omega) kA
section
variable {ar:List Int} {L:List RN}
theorem qoS (h:oQ ar L) {i:Nat} (hi:i < L.length) (hv:(L.getD i dz).var=-1):(L.getD i dz).kids=[]/\0<=(L.getD i dz).leaf/\(L.getD i dz).leaf<=2147483647:=by
 have:=h i hi;unfold nq at this;rw[an hv] at this;simpa using this
theorem O4 (h:oQ ar L) {i:Nat} (hi:i < L.length) (hv:(L.getD i dz).var≠-1):∃ v:Nat,(L.getD i dz).var=v/\v < ar.length/\((L.getD i dz).kids.length:Int)=ar.getD v 0/\∀ k∈(L.getD i dz).kids,∃ t:Nat,k=t/\t < i/\((L.getD t dz).var=-1\/(v:Int) < (L.getD t dz).var):=by
 have:=h i hi;unfold nq at this;rw[ai hv] at this;simp only[b7,oq,ga] at this;obtain ⟨⟨h1,h2,h3,h4⟩,h5⟩:=this;obtain ⟨v,nh⟩:=nA h1;rw[nh,cK] at h4;refine ⟨v,nh,by omega,h4,fun k hk=>?_⟩;have:=h5 k hk;unfold kidB at this;simp only[b7,oq] at this;obtain ⟨t,rfl⟩:=nA this.1.1;rw[cK,nh] at this;exact ⟨t,rfl,by omega,this.2⟩
theorem YI (h:oQ ar L) {i:Nat} (hi:i < L.length) (hv:(L.getD i dz).var≠-1) {y:Nat->Nat} (hy:ik ar y):∃ v t:Nat,(L.getD i dz).var=v/\v < ar.length/\(L.getD i dz).kids.getD (y v) 0=t/\t < i/\y v < (L.getD i dz).kids.length:=by
 obtain ⟨v,nh,fS,hl,hk⟩:=O4 h hi hv;have yQ:=hy v fS;have hlt:y v < (L.getD i dz).kids.length:=by omega
 obtain ⟨t,e,ht,_⟩:=hk _ (bS hlt);exact ⟨v,t,nh,fS,by rw[aS,bD hlt,dh,e],ht,hlt⟩
theorem Ug (h:oQ ar L) {y:Nat->Nat} (hy:ik ar y):∀ (n i m:Nat),i < L.length->i < n->i < m->wo L y n i=wo L y m i
 | 0,i,m,_,h,_=>by omega
 | n+1,i,0,_,_,h=>by omega
 | n+1,i,m+1,hi,_,_=>by
  rw[wo,wo]
  by_cases hv:(L.getD i dz).var=-1
  ·rw[an hv,an hv]
  ·rw[ai hv,ai hv];obtain ⟨v,t,nh,fS,e,ht,_⟩:=YI h hi hv hy;rw[nh,cK,e,cK];exact Ug h hy n t m (by omega) (by omega) (by omega)
theorem qac {y:Nat->Nat} {i:Nat} (hv:(L.getD i dz).var=-1):EV L y i=(L.getD i dz).leaf:=by
 unfold EV;rw[wo,an hv]
theorem qad (h:oQ ar L) {y:Nat->Nat} (hy:ik ar y) {i:Nat} (hi:i < L.length) {v:Nat} (hv:(L.getD i dz).var=v):EV L y i=EV L y ((L.getD i dz).kids.getD (y v) 0).toNat:=by
 have hne:(L.getD i dz).var≠-1:=by omega
 obtain ⟨v',t,nh,fS,e,ht,_⟩:=YI h hi hne hy;have:v'=v:=by omega
 subst this;unfold EV;rw[wo,ai hne,nh,cK,e,cK];exact Ug h hy i t (t+1) (by omega) ht (by omega)
def zp (p:List ND×List Nat) (x:RN):List ND×List Nat:=
 if x.var < 0 then (ji p.1 (iD x.leaf),p.2++[p.1.idxOf (iD x.leaf)])
 else ((nN p.1 x.var ((x.kids.map fun k=>p.2.getD k.toNat 0).map Int.ofNat)).2,p.2++[(nN p.1 x.var ((x.kids.map fun k=>p.2.getD k.toNat 0).map Int.ofNat)).1.toNat])
def mf (L:List RN) (l:List ND) (i:Nat):List ND×List Nat:=(L.take i).foldl zp (l,[])
theorem Iu {l:List ND} {i:Nat} (hi:i < L.length):mf L l (i+1)=zp (mf L l i) (L.getD i dz):=by
 unfold mf;rw[n7 hi,List.foldl_append,aS,bD hi]
 rfl
def IP (a:Nat) (x:RN):Int:=if x.var=-1 then a else x.var
structure LI (ar:List Int) (L:List RN) (l0:List ND) (i:Nat) (l:List ND) (ids:List Nat):Prop where
 g:GoodL ar l
 len:ids.length=i
 gr:∃ r,l=l0++r/\r.length<=i
 at_:∀ k,k < i->ids.getD k 0 < l.length/\IP ar.length (L.getD k dz)<=vW ar l (ids.getD k 0)/\∀ y,ik ar y->S l y (ids.getD k 0)=EV L y k
theorem WQ (h:oQ ar L) (h1:∀ x∈ar,1<=x/\x<=64) (cH:ar.length<=16) {l0 l:List ND} {ids:List Nat} {i:Nat} (hi:i < L.length) (I:LI ar L l0 i l ids) (hl:l.length<=100000) (hv:¬ (L.getD i dz).var < 0) :
  ∃ r id,nN l (L.getD i dz).var (((L.getD i dz).kids.map fun k=>ids.getD k.toNat 0).map Int.ofNat)=(((id:Nat):Int),l++r)/\LI ar L l0 (i+1) (l++r) (ids++[id])/\(hG (L.getD i dz).var (((L.getD i dz).kids.map fun k=>ids.getD k.toNat 0).map Int.ofNat)).ok/\(L.getD i dz).kids≠[]:=by
 obtain ⟨v,nh,fS,fR,hk⟩:=O4 h hi (by omega);have lL:=h1 _ (bS fS);have aU:ar.getD v 0=ar[v]:=by rw[aS,bD fS,dh]
 have A3:∀ k∈(L.getD i dz).kids,∃ hh:ids.getD k.toNat 0 < l.length,(v:Int) < fD ar.length l[ids.getD k.toNat 0]:=fun k bO=>by
  obtain ⟨t,rfl,ht,hp⟩:=hk k bO;rw[cK];obtain ⟨a1,a2,_⟩:=I.at_ t ht;rw[C4 a1] at a2;refine ⟨a1,?_⟩;unfold IP at a2
  split at a2
  ·omega
  ·rcases hp with hp | hp
   ·rename_i hne;exact absurd hp hne
   ·omega
 obtain ⟨r,id,e,hr,wO,g2,hid,mM,hS⟩:=Xt I.g h1 cH fS (ks:=(L.getD i dz).kids.map fun k=>ids.getD k.toNat 0) (by rw[bX];exact fR) (fun q hq=>by
  obtain ⟨k,bO,rfl⟩:=jf.1 hq
  exact A3 k bO) hl
 have A2:(L.getD i dz).kids≠[]:=fun hh=>by
  have h0:(L.getD i dz).kids.length=0:=by rw[hh];rfl
  omega
 rw[nh]
 refine ⟨r,id,e,⟨g2,by simp[I.len],?_,fun k bO=>?_⟩,?_,A2⟩
 ·obtain ⟨r0,e0,A8⟩:=I.gr;exact ⟨r0++r,by rw[e0,gA],by rw[aI];omega⟩
 ·by_cases jH:k < i
  ·obtain ⟨a1,a2,a3⟩:=I.at_ k jH
   have e1:(ids++[id]).getD k 0=ids.getD k 0:=by
    rw[aS,nB (by rw[I.len];exact jH),<- aS]
   rw[e1];refine ⟨by rw[aI];omega,by rw[S5 a1];exact a2,fun y hy=>by rw[G5 I.g r hy _ a1];exact a3 y hy⟩
  ·have:k=i:=by omega
   subst this
   have e1:(ids++[id]).getD k 0=id:=by
    rw[aS,rS (by rw[I.len];exact aQ _),I.len];simp
   rw[e1]
   refine ⟨hid,?_,fun y hy=>?_⟩
   ·rw[C4 hid];unfold IP;rw[ai (by omega),nh];exact mM
   ·have yQ:=hy v fS;have hlt:y v < (L.getD k dz).kids.length:=by omega
    obtain ⟨t,et,ht,_⟩:=hk _ (bS hlt);have e2:(L.getD k dz).kids.getD (y v) 0=(t:Int):=by rw[aS,bD hlt,dh,et]
    rw[hS y hy,qad h hy hi nh,e2,cK,aS,oO,bD hlt];simp only[aR,dh,et,cK];exact (I.at_ t ht).2.2 y hy
 ·refine .inr ⟨by simp only[hG];omega,by simp only[hG];omega,rfl,fun q hq=>?_,by simp only[hG,bX];omega⟩;obtain ⟨a,ha,rfl⟩:=jf.1 hq;obtain ⟨k,bO,rfl⟩:=jf.1 ha;obtain ⟨q1,_⟩:=A3 k bO;refine ⟨rQ _,?_⟩;show ((ids.getD k.toNat 0:Nat):Int) < 1000000;omega
theorem WL (h:oQ ar L) {l0 l:List ND} {ids:List Nat} {i:Nat} (hi:i < L.length) (I:LI ar L l0 i l ids) (hv:(L.getD i dz).var < 0) :
  ∃ r,ji l (iD (L.getD i dz).leaf)=l++r/\LI ar L l0 (i+1) (l++r) (ids++[l.idxOf (iD (L.getD i dz).leaf)])/\0<=(L.getD i dz).leaf/\(L.getD i dz).leaf<=2147483647:=by
 have ke:(L.getD i dz).var=-1:=by
  rcases XA (h i hi) with h | h<;>omega
 obtain ⟨_,b1,b2⟩:=qoS h hi ke;obtain ⟨r,e,hr,g2,tv⟩:=Ww I.g (x:=(L.getD i dz).leaf) ⟨b1,b2⟩
 refine ⟨r,e,⟨g2,by simp[I.len],?_,fun k bO=>?_⟩,b1,b2⟩
 ·obtain ⟨r0,e0,A8⟩:=I.gr;exact ⟨r0++r,by rw[e0,gA],by rw[aI];omega⟩
 ·by_cases jH:k < i
  ·obtain ⟨a1,a2,a3⟩:=I.at_ k jH
   have e1:(ids++[l.idxOf (iD (L.getD i dz).leaf)]).getD k 0=ids.getD k 0:=by
    rw[aS,nB (by rw[I.len];exact jH),<- aS]
   rw[e1];refine ⟨by rw[aI];omega,by rw[S5 a1];exact a2,fun y hy=>by rw[G5 I.g r hy _ a1];exact a3 y hy⟩
  ·have:k=i:=by omega
   subst this
   have e1:(ids++[l.idxOf (iD (L.getD k dz).leaf)]).getD k 0=l.idxOf (iD (L.getD k dz).leaf):=by
    rw[aS,rS (by rw[I.len];exact aQ _),I.len];simp
   rw[e1]
   refine ⟨tv.lt,?_,fun y hy=>?_⟩
   ·rw[C4 tv.lt];unfold IP;rw[an ke];exact tv.top tv.lt
   ·rw[tv.val y hy,qac ke,List.drop_length];rfl
theorem Bm (h:oQ ar L) (h1:∀ x∈ar,1<=x/\x<=64) (cH:ar.length<=16) {l0:List ND} (g:GoodL ar l0) (hl:l0.length+L.length<=4000):∀ i,i<=L.length->LI ar L l0 i (mf L l0 i).1 (mf L l0 i).2
 | 0,_=>⟨g,rfl,⟨[],by simp[mf],by simp⟩,fun k hk=>by omega⟩
 | i+1,hi=>by
  have I:=Bm h h1 cH g hl i (by omega);obtain ⟨r0,e0,A8⟩:=I.gr;have eE:(mf L l0 i).1.length<=100000:=by rw[e0,aI];omega
  rw[Iu (by omega)];unfold zp
  by_cases hv:(L.getD i dz).var < 0
  ·rw[an hv];obtain ⟨r,e,J,_⟩:=WL h (by omega) I hv;rw[e];exact J
  ·rw[ai hv];obtain ⟨r,id,e,J,_⟩:=WQ h h1 cH (by omega) I eE hv;rw[e];exact J
end
end Go.Ab
namespace Go.Ab
noncomputable section
open Go.Proofs.Tryz
def Rj (x0 x3:AV) (m:af):St:=⟨(x0::aK (x3::bI (bC (aW (aM []))))),m⟩
def xE (x0 x1 x3 aN aX aV:AV) (m:af) (K:KT):OM:=ck 108 (b9 (c2 (c2 (aB f108)))) 3 (x0::x1::aG (x3::aW (aN::aX::aV::bI (bC (aG []))))) m K
def Kv (x0 x1 x3 x4 x5 x6 aN aX aV:AV) (m:af):St:=⟨(x0::x1::aG (x3::x4::x5::x6::aM (aG (aN::aX::aV::bI (bC (aG [])))))),m⟩
def Cd (x0 x1 x3 x4 x5 x6 aN aX aV E6 E7 qP:AV) (m:af) (K:KT):OM:=ck 108 (b9 (kZ (yb (mD (c2 (aB f108)))))) 9 (x0::x1::aG (x3::x4::x5::x6::aM (aG (aN::aX::aV::bC (aK (aG (E6::E7::qP::bC (aW (aK (aG [])))))))))) m K
abbrev qap (K:KT):KT:=bE 108 (c2 (c2 (c2 (aB f108)))) K
abbrev qaq (K:KT):KT:=bz 0 (qap K)
abbrev xA (K:KT):KT:=(qaq K)
abbrev qas (K:KT):KT:=bE 108 (kZ (mD (c2 (aB f108)))) (nQ 108 (b9 (c2 (c2 (aB f108)))) 3 K)
abbrev qat (K:KT):KT:=bz 1 (qas K)
abbrev qau (K:KT):KT:=bE 108 (bo (uO (b9 (c2 (c2 (aB f108)))))) (qat K)
abbrev qav (K:KT):KT:=bz 2 (qau K)
abbrev B5 (K:KT):KT:=(qav K)
theorem qfD (a0 a1:AV) (m:af):AC ae 108 [a0,a1] m=(aj none m a0).bind fun v1=>(aO false v1).bind fun v2=>(iP none 3 none (.int .i64 0) 8 m v2 v2).bind fun r3=>(aj none r3.2 a0).bind fun v4=>(aO false v4).bind fun v5=>xE a0 a1 r3.1 v4 v5 (.int .i64 0) r3.2 (xA (aE ae.P f108.results.toList)):=
(bm ae 108 [a0,a1] m (fn:=f108) (c:=aB f108) qhW rfl).trans (by kernel_rfl)
theorem P9 (x0 x1 x3 aN aX aV:AV) (m:af) (K:KT):xE x0 x1 x3 aN aX aV m K=(ag .other .lss aV aX).bind fun v1=>aw v1 ((aH (some 3) aN aV).bind fun v2=>(aj (some 3) m v2).bind fun v3=>(aL (some 3) (az none m (.obj true [(.int .i64 0),au,(.int .i64 0)])).2 (.ptr (az none m .resv).1 0) v3).bind fun m4=>(aT 0 (.ptr (az none m .resv).1 0)).bind fun v5=>(aj none m4 v5).bind fun v6=>(ag .other .lss v6 (.int .i64 0)).bind fun v7=>aw v7 ((aj none m4 x1).bind fun v8=>(aT 2 (.ptr (az none m .resv).1 0)).bind fun v9=>(aj none m4 v9).bind fun v10=>(AC ae 96 [v8,v10] m4).bind fun je=>(aH none x3 aV).bind fun v12=>(aL none je.2 v12 je.1).bind fun m13=>(ag .other .add aV (.int .i64 1)).bind fun bq=>xE x0 x1 x3 aN aX bq m13 K) ((aT 1 (.ptr (az none m .resv).1 0)).bind fun br=>(aj none m4 br).bind fun bT=>(aO false bT).bind fun bH=>(iP none 3 none (.int .i64 0) 8 m4 bH bH).bind fun gD=>(aT 1 (.ptr (az none m .resv).1 0)).bind fun dG=>(aj none gD.2 dG).bind fun v20=>(aO false v20).bind fun v21=>Cd x0 x1 x3 aV (.ptr (az none m .resv).1 0) gD.1 aN aX aV v20 v21 (.int .i64 0) gD.2 (B5 K))) (K (.exit 0) (Rj x0 x3 m)):=
(cg (bW _) _ _ _).trans (by kernel_rfl)
theorem Qa (x0 x1 x3 x4 x5 x6 aN aX aV E6 E7 qP:AV) (m:af) (K:KT):Cd x0 x1 x3 x4 x5 x6 aN aX aV E6 E7 qP m K=(ag .other .lss qP E7).bind fun v1=>aw v1 ((aH none E6 qP).bind fun v2=>(aj none m v2).bind fun v3=>(aH none x3 v3).bind fun v4=>(aj none m v4).bind fun v5=>(aH none x6 qP).bind fun v6=>(aL none m v6 v5).bind fun m7=>(ag .other .add qP (.int .i64 1)).bind fun v8=>Cd x0 x1 x3 x4 x5 x6 aN aX aV E6 E7 v8 m7 K) (K (.exit 2) (Kv x0 x1 x3 x4 x5 x6 aN aX aV m)):=
(cg (bW _) _ _ _).trans (by kernel_rfl)
theorem qar (x0 x3:AV) (m:af):xA (aE ae.P f108.results.toList) (.exit 0) (Rj x0 x3 m)=(aj none m x0).bind fun v1=>(aO false v1).bind fun v2=>(ag .other .sub v2 (.int .i64 1)).bind fun v3=>(aH none x3 v3).bind fun v4=>(aj none m v4).bind fun v5=>some (v5,m):=by kernel_rfl
theorem qaw (x0 x1 x3 x4 x5 x6 aN aX aV:AV) (m:af) (K:KT):B5 K (.exit 2) (Kv x0 x1 x3 x4 x5 x6 aN aX aV m)=(aj none m x1).bind fun v1=>(aT 0 x5).bind fun v2=>(aj none m v2).bind fun v3=>(yi (AC ae) m 99 [v1,v3,x6]).bind fun r4=>(aH none x3 x4).bind fun v5=>(aL none r4.2 v5 r4.1).bind fun m6=>(ag .other .add aV (.int .i64 1)).bind fun v7=>xE x0 x1 x3 aN aX v7 m6 K:=by kernel_rfl
end
end Go.Ab
namespace Go.Ab
open Go.Proofs Go.Proofs.Tryz
def jb (ids:List Nat) (n:Nat):List Int:=ids.map Int.ofNat++List.replicate (n - ids.length) 0
theorem Dk {ids:List Nat} {n:Nat} (h:ids.length<=n):(jb ids n).length=n:=by unfold jb;simp;omega
theorem L4 {ids:List Nat} {n:Nat} (h:ids.length < n) (id:Nat):(jb ids n).set ids.length (id:Int)=jb (ids++[id]) n:=by
 unfold jb;obtain ⟨k,hk⟩:∃ k,n - ids.length=k+1:=⟨n - ids.length - 1,by omega⟩;have e2:n - (ids++[id]).length=k:=by simp;omega
 rw[hk,e2,rY _ _ (by simp),kU,gA];simp[xK]
theorem TW {ids:List Nat} {n t:Nat} (h:t < ids.length):(jb ids n).getD t 0=((ids.getD t 0:Nat):Int):=by
 unfold jb;rw[aS,nB (by simpa using h),oO,aS,bD h];rfl
theorem qku {ids:List Nat}:jb ids ids.length=ids.map Int.ofNat:=by unfold jb;simp
theorem Ws {m:af} {nm i:Nat} {ds:List Int} (h:m.get nm=some (.obj false (ds.map (AV.int .i64)))) (hi:i < ds.length):aj none m (.ptr nm i)=some (.int .i64 (ds.getD i 0)):=by
 rw[dQ,h,kD,aa,uP,oO,bD hi,aS,bD hi];rfl
theorem WY (m:af) (n:Nat) (h:n<=100000):iP none 3 none (.int .i64 0) 8 m (.int .i64 n) (.int .i64 n)=some (.arr m.length 0 n none,m++[some (Ent.obj false ((jb [] n).map (AV.int .i64)))]):=by
 have h3:(n:Int) * 8<=281474976710656:=by omega
 have h4:(n:Int)<=9223372036854775807:=by omega
 have h5:(0:Int)<=n:=by omega
 simp only[iP,az,qQ,ql,bw,cK];rw[an ⟨h5,trivial,h3,h4⟩];simp[jb]
theorem qmS (m:af) (k:Nat):Fr m (ju m [k]) [k]:=⟨by rw[Bk];exact aQ _,fun x _ hx=>by rw[kI,ai hx]⟩
section
variable {s b1 b2 nm:Nat} {F0:List Nat} {arms:AV} {ar:List Int} {L:List RN} {zl:Bool} {ol:Own} {l0:List ND}
theorem qhk {kids:List Int} {ids:List Nat} {z:Bool} {o:Own} {kq n:Nat} {m1:af} (sG:kq≠nm) (uY:ids.length<=n) (hk:∀ k∈kids,∃ t:Nat,k=t/\t < ids.length) (fR:kids.length<=1000) (hkq:kq < m1.length) (p6:nm < m1.length) (uX:m1.get nm=some (.obj false ((jb ids n).map (AV.int .i64)))) (x0 x1 x4 x5 aN aX aV:AV) (K:KT):∀ (j c:Nat) (m:af),c+j=kids.length->Fr m1 m [kq]->m.get kq=some (.obj false ((jb ((kids.take c).map fun k=>ids.getD k.toNat 0) kids.length).map (AV.int .i64))) ->
  ∃ m',Cd x0 x1 (.arr nm 0 n none) x4 x5 (.arr kq 0 kids.length none) aN aX aV (IA z o kids) (.int .i64 kids.length) (.int .i64 c) m (B5 K)=B5 K (.exit 2) (Kv x0 x1 (.arr nm 0 n none) x4 x5 (.arr kq 0 kids.length none) aN aX aV m')/\Fr m1 m' [kq]/\m'.get kq=some (.obj false (((kids.map fun k=>ids.getD k.toNat 0).map Int.ofNat).map (AV.int .i64))):=by
 intro j
 induction j with
 | zero=>
  intro c m hc f hg
  refine ⟨m,?_,f,?_⟩
  ·rw[Qa,bh,aa,aA,ai (by omega)]
  ·rw[hg,jQ (by omega)];have:kids.length=(kids.map fun k=>ids.getD k.toNat 0).length:=by rw[bX]
   rw[this,qku]
 | succ j ih=>
  intro c m hc f hg;have hcl:c < kids.length:=by omega
  obtain ⟨t,et,ht⟩:=hk _ (bS hcl);have DJ:m.get nm=some (.obj false ((jb ids n).map (AV.int .i64))):=(f.get nm p6 (by simpa using fun e=>sG e.symm)).trans uX;have qlM:=bF hg;have ld:=Ws DJ (i:=t) (by rw[Dk uY];omega);rw[TW ht] at ld;have gy:((kids.take c).map fun k=>ids.getD k.toNat 0).length=c:=by rw[bX,jP];omega
  have st:=Je (y:=((ids.getD t 0:Nat):Int)) hg (i:=c) (by rw[Dk (by omega)];omega)
  have e1:(jb ((kids.take c).map fun k=>ids.getD k.toNat 0) kids.length).set c ((ids.getD t 0:Nat):Int)=jb ((kids.take (c+1)).map fun k=>ids.getD k.toNat 0) kids.length:=by
   have:=L4 (ids:=(kids.take c).map fun k=>ids.getD k.toNat 0) (n:=kids.length) (by omega) (ids.getD t 0);rw[gy] at this;rw[this,n7 hcl,kU,et];rfl
  rw[e1] at st;obtain ⟨m',e,k⟩:=ih (c+1) _ (by omega) (f.set _ (.inl (by simp))) (c8 rfl qlM);refine ⟨m',?_,k⟩;rw[Qa,bh,aa,aA,an (by omega),jB hcl,aa,fV,aa,et,fZ (by omega),aa,ld,aa,fZ hcl,aa,st,aa,cB (by omega),aa];exact e
theorem W66 (h:oQ ar L) (h1:∀ x∈ar,1<=x/\x<=64) (cH:ar.length<=16) (g0:GoodL ar l0) (hl:l0.length+L.length < 4000) (hL:0 < L.length) {m0:af} (p6:m0.length<=nm) (hb1:b1 < m0.length) (hb2:b2 < m0.length) (qlo:b1∉F0) (qlp:b2∉F0) (hF0:∀ y∈F0,y < m0.length) (uX:m0.get b1=some (.obj true [RL zl ol L])) (ow:m0.get b2=some (.obj true [.ptr s 0])) :
  ∀ (j i:Nat) (m:af) (F:List Nat),i+j=L.length->dC m s F arms 4000 (mf L l0 i).1->m.get nm=some (.obj false ((jb (mf L l0 i).2 L.length).map (AV.int .i64)))->nm∉F->Fr m0 m F0->Gr m0 F0 F ->
   ∃ m' F',xE (.ptr b1 0) (.ptr b2 0) (.arr nm 0 L.length none) (RL zl ol L) (.int .i64 L.length) (.int .i64 i) m (xA (aE ae.P f108.results.toList))=some (.int .i64 ((mf L l0 L.length).2.getD (L.length - 1) 0:Nat),m')/\dC m' s F' arms 4000 (mf L l0 L.length).1/\Fr m0 m' F0/\Gr m0 F0 F':=by
 intro j
 induction j with
 | zero=>
  intro i m F hi st hg yE f gr;obtain rfl:i=L.length:=by omega
  have I:=Bm h h1 cH g0 (by omega) L.length (aQ _);refine ⟨m,F,?_,st,f,gr⟩;have gb1:m.get b1=some (.obj true [RL zl ol L]):=(f.get b1 hb1 qlo).trans uX;have hlt:=I.len;have ld:=Ws hg (i:=L.length - 1) (by rw[Dk (by omega)];omega);rw[TW (by omega)] at ld;rw[P9,bh,aa,aA,ai (by omega),qar,oZ gb1,aa,Ec,aa,oY (by omega) (by omega),aa,fZ (by omega),aa,ld,aa]
 | succ j ih=>
  intro i m F hi st hg yE f gr;have b6:i < L.length:=by omega
  have I:=Bm h h1 cH g0 (by omega) i (by omega);have I2:=Bm h h1 cH g0 (by omega) (i+1) (by omega);have es:=Iu (l:=l0) b6;obtain ⟨r0,e0,A8⟩:=I.gr;have eE:(mf L l0 i).1.length<=l0.length+i:=by rw[e0,aI];omega
  have rv:=I.len;generalize mf L l0 i=p at *;obtain ⟨l,ids⟩:=p;simp only at st hg I e0 eE rv;have jz:L.getD i dz=L[i]:=by rw[aS,bD b6,dh]
  have gW:=NO (z:=zl) (o:=ol) b6;have ql0:=bF hg
  have bNotF:∀ b,b < m0.length->b∉F0->b∉F:=fun b hb hbF hh=>by
   rcases gr b hh with h4 | h4
   ·exact hbF h4
   ·omega
  have sn:aL (some 3) (m++[some (Ent.obj true [.int .i64 0,au,.int .i64 0])]) (.ptr m.length 0) (.agg [.int .i64 L[i].var,IA L[i].z L[i].o L[i].kids,.int .i64 L[i].leaf])=some (m++[some (Ent.obj true [.int .i64 L[i].var,IA L[i].z L[i].o L[i].kids,.int .i64 L[i].leaf])]):=Pd rfl;have f4:Fr m (m++[some (Ent.obj true [.int .i64 L[i].var,IA L[i].z L[i].o L[i].kids,.int .i64 L[i].leaf])]) []:=Fr.app m _ _;have gq:af.get (m++[some (Ent.obj true [.int .i64 L[i].var,IA L[i].z L[i].o L[i].kids,.int .i64 L[i].leaf])]) m.length=some (Ent.obj true [.int .i64 L[i].var,IA L[i].z L[i].o L[i].kids,.int .i64 L[i].leaf]):=bJ rfl;have l4:(m++[some (Ent.obj true [.int .i64 L[i].var,IA L[i].z L[i].o L[i].kids,.int .i64 L[i].leaf])]).length=m.length+1:=by simp
  generalize m++[some (Ent.obj true [.int .i64 L[i].var,IA L[i].z L[i].o L[i].kids,.int .i64 L[i].leaf])]=m4 at sn f4 gq l4;have ld0:aj none m4 (.ptr m.length (0+0))=some (.int .i64 L[i].var):=by rw[dQ,gq];rfl
  have ld1:aj none m4 (.ptr m.length (0+1))=some (IA L[i].z L[i].o L[i].kids):=by rw[dQ,gq];rfl
  have ld2:aj none m4 (.ptr m.length (0+2))=some (.int .i64 L[i].leaf):=by rw[dQ,gq];rfl
  have fm:=f.len;have gb2:m.get b2=some (.obj true [.ptr s 0]):=(f.get b2 hb2 qlp).trans ow;have gb24:m4.get b2=some (.obj true [.ptr s 0]):=(f4.get b2 (by omega) (by simp)).trans gb2;have gn4:m4.get nm=some (.obj false ((jb ids L.length).map (AV.int .i64))):=(f4.get nm ql0 (by simp)).trans hg;have f04:Fr m0 m4 F0:=Fr.trans f f4 fun _ hh=>by cases hh
  have st4:=st.app f4;have e1:xE (.ptr b1 0) (.ptr b2 0) (.arr nm 0 L.length none) (RL zl ol L) (.int .i64 L.length) (.int .i64 i) m (xA (aE ae.P f108.results.toList))=_:=P9 _ _ _ _ _ _ m _;rw[bh,aa,aA,an (by omega),gW,aa,yV,aa,nM,nM] at e1;dsimp only at e1;rw[sn,aa,gI,aa,ld0,aa,bh,aa,aA] at e1;unfold zp at es;rw[jz] at es;dsimp only at es
  by_cases hv:L[i].var < 0
  ·rw[an hv] at es;obtain ⟨r,er,J,bl1,bl2⟩:=WL h b6 I (by rw[jz];exact hv);rw[jz] at er J bl1 bl2;obtain ⟨m5,F5,e54,k1,k2,k3⟩:=PJ st4 (x:=L[i].leaf) ⟨bl1,bl2⟩ (by omega) (by omega);have gn5:m5.get nm=some (.obj false ((jb ids L.length).map (AV.int .i64))):=(k2.get nm (by omega) yE).trans gn4
   have VA:nm∉F5:=fun hh=>by
    rcases k3 nm hh with h4 | h4
    ·exact yE h4
    ·omega
   have sti:=Je (y:=((l.idxOf (iD L[i].leaf):Nat):Int)) gn5 (i:=i) (by rw[Dk (by omega)];omega);have ecs:=L4 (ids:=ids) (n:=L.length) (by omega) (l.idxOf (iD L[i].leaf));rw[rv] at ecs;rw[ecs] at sti;rw[an hv,oZ gb24,aa,gI,aa,ld2,aa,e54,aa,fZ b6,aa,sti,aa,cB (by omega),aa] at e1;have Nj:=bF gn5
   have DK:Gr m F F5:=fun y hy=>by
    rcases k3 y hy with h4 | h4
    ·exact .inl h4
    ·exact .inr (by omega)
   obtain ⟨m',F',e,k⟩:=ih (i+1) (m5.set nm (some (.obj false ((jb (ids++[l.idxOf (iD L[i].leaf)]) L.length).map (AV.int .i64))))) F5 (by omega) (by rw[es];exact k1.move fun y hy=>cG (fun e=>VA (e▸hy))) (by rw[es];exact c8 rfl Nj) VA ((Fr.trans f04 k2 gr).set _ (.inr p6)) (Gr.trans f.len gr DK);exact ⟨m',F',e1.trans e,k⟩
  ·rw[ai hv] at es;obtain ⟨r,id,er,J,wK,A2⟩:=WQ h h1 cH b6 I (by omega) (by rw[jz];exact hv);obtain ⟨v,nh,fS,fR,vc⟩:=O4 h b6 (by rw[jz];omega);rw[jz] at er wK A2 nh fR vc;have lL:=h1 _ (bS fS);have aU:ar.getD v 0=ar[v]:=by rw[aS,bD fS,dh]
   have qlL:L[i].kids.length<=1000:=by omega
   have mk:=WY m4 L[i].kids.length (by omega);have f5:Fr m4 (m4++[some (Ent.obj false ((jb [] L[i].kids.length).map (AV.int .i64)))]) []:=Fr.app m4 _ _;have gk:af.get (m4++[some (Ent.obj false ((jb [] L[i].kids.length).map (AV.int .i64)))]) m4.length=some (Ent.obj false ((jb [] L[i].kids.length).map (AV.int .i64))):=bJ rfl;have l5:(m4++[some (Ent.obj false ((jb [] L[i].kids.length).map (AV.int .i64)))]).length=m4.length+1:=by simp
   generalize m4++[some (Ent.obj false ((jb [] L[i].kids.length).map (AV.int .i64)))]=m5 at mk f5 gk l5;have ld15:aj none m5 (.ptr m.length (0+1))=some (IA L[i].z L[i].o L[i].kids):=by rw[dQ,f5.get _ (by omega) (by simp),gq];rfl
   have gn5:m5.get nm=some (.obj false ((jb ids L.length).map (AV.int .i64))):=(f5.get nm (by omega) (by simp)).trans gn4
   obtain ⟨m6,e9,f6,gk6⟩:=qhk (nm:=nm) (kids:=L[i].kids) (ids:=ids) (z:=L[i].z) (o:=L[i].o) (kq:=m4.length) (n:=L.length) (m1:=m5) (by omega) (by omega) (fun k bO=>by
    obtain ⟨t,rfl,ht,_⟩:=vc k bO
    exact ⟨t,rfl,by omega⟩) qlL (by omega) (by omega) gn5 (.ptr b1 0) (.ptr b2 0) (.int .i64 i) (.ptr m.length 0) (RL zl ol L) (.int .i64 L.length) (.int .i64 i) (xA (aE ae.P f108.results.toList)) L[i].kids.length 0 m5 (by omega) (Fr.refl _ _) gk
   have e9:Cd (.ptr b1 0) (.ptr b2 0) (.arr nm 0 L.length none) (.int .i64 i) (.ptr m.length 0) (.arr m4.length 0 L[i].kids.length none) (RL zl ol L) (.int .i64 L.length) (.int .i64 i) (IA L[i].z L[i].o L[i].kids) (.int .i64 L[i].kids.length) (.int .i64 0) m5 (B5 (xA (aE ae.P f108.results.toList)))=_:=e9;have lm6:=f6.len;have g6:∀ y,y < m4.length->m6.get y=m4.get y:=fun y hy=>(f6.get y (by omega) (by simp;omega)).trans (f5.get y (by omega) (by simp));have gb26:m6.get b2=some (.obj true [.ptr s 0]):=(g6 b2 (by omega)).trans gb24;have ld06:aj none m6 (.ptr m.length (0+0))=some (.int .i64 L[i].var):=by rw[dQ,g6 _ (by omega),gq];rfl
   have f7:=qmS m6 m4.length;have l7:=f7.len;have g7:∀ y,y < m4.length->af.get (ju m6 [m4.length]) y=m4.get y:=fun y hy=>(f7.get y (by omega) (by simp;omega)).trans (g6 y hy);have st7:dC (ju m6 [m4.length]) s F arms 4000 l:=st4.move fun y hy=>g7 y (st4.lt y hy)
   have hfz:bG m6 j6 (.arr m4.length 0 L[i].kids.length none)=some (IA false .no ((L[i].kids.map fun k=>ids.getD k.toNat 0).map Int.ofNat),[m4.length]):=by
    have:=qkY gk6;rw[bX,bX] at this;exact this
   have hmf:eY (AF m6) [.ptr s 0,.int .i64 L[i].var,.arr m4.length 0 L[i].kids.length none]=some ([.ptr s 0,.int .i64 L[i].var,IA false .no ((L[i].kids.map fun k=>ids.getD k.toNat 0).map Int.ofNat)],[m4.length]):=by
    simp[eY,AF,hfz]
   obtain ⟨m8,F8,e59,k1,k2,k3⟩:=PK st7 (v:=L[i].var) (z:=false) (o:=.no) (ks:=(L[i].kids.map fun k=>ids.getD k.toNat 0).map Int.ofNat) (by simpa using A2) wK rfl (.inl rfl) (by omega) (by omega);rw[er] at e59 k1 es;dsimp only at e59 k1 es
   have hc:yi (AC ae) m6 99 [.ptr s 0,.int .i64 L[i].var,.arr m4.length 0 L[i].kids.length none]=some (.int .i64 (id:Nat),m8):=by
    unfold yi;rw[hmf,aa];exact e59
   have gn8:m8.get nm=some (.obj false ((jb ids L.length).map (AV.int .i64))):=(k2.get nm (by omega) yE).trans ((g7 nm (by omega)).trans gn4)
   have VB:nm∉F8:=fun hh=>by
    rcases k3 nm hh with h4 | h4
    ·exact yE h4
    ·omega
   have sti:=Je (y:=((id:Nat):Int)) gn8 (i:=i) (by rw[Dk (by omega)];omega);have ecs:=L4 (ids:=ids) (n:=L.length) (by omega) id;rw[rv] at ecs;rw[ecs] at sti;rw[ai hv,gI,aa,ld1,aa,iE,aa,mk,aa,aa,ld15,aa,iE,aa,e9,qaw,oZ gb26,aa,gI,aa,ld06,aa,hc,aa,fZ b6,aa,sti,aa,cB (by omega),aa] at e1;have hn8:=bF gn8
   have DK:Gr m F F8:=fun y hy=>by
    rcases k3 y hy with h4 | h4
    ·exact .inl h4
    ·exact .inr (by omega)
   have F48:Fr m0 m8 F0:=Fr.trans (Fr.trans (Fr.trans (Fr.trans f04 f5 fun _ hh=>by cases hh) f6 fun y hy=>by
    obtain rfl:y=m4.length:=by simpa using hy
    exact .inr (by omega)) f7 fun y hy=>by
    obtain rfl:y=m4.length:=by simpa using hy
    exact .inr (by omega)) k2 gr
   obtain ⟨m',F',e,k⟩:=ih (i+1) (m8.set nm (some (.obj false ((jb (ids++[id]) L.length).map (AV.int .i64))))) F8 (by omega) (by rw[es];exact k1.move fun y hy=>cG (fun e=>VB (e▸hy))) (by rw[es,cK];exact c8 rfl hn8) VB (F48.set _ (.inr p6)) (Gr.trans f.len gr DK);exact ⟨m',F',e1.trans e,k⟩
end
end Go.Ab
namespace Go.Ab
open Go.Proofs Go.Proofs.Tryz
theorem qjX (sh:Sh) (z:Bool) (o:Own) (es:List AV) (m:af):dI none none m (.lst sh z o es)=some (.ptr m.length 0,m++[some (Ent.obj true [.lst sh z o es])]):=rfl
section
variable {s:Nat} {zs zl:Bool} {os ol:Own} {ar:List Int} {F:List Nat} {l0:List ND} {L:List RN}
theorem ZM (h:oQ ar L) (h1:∀ x∈ar,1<=x/\x<=64) (cH:ar.length<=16) (g0:GoodL ar l0) (hl:l0.length+L.length < 4000) (hL:0 < L.length) {arms:AV} {m:af} (st:dC m s F arms 4000 l0) {b1 b2:Nat} (hF1:b1∉F) (hF2:b2∉F) (g1:m.get b1=some (.obj true [RL zl ol L])) (g2:m.get b2=some (.obj true [.ptr s 0])) :
  ∃ m' F',AC ae 108 [.ptr b1 0,.ptr b2 0] m=some (.int .i64 ((mf L l0 L.length).2.getD (L.length - 1) 0:Nat),m')/\dC m' s F' arms 4000 (mf L l0 L.length).1/\Fr m m' F/\Gr m F F':=by
 have mk:=WY m L.length (by omega);have f1:=Fr.app m (some (Ent.obj false ((jb [] L.length).map (AV.int .i64)))) F;have hb1:=bF g1;obtain ⟨m',F',e,k⟩:=W66 (s:=s) (nm:=m.length) (arms:=arms) (zl:=zl) (ol:=ol) h h1 cH g0 hl hL (aQ _) hb1 (bF g2) hF1 hF2 st.lt g1 g2 L.length 0 (m++[some (Ent.obj false ((jb [] L.length).map (AV.int .i64)))]) F (by omega) (st.app (Fr.app m _ _)) (bJ rfl) (fun hh=>by have:=st.lt _ hh;omega) f1 (Gr.refl _ _);refine ⟨m',F',?_,k⟩;have e:xE (.ptr b1 0) (.ptr b2 0) (.arr m.length 0 L.length none) (RL zl ol L) (.int .i64 L.length) (.int .i64 0) (m++[some (Ent.obj false ((jb [] L.length).map (AV.int .i64)))]) (xA (aE ae.P f108.results.toList))=_:=e;rw[qfD,oZ g1,aa,Ec,aa,mk,aa,oZ (show af.get (m++[some (Ent.obj false ((jb [] L.length).map (AV.int .i64)))]) b1=some (.obj true [RL zl ol L]) by rw[bY hb1];exact g1),aa,Ec,aa];exact e
theorem ZU (h:qb ar L L.length 0=true) (h1:∀ x∈ar,1<=x/\x<=64) (cH:ar.length<=16) (g0:GoodL ar l0) (hl:l0.length+L.length < 4000) {m:af} (st:dC m s F (IA zs os ar) 4000 l0) :
  ∃ m' F',AC ae 44 [.ptr s 0,RL zl ol L] m=some (.tup [.int .i64 ((mf L l0 L.length).2.getD (L.length - 1) 0:Nat),.int .i64 0],m')/\dC m' s F' (IA zs os ar) 4000 (mf L l0 L.length).1/\Fr m m' F/\Gr m F F':=by
 obtain ⟨hL,vn⟩:=Xy L.length 0 (by omega) h;have vn:oQ ar L:=fun i hi=>vn i (kW _) hi;have f2:Fr m ((m++[some (Ent.obj true [.ptr s 0])])++[some (Ent.obj true [RL zl ol L])]) []:=(Fr.app m _ _).snoc _;have st2:=st.app f2;have e50:=B0 st2 (by omega)
 have hs:∃ na p,af.get m s=some (Ent.obj true [IA zs os ar,na,.mref p,.int .i64 4000]):=by
  obtain ⟨p,na,T,h,rfl⟩:=st;exact ⟨na,p,h.hs⟩
 obtain ⟨na,p,hs⟩:=hs;have mK:=bF hs;have p65:=fun d m=>qn7 zs zl os ol ar L (by omega) h1 d m;rw[h] at p65
 obtain ⟨m',F',id,l',e52,hQ,k1,k2,k3⟩:=ZX (g:=108) (caps:=[.ptr (m.length+1) 0,.ptr m.length 0]) (Q:=fun id l'=>id=((mf L l0 L.length).2.getD (L.length - 1) 0:Nat)/\l'=(mf L l0 L.length).1) st2 rfl rfl rfl
  (fun m1 fr=>by
   obtain ⟨m',F',e,k1,k2,k3⟩:=ZM (zl:=zl) (ol:=ol) vn h1 cH g0 hl hL (st2.app fr) (b1:=m.length+1) (b2:=m.length) (fun hh=>by have:=st.lt _ hh;omega) (fun hh=>by have:=st.lt _ hh;omega) (by rw[fr.get _ (by simp) (by simp)];exact (by simp (disch:=(first | assumption | omega | (simp only[aI,a8,aJ,aP];first | done | omega))) only[gM,bY,bJ,cG,c8];first | done | rfl)) (by rw[fr.get _ (by simp) (by simp)];exact (by simp (disch:=(first | assumption | omega | (simp only[aI,a8,aJ,aP];first | done | omega))) only[gM,bY,bJ,cG,c8];first | done | rfl))
   exact ⟨m',F',_,_,e,⟨rfl,rfl⟩,k1,k2,k3⟩)
 obtain ⟨rfl,rfl⟩:=hQ;refine ⟨m',F',?_,k1,Fr.trans (f2.mono (by simp)) k2 fun y hy=>.inl hy,Gr.trans f2.len (Gr.refl _ _) k3⟩;rw[T44]
 repeat ((with_reducible (first | apply bs | apply dJ));(focus (first | (simp (disch:=(first | assumption | omega | (simp only[aI,a8,aJ,aP];first | done | omega))) only[dH,beq_self_eq_true,cS,aa,Sh.size,bw,bP,Nat.reduceAdd,Nat.reduceLeDiff,aQ,pX,qjX,e50];first | done | rfl) | rfl));try dsimp only)
 rw[iC]
 repeat ((with_reducible (first | apply bs | apply dJ));(focus (first | (simp (disch:=(first | assumption | omega | (simp only[aI,a8,aJ,aP];first | done | omega))) only[dH,beq_self_eq_true,cS,aa,Sh.size,bw,bP,Nat.reduceAdd,Nat.reduceLeDiff,aQ,hs,p65];first | done | rfl) | rfl));try dsimp only)
 rw[kS,iC]
 repeat ((with_reducible (first | apply bs | apply dJ));(focus (first | (simp (disch:=(first | assumption | omega | (simp only[aI,a8,aJ,aP];first | done | omega))) only[dH,beq_self_eq_true,cS,aa,Sh.size,bw,bP,Nat.reduceAdd,Nat.reduceLeDiff,aQ,e52];first | done | rfl) | rfl));try dsimp only)
end
end Go.Ab
namespace Go.Ab
open Go.Proofs Go.Proofs.Tryz
inductive GS (e:Nat) (m:af):AV->List AV->List Nat->Prop
 | none:GS e m au [] []
 | some (t:Nat) (es:List AV) (ht:m.get t=some (.tok es.length 3)) (hne:es≠[]):GS e m (.lst (some 3) false (.tok t e) es) es [t]
end Go.Ab
namespace Go.Ab
open Go.Proofs Go.Proofs.Tryz
def jV (n:ND):RN:=⟨n.var,kz n,ko n,n.kids,n.leaf⟩
theorem qpC {n:ND} (h:n.ok):(jV n).av=n.av:=by
 unfold ND.av;rw[ua h];rfl
theorem qfq {z:Bool} {o:Own} {P:List ND} (h:∀ n∈P,n.ok):NL z o P=RL z o (P.map jV):=by
 have:(P.map jV).map RN.av=P.map ND.av:=by
  rw[rW];exact List.map_congr_left fun n hn=>qpC (h n hn)
 rw[RL,this]
section
variable {ar:List Int} {l:List ND}
theorem Am {P:List ND} {i:Nat} (hi:i < P.length):(P.map jV).getD i dz=jV P[i]:=by
 rw[aS,oO,bD hi];rfl
theorem Xz {L:List RN} (h:oQ ar L) (hL:0 < L.length):∀ (j i:Nat),i+j=L.length->qb ar L j i=true
 | 0,i,_=>dD hL
 | j+1,i,hi=>by rw[qb,h i (by omega),Xz h hL j (i+1) (by omega)];rfl
theorem Bo {out:List Nat} {i:Nat} (hi:i < out.length):(dn l out)[i]'(by unfold dn;rw[bX];exact hi)=nd l out out[i]:=by
 unfold dn;rw[rV]
theorem Df {out:List Nat} (hc:Cl l out) {i:Nat} (hi:i < out.length) (hj:out[i] < l.length) {k:Int} (hk:k∈l[out[i]].kids):out.idxOf k.toNat < i/\out[out.idxOf k.toNat]?=some k.toNat:=by
 have h1:=hc.cl i hi hj k hk;have h2:(out.take i).idxOf k.toNat < (out.take i).length:=List.idxOf_lt_length_of_mem h1
 have h3:out.idxOf k.toNat=(out.take i).idxOf k.toNat:=by
  conv=>lhs;rw[<- n6 i out]
  rw[List.idxOf_append,an h1]
 have h4:out.idxOf k.toNat < i:=by rw[h3];rw[jP] at h2;omega
 have h5:out.idxOf k.toNat < out.length:=by omega
 exact ⟨h4,by rw[bD h5,List.getElem_idxOf]⟩
theorem RD (g:GoodL ar l) {out:List Nat} (hc:Cl l out):oQ ar ((dn l out).map jV):=by
 intro i hi;have nc:((dn l out).map jV).length=out.length:=by unfold dn;rw[bX,bX]
 have j9:i < out.length:=by omega
 have uZ:i < (dn l out).length:=by unfold dn;rw[bX];exact j9
 have hj:=hc.lt _ (bS j9);rw[Am uZ,Bo j9]
 have hnd:jV (nd l out out[i])=⟨l[out[i]].var,kz (nd l out out[i]),ko (nd l out out[i]),l[out[i]].kids.map (fun k=>((out.idxOf k.toNat:Nat):Int)),l[out[i]].leaf⟩:=by
  unfold jV nd;rw[js hj]
 have bg:=g.ok _ (bS hj);unfold nq;rw[hnd]
 by_cases hv:l[out[i]].var < 0
 ·rcases bg with ⟨a1,a2,a3⟩ | ⟨a1,_⟩
  ·rw[an a1];exact dD ⟨by simp[a2],a3⟩
  ·omega
 ·rcases bg with ⟨a1,_⟩ | ⟨a1,a2,a3,a4,a5⟩
  ·omega
  ·have hne:¬ l[out[i]].var=-1:=by omega
   obtain ⟨b1,b2⟩:=g.var _ hj (by omega);rw[ai hne,b7];refine ⟨dD ⟨a1,b1,a3,by simpa using b2⟩,ga.2 fun q hq=>?_⟩;obtain ⟨k,hk,rfl⟩:=jf.1 hq;obtain ⟨c1,c2⟩:=Df hc j9 hj hk;obtain ⟨t,ek,ht,D3⟩:=g.kid _ hj (by omega) k hk;have gy:t < l.length:=by omega
   have D3:=D3 gy;have c3:out.idxOf k.toNat < out.length:=by omega
   have c4:out[out.idxOf k.toNat]=t:=by
    rw[bD c3] at c2;have:=pU c2;rw[this,ek,cK]
   unfold kidB;rw[cK,Am (by unfold dn;rw[bX];exact c3),Bo c3,c4];have vg:(jV (nd l out t)).var=l[t].var:=by unfold jV nd;rw[js gy]
   rw[vg,b7];refine ⟨dD (by omega),dD ?_⟩;unfold fD at D3
   split at D3
   ·exact .inr D3
   ·rcases g.ok _ (bS gy) with ⟨d1,_⟩ | ⟨d1,_⟩
    ·exact .inl d1
    ·omega
theorem Wx {n:ND} (h:n.ok) (hv:n.var < 0):iD n.leaf=n:=by
 rcases h with ⟨a1,a2,_⟩ | ⟨a1,_⟩
 ·obtain ⟨v,k,x⟩:=n;simp only at a1 a2;rw[a1,a2];rfl
 ·omega
theorem Xu {n:ND} (h:n.ok) (hv:¬ n.var < 0):hG n.var n.kids=n:=by
 rcases h with ⟨a1,_⟩ | ⟨_,_,a3,_⟩
 ·omega
 ·obtain ⟨v,k,x⟩:=n;simp only at a3;rw[a3];rfl
theorem Xs {l:List ND} {v:Int} {ks:List Int} (h:∃ k∈ks,k≠ks.headD 0):nN l v ks=(((l.idxOf (hG v ks):Nat):Int),ji l (hG v ks)):=by
 unfold nN;rw[ai];intro hh;obtain ⟨k,hk,hne⟩:=h;exact hne (by simpa using ga.1 hh k hk)
theorem WR (g:GoodL ar l) {out:List Nat} (hc:Cl l out):∀ i,i<=out.length->mf ((dn l out).map jV) l i=(l,out.take i)
 | 0,_=>rfl
 | i+1,hi=>by
  have j9:i < out.length:=by omega
  have uZ:i < (dn l out).length:=by unfold dn;rw[bX];exact j9
  have hj:=hc.lt _ (bS j9);have bg:=g.ok _ (bS hj);rw[Iu (by rw[bX];exact uZ),WR g hc i (by omega),Am uZ,Bo j9,n7 j9];have e1:(jV (nd l out out[i])).var=l[out[i]].var:=by unfold jV nd;rw[js hj]
  have e2:(jV (nd l out out[i])).leaf=l[out[i]].leaf:=by unfold jV nd;rw[js hj]
  have e3:(jV (nd l out out[i])).kids=l[out[i]].kids.map (fun k=>((out.idxOf k.toNat:Nat):Int)):=by unfold jV nd;rw[js hj]
  have fW:l[out[i]]∈l:=bS hj;have gW:l.idxOf l[out[i]]=out[i]:=Bu g.nd (List.idxOf_lt_length_of_mem fW) hj (List.getElem_idxOf _);unfold zp;rw[e1,e2,e3]
  by_cases hv:l[out[i]].var < 0
  ·rw[an hv,Wx bg hv];simp only[ji,an fW,gW]
  ·rw[ai hv]
   have ek:((l[out[i]].kids.map (fun k=>((out.idxOf k.toNat:Nat):Int))).map fun k=>(out.take i).getD k.toNat 0).map Int.ofNat=l[out[i]].kids:=by
    rw[rW,rW]
    conv=>rhs;rw[<- List.map_id l[out[i]].kids]
    refine List.map_congr_left fun k hk=>?_;obtain ⟨c1,c2⟩:=Df hc j9 hj hk;obtain ⟨t,et,_⟩:=pJ g hj k hk;simp only[Function.comp,cK,id];rw[aS,qo,an c1,c2,dh,et];simp
   simp only[ek];rw[Xs (g.dif _ hj (by omega)),Xu bg hv];simp only[ji,an fW,gW,cK]
theorem qnh (g:GoodL ar l) {out:List Nat} (hc:Cl l out):(dn l out).Nodup:=by
 unfold dn;rw[List.nodup_iff_pairwise_ne,List.pairwise_map];refine List.Pairwise.imp_of_mem ?_ (List.nodup_iff_pairwise_ne.1 hc.nd);intro a b ha hb hne e;exact hne (Ot g (hc.lt a ha) (hc.lt b hb) (hc.kids ha (hc.lt a ha)) (hc.kids hb (hc.lt b hb)) e)
theorem qnC {α:Type} [DecidableEq α] {P:List α} (h:P.Nodup) {i:Nat} (hi:i < P.length):P[i]∉P.take i:=fun hm=>by
 obtain ⟨k,hk,e⟩:=pv hm;rw[jP] at hk;rw[List.getElem_take] at e;have:=Bu h (by omega) hi e;omega
theorem WO (g:GoodL ar l) (eE:l.length<=100000) {out:List Nat} (hc:Cl l out):∀ i,i<=out.length->mf ((dn l out).map jV) [] i=((dn l out).take i,List.range i)
 | 0,_=>rfl
 | i+1,hi=>by
  have j9:i < out.length:=by omega
  have uZ:i < (dn l out).length:=by unfold dn;rw[bX];exact j9
  have hj:=hc.lt _ (bS j9);have VF:=sU _ _ hc.nd hc.lt;have bg:=Ep g eE (p:=out) (by omega) hj;have p6:=qnC (qnh g hc) uZ;rw[Bo j9] at p6;have hlt:((dn l out).take i).length=i:=by rw[jP];omega
  rw[Iu (by rw[bX];exact uZ),WO g eE hc i (by omega),Am uZ,Bo j9,n7 uZ,Bo j9,List.range_succ];have e3:(nd l out out[i]).kids=l[out[i]].kids.map (fun k=>((out.idxOf k.toNat:Nat):Int)):=by unfold nd;rw[js hj]
  have e1:(nd l out out[i]).var=l[out[i]].var:=by unfold nd;rw[js hj]
  show zp _ (jV (nd l out out[i]))=_;unfold zp jV
  by_cases hv:(nd l out out[i]).var < 0
  ·simp only[an hv];rw[Wx bg hv];simp only[ji,ai p6,D9 p6,hlt]
  ·simp only[ai hv]
   have ek:((nd l out out[i]).kids.map fun k=>(List.range i).getD k.toNat 0).map Int.ofNat=(nd l out out[i]).kids:=by
    rw[e3,rW,rW];refine List.map_congr_left fun k hk=>?_;obtain ⟨c1,_⟩:=Df hc j9 hj hk;simp only[Function.comp,cK];rw[aS,List.getElem?_range c1,dh];rfl
   simp only[ek]
   have hd:∃ k∈(nd l out out[i]).kids,k≠(nd l out out[i]).kids.headD 0:=by
    obtain ⟨k,hk,hne⟩:=g.dif _ hj (by rw[e1] at hv;omega);rw[e3];refine ⟨_,List.mem_map_of_mem hk,fun e=>hne ?_⟩
    cases A3:l[out[i]].kids with
    | nil=>rw[A3] at hk;cases hk
    | cons k0 kt=>
     rw[A3,gd,List.headD_cons] at e;rw[List.headD_cons];have u6:k0∈l[out[i]].kids:=by rw[A3];exact fN
     obtain ⟨_,c2⟩:=Df hc j9 hj hk;obtain ⟨_,d2⟩:=Df hc j9 hj u6;have e':out.idxOf k.toNat=out.idxOf k0.toNat:=by omega
     rw[e'] at c2;rw[c2] at d2;have e4:=pU d2;obtain ⟨t,et,_⟩:=pJ g hj k hk;obtain ⟨t0,et0,_⟩:=pJ g hj k0 u6;omega
   rw[Xs hd,Xu bg hv];simp only[ji,ai p6,D9 p6,hlt,cK]
end
end Go.Ab
namespace Go.Ab
open Go.Proofs Go.Proofs.Tryz
theorem qjR {a b:ND} (ha:a.ok) (hb:b.ok) (h:a.av=b.av):a=b:=by
 unfold ND.av at h;rw[ua ha,ua hb] at h;simp only[AV.agg.injEq,po,AV.int.injEq,AV.lst.injEq,and_true,true_and] at h;obtain ⟨h1,⟨_,_,h2⟩,h3⟩:=h;have h2:=(List.map_inj_right (fun x y e=>by simpa using e)).1 h2;cases a;cases b;simp_all
theorem Xe:∀ {P Q:List ND},(∀ n∈P,n.ok)->(∀ n∈Q,n.ok)->P.map ND.av=Q.map ND.av->P=Q
 | [],[],_,_,_=>rfl
 | [],_::_,_,_,h=>by cases h
 | _::_,[],_,_,h=>by cases h
 | a::P,b::Q,hp,hq,h=>by
  simp only[gd,po] at h;rw[qjR (hp a fN) (hq b fN) h.1,Xe (fun n hn=>hp n (fJ _ hn)) (fun n hn=>hq n (fJ _ hn)) h.2]
theorem W49 {s:AV} {z:Bool} {o:Own} {L:List ND} (hL:L.length<=100000) (K:KT):∀ (q p:List ND) (m:af) (x:AV) (T:List Nat),L=p++q->NR 74 m x p T ->
  ∃ (m':af) (x':AV) (T':List Nat),Cs s x (NL z o L) (.int .i64 L.length) (.int .i64 p.length) m K=K (.exit 0) (K5 s x' m')/\NR 74 m' x' L T'/\Fr m m' T/\Gr m T T':=by
 intro q
 induction q with
 | nil=>
  intro p m x T gg h;rw[cm] at gg;subst gg;refine ⟨m,x,T,?_,h,Fr.refl _ _,Gr.refl _ _⟩;rw[QZ,bh,aa,aA,ai (by omega)]
 | cons n q ih=>
  intro p m x T gg h;have hpl:p.length < L.length:=by rw[gg];simp
  have iT:L[p.length]=n:=by simp[gg]
  have gW:=NN (z:=z) (o:=o) hpl;rw[iT] at gW;have bx:=Hn n m (HN m);have f1:Fr m (m++[some (Ent.obj true [.int .i64 n.var,dP n,.int .i64 n.leaf])]) T:=Fr.app m _ _;have h2:NR 74 (m++[some (Ent.obj true [.int .i64 n.var,dP n,.int .i64 n.leaf])]) x p T:=vB h fun k hk=>(Fr.app m _ []).get k (vA h k hk) (by simp);obtain ⟨x3,m3,T3,ea,n3,f3,g3⟩:=Xw h2 (by omega) n;obtain ⟨m',x',T',e,k1,k2,k3⟩:=ih (p++[n]) m3 x3 T3 (by rw[gg,gA];rfl) n3
  have g13:Gr m T T3:=fun a ha=>by
   rcases g3 a ha with hh | hh
   ·exact .inl hh
   ·rw[aI] at hh;exact .inr (by omega)
  have f13:Fr m m3 T:=Fr.trans f1 f3 fun a ha=>.inl ha;refine ⟨m',x',T',?_,k1,Fr.trans f13 k2 g13,Gr.trans f13.len g13 k3⟩
  have ld2:aj (some 3) (m++[some (Ent.obj true [.int .i64 n.var,dP n,.int .i64 n.leaf])]) (.ptr m.length 0)=some n.av:=by
   rw[dQ,bJ rfl];rfl
  have ov:dO (some 3) [n.av]=some (.lst (some 3) false .full [n.av]):=qj0 n;rw[QZ,bh,aa,aA,an (by omega),gW,aa,yV,aa,nM,nM];dsimp only;rw[bx,aa,ld2,aa,ov,aa,ea,aa,cB (by omega),aa];rw[aI] at e;exact e
theorem ZW {za zt:Bool} {oa ot:Own} {ar t:List Int} (m0:af) (VY:za=true->ar=[]) (he:om ar=0) (hp:bj ar<=300) (gy:t.length=bj ar) (NI:∀ y∈t,0<=y/\y<=4) :
  ∃ m' s F zs os P,AC ae 49 [IA za oa ar,IA zt ot t] m0=some (.tup [.ptr s 0,.int .i64 (P.length - 1:Nat),.bool true],m')/\dC m' s F (IA zs os ar) 4000 P/\GoodL ar P/\0 < P.length/\P.length < 4000/\TabV ar P (P.length - 1) 0 t/\Fr m0 m' []/\(∀ x∈F,m0.length<=x) /\
   dn P (Vi P (P.length - 1) [])=P/\∀ z o z' o',AP ae 31 [IA z o ar,IA z' o' t]=some (NL false .no P):=by
 obtain ⟨h1,h2⟩:=xV he;obtain ⟨mA,sA,FA,zA,oA,l1,id1,_,stA,g1,tab1,nc,_,_⟩:=ZS (za:=za) (z:=zt) (oa:=oa) (o:=ot) (ar:=ar) (t:=t) m0 VY he hp gy NI;have eE:l1.length<=100000:=by omega
 obtain ⟨c1,c2,_⟩:=qs g1 id1 tab1.lt [] ri;have eV:=tu g1 tab1.lt [];rw[ai (by simp)] at eV;have MB:=fun z o z' o'=>Sr g1 h2 eE h1 hp tab1 z z' o o';generalize qqk:Vi l1 id1 []=out at *;have VF:=sU _ _ c1.nd c1.lt;have ho0:0 < out.length:=List.length_pos_of_mem c2;have pG:(dn l1 out).length=out.length:=by unfold dn;rw[bX]
 have hne:dn l1 out≠[]:=fun e=>by rw[e] at pG;simp at pG;omega
 have bg:=Iy g1 eE c1;have vn:=RD g1 c1;have hLl:((dn l1 out).map jV).length=out.length:=by rw[bX,pG]
 have ql5:=Xz vn (by omega) ((dn l1 out).map jV).length 0 (by omega);obtain ⟨m4,s',F4,zs',os',e14,st4,f4,UJ⟩:=PE m0 za oa ar VY he;obtain ⟨m5,x5,T5,e49,Nj,f5,_⟩:=W49 (s:=.ptr s' 0) (z:=false) (o:=.no) (L:=dn l1 out) (by omega) (FC (aE ae.P f49.results.toList)) (dn l1 out) [] m4 au [] rfl .none;obtain ⟨tk,rfl⟩:=OA Nj hne;have hNR:=qfq (z:=false) (o:=.tok tk 74) bg;have st5:=st4.app f5;obtain ⟨m6,F6,e44,st6,f6,gr6⟩:=ZU (zl:=false) (ol:=.tok tk 74) ql5 h2 h1 MA (by simp;omega) st5;have tP:=WO g1 eE c1 out.length (aQ _);have I:=Bm vn h2 h1 MA (by simp;omega) out.length (by omega);have I0:=Bm vn h2 h1 g1 (by omega) out.length (by omega);have Nz:=WR g1 c1 out.length (aQ _);rw[hLl,tP] at e44 st6;rw[tP] at I;rw[Nz] at I0;have hPt:(dn l1 out).take out.length=dn l1 out:=by rw[<- pG,List.take_length]
 rw[hPt] at st6 I;dsimp only at e44 st6 I I0;rw[<- hNR] at e44;obtain ⟨a1,a2,a3⟩:=I.at_ (out.length - 1) (by omega);obtain ⟨b1,b2,b3⟩:=I0.at_ (out.length - 1) (by omega)
 have oW:out.getD (out.length - 1) 0=id1:=by
  rw[eV,aS];simp
 rw[List.take_length,oW] at b3
 have hx:(List.range out.length).getD (out.length - 1) 0=out.length - 1:=by
  rw[aS,List.getElem?_range (by omega)];rfl
 rw[hx] at a1 a2 a3 e44
 have tab2:TabV ar (dn l1 out) (out.length - 1) 0 t:=by
  refine ⟨tab1.len,a1,fun hh=>?_,fun y hy=>?_⟩
  ·have:=qhu I.g a1;rw[C4 a1] at this;exact this.1
  ·rw[a3 y hy,<- b3 y hy];exact tab1.val y hy
 have MC:=Sr I.g h2 (by omega) h1 hp tab2 za zt oa ot;obtain ⟨d1,_,_⟩:=qs I.g (out.length - 1) tab2.lt [] ri;have ql4:=Iy I.g (by omega) d1;rw[MB za oa zt ot] at MC;simp only[bM,AV.lst.injEq,true_and] at MC;have hsf:=Xe ql4 bg MC.symm
 refine ⟨m6,s',F6,zs',os',dn l1 out,?_,st6,I.g,by omega,by omega,by rw[pG];exact tab2,?_,?_,by rw[pG];exact hsf,fun z o z' o'=>MB z o z' o'⟩
 ·have p31:aD (AP ae) none m4 31 [IA za oa ar,IA zt ot t]=some (NL false .no (dn l1 out),m4):=by
   rw[fG (mG za oa ar) (mG zt ot t),MB];rfl
  have e49:Cs (.ptr s' 0) au (NL false .no (dn l1 out)) (.int .i64 (dn l1 out).length) (.int .i64 0) m4 (FC (aE ae.P f49.results.toList))=_:=e49;rw[T49,e14,aa,rj,aa,rl,aa,jg,aa,aA,ai (by omega),p31,aa,Wz,aa];dsimp only;rw[e49,qd1,e44,aa,rj,aa,rl,aa,iS,aa,pG]
  rfl
 ·exact Fr.trans (Fr.trans f4 f5 fun _ h=>by cases h) f6 fun x hx=>.inr (UJ x hx)
 ·intro x hx;have:=(f4.len);have:=(f5.len)
  rcases gr6 x hx with h | h
  ·exact UJ x h
  ·omega
end Go.Ab
namespace Go.Ab
open Go.Proofs Go.Proofs.Tryz
theorem WV.mulp {M N a S:Nat} {r p:RV} (hM:M < 4294967296 ^ 8) (h:WV M r (S * N)) (hS:S≠0) (hp:Can p (cT false a S)) (sJ:ROk 9 p) (hb:a * N<=M):∃ x:RV,AP ae 69 [p.av,r.av]=some x.av/\WV M x (a * N):=by
 obtain ⟨x,e,hc,hf⟩:=Lx sJ h.ok (by omega) (by omega);refine ⟨x,e,Can.wv hM hb ?_ hf⟩;rw[h.q,hp.q,zf] at hc;have e1:a * (S * N)=a * N * S:=by rw[cM S N,dZ]
 rw[show (false != false)=false from rfl,e1,cM S M,IW hS] at hc;exact hc
structure WC (M:Nat) (r:RV) (N:Nat):Prop where
 wv:WV M r N
 can:Can r (cT false N M)
theorem Can.wc {M N:Nat} {r:RV} (hM:M < 4294967296 ^ 8) (hN:N<=M) (h:Can r (cT false N M)) (hf:r.fr=r):WC M r N:=⟨Can.wv hM hN h hf,h⟩
theorem WC.add {M N1 N2:Nat} {r1 r2:RV} (hM:M < 4294967296 ^ 8) (h0:M≠0) (h1:WC M r1 N1) (h2:WV M r2 N2) (hb:N1+N2<=M):∃ x:RV,AP ae 71 [r1.av,r2.av]=some x.av/\WC M x (N1+N2):=by
 obtain ⟨x,e,hc,hf⟩:=Hd h1.wv.ok h2.ok (by omega) (by omega);rw[h1.wv.q,h2.q,IV h0] at hc;exact ⟨x,e,Can.wc hM hb hc hf⟩
section
variable {ar:List Int} {s:Nat->Nat->Nat}
theorem PU {φ ψ:(Nat->Nat)->Nat} (h:∀ b,φ b<=ψ b):∀ (d v:Nat) (a:Nat->Nat),Ct ar s d v φ a<=Ct ar s d v ψ a
 | 0,v,a=>h a
 | d+1,v,a=>Ph fun k _=>kG _ (PU h d (v+1) (upd a v k))
theorem qaf (l:List ND) (c:Int) (k:Nat):Hc ar s l c k<=PM ar s ar.length 0:=by
 unfold Hc;refine dY (PU (ψ:=fun _=>1) (fun b=>by split<;>omega) _ _ _) ?_;rw[Ff,kV];exact aQ _
end
def rc (r:RV):List AV:=[.bool r.neg,r.num.av,r.den.av]
theorem EB:∀ ws:List RV,(ws.flatMap rc).length=ws.length * 3
 | []=>rfl
 | r::ws=>by rw[pT,aI,EB ws,aJ,gO];simp[rc];omega
theorem Yo:∀ (ws:List RV) (k:Nat) (h:k < ws.length),((ws.flatMap rc).drop (k * 3)).take 3=rc ws[k]
 | r::ws,0,_=>by rw[pT];simp[rc]
 | r::ws,k+1,h=>by
  have e:((r::ws).flatMap rc).drop ((k+1) * 3)=(ws.flatMap rc).drop (k * 3):=by
   rw[pT,show (k+1) * 3=(rc r).length+k * 3 by simp[rc];omega,List.drop_length_add_append]
  rw[e,Yo ws k (by simpa using h)];rfl
inductive WA (m:af):AV->List RV->List Nat->Prop
 | none:WA m au [] []
 | some (t:Nat) (ws:List RV) (ht:m.get t=some (.obj false (ws.flatMap rc))) (hne:ws≠[]):WA m (.arr t 0 ws.length (some 3)) ws [t]
theorem ET {m m':af} {x:AV} {ws:List RV} {T:List Nat} (h:WA m x ws T) (f:∀ k∈T,m'.get k=m.get k):WA m' x ws T:=by
 cases h with
 | none=>exact .none
 | some t ws ht hne=>exact .some t ws ((f t (by simp)).trans ht) hne
theorem Jz {m:af} {x:AV} {ws:List RV} {T:List Nat} (h:WA m x ws T):∀ k∈T,k < m.length:=by
 cases h with
 | none=>simp
 | some t ws ht hne=>intro k hk;simp at hk;subst hk;exact bF ht
theorem qpY {m:af} {x:AV} {ws:List RV} {T:List Nat} (h:WA m x ws T) {k:Nat} (hk:k < ws.length):∃ a,aH (some 3) x (.int .i64 (k:Int))=some a/\∀ m':af,(∀ t∈T,m'.get t=m.get t)->aj (some 3) m' a=some ws[k].av:=by
 cases h with
 | none=>exact absurd hk (by simp)
 | some t ws ht hne=>
  refine ⟨.ptr t (k * 3),?_,fun m' f=>?_⟩
  ·have:(k:Int) < ws.length:=by omega
   simp[aH,this,Sh.size]
  ·rw[dQ,f t (by simp),ht,kD,aa];unfold ku;dsimp only;rw[an (by rw[EB];omega),Yo ws k hk];rfl
theorem qpX {m:af} {x:AV} {ws:List RV} {T:List Nat} (h:WA m x ws T) (hl:ws.length<=100000) {r:RV} (hr:r.fr=r):∃ x' m' t,b8 none true 43 (some 3) 56 m x (.lst (some 3) false .full [r.av])=some (x',m')/\WA m' x' (ws++[r]) [t]/\Fr m m' T/\m.length<=t:=by
 have hc:(([r.av]:List AV).flatMap AV.cells)=rc r:=by
  show AV.cells r.av++[]=_;rw[cm];rfl
 cases h with
 | none=>
  refine ⟨.arr m.length 0 1 (some 3),m++[some (.obj false (rc r))],m.length,rfl,.some m.length [r] (by rw[bJ rfl];simp[rc]) (by simp),Fr.app m _ _,aQ _⟩
 | some t ws ht hne=>
  have gy:=bF ht;have VW:0 < ws.length:=xJ.2 hne
  have hx:sY m (some 3) (.arr t 0 ws.length (some 3))=some (ws.length,ws.flatMap rc,m.set t none):=by
   unfold sY;dsimp only;rw[oL,ht,kD,aa];exact an ⟨rfl,rfl,VW,rfl,EB ws⟩
  have hy:w9 m (some 3) (.lst (some 3) false .full [r.av])=some (1,rc r):=by
   unfold w9;dsimp only;rw[an ⟨rfl,by simp⟩,hc];rfl
  refine ⟨.arr m.length 0 (ws.length+1) (some 3),m.set t none++[some (.obj false (ws.flatMap rc++rc r))],m.length,?_,?_,?_,aQ _⟩
  ·show sc none true (some 3) 56 m (.arr t 0 ws.length (some 3)) (.lst (some 3) false .full [r.av])=_;unfold sc;dsimp only;rw[hy,aa,hx,aa];dsimp only;rw[an (by unfold gG;omega),a8]
  ·have hws:(ws++[r]).flatMap rc=ws.flatMap rc++rc r:=by rw[List.flatMap_append];simp
   have:=WA.some (m:=m.set t none++[some (.obj false (ws.flatMap rc++rc r))]) m.length (ws++[r]) (by rw[hws];exact bJ (by rw[a8])) (by simp);rw[aI,tn] at this;exact this
  ·exact ((Fr.refl m [t]).set _ (.inl (by simp))).snoc _
section
variable {ar:List Int} {L:OL} {l:List ND} {M:Nat}
theorem qhq (hO:OddsOk ar L) (wz:L.fr=L) (mY:M < 4294967296 ^ 8) (h0:M≠0) {u B:Nat} (kd:u < L.es.length) {q:Nat->Nat} {kids:List Int} (fR:kids.length=jr ar u) (M9:jr ar u<=64) (hB:B<=M) (hs:B=ij (jr ar u) fun j=>bf L u j * q j)
  {m0:af} {wv:AV} {ws:List RV} {T:List Nat} (hW:WA m0 wv ws T) (Nc:∀ j,j < kids.length->∃ t:Nat,kids.getD j 0=t/\∃ h:t < ws.length,WV M ws[t] (SS ar (bf L) u * q j)) {z:Bool} {o:Own} (lf:AV) (x8:AV) (K:KT):∀ (d j:Nat) (sm:RV),j+d=kids.length->WC M sm (ij j fun j=>bf L u j * q j) ->
  ∃ sm':RV,zM L.av wv (.ptr m0.length 0) x8 (.ptr (m0.length+2) 0) (IA z o kids) (.int .i64 kids.length) (.int .i64 j) (((m0++[some (.obj true [.int .i64 u,IA z o kids,lf])])++[bZ])++[bR sm]) K=K (.exit 0) (GL x8 (.ptr (m0.length+2) 0) (((m0++[some (.obj true [.int .i64 u,IA z o kids,lf])])++[bZ])++[bR sm']))/\WC M sm' B:=by
 intro d
 induction d with
 | zero=>
  intro j sm hj hw
  refine ⟨sm,?_,?_⟩
  ·rw[FO,bh,aa,aA,ai (by omega)]
  ·rw[hs,<- fR,show kids.length=j by omega];exact hw
 | succ d ih=>
  intro j sm hj hw;have lP:j < kids.length:=by omega
  obtain ⟨t,et,gy,wt⟩:=Nc j lP;have DM:kids[j]=(t:Int):=by rw[<- et,aS,bD lP];rfl
  have M6:j < L.es[u].ns.length:=by have:=(hO.row u kd).2;unfold jr at fR;omega
  obtain ⟨p,ep,cp,op,fp⟩:=XR hO kd M6;have qqn:bf L u j * q j<=B:=by rw[hs];exact Zd (fun j=>bf L u j * q j) (by omega)
  obtain ⟨x,ex,wx⟩:=wt.mulp mY (Nat.pos_iff_ne_zero.1 (hO.ss kd).2.1) cp op (by omega);have nH:ij (j+1) (fun j=>bf L u j * q j)<=B:=by rw[hs];exact Ze (by omega)
  rw[pP] at nH;obtain ⟨y,ey,wy⟩:=hw.add mY h0 wx (by omega);obtain ⟨a,ia,la⟩:=qpY hW gy;have hT:=Jz hW;generalize yD:((m0++[some (Ent.obj true [.int .i64 u,IA z o kids,lf])])++[bZ])++[bR sm]=mm;have iN:mm.length=m0.length+3:=by rw[<- yD];simp
  have g0:mm.get m0.length=some (.obj true [.int .i64 u,IA z o kids,lf]):=by rw[<- yD,bY (by simp),bY (by simp),bJ rfl]
  have g2:mm.get (m0.length+2)=bR sm:=by rw[<- yD];exact bJ (by simp)
  have gT:∀ t∈T,mm.get t=m0.get t:=fun t ht=>by
   have:=hT t ht;rw[<- yD,bY (by simp;omega),bY (by simp;omega),bY this]
  obtain ⟨sm',e,k⟩:=ih (j+1) y (by omega) (by rw[pP];exact wy);refine ⟨sm',?_,k⟩;have ldv:aj none mm (.ptr m0.length (0+0))=some (.int .i64 u):=by rw[dQ,g0];rfl
  have p70:aD (AP ae) (some mm.length) mm 70 [L.es[u].av,.int .i64 j]=some (p.av,mm):=by rw[fG (Pq.fz_il _) (gh _ _),ep];rfl
  have p69:aD (AP ae) (some mm.length) mm 69 [p.av,ws[t].av]=some (x.av,mm):=by rw[fG (gU p) (gU _),fp,wt.fr,ex];rfl
  have p71:aD (AP ae) (some mm.length) mm 71 [sm.av,x.av]=some (y.av,mm):=by rw[fG (gU sm) (gU x),hw.wv.fr,wx.fr,ey];rfl
  have st:aL (some 3) mm (.ptr (m0.length+2) 0) y.av=some (((m0++[some (Ent.obj true [.int .i64 u,IA z o kids,lf])])++[bZ])++[bR y]):=by
   rw[qM g2,<- yD,qg _ _ _ (by simp)]
  rw[FO,bh,aa,aA,an (by omega),jB lP,aa,DM,fV,aa,oJ g2,aa,gI,aa,ldv,aa,Pq.index_ol kd,aa,Pq.load_ol,aa,p70,aa];dsimp only;rw[ia,aa,la mm gT,aa,p69,aa];dsimp only;rw[p71,aa];dsimp only;rw[st,aa,cB (by omega),aa];exact e
theorem ZN (hO:OddsOk ar L) (wz:L.fr=L) (g:GoodL ar l) (h1:∀ x∈ar,1<=x/\x<=64) (c:Int) (hM:M=PM ar (bf L) ar.length 0) (h0:M≠0) (mY:M < 4294967296 ^ 8) {i:Nat} (hi:i < l.length) {ws:List RV} (hws:∀ k (h:k < ws.length),WV M ws[k] (Hc ar (bf L) l c k)) (b6:i<=ws.length) {m0:af} {wv:AV} {T:List Nat} (hW:WA m0 wv ws T) :
  ∃ (m':af) (sm:RV),AC ae 110 [L.av,l[i].av,.int .i64 c,wv] m0=some (sm.av,m')/\WC M sm (Hc ar (bf L) l c i)/\Fr m0 m' []:=by
 have bg:=g.ok _ (bS hi);have eav:l[i].av=.agg [.int .i64 l[i].var,IA (kz l[i]) (ko l[i]) l[i].kids,.int .i64 l[i].leaf]:=by unfold ND.av;rw[ua bg]
 generalize kz l[i]=z at eav;generalize ko l[i]=o at eav;have bx:dI none (some 3) m0 (.agg [.int .i64 l[i].var,IA z o l[i].kids,.int .i64 l[i].leaf])=some (.ptr m0.length 0,m0++[some (Ent.obj true [.int .i64 l[i].var,IA z o l[i].kids,.int .i64 l[i].leaf])]):=rfl;generalize lQ:m0++[some (Ent.obj true [.int .i64 l[i].var,IA z o l[i].kids,.int .i64 l[i].leaf])]=m1 at bx;have nc:m1.length=m0.length+1:=by rw[<- lQ];simp
 have f1:Fr m0 m1 []:=by rw[<- lQ];exact Fr.app m0 _ _
 have g1:m1.get m0.length=some (.obj true [.int .i64 l[i].var,IA z o l[i].kids,.int .i64 l[i].leaf]):=by rw[<- lQ];exact bJ rfl
 have l0:∀ e,aj none (m1++[e]) (.ptr m0.length (0+0))=some (.int .i64 l[i].var):=fun e=>by rw[dQ,bY (by omega),g1];rfl
 have l1:∀ e,aj none (m1++[e]) (.ptr m0.length (0+2))=some (.int .i64 l[i].leaf):=fun e=>by rw[dQ,bY (by omega),g1];rfl
 have sto:∀ r:RV,aL (some 3) (m1++[bZ]) (.ptr m1.length 0) r.av=some (m1++[bR r]):=fun r=>by
  rw[qM (c1:=.bool false) (c2:=au) (c3:=au) (bJ rfl),qg m1 _ _ rfl]
 have p64:∀ d m,aD (AP ae) d m 64 []=some (jJ.av,m):=fun d m=>by rw[zb,Lw];rfl
 have p114:∀ d m,aD (AP ae) d m 114 []=some (nW.av,m):=fun d m=>by rw[zb,CW];rfl
 have nz:∀ m:af,(az none m (.obj true [.bool false,au,au])).2=m++[bZ]:=fun _=>rfl;have nz1:∀ m:af,(az none m .resv).1=m.length:=fun _=>rfl;rw[eav,RO,bx,aa];dsimp only;rw[nz,nz1,gI,aa,l0,aa,bh,aa,aA]
 by_cases hn:l[i].var < 0
 ·rw[an hn,gI,aa,l1,aa,iS,aa,aA];have hH:=JO (s:=bf L) (ar:=ar) c hi hn
  by_cases hc:l[i].leaf=c
  ·rw[an hc] at hH;rw[an hc,p64,aa];dsimp only;rw[sto,aa,oJ (bJ rfl),aa];refine ⟨_,jJ,rfl,?_,f1.snoc _⟩;rw[hH,<- hM];exact ⟨ZG mY h0,by rw[OU h0];exact LP⟩
  ·rw[ai hc] at hH;rw[ai hc,p114,aa];dsimp only;rw[sto,aa,oJ (bJ rfl),aa];refine ⟨_,nW,rfl,?_,f1.snoc _⟩;rw[hH];exact Can.wc mY (kW _) (by rw[vD];exact wg) zD
 ·obtain ⟨a1,a2⟩:=g.var i hi (by omega);obtain ⟨u,hu⟩:=nA (show 0<=l[i].var by omega);have oF:l[i].var.toNat=u:=by omega
  have D4:u < ar.length:=by omega
  have kd:u < L.es.length:=by rw[hO.len];omega
  obtain ⟨q,b1,b2⟩:=ML (s:=bf L) g (fun x hx=>(h1 x hx).1) c i u hi hu;rw[oF] at a2;have fR:l[i].kids.length=jr ar u:=by unfold jr;omega
  have h6:jr ar u<=64:=by
   have:=h1 ar[u] (bS D4);have e:ar.getD u 0=ar[u]:=by rw[aS,bD D4];rfl
   unfold jr;omega
  have Nc:∀ j,j < l[i].kids.length->∃ t:Nat,l[i].kids.getD j 0=t/\∃ h:t < ws.length,WV M ws[t] (SS ar (bf L) u * q j):=fun j hj=>by
   obtain ⟨t,e,ht,_⟩:=oI g hi (by omega) (k:=j) (by rw[oF];exact qt (by omega));refine ⟨t,e,by omega,?_⟩;have:=b1 j (by omega);rw[e,cK] at this;rw[<- this];exact hws t (by omega)
  rw[ai hn,p114,aa];dsimp only
  have sto2:aL (some 3) ((m1++[bZ])++[bZ]) (.ptr (m1++[bZ]).length 0) nW.av=some ((m1++[bZ])++[bR nW]):=by
   rw[qM (c1:=.bool false) (c2:=au) (c3:=au) (bJ rfl),qg _ _ _ rfl]
  have lk:∀ e,aj none ((m1++[bZ])++[e]) (.ptr m0.length (0+1))=some (IA z o l[i].kids):=fun e=>by rw[dQ,bY (by simp;omega),bY (by omega),g1];rfl
  rw[nz,nz1,sto2,aa,gI,aa,lk,aa,iE,aa];have iX:(m1++[bZ]).length=m0.length+2:=by simp;omega
  obtain ⟨sm,e,w⟩:=qhq (z:=z) (o:=o) hO wz mY h0 kd fR h6 (by rw[hM];exact qaf l c i) b2 hW Nc (.int .i64 l[i].leaf) (.ptr m1.length 0) (B6 (aE ae.P f110.results.toList)) l[i].kids.length 0 nW (by omega) (by rw[Jp];exact Can.wc mY (kW _) (by rw[vD];exact wg) zD);rw[<- hu,lQ] at e;rw[iX];have e:zM L.av wv (.ptr m0.length 0) (.ptr m1.length 0) (.ptr (m0.length+2) 0) (IA z o l[i].kids) (.int .i64 l[i].kids.length) (.int .i64 0) ((m1++[bZ])++[bR nW]) (B6 (aE ae.P f110.results.toList))=_:=e;rw[e,PX,oJ (bJ iX.symm),aa]
  have st3:aL (some 3) ((m1++[bZ])++[bR sm]) (.ptr m1.length 0) sm.av=some ((m1++[bR sm])++[bR sm]):=by
   rw[qM (c1:=.bool false) (c2:=au) (c3:=au) (by rw[bY (by simp),bJ rfl]),Ja _ _ _ _ rfl]
  rw[st3,aa,oJ (by rw[bY (by simp),bJ rfl]),aa];exact ⟨_,sm,rfl,w,(f1.snoc _).snoc _⟩
end
end Go.Ab
namespace Go.Ab
noncomputable section
open Go.Proofs.Tryz
end
end Go.Ab
namespace Go.Ab
open Go.Proofs Go.Proofs.Tryz
section
variable {m:af} {x:AV}
end
end Go.Ab
namespace Go.Ab
open Go.Proofs Go.Proofs.Tryz
def kr (r:IL):IL:=⟨false,if r.ns=[] then .full else .no,r.ns⟩
theorem qkg (r:IL):(kr r).fr=kr r:=by unfold kr Pq.IL.fr;dsimp only;split<;>rfl
theorem qoa (r:IL) (hz:r.z=false) (hl:r.ns.length<=1000000) (m:af):aD (AP ae) none m 88 [r.av]=some ((kr r).av,m):=by
 have h:=OI r.z r.o r.ns hl m
 have e:xY r.z r.ns=(kr r).av:=by
  rw[hz];unfold xY kr Pq.IL.av;rw[ai (by simp)]
  split
  ·rename_i h0;simp[h0]
  ·rfl
 rw[e] at h;exact h
theorem qpc {m:af} {nm i:Nat} {cs:List AV} {v:AV} (h:m.get nm=some (.obj false cs)) (hi:i < cs.length) (hv:di v=true) (hc:v.cells=[v]):aL none m (.ptr nm i) v=some (m.set nm (some (.obj false (cs.set i v)))):=by
 have hg:m.obj? nm=some (false,cs):=by rw[oL,h];rfl
 have h1:i+1<=cs.length:=hi;simp only[aL,hg,aa,Sh.size,h1,bw,c9,hv,hc];congr 4;simp only[bP,aJ,aP];rw[CG,an hi];simp
theorem V8 (r:IL):di r.av=true/\r.av.cells=[r.av]:=⟨rfl,rfl⟩
theorem qhp {L:OL} (hz:∀ r∈L.es,r.z=false/\r.ns.length<=1000000) (hl:L.es.length<=100000) {nm:Nat} (K:KT):∀ (d i:Nat) (m:af) (cs:List AV),i+d=L.es.length->m.get nm=some (.obj false cs)->cs.length=L.es.length->cs.take i=(L.es.take i).map (fun r=>(kr r).av) ->
  ∃ m',Ce (.arr nm 0 L.es.length none) L.av (.int .i64 L.es.length) (.int .i64 i) m K=K (.exit 0) (Kw (.arr nm 0 L.es.length none) m')/\m'.get nm=some (.obj false (L.es.map fun r=>(kr r).av)):=by
 intro d
 induction d with
 | zero=>
  intro i m cs hi hg hc ht;rw[jQ (by omega),jQ (by omega)] at ht;subst ht;exact ⟨m,by rw[Qb,bh,aa,aA,ai (by omega)],hg⟩
 | succ d ih=>
  intro i m cs hi hg hc ht;have b6:i < L.es.length:=by omega
  have tJ:=bF hg
  obtain ⟨m',e,k⟩:=ih (i+1) (m.set nm (some (.obj false (cs.set i (kr L.es[i]).av)))) (cs.set i (kr L.es[i]).av) (by omega) (c8 rfl tJ) (by rw[a8];exact hc) (by
   rw[n7 (by rw[a8];omega),List.getElem_set_self,List.take_set_of_le (aQ _),ht,n7 b6,kU];rfl)
  refine ⟨m',?_,k⟩;obtain ⟨q1,q2⟩:=hz _ (bS b6);rw[Qb,bh,aa,aA,an (by omega),Pq.index_ol b6,aa,Pq.load_ol,aa,qoa _ q1 q2,aa];dsimp only;rw[fZ b6,aa,qpc hg (by omega) (V8 _).1 (V8 _).2,aa,cB (by omega),aa];exact e
theorem W6 {m:af} {k:Nat}:∀ es:List IL,eY (bG m (k+1)) (es.map fun r=>(kr r).av)=some (es.map fun r=>(kr r).av,[])
 | []=>rfl
 | r::es=>by
  have h:=Pq.fza_il (kr r) m k;rw[qkg] at h;simp only[gd,eY,h,aa,W6 es,aR,cm]
theorem XW:∀ es:List IL,lB (es.map fun r=>(kr r).av)=true
 | []=>rfl
 | r::es=>by
  have:pl (kr r).av=true:=by unfold kr Pq.IL.av;dsimp only;split<;>rfl
  simp[lB,this,XW es]
theorem qgu {L:OL} (hz:∀ r∈L.es,r.z=false/\r.ns.length<=1000000) (hl:L.es.length<=100000):AP ae 109 [L.av]=some (Pq.OL.av ⟨false,.no,L.es.map kr⟩):=by
 have h3:(L.es.length:Int) * 24<=281474976710656:=by omega
 have h4:(L.es.length:Int)<=9223372036854775807:=by omega
 have h5:(0:Int)<=L.es.length:=by omega
 have hm:iP none 22 none au 24 [] (.int .i64 L.es.length) (.int .i64 L.es.length)=some (.arr 0 0 L.es.length none,[some (Ent.obj false (List.replicate L.es.length au))]):=by
  simp only[iP,az,qQ,ql,bw,cK];rw[an ⟨h5,trivial,h3,h4⟩];rfl
 obtain ⟨m',e,hg⟩:=qhp hz hl (nm:=0) (Fh (aE ae.P f109.results.toList)) L.es.length 0 [some (Ent.obj false (List.replicate L.es.length au))] (List.replicate L.es.length au) (by omega) rfl (by simp) (by simp);have e:Ce (.arr 0 0 L.es.length none) L.av (.int .i64 L.es.length) (.int .i64 0) [some (Ent.obj false (List.replicate L.es.length au))] (Fh (aE ae.P f109.results.toList))=_:=e
 have ha:AC ae 109 [L.av] []=some (.arr 0 0 L.es.length none,m'):=by
  rw[qfE,Pq.len_ol,aa,hm,aa,aa];dsimp only;rw[e,qaz]
 have ou:Pq.OL.av ⟨false,.no,L.es.map kr⟩=.lst none false .no (L.es.map fun r=>(kr r).av):=by
  unfold Pq.OL.av;rw[rW];rfl
 have hf:bG m' j6 (.arr 0 0 L.es.length none)=some (.lst none false .no (L.es.map fun r=>(kr r).av),[0]):=by
  have h1:((L.es.map fun r=>(kr r).av).all di)=true:=by simp[List.all_map,di,Pq.IL.av]
  have ho:m'.obj? 0=some (false,L.es.map fun r=>(kr r).av):=by rw[oL,hg];rfl
  show (m'.obj? 0).bind _=_;rw[ho];simp only[aa,Sh.size,bX,bp,kV,aQ,decide_true,nX,mV,bw,iR,jQ (by simp:(L.es.map fun r=>(kr r).av).length<=L.es.length)];rw[W6];simp only[aa,h1,XW,mV,bw,ll];rw[jQ (by simp)]
 rw[ou];exact iK ha hf rfl
theorem W7 {m:af} {k:Nat}:∀ ws:List RV,(∀ r∈ws,r.fr=r)->eY (bG m (k+1)) (ws.flatMap rc)=some (ws.flatMap rc,[])
 | [],_=>rfl
 | r::ws,h=>by
  have hr:=h r fN;have h1:r.num.fr=r.num:=cV RV.num hr;have h2:r.den.fr=r.den:=cV RV.den hr
  have e1:bG m (k+1) r.num.av=some (r.num.av,[]):=by
   have:=qw none r.num.z r.num.o (r.num.ds.map dg) m k;have e:AV.lst none r.num.z r.num.o.fr (r.num.ds.map dg)=r.num.fr.av:=rfl;rw[e,h1] at this;exact this
  have e2:bG m (k+1) r.den.av=some (r.den.av,[]):=by
   have:=qw none r.den.z r.den.o (r.den.ds.map dg) m k;have e:AV.lst none r.den.z r.den.o.fr (r.den.ds.map dg)=r.den.fr.av:=rfl;rw[e,h2] at this;exact this
  have e0:bG m (k+1) (.bool r.neg)=some (.bool r.neg,[]):=rfl;rw[pT];simp only[rc,cn,bV,eY,e0,e1,e2,aa,aR,cm];rw[W7 ws fun x hx=>h x (fJ _ hx)]
  rfl
theorem XX:∀ ws:List RV,(∀ r∈ws,r.fr=r)->lB (ws.flatMap rc)=true/\(ws.flatMap rc).all di=true
 | [],_=>⟨rfl,rfl⟩
 | r::ws,h=>by
  have hr:=h r fN;obtain ⟨i1,i2⟩:=XX ws fun x hx=>h x (fJ _ hx);have p1:=BA (x:=r.num) (cV RV.num hr);have p2:=BA (x:=r.den) (cV RV.den hr);rw[pT]
  refine ⟨?_,?_⟩
  ·show (pl (.bool r.neg) && (pl r.num.av && (pl r.den.av && lB (ws.flatMap rc))))=true;rw[p1,p2,i1];rfl
  ·show (di (.bool r.neg) && (di r.num.av && (di r.den.av && (ws.flatMap rc).all di)))=true;rw[i2];rfl
theorem UH:∀ ws:List RV,ll (some 3) ws.length (ws.flatMap rc)=ws.map RV.av
 | []=>rfl
 | r::ws=>by
  have ih:=UH ws;have e:ll (some 3) (ws.length+1) ((r::ws).flatMap rc)=.agg (((r::ws).flatMap rc).take 3)::ll (some 3) ws.length (((r::ws).flatMap rc).drop 3):=rfl;have e1:((r::ws).flatMap rc).take 3=rc r:=rfl;have e2:((r::ws).flatMap rc).drop 3=ws.flatMap rc:=rfl;rw[aJ,e,e1,e2,ih];rfl
def wv (ws:List RV):LV:=if ws=[] then ⟨none,true,.full,[]⟩ else ⟨some 3,false,.no,ws⟩
theorem EY (ws:List RV):(wv ws).es=ws:=by unfold wv;split<;>simp_all
theorem qp3 {k:Nat} {ws:List RV} (h:∀ r∈ws,ROk k r/\r.fr=r):LOk k (wv ws):=by
 refine ⟨?_,?_,fun r hr=>?_,fun r hr=>?_⟩
 ·unfold wv;split
  ·exact .inr rfl
  ·exact .inl rfl
 ·unfold wv;split
  ·exact fun _=>rfl
  ·intro h;cases h
 ·rw[EY] at hr;exact (h r hr).2
 ·rw[EY] at hr;exact (h r hr).1
theorem qk1 {m:af} {x:AV} {ws:List RV} {T:List Nat} {k:Nat} (h:WA m x ws T) (hf:∀ r∈ws,r.fr=r):bG m (k+2) x=some ((wv ws).av,T):=by
 cases h with
 | none=>rfl
 | some t ws ht hne=>
  have ho:m.obj? t=some (false,ws.flatMap rc):=by rw[oL,ht];rfl
  obtain ⟨p1,p2⟩:=XX ws hf;have e:(wv ws).av=.lst (some 3) false .no (ws.map RV.av):=by unfold wv;rw[ai hne];rfl
  show (m.obj? t).bind _=_;rw[ho];simp only[aa,Sh.size,EB,bp,aQ,decide_true,nX,mV,bw,iR,jQ (by rw[EB];exact aQ _:(ws.flatMap rc).length<=ws.length * 3)];rw[W7 ws hf];simp only[aa,p1,p2,mV,bw,UH,e]
theorem qj2 {r:RV} (h:r.fr=r):dO (some 3) [r.av]=some (.lst (some 3) false .full [r.av]):=by
 have h1:r.num.fr=r.num:=cV RV.num h;have h2:r.den.fr=r.den:=cV RV.den h
 have hs:lV r.av=r.av:=by
  unfold RV.av lV;simp only[gd,qU,Jj h1,Jj h2]
  rfl
 have ho:c9 (some 3) r.av=true:=rfl
 have hp:pl r.av=true:=by
  show (pl (.bool r.neg) && (pl r.num.av && (pl r.den.av && true)))=true;rw[BA h1,BA h2];rfl
 unfold dO;simp only[n0,List.all_nil,gd,qU,hs,ho,hp]
 rfl
end Go.Ab
