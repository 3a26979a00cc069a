/- Is a certificate in order? Both answers in values. -/
import Derived.Test.YtiipgpkgcdhbfaaGreatDoorCP4
import Derived.Test.YtiipgpkgcdhbfaaGreatDoorCP2
import Derived.Test.YtiipgpkgcdhbfaaGreatDoorCP3
set_option maxRecDepth 100000
set_option linter.unusedVariables false
set_option linter.unusedSimpArgs false
set_option linter.unusedSectionVars false
namespace Go.Ab.Pq
open Go.Proofs.Tryz
structure COk (k:Nat) (c:CV):Prop where
 odds:c.odds.es.length<=40
 nsh:c.nodes.sh=some 3\/c.nodes.es=[]
 nlen:c.nodes.es.length<=4000
 ws:LOk k c.ws
 wlen:c.ws.es.length<=4000
theorem COk.fr {k:Nat} {c:CV} (h:COk k c):COk k c.fr:=⟨h.odds,h.nsh,h.nlen,h.ws.fr',h.wlen⟩
def py (c:CV):Bool:=decide (c.odds.es.length<=16/\0<=c.leaf/\c.leaf<=2147483647/\c.ws.es.length=c.nodes.es.length) && (c.odds.es.all BG && (oddsB (oI (ji c.odds)) c.odds && (vM (oI (ji c.odds)) c.nodes.es && c.ws.es.all nZ)))
theorem qnV {m:af} {n:Nat} {e:Option Ent} (h:m[n]?=some e) (es:List AV):(mT m es)[n]?=some e:=by
 unfold mT
 split
 ·exact h
 ·unfold n7
  rw[nK]
  ·exact h
  ·exact (AE.1 h).1
theorem OP {L:OL} (h:L.es.all BG=true):∀ l∈L.es,l.ns.length<=64:=fun l hl=>(xp (gJ.1 h l hl)).2
theorem qiy {L:OL} (h:L.es.all BG=true):∀ a∈(oI (ji L)).ns,a<=64:=by
 rw[Ms];intro a ha;obtain ⟨l,hl,rfl⟩:=iY.1 ha;have:=OP h l hl;omega
theorem qhb {c:CV} {k:Nat} (hc:COk k c):AP ae 112 [c.av]=some (.bool (py c)):=by
 have fin:∀ (v:Bool) (m:af),AC ae 112 [c.av] []=some (.bool v,m)->AP ae 112 [c.av]=some (.bool v):=fun v m h=>cM _ _ (qG _) rfl h;have start:AC ae 112 [c.av] []=AC ae 112 [c.av] []:=rfl;have g0:([cC c]:af)[0]?=some (cC c):=rfl
 conv at start=>rhs;rw[qgm,Ul,aa]
 simp only[aQ,bQ,df,dh,dc,U5] at start;rw[aa,H5 g0,aa,len_ol,aa,gY,aa,aA] at start;unfold py
 by_cases c1:(c.odds.es.length:Int) > 16
 ·rw[an c1] at start;rw[cT (by omega),lY];exact fin _ _ start
 rw[aj c1,aa,MC g0,aa,bc,aa,aA] at start
 by_cases c2:c.leaf < 0
 ·rw[an c2] at start;rw[cT (by omega),lY];exact fin _ _ start
 rw[aj c2,aa,MC g0,aa,gY,aa,aA] at start
 by_cases c3:c.leaf > 2147483647
 ·rw[an c3] at start;rw[cT (by omega),lY];exact fin _ _ start
 have hn:=hc.nlen;rw[aj c3,aa,H6 g0,aa,EL,aa,gY,aa,aA,aj (by omega)] at start;rw[aa,A2 g0,aa,zq,aa,aa,H6 g0,aa,EL,aa,gZ,aa,aA] at start;by_cases c4:c.ws.es.length=c.nodes.es.length
 case neg=>
  rw[an (by omega)] at start;rw[cT (fun h=>c4 h.2.2.2),lY];exact fin _ _ start
 rw[eE (by omega),iN];rw[aj (by omega),aa,H5 g0,aa,len_ol,aa] at start;obtain ⟨m',hW⟩:=Tq (.ptr 0 0) [cC c] c.odds (by omega) (FQ (aE ae.P f112.results.toList)) c.odds.es.length 0 (by omega);have e0:(.lst none true .full []:AV)=rT [cC c] 3 (((ji c.odds).take 0).map iA):=rfl;have e1:([cC c]:af)=mT [cC c] (((ji c.odds).take 0).map iA):=rfl;have start2:=start.trans hW;rw[jI] at start2;by_cases c5:c.odds.es.all BG=true
 case neg=>
  rw[aj c5,qbc] at start2;rw[xU.2 c5,lY];exact fin _ _ start2
 rw[an c5,qbd] at start2;rw[c5,iN];have g1:=qnV g0 ((ji c.odds).map iA);have V1:=V63 (oI (ji c.odds)) c.odds.fr (OP c5) (by show c.odds.es.length<=40;omega);have V2:=qg8 (oI (ji c.odds)) (qiy c5) c.nodes.fr hc.nsh (by show c.nodes.es.length<=4000;omega);have V3:=qhk hc.ws.fr' (by have:=hc.wlen;show c.ws.es.length < _;omega);rw[df,aa,H5 g1,aa,fe (Vc _ _ _) (fz_ol _),V1,aS,aa] at start2;have o1:oddsB (oI (ji c.odds)) c.odds.fr=oddsB (oI (ji c.odds)) c.odds:=rfl;rw[o1] at start2
 cases c6:oddsB (oI (ji c.odds)) c.odds with
 | false=>
  rw[c6,oP] at start2;exact fin _ _ start2
 | true=>
  rw[c6,oQ,dh,aa,H6 g1,aa,fe (Vc _ _ _) (qlM _),V2,aS,aa] at start2;have o2:vM (oI (ji c.odds)) c.nodes.fr.es=vM (oI (ji c.odds)) c.nodes.es:=rfl;rw[o2] at start2
  cases c7:vM (oI (ji c.odds)) c.nodes.es with
  | false=>
   rw[c7,oP] at start2;exact fin _ _ start2
  | true=>
   rw[c7,oQ,dc,aa,A2 g1,aa,fe (Nf _) (fun _=>rfl),V3,aS,aa,dE,aa,Bool.not_not] at start2;exact fin _ _ start2
end Go.Ab.Pq
namespace Go.Ab.Pq
open Go.Proofs.Tryz
def vK (n:Nat):NV:=⟨false,qS n,aD n⟩
theorem O5 (n:Nat):(vK n).fr=vK n:=by
 unfold vK NV.fr qS;split<;>rfl
theorem S4 {n:Nat} (h:n < 9223372036854775808):AP ae 168 [.int .i64 (n:Int)]=some (vK n).av:=by
 refine (cM _ _ (cD (vK n)) (pU _) (m:=[]) ?_).trans (by rw[O5]);rw[qgU,Jk,aa,oP,AZ (by omega),aa,dF,Mc (by omega)];rfl
theorem qhg {a b:Nat} (ha:a < 9223372036854775808) (hb:b < 9223372036854775808) (h0:b≠0):∃ r:RV,AP ae 128 [.int .i64 (a:Int),.int .i64 (b:Int)]=some (.tup [r.av,.int .i64 0])/\Can r (dK false a b)/\r.fr=r:=by
 have la:(aD a).length<=2:=nN (by omega);have lb:(aD b).length<=2:=nN (by omega);have va:(vK a).v=a:=gz a;have vb:(vK b).v=b:=gz b
 rcases S0 (x:=vK a) (y:=vK b) false (um (by omega)) (um (by omega)) with ⟨h,_⟩ | ⟨_,r,e,h2,h3⟩
 ·rw[vb] at h;exact absurd h h0
 ·rw[va,vb] at h2;refine ⟨r,(cM _ _ (A9 r (jX .i64 0)) rfl (m:=[cR r]) ?_).trans (by rw[h3]),h2,h3⟩;rw[qgw,Jk,aa,Jk,aa,dS,aa];simp only[BS,cX,aQ,bQ];rw[dF,S4 ha,aS,aa,dF,S4 hb,aS,aa,dV,O5,O5,show (false != false)=false from rfl,e,aS,aa,dL,aa,dM,aa,dP,aa,dI,aa]
def RowOk (l:IL):Prop:=l.ns.length<=64/\(∀ o∈l.ns,0<=o/\o<=1000)/\l.ns.sum≠0
theorem PY:∀ {l:List Int},(∀ o∈l,0<=o/\o<=1000)->0<=l.sum/\l.sum<=1000 * (l.length:Int)
 | [],_=>by simp
 | a::l,h=>by
  obtain ⟨h1,h2⟩:=h a fQ;obtain ⟨h3,h4⟩:=PY (fun o ho=>h o (fN _ ho));rw[nk,aL];omega
theorem RowOk.sum {l:IL} (h:RowOk l):∃ S:Nat,l.ns.sum=(S:Int)/\S≠0/\S<=64000:=by
 obtain ⟨h1,h2⟩:=PY h.2.1;obtain ⟨S,hS⟩:=oW h1;have:=h.1;exact ⟨S,hS,fun e=>h.2.2 (by rw[hS,e];rfl),by omega⟩
theorem RowOk.get {l:IL} (h:RowOk l) {i:Nat} (hi:i < l.ns.length):∃ a:Nat,l.ns[i]=(a:Int)/\a<=1000:=by
 obtain ⟨h1,h2⟩:=h.2.1 _ (bI hi);obtain ⟨a,ha⟩:=oW h1;exact ⟨a,ha,by omega⟩
def partQ (l:IL) (i:Nat):Rat:=dK false (l.ns.getD i 0).toNat l.ns.sum.toNat
theorem Yz {l:IL} {i a S:Nat} (hi:i < l.ns.length) (ha:l.ns[i]=(a:Int)) (hS:l.ns.sum=(S:Int)):partQ l i=dK false a S:=by
 unfold partQ;rw[aT,bM hi,hS];show dK false (l.ns[i]).toNat _=_;rw[ha];rfl
theorem partQ_bd {l:IL} (h:RowOk l) {i:Nat} (hi:i < l.ns.length):Bd 1 (partQ l i):=by
 obtain ⟨S,hS,_,Vw⟩:=h.sum;obtain ⟨a,ha,D6⟩:=h.get hi;rw[Yz hi ha hS];exact Cv (nN (by omega)) (nN (by omega)) (by omega)
theorem Z0 {l:List Int} {i:Nat} (hi:i < l.length):(l.take (i+1)).sum=(l.take i).sum+l[i]:=by
 rw[oC hi,List.sum_append];simp
theorem ZZ {l:IL} (h:RowOk l) (i:Nat):0<=(l.ns.take i).sum/\(l.ns.take i).sum<=64000:=by
 obtain ⟨h1,h2⟩:=PY (l:=l.ns.take i) (fun o ho=>h.2.1 o (He ho));have:=h.1;rw[jV] at h2;omega
theorem TF {l:IL} (h:RowOk l) (x1 x4:AV) (m:af) (K:KT):∀ j i:Nat,i+j=l.ns.length ->
  G6 l.av x1 x4 (.int .i64 (l.ns.take i).sum) l.av (.int .i64 l.ns.length) (.int .i64 i) m K=K (.exit 0) (LN l.av x1 x4 (.int .i64 l.ns.sum) m)
 | 0,i,qe=>by
  rw[RR,cW,aa,aA,aj (by omega),kW (by omega)]
 | j+1,i,qe=>by
  have hi:i < l.ns.length:=by omega
  have:=h.1;obtain ⟨b1,b2⟩:=ZZ h i;obtain ⟨a,ha,D6⟩:=h.get hi;have ih:=TF h x1 x4 m K j (i+1) (by omega);rw[Z0 hi] at ih;rw[RR,cW,aa,aA,an hi,index_il hi,aa,load_il,aa,lD,iQ (by omega) (by omega),aa,cr (by omega),aa,ih]
theorem qoQ {m:af} {d:Option Nat} {g:Nat} (a b:Int):aC (AP ae) d m g [.int .i64 a,.int .i64 b]=(AP ae g [.int .i64 a,.int .i64 b]).map fun v=>(v,m):=fe (fW _ a) (fW _ b)
theorem V70 {l:IL} (h:RowOk l) {i:Nat} (hi:i < l.ns.length):∃ r:RV,AP ae 70 [l.av,.int .i64 (i:Int)]=some r.av/\Can r (partQ l i)/\r.fr=r:=by
 obtain ⟨S,hS,Vv,Vw⟩:=h.sum;obtain ⟨a,ha,D6⟩:=h.get hi;obtain ⟨r,e1,e2,e3⟩:=qhg (a:=a) (b:=S) (by omega) (by omega) Vv;refine ⟨r,(cM _ _ (hP r) (kZ _) (m:=[cR r,cR r]) ?_).trans (by rw[e3]),by rw[Yz hi ha hS];exact e2,e3⟩;have hW:=TF h (.int .i64 (i:Int)) (.ptr 0 0) [cR zR] (KM (aE ae.P f70.results.toList)) l.ns.length 0 (by omega);rw[T70,len_il,aa];refine (show _=_ from hW).trans ?_;rw[qe9,index_il hi,aa,load_il,aa,ha,hS,qoQ,e1,aS,aa,dL,aa,dM,aa];simp only[BS,cX,aQ,bQ,aL,b8,br];rw[dz,aa,dp,aa,dP,aa,dI,aa]
def xJ (F:Nat->Rat):Nat->Rat
 | 0=>0
 | j+1=>xJ F j+F j
def wQ (ws:LV) (k:Nat):Rat:=(ws.es.map RV.q).getD k 0
theorem Fs {ws:LV} {k:Nat} (h:k < ws.es.length):wQ ws k=ws.es[k].q:=by
 unfold wQ;rw[aT,re,bM h];rfl
def tg (l:IL) (ws:LV) (n:ND) (i:Nat):Rat:=partQ l i * wQ ws (n.kids.ns.getD i 0).toNat
def wN (odds:OL) (ws:LV) (leaf:Int) (n:ND):Rat:=
 if n.var < 0 then (if n.leaf=leaf then 1 else 0) else xJ (tg (odds.es.getD n.var.toNat ⟨true,.full,[]⟩) ws n) n.kids.ns.length
structure NodeOk (l:IL) (ws:LV) (n:ND):Prop where
 row:RowOk l
 len:n.kids.ns.length=l.ns.length
 kids:∀ k∈n.kids.ns,0<=k/\k < ws.es.length
theorem NodeOk.kid {l:IL} {ws:LV} {n:ND} (h:NodeOk l ws n) {i:Nat} (hi:i < n.kids.ns.length):∃ k:Nat,n.kids.ns[i]=(k:Int)/\k < ws.es.length/\n.kids.ns.getD i 0=(k:Int):=by
 obtain ⟨h1,h2⟩:=h.kids _ (bI hi);obtain ⟨k,hk⟩:=oW h1;refine ⟨k,hk,by omega,?_⟩;rw[aT,bM hi];exact hk
theorem Z2 {l:IL} {ws:LV} {n:ND} (h:NodeOk l ws n) (hw:LOk 30 ws) {i:Nat} (hi:i < n.kids.ns.length):Bd 31 (tg l ws n i):=by
 obtain ⟨k,hk,lO,NW⟩:=h.kid hi;unfold tg;rw[NW,cH,Fs lO];exact qaF (partQ_bd h.row (by rw[<- h.len];exact hi)) ((hw.ok _ (bI lO)).bd (by omega)) (by omega)
theorem ZX {l:IL} {ws:LV} {n:ND} (h:NodeOk l ws n) (hw:LOk 30 ws):∀ {j:Nat},j<=n.kids.ns.length->Bd (32 * j+1) (xJ (tg l ws n) j)
 | 0,_=>Kd (by omega)
 | j+1,hj=>(Qr (ZX h hw (by omega)) (Z2 h hw (by omega)) (by omega)).mono (by omega)
theorem ZY {l:IL} {ws:LV} {n:ND} (h:NodeOk l ws n) (hw:LOk 30 ws) {j:Nat} (hj:j<=n.kids.ns.length):Bd 4000 (xJ (tg l ws n) j):=by
 have h1:=h.row.1;have h2:=h.len;exact (ZX h hw hj).mono (by omega)
theorem Tp {odds:OL} {n:ND} {ws:LV} {v:Nat} (hw:LOk 30 ws) (hv:n.var=(v:Int)) (fZ:v < odds.es.length) (h:NodeOk odds.es[v] ws n) (K:KT):∀ (j i:Nat) (s:RV),i+j=n.kids.ns.length->Can s (xJ (tg odds.es[v] ws n) i)->s.fr=s ->
  ∃ t:RV,Can t (xJ (tg odds.es[v] ws n) n.kids.ns.length)/\t.fr=t/\Am odds.av ws.av (.ptr 0 0) (.ptr 1 0) (.ptr 2 0) n.kids.av (.int .i64 n.kids.ns.length) (.int .i64 i) [cN n,cR zR,cR s] K=K (.exit 0) (Hl (.ptr 1 0) (.ptr 2 0) [cN n,cR zR,cR t])
 | 0,i,s,qe,hs,hf=>by
  obtain rfl:i=n.kids.ns.length:=by omega
  exact ⟨s,hs,hf,by rw[Gu,cW,aa,aA,aj (by omega)]⟩
 | j+1,i,s,qe,hs,hf=>by
  have hi:i < n.kids.ns.length:=by omega
  have hlen:=h.len;have h64:=h.row.1;obtain ⟨k,hk,lO,NW⟩:=h.kid hi;obtain ⟨p,p1,p2,p3⟩:=V70 (l:=odds.es[v].fr) h.row (i:=i) (show i < odds.es[v].ns.length by omega);have p2:Can p (partQ odds.es[v] i):=p2;have okp:=p2.ok ((partQ_bd h.row (by omega)).mono (by omega:1<=4000)) (by omega);have okw:=(hw.ok _ (bI lO)).mono (by omega:30<=4000);obtain ⟨q,q1,q2,q3⟩:=Mh okp okw (by omega) (by omega)
  have et:p.q * ws.es[k].q=tg odds.es[v] ws n i:=by
   unfold tg;rw[p2.q,NW,cH,Fs lO]
  rw[et] at q2;have oks:=hs.ok (ZY h hw (by omega)) (by omega);have okq:=q2.ok ((Z2 h hw hi).mono (by omega:31<=4000)) (by omega);obtain ⟨t,t1,t2,t3⟩:=HO oks okq (by omega) (by omega);have es:s.q+q.q=xJ (tg odds.es[v] ws n) (i+1):=by rw[hs.q,q2.q];rfl
  rw[es] at t2;obtain ⟨u,u1,u2,u3⟩:=Tp hw hv fZ h K j (i+1) t (by omega) t2 t3;refine ⟨u,u1,u2,?_⟩;have wfr:=hw.fr _ (bI lO)
  have rowfr:∀ (d:Option Nat) (m:af),aC (AP ae) d m 70 [odds.es[v].av,.int .i64 (i:Int)]=some (p.av,m):=by
   intro d m;rw[fe (fz_il _) (fW _ _),p1];rfl
  rw[Gu,cW,aa,aA,an hi,index_il hi,aa,load_il,aa,dT,aa,df,aa,zD (x:=n) rfl,aa,hv,index_ol fZ,aa,load_ol,aa,rowfr,aa,hk,BD hw lO,aa,BL,aa,dw,p3,wfr,q1,aS,aa,dw,hf,q3,t1,aS,aa,dW,aa,cr (by omega),aa];exact u3
def Dh (odds:OL) (ws:LV) (n:ND):Prop:=n.var < 0\/∃ (v:Nat) (hv:v < odds.es.length),n.var=(v:Int)/\NodeOk odds.es[v] ws n
theorem VD {odds:OL} {ws:LV} {leaf:Int} {n:ND} (h:n.var < 0):wN odds ws leaf n=if n.leaf=leaf then 1 else 0:=by unfold wN;rw[an h]
theorem VE {odds:OL} {ws:LV} {leaf:Int} {n:ND} {v:Nat} (hv:v < odds.es.length) (h:n.var=(v:Int)):wN odds ws leaf n=xJ (tg odds.es[v] ws n) n.kids.ns.length:=by
 unfold wN;rw[aj (by omega),h,cH,aT,bM hv];rfl
theorem qha {odds:OL} {n:ND} {ws:LV} (leaf:Int) (hw:LOk 30 ws) (h:Dh odds ws n):∃ s:RV,AP ae 110 [odds.av,n.av,.int .i64 leaf,ws.av]=some s.av/\Can s (wN odds ws leaf n)/\s.fr=s:=by
 have fin:∀ (s:RV) (m:af),s.fr=s->AC ae 110 [odds.av,n.av,.int .i64 leaf,ws.av] []=some (s.av,m)->AP ae 110 [odds.av,n.av,.int .i64 leaf,ws.av]=some s.av:=fun s m hs h=>(cM _ _ (hP s) (kZ _) h).trans (by rw[hs]);have start:AC ae 110 [odds.av,n.av,.int .i64 leaf,ws.av] []=AC ae 110 [odds.av,n.av,.int .i64 leaf,ws.av] []:=rfl;have gn:∀ M:af,(cN n::M)[0]?=some (cN n):=fun _=>rfl
 conv at start=>rhs;rw[SA,qkI,aa]
 simp only[BS,cX,aQ,bQ,aL,b8,br] at start;rw[df,aa,zD (gn _),aa,bc,aa,aA] at start
 rcases h with h | ⟨v,hv,hn,h⟩
 ·rw[an h,dc,aa,Pa (gn _),aa,iM,aa,aA] at start;rw[VD h]
  by_cases c:n.leaf=leaf
  ·rw[an c,dr,Mg,aS,aa,dz,aa,dp,aa] at start;refine ⟨jO,fin _ _ Yl start,?_,Yl⟩;rw[an c];exact Mz
  ·rw[aj c,dr,Du,aS,aa,dz,aa,dp,aa] at start;refine ⟨og,fin _ _ Af start,?_,Af⟩;rw[aj c];exact wD
 ·obtain ⟨t,t1,t2,t3⟩:=Tp hw hn hv h (CA (aE ae.P f110.results.toList)) n.kids.ns.length 0 og (by omega) wD Af;rw[show (((0:Nat):Int))=(0:Int) from rfl] at t3;rw[aj (by omega),dr,Du,aS,aa] at start;simp only[BS,cX,aQ,bQ,aL,b8,br,Nat.reduceAdd] at start;rw[dW,aa,dh,aa,Jm (gn _),aa,len_il,aa,t3,Qz,dT,aa,dz,aa,dp,aa] at start;exact ⟨t,fin _ _ t2 start,by rw[VE hv hn];exact t1,t2⟩
end Go.Ab.Pq
namespace Go.Ab
open Go.Proofs Go.Proofs.Tryz
structure WV (M:Nat) (r:RV) (N:Nat):Prop where
 ok:ROk 9 r
 q:r.q=dK false N M
 fr:r.fr=r
theorem Px {M a b:Nat} (hM:M≠0):dK false a M+dK false b M=dK false (a+b) M:=by
 rw[Jw hM hM]
 have e:fP false (a * M)+fP false (b * M)=((a+b:Nat):Int) * (M:Int):=by
  simp only[fP,j6,mo];rw[<- rX,<- Int.natCast_add,<- im]
 rw[e,dK];have:=Rat.mkRat_mul_right (a:=M) (n:=((a+b:Nat):Int)) (d:=M) hM;rw[this];simp[fP]
theorem Jx {n d a:Nat} (ha:a≠0):dK false (n * a) (d * a)=dK false n d:=by
 have:=Rat.mkRat_mul_right (a:=a) (n:=((n:Nat):Int)) (d:=d) ha;rw[dK,dK];simp only[fP,j6,mo,rX];exact this
theorem bd9 {M N:Nat} (hM:M < 4294967296 ^ 8) (hN:N<=M):Bd 8 (dK false N M):=Cv (nN (by omega)) (nN (by omega)) (by omega)
theorem Can.wv {M N:Nat} {r:RV} (hM:M < 4294967296 ^ 8) (hN:N<=M) (h:Can r (dK false N M)) (hf:r.fr=r):WV M r N:=⟨(h.ok (bd9 hM hN) (by omega)).mono (by omega),h.q,hf⟩
theorem WV.mul {M N a S:Nat} {r p:RV} (hM:M < 4294967296 ^ 8) (h:WV M r (N * S)) (hS:S≠0) (hp:Can p (dK false a S)) (sP:ROk 9 p) (hb:N * a<=M):∃ x:RV,AP ae 69 [r.av,p.av]=some x.av/\WV M x (N * a):=by
 obtain ⟨x,e,hc,hf⟩:=Mh h.ok sP (by omega) (by omega);refine ⟨x,e,Can.wv hM hb ?_ hf⟩;rw[h.q,hp.q,B3] at hc;have e1:N * S * a=N * a * S:=by rw[fF,cO S a,<- fF]
 rw[show (false != false)=false from rfl,e1,Jx hS] at hc;exact hc
theorem WV.add {M N1 N2:Nat} {r1 r2:RV} (hM:M < 4294967296 ^ 8) (h0:M≠0) (h1:WV M r1 N1) (h2:WV M r2 N2) (hb:N1+N2<=M):∃ x:RV,AP ae 71 [r1.av,r2.av]=some x.av/\WV M x (N1+N2):=by
 obtain ⟨x,e,hc,hf⟩:=HO h1.ok h2.ok (by omega) (by omega);rw[h1.q,h2.q,Px h0] at hc;exact ⟨x,e,Can.wv hM hb hc hf⟩
theorem qat (M:Nat):WV M zR 0:=⟨⟨⟨by simp[zR,iv,Dg],by simp[zR,iv],fun _=>rfl⟩,⟨by simp[zR,iv,Dg],by simp[zR,iv],fun _=>rfl⟩,by simp[zR,iv],by simp[zR,iv]⟩,by rw[xy];exact zK _ _,rfl⟩
theorem Py {M:Nat} (h0:M≠0):dK false M M=1:=by
 have:=Jx (n:=1) (d:=1) h0;rw[rl] at this;rw[this];rfl
theorem qas {M:Nat} (hM:M < 4294967296 ^ 8) (h0:M≠0):WV M jO M:=Can.wv hM (aR _) (by rw[Py h0];exact Mz) rfl
def dm (E:List (Int×RV)):List (AV×AV):=E.map fun p=>(.int .i64 p.1,p.2.av)
def lk:List (Int×RV)->Int->Option RV
 | [],_=>none
 | p::E,k=>if p.1=k then some p.2 else lk E k
def pm (E:List (Int×RV)) (k:Int) (r:RV):List (Int×RV):=match lk E k with
 | some _=>E.map fun p=>if p.1=k then (p.1,r) else p
 | none=>E++[(k,r)]
theorem W6 (a k:Int):jh (.int .i64 a) (.int .i64 k)=decide (a=k):=by simp[jh,uV]
theorem MO (k:Int):∀ E:List (Int×RV),(dm E).find? (fun p=>jh p.1 (.int .i64 k))=(lk E k).map fun r=>(.int .i64 k,r.av)
 | []=>rfl
 | p::E=>by
  rw[dm,gg,List.find?_cons,W6,lk]
  by_cases h:p.1=k
  ·rw[eE h,an h,h];rfl
  ·rw[cT h,aj h];exact MO k E
theorem Xa {k:Int} (h:-1000000000000<=k/\k<=1000000000000):jZ (.int .i64) (.int .i64 k)=true:=by
 have h1:IntKind.min .i64<=k:=by show (-9223372036854775808:Int)<=k;omega
 have h2:k<=IntKind.max .i64:=by show k<=9223372036854775807;omega
 simp only[jZ,nS,Ft,eE h1,eE h2,decide_true,pB]
theorem OT {m:af} {p:Nat} {E:List (Int×RV)} {k:Int} (hp:m.get p=some (.mp (.int .i64) (dm E))) (hk:-1000000000000<=k/\k<=1000000000000):po (.int .i64) zR.av m (.mref p) (.int .i64 k)=some (((lk E k).getD zR).av,(lk E k).isSome):=by
 have h1:my m (.int .i64) (.mref p)=some (p,dm E):=by simp[my,hp]
 unfold po;rw[h1,aa,an (Xa hk),BM,MO];cases lk E k<;>rfl
theorem P6 {m:af} {p:Nat} {E:List (Int×RV)} {k:Int} (hp:m.get p=some (.mp (.int .i64) (dm E))) (hk:-1000000000000<=k/\k<=1000000000000) (hl:E.length<=1000000000) (r:RV):kU (.int .i64) m (.mref p) (.int .i64 k) r.av=some (m.set p (some (.mp (.int .i64) (dm (pm E k r))))):=by
 have h1:my m (.int .i64) (.mref p)=some (p,dm E):=by simp[my,hp]
 unfold kU;rw[h1,aa,an ⟨Xa hk,rfl,by rw[dm,cg];unfold maxLen;omega⟩];have hf:=MO k E;congr 5;unfold nX pm
 cases hq:lk E k with
 | none=>
  rw[hq,Option.map_none,List.find?_eq_none] at hf;have:(dm E).any (fun p=>jh p.1 (.int .i64 k))=false:=by rw[List.any_eq_false];exact hf
  rw[this];simp[dm]
 | some r0=>
  rw[hq] at hf
  have:(dm E).any (fun p=>jh p.1 (.int .i64 k))=true:=by
   rw[List.any_eq_true];exact ⟨_,List.mem_of_find?_eq_some hf,List.find?_some (p:=fun p:AV×AV=>jh p.1 (.int .i64 k)) hf⟩
  rw[this];simp only[dm,tE];refine List.map_congr_left fun p hp=>?_;simp only[Function.comp];rw[W6]
  by_cases h:p.1=k
  ·rw[eE h,an rfl,an h]
  ·rw[cT h,aj (by simp),aj h]
theorem YN (E:List (Int×RV)) (k:Int) (r:RV):(pm E k r).length<=E.length+1:=by
 unfold pm;split<;>simp
theorem Xv (k k':Int) (r:RV):∀ E:List (Int×RV),lk (E++[(k,r)]) k'=match lk E k' with | some x=>some x | none=>if k=k' then some r else none
 | []=>rfl
 | p::E=>by
  rw[b8,lk,lk]
  by_cases h:p.1=k'
  ·rw[an h,an h]
  ·rw[aj h,aj h,Xv k k' r E]
theorem Xw (k k':Int) (r:RV):∀ E:List (Int×RV),lk (E.map fun p=>if p.1=k then (p.1,r) else p) k'=if k=k' then (lk E k').map fun _=>r else lk E k'
 | []=>by simp[lk]
 | p::E=>by
  rw[gg,lk,Xw k k' r E,lk]
  by_cases h:p.1=k
  ·subst h;rw[an rfl]
   by_cases h2:p.1=k'
   ·rw[an h2,an h2,an h2];rfl
   ·simp[h2]
  ·rw[aj h]
   by_cases h2:p.1=k'
   ·subst h2;have h3:¬ k=p.1:=fun e=>h e.symm;rw[an rfl,aj h3];simp
   ·simp[h2]
theorem Xx (E:List (Int×RV)) (k k':Int) (r:RV):lk (pm E k r) k'=if k=k' then some r else lk E k':=by
 unfold pm
 cases hq:lk E k with
 | none=>
  simp only[Xv]
  by_cases h:k=k'
  ·subst h;rw[hq]
  ·rw[aj h,aj h];cases lk E k'<;>rfl
 | some x=>
  simp only[Xw]
  by_cases h:k=k'
  ·subst h;rw[an rfl,an rfl,hq];rfl
  ·rw[aj h,aj h]
def wq (M:Nat) (E:List (Int×RV)) (T:Nat->Nat):Prop:=∀ j:Nat,WV M ((lk E j).getD zR) (T j)
theorem wq.put {M:Nat} {E:List (Int×RV)} {T:Nat->Nat} (h:wq M E T) {k N:Nat} {r:RV} (hr:WV M r N):wq M (pm E k r) (upd T k N):=fun j=>by
 rw[Xx];unfold upd
 by_cases hj:j=k
 ·subst hj;rw[an rfl,an rfl];exact hr
 ·rw[aj (by omega),aj hj];exact h j
theorem pQ {m:af} {k:Nat} {r:RV} (h:m.get k=some (.obj true [.bool r.neg,r.num.av,r.den.av])):ai (some 3) m (.ptr k 0)=some r.av:=by
 rw[bV,h];rfl
theorem qX {m:af} {k:Nat} {c1 c2 c3:AV} {r:RV} (h:m.get k=some (.obj true [c1,c2,c3])):aM (some 3) m (.ptr k 0) r.av=some (m.set k (some (.obj true [.bool r.neg,r.num.av,r.den.av]))):=by
 rw[qt,h];rfl
section
variable {s:Nat} {F:List Nat} {zs:Bool} {os:Own} {most:Int} {l:List ND} {ar:List Int}
def ab (ar:List Int) (l:List ND) (i:Nat):Int:=fE ar.length (l.getD i ⟨0,[],0⟩)
theorem A67 {m:af} (h:c9 m s F (IA zs os ar) most l) {pb:Nat} (hb:m.get pb=some (.obj true [.ptr s 0])) {x y:Nat} (hx:x < l.length) (hy:y < l.length) (fV:ar.length<=16) (g:GoodL ar l):∃ m',AC ae 67 [ni x,ni y,.ptr pb 0] m=some (.int .i64 (ab ar l x - ab ar l y),m')/\Fr m m' []:=by
 obtain ⟨m1,e1,f1⟩:=J8 h hx;have h1:c9 m1 s F (IA zs os ar) most l:=h.fr f1 (fun _ _ h=>by cases h);obtain ⟨m2,e2,f2⟩:=J8 h1 hy;have hb1:m1.get pb=some (.obj true [.ptr s 0]):=by rw[f1.get pb (bC hb) (by simp)];exact hb
 refine ⟨m2,?_,Fr.trans f1 f2 fun _ h=>by cases h⟩
 have bnd:∀ i (hi:i < l.length),-2<=fE ar.length l[i]/\fE ar.length l[i]<=16:=fun i hi=>by
  unfold fE
  split
  ·have:=(g.var i hi (by omega)).1;omega
  ·omega
 have b1:=bnd x hx;have b2:=bnd y hy;unfold ab;rw[jr hx,jr hy,T67,mW hb,aa,aa,e1,aa];rw[qM (by rw[mW hb1];rfl),e2,aa,pH,iQ (by omega) (by omega),aa]
theorem qk2 {m0:af} {nm:Nat} (h:c9 m0 s F (IA zs os ar) most l) (y2:nm∉F) {pb:Nat} (hb:m0.get pb=some (.obj true [.ptr s 0])) (hne:pb≠nm) (fV:ar.length<=16) (g:GoodL ar l):qx m0 nm l.length (.ptr pb 0) (ab ar l):=fun m f x y hx hy=>
 A67 (h.fr f fun a ha hh=>y2 (by simpa [List.mem_singleton.1 hh] using ha)) (by rw[f.get pb (bC hb) (by simpa using hne)];exact hb) hx hy fV g
end
end Go.Ab
namespace Go.Ab
open Go.Proofs Go.Proofs.Tryz
abbrev OL:=Pq.OL
abbrev IL:=Pq.IL
def bH (L:OL) (u j:Nat):Nat:=(((L.es.map Pq.IL.ns).getD u []).getD j 0).toNat
structure OddsOk (ar:List Int) (L:OL):Prop where
 len:L.es.length=ar.length
 row:∀ (u:Nat) (h:u < L.es.length),Pq.RowOk L.es[u]/\(L.es[u].ns.length:Int)=ar.getD u 0
theorem JK {L:OL} {u:Nat} (h:u < L.es.length) (j:Nat):bH L u j=(L.es[u].ns.getD j 0).toNat:=by
 unfold bH;rw[aT (l:=L.es.map Pq.IL.ns),re,bM h];rfl
theorem qpZ:∀ (l:List Int),(∀ o∈l,0<=o)->jm l.length (fun j=>(l.getD j 0).toNat)=l.sum.toNat/\0<=l.sum:=by
 have key:∀ (l:List Int),(∀ o∈l,0<=o)->(((List.range l.length).map fun j=>(l.getD j 0).toNat).sum:Nat)=l.sum.toNat/\0<=l.sum:=by
  intro l
  induction l with
  | nil=>intro _;exact ⟨rfl,by simp⟩
  | cons a l ih=>
   intro h;obtain ⟨h1,h2⟩:=ih fun o ho=>h o (fN _ ho);have ha:=h a fQ;rw[aL,List.range_succ_eq_map,gg,nk,tE,nk];refine ⟨?_,by omega⟩;have e:((fun j=>((a::l).getD j 0).toNat) ∘ Nat.succ)=fun j=>(l.getD j 0).toNat:=by funext j;rfl
   rw[e,h1];show a.toNat+_=_;omega
 exact key
theorem OddsOk.ss {ar:List Int} {L:OL} (h:OddsOk ar L) {u:Nat} (hu:u < L.es.length):SS ar (bH L) u=L.es[u].ns.sum.toNat/\0 < SS ar (bH L) u/\SS ar (bH L) u<=64000:=by
 obtain ⟨r,hl⟩:=h.row u hu
 have e:SS ar (bH L) u=L.es[u].ns.sum.toNat:=by
  rw[<- (qpZ L.es[u].ns fun o ho=>(r.2.1 o ho).1).1];unfold SS;rw[show iT ar u=L.es[u].ns.length by unfold iT;omega];exact xI fun j _=>JK hu j
 obtain ⟨S,hS,h0,hb⟩:=r.sum;rw[hS] at e;exact ⟨by rw[e,hS],by rw[e];omega,by rw[e];omega⟩
theorem Sp {ar:List Int} {s:Nat->Nat->Nat} (h:∀ v,v < ar.length->0 < SS ar s v/\SS ar s v<=64000):∀ d v,v+d<=ar.length->0 < PM ar s d v/\PM ar s d v<=64000 ^ d
 | 0,v,_=>⟨Nat.one_pos,aR _⟩
 | d+1,v,hv=>by
  obtain ⟨h1,h2⟩:=h v (by omega);obtain ⟨h3,h4⟩:=Sp h d (v+1) (by omega);refine ⟨Nat.mul_pos h1 h3,?_⟩;rw[PM,jW,cO];exact sj h4 h2
theorem Hv {ar:List Int} {s:Nat->Nat->Nat} (h:∀ v,v < ar.length->0 < SS ar s v/\SS ar s v<=64000) (fV:ar.length<=16):PM ar s ar.length 0≠0/\PM ar s ar.length 0 < 4294967296 ^ 8:=by
 obtain ⟨h1,h2⟩:=Sp h ar.length 0 (by omega);refine ⟨by omega,jJ h2 ?_⟩;exact jJ (pY (by omega) fV) (by decide)
theorem OddsOk.all {ar:List Int} {L:OL} (h:OddsOk ar L):∀ v,v < ar.length->0 < SS ar (bH L) v/\SS ar (bH L) v<=64000:=fun v hv=>(h.ss (by rw[h.len];exact hv)).2
theorem YB {ar:List Int} {L:OL} (h:OddsOk ar L) {u:Nat} (hu:u < L.es.length) {j:Nat} (hj:j < L.es[u].ns.length):∃ p:RV,AP ae 70 [(L.es[u].fr).av,.int .i64 (j:Int)]=some p.av/\Can p (dK false (bH L u j) (SS ar (bH L) u))/\ROk 9 p/\p.fr=p:=by
 obtain ⟨r,hl⟩:=h.row u hu;have r':Pq.RowOk L.es[u].fr:=r;obtain ⟨p,e,hc,hf⟩:=Pq.V70 r' (i:=j) hj;have e1:Pq.partQ L.es[u].fr j=dK false (bH L u j) (SS ar (bH L) u):=by rw[(h.ss hu).1,JK hu];rfl
 have hb:=Pq.partQ_bd r (i:=j) hj;have iG:Bd 1 (dK false (bH L u j) (SS ar (bH L) u)):=by rw[<- e1];exact hb
 rw[e1] at hc;exact ⟨p,e,hc,(hc.ok iG (by omega)).mono (by omega),hf⟩
abbrev bR (r:RV):Option Ent:=some (.obj true [.bool r.neg,r.num.av,r.den.av])
abbrev bZ:Option Ent:=some (.obj true [.bool false,aq,aq])
theorem pV (m:af) (e e':Option Ent) {k:Nat} (hk:k=m.length):List.set (m++[e]) k e'=m++[e']:=by
 subst hk;rw[sg _ _ (aR _),oY];rfl
theorem JL (m:af) (e f e':Option Ent) {k:Nat} (hk:k=m.length):List.set ((m++[e])++[f]) k e'=(m++[e'])++[f]:=by
 rw[List.set_append_left _ _ (by simp;omega),pV m e e' hk]
theorem PB (m:af):cQ m 1=m++[some .resv]:=rfl
theorem Zb (m:af):cQ m 2=(m++[some .resv])++[some .resv]:=by simp[cQ,List.replicate]
section
variable {M:Nat} {pd:Nat}
theorem qia {ar:List Int} {L:OL} (hO:OddsOk ar L) {l:List ND} {k u:Nat} (hk:k < l.length) (hu:l[k].var=u) (iU:u < L.es.length) (hM:M < 4294967296 ^ 8) (h0:M≠0) {t:Nat} {w:RV} (hw:WV M w (t * SS ar (bH L) u)) {T:Nat->Nat}
  (hb:∀ (A:List (Nat×Nat)) (p:Nat×Nat) (A':List (Nat×Nat)),jM ar (bH L) l[k]=A++p::A'->kI t A T p.1+t * p.2<=M) (sM:∀ (i:Nat) (h:i < l[k].kids.length),∃ q:Nat,l[k].kids[i]=q/\q<=1000000) (fI:l[k].kids.length=iT ar u) (IG:iT ar u<=64)
  {c:Nat} {z:Bool} {o:Own} (x3 x8 aN km kn j0:AV) (K:KT):∀ (d j:Nat) (m:af) (E:List (Int×RV)),j+d=l[k].kids.length->pd < c->c+1 < m.length ->
  m.get c=some (.obj true [.int .i64 l[k].var,cE l[k],.int .i64 l[k].leaf])->m.get (c+1)=bR w->m.get pd=some (.mp (.int .i64) (dm E))->wq M E (kI t ((jM ar (bH L) l[k]).take j) T)->E.length+d<=900000000 ->
  ∃ (m':af) (E':List (Int×RV)),qy L.av x3 x8 (.mref pd) aN (.ptr c 0) (.ptr (c+1) 0) km kn j0 (IA z o l[k].kids) (.int .i64 l[k].kids.length) (.int .i64 j) m K=K (.exit 2) (Hr L.av x3 x8 (.mref pd) aN km kn j0 m')/\Fr m m' [pd]/\m'.get pd=some (.mp (.int .i64) (dm E'))/\wq M E' (kI t (jM ar (bH L) l[k]) T)/\E'.length<=E.length+d:=by
 have oO:l[k].var.toNat=u:=by omega
 have hWl:(jM ar (bH L) l[k]).length=l[k].kids.length:=by unfold jM;rw[cg,List.length_range,oO,fI]
 intro d
 induction d with
 | zero=>
  intro j m E hj IS VM Bm NM tW hR hE;refine ⟨m,E,?_,Fr.refl _ _,tW,by rw[kW (by omega)] at hR;exact hR,by omega⟩;rw[KS,bc,aa,aA,aj (by omega)]
 | succ d ih=>
  intro j m E hj IS VM Bm NM tW hR hE;have ke:j < l[k].kids.length:=by omega
  obtain ⟨q,eq,hq⟩:=sM j ke;have jz:l[k].kids.getD j 0=(q:Int):=by rw[aT,bM ke,eh,eq]
  have VB:(jM ar (bH L) l[k])[j]'(by omega)=(q,bH L u j):=by
   unfold jM;rw[tD,List.getElem_range,jz,oO];rfl
  have qnc:jM ar (bH L) l[k]=(jM ar (bH L) l[k]).take j++(q,bH L u j)::(jM ar (bH L) l[k]).drop (j+1):=by
   rw[<- VB,<- kr,oB]
  have NC:=hb _ _ _ qnc;dsimp only at NC;have kg:(jM ar (bH L) l[k]).take (j+1)=(jM ar (bH L) l[k]).take j++[(q,bH L u j)]:=by rw[oC (by omega),VB]
  generalize hTj:kI t ((jM ar (bH L) l[k]).take j) T=Tj at hR NC;have wV:j < L.es[u].ns.length:=by have:=(hO.row u iU).2;unfold iT at fI;omega
  obtain ⟨p,ep,cp,op,fp⟩:=YB hO iU wV;obtain ⟨x,ex,wx⟩:=hw.mul hM (Nat.pos_iff_ne_zero.1 (hO.ss iU).2.1) cp op (by omega);have hS:=hO.ss iU;have gK:=Pq.index_ol (l:=L) (kk:=.i64) iU;have nw:aF none (IA z o l[k].kids) (.int .i64 j)=some (.vptr [.int .i64 (q:Int)]):=by rw[jY ke,eq]
  have qd:=bC Bm;have hpl:=bC tW;have ldw:ai (some 3) (cQ m 1) (.ptr (c+1) 0)=some w.av:=pQ (by rw[PB,bU (by omega)];exact NM);have ldv:ai none (cQ m 1) (.ptr c (0+0))=some (.int .i64 u):=by rw[bV,PB,bU (by omega),Bm,hu];rfl
  have p70:aC (AP ae) (some m.length) (cQ m 1) 70 [L.es[u].av,.int .i64 j]=some (p.av,cQ m 1):=by rw[fe (Pq.fz_il _) (fW _ _),ep];rfl
  have p69:aC (AP ae) (some m.length) (cQ m 1) 69 [w.av,p.av]=some (x.av,cQ m 1):=by rw[fe (hP w) (hP p),hw.fr,fp,ex];rfl
  have m1e:((az (some m.length) (cQ m 1) (.obj true [.bool false,aq,aq])).2)=m++[bZ]:=by rw[EZ,PB,pV m _ _ rfl]
  have st1:aM (some 3) (m++[bZ]) (.ptr m.length 0) x.av=some (m++[bR x]):=by rw[qX (bG rfl),pV m _ _ rfl]
  have qmo:af.get (m++[bR x]) pd=some (.mp (.int .i64) (dm E)):=by rw[bU hpl];exact tW
  have lkq:=OT qmo (k:=(q:Int)) (by omega);have m2e:(az none (m++[bR x]) (.obj true [.bool false,aq,aq])).2=(m++[bR x])++[bZ]:=rfl;have l1:(m++[bR x]).length=m.length+1:=by simp
  generalize hr:(lk E q).getD zR=r at lkq;have wr:WV M r (Tj q):=by rw[<- hr];exact hR q
  have st2:aM (some 3) ((m++[bR x])++[bZ]) (.ptr (m.length+1) 0) r.av=some ((m++[bR x])++[bR r]):=by
   rw[qX (c1:=.bool false) (c2:=aq) (c3:=aq) (bG l1.symm),pV _ _ _ l1.symm]
  have ldx:ai (some 3) ((m++[bR x])++[bR r]) (.ptr m.length 0)=some x.av:=pQ (by rw[bU (by simp),bG rfl]);have ldr:ai (some 3) ((m++[bR x])++[bR r]) (.ptr (m.length+1) 0)=some r.av:=pQ (bG l1.symm)
  have fin:∀ (y:RV) (M2:af),WV M y (Tj q+t * bH L u j)->Fr m M2 []->m.length<=M2.length ->
    ∃ (m':af) (E':List (Int×RV)),((kU (.int .i64) M2 (.mref pd) (.int .i64 (q:Int)) y.av).bind fun m21=>(ag .other .add (.int .i64 (j:Int)) (.int .i64 1)).bind fun v22=>qy L.av x3 x8 (.mref pd) aN (.ptr c 0) (.ptr (c+1) 0) km kn j0 (IA z o l[k].kids) (.int .i64 l[k].kids.length) v22 m21 K)=K (.exit 2) (Hr L.av x3 x8 (.mref pd) aN km kn j0 m')/\Fr m m' [pd]/\m'.get pd=some (.mp (.int .i64) (dm E'))/\wq M E' (kI t (jM ar (bH L) l[k]) T)/\E'.length<=E.length+(d+1):=by
   intro y M2 wy f2 gC;have pN:M2.get pd=some (.mp (.int .i64) (dm E)):=by rw[f2.get pd hpl (by simp)];exact tW
   have Od:=bC pN;have up:=P6 pN (k:=(q:Int)) (by omega) (by omega) y;have ple:=YN E q y;have fr2:Fr m (M2.set pd (some (.mp (.int .i64) (dm (pm E q y))))) [pd]:=(f2.mono (by simp)).set _ (.inl (by simp))
   obtain ⟨m',E',e,k1,k2,k3,k4⟩:=ih (j+1) (M2.set pd (some (.mp (.int .i64) (dm (pm E q y))))) (pm E q y) (by omega) IS (by rw[a8];omega) (by rw[cw (by omega),f2.get c qd (by simp)];exact Bm) (by rw[cw (by omega),f2.get (c+1) VM (by simp)];exact NM) (cL rfl Od) (by
    rw[kg,JO,hTj]
    exact hR.put wy) (by omega)
   refine ⟨m',E',?_,Fr.trans fr2 k1 (fun a ha=>.inl ha),k2,k3,by omega⟩;rw[up,aa,cr (by omega),aa];exact e
  have pre:qy L.av x3 x8 (.mref pd) aN (.ptr c 0) (.ptr (c+1) 0) km kn j0 (IA z o l[k].kids) (.int .i64 l[k].kids.length) (.int .i64 j) m K =
    aw (.bool (lk E q).isSome) (
     (ai (some 3) ((m++[bR x])++[bR r]) (.ptr (m.length+1) 0)).bind fun bL=>
     (ai (some 3) ((m++[bR x])++[bR r]) (.ptr m.length 0)).bind fun bD=>
     (aC (AP ae) none ((m++[bR x])++[bR r]) 71 [bL,bD]).bind fun gQ=>
     (aM (some 3) gQ.2 (.ptr m.length 0) gQ.1).bind fun m19=>
     (ai (some 3) m19 (.ptr m.length 0)).bind fun v20=>
     (kU (.int .i64) m19 (.mref pd) (.int .i64 (q:Int)) v20).bind fun m21=>
     (ag .other .add (.int .i64 (j:Int)) (.int .i64 1)).bind fun v22=>
     qy L.av x3 x8 (.mref pd) aN (.ptr c 0) (.ptr (c+1) 0) km kn j0 (IA z o l[k].kids) (.int .i64 l[k].kids.length) v22 m21 K) (
     (ai (some 3) ((m++[bR x])++[bR r]) (.ptr m.length 0)).bind fun v23=>
     (kU (.int .i64) ((m++[bR x])++[bR r]) (.mref pd) (.int .i64 (q:Int)) v23).bind fun m24=>
     (ag .other .add (.int .i64 (j:Int)) (.int .i64 1)).bind fun v25=>
     qy L.av x3 x8 (.mref pd) aN (.ptr c 0) (.ptr (c+1) 0) km kn j0 (IA z o l[k].kids) (.int .i64 l[k].kids.length) v25 m24 K):=by
   rw[KS,bc,aa,aA,an (by omega),nw,aa,gy,aa,ldw,aa,cJ,aa,ldv,aa,gK,aa,Pq.load_ol,aa,p70,aa];dsimp only;rw[p69,aa];dsimp only;rw[m1e,show (az (some m.length) (cQ m 1) Ent.resv).1=m.length from rfl,st1,aa,show (AV.agg [.bool false,aq,aq])=zR.av from rfl,lkq,aa];dsimp only;rw[show ∀ a b:AV,aZ (.tup [a,b]) 0=some a from fun _ _=>rfl,aa,show ∀ a b:AV,aZ (.tup [a,b]) 1=some b from fun _ _=>rfl,aa,m2e,show (az none (m++[bR x]) Ent.resv).1=m.length+1 from l1,st2,aa]
  rw[pre]
  cases Ej:lk E q with
  | none=>
   rw[Option.isSome_none,gO,ldx,aa]
   have hz:Tj q=0:=by
    have h1:=hR q;rw[Ej,Option.getD_none] at h1;have h2:=(qat M).q;rw[h1.q,xy,YU h0] at h2;exact h2
   obtain ⟨m',E',e,kk⟩:=fin x ((m++[bR x])++[bR r]) (by rw[hz,br];exact wx) (((Fr.refl m []).snoc _).snoc _) (by simp);exact ⟨m',E',e,kk⟩
  | some r0=>
   obtain ⟨y,ey,wy⟩:=wr.add hM h0 wx NC;have p71:aC (AP ae) none ((m++[bR x])++[bR r]) 71 [r.av,x.av]=some (y.av,(m++[bR x])++[bR r]):=by rw[fe (hP r) (hP x),wr.fr,wx.fr,ey];rfl
   have st3:aM (some 3) ((m++[bR x])++[bR r]) (.ptr m.length 0) y.av=some ((m++[bR y])++[bR r]):=by
    rw[qX (c1:=.bool x.neg) (c2:=x.num.av) (c3:=x.den.av) (by rw[bU (by simp),bG rfl]),JL m _ _ _ rfl]
   have ldy:ai (some 3) ((m++[bR y])++[bR r]) (.ptr m.length 0)=some y.av:=pQ (by rw[bU (by simp),bG rfl]);rw[Option.isSome_some,iV,ldr,aa,ldx,aa,p71,aa];dsimp only;rw[st3,aa,ldy,aa];obtain ⟨m',E',e,kk⟩:=fin y ((m++[bR y])++[bR r]) wy (((Fr.refl m []).snoc _).snoc _) (by simp);exact ⟨m',E',e,kk⟩
end
end Go.Ab
namespace Go.Ab
open Go.Proofs Go.Proofs.Tryz
section
variable {ar:List Int} {L:OL} {l:List ND}
theorem qoF (hO:OddsOk ar L) {u:Nat} (hu:u < L.es.length) {j:Nat}:Pq.partQ L.es[u] j=dK false (bH L u j) (SS ar (bH L) u):=by rw[(hO.ss hu).1,JK hu];rfl
end
end Go.Ab
namespace Go.Ab
open Go.Proofs Go.Proofs.Tryz
def Cy (M:Nat) (En:List (Int×RV)) (D:List (Int×Nat)):Prop:=∀ p∈D,∃ r,lk En p.1=some r/\WV M r p.2
theorem Cy.put {M:Nat} {En:List (Int×RV)} {D:List (Int×Nat)} (h:Cy M En D) {c:Int} {N:Nat} {r:RV} (hc:c∉D.map Prod.fst) (hr:WV M r N):Cy M (pm En c r) (D++[(c,N)]):=fun p hp=>by
 rw[Xx]
 rcases iy.1 hp with hp | hp
 ·rw[aj (fun e=>hc (by rw[e];exact List.mem_map_of_mem hp))];exact h p hp
 ·obtain rfl:p=(c,N):=by simpa using hp
  rw[an rfl];exact ⟨r,rfl,hr⟩
abbrev bN (n:ND):Option Ent:=some (.obj true [.int .i64 n.var,cE n,.int .i64 n.leaf])
section
variable {s:Nat} {F:List Nat} {zs:Bool} {os:Own} {most:Int} {l:List ND} {ar:List Int}
theorem qib {L:OL} (hO:OddsOk ar L) (g:GoodL ar l) (h1:∀ x∈ar,1<=x/\x<=64) (fV:ar.length<=16) (dd:l.length<=100000) {M0:af} (h0:c9 M0 s F (IA zs os ar) most l) {pb pd pe nm:Nat} (hpd:pd∉F) (y9:pe∉F) (hne:pd≠pe) (hb0:M0.get pb=some (.obj true [.ptr s 0])) (hbd:pb≠pd) (hbe:pb≠pe) {ids:List Nat} (kf:M0.get nm=some (.obj false (ds ids))) (hnd:nm≠pd) (hnp:nm≠pe)
  (cm:ids.length<=100000) (x8:AV) (K:KT):∀ (R P:List Nat) (m:af) (E En:List (Int×RV)) (T:Nat->Nat) (done:Nat) (D:List (Int×Nat)),ids=P++R->Flow ar (bH L) l R T done->Fr M0 m [pd,pe]->m.get pd=some (.mp (.int .i64) (dm E))->m.get pe=some (.mp (.int .i64) (dm En)) ->
  wq (PM ar (bH L) ar.length 0) E T->Cy (PM ar (bH L) ar.length 0) En D->((D++run ar (bH L) l R T).map Prod.fst).Nodup->E.length+64 * R.length<=900000000->En.length+R.length<=900000000 ->
  ∃ (m':af) (En':List (Int×RV)),As L.av (.ptr pb 0) x8 (.mref pd) (.mref pe) (.arr nm 0 ids.length none) (.int .i64 ids.length) (.int .i64 P.length) m K=K (.exit 0) (Ln x8 (.mref pe) m')/\Fr M0 m' [pd,pe]/\m'.get pe=some (.mp (.int .i64) (dm En'))/\Cy (PM ar (bH L) ar.length 0) En' (D++run ar (bH L) l R T):=by
 obtain ⟨tR,jy⟩:=Hv hO.all fV;intro R
 induction R with
 | nil=>
  intro P m E En T done D yL hF f jz wT hR Ir y5 Nq Iq;rw[bY] at yL;subst yL;refine ⟨m,En,?_,f,wT,by rw[run,bY];exact Ir⟩;rw[Rn,bc,aa,aA,aj (by omega)]
 | cons k R ih=>
  intro P m E En T done D yL hF f jz wT hR Ir y5 Nq Iq;have hk:=hF.lt k fQ;have pL:P.length < ids.length:=by rw[yL];simp
  have N7:∀ a∈F,a∉[pd,pe]:=fun a ha hh=>by
   simp only[gA,Dc,or_false] at hh
   rcases hh with rfl | rfl
   ·exact hpd ha
   ·exact y9 ha
  have gM:=h0.fr f N7;obtain ⟨p0,na,TT,st,_⟩:=gM;have bf:=st.ok _ (bI hk);have VZ:m.get pb=some (.obj true [.ptr s 0]):=by rw[f.get pb (bC hb0) (by simp[hbd,hbe])];exact hb0
  have Eg:m.get nm=some (.obj false (ds ids)):=by rw[f.get nm (bC kf) (by simp[hnd,hnp])];exact kf
  have qmU:=bC VZ;have IT:=bC jz;have Ws:=bC wT;have mQ:=bC st.hs;have rg:∀ x,x < m.length->af.get (cQ m 2) x=m.get x:=fun x hx=>by rw[Zb,bU (by simp;omega),bU hx]
  have ix:aF none (.arr nm 0 ids.length none) (.int .i64 P.length)=some (.ptr nm P.length):=ga pL
  have ldk:ai none m (.ptr nm P.length)=some (.int .i64 (k:Nat)):=by
   rw[bV,Eg,kh,aa,uZ];exact Ii (by rw[yL];simp)
  have ldb:ai none (cQ m 2) (.ptr pb 0)=some (.ptr s 0):=mW (by rw[rg _ qmU];exact VZ);have BF:ai none (cQ m 2) (.ptr s (0+1))=some na:=by rw[bV,rg _ mQ,st.hs];rfl
  have y6:=EX st.hn hk;have ldv:ai (some 3) (cQ m 2) (.vptr [.int .i64 l[k].var,cE l[k],.int .i64 l[k].leaf])=some l[k].av:=rfl;have lkq:=OT (m:=cQ m 2) (p:=pd) (E:=E) (k:=(k:Int)) (by rw[rg _ IT];exact jz) (by omega);generalize hw:(lk E k).getD zR=w at lkq;have ww:WV (PM ar (bH L) ar.length 0) w (T k):=by rw[<- hw];exact hR k
  have e1:((az (some (m.length+1)) (az (some m.length) (cQ m 2) (.obj true [.int .i64 0,aq,.int .i64 0])).2 (.obj true [.bool false,aq,aq])).2)=(m++[some (.obj true [.int .i64 0,aq,.int .i64 0])])++[bZ]:=by
   rw[EZ,EZ,Zb,JL m _ _ _ rfl,pV _ _ _ (by simp)]
  have hsh:cU (some 3) l[k].av=true:=by unfold ND.av cE;split<;>rfl
  have st1:aM (some 3) ((m++[some (.obj true [.int .i64 0,aq,.int .i64 0])])++[bZ]) (.ptr m.length 0) l[k].av=some ((m++[bN l[k]])++[bZ]):=by
   rw[show l[k].av=.agg [.int .i64 l[k].var,cE l[k],.int .i64 l[k].leaf] from rfl,ZJ (a:=.int .i64 0) (b:=aq) (c:=.int .i64 0) (by rw[bU (by simp),bG rfl]) hsh,JL m _ _ _ rfl]
  have st2:aM (some 3) ((m++[bN l[k]])++[bZ]) (.ptr (m.length+1) 0) w.av=some ((m++[bN l[k]])++[bR w]):=by
   rw[qX (c1:=.bool false) (c2:=aq) (c3:=aq) (bG (by simp)),pV _ _ _ (by simp)]
  have gn:af.get ((m++[bN l[k]])++[bR w]) m.length=some (.obj true [.int .i64 l[k].var,cE l[k],.int .i64 l[k].leaf]):=by rw[bU (by simp),bG rfl]
  have gw:af.get ((m++[bN l[k]])++[bR w]) (m.length+1)=bR w:=bG (by simp);have gl:∀ x,x < m.length->af.get ((m++[bN l[k]])++[bR w]) x=m.get x:=fun x hx=>by rw[bU (by simp;omega),bU hx]
  have fM:Fr m ((m++[bN l[k]])++[bR w]) []:=((Fr.refl m []).snoc _).snoc _;have lM:((m++[bN l[k]])++[bR w]).length=m.length+2:=by simp
  generalize hMM:(m++[bN l[k]])++[bR w]=MM at gn gw gl fM lM st2;have ld0:ai none MM (.ptr m.length (0+0))=some (.int .i64 l[k].var):=by rw[bV,gn];rfl
  have ld1:∀ M',M'.get m.length=some (.obj true [.int .i64 l[k].var,cE l[k],.int .i64 l[k].leaf])->ai none M' (.ptr m.length (0+1))=some (cE l[k]):=fun M' h=>by rw[bV,h];rfl
  have ld2:ai none MM (.ptr m.length (0+2))=some (.int .i64 l[k].leaf):=by rw[bV,gn];rfl
  have ldw:ai (some 3) MM (.ptr (m.length+1) 0)=some w.av:=pQ gw;have Bp:=uj bf;have Vs:(P++[k]).length=P.length+1:=by simp
  have pre:As L.av (.ptr pb 0) x8 (.mref pd) (.mref pe) (.arr nm 0 ids.length none) (.int .i64 ids.length) (.int .i64 P.length) m K =
    aw (.bool (decide (l[k].var < 0))) (
     (kU (.int .i64) MM (.mref pe) (.int .i64 l[k].leaf) w.av).bind fun m19=>
     (some (AV.ptr m.length (0+1))).bind fun v20=>
     (ai none m19 v20).bind fun v21=>
     (aK false v21).bind fun v22=>
     qy L.av (.ptr pb 0) x8 (.mref pd) (.mref pe) (.ptr m.length 0) (.ptr (m.length+1) 0) (.arr nm 0 ids.length none) (.int .i64 ids.length) (.int .i64 P.length) v21 v22 (.int .i64 0) m19 (xY K)) (
     qy L.av (.ptr pb 0) x8 (.mref pd) (.mref pe) (.ptr m.length 0) (.ptr (m.length+1) 0) (.arr nm 0 ids.length none) (.int .i64 ids.length) (.int .i64 P.length) (IA (kz l[k]) (ko l[k]) l[k].kids) (.int .i64 l[k].kids.length) (.int .i64 0) MM (xY K)):=by
   rw[Rn,bc,aa,aA,an (by omega),ix,aa,ldk,aa,ldb,aa,nU,aa,cJ,aa,BF,aa,y6,aa,ldv,aa,show (AV.agg [.bool false,aq,aq])=zR.av from rfl,lkq,aa];dsimp only;rw[e1,show (az (some m.length) (cQ m 2) Ent.resv).1=m.length from rfl,st1,aa];have e2:∀ x,(az (some (m.length+1)) x Ent.resv).1=m.length+1:=fun _=>rfl;rw[e2,st2,aa,cJ,aa,ld0,aa,bc,aa,cJ,aa,ld2,aa,ldw,aa,cJ,aa,ld1 MM gn,aa,Bp,iI,aa]
  by_cases hv:l[k].var < 0
  ·
   obtain ⟨Nr,ve,_⟩:=hF.leaf g hk hv
   have oN:run ar (bH L) l (k::R) T=(l[k].leaf,T k)::run ar (bH L) l R T:=by
    rw[run,bM hk];dsimp only;rw[an hv]
   rw[oN] at y5 ⊢
   have hlf:-1000000000000<=l[k].leaf/\l[k].leaf<=1000000000000:=by
    rcases bf with ⟨_,_,h3⟩ | ⟨h3,_⟩<;>omega
   have V0:MM.get pe=some (.mp (.int .i64) (dm En)):=by rw[gl _ Ws];exact wT
   have up:=P6 V0 hlf (by simp at Iq;omega) w
   have hcn:l[k].leaf∉D.map Prod.fst:=fun hh=>by
    rw[lA,gg] at y5;exact (List.nodup_append.1 y5).2.2 _ hh _ fQ rfl
   have ple:=YN En l[k].leaf w
   have vn:l[k].kids=[]:=by
    rcases bf with ⟨_,h2,_⟩ | ⟨h2,_⟩
    ·exact h2
    ·omega
   have Od:=bC V0;have f2:Fr M0 (MM.set pe (some (.mp (.int .i64) (dm (pm En l[k].leaf w))))) [pd,pe]:=(Fr.trans f fM fun _ h=>by cases h).set _ (.inl (by simp));obtain ⟨m',En',e,k1,k2,k3⟩:=ih (P++[k]) _ E (pm En l[k].leaf w) T _ (D++[(l[k].leaf,T k)]) (by rw[yL,gd];rfl) Nr f2 (by rw[cw hne,gl _ IT];exact jz) (cL rfl Od) hR (Ir.put hcn ww) (by rw[gd];exact y5) (by simp at Nq;omega) (by simp at Iq;omega);refine ⟨m',En',?_,k1,k2,by rw[gd] at k3;exact k3⟩;rw[Vs] at e;have gn2:af.get (MM.set pe (some (.mp (.int .i64) (dm (pm En l[k].leaf w))))) m.length=some (.obj true [.int .i64 l[k].var,cE l[k],.int .i64 l[k].leaf]):=by rw[cw (by omega)];exact gn
   rw[pre,eE hv,iV,up,aa,aa,ld1 _ gn2,aa,Bp,iI,aa,KS,bc,aa,aA,aj (by rw[vn];simp),QG,cr (by omega),aa];exact e
  ·
   obtain ⟨u,hu⟩:∃ u:Nat,l[k].var=u:=⟨l[k].var.toNat,by omega⟩;have oO:l[k].var.toNat=u:=by omega
   obtain ⟨iU,IZ,gu,_,hbound,Nr,_⟩:=hF.inner g (fun v hv=>(hO.all v hv).1) hk hu
   have oN:run ar (bH L) l (k::R) T=run ar (bH L) l R (kI (T k / SS ar (bH L) u) (jM ar (bH L) l[k]) T):=by
    rw[run,bM hk];dsimp only;rw[aj hv,oO]
   rw[oN] at y5 ⊢;obtain ⟨kF,ud⟩:=g.var k hk (by omega);rw[oO] at ud;have fI:l[k].kids.length=iT ar u:=by unfold iT;omega
   have IG:iT ar u<=64:=by
    have:=h1 _ (bI iU);unfold iT;rw[aT,bM iU,eh];omega
   have qqJ:E.length+(64 * R.length+64)<=900000000:=by simp only[aL] at Nq;omega
   obtain ⟨m1,E1,e17,f1,g1,r1,lP⟩:=qia hO hk hu (by rw[hO.len];exact iU) jy tR (t:=T k / SS ar (bH L) u) (w:=w) (by rw[IZ];exact ww) (T:=T) hbound (fun i hi=>by
     obtain ⟨q,e,hq⟩:=pP g hk _ (bI hi)
     exact ⟨q,e,by omega⟩) fI IG (c:=m.length) (z:=kz l[k]) (o:=ko l[k]) (.ptr pb 0) x8 (.mref pe) (.arr nm 0 ids.length none) (.int .i64 ids.length) (.int .i64 P.length) (xY K) l[k].kids.length 0 MM E (by omega) IT (by omega) gn gw (by rw[gl _ IT];exact jz) (by rw[List.take_zero];exact hR) (by omega)
   have f2:Fr M0 m1 [pd,pe]:=Fr.trans (Fr.trans f fM fun _ h=>by cases h) f1 fun a ha=>.inl (by simp at ha;simp[ha]);have qmm:m1.get pe=some (.mp (.int .i64) (dm En)):=by rw[f1.get pe (by omega) (by simp;exact fun e=>hne e.symm),gl _ Ws];exact wT
   obtain ⟨m',En',e,k1,k2,k3⟩:=ih (P++[k]) m1 E1 En _ done D (by rw[yL,gd];rfl) Nr f2 g1 qmm r1 Ir y5 (by omega) (by simp at Iq;omega);refine ⟨m',En',?_,k1,k2,k3⟩;rw[Vs] at e;have e17:qy L.av (.ptr pb 0) x8 (.mref pd) (.mref pe) (.ptr m.length 0) (.ptr (m.length+1) 0) (.arr nm 0 ids.length none) (.int .i64 ids.length) (.int .i64 P.length) (IA (kz l[k]) (ko l[k]) l[k].kids) (.int .i64 l[k].kids.length) (.int .i64 0) MM (xY K)=_:=e17;rw[pre,cT hv,gO,e17,QG,cr (by omega),aa];exact e
end
end Go.Ab
namespace Go.Ab.Pq
open Go.Proofs.Tryz
structure HI (c:CV) (n:ND) (s:RV) (m:af):Prop where
 g0:m[0]?=some (cC c)
 g1:m[1]?=some (cR zR)
 g2:m[2]?=some (cN n)
 g3:m[3]?=some (cR s)
theorem Bb {m:af} {k:Nat} {e:Option Ent} (h:m[k]?=some e) (x:Option Ent):(m++[x])[k]?=some e:=by
 rw[nK (AE.1 h).1];exact h
theorem HI.app {c:CV} {n:ND} {s:RV} {m:af} (h:HI c n s m) (e:Option Ent):HI c n s (m++[e]):=⟨Bb h.g0 e,Bb h.g1 e,Bb h.g2 e,Bb h.g3 e⟩
theorem W111s {l:IL} (h:RowOk l) (x2 x4 x5 x7:AV) (m:af) (K:KT):∀ j i:Nat,i+j=l.ns.length ->
  CM x2 x4 x5 (.int .i64 (l.ns.take i).sum) x7 l.av (.int .i64 l.ns.length) (.int .i64 i) m K=K (.exit 0) (K2 x2 x4 x5 (.int .i64 l.ns.sum) x7 m)
 | 0,i,qe=>by
  rw[QP,cW,aa,aA,aj (by omega),kW (by omega)]
 | j+1,i,qe=>by
  have hi:i < l.ns.length:=by omega
  have:=h.1;obtain ⟨b1,b2⟩:=ZZ h i;obtain ⟨a,ha,D6⟩:=h.get hi;have ih:=W111s h x2 x4 x5 x7 m K j (i+1) (by omega);rw[Z0 hi] at ih;rw[QP,cW,aa,aA,an hi,index_il hi,aa,load_il,aa,lD,iQ (by omega) (by omega),aa,cr (by omega),aa,ih]
end Go.Ab.Pq
namespace Go.Ab.Pq
open Go.Proofs.Tryz
theorem zip_all {L:OL} {ns:List Int} (hl:L.es.length=ns.length) (h:(L.es.zip ns).all (fun p=>rowB p.1 p.2)=true) {v:Nat} (hv:v < L.es.length):rowB L.es[v] (ns[v]'(by omega))=true:=by
 have hz:v < (L.es.zip ns).length:=by rw[List.length_zip];omega
 have:=gJ.1 h _ (bI hz);rw[List.getElem_zip] at this;exact this
theorem qpC {c:CV} (h:py c=true) {v:Nat} (hv:v < c.odds.es.length):RowOk c.odds.es[v]:=by
 unfold py at h;simp only[cn] at h;obtain ⟨_,h1,h2,_⟩:=h;unfold oddsB at h2;rw[cn,wF] at h2;have h3:=zip_all h2.1 h2.2 hv;unfold rowB at h3;simp only[cn,wF] at h3;exact ⟨OP h1 _ (bI hv),fun o ho=>oddB_iff.1 (gJ.1 h3.1 o ho),h3.2.2⟩
theorem PN {c:CV} (h:py c=true):c.ws.es.length=c.nodes.es.length/\0 < c.nodes.es.length:=by
 unfold py at h;simp only[cn,wF] at h;obtain ⟨h0,_,_,h1,_⟩:=h;unfold vM at h1;rw[cn,wF] at h1;exact ⟨h0.2.2.2,h1.1⟩
theorem qpB {c:CV} (h:py c=true) {i:Nat} (hi:i < c.nodes.es.length):ql (oI (ji c.odds)) c.nodes.es i c.nodes.es[i]=true:=by
 unfold py at h;simp only[cn] at h;obtain ⟨_,_,_,h1,_⟩:=h;unfold vM at h1;rw[cn] at h1;have:=TV.1 h1.2 i (by omega) (by omega)
 rwa [Ni hi] at this
theorem qpA {c:CV} (h:py c=true) {i:Nat} (hi:i < c.nodes.es.length):Dh c.odds c.ws c.nodes.es[i]/\(c.nodes.es[i].var=-1\/0<=c.nodes.es[i].var):=by
 have hn:=qpB h hi;have hl:=(PN h).1;refine ⟨?_,Ya hn⟩;unfold ql at hn
 by_cases c1:c.nodes.es[i].var=-1
 ·exact .inl (by omega)
 ·rw[aj c1,cn,wF] at hn;obtain ⟨⟨h0,h1,h2,h3⟩,h4⟩:=hn;obtain ⟨v,hv⟩:=oW h0;rw[Ms,BJ] at h1;have fZ:v < c.odds.es.length:=by omega
  have qni:v < (ji c.odds).length:=by rw[BJ];exact fZ
  rw[Ms,hv,cH,aT,bM qni] at h3;have h3:(c.nodes.es[i].kids.ns.length:Int)=(ji c.odds)[v]:=h3;rw[Xr fZ] at h3;refine .inr ⟨v,fZ,hv,qpC h fZ,by omega,fun k hk=>?_⟩;have:=gJ.1 h4 k hk;unfold pk at this;rw[cn,wF] at this;omega
def s7 (c:CV) (i:Nat):Bool:=decide (wQ c.ws i=wN c.odds c.ws c.leaf (c.nodes.es.getD i zN))
def wK (f:Nat->Bool):Nat->Nat->Option Nat
 | 0,_=>none
 | j+1,i=>if f i then wK f j (i+1) else some i
def yu (c:CV):Int:=if py c=true then (match wK (s7 c) c.nodes.es.length 0 with | none=>0 | some _=>32) else 1
def UA (c:CV):Int:=if py c=true then (match wK (s7 c) c.nodes.es.length 0 with | none=>0 | some i=>i) else 0
def H4 (c:CV):Rat:=if yu c=0 then wQ c.ws (c.nodes.es.length - 1) else 0
theorem qlP (r:RV) (a b:Int):Fz (.tup [r.av,.int .i64 a,.int .i64 b]) (.tup [r.fr.av,.int .i64 a,.int .i64 b]):=by
 intro m;have e:bB m j8 (.tup [r.av,.int .i64 a,.int .i64 b])=(dU (bB m 8) [r.av,.int .i64 a,.int .i64 b]).map fun r=>(.tup r.1,r.2):=rfl;rw[e];simp[dU,U9,jX _ _ m 7]
theorem Uj:fU (.agg [.bool false,.lst none true .full [],.lst none true .full []]) []=some zR.av:=rfl
theorem Dh.fr {odds:OL} {ws:LV} {n:ND} (h:Dh odds ws n):Dh odds.fr ws.fr ⟨n.var,n.kids.fr,n.leaf⟩:=by
 rcases h with h | ⟨v,hv,hn,h⟩
 ·exact .inl h
 ·exact .inr ⟨v,hv,hn,h.row,h.len,h.kids⟩
theorem qav:zR.q=0:=zK _ _
theorem qau:ROk 1 zR:=⟨⟨by simp[zR,iv,Dg],by simp[zR,iv],fun _=>rfl⟩,⟨by simp[zR,iv,Dg],by simp[zR,iv],fun _=>rfl⟩,by simp[zR,iv],by simp[zR,iv]⟩
structure CI (c:CV) (m:af):Prop where
 g0:m[0]?=some (cC c)
 g1:m[1]?=some (cR zR)
theorem CI.app {c:CV} {m:af} (h:CI c m) (e:Option Ent):CI c (m++[e]):=⟨Bb h.g0 e,Bb h.g1 e⟩
theorem Tz {c:CV} (hc:COk 30 c) (hs:py c=true) (K:KT):∀ (j i:Nat) (m:af),i+j=c.nodes.es.length->CI c m ->
  ∃ m',CI c m'/\Ay (.ptr 0 0) (.ptr 1 0) c.nodes.av (.int .i64 c.nodes.es.length) (.int .i64 i) m K=match wK (s7 c) j i with
   | none=>K (.exit 0) (LK (.ptr 0 0) (.ptr 1 0) m')
   | some p=>K .ret (HA (.ptr 1 0) (.int .i64 p) (.int .i64 32) m')
 | 0,i,m,qe,hm=>⟨m,hm,by rw[RM,cW,aa,aA,aj (by omega)];rfl⟩
 | j+1,i,m,qe,hm=>by
  have hi:i < c.nodes.es.length:=by omega
  have hl:=(PN hs).1;have hn:=hc.nlen;have hw:i < c.ws.es.length:=by omega
  obtain ⟨ua,_⟩:=qpA hs hi;obtain ⟨m',hm',ih⟩:=Tz hc hs K j (i+1) (m++[cN c.nodes.es[i]]) (by omega) (hm.app _);obtain ⟨s,s1,s2,s3⟩:=qha (odds:=c.odds.fr) (n:=⟨c.nodes.es[i].var,c.nodes.es[i].kids.fr,c.nodes.es[i].leaf⟩) (ws:=c.ws.fr) c.leaf hc.ws.fr' ua.fr;have s2:Can s (wN c.odds c.ws c.leaf c.nodes.es[i]):=s2;have okw:=hc.ws.ok _ (bI hw)
  have hb:Bd 4000 (wN c.odds c.ws c.leaf c.nodes.es[i]):=by
   rcases ua with h | ⟨v,hv,ud,h⟩
   ·rw[VD h]
    split
    ·exact Kc (by omega)
    ·exact Kd (by omega)
   ·rw[VE hv ud];exact ZY h hc.ws (aR _)
  have wfr:=hc.ws.fr _ (bI hw);have e14:=qhc (okw.mono (by omega:30<=4000)) (s2.ok hb (by omega)) wfr s3 (by omega) (by omega);have fS:=hm.app (cN c.nodes.es[i])
  have eok:decide (c.ws.es[i].q=s.q)=s7 c i:=by
   unfold s7;rw[Fs hw,Ni hi,s2.q]
  rw[eok] at e14
  have key:Ay (.ptr 0 0) (.ptr 1 0) c.nodes.av (.int .i64 c.nodes.es.length) (.int .i64 i) m K=aw (.bool (s7 c i)) (Ay (.ptr 0 0) (.ptr 1 0) c.nodes.av (.int .i64 c.nodes.es.length) (.int .i64 ((i+1:Nat):Int)) (m++[cN c.nodes.es[i]]) K) (K .ret (HA (.ptr 1 0) (.int .i64 i) (.int .i64 32) ((m++[cN c.nodes.es[i]]).set 1 (cR zR)))):=by
   rw[RM,cW,aa,aA,an hi,OE hc.nsh hi,aa,XA,aa];simp only[mX,cX];rw[Yh,aa,dc,aa,A2 fS.g0,aa,BD hc.ws hw,aa,BL,aa,df,aa,H5 fS.g0,aa,qog (x:=c.nodes.es[i]) Nk,aa,U5,aa,MC fS.g0,aa,aa,A2 fS.g0,aa,qoS (fz_ol _) (qlL _) (fW _ _) (Nf _),s1,aS,aa,dw,wfr,s3,e14,aS,aa,dE,aa,WS,cr (by omega),aa,Uj,aa,Zh fS.g1,aa]
  rw[key,wK]
  cases s7 c i with
  | true=>
   refine ⟨m',hm',?_⟩;rw[oQ,ih];rfl
  | false=>
   refine ⟨(m++[cN c.nodes.es[i]]).set 1 (cR zR),⟨?_,?_⟩,rfl⟩
   ·rw[Hd (by omega)];exact fS.g0
   ·rw[Da (AE.1 fS.g1).1]
theorem V53 {c:CV} (hc:COk 30 c):∃ r:RV,AP ae 53 [c.av]=some (.tup [r.av,.int .i64 (UA c),.int .i64 (yu c)])/\r.q=H4 c/\r.fr=r/\ROk 4000 r:=by
 have fin:∀ (r:RV) (a b:Int) (m:af),r.fr=r->AC ae 53 [c.av] []=some (.tup [r.av,.int .i64 a,.int .i64 b],m)->AP ae 53 [c.av]=some (.tup [r.av,.int .i64 a,.int .i64 b]):=fun r a b m hr h=>(cM _ _ (qlP r a b) rfl h).trans (by rw[hr]);have start:AC ae 53 [c.av] []=AC ae 53 [c.av] []:=rfl;have g0:([cC c,cR zR]:af)[0]?=some (cC c):=rfl;have e13:AP ae 112 [c.fr.av]=some (.bool (py c)):=qhb hc.fr;have hl:=hc.nlen
 conv at start=>rhs;rw[T53,Ul,aa]
 simp only[BS,cX,aQ,bQ,aL,b8,br] at start;rw[UF g0,aa,cG (Vb _),e13,aS,aa,dE,aa,WS] at start;unfold UA yu H4 yu
 cases hs:py c with
 | false=>
  rw[hs,oP,Uj,aa,dz,aa,dp,aa] at start;exact ⟨zR,fin _ _ _ _ J6 start,by simp[qav],J6,qau.mono (by omega)⟩
 | true=>
  obtain ⟨gC,hl3⟩:=PN hs;obtain ⟨m',hm',hW⟩:=Tz hc hs (Gk (aE ae.P f53.results.toList)) c.nodes.es.length 0 [cC c,cR zR] (by omega) ⟨rfl,rfl⟩;rw[show (((0:Nat):Int))=(0:Int) from rfl] at hW;rw[hs,oQ,dh,aa,H6 g0,aa,EL,aa,hW] at start;simp only[bz]
  cases hf:wK (s7 c) c.nodes.es.length 0 with
  | some p=>
   rw[hf] at start;dsimp only at start;rw[qeS,B6 hm'.g1,aa] at start;exact ⟨zR,fin _ _ _ _ J6 start,by simp[qav],J6,qau.mono (by omega)⟩
  | none=>
   rw[hf] at start;dsimp only at start;have pf:c.nodes.es.length - 1 < c.ws.es.length:=by omega
   have okw:=(hc.ws.ok _ (bI pf)).mono (by omega:30<=100);have wfr:=hc.ws.fr _ (bI pf);obtain ⟨t,t1,t2,t3⟩:=HO okw (wD.ok (Kd (by omega:1<=100)) (by omega)) (by omega) (by omega)
   have ic:ag .other .sub (.int .i64 (c.ws.es.length:Int)) (.int .i64 1)=some (.int .i64 ((c.nodes.es.length - 1:Nat):Int)):=by
    rw[pH,iQ (by omega) (by omega)];congr 2;omega
   rw[qeT,dc,aa,A2 hm'.g0,aa,aa,A2 hm'.g0,aa,zq,aa,ic,aa,BD hc.ws pf,aa,BL,aa,dr,Du,aS,aa,dw,wfr,Af,t1,aS,aa,Zh hm'.g1,aa,B6 (x:=t) (by rw[Da (AE.1 hm'.g1).1]),aa] at start;have hq:t.q=wQ c.ws (c.nodes.es.length - 1):=by rw[t2.q,wD.q,Rat.add_zero,Fs pf]
   refine ⟨t,fin _ _ _ _ t3 start,by rw[an rfl,hq],t3,?_⟩;have:t.q=c.ws.es[c.nodes.es.length - 1].q:=by rw[hq,Fs pf]
   have tS:=t2;rw[wD.q,Rat.add_zero] at tS;exact tS.ok ((okw.bd (by omega)).mono (by omega)) (by omega)
end Go.Ab.Pq
namespace Go.Ab
open Go.Proofs Go.Proofs.Tryz
def qV (c:Int) (r:RV):AV:=.agg [.int .i64 c,.bool r.neg,r.num.av,r.den.av]
inductive QR (e:Nat) (sh:Sh) (m:af):AV->List AV->List Nat->Prop
 | none:QR e sh m aq [] []
 | some (t:Nat) (es:List AV) (ht:m.get t=some (.tok es.length sh.size)) (hne:es≠[]):QR e sh m (.lst sh false (.tok t e) es) es [t]
theorem qo6 {e b:Nat} {sh:Sh} {m:af} {x:AV} {l:List AV} {T:List Nat} (h:QR e sh m x l T) (hb:(l.length+1) * b<=gS) (y:AV):∃ x' m' T',ck none false e sh b m x (.lst sh false .full [y])=some (x',m')/\QR e sh m' x' (l++[y]) T'/\Fr m m' T/\Gr m T T':=by
 cases h with
 | none=>
  refine ⟨.lst sh false (.tok m.length e) [y],m++[some (Ent.tok 1 sh.size)],[m.length],?_,.some _ [y] (by rw[bG rfl];rfl) (by simp),Fr.app m _ _,fun k hk=>?_⟩
  ·have h2:b<=gS:=by simpa using hb
   simp[ck,h2,az]
  ·obtain rfl:k=m.length:=by simpa using hk
   exact .inr (aR _)
 | some t es ht _=>
  have gE:=bC ht
  refine ⟨.lst sh false (.tok t e) (l++[y]),m.set t (some (Ent.tok (l.length+1) sh.size)),[t],?_,?_,(Fr.refl m [t]).set _ (.inl (by simp)),Gr.refl _ _⟩
  ·simp[ck,ht,hb]
  ·refine .some t (l++[y]) ?_ (by simp);rw[cL rfl gE,aI];rfl
theorem Ys {o:Own} (h:o.fr=o):∀ a b,o≠.tok a b:=fun a b e=>by subst e;cases h
theorem JT {x:NV} (h:x.fr=x):qu x.av=x.av:=by
 have h2:x.o.fr=x.o:=by have:=cI NV.o h;exact this
 unfold NV.av
 cases ho:x.o with
 | tok a b=>exact absurd ho (Ys h2 a b)
 | no=>rfl
 | full=>rfl
theorem B0 {x:NV} (h:x.fr=x):pl x.av=true:=by
 have h2:x.o.fr=x.o:=by have:=cI NV.o h;exact this
 unfold NV.av
 cases ho:x.o with
 | tok a b=>exact absurd ho (Ys h2 a b)
 | no=>rfl
 | full=>rfl
theorem qpS {c:Int} {r:RV} (h:r.fr=r):lU (qV c r)=qV c r:=by
 have h1:r.num.fr=r.num:=cI RV.num h;have h2:r.den.fr=r.den:=cI RV.den h;unfold qV lU;simp only[gg,ri,JT h1,JT h2]
 rfl
theorem qkL {c:Int} {r:RV} (h:r.fr=r):dH (some 4) [qV c r]=some (.lst (some 4) false .full [qV c r]):=by
 have h1:r.num.fr=r.num:=cI RV.num h;have h2:r.den.fr=r.den:=cI RV.den h;have hs:cU (some 4) (qV c r)=true:=rfl
 have hp:pl (qV c r)=true:=by
  show (pl (.int .i64 c) && (pl (.bool r.neg) && (pl r.num.av && (pl r.den.av && true))))=true;rw[B0 h1,B0 h2];rfl
 unfold dH;simp only[oq,List.all_nil,gg,ri,qpS h,hs,hp,pB,Bool.and_true,bz]
theorem qkG (c:Int) (r:RV):fU (.agg [.int .i64 0,.bool false,aq,aq]) [(0,none,.int .i64 c),(1,some 3,r.av)]=some (qV c r):=rfl
section
variable {s:Nat} {F:List Nat} {zs:Bool} {os:Own} {most:Int} {l:List ND} {ar:List Int}
theorem HT {M0:af} {pe B:Nat} {En:List (Int×RV)} {rs:List Int} (nP:∀ c∈rs,((lk En c).getD zR).fr=(lk En c).getD zR) (y9:M0.get pe=some (.mp (.int .i64) (dm En))) {y:AV} (hy:HD B M0 y rs) (hb:∀ c∈rs,-1000000000000<=c/\c<=1000000000000) (hl:rs.length<=100000) (K:KT):∀ (Q P:List Int) (m:af) (x:AV) (T:List Nat),rs=P++Q->Fr M0 m []->QR 46 (some 4) m x (P.map fun c=>qV c ((lk En c).getD zR)) T->(∀ k∈T,M0.length<=k) ->
  ∃ (m':af) (x':AV) (T':List Nat),CR (.mref pe) x y (.int .i64 rs.length) (.int .i64 P.length) m K=K (.exit 4) (Lo x' m')/\Fr M0 m' []/\QR 46 (some 4) m' x' (rs.map fun c=>qV c ((lk En c).getD zR)) T'/\∀ k∈T',M0.length<=k:=by
 intro Q
 induction Q with
 | nil=>
  intro P m x T o8 f hx hT;rw[bY] at o8;subst o8;refine ⟨m,x,T,?_,f,hx,hT⟩;rw[Ro,bc,aa,aA,aj (by omega)]
 | cons c Q ih=>
  intro P m x T o8 f hx hT;have pL:P.length < rs.length:=by rw[o8];simp
  rcases hy with ⟨_,h2⟩ | ⟨t,zs',rfl,hg,_⟩
  ·rw[h2] at pL;simp at pL
  ·have hgm:m.get t=some (.obj false ((rs++zs').map (AV.int .i64))):=by rw[f.get t (bC hg) (by simp)];exact hg
   have Bv:m.get pe=some (.mp (.int .i64) (dm En)):=by rw[f.get pe (bC y9) (by simp)];exact y9
   have ix:aF none (.arr t 0 rs.length none) (.int .i64 P.length)=some (.ptr t P.length):=ga pL
   have ld:ai none m (.ptr t P.length)=some (.int .i64 c):=by
    rw[bV,hgm,kh,aa,uZ];have:((rs++zs').map (AV.int .i64))[P.length]?=some (.int .i64 c):=by rw[o8];simp
    exact this
   have lkq:=OT Bv (k:=c) (hb c (by rw[o8];simp));obtain ⟨x2,m2,T2,ea,q2,f2,g2⟩:=qo6 (b:=64) hx (by rw[cg];unfold gS;omega) (qV c ((lk En c).getD zR));have jC:=f.len
   obtain ⟨m',x',T',e,k1,k2,k3⟩:=ih (P++[c]) m2 x2 T2 (by rw[o8,gd];rfl) (Fr.trans f f2 fun a ha=>.inr (hT a ha)) (by rw[lA];exact q2) (fun a ha=>by
    rcases g2 a ha with hh | hh
    ·exact hT a hh
    ·omega)
   refine ⟨m',x',T',?_,k1,k2,k3⟩;rw[aI,rh] at e;rw[Ro,bc,aa,aA,an (by omega),ix,aa,ld,aa,show (AV.agg [.bool false,aq,aq])=zR.av from rfl,lkq,aa];dsimp only;rw[qkG,aa,qkL (nP c (by rw[o8];simp)),aa,ea,aa,cr (by omega),aa];exact e
theorem Pg {L:OL} (h64:∀ r∈L.es,r.ns.length<=64) (h:Pq.oddsB ⟨zs,os,ar⟩ L=true):OddsOk ar L:=by
 unfold Pq.oddsB at h;rw[cn] at h;have hl:L.es.length=ar.length:=xp h.1;refine ⟨hl,fun u hu=>?_⟩;have hz:=Pq.zip_all (L:=L) (ns:=ar) hl h.2 hu;unfold Pq.rowB at hz;simp only[cn,pJ,gJ] at hz;refine ⟨⟨h64 _ (bI hu),fun o ho=>Pq.oddB_iff.1 (hz.1 o ho),hz.2.2⟩,?_⟩;rw[hz.2.1,aT,bM (by omega),eh]
theorem U7 (g:GoodL ar l) {sf:Nat->Nat->Nat} {id:Nat} (hid:id < l.length) {R:List Nat} (hp:R.Perm (Vi l id [])) (hs:cP (ab ar l) R):Flow ar sf l R (upd (fun _=>0) id (PM ar sf ar.length 0)) 0:=by
 obtain ⟨c1,c2,_⟩:=rr g id hid [] sv;have hnd:R.Nodup:=hp.nodup_iff.2 c1.nd
 refine ⟨hnd,fun j hj=>c1.lt j (hp.mem_iff.1 hj),hs,fun j hj rE hv k hk=>hp.mem_iff.2 (c1.kids (hp.mem_iff.1 rE) hj k hk),fun j hj v rE hv=>?_,?_⟩
 ·unfold upd
  split
  ·have fZ:v<=ar.length:=by
    unfold fE at hv
    split at hv
    ·have:=(g.var j hj (by omega)).1;omega
    ·omega
   have:=Dl (ar:=ar) (s:=sf) v (ar.length - v) 0;rw[show v+(ar.length - v)=ar.length by omega,br] at this;rw[this];exact Nat.dvd_mul_left _ _
  ·exact Nat.dvd_zero _
 ·have:=Ju (h:=fun _=>1) (T:=fun _=>0) (j:=id) (x:=PM ar sf ar.length 0) hnd;rw[br,an (hp.mem_iff.2 c2),mI] at this;rw[this]
  have z:∀ R:List Nat,jD (fun _=>1) (fun _=>0) R=0:=fun R=>by
   unfold jD
   induction R with
   | nil=>rfl
   | cons a R ih=>rw[gg,nk,ih];rfl
  rw[z];omega
abbrev qN (l:List ND) (id:Nat):List Int:=qZ (nb (fun n=>n.leaf) (fun n=>decide (n.var < 0)) l (Vi l id []))
theorem qnI (g:GoodL ar l) {i j:Nat} (hi:i < l.length) (hj:j < l.length) (vi:l[i].var < 0) (vj:l[j].var < 0) (e:l[i].leaf=l[j].leaf):i=j:=by
 refine BU g.nd hi hj ?_;have h1:=g.ok _ (bI hi);have h2:=g.ok _ (bI hj)
 rcases h1 with ⟨a1,a2,_⟩ | ⟨a1,_⟩
 ·rcases h2 with ⟨b1,b2,_⟩ | ⟨b1,_⟩
  ·cases hx:l[i];cases hy:l[j];rw[hx] at a1 a2 e vi;rw[hy] at b1 b2 e vj
   simp_all
  ·omega
 ·omega
theorem Zp (g:GoodL ar l) {sf:Nat->Nat->Nat} {R:List Nat} (hn:R.Nodup) (hlt:∀ j∈R,j < l.length) (T:Nat->Nat):((run ar sf l R T).map Prod.fst).Nodup:=by
 rw[JI g R T hlt]
 have key:∀ (A:List Nat),A.Nodup->(∀ j∈A,j < l.length/\(l.getD j ⟨0,[],0⟩).var < 0)->(A.map fun j=>(l.getD j ⟨0,[],0⟩).leaf).Nodup:=by
  intro A
  induction A with
  | nil=>intro _ _;simp
  | cons a A ih=>
   intro hn hA;obtain ⟨h1,h2⟩:=uN.1 hn;rw[gg,uN];refine ⟨fun hm=>?_,ih h2 fun j hj=>hA j (fN _ hj)⟩;obtain ⟨b,hb,e⟩:=iY.1 hm;obtain ⟨la,va⟩:=hA a fQ;obtain ⟨lb,vb⟩:=hA b (fN _ hb);rw[jr la] at va e;rw[jr lb] at vb e;have:=qnI g lb la vb va e;subst this;exact h1 hb
 refine key _ (hn.filter _) fun j hj=>?_;obtain ⟨h1,h2⟩:=se.1 hj;exact ⟨hlt j h1,by simpa using h2⟩
theorem qp0 {D:List (Int×Nat)} {c:Int} {N M:Nat} (hn:(D.map Prod.fst).Nodup) (hm:(c,N)∈D):(D.map fun p=>p.2 * (if p.1=c then M else 0)).sum=N * M:=by
 induction D with
 | nil=>cases hm
 | cons p D ih=>
  rw[gg,uN] at hn;rw[gg,nk]
  rcases gA.1 hm with e | hm
  ·subst e;rw[an rfl]
   have z:(D.map fun p=>p.2 * (if p.1=c then M else 0)).sum=0:=by
    have:∀ q∈D,q.1≠c:=fun q hq e=>hn.1 (by
     show c∈_
     rw[<- e];exact List.mem_map_of_mem hq)
    clear ih hm hn
    induction D with
    | nil=>rfl
    | cons q D ih=>rw[gg,nk,aj (this q fQ),ih fun r hr=>this r (fN _ hr)];simp
   rw[z];rfl
  ·have hne:p.1≠c:=fun e=>hn.1 (by rw[e];exact List.mem_map_of_mem (f:=Prod.fst) hm);rw[aj hne,ih hn.2 hm,oD,br]
theorem qpu (g:GoodL ar l) (h1:∀ x∈ar,1<=x) {sf:Nat->Nat->Nat} (h0:∀ v,v < ar.length->0 < SS ar sf v) (hM:PM ar sf ar.length 0≠0) {id:Nat} (hid:id < l.length) {R:List Nat} (hp:R.Perm (Vi l id [])) (hs:cP (ab ar l) R) {c:Int} {N:Nat}
  (hm:(c,N)∈run ar sf l R (upd (fun _=>0) id (PM ar sf ar.length 0))):N=Hc ar sf l c id:=by
 have F:=U7 g (sf:=sf) hid hp hs;obtain ⟨_,c2,_⟩:=rr g id hid [] sv
 have mR:=PG g h0 (Ny g h1 c) (q:=fun c'=>if c'=c then PM ar sf ar.length 0 else 0) (fun k hk hv=>Kh c hk hv) R _ 0 F
 rw[qp0 (Zp g F.nd F.lt _) hm] at mR;have:=Ju (h:=Hc ar sf l c) (T:=fun _=>0) (j:=id) (x:=PM ar sf ar.length 0) F.nd;rw[br,an (hp.mem_iff.2 c2)] at this
 have z:jD (Hc ar sf l c) (fun _=>0) R=0:=by
  unfold jD;clear this mR hm F hs hp
  induction R with
  | nil=>rfl
  | cons a R ih=>rw[gg,nk,ih];simp
 rw[this,z,br,cO] at mR;exact (Nat.eq_of_mul_eq_mul_right (Nat.pos_iff_ne_zero.2 hM) mR).symm
theorem qpt (g:GoodL ar l) {sf:Nat->Nat->Nat} {id:Nat} (hid:id < l.length) {R:List Nat} (hp:R.Perm (Vi l id [])) (T:Nat->Nat) {c:Int} (hc:c∈qN l id):∃ N,(c,N)∈run ar sf l R T:=by
 obtain ⟨c1,_,_⟩:=rr g id hid [] sv;rw[Z5] at hc;have hk:=JI (s:=sf) g R T fun j hj=>c1.lt j (hp.mem_iff.1 hj)
 have:c∈(run ar sf l R T).map Prod.fst:=by
  rw[hk];exact ((hp.filter _).map _).mem_iff.2 hc
 obtain ⟨p,y8,e⟩:=iY.1 this;exact ⟨p.2,by rw[<- e];exact y8⟩
theorem qqg (ns:List Int):(qZ ns).length<=ns.length:=by
 unfold qZ;have:=ME (n6 ns);rw[PQ] at this;exact this
end
end Go.Ab
namespace Go.Ab
open Go.Proofs Go.Proofs.Tryz
section
variable {s:Nat} {F:List Nat} {zs:Bool} {os:Own} {most:Int} {l:List ND} {ar:List Int}
theorem qpe {M:Nat} (hM:M < 4294967296 ^ 8) (h0:M≠0) (id:Nat):wq M [((id:Int),jO)] (upd (fun _=>0) id M):=fun j=>by
 unfold upd
 show WV M ((if (id:Int)=(j:Int) then some jO else none).getD zR) _
 by_cases h:j=id
 ·subst h;rw[an rfl,an rfl];exact qas hM h0
 ·rw[aj (by omega),aj h];exact qat M
theorem qh5 {m0:af} (h0:c9 m0 s F (IA zs os ar) most l) (hm:most≠0) (g:GoodL ar l) (dd:l.length<=100000) {id:Nat} (hid:id < l.length) {L:OL} (h64:∀ r∈L.es,r.ns.length<=64) (mN:L.es.length<=40) (hO:Pq.oddsB ⟨zs,os,ar⟩ L=false) :
  ∃ m',AC ae 17 [.ptr s 0,.int .i64 id,L.av] m0=some (.tup [aq,.int .i64 1],m')/\Fr m0 m' []:=by
 have f1:Fr m0 (m0++[some (Ent.obj true [.ptr s 0])]) []:=Fr.app m0 _ _;have h1:=h0.app f1;obtain ⟨m2,y,e41,f2,_⟩:=Qq h1 hm g dd hid;have f12:Fr m0 m2 []:=Fr.trans f1 f2 fun _ h=>by cases h
 obtain ⟨p,na,TT,st,_⟩:=h0.app f12;have hb:m2.get m0.length=some (.obj true [.ptr s 0]):=by rw[f2.get _ (by simp) (by simp),bG rfl]
 have lb:=mW hb;have l0:ai none (m0++[some (Ent.obj true [.ptr s 0])]) (.ptr m0.length 0)=some (.ptr s 0):=mW (bG rfl);have la:ai none m2 (.ptr s (0+0))=some (IA zs os ar):=by rw[bV,st.hs];rfl
 have p63:aC (AP ae) none m2 63 [IA zs os ar,L.av]=some (.bool false,m2):=by
  have:=Pq.V63 (Pq.IL.fr ⟨zs,os,ar⟩) (Pq.OL.fr L) h64 mN;rw[fe (mc zs os ar) (Pq.fz_ol L)];have e:AP ae 63 [IA zs os.fr ar,(Pq.OL.fr L).av]=some (.bool (Pq.oddsB ⟨zs,os,ar⟩ L)):=this;rw[e,hO];rfl
 refine ⟨m2,?_,f12⟩;rw[HG,oZ,aa,l0,aa,e41,aa,kL,aa,kM,aa,gZ,aa,aA,aj (by omega),lb,aa,nU,aa,cJ,aa,la,aa,p63,aa,n9,aa,nH,iV]
theorem TI {m0:af} (h0:c9 m0 s F (IA zs os ar) most l) (hm:most≠0) (g:GoodL ar l) (dd:l.length<=100000) (h1:∀ x∈ar,1<=x/\x<=64) (fV:ar.length<=16) {id:Nat} (hid:id < l.length) {L:OL} (h64:∀ r∈L.es,r.ns.length<=64) (mN:L.es.length<=40) (hO:Pq.oddsB ⟨zs,os,ar⟩ L=true) :
  ∃ (m':af) (x:AV) (En:List (Int×RV)) (T:List Nat),AC ae 17 [.ptr s 0,.int .i64 id,L.av] m0=some (.tup [x,.int .i64 0],m')/\Fr m0 m' []/\QR 46 (some 4) m' x ((qN l id).map fun c=>qV c ((lk En c).getD zR)) T/\(∀ k∈T,m0.length<=k) /\
   ∀ c∈qN l id,WV (PM ar (bH L) ar.length 0) ((lk En c).getD zR) (Hc ar (bH L) l c id):=by
 have bf:=Pg h64 hO;obtain ⟨tR,jy⟩:=Hv bf.all fV;have f1:Fr m0 (m0++[some (Ent.obj true [.ptr s 0])]) []:=Fr.app m0 _ _;have sy:=h0.app f1;obtain ⟨m2,y,e41,f2,uc⟩:=Qq sy hm g dd hid;have f12:Fr m0 m2 []:=Fr.trans f1 f2 fun _ h=>by cases h
 have lm2:=f12.len;have lm1:=f2.len;simp only[aI,aL,aQ] at lm1;have h2:=h0.app f12;have hb2:m2.get m0.length=some (.obj true [.ptr s 0]):=by rw[f2.get _ (by simp) (by simp),bG rfl]
 have lb:=mW hb2;have l0:ai none (m0++[some (Ent.obj true [.ptr s 0])]) (.ptr m0.length 0)=some (.ptr s 0):=mW (bG rfl)
 have la:ai none m2 (.ptr s (0+0))=some (IA zs os ar):=by
  obtain ⟨p,na,TT,st,_⟩:=h2;rw[bV,st.hs];rfl
 have p63:aC (AP ae) none m2 63 [IA zs os ar,L.av]=some (.bool true,m2):=by
  have:=Pq.V63 (Pq.IL.fr ⟨zs,os,ar⟩) (Pq.OL.fr L) h64 mN;rw[fe (mc zs os ar) (Pq.fz_ol L)];have e:AP ae 63 [IA zs os.fr ar,(Pq.OL.fr L).av]=some (.bool (Pq.oddsB ⟨zs,os,ar⟩ L)):=this;rw[e,hO];rfl
 have p64:∀ m,aC (AP ae) none m 64 []=some (jO.av,m):=fun m=>by rw[xq,Mg];rfl
 have up:kU (.int .i64) (m2++[some (.mp (.int .i64) [])]) (.mref m2.length) (.int .i64 (id:Int)) jO.av=some (m2++[some (.mp (.int .i64) (dm [((id:Int),jO)]))]):=by
  have e0:kU (.int .i64) (m2++[some (.mp (.int .i64) [])]) (.mref m2.length) (.int .i64 (id:Int)) jO.av=_:=P6 (m:=m2++[some (.mp (.int .i64) (dm []))]) (p:=m2.length) (E:=[]) (k:=(id:Int)) (bG rfl) (by omega) (by simp) jO;rw[e0,pV _ _ _ rfl];rfl
 have f3:Fr m0 (m2++[some (.mp (.int .i64) (dm [((id:Int),jO)]))]) []:=f12.snoc _;have NB:af.get (m2++[some (.mp (.int .i64) (dm [((id:Int),jO)]))]) m0.length=some (.obj true [.ptr s 0]):=by rw[bU (by omega)];exact hb2
 have gd3:af.get (m2++[some (.mp (.int .i64) (dm [((id:Int),jO)]))]) m2.length=some (.mp (.int .i64) (dm [((id:Int),jO)])):=bG rfl;have gx3:∀ x,x < m2.length->af.get (m2++[some (.mp (.int .i64) (dm [((id:Int),jO)]))]) x=m2.get x:=fun x hx=>bU hx;have l3:(m2++[some (Ent.mp (.int .i64) (dm [((id:Int),jO)]))]).length=m2.length+1:=by simp
 generalize Wh:m2++[some (Ent.mp (.int .i64) (dm [((id:Int),jO)]))]=m3 at up f3 NB gd3 gx3 l3;have lb3:=mW NB;have h3:=h0.app f3;obtain ⟨m5,x5,T5,e65,VY,f5,Nu⟩:=J9 h3 g dd hid;obtain ⟨cl1,_,_⟩:=rr g id hid [] sv;have fZ:=s6 _ _ cl1.nd cl1.lt;have f05:Fr m0 m5 []:=Fr.trans f3 f5 fun _ h=>by cases h
 have l5:=f5.len
 obtain ⟨t,rfl,ht,htn⟩:∃ t,x5=.arr t 0 (Vi l id []).length none/\m5.get t=some (.obj false (ds (Vi l id [])))/\m3.length<=t:=by
  generalize hV:Vi l id []=ids at VY
  cases VY with
  | none=>
   have:id∈Vi l id []:=by rw[tI g hid,aj (by simp)];simp
   rw[hV] at this;cases this
  | some t ids ht hne=>exact ⟨t,rfl,ht,Nu t (by simp)⟩
 have gE:=bC ht;have h5:=h0.app f05;have Ns:∀ a∈F,a < m0.length:=h0.lt;have VH:m5.get m0.length=some (.obj true [.ptr s 0]):=by rw[f5.get _ (by omega) (by simp)];exact NB
 have Iw:=qk2 (nm:=t) h5 (fun ha=>by have:=Ns t ha;omega) (pb:=m0.length) VH (by omega) fV g;obtain ⟨m6,ids,e66,sd,lT,WB⟩:=A66 (L:=(Vi l id []).length) (by omega) Iw (l:=Vi l id []) (m:=m5) ⟨Fr.refl _ _,ht,rfl,cl1.lt⟩;have f56:=sd.fr;have l6:=f56.len;have hlen:ids.length=(Vi l id []).length:=lT.length_eq;have f06:Fr m0 m6 []:=Fr.trans f05 f56 fun a ha=>.inr (by simp at ha;omega);have f7:Fr m6 (m6++[some (Ent.mp (.int .i64) [])]) []:=Fr.app m6 _ _;have l7:(m6++[some (Ent.mp (.int .i64) [])]).length=m6.length+1:=by simp
 have f07:Fr m0 (m6++[some (Ent.mp (.int .i64) [])]) []:=f06.snoc _;have h7:=h0.app f07;have g67:∀ x,x < m6.length->af.get (m6++[some (Ent.mp (.int .i64) [])]) x=m6.get x:=fun x hx=>bU hx
 have gpd:af.get (m6++[some (Ent.mp (.int .i64) [])]) m2.length=some (.mp (.int .i64) (dm [((id:Int),jO)])):=by
  rw[g67 _ (by omega),f56.get _ (by omega) (by simp;omega),f5.get _ (by omega) (by simp)];exact gd3
 have gpe:af.get (m6++[some (Ent.mp (.int .i64) [])]) m6.length=some (.mp (.int .i64) (dm [])):=bG rfl
 have gpb:af.get (m6++[some (Ent.mp (.int .i64) [])]) m0.length=some (.obj true [.ptr s 0]):=by
  rw[g67 _ (by omega),f56.get _ (by omega) (by simp;omega)];exact VH
 have gnm:af.get (m6++[some (Ent.mp (.int .i64) [])]) t=some (.obj false (ds ids)):=by rw[g67 _ (by omega)];exact sd.hd
 have fl:=U7 g (sf:=bH L) hid lT WB;have hrn:=Zp g (sf:=bH L) fl.nd fl.lt (upd (fun _=>0) id (PM ar (bH L) ar.length 0));obtain ⟨m8,En,e11,f8,gpe8,VS⟩:=qib bf g h1 fV dd h7 (pb:=m0.length) (pd:=m2.length) (pe:=m6.length) (nm:=t) (fun ha=>by have:=Ns _ ha;omega) (fun ha=>by have:=Ns _ ha;omega) (by omega) gpb (by omega) (by omega) gnm (by omega) (by omega) (by omega) y (FZ (aE ae.P f17.results.toList)) ids [] (m6++[some (Ent.mp (.int .i64) [])]) [((id:Int),jO)] [] (upd (fun _=>0) id (PM ar (bH L) ar.length 0)) 0 [] rfl fl (Fr.refl _ _) gpd gpe (qpe jy tR id) (fun p hp=>by cases hp) (by simpa using hrn) (by simp;omega) (by simp;omega);rw[bQ] at VS;have l8:=f8.len
 have qm0:(qN l id).length<=100000:=by
  have:=qqg (nb (fun n=>n.leaf) (fun n=>decide (n.var < 0)) l (Vi l id []));unfold nb at this;rw[cg] at this;have h2:=List.length_filter_le (fun i=>(fun n:ND=>decide (n.var < 0)) (l.getD i ⟨0,[],0⟩)) (Vi l id []);unfold qN nb;omega
 have qmZ:HD (m0.length+1) m8 y (qN l id):=by
  rcases uc with hh | ⟨t',z',hx,hg,hB⟩
  ·exact .inl hh
  ·have h2:=bC hg;have hB':m0.length+1<=t':=by simpa using hB
   refine .inr ⟨t',z',hx,?_,hB'⟩;rw[f8.get _ (by omega) (by simp;omega),g67 _ (by omega),f56.get _ (by omega) (by simp;omega),f5.get _ (by omega) (by simp),gx3 _ h2];exact hg
 have Oz:∀ c∈qN l id,WV (PM ar (bH L) ar.length 0) ((lk En c).getD zR) (Hc ar (bH L) l c id):=fun c hc=>by
  obtain ⟨N,hN⟩:=qpt g (sf:=bH L) hid lT (upd (fun _=>0) id (PM ar (bH L) ar.length 0)) hc;obtain ⟨r,hr,wr⟩:=VS _ hN;have hv:=qpu g (fun x hx=>(h1 x hx).1) (fun v hv=>(bf.all v hv).1) tR hid lT WB hN;dsimp only at hr wr;rw[hr,eh,<- hv];exact wr
 have hcb:∀ c∈qN l id,-1000000000000<=c/\c<=1000000000000:=fun c hc=>by
  rw[Z5] at hc;obtain ⟨j,hj,rfl⟩:=iY.1 hc;have ke:=cl1.lt j (se.1 hj).1;dsimp only;rw[jr ke]
  rcases g.ok _ (bI ke) with ⟨_,_,h3⟩ | ⟨_,h3,_⟩<;>omega
 obtain ⟨m9,x9,T9,e28,f9,q9,hT9⟩:=HT (M0:=m8) (pe:=m6.length) (fun c hc=>(Oz c hc).fr) gpe8 qmZ hcb qm0 (F3 (aE ae.P f17.results.toList)) (qN l id) [] m8 aq [] rfl (Fr.refl _ _) .none (by simp)
 have f08:Fr m0 m8 []:=Fr.trans f07 f8 fun a ha=>.inr (by
  simp only[gA,Dc,or_false] at ha
  rcases ha with rfl | rfl<;>omega)
 refine ⟨m9,x9,En,T9,?_,Fr.trans f08 f9 (fun _ h=>by cases h),q9,fun k hk=>by have:=hT9 k hk;omega,Oz⟩
 ·rw[HG,oZ,aa,l0,aa,e41,aa,kL,aa,kM,aa,gZ,aa,aA,aj (by omega),lb,aa,nU,aa,cJ,aa,la,aa,p63,aa,n9,aa,jU,gO];rw[show (az none m2 (Ent.mp (.int .i64) [])).2=m2++[some (.mp (.int .i64) [])] from rfl,p64,aa];dsimp only;rw[show (az none m2 Ent.resv).1=m2.length from rfl,up,aa,lb3,aa,e65,aa];dsimp only;rw[e66,aa];dsimp only;rw[show aK false (.arr t 0 (Vi l id []).length none)=some (.int .i64 (Vi l id []).length) from rfl,aa,<- hlen];have e11:As L.av (.ptr m0.length 0) y (.mref m2.length) (.mref (az none m6 Ent.resv).1) (.arr t 0 ids.length none) (.int .i64 ids.length) (.int .i64 0) (az none m6 (Ent.mp (.int .i64) [])).2 (FZ (aE ae.P f17.results.toList))=_:=e11;rw[e11,qdb]
  have hly:aK false y=some (.int .i64 (qN l id).length):=by
   rcases uc with ⟨h1,h2⟩ | ⟨t',z',h1,_⟩
   ·rw[h1];have:(qN l id).length=0:=by unfold qN;rw[h2];rfl
    rw[this];rfl
   ·rw[h1];rfl
  rw[hly,aa];have e28:CR (.mref m6.length) aq y (.int .i64 (qN l id).length) (.int .i64 0) m8 (F3 (aE ae.P f17.results.toList))=_:=e28;rw[e28,qdh]
end
end Go.Ab
namespace Go.Ab
open Go.Proofs Go.Proofs.Tryz
section
variable {z zo:Bool} {o oo:Own} {t:List Int}
end
section
variable {ar:List Int} {s:Nat->Nat->Nat}
end
section
variable {ar:List Int} {L:OL}
end
end Go.Ab
namespace Go.Ab
open Go.Proofs Go.Proofs.Tryz
end Go.Ab
namespace Go.Ab
open Go.Proofs Go.Proofs.Tryz
theorem ZU {F G:Nat->Nat}:∀ {n:Nat},(∀ k,k < n->F k<=G k)->jm n F<=jm n G
 | 0,_=>aR _
 | n+1,h=>by
  rw[qY,qY];exact Nat.add_le_add (ZU fun k hk=>h k (by omega)) (h n (by omega))
theorem ZV {F:Nat->Nat} {i n:Nat} (h:i<=n):jm i F<=jm n F:=by
 obtain ⟨d,rfl⟩:=Nat.exists_eq_add_of_le h;rw[qpY];omega
section
variable {ar t:List Int} {L:OL}
structure Alls (ar:List Int) (css:List (List Int)):Prop where
 len:css.length=cu ar
 row:∀ k (h:k < css.length),Asn ar k css[k]
end
def rL (r:List Int):IL:=⟨false,.no,r⟩
end Go.Ab
namespace Go.Ab
open Go.Proofs Go.Proofs.Tryz
theorem qkK {x:AV} {es:List Int} {m:af} {T:List Nat} (h:GR 3 m x (es.map (AV.int .i64)) T) (hne:es≠[]):dH none [x]=some (.lst none false .full [(rL es).av]):=by
 generalize he:es.map (AV.int .i64)=bs at h
 cases h with
 | none=>exact absurd (AH.1 he) hne
 | some t bs' ht IN=>
  subst he;have e:lU (.lst none false (.tok t 3) (es.map (AV.int .i64)))=(rL es).av:=rfl;unfold dH;simp only[oq,List.all_nil,gg,ri,e]
  rfl
structure LawOdds (ar:List Int) (L:OL):Prop where
 len:L.es.length=ar.length
 row:∀ (u:Nat) (h:u < L.es.length),(L.es[u].ns.length:Int)=ar.getD u 0
 fr:L.fr=L
section
variable {ar t:List Int} {s:Nat->Nat->Nat}
end
def Sy (x:AV) (D:List (Int×RV)):Prop:=(x=aq/\D=[])\/∃ o,x=.lst (some 4) false o (D.map fun p=>qV p.1 p.2)
theorem Sy.len {x:AV} {D:List (Int×RV)} (h:Sy x D):aK false x=some (.int .i64 D.length):=by
 rcases h with ⟨rfl,rfl⟩ | ⟨o,rfl⟩
 ·rfl
 ·rw[pn,cg]
end Go.Ab
namespace Go.Ab
noncomputable section
open Go.Proofs.Tryz
def Lz (x3:AV) (m:af):St:=⟨(aJ (aG (x3::bw (aX (aG []))))),m⟩
def CY (x3:AV) (m:af) (K:KT):OM:=bX 45 (nM (c2 (c2 (aB f45)))) 4 (aJ (aG (x3::bw (aX (aG []))))) m K
abbrev qeh (K:KT):KT:=bF 45 (bm (aB f45)) K
abbrev qei (K:KT):KT:=bu 0 (qeh K)
abbrev Ga (K:KT):KT:=(qei K)
theorem T45 (a0:AV) (m:af):AC ae 45 [a0] m=(dH none []).bind fun v1=>(aK false a0).bind fun v2=>(zw false v2 (.int .i64 17)).bind fun v3=>(n5 none a0 none (some v3) none).bind fun v4=>(ck none false 3 none 8 m v1 v4).bind fun r5=>(aC (AP ae) none r5.2 11 [r5.1]).bind fun r6=>(ag .other .neq r6.1 (.int .i64 0)).bind fun v7=>aw v7 (some (r5.1,r6.2)) (CY r5.1 r6.2 (Ga (aE ae.P f45.results.toList))):=
(bj ae 45 [a0] m (fn:=f45) (c:=aB f45) qjU rfl).trans (by kernel_rfl)
theorem RB (x3:AV) (m:af) (K:KT):CY x3 m K=(aK false x3).bind fun v1=>(ag .other .gtr v1 (.int .i64 0)).bind fun v2=>aw v2 ((aC (AP ae) none m 12 [x3,(.int .i64 100)]).bind fun r3=>(ag .other .eql r3.1 (.int .i64 0)).bind fun v4=>aw v4 ((aK false x3).bind fun v5=>(ag .other .sub v5 (.int .i64 1)).bind fun v6=>(n5 none x3 none (some v6) none).bind fun v7=>CY v7 r3.2 K) (K (.exit 0) (Lz x3 r3.2))) (K (.exit 0) (Lz x3 m)):=
(bW (bP _) _ _ _).trans (by kernel_rfl)
theorem QI (x3:AV) (m:af):Ga (aE ae.P f45.results.toList) (.exit 0) (Lz x3 m)=some (x3,m):=by kernel_rfl
theorem T46 (m:af):AC ae 46 [] m=(fU (.agg [(.int .i64 0),aq,(.int .i64 0)]) [(0,none,(.int .i64 (-1))),(2,none,(.int .i64 4))]).bind fun v1=>(dH (some 3) [v1]).bind fun v2=>(aC (AP ae) none m 23 []).bind fun r3=>(dH (some 3) [r3.1]).bind fun v4=>(fU (.agg [aq,aq,aq,(.int .i64 0)]) [(1,none,v2),(2,none,v4),(3,none,(.int .i64 4))]).bind fun v5=>(aM (some 4) (az none r3.2 (.obj true [aq,aq,aq,(.int .i64 0)])).2 (.ptr (az none r3.2 .resv).1 0) v5).bind fun m6=>(ai (some 4) m6 (.ptr (az none r3.2 .resv).1 0)).bind fun v7=>(aC (AP ae) none m6 53 [v7]).bind fun r8=>(aZ r8.1 0).bind fun v9=>(aZ r8.1 1).bind fun v10=>(aZ r8.1 2).bind fun v11=>(aM (some 3) (az none r8.2 (.obj true [(.bool false),aq,aq])).2 (.ptr (az none r8.2 .resv).1 0) v9).bind fun m12=>(ag .other .eql v11 (.int .i64 0)).bind fun bh=>aw bh ((ai (some 3) m12 (.ptr (az none r8.2 .resv).1 0)).bind fun bg=>(aC (AP ae) (some m12.length) m12 23 []).bind fun mD=>(aC (AP ae) (some m12.length) mD.2 21 [bg,mD.1]).bind fun fJ=>some (fJ.1,fJ.2)) (some ((.bool false),m12)):=
(bj ae 46 [] m (fn:=f46) (c:=aB f46) qjV rfl).trans (by kernel_rfl)
def Sk (x5:AV) (m:af):St:=⟨(aO (aG (x5::bw (aX (aJ []))))),m⟩
def Aw (x0 x1 x5 x6:AV) (m:af) (K:KT):OM:=bX 47 (b6 (c2 (c2 (aB f47)))) 3 (x0::x1::aJ (aG (x5::x6::bw (aX (aG []))))) m K
abbrev qej (K:KT):KT:=bF 47 (c2 (c2 (c2 (aB f47)))) K
abbrev qek (K:KT):KT:=bu 0 (qej K)
abbrev Gb (K:KT):KT:=(qek K)
theorem T47 (a0 a1:AV) (m:af):AC ae 47 [a0,a1] m=Aw a0 a1 aq (.int .i64 0) m (Gb (aE ae.P f47.results.toList)):=
(bj ae 47 [a0,a1] m (fn:=f47) (c:=aB f47) qjW rfl).trans (by kernel_rfl)
theorem RC (x0 x1 x5 x6:AV) (m:af) (K:KT):Aw x0 x1 x5 x6 m K=(aC (AP ae) none m 12 [x0,(.int .i64 100)]).bind fun r1=>(ag .other .lss x6 r1.1).bind fun v2=>aw v2 ((aK false x1).bind fun v3=>(ag .other .gtr v3 (.int .i64 0)).bind fun v4=>aw v4 ((aK false x1).bind fun v5=>(ag .other .rem x6 v5).bind fun v6=>(aF none x1 v6).bind fun v7=>(ai none r1.2 v7).bind fun v8=>(ag .other .rem v8 (.int .i64 4)).bind fun v9=>(ag .other .add v9 (.int .i64 4)).bind fun v10=>(ag .other .rem v10 (.int .i64 4)).bind fun v11=>(dH none [v11]).bind fun v12=>(ck none false 3 none 8 r1.2 x5 v12).bind fun gh=>(ag .other .add x6 (.int .i64 1)).bind fun bg=>Aw x0 x1 gh.1 bg gh.2 K) ((ag .other .rem (.int .i64 0) (.int .i64 4)).bind fun bo=>(ag .other .add bo (.int .i64 4)).bind fun bL=>(ag .other .rem bL (.int .i64 4)).bind fun bD=>(dH none [bD]).bind fun dQ=>(ck none false 3 none 8 r1.2 x5 dQ).bind fun pq=>(ag .other .add x6 (.int .i64 1)).bind fun v20=>Aw x0 x1 pq.1 v20 pq.2 K)) (K (.exit 0) (Sk x5 r1.2)):=
(bW (bP _) _ _ _).trans (by kernel_rfl)
theorem qel (x5:AV) (m:af):Gb (aE ae.P f47.results.toList) (.exit 0) (Sk x5 m)=some (x5,m):=by kernel_rfl
def LA (x5:AV) (m:af):St:=⟨(aO (aG (x5::bA (aO (aJ (aG [])))))),m⟩
def CZ (x1 x5 x6 aN aV aW:AV) (m:af) (K:KT):OM:=bX 48 (b6 (c2 (c2 (c2 (aB f48))))) 4 (aG (x1::aJ (aG (x5::x6::aO (aG (aN::aV::aW::bw (aX (aO (aJ []))))))))) m K
def Hs (x1 x5 x6 x9 aN aV aW:AV) (m:af):St:=⟨(aG (x1::aJ (aG (x5::x6::aJ (x9::aJ (aN::aV::aW::bw (aX (aO (aJ []))))))))),m⟩
def yc (x1 x5 x6 x8 x9 aH aN aV aW:AV) (m:af) (K:KT):OM:=bX 48 (b6 (l9 (l9 (p7 (c2 (aB f48)))))) 8 (aG (x1::aJ (aG (x5::x6::aG (x8::x9::aH::aG (aN::aV::aW::bw (aX (aO (aJ []))))))))) m K
abbrev qem (K:KT):KT:=bF 48 (bm (aB f48)) K
abbrev qen (K:KT):KT:=bu 0 (qem K)
abbrev Gc (K:KT):KT:=(qen K)
abbrev qep (K:KT):KT:=bF 48 (lE (np (c2 (c2 (aB f48))))) (nY 48 (b6 (c2 (c2 (c2 (aB f48))))) 4 K)
abbrev qeq (K:KT):KT:=bu 1 (qep K)
abbrev qer (K:KT):KT:=bF 48 (lE (A4 (np (c2 (c2 (aB f48)))))) (qeq K)
abbrev qes (K:KT):KT:=bu 2 (qer K)
abbrev Gd (K:KT):KT:=(qes K)
theorem T48 (a0 a1:AV) (m:af):AC ae 48 [a0,a1] m=(aK false a0).bind fun v1=>CZ a1 aq (.int .i64 0) a0 v1 (.int .i64 0) m (Gc (aE ae.P f48.results.toList)):=
(bj ae 48 [a0,a1] m (fn:=f48) (c:=aB f48) qjX rfl).trans (by kernel_rfl)
theorem RD (x1 x5 x6 aN aV aW:AV) (m:af) (K:KT):CZ x1 x5 x6 aN aV aW m K=(ag .other .lss aW aV).bind fun v1=>aw v1 ((aF none aN aW).bind fun v2=>(ai none m v2).bind fun v3=>yc x1 x5 x6 v3 aq (.int .i64 0) aN aV aW m (Gd K)) (K (.exit 0) (LA x5 m)):=
(bW (bP _) _ _ _).trans (by kernel_rfl)
theorem KV (x1 x5 x6 x8 x9 aH aN aV aW:AV) (m:af) (K:KT):yc x1 x5 x6 x8 x9 aH aN aV aW m K=(ag .other .lss aH x8).bind fun v1=>aw v1 ((aK false x1).bind fun v2=>(ag .other .gtr v2 (.int .i64 0)).bind fun v3=>aw v3 ((aK false x1).bind fun v4=>(ag .other .rem x6 v4).bind fun v5=>(aF none x1 v5).bind fun v6=>(ai none m v6).bind fun v7=>(ag .other .add x6 (.int .i64 1)).bind fun v8=>(dH none [v7]).bind fun v9=>(ck none false 3 none 8 m x9 v9).bind fun ij=>(ag .other .add aH (.int .i64 1)).bind fun v11=>yc x1 x5 v8 x8 ij.1 v11 aN aV aW ij.2 K) ((dH none [(.int .i64 1)]).bind fun v12=>(ck none false 3 none 8 m x9 v12).bind fun gh=>(ag .other .add aH (.int .i64 1)).bind fun bg=>yc x1 x5 x6 x8 gh.1 bg aN aV aW gh.2 K)) (K (.exit 2) (Hs x1 x5 x6 x9 aN aV aW m)):=
(bW (bP _) _ _ _).trans (by kernel_rfl)
theorem qeo (x5:AV) (m:af):Gc (aE ae.P f48.results.toList) (.exit 0) (LA x5 m)=some (x5,m):=by kernel_rfl
theorem qet (x1 x5 x6 x9 aN aV aW:AV) (m:af) (K:KT):Gd K (.exit 2) (Hs x1 x5 x6 x9 aN aV aW m)=(dH none [x9]).bind fun v1=>(ck none false 22 none 24 m x5 v1).bind fun r2=>(ag .other .add aW (.int .i64 1)).bind fun v3=>CZ x1 r2.1 x6 aN aV v3 r2.2 K:=by kernel_rfl
def LB (x7 x9:AV) (m:af):St:=⟨(aO (aJ (aG (x7::aG (x9::bA (aJ [])))))),m⟩
def C0 (x7 x9 b9 cB iL:AV) (m:af) (K:KT):OM:=bX 49 (b6 (bm (aB f49))) 6 (aO (aJ (aG (x7::aG (x9::aX (aO (aG (b9::cB::iL::bw (aJ []))))))))) m K
abbrev qeu (K:KT):KT:=bF 49 (bm (c2 (aB f49))) K
abbrev qev (K:KT):KT:=bu 0 (qeu K)
abbrev Ge (K:KT):KT:=(qev K)
theorem T49 (a0 a1:AV) (m:af):AC ae 49 [a0,a1] m=(AC ae 32 [a0] m).bind fun r1=>(aZ r1.1 0).bind fun v2=>(aZ r1.1 1).bind fun v3=>(ag .other .neq v3 (.int .i64 0)).bind fun v4=>aw v4 (some ((.tup [.nilp,(.int .i64 0),(.bool false)]),r1.2)) ((aC (AP ae) none r1.2 31 [a0,a1]).bind fun r5=>(aK false r5.1).bind fun v6=>C0 v2 aq r5.1 v6 (.int .i64 0) r5.2 (Ge (aE ae.P f49.results.toList))):=
(bj ae 49 [a0,a1] m (fn:=f49) (c:=aB f49) qjY rfl).trans (by kernel_rfl)
theorem RE (x7 x9 b9 cB iL:AV) (m:af) (K:KT):C0 x7 x9 b9 cB iL m K=(ag .other .lss iL cB).bind fun v1=>aw v1 ((aF (some 3) b9 iL).bind fun v2=>(ai (some 3) m v2).bind fun v3=>(aM (some 3) (az none m (.obj true [(.int .i64 0),aq,(.int .i64 0)])).2 (.ptr (az none m .resv).1 0) v3).bind fun m4=>(ai (some 3) m4 (.ptr (az none m .resv).1 0)).bind fun v5=>(dH (some 3) [v5]).bind fun v6=>(ck none false 74 (some 3) 40 m4 x9 v6).bind fun r7=>(ag .other .add iL (.int .i64 1)).bind fun v8=>C0 x7 r7.1 b9 cB v8 r7.2 K) (K (.exit 0) (LB x7 x9 m)):=
(bW (bP _) _ _ _).trans (by kernel_rfl)
theorem qew (x7 x9:AV) (m:af):Ge (aE ae.P f49.results.toList) (.exit 0) (LB x7 x9 m)=(AC ae 44 [x7,x9] m).bind fun r1=>(aZ r1.1 0).bind fun v2=>(aZ r1.1 1).bind fun v3=>(ag .other .eql v3 (.int .i64 0)).bind fun v4=>some ((.tup [x7,v2,v4]),r1.2):=by kernel_rfl
def LC (x8 aN:AV) (m:af):St:=⟨(aX (x8::aJ (aG (aN::bA (bw (aO [])))))),m⟩
def C1 (x3 x8 aN FF tt rQ:AV) (m:af) (K:KT):OM:=bX 50 (b6 (bm (c2 (aB f50)))) 9 (aJ (aG (x3::aO (x8::aJ (aG (aN::bA (FF::tt::rQ::bw (aG [])))))))) m K
abbrev qex (K:KT):KT:=bF 50 (bm (c2 (c2 (aB f50)))) K
abbrev qey (K:KT):KT:=bu 0 (qex K)
abbrev Gf (K:KT):KT:=(qey K)
theorem L9 (a0 a1 a2 a3:AV) (m:af):AC ae 50 [a0,a1,a2,a3] m=(AC ae 17 [a0,a1,a2] (az none m (.obj true [aq,aq,aq,(.int .i64 0)])).2).bind fun r1=>(aZ r1.1 0).bind fun v2=>(aZ r1.1 1).bind fun v3=>(ag .other .neq v3 (.int .i64 0)).bind fun v4=>aw v4 ((fU (.agg [aq,aq,aq,(.int .i64 0)]) []).bind fun v5=>(aM (some 4) r1.2 (.ptr (az none m .resv).1 0) v5).bind fun m6=>(ai (some 4) m6 (.ptr (az none m .resv).1 0)).bind fun v7=>some ((.tup [v7,v3]),m6)) ((ag .other .lss a3 (.int .i64 0)).bind fun v8=>aw v8 ((fU (.agg [aq,aq,aq,(.int .i64 0)]) []).bind fun v9=>(aM (some 4) r1.2 (.ptr (az none m .resv).1 0) v9).bind fun m10=>(ai (some 4) m10 (.ptr (az none m .resv).1 0)).bind fun v11=>some ((.tup [v11,(.int .i64 1)]),m10)) ((ag .other .gtr a3 (.int .i64 2147483647)).bind fun v12=>aw v12 ((fU (.agg [aq,aq,aq,(.int .i64 0)]) []).bind fun bh=>(aM (some 4) r1.2 (.ptr (az none m .resv).1 0) bh).bind fun m14=>(ai (some 4) m14 (.ptr (az none m .resv).1 0)).bind fun bo=>some ((.tup [bo,(.int .i64 1)]),m14)) ((aC (AP ae) none r1.2 109 [a2]).bind fun fJ=>(fU (.agg [aq,aq,aq,(.int .i64 0)]) [(0,none,fJ.1),(3,none,a3)]).bind fun bD=>(aM (some 4) (az none fJ.2 (.obj true [aq,aq,aq,(.int .i64 0)])).2 (.ptr (az none fJ.2 .resv).1 0) bD).bind fun m18=>(AC ae 43 [a0,a1] m18).bind fun pq=>(aZ pq.1 0).bind fun v20=>(aZ pq.1 1).bind fun v21=>(aP 1 (.ptr (az none fJ.2 .resv).1 0)).bind fun v22=>(aM none pq.2 v22 v20).bind fun m23=>(aP 1 (.ptr (az none fJ.2 .resv).1 0)).bind fun v24=>(ai none m23 v24).bind fun v25=>(aK false v25).bind fun v26=>C1 a3 (.ptr (az none m .resv).1 0) (.ptr (az none fJ.2 .resv).1 0) v25 v26 (.int .i64 0) m23 (Gf (aE ae.P f50.results.toList))))):=
(bj ae 50 [a0,a1,a2,a3] m (fn:=f50) (c:=aB f50) qjZ rfl).trans (by kernel_rfl)
theorem RF (x3 x8 aN FF tt rQ:AV) (m:af) (K:KT):C1 x3 x8 aN FF tt rQ m K=(ag .other .lss rQ tt).bind fun v1=>aw v1 ((aF (some 3) FF rQ).bind fun v2=>(ai (some 3) m v2).bind fun v3=>(aM (some 3) (az none m (.obj true [(.int .i64 0),aq,(.int .i64 0)])).2 (.ptr (az none m .resv).1 0) v3).bind fun m4=>(aP 2 aN).bind fun v5=>(ai none m4 v5).bind fun v6=>(aP 0 aN).bind fun v7=>(ai none m4 v7).bind fun v8=>(ai (some 3) m4 (.ptr (az none m .resv).1 0)).bind fun v9=>(aP 2 aN).bind fun v10=>(ai none m4 v10).bind fun v11=>(AC ae 110 [v8,v9,x3,v11] m4).bind fun gF=>pj ((ai none gF.2 v5).bind (fun v=>some (v,gF.2))=some (v6,gF.2)) ((dH (some 3) [gF.1]).bind fun bh=>(ck none true 43 (some 3) 56 gF.2 v6 bh).bind fun jP=>(aP 2 aN).bind fun bo=>(aM none jP.2 bo jP.1).bind fun m16=>(ag .other .add rQ (.int .i64 1)).bind fun bD=>C1 x3 x8 aN FF tt bD m16 K)) (K (.exit 0) (LC x8 aN m)):=
(bW (bP _) _ _ _).trans (by kernel_rfl)
theorem qez (x8 aN:AV) (m:af):Gf (aE ae.P f50.results.toList) (.exit 0) (LC x8 aN m)=(ai (some 4) m aN).bind fun v1=>(aM (some 4) m x8 v1).bind fun m2=>(ai (some 4) m2 x8).bind fun v3=>some ((.tup [v3,(.int .i64 0)]),m2):=by kernel_rfl
def K0 (x3:AV) (m:af):St:=⟨(aJ (aG (x3::bw (aJ (aG []))))),m⟩
def CK (x3 x9 aH aY:AV) (m:af) (K:KT):OM:=bX 109 (b6 (c2 (c2 (aB f109)))) 3 (aJ (aG (x3::aO (aG (x9::aH::aY::aX (aJ (aG []))))))) m K
abbrev qaZ (K:KT):KT:=bF 109 (c2 (c2 (c2 (aB f109)))) K
abbrev qa0 (K:KT):KT:=bu 0 (qaZ K)
abbrev FN (K:KT):KT:=(qa0 K)
theorem qgk (a0:AV) (m:af):AC ae 109 [a0] m=(aK false a0).bind fun v1=>(jc none 22 none aq 24 m v1 v1).bind fun r2=>(aK false a0).bind fun v3=>CK r2.1 a0 v3 (.int .i64 0) r2.2 (FN (aE ae.P f109.results.toList)):=
(bj ae 109 [a0] m (fn:=f109) (c:=aB f109) qiF rfl).trans (by kernel_rfl)
theorem QN (x3 x9 aH aY:AV) (m:af) (K:KT):CK x3 x9 aH aY m K=(ag .other .lss aY aH).bind fun v1=>aw v1 ((aF none x9 aY).bind fun v2=>(ai none m v2).bind fun v3=>(aC (AP ae) none m 88 [v3]).bind fun r4=>(aF none x3 aY).bind fun v5=>(aM none r4.2 v5 r4.1).bind fun m6=>(ag .other .add aY (.int .i64 1)).bind fun v7=>CK x3 x9 aH v7 m6 K) (K (.exit 0) (K0 x3 m)):=
(bW (bP _) _ _ _).trans (by kernel_rfl)
theorem qa1 (x3:AV) (m:af):FN (aE ae.P f109.results.toList) (.exit 0) (K0 x3 m)=some (x3,m):=by kernel_rfl
def LH (x2 x3 x5:AV) (m:af):St:=⟨(aJ (x2::x3::aG (x5::bp (bA (bw (aG [])))))),m⟩
def C5 (x2 x3 x5 aN aV aW:AV) (m:af) (K:KT):OM:=bX 51 (b6 (c2 (c2 (aB f51)))) 3 (aJ (x2::x3::aG (x5::aO (aJ (aN::aV::aW::bp (bA (aX []))))))) m K
def LD (x2 x3:AV) (m:af):St:=⟨(aJ (x2::x3::bp (bA (bw (aJ (aG [])))))),m⟩
def qgd (x4:AV) (m:af):St:=⟨(aO (x4::bp (bA (bw (aJ []))))),m⟩
def C2 (x2 x3 FG ng:AV) (m:af) (K:KT):OM:=bX 51 (b6 (bm (aB f51))) 10 (aJ (x2::x3::bA (bw (aJ (aG (FG::ng::bA (bw (aX (aO (aJ [])))))))))) m K
def LF (m:af):St:=⟨(bp (bA (bw (aO (aJ (aG [])))))),m⟩
def qgf (x4:AV) (m:af):St:=⟨(aO (x4::bp (bA (bw (aJ []))))),m⟩
def C3 (x2 x3 nh kV:AV) (m:af) (K:KT):OM:=bX 51 (b6 (bm (c2 (aB f51)))) 16 (aJ (x2::x3::bp (aO (aJ (nh::kV::bA (aX (aJ (aG [])))))))) m K
def LG (x2 x3 nh kV:AV) (m:af):St:=⟨(aJ (x2::x3::bp (aO (aJ (nh::kV::bA (aX (aJ (aG [])))))))),m⟩
def qgg (x4:AV) (m:af):St:=⟨(aO (x4::bp (bA (bw (aJ []))))),m⟩
def C4 (x2 x3 x9 nh kV FH Ad:AV) (m:af) (K:KT):OM:=bX 51 (tO (tP (tP (A5 (c2 (c2 (aB f51))))))) 21 (aJ (x2::x3::aO (aG (x9::bp (nh::kV::bw (aO (FH::Ad::bw (aO (aG []))))))))) m K
abbrev qeK (K:KT):KT:=bF 51 (c2 (c2 (c2 (aB f51)))) K
abbrev qeL (K:KT):KT:=bu 0 (qeK K)
abbrev Gj (K:KT):KT:=(qeL K)
abbrev qeG (K:KT):KT:=bF 51 (lE (np (bm (aB f51)))) (nY 51 (b6 (bm (c2 (aB f51)))) 16 K)
abbrev qeH (K:KT):KT:=bu 5 (qeG K)
abbrev qeI (K:KT):KT:=bu 6 (qeH K)
abbrev Gi (K:KT):KT:=(qeI K)
abbrev qeA (K:KT):KT:=bF 51 (bm (c2 (aB f51))) K
abbrev qeB (K:KT):KT:=bu 2 (qeA K)
abbrev Gg (K:KT):KT:=(qeB K)
abbrev qeD (K:KT):KT:=bF 51 (bm (c2 (c2 (aB f51)))) K
abbrev qeE (K:KT):KT:=bu 4 (qeD K)
abbrev Gh (K:KT):KT:=(qeE K)
theorem T51 (a0 a1:AV) (m:af):AC ae 51 [a0,a1] m=(cS none (some 4) m a0).bind fun r1=>(cS none (some 4) r1.2 a1).bind fun r2=>(aP 1 r1.1).bind fun v3=>(ai none r2.2 v3).bind fun v4=>(aK false v4).bind fun v5=>C5 r1.1 r2.1 aq v4 v5 (.int .i64 0) r2.2 (Gj (aE ae.P f51.results.toList)):=
(bj ae 51 [a0,a1] m (fn:=f51) (c:=aB f51) qj0 rfl).trans (by kernel_rfl)
theorem RJ (x2 x3 x5 aN aV aW:AV) (m:af) (K:KT):C5 x2 x3 x5 aN aV aW m K=(ag .other .lss aW aV).bind fun v1=>aw v1 ((aF (some 3) aN aW).bind fun v2=>(ai (some 3) m v2).bind fun v3=>(aM (some 3) (az none m (.obj true [(.int .i64 0),aq,(.int .i64 0)])).2 (.ptr (az none m .resv).1 0) v3).bind fun m4=>(ai (some 3) m4 (.ptr (az none m .resv).1 0)).bind fun v5=>(dH (some 3) [v5]).bind fun v6=>(ck none false 146 (some 3) 40 m4 x5 v6).bind fun r7=>(ag .other .add aW (.int .i64 1)).bind fun v8=>C5 x2 x3 r7.1 aN aV v8 r7.2 K) (K (.exit 0) (LH x2 x3 x5 m)):=
(bW (bP _) _ _ _).trans (by kernel_rfl)
theorem RG (x2 x3 FG ng:AV) (m:af) (K:KT):C2 x2 x3 FG ng m K=(ag .other .lss ng FG).bind fun v1=>aw v1 ((aP 2 x2).bind fun v2=>(ai none m v2).bind fun v3=>(aF (some 3) v3 ng).bind fun v4=>(ai (some 3) m v4).bind fun v5=>(aP 2 x3).bind fun v6=>(ai none m v6).bind fun v7=>(aF (some 3) v7 ng).bind fun v8=>(ai (some 3) m v8).bind fun v9=>(aC (AP ae) (some m.length) m 21 [v5,v9]).bind fun ij=>(jn .not ij.1).bind fun v11=>aw v11 (K .ret (qgd (.bool false) ij.2)) ((ag .other .add ng (.int .i64 1)).bind fun v12=>C2 x2 x3 FG v12 ij.2 K)) (K (.exit 2) (LD x2 x3 m)):=
(bW (bP _) _ _ _).trans (by kernel_rfl)
theorem RH (x2 x3 nh kV:AV) (m:af) (K:KT):C3 x2 x3 nh kV m K=(ag .other .lss kV nh).bind fun v1=>aw v1 ((aP 0 x2).bind fun v2=>(ai none m v2).bind fun v3=>(aF none v3 kV).bind fun v4=>(ai none m v4).bind fun v5=>(aK false v5).bind fun v6=>(aP 0 x3).bind fun v7=>(ai none m v7).bind fun v8=>(aF none v8 kV).bind fun v9=>(ai none m v9).bind fun v10=>(aK false v10).bind fun v11=>(ag .other .neq v6 v11).bind fun v12=>aw v12 (K .ret (qgf (.bool false) m)) ((aP 0 x2).bind fun bh=>(ai none m bh).bind fun bg=>(aF none bg kV).bind fun bo=>(ai none m bo).bind fun bL=>(aK false bL).bind fun bD=>C4 x2 x3 kV nh kV bD (.int .i64 0) m (Gi K))) (K (.exit 4) (LF m)):=
(bW (bP _) _ _ _).trans (by kernel_rfl)
theorem RI (x2 x3 x9 nh kV FH Ad:AV) (m:af) (K:KT):C4 x2 x3 x9 nh kV FH Ad m K=(ag .other .lss Ad FH).bind fun v1=>aw v1 ((aP 0 x2).bind fun v2=>(ai none m v2).bind fun v3=>(aF none v3 x9).bind fun v4=>(ai none m v4).bind fun v5=>(aF none v5 Ad).bind fun v6=>(ai none m v6).bind fun v7=>(aP 0 x3).bind fun v8=>(ai none m v8).bind fun v9=>(aF none v9 x9).bind fun v10=>(ai none m v10).bind fun v11=>(aF none v11 Ad).bind fun v12=>(ai none m v12).bind fun bh=>(ag .other .neq v7 bh).bind fun bg=>aw bg (K .ret (qgg (.bool false) m)) ((ag .other .add Ad (.int .i64 1)).bind fun bo=>C4 x2 x3 x9 nh kV FH bo m K)) (K (.exit 6) (LG x2 x3 nh kV m)):=
(bW (bP _) _ _ _).trans (by kernel_rfl)
theorem qeM (x2 x3 x5:AV) (m:af):Gj (aE ae.P f51.results.toList) (.exit 0) (LH x2 x3 x5 m)=(aP 2 x2).bind fun v1=>(ai none m v1).bind fun v2=>(aK false v2).bind fun v3=>(aP 2 x3).bind fun v4=>(ai none m v4).bind fun v5=>(aK false v5).bind fun v6=>(ag .other .neq v3 v6).bind fun v7=>aw v7 (some ((.bool false),m)) ((aP 0 x2).bind fun v8=>(ai none m v8).bind fun v9=>(aK false v9).bind fun v10=>(aP 0 x3).bind fun v11=>(ai none m v11).bind fun v12=>(aK false v12).bind fun bh=>(ag .other .neq v10 bh).bind fun bg=>aw bg (some ((.bool false),m)) ((aP 3 x2).bind fun bo=>(ai none m bo).bind fun bL=>(aP 3 x3).bind fun bD=>(ai none m bD).bind fun dQ=>(ag .other .neq bL dQ).bind fun c8=>aw c8 (some ((.bool false),m)) ((aP 1 x3).bind fun v20=>(ai none m v20).bind fun v21=>(aC (AP ae) none m 89 [x5,v21]).bind fun rK=>(jn .not rK.1).bind fun v23=>aw v23 (some ((.bool false),rK.2)) ((aP 2 x2).bind fun v24=>(ai none rK.2 v24).bind fun v25=>(aK false v25).bind fun v26=>C2 x2 x3 v26 (.int .i64 0) rK.2 (Gg (aE ae.P f51.results.toList)))))):=by kernel_rfl
theorem qeJ (x2 x3 nh kV:AV) (m:af) (K:KT):Gi K (.exit 6) (LG x2 x3 nh kV m)=(ag .other .add kV (.int .i64 1)).bind fun v1=>C3 x2 x3 nh v1 m K:=by kernel_rfl
theorem qeC (x2 x3:AV) (m:af):Gg (aE ae.P f51.results.toList) (.exit 2) (LD x2 x3 m)=(aP 0 x2).bind fun v1=>(ai none m v1).bind fun v2=>(aK false v2).bind fun v3=>C3 x2 x3 v3 (.int .i64 0) m (Gh (aE ae.P f51.results.toList)):=by kernel_rfl
theorem qeF (m:af):Gh (aE ae.P f51.results.toList) (.exit 4) (LF  m)=some ((.bool true),m):=by kernel_rfl
def LJ (x6 x7:AV) (m:af):St:=⟨(aO (aJ (x6::x7::bw (aX (aG []))))),m⟩
def Ax (x6 x7 aW di:AV) (m:af) (K:KT):OM:=bX 52 (b6 (c2 (c2 (aB f52)))) 3 (aO (aJ (x6::x7::aO (aJ (aW::di::bw (aG [])))))) m K
abbrev qeN (K:KT):KT:=bF 52 (c2 (c2 (c2 (aB f52)))) K
abbrev qeO (K:KT):KT:=bu 0 (qeN K)
abbrev CF (K:KT):KT:=(qeO K)
theorem T52 (a0 a1 a2:AV) (m:af):AC ae 52 [a0,a1,a2] m=(fU (.agg [aq,aq,aq,(.int .i64 0)]) [(0,none,a0),(1,none,a1),(3,none,a2)]).bind fun v1=>(aM (some 4) (az none (az none m (.obj true [aq,aq,aq,(.int .i64 0)])).2 (.obj true [aq,aq,aq,(.int .i64 0)])).2 (.ptr (az none (az none m (.obj true [aq,aq,aq,(.int .i64 0)])).2 .resv).1 0) v1).bind fun m2=>(aK false a1).bind fun v3=>Ax (.ptr (az none m .resv).1 0) (.ptr (az none (az none m (.obj true [aq,aq,aq,(.int .i64 0)])).2 .resv).1 0) v3 (.int .i64 0) m2 (CF (aE ae.P f52.results.toList)):=
(bj ae 52 [a0,a1,a2] m (fn:=f52) (c:=aB f52) qj1 rfl).trans (by kernel_rfl)
theorem RK (x6 x7 aW di:AV) (m:af) (K:KT):Ax x6 x7 aW di m K=(ag .other .lss di aW).bind fun v1=>aw v1 ((aP 2 x7).bind fun v2=>(ai none m v2).bind fun v3=>(aC (AP ae) none m 20 []).bind fun r4=>pj ((ai none r4.2 v2).bind (fun v=>some (v,r4.2))=some (v3,r4.2)) ((dH (some 3) [r4.1]).bind fun v5=>(ck none true 43 (some 3) 56 r4.2 v3 v5).bind fun r6=>(aP 2 x7).bind fun v7=>(aM none r6.2 v7 r6.1).bind fun m8=>(aP 2 x7).bind fun v9=>(ai none m8 v9).bind fun v10=>(ai (some 4) m8 x7).bind fun v11=>(AC ae 111 [v11,di] m8).bind fun gF=>pj ((ai none gF.2 v9).bind (fun v=>some (v,gF.2))=some (v10,gF.2)) ((aF (some 3) v10 di).bind fun bh=>(aM (some 3) gF.2 bh gF.1).bind fun m14=>(ag .other .add di (.int .i64 1)).bind fun bo=>Ax x6 x7 aW bo m14 K))) (K (.exit 0) (LJ x6 x7 m)):=
(bW (bP _) _ _ _).trans (by kernel_rfl)
theorem qeP (x6 x7:AV) (m:af):CF (aE ae.P f52.results.toList) (.exit 0) (LJ x6 x7 m)=(ai (some 4) m x7).bind fun v1=>(aM (some 4) m x6 v1).bind fun m2=>(ai (some 4) m2 x6).bind fun v3=>some (v3,m2):=by kernel_rfl
end
end Go.Ab
namespace Go.Ab
open Go.Proofs Go.Proofs.Tryz
def Nl (r:List Int):Prop:=oH r=0->oU 100 1 r≠0
theorem Tx:∀ (n:Nat) (r:List Int) (o:Own) (m:af),r.length=n->oH r=0->∃ o' r' m',CY (IA false o r) m (Ga (aE ae.P f45.results.toList))=some (IA false o' r',m')/\oH r'=0/\oU 100 1 r'≠0
 | 0,r,o,m,hn,hr=>by
  obtain rfl:r=[]:=ou hn;refine ⟨o,[],m,?_,hr,by decide⟩;rw[RB,iI,aa,gY,aa,aA,aj (by simp),QI]
 | n+1,r,o,m,hn,hr=>by
  obtain ⟨h1,h2⟩:=yq hr;rw[RB,iI,aa,gY,aa,aA,an (by omega),Pl _ _ _ h1 h2 100 (by omega),aa,iM,aa,aA]
  by_cases hp:oU 100 1 r=0
  ·rw[an hp,aa,ph (by omega) (by omega),aa,PO _ _ _ _ _ (by omega),aa];refine Tx n (r.take (r.length - 1)) .no m (by rw[jV];omega) ?_;unfold oH;rw[aj (by rw[jV];omega),an];exact gJ.2 fun a ha=>eE (h2 a (List.take_subset _ _ ha))
  ·rw[aj hp,QI];exact ⟨o,r,m,rfl,hr,hp⟩
theorem qhu (z:Bool) (o:Own) (ns:List Int):∃ o' r,AP ae 45 [IA z o ns]=some (IA false o' r)/\Nl r/\r.length<=17/\(o'=.no\/o'=.full):=by
 have key:∃ o' r m',AC ae 45 [IA z o ns] []=some (IA false o' r,m')/\Nl r/\r.length<=17:=by
  have yZ:zw false (.int .i64 ns.length) (.int .i64 17)=some (.int .i64 (min ns.length 17:Nat)):=by
   simp only[zw,bz,j6,mo];congr 2;split<;>omega
  obtain ⟨o1,m1,ha,_,_⟩:=qiu [] z .no (ns.take (min ns.length 17)) (by rw[jV];omega)
  have e0:AC ae 45 [IA z o ns] []=aw (.bool (decide (oH (ns.take (min ns.length 17))≠0))) (some (IA false o1 (ns.take (min ns.length 17)),m1)) (CY (IA false o1 (ns.take (min ns.length 17))) m1 (Ga (aE ae.P f45.results.toList))):=by
   rw[T45,show dH none []=some (.lst none false .full []) from rfl,aa,iI,aa,yZ,aa,PO _ _ _ _ _ (by omega),aa,ha,aa,YC,aa,gZ,aa]
  rw[e0,aA]
  by_cases hz:oH (ns.take (min ns.length 17))≠0
  ·rw[an hz];exact ⟨_,_,_,rfl,fun h=>absurd h hz,by rw[jV];omega⟩
  ·rw[aj hz];obtain ⟨o',r',m',e,h1,h2⟩:=Tx _ _ o1 m1 rfl (Decidable.not_not.1 hz);exact ⟨o',r',m',e,fun _=>h2,by have:=(yq h1).1;omega⟩
 obtain ⟨o',r,m',e,h1,h2⟩:=key
 refine ⟨o'.fr,r,?_,h1,h2,?_⟩
 ·unfold AP jK;rw[e,aa,mc false o' r m',aa]
  rfl
 ·cases o'<;>simp[Own.fr]
theorem qlt {r:List Int} (hg:Nl r) (he:oH r=0):oU 100 1 r=(cu r:Nat)/\cu r<=100:=by
 obtain ⟨_,h2⟩:=yq he;have:=YM r 1 (fun a ha=>(h2 a ha).1) (by omega) (by omega) (hg he);rw[Int.one_mul] at this;exact ⟨this.1,by omega⟩
theorem JF (tk:TK) (a:Int):ag tk .rem (.int .i64 a) (.int .i64 4)=some (.int .i64 (a.tmod 4)):=by cases tk<;>rfl
theorem W47 {z zl:Bool} {o ol:Own} {ar l:List Int} (h1:ar.length<=16) (h2:∀ a∈ar,1<=a/\a<=64) {N:Nat} (hN:oU 100 1 ar=N) (Bg:N<=100):∀ (j i:Nat) (m:af) (x:AV) (t:List Int) (T:List Nat),i+j=N->GR 3 m x (t.map (AV.int .i64)) T->t.length=i->(∀ y∈t,0<=y/\y<=3) ->
  ∃ (m':af) (x':AV) (t':List Int) (T':List Nat),Aw (IA z o ar) (IA zl ol l) x (.int .i64 i) m (Gb (aE ae.P f47.results.toList))=some (x',m')/\GR 3 m' x' (t'.map (AV.int .i64)) T'/\t'.length=N/\∀ y∈t',0<=y/\y<=3:=by
 intro j
 induction j with
 | zero=>
  intro i m x t T hi h ht hy;refine ⟨m,x,t,T,?_,h,by omega,hy⟩;rw[RC,Pl _ _ _ h1 h2 100 (by omega),aa,hN,cW,aa,aA,aj (by omega),qel]
 | succ j ih=>
  intro i m x t T hi h ht hy
  have nx:∀ (y:Int),∃ (m':af) (x':AV) (t':List Int) (T':List Nat),((ck none false 3 none 8 m x (.lst none false .full [.int .i64 ((IntKind.wrap .i64 (y.tmod 4+4)).tmod 4)])).bind fun gh=>Aw (IA z o ar) (IA zl ol l) gh.1 (.int .i64 (i+1:Nat)) gh.2 (Gb (aE ae.P f47.results.toList)))=some (x',m')/\GR 3 m' x' (t'.map (AV.int .i64)) T'/\t'.length=N/\∀ y∈t',0<=y/\y<=3:=fun y=>by
   obtain ⟨x1,m1,T1,ea,g1,_,_⟩:=Be (b:=8) h (by rw[cg];omega) (by omega) (.int .i64 ((IntKind.wrap .i64 (y.tmod 4+4)).tmod 4));rw[ea,aa]
   have hb:0<=(IntKind.wrap .i64 (y.tmod 4+4)).tmod 4/\(IntKind.wrap .i64 (y.tmod 4+4)).tmod 4<=3:=by
    have a1:=Int.tmod_lt_of_pos y (show (0:Int) < 4 by omega)
    have a2:-4 < y.tmod 4:=by
     have hd:=Int.tmod_add_mul_tdiv y 4
     rcases Int.le_total 0 y with h0 | h0
     ·have:=Int.tmod_nonneg (a:=y) 4 h0;omega
     ·have e:(-y).tmod 4=-(y.tmod 4):=Int.neg_tmod ..;have:=Int.tmod_lt_of_pos (-y) (show (0:Int) < 4 by omega);omega
    rw[iQ (by omega) (by omega)];have b1:=Int.tmod_lt_of_pos (y.tmod 4+4) (show (0:Int) < 4 by omega);have b2:=Int.tmod_nonneg (a:=y.tmod 4+4) 4 (by omega);omega
   have g2:GR 3 m1 x1 ((t++[(IntKind.wrap .i64 (y.tmod 4+4)).tmod 4]).map (AV.int .i64)) T1:=by
    rw[lA];exact g1
   exact ih (i+1) m1 x1 _ T1 (by omega) g2 (by simp[ht]) fun k hk=>by
    rcases iy.1 hk with hk | hk
    ·exact hy k hk
    ·obtain rfl:k=_:=by simpa using hk
     exact hb
  rw[RC,Pl _ _ _ h1 h2 100 (by omega),aa,hN,cW,aa,aA,an (by omega),iI,aa,gY,aa,aA]
  by_cases hl:(l.length:Int) > 0
  ·rw[an hl,aa,X7 (by omega),aa,jY (kA _ (by omega)),aa,gy,aa,JF,aa,lD,aa,JF,aa,ry,aa];simp only[cr (show i+1 < 9223372036854775808 by omega)];exact nx _
  ·rw[aj hl,JF,aa,lD,aa,JF,aa,ry,aa];simp only[cr (show i+1 < 9223372036854775808 by omega)];exact nx _
theorem V47 (z zl:Bool) (o ol:Own) (ar l:List Int) (h1:ar.length<=16) (h2:∀ a∈ar,1<=a/\a<=64) {N:Nat} (hN:oU 100 1 ar=N) (Bg:N<=100):∃ (z':Bool) (o':Own) (t:List Int),AP ae 47 [IA z o ar,IA zl ol l]=some (IA z' o' t)/\(z'=true->t=[])/\t.length=N/\∀ y∈t,0<=y/\y<=3:=by
 obtain ⟨m',x',t,T',e,g,ht,hy⟩:=W47 (z:=z) (zl:=zl) (o:=o) (ol:=ol) (l:=l) h1 h2 hN Bg N 0 [] aq [] [] (by omega) .none rfl (by simp);obtain ⟨z',o',rfl,hz⟩:=D2 g;refine ⟨z',o'.fr,t,?_,fun h=>AH.1 (hz h),ht,hy⟩;refine iw (m:=m') (v:=IA z' o' t) (l:=[]) ?_ (mc z' o' t m') rfl;rw[T47];exact e
theorem X48 {z zl:Bool} {o ol:Own} {l:List Int} {n:Nat} (hn:n<=64) (x5 aN aV aW:AV) (K:KT):∀ (j i:Nat) (m:af) (x:AV) (es:List Int) (T:List Nat) (at':Nat),i+j=n->at'+64<=100000+i->GR 3 m x (es.map (AV.int .i64)) T->es.length=i ->
  ∃ (m':af) (x':AV) (es':List Int) (T':List Nat) (a':Nat),yc (IA zl ol l) x5 (.int .i64 at') (.int .i64 n) x (.int .i64 i) aN aV aW m K=K (.exit 2) (Hs (IA zl ol l) x5 (.int .i64 a') x' aN aV aW m')/\GR 3 m' x' (es'.map (AV.int .i64)) T'/\es'.length=n/\a'<=at'+j/\Fr m m' T/\Gr m T T':=by
 intro j
 induction j with
 | zero=>
  intro i m x es T a hi ha hx he;refine ⟨m,x,es,T,a,?_,hx,by omega,by omega,Fr.refl _ _,Gr.refl _ _⟩;rw[KV,bc,aa,aA,aj (by omega)]
 | succ j ih=>
  intro i m x es T a hi ha hx he
  have go:∀ (v:Int) (a2:Nat),a2<=a+1->∃ (m':af) (x':AV) (es':List Int) (T':List Nat) (a':Nat),((dH none [.int .i64 v]).bind fun v9=>(ck none false 3 none 8 m x v9).bind fun ij=>(ag .other .add (.int .i64 (i:Nat)) (.int .i64 1)).bind fun v11=>yc (IA zl ol l) x5 (.int .i64 a2) (.int .i64 n) ij.1 v11 aN aV aW ij.2 K)=K (.exit 2) (Hs (IA zl ol l) x5 (.int .i64 a') x' aN aV aW m')/\GR 3 m' x' (es'.map (AV.int .i64)) T'/\es'.length=n/\a'<=a+(j+1)/\Fr m m' T/\Gr m T T':=by
   intro v a2 D6;obtain ⟨x2,m2,T2,ea,g2,f2,gg2⟩:=Be (b:=8) hx (by simp;omega) (by omega) (.int .i64 v);obtain ⟨m',x',es',T',a',e,k1,k2,k3,k4,k5⟩:=ih (i+1) m2 x2 (es++[v]) T2 a2 (by omega) (by omega) (by rw[lA];exact g2) (by simp[he]);refine ⟨m',x',es',T',a',?_,k1,k2,by omega,Fr.trans f2 k4 gg2,Gr.trans f2.len gg2 k5⟩;rw[ry,aa,ea,aa,cr (by omega),aa];exact e
  by_cases hl:0 < l.length
  ·have hlt:a % l.length < l.length:=kA _ hl;obtain ⟨m',x',es',T',a',e,k⟩:=go l[a % l.length] (a+1) (aR _);refine ⟨m',x',es',T',a',?_,k⟩;have ia1:ag .other .add (.int .i64 (a:Nat)) (.int .i64 1)=some (.int .i64 (a+1:Nat)):=cr (by omega);rw[KV,bc,aa,aA,an (by omega),iI,aa,gY,aa,aA,an (by omega),aa,X7 (by omega),aa,jY hlt,aa,gy,aa,ia1,aa];exact e
  ·obtain ⟨m',x',es',T',a',e,k⟩:=go 1 a (by omega);refine ⟨m',x',es',T',a',?_,k⟩;rw[KV,bc,aa,aA,an (by omega),iI,aa,gY,aa,aA,aj (by omega)];exact e
theorem qh9 {z zl:Bool} {o ol:Own} {l ar:List Int} (h1:∀ x∈ar,1<=x/\x<=64) (fV:ar.length<=16) (K:KT):∀ (Q P:List Int) (m:af) (x:AV) (rows:List (List Int)) (T:List Nat) (a:Nat),ar=P++Q->a<=64 * P.length->GR 22 m x (rows.map fun r=>(rL r).av) T->rows.map (fun r=>(r.length:Int))=P ->
  ∃ (m':af) (x':AV) (rows':List (List Int)) (T':List Nat),CZ (IA zl ol l) x (.int .i64 a) (IA z o ar) (.int .i64 ar.length) (.int .i64 P.length) m K=K (.exit 0) (LA x' m')/\GR 22 m' x' (rows'.map fun r=>(rL r).av) T'/\rows'.map (fun r=>(r.length:Int))=ar:=by
 intro Q
 induction Q with
 | nil=>
  intro P m x rows T a o8 ha hx hr;rw[bY] at o8;subst o8;refine ⟨m,x,rows,T,?_,hx,hr⟩;rw[RD,bc,aa,aA,aj (by omega)]
 | cons n Q ih=>
  intro P m x rows T a o8 ha hx hr;have pL:P.length < ar.length:=by rw[o8];simp
  have hn:=h1 n (by rw[o8];simp);obtain ⟨k,rfl⟩:=oW (show 0<=n by omega)
  have ix:aF none (IA z o ar) (.int .i64 P.length)=some (.vptr [.int .i64 (k:Nat)]):=by
   rw[jY pL];congr 3;simp[o8]
  obtain ⟨m1,x1,es,T1,a1,e8,g1,l1,ha1,f1,gr1⟩:=X48 (z:=z) (zl:=zl) (o:=o) (ol:=ol) (l:=l) (n:=k) (by omega) x (IA z o ar) (.int .i64 ar.length) (.int .i64 P.length) (Gd K) k 0 m aq [] [] a (by omega) (by omega) .none rfl;have hx1:GR 22 m1 x (rows.map fun r=>(rL r).av) T:=D1 hx fun q hq=>f1.get q (Bf hx q hq) (by simp);have Ev:rows.length=P.length:=by rw[<- hr,cg]
  obtain ⟨x2,m2,T2,ea,g2,f2,gg2⟩:=Be (b:=24) hx1 (by simp;omega) (by omega) (rL es).av;obtain ⟨m',x',rows',T',e,k1,k2⟩:=ih (P++[(k:Int)]) m2 x2 (rows++[es]) T2 a1 (by rw[o8,gd];rfl) (by rw[aI,rh];omega) (by rw[lA];exact g2) (by rw[lA,hr,gg,ri,l1]);refine ⟨m',x',rows',T',?_,k1,k2⟩;rw[aI,rh] at e;have e8:yc (IA zl ol l) x (.int .i64 a) (.int .i64 (k:Nat)) aq (.int .i64 0) (IA z o ar) (.int .i64 ar.length) (.int .i64 P.length) m (Gd K)=_:=e8;rw[RD,bc,aa,aA,an (by omega),ix,aa,gy,aa];rw[e8,qet,qkK g1 (by intro h;rw[h] at l1;simp at l1;omega),aa,ea,aa,cr (by omega),aa];exact e
theorem qhv (z zl:Bool) (o ol:Own) {ar:List Int} (h1:∀ x∈ar,1<=x/\x<=64) (fV:ar.length<=16) (l:List Int):∃ L:OL,AP ae 48 [IA z o ar,IA zl ol l]=some L.av/\LawOdds ar L/\∀ r∈L.es,r.z=false:=by
 obtain ⟨m',x',rows,T,e,g,hr⟩:=qh9 (z:=z) (zl:=zl) (o:=o) (ol:=ol) (l:=l) h1 fV (Gc (aE ae.P f48.results.toList)) ar [] [] aq [] [] 0 rfl (by simp) .none rfl;have e:CZ (IA zl ol l) aq (.int .i64 0) (IA z o ar) (.int .i64 ar.length) (.int .i64 0) [] (Gc (aE ae.P f48.results.toList))=_:=e
 have e16:AC ae 48 [IA z o ar,IA zl ol l] []=some (x',m'):=by
  rw[T48,iI,aa,e,qeo]
 obtain ⟨z',o',rfl,hz⟩:=D2 g
 have lo:∀ o2,LawOdds ar ⟨z',(o2:Own).fr,rows.map rL⟩:=fun o2=>by
  have hl:rows.length=ar.length:=by rw[<- hr,cg]
  refine ⟨by simp[hl],fun u hu=>?_,?_⟩
  ·have hur:u < rows.length:=by simpa using hu
   have:(ar.getD u 0)=(rows[u].length:Int):=by
    rw[<- hr,aT,re,bM hur];rfl
   rw[this];simp[rL]
  ·unfold Pq.OL.fr;cases o2<;>rfl
 refine ⟨⟨z',o'.fr,rows.map rL⟩,?_,lo o',by simp[rL]⟩
 have oJ:Pq.OL.av ⟨z',o'.fr,rows.map rL⟩=.lst none z' o'.fr (rows.map fun r=>(rL r).av):=by
  unfold Pq.OL.av;rw[tE];rfl
 rw[oJ];exact iw (m:=m') (l:=[]) e16 (by cases o'<;>rfl) rfl
end Go.Ab
namespace Go.Ab
open Go.Proofs Go.Proofs.Tryz
theorem PS {m:af} {a b c a' b' c':AV} (hs:cU (some 3) (.agg [a',b',c'])=true):aM (some 3) (m++[some (Ent.obj true [a,b,c])]) (.ptr m.length 0) (.agg [a',b',c'])=some (m++[some (Ent.obj true [a',b',c'])]):=by
 rw[qt,bG rfl,kh,aa];simp[cK,Sh.size,hs,bJ,AV.cells]
theorem qol {e:Nat} {m:af} {x:AV} {l:List ND} {T:List Nat} (h:NR e m x l T) (hl:l.length<=100000) (n:ND):∃ x' m' T',ck (some m.length) false e (some 3) 40 (m++[some Ent.resv]) x (.lst (some 3) false .full [n.av])=some (x',m')/\NR e m' x' (l++[n]) T'/\Fr m m' T/\Gr m T T':=by
 have h2:(l.length+1) * 40<=gS:=by unfold gS;omega
 cases h with
 | none=>
  refine ⟨.lst (some 3) false (.tok m.length e) [n.av],(m++[some Ent.resv]).set m.length (some (Ent.tok 1 3)),[m.length],?_,.some _ [n] (by simp (disch:=(first | assumption | omega | (simp only[aI,a8,aL,aQ];first | done | omega))) only[gR,bU,bG,cw,cL];first | done | rfl),(Fr.app m _ _).set _ (.inr (aR _)),fun k hk=>?_⟩
  ·have h2:40<=gS:=by unfold gS;omega
   simp[ck,h2,az,Sh.size]
  ·obtain rfl:k=m.length:=by simpa using hk
   exact .inr (aR _)
 | some t es ht=>
  have gE:=bC ht;have qK:af.get (m++[some Ent.resv]) t=some (.tok l.length 3):=by rw[bU gE];exact ht
  refine ⟨.lst (some 3) false (.tok t e) (l.map ND.av++[n.av]),(m++[some Ent.resv]).set t (some (Ent.tok (l.length+1) 3)),[t],?_,?_,(Fr.app m _ [t]).set _ (.inl (by simp)),Gr.refl _ _⟩
  ·simp[ck,qK,Sh.size,h2]
  ·have e3:l.map ND.av++[n.av]=(l++[n]).map ND.av:=by simp
   rw[e3];refine .some t (l++[n]) ?_;rw[cL rfl (by simp;omega),aI];rfl
theorem qlN (a b:Int) (z:Bool) (o:Own) (ks:List AV):Fz (.agg [.int .i64 a,.lst none z o ks,.int .i64 b]) (.agg [.int .i64 a,qu (.lst none z o ks),.int .i64 b]):=fun m=>by cases o<;>rfl
theorem qon {e:Nat} {m:af} {x:AV} {l:List ND} {T:List Nat} (h:NR e m x l T):∃ sh z o es,x=.lst sh z o es:=by
 cases h with
 | none=>exact ⟨_,_,_,_,rfl⟩
 | some t l ht=>exact ⟨_,_,_,_,rfl⟩
theorem Qn {m:af} {b q:Nat} {arms x:AV} {L:List ND} {T:List Nat} {n:ND} {z:Bool} {o:Own} (qb:m.get b=some (.obj true [arms,x])) (h:NR 146 m x L T) (sD:b∉T) (Og:q≠b) (vx:q∉T) (hq:m.get q=some (.obj true [.int .i64 n.var,.lst none z o (n.kids.map (AV.int .i64)),.int .i64 n.leaf]))
  (hk:qu (.lst none z o (n.kids.map (AV.int .i64)))=cE n) (hn:n.ok) (hL:∀ y∈L,y.ok) (hl:L.length<=100000) :
  ∃ (m':af) (x':AV) (T':List Nat),uI (.ptr b 0) (.ptr q 0) x (.int .i64 L.length) (.int .i64 0) m (tC (aE ae.P f91.results.toList))=some (.int .i64 (L.idxOf n:Nat),m')/\m'.get b=some (.obj true [arms,x'])/\NR 146 m' x' (jg L n) T'/\Fr m m' (b::T)/\Gr m T T'/\b∉T':=by
 have pM:=bC qb;have IV:=bC hq;have oJ:AV.agg [.int .i64 n.var,cE n,.int .i64 n.leaf]=n.av:=rfl
 have W:∀ (j i:Nat) (m1:af),i+j=L.length->(∀ t (ht:t < L.length),t < i->L[t]≠n)->Fr m m1 [] ->
   ∃ m2,uI (.ptr b 0) (.ptr q 0) x (.int .i64 L.length) (.int .i64 i) m1 (tC (aE ae.P f91.results.toList))=(if n∈L then some (.int .i64 (L.idxOf n:Nat),m2) else tC (aE ae.P f91.results.toList) (.exit 4) (LX (.ptr b 0) (.ptr q 0) m2))/\Fr m m2 []:=by
  intro j
  induction j with
  | zero=>
   intro i m1 hi hne f
   have qf:n∉L:=fun hm=>by
    obtain ⟨t,ht,e⟩:=qB hm;exact hne t ht (by omega) e
   refine ⟨m1,?_,f⟩;rw[R0,bc,aa,aA,aj (by omega),aj qf]
  | succ j ih=>
   intro i m1 hi hne f;have cm:i < L.length:=by omega
   have nw:=qom h cm;have bxi:=AX L[i] m1 (Bc m1);have f2:Fr m (m1++[some (Ent.obj true [.int .i64 L[i].var,cE L[i],.int .i64 L[i].leaf])]) []:=f.snoc _;have gq:af.get (m1++[some (Ent.obj true [.int .i64 L[i].var,cE L[i],.int .i64 L[i].leaf])]) q=_:=(f2.get q IV (by simp)).trans hq
   have ld1:ai (some 3) (m1++[some (Ent.obj true [.int .i64 L[i].var,cE L[i],.int .i64 L[i].leaf])]) (.ptr q 0)=some (.agg [.int .i64 n.var,.lst none z o (n.kids.map (AV.int .i64)),.int .i64 n.leaf]):=by
    rw[bV,gq];rfl
   have ld2:ai (some 3) (m1++[some (Ent.obj true [.int .i64 L[i].var,cE L[i],.int .i64 L[i].leaf])]) (.ptr m1.length 0)=some L[i].av:=by
    rw[bV,bG rfl];rfl
   have p60:aC (AP ae) none (m1++[some (Ent.obj true [.int .i64 L[i].var,cE L[i],.int .i64 L[i].leaf])]) 142 [.agg [.int .i64 n.var,.lst none z o (n.kids.map (AV.int .i64)),.int .i64 n.leaf],L[i].av]=some (.bool (decide (n=L[i])),m1++[some (Ent.obj true [.int .i64 L[i].var,cE L[i],.int .i64 L[i].leaf])]):=by
    rw[fe (qlN _ _ _ _ _) (Nd _),hk,oJ,Td hn (hL _ (bI cm))];rfl
   have e0:uI (.ptr b 0) (.ptr q 0) x (.int .i64 L.length) (.int .i64 i) m1 (tC (aE ae.P f91.results.toList))=aw (.bool (decide (n=L[i]))) (some (.int .i64 i,m1++[some (Ent.obj true [.int .i64 L[i].var,cE L[i],.int .i64 L[i].leaf])])) (uI (.ptr b 0) (.ptr q 0) x (.int .i64 L.length) (.int .i64 (i+1:Nat)) (m1++[some (Ent.obj true [.int .i64 L[i].var,cE L[i],.int .i64 L[i].leaf])]) (tC (aE ae.P f91.results.toList))):=by
    rw[R0,bc,aa,aA,an (by omega),nw,aa,vF,aa,mX,mX];dsimp only;rw[bxi,aa,ld1,aa,ld2,aa,p60,aa,cr (by omega),aa,qfB]
   rw[e0,aA]
   by_cases he:n=L[i]
   ·have hm:n∈L:=he▸bI cm;have gK:L.idxOf n=i:=WQ cm he.symm hne;refine ⟨_,?_,f2⟩;rw[an he,an hm,gK]
   ·rw[aj he]
    exact ih (i+1) _ (by omega) (fun t ht hti=>by
     rcases rk t i with hh | hh
     ·exact hne t ht hh
     ·obtain rfl:t=i:=by omega
      exact fun e=>he e.symm) f2
 obtain ⟨m2,e2,f2⟩:=W L.length 0 m (by omega) (fun _ _ h=>by omega) (Fr.refl _ _);have e2:uI (.ptr b 0) (.ptr q 0) x (.int .i64 L.length) (.int .i64 0) m (tC (aE ae.P f91.results.toList))=_:=e2;rw[e2];have gb2:m2.get b=some (.obj true [arms,x]):=(f2.get b pM (by simp)).trans qb
 by_cases hm:n∈L
 ·rw[an hm,jg,an hm];exact ⟨m2,x,T,rfl,gb2,ur h fun k hk=>f2.get k (uo h k hk) (by simp),f2.mono (by simp),Gr.refl _ _,sD⟩
 ·rw[aj hm,jg,aj hm,EI hm];have gq2:af.get m2 q=some (.obj true [.int .i64 n.var,.lst none z o (n.kids.map (AV.int .i64)),.int .i64 n.leaf]):=(f2.get q IV (by simp)).trans hq;have h2:NR 146 m2 x L T:=ur h fun k hk=>f2.get k (uo h k hk) (by simp);obtain ⟨x3,m3,T3,ea,n3,f3,gg3⟩:=qol h2 hl n;have nr:=H0 n.var n.leaf z o (n.kids.map (AV.int .i64));rw[hk,oJ] at nr;have VF:=bC gb2;have Of:=bC gq2;have gb3:m3.get b=some (.obj true [arms,x]):=(f3.get b VF sD).trans gb2;have VG:=bC gb3;have ldx:ai none (cQ m2 1) (.ptr b (0+1))=some x:=by rw[gR,bV,bU VF,gb2];rfl
  have ldq:ai (some 3) (cQ m2 1) (.ptr q 0)=some (.agg [.int .i64 n.var,.lst none z o (n.kids.map (AV.int .i64)),.int .i64 n.leaf]):=by rw[gR,bV,bU Of,gq2];rfl
  obtain ⟨sh3,z3,o3,es3,rfl⟩:=qon n3
  have st:aM none m3 (.ptr b (0+1)) (.lst sh3 z3 o3 es3)=some (m3.set b (some (.obj true [arms,.lst sh3 z3 o3 es3]))):=by
   rw[qt,gb3,kh,aa];rfl
  have ld4:ai none (m3.set b (some (.obj true [arms,.lst sh3 z3 o3 es3]))) (.ptr b (0+1))=some (.lst sh3 z3 o3 es3):=by
   rw[bV,cL rfl VG];rfl
  have ln:=Pd n3
  have VI:b∉T3:=fun hh=>by
   rcases gg3 b hh with h4 | h4
   ·exact sD h4
   ·omega
  refine ⟨m3.set b (some (.obj true [arms,.lst sh3 z3 o3 es3])),.lst sh3 z3 o3 es3,T3,?_,cL rfl VG,ur n3 fun k hk=>cw (fun e=>VI (e▸hk)),?_,?_,VI⟩
  ·rw[gR] at ldx ldq;rw[qfC,nU,aa,cJ,aa,gR,ldx,aa,ldq,aa,nr,aa,ea,aa,aa,cJ,aa,st,aa,aa,cJ,aa,ld4,aa,ln,aa,aI,ph (by simp) (by simp;omega),aa];simp
  ·exact ((Fr.trans (f2.mono (F':=b::T) (by simp)) f3 fun x hx=>.inl (by simp[hx])).set _ (.inl (by simp)))
  ·intro k hk
   rcases gg3 k hk with h4 | h4
   ·exact .inl h4
   ·have:=f2.len;exact .inr (by omega)
end Go.Ab
namespace Go.Ab
open Go.Proofs Go.Proofs.Tryz
theorem qlZ {e:Nat} {m:af} {x:AV} {l:List AV} {T:List Nat} (h:GR e m x l T):∀ k∈T,∃ n,m.get k=some (.tok n 1):=by
 cases h with
 | none=>simp
 | some t l ht _=>
  intro k hk;obtain rfl:k=t:=by simpa using hk
  exact ⟨_,ht⟩
def FL (l:List ND) (ar:List Int) (za:Bool) (oa:Own) (b v:Nat):Prop:=∀ (m:af) (z:Bool) (o:Own) (part:List Int) (id:Nat) (out:List Nat) (x:AV) (T:List Nat),m.get b=some (.obj true [IA za oa ar,x])->NR 146 m x (dD l out) T->b∉T->Cl l out->TabV ar l id v part ->
 ∃ (m':af) (x':AV) (T':List Nat),AC ae 91 [.ptr b 0,.int .i64 v,IA z o part] m=some (.int .i64 ((Vi l id out).idxOf id:Nat),m')/\m'.get b=some (.obj true [IA za oa ar,x'])/\NR 146 m' x' (dD l (Vi l id out)) T'/\Fr m m' (b::T)/\Gr m T T'/\b∉T'
section
variable {l:List ND} {ar:List Int} {za:Bool} {oa:Own} {b v:Nat}
theorem qh1 {m:af} {x:AV} (qb:m.get b=some (.obj true [IA za oa ar,x])) {z z1:Bool} {o o1:Own} {part first:List Int} {a n:Nat} (hv:v < ar.length) (ha:ar[v]=(a:Int)) (qqK:a<=64) (hp:part.length=a * n) (hpl:part.length<=300) (hf:first.length<=300) (x7:AV) (K:KT):∀ (j k:Nat) (fr:Bool),k+j=a ->
  ∃ fr':Bool,AA (.ptr b 0) (.int .i64 v) (IA z o part) x7 (.int .i64 n) (IA z1 o1 first) (.bool fr) (.int .i64 k) m K=K (.exit 0) (LY (.ptr b 0) (.int .i64 v) (IA z o part) x7 (.int .i64 n) (IA z1 o1 first) (.bool fr') m)/\(fr'=true↔fr=true/\∀ q,k<=q->q < a->_root_.Go.Ab.part part n q=first):=by
 have gK:aF none (IA za oa ar) (.int .i64 v)=some (.vptr [.int .i64 a]):=by rw[jY hv,ha]
 have ldx:ai none m (.ptr b (0+0))=some (IA za oa ar):=by rw[bV,qb];rfl
 intro j
 induction j with
 | zero=>
  intro k fr hk;refine ⟨fr,?_,⟨fun h=>⟨h,fun q h1 h2=>by omega⟩,fun h=>h.1⟩⟩;rw[KX,nU,aa,cJ,aa,ldx,aa,gK,aa,gy,aa,cW,aa,aA,aj (by omega)]
 | succ j ih=>
  intro k fr hk;have vo:k < a:=by omega
  have sM:(k+1) * n<=part.length:=by rw[hp];exact iS _ (by omega)
  have Wc:k * n<=(k+1) * n:=iS _ (by omega);have sP:=part_len hp vo;have kf:n<=(k+1) * n:=Nat.le_mul_of_pos_left _ (by omega)
  cases fr with
  | false=>
   obtain ⟨fr',e,h⟩:=ih (k+1) false (by omega)
   refine ⟨fr',?_,?_⟩
   ·rw[KX,nU,aa,cJ,aa,ldx,aa,gK,aa,gy,aa,cW,aa,aA,an vo,gO,cr (by omega),aa];exact e
   ·rw[h];simp
  | true=>
   obtain ⟨fr',e,h⟩:=ih (k+1) (decide (_root_.Go.Ab.part part n k=first)) (by omega)
   refine ⟨fr',?_,?_⟩
   ·rw[KX,nU,aa,cJ,aa,ldx,aa,gK,aa,gy,aa,cW,aa,aA,an vo,iV,BQ (by omega),aa,cr (by omega),aa,BQ (by omega),aa,MI z o part .i64 sM,aa,qoO z z1 .no o1 _ first (by omega) m,aa,aa]
    exact e
   ·rw[h,wF]
    constructor
    ·rintro ⟨h1,h2⟩;refine ⟨rfl,fun q qh vw=>?_⟩
     by_cases Et:q=k
     ·subst Et;exact h1
     ·exact h2 q (by omega) vw
    ·rintro ⟨_,h2⟩;exact ⟨h2 k (aR _) vo,fun q qh vw=>h2 q (by omega) vw⟩
theorem qh2 (g:GoodL ar l) (h1:∀ x∈ar,1<=x/\x<=64) (dd:l.length<=100000) (hv:v < ar.length) (fV:ar.length<=16) {a n:Nat} (ha:ar[v]=(a:Int)) (hn:n=cu (ar.drop (v+1))) {id:Nat} (hid:id < l.length) (ue:l[id].var=v) {part:List Int} (htab:TabV ar l id v part) (hpl:part.length<=300) (ih:FL l ar za oa b (v+1)) {z:Bool} {o:Own}
  {m0:af} {T0:List Nat} {q:Nat} (hq0:m0.length<=q) (hbq:b < m0.length) (hT0:∀ y∈T0,y < m0.length):∀ (j k:Nat) (m:af) (out:List Nat) (x xk:AV) (T Tk:List Nat),k+j=a->m.get b=some (.obj true [IA za oa ar,x])->NR 146 m x (dD l out) T->b∉T->Cl l out->Fr m0 m (b::T0)->Gr m0 T0 T->q∉T->(∀ i∈l[id].kids.take k,i.toNat∈out) ->
   m.get q=some (.obj true [.int .i64 v,xk,.int .i64 0])->GR 3 m xk (((l[id].kids.take k).map fun i=>((out.idxOf i.toNat:Nat):Int)).map (AV.int .i64)) Tk->(∀ y∈Tk,m0.length<=y/\y∉T) ->
   ∃ (m':af) (x' xk':AV) (T' Tk':List Nat),C7 (.ptr b 0) (.int .i64 v) (IA z o part) (.ptr q 0) (.int .i64 n) (.int .i64 k) m (CH (aE ae.P f91.results.toList))=CH (aE ae.P f91.results.toList) (.exit 2) (LU (.ptr b 0) (.ptr q 0) m') /\
    m'.get b=some (.obj true [IA za oa ar,x'])/\NR 146 m' x' (dD l (iz l (l[id].kids.drop k) out)) T'/\b∉T'/\Fr m0 m' (b::T0)/\Gr m0 T0 T'/\q∉T'/\m'.get q=some (.obj true [.int .i64 v,xk',.int .i64 0])/\GR 3 m' xk' ((l[id].kids.map fun i=>(((iz l (l[id].kids.drop k) out).idxOf i.toNat:Nat):Int)).map (AV.int .i64)) Tk':=by
 have aU:ar.getD v 0=(a:Int):=by rw[aT,bM hv,eh,ha]
 have mf:=h1 _ (bI hv)
 have fI:l[id].kids.length=a:=by
  have:=(g.var id hid (by omega)).2;rw[ue,cH,aU] at this;omega
 have hp:part.length=a * n:=by
  rw[htab.len,xu hv,aU,hn];rfl
 have gK:aF none (IA za oa ar) (.int .i64 v)=some (.vptr [.int .i64 a]):=by rw[jY hv,ha]
 intro j
 induction j with
 | zero=>
  intro k m out x xk T Tk hk qb vt sD hc f gr vx NZ vy wU ve;have hd:l[id].kids.drop k=[]:=jq (by omega);have ht:l[id].kids.take k=l[id].kids:=kW (by omega);rw[ht] at wU;have ldx:ai none m (.ptr b (0+0))=some (IA za oa ar):=by rw[bV,qb];rfl
  refine ⟨m,x,xk,T,Tk,?_,qb,by rw[hd];exact vt,sD,f,gr,vx,vy,by rw[hd];exact wU⟩;rw[RZ,nU,aa,cJ,aa,ldx,aa,gK,aa,gy,aa,cW,aa,aA,aj (by omega)]
 | succ j ihj=>
  intro k m out x xk T Tk hk qb vt sD hc f gr vx NZ vy wU ve;have vo:k < a:=by omega
  have vp:k < l[id].kids.length:=by omega
  have sM:(k+1) * n<=part.length:=by rw[hp];exact iS _ (by omega)
  have Wc:k * n<=(k+1) * n:=iS _ (by omega);have ldx:ai none m (.ptr b (0+0))=some (IA za oa ar):=by rw[bV,qb];rfl
  obtain ⟨t,et,ht⟩:=pP g hid _ (bI vp);have kg:=PZ g (fun x hx=>(h1 x hx).1) hv htab hid ue (k:=k) (by rw[aU];omega);have eg:l[id].kids.getD k 0=(t:Int):=by rw[aT,bM vp,eh,et]
  rw[eg,cH,<- hn] at kg;have pM:=bC qb;have IV:=bC vy;obtain ⟨m1,x1,T1,e70,gb1,n1,f1,gr1,ql9⟩:=ih m z .no _ t out x T qb vt sD hc kg;obtain ⟨c1,c2,r,c3,c4⟩:=rr g t kg.lt out hc;have Og:q≠b:=by omega
  have qh:m1.get q=some (.obj true [.int .i64 v,xk,.int .i64 0]):=(f1.get q IV (by simp;exact ⟨Og,vx⟩)).trans vy
  have Wu:q∉T1:=fun hh=>by
   rcases gr1 q hh with h4 | h4
   ·exact vx h4
   ·omega
  have qmn:GR 3 m1 xk (((l[id].kids.take k).map fun i=>(((Vi l t out).idxOf i.toNat:Nat):Int)).map (AV.int .i64)) Tk:=by
   have e:((l[id].kids.take k).map fun i=>(((Vi l t out).idxOf i.toNat:Nat):Int))=((l[id].kids.take k).map fun i=>((out.idxOf i.toNat:Nat):Int)):=List.map_congr_left fun i hi=>by
    rw[c3,List.idxOf_append,an (NZ i hi)]
   rw[e]
   exact D1 wU fun y hy=>f1.get y (Bf wU y hy) (by
    simp only[gA,not_or]
    exact ⟨fun e=>by have:=(ve y hy).1;omega,(ve y hy).2⟩)
  obtain ⟨x2,m2,Tk2,ea,g2,f2,gg2⟩:=Be (b:=8) qmn (by simp;omega) (by omega) (.int .i64 ((Vi l t out).idxOf t:Nat));have ntk:∀ y,y∉Tk->y < m1.length->m2.get y=m1.get y:=fun y h h'=>f2.get y h' h;have ql8:=bC gb1;have qmY:=bC qh;have ql4:b∉Tk:=fun h=>by have:=(ve b h).1;omega
  have Vz:q∉Tk:=fun h=>by
   have h2:=Bf wU q h;obtain ⟨k',qK⟩:=qlZ wU q h;rw[vy] at qK;cases qK
  have gb2:m2.get b=some (.obj true [IA za oa ar,x1]):=(ntk b ql4 ql8).trans gb1;have gq2:m2.get q=some (.obj true [.int .i64 v,xk,.int .i64 0]):=(ntk q Vz qmY).trans qh
  have Vy:∀ y∈Tk,y∉T1:=fun y hy hh=>by
   rcases gr1 y hh with h4 | h4
   ·exact (ve y hy).2 h4
   ·have:=Bf wU y hy;omega
  have n2:NR 146 m2 x1 (dD l (Vi l t out)) T1:=ur n1 fun y hy=>ntk y (fun h=>Vy y h hy) (uo n1 y hy);have Of:=bC gq2;obtain ⟨xz,xo,rfl,_⟩:=D2 g2
  have st:aM none m2 (.ptr q (0+1)) (.lst none xz xo (((l[id].kids.take k).map fun i=>(((Vi l t out).idxOf i.toNat:Nat):Int)).map (AV.int .i64)++[.int .i64 ((Vi l t out).idxOf t:Nat)]))=some (m2.set q (some (.obj true [.int .i64 v,.lst none xz xo (((l[id].kids.take k).map fun i=>(((Vi l t out).idxOf i.toNat:Nat):Int)).map (AV.int .i64)++[.int .i64 ((Vi l t out).idxOf t:Nat)]),.int .i64 0]))):=by
   rw[qt,gq2,kh,aa];rfl
  have ek:(((l[id].kids.take k).map fun i=>(((Vi l t out).idxOf i.toNat:Nat):Int)).map (AV.int .i64)++[.int .i64 ((Vi l t out).idxOf t:Nat)])=((l[id].kids.take (k+1)).map fun i=>(((Vi l t out).idxOf i.toNat:Nat):Int)).map (AV.int .i64):=by
   rw[oC vp,lA,lA,et];rfl
  have hnq:∀ y∈Tk2,y≠q:=fun y hy e=>by
   rcases gg2 y hy with h4 | h4
   ·exact Vz (e▸h4)
   ·omega
  have ed:iz l (l[id].kids.drop k) out=iz l (l[id].kids.drop (k+1)) (Vi l t out):=by
   rw[kr vp,DA,et,cH]
  have F1:Fr m0 m1 (b::T0):=Fr.trans f f1 fun y hy=>by
   rcases gA.1 hy with rfl | hy
   ·exact .inl (by simp)
   ·rcases gr y hy with h4 | h4
    ·exact .inl (by simp[h4])
    ·exact .inr h4
  have F2:Fr m0 m2 (b::T0):=Fr.trans F1 f2 fun y hy=>.inr (ve y hy).1
  obtain ⟨m',x',xk',T',Tk',e,k1,k2,k3,k4,k5,k6,k7,k8⟩:=ihj (k+1) (m2.set q (some (.obj true [.int .i64 v,.lst none xz xo (((l[id].kids.take k).map fun i=>(((Vi l t out).idxOf i.toNat:Nat):Int)).map (AV.int .i64)++[.int .i64 ((Vi l t out).idxOf t:Nat)]),.int .i64 0]))) (Vi l t out) x1 _ T1 Tk2 (by omega)
   (by rw[cw (fun e=>Og e.symm)];exact gb2) (ur n2 fun y hy=>cw (fun e=>Wu (e▸hy))) ql9 c1 (F2.set _ (.inr hq0)) (Gr.trans f.len gr gr1) Wu (fun i hi=>by
    rw[oC vp] at hi
    rcases iy.1 hi with hi | hi
    ·rw[c3];exact AJ _ (NZ i hi)
    ·obtain rfl:i=l[id].kids[k]:=by simpa using hi
     rw[et,cH];exact c2) (cL rfl Of) (by
    rw[<- ek]
    exact D1 g2 fun y hy=>cw (hnq y hy)) (fun y hy=>by
    have l1:=f1.len;have l0:=f.len
    rcases gg2 y hy with h4 | h4
    ·exact ⟨(ve y h4).1,Vy y h4⟩
    ·refine ⟨by omega,fun hh=>?_⟩;have:=uo n1 y hh
     omega)
  refine ⟨m',x',xk',T',Tk',?_,k1,by rw[ed];exact k2,k3,k4,k5,k6,k7,by rw[ed];exact k8⟩;have ldk:ai none m (.ptr q (0+1))=some xk:=by rw[bV,vy];rfl
  have ldk1:ai none m1 (.ptr q (0+1))=some xk:=by rw[bV,qh];rfl
  rw[RZ,nU,aa,cJ,aa,ldx,aa,gK,aa,gy,aa,cW,aa,aA,an vo,cJ,aa,ldk,aa,cr (by omega),aa,BQ (by omega),aa,cr (by omega),aa,BQ (by omega),aa,MI z o part .i64 sM,aa,e70,aa];rw[qM (by simp only[ldk1,aa]),ry,aa,ea,aa,aa,st,aa,aa];exact e
theorem Je (g:GoodL ar l) (dd:l.length<=100000) {out:List Nat} (hc:Cl l out):∀ y∈dD l out,y.ok:=fun y hy=>by
 obtain ⟨i,hi,rfl⟩:=iY.1 hy;have:=s6 _ _ hc.nd hc.lt;exact EY g dd (by omega) (hc.lt i hi)
theorem Qm (g:GoodL ar l) (h1:∀ x∈ar,1<=x/\x<=64) (dd:l.length<=100000) (fV:ar.length<=16) (hv:v<=ar.length) (w6:cu (ar.drop v)<=300) (ih:v < ar.length->FL l ar za oa b (v+1)):FL l ar za oa b v:=by
 intro m z o part id out x T qb vt sD hc htab;have sy:∀ x∈ar,1<=x:=fun x hx=>(h1 x hx).1;have hid:=htab.lt;have hpp:1<=cu (ar.drop v):=Pu fun x hx=>sy x (List.drop_subset _ _ hx);have hpl:=htab.len;obtain ⟨c0,ct,ec⟩:=List.exists_cons_of_ne_nil (show part≠[] from fun e=>by rw[e] at hpl;simp at hpl;omega);have pM:=bC qb;have i0:aF none (IA z o part) (.int .i64 0)=some (.vptr [.int .i64 c0]):=by rw[ec];exact EJ (by simp)
 have hb:fU (.agg [(.int .i64 0),aq,(.int .i64 0)]) [(0,none,(.int .i64 (-1))),(2,none,.int .i64 c0)]=some (.agg [.int .i64 (-1),aq,.int .i64 c0]):=rfl;have sn:=PS (m:=m) (a:=.int .i64 0) (b:=aq) (c:=.int .i64 0) (a':=.int .i64 (-1)) (b':=aq) (c':=.int .i64 c0) rfl;have f4:Fr m (m++[some (Ent.obj true [.int .i64 (-1),aq,.int .i64 c0])]) []:=Fr.app m _ _;generalize yY:m++[some (Ent.obj true [.int .i64 (-1),aq,.int .i64 c0])]=m4 at sn f4
 have gq:m4.get m.length=some (Ent.obj true [.int .i64 (-1),aq,.int .i64 c0]):=by rw[<- yY];exact (by simp (disch:=(first | assumption | omega | (simp only[aI,a8,aL,aQ];first | done | omega))) only[gR,bU,bG,cw,cL];first | done | rfl)
 have l4:m4.length=m.length+1:=by rw[<- yY];simp
 have gb4:m4.get b=some (.obj true [IA za oa ar,x]):=(f4.get b pM (by simp)).trans qb;have n4:NR 146 m4 x (dD l out) T:=ur vt fun k hk=>f4.get k (uo vt k hk) (by simp);have vx:m.length∉T:=fun h=>by have:=uo vt _ h;omega
 have Wo:out.length<=l.length:=s6 _ _ hc.nd hc.lt;have p78:=qoN z o part (by rw[ec];simp) (by omega) m4;have e0:AC ae 91 [.ptr b 0,.int .i64 v,IA z o part] m=_:=T91 _ _ _ m;rw[i0,aa,gy,aa,hb,aa,mX,mX] at e0;dsimp only at e0;rw[sn,aa,p78,aa,n9,aa,ec,List.headD_cons,<- ec] at e0;have ldx0:ai none m4 (.ptr b (0+0))=some (IA za oa ar):=by rw[bV,gb4];rfl
 have ldx1:ai none m4 (.ptr b (0+1))=some x:=by rw[bV,gb4];rfl
 by_cases hall:(part.all fun k=>k == c0)=true
 ·
  rw[hall,jU,gO,nU,aa,cJ,aa,ldx1,aa,Pd vt,aa] at e0;have N3:=qk9 g sy hv htab (c:=c0) (fun y hy=>by simpa using gJ.1 hall y hy)
  have hnd:nd l out id=iH c0:=by
   unfold nd;rw[N3];rfl
  rw[jr hid] at N3;have Wb:l[id].kids=[]:=by rw[N3];rfl
  have bf:=EY g dd (p:=out) (by omega) hid;rw[hnd] at bf;obtain ⟨m5,x5,T5,e5,k1,k2,k3,k4,k5⟩:=Qn (n:=iH c0) (z:=true) (o:=.full) gb4 n4 sD (show m.length≠b by omega) vx gq rfl bf (Je g dd hc) (by unfold dD;rw[cg];omega);have pr:=YS g hc hid (by rw[Wb];simp)
  have eV:Vi l id out=if id∈out then out else out++[id]:=by rw[Tm g hid hc,Wb,qhz]
  rw[hnd,<- eV] at pr;refine ⟨m5,x5,T5,?_,k1,by rw[<- pr.1];exact k2,Fr.trans (f4.mono (by simp)) k3 fun y hy=>.inl hy,Gr.trans f4.len (Gr.refl _ _) k4,k5⟩;rw[e0,e5,pr.2]
 ·rw[Bool.not_eq_true] at hall
  have fZ:v < ar.length:=by
   refine Decidable.byContradiction fun hn=>?_;have:ar.drop v=[]:=jq (by omega);rw[this] at hpl;have hpl:part.length=1:=hpl;rw[ec] at hpl hall;have:ct=[]:=by simpa using hpl
   rw[this] at hall;simp at hall
  have mf:=h1 _ (bI fZ);obtain ⟨a,ha⟩:=oW (by omega:0<=ar[v]);have aU:ar.getD v 0=(a:Int):=by rw[aT,bM fZ,eh,ha]
  have gK:aF none (IA za oa ar) (.int .i64 v)=some (.vptr [.int .i64 a]):=by rw[jY fZ,ha]
  have sQ:cu (ar.drop v)=a * cu (ar.drop (v+1)):=by rw[xu fZ,aU];rfl
  have kf:1<=cu (ar.drop (v+1)):=Pu fun x hx=>sy x (List.drop_subset _ _ hx);have zc:part.length=a * cu (ar.drop (v+1)):=by rw[hpl,sQ]
  have hle:cu (ar.drop (v+1))<=part.length:=by rw[zc];exact Nat.le_mul_of_pos_left _ (by omega)
  have hdiv:part.length / a=cu (ar.drop (v+1)):=by rw[zc,Nat.mul_div_cancel_left _ (by omega)]
  have mQ:n5 none (IA z o part) none (some (.int .i64 (cu (ar.drop (v+1)):Nat))) none=some (IA z .no (_root_.Go.Ab.part part (cu (ar.drop (v+1))) 0)):=by
   rw[PO _ _ _ _ _ hle];unfold _root_.Go.Ab.part;rw[yg,jI]
  have IQ:=part_len zc (k:=0) (by omega)
  obtain ⟨fr,e7,nP⟩:=qh1 (z:=z) (z1:=z) (o:=o) (o1:=.no) (first:=_root_.Go.Ab.part part (cu (ar.drop (v+1))) 0) gb4 fZ ha (by omega) zc (by omega) (by omega) (.ptr m.length 0) (Gp (aE ae.P f91.results.toList)) (a - 1) 1 true (by omega)
  have e7:AA (.ptr b 0) (.int .i64 v) (IA z o part) (.ptr m.length 0) (.int .i64 (cu (ar.drop (v+1)):Nat)) (IA z .no (_root_.Go.Ab.part part (cu (ar.drop (v+1))) 0)) (.bool true) (.int .i64 1) m4 (Gp (aE ae.P f91.results.toList))=_:=e7;rw[hall,nH,iV,iI,aa,nU,aa,cJ,aa,ldx0,aa,gK,aa,gy,aa,X6 (by omega) (by omega),aa,hdiv,mQ,aa,e7,qfG] at e0
  have VT:fr=true↔∀ k:Nat,(k:Int) < ar.getD v 0->_root_.Go.Ab.part part (cu (ar.drop (v+1))) k=_root_.Go.Ab.part part (cu (ar.drop (v+1))) 0:=by
   rw[nP,aU]
   constructor
   ·rintro ⟨_,h⟩ k hk
    by_cases vn:k=0
    ·rw[vn]
    ·exact h k (by omega) (by omega)
   ·exact fun h=>⟨rfl,fun q _ hq=>h q (by omega)⟩
  by_cases hf:fr=true
  ·
   rw[hf,iV,cr (by omega),aa] at e0;have ht:=qlz g sy fZ htab (VT.1 hf);obtain ⟨m5,x5,T5,e5,k1,k2,k3,k4,k5⟩:=ih fZ m4 z .no _ id out x T gb4 n4 sD hc ht;refine ⟨m5,x5,T5,?_,k1,k2,Fr.trans (f4.mono (by simp)) k3 fun y hy=>.inl hy,Gr.trans f4.len (Gr.refl _ _) k4,k5⟩;rw[e0,e5,aa]
  ·have hff:fr=false:=by simpa using hf
   have ue:=qoi g sy fZ htab hid (fun h=>hf (VT.2 h));have hb2:fU (.agg [(.int .i64 0),aq,(.int .i64 0)]) [(0,none,.int .i64 v)]=some (.agg [.int .i64 v,aq,.int .i64 0]):=rfl;have st:aM (some 3) m4 (.ptr m.length 0) (.agg [.int .i64 v,aq,.int .i64 0])=some (m4.set m.length (some (Ent.obj true [.int .i64 v,aq,.int .i64 0]))):=ZJ gq rfl;rw[hff,gO,hb2,aa,st,aa] at e0;have f5:Fr m (m4.set m.length (some (Ent.obj true [.int .i64 v,aq,.int .i64 0]))) (b::T):=(f4.mono (F':=b::T) (by simp)).set _ (.inr (aR _))
   obtain ⟨m6,x6,xk,T6,Tk,e14,k1,k2,k3,k4,k5,k6,k7,k8⟩:=qh2 g h1 dd fZ fV ha rfl hid ue htab (by omega) (ih fZ) (z:=z) (o:=o) (m0:=m) (T0:=T) (q:=m.length) (aR _) pM (uo vt) a 0 (m4.set m.length (some (Ent.obj true [.int .i64 v,aq,.int .i64 0]))) out x aq T [] (by omega)
    (by rw[cw (by omega)];exact gb4) (ur n4 fun y hy=>cw (fun e=>vx (e▸hy))) sD hc f5 (Gr.refl _ _) vx (by simp) (cL rfl (by omega)) .none (by simp)
   rw[jI] at k2 k8;obtain ⟨c1,c2,r,c3,c4⟩:=Mj g hid l[id].kids (fun k hk=>pP g hid k hk) out hc;have qqS:=s6 _ _ c1.nd c1.lt
   have hnk:(nd l (iz l l[id].kids out) id).kids=l[id].kids.map fun i=>(((iz l l[id].kids out).idxOf i.toNat:Nat):Int):=by
    unfold nd;rw[jr hid]
   have vu:(nd l (iz l l[id].kids out) id).var=v:=by unfold nd;rw[jr hid];exact ue
   have bf:=EY g dd (p:=iz l l[id].kids out) (by omega) hid
   have oL:(nd l (iz l l[id].kids out) id).leaf=0:=by
    rcases bf with ⟨q1,_⟩ | ⟨_,_,q3,_⟩
    ·rw[vu] at q1;omega
    ·exact q3
   have Bq:l[id].kids≠[]:=Vk g _ (bI hid) (by omega);obtain ⟨kz',ko',rfl,Oo⟩:=ZQ k8 hnk bf (fun _=>by simpa using Bq)
   have gq6:m6.get m.length=some (.obj true [.int .i64 (nd l (iz l l[id].kids out) id).var,.lst none kz' ko' ((nd l (iz l l[id].kids out) id).kids.map (AV.int .i64)),.int .i64 (nd l (iz l l[id].kids out) id).leaf]):=by
    rw[k7,vu,oL]
   obtain ⟨m7,x7,T7,e18,j1,j2,j3,j4,j5⟩:=Qn (n:=nd l (iz l l[id].kids out) id) (z:=kz') (o:=ko') k1 k2 k3 (show m.length≠b by omega) k6 gq6 Oo bf (Je g dd c1) (by unfold dD;rw[cg];omega);have pr:=YS g c1 hid c2;rw[<- Tm g hid hc] at pr
   refine ⟨m7,x7,T7,?_,j1,by rw[<- pr.1];exact j2,Fr.trans k4 j3 fun y hy=>?_,Gr.trans k4.len k5 j4,j5⟩
   ·have e14:C7 (.ptr b 0) (.int .i64 v) (IA z o part) (.ptr m.length 0) (.int .i64 (cu (ar.drop (v+1)):Nat)) (.int .i64 0) (m4.set m.length (some (Ent.obj true [.int .i64 v,aq,.int .i64 0]))) (CH (aE ae.P f91.results.toList))=_:=e14;have ld6:ai none m6 (.ptr b (0+1))=some x6:=by rw[bV,k1];rfl
    rw[e0,e14,qfy,nU,aa,cJ,aa,ld6,aa,Pd k2,aa,e18,pr.2]
   ·rcases gA.1 hy with rfl | hy
    ·exact .inl (by simp)
    ·rcases k5 y hy with h4 | h4
     ·exact .inl (by simp[h4])
     ·exact .inr h4
theorem A70 (g:GoodL ar l) (h1:∀ x∈ar,1<=x/\x<=64) (dd:l.length<=100000) (fV:ar.length<=16):∀ (d v:Nat),v+d=ar.length->cu (ar.drop v)<=300->FL l ar za oa b v:=by
 have sy:∀ x∈ar,1<=x:=fun x hx=>(h1 x hx).1;intro d
 induction d with
 | zero=>
  intro v hv w6;exact Qm g h1 dd fV (by omega) w6 (fun hlt=>by omega)
 | succ d ih=>
  intro v hv w6;refine Qm g h1 dd fV (by omega) w6 (fun hlt=>ih (v+1) (by omega) ?_);have mf:=h1 _ (bI hlt);have sQ:=xu hlt;rw[aT,bM hlt,eh] at sQ
  have:cu (ar.drop (v+1))<=cu (ar.drop v):=by
   rw[sQ];exact Nat.le_mul_of_pos_left _ (by omega)
  omega
end
end Go.Ab
namespace Go.Ab
open Go.Proofs Go.Proofs.Tryz
theorem Jn {e:Nat} {m:af} {x:AV} {l:List ND} {T:List Nat} (h:NR e m x l T) (hl:l≠[]):∃ t,x=NL false (.tok t e) l:=by
 cases h with
 | none=>exact absurd rfl hl
 | some t l ht=>exact ⟨t,rfl⟩
theorem Tc {l:List ND} {ar:List Int} (g:GoodL ar l) (h1:∀ x∈ar,1<=x/\x<=64) (dd:l.length<=100000) (fV:ar.length<=16) (hp:cu ar<=300) {id:Nat} {t:List Int} (htab:TabV ar l id 0 t) (za z:Bool) (oa o:Own) :
  AP ae 31 [IA za oa ar,IA z o t]=some (NL false .no (dD l (Vi l id []))):=by
 have hne:dD l (Vi l id [])≠[]:=by
  obtain ⟨_,c2,_⟩:=rr g id htab.lt [] sv;intro e;unfold dD at e;rw[AH] at e;rw[e] at c2;cases c2
 have hb:fU (.agg [aq,aq]) [(0,none,IA za oa ar)]=some (.agg [IA za oa ar,aq]):=rfl;have hx:cS none (some 2) ([]:af) (.agg [IA za oa ar,aq])=some (.ptr 0 0,[some (Ent.obj true [IA za oa ar,aq])]):=rfl;obtain ⟨m',x',T',e,k1,k2,_,_,_⟩:=A70 (za:=za) (oa:=oa) (b:=0) g h1 dd fV ar.length 0 (by omega) hp [some (Ent.obj true [IA za oa ar,aq])] z o t id [] aq [] rfl .none (by simp) sv htab;obtain ⟨tk,rfl⟩:=Jn k2 hne;refine iw (m:=m') (v:=NL false (.tok tk 146) (dD l (Vi l id []))) (l:=[]) ?_ rfl rfl;have e:AC ae 91 [.ptr 0 0,.int .i64 0,IA z o t] [some (Ent.obj true [IA za oa ar,aq])]=_:=e;have ld:ai none m' (.ptr 0 (0+1))=some (NL false (.tok tk 146) (dD l (Vi l id []))):=by rw[bV,k1];rfl
 rw[T31,hb,aa,hx,aa,e,aa,nU,aa,cJ,aa,ld,aa]
end Go.Ab
namespace Go.Ab
open Go.Proofs Go.Proofs.Tryz
structure RN where
 var:Int
 z:Bool
 o:Own
 kids:List Int
 leaf:Int
def dC:RN:=⟨0,true,.full,[],0⟩
def RN.av (x:RN):AV:=.agg [.int .i64 x.var,IA x.z x.o x.kids,.int .i64 x.leaf]
abbrev RL (z:Bool) (o:Own) (L:List RN):AV:=.lst (some 3) z o (L.map RN.av)
theorem EK (z:Bool) (o:Own) (L:List RN):aK false (RL z o L)=some (.int .i64 L.length):=by rw[pn,cg]
theorem OC {z:Bool} {o:Own} {L:List RN} {i:Nat} (hi:i < L.length):aF (some 3) (RL z o L) (.int .i64 i)=some (.vptr [.int .i64 L[i].var,IA L[i].z L[i].o L[i].kids,.int .i64 L[i].leaf]):=by
 simp[aF,hi];rfl
def pk (L:List RN) (i:Nat) (v k:Int):Bool:=decide (0<=k/\k < i) && decide ((L.getD k.toNat dC).var=-1\/v < (L.getD k.toNat dC).var)
def nW (ar:List Int) (L:List RN) (i:Nat) (x:RN):Bool:=if x.var=-1 then decide (x.kids=[]/\0<=x.leaf/\x.leaf<=2147483647) else decide (0<=x.var/\x.var < ar.length/\x.leaf=0/\(x.kids.length:Int)=ar.getD x.var.toNat 0) && x.kids.all (pk L i x.var)
def qn (ar:List Int) (L:List RN):Nat->Nat->Bool
 | 0,_=>decide (0 < L.length)
 | j+1,i=>nW ar L i (L.getD i dC) && qn ar L j (i+1)
theorem Yk {ar:List Int} {L:List RN} {i:Nat} {x:RN} (h:nW ar L i x=true):x.var=-1\/0<=x.var:=by
 unfold nW at h
 split at h
 ·exact .inl (by assumption)
 ·simp only[cn,pJ] at h;exact .inr h.1.1
theorem qlJ (z:Bool) (o:Own) (L:List RN):Fz (RL z o L) (RL z o.fr L):=fun m=>by cases o<;>rfl
theorem TE {za zl z zr:Bool} {oa ol o orr:Own} {ar:List Int} {L:List RN} {i:Nat} {x:RN} {m:af} {q:Nat} (hi:i < L.length) (hl:L.length<=100000) (hx:x.kids.length<=100000) (hq:m.get q=some (.obj true [.int .i64 x.var,IA x.z x.o x.kids,.int .i64 x.leaf])) (Er:∀ k (h:k < i),(L.getD k dC).var=-1\/0<=(L.getD k dC).var) (x9 aH aY:AV):∀ j c:Nat,c+j=x.kids.length ->
  xZ (IA za oa ar) (RL zl ol L) (.int .i64 i) (.ptr q 0) x9 aH aY (IA z o x.kids) (.int .i64 x.kids.length) (.int .i64 c) m (Aj (tw (aE ae.P f107.results.toList)))=if (x.kids.drop c).all (pk L i x.var) then Aj (tw (aE ae.P f107.results.toList)) (.exit 2) (Hj (IA za oa ar) (RL zl ol L) x9 aH aY m) else some (.bool false,m)
 | 0,c,h=>by
  rw[Gs,bc,aa,aA,aj (by omega),jq (by omega)];rfl
 | j+1,c,h=>by
  have hc:c < x.kids.length:=by omega
  have ih:=TE (za:=za) (zl:=zl) (z:=z) (zr:=zr) (oa:=oa) (ol:=ol) (o:=o) (orr:=orr) (ar:=ar) hi hl hx hq Er x9 aH aY j (c+1) (by omega);have ldq:ai none m (.ptr q (0+0))=some (.int .i64 x.var):=by rw[bV,hq];rfl
  rw[Gs,bc,aa,aA,an (by omega),jY hc,aa,gy,aa,bc,aa,aA,kr hc,oq]
  by_cases h1:x.kids[c] < 0
  ·rw[an h1,FM,tz,pk,cT (by omega),lY,lY];rfl
  ·rw[aj h1,kK,aa,aA]
   by_cases h2:x.kids[c]≥i
   ·rw[an h2,FM,tz,pk,cT (by omega),lY,lY];rfl
   ·obtain ⟨k,hk⟩:=oW (by omega:0<=x.kids[c]);have jA:k < i:=by omega
    have fI:k < L.length:=by omega
    have tZ:=Er k jA;have hg:L.getD k dC=L[k]:=by rw[aT,bM fI,eh]
    rw[hg] at tZ;have l3:∀ (a b c:AV),ai none m (.vptr [a,b,c])=some a:=fun _ _ _=>rfl;have hb1:decide (0<=(k:Int)/\(k:Int) < i)=true:=eE (by omega);rw[aj h2,hk,OC fI,aa,MW,aa,l3,aa,kK,aa,aA,pk,hb1,iN,cH,hg]
    by_cases h3:L[k].var≥0
    ·rw[an h3,aa,MW,aa,l3,aa,cJ,aa,ldq,aa,sr,aa,aA]
     by_cases h4:L[k].var<=x.var
     ·rw[an h4,FM,tz,cT (by omega),lY];rfl
     ·rw[aj h4,cr (by omega),aa,ih,eE (by omega),iN]
    ·rw[aj h3,cr (by omega),aa,ih,eE (by omega),iN]
theorem TD {za zl z:Bool} {oa ol o:Own} {ar:List Int} {L:List RN} (hl:L.length<=100000) (hx:∀ a∈ar,1<=a/\a<=64):∀ (j i:Nat) (m:af),i+j=L.length->(∀ k (h:k < i),(L.getD k dC).var=-1\/0<=(L.getD k dC).var) ->
  ∃ m',uG (IA za oa ar) (RL zl ol L) (RL zl ol L) (.int .i64 L.length) (.int .i64 i) m (tw (aE ae.P f107.results.toList))=some (.bool (qn ar L j i),m')
 | 0,i,m,h,_=>by
  refine ⟨m,?_⟩;rw[Gt,bc,aa,aA,aj (by omega),Qy,EK,aa,gY,aa,qn];congr 3;exact jL.2 (by omega)
 | j+1,i,m,h,Er=>by
  have hi:i < L.length:=by omega
  have hg:L.getD i dC=L[i]:=by rw[aT,bM hi,eh]
  have gK:=OC (z:=zl) (o:=ol) hi;have sn:aM (some 3) (m++[some (Ent.obj true [.int .i64 0,aq,.int .i64 0])]) (.ptr m.length 0) (.agg [.int .i64 L[i].var,IA L[i].z L[i].o L[i].kids,.int .i64 L[i].leaf])=some (m++[some (Ent.obj true [.int .i64 L[i].var,IA L[i].z L[i].o L[i].kids,.int .i64 L[i].leaf])]):=PS rfl;have gq:af.get (m++[some (Ent.obj true [.int .i64 L[i].var,IA L[i].z L[i].o L[i].kids,.int .i64 L[i].leaf])]) m.length=some (Ent.obj true [.int .i64 L[i].var,IA L[i].z L[i].o L[i].kids,.int .i64 L[i].leaf]):=bG rfl;generalize yY:m++[some (Ent.obj true [.int .i64 L[i].var,IA L[i].z L[i].o L[i].kids,.int .i64 L[i].leaf])]=m4 at sn gq;have ld0:ai none m4 (.ptr m.length (0+0))=some (.int .i64 L[i].var):=by rw[bV,gq];rfl
  have ld1:ai none m4 (.ptr m.length (0+1))=some (IA L[i].z L[i].o L[i].kids):=by rw[bV,gq];rfl
  have ld2:ai none m4 (.ptr m.length (0+2))=some (.int .i64 L[i].leaf):=by rw[bV,gq];rfl
  have e0:∃ r,uG (IA za oa ar) (RL zl ol L) (RL zl ol L) (.int .i64 L.length) (.int .i64 i) m (tw (aE ae.P f107.results.toList))=r:=⟨_,rfl⟩;obtain ⟨r0,e0⟩:=e0;have e1:=e0;rw[Gt,bc,aa,aA,an (by omega),gK,aa,vF,aa,mX,mX] at e1;dsimp only at e1;rw[sn,aa,cJ,aa,ld0,aa,iM,aa,aA] at e1;rw[e0,qn,hg,nW];have bad:∀ (b:Bool),nW ar L i L[i]=false->r0=some (.bool false,m4)->∃ m',r0=some (.bool (nW ar L i L[i] && b),m'):=fun b h1 h2=>⟨m4,by rw[h2,h1,lY]⟩
  have good:nW ar L i L[i]=true->r0=uG (IA za oa ar) (RL zl ol L) (RL zl ol L) (.int .i64 L.length) (.int .i64 (i+1:Nat)) m4 (tw (aE ae.P f107.results.toList))->∃ m',r0=some (.bool (nW ar L i L[i] && qn ar L j (i+1)),m'):=fun h1 h2=>by
   obtain ⟨m',e⟩:=TD (za:=za) (zl:=zl) (z:=z) (oa:=oa) (ol:=ol) (o:=o) (ar:=ar) hl hx j (i+1) m4 (by omega) fun k hk=>by
    by_cases jA:k < i
    ·exact Er k jA
    ·obtain rfl:k=i:=by omega
     rw[hg];exact Yk h1
   exact ⟨m',by rw[h2,e,h1,iN]⟩
  rw[<- nW]
  by_cases hv:L[i].var=-1
  ·rw[an hv,cJ,aa,ld1,aa,iI,aa,gY,aa,aA] at e1;have lS:nW ar L i L[i]=decide (L[i].kids=[]/\0<=L[i].leaf/\L[i].leaf<=2147483647):=by unfold nW;rw[an hv]
   by_cases hk:L[i].kids=[]
   ·rw[aj (by rw[hk];simp),cJ,aa,ld2,aa,Pn,aa,n9,aa] at e1
    by_cases h1:0<=L[i].leaf/\L[i].leaf<=2147483647
    ·rw[eE h1,jU,gO,cr (by omega),aa] at e1;exact good (by rw[lS];exact eE ⟨hk,h1⟩) e1.symm
    ·rw[cT h1,nH,iV,tz] at e1;exact bad _ (by rw[lS];exact cT (fun h=>h1 h.2)) e1.symm
   ·have fI:L[i].kids.length≠0:=fun e=>hk (ou e);rw[an (by omega),tz] at e1;exact bad _ (by rw[lS];exact cT (fun h=>hk h.1)) e1.symm
  ·have lS:nW ar L i L[i]=(decide (0<=L[i].var/\L[i].var < ar.length/\L[i].leaf=0/\(L[i].kids.length:Int)=ar.getD L[i].var.toNat 0) && L[i].kids.all (pk L i L[i].var)):=by unfold nW;rw[aj hv]
   rw[aj hv,aa,ld0,aa,bc,aa,aA] at e1
   by_cases h1:L[i].var < 0
   ·rw[an h1,tz] at e1;exact bad _ (by rw[lS,cT (by omega),lY]) e1.symm
   ·rw[aj h1,aa,ld0,aa,iI,aa,kK,aa,aA] at e1
    by_cases h2:L[i].var≥ar.length
    ·rw[an h2,tz] at e1;exact bad _ (by rw[lS,cT (by omega),lY]) e1.symm
    ·rw[aj h2,cJ,aa,ld2,aa,gZ,aa,aA] at e1
     by_cases h3:L[i].leaf=0
     ·obtain ⟨v,nB⟩:=oW (by omega:0<=L[i].var);have fZ:v < ar.length:=by omega
      have oJ:ar.getD v 0=ar[v]:=by rw[aT,bM fZ,eh]
      have hiv:aF none (IA za oa ar) (.int .i64 L[i].var)=some (.vptr [.int .i64 ar[v]]):=by rw[nB];exact jY fZ
      rw[aj (by simpa using h3),cJ,aa,ld1,aa,iI,aa,aa,ld0,aa,hiv,aa,gy,aa,gZ,aa,aA] at e1
      by_cases h4:(L[i].kids.length:Int)=ar[v]
      ·have hd:decide (0<=L[i].var/\L[i].var < ar.length/\L[i].leaf=0/\(L[i].kids.length:Int)=ar.getD L[i].var.toNat 0)=true:=eE ⟨by omega,by omega,h3,by rw[nB,cH,oJ];exact h4⟩;rw[aj (by simpa using h4),aa,ld1,aa,iI,aa] at e1;have rJ:L[i].kids.length<=100000:=by have:=hx _ (bI fZ);omega
       have w:=TE (za:=za) (zl:=zl) (z:=L[i].z) (zr:=z) (oa:=oa) (ol:=ol) (o:=L[i].o) (orr:=o) (ar:=ar) hi hl rJ gq Er (RL zl ol L) (.int .i64 L.length) (.int .i64 i) L[i].kids.length 0 (by omega);have w:xZ (IA za oa ar) (RL zl ol L) (.int .i64 i) (.ptr m.length 0) (RL zl ol L) (.int .i64 L.length) (.int .i64 i) (IA L[i].z L[i].o L[i].kids) (.int .i64 L[i].kids.length) (.int .i64 0) m4 (Aj (tw (aE ae.P f107.results.toList)))=_:=w;rw[w,jI] at e1
       by_cases h5:L[i].kids.all (pk L i L[i].var)=true
       ·rw[an h5,Qx,cr (by omega),aa] at e1;exact good (by rw[lS,hd,h5];rfl) e1.symm
       ·rw[aj h5] at e1;exact bad _ (by rw[lS];simp only[Bool.not_eq_true] at h5;rw[h5,Bool.and_false]) e1.symm
      ·rw[an (by simpa using h4),tz] at e1;exact bad _ (by rw[lS,cT (fun h=>h4 (by have:=h.2.2.2;rw[nB,cH,oJ] at this;exact this)),lY]) e1.symm
     ·rw[an (by simpa using h3),tz] at e1;exact bad _ (by rw[lS,cT (fun h=>h3 h.2.2.1),lY]) e1.symm
theorem V65 (za zl:Bool) (oa ol:Own) (ar:List Int) (L:List RN) (hl:L.length<=100000) (hx:∀ a∈ar,1<=a/\a<=64):AP ae 107 [IA za oa ar,RL zl ol L]=some (.bool (qn ar L L.length 0)):=by
 obtain ⟨m',e⟩:=TD (za:=za) (zl:=zl) (z:=za) (oa:=oa) (ol:=ol) (o:=oa) (ar:=ar) hl hx L.length 0 [] (by omega) (fun k h=>by omega);refine iw (m:=m') (v:=.bool (qn ar L L.length 0)) (l:=[]) ?_ rfl rfl;rw[Sz,EK,aa];exact e
theorem qoM (za zl:Bool) (oa ol:Own) (ar:List Int) (L:List RN) (hl:L.length<=100000) (hx:∀ a∈ar,1<=a/\a<=64) (d:Option Nat) (m:af):aC (AP ae) d m 107 [IA za oa ar,RL zl ol L]=some (.bool (qn ar L L.length 0),m):=by
 rw[fe (mc za oa ar) (qlJ zl ol L),V65 _ _ _ _ ar L hl hx];rfl
end Go.Ab
namespace Go.Ab
open Go.Proofs Go.Proofs.Tryz
theorem qlX {l r:List ND} {id:Nat} (h:id < l.length):(l++r).getD id ⟨0,[],0⟩=l.getD id ⟨0,[],0⟩:=by
 rw[aT,nK h,<- aT]
def wz (ar:List Int) (l:List ND) (id:Nat):Int:=fE ar.length (l.getD id ⟨0,[],0⟩)
theorem TQ {ar:List Int} {l r:List ND} {id:Nat} (h:id < l.length):wz ar (l++r) id=wz ar l id:=by unfold wz;rw[qlX h]
theorem DC {ar:List Int} {l:List ND} {id:Nat} (h:id < l.length):wz ar l id=fE ar.length l[id]:=by unfold wz;rw[jr h]
section
variable {m:af} {s:Nat} {F:List Nat} {arms:AV} {most:Int} {l:List ND}
theorem qic {ar:List Int} {l:List ND} (g:GoodL ar l) {i:Nat} (hi:i < l.length):0<=wz ar l i/\wz ar l i<=ar.length:=by
 rw[DC hi];unfold fE
 split
 ·have:=(g.var i hi (by omega)).1;omega
 ·omega
theorem qaD {g:Nat} {caps:List AV} {Q:Int->List ND->Prop} (h:c9 m s F arms most l) (h1:((ae.lib g).isNone && (ae.libm g).isNone)=true) (h2:ae.inl 84 g=true) (h3:ae.thaw 84 g=false)
  (hc:∀ m1,Fr m m1 []->∃ m' F' id l',AC ae g caps m1=some (.int .i64 id,m')/\Q id l'/\c9 m' s F' arms most l'/\Fr m1 m' F/\Gr m1 F F') :
  ∃ m' F' id l',AC ae 84 [.ptr s 0,.fn g caps] m=some (.tup [.int .i64 id,.int .i64 0],m')/\Q id l'/\c9 m' s F' arms most l'/\Fr m m' F/\Gr m F F':=by
 have hlt:=h.lt;obtain ⟨p,na,T,h,rfl⟩:=h;have hs:=h.hs;have mQ:=bC hs
 have hlen:aK false na=some (.int .i64 l.length):=by
  cases h.hn with
  | none=>rfl
  | some t l ht=>rw[pn,cg]
 obtain ⟨m2,F2,id,l',e2,hQ,k1,k2,k3⟩:=hc (List.set (((m++[some (Ent.obj true [.ptr s 0])])++[some (Ent.obj true [.int .i64 0])])++[some (Ent.obj true [.int .i64 0])]++[some (Ent.obj true [.int .i64 0])]) (m.length+1+1+1) (some (Ent.obj true [.int .i64 l.length]))) (((((Fr.app m _ _).snoc _).snoc _).snoc _).set _ (.inr (by omega)));have len2:=k2.len;simp only[a8,aI,aL,aQ] at len2
 have g1:af.get m2 (m.length+1)=some (Ent.obj true [.int .i64 0]):=by
  rw[k2.get _ (by simp) (fun hx=>by have:=hlt _ hx;omega)];exact (by simp (disch:=(first | assumption | omega | (simp only[aI,a8,aL,aQ];first | done | omega))) only[gR,bU,bG,cw,cL];first | done | rfl)
 have g2:af.get m2 (m.length+2)=some (Ent.obj true [.int .i64 0]):=by
  rw[k2.get _ (by simp) (fun hx=>by have:=hlt _ hx;omega)];exact (by simp (disch:=(first | assumption | omega | (simp only[aI,a8,aL,aQ];first | done | omega))) only[gR,bU,bG,cw,cL];first | done | rfl)
 have e:AC ae 84 [.ptr s 0,.fn g caps] m=some (.tup [.int .i64 id,.int .i64 0],(m2.set (m.length+1) (some (Ent.obj true [.int .i64 id]))).set (m.length+1+1) (some (Ent.obj true [.int .i64 0]))):=by
  rw[SP]
  repeat ((with_reducible (first | apply bs | apply dn));(focus (first | (simp (disch:=(first | assumption | omega | (simp only[aI,a8,aL,aQ];first | done | omega))) only[dj,beq_self_eq_true,cK,aa,Sh.size,bz,bJ,Nat.reduceAdd,Nat.reduceLeDiff,aR,hs,hlen,oZ];first | done | rfl) | rfl));try dsimp only)
  rw[bQ,tK h1 h2 h3,e2,aa];dsimp only
  repeat ((with_reducible (first | apply bs | apply dn));(focus (first | (simp (disch:=(first | assumption | omega | (simp only[aI,a8,aL,aQ];first | done | omega))) only[dj,beq_self_eq_true,cK,aa,Sh.size,bz,bJ,Nat.reduceAdd,Nat.reduceLeDiff,aR,g1,g2];first | done | rfl) | rfl));try dsimp only)
 refine ⟨_,F2,id,l',e,hQ,?_,?_,?_⟩
 ·refine k1.move fun x hx=>?_
  have hx2:x≠m.length+1/\x≠m.length+1+1:=by
   rcases k3 x hx with h | h
   ·have:=hlt x h;omega
   ·simp only[a8,aI,aL,aQ] at h;omega
  rw[cw hx2.2,cw hx2.1]
 ·have f1:Fr m m2 (s::p::T):=Fr.trans (((((Fr.app m _ _).snoc _).snoc _).snoc _).set _ (.inr (by omega))) k2 fun x hx=>.inl hx;exact (f1.set _ (.inr (by omega))).set _ (.inr (by omega))
 ·intro x hx
  rcases k3 x hx with h | h
  ·exact .inl h
  ·simp only[a8,aI,aL,aQ] at h;exact .inr (by omega)
end
end Go.Ab
namespace Go.Ab
def wI (L:List RN) (y:Nat->Nat):Nat->Nat->Int
 | 0,_=>0
 | n+1,i=>if (L.getD i dC).var=-1 then (L.getD i dC).leaf else wI L y n ((L.getD i dC).kids.getD (y (L.getD i dC).var.toNat) 0).toNat
def EV (L:List RN) (y:Nat->Nat) (i:Nat):Int:=wI L y (i+1) i
def qE (ar:List Int) (L:List RN):Prop:=∀ i,i < L.length->nW ar L i (L.getD i dC)=true
theorem Yi {ar:List Int} {L:List RN}:∀ (j i:Nat),i+j=L.length->qn ar L j i=true->0 < L.length/\∀ k,i<=k->k < L.length->nW ar L k (L.getD k dC)=true
 | 0,i,h,ho=>⟨by simpa [qn] using ho,fun k h1 h2=>by omega⟩
 | j+1,i,h,ho=>by
  rw[qn,cn] at ho;obtain ⟨h1,h2⟩:=Yi j (i+1) (by omega) ho.2;refine ⟨h1,fun k hk1 lO=>?_⟩
  by_cases jA:k=i
  ·rw[jA];exact ho.1
  ·exact h2 k (by omega) lO
section
variable {ar:List Int} {L:List RN}
theorem qpw (h:qE ar L) {i:Nat} (hi:i < L.length) (hv:(L.getD i dC).var=-1):(L.getD i dC).kids=[]/\0<=(L.getD i dC).leaf/\(L.getD i dC).leaf<=2147483647:=by
 have:=h i hi;unfold nW at this;rw[an hv] at this;simpa using this
theorem PH (h:qE ar L) {i:Nat} (hi:i < L.length) (hv:(L.getD i dC).var≠-1):∃ v:Nat,(L.getD i dC).var=v/\v < ar.length/\((L.getD i dC).kids.length:Int)=ar.getD v 0/\∀ k∈(L.getD i dC).kids,∃ t:Nat,k=t/\t < i/\((L.getD t dC).var=-1\/(v:Int) < (L.getD t dC).var):=by
 have:=h i hi;unfold nW at this;rw[aj hv] at this;simp only[cn,pJ,gJ] at this;obtain ⟨⟨h1,h2,h3,h4⟩,h5⟩:=this;obtain ⟨v,nB⟩:=oW h1;rw[nB,cH] at h4;refine ⟨v,nB,by omega,h4,fun k hk=>?_⟩;have:=h5 k hk;unfold pk at this;simp only[cn,pJ] at this;obtain ⟨t,rfl⟩:=oW this.1.1;rw[cH,nB] at this;exact ⟨t,rfl,by omega,this.2⟩
theorem Zr (h:qE ar L) {i:Nat} (hi:i < L.length) (hv:(L.getD i dC).var≠-1) {y:Nat->Nat} (hy:je ar y):∃ v t:Nat,(L.getD i dC).var=v/\v < ar.length/\(L.getD i dC).kids.getD (y v) 0=t/\t < i/\y v < (L.getD i dC).kids.length:=by
 obtain ⟨v,nB,fZ,hl,hk⟩:=PH h hi hv;have zi:=hy v fZ;have hlt:y v < (L.getD i dC).kids.length:=by omega
 obtain ⟨t,e,ht,_⟩:=hk _ (bI hlt);exact ⟨v,t,nB,fZ,by rw[aT,bM hlt,eh,e],ht,hlt⟩
theorem UY (h:qE ar L) {y:Nat->Nat} (hy:je ar y):∀ (n i m:Nat),i < L.length->i < n->i < m->wI L y n i=wI L y m i
 | 0,i,m,_,h,_=>by omega
 | n+1,i,0,_,_,h=>by omega
 | n+1,i,m+1,hi,_,_=>by
  rw[wI,wI]
  by_cases hv:(L.getD i dC).var=-1
  ·rw[an hv,an hv]
  ·rw[aj hv,aj hv];obtain ⟨v,t,nB,fZ,e,ht,_⟩:=Zr h hi hv hy;rw[nB,cH,e,cH];exact UY h hy n t m (by omega) (by omega) (by omega)
theorem qaH {y:Nat->Nat} {i:Nat} (hv:(L.getD i dC).var=-1):EV L y i=(L.getD i dC).leaf:=by
 unfold EV;rw[wI,an hv]
theorem qaI (h:qE ar L) {y:Nat->Nat} (hy:je ar y) {i:Nat} (hi:i < L.length) {v:Nat} (hv:(L.getD i dC).var=v):EV L y i=EV L y ((L.getD i dC).kids.getD (y v) 0).toNat:=by
 have hne:(L.getD i dC).var≠-1:=by omega
 obtain ⟨v',t,nB,fZ,e,ht,_⟩:=Zr h hi hne hy;have:v'=v:=by omega
 subst this;unfold EV;rw[wI,aj hne,nB,cH,e,cH];exact UY h hy i t (t+1) (by omega) ht (by omega)
def zS (p:List ND×List Nat) (x:RN):List ND×List Nat:=
 if x.var < 0 then (jg p.1 (iH x.leaf),p.2++[p.1.idxOf (iH x.leaf)])
 else ((nV p.1 x.var ((x.kids.map fun k=>p.2.getD k.toNat 0).map Int.ofNat)).2,p.2++[(nV p.1 x.var ((x.kids.map fun k=>p.2.getD k.toNat 0).map Int.ofNat)).1.toNat])
def mq (L:List RN) (l:List ND) (i:Nat):List ND×List Nat:=(L.take i).foldl zS (l,[])
theorem Jb {l:List ND} {i:Nat} (hi:i < L.length):mq L l (i+1)=zS (mq L l i) (L.getD i dC):=by
 unfold mq;rw[oC hi,List.foldl_append,aT,bM hi]
 rfl
def Js (a:Nat) (x:RN):Int:=if x.var=-1 then a else x.var
structure LI (ar:List Int) (L:List RN) (l0:List ND) (i:Nat) (l:List ND) (ids:List Nat):Prop where
 g:GoodL ar l
 len:ids.length=i
 gr:∃ r,l=l0++r/\r.length<=i
 at_:∀ k,k < i->ids.getD k 0 < l.length/\Js ar.length (L.getD k dC)<=wz ar l (ids.getD k 0)/\∀ y,je ar y->S l y (ids.getD k 0)=EV L y k
theorem XD (h:qE ar L) (h1:∀ x∈ar,1<=x/\x<=64) (fV:ar.length<=16) {l0 l:List ND} {ids:List Nat} {i:Nat} (hi:i < L.length) (I:LI ar L l0 i l ids) (hl:l.length<=100000) (hv:¬ (L.getD i dC).var < 0) :
  ∃ r id,nV l (L.getD i dC).var (((L.getD i dC).kids.map fun k=>ids.getD k.toNat 0).map Int.ofNat)=(((id:Nat):Int),l++r)/\LI ar L l0 (i+1) (l++r) (ids++[id])/\(ig (L.getD i dC).var (((L.getD i dC).kids.map fun k=>ids.getD k.toNat 0).map Int.ofNat)).ok/\(L.getD i dC).kids≠[]:=by
 obtain ⟨v,nB,fZ,fI,hk⟩:=PH h hi (by omega);have mf:=h1 _ (bI fZ);have aU:ar.getD v 0=ar[v]:=by rw[aT,bM fZ,eh]
 have Br:∀ k∈(L.getD i dC).kids,∃ hh:ids.getD k.toNat 0 < l.length,(v:Int) < fE ar.length l[ids.getD k.toNat 0]:=fun k bS=>by
  obtain ⟨t,rfl,ht,hp⟩:=hk k bS;rw[cH];obtain ⟨a1,a2,_⟩:=I.at_ t ht;rw[DC a1] at a2;refine ⟨a1,?_⟩;unfold Js at a2
  split at a2
  ·omega
  ·rcases hp with hp | hp
   ·rename_i hne;exact absurd hp hne
   ·omega
 obtain ⟨r,id,e,hr,w7,g2,hid,mU,hS⟩:=Ye I.g h1 fV fZ (ks:=(L.getD i dC).kids.map fun k=>ids.getD k.toNat 0) (by rw[cg];exact fI) (fun q hq=>by
  obtain ⟨k,bS,rfl⟩:=iY.1 hq
  exact Br k bS) hl
 have Bq:(L.getD i dC).kids≠[]:=fun hh=>by
  have h0:(L.getD i dC).kids.length=0:=by rw[hh];rfl
  omega
 rw[nB]
 refine ⟨r,id,e,⟨g2,by simp[I.len],?_,fun k bS=>?_⟩,?_,Bq⟩
 ·obtain ⟨r0,e0,Bw⟩:=I.gr;exact ⟨r0++r,by rw[e0,gd],by rw[aI];omega⟩
 ·by_cases jA:k < i
  ·obtain ⟨a1,a2,a3⟩:=I.at_ k jA
   have e1:(ids++[id]).getD k 0=ids.getD k 0:=by
    rw[aT,nK (by rw[I.len];exact jA),<- aT]
   rw[e1];refine ⟨by rw[aI];omega,by rw[TQ a1];exact a2,fun y hy=>by rw[HE I.g r hy _ a1];exact a3 y hy⟩
  ·have:k=i:=by omega
   subst this
   have e1:(ids++[id]).getD k 0=id:=by
    rw[aT,sa (by rw[I.len];exact aR _),I.len];simp
   rw[e1]
   refine ⟨hid,?_,fun y hy=>?_⟩
   ·rw[DC hid];unfold Js;rw[aj (by omega),nB];exact mU
   ·have zi:=hy v fZ;have hlt:y v < (L.getD k dC).kids.length:=by omega
    obtain ⟨t,et,ht,_⟩:=hk _ (bI hlt);have e2:(L.getD k dC).kids.getD (y v) 0=(t:Int):=by rw[aT,bM hlt,eh,et]
    rw[hS y hy,qaI h hy hi nB,e2,cH,aT,re,bM hlt];simp only[aS,eh,et,cH];exact (I.at_ t ht).2.2 y hy
 ·refine .inr ⟨by simp only[ig];omega,by simp only[ig];omega,rfl,fun q hq=>?_,by simp only[ig,cg];omega⟩;obtain ⟨a,ha,rfl⟩:=iY.1 hq;obtain ⟨k,bS,rfl⟩:=iY.1 ha;obtain ⟨q1,_⟩:=Br k bS;refine ⟨rY _,?_⟩;show ((ids.getD k.toNat 0:Nat):Int) < 1000000;omega
theorem Xz (h:qE ar L) {l0 l:List ND} {ids:List Nat} {i:Nat} (hi:i < L.length) (I:LI ar L l0 i l ids) (hv:(L.getD i dC).var < 0) :
  ∃ r,jg l (iH (L.getD i dC).leaf)=l++r/\LI ar L l0 (i+1) (l++r) (ids++[l.idxOf (iH (L.getD i dC).leaf)])/\0<=(L.getD i dC).leaf/\(L.getD i dC).leaf<=2147483647:=by
 have kF:(L.getD i dC).var=-1:=by
  rcases Yk (h i hi) with h | h<;>omega
 obtain ⟨_,b1,b2⟩:=qpw h hi kF;obtain ⟨r,e,hr,g2,tv⟩:=Xn I.g (x:=(L.getD i dC).leaf) ⟨b1,b2⟩
 refine ⟨r,e,⟨g2,by simp[I.len],?_,fun k bS=>?_⟩,b1,b2⟩
 ·obtain ⟨r0,e0,Bw⟩:=I.gr;exact ⟨r0++r,by rw[e0,gd],by rw[aI];omega⟩
 ·by_cases jA:k < i
  ·obtain ⟨a1,a2,a3⟩:=I.at_ k jA
   have e1:(ids++[l.idxOf (iH (L.getD i dC).leaf)]).getD k 0=ids.getD k 0:=by
    rw[aT,nK (by rw[I.len];exact jA),<- aT]
   rw[e1];refine ⟨by rw[aI];omega,by rw[TQ a1];exact a2,fun y hy=>by rw[HE I.g r hy _ a1];exact a3 y hy⟩
  ·have:k=i:=by omega
   subst this
   have e1:(ids++[l.idxOf (iH (L.getD k dC).leaf)]).getD k 0=l.idxOf (iH (L.getD k dC).leaf):=by
    rw[aT,sa (by rw[I.len];exact aR _),I.len];simp
   rw[e1]
   refine ⟨tv.lt,?_,fun y hy=>?_⟩
   ·rw[DC tv.lt];unfold Js;rw[an kF];exact tv.top tv.lt
   ·rw[tv.val y hy,qaH kF,List.drop_length];rfl
theorem BK (h:qE ar L) (h1:∀ x∈ar,1<=x/\x<=64) (fV:ar.length<=16) {l0:List ND} (g:GoodL ar l0) (hl:l0.length+L.length<=4000):∀ i,i<=L.length->LI ar L l0 i (mq L l0 i).1 (mq L l0 i).2
 | 0,_=>⟨g,rfl,⟨[],by simp[mq],by simp⟩,fun k hk=>by omega⟩
 | i+1,hi=>by
  have I:=BK h h1 fV g hl i (by omega);obtain ⟨r0,e0,Bw⟩:=I.gr;have dd:(mq L l0 i).1.length<=100000:=by rw[e0,aI];omega
  rw[Jb (by omega)];unfold zS
  by_cases hv:(L.getD i dC).var < 0
  ·rw[an hv];obtain ⟨r,e,J,_⟩:=Xz h (by omega) I hv;rw[e];exact J
  ·rw[aj hv];obtain ⟨r,id,e,J,_⟩:=XD h h1 fV (by omega) I dd hv;rw[e];exact J
end
end Go.Ab
namespace Go.Ab
noncomputable section
open Go.Proofs.Tryz
def R4 (x0 x3:AV) (m:af):St:=⟨(x0::aJ (x3::bA (bw (aX (aO []))))),m⟩
def ya (x0 x1 x3 aN aV aW:AV) (m:af) (K:KT):OM:=bX 108 (b6 (c2 (c2 (aB f108)))) 3 (x0::x1::aG (x3::aX (aN::aV::aW::bA (bw (aG []))))) m K
def KZ (x0 x1 x3 x4 x5 x6 aN aV aW:AV) (m:af):St:=⟨(x0::x1::aG (x3::x4::x5::x6::aO (aG (aN::aV::aW::bA (bw (aG [])))))),m⟩
def CJ (x0 x1 x3 x4 x5 x6 aN aV aW FE tq nG:AV) (m:af) (K:KT):OM:=bX 108 (b6 (lE (A4 (np (c2 (aB f108)))))) 9 (x0::x1::aG (x3::x4::x5::x6::aO (aG (aN::aV::aW::bw (aJ (aG (FE::tq::nG::bw (aX (aJ (aG [])))))))))) m K
abbrev qaR (K:KT):KT:=bF 108 (c2 (c2 (c2 (aB f108)))) K
abbrev qaS (K:KT):KT:=bu 0 (qaR K)
abbrev xW (K:KT):KT:=(qaS K)
abbrev qaU (K:KT):KT:=bF 108 (lE (np (c2 (aB f108)))) (nY 108 (b6 (c2 (c2 (aB f108)))) 3 K)
abbrev qaV (K:KT):KT:=bu 1 (qaU K)
abbrev qaW (K:KT):KT:=bF 108 (bm (tO (b6 (c2 (c2 (aB f108)))))) (qaV K)
abbrev qaX (K:KT):KT:=bu 2 (qaW K)
abbrev Cz (K:KT):KT:=(qaX K)
theorem qgj (a0 a1:AV) (m:af):AC ae 108 [a0,a1] m=(ai none m a0).bind fun v1=>(aK false v1).bind fun v2=>(jc none 3 none (.int .i64 0) 8 m v2 v2).bind fun r3=>(ai none r3.2 a0).bind fun v4=>(aK false v4).bind fun v5=>ya a0 a1 r3.1 v4 v5 (.int .i64 0) r3.2 (xW (aE ae.P f108.results.toList)):=
(bj ae 108 [a0,a1] m (fn:=f108) (c:=aB f108) qiE rfl).trans (by kernel_rfl)
theorem QL (x0 x1 x3 aN aV aW:AV) (m:af) (K:KT):ya x0 x1 x3 aN aV aW m K=(ag .other .lss aW aV).bind fun v1=>aw v1 ((aF (some 3) aN aW).bind fun v2=>(ai (some 3) m v2).bind fun v3=>(aM (some 3) (az none m (.obj true [(.int .i64 0),aq,(.int .i64 0)])).2 (.ptr (az none m .resv).1 0) v3).bind fun m4=>(aP 0 (.ptr (az none m .resv).1 0)).bind fun v5=>(ai none m4 v5).bind fun v6=>(ag .other .lss v6 (.int .i64 0)).bind fun v7=>aw v7 ((ai none m4 x1).bind fun v8=>(aP 2 (.ptr (az none m .resv).1 0)).bind fun v9=>(ai none m4 v9).bind fun v10=>(AC ae 96 [v8,v10] m4).bind fun jE=>(aF none x3 aW).bind fun v12=>(aM none jE.2 v12 jE.1).bind fun m13=>(ag .other .add aW (.int .i64 1)).bind fun bg=>ya x0 x1 x3 aN aV bg m13 K) ((aP 1 (.ptr (az none m .resv).1 0)).bind fun bo=>(ai none m4 bo).bind fun bL=>(aK false bL).bind fun bD=>(jc none 3 none (.int .i64 0) 8 m4 bD bD).bind fun gQ=>(aP 1 (.ptr (az none m .resv).1 0)).bind fun c8=>(ai none gQ.2 c8).bind fun v20=>(aK false v20).bind fun v21=>CJ x0 x1 x3 aW (.ptr (az none m .resv).1 0) gQ.1 aN aV aW v20 v21 (.int .i64 0) gQ.2 (Cz K))) (K (.exit 0) (R4 x0 x3 m)):=
(bW (bP _) _ _ _).trans (by kernel_rfl)
theorem QM (x0 x1 x3 x4 x5 x6 aN aV aW FE tq nG:AV) (m:af) (K:KT):CJ x0 x1 x3 x4 x5 x6 aN aV aW FE tq nG m K=(ag .other .lss nG tq).bind fun v1=>aw v1 ((aF none FE nG).bind fun v2=>(ai none m v2).bind fun v3=>(aF none x3 v3).bind fun v4=>(ai none m v4).bind fun v5=>(aF none x6 nG).bind fun v6=>(aM none m v6 v5).bind fun m7=>(ag .other .add nG (.int .i64 1)).bind fun v8=>CJ x0 x1 x3 x4 x5 x6 aN aV aW FE tq v8 m7 K) (K (.exit 2) (KZ x0 x1 x3 x4 x5 x6 aN aV aW m)):=
(bW (bP _) _ _ _).trans (by kernel_rfl)
theorem qaT (x0 x3:AV) (m:af):xW (aE ae.P f108.results.toList) (.exit 0) (R4 x0 x3 m)=(ai none m x0).bind fun v1=>(aK false v1).bind fun v2=>(ag .other .sub v2 (.int .i64 1)).bind fun v3=>(aF none x3 v3).bind fun v4=>(ai none m v4).bind fun v5=>some (v5,m):=by kernel_rfl
theorem qaY (x0 x1 x3 x4 x5 x6 aN aV aW:AV) (m:af) (K:KT):Cz K (.exit 2) (KZ x0 x1 x3 x4 x5 x6 aN aV aW m)=(ai none m x1).bind fun v1=>(aP 0 x5).bind fun v2=>(ai none m v2).bind fun v3=>(yG (AC ae) m 99 [v1,v3,x6]).bind fun r4=>(aF none x3 x4).bind fun v5=>(aM none r4.2 v5 r4.1).bind fun m6=>(ag .other .add aW (.int .i64 1)).bind fun v7=>ya x0 x1 x3 aN aV v7 m6 K:=by kernel_rfl
end
end Go.Ab
namespace Go.Ab
open Go.Proofs Go.Proofs.Tryz
def ja (ids:List Nat) (n:Nat):List Int:=ids.map Int.ofNat++List.replicate (n - ids.length) 0
theorem DR {ids:List Nat} {n:Nat} (h:ids.length<=n):(ja ids n).length=n:=by unfold ja;simp;omega
theorem MH {ids:List Nat} {n:Nat} (h:ids.length < n) (id:Nat):(ja ids n).set ids.length (id:Int)=ja (ids++[id]) n:=by
 unfold ja;obtain ⟨k,hk⟩:∃ k,n - ids.length=k+1:=⟨n - ids.length - 1,by omega⟩;have e2:n - (ids++[id]).length=k:=by simp;omega
 rw[hk,e2,sg _ _ (by simp),lA,gd];simp[yf]
theorem UM {ids:List Nat} {n t:Nat} (h:t < ids.length):(ja ids n).getD t 0=((ids.getD t 0:Nat):Int):=by
 unfold ja;rw[aT,nK (by simpa using h),re,aT,bM h];rfl
theorem qlc {ids:List Nat}:ja ids ids.length=ids.map Int.ofNat:=by unfold ja;simp
theorem Xk {m:af} {nm i:Nat} {ds:List Int} (h:m.get nm=some (.obj false (ds.map (AV.int .i64)))) (hi:i < ds.length):ai none m (.ptr nm i)=some (.int .i64 (ds.getD i 0)):=by
 rw[bV,h,kh,aa,uZ,re,bM hi,aT,bM hi];rfl
theorem XK (m:af) (n:Nat) (h:n<=100000):jc none 3 none (.int .i64 0) 8 m (.int .i64 n) (.int .i64 n)=some (.arr m.length 0 n none,m++[some (Ent.obj false ((ja [] n).map (AV.int .i64)))]):=by
 have h3:(n:Int) * 8<=281474976710656:=by omega
 have h4:(n:Int)<=9223372036854775807:=by omega
 have h5:(0:Int)<=n:=by omega
 simp only[jc,az,rU,q8,bz,cH];rw[an ⟨h5,trivial,h3,h4⟩];simp[ja]
theorem qnC (m:af) (k:Nat):Fr m (jN m [k]) [k]:=⟨by rw[BI];exact aR _,fun x _ hx=>by rw[kO,aj hx]⟩
section
variable {s b1 b2 nm:Nat} {F0:List Nat} {arms:AV} {ar:List Int} {L:List RN} {zl:Bool} {ol:Own} {l0:List ND}
theorem qh0 {kids:List Int} {ids:List Nat} {z:Bool} {o:Own} {kq n:Nat} {m1:af} (sM:kq≠nm) (vk:ids.length<=n) (hk:∀ k∈kids,∃ t:Nat,k=t/\t < ids.length) (fI:kids.length<=1000) (hkq:kq < m1.length) (qf:nm < m1.length) (vh:m1.get nm=some (.obj false ((ja ids n).map (AV.int .i64)))) (x0 x1 x4 x5 aN aV aW:AV) (K:KT):∀ (j c:Nat) (m:af),c+j=kids.length->Fr m1 m [kq]->m.get kq=some (.obj false ((ja ((kids.take c).map fun k=>ids.getD k.toNat 0) kids.length).map (AV.int .i64))) ->
  ∃ m',CJ x0 x1 (.arr nm 0 n none) x4 x5 (.arr kq 0 kids.length none) aN aV aW (IA z o kids) (.int .i64 kids.length) (.int .i64 c) m (Cz K)=Cz K (.exit 2) (KZ x0 x1 (.arr nm 0 n none) x4 x5 (.arr kq 0 kids.length none) aN aV aW m')/\Fr m1 m' [kq]/\m'.get kq=some (.obj false (((kids.map fun k=>ids.getD k.toNat 0).map Int.ofNat).map (AV.int .i64))):=by
 intro j
 induction j with
 | zero=>
  intro c m hc f hg
  refine ⟨m,?_,f,?_⟩
  ·rw[QM,bc,aa,aA,aj (by omega)]
  ·rw[hg,kW (by omega)];have:kids.length=(kids.map fun k=>ids.getD k.toNat 0).length:=by rw[cg]
   rw[this,qlc]
 | succ j ih=>
  intro c m hc f hg;have hcl:c < kids.length:=by omega
  obtain ⟨t,et,ht⟩:=hk _ (bI hcl);have Eg:m.get nm=some (.obj false ((ja ids n).map (AV.int .i64))):=(f.get nm qf (by simpa using fun e=>sM e.symm)).trans vh;have qms:=bC hg;have ld:=Xk Eg (i:=t) (by rw[DR vk];omega);rw[UM ht] at ld;have gE:((kids.take c).map fun k=>ids.getD k.toNat 0).length=c:=by rw[cg,jV];omega
  have st:=PR (y:=((ids.getD t 0:Nat):Int)) hg (i:=c) (by rw[DR (by omega)];omega)
  have e1:(ja ((kids.take c).map fun k=>ids.getD k.toNat 0) kids.length).set c ((ids.getD t 0:Nat):Int)=ja ((kids.take (c+1)).map fun k=>ids.getD k.toNat 0) kids.length:=by
   have:=MH (ids:=(kids.take c).map fun k=>ids.getD k.toNat 0) (n:=kids.length) (by omega) (ids.getD t 0);rw[gE] at this;rw[this,oC hcl,lA,et];rfl
  rw[e1] at st;obtain ⟨m',e,k⟩:=ih (c+1) _ (by omega) (f.set _ (.inl (by simp))) (cL rfl qms);refine ⟨m',?_,k⟩;rw[QM,bc,aa,aA,an (by omega),jY hcl,aa,gy,aa,et,ga (by omega),aa,ld,aa,ga hcl,aa,st,aa,cr (by omega),aa];exact e
theorem W66 (h:qE ar L) (h1:∀ x∈ar,1<=x/\x<=64) (fV:ar.length<=16) (g0:GoodL ar l0) (hl:l0.length+L.length < 4000) (hL:0 < L.length) {m0:af} (qf:m0.length<=nm) (hb1:b1 < m0.length) (hb2:b2 < m0.length) (ql2:b1∉F0) (ql3:b2∉F0) (hF0:∀ y∈F0,y < m0.length) (vh:m0.get b1=some (.obj true [RL zl ol L])) (pN:m0.get b2=some (.obj true [.ptr s 0])) :
  ∀ (j i:Nat) (m:af) (F:List Nat),i+j=L.length->c9 m s F arms 4000 (mq L l0 i).1->m.get nm=some (.obj false ((ja (mq L l0 i).2 L.length).map (AV.int .i64)))->nm∉F->Fr m0 m F0->Gr m0 F0 F ->
   ∃ m' F',ya (.ptr b1 0) (.ptr b2 0) (.arr nm 0 L.length none) (RL zl ol L) (.int .i64 L.length) (.int .i64 i) m (xW (aE ae.P f108.results.toList))=some (.int .i64 ((mq L l0 L.length).2.getD (L.length - 1) 0:Nat),m')/\c9 m' s F' arms 4000 (mq L l0 L.length).1/\Fr m0 m' F0/\Gr m0 F0 F':=by
 intro j
 induction j with
 | zero=>
  intro i m F hi st hg y2 f gr;obtain rfl:i=L.length:=by omega
  have I:=BK h h1 fV g0 (by omega) L.length (aR _);refine ⟨m,F,?_,st,f,gr⟩;have gb1:m.get b1=some (.obj true [RL zl ol L]):=(f.get b1 hb1 ql2).trans vh;have hlt:=I.len;have ld:=Xk hg (i:=L.length - 1) (by rw[DR (by omega)];omega);rw[UM (by omega)] at ld;rw[QL,bc,aa,aA,aj (by omega),qaT,mW gb1,aa,EK,aa,ph (by omega) (by omega),aa,ga (by omega),aa,ld,aa]
 | succ j ih=>
  intro i m F hi st hg y2 f gr;have cm:i < L.length:=by omega
  have I:=BK h h1 fV g0 (by omega) i (by omega);have I2:=BK h h1 fV g0 (by omega) (i+1) (by omega);have es:=Jb (l:=l0) cm;obtain ⟨r0,e0,Bw⟩:=I.gr;have dd:(mq L l0 i).1.length<=l0.length+i:=by rw[e0,aI];omega
  have rD:=I.len;generalize mq L l0 i=p at *;obtain ⟨l,ids⟩:=p;simp only at st hg I e0 dd rD;have jz:L.getD i dC=L[i]:=by rw[aT,bM cm,eh]
  have gK:=OC (z:=zl) (o:=ol) cm;have qmL:=bC hg
  have bNotF:∀ b,b < m0.length->b∉F0->b∉F:=fun b hb hbF hh=>by
   rcases gr b hh with h4 | h4
   ·exact hbF h4
   ·omega
  have sn:aM (some 3) (m++[some (Ent.obj true [.int .i64 0,aq,.int .i64 0])]) (.ptr m.length 0) (.agg [.int .i64 L[i].var,IA L[i].z L[i].o L[i].kids,.int .i64 L[i].leaf])=some (m++[some (Ent.obj true [.int .i64 L[i].var,IA L[i].z L[i].o L[i].kids,.int .i64 L[i].leaf])]):=PS rfl;have f4:Fr m (m++[some (Ent.obj true [.int .i64 L[i].var,IA L[i].z L[i].o L[i].kids,.int .i64 L[i].leaf])]) []:=Fr.app m _ _;have gq:af.get (m++[some (Ent.obj true [.int .i64 L[i].var,IA L[i].z L[i].o L[i].kids,.int .i64 L[i].leaf])]) m.length=some (Ent.obj true [.int .i64 L[i].var,IA L[i].z L[i].o L[i].kids,.int .i64 L[i].leaf]):=bG rfl;have l4:(m++[some (Ent.obj true [.int .i64 L[i].var,IA L[i].z L[i].o L[i].kids,.int .i64 L[i].leaf])]).length=m.length+1:=by simp
  generalize m++[some (Ent.obj true [.int .i64 L[i].var,IA L[i].z L[i].o L[i].kids,.int .i64 L[i].leaf])]=m4 at sn f4 gq l4;have ld0:ai none m4 (.ptr m.length (0+0))=some (.int .i64 L[i].var):=by rw[bV,gq];rfl
  have ld1:ai none m4 (.ptr m.length (0+1))=some (IA L[i].z L[i].o L[i].kids):=by rw[bV,gq];rfl
  have ld2:ai none m4 (.ptr m.length (0+2))=some (.int .i64 L[i].leaf):=by rw[bV,gq];rfl
  have fm:=f.len;have gb2:m.get b2=some (.obj true [.ptr s 0]):=(f.get b2 hb2 ql3).trans pN;have gb24:m4.get b2=some (.obj true [.ptr s 0]):=(f4.get b2 (by omega) (by simp)).trans gb2;have gn4:m4.get nm=some (.obj false ((ja ids L.length).map (AV.int .i64))):=(f4.get nm qmL (by simp)).trans hg;have f04:Fr m0 m4 F0:=Fr.trans f f4 fun _ hh=>by cases hh
  have st4:=st.app f4;have e1:ya (.ptr b1 0) (.ptr b2 0) (.arr nm 0 L.length none) (RL zl ol L) (.int .i64 L.length) (.int .i64 i) m (xW (aE ae.P f108.results.toList))=_:=QL _ _ _ _ _ _ m _;rw[bc,aa,aA,an (by omega),gK,aa,vF,aa,mX,mX] at e1;dsimp only at e1;rw[sn,aa,cJ,aa,ld0,aa,bc,aa,aA] at e1;unfold zS at es;rw[jz] at es;dsimp only at es
  by_cases hv:L[i].var < 0
  ·rw[an hv] at es;obtain ⟨r,er,J,bl1,bl2⟩:=Xz h cm I (by rw[jz];exact hv);rw[jz] at er J bl1 bl2;obtain ⟨m5,F5,e54,k1,k2,k3⟩:=Qk st4 (x:=L[i].leaf) ⟨bl1,bl2⟩ (by omega) (by omega);have gn5:m5.get nm=some (.obj false ((ja ids L.length).map (AV.int .i64))):=(k2.get nm (by omega) y2).trans gn4
   have Wk:nm∉F5:=fun hh=>by
    rcases k3 nm hh with h4 | h4
    ·exact y2 h4
    ·omega
   have sti:=PR (y:=((l.idxOf (iH L[i].leaf):Nat):Int)) gn5 (i:=i) (by rw[DR (by omega)];omega);have ecs:=MH (ids:=ids) (n:=L.length) (by omega) (l.idxOf (iH L[i].leaf));rw[rD] at ecs;rw[ecs] at sti;rw[an hv,mW gb24,aa,cJ,aa,ld2,aa,e54,aa,ga cm,aa,sti,aa,cr (by omega),aa] at e1;have N6:=bC gn5
   have Eh:Gr m F F5:=fun y hy=>by
    rcases k3 y hy with h4 | h4
    ·exact .inl h4
    ·exact .inr (by omega)
   obtain ⟨m',F',e,k⟩:=ih (i+1) (m5.set nm (some (.obj false ((ja (ids++[l.idxOf (iH L[i].leaf)]) L.length).map (AV.int .i64))))) F5 (by omega) (by rw[es];exact k1.move fun y hy=>cw (fun e=>Wk (e▸hy))) (by rw[es];exact cL rfl N6) Wk ((Fr.trans f04 k2 gr).set _ (.inr qf)) (Gr.trans f.len gr Eh);exact ⟨m',F',e1.trans e,k⟩
  ·rw[aj hv] at es;obtain ⟨r,id,er,J,wZ,Bq⟩:=XD h h1 fV cm I (by omega) (by rw[jz];exact hv);obtain ⟨v,nB,fZ,fI,vp⟩:=PH h cm (by rw[jz];omega);rw[jz] at er wZ Bq nB fI vp;have mf:=h1 _ (bI fZ);have aU:ar.getD v 0=ar[v]:=by rw[aT,bM fZ,eh]
   have qmr:L[i].kids.length<=1000:=by omega
   have mk:=XK m4 L[i].kids.length (by omega);have f5:Fr m4 (m4++[some (Ent.obj false ((ja [] L[i].kids.length).map (AV.int .i64)))]) []:=Fr.app m4 _ _;have gk:af.get (m4++[some (Ent.obj false ((ja [] L[i].kids.length).map (AV.int .i64)))]) m4.length=some (Ent.obj false ((ja [] L[i].kids.length).map (AV.int .i64))):=bG rfl;have l5:(m4++[some (Ent.obj false ((ja [] L[i].kids.length).map (AV.int .i64)))]).length=m4.length+1:=by simp
   generalize m4++[some (Ent.obj false ((ja [] L[i].kids.length).map (AV.int .i64)))]=m5 at mk f5 gk l5;have ld15:ai none m5 (.ptr m.length (0+1))=some (IA L[i].z L[i].o L[i].kids):=by rw[bV,f5.get _ (by omega) (by simp),gq];rfl
   have gn5:m5.get nm=some (.obj false ((ja ids L.length).map (AV.int .i64))):=(f5.get nm (by omega) (by simp)).trans gn4
   obtain ⟨m6,e9,f6,gk6⟩:=qh0 (nm:=nm) (kids:=L[i].kids) (ids:=ids) (z:=L[i].z) (o:=L[i].o) (kq:=m4.length) (n:=L.length) (m1:=m5) (by omega) (by omega) (fun k bS=>by
    obtain ⟨t,rfl,ht,_⟩:=vp k bS
    exact ⟨t,rfl,by omega⟩) qmr (by omega) (by omega) gn5 (.ptr b1 0) (.ptr b2 0) (.int .i64 i) (.ptr m.length 0) (RL zl ol L) (.int .i64 L.length) (.int .i64 i) (xW (aE ae.P f108.results.toList)) L[i].kids.length 0 m5 (by omega) (Fr.refl _ _) gk
   have e9:CJ (.ptr b1 0) (.ptr b2 0) (.arr nm 0 L.length none) (.int .i64 i) (.ptr m.length 0) (.arr m4.length 0 L[i].kids.length none) (RL zl ol L) (.int .i64 L.length) (.int .i64 i) (IA L[i].z L[i].o L[i].kids) (.int .i64 L[i].kids.length) (.int .i64 0) m5 (Cz (xW (aE ae.P f108.results.toList)))=_:=e9;have lm6:=f6.len;have g6:∀ y,y < m4.length->m6.get y=m4.get y:=fun y hy=>(f6.get y (by omega) (by simp;omega)).trans (f5.get y (by omega) (by simp));have gb26:m6.get b2=some (.obj true [.ptr s 0]):=(g6 b2 (by omega)).trans gb24;have ld06:ai none m6 (.ptr m.length (0+0))=some (.int .i64 L[i].var):=by rw[bV,g6 _ (by omega),gq];rfl
   have f7:=qnC m6 m4.length;have l7:=f7.len;have g7:∀ y,y < m4.length->af.get (jN m6 [m4.length]) y=m4.get y:=fun y hy=>(f7.get y (by omega) (by simp;omega)).trans (g6 y hy);have st7:c9 (jN m6 [m4.length]) s F arms 4000 l:=st4.move fun y hy=>g7 y (st4.lt y hy)
   have hfz:bB m6 j8 (.arr m4.length 0 L[i].kids.length none)=some (IA false .no ((L[i].kids.map fun k=>ids.getD k.toNat 0).map Int.ofNat),[m4.length]):=by
    have:=qlH gk6;rw[cg,cg] at this;exact this
   have hmf:dU (A8 m6) [.ptr s 0,.int .i64 L[i].var,.arr m4.length 0 L[i].kids.length none]=some ([.ptr s 0,.int .i64 L[i].var,IA false .no ((L[i].kids.map fun k=>ids.getD k.toNat 0).map Int.ofNat)],[m4.length]):=by
    simp[dU,A8,hfz]
   obtain ⟨m8,F8,e59,k1,k2,k3⟩:=Ql st7 (v:=L[i].var) (z:=false) (o:=.no) (ks:=(L[i].kids.map fun k=>ids.getD k.toNat 0).map Int.ofNat) (by simpa using Bq) wZ rfl (.inl rfl) (by omega) (by omega);rw[er] at e59 k1 es;dsimp only at e59 k1 es
   have hc:yG (AC ae) m6 99 [.ptr s 0,.int .i64 L[i].var,.arr m4.length 0 L[i].kids.length none]=some (.int .i64 (id:Nat),m8):=by
    unfold yG;rw[hmf,aa];exact e59
   have gn8:m8.get nm=some (.obj false ((ja ids L.length).map (AV.int .i64))):=(k2.get nm (by omega) y2).trans ((g7 nm (by omega)).trans gn4)
   have Wl:nm∉F8:=fun hh=>by
    rcases k3 nm hh with h4 | h4
    ·exact y2 h4
    ·omega
   have sti:=PR (y:=((id:Nat):Int)) gn8 (i:=i) (by rw[DR (by omega)];omega);have ecs:=MH (ids:=ids) (n:=L.length) (by omega) id;rw[rD] at ecs;rw[ecs] at sti;rw[aj hv,cJ,aa,ld1,aa,iI,aa,mk,aa,aa,ld15,aa,iI,aa,e9,qaY,mW gb26,aa,cJ,aa,ld06,aa,hc,aa,ga cm,aa,sti,aa,cr (by omega),aa] at e1;have hn8:=bC gn8
   have Eh:Gr m F F8:=fun y hy=>by
    rcases k3 y hy with h4 | h4
    ·exact .inl h4
    ·exact .inr (by omega)
   have F48:Fr m0 m8 F0:=Fr.trans (Fr.trans (Fr.trans (Fr.trans f04 f5 fun _ hh=>by cases hh) f6 fun y hy=>by
    obtain rfl:y=m4.length:=by simpa using hy
    exact .inr (by omega)) f7 fun y hy=>by
    obtain rfl:y=m4.length:=by simpa using hy
    exact .inr (by omega)) k2 gr
   obtain ⟨m',F',e,k⟩:=ih (i+1) (m8.set nm (some (.obj false ((ja (ids++[id]) L.length).map (AV.int .i64))))) F8 (by omega) (by rw[es];exact k1.move fun y hy=>cw (fun e=>Wl (e▸hy))) (by rw[es,cH];exact cL rfl hn8) Wl (F48.set _ (.inr qf)) (Gr.trans f.len gr Eh);exact ⟨m',F',e1.trans e,k⟩
end
end Go.Ab
namespace Go.Ab
open Go.Proofs Go.Proofs.Tryz
theorem qkH (sh:Sh) (z:Bool) (o:Own) (es:List AV) (m:af):cS none none m (.lst sh z o es)=some (.ptr m.length 0,m++[some (Ent.obj true [.lst sh z o es])]):=rfl
section
variable {s:Nat} {zs zl:Bool} {os ol:Own} {ar:List Int} {F:List Nat} {l0:List ND} {L:List RN}
theorem qay (h:qE ar L) (h1:∀ x∈ar,1<=x/\x<=64) (fV:ar.length<=16) (g0:GoodL ar l0) (hl:l0.length+L.length < 4000) (hL:0 < L.length) {arms:AV} {m:af} (st:c9 m s F arms 4000 l0) {b1 b2:Nat} (hF1:b1∉F) (hF2:b2∉F) (g1:m.get b1=some (.obj true [RL zl ol L])) (g2:m.get b2=some (.obj true [.ptr s 0])) :
  ∃ m' F',AC ae 108 [.ptr b1 0,.ptr b2 0] m=some (.int .i64 ((mq L l0 L.length).2.getD (L.length - 1) 0:Nat),m')/\c9 m' s F' arms 4000 (mq L l0 L.length).1/\Fr m m' F/\Gr m F F':=by
 have mk:=XK m L.length (by omega);have f1:=Fr.app m (some (Ent.obj false ((ja [] L.length).map (AV.int .i64)))) F;have hb1:=bC g1;obtain ⟨m',F',e,k⟩:=W66 (s:=s) (nm:=m.length) (arms:=arms) (zl:=zl) (ol:=ol) h h1 fV g0 hl hL (aR _) hb1 (bC g2) hF1 hF2 st.lt g1 g2 L.length 0 (m++[some (Ent.obj false ((ja [] L.length).map (AV.int .i64)))]) F (by omega) (st.app (Fr.app m _ _)) (bG rfl) (fun hh=>by have:=st.lt _ hh;omega) f1 (Gr.refl _ _);refine ⟨m',F',?_,k⟩;have e:ya (.ptr b1 0) (.ptr b2 0) (.arr m.length 0 L.length none) (RL zl ol L) (.int .i64 L.length) (.int .i64 0) (m++[some (Ent.obj false ((ja [] L.length).map (AV.int .i64)))]) (xW (aE ae.P f108.results.toList))=_:=e;rw[qgj,mW g1,aa,EK,aa,mk,aa,mW (show af.get (m++[some (Ent.obj false ((ja [] L.length).map (AV.int .i64)))]) b1=some (.obj true [RL zl ol L]) by rw[bU hb1];exact g1),aa,EK,aa];exact e
theorem qaC (h:qn ar L L.length 0=true) (h1:∀ x∈ar,1<=x/\x<=64) (fV:ar.length<=16) (g0:GoodL ar l0) (hl:l0.length+L.length < 4000) {m:af} (st:c9 m s F (IA zs os ar) 4000 l0) :
  ∃ m' F',AC ae 44 [.ptr s 0,RL zl ol L] m=some (.tup [.int .i64 ((mq L l0 L.length).2.getD (L.length - 1) 0:Nat),.int .i64 0],m')/\c9 m' s F' (IA zs os ar) 4000 (mq L l0 L.length).1/\Fr m m' F/\Gr m F F':=by
 obtain ⟨hL,vA⟩:=Yi L.length 0 (by omega) h;have vA:qE ar L:=fun i hi=>vA i (lC _) hi;have f2:Fr m ((m++[some (Ent.obj true [.ptr s 0])])++[some (Ent.obj true [RL zl ol L])]) []:=(Fr.app m _ _).snoc _;have st2:=st.app f2;have e50:=xS st2 (by omega)
 have hs:∃ na p,af.get m s=some (Ent.obj true [IA zs os ar,na,.mref p,.int .i64 4000]):=by
  obtain ⟨p,na,T,h,rfl⟩:=st;exact ⟨na,p,h.hs⟩
 obtain ⟨na,p,hs⟩:=hs;have mQ:=bC hs;have p65:=fun d m=>qoM zs zl os ol ar L (by omega) h1 d m;rw[h] at p65
 obtain ⟨m',F',id,l',e52,hQ,k1,k2,k3⟩:=qaD (g:=108) (caps:=[.ptr (m.length+1) 0,.ptr m.length 0]) (Q:=fun id l'=>id=((mq L l0 L.length).2.getD (L.length - 1) 0:Nat)/\l'=(mq L l0 L.length).1) st2 rfl rfl rfl
  (fun m1 fr=>by
   obtain ⟨m',F',e,k1,k2,k3⟩:=qay (zl:=zl) (ol:=ol) vA h1 fV g0 hl hL (st2.app fr) (b1:=m.length+1) (b2:=m.length) (fun hh=>by have:=st.lt _ hh;omega) (fun hh=>by have:=st.lt _ hh;omega) (by rw[fr.get _ (by simp) (by simp)];exact (by simp (disch:=(first | assumption | omega | (simp only[aI,a8,aL,aQ];first | done | omega))) only[gR,bU,bG,cw,cL];first | done | rfl)) (by rw[fr.get _ (by simp) (by simp)];exact (by simp (disch:=(first | assumption | omega | (simp only[aI,a8,aL,aQ];first | done | omega))) only[gR,bU,bG,cw,cL];first | done | rfl))
   exact ⟨m',F',_,_,e,⟨rfl,rfl⟩,k1,k2,k3⟩)
 obtain ⟨rfl,rfl⟩:=hQ;refine ⟨m',F',?_,k1,Fr.trans (f2.mono (by simp)) k2 fun y hy=>.inl hy,Gr.trans f2.len (Gr.refl _ _) k3⟩;rw[T44]
 repeat ((with_reducible (first | apply bs | apply dn));(focus (first | (simp (disch:=(first | assumption | omega | (simp only[aI,a8,aL,aQ];first | done | omega))) only[dj,beq_self_eq_true,cK,aa,Sh.size,bz,bJ,Nat.reduceAdd,Nat.reduceLeDiff,aR,oZ,qkH,e50];first | done | rfl) | rfl));try dsimp only)
 rw[gO]
 repeat ((with_reducible (first | apply bs | apply dn));(focus (first | (simp (disch:=(first | assumption | omega | (simp only[aI,a8,aL,aQ];first | done | omega))) only[dj,beq_self_eq_true,cK,aa,Sh.size,bz,bJ,Nat.reduceAdd,Nat.reduceLeDiff,aR,hs,p65];first | done | rfl) | rfl));try dsimp only)
 rw[jU,gO]
 repeat ((with_reducible (first | apply bs | apply dn));(focus (first | (simp (disch:=(first | assumption | omega | (simp only[aI,a8,aL,aQ];first | done | omega))) only[dj,beq_self_eq_true,cK,aa,Sh.size,bz,bJ,Nat.reduceAdd,Nat.reduceLeDiff,aR,e52];first | done | rfl) | rfl));try dsimp only)
end
end Go.Ab
namespace Go.Ab
open Go.Proofs Go.Proofs.Tryz
inductive GS (e:Nat) (m:af):AV->List AV->List Nat->Prop
 | none:GS e m aq [] []
 | some (t:Nat) (es:List AV) (ht:m.get t=some (.tok es.length 3)) (hne:es≠[]):GS e m (.lst (some 3) false (.tok t e) es) es [t]
end Go.Ab
namespace Go.Ab
open Go.Proofs Go.Proofs.Tryz
def ll (n:ND):RN:=⟨n.var,kz n,ko n,n.kids,n.leaf⟩
theorem qqe {n:ND} (h:n.ok):(ll n).av=n.av:=by
 unfold ND.av;rw[uj h];rfl
theorem qf3 {z:Bool} {o:Own} {P:List ND} (h:∀ n∈P,n.ok):NL z o P=RL z o (P.map ll):=by
 have:(P.map ll).map RN.av=P.map ND.av:=by
  rw[tE];exact List.map_congr_left fun n hn=>qqe (h n hn)
 rw[RL,this]
section
variable {ar:List Int} {l:List ND}
theorem Hu {P:List ND} {i:Nat} (hi:i < P.length):(P.map ll).getD i dC=ll P[i]:=by
 rw[aT,re,bM hi];rfl
theorem Yj {L:List RN} (h:qE ar L) (hL:0 < L.length):∀ (j i:Nat),i+j=L.length->qn ar L j i=true
 | 0,i,_=>eE hL
 | j+1,i,hi=>by rw[qn,h i (by omega),Yj h hL j (i+1) (by omega)];rfl
theorem BN {out:List Nat} {i:Nat} (hi:i < out.length):(dD l out)[i]'(by unfold dD;rw[cg];exact hi)=nd l out out[i]:=by
 unfold dD;rw[tD]
theorem DO {out:List Nat} (hc:Cl l out) {i:Nat} (hi:i < out.length) (hj:out[i] < l.length) {k:Int} (hk:k∈l[out[i]].kids):out.idxOf k.toNat < i/\out[out.idxOf k.toNat]?=some k.toNat:=by
 have h1:=hc.cl i hi hj k hk;have h2:(out.take i).idxOf k.toNat < (out.take i).length:=List.idxOf_lt_length_of_mem h1
 have h3:out.idxOf k.toNat=(out.take i).idxOf k.toNat:=by
  conv=>lhs;rw[<- oB i out]
  rw[List.idxOf_append,an h1]
 have h4:out.idxOf k.toNat < i:=by rw[h3];rw[jV] at h2;omega
 have h5:out.idxOf k.toNat < out.length:=by omega
 exact ⟨h4,by rw[bM h5,List.getElem_idxOf]⟩
theorem qga (g:GoodL ar l) {out:List Nat} (hc:Cl l out):qE ar ((dD l out).map ll):=by
 intro i hi;have lP:((dD l out).map ll).length=out.length:=by unfold dD;rw[cg,cg]
 have kd:i < out.length:=by omega
 have vm:i < (dD l out).length:=by unfold dD;rw[cg];exact kd
 have hj:=hc.lt _ (bI kd);rw[Hu vm,BN kd]
 have hnd:ll (nd l out out[i])=⟨l[out[i]].var,kz (nd l out out[i]),ko (nd l out out[i]),l[out[i]].kids.map (fun k=>((out.idxOf k.toNat:Nat):Int)),l[out[i]].leaf⟩:=by
  unfold ll nd;rw[jr hj]
 have bf:=g.ok _ (bI hj);unfold nW;rw[hnd]
 by_cases hv:l[out[i]].var < 0
 ·rcases bf with ⟨a1,a2,a3⟩ | ⟨a1,_⟩
  ·rw[an a1];exact eE ⟨by simp[a2],a3⟩
  ·omega
 ·rcases bf with ⟨a1,_⟩ | ⟨a1,a2,a3,a4,a5⟩
  ·omega
  ·have hne:¬ l[out[i]].var=-1:=by omega
   obtain ⟨b1,b2⟩:=g.var _ hj (by omega);rw[aj hne,cn];refine ⟨eE ⟨a1,b1,a3,by simpa using b2⟩,gJ.2 fun q hq=>?_⟩;obtain ⟨k,hk,rfl⟩:=iY.1 hq;obtain ⟨c1,c2⟩:=DO hc kd hj hk;obtain ⟨t,ek,ht,ED⟩:=g.kid _ hj (by omega) k hk;have gE:t < l.length:=by omega
   have ED:=ED gE;have c3:out.idxOf k.toNat < out.length:=by omega
   have c4:out[out.idxOf k.toNat]=t:=by
    rw[bM c3] at c2;have:=pZ c2;rw[this,ek,cH]
   unfold pk;rw[cH,Hu (by unfold dD;rw[cg];exact c3),BN c3,c4];have vu:(ll (nd l out t)).var=l[t].var:=by unfold ll nd;rw[jr gE]
   rw[vu,cn];refine ⟨eE (by omega),eE ?_⟩;unfold fE at ED
   split at ED
   ·exact .inr ED
   ·rcases g.ok _ (bI gE) with ⟨d1,_⟩ | ⟨d1,_⟩
    ·exact .inl d1
    ·omega
theorem Xo {n:ND} (h:n.ok) (hv:n.var < 0):iH n.leaf=n:=by
 rcases h with ⟨a1,a2,_⟩ | ⟨a1,_⟩
 ·obtain ⟨v,k,x⟩:=n;simp only at a1 a2;rw[a1,a2];rfl
 ·omega
theorem Yf {n:ND} (h:n.ok) (hv:¬ n.var < 0):ig n.var n.kids=n:=by
 rcases h with ⟨a1,_⟩ | ⟨_,_,a3,_⟩
 ·omega
 ·obtain ⟨v,k,x⟩:=n;simp only at a3;rw[a3];rfl
theorem Yc {l:List ND} {v:Int} {ks:List Int} (h:∃ k∈ks,k≠ks.headD 0):nV l v ks=(((l.idxOf (ig v ks):Nat):Int),jg l (ig v ks)):=by
 unfold nV;rw[aj];intro hh;obtain ⟨k,hk,hne⟩:=h;exact hne (by simpa using gJ.1 hh k hk)
theorem XE (g:GoodL ar l) {out:List Nat} (hc:Cl l out):∀ i,i<=out.length->mq ((dD l out).map ll) l i=(l,out.take i)
 | 0,_=>rfl
 | i+1,hi=>by
  have kd:i < out.length:=by omega
  have vm:i < (dD l out).length:=by unfold dD;rw[cg];exact kd
  have hj:=hc.lt _ (bI kd);have bf:=g.ok _ (bI hj);rw[Jb (by rw[cg];exact vm),XE g hc i (by omega),Hu vm,BN kd,oC kd];have e1:(ll (nd l out out[i])).var=l[out[i]].var:=by unfold ll nd;rw[jr hj]
  have e2:(ll (nd l out out[i])).leaf=l[out[i]].leaf:=by unfold ll nd;rw[jr hj]
  have e3:(ll (nd l out out[i])).kids=l[out[i]].kids.map (fun k=>((out.idxOf k.toNat:Nat):Int)):=by unfold ll nd;rw[jr hj]
  have gu:l[out[i]]∈l:=bI hj;have gK:l.idxOf l[out[i]]=out[i]:=BU g.nd (List.idxOf_lt_length_of_mem gu) hj (List.getElem_idxOf _);unfold zS;rw[e1,e2,e3]
  by_cases hv:l[out[i]].var < 0
  ·rw[an hv,Xo bf hv];simp only[jg,an gu,gK]
  ·rw[aj hv]
   have ek:((l[out[i]].kids.map (fun k=>((out.idxOf k.toNat:Nat):Int))).map fun k=>(out.take i).getD k.toNat 0).map Int.ofNat=l[out[i]].kids:=by
    rw[tE,tE]
    conv=>rhs;rw[<- List.map_id l[out[i]].kids]
    refine List.map_congr_left fun k hk=>?_;obtain ⟨c1,c2⟩:=DO hc kd hj hk;obtain ⟨t,et,_⟩:=pP g hj k hk;simp only[Function.comp,cH,id];rw[aT,qA,an c1,c2,eh,et];simp
   simp only[ek];rw[Yc (g.dif _ hj (by omega)),Yf bf hv];simp only[jg,an gu,gK,cH]
theorem qn0 (g:GoodL ar l) {out:List Nat} (hc:Cl l out):(dD l out).Nodup:=by
 unfold dD;rw[List.nodup_iff_pairwise_ne,List.pairwise_map];refine List.Pairwise.imp_of_mem ?_ (List.nodup_iff_pairwise_ne.1 hc.nd);intro a b ha hb hne e;exact hne (O7 g (hc.lt a ha) (hc.lt b hb) (hc.kids ha (hc.lt a ha)) (hc.kids hb (hc.lt b hb)) e)
theorem qok {α:Type} [DecidableEq α] {P:List α} (h:P.Nodup) {i:Nat} (hi:i < P.length):P[i]∉P.take i:=fun hm=>by
 obtain ⟨k,hk,e⟩:=qB hm;rw[jV] at hk;rw[List.getElem_take] at e;have:=BU h (by omega) hi e;omega
theorem XC (g:GoodL ar l) (dd:l.length<=100000) {out:List Nat} (hc:Cl l out):∀ i,i<=out.length->mq ((dD l out).map ll) [] i=((dD l out).take i,List.range i)
 | 0,_=>rfl
 | i+1,hi=>by
  have kd:i < out.length:=by omega
  have vm:i < (dD l out).length:=by unfold dD;rw[cg];exact kd
  have hj:=hc.lt _ (bI kd);have Wo:=s6 _ _ hc.nd hc.lt;have bf:=EY g dd (p:=out) (by omega) hj;have qf:=qok (qn0 g hc) vm;rw[BN kd] at qf;have hlt:((dD l out).take i).length=i:=by rw[jV];omega
  rw[Jb (by rw[cg];exact vm),XC g dd hc i (by omega),Hu vm,BN kd,oC vm,BN kd,List.range_succ];have e3:(nd l out out[i]).kids=l[out[i]].kids.map (fun k=>((out.idxOf k.toNat:Nat):Int)):=by unfold nd;rw[jr hj]
  have e1:(nd l out out[i]).var=l[out[i]].var:=by unfold nd;rw[jr hj]
  show zS _ (ll (nd l out out[i]))=_;unfold zS ll
  by_cases hv:(nd l out out[i]).var < 0
  ·simp only[an hv];rw[Xo bf hv];simp only[jg,aj qf,EI qf,hlt]
  ·simp only[aj hv]
   have ek:((nd l out out[i]).kids.map fun k=>(List.range i).getD k.toNat 0).map Int.ofNat=(nd l out out[i]).kids:=by
    rw[e3,tE,tE];refine List.map_congr_left fun k hk=>?_;obtain ⟨c1,_⟩:=DO hc kd hj hk;simp only[Function.comp,cH];rw[aT,List.getElem?_range c1,eh];rfl
   simp only[ek]
   have hd:∃ k∈(nd l out out[i]).kids,k≠(nd l out out[i]).kids.headD 0:=by
    obtain ⟨k,hk,hne⟩:=g.dif _ hj (by rw[e1] at hv;omega);rw[e3];refine ⟨_,List.mem_map_of_mem hk,fun e=>hne ?_⟩
    cases Br:l[out[i]].kids with
    | nil=>rw[Br] at hk;cases hk
    | cons k0 kt=>
     rw[Br,gg,List.headD_cons] at e;rw[List.headD_cons];have vn:k0∈l[out[i]].kids:=by rw[Br];exact fQ
     obtain ⟨_,c2⟩:=DO hc kd hj hk;obtain ⟨_,d2⟩:=DO hc kd hj vn;have e':out.idxOf k.toNat=out.idxOf k0.toNat:=by omega
     rw[e'] at c2;rw[c2] at d2;have e4:=pZ d2;obtain ⟨t,et,_⟩:=pP g hj k hk;obtain ⟨t0,et0,_⟩:=pP g hj k0 vn;omega
   rw[Yc hd,Yf bf hv];simp only[jg,aj qf,EI qf,hlt,cH]
end
end Go.Ab
namespace Go.Ab
open Go.Proofs Go.Proofs.Tryz
theorem qkB {a b:ND} (ha:a.ok) (hb:b.ok) (h:a.av=b.av):a=b:=by
 unfold ND.av at h;rw[uj ha,uj hb] at h;simp only[AV.agg.injEq,pD,AV.int.injEq,AV.lst.injEq,and_true,true_and] at h;obtain ⟨h1,⟨_,_,h2⟩,h3⟩:=h;have h2:=(List.map_inj_right (fun x y e=>by simpa using e)).1 h2;cases a;cases b;simp_all
theorem XU:∀ {P Q:List ND},(∀ n∈P,n.ok)->(∀ n∈Q,n.ok)->P.map ND.av=Q.map ND.av->P=Q
 | [],[],_,_,_=>rfl
 | [],_::_,_,_,h=>by cases h
 | _::_,[],_,_,h=>by cases h
 | a::P,b::Q,hp,hq,h=>by
  simp only[gg,pD] at h;rw[qkB (hp a fQ) (hq b fQ) h.1,XU (fun n hn=>hp n (fN _ hn)) (fun n hn=>hq n (fN _ hn)) h.2]
theorem W49 {s:AV} {z:Bool} {o:Own} {L:List ND} (hL:L.length<=100000) (K:KT):∀ (q p:List ND) (m:af) (x:AV) (T:List Nat),L=p++q->NR 74 m x p T ->
  ∃ (m':af) (x':AV) (T':List Nat),C0 s x (NL z o L) (.int .i64 L.length) (.int .i64 p.length) m K=K (.exit 0) (LB s x' m')/\NR 74 m' x' L T'/\Fr m m' T/\Gr m T T':=by
 intro q
 induction q with
 | nil=>
  intro p m x T fG h;rw[bY] at fG;subst fG;refine ⟨m,x,T,?_,h,Fr.refl _ _,Gr.refl _ _⟩;rw[RE,bc,aa,aA,aj (by omega)]
 | cons n q ih=>
  intro p m x T fG h;have hpl:p.length < L.length:=by rw[fG];simp
  have iF:L[p.length]=n:=by simp[fG]
  have gK:=zj (z:=z) (o:=o) hpl;rw[iF] at gK;have bx:=AX n m (Bc m);have f1:Fr m (m++[some (Ent.obj true [.int .i64 n.var,cE n,.int .i64 n.leaf])]) T:=Fr.app m _ _;have h2:NR 74 (m++[some (Ent.obj true [.int .i64 n.var,cE n,.int .i64 n.leaf])]) x p T:=ur h fun k hk=>(Fr.app m _ []).get k (uo h k hk) (by simp);obtain ⟨x3,m3,T3,ea,n3,f3,g3⟩:=Pc h2 (by omega) n;obtain ⟨m',x',T',e,k1,k2,k3⟩:=ih (p++[n]) m3 x3 T3 (by rw[fG,gd];rfl) n3
  have g13:Gr m T T3:=fun a ha=>by
   rcases g3 a ha with hh | hh
   ·exact .inl hh
   ·rw[aI] at hh;exact .inr (by omega)
  have f13:Fr m m3 T:=Fr.trans f1 f3 fun a ha=>.inl ha;refine ⟨m',x',T',?_,k1,Fr.trans f13 k2 g13,Gr.trans f13.len g13 k3⟩
  have ld2:ai (some 3) (m++[some (Ent.obj true [.int .i64 n.var,cE n,.int .i64 n.leaf])]) (.ptr m.length 0)=some n.av:=by
   rw[bV,bG rfl];rfl
  have nr:dH (some 3) [n.av]=some (.lst (some 3) false .full [n.av]):=Um n;rw[RE,bc,aa,aA,an (by omega),gK,aa,vF,aa,mX,mX];dsimp only;rw[bx,aa,ld2,aa,nr,aa,ea,aa,cr (by omega),aa];rw[aI] at e;exact e
theorem A49 {za zt:Bool} {oa ot:Own} {ar t:List Int} (m0:af) (WN:za=true->ar=[]) (he:oH ar=0) (hp:cu ar<=300) (gE:t.length=cu ar) (Ou:∀ y∈t,0<=y/\y<=4) :
  ∃ m' s F zs os P,AC ae 49 [IA za oa ar,IA zt ot t] m0=some (.tup [.ptr s 0,.int .i64 (P.length - 1:Nat),.bool true],m')/\c9 m' s F (IA zs os ar) 4000 P/\GoodL ar P/\0 < P.length/\P.length < 4000/\TabV ar P (P.length - 1) 0 t/\Fr m0 m' []/\(∀ x∈F,m0.length<=x) /\
   dD P (Vi P (P.length - 1) [])=P/\∀ z o z' o',AP ae 31 [IA z o ar,IA z' o' t]=some (NL false .no P):=by
 obtain ⟨h1,h2⟩:=yq he;obtain ⟨mA,sA,FA,zA,oA,l1,id1,_,stA,g1,tab1,lP,_,_⟩:=A29 (za:=za) (z:=zt) (oa:=oa) (o:=ot) (ar:=ar) (t:=t) m0 WN he hp gE Ou;have dd:l1.length<=100000:=by omega
 obtain ⟨c1,c2,_⟩:=rr g1 id1 tab1.lt [] sv;have eV:=tI g1 tab1.lt [];rw[aj (by simp)] at eV;have No:=fun z o z' o'=>Tc g1 h2 dd h1 hp tab1 z z' o o';generalize qqT:Vi l1 id1 []=out at *;have Wo:=s6 _ _ c1.nd c1.lt;have ho0:0 < out.length:=List.length_pos_of_mem c2;have pL:(dD l1 out).length=out.length:=by unfold dD;rw[cg]
 have hne:dD l1 out≠[]:=fun e=>by rw[e] at pL;simp at pL;omega
 have bf:=Je g1 dd c1;have vA:=qga g1 c1;have hLl:((dD l1 out).map ll).length=out.length:=by rw[cg,pL]
 have qmQ:=Yj vA (by omega) ((dD l1 out).map ll).length 0 (by omega);obtain ⟨m4,s',F4,zs',os',e14,st4,f4,Vr⟩:=Qf m0 za oa ar WN he;obtain ⟨m5,x5,T5,e49,N6,f5,_⟩:=W49 (s:=.ptr s' 0) (z:=false) (o:=.no) (L:=dD l1 out) (by omega) (Ge (aE ae.P f49.results.toList)) (dD l1 out) [] m4 aq [] rfl .none;obtain ⟨tk,rfl⟩:=Jn N6 hne;have hNR:=qf3 (z:=false) (o:=.tok tk 74) bf;have st5:=st4.app f5;obtain ⟨m6,F6,e44,st6,f6,gr6⟩:=qaC (zl:=false) (ol:=.tok tk 74) qmQ h2 h1 Nn (by simp;omega) st5;have ub:=XC g1 dd c1 out.length (aR _);have I:=BK vA h2 h1 Nn (by simp;omega) out.length (by omega);have I0:=BK vA h2 h1 g1 (by omega) out.length (by omega);have Ol:=XE g1 c1 out.length (aR _);rw[hLl,ub] at e44 st6;rw[ub] at I;rw[Ol] at I0;have hPt:(dD l1 out).take out.length=dD l1 out:=by rw[<- pL,List.take_length]
 rw[hPt] at st6 I;dsimp only at e44 st6 I I0;rw[<- hNR] at e44;obtain ⟨a1,a2,a3⟩:=I.at_ (out.length - 1) (by omega);obtain ⟨b1,b2,b3⟩:=I0.at_ (out.length - 1) (by omega)
 have pf:out.getD (out.length - 1) 0=id1:=by
  rw[eV,aT];simp
 rw[List.take_length,pf] at b3
 have hx:(List.range out.length).getD (out.length - 1) 0=out.length - 1:=by
  rw[aT,List.getElem?_range (by omega)];rfl
 rw[hx] at a1 a2 a3 e44
 have tab2:TabV ar (dD l1 out) (out.length - 1) 0 t:=by
  refine ⟨tab1.len,a1,fun hh=>?_,fun y hy=>?_⟩
  ·have:=qic I.g a1;rw[DC a1] at this;exact this.1
  ·rw[a3 y hy,<- b3 y hy];exact tab1.val y hy
 have Np:=Tc I.g h2 (by omega) h1 hp tab2 za zt oa ot;obtain ⟨d1,_,_⟩:=rr I.g (out.length - 1) tab2.lt [] sv;have qmP:=Je I.g (by omega) d1;rw[No za oa zt ot] at Np;simp only[bO,AV.lst.injEq,true_and] at Np;have hsf:=XU qmP bf Np.symm
 refine ⟨m6,s',F6,zs',os',dD l1 out,?_,st6,I.g,by omega,by omega,by rw[pL];exact tab2,?_,?_,by rw[pL];exact hsf,fun z o z' o'=>No z o z' o'⟩
 ·have p31:aC (AP ae) none m4 31 [IA za oa ar,IA zt ot t]=some (NL false .no (dD l1 out),m4):=by
   rw[fe (mc za oa ar) (mc zt ot t),No];rfl
  have e49:C0 (.ptr s' 0) aq (NL false .no (dD l1 out)) (.int .i64 (dD l1 out).length) (.int .i64 0) m4 (Ge (aE ae.P f49.results.toList))=_:=e49;rw[T49,e14,aa,kL,aa,kM,aa,gZ,aa,aA,aj (by omega),p31,aa,BH,aa];dsimp only;rw[e49,qew,e44,aa,kL,aa,kM,aa,iM,aa,pL]
  rfl
 ·exact Fr.trans (Fr.trans f4 f5 fun _ h=>by cases h) f6 fun x hx=>.inr (Vr x hx)
 ·intro x hx;have:=(f4.len);have:=(f5.len)
  rcases gr6 x hx with h | h
  ·exact Vr x h
  ·omega
end Go.Ab
namespace Go.Ab
open Go.Proofs Go.Proofs.Tryz
theorem WV.mulp {M N a S:Nat} {r p:RV} (hM:M < 4294967296 ^ 8) (h:WV M r (S * N)) (hS:S≠0) (hp:Can p (dK false a S)) (sP:ROk 9 p) (hb:a * N<=M):∃ x:RV,AP ae 69 [p.av,r.av]=some x.av/\WV M x (a * N):=by
 obtain ⟨x,e,hc,hf⟩:=Mh sP h.ok (by omega) (by omega);refine ⟨x,e,Can.wv hM hb ?_ hf⟩;rw[h.q,hp.q,B3] at hc;have e1:a * (S * N)=a * N * S:=by rw[cO S N,fF]
 rw[show (false != false)=false from rfl,e1,cO S M,Jx hS] at hc;exact hc
structure WC (M:Nat) (r:RV) (N:Nat):Prop where
 wv:WV M r N
 can:Can r (dK false N M)
theorem Can.wc {M N:Nat} {r:RV} (hM:M < 4294967296 ^ 8) (hN:N<=M) (h:Can r (dK false N M)) (hf:r.fr=r):WC M r N:=⟨Can.wv hM hN h hf,h⟩
theorem WC.add {M N1 N2:Nat} {r1 r2:RV} (hM:M < 4294967296 ^ 8) (h0:M≠0) (h1:WC M r1 N1) (h2:WV M r2 N2) (hb:N1+N2<=M):∃ x:RV,AP ae 71 [r1.av,r2.av]=some x.av/\WC M x (N1+N2):=by
 obtain ⟨x,e,hc,hf⟩:=HO h1.wv.ok h2.ok (by omega) (by omega);rw[h1.wv.q,h2.q,Px h0] at hc;exact ⟨x,e,Can.wc hM hb hc hf⟩
section
variable {ar:List Int} {s:Nat->Nat->Nat}
theorem Qv {φ ψ:(Nat->Nat)->Nat} (h:∀ b,φ b<=ψ b):∀ (d v:Nat) (a:Nat->Nat),Ct ar s d v φ a<=Ct ar s d v ψ a
 | 0,v,a=>h a
 | d+1,v,a=>ZU fun k _=>kJ _ (Qv h d (v+1) (upd a v k))
theorem Qw (l:List ND) (c:Int) (k:Nat):Hc ar s l c k<=PM ar s ar.length 0:=by
 unfold Hc;refine ef (Qv (ψ:=fun _=>1) (fun b=>by split<;>omega) _ _ _) ?_;rw[Kf,mI];exact aR _
end
def rc (r:RV):List AV:=[.bool r.neg,r.num.av,r.den.av]
theorem B4:∀ ws:List RV,(ws.flatMap rc).length=ws.length * 3
 | []=>rfl
 | r::ws=>by rw[ov,aI,B4 ws,aL,im];simp[rc];omega
theorem Y7:∀ (ws:List RV) (k:Nat) (h:k < ws.length),((ws.flatMap rc).drop (k * 3)).take 3=rc ws[k]
 | r::ws,0,_=>by rw[ov];simp[rc]
 | r::ws,k+1,h=>by
  have e:((r::ws).flatMap rc).drop ((k+1) * 3)=(ws.flatMap rc).drop (k * 3):=by
   rw[ov,show (k+1) * 3=(rc r).length+k * 3 by simp[rc];omega,List.drop_length_add_append]
  rw[e,Y7 ws k (by simpa using h)];rfl
inductive WA (m:af):AV->List RV->List Nat->Prop
 | none:WA m aq [] []
 | some (t:Nat) (ws:List RV) (ht:m.get t=some (.obj false (ws.flatMap rc))) (hne:ws≠[]):WA m (.arr t 0 ws.length (some 3)) ws [t]
theorem vS {m m':af} {x:AV} {ws:List RV} {T:List Nat} (h:WA m x ws T) (f:∀ k∈T,m'.get k=m.get k):WA m' x ws T:=by
 cases h with
 | none=>exact .none
 | some t ws ht hne=>exact .some t ws ((f t (by simp)).trans ht) hne
theorem zY {m:af} {x:AV} {ws:List RV} {T:List Nat} (h:WA m x ws T):∀ k∈T,k < m.length:=by
 cases h with
 | none=>simp
 | some t ws ht hne=>intro k hk;simp at hk;subst hk;exact bC ht
theorem qan {m:af} {x:AV} {ws:List RV} {T:List Nat} (h:WA m x ws T) {k:Nat} (hk:k < ws.length):∃ a,aF (some 3) x (.int .i64 (k:Int))=some a/\∀ m':af,(∀ t∈T,m'.get t=m.get t)->ai (some 3) m' a=some ws[k].av:=by
 cases h with
 | none=>exact absurd hk (by simp)
 | some t ws ht hne=>
  refine ⟨.ptr t (k * 3),?_,fun m' f=>?_⟩
  ·have:(k:Int) < ws.length:=by omega
   simp[aF,this,Sh.size]
  ·rw[bV,f t (by simp),ht,kh,aa];unfold kD;dsimp only;rw[an (by rw[B4];omega),Y7 ws k hk];rfl
theorem qam {m:af} {x:AV} {ws:List RV} {T:List Nat} (h:WA m x ws T) (hl:ws.length<=100000) {r:RV} (hr:r.fr=r):∃ x' m' t,ck none true 43 (some 3) 56 m x (.lst (some 3) false .full [r.av])=some (x',m')/\WA m' x' (ws++[r]) [t]/\Fr m m' T/\m.length<=t:=by
 have hc:(([r.av]:List AV).flatMap AV.cells)=rc r:=by
  show AV.cells r.av++[]=_;rw[bY];rfl
 cases h with
 | none=>
  refine ⟨.arr m.length 0 1 (some 3),m++[some (.obj false (rc r))],m.length,rfl,.some m.length [r] (by rw[bG rfl];simp[rc]) (by simp),Fr.app m _ _,aR _⟩
 | some t ws ht hne=>
  have gE:=bC ht;have WL:0 < ws.length:=ye.2 hne
  have hx:xC m (some 3) (.arr t 0 ws.length (some 3))=some (ws.length,ws.flatMap rc,m.set t none):=by
   unfold xC;dsimp only;rw[qm,ht,kh,aa];exact an ⟨rfl,rfl,WL,rfl,B4 ws⟩
  have hy:zO m (some 3) (.lst (some 3) false .full [r.av])=some (1,rc r):=by
   unfold zO;dsimp only;rw[an ⟨rfl,by simp⟩,hc];rfl
  refine ⟨.arr m.length 0 (ws.length+1) (some 3),m.set t none++[some (.obj false (ws.flatMap rc++rc r))],m.length,?_,?_,?_,aR _⟩
  ·show uU none true (some 3) 56 m (.arr t 0 ws.length (some 3)) (.lst (some 3) false .full [r.av])=_;unfold uU;dsimp only;rw[hy,aa,hx,aa];dsimp only;rw[an (by unfold gS;omega),a8]
  ·have hws:(ws++[r]).flatMap rc=ws.flatMap rc++rc r:=by rw[List.flatMap_append];simp
   have:=WA.some (m:=m.set t none++[some (.obj false (ws.flatMap rc++rc r))]) m.length (ws++[r]) (by rw[hws];exact bG (by rw[a8])) (by simp);rw[aI,rh] at this;exact this
  ·exact ((Fr.refl m [t]).set _ (.inl (by simp))).snoc _
section
variable {ar:List Int} {L:OL} {l:List ND} {M:Nat}
theorem qh7 (hO:OddsOk ar L) (p9:L.fr=L) (jy:M < 4294967296 ^ 8) (h0:M≠0) {u B:Nat} (iU:u < L.es.length) {q:Nat->Nat} {kids:List Int} (fI:kids.length=iT ar u) (IG:iT ar u<=64) (hB:B<=M) (hs:B=jm (iT ar u) fun j=>bH L u j * q j)
  {m0:af} {wv:AV} {ws:List RV} {T:List Nat} (hW:WA m0 wv ws T) (yT:∀ j,j < kids.length->∃ t:Nat,kids.getD j 0=t/\∃ h:t < ws.length,WV M ws[t] (SS ar (bH L) u * q j)) {z:Bool} {o:Own} (lf:AV) (x8:AV) (K:KT):∀ (d j:Nat) (sm:RV),j+d=kids.length->WC M sm (jm j fun j=>bH L u j * q j) ->
  ∃ sm':RV,Am L.av wv (.ptr m0.length 0) x8 (.ptr (m0.length+2) 0) (IA z o kids) (.int .i64 kids.length) (.int .i64 j) (((m0++[some (.obj true [.int .i64 u,IA z o kids,lf])])++[bZ])++[bR sm]) K=K (.exit 0) (Hl x8 (.ptr (m0.length+2) 0) (((m0++[some (.obj true [.int .i64 u,IA z o kids,lf])])++[bZ])++[bR sm']))/\WC M sm' B:=by
 intro d
 induction d with
 | zero=>
  intro j sm hj hw
  refine ⟨sm,?_,?_⟩
  ·rw[Gu,bc,aa,aA,aj (by omega)]
  ·rw[hs,<- fI,show kids.length=j by omega];exact hw
 | succ d ih=>
  intro j sm hj hw;have ke:j < kids.length:=by omega
  obtain ⟨t,et,gE,wt⟩:=yT j ke;have yU:kids[j]=(t:Int):=by rw[<- et,aT,bM ke];rfl
  have wV:j < L.es[u].ns.length:=by have:=(hO.row u iU).2;unfold iT at fI;omega
  obtain ⟨p,ep,cp,op,fp⟩:=YB hO iU wV;have qnf:bH L u j * q j<=B:=by rw[hs];exact ZT (fun j=>bH L u j * q j) (by omega)
  obtain ⟨x,ex,wx⟩:=wt.mulp jy (Nat.pos_iff_ne_zero.1 (hO.ss iU).2.1) cp op (by omega);have mR:jm (j+1) (fun j=>bH L u j * q j)<=B:=by rw[hs];exact ZV (by omega)
  rw[qY] at mR;obtain ⟨y,ey,wy⟩:=hw.add jy h0 wx (by omega);obtain ⟨a,ia,la⟩:=qan hW gE;have hT:=zY hW;generalize y0:((m0++[some (Ent.obj true [.int .i64 u,IA z o kids,lf])])++[bZ])++[bR sm]=mm;have jC:mm.length=m0.length+3:=by rw[<- y0];simp
  have g0:mm.get m0.length=some (.obj true [.int .i64 u,IA z o kids,lf]):=by rw[<- y0,bU (by simp),bU (by simp),bG rfl]
  have g2:mm.get (m0.length+2)=bR sm:=by rw[<- y0];exact bG (by simp)
  have gT:∀ t∈T,mm.get t=m0.get t:=fun t ht=>by
   have:=hT t ht;rw[<- y0,bU (by simp;omega),bU (by simp;omega),bU this]
  obtain ⟨sm',e,k⟩:=ih (j+1) y (by omega) (by rw[qY];exact wy);refine ⟨sm',?_,k⟩;have ldv:ai none mm (.ptr m0.length (0+0))=some (.int .i64 u):=by rw[bV,g0];rfl
  have p70:aC (AP ae) (some mm.length) mm 70 [L.es[u].av,.int .i64 j]=some (p.av,mm):=by rw[fe (Pq.fz_il _) (fW _ _),ep];rfl
  have p69:aC (AP ae) (some mm.length) mm 69 [p.av,ws[t].av]=some (x.av,mm):=by rw[fe (hP p) (hP _),fp,wt.fr,ex];rfl
  have p71:aC (AP ae) (some mm.length) mm 71 [sm.av,x.av]=some (y.av,mm):=by rw[fe (hP sm) (hP x),hw.wv.fr,wx.fr,ey];rfl
  have st:aM (some 3) mm (.ptr (m0.length+2) 0) y.av=some (((m0++[some (Ent.obj true [.int .i64 u,IA z o kids,lf])])++[bZ])++[bR y]):=by
   rw[qX g2,<- y0,pV _ _ _ (by simp)]
  rw[Gu,bc,aa,aA,an (by omega),jY ke,aa,yU,gy,aa,pQ g2,aa,cJ,aa,ldv,aa,Pq.index_ol iU,aa,Pq.load_ol,aa,p70,aa];dsimp only;rw[ia,aa,la mm gT,aa,p69,aa];dsimp only;rw[p71,aa];dsimp only;rw[st,aa,cr (by omega),aa];exact e
theorem qaz (hO:OddsOk ar L) (p9:L.fr=L) (g:GoodL ar l) (h1:∀ x∈ar,1<=x/\x<=64) (c:Int) (hM:M=PM ar (bH L) ar.length 0) (h0:M≠0) (jy:M < 4294967296 ^ 8) {i:Nat} (hi:i < l.length) {ws:List RV} (hws:∀ k (h:k < ws.length),WV M ws[k] (Hc ar (bH L) l c k)) (cm:i<=ws.length) {m0:af} {wv:AV} {T:List Nat} (hW:WA m0 wv ws T) :
  ∃ (m':af) (sm:RV),AC ae 110 [L.av,l[i].av,.int .i64 c,wv] m0=some (sm.av,m')/\WC M sm (Hc ar (bH L) l c i)/\Fr m0 m' []:=by
 have bf:=g.ok _ (bI hi);have eav:l[i].av=.agg [.int .i64 l[i].var,IA (kz l[i]) (ko l[i]) l[i].kids,.int .i64 l[i].leaf]:=by unfold ND.av;rw[uj bf]
 generalize kz l[i]=z at eav;generalize ko l[i]=o at eav;have bx:cS none (some 3) m0 (.agg [.int .i64 l[i].var,IA z o l[i].kids,.int .i64 l[i].leaf])=some (.ptr m0.length 0,m0++[some (Ent.obj true [.int .i64 l[i].var,IA z o l[i].kids,.int .i64 l[i].leaf])]):=rfl;generalize lQ:m0++[some (Ent.obj true [.int .i64 l[i].var,IA z o l[i].kids,.int .i64 l[i].leaf])]=m1 at bx;have lP:m1.length=m0.length+1:=by rw[<- lQ];simp
 have f1:Fr m0 m1 []:=by rw[<- lQ];exact Fr.app m0 _ _
 have g1:m1.get m0.length=some (.obj true [.int .i64 l[i].var,IA z o l[i].kids,.int .i64 l[i].leaf]):=by rw[<- lQ];exact bG rfl
 have l0:∀ e,ai none (m1++[e]) (.ptr m0.length (0+0))=some (.int .i64 l[i].var):=fun e=>by rw[bV,bU (by omega),g1];rfl
 have l1:∀ e,ai none (m1++[e]) (.ptr m0.length (0+2))=some (.int .i64 l[i].leaf):=fun e=>by rw[bV,bU (by omega),g1];rfl
 have sto:∀ r:RV,aM (some 3) (m1++[bZ]) (.ptr m1.length 0) r.av=some (m1++[bR r]):=fun r=>by
  rw[qX (c1:=.bool false) (c2:=aq) (c3:=aq) (bG rfl),pV m1 _ _ rfl]
 have p64:∀ d m,aC (AP ae) d m 64 []=some (jO.av,m):=fun d m=>by rw[xq,Mg];rfl
 have p114:∀ d m,aC (AP ae) d m 114 []=some (og.av,m):=fun d m=>by rw[xq,Du];rfl
 have nz:∀ m:af,(az none m (.obj true [.bool false,aq,aq])).2=m++[bZ]:=fun _=>rfl;have nz1:∀ m:af,(az none m .resv).1=m.length:=fun _=>rfl;rw[eav,SA,bx,aa];dsimp only;rw[nz,nz1,cJ,aa,l0,aa,bc,aa,aA]
 by_cases hn:l[i].var < 0
 ·rw[an hn,cJ,aa,l1,aa,iM,aa,aA];have hH:=Kh (s:=bH L) (ar:=ar) c hi hn
  by_cases hc:l[i].leaf=c
  ·rw[an hc] at hH;rw[an hc,p64,aa];dsimp only;rw[sto,aa,pQ (bG rfl),aa];refine ⟨_,jO,rfl,?_,f1.snoc _⟩;rw[hH,<- hM];exact ⟨qas jy h0,by rw[Py h0];exact Mz⟩
  ·rw[aj hc] at hH;rw[aj hc,p114,aa];dsimp only;rw[sto,aa,pQ (bG rfl),aa];refine ⟨_,og,rfl,?_,f1.snoc _⟩;rw[hH];exact Can.wc jy (lC _) (by rw[xy];exact wD) Af
 ·obtain ⟨a1,a2⟩:=g.var i hi (by omega);obtain ⟨u,hu⟩:=oW (show 0<=l[i].var by omega);have oO:l[i].var.toNat=u:=by omega
  have xe:u < ar.length:=by omega
  have iU:u < L.es.length:=by rw[hO.len];omega
  obtain ⟨q,b1,b2⟩:=Ny (s:=bH L) g (fun x hx=>(h1 x hx).1) c i u hi hu;rw[oO] at a2;have fI:l[i].kids.length=iT ar u:=by unfold iT;omega
  have h6:iT ar u<=64:=by
   have:=h1 ar[u] (bI xe);have e:ar.getD u 0=ar[u]:=by rw[aT,bM xe];rfl
   unfold iT;omega
  have yT:∀ j,j < l[i].kids.length->∃ t:Nat,l[i].kids.getD j 0=t/\∃ h:t < ws.length,WV M ws[t] (SS ar (bH L) u * q j):=fun j hj=>by
   obtain ⟨t,e,ht,_⟩:=oR g hi (by omega) (k:=j) (by rw[oO];exact ru (by omega));refine ⟨t,e,by omega,?_⟩;have:=b1 j (by omega);rw[e,cH] at this;rw[<- this];exact hws t (by omega)
  rw[aj hn,p114,aa];dsimp only
  have sto2:aM (some 3) ((m1++[bZ])++[bZ]) (.ptr (m1++[bZ]).length 0) og.av=some ((m1++[bZ])++[bR og]):=by
   rw[qX (c1:=.bool false) (c2:=aq) (c3:=aq) (bG rfl),pV _ _ _ rfl]
  have lk:∀ e,ai none ((m1++[bZ])++[e]) (.ptr m0.length (0+1))=some (IA z o l[i].kids):=fun e=>by rw[bV,bU (by simp;omega),bU (by omega),g1];rfl
  rw[nz,nz1,sto2,aa,cJ,aa,lk,aa,iI,aa];have gC:(m1++[bZ]).length=m0.length+2:=by simp;omega
  obtain ⟨sm,e,w⟩:=qh7 (z:=z) (o:=o) hO p9 jy h0 iU fI h6 (by rw[hM];exact Qw l c i) b2 hW yT (.int .i64 l[i].leaf) (.ptr m1.length 0) (CA (aE ae.P f110.results.toList)) l[i].kids.length 0 og (by omega) (by rw[ZW];exact Can.wc jy (lC _) (by rw[xy];exact wD) Af);rw[<- hu,lQ] at e;rw[gC];have e:Am L.av wv (.ptr m0.length 0) (.ptr m1.length 0) (.ptr (m0.length+2) 0) (IA z o l[i].kids) (.int .i64 l[i].kids.length) (.int .i64 0) ((m1++[bZ])++[bR og]) (CA (aE ae.P f110.results.toList))=_:=e;rw[e,Qz,pQ (bG gC.symm),aa]
  have st3:aM (some 3) ((m1++[bZ])++[bR sm]) (.ptr m1.length 0) sm.av=some ((m1++[bR sm])++[bR sm]):=by
   rw[qX (c1:=.bool false) (c2:=aq) (c3:=aq) (by rw[bU (by simp),bG rfl]),JL _ _ _ _ rfl]
  rw[st3,aa,pQ (by rw[bU (by simp),bG rfl]),aa];exact ⟨_,sm,rfl,w,(f1.snoc _).snoc _⟩
end
end Go.Ab
namespace Go.Ab
noncomputable section
open Go.Proofs.Tryz
end
end Go.Ab
namespace Go.Ab
open Go.Proofs Go.Proofs.Tryz
def uE (m:af) (x:AV):Prop:=x=.nilp\/∃ q,x=.ptr q 0/\m.get q=some (.obj true [aq,aq,.nilm,.int .i64 0])
theorem uE.fr {m m':af} {x:AV} (h:uE m x) (f:Fr m m' []):uE m' x:=by
 rcases h with h | ⟨q,h1,h2⟩
 ·exact .inl h
 ·exact .inr ⟨q,h1,by rw[f.get q (bC h2) (by simp)];exact h2⟩
theorem uE.box {m:af} {x:AV} (h:uE m x) (M:af):cS none none M x=some (.ptr M.length 0,M++[some (Ent.obj true [x])]):=by
 rcases h with rfl | ⟨q,rfl,_⟩<;>rfl
section
variable {m:af} {x:AV}
theorem N80 (h:uE m x):AC ae 80 [x] m=some (.bool true,m):=by
 rcases h with rfl | ⟨q,rfl,hg⟩
 ·rw[Ma,show ag .pt .eql .nilp .nilp=some (.bool true) from rfl,aa,iV]
 ·have ld:ai none m (.ptr q (0+3))=some (.int .i64 0):=by rw[bV,hg];rfl
  rw[Ma,show ag .pt .eql (.ptr q 0) .nilp=some (.bool false) from rfl,aa,gO,nU,aa,cJ,aa,ld,aa,show ag .other .eql (.int .i64 0) (.int .i64 0)=some (.bool true) from rfl,aa]
theorem qf2 (h:uE m x) (n:Int) (y:AV):AC ae 104 [x,.int .i64 n,y] m=some (.tup [aq,.int .i64 4],m):=by
 rw[L4,N80 h,aa,iV]
theorem N41 (h:uE m x) (n:Int):AC ae 41 [x,.int .i64 n] m=some (.tup [aq,.int .i64 4],m):=by
 rw[L8,qf2 h,aa,kL,aa,kM,aa]
theorem N17 (h:uE m x) (n:Int) (y:AV):∃ v m',AC ae 17 [x,.int .i64 n,y] m=some (.tup [v,.int .i64 4],m')/\Fr m m' []:=by
 have f:Fr m (m++[some (Ent.obj true [x])]) []:=Fr.app m _ _;have e:=N41 (h.fr f) n;have ld:ai none (m++[some (Ent.obj true [x])]) (.ptr m.length 0)=some x:=mW (bG rfl);exact ⟨_,_,by rw[HG,h.box,aa,ld,aa,e,aa,kL,aa,kM,aa,show ag .other .neq (.int .i64 4) (.int .i64 0)=some (.bool true) from rfl,aa,iV],f⟩
end
end Go.Ab
namespace Go.Ab
open Go.Proofs Go.Proofs.Tryz
def kC (r:IL):IL:=⟨false,if r.ns=[] then .full else .no,r.ns⟩
theorem qkY (r:IL):(kC r).fr=kC r:=by unfold kC Pq.IL.fr;dsimp only;split<;>rfl
theorem qoP (r:IL) (hz:r.z=false) (hl:r.ns.length<=1000000) (m:af):aC (AP ae) none m 88 [r.av]=some ((kC r).av,m):=by
 have h:=Pm r.z r.o r.ns hl m
 have e:yw r.z r.ns=(kC r).av:=by
  rw[hz];unfold yw kC Pq.IL.av;rw[aj (by simp)]
  split
  ·rename_i h0;simp[h0]
  ·rfl
 rw[e] at h;exact h
theorem qpN {m:af} {nm i:Nat} {cs:List AV} {v:AV} (h:m.get nm=some (.obj false cs)) (hi:i < cs.length) (hv:dG v=true) (hc:v.cells=[v]):aM none m (.ptr nm i) v=some (m.set nm (some (.obj false (cs.set i v)))):=by
 have hg:m.obj? nm=some (false,cs):=by rw[qm,h];rfl
 have h1:i+1<=cs.length:=hi;simp only[aM,hg,aa,Sh.size,h1,bz,cU,hv,hc];congr 4;simp only[bJ,aL,aQ];rw[De,an hi];simp
theorem WT (r:IL):dG r.av=true/\r.av.cells=[r.av]:=⟨rfl,rfl⟩
theorem qh6 {L:OL} (hz:∀ r∈L.es,r.z=false/\r.ns.length<=1000000) (hl:L.es.length<=100000) {nm:Nat} (K:KT):∀ (d i:Nat) (m:af) (cs:List AV),i+d=L.es.length->m.get nm=some (.obj false cs)->cs.length=L.es.length->cs.take i=(L.es.take i).map (fun r=>(kC r).av) ->
  ∃ m',CK (.arr nm 0 L.es.length none) L.av (.int .i64 L.es.length) (.int .i64 i) m K=K (.exit 0) (K0 (.arr nm 0 L.es.length none) m')/\m'.get nm=some (.obj false (L.es.map fun r=>(kC r).av)):=by
 intro d
 induction d with
 | zero=>
  intro i m cs hi hg hc ht;rw[kW (by omega),kW (by omega)] at ht;subst ht;exact ⟨m,by rw[QN,bc,aa,aA,aj (by omega)],hg⟩
 | succ d ih=>
  intro i m cs hi hg hc ht;have cm:i < L.es.length:=by omega
  have rC:=bC hg
  obtain ⟨m',e,k⟩:=ih (i+1) (m.set nm (some (.obj false (cs.set i (kC L.es[i]).av)))) (cs.set i (kC L.es[i]).av) (by omega) (cL rfl rC) (by rw[a8];exact hc) (by
   rw[oC (by rw[a8];omega),List.getElem_set_self,List.take_set_of_le (aR _),ht,oC cm,lA];rfl)
  refine ⟨m',?_,k⟩;obtain ⟨q1,q2⟩:=hz _ (bI cm);rw[QN,bc,aa,aA,an (by omega),Pq.index_ol cm,aa,Pq.load_ol,aa,qoP _ q1 q2,aa];dsimp only;rw[ga cm,aa,qpN hg (by omega) (WT _).1 (WT _).2,aa,cr (by omega),aa];exact e
theorem XN {m:af} {k:Nat}:∀ es:List IL,dU (bB m (k+1)) (es.map fun r=>(kC r).av)=some (es.map fun r=>(kC r).av,[])
 | []=>rfl
 | r::es=>by
  have h:=Pq.fza_il (kC r) m k;rw[qkY] at h;simp only[gg,dU,h,aa,XN es,aS,bY]
theorem YG:∀ es:List IL,mC (es.map fun r=>(kC r).av)=true
 | []=>rfl
 | r::es=>by
  have:pl (kC r).av=true:=by unfold kC Pq.IL.av;dsimp only;split<;>rfl
  simp[mC,this,YG es]
theorem qg9 {L:OL} (hz:∀ r∈L.es,r.z=false/\r.ns.length<=1000000) (hl:L.es.length<=100000):AP ae 109 [L.av]=some (Pq.OL.av ⟨false,.no,L.es.map kC⟩):=by
 have h3:(L.es.length:Int) * 24<=281474976710656:=by omega
 have h4:(L.es.length:Int)<=9223372036854775807:=by omega
 have h5:(0:Int)<=L.es.length:=by omega
 have hm:jc none 22 none aq 24 [] (.int .i64 L.es.length) (.int .i64 L.es.length)=some (.arr 0 0 L.es.length none,[some (Ent.obj false (List.replicate L.es.length aq))]):=by
  simp only[jc,az,rU,q8,bz,cH];rw[an ⟨h5,trivial,h3,h4⟩];rfl
 obtain ⟨m',e,hg⟩:=qh6 hz hl (nm:=0) (FN (aE ae.P f109.results.toList)) L.es.length 0 [some (Ent.obj false (List.replicate L.es.length aq))] (List.replicate L.es.length aq) (by omega) rfl (by simp) (by simp);have e:CK (.arr 0 0 L.es.length none) L.av (.int .i64 L.es.length) (.int .i64 0) [some (Ent.obj false (List.replicate L.es.length aq))] (FN (aE ae.P f109.results.toList))=_:=e
 have ha:AC ae 109 [L.av] []=some (.arr 0 0 L.es.length none,m'):=by
  rw[qgk,Pq.len_ol,aa,hm,aa,aa];dsimp only;rw[e,qa1]
 have oJ:Pq.OL.av ⟨false,.no,L.es.map kC⟩=.lst none false .no (L.es.map fun r=>(kC r).av):=by
  unfold Pq.OL.av;rw[tE];rfl
 have hf:bB m' j8 (.arr 0 0 L.es.length none)=some (.lst none false .no (L.es.map fun r=>(kC r).av),[0]):=by
  have h1:((L.es.map fun r=>(kC r).av).all dG)=true:=by simp[List.all_map,dG,Pq.IL.av]
  have ho:m'.obj? 0=some (false,L.es.map fun r=>(kC r).av):=by rw[qm,hg];rfl
  show (m'.obj? 0).bind _=_;rw[ho];simp only[aa,Sh.size,cg,br,mI,aR,decide_true,nH,pB,bz,jI,kW (by simp:(L.es.map fun r=>(kC r).av).length<=L.es.length)];rw[XN];simp only[aa,h1,YG,pB,bz,me];rw[kW (by simp)]
 rw[oJ];exact iw ha hf rfl
theorem XP {m:af} {k:Nat}:∀ ws:List RV,(∀ r∈ws,r.fr=r)->dU (bB m (k+1)) (ws.flatMap rc)=some (ws.flatMap rc,[])
 | [],_=>rfl
 | r::ws,h=>by
  have hr:=h r fQ;have h1:r.num.fr=r.num:=cI RV.num hr;have h2:r.den.fr=r.den:=cI RV.den hr
  have e1:bB m (k+1) r.num.av=some (r.num.av,[]):=by
   have:=p8 none r.num.z r.num.o (r.num.ds.map dg) m k;have e:AV.lst none r.num.z r.num.o.fr (r.num.ds.map dg)=r.num.fr.av:=rfl;rw[e,h1] at this;exact this
  have e2:bB m (k+1) r.den.av=some (r.den.av,[]):=by
   have:=p8 none r.den.z r.den.o (r.den.ds.map dg) m k;have e:AV.lst none r.den.z r.den.o.fr (r.den.ds.map dg)=r.den.fr.av:=rfl;rw[e,h2] at this;exact this
  have e0:bB m (k+1) (.bool r.neg)=some (.bool r.neg,[]):=rfl;rw[ov];simp only[rc,b8,bQ,dU,e0,e1,e2,aa,aS,bY];rw[XP ws fun x hx=>h x (fN _ hx)]
  rfl
theorem YI:∀ ws:List RV,(∀ r∈ws,r.fr=r)->mC (ws.flatMap rc)=true/\(ws.flatMap rc).all dG=true
 | [],_=>⟨rfl,rfl⟩
 | r::ws,h=>by
  have hr:=h r fQ;obtain ⟨i1,i2⟩:=YI ws fun x hx=>h x (fN _ hx);have p1:=B0 (x:=r.num) (cI RV.num hr);have p2:=B0 (x:=r.den) (cI RV.den hr);rw[ov]
  refine ⟨?_,?_⟩
  ·show (pl (.bool r.neg) && (pl r.num.av && (pl r.den.av && mC (ws.flatMap rc))))=true;rw[p1,p2,i1];rfl
  ·show (dG (.bool r.neg) && (dG r.num.av && (dG r.den.av && (ws.flatMap rc).all dG)))=true;rw[i2];rfl
theorem Vp:∀ ws:List RV,me (some 3) ws.length (ws.flatMap rc)=ws.map RV.av
 | []=>rfl
 | r::ws=>by
  have ih:=Vp ws;have e:me (some 3) (ws.length+1) ((r::ws).flatMap rc)=.agg (((r::ws).flatMap rc).take 3)::me (some 3) ws.length (((r::ws).flatMap rc).drop 3):=rfl;have e1:((r::ws).flatMap rc).take 3=rc r:=rfl;have e2:((r::ws).flatMap rc).drop 3=ws.flatMap rc:=rfl;rw[aL,e,e1,e2,ih];rfl
def wv (ws:List RV):LV:=if ws=[] then ⟨none,true,.full,[]⟩ else ⟨some 3,false,.no,ws⟩
theorem vT (ws:List RV):(wv ws).es=ws:=by unfold wv;split<;>simp_all
theorem qqE (ws:List RV):(wv ws).fr=wv ws:=by unfold wv;split<;>rfl
theorem qar {k:Nat} {ws:List RV} (h:∀ r∈ws,ROk k r/\r.fr=r):LOk k (wv ws):=by
 refine ⟨?_,?_,fun r hr=>?_,fun r hr=>?_⟩
 ·unfold wv;split
  ·exact .inr rfl
  ·exact .inl rfl
 ·unfold wv;split
  ·exact fun _=>rfl
  ·intro h;cases h
 ·rw[vT] at hr;exact (h r hr).2
 ·rw[vT] at hr;exact (h r hr).1
theorem Va {m:af} {x:AV} {ws:List RV} {T:List Nat} {k:Nat} (h:WA m x ws T) (hf:∀ r∈ws,r.fr=r):bB m (k+2) x=some ((wv ws).av,T):=by
 cases h with
 | none=>rfl
 | some t ws ht hne=>
  have ho:m.obj? t=some (false,ws.flatMap rc):=by rw[qm,ht];rfl
  obtain ⟨p1,p2⟩:=YI ws hf;have e:(wv ws).av=.lst (some 3) false .no (ws.map RV.av):=by unfold wv;rw[aj hne];rfl
  show (m.obj? t).bind _=_;rw[ho];simp only[aa,Sh.size,B4,br,aR,decide_true,nH,pB,bz,jI,kW (by rw[B4];exact aR _:(ws.flatMap rc).length<=ws.length * 3)];rw[XP ws hf];simp only[aa,p1,p2,pB,bz,Vp,e]
theorem Un {r:RV} (h:r.fr=r):dH (some 3) [r.av]=some (.lst (some 3) false .full [r.av]):=by
 have h1:r.num.fr=r.num:=cI RV.num h;have h2:r.den.fr=r.den:=cI RV.den h
 have hs:lU r.av=r.av:=by
  unfold RV.av lU;simp only[gg,ri,JT h1,JT h2]
  rfl
 have ho:cU (some 3) r.av=true:=rfl
 have hp:pl r.av=true:=by
  show (pl (.bool r.neg) && (pl r.num.av && (pl r.den.av && true)))=true;rw[B0 h1,B0 h2];rfl
 unfold dH;simp only[oq,List.all_nil,gg,ri,hs,ho,hp]
 rfl
end Go.Ab
namespace Go.Ab
open Go.Proofs Go.Proofs.Tryz
section
variable {ar:List Int} {L:OL} {l:List ND} {M:Nat}
theorem ZK {m:af} {c:Nat} {a b w w':AV} {n:Int} (h:m.get c=some (.obj true [a,b,w,.int .i64 n])) (hv:dG w'=true) (hc:w'.cells=[w']):aM none m (.ptr c (0+2)) w'=some (m.set c (some (.obj true [a,b,w',.int .i64 n]))):=by
 rw[qt,h,kh,aa];simp[cK,Sh.size,cU,hv,hc,bJ]
theorem Ck {m:af} {x:AV} {ws:List RV} {T:List Nat} (h:WA m x ws T):dG x=true/\x.cells=[x]:=by
 cases h with
 | none=>exact ⟨rfl,rfl⟩
 | some t ws ht hne=>exact ⟨rfl,rfl⟩
theorem X50 (hO:OddsOk ar L) (p9:L.fr=L) (g:GoodL ar l) (h1:∀ x∈ar,1<=x/\x<=64) (c:Int) (hM:M=PM ar (bH L) ar.length 0) (h0:M≠0) (jy:M < 4294967296 ^ 8) (dd:l.length<=4000) {c12:Nat} {z:Bool} {o:Own} (x8:AV) (K:KT):∀ (d i:Nat) (m:af) (x:AV) (ws:List RV) (T:List Nat),i+d=l.length ->
  m.get c12=some (.obj true [L.av,NL z o l,x,.int .i64 c])->WA m x ws T->(∀ t∈T,c12 < t)->ws.length=i->(∀ k (h:k < ws.length),WC M ws[k] (Hc ar (bH L) l c k)) ->
  ∃ (m':af) (x':AV) (ws':List RV) (T':List Nat),C1 (.int .i64 c) x8 (.ptr c12 0) (NL z o l) (.int .i64 l.length) (.int .i64 i) m K=K (.exit 0) (LC x8 (.ptr c12 0) m')/\Fr m m' (c12::T)/\m'.get c12=some (.obj true [L.av,NL z o l,x',.int .i64 c])/\WA m' x' ws' T'/\(∀ t∈T',c12 < t)/\Gr m T T'/\ws'.length=l.length/\∀ k (h:k < ws'.length),WC M ws'[k] (Hc ar (bH L) l c k):=by
 intro d
 induction d with
 | zero=>
  intro i m x ws T hi hg hw hT hl hws;refine ⟨m,x,ws,T,?_,Fr.refl _ _,hg,hw,hT,Gr.refl _ _,by omega,hws⟩;rw[RF,bc,aa,aA,aj (by omega)]
 | succ d ih=>
  intro i m x ws T hi hg hw hT hl hws;have cm:i < l.length:=by omega
  have rC:=bC hg;have gK:=zj (z:=z) (o:=o) cm;have bx:=AX l[i] m (Bc m);have f4:Fr m (m++[some (Ent.obj true [.int .i64 l[i].var,cE l[i],.int .i64 l[i].leaf])]) []:=Fr.app m _ _
  have ld2:ai (some 3) (m++[some (Ent.obj true [.int .i64 l[i].var,cE l[i],.int .i64 l[i].leaf])]) (.ptr m.length 0)=some l[i].av:=by
   rw[bV,bG rfl];rfl
  generalize yY:m++[some (Ent.obj true [.int .i64 l[i].var,cE l[i],.int .i64 l[i].leaf])]=m4 at bx f4 ld2;have Ow:WA m4 x ws T:=vS hw fun t ht=>f4.get t (zY hw t ht) (by simp);have NK:m4.get c12=some (.obj true [L.av,NL z o l,x,.int .i64 c]):=by rw[f4.get _ rC (by simp)];exact hg
  obtain ⟨m5,sm,e110,wsm,f5⟩:=qaz hO p9 g h1 c hM h0 jy cm (fun k h=>(hws k h).wv) (by omega) Ow;have zd:WA m5 x ws T:=vS Ow fun t ht=>f5.get t (zY Ow t ht) (by simp);have IC:m5.get c12=some (.obj true [L.av,NL z o l,x,.int .i64 c]):=by rw[f5.get _ (bC NK) (by simp)];exact NK
  obtain ⟨x6,m6,t6,ea,ze,f6,ht6⟩:=qam zd (by omega) wsm.wv.fr;have qmb:c12∉T:=fun hh=>by have:=hT _ hh;omega
  have Ef:m6.get c12=some (.obj true [L.av,NL z o l,x,.int .i64 c]):=by rw[f6.get _ (bC IC) qmb];exact IC
  have hc5:=bC IC;obtain ⟨a1,a2⟩:=Ck ze;have st:=ZK Ef a1 a2;have qmK:t6≠c12:=by omega
  have Ox:WA (m6.set c12 (some (.obj true [L.av,NL z o l,x6,.int .i64 c]))) x6 (ws++[sm]) [t6]:=vS ze fun t ht=>by
   simp only[List.mem_singleton] at ht;subst ht;exact cw (by omega)
  have l4:=f4.len;have l5:=f5.len;have f46:Fr m m6 (c12::T):=Fr.trans ((Fr.trans f4 f5 fun _ h=>by cases h).mono (by simp)) f6 fun a ha=>.inl (fN _ ha);have f47:Fr m (m6.set c12 (some (.obj true [L.av,NL z o l,x6,.int .i64 c]))) (c12::T):=f46.set _ (.inl (by simp))
  obtain ⟨m',x',ws',T',e,k1,k2,k3,k4,k5,k6,k7⟩:=ih (i+1) (m6.set c12 (some (.obj true [L.av,NL z o l,x6,.int .i64 c]))) x6 (ws++[sm]) [t6] (by omega) (cL rfl (bC Ef)) Ox (fun t ht=>by
   simp only[List.mem_singleton] at ht
   omega) (by rw[aI,hl];rfl) (fun k hk=>by
   rw[List.getElem_append]
   split
   ·exact hws k _
   ·rename_i hh;rw[aI,rh] at hk;obtain rfl:k=i:=by omega
    simp only[hl,oY,List.getElem_singleton]
    exact wsm)
  have g7:Gr m T [t6]:=fun a ha=>by
   simp only[List.mem_singleton] at ha;exact .inr (by omega)
  refine ⟨m',x',ws',T',?_,Fr.trans f47 k1 (fun a ha=>?_),k2,k3,k4,Gr.trans f47.len g7 k5,k6,k7⟩
  ·have ld0:∀ w,m4.get c12=some (.obj true [L.av,NL z o l,w,.int .i64 c])->ai none m4 (.ptr c12 (0+0))=some L.av/\ai none m4 (.ptr c12 (0+2))=some w:=fun w h=>by
    rw[bV,bV,h];exact ⟨rfl,rfl⟩
   obtain ⟨q0,q2⟩:=ld0 x NK;have q5:ai none m5 (.ptr c12 (0+2))=some x:=by rw[bV,IC];rfl
   rw[RF,bc,aa,aA,an (by omega),gK,aa,vF,aa,mX,mX];dsimp only;rw[bx,aa,cJ,aa,q2,aa,cJ,aa,q0,aa,ld2,aa,aa,q2,aa,e110,aa];dsimp only;rw[qM (by rw[q5,aa]),Un wsm.wv.fr,aa,ea,aa,aa];dsimp only;rw[st,aa,cr (by omega),aa];exact e
  ·rcases gA.1 ha with rfl | ha
   ·exact .inl (by simp)
   ·simp only[List.mem_singleton] at ha;exact .inr (by omega)
end
def gG (L:OL):OL:=⟨false,.no,L.es.map kC⟩
theorem UC (L:OL):(gG L).fr=gG L:=rfl
theorem UD (L:OL):(gG L).es.map Pq.IL.ns=L.es.map Pq.IL.ns:=by unfold gG;rw[tE];rfl
theorem UE (L:OL):bH (gG L)=bH L:=by funext u j;unfold bH;rw[UD]
theorem qkZ {ar:List Int} {L:OL} (h:OddsOk ar L):OddsOk ar (gG L):=by
 refine ⟨by unfold gG;rw[cg];exact h.len,fun u hu=>?_⟩;have iU:u < L.es.length:=by unfold gG at hu;simpa using hu
 have e:(gG L).es[u].ns=L.es[u].ns:=by
  have:(gG L).es[u]=kC L.es[u]:=tD ..;rw[this];rfl
 obtain ⟨a,b⟩:=h.row u iU;unfold Pq.RowOk at a ⊢;rw[e];exact ⟨a,b⟩
section
variable {s:Nat} {F:List Nat} {zs:Bool} {os:Own} {ar:List Int} {most:Int} {l:List ND}
abbrev cA (L:OL) (z:Bool) (o:Own) (l:List ND) (x:AV) (c:Int):AV:=.agg [L.av,NL z o l,x,.int .i64 c]
theorem BR (m:af):(az none m (.obj true [aq,aq,aq,.int .i64 0])).2=m++[some (.obj true [aq,aq,aq,.int .i64 0])]:=rfl
theorem uk (m:af):(az none m .resv).1=m.length:=rfl
theorem xH {m:af} {c:Nat} {e:List AV} {a b w:AV} {n:Int} (h:m.get c=some (.obj true e)) (he:e.length=4) (ha:dG a=true/\a.cells=[a]) (hb:dG b=true/\b.cells=[b]) (hw:dG w=true/\w.cells=[w]):aM (some 4) m (.ptr c 0) (.agg [a,b,w,.int .i64 n])=some (m.set c (some (.obj true [a,b,w,.int .i64 n]))):=by
 rw[qt,h,kh,aa]
 have e1:cU (some 4) (.agg [a,b,w,.int .i64 n])=true:=by
  simp[cU,ha.1,hb.1,hw.1,HW]
 have e2:AV.cells (.agg [a,b,w,.int .i64 n])=[a,b,w,.int .i64 n]:=rfl;have e3:e.drop 4=[]:=jq (by omega);simp[cK,Sh.size,he,e1,e2,bJ,e3]
theorem vE {m:af} {c:Nat} {a b w n:AV} (h:m.get c=some (.obj true [a,b,w,n])):ai (some 4) m (.ptr c 0)=some (.agg [a,b,w,n]):=by
 rw[bV,h];rfl
theorem qh4 {m0:af} {arms:AV} (h0:c9 m0 s F arms most l) (hm:most≠0) {id:Int} (hid:¬(0<=id/\id < l.length)) (y:AV) :
  ∃ m',AC ae 17 [.ptr s 0,.int .i64 id,y] m0=some (.tup [aq,.int .i64 1],m')/\Fr m0 m' []:=by
 have f1:Fr m0 (m0++[some (Ent.obj true [.ptr s 0])]) []:=Fr.app m0 _ _;have h1:=h0.app f1;have l0:ai none (m0++[some (Ent.obj true [.ptr s 0])]) (.ptr m0.length 0)=some (.ptr s 0):=mW (bG rfl);have e80:=xS h1 hm;have e81:=FJ h1 id;rw[cT hid] at e81
 have e41:AC ae 41 [.ptr s 0,.int .i64 id] (m0++[some (Ent.obj true [.ptr s 0])])=some (.tup [aq,.int .i64 1],m0++[some (Ent.obj true [.ptr s 0])]):=by
  rw[L8,L4,e80,aa,gO,e81,aa,n9,aa,nH,iV,aa,kL,aa,kM,aa]
 refine ⟨_,?_,f1⟩;rw[HG,oZ,aa,l0,aa,e41,aa,kL,aa,kM,aa,gZ,aa,aA,an (by omega)]
abbrev cZ:AV:=.agg [aq,aq,aq,.int .i64 0]
theorem KY {m0:af} {x:AV} {id c e:Int} {y v:AV} (he:e≠0) (hw:∃ m',AC ae 17 [x,.int .i64 id,y] (m0++[some (Ent.obj true [aq,aq,aq,.int .i64 0])])=some (.tup [v,.int .i64 e],m')/\Fr (m0++[some (Ent.obj true [aq,aq,aq,.int .i64 0])]) m' []) :
  ∃ m',AC ae 50 [x,.int .i64 id,y,.int .i64 c] m0=some (.tup [cZ,.int .i64 e],m')/\Fr m0 m' []:=by
 obtain ⟨m1,e17,f1⟩:=hw;have f0:Fr m0 (m0++[some (Ent.obj true [aq,aq,aq,.int .i64 0])]) []:=Fr.app m0 _ _;have f01:=Fr.trans f0 f1 fun _ h=>by cases h
 have hg:m1.get m0.length=some (.obj true [aq,aq,aq,.int .i64 0]):=by rw[f1.get _ (by simp) (by simp),bG rfl]
 have st:=xH (a:=aq) (b:=aq) (w:=aq) (n:=0) hg rfl ⟨rfl,rfl⟩ ⟨rfl,rfl⟩ ⟨rfl,rfl⟩;have hb:fU cZ []=some cZ:=rfl;refine ⟨m1.set m0.length (some (.obj true [aq,aq,aq,.int .i64 0])),?_,f01.set _ (.inr (aR _))⟩;rw[L9,BR,uk,e17,aa,kL,aa,kM,aa,gZ,aa,aA,an he,hb,aa,st,aa,vE (cL rfl (bC hg)),aa]
theorem qf0 {m0:af} {x:AV} {id c:Int} {y v:AV} (hc:¬(0<=c/\c<=2147483647)) (hw:∃ m',AC ae 17 [x,.int .i64 id,y] (m0++[some (Ent.obj true [aq,aq,aq,.int .i64 0])])=some (.tup [v,.int .i64 0],m')/\Fr (m0++[some (Ent.obj true [aq,aq,aq,.int .i64 0])]) m' []) :
  ∃ m',AC ae 50 [x,.int .i64 id,y,.int .i64 c] m0=some (.tup [cZ,.int .i64 1],m')/\Fr m0 m' []:=by
 obtain ⟨m1,e17,f1⟩:=hw;have f0:Fr m0 (m0++[some (Ent.obj true [aq,aq,aq,.int .i64 0])]) []:=Fr.app m0 _ _;have f01:=Fr.trans f0 f1 fun _ h=>by cases h
 have hg:m1.get m0.length=some (.obj true [aq,aq,aq,.int .i64 0]):=by rw[f1.get _ (by simp) (by simp),bG rfl]
 have st:=xH (a:=aq) (b:=aq) (w:=aq) (n:=0) hg rfl ⟨rfl,rfl⟩ ⟨rfl,rfl⟩ ⟨rfl,rfl⟩;have hb:fU cZ []=some cZ:=rfl;refine ⟨m1.set m0.length (some (.obj true [aq,aq,aq,.int .i64 0])),?_,f01.set _ (.inr (aR _))⟩;rw[L9,BR,uk,e17,aa,kL,aa,kM,aa,gZ,aa,aA,aj (by omega),bc,aa,aA]
 by_cases h:c < 0
 ·rw[an h,hb,aa,st,aa,vE (cL rfl (bC hg)),aa]
 ·rw[aj h,gY,aa,aA,an (by omega),hb,aa,st,aa,vE (cL rfl (bC hg)),aa]
theorem qf1 {m0:af} (h0:c9 m0 s F (IA zs os ar) most l) (hm:most≠0) (g:GoodL ar l) (dd:l.length<=4000) (h1:∀ x∈ar,1<=x/\x<=64) (fV:ar.length<=16) {id:Nat} (hid:id < l.length) (w9:dD l (Vi l id [])=l) {L:OL} (h64:∀ r∈L.es,r.ns.length<=64) (mN:L.es.length<=40) (hz:∀ r∈L.es,r.z=false) (p9:L.fr=L) (hO:Pq.oddsB ⟨zs,os,ar⟩ L=true) {c:Int} (hc:0<=c/\c<=2147483647) :
  ∃ (m':af) (tk:Nat) (x:AV) (ws:List RV) (T:List Nat),AC ae 50 [.ptr s 0,.int .i64 id,L.av,.int .i64 c] m0=some (.tup [cA (gG L) false (.tok tk 74) l x c,.int .i64 0],m')/\Fr m0 m' []/\WA m' x ws T/\(∀ t∈T,m0.length<=t)/\ws.length=l.length/\∀ k (h:k < ws.length),WC (PM ar (bH L) ar.length 0) ws[k] (Hc ar (bH L) l c k):=by
 have bf:=Pg h64 hO;obtain ⟨tR,jy⟩:=Hv bf.all fV;have f0:Fr m0 (m0++[some (Ent.obj true [aq,aq,aq,.int .i64 0])]) []:=Fr.app m0 _ _;have h0':=h0.app f0;obtain ⟨m1,xw,En,Tw,e17,f1,_⟩:=TI h0' hm g (by omega) h1 fV hid h64 mN hO;have f01:=Fr.trans f0 f1 fun _ h=>by cases h
 have l0:(m0++[some (Ent.obj true [aq,aq,aq,.int .i64 0])]).length=m0.length+1:=by simp
 have l1:=f1.len;have yS:m1.get m0.length=some (.obj true [aq,aq,aq,.int .i64 0]):=by rw[f1.get _ (by simp) (by simp),bG rfl]
 have p109:aC (AP ae) none m1 109 [L.av]=some ((gG L).av,m1):=by
  rw[cG (Pq.fz_ol L),p9,qg9 (fun r hr=>⟨hz r hr,by have:=h64 r hr;omega⟩) (by omega)];rfl
 have hb:fU (.agg [aq,aq,aq,.int .i64 0]) [(0,none,(gG L).av),(3,none,.int .i64 c)]=some (.agg [(gG L).av,aq,aq,.int .i64 c]):=rfl
 have st1:aM (some 4) (m1++[some (.obj true [aq,aq,aq,.int .i64 0])]) (.ptr m1.length 0) (.agg [(gG L).av,aq,aq,.int .i64 c])=some (m1++[some (.obj true [(gG L).av,aq,aq,.int .i64 c])]):=by
  rw[xH (a:=(gG L).av) (b:=aq) (w:=aq) (n:=c) (bG rfl) rfl ⟨rfl,rfl⟩ ⟨rfl,rfl⟩ ⟨rfl,rfl⟩,pV m1 _ _ rfl]
 have f2:Fr m0 (m1++[some (.obj true [(gG L).av,aq,aq,.int .i64 c])]) []:=f01.snoc _;have h2:=h0.app f2;have g2:(m1++[some (Ent.obj true [(gG L).av,aq,aq,.int .i64 c])]).get m1.length=some (.obj true [(gG L).av,aq,aq,.int .i64 c]):=bG rfl;have l2:(m1++[some (Ent.obj true [(gG L).av,aq,aq,.int .i64 c])]).length=m1.length+1:=by simp
 generalize fS:m1++[some (Ent.obj true [(gG L).av,aq,aq,.int .i64 c])]=m2 at st1 f2 h2 g2 l2;obtain ⟨m3,y,Ty,e43,hn,f3⟩:=A25 h2 g (by omega) hm hid;rw[w9] at hn;have hne:l≠[]:=fun e=>by subst e;simp at hid
 obtain ⟨tk,rfl⟩:=Jn hn hne;have g3:m3.get m1.length=some (.obj true [(gG L).av,aq,aq,.int .i64 c]):=by rw[f3.get _ (by omega) (by simp)];exact g2
 have st3:aM none m3 (.ptr m1.length (0+1)) (NL false (.tok tk 74) l)=some (m3.set m1.length (some (.obj true [(gG L).av,NL false (.tok tk 74) l,aq,.int .i64 c]))):=by
  rw[qt,g3,kh,aa];simp[cK,Sh.size,cU,dG,AV.cells,bJ]
 have g3l:=bC g3;have f23:Fr m0 m3 []:=Fr.trans f2 f3 fun _ h=>by cases h
 have f4:Fr m0 (m3.set m1.length (some (.obj true [(gG L).av,NL false (.tok tk 74) l,aq,.int .i64 c]))) []:=f23.set _ (.inr (by omega));have g4:af.get (m3.set m1.length (some (Ent.obj true [(gG L).av,NL false (.tok tk 74) l,aq,.int .i64 c]))) m1.length=some (.obj true [(gG L).av,NL false (.tok tk 74) l,aq,.int .i64 c]):=cL rfl g3l;have l3:=f3.len;have ld1:ai none (m3.set m1.length (some (Ent.obj true [(gG L).av,NL false (.tok tk 74) l,aq,.int .i64 c]))) (.ptr m1.length (0+1))=some (NL false (.tok tk 74) l):=by rw[bV,g4];rfl
 generalize yY:m3.set m1.length (some (Ent.obj true [(gG L).av,NL false (.tok tk 74) l,aq,.int .i64 c]))=m4 at st3 f4 g4 ld1;have l4:m4.length=m3.length:=by rw[<- yY,a8]
 have qml:af.get m4 m0.length=some (.obj true [aq,aq,aq,.int .i64 0]):=by
  rw[<- yY,cw (by omega),f3.get _ (by omega) (by simp),<- fS,bU (by omega)];exact yS
 obtain ⟨m5,x5,ws,T,e9,f5,g5,zd,_,gr5,hlen,hws⟩:=X50 (qkZ bf) (UC L) g h1 c (by rw[UE]) tR jy dd (c12:=m1.length) (z:=false) (o:=.tok tk 74) (.ptr m0.length 0) (Gf (aE ae.P f50.results.toList)) l.length 0 m4 aq [] [] (by omega) g4 .none (by simp) rfl (by simp);have e9:C1 (.int .i64 c) (.ptr m0.length 0) (.ptr m1.length 0) (NL false (.tok tk 74) l) (.int .i64 l.length) (.int .i64 0) m4 (Gf (aE ae.P f50.results.toList))=_:=e9;rw[UE] at hws
 have g85:m5.get m0.length=some (.obj true [aq,aq,aq,.int .i64 0]):=by
  rw[f5.get _ (by omega) (by simp;omega)];exact qml
 obtain ⟨a1,a2⟩:=Ck zd;have st5:=xH (a:=(gG L).av) (b:=NL false (.tok tk 74) l) (w:=x5) (n:=c) g85 rfl ⟨rfl,rfl⟩ ⟨rfl,rfl⟩ ⟨a1,a2⟩
 have f05:Fr m0 m5 []:=Fr.trans f4 f5 fun a ha=>by
  simp only[gA,Dc,or_false] at ha;exact .inr (by omega)
 refine ⟨m5.set m0.length (some (.obj true [(gG L).av,NL false (.tok tk 74) l,x5,.int .i64 c])),tk,x5,ws,T,?_,f05.set _ (.inr (aR _)),?_,?_,hlen,hws⟩
 ·rw[L9,BR,uk,e17,aa,kL,aa,kM,aa,gZ,aa,aA,aj (by omega),bc,aa,aA,aj (by omega),gY,aa,aA,aj (by omega),p109,aa];dsimp only;rw[hb,aa,BR,uk,st1,aa,e43,aa,kL,aa,kM,aa,cJ,aa];dsimp only;rw[st3,aa,aa,ld1,aa,BH,aa,e9,qez,vE g5,aa,st5,aa,vE (cL rfl (bC g85)),aa]
 ·refine vS zd fun t ht=>cw ?_
  rcases gr5 t ht with h | h
  ·cases h
  ·omega
 ·intro t ht
  rcases gr5 t ht with h | h
  ·cases h
  ·omega
end
end Go.Ab
