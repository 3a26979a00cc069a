/- proof.Make, by value: the certificate, and the errors. -/
import Derived.Test.YtiipgpkgcdhbfaaGreatDoorDP5
import Derived.Test.YtiipgpkgcdhbfaaGreatDoorDP2
import Derived.Test.YtiipgpkgcdhbfaaGreatDoorDP0
import Derived.Test.YtiipgpkgcdhbfaaGreatDoorProg
import Derived.Tactics
import Derived.Tactics2
import Derived.Defers
import Derived.Recover
import Derived.Laws.Pointers
import Derived.ProofKit
import Derived.OpenShut
import Derived.ChangeArms
import Derived.Test.YtiipgpkgcdhbfaaGreatDoorDP3
import Derived.Test.YtiipgpkgcdhbfaaGreatDoorDP1
import Derived.LaidMore
import Derived.Lay
import Derived.KernelRfl
import Derived.Test.YtiipgpkgcdhbfaaGreatDoorRows
set_option maxRecDepth 100000
set_option linter.unusedVariables false
set_option linter.unusedSimpArgs false
set_option linter.unusedSectionVars false
namespace Go.Ab
open Go.Proofs Go.Proofs.Tryz
section
variable {ar:List Int} {L:OL} {l:List ND} {M:Nat}
theorem qpb {m:af} {c:Nat} {a b w w':AV} {n:Int} (h:m.get c=some (.obj true [a,b,w,.int .i64 n])) (hv:di w'=true) (hc:w'.cells=[w']):aL none m (.ptr c (0+2)) w'=some (m.set c (some (.obj true [a,b,w',.int .i64 n]))):=by
 rw[qL,h,kD,aa];simp[cS,Sh.size,c9,hv,hc,bP]
theorem PC {m:af} {x:AV} {ws:List RV} {T:List Nat} (h:WA m x ws T):di x=true/\x.cells=[x]:=by
 cases h with
 | none=>exact ⟨rfl,rfl⟩
 | some t ws ht hne=>exact ⟨rfl,rfl⟩
theorem X50 (hO:OddsOk ar L) (wz:L.fr=L) (g:GoodL ar l) (h1:∀ x∈ar,1<=x/\x<=64) (c:Int) (hM:M=PM ar (bf L) ar.length 0) (h0:M≠0) (mY:M < 4294967296 ^ 8) (eE:l.length<=4000) {c12:Nat} {z:Bool} {o:Own} (x8:AV) (K:KT):∀ (d i:Nat) (m:af) (x:AV) (ws:List RV) (T:List Nat),i+d=l.length ->
  m.get c12=some (.obj true [L.av,NL z o l,x,.int .i64 c])->WA m x ws T->(∀ t∈T,c12 < t)->ws.length=i->(∀ k (h:k < ws.length),WC M ws[k] (Hc ar (bf L) l c k)) ->
  ∃ (m':af) (x':AV) (ws':List RV) (T':List Nat),Cu (.int .i64 c) x8 (.ptr c12 0) (NL z o l) (.int .i64 l.length) (.int .i64 i) m K=K (.exit 0) (K6 x8 (.ptr c12 0) m')/\Fr m m' (c12::T)/\m'.get c12=some (.obj true [L.av,NL z o l,x',.int .i64 c])/\WA m' x' ws' T'/\(∀ t∈T',c12 < t)/\Gr m T T'/\ws'.length=l.length/\∀ k (h:k < ws'.length),WC M ws'[k] (Hc ar (bf L) l c k):=by
 intro d
 induction d with
 | zero=>
  intro i m x ws T hi hg hw hT hl hws;refine ⟨m,x,ws,T,?_,Fr.refl _ _,hg,hw,hT,Gr.refl _ _,by omega,hws⟩;rw[Q0,bh,aa,aA,ai (by omega)]
 | succ d ih=>
  intro i m x ws T hi hg hw hT hl hws;have b6:i < l.length:=by omega
  have tJ:=bF hg;have gW:=NN (z:=z) (o:=o) b6;have bx:=Hn l[i] m (HN m);have f4:Fr m (m++[some (Ent.obj true [.int .i64 l[i].var,dP l[i],.int .i64 l[i].leaf])]) []:=Fr.app m _ _
  have ld2:aj (some 3) (m++[some (Ent.obj true [.int .i64 l[i].var,dP l[i],.int .i64 l[i].leaf])]) (.ptr m.length 0)=some l[i].av:=by
   rw[dQ,bJ rfl];rfl
  generalize yB:m++[some (Ent.obj true [.int .i64 l[i].var,dP l[i],.int .i64 l[i].leaf])]=m4 at bx f4 ld2;have NJ:WA m4 x ws T:=ET hw fun t ht=>f4.get t (Jz hw t ht) (by simp);have MT:m4.get c12=some (.obj true [L.av,NL z o l,x,.int .i64 c]):=by rw[f4.get _ tJ (by simp)];exact hg
  obtain ⟨m5,sm,e110,wsm,f5⟩:=ZN hO wz g h1 c hM h0 mY b6 (fun k h=>(hws k h).wv) (by omega) NJ;have Ij:WA m5 x ws T:=ET NJ fun t ht=>f5.get t (Jz NJ t ht) (by simp);have HY:m5.get c12=some (.obj true [L.av,NL z o l,x,.int .i64 c]):=by rw[f5.get _ (bF MT) (by simp)];exact MT
  obtain ⟨x6,m6,t6,ea,VV,f6,ht6⟩:=qpX Ij (by omega) wsm.wv.fr;have qly:c12∉T:=fun hh=>by have:=hT _ hh;omega
  have Vd:m6.get c12=some (.obj true [L.av,NL z o l,x,.int .i64 c]):=by rw[f6.get _ (bF HY) qly];exact HY
  have hc5:=bF HY;obtain ⟨a1,a2⟩:=PC VV;have st:=qpb Vd a1 a2;have qqi:t6≠c12:=by omega
  have hw7:WA (m6.set c12 (some (.obj true [L.av,NL z o l,x6,.int .i64 c]))) x6 (ws++[sm]) [t6]:=ET VV fun t ht=>by
   simp only[List.mem_singleton] at ht;subst ht;exact cG (by omega)
  have l4:=f4.len;have l5:=f5.len;have f46:Fr m m6 (c12::T):=Fr.trans ((Fr.trans f4 f5 fun _ h=>by cases h).mono (by simp)) f6 fun a ha=>.inl (fJ _ ha);have f47:Fr m (m6.set c12 (some (.obj true [L.av,NL z o l,x6,.int .i64 c]))) (c12::T):=f46.set _ (.inl (by simp))
  obtain ⟨m',x',ws',T',e,k1,k2,k3,k4,k5,k6,k7⟩:=ih (i+1) (m6.set c12 (some (.obj true [L.av,NL z o l,x6,.int .i64 c]))) x6 (ws++[sm]) [t6] (by omega) (c8 rfl (bF Vd)) hw7 (fun t ht=>by
   simp only[List.mem_singleton] at ht
   omega) (by rw[aI,hl];rfl) (fun k hk=>by
   rw[List.getElem_append]
   split
   ·exact hws k _
   ·rename_i hh;rw[aI,tn] at hk;obtain rfl:k=i:=by omega
    simp only[hl,pz,List.getElem_singleton]
    exact wsm)
  have g7:Gr m T [t6]:=fun a ha=>by
   simp only[List.mem_singleton] at ha;exact .inr (by omega)
  refine ⟨m',x',ws',T',?_,Fr.trans f47 k1 (fun a ha=>?_),k2,k3,k4,Gr.trans f47.len g7 k5,k6,k7⟩
  ·have ld0:∀ w,m4.get c12=some (.obj true [L.av,NL z o l,w,.int .i64 c])->aj none m4 (.ptr c12 (0+0))=some L.av/\aj none m4 (.ptr c12 (0+2))=some w:=fun w h=>by
    rw[dQ,dQ,h];exact ⟨rfl,rfl⟩
   obtain ⟨q0,q2⟩:=ld0 x MT;have q5:aj none m5 (.ptr c12 (0+2))=some x:=by rw[dQ,HY];rfl
   rw[Q0,bh,aa,aA,an (by omega),gW,aa,yV,aa,nM,nM];dsimp only;rw[bx,aa,gI,aa,q2,aa,gI,aa,q0,aa,ld2,aa,aa,q2,aa,e110,aa];dsimp only;rw[vr (by rw[q5,aa]),qj2 wsm.wv.fr,aa,ea,aa,aa];dsimp only;rw[st,aa,cB (by omega),aa];exact e
  ·rcases gE.1 ha with rfl | ha
   ·exact .inl (by simp)
   ·simp only[List.mem_singleton] at ha;exact .inr (by omega)
end
def gS (L:OL):OL:=⟨false,.no,L.es.map kr⟩
theorem TM (L:OL):(gS L).fr=gS L:=rfl
theorem qkh (L:OL):(gS L).es.map Pq.IL.ns=L.es.map Pq.IL.ns:=by unfold gS;rw[rW];rfl
theorem LU (L:OL):bf (gS L)=bf L:=by funext u j;unfold bf;rw[qkh]
theorem TN {ar:List Int} {L:OL} (h:OddsOk ar L):OddsOk ar (gS L):=by
 refine ⟨by unfold gS;rw[bX];exact h.len,fun u hu=>?_⟩;have kd:u < L.es.length:=by unfold gS at hu;simpa using hu
 have e:(gS L).es[u].ns=L.es[u].ns:=by
  have:(gS L).es[u]=kr L.es[u]:=rV ..;rw[this];rfl
 obtain ⟨a,b⟩:=h.row u kd;unfold Pq.RowOk at a ⊢;rw[e];exact ⟨a,b⟩
section
variable {s:Nat} {F:List Nat} {zs:Bool} {os:Own} {ar:List Int} {most:Int} {l:List ND}
abbrev cA (L:OL) (z:Bool) (o:Own) (l:List ND) (x:AV) (c:Int):AV:=.agg [L.av,NL z o l,x,.int .i64 c]
theorem Ou (m:af):(az none m (.obj true [au,au,au,.int .i64 0])).2=m++[some (.obj true [au,au,au,.int .i64 0])]:=rfl
theorem Er (m:af):(az none m .resv).1=m.length:=rfl
theorem Pc {m:af} {c:Nat} {e:List AV} {a b w:AV} {n:Int} (h:m.get c=some (.obj true e)) (he:e.length=4) (ha:di a=true/\a.cells=[a]) (hb:di b=true/\b.cells=[b]) (hw:di w=true/\w.cells=[w]):aL (some 4) m (.ptr c 0) (.agg [a,b,w,.int .i64 n])=some (m.set c (some (.obj true [a,b,w,.int .i64 n]))):=by
 rw[qL,h,kD,aa]
 have e1:c9 (some 4) (.agg [a,b,w,.int .i64 n])=true:=by
  simp[c9,ha.1,hb.1,hw.1,LH]
 have e2:AV.cells (.agg [a,b,w,.int .i64 n])=[a,b,w,.int .i64 n]:=rfl;have e3:e.drop 4=[]:=jo (by omega);simp[cS,Sh.size,he,e1,e2,bP,e3]
theorem N3 {m:af} {c:Nat} {a b w n:AV} (h:m.get c=some (.obj true [a,b,w,n])):aj (some 4) m (.ptr c 0)=some (.agg [a,b,w,n]):=by
 rw[dQ,h];rfl
theorem qfp {m0:af} (h0:dC m0 s F (IA zs os ar) most l) (hm:most≠0) (g:GoodL ar l) (eE:l.length<=4000) (h1:∀ x∈ar,1<=x/\x<=64) (cH:ar.length<=16) {id:Nat} (hid:id < l.length) (vo:dn l (Vi l id [])=l) {L:OL} (h64:∀ r∈L.es,r.ns.length<=64) (oS:L.es.length<=40) (hz:∀ r∈L.es,r.z=false) (wz:L.fr=L) (hO:Pq.oddsB ⟨zs,os,ar⟩ L=true) {c:Int} (hc:0<=c/\c<=2147483647) :
  ∃ (m':af) (tk:Nat) (x:AV) (ws:List RV) (T:List Nat),AC ae 50 [.ptr s 0,.int .i64 id,L.av,.int .i64 c] m0=some (.tup [cA (gS L) false (.tok tk 74) l x c,.int .i64 0],m')/\Fr m0 m' []/\WA m' x ws T/\(∀ t∈T,m0.length<=t)/\ws.length=l.length/\∀ k (h:k < ws.length),WC (PM ar (bf L) ar.length 0) ws[k] (Hc ar (bf L) l c k):=by
 have bg:=OD h64 hO;obtain ⟨rn,mY⟩:=CN bg.all cH;have f0:Fr m0 (m0++[some (Ent.obj true [au,au,au,.int .i64 0])]) []:=Fr.app m0 _ _;have h0':=h0.app f0;obtain ⟨m1,xw,En,Tw,e17,f1,_⟩:=qho h0' hm g (by omega) h1 cH hid h64 oS hO;have f01:=Fr.trans f0 f1 fun _ h=>by cases h
 have l0:(m0++[some (Ent.obj true [au,au,au,.int .i64 0])]).length=m0.length+1:=by simp
 have l1:=f1.len;have hg8:m1.get m0.length=some (.obj true [au,au,au,.int .i64 0]):=by rw[f1.get _ (by simp) (by simp),bJ rfl]
 have p109:aD (AP ae) none m1 109 [L.av]=some ((gS L).av,m1):=by
  rw[cJ (Pq.fz_ol L),wz,qgu (fun r hr=>⟨hz r hr,by have:=h64 r hr;omega⟩) (by omega)];rfl
 have hb:gm (.agg [au,au,au,.int .i64 0]) [(0,none,(gS L).av),(3,none,.int .i64 c)]=some (.agg [(gS L).av,au,au,.int .i64 c]):=rfl
 have st1:aL (some 4) (m1++[some (.obj true [au,au,au,.int .i64 0])]) (.ptr m1.length 0) (.agg [(gS L).av,au,au,.int .i64 c])=some (m1++[some (.obj true [(gS L).av,au,au,.int .i64 c])]):=by
  rw[Pc (a:=(gS L).av) (b:=au) (w:=au) (n:=c) (bJ rfl) rfl ⟨rfl,rfl⟩ ⟨rfl,rfl⟩ ⟨rfl,rfl⟩,qg m1 _ _ rfl]
 have f2:Fr m0 (m1++[some (.obj true [(gS L).av,au,au,.int .i64 c])]) []:=f01.snoc _;have h2:=h0.app f2;have g2:(m1++[some (Ent.obj true [(gS L).av,au,au,.int .i64 c])]).get m1.length=some (.obj true [(gS L).av,au,au,.int .i64 c]):=bJ rfl;have l2:(m1++[some (Ent.obj true [(gS L).av,au,au,.int .i64 c])]).length=m1.length+1:=by simp
 generalize fU:m1++[some (Ent.obj true [(gS L).av,au,au,.int .i64 c])]=m2 at st1 f2 h2 g2 l2;obtain ⟨m3,y,Ty,e43,hn,f3⟩:=ZR h2 g (by omega) hm hid;rw[vo] at hn;have hne:l≠[]:=fun e=>by subst e;simp at hid
 obtain ⟨tk,rfl⟩:=OA hn hne;have g3:m3.get m1.length=some (.obj true [(gS L).av,au,au,.int .i64 c]):=by rw[f3.get _ (by omega) (by simp)];exact g2
 have st3:aL none m3 (.ptr m1.length (0+1)) (NL false (.tok tk 74) l)=some (m3.set m1.length (some (.obj true [(gS L).av,NL false (.tok tk 74) l,au,.int .i64 c]))):=by
  rw[qL,g3,kD,aa];simp[cS,Sh.size,c9,di,AV.cells,bP]
 have g3l:=bF g3;have f23:Fr m0 m3 []:=Fr.trans f2 f3 fun _ h=>by cases h
 have f4:Fr m0 (m3.set m1.length (some (.obj true [(gS L).av,NL false (.tok tk 74) l,au,.int .i64 c]))) []:=f23.set _ (.inr (by omega));have g4:af.get (m3.set m1.length (some (Ent.obj true [(gS L).av,NL false (.tok tk 74) l,au,.int .i64 c]))) m1.length=some (.obj true [(gS L).av,NL false (.tok tk 74) l,au,.int .i64 c]):=c8 rfl g3l;have l3:=f3.len;have ld1:aj none (m3.set m1.length (some (Ent.obj true [(gS L).av,NL false (.tok tk 74) l,au,.int .i64 c]))) (.ptr m1.length (0+1))=some (NL false (.tok tk 74) l):=by rw[dQ,g4];rfl
 generalize yB:m3.set m1.length (some (Ent.obj true [(gS L).av,NL false (.tok tk 74) l,au,.int .i64 c]))=m4 at st3 f4 g4 ld1;have l4:m4.length=m3.length:=by rw[<- yB,a8]
 have qlF:af.get m4 m0.length=some (.obj true [au,au,au,.int .i64 0]):=by
  rw[<- yB,cG (by omega),f3.get _ (by omega) (by simp),<- fU,bY (by omega)];exact hg8
 obtain ⟨m5,x5,ws,T,e9,f5,g5,Ij,_,gr5,hlen,hws⟩:=X50 (TN bg) (TM L) g h1 c (by rw[LU]) rn mY eE (c12:=m1.length) (z:=false) (o:=.tok tk 74) (.ptr m0.length 0) (FD (aE ae.P f50.results.toList)) l.length 0 m4 au [] [] (by omega) g4 .none (by simp) rfl (by simp);have e9:Cu (.int .i64 c) (.ptr m0.length 0) (.ptr m1.length 0) (NL false (.tok tk 74) l) (.int .i64 l.length) (.int .i64 0) m4 (FD (aE ae.P f50.results.toList))=_:=e9;rw[LU] at hws
 have g85:m5.get m0.length=some (.obj true [au,au,au,.int .i64 0]):=by
  rw[f5.get _ (by omega) (by simp;omega)];exact qlF
 obtain ⟨a1,a2⟩:=PC Ij;have st5:=Pc (a:=(gS L).av) (b:=NL false (.tok tk 74) l) (w:=x5) (n:=c) g85 rfl ⟨rfl,rfl⟩ ⟨rfl,rfl⟩ ⟨a1,a2⟩
 have f05:Fr m0 m5 []:=Fr.trans f4 f5 fun a ha=>by
  simp only[gE,CE,or_false] at ha;exact .inr (by omega)
 refine ⟨m5.set m0.length (some (.obj true [(gS L).av,NL false (.tok tk 74) l,x5,.int .i64 c])),tk,x5,ws,T,?_,f05.set _ (.inr (aQ _)),?_,?_,hlen,hws⟩
 ·rw[T50,Ou,Er,e17,aa,rj,aa,rl,aa,jg,aa,aA,ai (by omega),bh,aa,aA,ai (by omega),ir,aa,aA,ai (by omega),p109,aa];dsimp only;rw[hb,aa,Ou,Er,st1,aa,e43,aa,rj,aa,rl,aa,gI,aa];dsimp only;rw[st3,aa,aa,ld1,aa,Wz,aa,e9,qd4,N3 g5,aa,st5,aa,N3 (c8 rfl (bF g85)),aa]
 ·refine ET Ij fun t ht=>cG ?_
  rcases gr5 t ht with h | h
  ·cases h
  ·omega
 ·intro t ht
  rcases gr5 t ht with h | h
  ·cases h
  ·omega
end
end Go.Ab
namespace Go.Ab
open Go.Proofs Go.Proofs.Tryz
structure HJ (m0 m:af) (cc nn:List AV) (s:RV):Prop where
 fr:Fr m0 m []
 g0:m.get m0.length=some (.obj true cc)
 g1:m.get (m0.length+1)=bZ
 g2:m.get (m0.length+2)=some (.obj true nn)
 g3:m.get (m0.length+3)=bR s
section
variable {ar:List Int} {L:OL} {l:List ND} {M:Nat}
end
end Go.Ab
namespace Go.Ab
open Go.Proofs Go.Proofs.Tryz
section
variable {ar:List Int} {L:OL} {l:List ND} {M:Nat}
end
section
variable {l:List ND}
end
end Go.Ab
namespace Go.Ab.Pq
open Go.Proofs.Tryz
def oh:CV:=⟨⟨true,.full,[]⟩,⟨some 3,false,.full,[⟨-1,y0,4⟩]⟩,⟨some 3,false,.full,[nr]⟩,4⟩
theorem qhD:COk 30 oh.fr:=⟨by simp[oh,CV.fr,OL.fr],.inl rfl,by simp[oh,CV.fr,NL.fr],⟨.inl rfl,(fun h=>by cases h),by simp[oh,CV.fr,LV.fr,Et],by
 intro r hr;have:r=nr:=by simpa [oh,CV.fr,LV.fr] using hr
 rw[this]
 exact (xX.ok (JI (by omega)) (by omega))⟩,by simp[oh,CV.fr,LV.fr]⟩
theorem qhF:shapedB oh.fr=true:=by
 have h1:nt nr=true:=Tz xX;simp[shapedB,oh,CV.fr,OL.fr,NL.fr,LV.fr,oddsB,nodesB,uJ,nodeB,armsI,lens,h1,y0]
theorem qhE:okAt oh.fr 0=true:=by
 unfold okAt;refine dD ?_;have e1:wQ oh.fr.ws 0=1:=xX.q;rw[e1]
 rfl
theorem qhC:checkE oh.fr=0/\checkQ oh.fr=1:=by
 have e:checkE oh.fr=0:=by
  unfold checkE;rw[an qhF]
  show (match firstF (okAt oh.fr) 1 0 with | none=>(0:Int) | some _=>32)=0
  rw[firstF,an qhE];rfl
 refine ⟨e,?_⟩;unfold checkQ;rw[an e];exact xX.q
theorem pcall10 {m:af} {d:Option Nat}:aD (AP ae) d m 46 []=some (.bool true,m):=by
 have h10:AP ae 46 []=some (.bool true):=by
  obtain ⟨e1,e2⟩:=qhC;obtain ⟨r,r1,r2,r3,r4⟩:=V53 qhD;rw[e1] at r1;rw[e2] at r2;have e9:=Sp r4 (xX.ok (JI (by omega:1<=4000)) (by omega)) (by omega) (by omega);rw[r2,xX.q] at e9;refine cO _ _ (qv _) rfl (m:=[cC oh,cR r]) ?_;have b1:gm (.agg [.int .i64 0,.lst none true .full [],.int .i64 0]) [(0,none,.int .i64 (-1)),(2,none,.int .i64 4)]=some (ND.av ⟨-1,y0,4⟩):=rfl;have b2:dO (some 3) [ND.av ⟨-1,y0,4⟩]=some (.lst (some 3) false .full [ND.av ⟨-1,y0,4⟩]):=rfl;have b3:gm (.agg [.lst none true .full [],.lst none true .full [],.lst none true .full [],.int .i64 0]) [(1,none,.lst (some 3) false .full [ND.av ⟨-1,y0,4⟩]),(2,none,.lst (some 3) false .full [nr.av]),(3,none,.int .i64 4)]=some oh.av:=rfl;have start:AC ae 46 [] []=AC ae 46 [] []:=rfl
  conv at start=>rhs;rw[T46,b1,aa,b2,aa,dp,Lv,aR,aa,qj5 Et,aa,b3,aa]
  simp only[qnx,cY,aP,bV] at start;rw[qkv (x:=zC) rfl,aa] at start;simp only[cZ] at start;rw[TO (x:=oh) rfl,aa,cJ (Ut _),r1,aR,aa,dM,aa,dN,aa,ee,aa] at start;simp only[Bs,cY,aP,bV,aJ,cn,bp] at start;rw[dw,aa,iS,aa,dD rfl,oH,dk,aa,dp,Lv,aR,aa,dr,r3,Et,e9,aR,aa] at start;rw[start]
  rfl
 rw[zb,h10];rfl
end Go.Ab.Pq
namespace Go.Ab
open Go.Proofs Go.Proofs.Tryz
def pN (n:ND):Pq.ND:=⟨n.var,⟨kz n,ko n,n.kids⟩,n.leaf⟩
theorem qnX {n:ND} (h:n.ok):(pN n).av=n.av:=by
 unfold ND.av;rw[ua h];rfl
end Go.Ab
namespace Go.Ab
open Go.Proofs Go.Proofs.Tryz
theorem qkX {m:af} {L:OL} {z:Bool} {o:Own} {l:List ND} {x:AV} {ws:List RV} {T:List Nat} {c:Int} (k:Nat) (hw:WA m x ws T) (hf:∀ r∈ws,r.fr=r) (hL:L.fr=L):bG m (k+3) (cA L z o l x c)=some (cA L z o.fr l (wv ws).av c,T):=by
 have q1:bG m (k+2) L.av=some (L.av,[]):=by
  have:=Pq.fza_ol L m (k+1);rw[hL] at this;exact this
 have q2:bG m (k+2) (NL z o l)=some (NL z o.fr l,[]):=qw (some 3) z o (l.map ND.av) m (k+1);have q3:=qk1 (k:=k) hw hf;have q4:bG m (k+2) (.int .i64 c)=some (.int .i64 c,[]):=rfl;show (eY (bG m (k+2)) [L.av,NL z o l,x,.int .i64 c]).map _=_;simp only[eY,q1,q2,q3,q4,aa,aR,bV,cm]
theorem qn6 {m:af} {L:OL} {z:Bool} {o:Own} {l:List ND} {x:AV} {ws:List RV} {T:List Nat} {c:Int} (hw:WA m x ws T) (hf:∀ r∈ws,r.fr=r) (hL:L.fr=L) :
  aD (AP ae) none m 53 [cA L z o l x c]=(AP ae 53 [cA L z o.fr l (wv ws).av c]).map fun v=>(v,ju m T):=by
 have e1:bG m j6 (cA L z o l x c)=some (cA L z o.fr l (wv ws).av c,T):=qkX 6 hw hf hL;simp only[aD,eY,e1,aa,aR,cm,Option.isSome_none,lY,jX,me]
def pC (L:OL) (P:List ND) (V:LV) (c:Int):Pq.CV:=⟨L,⟨some 3,false,.no,P.map pN⟩,V,c⟩
theorem qnW {L:OL} {P:List ND} {V:LV} {c:Int} (h:∀ n∈P,n.ok):(pC L P V c).av=cA L false .no P V.av c:=by
 have e:(P.map pN).map Pq.ND.av=P.map ND.av:=by
  rw[rW];exact List.map_congr_left fun n hn=>qnX (h n hn)
 show AV.agg [L.av,.lst (some 3) false .no ((P.map pN).map Pq.ND.av),V.av,.int .i64 c]=_;rw[e]
section
variable {ar:List Int} {L:OL} {P:List ND} {V:LV} {c:Int}
theorem qm2 (hO:OddsOk ar L):Pq.lens L=ar:=by
 refine List.ext_getElem (by unfold Pq.lens;rw[bX];exact hO.len) fun i h1 h2=>?_;have hi:i < L.es.length:=by rw[hO.len];exact h2
 have:=(hO.row i hi).2;rw[Pq.lens_get hi,this,aS,bD h2];rfl
theorem Uk {f:Nat->Bool}:∀ (j i:Nat),(∀ k,i<=k->k < i+j->f k=true)->Pq.firstF f j i=none
 | 0,_,_=>rfl
 | j+1,i,h=>by
  rw[Pq.firstF,an (h i (aQ _) (by omega))];exact Uk j (i+1) fun k h1 h2=>h k (by omega) (by omega)
theorem qoX (hO:OddsOk ar L) (cH:ar.length<=16) (h1:∀ x∈ar,1<=x/\x<=64) (hR:oQ ar (P.map jV)) (AN:0 < P.length) (hc:0<=c/\c<=2147483647) (hlen:V.es.length=P.length) (hr:∀ r∈V.es,nt r=true):Pq.shapedB (pC L P V c)=true:=by
 have Vu:=qm2 hO
 have h64:∀ r∈L.es,1<=r.ns.length/\r.ns.length<=64:=fun r hr=>by
  obtain ⟨i,hi,rfl⟩:=CD.1 hr;have hi2:i < ar.length:=by rw[<- hO.len];exact hi
  have:=(hO.row i hi).2;rw[aS,bD hi2,dh] at this;have:=h1 _ (bS hi2);omega
 have hb:Pq.oddsB (Pq.armsI (Pq.lens L)) L=true:=by
  have:=qnG (zs:=false) (os:=.no) (fun r hr=>(h64 r hr).2) hO;unfold Pq.oddsB at this ⊢;rw[Pq.armsI_ns,Vu];exact this
 have hn:Pq.nodesB (Pq.armsI (Pq.lens L)) (P.map pN)=true:=by
  unfold Pq.nodesB;rw[b7,bX];refine ⟨dD AN,Pq.allF_iff.2 fun k _ hk=>?_⟩;have hk:k < P.length:=by omega
  have e1:(P.map pN).getD k Pq.zN=pN P[k]:=by rw[aS,oO,bD hk];rfl
  have e2:=hR k (by rw[bX];exact hk);rw[Am hk] at e2;rw[e1];unfold nq at e2;unfold Pq.nodeB;rw[Pq.armsI_ns,Vu];have ev:(jV P[k]).var=(pN P[k]).var:=rfl
  by_cases hv:(pN P[k]).var=-1
  ·rw[an (ev.trans hv)] at e2;rw[an hv];have:=sV e2;exact dD ⟨by show P[k].kids.length=0;rw[show P[k].kids=[] from this.1];rfl,this.2⟩
  ·rw[ai (fun h=>hv (ev.symm.trans h)),b7] at e2;rw[ai hv,b7];refine ⟨e2.1,ga.2 fun q hq=>?_⟩;have h2:=ga.1 e2.2 q hq;unfold kidB at h2;unfold Pq.kidB;rw[b7] at h2 ⊢;refine ⟨h2.1,?_⟩;have hlt:=sV h2.1;have ht:q.toNat < P.length:=by omega
   have e3:Pq.varAt (P.map pN) q.toNat=P[q.toNat].var:=by
    unfold Pq.varAt;rw[aS,oO,oO,bD ht];rfl
   have h4:=sV h2.2;rw[Am ht] at h4;rw[e3,zH]
   rcases h4 with h4 | h4
   ·exact .inl (dD (by have:P[q.toNat].var=-1:=h4;omega))
   ·exact .inr (dD h4)
 unfold Pq.shapedB pC;dsimp only;rw[hb,hn];simp only[b7,iL,ga,oq];refine ⟨⟨by rw[hO.len];exact cH,hc.1,hc.2,by rw[bX];exact hlen⟩,fun r h=>dD (h64 r h),hr⟩
theorem qnJ (hO:OddsOk ar L) (g:GoodL ar P) (h1:∀ x∈ar,1<=x/\x<=64) {M:Nat} (hM:M=PM ar (bf L) ar.length 0) (h0:M≠0) {i:Nat} (hi:i < P.length) (hw:∀ j,j < i->Pq.wQ V j=cT false (Hc ar (bf L) P c j) M):Pq.okAt (pC L P V c) i=decide (Pq.wQ V i=cT false (Hc ar (bf L) P c i) M):=by
 have e1:(pC L P V c).nodes.es.getD i Pq.zN=pN P[i]:=by
  show (P.map pN).getD i Pq.zN=_;rw[aS,oO,bD hi];rfl
 unfold Pq.okAt;rw[e1,show (pC L P V c).ws=V from rfl,show (pC L P V c).odds=L from rfl,show (pC L P V c).leaf=c from rfl,qlu hO g (fun x hx=>(h1 x hx).1) c hM h0 hi (n:=pN P[i]) rfl rfl rfl hw]
theorem qke (hO:OddsOk ar L) (g:GoodL ar P) (cH:ar.length<=16) (h1:∀ x∈ar,1<=x/\x<=64) (hR:oQ ar (P.map jV)) (AN:0 < P.length) (hc:0<=c/\c<=2147483647) {M:Nat} (hM:M=PM ar (bf L) ar.length 0) (h0:M≠0) (hlen:V.es.length=P.length) (hws:∀ k (h:k < V.es.length),WC M V.es[k] (Hc ar (bf L) P c k)) :
  Pq.checkE (pC L P V c)=0/\Pq.checkI (pC L P V c)=0/\Pq.checkQ (pC L P V c)=cT false (Hc ar (bf L) P c (P.length - 1)) M:=by
 have hs:Pq.shapedB (pC L P V c)=true:=qoX hO cH h1 hR AN hc hlen fun r hr=>by
  obtain ⟨i,hi,rfl⟩:=CD.1 hr;exact Tz (hws i hi).can
 have hq:∀ k,k < P.length->Pq.wQ V k=cT false (Hc ar (bf L) P c k) M:=fun k hk=>by
  rw[Pq.wQ_get (by omega)];exact (hws k (by omega)).wv.q
 have hf:Pq.firstF (Pq.okAt (pC L P V c)) (pC L P V c).nodes.es.length 0=none:=by
  refine Uk _ _ fun k _ hk=>?_
  have hk:k < P.length:=by
   have e:(pC L P V c).nodes.es.length=P.length:=bX ..;omega
  rw[qnJ hO g h1 hM h0 hk fun j hj=>hq j (by omega)];exact dD (hq k hk)
 have hE:Pq.checkE (pC L P V c)=0:=by
  unfold Pq.checkE;rw[an hs,hf]
 refine ⟨hE,?_,?_⟩
 ·unfold Pq.checkI;rw[an hs,hf]
 ·unfold Pq.checkQ;rw[an hE];have e:(pC L P V c).nodes.es.length=P.length:=bX ..;rw[e];exact hq _ (by omega)
theorem qaa (hO:OddsOk ar L) (cH:ar.length<=16) (hP:P.length<=4000) {M:Nat} (hlen:V.es.length=P.length) (hV:LOk 30 V):Pq.COk 30 (pC L P V c):=
 ⟨by rw[show (pC L P V c).odds=L from rfl,hO.len];omega,.inl rfl,by rw[show (pC L P V c).nodes.es.length=P.length from bX ..];exact hP,hV,by rw[show (pC L P V c).ws=V from rfl,hlen];exact hP⟩
end
end Go.Ab
namespace Go.Ab
noncomputable section
open Go.Proofs.Tryz
def Lh (bL be cw cq fE:AV) (m:af):St:=⟨(aW (aM (aK (aG (bL::be::cw::cq::fE::bA (bC (aM (aG [])))))))),m⟩
def uv (x3 x9 aF bL be cw cq fE BW BX xp:AV) (m:af) (K:KT):OM:=ck 7 (b9 (bo (bo (c2 (c2 (c2 (aB f7))))))) 15 (aK (aG (x3::aM (aG (x9::aF::aM (bL::be::cw::cq::fE::bI (bC (BW::BX::xp::bI (aK []))))))))) m K
abbrev qeS (K:KT):KT:=bE 7 (bo (bo (bo (aB f7)))) K
abbrev qeT (K:KT):KT:=bz 0 (qeS K)
abbrev FJ (K:KT):KT:=(qeT K)
theorem T7 (a0 a1 a2 a3:AV) (m:af):AC ae 7 [a0,a1,a2,a3] m=(aD (AP ae) none m 45 [a0]).bind fun r1=>(aD (AP ae) none r1.2 11 [r1.1]).bind fun r2=>(ag .other .neq r2.1 (.int .i64 0)).bind fun v3=>aw v3 ((aD (AP ae) none r2.2 46 []).bind fun r4=>some (r4.1,r4.2)) ((aD (AP ae) none r2.2 47 [r1.1,a1]).bind fun r5=>(aD (AP ae) none r5.2 48 [r1.1,a2]).bind fun r6=>(ag .other .rem a3 (.int .i64 6)).bind fun v7=>(ag .other .add v7 (.int .i64 6)).bind fun v8=>(ag .other .rem v8 (.int .i64 6)).bind fun v9=>(aD (AP ae) none r6.2 18 [r1.1,r6.1]).bind fun hJ=>(jN .not hJ.1).bind fun v11=>aw v11 ((aD (AP ae) none hJ.2 46 []).bind fun kf=>some (kf.1,kf.2)) ((AC ae 49 [r1.1,r5.1] hJ.2).bind fun fK=>(aY fK.1 0).bind fun bq=>(aY fK.1 1).bind fun br=>(aY fK.1 2).bind fun bT=>(jN .not bT).bind fun bH=>aw bH (some ((.bool false),fK.2)) ((AC ae 50 [bq,br,r6.1,v9] fK.2).bind fun gD=>(aY gD.1 0).bind fun dG=>(aY gD.1 1).bind fun v20=>(aL (some 4) (az none gD.2 (.obj true [au,au,au,(.int .i64 0)])).2 (.ptr (az none gD.2 .resv).1 0) dG).bind fun m21=>(aj (some 4) m21 (.ptr (az none gD.2 .resv).1 0)).bind fun v22=>(aD (AP ae) none m21 53 [v22]).bind fun kP=>(aY kP.1 0).bind fun v24=>(aY kP.1 1).bind fun v25=>(aY kP.1 2).bind fun v26=>(aL (some 3) (az none kP.2 (.obj true [(.bool false),au,au])).2 (.ptr (az none kP.2 .resv).1 0) v24).bind fun m27=>(aD (AP ae) none m27 20 []).bind fun ud=>(aL (some 3) (az none ud.2 (.obj true [(.bool false),au,au])).2 (.ptr (az none ud.2 .resv).1 0) ud.1).bind fun m29=>(aD (AP ae) none m29 54 [r1.1]).bind fun OV=>(aO false OV.1).bind fun v31=>uv v9 r5.1 r6.1 v20 (.ptr (az none kP.2 .resv).1 0) v25 v26 (.ptr (az none ud.2 .resv).1 0) OV.1 v31 (.int .i64 0) OV.2 (FJ (aE ae.P f7.results.toList))))):=
(bm ae 7 [a0,a1,a2,a3] m (fn:=f7) (c:=aB f7) at7 rfl).trans (by kernel_rfl)
theorem Rf (x3 x9 aF bL be cw cq fE BW BX xp:AV) (m:af) (K:KT):uv x3 x9 aF bL be cw cq fE BW BX xp m K=(ag .other .lss xp BX).bind fun v1=>aw v1 ((aH none BW xp).bind fun v2=>(aj none m v2).bind fun v3=>(aH none x9 xp).bind fun v4=>(aj none m v4).bind fun v5=>(ag .other .eql v5 x3).bind fun v6=>aw v6 ((aj (some 3) m fE).bind fun v7=>(aD (AP ae) (some m.length) m 55 [aF,v3]).bind fun r8=>(aD (AP ae) (some m.length) r8.2 22 [v7,r8.1]).bind fun r9=>(aL (some 3) r9.2 fE r9.1).bind fun m10=>(ag .other .add xp (.int .i64 1)).bind fun v11=>uv x3 x9 aF bL be cw cq fE BW BX v11 m10 K) ((ag .other .add xp (.int .i64 1)).bind fun v12=>uv x3 x9 aF bL be cw cq fE BW BX v12 m K)) (K (.exit 0) (Lh bL be cw cq fE m)):=
(cg (bW _) _ _ _).trans (by kernel_rfl)
theorem qeU (bL be cw cq fE:AV) (m:af):FJ (aE ae.P f7.results.toList) (.exit 0) (Lh bL be cw cq fE m)=(ag .other .eql bL (.int .i64 0)).bind fun v1=>aw v1 ((ag .other .eql cq (.int .i64 0)).bind fun v2=>aw v2 ((ag .other .eql cw (.int .i64 0)).bind fun v3=>aw v3 ((aj (some 3) m be).bind fun v4=>(aj (some 3) m fE).bind fun v5=>(aD (AP ae) none m 21 [v4,v5]).bind fun r6=>aw r6.1 ((aD (AP ae) none r6.2 46 []).bind fun r7=>some (r7.1,r7.2)) (some ((.bool false),r6.2))) (some ((.bool false),m))) (some ((.bool false),m))) (some ((.bool false),m)):=by kernel_rfl
end
end Go.Ab
namespace Go.Ab
open Go.Proofs Go.Proofs.Tryz
theorem LawOdds.h64 {ar:List Int} {L:OL} (h:LawOdds ar L) (h1:∀ x∈ar,1<=x/\x<=64):∀ r∈L.es,r.ns.length<=64:=fun r hr=>by
 obtain ⟨u,hu,rfl⟩:=pv hr;have:=h.row u hu;have D4:u < ar.length:=by rw[<- h.len];exact hu
 rw[aS,bD D4,dh] at this;have:=h1 _ (bS D4);omega
theorem qae {r:List Int} {l1:List ND} {id1:Nat} {t:List Int} (h1:∀ x∈r,1<=x) (tab1:TabV r l1 id1 0 t) (s:Nat->Nat->Nat) (c:Int):Hc r s l1 c id1=Ht r s t c:=by
 unfold Hc Ht;refine JL _ _ _ (wb h1) fun b hb _=>?_;have:=tab1.val b hb;rw[iR] at this;rw[this]
end Go.Ab
namespace Go.Ab
open Go.Proofs Go.Proofs.Tryz
theorem OH (d:Option Nat) (m:af):aD (AP ae) d m 46 []=some (.bool true,m):=Pq.pcall10
theorem qn5 (z zg:Bool) (o:Own) {ar:List Int} (h2:∀ x∈ar,1<=x/\x<=64) (h1:ar.length<=16) (gv:List Int):∃ L:OL,(∀ m,aD (AP ae) none m 48 [IA z o ar,IA zg .no gv]=some (L.av,m))/\LawOdds ar L/\∀ r∈L.es,r.z=false:=by
 obtain ⟨L,e,hL,hz⟩:=qgQ z zg o.fr .no h2 h1 gv;exact ⟨L,fun m=>by rw[fG (mG z o ar) (mG zg .no gv),show (Own.no).fr=Own.no from rfl,e];rfl,hL,hz⟩
theorem qn4 (z zl:Bool) (o:Own) {ar:List Int} (l:List Int) (h1:ar.length<=16) (h2:∀ a∈ar,1<=a/\a<=64) {N:Nat} (hN:ml 100 1 ar=N) (AM:N<=100):∃ (z':Bool) (o':Own) (t:List Int),(∀ m,aD (AP ae) none m 47 [IA z o ar,IA zl .no l]=some (IA z' o' t,m))/\t.length=N/\∀ y∈t,0<=y/\y<=4:=by
 obtain ⟨z',o',t,e,_,a,b⟩:=V47 z zl o.fr .no ar l h1 h2 hN AM;exact ⟨z',o',t,fun m=>by rw[fG (mG z o ar) (mG zl .no l),show (Own.no).fr=Own.no from rfl,e];rfl,a,fun y hy=>by have:=b y hy;omega⟩
end Go.Ab
namespace Go.Ab
open Go.Proofs Go.Proofs.Tryz
section
variable {ar t:List Int} {L:OL}
theorem X7 (hO:OddsOk ar L) (wz:L.fr=L) (cH:ar.length<=16) (h1:∀ x∈ar,1<=x) {css:List (List Int)} (hA:Alls ar css) (gy:t.length=bj ar) (hp:bj ar<=1000000) {zt zc:Bool} {ot oc:Own} {c:Int} (b:Nat) (bL be cw cq:AV) (K:KT):∀ (j i:Nat) (m:af) (sm:RV),i+j=css.length->m.get b=bR sm->WV (PM ar (bf L) ar.length 0) sm (ij i (um (bf L) ar t css c)) ->
  ∃ (m':af) (sm':RV),uv (.int .i64 c) (IA zt ot t) L.av bL be cw cq (.ptr b 0) (.lst none zc oc (css.map (IA false .no))) (.int .i64 css.length) (.int .i64 i) m K=K (.exit 0) (Lh bL be cw cq (.ptr b 0) m')/\Fr m m' [b]/\m'.get b=bR sm'/\WV (PM ar (bf L) ar.length 0) sm' (Ht ar (bf L) t c):=by
 obtain ⟨rn,mY⟩:=CN hO.all cH;obtain ⟨lA,mJ⟩:=qag (s:=bf L) (t:=t) h1 hA c;have hcl:=hA.len;intro j
 induction j with
 | zero=>
  intro i m sm hi hg hw;refine ⟨m,sm,?_,Fr.refl _ _,hg,by rw[lA,<- hcl,show css.length=i by omega];exact hw⟩;rw[Rf,bh,aa,aA,ai (by omega)]
 | succ j ih=>
  intro i m sm hi hg hw;have b6:i < css.length:=by omega
  have Vn:i < t.length:=by omega
  have yM:=hA.row i b6
  have ixc:aH none (.lst none zc oc (css.map (IA false .no))) (.int .i64 i)=some (.vptr [IA false .no css[i]]):=by
   rw[qmE (by simpa using b6),rV];rfl
  have ixt:aH none (IA zt ot t) (.int .i64 i)=some (.vptr [.int .i64 t[i]]):=jB Vn
  have pre:uv (.int .i64 c) (IA zt ot t) L.av bL be cw cq (.ptr b 0) (.lst none zc oc (css.map (IA false .no))) (.int .i64 css.length) (.int .i64 i) m K=if t[i]=c then
    ((aj (some 3) m (.ptr b 0)).bind fun v7=>
    (aD (AP ae) (some m.length) m 55 [L.av,IA false .no css[i]]).bind fun r8=>
    (aD (AP ae) (some m.length) r8.2 22 [v7,r8.1]).bind fun r9=>
    (aL (some 3) r9.2 (.ptr b 0) r9.1).bind fun m10=>
    uv (.int .i64 c) (IA zt ot t) L.av bL be cw cq (.ptr b 0) (.lst none zc oc (css.map (IA false .no))) (.int .i64 css.length) (.int .i64 (i+1:Nat)) m10 K)
    else uv (.int .i64 c) (IA zt ot t) L.av bL be cw cq (.ptr b 0) (.lst none zc oc (css.map (IA false .no))) (.int .i64 css.length) (.int .i64 (i+1:Nat)) m K:=by
   rw[Rf,bh,aa,aA,an (by omega),ixc,aa,fV,aa,ixt,aa,fV,aa,iS,aa,aA,cB (by omega)]
   rfl
  have AZ:t.getD i 0=t[i]:=UA Vn
  have Bb:ij (i+1) (um (bf L) ar t css c)=ij i (um (bf L) ar t css c)+(if t[i]=c then Wt (bf L) ar.length 0 (jx css[i]) else 0):=by
   rw[pP];unfold um;rw[AZ,TX b6]
  rw[pre]
  by_cases hc:t[i]=c
  ·rw[an hc];obtain ⟨w,ew,ww⟩:=V55 hO cH yM.len yM.bd
   have p55:aD (AP ae) (some m.length) m 55 [L.av,IA false .no css[i]]=some (w.av,m):=by
    rw[fG (Pq.fz_ol L) (mG false .no css[i]),wz];rw[show (Own.no).fr=Own.no from rfl,ew];rfl
   obtain ⟨y,ey,cy,fy⟩:=Sq hw.ok ww.ok (by omega) (by omega);have hb:=mJ (i+1) (by omega);rw[Bb,an hc] at hb
   have wy:WV (PM ar (bf L) ar.length 0) y (ij (i+1) (um (bf L) ar t css c)):=by
    rw[Bb,an hc];refine Can.wv mY hb ?_ fy;rw[hw.q,ww.q,IV rn] at cy;exact cy
   have p22:aD (AP ae) (some m.length) m 22 [sm.av,w.av]=some (y.av,m):=by rw[fG (gU sm) (gU w),hw.fr,ww.fr,ey];rfl
   have st:aL (some 3) m (.ptr b 0) y.av=some (m.set b (bR y)):=qM (c1:=.bool sm.neg) (c2:=sm.num.av) (c3:=sm.den.av) hg;obtain ⟨m',sm',e,f,k⟩:=ih (i+1) (m.set b (bR y)) y (by omega) (c8 rfl (bF hg)) wy;refine ⟨m',sm',?_,Fr.trans ((Fr.refl m [b]).set _ (.inl (by simp))) f fun a ha=>.inl ha,k⟩;rw[oJ hg,aa,p55,aa];dsimp only;rw[p22,aa];dsimp only;rw[st,aa];exact e
  ·rw[ai hc];obtain ⟨m',sm',e,k⟩:=ih (i+1) m sm (by omega) hg (by rw[Bb,ai hc,jF];exact hw);exact ⟨m',sm',e,k⟩
end
theorem Yp (tk:TK) (a:Int):ag tk .rem (.int .i64 a) (.int .i64 6)=some (.int .i64 (a.tmod 6)):=by cases tk<;>rfl
theorem qnn (a:Int):0<=(IntKind.wrap .i64 (a.tmod 6+6)).tmod 6/\(IntKind.wrap .i64 (a.tmod 6+6)).tmod 6<=2147483647:=by
 have a1:=Int.tmod_lt_of_pos a (show (0:Int) < 6 by omega)
 have a2:-6 < a.tmod 6:=by
  rcases Int.le_total 0 a with h0 | h0
  ·have:=Int.tmod_nonneg (a:=a) 6 h0;omega
  ·have e:(-a).tmod 6=-(a.tmod 6):=Int.neg_tmod ..;have:=Int.tmod_lt_of_pos (-a) (show (0:Int) < 6 by omega);omega
 rw[iQ (by omega) (by omega)];have b1:=Int.tmod_lt_of_pos (a.tmod 6+6) (show (0:Int) < 6 by omega);have b2:=Int.tmod_nonneg (a:=a.tmod 6+6) 6 (by omega);omega
theorem qoB {ar:List Int} {P:List ND} (g:GoodL ar P) (hP:0 < P.length) (hs:dn P (Vi P (P.length - 1) [])=P):oQ ar (P.map jV):=by
 obtain ⟨d1,_,_⟩:=qs g (P.length - 1) (by omega) [] ri;have:=RD g d1;rw[hs] at this;exact this
theorem qfz (z zl zg:Bool) (ar l gv:List Int) (c0:Int):∃ m',AC ae 7 [IA z .no ar,IA zl .no l,IA zg .no gv,.int .i64 c0] []=some (.bool true,m'):=by
 obtain ⟨o',r,e45,hg,qqm,DR⟩:=qgP z .no ar
 have p45:∀ m,aD (AP ae) none m 45 [IA z .no ar]=some (IA false o' r,m):=fun m=>by
  rw[cJ (mG z .no ar),show (Own.no).fr=Own.no from rfl,e45];rfl
 rw[T7,p45,aa,XS,aa,jg,aa,aA]
 by_cases he:om r=0
 ·rw[ai (by simpa using he)];obtain ⟨h1,h2⟩:=xV he;obtain ⟨hN,AM⟩:=qkK hg he;have im:∀ x∈r,1<=x:=fun x hx=>(h2 x hx).1;obtain ⟨zt,ot,t,p47,gy,NI⟩:=qn4 false zl o' l h1 h2 hN AM;obtain ⟨L,p48,hL,hz⟩:=qn5 false zg o' h2 h1 gv;have h64:=hL.h64 h2;have oS:L.es.length<=40:=by rw[hL.len];omega
  have hc:=qnn c0;generalize tG:(IntKind.wrap .i64 (c0.tmod 6+6)).tmod 6=c at hc;dsimp only;rw[p47,aa];dsimp only;rw[p48,aa,Yp,aa,kX,aa,Yp,aa,tG];dsimp only
  have p18:∀ (zs:Bool) (os:Own) m,aD (AP ae) none m 18 [IA false o' r,L.av]=some (.bool (Pq.oddsB ⟨zs,os,r⟩ L),m):=fun zs os m=>by
   rw[fG (mG false o' r) (Pq.fz_ol L),hL.fr];have:=Pq.V18 ⟨false,o'.fr,r⟩ L h64 oS;have e:AP ae 18 [IA false o'.fr r,L.av]=some (.bool (Pq.oddsB ⟨zs,os,r⟩ L)):=this;rw[e];rfl
  obtain ⟨m1,s,F,zs,os,P,e49,st1,g,AN,hP4,tab,f1,_,vo,h31⟩:=ZW (za:=false) (zt:=zt) (oa:=o') (ot:=ot) (ar:=r) (t:=t) [] (fun h=>by cases h) he (by omega) gy NI;rw[p18 zs os,aa];dsimp only
  cases hO:Pq.oddsB ⟨zs,os,r⟩ L with
  | false=>
   rw[rI,aa,nX,mc,OH,aa];exact ⟨_,rfl⟩
  | true=>
   have hid:P.length - 1 < P.length:=by omega
   have bg:=OD h64 hO;obtain ⟨rn,mY⟩:=CN bg.all h1;obtain ⟨m2,tk,x,ws,T,e50,f2,hw,hT,hlen,hws⟩:=qfp st1 (by omega) g (by omega) h2 h1 hid vo h64 oS hz hL.fr hO hc;obtain ⟨wa1,wa2⟩:=PC hw
   have wf:∀ r∈ws,ROk 9 r/\r.fr=r:=fun r hr=>by
    obtain ⟨k,hk,rfl⟩:=CD.1 hr;exact ⟨(hws k hk).wv.ok,(hws k hk).wv.fr⟩
   have b1:aL (some 4) (m2++[some (.obj true [au,au,au,.int .i64 0])]) (.ptr m2.length 0) (cA (gS L) false (.tok tk 74) P x c)=some (m2++[some (.obj true [(gS L).av,NL false (.tok tk 74) P,x,.int .i64 c])]):=by
    rw[Pc (a:=(gS L).av) (b:=NL false (.tok tk 74) P) (w:=x) (n:=c) (bJ rfl) rfl ⟨rfl,rfl⟩ ⟨rfl,rfl⟩ ⟨wa1,wa2⟩,qg m2 _ _ rfl]
   have g3:af.get (m2++[some (Ent.obj true [(gS L).av,NL false (.tok tk 74) P,x,.int .i64 c])]) m2.length=some (.obj true [(gS L).av,NL false (.tok tk 74) P,x,.int .i64 c]):=bJ rfl;have VU:WA (m2++[some (Ent.obj true [(gS L).av,NL false (.tok tk 74) P,x,.int .i64 c])]) x ws T:=ET hw fun t ht=>bY (Jz hw t ht);have VE:=TN bg;have Ny:bf (gS L)=bf L:=LU L;have Vt:(wv ws).es.length=P.length:=by rw[EY];exact hlen
   have qmy:∀ k (h:k < (wv ws).es.length),WC (PM r (bf L) r.length 0) (wv ws).es[k] (Hc r (bf (gS L)) P c k):=fun k hk=>by
    have j1:k < ws.length:=by rw[EY] at hk;exact hk
    have q1:(wv ws).es[k]=ws[k]:=by simp only[EY]
    rw[q1,Ny];exact hws k j1
   have hRL:=qoB g AN vo;obtain ⟨cE,cI,cQ⟩:=qke VE g h1 h2 hRL AN hc (M:=PM r (bf L) r.length 0) (by rw[Ny]) rn Vt qmy;obtain ⟨rr,zj,rq,rf,rk⟩:=Pq.V53 (qaa (c:=c) VE h1 (by omega) (M:=PM r (bf L) r.length 0) Vt (qp3 (k:=30) fun q hq=>⟨(wf q hq).1.mono (by omega),(wf q hq).2⟩));rw[cE,cI,qnW g.ok] at zj;rw[cQ,Ny] at rq;generalize hm3:m2++[some (Ent.obj true [(gS L).av,NL false (.tok tk 74) P,x,.int .i64 c])]=m3 at b1 g3 VU
   have p53:aD (AP ae) none m3 53 [cA (gS L) false (.tok tk 74) P x c]=some (.tup [rr.av,.int .i64 0,.int .i64 0],ju m3 T):=by
    rw[qn6 VU (fun q hq=>(wf q hq).2) (TM L),show (Own.tok tk 74).fr=Own.no from rfl,zj];rfl
   generalize ju m3 T=m4 at p53;have nz:∀ m:af,(az none m (.obj true [.bool false,au,au])).2=m++[bZ]:=fun _=>rfl
   have st0:∀ (m:af) (q:RV),aL (some 3) (m++[bZ]) (.ptr m.length 0) q.av=some (m++[bR q]):=fun m q=>by
    rw[qM (c1:=.bool false) (c2:=au) (c3:=au) (bJ rfl),qg m _ _ rfl]
   have p20:∀ m,aD (AP ae) none m 20 []=some (pR.av,m):=fun m=>by rw[zb,Sm];rfl
   obtain ⟨zc,oc,css,p54,hcl,hcr⟩:=qn3 false o' r h2 h1 (by omega) ((m4++[bR rr])++[bR pR]);have hA:Alls r css:=⟨hcl,hcr⟩;obtain ⟨m7,sm,e7,fr7,g7,w7⟩:=X7 bg hL.fr h1 im hA gy (by omega) (zt:=zt) (zc:=zc) (ot:=ot) (oc:=oc) (c:=c) (m4.length+1) (.int .i64 0) (.ptr m4.length 0) (.int .i64 0) (.int .i64 0) (FJ (aE ae.P f7.results.toList)) css.length 0 ((m4++[bR rr])++[bR pR]) pR (by omega) (bJ (by simp)) (Can.wv mY (kW _) (by rw[Jp,vD];exact Tx) JB);have e7:uv (.int .i64 c) (IA zt ot t) L.av (.int .i64 0) (.ptr m4.length 0) (.int .i64 0) (.int .i64 0) (.ptr (m4.length+1) 0) (.lst none zc oc (css.map (IA false .no))) (.int .i64 css.length) (.int .i64 0) ((m4++[bR rr])++[bR pR]) (FJ (aE ae.P f7.results.toList))=_:=e7;have g7r:m7.get m4.length=bR rr:=by rw[fr7.get _ (by simp) (by simp),bY (by simp),bJ rfl]
   have hHH:Hc r (bf L) P c (P.length - 1)=Ht r (bf L) t c:=qae im tab (bf L) c
   have p21:aD (AP ae) none m7 21 [rr.av,sm.av]=some (.bool true,m7):=by
    rw[fG (gU _) (gU _),rf,w7.fr,Sp rk (w7.ok.mono (by omega)) (by omega) (by omega),dD (by rw[rq,w7.q,hHH])];rfl
   rw[rI,aa,kS,iC,e49,aa,show aY (.tup [.ptr s 0,.int .i64 (P.length - 1:Nat),.bool true]) 0=some (.ptr s 0) from rfl,aa,show aY (.tup [.ptr s 0,.int .i64 (P.length - 1:Nat),.bool true]) 1=some (.int .i64 (P.length - 1:Nat)) from rfl,aa,show aY (.tup [.ptr s 0,.int .i64 (P.length - 1:Nat),.bool true]) 2=some (.bool true) from rfl,aa,rI,aa,kS,iC,e50,aa];dsimp only;rw[rj,aa,rl,aa,Ou,Er,b1,aa,N3 g3,aa,p53,aa,show aY (.tup [rr.av,.int .i64 0,.int .i64 0]) 0=some rr.av from rfl,aa,show aY (.tup [rr.av,.int .i64 0,.int .i64 0]) 1=some (.int .i64 0) from rfl,aa,show aY (.tup [rr.av,.int .i64 0,.int .i64 0]) 2=some (.int .i64 0) from rfl,aa];dsimp only;rw[nz,Er,st0,aa,p20,aa];dsimp only;rw[nz,Er,st0,aa,p54,aa];dsimp only;rw[o0,bX,aa,show (m4++[bR rr]).length=m4.length+1 by simp,e7,qeU,show ag .other .eql (.int .i64 0) (.int .i64 0)=some (.bool true) from rfl,aa,mc,aa,mc,aa,mc,oJ g7r,aa,oJ g7,aa,p21,aa];dsimp only;rw[mc,OH,aa];exact ⟨_,rfl⟩
 ·rw[an he,OH,aa];exact ⟨_,rfl⟩
end Go.Ab
namespace Go.Ab
open Go.Proofs Go.RowKit
theorem qmB (caps:Array Value) (w:World):CallsD Tryz.prog 140 caps .returning w fun e u w'=>(∃ v,e=.returned v)/\u=.returning/\w'=w:=by
 refine callsD_of_wpS Tryz.func140 rfl fun c₀ cs hu=>?_
 have hs:45<=(caps++Array.replicate (Tryz.f140.ntmps - caps.size) undef).size:=by
  rw[Tryz.ntmps140,zE,Array.size_replicate];omega
 generalize caps++Array.replicate (Tryz.f140.ntmps - caps.size) undef=T at hs;apply wpS_seq;apply wpS_region;simp[wpOpsS,go_sem,recoverD,hu,Exit.thenS,Act.put,Act.eval,show 9 < T.size by omega,show 4 < T.size by omega];apply wpS_seq;apply wpS_seq;apply wpS_region;simp[wpOpsS,go_sem,recoverD,hu,Exit.thenS,Act.put,Act.eval,show 9 < T.size by omega,show 4 < T.size by omega,show 10 < T.size by omega,show 11 < T.size by omega];refine wpS_cond (t:=true) (by simp[Act.eval,show 11 < T.size by omega]) ?_;simp only[bw];refine wpS_of_wp (wp_ret ?_);cases c₀
 simp_all [bodyPostS,results,Tryz.results140,Exit.thenS]
theorem qmC (caps:Array Value) (w:World):CallsD Tryz.prog 177 caps .returning w fun e u w'=>(∃ v,e=.returned v)/\u=.returning/\w'=w:=by
 refine callsD_of_wpS Tryz.func177 rfl fun c₀ cs hu=>?_
 have hs:3<=(caps++Array.replicate (Tryz.f177.ntmps - caps.size) undef).size:=by
  rw[Tryz.ntmps177,zE,Array.size_replicate];omega
 generalize caps++Array.replicate (Tryz.f177.ntmps - caps.size) undef=T at hs;apply wpS_seq;apply wpS_region;simp[wpOpsS,go_sem,recoverD,hu,Exit.thenS,Act.put,Act.eval,show 1 < T.size by omega,show 2 < T.size by omega];refine wpS_cond (t:=false) (by simp[Act.eval,show 2 < T.size by omega]) ?_;simp only[jX,me];refine wpS_of_wp (wp_skip ?_);cases c₀
 simp_all [bodyPostS,results,Tryz.results177]
theorem Tm {g:Nat} {fn:Func} (hfn:Tryz.prog.funcs[g]?=some fn) (hname:(fn.name == "runtime.NumGoroutine")=false) (hbody:fn.body.isSome) (caps:Array Value)
  (h:∀ w,CallsD Tryz.prog g caps .returning w fun e u w'=>(∃ v,e=.returned v)/\u=.returning/\w'=w):B3 Tryz.prog { target:=.fn (.func g) caps,args:=#[] }:=by
 refine ⟨.func g,caps,g,caps,rfl,fun w=>⟨?_,h w⟩⟩;have hb:fn.body.isNone=false:=by cases hb:fn.body<;>simp_all
 simp only[invoke,callFunc,hfn,hname,hb,Sem.run_bind,Sem.run_pure,run_program,Result.andThen_ok,jX,me,Array.empty_append]
theorem qjS (caps:Array Value):B3 Tryz.prog { target:=.fn (.func 140) caps,args:=#[] }:=Tm Tryz.func140 (by kernel_rfl) (by kernel_rfl) caps (qmB caps)
theorem qjT (caps:Array Value):B3 Tryz.prog { target:=.fn (.func 177) caps,args:=#[] }:=Tm Tryz.func177 (by kernel_rfl) (by kernel_rfl) caps (qmC caps)
end Go.Ab
namespace Go.Ab
open Go.RowKit
def gN:G:=⟨fun _ _=>False,fun _=>False,fun _=>none,fun _ _=>none⟩
def Au (P:Program) (t:Nat):Bool:=match P.underlying t with
 | some (.int _) | some .bool | some .string | some (.slice _)=>true
 | _=>false
def rH (P:Program) (t:Nat):Sh:=match P.underlying t with
 | some (.struct fs)=>some fs.size
 | _=>none
def n9 (P:Program):Nat->Nat->AV->Prop
 | 0,_,_=>False
 | n+1,t,v=>match P.underlying t with
  | some (.int k)=>∃ i,v=.int k i/\(Lit.int k i).wf=true
  | some .bool=>∃ b,v=.bool b
  | some .string=>∃ s,v=.str s/\s.size<=maxLen
  | some (.slice e)=>∃ z es,v=.lst (rH P e) z .no es/\(z=true->es=[])/\∀ x∈es,n9 P n e x
  | some (.struct fs)=>∃ cs,v=.agg cs/\cs.length=fs.size/\∀ i f,fs[i]?=some f->n9 P n f.type (cs.getD i .any)
  | _=>False
def HH (P:Program) (ok:Nat->Bool):Nat->List Field->Bool
 | _,[]=>true
 | i,f::l=>f.offset == i && P.cellsOf f.type == 1 && Au P f.type && ok f.type && HH P ok (i+1) l
def ui (P:Program):Nat->Nat->Bool
 | 0,_=>false
 | n+1,t=>match P.underlying t with
  | some (.int _) | some .bool | some .string=>P.cellsOf t == 1
  | some (.slice e)=>P.cellsOf t == 1 && ui P n e
  | some (.struct fs)=>P.cellsOf t == fs.size && decide (0 < fs.size) && HH P (ui P n) 0 fs.toList
  | _=>false
theorem Mk {P:Program} {ok:Nat->Bool}:∀ {l:List Field} {i0:Nat},HH P ok i0 l=true->∀ i f,l[i]?=some f->f.offset=i0+i/\P.cellsOf f.type=1/\Au P f.type=true/\ok f.type=true
 | [],i0,h,i,f,hf=>by simp at hf
 | g::l,i0,h,i,f,hf=>by
  simp only[HH,b7,tw] at h;obtain ⟨⟨⟨⟨h1,h2⟩,h3⟩,h4⟩,h5⟩:=h
  cases i with
  | zero=>
   simp at hf;subst hf;exact ⟨h1,h2,h3,h4⟩
  | succ i=>
   simp at hf;obtain ⟨a,b⟩:=Mk h5 i f hf;exact ⟨by omega,b⟩
theorem Um {s:Nat} (hs:0 < s):∀ {es:List AV},(∀ e∈es,e.cells.length=s)->(cW es).length=es.length * s/\∀ j,j < es.length * s->(cW es).getD j .any=(es.getD (j / s) .any).cells.getD (j % s) .any
 | [],h=>⟨by simp[cW],fun j hj=>by simp at hj⟩
 | e::es,h=>by
  have h0:=h e fN;obtain ⟨h1,h2⟩:=Um hs (fun x hx=>h x (fJ _ hx));have e1:cW (e::es)=e.cells++cW es:=rfl;have e2:(e::es).length * s=es.length * s+s:=by rw[aJ,gO,px]
  refine ⟨by rw[e1,aI,h0,h1,e2];omega,fun j hj=>?_⟩;rw[e1,aS]
  by_cases oV:j < s
  ·rw[nB (by omega),Aj oV,lE oV];show _=e.cells.getD j .any;rw[aS]
  ·rw[rS (by omega),h0,<- aS,h2 (j - s) (by omega)]
   have e3:j / s=(j - s) / s+1:=by
    have:=Nat.div_eq_sub_div hs (by omega:s<=j);omega
   have e4:j % s=(j - s) % s:=Nat.mod_eq_sub_mod (by omega);rw[e3,e4,xH]
theorem EC {P:Program}:∀ (n t:Nat) (v:AV),ui P n t=true->n9 P n t v->c9 (rH P t) v=true/\pl v=true/\v.cells.length=P.cellsOf t/\0 < P.cellsOf t/\(rH P t).size=P.cellsOf t/\(Au P t=true->di v=true)
 | 0,t,v,ht,_=>by simp[ui] at ht
 | n+1,t,v,ht,h=>by
  unfold n9 at h;unfold ui at ht;unfold rH Au
  cases hu:P.underlying t with
  | none=>rw[hu] at h;exact h.elim
  | some ty=>
   rw[hu] at h ht
   cases ty with
   | int k=>
    obtain ⟨i,rfl,_⟩:=h;have hc:P.cellsOf t=1:=by simpa using ht
    exact ⟨rfl,rfl,hc.symm,by omega,hc.symm,fun _=>rfl⟩
   | bool=>
    obtain ⟨i,rfl⟩:=h;have hc:P.cellsOf t=1:=by simpa using ht
    exact ⟨rfl,rfl,hc.symm,by omega,hc.symm,fun _=>rfl⟩
   | string=>
    obtain ⟨i,rfl,_⟩:=h;have hc:P.cellsOf t=1:=by simpa using ht
    exact ⟨rfl,rfl,hc.symm,by omega,hc.symm,fun _=>rfl⟩
   | slice e=>
    obtain ⟨z,es,rfl,_⟩:=h
    have hc:P.cellsOf t=1:=by
     simp only[b7,tw] at ht;exact ht.1
    exact ⟨rfl,rfl,hc.symm,by omega,hc.symm,fun _=>rfl⟩
   | struct fs=>
    obtain ⟨cs,rfl,hl,hf⟩:=h;simp only[b7,tw,oq] at ht;obtain ⟨⟨h1,h2⟩,h3⟩:=ht
    have hall:∀ c∈cs,di c=true/\pl c=true:=by
     intro c hc;obtain ⟨i,hi,rfl⟩:=CD.1 hc;have wD:fs[i]?=some (fs[i]'(by omega)):=B1 (by omega);obtain ⟨_,b,c2,d⟩:=Mk h3 i _ (by rw[Array.getElem?_toList];exact wD);have r:=hf i _ wD;rw[aS,bD hi] at r;have:=EC n _ _ d r;exact ⟨this.2.2.2.2.2 c2,this.2.1⟩
    have hpl:∀ l:List AV,(∀ c∈l,pl c=true)->lB l=true:=by
     intro l
     induction l with
     | nil=>intro _;rfl
     | cons a l ih=>
      intro h;show (pl a && lB l)=true;rw[h a fN,ih (fun c hc=>h c (fJ _ hc))];rfl
    refine ⟨?_,hpl cs (fun c hc=>(hall c hc).2),by show cs.length=_;omega,by omega,h1.symm,fun h=>by cases h⟩;show (cs.length == fs.size && cs.all di)=true;rw[b7];exact ⟨by simp[hl],ga.2 fun c hc=>(hall c hc).1⟩
   | _=>exact h.elim
section
variable {P:Program} {H:Type} {enc:TypeId×Value->H} {W:World}
theorem qot {w:World} {a:Addr} {n:Nat} {cs:List Value} (h:w.cells? 0 a n=some cs):cs.length=n/\∀ j,j < n->w.cell? (a.add j)=cs[j]?:=by
 unfold World.cells? at h;rw[an (kW _)] at h;refine ⟨by simpa using mapM_some_length h,fun j hj=>mapM_some_get h j j (by simp[hj])⟩
theorem qos {a:Addr} (h:a.spot=none) (j:Nat):a.add j=⟨a.block,a.off+j,none⟩:=by
 obtain ⟨b,o,s⟩:=a;subst h;exact mU b o j
theorem reads:∀ (n t:Nat),ui P n t=true->∀ {fuel:Nat} {cs:List Value} {x:DataW H×List MemPlace},DataW.trod enc P W 0 (fun _=>true) true fuel t cs=some x->∃ v:AV,n9 P n t v/\cs.length=P.cellsOf t/\∀ j,j < P.cellsOf t->V W gN (v.cells.getD j .any) (cs.getD j undef)
 | 0,t,ht,_,_,_,_=>by simp[ui] at ht
 | n+1,t,ht,fuel,cs,x,h=>by
  have NH:=ht;unfold ui at ht;unfold n9
  cases hu:P.underlying t with
  | none=>rw[hu] at ht;cases ht
  | some ty=>
   rw[hu] at ht
   cases ty with
   | int k=>
    have hc:P.cellsOf t=1:=by simpa using ht
    obtain ⟨i,rfl,_,hw⟩:=DataW.trod_int hu h;refine ⟨.int k i,⟨i,rfl,hw⟩,hc.symm,fun j hj=>?_⟩;obtain rfl:j=0:=by omega
    exact .int _ _
   | bool=>
    have hc:P.cellsOf t=1:=by simpa using ht
    obtain ⟨i,rfl,_⟩:=DataW.trod_bool hu h;refine ⟨.bool i,⟨i,rfl⟩,hc.symm,fun j hj=>?_⟩;obtain rfl:j=0:=by omega
    exact .bool _
   | string=>
    have hc:P.cellsOf t=1:=by simpa using ht
    obtain ⟨i,rfl,_,hw⟩:=DataW.trod_string hu h;refine ⟨.str i,⟨i,rfl,hw⟩,hc.symm,fun j hj=>?_⟩;obtain rfl:j=0:=by omega
    exact .str _
   | slice e=>
    simp only[b7,tw] at ht;obtain ⟨hc,D2⟩:=ht
    rcases DataW.trod_slice hu h with ⟨rfl,_⟩ | ⟨a,len,cap,elems,rest,m,_,rfl,_,_,hl,hm,he,lO,Nv,_⟩
    ·refine ⟨.lst (rH P e) true .no [],⟨true,[],rfl,fun _=>rfl,fun x hx=>by cases hx⟩,hc.symm,fun j hj=>?_⟩;obtain rfl:j=0:=by omega
     exact .nils _ .no (.inr rfl)
    ·obtain ⟨Ba,Nv⟩:=Nv rfl
     have raw:∀ i,i < cap->∃ y,(W.cells? 0 (a.add (i * P.cellsOf e)) (P.cellsOf e)).bind (DataW.trod enc P W 0 (fun _=>true) true m e)=some y:=by
      intro i hi
      by_cases hi2:i < len
      ·have h1:=lO i hi2;rw[bD (by omega)] at h1;exact ⟨_,h1⟩
      ·have h1:=Nv (i - len) (by omega);rw[bD (by omega),show len+(i - len)=i by omega] at h1;exact ⟨_,h1⟩
     have at1:∀ i,i < cap->(i=0\/a.spot=none)->a.spot=none/\∃ v:AV,n9 P n e v/\∀ j,j < P.cellsOf e->∃ u,W.cell? ⟨a.block,a.off+(i * P.cellsOf e+j),none⟩=some u/\V W gN (v.cells.getD j .any) u:=by
      intro i hi nG;obtain ⟨y,hy⟩:=raw i hi;obtain ⟨cs,h1,h2⟩:=bc.1 hy;obtain ⟨v,hv,hlen,hV⟩:=reads n e D2 h2;have iO:=(EC n e v D2 hv).2.2.2.1;have h3:=(qot h1).2
      have hs:a.spot=none:=by
       rcases nG with rfl | nG
       ·rw[xN] at h3;have h4:=h3 0 iO;rw[bD (by omega)] at h4;exact World.cell?_spot h4
       ·exact nG
      refine ⟨hs,v,hv,fun j hj=>?_⟩;have h4:=h3 j hj;rw[qos hs,mU,mw,bD (by omega)] at h4;refine ⟨_,h4,?_⟩;have:=hV j hj
      rwa [aS (l:=cs),bD (by omega)] at this
     have hsp:cap=0\/a.spot=none:=by
      by_cases h0:cap=0
      ·exact .inl h0
      ·exact .inr (at1 0 (by omega) (.inl rfl)).1
     have cell:∀ i,∃ v:AV,i < cap->n9 P n e v/\∀ j,j < P.cellsOf e->∃ u,W.cell? ⟨a.block,a.off+(i * P.cellsOf e+j),none⟩=some u/\V W gN (v.cells.getD j .any) u:=by
      intro i
      by_cases hi:i < cap
      ·obtain ⟨v,hv⟩:=(at1 i hi (.inr (hsp.resolve_left (by omega)))).2;exact ⟨v,fun _=>hv⟩
      ·exact ⟨.any,fun h=>absurd h hi⟩
     obtain ⟨f,hf⟩:=Classical.axiomOfChoice cell;have hlen:((List.range len).map f).length=len:=by simp
     have fW:∀ v∈(List.range len).map f,n9 P n e v:=by
      intro v hv;obtain ⟨i,hi,rfl⟩:=jf.1 hv;exact (hf i (by have:=uz.1 hi;omega)).1
     have bg:=fun v hv=>EC n e v D2 (fW v hv)
     by_cases vd:len=0
     ·subst vd;refine ⟨.lst (rH P e) false .no [],⟨false,[],rfl,(fun h=>by cases h),fun x hx=>by cases hx⟩,hc.symm,fun j hj=>?_⟩;obtain rfl:j=0:=by omega
      exact V.lst (w:=W) (g:=gN) (rH P e) .no [] a cap (fun _=>undef) hsp (kW _) hm (fun e he=>by cases he) (fun j hj=>by simp[cW] at hj) (fun j hj=>by simp[cW] at hj) trivial
     ·have nG:0 < P.cellsOf e:=(bg (f 0) (jf.2 ⟨0,uz.2 (by omega),rfl⟩)).2.2.2.1;obtain ⟨fl1,fl2⟩:=Um nG (fun v hv=>(bg v hv).2.2.1);rw[hlen] at fl1 fl2
      have hcl:∀ j,j < len * P.cellsOf e->∃ u,W.cell? ⟨a.block,a.off+j,none⟩=some u/\V W gN ((cW ((List.range len).map f)).getD j .any) u:=by
       intro j hj;have hd:j / P.cellsOf e < len:=Nat.div_lt_of_lt_mul (by rw[cM];exact hj);have h1:=(hf (j / P.cellsOf e) (by omega)).2 (j % P.cellsOf e) (jY _ nG);have e1:j / P.cellsOf e * P.cellsOf e+j % P.cellsOf e=j:=Nat.div_add_mod' j _;rw[e1] at h1;rw[fl2 j hj,aS (l:=(List.range len).map f),oO,List.getElem?_range hd];exact h1
      have hus:∀ j,∃ u,j < len * P.cellsOf e->W.cell? ⟨a.block,a.off+j,none⟩=some u/\V W gN ((cW ((List.range len).map f)).getD j .any) u:=by
       intro j
       by_cases hj:j < len * P.cellsOf e
       ·obtain ⟨u,hu⟩:=hcl j hj;exact ⟨u,fun _=>hu⟩
       ·exact ⟨undef,fun h=>absurd h hj⟩
      obtain ⟨us,hus⟩:=Classical.axiomOfChoice hus;refine ⟨.lst (rH P e) false .no ((List.range len).map f),⟨false,_,rfl,(fun h=>by cases h),fW⟩,hc.symm,fun j hj=>?_⟩;obtain rfl:j=0:=by omega
      have hV:=V.lst (w:=W) (g:=gN) (rH P e) .no ((List.range len).map f) a cap us hsp (by rw[hlen];exact hl) hm
       (fun v hv=>⟨(bg v hv).1,(bg v hv).2.1⟩)
       (fun j hj=>by
        rw[fl1] at hj
        exact ⟨(hus j hj).1,fun h=>h,fun h=>h⟩)
       (fun j hj=>by
        rw[fl1] at hj
        exact (hus j hj).2) trivial
      rw[hlen] at hV;exact hV
   | struct fs=>
    simp only[b7,tw,oq] at ht;obtain ⟨⟨h1,h2⟩,h3⟩:=ht;obtain ⟨xs,m,_,_,hcl,rE,hf⟩:=DataW.trod_struct hu h
    have fld:∀ i,∃ v:AV,i < fs.size->∀ f,fs[i]?=some f->n9 P n f.type v/\V W gN v (cs.getD i undef):=by
     intro i
     by_cases hi:i < fs.size
     ·have wD:fs[i]?=some fs[i]:=B1 hi;obtain ⟨o,c,a,k⟩:=Mk h3 i fs[i] (by rw[Array.getElem?_toList];exact wD);have hx:=hf i fs[i] wD;rw[bD (by omega)] at hx;obtain ⟨v,hv,hlen,hV⟩:=reads n _ k hx;refine ⟨v,fun _ f hf=>?_⟩;rw[wD] at hf;obtain rfl:=pU hf;refine ⟨hv,?_⟩;have h0:=hV 0 (by omega);have iT:=(EC n _ v k hv).2.2.2.2.2 a
      have wB:v.cells=[v]:=by
       cases v<;>first | rfl | (simp[di] at iT)
      rw[wB,o,bp,c] at h0
      have e0:((cs.drop i).take 1).getD 0 undef=cs.getD i undef:=by
       rw[aS,aS,List.getElem?_take_of_lt (by omega),rU];rfl
      rw[e0] at h0;exact h0
     ·exact ⟨.any,fun h=>absurd h hi⟩
    obtain ⟨F,hF⟩:=Classical.axiomOfChoice fld
    have hg:∀ i,i < fs.size->((List.range fs.size).map F).getD i .any=F i:=by
     intro i hi;rw[aS,oO,List.getElem?_range hi];rfl
    refine ⟨.agg ((List.range fs.size).map F),⟨_,rfl,by simp,fun i f hf=>?_⟩,hcl,fun j hj=>?_⟩
    ·have hi:i < fs.size:=(fF.1 hf).1;rw[hg i hi];exact (hF i hi f hf).1
    ·rw[h1] at hj;show V W gN (((List.range fs.size).map F).getD j .any) _;rw[hg j hj];exact (hF j hj fs[j] (B1 hj)).2
   | _=>cases ht
theorem qox {n t e:Nat} (ht:ui P n t=true) {v:Value} {d:DataW H} {ps:List MemPlace} (hu:P.underlying t=some (.slice e)) (hv:∃ a len cap,v=.slice a len cap) (h:DataW.Trod enc P W 0 (fun _=>true) true t v d ps):∃ y:AV,V W gN y v/\n9 P n t y:=by
 obtain ⟨a,len,cap,rfl⟩:=hv;obtain ⟨fuel,h⟩:=h;have h:DataW.trod enc P W 0 (fun _=>true) true fuel t [.slice a len cap]=some (d,ps):=h;obtain ⟨y,hy,hl,hV⟩:=reads n t ht h;obtain ⟨_,_,h3,_,_,h6⟩:=EC n t y ht hy;have iT:Au P t=true:=by unfold Au;rw[hu]
 have hc:y.cells=[y]:=by
  have:=h6 iT
  cases y<;>first | rfl | (simp[di] at this)
 have:=hV 0 (by rw[<- hl];exact Nat.zero_lt_one);rw[hc] at this;exact ⟨y,this,hy⟩
end
end Go.Ab
namespace Go.Ab
open Go.Proofs Go.Proofs.Tryz Go.RowKit
theorem HO (nm:Nat):af.get ([]:af) nm=none:=by simp[af.get]
theorem qnk {w:World} (h:Yd.tab w):MemR w.heap.size w gN [] where
 obj nm bx cs h:=by rw[HO] at h;cases h
 tok nm n sz h:=by rw[HO] at h;cases h
 resv nm h:=⟨rfl,fun _=>rfl⟩
 fresh nm h:=⟨rfl,fun _=>rfl⟩
 inj nm nm' b h:=by unfold ba at h;rw[HO] at h;cases h
 wrLt b off h:=h.elim
 inv w' k:=Yd.tab_below (Yd.tab_lt h) h k
 boxLt b h:=h.elim
 mp nm kk es h:=by rw[HO] at h;cases h
theorem qkc:CfgOk ae where
 ben g h caps:=by
  have h:zq LN g=true:=h;unfold LN at h;simp only[zq] at h
  split at h
  ·rename_i e;obtain rfl:140=g:=qp e;exact qjS caps
  ·split at h
   ·rename_i e;obtain rfl:177=g:=qp e;exact qjT caps
   ·cases h
 name g fn h:=by
  have hall:(Tryz.prog.funcs.toList.all fun fn=>!(fn.name == "runtime.NumGoroutine"))=true:=by kernel_rfl
  have hm:fn∈Tryz.prog.funcs.toList:=by
   rw[Array.mem_toList_iff];exact Array.mem_of_getElem? h
  have:=ga.1 hall fn hm;simpa using this
 lib g h hh:=by
  have hh:(match Nat.beq g 141 with | true=>some yZ | false=>none)=some h:=hh
  split at hh
  ·rename_i e;obtain rfl:g=141:=qp e;obtain rfl:=pU hh;exact ⟨⟨f141,qio,by kernel_rfl⟩,fun vs v hv m=>qnu vs v hv m⟩
  ·cases hh
 libm g h hh:=by
  have hh:(match Nat.beq g 148 with | true=>some zn | false=>match Nat.beq g 149 with | true=>some xZ | false=>none)=some h:=hh
  split at hh
  ·rename_i e;obtain rfl:g=148:=qp e;obtain rfl:=pU hh;exact ⟨⟨f148,qit,by kernel_rfl⟩,fun vs m v m' hv=>qo8 (fun ba cap zs w hH hb hs=>Tryz.slices_Sort_int ba 0 cap zs w hH hb hs) (fun p cap w=>Tryz.slices_Sort_int_none p cap w) vs m v m' hv⟩
  ·split at hh
   ·rename_i e;obtain rfl:g=149:=qp e;obtain rfl:=pU hh;exact ⟨⟨f149,(show Tryz.prog.funcs[149]?=some f149 by kernel_rfl),by kernel_rfl⟩,fun vs m v m' hv=>qkp (fun ba cap zs w hH hs hc=>Tryz.slices_Compact_int ba 0 cap zs w hH hs hc) (fun p cap w=>Tryz.slices_Compact_int_empty p cap w) LZ vs m v m' hv⟩
   ·cases hh
theorem qmW {f:Nat} {args:List AV} {vs:Array Value} {W:World} (ht:Yd.tab W) (h:∃ m',AC ae f args []=some (.bool true,m')) (hl:args.length=vs.size) (hv:∀ j,j < args.length->V W gN (args.getD j .any) (vs.getD j undef)) :
  Calls Tryz.prog f vs W fun e W'=>e=.returned (.bool true)/\Below W.heap.size W W':=by
 obtain ⟨m',hm'⟩:=h;refine ((Z5 qkc f args [] _ _ hm').1 W.heap.size W gN vs (qnk ht) (aQ _) hl hv).mono ?_;rintro e W' ⟨v',g',rfl,hs,_,hv'⟩;cases hv';exact ⟨rfl,hs.below⟩
abbrev qmU:List (String×DataW Unit):=YtiipgpkgcdhbfaaGreatDoor.Rows.diagramNewsRow.laid
theorem qpw {W:World} (h:laidMetH Tryz.prog qmU W):Yd.tab W:=by
 rw[MakeChecks.laidMetH_plain _ _ _ (by kernel_rfl)] at h;obtain ⟨ps,⟨g1,t1,cs1,fuel1,p1,q1,_,_,_,_,⟨g2,t2,cs2,fuel2,p2,q2,_,_,_,_,⟨g,t,cs,fuel,p,q,hg,ht,hv,hd,_,_⟩,_⟩,_⟩,_⟩:=h;obtain rfl:=pU (Yd.globalPow.symm.trans hg);obtain rfl:=pU ((show (Tryz.prog.globals[0]?).map (·.type)=some 246 by kernel_rfl).symm.trans ht);unfold Yd.tab Lib.TabIs;rw[hv];have:=Lib.cells_of_tab (zs:=Lib.pow10Tab) (k:=.u64) Tryz.underlying246 Tryz.underlying117 (by kernel_rfl) (by kernel_rfl) hd;rw[<- this]
theorem u3:Tryz.prog.underlying 3=some (.int .i64):=by kernel_rfl
theorem u4:Tryz.prog.underlying 4=some .bool:=by kernel_rfl
theorem EI:Tryz.prog.underlying 22=some (.slice 3):=by kernel_rfl
theorem s3:rH Tryz.prog 3=none:=by unfold rH;rw[u3]
theorem qow {n t e:Nat} {v:AV} (ht:Tryz.prog.underlying t=some (.slice e)) (h:n9 Tryz.prog (n+1) t v):∃ z es,v=.lst (rH Tryz.prog e) z .no es/\(z=true->es=[])/\∀ x∈es,n9 Tryz.prog n e x:=by
 unfold n9 at h;rw[ht] at h;exact h
theorem qou {n:Nat} {v:AV} (h:n9 Tryz.prog (n+1) 3 v):∃ i,v=.int .i64 i/\Yd.i64 i:=by
 unfold n9 at h;rw[u3] at h;obtain ⟨i,h1,hw⟩:=h;refine ⟨i,h1,?_⟩;simp only[Lit.wf,b7,oq] at hw;exact hw
theorem WG {α:Type} {f:α->AV} {Q:α->Prop}:∀ {es:List AV},(∀ x∈es,∃ a,x=f a/\Q a)->∃ l:List α,es=l.map f/\∀ a∈l,Q a
 | [],_=>⟨[],rfl,by simp⟩
 | x::es,h=>by
  obtain ⟨a,rfl,ha⟩:=h x fN;obtain ⟨l,rfl,hl⟩:=WG (f:=f) (Q:=Q) fun y hy=>h y (fJ _ hy)
  exact ⟨a::l,rfl,fun b hb=>by
   rcases gE.1 hb with rfl | hb
   ·exact ha
   ·exact hl b hb⟩
theorem qov {n:Nat} {v:AV} (h:n9 Tryz.prog (n+2) 22 v):∃ z ns,v=IA z .no ns/\(z=true->ns=[])/\∀ k∈ns,Yd.i64 k:=by
 obtain ⟨z,es,rfl,hz,he⟩:=qow EI h;obtain ⟨ns,rfl,hd⟩:=WG (f:=AV.int .i64) (Q:=Yd.i64) (fun x hx=>qou (he x hx));exact ⟨z,ns,by rw[s3],fun h=>Ag.1 (hz h),hd⟩
theorem qnI:ui Tryz.prog 2 22=true:=by kernel_rfl
section
variable {H:Type} {enc:TypeId×Value->H} {W:World}
theorem NU {v:Value} {d:DataW H} {ps:List MemPlace} (hv:∃ a len cap,v=.slice a len cap) (h:DataW.Trod enc Tryz.prog W 0 (fun _=>true) true 22 v d ps):∃ z ns,V W gN (IA z .no ns) v/\(z=true->ns=[])/\∀ k∈ns,Yd.i64 k:=by
 obtain ⟨y,hy,hr⟩:=qox qnI EI hv h;obtain ⟨z,ns,rfl,hc⟩:=qov hr;exact ⟨z,ns,hy,hc⟩
end
end Go.Ab
