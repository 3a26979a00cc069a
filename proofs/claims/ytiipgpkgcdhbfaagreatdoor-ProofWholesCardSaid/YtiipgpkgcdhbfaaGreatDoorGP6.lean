/- ProofWholes, in values. -/
import Derived.Test.YtiipgpkgcdhbfaaGreatDoorGP5
import Derived.Test.YtiipgpkgcdhbfaaGreatDoorGP0
import Derived.Test.YtiipgpkgcdhbfaaGreatDoorProg
import Derived.Tactics
import Derived.Tactics2
import Derived.Defers
import Derived.Recover
import Derived.Laws.Pointers
import Derived.ProofKit
import Derived.OpenShut
import Derived.ChangeArms
import Derived.Test.YtiipgpkgcdhbfaaGreatDoorGP2
import Derived.Test.YtiipgpkgcdhbfaaGreatDoorGP3
import Derived.Test.YtiipgpkgcdhbfaaGreatDoorGP1
import Derived.LaidMore
import Derived.Lay
import Derived.KernelRfl
import Derived.Test.YtiipgpkgcdhbfaaGreatDoorRows
set_option maxRecDepth 100000
set_option linter.unusedVariables false
set_option linter.unusedSimpArgs false
set_option linter.unusedSectionVars false
namespace Go.Ab
open Go.Proofs Go.Proofs.Tryz
theorem Gl(d:Option Nat)(m:ai):aF (AP af) d m 46 []=some (.bool true,m):=Pq.pcall10
theorem qsH(z zg:Bool)(o:Own){ar:List Int}(h2:∀x∈ar,1<=x/\x<=64)(h1:ar.length<=16)(gv:List Int):∃L:OL,(∀m,aF (AP af) none m 48 [IA z o ar,IA zg .no gv]=some (L.av,m))/\LawOdds ar L/\∀r∈L.es,r.z=false:=by
 obtain ⟨L,e,hL,hz⟩:=qk2 z zg o.fr .no h2 h1 gv;exact ⟨L,fun m=>by rw[fN (n6 z o ar) (n6 zg .no gv),show (Own.no).fr=Own.no from rfl,e];rfl,hL,hz⟩
theorem qsG(z zl:Bool)(o:Own){ar:List Int}(l:List Int)(h1:ar.length<=16)(h2:∀a∈ar,1<=a/\a<=64){N:Nat}(hN:pO 100 1 ar=N)(ym:N<=100):∃(z':Bool) (o':Own) (t:List Int),(∀m,aF (AP af) none m 47 [IA z o ar,IA zl .no l]=some (IA z' o' t,m))/\t.length=N/\∀y∈t,0<=y/\y<=4:=by
 obtain ⟨z',o',t,e,_,a,b⟩:=V47 z zl o.fr .no ar l h1 h2 hN ym;exact ⟨z',o',t,fun m=>by rw[fN (n6 z o ar) (n6 zl .no l),show (Own.no).fr=Own.no from rfl,e];rfl,a,fun y hy=>by have:=b y hy;omega⟩
theorem qtg{ar:List Int}{P:List ND}(g:GoodL ar P)(hP:0<P.length)(hs:dR P (Vi P (P.length-1) [])=P):pq ar (P.map ke):=by
 obtain ⟨d1,_,_⟩:=pT g (P.length-1) aa [] qq;have:=U6 g d1;rw[hs] at this;exact this
theorem qpz{m0:ai}{L:OL}{z:Bool}{o:Own}{l:List ND}{x:AV}{ws:List RV}{T:List Nat}{c:Int}(hw:QR 43 (some 3) m0 x (ws.map RV.av) T)(hL:L.fr=L):Fz (cA L z o l x c) (cA L z o.fr l (wv ws).av c):=fun m=>by
 have q1:cq m 8 L.av=some (L.av,[]):=by
  have:=Pq.fza_ol L m 7;rw[hL] at this;exact this
 have q2:cq m 8 (NL z o l)=some (NL z o.fr l,[]):=sD (some 3) z o (l.map ND.av) m 7;have q3:=Ya (m2:=m) (k:=7) hw;have q4:cq m 8 (.I c)=some (.I c,[]):=rfl;show (fU (cq m 8) [L.av,NL z o l,x,.I c]).map _=_;simp only[fU,q1,q2,q3,q4,ae,aQ,bF,cu]
theorem qou{m0:ai}{L:OL}{tk:Nat}{l:List ND}{x:AV}{ws:List RV}{T:List Nat}{c:Int}(hw:QR 43 (some 3) m0 x (ws.map RV.av) T):df (some 4) [cA (fS L) false (.tok tk 74) l x c]=some (.lst (some 4) false .full [cA (fS L) false .no l (wv ws).av c]):=by
 generalize hl:ws.map RV.av=es at hw
 cases hw with
 | none=>
  have:ws=[]:=uA.1 hl;subst this;rfl
 | some t es ht hne=>
  have Kf:ws≠[]:=fun e=>hne (by rw[<- hl,e];rfl);have e:(wv ws).av=.lst (some 3) false .no (ws.map RV.av):=by unfold wv;rw[an Kf];rfl
  rw[e,hl];rfl
theorem OX{c:Pq.CV}(h:c.fr=c):df (some 4) [c.av]=some (.lst (some 4) false .full [c.av]):=by
 have h1:c.odds.o.fr=c.odds.o:=dc (fun x:Pq.CV=>x.odds.o) h;have h2:c.nodes.o.fr=c.nodes.o:=dc (fun x:Pq.CV=>x.nodes.o) h;have h3:c.ws.o.fr=c.ws.o:=dc (fun x:Pq.CV=>x.ws.o) h;obtain ⟨⟨a1,a2,a3⟩,⟨b1,b2,b3,b4⟩,⟨c1,c2,c3,c4⟩,lf⟩:=c
 cases a2<;>first|cases h1|skip
 all_goals (cases b3<;>first|cases h2|skip)
 all_goals (cases c3<;>first|rfl|cases h3)
theorem qoH{c p:Pq.CV}(h1:p.odds.es=c.odds.es)(h2:p.nodes.es=c.nodes.es)(h3:p.ws.es=c.ws.es)(h4:p.leaf=c.leaf):Pq.checkE p=Pq.checkE c/\Pq.checkQ p=Pq.checkQ c:=by
 obtain ⟨⟨a1,a2,a3⟩,⟨b1,b2,b3,b4⟩,⟨d1,d2,d3,d4⟩,lf⟩:=c;obtain ⟨⟨a1',a2',a3'⟩,⟨b1',b2',b3',b4'⟩,⟨d1',d2',d3',d4'⟩,lf'⟩:=p;dsimp only at h1 h2 h3 h4;subst h1;subst h2;subst h3;subst h4;exact ⟨rfl,rfl⟩
theorem quK{M N:Nat}{r:RV}(h:WC M r N):WC M (Pq.cutW r) N:=by
 obtain ⟨⟨ok,hq,fr⟩,can⟩:=h;have e1:r.num.ds.take 30=r.num.ds:=iX (by have:=ok.ln;omega);have e2:r.den.ds.take 30=r.den.ds:=iX (by have:=ok.ld;omega);obtain ⟨ng,⟨z1,o1,d1⟩,⟨z2,o2,d2⟩⟩:=r;dsimp only at e1 e2
 have e:Pq.cutW ⟨ng,⟨z1,o1,d1⟩,⟨z2,o2,d2⟩⟩=⟨ng,⟨z1,.no,d1⟩,⟨z2,.no,d2⟩⟩:=by
  unfold Pq.cutW Pq.cutN;dsimp only;rw[e1,e2]
 rw[e];exact ⟨⟨⟨⟨ok.num.dg,ok.num.len,ok.num.nil⟩,⟨ok.den.dg,ok.den.len,ok.den.nil⟩,ok.ln,ok.ld⟩,hq,rfl⟩,⟨can.neg,can.num,can.den,can.numz,can.denz⟩⟩
section
variable {r:List Int} {L:OL} {P:List ND} {M:Nat}
theorem qsk(hO:OddsOk r L)(qqT:∀l∈L.es,l.fr=l)(g:GoodL r P)(dQ:r.length<=16)(h1:∀x∈r,1<=x/\x<=64)(hR:pq r (P.map ke))(tz:0<P.length)(hP:P.length<=120){c:Int}(hc:0<=c/\c<=2147483647)(hM:M=PM r (bO L) r.length 0)(h0:M≠0){ws:List RV}(hlen:ws.length=P.length)(hws:∀k (h:k<ws.length),WC M ws[k] (Hc r (bO L) P c k)) :
  ∃p q:Pq.CV,AP af 59 [cA L false .no P (wv ws).av c]=some (.tup [p.av,q.av])/\(Pq.OKC p/\Pq.vw p=vF (Pq.rowsOf L) (Pq.keysOf (P.map pN)) (fun n=>Hc r (bO L) P n (P.length-1)) M c)/\(Pq.OKC q/\Pq.vw q=vF (Pq.rowsOf L) (Pq.keysOf (P.map pN)) (fun n=>Hc r (bO L) P n (P.length-1)) M c):=by
 have hne:ws≠[]:=fun e=>by subst e;simp at hlen;omega
 have hw:(wv ws).es=ws:=uo ws
 have xc:Pq.XC (pC L P (wv ws) c):=by
  refine ⟨.inl rfl,fun n hn=>?_,qqT,.inl ?_,fun x hx=>?_⟩
  .obtain ⟨n',_,rfl⟩:=iw.1 hn;unfold pN Pq.IL.fr ko;dsimp only;split<;>rfl
  .show (wv ws).sh=some 3;unfold wv;rw[an hne]
  .have hx:x∈ws:=by rw[<- hw];exact hx
   obtain ⟨k,hk,rfl⟩:=vU.1 hx;have ok:=(hws k hk).wv.ok;exact ⟨⟨ok.num.dg,ok.num.nil⟩,⟨ok.den.dg,ok.den.nil⟩⟩
 have key:∀p:Pq.CV,Pq.CutOf (pC L P (wv ws) c) p->Pq.OKC p/\Pq.vw p=vF (Pq.rowsOf L) (Pq.keysOf (P.map pN)) (fun n=>Hc r (bO L) P n (P.length-1)) M c:=fun p hp=>by
  have o1:p.odds.es=L.es:=by rw[hp.odds];exact iX (by show L.es.length<=40;rw[hO.len];omega)
  have o2:p.nodes.es=P.map pN:=by rw[hp.nodes];exact iX (by show (P.map pN).length<=120;rw[bu];omega)
  have o3:p.ws.es=ws.map Pq.cutW:=by
   rw[hp.ws,show (pC L P (wv ws) c).ws.es=ws from hw,iX aa]
  have o4:p.leaf=c:=hp.leaf;obtain ⟨q1,q2⟩:=qoH (c:=pC L P p.ws c) (p:=p) o1 o2 rfl o4
  obtain ⟨c1,_,c3⟩:=Xs (V:=p.ws) hO g dQ h1 hR tz hc hM h0 (by rw[o3,bu];exact hlen) (fun k hk=>by
   have jB:k<ws.length:=by rw[o3,bu] at hk;exact hk
   have e:p.ws.es[k]=Pq.cutW ws[k]:=by simp only[o3,tf]
   rw[e]
   exact quK (hws k jB))
  refine ⟨⟨hp.fr,hp.ok⟩,?_⟩;have r1:Pq.rowsOf p.odds=Pq.rowsOf L:=by unfold Pq.rowsOf;rw[o1]
  unfold Pq.vw vF;rw[q1,q2,c1,c3,r1,o2,o4]
 obtain ⟨p,q,e,hp,hq⟩:=Pq.V59 xc;rw[qbj g.ok] at e;exact ⟨p,q,e,key p hp,key q hq⟩
theorem XE{m:ai}{k:Nat}{a b d n:AV}{c:Pq.CV}(h:m.get k=some (.B [a,b,d,n])):aP (some 4) m (.ptr k 0) c.av=some (m.set k (some (.B [c.odds.av,c.nodes.av,c.ws.av,.I c.leaf]))):=
 Lo h rfl ⟨rfl,rfl⟩ ⟨rfl,rfl⟩ ⟨rfl,rfl⟩
abbrev yb:Option Ent:=some (.B [aD,aD,aD,.I 0])
theorem X9{s:Nat}{F:List Nat}{zs:Bool}{os:Own}{most:Int}(hm:most≠0)(g:GoodL r P)(h1:∀x∈r,1<=x/\x<=64)(dQ:r.length<=16)(tz:0<P.length)(hP:P.length<=120)(sM:dR P (Vi P (P.length-1) [])=P)(h64:∀r∈L.es,r.ns.length<=64)(mF:L.es.length<=40)(hz:∀r∈L.es,r.z=false)(Fc:L.fr=L)(Yq:Pq.oddsB ⟨zs,os,r⟩ L=true){lv:List Int}(h6:lv.length<=6)(Fy:∀y∈lv,0<=y/\y<=4){zl:Bool}{ol:Own}(x3:AV)(K:KT):∀(d i:Nat) (m:ai) (x y:AV) (A B:List Pq.CV) (T:List Nat),i+d=lv.length->dW m s F (IA zs os r) most P->TW m x (A.map Pq.CV.av) y (B.map Pq.CV.av) T->(∀t∈T,t∉F)->(∀c∈A,Pq.OKC c)->(∀c∈B,Pq.OKC c) ->
  A.map Pq.vw=(lv.take i).map (vF (Pq.rowsOf (fS L)) (Pq.keysOf (P.map pN)) (fun n=>Hc r (bO L) P n (P.length-1)) (PM r (bO L) r.length 0))->B.map Pq.vw=(lv.take i).map (vF (Pq.rowsOf (fS L)) (Pq.keysOf (P.map pN)) (fun n=>Hc r (bO L) P n (P.length-1)) (PM r (bO L) r.length 0)) ->
  ∃(m':ai) (x' y':AV) (A' B':List Pq.CV) (T':List Nat),Ix x3 L.av (.ptr s 0) (.I (P.length-1:Nat)) x y (IA zl ol lv) (.I lv.length) (.I i) m K=K (.exit 0) (IS x3 x' y' m')/\TW m' x' (A'.map Pq.CV.av) y' (B'.map Pq.CV.av) T'/\(∀c∈A',Pq.OKC c)/\(∀c∈B',Pq.OKC c) /\
   A'.map Pq.vw=lv.map (vF (Pq.rowsOf (fS L)) (Pq.keysOf (P.map pN)) (fun n=>Hc r (bO L) P n (P.length-1)) (PM r (bO L) r.length 0))/\B'.map Pq.vw=lv.map (vF (Pq.rowsOf (fS L)) (Pq.keysOf (P.map pN)) (fun n=>Hc r (bO L) P n (P.length-1)) (PM r (bO L) r.length 0)):=by
 have bc:=KP h64 Yq;obtain ⟨rM,wF⟩:=El bc.all dQ;have hR:=qtg g tz sM;have hid:P.length-1<P.length:=aa;generalize ZF:vF (Pq.rowsOf (fS L)) (Pq.keysOf (P.map pN)) (fun n=>Hc r (bO L) P n (P.length-1)) (PM r (bO L) r.length 0)=vf;intro d
 induction d with
 | zero=>
  intro i m x y A B T hi st tw hT hA hB vA vB
  refine ⟨m,x,y,A,B,T,?_,tw,hA,hB,?_,?_⟩
  .rw[UN,bz,ae,aC,an aa]
  .rw[vA,iX aa]
  .rw[vB,iX aa]
 | succ d ih=>
  intro i m x y A B T hi st tw hT hA hB vA vB;have cE:i<lv.length:=aa;have iy:aI none (IA zl ol lv) (.I i)=some (.vptr [.I lv[i]]):=j6 cE;obtain ⟨c0,c4⟩:=Fy _ (bA cE);obtain ⟨m2,tk,xw,ws,Tw,e50,f2,hw,_,hlen,hws⟩:=qjj st hm g aa h1 dQ hid sM h64 mF hz Fc Yq (c:=lv[i]) ⟨c0,aa⟩;obtain ⟨wa1,wa2⟩:=Rz hw
  have b1:aP (some 4) (m2++[yb]) (.ptr m2.length 0) (cA (fS L) false (.tok tk 74) P xw lv[i])=some (m2++[some (.B [(fS L).av,NL false (.tok tk 74) P,xw,.I lv[i]])]):=by
   rw[Lo (a:=(fS L).av) (b:=NL false (.tok tk 74) P) (w:=xw) (n:=lv[i]) (cJ rfl) rfl ⟨rfl,rfl⟩ ⟨rfl,rfl⟩ ⟨wa1,wa2⟩,ue m2 _ _ rfl]
  have g3:ai.get (m2++[some (Ent.B [(fS L).av,NL false (.tok tk 74) P,xw,.I lv[i]])]) m2.length=some (.B [(fS L).av,NL false (.tok tk 74) P,xw,.I lv[i]]):=cJ rfl;have f3:Fr m (m2++[some (Ent.B [(fS L).av,NL false (.tok tk 74) P,xw,.I lv[i]])]) []:=f2.snoc _;generalize hm3:m2++[some (Ent.B [(fS L).av,NL false (.tok tk 74) P,xw,.I lv[i]])]=m3 at b1 f3 g3
  obtain ⟨p,q,e59,⟨okp,vp⟩,⟨okq,vq⟩⟩:=qsk (M:=PM r (bO L) r.length 0) (c:=lv[i]) (Jz bc) (fun l hl=>by
   unfold fS at hl;obtain ⟨l',_,rfl⟩:=iw.1 hl;unfold kG Pq.IL.fr;dsimp only
   try (split<;>rfl)) g dQ h1 hR tz hP ⟨c0,aa⟩ (by rw[yd]) rM hlen (by rw[yd];exact hws)
  rw[yd,ZF] at vp vq;clear vp okp
  have okp:Pq.OKC (pC (fS L) P (wv ws) lv[i]):=by
   refine ⟨?_,qde (Jz bc) dQ aa (M:=PM r (bO L) r.length 0) (by rw[uo];exact hlen) (qc4 fun w hw=>?_)⟩
   .show (⟨_,_,(wv ws).fr,_⟩:Pq.CV)=_;rw[quS];rfl
   .obtain ⟨k,hk,rfl⟩:=vU.1 hw;exact ⟨(hws k hk).wv.ok.mono aa,(hws k hk).wv.fr⟩
  have vp:Pq.vw (pC (fS L) P (wv ws) lv[i])=vf lv[i]:=by
   obtain ⟨k1,_,k3⟩:=Xs (V:=wv ws) (c:=lv[i]) (Jz bc) g dQ h1 hR tz ⟨c0,aa⟩ (M:=PM r (bO L) r.length 0) (by rw[yd]) rM (by rw[uo];exact hlen) (fun k hk=>by
    have jB:k<ws.length:=by rw[uo] at hk;exact hk
    have e:(wv ws).es[k]=ws[k]:=by simp only[uo]
    rw[e,yd]
    exact hws k jB)
   rw[yd] at k3;rw[<- ZF];unfold Pq.vw vF;rw[k1,k3];rfl
  have avp:(pC (fS L) P (wv ws) lv[i]).av=cA (fS L) false .no P (wv ws).av lv[i]:=qbj g.ok
  have p59:aF (AP af) none m3 59 [cA (fS L) false (.tok tk 74) P xw lv[i]]=some (.tup [p.av,q.av],m3):=by
   rw[cI (qpz hw (Xu L)),show (Own.tok tk 74).fr=Own.no from rfl,e59];rfl
  have s1:aP (some 4) ((m3++[yb])++[yb]) (.ptr m3.length 0) p.av=some ((m3++[some (Ent.B [p.odds.av,p.nodes.av,p.ws.av,.I p.leaf])])++[yb]):=by
   rw[XE (c:=p) (a:=aD) (b:=aD) (d:=aD) (n:=.I 0) (by rw[cK aA,cJ rfl]),Li m3 _ _ _ rfl]
  have s2:aP (some 4) ((m3++[some (Ent.B [p.odds.av,p.nodes.av,p.ws.av,.I p.leaf])])++[yb]) (.ptr (m3.length+1) 0) q.av=some ((m3++[some (Ent.B [p.odds.av,p.nodes.av,p.ws.av,.I p.leaf])])++[some (Ent.B [q.odds.av,q.nodes.av,q.ws.av,.I q.leaf])]):=by
   rw[XE (c:=q) (a:=aD) (b:=aD) (d:=aD) (n:=.I 0) (cJ aA),ue _ _ _ aA]
  have g51:ai.get ((m3++[some (Ent.B [p.odds.av,p.nodes.av,p.ws.av,.I p.leaf])])++[some (Ent.B [q.odds.av,q.nodes.av,q.ws.av,.I q.leaf])]) m3.length=some (Ent.B [p.odds.av,p.nodes.av,p.ws.av,.I p.leaf]):=by rw[cK aA,cJ rfl]
  have g52:ai.get ((m3++[some (Ent.B [p.odds.av,p.nodes.av,p.ws.av,.I p.leaf])])++[some (Ent.B [q.odds.av,q.nodes.av,q.ws.av,.I q.leaf])]) (m3.length+1)=some (Ent.B [q.odds.av,q.nodes.av,q.ws.av,.I q.leaf]):=cJ aA;have f5:Fr m ((m3++[some (Ent.B [p.odds.av,p.nodes.av,p.ws.av,.I p.leaf])])++[some (Ent.B [q.odds.av,q.nodes.av,q.ws.av,.I q.leaf])]) []:=(f3.snoc _).snoc _;have nw2:(az none (az none m3 (.B [aD,aD,aD,.I 0])).2 (.B [aD,aD,aD,.I 0])).2=(m3++[yb])++[yb]:=rfl
  have nr2:(az none (az none m3 (.B [aD,aD,aD,.I 0])).2 .resv).1=m3.length+1:=by
   show (m3++[yb]).length=_;simp
  generalize hm5:(m3++[some (Ent.B [p.odds.av,p.nodes.av,p.ws.av,.I p.leaf])])++[some (Ent.B [q.odds.av,q.nodes.av,q.ws.av,.I q.leaf])]=m5 at s2 g51 g52 f5
  have ld:∀{k:Nat} {c:Pq.CV},m5.get k=some (Ent.B [c.odds.av,c.nodes.av,c.ws.av,.I c.leaf])->aj (some 4) (bV m5 2) (.ptr k 0)=some c.av:=fun {k c} h=>by
   have:=bW h;rw[xu,fK,cK (by simp;omega),cK this,h];rfl
  have ldp:aj (some 4) (bV m5 2) (.ptr m2.length 0)=some (cA (fS L) false (.tok tk 74) P xw lv[i]):=by
   have g53:m5.get m2.length=some (.B [(fS L).av,NL false (.tok tk 74) P,xw,.I lv[i]]):=by
    have:=bW g3;rw[<- hm5,cK (by simp;omega),cK this,g3]
   have:=bW g53;rw[xu,fK,cK (by simp;omega),cK this,g53];rfl
  have st5:=st.app f5;have tw5:TW m5 x (A.map Pq.CV.av) y (B.map Pq.CV.av) T:=quu tw fun t ht=>f5.get t (qut tw t ht) aA
  have lA:A.length<=6:=by
   have:=dc List.length vA;rw[bu,bu,im] at this;omega
  have lB:B.length<=6:=by
   have:=dc List.length vB;rw[bu,bu,im] at this;omega
  obtain ⟨x',m61,y',m6,T',a1,a2,tw6,f6,g6⟩:=qus tw5 (by rw[bu];unfold ft;omega) (by rw[bu];unfold ft;omega) (pC (fS L) P (wv ws) lv[i]).av q.av;have st6:dW m6 s F (IA zs os r) most P:=st5.fr f6 fun a ha hb=>hT a hb ha
  have JZ:∀t∈T',t∉F:=fun t ht hf=>by
   rcases g6 t ht with h|h
   .exact hT t h hf
   .have:=st5.lt t hf;omega
  have eA:(lv.take (i+1)).map vf=(lv.take i).map vf++[vf lv[i]]:=by
   rw[mU cE,iH];rfl
  obtain ⟨m',x'',y'',A',B',T'',e,k⟩:=ih (i+1) m6 x' y' (A++[pC (fS L) P (wv ws) lv[i]]) (B++[q]) T' aa st6 (by rw[iH,iH];exact tw6) JZ (fun c hc=>by
   rcases hZ.1 hc with h|h
   .exact hA c h
   .rw[List.mem_singleton] at h;subst h;exact okp) (fun c hc=>by
   rcases hZ.1 hc with h|h
   .exact hB c h
   .rw[List.mem_singleton] at h;subst h;exact okq) (by rw[eA,iH,vA];simp[vp]) (by rw[eA,iH,vB];simp[vq])
  refine ⟨m',x'',y'',A',B',T'',?_,k⟩;rw[UN,bz,ae,aC,aq aa,iy,ae,Pq.load_hd,ae,e50,ae,rI,ae,rJ,ae,Q6,Gi,b1,ae,gm,ae,aC,an aa,QM g3,ae,p59,ae];dsimp only;rw[rI,ae,rJ,ae,nw2,nr2,Gi,s1,ae,s2,ae,ldp,ae,qou hw,ae,ld g52,ae,OX okq.1,ae,<- avp,a1,ae];dsimp only;rw[a2,ae,bU aa,ae];exact e
theorem qbQ(tk:TK)(a:Int){n:Nat}(h:n≠0):ag tk .rem (.I a) (.I n)=some (.I (a.tmod n)):=by
 have e:ag tk .rem (.I a) (.I n)=if (n:Int)=0 then none else some (.I (a.tmod n)):=by cases tk<;>rfl
 rw[e,an aa]
theorem qrZ(a:Int){n:Nat}(h:n≠0)(hn:n<=100000):∃i:Nat,(IntKind.wrap .i64 (a.tmod n+n)).tmod n=i/\i<n:=by
 have a1:=Int.tmod_lt_of_pos a (show (0:Int)<n by omega)
 have a2:-(n:Int)<a.tmod n:=by
  rcases Int.le_total 0 a with h0|h0
  .have:=Int.tmod_nonneg (a:=a) n h0;omega
  .have e:(-a).tmod n=-(a.tmod n):=Int.neg_tmod ..;have:=Int.tmod_lt_of_pos (-a) (show (0:Int)<n by omega);omega
 rw[iV aa aa];have b1:=Int.tmod_lt_of_pos (a.tmod n+n) (show (0:Int)<n by omega);have b2:=Int.tmod_nonneg (a:=a.tmod n+n) n aa;exact ⟨((a.tmod n+n).tmod n).toNat,aa,aa⟩
theorem quv{m:ai}{x y:AV}{es fs:List AV}{T:List Nat}(h:TW m x es y fs T)(hne:es≠[]):∃a b,x=.lst (some 4) false (.tok a 88) es/\y=.lst (some 4) false (.tok b 93) fs:=by
 cases h with
 | none=>exact absurd rfl hne
 | some a b es fs=>exact ⟨a,b,rfl,rfl⟩
theorem p60{Lc:List Pq.CV}(hl:∀c∈Lc,Pq.OKC c)(h6:Lc.length<=6){x:AV}{z:Bool}{o:Own}(hx:Fz x (.lst (some 4) z o (Lc.map Pq.CV.av)))(d:Option Nat)(m:ai):aF (AP af) d m 60 [x]=some (.bool (Pq.wholeP (Lc.map Pq.vw)),m):=by
 have e:AP af 60 [.lst (some 4) z o (Lc.map Pq.CV.av)]=some (.bool (Pq.wholeP (Lc.map Pq.vw))):=Pq.V60 (sh:=some 4) (z:=z) (o:=o) hl h6 (.inl rfl);rw[cI hx,e];rfl
theorem p61{Lc:List Pq.CV}(hl:∀c∈Lc,Pq.OKC c)(h6:Lc.length<=6){x:AV}{z:Bool}{o:Own}(hx:Fz x (.lst (some 4) z o (Lc.map Pq.CV.av)))(d:Option Nat)(m:ai):aF (AP af) d m 61 [x]=some (.bool (Pq.wholeP (Lc.map Pq.vw)),m):=by
 have e:AP af 61 [.lst (some 4) z o (Lc.map Pq.CV.av)]=some (.bool (Pq.wholeP (Lc.map Pq.vw))):=Pq.V61 (sh:=some 4) (z:=z) (o:=o) hl h6 (.inl rfl);rw[cI hx,e];rfl
theorem Rk(d:Option Nat)(m:ai):aF (AP af) d m 60 [aD]=some (.bool false,m):=by
 have e:AP af 60 [aD]=some (.bool (Pq.wholeP [])):=Pq.V60 (sh:=none) (z:=true) (o:=.full) (L:=[]) aA aA (.inr rfl);rw[cI (show Fz aD aD from fun _=>rfl),e,quM];rfl
theorem qcd{n M:Nat}(h0:M≠0):y7 (cT false n M)=0↔n=0:=by
 constructor
 .intro h
  have h2:cT false n M=0:=by
   unfold y7 at h
   split at h
   .assumption
   .split at h<;>cases h
  exact (qbM h0).1 (h2.trans (xq false M).symm)
 .intro h;subst h;rw[xq];rfl
theorem qpk{R0:List (List Int)}{K0:List (Int×Int×List Int)}{h:Int->Nat}(h0:M≠0){lv:List Int}(hp:lv.Pairwise (· < ·))(hne:lv≠[])(h6:lv.length<=6)(lS:(lv.map h).sum=M){m:ai}{x y:AV}{A B:List Pq.CV}{T:List Nat}(tw:TW m x (A.map Pq.CV.av) y (B.map Pq.CV.av) T)(hA:∀c∈A,Pq.OKC c)(hB:∀c∈B,Pq.OKC c)(vA:A.map Pq.vw=lv.map (vF R0 K0 h M))(vB:B.map Pq.vw=lv.map (vF R0 K0 h M))(d0:Int):∃m',HC (aH f9) (.exit 0) (IS (.I d0) x y m)=some (.bool true,m'):=by
 have lA:A.length=lv.length:=by have:=dc List.length vA;rwa [bu,bu] at this
 have lB:B.length=lv.length:=by have:=dc List.length vB;rwa [bu,bu] at this
 have pF:lv.length≠0:=fun e=>hne (oF e)
 obtain ⟨a,b,rfl,rfl⟩:=quv tw (fun e=>by
  have:=dc List.length e;rw[bu,bo] at this
  omega)
 have wA:Pq.wholeP (A.map Pq.vw)=true:=by rw[vA,Sw h0 hp];exact bM lS
 have wB:Pq.wholeP (B.map Pq.vw)=true:=by rw[vB,Sw h0 hp];exact bM lS
 have fzl:∀(z:Bool) (o:Own) (es:List AV),Fz (.lst (some 4) z o es) (.lst (some 4) z o.fr es):=fun z o es m=>sD (some 4) z o es m 8;have c60:=fun d m=>p60 hA aa (fzl false (.tok a 88) (A.map Pq.CV.av)) d m;have c61:=fun d m=>p61 hB aa (fzl false (.tok b 93) (B.map Pq.CV.av)) d m;rw[wA] at c60;rw[wB] at c61;have ln:aM false (.lst (some 4) false (.tok a 88) (A.map Pq.CV.av))=some (.I lv.length):=by rw[qy,bu,lA]
 obtain ⟨i,ei,hi⟩:=qrZ d0 pF aa;have PZ:i<A.length:=aa;have em:df (some 4) []=some (.lst (some 4) false .full []):=rfl;obtain ⟨x1,m1,T1,e1,r1,t1,k1,n1⟩:=Le (e:=88) (m:=bV m 2) .emp (s:=m.length) (by rw[xu,cK aA,cJ rfl]) false .no ((A.map Pq.CV.av).take i) (by rw[im,bu];unfold ft;simp;omega);obtain ⟨x2,m2,T2,e2,r2,_,_,_⟩:=Le (s:=m.length+1) r1 (by rw[k1 _ aa aA,xu,cJ aA]) false .no ((A.map Pq.CV.av).drop (i+1)) (by rw[bF,im,pn,bu];unfold ft;omega);have el:[]++(A.map Pq.CV.av).take i++(A.map Pq.CV.av).drop (i+1)=(A.take i++A.drop (i+1)).map Pq.CV.av:=by rw[bF,iH,qm,List.map_drop]
 rw[el] at r2
 have qpV:∀c∈A.take i++A.drop (i+1),Pq.OKC c:=fun c hc=>by
  rcases hZ.1 hc with h|h
  .exact hA c (uC h)
  .exact hA c (List.mem_of_mem_drop h)
 have vLess:(A.take i++A.drop (i+1)).map Pq.vw=(lv.take i++lv.drop (i+1)).map (vF R0 K0 h M):=by
  rw[iH,qm,List.map_drop,vA,<- qm,<- List.map_drop,<- iH]
 have lLess:(A.take i++A.drop (i+1)).length=lv.length-1:=by rw[aW,im,pn];omega
 obtain ⟨zz,oo,hfz⟩:=qbT (m2:=m2) r2;have c60l:=fun d m=>p60 qpV aa hfz d m;have wl:Pq.wholeP ((A.take i++A.drop (i+1)).map Pq.vw)=decide (h lv[i]=0):=by rw[vLess];exact quL h0 hp lS hi
 rw[wl] at c60l;have lnl:aM false x2=some (.I (lv.length-1:Nat)):=by rw[qth r2,bu,lLess]
 have ve:Pq.vw A[i]=vF R0 K0 h M lv[i]:=by
  have h1:(A.map Pq.vw)[i]?=(lv.map (vF R0 K0 h M))[i]?:=by rw[vA]
  rw[mS,mS,bP PZ,bP hi] at h1;exact pS h1
 have vq:Pq.checkQ A[i]=cT false (h lv[i]) M:=dc Pq.Vw.q ve;have okA:=hA _ (bA PZ);obtain ⟨rr,Df,rq,rf,rk⟩:=Pq.V53 okA.2;have ix:∀(j:Nat) (hj:j<A.length),aI (some 4) (.lst (some 4) false (.tok a 88) (A.map Pq.CV.av)) (.I j)=some (.vptr (A[j].av).cells):=fun j hj=>Pq.index_ka (sh:=some 4) (l:=A) (.inl rfl) hj
 have p53:∀m:ai,aF (AP af) none m 53 [A[i].av]=some (.tup [rr.av,.I (Pq.checkI A[i]),.I (Pq.checkE A[i])],m):=fun m=>by
  rw[cI (Pq.fz_cv A[i]),okA.1,Df];rfl
 have nz:∀m:ai,(az none m (.B [.bool false,aD,aD])).2=m++[bZ]:=fun _=>rfl
 have st0:∀(m:ai) (q:RV),aP (some 3) (m++[bZ]) (.ptr m.length 0) q.av=some (m++[bR q]):=fun m q=>by
  rw[Gx (c1:=.bool false) (c2:=aD) (c3:=aD) (cJ rfl),ue m _ _ rfl]
 have p57:∀d (m:ai),aF (AP af) d m 57 [rr.av]=some (.I (y7 (cT false (h lv[i]) M)),m):=fun d m=>by
  rw[cI (jv rr),rf,VS rk aa,rq,vq];rfl
 have c1:gX (some 4) (.lst (some 4) false (.tok a 88) (A.map Pq.CV.av)) (some (.I 1)) none none=some (.lst (some 4) false .no ((A.map Pq.CV.av).drop 1)):=XI (i:=1) false (.tok a 88) _ (by rw[bu];omega);have hA0:0<A.length:=aa;have ok0:=hA _ (bA hA0);have ix0:aI (some 4) (.lst (some 4) false (.tok a 88) (A.map Pq.CV.av)) (.I 0)=some (.vptr (A[0].av).cells):=ix 0 hA0
 have turn:∀m:ai,∃(x3:AV) (m3:ai) (x4:AV) (m4:ai),bL (some m.length) false 88 (some 4) 80 (bV m 2) (.lst (some 4) false .full []) (.lst (some 4) false .no ((A.map Pq.CV.av).drop 1))=some (x3,m3)/\bL (some (m.length+1)) false 88 (some 4) 80 m3 x3 (.lst (some 4) false .full [A[0].av])=some (x4,m4)/\(1<lv.length->∀d m,aF (AP af) d m 60 [x4]=some (.bool false,m)):=fun m=>by
  obtain ⟨x3,m3,T3,e3,r3,t3,k3,n3⟩:=Le (e:=88) (m:=bV m 2) .emp (s:=m.length) (by rw[xu,cK aA,cJ rfl]) false .no ((A.map Pq.CV.av).drop 1) (by rw[pn,bu];unfold ft;simp;omega);obtain ⟨x4,m4,T4,e4,r4,_,_,_⟩:=Le (s:=m.length+1) r3 (by rw[k3 _ aa aA,xu,cJ aA]) false .full [A[0].av] (by rw[bF,pn,bu];unfold ft;simp;omega);refine ⟨x3,m3,x4,m4,e3,e4,fun h1 d m=>?_⟩;have el:[]++(A.map Pq.CV.av).drop 1++[A[0].av]=(A.drop 1++[A[0]]).map Pq.CV.av:=by rw[bF,iH,List.map_drop];rfl
  rw[el] at r4;obtain ⟨zz,oo,hfz⟩:=qbT (m2:=m4) r4
  have e:=p60 (Lc:=A.drop 1++[A[0]]) (fun c hc=>by
   rcases hZ.1 hc with h|h
   .exact hA c (List.mem_of_mem_drop h)
   .rw[List.mem_singleton] at h;subst h;exact ok0) (by rw[aW,pn];simp;omega) hfz d m
  obtain ⟨n,os,rfl⟩:∃n os,lv=n::os:=by
   cases lv with
   | nil=>exact absurd rfl hne
   | cons n os=>exact ⟨n,os,rfl⟩
  have v0:Pq.vw A[0]=vF R0 K0 h M n:=by
   have h1:(A.map Pq.vw)[0]?=((n::os).map (vF R0 K0 h M))[0]?:=by rw[vA]
   rw[mS,bP hA0] at h1;exact pS h1
  have vT:(A.drop 1++[A[0]]).map Pq.vw=(os++[n]).map (vF R0 K0 h M):=by
   rw[iH,iH,List.map_drop,vA,gh,List.map_singleton,v0];rfl
  rw[vT,quN hp (fun e=>by subst e;simp at h1)] at e;exact e
 obtain ⟨x3,m3,x4,m4,q3,q4,q5⟩:=turn (m2++[bR rr]);have ac:ag .o .gtr (.I lv.length) (.I 1)=some (.bool (decide ((1:Int)<lv.length))):=gE ..;have tl:∀m,∃m':ai,m'=m:=fun m=>⟨m,rfl⟩;rw[qi3,c60,ae,nB,ae,jj,gT,c61,ae,nB,ae,jj,gT,ln,ae,qbQ _ _ pF,ae,ae,l9,ae,ae,qbQ _ _ pF,ae,ei,em,ae,qoZ _ _ _ (by rw[bu];omega),ae];dsimp only;rw[e1,ae,bU aa,ae,XI _ _ _ (by rw[bu];omega),ae];dsimp only;rw[e2,ae,ix i PZ,ae];dsimp only;rw[Pq.load_cv,ae,p53,ae,show a8 (.tup [rr.av,.I (Pq.checkI A[i]),.I (Pq.checkE A[i])]) 0=some rr.av from rfl,ae,show a8 (.tup [rr.av,.I (Pq.checkI A[i]),.I (Pq.checkE A[i])]) 1=some (.I (Pq.checkI A[i])) from rfl,ae,show a8 (.tup [rr.av,.I (Pq.checkI A[i]),.I (Pq.checkE A[i])]) 2=some (.I (Pq.checkE A[i])) from rfl,ae];dsimp only;rw[nz,Gi,st0,ae,c60l,ae];dsimp only;rw[CX (r:=rr) (cJ rfl),ae,p57,ae];dsimp only;rw[iK,ae,aC]
 by_cases hz:h lv[i]=0
 .have h1:1<lv.length:=by
   refine Nat.lt_of_not_le fun hle=>h0 ?_
   obtain ⟨n,rfl⟩:∃n,lv=[n]:=by
    rcases lv with _|⟨n,_|⟨n',os⟩⟩
    .exact absurd rfl hne
    .exact ⟨n,rfl⟩
    .simp at hle
   obtain rfl:i=0:=by simp at hi;exact hi
   have hs:h n=M:=by simpa using lS
   rw[<- hs];exact hz
  rw[aq ((qcd h0).2 hz),lnl,ae,gE,ae,bM hz,bM (show (0:Int)<((lv.length-1:Nat):Int) by omega),dD,ae,show (true != true)=false from rfl,gT,ae,ac,ae,bM (show (1:Int)<lv.length by omega),ll,ae,c1,ae,ix0,ae,Pq.load_cv,ae,OX ok0.1,ae,q3,ae];dsimp only;rw[q4,ae];dsimp only;rw[q5 h1,ae];dsimp only;rw[gT,Rk,ae];dsimp only;rw[nB,ae,my,ll,Gl,ae];exact ⟨_,rfl⟩
 .rw[an (fun e=>hz ((qcd h0).1 e)),bD hz,dD,ae,show (false != false)=false from rfl,gT,ae,ac,ae]
  by_cases h1:1<lv.length
  .rw[bM (show (1:Int)<lv.length by omega),ll,ae,c1,ae,ix0,ae,Pq.load_cv,ae,OX ok0.1,ae,q3,ae];dsimp only;rw[q4,ae];dsimp only;rw[q5 h1,ae];dsimp only;rw[gT,Rk,ae];dsimp only;rw[nB,ae,my,ll,Gl,ae];exact ⟨_,rfl⟩
  .rw[bD (show ¬((1:Int)<lv.length) by omega),gT,Rk,ae];dsimp only;rw[nB,ae,my,ll,Gl,ae];exact ⟨_,rfl⟩
end
end Go.Ab
namespace Go.Ab
open Go.Proofs Go.Proofs.Tryz
theorem qjt(z zl zg:Bool)(ar l gv:List Int)(d0:Int):∃m',AC af 9 [IA z .no ar,IA zl .no l,IA zg .no gv,.I d0] []=some (.bool true,m'):=by
 obtain ⟨o',r,e45,hg,qu9,FD⟩:=qk1 z .no ar
 have p45:∀m,aF (AP af) none m 45 [IA z .no ar]=some (IA false o' r,m):=fun m=>by
  rw[cI (n6 z .no ar),show (Own.no).fr=Own.no from rfl,e45];rfl
 rw[T9,p45,ae,qbr,ae,gm,ae,aC]
 by_cases he:py r=0
 .rw[an (by simpa using he)];obtain ⟨h1,h2⟩:=z8 he;obtain ⟨hN,ym⟩:=qpg hg he;obtain ⟨zt,ot,t,p47,fJ,CP⟩:=qsG false zl o' l h1 h2 hN ym;obtain ⟨L,p48,hL,hz⟩:=qsH false zg o' h2 h1 gv;have h64:=hL.h64 h2;have mF:L.es.length<=40:=by rw[hL.len];omega
  have p18:∀(zs:Bool) (os:Own) m,aF (AP af) none m 18 [IA false o' r,L.av]=some (.bool (Pq.oddsB ⟨zs,os,r⟩ L),m):=fun zs os m=>by
   rw[fN (n6 false o' r) (Pq.fz_ol L),hL.fr];have:=Pq.V18 ⟨false,o'.fr,r⟩ L h64 mF;have e:AP af 18 [IA false o'.fr r,L.av]=some (.bool (Pq.oddsB ⟨zs,os,r⟩ L)):=this;rw[e];rfl
  obtain ⟨m1,s,F,zs,os,P,e49,st1,g,tz,hP4,tab,f1,_,sM,h31⟩:=A49 (za:=false) (zt:=zt) (oa:=o') (ot:=ot) (ar:=r) (t:=t) [] (fun h=>by cases h) he aa fJ CP;dsimp only;rw[p47,ae];dsimp only;rw[p48,ae];dsimp only;rw[p18 zs os,ae];dsimp only
  cases hO:Pq.oddsB ⟨zs,os,r⟩ L with
  | false=>
   rw[nB,ae,my,ll,Gl,ae];exact ⟨_,rfl⟩
  | true=>
   have hid:P.length-1<P.length:=aa;have bc:=KP h64 hO;obtain ⟨rM,wF⟩:=El bc.all h1;have JV:∀x∈r,1<=x:=fun x hx=>(h2 x hx).1
   have qp7:P.length<=120:=by
    have:=qpf g JV tab CP
    have e2:P.length=(Vi P (P.length-1) []).length:=by
     have:=dc List.length sM;unfold dR at this;rw[bu] at this;exact this.symm
    omega
   obtain ⟨zl',ol',lv,e58,Fy,gz⟩:=B14 (t:=t) aa CP zt ot m1;have J9:∀y∈lv,0<=y/\y<=4:=fun y hy=>CP y ((gz y).1 hy)
   have h6:lv.length<=6:=by
    have:=q8 5 (lv.map Int.toNat) (by
     rw[List.nodup_iff_pairwise_ne,List.pairwise_map];refine List.Pairwise.imp_of_mem ?_ Fy;intro a b ha hb jc e;have:=J9 a ha;have:=J9 b hb
     omega) (fun y hy=>by
     obtain ⟨a,ha,rfl⟩:=iw.1 hy;have:=J9 a ha
     omega)
    rw[bu] at this;omega
   have jd:0<t.length:=by
    have:1<=cn r:=Gm JV;have:=hN;omega
   have hne:lv≠[]:=fun e=>by
    have:=(gz t[0]).2 (bA jd);rw[e] at this;cases this
   obtain ⟨m2,x,y,A,B,T,e9,tw,hA,hB,vA,vB⟩:=X9 (L:=L) (most:=4000) (s:=s) (F:=F) (zs:=zs) (os:=os) aa g h2 h1 tz qp7 sM h64 mF hz hL.fr hO h6 J9 (zl:=zl') (ol:=ol') (.I d0) (HC (aH f9)) lv.length 0 m1 aD aD [] [] [] aa st1 .none aA aA aA rfl rfl
   have lS:(lv.map fun n=>Hc r (bO L) P n (P.length-1)).sum=PM r (bO L) r.length 0:=by
    have e1:(lv.map fun n=>Hc r (bO L) P n (P.length-1))=lv.map (Ht r (bO L) t):=List.map_congr_left fun n _=>qdi JV tab (bO L) n;rw[e1];exact qdk JV (by rw[fJ]) (Fy.imp fun h=>aa) fun y hy=>(gz y).2 hy
   obtain ⟨m',ef⟩:=qpk rM Fy hne h6 lS tw hA hB vA vB d0;refine ⟨m',?_⟩;have ln:aM false (IA zl' ol' lv)=some (.I lv.length):=iT ..;rw[nB,ae,jj,gT,e49,ae,show a8 (.tup [.ptr s 0,.I (P.length-1:Nat),.bool true]) 0=some (.ptr s 0) from rfl,ae,show a8 (.tup [.ptr s 0,.I (P.length-1:Nat),.bool true]) 1=some (.I (P.length-1:Nat)) from rfl,ae,show a8 (.tup [.ptr s 0,.I (P.length-1:Nat),.bool true]) 2=some (.bool true) from rfl,ae,nB,ae,jj,gT,e58,ae];dsimp only;rw[ln,ae];exact e9.trans ef
 .rw[aq he,Gl,ae];exact ⟨_,rfl⟩
end Go.Ab
namespace Go.Ab
open Go.Proofs Go.RowKit
theorem qrb(caps:Array Value)(w:World):CallsD Tryz.prog 140 caps .returning w fun e u w'=>(∃v,e=.returned v)/\u=.returning/\w'=w:=by
 refine callsD_of_wpS Tryz.func140 rfl fun c₀ cs hu=>?_
 have hs:45<=(caps++Array.replicate (Tryz.f140.ntmps-caps.size) undef).size:=by
  rw[Tryz.ntmps140,BC,Array.size_replicate];omega
 generalize caps++Array.replicate (Tryz.f140.ntmps-caps.size) undef=T at hs;apply wpS_seq;apply wpS_region;simp[wpOpsS,go_sem,recoverD,hu,Exit.thenS,Act.put,Act.eval,show 9<T.size by omega,show 4<T.size by omega];apply wpS_seq;apply wpS_seq;apply wpS_region;simp[wpOpsS,go_sem,recoverD,hu,Exit.thenS,Act.put,Act.eval,show 9<T.size by omega,show 4<T.size by omega,show 10<T.size by omega,show 11<T.size by omega];refine wpS_cond (t:=true) (by simp[Act.eval,show 11<T.size by omega]) ?_;simp only[bJ];refine wpS_of_wp (wp_ret ?_);cases c₀
 simp_all [bodyPostS,results,Tryz.results140,Exit.thenS]
theorem qrc(caps:Array Value)(w:World):CallsD Tryz.prog 177 caps .returning w fun e u w'=>(∃v,e=.returned v)/\u=.returning/\w'=w:=by
 refine callsD_of_wpS Tryz.func177 rfl fun c₀ cs hu=>?_
 have hs:3<=(caps++Array.replicate (Tryz.f177.ntmps-caps.size) undef).size:=by
  rw[Tryz.ntmps177,BC,Array.size_replicate];omega
 generalize caps++Array.replicate (Tryz.f177.ntmps-caps.size) undef=T at hs;apply wpS_seq;apply wpS_region;simp[wpOpsS,go_sem,recoverD,hu,Exit.thenS,Act.put,Act.eval,show 1<T.size by omega,show 2<T.size by omega];refine wpS_cond (t:=false) (by simp[Act.eval,show 2<T.size by omega]) ?_;simp only[jJ,lp];refine wpS_of_wp (wp_skip ?_);cases c₀
 simp_all [bodyPostS,results,Tryz.results177]
theorem W8{g:Nat}{fn:Func}(hfn:Tryz.prog.funcs[g]?=some fn) (hname:(fn.name == "runtime.NumGoroutine")=false) (hbody:fn.body.isSome) (caps:Array Value)
  (h:∀w,CallsD Tryz.prog g caps .returning w fun e u w'=>(∃v,e=.returned v)/\u=.returning/\w'=w):DF Tryz.prog { target:=.fn (.func g) caps,args:=#[] }:=by
 refine ⟨.func g,caps,g,caps,rfl,fun w=>⟨?_,h w⟩⟩;have hb:fn.body.isNone=false:=by cases hb:fn.body<;>simp_all
 simp only[invoke,callFunc,hfn,hname,hb,Sem.run_bind,Sem.run_pure,run_program,Result.andThen_ok,jJ,lp,Array.empty_append]
theorem qok(caps:Array Value):DF Tryz.prog { target:=.fn (.func 140) caps,args:=#[] }:=W8 Tryz.func140 au au caps (qrb caps)
theorem qol(caps:Array Value):DF Tryz.prog { target:=.fn (.func 177) caps,args:=#[] }:=W8 Tryz.func177 au au caps (qrc caps)
end Go.Ab
namespace Go.Ab
open Go.RowKit
def gN:G:=⟨fun _ _=>False,fun _=>False,fun _=>none,fun _ _=>none⟩
def Cd(P:Program)(t:Nat):Bool:=match P.underlying t with
 | some (.int _)|some .bool|some .string|some (.slice _)=>true
 | _=>false
def sV(P:Program)(t:Nat):Sh:=match P.underlying t with
 | some (.struct fs)=>some fs.size
 | _=>none
def pv(P:Program):Nat->Nat->AV->Prop
 | 0,_,_=>False
 | n+1,t,v=>match P.underlying t with
  | some (.int k)=>∃i,v=.int k i/\(Lit.int k i).wf=true
  | some .bool=>∃b,v=.bool b
  | some .string=>∃s,v=.str s/\s.size<=maxLen
  | some (.slice e)=>∃z es,v=.lst (sV P e) z .no es/\(z=true->es=[])/\∀x∈es,pv P n e x
  | some (.struct fs)=>∃cs,v=.agg cs/\cs.length=fs.size/\∀i f,fs[i]?=some f->pv P n f.type (cs.getD i .any)
  | _=>False
def JO(P:Program)(ok:Nat->Bool):Nat->List Field->Bool
 | _,[]=>true
 | i,f::l=>f.offset==i&&P.cellsOf f.type==1&&Cd P f.type&&ok f.type&&JO P ok (i+1) l
def vD(P:Program):Nat->Nat->Bool
 | 0,_=>false
 | n+1,t=>match P.underlying t with
  | some (.int _)|some .bool|some .string=>P.cellsOf t==1
  | some (.slice e)=>P.cellsOf t==1&&vD P n e
  | some (.struct fs)=>P.cellsOf t==fs.size&&decide (0<fs.size)&&JO P (vD P n) 0 fs.toList
  | _=>false
theorem Pm{P:Program}{ok:Nat->Bool}:∀{l:List Field} {i0:Nat},JO P ok i0 l=true->∀i f,l[i]?=some f->f.offset=i0+i/\P.cellsOf f.type=1/\Cd P f.type=true/\ok f.type=true
 | [],i0,h,i,f,hf=>by simp at hf
 | g::l,i0,h,i,f,hf=>by
  simp only[JO,cD,uH] at h;obtain ⟨⟨⟨⟨h1,h2⟩,h3⟩,h4⟩,h5⟩:=h
  cases i with
  | zero=>
   simp at hf;subst hf;exact ⟨h1,h2,h3,h4⟩
  | succ i=>
   simp at hf;obtain ⟨a,b⟩:=Pm h5 i f hf;exact ⟨aa,b⟩
theorem X0{s:Nat}(hs:0<s):∀{es:List AV},(∀e∈es,e.cells.length=s)->(dH es).length=es.length*s/\∀j,j<es.length*s->(dH es).getD j .any=(es.getD (j/s) .any).cells.getD (j%s) .any
 | [],h=>⟨by simp[dH],fun j hj=>by simp at hj⟩
 | e::es,h=>by
  have h0:=h e gj;obtain ⟨h1,h2⟩:=X0 hs (fun x hx=>h x (fW _ hx));have e1:dH (e::es)=e.cells++dH es:=rfl;have e2:(e::es).length*s=es.length*s+s:=by rw[ba,iI,rD]
  refine ⟨by rw[e1,aW,h0,h1,e2];omega,fun j hj=>?_⟩;rw[e1,aT]
  by_cases pY:j<s
  .rw[nZ aa,Nat.div_eq_of_lt pY,mz pY];show _=e.cells.getD j .any;rw[aT]
  .rw[td aa,h0,<- aT,h2 (j-s) aa]
   have e3:j/s=(j-s)/s+1:=by
    have:=Nat.div_eq_sub_div hs (by omega:s<=j);omega
   have e4:j%s=(j-s)%s:=Nat.mod_eq_sub_mod aa;rw[e3,e4,zH]
theorem Gq{P:Program}:∀(n t:Nat) (v:AV),vD P n t=true->pv P n t v->dJ (sV P t) v=true/\pl v=true/\v.cells.length=P.cellsOf t/\0<P.cellsOf t/\(sV P t).size=P.cellsOf t/\(Cd P t=true->fG v=true)
 | 0,t,v,ht,_=>by simp[vD] at ht
 | n+1,t,v,ht,h=>by
  unfold pv at h;unfold vD at ht;unfold sV Cd
  cases hu:P.underlying t with
  | none=>rw[hu] at h;exact h.elim
  | some ty=>
   rw[hu] at h ht
   cases ty with
   | int k=>
    obtain ⟨i,rfl,_⟩:=h;have hc:P.cellsOf t=1:=by simpa using ht
    exact ⟨rfl,rfl,hc.symm,aa,hc.symm,fun _=>rfl⟩
   | bool=>
    obtain ⟨i,rfl⟩:=h;have hc:P.cellsOf t=1:=by simpa using ht
    exact ⟨rfl,rfl,hc.symm,aa,hc.symm,fun _=>rfl⟩
   | string=>
    obtain ⟨i,rfl,_⟩:=h;have hc:P.cellsOf t=1:=by simpa using ht
    exact ⟨rfl,rfl,hc.symm,aa,hc.symm,fun _=>rfl⟩
   | slice e=>
    obtain ⟨z,es,rfl,_⟩:=h
    have hc:P.cellsOf t=1:=by
     simp only[cD,uH] at ht;exact ht.1
    exact ⟨rfl,rfl,hc.symm,aa,hc.symm,fun _=>rfl⟩
   | struct fs=>
    obtain ⟨cs,rfl,hl,hf⟩:=h;simp only[cD,uH,oM] at ht;obtain ⟨⟨h1,h2⟩,h3⟩:=ht
    have hall:∀c∈cs,fG c=true/\pl c=true:=by
     intro c hc;obtain ⟨i,hi,rfl⟩:=vU.1 hc;have yr:fs[i]?=some (fs[i]'(by omega)):=DC aa;obtain ⟨_,b,c2,d⟩:=Pm h3 i _ (by rw[Array.getElem?_toList];exact yr);have r:=hf i _ yr;rw[aT,bP hi] at r;have:=Gq n _ _ d r;exact ⟨this.2.2.2.2.2 c2,this.2.1⟩
    have hpl:∀l:List AV,(∀c∈l,pl c=true)->oE l=true:=by
     intro l
     induction l with
     | nil=>intro _;rfl
     | cons a l ih=>
      intro h;show (pl a&&oE l)=true;rw[h a gj,ih (fun c hc=>h c (fW _ hc))];rfl
    refine ⟨?_,hpl cs (fun c hc=>(hall c hc).2),by show cs.length=_;omega,aa,h1.symm,fun h=>by cases h⟩;show (cs.length==fs.size&&cs.all fG)=true;rw[cD];exact ⟨by simp[hl],gD.2 fun c hc=>(hall c hc).1⟩
   | _=>exact h.elim
section
variable {P:Program} {H:Type} {enc:TypeId×Value->H} {W:World}
theorem qs5{w:World}{a:Addr}{n:Nat}{cs:List Value}(h:w.cells? 0 a n=some cs):cs.length=n/\∀j,j<n->w.cell? (a.add j)=cs[j]?:=by
 unfold World.cells? at h;rw[aq (oJ _)] at h;refine ⟨by simpa using mapM_some_length h,fun j hj=>mapM_some_get h j j (by simp[hj])⟩
theorem qs4{a:Addr}(h:a.spot=none)(j:Nat):a.add j=⟨a.block,a.off+j,none⟩:=by
 obtain ⟨b,o,s⟩:=a;subst h;exact nY b o j
theorem reads:∀(n t:Nat),vD P n t=true->∀{fuel:Nat} {cs:List Value} {x:DataW H×List MemPlace},DataW.trod enc P W 0 (fun _=>true) true fuel t cs=some x->∃v:AV,pv P n t v/\cs.length=P.cellsOf t/\∀j,j<P.cellsOf t->V W gN (v.cells.getD j .any) (cs.getD j undef)
 | 0,t,ht,_,_,_,_=>by simp[vD] at ht
 | n+1,t,ht,fuel,cs,x,h=>by
  have Qv:=ht;unfold vD at ht;unfold pv
  cases hu:P.underlying t with
  | none=>rw[hu] at ht;cases ht
  | some ty=>
   rw[hu] at ht
   cases ty with
   | int k=>
    have hc:P.cellsOf t=1:=by simpa using ht
    obtain ⟨i,rfl,_,hw⟩:=DataW.trod_int hu h;refine ⟨.int k i,⟨i,rfl,hw⟩,hc.symm,fun j hj=>?_⟩;obtain rfl:j=0:=aa;exact .int _ _
   | bool=>
    have hc:P.cellsOf t=1:=by simpa using ht
    obtain ⟨i,rfl,_⟩:=DataW.trod_bool hu h;refine ⟨.bool i,⟨i,rfl⟩,hc.symm,fun j hj=>?_⟩;obtain rfl:j=0:=aa;exact .bool _
   | string=>
    have hc:P.cellsOf t=1:=by simpa using ht
    obtain ⟨i,rfl,_,hw⟩:=DataW.trod_string hu h;refine ⟨.str i,⟨i,rfl,hw⟩,hc.symm,fun j hj=>?_⟩;obtain rfl:j=0:=aa;exact .str _
   | slice e=>
    simp only[cD,uH] at ht;obtain ⟨hc,FP⟩:=ht
    rcases DataW.trod_slice hu h with ⟨rfl,_⟩|⟨a,len,cap,elems,rest,m,_,rfl,_,_,hl,hm,he,mH,Qn,_⟩
    .refine ⟨.lst (sV P e) true .no [],⟨true,[],rfl,fun _=>rfl,fun x hx=>by cases hx⟩,hc.symm,fun j hj=>?_⟩;obtain rfl:j=0:=aa;exact .nils _ .no (.inr rfl)
    .obtain ⟨FJ,Qn⟩:=Qn rfl
     have raw:∀i,i<cap->∃y,(W.cells? 0 (a.add (i*P.cellsOf e)) (P.cellsOf e)).bind (DataW.trod enc P W 0 (fun _=>true) true m e)=some y:=by
      intro i hi
      by_cases hi2:i<len
      .have h1:=mH i hi2;rw[bP aa] at h1;exact ⟨_,h1⟩
      .have h1:=Qn (i-len) aa;rw[bP aa,show len+(i-len)=i by omega] at h1;exact ⟨_,h1⟩
     have at1:∀i,i<cap->(i=0\/a.spot=none)->a.spot=none/\∃v:AV,pv P n e v/\∀j,j<P.cellsOf e->∃u,W.cell? ⟨a.block,a.off+(i*P.cellsOf e+j),none⟩=some u/\V W gN (v.cells.getD j .any) u:=by
      intro i hi nR;obtain ⟨y,hy⟩:=raw i hi;obtain ⟨cs,h1,h2⟩:=bn.1 hy;obtain ⟨v,hv,hlen,hV⟩:=reads n e FP h2;have jd:=(Gq n e v FP hv).2.2.2.1;have h3:=(qs5 h1).2
      have hs:a.spot=none:=by
       rcases nR with rfl|nR
       .rw[zM] at h3;have h4:=h3 0 jd;rw[bP aa] at h4;exact World.cell?_spot h4
       .exact nR
      refine ⟨hs,v,hv,fun j hj=>?_⟩;have h4:=h3 j hj;rw[qs4 hs,nY,oH,bP aa] at h4;refine ⟨_,h4,?_⟩;have:=hV j hj
      rwa [aT (l:=cs),bP aa] at this
     have hsp:cap=0\/a.spot=none:=by
      by_cases h0:cap=0
      .exact .inl h0
      .exact .inr (at1 0 aa (.inl rfl)).1
     have cell:∀i,∃v:AV,i<cap->pv P n e v/\∀j,j<P.cellsOf e->∃u,W.cell? ⟨a.block,a.off+(i*P.cellsOf e+j),none⟩=some u/\V W gN (v.cells.getD j .any) u:=by
      intro i
      by_cases hi:i<cap
      .obtain ⟨v,hv⟩:=(at1 i hi (.inr (hsp.resolve_left (by omega)))).2;exact ⟨v,fun _=>hv⟩
      .exact ⟨.any,fun h=>absurd h hi⟩
     obtain ⟨f,hf⟩:=Classical.axiomOfChoice cell;have hlen:((List.range len).map f).length=len:=aA
     have gz:∀v∈(List.range len).map f,pv P n e v:=by
      intro v hv;obtain ⟨i,hi,rfl⟩:=iw.1 hv;exact (hf i (by have:=vV.1 hi;omega)).1
     have bc:=fun v hv=>Gq n e v FP (gz v hv)
     by_cases pF:len=0
     .subst pF;refine ⟨.lst (sV P e) false .no [],⟨false,[],rfl,(fun h=>by cases h),fun x hx=>by cases hx⟩,hc.symm,fun j hj=>?_⟩;obtain rfl:j=0:=aa;exact V.lst (w:=W) (g:=gN) (sV P e) .no [] a cap (fun _=>undef) hsp (oJ _) hm (fun e he=>by cases he) (fun j hj=>by simp[dH] at hj) (fun j hj=>by simp[dH] at hj) trivial
     .have nR:0<P.cellsOf e:=(bc (f 0) (iw.2 ⟨0,vV.2 aa,rfl⟩)).2.2.2.1;obtain ⟨fl1,fl2⟩:=X0 nR (fun v hv=>(bc v hv).2.2.1);rw[hlen] at fl1 fl2
      have hcl:∀j,j<len*P.cellsOf e->∃u,W.cell? ⟨a.block,a.off+j,none⟩=some u/\V W gN ((dH ((List.range len).map f)).getD j .any) u:=by
       intro j hj;have hd:j/P.cellsOf e<len:=Nat.div_lt_of_lt_mul (by rw[dF];exact hj);have h1:=(hf (j/P.cellsOf e) (by omega)).2 (j%P.cellsOf e) (kV _ nR);have e1:j/P.cellsOf e*P.cellsOf e+j%P.cellsOf e=j:=Nat.div_add_mod' j _;rw[e1] at h1;rw[fl2 j hj,aT (l:=(List.range len).map f),mS,List.getElem?_range hd];exact h1
      have hus:∀j,∃u,j<len*P.cellsOf e->W.cell? ⟨a.block,a.off+j,none⟩=some u/\V W gN ((dH ((List.range len).map f)).getD j .any) u:=by
       intro j
       by_cases hj:j<len*P.cellsOf e
       .obtain ⟨u,hu⟩:=hcl j hj;exact ⟨u,fun _=>hu⟩
       .exact ⟨undef,fun h=>absurd h hj⟩
      obtain ⟨us,hus⟩:=Classical.axiomOfChoice hus;refine ⟨.lst (sV P e) false .no ((List.range len).map f),⟨false,_,rfl,(fun h=>by cases h),gz⟩,hc.symm,fun j hj=>?_⟩;obtain rfl:j=0:=aa
      have hV:=V.lst (w:=W) (g:=gN) (sV P e) .no ((List.range len).map f) a cap us hsp (by rw[hlen];exact hl) hm
       (fun v hv=>⟨(bc v hv).1,(bc v hv).2.1⟩)
       (fun j hj=>by
        rw[fl1] at hj
        exact ⟨(hus j hj).1,fun h=>h,fun h=>h⟩)
       (fun j hj=>by
        rw[fl1] at hj
        exact (hus j hj).2) trivial
      rw[hlen] at hV;exact hV
   | struct fs=>
    simp only[cD,uH,oM] at ht;obtain ⟨⟨h1,h2⟩,h3⟩:=ht;obtain ⟨xs,m,_,_,hcl,sO,hf⟩:=DataW.trod_struct hu h
    have fld:∀i,∃v:AV,i<fs.size->∀f,fs[i]?=some f->pv P n f.type v/\V W gN v (cs.getD i undef):=by
     intro i
     by_cases hi:i<fs.size
     .have yr:fs[i]?=some fs[i]:=DC hi;obtain ⟨o,c,a,k⟩:=Pm h3 i fs[i] (by rw[Array.getElem?_toList];exact yr);have hx:=hf i fs[i] yr;rw[bP aa] at hx;obtain ⟨v,hv,hlen,hV⟩:=reads n _ k hx;refine ⟨v,fun _ f hf=>?_⟩;rw[yr] at hf;obtain rfl:=pS hf;refine ⟨hv,?_⟩;have h0:=hV 0 aa;have iC:=(Gq n _ v k hv).2.2.2.2.2 a
      have yp:v.cells=[v]:=by
       cases v<;>first|rfl|(simp[fG] at iC)
      rw[yp,o,bq,c] at h0
      have e0:((cs.drop i).take 1).getD 0 undef=cs.getD i undef:=by
       rw[aT,aT,List.getElem?_take_of_lt aa,te];rfl
      rw[e0] at h0;exact h0
     .exact ⟨.any,fun h=>absurd h hi⟩
    obtain ⟨F,hF⟩:=Classical.axiomOfChoice fld
    have hg:∀i,i<fs.size->((List.range fs.size).map F).getD i .any=F i:=by
     intro i hi;rw[aT,mS,List.getElem?_range hi];rfl
    refine ⟨.agg ((List.range fs.size).map F),⟨_,rfl,aA,fun i f hf=>?_⟩,hcl,fun j hj=>?_⟩
    .have hi:i<fs.size:=(fP.1 hf).1;rw[hg i hi];exact (hF i hi f hf).1
    .rw[h1] at hj;show V W gN (((List.range fs.size).map F).getD j .any) _;rw[hg j hj];exact (hF j hj fs[j] (DC hj)).2
   | _=>cases ht
theorem qs9{n t e:Nat}(ht:vD P n t=true){v:Value}{d:DataW H}{ps:List MemPlace}(hu:P.underlying t=some (.slice e))(hv:∃a len cap,v=.slice a len cap)(h:DataW.Trod enc P W 0 (fun _=>true) true t v d ps):∃y:AV,V W gN y v/\pv P n t y:=by
 obtain ⟨a,len,cap,rfl⟩:=hv;obtain ⟨fuel,h⟩:=h;have h:DataW.trod enc P W 0 (fun _=>true) true fuel t [.slice a len cap]=some (d,ps):=h;obtain ⟨y,hy,hl,hV⟩:=reads n t ht h;obtain ⟨_,_,h3,_,_,h6⟩:=Gq n t y ht hy;have iC:Cd P t=true:=by unfold Cd;rw[hu]
 have hc:y.cells=[y]:=by
  have:=h6 iC
  cases y<;>first|rfl|(simp[fG] at this)
 have:=hV 0 (by rw[<- hl];exact Nat.zero_lt_one);rw[hc] at this;exact ⟨y,this,hy⟩
end
end Go.Ab
namespace Go.Ab
open Go.Proofs Go.Proofs.Tryz Go.RowKit
theorem JU(nm:Nat):ai.get ([]:ai) nm=none:=by simp[ai.get]
theorem qrW{w:World}(h:Yd.tab w):MemR w.heap.size w gN [] where
 obj nm bx cs h:=by rw[JU] at h;cases h
 tok nm n sz h:=by rw[JU] at h;cases h
 resv nm h:=⟨rfl,fun _=>rfl⟩
 fresh nm h:=⟨rfl,fun _=>rfl⟩
 inj nm nm' b h:=by unfold bj at h;rw[JU] at h;cases h
 wrLt b off h:=h.elim
 inv w' k:=Yd.tab_below (Yd.tab_lt h) h k
 boxLt b h:=h.elim
 mp nm kk es h:=by rw[JU] at h;cases h
theorem qoF:CfgOk af where
 ben g h caps:=by
  have h:Bs OV g=true:=h;unfold OV at h;simp only[Bs] at h
  split at h
  .rename_i e;obtain rfl:140=g:=rC e;exact qok caps
  .split at h
   .rename_i e;obtain rfl:177=g:=rC e;exact qol caps
   .cases h
 name g fn h:=by
  have hall:(Tryz.prog.funcs.toList.all fun fn=>!(fn.name == "runtime.NumGoroutine"))=true:=au
  have hm:fn∈Tryz.prog.funcs.toList:=by
   rw[Array.mem_toList_iff];exact Array.mem_of_getElem? h
  have:=gD.1 hall fn hm;simpa using this
 lib g h hh:=by
  have hh:(match Nat.beq g 141 with|true=>some A8|false=>none)=some h:=hh
  split at hh
  .rename_i e;obtain rfl:g=141:=rC e;obtain rfl:=pS hh;exact ⟨⟨f141,qmF,au⟩,fun vs v hv m=>qr5 vs v hv m⟩
  .cases hh
 libm g h hh:=by
  have hh:(match Nat.beq g 148 with|true=>some Bp|false=>match Nat.beq g 149 with|true=>some Ae|false=>none)=some h:=hh
  split at hh
  .rename_i e;obtain rfl:g=148:=rC e;obtain rfl:=pS hh;exact ⟨⟨f148,qmK,au⟩,fun vs m v m' hv=>qtN (fun bj cap zs w hH hb hs=>Tryz.slices_Sort_int bj 0 cap zs w hH hb hs) (fun p cap w=>Tryz.slices_Sort_int_none p cap w) vs m v m' hv⟩
  .split at hh
   .rename_i e;obtain rfl:g=149:=rC e;obtain rfl:=pS hh;exact ⟨⟨f149,(show Tryz.prog.funcs[149]?=some f149 by kernel_rfl),au⟩,fun vs m v m' hv=>qoS (fun bj cap zs w hH hs hc=>Tryz.slices_Compact_int bj 0 cap zs w hH hs hc) (fun p cap w=>Tryz.slices_Compact_int_empty p cap w) O2 vs m v m' hv⟩
   .cases hh
theorem qrw{f:Nat}{args:List AV}{vs:Array Value}{W:World}(ht:Yd.tab W)(h:∃m',AC af f args []=some (.bool true,m'))(hl:args.length=vs.size)(hv:∀j,j<args.length->V W gN (args.getD j .any) (vs.getD j undef)) :
  Calls Tryz.prog f vs W fun e W'=>e=.returned (.bool true)/\Below W.heap.size W W':=by
 obtain ⟨m',hm'⟩:=h;refine ((qdc qoF f args [] _ _ hm').1 W.heap.size W gN vs (qrW ht) (aR _) hl hv).mono ?_;rintro e W' ⟨v',g',rfl,hs,_,hv'⟩;cases hv';exact ⟨rfl,hs.below⟩
abbrev qru:List (String×DataW Unit):=YtiipgpkgcdhbfaaGreatDoor.Rows.diagramNewsRow.laid
theorem que{W:World}(h:laidMetH Tryz.prog qru W):Yd.tab W:=by
 rw[MakeChecks.laidMetH_plain _ _ _ au] at h;obtain ⟨ps,⟨g1,t1,cs1,fuel1,p1,q1,_,_,_,_,⟨g2,t2,cs2,fuel2,p2,q2,_,_,_,_,⟨g,t,cs,fuel,p,q,hg,ht,hv,hd,_,_⟩,_⟩,_⟩,_⟩:=h;obtain rfl:=pS (Yd.globalPow.symm.trans hg);obtain rfl:=pS ((show (Tryz.prog.globals[0]?).map (·.type)=some 246 by kernel_rfl).symm.trans ht);unfold Yd.tab Lib.TabIs;rw[hv];have:=Lib.cells_of_tab (zs:=Lib.pow10Tab) (k:=.u64) Tryz.underlying246 Tryz.underlying117 au au hd;rw[<- this]
theorem u3:Tryz.prog.underlying 3=some (.int .i64):=au
theorem u4:Tryz.prog.underlying 4=some .bool:=au
theorem GB:Tryz.prog.underlying 22=some (.slice 3):=au
theorem s3:sV Tryz.prog 3=none:=by unfold sV;rw[u3]
theorem qs8{n t e:Nat}{v:AV}(ht:Tryz.prog.underlying t=some (.slice e))(h:pv Tryz.prog (n+1) t v):∃z es,v=.lst (sV Tryz.prog e) z .no es/\(z=true->es=[])/\∀x∈es,pv Tryz.prog n e x:=by
 unfold pv at h;rw[ht] at h;exact h
theorem qs6{n:Nat}{v:AV}(h:pv Tryz.prog (n+1) 3 v):∃i,v=.int .i64 i/\Yd.i64 i:=by
 unfold pv at h;rw[u3] at h;obtain ⟨i,h1,hw⟩:=h;refine ⟨i,h1,?_⟩;simp only[Lit.wf,cD,oM] at hw;exact hw
theorem qaq{α:Type}{f:α->AV}{Q:α->Prop}:∀{es:List AV},(∀x∈es,∃a,x=f a/\Q a)->∃l:List α,es=l.map f/\∀a∈l,Q a
 | [],_=>⟨[],rfl,aA⟩
 | x::es,h=>by
  obtain ⟨a,rfl,ha⟩:=h x gj;obtain ⟨l,rfl,hl⟩:=qaq (f:=f) (Q:=Q) fun y hy=>h y (fW _ hy)
  exact ⟨a::l,rfl,fun b hb=>by
   rcases gI.1 hb with rfl|hb
   .exact ha
   .exact hl b hb⟩
theorem qs7{n:Nat}{v:AV}(h:pv Tryz.prog (n+2) 22 v):∃z ns,v=IA z .no ns/\(z=true->ns=[])/\∀k∈ns,Yd.i64 k:=by
 obtain ⟨z,es,rfl,hz,he⟩:=qs8 GB h;obtain ⟨ns,rfl,hd⟩:=qaq (f:=AV.int .i64) (Q:=Yd.i64) (fun x hx=>qs6 (he x hx));exact ⟨z,ns,by rw[s3],fun h=>uA.1 (hz h),hd⟩
theorem qsm:vD Tryz.prog 2 22=true:=au
section
variable {H:Type} {enc:TypeId×Value->H} {W:World}
theorem QG{v:Value}{d:DataW H}{ps:List MemPlace}(hv:∃a len cap,v=.slice a len cap)(h:DataW.Trod enc Tryz.prog W 0 (fun _=>true) true 22 v d ps):∃z ns,V W gN (IA z .no ns) v/\(z=true->ns=[])/\∀k∈ns,Yd.i64 k:=by
 obtain ⟨y,hy,hr⟩:=qs9 qsm GB hv h;obtain ⟨z,ns,rfl,hc⟩:=qs7 hr;exact ⟨z,ns,hy,hc⟩
end
end Go.Ab
