/- Right, At and Same of both matrix packages, in values. -/
import Derived.Test.YtlapgjmmlbnehaaLP3
import Derived.Test.YtlapgjmmlbnehaaLP1
import Derived.Test.YtlapgjmmlbnehaaLP2
set_option maxRecDepth 100000
set_option linter.unusedVariables false
set_option linter.unusedSimpArgs false
set_option linter.unusedSectionVars false
namespace Go.Ab
open Go.Proofs.Try
theorem wX{m:ae}{x r:RV}:aA (some 3) (m++[cR x]) (.ptr m.length 0) r.av=some (m++[cR r]):=by
 rw[iV (bX:(m++[cR x])[m.length]?=some (cR x)),qK _ _ (aW _),oE,bk]
theorem Ur{m:ae}{r:RV}:ai (some 3) (m++[cR r]) (.ptr m.length 0)=some r.av:=je bX
theorem vh(m:ae):ak none m (.obj true [.bool false,.lst none true .full [],.lst none true .full []])=(m.length,m++[cR zR]):=rfl
def Bb(x:MV):Bool:=decide (0<=x.rows/\x.rows<=60/\0<=x.cols/\x.cols<=60/\(x.lv.es.length:Int)=x.rows*x.cols)
def aP(x:MV):Bool:=Bb x&&x.lv.es.all jl
theorem qhV{a b:Int}(h1:0<=a)(h2:a<=60)(h3:0<=b)(h4:b<=60):0<=a*b/\a*b<=3600:=by
 obtain ⟨x,rfl⟩:=vB h1;obtain ⟨y,rfl⟩:=vB h3;have:x*y<=60*60:=il (by omega) (by omega);rw[<- l5];omega
theorem Di{a b:Int}(h1:0<=a)(h2:a<=60)(h3:0<=b)(h4:b<=60):af .other .mul (.int .i64 a) (.int .i64 b)=some (.int .i64 (a*b)):=by
 obtain ⟨k1,k2⟩:=qhV h1 h2 h3 h4;rw[Ce,km (by omega) (by omega)]
theorem W20(l:LV)(k:Nat)(hl:LOk k l)(hk:k<2^38)(hlen:l.es.length<2^40)(K:KT):∀(j i:Nat) (m:ae),i+j=l.es.length ->
  ∃m',EY l.av (.int .i64 l.es.length) (.int .i64 i) m K=if (l.es.drop i).all jl=true then K (.exit 0) (JQ m') else K .ret (Ke (.bool false) m'):=by
 intro j
 induction j with
 | zero=>
  intro i m hi;refine ⟨m,?_⟩;rw[PQ,bR,aa,aw,ag (by omega),List.drop_of_length_le (by omega)]
  rfl
 | succ j ih=>
  intro i m hi;have aU:i<l.es.length:=by omega
  have hr:=hl.ok l.es[i] (fH aU);have hf:=hl.fr l.es[i] (fH aU);obtain ⟨m',ih⟩:=ih (i+1) (m++[cR l.es[i]]) (by omega);have e1:=V64 hr;have hd:l.es.drop i=l.es[i]::l.es.drop (i+1):=Fj aU;rw[hd,xu];rw[PQ,bR,aa,aw,aj aU,tR hl aU,aa,sD,aa,vh,bc,wX,aa,Ur,aa,bS,hf,e1,ar,aa,bB,aa]
  cases hb:jl l.es[i] with
  | false=>exact ⟨_,rfl⟩
  | true=>
   refine ⟨m',?_⟩;rw[gk,fF,eF (by omega),aa,ih,ow]
theorem vK{x:MV}{k:Nat}(h:LOk k x.lv)(hk:k<2^38)(hlen:x.lv.es.length<2^40):AP ab 20 [x.av]=some (.bool (aP x)):=by
 have g:([cM x]:ae)[0]?=some (cM x):=rfl
 have key:∃m',AC ab 20 [x.av] []=some (.bool (aP x),m'):=by
  rw[T20,im];simp only[aa,bj,ba,bE,aX,aZ];rw[gh g,aa,gw,aa,aw];unfold aP Bb
  by_cases c1:x.rows<0
  .rw[aj c1,kC (by omega)];exact ⟨_,rfl⟩
  rw[ag c1,aa,pa,aa,aw]
  by_cases c2:x.rows>60
  .rw[aj c2,kC (by omega)];exact ⟨_,rfl⟩
  rw[ag c2,fh g,aa,gw,aa,aw]
  by_cases c3:x.cols<0
  .rw[aj c3,kC (by omega)];exact ⟨_,rfl⟩
  rw[ag c3,aa,pa,aa,aw]
  by_cases c4:x.cols>60
  .rw[aj c4,kC (by omega)];exact ⟨_,rfl⟩
  rw[ag c4,oj g,aa,sB,aa,aa,aa,Di (by omega) (by omega) (by omega) (by omega),aa,iL,aa,aw]
  by_cases c5:(x.lv.es.length:Int)=x.rows*x.cols
  .obtain ⟨m',hw⟩:=W20 x.lv k h hk hlen (EB (aN ab.P f20.results.toList)) x.lv.es.length 0 [cM x] (by omega);rw[ag (fun hn=>hn c5),aa,sB,aa];refine ⟨m',hw.trans ?_⟩;rw[nd ⟨by omega,by omega,by omega,by omega,c5⟩,ow,tg,ZA,Zz];cases x.lv.es.all jl<;>rfl
  .rw[aj c5,kC (fun hn=>c5 hn.2.2.2.2)];exact ⟨_,rfl⟩
 obtain ⟨m',hm⟩:=key;exact bT _ _ (qU _) rfl hm
theorem W21(l:LV)(k:Nat)(hl:LOk k l)(hk:k<2^38)(hlen:l.es.length<2^40)(K:KT):∀(j i:Nat) (m:ae),i+j=l.es.length ->
  ∃m',EZ l.av (.int .i64 l.es.length) (.int .i64 i) m K=if (l.es.drop i).all jl=true then K (.exit 0) (JR m') else K .ret (Kf (.bool false) m'):=by
 intro j
 induction j with
 | zero=>
  intro i m hi;refine ⟨m,?_⟩;rw[PR,bR,aa,aw,ag (by omega),List.drop_of_length_le (by omega)]
  rfl
 | succ j ih=>
  intro i m hi;have aU:i<l.es.length:=by omega
  have hr:=hl.ok l.es[i] (fH aU);have hf:=hl.fr l.es[i] (fH aU);obtain ⟨m',ih⟩:=ih (i+1) (m++[cR l.es[i]]) (by omega);have e1:=V65 hr hk;have hd:l.es.drop i=l.es[i]::l.es.drop (i+1):=Fj aU;rw[hd,xu];rw[PR,bR,aa,aw,aj aU,tR hl aU,aa,sD,aa,vh,bc,wX,aa,Ur,aa,bS,hf,e1,ar,aa,bB,aa]
  cases hb:jl l.es[i] with
  | false=>exact ⟨_,rfl⟩
  | true=>
   refine ⟨m',?_⟩;rw[gk,fF,eF (by omega),aa,ih,ow]
theorem qs{x:MV}{k:Nat}(h:LOk k x.lv)(hk:k<2^38)(hlen:x.lv.es.length<2^40):AP ab 21 [x.av]=some (.bool (aP x)):=by
 have g:([cM x]:ae)[0]?=some (cM x):=rfl
 have key:∃m',AC ab 21 [x.av] []=some (.bool (aP x),m'):=by
  rw[T21,im];simp only[aa,bj,ba,bE,aX,aZ];rw[gh g,aa,gw,aa,aw];unfold aP Bb
  by_cases c1:x.rows<0
  .rw[aj c1,kC (by omega)];exact ⟨_,rfl⟩
  rw[ag c1,aa,pa,aa,aw]
  by_cases c2:x.rows>60
  .rw[aj c2,kC (by omega)];exact ⟨_,rfl⟩
  rw[ag c2,fh g,aa,gw,aa,aw]
  by_cases c3:x.cols<0
  .rw[aj c3,kC (by omega)];exact ⟨_,rfl⟩
  rw[ag c3,aa,pa,aa,aw]
  by_cases c4:x.cols>60
  .rw[aj c4,kC (by omega)];exact ⟨_,rfl⟩
  rw[ag c4,oj g,aa,sB,aa,aa,aa,Di (by omega) (by omega) (by omega) (by omega),aa,iL,aa,aw]
  by_cases c5:(x.lv.es.length:Int)=x.rows*x.cols
  .obtain ⟨m',hw⟩:=W21 x.lv k h hk hlen (ED (aN ab.P f21.results.toList)) x.lv.es.length 0 [cM x] (by omega);rw[ag (fun hn=>hn c5),aa,sB,aa];refine ⟨m',hw.trans ?_⟩;rw[nd ⟨by omega,by omega,by omega,by omega,c5⟩,ow,tg,ZE,ZD];cases x.lv.es.all jl<;>rfl
  .rw[aj c5,kC (fun hn=>c5 hn.2.2.2.2)];exact ⟨_,rfl⟩
 obtain ⟨m',hm⟩:=key;exact bT _ _ (qU _) rfl hm
def sP(x y:MV):Bool:=decide (x.rows=y.rows)&&(decide (x.cols=y.cols)&&decide (x.lv.es.map RV.q=y.lv.es.map RV.q))
theorem W40{x y:MV}(k:Nat)(hx:LOk k x.lv)(hy:LOk k y.lv)(bu:1<=k)(hk:k<2^36)(hlen:x.lv.es.length<2^40)(heq:x.lv.es.length=y.lv.es.length)(K:KT):∀(j i:Nat),i+j=x.lv.es.length ->
  ∃m',E0 (.ptr 0 0) (.ptr 1 0) (.int .i64 x.lv.es.length) (.int .i64 i) [cM x,cM y] K=if (x.lv.es.drop i).map RV.q=(y.lv.es.drop i).map RV.q then K (.exit 0) (JS m') else K .ret (Kg (.bool false) m'):=by
 have g0:([cM x,cM y]:ae)[0]?=some (cM x):=rfl;have g1:([cM x,cM y]:ae)[1]?=some (cM y):=rfl;intro j
 induction j with
 | zero=>
  intro i hi;refine ⟨[cM x,cM y],?_⟩;rw[PS,bR,aa,aw,ag (by omega),List.drop_of_length_le (by omega),List.drop_of_length_le (by omega)]
  rfl
 | succ j ih=>
  intro i hi;have aU:i<x.lv.es.length:=by omega
  have GU:i<y.lv.es.length:=by omega
  have hr:=hx.ok x.lv.es[i] (fH aU);have hf:=hx.fr x.lv.es[i] (fH aU);have wE:=hy.ok y.lv.es[i] (fH GU);have sg:=hy.fr y.lv.es[i] (fH GU);obtain ⟨m',ih⟩:=ih (i+1) (by omega);have e1:=QR hr wE bu hk;have hd:x.lv.es.drop i=x.lv.es[i]::x.lv.es.drop (i+1):=Fj aU;have gB:y.lv.es.drop i=y.lv.es[i]::y.lv.es.drop (i+1):=Fj GU;rw[hd,gB,qn,qn];rw[PS,bR,aa,aw,aj aU,bE,aa,oj g0,aa,tR hx aU,aa,sD,aa,bE,aa,oj g1,aa,tR hy GU,aa,sD,aa,bU,hf,sg,e1,ar,aa,bB,aa]
  by_cases hq:x.lv.es[i].q=y.lv.es[i].q
  .refine ⟨m',?_⟩;rw[nd hq,gk,fF,eF (by omega),aa,ih];simp only[qH,hq,true_and]
  .refine ⟨[cM x,cM y],?_⟩;rw[kC hq,mZ,jj,ag (fun hc=>hq (List.cons.inj hc).1)]
theorem V40{x y:MV}{k:Nat}(hx:LOk k x.lv)(hy:LOk k y.lv)(bu:1<=k)(hk:k<2^36)(hlen:x.lv.es.length<2^40):AP ab 40 [x.av,y.av]=some (.bool (sP x y)):=by
 have g0:([cM x,cM y]:ae)[0]?=some (cM x):=rfl;have g1:([cM x,cM y]:ae)[1]?=some (cM y):=rfl
 have key:∃m',AC ab 40 [x.av,y.av] []=some (.bool (sP x y),m'):=by
  rw[T40,im];simp only[aa,im,bj,ba,bE,aX,aZ,aR,bm,aL];rw[gh g0,aa,gh g1,aa,iL,aa,aw];unfold sP
  by_cases c1:x.rows=y.rows
  .rw[ag (fun hn=>hn c1),fh g0,aa,fh g1,aa,iL,aa,aw,nd c1,ow]
   by_cases c2:x.cols=y.cols
   .rw[ag (fun hn=>hn c2),oj g0,aa,sB,aa,oj g1,aa,sB,aa,DF,aa,aw,nd c2,ow]
    by_cases c3:x.lv.es.length=y.lv.es.length
    .obtain ⟨m',hw⟩:=W40 k hx hy bu hk hlen c3 (EE (aN ab.P f40.results.toList)) x.lv.es.length 0 (by omega);rw[ag (fun hn=>hn c3),aa,sB,aa];refine ⟨m',hw.trans ?_⟩;rw[tg,tg,ZI,ZH]
     split
     .rename_i hh;rw[nd hh]
     .rename_i hh;rw[kC hh]
    .rw[aj c3,kC (fun hn=>c3 (by have:=fE List.length hn;simpa using this))];exact ⟨_,rfl⟩
   .rw[aj c2,kC c2];exact ⟨_,rfl⟩
  .rw[aj c1,kC c1];exact ⟨_,rfl⟩
 obtain ⟨m',hm⟩:=key;exact bT _ _ (qU _) rfl hm
end Go.Ab
namespace Go.Ab
open Go.Proofs.Try
def jJ(r:RV):RV:=⟨r.neg,mV r.num.ds,mV r.den.ds⟩
theorem vT(r:RV):(jJ r).fr=jJ r:=by simp only[jJ,RV.fr,VP]
theorem RT{r:RV}{k:Nat}(h:ROk k r):ROk k (jJ r):=⟨Nz h.num.dg h.num.len,Nz h.den.dg h.den.len,by simp only[jJ,rq];exact h.ln,by simp only[jJ,rq];exact h.ld⟩
def tY(k:Nat)(ds:List Nat):NV:=if ds=[] then jk else ⟨false,.tok k 116,ds⟩
theorem qjX(k:Nat)(ds:List Nat):(tY k ds).fr=mV ds:=by unfold tY mV;split<;>rfl
theorem Rt{m:ae}{k:Nat}{x:NV}(hk:m[k]?=some (some .resv))(h:x.ds.length*4<=iU):∃m',eG (some k) false 116 none 4 m (.lst none true .full []) x.av=some ((tY k x.ds).av,m')/\(∀j,j≠k->m'[j]?=m[j]?)/\m'.length=m.length:=by
 obtain ⟨z,o,ds⟩:=x
 cases ds with
 | nil=>exact ⟨m,rfl,fun _ _=>rfl,rfl⟩
 | cons d ds=>
  have h2:(ds.length+1)*4<=iU:=by simpa using h
  refine ⟨m.set k (some (.tok (ds.length+1) 1)),?_,fun j hj=>dM (fun e=>hj e.symm),by simp⟩;simp only[tY,NV.av,eG,qn,aR,aX,gu,aL,h2,eC,ak,Sh.size,aZ,reduceCtorEq,j6,ko,or_true]
theorem Kr{r:RV}{k:Nat}(h:ROk k r):AP ab 67 [r.av]=some (jJ r).av:=by
 have hn:=h.num.len;have hd:=h.den.len;obtain ⟨m1,a1,a2,a3⟩:=Rt (m:=[cR r,cR zR,some .resv,some .resv]) (k:=2) (x:=r.num) rfl (by simp only[iU];omega);obtain ⟨m2,b1,b2,b3⟩:=Rt (m:=m1) (k:=3) (x:=r.den) (by rw[a2 3 (by omega)];rfl) (by simp only[iU];omega);have g1:m2[1]?=some (cR zR):=by rw[b2 1 (by omega),a2 1 (by omega)];rfl
 have lM:(RV.mk r.neg (tY 2 r.num.ds) (tY 3 r.den.ds)).fr=jJ r:=by simp only[RV.fr,qjX,jJ]
 have hl:1<m2.length:=by rw[b3,a3];simp
 refine (bT _ _ (gA ⟨r.neg,tY 2 r.num.ds,tY 3 r.den.ds⟩) (ib _) (m:=m2.set 1 (cR ⟨r.neg,tY 2 r.num.ds,tY 3 r.den.ds⟩)) ?_).trans (by rw[lM]);rw[T67];simp only[aa,cr,vh,bc,bj,ba,bE,cF,aX,aZ,aR,bm,aL,cu,cw,ct,Nat.reduceAdd];rw[a1];simp only[aa];rw[b1];simp only[aa,ck,cg];rw[iV g1,aa,je (by rw[jF hl])]
 rfl
def Kn(n:Nat)(m m':ae):Prop:=m.length<=m'.length/\∀(p:Nat) (bx:Bool) (cs:List AV),p≠n->m[p]?=some (some (Ent.obj bx cs))->m'[p]?=some (some (Ent.obj bx cs))
theorem Kn.trans{n:Nat}{a b c:ae}(h:Kn n a b)(k:Kn n b c):Kn n a c:=⟨b7 h.1 k.1,fun p bx cs hp hh=>k.2 p bx cs hp (h.2 p bx cs hp hh)⟩
theorem Kp.kn{a b:ae}(h:Kp a b)(n:Nat):Kn n a b:=⟨h.1,fun p bx cs _ hh=>h.2 p bx cs hh⟩
theorem HN{m:ae}{n:Nat}{y:MV}{r:RV}(hb:m[n]?=some (cM y))(hr:gM m y.lv)(hlen:y.lv.es.length<5000) :
  ∃l' m' m'',eG (some m.length) false 43 (some 3) 56 (eH m 1) y.lv.av (.lst (some 3) false .full [r.av])=some (l'.av,m')/\l'.es=y.lv.es++[r]/\aA none m' (.ptr n 2) l'.av=some m''/\m''[n]?=some (cM ⟨y.rows,y.cols,l'⟩)/\gM m'' l'/\Kn n m m'':=by
 rw[b6];obtain ⟨l',m',h1,h2,h3,h4⟩:=qdf (r:=r) (hr.app [some .resv]) (k:=m.length) bX (by simp only[iU];omega);have hk:=(Kp.app m [some .resv]).trans h4;have fm:=hk.2 n true _ hb
 have mQ:n<m'.length:=by
  apply jv;intro hc;rw[iC (by omega)] at fm;cases fm
 refine ⟨l',m',_,h1,h3,UN fm,by rw[jF mQ],h2.set fm _,?_⟩;refine ⟨by rw[eB];exact hk.1,fun p bx cs hp hh=>?_⟩;rw[dM (fun e=>hp e.symm)];exact hk.2 p bx cs hh
theorem gM.mono{m m':ae}{l:LV}(h:gM m l){r:RV}(e:m'=m++[cR r]):gM m' l:=e▸h.app _
theorem Ny{m:ae}{l:LV}{k:Nat}(h:gM m l)(hf:∀r∈l.es,r.fr=r)(ho:∀r∈l.es,ROk k r):LOk k l:=by
 rcases h with rfl|⟨h1,h2,h3,_⟩
 .exact ⟨.inr rfl,fun _=>rfl,hf,ho⟩
 .exact ⟨.inl h1,fun hz=>absurd (h2.symm.trans hz) (by decide),hf,ho⟩
theorem HX{m:ae}{l:LV}(h:gM m l):l.fr.fr=l.fr:=by
 rcases h with rfl|⟨h1,h2,h3,nm,h4,_⟩
 .rfl
 .obtain ⟨sh,z,o,es⟩:=l;simp only at h4;subst h4
  rfl
theorem xG(a b:Int):eI (.agg [.int .i64 0,.int .i64 0,.lst none true .full []]) [(0,none,.int .i64 a),(1,none,.int .i64 b)]=some (MV.av ⟨a,b,b9⟩):=rfl
theorem pb:eI (.agg [.int .i64 0,.int .i64 0,.lst none true .full []]) []=some zM.av:=rfl
theorem W56{x:MV}{k:Nat}(hx:LOk k x.lv)(hlen:x.lv.es.length<4500)(K:KT):∀(j i:Nat) (m:ae) (l:LV),i+j=x.lv.es.length->m[1]?=some (cM zM)->m[2]?=some (cM ⟨x.rows,x.cols,l⟩)->gM m l->l.es=(x.lv.es.take i).map jJ ->
  ∃m' l',m'[1]?=some (cM zM)/\m'[2]?=some (cM ⟨x.rows,x.cols,l'⟩)/\gM m' l'/\l'.es=x.lv.es.map jJ/\E2 (.ptr 1 0) (.ptr 2 0) x.lv.av (.int .i64 x.lv.es.length) (.int .i64 i) m K=K (.exit 0) (JU (.ptr 1 0) (.ptr 2 0) m'):=by
 intro j
 induction j with
 | zero=>
  intro i m l hi h1 h2 h3 h4;refine ⟨m,l,h1,h2,h3,by rw[h4,nY (by omega)],?_⟩;rw[PU,bR,aa,aw,ag (by omega)]
 | succ j ih=>
  intro i m l hi h1 h2 h3 h4;have aU:i<x.lv.es.length:=by omega
  have hr:=hx.ok x.lv.es[i] (fH aU);have hf:=hx.fr x.lv.es[i] (fH aU);have kp:=Kp.app m [cR x.lv.es[i]];have hb:=kp.2 2 true _ h2;have q9:l.es.length<5000:=by rw[h4];simp;omega
  obtain ⟨l',m1,m2,p1,p2,p3,p4,p5,p6⟩:=HN (r:=jJ x.lv.es[i]) hb (h3.app [cR x.lv.es[i]]) q9;have kq:=kp.trans (Kp.app (m++[cR x.lv.es[i]]) [some .resv])
  obtain ⟨m',l'',q1,q2,q3,q4,q5⟩:=ih (i+1) m2 l' (by omega) (p6.2 1 true _ (by omega) (kp.2 1 true _ h1)) p4 p5 (by
   rw[p2];show l.es++_=_
   rw[h4,Fk aU,zO];rfl)
  refine ⟨m',l'',q1,q2,q3,q4,?_⟩;have g2:=kq.2 2 true _ h2
  have gr:((m++[cR x.lv.es[i]])++[some Ent.resv])[m.length]?=some (cR x.lv.es[i]):=by
   rw[er (by simp)];exact bX
  rw[PU,bR,aa,aw,aj aU,tR hx aU,aa,sD,aa,vh,bc,wX,aa,bE,aa];rw[b6] at p1 ⊢;rw[oj g2,aa,je gr,aa,bS,hf,Kr hr,ar,aa,F7 (vT _),aa,p1,aa,aa,p3,aa,eF (by omega),aa];exact q5
end Go.Ab
namespace Go.Ab
open Go.Proofs.Try
end Go.Ab
namespace Go.Ab
open Go.Proofs.Try
theorem lS{m:ae}{d:Option Nat}{g:Nat}(x:MV):ao (AP ab) d m g [x.av]=(AP ab g [x.fr.av]).map fun v=>(v,m):=dW (lH x)
theorem Vp{m:ae}{d:Option Nat}{g:Nat}(k k':IntKind)(a b:Int):ao (AP ab) d m g [.int k a,.int k' b]=(AP ab g [.int k a,.int k' b]).map fun v=>(v,m):=gO (eK k a) (eK k' b)
def wW(a b:Int):Int:=if a<0\/b<0 then 1 else if a>60\/b>60 then 2 else 0
theorem QW(a b:Int):AP ab 57 [.int .i64 a,.int .i64 b]=some (.int .i64 (wW a b)):=by
 refine bT _ _ (eK _ _) rfl (m:=[]) ?_;rw[T57,gw,aa,aw];unfold wW
 by_cases c1:a<0
 .rw[aj c1,aj (.inl c1)]
 .rw[ag c1,gw,aa,aw]
  by_cases c2:b<0
  .rw[aj c2,aj (.inr c2)]
  .rw[ag c2,ag (fun h=>h.elim c1 c2),pa,aa,aw]
   by_cases c3:a>60
   .rw[aj c3,aj (.inl c3)]
   .rw[ag c3,pa,aa,aw]
    by_cases c4:b>60
    .rw[aj c4,aj (.inr c4)]
    .rw[ag c4,ag (fun h=>h.elim c3 c4)]
def HY(F:Nat->Nat->RV)(cols i:Nat):List RV:=(List.range cols).map (F i)
def n4(F:Nat->Nat->RV)(cols:Nat):Nat->List RV
 | 0=>[]
 | i+1=>n4 F cols i++HY F cols i
theorem vR(F:Nat->Nat->RV)(cols:Nat):∀i,(n4 F cols i).length=i*cols
 | 0=>by simp[n4]
 | i+1=>by simp[n4,HY,vR F cols i,mC]
theorem z9{F:Nat->Nat->RV}{cols:Nat}{r:RV}:∀{i:Nat},r∈n4 F cols i->∃a b,a<i/\b<cols/\r=F a b
 | 0,h=>by simp[n4] at h
 | i+1,h=>by
  simp only[n4,kT] at h
  rcases h with h|h
  .obtain ⟨a,b,h1,h2,h3⟩:=z9 h;exact ⟨a,b,by omega,h2,h3⟩
  .simp only[HY,ks,oC] at h;obtain ⟨b,hb,rfl⟩:=h;exact ⟨i,b,by omega,hb,rfl⟩
theorem qe5{fid g:Nat}{vs:List AV}{m:ae}{d:Option Nat}{K:AV->ae->OM}(hi:ab.inl fid g=false)(hl:ab.lib g=none):nK ab fid (AP ab) (AC ab) d g vs m K=(ao (AP ab) d m g vs).bind fun r=>K r.1 r.2:=by
 unfold nK;rw[show ab.libm g=none from rfl];simp only[];rw[hl];simp only[];rw[hi]
structure FillOk (g:Nat) (cs:List AV) (F:Nat->Nat->RV) (rows cols k:Nat):Prop where
 inl:ab.inl 58 g=false
 lib:ab.lib g=none
 csz:∀m,bJ (frz m eo) cs=some (cs,[])
 call:∀i j:Nat,i<rows->j<cols->AP ab g ([.int .i64 i,.int .i64 j]++cs)=some (F i j).av
 fr:∀i j:Nat,i<rows->j<cols->(F i j).fr=F i j
 ok:∀i j:Nat,i<rows->j<cols->ROk k (F i j)
theorem qir{g:Nat}{cs:List AV}{F:Nat->Nat->RV}{rows cols k:Nat}(h:FillOk g cs F rows cols k){i j:Nat}(hi:i<rows)(hj:j<cols){m:ae}{d:Option Nat}:ao (AP ab) d m g ([.int .i64 i,.int .i64 j]++cs)=some ((F i j).av,m):=by
 have e:bJ (frz m eo) ([.int .i64 i,.int .i64 j]++cs)=some ([.int .i64 i,.int .i64 j]++cs,[]):=by
  have h1:=h.csz m;have f1:∀n:Int,frz m eo (.int .i64 n)=some (.int .i64 n,[]):=fun _=>rfl;simp[bJ,h1,f1]
 unfold ao;rw[e];have hc:=h.call i j hi hj;simp only[bm,aZ] at hc;simp[hc,fg]
theorem qcS{g:Nat}{cs:List AV}{F:Nat->Nat->RV}{rows cols k:Nat}(h:FillOk g cs F rows cols k)(hr:rows<=60)(hc:cols<=60)(K:KT){i:Nat}(hi:i<rows)(bo bG:AV):∀(j c:Nat) (m:ae) (l:LV),c+j=cols->m[0]?=some (cM zM)->m[1]?=some (cM ⟨rows,cols,l⟩)->gM m l->l.es=n4 F cols i++(List.range c).map (F i) ->
  ∃m' l',m'[0]?=some (cM zM)/\m'[1]?=some (cM ⟨rows,cols,l'⟩)/\gM m' l'/\l'.es=n4 F cols (i+1)/\E4 (.int .i64 cols) (.fn g cs) (.ptr 0 0) (.ptr 1 0) (.int .i64 i) bo bG (.int .i64 cols) (.int .i64 c) m K=K (.exit 2) (JW (.int .i64 cols) (.fn g cs) (.ptr 0 0) (.ptr 1 0) bo bG m'):=by
 intro j
 induction j with
 | zero=>
  intro c m l hcj h1 h2 h3 h4;have:c=cols:=by omega
  subst this;refine ⟨m,l,h1,h2,h3,h4,?_⟩;rw[PZ,bR,aa,aw,ag (by omega)]
 | succ j ih=>
  intro c m l hcj h1 h2 h3 h4;have kH:c<cols:=by omega
  have hle:i*cols<=60*60:=il (by omega) hc;have q9:l.es.length<5000:=by rw[h4,aK,vR,gu,List.length_range];omega
  obtain ⟨l',m1,m2,p1,p2,p3,p4,p5,p6⟩:=HN (r:=F i c) h2 h3 q9
  obtain ⟨m',l'',q1,q2,q3,q4,q5⟩:=ih (c+1) m2 l' (by omega) (p6.2 0 true _ (by omega) h1) p4 p5 (by
   rw[p2];show l.es++_=_
   rw[h4,List.range_succ,zO,vC];rfl)
  refine ⟨m',l'',q1,q2,q3,q4,?_⟩;have g2:=(Kp.app m [some .resv]).2 1 true _ h2;rw[PZ,bR,aa,aw,aj kH,bE,aa];have q8:xU (.fn g cs)=some (g,cs):=rfl;have p1':=p1;rw[b6] at p1' ⊢;rw[oj g2,aa,q8,aa,qe5 h.inl h.lib,qir h hi kH,aa,F7 (h.fr i c hi kH),aa,p1',aa,aa,p3,aa,eF (by omega),aa];exact q5
theorem Rg{g:Nat}{cs:List AV}{F:Nat->Nat->RV}{rows cols k:Nat}(h:FillOk g cs F rows cols k)(hr:rows<=60)(hc:cols<=60)(K:KT):∀(j i:Nat) (m:ae) (l:LV),i+j=rows->m[0]?=some (cM zM)->m[1]?=some (cM ⟨rows,cols,l⟩)->gM m l->l.es=n4 F cols i ->
  ∃m' l',m'[0]?=some (cM zM)/\m'[1]?=some (cM ⟨rows,cols,l'⟩)/\gM m' l'/\l'.es=n4 F cols rows/\E3 (.int .i64 cols) (.fn g cs) (.ptr 0 0) (.ptr 1 0) (.int .i64 rows) (.int .i64 i) m K=K (.exit 0) (JV (.ptr 0 0) (.ptr 1 0) m'):=by
 intro j
 induction j with
 | zero=>
  intro i m l yl h1 h2 h3 h4;have:i=rows:=by omega
  subst this;refine ⟨m,l,h1,h2,h3,h4,?_⟩;rw[PW,bR,aa,aw,ag (by omega)]
 | succ j ih=>
  intro i m l yl h1 h2 h3 h4;have aU:i<rows:=by omega
  obtain ⟨m1,l1,a1,a2,a3,a4,a5⟩:=qcS h hr hc (Jf K) aU (.int .i64 rows) (.int .i64 i) cols 0 m l (by omega) h1 h2 h3 (by rw[h4];simp);obtain ⟨m',l',q1,q2,q3,q4,q5⟩:=ih (i+1) m1 l1 (by omega) a1 a2 a3 a4;refine ⟨m',l',q1,q2,q3,q4,?_⟩;rw[PW,bR,aa,aw,aj aU]
  refine Eq.trans ?_ (a5.trans ?_)
  .rfl
  rw[ZZ,eF (by omega),aa];exact q5
theorem Ko{g:Nat}{cs:List AV}{F:Nat->Nat->RV}{rows cols k:Nat}(h:FillOk g cs F rows cols k)(hr:rows<=60)(hc:cols<=60):∃y:MV,AP ab 58 [.int .i64 rows,.int .i64 cols,.fn g cs]=some y.av/\y.rows=rows/\y.cols=cols/\y.lv.es=n4 F cols rows/\LOk k y.lv/\y.fr=y:=by
 obtain ⟨m',l',q1,q2,q3,q4,q5⟩:=Rg h hr hc (EG (aN ab.P f58.results.toList)) rows 0 [cM zM,cM ⟨rows,cols,b9⟩] b9 (by omega) rfl rfl (.inl rfl) rfl
 have jB:0<m'.length:=by
  apply jv;intro kG;rw[iC (by omega)] at q1;cases q1
 have eV:LOk k l':=Ny q3 (by rw[q4];intro r hr;obtain ⟨a,b,h1,h2,rfl⟩:=z9 hr;exact h.fr a b h1 h2) (by rw[q4];intro r hr;obtain ⟨a,b,h1,h2,rfl⟩:=z9 hr;exact h.ok a b h1 h2);refine ⟨⟨rows,cols,l'.fr⟩,bT _ _ (lH ⟨rows,cols,l'⟩) (DG _) (m:=m'.set 0 (cM ⟨rows,cols,l'⟩)) ?_,rfl,rfl,q4,eV.fr',by simp only[MV.fr,HX q3]⟩;have e2:([cM zM,cM zM]:ae)[1]?=some (cM zM):=rfl;rw[Qx,xG,aa];simp only[iG,bc,aX,aZ,aR,bm,aL];rw[eO e2,aa];simp only[bH,bk];refine q5.trans ?_;rw[O6,bC q2,aa,eO q1,aa,bC (by rw[jF jB])]
 rfl
def ql(a b:Nat):RV:=if a=b then j8 else mw
theorem qkj(a b:Nat):(ql a b).fr=ql a b:=by unfold ql;split<;>rfl
theorem V62(a b:Nat):AP ab 62 [.int .i64 a,.int .i64 b]=some (ql a b).av:=by
 unfold ql
 by_cases h:a=b
 .rw[aj h];refine bT _ _ (gA j8) (ib _) (m:=[cR j8]) ?_;rw[Qy,yL,aa,aw,aj h];simp only[vh,bc,aX,aZ];rw[b8,QZ,ar,aa,iV (x:=zR) rfl,aa];simp only[bk];rw[je (x:=j8) rfl]
  rfl
 .rw[ag h];refine bT _ _ (gA mw) (ib _) (m:=[cR mw]) ?_;rw[Qy,yL,aa,aw,ag h];simp only[vh,bc,aX,aZ];rw[b8,Kq,ar,aa,iV (x:=zR) rfl,aa];simp only[bk];rw[je (x:=mw) rfl]
  rfl
theorem qkt:ROk 1 mw:=Cn.ok (Bv (by omega)) (by omega)
theorem U9:ROk 1 j8:=Cl.ok (Bu (by omega)) (by omega)
theorem K4(rows cols:Nat):FillOk 62 [] ql rows cols 1:=⟨rfl,rfl,fun _=>rfl,fun i j _ _=>V62 i j,fun i j _ _=>qkj i j,fun i j _ _=>by unfold ql;split<;>first|exact U9|exact qkt⟩
theorem Le(g:Nat):Fz (.fn g []) (.fn g []):=fun _=>rfl
theorem Ek(k:Nat):LOk k zM.lv:=⟨.inr rfl,fun _=>rfl,by simp[zM,b9],by simp[zM,b9]⟩
theorem V18(a:Int):∃y:MV,AP ab 18 [.int .i64 a]=some (.tup [y.av,.int .i64 (wW a a)])/\y.fr=y/\LOk 1 y.lv /\
  ((wW a a≠0/\y=zM)\/(wW a a=0/\y.rows=a/\y.cols=a/\y.lv.es=n4 ql a.toNat a.toNat)):=by
 by_cases h0:wW a a=0
 .have hb:0<=a/\a<=60:=by unfold wW at h0;(repeat' split at h0)<;>omega
  obtain ⟨x,rfl⟩:=vB hb.1;obtain ⟨y,f1,f2,f3,f4,f5,f6⟩:=Ko (K4 x x) (by omega) (by omega);refine ⟨y,(bT _ _ (CA y (gH _ _)) rfl (m:=[cM y]) ?_).trans (by rw[f6]),f6,f5,.inr ⟨h0,f2,f3,f4⟩⟩;rw[Qq];simp only[iG,bc,aX,aZ];rw[Vp,QW,ar,aa,iL,aa,aw,ag (fun hn=>hn h0),yV (eK _ _) (eK _ _) (Le 62),f1,ar,aa,eO (x:=zM) rfl,aa];simp only[bk];rw[bC (x:=y) rfl,h0]
  rfl
 .refine ⟨zM,bT _ _ (CA zM (gH _ _)) rfl (m:=[cM zM]) ?_,rfl,Ek 1,.inl ⟨h0,rfl⟩⟩;rw[Qq];simp only[iG,bc,aX,aZ];rw[Vp,QW,ar,aa,iL,aa,aw,aj h0,pb,aa,eO (x:=zM) rfl,aa];simp only[bk];rw[bC (x:=zM) rfl]
  rfl
end Go.Ab
namespace Go.Ab
open Go.Proofs.Try
def eJ(es:List RV):List AV:=es.flatMap fun r=>[.bool r.neg,r.num.av,r.den.av]
theorem Cx(es:List RV):(es.map RV.av).flatMap AV.cells=eJ es:=by
 induction es with
 | nil=>rfl
 | cons r es ih=>rw[qn,BV,ih];rfl
theorem Aj(es:List RV):(eJ es).length=es.length*3:=by
 induction es with
 | nil=>rfl
 | cons r es ih=>
  show (_::_::_::eJ es).length=_;rw[aR,aR,aR,ih,aR];omega
theorem Nk(r:RV):∀(es:List RV) (i:Nat),i<es.length->ka (eJ es) (i*3) r.av.cells=eJ (es.set i r)
 | [],i,h=>by simp at h
 | e::es,0,h=>rfl
 | e::es,i+1,h=>by
  have ih:=Nk r es i (by simpa using h);have e1:(i+1)*3=i*3+1+1+1:=by omega
  show ka (_::_::_::eJ es) ((i+1)*3) r.av.cells=_::_::_::eJ (es.set i r);rw[<- ih,e1];unfold ka;have e2:i*3+1+1+1+r.av.cells.length=i*3+r.av.cells.length+1+1+1:=by omega
  rw[e2];simp only[List.take_succ_cons,List.drop_succ_cons,bm]
theorem SL:∀es:List RV,n7 (some 3) es.length (eJ es)=es.map RV.av
 | []=>rfl
 | r::es=>by
  have ih:=SL es;show (n5 3 (es.length+1) (_::_::_::eJ es)).map AV.agg=_;rw[n5];show AV.agg [.bool r.neg,r.num.av,r.den.av]::(n5 3 es.length (eJ es)).map AV.agg=_;rw[show (n5 3 es.length (eJ es)).map AV.agg=es.map RV.av from ih]
  rfl
theorem UC(m:ae)(k:Nat):∀es:List RV,(∀r∈es,r.fr=r)->bJ (frz m (k+1)) (eJ es)=some (eJ es,[])
 | [],_=>rfl
 | r::es,h=>by
  have ih:=UC m k es (fun r hr=>h r (by simp[hr]));have hf:=h r (by simp);have h1:r.num.fr=r.num:=fE RV.num hf;have h2:r.den.fr=r.den:=fE RV.den hf;show bJ (frz m (k+1)) (_::_::_::eJ es)=_;simp only[bJ,CB r.neg m k,pf r.num m k,pf r.den m k,h1,h2,ih,aa,ar,aZ]
  rfl
theorem Ss:∀es:List RV,(∀r∈es,r.fr=r)->((eJ es).all fZ&&pC (eJ es))=true
 | [],_=>rfl
 | r::es,h=>by
  have ih:=Ss es (fun r hr=>h r (by simp[hr]));have hf:=h r (by simp);obtain ⟨n,⟨z1,o1,d1⟩,⟨z2,o2,d2⟩⟩:=r;simp only[RV.fr,NV.fr,RV.mk.injEq,NV.mk.injEq,true_and,and_true] at hf;simp only[dY] at ih;show ((fZ _&&(fZ _&&(fZ _&&(eJ es).all fZ)))&&(pl _&&(pl _&&(pl _&&pC (eJ es)))))=true;rw[ih.1,ih.2]
  cases o1<;>cases o2<;>first|rfl|(simp[Own.fr] at hf)
theorem La:∀es:List RV,(∀r∈es,r.fr=r)->(eJ es).all ke=true
 | [],_=>rfl
 | r::es,h=>by
  have ih:=La es (fun r hr=>h r (by simp[hr]));have hf:=h r (by simp);have hd:∀ds:List Nat,(ds.map dg).all Dm=true:=by intro ds;simp[List.all_map,dg,Dm]
  obtain ⟨n,⟨z1,o1,d1⟩,⟨z2,o2,d2⟩⟩:=r;simp only[RV.fr,NV.fr,RV.mk.injEq,NV.mk.injEq,true_and,and_true] at hf;show (_::_::_::eJ es).all ke=true;rw[xu,xu,xu,ih];cases o1<;>cases o2<;>simp[Own.fr] at hf<;>simp[ke,NV.av,hd]
theorem Cz{m:ae}{nm k:Nat}{es:List RV}(hm:m[nm]?=some (some (.obj false (eJ es))))(hf:∀r∈es,r.fr=r):frz m (k+2) (.arr nm 0 es.length (some 3))=some (.lst (some 3) false .no (es.map RV.av),[nm]):=by
 show (m.obj? nm).bind _=_;rw[jc hm];have hl:=Aj es;simp only[aa,Sh.size,aL,hl,aW,decide_true,mZ,Bool.and_self,eC,tg,nY (Nat.le_of_eq hl)];rw[UC m k es hf];simp only[aa,Ss es hf,eC,SL]
theorem Bt:ROk 1 jD:=z8.ok (Bv (by omega)) (by omega)
theorem qh9:ROk 1 gN:=Ck.ok (Bu (by omega)) (by omega)
theorem yM{a b:Nat}(h2:a<=60)(h4:b<=60):af .other .mul (.int .i64 a) (.int .i64 b)=some (.int .i64 (a*b:Nat)):=by
 rw[Di (by omega) (by omega) (by omega) (by omega),l5]
theorem W61{a b:Nat}(ha:a<=60)(hb:b<=60)(K:KT):∀(j i:Nat) (m:ae) (l:LV),i+j=a*b->m[0]?=some (cM zM)->m[1]?=some (cM ⟨a,b,l⟩)->gM m l->l.es=List.replicate i jD ->
  ∃m' l',m'[0]?=some (cM zM)/\m'[1]?=some (cM ⟨a,b,l'⟩)/\gM m' l'/\l'.es=List.replicate (a*b) jD/\E5 (.int .i64 a) (.int .i64 b) (.ptr 0 0) (.ptr 1 0) (.int .i64 i) m K=K (.exit 0) (JX (.ptr 0 0) (.ptr 1 0) m'):=by
 have hle:a*b<=60*60:=il ha hb;intro j
 induction j with
 | zero=>
  intro i m l hi h1 h2 h3 h4;have:i=a*b:=by omega
  subst this;refine ⟨m,l,h1,h2,h3,h4,?_⟩;rw[P0,yM ha hb,aa,bR,aa,aw,ag (by omega)]
 | succ j ih=>
  intro i m l hi h1 h2 h3 h4;have q9:l.es.length<5000:=by rw[h4,rM];omega
  obtain ⟨l',m1,m2,p1,p2,p3,p4,p5,p6⟩:=HN (r:=jD) h2 h3 q9
  obtain ⟨m',l'',q1,q2,q3,q4,q5⟩:=ih (i+1) m2 l' (by omega) (p6.2 0 true _ (by omega) h1) p4 p5 (by
   rw[p2];show l.es++_=_
   rw[h4,List.replicate_succ'])
  refine ⟨m',l'',q1,q2,q3,q4,?_⟩;have g2:=(Kp.app m [some .resv]).2 1 true _ h2;rw[P0,yM ha hb,aa,bR,aa,aw,aj (by omega),bE,aa];have p1':=p1;rw[b6] at p1' ⊢;rw[oj g2,aa,b8,FM,ar,aa,F7 uc,aa,p1',aa,aa,p3,aa,eF (by omega),aa];exact q5
theorem qcg{a b:Nat}(ha:a<=60)(hb:b<=60):∃m' l',gM m' l'/\l'.es=List.replicate (a*b) jD/\AC ab 61 [.int .i64 a,.int .i64 b] []=some (MV.av ⟨a,b,l'⟩,m'):=by
 obtain ⟨m',l',q1,q2,q3,q4,q5⟩:=W61 ha hb (Jg (aN ab.P f61.results.toList)) (a*b) 0 [cM zM,cM ⟨a,b,b9⟩] b9 (by omega) rfl rfl (.inl rfl) rfl
 have jB:0<m'.length:=by
  apply jv;intro kG;rw[iC (by omega)] at q1;cases q1
 have e2:([cM zM,cM zM]:ae)[1]?=some (cM zM):=rfl;refine ⟨m'.set 0 (cM ⟨a,b,l'⟩),l',q3.set q1 _,q4,?_⟩;rw[T61,xG,aa];simp only[iG,bc,aX,aZ,aR,bm,aL];rw[eO e2,aa];simp only[bH,bk];refine q5.trans ?_;rw[Z2,bC q2,aa,eO q1,aa,bC (by rw[jF jB])]
 rfl
theorem qiT{n:Nat}{x:RV}(hx:x.fr=x):∀r∈List.replicate n x,r.fr=r:=by
 intro r hr;rw[(List.mem_replicate.1 hr).2];exact hx
theorem qjU{a b:Nat}(ha:a<=60)(hb:b<=60)(m:ae):(a*b=0/\nT (AC ab) m 61 [.int .i64 a,.int .i64 b]=some (MV.av ⟨a,b,b9⟩,m)) \/
  (a*b≠0/\nT (AC ab) m 61 [.int .i64 a,.int .i64 b]=some (.agg [.int .i64 a,.int .i64 b,.arr m.length 0 (a*b) (some 3)],m++[some (.obj false (eJ (List.replicate (a*b) jD)))])):=by
 obtain ⟨m',l',h1,h2,h3⟩:=qcg ha hb;have e1:bJ (frz m eo) [.int .i64 a,.int .i64 b]=some ([.int .i64 a,.int .i64 b],[]):=rfl
 rcases h1 with rfl|⟨g1,g2,g3,nm,g4,g5⟩
 .have h0:a*b=0:=by
   have:=fE List.length h2;rw[rM] at this;exact this.symm
  refine .inl ⟨h0,?_⟩;unfold nT;rw[e1,aa,h3,aa];show some (_,fg m []++[])=_;rw[bN];rfl
 .have hlen:l'.es.length=a*b:=by rw[h2,rM]
  have h0:a*b≠0:=by
   intro hz;rw[hz] at h2;exact g3 h2
  refine .inr ⟨h0,?_⟩;unfold nT;rw[e1,aa,h3,aa];obtain ⟨sh,z,o,es⟩:=l';simp only at g1 g2 g4 g5 h2 hlen;subst g1;subst g2;subst g4;have dS:((es.map RV.av).flatMap AV.cells).all ke=true:=by rw[Cx];exact La es (by rw[h2];exact qiT uc)
  have ht:zf m.length m' (MV.av ⟨a,b,⟨some 3,false,.tok nm 43,es⟩⟩)=some (.agg [.int .i64 a,.int .i64 b,.arr m.length 0 (es.map RV.av).length (some 3)],[some (.obj false ((es.map RV.av).flatMap AV.cells))]):=by
   unfold zf MV.av LV.av;simp only[Hq g5,gu,dS,and_self,eC]
  rw[ht,ar,Cx,gu,hlen,h2]
  rfl
theorem z6(m:ae){n:Nat}{x:MV}(h:m[n]?=some (cM x))(v:AV)(a b:Int)(hv:fZ v=true):aA (some 3) m (.ptr n 0) (.agg [.int .i64 a,.int .i64 b,v])=some (m.set n (some (.obj true [.int .i64 a,.int .i64 b,v]))):=by
 have h2:eP (some 3) (.agg [.int .i64 a,.int .i64 b,v])=true:=by
  show (true&&(true&&(true&&(fZ v&&true))))=true;rw[hv];rfl
 simp only[aA,jc h,aa,h2,eC]
 rfl
def j9(n:Nat):Nat->List RV
 | 0=>List.replicate (n*n) jD
 | i+1=>(j9 n i).set (i*n+i) gN
theorem AN(n:Nat):∀i,(j9 n i).length=n*n
 | 0=>by simp[j9]
 | i+1=>by simp[j9,AN n i]
theorem HA(n:Nat):∀i,∀r∈j9 n i,r=jD\/r=gN
 | 0,r,h=>.inl (List.mem_replicate.1 h).2
 | i+1,r,h=>by
  rcases List.mem_or_eq_of_mem_set h with h|h
  .exact HA n i r h
  .exact .inr h
theorem Va(n i:Nat):∀r∈j9 n i,r.fr=r:=by
 intro r hr
 rcases HA n i r hr with rfl|rfl
 .exact uc
 .exact Hz
def uz(n:Nat):Option Ent:=some (.obj true [.int .i64 n,.int .i64 n,.arr 1 0 (n*n) (some 3)])
theorem W63{n:Nat}(hn:n<=60)(K:KT):∀(j i:Nat),i+j=n ->
  E6 (.int .i64 n) (.ptr 0 0) (.ptr 2 0) (.int .i64 i) [cM zM,some (.obj false (eJ (j9 n i))),uz n] K=K (.exit 0) (JY (.ptr 0 0) (.ptr 2 0) [cM zM,some (.obj false (eJ (j9 n n))),uz n]):=by
 intro j
 induction j with
 | zero=>
  intro i hi;have:i=n:=by omega
  subst this;rw[Jr,bR,aa,aw,ag (by omega)]
 | succ j ih=>
  intro i hi;have ih:=ih (i+1) (by omega);have hle:i*n<=60*60:=il (by omega) hn
  have aG:i*n+i<n*n:=by
   have:(i+1)*n<=n*n:=fW _ (by omega);rw[mC] at this;omega
  have hl:=Aj (j9 n i);rw[AN] at hl;have tF:ai none [cM zM,some (.obj false (eJ (j9 n i))),uz n] (.ptr 2 2)=some (.arr 1 0 (n*n) (some 3)):=rfl
  have LL:aJ (some 3) (.arr 1 0 (n*n) (some 3)) (.int .i64 (i*n+i:Nat))=some (.ptr 1 ((i*n+i)*3)):=by
   have h1:((i*n+i:Nat):Int)<(n*n:Nat):=by omega
   simp only[aJ,eC];rw[aj ⟨by omega,h1⟩,nG,aL];rfl
  have eD:aA (some 3) [cM zM,some (.obj false (eJ (j9 n i))),uz n] (.ptr 1 ((i*n+i)*3)) gN.av=some [cM zM,some (.obj false (eJ (j9 n (i+1)))),uz n]:=by
   have ho:ae.obj? [cM zM,some (.obj false (eJ (j9 n i))),uz n] 1=some (false,eJ (j9 n i)):=rfl;have hs:eP (some 3) gN.av=true:=rfl;simp only[aA,ho,aa,hs,eC];rw[aj (by rw[hl];simp only[Sh.size];omega),Nk _ _ _ (by rw[AN];exact aG)]
   rfl
  rw[Jr,bR,aa,aw,aj (by omega),bE,aa,tF,aa,yM (by omega) hn,aa,lQ (by omega),aa,b8,Km,ar,aa,LL,aa,eD,aa,eF (by omega),aa];exact ih
theorem V63{n:Nat}(hn:n<=60):∃y:MV,AP ab 63 [.int .i64 n]=some y.av/\y.rows=n/\y.cols=n/\y.lv.es=j9 n n/\LOk 1 y.lv/\y.fr=y:=by
 have bI:∀r∈j9 n n,ROk 1 r:=by
  intro r hr
  rcases HA n n r hr with rfl|rfl
  .exact Bt
  .exact qh9
 rcases qjU hn hn [cM zM] with ⟨h0,h1⟩|⟨h0,h1⟩
 .have jC:n=0:=by
   rcases Nat.mul_eq_zero.1 h0 with h|h<;>exact h
  subst jC;refine ⟨⟨(0:Nat),(0:Nat),b9⟩,bT _ _ (lH ⟨(0:Nat),(0:Nat),b9⟩) (DG _) (m:=[cM ⟨(0:Nat),(0:Nat),b9⟩,cM ⟨(0:Nat),(0:Nat),b9⟩]) ?_,rfl,rfl,rfl,⟨.inr rfl,fun _=>rfl,by simp[b9],by simp[b9]⟩,rfl⟩;rw[Qz];simp only[iG,bc,aX,aZ];rw[h1,aa];simp only[iG,bc,aR,aX,bm,aZ,aL];rw[eO (x:=zM) rfl,aa];simp only[bH,bk];rw[Jr,gw,aa,aw,ag (by omega),O7,bC (x:=⟨(0:Nat),(0:Nat),b9⟩) rfl,aa,eO (x:=zM) rfl,aa];simp only[bk];rw[bC (x:=⟨(0:Nat),(0:Nat),b9⟩) rfl]
  rfl
 .have hfz:frz [some (.obj true [.int .i64 n,.int .i64 n,.arr 1 0 (n*n) (some 3)]),some (.obj false (eJ (j9 n n))),uz n] eo (.agg [.int .i64 n,.int .i64 n,.arr 1 0 (n*n) (some 3)])=some (MV.av ⟨n,n,⟨some 3,false,.no,j9 n n⟩⟩,[1]):=by
   have e:∀m:ae,frz m eo (.agg [.int .i64 n,.int .i64 n,.arr 1 0 (n*n) (some 3)])=(bJ (frz m 8) [.int .i64 n,.int .i64 n,.arr 1 0 (n*n) (some 3)]).map fun r=>(.agg r.1,r.2):=fun _=>rfl;have ha:=Cz (m:=[some (.obj true [.int .i64 n,.int .i64 n,.arr 1 0 (n*n) (some 3)]),some (.obj false (eJ (j9 n n))),uz n]) (nm:=1) (k:=6) (es:=j9 n n) rfl (Va n n);rw[AN] at ha;have hi:∀(m:ae) (x:Int),frz m 8 (.int .i64 x)=some (.int .i64 x,[]):=fun _ _=>rfl;rw[e];simp only[bJ,hi,ha,aa,ar,aZ,bN,MV.av,LV.av]
  refine ⟨⟨n,n,⟨some 3,false,.no,j9 n n⟩⟩,jE ?_ hfz (by rw[DG,Bool.or_true]),rfl,rfl,rfl,⟨.inl rfl,(fun h=>absurd (show false=true from h) (by decide)),Va n n,bI⟩,rfl⟩;rw[Qz];simp only[iG,bc,aX,aZ];rw[h1,aa];simp only[iG,bc,aR,aX,bm,aZ,aL,Nat.reduceAdd];rw[z6 _ (x:=zM) rfl _ _ _ rfl,aa];simp only[bH,bk];have hw:=W63 hn (Jh (aN ab.P f63.results.toList)) n 0 (by omega)
  refine Eq.trans ?_ (hw.trans ?_)
  .rfl
  rw[O7];have l1:ai (some 3) [cM zM,some (.obj false (eJ (j9 n n))),uz n] (.ptr 2 0)=some (.agg [.int .i64 n,.int .i64 n,.arr 1 0 (n*n) (some 3)]):=rfl;rw[l1,aa,z6 _ (x:=zM) rfl _ _ _ rfl,aa]
  rfl
end Go.Ab
namespace Go.Ab
open Go.Proofs.Try
def BZ(x1 x2 x4 x5:AV)(m:ae):St:=⟨[.any,x1,x2,.any,x4,x5,.any,.any,.any,.any,.any,.any,.any,.any,.any,.any,.any,.any,.any,.any,.any,.any,.any,.any,.any,.any,.any,.any,.any,.any,.any,.any,.any,.any,.any,.any,.any,.any,.any,.any,.any,.any,.any,.any,.any,.any,.any,.any,.any,.any,.any,.any,.any,.any,.any,.any,.any,.any,.any,.any,.any,.any,.any,.any,.any,.any,.any,.any,.any,.any,.any,.any,.any,.any,.any,.any,.any,.any,.any,.any,.any,.any,.any,.any,.any,.any,.any,.any,.any,.any,.any,.any],m⟩
noncomputable def EX(x1 x2 x4 x5 jn gF ig:AV)(m:ae)(K:KT):OM:=bP (aq ab 13 (AP ab) (AC ab) (c1 (c1 (c2 (c1 (c2 (c2 (al f13)))))))) (ab.mask 13 (some 3)) ⟨[.any,x1,x2,.any,x4,x5,.any,.any,.any,.any,.any,.any,.any,.any,.any,.any,.any,.any,.any,.any,.any,jn,gF,ig,.any,.any,.any,.any,.any,.any,.any,.any,.any,.any,.any,.any,.any,.any,.any,.any,.any,.any,.any,.any,.any,.any,.any,.any,.any,.any,.any,.any,.any,.any,.any,.any,.any,.any,.any,.any,.any,.any,.any,.any,.any,.any,.any,.any,.any,.any,.any,.any,.any,.any,.any,.any,.any,.any,.any,.any,.any,.any,.any,.any,.any,.any,.any,.any,.any,.any,.any,.any],m⟩ K
def JP(x4 x8:AV)(m:ae):St:=⟨[.any,.any,.any,.any,x4,.any,.any,.any,x8,.any,.any,.any,.any,.any,.any,.any,.any,.any,.any,.any,.any,.any,.any,.any,.any,.any,.any,.any,.any,.any,.any,.any,.any,.any,.any,.any,.any,.any,.any,.any,.any,.any,.any,.any,.any,.any,.any,.any,.any,.any,.any,.any,.any,.any,.any,.any,.any,.any,.any,.any,.any,.any,.any,.any,.any,.any,.any,.any,.any,.any,.any,.any,.any,.any,.any,.any,.any,.any,.any,.any,.any,.any,.any,.any,.any,.any,.any,.any,.any,.any,.any,.any],m⟩
noncomputable def zz(x2 x4 x5 x8 x9:AV)(m:ae)(K:KT):OM:=bP (aq ab 13 (AP ab) (AC ab) (c1 (c1 (c2 (c1 (c2 (c2 (c2 (c2 (c2 (al f13))))))))))) (ab.mask 13 (some 11)) ⟨[.any,.any,x2,.any,x4,x5,.any,.any,x8,x9,.any,.any,.any,.any,.any,.any,.any,.any,.any,.any,.any,.any,.any,.any,.any,.any,.any,.any,.any,.any,.any,.any,.any,.any,.any,.any,.any,.any,.any,.any,.any,.any,.any,.any,.any,.any,.any,.any,.any,.any,.any,.any,.any,.any,.any,.any,.any,.any,.any,.any,.any,.any,.any,.any,.any,.any,.any,.any,.any,.any,.any,.any,.any,.any,.any,.any,.any,.any,.any,.any,.any,.any,.any,.any,.any,.any,.any,.any,.any,.any,.any,.any],m⟩ K
noncomputable abbrev Zv(K:KT):KT:=dQ (fun st=>aq ab 13 (AP ab) (AC ab) (c2 (c2 (c2 (al f13)))) st K) K
noncomputable abbrev Zw(K:KT):KT:=dK 0 (Zv K)
noncomputable abbrev BC(K:KT):KT:=(Zw K)
noncomputable abbrev Zs(K:KT):KT:=dQ (fun st=>aq ab 13 (AP ab) (AC ab) (c2 (c2 (c2 (c2 (c2 (c2 (al f13))))))) st K) K
noncomputable abbrev Zt(K:KT):KT:=dK 2 (Zs K)
noncomputable abbrev BB(K:KT):KT:=(Zt K)
theorem T13(a0 a1:AV)(m:ae):AC ab 13 [a0,a1] m =
 (ef none (some 3) m a0).bind fun r1=>
 (aB 0 r1.1).bind fun v2=>
 (ai none (ak none r1.2 (.obj true [(.int .i64 0),(.int .i64 0),(.lst none true .full [])])).2 v2).bind fun v3=>
 (aB 1 r1.1).bind fun v4=>
 (ai none (ak none r1.2 (.obj true [(.int .i64 0),(.int .i64 0),(.lst none true .full [])])).2 v4).bind fun v5=>
 (eI (.agg [(.int .i64 0),(.int .i64 0),(.lst none true .full [])]) [(0,none,v3),(1,none,v5)]).bind fun v6=>
 (aA (some 3) (ak none (ak none r1.2 (.obj true [(.int .i64 0),(.int .i64 0),(.lst none true .full [])])).2 (.obj true [(.int .i64 0),(.int .i64 0),(.lst none true .full [])])).2 (.ptr (ak none (ak none r1.2 (.obj true [(.int .i64 0),(.int .i64 0),(.lst none true .full [])])).2 .resv).1 0) v6).bind fun m7=>
 (aB 2 r1.1).bind fun v8=>
 (ai none m7 v8).bind fun v9=>
 (aB 2 r1.1).bind fun v10=>
 (ai none m7 v10).bind fun v11=>
 (aY false v11).bind fun aV=>
 (oR false aV (.int .i64 4000)).bind fun bL=>
 (nS (some 3) v9 none (some bL) none).bind fun bM=>
 (aY false bM).bind fun bz=>
 EX a1 r1.1 (.ptr (ak none r1.2 .resv).1 0) (.ptr (ak none (ak none r1.2 (.obj true [(.int .i64 0),(.int .i64 0),(.lst none true .full [])])).2 .resv).1 0) bM bz (.int .i64 0) m7 (BC (aN ab.P f13.results.toList)):=
(bW ab 13 [a0,a1] m (fn:=f13) (c:=al f13) qdQ rfl).trans (by kernel_rfl)
theorem PO(x1 x2 x4 x5 jn gF ig:AV)(m:ae)(K:KT):EX x1 x2 x4 x5 jn gF ig m K =
 (af .other .lss ig gF).bind fun v1=>
 au v1 (
 (aJ (some 3) jn ig).bind fun v2=>
 (ai (some 3) m v2).bind fun v3=>
 (aA (some 3) (ak none m (.obj true [(.bool false),(.lst none true .full []),(.lst none true .full [])])).2 (.ptr (ak none m .resv).1 0) v3).bind fun m4=>
 (aB 2 x5).bind fun v5=>
 (ai none (eH m4 1) v5).bind fun v6=>
 (aB 0 (.ptr (ak none m .resv).1 0)).bind fun v7=>
 (ai none (eH m4 1) v7).bind fun v8=>
 (aB 1 (.ptr (ak none m .resv).1 0)).bind fun v9=>
 (ai none (eH m4 1) v9).bind fun v10=>
 (ao (AP ab) (some m4.length) (eH m4 1) 32 [v10,(.int .i64 3)]).bind fun iH=>
 (aB 2 (.ptr (ak none m .resv).1 0)).bind fun aV=>
 (ai none iH.2 aV).bind fun bL=>
 (ao (AP ab) (some m4.length) iH.2 32 [bL,(.int .i64 3)]).bind fun rm=>
 (eI (.agg [(.bool false),(.lst none true .full []),(.lst none true .full [])]) [(0,none,v8),(1,none,iH.1),(2,none,rm.1)]).bind fun bz=>
 (iq (some 3) [bz]).bind fun bQ=>
 (eG (some m4.length) false 43 (some 3) 56 rm.2 v6 bQ).bind fun wQ=>
 (aB 2 x5).bind fun dU=>
 (aA none wQ.2 dU wQ.1).bind fun m19=>
 (af .other .add ig (.int .i64 1)).bind fun v20=>
 EX x1 x2 x4 x5 jn gF v20 m19 K) (
 K (.exit 0) (BZ x1 x2 x4 x5 m)):=
(eu (ed _) _ _ _).trans (by kernel_rfl)
theorem PN(x2 x4 x5 x8 x9:AV)(m:ae)(K:KT):zz x2 x4 x5 x8 x9 m K =
 (aB 0 x8).bind fun v1=>
 (ai none m v1).bind fun v2=>
 (af .other .lss x9 v2).bind fun v3=>
 au v3 (
 (aB 2 x8).bind fun v4=>
 (ai none (eH m 1) v4).bind fun v5=>
 (aB 2 x5).bind fun v6=>
 (ai none (eH m 1) v6).bind fun v7=>
 (aB 1 x2).bind fun v8=>
 (ai none (eH m 1) v8).bind fun v9=>
 (af .other .mul x9 v9).bind fun v10=>
 (aB 1 x2).bind fun v11=>
 (ai none (eH m 1) v11).bind fun aV=>
 (af .other .mul x9 aV).bind fun bL=>
 (aB 1 x8).bind fun bM=>
 (ai none (eH m 1) bM).bind fun bz=>
 (af .other .add bL bz).bind fun bQ=>
 (nS (some 3) v7 (some v10) (some bQ) none).bind fun bV=>
 (eG (some m.length) false 43 (some 3) 56 (eH m 1) v5 bV).bind fun gi=>
 (aB 2 x8).bind fun dL=>
 (aA none gi.2 dL gi.1).bind fun m20=>
 (af .other .add x9 (.int .i64 1)).bind fun eg=>
 zz x2 x4 x5 x8 eg m20 K) (
 K (.exit 2) (JP x4 x8 m)):=
(eu (ed _) _ _ _).trans (by kernel_rfl)
theorem O5(x1 x2 x4 x5:AV)(m:ae):BC (aN ab.P f13.results.toList) (.exit 0) (BZ x1 x2 x4 x5 m) =
 (ai (some 3) m x5).bind fun v1=>
 (ao (AP ab) none m 21 [v1]).bind fun r2=>
 (iI .not r2.1).bind fun v3=>
 au v3 (
 (ai (some 3) r2.2 x5).bind fun v4=>
 (aA (some 3) r2.2 x4 v4).bind fun m5=>
 (ai (some 3) m5 x4).bind fun v6=>
 some (v6,m5)) (
 (aB 0 x2).bind fun v7=>
 (ai none r2.2 v7).bind fun v8=>
 (af .other .leq v8 x1).bind fun v9=>
 au v9 (
 (aB 1 x2).bind fun v10=>
 (ai none r2.2 v10).bind fun v11=>
 (af .other .leq v11 x1).bind fun aV=>
 au aV (
 (ai (some 3) r2.2 x5).bind fun bL=>
 (aA (some 3) r2.2 x4 bL).bind fun m14=>
 (ai (some 3) m14 x4).bind fun bz=>
 some (bz,m14)) (
 (aB 0 x2).bind fun bQ=>
 (ai none r2.2 bQ).bind fun bV=>
 (oR false bV x1).bind fun dU=>
 (aB 1 x2).bind fun dL=>
 (ai none r2.2 dL).bind fun v20=>
 (oR false v20 x1).bind fun eg=>
 (eI (.agg [(.int .i64 0),(.int .i64 0),(.lst none true .full [])]) [(0,none,dU),(1,none,eg)]).bind fun dV=>
 (aA (some 3) (ak none r2.2 (.obj true [(.int .i64 0),(.int .i64 0),(.lst none true .full [])])).2 (.ptr (ak none r2.2 .resv).1 0) dV).bind fun m23=>
 zz x2 x4 x5 (.ptr (ak none r2.2 .resv).1 0) (.int .i64 0) m23 (BB (aN ab.P f13.results.toList)))) (
 (aB 0 x2).bind fun gD=>
 (ai none r2.2 gD).bind fun fT=>
 (oR false fT x1).bind fun gW=>
 (aB 1 x2).bind fun gL=>
 (ai none r2.2 gL).bind fun fU=>
 (oR false fU x1).bind fun jP=>
 (eI (.agg [(.int .i64 0),(.int .i64 0),(.lst none true .full [])]) [(0,none,gW),(1,none,jP)]).bind fun v30=>
 (aA (some 3) (ak none r2.2 (.obj true [(.int .i64 0),(.int .i64 0),(.lst none true .full [])])).2 (.ptr (ak none r2.2 .resv).1 0) v30).bind fun m31=>
 zz x2 x4 x5 (.ptr (ak none r2.2 .resv).1 0) (.int .i64 0) m31 (BB (aN ab.P f13.results.toList)))):=by kernel_rfl
theorem Zu(x4 x8:AV)(m:ae):BB (aN ab.P f13.results.toList) (.exit 2) (JP x4 x8 m) =
 (ai (some 3) m x8).bind fun v1=>
 (aA (some 3) m x4 v1).bind fun m2=>
 (ai (some 3) m2 x4).bind fun v3=>
 some (v3,m2):=by kernel_rfl
theorem T22(a0 a1 a2 a3:AV)(m:ae):AC ab 22 [a0,a1,a2,a3] m =
 (ef none (some 3) m a0).bind fun r1=>
 (ef none (some 3) r1.2 a2).bind fun r2=>
 (af .other .eql a1 a3).bind fun v3=>
 au v3 (
 (ai (some 3) r2.2 r1.1).bind fun v4=>
 (ai (some 3) r2.2 r2.1).bind fun v5=>
 (ao (AP ab) none r2.2 40 [v4,v5]).bind fun r6=>
 some (r6.1,r6.2)) (
 some ((.bool false),r2.2)):=
(bW ab 22 [a0,a1,a2,a3] m (fn:=f22) (c:=al f22) qd5 rfl).trans (by kernel_rfl)
theorem T26(m:ae):AC ab 26 [] m =
 (ao (AP ab) none m 18 [(.int .i64 2)]).bind fun r1=>
 (bg r1.1 0).bind fun v2=>
 (bg r1.1 1).bind fun v3=>
 (aA (some 3) (ak none r1.2 (.obj true [(.int .i64 0),(.int .i64 0),(.lst none true .full [])])).2 (.ptr (ak none r1.2 .resv).1 0) v2).bind fun m4=>
 (af .other .eql v3 (.int .i64 0)).bind fun v5=>
 au v5 (
 (aB 0 (.ptr (ak none r1.2 .resv).1 0)).bind fun v6=>
 (ai none m4 v6).bind fun v7=>
 (af .other .eql v7 (.int .i64 2)).bind fun v8=>
 au v8 (
 (aB 2 (.ptr (ak none r1.2 .resv).1 0)).bind fun v9=>
 (ai none m4 v9).bind fun v10=>
 (aY false v10).bind fun v11=>
 (af .other .eql v11 (.int .i64 4)).bind fun aV=>
 some (aV,m4)) (
 some ((.bool false),m4))) (
 some ((.bool false),m4)):=
(bW ab 26 [] m (fn:=f26) (c:=al f26) qd7 rfl).trans (by kernel_rfl)
theorem T32(a0 a1:AV)(m:ae):AC ab 32 [a0,a1] m =
 (aY false a0).bind fun v1=>
 (oR false v1 a1).bind fun v2=>
 (nS none a0 none (some v2) none).bind fun v3=>
 some (v3,m):=
(bW ab 32 [a0,a1] m (fn:=f32) (c:=al f32) qeb rfl).trans (by kernel_rfl)
theorem T43(a0 a1:AV)(m:ae):AC ab 43 [a0,a1] m =
 (ef none (some 3) m a0).bind fun r1=>
 (ai (some 3) (ak none r1.2 (.obj true [(.int .i64 0),(.int .i64 0),(.lst none true .full [])])).2 r1.1).bind fun v2=>
 (ao (AP ab) none (ak none r1.2 (.obj true [(.int .i64 0),(.int .i64 0),(.lst none true .full [])])).2 13 [v2,a1]).bind fun r3=>
 (aA (some 3) r3.2 r1.1 r3.1).bind fun m4=>
 (ai (some 3) m4 r1.1).bind fun v5=>
 (ao (AP ab) none m4 21 [v5]).bind fun r6=>
 (iI .not r6.1).bind fun v7=>
 au v7 (
 (ai (some 3) r6.2 r1.1).bind fun v8=>
 (aA (some 3) r6.2 (.ptr (ak none r1.2 .resv).1 0) v8).bind fun m9=>
 (ai (some 3) m9 (.ptr (ak none r1.2 .resv).1 0)).bind fun v10=>
 some (v10,m9)) (
 (ai (some 3) r6.2 r1.1).bind fun v11=>
 (aB 0 r1.1).bind fun aV=>
 (ai none r6.2 aV).bind fun bL=>
 (aB 1 r1.1).bind fun bM=>
 (ai none r6.2 bM).bind fun bz=>
 (oR false bL bz).bind fun bQ=>
 (ao (AP ab) none r6.2 13 [v11,bQ]).bind fun wQ=>
 (aA (some 3) wQ.2 (.ptr (ak none r1.2 .resv).1 0) wQ.1).bind fun m18=>
 (ai (some 3) m18 (.ptr (ak none r1.2 .resv).1 0)).bind fun dL=>
 some (dL,m18)):=
(bW ab 43 [a0,a1] m (fn:=f43) (c:=al f43) qeg rfl).trans (by kernel_rfl)
end Go.Ab
namespace Go.Ab
open Go.Proofs.Try
theorem QQ{x y:MV}{k:Nat}(hx:LOk k x.lv)(hy:LOk k y.lv)(bu:1<=k)(hk:k<2^36)(hlen:x.lv.es.length<2^40)(e f:Int):AP ab 22 [x.av,.int .i64 e,y.av,.int .i64 f]=some (.bool (decide (e=f)&&sP x y)):=by
 have e1:=V40 hx.fr' hy.fr' bu hk (x:=x.fr) (y:=y.fr) hlen;have hs:sP x.fr y.fr=sP x y:=rfl;rw[hs] at e1;have g0:([cM x,cM y]:ae)[0]?=some (cM x):=rfl;have g1:([cM x,cM y]:ae)[1]?=some (cM y):=rfl;refine bT _ _ (qU _) rfl (m:=[cM x,cM y]) ?_;rw[T22,im,aa,im,aa,iY,aa,aw];simp only[aX,aZ,aR,bm,aL]
 by_cases h:e=f
 .rw[aj h,bC g0,aa,bC g1,aa,gO (lH x) (lH y),e1,nd h,ow]
  rfl
 .rw[ag h,kC h];rfl
theorem V26:AP ab 26 []=some (.bool true):=by
 obtain ⟨y,f1,f2,f3,f4⟩:=V18 2;have h0:wW 2 2=0:=rfl
 rcases f4 with ⟨h,_⟩|⟨_,h1,h2,h3⟩
 .exact absurd h0 h
 have hl:y.lv.es.length=4:=by rw[h3,vR];rfl
 have g0:([cM y]:ae)[0]?=some (cM y):=rfl;have q1:af .other .eql (.int .i64 (4:Nat)) (.int .i64 4)=some (.bool true):=rfl;refine bT _ _ (qU _) rfl (m:=[cM y]) ?_;rw[h0] at f1;rw[T26,cC,f1,ar,aa,bY,aa,bZ,aa];simp only[iG,bc,aX,aZ];rw[eO (x:=zM) rfl,aa];simp only[bk];rw[iY,aa,aw,aj rfl,bj,aa,gh g0,aa,h1,iY,aa,aw,aj rfl,bE,aa,oj g0,aa,sB,aa,hl,q1]
 rfl
end Go.Ab
namespace Go.Ab
open Go.Proofs.Try
def tu(x:NV):NV:=⟨x.z,.no,x.ds.take 3⟩
theorem Dz(a b:Nat):oR false (.int .i64 a) (.int .i64 b)=some (.int .i64 (min a b:Nat)):=by
 show some (AV.int .i64 (if (b:Int)<(a:Int) then (b:Int) else (a:Int)))=_
 by_cases h:b<a
 .rw[aj (by omega),Nat.min_eq_right (by omega)]
 .rw[ag (by omega),ur (by omega)]
theorem QS{x:NV}:AP ab 32 [x.av,.int .i64 3]=some (tu x).av:=by
 refine bT _ _ (dN (tu x)) (pB _) (m:=[]) ?_;have h1:oR false (.int .i64 x.ds.length) (.int .i64 3)=some (.int .i64 (min x.ds.length 3:Nat)):=Dz _ 3;have hs:=NN (z:=x.z) (o:=x.o) (ds:=x.ds) (k:=.i64) (i:=(min x.ds.length 3:Nat)) (by omega) (by omega);rw[<- NV.av,nG] at hs;rw[T32,fk,aa,h1,aa,hs,aa]
 have ht:x.ds.take (min x.ds.length 3)=x.ds.take 3:=by
  by_cases h:x.ds.length<=3
  .rw[ur h,nY (aW _),nY h]
  .rw[Nat.min_eq_right (by omega)]
 rw[ht]
 rfl
structure XN (x:NV):Prop where
 dg:Dg x.ds
 nil:x.z=true->x.ds=[]
theorem Gg{x:NV}(h:XN x):NOk (tu x)/\(tu x).ds.length<=3:=by
 have hl:(x.ds.take 3).length<=3:=by rw[oA];omega
 refine ⟨⟨h.dg.take 3,?_,?_⟩,hl⟩
 .show (x.ds.take 3).length<2^40;omega
 .intro hz;show x.ds.take 3=[];rw[h.nil hz];rfl
structure XR (r:RV):Prop where
 num:XN r.num
 den:XN r.den
 fr:r.fr=r
def xM(r:RV):RV:=⟨r.neg,tu r.num,tu r.den⟩
theorem RX(r:RV):(xM r).fr=xM r:=rfl
theorem qfw{r:RV}(h:XR r):ROk 3 (xM r):=⟨(Gg h.num).1,(Gg h.den).1,(Gg h.num).2,(Gg h.den).2⟩
structure XM (x:MV):Prop where
 sh:x.lv.sh=some 3\/x.lv.es=[]
 z:x.lv.z=true->x.lv.es=[]
 es:∀r∈x.lv.es,XR r
def iQ(l:LV):LV:=⟨l.sh,l.z,.no,l.es.take 4000⟩
theorem qho{l:LV}{k:Nat}{kk:IntKind}(h:l.sh=some 3\/l.es=[])(hk:k<l.es.length):aJ (some 3) l.av (.int kk k)=some (.vptr (l.es[k].av).cells):=by
 have hs:l.sh=some 3:=h.resolve_right (fun e=>by rw[e] at hk;simp at hk);simp[LV.av,aJ,hs,hk]
theorem qcR{x:MV}(hx:XM x)(x1:AV)(K:KT):∀(j i:Nat) (m:ae) (l:LV),i+j=(iQ x.lv).es.length->m[0]?=some (cM x)->m[1]?=some (cM zM)->m[2]?=some (cM ⟨x.rows,x.cols,l⟩)->gM m l->l.es=((iQ x.lv).es.take i).map xM ->
  ∃m' l',m'[0]?=some (cM x)/\m'[1]?=some (cM zM)/\m'[2]?=some (cM ⟨x.rows,x.cols,l'⟩)/\gM m' l'/\l'.es=(iQ x.lv).es.map xM /\
   EX x1 (.ptr 0 0) (.ptr 1 0) (.ptr 2 0) (iQ x.lv).av (.int .i64 (iQ x.lv).es.length) (.int .i64 i) m K=K (.exit 0) (BZ x1 (.ptr 0 0) (.ptr 1 0) (.ptr 2 0) m'):=by
 have hlen:(iQ x.lv).es.length<=4000:=by
  show (x.lv.es.take 4000).length<=4000;rw[oA];omega
 have bO:(iQ x.lv).sh=some 3\/(iQ x.lv).es=[]:=by
  rcases hx.sh with h|h
  .exact .inl h
  .right;show x.lv.es.take 4000=[];rw[h];rfl
 intro j
 induction j with
 | zero=>
  intro i m l hi h0 h1 h2 h3 h4;refine ⟨m,l,h0,h1,h2,h3,by rw[h4,nY (by omega)],?_⟩;rw[PO,bR,aa,aw,ag (by omega)]
 | succ j ih=>
  intro i m l hi h0 h1 h2 h3 h4;have aU:i<(iQ x.lv).es.length:=by omega
  have fp:(iQ x.lv).es[i]∈x.lv.es:=um (fH aU);have hr:=hx.es _ fp;have mP:(iQ x.lv).es[i].num.fr=(iQ x.lv).es[i].num:=fE RV.num hr.fr;have pV:(iQ x.lv).es[i].den.fr=(iQ x.lv).es[i].den:=fE RV.den hr.fr;have kp:=Kp.app m [cR (iQ x.lv).es[i]];have hb:=kp.2 2 true _ h2;have q9:l.es.length<5000:=by rw[h4];simp;omega
  obtain ⟨l',m1,m2,p1,p2,p3,p4,p5,p6⟩:=HN (r:=xM (iQ x.lv).es[i]) hb (h3.app [cR (iQ x.lv).es[i]]) q9;have kq:=kp.trans (Kp.app (m++[cR (iQ x.lv).es[i]]) [some .resv])
  obtain ⟨m',l'',q0,q1,q2,q3,q4,q5⟩:=ih (i+1) m2 l' (by omega) (p6.2 0 true _ (by omega) (kp.2 0 true _ h0)) (p6.2 1 true _ (by omega) (kp.2 1 true _ h1)) p4 p5 (by
   rw[p2];show l.es++_=_
   rw[h4,Fk aU,zO];rfl)
  refine ⟨m',l'',q0,q1,q2,q3,q4,?_⟩;have g2:=kq.2 2 true _ h2
  have gr:((m++[cR (iQ x.lv).es[i]])++[some Ent.resv])[m.length]?=some (cR (iQ x.lv).es[i]):=by
   rw[er (by simp)];exact bX
  have pcNI:∀(mm:ae) (d:Option Nat) (g:Nat) (y:NV) (n:Int),ao (AP ab) d mm g [y.av,.int .i64 n]=(AP ab g [y.fr.av,.int .i64 n]).map fun v=>(v,mm):=fun mm d g y n=>gO (dN y) (eK _ _);have S0:=cg (iQ x.lv).es[i].neg (tu (iQ x.lv).es[i].num) (tu (iQ x.lv).es[i].den);rw[ck.symm] at S0;have CO:=F7 (RX (iQ x.lv).es[i]);rw[PO,bR,aa,aw,aj aU,qho bO aU,aa,sD,aa,vh,bc,wX,aa,bE,aa];rw[b6] at p1 ⊢;rw[oj g2,aa,bj,aa,qiU gr,aa,ba,aa,HV gr,aa,pcNI,mP,QS,ar,aa,bE,aa,qiV gr,aa,pcNI,pV,QS,ar,aa,S0,aa];rw[show RV.av ⟨(iQ x.lv).es[i].neg,tu (iQ x.lv).es[i].num,tu (iQ x.lv).es[i].den⟩=(xM (iQ x.lv).es[i]).av from rfl,CO,aa,p1,aa,aa,p3,aa,eF (by omega),aa];exact q5
theorem qjs(l:LV)(hs:l.sh=some 3\/l.es=[]):nS (some 3) l.av none (some (.int .i64 (min l.es.length 4000:Nat))) none=some (iQ l).av:=by
 have e1:(l.es.map RV.av).take (min l.es.length 4000)=(l.es.take 4000).map RV.av:=by
  rw[<- List.map_take];congr 1
  by_cases h:l.es.length<=4000
  .rw[ur h,nY (aW _),nY h]
  .rw[Nat.min_eq_right (by omega)]
 have e2:l.sh=some 3\/l.es.map RV.av=[]:=hs.elim .inl (fun h=>.inr (by rw[h];rfl));have e3:(0:Int)<=(min l.es.length 4000:Nat):=by omega
 have e4:((min l.es.length 4000:Nat):Int)<=(l.es.map RV.av).length:=by rw[gu];omega
 simp only[nS,LV.av,aj e2,qk,jI,e3,e4,and_self,eC,aa,nG,e1,tg,iQ]
end Go.Ab
namespace Go.Ab
open Go.Proofs.Try
theorem Dj{m:ae}{n:Nat}{e:Option Ent}(h:m[n]?=some e):n<m.length:=by
 apply jv;intro hc;rw[iC (by omega)] at h;cases h
theorem qdg{m:ae}{l:LV}{k:Nat}{y:LV}(h:gM m l)(hk:m[k]?=some (some .resv))(hy:y.sh=some 3\/y.es=[])(hlen:(l.es.length+y.es.length)*56<=iU) :
  ∃l' m',eG (some k) false 43 (some 3) 56 m l.av y.av=some (l'.av,m')/\gM m' l'/\l'.es=l.es++y.es/\Kp m m':=by
 obtain ⟨shy,zy,oy,ys⟩:=y
 cases ys with
 | nil=>exact ⟨l,m,rfl,h,by simp,Kp.refl m⟩
 | cons r ys=>
  obtain rfl:shy=some 3:=hy.resolve_right (fun e=>by cases e);have jh:=Dj hk
  rcases h with rfl|⟨h1,h2,h3,nm,h4,h5⟩
  .have LR:(ys.length+1)*56<=iU:=by simpa [b9] using hlen
   refine ⟨⟨some 3,false,.tok k 43,r::ys⟩,m.set k (some (.tok (r::ys).length 3)),?_,.inr ⟨rfl,rfl,by simp,k,rfl,by rw[jF jh]⟩,rfl,by simp,?_⟩
   .simp[LV.av,b9,eG,LR,ak,Sh.size]
   .intro n bx cs hn;have aE:k≠n:=fun e=>by rw[<- e,hk] at hn;cases hn
    rw[dM aE];exact hn
  .have mQ:=Dj h5
   refine ⟨⟨some 3,false,.tok nm 43,l.es++r::ys⟩,m.set nm (some (.tok (l.es.length+(r::ys).length) 3)),?_,.inr ⟨rfl,rfl,by simp,nm,rfl,by rw[jF mQ];simp⟩,rfl,by simp,?_⟩
   .obtain ⟨sh,z,o,es⟩:=l;simp only at h1 h2 h4;subst h1;subst h2;subst h4;have LR:(es.length+(ys.length+1))*56<=iU:=by simpa using hlen
    simp[LV.av,eG,LR,Hq h5,Sh.size]
   .intro n bx cs hn;have aE:nm≠n:=fun e=>by rw[<- e,h5] at hn;cases hn
    rw[dM aE];exact hn
theorem qix{m:ae}{n:Nat}{y:MV}{ys:LV}(hb:m[n]?=some (cM y))(hr:gM m y.lv)(hy:ys.sh=some 3\/ys.es=[])(hlen:y.lv.es.length+ys.es.length<9000) :
  ∃l' m' m'',eG (some m.length) false 43 (some 3) 56 (m++[some .resv]) y.lv.av ys.av=some (l'.av,m')/\l'.es=y.lv.es++ys.es/\aA none m' (.ptr n 2) l'.av=some m''/\m''[n]?=some (cM ⟨y.rows,y.cols,l'⟩)/\gM m'' l'/\Kn n m m'':=by
 obtain ⟨l',m',h1,h2,h3,h4⟩:=qdg (y:=ys) (hr.app [some .resv]) (k:=m.length) bX hy (by simp only[iU];omega);have hk:=(Kp.app m [some .resv]).trans h4;have fm:=hk.2 n true _ hb;refine ⟨l',m',_,h1,h3,UN fm,by rw[jF (Dj fm)],h2.set fm _,?_⟩;refine ⟨by rw[eB];exact hk.1,fun p bx cs hp hh=>?_⟩;rw[dM (fun e=>hp e.symm)];exact hk.2 p bx cs hh
theorem NO{l:LV}{a b:Nat}(hs:l.sh=some 3\/l.es=[])(h1:a<=b)(h2:b<=l.es.length):nS (some 3) l.av (some (.int .i64 a)) (some (.int .i64 b)) none=some (LV.av ⟨l.sh,l.z,.no,(l.es.take b).drop a⟩):=by
 have e1:((l.es.map RV.av).take b).drop a=((l.es.take b).drop a).map RV.av:=by rw[List.map_drop,List.map_take]
 have e2:l.sh=some 3\/l.es.map RV.av=[]:=hs.elim .inl (fun h=>.inr (by rw[h];rfl));have e3:(0:Int)<=(b:Nat):=by omega
 have e4:((b:Nat):Int)<=(l.es.map RV.av).length:=by rw[gu];omega
 have e5:(0:Int)<=(a:Nat)/\((a:Nat):Int)<=(b:Nat):=by omega
 simp only[nS,LV.av,aj e2,qk,jI,e3,e4,e5,and_self,eC,aa,nG,e1]
def xL(es:List RV)(cols C:Nat):Nat->List RV
 | 0=>[]
 | i+1=>xL es cols C i++(es.take (i*cols+C)).drop (i*cols)
theorem KO{es:List RV}{cols C:Nat}{r:RV}:∀{i:Nat},r∈xL es cols C i->r∈es
 | 0,h=>by cases h
 | i+1,h=>by
  rcases kT.1 h with h|h
  .exact KO h
  .exact um (List.mem_of_mem_drop h)
theorem KN{es:List RV}{cols C:Nat}(hC:C<=cols):∀{i:Nat},i*cols<=es.length->(xL es cols C i).length=i*C
 | 0,h=>by simp[xL]
 | i+1,h=>by
  have e:(i+1)*cols=i*cols+cols:=mC i cols;rw[xL,aK,KN hC (by omega),rL,oA,ur (by omega),mC];omega
theorem qiW{m:ae}{l:LV}(h:gM m l):l.sh=some 3\/l.es=[]:=by
 rcases h with rfl|⟨h1,_⟩
 .exact .inr rfl
 .exact .inl h1
theorem qcQ{rows cols:Nat}{o:LV}{x0:MV}{R C L:Nat}(hR:R<=rows)(hr:rows<=60)(hC:C<=cols)(hc:cols<=60)(hlen:o.es.length=rows*cols)(ho:o.sh=some 3\/o.es=[])(hL:3<=L)(hx:x0.cols=cols)
  (K:KT):∀(j i:Nat) (m:ae) (l:LV),i+j=R->m[0]?=some (cM x0)->m[1]?=some (cM zM)->m[2]?=some (cM ⟨x0.rows,x0.cols,o⟩)->m[L]?=some (cM ⟨R,C,l⟩)->gM m l->l.es=xL o.es cols C i ->
  ∃m' l',m'[1]?=some (cM zM)/\m'[L]?=some (cM ⟨R,C,l'⟩)/\gM m' l'/\l'.es=xL o.es cols C R /\
   zz (.ptr 0 0) (.ptr 1 0) (.ptr 2 0) (.ptr L 0) (.int .i64 i) m K=K (.exit 2) (JP (.ptr 1 0) (.ptr L 0) m'):=by
 intro j
 induction j with
 | zero=>
  intro i m l hi h0 h1 h2 h3 h4 h5;have LJ:i=R:=by omega
  subst LJ;refine ⟨m,l,h1,h3,h4,h5,?_⟩;rw[PN,bj,aa,gh h3,aa,bR,aa,aw,ag (by omega)]
 | succ j ih=>
  intro i m l hi h0 h1 h2 h3 h4 h5;have LJ:i<R:=by omega
  have gI:i*cols+cols<=rows*cols:=by
   rw[<- mC];exact fW _ (by omega)
  have ng:rows*cols<=3600:=il hr hc;have wm:i*C<=i*cols:=kU _ hC;have q9:l.es.length=i*C:=by rw[h5,KN hC (by omega)]
  have hsl:((o.es.take (i*cols+C)).drop (i*cols)).length=C:=by
   rw[rL,oA,ur (by omega)];omega
  obtain ⟨l',m1,m2,p1,p2,p3,p4,p5,p6⟩:=qix (y:=⟨R,C,l⟩) (ys:=⟨o.sh,o.z,.no,(o.es.take (i*cols+C)).drop (i*cols)⟩) h3 h4 (by
   rcases ho with h|h
   .exact .inl h
   .right;show (o.es.take _).drop _=[];rw[h];simp) (by show l.es.length+((o.es.take (i*cols+C)).drop (i*cols)).length<9000;omega)
  obtain ⟨m',l'',q1,q2,q3,q4,q5⟩:=ih (i+1) m2 l' (by omega) (p6.2 0 true _ (by omega) h0) (p6.2 1 true _ (by omega) h1) (p6.2 2 true _ (by omega) h2) p4 p5 (by rw[p2];show l.es++_=_;rw[h5];rfl);refine ⟨m',l'',q1,q2,q3,q4,?_⟩;have kp:=Kp.app m [some .resv];have g0:=kp.2 0 true _ h0;have g2:=kp.2 2 true _ h2;have g3:=kp.2 L true _ h3
  have mulc:af .other .mul (.int .i64 (i:Nat)) (.int .i64 x0.cols)=some (.int .i64 (i*cols:Nat)):=by
   rw[hx,Di (by omega) (by omega) (by omega) (by omega),<- l5]
  have addc:af .other .add (.int .i64 (i*cols:Nat)) (.int .i64 (C:Nat))=some (.int .i64 (i*cols+C:Nat)):=lQ (by omega)
  rw[PN,bj,aa,gh h3,aa,bR,aa,aw,aj LJ,bE,aa,b6,oj g3,aa,bE,aa,oj g2,aa,
   ba,aa,fh g0,aa,mulc,aa,aa,fh g0,aa,mulc,aa,ba,aa,fh g3,aa,addc,aa,
   NO ho (by omega) (by omega),aa,p1,aa,aa,p3,aa,eF (by omega),aa]
  exact q5
theorem FL{x:MV}{n:Nat}(hn:n<=60)(hx:XM x)(LH:x.fr=x):∃y:MV,AP ab 13 [x.av,.int .i64 n]=some y.av/\LOk 3 y.lv/\y.lv.es.length<=4000/\y.fr=y/\(aP y=true->y.rows=min x.rows n/\y.cols=min x.cols n):=by
 obtain ⟨m',l',q0,q1,q2,q3,q4,q5⟩:=qcR hx (.int .i64 n) (BC (aN ab.P f13.results.toList)) (iQ x.lv).es.length 0 [cM x,cM zM,cM ⟨x.rows,x.cols,b9⟩] b9 (by omega) rfl rfl rfl (.inl rfl) rfl
 have hlen:l'.es.length<=4000:=by
  rw[q4,gu];show (x.lv.es.take 4000).length<=4000;rw[oA];omega
 have eV:LOk 3 l':=Ny q3 (by rw[q4];intro r hr;obtain ⟨r',_,rfl⟩:=ks.1 hr;exact RX _) (by rw[q4];intro r hr;obtain ⟨r',h',rfl⟩:=ks.1 hr;exact qfw (hx.es r' (um h')))
 have jB:1<m'.length:=by
  apply jv;intro hc;rw[iC (by omega)] at q1;cases q1
 have e1:=qs (x:=(MV.mk x.rows x.cols l').fr) eV.fr' (k:=3) (by omega) (by show l'.es.length<_;omega);have rf:aP (MV.mk x.rows x.cols l').fr=aP ⟨x.rows,x.cols,l'⟩:=rfl;rw[rf] at e1;have a1:([cM x,cM zM]:ae)[0]?=some (cM x):=rfl;have a2:([cM x,cM zM,cM zM]:ae)[2]?=some (cM zM):=rfl;have a3:([cM x,cM zM,cM ⟨x.rows,x.cols,b9⟩]:ae)[0]?=some (cM x):=rfl;have uS:oR false (.int .i64 x.lv.es.length) (.int .i64 4000)=some (.int .i64 (min x.lv.es.length 4000:Nat)):=Dz _ 4000
 have fin:((ai (some 3) m' (.ptr 2 0)).bind fun v4=>(aA (some 3) m' (.ptr 1 0) v4).bind fun m5=>(ai (some 3) m5 (.ptr 1 0)).bind fun v6=>some (v6,m5))=some (MV.av ⟨x.rows,x.cols,l'⟩,m'.set 1 (cM ⟨x.rows,x.cols,l'⟩)):=by
  rw[bC q2,aa,eO q1,aa,bC (by rw[jF jB])]
  rfl
 have pre:AC ab 13 [x.av,.int .i64 n] []=BC (aN ab.P f13.results.toList) (.exit 0) (BZ (.int .i64 n) (.ptr 0 0) (.ptr 1 0) (.ptr 2 0) m'):=by
  rw[T13];simp only[aa,im,iG,bc,bj,ba,bE,aX,aZ,aR,bm,aL,Nat.reduceAdd];rw[gh a1,aa,fh a1,aa,xG,aa,eO a2,aa];simp only[bH,bk];rw[oj a3,aa,aa,sB,aa,uS,aa,qjs _ hx.sh,aa,sB,aa];refine Eq.trans ?_ q5
  rfl
 have out:∀(z:MV) (mm:ae),BC (aN ab.P f13.results.toList) (.exit 0) (BZ (.int .i64 n) (.ptr 0 0) (.ptr 1 0) (.ptr 2 0) m')=some (z.av,mm)->AP ab 13 [x.av,.int .i64 n]=some z.fr.av:=fun z mm h=>bT _ _ (lH z) (DG _) (pre.trans h);have outl:=out ⟨x.rows,x.cols,l'⟩ (m'.set 1 (cM ⟨x.rows,x.cols,l'⟩));rw[O5,bC q2,aa,lS,e1,ar,aa,bB,aa] at outl
 cases hb:aP ⟨x.rows,x.cols,l'⟩ with
 | false=>
  rw[hb,mZ,jj] at outl;exact ⟨_,outl fin,eV.fr',hlen,by simp only[MV.fr,HX q3],fun h=>absurd (rf.symm.trans (by rw[rf];exact h):aP ⟨x.rows,x.cols,l'⟩=true) (by rw[hb];decide)⟩
 | true=>
  have gU:Bb ⟨x.rows,x.cols,l'⟩=true:=by unfold aP at hb;rw[dY] at hb;exact hb.1
  unfold Bb at gU;obtain ⟨z1,z2,z3,z4,z5⟩:=yP gU;have z1:0<=x.rows:=z1;have z2:x.rows<=60:=z2;have z3:0<=x.cols:=z3;have z4:x.cols<=60:=z4;have z5:(l'.es.length:Int)=x.rows*x.cols:=z5;obtain ⟨rr,C6⟩:=vB z1;obtain ⟨cc,kG⟩:=vB z3;rw[hb,gk,fF,bj,aa,gh q0,aa,F5,aa,aw] at outl
  have LU:l'.es.length=rr*cc:=by
   rw[C6,kG] at z5;rw[<- l5] at z5;exact Int.ofNat_inj.1 z5
  have hL:=Dj q2
  obtain ⟨m2,l2,w1,w2,w3,w4,w5⟩:=qcQ (rows:=rr) (cols:=cc) (o:=l') (x0:=x) (R:=min rr n) (C:=min cc n) (L:=m'.length) (by omega) (by omega) (by omega) (by omega) LU (qiW q3) (by omega) kG (BB (aN ab.P f13.results.toList)) (min rr n) 0 (m'++[cM ⟨(min rr n:Nat),(min cc n:Nat),b9⟩]) b9 (by omega)
   (by rw[er (by omega)];exact q0) (by rw[er (by omega)];exact q1) (by rw[er (by omega)];exact q2) bX (.inl rfl) rfl
  have fin2:(ai none m' (.ptr 0 0)).bind (fun bV=>(oR false bV (.int .i64 n)).bind fun dU=>(aB 1 (.ptr 0 0)).bind fun dL=>(ai none m' dL).bind fun v20=>(oR false v20 (.int .i64 n)).bind fun eg=>(eI (.agg [(.int .i64 0),(.int .i64 0),(.lst none true .full [])]) [(0,none,dU),(1,none,eg)]).bind fun dV=>
    (aA (some 3) (ak none m' (.obj true [(.int .i64 0),(.int .i64 0),(.lst none true .full [])])).2 (.ptr (ak none m' .resv).1 0) dV).bind fun m23=>zz (.ptr 0 0) (.ptr 1 0) (.ptr 2 0) (.ptr (ak none m' .resv).1 0) (.int .i64 0) m23 (BB (aN ab.P f13.results.toList)))=some (MV.av ⟨(min rr n:Nat),(min cc n:Nat),l2⟩,m2.set 1 (cM ⟨(min rr n:Nat),(min cc n:Nat),l2⟩)):=by
   rw[gh q0,aa,C6,Dz,aa,ba,aa,fh q0,aa,kG,Dz,aa,xG,aa,iG,bc];rw[eO (x:=zM) bX,aa];rw[show (m'++[cM zM]).set m'.length (cM ⟨(min rr n:Nat),(min cc n:Nat),b9⟩)=m'++[cM ⟨(min rr n:Nat),(min cc n:Nat),b9⟩] by simp];refine w5.trans ?_;rw[Zu,bC w2,aa,eO w1,aa,bC (by rw[jF (Dj w1)])]
   rfl
  have TE:LOk 3 l2:=Ny w3 (by rw[w4];intro r hr;exact eV.fr r (KO hr)) (by rw[w4];intro r hr;exact eV.ok r (KO hr))
  have qgG:l2.es.length<=4000:=by
   rw[w4,KN (by omega) (by rw[LU];exact fW _ (by omega))];have:min rr n*min cc n<=60*60:=il (by omega) (by omega);omega
  have done2:∀{R:Prop},(AP ab 13 [x.av,.int .i64 n]=some (MV.fr ⟨(min rr n:Nat),(min cc n:Nat),l2⟩).av)->∃y:MV,AP ab 13 [x.av,.int .i64 n]=some y.av/\LOk 3 y.lv/\y.lv.es.length<=4000/\y.fr=y/\(aP y=true->y.rows=min x.rows n/\y.cols=min x.cols n):=by
   intro _ h
   refine ⟨_,h,TE.fr',qgG,by simp only[MV.fr,HX w3],fun _=>⟨?_,?_⟩⟩
   .show ((min rr n:Nat):Int)=_;rw[C6];omega
   .show ((min cc n:Nat):Int)=_;rw[kG];omega
  have outc:=out ⟨(min rr n:Nat),(min cc n:Nat),l2⟩ (m2.set 1 (cM ⟨(min rr n:Nat),(min cc n:Nat),l2⟩));rw[O5,bC q2,aa,lS,e1,ar,aa,bB,aa,hb,gk,fF,bj,aa,gh q0,aa,F5,aa,aw] at outc
  by_cases d1:x.rows<=n
  .rw[aj d1,ba,aa,fh q0,aa,F5,aa,aw] at outl outc
   by_cases d2:x.cols<=n
   .rw[aj d2] at outl;exact ⟨_,outl fin,eV.fr',hlen,by simp only[MV.fr,HX q3],fun _=>⟨by show x.rows=_;omega,by show x.cols=_;omega⟩⟩
   .rw[ag d2] at outc;exact done2 (R:=True) (outc fin2)
  .rw[ag d1] at outc;exact done2 (R:=True) (outc fin2)
end Go.Ab
namespace Go.Ab
open Go.Proofs.Try
theorem LOk.xm{x:MV}{k:Nat}(h:LOk k x.lv):XM x:=
 ⟨h.sh,h.z,fun r hr=>⟨⟨(h.ok r hr).num.dg,(h.ok r hr).num.nil⟩,⟨(h.ok r hr).den.dg,(h.ok r hr).den.nil⟩,h.fr r hr⟩⟩
theorem Vq{m:ae}{d:Option Nat}{g:Nat}(x:MV)(a:Int):ao (AP ab) d m g [x.av,.int .i64 a]=(AP ab g [x.fr.av,.int .i64 a]).map fun v=>(v,m):=gO (lH x) (eK _ a)
theorem Wp{x:MV}(h:aP x=true):0<=x.rows/\x.rows<=60/\0<=x.cols/\x.cols<=60/\(x.lv.es.length:Int)=x.rows*x.cols:=by
 unfold aP at h;rw[dY] at h;exact yP h.1
theorem V43{x:MV}{n:Nat}(hn:n<=60)(hx:XM x)(LH:x.fr=x):∃y:MV,AP ab 43 [x.av,.int .i64 n]=some y.av/\LOk 3 y.lv/\y.lv.es.length<=4000/\y.fr=y/\(aP y=true->y.rows=y.cols/\y.rows<=n):=by
 obtain ⟨y,y1,y2,y3,y4,y5⟩:=FL hn hx LH;have e21:=qs (x:=y) y2 (k:=3) (by omega) (by omega);have out:∀(z:MV) (mm:ae),AC ab 43 [x.av,.int .i64 n] []=some (z.av,mm)->AP ab 43 [x.av,.int .i64 n]=some z.fr.av:=fun z mm h=>bT _ _ (lH z) (DG _) h;have start:AC ab 43 [x.av,.int .i64 n] []=AC ab 43 [x.av,.int .i64 n] []:=rfl
 conv at start=>rhs;rw[T43,im]
 simp only[aa,iG,bc,aX,aZ,aR,bm,aL] at start;rw[bC (x:=x) rfl,aa,Vq,LH,y1,ar,aa,eO (x:=x) rfl,aa] at start;simp only[bk] at start;rw[bC (x:=y) rfl,aa,lS,y4,e21,ar,aa,bB,aa] at start
 cases hb:aP y with
 | false=>
  rw[hb,mZ,jj,bC (x:=y) rfl,aa,eO (x:=zM) rfl,aa] at start;simp only[bk,bH] at start;rw[bC (x:=y) rfl,aa] at start;have:=out _ _ start;rw[y4] at this;exact ⟨y,this,y2,y3,y4,fun h=>by rw[hb] at h;cases h⟩
 | true=>
  obtain ⟨z1,z2,z3,z4,z5⟩:=Wp hb;obtain ⟨y6,y7⟩:=y5 hb;obtain ⟨rr,C6⟩:=vB z1;obtain ⟨cc,kG⟩:=vB z3;obtain ⟨u,u1,u2,u3,u4,u5⟩:=FL (x:=y) (n:=min rr cc) (by omega) y2.xm y4;rw[hb,gk,fF,bC (x:=y) rfl,aa,bj,aa,gh (x:=y) rfl,aa,ba,aa,fh (x:=y) rfl,aa,C6,kG,Dz,aa,Vq,y4,u1,ar,aa,eO (x:=zM) rfl,aa] at start;simp only[bk,bH] at start;rw[bC (x:=u) rfl,aa] at start;have:=out _ _ start;rw[u4] at this;refine ⟨u,this,u2,u3,u4,fun h=>?_⟩;obtain ⟨u6,u7⟩:=u5 h;rw[u6,u7];omega
end Go.Ab
namespace Go.Ab
open Go.Proofs.Try
end Go.Ab
namespace Go.Ab
open Go.Proofs.Try
theorem KG(F:Nat->Nat->RV)(cols:Nat):∀(i p:Nat),p<i*cols->(n4 F cols i)[p]?=some (F (p/cols) (p%cols))
 | 0,p,h=>by simp at h
 | i+1,p,h=>by
  rw[mC] at h;unfold n4
  by_cases hp:p<i*cols
  .rw[er (by rw[vR];exact hp)];exact KG F cols i p hp
  .have hb:p-i*cols<cols:=by omega
   have h1:p=(p-i*cols)+cols*i:=by rw[en cols i];omega
   have h2:p/cols=i:=by rw[h1,Nat.add_mul_div_left _ _ (by omega),zQ hb,aL]
   have h3:p%cols=p-i*cols:=by rw[h1,Nat.add_mul_mod_self_left,ku hb,<- h1]
   rw[vE (by rw[vR];omega),vR,h2,h3];unfold HY;rw[o0,List.getElem?_range hb]
   rfl
theorem Vb(n:Nat):∀(i p:Nat),i<=n->p<n*n->(j9 n i)[p]?=some (if p/n=p%n/\p/n<i then gN else jD)
 | 0,p,hi,h=>by
  unfold j9;rw[ui,aj h,ag (by omega)]
 | i+1,p,hi,h=>by
  have hn:0<n:=by omega
  unfold j9;have ih:=Vb n i p (by omega) h
  by_cases hp:i*n+i=p
  .subst hp;have hm:i*n+i=i+n*i:=by rw[en];omega
   have h2:(i*n+i)/n=i:=by rw[hm,Nat.add_mul_div_left _ _ hn,zQ (by omega),aL]
   have h3:(i*n+i)%n=i:=by rw[hm,Nat.add_mul_mod_self_left,ku (by omega)]
   rw[jF (by rw[AN];exact h),h2,h3,aj ⟨rfl,by omega⟩]
  .rw[dM hp,ih]
   have:¬ (p/n=p%n/\p/n=i):=by
    intro ⟨h1,h2⟩;apply hp;have:=rO p n;rw[<- h1,h2,en] at this;exact this
   congr 1
   by_cases c:p/n=p%n/\p/n<i
   .rw[aj c,aj ⟨c.1,by omega⟩]
   .rw[ag c,ag (by omega)]
theorem qjh{x y:MV}(h1:x.rows=y.rows)(h2:x.cols=y.cols)(h3:x.lv.es.map RV.q=y.lv.es.map RV.q):sP x y=true:=by
 unfold sP;rw[nd h1,nd h2,nd h3];rfl
end Go.Ab
namespace Go.Ab
open Go.Proofs.Try
def gY(x:MV)(p:Nat):Rat:=(x.lv.es.map RV.q).getD p 0
theorem rl{x:MV}{p:Nat}(h:p<x.lv.es.length):gY x p=x.lv.es[p].q:=by
 unfold gY;rw[bA,o0,jR h];rfl
theorem qjg{x y:MV}(h1:x.rows=y.rows)(h2:x.cols=y.cols)(hl:x.lv.es.length=y.lv.es.length)(h:∀p,p<x.lv.es.length->gY x p=gY y p):sP x y=true:=by
 refine qjh h1 h2 (List.ext_getElem? fun p=>?_);rw[o0,o0]
 by_cases hp:p<x.lv.es.length
 .have:=h p hp;rw[rl hp,rl (by omega)] at this;rw[jR hp,jR (by omega),ar,ar,this]
 .rw[iC (by omega),iC (by omega)]
structure Res (z:MV) (e err:Int) (R C:Nat) (Q:Nat->Rat) (k:Nat):Prop where
 fr:z.fr=z
 ok:LOk k z.lv
 e:e=err
 bad:err≠0->z=zM
 rows:err=0->z.rows=R
 cols:err=0->z.cols=C
 len:err=0->z.lv.es.length=R*C
 q:err=0->∀p,p<R*C->gY z p=Q p
def vM(x:MV):AV:=.vptr [.int .i64 x.rows,.int .i64 x.cols,x.lv.av]
theorem GB{m:ae}{n:Nat}{x:MV}(h:m[n]?=some (cM x)):frz m 8 (.ptr n 0)=some (vM x.fr,[]):=by
 have e:frz m 8 (.ptr n 0)=(m.obj? n).bind fun o=>if o.1 then (bJ (frz m 7) (o.2.drop 0)).map fun r=>(.vptr r.1,r.2) else none:=rfl
 rw[e,jc h];simp[bJ,gH .i64 x.rows m 6,gH .i64 x.cols m 6,Ak x.lv.sh x.lv.z x.lv.o (x.lv.es.map RV.av) m 6,MV.fr,LV.fr,LV.av,vM]
theorem GC{x:MV}(h:x.fr=x)(m:ae)(k:Nat):frz m (k+2) (vM x)=some (vM x,[]):=by
 have e:frz m (k+2) (vM x)=(bJ (frz m (k+1)) [.int .i64 x.rows,.int .i64 x.cols,x.lv.av]).map fun r=>(.vptr r.1,r.2):=rfl;rw[e];have hl:x.lv.fr.av=x.lv.av:=by rw[show x.lv.fr=x.lv from fE MV.lv h]
 have nO:AV.lst x.lv.sh x.lv.z x.lv.o.fr (x.lv.es.map RV.av)=x.lv.av:=hl;simp[bJ,gH .i64 x.rows m k,gH .i64 x.cols m k,LV.av,Ak x.lv.sh x.lv.z x.lv.o (x.lv.es.map RV.av) m k,vM];exact fE (fun y:MV=>y.lv.o) h
theorem qfv{a b:AV}(ha:∀m k,frz m (k+2) a=some (a,[]))(hb:∀m k,frz m (k+2) b=some (b,[])):∀m,bJ (frz m eo) [a,b]=some ([a,b],[]):=fun m=>by
 have e1:frz m eo a=some (a,[]):=ha m 7;have e2:frz m eo b=some (b,[]):=hb m 7;simp[bJ,e1,e2]
theorem Xl(x:MV):aB 1 (vM x)=some (.vptr [.int .i64 x.cols,x.lv.av]):=rfl
theorem N9(x:MV):aB 2 (vM x)=some (.vptr [x.lv.av]):=rfl
theorem Xm(x:MV)(m:ae):ai none m (.vptr [.int .i64 x.cols,x.lv.av])=some (.int .i64 x.cols):=rfl
theorem Ir(x:MV)(m:ae):ai none m (.vptr [x.lv.av])=some x.lv.av:=rfl
theorem qR{i j c:Nat}(hi:i<=60)(hc:c<=60)(hj:j<=60):af .other .mul (.int .i64 i) (.int .i64 c)=some (.int .i64 (i*c:Nat))/\af .other .add (.int .i64 (i*c:Nat)) (.int .i64 j)=some (.int .i64 (i*c+j:Nat)):=by
 have:i*c<=60*60:=il hi hc;refine ⟨?_,lQ (by omega)⟩;rw[Di (by omega) (by omega) (by omega) (by omega),<- l5]
end Go.Ab
namespace Go.Ab
open Go.Proofs.Try
structure IsM (k:Nat) (x:MV):Prop where
 ok:LOk k x.lv
 fr:x.fr=x
 len:x.lv.es.length<=4000
theorem nC{f:Nat}{args:List AV}{z:MV}{e:Int}{mm:ae}(h:AC ab f args []=some (.tup [z.av,.int .i64 e],mm))(hz:z.fr=z):AP ab f args=some (.tup [z.av,.int .i64 e]):=
 (bT _ _ (CA z (gH _ _)) rfl h).trans (by rw[hz])
theorem yX{x:MV}{k p:Nat}(h:LOk k x.lv)(hk:1<=k):Bd k (gY x p):=by
 by_cases hp:p<x.lv.es.length
 .rw[rl hp];exact (h.ok _ (fH hp)).bd hk
 .unfold gY;rw[bA,o0,iC (by omega)];exact Bv hk
theorem qfe{P:Nat->Nat->RV->Prop}{rows cols:Nat}(h:∀i j,i<rows->j<cols->∃s,P i j s):∃F:Nat->Nat->RV,∀i j,i<rows->j<cols->P i j (F i j):=by
 have h':∀i,∃f:Nat->RV,∀j,i<rows->j<cols->P i j (f j):=by
  intro i
  have:∀j,∃s,i<rows->j<cols->P i j s:=by
   intro j
   by_cases hc:i<rows/\j<cols
   .obtain ⟨s,hs⟩:=h i j hc.1 hc.2;exact ⟨s,fun _ _=>hs⟩
   .exact ⟨mw,fun h1 h2=>absurd ⟨h1,h2⟩ hc⟩
  obtain ⟨f,hf⟩:=Classical.axiomOfChoice this;exact ⟨f,hf⟩
 obtain ⟨F,hF⟩:=Classical.axiomOfChoice h';exact ⟨F,fun i j=>hF i j⟩
theorem Gs(p c:Nat):p/c*c+p%c=p:=by rw[en];exact rO p c
theorem kB{i j r c:Nat}(hi:i<r)(hj:j<c):i*c+j<r*c:=by
 have:(i+1)*c<=r*c:=fW _ hi;rw[mC] at this;omega
end Go.Ab
namespace Go.Ab
open Go.Proofs.Try
end Go.Ab
namespace Go.Ab
open Go.Proofs.Try
def cA(es:List RV):Option Ent:=some (.obj false (eJ es))
def cB(rows cols:Int)(nR L:Nat):Option Ent:=some (.obj true [.int .i64 rows,.int .i64 cols,.arr nR 0 L (some 3)])
theorem vP{nR L p:Nat}(h:p<L):aJ (some 3) (.arr nR 0 L (some 3)) (.int .i64 p)=some (.ptr nR (p*3)):=by
 simp only[aJ,eC];rw[aj ⟨by omega,by omega⟩,nG,aL];rfl
theorem Rx{o:Own}(h:o.fr=o)(sh:Sh)(z:Bool)(es:List AV):fZ (.lst sh z o es)=true:=by
 cases o<;>first|rfl|(simp[Own.fr] at h)
theorem qjo{r:RV}(h:r.fr=r):eP (some 3) r.av=true:=by
 obtain ⟨n,⟨z1,o1,d1⟩,⟨z2,o2,d2⟩⟩:=r;simp only[RV.fr,NV.fr,RV.mk.injEq,NV.mk.injEq,true_and,and_true] at h;have h1:=Rx h.1 none z1 (d1.map dg);have h2:=Rx h.2 none z2 (d2.map dg);show (true&&(true&&(fZ (.lst none z1 o1 (d1.map dg))&&(fZ (.lst none z2 o2 (d2.map dg))&&true))))=true;rw[h1,h2];rfl
theorem F4{m:ae}{nR p:Nat}{es:List RV}{r:RV}(hm:m[nR]?=some (cA es))(hp:p<es.length)(hf:r.fr=r):aA (some 3) m (.ptr nR (p*3)) r.av=some (m.set nR (cA (es.set p r))):=by
 have hl:=Aj es;simp only[aA,jc hm,aa,qjo hf,eC];rw[aj (by rw[hl];simp only[Sh.size];omega),Nk _ _ _ hp]
 rfl
theorem So:∀(es:List RV) (p:Nat) (h:p<es.length),((eJ es).drop (p*3)).take 3=[.bool es[p].neg,es[p].num.av,es[p].den.av]
 | r::es,0,h=>rfl
 | r::es,p+1,h=>by
  have e:(p+1)*3=p*3+1+1+1:=by omega
  show ((_::_::_::eJ es).drop ((p+1)*3)).take 3=_;rw[e,List.drop_succ_cons,List.drop_succ_cons,List.drop_succ_cons,So es p (by simpa using h)]
  rfl
theorem uy{m:ae}{nR p:Nat}{es:List RV}(hm:m[nR]?=some (cA es))(hp:p<es.length):ai (some 3) m (.ptr nR (p*3))=some es[p].av:=by
 have hl:=Aj es;have e:=So es p hp;simp only[ai,jc hm,aa,jU];rw[aj (by rw[hl];omega),e]
 rfl
theorem qf8{m:ae}{nR:Nat}{es:List RV}(rows cols:Int)(hm:m[nR]?=some (cA es))(hf:∀r∈es,r.fr=r):∀k,frz m (k+3) (.agg [.int .i64 rows,.int .i64 cols,.arr nR 0 es.length (some 3)])=some (MV.av ⟨rows,cols,⟨some 3,false,.no,es⟩⟩,[nR]):=by
 intro k;have e:frz m (k+3) (.agg [.int .i64 rows,.int .i64 cols,.arr nR 0 es.length (some 3)])=(bJ (frz m (k+2)) [.int .i64 rows,.int .i64 cols,.arr nR 0 es.length (some 3)]).map fun r=>(.agg r.1,r.2):=rfl;have ha:=Cz (k:=k) hm hf;have hi:∀(x:Int),frz m (k+2) (.int .i64 x)=some (.int .i64 x,[]):=fun _=>rfl;rw[e];simp only[bJ,hi,ha,aa,ar,aZ,bN,MV.av,LV.av]
theorem qgc{m:ae}{nR:Nat}{es:List RV}(rows cols e:Int)(hm:m[nR]?=some (cA es))(hf:∀r∈es,r.fr=r):frz m eo (.tup [.agg [.int .i64 rows,.int .i64 cols,.arr nR 0 es.length (some 3)],.int .i64 e])=some (.tup [MV.av ⟨rows,cols,⟨some 3,false,.no,es⟩⟩,.int .i64 e],[nR]):=by
 have e1:∀v w:AV,frz m eo (.tup [v,w])=(bJ (frz m 8) [v,w]).map fun r=>(.tup r.1,r.2):=fun _ _=>rfl;have hi:∀(x:Int),frz m 8 (.int .i64 x)=some (.int .i64 x,[]):=fun _=>rfl;rw[e1];simp only[bJ,hi,qf8 rows cols hm hf 5,aa,ar,aZ,bN]
structure Wr (es:List RV) (L k:Nat) (Q:Nat->Rat) (done:Nat->Prop):Prop where
 len:es.length=L
 fr:∀r∈es,r.fr=r
 ok:∀r∈es,ROk k r
 q:∀p,p<L->done p->(es.map RV.q).getD p 0=Q p
theorem Wr.zero(L k:Nat)(Q:Nat->Rat)(hk:1<=k):Wr (List.replicate L jD) L k Q (fun _=>False):=
 ⟨rM,fun r hr=>by rw[(List.mem_replicate.1 hr).2];exact uc,fun r hr=>by rw[(List.mem_replicate.1 hr).2];exact Bt.mono hk,fun _ _ h=>h.elim⟩
theorem Wr.res{es:List RV}{R C k:Nat}{Q:Nat->Rat}(h:Wr es (R*C) k Q (fun _=>True)):Res ⟨R,C,⟨some 3,false,.no,es⟩⟩ 0 0 R C Q k:=
 ⟨rfl,⟨.inl rfl,(fun h=>absurd (show false=true from h) (by decide)),h.fr,h.ok⟩,rfl,fun h=>absurd rfl h,fun _=>rfl,fun _=>rfl,fun _=>h.len,fun _ p hp=>h.q p hp trivial⟩
theorem Res.nil{R C k:Nat}{Q:Nat->Rat}(h:R*C=0):Res ⟨R,C,b9⟩ 0 0 R C Q k:=
 ⟨rfl,Ek k,rfl,fun h=>absurd rfl h,fun _=>rfl,fun _=>rfl,fun _=>h.symm,fun _ p hp=>by omega⟩
end Go.Ab
namespace Go.Ab
open Go.Proofs.Try
theorem qj0{r i j:Nat}(hi:i<r):(j*r+i)%r=i/\(j*r+i)/r=j:=by
 have e:j*r+i=i+r*j:=by rw[en];omega
 rw[e];refine ⟨by rw[Nat.add_mul_mod_self_left,ku hi],by rw[Nat.add_mul_div_left _ _ (by omega),zQ hi,aL]⟩
end Go.Ab
namespace Go.Ab
open Go.Proofs.Try
def gC(f:Nat->Rat):Nat->Rat
 | 0=>0
 | n+1=>gC f n+f n
theorem zd{f g:Nat->Rat}:∀{n:Nat},(∀l,l<n->f l=g l)->gC f n=gC g n
 | 0,_=>rfl
 | n+1,h=>by rw[gC,gC,zd (fun l hl=>h l (by omega)),h n (by omega)]
theorem WN:∀n:Nat,gC (fun _=>0) n=0
 | 0=>rfl
 | n+1=>by rw[gC,WN n,Rat.add_zero]
theorem WH(f g:Nat->Rat):∀n:Nat,gC (fun l=>f l+g l) n=gC f n+gC g n
 | 0=>by simp only[gC,Rat.add_zero]
 | n+1=>by
  rw[gC,WH f g n,gC,gC,Rat.add_assoc,Rat.add_assoc];congr 1;rw[<- Rat.add_assoc,<- Rat.add_assoc,Rat.add_comm (gC g n) (f n)]
theorem WI(c:Rat)(f:Nat->Rat):∀n:Nat,gC (fun l=>c*f l) n=c*gC f n
 | 0=>by simp only[gC,Rat.mul_zero]
 | n+1=>by rw[gC,WI c f n,gC,Rat.mul_add]
theorem WJ(c:Rat)(f:Nat->Rat):∀n:Nat,gC (fun l=>f l*c) n=gC f n*c
 | 0=>by simp only[gC,Rat.zero_mul]
 | n+1=>by rw[gC,WJ c f n,gC,Rat.add_mul]
theorem WL(f:Nat->Nat->Rat)(m:Nat):∀n:Nat,gC (fun i=>gC (f i) m) n=gC (fun j=>gC (fun i=>f i j) n) m
 | 0=>(WN m).symm
 | n+1=>by rw[gC,WL f m n,<- WH];rfl
theorem WK{f:Nat->Rat}{p:Nat}:∀{n:Nat},(∀l,l<n->l≠p->f l=0)->gC f n=if p<n then f p else 0
 | 0,_=>rfl
 | n+1,h=>by
  rw[gC,WK (fun l hl=>h l (by omega))]
  by_cases c:p<n
  .rw[aj c,aj (by omega),h n (by omega) (by omega),Rat.add_zero]
  .rw[ag c,Rat.zero_add]
   by_cases c2:p=n
   .rw[aj (by omega),c2]
   .rw[ag (by omega),h n (by omega) (fun e=>c2 e.symm)]
def Sc(x y:MV)(c d i j:Nat)(l:Nat):Rat:=gC (fun l=>gY x (i*c+l)*gY y (l*d+j)) l
theorem SM(x:NV):af .other .gtr (.int .i64 x.ds.length) (.int .i64 0)=some (.bool (decide (x.ds.length>0))):=by
 rw[pa];congr 2;exact mI.2 (by omega)
def UP(x y:MV)(c d p:Nat):Rat:=Sc x y c d (p/d) (p%d) c
end Go.Ab
namespace Go.Ab
open Go.Proofs.Try
theorem Wr.congr{es:List RV}{L k:Nat}{Q Q':Nat->Rat}(h:Wr es L k Q (fun _=>True))(hq:∀p,p<L->Q' p=Q p):Wr es L k Q' (fun _=>True):=⟨h.len,h.fr,h.ok,fun p hp _=>by rw[h.q p hp trivial,hq p hp]⟩
theorem AZ{i j d:Nat}(hj:j<d):(i*d+j)/d=i/\(i*d+j)%d=j:=by
 obtain ⟨a,b⟩:=qj0 (r:=d) (i:=j) (j:=i) hj;exact ⟨b,a⟩
section
variable {x y:MV} {k K r c d:Nat}
end
theorem qg{x:MV}(h:aP x=true):∃r c:Nat,x.rows=r/\x.cols=c/\r<=60/\c<=60/\x.lv.es.length=r*c:=by
 obtain ⟨z1,z2,z3,z4,z5⟩:=Wp h;obtain ⟨r,hr⟩:=vB z1;obtain ⟨c,hc⟩:=vB z3;refine ⟨r,c,hr,hc,by omega,by omega,?_⟩;rw[hr,hc,<- l5] at z5;exact Int.ofNat_inj.1 z5
theorem Nx{z:MV}{r c:Nat}(h1:z.rows=r)(h2:z.cols=c)(h3:r<=60)(h4:c<=60)(h5:z.lv.es.length=r*c)(h6:∀t∈z.lv.es,jl t=true):aP z=true:=by
 unfold aP Bb;rw[dY];refine ⟨nd ⟨by omega,by omega,by omega,by omega,?_⟩,iX.2 h6⟩;rw[h1,h2,h5,l5]
end Go.Ab
namespace Go.Ab
open Go.Proofs.Try
theorem qiL{s:Bool}{n d a:Nat}(ha:a≠0):ew s (n*a) (d*a)=ew s n d:=by
 have:=Rat.mkRat_mul_right (a:=a) (n:=fA s n) (d:=d) ha;rw[ew,ew,<- this];congr 1;cases s<;>simp[fA,l5,Int.neg_mul]
theorem Nn{s t:Bool}{n d k e:Nat}(h:ew t k e≠0):ew (s != t) (n*e) (d*k)=ew s n d/ew t k e:=by
 have hk:k≠0:=fun h0=>h (by rw[h0,HO]);have he:e≠0:=fun h0=>h (by rw[h0,yY])
 have h1:ew (s != t) (n*e) (d*k)*ew t k e=ew s n d:=by
  rw[DI,show ((s != t) != t)=s by cases s<;>cases t<;>rfl,gQ,gQ,en k e];exact qiL (Nat.mul_ne_zero he hk)
 rw[<- h1];generalize ew t k e=y at h
 grind
theorem Ep{q:Rat}{k:Nat}(h:Bd k q):Bd k (-q):=by
 refine ⟨?_,?_⟩
 .have:(-q).num.natAbs=q.num.natAbs:=by rw[Rat.neg_num,Int.natAbs_neg]
  rw[this];exact h.1
 .have:(-q).den=q.den:=Rat.neg_den q;rw[this];exact h.2
theorem Of{p q:Rat}{k l:Nat}(hp:Bd k p)(hq:Bd l q)(hk:1<=k):Bd (k+l+1) (p-q):=by
 rw[Rat.sub_eq_add_neg];exact Oe hp (Ep hq) hk
theorem IC{p q:Rat}{k l:Nat}(hp:Bd k p)(hq:Bd l q)(hk:1<=k)(h0:q≠0):Bd (k+l) (p/q):=by
 have e:=Nn (s:=decide (p.num<0)) (t:=decide (q.num<0)) (n:=p.num.natAbs) (d:=p.den) (k:=q.num.natAbs) (e:=q.den) (by rw[yZ];exact h0);rw[yZ,yZ] at e;rw[<- e];exact Er (kZ hp.1 hq.2) (kZ hp.2 hq.1) (by omega)
theorem Q0{r:RV}{k:Nat}(h:ROk k r):∃s:RV,AP ab 89 [r.av]=some s.av/\Can s (- r.q)/\s.fr=s:=by
 obtain ⟨s,h1,h2,h3⟩:=zV (!r.neg) h.num.fr h.den.fr
 have e:ew (!r.neg) r.num.fr.v r.den.fr.v=- r.q:=by
  rw[qiK];rfl
 rw[e] at h2;refine ⟨s,(bT _ _ (gA s) (ib _) (m:=[cR r,cR s]) ?_).trans (by rw[h3]),h2,h3⟩;rw[T89];simp only[Nat.reduceAdd,aa,ar,cr,di,bc,dj,dh,bj,ba,bE,b6,cF,cu,cw,ct,cO,dw,dz,cS,cT,cQ,cP,dA,dB,cW,cX,cV,cU,dC,dD,c8,c9,cZ,cY,dE,dF,de,df,dd,dc,dG,dH,bY,bZ,cN,cJ,cL,cK,cg,ck,bB,cH,cG,aR,aX,aK,aZ,bm,bN,aL,bk,bH,dJ,cE,cC,dp,dn,bS,bU,b8,h1]
theorem qcp{a b:RV}{k:Nat}(ha:ROk k a)(hb:ROk k b)(bu:1<=k)(hk:k<2^36):∃s:RV,AP ab 135 [a.av,b.av]=some s.av/\Can s (a.q-b.q)/\s.fr=s:=by
 obtain ⟨n,e1,e2,e3⟩:=Q0 hb.fr;have hn:ROk k n:=e2.ok (by rw[RV.fr_q];exact Ep (hb.bd bu)) (by omega);obtain ⟨s,f1,f2,f3⟩:=V75 ha.fr hn bu hk;rw[RV.fr_q,e2.q,RV.fr_q,<- Rat.sub_eq_add_neg] at f2;have hnf:n.fr.av=n.av:=by rw[e3]
 refine ⟨s,(bT _ _ (gA s) (ib _) (m:=[cR a,cR b,cR s]) ?_).trans (by rw[f3]),f2,f3⟩;rw[qb9];simp only[Nat.reduceAdd,aa,ar,cr,di,bc,dj,dh,bj,ba,bE,b6,cF,cu,cw,ct,cO,dw,dz,cS,cT,cQ,cP,dA,dB,cW,cX,cV,cU,dC,dD,c8,c9,cZ,cY,dE,dF,de,df,dd,dc,dG,dH,bY,bZ,cN,cJ,cL,cK,cg,ck,bB,cH,cG,aR,aX,aK,aZ,bm,bN,aL,bk,bH,dJ,cE,cC,dp,dn,bS,bU,b8,e1,hnf,f1]
theorem QH{a b:RV}{k:Nat}(ha:ROk k a)(hb:ROk k b)(bu:1<=k)(hk:k<2^36)(nN:b.q≠0):∃s:RV,AP ab 122 [a.av,b.av]=some (.tup [s.av,.int .i64 0])/\Can s (a.q/b.q)/\s.fr=s:=by
 have hsb:pE b≠0:=fun e=>nN (NM.1 e);have e2:=Kk hb.fr;have s2:pE b.fr=pE b:=rfl;rw[s2] at e2;have g1:=xB ha.num.fr hb.den.fr;have g2:=xB ha.den.fr hb.num.fr;have v1:a.num.fr.v=a.num.v:=rfl;have v2:a.den.fr.v=a.den.v:=rfl;have v3:b.num.fr.v=b.num.v:=rfl;have v4:b.den.fr.v=b.den.v:=rfl;rw[v1,v4] at g1;rw[v2,v3] at g2;have ln:=kZ (b7 ha.num.v_len ha.ln) (b7 hb.den.v_len hb.ld);have ld:=kZ (b7 ha.den.v_len ha.ld) (b7 hb.num.v_len hb.ln);have on:NOk ⟨false,.no,an (a.num.v*b.den.v)⟩:=wM (by omega);have od:NOk ⟨false,.no,an (a.den.v*b.num.v)⟩:=wM (by omega);have nf:∀n:Nat,(NV.mk false .no (an n)).fr=⟨false,.no,an n⟩:=fun _=>rfl;have nv:∀n:Nat,(NV.mk false .no (an n)).v=n:=fun n=>fG n;obtain ⟨r,h1,h2,h3⟩:=zV (a.neg != b.neg) on od;have hq:ew (a.neg != b.neg) (a.num.v*b.den.v) (a.den.v*b.num.v)=a.q/b.q:=Nn nN;rw[nv,nv,hq] at h2;refine ⟨r,(bT _ _ (uF r (gH _ _)) rfl (m:=[cR a,cR b,cR r]) ?_).trans (by rw[h3]),h2,h3⟩;rw[qbY];simp only[Nat.reduceAdd,aa,ar,cr,di,bc,dj,dh,bj,ba,bE,b6,cF,cu,cw,ct,cO,dw,dz,cS,cT,cQ,cP,dA,dB,cW,cX,cV,cU,dC,dD,c8,c9,cZ,cY,dE,dF,de,df,dd,dc,dG,dH,bY,bZ,cN,cJ,cL,cK,cg,ck,bB,cH,cG,aR,aX,aK,aZ,bm,bN,aL,bk,bH,dJ,cE,cC,dp,dn,bS,bU,b8,e2];rw[iY,aa,aw,ag hsb];simp only[Nat.reduceAdd,aa,ar,cr,di,bc,dj,dh,bj,ba,bE,b6,cF,cu,cw,ct,cO,dw,dz,cS,cT,cQ,cP,dA,dB,cW,cX,cV,cU,dC,dD,c8,c9,cZ,cY,dE,dF,de,df,dd,dc,dG,dH,bY,bZ,cN,cJ,cL,cK,cg,ck,bB,cH,cG,aR,aX,aK,aZ,bm,bN,aL,bk,bH,dJ,cE,cC,dp,dn,bS,bU,b8,g1,g2,nf,h1]
theorem qh3{tk:TK}{a b:Nat}(h:a*b<9223372036854775808):af tk .mul (.int .i64 a) (.int .i64 b)=some (.int .i64 (a*b:Nat)):=by
 rw[Ce,<- l5];generalize a*b=q at *;rw[km (by omega) (by omega)]
theorem QO{x:NV}(hx:NOk x):∃b:Nat,AP ab 139 [x.av]=some (.int .i64 (b:Nat))/\b<=32*(an x.v).length+32:=by
 have e1:=rR hx.fr;have hv:x.fr.v=x.v:=rfl;rw[hv] at e1;have hl:=hx.v_len;have He:=hx.len;have p1:ao (AP ab) none ([]:ae) 124 [x.av]=some (NV.av ⟨x.fr.z,.no,an x.v⟩,[]):=by rw[cE,e1];rfl
 by_cases h0:(an x.v).length=0
 .refine ⟨0,bT _ _ (eK _ _) rfl (m:=[]) ?_,by omega⟩;rw[Qp,p1,aa];show (aY false (NV.av ⟨x.fr.z,.no,an x.v⟩)).bind _=_;rw[fk,aa,show (NV.mk x.fr.z Own.no (an x.v)).ds.length=0 from h0,iY,aa,aw,aj (by decide)];rfl
 .have jC:x.v≠0:=fun e=>h0 (by rw[e,jK];rfl);have hd:=Cr jC;have aG:(an x.v).getD ((an x.v).length-1) 0<4294967296:=eU x.v _;have e2:=QP (x:=(an x.v).getD ((an x.v).length-1) 0) (by omega) aG;have hlg:Nat.log2 ((an x.v).getD ((an x.v).length-1) 0)<32:=(Nat.log2_lt (by omega)).2 aG;have ix:=lR (x:=⟨x.fr.z,.no,an x.v⟩) (k:=.i64) (i:=(an x.v).length-1) (by show _<(an x.v).length;omega);have ix:aJ none (NV.av ⟨x.fr.z,.no,an x.v⟩) (.int .i64 ((an x.v).length-1:Nat))=some (.vptr [dg ((an x.v).getD ((an x.v).length-1) 0)]):=ix;generalize (an x.v).getD ((an x.v).length-1) 0=d at *;have hlen:aY false (NV.av ⟨x.fr.z,.no,an x.v⟩)=some (.int .i64 ((an x.v).length:Nat)):=fk _;have p2:ao (AP ab) none ([]:ae) 140 [dg d]=some (.int .i64 (Nat.log2 d+1:Nat),[]):=by rw[dW (a:=dg d) (a':=dg d) (eK .u32 d),e2];rfl
  refine ⟨32*((an x.v).length-1)+(Nat.log2 d+1),bT _ _ (eK _ _) rfl (m:=[]) ?_,by omega⟩;rw[Qp,p1,aa];dsimp only;rw[hlen,aa,iY,aa,aw,ag (by omega),aa,tP (by omega) (by omega),aa,show (AV.int .i64 32)=.int .i64 ((32:Nat):Int) from rfl,qh3 (by omega),aa,aa,tP (by omega) (by omega),aa,ix,aa,qd,aa,p2,aa];dsimp only;rw[lQ (by omega),aa]
theorem QM{r:RV}{k:Nat}(h:ROk k r)(hk:k<2^40):∃w:Nat,AP ab 134 [r.av]=some (.int .i64 (w:Nat))/\w<=64*k+64:=by
 obtain ⟨a,e1,h1⟩:=QO h.num.fr;obtain ⟨b,e2,h2⟩:=QO h.den.fr;have tL:r.num.fr.v=r.num.v:=rfl;have T6:r.den.fr.v=r.den.v:=rfl;rw[tL] at h1;rw[T6] at h2;have l1:=b7 h.num.v_len h.ln;have l2:=b7 h.den.v_len h.ld;refine ⟨a+b,bT _ _ (eK _ _) rfl (m:=[cR r]) ?_,by omega⟩;rw[qb8];simp only[Nat.reduceAdd,aa,ar,cr,di,bc,dj,dh,bj,ba,bE,b6,cF,cu,cw,ct,cO,dw,dz,cS,cT,cQ,cP,dA,dB,cW,cX,cV,cU,dC,dD,c8,c9,cZ,cY,dE,dF,de,df,dd,dc,dG,dH,bY,bZ,cN,cJ,cL,cK,cg,ck,bB,cH,cG,aR,aX,aK,aZ,bm,bN,aL,bk,bH,dJ,cE,cC,dp,dn,bS,bU,b8,e1,e2];rw[lQ (by omega),aa]
end Go.Ab
namespace Go.Ab
def eQ:Nat->(Nat->Rat)->Rat
 | 0,_=>0
 | n+1,f=>eQ n f+f n
theorem lh:∀{n:Nat} {f g:Nat->Rat},(∀k,k<n->f k=g k)->eQ n f=eQ n g
 | 0,_,_,_=>rfl
 | n+1,f,g,h=>by rw[eQ,eQ,lh fun k hk=>h k (by omega),h n (by omega)]
theorem Ii(n:Nat):eQ n (fun _=>0)=0:=by
 induction n with
 | zero=>rfl
 | succ n ih=>rw[eQ,ih];grind
theorem Ig(f g:Nat->Rat):∀n,eQ n (fun k=>f k+g k)=eQ n f+eQ n g
 | 0=>by simp only[eQ];grind
 | n+1=>by rw[eQ,eQ,eQ,Ig f g n];grind
theorem ze(c:Rat)(f:Nat->Rat):∀n,eQ n (fun k=>c*f k)=c*eQ n f
 | 0=>by simp only[eQ];grind
 | n+1=>by rw[eQ,eQ,ze c f n];grind
theorem NS(a b:Rat)(f g:Nat->Rat)(n:Nat):eQ n (fun k=>a*f k+b*g k)=a*eQ n f+b*eQ n g:=by
 rw[Ig,ze,ze]
theorem NT(f:Nat->Rat)(n:Nat):eQ n (fun k=>- f k)=- eQ n f:=by
 have:=ze (-1) f n;rw[lh (g:=fun k=>-1*f k) fun k _=>by grind,this];grind
theorem qjJ(n m:Nat)(F:Nat->Nat->Rat):eQ n (fun i=>eQ m fun j=>F i j)=eQ m fun j=>eQ n fun i=>F i j:=by
 induction n with
 | zero=>simp only[eQ];exact (Ii m).symm
 | succ n ih=>simp only[eQ];rw[ih,Ig]
theorem DX{n i:Nat}{f:Nat->Rat}(hi:i<n)(h:∀k,k<n->k≠i->f k=0):eQ n f=f i:=by
 induction n with
 | zero=>omega
 | succ n ih=>
  rw[eQ]
  by_cases hn:i=n
  .subst hn;rw[lh (g:=fun _=>0) fun k hk=>h k (by omega) (by omega),Ii];grind
  .rw[ih (by omega) fun k hk=>h k (by omega),h n (by omega) (by omega)];grind
theorem Ih{n:Nat}{f:Nat->Rat}(h:∀k,k<n->f k=0):eQ n f=0:=by
 rw[lh (g:=fun _=>0) h,Ii]
abbrev MX:=Nat->Nat->Rat
def use(U:Nat->Bool)(k:Nat):Nat->Bool:=fun j=>if j=k then true else U j
theorem qkm(U:Nat->Bool)(k l:Nat):use (use U k) l=use (use U l) k:=by
 funext j;unfold use;split<;>split<;>rfl
theorem zi{U:Nat->Bool}{k l:Nat}(h:l≠k):use U k l=U l:=ag h
theorem N4{U:Nat->Bool}{k:Nat}:use U k k=true:=aj rfl
def sQ(U:Nat->Bool):Nat->Nat->Rat
 | 0,_=>1
 | d+1,j=>(if U j then -1 else 1)*sQ U d (j+1)
def Dt(n:Nat)(M:MX):Nat->Nat->(Nat->Bool)->Rat
 | 0,_,_=>1
 | d+1,i,U=>eQ n fun k=>if U k then 0 else sQ U (n-(k+1)) (k+1)*M i k*Dt n M d (i+1) (use U k)
def det(n:Nat)(M:MX):Rat:=Dt n M n 0 fun _=>false
theorem BA{n:Nat}{M N:MX}:∀(d i:Nat) (U:Nat->Bool),(∀r k,i<=r->r<i+d->k<n->M r k=N r k)->Dt n M d i U=Dt n N d i U
 | 0,_,_,_=>rfl
 | d+1,i,U,h=>by
  rw[Dt,Dt];refine lh fun k hk=>?_;rw[h i k (by omega) (by omega) hk,BA d (i+1) (use U k) fun r k h1 h2 hk=>h r k (by omega) (by omega) hk]
theorem NK{U:Nat->Bool}{k:Nat}(hk:U k=false):∀(d j:Nat),sQ (use U k) d j=sQ U d j*(if j<=k/\k<j+d then -1 else 1)
 | 0,j=>by
  rw[ag (fun h=>by omega)];simp only[sQ];grind
 | d+1,j=>by
  rw[sQ,sQ,NK hk d (j+1)]
  by_cases hj:j=k
  .subst hj;have h1:¬ (j+1<=j/\j<j+1+d):=by omega
   have h2:j<=j/\j<j+(d+1):=by omega
   simp only[N4,hk,ag h1,aj h2,eC,ko,j6];grind
  .rw[zi hj]
   by_cases h2:j<=k/\k<j+(d+1)
   .rw[aj (by omega:j+1<=k/\k<j+1+d),aj h2];grind
   .rw[ag (by omega:¬ (j+1<=k/\k<j+1+d)),ag h2];grind
theorem IH{n:Nat}{M N:MX}{t:Nat}(h1:∀k,N t k=M (t+1) k)(h2:∀k,N (t+1) k=M t k)(h3:∀r k,r≠t->r≠t+1->N r k=M r k):∀(d i:Nat) (U:Nat->Bool),i<=t->t+1<i+d->Dt n N d i U=- Dt n M d i U
 | 0,i,U,hi,hd=>by omega
 | d+1,i,U,hi,hd=>by
  by_cases pT:i=t
  .subst pT;obtain ⟨e,rfl⟩:∃e,d=e+1:=⟨d-1,by omega⟩
   have key:∀A:MX,Dt n A (e+1+1) i U=eQ n fun k=>eQ n fun l=>if U k then 0 else if use U k l then 0 else sQ U (n-(k+1)) (k+1)*sQ (use U k) (n-(l+1)) (l+1)*A i k*A (i+1) l*Dt n A e (i+2) (use (use U k) l):=fun A=>by
    rw[Dt];refine lh fun k hk=>?_
    by_cases hU:U k=true
    .simp only[hU,eC];exact (Ii n).symm
    .simp only[hU];rw[Dt,<- ze];refine lh fun l hl=>?_
     by_cases hV:use U k l=true
     .simp only[hV,eC];grind
     .simp only[hV];grind
   rw[key N,key M,qjJ,<- NT];refine lh fun l hl=>?_;rw[<- NT];refine lh fun k hk=>?_
   have hD:Dt n N e (i+2) (use (use U k) l)=Dt n M e (i+2) (use (use U l) k):=by
    rw[qkm];exact BA _ _ _ fun r k hr _ _=>h3 r k (by omega) (by omega)
   by_cases hk:U k=true
   .have:use U l k=true:=by unfold use;split<;>simp[hk]
    simp only[hk,this,eC];split<;>grind
   .have hk:U k=false:=by simpa using hk
    by_cases nO:U l=true
    .have:use U k l=true:=by unfold use;split<;>simp[nO]
     simp only[hk,nO,this,eC];simp only[ko,j6];grind
    .have nO:U l=false:=by simpa using nO
     by_cases jh:k=l
     .subst jh;simp only[N4,eC,hk,ko,j6];grind
     .rw[zi (fun e=>jh e.symm),zi jh,hk,nO,hD,h1,h2,NK hk,NK nO];simp only[ko,j6]
      by_cases aG:k<l
      .rw[ag (by omega:¬ (l+1<=k/\k<l+1+(n-(l+1)))),aj (by omega:k+1<=l/\l<k+1+(n-(k+1)))];grind
      .rw[aj (by omega:l+1<=k/\k<l+1+(n-(l+1))),ag (by omega:¬ (k+1<=l/\l<k+1+(n-(k+1))))];grind
  .rw[Dt,Dt,<- NT];refine lh fun k hk=>?_;rw[h3 i k pT (by omega),IH h1 h2 h3 d (i+1) (use U k) (by omega) (by omega)];split<;>grind
theorem II{n:Nat}{M P Q:MX}{a b:Rat}{t:Nat}(h1:∀k,M t k=a*P t k+b*Q t k)(h2:∀r k,r≠t->P r k=M r k)(h3:∀r k,r≠t->Q r k=M r k):∀(d i:Nat) (U:Nat->Bool),i<=t->t<i+d->Dt n M d i U=a*Dt n P d i U+b*Dt n Q d i U
 | 0,i,U,hi,hd=>by omega
 | d+1,i,U,hi,hd=>by
  rw[Dt,Dt,Dt,<- NS];refine lh fun k hk=>?_
  by_cases hU:U k=true
  .simp only[hU,eC];grind
  .simp only[hU]
   by_cases pT:i=t
   .subst pT;rw[h1,BA (M:=P) (N:=M) d (i+1) _ fun r k hr _ _=>h2 r k (by omega),BA (M:=Q) (N:=M) d (i+1) _ fun r k hr _ _=>h3 r k (by omega)];grind
   .rw[h2 i k pT,h3 i k pT,II h1 h2 h3 d (i+1) (use U k) (by omega) (by omega)];grind
theorem IJ{n:Nat}:∀(e:Nat) (M:MX) (r t d i:Nat) (U:Nat->Bool),t=r+1+e->(∀k,M r k=M t k)->i<=r->t<i+d->Dt n M d i U=0
 | 0,M,r,t,d,i,U,ht,h,hi,hd=>by
  subst ht;have:=IH (n:=n) (M:=M) (N:=M) (t:=r) (fun k=>h k) (fun k=>(h k).symm) (fun _ _ _ _=>rfl) d i U hi (by omega)
  grind
 | e+1,M,r,t,d,i,U,ht,h,hi,hd=>by
  let N:MX:=fun q k=>if q=t-1 then M t k else if q=t then M (t-1) k else M q k
  have h1:Dt n N d i U=0:=IJ e N r (t-1) d i U (by omega) (fun k=>by
   show (if r=t-1 then M t k else if r=t then M (t-1) k else M r k)=(if t-1=t-1 then M t k else _)
   rw[ag (by omega),ag (by omega),aj rfl];exact h k) hi (by omega)
  have h2:=IH (n:=n) (M:=M) (N:=N) (t:=t-1) (fun k=>by
   show (if t-1=t-1 then M t k else _)=_
   rw[aj rfl,show t-1+1=t by omega]) (fun k=>by
   show (if t-1+1=t-1 then M t k else if t-1+1=t then M (t-1) k else _)=_
   rw[ag (by omega),aj (by omega)]) (fun q k a b=>by
   show (if q=t-1 then M t k else if q=t then M (t-1) k else M q k)=_
   rw[ag a,ag (by omega)]) d i U (by omega) (by omega)
  grind
def lD(M:MX)(r t:Nat)(f:Rat):MX:=fun q k=>if q=t then M t k-f*M r k else M q k
def mX(M:MX)(r t:Nat):MX:=fun q k=>if q=r then M t k else if q=t then M r k else M q k
def ru(M:MX)(r:Nat)(a:Rat):MX:=fun q k=>if q=r then a*M r k else M q k
theorem Gi{n:Nat}(M:MX){r t:Nat}(f:Rat)(hr:r<n)(ht:t<n)(aE:r≠t):det n (lD M r t f)=det n M:=by
 let Q:MX:=fun q k=>if q=t then M r k else M q k
 have h0:det n Q=0:=by
  rcases Nat.lt_or_gt_of_ne aE with h|h
  .exact IJ (t-(r+1)) Q r t n 0 _ (by omega) (fun k=>by
    show (if r=t then _ else M r k)=(if t=t then M r k else _)
    rw[ag aE,aj rfl]) (by omega) (by omega)
  .exact IJ (r-(t+1)) Q t r n 0 _ (by omega) (fun k=>by
    show (if t=t then M r k else _)=(if r=t then _ else M r k)
    rw[ag aE,aj rfl]) (by omega) (by omega)
 have:=II (n:=n) (M:=lD M r t f) (P:=M) (Q:=Q) (a:=1) (b:=-f) (t:=t) (fun k=>by
  show (if t=t then M t k-f*M r k else _)=1*M t k + -f*(if t=t then M r k else _)
  rw[aj rfl,aj rfl];grind) (fun q k hq=>(ag hq).symm) (fun q k hq=>by
  show (if q=t then _ else M q k)=(if q=t then _ else M q k)
  rw[ag hq,ag hq]) n 0 (fun _=>false) (by omega) (by omega)
 unfold det at *;rw[this,h0];grind
theorem KP{n:Nat}(M:MX){r:Nat}(a:Rat)(hr:r<n):det n (ru M r a)=a*det n M:=by
 have:=II (n:=n) (M:=ru M r a) (P:=M) (Q:=M) (a:=a) (b:=0) (t:=r) (fun k=>by
  show (if r=r then a*M r k else _)=_
  rw[aj rfl];grind) (fun q k hq=>(ag hq).symm) (fun q k hq=>(ag hq).symm) n 0 (fun _=>false) (by omega) (by omega)
 unfold det;rw[this];grind
theorem Gj{n:Nat}{M N:MX}(h:∀r k,r<n->k<n->M r k=N r k):det n M=det n N:=
 BA n 0 _ fun r k _ hr hk=>h r k (by omega) hk
theorem qfC{n:Nat}(M:MX){r t:Nat}(hr:r<n)(ht:t<n)(aE:r≠t):det n (mX M r t)=- det n M:=by
 have e:∀q k,mX M r t q k=ru (lD (lD (lD M r t (-1)) t r 1) r t (-1)) r (-1) q k:=fun q k=>by
  simp only[mX,ru,lD]
  by_cases h1:q=r
  .subst h1;simp only[eC,ag aE,ag aE.symm];grind
  .by_cases h2:q=t
   .subst h2;simp only[eC,ag aE,ag aE.symm];grind
   .simp only[ag h1,ag h2]
 have:det n (mX M r t)=det n (ru (lD (lD (lD M r t (-1)) t r 1) r t (-1)) r (-1)):=Gj fun q k _ _=>e q k;rw[this,KP _ _ hr,Gi _ _ hr ht aE,Gi _ _ ht hr aE.symm,Gi _ _ hr ht aE];grind
theorem R4{n:Nat}{M:MX}{r:Nat}(hr:r<n)(h:∀k,k<n->M r k=0):det n M=0:=by
 have:=KP (n:=n) M (r:=r) 0 hr
 have h2:det n (ru M r 0)=det n M:=Gj fun q k _ hk=>by
  unfold ru
  split
  .rename_i e;subst e;rw[h k hk];grind
  .rfl
 grind
def gG(U:Nat->Bool):Nat->Nat
 | 0=>0
 | n+1=>gG U n+if U n then 1 else 0
theorem RS(U:Nat->Bool):∀n,gG U n<=n
 | 0=>aW _
 | n+1=>by have:=RS U n;rw[gG];split<;>omega
theorem RR{U:Nat->Bool}:∀{n:Nat},gG U n=n->∀c,c<n->U c=true
 | 0,_,c,hc=>by omega
 | n+1,h,c,hc=>by
  rw[gG] at h;have hl:=RS U n
  by_cases hn:U n=true
  .by_cases e:c=n
   .rw[e];exact hn
   .rw[aj hn] at h;exact RR (n:=n) (by omega) c (by omega)
  .rw[ag hn] at h;omega
theorem Gf{U V:Nat->Bool}:∀{n:Nat},(∀j,j<n->U j=V j)->gG U n=gG V n
 | 0,_=>rfl
 | n+1,h=>by rw[gG,gG,Gf fun j hj=>h j (by omega),h n (by omega)]
theorem KL{U:Nat->Bool}{k:Nat}(hk:U k=false):∀{n:Nat},k<n->gG (use U k) n=gG U n+1
 | 0,h=>by omega
 | n+1,h=>by
  rw[gG,gG]
  by_cases e:k=n
  .subst e;rw[N4,hk,Gf (V:=U) fun j hj=>zi (by omega)];simp
  .rw[KL hk (by omega),zi (fun h=>e h.symm)];omega
theorem Ol{n:Nat}{M:MX}{c:Nat}(hc:c<n):∀(d i:Nat) (U:Nat->Bool),U c=false->(∀r,i<=r->r<i+d->M r c=0)->gG U n+d=n->Dt n M d i U=0
 | 0,i,U,hU,h,hn=>by
  have:=RR (show gG U n=n by omega) c hc;rw[hU] at this;cases this
 | d+1,i,U,hU,h,hn=>by
  rw[Dt];refine Ih fun k hk=>?_
  by_cases dO:U k=true
  .rw[aj dO]
  .have uO:U k=false:=by simpa using dO
   rw[ag dO]
   by_cases CV:k=c
   .rw[CV,h i (by omega) (by omega)];grind
   .rw[Ol hc d (i+1) (use U k) (by rw[zi (fun e=>CV e.symm)];exact hU) (fun r h1 h2=>h r (by omega) (by omega)) (by rw[KL uO hk];omega)];grind
def uE(M:MX):Nat->Nat->Rat
 | 0,_=>1
 | d+1,i=>M i i*uE M d (i+1)
theorem Wi{U:Nat->Bool}:∀(d j:Nat),(∀q,j<=q->q<j+d->U q=false)->sQ U d j=1
 | 0,_,_=>rfl
 | d+1,j,h=>by
  rw[sQ,h j (by omega) (by omega),Wi d (j+1) fun q h1 h2=>h q (by omega) (by omega)];simp
def below(i:Nat):Nat->Bool:=fun j=>decide (j<i)
theorem KJ{i:Nat}:∀{n:Nat},i<=n->gG (below i) n=i
 | 0,h=>by rw[gG];omega
 | n+1,h=>by
  rw[gG]
  by_cases e:i=n+1
  .subst e;have:gG (below (n+1)) n=gG (below n) n:=Gf fun j hj=>by simp[below];omega
   rw[this,KJ (aW n)];simp[below]
  .rw[KJ (by omega)];have:below i n=false:=by simp[below];omega
   rw[this];rfl
theorem Om{n:Nat}{M:MX}(h:∀r k,r<n->k<r->M r k=0):∀(d i:Nat),i+d=n->Dt n M d i (below i)=uE M d i
 | 0,_,_=>rfl
 | d+1,i,hi=>by
  have hQ:i<n:=by omega
  have hU:below i i=false:=by simp[below]
  rw[Dt,DX hQ fun k hk aE=>?_,ag (by rw[hU];simp),Wi _ _ fun q h1 h2=>by simp[below];omega]
  .have e:use (below i) i=below (i+1):=by
    funext j;unfold use below
    split
    .rename_i e;subst e;simp
    .rename_i e;apply mI.2;omega
   rw[e,Om h d (i+1) (by omega),uE];grind
  .by_cases dO:below i k=true
   .rw[aj dO]
   .have uO:below i k=false:=by simpa using dO
    rw[ag dO,Ol hQ d (i+1) (use (below i) k) (by rw[zi (fun e=>aE e.symm)];exact hU) (fun r h1 h2=>h r i (by omega) (by omega)) (by rw[KL uO hk,KJ (by omega)];omega)];grind
theorem R5{n:Nat}{M:MX}(h:∀r k,r<n->k<r->M r k=0):det n M=uE M n 0:=by
 have e:(fun _=>false)=below 0:=by funext j;simp[below]
 unfold det;rw[e];exact Om h n 0 (by omega)
end Go.Ab
namespace Go.Ab
def Iz(n c:Nat)(M N:MX):Prop:=∀i k,i<n->k<c->M i k=N i k
inductive RE (n c:Nat) (M:MX):MX->Rat->Prop
 | refl:RE n c M M 1
 | add (N:MX) (s:Rat) (r t:Nat) (f:Rat) (h:RE n c M N s) (hr:r<n) (ht:t<n) (aE:r≠t):RE n c M (lD N r t f) s
 | swp (N:MX) (s:Rat) (r t:Nat) (h:RE n c M N s) (hr:r<n) (ht:t<n) (aE:r≠t):RE n c M (mX N r t) (-s)
 | scl (N:MX) (s:Rat) (r:Nat) (a:Rat) (h:RE n c M N s) (hr:r<n) (ha:a≠0):RE n c M (ru N r a) (a*s)
 | cong (N N':MX) (s:Rat) (h:RE n c M N s) (e:Iz n c N N'):RE n c M N' s
section
variable {n c:Nat} {M N:MX} {s:Rat}
theorem RE.det(h:RE n c M N s)(hc:n<=c):det n N=s*Ab.det n M:=by
 induction h with
 | refl=>grind
 | add N s r t f h hr ht aE ih=>rw[Gi N f hr ht aE,ih]
 | swp N s r t h hr ht aE ih=>rw[qfC N hr ht aE,ih];grind
 | scl N s r a h hr ha ih=>rw[KP N a hr,ih];grind
 | cong N N' s h e ih=>rw[<- ih];exact Gj fun r k hr hk=>(e r k hr (by omega)).symm
theorem RE.ne0(h:RE n c M N s):s≠0:=by
 induction h with
 | refl=>decide
 | add N s r t f h hr ht aE ih=>exact ih
 | swp N s r t h hr ht aE ih=>intro e;apply ih;grind
 | scl N s r a h hr ha ih=>intro e;apply ih;grind
 | cong N N' s h e ih=>exact ih
theorem RE.of_eq{s':Rat}(h:RE n c M N s)(e:s=s'):RE n c M N s':=e▸h
def hE(c:Nat)(M:MX)(x:Nat->Rat)(i:Nat):Rat:=eQ c fun j=>M i j*x j
def FC(n c:Nat)(M:MX)(x:Nat->Rat):Prop:=∀i,i<n->hE c M x i=0
theorem qiZ(a b:Rat)(u v x:Nat->Rat):eQ c (fun j=>(a*u j+b*v j)*x j)=a*eQ c (fun j=>u j*x j)+b*eQ c (fun j=>v j*x j):=by
 rw[<- NS];exact lh fun k _=>by grind
theorem VR(N:MX)(r t:Nat)(f:Rat)(x:Nat->Rat)(i:Nat):hE c (lD N r t f) x i=if i=t then hE c N x t-f*hE c N x r else hE c N x i:=by
 unfold hE lD
 by_cases h:i=t
 .simp only[aj h];have:=qiZ (c:=c) 1 (-f) (N t) (N r) x;rw[lh (g:=fun j=>(1*N t j + -f*N r j)*x j) fun k _=>by grind,this];grind
 .simp only[ag h]
theorem VT(N:MX)(r:Nat)(a:Rat)(x:Nat->Rat)(i:Nat):hE c (ru N r a) x i=if i=r then a*hE c N x r else hE c N x i:=by
 unfold hE ru
 by_cases h:i=r
 .simp only[aj h];rw[<- ze];exact lh fun k _=>by grind
 .simp only[ag h]
theorem HZ(N:MX)(r t:Nat)(x:Nat->Rat)(i:Nat):hE c (mX N r t) x i=if i=r then hE c N x t else if i=t then hE c N x r else hE c N x i:=by
 unfold hE mX
 split
 .rfl
 .split<;>rfl
theorem RE.sys(h:RE n c M N s)(x:Nat->Rat):FC n c N x↔FC n c M x:=by
 induction h with
 | refl=>exact Iff.rfl
 | add N s r t f h hr ht aE ih=>
  rw[<- ih]
  constructor
  .intro hs i hi;have h1:=hs i hi;have h2:=hs r hr;rw[VR] at h1 h2;rw[ag aE] at h2
   by_cases e:i=t
   .rw[aj e] at h1;subst e;grind
   .rw[ag e] at h1;exact h1
  .intro hs i hi;rw[VR]
   split
   .rw[hs t ht,hs r hr];grind
   .exact hs i hi
 | swp N s r t h hr ht aE ih=>
  rw[<- ih]
  constructor
  .intro hs i hi
   by_cases e:i=r
   .have:=hs t ht;rw[HZ,ag aE.symm,aj rfl] at this;rw[e];exact this
   .by_cases e2:i=t
    .have:=hs r hr;rw[HZ,aj rfl] at this;rw[e2];exact this
    .have:=hs i hi;rw[HZ,ag e,ag e2] at this;exact this
  .intro hs i hi;rw[HZ]
   split
   .exact hs t ht
   .split
    .exact hs r hr
    .exact hs i hi
 | scl N s r a h hr ha ih=>
  rw[<- ih]
  constructor
  .intro hs i hi;have h1:=hs i hi;rw[VT] at h1
   by_cases e:i=r
   .rw[aj e] at h1;subst e;grind
   .rw[ag e] at h1;exact h1
  .intro hs i hi;rw[VT]
   split
   .rw[hs r hr];grind
   .exact hs i hi
 | cong N N' s h e ih=>
  rw[<- ih];have:∀i,i<n->hE c N' x i=hE c N x i:=fun i hi=>lh fun k hk=>by rw[e i k hi hk]
  exact ⟨fun hs i hi=>by rw[<- this i hi];exact hs i hi,fun hs i hi=>by rw[this i hi];exact hs i hi⟩
def ir(a m:Nat)(N:MX)(r col:Nat):MX:=fun i j=>if a<=i/\i<m/\i≠r then N i j-N i col/N r col*N r j else N i j
theorem RE.clr(h:RE n c M N s){r col:Nat}(hr:r<n)(a:Nat):∀m,m<=n->RE n c M (ir a m N r col) s
 | 0,_=>by
  have:ir a 0 N r col=N:=by funext i j;exact ag (by omega)
  rw[this];exact h
 | m+1,hm=>by
  have ih:=RE.clr h hr a (col:=col) m (by omega)
  by_cases hc:a<=m/\m≠r
  .have:=RE.add _ _ r m (N m col/N r col) ih hr (by omega) (fun e=>hc.2 e.symm)
   have e:lD (ir a m N r col) r m (N m col/N r col)=ir a (m+1) N r col:=by
    funext i j;unfold lD ir
    by_cases hi:i=m
    .subst hi;rw[aj rfl,ag (by omega),ag (by omega),aj (by omega)]
    .rw[ag hi]
     by_cases h2:a<=i/\i<m/\i≠r
     .rw[aj h2,aj (by omega)]
     .rw[ag h2,ag (by omega)]
   rw[<- e];exact this
  .have e:ir a (m+1) N r col=ir a m N r col:=by
    funext i j;unfold ir
    by_cases h2:a<=i/\i<m/\i≠r
    .rw[aj h2,aj (by omega)]
    .rw[ag h2,ag (by omega)]
   rw[e];exact ih
structure Ech (n:Nat) (N:MX) (r col:Nat) (cs:Nat->Nat):Prop where
 le:r<=n
 lt:∀i,i<r->cs i<col
 mono:∀i j,i<j->j<r->cs i<cs j
 piv:∀i,i<r->N i (cs i)≠0
 lead:∀i,i<r->∀j,j<cs i->N i j=0
 rest:∀i,r<=i->i<n->∀j,j<col->N i j=0
variable {r col:Nat} {cs:Nat->Nat}
theorem qfO(n:Nat)(N:MX)(cs:Nat->Nat):Ech n N 0 0 cs:=⟨jH _,fun i h=>by omega,fun i j _ h=>by omega,fun i h=>by omega,fun i h=>by omega,fun i _ _ j h=>by omega⟩
theorem Ech.skip(E:Ech n N r col cs)(h:∀i,r<=i->i<n->N i col=0):Ech n N r (col+1) cs:=
 ⟨E.le,fun i hi=>by have:=E.lt i hi;omega,E.mono,E.piv,E.lead,fun i h1 h2 j hj=>by
  by_cases e:j=col
  .rw[e];exact h i h1 h2
  .exact E.rest i h1 h2 j (by omega)⟩
theorem Ech.take(E:Ech n N r col cs){N1:MX}(hr:r<n)(h1:∀i j,i<r->j<col->N1 i j=N i j)(h2:∀i j,r<=i->i<n->j<col->N1 i j=0)(h3:N1 r col≠0)(h4:∀i,r<i->i<n->N1 i col=0):Ech n N1 (r+1) (col+1) (fun i=>if i=r then col else cs i):=by
 refine ⟨by omega,fun i hi=>?_,fun i j yl hj=>?_,fun i hi=>?_,fun i hi j hj=>?_,fun i hi hn j hj=>?_⟩
 .split
  .omega
  .have:=E.lt i (by omega);omega
 .by_cases e:j=r
  .rw[ag (by omega),aj e];exact E.lt i (by omega)
  .rw[ag (by omega),ag e];exact E.mono i j yl (by omega)
 .by_cases e:i=r
  .rw[aj e,e];exact h3
  .rw[ag e,h1 i _ (by omega) (E.lt i (by omega))];exact E.piv i (by omega)
 .by_cases e:i=r
  .rw[aj e] at hj;rw[e];exact h2 r j (by omega) hr hj
  .rw[ag e] at hj;have:=E.lt i (by omega);rw[h1 i j (by omega) (by omega)];exact E.lead i (by omega) j hj
 .by_cases e:j=col
  .rw[e];exact h4 i (by omega) hn
  .exact h2 i j (by omega) hn (by omega)
def qG(n c:Nat)(M:MX)(k:Nat):Prop:=∃x:Nat->Rat,x k≠0/\(∀j,k<j->x j=0)/\FC n c M x
theorem RE.dep(h:RE n c M N s)(k:Nat):qG n c N k↔qG n c M k:=
 ⟨fun ⟨x,h1,h2,h3⟩=>⟨x,h1,h2,(h.sys x).1 h3⟩,fun ⟨x,h1,h2,h3⟩=>⟨x,h1,h2,(h.sys x).2 h3⟩⟩
theorem Ech.not_dep(E:Ech n N r col cs)(hc:col<=c){i:Nat}(hi:i<r):¬ qG n c N (cs i):=by
 rintro ⟨x,h1,h2,h3⟩;have aG:=E.lt i hi;have:=h3 i (by have:=E.le;omega);unfold hE at this
 rw[DX (show cs i<c by omega) fun k hk aE=>?_] at this
 .have h4:=E.piv i hi
  grind
 .by_cases pU:k<cs i
  .rw[E.lead i hi k pU];grind
  .rw[h2 k (by omega)];grind
theorem Ech.dep(E:Ech n N r col cs)(hc:col<=c){k:Nat}(hk:k<col)(aE:∀i,i<r->cs i≠k):qG n c N k:=by
 have key:∀d m,m+d=r->∃x:Nat->Rat,x k=1/\(∀j,k<j->x j=0)/\∀i,m<=i->i<n->hE c N x i=0:=by
  intro d
  induction d with
  | zero=>
   intro m hm
   refine ⟨fun j=>if j=k then 1 else 0,aj rfl,fun j hj=>ag (by omega),fun i h1 h2=>?_⟩
   unfold hE;refine Ih fun j hj=>?_
   by_cases e:j=k
   .rw[e,E.rest i (by omega) h2 k hk];grind
   .simp only[ag e];grind
  | succ d ih=>
   intro m hm;obtain ⟨x,h1,h2,h3⟩:=ih (m+1) (by omega);have G2:m<r:=by omega
   have iF:=E.lt m G2;have qx:=aE m G2
   by_cases TC:k<cs m
   .refine ⟨x,h1,h2,fun i hi hn=>?_⟩
    by_cases e:i=m
    .subst e;unfold hE;refine Ih fun j hj=>?_
     by_cases tE:j<cs i
     .rw[E.lead i G2 j tE];grind
     .rw[h2 j (by omega)];grind
    .exact h3 i (by omega) hn
   .have hp:=E.piv m G2
    have tH:∀i,hE c N (fun j=>if j=cs m then x j + -(hE c N x m/N m (cs m)) else x j) i=hE c N x i+N i (cs m) * -(hE c N x m/N m (cs m)):=fun i=>by
     have e1:hE c N (fun j=>if j=cs m then x j + -(hE c N x m/N m (cs m)) else x j) i=eQ c (fun j=>N i j*x j+(if j=cs m then N i j * -(hE c N x m/N m (cs m)) else 0)):=lh fun j _=>by split<;>grind
     rw[e1,Ig,DX (f:=fun j=>if j=cs m then N i j * -(hE c N x m/N m (cs m)) else 0) (show cs m<c by omega) fun j _ hj=>ag hj,aj rfl];rfl
    refine ⟨fun j=>if j=cs m then x j + -(hE c N x m/N m (cs m)) else x j,?_,fun j hj=>?_,fun i hi hn=>?_⟩
    .show (if k=cs m then _ else x k)=1
     rw[ag (fun e=>qx e.symm)];exact h1
    .show (if j=cs m then _ else x j)=0
     rw[ag (by omega)];exact h2 j hj
    .rw[tH i]
     by_cases e:i=m
     .subst e;grind
     .rw[h3 i (by omega) hn]
      have:N i (cs m)=0:=by
       by_cases uN:i<r
       .exact E.lead i uN _ (E.mono m i (by omega) uN)
       .exact E.rest i (by omega) hn _ iF
      rw[this];grind
 obtain ⟨x,h1,h2,h3⟩:=key r 0 (by omega);exact ⟨x,by rw[h1];decide,h2,fun i hi=>h3 i (jH _) hi⟩
open Classical in
noncomputable def mT(n c:Nat)(M:MX)(k:Nat):Bool:=decide (¬ qG n c M k)
theorem Ng{n c:Nat}{M:MX}{k:Nat}(h:¬ qG n c M k):mT n c M k=true:=by unfold mT;simp[h]
theorem Nf{n c:Nat}{M:MX}{k:Nat}(h:qG n c M k):mT n c M k=false:=by unfold mT;simp[h]
structure EC (n c:Nat) (M N:MX) (s:Rat) (r col:Nat) (cs:Nat->Nat):Prop where
 ech:Ech n N r col cs
 re:RE n c M N s
 cnt:gG (mT n c M) col=r
theorem EC.skip(H:EC n c M N s r col cs)(hc:col<c)(h:∀i,r<=i->i<n->N i col=0):EC n c M N s r (col+1) cs:=by
 have E:=H.ech.skip h;refine ⟨E,H.re,?_⟩;have hd:qG n c M col:=(H.re.dep col).1 (E.dep hc (Nat.lt_succ_self _) fun i hi=>by have:=H.ech.lt i hi;omega);rw[gG,H.cnt,Nf hd];rfl
theorem EC.take(H:EC n c M N s r col cs){N1:MX}{s1:Rat}(hc:col<c)(hr:r<n)(h:RE n c M N1 s1)(h1:∀i j,i<r->j<col->N1 i j=N i j)(h2:∀i j,r<=i->i<n->j<col->N1 i j=0)(h3:N1 r col≠0)(h4:∀i,r<i->i<n->N1 i col=0):EC n c M N1 s1 (r+1) (col+1) (fun i=>if i=r then col else cs i):=by
 have E:=H.ech.take hr h1 h2 h3 h4;refine ⟨E,h,?_⟩
 have hd:¬ qG n c M col:=fun hh=>by
  have:=E.not_dep hc (i:=r) (by omega);simp only[eC] at this;exact this ((h.dep col).2 hh)
 rw[gG,H.cnt,Ng hd];rfl
theorem EC.full(H:EC n c M N s n col cs):∀d,col+d<=c->EC n c M N s n (col+d) cs
 | 0,_=>H
 | d+1,h=>(EC.full H d (by omega)).skip (by omega) fun i h1 h2=>by omega
theorem Gv(n c:Nat)(M:MX)(cs:Nat->Nat):EC n c M M 1 0 0 cs:=⟨qfO n M cs,.refl,rfl⟩
theorem Ech.id(E:Ech n N n n cs):∀i,i<n->cs i=i:=by
 have lo:∀i,i<n->i<=cs i:=by
  intro i
  induction i with
  | zero=>intro _;omega
  | succ i ih=>intro hi;have:=ih (by omega);have:=E.mono i (i+1) (by omega) hi;omega
 have hi:∀d i,i+d+1=n->cs i<=i:=by
  intro d
  induction d with
  | zero=>intro i h;have:=E.lt i (by omega);omega
  | succ d ih=>intro i h;have:=ih (i+1) (by omega);have:=E.mono i (i+1) (by omega) (by omega);omega
 intro i h;have:=lo i h;have:=hi (n-i-1) i (by omega);omega
theorem Ech.tri(E:Ech n N n n cs):∀i k,i<n->k<i->N i k=0:=fun i k hi hk=>E.lead i hi k (by rw[E.id i hi];exact hk)
end
end Go.Ab
namespace Go.Ab
structure Red (n:Nat) (M N:MX) (s:Rat) (r col:Nat) (cs:Nat->Nat):Prop where
 ech:Ech n N r col cs
 re:RE n n M N s
 red:∀i,i<r->∀j,j<n->j≠i->N j (cs i)=0
theorem Ac{a m:Nat}{N:MX}{r col:Nat}{j:Nat}:ir a m N r col r j=N r j:=ag (by omega)
theorem qfh{a m:Nat}{N:MX}{r col:Nat}{i j:Nat}(h:a<=i/\i<m/\i≠r):ir a m N r col i j=N i j-N i col/N r col*N r j:=aj h
theorem Aa{a m:Nat}{N:MX}{r col:Nat}{i j:Nat}(h:¬ (a<=i/\i<m/\i≠r)):ir a m N r col i j=N i j:=ag h
theorem Gd{a m:Nat}{N:MX}{r col:Nat}{i j:Nat}(h:N r j=0):ir a m N r col i j=N i j:=by
 unfold ir;split
 .rw[h];grind
 .rfl
theorem RM{a m:Nat}{N:MX}{r col:Nat}{i:Nat}(hp:N r col≠0)(h:a<=i/\i<m/\i≠r):ir a m N r col i col=0:=by
 rw[qfh h];grind
def yJ(n:Nat)(A B:MX):MX:=fun i k=>eQ n fun j=>A i j*B j k
def p8:MX:=fun i j=>if i=j then 1 else 0
section
variable {n:Nat} {M N:MX} {s:Rat}
theorem RE.mul(h:RE n n M N s)(B:MX):RE n n (yJ n M B) (yJ n N B) s:=by
 induction h with
 | refl=>exact .refl
 | add N s r t f h hr ht aE ih=>
  refine .cong _ _ _ (.add _ s r t f ih hr ht aE) fun i k hi hk=>?_;unfold lD yJ
  by_cases e:i=t
  .simp only[aj e];have:=NS 1 (-f) (fun j=>N t j*B j k) (fun j=>N r j*B j k) n;rw[lh (f:=fun j=>(N t j-f*N r j)*B j k) (g:=fun j=>1*(N t j*B j k) + -f*(N r j*B j k)) fun j _=>by grind,this];grind
  .simp only[ag e]
 | swp N s r t h hr ht aE ih=>
  refine .cong _ _ _ (.swp _ s r t ih hr ht aE) fun i k hi hk=>?_;unfold mX yJ
  by_cases a:i=r
  .simp only[aj a]
  .by_cases b:i=t
   .simp only[ag a,aj b]
   .simp only[ag a,ag b]
 | scl N s r a h hr ha ih=>
  refine .cong _ _ _ (.scl _ s r a ih hr ha) fun i k hi hk=>?_;unfold ru yJ
  by_cases e:i=r
  .simp only[aj e];rw[<- ze];exact lh fun j _=>by grind
  .simp only[ag e]
 | cong N N' s h e ih=>
  refine .cong _ _ _ ih fun i k hi hk=>lh fun j hj=>by rw[e i j hi hj]
theorem qfB(n:Nat):det n p8=1:=by
 rw[R5 (M:=p8) fun r k _ hk=>ag (by omega)]
 have:∀d i,uE p8 d i=1:=by
  intro d
  induction d with
  | zero=>intro i;rfl
  | succ d ih=>intro i;rw[uE,ih,p8,aj rfl];grind
 exact this n 0
end
end Go.Ab
namespace Go.Ab
theorem WO(n b:Nat)(f:Nat->Rat):eQ (n+b) f=eQ n f+eQ b fun q=>f (n+q):=by
 induction b with
 | zero=>simp only[eQ,jo];grind
 | succ b ih=>rw[<- my,eQ,ih,eQ];grind
def Cq(n:Nat)(X:MX)(k:Nat):Nat->Rat:=fun j=>if j<n then X j k else if j=n+k then -1 else 0
theorem VS{n b:Nat}(M X:MX){k:Nat}(hk:k<b)(i:Nat):hE (n+b) M (Cq n X k) i=eQ n (fun j=>M i j*X j k)-M i (n+k):=by
 unfold hE
 rw[WO,lh (n:=n) (g:=fun j=>M i j*X j k) fun j hj=>by unfold Cq;rw[aj hj],
  DX (n:=b) hk fun q _ hq=>by unfold Cq;rw[ag (by omega),ag (by omega)];grind]
 unfold Cq;rw[ag (by omega),aj rfl];grind
def uv(n b:Nat)(M X:MX):Prop:=∀i k,i<n->k<b->eQ n (fun j=>M i j*X j k)=M i (n+k)
theorem Wv{n b:Nat}{M X:MX}:uv n b M X↔∀k,k<b->FC n (n+b) M (Cq n X k):=by
 constructor
 .intro h k hk i hi;rw[VS M X hk,h i k hi hk];grind
 .intro h i k hi hk;have:=h k hk i hi;rw[VS M X hk] at this;grind
theorem RE.sol{n b:Nat}{M N X:MX}{s:Rat}(h:RE n (n+b) M N s):uv n b N X↔uv n b M X:=by
 rw[Wv,Wv];exact ⟨fun hs k hk=>(h.sys _).1 (hs k hk),fun hs k hk=>(h.sys _).2 (hs k hk)⟩
def Bz(n:Nat)(N:MX):Prop:=(∀i,i<n->N i i≠0)/\∀i j,i<n->j<n->i≠j->N i j=0
theorem qjw{n b:Nat}{N X:MX}(h:Bz n N):uv n b N X↔∀i k,i<n->k<b->X i k=N i (n+k)/N i i:=by
 have e:∀i k,i<n->eQ n (fun j=>N i j*X j k)=N i i*X i k:=fun i k hi=>
  DX hi fun j hj aE=>by rw[h.2 i j hi hj (fun e=>aE e.symm)];grind
 constructor
 .intro hs i k hi hk;have:=hs i k hi hk;rw[e i k hi] at this;have:=h.1 i hi
  grind
 .intro hs i k hi hk;rw[e i k hi,hs i k hi hk];have:=h.1 i hi
  grind
theorem Wu{n b:Nat}{M N:MX}{s:Rat}(h:RE n (n+b) M N s)(hd:Bz n N)(X:MX):uv n b M X↔∀i k,i<n->k<b->X i k=N i (n+k)/N i i:=
 h.sol.symm.trans (qjw hd)
theorem RY{n c:Nat}{M A:MX}(hc:n<=c)(h:∀i j,i<n->j<n->M i j=A i j){k:Nat}(hk:k<n):qG n c M k↔qG n n A k:=by
 have e:∀x:Nat->Rat,(∀j,k<j->x j=0)->∀i,i<n->hE c M x i=hE n A x i:=fun x hx i hi=>by
  obtain ⟨b,rfl⟩:=Nat.exists_eq_add_of_le hc;unfold hE;rw[WO,lh (n:=n) (g:=fun j=>A i j*x j) fun j hj=>by rw[h i j hi hj],Ih (n:=b) fun q _=>by rw[hx (n+q) (by omega)];grind]
  grind
 exact ⟨fun ⟨x,h1,h2,h3⟩=>⟨x,h1,h2,fun i hi=>by rw[<- e x h2 i hi];exact h3 i hi⟩,fun ⟨x,h1,h2,h3⟩=>⟨x,h1,h2,fun i hi=>by rw[e x h2 i hi];exact h3 i hi⟩⟩
theorem VF{n c:Nat}{M A:MX}(hc:n<=c)(h:∀i j,i<n->j<n->M i j=A i j):gG (mT n c M) n=gG (mT n n A) n:=
 Gf fun k hk=>by
  by_cases hd:qG n n A k
  .rw[Nf hd,Nf ((RY hc h hk).2 hd)]
  .rw[Ng hd,Ng fun hh=>hd ((RY hc h hk).1 hh)]
end Go.Ab
namespace Go.Ab
open Go.Proofs.Try
abbrev aM(rows cols:Int)(nm L:Nat):AV:=.agg [.int .i64 rows,.int .i64 cols,.arr nm 0 L (some 3)]
theorem F6(m:ae)(rows cols:Int)(nm L:Nat):ef none (some 3) m (aM rows cols nm L)=some (.ptr m.length 0,m++[cB rows cols nm L]):=rfl
section
variable {m:ae} {b:Nat} {rows cols:Int} {nm L:Nat}
theorem zZ(h:m[b]?=some (cB rows cols nm L)):ai none m (.ptr b 0)=some (.int .i64 rows):=by simp[ai,jc h,jU]
theorem pM(h:m[b]?=some (cB rows cols nm L)):ai none m (.ptr b 1)=some (.int .i64 cols):=by simp[ai,jc h,jU]
theorem rV(h:m[b]?=some (cB rows cols nm L)):ai none m (.ptr b 2)=some (.arr nm 0 L (some 3)):=by simp[ai,jc h,jU]
theorem vQ(h:m[b]?=some (cB rows cols nm L)):ai (some 3) m (.ptr b 0)=some (aM rows cols nm L):=by simp[ai,jc h,jU]
end
theorem sA(nm:Nat)(m e:ae):Kn nm m (m++e):=(Kp.app m e).kn nm
theorem My{nm:Nat}{m m':ae}(h:Kn nm m m')(e:Option Ent):Kn nm m (m'.set nm e):=⟨by rw[eB];exact h.1,fun p bx cs hp hh=>by
 rw[dM (fun e=>hp e.symm)];exact h.2 p bx cs hp hh⟩
theorem wI(nm:Nat)(m:ae):Kn nm m m:=(Kp.refl m).kn nm
theorem Kn.cB{nm b:Nat}{m m':ae}{rows cols:Int}{n2 L:Nat}(h:Kn nm m m')(hb:m[b]?=some (cB rows cols n2 L))(aE:b≠nm):m'[b]?=some (Ab.cB rows cols n2 L):=h.2 b _ _ aE hb
theorem l7{m e:ae}{b:Nat}{x:Option Ent}(h:m[b]?=some x):(m++e)[b]?=some x:=by
 rw[er];exact h;exact (dX.1 h).1
theorem jO{m:ae}{nm:Nat}{x:Option Ent}(h:nm<m.length):(m.set nm x)[nm]?=some x:=by rw[jF h]
theorem Nl{r:RV}(h:r.num.ds.length=0):r.q=0:=by
 have:r.num.v=0:=by
  have h2:r.num.ds=[]:=List.length_eq_zero_iff.1 h;unfold NV.v;rw[h2];rfl
 rw[RV.q,this,HO]
theorem Can.nz{r:RV}{q:Rat}(h:Can r q)(hl:r.num.ds.length≠0):q≠0:=fun e=>hl (by rw[h.num,e];exact fE List.length jK)
structure WM (m:ae) (nm:Nat) (es:List RV) (n c:Nat) (kf:Nat->Nat) (N:MX):Prop where
 hm:m[nm]?=some (cA es)
 len:es.length=n*c
 fr:∀r∈es,r.fr=r
 can:∀i j,i<n->j<c->∀h:i*c+j<es.length,Can es[i*c+j] (N i j)
 bd:∀i j,i<n->j<c->Bd (kf i) (N i j)
section
variable {m:ae} {nm:Nat} {es:List RV} {n c k:Nat} {kf:Nat->Nat} {N:MX}
theorem WM.at(h:WM m nm es n c kf N){i j:Nat}(hi:i<n)(hj:j<c):i*c+j<es.length:=by rw[h.len];exact kB hi hj
theorem WM.mono(h:WM m nm es n c kf N){kg:Nat->Nat}(hk:∀i,i<n->kf i<=kg i):WM m nm es n c kg N:=⟨h.hm,h.len,h.fr,h.can,fun i j hi hj=>(h.bd i j hi hj).mono (hk i hi)⟩
theorem WM.congr(h:WM m nm es n c kf N){N':MX}(e:Iz n c N N'):WM m nm es n c kf N':=
 ⟨h.hm,h.len,h.fr,fun i j hi hj hh=>by rw[<- e i j hi hj];exact h.can i j hi hj hh,fun i j hi hj=>by rw[<- e i j hi hj];exact h.bd i j hi hj⟩
theorem KF{i j i' j' c:Nat}(hj:j<c)(gg:j'<c)(e:i*c+j=i'*c+j'):i=i'/\j=j':=by
 have h1:=AZ (i:=i) hj;have h2:=AZ (i:=i') gg;rw[e,h2.1,h2.2] at h1;exact ⟨h1.1.symm,h1.2.symm⟩
structure CL (es0 es:List RV) (n c k t j:Nat) (N:MX) (u:Nat->Rat):Prop where
 len:es.length=n*c
 old:∀p (h:p<es.length) (h0:p<es0.length),¬ (t*c<=p/\p<t*c+j)->es[p]=es0[p]
 new:∀q,q<j->∀h:t*c+q<es.length,Can es[t*c+q] (u q)/\es[t*c+q].fr=es[t*c+q]
 bd:∀q,q<c->Bd k (u q)
theorem qcI(hn:n<=60)(hc:c<=60){es0:List RV}{m0:ae}(W0:WM m0 nm es0 n c kf N){r t:Nat}(hr:r<n)(ht:t<n)(uV:r≠t)(sk:kf r<=k)(wv:kf t<=k)(bu:1<=k)(hk:4*k+1<2^36){f:RV}{fq:Rat}(hf:Can f fq)(hff:f.fr=f)(Th:Bd (k+k) fq){b bf:Nat}(pg:b≠nm)(hbf:bf≠nm)(K:KT):∀(d j:Nat) (m:ae) (es:List RV),j+d=c->m[nm]?=some (cA es)->m[b]?=some (cB n c nm (n*c))->m[bf]?=some (cR f)->CL es0 es n c (4*k+1) t j N (fun q=>N t q-fq*N r q) ->
  ∃(m':ae) (es':List RV),xp (.int .i64 r) (.int .i64 t) (.ptr b 0) (.ptr bf 0) (.int .i64 c) (.int .i64 j) m K=K (.exit 0) (JG m')/\m'[nm]?=some (cA es')/\CL es0 es' n c (4*k+1) t c N (fun q=>N t q-fq*N r q)/\Kn nm m m':=by
 intro d
 induction d with
 | zero=>
  intro j m es hj hm hb Ti C;obtain rfl:j=c:=by omega
  refine ⟨m,es,?_,hm,C,wI _ _⟩;rw[PA,bR,aa,aw,ag (by omega)]
 | succ d ih=>
  intro j m es hj hm hb Ti C;have lN:j<c:=by omega
  obtain ⟨a1,a2⟩:=qR (i:=r) (c:=c) (j:=j) (by omega) hc (by omega);obtain ⟨b1,b2⟩:=qR (i:=t) (c:=c) (j:=j) (by omega) hc (by omega);have p1:r*c+j<n*c:=kB hr lN;have p2:t*c+j<n*c:=kB ht lN;have p1':r*c+j<es.length:=by rw[C.len];exact p1
  have p2':t*c+j<es.length:=by rw[C.len];exact p2
  have p10:r*c+j<es0.length:=by rw[W0.len];exact p1
  have p20:t*c+j<es0.length:=by rw[W0.len];exact p2
  have tH:¬ (t*c<=r*c+j/\r*c+j<t*c+j):=fun h=>by
   rcases Nat.lt_or_gt_of_ne uV with h3|h3
   .have:=fW c (show r+1<=t by omega);rw[fI,nH] at this;omega
   .have:=fW c (show t+1<=r by omega);rw[fI,nH] at this;omega
  have ex:es[r*c+j]=es0[r*c+j]:=C.old _ p1' p10 tH;have ey:es[t*c+j]=es0[t*c+j]:=C.old _ p2' p20 (by omega);have cx:=W0.can r j hr lN p10;have cy:=W0.can t j ht lN p20;have fx:=W0.fr _ (fH p10);have fy:=W0.fr _ (fH p20);have bx:=(W0.bd r j hr lN).mono sk;have by':=(W0.bd t j ht lN).mono wv;rw[<- ex] at cx fx;rw[<- ey] at cy fy;have nmlt:nm<m.length:=(dX.1 hm).1;have AB:(m++[cR es[r*c+j]])[nm]?=some (cA es):=l7 hm;have tz:(m++[cR es[r*c+j]])[b]?=some (cB n c nm (n*c)):=l7 hb;have LF:(m++[cR es[r*c+j]])[bf]?=some (cR f):=l7 Ti;have e0:xp (.int .i64 r) (.int .i64 t) (.ptr b 0) (.ptr bf 0) (.int .i64 c) (.int .i64 j) m K=_:=PA _ _ _ _ _ _ _ _;rw[bR,aa,aw,aj lN,bE,aa,rV hb,aa,ba,aa,pM hb,aa,a1,aa,a2,aa,vP p1,aa,uy hm p1',aa] at e0;rw[show (ak none m (Ent.obj true [(.bool false),(.lst none true .full []),(.lst none true .full [])])).2=m++[cR zR] from rfl,show (ak none m Ent.resv).1=m.length from rfl,wX,aa,ba,aa,HV bX,aa,fk,aa,SM,aa,aw] at e0
  have mv:∀(es':List RV) (z:RV),Can z (N t j-fq*N r j)->z.fr=z->es'=es.set (t*c+j) z->CL es0 es' n c (4*k+1) t (j+1) N (fun q=>N t q-fq*N r q):=fun es' z hz hzf he=>by
   subst he
   refine ⟨by rw[eB];exact C.len,fun p h h0 hp=>?_,fun q hq h=>?_,C.bd⟩
   .rw[List.getElem_set_ne (by omega)];exact C.old p (by simpa using h) h0 (by omega)
   .by_cases C3:q=j
    .subst C3;rw[List.getElem_set_self];exact ⟨hz,hzf⟩
    .rw[List.getElem_set_ne (by omega)];exact C.new q (by omega) (by simpa using h)
  by_cases hx0:es[r*c+j].num.ds.length>0
  .have ox:=cx.ok bx (by omega);have oy:=cy.ok by' (by omega);have of:=hf.ok Th (by omega);obtain ⟨pr,t1,t2,t3⟩:=QY of (ox.mono (show k<=k+k by omega)) (by omega) (by omega);rw[hf.q,cx.q] at t2;have opr:=t2.ok (zp Th bx (by omega)) (by omega);obtain ⟨u,u1,u2,u3⟩:=qcp (k:=k+k+k) (oy.mono (by omega)) opr (by omega) (by omega);rw[cy.q,t2.q] at u2;have C':=mv _ u u2 u3 rfl;obtain ⟨m',es',e,h1,h2,h3⟩:=ih (j+1) ((m++[cR es[r*c+j]]).set nm (cA (es.set (t*c+j) u))) (es.set (t*c+j) u) (by omega) (jO (by simp;omega)) (by rw[dM (fun e=>pg e.symm)];exact tz) (by rw[dM (fun e=>hbf e.symm)];exact LF) C';refine ⟨m',es',?_,h1,h2,Kn.trans (My (sA _ _ _) _) h3⟩;rw[e0,aj hx0,aa,rV tz,aa,aa,pM tz,aa,b1,aa,b2,aa,aa,rV tz,aa,aa,pM tz,aa,b1,aa,b2,aa,vP p2,aa,uy AB p2',aa,je LF,aa,je bX,aa,bU,hff,fx,t1,ar,aa];dsimp only;rw[bU,fy,t3,u1,ar,aa];dsimp only;rw[aa,F4 AB p2' u3,aa,eF (by omega),aa];exact e
  .have wD:=Nl (r:=es[r*c+j]) (by omega);rw[cx.q] at wD;have C':CL es0 es n c (4*k+1) t (j+1) N (fun q=>N t q-fq*N r q):=mv es es[t*c+j] (by rw[wD,show N t j-fq*0=N t j by grind];exact cy) fy (by rw[List.set_getElem_self]);obtain ⟨m',es',e,h1,h2,h3⟩:=ih (j+1) (m++[cR es[r*c+j]]) es (by omega) AB tz LF C';refine ⟨m',es',?_,h1,h2,Kn.trans (sA _ _ _) h3⟩;rw[e0,ag hx0,eF (by omega),aa];exact e
theorem Oh(hn:n<=60)(hc:c<=60)(W:WM m nm es n c kf N){r t col:Nat}(hr:r<n)(ht:t<n)(uV:r≠t)(jV:col<c)(hp:N r col≠0)(sk:kf r<=k)(wv:kf t<=k)(bu:1<=k)(hk:4*k+1<2^36) :
  ∃(m':ae) (es':List RV),AC ab 117 [aM n c nm (n*c),.int .i64 r,.int .i64 t,.int .i64 col] m=some (.tup [],m')/\WM m' nm es' n c (fun i=>if i=t then 4*k+1 else kf i) (lD N r t (N t col/N r col))/\Kn nm m m':=by
 obtain ⟨a1,a2⟩:=qR (i:=r) (c:=c) (j:=col) (by omega) hc (by omega);obtain ⟨b1,b2⟩:=qR (i:=t) (c:=c) (j:=col) (by omega) hc (by omega);have p1:r*c+col<n*c:=kB hr jV;have p2:t*c+col<n*c:=kB ht jV;have p1':=W.at hr jV;have p2':=W.at ht jV;have cx:=W.can r col hr jV p1';have cy:=W.can t col ht jV p2';have fx:=W.fr _ (fH p1');have fy:=W.fr _ (fH p2');have br:=fun q hq=>(W.bd r q hr hq).mono sk;have bt:=fun q hq=>(W.bd t q ht hq).mono wv;have ox:=cx.ok (br col jV) (by omega);have oy:=cy.ok (bt col jV) (by omega);obtain ⟨f,f1,f2,f3⟩:=QH oy ox bu (by omega) (by rw[cx.q];exact hp);rw[cx.q,cy.q] at f2;have fb:Bd (k+k) (N t col/N r col):=IC (bt col jV) (br col jV) bu hp
 have bdu:∀q,q<c->Bd (4*k+1) (N t q-N t col/N r col*N r q):=fun q hq=>
  (Of (bt q hq) (zp fb (br q hq) (by omega)) bu).mono (by omega)
 have nmlt:nm<m.length:=(dX.1 W.hm).1;have gI:(m++[cB n c nm (n*c)]++[some Ent.resv])[m.length]?=some (cB n c nm (n*c)):=l7 bX;have kK:(m++[cB n c nm (n*c)]++[some Ent.resv])[nm]?=some (cA es):=l7 (l7 W.hm);have ng:(m++[cB n c nm (n*c)]++[cR f])[m.length]?=some (cB n c nm (n*c)):=l7 bX;have eL:(m++[cB n c nm (n*c)]++[cR f])[nm]?=some (cA es):=l7 (l7 W.hm);have hf2:(m++[cB n c nm (n*c)]++[cR f])[(m++[cB n c nm (n*c)]).length]?=some (cR f):=bX
 have nw:∀e:Ent,ak (some (m++[cB n c nm (n*c)]).length) (m++[cB n c nm (n*c)]++[some Ent.resv]) e=((m++[cB n c nm (n*c)]).length,m++[cB n c nm (n*c)]++[some e]):=fun e=>by
  show ((m++[cB n c nm (n*c)]).length,(m++[cB n c nm (n*c)]++[some Ent.resv]).set (m++[cB n c nm (n*c)]).length (some e))=_;rw[qK _ _ (aW _),oE];rfl
 have e0:=qbU (aM n c nm (n*c)) (.int .i64 r) (.int .i64 t) (.int .i64 col) m;rw[F6,aa] at e0;dsimp only at e0;rw[b6,bE,aa,rV gI,aa,ba,aa,pM gI,aa,b1,aa,b2,aa,vP p2,aa,uy kK p2',aa,aa,rV gI,aa,aa,pM gI,aa,a1,aa,a2,aa,vP p1,aa,uy kK p1',aa,bU,fx,fy,f1,ar,aa,bY,aa,bZ,aa] at e0;dsimp only at e0;rw[nw,nw] at e0;dsimp only at e0;rw[show some (Ent.obj true [(.bool false),(.lst none true .full []),(.lst none true .full [])])=cR zR from rfl,wX,aa,ba,aa,HV bX,aa,fk,aa,iY,aa,aw] at e0
 by_cases uJ:f.num.ds.length=0
 .rw[aj (by omega)] at e0;have wD:=Nl uJ;rw[f2.q] at wD;refine ⟨_,es,e0,?_,(sA _ _ _).trans (sA _ _ _)⟩
  refine WM.congr (N:=N) ⟨eL,W.len,W.fr,W.can,fun i j hi hj=>(W.bd i j hi hj).mono (by split<;>rename_i h<;>first|(rw[h];omega)|exact aW _)⟩ fun i j _ _=>?_
  unfold lD
  split
  .rename_i e;rw[wD,e];grind
  .rfl
 .rw[ag (by omega),aa,pM ng,aa] at e0;obtain ⟨m',es',e,h1,h2,h3⟩:=qcI hn hc W hr ht uV sk wv bu hk f2 f3 fb (b:=m.length) (bf:=(m++[cB n c nm (n*c)]).length) (by omega) (by simp;omega) (Ez (aN ab.P f117.results.toList)) c 0 _ es (by omega) eL ng hf2 ⟨W.len,fun p h h0 _=>rfl,fun q hq=>by omega,bdu⟩
  refine ⟨m',es',?_,?_,Kn.trans ((sA _ _ _).trans (sA _ _ _)) h3⟩
  .have e:xp (.int .i64 r) (.int .i64 t) (.ptr m.length 0) (.ptr (m++[cB n c nm (n*c)]).length 0) (.int .i64 c) (.int .i64 0) (m++[cB n c nm (n*c)]++[cR f]) (Ez (aN ab.P f117.results.toList))=_:=e;rw[e0,e,YR]
  .have cell:∀i j,i<n->j<c->∀h:i*c+j<es'.length,Can es'[i*c+j] (lD N r t (N t col/N r col) i j)/\es'[i*c+j].fr=es'[i*c+j]:=fun i j hi hj h=>by
    unfold lD
    by_cases pT:i=t
    .subst pT;rw[aj rfl];exact h2.new j hj h
    .rw[ag pT];have h0:=W.at hi hj
     have:es'[i*c+j]=es[i*c+j]:=h2.old _ h h0 fun hh=>by
      rcases Nat.lt_or_gt_of_ne pT with h3|h3
      .have:=fW c (show i+1<=t by omega);rw[fI,nH] at this;omega
      .have:=fW c (show t+1<=i by omega);rw[fI,nH] at this;omega
     rw[this];exact ⟨W.can i j hi hj h0,W.fr _ (fH h0)⟩
   refine ⟨h1,h2.len,fun x hx=>?_,fun i j hi hj h=>(cell i j hi hj h).1,fun i j hi hj=>?_⟩
   .obtain ⟨p,tG,rfl⟩:=uj hx;have kN:p<n*c:=by rw[<- h2.len];exact tG
    have kF:0<c:=by omega
    have e1:p=p/c*c+p%c:=by rw[en];exact (rO p c).symm
    have hi:p/c<n:=Nat.div_lt_of_lt_mul (by rw[en];exact kN);have:=(cell (p/c) (p%c) hi (jx _ kF) (by rw[<- e1];exact tG)).2;simpa only[<- e1] using this
   .unfold lD
    split
    .rename_i e;exact bdu j hj
    .exact W.bd i j hi hj
end
end Go.Ab
namespace Go.Ab
open Go.Proofs.Try
section
variable {m:ae} {nm:Nat} {es:List RV} {n c k:Nat} {kf:Nat->Nat} {N:MX}
theorem NA{r t c j q:Nat}(h:r≠t)(hj:j<c)(hq:q<c):r*c+j≠t*c+q:=fun e=>h (KF hj hq e).1
structure SW (es0 es:List RV) (n c r t j:Nat):Prop where
 len:es.length=n*c
 old:∀i q,q<c->(i≠r/\i≠t\/j<=q)->∀(h:i*c+q<es.length) (h0:i*c+q<es0.length),es[i*c+q]=es0[i*c+q]
 sr:∀q,q<j->∀(h:r*c+q<es.length) (h0:t*c+q<es0.length),es[r*c+q]=es0[t*c+q]
 st:∀q,q<j->∀(h:t*c+q<es.length) (h0:r*c+q<es0.length),es[t*c+q]=es0[r*c+q]
theorem UX{b nm o p:Nat}(h:b≠nm):yN (.ptr b o) (.ptr nm p)=true:=by simp[yN,h]
theorem qcH(hn:n<=60)(hc:c<=60){es0:List RV}(uP:es0.length=n*c)(Tj:∀r∈es0,r.fr=r){r t:Nat}(hr:r<n)(ht:t<n)(uV:r≠t){b:Nat}(pg:b≠nm)(K:KT):∀(d j:Nat) (m:ae) (es:List RV),j+d=c->m[nm]?=some (cA es)->m[b]?=some (cB n c nm (n*c))->SW es0 es n c r t j ->
  ∃(m':ae) (es':List RV),BK (.int .i64 r) (.int .i64 t) (.ptr b 0) (.int .i64 c) (.int .i64 j) m K=K (.exit 0) (JF m')/\m'[nm]?=some (cA es')/\SW es0 es' n c r t c/\Kn nm m m':=by
 intro d
 induction d with
 | zero=>
  intro j m es hj hm hb C;obtain rfl:j=c:=by omega
  refine ⟨m,es,?_,hm,C,wI _ _⟩;rw[Pz,bR,aa,aw,ag (by omega)]
 | succ d ih=>
  intro j m es hj hm hb C;have lN:j<c:=by omega
  obtain ⟨a1,a2⟩:=qR (i:=r) (c:=c) (j:=j) (by omega) hc (by omega);obtain ⟨b1,b2⟩:=qR (i:=t) (c:=c) (j:=j) (by omega) hc (by omega);have p1:r*c+j<n*c:=kB hr lN;have p2:t*c+j<n*c:=kB ht lN;have p1':r*c+j<es.length:=by rw[C.len];exact p1
  have p2':t*c+j<es.length:=by rw[C.len];exact p2
  have p10:r*c+j<es0.length:=by rw[uP];exact p1
  have p20:t*c+j<es0.length:=by rw[uP];exact p2
  have ex:es[r*c+j]=es0[r*c+j]:=C.old r j lN (.inr (aW _)) p1' p10;have ey:es[t*c+j]=es0[t*c+j]:=C.old t j lN (.inr (aW _)) p2' p20;have fx:=Tj _ (fH p10);have fy:=Tj _ (fH p20);rw[<- ex] at fx;rw[<- ey] at fy;have nmlt:nm<m.length:=(dX.1 hm).1;have kK:(m.set nm (cA (es.set (r*c+j) es[t*c+j])))[nm]?=some (cA (es.set (r*c+j) es[t*c+j])):=jO nmlt;have aE:=NA uV lN lN
  have C':SW es0 ((es.set (r*c+j) es[t*c+j]).set (t*c+j) es[r*c+j]) n c r t (j+1):=by
   refine ⟨by rw[eB,eB];exact C.len,fun i q hq hh h h0=>?_,fun q hq h h0=>?_,fun q hq h h0=>?_⟩
   .have e1:t*c+j≠i*c+q:=fun e=>by
     obtain ⟨u,v⟩:=KF lN hq e
     rcases hh with hh|hh<;>omega
    have e2:r*c+j≠i*c+q:=fun e=>by
     obtain ⟨u,v⟩:=KF lN hq e
     rcases hh with hh|hh<;>omega
    rw[List.getElem_set_ne e1,List.getElem_set_ne e2];refine C.old i q hq ?_ (by simpa using h) h0
    rcases hh with hh|hh
    .exact .inl hh
    .exact .inr (by omega)
   .rw[List.getElem_set_ne (fun e=>NA uV (by omega) lN e.symm)]
    by_cases C3:q=j
    .subst C3;rw[List.getElem_set_self];exact ey
    .rw[List.getElem_set_ne (by omega)];exact C.sr q (by omega) (by simpa using h) h0
   .by_cases C3:q=j
    .subst C3;rw[List.getElem_set_self];exact ex
    .rw[List.getElem_set_ne (by omega),List.getElem_set_ne (NA uV lN (by omega))];exact C.st q (by omega) (by simpa using h) h0
  obtain ⟨m',es',e,h1,h2,h3⟩:=ih (j+1) ((m.set nm (cA (es.set (r*c+j) es[t*c+j]))).set nm (cA ((es.set (r*c+j) es[t*c+j]).set (t*c+j) es[r*c+j]))) _ (by omega) (jO (by simpa using nmlt)) (by rw[dM (fun e=>pg e.symm),dM (fun e=>pg e.symm)];exact hb) C';refine ⟨m',es',?_,h1,h2,Kn.trans (My (My (wI _ _) _) _) h3⟩;rw[Pz,bR,aa,aw,aj lN,bE,aa,rV hb,aa,ba,aa,pM hb,aa,a1,aa,a2,aa,aa,rV hb,aa,aa,pM hb,aa,b1,aa,b2,aa,aa,rV hb,aa,aa,pM hb,aa,b1,aa,b2,aa,vP p2,aa,uy hm p2',aa,aa,rV hb,aa,aa,pM hb,aa,a1,aa,a2,aa,vP p1,aa,uy hm p1',aa,aa,F4 hm p1' fy,aa,aa,F4 kK (by rw[eB];exact p2') fx,aa,UX pg,UX pg];simp only[Mt];rw[eF (by omega),aa];exact e
theorem XD(hn:n<=60)(hc:c<=60)(W:WM m nm es n c kf N){r t:Nat}(hr:r<n)(ht:t<n)(uV:r≠t) :
  ∃(m':ae) (es':List RV),AC ab 116 [aM n c nm (n*c),.int .i64 r,.int .i64 t] m=some (.tup [],m')/\WM m' nm es' n c (fun i=>if i=r then kf t else if i=t then kf r else kf i) (mX N r t)/\Kn nm m m':=by
 have nmlt:nm<m.length:=(dX.1 W.hm).1;have gI:(m++[cB n c nm (n*c)])[m.length]?=some (cB n c nm (n*c)):=bX;have kK:(m++[cB n c nm (n*c)])[nm]?=some (cA es):=l7 W.hm;obtain ⟨m',es',e,h1,C,h3⟩:=qcH (nm:=nm) hn hc W.len W.fr hr ht uV (b:=m.length) (by omega) (Ey (aN ab.P f116.results.toList)) c 0 _ es (by omega) kK gI ⟨W.len,fun _ _ _ _ _ _=>rfl,fun q hq=>by omega,fun q hq=>by omega⟩
 refine ⟨m',es',?_,?_,Kn.trans (sA _ _ _) h3⟩
 .have e:BK (.int .i64 r) (.int .i64 t) (.ptr m.length 0) (.int .i64 c) (.int .i64 0) (m++[cB n c nm (n*c)]) (Ey (aN ab.P f116.results.toList))=_:=e;rw[qbT,F6,aa];dsimp only;rw[ba,aa,pM gI,aa,e,YP]
 .have cell:∀i j,i<n->j<c->∀h:i*c+j<es'.length,∃i0,i0<n/\(mX N r t i j=N i0 j)/\(if i=r then kf t else if i=t then kf r else kf i)=kf i0/\∃h0:i0*c+j<es.length,es'[i*c+j]=es[i0*c+j]:=fun i j hi hj h=>by
   unfold mX
   by_cases h1:i=r
   .subst h1;exact ⟨t,ht,aj rfl,aj rfl,W.at ht hj,C.sr j hj h (W.at ht hj)⟩
   .by_cases h2:i=t
    .subst h2;exact ⟨r,hr,by rw[ag h1,aj rfl],by rw[ag h1,aj rfl],W.at hr hj,C.st j hj h (W.at hr hj)⟩
    .exact ⟨i,hi,by rw[ag h1,ag h2],by rw[ag h1,ag h2],W.at hi hj,C.old i j hj (.inl ⟨h1,h2⟩) h (W.at hi hj)⟩
  refine ⟨h1,C.len,fun x hx=>?_,fun i j hi hj h=>?_,fun i j hi hj=>?_⟩
  .obtain ⟨p,tG,rfl⟩:=uj hx;have kN:p<n*c:=by rw[<- C.len];exact tG
   have kF:0<c:=na fun e=>by rw[e] at kN;omega
   have e1:p=p/c*c+p%c:=by rw[en];exact (rO p c).symm
   have hi:p/c<n:=Nat.div_lt_of_lt_mul (by rw[en];exact kN);obtain ⟨i0,_,_,_,h0,e2⟩:=cell (p/c) (p%c) hi (jx _ kF) (by rw[<- e1];exact tG);have:es'[p]=es[i0*c+p%c]:=by rw[<- e2];congr 1
   rw[this];exact W.fr _ (fH h0)
  .obtain ⟨i0,yk,e1,_,h0,e2⟩:=cell i j hi hj h;rw[e1,e2];exact W.can i0 j yk hj h0
  .obtain ⟨i0,yk,e1,e3,_⟩:=cell i j hi hj (by rw[C.len];exact kB hi hj);rw[e1,e3];exact W.bd i0 j yk hj
def vJ(N:MX)(col a i:Nat)(best:Int):Prop:=(best=-1/\∀q,a<=q->q<i->N q col=0)\/∃p:Nat,best=(p:Int)/\a<=p/\p<i/\N p col≠0
theorem qcG(hn:n<=60)(hc:c<=60){kb:Nat}(TA:kb<2^36)(GV:∀i,i<n->kf i<=kb){col a:Nat}(jV:col<c){b:Nat}(K:KT):∀(d i:Nat) (m:ae) (best:Int),i+d=n->a<=i->WM m nm es n c kf N->m[b]?=some (cB n c nm (n*c))->vJ N col a i best ->
  ∃(e:ae) (best':Int),uh (.int .i64 col) (.ptr b 0) (.int .i64 best) (.int .i64 i) m K=K (.exit 0) (Fs (.int .i64 best') (m++e))/\vJ N col a n best':=by
 intro d
 induction d with
 | zero=>
  intro i m best hi ha W hb P;obtain rfl:i=n:=by omega
  refine ⟨[],best,?_,P⟩;rw[Py,bj,aa,zZ hb,aa,bR,aa,aw,ag (by omega),bN]
 | succ d ih=>
  intro i m best hi ha W hb P;have hQ:i<n:=by omega
  obtain ⟨a1,a2⟩:=qR (i:=i) (c:=c) (j:=col) (by omega) hc (by omega);have p1:i*c+col<n*c:=kB hQ jV;have p1':=W.at hQ jV;have cx:=W.can i col hQ jV p1';have fx:=W.fr _ (fH p1');have tz:(m++[cR es[i*c+col]])[b]?=some (cB n c nm (n*c)):=l7 hb;have AB:(m++[cR es[i*c+col]])[nm]?=some (cA es):=l7 W.hm;have W10:WM (m++[cR es[i*c+col]]) nm es n c kf N:=⟨AB,W.len,W.fr,W.can,W.bd⟩;have e0:uh (.int .i64 col) (.ptr b 0) (.int .i64 best) (.int .i64 i) m K=_:=Py _ _ _ _ _ _;rw[bj,aa,zZ hb,aa,bR,aa,aw,aj hQ,bE,aa,rV hb,aa,ba,aa,pM hb,aa,a1,aa,a2,aa,vP p1,aa,uy W.hm p1',aa] at e0;rw[show (ak none m (Ent.obj true [(.bool false),(.lst none true .full []),(.lst none true .full [])])).2=m++[cR zR] from rfl,show (ak none m Ent.resv).1=m.length from rfl,wX,aa,ba,aa,HV bX,aa,fk,aa,SM,aa,aw] at e0
  have go:∀best',vJ N col a (i+1) best'->∃(e:ae) (best2:Int),uh (.int .i64 col) (.ptr b 0) (.int .i64 best') (.int .i64 (i+1:Nat)) (m++[cR es[i*c+col]]) K=K (.exit 0) (Fs (.int .i64 best2) (m++e))/\vJ N col a n best2:=fun best' hP=>by
   obtain ⟨e,best2,h1,h2⟩:=ih (i+1) (m++[cR es[i*c+col]]) best' (by omega) (by omega) W10 tz hP;exact ⟨[cR es[i*c+col]]++e,best2,by rw[h1,vC],h2⟩
  by_cases hx0:es[i*c+col].num.ds.length>0
  .have aE:N i col≠0:=cx.nz (by omega);have Pi:vJ N col a (i+1) (i:Nat):=.inr ⟨i,rfl,ha,by omega,aE⟩;rw[aj hx0,gw,aa,aw] at e0
   by_cases TM:best<0
   .rw[aj TM,eF (by omega),aa] at e0;obtain ⟨e,best2,h1,h2⟩:=go _ Pi;exact ⟨e,best2,e0.trans h1,h2⟩
   .rw[ag TM] at e0
    rcases P with ⟨h,_⟩|⟨p,rfl,qv,C1,yu⟩
    .omega
    obtain ⟨c1,c2⟩:=qR (i:=p) (c:=c) (j:=col) (by omega) hc (by omega);have q1:p*c+col<n*c:=kB (by omega) jV;have q1':=W.at (show p<n by omega) jV;have cy:=W.can p col (by omega) jV q1';have fy:=W.fr _ (fH q1');obtain ⟨w1,v1,l1⟩:=QM (cx.ok ((W.bd i col hQ jV).mono (GV i hQ)) (by omega)) (by omega);obtain ⟨w2,v2,l2⟩:=QM (cy.ok ((W.bd p col (by omega) jV).mono (GV p (by omega))) (by omega)) (by omega);have Pp:vJ N col a (i+1) (p:Nat):=.inr ⟨p,rfl,qv,by omega,yu⟩;rw[je bX,aa,bS,fx,v1,ar,aa] at e0;dsimp only at e0;rw[aa,rV tz,aa,aa,pM tz,aa,c1,aa,c2,aa,vP q1,aa,uy AB q1',aa,bS,fy,v2,ar,aa] at e0;dsimp only at e0;rw[bR,aa,aw,eF (by omega),aa,aa] at e0
    by_cases hw:w1<w2
    .rw[aj hw] at e0;obtain ⟨e,best2,h1,h2⟩:=go _ Pi;exact ⟨e,best2,e0.trans h1,h2⟩
    .rw[ag hw] at e0;obtain ⟨e,best2,h1,h2⟩:=go _ Pp;exact ⟨e,best2,e0.trans h1,h2⟩
  .have wD:=Nl (r:=es[i*c+col]) (by omega);rw[cx.q] at wD;rw[ag hx0,eF (by omega),aa] at e0
   have P':vJ N col a (i+1) best:=by
    rcases P with ⟨h,hh⟩|⟨p,h,qv,C1,yu⟩
    .exact .inl ⟨h,fun q h1 h2=>by
      by_cases e:q=i
      .rw[e];exact wD
      .exact hh q h1 (by omega)⟩
    .exact .inr ⟨p,h,qv,by omega,yu⟩
   obtain ⟨e,best2,h1,h2⟩:=go _ P';exact ⟨e,best2,e0.trans h1,h2⟩
theorem XC(hn:n<=60)(hc:c<=60){kb:Nat}(TA:kb<2^36)(GV:∀i,i<n->kf i<=kb)(W:WM m nm es n c kf N){col a:Nat}(jV:col<c)(ha:a<=n) :
  ∃(e:ae) (best:Int),AC ab 115 [aM n c nm (n*c),.int .i64 a,.int .i64 col] m=some (.int .i64 best,m++e)/\vJ N col a n best:=by
 have gI:(m++[cB n c nm (n*c)])[m.length]?=some (cB n c nm (n*c)):=bX;have W1:WM (m++[cB n c nm (n*c)]) nm es n c kf N:=⟨l7 W.hm,W.len,W.fr,W.can,W.bd⟩;obtain ⟨e,best,h1,h2⟩:=qcG hn hc TA GV jV (b:=m.length) (I3 (aN ab.P f115.results.toList)) (n-a) a _ (-1) (by omega) (aW a) W1 gI (.inl ⟨rfl,fun q h1 h2=>by omega⟩);refine ⟨[cB n c nm (n*c)]++e,best,?_,h2⟩;rw[qbS,F6,aa];dsimp only;rw[h1,YN,vC]
end
end Go.Ab
namespace Go.Ab
open Go.Proofs.Try
def kk(k:Nat):Nat->Nat
 | 0=>k
 | t+1=>4*kk k t+1
theorem mf(k:Nat){a b:Nat}(h:a<=b):kk k a<=kk k b:=by
 obtain ⟨d,rfl⟩:=Nat.exists_eq_add_of_le h
 induction d with
 | zero=>exact aW _
 | succ d ih=>rw[<- my,kk];have:=ih (by omega);omega
def lf(b:Bool):Rat:=if b then -1 else 1
theorem qjl(b:Bool):lf (!b)=- lf b:=by cases b<;>decide
theorem RN{a i:Nat}{N:MX}{r col:Nat}(ha:a<=i)(uN:i≠r):lD (ir a i N r col) r i (ir a i N r col i col/ir a i N r col r col)=ir a (i+1) N r col:=by
 funext q j;unfold lD;have e1:ir a i N r col i col=N i col:=Aa (by omega);have e3:ir a i N r col i j=N i j:=Aa (by omega);rw[e1,Ac,Ac,e3];unfold ir
 by_cases hq:q=i
 .subst hq;rw[aj rfl,aj (by omega)]
 .rw[ag hq]
  by_cases h2:a<=q/\q<i/\q≠r
  .rw[aj h2,aj (by omega)]
  .rw[ag h2,ag (by omega)]
theorem qki(b:Bool):iI .not (.bool b)=some (.bool (!b)):=rfl
section
variable {nm n c k:Nat} {P:MX}
theorem qcU(hn:n<=60)(hc:c<=60){r col:Nat}(hr:r<n)(jV:col<c)(hp:P r col≠0)(bu:1<=k)(hk:4*k+1<2^36){b:Nat}(pg:b≠nm)(x1 x7:AV)(K:KT):∀(d i:Nat) (m:ae) (es:List RV),i+d=n->r<i->WM m nm es n c (fun q=>if r+1<=q/\q<i then 4*k+1 else k) (ir (r+1) i P r col)->m[b]?=some (cB n c nm (n*c)) ->
  ∃(m':ae) (es':List RV),zC x1 (.ptr b 0) (.int .i64 r) x7 (.int .i64 col) (.int .i64 i) m K=K (.exit 2) (J1 x1 (.ptr b 0) (.int .i64 r) x7 (.int .i64 col) m')/\WM m' nm es' n c (fun _=>4*k+1) (ir (r+1) n P r col)/\m'[b]?=some (cB n c nm (n*c))/\Kn nm m m':=by
 intro d
 induction d with
 | zero=>
  intro i m es hi nn W hb;obtain rfl:i=n:=by omega
  refine ⟨m,es,?_,W.mono fun q _=>?_,hb,wI _ _⟩
  .rw[P3,bj,aa,zZ hb,aa,bR,aa,aw,ag (by omega)]
  .split<;>omega
 | succ d ih=>
  intro i m es hi nn W hb;have hQ:i<n:=by omega
  have e1:ir (r+1) i P r col r col=P r col:=Ac
  obtain ⟨m1,es1,e117,W1,kn1⟩:=Oh hn hc W hr hQ (by omega) jV (by rw[e1];exact hp) (show (if r+1<=r/\r<i then 4*k+1 else k)<=k by rw[ag (by omega)];exact aW _) (show (if r+1<=i/\i<i then 4*k+1 else k)<=k by rw[ag (by omega)];exact aW _) bu hk
  rw[RN (by omega) (by omega)] at W1;have gI:=kn1.cB hb pg
  obtain ⟨m',es',e,h1,h2,h3⟩:=ih (i+1) m1 es1 (by omega) (by omega) (W1.mono fun q _=>by
   split
   .rw[aj (by omega)];exact aW _
   .split
    .rw[aj (by omega)];exact aW _
    .split<;>omega) gI
  refine ⟨m',es',?_,h1,h2,Kn.trans kn1 h3⟩;rw[P3,bj,aa,zZ hb,aa,bR,aa,aw,aj hQ,vQ hb,aa,e117,aa,eF (by omega),aa];exact e
theorem W88(hn:n<=60)(hc:c<=60){k0 cols:Nat}(bu:1<=k0)(hK:kk k0 cols<2^36)(Lz:cols<=c){M:MX}{b:Nat}(pg:b≠nm):∀(d col r:Nat) (N:MX) (s:Rat) (cs:Nat->Nat) (m:ae) (es:List RV) (odd:Bool),col+d=cols->EC n c M N s r col cs->s=lf odd->WM m nm es n c (fun _=>kk k0 col) N->m[b]?=some (cB n c nm (n*c)) ->
  ∃(m':ae) (es':List RV) (N':MX) (s':Rat) (r':Nat) (cs':Nat->Nat) (odd':Bool),xq (.int .i64 cols) (.ptr b 0) (.int .i64 r) (.bool odd) (.int .i64 col) m (xn (aN ab.P f88.results.toList))=some (.tup [.int .i64 r',.bool odd'],m')/\EC n c M N' s' r' cols cs'/\s'=lf odd'/\WM m' nm es' n c (fun _=>kk k0 cols) N'/\Kn nm m m':=by
 intro d
 induction d with
 | zero=>
  intro col r N s cs m es odd hd E hs W hb;obtain rfl:col=cols:=by omega
  refine ⟨m,es,N,s,r,cs,odd,?_,E,hs,W,wI _ _⟩;rw[Js,bR,aa,aw,ag (by omega),EI]
 | succ d ih=>
  intro col r N s cs m es odd hd E hs W hb;have kG:col<cols:=by omega
  have C5:=E.ech.le;have CV:kk k0 col<=kk k0 cols:=mf k0 (by omega);have pU:4*kk k0 col+1<=kk k0 cols:=mf k0 (show col+1<=cols by omega);have hk0:k0<=kk k0 col:=mf k0 (jH col);have e0:xq (.int .i64 cols) (.ptr b 0) (.int .i64 r) (.bool odd) (.int .i64 col) m (xn (aN ab.P f88.results.toList))=_:=Js _ _ _ _ _ _ _;rw[bR,aa,aw,aj kG,bj,aa,zZ hb,aa,bR,aa,aw] at e0
  by_cases rf:r<n
  .rw[aj rf,vQ hb,aa] at e0;obtain ⟨e,best,e115,PV⟩:=XC hn hc (show kk k0 cols<2^36 from hK) (kf:=fun _=>kk k0 col) (fun _ _=>CV) W (show col<c by omega) (show r<=n by omega);rw[e115,aa,gw,aa,aw] at e0;have W1:WM (m++e) nm es n c (fun _=>kk k0 col) N:=⟨l7 W.hm,W.len,W.fr,W.can,W.bd⟩;have gI:(m++e)[b]?=some (cB n c nm (n*c)):=l7 hb
   rcases PV with ⟨rfl,hz⟩|⟨p,rfl,hrp,yu,TT⟩
   .rw[aj (by decide),eF (by omega),aa] at e0;obtain ⟨m',es',N',s',r',cs',odd',h1,h2,h3,h4,h5⟩:=ih (col+1) r N s cs (m++e) es odd (by omega) (E.skip (by omega) hz) hs (W1.mono fun _ _=>mf k0 (Nat.le_succ col)) gI;exact ⟨m',es',N',s',r',cs',odd',e0.trans h1,h2,h3,h4,Kn.trans (sA _ _ _) h5⟩
   .rw[ag (by omega),iL,aa,aw] at e0
    have fin:∀(m2:ae) (es2:List RV) (P:MX) (s2:Rat) (odd2:Bool),WM m2 nm es2 n c (fun _=>kk k0 col) P->m2[b]?=some (cB n c nm (n*c))->Kn nm m m2->RE n c M P s2->s2=lf odd2->(∀i j,i<r->P i j=N i j)->(∀i j,r<=i->i<n->j<col->P i j=0)->P r col≠0 ->
      ∃(m':ae) (es':List RV) (N':MX) (s':Rat) (r':Nat) (cs':Nat->Nat) (odd':Bool),zC (.int .i64 cols) (.ptr b 0) (.int .i64 r) (.bool odd2) (.int .i64 col) (.int .i64 (r+1:Nat)) m2 (BD (xn (aN ab.P f88.results.toList)))=some (.tup [.int .i64 r',.bool odd'],m')/\EC n c M N' s' r' cols cs'/\s'=lf odd'/\WM m' nm es' n c (fun _=>kk k0 cols) N'/\Kn nm m m':=by
     intro m2 es2 P s2 odd2 W2 ng kn2 re eS u1 u2 u3;have c0:ir (r+1) (r+1) P r col=P:=by funext i j;exact Aa (by omega)
     obtain ⟨m3,es3,e3,W3,wm,kn3⟩:=qcU (k:=kk k0 col) hn hc rf (show col<c by omega) u3 (by omega) (by omega) pg (.int .i64 cols) (.bool odd2) (BD (xn (aN ab.P f88.results.toList))) (n-(r+1)) (r+1) m2 es2 (by omega) (by omega) (by rw[c0];exact W2.mono fun q _=>by split<;>omega) ng;have E':=E.take (N1:=ir (r+1) n P r col) (show col<c by omega) rf (re.clr rf (r+1) n (aW n)) (fun i j hi hj=>by rw[Aa (by omega)];exact u1 i j hi) (fun i j a b d=>by rw[Gd (u2 r j (aW _) rf d)];exact u2 i j a b d) (by rw[Ac];exact u3) (fun i a b=>RM u3 ⟨by omega,b,by omega⟩);obtain ⟨m',es',N',s',r',cs',odd',h1,h2,h3,h4,h5⟩:=ih (col+1) (r+1) _ s2 _ m3 es3 odd2 (by omega) E' eS W3 wm;refine ⟨m',es',N',s',r',cs',odd',?_,h2,h3,h4,Kn.trans kn2 (Kn.trans kn3 h5)⟩;rw[e3,qah,eF (by omega),aa,eF (by omega),aa];exact h1
    by_cases G7:p=r
    .subst G7;rw[ag (by omega),eF (by omega),aa] at e0;obtain ⟨m',es',N',s',r',cs',odd',h1,h2⟩:=fin (m++e) es N s odd W1 gI (sA _ _ _) E.re hs (fun _ _ _=>rfl) (fun i j a b d=>E.ech.rest i a b j d) TT;exact ⟨m',es',N',s',r',cs',odd',e0.trans h1,h2⟩
    .have L2:(p:Int)≠(r:Int):=by omega
     obtain ⟨m2,es2,e116,W2,kn2⟩:=XD hn hc W1 yu rf G7;rw[aj L2,vQ gI,aa,e116,aa,qki,aa,eF (by omega),aa] at e0
     have hz:∀i j,r<=i->i<n->j<col->mX N p r i j=0:=fun i j a b d=>by
      unfold mX
      split
      .exact E.ech.rest r (aW _) rf j d
      .split
       .exact E.ech.rest p hrp yu j d
       .exact E.ech.rest i a b j d
     obtain ⟨m',es',N',s',r',cs',odd',h1,h2⟩:=fin m2 es2 (mX N p r) (-s) (!odd) (W2.mono fun q _=>by split<;>first|exact aW _|(split<;>exact aW _)) (kn2.cB gI pg) (Kn.trans (sA _ _ _) kn2) (.swp N s p r E.re yu rf G7) (by rw[qjl,hs]) (fun i j hi=>by unfold mX;rw[ag (by omega),ag (by omega)]) hz (by unfold mX;rw[ag (fun e=>G7 e.symm),aj rfl];exact TT)
     exact ⟨m',es',N',s',r',cs',odd',e0.trans h1,h2⟩
  .have qg1:r=n:=by omega
   subst qg1;rw[ag (by omega),EI] at e0;have E':=E.full (d+1) (by omega);rw[hd] at E';exact ⟨m,es,N,s,r,cs,odd,e0,E',hs,W.mono fun _ _=>CV,wI _ _⟩
end
end Go.Ab
namespace Go.Ab
open Go.Proofs.Try
abbrev MF:=Nat->Nat->Rat
def pA(n:Nat)(A B:MF):MF:=fun i j=>gC (fun l=>A i l*B l j) n
def Hg:MF:=fun i j=>if i=j then 1 else 0
def vm(n:Nat)(A:MF):Nat->MF
 | 0=>Hg
 | e+1=>pA n (vm n A e) A
theorem qhW(n:Nat)(A B C:MF)(i j:Nat):pA n A (pA n B C) i j=pA n (pA n A B) C i j:=by
 unfold pA;have h1:∀l,l<n->A i l*gC (fun m=>B l m*C m j) n=gC (fun m=>A i l*(B l m*C m j)) n:=fun l _=>(WI _ _ n).symm;have h2:∀m,m<n->gC (fun l=>A i l*B l m) n*C m j=gC (fun l=>A i l*B l m*C m j) n:=fun m _=>(WJ _ _ n).symm;rw[zd h1,zd h2,WL];refine zd fun m _=>zd fun l _=>?_;rw[Rat.mul_assoc]
theorem qhY(n:Nat)(A:MF){i j:Nat}(hj:j<n):pA n A Hg i j=A i j:=by
 unfold pA;rw[WK (p:=j) (fun l _ hl=>by unfold Hg;rw[ag hl,Rat.mul_zero]),aj hj];unfold Hg;rw[aj rfl,Rat.mul_one]
theorem qhX{n:Nat}{A A' B B':MF}(hA:∀i j,i<n->j<n->A i j=A' i j)(hB:∀i j,i<n->j<n->B i j=B' i j){i j:Nat}(hi:i<n)(hj:j<n):pA n A B i j=pA n A' B' i j:=by
 unfold pA;exact zd fun l hl=>by rw[hA i l hi hl,hB l j hl hj]
theorem pow_add(n:Nat)(A:MF)(a:Nat):∀(b:Nat) {i j:Nat},i<n->j<n->pA n (vm n A a) (vm n A b) i j=vm n A (a+b) i j
 | 0,i,j,hi,hj=>by
  rw[jo,vm,qhY n _ hj]
 | b+1,i,j,hi,hj=>by
  show pA n (vm n A a) (pA n (vm n A b) A) i j=pA n (vm n A (a+b)) A i j;rw[qhW];exact qhX (fun i j hi hj=>pow_add n A a b hi hj) (fun _ _ _ _=>rfl) hi hj
def Ud(D M:Nat)(q:Rat):Prop:=∃z:Int,z.natAbs<=M/\q=mkRat z D
theorem Ud.zero(D M:Nat):Ud D M 0:=⟨0,jH _,(Rat.zero_mkRat D).symm⟩
theorem Ud.add{D M M':Nat}{p q:Rat}(hD:D≠0)(hp:Ud D M p)(hq:Ud D M' q):Ud D (M+M') (p+q):=by
 obtain ⟨z,h1,rfl⟩:=hp;obtain ⟨w,h3,rfl⟩:=hq;refine ⟨z+w,by omega,?_⟩;rw[Rat.mkRat_add_mkRat _ _ hD hD,<- Int.add_mul,Rat.mkRat_mul_right hD]
theorem Ud.mul{D D' M M':Nat}{p q:Rat}(hp:Ud D M p)(hq:Ud D' M' q):Ud (D*D') (M*M') (p*q):=by
 obtain ⟨z,h1,rfl⟩:=hp;obtain ⟨w,h3,rfl⟩:=hq;refine ⟨z*w,by rw[Int.natAbs_mul];exact il h1 h3,?_⟩;rw[Rat.mkRat_mul_mkRat]
end Go.Ab
namespace Go.Ab
open Go.Proofs.Try
def KU(x:MV)(n:Nat):MF:=fun i j=>gY x (i*n+j)
structure PM (K n:Nat) (A:MF) (e:Nat) (z:MV):Prop where
 fr:z.fr=z
 ok:LOk K z.lv
 rows:z.rows=n
 cols:z.cols=n
 len:z.lv.es.length=n*n
 q:∀i j,i<n->j<n->KU z n i j=vm n A e i j
theorem qfF(x y:MV)(n i j l:Nat):Sc x y n n i j l=gC (fun l=>KU x n i l*KU y n l j) l:=rfl
theorem PM.res{K n a b:Nat}{A:MF}{x y z:MV}(hx:PM K n A a x)(hy:PM K n A b y)(h:Res z 0 0 n n (UP x y n n) K):PM K n A (a+b) z where
 fr:=h.fr
 ok:=h.ok
 rows:=h.rows rfl
 cols:=h.cols rfl
 len:=h.len rfl
 q i j hi hj:=by
  obtain ⟨e1,e2⟩:=AZ (i:=i) hj;show gY z (i*n+j)=_;rw[h.q rfl _ (kB hi hj),UP,e1,e2,qfF,zd (fun l' nO=>by rw[hx.q i l' hi nO,hy.q l' j nO hj])];exact pow_add n A a b hi hj
end Go.Ab
namespace Go.Ab
open Go.Proofs.Try
theorem DQ{x:MV}(h:aP x=true):∀u∈x.lv.es,jl u=true:=by
 unfold aP at h;rw[dY] at h;exact iX.1 h.2
end Go.Ab
namespace Go.Ab
open Go.Proofs.Try
theorem Qw{x:MV}{k:Nat}(hx:LOk k x.lv)(hlen:x.lv.es.length<4500):∃m' l',gM m' l'/\l'.es=x.lv.es.map jJ/\AC ab 56 [x.av] []=some (MV.av ⟨x.rows,x.cols,l'⟩,m'):=by
 obtain ⟨m',l',q1,q2,q3,q4,q5⟩:=W56 hx hlen (Je (aN ab.P f56.results.toList)) x.lv.es.length 0 [cM x,cM zM,cM ⟨x.rows,x.cols,b9⟩] b9 (by omega) rfl rfl (.inl rfl) rfl
 have jB:1<m'.length:=by
  apply jv;intro hc;rw[iC (by omega)] at q1;cases q1
 refine ⟨m'.set 1 (cM ⟨x.rows,x.cols,l'⟩),l',q3.set q1 _,q4,?_⟩;have e1:([cM x,cM zM]:ae)[0]?=some (cM x):=rfl;have e2:([cM x,cM zM,cM zM]:ae)[2]?=some (cM zM):=rfl;have e3:([cM x,cM zM,cM ⟨x.rows,x.cols,b9⟩]:ae)[0]?=some (cM x):=rfl;rw[T56];simp only[aa,im,iG,bc,bj,ba,bE,aX,aZ,aR,bm,aL,Nat.reduceAdd];rw[gh e1,aa,fh e1,aa,xG,aa,eO e2,aa];simp only[bH,bk];rw[oj e3,aa,sB,aa];refine q5.trans ?_;rw[ZT,bC q2,aa,eO q1,aa,bC (by rw[jF jB])]
 rfl
theorem qcf{g:Nat}{cs:List AV}{F:Nat->Nat->RV}{rows cols k:Nat}(h:FillOk g cs F rows cols k)(hr:rows<=60)(hc:cols<=60):∃m' l',gM m' l'/\l'.es=n4 F cols rows/\AC ab 58 [.int .i64 rows,.int .i64 cols,.fn g cs] []=some (MV.av ⟨rows,cols,l'⟩,m'):=by
 obtain ⟨m',l',q1,q2,q3,q4,q5⟩:=Rg h hr hc (EG (aN ab.P f58.results.toList)) rows 0 [cM zM,cM ⟨rows,cols,b9⟩] b9 (by omega) rfl rfl (.inl rfl) rfl
 have jB:0<m'.length:=by
  apply jv;intro kG;rw[iC (by omega)] at q1;cases q1
 refine ⟨m'.set 0 (cM ⟨rows,cols,l'⟩),l',q3.set q1 _,q4,?_⟩;have e2:([cM zM,cM zM]:ae)[1]?=some (cM zM):=rfl;rw[Qx,xG,aa];simp only[iG,bc,aX,aZ,aR,bm,aL];rw[eO e2,aa];simp only[bH,bk];refine q5.trans ?_;rw[O6,bC q2,aa,eO q1,aa,bC (by rw[jF jB])]
 rfl
theorem Ik{g:Nat}{args rs:List AV}{ns:List Nat}{m m':ae}{a b:Int}{l':LV}(hf:bJ (frz m eo) args=some (rs,ns))(hc:AC ab g rs []=some (MV.av ⟨a,b,l'⟩,m'))(hr:gM m' l')(lM:∀r∈l'.es,r.fr=r) :
  (l'=b9/\nT (AC ab) m g args=some (MV.av ⟨a,b,b9⟩,fg m ns))\/(l'.es≠[]/\nT (AC ab) m g args=some (aM a b m.length l'.es.length,fg m ns++[cA l'.es])):=by
 rcases hr with rfl|⟨g1,g2,g3,nm,g4,g5⟩
 .refine .inl ⟨rfl,?_⟩;unfold nT;rw[hf,aa,hc,aa];show some (_,fg m ns++[])=_;rw[bN];rfl
 .refine .inr ⟨g3,?_⟩;unfold nT;rw[hf,aa,hc,aa];obtain ⟨sh,z,o,es⟩:=l';simp only at g1 g2 g3 g4 g5 lM;subst g1;subst g2;subst g4;have dS:((es.map RV.av).flatMap AV.cells).all ke=true:=by rw[Cx];exact La es lM
  have ht:zf m.length m' (MV.av ⟨a,b,⟨some 3,false,.tok nm 43,es⟩⟩)=some (.agg [.int .i64 a,.int .i64 b,.arr m.length 0 (es.map RV.av).length (some 3)],[some (.obj false ((es.map RV.av).flatMap AV.cells))]):=by
   unfold zf MV.av LV.av;simp only[Hq g5,gu,dS,and_self,eC]
  rw[ht,ar,Cx,gu]
  rfl
theorem KE{r:RV}{q:Rat}(h:Can r q):Can (jJ r) q:=by
 have e:∀ds:List Nat,(mV ds).z=true->(mV ds).ds=[]:=fun ds=>by
  unfold mV
  split
  .intro _;rfl
  .intro hh;cases hh
 exact ⟨h.neg,by rw[jJ,rq];exact h.num,by rw[jJ,rq];exact h.den,e _,e _⟩
def eW(x:MV)(c:Nat):MX:=fun i j=>gY x (i*c+j)
section
variable {n c k:Nat}
theorem IE(hn:n<=60)(hc:c<=60){k0 cols:Nat}(bu:1<=k0)(hK:kk k0 cols<2^36)(Lz:cols<=c){M:MX}{m:ae}{nm:Nat}{es:List RV}(W:WM m nm es n c (fun _=>k0) M) :
  ∃(m':ae) (es':List RV) (N:MX) (s:Rat) (r:Nat) (cs:Nat->Nat) (odd:Bool),AC ab 88 [aM n c nm (n*c),.int .i64 cols] m=some (.tup [.int .i64 r,.bool odd],m')/\EC n c M N s r cols cs/\s=lf odd/\WM m' nm es' n c (fun _=>kk k0 cols) N/\Kn nm m m':=by
 have G3:nm<m.length:=(dX.1 W.hm).1;have W1:WM (m++[cB n c nm (n*c)]) nm es n c (fun _=>kk k0 0) M:=⟨l7 W.hm,W.len,W.fr,W.can,W.bd⟩;obtain ⟨m',es',N,s,r,cs,odd,h1,h2,h3,h4,h5⟩:=W88 hn hc bu hK Lz (b:=m.length) (by omega) cols 0 0 M 1 (fun _=>0) _ es false (by omega) (Gv n c M _) rfl W1 bX;refine ⟨m',es',N,s,r,cs,odd,?_,h2,h3,h4,Kn.trans (sA _ _ _) h5⟩;rw[QB,F6,aa];exact h1
theorem IF{a b:Int}{cols:Nat}(h:cols=0\/a=0)(Lz:cols<=60)(m:ae):∃m',AC ab 88 [MV.av ⟨a,b,b9⟩,.int .i64 cols] m=some (.tup [.int .i64 0,.bool false],m')/\Kp m m':=by
 have key:∀(d col:Nat),col+d=cols->xq (.int .i64 cols) (.ptr m.length 0) (.int .i64 0) (.bool false) (.int .i64 col) (m++[cM ⟨a,b,b9⟩]) (xn (aN ab.P f88.results.toList))=some (.tup [.int .i64 0,.bool false],m++[cM ⟨a,b,b9⟩]):=by
  intro d col hd;rw[Js,bR,aa,aw]
  by_cases hl:col<cols
  .rw[aj hl,bj,aa,gh bX,aa,gw,aa,aw,ag (by simp only;omega),EI]
  .rw[ag hl,EI]
 refine ⟨m++[cM ⟨a,b,b9⟩],?_,Kp.app m _⟩;rw[QB,im,aa];exact key cols 0 (by omega)
theorem Xq{x:MV}(hx:LOk k x.lv)(bu:1<=k)(hr:∀u∈x.lv.es,jl u=true)(hl:x.lv.es.length=n*c){m:ae}{nm:Nat}(hm:m[nm]?=some (cA (x.lv.es.map jJ))):WM m nm (x.lv.es.map jJ) n c (fun _=>k) (eW x c):=by
 refine ⟨hm,by rw[gu,hl],fun r hr=>?_,fun i j hi hj h=>?_,fun i j hi hj=>yX hx bu⟩
 .obtain ⟨r',_,rfl⟩:=ks.1 hr;exact vT _
 .have h2:i*c+j<x.lv.es.length:=by simpa using h
  have eL:=fH h2;rw[zN,eW,rl h2];exact KE (VK (hr _ eL) (hx.ok _ eL).num.nil (hx.ok _ eL).den.nil)
end
noncomputable def HU(x:MV):Nat:=gG (mT x.rows.toNat x.cols.toNat (eW x x.cols.toNat)) x.cols.toNat
theorem GD(a b:Int):Fz (.tup [.int .i64 a,.int .i64 b]) (.tup [.int .i64 a,.int .i64 b]):=fun _=>rfl
theorem qfj{n c:Nat}{M:MX}(h:n=0\/c=0):gG (mT n c M) c=0:=by
 have e:=(Gv n c M (fun _=>0))
 rcases h with rfl|rfl
 .have:=(e.full c (by omega)).cnt;rw[aL] at this;exact this
 .rfl
theorem V50{x:MV}{k:Nat}(hx:IsM k x)(bu:1<=k)(hk:k<2^38)(hK:aP x=true->kk k x.cols.toNat<2^36):AP ab 50 [x.av]=some (.tup [.int .i64 (if aP x=true then (HU x:Int) else 0),.int .i64 (if aP x=true then 0 else 1)]):=by
 have e20:=vK hx.ok hk (by have:=hx.len;omega);have gx:∀e:ae,(cM x::e)[0]?=some (cM x):=fun _=>rfl;have start:AC ab 50 [x.av] []=AC ab 50 [x.av] []:=rfl
 conv at start=>rhs;rw[T50,im,aa]
 simp only[aX,aZ] at start;rw[bC (gx _),aa,lS,hx.fr,e20,ar,aa,bB,aa] at start
 cases hb:aP x with
 | false=>
  rw[hb,mZ,jj] at start;rw[ag (by decide),ag (by decide)];exact bT _ _ (GD _ _) rfl start
 | true=>
  obtain ⟨n,c,hn,hc,qgJ,S3,hl⟩:=qg hb;have kG:=DQ hb;have hK:=hK hb;have tA:x.cols.toNat=c:=by rw[hc];rfl
  have ni:x.rows.toNat=n:=by rw[hn];rfl
  obtain ⟨m1,l1,r1,r2,r3⟩:=Qw hx.ok (by have:=hx.len;omega)
  have hf:bJ (frz [cM x] eo) [x.av]=some ([x.av],[]):=by
   simp[bJ,lH x [cM x],hx.fr]
  have ht:=Ik (m:=[cM x]) hf r3 r1 (by rw[r2];intro r hr;obtain ⟨r',_,rfl⟩:=ks.1 hr;exact vT _);rw[hb,gk,fF,bC (gx _),aa,ba,aa,fh (gx _),aa] at start;rw[aj rfl,aj rfl];unfold HU;rw[tA,ni];rw[tA] at hK
  rcases ht with ⟨hz,ht⟩|⟨hz,ht⟩
  .have h0:n*c=0:=by
    rw[hz] at r2;have:=fE List.length r2;rw[gu,hl] at this;exact this.symm
   have SO:n=0\/c=0:=Nat.mul_eq_zero.1 h0
   obtain ⟨m2,h2,kp⟩:=IF (a:=x.rows) (b:=x.cols) (cols:=c) (by rcases SO with h|h;exact .inr (by rw[hn,h];rfl);exact .inl h) S3 [cM x]
   rw[ht,aa] at start;simp only[fg,List.foldl_nil] at start;rw[hc] at h2;rw[Hi (by rw[fh (gx _)];rfl),hc,h2,aa] at start;rw[qfj SO];exact bT _ _ (GD _ _) rfl start
  .have jB:l1.es.length=n*c:=by rw[r2,gu,hl]
   have W:WM [cM x,cA l1.es] 1 l1.es n c (fun _=>k) (eW x c):=by
    rw[r2];exact Xq hx.ok bu kG hl rfl
   obtain ⟨m2,es2,N,s,r,cs,odd,h2,E,_⟩:=IE qgJ S3 bu hK (aW c) W;rw[ht,aa] at start;simp only[fg,List.foldl_nil,aR,aX,bm,aZ,aL] at start;rw[Hi (by rw[fh (gx _)];rfl),hn,hc,jB,h2,aa] at start;rw[E.cnt];exact bT _ _ (GD _ _) rfl start
end Go.Ab
namespace Go.Ab
open Go.Proofs.Try
theorem tT(m:ae):ak none m (.obj true [.bool false,.lst none true .full [],.lst none true .full []])=(m.length,m++[cR zR]):=rfl
theorem qiz{cs:List AV}{k:Nat}{v:AV}(h:k<cs.length):ka cs k [v]=cs.set k v:=by
 unfold ka;rw[List.set_eq_take_append_cons_drop,aj h];simp
section
variable {m:ae} {u n k:Nat} {U:Nat->Bool}
theorem qeW(hk:k<n):aJ none (.arr u 0 n none) (.int .i64 k)=some (.ptr u k):=by
 have h:(0:Int)<=(k:Nat)/\((k:Nat):Int)<(n:Nat):=by omega
 show (if (none:Sh)=none then if (0:Int)<=(k:Nat)/\((k:Nat):Int)<(n:Nat) then some (AV.ptr u (0+((k:Nat):Int).toNat*1)) else none else none)=_
 rw[aj rfl,aj h,nG,qo,aL]
end
theorem fM{m e:ae}{b:Nat}{x:Option Ent}(h:m[b]?=some x):(m++e)[b]?=some x:=(er (dX.1 h).1).trans h
theorem NJ(q:Rat):decide (wU q=0)=decide (q=0):=by
 refine mI.2 ⟨fun h=>?_,fun h=>by rw[wU,aj h]⟩;unfold wU at h
 by_cases h0:q=0
 .exact h0
 .rw[ag h0] at h;split at h<;>omega
section
variable {x:MV} {n:Nat}
end
end Go.Ab
namespace Go.Ab
open Go.Proofs.Try
theorem qck{a b:RV}{k:Nat}(ha:ROk k a)(hb:ROk k b)(bu:1<=k)(hk:k<2^36)(nN:b.q≠0):∃s:RV,AP ab 119 [a.av,b.av]=some (.tup [s.av,.int .i64 0])/\Can s (a.q/b.q)/\s.fr=s:=by
 obtain ⟨s,e1,e2,e3⟩:=tm ha.fr (by omega);obtain ⟨t,f1,f2,f3⟩:=tm hb.fr (by omega);rw[RV.fr_q] at e2 f2;have os:=e2.ok (ha.bd bu) (by omega);have ot:=f2.ok (hb.bd bu) (by omega);have eM:s.num.fr=s.num:=fE RV.num e3;have eS:s.den.fr=s.den:=fE RV.den e3;have mR:t.num.fr=t.num:=fE RV.num f3;have oN:t.den.fr=t.den:=fE RV.den f3;have ln:=kZ (b7 os.num.v_len os.ln) (b7 ot.den.v_len ot.ld);have ld:=kZ (b7 os.den.v_len os.ld) (b7 ot.num.v_len ot.ln);have g1:=tn os.num ot.den;have g3:=tn os.den ot.num;have on:NOk (bn (s.num.v*t.den.v)):=fw (by omega);have od:NOk (bn (s.den.v*t.num.v)):=fw (by omega);have Da:t.q≠0:=by rw[f2.q];exact nN
 have sv:t.num.v≠0:=fun h=>Da (by show ew t.neg t.num.v t.den.v=0;rw[h,HO]);have qX:s.den.v*t.num.v≠0:=Nat.mul_ne_zero e2.den0 sv
 have hq:ew (s.neg != t.neg) (s.num.v*t.den.v) (s.den.v*t.num.v)=a.q/b.q:=by
  rw[<- e2.q,<- f2.q];exact Nn Da
 rcases FN (s.neg != t.neg) on od (by rw[dZ];omega) (by rw[dZ];omega) with ⟨h0,_⟩|⟨_,r,h1,h2,h3⟩
 .rw[dZ] at h0;exact absurd h0 qX
 .rw[dZ,dZ,hq] at h2;refine ⟨r,(bT _ _ (uF r (gH _ _)) rfl (m:=[cR s,cR t,cR r]) ?_).trans (by rw[h3]),h2,h3⟩;rw[qbV];simp only[Nat.reduceAdd,aa,ar,cr,di,bc,dj,dh,bj,ba,bE,b6,cF,cu,cw,ct,cO,dw,dz,cS,cT,cQ,cP,dA,dB,cW,cX,cV,cU,dC,dD,c8,c9,cZ,cY,dE,dF,de,df,dd,dc,dG,dH,bY,bZ,cN,cJ,cL,cK,cg,ck,bB,cH,cG,aR,aX,aK,aZ,bm,bN,aL,bk,bH,dJ,cE,cC,dp,dn,bS,bU,b8,e1,f1,eM,eS,mR,oN,g1,g3,gZ,h1]
end Go.Ab
namespace Go.Ab
structure GJ (nr w:Nat) (M N:MX) (k top:Nat) (cs:Nat->Nat) (s dv:Rat):Prop where
 ec:EC nr w M N s top k cs
 unit:∀i,i<top->∀r,r<nr->N r (cs i)=if r=i then 1 else 0
 dvo:(top=k/\dv*s=1)\/(top<k/\dv=0)
theorem gj0(nr w:Nat)(M:MX)(cs:Nat->Nat):GJ nr w M M 0 0 cs 1 1:=⟨Gv nr w M cs,fun i h=>by omega,.inl ⟨rfl,by grind⟩⟩
section
variable {nr w:Nat} {M N:MX} {k top:Nat} {cs:Nat->Nat} {s dv:Rat}
theorem GJ.topk(G:GJ nr w M N k top cs s dv):top<=k:=by
 rcases G.dvo with h|h<;>omega
theorem GJ.skip(G:GJ nr w M N k top cs s dv)(hk:k<w)(h:∀i,top<=i->i<nr->N i k=0):GJ nr w M N (k+1) top cs s 0:=
 ⟨G.ec.skip hk h,G.unit,.inr ⟨by have:=G.topk;omega,rfl⟩⟩
def iA(N:MX)(t a:Nat):MX:=if a=t then N else mX N t a
def ml(t a:Nat):Rat:=if a=t then 1 else -1
def kh(N:MX)(t:Nat)(lead:Rat)(j:Nat):MX:=fun q c=>if q=t/\c<j then N q c/lead else N q c
def kE(N:MX)(t k i:Nat):MX:=fun q c=>if q<i/\q≠t then N q c-N q k*N t c else N q c
theorem qjL(N:MX)(t:Nat):iA N t t=N:=aj rfl
theorem qjK(h:RE nr w M N s){t a:Nat}(ht:t<nr)(ha:a<nr):RE nr w M (iA N t a) (ml t a*s):=by
 unfold iA ml
 by_cases e:a=t
 .rw[aj e,aj e];exact h.of_eq (by grind)
 .rw[ag e,ag e];exact (RE.swp N s t a h ht ha (fun h=>e h.symm)).of_eq (by grind)
theorem qji(h:RE nr w M N s){t:Nat}{lead:Rat}(ht:t<nr)(hl:lead≠0):RE nr w M (kh N t lead w) (1/lead*s):=by
 refine RE.cong _ _ _ (RE.scl N s t (1/lead) h ht (by grind)) fun i c hi hc=>?_;unfold ru kh
 by_cases e:i=t
 .subst e;rw[aj rfl,aj ⟨rfl,hc⟩];grind
 .rw[ag e,ag (fun h=>e h.1)]
theorem qfQ(h:RE nr w M N s){t k:Nat}(ht:t<nr)(h1:N t k=1):RE nr w M (kE N t k nr) s:=by
 refine RE.cong _ _ _ (h.clr ht (col:=k) 0 nr (aW nr)) fun i c hi hc=>?_;unfold ir kE
 by_cases e:i=t
 .rw[ag (fun h=>h.2.2 e),ag (fun h=>h.2 e)]
 .rw[aj ⟨jH i,hi,e⟩,aj ⟨hi,e⟩,h1];grind
def qD(N:MX)(t a k:Nat)(w nr:Nat):MX:=kE (kh (iA N t a) t (iA N t a t k) w) t k nr
theorem Ij(N:MX)(t a c:Nat):iA N t a t c=N a c:=by
 unfold iA
 by_cases e:a=t
 .rw[aj e,e]
 .rw[ag e];exact aj rfl
theorem GJ.take(G:GJ nr w M N k top cs s dv)(hk:k<w){a:Nat}(qW:top<=a)(ha:a<nr)(hp:N a k≠0) :
  GJ nr w M (qD N top a k w nr) (k+1) (top+1) (fun i=>if i=top then k else cs i) (1/N a k*(ml top a*s)) (dv*ml top a*N a k):=by
 have ht:top<nr:=by omega
 have E:=G.ec.ech;have hl:iA N top a top k≠0:=by rw[Ij];exact hp
 have r1:=qjK G.ec.re ht ha (t:=top) (a:=a);have r2:=qji r1 ht hl
 have e1:kh (iA N top a) top (iA N top a top k) w top k=1:=by
  unfold kh;rw[aj ⟨rfl,hk⟩];grind
 have r3:RE nr w M (qD N top a k w nr) (1/N a k*(ml top a*s)):=(qfQ r2 ht e1).of_eq (by rw[Ij])
 have old:∀q c,q<nr->c<k->(top<=q->qD N top a k w nr q c=0)/\(q<top->qD N top a k w nr q c=N q c):=by
  intro q c hq hc;have z:∀t',top<=t'->t'<nr->N t' c=0:=fun t' h1 h2=>E.rest t' h1 h2 c hc
  have sw1:iA N top a q c=if q<top then N q c else 0:=by
   unfold iA
   by_cases e:a=top
   .rw[aj e]
    by_cases h:q<top
    .rw[aj h]
    .rw[ag h,z q (by omega) hq]
   .rw[ag e];unfold mX
    by_cases h:q<top
    .rw[ag (show ¬ q=top by omega),ag (show ¬ q=a by omega),aj h]
    .rw[ag h]
     by_cases h1:q=top
     .rw[aj h1,z a qW ha]
     .rw[ag h1]
      by_cases h2:q=a
      .rw[aj h2,z top (aW _) ht]
      .rw[ag h2,z q (by omega) hq]
  have swt:iA N top a top c=0:=by rw[Ij];exact z a qW ha
  have sc1:∀q,iA N top a q c=(if q<top then N q c else 0)->kh (iA N top a) top (iA N top a top k) w q c=if q<top then N q c else 0:=by
   intro q h;unfold kh
   by_cases h1:q=top/\c<w
   .rw[aj h1,h,ag (by omega)];grind
   .rw[ag h1,h]
  have st:qD N top a k w nr q c=if q<top then N q c else 0:=by
   unfold qD kE;have s1:=sc1 q sw1;have s2:=sc1 top (by rw[swt,ag (rP _)]);rw[ag (rP _)] at s2;rw[s1,s2]
   by_cases h1:q<nr/\q≠top
   .rw[aj h1];grind
   .rw[ag h1]
  exact ⟨fun h=>by rw[st,ag (by omega)],fun h=>by rw[st,aj h]⟩
 have new:∀q,q<nr->qD N top a k w nr q k=if q=top then 1 else 0:=by
  intro q hq;unfold qD
  by_cases h:q=top
  .rw[aj h,h];unfold kE;rw[ag (fun h=>h.2 rfl)];exact e1
  .rw[ag h];show kE _ top k nr q k=0;unfold kE;rw[aj ⟨hq,h⟩,e1];grind
 refine ⟨G.ec.take hk ht r3 (fun i j hi hj=>(old i j (by omega) hj).2 hi) (fun i j h1 h2 hj=>(old i j h2 hj).1 h1) (by rw[new top ht,aj rfl];decide) (fun i h1 h2=>by rw[new i h2,ag (by omega)]),fun i hi r hr=>?_,?_⟩
 .by_cases h:i=top
  .simp only[h,eC];rw[new r hr]
  .simp only[h,j6];have aG:=E.lt i (by omega)
   by_cases h2:r<top
   .rw[(old r (cs i) hr aG).2 h2];exact G.unit i (by omega) r hr
   .rw[(old r (cs i) hr aG).1 (by omega),ag (by omega)]
 .rcases G.dvo with ⟨h1,h2⟩|⟨h1,h2⟩
  .refine .inl ⟨by omega,?_⟩;have hs:ml top a*ml top a=1:=by unfold ml;split<;>grind
   have hN:N a k*(1/N a k)=1:=by grind
   have:dv*ml top a*N a k*(1/N a k*(ml top a*s))=(dv*s)*(ml top a*ml top a)*(N a k*(1/N a k)):=by grind
   rw[this,h2,hs,hN];grind
  .exact .inr ⟨by omega,by rw[h2];grind⟩
theorem GJ.det(G:GJ nr w M N nr top cs s dv)(hw:nr<=w):Ab.det nr M=dv:=by
 have h:=G.ec.re.det hw;have h0:=G.ec.re.ne0
 rcases G.dvo with ⟨h1,h2⟩|⟨h1,h2⟩
 .subst h1
  have e:Ab.det top N=1:=by
   rw[Gj (N:=p8) (fun r c hr hc=>?_)]
   .exact qfB top
   .have:=G.unit c hc r hr;rw[G.ec.ech.id c hc] at this;rw[this];rfl
  rw[e] at h;have:s*Ab.det top M=1:=h.symm;have:dv*(s*Ab.det top M)=dv:=by rw[this];grind
  have h3:dv*(s*Ab.det top M)=(dv*s)*Ab.det top M:=by grind
  rw[h3,h2] at this
  grind
 .have e:Ab.det nr N=0:=R4 (r:=top) h1 fun c hc=>G.ec.ech.rest top (aW _) h1 c hc;rw[e] at h;rw[h2];have:s*Ab.det nr M=0:=h.symm
  rcases Rat.mul_eq_zero.1 this with h3|h3
  .exact absurd h3 h0
  .exact h3
theorem GJ.rank(G:GJ nr w M N k top cs s dv):top=gG (mT nr w M) k:=G.ec.cnt.symm
theorem GJ.dv0(G:GJ nr w M N k top cs s dv):dv=0↔top≠k:=by
 rcases G.dvo with ⟨h1,h2⟩|⟨h1,h2⟩
 .refine ⟨fun h=>?_,fun h=>absurd h1 h⟩;rw[h] at h2;have:(0:Rat)=1:=by rw[<- h2];grind
  exact absurd this (by decide)
 .exact ⟨fun _=>by omega,fun _=>h2⟩
theorem GJ.sol{n b:Nat}{cs:Nat->Nat}(G:GJ n (n+b) M N n n cs s dv)(X:MX):uv n b M X↔∀i q,i<n->q<b->X i q=N i (n+q):=by
 have hd:∀i j,i<n->j<n->N i j=if i=j then 1 else 0:=fun i j hi hj=>by
  have:=G.unit j hj i hi
  rwa [G.ec.ech.id j hj] at this
 have D:Bz n N:=⟨fun i hi=>by rw[hd i i hi hi,aj rfl];decide,fun i j hi hj aE=>by rw[hd i j hi hj,ag aE]⟩;rw[Wu G.ec.re D X]
 refine ⟨fun h i q hi hq=>?_,fun h i q hi hq=>?_⟩
 .rw[h i q hi hq,hd i i hi hi,aj rfl];grind
 .rw[h i q hi hq,hd i i hi hi,aj rfl];grind
end
end Go.Ab
namespace Go.Ab
open Go.Proofs.Try
theorem pO(a b:AV):bg (.tup [a,b]) 0=some a:=rfl
theorem pP(a b:AV):bg (.tup [a,b]) 1=some b:=rfl
theorem HJ{m:ae}{d:Option Nat}{g:Nat}(x y:MV):ao (AP ab) d m g [x.av,y.av]=(AP ab g [x.fr.av,y.fr.av]).map fun v=>(v,m):=gO (lH x) (lH y)
theorem US(x:MV):x.fr.fr=x.fr:=by
 obtain ⟨a,b,⟨c,d,o,es⟩⟩:=x;cases o<;>rfl
end Go.Ab
namespace Go.Ab
open Go.Proofs.Try
def nB(q:Rat):RV:=⟨decide (q.num<0),bn q.num.natAbs,bn q.den⟩
theorem Xx:jD=nB 0:=by
 show (⟨false,jk,bn 1⟩:RV)=⟨decide ((0:Rat).num<0),bn (0:Rat).num.natAbs,bn (0:Rat).den⟩;have h:bn 0=jk:=by unfold bn;rw[jK];rfl
 have e1:(0:Rat).num.natAbs=0:=rfl;have e2:(0:Rat).den=1:=rfl;have e3:decide ((0:Rat).num<0)=false:=rfl;rw[e1,e2,e3,h]
theorem U7:gN=nB 1:=rfl
theorem QX{x y:NV}(neg:Bool)(hx:NOk x)(hy:NOk y)(lx:(an x.v).length<2^38)(ly:(an y.v).length<2^38):(y.v=0/\AP ab 69 [.bool neg,x.av,y.av]=some (.tup [zR.av,.int .i64 31])) \/
  (y.v≠0/\∃r:RV,AP ab 69 [.bool neg,x.av,y.av]=some (.tup [r.av,.int .i64 0])/\Can r (ew neg x.v y.v)/\r.fr=r/\r=nB (ew neg x.v y.v)):=by
 obtain ⟨kb,e0,e0'⟩:=QE hy.fr;have e1:=Ks hx.fr hy.fr lx ly;have v1:x.fr.v=x.v:=rfl;have v2:y.fr.v=y.v:=rfl;rw[v1,v2] at e1;rw[v2] at e0'
 have lg:(an (Nat.gcd x.v y.v)).length<2^38:=by
  by_cases h0:x.v=0
  .rw[h0,Nat.gcd_zero_left];exact ly
  .exact jG (kD (Nat.gcd_le_left _ (na h0))) lx
 have hg:NOk (bn (Nat.gcd x.v y.v)):=fw (by omega);have e3:=FI hx.fr hg (by rw[v1];omega) (by rw[dZ];omega);have e4:=FI hy.fr hg (by rw[v2];omega) (by rw[dZ];omega)
 by_cases h0:y.v=0
 .refine .inl ⟨h0,bT _ _ (uF zR (gH _ _)) rfl (m:=[cR zR]) ?_⟩;rw[FG];simp only[Nat.reduceAdd,aa,ar,cr,di,bc,dj,dh,bj,ba,bE,b6,cF,cu,cw,ct,cO,dw,dz,cS,cT,cQ,cP,dA,dB,cW,cX,cV,cU,dC,dD,c8,c9,cZ,cY,dE,dF,de,df,dd,dc,dG,dH,bY,bZ,cN,cJ,cL,cK,cg,ck,bB,cH,cG,aR,aX,aK,aZ,bm,bN,aL,bk,bH,dJ,cE,cC,dp,dn,bS,bU,b8,e0,Gw,aw];rw[aj (e0'.2 h0)]
 .refine .inr ⟨h0,?_⟩
  have yj:Nat.gcd x.v y.v≠0:=by
   have:=Nat.gcd_pos_of_pos_right x.v (na h0);omega
  unfold Gn at e3 e4;rw[dZ,ag yj,v1] at e3;rw[dZ,ag yj,v2] at e4
  refine ⟨⟨neg&&decide (x.v/Nat.gcd x.v y.v>0),bn (x.v/Nat.gcd x.v y.v),bn (y.v/Nat.gcd x.v y.v)⟩,?_,⟨(DJ h0).symm,?_,?_,vo _,vo _⟩,?_,?_⟩
  .refine (bT _ _ (uF ⟨neg&&decide (x.v/Nat.gcd x.v y.v>0),bn (x.v/Nat.gcd x.v y.v),bn (y.v/Nat.gcd x.v y.v)⟩ (gH .i64 0)) rfl (m:=[cR ⟨neg&&decide (x.v/Nat.gcd x.v y.v>0),bn (x.v/Nat.gcd x.v y.v),bn (y.v/Nat.gcd x.v y.v)⟩]) ?_).trans (by simp only[RV.fr,gZ]);rw[FG];simp only[Nat.reduceAdd,aa,ar,cr,di,bc,dj,dh,bj,ba,bE,b6,cF,cu,cw,ct,cO,dw,dz,cS,cT,cQ,cP,dA,dB,cW,cX,cV,cU,dC,dD,c8,c9,cZ,cY,dE,dF,de,df,dd,dc,dG,dH,bY,bZ,cN,cJ,cL,cK,cg,ck,bB,cH,cG,aR,aX,aK,aZ,bm,bN,aL,bk,bH,dJ,cE,cC,dp,dn,bS,bU,b8,e0,Gw,aw];rw[ag (fun h=>h0 (e0'.1 h))];simp only[Nat.reduceAdd,aa,ar,cr,di,bc,dj,dh,bj,ba,bE,b6,cF,cu,cw,ct,cO,dw,dz,cS,cT,cQ,cP,dA,dB,cW,cX,cV,cU,dC,dD,c8,c9,cZ,cY,dE,dF,de,df,dd,dc,dG,dH,bY,bZ,cN,cJ,cL,cK,cg,ck,bB,cH,cG,aR,aX,aK,aZ,bm,bN,aL,bk,bH,dJ,cE,cC,dp,dn,bS,bU,b8,e1,gZ,e3,e4,oo,sF]
   have hlen:decide ((an (x.v/Nat.gcd x.v y.v)).length>0)=decide (x.v/Nat.gcd x.v y.v>0):=mI.2 (by
    constructor
    .intro h;apply na;intro e;rw[e,jK] at h;simp at h
    .intro h;have:(an (x.v/Nat.gcd x.v y.v)).length≠0:=fun e=>by have:=mK.1 e;omega
     omega)
   cases neg with
   | false=>rfl
   | true=>
    rw[jj,hlen];simp only[Nat.reduceAdd,aa,ar,cr,di,bc,dj,dh,bj,ba,bE,b6,cF,cu,cw,ct,cO,dw,dz,cS,cT,cQ,cP,dA,dB,cW,cX,cV,cU,dC,dD,c8,c9,cZ,cY,dE,dF,de,df,dd,dc,dG,dH,bY,bZ,cN,cJ,cL,cK,cg,ck,bB,cH,cG,aR,aX,aK,aZ,bm,bN,aL,bk,bH,dJ,cE,cC,dp,dn,bS,bU,b8,ow]
  .rw[AW h0];exact jd _
  .rw[AX h0];exact jd _
  .simp only[RV.fr,gZ]
  .unfold nB;rw[AW h0,AX h0,DJ h0]
theorem qcy{r:RV}{k:Nat}(h:ROk k r)(hk:k<2^38):∃s:RV,AP ab 71 [r.av]=some s.av/\Can s r.q/\s.fr=s/\s=nB r.q:=by
 have ln:=b7 h.num.v_len h.ln;have ld:=b7 h.den.v_len h.ld
 rcases QX r.neg h.num.fr h.den.fr (by show (an r.num.v).length<_;omega) (by show (an r.den.v).length<_;omega) with ⟨h0,h1⟩|⟨h0,s,h1,h2,h3,h4⟩
 .refine ⟨jD,(bT _ _ (gA jD) (ib _) (m:=[cR r,cR jD,cR zR]) ?_).trans (by rw[uc]),?_,uc,?_⟩
  .rw[FH];simp only[Nat.reduceAdd,aa,ar,cr,di,bc,dj,dh,bj,ba,bE,b6,cF,cu,cw,ct,cO,dw,dz,cS,cT,cQ,cP,dA,dB,cW,cX,cV,cU,dC,dD,c8,c9,cZ,cY,dE,dF,de,df,dd,dc,dG,dH,bY,bZ,cN,cJ,cL,cK,cg,ck,bB,cH,cG,aR,aX,aK,aZ,bm,bN,aL,bk,bH,dJ,cE,cC,dp,dn,bS,bU,b8,h1,iL,aw];rw[aj (by decide)];simp only[Nat.reduceAdd,aa,ar,cr,di,bc,dj,dh,bj,ba,bE,b6,cF,cu,cw,ct,cO,dw,dz,cS,cT,cQ,cP,dA,dB,cW,cX,cV,cU,dC,dD,c8,c9,cZ,cY,dE,dF,de,df,dd,dc,dG,dH,bY,bZ,cN,cJ,cL,cK,cg,ck,bB,cH,cG,aR,aX,aK,aZ,bm,bN,aL,bk,bH,dJ,cE,cC,dp,dn,bS,bU,b8,FM]
  .have:r.den.v=0:=h0;rw[RV.q,this,yY];exact z8
  .have:r.den.v=0:=h0;rw[RV.q,this,yY];exact Xx
 .refine ⟨s,(bT _ _ (gA s) (ib _) (m:=[cR r,cR s,cR s]) ?_).trans (by rw[h3]),h2,h3,h4⟩;rw[FH];simp only[Nat.reduceAdd,aa,ar,cr,di,bc,dj,dh,bj,ba,bE,b6,cF,cu,cw,ct,cO,dw,dz,cS,cT,cQ,cP,dA,dB,cW,cX,cV,cU,dC,dD,c8,c9,cZ,cY,dE,dF,de,df,dd,dc,dG,dH,bY,bZ,cN,cJ,cL,cK,cg,ck,bB,cH,cG,aR,aX,aK,aZ,bm,bN,aL,bk,bH,dJ,cE,cC,dp,dn,bS,bU,b8,h1,iL,aw];rw[ag (by decide)]
theorem qcs{a b:RV}{k:Nat}(ha:ROk k a)(hb:ROk k b)(bu:1<=k)(hk:k<2^36):∃s:RV,AP ab 29 [a.av,b.av]=some s.av/\Can s (a.q*b.q)/\s.fr=s/\s=nB (a.q*b.q):=by
 obtain ⟨s,e1,e2,e3⟩:=tm ha.fr (by omega);obtain ⟨t,f1,f2,f3⟩:=tm hb.fr (by omega);rw[RV.fr_q] at e2 f2;have os:=e2.ok (ha.bd bu) (by omega);have ot:=f2.ok (hb.bd bu) (by omega);have eM:s.num.fr=s.num:=fE RV.num e3;have eS:s.den.fr=s.den:=fE RV.den e3;have mR:t.num.fr=t.num:=fE RV.num f3;have oN:t.den.fr=t.den:=fE RV.den f3;have ln:=kZ (b7 os.num.v_len os.ln) (b7 ot.num.v_len ot.ln);have ld:=kZ (b7 os.den.v_len os.ld) (b7 ot.den.v_len ot.ld);have g1:=tn os.num ot.num;have g3:=tn os.den ot.den;have on:NOk (bn (s.num.v*t.num.v)):=fw (by omega);have od:NOk (bn (s.den.v*t.den.v)):=fw (by omega);have qX:s.den.v*t.den.v≠0:=Nat.mul_ne_zero e2.den0 f2.den0;have hq:ew (s.neg != t.neg) (s.num.v*t.num.v) (s.den.v*t.den.v)=a.q*b.q:=by rw[<- DI,<- e2.q,<- f2.q];rfl
 rcases QX (s.neg != t.neg) on od (by rw[dZ];omega) (by rw[dZ];omega) with ⟨h0,_⟩|⟨_,r,h1,h2,h3,h4⟩
 .rw[dZ] at h0;exact absurd h0 qX
 .rw[dZ,dZ,hq] at h2;rw[dZ,dZ,hq] at h4;refine ⟨r,(bT _ _ (gA r) (ib _) (m:=[cR s,cR t,cR r,cR r]) ?_).trans (by rw[h3]),h2,h3,h4⟩;rw[Qr];simp only[Nat.reduceAdd,aa,ar,cr,di,bc,dj,dh,bj,ba,bE,b6,cF,cu,cw,ct,cO,dw,dz,cS,cT,cQ,cP,dA,dB,cW,cX,cV,cU,dC,dD,c8,c9,cZ,cY,dE,dF,de,df,dd,dc,dG,dH,bY,bZ,cN,cJ,cL,cK,cg,ck,bB,cH,cG,aR,aX,aK,aZ,bm,bN,aL,bk,bH,dJ,cE,cC,dp,dn,bS,bU,b8,e1,f1,eM,eS,mR,oN,g1,g3,gZ,h1]
theorem qcj{r:RV}{k:Nat}(h:ROk k r)(hk:k<2^38):∃s:RV,AP ab 118 [r.av]=some s.av/\Can s (-r.q)/\s.fr=s/\s=nB (-r.q):=by
 obtain ⟨s,e1,e2,e3,e4⟩:=qcy h.fr hk;rw[RV.fr_q] at e2 e4
 have hlen:∀b:Bool,decide (s.num.ds.length>0)=decide (r.q≠0):=by
  intro b;refine mI.2 ?_;have:=e2.len0
  constructor
  .intro h1 h2;have:=this.2 h2;omega
  .intro h1;have:s.num.ds.length≠0:=fun e=>h1 (this.1 e);omega
 have eM:s.num.fr=s.num:=fE RV.num e3;have eS:s.den.fr=s.den:=fE RV.den e3
 have hc:∀b:Bool,b=decide ((-r.q).num<0)->Can ⟨b,s.num,s.den⟩ (-r.q):=by
  intro b hb
  refine ⟨hb,?_,?_,e2.numz,e2.denz⟩
  .rw[Rat.neg_num,Int.natAbs_neg];exact e2.num
  .rw[Rat.neg_den];exact e2.den
 have hz:∀b:Bool,b=decide ((-r.q).num<0)->(⟨b,s.num,s.den⟩:RV)=nB (-r.q):=by
  intro b hb;have z1:s.num=bn r.q.num.natAbs:=fE RV.num e4;have z2:s.den=bn r.q.den:=fE RV.den e4;unfold nB;rw[z1,z2,Rat.neg_num,Int.natAbs_neg,Rat.neg_den,hb,Rat.neg_num]
 cases hn:s.neg with
 | true=>
  have hq:r.q.num<0:=by have:=e2.neg;rw[hn] at this;exact yP this.symm
  refine ⟨⟨false,s.num,s.den⟩,(bT _ _ (gA ⟨false,s.num,s.den⟩) (ib _) (m:=[cR ⟨false,s.num,s.den⟩,cR ⟨false,s.num,s.den⟩]) ?_).trans (by simp only[RV.fr,eM,eS]),hc false ?_,by simp only[RV.fr,eM,eS],hz false ?_⟩
  .rw[FE];simp only[Nat.reduceAdd,aa,ar,cr,di,bc,dj,dh,bj,ba,bE,b6,cF,cu,cw,ct,cO,dw,dz,cS,cT,cQ,cP,dA,dB,cW,cX,cV,cU,dC,dD,c8,c9,cZ,cY,dE,dF,de,df,dd,dc,dG,dH,bY,bZ,cN,cJ,cL,cK,cg,ck,bB,cH,cG,aR,aX,aK,aZ,bm,bN,aL,bk,bH,dJ,cE,cC,dp,dn,bS,bU,b8,e1,hn,gk,fF]
  .rw[Rat.neg_num];exact (kC (by omega)).symm
  .rw[Rat.neg_num];exact (kC (by omega)).symm
 | false=>
  have hq:¬ r.q.num<0:=by have:=e2.neg;rw[hn] at this;exact of_decide_eq_false this.symm
  refine ⟨⟨decide (r.q≠0),s.num,s.den⟩,(bT _ _ (gA ⟨decide (r.q≠0),s.num,s.den⟩) (ib _) (m:=[cR ⟨decide (r.q≠0),s.num,s.den⟩,cR ⟨decide (r.q≠0),s.num,s.den⟩]) ?_).trans (by simp only[RV.fr,eM,eS]),hc _ ?_,by simp only[RV.fr,eM,eS],hz _ ?_⟩
  .rw[FE];simp only[Nat.reduceAdd,aa,ar,cr,di,bc,dj,dh,bj,ba,bE,b6,cF,cu,cw,ct,cO,dw,dz,cS,cT,cQ,cP,dA,dB,cW,cX,cV,cU,dC,dD,c8,c9,cZ,cY,dE,dF,de,df,dd,dc,dG,dH,bY,bZ,cN,cJ,cL,cK,cg,ck,bB,cH,cG,aR,aX,aK,aZ,bm,bN,aL,bk,bH,dJ,cE,cC,dp,dn,bS,bU,b8,e1,hn,mZ,jj,fk,sF,hlen true]
  .rw[Rat.neg_num];refine mI.2 ?_;have h0:r.q=0↔r.q.num=0:=Rat.num_eq_zero.symm
   constructor
   .intro h1;have:r.q.num≠0:=fun e=>h1 (h0.2 e);omega
   .intro h1 h2;have:=h0.1 h2;omega
  .rw[Rat.neg_num];refine mI.2 ?_;have h0:r.q=0↔r.q.num=0:=Rat.num_eq_zero.symm
   constructor
   .intro h1;have:r.q.num≠0:=fun e=>h1 (h0.2 e);omega
   .intro h1 h2;have:=h0.1 h2;omega
end Go.Ab
namespace Go.Ab
open Go.Proofs.Try
def aO(f:Nat->AV)(n:Nat):Option Ent:=some (.obj false ((List.range n).map f))
section
variable {m:ae} {u n k:Nat} {f:Nat->AV}
theorem mD(hk:k<n):aJ none (.arr u 0 n none) (.int .i64 k)=some (.ptr u k):=qeW hk
theorem B7(h:m[u]?=some (aO f n))(hk:k<n):ai none m (.ptr u k)=some (f k):=by
 simp only[ai,jc h,aa,jU,o0];rw[List.getElem?_range hk];rfl
theorem vL(h:m[u]?=some (aO f n))(hk:k<n){v:AV}(hv:fZ v=true)(hc:v.cells=[v]):aA none m (.ptr u k) v=some (m.set u (aO (fun j=>if j=k then v else f j) n)):=by
 have hl:k+1<=((List.range n).map f).length:=by rw[gu,List.length_range];omega
 have e:ka ((List.range n).map f) k [v]=(List.range n).map fun j=>if j=k then v else f j:=by
  refine List.ext_getElem? fun t=>?_;rw[qiz (by rw[gu,List.length_range];exact hk),zK,o0,o0]
  by_cases ht:t<n
  .rw[List.getElem?_range ht]
   by_cases wv:k=t
   .subst wv;rw[aj rfl,aj (by rw[gu,List.length_range];exact hk)];simp
   .rw[ag wv];simp[show ¬ t=k from fun h=>wv h.symm]
  .rw[iC (by rw[List.length_range];omega),ag (by omega)]
   rfl
 simp only[aA,jc h,aa,Sh.size,aj hl,eP,hv,eC,hc];rw[e];rfl
theorem ux:aY false (.arr u 0 n none)=some (.int .i64 n):=rfl
theorem Rw{w:Nat}:aY false (.arr u 0 w (some 3))=some (.int .i64 w):=rfl
theorem xF{w j:Nat}(hj:j<w):aJ (some 3) (.arr u 0 w (some 3)) (.int .i64 j)=some (.ptr u (j*3)):=by
 show (if (some 3:Sh)=some 3 then if (0:Int)<=(j:Nat)/\((j:Nat):Int)<(w:Nat) then some (AV.ptr u (0+((j:Nat):Int).toNat*3)) else none else none)=_
 rw[aj rfl,aj (by omega),nG,aL]
end
def rN(R:Nat->Nat)(w:Nat):Nat->AV:=fun i=>.arr (R i) 0 w (some 3)
structure WR (S:Nat->Prop) (m:ae) (L:Nat) (R:Nat->Nat) (es:Nat->List RV) (nr w:Nat) (N:MX):Prop where
 hL:m[L]?=some (aO (rN R w) nr)
 hR:∀i,i<nr->m[R i]?=some (cA (es i))
 len:∀i,i<nr->(es i).length=w
 inj:∀i j,i<nr->j<nr->R i=R j->i=j
 nL:∀i,i<nr->R i≠L
 fr:∀i,i<nr->∀r∈es i,r.fr=r
 can:∀i j,i<nr->j<w->Can ((es i).getD j zR) (N i j)
 sR:∀i,i<nr->S (R i)
 sL:S L
def Ps(S:Nat->Prop)(m m':ae):Prop:=m.length<=m'.length/\∀p,p<m.length->¬ S p->m'[p]?=m[p]?
theorem Ps.refl(S:Nat->Prop)(m:ae):Ps S m m:=⟨aW _,fun _ _ _=>rfl⟩
theorem Ps.trans{S:Nat->Prop}{m m' m'':ae}(h:Ps S m m')(h':Ps S m' m''):Ps S m m'':=⟨b7 h.1 h'.1,fun p hp hn=>(h'.2 p (by have:=h.1;omega) hn).trans (h.2 p hp hn)⟩
theorem Ps.set{S:Nat->Prop}(m:ae){q:Nat}(e:Option Ent)(hq:S q):Ps S m (m.set q e):=⟨by rw[eB];exact aW _,fun p _ hn=>dM (fun h=>hn (by rw[<- h];exact hq))⟩
theorem Ps.app{S:Nat->Prop}(m e:ae):Ps S m (m++e):=⟨by rw[aK];omega,fun p hp _=>er hp⟩
theorem Ps.get{S:Nat->Prop}{m m':ae}(h:Ps S m m'){p:Nat}{x:Option Ent}(hm:m[p]?=some x)(hn:¬ S p):m'[p]?=some x:=(h.2 p (dX.1 hm).1 hn).trans hm
def qm(K nr w:Nat)(N:MX):Prop:=∀i j,i<nr->j<w->Bd K (N i j)
def Eo(K nr w t:Nat)(N:MX):Prop:=∀i j,i<nr->i≠t->j<w->Bd K (N i j)
section
variable {S:Nat->Prop} {m:ae} {L:Nat} {R:Nat->Nat} {es:Nat->List RV} {nr w:Nat} {N:MX}
theorem WR.keep(W:WR S m L R es nr w N){m':ae}(h:∀p,S p->p<m.length->m'[p]?=m[p]?):WR S m' L R es nr w N:=
 ⟨(h L W.sL (dX.1 W.hL).1).trans W.hL,fun i hi=>(h _ (W.sR i hi) (dX.1 (W.hR i hi)).1).trans (W.hR i hi),W.len,W.inj,W.nL,W.fr,W.can,W.sR,W.sL⟩
theorem WR.app(W:WR S m L R es nr w N)(e:ae):WR S (m++e) L R es nr w N:=W.keep fun p _ hp=>er hp
theorem WR.set(W:WR S m L R es nr w N){q:Nat}(e:Option Ent)(hq:¬ S q):WR S (m.set q e) L R es nr w N:=W.keep fun p hp _=>dM (fun h=>hq (by rw[h];exact hp))
theorem WR.congr(W:WR S m L R es nr w N){N':MX}(e:Iz nr w N N'):WR S m L R es nr w N':=
 ⟨W.hL,W.hR,W.len,W.inj,W.nL,W.fr,fun i j hi hj=>by rw[<- e i j hi hj];exact W.can i j hi hj,W.sR,W.sL⟩
theorem WR.ldR(W:WR S m L R es nr w N){i:Nat}(hi:i<nr):ai none m (.ptr L i)=some (.arr (R i) 0 w (some 3)):=B7 W.hL hi
theorem WR.ld(W:WR S m L R es nr w N){i j:Nat}(hi:i<nr)(hj:j<w):ai (some 3) m (.ptr (R i) (j*3))=some ((es i).getD j zR).av:=by
 have hl:j<(es i).length:=by rw[W.len i hi];exact hj
 rw[uy (W.hR i hi) hl,bA,jR hl];rfl
theorem WR.cfr(W:WR S m L R es nr w N){i j:Nat}(hi:i<nr)(hj:j<w):((es i).getD j zR).fr=(es i).getD j zR:=by
 have hl:j<(es i).length:=by rw[W.len i hi];exact hj
 rw[bA,jR hl];exact W.fr i hi _ (fH hl)
theorem WR.ok(W:WR S m L R es nr w N){i j K:Nat}(hi:i<nr)(hj:j<w)(hb:Bd K (N i j))(hK:K<2^40):ROk K ((es i).getD j zR):=(W.can i j hi hj).ok hb hK
theorem WR.st(W:WR S m L R es nr w N){i j:Nat}(hi:i<nr)(hj:j<w){v:RV}(fv:v.fr=v):aA (some 3) m (.ptr (R i) (j*3)) v.av=some (m.set (R i) (cA ((es i).set j v))):=
 F4 (W.hR i hi) (by rw[W.len i hi];exact hj) fv
theorem WR.put(W:WR S m L R es nr w N){i j:Nat}(hi:i<nr)(hj:j<w){v:RV}{q:Rat}(cv:Can v q)(fv:v.fr=v):WR S (m.set (R i) (cA ((es i).set j v))) L R (fun i'=>if i'=i then (es i).set j v else es i') nr w (fun a b=>if a=i/\b=j then q else N a b):=by
 refine ⟨?_,fun a ha=>?_,fun a ha=>?_,W.inj,W.nL,fun a ha r hr=>?_,fun a b ha hb=>?_,W.sR,W.sL⟩
 .rw[dM (W.nL i hi)];exact W.hL
 .by_cases h:a=i
  .subst h;simp only[eC];exact jO (dX.1 (W.hR a ha)).1
  .simp only[h,j6];rw[dM (fun e=>h (W.inj a i ha hi e.symm))];exact W.hR a ha
 .by_cases h:a=i
  .subst h;simp only[eC,eB];exact W.len a ha
  .simp only[h,j6];exact W.len a ha
 .by_cases h:a=i
  .subst h;simp only[eC] at hr
   rcases List.mem_or_eq_of_mem_set hr with h1|h1
   .exact W.fr a ha r h1
   .rw[h1];exact fv
  .simp only[h,j6] at hr;exact W.fr a ha r hr
 .by_cases h:a=i
  .subst h;simp only[eC,true_and]
   by_cases h2:b=j
   .subst h2;simp only[eC];rw[bA,jF (by rw[W.len a ha];exact hb)];exact cv
   .simp only[h2,j6];rw[bA,dM (fun e=>h2 e.symm),<- bA];exact W.can a b ha hb
  .simp only[h,j6,false_and];exact W.can a b ha hb
end
section
variable {S:Nat->Prop} {L:Nat} {R:Nat->Nat} {nr w n:Nat} {N:MX} {k top K:Nat} {x5 x6 x7:AV}
theorem Rl(hk:k<w)(hK:K<2^36)(hB:qm K nr w N)(hn:nr<=60){m:ae}{es:Nat->List RV}(W:WR S m L R es nr w N)(KK:KT)(x1:AV):∀(e a:Nat),a+e=nr ->
  ∃a',a<=a'/\a'<=nr/\(∀i,a<=i->i<a'->N i k=0)/\(a'<nr->N a' k≠0) /\
   Fb (.arr L 0 nr none) x1 x5 x6 x7 (.int .i64 top) (.int .i64 k) (.int .i64 a) m KK=KK (.exit 2) (Fu (.arr L 0 nr none) x1 x5 x6 x7 (.int .i64 top) (.int .i64 k) (.int .i64 a') m)
 | 0,a,ha=>by
  refine ⟨a,aW _,by omega,fun i h1 h2=>by omega,fun h=>by omega,?_⟩;rw[P7,ux,aa,bR,aa,aw,ag (by omega)]
 | e+1,a,ha=>by
  have kW:a<nr:=by omega
  have ok:=W.ok kW hk (hB a k kW hk) (by omega);have e8:=FQ ok (by omega);rw[(W.can a k kW hk).q] at e8;rw[P7,ux,aa,bR,aa,aw,aj kW,mD kW,aa,W.ldR kW,aa,xF hk,aa,W.ld kW hk,aa,bS,W.cfr kW hk,e8,ar,aa,iY,aa,NJ,aw]
  by_cases h0:N a k=0
  .obtain ⟨a',h1,h2,h3,h4,h5⟩:=Rl hk hK hB hn W KK x1 e (a+1) (by omega)
   refine ⟨a',by omega,h2,fun i Tt uM=>?_,h4,?_⟩
   .by_cases h:i=a
    .rw[h];exact h0
    .exact h3 i (by omega) uM
   .rw[aj h0,eF (by omega),aa];exact h5
  .refine ⟨a,aW _,by omega,fun i h1 h2=>by omega,fun _=>h0,?_⟩;rw[ag h0]
theorem Rj(ht:top<nr)(tw:1<=K)(hK:K<2^35)(hB:qm K nr w N)(hw:w<=60){bl:Nat}(r0:¬ S bl){lead:RV}{lq:Rat}(cl:Can lead lq)(fl:lead.fr=lead)(bq:Bd K lq)(l0:lq≠0)(KK:KT)(x1:AV):∀(e j:Nat) (m:ae) (es:Nat->List RV),j+e=w ->
  WR S m L R es nr w (kh N top lq j)->m[bl]?=some (cR lead) ->
  ∃(m':ae) (es':Nat->List RV),WR S m' L R es' nr w (kh N top lq w)/\Ps S m m' /\
   zE (.arr L 0 nr none) x1 x5 x6 x7 (.int .i64 top) (.int .i64 k) (.ptr bl 0) (.int .i64 w) (.int .i64 j) m KK=KK (.exit 4) (J3 (.arr L 0 nr none) x1 x5 x6 x7 (.int .i64 top) (.int .i64 k) m')
 | 0,j,m,es,hj,W,hl=>by
  obtain rfl:j=w:=by omega
  refine ⟨m,es,W,Ps.refl _ _,?_⟩;rw[P4,bR,aa,aw,ag (by omega)]
 | e+1,j,m,es,hj,W,hl=>by
  have jg:j<w:=by omega
  have eN:kh N top lq j top j=N top j:=by unfold kh;rw[ag (by omega)]
  have ok:=W.ok ht jg (K:=K) (by rw[eN];exact hB top j ht jg) (by omega);have ol:=cl.ok bq (by omega);obtain ⟨s,s1,s2,s3⟩:=qck ok ol tw (by omega) (by rw[cl.q];exact l0);rw[(W.can top j ht jg).q,eN,cl.q] at s2
  have W1:=(W.put ht jg s2 s3).congr (N':=kh N top lq (j+1)) fun a b ha hb=>by
   dsimp only;unfold kh
   by_cases h1:a=top
   .subst h1
    by_cases h2:b=j
    .subst h2;rw[aj ⟨rfl,rfl⟩,aj ⟨rfl,by omega⟩]
    .rw[ag (fun h=>h2 h.2)]
     by_cases h3:b<j
     .rw[aj ⟨rfl,h3⟩,aj ⟨rfl,by omega⟩]
     .rw[ag (fun h=>h3 h.2),ag (fun h=>by have:=h.2;omega)]
   .rw[ag (fun h=>h1 h.1),ag (fun h=>h1 h.1),ag (fun h=>h1 h.1)]
  obtain ⟨m',es',z1,z2,z3⟩:=Rj ht tw hK hB hw r0 cl fl bq l0 KK x1 e (j+1) _ _ (by omega) W1 (by rw[dM (fun h=>r0 (by rw[<- h];exact W.sR top ht))];exact hl);refine ⟨m',es',z1,(Ps.set _ _ (W.sR top ht)).trans z2,?_⟩;rw[P4,bR,aa,aw,aj jg,mD ht,aa,W.ldR ht,aa,aa,W.ldR ht,aa,xF jg,aa,W.ld ht jg,aa,je hl,aa,bU,W.cfr ht jg,fl,s1,ar,aa,pO,aa,pP,aa,aa];dsimp only;rw[W.st ht jg s3,aa,eF (by omega),aa];exact z3
def rW(N:MX)(t k i j:Nat):MX:=fun q c=>if (q<i/\q≠t)\/(q=i/\c<j) then N q c-N q k*N t c else N q c
theorem Rk(ht:top<nr){i:Nat}(hi:i<nr)(pT:i≠top)(ja:k<w)(tw:1<=K)(hK:K<2^34)(hB:Eo K nr w top N)(hT:∀j,j<w->Bd (K+K) (N top j))(hw:w<=60){bl:Nat}(r0:¬ S bl){by':RV}(cl:Can by' (N i k))(fl:by'.fr=by')(KK:KT)(x1:AV):∀(e j:Nat) (m:ae) (es:Nat->List RV),j+e=w ->
  WR S m L R es nr w (rW N top k i j)->m[bl]?=some (cR by') ->
  ∃(m':ae) (es':Nat->List RV),WR S m' L R es' nr w (rW N top k i w)/\Ps S m m' /\
   Fa (.arr L 0 nr none) x1 x5 x6 x7 (.int .i64 top) (.int .i64 k) (.int .i64 i) (.ptr bl 0) (.int .i64 nr) (.int .i64 i) (.int .i64 w) (.int .i64 j) m KK=KK (.exit 8) (J5 (.arr L 0 nr none) x1 x5 x6 x7 (.int .i64 top) (.int .i64 k) (.int .i64 nr) (.int .i64 i) m')
 | 0,j,m,es,hj,W,hl=>by
  obtain rfl:j=w:=by omega
  refine ⟨m,es,W,Ps.refl _ _,?_⟩;rw[P6,bR,aa,aw,ag (by omega)]
 | e+1,j,m,es,hj,W,hl=>by
  have jg:j<w:=by omega
  have eN:rW N top k i j i j=N i j:=by unfold rW;rw[ag (by omega)]
  have eT:rW N top k i j top j=N top j:=by unfold rW;rw[ag (by omega)]
  have ok:=W.ok hi jg (K:=K) (by rw[eN];exact hB i j hi pT jg) (by omega);have okt:=W.ok ht jg (K:=K+K) (by rw[eT];exact hT j jg) (by omega);have bq:=hB i k hi pT ja;have ol:=cl.ok bq (by omega);obtain ⟨p,p1,p2,p3⟩:=V29 (k:=K+K) (ol.mono (by omega)) okt (by omega) (by omega);rw[cl.q,(W.can top j ht jg).q,eT] at p2;have op:=p2.ok (k:=K+(K+K)) (zp bq (hT j jg) tw) (by omega);obtain ⟨s,s1,s2,s3⟩:=QD (k:=K+(K+K)) (ok.mono (by omega)) op (by omega) (by omega);rw[(W.can i j hi jg).q,eN,p2.q] at s2
  have W1:=(W.put hi jg s2 s3).congr (N':=rW N top k i (j+1)) fun a b ha hb=>by
   dsimp only;unfold rW
   by_cases h1:a=i
   .subst h1
    by_cases h2:b=j
    .subst h2;rw[aj ⟨rfl,rfl⟩,aj (.inr ⟨rfl,by omega⟩)]
    .rw[ag (fun h=>h2 h.2)]
     by_cases h3:b<j
     .rw[aj (.inr ⟨rfl,h3⟩),aj (.inr ⟨rfl,by omega⟩)]
     .rw[ag (by omega),ag (by omega)]
   .rw[ag (fun h=>h1 h.1)]
    by_cases h3:a<i/\a≠top
    .rw[aj (.inl h3),aj (.inl h3)]
    .rw[ag (fun h=>h.elim h3 fun h=>h1 h.1),ag (fun h=>h.elim h3 fun h=>h1 h.1)]
  obtain ⟨m',es',z1,z2,z3⟩:=Rk ht hi pT ja tw hK hB hT hw r0 cl fl KK x1 e (j+1) _ _ (by omega) W1 (by rw[dM (fun h=>r0 (by rw[<- h];exact W.sR i hi))];exact hl);refine ⟨m',es',z1,(Ps.set _ _ (W.sR i hi)).trans z2,?_⟩;rw[P6,bR,aa,aw,aj jg,mD hi,aa,W.ldR hi,aa,aa,W.ldR hi,aa,xF jg,aa,W.ld hi jg,aa,je hl,aa,mD ht,aa,W.ldR ht,aa,xF jg,aa,W.ld ht jg,aa,bU,fl,W.cfr ht jg,p1,ar,aa];dsimp only;rw[bU,W.cfr hi jg,p3,s1,ar,aa,aa];dsimp only;rw[W.st hi jg s3,aa,eF (by omega),aa];exact z3
theorem FW(ht:top<nr)(ja:k<w)(tw:1<=K)(hK:K<2^34)(hB:Eo K nr w top N)(hT:∀j,j<w->Bd (K+K) (N top j))(hw:w<=60)(hn:nr<=60)(KK:KT)(x1:AV):∀(e i:Nat) (m:ae) (es:Nat->List RV),i+e=nr->(∀p,S p->p<m.length) ->
  WR S m L R es nr w (kE N top k i) ->
  ∃(m':ae) (es':Nat->List RV),WR S m' L R es' nr w (kE N top k nr)/\Ps S m m' /\
   zF (.arr L 0 nr none) x1 x5 x6 x7 (.int .i64 top) (.int .i64 k) (.int .i64 nr) (.int .i64 i) m (BF KK)=(BF KK) (.exit 6) (J4 (.arr L 0 nr none) x1 x5 x6 x7 (.int .i64 top) (.int .i64 k) m')
 | 0,i,m,es,hi,hS,W=>by
  obtain rfl:i=nr:=by omega
  refine ⟨m,es,W,Ps.refl _ _,?_⟩;rw[P5,bR,aa,aw,ag (by omega)]
 | e+1,i,m,es,hi,hS,W=>by
  have aU:i<nr:=by omega
  rw[P5,bR,aa,aw,aj aU,yL,aa,aw]
  by_cases h1:i=top
  .have W1:=W.congr (N':=kE N top k (i+1)) fun a b ha hb=>by
    unfold kE
    by_cases h2:a<i/\a≠top
    .rw[aj h2,aj ⟨by omega,h2.2⟩]
    .rw[ag h2,ag (by omega)]
   obtain ⟨m',es',z1,z2,z3⟩:=FW ht ja tw hK hB hT hw hn KK x1 e (i+1) m es (by omega) hS W1;refine ⟨m',es',z1,z2,?_⟩;rw[aj h1,eF (by omega),aa];exact z3
  .have eN:kE N top k i i k=N i k:=by unfold kE;rw[ag (by omega)]
   have ok:=W.ok aU ja (K:=K) (by rw[eN];exact hB i k aU h1 ja) (by omega);have e8:=FQ ok (by omega);rw[(W.can i k aU ja).q,eN] at e8;rw[ag h1,mD aU,aa,W.ldR aU,aa,xF ja,aa,W.ld aU ja,aa,bS,W.cfr aU ja,e8,ar,aa,iY,aa,NJ,aw]
   by_cases h0:N i k=0
   .have W1:=W.congr (N':=kE N top k (i+1)) fun a b ha hb=>by
     unfold kE
     by_cases h2:a<i/\a≠top
     .rw[aj h2,aj ⟨by omega,h2.2⟩]
     .rw[ag h2]
      by_cases h3:a<i+1/\a≠top
      .obtain rfl:a=i:=by omega
       rw[aj h3,h0];grind
      .rw[ag h3]
    obtain ⟨m',es',z1,z2,z3⟩:=FW ht ja tw hK hB hT hw hn KK x1 e (i+1) m es (by omega) hS W1;refine ⟨m',es',z1,z2,?_⟩;rw[aj h0,eF (by omega),aa];exact z3
   .have cb:Can ((es i).getD k zR) (N i k):=by have:=W.can i k aU ja;rwa [eN] at this
    have r0:¬ S m.length:=fun h=>by have:=hS _ h;omega
    have W0:WR S (m++[cR ((es i).getD k zR)]) L R es nr w (rW N top k i 0):=(W.app _).congr fun a b ha hb=>by
     unfold kE rW
     by_cases h2:a<i/\a≠top
     .rw[aj h2,aj (.inl h2)]
     .rw[ag h2,ag (by omega)]
    obtain ⟨m1,es1,y1,y2,y3⟩:=Rk (x5:=x5) (x6:=x6) (x7:=x7) ht aU h1 ja tw hK hB hT hw r0 cb (W.cfr aU ja) (Jk (BF KK)) x1 w 0 _ _ (by omega) W0 bX
    have W1:=y1.congr (N':=kE N top k (i+1)) fun a b ha hb=>by
     unfold kE rW
     by_cases h2:(a<i/\a≠top)\/(a=i/\b<w)
     .rw[aj h2,aj (by omega)]
     .rw[ag h2,ag (by omega)]
    have jB:m.length+1<=m1.length:=by have:=y2.1;rw[aK] at this;exact this
    obtain ⟨m',es',z1,z2,z3⟩:=FW ht ja tw hK hB hT hw hn KK x1 e (i+1) m1 es1 (by omega) (fun p hp=>by have:=hS p hp;omega) W1;refine ⟨m',es',z1,((Ps.app m _).trans y2).trans z2,?_⟩;have gl:(m++[cR zR])[m.length]?=some (cR zR):=bX;have e12:(m++[cR zR]).set m.length (cR ((es i).getD k zR))=m++[cR ((es i).getD k zR)]:=by simp
    rw[ag h0,aa];dsimp only;rw[W.ldR aU,aa,xF ja,aa,W.ld aU ja,aa];simp only[tT,bc];rw[iV gl,aa,e12,aa,(W.app _).ldR aU,aa,Rw,aa];refine y3.trans ?_;rw[qav,eF (by omega),aa];exact z3
end
end Go.Ab
namespace Go.Ab
open Go.Proofs.Try
def ma(tk:Nat->Int):Nat->Nat
 | 0=>0
 | k+1=>ma tk k+if 0<=tk k then 1 else 0
theorem Ge{f g:Nat->Int}:∀{k:Nat},(∀j,j<k->f j=g j)->ma f k=ma g k
 | 0,_=>rfl
 | k+1,h=>by rw[ma,ma,Ge fun j hj=>h j (by omega),h k (by omega)]
def iN(tk:Nat->Int):Nat->AV:=fun j=>.int .i64 (tk j)
theorem Uf(tk:Nat->Int)(k:Nat)(v:Int):(fun j=>if j=k then AV.int .i64 v else iN tk j)=iN (fun j=>if j=k then v else tk j):=by
 funext j;by_cases h:j=k<;>simp[iN,h]
theorem qjy{K nr w:Nat}{N:MX}(hK:1<=K)(hB:qm K nr w N){t a k:Nat}(ht:t<nr)(ha:a<nr)(hk:k<w)(hp:N a k≠0) :
  qm K nr w (iA N t a)/\Eo K nr w t (kh (iA N t a) t (N a k) w)/\(∀j,j<w->Bd (K+K) (kh (iA N t a) t (N a k) w t j))/\qm (4*K+1) nr w (kE (kh (iA N t a) t (N a k) w) t k nr):=by
 have b1:qm K nr w (iA N t a):=fun i j hi hj=>by
  unfold iA
  by_cases e:a=t
  .rw[aj e];exact hB i j hi hj
  .rw[ag e];unfold mX
   by_cases h1:i=t
   .rw[aj h1];exact hB a j ha hj
   .rw[ag h1]
    by_cases h2:i=a
    .rw[aj h2];exact hB t j ht hj
    .rw[ag h2];exact hB i j hi hj
 have b2:Eo K nr w t (kh (iA N t a) t (N a k) w):=fun i j hi aE hj=>by
  unfold kh;rw[ag (fun h=>aE h.1)];exact b1 i j hi hj
 have b3:∀j,j<w->Bd (K+K) (kh (iA N t a) t (N a k) w t j):=fun j hj=>by
  unfold kh;rw[aj ⟨rfl,hj⟩];exact IC (b1 t j ht hj) (hB a k ha hk) hK hp
 refine ⟨b1,b2,b3,fun i j hi hj=>?_⟩;unfold kE
 by_cases h:i<nr/\i≠t
 .rw[aj h];exact (Of (b2 i j hi h.2 hj) (zp (b2 i k hi h.2 hk) (b3 j hj) hK) hK).mono (by omega)
 .rw[ag h];have:i=t:=jv fun e=>h ⟨hi,e⟩;rw[this];exact (b3 j hj).mono (by omega)
section
variable {S:Nat->Prop} {L nr w n T bd br L0 K0:Nat} {M:MX} {m0:ae}
structure Mid (S:Nat->Prop) (L nr w n T bd br L0 K0:Nat) (M:MX) (m0 m:ae) (R:Nat->Nat) (es:Nat->List RV) (N:MX) (k top:Nat) (cs:Nat->Nat) (s dv:Rat) (D:RV) (tk:Nat->Int):Prop where
 W:WR S m L R es nr w N
 G:GJ nr w M N k top cs s dv
 B:qm (kk K0 k) nr w N
 hD:m[bd]?=some (cR D)
 cD:Can D dv
 fD:D.fr=D
 zD:D=nB dv
 bD:Bd (1+k*kk K0 n) dv
 hT:m[T]?=some (aO (iN tk) n)
 cnt:ma tk k=top
 hbr:m[br]?=some (cR zR)
 hS:∀p,S p->p<m.length
 keep:∀p,p<L0->¬ S p->m[p]?=m0[p]?
 len:L0<=m.length
structure Fix (S:Nat->Prop) (nr w n T bd br L0 K0:Nat):Prop where
 nw:n<=w
 w60:w<=60
 n60:nr<=60
 k1:1<=K0
 kb:1+n*kk K0 n<2^34
 kb2:kk K0 n<2^34
 sT:¬ S T
 sd:¬ S bd
 sr:¬ S br
 Td:T≠bd
 Tr:T≠br
 dr:bd≠br
 lT:L0<=T
 ld:L0<=bd
 lr:L0<=br
variable {R:Nat->Nat} {es:Nat->List RV} {N:MX} {k top:Nat} {cs:Nat->Nat} {s dv:Rat} {D:RV} {tk:Nat->Int} {m:ae}
theorem Fix.kt(F:Fix S nr w n T bd br L0 K0)(hk:k<n):1<=kk K0 k/\4*kk K0 k+1<=kk K0 n/\kk K0 k<=kk K0 n:=
 ⟨b7 F.k1 (mf K0 (jH k)),mf K0 (show k+1<=n from hk),mf K0 (by omega)⟩
theorem Mid.skip(H:Mid S L nr w n T bd br L0 K0 M m0 m R es N k top cs s dv D tk)(F:Fix S nr w n T bd br L0 K0)(hk:k<n)(h:∀i,top<=i->i<nr->N i k=0) :
  Mid S L nr w n T bd br L0 K0 M m0 ((m.set T (aO (iN fun j=>if j=k then -1 else tk j) n)).set bd (cR jD)) R es N (k+1) top cs s 0 jD (fun j=>if j=k then -1 else tk j) where
 W:=(H.W.set _ F.sT).set _ F.sd
 G:=H.G.skip (by have:=F.nw;omega) h
 B:=fun i j hi hj=>(H.B i j hi hj).mono (mf K0 (by omega))
 hD:=jO (by rw[eB];exact (dX.1 H.hD).1)
 cD:=z8
 fD:=uc
 zD:=Xx
 bD:=Bv (by omega)
 hT:=by rw[dM (fun e=>F.Td e.symm)];exact jO (dX.1 H.hT).1
 cnt:=by
  rw[ma,Ge (g:=tk) fun j hj=>ag (by omega),H.cnt];simp
 hbr:=by rw[dM F.dr,dM F.Tr];exact H.hbr
 hS:=fun p hp=>by rw[eB,eB];exact H.hS p hp
 keep:=fun p hp hn=>by rw[dM (by have:=F.ld;omega),dM (by have:=F.lT;omega)];exact H.keep p hp hn
 len:=by rw[eB,eB];exact H.len
theorem WS(F:Fix S nr w n T bd br L0 K0)(hk:k<n){a:Nat}(qW:top<=a)(ha:a<nr)(hp:N a k≠0)(G:GJ nr w M N k top cs s dv)(B:qm (kk K0 k) nr w N)
  (W:WR S m L R es nr w (iA N top a)) (hD:m[bd]?=some (cR D)) (cD:Can D (dv*ml top a)) (fD:D.fr=D) (bD:Bd (1+k*kk K0 n) (dv*ml top a)) (hT:m[T]?=some (aO (iN tk) n)) (cnt:ma tk k=top) (hbr:m[br]?=some (cR zR)) (hS:∀p,S p->p<m.length) (keep:∀p,p<L0->¬ S p->m[p]?=m0[p]?) (len:L0<=m.length) (KK:KT) :
  ∃(m':ae) (es':Nat->List RV) (N':MX) (D':RV),Mid S L nr w n T bd br L0 K0 M m0 m' R es' N' (k+1) (top+1) (fun i=>if i=top then k else cs i) (1/N a k*(ml top a*s)) (dv*ml top a*N a k) D' (fun j=>if j=k then (top:Int) else tk j) /\
   ((aJ none (.arr L 0 nr none) (.int .i64 top)).bind fun v30=>
 (ai none m v30).bind fun ki=>
 (aJ (some 3) ki (.int .i64 k)).bind fun kS=>
 (ai (some 3) m kS).bind fun lA=>
 (aA (some 3) (ak none m (.obj true [(.bool false),(.lst none true .full []),(.lst none true .full [])])).2 (.ptr (ak none m .resv).1 0) lA).bind fun m34=>
 (ai (some 3) m34 (.ptr bd 0)).bind fun lB=>
 (ai (some 3) m34 (.ptr (ak none m .resv).1 0)).bind fun ry=>
 (ao (AP ab) none m34 29 [lB,ry]).bind fun sM=>
 (aA (some 3) sM.2 (.ptr bd 0) sM.1).bind fun m38=>
 (aJ none (.arr L 0 nr none) (.int .i64 top)).bind fun rz=>
 (ai none m38 rz).bind fun ta=>
 (aY false ta).bind fun vy=>
 zE (.arr L 0 nr none) (.int .i64 n) (.ptr br 0) (.ptr bd 0) (.arr T 0 n none) (.int .i64 top) (.int .i64 k) (.ptr (ak none m .resv).1 0) vy (.int .i64 0) m38 (BE KK)) =
   zG (.arr L 0 nr none) (.int .i64 n) (.ptr br 0) (.ptr bd 0) (.arr T 0 n none) (.int .i64 (top+1:Nat)) (.int .i64 (k+1:Nat)) m' KK:=by
 have ht:top<nr:=by omega
 have ja:k<w:=by have:=F.nw;omega
 obtain ⟨k1,k2,k3⟩:=F.kt hk;have kb:=F.kb;have kb2:=F.kb2;have w60:=F.w60;have n60:=F.n60;obtain ⟨b1,b2,b3,b4⟩:=qjy k1 B ht ha ja hp;have CW:iA N top a top k=N a k:=Ij N top a k;have cl:=W.can top k ht ja;rw[CW] at cl;have fl:=W.cfr ht ja;have ol:=cl.ok (B a k ha ja) (by omega);have wu:k*kk K0 n+kk K0 n=(k+1)*kk K0 n:=by rw[fI,nH]
 have qkx:(k+1)*kk K0 n<=n*kk K0 n:=fW _ hk;have oD:=cD.ok bD (by omega)
 obtain ⟨D2,d1,d2,d3,d4⟩:=qcs (k:=1+n*kk K0 n) (oD.mono (by omega)) (ol.mono (by
  rcases Nat.eq_zero_or_pos n with h0|h0
  .omega
  .have:1*kk K0 n<=n*kk K0 n:=fW _ h0
   omega)) (by omega) (by omega)
 rw[cD.q,cl.q] at d2 d4;have bd2:Bd (1+(k+1)*kk K0 n) (dv*ml top a*N a k):=(zp bD (B a k ha ja) (by omega)).mono (by omega);have oL:bd<m.length:=(dX.1 hD).1;have TD:T<m.length:=(dX.1 hT).1;have hlr:br<m.length:=(dX.1 hbr).1;have sq:¬ S m.length:=fun h=>by have:=hS _ h;omega
 have gl:(m++[cR zR])[m.length]?=some (cR zR):=bX;have e12:(m++[cR zR]).set m.length (cR ((es top).getD k zR))=m++[cR ((es top).getD k zR)]:=by simp
 obtain ⟨lead,hle⟩:∃lead,lead=(es top).getD k zR:=⟨_,rfl⟩;rw[<- hle] at e12 cl fl ol d1;have W1:WR S ((m++[cR lead]).set bd (cR D2)) L R es nr w (kh (iA N top a) top (N a k) 0):=((W.app _).set _ F.sd).congr fun i j _ _=>by unfold kh;rw[ag (by omega)]
 have gq:((m++[cR lead]).set bd (cR D2))[m.length]?=some (cR lead):=by rw[dM (by omega)];exact bX
 obtain ⟨m1,es1,x1,x2,x3⟩:=Rj (k:=k) (x5:=.ptr br 0) (x6:=.ptr bd 0) (x7:=.arr T 0 n none) ht k1 (by omega) b1 w60 sq cl fl (B a k ha ja) hp (BE KK) (.int .i64 n) w 0 _ es (by omega) W1 gq;have l1:=x2.1;rw[eB,aK] at l1;have CJ:∀p,S p->p<m1.length:=fun p hp=>by have:=hS p hp;omega
 have W2:WR S m1 L R es1 nr w (kE (kh (iA N top a) top (N a k) w) top k 0):=x1.congr fun i j _ _=>by unfold kE;rw[ag (by omega)]
 obtain ⟨m2,es2,y1,y2,y3⟩:=FW (k:=k) (x5:=.ptr br 0) (x6:=.ptr bd 0) (x7:=.arr T 0 n none) ht ja k1 (by omega) b2 b3 w60 n60 KK (.int .i64 n) nr 0 m1 es1 (by omega) CJ W2;have x2y2:=x2.trans y2;have l2:=x2y2.1;rw[eB,aK] at l2;have g2:∀{p:Nat} {z:Option Ent},¬ S p->p≠bd->m[p]?=some z->m2[p]?=some z:=fun hn aE h=>x2y2.get (by rw[dM (fun e=>aE e.symm)];exact fM h) hn;have SU:=g2 F.sT F.Td hT;have jz:m2[bd]?=some (cR D2):=x2y2.get (jO (by rw[aK];omega)) F.sd
 have eD:aA none m2 (.ptr T k) (.int .i64 top)=some (m2.set T (aO (iN fun j=>if j=k then (top:Int) else tk j) n)):=by
  rw[vL SU hk rfl rfl,Uf]
 have Gt:=G.take ja qW ha hp
 refine ⟨m2.set T (aO (iN fun j=>if j=k then (top:Int) else tk j) n),es2,qD N top a k w nr,D2,⟨?_,Gt,?_,?_,d2,d3,d4,bd2,?_,?_,?_,?_,?_,?_⟩,?_⟩
 .have:qD N top a k w nr=kE (kh (iA N top a) top (N a k) w) top k nr:=by unfold qD;rw[CW]
  rw[this];exact y1.set _ F.sT
 .have:qD N top a k w nr=kE (kh (iA N top a) top (N a k) w) top k nr:=by unfold qD;rw[CW]
  rw[this];exact b4
 .rw[dM F.Td];exact jz
 .exact jO (dX.1 SU).1
 .rw[ma,Ge (g:=tk) fun j hj=>ag (by omega),cnt];simp
 .rw[dM F.Tr];exact g2 F.sr (fun e=>F.dr e.symm) hbr
 .intro p hp;rw[eB];have:=hS p hp;omega
 .intro p hp hn;have hpb:p≠bd:=by have:=F.ld;omega
  rw[dM (by have:=F.lT;omega),x2y2.2 p (by rw[eB,aK];omega) hn,dM (fun e=>hpb e.symm),er (by omega)];exact keep p hp hn
 .rw[eB];omega
 .rw[mD ht,aa,W.ldR ht,aa,xF ja,aa,W.ld ht ja,aa,<- hle];simp only[tT,bc];rw[iV gl,aa,e12,je (fM hD),aa,je bX,aa,bU,fD,fl,d1,ar,aa];dsimp only;rw[iV (fM hD),aa,aa,((W.app _).set _ F.sd).ldR ht,aa,Rw,aa];refine x3.trans ?_;rw[qan,ux,aa];refine y3.trans ?_;rw[qar,mD hk,aa,eD,aa,eF (by omega),aa,eF (by omega),aa]
end
end Go.Ab
namespace Go.Ab
open Go.Proofs.Try
def wY{α:Type}(f:Nat->α)(t a:Nat):Nat->α:=fun j=>if j=t then f a else if j=a then f t else f j
section
variable {S:Nat->Prop} {L nr w n T bd br L0 K0:Nat} {M:MX} {m0:ae}
theorem WR.swap{m:ae}{R:Nat->Nat}{es:Nat->List RV}{N:MX}(W:WR S m L R es nr w N){t a:Nat}(ht:t<nr)(ha:a<nr)(aE:a≠t)(e1:Option Ent) :
  WR S ((m.set L e1).set L (aO (fun j=>if j=t then rN R w a else if j=a then rN R w t else rN R w j) nr)) L (wY R t a) (wY es t a) nr w (iA N t a):=by
 have hf:(fun j=>if j=t then rN R w a else if j=a then rN R w t else rN R w j)=rN (wY R t a) w:=by
  funext j;unfold rN wY
  by_cases h1:j=t
  .rw[aj h1,aj h1]
  .rw[ag h1,ag h1]
   by_cases h2:j=a
   .rw[aj h2,aj h2]
   .rw[ag h2,ag h2]
 have lt:∀i,i<nr->∃j,j<nr/\wY R t a i=R j/\wY es t a i=es j/\(∀c,iA N t a i c=N j c):=fun i hi=>by
  unfold wY iA;rw[ag aE];unfold mX
  by_cases h1:i=t
  .exact ⟨a,ha,by rw[aj h1],by rw[aj h1],fun c=>by rw[aj h1]⟩
  .by_cases h2:i=a
   .exact ⟨t,ht,by rw[ag h1,aj h2],by rw[ag h1,aj h2],fun c=>by rw[ag h1,aj h2]⟩
   .exact ⟨i,hi,by rw[ag h1,ag h2],by rw[ag h1,ag h2],fun c=>by rw[ag h1,ag h2]⟩
 have hlL:=(dX.1 W.hL).1
 refine ⟨?_,fun i hi=>?_,fun i hi=>?_,fun i j hi hj he=>?_,fun i hi=>?_,fun i hi=>?_,fun i j hi hj=>?_,fun i hi=>?_,W.sL⟩
 .rw[hf];exact jO (by rw[eB];exact hlL)
 .obtain ⟨j,hj,q1,q2,_⟩:=lt i hi;rw[q1,q2,dM (fun e=>W.nL j hj e.symm),dM (fun e=>W.nL j hj e.symm)];exact W.hR j hj
 .obtain ⟨j,hj,_,q2,_⟩:=lt i hi;rw[q2];exact W.len j hj
 .unfold wY at he
  by_cases h1:i=t
  .rw[aj h1] at he
   by_cases h2:j=t
   .omega
   .rw[ag h2] at he
    by_cases h3:j=a
    .rw[aj h3] at he;have:=W.inj a t ha ht he;omega
    .rw[ag h3] at he;have:=W.inj a j ha hj he;omega
  .rw[ag h1] at he
   by_cases h4:i=a
   .rw[aj h4] at he
    by_cases h2:j=t
    .rw[aj h2] at he;have:=W.inj t a ht ha he;omega
    .rw[ag h2] at he
     by_cases h3:j=a
     .omega
     .rw[ag h3] at he;have:=W.inj t j ht hj he;omega
   .rw[ag h4] at he
    by_cases h2:j=t
    .rw[aj h2] at he;have:=W.inj i a hi ha he;omega
    .rw[ag h2] at he
     by_cases h3:j=a
     .rw[aj h3] at he;have:=W.inj i t hi ht he;omega
     .rw[ag h3] at he;exact W.inj i j hi hj he
 .obtain ⟨j,hj,q1,_,_⟩:=lt i hi;rw[q1];exact W.nL j hj
 .obtain ⟨j,hj,_,q2,_⟩:=lt i hi;rw[q2];exact W.fr j hj
 .obtain ⟨i',hi',_,q2,q3⟩:=lt i hi;rw[q2,q3];exact W.can i' j hi' hj
 .obtain ⟨j,hj,q1,_,_⟩:=lt i hi;rw[q1];exact W.sR j hj
set_option maxHeartbeats 2000000 in
theorem FX(F:Fix S nr w n T bd br L0 K0)(sL:S L):∀(e k:Nat) (m:ae) (R:Nat->Nat) (es:Nat->List RV) (N:MX) (top:Nat) (cs:Nat->Nat) (s dv:Rat) (D:RV) (tk:Nat->Int),k+e=n ->
  Mid S L nr w n T bd br L0 K0 M m0 m R es N k top cs s dv D tk ->
  ∃(m':ae) (R':Nat->Nat) (es':Nat->List RV) (N':MX) (top':Nat) (cs':Nat->Nat) (s' dv':Rat) (D':RV) (tk':Nat->Int),Mid S L nr w n T bd br L0 K0 M m0 m' R' es' N' n top' cs' s' dv' D' tk' /\
   zG (.arr L 0 nr none) (.int .i64 n) (.ptr br 0) (.ptr bd 0) (.arr T 0 n none) (.int .i64 top) (.int .i64 k) m (zu (aN ab.P f91.results.toList))=some (.tup [.arr T 0 n none,D'.av],m'.set br (cR D'))
 | 0,k,m,R,es,N,top,cs,s,dv,D,tk,hk,H=>by
  obtain rfl:k=n:=by omega
  refine ⟨m,R,es,N,top,cs,s,dv,D,tk,H,?_⟩;rw[Jt,bR,aa,aw,ag (by omega),Pd,je H.hD,aa,iV H.hbr,aa,je (jO (dX.1 H.hbr).1),aa]
 | e+1,k,m,R,es,N,top,cs,s,dv,D,tk,hk,H=>by
  have wu:k<n:=by omega
  have ja:k<w:=by have:=F.nw;omega
  obtain ⟨k1,k2,k3⟩:=F.kt wu;have kb:=F.kb;have kb2:=F.kb2;have w60:=F.w60;have n60:=F.n60;have sv:top<=nr:=H.G.ec.ech.le
  have eD:aA none m (.ptr T k) (.int .i64 (-1))=some (m.set T (aO (iN fun j=>if j=k then -1 else tk j) n)):=by
   rw[vL H.hT wu rfl rfl,Uf]
  have W1:=H.W.set (aO (iN fun j=>if j=k then -1 else tk j) n) F.sT
  obtain ⟨a,a1,a2,a3,a4,a5⟩:=Rl (x5:=.ptr br 0) (x6:=.ptr bd 0) (x7:=.arr T 0 n none) (top:=top) ja (by omega) H.B n60 W1 (Jl (zu (aN ab.P f91.results.toList))) (.int .i64 n) (nr-top) top (by omega);have TD:=(dX.1 H.hT).1
  have Ao:(m.set T (aO (iN fun j=>if j=k then -1 else tk j) n))[bd]?=some (cR D):=by rw[dM F.Td];exact H.hD
  have Mc:(m.set T (aO (iN fun j=>if j=k then -1 else tk j) n))[br]?=some (cR zR):=by rw[dM F.Tr];exact H.hbr
  have Ls:(m.set T (aO (iN fun j=>if j=k then -1 else tk j) n))[T]?=some (aO (iN fun j=>if j=k then -1 else tk j) n):=jO TD
  have CJ:∀p,S p->p<(m.set T (aO (iN fun j=>if j=k then -1 else tk j) n)).length:=fun p hp=>by rw[eB];exact H.hS p hp
  have ph:ma (fun j=>if j=k then -1 else tk j) k=top:=by rw[Ge (g:=tk) fun j hj=>ag (by omega),H.cnt]
  have LN:∀p,p<L0->¬ S p->(m.set T (aO (iN fun j=>if j=k then -1 else tk j) n))[p]?=m0[p]?:=fun p hp hn=>by rw[dM (by have:=F.lT;omega)];exact H.keep p hp hn
  have wy:L0<=(m.set T (aO (iN fun j=>if j=k then -1 else tk j) n)).length:=by rw[eB];exact H.len
  rw[Jt,bR,aa,aw,aj wu,mD wu,aa,eD,aa,a5,qaB,ux,aa,yL,aa,aw]
  by_cases TN:a=nr
  .rw[aj TN,DH,FM,ar,aa,iV Ao,aa,eF (by omega),aa];exact FX F sL e (k+1) _ R es N top cs s 0 jD _ (by omega) (H.skip F wu fun i h1 h2=>a3 i h1 (by omega))
  .have ya:a<nr:=by omega
   have hp:=a4 ya;rw[ag TN,DF,aa,aw]
   by_cases gX:a=top
   .rw[ag (fun h=>h gX)];subst gX;have e1:ml a a=1:=aj rfl;have e2:dv*ml a a=dv:=by rw[e1];grind
    obtain ⟨m',es',N',D',z1,z2⟩:=WS F wu (a:=a) (aW _) ya hp H.G H.B (by rw[qjL];exact W1) Ao (by rw[e2];exact H.cD) H.fD (by rw[e2];exact H.bD) Ls ph Mc CJ LN wy (zu (aN ab.P f91.results.toList));obtain ⟨m2,R2,es2,N2,top2,cs2,s2,dv2,D2,tk2,y1,y2⟩:=FX F sL e (k+1) m' R es' N' (a+1) _ _ _ D' _ (by omega) z1;exact ⟨m2,R2,es2,N2,top2,cs2,s2,dv2,D2,tk2,y1,z2.trans y2⟩
   .have ht:top<nr:=by omega
    have e1:ml top a=-1:=ag gX
    have oD:=H.cD.ok H.bD (by
     have:k*kk K0 n<=n*kk K0 n:=fW _ (by omega)
     omega)
    obtain ⟨Dn,d1,d2,d3,_⟩:=qcj oD (by
     have:k*kk K0 n<=n*kk K0 n:=fW _ (by omega)
     omega)
    rw[H.cD.q] at d2;have e2:dv*ml top a=-dv:=by rw[e1];grind
    obtain ⟨m3,uQ⟩:∃m3,m3=m.set T (aO (iN fun j=>if j=k then -1 else tk j) n):=⟨_,rfl⟩
    rw[<- uQ] at W1 Ao Mc Ls CJ LN wy ⊢
    have ns:∀{p:Nat} {z:Option Ent} (X Y:Option Ent),¬ S p->m3[p]?=some z->((m3.set L X).set L Y)[p]?=some z:=fun {p} {z} X Y hn h=>by
     have aE:L≠p:=fun e=>hn (by rw[<- e];exact sL);rw[dM aE,dM aE];exact h
    have s1:aA none m3 (.ptr L a) (.arr (R top) 0 w (some 3))=some (m3.set L (aO (fun j=>if j=a then rN R w top else rN R w j) nr)):=vL W1.hL ya rfl rfl
    have Lk:(m3.set L (aO (fun j=>if j=a then rN R w top else rN R w j) nr))[L]?=some (aO (fun j=>if j=a then rN R w top else rN R w j) nr):=jO (dX.1 W1.hL).1
    have s2:aA none (m3.set L (aO (fun j=>if j=a then rN R w top else rN R w j) nr)) (.ptr L top) (.arr (R a) 0 w (some 3))=some ((m3.set L (aO (fun j=>if j=a then rN R w top else rN R w j) nr)).set L (aO (fun j=>if j=top then rN R w a else if j=a then rN R w top else rN R w j) nr)):=vL Lk ht rfl rfl
    have W2:=W1.swap ht ya gX (aO (fun j=>if j=a then rN R w top else rN R w j) nr)
    rw[aj gX,mD ht,aa,W1.ldR ht,aa,mD ya,aa,W1.ldR ya,aa,aa,s1,aa,aa,s2,aa,je (ns _ _ F.sd Ao),aa,bS,H.fD,d1,ar,aa];dsimp only;rw[iV (ns _ _ F.sd Ao),aa]
    obtain ⟨m4,GZ⟩:∃m4,m4=(m3.set L (aO (fun j=>if j=a then rN R w top else rN R w j) nr)).set L (aO (fun j=>if j=top then rN R w a else if j=a then rN R w top else rN R w j) nr):=⟨_,rfl⟩
    have ns':∀{p:Nat} {z:Option Ent},¬ S p->m3[p]?=some z->m4[p]?=some z:=fun hn h=>by rw[GZ];exact ns _ _ hn h
    rw[<- GZ] at W2 ⊢;have LP:m4.length=m3.length:=by rw[GZ,eB,eB]
    have r0:bd<m4.length:=by rw[LP];exact (dX.1 Ao).1
    obtain ⟨m',es',N',D',z1,z2⟩:=WS (m0:=m0) (m:=m4.set bd (cR Dn)) F wu (a:=a) a1 ya hp H.G H.B (W2.set _ F.sd) (jO r0) (by rw[e2];exact d2) d3 (by rw[e2];exact Ep H.bD) (by rw[dM (fun e=>F.Td e.symm)];exact ns' F.sT Ls) ph (by rw[dM F.dr];exact ns' F.sr Mc) (fun p hp=>by rw[eB,LP];exact CJ p hp)
     (fun p hp hn=>by
      have aE:L≠p:=fun e=>hn (by rw[<- e];exact sL);rw[dM (by have:=F.ld;omega),GZ,dM aE,dM aE]
      exact LN p hp hn) (by rw[eB,LP];exact wy) (zu (aN ab.P f91.results.toList))
    obtain ⟨m2,R2,es2,N2,top2,cs2,s2',dv2,D2,tk2,y1,y2⟩:=FX F sL e (k+1) m' _ es' N' (top+1) _ _ _ D' _ (by omega) z1;refine ⟨m2,R2,es2,N2,top2,cs2,s2',dv2,D2,tk2,y1,?_⟩;rw[<- mD (u:=L) ht];exact z2.trans y2
end
theorem Ho{e bytes n:Nat}{z:AV}{m:ae}(hb:n*bytes<=281474976710656)(hn:n<=60):jM none e none z bytes m (.int .i64 n) (.int .i64 n)=some (.arr m.length 0 n none,m++[aO (fun _=>z) n]):=by
 have hz:(some (.obj false (ud none z n)):Option Ent)=aO (fun _=>z) n:=by
  show some (Ent.obj false (List.replicate n z))=some (Ent.obj false ((List.range n).map fun _=>z));rw[List.map_const',List.length_range]
 have fm:((n:Nat):Int)*(bytes:Nat)<=281474976710656:=by rw[<- l5];omega
 unfold jM;simp only;rw[aj ⟨by omega,Int.le_refl _,fm,by omega⟩,aj trivial,nG,<- hz]
 rfl
structure Out91 (S:Nat->Prop) (L nr w n K0:Nat) (M:MX) (m m':ae) (D:RV) (T:Nat) (tk:Nat->Int) (R:Nat->Nat) (es:Nat->List RV) (N:MX) (top:Nat) (cs:Nat->Nat) (s dv:Rat):Prop where
 W:WR S m' L R es nr w N
 G:GJ nr w M N n top cs s dv
 B:qm (kk K0 n) nr w N
 cD:Can D dv
 fD:D.fr=D
 zD:D=nB dv
 bD:Bd (1+n*kk K0 n) dv
 hT:m'[T]?=some (aO (iN tk) n)
 cnt:ma tk n=top
 keep:∀p,p<m.length->¬ S p->m'[p]?=m[p]?
 len:m.length<=m'.length
 sT:m.length<=T
theorem Oi{S:Nat->Prop}{L nr w n K0:Nat}{M:MX}{m:ae}{R:Nat->Nat}{es:Nat->List RV}(W:WR S m L R es nr w M)(hS:∀p,S p->p<m.length)(hB:qm K0 nr w M)(nw:n<=w)(w60:w<=60)(n60:nr<=60)(k1:1<=K0)(kb:1+n*kk K0 n<2^34)(kb2:kk K0 n<2^34) :
  ∃(m':ae) (D:RV) (T:Nat) (tk:Nat->Int) (R':Nat->Nat) (es':Nat->List RV) (N:MX) (top:Nat) (cs:Nat->Nat) (s dv:Rat),AC ab 91 [.arr L 0 nr none,.int .i64 n] m=some (.tup [.arr T 0 n none,D.av],m')/\Out91 S L nr w n K0 M m m' D T tk R' es' N top cs s dv:=by
 have F:Fix S nr w n (m.length+1+1) (m.length+1) m.length m.length K0:=⟨nw,w60,n60,k1,kb,kb2,fun h=>by have:=hS _ h;omega,fun h=>by have:=hS _ h;omega,fun h=>by have:=hS _ h;omega,by omega,by omega,by omega,by omega,by omega,by omega⟩;obtain ⟨M3,nM⟩:∃M3,M3=((m++[cR zR])++[cR gN])++[aO (iN fun _=>0) n]:=⟨_,rfl⟩;have g0:M3[m.length]?=some (cR zR):=by rw[nM];exact fM (fM bX)
 have g1:M3[m.length+1]?=some (cR gN):=by
  have:((m++[cR zR])++[cR gN])[(m++[cR zR]).length]?=some (cR gN):=bX;rw[aK] at this;rw[nM];exact fM this
 have g2:M3[m.length+1+1]?=some (aO (iN fun _=>0) n):=by
  have:(((m++[cR zR])++[cR gN])++[aO (iN fun _=>0) n])[((m++[cR zR])++[cR gN]).length]?=some (aO (iN fun _=>0) n):=bX;rw[aK,aK] at this;rw[nM];exact this
 have AA:M3.length=m.length+1+1+1:=by rw[nM];simp
 have H0:Mid S L nr w n (m.length+1+1) (m.length+1) m.length m.length K0 M m M3 R es M 0 0 (fun i=>i) 1 1 gN (fun _=>0):={
  W:=by rw[nM];exact ((W.app _).app _).app _
  G:=gj0 nr w M _
  B:=fun i j hi hj=>hB i j hi hj
  hD:=g1
  cD:=Ck
  fD:=Hz
  zD:=U7
  bD:=(Bu (by omega))
  hT:=g2
  cnt:=rfl
  hbr:=g0
  hS:=fun p hp=>by have:=hS p hp;omega
  keep:=fun p hp _=>by rw[nM,er (by simp;omega),er (by simp;omega),er hp]
  len:=by omega }
 obtain ⟨m',R',es',N',top',cs',s',dv',D',tk',H,z⟩:=FX F W.sL n 0 M3 R es M 0 (fun i=>i) 1 1 gN (fun _=>0) (by omega) H0
 refine ⟨m'.set m.length (cR D'),D',m.length+1+1,tk',R',es',N',top',cs',s',dv',?_,H.W.set _ F.sr,H.G,H.B,H.cD,H.fD,H.zD,H.bD,?_,H.cnt,fun p hp hn=>?_,?_,by omega⟩
 .rw[QC];simp only[tT,bc]
  have gz:(((m++[cR zR])++[cR zR])[m.length+1]?)=some (cR zR):=by
   have:((m++[cR zR])++[cR zR])[(m++[cR zR]).length]?=some (cR zR):=bX;rw[aK] at this;exact this
  have es2:((m++[cR zR])++[cR zR]).set (m.length+1) (cR gN)=(m++[cR zR])++[cR gN]:=by
   rw[qK _ _ (by simp)];simp
  rw[DH,Km,ar,aa];simp only[tT,bc,aK,aR,aX,aL];rw[iV gz,aa,es2,Ho (by omega) (by omega),aa];simp only[aK,aR,aX,aL];have e3:((m++[cR zR])++[cR gN])++[aO (fun _=>AV.int .i64 0) n]=M3:=nM.symm;rw[e3];exact z
 .rw[dM (by omega)];exact H.hT
 .rw[dM (by omega)];exact H.keep p hp hn
 .rw[eB];exact H.len
theorem XE(x0:AV)(m:ae):∃m':ae,AC ab 91 [x0,.int .i64 (0:Nat)] m=some (.tup [.arr (m.length+1+1) 0 0 none,gN.av],m')/\(∀p,p<m.length->m'[p]?=m[p]?)/\m.length<=m'.length/\m'[m.length+1+1]?=some (aO (iN fun _=>0) 0):=by
 obtain ⟨M3,nM⟩:∃M3,M3=((m++[cR zR])++[cR gN])++[aO (iN fun _=>0) 0]:=⟨_,rfl⟩;have g0:M3[m.length]?=some (cR zR):=by rw[nM];exact fM (fM bX)
 have g1:M3[m.length+1]?=some (cR gN):=by
  have:((m++[cR zR])++[cR gN])[(m++[cR zR]).length]?=some (cR gN):=bX;rw[aK] at this;rw[nM];exact fM this
 have g2:M3[m.length+1+1]?=some (aO (iN fun _=>0) 0):=by
  have:(((m++[cR zR])++[cR gN])++[aO (iN fun _=>0) 0])[((m++[cR zR])++[cR gN]).length]?=some (aO (iN fun _=>0) 0):=bX;rw[aK,aK] at this;rw[nM];exact this
 have AA:M3.length=m.length+1+1+1:=by rw[nM];simp
 refine ⟨M3.set m.length (cR gN),?_,fun p hp=>?_,by rw[eB];omega,by rw[dM (by omega)];exact g2⟩
 .rw[QC];simp only[tT,bc]
  have gz:(((m++[cR zR])++[cR zR])[m.length+1]?)=some (cR zR):=by
   have:((m++[cR zR])++[cR zR])[(m++[cR zR]).length]?=some (cR zR):=bX;rw[aK] at this;exact this
  have es2:((m++[cR zR])++[cR zR]).set (m.length+1) (cR gN)=(m++[cR zR])++[cR gN]:=by
   rw[qK _ _ (by simp)];simp
  rw[DH,Km,ar,aa];simp only[tT,bc,aK,aR,aX,aL];rw[iV gz,aa,es2,Ho (by omega) (by omega),aa];simp only[aK,aR,aX,aL];have e3:((m++[cR zR])++[cR gN])++[aO (fun _=>AV.int .i64 0) 0]=M3:=nM.symm;rw[e3,Jt,show af .other .lss (.int .i64 0) (.int .i64 ((0:Nat):Int))=some (.bool false) from rfl,aa,fF,Pd,je g1,aa,iV g0,aa,je (jO (by omega)),aa]
 .rw[dM (by omega),nM,er (by simp;omega),er (by simp;omega),er hp]
end Go.Ab
namespace Go.Ab
open Go.Proofs.Try
theorem qbW(a0 a1 a2 a3 a4:AV)(m:ae):AC ab 120 [a0,a1,a2,a3,a4] m =
 (ai none (ak none m (.obj true [(.bool false),(.lst none true .full []),(.lst none true .full [])])).2 a2).bind fun v1=>
 (af .other .lss a1 v1).bind fun v2=>
 au v2 (
 (aB 2 a3).bind fun v3=>
 (ai none (ak none m (.obj true [(.bool false),(.lst none true .full []),(.lst none true .full [])])).2 v3).bind fun v4=>
 (ai none (ak none m (.obj true [(.bool false),(.lst none true .full []),(.lst none true .full [])])).2 a2).bind fun v5=>
 (af .other .mul a0 v5).bind fun v6=>
 (af .other .add v6 a1).bind fun v7=>
 (aJ (some 3) v4 v7).bind fun v8=>
 (ai (some 3) (ak none m (.obj true [(.bool false),(.lst none true .full []),(.lst none true .full [])])).2 v8).bind fun v9=>
 (ao (AP ab) none (ak none m (.obj true [(.bool false),(.lst none true .full []),(.lst none true .full [])])).2 67 [v9]).bind fun fR=>
 (aA (some 3) fR.2 (.ptr (ak none m .resv).1 0) fR.1).bind fun m11=>
 (ai (some 3) m11 (.ptr (ak none m .resv).1 0)).bind fun aV=>
 some (aV,m11)) (
 (aB 2 a4).bind fun bL=>
 (ai none (ak none m (.obj true [(.bool false),(.lst none true .full []),(.lst none true .full [])])).2 bL).bind fun bM=>
 (aB 1 a4).bind fun bz=>
 (ai none (ak none m (.obj true [(.bool false),(.lst none true .full []),(.lst none true .full [])])).2 bz).bind fun bQ=>
 (af .other .mul a0 bQ).bind fun bV=>
 (af .other .add bV a1).bind fun dU=>
 (ai none (ak none m (.obj true [(.bool false),(.lst none true .full []),(.lst none true .full [])])).2 a2).bind fun dL=>
 (af .other .sub dU dL).bind fun v20=>
 (aJ (some 3) bM v20).bind fun eg=>
 (ai (some 3) (ak none m (.obj true [(.bool false),(.lst none true .full []),(.lst none true .full [])])).2 eg).bind fun dV=>
 (ao (AP ab) none (ak none m (.obj true [(.bool false),(.lst none true .full []),(.lst none true .full [])])).2 67 [dV]).bind fun jN=>
 (aA (some 3) jN.2 (.ptr (ak none m .resv).1 0) jN.1).bind fun m24=>
 (ai (some 3) m24 (.ptr (ak none m .resv).1 0)).bind fun fT=>
 some (fT,m24)):=
(bW ab 120 [a0,a1,a2,a3,a4] m (fn:=f120) (c:=al f120) qdG rfl).trans (by kernel_rfl)
theorem qbX(a0 a1 a2 a3:AV)(m:ae):AC ab 121 [a0,a1,a2,a3] m =
 (aB 2 a2).bind fun v1=>
 (ai none (eH (ak none m (.obj true [(.bool false),(.lst none true .full []),(.lst none true .full [])])).2 1) v1).bind fun v2=>
 (aB 1 a2).bind fun v3=>
 (ai none (eH (ak none m (.obj true [(.bool false),(.lst none true .full []),(.lst none true .full [])])).2 1) v3).bind fun v4=>
 (af .other .mul a0 v4).bind fun v5=>
 (ai none (eH (ak none m (.obj true [(.bool false),(.lst none true .full []),(.lst none true .full [])])).2 1) a3).bind fun v6=>
 (af .other .add v5 v6).bind fun v7=>
 (af .other .add v7 a1).bind fun v8=>
 (aJ (some 3) v2 v8).bind fun v9=>
 (ai (some 3) (eH (ak none m (.obj true [(.bool false),(.lst none true .full []),(.lst none true .full [])])).2 1) v9).bind fun v10=>
 (aB 2 a2).bind fun v11=>
 (ai none (eH (ak none m (.obj true [(.bool false),(.lst none true .full []),(.lst none true .full [])])).2 1) v11).bind fun aV=>
 (aB 1 a2).bind fun bL=>
 (ai none (eH (ak none m (.obj true [(.bool false),(.lst none true .full []),(.lst none true .full [])])).2 1) bL).bind fun bM=>
 (af .other .mul a0 bM).bind fun bz=>
 (af .other .add bz a0).bind fun bQ=>
 (aJ (some 3) aV bQ).bind fun bV=>
 (ai (some 3) (eH (ak none m (.obj true [(.bool false),(.lst none true .full []),(.lst none true .full [])])).2 1) bV).bind fun dU=>
 (ao (AP ab) (some (ak none m (.obj true [(.bool false),(.lst none true .full []),(.lst none true .full [])])).2.length) (eH (ak none m (.obj true [(.bool false),(.lst none true .full []),(.lst none true .full [])])).2 1) 122 [v10,dU]).bind fun sJ=>
 (bg sJ.1 0).bind fun v20=>
 (bg sJ.1 1).bind fun eg=>
 (aA (some 3) (ak (some (ak none m (.obj true [(.bool false),(.lst none true .full []),(.lst none true .full [])])).2.length) sJ.2 (.obj true [(.bool false),(.lst none true .full []),(.lst none true .full [])])).2 (.ptr (ak (some (ak none m (.obj true [(.bool false),(.lst none true .full []),(.lst none true .full [])])).2.length) sJ.2 .resv).1 0) v20).bind fun m22=>
 (ai (some 3) m22 (.ptr (ak (some (ak none m (.obj true [(.bool false),(.lst none true .full []),(.lst none true .full [])])).2.length) sJ.2 .resv).1 0)).bind fun fS=>
 (aA (some 3) m22 (.ptr (ak none m .resv).1 0) fS).bind fun m24=>
 (ai (some 3) m24 (.ptr (ak none m .resv).1 0)).bind fun fT=>
 some (fT,m24):=
(bW ab 121 [a0,a1,a2,a3] m (fn:=f121) (c:=al f121) qdH rfl).trans (by kernel_rfl)
end Go.Ab
namespace Go.Ab
open Go.Proofs.Try
def vI(n:Int):AV:=.vptr [.int .i64 n]
theorem SB(n:Int)(m:ae)(k:Nat):frz m (k+2) (vI n)=some (vI n,[]):=rfl
theorem Xk(n:Int)(m:ae):ai none m (vI n)=some (.int .i64 n):=rfl
def lE(x y:MV)(n b:Nat):MX:=fun i j=>if j<n then gY x (i*n+j) else gY y (i*b+(j-n))
theorem Nw{x:MV}{k p:Nat}(hx:LOk k x.lv)(hr:∀u∈x.lv.es,jl u=true)(h:p<x.lv.es.length):Can x.lv.es[p] (gY x p):=by
 have eL:=fH h;rw[rl h];exact VK (hr _ eL) (hx.ok _ eL).num.nil (hx.ok _ eL).den.nil
theorem qcl{x y:MV}{k n b i j:Nat}(hx:LOk k x.lv)(hy:LOk k y.lv)(Me:∀u∈x.lv.es,jl u=true)(Mf:∀u∈y.lv.es,jl u=true)(nP:y.cols=b)(hi:i<n)(hj:j<n+b)(qy:n+b<=60)(wz:x.lv.es.length=n*n)(CY:y.lv.es.length=n*b) :
  ∃s:RV,AP ab 120 [.int .i64 i,.int .i64 j,vI n,vM x,vM y]=some s.av/\Can s (lE x y n b i j)/\s.fr=s/\ROk k s:=by
 unfold lE;have e0:=qbW (.int .i64 i) (.int .i64 j) (vI n) (vM x) (vM y) [];simp only[vh,bc,aX,aZ] at e0;rw[Xk,aa,bR,aa,aw] at e0
 by_cases Ay:j<n
 .rw[aj Ay] at e0 ⊢;obtain ⟨a1,a2⟩:=qR (i:=i) (c:=n) (j:=j) (by omega) (by omega) (by omega);have h1:i*n+j<x.lv.es.length:=by rw[wz];exact kB hi Ay
  have e:=Kr (hx.ok _ (fH h1));have f1:=hx.fr _ (fH h1);refine ⟨jJ x.lv.es[i*n+j],(bT _ _ (gA (jJ x.lv.es[i*n+j])) (ib _) (m:=[cR (jJ x.lv.es[i*n+j])]) ?_).trans (by rw[vT]),KE (Nw hx Me h1),vT _,RT (hx.ok _ (fH h1))⟩;refine e0.trans ?_;rw[N9,aa,Ir,aa,aa,a1,aa,a2,aa,tR hx h1,aa,sD,aa,bS,f1,e,ar,aa,iV (x:=zR) rfl,aa];simp only[bk];rw[je (x:=jJ x.lv.es[i*n+j]) rfl]
  rfl
 .rw[ag Ay] at e0 ⊢;obtain ⟨a1,a2⟩:=qR (i:=i) (c:=b) (j:=j) (by omega) (by omega) (by omega);have h1:i*b+(j-n)<y.lv.es.length:=by rw[CY];exact kB hi (by omega)
  have a3:af .other .sub (.int .i64 (i*b+j:Nat)) (.int .i64 n)=some (.int .i64 (i*b+(j-n):Nat)):=by
   have:i*b<=60*60:=il (by omega) (by omega);rw[show i*b+(j-n)=i*b+j-n by omega];exact yE (by omega) (by omega)
  have e:=Kr (hy.ok _ (fH h1));have f1:=hy.fr _ (fH h1);refine ⟨jJ y.lv.es[i*b+(j-n)],(bT _ _ (gA (jJ y.lv.es[i*b+(j-n)])) (ib _) (m:=[cR (jJ y.lv.es[i*b+(j-n)])]) ?_).trans (by rw[vT]),KE (Nw hy Mf h1),vT _,RT (hy.ok _ (fH h1))⟩;refine e0.trans ?_;rw[N9,aa,Ir,aa,Xl,aa,Xm,aa,nP,a1,aa,a2,aa,aa,a3,aa,tR hy h1,aa,sD,aa,bS,f1,e,ar,aa,iV (x:=zR) rfl,aa];simp only[bk];rw[je (x:=jJ y.lv.es[i*b+(j-n)]) rfl]
  rfl
theorem qcm{x:MV}{k n c i j:Nat}(hx:LOk k x.lv)(bu:1<=k)(hk:k<2^36)(az:x.cols=c)(hi:i<n)(hj:n+j<c)(hc:c<=60)(wz:x.lv.es.length=n*c)(h0:gY x (i*c+i)≠0) :
  ∃s:RV,AP ab 121 [.int .i64 i,.int .i64 j,vM x,vI n]=some s.av/\Can s (gY x (i*c+(n+j))/gY x (i*c+i))/\s.fr=s:=by
 obtain ⟨a1,a2⟩:=qR (i:=i) (c:=c) (j:=n) (by omega) (by omega) (by omega);obtain ⟨_,b2⟩:=qR (i:=i) (c:=c) (j:=i) (by omega) (by omega) (by omega);have hic:i*c<=60*60:=il (by omega) hc
 have a3:af .other .add (.int .i64 (i*c+n:Nat)) (.int .i64 j)=some (.int .i64 (i*c+(n+j):Nat)):=by
  rw[<- my];exact lQ (by omega)
 have h1:i*c+(n+j)<x.lv.es.length:=by rw[wz];exact kB hi (by omega)
 have h2:i*c+i<x.lv.es.length:=by rw[wz];exact kB hi (by omega)
 have f1:=hx.fr _ (fH h1);have f2:=hx.fr _ (fH h2);obtain ⟨s,s1,s2,s3⟩:=QH (hx.ok _ (fH h1)) (hx.ok _ (fH h2)) bu hk (by rw[<- rl h2];exact h0);rw[<- rl h1,<- rl h2] at s2;refine ⟨s,(bT _ _ (gA s) (ib _) (m:=[cR s,cR s]) ?_).trans (by rw[s3]),s2,s3⟩;have e0:=qbX (.int .i64 i) (.int .i64 j) (vM x) (vI n) [];rw[show ak none [] (Ent.obj true [(.bool false),(.lst none true .full []),(.lst none true .full [])])=(0,[cR zR]) from rfl,show ak none [] Ent.resv=(0,[some .resv]) from rfl] at e0;dsimp only at e0;rw[show eH [cR zR] 1=[cR zR,some .resv] from rfl,N9,aa,Ir,aa,Xl,aa,Xm,aa,az,a1,aa,Xk,aa,a2,aa,a3,aa,tR hx h1,aa,sD,aa,aa,Ir,aa,aa,show ai none [cR zR,some .resv] (.vptr [.int .i64 (c:Int),x.lv.av])=some (.int .i64 (c:Int)) from rfl,aa,a1,aa,b2,aa,tR hx h2,aa,sD,aa,bU,f1,f2,s1,ar,aa,bY,aa,bZ,aa] at e0;rw[show [cR zR].length=1 from rfl,show ak (some 1) [cR zR,some Ent.resv] (Ent.obj true [(.bool false),(.lst none true .full []),(.lst none true .full [])])=(1,[cR zR,cR zR]) from rfl,show ak (some 1) [cR zR,some Ent.resv] Ent.resv=(1,[cR zR,some .resv]) from rfl] at e0;dsimp only at e0;rw[iV (x:=zR) rfl,aa,je (x:=s) rfl,aa,iV (x:=zR) rfl,aa,je (x:=s) rfl,aa] at e0;exact e0
structure Upt (n t:Nat) (N:MX):Prop where
 ne:∀i,i<n->N i i≠0
 lo:∀i j,i<n->j<i->N i j=0
 up:∀i j,i<j->j<n->t<=j->N i j=0
theorem Upt.diag{n:Nat}{N:MX}(h:Upt n 0 N):Bz n N:=⟨h.ne,fun i j hi hj aE=>by
 rcases Nat.lt_or_gt_of_ne aE with h1|h1
 .exact h.up i j h1 hj (by omega)
 .exact h.lo i j hi h1⟩
theorem Upt.step{n i:Nat}{N:MX}(h:Upt n (i+1) N)(hi:i<n):Upt n i (ir 0 i N i i):=by
 have z:∀j,j<n->j≠i->N i j=0:=fun j hj aE=>by
  rcases Nat.lt_or_gt_of_ne aE with h1|h1
  .exact h.lo i j hi h1
  .exact h.up i j h1 hj (by omega)
 refine ⟨fun q hq=>?_,fun q j hq hj=>?_,fun q j hq hj ht=>?_⟩
 .by_cases TW:q=i
  .subst TW;rw[Ac];exact h.ne q hq
  .rw[Gd (z q hq TW)];exact h.ne q hq
 .by_cases wq:j=i
  .subst wq;rw[Aa (by omega)];exact h.lo q j hq hj
  .rw[Gd (z j (by omega) wq)];exact h.lo q j hq hj
 .by_cases wq:j=i
  .subst wq;exact RM (h.ne j hj) ⟨by omega,by omega,by omega⟩
  .rw[Gd (z j hj wq)];exact h.up q j hq hj (by omega)
theorem Ech.upt{n:Nat}{N:MX}{cs:Nat->Nat}(E:Ech n N n n cs):Upt n n N:=by
 have Tu:=E.id;exact ⟨fun i hi=>by have:=E.piv i hi;rwa [Tu i hi] at this,fun i j hi hj=>E.lead i hi j (by rw[Tu i hi];exact hj),fun i j h1 h2 h3=>by omega⟩
section
variable {nm n c k:Nat} {P:MX}
theorem qcV(hn:n<=60)(hc:c<=60){r:Nat}(hr:r<n)(jV:r<c)(hp:P r r≠0)(bu:1<=k)(hk:4*k+1<2^36){b:Nat}(pg:b≠nm)(x3 x4 x6:AV)(K:KT):∀(d i:Nat) (m:ae) (es:List RV),i+d=r->WM m nm es n c (fun q=>if q<i then 4*k+1 else k) (ir 0 i P r r)->m[b]?=some (cB n c nm (n*c)) ->
  ∃(m':ae) (es':List RV),BS x3 x4 x6 (.ptr b 0) (.int .i64 r) (.int .i64 r) (.int .i64 i) m K=K (.exit 2) (Fv x3 x4 x6 (.ptr b 0) (.int .i64 r) m')/\WM m' nm es' n c (fun _=>4*k+1) (ir 0 r P r r)/\m'[b]?=some (cB n c nm (n*c))/\Kn nm m m':=by
 intro d
 induction d with
 | zero=>
  intro i m es hi W hb;obtain rfl:i=r:=by omega
  refine ⟨m,es,?_,W.mono fun q _=>?_,hb,wI _ _⟩
  .rw[P8,bR,aa,aw,ag (by omega)]
  .split<;>omega
 | succ d ih=>
  intro i m es hi W hb;have uN:i<r:=by omega
  have e1:ir 0 i P r r r r=P r r:=Ac
  obtain ⟨m1,es1,e117,W1,kn1⟩:=Oh hn hc W hr (t:=i) (by omega) (by omega) jV (by rw[e1];exact hp) (show (if r<i then 4*k+1 else k)<=k by rw[ag (by omega)];exact aW _) (show (if i<i then 4*k+1 else k)<=k by rw[ag (by omega)];exact aW _) bu hk
  rw[RN (by omega) (by omega)] at W1;have gI:=kn1.cB hb pg
  obtain ⟨m',es',e,h1,h2,h3⟩:=ih (i+1) m1 es1 (by omega) (W1.mono fun q _=>by
   split
   .rw[aj (by omega)];exact aW _
   .split
    .rw[aj (by omega)];exact aW _
    .split<;>omega) gI
  refine ⟨m',es',?_,h1,h2,Kn.trans kn1 h3⟩;rw[P8,bR,aa,aw,aj uN,vQ hb,aa,e117,aa,eF (by omega),aa];exact e
theorem W92(hn:n<=60)(hc:c<=60)(TL:n<=c){k0:Nat}(bu:1<=k0)(hK:kk k0 n<2^36){M:MX}{s:Rat}{b:Nat}(pg:b≠nm)(x3 x4 x6:AV)(K:KT)(hKx:∀m' i,BG (uf K) (.exit 2) (Fv x3 x4 x6 (.ptr b 0) i m')=(af .other .sub i (.int .i64 1)).bind fun v=>BT x3 x4 x6 (.ptr b 0) v m' (uf K)):∀(t:Nat) (N:MX) (m:ae) (es:List RV),t<=n->RE n c M N s->Upt n t N->WM m nm es n c (fun _=>kk k0 (n-t)) N->m[b]?=some (cB n c nm (n*c)) ->
  ∃(m':ae) (es':List RV) (N':MX),BT x3 x4 x6 (.ptr b 0) (.int .i64 ((t:Int)-1)) m (uf K)=uf K (.exit 0) (Fw x3 x4 x6 (.ptr b 0) m')/\RE n c M N' s/\Bz n N'/\WM m' nm es' n c (fun _=>kk k0 n) N'/\m'[b]?=some (cB n c nm (n*c))/\Kn nm m m':=by
 intro t
 induction t with
 | zero=>
  intro N m es ht re up W hb;refine ⟨m,es,N,?_,re,up.diag,W,hb,wI _ _⟩;rw[Ju,o9,aa,aw,ag (by omega)]
 | succ t ih=>
  intro N m es ht re up W hb;have sv:t<n:=by omega
  have k1:kk k0 (n-t)=4*kk k0 (n-(t+1))+1:=by
   rw[show n-t=(n-(t+1))+1 by omega];rfl
  have k2:kk k0 (n-t)<=kk k0 n:=mf k0 (by omega);have k3:k0<=kk k0 (n-(t+1)):=mf k0 (jH _);have c0:ir 0 0 N t t=N:=by funext i j;exact Aa (by omega)
  obtain ⟨m1,es1,e1,W1,gI,kn1⟩:=qcV (k:=kk k0 (n-(t+1))) hn hc sv (show t<c by omega) (up.ne t sv) (by omega) (by omega) pg x3 x4 x6 (BG (uf K)) t 0 m es (by omega) (by rw[c0];exact W.mono fun q _=>by split<;>omega) hb;rw[<- k1] at W1;have e1':BS x3 x4 x6 (.ptr b 0) (.int .i64 t) (.int .i64 t) (.int .i64 0) m (BG (uf K))=_:=e1;obtain ⟨m',es',N',h1,h2,h3,h4,h5,h6⟩:=ih (ir 0 t N t t) m1 es1 (by omega) (re.clr sv 0 t (by omega)) (up.step sv) W1 gI;refine ⟨m',es',N',?_,h2,h3,h4,h5,Kn.trans kn1 h6⟩;rw[show (((t+1:Nat):Int)-1)=(t:Int) by omega,Ju,o9,aa,aw,aj (by omega),e1',hKx,qA (by omega),aa];exact h1
end
end Go.Ab
namespace Go.Ab
open Go.Proofs.Try
theorem qdk{m:ae}{l:LV}(bO:l.sh=some 3)(aE:0<l.es.length)(hl:l.es.length<=60):eG none true 43 (some 3) 56 m (.lst (some 3) false .full []) l.av=some (.arr m.length 0 l.es.length (some 3),m++[cA l.es]):=by
 obtain ⟨sh,z,o,es⟩:=l;simp only at bO aE hl;subst bO
 cases es with
 | nil=>simp at aE
 | cons r rs=>
  have hr:(0+(r.av::rs.map RV.av).length)*56<=iU:=by
   simp only[aR,gu] at *;unfold iU;omega
  show (if (some 3:Sh)=some 3 then if (0+(r.av::rs.map RV.av).length)*56<=iU then (if (some 3:Sh)=some 3\/([]:List AV)=[] then some (AV.arr m.length 0 (0+(r.av::rs.map RV.av).length) (some 3),m++[some (Ent.obj false (([]++(r.av::rs.map RV.av)).flatMap AV.cells))]) else none) else none else none)=_
  rw[aj rfl,aj hr,aj (.inl rfl),aL,aZ,<- qn,Cx,gu]
  rfl
def ou(x:MV)(c i:Nat):List RV:=(x.lv.es.take ((i+1)*c)).drop (i*c)
theorem VO{x:MV}{nr c i:Nat}(hl:x.lv.es.length=nr*c)(hi:i<nr):(ou x c i).length=c:=by
 have h1:(i+1)*c<=nr*c:=fW c hi;have h2:(i+1)*c=i*c+c:=by rw[fI,nH]
 unfold ou;rw[rL,oA];omega
theorem qiY{x:MV}{nr c i j:Nat}(hl:x.lv.es.length=nr*c)(hi:i<nr)(hj:j<c)(h:i*c+j<x.lv.es.length):(ou x c i).getD j zR=x.lv.es[i*c+j]:=by
 have h2:(i+1)*c=i*c+c:=by rw[fI,nH]
 unfold ou;rw[bA,qI,qJ,aj (by omega),jR h]
 rfl
section
variable {x:MV} {k nr c:Nat} {m:ae}
def tX(q c i:Nat):Nat->AV:=fun j=>if j<i then .arr (q+j) 0 c (some 3) else .lst none true .full []
theorem Rh(hx:IsM k x)(hl:x.lv.es.length=nr*c)(az:x.cols=c)(hc:0<c)(c60:c<=60)(n60:nr<=60):∀(e i:Nat) (mi:ae),i+e=nr->mi.length=m.length+1+1+i->mi[m.length]?=some (cM x)->mi[m.length+1]?=some (aO (tX (m.length+1+1) c i) nr)->(∀j,j<i->mi[m.length+1+1+j]?=some (cA (ou x c j)))->(∀p,p<m.length->mi[p]?=m[p]?) ->
  ∃m':ae,BR (.ptr m.length 0) (.arr (m.length+1) 0 nr none) (.int .i64 nr) (.int .i64 i) mi (EH (aN ab.P f85.results.toList))=some (.arr (m.length+1) 0 nr none,m')/\m'.length=m.length+1+1+nr/\m'[m.length+1]?=some (aO (tX (m.length+1+1) c nr) nr)/\(∀j,j<nr->m'[m.length+1+1+j]?=some (cA (ou x c j)))/\(∀p,p<m.length->m'[p]?=m[p]?)
 | 0,i,mi,hi,h1,h2,h3,h4,h5=>by
  obtain rfl:i=nr:=by omega
  refine ⟨mi,?_,h1,h3,h4,h5⟩;rw[E9,bR,aa,aw,ag (by omega),O9]
 | e+1,i,mi,hi,h1,h2,h3,h4,h5=>by
  have aU:i<nr:=by omega
  have e2:(i+1)*c=i*c+c:=by rw[fI,nH]
  have hle:(i+1)*c<=x.lv.es.length:=by rw[hl];exact fW c aU
  have yA:(ou x c i).length=c:=VO hl aU;have bO:x.lv.sh=some 3:=hx.ok.sh.resolve_right fun h=>by rw[h] at hle;simp at hle;omega
  have ha:=qdk (m:=mi) (l:=⟨x.lv.sh,x.lv.z,.no,ou x c i⟩) bO (by show 0<(ou x c i).length;omega) (by show (ou x c i).length<=60;omega)
  have eD:aA none (mi++[cA (ou x c i)]) (.ptr (m.length+1) i) (.arr mi.length 0 c (some 3))=some ((mi++[cA (ou x c i)]).set (m.length+1) (aO (tX (m.length+1+1) c (i+1)) nr)):=by
   rw[vL (fM h3) aU rfl rfl]
   have:(fun j=>if j=i then AV.arr mi.length 0 c (some 3) else tX (m.length+1+1) c i j)=tX (m.length+1+1) c (i+1):=by
    funext j;unfold tX
    by_cases h:j=i
    .rw[aj h,aj (by omega),h1,h]
    .rw[ag h]
     by_cases h':j<i
     .rw[aj h',aj (by omega)]
     .rw[ag h',ag (by omega)]
   rw[this]
  obtain ⟨m',z1,z2,z3,z4,z5⟩:=Rh hx hl az hc c60 n60 e (i+1) ((mi++[cA (ou x c i)]).set (m.length+1) (aO (tX (m.length+1+1) c (i+1)) nr)) (by omega) (by rw[eB,aK,h1];rfl) (by rw[dM (by omega)];exact fM h2) (jO (by rw[aK];omega))
   (fun j hj=>by
    rw[dM (by omega)]
    by_cases h:j=i
    .subst h;rw[<- h1];exact bX
    .exact fM (h4 j (by omega)))
   (fun p hp=>by rw[dM (by omega),er (by omega)];exact h5 p hp)
  refine ⟨m',?_,z2,z3,z4,z5⟩;rw[E9,bR,aa,aw,aj aU,show iq (some 3) []=some (.lst (some 3) false .full []) from rfl,aa,bE,aa,oj h2,aa,ba,aa,fh h2,aa,az,yM (by omega) c60,aa,eF (by omega),aa,aa,fh h2,aa,az,yM (by omega) c60,aa,NO hx.ok.sh (by omega) hle,aa]
  have ha':eG none true 43 (some 3) 56 mi (.lst (some 3) false .full []) (LV.av ⟨x.lv.sh,x.lv.z,.no,(x.lv.es.take ((i+1)*c)).drop (i*c)⟩)=some (.arr mi.length 0 c (some 3),mi++[cA (ou x c i)]):=by
   rw[show (x.lv.es.take ((i+1)*c)).drop (i*c)=ou x c i from rfl,ha];show some (AV.arr mi.length 0 (ou x c i).length (some 3),_)=_;rw[yA]
  rw[ha',aa,mD aU,aa,eD,aa,aa];exact z1
theorem Es(hx:IsM k x)(hb:aP x=true)(aD:x.rows=nr)(az:x.cols=c)(hc:0<c)(bu:1<=k):∃(m':ae) (es:Nat->List RV),AC ab 85 [x.av] m=some (.arr (m.length+1) 0 nr none,m') /\
  WR (fun p=>m.length+1<=p/\p<m.length+1+1+nr) m' (m.length+1) (fun i=>m.length+1+1+i) es nr c (eW x c)/\qm k nr c (eW x c)/\m'.length=m.length+1+1+nr/\(∀p,p<m.length->m'[p]?=m[p]?):=by
 obtain ⟨n60,c60,hl⟩:nr<=60/\c<=60/\x.lv.es.length=nr*c:=by
  obtain ⟨r,c',a1,a2,a3,a4,a5⟩:=qg hb;obtain rfl:r=nr:=by omega
  obtain rfl:c'=c:=by omega
  exact ⟨a3,a4,a5⟩
 have kG:=DQ hb;have g0:((m++[cM x])++[aO (fun _=>.lst none true .full []) nr])[m.length]?=some (cM x):=fM bX
 have g1:((m++[cM x])++[aO (fun _=>.lst none true .full []) nr])[m.length+1]?=some (aO (tX (m.length+1+1) c 0) nr):=by
  have:((m++[cM x])++[aO (fun _=>.lst none true .full []) nr])[(m++[cM x]).length]?=some (aO (fun _=>.lst none true .full []) nr):=bX;rw[aK] at this;exact this
 obtain ⟨m',z1,z2,z3,z4,z5⟩:=Rh (m:=m) hx hl az hc c60 n60 nr 0 ((m++[cM x])++[aO (fun _=>.lst none true .full []) nr]) (by omega) (by simp) g0 g1 (fun j hj=>by omega) (fun p hp=>by rw[er (by simp;omega),er hp])
 refine ⟨m',ou x c,?_,⟨?_,z4,fun i hi=>VO hl hi,fun i j _ _ h=>by omega,fun i _=>by omega,fun i hi r hr=>?_,fun i j hi hj=>?_,fun i hi=>by constructor<;>omega,by constructor<;>omega⟩,fun i j hi hj=>yX hx.ok bu,z2,z5⟩
 .rw[QA,im,aa,bj,aa,gh bX,aa,aD,Ho (by omega) n60,aa,ux,aa];simp only[aK,aR,aX,aL];exact z1
 .have:aO (tX (m.length+1+1) c nr) nr=aO (rN (fun i=>m.length+1+1+i) c) nr:=by
   unfold aO;congr 2;refine List.map_congr_left fun j hj=>?_;unfold tX rN;rw[aj (oC.1 hj)]
  rw[<- this];exact z3
 .have hm:=um (List.mem_of_mem_drop hr);exact hx.ok.fr r hm
 .have h:i*c+j<x.lv.es.length:=by rw[hl];exact kB hi hj
  rw[qiY hl hi hj h];exact Nw hx.ok kG h
theorem Ri(hx:IsM k x)(hl:x.lv.es.length=0)(az:x.cols=(0:Nat))(n60:nr<=60):∀(e i:Nat) (mi:ae),i+e=nr->mi.length=m.length+1+1->mi[m.length]?=some (cM x)->mi[m.length+1]?=some (aO (fun j=>if j<i then .lst (some 3) false .full [] else .lst none true .full []) nr)->(∀p,p<m.length->mi[p]?=m[p]?) ->
  ∃m':ae,BR (.ptr m.length 0) (.arr (m.length+1) 0 nr none) (.int .i64 nr) (.int .i64 i) mi (EH (aN ab.P f85.results.toList))=some (.arr (m.length+1) 0 nr none,m')/\m'.length=m.length+1+1/\m'[m.length+1]?=some (aO (fun j=>if j<nr then .lst (some 3) false .full [] else .lst none true .full []) nr)/\(∀p,p<m.length->m'[p]?=m[p]?)
 | 0,i,mi,hi,h1,h2,h3,h5=>by
  obtain rfl:i=nr:=by omega
  refine ⟨mi,?_,h1,h3,h5⟩;rw[E9,bR,aa,aw,ag (by omega),O9]
 | e+1,i,mi,hi,h1,h2,h3,h5=>by
  have aU:i<nr:=by omega
  have eD:aA none mi (.ptr (m.length+1) i) (.lst (some 3) false .full [])=some (mi.set (m.length+1) (aO (fun j=>if j<i+1 then .lst (some 3) false .full [] else .lst none true .full []) nr)):=by
   rw[vL h3 aU rfl rfl]
   have:(fun j=>if j=i then AV.lst (some 3) false .full [] else if j<i then AV.lst (some 3) false .full [] else AV.lst none true .full [])=fun j=>if j<i+1 then AV.lst (some 3) false .full [] else AV.lst none true .full []:=by
    funext j
    by_cases h:j=i
    .rw[aj h,aj (by omega)]
    .rw[ag h]
     by_cases h':j<i
     .rw[aj h',aj (by omega)]
     .rw[ag h',ag (by omega)]
   rw[this]
  obtain ⟨m',z1,z2,z3,z5⟩:=Ri hx hl az n60 e (i+1) (mi.set (m.length+1) (aO (fun j=>if j<i+1 then .lst (some 3) false .full [] else .lst none true .full []) nr)) (by omega) (by rw[eB,h1]) (by rw[dM (by omega)];exact h2) (jO (by omega)) (fun p hp=>by rw[dM (by omega)];exact h5 p hp)
  refine ⟨m',?_,z2,z3,z5⟩
  have hs:nS (some 3) x.lv.av (some (.int .i64 (i*0:Nat))) (some (.int .i64 ((i+1)*0:Nat))) none=some (LV.av ⟨x.lv.sh,x.lv.z,.no,[]⟩):=by
   rw[NO hx.ok.sh (by omega) (by omega)];rw[List.length_eq_zero_iff] at hl;rw[hl];simp
  rw[E9,bR,aa,aw,aj aU,show iq (some 3) []=some (.lst (some 3) false .full []) from rfl,aa,bE,aa,oj h2,aa,ba,aa,fh h2,aa,az,yM (by omega) (by omega),aa,eF (by omega),aa,aa,fh h2,aa,az,yM (by omega) (by omega),aa,hs,aa];rw[show eG none true 43 (some 3) 56 mi (.lst (some 3) false .full []) (LV.av ⟨x.lv.sh,x.lv.z,.no,[]⟩)=some (.lst (some 3) false .full [],mi) from rfl,aa,mD aU,aa,eD,aa,aa];exact z1
theorem Et(hx:IsM k x)(hb:aP x=true)(aD:x.rows=nr)(az:x.cols=(0:Nat)):∃m':ae,AC ab 85 [x.av] m=some (.arr (m.length+1) 0 nr none,m')/\m'.length=m.length+1+1/\m'[m.length+1]?=some (aO (fun _=>.lst (some 3) false .full []) nr)/\(∀p,p<m.length->m'[p]?=m[p]?):=by
 obtain ⟨n60,hl⟩:nr<=60/\x.lv.es.length=0:=by
  obtain ⟨r,c',a1,a2,a3,a4,a5⟩:=qg hb;obtain rfl:r=nr:=by omega
  obtain rfl:c'=0:=by omega
  exact ⟨a3,by rw[a5,mA]⟩
 have g0:((m++[cM x])++[aO (fun _=>.lst none true .full []) nr])[m.length]?=some (cM x):=fM bX
 have g1:((m++[cM x])++[aO (fun _=>.lst none true .full []) nr])[m.length+1]?=some (aO (fun j=>if j<0 then .lst (some 3) false .full [] else .lst none true .full []) nr):=by
  have:((m++[cM x])++[aO (fun _=>.lst none true .full []) nr])[(m++[cM x]).length]?=some (aO (fun _=>.lst none true .full []) nr):=bX;rw[aK] at this;exact this
 obtain ⟨m',z1,z2,z3,z5⟩:=Ri (m:=m) hx hl az n60 nr 0 ((m++[cM x])++[aO (fun _=>.lst none true .full []) nr]) (by omega) (by simp) g0 g1 (fun p hp=>by rw[er (by simp;omega),er hp])
 refine ⟨m',?_,z2,?_,z5⟩
 .rw[QA,im,aa,bj,aa,gh bX,aa,aD,Ho (by omega) n60,aa,ux,aa];simp only[aK,aR,aX,aL];exact z1
 .have:aO (fun j=>if j<nr then AV.lst (some 3) false .full [] else AV.lst none true .full []) nr=aO (fun _=>.lst (some 3) false .full []) nr:=by
   unfold aO;congr 2;exact List.map_congr_left fun j hj=>aj (oC.1 hj)
  rw[<- this];exact z3
end
end Go.Ab
namespace Go.Ab
open Go.Proofs.Try
theorem qbq(x0:AV)(m:ae)(K:KT):aq ab 47 (AP ab) (AC ab) (c1 (al f47)) ⟨[x0,.any,.any,.any,.any,.any,.any,.any,.any,.any,.any,.any,.any,.any,.any,.any,.any,.any,.any,.any,.any,.any,.any,.any,.any,.any,.any,.any,.any,.any,.any,.any,.any,.any,.any,.any,.any,.any,.any,.any,.any,.any,.any,.any,.any,.any,.any,.any,.any],m⟩ K =
 (ef none (some 3) m x0).bind fun r1=>
 K .normal ⟨[x0,r1.1,(.ptr (ak none r1.2 .resv).1 0),(.int .i64 0),.any,.any,.any,.any,.any,.any,.any,.any,.any,.any,.any,.any,.any,.any,.any,.any,.any,.any,.any,.any,.any,.any,.any,.any,.any,.any,.any,.any,.any,.any,.any,.any,.any,.any,.any,.any,.any,.any,.any,.any,.any,.any,.any,.any,.any],(ak none r1.2 (.obj true [(.bool false),(.lst none true .full []),(.lst none true .full [])])).2⟩:=by kernel_rfl
theorem qbr(x1 x2:AV)(m:ae)(K:KT):aq ab 47 (AP ab) (AC ab) (c1 (c2 (al f47))) ⟨[.any,x1,x2,.any,.any,.any,.any,.any,.any,.any,.any,.any,.any,.any,.any,.any,.any,.any,.any,.any,.any,.any,.any,.any,.any,.any,.any,.any,.any,.any,.any,.any,.any,.any,.any,.any,.any,.any,.any,.any,.any,.any,.any,.any,.any,.any,.any,.any,.any],m⟩ K =
 (ai (some 3) m x1).bind fun v1=>
 (ao (AP ab) none m 20 [v1]).bind fun r2=>
 (iI .not r2.1).bind fun v3=>
 au v3 (
 (eI (.agg [(.bool false),(.lst none true .full []),(.lst none true .full [])]) []).bind fun v4=>
 (aA (some 3) r2.2 x2 v4).bind fun m5=>
 K .ret ⟨[.any,x1,x2,(.int .i64 1),.any,.any,.any,.any,.any,.any,v1,r2.1,v3,v4,.any,.any,.any,.any,.any,.any,.any,.any,.any,.any,.any,.any,.any,.any,.any,.any,.any,.any,.any,.any,.any,.any,.any,.any,.any,.any,.any,.any,.any,.any,.any,.any,.any,.any,.any],m5⟩) (
 K .normal ⟨[.any,x1,x2,.any,.any,.any,.any,.any,.any,.any,v1,r2.1,v3,.any,.any,.any,.any,.any,.any,.any,.any,.any,.any,.any,.any,.any,.any,.any,.any,.any,.any,.any,.any,.any,.any,.any,.any,.any,.any,.any,.any,.any,.any,.any,.any,.any,.any,.any,.any],r2.2⟩):=by kernel_rfl
theorem qbs(x1 x2:AV)(m:ae)(K:KT):aq ab 47 (AP ab) (AC ab) (c1 (c2 (c2 (al f47)))) ⟨[.any,x1,x2,.any,.any,.any,.any,.any,.any,.any,.any,.any,.any,.any,.any,.any,.any,.any,.any,.any,.any,.any,.any,.any,.any,.any,.any,.any,.any,.any,.any,.any,.any,.any,.any,.any,.any,.any,.any,.any,.any,.any,.any,.any,.any,.any,.any,.any,.any],m⟩ K =
 (aB 0 x1).bind fun v1=>
 (ai none m v1).bind fun v2=>
 (aB 1 x1).bind fun v3=>
 (ai none m v3).bind fun v4=>
 (af .other .neq v2 v4).bind fun v5=>
 au v5 (
 (eI (.agg [(.bool false),(.lst none true .full []),(.lst none true .full [])]) []).bind fun v6=>
 (aA (some 3) m x2 v6).bind fun m7=>
 K .ret ⟨[.any,x1,x2,(.int .i64 30),.any,.any,.any,.any,.any,.any,.any,.any,.any,.any,v1,v2,v3,v4,v5,v6,.any,.any,.any,.any,.any,.any,.any,.any,.any,.any,.any,.any,.any,.any,.any,.any,.any,.any,.any,.any,.any,.any,.any,.any,.any,.any,.any,.any,.any],m7⟩) (
 K .normal ⟨[.any,x1,x2,.any,.any,.any,.any,.any,.any,.any,.any,.any,.any,.any,v1,v2,v3,v4,v5,.any,.any,.any,.any,.any,.any,.any,.any,.any,.any,.any,.any,.any,.any,.any,.any,.any,.any,.any,.any,.any,.any,.any,.any,.any,.any,.any,.any,.any,.any],m⟩):=by kernel_rfl
theorem Qf(x1 x2:AV)(m:ae)(K:KT):aq ab 47 (AP ab) (AC ab) (c1 (c2 (c2 (c2 (al f47))))) ⟨[.any,x1,x2,.any,.any,.any,.any,.any,.any,.any,.any,.any,.any,.any,.any,.any,.any,.any,.any,.any,.any,.any,.any,.any,.any,.any,.any,.any,.any,.any,.any,.any,.any,.any,.any,.any,.any,.any,.any,.any,.any,.any,.any,.any,.any,.any,.any,.any,.any],m⟩ K =
 (ai (some 3) m x1).bind fun v1=>
 (nT (AC ab) m 56 [v1]).bind fun r2=>
 (aA (some 3) (ak none r2.2 (.obj true [(.int .i64 0),(.int .i64 0),(.lst none true .full [])])).2 (.ptr (ak none r2.2 .resv).1 0) r2.1).bind fun m3=>
 K .normal ⟨[.any,x1,x2,.any,(.ptr (ak none r2.2 .resv).1 0),.any,.any,.any,.any,.any,.any,.any,.any,.any,.any,.any,.any,.any,.any,.any,v1,r2.1,.any,.any,.any,.any,.any,.any,.any,.any,.any,.any,.any,.any,.any,.any,.any,.any,.any,.any,.any,.any,.any,.any,.any,.any,.any,.any,.any],m3⟩:=by kernel_rfl
theorem Qg(x2 x4:AV)(m:ae)(K:KT):aq ab 47 (AP ab) (AC ab) (c1 (c2 (c2 (c2 (c2 (al f47)))))) ⟨[.any,.any,x2,.any,x4,.any,.any,.any,.any,.any,.any,.any,.any,.any,.any,.any,.any,.any,.any,.any,.any,.any,.any,.any,.any,.any,.any,.any,.any,.any,.any,.any,.any,.any,.any,.any,.any,.any,.any,.any,.any,.any,.any,.any,.any,.any,.any,.any,.any],m⟩ K =
 (ai (some 3) m x4).bind fun v1=>
 (aB 1 x4).bind fun v2=>
 (ai none m v2).bind fun v3=>
 (AC ab 88 [v1,v3] m).bind fun r4=>
 (bg r4.1 0).bind fun v5=>
 (bg r4.1 1).bind fun v6=>
 K .normal ⟨[.any,.any,x2,.any,x4,v5,v6,.any,.any,.any,.any,.any,.any,.any,.any,.any,.any,.any,.any,.any,.any,.any,r4.1,v1,v2,v3,r4.1,v5,v6,.any,.any,.any,.any,.any,.any,.any,.any,.any,.any,.any,.any,.any,.any,.any,.any,.any,.any,.any,.any],r4.2⟩:=by kernel_rfl
theorem qbt(x2 x4 x5 x6:AV)(m:ae)(K:KT):aq ab 47 (AP ab) (AC ab) (c1 (c2 (c2 (c2 (c2 (c2 (al f47))))))) ⟨[.any,.any,x2,.any,x4,x5,x6,.any,.any,.any,.any,.any,.any,.any,.any,.any,.any,.any,.any,.any,.any,.any,.any,.any,.any,.any,.any,.any,.any,.any,.any,.any,.any,.any,.any,.any,.any,.any,.any,.any,.any,.any,.any,.any,.any,.any,.any,.any,.any],m⟩ K =
 (aB 0 x4).bind fun v1=>
 (ai none m v1).bind fun v2=>
 (af .other .lss x5 v2).bind fun v3=>
 au v3 (
 (ao (AP ab) none m 60 []).bind fun r4=>
 (aA (some 3) r4.2 x2 r4.1).bind fun m5=>
 K .ret ⟨[.any,.any,x2,(.int .i64 0),x4,x5,x6,.any,.any,.any,.any,.any,.any,.any,.any,.any,.any,.any,.any,.any,.any,.any,.any,.any,.any,.any,.any,.any,.any,x5,v1,v2,v3,r4.1,.any,.any,.any,.any,.any,.any,.any,.any,.any,.any,.any,.any,.any,.any,.any],m5⟩) (
 K .normal ⟨[.any,.any,x2,.any,x4,x5,x6,.any,.any,.any,.any,.any,.any,.any,.any,.any,.any,.any,.any,.any,.any,.any,.any,.any,.any,.any,.any,.any,.any,x5,v1,v2,v3,.any,.any,.any,.any,.any,.any,.any,.any,.any,.any,.any,.any,.any,.any,.any,.any],m⟩):=by kernel_rfl
theorem qbu(x2 x4 x6:AV)(m:ae)(K:KT):aq ab 47 (AP ab) (AC ab) (c1 (c2 (c2 (c2 (c2 (c2 (c2 (al f47)))))))) ⟨[.any,.any,x2,.any,x4,.any,x6,.any,.any,.any,.any,.any,.any,.any,.any,.any,.any,.any,.any,.any,.any,.any,.any,.any,.any,.any,.any,.any,.any,.any,.any,.any,.any,.any,.any,.any,.any,.any,.any,.any,.any,.any,.any,.any,.any,.any,.any,.any,.any],m⟩ K =
 (ao (AP ab) none m 84 []).bind fun r1=>
 (aA (some 3) (ak none r1.2 (.obj true [(.bool false),(.lst none true .full []),(.lst none true .full [])])).2 (.ptr (ak none r1.2 .resv).1 0) r1.1).bind fun m2=>
 K .normal ⟨[.any,.any,x2,.any,x4,.any,x6,(.ptr (ak none r1.2 .resv).1 0),.any,.any,.any,.any,.any,.any,.any,.any,.any,.any,.any,.any,.any,.any,.any,.any,.any,.any,.any,.any,.any,.any,.any,.any,.any,.any,r1.1,.any,.any,.any,.any,.any,.any,.any,.any,.any,.any,.any,.any,.any,.any],m2⟩:=by kernel_rfl
theorem qbv(x2 x4 x6 x7:AV)(m:ae)(K:KT):aq ab 47 (AP ab) (AC ab) (c1 (c1 (c2 (c2 (c2 (c2 (c2 (c2 (c2 (al f47)))))))))) ⟨[.any,.any,x2,.any,x4,.any,x6,x7,.any,.any,.any,.any,.any,.any,.any,.any,.any,.any,.any,.any,.any,.any,.any,.any,.any,.any,.any,.any,.any,.any,.any,.any,.any,.any,.any,.any,.any,.any,.any,.any,.any,.any,.any,.any,.any,.any,.any,.any,.any],m⟩ K =
 (ai (some 3) m x4).bind fun v1=>
 (ao (AP ab) none m 82 [v1]).bind fun r2=>
 K .normal ⟨[.any,.any,x2,.any,x4,.any,x6,x7,.any,.any,.any,.any,.any,.any,.any,.any,.any,.any,.any,.any,.any,.any,.any,.any,.any,.any,.any,.any,.any,.any,.any,.any,.any,.any,.any,v1,r2.1,.any,.any,.any,.any,.any,.any,.any,.any,.any,.any,.any,.any],r2.2⟩:=by kernel_rfl
theorem qbp(x7 x8 x9:AV)(m:ae)(K:KT):aq ab 47 (AP ab) (AC ab) (rB (c1 (c2 (c1 (c2 (c2 (c2 (c2 (c2 (c2 (c2 (al f47)))))))))))) ⟨[.any,.any,.any,.any,.any,.any,.any,x7,x8,x9,.any,.any,.any,.any,.any,.any,.any,.any,.any,.any,.any,.any,.any,.any,.any,.any,.any,.any,.any,.any,.any,.any,.any,.any,.any,.any,.any,.any,.any,.any,.any,.any,.any,.any,.any,.any,.any,.any,.any],m⟩ K =
 (ai (some 3) m x7).bind fun v1=>
 (aJ (some 3) x9 x8).bind fun v2=>
 (ai (some 3) m v2).bind fun v3=>
 (ao (AP ab) (some m.length) m 78 [v1,v3]).bind fun r4=>
 (aA (some 3) r4.2 x7 r4.1).bind fun m5=>
 K .normal ⟨[.any,.any,.any,.any,.any,.any,.any,x7,x8,x9,.any,.any,.any,.any,.any,.any,.any,.any,.any,.any,.any,.any,.any,.any,.any,.any,.any,.any,.any,.any,.any,.any,.any,.any,.any,.any,.any,.any,.any,v1,x9,x8,v2,v3,r4.1,.any,.any,.any,.any],m5⟩:=by kernel_rfl
theorem Qh(x2 x6 x7:AV)(m:ae)(K:KT):aq ab 47 (AP ab) (AC ab) (c1 (c2 (c2 (c2 (c2 (c2 (c2 (c2 (c2 (al f47)))))))))) ⟨[.any,.any,x2,.any,.any,.any,x6,x7,.any,.any,.any,.any,.any,.any,.any,.any,.any,.any,.any,.any,.any,.any,.any,.any,.any,.any,.any,.any,.any,.any,.any,.any,.any,.any,.any,.any,.any,.any,.any,.any,.any,.any,.any,.any,.any,.any,.any,.any,.any],m⟩ K =
 au x6 (
 (ai (some 3) m x7).bind fun v1=>
 (ao (AP ab) none m 89 [v1]).bind fun r2=>
 (aA (some 3) r2.2 x7 r2.1).bind fun m3=>
 K .normal ⟨[.any,.any,x2,.any,.any,.any,x6,x7,.any,.any,.any,.any,.any,.any,.any,.any,.any,.any,.any,.any,.any,.any,.any,.any,.any,.any,.any,.any,.any,.any,.any,.any,.any,.any,.any,.any,.any,.any,.any,.any,.any,.any,.any,.any,.any,x6,v1,r2.1,.any],m3⟩) (
 K .normal ⟨[.any,.any,x2,.any,.any,.any,x6,x7,.any,.any,.any,.any,.any,.any,.any,.any,.any,.any,.any,.any,.any,.any,.any,.any,.any,.any,.any,.any,.any,.any,.any,.any,.any,.any,.any,.any,.any,.any,.any,.any,.any,.any,.any,.any,.any,x6,.any,.any,.any],m⟩):=by kernel_rfl
theorem qbw(x2 x7:AV)(m:ae)(K:KT):aq ab 47 (AP ab) (AC ab) (c2 (c2 (c2 (c2 (c2 (c2 (c2 (c2 (c2 (al f47)))))))))) ⟨[.any,.any,x2,.any,.any,.any,.any,x7,.any,.any,.any,.any,.any,.any,.any,.any,.any,.any,.any,.any,.any,.any,.any,.any,.any,.any,.any,.any,.any,.any,.any,.any,.any,.any,.any,.any,.any,.any,.any,.any,.any,.any,.any,.any,.any,.any,.any,.any,.any],m⟩ K =
 (ai (some 3) m x7).bind fun v1=>
 (aA (some 3) m x2 v1).bind fun m2=>
 K .ret ⟨[.any,.any,x2,(.int .i64 0),.any,.any,.any,x7,.any,.any,.any,.any,.any,.any,.any,.any,.any,.any,.any,.any,.any,.any,.any,.any,.any,.any,.any,.any,.any,.any,.any,.any,.any,.any,.any,.any,.any,.any,.any,.any,.any,.any,.any,.any,.any,.any,.any,.any,v1],m2⟩:=by kernel_rfl
end Go.Ab
