/- Weigh by value: one node's arms; all nodes. -/
import Derived.Test.YtiipgpkgcdhbfaaGreatDoorFP4
import Derived.Test.YtiipgpkgcdhbfaaGreatDoorFP2
import Derived.Test.YtiipgpkgcdhbfaaGreatDoorFP3
import Derived.Test.YtiipgpkgcdhbfaaGreatDoorFP0
import Derived.Test.YtiipgpkgcdhbfaaGreatDoorProg
import Derived.Tactics
import Derived.Tactics2
import Derived.Defers
import Derived.Recover
import Derived.Laws.Pointers
import Derived.ProofKit
import Derived.OpenShut
import Derived.ChangeArms
import Derived.Test.YtiipgpkgcdhbfaaGreatDoorFP1
import Derived.LaidMore
import Derived.Lay
import Derived.KernelRfl
import Derived.Test.YtiipgpkgcdhbfaaGreatDoorRows
set_option maxRecDepth 100000
set_option linter.unusedVariables false
set_option linter.unusedSimpArgs false
set_option linter.unusedSectionVars false
namespace Go.Ab
open Go.Proofs Go.Proofs.Tryz
abbrev OL:=Pq.OL
abbrev IL:=Pq.IL
def cm(L:OL)(u j:Nat):Nat:=(((L.es.map Pq.IL.ns).getD u []).getD j 0).toNat
structure OddsOk (ar:List Int) (L:OL):Prop where
 len:L.es.length=ar.length
 row:∀(u:Nat) (h:u<L.es.length),Pq.RowOk L.es[u]/\(L.es[u].ns.length:Int)=ar.getD u 0
theorem Ao{L:OL}{u:Nat}(h:u<L.es.length)(j:Nat):cm L u j=(L.es[u].ns.getD j 0).toNat:=by
 unfold cm;rw[aK (l:=L.es.map Pq.IL.ns),pU,bn h];rfl
theorem qdu:∀(l:List Int),(∀o∈l,0<=o)->ir l.length (fun j=>(l.getD j 0).toNat)=l.sum.toNat/\0<=l.sum:=by
 have key:∀(l:List Int),(∀o∈l,0<=o)->(((List.range l.length).map fun j=>(l.getD j 0).toNat).sum:Nat)=l.sum.toNat/\0<=l.sum:=by
  intro l
  induction l with
  | nil=>intro _;exact ⟨rfl,aq⟩
  | cons a l ih=>
   intro h;obtain ⟨h1,h2⟩:=ih fun o ho=>h o (cP _ ho);have ha:=h a cF;rw[a8,List.range_succ_eq_map,cU,jC,pX,jC];refine ⟨?_,Z⟩;have e:((fun j=>((a::l).getD j 0).toNat) ∘ Nat.succ)=fun j=>(l.getD j 0).toNat:=by funext j;rfl
   rw[e,h1];show a.toNat+_=_;omega
 exact key
theorem OddsOk.ss{ar:List Int}{L:OL}(h:OddsOk ar L){u:Nat}(hu:u<L.es.length):SS ar (cm L) u=L.es[u].ns.sum.toNat/\0<SS ar (cm L) u/\SS ar (cm L) u<=64000:=by
 obtain ⟨r,hl⟩:=h.row u hu
 have e:SS ar (cm L) u=L.es[u].ns.sum.toNat:=by
  rw[<- (qdu L.es[u].ns fun o ho=>(r.2.1 o ho).1).1];unfold SS;rw[show iG ar u=L.es[u].ns.length by unfold iG;omega];exact kN fun j _=>Ao hu j
 obtain ⟨S,hS,h0,hb⟩:=r.sum;rw[hS] at e;exact ⟨by rw[e,hS],by rw[e];omega,by rw[e];omega⟩
theorem HN{ar:List Int}{s:Nat->Nat->Nat}(h:∀v,v<ar.length->0<SS ar s v/\SS ar s v<=64000):∀d v,v+d<=ar.length->0<PM ar s d v/\PM ar s d v<=64000^d
 | 0,v,_=>⟨Nat.one_pos,aI _⟩
 | d+1,v,hv=>by
  obtain ⟨h1,h2⟩:=h v Z;obtain ⟨h3,h4⟩:=HN h d (v+1) Z;refine ⟨Nat.mul_pos h1 h3,?_⟩;rw[PM,ij,bU];exact mP h4 h2
theorem HO{ar:List Int}{s:Nat->Nat->Nat}(h:∀v,v<ar.length->0<SS ar s v/\SS ar s v<=64000)(hal:ar.length<=16):PM ar s ar.length 0≠0/\PM ar s ar.length 0<4294967296^8:=by
 obtain ⟨h1,h2⟩:=HN h ar.length 0 Z;refine ⟨Z,im h2 ?_⟩;exact im (lF Z hal) (by decide)
theorem OddsOk.all{ar:List Int}{L:OL}(h:OddsOk ar L):∀v,v<ar.length->0<SS ar (cm L) v/\SS ar (cm L) v<=64000:=fun v hv=>(h.ss (by rw[h.len];exact hv)).2
theorem qcc{ar:List Int}{L:OL}(h:OddsOk ar L){u:Nat}(hu:u<L.es.length){j:Nat}(hj:j<L.es[u].ns.length):∃p:RV,AP aa 70 [(L.es[u].fr).av,.I (j:Int)]=some p.av/\Can p (cL false (cm L u j) (SS ar (cm L) u))/\ROk 9 p/\p.fr=p:=by
 obtain ⟨r,hl⟩:=h.row u hu;have r':Pq.RowOk L.es[u].fr:=r;obtain ⟨p,e,hc,hf⟩:=Pq.V70 r' (i:=j) hj;have e1:Pq.partQ L.es[u].fr j=cL false (cm L u j) (SS ar (cm L) u):=by rw[(h.ss hu).1,Ao hu];rfl
 have hb:=Pq.partQ_bd r (i:=j) hj;have hb':Bd 1 (cL false (cm L u j) (SS ar (cm L) u)):=by rw[<- e1];exact hb
 rw[e1] at hc;exact ⟨p,e,hc,(hc.ok hb' (by omega)).mono Z,hf⟩
abbrev bR(r:RV):Option Ent:=some (.B [.bool r.neg,r.num.av,r.den.av])
abbrev bZ:Option Ent:=some (.B [.bool false,aw,aw])
theorem pK(m:af)(e e':Option Ent){k:Nat}(hk:k=m.length):List.set (m++[e]) k e'=m++[e']:=by
 subst hk;rw[nZ _ _ (aI _),jQ];rfl
theorem EO(m:af)(e f e':Option Ent){k:Nat}(hk:k=m.length):List.set ((m++[e])++[f]) k e'=(m++[e'])++[f]:=by
 rw[List.set_append_left _ _ (by simp;omega),pK m e e' hk]
theorem EF(m:af):ck m 1=m++[some .resv]:=rfl
theorem Mi(m:af):ck m 2=(m++[some .resv])++[some .resv]:=by simp[ck,List.replicate]
section
variable {M:Nat} {pd:Nat}
theorem WX{ar:List Int}{L:OL}(hO:OddsOk ar L){l:List ND}{k u:Nat}(hk:k<l.length)(hu:l[k].var=u)(hul:u<L.es.length)(hM:M<4294967296^8)(h0:M≠0){t:Nat}{w:RV}(hw:WV M w (t*SS ar (cm L) u)){T:Nat->Nat}
  (hb:∀(A:List (Nat×Nat)) (p:Nat×Nat) (A':List (Nat×Nat)),gY ar (cm L) l[k]=A++p::A'->iD t A T p.1+t*p.2<=M) (hkn:∀(i:Nat) (h:i<l[k].kids.length),∃q:Nat,l[k].kids[i]=q/\q<=1000000) (hkl:l[k].kids.length=iG ar u) (hk6:iG ar u<=64)
  {c:Nat} {z:Bool} {o:Own} (x3 x8 x12 x52 x53 x54:AV) (K:KT):∀(d j:Nat) (m:af) (E:List (Int×RV)),j+d=l[k].kids.length->pd<c->c+1<m.length ->
  m.get c=some (.B [.I l[k].var,bM l[k],.I l[k].leaf])->m.get (c+1)=bR w->m.get pd=some (.mp (.int .i64) (dm E))->p7 M E (iD t ((gY ar (cm L) l[k]).take j) T)->E.length+d<=900000000 ->
  ∃(m':af) (E':List (Int×RV)),lV L.av x3 x8 (.mref pd) x12 (.ptr c 0) (.ptr (c+1) 0) x52 x53 x54 (IA z o l[k].kids) (.I l[k].kids.length) (.I j) m K=K (.exit 2) (yz L.av x3 x8 (.mref pd) x12 x52 x53 x54 m')/\Fr m m' [pd]/\m'.get pd=some (.mp (.int .i64) (dm E'))/\p7 M E' (iD t (gY ar (cm L) l[k]) T)/\E'.length<=E.length+d:=by
 have hut:l[k].var.toNat=u:=Z;have hWl:(gY ar (cm L) l[k]).length=l[k].kids.length:=by unfold gY;rw[bA,List.length_range,hut,hkl]
 intro d
 induction d with
 | zero=>
  intro j m E hj hpc hcm hgc hgw hgp hR hE;refine ⟨m,E,?_,Fr.refl _ _,hgp,by rw[iv Z] at hR;exact hR,Z⟩;rw[BH,bg,O,az,ag Z]
 | succ d ih=>
  intro j m E hj hpc hcm hgc hgw hgp hR hE;have hjl:j<l[k].kids.length:=Z;obtain ⟨q,eq,hq⟩:=hkn j hjl;have hgd:l[k].kids.getD j 0=(q:Int):=by rw[aK,bn hjl,bQ,eq]
  have hWj:(gY ar (cm L) l[k])[j]'(by omega)=(q,cm L u j):=by
   unfold gY;rw[kf,List.getElem_range,hgd,hut];rfl
  have hsplit:gY ar (cm L) l[k]=(gY ar (cm L) l[k]).take j++(q,cm L u j)::(gY ar (cm L) l[k]).drop (j+1):=by
   rw[<- hWj,<- ic,kg]
  have hbj:=hb _ _ _ hsplit;dsimp only at hbj;have htk:(gY ar (cm L) l[k]).take (j+1)=(gY ar (cm L) l[k]).take j++[(q,cm L u j)]:=by rw[kC Z,hWj]
  generalize hTj:iD t ((gY ar (cm L) l[k]).take j) T=Tj at hR hbj;have hjr:j<L.es[u].ns.length:=by have:=(hO.row u hul).2;unfold iG at hkl;omega
  obtain ⟨p,ep,cp,op,fp⟩:=qcc hO hul hjr;obtain ⟨x,ex,wx⟩:=hw.mul hM (Nat.pos_iff_ne_zero.1 (hO.ss hul).2.1) cp op Z;have hS:=hO.ss hul;have hix:=Pq.index_ol (l:=L) (kk:=.i64) hul;have hidx:aE none (IA z o l[k].kids) (.I j)=some (.vptr [.I (q:Int)]):=by rw[fw hjl,eq]
  have hc1:=bo hgc;have hpl:=bo hgp;have ldw:am (some 3) (ck m 1) (.ptr (c+1) 0)=some w.av:=vH (by rw[EF,bP Z];exact hgw);have ldv:am none (ck m 1) (.ptr c (0+0))=some (.I u):=by rw[cS,EF,bP Z,hgc,hu];rfl
  have p70:aF (AP aa) (some m.length) (ck m 1) 70 [L.es[u].av,.I j]=some (p.av,ck m 1):=by rw[eC (Pq.fz_il _) (ft _ _),ep];rfl
  have p69:aF (AP aa) (some m.length) (ck m 1) 69 [w.av,p.av]=some (x.av,ck m 1):=by rw[eC (gQ w) (gQ p),hw.fr,fp,ex];rfl
  have m1e:((aC (some m.length) (ck m 1) (.B [.bool false,aw,aw])).2)=m++[bZ]:=by rw[vS,EF,pK m _ _ rfl]
  have st1:aM (some 3) (m++[bZ]) (.ptr m.length 0) x.av=some (m++[bR x]):=by rw[Au (bG rfl),pK m _ _ rfl]
  have hgp1:af.get (m++[bR x]) pd=some (.mp (.int .i64) (dm E)):=by rw[bP hpl];exact hgp
  have lkq:=DR hgp1 (k:=(q:Int)) Z;have m2e:(aC none (m++[bR x]) (.B [.bool false,aw,aw])).2=(m++[bR x])++[bZ]:=rfl;have l1:(m++[bR x]).length=m.length+1:=aq;generalize hr:(lk E q).getD zR=r at lkq;have wr:WV M r (Tj q):=by rw[<- hr];exact hR q
  have st2:aM (some 3) ((m++[bR x])++[bZ]) (.ptr (m.length+1) 0) r.av=some ((m++[bR x])++[bR r]):=by
   rw[Au (c1:=.bool false) (c2:=aw) (c3:=aw) (bG l1.symm),pK _ _ _ l1.symm]
  have ldx:am (some 3) ((m++[bR x])++[bR r]) (.ptr m.length 0)=some x.av:=vH (by rw[bP aq,bG rfl]);have ldr:am (some 3) ((m++[bR x])++[bR r]) (.ptr (m.length+1) 0)=some r.av:=vH (bG l1.symm)
  have fin:∀(y:RV) (M2:af),WV M y (Tj q+t*cm L u j)->Fr m M2 []->m.length<=M2.length ->
    ∃(m':af) (E':List (Int×RV)),((gM (.int .i64) M2 (.mref pd) (.I (q:Int)) y.av).bind fun m21=>(ae .o .add (.I (j:Int)) (.I 1)).bind fun v22=>lV L.av x3 x8 (.mref pd) x12 (.ptr c 0) (.ptr (c+1) 0) x52 x53 x54 (IA z o l[k].kids) (.I l[k].kids.length) v22 m21 K)=K (.exit 2) (yz L.av x3 x8 (.mref pd) x12 x52 x53 x54 m')/\Fr m m' [pd]/\m'.get pd=some (.mp (.int .i64) (dm E'))/\p7 M E' (iD t (gY ar (cm L) l[k]) T)/\E'.length<=E.length+(d+1):=by
   intro y M2 wy f2 hl2;have hg2:M2.get pd=some (.mp (.int .i64) (dm E)):=by rw[f2.get pd hpl aq];exact hgp
   have hpl2:=bo hg2;have up:=Ff hg2 (k:=(q:Int)) Z Z y;have ple:=LT E q y;have fr2:Fr m (M2.set pd (some (.mp (.int .i64) (dm (pm E q y))))) [pd]:=(f2.mono (by simp)).set _ (.inl aq)
   obtain ⟨m',E',e,k1,k2,k3,k4⟩:=ih (j+1) (M2.set pd (some (.mp (.int .i64) (dm (pm E q y))))) (pm E q y) Z hpc (by rw[ff];omega) (by rw[bO Z,f2.get c hc1 aq];exact hgc) (by rw[bO Z,f2.get (c+1) hcm aq];exact hgw) (b7 rfl hpl2) (by
    rw[htk,As,hTj]
    exact hR.put wy) Z
   refine ⟨m',E',?_,Fr.trans fr2 k1 (fun a ha=>.inl ha),k2,k3,Z⟩;rw[up,O,b6 Z,O];exact e
  have pre:lV L.av x3 x8 (.mref pd) x12 (.ptr c 0) (.ptr (c+1) 0) x52 x53 x54 (IA z o l[k].kids) (.I l[k].kids.length) (.I j) m K =
    au (.bool (lk E q).isSome) (
     (am (some 3) ((m++[bR x])++[bR r]) (.ptr (m.length+1) 0)).bind fun v16=>
     (am (some 3) ((m++[bR x])++[bR r]) (.ptr m.length 0)).bind fun v17=>
     (aF (AP aa) none ((m++[bR x])++[bR r]) 71 [v16,v17]).bind fun r18=>
     (aM (some 3) r18.2 (.ptr m.length 0) r18.1).bind fun m19=>
     (am (some 3) m19 (.ptr m.length 0)).bind fun v20=>
     (gM (.int .i64) m19 (.mref pd) (.I (q:Int)) v20).bind fun m21=>
     (ae .o .add (.I (j:Int)) (.I 1)).bind fun v22=>
     lV L.av x3 x8 (.mref pd) x12 (.ptr c 0) (.ptr (c+1) 0) x52 x53 x54 (IA z o l[k].kids) (.I l[k].kids.length) v22 m21 K) (
     (am (some 3) ((m++[bR x])++[bR r]) (.ptr m.length 0)).bind fun v23=>
     (gM (.int .i64) ((m++[bR x])++[bR r]) (.mref pd) (.I (q:Int)) v23).bind fun m24=>
     (ae .o .add (.I (j:Int)) (.I 1)).bind fun v25=>
     lV L.av x3 x8 (.mref pd) x12 (.ptr c 0) (.ptr (c+1) 0) x52 x53 x54 (IA z o l[k].kids) (.I l[k].kids.length) v25 m24 K):=by
   rw[BH,bg,O,az,ai Z,hidx,O,cr,O,ldw,O,fJ,O,ldv,O,hix,O,Pq.load_ol,O,p70,O];dsimp only;rw[p69,O];dsimp only;rw[m1e,show (aC (some m.length) (ck m 1) Ent.resv).1=m.length from rfl,st1,O,show (AV.agg [.bool false,aw,aw])=zR.av from rfl,lkq,O];dsimp only;rw[show ∀a b:AV,aT (.tup [a,b]) 0=some a from fun _ _=>rfl,O,show ∀a b:AV,aT (.tup [a,b]) 1=some b from fun _ _=>rfl,O,m2e,show (aC none (m++[bR x]) Ent.resv).1=m.length+1 from l1,st2,O]
  rw[pre]
  cases hlk:lk E q with
  | none=>
   rw[Option.isSome_none,cD,ldx,O]
   have hz:Tj q=0:=by
    have h1:=hR q;rw[hlk,Option.getD_none] at h1;have h2:=(Nn M).q;rw[h1.q,EC,L7 h0] at h2;exact h2
   obtain ⟨m',E',e,kk⟩:=fin x ((m++[bR x])++[bR r]) (by rw[hz,bj];exact wx) (((Fr.refl m []).snoc _).snoc _) aq;exact ⟨m',E',e,kk⟩
  | some r0=>
   obtain ⟨y,ey,wy⟩:=wr.add hM h0 wx hbj;have p71:aF (AP aa) none ((m++[bR x])++[bR r]) 71 [r.av,x.av]=some (y.av,(m++[bR x])++[bR r]):=by rw[eC (gQ r) (gQ x),wr.fr,wx.fr,ey];rfl
   have st3:aM (some 3) ((m++[bR x])++[bR r]) (.ptr m.length 0) y.av=some ((m++[bR y])++[bR r]):=by
    rw[Au (c1:=.bool x.neg) (c2:=x.num.av) (c3:=x.den.av) (by rw[bP aq,bG rfl]),EO m _ _ _ rfl]
   have ldy:am (some 3) ((m++[bR y])++[bR r]) (.ptr m.length 0)=some y.av:=vH (by rw[bP aq,bG rfl]);rw[Option.isSome_some,gJ,ldr,O,ldx,O,p71,O];dsimp only;rw[st3,O,ldy,O];obtain ⟨m',E',e,kk⟩:=fin y ((m++[bR y])++[bR r]) wy (((Fr.refl m []).snoc _).snoc _) aq;exact ⟨m',E',e,kk⟩
end
end Go.Ab
namespace Go.Ab
open Go.Proofs Go.Proofs.Tryz
def t8(M:Nat)(En:List (Int×RV))(D:List (Int×Nat)):Prop:=∀p∈D,∃r,lk En p.1=some r/\WV M r p.2
theorem t8.put{M:Nat}{En:List (Int×RV)}{D:List (Int×Nat)}(h:t8 M En D){c:Int}{N:Nat}{r:RV}(hc:c∉D.map Prod.fst)(hr:WV M r N):t8 M (pm En c r) (D++[(c,N)]):=fun p hp=>by
 rw[KQ]
 rcases cI.1 hp with hp|hp
 .rw[ag (fun e=>hc (by rw[e];exact List.mem_map_of_mem hp))];exact h p hp
 .obtain rfl:p=(c,N):=by simpa using hp
  rw[ai rfl];exact ⟨r,rfl,hr⟩
abbrev bN(n:ND):Option Ent:=some (.B [.I n.var,bM n,.I n.leaf])
section
variable {s:Nat} {F:List Nat} {zs:Bool} {os:Own} {most:Int} {l:List ND} {ar:List Int}
theorem WY{L:OL}(hO:OddsOk ar L)(g:GoodL ar l)(h1:∀x∈ar,1<=x/\x<=64)(hal:ar.length<=16)(hll:l.length<=100000){M0:af}(h0:bB M0 s F (IA zs os ar) most l){pb pd pe nm:Nat}(hpd:pd∉F)(hpe:pe∉F)(hne:pd≠pe)(hb0:M0.get pb=some (.B [.ptr s 0]))(hbd:pb≠pd)(hbe:pb≠pe){ids:List Nat}(hn0:M0.get nm=some (.obj false (ds ids)))(hnd:nm≠pd)(hnp:nm≠pe)
  (hil:ids.length<=100000) (x8:AV) (K:KT):∀(R P:List Nat) (m:af) (E En:List (Int×RV)) (T:Nat->Nat) (done:Nat) (D:List (Int×Nat)),ids=P++R->Flow ar (cm L) l R T done->Fr M0 m [pd,pe]->m.get pd=some (.mp (.int .i64) (dm E))->m.get pe=some (.mp (.int .i64) (dm En)) ->
  p7 (PM ar (cm L) ar.length 0) E T->t8 (PM ar (cm L) ar.length 0) En D->((D++run ar (cm L) l R T).map Prod.fst).Nodup->E.length+64*R.length<=900000000->En.length+R.length<=900000000 ->
  ∃(m':af) (En':List (Int×RV)),sy L.av (.ptr pb 0) x8 (.mref pd) (.mref pe) (.arr nm 0 ids.length none) (.I ids.length) (.I P.length) m K=K (.exit 0) (B4 x8 (.mref pe) m')/\Fr M0 m' [pd,pe]/\m'.get pe=some (.mp (.int .i64) (dm En'))/\t8 (PM ar (cm L) ar.length 0) En' (D++run ar (cm L) l R T):=by
 obtain ⟨hM0,hM8⟩:=HO hO.all hal;intro R
 induction R with
 | nil=>
  intro P m E En T done D hPR hF f hgd hge hR hEn hnod hE1 hE2;rw[aW] at hPR;subst hPR;refine ⟨m,En,?_,f,hge,by rw[run,aW];exact hEn⟩;rw[Gw,bg,O,az,ag Z]
 | cons k R ih=>
  intro P m E En T done D hPR hF f hgd hge hR hEn hnod hE1 hE2;have hk:=hF.lt k cF;have hPl:P.length<ids.length:=by rw[hPR];simp
  have hnot:∀a∈F,a∉[pd,pe]:=fun a ha hh=>by
   simp only[cE,sO,or_false] at hh
   rcases hh with rfl|rfl
   .exact hpd ha
   .exact hpe ha
  have hst:=h0.fr f hnot;obtain ⟨p0,na,TT,st,_⟩:=hst;have hok:=st.ok _ (bp hk);have hgb:m.get pb=some (.B [.ptr s 0]):=by rw[f.get pb (bo hb0) (by simp[hbd,hbe])];exact hb0
  have hgn:m.get nm=some (.obj false (ds ids)):=by rw[f.get nm (bo hn0) (by simp[hnd,hnp])];exact hn0
  have hpbl:=bo hgb;have hpdl:=bo hgd;have hpel:=bo hge;have hsl:=bo st.hs;have rg:∀x,x<m.length->af.get (ck m 2) x=m.get x:=fun x hx=>by rw[Mi,bP (by simp;omega),bP hx]
  have ix:aE none (.arr nm 0 ids.length none) (.I P.length)=some (.ptr nm P.length):=de hPl
  have ldk:am none m (.ptr nm P.length)=some (.I (k:Nat)):=by
   rw[cS,hgn,jx,O,pi];exact zp (by rw[hPR];simp)
  have ldb:am none (ck m 2) (.ptr pb 0)=some (.ptr s 0):=kw (by rw[rg _ hpbl];exact hgb);have kG:am none (ck m 2) (.ptr s (0+1))=some na:=by rw[cS,rg _ hsl,st.hs];rfl
  have hnx:=ou st.hn hk;have ldv:am (some 3) (ck m 2) (.vptr [.I l[k].var,bM l[k],.I l[k].leaf])=some l[k].av:=rfl;have lkq:=DR (m:=ck m 2) (p:=pd) (E:=E) (k:=(k:Int)) (by rw[rg _ hpdl];exact hgd) Z;generalize hw:(lk E k).getD zR=w at lkq;have ww:WV (PM ar (cm L) ar.length 0) w (T k):=by rw[<- hw];exact hR k
  have e1:((aC (some (m.length+1)) (aC (some m.length) (ck m 2) (.B [.I 0,aw,.I 0])).2 (.B [.bool false,aw,aw])).2)=(m++[some (.B [.I 0,aw,.I 0])])++[bZ]:=by
   rw[vS,vS,Mi,EO m _ _ _ rfl,pK _ _ _ aq]
  have hsh:cu (some 3) l[k].av=true:=by unfold ND.av bM;split<;>rfl
  have st1:aM (some 3) ((m++[some (.B [.I 0,aw,.I 0])])++[bZ]) (.ptr m.length 0) l[k].av=some ((m++[bN l[k]])++[bZ]):=by
   rw[show l[k].av=.agg [.I l[k].var,bM l[k],.I l[k].leaf] from rfl,At (a:=.I 0) (b:=aw) (c:=.I 0) (by rw[bP aq,bG rfl]) hsh,EO m _ _ _ rfl]
  have st2:aM (some 3) ((m++[bN l[k]])++[bZ]) (.ptr (m.length+1) 0) w.av=some ((m++[bN l[k]])++[bR w]):=by
   rw[Au (c1:=.bool false) (c2:=aw) (c3:=aw) (bG aq),pK _ _ _ aq]
  have gn:af.get ((m++[bN l[k]])++[bR w]) m.length=some (.B [.I l[k].var,bM l[k],.I l[k].leaf]):=by rw[bP aq,bG rfl]
  have gw:af.get ((m++[bN l[k]])++[bR w]) (m.length+1)=bR w:=bG aq;have gl:∀x,x<m.length->af.get ((m++[bN l[k]])++[bR w]) x=m.get x:=fun x hx=>by rw[bP (by simp;omega),bP hx]
  have fM:Fr m ((m++[bN l[k]])++[bR w]) []:=((Fr.refl m []).snoc _).snoc _;have lM:((m++[bN l[k]])++[bR w]).length=m.length+2:=aq;generalize hMM:(m++[bN l[k]])++[bR w]=MM at gn gw gl fM lM st2;have ld0:am none MM (.ptr m.length (0+0))=some (.I l[k].var):=by rw[cS,gn];rfl
  have ld1:∀M',M'.get m.length=some (.B [.I l[k].var,bM l[k],.I l[k].leaf])->am none M' (.ptr m.length (0+1))=some (bM l[k]):=fun M' h=>by rw[cS,h];rfl
  have ld2:am none MM (.ptr m.length (0+2))=some (.I l[k].leaf):=by rw[cS,gn];rfl
  have ldw:am (some 3) MM (.ptr (m.length+1) 0)=some w.av:=vH gw;have hkA:=qs hok;have hP1:(P++[k]).length=P.length+1:=aq
  have pre:sy L.av (.ptr pb 0) x8 (.mref pd) (.mref pe) (.arr nm 0 ids.length none) (.I ids.length) (.I P.length) m K =
    au (.bool (decide (l[k].var<0))) (
     (gM (.int .i64) MM (.mref pe) (.I l[k].leaf) w.av).bind fun m19=>
     (some (AV.ptr m.length (0+1))).bind fun v20=>
     (am none m19 v20).bind fun v21=>
     (aL false v21).bind fun v22=>
     lV L.av (.ptr pb 0) x8 (.mref pd) (.mref pe) (.ptr m.length 0) (.ptr (m.length+1) 0) (.arr nm 0 ids.length none) (.I ids.length) (.I P.length) v21 v22 (.I 0) m19 (qR K)) (
     lV L.av (.ptr pb 0) x8 (.mref pd) (.mref pe) (.ptr m.length 0) (.ptr (m.length+1) 0) (.arr nm 0 ids.length none) (.I ids.length) (.I P.length) (IA (kz l[k]) (ko l[k]) l[k].kids) (.I l[k].kids.length) (.I 0) MM (qR K)):=by
   rw[Gw,bg,O,az,ai Z,ix,O,ldk,O,ldb,O,iq,O,fJ,O,kG,O,hnx,O,ldv,O,show (AV.agg [.bool false,aw,aw])=zR.av from rfl,lkq,O];dsimp only;rw[e1,show (aC (some m.length) (ck m 2) Ent.resv).1=m.length from rfl,st1,O];have e2:∀x,(aC (some (m.length+1)) x Ent.resv).1=m.length+1:=fun _=>rfl;rw[e2,st2,O,fJ,O,ld0,O,bg,O,fJ,O,ld2,O,ldw,O,fJ,O,ld1 MM gn,O,hkA,fc,O]
  by_cases hv:l[k].var<0
  ·
   obtain ⟨hF',hTk,_⟩:=hF.leaf g hk hv
   have hrun:run ar (cm L) l (k::R) T=(l[k].leaf,T k)::run ar (cm L) l R T:=by
    rw[run,bn hk];dsimp only;rw[ai hv]
   rw[hrun] at hnod ⊢
   have hlf:-1000000000000<=l[k].leaf/\l[k].leaf<=1000000000000:=by
    rcases hok with ⟨_,_,h3⟩|⟨h3,_⟩<;>omega
   have hge2:MM.get pe=some (.mp (.int .i64) (dm En)):=by rw[gl _ hpel];exact hge
   have up:=Ff hge2 hlf (by simp at hE2;omega) w
   have hcn:l[k].leaf∉D.map Prod.fst:=fun hh=>by
    rw[gW,cU] at hnod;exact (List.nodup_append.1 hnod).2.2 _ hh _ cF rfl
   have ple:=LT En l[k].leaf w
   have hk0:l[k].kids=[]:=by
    rcases hok with ⟨_,h2,_⟩|⟨h2,_⟩
    .exact h2
    .omega
   have hpl2:=bo hge2;have f2:Fr M0 (MM.set pe (some (.mp (.int .i64) (dm (pm En l[k].leaf w))))) [pd,pe]:=(Fr.trans f fM fun _ h=>by cases h).set _ (.inl aq);obtain ⟨m',En',e,k1,k2,k3⟩:=ih (P++[k]) _ E (pm En l[k].leaf w) T _ (D++[(l[k].leaf,T k)]) (by rw[hPR,bE];rfl) hF' f2 (by rw[bO hne,gl _ hpdl];exact hgd) (b7 rfl hpl2) hR (hEn.put hcn ww) (by rw[bE];exact hnod) (by simp at hE1;omega) (by simp at hE2;omega);refine ⟨m',En',?_,k1,k2,by rw[bE] at k3;exact k3⟩;rw[hP1] at e;have gn2:af.get (MM.set pe (some (.mp (.int .i64) (dm (pm En l[k].leaf w))))) m.length=some (.B [.I l[k].var,bM l[k],.I l[k].leaf]):=by rw[bO Z];exact gn
   rw[pre,eT hv,gJ,up,O,O,ld1 _ gn2,O,hkA,fc,O,BH,bg,O,az,ag (by rw[hk0];simp),FO,b6 Z,O];exact e
  ·
   obtain ⟨u,hu⟩:∃u:Nat,l[k].var=u:=⟨l[k].var.toNat,Z⟩;have hut:l[k].var.toNat=u:=Z;obtain ⟨hul,htm,hmem,_,hbound,hF',_⟩:=hF.inner g (fun v hv=>(hO.all v hv).1) hk hu
   have hrun:run ar (cm L) l (k::R) T=run ar (cm L) l R (iD (T k/SS ar (cm L) u) (gY ar (cm L) l[k]) T):=by
    rw[run,bn hk];dsimp only;rw[ag hv,hut]
   rw[hrun] at hnod ⊢;obtain ⟨hv1,hv2⟩:=g.var k hk Z;rw[hut] at hv2;have hkl:l[k].kids.length=iG ar u:=by unfold iG;omega
   have hk6:iG ar u<=64:=by
    have:=h1 _ (bp hul);unfold iG;rw[aK,bn hul,bQ];omega
   have hE1':E.length+(64*R.length+64)<=900000000:=by simp only[a8] at hE1;omega
   obtain ⟨m1,E1,e17,f1,g1,r1,hl1⟩:=WX hO hk hu (by rw[hO.len];exact hul) hM8 hM0 (t:=T k/SS ar (cm L) u) (w:=w) (by rw[htm];exact ww) (T:=T) hbound (fun i hi=>by
     obtain ⟨q,e,hq⟩:=mw g hk _ (bp hi)
     exact ⟨q,e,Z⟩) hkl hk6 (c:=m.length) (z:=kz l[k]) (o:=ko l[k]) (.ptr pb 0) x8 (.mref pe) (.arr nm 0 ids.length none) (.I ids.length) (.I P.length) (qR K) l[k].kids.length 0 MM E Z hpdl Z gn gw (by rw[gl _ hpdl];exact hgd) (by rw[List.take_zero];exact hR) Z
   have f2:Fr M0 m1 [pd,pe]:=Fr.trans (Fr.trans f fM fun _ h=>by cases h) f1 fun a ha=>.inl (by simp at ha;simp[ha]);have hge1:m1.get pe=some (.mp (.int .i64) (dm En)):=by rw[f1.get pe Z (by simp;exact fun e=>hne e.symm),gl _ hpel];exact hge
   obtain ⟨m',En',e,k1,k2,k3⟩:=ih (P++[k]) m1 E1 En _ done D (by rw[hPR,bE];rfl) hF' f2 g1 hge1 r1 hEn hnod Z (by simp at hE2;omega);refine ⟨m',En',?_,k1,k2,k3⟩;rw[hP1] at e;have e17:lV L.av (.ptr pb 0) x8 (.mref pd) (.mref pe) (.ptr m.length 0) (.ptr (m.length+1) 0) (.arr nm 0 ids.length none) (.I ids.length) (.I P.length) (IA (kz l[k]) (ko l[k]) l[k].kids) (.I l[k].kids.length) (.I 0) MM (qR K)=_:=e17;rw[pre,eX hv,cD,e17,FO,b6 Z,O];exact e
end
end Go.Ab
namespace Go.Ab.Pq
open Go.Proofs.Tryz
structure HI (c:CV) (n:ND) (s:RV) (m:af):Prop where
 g0:m[0]?=some (cC c)
 g1:m[1]?=some (cR zR)
 g2:m[2]?=some (cN n)
 g3:m[3]?=some (cR s)
end Go.Ab.Pq
namespace Go.Ab.Pq
open Go.Proofs.Tryz
theorem zip_all{L:OL}{ns:List Int}(hl:L.es.length=ns.length)(h:(L.es.zip ns).all (fun p=>rowB p.1 p.2)=true){v:Nat}(hv:v<L.es.length):rowB L.es[v] (ns[v]'(by omega))=true:=by
 have hz:v<(L.es.zip ns).length:=by rw[uI];omega
 have:=fe.1 h _ (bp hz);rw[List.getElem_zip] at this;exact this
theorem sT.fr{odds:OL}{ws:LV}{n:ND}(h:sT odds ws n):sT odds.fr ws.fr ⟨n.var,n.kids.fr,n.leaf⟩:=by
 rcases h with h|⟨v,hv,hn,h⟩
 .exact .inl h
 .exact .inr ⟨v,hv,hn,h.row,h.len,h.kids⟩
theorem sT.fr2{odds:OL}{ws:LV}{n:ND}(h:sT odds ws n):sT odds.fr ws.fr n:=by
 rcases h with h|⟨v,hv,hn,h⟩
 .exact .inl h
 .exact .inr ⟨v,hv,hn,h.row,h.len,h.kids⟩
structure CI (c:CV) (m:af):Prop where
 g0:m[0]?=some (cC c)
 g1:m[1]?=some (cR zR)
end Go.Ab.Pq
namespace Go.Ab
open Go.Proofs Go.Proofs.Tryz
def jN(c:Int)(r:RV):AV:=.agg [.I c,.bool r.neg,r.num.av,r.den.av]
inductive QR (e:Nat) (sh:Sh) (m:af):AV->List AV->List Nat->Prop
 | none:QR e sh m aw [] []
 | some (t:Nat) (es:List AV) (ht:m.get t=some (.tok es.length sh.size)) (hne:es≠[]):QR e sh m (.lst sh false (.tok t e) es) es [t]
theorem qcE{e b:Nat}{sh:Sh}{m:af}{x:AV}{l:List AV}{T:List Nat}(h:QR e sh m x l T)(hb:(l.length+1)*b<=fq)(y:AV):∃x' m' T',bF none false e sh b m x (.lst sh false .full [y])=some (x',m')/\QR e sh m' x' (l++[y]) T'/\Fr m m' T/\Gr m T T':=by
 cases h with
 | none=>
  refine ⟨.lst sh false (.tok m.length e) [y],m++[some (Ent.tok 1 sh.size)],[m.length],?_,.some _ [y] (by rw[bG rfl];rfl) aq,Fr.app m _ _,fun k hk=>?_⟩
  .have h2:b<=fq:=by simpa using hb
   simp[bF,h2,aC]
  .obtain rfl:k=m.length:=by simpa using hk
   exact .inr (aI _)
 | some t es ht _=>
  have htl:=bo ht
  refine ⟨.lst sh false (.tok t e) (l++[y]),m.set t (some (Ent.tok (l.length+1) sh.size)),[t],?_,?_,(Fr.refl m [t]).set _ (.inl aq),Gr.refl _ _⟩
  .simp[bF,ht,hb]
  .refine .some t (l++[y]) ?_ aq;rw[b7 rfl htl,aQ];rfl
theorem Md{e:Nat}{sh:Sh}{m:af}{x:AV}{l:List AV}{T:List Nat}(h:QR e sh m x l T):(x=aw/\l=[])\/∃t,x=.lst sh false (.tok t e) l:=by
 cases h with
 | none=>exact .inl ⟨rfl,rfl⟩
 | some t l ht _=>exact .inr ⟨t,rfl⟩
theorem Lu{o:Own}(h:o.fr=o):∀a b,o≠.tok a b:=fun a b e=>by subst e;cases h
theorem MR{x:NV}(h:x.fr=x):lr x.av=x.av:=by
 have h2:x.o.fr=x.o:=by have:=cA NV.o h;exact this
 unfold NV.av
 cases ho:x.o with
 | tok a b=>exact absurd ho (Lu h2 a b)
 | no=>rfl
 | full=>rfl
theorem LQ{x:NV}(h:x.fr=x):pl x.av=true:=by
 have h2:x.o.fr=x.o:=by have:=cA NV.o h;exact this
 unfold NV.av
 cases ho:x.o with
 | tok a b=>exact absurd ho (Lu h2 a b)
 | no=>rfl
 | full=>rfl
theorem qdn{c:Int}{r:RV}(h:r.fr=r):jo (jN c r)=jN c r:=by
 have h1:r.num.fr=r.num:=cA RV.num h;have h2:r.den.fr=r.den:=cA RV.den h;unfold jN jo;simp only[cU,mc,MR h1,MR h2]
 rfl
theorem Zz{c:Int}{r:RV}(h:r.fr=r):cq (some 4) [jN c r]=some (.lst (some 4) false .full [jN c r]):=by
 have h1:r.num.fr=r.num:=cA RV.num h;have h2:r.den.fr=r.den:=cA RV.den h;have hs:cu (some 4) (jN c r)=true:=rfl
 have hp:pl (jN c r)=true:=by
  show (pl (.I c)&&(pl (.bool r.neg)&&(pl r.num.av&&(pl r.den.av&&true))))=true;rw[LQ h1,LQ h2];rfl
 unfold cq;simp only[lW,List.all_nil,cU,mc,qdn h,hs,hp,kP,Bool.and_true,aY]
theorem Zu(c:Int)(r:RV):e9 (.agg [.I 0,.bool false,aw,aw]) [(0,none,.I c),(1,some 3,r.av)]=some (jN c r):=rfl
section
variable {s:Nat} {F:List Nat} {zs:Bool} {os:Own} {most:Int} {l:List ND} {ar:List Int}
theorem yT{M0:af}{pe B:Nat}{En:List (Int×RV)}{rs:List Int}(hfr:∀c∈rs,((lk En c).getD zR).fr=(lk En c).getD zR)(hpe:M0.get pe=some (.mp (.int .i64) (dm En))){y:AV}(hy:q5 B M0 y rs)(hb:∀c∈rs,-1000000000000<=c/\c<=1000000000000)(hl:rs.length<=100000)(K:KT):∀(Q P:List Int) (m:af) (x:AV) (T:List Nat),rs=P++Q->Fr M0 m []->QR 46 (some 4) m x (P.map fun c=>jN c ((lk En c).getD zR)) T->(∀k∈T,M0.length<=k) ->
  ∃(m':af) (x':AV) (T':List Nat),ur (.mref pe) x y (.I rs.length) (.I P.length) m K=K (.exit 4) (B5 x' m')/\Fr M0 m' []/\QR 46 (some 4) m' x' (rs.map fun c=>jN c ((lk En c).getD zR)) T'/\∀k∈T',M0.length<=k:=by
 intro Q
 induction Q with
 | nil=>
  intro P m x T hPQ f hx hT;rw[aW] at hPQ;subst hPQ;refine ⟨m,x,T,?_,f,hx,hT⟩;rw[Gx,bg,O,az,ag Z]
 | cons c Q ih=>
  intro P m x T hPQ f hx hT;have hPl:P.length<rs.length:=by rw[hPQ];simp
  rcases hy with ⟨_,h2⟩|⟨t,zs',rfl,hg,_⟩
  .rw[h2] at hPl;simp at hPl
  .have hgm:m.get t=some (.obj false ((rs++zs').map (AV.int .i64))):=by rw[f.get t (bo hg) aq];exact hg
   have hpm:m.get pe=some (.mp (.int .i64) (dm En)):=by rw[f.get pe (bo hpe) aq];exact hpe
   have ix:aE none (.arr t 0 rs.length none) (.I P.length)=some (.ptr t P.length):=de hPl
   have ld:am none m (.ptr t P.length)=some (.I c):=by
    rw[cS,hgm,jx,O,pi];have:((rs++zs').map (AV.int .i64))[P.length]?=some (.I c):=by rw[hPQ];simp
    exact this
   have lkq:=DR hpm (k:=c) (hb c (by rw[hPQ];simp));obtain ⟨x2,m2,T2,ea,q2,f2,g2⟩:=qcE (b:=64) hx (by rw[bA];unfold fq;omega) (jN c ((lk En c).getD zR));have hml:=f.len
   obtain ⟨m',x',T',e,k1,k2,k3⟩:=ih (P++[c]) m2 x2 T2 (by rw[hPQ,bE];rfl) (Fr.trans f f2 fun a ha=>.inr (hT a ha)) (by rw[gW];exact q2) (fun a ha=>by
    rcases g2 a ha with hh|hh
    .exact hT a hh
    .omega)
   refine ⟨m',x',T',?_,k1,k2,k3⟩;rw[aQ,pW] at e;rw[Gx,bg,O,az,ai Z,ix,O,ld,O,show (AV.agg [.bool false,aw,aw])=zR.av from rfl,lkq,O];dsimp only;rw[Zu,O,Zz (hfr c (by rw[hPQ];simp)),O,ea,O,b6 Z,O];exact e
theorem Lm{L:OL}(h64:∀r∈L.es,r.ns.length<=64)(h:Pq.oddsB ⟨zs,os,ar⟩ L=true):OddsOk ar L:=by
 unfold Pq.oddsB at h;rw[cg] at h;have hl:L.es.length=ar.length:=rO h.1;refine ⟨hl,fun u hu=>?_⟩;have hz:=Pq.zip_all (L:=L) (ns:=ar) hl h.2 hu;unfold Pq.rowB at hz;simp only[cg,lc,fe] at hz;refine ⟨⟨h64 _ (bp hu),fun o ho=>Pq.oddB_iff.1 (hz.1 o ho),hz.2.2⟩,?_⟩;rw[hz.2.1,aK,bn Z,bQ]
theorem qbS{L:OL}(h64:∀r∈L.es,r.ns.length<=64)(h:OddsOk ar L):Pq.oddsB ⟨zs,os,ar⟩ L=true:=by
 unfold Pq.oddsB;rw[cg];refine ⟨eT h.len,fe.2 fun p hp=>?_⟩;obtain ⟨i,hi,rfl⟩:=ig hp;have hi2:i<L.es.length:=by rw[uI] at hi;omega
 obtain ⟨⟨r1,r2,r3⟩,hl⟩:=h.row i hi2;rw[List.getElem_zip];unfold Pq.rowB;simp only[cg,lc,fe];have hi3:i<ar.length:=by rw[<- h.len];exact hi2
 refine ⟨fun o ho=>Pq.oddB_iff.2 (r2 o ho),?_,r3⟩;rw[hl,aK,bn hi3,bQ]
theorem JY(g:GoodL ar l){sf:Nat->Nat->Nat}{id:Nat}(hid:id<l.length){R:List Nat}(hp:R.Perm (Vi l id []))(hs:b9 (ab ar l) R):Flow ar sf l R (upd (fun _=>0) id (PM ar sf ar.length 0)) 0:=by
 obtain ⟨c1,c2,_⟩:=kV g id hid [] lL;have hnd:R.Nodup:=hp.nodup_iff.2 c1.nd
 refine ⟨hnd,fun j hj=>c1.lt j (hp.mem_iff.1 hj),hs,fun j hj hjR hv k hk=>hp.mem_iff.2 (c1.kids (hp.mem_iff.1 hjR) hj k hk),fun j hj v hjR hv=>?_,?_⟩
 .unfold upd
  split
  .have hvl:v<=ar.length:=by
    unfold bY at hv
    split at hv
    .have:=(g.var j hj (by omega)).1;omega
    .omega
   have:=uN (ar:=ar) (s:=sf) v (ar.length-v) 0;rw[show v+(ar.length-v)=ar.length by omega,bj] at this;rw[this];exact Nat.dvd_mul_left _ _
  .exact Nat.dvd_zero _
 .have:=Af (h:=fun _=>1) (T:=fun _=>0) (j:=id) (x:=PM ar sf ar.length 0) hnd;rw[bj,ai (hp.mem_iff.2 c2),ii] at this;rw[this]
  have z:∀R:List Nat,gS (fun _=>1) (fun _=>0) R=0:=fun R=>by
   unfold gS
   induction R with
   | nil=>rfl
   | cons a R ih=>rw[cU,jC,ih];rfl
  rw[z];omega
abbrev iK(l:List ND)(id:Nat):List Int:=lR (iV (fun n=>n.leaf) (fun n=>decide (n.var<0)) l (Vi l id []))
theorem qba(g:GoodL ar l){i j:Nat}(hi:i<l.length)(hj:j<l.length)(vi:l[i].var<0)(vj:l[j].var<0)(e:l[i].leaf=l[j].leaf):i=j:=by
 refine rN g.nd hi hj ?_;have h1:=g.ok _ (bp hi);have h2:=g.ok _ (bp hj)
 rcases h1 with ⟨a1,a2,_⟩|⟨a1,_⟩
 .rcases h2 with ⟨b1,b2,_⟩|⟨b1,_⟩
  .cases hx:l[i];cases hy:l[j];rw[hx] at a1 a2 e vi;rw[hy] at b1 b2 e vj
   simp_all
  .omega
 .omega
theorem Mt(g:GoodL ar l){sf:Nat->Nat->Nat}{R:List Nat}(hn:R.Nodup)(hlt:∀j∈R,j<l.length)(T:Nat->Nat):((run ar sf l R T).map Prod.fst).Nodup:=by
 rw[Am g R T hlt]
 have key:∀(A:List Nat),A.Nodup->(∀j∈A,j<l.length/\(l.getD j ⟨0,[],0⟩).var<0)->(A.map fun j=>(l.getD j ⟨0,[],0⟩).leaf).Nodup:=by
  intro A
  induction A with
  | nil=>intro _ _;simp
  | cons a A ih=>
   intro hn hA;obtain ⟨h1,h2⟩:=lE.1 hn;rw[cU,lE];refine ⟨fun hm=>?_,ih h2 fun j hj=>hA j (cP _ hj)⟩;obtain ⟨b,hb,e⟩:=ga.1 hm;obtain ⟨la,va⟩:=hA a cF;obtain ⟨lb,vb⟩:=hA b (cP _ hb);rw[fK la] at va e;rw[fK lb] at vb e;have:=qba g lb la vb va e;subst this;exact h1 hb
 refine key _ (hn.filter _) fun j hj=>?_;obtain ⟨h1,h2⟩:=kB.1 hj;exact ⟨hlt j h1,by simpa using h2⟩
theorem qdv{D:List (Int×Nat)}{c:Int}{N M:Nat}(hn:(D.map Prod.fst).Nodup)(hm:(c,N)∈D):(D.map fun p=>p.2*(if p.1=c then M else 0)).sum=N*M:=by
 induction D with
 | nil=>cases hm
 | cons p D ih=>
  rw[cU,lE] at hn;rw[cU,jC]
  rcases cE.1 hm with e|hm
  .subst e;rw[ai rfl]
   have z:(D.map fun p=>p.2*(if p.1=c then M else 0)).sum=0:=by
    have:∀q∈D,q.1≠c:=fun q hq e=>hn.1 (by
     show c∈_
     rw[<- e];exact List.mem_map_of_mem hq)
    clear ih hm hn
    induction D with
    | nil=>rfl
    | cons q D ih=>rw[cU,jC,ag (this q cF),ih fun r hr=>this r (cP _ hr)];simp
   rw[z];rfl
  .have hne:p.1≠c:=fun e=>hn.1 (by rw[e];exact List.mem_map_of_mem (f:=Prod.fst) hm);rw[ag hne,ih hn.2 hm,kh,bj]
theorem qc5(g:GoodL ar l)(h1:∀x∈ar,1<=x){sf:Nat->Nat->Nat}(h0:∀v,v<ar.length->0<SS ar sf v)(hM:PM ar sf ar.length 0≠0){id:Nat}(hid:id<l.length){R:List Nat}(hp:R.Perm (Vi l id []))(hs:b9 (ab ar l) R){c:Int}{N:Nat}
  (hm:(c,N)∈run ar sf l R (upd (fun _=>0) id (PM ar sf ar.length 0))):N=Hc ar sf l c id:=by
 have F:=JY g (sf:=sf) hid hp hs;obtain ⟨_,c2,_⟩:=kV g id hid [] lL
 have hsum:=EL g h0 (qaI g h1 c) (q:=fun c'=>if c'=c then PM ar sf ar.length 0 else 0) (fun k hk hv=>N8 c hk hv) R _ 0 F
 rw[qdv (Mt g F.nd F.lt _) hm] at hsum;have:=Af (h:=Hc ar sf l c) (T:=fun _=>0) (j:=id) (x:=PM ar sf ar.length 0) F.nd;rw[bj,ai (hp.mem_iff.2 c2)] at this
 have z:gS (Hc ar sf l c) (fun _=>0) R=0:=by
  unfold gS;clear this hsum hm F hs hp
  induction R with
  | nil=>rfl
  | cons a R ih=>rw[cU,jC,ih];simp
 rw[this,z,bj,bU] at hsum;exact (Nat.eq_of_mul_eq_mul_right (Nat.pos_iff_ne_zero.2 hM) hsum).symm
theorem qc4(g:GoodL ar l){sf:Nat->Nat->Nat}{id:Nat}(hid:id<l.length){R:List Nat}(hp:R.Perm (Vi l id []))(T:Nat->Nat){c:Int}(hc:c∈iK l id):∃N,(c,N)∈run ar sf l R T:=by
 obtain ⟨c1,_,_⟩:=kV g id hid [] lL;rw[AH] at hc;have hk:=Am (s:=sf) g R T fun j hj=>c1.lt j (hp.mem_iff.1 hj)
 have:c∈(run ar sf l R T).map Prod.fst:=by
  rw[hk];exact ((hp.filter _).map _).mem_iff.2 hc
 obtain ⟨p,hp2,e⟩:=ga.1 this;exact ⟨p.2,by rw[<- e];exact hp2⟩
theorem qdM(ns:List Int):(lR ns).length<=ns.length:=by
 unfold lR;have:=C0 (jz ns);rw[EU] at this;exact this
end
end Go.Ab
namespace Go.Ab
open Go.Proofs Go.Proofs.Tryz
section
variable {s:Nat} {F:List Nat} {zs:Bool} {os:Own} {most:Int} {l:List ND} {ar:List Int}
theorem qcN{M:Nat}(hM:M<4294967296^8)(h0:M≠0)(id:Nat):p7 M [((id:Int),iU)] (upd (fun _=>0) id M):=fun j=>by
 unfold upd
 show WV M ((if (id:Int)=(j:Int) then some iU else none).getD zR) _
 by_cases h:j=id
 .subst h;rw[ai rfl,ai rfl];exact qee hM h0
 .rw[ag Z,ag h];exact Nn M
theorem I1{m0:af}(h0:bB m0 s F (IA zs os ar) most l)(hm:most≠0)(g:GoodL ar l)(hll:l.length<=100000)(h1:∀x∈ar,1<=x/\x<=64)(hal:ar.length<=16){id:Nat}(hid:id<l.length){L:OL}(h64:∀r∈L.es,r.ns.length<=64)(h40:L.es.length<=40)(hO:Pq.oddsB ⟨zs,os,ar⟩ L=true) :
  ∃(m':af) (x:AV) (En:List (Int×RV)) (T:List Nat),AC aa 17 [.ptr s 0,.I id,L.av] m0=some (.tup [x,.I 0],m')/\Fr m0 m' []/\QR 46 (some 4) m' x ((iK l id).map fun c=>jN c ((lk En c).getD zR)) T/\(∀k∈T,m0.length<=k) /\
   ∀c∈iK l id,WV (PM ar (cm L) ar.length 0) ((lk En c).getD zR) (Hc ar (cm L) l c id):=by
 have hok:=Lm h64 hO;obtain ⟨hM0,hM8⟩:=HO hok.all hal;have f1:Fr m0 (m0++[some (Ent.B [.ptr s 0])]) []:=Fr.app m0 _ _;have h1':=h0.app f1;obtain ⟨m2,y,e41,f2,hres⟩:=NT h1' hm g hll hid;have f12:Fr m0 m2 []:=Fr.trans f1 f2 fun _ h=>by cases h
 have lm2:=f12.len;have lm1:=f2.len;simp only[aQ,a8,bq] at lm1;have h2:=h0.app f12;have hb2:m2.get m0.length=some (.B [.ptr s 0]):=by rw[f2.get _ aq aq,bG rfl]
 have lb:=kw hb2;have l0:am none (m0++[some (Ent.B [.ptr s 0])]) (.ptr m0.length 0)=some (.ptr s 0):=kw (bG rfl)
 have la:am none m2 (.ptr s (0+0))=some (IA zs os ar):=by
  obtain ⟨p,na,TT,st,_⟩:=h2;rw[cS,st.hs];rfl
 have p63:aF (AP aa) none m2 63 [IA zs os ar,L.av]=some (.bool true,m2):=by
  have:=Pq.V63 (Pq.IL.fr ⟨zs,os,ar⟩) (Pq.OL.fr L) h64 h40;rw[eC (gX zs os ar) (Pq.fz_ol L)];have e:AP aa 63 [IA zs os.fr ar,(Pq.OL.fr L).av]=some (.bool (Pq.oddsB ⟨zs,os,ar⟩ L)):=this;rw[e,hO];rfl
 have p64:∀m,aF (AP aa) none m 64 []=some (iU.av,m):=fun m=>by rw[Ep,V3];rfl
 have up:gM (.int .i64) (m2++[some (.mp (.int .i64) [])]) (.mref m2.length) (.I (id:Int)) iU.av=some (m2++[some (.mp (.int .i64) (dm [((id:Int),iU)]))]):=by
  have e0:gM (.int .i64) (m2++[some (.mp (.int .i64) [])]) (.mref m2.length) (.I (id:Int)) iU.av=_:=Ff (m:=m2++[some (.mp (.int .i64) (dm []))]) (p:=m2.length) (E:=[]) (k:=(id:Int)) (bG rfl) Z aq iU;rw[e0,pK _ _ _ rfl];rfl
 have f3:Fr m0 (m2++[some (.mp (.int .i64) (dm [((id:Int),iU)]))]) []:=f12.snoc _;have hb3:af.get (m2++[some (.mp (.int .i64) (dm [((id:Int),iU)]))]) m0.length=some (.B [.ptr s 0]):=by rw[bP Z];exact hb2
 have gd3:af.get (m2++[some (.mp (.int .i64) (dm [((id:Int),iU)]))]) m2.length=some (.mp (.int .i64) (dm [((id:Int),iU)])):=bG rfl;have gx3:∀x,x<m2.length->af.get (m2++[some (.mp (.int .i64) (dm [((id:Int),iU)]))]) x=m2.get x:=fun x hx=>bP hx;have l3:(m2++[some (Ent.mp (.int .i64) (dm [((id:Int),iU)]))]).length=m2.length+1:=aq;generalize hm3:m2++[some (Ent.mp (.int .i64) (dm [((id:Int),iU)]))]=m3 at up f3 hb3 gd3 gx3 l3;have lb3:=kw hb3;have h3:=h0.app f3;obtain ⟨m5,x5,T5,e65,hga,f5,hT5⟩:=AR h3 g hll hid;obtain ⟨cl1,_,_⟩:=kV g id hid [] lL;have hvl:=mA _ _ cl1.nd cl1.lt;have f05:Fr m0 m5 []:=Fr.trans f3 f5 fun _ h=>by cases h
 have l5:=f5.len
 obtain ⟨t,rfl,ht,htn⟩:∃t,x5=.arr t 0 (Vi l id []).length none/\m5.get t=some (.obj false (ds (Vi l id [])))/\m3.length<=t:=by
  generalize hV:Vi l id []=ids at hga
  cases hga with
  | none=>
   have:id∈Vi l id []:=by rw[n6 g hid,ag aq];simp
   rw[hV] at this;cases this
  | some t ids ht hne=>exact ⟨t,rfl,ht,hT5 t aq⟩
 have htl:=bo ht;have h5:=h0.app f05;have hFlt:∀a∈F,a<m0.length:=h0.lt;have hb5:m5.get m0.length=some (.B [.ptr s 0]):=by rw[f5.get _ Z aq];exact hb3
 have hcmp:=ZO (nm:=t) h5 (fun ha=>by have:=hFlt t ha;omega) (pb:=m0.length) hb5 Z hal g;obtain ⟨m6,ids,e66,sd,hperm,hsrt⟩:=NI (L:=(Vi l id []).length) Z hcmp (l:=Vi l id []) (m:=m5) ⟨Fr.refl _ _,ht,rfl,cl1.lt⟩;have f56:=sd.fr;have l6:=f56.len;have hlen:ids.length=(Vi l id []).length:=hperm.length_eq;have f06:Fr m0 m6 []:=Fr.trans f05 f56 fun a ha=>.inr (by simp at ha;omega);have f7:Fr m6 (m6++[some (Ent.mp (.int .i64) [])]) []:=Fr.app m6 _ _;have l7:(m6++[some (Ent.mp (.int .i64) [])]).length=m6.length+1:=aq;have f07:Fr m0 (m6++[some (Ent.mp (.int .i64) [])]) []:=f06.snoc _;have h7:=h0.app f07;have g67:∀x,x<m6.length->af.get (m6++[some (Ent.mp (.int .i64) [])]) x=m6.get x:=fun x hx=>bP hx
 have gpd:af.get (m6++[some (Ent.mp (.int .i64) [])]) m2.length=some (.mp (.int .i64) (dm [((id:Int),iU)])):=by
  rw[g67 _ Z,f56.get _ Z (by simp;omega),f5.get _ Z aq];exact gd3
 have gpe:af.get (m6++[some (Ent.mp (.int .i64) [])]) m6.length=some (.mp (.int .i64) (dm [])):=bG rfl
 have gpb:af.get (m6++[some (Ent.mp (.int .i64) [])]) m0.length=some (.B [.ptr s 0]):=by
  rw[g67 _ Z,f56.get _ Z (by simp;omega)];exact hb5
 have gnm:af.get (m6++[some (Ent.mp (.int .i64) [])]) t=some (.obj false (ds ids)):=by rw[g67 _ Z];exact sd.hd
 have fl:=JY g (sf:=cm L) hid hperm hsrt;have hrn:=Mt g (sf:=cm L) fl.nd fl.lt (upd (fun _=>0) id (PM ar (cm L) ar.length 0));obtain ⟨m8,En,e11,f8,gpe8,hends⟩:=WY hok g h1 hal hll h7 (pb:=m0.length) (pd:=m2.length) (pe:=m6.length) (nm:=t) (fun ha=>by have:=hFlt _ ha;omega) (fun ha=>by have:=hFlt _ ha;omega) Z gpb Z Z gnm Z Z Z y (wT (aD f17)) ids [] (m6++[some (Ent.mp (.int .i64) [])]) [((id:Int),iU)] [] (upd (fun _=>0) id (PM ar (cm L) ar.length 0)) 0 [] rfl fl (Fr.refl _ _) gpd gpe (qcN hM8 hM0 id) (fun p hp=>by cases hp) (by simpa using hrn) (by simp;omega) (by simp;omega);rw[bX] at hends;have l8:=f8.len
 have hresL:(iK l id).length<=100000:=by
  have:=qdM (iV (fun n=>n.leaf) (fun n=>decide (n.var<0)) l (Vi l id []));unfold iV at this;rw[bA] at this;have h2:=List.length_filter_le (fun i=>(fun n:ND=>decide (n.var<0)) (l.getD i ⟨0,[],0⟩)) (Vi l id []);unfold iK iV;omega
 have hres8:q5 (m0.length+1) m8 y (iK l id):=by
  rcases hres with hh|⟨t',z',hx,hg,hB⟩
  .exact .inl hh
  .have h2:=bo hg;have hB':m0.length+1<=t':=by simpa using hB
   refine .inr ⟨t',z',hx,?_,hB'⟩;rw[f8.get _ Z (by simp;omega),g67 _ Z,f56.get _ Z (by simp;omega),f5.get _ Z aq,gx3 _ h2];exact hg
 have hwv:∀c∈iK l id,WV (PM ar (cm L) ar.length 0) ((lk En c).getD zR) (Hc ar (cm L) l c id):=fun c hc=>by
  obtain ⟨N,hN⟩:=qc4 g (sf:=cm L) hid hperm (upd (fun _=>0) id (PM ar (cm L) ar.length 0)) hc;obtain ⟨r,hr,wr⟩:=hends _ hN;have hv:=qc5 g (fun x hx=>(h1 x hx).1) (fun v hv=>(hok.all v hv).1) hM0 hid hperm hsrt hN;dsimp only at hr wr;rw[hr,bQ,<- hv];exact wr
 have hcb:∀c∈iK l id,-1000000000000<=c/\c<=1000000000000:=fun c hc=>by
  rw[AH] at hc;obtain ⟨j,hj,rfl⟩:=ga.1 hc;have hjl:=cl1.lt j (kB.1 hj).1;dsimp only;rw[fK hjl]
  rcases g.ok _ (bp hjl) with ⟨_,_,h3⟩|⟨_,h3,_⟩<;>omega
 obtain ⟨m9,x9,T9,e28,f9,q9,hT9⟩:=yT (M0:=m8) (pe:=m6.length) (fun c hc=>(hwv c hc).fr) gpe8 hres8 hcb hresL (wU (aD f17)) (iK l id) [] m8 aw [] rfl (Fr.refl _ _) .none aq
 have f08:Fr m0 m8 []:=Fr.trans f07 f8 fun a ha=>.inr (by
  simp only[cE,sO,or_false] at ha
  rcases ha with rfl|rfl<;>omega)
 refine ⟨m9,x9,En,T9,?_,Fr.trans f08 f9 (fun _ h=>by cases h),q9,fun k hk=>by have:=hT9 k hk;omega,hwv⟩
 .rw[UG,ml,O,l0,O,e41,O,kq,O,kr,O,gt,O,az,ag Z,lb,O,iq,O,fJ,O,la,O,p63,O,kO,O,hZ,cD];rw[show (aC none m2 (Ent.mp (.int .i64) [])).2=m2++[some (.mp (.int .i64) [])] from rfl,p64,O];dsimp only;rw[show (aC none m2 Ent.resv).1=m2.length from rfl,up,O,lb3,O,e65,O];dsimp only;rw[e66,O];dsimp only;rw[show aL false (.arr t 0 (Vi l id []).length none)=some (.I (Vi l id []).length) from rfl,O,<- hlen];have e11:sy L.av (.ptr m0.length 0) y (.mref m2.length) (.mref (aC none m6 Ent.resv).1) (.arr t 0 ids.length none) (.I ids.length) (.I 0) (aC none m6 (Ent.mp (.int .i64) [])).2 (wT (aD f17))=_:=e11;rw[e11,Qz]
  have hly:aL false y=some (.I (iK l id).length):=by
   rcases hres with ⟨h1,h2⟩|⟨t',z',h1,_⟩
   .rw[h1];have:(iK l id).length=0:=by unfold iK;rw[h2];rfl
    rw[this];rfl
   .rw[h1];rfl
  rw[hly,O];have e28:ur (.mref m6.length) aw y (.I (iK l id).length) (.I 0) m8 (wU (aD f17))=_:=e28;rw[e28,QF]
end
end Go.Ab
namespace Go.Ab
open Go.Proofs Go.Proofs.Tryz
theorem J6{l:List Int}{i:Nat}(h:i<l.length):l.getD i 0=l[i]:=by rw[aK,bn h,bQ]
theorem qcQ{os:List Int}(h:os.Pairwise (· < ·))(hb:∀y∈os,0<=y/\y<=4):os.length<=5:=by
 have hn:(os.map Int.toNat).Nodup:=by
  rw[List.nodup_iff_pairwise_ne,List.pairwise_map];refine List.Pairwise.imp_of_mem ?_ h;intro a b ha hb' hab e;have:=hb a ha;have:=hb b hb';omega
 have:=mA 5 _ hn fun x hx=>by
  obtain ⟨y,hy,rfl⟩:=ga.1 hx;have:=hb y hy;omega
 rwa [bA] at this
section
variable {z zo:Bool} {o oo:Own} {t:List Int}
end
theorem MY{val:ND->Int}{keep:ND->Bool}{l:List ND}{ids:List Nat}(hids:∀i∈ids,i<l.length)(x:Int):x∈iV val keep l ids↔∃j∈ids,∃hj:j<l.length,keep l[j]=true/\val l[j]=x:=by
 unfold iV;rw[ga]
 constructor
 .rintro ⟨j,hj,rfl⟩;obtain ⟨h1,h2⟩:=kB.1 hj;have hl:=hids j h1;rw[fK hl] at h2 ⊢;exact ⟨j,h1,hl,h2,rfl⟩
 .rintro ⟨j,hj,hl,h2,rfl⟩
  refine ⟨j,kB.2 ⟨hj,?_⟩,?_⟩
  .rw[fK hl];exact h2
  .rw[fK hl]
section
variable {ar:List Int} {s:Nat->Nat->Nat}
end
section
variable {ar:List Int} {L:OL}
end
end Go.Ab
namespace Go.Ab
open Go.Proofs Go.Proofs.Tryz
theorem qbG{tk:TK}{a b:Nat}(h:a+b<9223372036854775808):ae tk .add (.I a) (.I b)=some (.I (a+b:Nat)):=by
 rw[iY,<- Int.natCast_add];generalize a+b=q at *;rw[gz Z Z]
theorem IR{z1 z2:Bool}{o1 o2:Own}{ar cs:List Int}(h1:∀x∈ar,1<=x/\x<=64)(hal:ar.length<=16)(hc:cs.length=ar.length)(hb:∀v,v<ar.length->0<=cs.getD v 0)(m:af):∀(j i:Nat),i+j=ar.length->∀n:Nat,n*aN (ar.drop i)+dd (ar.drop i) i (gd cs)<=1000000 ->
  yd (IA z1 o1 ar) (IA z2 o2 cs) (.I n) (.I ar.length) (.I i) m (BC (aD f87))=some (.I (n*aN (ar.drop i)+dd (ar.drop i) i (gd cs):Nat),m)
 | 0,i,h,n,hn=>by
  rw[Hd,bg,O,az,ag Z,S0,fQ Z];simp[aN,dd]
 | j+1,i,h,n,hn=>by
  have hv:i<ar.length:=Z;have hvc:i<cs.length:=Z;have hab:=h1 _ (bp hv);obtain ⟨a,ha⟩:=jO (by omega:0<=ar[i]);have hget:ar.getD i 0=(a:Int):=by rw[aK,bn hv,bQ,ha]
  have hcg:cs.getD i 0=cs[i]:=by rw[aK,bn hvc,bQ]
  obtain ⟨c,hcc⟩:=jO (by have:=hb i hv;omega:0<=cs[i]);have hix:aE none (IA z1 o1 ar) (.I i)=some (.vptr [.I a]):=by rw[fw hv,ha]
  have hic:aE none (IA z2 o2 cs) (.I i)=some (.vptr [.I c]):=by rw[fw hvc,hcc]
  have hP:1<=aN (ar.drop (i+1)):=qD fun x hx=>(h1 x (List.drop_subset _ _ hx)).1;have hy:gd cs i=c:=by unfold gd;rw[hcg,hcc,cB]
  have e2:(a:Int).toNat=a:=cB a
  have e0:n*aN (ar.drop i)+dd (ar.drop i) i (gd cs)=(n*a+c)*aN (ar.drop (i+1))+dd (ar.drop (i+1)) (i+1) (gd cs):=by
   rw[mH hv,nb hv,hget,hy,e2,eW,<- cn,jD]
  rw[e0] at hn ⊢;have hle:n*a+c<=(n*a+c)*aN (ar.drop (i+1)):=Nat.le_mul_of_pos_right _ hP;have hmul:n*a<9223372036854775808:=Z;have hadd:n*a+c<9223372036854775808:=Z;rw[Hd,bg,O,az,ai Z,hix,O,cr,O,rJ hmul,O,hic,O,cr,O,qbG hadd,O,b6 Z,O];exact IR h1 hal hc hb m j (i+1) Z (n*a+c) hn
theorem V0(z1 z2:Bool)(o1 o2:Own){ar cs:List Int}(h1:∀x∈ar,1<=x/\x<=64)(hal:ar.length<=16)(hp:aN ar<=300)(hc:cs.length=ar.length)(hb:∀v,v<ar.length->0<=cs.getD v 0/\cs.getD v 0<ar.getD v 0):AP aa 87 [IA z1 o1 ar,IA z2 o2 cs]=some (.I (dd ar 0 (gd cs):Nat)):=by
 have hlt:=om (ar:=ar) (a:=gd cs) (fun v hv=>by have:=hb v hv;unfold gd;omega) ar.length 0 Z;rw[dk] at hlt;have e:=IR (z1:=z1) (z2:=z2) (o1:=o1) (o2:=o2) h1 hal hc (fun v hv=>(hb v hv).1) [] ar.length 0 Z 0 (by rw[dk];omega);rw[dk,p5,bj] at e;refine fH (m:=[]) (v:=.I (dd ar 0 (gd cs):Nat)) (l:=[]) ?_ rfl rfl;rw[Vq,fc,O];exact e
theorem qch(z1:Bool)(o1:Own){ar cs:List Int}(h1:∀x∈ar,1<=x/\x<=64)(hal:ar.length<=16)(hp:aN ar<=300)(hc:cs.length=ar.length)(hb:∀v,v<ar.length->0<=cs.getD v 0/\cs.getD v 0<ar.getD v 0){m:af}{a:Nat}(hg:m.get a=some (.obj false (cs.map (AV.int .i64)))):aF (AP aa) none m 87 [IA z1 o1 ar,.arr a 0 ar.length none]=some (.I (dd ar 0 (gd cs):Nat),m.set a none):=by
 have hf:=J0 hg;rw[hc] at hf
 have hm:eU (bW m iI) [IA z1 o1 ar,.arr a 0 ar.length none]=some ([IA z1 o1.fr ar,IA false .no cs],[a]):=by
  have h0:=gX z1 o1 ar m;simp only[eU,h0,hf,O,aP]
  rfl
 unfold aF;rw[hm];simp only[O,Option.isSome_none,oI,iE,jJ,V0 z1 false o1.fr .no h1 hal hp hc hb,aP]
 rfl
theorem Dz{ar:List Int}{a b:Nat->Nat}(h:∀w,w<ar.length->a w=b w):∀(d v:Nat),v+d=ar.length->dd (ar.drop v) v a=dd (ar.drop v) v b
 | 0,v,e=>by rw[fQ Z];rfl
 | d+1,v,e=>by
  have hv:v<ar.length:=Z;rw[nb hv,nb hv,h v hv,Dz h d (v+1) Z]
theorem Kk{ar:List Int}(h1:∀x∈ar,1<=x/\x<=64){a b:Nat->Nat}(ha:cO ar a)(hb:cO ar b):∀(d v:Nat),v+d=ar.length->dd (ar.drop v) v a=dd (ar.drop v) v b->∀w,v<=w->w<ar.length->a w=b w
 | 0,v,e,_,w,h2,h3=>Z
 | d+1,v,e,hh,w,h2,h3=>by
  have hv:v<ar.length:=Z;rw[nb hv,nb hv] at hh;have la:=om ha d (v+1) Z;have lb:=om hb d (v+1) Z;generalize aN (ar.drop (v+1))=P at *;generalize hp:dd (ar.drop (v+1)) (v+1) a=p at *;generalize hq:dd (ar.drop (v+1)) (v+1) b=q at *;have hP:0<P:=Z
  have h4:a v=b v:=by
   have e1:(a v*P+p)/P=a v:=by rw[bU,Nat.mul_add_div hP,sR la];rfl
   have e2:(b v*P+q)/P=b v:=by rw[bU,Nat.mul_add_div hP,sR lb];rfl
   rw[<- e1,hh,e2]
  have h5:p=q:=by rw[h4] at hh;omega
  by_cases hw:w=v
  .subst hw;exact h4
  .exact Kk h1 ha hb d (v+1) Z (by rw[hp,hq];exact h5) w Z h3
end Go.Ab
namespace Go.Ab
open Go.Proofs Go.Proofs.Tryz
theorem Ki{z:Bool}{o:Own}{es:List AV}{i:Nat}(h:i<es.length):aE none (.lst none z o es) (.I i)=some (.vptr es[i].cells):=by simp[aE,h]
section
variable {ar t:List Int} {L:OL}
structure Alls (ar:List Int) (css:List (List Int)):Prop where
 len:css.length=aN ar
 row:∀k (h:k<css.length),Asn ar k css[k]
theorem JF{css:List (List Int)}{k:Nat}(h:k<css.length):css.getD k []=css[k]:=by rw[aK,bn h];rfl
end
def iN(r:List Int):IL:=⟨false,.no,r⟩
theorem WS{z zl:Bool}{o ol:Own}{l:List Int}{n:Nat}(hn:n<=64)(x5 x12 x13 x14:AV)(K:KT):∀(j i:Nat) (m:af) (x:AV) (es:List Int) (T:List Nat) (at':Nat),i+j=n->at'+64<=100000+i->GR 3 m x (es.map (AV.int .i64)) T->es.length=i ->
  ∃(m':af) (x':AV) (es':List Int) (T':List Nat) (a':Nat),qT (IA zl ol l) x5 (.I at') (.I n) x (.I i) x12 x13 x14 m K=K (.exit 2) (yx (IA zl ol l) x5 (.I a') x' x12 x13 x14 m')/\GR 3 m' x' (es'.map (AV.int .i64)) T'/\es'.length=n/\a'<=at'+j/\Fr m m' T/\Gr m T T':=by
 intro j
 induction j with
 | zero=>
  intro i m x es T a hi ha hx he;refine ⟨m,x,es,T,a,?_,hx,Z,Z,Fr.refl _ _,Gr.refl _ _⟩;rw[BG,bg,O,az,ag Z]
 | succ j ih=>
  intro i m x es T a hi ha hx he
  have go:∀(v:Int) (a2:Nat),a2<=a+1->∃(m':af) (x':AV) (es':List Int) (T':List Nat) (a':Nat),((cq none [.I v]).bind fun v9=>(bF none false 3 none 8 m x v9).bind fun r10=>(ae .o .add (.I (i:Nat)) (.I 1)).bind fun v11=>qT (IA zl ol l) x5 (.I a2) (.I n) r10.1 v11 x12 x13 x14 r10.2 K)=K (.exit 2) (yx (IA zl ol l) x5 (.I a') x' x12 x13 x14 m')/\GR 3 m' x' (es'.map (AV.int .i64)) T'/\es'.length=n/\a'<=a+(j+1)/\Fr m m' T/\Gr m T T':=by
   intro v a2 ha2;obtain ⟨x2,m2,T2,ea,g2,f2,gg2⟩:=nF (b:=8) hx (by simp;omega) Z (.I v);obtain ⟨m',x',es',T',a',e,k1,k2,k3,k4,k5⟩:=ih (i+1) m2 x2 (es++[v]) T2 a2 Z Z (by rw[gW];exact g2) (by simp[he]);refine ⟨m',x',es',T',a',?_,k1,k2,Z,Fr.trans f2 k4 gg2,Gr.trans f2.len gg2 k5⟩;rw[kX,O,ea,O,b6 Z,O];exact e
  by_cases hl:0<l.length
  .have hlt:a%l.length<l.length:=io _ hl;obtain ⟨m',x',es',T',a',e,k⟩:=go l[a%l.length] (a+1) (aI _);refine ⟨m',x',es',T',a',?_,k⟩;have ia1:ae .o .add (.I (a:Nat)) (.I 1)=some (.I (a+1:Nat)):=b6 Z;rw[BG,bg,O,az,ai Z,fc,O,gI,O,az,ai Z,O,D9 Z,O,fw hlt,O,cr,O,ia1,O];exact e
  .obtain ⟨m',x',es',T',a',e,k⟩:=go 1 a Z;refine ⟨m',x',es',T',a',?_,k⟩;rw[BG,bg,O,az,ai Z,fc,O,gI,O,az,ag Z];exact e
end Go.Ab
namespace Go.Ab
open Go.Proofs Go.Proofs.Tryz
theorem Zy{x:AV}{es:List Int}{m:af}{T:List Nat}(h:GR 3 m x (es.map (AV.int .i64)) T)(hne:es≠[]):cq none [x]=some (.lst none false .full [(iN es).av]):=by
 generalize he:es.map (AV.int .i64)=bs at h
 cases h with
 | none=>exact absurd (oQ.1 he) hne
 | some t bs' ht hne2=>
  subst he;have e:jo (.lst none false (.tok t 3) (es.map (AV.int .i64)))=(iN es).av:=rfl;unfold cq;simp only[lW,List.all_nil,cU,mc,e]
  rfl
theorem WT{z zl:Bool}{o ol:Own}{l ar:List Int}(h1:∀x∈ar,1<=x/\x<=64)(hal:ar.length<=16)(K:KT):∀(Q P:List Int) (m:af) (x:AV) (rows:List (List Int)) (T:List Nat) (a:Nat),ar=P++Q->a<=64*P.length->GR 22 m x (rows.map fun r=>(iN r).av) T->rows.map (fun r=>(r.length:Int))=P ->
  ∃(m':af) (x':AV) (rows':List (List Int)) (T':List Nat),uo (IA zl ol l) x (.I a) (IA z o ar) (.I ar.length) (.I P.length) m K=K (.exit 0) (B1 x' m')/\GR 22 m' x' (rows'.map fun r=>(iN r).av) T'/\rows'.map (fun r=>(r.length:Int))=ar:=by
 intro Q
 induction Q with
 | nil=>
  intro P m x rows T a hPQ ha hx hr;rw[aW] at hPQ;subst hPQ;refine ⟨m,x,rows,T,?_,hx,hr⟩;rw[Gt,bg,O,az,ag Z]
 | cons n Q ih=>
  intro P m x rows T a hPQ ha hx hr;have hPl:P.length<ar.length:=by rw[hPQ];simp
  have hn:=h1 n (by rw[hPQ];simp);obtain ⟨k,rfl⟩:=jO (show 0<=n by omega)
  have ix:aE none (IA z o ar) (.I P.length)=some (.vptr [.I (k:Nat)]):=by
   rw[fw hPl];congr 3;simp[hPQ]
  obtain ⟨m1,x1,es,T1,a1,e8,g1,l1,ha1,f1,gr1⟩:=WS (z:=z) (zl:=zl) (o:=o) (ol:=ol) (l:=l) (n:=k) Z x (IA z o ar) (.I ar.length) (.I P.length) (wS K) k 0 m aw [] [] a Z Z .none rfl;have hx1:GR 22 m1 x (rows.map fun r=>(iN r).av) T:=qo hx fun q hq=>f1.get q (mq hx q hq) aq;have hrl:rows.length=P.length:=by rw[<- hr,bA]
  obtain ⟨x2,m2,T2,ea,g2,f2,gg2⟩:=nF (b:=24) hx1 (by simp;omega) Z (iN es).av;obtain ⟨m',x',rows',T',e,k1,k2⟩:=ih (P++[(k:Int)]) m2 x2 (rows++[es]) T2 a1 (by rw[hPQ,bE];rfl) (by rw[aQ,pW];omega) (by rw[gW];exact g2) (by rw[gW,hr,cU,mc,l1]);refine ⟨m',x',rows',T',?_,k1,k2⟩;rw[aQ,pW] at e;have e8:qT (IA zl ol l) x (.I a) (.I (k:Nat)) aw (.I 0) (IA z o ar) (.I ar.length) (.I P.length) m (wS K)=_:=e8;rw[Gt,bg,O,az,ai Z,ix,O,cr,O];rw[e8,Qq,Zy g1 (by intro h;rw[h] at l1;simp at l1;omega),O,ea,O,b6 Z,O];exact e
structure LawOdds (ar:List Int) (L:OL):Prop where
 len:L.es.length=ar.length
 row:∀(u:Nat) (h:u<L.es.length),(L.es[u].ns.length:Int)=ar.getD u 0
 fr:L.fr=L
 rw:∀r∈L.es,r=iN r.ns
theorem VJ(z zl:Bool)(o ol:Own){ar:List Int}(h1:∀x∈ar,1<=x/\x<=64)(hal:ar.length<=16)(l:List Int):∃L:OL,AP aa 16 [IA z o ar,IA zl ol l]=some L.av/\LawOdds ar L:=by
 obtain ⟨m',x',rows,T,e,g,hr⟩:=WT (z:=z) (zl:=zl) (o:=o) (ol:=ol) (l:=l) h1 hal (wR (aD f16)) ar [] [] aw [] [] 0 rfl aq .none rfl;have e:uo (IA zl ol l) aw (.I 0) (IA z o ar) (.I ar.length) (.I 0) [] (wR (aD f16))=_:=e
 have e16:AC aa 16 [IA z o ar,IA zl ol l] []=some (x',m'):=by
  rw[UB,fc,O,e,Ql]
 obtain ⟨z',o',rfl,hz⟩:=qp g
 have lo:∀o2,LawOdds ar ⟨z',(o2:Own).fr,rows.map iN⟩:=fun o2=>by
  have hl:rows.length=ar.length:=by rw[<- hr,bA]
  refine ⟨by simp[hl],fun u hu=>?_,?_,fun r hr=>by obtain ⟨q,_,rfl⟩:=ga.1 hr;rfl⟩
  .have hur:u<rows.length:=by simpa using hu
   have:(ar.getD u 0)=(rows[u].length:Int):=by
    rw[<- hr,aK,pU,bn hur];rfl
   rw[this];simp[iN]
  .unfold Pq.OL.fr;cases o2<;>rfl
 refine ⟨⟨z',o'.fr,rows.map iN⟩,?_,lo o'⟩
 have hav:Pq.OL.av ⟨z',o'.fr,rows.map iN⟩=.lst none z' o'.fr (rows.map fun r=>(iN r).av):=by
  unfold Pq.OL.av;rw[pX];rfl
 rw[hav];exact fH (m:=m') (l:=[]) e16 (by cases o'<;>rfl) rfl
section
variable {ar t:List Int} {s:Nat->Nat->Nat}
theorem MW{F G:Nat->Nat}:∀n,ir n (fun k=>F k+G k)=ir n F+ir n G
 | 0=>rfl
 | n+1=>by rw[pL,pL,pL,MW n];omega
end
def p9(x:AV)(D:List (Int×RV)):Prop:=(x=aw/\D=[])\/∃o,x=.lst (some 4) false o (D.map fun p=>jN p.1 p.2)
theorem p9.len{x:AV}{D:List (Int×RV)}(h:p9 x D):aL false x=some (.I D.length):=by
 rcases h with ⟨rfl,rfl⟩|⟨o,rfl⟩
 .rfl
 .rw[jX,bA]
theorem p9.idx{x:AV}{D:List (Int×RV)}(h:p9 x D){i:Nat}(hi:i<D.length):aE (some 4) x (.I i)=some (.vptr [.I D[i].1,.bool D[i].2.neg,D[i].2.num.av,D[i].2.den.av]):=by
 rcases h with ⟨rfl,rfl⟩|⟨o,rfl⟩
 .simp at hi
 .have:aE (some 4) (.lst (some 4) false o (D.map fun p=>jN p.1 p.2)) (.I i)=some (.vptr ((D.map fun p=>jN p.1 p.2)[i]'(by simpa using hi)).cells):=by simp[aE,hi]
  rw[this,kf];rfl
end Go.Ab
namespace Go.Ab
open Go.Proofs Go.Proofs.Tryz
theorem qac{r:List Int}(hg:Dw r)(he:jE r=0):i7 300 1 r=(aN r:Nat)/\aN r<=300:=by
 obtain ⟨_,h2⟩:=re he;have:=Ey r 1 (fun a ha=>(h2 a ha).1) Z Z (hg he);rw[Int.one_mul] at this;exact ⟨this.1,Z⟩
theorem pcT(z zl:Bool)(o ol:Own)(ar l:List Int)(h1:ar.length<=16)(h2:∀a∈ar,1<=a/\a<=64){N:Nat}(hN:i7 300 1 ar=N)(hN2:N<=300)(m:af):∃(z':Bool) (o':Own) (t:List Int),aF (AP aa) none m 14 [IA z o ar,IA zl ol l]=some (IA z' o' t,m)/\(z'=true->t=[])/\t.length=N/\∀y∈t,0<=y/\y<=4:=by
 obtain ⟨z',o',t,e,h⟩:=VW z zl o.fr ol.fr ar l h1 h2 hN hN2;exact ⟨z',o',t,by rw[eC (gX z o ar) (gX zl ol l),e];rfl,h⟩
theorem LawOdds.h64{ar:List Int}{L:OL}(h:LawOdds ar L)(h1:∀x∈ar,1<=x/\x<=64):∀r∈L.es,r.ns.length<=64:=fun r hr=>by
 obtain ⟨u,hu,rfl⟩:=ig hr;have:=h.row u hu;have hua:u<ar.length:=by rw[<- h.len];exact hu
 rw[aK,bn hua,bQ] at this;have:=h1 _ (bp hua);omega
theorem qbc{r:List Int}{l1:List ND}{id1:Nat}{t:List Int}(g1:GoodL r l1)(h1:∀x∈r,1<=x)(tab1:TabV r l1 id1 0 t)(x:Int):x∈iK l1 id1↔x∈t:=by
 have hid:=tab1.lt;obtain ⟨cc1,_,_⟩:=kV g1 id1 hid [] lL
 have tab:∀y,cO r y->S l1 y id1=t.getD (dd r 0 y) 0:=fun y hy=>by
  have:=tab1.val y hy
  rwa [dk] at this
 have htl:t.length=aN r:=by have:=tab1.len;rwa [dk] at this
 have hleaf:(∃y,cO r y/\S l1 y id1=x)↔x∈t:=by
  constructor
  .rintro ⟨y,hy,rfl⟩;rw[tab y hy];have hlt:=om hy r.length 0 Z;rw[dk] at hlt;have hi:dd r 0 y<t.length:=Z;rw[J6 hi];exact bp hi
  .intro hx;obtain ⟨i,hi,rfl⟩:=ig hx;obtain ⟨y,hy,e⟩:=DA h1 r.length 0 i Z (by rw[dk];omega);rw[dk] at e;exact ⟨y,hy,by rw[tab y hy,e,J6 hi]⟩
 rw[AH,MY cc1.lt,<- hleaf,<- KE g1 h1 hid]
 constructor
 .rintro ⟨j,hj,hjl,hk,rfl⟩;exact ⟨j,hj,hjl,by simpa using hk,rfl⟩
 .rintro ⟨j,hj,hjl,hk,rfl⟩;exact ⟨j,hj,hjl,by simpa using hk,rfl⟩
end Go.Ab
namespace Go.Ab
section
variable {ar:List Int} {s:Nat->Nat->Nat} {φ:(Nat->Nat)->Nat}
def CL(ar:List Int)(s:Nat->Nat->Nat)(φ:(Nat->Nat)->Nat):List Nat->(Nat->Nat)->Nat
 | [],a=>φ a
 | v::vs,a=>ir (iG ar v) fun k=>s v k*CL ar s φ vs (upd a v k)
theorem qdt(n m:Nat)(F:Nat->Nat->Nat):ir n (fun i=>ir m fun j=>F i j)=ir m fun j=>ir n fun i=>F i j:=by
 induction n with
 | zero=>
  show 0=ir m fun _=>0;have:=tN 0 m fun _=>0;simpa using this.symm
 | succ n ih=>
  rw[pL,ih,<- MW];exact kN fun j _=>(pL n _).symm
theorem N4(x y:Nat)(l:List Nat)(h:y≠x)(a:Nat->Nat):CL ar s φ (y::x::l) a=CL ar s φ (x::y::l) a:=by
 rw[CL,CL];rw[kN (G:=fun j=>ir (iG ar x) fun k=>s y j*(s x k*CL ar s φ l (upd (upd a y j) x k))) fun j _=>by rw[CL,tN]];rw[kN (n:=iG ar x) (G:=fun k=>ir (iG ar y) fun j=>s x k*(s y j*CL ar s φ l (upd (upd a x k) y j))) fun k _=>by rw[CL,tN]];rw[qdt];refine kN fun k _=>kN fun j _=>?_;rw[Fe h,qX]
theorem N0{vs ws:List Nat}(h:vs.Perm ws)(hn:vs.Nodup):∀a,CL ar s φ vs a=CL ar s φ ws a:=by
 induction h with
 | nil=>intro a;rfl
 | cons x h ih=>intro a;exact kN fun k _=>by rw[ih (lE.1 hn).2]
 | swap x y l=>intro a;exact N4 x y l (fun e=>(lE.1 hn).1 (by rw[e];exact cF)) a
 | trans h1 h2 ih1 ih2=>intro a;rw[ih1 hn,ih2 (h1.nodup_iff.1 hn)]
theorem FB:∀(d v:Nat) (a:Nat->Nat),CL ar s φ (List.range' v d) a=Ct ar s d v φ a
 | 0,v,a=>rfl
 | d+1,v,a=>by
  rw[List.range'_succ];exact kN fun k _=>by rw[FB d (v+1)]
def iO(os:List Nat)(b:Nat->Nat):Nat->Nat:=fun w=>b (os.idxOf w)
theorem Dy{os:List Nat}(hn:os.Nodup){v:Nat}(hv:v<os.length):os.idxOf os[v]=v:=by
 have h1:=List.idxOf_lt_length_of_mem (bp hv);exact rN hn h1 hv (List.getElem_idxOf h1)
theorem qdS{os:List Nat}(hn:os.Nodup){v:Nat}(hv:v<os.length)(b:Nat->Nat)(k:Nat):iO os (upd b v k)=upd (iO os b) os[v] k:=by
 funext w;unfold iO upd
 by_cases h:w=os[v]
 .subst h;rw[Dy hn hv,ai rfl,ai rfl]
 .rw[ag h,ag];intro e;apply h;have h1:os.idxOf w<os.length:=by rw[e];exact hv
  have:=List.getElem_idxOf h1;rw[<- this];simp only[e]
structure Trn (os:List Nat) (ar ar':List Int):Prop where
 nd:os.Nodup
 len:os.length=ar.length
 len':ar'.length=ar.length
 lt:∀x∈os,x<ar.length
 arm:∀i (h:i<os.length),ar'.getD i 0=ar.getD os[i] 0
theorem Trn.mem{os:List Nat}{ar':List Int}(T:Trn os ar ar'){x:Nat}(h:x<ar.length):x∈os:=by
 refine Decidable.byContradiction fun hn=>?_
 have:=mA ar.length (x::os) (lE.2 ⟨hn,T.nd⟩) (fun y hy=>by
  rcases cE.1 hy with rfl|hy
  .exact h
  .exact T.lt y hy)
 rw[a8,T.len] at this;omega
theorem Trn.perm{os:List Nat}{ar':List Int}(T:Trn os ar ar'):os.Perm (List.range' 0 ar.length):=by
 rw[List.perm_ext_iff_of_nodup T.nd List.nodup_range'];intro a;rw[List.mem_range'_1];exact ⟨fun h=>⟨jd _,by have:=T.lt a h;omega⟩,fun h=>T.mem Z⟩
theorem FE{os:List Nat}{ar':List Int}{s':Nat->Nat->Nat}(T:Trn os ar ar')(hs:∀i (h:i<os.length),s' i=s os[i]):∀(d v:Nat),v+d=os.length->∀b,Ct ar' s' d v (fun b=>φ (iO os b)) b=CL ar s φ (os.drop v) (iO os b)
 | 0,v,h,b=>by rw[fQ Z];rfl
 | d+1,v,h,b=>by
  have hv:v<os.length:=Z;rw[ic hv,Ct,CL];have:iG ar' v=iG ar os[v]:=by unfold iG;rw[T.arm v hv]
  rw[this,hs v hv];refine kN fun k _=>?_;rw[FE T hs d (v+1) Z,qdS T.nd hv]
theorem FC{os:List Nat}{ar':List Int}{s':Nat->Nat->Nat}(T:Trn os ar ar')(hs:∀i (h:i<os.length),s' i=s os[i]):Ct ar' s' ar'.length 0 (fun b=>φ (iO os b)) (fun _=>0)=Ct ar s ar.length 0 φ (fun _=>0):=by
 rw[FE T hs ar'.length 0 (by rw[T.len',T.len];omega),dk,N0 T.perm T.nd,FB];rfl
theorem TO{os:List Nat}{ar':List Int}{s':Nat->Nat->Nat}(T:Trn os ar ar')(hs:∀i (h:i<os.length),s' i=s os[i]):PM ar' s' ar'.length 0=PM ar s ar.length 0:=by
 have:=FC (φ:=fun _=>1) T hs;rw[wH,wH,ii,ii] at this;exact this
theorem Trn.asg{os:List Nat}{ar':List Int}(T:Trn os ar ar'){b:Nat->Nat}(hb:cO ar' b):cO ar (iO os b):=fun w hw=>by
 have h1:=List.idxOf_lt_length_of_mem (T.mem hw);have h2:=hb (os.idxOf w) (by rw[T.len',<- T.len];exact h1);rw[T.arm _ h1,List.getElem_idxOf h1] at h2;exact h2
structure MvO (os:List Nat) (ar ar':List Int) (l L:List ND) (id v out:Nat):Prop where
 lo:id<l.length
 lt:out<L.length
 top:(v:Int)<=fE ar' L out
 val:∀b,cO ar' b->S L b out=S l (iO os b) id
theorem N9{os:List Nat}{ar':List Int}{s':Nat->Nat->Nat}(T:Trn os ar ar')(hs:∀i (h:i<os.length),s' i=s os[i])(h1:∀x∈ar',1<=x){l L:List ND}{id v out:Nat}(M:MvO os ar ar' l L id v out)(c:Int):Hc ar' s' L c out=Hc ar s l c id:=by
 rw[Hc,Hc,<- FC T hs];exact AW _ _ _ (rf h1) fun b hb _=>by rw[M.val b hb]
end
def qP(os:List Nat)(ar:List Int)(l:List ND)(id v:Nat):Prop:=∀w∈os.take v,∀(y:Nat->Nat) (k:Nat),cO ar y->(k:Int)<ar.getD w 0->S l (upd y w k) id=S l y id
theorem qai(os:List Nat)(ar:List Int)(l:List ND)(id:Nat):qP os ar l id 0:=fun w hw=>by rw[List.take_zero] at hw;cases hw
theorem qaj{os:List Nat}{ar ar':List Int}{l l':List ND}{id c v k:Nat}(T:Trn os ar ar')(hv:v<os.length)(hk:(k:Int)<ar.getD os[v] 0)(h:qP os ar l id v)(e:∀y,cO ar y->S l' y c=S l (upd y os[v] k) id):qP os ar l' c (v+1):=by
 intro w hw y j hy hj;rw[e _ (hy.upd hj),e y hy]
 by_cases hwv:w=os[v]
 .subst hwv;congr 1;funext x;unfold upd;split<;>rfl
 .rw[Fe hwv];refine h w ?_ _ _ (hy.upd hk) hj;rw[kC hv] at hw
  rcases cI.1 hw with hw|hw
  .exact hw
  .simp at hw;exact absurd hw hwv
theorem qak{os:List Nat}{ar ar':List Int}{l:List ND}(T:Trn os ar ar')(g:GoodL ar l)(h1:∀x∈ar,1<=x){id v:Nat}(hid:id<l.length)(hv:os.length<=v)(h:qP os ar l id v):l[id].var<0:=by
 refine Decidable.byContradiction fun hn=>?_;obtain ⟨w,hw⟩:=jO (show 0<=l[id].var by omega);obtain ⟨hwl,y,a,hy,ha,hne⟩:=ZY g h1 .refl hid hid (v:=w) hw;exact hne (h w (by rw[iv hv];exact T.mem hwl) y a hy ha)
def uK(L0 L:List ND)(out:Nat):Prop:=∀i,L0.length<=i->i<L.length->Rc L out i
theorem Rc.app{l:List ND}{a b:Nat}(h:Rc l a b)(r:List ND):Rc (l++r) a b:=by
 induction h with
 | refl=>exact .refl
 | kid j k _ hj hk ih=>exact .kid j k ih (by rw[aQ];omega) (by rw[List.getElem_append_left hj];exact hk)
theorem Lk:∀{A B:List Nat},A.Nodup->(∀x∈A,x∈B)->A.length<=B.length
 | [],_,_,_=>jd _
 | x::A,B,h,hs=>by
  obtain ⟨h1,h2⟩:=lE.1 h;have hx:=hs x cF;have e:=yh hx;have hp:=List.length_pos_of_mem hx;have:=Lk (A:=A) (B:=B.erase x) h2 fun y hy=>(List.mem_erase_of_ne fun e=>h1 (by rw[<- e];exact hy)).2 (hs y (cP _ hy));rw[a8];omega
theorem Xc{ar:List Int}{L:List ND}(g:GoodL ar L){id:Nat}(hid:id<L.length)(h:uK [] L id):(Vi L id []).length=L.length:=by
 obtain ⟨cl,h0,_⟩:=kV g id hid [] lL;have hle:=mA _ _ cl.nd cl.lt;refine Nat.le_antisymm hle ?_
 have mem:∀{a b:Nat},Rc L a b->a∈Vi L id []->b∈Vi L id []:=fun hr ha=>by
  induction hr with
  | refl=>exact ha
  | kid j k _ hj hk ih=>exact cl.kids ih hj _ hk
 have:=Lk (A:=List.range L.length) (B:=Vi L id []) List.nodup_range fun i hi=>mem (h i (jd _) (nY.1 hi)) h0
 rwa [List.length_range] at this
end Go.Ab
namespace Go.Ab
open Go.Proofs Go.Proofs.Tryz
def pk(a b:Nat):AV:=.agg [.I a,.I b]
def pq(E:List ((Nat×Nat)×Nat)):List (AV×AV):=E.map fun e=>(pk e.1.1 e.1.2,.I e.2)
theorem qco(a b c d:Nat):fF (pk a b) (pk c d)=decide ((a,b)=(c,d)):=by
 simp only[pk,fF,rh,nA,decide_true,jc,Bool.and_true,cw];rw[<- Bool.decide_and];exact iz.2 Z
theorem LJ{a b:Nat}(ha:a<=1000000)(hb:b<=1000000):gK (.arr 2 .i64) (pk a b)=true:=by
 have h1:=tg ha;have h2:=tg hb;simp only[gK] at h1 h2;simp[gK,pk,h1,h2]
theorem LX(E:List ((Nat×Nat)×Nat))(a b:Nat):(pq E).find? (fun p=>fF p.1 (pk a b))=(E.find? fun e=>decide (e.1=(a,b))).map fun e=>(pk e.1.1 e.1.2,.I e.2):=by
 unfold pq;rw[List.find?_map];congr 2;funext e;exact qco e.1.1 e.1.2 a b
theorem qbm{m:af}{p a b:Nat}{E:List ((Nat×Nat)×Nat)}(hp:m.get p=some (.mp (.arr 2 .i64) (pq E)))(ha:a<=1000000)(hb:b<=1000000) :
  i6 (.arr 2 .i64) (.I 0) m (.mref p) (pk a b)=some (match E.find? fun e=>decide (e.1=(a,b)) with|some e=>(.I e.2,true)|none=>(.I 0,false)):=by
 have h1:gR m (.arr 2 .i64) (.mref p)=some (p,pq E):=by simp[gR,hp]
 unfold i6;rw[h1];simp only[O,LJ ha hb,aY,qu,LX];cases E.find? fun e=>decide (e.1=(a,b))<;>rfl
theorem qd8{m:af}{p a b id:Nat}{E:List ((Nat×Nat)×Nat)}(hp:m.get p=some (.mp (.arr 2 .i64) (pq E)))(ha:a<=1000000)(hb:b<=1000000)(hn:∀e∈E,e.1≠(a,b))(hl:E.length<=100000) :
  gM (.arr 2 .i64) m (.mref p) (pk a b) (.I id)=some (m.set p (some (.mp (.arr 2 .i64) (pq (E++[((a,b),id)]))))):=by
 have h1:gR m (.arr 2 .i64) (.mref p)=some (p,pq E):=by simp[gR,hp]
 have h3:(pq E).any (fun p=>fF p.1 (pk a b))=false:=by
  have:=LX E a b
  have h4:(E.find? fun e=>decide (e.1=(a,b)))=none:=by
   rw[List.find?_eq_none];intro e he;simpa using hn e he
  rw[h4,Option.map_none,List.find?_eq_none] at this;rw[List.any_eq_false];exact this
 unfold gM;rw[h1,O,ai ⟨LJ ha hb,rfl,by unfold pq;rw[bA];unfold maxLen;omega⟩]
 have e5:i8 (pq E) (pk a b) (.I id)=pq (E++[((a,b),id)]):=by
  unfold pq at h3 ⊢;simp only[i8,h3,gW,cU,mc]
 rw[e5]
theorem Kl{l r:List ND}{n:ND}(h:gg l n=l++r):∀i,l.length<=i->i<(l++r).length->i=l.idxOf n:=by
 intro i h1 h2;rw[<- h] at h2;unfold gg at h2
 split at h2
 .omega
 .rename_i hm;rw[vE hm];simp at h2;omega
theorem qbL{l:List ND}{v:Int}{ks:List Nat}{r:List ND}{c:Nat}(h0:ks≠[])(h:jm l v (ks.map Int.ofNat)=(((c:Nat):Int),l++r)):(∀q,q<ks.length->Rc (l++r) c (ks.getD q 0))/\∀i,l.length<=i->i<(l++r).length->i=c:=by
 obtain ⟨k0,kt,rfl⟩:=List.exists_cons_of_ne_nil h0;rw[cU,Ef] at h
 by_cases hall:((Int.ofNat k0::kt.map Int.ofNat).all fun k=>k==Int.ofNat k0)=true
 .rw[ai hall] at h;obtain ⟨h1,h2⟩:=Prod.mk.inj h
  have hr:r=[]:=by
   have:=cA List.length h2;simp at this;exact this
  subst hr;have hc:c=k0:=by have:((k0:Nat):Int)=c:=h1;omega
  subst hc;refine ⟨fun q hq=>?_,fun i h1 h2=>by simp at h2;omega⟩;have h2:=fe.1 hall (Int.ofNat (c::kt)[q]) (by rw[<- cU];exact List.mem_map_of_mem (bp hq));have h3:(c::kt)[q]=c:=Int.ofNat.inj (by simpa using h2);rw[aK,bn hq,bQ,h3];exact .refl
 .rw[ag hall] at h;obtain ⟨h1,h2⟩:=Prod.mk.inj h;obtain ⟨r',er,_,hl,hx⟩:=DC (cW v (Int.ofNat k0::kt.map Int.ofNat)) l;have hc:l.idxOf (cW v (Int.ofNat k0::kt.map Int.ofNat))=c:=Z;have hl2:c<(l++r).length:=by rw[<- h2,<- hc];exact hl
  have hx2:(l++r)[c]=cW v (Int.ofNat k0::kt.map Int.ofNat):=by
   have:∀(y:List ND) (i:Nat) (h:i<y.length),gg l (cW v (Int.ofNat k0::kt.map Int.ofNat))=y->l.idxOf (cW v (Int.ofNat k0::kt.map Int.ofNat))=i->y[i]=cW v (Int.ofNat k0::kt.map Int.ofNat):=fun y i h e e2=>by subst e;subst e2;exact hx
   exact this _ _ hl2 h2 hc
  refine ⟨fun q hq=>?_,fun i h3 h4=>by rw[<- hc];exact Kl h2 i h3 h4⟩
  have:=Rc.kid (l:=l++r) (id:=c) c (Int.ofNat (k0::kt)[q]) .refl hl2 (by
   rw[hx2];show Int.ofNat (k0::kt)[q]∈Int.ofNat k0::kt.map Int.ofNat;rw[<- cU]
   exact List.mem_map_of_mem (bp hq))
  rw[aK,bn hq,bQ];exact this
section
variable {ar ar':List Int} {os:List Nat}
theorem MvO.app(T:Trn os ar ar'){l L:List ND}(g:GoodL ar l)(gL:GoodL ar' L){id v out:Nat}(M:MvO os ar ar' l L id v out)(r R:List ND):MvO os ar ar' (l++r) (L++R) id v out:=
 ⟨by have:=M.lo;rw[aQ];omega,by have:=M.lt;rw[aQ];omega,by rw[mV M.lt];exact M.top,fun b hb=>by
  rw[oZ gL R hb _ M.lt,oZ g r (T.asg hb) _ M.lo];exact M.val b hb⟩
def Wk(ar':List Int)(v:Nat):Nat:=(ar'.length-v)*aN (ar'.drop v)
def wF(s f pm:Nat)(zs zf zo:Bool)(oS oF oo:Own)(os:List Nat)(ar ar':List Int)(v:Nat):Prop:=
 ∀(m:af) (F G:List Nat) (l L:List ND) (E:List ((Nat×Nat)×Nat)) (id:Nat),bB m s F (IA zs oS ar') 4000 L->GoodL ar' L->bB m f G (IA zf oF ar) 1073741824 l->GoodL ar l->id<l.length->qP os ar l id v->(∀x∈F,x∉G)->(∀e∈E,MvO os ar ar' l L e.1.1 e.1.2 e.2) ->
  m.get pm=some (.mp (.arr 2 .i64) (pq E))->pm∉F->pm∉G->l.length+200*Wk ar' v<=800000->L.length+2*aN (ar'.drop v)<=4000->E.length+Wk ar' v<=90000 ->
  ∃(m':af) (F' G':List Nat) (r R:List ND) (N:List ((Nat×Nat)×Nat)) (out:Nat),AC aa 86 [.ptr s 0,.ptr f 0,.I id,.I v,IA zo oo (os.map Int.ofNat),.mref pm] m=some (.I (out:Nat),m')/\bB m' s F' (IA zs oS ar') 4000 (L++R)/\GoodL ar' (L++R)/\bB m' f G' (IA zf oF ar) 1073741824 (l++r)/\GoodL ar (l++r)/\(∀x∈F',x∉G') /\
   MvO os ar ar' (l++r) (L++R) id v out/\uK L (L++R) out/\(∀e∈E++N,MvO os ar ar' (l++r) (L++R) e.1.1 e.1.2 e.2)/\m'.get pm=some (.mp (.arr 2 .i64) (pq (E++N)))/\r.length<=200*Wk ar' v/\R.length+1<=2*aN (ar'.drop v)/\N.length<=Wk ar' v/\(∀e∈N,v<=e.1.2)/\Fr m m' (pm::(F++G))/\Gr m F F'/\Gr m G G'
variable {s f pm:Nat} {zs zf zo:Bool} {oS oF oo:Own}
theorem WR(T:Trn os ar ar')(h1:∀x∈ar,1<=x/\x<=64)(h1':∀x∈ar',1<=x/\x<=64)(hal:ar.length<=16)(hp:aN ar<=100){v c n q:Nat}(hv:v<os.length)(hc:ar'.getD v 0=(c:Nat))(hn:n=aN (ar'.drop (v+1)))(hq:q=Wk ar' (v+1))(ih:wF s f pm zs zf zo oS oF oo os ar ar' (v+1))
  {l0 L0:List ND} {id:Nat} (g0:GoodL ar l0) (gL0:GoodL ar' L0) (hid:id<l0.length) (hfr:qP os ar l0 id v) (hl0:l0.length+200*(c*(q+1))<=800000) (hL0:L0.length+2*(c*n)<=4000) {E0:List ((Nat×Nat)×Nat)} (hE0n:∀e∈E0,e.1≠(id,v)) (hE0l:E0.length+c*(q+1)<=90000)
  {m0:af} {F0 G0:List Nat} (hpF0:pm∉F0) (hpG0:pm∉G0) (hpm0:pm<m0.length):∀(j i:Nat) (m:af) (F G:List Nat) (r R:List ND) (N:List ((Nat×Nat)×Nat)) (cs:List Nat) (x:AV) (Tx:List Nat),i+j=c->bB m s F (IA zs oS ar') 4000 (L0++R)->GoodL ar' (L0++R)->bB m f G (IA zf oF ar) 1073741824 (l0++r)->GoodL ar (l0++r)->(∀x∈F,x∉G)->(∀e∈E0++N,MvO os ar ar' (l0++r) (L0++R) e.1.1 e.1.2 e.2)->m.get pm=some (.mp (.arr 2 .i64) (pq (E0++N))) ->
   cs.length=i->(∀k,k<cs.length->cs.getD k 0<(L0++R).length/\(v:Int)<fE ar' (L0++R) (cs.getD k 0)/\∀b,cO ar' b->S (L0++R) b (cs.getD k 0)=S l0 (upd (iO os b) os[v] k) id)->(∀t,L0.length<=t->t<(L0++R).length->∃k,k<cs.length/\Rc (L0++R) (cs.getD k 0) t) ->
   r.length<=200*(i*(q+1))->R.length+i<=2*n*i->N.length<=i*q->(∀e∈N,v+1<=e.1.2)->GR 3 m x ((cs.map Int.ofNat).map (AV.int .i64)) Tx->(∀y∈Tx,y∉F/\y∉G/\m0.length<=y)->Fr m0 m (pm::(F0++G0))->Gr m0 F0 F->Gr m0 G0 G ->
  ∃(m':af) (F' G':List Nat) (r' R':List ND) (N':List ((Nat×Nat)×Nat)) (out:Nat),sF (.ptr s 0) (.ptr f 0) (.I id) (.I v) (IA zo oo (os.map Int.ofNat)) (.mref pm) x (.I c) (.I i) m (uh (aD f86))=some (.I (out:Nat),m')/\bB m' s F' (IA zs oS ar') 4000 (L0++R')/\GoodL ar' (L0++R')/\bB m' f G' (IA zf oF ar) 1073741824 (l0++r')/\GoodL ar (l0++r')/\(∀x∈F',x∉G') /\
   MvO os ar ar' (l0++r') (L0++R') id v out/\uK L0 (L0++R') out/\(∀e∈E0++N',MvO os ar ar' (l0++r') (L0++R') e.1.1 e.1.2 e.2)/\m'.get pm=some (.mp (.arr 2 .i64) (pq (E0++N')))/\r'.length<=200*(c*(q+1))/\R'.length+1<=2*(c*n)/\N'.length<=c*(q+1)/\(∀e∈N',v<=e.1.2)/\Fr m0 m' (pm::(F0++G0))/\Gr m0 F0 F'/\Gr m0 G0 G':=by
 have h1x:∀x∈ar,1<=x:=fun x hx=>(h1 x hx).1;have h1x':∀x∈ar',1<=x:=fun x hx=>(h1' x hx).1;have hol:=T.len;have hol':=T.len';have hva:v<ar'.length:=Z;have hwl:os[v]<ar.length:=T.lt _ (bp hv);have hcw:ar.getD os[v] 0=(c:Nat):=by rw[<- T.arm v hv];exact hc
 have hn0:1<=n:=by rw[hn];exact vZ h1x' _
 have hc1:1<=c/\c<=64:=by
  have:=h1' _ (bp hva);rw[aK,bn hva,bQ] at hc;omega
 have hvo:(os.map Int.ofNat)[v]'(by rw[bA];exact hv)=((os[v]:Nat):Int):=by rw[kf];rfl
 intro j
 induction j with
 | zero=>
  intro i m F G r R N cs x Tx hi hs gL hf g hd hE hpg hcs hval hnew hr hR hN hNk hx hT fr grF grG;obtain rfl:i=c:=Z;have hcn:R.length+i<=2*(i*n):=by rw[bU i n,<- cn];exact hR
  have hll:(L0++R).length<4000:=by rw[aQ];omega
  have hcs0:cs≠[]:=fun e=>by rw[e] at hcs;simp at hcs;omega
  obtain ⟨r1,c',er,hr1,hr2,g2,hcl,htop,hS⟩:=zZ gL h1' Z hva (ks:=cs) (by rw[hcs,hc]) (fun y hy=>by
   obtain ⟨k,hk,e⟩:=ig hy;have:=hval k hk;rw[aK,bn hk,bQ,e] at this
   exact ⟨this.1,by rw[<- mf this.1];exact this.2.1⟩) Z
  obtain ⟨hre,hon⟩:=qbL hcs0 er
  have hgd:∃t,x=.lst none false (.tok t 3) ((cs.map Int.ofNat).map (AV.int .i64)):=by
   generalize hq:(cs.map Int.ofNat).map (AV.int .i64)=es at hx
   cases hx with
   | none=>simp at hq;exact absurd hq hcs0
   | some t es ht hne=>exact ⟨t,rfl⟩
  obtain ⟨t,rfl⟩:=hgd
  have hno2:(cW v (cs.map Int.ofNat)).ok:=by
   refine .inr ⟨by simp only[cW];omega,by simp only[cW];omega,rfl,fun q hq=>?_,by simp only[cW,bA];omega⟩;obtain ⟨y,hy,rfl⟩:=ga.1 hq;obtain ⟨k,hk,e⟩:=ig hy;have:=(hval k hk).1;rw[aK,bn hk,bQ,e] at this;refine ⟨oJ y,?_⟩;show (y:Int)<1000000;omega
  obtain ⟨m2,F2,e59,k1,k2,k3⟩:=AQ hs (v:=v) (z:=false) (o:=.tok t 3) (ks:=cs.map Int.ofNat) (by simpa using hcs0) hno2 rfl (.inr ⟨t,3,rfl⟩) Z Z;rw[er] at e59 k1;dsimp only at e59 k1
  have hpF:pm∉F:=fun hh=>by
   rcases grF pm hh with h4|h4
   .exact hpF0 h4
   .omega
  have hpG:pm∉G:=fun hh=>by
   rcases grG pm hh with h4|h4
   .exact hpG0 h4
   .omega
  have hpml:=bo hpg;have hpg2:m2.get pm=some (.mp (.arr 2 .i64) (pq (E0++N))):=(k2.get pm hpml hpF).trans hpg
  have hNn:∀e∈E0++N,e.1≠(id,v):=fun e he=>by
   rcases cI.1 he with he|he
   .exact hE0n e he
   .intro ee;have:=hNk e he;rw[ee] at this;simp only at this;omega
  have hiq:i*q+i=i*(q+1):=by rw[cV,ii]
  have hidl:id<(l0++r).length:=by rw[aQ];omega
  have up:=qd8 (id:=c') hpg2 (a:=id) (b:=v) (by rw[aQ] at hidl;omega) Z hNn (by rw[aQ];omega);have hpl2:=bo hpg2
  have hpF2:pm∉F2:=fun hh=>by
   rcases k3 pm hh with h4|h4
   .exact hpF h4
   .omega
  have hd2:∀x∈F2,x∉G:=fun y hy hg=>by
   rcases k3 y hy with h4|h4
   .exact hd y h4 hg
   .have:=hf.lt y hg;omega
  have hf2:bB m2 f G (IA zf oF ar) 1073741824 (l0++r):=hf.fr k2 fun y hy hh=>hd y hh hy
  have hM:MvO os ar ar' (l0++r) (L0++(R++r1)) id v c':=by
   refine ⟨hidl,by rw[<- bE];exact hcl,by rw[<- bE,mf hcl];exact htop,fun b hb=>?_⟩;have hbv:=hb v hva;rw[hc] at hbv;have hlt:b v<cs.length:=Z;rw[<- bE,hS b hb,(hval _ hlt).2.2 b hb,oZ g0 r (T.asg hb) _ hid];congr 1;funext w;unfold upd iO
   split
   .rename_i e;rw[e,Dy T.nd hv]
   .rfl
  refine ⟨m2.set pm (some (.mp (.arr 2 .i64) (pq (E0++N++[((id,v),c')])))),F2,G,r,R++r1,N++[((id,v),c')],c',?_,?_,by rw[<- bE];exact g2,?_,g,hd2,hM,fun t ht1 ht2=>?_,fun e he=>?_,?_,hr,?_,?_,fun e he=>?_,?_,Gr.trans fr.len grF k3,grG⟩
  .have e59:AC aa 99 [.ptr s 0,.I v,.lst none false (.tok t 3) ((cs.map Int.ofNat).map (AV.int .i64))] m=_:=e59;have hb2:e9 (.agg [(.I 0),(.I 0)]) [(0,none,.I id),(1,none,.I v)]=some (pk id v):=rfl;rw[Hb,bS,O,az,ag Z,SX,e59,O,hb2,O,up,O]
  .rw[<- bE];exact k1.move fun y hy=>bO (fun e=>hpF2 (e▸hy))
  .exact hf2.move fun y hy=>bO (fun e=>hpG (e▸hy))
  .rw[<- bE] at ht2 ⊢
   by_cases h3:t<(L0++R).length
   .obtain ⟨k,hk,hrc⟩:=hnew t ht1 h3;exact Rc.trans g2 (hre k hk) (hrc.app r1)
   .rw[hon t Z ht2];exact .refl
  .rw[<- bE] at he
   rcases cI.1 he with he|he
   .have:=(hE e he).app T g gL [] r1
    rwa [aW,bE] at this
   .obtain rfl:e=((id,v),c'):=by simpa using he
    exact hM
  .rw[b7 rfl hpl2,bE]
  .rw[aQ]
   by_cases hk1:cs.length=1
   .rw[hr2 hk1];simp;omega
   .omega
  .rw[aQ,a8,bq];omega
  .rcases cI.1 he with he|he
   .have:=hNk e he;omega
   .obtain rfl:e=((id,v),c'):=by simpa using he
    exact aI _
  .exact (Fr.trans fr k2 fun y hy=>by
    rcases grF y hy with h4|h4
    .exact .inl (by simp[h4])
    .exact .inr h4).set _ (.inl aq)
 | succ j ihj=>
  intro i m F G r R N cs x Tx hi hs gL hf g hd hE hpg hcs hval hnew hr hR hN hNk hx hT fr grF grG;have hic:i<c:=Z;have hidl:id<(l0++r).length:=by rw[aQ];omega
  have hi1:(i+1)*(q+1)<=c*(q+1):=fL _ Z;have hi2:(i+1)*(q+1)=i*(q+1)+(q+1):=by rw[eW,jP]
  have hiq:i*(q+1)=i*q+i:=by rw[cV,ii]
  have hcn1:(i+1)*n<=c*n:=fL _ Z;have hcn2:(i+1)*n=i*n+n:=by rw[eW,jP]
  have h2ni:2*n*i=2*(i*n):=by rw[cn,bU n i]
  have hpF:pm∉F:=fun hh=>by
   rcases grF pm hh with h4|h4
   .exact hpF0 h4
   .omega
  have hpG:pm∉G:=fun hh=>by
   rcases grG pm hh with h4|h4
   .exact hpG0 h4
   .omega
  have hpml:=bo hpg;have f1:=Fr.app m (some (Ent.mp (.int .i64) [])) []
  have hptk:aN ((ar.take os[v]).drop 0)<=100:=by
   rw[dk];have:aN (ar.take os[v])*aN (ar.drop os[v])=aN ar:=by rw[<- LY,kg]
   have h3:=vZ h1x os[v];exact eP (eP (Nat.le_mul_of_pos_right _ h3) (Nat.le_of_eq this)) hp
  have hrl:r.length<=200*(i*(q+1)):=hr
  obtain ⟨m2,G2,r2,N2,c1,e103,k1,k2,_,_,k5,k6,_,_,_,k10,k11⟩:=NK (most:=1073741824) (lim:=900000) (s:=f) (pm:=m.length) (zs:=zf) (os:=oF) Z h1 hal hwl (k:=i) (by rw[hcw];omega) os[v] 0 Z (m++[some (Ent.mp (.int .i64) [])]) G (l0++r) [] id (hf.app f1) g hidl (by have:=I4 g hidl;omega) aq (by simp (disch:=first|assumption|omega|simp only[aX]<;>omega|fail) only[di,bP,bG,bO,b7]<;>rfl) (fun hh=>by have:=hf.lt _ hh;omega) (by rw[aQ];omega) (by rw[bq];omega)
  obtain ⟨c1l,c1t,c1s⟩:=k5.sem k2 h1 hal hwl (by rw[hcw];omega) (by rw[aQ,aQ];omega)
  have c1v:∀y,cO ar y->S (l0++r++r2) y c1=S l0 (upd y os[v] i) id:=fun y hy=>by
   rw[c1s y hy,bE,oZ g0 _ (hy.upd (by rw[hcw];omega)) _ hid]
  have hfr1:qP os ar (l0++r++r2) c1 (v+1):=qaj T hv (by rw[hcw];omega) hfr c1v;have l1:=f1.len;have l2:=k10.len;simp only[aQ,a8,bq] at l1 l2
  have f12:Fr m m2 G:=Fr.trans (f1.mono aq) k10 fun y hy=>by
   rcases cE.1 hy with rfl|hy
   .exact .inr (aI _)
   .exact .inl hy
  have grG2:Gr m G G2:=fun y hy=>by
   rcases k11 y hy with h4|h4
   .exact .inl h4
   .simp at h4;exact .inr Z
  have hs2:bB m2 s F (IA zs oS ar') 4000 (L0++R):=hs.fr f12 hd
  have hd2:∀x∈F,x∉G2:=fun y hy hg=>by
   rcases grG2 y hg with h4|h4
   .exact hd y hy h4
   .have:=hs.lt y hy;omega
  have hpg2:m2.get pm=some (.mp (.arr 2 .i64) (pq (E0++N))):=(f12.get pm hpml hpG).trans hpg
  have hpG2:pm∉G2:=fun hh=>by
   rcases grG2 pm hh with h4|h4
   .exact hpG h4
   .omega
  obtain ⟨m3,F3,G3,r3,R3,N3,out,e86,j1,j2,j3,j4,j5,j6,j7,j8,j9,j10,j11,j12,j13,j14,j15,j16⟩:=ih m2 F G2 (l0++r++r2) (L0++R) (E0++N) c1 hs2 gL k1 k2 c1l hfr1 hd2 (fun e he=>by have:=(hE e he).app T g gL r2 [];rwa [aW] at this) hpg2 hpF hpG2 (by rw[<- hq,aQ,aQ];omega) (by rw[<- hn,aQ];omega) (by rw[<- hq,aQ];omega);rw[<- hq] at j10 j12;rw[<- hn] at j11;have l3:=j14.len
  have hTm:∀y∈Tx,m3.get y=m.get y:=fun y hy=>by
   have h3:=mq hx y hy;have h4:=hT y hy
   rw[j14.get y Z (by
    simp only[cE,cI,not_or];refine ⟨fun e=>Z,h4.1,fun hg=>?_⟩
    rcases grG2 y hg with h5|h5
    .exact h4.2.1 h5
    .omega),f12.get y h3 h4.2.1]
  have g1:GR 3 m3 x ((cs.map Int.ofNat).map (AV.int .i64)) Tx:=qo hx hTm;obtain ⟨x2,m4,T2,ea,g2,f4,gg2⟩:=nF (b:=8) g1 (by simp;omega) Z (.I (out:Nat));have l4:=f4.len
  have hTF3:∀y∈Tx,y∉F3:=fun y hy hF=>by
   rcases j15 y hF with hh|hh
   .exact (hT y hy).1 hh
   .have:=mq hx y hy;omega
  have hTG3:∀y∈Tx,y∉G3:=fun y hy hF=>by
   rcases j16 y hF with hh|hh
   .rcases grG2 y hh with h5|h5
    .exact (hT y hy).2.1 h5
    .have:=mq hx y hy;omega
   .have:=mq hx y hy;omega
  have st4:bB m4 s F3 (IA zs oS ar') 4000 (L0++(R++R3)):=by
   rw[<- bE];exact j1.fr f4 fun y hy hT'=>hTF3 y hT' hy
  have sf4:bB m4 f G3 (IA zf oF ar) 1073741824 (l0++(r++r2++r3)):=by
   rw[<- bE,<- bE];exact j3.fr f4 fun y hy hT'=>hTG3 y hT' hy
  have hpT:pm∉Tx:=fun hh=>by have:=(hT pm hh).2.2;omega
  have f13:Fr m m3 (pm::(F++G)):=Fr.trans (f12.mono (by simp;intro y hy;simp[hy])) j14 fun y hy=>by
   simp only[cE,cI] at hy ⊢
   rcases hy with rfl|hy|hy
   .exact .inl (.inl rfl)
   .exact .inl (.inr (.inl hy))
   .rcases grG2 y hy with h5|h5
    .exact .inl (.inr (.inr h5))
    .exact .inr h5
  have e0:sF (.ptr s 0) (.ptr f 0) (.I id) (.I v) (IA zo oo (os.map Int.ofNat)) (.mref pm) x (.I c) (.I i) m (uh (aD f86))=sF (.ptr s 0) (.ptr f 0) (.I id) (.I v) (IA zo oo (os.map Int.ofNat)) (.mref pm) x2 (.I c) (.I (i+1:Nat)) m4 (uh (aD f86)):=by
   have ix:aE none (IA zo oo (os.map Int.ofNat)) (.I v)=some (.vptr [.I (os[v]:Nat)]):=by rw[fw (by rw[bA];exact hv),hvo]
   have e103:AC aa 103 [.ptr f 0,.I id,.I (os[v]:Nat),.I i,.mref (aC none m .resv).1] (aC none m (.mp (.int .i64) [])).2=_:=e103;rw[Hb,bS,O,az,ai hic,ix,O,cr,O,e103,O,b6 Z,O,e86,O,kX,O,ea,O,b6 Z,O]
  rw[e0]
  have hGR:Gr m F F3:=fun y hy=>by
   rcases j15 y hy with h5|h5
   .exact .inl h5
   .exact .inr Z
  have hGG:Gr m G G3:=fun y hy=>by
   rcases j16 y hy with h5|h5
   .exact grG2 y h5
   .exact .inr Z
  refine ihj (i+1) m4 F3 G3 (r++r2++r3) (R++R3) (N++N3) (cs++[out]) x2 T2 Z st4 (by rw[<- bE];exact j2) sf4 (by rw[<- bE,<- bE];exact j4) j5 (by rw[<- bE,<- bE,<- bE,<- bE];exact j8) ?_ (by simp[hcs]) (fun y hy=>?_) (fun t ht1 ht2=>?_) ?_ ?_ ?_ (fun e he=>?_) (by rw[gW,gW];exact g2) (fun y hy=>?_) ?_ (Gr.trans fr.len grF hGR) (Gr.trans fr.len grG hGG)
  .rw[f4.get pm Z hpT,j9,bE]
  .rw[<- bE]
   by_cases hy2:y<cs.length
   .rw[aK,kS hy2,<- aK];obtain ⟨a1,a2,a3⟩:=hval y hy2;exact ⟨by rw[aQ];omega,by rw[mV a1];exact a2,fun b hb=>by rw[oZ gL R3 hb _ a1];exact a3 b hb⟩
   .have:y=cs.length:=by simp at hy;omega
    subst this;rw[aK,ma (aI _),jQ];refine ⟨j6.lt,by have:=j6.top;simp only[List.getElem?_cons_zero,bQ];omega,fun b hb=>?_⟩;have h5:=j6.val b hb;rw[oZ k2 r3 (T.asg hb) _ c1l,c1v _ (T.asg hb)] at h5;rw[hcs];exact h5
  .rw[<- bE] at ht2 ⊢
   by_cases h3:t<(L0++R).length
   .obtain ⟨k,hk,hrc⟩:=hnew t ht1 h3;refine ⟨k,by simp;omega,?_⟩;rw[aK,kS hk,<- aK];exact hrc.app R3
   .refine ⟨cs.length,aq,?_⟩;rw[aK,ma (aI _),jQ];exact j7 t Z ht2
  .rw[aQ,aQ];omega
  .rw[aQ,cV,ii];omega
  .rw[aQ,eW,jP];omega
  .rcases cI.1 he with he|he
   .exact hNk e he
   .exact j13 e he
  .rcases gg2 y hy with hh|hh
   .exact ⟨hTF3 y hh,hTG3 y hh,(hT y hh).2.2⟩
   .exact ⟨fun hF=>by have:=j1.lt y hF;omega,fun hF=>by have:=j3.lt y hF;omega,by have:=fr.len;omega⟩
  .exact Fr.trans (Fr.trans fr f13 fun y hy=>by
    simp only[cE,cI] at hy ⊢
    rcases hy with rfl|hy|hy
    .exact .inl (.inl rfl)
    .rcases grF y hy with h4|h4
     .exact .inl (.inr (.inl h4))
     .exact .inr h4
    .rcases grG y hy with h4|h4
     .exact .inl (.inr (.inr h4))
     .exact .inr h4) f4 fun y hy=>.inr (hT y hy).2.2
end
end Go.Ab
namespace Go.Ab
open Go.Proofs Go.Proofs.Tryz
structure RN where
 var:Int
 z:Bool
 o:Own
 kids:List Int
 leaf:Int
def uQ:RN:=⟨0,true,.full,[],0⟩
end Go.Ab
namespace Go.Ab
def JR(L:List RN)(y:Nat->Nat):Nat->Nat->Int
 | 0,_=>0
 | n+1,i=>if (L.getD i uQ).var=-1 then (L.getD i uQ).leaf else JR L y n ((L.getD i uQ).kids.getD (y (L.getD i uQ).var.toNat) 0).toNat
def EV(L:List RN)(y:Nat->Nat)(i:Nat):Int:=JR L y (i+1) i
section
variable {ar:List Int} {L:List RN}
def qcp(a:Nat)(x:RN):Int:=if x.var=-1 then a else x.var
structure LI (ar:List Int) (L:List RN) (l0:List ND) (i:Nat) (l:List ND) (ids:List Nat):Prop where
 g:GoodL ar l
 len:ids.length=i
 gr:∃r,l=l0++r/\r.length<=i
 at_:∀k,k<i->ids.getD k 0<l.length/\qcp ar.length (L.getD k uQ)<=fE ar l (ids.getD k 0)/\∀y,cO ar y->S l y (ids.getD k 0)=EV L y k
end
end Go.Ab
namespace Go.Ab
noncomputable section
open Go.Proofs.Tryz
end
end Go.Ab
namespace Go.Ab
open Go.Proofs Go.Proofs.Tryz
def jG(ids:List Nat)(n:Nat):List Int:=ids.map Int.ofNat++List.replicate (n-ids.length) 0
theorem qa8{m:af}{nm i:Nat}{ds:List Int}(h:m.get nm=some (.obj false (ds.map (AV.int .i64))))(hi:i<ds.length):am none m (.ptr nm i)=some (.I (ds.getD i 0)):=by
 rw[cS,h,jx,O,pi,pU,bn hi,aK,bn hi];rfl
theorem KY(m:af)(n:Nat)(h:n<=100000):fU none 3 none (.I 0) 8 m (.I n) (.I n)=some (.arr m.length 0 n none,m++[some (Ent.obj false ((jG [] n).map (AV.int .i64)))]):=by
 have h3:(n:Int)*8<=281474976710656:=Z;have h4:(n:Int)<=9223372036854775807:=Z;have h5:(0:Int)<=n:=Z;simp only[fU,aC,nk,lC,aY,cB];rw[ai ⟨h5,trivial,h3,h4⟩];simp[jG]
section
variable {s b1 b2 nm:Nat} {F0:List Nat} {arms:AV} {ar:List Int} {L:List RN} {zl:Bool} {ol:Own} {l0:List ND}
end
end Go.Ab
namespace Go.Ab
open Go.Proofs Go.Proofs.Tryz
section
variable {s:Nat} {zs zl:Bool} {os ol:Own} {ar:List Int} {F:List Nat} {l0:List ND} {L:List RN}
end
end Go.Ab
namespace Go.Ab
open Go.Proofs Go.Proofs.Tryz
inductive GS (e:Nat) (m:af):AV->List AV->List Nat->Prop
 | none:GS e m aw [] []
 | some (t:Nat) (es:List AV) (ht:m.get t=some (.tok es.length 3)) (hne:es≠[]):GS e m (.lst (some 3) false (.tok t e) es) es [t]
end Go.Ab
namespace Go.Ab
open Go.Proofs Go.Proofs.Tryz
section
variable {ar:List Int} {l:List ND}
theorem qbO{α:Type}[DecidableEq α]{P:List α}(h:P.Nodup){i:Nat}(hi:i<P.length):P[i]∉P.take i:=fun hm=>by
 obtain ⟨k,hk,e⟩:=ig hm;rw[iu] at hk;rw[List.getElem_take] at e;have:=rN h Z hi e;omega
end
end Go.Ab
namespace Go.Ab
open Go.Proofs Go.Proofs.Tryz
section
variable {ar ar':List Int} {os:List Nat} {s f pm:Nat} {zs zf zo:Bool} {oS oF oo:Own}
theorem Fw(T:Trn os ar ar')(h1:∀x∈ar,1<=x/\x<=64)(h1':∀x∈ar',1<=x/\x<=64)(hal:ar.length<=16)(hp:aN ar<=100){v:Nat}(hv:v<=os.length)(ih:v<os.length->wF s f pm zs zf zo oS oF oo os ar ar' (v+1)):wF s f pm zs zf zo oS oF oo os ar ar' v:=by
 intro m F G l L E id hs gL hf g hid hfr hd hE hpg hpF hpG hbl hbL hbE;have h1x:∀x∈ar,1<=x:=fun x hx=>(h1 x hx).1;have h1x':∀x∈ar',1<=x:=fun x hx=>(h1' x hx).1;have hol:=T.len;have hol':=T.len';have hP:=vZ h1x' v;have hf':=hf;obtain ⟨pf,naf,TF,stf,hGG⟩:=hf';have kG:am none m (.ptr f (0+1))=some naf:=by rw[cS,stf.hs];rfl
 have hnx:=ou stf.hn hid;have l3:∀(a b c:AV),am none m (.vptr [a,b,c])=some a:=fun _ _ _=>rfl;have e0:=Vp (.ptr s 0) (.ptr f 0) (.I id) (.I v) (IA zo oo (os.map Int.ofNat)) (.mref pm) m;rw[iq,O,fJ,O,kG,O,hnx,O,Df,O,l3,O,bg,O,az] at e0
 by_cases hlf:l[id].var<0
 .rw[ai hlf,O,fJ,O,kG,O,hnx,O,JT,O,cr,O] at e0
  have hlv:0<=l[id].leaf/\l[id].leaf<=2147483647:=by
   rcases g.ok _ (bp hid) with ⟨_,_,h3⟩|⟨h3,_⟩
   .exact h3
   .omega
  obtain ⟨m',F',e96,k1,k2,k3⟩:=Fs hs hlv Z Z;rw[e96,O] at e0;obtain ⟨R,er,hr,g2,tab⟩:=KC gL hlv;have hon:=Kl er;rw[er] at k1;have hlt:=tab.lt
  have hM:MvO os ar ar' l (L++R) id v (L.idxOf (gC l[id].leaf)):=by
   refine ⟨hid,hlt,?_,fun b hb=>?_⟩
   .have:=tab.top hlt;rw[mf hlt];omega
   .rw[tab.val b hb,List.drop_length,mT hid hlf];rfl
  have hd2:∀x∈F',x∉G:=fun y hy hg=>by
   rcases k3 y hy with h4|h4
   .exact hd y h4 hg
   .have:=hf.lt y hg;omega
  refine ⟨m',F',G,[],R,[],L.idxOf (gC l[id].leaf),e0,k1,g2,by rw[aW];exact hf.fr k2 fun y hy hh=>hd y hh hy,by rw[aW];exact g,hd2,by rw[aW];exact hM,fun t ht1 ht2=>by rw[hon t ht1 ht2];exact .refl,fun e he=>?_,?_,aq,Z,aq,aq,k2.mono fun y hy=>by simp[hy],k3,Gr.refl _ _⟩
  .rw[aW] at he;exact (hE e he).app T g gL [] R
  .rw[aW];exact (k2.get pm (bo hpg) hpF).trans hpg
 rw[ag hlf] at e0
 have hvl:v<os.length:=by
  refine Decidable.byContradiction fun hn=>hlf ?_;exact qak T g h1x hid Z hfr
 have hva:v<ar'.length:=Z;have hb2:e9 (.agg [(.I 0),(.I 0)]) [(0,none,.I id),(1,none,.I v)]=some (pk id v):=rfl;rw[hb2,O,qbm hpg Z Z,O] at e0
 cases hfd:E.find? fun e=>decide (e.1=(id,v)) with
 | some e=>
  rw[hfd] at e0;dsimp only at e0;rw[kq,O,kr,O,gJ] at e0;have hem:=List.mem_of_find?_eq_some hfd;have hek:e.1=(id,v):=by have:=List.find?_some hfd;simpa using this
  have ho:=hE e hem;rw[hek] at ho;exact ⟨m,F,G,[],[],[],e.2,e0,by rw[aW];exact hs,by rw[aW];exact gL,by rw[aW];exact hf,by rw[aW];exact g,hd,by rw[aW,aW];exact ho,fun t ht1 ht2=>by rw[aW] at ht2;omega,by rw[aW,aW,aW];exact hE,by rw[aW];exact hpg,aq,by simp;omega,aq,aq,Fr.refl _ _,Gr.refl _ _,Gr.refl _ _⟩
 | none=>
  rw[hfd] at e0;dsimp only at e0
  have hEn:∀e∈E,e.1≠(id,v):=fun e he hh=>by
   have:=List.find?_eq_none.1 hfd e he;simp[hh] at this
  obtain ⟨c,hc⟩:=jO (show 0<=ar'[v] by have:=h1' _ (bp hva);omega);have hcg:ar'.getD v 0=(c:Nat):=by rw[rx hva];exact hc
  have hs':=hs;obtain ⟨ps,nas,TS,sts,hFF⟩:=hs';have lda:am none m (.ptr s (0+0))=some (IA zs oS ar'):=by rw[cS,sts.hs];rfl
  have hps:aN (ar'.drop v)=c*aN (ar'.drop (v+1)):=by rw[mH hva,hcg,cB]
  have hn0:=vZ h1x' (v+1)
  have hWk:c*(Wk ar' (v+1)+1)<=Wk ar' v:=by
   unfold Wk;rw[hps,show ar'.length-v=(ar'.length-(v+1))+1 by omega,qX];refine iF _ ?_;rw[eW,jP];omega
  rw[kq,O,kr,O,cD,iq,O,fJ,O,lda,O,fw hva,O,cr,O,hc] at e0;rw[hps] at hbL;obtain ⟨m',F',G',r,R,N,out,e,k⟩:=WR T h1 h1' hal hp hvl hcg rfl rfl (ih hvl) (l0:=l) (L0:=L) g gL hid hfr Z hbL (E0:=E) hEn Z (m0:=m) hpF hpG (bo hpg) c 0 m F G [] [] [] [] aw [] Z (by rw[aW];exact hs) (by rw[aW];exact gL) (by rw[aW];exact hf) (by rw[aW];exact g) hd (by rw[aW,aW,aW];exact hE) (by rw[aW];exact hpg) rfl (fun q hq=>by simp at hq) (fun t h3 h4=>by rw[aW] at h4;omega) aq aq aq aq .none aq (Fr.refl _ _) (Gr.refl _ _) (Gr.refl _ _);obtain ⟨k1,k2,k3,k4,k5,k6,k7,k8,k9,k10,k11,k12,k13,k14⟩:=k;exact ⟨m',F',G',r,R,N,out,e0.trans e,k1,k2,k3,k4,k5,k6,k7,k8,k9,Z,by rw[hps];exact k11,Z,k13,k14⟩
theorem NQ(T:Trn os ar ar')(h1:∀x∈ar,1<=x/\x<=64)(h1':∀x∈ar',1<=x/\x<=64)(hal:ar.length<=16)(hp:aN ar<=100):∀(d v:Nat),v+d=os.length->wF s f pm zs zf zo oS oF oo os ar ar' v:=by
 intro d
 induction d with
 | zero=>intro v hd;exact Fw T h1 h1' hal hp Z fun h=>Z
 | succ d ih=>intro v hd;exact Fw T h1 h1' hal hp Z fun h=>ih (v+1) Z
end
theorem Nq(m:af)(z:Bool)(o:Own)(ns:List Int)(hz:z=true->ns=[])(hl:ns.length<=1000) :
  ∃m' s F z' o',AC aa 138 [IA z o ns] m=some (.ptr s 0,m')/\bB m' s F (IA z' o' ns) 1073741824 []/\Fr m m' []/\(∀x∈F,m.length<=x):=by
 obtain ⟨z',o',ec,_,_⟩:=y9 z ns hz;have c49:=fun m=>vV z o ns Z m;rw[ec] at c49
 refine ⟨(m++[some (Ent.mp .str [])])++[some (Ent.B [IA z' o' ns,aw,.mref m.length,.I 1073741824])],m.length+1,[m.length+1,m.length],z',o',?_,?_,(Fr.app m _ _).snoc _,?_⟩
 .have hb:e9 (.agg [aw,aw,.nilm,(.I 0)]) [(0,none,IA z' o' ns),(2,none,(.mref m.length)),(3,none,(.I 1073741824))]=some (.agg [IA z' o' ns,aw,.mref m.length,.I 1073741824]):=rfl;have hx:∀m1,cQ none (some 4) m1 (.agg [IA z' o' ns,aw,.mref m.length,.I 1073741824])=some (.ptr m1.length 0,m1++[some (Ent.B [IA z' o' ns,aw,.mref m.length,.I 1073741824])]):=fun m1=>rfl;rw[Us]
  repeat ((with_reducible first|apply bs|apply bK);(focus first|(simp (disch:=first|assumption|omega|simp only[aX]<;>omega|fail) only[bJ,beq_self_eq_true,bH,O,Sh.size,aY,bf,Nat.reduceAdd,Nat.reduceLeDiff,aI,c49,hb,hx]<;>rfl)|rfl);try dsimp only)
 .refine ⟨m.length,aw,[],⟨(by simp (disch:=first|assumption|omega|simp only[aX]<;>omega|fail) only[di,bP,bG,bO,b7]<;>rfl),(by simp (disch:=first|assumption|omega|simp only[aX]<;>omega|fail) only[di,bP,bG,bO,b7]<;>rfl),.none,aq,Z,aq⟩,rfl⟩
 .intro x hx;simp only[cE,sO,or_false] at hx;omega
theorem qaT{l:List ND}(h:l.Nodup){i:Nat}(hi:i<l.length):gg (l.take i) l[i]=l.take (i+1):=by
 have:l[i]∉l.take i:=qbO h hi;unfold gg;rw[ag this,kC hi]
theorem Ha{m0:af}{f:Nat}{arms:AV}{l:List ND}{x:AV}(hok:∀n∈l,n.ok)(hnd:l.Nodup)(hll:l.length<=100000)(hlen:aL false x=some (.I l.length))(hix:∀(i:Nat) (h:i<l.length),aE (some 3) x (.I i)=some (.vptr [.I l[i].var,bM l[i],.I l[i].leaf])):∀(j i:Nat) (m:af) (F:List Nat),i+j=l.length->Fr m0 m []->(∀y∈F,m0.length<=y)->bB m f F arms 1073741824 (l.take i) ->
  ∃m' F',yc (.ptr f 0) x (.I l.length) (.I i) m (BB (aD f83))=some (.ptr f 0,m')/\bB m' f F' arms 1073741824 l/\Fr m0 m' []/\(∀y∈F',m0.length<=y)
 | 0,i,m,F,hi,fr,hF,h=>by
  rw[iv Z] at h;refine ⟨m,F,?_,h,fr,hF⟩;rw[G9,bS,O,az,ag Z,SU]
 | j+1,i,m,F,hi,fr,hF,h=>by
  have hil:i<l.length:=Z;have hn:=hok _ (bp hil);have hk:=qs hn;have lv:am (some 3) m (.vptr [.I l[i].var,bM l[i],.I l[i].leaf])=some (.agg [.I l[i].var,bM l[i],.I l[i].leaf]):=rfl
  have hst:lr (.lst none (kz l[i]) (ko l[i]) (l[i].kids.map (AV.int .i64)))=bM l[i]:=by
   have:IA (kz l[i]) (ko l[i]) l[i].kids=.lst none (kz l[i]) (ko l[i]) (l[i].kids.map (AV.int .i64)):=rfl;rw[<- this,<- hk];unfold bM;split<;>rfl
  have hsh:cu (some 3) (.agg [.I l[i].var,bM l[i],.I l[i].leaf])=true:=by rw[hk];exact ES _ _ _ _ _
  have st1:=MK (m:=m) (a:=.I 0) (b:=aw) (c:=.I 0) hsh;have f1:Fr m (m++[some (Ent.B [.I l[i].var,bM l[i],.I l[i].leaf])]) []:=Fr.app m _ _;obtain ⟨m2,F2,e139,k1,k2,k3⟩:=Ez (h.app f1) hn hst (by rw[iu];omega) Z;rw[qaT hnd hil] at k1;have e139:AC aa 139 [.ptr f 0,.agg [.I l[i].var,IA (kz l[i]) (ko l[i]) l[i].kids,.I l[i].leaf]] (m++[some (Ent.B [.I l[i].var,bM l[i],.I l[i].leaf])])=_:=e139;rw[<- hk] at e139;have l1:=f1.len;have fr2:Fr m0 m2 []:=Fr.trans (Fr.trans fr f1 fun _ h=>by cases h) k2 fun y hy=>.inr (hF y hy);have l0:=fr.len
  obtain ⟨m',F',e,k⟩:=Ha hok hnd hll hlen hix j (i+1) m2 F2 Z fr2 (fun y hy=>by
   rcases k3 y hy with h4|h4
   .exact hF y h4
   .omega) k1
  refine ⟨m',F',?_,k⟩
  have ld1:am (some 3) (m++[some (Ent.B [.I l[i].var,bM l[i],.I l[i].leaf])]) (.ptr m.length 0)=some (.agg [.I l[i].var,bM l[i],.I l[i].leaf]):=by
   rw[cS,bG rfl];rfl
  rw[G9,bS,O,az,ai hil,hix i hil,O,lv,O];rw[show (aC none m (Ent.B [(.I 0),aw,(.I 0)])).2=m++[some (Ent.B [(.I 0),aw,(.I 0)])] from rfl,show (aC none m Ent.resv).1=m.length from rfl,st1,O,ld1,O,e139,O,b6 Z,O];exact e
theorem NO{m:af}{s:Nat}{F:List Nat}{zs:Bool}{oS:Own}{ar:List Int}{most:Int}{l:List ND}(h:bB m s F (IA zs oS ar) most l)(hnd:l.Nodup)(hz:zs=true->ar=[])(hal:ar.length<=16)(hll:l.length<=100000) :
  ∃m' f G z' o',AC aa 83 [.ptr s 0] m=some (.ptr f 0,m')/\bB m' f G (IA z' o' ar) 1073741824 l/\Fr m m' []/\(∀x∈G,m.length<=x):=by
 obtain ⟨p,na,TT,st,hFF⟩:=id h;obtain ⟨m1,f,G,z',o',e1,h1,f1,hG⟩:=Nq m zs oS ar hz Z;have lda:am none m (.ptr s (0+0))=some (IA zs oS ar):=by rw[cS,st.hs];rfl
 have h':=h.app f1;obtain ⟨p',na',TT',st',hFF'⟩:=id h';have kG:am none m1 (.ptr s (0+1))=some na':=by rw[cS,st'.hs];rfl
 have hlen:aL false na'=some (.I l.length):=by
  cases st'.hn with
  | none=>rfl
  | some t l ht=>rw[jX,bA]
 obtain ⟨m',F',e,k1,k2,k3⟩:=Ha (m0:=m) (f:=f) (arms:=IA z' o' ar) (l:=l) (x:=na') st'.ok hnd hll hlen (fun i hi=>ou st'.hn hi) l.length 0 m1 G Z f1 hG (by rw[List.take_zero];exact h1);refine ⟨m',f,F',z',o',?_,k1,k2,k3⟩;rw[Vn,iq,O,fJ,O,lda,O,e1,O,O,fJ,O,kG,O,hlen,O];exact e
end Go.Ab
namespace Go.Ab
open Go.Proofs Go.Proofs.Tryz
def qB(n:Nat):List Int->List Bool->Bool
 | [],_=>true
 | x::r,sb=>if x<0 then false else if x≥n then false else if sb.getD x.toNat false then false else qB n r (sb.set x.toNat true)
def mF(ods:List Int)(n:Nat):Bool:=decide (ods.length=n)&&qB n ods (List.replicate n false)
theorem Lt{n:Nat}:∀(r:List Int) (sb:List Bool),sb.length=n->qB n r sb=true->∃os:List Nat,r=os.map Int.ofNat/\os.Nodup/\∀x∈os,x<n/\sb.getD x false=false
 | [],sb,_,_=>⟨[],rfl,List.nodup_nil,aq⟩
 | x::r,sb,hl,h=>by
  rw[qB] at h
  split at h
  .cases h
  split at h
  .cases h
  split at h
  .cases h
  rename_i h1 h2 h3;obtain ⟨os,rfl,hn,ho⟩:=Lt r (sb.set x.toNat true) (by rw[ff];exact hl) h;have hx:((x.toNat:Nat):Int)=x:=Z
  refine ⟨x.toNat::os,by rw[cU];congr 1;exact hx.symm,lE.2 ⟨fun hm=>?_,hn⟩,fun y hy=>?_⟩
  .have:=(ho _ hm).2;rw[aK,pV Z,bQ] at this;cases this
  .rcases cE.1 hy with rfl|hy
   .exact ⟨Z,by simpa using h3⟩
   .obtain ⟨a1,a2⟩:=ho y hy;refine ⟨a1,?_⟩
    by_cases hyx:y=x.toNat
    .rw[hyx,aK,pV Z,bQ] at a2;cases a2
    .rwa [aK,qU Z,<- aK] at a2
theorem qb5{n:Nat}{ods:List Int}(h:mF ods n=true):∃os:List Nat,ods=os.map Int.ofNat/\os.length=n/\os.Nodup/\∀x∈os,x<n:=by
 unfold mF at h;rw[cg,lc] at h;obtain ⟨os,rfl,h1,h2⟩:=Lt _ _ aq h.2;exact ⟨os,rfl,by simpa using h.1,h1,fun x hx=>(h2 x hx).1⟩
theorem I0{z:Bool}{o:Own}{n nm:Nat}{ods:List Int}(hn:n<=1000)(hl:ods.length<=1000):∀(j i:Nat) (m:af) (sb:List Bool),i+j=ods.length->m.get nm=some (.obj false (sb.map .bool))->sb.length=n ->
  ∃m',yb (.I n) (.arr nm 0 n none) (IA z o ods) (.I ods.length) (.I i) m (w6 (aD f82))=some (.bool (qB n (ods.drop i) sb),m')
 | 0,i,m,sb,hi,hg,hs=>by
  refine ⟨m,?_⟩;rw[G8,bS,O,az,ag Z,SQ,fQ Z];rfl
 | j+1,i,m,sb,hi,hg,hs=>by
  have hil:i<ods.length:=Z;rw[G8,bS,O,az,ai hil,fw hil,O,cr,O,bg,O,az,ic hil,qB]
  by_cases h1:ods[i]<0
  .rw[ai h1,ai h1,BA];exact ⟨m,rfl⟩
  rw[ag h1,ag h1,je,O,az]
  by_cases h2:ods[i]≥n
  .rw[ai h2,ai h2,BA];exact ⟨m,rfl⟩
  rw[ag h2,ag h2];obtain ⟨x,hx⟩:=jO (show 0<=ods[i] by omega);have hxn:x<n:=Z;have hx':ods[i]=((x:Nat):Int):=hx;rw[hx',de hxn,O,DM hg Z,O,cB]
  cases hb:sb.getD x false with
  | true=>rw[gJ,ai rfl,BA];exact ⟨m,rfl⟩
  | false=>
   rw[cD,ag aq,O,EW hg Z,O,b6 Z,O];exact I0 hn hl j (i+1) _ (sb.set x true) Z (b7 rfl (bo hg)) (by rw[ff];exact hs)
theorem V8(z:Bool)(o:Own)(ods:List Int)(n:Nat)(hn:n<=1000):AP aa 82 [IA z o ods,.I n]=some (.bool (mF ods n)):=by
 have key:∃m',AC aa 82 [IA z o ods,.I n] []=some (.bool (mF ods n),m'):=by
  rw[Vm,fc,O,gt,O,az];unfold mF
  by_cases hl:ods.length=n
  .rw[ag Z,DT _ _ Z,O,O,eT hl,jc];obtain ⟨m',e⟩:=I0 (z:=z) (o:=o) (nm:=0) (ods:=ods) hn Z ods.length 0 [some (.obj false ((List.replicate n false).map .bool))] (List.replicate n false) Z (bG (m:=[]) rfl) aq;exact ⟨m',e⟩
  .rw[ai Z,eX hl,oI];exact ⟨_,rfl⟩
 obtain ⟨m',e⟩:=key;exact fH e rfl rfl
theorem Lv(z:Bool)(o:Own)(ods:List Int)(n:Nat)(hn:n<=1000)(m:af):aF (AP aa) none m 82 [IA z o ods,.I n]=some (.bool (mF ods n),m):=by
 rw[eC (gX z o ods) (ft _ _),V8 z _ ods n hn];rfl
theorem IK{z:Bool}{o:Own}{n nm:Nat}{ods:List Int}(hn:n<=1000)(hl:ods.length<=1000):∀(j i:Nat) (m:af) (sb:List Bool),i+j=ods.length->m.get nm=some (.obj false (sb.map .bool))->sb.length=n ->
  ∃m',xO (.I n) (.arr nm 0 n none) (IA z o ods) (.I ods.length) (.I i) m (wW (aD f25))=some (.bool (qB n (ods.drop i) sb),m')
 | 0,i,m,sb,hi,hg,hs=>by
  refine ⟨m,?_⟩;rw[GK,bS,O,az,ag Z,Rx,fQ Z];rfl
 | j+1,i,m,sb,hi,hg,hs=>by
  have hil:i<ods.length:=Z;rw[GK,bS,O,az,ai hil,fw hil,O,cr,O,bg,O,az,ic hil,qB]
  by_cases h1:ods[i]<0
  .rw[ai h1,ai h1,Bs];exact ⟨m,rfl⟩
  rw[ag h1,ag h1,je,O,az]
  by_cases h2:ods[i]≥n
  .rw[ai h2,ai h2,Bs];exact ⟨m,rfl⟩
  rw[ag h2,ag h2];obtain ⟨x,hx⟩:=jO (show 0<=ods[i] by omega);have hxn:x<n:=Z;have hx':ods[i]=((x:Nat):Int):=hx;rw[hx',de hxn,O,DM hg Z,O,cB]
  cases hb:sb.getD x false with
  | true=>rw[gJ,ai rfl,Bs];exact ⟨m,rfl⟩
  | false=>
   rw[cD,ag aq,O,EW hg Z,O,b6 Z,O];exact IK hn hl j (i+1) _ (sb.set x true) Z (b7 rfl (bo hg)) (by rw[ff];exact hs)
theorem VT(z:Bool)(o:Own)(ods:List Int)(n:Nat)(hn:n<=1000):AP aa 25 [IA z o ods,.I n]=some (.bool (mF ods n)):=by
 have key:∃m',AC aa 25 [IA z o ods,.I n] []=some (.bool (mF ods n),m'):=by
  rw[UV,fc,O,gt,O,az];unfold mF
  by_cases hl:ods.length=n
  .rw[ag Z,DT _ _ Z,O,O,eT hl,jc];obtain ⟨m',e⟩:=IK (z:=z) (o:=o) (nm:=0) (ods:=ods) hn Z ods.length 0 [some (.obj false ((List.replicate n false).map .bool))] (List.replicate n false) Z (bG (m:=[]) rfl) aq;exact ⟨m',e⟩
  .rw[ai Z,eX hl,oI];exact ⟨_,rfl⟩
 obtain ⟨m',e⟩:=key;exact fH e rfl rfl
theorem qb8(z:Bool)(o:Own)(ods:List Int)(n:Nat)(hn:n<=1000)(m:af):aF (AP aa) none m 25 [IA z o ods,.I n]=some (.bool (mF ods n),m):=by
 rw[eC (gX z o ods) (ft _ _),VT z _ ods n hn];rfl
theorem IY{t:Nat}{ks:List Int}{g:Nat}{caps:List AV}{p:Int->Bool}(hlen:ks.length<=100000)(h1:((aa.lib g).isNone&&(aa.libm g).isNone)=true)(h2:aa.inl 145 g=true)(h3:aa.thaw 145 g=false)(m0:af)(ht:m0.get t=some (.obj false (ks.map (AV.int .i64))))
  (hc:∀m1 k,Fr m0 m1 []->∃m',AC aa g (.I k::caps) m1=some (.bool (p k),m')/\Fr m1 m' []):∀(j i:Nat) (m1:af),i+j=ks.length->Fr m0 m1 [] ->
  ∃m' v,nX (.arr t 0 ks.length none) (.fn g caps) (.I ks.length) (.I i) m1 (nV (aD f145))=some (.I v,m')/\decide (v≥0)=(ks.drop i).any p/\Fr m0 m' []
 | 0,i,m1,h,f=>by
  refine ⟨m1,-1,?_,?_,f⟩
  .rw[xA,bg,O,az,ag Z,FL]
  .rw[fQ Z];rfl
 | j+1,i,m1,h,f=>by
  have hi:i<ks.length:=Z;obtain ⟨m2,e,f2⟩:=hc m1 ks[i] f;have f3:Fr m0 m2 []:=Fr.trans f f2 fun x hx=>by cases hx
  have hg:m1.get t=some (.obj false (ks.map (AV.int .i64))):=(f.get t (bo ht) (by simp)).trans ht
  have e0:nX (.arr t 0 ks.length none) (.fn g caps) (.I ks.length) (.I i) m1 (nV (aD f145)) =
    au (.bool (p ks[i])) (some (.I i,m2)) (nX (.arr t 0 ks.length none) (.fn g caps) (.I ks.length) (.I (i+1:Nat)) m2 (nV (aD f145))):=by
   rw[xA,bg,O,az,ai Z,de hi,O,qa8 hg hi,rx hi,O,show jj (.fn g caps)=some (g,caps) from rfl,O,nD h1 h2 h3,List.singleton_append,e,O,FK,b6 Z,O]
  rw[e0,ic hi,List.any_cons]
  cases hp:p ks[i] with
  | true=>
   rw[gJ];exact ⟨m2,i,rfl,aq,f3⟩
  | false=>
   rw[cD];obtain ⟨m',v,e1,e2,e3⟩:=IY hlen h1 h2 h3 m0 ht hc j (i+1) m2 Z f3;exact ⟨m',v,e1,by rw[e2,Bool.false_or],e3⟩
theorem KG(t n:Nat):aL false (.arr t 0 n none)=some (.I n):=rfl
theorem NB{m:af}{t:Nat}{ns:List Int}(ht:m.get t=some (.obj false (ns.map (AV.int .i64))))(he:jE ns=0) :
  ∃m' s F z' o',AC aa 32 [.arr t 0 ns.length none] m=some (.tup [.ptr s 0,.I 0],m')/\bB m' s F (IA z' o' ns) 4000 []/\Fr m m' [t]/\(∀x∈F,m.length<=x)/\(z'=true->ns=[]):=by
 obtain ⟨h1,h2⟩:=re he;obtain ⟨m1,v,e47,ev,f1⟩:=IY (ks:=ns) (g:=93) (caps:=[]) (p:=fun k=>!lH k) Z rfl rfl rfl m ht (fun m1 k _=>⟨m1,Fp k m1,Fr.refl _ _⟩) ns.length 0 m Z (Fr.refl _ _);have ha:ns.all lH=true:=fe.2 fun a ha=>eT (h2 a ha);rw[dk,CP,ha,hZ] at ev
 have e92:AC aa 92 [.arr t 0 ns.length none,.fn 93 []] m=some (.bool false,m1):=by
  have e47:nX (.arr t 0 ns.length none) (.fn 93 []) (.I ns.length) (.I 0) m (nV (aD f145))=_:=e47;rw[Ih,H4,KG,O,e47,O,je,O,ev]
 obtain ⟨z',o',ec,_,hzz⟩:=y9 false ns (fun h=>by cases h);have hg1:m1.get t=some (.obj false (ns.map (AV.int .i64))):=(f1.get t (bo ht) (by simp)).trans ht
 have c49:aF (AP aa) none m1 88 [.arr t 0 ns.length none]=some (IA z' o' ns,m1.set t none):=by
  have hf:=J0 hg1
  have hm:eU (bW m1 iI) [.arr t 0 ns.length none]=some ([IA false .no ns],[t]):=by
   simp only[eU,hf,O,aP]
   rfl
  unfold aF;rw[hm];simp only[O,Option.isSome_none,oI,iE,jJ,Iv false .no ns Z,aP,ec]
  rfl
 have f2:Fr m (m1.set t none) [t]:=(f1.mono (by simp)).set _ (.inl aq);have l1:=f1.len;generalize m1.set t none=m2 at c49 f2;have l2:=f2.len
 refine ⟨(m2++[some (Ent.mp .str [])])++[some (Ent.B [IA z' o' ns,aw,.mref m2.length,.I 4000])],m2.length+1,[m2.length+1,m2.length],z',o',?_,?_,(f2.snoc _).snoc _,?_,hzz⟩
 .have hb:e9 (.agg [aw,aw,.nilm,(.I 0)]) [(0,none,IA z' o' ns),(2,none,(.mref m2.length)),(3,none,(.I 4000))]=some (.agg [IA z' o' ns,aw,.mref m2.length,.I 4000]):=rfl;have hx:∀m1,cQ none (some 4) m1 (.agg [IA z' o' ns,aw,.mref m2.length,.I 4000])=some (.ptr m1.length 0,m1++[some (Ent.B [IA z' o' ns,aw,.mref m2.length,.I 4000])]):=fun m1=>rfl;rw[H9,KG,O,gI,O,az,ag Z,e92,O,cD]
  repeat ((with_reducible first|apply bs|apply bK);(focus first|(simp (disch:=first|assumption|omega|simp only[aX]<;>omega|fail) only[bJ,beq_self_eq_true,bH,O,Sh.size,aY,bf,Nat.reduceAdd,Nat.reduceLeDiff,aI,c49,hb,hx]<;>rfl)|rfl);try dsimp only)
 .refine ⟨m2.length,aw,[],⟨(by simp (disch:=first|assumption|omega|simp only[aX]<;>omega|fail) only[di,bP,bG,bO,b7]<;>rfl),(by simp (disch:=first|assumption|omega|simp only[aX]<;>omega|fail) only[di,bP,bG,bO,b7]<;>rfl),.none,aq,Z,aq⟩,rfl⟩
 .intro x hx;simp only[cE,sO,or_false] at hx;omega
end Go.Ab
namespace Go.Ab
open Go.Proofs Go.Proofs.Tryz
section
variable {m:af} {s:Nat} {F:List Nat} {arms:AV} {most:Int} {l:List ND}
theorem NE{g:Nat}{caps:List AV}{G:List Nat}{Q:Int->List ND->Prop}(h:bB m s F arms most l)(hG:∀x∈G,x<m.length)(h1:((aa.lib g).isNone&&(aa.libm g).isNone)=true)(h2:aa.inl 84 g=true)(h3:aa.thaw 84 g=false)
  (hc:∀m1,Fr m m1 []->∃m' F' id l',AC aa g caps m1=some (.I id,m')/\Q id l'/\bB m' s F' arms most l'/\Fr m1 m' (F++G)/\Gr m1 F F') :
  ∃m' F' id l',AC aa 84 [.ptr s 0,.fn g caps] m=some (.tup [.I id,.I 0],m')/\Q id l'/\bB m' s F' arms most l'/\Fr m m' (F++G)/\Gr m F F':=by
 have hlt:=h.lt;obtain ⟨p,na,T,h,rfl⟩:=h;have hs:=h.hs;have hsl:=bo hs
 have hlen:aL false na=some (.I l.length):=by
  cases h.hn with
  | none=>rfl
  | some t l ht=>rw[jX,bA]
 obtain ⟨m2,F2,id,l',e2,hQ,k1,k2,k3⟩:=hc (List.set (((m++[some (Ent.B [.ptr s 0])])++[some (Ent.B [.I 0])])++[some (Ent.B [.I 0])]++[some (Ent.B [.I 0])]) (m.length+1+1+1) (some (Ent.B [.I l.length]))) (((((Fr.app m _ _).snoc _).snoc _).snoc _).set _ (.inr Z));have len2:=k2.len;simp only[ff,aQ,a8,bq] at len2
 have hlt2:∀x∈(s::p::T)++G,x<m.length:=fun x hx=>by
  rcases cI.1 hx with hx|hx
  .exact hlt x hx
  .exact hG x hx
 have g1:af.get m2 (m.length+1)=some (Ent.B [.I 0]):=by
  rw[k2.get _ aq (fun hx=>by have:=hlt2 _ hx;omega)];exact (by simp (disch:=first|assumption|omega|simp only[aX]<;>omega|fail) only[di,bP,bG,bO,b7]<;>rfl)
 have g2:af.get m2 (m.length+2)=some (Ent.B [.I 0]):=by
  rw[k2.get _ aq (fun hx=>by have:=hlt2 _ hx;omega)];exact (by simp (disch:=first|assumption|omega|simp only[aX]<;>omega|fail) only[di,bP,bG,bO,b7]<;>rfl)
 have e:AC aa 84 [.ptr s 0,.fn g caps] m=some (.tup [.I id,.I 0],(m2.set (m.length+1) (some (Ent.B [.I id]))).set (m.length+1+1) (some (Ent.B [.I 0]))):=by
  rw[Ig]
  repeat ((with_reducible first|apply bs|apply bK);(focus first|(simp (disch:=first|assumption|omega|simp only[aX]<;>omega|fail) only[bJ,beq_self_eq_true,bH,O,Sh.size,aY,bf,Nat.reduceAdd,Nat.reduceLeDiff,aI,hs,hlen,ml]<;>rfl)|rfl);try dsimp only)
  rw[bX,nD h1 h2 h3,e2,O];dsimp only
  repeat ((with_reducible first|apply bs|apply bK);(focus first|(simp (disch:=first|assumption|omega|simp only[aX]<;>omega|fail) only[bJ,beq_self_eq_true,bH,O,Sh.size,aY,bf,Nat.reduceAdd,Nat.reduceLeDiff,aI,g1,g2]<;>rfl)|rfl);try dsimp only)
 refine ⟨_,F2,id,l',e,hQ,?_,?_,?_⟩
 .refine k1.move fun x hx=>?_
  have hx2:x≠m.length+1/\x≠m.length+1+1:=by
   rcases k3 x hx with h|h
   .have:=hlt x h;omega
   .simp only[ff,aQ,a8,bq] at h;omega
  rw[bO hx2.2,bO hx2.1]
 .have f1:Fr m m2 ((s::p::T)++G):=Fr.trans (((((Fr.app m _ _).snoc _).snoc _).snoc _).set _ (.inr Z)) k2 fun x hx=>.inl hx;exact (f1.set _ (.inr (by omega))).set _ (.inr Z)
 .intro x hx
  rcases k3 x hx with h|h
  .exact .inl h
  .simp only[ff,aQ,a8,bq] at h;exact .inr Z
end
def bu(ar:List Int)(os:List Nat):List Int:=os.map fun w=>ar.getD w 0
theorem Ag{a b:List Int}(h:a.Perm b):aN a=aN b:=by
 induction h with
 | nil=>rfl
 | cons x h ih=>rw[aN,aN,ih]
 | swap x y l=>rw[aN,aN,aN,aN,qX]
 | trans h1 h2 ih1 ih2=>exact ih1.trans ih2
theorem qcF{ar:List Int}:(List.range' 0 ar.length).map (fun w=>ar.getD w 0)=ar:=by
 refine List.ext_getElem aq fun i h1 h2=>?_;rw[kf,List.getElem_range',bj,jP,rx h2]
section
variable {ar:List Int} {os:List Nat}
theorem qdR(hl:os.length=ar.length)(hn:os.Nodup)(ho:∀x∈os,x<ar.length):Trn os ar (bu ar os):=
 ⟨hn,hl,by simp[bu,hl],ho,fun i h=>by simp[bu,aK,h]⟩
theorem ve(T:Trn os ar (bu ar os)):(bu ar os).Perm ar:=by
 have:=T.perm.map fun w=>ar.getD w 0;rw[qcF] at this;exact this
theorem vd(T:Trn os ar (bu ar os))(h:∀x∈ar,1<=x/\x<=64):∀x∈bu ar os,1<=x/\x<=64:=fun x hx=>h x ((ve T).mem_iff.1 hx)
theorem Xn(T:Trn os ar (bu ar os))(h:∀x∈ar,1<=x/\x<=64)(hal:ar.length<=16):jE (bu ar os)=0:=by
 have h2:=vd T h;have h3:(bu ar os).all lH=true:=fe.2 fun a ha=>eT (h2 a ha);unfold jE;rw[ag (by have:=T.len';omega),ai h3]
theorem GJ{s b:Nat}{zs zo:Bool}{oS oo:Own}{l:List ND}{F:List Nat}{most:Int}(hl:os.length=ar.length)(ho:∀x∈os,x<ar.length)(hal:ar.length<=16)(x4 x5:AV)(K:KT):∀(j i:Nat) (m:af) (cs:List Int),i+j=os.length->bB m s F (IA zs oS ar) most l->b∉F->m.get b=some (.obj false (cs.map (AV.int .i64)))->cs.length=os.length->cs.take i=(bu ar os).take i ->
  ux (.ptr s 0) x4 x5 (.arr b 0 os.length none) (IA zo oo (os.map Int.ofNat)) (.I os.length) (.I i) m (ud K)=ud K (.exit 0) (Cf (.ptr s 0) x4 x5 (.arr b 0 os.length none) (m.set b (some (.obj false ((bu ar os).map (AV.int .i64))))))
 | 0,i,m,cs,hi,h,hb,hg,hcl,he=>by
  have hcs:cs=bu ar os:=by
   rw[iv Z,iv (by simp[bu];omega)] at he;exact he
  rw[<- hcs,EN hg,GI,bS,O,az,ag Z]
 | j+1,i,m,cs,hi,h,hb,hg,hcl,he=>by
  have hil:i<os.length:=Z;have hwl:=ho _ (bp hil);have hvo:(os.map Int.ofNat)[i]'(by rw[bA];exact hil)=((os[i]:Nat):Int):=by rw[kf];rfl
  have ix:aE none (IA zo oo (os.map Int.ofNat)) (.I i)=some (.vptr [.I (os[i]:Nat)]):=by rw[fw (by rw[bA];exact hil),hvo]
  obtain ⟨p,na,TT,st,hFF⟩:=id h;have lda:am none m (.ptr s (0+0))=some (IA zs oS ar):=by rw[cS,st.hs];rfl
  have hl2:=bo hg;rw[GI,bS,O,az,ai hil,ix,O,cr,O,iq,O,fJ,O,lda,O,fw hwl,O,cr,O,de hil,O,EY hg Z,O,b6 Z,O]
  have e:=GJ (zo:=zo) (oo:=oo) hl ho hal x4 x5 K j (i+1) (m.set b (some (.obj false ((cs.set i ar[os[i]]).map (AV.int .i64))))) (cs.set i ar[os[i]]) Z (h.move fun y hy=>bO fun e=>hb (e▸hy)) hb (b7 rfl hl2) (by rw[ff];exact hcl) (by
   have hia:i<(bu ar os).length:=by simp[bu];exact hil
   have hge:(bu ar os)[i]=ar[os[i]]:=by simp[bu,aK,hwl]
   rw[kC (by rw[ff];omega),List.take_set_of_le (aI _),List.getElem_set_self,kC hia,he,hge])
  rw[oU] at e;exact e
def HP(os:List Nat)(ar:List Int)(l:List ND)(id:Nat)(c:Int)(L:List ND):Prop:=∃out:Nat,c=out/\GoodL (bu ar os) L/\MvO os ar (bu ar os) l L id 0 out/\uK [] L out/\L.length<=200
theorem NP{m:af}{s f b1 b2 b3 b4:Nat}{F G:List Nat}{zs zf zo:Bool}{oS oF oo:Own}{l:List ND}{id:Nat}(T:Trn os ar (bu ar os))(h1:∀x∈ar,1<=x/\x<=64)(hal:ar.length<=16)(hp:aN ar<=100)(hs:bB m s F (IA zs oS (bu ar os)) 4000 [])(hf:bB m f G (IA zf oF ar) 1073741824 l)(g:GoodL ar l)(hll:l.length<=4000)(hid:id<l.length)(hd:∀x∈F,x∉G)
  (g1:m.get b1=some (.B [.ptr s 0])) (g2:m.get b2=some (.B [.ptr f 0])) (g3:m.get b3=some (.B [.I id])) (g4:m.get b4=some (.B [IA zo oo (os.map Int.ofNat)])) :
  ∃m' F' c L,AC aa 85 [.ptr b1 0,.ptr b2 0,.ptr b3 0,.ptr b4 0] m=some (.I c,m')/\HP os ar l id c L/\bB m' s F' (IA zs oS (bu ar os)) 4000 L/\Fr m m' (F++G)/\Gr m F F':=by
 have h1':=vd T h1;have hP:=Ag (ve T);have hlen:=T.len';have f1:=Fr.app m (some (Ent.mp (.arr 2 .i64) [])) []
 have hW:Wk (bu ar os) 0<=1600:=by
  unfold Wk;rw[dk,hP,hlen,Nat.sub_zero]
  calc ar.length*aN ar<=16*100:=mP hal hp
   _=1600:=rfl
 obtain ⟨m',F',G',r,R,N,out,e,k1,k2,k3,k4,k5,k6,k7,_,_,_,k11,_,_,k14,k15,k16⟩:=NQ (s:=s) (f:=f) (pm:=m.length) (zs:=zs) (zf:=zf) (zo:=zo) (oS:=oS) (oF:=oF) (oo:=oo) T h1 h1' hal hp os.length 0 Z (m++[some (Ent.mp (.arr 2 .i64) [])]) F G l [] [] id (hs.app f1) J9 (hf.app f1) g hid (qai _ _ _ _) hd aq (by simp (disch:=first|assumption|omega|simp only[aX]<;>omega|fail) only[di,bP,bG,bO,b7]<;>rfl) (fun hh=>by have:=hs.lt _ hh;omega) (fun hh=>by have:=hf.lt _ hh;omega) Z (by rw[dk,hP,bq];omega) (by rw[bq];omega)
 refine ⟨m',F',out,R,?_,⟨out,rfl,?_,?_,?_,?_⟩,?_,Fr.trans (f1.mono aq) k14 fun y hy=>?_,fun y hy=>?_⟩
 .have e:AC aa 86 [.ptr s 0,.ptr f 0,.I id,.I 0,IA zo oo (os.map Int.ofNat),.mref (aC none m .resv).1] (aC none m (.mp (.arr 2 .i64) [])).2=_:=e;rw[Vo,kw g1,O,kw g2,O,kw g3,O,kw g4,O,e,O]
 .rw[bX] at k2;exact k2
 .rw[bX] at k6;exact ⟨hid,k6.lt,k6.top,fun b hb=>by rw[k6.val b hb,oZ g r (T.asg hb) _ hid]⟩
 .rw[bX] at k7;exact k7
 .rw[dk,hP] at k11;omega
 .rw[bX] at k1;exact k1
 .rcases cE.1 hy with rfl|hy
  .exact .inr (aI _)
  .exact .inl hy
 .rcases k15 y hy with h4|h4
  .exact .inl h4
  .simp at h4;exact .inr Z
theorem Nw{m:af}{s:Nat}{F:List Nat}{zs zo:Bool}{oS oo:Own}{l:List ND}{id:Nat}{ods:List Int}(hal:ar.length<=16)(h:bB m s F (IA zs oS ar) 4000 l)(hid:id<l.length)(hO:mF ods ar.length=false) :
  ∃m',AC aa 24 [.ptr s 0,.I id,IA zo oo ods] m=some (.tup [.nilp,.I 0,.I 1],m')/\Fr m m' []:=by
 have f2:Fr m ((m++[some (Ent.B [.I id])])++[some (Ent.B [IA zo oo ods])]) []:=(Fr.app m _ _).snoc _;have h2:=h.app f2;have e50:=oH h2 Z;have e56:=sg h2 id;rw[eT Z] at e56;have h2':=h2;obtain ⟨p,na,TT,st,hFF⟩:=h2';have lda:am none ((m++[some (Ent.B [.I id])])++[some (Ent.B [IA zo oo ods])]) (.ptr s (0+0))=some (IA zs oS ar):=by rw[cS,st.hs];rfl
 have p82:=Lv zo oo ods ar.length Z ((m++[some (Ent.B [.I id])])++[some (Ent.B [IA zo oo ods])]);rw[hO] at p82;refine ⟨_,?_,f2⟩;have bl:∀m1,cQ none none m1 (IA zo oo ods)=some (.ptr m1.length 0,m1++[some (Ent.B [IA zo oo ods])]):=fun m1=>rfl;rw[H8]
 repeat ((with_reducible first|apply bs|apply bK);(focus first|(simp (disch:=first|assumption|omega|simp only[aX]<;>omega|fail) only[bJ,beq_self_eq_true,bH,O,Sh.size,aY,bf,Nat.reduceAdd,Nat.reduceLeDiff,aI,nC,bl,e50]<;>rfl)|rfl);try dsimp only)
 rw[cD]
 repeat ((with_reducible first|apply bs|apply bK);(focus first|(simp (disch:=first|assumption|omega|simp only[aX]<;>omega|fail) only[bJ,beq_self_eq_true,bH,O,Sh.size,aY,bf,Nat.reduceAdd,Nat.reduceLeDiff,aI,e56]<;>rfl)|rfl);try dsimp only)
 rw[hZ,cD]
 repeat ((with_reducible first|apply bs|apply bK);(focus first|(simp (disch:=first|assumption|omega|simp only[aX]<;>omega|fail) only[bJ,beq_self_eq_true,bH,O,Sh.size,aY,bf,Nat.reduceAdd,Nat.reduceLeDiff,aI,iq,fJ,lda,fc,p82]<;>rfl)|rfl);try dsimp only)
 rw[ka,gJ]
theorem Nv{m:af}{s:Nat}{F:List Nat}{zs zo:Bool}{oS oo:Own}{l:List ND}{id:Nat}(T:Trn os ar (bu ar os))(h1:∀x∈ar,1<=x/\x<=64)(hal:ar.length<=16)(hp:aN ar<=100)(hz:zs=true->ar=[])(h:bB m s F (IA zs oS ar) 4000 l)(g:GoodL ar l)(hll:l.length<=4000)(hid:id<l.length)(hO:mF (os.map Int.ofNat) ar.length=true) :
  ∃m' s' F' z' o' out L,AC aa 24 [.ptr s 0,.I id,IA zo oo (os.map Int.ofNat)] m=some (.tup [.ptr s' 0,.I (out:Nat),.I 0],m')/\bB m' s' F' (IA z' o' (bu ar os)) 4000 L/\GoodL (bu ar os) L/\MvO os ar (bu ar os) l L id 0 out/\uK [] L out/\Fr m m' []/\(∀x∈F',m.length<=x)/\(z'=true->bu ar os=[])/\L.length<=200:=by
 have hol:=T.len;have hlA:(bu ar os).length=os.length:=by simp[bu]
 have hE:=Xn T h1 hal;have f2:Fr m ((m++[some (Ent.B [.I id])])++[some (Ent.B [IA zo oo (os.map Int.ofNat)])]) []:=(Fr.app m _ _).snoc _;have h2:=h.app f2;have e50:=oH h2 Z;have e56:=sg h2 id;rw[eT Z] at e56;have h2':=h2;obtain ⟨p,na,TT,st,hFF⟩:=h2';have lda:am none ((m++[some (Ent.B [.I id])])++[some (Ent.B [IA zo oo (os.map Int.ofNat)])]) (.ptr s (0+0))=some (IA zs oS ar):=by rw[cS,st.hs];rfl
 have p82:=Lv zo oo (os.map Int.ofNat) ar.length Z ((m++[some (Ent.B [.I id])])++[some (Ent.B [IA zo oo (os.map Int.ofNat)])]);rw[hO] at p82;have bl:∀m1,cQ none none m1 (IA zo oo (os.map Int.ofNat))=some (.ptr m1.length 0,m1++[some (Ent.B [IA zo oo (os.map Int.ofNat)])]):=fun m1=>rfl;have mk:=KY ((m++[some (Ent.B [.I id])])++[some (Ent.B [IA zo oo (os.map Int.ofNat)])]) os.length Z;have hFm:=h.lt;have lB:((m++[some (Ent.B [.I id])])++[some (Ent.B [IA zo oo (os.map Int.ofNat)])]).length=m.length+2:=aq;have gb3:af.get ((m++[some (Ent.B [.I id])])++[some (Ent.B [IA zo oo (os.map Int.ofNat)])]) m.length=some (Ent.B [.I id]):=by rw[bP aq,bG rfl]
 have gb4:af.get ((m++[some (Ent.B [.I id])])++[some (Ent.B [IA zo oo (os.map Int.ofNat)])]) (m.length+1)=some (Ent.B [IA zo oo (os.map Int.ofNat)]):=bG aq
 have e0:AC aa 24 [.ptr s 0,.I id,IA zo oo (os.map Int.ofNat)] m=ux (.ptr s 0) (.ptr m.length 0) (.ptr (m.length+1) 0) (.arr (m.length+2) 0 os.length none) (IA zo oo (os.map Int.ofNat)) (.I os.length) (.I 0) (((m++[some (Ent.B [.I id])])++[some (Ent.B [IA zo oo (os.map Int.ofNat)])])++[some (Ent.obj false ((jG [] os.length).map (AV.int .i64)))]) (ud (aD f24)):=by
  rw[H8]
  repeat ((with_reducible first|apply bs|apply bK);(focus first|(simp (disch:=first|assumption|omega|simp only[aX]<;>omega|fail) only[bJ,beq_self_eq_true,bH,O,Sh.size,aY,bf,Nat.reduceAdd,Nat.reduceLeDiff,aI,nC,bl,e50]<;>rfl)|rfl);try dsimp only)
  rw[cD]
  repeat ((with_reducible first|apply bs|apply bK);(focus first|(simp (disch:=first|assumption|omega|simp only[aX]<;>omega|fail) only[bJ,beq_self_eq_true,bH,O,Sh.size,aY,bf,Nat.reduceAdd,Nat.reduceLeDiff,aI,e56]<;>rfl)|rfl);try dsimp only)
  rw[hZ,cD]
  repeat ((with_reducible first|apply bs|apply bK);(focus first|(simp (disch:=first|assumption|omega|simp only[aX]<;>omega|fail) only[bJ,beq_self_eq_true,bH,O,Sh.size,aY,bf,Nat.reduceAdd,Nat.reduceLeDiff,aI,iq,fJ,lda,fc,p82]<;>rfl)|rfl);try dsimp only)
  rw[hZ,cD]
  repeat ((with_reducible first|apply bs|apply bK);(focus first|(simp (disch:=first|assumption|omega|simp only[aX]<;>omega|fail) only[bJ,beq_self_eq_true,bH,O,Sh.size,aY,bf,Nat.reduceAdd,Nat.reduceLeDiff,aI,fc,bA,mk]<;>rfl)|rfl);try dsimp only)
 generalize hmB:(m++[some (Ent.B [.I id])])++[some (Ent.B [IA zo oo (os.map Int.ofNat)])]=mB at *;have f3:Fr m (mB++[some (Ent.obj false ((jG [] os.length).map (AV.int .i64)))]) []:=f2.snoc _;have gB:af.get (mB++[some (Ent.obj false ((jG [] os.length).map (AV.int .i64)))]) (m.length+2)=some (.obj false ((jG [] os.length).map (AV.int .i64))):=bG lB.symm;have e1:=GJ (b:=m.length+2) (zo:=zo) (oo:=oo) hol T.lt hal (.ptr m.length 0) (.ptr (m.length+1) 0) (aD f24) os.length 0 _ (jG [] os.length) Z (h.app f3) (fun hh=>by have:=hFm _ hh;omega) gB (by simp[jG]) rfl;have gD:af.get ((mB++[some (Ent.obj false ((jG [] os.length).map (AV.int .i64)))]).set (m.length+2) (some (.obj false ((bu ar os).map (AV.int .i64))))) (m.length+2)=some (.obj false ((bu ar os).map (AV.int .i64))):=b7 rfl (by simp;omega);have fD:Fr mB ((mB++[some (Ent.obj false ((jG [] os.length).map (AV.int .i64)))]).set (m.length+2) (some (.obj false ((bu ar os).map (AV.int .i64))))) []:=(Fr.app mB _ _).set _ (.inr Z);have lD:((mB++[some (Ent.obj false ((jG [] os.length).map (AV.int .i64)))]).set (m.length+2) (some (.obj false ((bu ar os).map (AV.int .i64))))).length=m.length+3:=by simp;omega
 generalize (mB++[some (Ent.obj false ((jG [] os.length).map (AV.int .i64)))]).set (m.length+2) (some (.obj false ((bu ar os).map (AV.int .i64))))=mD at *;obtain ⟨m4,s',F',z',o',e32,hs',f4,hF',hz'⟩:=NB gD hE;rw[hlA] at e32;have l4:=f4.len
 have st1:aM none (aC none m4 (.B [.nilp])).2 (.ptr m4.length 0) (.ptr s' 0)=some (m4++[some (.B [.ptr s' 0])]):=by
  rw[show (aC none m4 (.B [.nilp])).2=m4++[some (.B [.nilp])] from rfl,EX (bG rfl) rfl rfl,pK m4 _ _ rfl]
 have f5:Fr mB (m4++[some (.B [.ptr s' 0])]) [m.length+2]:=(Fr.trans (fD.mono aq) f4 fun y hy=>.inl hy).snoc _;have f05:Fr m (m4++[some (.B [.ptr s' 0])]) []:=Fr.trans f2 f5 fun y hy=>.inr (by simp at hy;omega);have hs5:bB (m4++[some (.B [.ptr s' 0])]) s' F' (IA z' o' (bu ar os)) 4000 []:=hs'.app (Fr.app m4 _ _);have gx5:af.get (m4++[some (.B [.ptr s' 0])]) m4.length=some (.B [.ptr s' 0]):=bG rfl;have l5:(m4++[some (Ent.B [.ptr s' 0])]).length=m4.length+1:=aq;generalize m4++[some (Ent.B [.ptr s' 0])]=m5 at *;obtain ⟨m6,f,G,z2,o2,e83,hf,f6,hG⟩:=NO (h.app f05) g.nd hz hal Z;have l6:=f6.len
 have st2:aM none (aC none m6 (.B [.nilp])).2 (.ptr m6.length 0) (.ptr f 0)=some (m6++[some (.B [.ptr f 0])]):=by
  rw[show (aC none m6 (.B [.nilp])).2=m6++[some (.B [.nilp])] from rfl,EX (bG rfl) rfl rfl,pK m6 _ _ rfl]
 have f7:Fr m5 (m6++[some (.B [.ptr f 0])]) []:=f6.snoc _;have gy7:af.get (m6++[some (.B [.ptr f 0])]) m6.length=some (.B [.ptr f 0]):=bG rfl;have hf7:bB (m6++[some (.B [.ptr f 0])]) f G (IA z2 o2 ar) 1073741824 l:=hf.app (Fr.app m6 _ _);have l7:(m6++[some (Ent.B [.ptr f 0])]).length=m6.length+1:=aq;generalize m6++[some (Ent.B [.ptr f 0])]=m7 at *;have hs7:=hs5.app f7;have gx7:m7.get m4.length=some (.B [.ptr s' 0]):=(f7.get _ Z (by simp)).trans gx5;have f57:Fr mB m7 [m.length+2]:=Fr.trans f5 f7 fun y hy=>by cases hy
 have gb3':m7.get m.length=some (Ent.B [.I id]):=(f57.get _ Z (by simp)).trans gb3;have gb4':m7.get (m.length+1)=some (Ent.B [IA zo oo (os.map Int.ofNat)]):=(f57.get _ Z (by simp)).trans gb4;have f07:Fr m m7 []:=Fr.trans f05 f7 fun y hy=>by cases hy
 have hF4:∀x∈F',x<m4.length:=hs'.lt;have hG6:∀x∈G,x<m6.length:=hf.lt;obtain ⟨m8,F8,c,L,e84,⟨out,rfl,q1,q2,q3,q4⟩,k1,k2,k3⟩:=NE (g:=85) (caps:=[.ptr m4.length 0,.ptr m6.length 0,.ptr m.length 0,.ptr (m.length+1) 0]) (G:=G) (Q:=HP os ar l id) hs7 hf7.lt rfl rfl rfl (fun m1 fr=>NP T h1 hal hp (hs7.app fr) (hf7.app fr) g hll hid (fun y hy hg=>by have:=hF4 y hy;have:=hG y hg;omega) ((fr.get _ Z (by simp)).trans gx7) ((fr.get _ Z (by simp)).trans gy7) ((fr.get _ Z (by simp)).trans gb3') ((fr.get _ Z (by simp)).trans gb4'))
 have gx8:m8.get m4.length=some (.B [.ptr s' 0]):=(k2.get _ Z (fun hh=>by
  rcases cI.1 hh with hh|hh
  .have:=hF4 _ hh;omega
  .have:=hG _ hh;omega)).trans gx7
 refine ⟨m8,s',F8,z',o',out,L,?_,k1,q1,q2,q3,Fr.trans f07 k2 fun y hy=>.inr ?_,fun y hy=>?_,hz',q4⟩
 .have lx7:=kw gx7;have lx8:=kw gx8;refine e0.trans (Eq.trans (show _=_ from e1) ?_);rw[Ru,e32,O,kq,O,kr,O];rw[show (aC none m4 Ent.resv).1=m4.length from rfl,st1,O,e83,O];dsimp only;rw[show (aC none m6 Ent.resv).1=m6.length from rfl,st2,O,lx7,O,e84,O,kq,O,kr,O,gt,O,az,ag Z,lx8,O]
 .rcases cI.1 hy with hh|hh
  .have:=hF' _ hh;omega
  .have:=hG _ hh;omega
 .rcases k3 y hy with hh|hh
  .have:=hF' _ hh;omega
  .omega
end
end Go.Ab
namespace Go.Ab
open Go.Proofs Go.Proofs.Tryz
theorem qax(z1 z2:Bool)(o1 o2:Own)(a b:List Int):Fz (.tup [IA z1 o1 a,IA z2 o2 b]) (.tup [IA z1 o1.fr a,IA z2 o2.fr b]):=fun m=>by cases o1<;>cases o2<;>rfl
section
variable {ar:List Int} {os:List Nat}
theorem IN{ar':List Int}(T:Trn os ar ar')(hal:ar.length<=16){b:List Int}(hb:b.length=os.length){nm:Nat}(x0 x1 x8 x9 x32 x33 x34:AV){zo:Bool}{oo:Own}(K:KT):∀(j i:Nat) (m:af) (cs:List Int),i+j=os.length->m.get nm=some (.obj false (cs.map (AV.int .i64)))->cs.length=ar.length->(∀q (h:q<os.length),q<i->cs.getD os[q] 0=b.getD q 0) ->
  ∃cs':List Int,cs'.length=ar.length/\(∀q (h:q<os.length),cs'.getD os[q] 0=b.getD q 0)/\xP x0 x1 (IA zo oo (os.map Int.ofNat)) x8 x9 (IA false .no b) (.arr nm 0 ar.length none) x32 x33 x34 (IA zo oo (os.map Int.ofNat)) (.I os.length) (.I i) m K=K (.exit 4) (Cg x0 x1 (IA zo oo (os.map Int.ofNat)) x8 x9 (.arr nm 0 ar.length none) x32 x33 x34 (m.set nm (some (.obj false (cs'.map (AV.int .i64))))))
 | 0,i,m,cs,hi,hg,hc,he=>by
  refine ⟨cs,hc,fun q h=>he q h Z,?_⟩;rw[EN hg,GL,bS,O,az,ag Z]
 | j+1,i,m,cs,hi,hg,hc,he=>by
  have hil:i<os.length:=Z;have hol:=T.len;have hwl:=T.lt _ (bp hil);have hvo:(os.map Int.ofNat)[i]'(by rw[bA];exact hil)=((os[i]:Nat):Int):=by rw[kf];rfl
  have ix:aE none (IA zo oo (os.map Int.ofNat)) (.I i)=some (.vptr [.I (os[i]:Nat)]):=by rw[fw (by rw[bA];exact hil),hvo]
  have hib:i<b.length:=Z
  obtain ⟨cs',h1,h2,e⟩:=IN T hal hb x0 x1 x8 x9 x32 x33 x34 K (zo:=zo) (oo:=oo) j (i+1) (m.set nm (some (.obj false ((cs.set os[i] b[i]).map (AV.int .i64))))) (cs.set os[i] b[i]) Z (b7 rfl (bo hg)) (by rw[ff];exact hc) (fun q h hq=>by
   by_cases hqi:q=i
   .subst hqi;rw[aK,pV Z,bQ,rx hib]
   .have hne:os[q]≠os[i]:=fun e=>hqi (rN T.nd h hil e);rw[aK,qU (fun e=>hne e.symm),<- aK]
    exact he q h Z)
  refine ⟨cs',h1,h2,?_⟩;rw[oU] at e;rw[GL,bS,O,az,ai hil,ix,O,cr,O,fw hib,O,cr,O,de hwl,O,EY hg Z,O,b6 Z,O];exact e
theorem IO(T:Trn os ar (bu ar os))(h1:∀x∈ar,1<=x/\x<=64)(hal:ar.length<=16)(hp:aN ar<=300){t:List Int}(ht:t.length=aN ar){css:List (List Int)}(hA:Alls (bu ar os) css)(x8:AV){z0 z1 zo zc:Bool}{o0 o1 oo oc:Own}:∀(j k:Nat) (m:af) (x9:AV) (tts:List Int) (Tx:List Nat),k+j=css.length->GR 3 m x9 (tts.map (AV.int .i64)) Tx->tts.length=k->(∀q,q<k->tts.getD q 0=t.getD (dd ar 0 (iO os (gd (css.getD q [])))) 0) ->
  ∃(m':af) (x9':AV) (tt:List Int) (T':List Nat),xQ (IA z0 o0 ar) (IA z1 o1 t) (IA zo oo (os.map Int.ofNat)) x8 x9 (.lst none zc oc (css.map (IA false .no))) (.I css.length) (.I k) m (wY (aD f26))=some (.tup [x8,x9'],m')/\GR 3 m' x9' (tt.map (AV.int .i64)) T'/\tt.length=css.length/\∀q,q<css.length->tt.getD q 0=t.getD (dd ar 0 (iO os (gd (css.getD q [])))) 0
 | 0,k,m,x9,tts,Tx,hk,hx,hl,hv=>by
  refine ⟨m,x9,tts,Tx,?_,hx,Z,fun q hq=>hv q Z⟩;rw[GN,bS,O,az,ag Z,RI]
 | j+1,k,m,x9,tts,Tx,hk,hx,hl,hv=>by
  have hkl:k<css.length:=Z;have hol:=T.len;have hlA:(bu ar os).length=os.length:=by simp[bu]
  have hcp:css.length=aN ar:=by rw[hA.len,Ag (ve T)]
  have A:=hA.row k hkl;have hbl:css[k].length=os.length:=by rw[A.len,hlA]
  have ix:aE none (.lst none zc oc (css.map (IA false .no))) (.I k)=some (.vptr [IA false .no css[k]]):=by
   rw[Ki (by rw[bA];exact hkl),kf];rfl
  have mk:=KY m ar.length Z;have gm:af.get (m++[some (Ent.obj false ((jG [] ar.length).map (AV.int .i64)))]) m.length=some (.obj false ((jG [] ar.length).map (AV.int .i64))):=bG rfl;obtain ⟨cs,c1,c2,e12⟩:=IN T hal hbl (IA z0 o0 ar) (IA z1 o1 t) x8 x9 (.lst none zc oc (css.map (IA false .no))) (.I css.length) (.I k) (zo:=zo) (oo:=oo) (Bt (wY (aD f26))) os.length 0 _ (jG [] ar.length) Z gm (by simp[jG]) (fun q h hq=>Z)
  have hcs:∀v,v<ar.length->0<=cs.getD v 0/\cs.getD v 0<ar.getD v 0:=fun v hv=>by
   obtain ⟨q,hq,e⟩:=ig (T.mem hv);rw[<- e,c2 q hq,<- T.arm q hq];exact A.bd q Z
  have gm2:af.get ((m++[some (Ent.obj false ((jG [] ar.length).map (AV.int .i64)))]).set m.length (some (.obj false (cs.map (AV.int .i64))))) m.length=some (.obj false (cs.map (AV.int .i64))):=b7 rfl aq;have p87:=qch z0 o0 h1 hal hp c1 hcs gm2
  have hasg:∀w,w<ar.length->gd cs w=iO os (gd css[k]) w:=fun w hw=>by
   obtain ⟨q,hq,e⟩:=ig (T.mem hw);unfold iO gd;rw[<- e,c2 q hq,Dy T.nd hq]
  have hidx:dd ar 0 (gd cs)=dd ar 0 (iO os (gd css[k])):=by
   have:=Dz hasg ar.length 0 Z
   rwa [dk] at this
  have hil:dd ar 0 (iO os (gd css[k]))<t.length:=by
   have:=om (T.asg A.asg) ar.length 0 Z;rw[dk] at this;rw[ht];exact this
  rw[hidx] at p87;have f3:Fr m ((((m++[some (Ent.obj false ((jG [] ar.length).map (AV.int .i64)))]).set m.length (some (.obj false (cs.map (AV.int .i64))))).set m.length none)) []:=(((Fr.app m _ _).set _ (.inr (aI _))).set _ (.inr (aI _)));generalize ((m++[some (Ent.obj false ((jG [] ar.length).map (AV.int .i64)))]).set m.length (some (.obj false (cs.map (AV.int .i64))))).set m.length none=m3 at p87 f3;have g3:GR 3 m3 x9 (tts.map (AV.int .i64)) Tx:=qo hx fun y hy=>f3.get y (mq hx y hy) aq;obtain ⟨x2,m4,T2,ea,g4,f4,gg4⟩:=nF (b:=8) g3 (by simp;omega) Z (.I t[dd ar 0 (iO os (gd css[k]))])
  obtain ⟨m',x9',tt,T',e,k1,k2,k3⟩:=IO T h1 hal hp ht hA x8 (z0:=z0) (z1:=z1) (zo:=zo) (zc:=zc) (o0:=o0) (o1:=o1) (oo:=oo) (oc:=oc) j (k+1) m4 x2 (tts++[t[dd ar 0 (iO os (gd css[k]))]]) T2 Z (by rw[gW];exact g4) (by simp[hl]) (fun q hq=>by
   by_cases hqk:q<k
   .rw[aK,kS Z,<- aK];exact hv q hqk
   .have:q=tts.length:=Z;subst this;have ek:css.getD tts.length []=css[k]:=by simp only[<- hl];exact JF Z
    rw[aK,ma (aI _),jQ,ek,rx hil];rfl)
  refine ⟨m',x9',tt,T',?_,k1,k2,k3⟩;rw[GN,bS,O,az,ai hkl,ix,O,cr,O,fc,O,mk,O,fc,bA,O];dsimp only;rw[show (AV.I 0)=.I ((0:Nat):Int) from rfl,e12,RC,p87,O,fw hil,O,cr,O,kX,O,ea,O,b6 Z,O];exact e
theorem IM(T:Trn os ar (bu ar os))(hal:ar.length<=16)(x1:AV){z0 zo:Bool}{o0 oo:Own}(K:KT):∀(j i:Nat) (m:af) (x8:AV) (Tx:List Nat),i+j=os.length->GR 3 m x8 (((bu ar os).take i).map (AV.int .i64)) Tx ->
  ∃(m':af) (x8':AV) (T':List Nat),uy (IA z0 o0 ar) x1 (IA zo oo (os.map Int.ofNat)) x8 aw (IA zo oo (os.map Int.ofNat)) (.I os.length) (.I i) m K=K (.exit 0) (Ch (IA z0 o0 ar) x1 (IA zo oo (os.map Int.ofNat)) x8' aw m')/\GR 3 m' x8' ((bu ar os).map (AV.int .i64)) T'
 | 0,i,m,x8,Tx,hi,hx=>by
  rw[iv (by simp[bu];omega)] at hx;refine ⟨m,x8,Tx,?_,hx⟩;rw[GM,bS,O,az,ag Z]
 | j+1,i,m,x8,Tx,hi,hx=>by
  have hil:i<os.length:=Z;have hol:=T.len;have hwl:=T.lt _ (bp hil);have hvo:(os.map Int.ofNat)[i]'(by rw[bA];exact hil)=((os[i]:Nat):Int):=by rw[kf];rfl
  have ix:aE none (IA zo oo (os.map Int.ofNat)) (.I i)=some (.vptr [.I (os[i]:Nat)]):=by rw[fw (by rw[bA];exact hil),hvo]
  have hia:i<(bu ar os).length:=by simp[bu];exact hil
  have hge:(bu ar os)[i]=ar[os[i]]:=by simp[bu,aK,hwl]
  obtain ⟨x2,m2,T2,ea,g2,f2,gg2⟩:=nF (b:=8) hx (by simp;omega) Z (.I ar[os[i]]);obtain ⟨m',x8',T',e,k⟩:=IM T hal x1 (z0:=z0) (o0:=o0) (zo:=zo) (oo:=oo) K j (i+1) m2 x2 T2 Z (by rw[kC hia,gW,hge];exact g2);refine ⟨m',x8',T',?_,k⟩;rw[GM,bS,O,az,ai hil,ix,O,cr,O,fw hwl,O,cr,O,kX,O,ea,O,b6 Z,O];exact e
theorem VU(T:Trn os ar (bu ar os))(h1:∀x∈ar,1<=x/\x<=64)(hal:ar.length<=16)(hp:aN ar<=300){t:List Int}(ht:t.length=aN ar)(z0 z1 zo:Bool)(o0 o1 oo:Own) :
  ∃z2 z3 o2 o3 tt,AP aa 26 [IA z0 o0 ar,IA z1 o1 t,IA zo oo (os.map Int.ofNat)]=some (.tup [IA z2 o2 (bu ar os),IA z3 o3 tt])/\tt.length=aN (bu ar os)/\(∀b,cO (bu ar os) b->tt.getD (dd (bu ar os) 0 b) 0=t.getD (dd ar 0 (iO os b)) 0):=by
 have h1':=vd T h1;have hP:=Ag (ve T);have hlA:(bu ar os).length=os.length:=by simp[bu]
 have hol:=T.len;obtain ⟨m1,x8,T8,e3,g8⟩:=IM T hal (IA z1 o1 t) (z0:=z0) (o0:=o0) (zo:=zo) (oo:=oo) (wX (aD f26)) os.length 0 [] aw [] Z (by rw[List.take_zero];exact .none);obtain ⟨z2,o2,rfl,_⟩:=qp g8;obtain ⟨zc,oc,css,e54,hcl,hcr⟩:=qcg z2 o2 (bu ar os) h1' Z Z m1;have hA:Alls (bu ar os) css:=⟨hcl,hcr⟩;obtain ⟨m',x9,tt,T',e8,g9,htl,htv⟩:=IO T h1 hal hp ht hA (IA z2 o2 (bu ar os)) (z0:=z0) (z1:=z1) (zo:=zo) (zc:=zc) (o0:=o0) (o1:=o1) (oo:=oo) (oc:=oc) css.length 0 m1 aw [] [] Z .none rfl (fun q hq=>Z);obtain ⟨z3,o3,rfl,_⟩:=qp g9
 refine ⟨z2,z3,o2.fr,o3.fr,tt,?_,Z,fun b hb=>?_⟩
 .have e:AC aa 26 [IA z0 o0 ar,IA z1 o1 t,IA zo oo (os.map Int.ofNat)] []=some (.tup [IA z2 o2 (bu ar os),IA z3 o3 tt],m'):=by
   have e3:uy (IA z0 o0 ar) (IA z1 o1 t) (IA zo oo (os.map Int.ofNat)) aw aw (IA zo oo (os.map Int.ofNat)) (.I os.length) (.I 0) [] (wX (aD f26))=_:=e3;have e54:aF (AP aa) none m1 54 [AV.lst none z2 o2 ((bu ar os).map (AV.int .i64))]=_:=e54;rw[UW,fc,bA,O,e3,RF,e54,O,show aL false (.lst none zc oc (css.map (IA false .no)))=some (.I css.length) from by rw[jX,bA],O];exact e8
  exact fH e (qax z2 z3 o2 o3 (bu ar os) tt m') rfl
 .have hlt:=om hb (bu ar os).length 0 Z;rw[dk] at hlt;have hlt2:dd (bu ar os) 0 b<css.length:=Z;rw[htv _ hlt2,JF hlt2];have hR:=hcr _ hlt2
  have hag:∀w,w<(bu ar os).length->gd css[dd (bu ar os) 0 b] w=b w:=fun w hw=>by
   refine Kk h1' hR.asg hb (bu ar os).length 0 Z ?_ w (jd _) hw;rw[dk,hR.idx]
  congr 1
  have:=Dz (ar:=ar) (a:=iO os (gd css[dd (bu ar os) 0 b])) (b:=iO os b) (fun w hw=>by
   unfold iO;refine hag _ ?_;rw[hlA]
   exact List.idxOf_lt_length_of_mem (T.mem hw)) ar.length 0 Z
  rwa [dk] at this
end
end Go.Ab
namespace Go.Ab
open Go.Proofs Go.Proofs.Tryz
def lS(os:List Nat)(L:OL):List (List Int):=os.map fun w=>(L.es.map Pq.IL.ns).getD w []
section
variable {ar:List Int} {os:List Nat} {L:OL}
theorem JQ(hL:LawOdds ar L){w:Nat}(hw:w<L.es.length):L.es[w]=iN ((L.es.map Pq.IL.ns).getD w []):=by
 rw[aK,pU,bn hw];exact hL.rw _ (bp hw)
theorem Zx(ns:List Int):cq none [(iN ns).av]=some (.lst none false .full [(iN ns).av]):=by
 have e:jo (iN ns).av=(iN ns).av:=rfl;unfold cq;simp only[lW,List.all_nil,cU,mc,e]
 rfl
theorem GV(T:Trn os ar (bu ar os))(hal:ar.length<=16)(hL:LawOdds ar L){z:Bool}{o:Own}(x10 x11 x13 x14:AV)(K:KT):∀(j i:Nat) (m:af) (x:AV) (Tx:List Nat),i+j=os.length->GR 22 m x (((lS os L).take i).map fun r=>(iN r).av) Tx ->
  ∃(m':af) (x':AV) (T':List Nat),uA x10 x11 x13 x14 L.av x (IA z o (os.map Int.ofNat)) (.I os.length) (.I i) m K=K (.exit 0) (Cj x10 x11 x13 x14 L.av x' m')/\GR 22 m' x' ((lS os L).map fun r=>(iN r).av) T'/\Fr m m' Tx
 | 0,i,m,x,Tx,hi,hx=>by
  rw[iv (by simp[lS];omega)] at hx;refine ⟨m,x,Tx,?_,hx,Fr.refl _ _⟩;rw[GT,bS,O,az,ag Z]
 | j+1,i,m,x,Tx,hi,hx=>by
  have hil:i<os.length:=Z;have hol:=T.len;have hwl:=T.lt _ (bp hil);have hwe:os[i]<L.es.length:=by rw[hL.len];exact hwl
  have hvo:(os.map Int.ofNat)[i]'(by rw[bA];exact hil)=((os[i]:Nat):Int):=by rw[kf];rfl
  have ix:aE none (IA z o (os.map Int.ofNat)) (.I i)=some (.vptr [.I (os[i]:Nat)]):=by rw[fw (by rw[bA];exact hil),hvo]
  have ixL:aE none L.av (.I (os[i]:Nat))=some (.vptr [(iN ((L.es.map Pq.IL.ns).getD os[i] [])).av]):=by
   rw[show L.av=.lst none L.z L.o (L.es.map Pq.IL.av) from rfl,Ki (by rw[bA];exact hwe),kf,JQ hL hwe];rfl
  have hia:i<(lS os L).length:=by simp[lS];exact hil
  have hge:(lS os L)[i]=(L.es.map Pq.IL.ns).getD os[i] []:=by simp[lS]
  obtain ⟨x2,m2,T2,ea,g2,f2,gg2⟩:=nF (b:=24) hx (by simp;omega) Z (iN ((L.es.map Pq.IL.ns).getD os[i] [])).av;obtain ⟨m',x',T',e,k1,k2⟩:=GV T hal hL (z:=z) (o:=o) x10 x11 x13 x14 K j (i+1) m2 x2 T2 Z (by rw[kC hia,gW,hge];exact g2);refine ⟨m',x',T',?_,k1,Fr.trans f2 k2 fun y hy=>gg2 y hy⟩;rw[GT,bS,O,az,ai hil,ix,O,cr,O,ixL,O,cr,O,Zx,O,ea,O,b6 Z,O];exact e
def mK(z:Bool)(o:Own)(os:List Nat)(L:OL):OL:=⟨z,o,(lS os L).map iN⟩
theorem qdU(T:Trn os ar (bu ar os))(hL:LawOdds ar L)(z:Bool)(o:Own):∀i (h:i<os.length),cm (mK z o os L) i=cm L os[i]:=fun i h=>by
 have hwl:=T.lt _ (bp h);have hwe:os[i]<L.es.length:=by rw[hL.len];exact hwl
 have hi:i<(mK z o os L).es.length:=by simp[mK,lS];exact h
 funext j;rw[Ao hi,Ao hwe]
 have:(mK z o os L).es[i].ns=L.es[os[i]].ns:=by
  simp[mK,lS,iN,aK,hwe]
 rw[this]
theorem qdT(T:Trn os ar (bu ar os))(hL:LawOdds ar L)(hO:OddsOk ar L)(z:Bool)(o:Own):OddsOk (bu ar os) (mK z o os L):=by
 refine ⟨by simp[mK,lS,bu],fun u hu=>?_⟩;have hul:u<os.length:=by simpa [mK,lS] using hu
 have hwl:=T.lt _ (bp hul);have hwe:os[u]<L.es.length:=by rw[hL.len];exact hwl
 have e:(mK z o os L).es[u]=L.es[os[u]]:=by
  rw[JQ hL hwe];simp[mK,lS]
 rw[e,T.arm u hul];exact hO.row _ hwe
end
theorem WW{M:Nat}{D1 D2:List (Int×RV)}{x1 x2:AV}(r1:p9 x1 D1)(r2:p9 x2 D2)(hD:D1.map Prod.fst=D2.map Prod.fst)(hl:D1.length<=1000){H:Int->Nat}(w1:∀p∈D1,WV M p.2 (H p.1))(w2:∀p∈D2,WV M p.2 (H p.1))(m:af)(K:KT):∀(j i:Nat),i+j=D1.length ->
  uC x1 x2 (.I D1.length) (.I i) m K=K (.exit 2) (Ck m):=by
 have hl2:D2.length=D1.length:=by have:=cA List.length hD;simpa using this.symm
 intro j
 induction j with
 | zero=>
  intro i hi;rw[GU,bg,O,az,ag Z]
 | succ j ih=>
  intro i hi;have hi1:i<D1.length:=Z;have hi2:i<D2.length:=Z
  have hk:D1[i].1=D2[i].1:=by
   have h1:(D1.map Prod.fst)[i]'(by simpa using hi1)=(D2.map Prod.fst)[i]'(by simpa using hi2):=by
    simp only[hD]
   simpa using h1
  have v1:=w1 _ (bp hi1);have v2:=w2 _ (bp hi2);rw[<- hk] at v2
  have p21:aF (AP aa) (some m.length) m 21 [D1[i].2.av,D2[i].2.av]=some (.bool true,m):=by
   rw[eC (gQ _) (gQ _),v1.fr,v2.fr,VR v1.ok v2.ok Z Z,eT (v1.q.trans v2.q.symm)];rfl
  have f0:∀a b c d:AV,aR 0 (.vptr [a,b,c,d])=some (.vptr [a,b,c,d]):=fun _ _ _ _=>rfl;have f1:∀a b c d:AV,aR 1 (.vptr [a,b,c,d])=some (.vptr [b,c,d]):=fun _ _ _ _=>rfl;have l0:∀(m:af) (a b c d:AV),am none m (.vptr [a,b,c,d])=some a:=fun _ _ _ _ _=>rfl;have l1:∀(m:af) (r:RV),am (some 3) m (.vptr [.bool r.neg,r.num.av,r.den.av])=some r.av:=fun _ _=>rfl;rw[GU,bg,O,az,ai Z,r1.idx hi1,O,f0,O,l0,O,r2.idx hi2,O,f0,O,l0,O,gt,O,az,ag (by rw[hk];simp),O,f1,O,l1,O,O,f1,O,l1,O,p21,O];dsimp only;rw[kO,O,hZ,cD,b6 Z,O];exact ih (i+1) Z
theorem KF{r:List Int}{l1:List ND}{id1:Nat}(g1:GoodL r l1)(h1:∀x∈r,1<=x)(hid:id1<l1.length)(x:Int):x∈iK l1 id1↔∃y,cO r y/\S l1 y id1=x:=by
 obtain ⟨cc1,_,_⟩:=kV g1 id1 hid [] lL;rw[AH,MY cc1.lt,<- KE g1 h1 hid]
 constructor
 .rintro ⟨j,hj,hjl,hk,rfl⟩;exact ⟨j,hj,hjl,by simpa using hk,rfl⟩
 .rintro ⟨j,hj,hjl,hk,rfl⟩;exact ⟨j,hj,hjl,by simpa using hk,rfl⟩
theorem qbb{ar:List Int}{os:List Nat}{l L:List ND}{id out:Nat}(T:Trn os ar (bu ar os))(h1:∀x∈ar,1<=x/\x<=64)(g:GoodL ar l)(gL:GoodL (bu ar os) L)(M:MvO os ar (bu ar os) l L id 0 out):iK l id=iK L out:=by
 have h1x:∀x∈ar,1<=x:=fun x hx=>(h1 x hx).1;have h1x':∀x∈bu ar os,1<=x:=fun x hx=>(vd T h1 x hx).1;refine Mj (E9 _) (E9 _) fun x=>?_;have a1:=KF g h1x M.lo x;have a2:=KF gL h1x' M.lt x
 refine a1.trans (Iff.trans ⟨?_,?_⟩ a2.symm)
 .rintro ⟨y,hy,rfl⟩
  have hb:cO (bu ar os) fun i=>y (os.getD i 0):=fun i hi=>by
   have hio:i<os.length:=by simpa [bu] using hi
   rw[T.arm i hio];show (y (os.getD i 0):Int)<_;rw[aK,bn hio,bQ];exact hy _ (T.lt _ (bp hio))
  refine ⟨_,hb,?_⟩;rw[M.val _ hb];refine HZ g (T.asg hb) hy id M.lo fun w _ hw=>?_;unfold iO;have h2:=List.idxOf_lt_length_of_mem (T.mem hw);show y (os.getD (os.idxOf w) 0)=y w;rw[aK,bn h2,bQ,List.getElem_idxOf h2]
 .rintro ⟨b,hb,rfl⟩;exact ⟨iO os b,T.asg hb,(M.val b hb).symm⟩
theorem N7(z zl zg zo:Bool)(ar l gv ods:List Int):∃m',AC aa 4 [IA z .no ar,IA zl .no l,IA zg .no gv,IA zo .no ods] []=some (.bool true,m'):=by
 obtain ⟨o',r,e11,hg,hr17,ho'⟩:=VA z .no ar
 have p10:∀m,aF (AP aa) none m 10 [IA z .no ar]=some (IA false o' r,m):=fun m=>by
  rw[b8 (gX z .no ar),show (Own.no).fr=Own.no from rfl,e11];rfl
 rw[T4,p10,O,LE,O,gt,O,az]
 by_cases he:jE r=0
 .rw[ag (by simpa using he)];obtain ⟨h1,h2⟩:=re he;obtain ⟨hN,hN2⟩:=qac hg he;have h2':∀x∈r,1<=x:=fun x hx=>(h2 x hx).1;dsimp only;rw[tz false o' r h1 h2 100 Z,O,ik,O,az]
  by_cases h100:i7 100 1 r=0
  .rw[ai h100,vU,O];exact ⟨_,rfl⟩
  rw[ag h100]
  have hp100:aN r<=100:=by
   have:=(Ey r 1 h2' Z Z h100).2;omega
  obtain ⟨zt,ot,t,e14,_,htl,htb⟩:=pcT false zl o' .no r l h1 h2 hN hN2 [];obtain ⟨m1,s,F,zs,oS,l1,id1,e29,st1,g1,tab1,hl1,f1,_,hzs⟩:=Ny (za:=false) (z:=zt) (oa:=o') (o:=ot) (ar:=r) (t:=t) [] (fun h=>by cases h) he hN2 htl htb;have hid:=tab1.lt;have hll:l1.length<=100000:=Z;have p25:=fun m=>qb8 zo .no ods r.length Z m;dsimp only;rw[e14,O,e29,O,show aT (.tup [.ptr s 0,.I (id1:Nat),.bool true]) 0=some (.ptr s 0) from rfl,O,show aT (.tup [.ptr s 0,.I (id1:Nat),.bool true]) 1=some (.I (id1:Nat)) from rfl,O,show aT (.tup [.ptr s 0,.I (id1:Nat),.bool true]) 2=some (.bool true) from rfl,O,kO,O,hZ,cD];dsimp only;have x0:∀a b c:AV,aT (.tup [a,b,c]) 0=some a:=fun _ _ _=>rfl;have x1:∀a b c:AV,aT (.tup [a,b,c]) 1=some b:=fun _ _ _=>rfl;have x2:∀a b c:AV,aT (.tup [a,b,c]) 2=some c:=fun _ _ _=>rfl
  cases hO:mF ods r.length with
  | false=>
   obtain ⟨m2,e24,f2⟩:=Nw (zo:=zo) (oo:=.no) h1 st1 hid hO;rw[e24,O,x0,O,x1,O,x2,O,fc,O,p25,hO,O];dsimp only;rw[kO,O,ka,gJ,show ae .o .eql (.I 1) (.I 1)=some (.bool true) from rfl,O,gJ,show ae .pt .eql .nilp .nilp=some (.bool true) from rfl,O,gJ,vU,O];exact ⟨_,rfl⟩
  | true=>
   obtain ⟨os,rfl,hol,hnd,hlt⟩:=qb5 hO;have T:=qdR hol hnd hlt;have h2T:=vd T h2;have h2Tx:∀x∈bu r os,1<=x:=fun x hx=>(h2T x hx).1;have hPT:=Ag (ve T);have hlT:(bu r os).length=r.length:=T.len';obtain ⟨m2,s',F',z',oS',out,LL,e24,st2,gL,M,nR,f2,hF',hz',hl200⟩:=Nv (zo:=zo) (oo:=.no) T h2 h1 hp100 hzs st1 g1 Z hid hO;obtain ⟨z2,z3,o2,o3,tt,e26,httl,httv⟩:=VU T h2 h1 hN2 htl false zt zo o'.fr ot.fr .no
   have p26:∀m,aF (AP aa) none m 26 [IA false o' r,IA zt ot t,IA zo .no (os.map Int.ofNat)]=some (.tup [IA z2 o2 (bu r os),IA z3 o3 tt],m):=fun m=>by
    rw[vW (gX false o' r) (gX zt ot t) (gX zo .no _),show (Own.no).fr=Own.no from rfl,e26];rfl
   have tabL:TabV (bu r os) LL out 0 tt:=by
    refine ⟨by rw[dk];exact httl,M.lt,fun hh=>by have:=M.top;rw[mf hh] at this;exact this,fun b hb=>?_⟩;rw[M.val b hb,tab1.val _ (T.asg hb),dk,dk];exact (httv b hb).symm
   have st2':=st2;obtain ⟨p,na,TT,sa,hFF⟩:=st2';have e50:=oH st2 Z;have lda:am none m2 (.ptr s' (0+0))=some (IA z' oS' (bu r os)):=by rw[cS,sa.hs];rfl
   obtain ⟨z4,o4,ec,_,_⟩:=y9 z' (bu r os) hz';have c49:aF (AP aa) none m2 88 [IA z' oS' (bu r os)]=some (IA z4 o4 (bu r os),m2):=by rw[vV z' oS' (bu r os) Z m2,ec]
   have e28:AC aa 28 [.ptr s' 0] m2=some (IA z4 o4 (bu r os),m2):=by
    rw[UY,e50,O,cD,iq,O,fJ,O,lda,O,c49,O]
   have p27:aF (AP aa) none m2 27 [IA z4 o4 (bu r os),IA z2 o2 (bu r os)]=some (.bool true,m2):=by
    rw[qcf z4 z2 o4 o2 _ _ Z m2,eT rfl]
   obtain ⟨m3,e29',f3⟩:=NC st2 gL h2T Z Z Z Z tabL z2 z3 o2 o3;have st3:=st2.app f3;have e30:=Nt st3 Z
   have p31:∀m,aF (AP aa) none m 31 [IA z2 o2 (bu r os),IA z3 o3 tt]=some (NL false .no (fR LL (Vi LL out [])),m):=fun m=>by
    rw[eC (gX z2 o2 _) (gX z3 o3 tt),Iu gL h2T Z Z Z tabL];rfl
   have hcnt:aL false (NL false .no (fR LL (Vi LL out [])))=some (.I LL.length):=by
    rw[jX,bA];unfold fR;rw[bA,Xc gL M.lt nR]
   obtain ⟨OD,e16,hL⟩:=VJ false zg o'.fr .no h2 h1 gv
   have p16:∀m,aF (AP aa) none m 16 [IA false o' r,IA zg .no gv]=some (OD.av,m):=fun m=>by
    rw[eC (gX false o' r) (gX zg .no gv),show (Own.no).fr=Own.no from rfl,e16];rfl
   have h64:=hL.h64 h2;have h40:OD.es.length<=40:=by rw[hL.len];omega
   have p18:∀m,aF (AP aa) none m 18 [IA false o' r,OD.av]=some (.bool (Pq.oddsB ⟨zs,oS,r⟩ OD),m):=fun m=>by
    rw[eC (gX false o' r) (Pq.fz_ol OD),hL.fr];have:=Pq.V18 ⟨false,o'.fr,r⟩ OD h64 h40;have e:AP aa 18 [IA false o'.fr r,OD.av]=some (.bool (Pq.oddsB ⟨zs,oS,r⟩ OD)):=this;rw[e];rfl
   rw[e24,O,x0,O,x1,O,x2,O,fc,O,p25,hO,O];dsimp only;rw[kO,O,hZ,cD,p26,O];dsimp only;rw[kq,O,kr,O,show ae .o .neq (.I 0) (.I 0)=some (.bool false) from rfl,O,cD,e28,O];dsimp only;rw[p27,O];dsimp only;rw[kO,O,hZ,cD,e29',O];dsimp only;rw[kO,O,hZ,cD,e30,O];dsimp only;rw[p31,O];dsimp only;rw[hcnt,O,gt,O,az,ag Z,p16,O];dsimp only;rw[p18,O];dsimp only;rw[kO,O]
   cases hQ:Pq.oddsB ⟨zs,oS,r⟩ OD with
   | false=>
    rw[ka,gJ,vU,O];exact ⟨_,rfl⟩
   | true=>
    have hok:=Lm h64 hQ;obtain ⟨m4,xT,TxT,e19,gT,fr4⟩:=GV T h1 hL (z:=zo) (o:=.no) (.ptr s 0) (.I (id1:Nat)) (.ptr s' 0) (.I (out:Nat)) (w0 (aD f4)) os.length 0 m3 aw [] Z (by rw[List.take_zero];exact .none);obtain ⟨zT,oT,rfl,_⟩:=qp gT
    have hTav:AV.lst none zT oT ((lS os OD).map fun r=>(iN r).av)=(mK zT oT os OD).av:=by
     unfold mK Pq.OL.av;rw[pX];rfl
    rw[hTav] at e19;have hokT:=qdT T hL hok zT oT;have hsT:=qdU T hL zT oT
    have h64T:∀q∈(mK zT oT os OD).es,q.ns.length<=64:=fun q hq=>by
     obtain ⟨u,hu,rfl⟩:=ig hq;exact (hokT.row u hu).1.1
    have f04:Fr m1 m4 []:=Fr.trans (Fr.trans f2 f3 fun _ h=>by cases h) fr4 fun _ h=>by cases h
    obtain ⟨m5,y1,En1,T1,e17,f5,q1,_,w1⟩:=I1 (st1.app f04) Z g1 hll h2 h1 hid h64 h40 hQ;have f35:Fr m3 m5 []:=Fr.trans fr4 f5 fun _ h=>by cases h
    obtain ⟨m6,y2,En2,T2,e17',f6,q2,_,w2⟩:=I1 (st3.app f35) Z gL Z h2T Z M.lt h64T (by rw[hokT.len];omega) (qbS (zs:=z') (os:=oS') h64T hokT);have hPM:=TO (s:=cm OD) T hsT;obtain ⟨D1,hD1⟩:∃D1:List (Int×RV),D1=(iK l1 id1).map fun c=>(c,(lk En1 c).getD zR):=⟨_,rfl⟩;obtain ⟨D2,hD2⟩:∃D2:List (Int×RV),D2=(iK LL out).map fun c=>(c,(lk En2 c).getD zR):=⟨_,rfl⟩;have hk1:D1.map Prod.fst=iK l1 id1:=by rw[hD1,pX];exact List.map_id' _
    have hk2:D2.map Prod.fst=iK LL out:=by rw[hD2,pX];exact List.map_id' _
    have heq:=qbb T h2 g1 gL M
    have r1:p9 y1 D1:=by
     have:(D1.map fun p=>jN p.1 p.2)=(iK l1 id1).map fun c=>jN c ((lk En1 c).getD zR):=by rw[hD1,pX];rfl
     rcases Md q1 with ⟨h,h'⟩|⟨q,h⟩
     .exact .inl ⟨h,by rw[hD1,oQ.1 h'];rfl⟩
     .exact .inr ⟨_,by rw[this];exact h⟩
    have r2:p9 y2 D2:=by
     have:(D2.map fun p=>jN p.1 p.2)=(iK LL out).map fun c=>jN c ((lk En2 c).getD zR):=by rw[hD2,pX];rfl
     rcases Md q2 with ⟨h,h'⟩|⟨q,h⟩
     .exact .inl ⟨h,by rw[hD2,oQ.1 h'];rfl⟩
     .exact .inr ⟨_,by rw[this];exact h⟩
    have v1:∀p∈D1,WV (PM r (cm OD) r.length 0) p.2 (Hc r (cm OD) l1 p.1 id1):=fun p hp=>by
     rw[hD1] at hp;obtain ⟨c,hc,rfl⟩:=ga.1 hp;exact w1 c hc
    have v2:∀p∈D2,WV (PM r (cm OD) r.length 0) p.2 (Hc r (cm OD) l1 p.1 id1):=fun p hp=>by
     rw[hD2] at hp;obtain ⟨c,hc,rfl⟩:=ga.1 hp;have:=w2 c hc;rw[hPM,N9 T hsT h2Tx M c] at this;exact this
    have hD:D1.map Prod.fst=D2.map Prod.fst:=hk1.trans (heq.trans hk2.symm);have hl12:D1.length=D2.length:=by have:=cA List.length hD;simpa using this
    have hlen5:D1.length<=1000:=by
     have:=qcQ (E9 (iV (fun n=>n.leaf) (fun n=>decide (n.var<0)) l1 (Vi l1 id1 []))) fun y hy=>htb y ((qbc g1 h2' tab1 y).1 hy);have h3:=cA List.length hk1;rw[bA] at h3;unfold iK at h3;omega
    have hcmp:=WW (H:=fun c=>Hc r (cm OD) l1 c id1) r1 r2 hD hlen5 v1 v2 m6 (w3 (aD f4)) D1.length 0 Z;have e19:uA (.ptr s 0) (.I (id1:Nat)) (.ptr s' 0) (.I (out:Nat)) OD.av aw (IA zo .no (os.map Int.ofNat)) (.I os.length) (.I 0) m3 (w0 (aD f4))=_:=e19;rw[hZ,cD,fc,bA,O,e19,R6,e17,O,kq,O,kr,O];dsimp only;rw[e17',O,kq,O,kr,O,show ae .o .neq (.I 0) (.I 0)=some (.bool false) from rfl,O,cD,O,cD,r1.len,O,r2.len,O,gt,O,az,ag Z,O];have hcmp:uC y1 y2 (.I D1.length) (.I 0) m6 (w3 (aD f4))=_:=hcmp;rw[hcmp,R9,vU,O];exact ⟨_,rfl⟩
 .rw[ai he,vU,O];exact ⟨_,rfl⟩
end Go.Ab
namespace Go.Ab
open Go.Proofs Go.RowKit
theorem qaK(caps:Array Value)(w:World):CallsD Tryz.prog 140 caps .returning w fun e u w'=>(∃v,e=.returned v)/\u=.returning/\w'=w:=by
 refine callsD_of_wpS Tryz.func140 rfl fun c₀ cs hu=>?_
 have hs:45<=(caps++Array.replicate (Tryz.f140.ntmps-caps.size) undef).size:=by
  rw[Tryz.ntmps140,si,Array.size_replicate];omega
 generalize caps++Array.replicate (Tryz.f140.ntmps-caps.size) undef=T at hs;apply wpS_seq;apply wpS_region;simp[wpOpsS,go_sem,recoverD,hu,Exit.thenS,Act.put,Act.eval,show 9<T.size by omega,show 4<T.size by omega];apply wpS_seq;apply wpS_seq;apply wpS_region;simp[wpOpsS,go_sem,recoverD,hu,Exit.thenS,Act.put,Act.eval,show 9<T.size by omega,show 4<T.size by omega,show 10<T.size by omega,show 11<T.size by omega];refine wpS_cond (t:=true) (by simp[Act.eval,show 11<T.size by omega]) ?_;simp only[aY];refine wpS_of_wp (wp_ret ?_);cases c₀
 simp_all [bodyPostS,results,Tryz.results140,Exit.thenS]
theorem qaL(caps:Array Value)(w:World):CallsD Tryz.prog 177 caps .returning w fun e u w'=>(∃v,e=.returned v)/\u=.returning/\w'=w:=by
 refine callsD_of_wpS Tryz.func177 rfl fun c₀ cs hu=>?_
 have hs:3<=(caps++Array.replicate (Tryz.f177.ntmps-caps.size) undef).size:=by
  rw[Tryz.ntmps177,si,Array.size_replicate];omega
 generalize caps++Array.replicate (Tryz.f177.ntmps-caps.size) undef=T at hs;apply wpS_seq;apply wpS_region;simp[wpOpsS,go_sem,recoverD,hu,Exit.thenS,Act.put,Act.eval,show 1<T.size by omega,show 2<T.size by omega];refine wpS_cond (t:=false) (by simp[Act.eval,show 2<T.size by omega]) ?_;simp only[iE,jJ];refine wpS_of_wp (wp_skip ?_);cases c₀
 simp_all [bodyPostS,results,Tryz.results177]
theorem Jj{g:Nat}{fn:Func}(hfn:Tryz.prog.funcs[g]?=some fn) (hname:(fn.name == "runtime.NumGoroutine")=false) (hbody:fn.body.isSome) (caps:Array Value)
  (h:∀w,CallsD Tryz.prog g caps .returning w fun e u w'=>(∃v,e=.returned v)/\u=.returning/\w'=w):tZ Tryz.prog { target:=.fn (.func g) caps,args:=#[] }:=by
 refine ⟨.func g,caps,g,caps,rfl,fun w=>⟨?_,h w⟩⟩;have hb:fn.body.isNone=false:=by cases hb:fn.body<;>simp_all
 simp only[invoke,callFunc,hfn,hname,hb,Sem.run_bind,Sem.run_pure,run_program,Result.andThen_ok,iE,jJ,Array.empty_append]
theorem Zq(caps:Array Value):tZ Tryz.prog { target:=.fn (.func 140) caps,args:=#[] }:=Jj Tryz.func140 aj aj caps (qaK caps)
theorem Zr(caps:Array Value):tZ Tryz.prog { target:=.fn (.func 177) caps,args:=#[] }:=Jj Tryz.func177 aj aj caps (qaL caps)
end Go.Ab
namespace Go.Ab
open Go.RowKit
def gN:G:=⟨fun _ _=>False,fun _=>False,fun _=>none,fun _ _=>none⟩
def sY(P:Program)(t:Nat):Bool:=match P.underlying t with
 | some (.int _)|some .bool|some .string|some (.slice _)=>true
 | _=>false
def nc(P:Program)(t:Nat):Sh:=match P.underlying t with
 | some (.struct fs)=>some fs.size
 | _=>none
def ki(P:Program):Nat->Nat->AV->Prop
 | 0,_,_=>False
 | n+1,t,v=>match P.underlying t with
  | some (.int k)=>∃i,v=.int k i/\(Lit.int k i).wf=true
  | some .bool=>∃b,v=.bool b
  | some .string=>∃s,v=.str s/\s.size<=maxLen
  | some (.slice e)=>∃z es,v=.lst (nc P e) z .no es/\(z=true->es=[])/\∀x∈es,ki P n e x
  | some (.struct fs)=>∃cs,v=.agg cs/\cs.length=fs.size/\∀i f,fs[i]?=some f->ki P n f.type (cs.getD i .any)
  | _=>False
def zu(P:Program)(ok:Nat->Bool):Nat->List Field->Bool
 | _,[]=>true
 | i,f::l=>f.offset==i&&P.cellsOf f.type==1&&sY P f.type&&ok f.type&&zu P ok (i+1) l
def oC(P:Program):Nat->Nat->Bool
 | 0,_=>false
 | n+1,t=>match P.underlying t with
  | some (.int _)|some .bool|some .string=>P.cellsOf t==1
  | some (.slice e)=>P.cellsOf t==1&&oC P n e
  | some (.struct fs)=>P.cellsOf t==fs.size&&decide (0<fs.size)&&zu P (oC P n) 0 fs.toList
  | _=>false
theorem Dj{P:Program}{ok:Nat->Bool}:∀{l:List Field} {i0:Nat},zu P ok i0 l=true->∀i f,l[i]?=some f->f.offset=i0+i/\P.cellsOf f.type=1/\sY P f.type=true/\ok f.type=true
 | [],i0,h,i,f,hf=>by simp at hf
 | g::l,i0,h,i,f,hf=>by
  simp only[zu,cg,n8] at h;obtain ⟨⟨⟨⟨h1,h2⟩,h3⟩,h4⟩,h5⟩:=h
  cases i with
  | zero=>
   simp at hf;subst hf;exact ⟨h1,h2,h3,h4⟩
  | succ i=>
   simp at hf;obtain ⟨a,b⟩:=Dj h5 i f hf;exact ⟨Z,b⟩
theorem JW{s:Nat}(hs:0<s):∀{es:List AV},(∀e∈es,e.cells.length=s)->(ce es).length=es.length*s/\∀j,j<es.length*s->(ce es).getD j .any=(es.getD (j/s) .any).cells.getD (j%s) .any
 | [],h=>⟨by simp[ce],fun j hj=>by simp at hj⟩
 | e::es,h=>by
  have h0:=h e cF;obtain ⟨h1,h2⟩:=JW hs (fun x hx=>h x (cP _ hx));have e1:ce (e::es)=e.cells++ce es:=rfl;have e2:(e::es).length*s=es.length*s+s:=by rw[a8,eW,jP]
  refine ⟨by rw[e1,aQ,h0,h1,e2];omega,fun j hj=>?_⟩;rw[e1,aK]
  by_cases hj2:j<s
  .rw[kS Z,sR hj2,iX hj2];show _=e.cells.getD j .any;rw[aK]
  .rw[ma Z,h0,<- aK,h2 (j-s) Z]
   have e3:j/s=(j-s)/s+1:=by
    have:=Nat.div_eq_sub_div hs (by omega:s<=j);omega
   have e4:j%s=(j-s)%s:=Nat.mod_eq_sub_mod Z;rw[e3,e4,sI]
theorem wb{P:Program}:∀(n t:Nat) (v:AV),oC P n t=true->ki P n t v->cu (nc P t) v=true/\pl v=true/\v.cells.length=P.cellsOf t/\0<P.cellsOf t/\(nc P t).size=P.cellsOf t/\(sY P t=true->c9 v=true)
 | 0,t,v,ht,_=>by simp[oC] at ht
 | n+1,t,v,ht,h=>by
  unfold ki at h;unfold oC at ht;unfold nc sY
  cases hu:P.underlying t with
  | none=>rw[hu] at h;exact h.elim
  | some ty=>
   rw[hu] at h ht
   cases ty with
   | int k=>
    obtain ⟨i,rfl,_⟩:=h;have hc:P.cellsOf t=1:=by simpa using ht
    exact ⟨rfl,rfl,hc.symm,Z,hc.symm,fun _=>rfl⟩
   | bool=>
    obtain ⟨i,rfl⟩:=h;have hc:P.cellsOf t=1:=by simpa using ht
    exact ⟨rfl,rfl,hc.symm,Z,hc.symm,fun _=>rfl⟩
   | string=>
    obtain ⟨i,rfl,_⟩:=h;have hc:P.cellsOf t=1:=by simpa using ht
    exact ⟨rfl,rfl,hc.symm,Z,hc.symm,fun _=>rfl⟩
   | slice e=>
    obtain ⟨z,es,rfl,_⟩:=h
    have hc:P.cellsOf t=1:=by
     simp only[cg,n8] at ht;exact ht.1
    exact ⟨rfl,rfl,hc.symm,Z,hc.symm,fun _=>rfl⟩
   | struct fs=>
    obtain ⟨cs,rfl,hl,hf⟩:=h;simp only[cg,n8,lc] at ht;obtain ⟨⟨h1,h2⟩,h3⟩:=ht
    have hall:∀c∈cs,c9 c=true/\pl c=true:=by
     intro c hc;obtain ⟨i,hi,rfl⟩:=List.mem_iff_getElem.1 hc;have hfi:fs[i]?=some (fs[i]'(by omega)):=tW Z;obtain ⟨_,b,c2,d⟩:=Dj h3 i _ (by rw[Array.getElem?_toList];exact hfi);have r:=hf i _ hfi;rw[aK,bn hi] at r;have:=wb n _ _ d r;exact ⟨this.2.2.2.2.2 c2,this.2.1⟩
    have hpl:∀l:List AV,(∀c∈l,pl c=true)->jM l=true:=by
     intro l
     induction l with
     | nil=>intro _;rfl
     | cons a l ih=>
      intro h;show (pl a&&jM l)=true;rw[h a cF,ih (fun c hc=>h c (cP _ hc))];rfl
    refine ⟨?_,hpl cs (fun c hc=>(hall c hc).2),by show cs.length=_;omega,Z,h1.symm,fun h=>by cases h⟩;show (cs.length==fs.size&&cs.all c9)=true;rw[cg];exact ⟨by simp[hl],fe.2 fun c hc=>(hall c hc).1⟩
   | _=>exact h.elim
section
variable {P:Program} {H:Type} {enc:TypeId×Value->H} {W:World}
theorem qcH{w:World}{a:Addr}{n:Nat}{cs:List Value}(h:w.cells? 0 a n=some cs):cs.length=n/\∀j,j<n->w.cell? (a.add j)=cs[j]?:=by
 unfold World.cells? at h;rw[ai (jd _)] at h;refine ⟨by simpa using mapM_some_length h,fun j hj=>mapM_some_get h j j (by simp[hj])⟩
theorem qcG{a:Addr}(h:a.spot=none)(j:Nat):a.add j=⟨a.block,a.off+j,none⟩:=by
 obtain ⟨b,o,s⟩:=a;subst h;exact jB b o j
theorem reads:∀(n t:Nat),oC P n t=true->∀{fuel:Nat} {cs:List Value} {x:DataW H×List MemPlace},DataW.trod enc P W 0 (fun _=>true) true fuel t cs=some x->∃v:AV,ki P n t v/\cs.length=P.cellsOf t/\∀j,j<P.cellsOf t->V W gN (v.cells.getD j .any) (cs.getD j undef)
 | 0,t,ht,_,_,_,_=>by simp[oC] at ht
 | n+1,t,ht,fuel,cs,x,h=>by
  have ht0:=ht;unfold oC at ht;unfold ki
  cases hu:P.underlying t with
  | none=>rw[hu] at ht;cases ht
  | some ty=>
   rw[hu] at ht
   cases ty with
   | int k=>
    have hc:P.cellsOf t=1:=by simpa using ht
    obtain ⟨i,rfl,_,hw⟩:=DataW.trod_int hu h;refine ⟨.int k i,⟨i,rfl,hw⟩,hc.symm,fun j hj=>?_⟩;obtain rfl:j=0:=Z;exact .int _ _
   | bool=>
    have hc:P.cellsOf t=1:=by simpa using ht
    obtain ⟨i,rfl,_⟩:=DataW.trod_bool hu h;refine ⟨.bool i,⟨i,rfl⟩,hc.symm,fun j hj=>?_⟩;obtain rfl:j=0:=Z;exact .bool _
   | string=>
    have hc:P.cellsOf t=1:=by simpa using ht
    obtain ⟨i,rfl,_,hw⟩:=DataW.trod_string hu h;refine ⟨.str i,⟨i,rfl,hw⟩,hc.symm,fun j hj=>?_⟩;obtain rfl:j=0:=Z;exact .str _
   | slice e=>
    simp only[cg,n8] at ht;obtain ⟨hc,hte⟩:=ht
    rcases DataW.trod_slice hu h with ⟨rfl,_⟩|⟨a,len,cap,elems,rest,m,_,rfl,_,_,hl,hm,he,hel,hre,_⟩
    .refine ⟨.lst (nc P e) true .no [],⟨true,[],rfl,fun _=>rfl,fun x hx=>by cases hx⟩,hc.symm,fun j hj=>?_⟩;obtain rfl:j=0:=Z;exact .nils _ .no (.inr rfl)
    .obtain ⟨hrl,hre⟩:=hre rfl
     have raw:∀i,i<cap->∃y,(W.cells? 0 (a.add (i*P.cellsOf e)) (P.cellsOf e)).bind (DataW.trod enc P W 0 (fun _=>true) true m e)=some y:=by
      intro i hi
      by_cases hi2:i<len
      .have h1:=hel i hi2;rw[bn Z] at h1;exact ⟨_,h1⟩
      .have h1:=hre (i-len) Z;rw[bn Z,show len+(i-len)=i by omega] at h1;exact ⟨_,h1⟩
     have at1:∀i,i<cap->(i=0\/a.spot=none)->a.spot=none/\∃v:AV,ki P n e v/\∀j,j<P.cellsOf e->∃u,W.cell? ⟨a.block,a.off+(i*P.cellsOf e+j),none⟩=some u/\V W gN (v.cells.getD j .any) u:=by
      intro i hi hs0;obtain ⟨y,hy⟩:=raw i hi;obtain ⟨cs,h1,h2⟩:=aU.1 hy;obtain ⟨v,hv,hlen,hV⟩:=reads n e hte h2;have hpos:=(wb n e v hte hv).2.2.2.1;have h3:=(qcH h1).2
      have hs:a.spot=none:=by
       rcases hs0 with rfl|hs0
       .rw[p5] at h3;have h4:=h3 0 hpos;rw[bn Z] at h4;exact World.cell?_spot h4
       .exact hs0
      refine ⟨hs,v,hv,fun j hj=>?_⟩;have h4:=h3 j hj;rw[qcG hs,jB,jD,bn Z] at h4;refine ⟨_,h4,?_⟩;have:=hV j hj
      rwa [aK (l:=cs),bn Z] at this
     have hsp:cap=0\/a.spot=none:=by
      by_cases h0:cap=0
      .exact .inl h0
      .exact .inr (at1 0 Z (.inl rfl)).1
     have cell:∀i,∃v:AV,i<cap->ki P n e v/\∀j,j<P.cellsOf e->∃u,W.cell? ⟨a.block,a.off+(i*P.cellsOf e+j),none⟩=some u/\V W gN (v.cells.getD j .any) u:=by
      intro i
      by_cases hi:i<cap
      .obtain ⟨v,hv⟩:=(at1 i hi (.inr (hsp.resolve_left (by omega)))).2;exact ⟨v,fun _=>hv⟩
      .exact ⟨.any,fun h=>absurd h hi⟩
     obtain ⟨f,hf⟩:=Classical.axiomOfChoice cell;have hlen:((List.range len).map f).length=len:=aq
     have hmem:∀v∈(List.range len).map f,ki P n e v:=by
      intro v hv;obtain ⟨i,hi,rfl⟩:=ga.1 hv;exact (hf i (by have:=nY.1 hi;omega)).1
     have hok:=fun v hv=>wb n e v hte (hmem v hv)
     by_cases hl0:len=0
     .subst hl0;refine ⟨.lst (nc P e) false .no [],⟨false,[],rfl,(fun h=>by cases h),fun x hx=>by cases hx⟩,hc.symm,fun j hj=>?_⟩;obtain rfl:j=0:=Z;exact V.lst (w:=W) (g:=gN) (nc P e) .no [] a cap (fun _=>undef) hsp (jd _) hm (fun e he=>by cases he) (fun j hj=>by simp[ce] at hj) (fun j hj=>by simp[ce] at hj) trivial
     .have hs0:0<P.cellsOf e:=(hok (f 0) (ga.2 ⟨0,nY.2 Z,rfl⟩)).2.2.2.1;obtain ⟨fl1,fl2⟩:=JW hs0 (fun v hv=>(hok v hv).2.2.1);rw[hlen] at fl1 fl2
      have hcl:∀j,j<len*P.cellsOf e->∃u,W.cell? ⟨a.block,a.off+j,none⟩=some u/\V W gN ((ce ((List.range len).map f)).getD j .any) u:=by
       intro j hj;have hd:j/P.cellsOf e<len:=Nat.div_lt_of_lt_mul (by rw[bU];exact hj);have h1:=(hf (j/P.cellsOf e) (by omega)).2 (j%P.cellsOf e) (io _ hs0);have e1:j/P.cellsOf e*P.cellsOf e+j%P.cellsOf e=j:=Nat.div_add_mod' j _;rw[e1] at h1;rw[fl2 j hj,aK (l:=(List.range len).map f),pU,List.getElem?_range hd];exact h1
      have hus:∀j,∃u,j<len*P.cellsOf e->W.cell? ⟨a.block,a.off+j,none⟩=some u/\V W gN ((ce ((List.range len).map f)).getD j .any) u:=by
       intro j
       by_cases hj:j<len*P.cellsOf e
       .obtain ⟨u,hu⟩:=hcl j hj;exact ⟨u,fun _=>hu⟩
       .exact ⟨undef,fun h=>absurd h hj⟩
      obtain ⟨us,hus⟩:=Classical.axiomOfChoice hus;refine ⟨.lst (nc P e) false .no ((List.range len).map f),⟨false,_,rfl,(fun h=>by cases h),hmem⟩,hc.symm,fun j hj=>?_⟩;obtain rfl:j=0:=Z
      have hV:=V.lst (w:=W) (g:=gN) (nc P e) .no ((List.range len).map f) a cap us hsp (by rw[hlen];exact hl) hm
       (fun v hv=>⟨(hok v hv).1,(hok v hv).2.1⟩)
       (fun j hj=>by
        rw[fl1] at hj
        exact ⟨(hus j hj).1,fun h=>h,fun h=>h⟩)
       (fun j hj=>by
        rw[fl1] at hj
        exact (hus j hj).2) trivial
      rw[hlen] at hV;exact hV
   | struct fs=>
    simp only[cg,n8,lc] at ht;obtain ⟨⟨h1,h2⟩,h3⟩:=ht;obtain ⟨xs,m,_,_,hcl,hxl,hf⟩:=DataW.trod_struct hu h
    have fld:∀i,∃v:AV,i<fs.size->∀f,fs[i]?=some f->ki P n f.type v/\V W gN v (cs.getD i undef):=by
     intro i
     by_cases hi:i<fs.size
     .have hfi:fs[i]?=some fs[i]:=tW hi;obtain ⟨o,c,a,k⟩:=Dj h3 i fs[i] (by rw[Array.getElem?_toList];exact hfi);have hx:=hf i fs[i] hfi;rw[bn Z] at hx;obtain ⟨v,hv,hlen,hV⟩:=reads n _ k hx;refine ⟨v,fun _ f hf=>?_⟩;rw[hfi] at hf;obtain rfl:=mS hf;refine ⟨hv,?_⟩;have h0:=hV 0 Z;have hat:=(wb n _ v k hv).2.2.2.2.2 a
      have hcells:v.cells=[v]:=by
       cases v<;>first|rfl|(simp[c9] at hat)
      rw[hcells,o,bj,c] at h0
      have e0:((cs.drop i).take 1).getD 0 undef=cs.getD i undef:=by
       rw[aK,aK,List.getElem?_take_of_lt Z,nq];rfl
      rw[e0] at h0;exact h0
     .exact ⟨.any,fun h=>absurd h hi⟩
    obtain ⟨F,hF⟩:=Classical.axiomOfChoice fld
    have hg:∀i,i<fs.size->((List.range fs.size).map F).getD i .any=F i:=by
     intro i hi;rw[aK,pU,List.getElem?_range hi];rfl
    refine ⟨.agg ((List.range fs.size).map F),⟨_,rfl,aq,fun i f hf=>?_⟩,hcl,fun j hj=>?_⟩
    .have hi:i<fs.size:=(cH.1 hf).1;rw[hg i hi];exact (hF i hi f hf).1
    .rw[h1] at hj;show V W gN (((List.range fs.size).map F).getD j .any) _;rw[hg j hj];exact (hF j hj fs[j] (tW hj)).2
   | _=>cases ht
theorem qcL{n t e:Nat}(ht:oC P n t=true){v:Value}{d:DataW H}{ps:List MemPlace}(hu:P.underlying t=some (.slice e))(hv:∃a len cap,v=.slice a len cap)(h:DataW.Trod enc P W 0 (fun _=>true) true t v d ps):∃y:AV,V W gN y v/\ki P n t y:=by
 obtain ⟨a,len,cap,rfl⟩:=hv;obtain ⟨fuel,h⟩:=h;have h:DataW.trod enc P W 0 (fun _=>true) true fuel t [.slice a len cap]=some (d,ps):=h;obtain ⟨y,hy,hl,hV⟩:=reads n t ht h;obtain ⟨_,_,h3,_,_,h6⟩:=wb n t y ht hy;have hat:sY P t=true:=by unfold sY;rw[hu]
 have hc:y.cells=[y]:=by
  have:=h6 hat
  cases y<;>first|rfl|(simp[c9] at this)
 have:=hV 0 (by rw[<- hl];exact Nat.zero_lt_one);rw[hc] at this;exact ⟨y,this,hy⟩
end
end Go.Ab
namespace Go.Ab
open Go.Proofs Go.Proofs.Tryz Go.RowKit
theorem zD(nm:Nat):af.get ([]:af) nm=none:=by simp[af.get]
theorem qbw{w:World}(h:Yd.tab w):MemR w.heap.size w gN [] where
 obj nm bx cs h:=by rw[zD] at h;cases h
 tok nm n sz h:=by rw[zD] at h;cases h
 resv nm h:=⟨rfl,fun _=>rfl⟩
 fresh nm h:=⟨rfl,fun _=>rfl⟩
 inj nm nm' b h:=by unfold aS at h;rw[zD] at h;cases h
 wrLt b off h:=h.elim
 inv w' k:=Yd.tab_below (Yd.tab_lt h) h k
 boxLt b h:=h.elim
 mp nm kk es h:=by rw[zD] at h;cases h
theorem ZJ:CfgOk aa where
 ben g h caps:=by
  have h:rX CU g=true:=h;unfold CU at h;simp only[rX] at h
  split at h
  .rename_i e;obtain rfl:140=g:=md e;exact Zq caps
  .split at h
   .rename_i e;obtain rfl:177=g:=md e;exact Zr caps
   .cases h
 name g fn h:=by
  have hall:(Tryz.prog.funcs.toList.all fun fn=>!(fn.name == "runtime.NumGoroutine"))=true:=aj
  have hm:fn∈Tryz.prog.funcs.toList:=by
   rw[Array.mem_toList_iff];exact Array.mem_of_getElem? h
  have:=fe.1 hall fn hm;simpa using this
 lib g h hh:=by
  have hh:(match Nat.beq g 141 with|true=>some rK|false=>none)=some h:=hh
  split at hh
  .rename_i e;obtain rfl:g=141:=md e;obtain rfl:=mS hh;exact ⟨⟨f141,XR,aj⟩,fun vs v hv m=>qbF vs v hv m⟩
  .cases hh
 libm g h hh:=by
  have hh:(match Nat.beq g 148 with|true=>some rW|false=>match Nat.beq g 149 with|true=>some rk|false=>none)=some h:=hh
  split at hh
  .rename_i e;obtain rfl:g=148:=md e;obtain rfl:=mS hh;exact ⟨⟨f148,XW,aj⟩,fun vs m v m' hv=>qdi (fun aS cap zs w hH hb hs=>Tryz.slices_Sort_int aS 0 cap zs w hH hb hs) (fun p cap w=>Tryz.slices_Sort_int_none p cap w) vs m v m' hv⟩
  .split at hh
   .rename_i e;obtain rfl:g=149:=md e;obtain rfl:=mS hh;exact ⟨⟨f149,(show Tryz.prog.funcs[149]?=some f149 by kernel_rfl),aj⟩,fun vs m v m' hv=>ZR (fun aS cap zs w hH hs hc=>Tryz.slices_Compact_int aS 0 cap zs w hH hs hc) (fun p cap w=>Tryz.slices_Compact_int_empty p cap w) C0 vs m v m' hv⟩
   .cases hh
theorem qa7{f:Nat}{args:List AV}{vs:Array Value}{W:World}(ht:Yd.tab W)(h:∃m',AC aa f args []=some (.bool true,m'))(hl:args.length=vs.size)(hv:∀j,j<args.length->V W gN (args.getD j .any) (vs.getD j undef)) :
  Calls Tryz.prog f vs W fun e W'=>e=.returned (.bool true)/\Below W.heap.size W W':=by
 obtain ⟨m',hm'⟩:=h;refine ((NS ZJ f args [] _ _ hm').1 W.heap.size W gN vs (qbw ht) (aI _) hl hv).mono ?_;rintro e W' ⟨v',g',rfl,hs,_,hv'⟩;cases hv';exact ⟨rfl,hs.below⟩
abbrev qa5:List (String×DataW Unit):=YtiipgpkgcdhbfaaGreatDoor.Rows.diagramNewsRow.laid
theorem qdD{W:World}(h:laidMetH Tryz.prog qa5 W):Yd.tab W:=by
 rw[MakeChecks.laidMetH_plain _ _ _ aj] at h;obtain ⟨ps,⟨g1,t1,cs1,fuel1,p1,q1,_,_,_,_,⟨g2,t2,cs2,fuel2,p2,q2,_,_,_,_,⟨g,t,cs,fuel,p,q,hg,ht,hv,hd,_,_⟩,_⟩,_⟩,_⟩:=h;obtain rfl:=mS (Yd.globalPow.symm.trans hg);obtain rfl:=mS ((show (Tryz.prog.globals[0]?).map (·.type)=some 246 by kernel_rfl).symm.trans ht);unfold Yd.tab Lib.TabIs;rw[hv];have:=Lib.cells_of_tab (zs:=Lib.pow10Tab) (k:=.u64) Tryz.underlying246 Tryz.underlying117 aj aj hd;rw[<- this]
theorem u3:Tryz.prog.underlying 3=some (.int .i64):=aj
theorem u4:Tryz.prog.underlying 4=some .bool:=aj
theorem tR:Tryz.prog.underlying 22=some (.slice 3):=aj
theorem s3:nc Tryz.prog 3=none:=by unfold nc;rw[u3]
theorem qcK{n t e:Nat}{v:AV}(ht:Tryz.prog.underlying t=some (.slice e))(h:ki Tryz.prog (n+1) t v):∃z es,v=.lst (nc Tryz.prog e) z .no es/\(z=true->es=[])/\∀x∈es,ki Tryz.prog n e x:=by
 unfold ki at h;rw[ht] at h;exact h
theorem qcI{n:Nat}{v:AV}(h:ki Tryz.prog (n+1) 3 v):∃i,v=.int .i64 i/\Yd.i64 i:=by
 unfold ki at h;rw[u3] at h;obtain ⟨i,h1,hw⟩:=h;refine ⟨i,h1,?_⟩;simp only[Lit.wf,cg,lc] at hw;exact hw
theorem KN{α:Type}{f:α->AV}{Q:α->Prop}:∀{es:List AV},(∀x∈es,∃a,x=f a/\Q a)->∃l:List α,es=l.map f/\∀a∈l,Q a
 | [],_=>⟨[],rfl,aq⟩
 | x::es,h=>by
  obtain ⟨a,rfl,ha⟩:=h x cF;obtain ⟨l,rfl,hl⟩:=KN (f:=f) (Q:=Q) fun y hy=>h y (cP _ hy)
  exact ⟨a::l,rfl,fun b hb=>by
   rcases cE.1 hb with rfl|hb
   .exact ha
   .exact hl b hb⟩
theorem qcJ{n:Nat}{v:AV}(h:ki Tryz.prog (n+2) 22 v):∃z ns,v=IA z .no ns/\(z=true->ns=[])/\∀k∈ns,Yd.i64 k:=by
 obtain ⟨z,es,rfl,hz,he⟩:=qcK tR h;obtain ⟨ns,rfl,hd⟩:=KN (f:=AV.int .i64) (Q:=Yd.i64) (fun x hx=>qcI (he x hx));exact ⟨z,ns,by rw[s3],fun h=>oQ.1 (hz h),hd⟩
theorem qbU:oC Tryz.prog 2 22=true:=aj
section
variable {H:Type} {enc:TypeId×Value->H} {W:World}
theorem zH{v:Value}{d:DataW H}{ps:List MemPlace}(hv:∃a len cap,v=.slice a len cap)(h:DataW.Trod enc Tryz.prog W 0 (fun _=>true) true 22 v d ps):∃z ns,V W gN (IA z .no ns) v/\(z=true->ns=[])/\∀k∈ns,Yd.i64 k:=by
 obtain ⟨y,hy,hr⟩:=qcL qbU tR hv h;obtain ⟨z,ns,rfl,hc⟩:=qcJ hr;exact ⟨z,ns,hy,hc⟩
end
end Go.Ab
