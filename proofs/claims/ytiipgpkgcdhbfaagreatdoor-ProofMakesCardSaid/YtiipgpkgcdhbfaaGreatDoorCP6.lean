/- The reference's certificate, by value: what a node has to weigh, where the weights stand in a row that may be written; Made. -/
import Derived.Test.YtiipgpkgcdhbfaaGreatDoorCP5
import Derived.Test.YtiipgpkgcdhbfaaGreatDoorCP2
import Derived.Test.YtiipgpkgcdhbfaaGreatDoorCP0
import Derived.Test.YtiipgpkgcdhbfaaGreatDoorProg
import Derived.Tactics
import Derived.Tactics2
import Derived.Defers
import Derived.Recover
import Derived.Laws.Pointers
import Derived.ProofKit
import Derived.OpenShut
import Derived.ChangeArms
import Derived.Test.YtiipgpkgcdhbfaaGreatDoorCP3
import Derived.Test.YtiipgpkgcdhbfaaGreatDoorCP1
import Derived.LaidMore
import Derived.Lay
import Derived.KernelRfl
import Derived.Test.YtiipgpkgcdhbfaaGreatDoorRows
set_option maxRecDepth 100000
set_option linter.unusedVariables false
set_option linter.unusedSimpArgs false
set_option linter.unusedSectionVars false
namespace Go.Ab
open Go.Proofs Go.Proofs.Tryz
theorem WV.mulq {M N a S:Nat} {r p x:RV} (hM:M < 4294967296 ^ 8) (h:WV M r (S * N)) (hS:S≠0) (hp:p.q=dK false a S) (hc:Can x (p.q * r.q)) (hf:x.fr=x) (hb:a * N<=M):WV M x (a * N):=by
 refine Can.wv hM hb ?_ hf;rw[h.q,hp,B3] at hc;have e1:a * (S * N)=a * N * S:=by rw[cO S N,fF]
 rw[show (false != false)=false from rfl,e1,cO S M,Jx hS] at hc;exact hc
theorem WV.addq {M N1 N2:Nat} {r1 r2 x:RV} (hM:M < 4294967296 ^ 8) (h0:M≠0) (h1:WV M r1 N1) (h2:WV M r2 N2) (hc:Can x (r1.q+r2.q)) (hf:x.fr=x) (hb:N1+N2<=M):WV M x (N1+N2):=by
 rw[h1.q,h2.q,Px h0] at hc;exact Can.wv hM hb hc hf
theorem Y8:∀ (ws:List RV) (k:Nat) (r:RV),k < ws.length->bJ (ws.flatMap rc) (k * 3) (rc r)=(ws.set k r).flatMap rc
 | a::ws,0,r,_=>by simp[bJ,rc]
 | a::ws,k+1,r,h=>by
  have ih:=Y8 ws k r (by simpa using h)
  have e1:((a::ws).flatMap rc).take ((k+1) * 3)=rc a++(ws.flatMap rc).take (k * 3):=by
   rw[ov,show (k+1) * 3=(rc a).length+k * 3 by simp[rc];omega,List.take_length_add_append]
  have e2:((a::ws).flatMap rc).drop ((k+1) * 3+(rc r).length)=(ws.flatMap rc).drop (k * 3+(rc r).length):=by
   rw[ov,show (k+1) * 3+(rc r).length=(rc a).length+(k * 3+(rc r).length) by simp[rc];omega,List.drop_length_add_append]
  unfold bJ at ih ⊢;rw[e1,e2,dX,ov,<- ih];simp[gd]
theorem qqz {m:af} {x:AV} {ws:List RV} {T:List Nat} (h:WA m x ws T) {k:Nat} (hk:k < ws.length):∃ a,aF (some 3) x (.int .i64 (k:Int))=some a/\∀ (m':af) (r:RV),WA m' x ws T->∃ m'',aM (some 3) m' a r.av=some m''/\WA m'' x (ws.set k r) T/\Fr m' m'' T:=by
 cases h with
 | none=>exact absurd hk (by simp)
 | some t ws ht hne=>
  refine ⟨.ptr t (k * 3),?_,fun m' r h'=>?_⟩
  ·have:(k:Int) < ws.length:=by omega
   simp[aF,this,Sh.size]
  ·obtain ⟨qK⟩:m'.get t=some (.obj false (ws.flatMap rc))/\True:=by
    generalize hx:AV.arr t 0 ws.length (some 3)=y at h';generalize hT:[t]=T at h'
    cases h' with
    | none=>cases hx
    | some t' _ qK qmF=>
     obtain rfl:t=t':=by simpa using hT
     exact ⟨qK,trivial⟩
   refine ⟨m'.set t (some (.obj false ((ws.set k r).flatMap rc))),?_,?_,(Fr.refl m' [t]).set _ (.inl (by simp))⟩
   ·rw[qt,qK,kh,aa];unfold cK;dsimp only;rw[an (by rw[B4];simp only[Sh.size];omega),an (show cU (some 3) r.av=true from rfl),show AV.cells r.av=rc r from rfl,Y8 ws k r hk]
   ·have:=WA.some (m:=m'.set t (some (.obj false ((ws.set k r).flatMap rc)))) t (ws.set k r) (cL rfl (bC qK)) (by intro e;have:=cI List.length e;simp at this;exact hne (ou (by simp[this])));rw[a8] at this;exact this
structure HJ (m0 m:af) (cc nn:List AV) (s:RV):Prop where
 fr:Fr m0 m []
 g0:m.get m0.length=some (.obj true cc)
 g1:m.get (m0.length+1)=bZ
 g2:m.get (m0.length+2)=some (.obj true nn)
 g3:m.get (m0.length+3)=bR s
theorem HJ.app {m0 m:af} {cc nn:List AV} {s:RV} (h:HJ m0 m cc nn s) (e:Option Ent):HJ m0 (m++[e]) cc nn s:=by
 have:=bC h.g3;exact ⟨h.fr.snoc e,by rw[bU (by omega)];exact h.g0,by rw[bU (by omega)];exact h.g1,by rw[bU (by omega)];exact h.g2,by rw[bU this];exact h.g3⟩
theorem HJ.put {m0 m:af} {cc nn:List AV} {s:RV} (h:HJ m0 m cc nn s) (y:RV):HJ m0 (m.set (m0.length+3) (bR y)) cc nn y:=
 ⟨h.fr.set _ (.inr (by omega)),by rw[cw (by omega)];exact h.g0,by rw[cw (by omega)];exact h.g1,by rw[cw (by omega)];exact h.g2,cL rfl (bC h.g3)⟩
section
variable {ar:List Int} {L:OL} {l:List ND} {M:Nat}
theorem qh8 (hO:OddsOk ar L) (p9:L.fr=L) (jy:M < 4294967296 ^ 8) (h0:M≠0) {u B:Nat} (iU:u < L.es.length) {q:Nat->Nat} {kids:List Int} (fI:kids.length=iT ar u) (IG:iT ar u<=64) (hB:B<=M) (hs:B=jm (iT ar u) fun j=>bH L u j * q j)
  {m0:af} {x:AV} {ws:List RV} {T:List Nat} (hW:WA m0 x ws T) (yT:∀ j,j < kids.length->∃ t:Nat,kids.getD j 0=t/\∃ h:t < ws.length,WV M ws[t] (SS ar (bH L) u * q j)) {z:Bool} {o:Own} {nl cv:AV} (x4 k1 lf:AV) (K:KT):∀ (d j:Nat) (sm:RV) (m:af),j+d=kids.length->WV M sm (jm j fun j=>bH L u j * q j)->HJ m0 m [L.av,nl,x,cv] [.int .i64 u,k1,lf] sm ->
  ∃ (sm':RV) (m':af),CL (.ptr m0.length 0) x4 (.ptr (m0.length+2) 0) (.int .i64 (SS ar (bH L) u:Nat)) (.ptr (m0.length+3) 0) (IA z o kids) (.int .i64 kids.length) (.int .i64 j) m K=K (.exit 2) (K1 x4 (.ptr (m0.length+3) 0) m')/\WV M sm' B/\HJ m0 m' [L.av,nl,x,cv] [.int .i64 u,k1,lf] sm':=by
 intro d
 induction d with
 | zero=>
  intro j sm m hj hw hJ
  refine ⟨sm,m,?_,?_,hJ⟩
  ·rw[QO,bc,aa,aA,aj (by omega)]
  ·rw[hs,<- fI,show kids.length=j by omega];exact hw
 | succ d ih=>
  intro j sm m hj hw hJ;have ke:j < kids.length:=by omega
  obtain ⟨t,et,gE,wt⟩:=yT j ke;have yU:kids[j]=(t:Int):=by rw[<- et,aT,bM ke];rfl
  obtain ⟨rw1,rw2⟩:=hO.row u iU;have wV:j < L.es[u].ns.length:=by unfold iT at fI;omega
  obtain ⟨ss1,ss2,ss3⟩:=hO.ss iU;obtain ⟨a,ha,D6⟩:=rw1.get wV;have Wy:bH L u j=a:=by rw[JK iU,aT,bM wV,eh,ha,cH]
  obtain ⟨p,ep,cp,fp⟩:=qhd (a:=a) (b:=SS ar (bH L) u) (by omega) (by omega) (by omega)
  have hb1:Bd 1 (dK false a (SS ar (bH L) u)):=by
   have:=Pq.partQ_bd rw1 (i:=j) wV;rw[qoF hO iU,Wy] at this;exact this
  have op:ROk 9 p:=(cp.ok hb1 (by omega)).mono (by omega);have qnf:bH L u j * q j<=B:=by rw[hs];exact ZT (fun j=>bH L u j * q j) (by omega)
  obtain ⟨xx,ex,cx,fx⟩:=qhe op wt.ok (by omega) (by omega);have wx:WV M xx (bH L u j * q j):=WV.mulq jy wt (by omega) (by rw[Wy];exact cp.q) cx fx (by omega);have mR:jm (j+1) (fun j=>bH L u j * q j)<=B:=by rw[hs];exact ZV (by omega)
  rw[qY] at mR;obtain ⟨y,ey,cy,fy⟩:=Tb hw.ok wx.ok (by omega) (by omega);have wy:WV M y (jm j (fun j=>bH L u j * q j)+bH L u j * q j):=WV.addq jy h0 hw wx cy fy (by omega);obtain ⟨ad,ia,la⟩:=qan hW gE;have hT:=zY hW;have D4:=hJ.app (bR p);have gT:∀ t∈T,(m++[bR p]).get t=m0.get t:=fun t ht=>D4.fr.get t (hT t ht) (by simp);obtain ⟨sm',m',e,k⟩:=ih (j+1) y ((m++[bR p]).set (m0.length+3) (bR y)) (by omega) (by rw[qY];exact wy) (D4.put y);refine ⟨sm',m',?_,k⟩;have lc:∀ mm:af,mm.get m0.length=some (.obj true [L.av,nl,x,cv])->ai none mm (.ptr m0.length (0+0))=some L.av/\ai none mm (.ptr m0.length (0+2))=some x:=fun mm h=>by rw[bV,bV,h];exact ⟨rfl,rfl⟩
  have ldv:ai none m (.ptr (m0.length+2) (0+0))=some (.int .i64 u):=by rw[bV,hJ.g2];rfl
  have p116:aC (AP ae) none m 116 [.int .i64 L.es[u].ns[j],.int .i64 (SS ar (bH L) u:Nat)]=some (.tup [p.av,.int .i64 0],m):=by rw[fe (fW _ _) (fW _ _),ha,ep];rfl
  have st1:aM (some 3) (m++[bZ]) (.ptr m.length 0) p.av=some (m++[bR p]):=by rw[qX (c1:=.bool false) (c2:=aq) (c3:=aq) (bG rfl),pV m _ _ rfl]
  have nz:(az none m (.obj true [.bool false,aq,aq])).2=m++[bZ]:=rfl;have p117:aC (AP ae) (some (m++[bR p]).length) (m++[bR p]) 117 [p.av,ws[t].av]=some (xx.av,m++[bR p]):=by rw[fe (hP p) (hP _),fp,wt.fr,ex];rfl
  have p22:aC (AP ae) (some (m++[bR p]).length) (m++[bR p]) 22 [sm.av,xx.av]=some (y.av,m++[bR p]):=by rw[fe (hP sm) (hP xx),hw.fr,fx,ey];rfl
  have st2:aM (some 3) (m++[bR p]) (.ptr (m0.length+3) 0) y.av=some ((m++[bR p]).set (m0.length+3) (bR y)):=qX D4.g3;have ix:aF none L.es[u].av (.int .i64 (j:Int))=some (.vptr [Pq.iA L.es[u].ns[j]]):=Pq.index_il wV;rw[QO,bc,aa,aA,an (by omega),jY ke,aa,yU,gy,aa,cJ,aa,(lc m hJ.g0).1,aa,cJ,aa,ldv,aa,Pq.index_ol iU,aa,Pq.load_ol,aa,ix,aa,Pq.load_il,aa,p116,aa];dsimp only;rw[kL,aa,kM,aa,nz,uk,st1,aa,pQ D4.g3,aa,pQ (bG rfl),aa,cJ,aa,(lc _ D4.g0).2,aa,ia,aa,la _ gT,aa,p117,aa];dsimp only;rw[p22,aa];dsimp only;rw[st2,aa,cr (by omega),aa];exact e
theorem qaA (hO:OddsOk ar L) (p9:L.fr=L) (g:GoodL ar l) (h1:∀ x∈ar,1<=x/\x<=64) (c:Int) (hM:M=PM ar (bH L) ar.length 0) (h0:M≠0) (jy:M < 4294967296 ^ 8) {i:Nat} (hi:i < l.length) {ws:List RV} (hws:∀ k (h:k < ws.length),k < i->WV M ws[k] (Hc ar (bH L) l c k)) (cm:i<=ws.length) {z1:Bool} {o1:Own} {m0:af} {x:AV} {T:List Nat} (hW:WA m0 x ws T) :
  ∃ (m':af) (sm:RV),AC ae 111 [cA L z1 o1 l x c,.int .i64 i] m0=some (sm.av,m')/\WV M sm (Hc ar (bH L) l c i)/\Fr m0 m' []:=by
 have bf:=g.ok _ (bI hi);obtain ⟨w1,w2⟩:=Ck hW
 have bx:cS none (some 4) m0 (cA L z1 o1 l x c)=some (.ptr m0.length 0,m0++[some (Ent.obj true [L.av,NL z1 o1 l,x,.int .i64 c])]):=
  Mx (by simp[cU,w1,HW,show dG L.av=true from rfl,show dG (NL z1 o1 l)=true from rfl])
 have nz:∀ m:af,(az none m (.obj true [.bool false,aq,aq])).2=m++[bZ]:=fun _=>rfl;have nn:∀ m:af,(az none m (.obj true [.int .i64 0,aq,.int .i64 0])).2=m++[some (.obj true [.int .i64 0,aq,.int .i64 0])]:=fun _=>rfl;have f1:Fr m0 ((m0++[some (Ent.obj true [L.av,NL z1 o1 l,x,.int .i64 c])])++[bZ]) []:=(Fr.app m0 _ _).snoc _;have lP:(m0++[some (Ent.obj true [L.av,NL z1 o1 l,x,.int .i64 c])]).length=m0.length+1:=by simp
 have gC:((m0++[some (Ent.obj true [L.av,NL z1 o1 l,x,.int .i64 c])])++[bZ]).length=m0.length+2:=by simp
 have g0:af.get ((m0++[some (Ent.obj true [L.av,NL z1 o1 l,x,.int .i64 c])])++[bZ]) m0.length=some (.obj true [L.av,NL z1 o1 l,x,.int .i64 c]):=by rw[bU (by simp),bG rfl]
 have g1:af.get ((m0++[some (Ent.obj true [L.av,NL z1 o1 l,x,.int .i64 c])])++[bZ]) (m0.length+1)=bZ:=bG lP.symm;have gK:=zj (z:=z1) (o:=o1) hi;rw[qgl,bx,aa];dsimp only;rw[nz];simp only[uk,lP,gC];generalize fS:(m0++[some (Ent.obj true [L.av,NL z1 o1 l,x,.int .i64 c])])++[bZ]=m2 at f1 gC g0 g1;have l1:ai none m2 (.ptr m0.length (0+1))=some (NL z1 o1 l):=by rw[bV,g0];rfl
 have bn:=AX l[i] m2 (Bc m2);rw[cJ,aa,l1,aa,gK,aa,vF,aa,nn];rw[gC] at bn;rw[bn,aa];have g23:∀ e,af.get (m2++[e]) (m0.length+2)=e:=fun e=>bG gC.symm;have ldv:ai none (m2++[some (Ent.obj true [.int .i64 l[i].var,cE l[i],.int .i64 l[i].leaf])]) (.ptr (m0.length+2) (0+0))=some (.int .i64 l[i].var):=by rw[bV,g23];rfl
 have ldf:ai none (m2++[some (Ent.obj true [.int .i64 l[i].var,cE l[i],.int .i64 l[i].leaf])]) (.ptr (m0.length+2) (0+2))=some (.int .i64 l[i].leaf):=by rw[bV,g23];rfl
 have ldc:ai none (m2++[some (Ent.obj true [.int .i64 l[i].var,cE l[i],.int .i64 l[i].leaf])]) (.ptr m0.length (0+3))=some (.int .i64 c):=by rw[bV,bU (by omega),g0];rfl
 have g31:af.get (m2++[some (Ent.obj true [.int .i64 l[i].var,cE l[i],.int .i64 l[i].leaf])]) (m0.length+1)=bZ:=by rw[bU (by omega)];exact g1
 have p23:∀ d m,aC (AP ae) d m 23 []=some (qR.av,m):=fun d m=>by rw[xq,Mf];rfl
 have p20:∀ d m,aC (AP ae) d m 20 []=some (jG.av,m):=fun d m=>by rw[xq,Me];rfl
 have f3:Fr m0 (m2++[some (Ent.obj true [.int .i64 l[i].var,cE l[i],.int .i64 l[i].leaf])]) []:=f1.snoc _;have hl3:(m2++[some (Ent.obj true [.int .i64 l[i].var,cE l[i],.int .i64 l[i].leaf])]).length=m0.length+3:=by simp;omega
 have g30:af.get (m2++[some (Ent.obj true [.int .i64 l[i].var,cE l[i],.int .i64 l[i].leaf])]) m0.length=some (.obj true [L.av,NL z1 o1 l,x,.int .i64 c]):=by rw[bU (by omega)];exact g0
 have g32:af.get (m2++[some (Ent.obj true [.int .i64 l[i].var,cE l[i],.int .i64 l[i].leaf])]) (m0.length+2)=some (.obj true [.int .i64 l[i].var,cE l[i],.int .i64 l[i].leaf]):=g23 _;rw[cJ,aa,ldv,aa,iM,aa,aA];generalize Wh:m2++[some (Ent.obj true [.int .i64 l[i].var,cE l[i],.int .i64 l[i].leaf])]=m3 at *;have st1:∀ r:RV,aM (some 3) m3 (.ptr (m0.length+1) 0) r.av=some (m3.set (m0.length+1) (bR r)):=fun r=>qX (c1:=.bool false) (c2:=aq) (c3:=aq) g31;have ld1:∀ r:RV,ai (some 3) (m3.set (m0.length+1) (bR r)) (.ptr (m0.length+1) 0)=some r.av:=fun r=>pQ (cL rfl (by omega))
 by_cases hn:l[i].var=-1
 ·rw[an hn,cJ,aa,ldf,aa,cJ,aa,ldc,aa,iM,aa,aA];have hH:=Kh (s:=bH L) (ar:=ar) c hi (by omega)
  by_cases hc:l[i].leaf=c
  ·rw[an hc] at hH;rw[an hc,p23,aa];dsimp only;rw[st1,aa,ld1,aa];refine ⟨_,qR,rfl,?_,f3.set _ (.inr (by omega))⟩;rw[hH,<- hM];exact Can.wv jy (aR _) (by rw[Py h0];exact yt) E0
  ·rw[aj hc] at hH;rw[aj hc,p20,aa];dsimp only;rw[st1,aa,ld1,aa];refine ⟨_,jG,rfl,?_,f3.set _ (.inr (by omega))⟩;rw[hH];exact Can.wv jy (lC _) (by rw[xy];exact My) Ae
 ·have kf:0<=l[i].var:=by rcases bf with ⟨a,_⟩ | ⟨a,_⟩<;>omega
  obtain ⟨a1,a2⟩:=g.var i hi kf;obtain ⟨u,hu⟩:=oW kf;have oO:l[i].var.toNat=u:=by omega
  have xe:u < ar.length:=by omega
  have iU:u < L.es.length:=by rw[hO.len];omega
  obtain ⟨q,b1,b2⟩:=Ny (s:=bH L) g (fun x hx=>(h1 x hx).1) c i u hi hu;rw[oO] at a2;have fI:l[i].kids.length=iT ar u:=by unfold iT;omega
  have h6:iT ar u<=64:=by
   have:=h1 ar[u] (bI xe);have e:ar.getD u 0=ar[u]:=by rw[aT,bM xe];rfl
   unfold iT;omega
  have yT:∀ j,j < l[i].kids.length->∃ t:Nat,l[i].kids.getD j 0=t/\∃ h:t < ws.length,WV M ws[t] (SS ar (bH L) u * q j):=fun j hj=>by
   obtain ⟨t,e,ht,_⟩:=oR g hi kf (k:=j) (by rw[oO];exact ru (by omega));refine ⟨t,e,by omega,?_⟩;have:=b1 j (by omega);rw[e,cH] at this;rw[<- this];exact hws t (by omega) ht
  rw[aj hn,p20,aa];dsimp only;rw[nz,hl3]
  have st4:aM (some 3) (m3++[bZ]) (.ptr (m0.length+3) 0) jG.av=some (m3++[bR jG]):=by
   rw[qX (c1:=.bool false) (c2:=aq) (c3:=aq) (bG hl3.symm),pV m3 _ _ hl3.symm]
  have hJ:HJ m0 (m3++[bR jG]) [L.av,NL z1 o1 l,x,.int .i64 c] [.int .i64 u,cE l[i],.int .i64 l[i].leaf] jG:=
   ⟨f3.snoc _,by rw[bU (by omega)];exact g30,by rw[bU (by omega)];exact g31,by rw[bU (by omega),g32,hu],bG hl3.symm⟩
  have lc0:ai none (m3++[bR jG]) (.ptr m0.length (0+0))=some L.av:=by rw[bV,hJ.g0];rfl
  have lv0:ai none (m3++[bR jG]) (.ptr (m0.length+2) (0+0))=some (.int .i64 u):=by rw[bV,hJ.g2];rfl
  have lk0:ai none (m3++[bR jG]) (.ptr (m0.length+2) (0+1))=some (IA (kz l[i]) (ko l[i]) l[i].kids):=by rw[bV,hJ.g2,<- uj bf];rfl
  obtain ⟨rw1,rw2⟩:=hO.row u iU;obtain ⟨ss1,ss2,ss3⟩:=hO.ss iU;obtain ⟨S,hS,Vv,Vw⟩:=rw1.sum;have hSS:SS ar (bH L) u=S:=by rw[ss1,hS,cH]
  have e8:=Pq.W111s rw1 (.ptr m0.length 0) (.ptr (m0.length+1) 0) (.ptr (m0.length+2) 0) (.ptr (m0.length+3) 0) (m3++[bR jG]) (FP (aE ae.P f111.results.toList)) L.es[u].ns.length 0 (by omega);rw[List.take_zero,List.sum_nil,hS] at e8;have e8:CM (.ptr m0.length 0) (.ptr (m0.length+1) 0) (.ptr (m0.length+2) 0) (.int .i64 0) (.ptr (m0.length+3) 0) L.es[u].av (.int .i64 L.es[u].ns.length) (.int .i64 0) (m3++[bR jG]) (FP (aE ae.P f111.results.toList))=_:=e8;obtain ⟨sm,m5,e13,w5,Is⟩:=qh8 (z:=kz l[i]) (o:=ko l[i]) hO p9 jy h0 iU fI h6 (by rw[hM];exact Qw l c i) b2 hW yT (.ptr (m0.length+1) 0) (cE l[i]) (.int .i64 l[i].leaf) (FO (aE ae.P f111.results.toList)) l[i].kids.length 0 jG (m3++[bR jG]) (by omega) (by rw[ZW];exact Can.wv jy (lC _) (by rw[xy];exact My) Ae) hJ;rw[hSS] at e13;have e13:CL (.ptr m0.length 0) (.ptr (m0.length+1) 0) (.ptr (m0.length+2) 0) (.int .i64 (S:Nat)) (.ptr (m0.length+3) 0) (IA (kz l[i]) (ko l[i]) l[i].kids) (.int .i64 l[i].kids.length) (.int .i64 0) (m3++[bR jG]) (FO (aE ae.P f111.results.toList))=_:=e13;have st5:aM (some 3) m5 (.ptr (m0.length+1) 0) sm.av=some (m5.set (m0.length+1) (bR sm)):=qX (c1:=.bool false) (c2:=aq) (c3:=aq) Is.g1;have ld5:ai (some 3) (m5.set (m0.length+1) (bR sm)) (.ptr (m0.length+1) 0)=some sm.av:=pQ (cL rfl (bC Is.g1));rw[st4,aa,cJ,aa,lc0,aa,aa,lv0,aa,Pq.index_ol iU,aa,Pq.load_ol,aa,Pq.len_il,aa,e8,qa9,cJ,aa,lk0,aa,iI,aa,e13,qa6,pQ Is.g3,aa,st5,aa,ld5,aa];exact ⟨_,sm,rfl,w5,Is.fr.set _ (.inr (by omega))⟩
end
end Go.Ab
namespace Go.Ab
open Go.Proofs Go.Proofs.Tryz
section
variable {ar:List Int} {L:OL} {l:List ND} {M:Nat}
theorem X52 (hO:OddsOk ar L) (p9:L.fr=L) (g:GoodL ar l) (h1:∀ x∈ar,1<=x/\x<=64) (c:Int) (hM:M=PM ar (bH L) ar.length 0) (h0:M≠0) (jy:M < 4294967296 ^ 8) (dd:l.length<=4000) {c7:Nat} {z:Bool} {o:Own} (x6:AV) (K:KT):∀ (d i:Nat) (m:af) (x:AV) (ws:List RV) (T:List Nat),i+d=l.length ->
  m.get c7=some (.obj true [L.av,NL z o l,x,.int .i64 c])->WA m x ws T->(∀ t∈T,c7 < t)->ws.length=i->(∀ k (h:k < ws.length),WV M ws[k] (Hc ar (bH L) l c k)) ->
  ∃ (m':af) (x':AV) (ws':List RV) (T':List Nat),Ax x6 (.ptr c7 0) (.int .i64 l.length) (.int .i64 i) m K=K (.exit 0) (LJ x6 (.ptr c7 0) m')/\Fr m m' (c7::T)/\m'.get c7=some (.obj true [L.av,NL z o l,x',.int .i64 c])/\WA m' x' ws' T'/\(∀ t∈T',c7 < t)/\ws'.length=l.length/\∀ k (h:k < ws'.length),WV M ws'[k] (Hc ar (bH L) l c k):=by
 intro d
 induction d with
 | zero=>
  intro i m x ws T hi hg hw hT hl hws;refine ⟨m,x,ws,T,?_,Fr.refl _ _,hg,hw,hT,by omega,hws⟩;rw[RK,bc,aa,aA,aj (by omega)]
 | succ d ih=>
  intro i m x ws T hi hg hw hT hl hws;have cm:i < l.length:=by omega
  have rC:=bC hg;obtain ⟨xa,m6,t6,ea,ze,f6,ht6⟩:=qam hw (by omega) Ae;have qmc:c7∉T:=fun hh=>by have:=hT _ hh;omega
  have Ef:m6.get c7=some (.obj true [L.av,NL z o l,x,.int .i64 c]):=by rw[f6.get _ rC qmc];exact hg
  obtain ⟨a1,a2⟩:=Ck ze;have st:=ZK Ef a1 a2;have qmK:t6≠c7:=by omega
  have I3:WA (m6.set c7 (some (.obj true [L.av,NL z o l,xa,.int .i64 c]))) xa (ws++[jG]) [t6]:=vS ze fun t ht=>by
   simp only[List.mem_singleton] at ht;subst ht;exact cw (by omega)
  have yS:af.get (m6.set c7 (some (Ent.obj true [L.av,NL z o l,xa,.int .i64 c]))) c7=some (.obj true [L.av,NL z o l,xa,.int .i64 c]):=cL rfl (bC Ef);have f8:Fr m (m6.set c7 (some (.obj true [L.av,NL z o l,xa,.int .i64 c]))) (c7::T):=(f6.mono fun a ha=>fN _ ha).set _ (.inl (by simp));generalize hm8:m6.set c7 (some (Ent.obj true [L.av,NL z o l,xa,.int .i64 c]))=m8 at st I3 yS f8
  obtain ⟨m12,sm,e111,wsm,f12⟩:=qaA hO p9 g h1 c hM h0 jy cm (ws:=ws++[jG]) (fun k hk jA=>by
   rw[List.getElem_append_left (by omega)]
   exact hws k (by omega)) (by rw[aI];omega) (z1:=z) (o1:=o) I3
  have NJ:m12.get c7=some (.obj true [L.av,NL z o l,xa,.int .i64 c]):=by rw[f12.get _ (bC yS) (by simp)];exact yS
  have WJ:WA m12 xa (ws++[jG]) [t6]:=vS I3 fun t ht=>f12.get t (zY I3 t ht) (by simp);obtain ⟨ad,ia,put⟩:=qqz WJ (k:=i) (by rw[aI,rh];omega);obtain ⟨m14,st14,WK,f14⟩:=put m12 sm WJ;have rH:(ws++[jG]).set i sm=ws++[sm]:=by rw[sg _ _ (by omega),hl,oY];rfl
  rw[rH] at WK;have qmk:m14.get c7=some (.obj true [L.av,NL z o l,xa,.int .i64 c]):=by rw[f14.get _ (bC NJ) (by simp;omega)];exact NJ
  obtain ⟨m',x',ws',T',e,k1,k2,k3,k4,k6,k7⟩:=ih (i+1) m14 xa (ws++[sm]) [t6] (by omega) qmk WK (fun t ht=>by
   simp only[List.mem_singleton] at ht
   omega) (by rw[aI,hl];rfl) (fun k hk=>by
   rw[List.getElem_append]
   split
   ·exact hws k _
   ·rename_i hh;rw[aI,rh] at hk;obtain rfl:k=i:=by omega
    simp only[hl,oY,List.getElem_singleton]
    exact wsm)
  have f814:Fr m m14 (c7::T):=Fr.trans (Fr.trans f8 f12 fun _ h=>by cases h) f14 fun a ha=>by
   simp only[List.mem_singleton] at ha;exact .inr (by omega)
  refine ⟨m',x',ws',T',?_,Fr.trans f814 k1 (fun a ha=>?_),k2,k3,k4,k6,k7⟩
  ·have lx:∀ (mm:af) w,mm.get c7=some (.obj true [L.av,NL z o l,w,.int .i64 c])->ai none mm (.ptr c7 (0+2))=some w:=fun mm w h=>by
    rw[bV,h];rfl
   have p20:aC (AP ae) none m 20 []=some (jG.av,m):=by rw[xq,Me];rfl
   rw[RK,bc,aa,aA,an (by omega),cJ,aa,lx m x hg,aa,p20,aa];dsimp only;rw[qM (by rw[lx m x hg,aa]),Un Ae,aa,ea,aa,aa];dsimp only;rw[st,aa,aa,lx m8 xa yS,aa,vE yS,aa,e111,aa];dsimp only;rw[qM (by rw[lx m12 xa NJ,aa]),ia,aa,st14,aa,cr (by omega),aa];exact e
  ·rcases gA.1 ha with rfl | ha
   ·exact .inl (by simp)
   ·simp only[List.mem_singleton] at ha;have:=f6.len;exact .inr (by omega)
theorem V52 (hO:OddsOk ar L) (p9:L.fr=L) (g:GoodL ar l) (h1:∀ x∈ar,1<=x/\x<=64) (c:Int) (hM:M=PM ar (bH L) ar.length 0) (h0:M≠0) (jy:M < 4294967296 ^ 8) (dd:l.length<=4000) {z:Bool} :
  ∃ ws:List RV,AP ae 52 [L.av,NL z .no l,.int .i64 c]=some (cA L z .no l (wv ws).av c)/\ws.length=l.length/\∀ k (h:k < ws.length),WV M ws[k] (Hc ar (bH L) l c k):=by
 have hb:fU (.agg [aq,aq,aq,.int .i64 0]) [(0,none,L.av),(1,none,NL z .no l),(3,none,.int .i64 c)]=some (.agg [L.av,NL z .no l,aq,.int .i64 c]):=rfl
 have st1:aM (some 4) [some (.obj true [aq,aq,aq,.int .i64 0]),some (.obj true [aq,aq,aq,.int .i64 0])] (.ptr 1 0) (.agg [L.av,NL z .no l,aq,.int .i64 c])=some [some (.obj true [aq,aq,aq,.int .i64 0]),some (.obj true [L.av,NL z .no l,aq,.int .i64 c])]:=by
  rw[xH (a:=L.av) (b:=NL z .no l) (w:=aq) (n:=c) rfl rfl ⟨rfl,rfl⟩ ⟨rfl,rfl⟩ ⟨rfl,rfl⟩];rfl
 obtain ⟨m5,x5,ws,T,e3,f5,g5,zd,Nu,hlen,hws⟩:=X52 hO p9 g h1 c hM h0 jy dd (c7:=1) (z:=z) (o:=.no) (.ptr 0 0) (CF (aE ae.P f52.results.toList)) l.length 0 [some (.obj true [aq,aq,aq,.int .i64 0]),some (.obj true [L.av,NL z .no l,aq,.int .i64 c])] aq [] [] (by omega) rfl .none (by simp) rfl (by simp);have e3:Ax (.ptr 0 0) (.ptr 1 0) (.int .i64 l.length) (.int .i64 0) [some (.obj true [aq,aq,aq,.int .i64 0]),some (.obj true [L.av,NL z .no l,aq,.int .i64 c])] (CF (aE ae.P f52.results.toList))=_:=e3;have g0:m5.get 0=some (.obj true [aq,aq,aq,.int .i64 0]):=by rw[f5.get 0 (by simp) (by simp)];rfl
 obtain ⟨a1,a2⟩:=Ck zd;have st5:=xH (a:=L.av) (b:=NL z .no l) (w:=x5) (n:=c) g0 rfl ⟨rfl,rfl⟩ ⟨rfl,rfl⟩ ⟨a1,a2⟩
 have ha:AC ae 52 [L.av,NL z .no l,.int .i64 c] []=some (cA L z .no l x5 c,m5.set 0 (some (.obj true [L.av,NL z .no l,x5,.int .i64 c]))):=by
  rw[T52,hb,aa];show (aM (some 4) [some (.obj true [aq,aq,aq,.int .i64 0]),some (.obj true [aq,aq,aq,.int .i64 0])] (.ptr 1 0) (.agg [L.av,NL z .no l,aq,.int .i64 c])).bind _=_;rw[st1,aa,BH,aa];show Ax (.ptr 0 0) (.ptr 1 0) (.int .i64 l.length) (.int .i64 0) [some (.obj true [aq,aq,aq,.int .i64 0]),some (.obj true [L.av,NL z .no l,aq,.int .i64 c])] (CF (aE ae.P f52.results.toList))=_;rw[e3,qeP,vE g5,aa,st5,aa,vE (cL rfl (bC g0)),aa]
 have ze:WA (m5.set 0 (some (.obj true [L.av,NL z .no l,x5,.int .i64 c]))) x5 ws T:=vS zd fun t ht=>cw (by have:=Nu t ht;omega);refine ⟨ws,?_,hlen,hws⟩;refine iw (l:=T) ha ?_ rfl
 have q1:bB (m5.set 0 (some (.obj true [L.av,NL z .no l,x5,.int .i64 c]))) 8 L.av=some (L.av,[]):=by
  have:=Pq.fza_ol L (m5.set 0 (some (.obj true [L.av,NL z .no l,x5,.int .i64 c]))) 7;rw[p9] at this;exact this
 have q2:bB (m5.set 0 (some (.obj true [L.av,NL z .no l,x5,.int .i64 c]))) 8 (NL z .no l)=some (NL z .no l,[]):=rfl
 have q3:=Va (k:=6) ze fun r hr=>by
  obtain ⟨k,hk,rfl⟩:=Db.1 hr;exact (hws k hk).fr
 have q4:bB (m5.set 0 (some (.obj true [L.av,NL z .no l,x5,.int .i64 c]))) 8 (.int .i64 c)=some (.int .i64 c,[]):=rfl;show (dU (bB _ 8) [L.av,NL z .no l,x5,.int .i64 c]).map _=_;simp only[dU,q1,q2,q3,q4,aa,aS,bQ,bY]
end
section
variable {l:List ND}
theorem W51 {b0 b1:AV} {z:Bool} {o:Own} {L:List ND} (hL:L.length<=100000) (K:KT):∀ (q p:List ND) (m:af) (x:AV) (T:List Nat),L=p++q->NR 146 m x p T ->
  ∃ (m':af) (x':AV) (T':List Nat),C5 b0 b1 x (NL z o L) (.int .i64 L.length) (.int .i64 p.length) m K=K (.exit 0) (LH b0 b1 x' m')/\NR 146 m' x' L T'/\Fr m m' T/\Gr m T T':=by
 intro q
 induction q with
 | nil=>
  intro p m x T fG h;rw[bY] at fG;subst fG;refine ⟨m,x,T,?_,h,Fr.refl _ _,Gr.refl _ _⟩;rw[RJ,bc,aa,aA,aj (by omega)]
 | cons n q ih=>
  intro p m x T fG h;have hpl:p.length < L.length:=by rw[fG];simp
  have iF:L[p.length]=n:=by simp[fG]
  have gK:=zj (z:=z) (o:=o) hpl;rw[iF] at gK;have bx:=AX n m (Bc m);have f1:Fr m (m++[some (Ent.obj true [.int .i64 n.var,cE n,.int .i64 n.leaf])]) T:=Fr.app m _ _;have h2:NR 146 (m++[some (Ent.obj true [.int .i64 n.var,cE n,.int .i64 n.leaf])]) x p T:=ur h fun k hk=>(Fr.app m _ []).get k (uo h k hk) (by simp);obtain ⟨x3,m3,T3,ea,n3,f3,g3⟩:=Pc h2 (by omega) n;obtain ⟨m',x',T',e,k1,k2,k3⟩:=ih (p++[n]) m3 x3 T3 (by rw[fG,gd];rfl) n3
  have g13:Gr m T T3:=fun a ha=>by
   rcases g3 a ha with hh | hh
   ·exact .inl hh
   ·rw[aI] at hh;exact .inr (by omega)
  have f13:Fr m m3 T:=Fr.trans f1 f3 fun a ha=>.inl ha;refine ⟨m',x',T',?_,k1,Fr.trans f13 k2 g13,Gr.trans f13.len g13 k3⟩
  have ld2:ai (some 3) (m++[some (Ent.obj true [.int .i64 n.var,cE n,.int .i64 n.leaf])]) (.ptr m.length 0)=some n.av:=by
   rw[bV,bG rfl];rfl
  have nr:dH (some 3) [n.av]=some (.lst (some 3) false .full [n.av]):=Um n;rw[RJ,bc,aa,aA,an (by omega),gK,aa,vF,aa,mX,mX];dsimp only;rw[bx,aa,ld2,aa,nr,aa,ea,aa,cr (by omega),aa];rw[aI] at e;exact e
theorem TO {k:Nat} (hk1:1<=k) (hk:k < 2 ^ 36) {wa wb:LV} (ha:LOk k wa) (hb:LOk k wb) (hl:wa.es.length=wb.es.length) (gC:wa.es.length<=100000) (hq:∀ i (h1:i < wa.es.length) (h2:i < wb.es.length),wa.es[i].q=wb.es[i].q) {c0 c1 c2 d0 d1 d2:AV} {m:af} (g0:m.get 0=some (.obj true [c0,c1,wa.av,c2])) (g1:m.get 1=some (.obj true [d0,d1,wb.av,d2])) (K:KT):∀ d i:Nat,i+d=wa.es.length ->
  C2 (.ptr 0 0) (.ptr 1 0) (.int .i64 wa.es.length) (.int .i64 i) m K=K (.exit 2) (LD (.ptr 0 0) (.ptr 1 0) m)
 | 0,i,h=>by rw[RG,bc,aa,aA,aj (by omega)]
 | d+1,i,h=>by
  have hi:i < wa.es.length:=by omega
  have hi2:i < wb.es.length:=by omega
  have l0:ai none m (.ptr 0 (0+2))=some wa.av:=by rw[bV,g0];rfl
  have l1:ai none m (.ptr 1 (0+2))=some wb.av:=by rw[bV,g1];rfl
  have p21:aC (AP ae) (some m.length) m 21 [wa.es[i].av,wb.es[i].av]=some (.bool true,m):=by
   rw[fe (hP _) (hP _),ha.fr _ (bI hi),hb.fr _ (bI hi2),Ta (ha.ok _ (bI hi)) (hb.ok _ (bI hi2)) hk1 hk,eE (hq i hi hi2)];rfl
  rw[RG,bc,aa,aA,an (by omega),cJ,aa,l0,aa,BD ha hi,aa,BL,aa,cJ,aa,l1,aa,BD hb hi2,aa,BL,aa,p21,aa];dsimp only;rw[n9,aa,jU,gO,cr (by omega),aa];exact TO hk1 hk ha hb hl gC hq g0 g1 K d (i+1) (by omega)
theorem TM {La Lb:OL} (hn:La.es.map Pq.IL.ns=Lb.es.map Pq.IL.ns) {c1 c2 c3 d1 d2 d3:AV} {m:af} (g0:m.get 0=some (.obj true [La.av,c1,c2,c3])) (g1:m.get 1=some (.obj true [Lb.av,d1,d2,d3])) {u:Nat} (hu:u < La.es.length) (vD:u < Lb.es.length) (qmw:La.es[u].ns.length<=100000) (nh kV:AV) (K:KT):∀ d i:Nat,i+d=La.es[u].ns.length ->
  C4 (.ptr 0 0) (.ptr 1 0) (.int .i64 u) nh kV (.int .i64 La.es[u].ns.length) (.int .i64 i) m K=K (.exit 6) (LG (.ptr 0 0) (.ptr 1 0) nh kV m)
 | 0,i,h=>by rw[RI,bc,aa,aA,aj (by omega)]
 | d+1,i,h=>by
  have e:La.es[u].ns=Lb.es[u].ns:=by
   have:=cI (fun l=>l[u]?) hn;simpa [hu,vD] using this
  have hi:i < La.es[u].ns.length:=by omega
  have hi2:i < Lb.es[u].ns.length:=by rw[<- e];exact hi
  have l0:ai none m (.ptr 0 (0+0))=some La.av:=by rw[bV,g0];rfl
  have l1:ai none m (.ptr 1 (0+0))=some Lb.av:=by rw[bV,g1];rfl
  have e2:La.es[u].ns[i]=Lb.es[u].ns[i]:=by simp only[e]
  have ix1:aF none La.es[u].av (.int .i64 (i:Int))=some (.vptr [Pq.iA La.es[u].ns[i]]):=Pq.index_il hi;have ix2:aF none Lb.es[u].av (.int .i64 (i:Int))=some (.vptr [Pq.iA Lb.es[u].ns[i]]):=Pq.index_il hi2;rw[RI,bc,aa,aA,an (by omega),cJ,aa,l0,aa,Pq.index_ol hu,aa,Pq.load_ol,aa,ix1,aa,Pq.load_il,aa,cJ,aa,l1,aa,Pq.index_ol vD,aa,Pq.load_ol,aa,ix2,aa,Pq.load_il,aa,gZ,aa,aA,aj (by simp[e2]),cr (by omega),aa];exact TM hn g0 g1 hu vD qmw nh kV K d (i+1) (by omega)
theorem TN {La Lb:OL} (hn:La.es.map Pq.IL.ns=Lb.es.map Pq.IL.ns) (hl:La.es.length<=100000) (h64:∀ r∈La.es,r.ns.length<=100000) {c1 c2 c3 d1 d2 d3:AV} {m:af} (g0:m.get 0=some (.obj true [La.av,c1,c2,c3])) (g1:m.get 1=some (.obj true [Lb.av,d1,d2,d3])) (K:KT):∀ d u:Nat,u+d=La.es.length ->
  C3 (.ptr 0 0) (.ptr 1 0) (.int .i64 La.es.length) (.int .i64 u) m K=K (.exit 4) (LF m)
 | 0,u,h=>by rw[RH,bc,aa,aA,aj (by omega)]
 | d+1,u,h=>by
  have hu:u < La.es.length:=by omega
  have dd:La.es.length=Lb.es.length:=by have:=cI List.length hn;simpa using this
  have vD:u < Lb.es.length:=by omega
  have e:La.es[u].ns=Lb.es[u].ns:=by
   have:=cI (fun l=>l[u]?) hn;simpa [hu,vD] using this
  have l0:ai none m (.ptr 0 (0+0))=some La.av:=by rw[bV,g0];rfl
  have l1:ai none m (.ptr 1 (0+0))=some Lb.av:=by rw[bV,g1];rfl
  have e21:=TM hn g0 g1 hu vD (h64 _ (bI hu)) (.int .i64 La.es.length) (.int .i64 u) (Gi K) La.es[u].ns.length 0 (by omega);have e21:C4 (.ptr 0 0) (.ptr 1 0) (.int .i64 u) (.int .i64 La.es.length) (.int .i64 u) (.int .i64 La.es[u].ns.length) (.int .i64 0) m (Gi K)=_:=e21;rw[RH,bc,aa,aA,an (by omega),cJ,aa,l0,aa,Pq.index_ol hu,aa,Pq.load_ol,aa,Pq.len_il,aa,cJ,aa,l1,aa,Pq.index_ol vD,aa,Pq.load_ol,aa,Pq.len_il,aa,gZ,aa,aA,aj (by simp[e]),aa,l0,aa,Pq.index_ol hu,aa,Pq.load_ol,aa,Pq.len_il,aa,e21,qeJ,cr (by omega),aa];exact TN hn hl h64 g0 g1 K d (u+1) (by omega)
theorem qhw (hl:l.length<=100000) (hne:l≠[]) (bf:∀ n∈l,n.ok) {La Lb:OL} (hn:La.es.map Pq.IL.ns=Lb.es.map Pq.IL.ns) (dd:La.es.length<=100000) (h64:∀ r∈La.es,r.ns.length<=100000) {k:Nat} (hk1:1<=k) (hk:k < 2 ^ 36) {wa wb:LV} (ha:LOk k wa) (hb:LOk k wb) (Wg:wa.es.length=wb.es.length) (gC:wa.es.length<=100000) (hq:∀ i (h1:i < wa.es.length) (h2:i < wb.es.length),wa.es[i].q=wb.es[i].q) (z z':Bool) (o o':Own) (c:Int) :
  AP ae 51 [cA La z o l wa.av c,cA Lb z' o' l wb.av c]=some (.bool true):=by
 obtain ⟨m3,x3,T3,e3,hn3,f3,_⟩:=W51 (b0:=.ptr 0 0) (b1:=.ptr 1 0) (z:=z) (o:=o) hl (Gj (aE ae.P f51.results.toList)) l [] [some (.obj true [La.av,NL z o l,wa.av,.int .i64 c]),some (.obj true [Lb.av,NL z' o' l,wb.av,.int .i64 c])] aq [] rfl .none;obtain ⟨tk,rfl⟩:=Jn hn3 hne;have e3:C5 (.ptr 0 0) (.ptr 1 0) aq (NL z o l) (.int .i64 l.length) (.int .i64 0) [some (.obj true [La.av,NL z o l,wa.av,.int .i64 c]),some (.obj true [Lb.av,NL z' o' l,wb.av,.int .i64 c])] (Gj (aE ae.P f51.results.toList))=_:=e3;have g0:m3.get 0=some (.obj true [La.av,NL z o l,wa.av,.int .i64 c]):=by rw[f3.get 0 (by simp) (by simp)];rfl
 have g1:m3.get 1=some (.obj true [Lb.av,NL z' o' l,wb.av,.int .i64 c]):=by rw[f3.get 1 (by simp) (by simp)];rfl
 have qmA:La.es.length=Lb.es.length:=by have:=cI List.length hn;simpa using this
 have a0:ai none m3 (.ptr 0 (0+0))=some La.av:=by rw[bV,g0];rfl
 have a2:ai none m3 (.ptr 0 (0+2))=some wa.av:=by rw[bV,g0];rfl
 have a3:ai none m3 (.ptr 0 (0+3))=some (.int .i64 c):=by rw[bV,g0];rfl
 have b0:ai none m3 (.ptr 1 (0+0))=some Lb.av:=by rw[bV,g1];rfl
 have b1:ai none m3 (.ptr 1 (0+1))=some (NL z' o' l):=by rw[bV,g1];rfl
 have b2:ai none m3 (.ptr 1 (0+2))=some wb.av:=by rw[bV,g1];rfl
 have b3:ai none m3 (.ptr 1 (0+3))=some (.int .i64 c):=by rw[bV,g1];rfl
 have ew:=TO hk1 hk ha hb Wg gC hq g0 g1 (Gg (aE ae.P f51.results.toList)) wa.es.length 0 (by omega);have ew:C2 (.ptr 0 0) (.ptr 1 0) (.int .i64 wa.es.length) (.int .i64 0) m3 (Gg (aE ae.P f51.results.toList))=_:=ew;have eo:=TN hn dd h64 g0 g1 (Gh (aE ae.P f51.results.toList)) La.es.length 0 (by omega);have eo:C3 (.ptr 0 0) (.ptr 1 0) (.int .i64 La.es.length) (.int .i64 0) m3 (Gh (aE ae.P f51.results.toList))=_:=eo;have l1:ai none [some (.obj true [La.av,NL z o l,wa.av,.int .i64 c]),some (.obj true [Lb.av,NL z' o' l,wb.av,.int .i64 c])] (.ptr 0 (0+1))=some (NL z o l):=rfl;have bx0:cS none (some 4) [] (cA La z o l wa.av c)=some (.ptr 0 0,[some (.obj true [La.av,NL z o l,wa.av,.int .i64 c])]):=rfl;have bx1:cS none (some 4) [some (.obj true [La.av,NL z o l,wa.av,.int .i64 c])] (cA Lb z' o' l wb.av c)=some (.ptr 1 0,[some (.obj true [La.av,NL z o l,wa.av,.int .i64 c]),some (.obj true [Lb.av,NL z' o' l,wb.av,.int .i64 c])]):=rfl;refine iw (m:=m3) (v:=.bool true) (l:=[]) ?_ rfl rfl;rw[T51,bx0,aa];dsimp only;rw[bx1,aa,cJ,aa];dsimp only;rw[l1,aa,BH,aa,e3,qeM,cJ,aa,a2,aa,zq,aa,cJ,aa,b2,aa,zq,aa,gZ,aa,aA,aj (by simp[Wg]),cJ,aa,a0,aa,Pq.len_ol,aa,cJ,aa,b0,aa,Pq.len_ol,aa,gZ,aa,aA,aj (by simp[qmA]),cJ,aa,a3,aa,cJ,aa,b3,aa,gZ,aa,aA,aj (by simp),cJ,aa,b1,aa,qoH _ _ _ _ _ _ bf bf hl,aa];dsimp only;rw[eE rfl,n9,aa,jU,gO,aa,a2,aa,zq,aa,ew,qeC,cJ,aa,a0,aa,Pq.len_ol,aa,eo,qeF]
end
end Go.Ab
namespace Go.Ab.Pq
open Go.Proofs.Tryz
def oG:CV:=⟨⟨true,.full,[]⟩,⟨some 3,false,.full,[⟨-1,zB,4⟩]⟩,⟨some 3,false,.full,[qR]⟩,4⟩
theorem qik:COk 30 oG.fr:=⟨by simp[oG,CV.fr,OL.fr],.inl rfl,by simp[oG,CV.fr,NL.fr],⟨.inl rfl,(fun h=>by cases h),by simp[oG,CV.fr,LV.fr,E0],by
 intro r hr;have:r=qR:=by simpa [oG,CV.fr,LV.fr] using hr
 rw[this]
 exact (yt.ok (Kc (by omega)) (by omega))⟩,by simp[oG,CV.fr,LV.fr]⟩
theorem qim:py oG.fr=true:=by
 have h1:nZ qR=true:=qkU yt;simp[py,oG,CV.fr,OL.fr,NL.fr,LV.fr,oddsB,vM,uT,ql,oI,ji,h1,zB]
theorem qil:s7 oG.fr 0=true:=by
 unfold s7;refine eE ?_;have e1:wQ oG.fr.ws 0=1:=yt.q;rw[e1]
 rfl
theorem qij:yu oG.fr=0/\H4 oG.fr=1:=by
 have e:yu oG.fr=0:=by
  unfold yu;rw[an qim]
  show (match wK (s7 oG.fr) 1 0 with | none=>(0:Int) | some _=>32)=0
  rw[wK,an qil];rfl
 refine ⟨e,?_⟩;unfold H4;rw[an e];exact yt.q
theorem pcall10 {m:af} {d:Option Nat}:aC (AP ae) d m 46 []=some (.bool true,m):=by
 have h10:AP ae 46 []=some (.bool true):=by
  obtain ⟨e1,e2⟩:=qij;obtain ⟨r,r1,r2,r3,r4⟩:=V53 qik;rw[e1] at r1;rw[e2] at r2;have e9:=Ta r4 (yt.ok (Kc (by omega:1<=4000)) (by omega)) (by omega) (by omega);rw[r2,yt.q] at e9;refine cM _ _ (qG _) rfl (m:=[cC oG,cR r]) ?_;have b1:fU (.agg [.int .i64 0,.lst none true .full [],.int .i64 0]) [(0,none,.int .i64 (-1)),(2,none,.int .i64 4)]=some (ND.av ⟨-1,zB,4⟩):=rfl;have b2:dH (some 3) [ND.av ⟨-1,zB,4⟩]=some (.lst (some 3) false .full [ND.av ⟨-1,zB,4⟩]):=rfl;have b3:fU (.agg [.lst none true .full [],.lst none true .full [],.lst none true .full [],.int .i64 0]) [(1,none,.lst (some 3) false .full [ND.av ⟨-1,zB,4⟩]),(2,none,.lst (some 3) false .full [qR.av]),(3,none,.int .i64 4)]=some oG.av:=rfl;have start:AC ae 46 [] []=AC ae 46 [] []:=rfl
  conv at start=>rhs;rw[T46,b1,aa,b2,aa,dr,Mf,aS,aa,qkN E0,aa,b3,aa]
  simp only[qof,cX,aQ,bQ] at start;rw[qld (x:=zC) rfl,aa] at start;simp only[cY] at start;rw[UF (x:=oG) rfl,aa,cG (Vb _),r1,aS,aa,dL,aa,dM,aa,dY,aa] at start;simp only[BS,cX,aQ,bQ,aL,b8,br] at start;rw[dz,aa,iM,aa,eE rfl,oQ,dp,aa,dr,Mf,aS,aa,dw,r3,E0,e9,aS,aa] at start;rw[start]
  rfl
 rw[xq,h10];rfl
end Go.Ab.Pq
namespace Go.Ab
open Go.Proofs Go.Proofs.Tryz
theorem qlF {m:af} {L:OL} {z:Bool} {o:Own} {l:List ND} {x:AV} {ws:List RV} {T:List Nat} {c:Int} (k:Nat) (hw:WA m x ws T) (hf:∀ r∈ws,r.fr=r) (hL:L.fr=L):bB m (k+3) (cA L z o l x c)=some (cA L z o.fr l (wv ws).av c,T):=by
 have q1:bB m (k+2) L.av=some (L.av,[]):=by
  have:=Pq.fza_ol L m (k+1);rw[hL] at this;exact this
 have q2:bB m (k+2) (NL z o l)=some (NL z o.fr l,[]):=p8 (some 3) z o (l.map ND.av) m (k+1);have q3:=Va (k:=k) hw hf;have q4:bB m (k+2) (.int .i64 c)=some (.int .i64 c,[]):=rfl;show (dU (bB m (k+2)) [L.av,NL z o l,x,.int .i64 c]).map _=_;simp only[dU,q1,q2,q3,q4,aa,aS,bQ,bY]
section
variable {ar:List Int} {L:OL} {P:List ND} {V:LV} {c:Int}
end
end Go.Ab
namespace Go.Ab
noncomputable section
open Go.Proofs.Tryz
theorem T6 (a0 a1 a2 a3:AV) (m:af):AC ae 6 [a0,a1,a2,a3] m=(aC (AP ae) none m 45 [a0]).bind fun r1=>(aC (AP ae) none r1.2 11 [r1.1]).bind fun r2=>(ag .other .neq r2.1 (.int .i64 0)).bind fun v3=>aw v3 ((aC (AP ae) none r2.2 46 []).bind fun r4=>some (r4.1,r4.2)) ((aC (AP ae) none r2.2 47 [r1.1,a1]).bind fun r5=>(aC (AP ae) none r5.2 48 [r1.1,a2]).bind fun r6=>(AC ae 49 [r1.1,r5.1] r6.2).bind fun r7=>(aZ r7.1 0).bind fun v8=>(aZ r7.1 1).bind fun v9=>(aZ r7.1 2).bind fun v10=>(jn .not v10).bind fun v11=>aw v11 (some ((.bool false),r7.2)) ((AC ae 50 [v8,v9,r6.1,a3] r7.2).bind fun gF=>(aZ gF.1 0).bind fun bh=>(aZ gF.1 1).bind fun bg=>(aM (some 4) (az none gF.2 (.obj true [aq,aq,aq,(.int .i64 0)])).2 (.ptr (az none gF.2 .resv).1 0) bh).bind fun m15=>(aC (AP ae) none m15 18 [r1.1,r6.1]).bind fun fJ=>(jn .not fJ.1).bind fun bD=>aw bD ((ag .other .eql bg (.int .i64 1)).bind fun dQ=>aw dQ ((aP 1 (.ptr (az none gF.2 .resv).1 0)).bind fun c8=>(ai none fJ.2 c8).bind fun v20=>(aK false v20).bind fun v21=>(ag .other .eql v21 (.int .i64 0)).bind fun v22=>aw v22 ((aC (AP ae) none fJ.2 46 []).bind fun lh=>some (lh.1,lh.2)) (some ((.bool false),fJ.2))) (some ((.bool false),fJ.2))) ((ag .other .lss a3 (.int .i64 0)).bind fun v24=>aw v24 ((ag .other .eql bg (.int .i64 1)).bind fun v25=>aw v25 ((aP 1 (.ptr (az none gF.2 .resv).1 0)).bind fun v26=>(ai none fJ.2 v26).bind fun jt=>(aK false jt).bind fun v28=>(ag .other .eql v28 (.int .i64 0)).bind fun jS=>aw jS ((aC (AP ae) none fJ.2 46 []).bind fun YY=>some (YY.1,YY.2)) (some ((.bool false),fJ.2))) (some ((.bool false),fJ.2))) ((ag .other .gtr a3 (.int .i64 2147483647)).bind fun v31=>aw v31 ((ag .other .eql bg (.int .i64 1)).bind fun lW=>aw lW ((aP 1 (.ptr (az none gF.2 .resv).1 0)).bind fun oV=>(ai none fJ.2 oV).bind fun pW=>(aK false pW).bind fun mG=>(ag .other .eql mG (.int .i64 0)).bind fun tj=>aw tj ((aC (AP ae) none fJ.2 46 []).bind fun uw=>some (uw.1,uw.2)) (some ((.bool false),fJ.2))) (some ((.bool false),fJ.2))) ((AC ae 30 [v8] fJ.2).bind fun YZ=>(AC ae 50 [v8,YZ.1,r6.1,a3] YZ.2).bind fun JA=>(aZ JA.1 0).bind fun v40=>(aZ JA.1 1).bind fun zW=>(aM (some 4) (az none JA.2 (.obj true [aq,aq,aq,(.int .i64 0)])).2 (.ptr (az none JA.2 .resv).1 0) v40).bind fun m42=>(AC ae 50 [.nilp,v9,r6.1,a3] m42).bind fun JB=>(aZ JB.1 0).bind fun Fm=>(aZ JB.1 1).bind fun zX=>(aM (some 4) (az none JB.2 (.obj true [aq,aq,aq,(.int .i64 0)])).2 (.ptr (az none JB.2 .resv).1 0) Fm).bind fun m46=>(ag .other .eql bg (.int .i64 0)).bind fun Fo=>aw Fo ((ai (some 4) m46 (.ptr (az none gF.2 .resv).1 0)).bind fun Ci=>(aC (AP ae) none m46 31 [r1.1,r5.1]).bind fun qp=>pj ((ai (some 4) qp.2 (.ptr (az none gF.2 .resv).1 0)).bind (fun v=>some (v,qp.2))=some (Ci,qp.2)) ((aC (AP ae) none qp.2 52 [r6.1,qp.1,a3]).bind fun xA=>pj ((ai (some 4) xA.2 (.ptr (az none gF.2 .resv).1 0)).bind (fun v=>some (v,xA.2))=some (Ci,xA.2)) ((aC (AP ae) none xA.2 51 [Ci,xA.1]).bind fun E7=>aw E7.1 ((ag .other .eql zW (.int .i64 1)).bind fun P9=>aw P9 ((ag .other .eql zX (.int .i64 4)).bind fun v53=>aw v53 ((aC (AP ae) none E7.2 46 []).bind fun Y0=>some (Y0.1,Y0.2)) (some ((.bool false),E7.2))) (some ((.bool false),E7.2))) (some ((.bool false),E7.2))))) (pj (some (AV.tup [],m46)=some (AV.tup [],m46)) (pj (some (AV.tup [],m46)=some (AV.tup [],m46)) (some ((.bool false),m46))))))))):=
(bj ae 6 [a0,a1,a2,a3] m (fn:=f6) (c:=aB f6) at6 rfl).trans (by kernel_rfl)
end
end Go.Ab
namespace Go.Ab
open Go.Proofs Go.Proofs.Tryz
theorem LawOdds.h64 {ar:List Int} {L:OL} (h:LawOdds ar L) (h1:∀ x∈ar,1<=x/\x<=64):∀ r∈L.es,r.ns.length<=64:=fun r hr=>by
 obtain ⟨u,hu,rfl⟩:=qB hr;have:=h.row u hu;have xe:u < ar.length:=by rw[<- h.len];exact hu
 rw[aT,bM xe,eh] at this;have:=h1 _ (bI xe);omega
end Go.Ab
namespace Go.Ab
open Go.Proofs Go.Proofs.Tryz
theorem E3 (d:Option Nat) (m:af):aC (AP ae) d m 46 []=some (.bool true,m):=Pq.pcall10
theorem qlG {m:af} {L:OL} {z:Bool} {o:Own} {l:List ND} {V:LV} {c:Int} (k:Nat) (hL:L.fr=L) (hV:V.fr=V):bB m (k+2) (cA L z o l V.av c)=some (cA L z o.fr l V.av c,[]):=by
 have q1:bB m (k+1) L.av=some (L.av,[]):=by
  have:=Pq.fza_ol L m k;rw[hL] at this;exact this
 have q2:bB m (k+1) (NL z o l)=some (NL z o.fr l,[]):=p8 (some 3) z o (l.map ND.av) m k
 have q3:bB m (k+1) V.av=some (V.av,[]):=by
  have:=Pq.fza_lv V m k;rw[hV] at this;exact this
 have q4:bB m (k+1) (.int .i64 c)=some (.int .i64 c,[]):=rfl;have e:∀ cs,bB m (k+2) (.agg cs)=(dU (bB m (k+1)) cs).map fun r=>(AV.agg r.1,r.2):=fun _=>rfl;rw[e];simp only[dU,q1,q2,q3,q4,aa,aS,bQ,bY]
theorem qoK {m:af} {L L2:OL} {z z2:Bool} {o o2:Own} {l:List ND} {x:AV} {ws:List RV} {V:LV} {T:List Nat} {c:Int} (hw:WA m x ws T) (hf:∀ r∈ws,r.fr=r) (hL:L.fr=L) (hL2:L2.fr=L2) (hV:V.fr=V) :
  aC (AP ae) none m 51 [cA L z o l x c,cA L2 z2 o2 l V.av c]=(AP ae 51 [cA L z o.fr l (wv ws).av c,cA L2 z2 o2.fr l V.av c]).map fun v=>(v,jN m T):=by
 have e1:bB m j8 (cA L z o l x c)=some (cA L z o.fr l (wv ws).av c,T):=qlF 6 hw hf hL;have e2:bB m j8 (cA L2 z2 o2 l V.av c)=some (cA L2 z2 o2.fr l V.av c,[]):=qlG 7 hL2 hV;simp only[aC,dU,e1,e2,aa,aS,bY,Option.isSome_none,lY,j6,mo]
theorem qoJ (z zg:Bool) (o:Own) {ar:List Int} (h2:∀ x∈ar,1<=x/\x<=64) (h1:ar.length<=16) (gv:List Int):∃ L:OL,(∀ m,aC (AP ae) none m 48 [IA z o ar,IA zg .no gv]=some (L.av,m))/\LawOdds ar L/\∀ r∈L.es,r.z=false:=by
 obtain ⟨L,e,hL,hz⟩:=qhv z zg o.fr .no h2 h1 gv;exact ⟨L,fun m=>by rw[fe (mc z o ar) (mc zg .no gv),show (Own.no).fr=Own.no from rfl,e];rfl,hL,hz⟩
theorem qoI (z zl:Bool) (o:Own) {ar:List Int} (l:List Int) (h1:ar.length<=16) (h2:∀ a∈ar,1<=a/\a<=64) {N:Nat} (hN:oU 100 1 ar=N) (Bg:N<=100):∃ (z':Bool) (o':Own) (t:List Int),(∀ m,aC (AP ae) none m 47 [IA z o ar,IA zl .no l]=some (IA z' o' t,m))/\t.length=N/\∀ y∈t,0<=y/\y<=4:=by
 obtain ⟨z',o',t,e,_,a,b⟩:=V47 z zl o.fr .no ar l h1 h2 hN Bg;exact ⟨z',o',t,fun m=>by rw[fe (mc z o ar) (mc zl .no l),show (Own.no).fr=Own.no from rfl,e];rfl,a,fun y hy=>by have:=b y hy;omega⟩
theorem qgc (z zl zg:Bool) (ar l gv:List Int) (c:Int):∃ m',AC ae 6 [IA z .no ar,IA zl .no l,IA zg .no gv,.int .i64 c] []=some (.bool true,m'):=by
 obtain ⟨o',r,e45,hg,qqV,Eo⟩:=qhu z .no ar
 have p45:∀ m,aC (AP ae) none m 45 [IA z .no ar]=some (IA false o' r,m):=fun m=>by
  rw[cG (mc z .no ar),show (Own.no).fr=Own.no from rfl,e45];rfl
 rw[T6,p45,aa,YC,aa,gZ,aa,aA]
 by_cases he:oH r=0
 ·rw[aj (by simpa using he)];obtain ⟨h1,h2⟩:=yq he;obtain ⟨hN,Bg⟩:=qlt hg he;obtain ⟨zt,ot,t,p47,gE,Ou⟩:=qoI false zl o' l h1 h2 hN Bg;obtain ⟨L,p48,hL,hz⟩:=qoJ false zg o' h2 h1 gv;have h64:=hL.h64 h2;have mN:L.es.length<=40:=by rw[hL.len];omega
  obtain ⟨m1,s,F,zs,os,P,e49,st1,g,hP0,hP4,tab,f1,_,w9,h31⟩:=A49 (za:=false) (zt:=zt) (oa:=o') (ot:=ot) (ar:=r) (t:=t) [] (fun h=>by cases h) he (by omega) gE Ou;have hid:P.length - 1 < P.length:=by omega
  have p18:∀ m,aC (AP ae) none m 18 [IA false o' r,L.av]=some (.bool (Pq.oddsB ⟨zs,os,r⟩ L),m):=fun m=>by
   rw[fe (mc false o' r) (Pq.fz_ol L),hL.fr];have:=Pq.V18 ⟨false,o'.fr,r⟩ L h64 mN;have e:AP ae 18 [IA false o'.fr r,L.av]=some (.bool (Pq.oddsB ⟨zs,os,r⟩ L)):=this;rw[e];rfl
  dsimp only;rw[p47,aa];dsimp only;rw[p48,aa];dsimp only;rw[e49,aa,show aZ (.tup [.ptr s 0,.int .i64 (P.length - 1:Nat),.bool true]) 0=some (.ptr s 0) from rfl,aa,show aZ (.tup [.ptr s 0,.int .i64 (P.length - 1:Nat),.bool true]) 1=some (.int .i64 (P.length - 1:Nat)) from rfl,aa,show aZ (.tup [.ptr s 0,.int .i64 (P.length - 1:Nat),.bool true]) 2=some (.bool true) from rfl,aa,n9,aa,jU,gO]
  have bad:∀ m2:af,(((aM (some 4) (az none m2 (.obj true [aq,aq,aq,.int .i64 0])).2 (.ptr (az none m2 .resv).1 0) cZ)=some (m2++[some (.obj true [aq,aq,aq,.int .i64 0])]))/\ai none (m2++[some (.obj true [aq,aq,aq,.int .i64 0])]) (.ptr m2.length (0+1))=some aq):=fun m2=>by
   refine ⟨?_,by rw[bV,bG rfl];rfl⟩;rw[BR,uk,xH (a:=aq) (b:=aq) (w:=aq) (n:=0) (bG rfl) rfl ⟨rfl,rfl⟩ ⟨rfl,rfl⟩ ⟨rfl,rfl⟩,pV m2 _ _ rfl]
  cases hO:Pq.oddsB ⟨zs,os,r⟩ L with
  | false=>
   obtain ⟨m2,e50,f2⟩:=KY (m0:=m1) (x:=.ptr s 0) (id:=((P.length - 1:Nat):Int)) (c:=c) (e:=1) (y:=L.av) (v:=aq) (by omega) (qh5 (st1.app (Fr.app m1 _ _)) (by omega) g (by omega) hid h64 mN hO);obtain ⟨b1,b2⟩:=bad m2;rw[e50,aa];dsimp only;rw[kL,aa,kM,aa,b1,aa,p18,hO,aa];dsimp only;rw[n9,aa,nH,iV,show ag .other .eql (.int .i64 1) (.int .i64 1)=some (.bool true) from rfl,aa,iV,uk,cJ,aa,b2,aa,show aK false aq=some (.int .i64 0) from rfl,aa,show ag .other .eql (.int .i64 0) (.int .i64 0)=some (.bool true) from rfl,aa,iV,E3,aa];exact ⟨_,rfl⟩
  | true=>
   have bf:=Pg h64 hO;obtain ⟨tR,jy⟩:=Hv bf.all h1
   by_cases hc:0<=c/\c<=2147483647
   ·obtain ⟨m2,tk,x,ws,T,e50,f2,hw,hT,hlen,hws⟩:=qf1 st1 (by omega) g (by omega) h2 h1 hid w9 h64 mN hz hL.fr hO hc;obtain ⟨wa1,wa2⟩:=Ck hw
    have b1:aM (some 4) (m2++[some (.obj true [aq,aq,aq,.int .i64 0])]) (.ptr m2.length 0) (cA (gG L) false (.tok tk 74) P x c)=some (m2++[some (.obj true [(gG L).av,NL false (.tok tk 74) P,x,.int .i64 c])]):=by
     rw[xH (a:=(gG L).av) (b:=NL false (.tok tk 74) P) (w:=x) (n:=c) (bG rfl) rfl ⟨rfl,rfl⟩ ⟨rfl,rfl⟩ ⟨wa1,wa2⟩,pV m2 _ _ rfl]
    have f3:Fr m1 (m2++[some (.obj true [(gG L).av,NL false (.tok tk 74) P,x,.int .i64 c])]) []:=f2.snoc _;have g3:af.get (m2++[some (Ent.obj true [(gG L).av,NL false (.tok tk 74) P,x,.int .i64 c])]) m2.length=some (.obj true [(gG L).av,NL false (.tok tk 74) P,x,.int .i64 c]):=bG rfl;have Ov:WA (m2++[some (Ent.obj true [(gG L).av,NL false (.tok tk 74) P,x,.int .i64 c])]) x ws T:=vS hw fun t ht=>bU (zY hw t ht);rw[e50,aa];dsimp only;rw[kL,aa,kM,aa,BR,uk,b1,aa,p18,hO,aa];dsimp only;generalize Wh:m2++[some (Ent.obj true [(gG L).av,NL false (.tok tk 74) P,x,.int .i64 c])]=m3 at f3 g3 Ov;have st3:=st1.app f3;have e30:=A20 st3 (by omega);obtain ⟨m4,e50b,f4⟩:=KY (m0:=m3) (x:=.ptr s 0) (id:=(P.length:Int)) (c:=c) (e:=1) (y:=L.av) (v:=aq) (by omega) (qh4 (st3.app (Fr.app m3 _ _)) (by omega) (by omega) L.av);obtain ⟨b41,_⟩:=bad m4;have f5:Fr m3 (m4++[some (.obj true [aq,aq,aq,.int .i64 0])]) []:=f4.snoc _;generalize hm5:m4++[some (Ent.obj true [aq,aq,aq,.int .i64 0])]=m5 at b41 f5;obtain ⟨v6,m6',e17n,f6'⟩:=N17 (m:=m5++[some (Ent.obj true [aq,aq,aq,.int .i64 0])]) (x:=.nilp) (.inl rfl) ((P.length - 1:Nat):Int) L.av;obtain ⟨m6,e50c,f6⟩:=KY (m0:=m5) (x:=.nilp) (id:=((P.length - 1:Nat):Int)) (c:=c) (e:=4) (y:=L.av) (v:=v6) (by omega) ⟨m6',e17n,f6'⟩;obtain ⟨b61,_⟩:=bad m6;have f7:Fr m3 (m6++[some (.obj true [aq,aq,aq,.int .i64 0])]) []:=(Fr.trans f5 f6 fun _ h=>by cases h).snoc _;generalize hm7:m6++[some (Ent.obj true [aq,aq,aq,.int .i64 0])]=m7 at b61 f7;have g7:m7.get m2.length=some (.obj true [(gG L).av,NL false (.tok tk 74) P,x,.int .i64 c]):=by rw[f7.get _ (bC g3) (by simp)];exact g3
    have Ox:WA m7 x ws T:=vS Ov fun t ht=>f7.get t (zY Ov t ht) (by simp);have ld7:ai (some 4) m7 (.ptr m2.length 0)=some (cA (gG L) false (.tok tk 74) P x c):=vE g7
    have p31:aC (AP ae) none m7 31 [IA false o' r,IA zt ot t]=some (NL false .no P,m7):=by
     rw[fe (mc false o' r) (mc zt ot t),h31];rfl
    obtain ⟨ws2,e52,qmy,Oy⟩:=V52 bf hL.fr g h2 c rfl tR jy (by omega) (z:=false)
    have p52:aC (AP ae) none m7 52 [L.av,NL false .no P,.int .i64 c]=some (cA L false .no P (wv ws2).av c,m7):=by
     rw[E4 (Pq.fz_ol L) (Nc false .no P) (fW _ _),hL.fr,show (Own.no).fr=Own.no from rfl,e52];rfl
    have qmR:∀ n∈P,n.ok:=g.ok;have hne:P≠[]:=fun e=>by subst e;simp at hP0
    have wf:∀ r∈ws,ROk 9 r/\r.fr=r:=fun r hr=>by
     obtain ⟨k,hk,rfl⟩:=Db.1 hr;exact ⟨(hws k hk).wv.ok,(hws k hk).wv.fr⟩
    have wf2:∀ r∈ws2,ROk 9 r/\r.fr=r:=fun r hr=>by
     obtain ⟨k,hk,rfl⟩:=Db.1 hr;exact ⟨(Oy k hk).ok,(Oy k hk).fr⟩
    have e51:=qhw (l:=P) (by omega) hne qmR (La:=gG L) (Lb:=L) (UD L) (by unfold gG;rw[cg];omega) (fun q hq=>by
     unfold gG at hq;obtain ⟨q',Oe,rfl⟩:=iY.1 hq;have:=h64 q' Oe;show q'.ns.length<=100000
     omega) (k:=9) (by omega) (by omega) (qar wf) (qar wf2) (by rw[vT,vT];omega) (by rw[vT];omega) (fun i i1 i2=>by
      have j1:i < ws.length:=by rw[vT] at i1;exact i1
      have j2:i < ws2.length:=by rw[vT] at i2;exact i2
      have q1:(wv ws).es[i]=ws[i]:=by simp only[vT]
      have q2:(wv ws2).es[i]=ws2[i]:=by simp only[vT]
      rw[q1,q2,(hws i j1).wv.q,(Oy i j2).q]) false false .no .no c
    have p51:=qoK (m:=m7) (z:=false) (o:=.tok tk 74) (z2:=false) (o2:=.no) (l:=P) (c:=c) (L:=gG L) (L2:=L) (V:=wv ws2) Ox (fun r hr=>(wf r hr).2) (UC L) hL.fr (qqE ws2);rw[show (Own.tok tk 74).fr=Own.no from rfl,show (Own.no).fr=Own.no from rfl,e51,aS] at p51;rw[n9,aa,jU,gO,bc,aa,aA,aj (by omega),gY,aa,aA,aj (by omega),e30,aa];dsimp only;rw[e50b,aa];dsimp only;rw[kL,aa,kM,aa,b41,aa,e50c,aa];dsimp only;rw[kL,aa,kM,aa,b61,aa,show ag .other .eql (.int .i64 0) (.int .i64 0)=some (.bool true) from rfl,aa,iV,ld7,aa,p31,aa];dsimp only;rw[qM (by rw[ld7,aa]),p52,aa];dsimp only;rw[qM (by rw[ld7,aa]),p51,aa];dsimp only;rw[iV,show ag .other .eql (.int .i64 1) (.int .i64 1)=some (.bool true) from rfl,aa,iV,show ag .other .eql (.int .i64 4) (.int .i64 4)=some (.bool true) from rfl,aa,iV,E3,aa];exact ⟨_,rfl⟩
   ·obtain ⟨mw,xw,En,Tw,e17,fw,_⟩:=TI (st1.app (Fr.app m1 (some (Ent.obj true [aq,aq,aq,.int .i64 0])) _)) (by omega) g (by omega) h2 h1 hid h64 mN hO;obtain ⟨m2,e50,f2⟩:=qf0 (m0:=m1) (x:=.ptr s 0) (id:=((P.length - 1:Nat):Int)) (c:=c) (y:=L.av) (v:=xw) hc ⟨mw,e17,fw⟩;obtain ⟨b1,b2⟩:=bad m2;rw[e50,aa];dsimp only;rw[kL,aa,kM,aa,b1,aa,p18,hO,aa];dsimp only;rw[n9,aa,jU,gO,bc,aa,aA,uk]
    by_cases Iv:c < 0
    ·rw[an Iv,show ag .other .eql (.int .i64 1) (.int .i64 1)=some (.bool true) from rfl,aa,iV,cJ,aa,b2,aa,show aK false aq=some (.int .i64 0) from rfl,aa,show ag .other .eql (.int .i64 0) (.int .i64 0)=some (.bool true) from rfl,aa,iV,E3,aa];exact ⟨_,rfl⟩
    ·rw[aj Iv,gY,aa,aA,an (by omega),show ag .other .eql (.int .i64 1) (.int .i64 1)=some (.bool true) from rfl,aa,iV,cJ,aa,b2,aa,show aK false aq=some (.int .i64 0) from rfl,aa,show ag .other .eql (.int .i64 0) (.int .i64 0)=some (.bool true) from rfl,aa,iV,E3,aa];exact ⟨_,rfl⟩
 ·rw[an he,E3,aa];exact ⟨_,rfl⟩
end Go.Ab
namespace Go.Ab
open Go.Proofs Go.RowKit
theorem qnm (caps:Array Value) (w:World):CallsD Tryz.prog 140 caps .returning w fun e u w'=>(∃ v,e=.returned v)/\u=.returning/\w'=w:=by
 refine callsD_of_wpS Tryz.func140 rfl fun c₀ cs hu=>?_
 have hs:45<=(caps++Array.replicate (Tryz.f140.ntmps - caps.size) undef).size:=by
  rw[Tryz.ntmps140,Ag,Array.size_replicate];omega
 generalize caps++Array.replicate (Tryz.f140.ntmps - caps.size) undef=T at hs;apply wpS_seq;apply wpS_region;simp[wpOpsS,go_sem,recoverD,hu,Exit.thenS,Act.put,Act.eval,show 9 < T.size by omega,show 4 < T.size by omega];apply wpS_seq;apply wpS_seq;apply wpS_region;simp[wpOpsS,go_sem,recoverD,hu,Exit.thenS,Act.put,Act.eval,show 9 < T.size by omega,show 4 < T.size by omega,show 10 < T.size by omega,show 11 < T.size by omega];refine wpS_cond (t:=true) (by simp[Act.eval,show 11 < T.size by omega]) ?_;simp only[bz];refine wpS_of_wp (wp_ret ?_);cases c₀
 simp_all [bodyPostS,results,Tryz.results140,Exit.thenS]
theorem qnn (caps:Array Value) (w:World):CallsD Tryz.prog 177 caps .returning w fun e u w'=>(∃ v,e=.returned v)/\u=.returning/\w'=w:=by
 refine callsD_of_wpS Tryz.func177 rfl fun c₀ cs hu=>?_
 have hs:3<=(caps++Array.replicate (Tryz.f177.ntmps - caps.size) undef).size:=by
  rw[Tryz.ntmps177,Ag,Array.size_replicate];omega
 generalize caps++Array.replicate (Tryz.f177.ntmps - caps.size) undef=T at hs;apply wpS_seq;apply wpS_region;simp[wpOpsS,go_sem,recoverD,hu,Exit.thenS,Act.put,Act.eval,show 1 < T.size by omega,show 2 < T.size by omega];refine wpS_cond (t:=false) (by simp[Act.eval,show 2 < T.size by omega]) ?_;simp only[j6,mo];refine wpS_of_wp (wp_skip ?_);cases c₀
 simp_all [bodyPostS,results,Tryz.results177]
theorem Uf {g:Nat} {fn:Func} (hfn:Tryz.prog.funcs[g]?=some fn) (hname:(fn.name == "runtime.NumGoroutine")=false) (hbody:fn.body.isSome) (caps:Array Value)
  (h:∀ w,CallsD Tryz.prog g caps .returning w fun e u w'=>(∃ v,e=.returned v)/\u=.returning/\w'=w):Cw Tryz.prog { target:=.fn (.func g) caps,args:=#[] }:=by
 refine ⟨.func g,caps,g,caps,rfl,fun w=>⟨?_,h w⟩⟩;have hb:fn.body.isNone=false:=by cases hb:fn.body<;>simp_all
 simp only[invoke,callFunc,hfn,hname,hb,Sem.run_bind,Sem.run_pure,run_program,Result.andThen_ok,j6,mo,Array.empty_append]
theorem qkC (caps:Array Value):Cw Tryz.prog { target:=.fn (.func 140) caps,args:=#[] }:=Uf Tryz.func140 (by kernel_rfl) (by kernel_rfl) caps (qnm caps)
theorem qkD (caps:Array Value):Cw Tryz.prog { target:=.fn (.func 177) caps,args:=#[] }:=Uf Tryz.func177 (by kernel_rfl) (by kernel_rfl) caps (qnn caps)
end Go.Ab
namespace Go.Ab
open Go.RowKit
def gN:G:=⟨fun _ _=>False,fun _=>False,fun _=>none,fun _ _=>none⟩
def AU (P:Program) (t:Nat):Bool:=match P.underlying t with
 | some (.int _) | some .bool | some .string | some (.slice _)=>true
 | _=>false
def rM (P:Program) (t:Nat):Sh:=match P.underlying t with
 | some (.struct fs)=>some fs.size
 | _=>none
def oE (P:Program):Nat->Nat->AV->Prop
 | 0,_,_=>False
 | n+1,t,v=>match P.underlying t with
  | some (.int k)=>∃ i,v=.int k i/\(Lit.int k i).wf=true
  | some .bool=>∃ b,v=.bool b
  | some .string=>∃ s,v=.str s/\s.size<=maxLen
  | some (.slice e)=>∃ z es,v=.lst (rM P e) z .no es/\(z=true->es=[])/\∀ x∈es,oE P n e x
  | some (.struct fs)=>∃ cs,v=.agg cs/\cs.length=fs.size/\∀ i f,fs[i]?=some f->oE P n f.type (cs.getD i .any)
  | _=>False
def Ik (P:Program) (ok:Nat->Bool):Nat->List Field->Bool
 | _,[]=>true
 | i,f::l=>f.offset == i && P.cellsOf f.type == 1 && AU P f.type && ok f.type && Ik P ok (i+1) l
def uA (P:Program):Nat->Nat->Bool
 | 0,_=>false
 | n+1,t=>match P.underlying t with
  | some (.int _) | some .bool | some .string=>P.cellsOf t == 1
  | some (.slice e)=>P.cellsOf t == 1 && uA P n e
  | some (.struct fs)=>P.cellsOf t == fs.size && decide (0 < fs.size) && Ik P (uA P n) 0 fs.toList
  | _=>false
theorem MZ {P:Program} {ok:Nat->Bool}:∀ {l:List Field} {i0:Nat},Ik P ok i0 l=true->∀ i f,l[i]?=some f->f.offset=i0+i/\P.cellsOf f.type=1/\AU P f.type=true/\ok f.type=true
 | [],i0,h,i,f,hf=>by simp at hf
 | g::l,i0,h,i,f,hf=>by
  simp only[Ik,cn,tJ] at h;obtain ⟨⟨⟨⟨h1,h2⟩,h3⟩,h4⟩,h5⟩:=h
  cases i with
  | zero=>
   simp at hf;subst hf;exact ⟨h1,h2,h3,h4⟩
  | succ i=>
   simp at hf;obtain ⟨a,b⟩:=MZ h5 i f hf;exact ⟨by omega,b⟩
theorem U3 {s:Nat} (hs:0 < s):∀ {es:List AV},(∀ e∈es,e.cells.length=s)->(cV es).length=es.length * s/\∀ j,j < es.length * s->(cV es).getD j .any=(es.getD (j / s) .any).cells.getD (j % s) .any
 | [],h=>⟨by simp[cV],fun j hj=>by simp at hj⟩
 | e::es,h=>by
  have h0:=h e fQ;obtain ⟨h1,h2⟩:=U3 hs (fun x hx=>h x (fN _ hx));have e1:cV (e::es)=e.cells++cV es:=rfl;have e2:(e::es).length * s=es.length * s+s:=by rw[aL,im,rl]
  refine ⟨by rw[e1,aI,h0,h1,e2];omega,fun j hj=>?_⟩;rw[e1,aT]
  by_cases pa:j < s
  ·rw[nK (by omega),Nat.div_eq_of_lt pa,lB pa];show _=e.cells.getD j .any;rw[aT]
  ·rw[sa (by omega),h0,<- aT,h2 (j - s) (by omega)]
   have e3:j / s=(j - s) / s+1:=by
    have:=Nat.div_eq_sub_div hs (by omega:s<=j);omega
   have e4:j % s=(j - s) % s:=Nat.mod_eq_sub_mod (by omega);rw[e3,e4,yd]
theorem E9 {P:Program}:∀ (n t:Nat) (v:AV),uA P n t=true->oE P n t v->cU (rM P t) v=true/\pl v=true/\v.cells.length=P.cellsOf t/\0 < P.cellsOf t/\(rM P t).size=P.cellsOf t/\(AU P t=true->dG v=true)
 | 0,t,v,ht,_=>by simp[uA] at ht
 | n+1,t,v,ht,h=>by
  unfold oE at h;unfold uA at ht;unfold rM AU
  cases hu:P.underlying t with
  | none=>rw[hu] at h;exact h.elim
  | some ty=>
   rw[hu] at h ht
   cases ty with
   | int k=>
    obtain ⟨i,rfl,_⟩:=h;have hc:P.cellsOf t=1:=by simpa using ht
    exact ⟨rfl,rfl,hc.symm,by omega,hc.symm,fun _=>rfl⟩
   | bool=>
    obtain ⟨i,rfl⟩:=h;have hc:P.cellsOf t=1:=by simpa using ht
    exact ⟨rfl,rfl,hc.symm,by omega,hc.symm,fun _=>rfl⟩
   | string=>
    obtain ⟨i,rfl,_⟩:=h;have hc:P.cellsOf t=1:=by simpa using ht
    exact ⟨rfl,rfl,hc.symm,by omega,hc.symm,fun _=>rfl⟩
   | slice e=>
    obtain ⟨z,es,rfl,_⟩:=h
    have hc:P.cellsOf t=1:=by
     simp only[cn,tJ] at ht;exact ht.1
    exact ⟨rfl,rfl,hc.symm,by omega,hc.symm,fun _=>rfl⟩
   | struct fs=>
    obtain ⟨cs,rfl,hl,hf⟩:=h;simp only[cn,tJ,pJ] at ht;obtain ⟨⟨h1,h2⟩,h3⟩:=ht
    have hall:∀ c∈cs,dG c=true/\pl c=true:=by
     intro c hc;obtain ⟨i,hi,rfl⟩:=Db.1 hc;have wS:fs[i]?=some (fs[i]'(by omega)):=Cs (by omega);obtain ⟨_,b,c2,d⟩:=MZ h3 i _ (by rw[Array.getElem?_toList];exact wS);have r:=hf i _ wS;rw[aT,bM hi] at r;have:=E9 n _ _ d r;exact ⟨this.2.2.2.2.2 c2,this.2.1⟩
    have hpl:∀ l:List AV,(∀ c∈l,pl c=true)->mC l=true:=by
     intro l
     induction l with
     | nil=>intro _;rfl
     | cons a l ih=>
      intro h;show (pl a && mC l)=true;rw[h a fQ,ih (fun c hc=>h c (fN _ hc))];rfl
    refine ⟨?_,hpl cs (fun c hc=>(hall c hc).2),by show cs.length=_;omega,by omega,h1.symm,fun h=>by cases h⟩;show (cs.length == fs.size && cs.all dG)=true;rw[cn];exact ⟨by simp[hl],gJ.2 fun c hc=>(hall c hc).1⟩
   | _=>exact h.elim
section
variable {P:Program} {H:Type} {enc:TypeId×Value->H} {W:World}
theorem qo8 {w:World} {a:Addr} {n:Nat} {cs:List Value} (h:w.cells? 0 a n=some cs):cs.length=n/\∀ j,j < n->w.cell? (a.add j)=cs[j]?:=by
 unfold World.cells? at h;rw[an (lC _)] at h;refine ⟨by simpa using mapM_some_length h,fun j hj=>mapM_some_get h j j (by simp[hj])⟩
theorem qo7 {a:Addr} (h:a.spot=none) (j:Nat):a.add j=⟨a.block,a.off+j,none⟩:=by
 obtain ⟨b,o,s⟩:=a;subst h;exact nj b o j
theorem reads:∀ (n t:Nat),uA P n t=true->∀ {fuel:Nat} {cs:List Value} {x:DataW H×List MemPlace},DataW.trod enc P W 0 (fun _=>true) true fuel t cs=some x->∃ v:AV,oE P n t v/\cs.length=P.cellsOf t/\∀ j,j < P.cellsOf t->V W gN (v.cells.getD j .any) (cs.getD j undef)
 | 0,t,ht,_,_,_,_=>by simp[uA] at ht
 | n+1,t,ht,fuel,cs,x,h=>by
  have Ot:=ht;unfold uA at ht;unfold oE
  cases hu:P.underlying t with
  | none=>rw[hu] at ht;cases ht
  | some ty=>
   rw[hu] at ht
   cases ty with
   | int k=>
    have hc:P.cellsOf t=1:=by simpa using ht
    obtain ⟨i,rfl,_,hw⟩:=DataW.trod_int hu h;refine ⟨.int k i,⟨i,rfl,hw⟩,hc.symm,fun j hj=>?_⟩;obtain rfl:j=0:=by omega
    exact .int _ _
   | bool=>
    have hc:P.cellsOf t=1:=by simpa using ht
    obtain ⟨i,rfl,_⟩:=DataW.trod_bool hu h;refine ⟨.bool i,⟨i,rfl⟩,hc.symm,fun j hj=>?_⟩;obtain rfl:j=0:=by omega
    exact .bool _
   | string=>
    have hc:P.cellsOf t=1:=by simpa using ht
    obtain ⟨i,rfl,_,hw⟩:=DataW.trod_string hu h;refine ⟨.str i,⟨i,rfl,hw⟩,hc.symm,fun j hj=>?_⟩;obtain rfl:j=0:=by omega
    exact .str _
   | slice e=>
    simp only[cn,tJ] at ht;obtain ⟨hc,EC⟩:=ht
    rcases DataW.trod_slice hu h with ⟨rfl,_⟩ | ⟨a,len,cap,elems,rest,m,_,rfl,_,_,hl,hm,he,lN,Oh,_⟩
    ·refine ⟨.lst (rM P e) true .no [],⟨true,[],rfl,fun _=>rfl,fun x hx=>by cases hx⟩,hc.symm,fun j hj=>?_⟩;obtain rfl:j=0:=by omega
     exact .nils _ .no (.inr rfl)
    ·obtain ⟨Ev,Oh⟩:=Oh rfl
     have raw:∀ i,i < cap->∃ y,(W.cells? 0 (a.add (i * P.cellsOf e)) (P.cellsOf e)).bind (DataW.trod enc P W 0 (fun _=>true) true m e)=some y:=by
      intro i hi
      by_cases hi2:i < len
      ·have h1:=lN i hi2;rw[bM (by omega)] at h1;exact ⟨_,h1⟩
      ·have h1:=Oh (i - len) (by omega);rw[bM (by omega),show len+(i - len)=i by omega] at h1;exact ⟨_,h1⟩
     have at1:∀ i,i < cap->(i=0\/a.spot=none)->a.spot=none/\∃ v:AV,oE P n e v/\∀ j,j < P.cellsOf e->∃ u,W.cell? ⟨a.block,a.off+(i * P.cellsOf e+j),none⟩=some u/\V W gN (v.cells.getD j .any) u:=by
      intro i hi nQ;obtain ⟨y,hy⟩:=raw i hi;obtain ⟨cs,h1,h2⟩:=be.1 hy;obtain ⟨v,hv,hlen,hV⟩:=reads n e EC h2;have jb:=(E9 n e v EC hv).2.2.2.1;have h3:=(qo8 h1).2
      have hs:a.spot=none:=by
       rcases nQ with rfl | nQ
       ·rw[yg] at h3;have h4:=h3 0 jb;rw[bM (by omega)] at h4;exact World.cell?_spot h4
       ·exact nQ
      refine ⟨hs,v,hv,fun j hj=>?_⟩;have h4:=h3 j hj;rw[qo7 hs,nj,mH,bM (by omega)] at h4;refine ⟨_,h4,?_⟩;have:=hV j hj
      rwa [aT (l:=cs),bM (by omega)] at this
     have hsp:cap=0\/a.spot=none:=by
      by_cases h0:cap=0
      ·exact .inl h0
      ·exact .inr (at1 0 (by omega) (.inl rfl)).1
     have cell:∀ i,∃ v:AV,i < cap->oE P n e v/\∀ j,j < P.cellsOf e->∃ u,W.cell? ⟨a.block,a.off+(i * P.cellsOf e+j),none⟩=some u/\V W gN (v.cells.getD j .any) u:=by
      intro i
      by_cases hi:i < cap
      ·obtain ⟨v,hv⟩:=(at1 i hi (.inr (hsp.resolve_left (by omega)))).2;exact ⟨v,fun _=>hv⟩
      ·exact ⟨.any,fun h=>absurd h hi⟩
     obtain ⟨f,hf⟩:=Classical.axiomOfChoice cell;have hlen:((List.range len).map f).length=len:=by simp
     have gu:∀ v∈(List.range len).map f,oE P n e v:=by
      intro v hv;obtain ⟨i,hi,rfl⟩:=iY.1 hv;exact (hf i (by have:=uL.1 hi;omega)).1
     have bf:=fun v hv=>E9 n e v EC (gu v hv)
     by_cases vq:len=0
     ·subst vq;refine ⟨.lst (rM P e) false .no [],⟨false,[],rfl,(fun h=>by cases h),fun x hx=>by cases hx⟩,hc.symm,fun j hj=>?_⟩;obtain rfl:j=0:=by omega
      exact V.lst (w:=W) (g:=gN) (rM P e) .no [] a cap (fun _=>undef) hsp (lC _) hm (fun e he=>by cases he) (fun j hj=>by simp[cV] at hj) (fun j hj=>by simp[cV] at hj) trivial
     ·have nQ:0 < P.cellsOf e:=(bf (f 0) (iY.2 ⟨0,uL.2 (by omega),rfl⟩)).2.2.2.1;obtain ⟨fl1,fl2⟩:=U3 nQ (fun v hv=>(bf v hv).2.2.1);rw[hlen] at fl1 fl2
      have hcl:∀ j,j < len * P.cellsOf e->∃ u,W.cell? ⟨a.block,a.off+j,none⟩=some u/\V W gN ((cV ((List.range len).map f)).getD j .any) u:=by
       intro j hj;have hd:j / P.cellsOf e < len:=Nat.div_lt_of_lt_mul (by rw[cO];exact hj);have h1:=(hf (j / P.cellsOf e) (by omega)).2 (j % P.cellsOf e) (kA _ nQ);have e1:j / P.cellsOf e * P.cellsOf e+j % P.cellsOf e=j:=Nat.div_add_mod' j _;rw[e1] at h1;rw[fl2 j hj,aT (l:=(List.range len).map f),re,List.getElem?_range hd];exact h1
      have hus:∀ j,∃ u,j < len * P.cellsOf e->W.cell? ⟨a.block,a.off+j,none⟩=some u/\V W gN ((cV ((List.range len).map f)).getD j .any) u:=by
       intro j
       by_cases hj:j < len * P.cellsOf e
       ·obtain ⟨u,hu⟩:=hcl j hj;exact ⟨u,fun _=>hu⟩
       ·exact ⟨undef,fun h=>absurd h hj⟩
      obtain ⟨us,hus⟩:=Classical.axiomOfChoice hus;refine ⟨.lst (rM P e) false .no ((List.range len).map f),⟨false,_,rfl,(fun h=>by cases h),gu⟩,hc.symm,fun j hj=>?_⟩;obtain rfl:j=0:=by omega
      have hV:=V.lst (w:=W) (g:=gN) (rM P e) .no ((List.range len).map f) a cap us hsp (by rw[hlen];exact hl) hm
       (fun v hv=>⟨(bf v hv).1,(bf v hv).2.1⟩)
       (fun j hj=>by
        rw[fl1] at hj
        exact ⟨(hus j hj).1,fun h=>h,fun h=>h⟩)
       (fun j hj=>by
        rw[fl1] at hj
        exact (hus j hj).2) trivial
      rw[hlen] at hV;exact hV
   | struct fs=>
    simp only[cn,tJ,pJ] at ht;obtain ⟨⟨h1,h2⟩,h3⟩:=ht;obtain ⟨xs,m,_,_,hcl,rJ,hf⟩:=DataW.trod_struct hu h
    have fld:∀ i,∃ v:AV,i < fs.size->∀ f,fs[i]?=some f->oE P n f.type v/\V W gN v (cs.getD i undef):=by
     intro i
     by_cases hi:i < fs.size
     ·have wS:fs[i]?=some fs[i]:=Cs hi;obtain ⟨o,c,a,k⟩:=MZ h3 i fs[i] (by rw[Array.getElem?_toList];exact wS);have hx:=hf i fs[i] wS;rw[bM (by omega)] at hx;obtain ⟨v,hv,hlen,hV⟩:=reads n _ k hx;refine ⟨v,fun _ f hf=>?_⟩;rw[wS] at hf;obtain rfl:=pZ hf;refine ⟨hv,?_⟩;have h0:=hV 0 (by omega);have iF:=(E9 n _ v k hv).2.2.2.2.2 a
      have wP:v.cells=[v]:=by
       cases v<;>first | rfl | (simp[dG] at iF)
      rw[wP,o,br,c] at h0
      have e0:((cs.drop i).take 1).getD 0 undef=cs.getD i undef:=by
       rw[aT,aT,List.getElem?_take_of_lt (by omega),sc];rfl
      rw[e0] at h0;exact h0
     ·exact ⟨.any,fun h=>absurd h hi⟩
    obtain ⟨F,hF⟩:=Classical.axiomOfChoice fld
    have hg:∀ i,i < fs.size->((List.range fs.size).map F).getD i .any=F i:=by
     intro i hi;rw[aT,re,List.getElem?_range hi];rfl
    refine ⟨.agg ((List.range fs.size).map F),⟨_,rfl,by simp,fun i f hf=>?_⟩,hcl,fun j hj=>?_⟩
    ·have hi:i < fs.size:=(fH.1 hf).1;rw[hg i hi];exact (hF i hi f hf).1
    ·rw[h1] at hj;show V W gN (((List.range fs.size).map F).getD j .any) _;rw[hg j hj];exact (hF j hj fs[j] (Cs hj)).2
   | _=>cases ht
theorem qpc {n t e:Nat} (ht:uA P n t=true) {v:Value} {d:DataW H} {ps:List MemPlace} (hu:P.underlying t=some (.slice e)) (hv:∃ a len cap,v=.slice a len cap) (h:DataW.Trod enc P W 0 (fun _=>true) true t v d ps):∃ y:AV,V W gN y v/\oE P n t y:=by
 obtain ⟨a,len,cap,rfl⟩:=hv;obtain ⟨fuel,h⟩:=h;have h:DataW.trod enc P W 0 (fun _=>true) true fuel t [.slice a len cap]=some (d,ps):=h;obtain ⟨y,hy,hl,hV⟩:=reads n t ht h;obtain ⟨_,_,h3,_,_,h6⟩:=E9 n t y ht hy;have iF:AU P t=true:=by unfold AU;rw[hu]
 have hc:y.cells=[y]:=by
  have:=h6 iF
  cases y<;>first | rfl | (simp[dG] at this)
 have:=hV 0 (by rw[<- hl];exact Nat.zero_lt_one);rw[hc] at this;exact ⟨y,this,hy⟩
end
end Go.Ab
namespace Go.Ab
open Go.Proofs Go.Proofs.Tryz Go.RowKit
theorem Ip (nm:Nat):af.get ([]:af) nm=none:=by simp[af.get]
theorem qn3 {w:World} (h:Yd.tab w):MemR w.heap.size w gN [] where
 obj nm bx cs h:=by rw[Ip] at h;cases h
 tok nm n sz h:=by rw[Ip] at h;cases h
 resv nm h:=⟨rfl,fun _=>rfl⟩
 fresh nm h:=⟨rfl,fun _=>rfl⟩
 inj nm nm' b h:=by unfold ba at h;rw[Ip] at h;cases h
 wrLt b off h:=h.elim
 inv w' k:=Yd.tab_below (Yd.tab_lt h) h k
 boxLt b h:=h.elim
 mp nm kk es h:=by rw[Ip] at h;cases h
theorem qkV:CfgOk ae where
 ben g h caps:=by
  have h:zT Mv g=true:=h;unfold Mv at h;simp only[zT] at h
  split at h
  ·rename_i e;obtain rfl:140=g:=qC e;exact qkC caps
  ·split at h
   ·rename_i e;obtain rfl:177=g:=qC e;exact qkD caps
   ·cases h
 name g fn h:=by
  have hall:(Tryz.prog.funcs.toList.all fun fn=>!(fn.name == "runtime.NumGoroutine"))=true:=by kernel_rfl
  have hm:fn∈Tryz.prog.funcs.toList:=by
   rw[Array.mem_toList_iff];exact Array.mem_of_getElem? h
  have:=gJ.1 hall fn hm;simpa using this
 lib g h hh:=by
  have hh:(match Nat.beq g 141 with | true=>some zz | false=>none)=some h:=hh
  split at hh
  ·rename_i e;obtain rfl:g=141:=qC e;obtain rfl:=pZ hh;exact ⟨⟨f141,qi6,by kernel_rfl⟩,fun vs v hv m=>qoc vs v hv m⟩
  ·cases hh
 libm g h hh:=by
  have hh:(match Nat.beq g 148 with | true=>some zQ | false=>match Nat.beq g 149 with | true=>some yx | false=>none)=some h:=hh
  split at hh
  ·rename_i e;obtain rfl:g=148:=qC e;obtain rfl:=pZ hh;exact ⟨⟨f148,qjb,by kernel_rfl⟩,fun vs m v m' hv=>qpK (fun ba cap zs w hH hb hs=>Tryz.slices_Sort_int ba 0 cap zs w hH hb hs) (fun p cap w=>Tryz.slices_Sort_int_none p cap w) vs m v m' hv⟩
  ·split at hh
   ·rename_i e;obtain rfl:g=149:=qC e;obtain rfl:=pZ hh;exact ⟨⟨f149,(show Tryz.prog.funcs[149]?=some f149 by kernel_rfl),by kernel_rfl⟩,fun vs m v m' hv=>qk7 (fun ba cap zs w hH hs hc=>Tryz.slices_Compact_int ba 0 cap zs w hH hs hc) (fun p cap w=>Tryz.slices_Compact_int_empty p cap w) ME vs m v m' hv⟩
   ·cases hh
theorem qnG {f:Nat} {args:List AV} {vs:Array Value} {W:World} (ht:Yd.tab W) (h:∃ m',AC ae f args []=some (.bool true,m')) (hl:args.length=vs.size) (hv:∀ j,j < args.length->V W gN (args.getD j .any) (vs.getD j undef)) :
  Calls Tryz.prog f vs W fun e W'=>e=.returned (.bool true)/\Below W.heap.size W W':=by
 obtain ⟨m',hm'⟩:=h;refine ((qaE qkV f args [] _ _ hm').1 W.heap.size W gN vs (qn3 ht) (aR _) hl hv).mono ?_;rintro e W' ⟨v',g',rfl,hs,_,hv'⟩;cases hv';exact ⟨rfl,hs.below⟩
abbrev qnE:List (String×DataW Unit):=YtiipgpkgcdhbfaaGreatDoor.Rows.diagramNewsRow.laid
theorem qp8 {W:World} (h:laidMetH Tryz.prog qnE W):Yd.tab W:=by
 rw[MakeChecks.laidMetH_plain _ _ _ (by kernel_rfl)] at h;obtain ⟨ps,⟨g1,t1,cs1,fuel1,p1,q1,_,_,_,_,⟨g2,t2,cs2,fuel2,p2,q2,_,_,_,_,⟨g,t,cs,fuel,p,q,hg,ht,hv,hd,_,_⟩,_⟩,_⟩,_⟩:=h;obtain rfl:=pZ (Yd.globalPow.symm.trans hg);obtain rfl:=pZ ((show (Tryz.prog.globals[0]?).map (·.type)=some 246 by kernel_rfl).symm.trans ht);unfold Yd.tab Lib.TabIs;rw[hv];have:=Lib.cells_of_tab (zs:=Lib.pow10Tab) (k:=.u64) Tryz.underlying246 Tryz.underlying117 (by kernel_rfl) (by kernel_rfl) hd;rw[<- this]
theorem u3:Tryz.prog.underlying 3=some (.int .i64):=by kernel_rfl
theorem u4:Tryz.prog.underlying 4=some .bool:=by kernel_rfl
theorem Fg:Tryz.prog.underlying 22=some (.slice 3):=by kernel_rfl
theorem s3:rM Tryz.prog 3=none:=by unfold rM;rw[u3]
theorem qpb {n t e:Nat} {v:AV} (ht:Tryz.prog.underlying t=some (.slice e)) (h:oE Tryz.prog (n+1) t v):∃ z es,v=.lst (rM Tryz.prog e) z .no es/\(z=true->es=[])/\∀ x∈es,oE Tryz.prog n e x:=by
 unfold oE at h;rw[ht] at h;exact h
theorem qo9 {n:Nat} {v:AV} (h:oE Tryz.prog (n+1) 3 v):∃ i,v=.int .i64 i/\Yd.i64 i:=by
 unfold oE at h;rw[u3] at h;obtain ⟨i,h1,hw⟩:=h;refine ⟨i,h1,?_⟩;simp only[Lit.wf,cn,pJ] at hw;exact hw
theorem Xu {α:Type} {f:α->AV} {Q:α->Prop}:∀ {es:List AV},(∀ x∈es,∃ a,x=f a/\Q a)->∃ l:List α,es=l.map f/\∀ a∈l,Q a
 | [],_=>⟨[],rfl,by simp⟩
 | x::es,h=>by
  obtain ⟨a,rfl,ha⟩:=h x fQ;obtain ⟨l,rfl,hl⟩:=Xu (f:=f) (Q:=Q) fun y hy=>h y (fN _ hy)
  exact ⟨a::l,rfl,fun b hb=>by
   rcases gA.1 hb with rfl | hb
   ·exact ha
   ·exact hl b hb⟩
theorem qpa {n:Nat} {v:AV} (h:oE Tryz.prog (n+2) 22 v):∃ z ns,v=IA z .no ns/\(z=true->ns=[])/\∀ k∈ns,Yd.i64 k:=by
 obtain ⟨z,es,rfl,hz,he⟩:=qpb Fg h;obtain ⟨ns,rfl,hd⟩:=Xu (f:=AV.int .i64) (Q:=Yd.i64) (fun x hx=>qo9 (he x hx));exact ⟨z,ns,by rw[s3],fun h=>AH.1 (hz h),hd⟩
theorem qop:uA Tryz.prog 2 22=true:=by kernel_rfl
section
variable {H:Type} {enc:TypeId×Value->H} {W:World}
theorem OH {v:Value} {d:DataW H} {ps:List MemPlace} (hv:∃ a len cap,v=.slice a len cap) (h:DataW.Trod enc Tryz.prog W 0 (fun _=>true) true 22 v d ps):∃ z ns,V W gN (IA z .no ns) v/\(z=true->ns=[])/\∀ k∈ns,Yd.i64 k:=by
 obtain ⟨y,hy,hr⟩:=qpc qop Fg hv h;obtain ⟨z,ns,rfl,hc⟩:=qpa hr;exact ⟨z,ns,hy,hc⟩
end
end Go.Ab
