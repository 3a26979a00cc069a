/- Det: the values of its pieces. -/
import Derived.Test.YtlapgjmmlbnehaaLP4
import Derived.Test.YtlapgjmmlbnehaaLP1
import Derived.Test.YtlapgjmmlbnehaaLP2
import Derived.RangeFuncFrom
import Derived.RangeFuncLeaves
import Derived.ProofKit
import Derived.OpenShut
import Derived.ChangeArms
import Derived.KernelRfl
import Derived.OrdersIn
import Derived.Shelf.Abstract
set_option maxRecDepth 100000
set_option linter.unusedVariables false
set_option linter.unusedSimpArgs false
set_option linter.unusedSectionVars false
namespace Go.Ab
open Go.Proofs.Try
theorem WM.lok{m:ae}{nm:Nat}{es:List RV}{n c k:Nat}{N:MX}(W:WM m nm es n c (fun _=>k) N)(hk:k<2^40):LOk k ⟨some 3,false,.no,es⟩/\∀i j,i<n->j<c->gY ⟨n,c,⟨some 3,false,.no,es⟩⟩ (i*c+j)=N i j:=by
 refine ⟨⟨.inl rfl,fun h=>(by cases h),W.fr,fun r hr=>?_⟩,fun i j hi hj=>?_⟩
 .obtain ⟨p,hp,rfl⟩:=uj (show r∈es from hr);have tG:p<n*c:=by rw[<- W.len];exact hp
  have kF:0<c:=by
   rcases Nat.eq_zero_or_pos c with h0|h0
   .rw[h0,mA] at tG;omega
   .exact h0
  have h1:p/c<n:=Nat.div_lt_of_lt_mul (by rw[en];exact tG);have h2:p%c<c:=jx _ kF;have e:=Gs p c;have h3:p/c*c+p%c<es.length:=by rw[e];exact hp
  have:=(W.can _ _ h1 h2 h3).ok (W.bd _ _ h1 h2) hk;simp only[e] at this;exact this
 .have h:=W.at hi hj;rw[rl (x:=⟨n,c,⟨some 3,false,.no,es⟩⟩) h];exact (W.can i j hi hj h).q
theorem Eu(x:MV)(K:KT):aq ab 47 (AP ab) (AC ab) (c1 (al f47)) ⟨[x.av,.any,.any,.any,.any,.any,.any,.any,.any,.any,.any,.any,.any,.any,.any,.any,.any,.any,.any,.any,.any,.any,.any,.any,.any,.any,.any,.any,.any,.any,.any,.any,.any,.any,.any,.any,.any,.any,.any,.any,.any,.any,.any,.any,.any,.any,.any,.any,.any],[]⟩ K=K .normal ⟨[x.av,(.ptr 0 0),(.ptr 1 0),(.int .i64 0),.any,.any,.any,.any,.any,.any,.any,.any,.any,.any,.any,.any,.any,.any,.any,.any,.any,.any,.any,.any,.any,.any,.any,.any,.any,.any,.any,.any,.any,.any,.any,.any,.any,.any,.any,.any,.any,.any,.any,.any,.any,.any,.any,.any,.any],[cM x,cR zR]⟩:=by
 rw[qbq,im,aa]
 rfl
theorem Ev{x:MV}{k:Nat}(hx:IsM k x)(hk:k<2^38)(K:KT):aq ab 47 (AP ab) (AC ab) (c1 (c2 (al f47))) ⟨[.any,(.ptr 0 0),(.ptr 1 0),.any,.any,.any,.any,.any,.any,.any,.any,.any,.any,.any,.any,.any,.any,.any,.any,.any,.any,.any,.any,.any,.any,.any,.any,.any,.any,.any,.any,.any,.any,.any,.any,.any,.any,.any,.any,.any,.any,.any,.any,.any,.any,.any,.any,.any,.any],[cM x,cR zR]⟩ K =
  if aP x=true then K .normal ⟨[.any,(.ptr 0 0),(.ptr 1 0),.any,.any,.any,.any,.any,.any,.any,x.av,(.bool true),(.bool false),.any,.any,.any,.any,.any,.any,.any,.any,.any,.any,.any,.any,.any,.any,.any,.any,.any,.any,.any,.any,.any,.any,.any,.any,.any,.any,.any,.any,.any,.any,.any,.any,.any,.any,.any,.any],[cM x,cR zR]⟩ else K .ret ⟨[.any,(.ptr 0 0),(.ptr 1 0),(.int .i64 1),.any,.any,.any,.any,.any,.any,x.av,(.bool false),(.bool true),zR.av,.any,.any,.any,.any,.any,.any,.any,.any,.any,.any,.any,.any,.any,.any,.any,.any,.any,.any,.any,.any,.any,.any,.any,.any,.any,.any,.any,.any,.any,.any,.any,.any,.any,.any,.any],[cM x,cR zR]⟩:=by
 rw[qbr,bC (x:=x) rfl,aa,lS,hx.fr,vK hx.ok hk (by have:=hx.len;omega),ar,aa,bB,aa]
 cases hb:aP x with
 | false=>
  rw[mZ,jj,ag (by decide),show eI (.agg [(.bool false),(.lst none true .full []),(.lst none true .full [])]) []=some zR.av from rfl,aa,iV (x:=zR) rfl,aa]
  rfl
 | true=>rw[gk,fF,aj rfl]
theorem IG{x:MV}(K:KT):aq ab 47 (AP ab) (AC ab) (c1 (c2 (c2 (al f47)))) ⟨[.any,(.ptr 0 0),(.ptr 1 0),.any,.any,.any,.any,.any,.any,.any,.any,.any,.any,.any,.any,.any,.any,.any,.any,.any,.any,.any,.any,.any,.any,.any,.any,.any,.any,.any,.any,.any,.any,.any,.any,.any,.any,.any,.any,.any,.any,.any,.any,.any,.any,.any,.any,.any,.any],[cM x,cR zR]⟩ K =
  if x.rows=x.cols then K .normal ⟨[.any,(.ptr 0 0),(.ptr 1 0),.any,.any,.any,.any,.any,.any,.any,.any,.any,.any,.any,(.ptr 0 0),(.int .i64 x.rows),(.ptr 0 1),(.int .i64 x.cols),(.bool (decide (x.rows≠x.cols))),.any,.any,.any,.any,.any,.any,.any,.any,.any,.any,.any,.any,.any,.any,.any,.any,.any,.any,.any,.any,.any,.any,.any,.any,.any,.any,.any,.any,.any,.any],[cM x,cR zR]⟩ else K .ret ⟨[.any,(.ptr 0 0),(.ptr 1 0),(.int .i64 30),.any,.any,.any,.any,.any,.any,.any,.any,.any,.any,(.ptr 0 0),(.int .i64 x.rows),(.ptr 0 1),(.int .i64 x.cols),(.bool (decide (x.rows≠x.cols))),zR.av,.any,.any,.any,.any,.any,.any,.any,.any,.any,.any,.any,.any,.any,.any,.any,.any,.any,.any,.any,.any,.any,.any,.any,.any,.any,.any,.any,.any,.any],[cM x,cR zR]⟩:=by
 rw[qbs,bj,aa,gh (x:=x) rfl,aa,ba,aa,fh (x:=x) rfl,aa,iL,aa,aw]
 by_cases hc:x.rows=x.cols
 .rw[ag (fun h=>h hc),aj hc]
 .rw[aj hc,ag hc,show eI (.agg [(.bool false),(.lst none true .full []),(.lst none true .full [])]) []=some zR.av from rfl,aa,iV (x:=zR) rfl,aa]
  rfl
structure Dn (x:MV) (k n:Nat) (m:ae) (p r:Nat) (odd:Bool) (xx:MV) (ns:List Nat):Prop where
 res:m[1]?=some (cR zR)
 row:ai none m (.ptr p 0)=some (.int .i64 n)
 ec:∃(N:MX) (s:Rat) (cs:Nat->Nat),EC n n (eW x n) N s r n cs/\s=lf odd/\∀i j,i<n->j<n->gY xx (i*n+j)=N i j
 fr:xx.fr=xx
 rows:xx.rows=n
 cols:xx.cols=n
 lok:LOk (kk k n) xx.lv
 len:xx.lv.es.length=n*n
 frz:∀e:ae,∃v,ai (some 3) (m++e) (.ptr p 0)=some v/\bJ (Ab.frz (m++e) eo) [v]=some ([xx.av],ns)
 ns2:∀q∈ns,q=2
 p2:1<m.length
 nq:m.length∉ns
theorem XG{x:MV}{k n:Nat}(hx:IsM k x)(hb:aP x=true)(aD:x.rows=n)(az:x.cols=n)(hn:n<=60)(bu:1<=k)(hK:kk k n<2^36) :
  ∃(ts1:List AV) (m1:ae) (ts2:List AV) (m2:ae) (p r:Nat) (odd:Bool) (xx:MV) (ns:List Nat),
   (∀K:KT,aq ab 47 (AP ab) (AC ab) (c1 (c2 (c2 (c2 (al f47))))) ⟨[.any,(.ptr 0 0),(.ptr 1 0),.any,.any,.any,.any,.any,.any,.any,.any,.any,.any,.any,.any,.any,.any,.any,.any,.any,.any,.any,.any,.any,.any,.any,.any,.any,.any,.any,.any,.any,.any,.any,.any,.any,.any,.any,.any,.any,.any,.any,.any,.any,.any,.any,.any,.any,.any],[cM x,cR zR]⟩ K=K .normal ⟨ts1,m1⟩)/\(ts1.length=49/\ts1.getD 2 .any=.ptr 1 0/\ts1.getD 4 .any=.ptr p 0) /\
   (∀K:KT,aq ab 47 (AP ab) (AC ab) (c1 (c2 (c2 (c2 (c2 (al f47)))))) ⟨[.any,.any,(.ptr 1 0),.any,(.ptr p 0),.any,.any,.any,.any,.any,.any,.any,.any,.any,.any,.any,.any,.any,.any,.any,.any,.any,.any,.any,.any,.any,.any,.any,.any,.any,.any,.any,.any,.any,.any,.any,.any,.any,.any,.any,.any,.any,.any,.any,.any,.any,.any,.any,.any],m1⟩ K=K .normal ⟨ts2,m2⟩)/\(ts2.length=49/\ts2.getD 2 .any=.ptr 1 0/\ts2.getD 4 .any=.ptr p 0/\ts2.getD 5 .any=.int .i64 r/\ts2.getD 6 .any=.bool odd)/\Dn x k n m2 p r odd xx ns:=by
 have hl:x.lv.es.length=n*n:=by
  obtain ⟨r,c,a1,a2,_,_,a5⟩:=qg hb;rw[a5,show r=n by omega,show c=n by omega]
 have kG:=DQ hb;have kle:k<=kk k n:=mf k (jH n);obtain ⟨m0,l1,r1,r2,r3⟩:=Qw hx.ok (by have:=hx.len;omega)
 have hf:bJ (Ab.frz [cM x,cR zR] eo) [x.av]=some ([x.av],[]):=by
  simp[bJ,lH x [cM x,cR zR],hx.fr]
 have ht:=Ik (m:=[cM x,cR zR]) hf r3 r1 (by rw[r2];intro r hr;obtain ⟨r',_,rfl⟩:=ks.1 hr;exact vT _)
 rcases ht with ⟨hz,ht⟩|⟨hz,ht⟩
 .have jC:n=0:=by
   rw[hz] at r2;have h:=fE List.length r2;rw[gu,hl] at h;have h:0=n*n:=h
   rcases Nat.mul_eq_zero.1 h.symm with h|h<;>exact h
  subst jC;rw[aD,az] at ht;obtain ⟨m2,CF,kp⟩:=IF (a:=(0:Nat)) (b:=(0:Nat)) (cols:=0) (.inl rfl) (by omega) [cM x,cR zR,cM ⟨(0:Nat),(0:Nat),b9⟩];have g2:m2[2]?=some (cM ⟨(0:Nat),(0:Nat),b9⟩):=(kp.2 2 true _ rfl);have lm:m2.length=m2.length:=rfl
  refine ⟨[.any,(.ptr 0 0),(.ptr 1 0),.any,(.ptr 2 0),.any,.any,.any,.any,.any,.any,.any,.any,.any,.any,.any,.any,.any,.any,.any,x.av,(MV.av ⟨(0:Nat),(0:Nat),b9⟩),.any,.any,.any,.any,.any,.any,.any,.any,.any,.any,.any,.any,.any,.any,.any,.any,.any,.any,.any,.any,.any,.any,.any,.any,.any,.any,.any],[cM x,cR zR,cM ⟨(0:Nat),(0:Nat),b9⟩],[.any,.any,(.ptr 1 0),.any,(.ptr 2 0),(.int .i64 0),(.bool false),.any,.any,.any,.any,.any,.any,.any,.any,.any,.any,.any,.any,.any,.any,.any,(.tup [.int .i64 0,.bool false]),(MV.av ⟨(0:Nat),(0:Nat),b9⟩),(.ptr 2 1),(.int .i64 (0:Nat)),(.tup [.int .i64 0,.bool false]),(.int .i64 0),(.bool false),.any,.any,.any,.any,.any,.any,.any,.any,.any,.any,.any,.any,.any,.any,.any,.any,.any,.any,.any,.any],m2,2,0,false,⟨(0:Nat),(0:Nat),b9⟩,[],fun K=>?_,⟨?_,?_,?_⟩,fun K=>?_,⟨?_,?_,?_,?_,?_⟩,⟨(kp.2 1 true _ rfl),gh g2,⟨eW x 0,1,fun _=>0,Gv 0 0 _ _,rfl,fun i j hi=>by omega⟩,rfl,rfl,rfl,Ek _,rfl,fun e=>⟨_,bC (l7 g2),?_⟩,by simp,by rw[lm];exact rQ (show 1<3 by decide) kp.1,by simp⟩⟩
  .rw[Qf,bC (x:=x) rfl,aa,ht,aa];simp only[fg,List.foldl_nil,iG,bc,aR,aX,bm,aZ,aL,Nat.reduceAdd];rw[eO (x:=zM) (y:=⟨(0:Nat),(0:Nat),b9⟩) rfl,aa]
   rfl
  .rfl
  .rfl
  .rfl
  .rw[Qg,bC (x:=⟨(0:Nat),(0:Nat),b9⟩) rfl,aa,ba,aa,fh (x:=⟨(0:Nat),(0:Nat),b9⟩) rfl,aa,CF,aa,bY,aa,bZ,aa]
  .rfl
  .rfl
  .rfl
  .rfl
  .rfl
  .simp[bJ,lH ⟨(0:Nat),(0:Nat),b9⟩ (m2++e)]
   rfl
 .have jB:l1.es.length=n*n:=by rw[r2,gu,hl]
  have W:WM [cM x,cR zR,cA l1.es,cB n n 2 (n*n)] 2 l1.es n n (fun _=>k) (eW x n):=by
   rw[r2];exact Xq hx.ok bu kG hl rfl
  obtain ⟨m2,es2,N,s,r,cs,odd,h2,E,hs,W2,kn⟩:=IE hn hn bu hK (aW n) W;have g3:m2[3]?=some (cB n n 2 (n*n)):=(kn.2 3 true _ (by decide) rfl);have lm:m2.length=m2.length:=rfl;have g3':∀e:ae,(m2++e)[3]?=some (cB n n 2 es2.length):=fun e=>by rw[W2.len];exact l7 g3
  obtain ⟨lk,lq⟩:=W2.lok (show kk k n<2^40 by omega);rw[aD,az,jB] at ht
  refine ⟨[.any,(.ptr 0 0),(.ptr 1 0),.any,(.ptr 3 0),.any,.any,.any,.any,.any,.any,.any,.any,.any,.any,.any,.any,.any,.any,.any,x.av,(aM n n 2 (n*n)),.any,.any,.any,.any,.any,.any,.any,.any,.any,.any,.any,.any,.any,.any,.any,.any,.any,.any,.any,.any,.any,.any,.any,.any,.any,.any,.any],[cM x,cR zR,cA l1.es,cB n n 2 (n*n)],[.any,.any,(.ptr 1 0),.any,(.ptr 3 0),(.int .i64 r),(.bool odd),.any,.any,.any,.any,.any,.any,.any,.any,.any,.any,.any,.any,.any,.any,.any,(.tup [.int .i64 r,.bool odd]),(aM n n 2 (n*n)),(.ptr 3 1),(.int .i64 n),(.tup [.int .i64 r,.bool odd]),(.int .i64 r),(.bool odd),.any,.any,.any,.any,.any,.any,.any,.any,.any,.any,.any,.any,.any,.any,.any,.any,.any,.any,.any,.any],m2,3,r,odd,⟨n,n,⟨some 3,false,.no,es2⟩⟩,[2],fun K=>?_,⟨?_,?_,?_⟩,fun K=>?_,⟨?_,?_,?_,?_,?_⟩,⟨(kn.2 1 true _ (by decide) rfl),zZ g3,⟨N,s,cs,E,hs,lq⟩,rfl,rfl,rfl,lk,W2.len,fun e=>⟨_,vQ (g3' e),?_⟩,by simp,by rw[lm];exact rQ (show 1<4 by decide) kn.1,by have h4:4<=m2.length:=kn.1;simp;omega⟩⟩
  .rw[Qf,bC (x:=x) rfl,aa,ht,aa];simp only[fg,List.foldl_nil,iG,bc,aR,aX,bm,aZ,aL,Nat.reduceAdd];rw[z6 _ (n:=3) (x:=zM) rfl _ _ _ rfl,aa]
   rfl
  .rfl
  .rfl
  .rfl
  .rw[Qg,vQ (rows:=n) (cols:=n) (nm:=2) (L:=n*n) rfl,aa,ba,aa,pM (rows:=n) (cols:=n) (nm:=2) (L:=n*n) rfl,aa,h2,aa,bY,aa,bZ,aa]
  .rfl
  .rfl
  .rfl
  .rfl
  .rfl
  .have ha:=Cz (k:=6) (l7 (e:=e) (W2.hm)) W2.fr;have e1:∀(m:ae) (a b c:AV),Ab.frz m eo (.agg [a,b,c])=(bJ (Ab.frz m 8) [a,b,c]).map fun r=>(.agg r.1,r.2):=fun _ _ _ _=>rfl;have hi:∀(m:ae) (x:Int),Ab.frz m 8 (.int .i64 x)=some (.int .i64 x,[]):=fun _ _=>rfl;simp only[bJ,e1,hi,ha,aa,ar,aZ,bN,MV.av,LV.av]
end Go.Ab
namespace Go.Ab
open Go.Proofs.Try
section
variable {x:MV} {k n:Nat} {m:ae} {p r:Nat} {odd:Bool} {xx:MV} {ns:List Nat}
theorem Oj(D:Dn x k n m p r odd xx ns)(K:KT):aq ab 47 (AP ab) (AC ab) (c1 (c2 (c2 (c2 (c2 (c2 (al f47))))))) ⟨[.any,.any,(.ptr 1 0),.any,(.ptr p 0),(.int .i64 r),(.bool odd),.any,.any,.any,.any,.any,.any,.any,.any,.any,.any,.any,.any,.any,.any,.any,.any,.any,.any,.any,.any,.any,.any,.any,.any,.any,.any,.any,.any,.any,.any,.any,.any,.any,.any,.any,.any,.any,.any,.any,.any,.any,.any],m⟩ K =
  if r<n then K .ret ⟨[.any,.any,(.ptr 1 0),(.int .i64 0),(.ptr p 0),(.int .i64 r),(.bool odd),.any,.any,.any,.any,.any,.any,.any,.any,.any,.any,.any,.any,.any,.any,.any,.any,.any,.any,.any,.any,.any,.any,(.int .i64 r),(.ptr p 0),(.int .i64 n),(.bool (decide (r<n))),mw.av,.any,.any,.any,.any,.any,.any,.any,.any,.any,.any,.any,.any,.any,.any,.any],m.set 1 (cR mw)⟩ else K .normal ⟨[.any,.any,(.ptr 1 0),.any,(.ptr p 0),(.int .i64 r),(.bool odd),.any,.any,.any,.any,.any,.any,.any,.any,.any,.any,.any,.any,.any,.any,.any,.any,.any,.any,.any,.any,.any,.any,(.int .i64 r),(.ptr p 0),(.int .i64 n),(.bool (decide (r<n))),.any,.any,.any,.any,.any,.any,.any,.any,.any,.any,.any,.any,.any,.any,.any,.any],m⟩:=by
 rw[qbt,bj,aa,D.row,aa,bR,aa,aw]
 by_cases h:r<n
 .rw[aj h,aj h,b8,Kq,ar,aa,iV D.res,aa]
 .rw[ag h,ag h]
theorem XI(K:KT):aq ab 47 (AP ab) (AC ab) (c1 (c2 (c2 (c2 (c2 (c2 (c2 (al f47)))))))) ⟨[.any,.any,(.ptr 1 0),.any,(.ptr p 0),.any,(.bool odd),.any,.any,.any,.any,.any,.any,.any,.any,.any,.any,.any,.any,.any,.any,.any,.any,.any,.any,.any,.any,.any,.any,.any,.any,.any,.any,.any,.any,.any,.any,.any,.any,.any,.any,.any,.any,.any,.any,.any,.any,.any,.any],m⟩ K=K .normal ⟨[.any,.any,(.ptr 1 0),.any,(.ptr p 0),.any,(.bool odd),(.ptr m.length 0),.any,.any,.any,.any,.any,.any,.any,.any,.any,.any,.any,.any,.any,.any,.any,.any,.any,.any,.any,.any,.any,.any,.any,.any,.any,.any,j8.av,.any,.any,.any,.any,.any,.any,.any,.any,.any,.any,.any,.any,.any,.any],m++[cR j8]⟩:=by
 rw[qbu,b8,QZ,ar,aa,vh,bc,wX,aa]
theorem V82(x:MV)(fr:x.fr=x):AP ab 82 [x.av]=some (.fn 114 [vM x]):=by
 refine jE (m:=[cM x]) (v:=.fn 114 [.ptr 0 0]) (l:=[]) ?_ ?_ rfl
 .rw[T82,im];rfl
 .have e:frz [cM x] eo (.fn 114 [.ptr 0 0])=(bJ (frz [cM x] 8) [.ptr 0 0]).map fun q=>(.fn 114 q.1,q.2):=rfl;rw[e];have e2:frz [cM x] 8 (.ptr 0 0)=some (vM x.fr,[]):=GB rfl;simp only[bJ,e2,aa,ar,fr,bN]
theorem XJ(D:Dn x k n m p r odd xx ns):∃v:AV,∀(K:KT),aq ab 47 (AP ab) (AC ab) (c1 (c1 (c2 (c2 (c2 (c2 (c2 (c2 (c2 (al f47)))))))))) ⟨[.any,.any,(.ptr 1 0),.any,(.ptr p 0),.any,(.bool odd),(.ptr m.length 0),.any,.any,.any,.any,.any,.any,.any,.any,.any,.any,.any,.any,.any,.any,.any,.any,.any,.any,.any,.any,.any,.any,.any,.any,.any,.any,.any,.any,.any,.any,.any,.any,.any,.any,.any,.any,.any,.any,.any,.any,.any],m++[cR j8]⟩ K=K .normal ⟨[.any,.any,(.ptr 1 0),.any,(.ptr p 0),.any,(.bool odd),(.ptr m.length 0),.any,.any,.any,.any,.any,.any,.any,.any,.any,.any,.any,.any,.any,.any,.any,.any,.any,.any,.any,.any,.any,.any,.any,.any,.any,.any,.any,v,(.fn 114 [vM xx]),.any,.any,.any,.any,.any,.any,.any,.any,.any,.any,.any,.any],fg (m++[cR j8]) ns⟩:=by
 obtain ⟨v,h1,h2⟩:=D.frz [cR j8];refine ⟨v,fun K=>?_⟩
 have e:ao (AP ab) none (m++[cR j8]) 82 [v]=some (.fn 114 [vM xx],fg (m++[cR j8]) ns):=by
  unfold ao;rw[h2,aa];simp only[Option.isSome_none,Bool.false_and,ko,j6];rw[V82 xx D.fr];rfl
 rw[qbv,h1,aa,e,aa]
theorem XL{q:Nat}{o z:RV}(hm:m[q]?=some (cR o))(h1:m[1]?=some (cR z))(K:KT):aq ab 47 (AP ab) (AC ab) (c2 (c2 (c2 (c2 (c2 (c2 (c2 (c2 (c2 (al f47)))))))))) ⟨[.any,.any,(.ptr 1 0),.any,.any,.any,.any,(.ptr q 0),.any,.any,.any,.any,.any,.any,.any,.any,.any,.any,.any,.any,.any,.any,.any,.any,.any,.any,.any,.any,.any,.any,.any,.any,.any,.any,.any,.any,.any,.any,.any,.any,.any,.any,.any,.any,.any,.any,.any,.any,.any],m⟩ K=K .ret ⟨[.any,.any,(.ptr 1 0),(.int .i64 0),.any,.any,.any,(.ptr q 0),.any,.any,.any,.any,.any,.any,.any,.any,.any,.any,.any,.any,.any,.any,.any,.any,.any,.any,.any,.any,.any,.any,.any,.any,.any,.any,.any,.any,.any,.any,.any,.any,.any,.any,.any,.any,.any,.any,.any,.any,o.av],m.set 1 (cR o)⟩:=by
 rw[qbw,je hm,aa,iV h1,aa]
end
end Go.Ab
namespace Go.Ab
instance instWInv:WInv:=⟨fun _=>True⟩
end Go.Ab
namespace Go.Ab
open Go.Proofs.Try
section
variable (r c:Int) (z:Bool) (o:Own) (es:List AV)
abbrev px:AV:=.vptr [.int .i64 r,.int .i64 c,.lst (some 3) z o es]
def wT(i:Int):List AV:=[.any,px r c z o es,.any,.any,.any,.int .i64 r,.int .i64 i,.any,.any,.any,.any,.any,.any,.any,.any,.any,.any,.any,.any,.any,.any,.any,.any,.any,.any,.any]
def NU(i:Int):List AV:=[.any,px r c z o es,.any,.int .i64 i,.any,.int .i64 r,.int .i64 i,.any,.any,.any,.any,.any,.any,.any,.any,.any,.any,.any,.any,.any,.any,.any,.any,.any,.any,.any]
def qka(i:Int):List AV:=[.any,px r c z o es,.any,.int .i64 i,.any,.int .i64 r,.int .i64 i,.any,.any,.any,.int .i64 i,.vptr [.lst (some 3) z o es],.lst (some 3) z o es,.int .i64 i,.vptr [.int .i64 c,.lst (some 3) z o es],.int .i64 c,.int .i64 (IntKind.wrap .i64 (i*c)),.int .i64 i,.int .i64 (IntKind.wrap .i64 (i+1)),.vptr [.int .i64 c,.lst (some 3) z o es],.int .i64 c,.int .i64 (IntKind.wrap .i64 (IntKind.wrap .i64 (i+1)*c)),.any,.any,.any,.any]
theorem qiD:sO ab 114 (fQ (c1 (al f114))) [0,1,2] [.any,px r c z o es,.any,.any,.any,.any,.any,.any,.any,.any,.any,.any,.any,.any,.any,.any,.any,.any,.any,.any,.any,.any,.any,.any,.any,.any]=some [.any,px r c z o es,.any,.any,px r c z o es,.int .i64 r,.int .i64 0,.any,.any,.any,.any,.any,.any,.any,.any,.any,.any,.any,.any,.any,.any,.any,.any,.any,.any,.any]:=by kernel_rfl
theorem Vy(i:Int):sO ab 114 (fQ (c1 (c1 (c1 (c2 (al f114)))))) [0] (wT r c z o es i)=some [.any,px r c z o es,.any,.any,.any,.int .i64 r,.int .i64 i,.bool (decide (i<r)),.any,.any,.any,.any,.any,.any,.any,.any,.any,.any,.any,.any,.any,.any,.any,.any,.any,.any]:=by kernel_rfl
theorem qiE(i:Int):sO ab 114 (fQ (c1 (c1 (c1 (c2 (c2 (c1 (c1 (c2 (al f114)))))))))) [0,1] (wT r c z o es i)=some [.any,px r c z o es,.any,.int .i64 i,.any,.int .i64 r,.int .i64 i,.any,.int .i64 i,.any,.any,.any,.any,.any,.any,.any,.any,.any,.any,.any,.any,.any,.any,.any,.any,.any]:=by kernel_rfl
theorem qiF(i:Int):sO ab 114 (fQ (c1 (c2 (c1 (c1 (c2 (c2 (c1 (c1 (c2 (al f114))))))))))) [1,2,3,4,5,6,7,8,9,10,11,12] (NU r c z o es i)=some (qka r c z o es i):=by kernel_rfl
theorem qiG(i:Int):sO ab 114 (fQ (c2 (c2 (c2 (c1 (c1 (c2 (al f114)))))))) [0,1] (wT r c z o es i)=some [.any,px r c z o es,.any,.any,.any,.int .i64 r,.int .i64 (IntKind.wrap .i64 (i+1)),.any,.any,.any,.any,.any,.any,.any,.any,.any,.any,.any,.any,.any,.any,.any,.any,.any,.any,.int .i64 (IntKind.wrap .i64 (i+1))]:=by kernel_rfl
theorem qiH(i:Int)(b:Bool):sO ab 114 (fQ (c1 (c2 (c1 (c1 (c2 (c2 (c1 (c1 (c2 (al f114))))))))))) [15] [.any,px r c z o es,.any,.any,.any,.int .i64 r,.int .i64 i,.any,.any,.any,.any,.any,.any,.any,.any,.any,.any,.any,.any,.any,.any,.any,.any,.bool b,.any,.any]=some [.any,px r c z o es,.any,.any,.any,.int .i64 r,.int .i64 i,.any,.any,.any,.any,.any,.any,.any,.any,.any,.any,.any,.any,.any,.any,.any,.any,.bool b,.bool (!b),.any]:=by kernel_rfl
end
theorem qfM:al f114=.seq (.region 0 (fQ (c1 (al f114))) false) (.block 0 (.loop (.seq (.region 1 (fQ (c1 (c1 (c1 (c2 (al f114)))))) false) (.seq (.cond (.tmp 7) .skip (.exit 0)) (.seq (.block 1 (.seq (.region 2 (fQ (c1 (c1 (c1 (c2 (c2 (c1 (c1 (c2 (al f114)))))))))) false) (.seq (.region 3 (fQ (c1 (c2 (c1 (c1 (c2 (c2 (c1 (c1 (c2 (al f114))))))))))) false) (.cond (.tmp 24) .ret .skip)))) (.region 4 (fQ (c2 (c2 (c2 (c1 (c1 (c2 (al f114)))))))) false)))))):=by kernel_rfl
theorem VI(ts:Array Value)(w:World):(results f114 ts).run prog w=.ok (.tuple #[]) w:=by
 rw[Nt,IA,show f114.results.toList=[] from rfl];simp
end Go.Ab
namespace Go.Ab
open Go.Proofs.Try Go.RowKit
abbrev HW(z:Bool)(es:List AV)(c i:Nat):AV:=.lst (some 3) z .no ((es.take ((i+1)*c)).drop (i*c))
abbrev FY(w:World)(g:G)(r c:Nat)(z:Bool)(es:List AV):={ p:Nat×Value // p.1<r/\V w g (HW z es c p.1) p.2 }
def xR{w:World}{g:G}{r c:Nat}{z:Bool}{es:List AV}(x:FY w g r c z es):Array Value:=#[.int .i64 (x.1.1:Int),x.1.2]
theorem qc9:∀(n t:Nat),(List.replicate n AV.any).getD t .any=.any:=by
 intro n t;rw[bA,ui];split<;>rfl
theorem gn.put'{w:World}{g:G}{ts:List AV}{a:Act}(h:gn w g ts a.tmps){v:AV}{v':Value}(hv:V w g v v')(d:Nat){ts':List AV}(e:ts.set d v=ts'):gn w g ts' (a.put (some d) v').tmps:=by
 subst e;exact h.put hv (some d)
theorem Vx{a:Act}{d:Nat}{v:Value}(h:d<a.tmps.size):(a.put (some d) v).tmps.getD d undef=v:=by
 simp only[Act.put];rw[fV,Array.getElem?_setIfInBounds_self];simp[h]
noncomputable def pQ(i:Nat):Oper:=((fQ (c1 (c2 (c1 (c1 (c2 (c2 (c1 (c1 (c2 (al f114)))))))))))[i]?).getD default
theorem qec:(fQ (c1 (c2 (c1 (c1 (c2 (c2 (c1 (c1 (c2 (al f114)))))))))))[0]?=some (pQ 0):=by kernel_rfl
theorem qed:(fQ (c1 (c2 (c1 (c1 (c2 (c2 (c1 (c1 (c2 (al f114)))))))))))[13]?=some (pQ 13):=by kernel_rfl
theorem qee:(fQ (c1 (c2 (c1 (c1 (c2 (c2 (c1 (c1 (c2 (al f114)))))))))))[14]?=some (pQ 14):=by kernel_rfl
theorem MZ:(pQ 0).op=.move (.tmp 0)/\(pQ 0).guard=none/\(pQ 0).dst=some 9:=⟨by kernel_rfl,by kernel_rfl,by kernel_rfl⟩
theorem HB:(pQ 13).op=.slice 22 (.tmp 12) (some (.tmp 16)) (some (.tmp 21)) none/\(pQ 13).guard=none/\(pQ 13).dst=some 22:=⟨by kernel_rfl,by kernel_rfl,by kernel_rfl⟩
theorem HC:(pQ 14).op=.call { callee:=.value (.tmp 9),args:=#[.tmp 10,.tmp 22],argTypes:=#[3,22] }/\(pQ 14).guard=none/\(pQ 14).dst=some 23:=⟨by kernel_rfl,by kernel_rfl,by kernel_rfl⟩
theorem gn.flat{w w':World}{g g':G}{ts:List AV}{vs:Array Value}(h:gn w g ts vs)(hw:∀x∈ts,wl x=true):gn w' g' ts vs:=
 ⟨h.1,fun t=>by
  by_cases ht:t<ts.length
  .exact (h.2 t).flat (hw _ (oI ht))
  .rw[bA,iC (by omega)];exact .any _⟩
theorem qiI(b:Bool):sO ab 114 (fQ (c1 (c2 (c1 (c1 (c2 (c2 (c1 (c1 (c2 (al f114))))))))))) [15] [.any,.any,.any,.any,.any,.any,.any,.any,.any,.any,.any,.any,.any,.any,.any,.any,.any,.any,.any,.any,.any,.any,.any,.bool b,.any,.any]=some [.any,.any,.any,.any,.any,.any,.any,.any,.any,.any,.any,.any,.any,.any,.any,.any,.any,.any,.any,.any,.any,.any,.any,.bool b,.bool (!b),.any]:=by kernel_rfl
theorem V.int_eq{w:World}{g:G}{k:IntKind}{n:Int}{v:Value}(h:V w g (.int k n) v):v=.int k n:=by cases h;rfl
theorem V.bool_eq{w:World}{g:G}{b:Bool}{v:Value}(h:V w g (.bool b) v):v=.bool b:=by cases h;rfl
theorem qj9:prog.underlying 22=some (.slice 43):=by kernel_rfl
theorem qjn:iz prog 43=some (some 3):=by kernel_rfl
theorem qfP:mL prog 43 (some 3)=true:=by kernel_rfl
theorem tZ{w:World}{g:G}{args:List AV}{vs:Array Value}(hl:args.length=vs.size)(hv:∀j,j<args.length->V w g (args.getD j .any) (vs.getD j undef))(k:Nat):gn w g (args++List.replicate k .any) (vs++Array.replicate k undef):=by
 refine ⟨by simp[hl],fun t=>?_⟩;simp only[bA,fV,pL,Em]
 by_cases h1:t<args.length
 .rw[aj h1,aj (by omega)];simpa [bA,fV] using hv t h1
 .rw[ag h1,ag (by omega),ui];split<;>exact .any _
theorem Tg:prog.funcs[114]?=some f114:=by kernel_rfl
theorem qh6:f114.ntmps=26:=by kernel_rfl
theorem SZ:f114.body=some (al f114):=by kernel_rfl
theorem qjA{w:World}{g:G}{r c:Nat}{z:Bool}{o:Own}{es:List AV}{pv:Value}(hV:V w g (px r c z o es) pv)(hl:es.length=r*c)(hr:r<=60)(hc:c<=60){n:Nat}(hn:1<=n) :
  SeqStopsK Fence.wide n prog 114 #[pv] (xR (w:=w) (g:=g) (r:=r) (c:=c) (z:=z) (es:=es)) (Hold g w) (fun xs=>xs.map (fun x=>x.1.1)=List.range r) (fun _=>True) r w:=by
 intro l J Jx W hW hJ hJx hY h0;have hF:ik Fence.wide:=.inl rfl;have hH:=Hold.of_below hW (g:=g);refine callsIn_of_wp (fn:=f114) (c:=al f114) ?hf ?hb ?hF ?hh ?hro
 case hf=>exact Tg
 case hb=>exact SZ
 case hF=>exact hF.fn 114
 case hro=>rfl
 have hA:((#[.func (.yield l) #[] #[]] ++ #[pv])++Array.replicate (f114.ntmps-(#[.func (.yield l) #[] #[]] ++ #[pv]:Array Value).size) undef:Array Value) = #[.func (.yield l) #[] #[],pv]++Array.replicate 24 undef:=by
  rw[qh6];rfl
 rw[hA]
 have kO:gn w g [.any,px r c z o es,.any,.any,.any,.any,.any,.any,.any,.any,.any,.any,.any,.any,.any,.any,.any,.any,.any,.any,.any,.any,.any,.any,.any,.any] (#[.func (.yield l) #[] #[],pv]++Array.replicate 24 undef):=
  tZ (args:=[.any,px r c z o es]) (vs:=#[.func (.yield l) #[] #[],pv]) rfl (fun j hj=>by
   rcases j with _|_|j
   .exact V.any _
   .exact hV
   .simp at hj;omega) 24
 have Uc:(#[.func (.yield l) #[] #[],pv]++Array.replicate 24 undef:Array Value).getD 0 undef=.func (.yield l) #[] #[]:=by rw[fV];simp
 generalize (#[.func (.yield l) #[] #[],pv]++Array.replicate 24 undef:Array Value)=tmps0 at kO Uc ⊢;rw[qfM];refine wpIn_seq (wpIn_region ?_);rw[show List.range (fQ (c1 (al f114))).size=[0,1,2]++[] by kernel_rfl];refine wP (C:=ab) hF hH [] [0,1,2] _ _ _ (qiD r c z o es) kO fun a1 mR iP bu=>?_;refine wpIn_block (wpIn_loop_rounds (r+1) ?_)
 have key:∀(j k:Nat) (pre:List (FY w g r c z es)) (a:Act) (W:World),k+j=r->pre.map (fun x=>x.1.1)=List.range k->J pre W->Hold g w w W->gn w g (wT r c z o es k) a.tmps->a.tmps.getD 0 undef=.func (.yield l) #[] #[]->a.defers=[] ->
   Code.roundsIn Fence.wide n prog (.seq (.region 1 (fQ (c1 (c1 (c1 (c2 (al f114)))))) false) (.seq (.cond (.tmp 7) .skip (.exit 0)) (.seq (.block 1 (.seq (.region 2 (fQ (c1 (c1 (c1 (c2 (c2 (c1 (c1 (c2 (al f114)))))))))) false) (.seq (.region 3 (fQ (c1 (c2 (c1 (c1 (c2 (c2 (c1 (c1 (c2 (al f114))))))))))) false) (.cond (.tmp 24) .ret .skip)))) (.region 4 (fQ (c2 (c2 (c2 (c1 (c1 (c2 (al f114)))))))) false))))
    (Exit.inBlock 0 (bodyPost prog f114 fun e W'=>(∃v,e=.returned v)/\((∃xs:List (FY w g r c z es),xs.map (fun x=>x.1.1)=List.range r/\J xs W')\/∃pre:List (FY w g r c z es),True/\Jx pre W'))) (j+1) a W:=by
  intro j
  induction j with
  | zero=>
   intro k pre a W hk G8 Lj hH ht hy hd;obtain rfl:k=r:=by omega
   rw[roundsIn_succ];refine wpIn_seq (wpIn_region ?_);rw[show List.range (fQ (c1 (c1 (c1 (c2 (al f114)))))).size=[0]++[] by kernel_rfl];refine wP (C:=ab) hF hH [] [0] _ _ _ (Vy k c z o es k) ht fun a1 mR iP bu=>?_;have h7:=mR.2 7;have e7:decide ((k:Int)<k)=false:=by simp
   rw[e7] at h7;have xX:a1.eval (.tmp 7)=.bool false:=by cases hx:a1.tmps.getD 7 undef<;>(rw[hx] at h7;cases h7)<;>exact hx
   refine wpIn_seq (wpIn_cond_false xX (wpIn_exit ?_));exact ⟨iP.trans hd,_,VI _ _,⟨_,rfl⟩,.inl ⟨pre,G8,Lj⟩⟩
  | succ j ih=>
   intro k pre a W hk G8 Lj hH ht hy hd;have sk:k<r:=by omega
   rw[roundsIn_succ];refine wpIn_seq (wpIn_region ?_);rw[show List.range (fQ (c1 (c1 (c1 (c2 (al f114)))))).size=[0]++[] by kernel_rfl];refine wP (C:=ab) hF hH [] [0] _ _ _ (Vy r c z o es k) ht fun a1 mR iP bu=>?_;have h7:=mR.2 7;have e7:decide ((k:Int)<r)=true:=by simp;omega
   rw[e7] at h7;have xX:a1.eval (.tmp 7)=.bool true:=by cases hx:a1.tmps.getD 7 undef<;>(rw[hx] at h7;cases h7)<;>exact hx
   refine wpIn_seq (wpIn_cond_true xX (wpIn_skip ?_));refine wpIn_seq (wpIn_block (wpIn_seq (wpIn_region ?_)))
   have qhe:gn w g (wT r c z o es k) a1.tmps:=mR.less rfl fun t=>by
    match t with
    | 0|1|2|3|4|5|6=>exact .inl rfl
    | 7=>exact .inr rfl
    | t+8=>exact .inl rfl
   rw[show List.range (fQ (c1 (c1 (c1 (c2 (c2 (c1 (c1 (c2 (al f114)))))))))).size=[0,1]++[] by kernel_rfl];refine wP (C:=ab) hF hH [] [0,1] _ _ _ (qiE r c z o es k) qhe fun a2 oN jz pU=>?_;refine wpIn_seq (wpIn_region ?_);have Hf:a2.tmps.getD 0 undef=.func (.yield l) #[] #[]:=by rw[pU 0 (by kernel_rfl),bu 0 (by kernel_rfl)];exact hy
   rw[show List.range (fQ (c1 (c2 (c1 (c1 (c2 (c2 (c1 (c1 (c2 (al f114))))))))))).size=0::([1,2,3,4,5,6,7,8,9,10,11,12]++[13,14,15]) by kernel_rfl,zm];refine qhT hF qec MZ.1 MZ.2.1 ?_;rw[MZ.2.2];have qhd:26=a2.tmps.size:=oN.1;have e3:a2.eval (.tmp 0)=.func (.yield l) #[] #[]:=Hf;rw[e3]
   have ht3:gn w g (NU r c z o es k) (a2.put (some 9) (.func (.yield l) #[] #[])).tmps:=
    (oN.less (ts':=NU r c z o es k) rfl fun t=>by
     match t with
     | 0|1|2|3|4|5|6|7=>exact .inl rfl
     | 8=>exact .inr rfl
     | t+9=>exact .inl rfl).put' (.any _) 9 rfl
   refine wP (C:=ab) hF hH [13,14,15] [1,2,3,4,5,6,7,8,9,10,11,12] _ _ _ (qiF r c z o es k) ht3 fun a4 AG sc Ty=>?_
   have hy4:a4.tmps.getD 9 undef=.func (.yield l) #[] #[]:=by
    rw[Ty 9 (by kernel_rfl)];exact Vx (by omega)
   have qkv:k*c<=60*60:=il (by omega) hc;have qkw:(k+1)*c<=60*60:=il (by omega) hc;have hle:k*c<=(k+1)*c:=il (by omega) (aW _);have qgF:(k+1)*c<=es.length:=by rw[hl];exact il (by omega) (aW _)
   have e16:a4.eval (.tmp 16)=.int .i64 ((k*c:Nat):Int):=by
    have h:=(AG.2 16).int_eq (k:=.i64) (n:=IntKind.wrap .i64 ((k:Int)*c));rw[km (by rw[<- l5];omega) (by rw[<- l5];omega)] at h;rw[l5];exact h
   have e21:a4.eval (.tmp 21)=.int .i64 (((k+1)*c:Nat):Int):=by
    have h:=(AG.2 21).int_eq (k:=.i64) (n:=IntKind.wrap .i64 (IntKind.wrap .i64 ((k:Int)+1)*c));have e1:IntKind.wrap .i64 ((k:Int)+1)=((k+1:Nat):Int):=by rw[km (by omega) (by omega)];rfl
    rw[e1,km (by rw[<- l5];omega) (by rw[<- l5];omega)] at h;rw[l5];exact h
   obtain ⟨v,jY,hv⟩:=qjr (P:=prog) (AG.2 12:V w g (.lst (some 3) z o es) (a4.tmps.getD 12 undef)) hle qgF 22 qj9 qjn qfP;rw[zm]
   refine Is hF qed (v:=v) (fun c h=>by rw[HB.1] at h;cases h) HB.2.1 ?_ ?_
   .have:(execOp a4.eval (pQ 13)).run prog W=(do pure (Next.value (<- Instr.sliceAt 22 (a4.eval (.tmp 12)) (some (a4.eval (.tmp 16))) (some (a4.eval (.tmp 21))) none)):Sem Next).run prog W:=by
     simp only[execOp,HB.1,ar,Option.map_none]
    show (execOp a4.eval (pQ 13)).run prog W=_;rw[this,e16,e21];simp only[Sem.run_bind];rw[show a4.eval (.tmp 12)=a4.tmps.getD 12 undef from rfl,jY W]
    rfl
   rw[HB.2.2,zm];have qkB:26=a4.tmps.size:=AG.1
   have qhf:gn w g (wT r c z o es k) a4.tmps:=AG.less rfl fun t=>by
    match t with
    | 0|1|2|4|5|6|7|8|9=>exact .inl rfl
    | 3|10|11|12|13|14|15|16|17|18|19|20|21=>exact .inr rfl
    | t+22=>exact .inl rfl
   have T4:gn w g (wT r c z o es k) (a4.put (some 22) v).tmps:=qhf.put' (.any _) 22 rfl
   have hlen:pre.length<r:=by
    have:=fE List.length G8;simp at this;omega
   have hx:=hY pre ⟨(k,v),sk,hv⟩ W Lj hlen;have e9:(a4.put (some 22) v).eval (.tmp 9)=.func (.yield l) #[] #[]:=(AU (by simp)).trans hy4;have e10:(a4.put (some 22) v).eval (.tmp 10)=.int .i64 (k:Int):=(AU (by simp)).trans ((AG.2 10).int_eq (k:=.i64) (n:=k));have e22:(a4.put (some 22) v).eval (.tmp 22)=v:=Vx (by omega)
   refine qks hF hn qee HC.1 rfl HC.2.1 e9 (R:=fun e W'=>(e=.returned (.bool true)/\J (pre++[⟨(k,v),sk,hv⟩]) W'/\Hold g w W W')\/(e=.returned (.bool false)/\Jx (pre++[⟨(k,v),sk,hv⟩]) W')) ?_ ?_
   .have:(#[Operand.tmp 10,Operand.tmp 22].map (a4.put (some 22) v).eval)=xR (w:=w) (g:=g) (r:=r) (c:=c) (z:=z) (es:=es) ⟨(k,v),sk,hv⟩:=by
     simp only[List.map_toArray,qn,xw,e10,e22,xR]
    rw[this];exact hx
   .have Ta:(a4.put (some 22) v).defers=[]:=by
     rw[sI,sc,sI,jz,iP,hd]
    rintro e W' (⟨rfl,hJ',dO⟩|⟨rfl,qgm⟩)
    .refine ⟨_,rfl,?_⟩;rw[HC.2.2];have Li:=hH.trans dO;refine wP (C:=ab) hF Li [] [15] _ _ _ (qiH r c z o es k true) (T4.put' (.bool true) 23 rfl) fun a6 Hb ye Tz=>?_;have e24:a6.eval (.tmp 24)=.bool false:=(Hb.2 24).bool_eq (b:=false);refine wpIn_cond_false e24 (wpIn_skip ?_);refine wpIn_region ?_;rw[show List.range (fQ (c2 (c2 (c2 (c1 (c1 (c2 (al f114)))))))).size=[0,1]++[] by kernel_rfl]
     have qhg:gn w g (wT r c z o es k) a6.tmps:=Hb.less rfl fun t=>by
      match t with
      | 23|24=>exact .inr rfl
      | 0|1|2|3|4|5|6|7|8|9|10|11|12|13|14|15|16|17|18|19|20|21|22=>exact .inl rfl
      | t+25=>exact .inl rfl
     refine wP (C:=ab) hF Li [] [0,1] _ _ _ (qiG r c z o es k) qhg fun a7 T5 LC hk7=>?_;have e1:IntKind.wrap .i64 ((k:Int)+1)=((k+1:Nat):Int):=by rw[km (by omega) (by omega)];rfl
     rw[e1] at T5
     refine ih (k+1) (pre++[⟨(k,v),sk,hv⟩]) a7 W' (by omega) (by rw[zO,G8,List.range_succ];rfl) hJ' Li (T5.less rfl fun t=>?_) ?_ ?_
     .match t with
      | 25=>exact .inr rfl
      | 0|1|2|3|4|5|6|7|8|9|10|11|12|13|14|15|16|17|18|19|20|21|22|23|24=>exact .inl rfl
      | t+26=>exact .inl rfl
     .rw[hk7 0 (by kernel_rfl),Tz 0 (by kernel_rfl),AU (by simp),AU (by simp),Ty 0 (by kernel_rfl),AU (by simp)];exact Hf
     .rw[LC,ye,sI];exact Ta
    .refine ⟨_,rfl,?_⟩;rw[HC.2.2]
     have jW:gn W' g [.any,.any,.any,.any,.any,.any,.any,.any,.any,.any,.any,.any,.any,.any,.any,.any,.any,.any,.any,.any,.any,.any,.any,.any,.any,.any] (a4.put (some 22) v).tmps:=
      (gn.less T4 (ts':=List.replicate 26 .any) rfl fun t=>.inr (qc9 26 t)).flat (by simp[wl])
     refine wP (C:=ab) hF (Hold.refl g W' W') [] [15] _ _ _ (qiI false) (jW.put' (.bool false) 23 rfl) fun a6 Hb ye Tz=>?_;have e24:a6.eval (.tmp 24)=.bool true:=(Hb.2 24).bool_eq (b:=true);refine wpIn_cond_true e24 (wpIn_ret ?_);exact ⟨by rw[ye,sI];exact Ta,_,VI _ _,⟨_,rfl⟩,.inr ⟨pre++[⟨(k,v),sk,hv⟩],trivial,qgm⟩⟩
 exact key r 0 [] a1 W (by omega) rfl h0 hH (mR.less rfl fun t=>by
  match t with
  | 4=>exact .inr rfl
  | 0|1|2|3|5|6=>exact .inl rfl
  | t+7=>exact .inl rfl) ((bu 0 (by kernel_rfl)).trans Uc) iP
end Go.Ab
namespace Go.Ab
open Go.Proofs Go.Proofs.Try Go.RowKit
def g0:G:=⟨fun _ _=>False,fun _=>False,fun _=>none,fun _ _=>none⟩
theorem GH(nm:Nat):ae.get ([]:ae) nm=none:=by simp[ae.get]
theorem qhQ(w:World):MemR w.heap.size w g0 [] where
 obj nm bx cs h:=by rw[GH] at h;cases h
 tok nm n sz h:=by rw[GH] at h;cases h
 resv nm h:=⟨rfl,fun _=>rfl⟩
 fresh nm h:=⟨rfl,fun _=>rfl⟩
 inj nm nm' b h:=by unfold bw at h;rw[GH] at h;cases h
 wrLt b off h:=h.elim
 inv _ _:=trivial
 boxLt b h:=h.elim
 mp nm kk es h:=by rw[GH] at h;cases h
theorem fC:CfgOk ab where
 ben g h caps:=by
  have h:false=true:=h;cases h
 libm g h hh:=by
  have hh:(none:Option (List AV->ae->OM))=some h:=hh;cases hh
 name g fn h:=by
  have dS:(Try.prog.funcs.toList.all fun fn=>!(fn.name == "runtime.NumGoroutine"))=true:=by kernel_rfl
  have hm:fn∈Try.prog.funcs.toList:=by
   rw[Array.mem_toList_iff];exact Array.mem_of_getElem? h
  have:=iX.1 dS fn hm;simpa using this
 lib g h hh:=by
  have hO:(match Nat.beq g 45 with|true=>some (fun _=>none)|false=>match Nat.beq g 47 with|true=>some (fun _=>none)|false=>match Nat.beq g 48 with|true=>some (fun _=>none)|false=>match Nat.beq g 49 with|true=>some (fun _=>none)|false=>match Nat.beq g 51 with|true=>some (fun _=>none)|false=>none)=some h:=hh
  cases b0:Nat.beq g 45 with
  | true=>
   rw[b0] at hO;obtain rfl:=mz b0;obtain rfl:(fun _=>none)=h:=kz hO;exact ⟨⟨Try.f45,by kernel_rfl,rfl⟩,fun vs v hv=>by cases hv⟩
  | false=>
  cases b1:Nat.beq g 47 with
  | true=>
   rw[b0,b1] at hO;obtain rfl:=mz b1;obtain rfl:(fun _=>none)=h:=kz hO;exact ⟨⟨Try.f47,by kernel_rfl,rfl⟩,fun vs v hv=>by cases hv⟩
  | false=>
  cases b2:Nat.beq g 48 with
  | true=>
   rw[b0,b1,b2] at hO;obtain rfl:=mz b2;obtain rfl:(fun _=>none)=h:=kz hO;exact ⟨⟨Try.f48,by kernel_rfl,rfl⟩,fun vs v hv=>by cases hv⟩
  | false=>
  cases b3:Nat.beq g 49 with
  | true=>
   rw[b0,b1,b2,b3] at hO;obtain rfl:=mz b3;obtain rfl:(fun _=>none)=h:=kz hO;exact ⟨⟨Try.f49,by kernel_rfl,rfl⟩,fun vs v hv=>by cases hv⟩
  | false=>
  cases b4:Nat.beq g 51 with
  | true=>
   rw[b0,b1,b2,b3,b4] at hO;obtain rfl:=mz b4;obtain rfl:(fun _=>none)=h:=kz hO;exact ⟨⟨Try.f51,by kernel_rfl,rfl⟩,fun vs v hv=>by cases hv⟩
  | false=>
   rw[b0,b1,b2,b3,b4] at hO;cases hO
theorem u3:Try.prog.underlying 3=some (.int .i64):=by kernel_rfl
theorem u4:Try.prog.underlying 4=some .bool:=by kernel_rfl
theorem qkb:Try.prog.underlying 116=some (.int .u32):=by kernel_rfl
theorem u41:Try.prog.underlying 41=some (.slice 116):=by kernel_rfl
theorem u22:Try.prog.underlying 22=some (.slice 43):=by kernel_rfl
theorem c3:Try.prog.cellsOf 3=1:=by kernel_rfl
theorem c4:Try.prog.cellsOf 4=1:=by kernel_rfl
theorem c22:Try.prog.cellsOf 22=1:=by kernel_rfl
theorem c24:Try.prog.cellsOf 24=3:=by kernel_rfl
theorem c41:Try.prog.cellsOf 41=1:=by kernel_rfl
theorem RG:Try.prog.cellsOf 43=3:=by kernel_rfl
theorem qe2:Try.prog.cellsOf 116=1:=by kernel_rfl
noncomputable def xT(t:Nat):Array Field:=match Try.prog.underlying t with
 | some (.struct fs)=>fs
 | _=>#[]
theorem Im:Try.prog.underlying 43=some (.struct (xT 43)):=by kernel_rfl
theorem Bk:Try.prog.underlying 24=some (.struct (xT 24)):=by kernel_rfl
theorem f43:(xT 43).toList.map (fun f=>(f.type,f.offset))=[(4,0),(41,1),(41,2)]:=by kernel_rfl
theorem KY:(xT 24).toList.map (fun f=>(f.type,f.offset))=[(3,0),(3,1),(22,2)]:=by kernel_rfl
theorem RI{w:World}{a:Addr}{n:Nat}{cs:List Value}(h:w.cells? 0 a n=some cs):cs.length=n/\∀j,j<n->w.cell? (a.add j)=cs[j]?:=by
 unfold World.cells? at h;rw[aj (jH _)] at h;refine ⟨by simpa using mapM_some_length h,fun j hj=>mapM_some_get h j j (by simp[hj])⟩
theorem RH{w:World}{a:Addr}{u:Value}(h:w.cell? a=some u):a.spot=none:=World.cell?_spot h
theorem Rp{a:Addr}(h:a.spot=none)(j:Nat):a.add j=⟨a.block,a.off+j,none⟩:=by
 obtain ⟨b,o,s⟩:=a;subst h;exact lZ b o j
theorem WU{α:Type}{cs:List α}(h:cs.length=3):∃a b c,cs=[a,b,c]:=by
 match cs,h with
 | [a,b,c],_=>exact ⟨a,b,c,rfl⟩
section
variable {H:Type} {enc:TypeId×Value->H} {W:World} {fuel:Nat} {cs:List Value} {x:DataW H×List MemPlace}
theorem Ai{t:Nat}(ht:Try.prog.underlying t=some (.struct (xT t)))(h:DataW.trod enc Try.prog W 0 (fun _=>true) true fuel t cs=some x){t' off i:Nat}(hi:((xT t).toList.map (fun f=>(f.type,f.offset)))[i]?=some (t',off)) :
  ∃n y,DataW.trod enc Try.prog W 0 (fun _=>true) true n t' ((cs.drop off).take (Try.prog.cellsOf t'))=some y:=by
 obtain ⟨xs,n,rfl,_,_,hl,hf⟩:=DataW.trod_struct ht h;rw[o0,gm] at hi;obtain ⟨f,h1,h2⟩:=hi;obtain ⟨rfl,rfl⟩:=Prod.mk.inj h2;have GP:(xT t)[i]?=some f:=by rw[<- h1,Array.getElem?_toList]
 have:=hf i f GP
 have aG:i<xs.length:=by
  rw[hl];obtain ⟨h,_⟩:=eA.1 GP;exact h
 rw[jR aG] at this;exact ⟨n,_,this⟩
theorem W4{a:Addr}{i:Nat}(h:(W.cells? 0 (a.add (i*Try.prog.cellsOf 116)) (Try.prog.cellsOf 116)).bind (DataW.trod enc Try.prog W 0 (fun _=>true) true fuel 116)=some x):∃d:Nat,d<4294967296/\W.cell? (a.add i)=some (.int .u32 d):=by
 rw[qe2,qo] at h;obtain ⟨cs,h1,h2⟩:=aS.1 h;obtain ⟨n,rfl,_,hw⟩:=DataW.trod_int qkb h2;have h3:=(RI h1).2 0 (by omega)
 have pZ:0<=n/\n<=4294967295:=by
  simp only[Lit.wf,dY,vU] at hw;exact hw
 refine ⟨n.toNat,by omega,?_⟩;rw[Int.toNat_of_nonneg pZ.1];exact h3
theorem UY(h:DataW.trod enc Try.prog W 0 (fun _=>true) true fuel 41 cs=some x):∃v,∃y:NV,cs=[v]/\V W g0 y.av v/\XN y/\y.o=.no:=by
 rcases DataW.trod_slice u41 h with ⟨rfl,_⟩|⟨a,len,cap,elems,rest,n,_,rfl,_,_,hl,hm,he,kI,yw,_⟩
 .exact ⟨_,⟨true,.no,[]⟩,rfl,.nils none .no (.inr rfl),⟨fun i=>by simp,fun _=>rfl⟩,rfl⟩
 .obtain ⟨yA,yw⟩:=yw rfl
  have cell:∀i,∃d:Nat,i<cap->d<4294967296/\W.cell? (a.add i)=some (.int .u32 d):=by
   intro i
   by_cases hi:i<cap
   .by_cases uM:i<len
    .have h1:=kI i uM;rw[jR (by omega)] at h1;obtain ⟨d,hd⟩:=W4 h1;exact ⟨d,fun _=>hd⟩
    .have h1:=yw (i-len) (by omega);rw[jR (by omega),show len+(i-len)=i by omega] at h1;obtain ⟨d,hd⟩:=W4 h1;exact ⟨d,fun _=>hd⟩
   .exact ⟨0,fun h=>absurd h hi⟩
  obtain ⟨f,hf⟩:=Classical.axiomOfChoice cell
  have jZ:cap=0\/a.spot=none:=by
   by_cases h0:cap=0
   .exact .inl h0
   .exact .inr (RH (hf 0 (by omega)).2)
  have jW:flat (((List.range len).map f).map dg)=((List.range len).map f).map dg:=by
   generalize (List.range len).map f=l
   induction l with
   | nil=>rfl
   | cons d l ih=>
    show (dg d).cells++flat (l.map dg)=_;rw[ih];rfl
  have hlen:(((List.range len).map f).map dg).length=len:=by simp
  refine ⟨_,⟨false,.no,(List.range len).map f⟩,rfl,?_,⟨fun i=>?_,fun h=>by cases h⟩,rfl⟩
  .have hV:=V.lst (w:=W) (g:=g0) none .no (((List.range len).map f).map dg) a cap (fun j=>.int .u32 (f j)) jZ (by rw[hlen];exact hl) hm
    (fun e he=>by
     obtain ⟨d,_,rfl⟩:=ks.1 he
     exact ⟨rfl,rfl⟩)
    (fun j hj=>by
     rw[jW,hlen] at hj;refine ⟨?_,fun h=>h,fun h=>h⟩;have:=(hf j (by omega)).2;rw[Rp (jZ.resolve_left (by omega))] at this
     exact this)
    (fun j hj=>by
     rw[jW,hlen] at hj;rw[jW,bA,o0,o0,List.getElem?_range hj]
     exact .int _ _) trivial
   rw[hlen] at hV;exact hV
  .show ((List.range len).map f).getD i 0<_;rw[bA,o0]
   by_cases hi:i<len
   .rw[List.getElem?_range hi];exact (hf i (by omega)).1
   .rw[iC (by simp;omega)];exact (by omega:0<4294967296)
theorem qiP(h:DataW.trod enc Try.prog W 0 (fun _=>true) true fuel 43 cs=some x):∃c0 c1 c2,∃r:RV,cs=[c0,c1,c2]/\V W g0 (.bool r.neg) c0/\V W g0 r.num.av c1/\V W g0 r.den.av c2/\XR r/\r.num.o=.no/\r.den.o=.no:=by
 have hlen:cs.length=3:=by
  obtain ⟨_,_,_,_,h1,_⟩:=DataW.trod_struct Im h;rw[h1,RG]
 obtain ⟨c0,c1,c2,rfl⟩:=WU hlen;obtain ⟨n0,y0,h0⟩:=Ai Im h (t':=4) (off:=0) (i:=0) (by rw[f43];rfl);obtain ⟨n1,y1,h1⟩:=Ai Im h (t':=41) (off:=1) (i:=1) (by rw[f43];rfl);obtain ⟨n2,y2,h2⟩:=Ai Im h (t':=41) (off:=2) (i:=2) (by rw[f43];rfl);rw[c4] at h0;rw[c41] at h1 h2;obtain ⟨b,e0,_⟩:=DataW.trod_bool u4 h0;obtain ⟨v1,z1,e1,q1,q2,q3⟩:=UY h1;obtain ⟨v2,z2,e2,r1,r2,r3⟩:=UY h2;simp only[tg,List.drop_succ_cons,List.take_succ_cons,List.take_zero,qH,and_true] at e0 e1 e2;subst e0;subst e1;subst e2;refine ⟨_,_,_,⟨b,z1,z2⟩,rfl,.bool b,q1,r1,⟨q2,r2,?_⟩,q3,r3⟩;obtain ⟨a1,o1,d1⟩:=z1;obtain ⟨a2,o2,d2⟩:=z2;subst q3;subst r3
 rfl
theorem Sm:∀(es:List RV) (j:Nat),j<es.length*3->(flat (es.map RV.av)).getD j .any=((es.getD (j/3) ⟨false,⟨true,.no,[]⟩,⟨true,.no,[]⟩⟩).av.cells).getD (j%3) .any
 | [],j,h=>by simp at h
 | r::es,0,h=>rfl
 | r::es,1,h=>rfl
 | r::es,2,h=>rfl
 | r::es,j+3,h=>by
  have ih:=Sm es j (by simp only[aR] at h;omega);have e1:(j+3)/3=j/3+1:=by omega
  have e2:(j+3)%3=j%3:=by omega
  rw[e1,e2,zI,<- ih]
  rfl
theorem Sn(es:List RV):(flat (es.map RV.av)).length=es.length*3:=by
 induction es with
 | nil=>rfl
 | cons r es ih=>
  show (_::_::_::flat (es.map RV.av)).length=_;rw[aR,aR,aR,ih,aR];omega
theorem VH{a:Addr}{i:Nat}(ha:i=0\/a.spot=none)(h:(W.cells? 0 (a.add (i*Try.prog.cellsOf 43)) (Try.prog.cellsOf 43)).bind (DataW.trod enc Try.prog W 0 (fun _=>true) true fuel 43)=some x) :
  a.spot=none/\∃r:RV,(XR r/\r.num.o=.no/\r.den.o=.no)/\∀j,j<3->∃u,W.cell? ⟨a.block,a.off+(i*3+j),none⟩=some u/\V W g0 (r.av.cells.getD j .any) u:=by
 rw[RG] at h;obtain ⟨cs,h1,h2⟩:=aS.1 h;obtain ⟨c0,c1,c2,r,rfl,v0,v1,v2,xr,o1,o2⟩:=qiP h2;have h3:=(RI h1).2
 have hs:a.spot=none:=by
  rcases ha with rfl|ha
  .rw[qM] at h3;exact RH (h3 0 (by omega))
  .exact ha
 refine ⟨hs,r,⟨xr,o1,o2⟩,fun j hj=>?_⟩;have h4:=h3 j hj;rw[Rp hs,lZ,my] at h4
 match j,hj with
 | 0,_=>exact ⟨c0,h4,v0⟩
 | 1,_=>exact ⟨c1,h4,v1⟩
 | 2,_=>exact ⟨c2,h4,v2⟩
theorem qjp{r:RV}(h1:r.num.o=.no)(h2:r.den.o=.no):eP (some 3) r.av=true/\pl r.av=true:=by
 obtain ⟨b,⟨a1,o1,d1⟩,⟨a2,o2,d2⟩⟩:=r;subst h1;subst h2;exact ⟨rfl,rfl⟩
theorem qi2(h:DataW.trod enc Try.prog W 0 (fun _=>true) true fuel 22 cs=some x):∃v,∃l:LV,cs=[v]/\V W g0 l.av v/\(l.sh=some 3\/l.es=[])/\(l.z=true->l.es=[])/\(∀r∈l.es,XR r)/\l.o=.no:=by
 rcases DataW.trod_slice u22 h with ⟨rfl,_⟩|⟨a,len,cap,elems,rest,n,_,rfl,_,_,hl,hm,he,kI,yw,_⟩
 .exact ⟨_,⟨some 3,true,.no,[]⟩,rfl,.nils _ .no (.inr rfl),.inl rfl,fun _=>rfl,(fun r hr=>by cases hr),rfl⟩
 .obtain ⟨yA,yw⟩:=yw rfl
  have raw:∀i,i<cap->∃y,(W.cells? 0 (a.add (i*Try.prog.cellsOf 43)) (Try.prog.cellsOf 43)).bind (DataW.trod enc Try.prog W 0 (fun _=>true) true n 43)=some y:=by
   intro i hi
   by_cases uM:i<len
   .have h1:=kI i uM;rw[jR (by omega)] at h1;exact ⟨_,h1⟩
   .have h1:=yw (i-len) (by omega);rw[jR (by omega),show len+(i-len)=i by omega] at h1;exact ⟨_,h1⟩
  have jZ:cap=0\/a.spot=none:=by
   by_cases h0:cap=0
   .exact .inl h0
   .obtain ⟨y,hy⟩:=raw 0 (by omega);exact .inr (VH (.inl rfl) hy).1
  have cell:∀i,∃r:RV,i<cap->(XR r/\r.num.o=.no/\r.den.o=.no)/\∀j,j<3->∃u,W.cell? ⟨a.block,a.off+(i*3+j),none⟩=some u/\V W g0 (r.av.cells.getD j .any) u:=by
   intro i
   by_cases hi:i<cap
   .obtain ⟨y,hy⟩:=raw i hi;obtain ⟨r,hr⟩:=(VH (.inr (jZ.resolve_left (by omega))) hy).2;exact ⟨r,fun _=>hr⟩
   .exact ⟨⟨false,⟨true,.no,[]⟩,⟨true,.no,[]⟩⟩,fun h=>absurd h hi⟩
  obtain ⟨f,hf⟩:=Classical.axiomOfChoice cell;have hlen:(((List.range len).map f).map RV.av).length=len:=by simp
  have LS:((List.range len).map f).length=len:=by simp
  have aQ:∀j,j<len*3->((List.range len).map f).getD (j/3) ⟨false,⟨true,.no,[]⟩,⟨true,.no,[]⟩⟩=f (j/3):=by
   intro j hj;rw[bA,o0,List.getElem?_range (by omega)]
   rfl
  have fp:∀r∈(List.range len).map f,XR r/\r.num.o=.no/\r.den.o=.no:=by
   intro r hr;obtain ⟨i,hi,rfl⟩:=ks.1 hr;exact (hf i (by have:=oC.1 hi;omega)).1
  have kH:∀j,j<len*3->∃u,W.cell? ⟨a.block,a.off+j,none⟩=some u/\V W g0 ((flat (((List.range len).map f).map RV.av)).getD j .any) u:=by
   intro j hj;rw[Sm _ j (by rw[LS];exact hj),aQ j hj];have h1:=(hf (j/3) (by omega)).2 (j%3) (by omega);rw[show j/3*3+j%3=j by omega] at h1;exact h1
  have oO:∀j,∃u,j<len*3->W.cell? ⟨a.block,a.off+j,none⟩=some u/\V W g0 ((flat (((List.range len).map f).map RV.av)).getD j .any) u:=by
   intro j
   by_cases hj:j<len*3
   .obtain ⟨u,hu⟩:=kH j hj;exact ⟨u,fun _=>hu⟩
   .exact ⟨undef,fun h=>absurd h hj⟩
  obtain ⟨us,oO⟩:=Classical.axiomOfChoice oO;refine ⟨_,⟨some 3,false,.no,(List.range len).map f⟩,rfl,?_,.inl rfl,(fun h=>by cases h),fun r hr=>(fp r hr).1,rfl⟩
  have hV:=V.lst (w:=W) (g:=g0) (some 3) .no (((List.range len).map f).map RV.av) a cap us jZ (by rw[hlen];exact hl) hm
   (fun e he=>by
    obtain ⟨r,hr,rfl⟩:=ks.1 he
    exact qjp (fp r hr).2.1 (fp r hr).2.2)
   (fun j hj=>by
    rw[Sn,LS] at hj
    exact ⟨(oO j hj).1,fun h=>h,fun h=>h⟩)
   (fun j hj=>by
    rw[Sn,LS] at hj
    exact (oO j hj).2) trivial
  rw[hlen] at hV;exact hV
theorem UJ{v:Value}{d:DataW H}{ps:List MemPlace}(hv:∃cs,v=.agg cs)(h:DataW.Trod enc Try.prog W 0 (fun _=>true) true 24 v d ps):∃y:MV,V W g0 y.av v/\XM y/\y.fr=y:=by
 obtain ⟨cs,rfl⟩:=hv;obtain ⟨fuel,h⟩:=h
 have hlen:cs.toList.length=3:=by
  obtain ⟨_,_,_,_,h1,_⟩:=DataW.trod_struct Bk h;rw[c24] at h1;exact h1
 have h:DataW.trod enc Try.prog W 0 (fun _=>true) true fuel 24 cs.toList=some (d,ps):=h;obtain ⟨v0,v1,v2,gd⟩:=WU hlen
 obtain rfl:cs = #[v0,v1,v2]:=by
  cases cs
  simp_all
 obtain ⟨n0,y0,h0⟩:=Ai Bk h (t':=3) (off:=0) (i:=0) (by rw[KY];rfl);obtain ⟨n1,y1,h1⟩:=Ai Bk h (t':=3) (off:=1) (i:=1) (by rw[KY];rfl);obtain ⟨n2,y2,h2⟩:=Ai Bk h (t':=22) (off:=2) (i:=2) (by rw[KY];rfl);rw[c3] at h0 h1;rw[c22] at h2;obtain ⟨a,e0,_⟩:=DataW.trod_int u3 h0;obtain ⟨b,e1,_⟩:=DataW.trod_int u3 h1;obtain ⟨v,l,e2,q1,q2,q3,q4,q5⟩:=qi2 h2;simp only[tg,List.drop_succ_cons,List.take_succ_cons,List.take_zero,qH,and_true] at e0 e1 e2;subst e0;subst e1;subst e2
 refine ⟨⟨a,b,l⟩,.agg _ _ rfl fun j hj=>?_,⟨q2,q3,q4⟩,?_⟩
 .match j,hj with
  | 0,_=>exact .int _ _
  | 1,_=>exact .int _ _
  | 2,_=>exact q1
 .obtain ⟨sh,z,o,es⟩:=l;subst q5
  rfl
theorem U6{base:Nat}{t:Nat}{v:Value}{fs:Array Field}(ht:Try.prog.underlying t=some (.struct fs))(h:Value.okWide Try.prog W .any base t v):∃cs,v=.agg cs:=by
 simp only[Value.okWide,ht] at h;obtain ⟨cs,h,_⟩:=h;exact ⟨cs,h⟩
end
end Go.Ab
namespace Go.Ab
abbrev Cfg.plug(C:Cfg)(L:Nat->Option (List AV->Option AV)):Cfg:=⟨C.P,C.inl,C.arrm,C.tokm,C.two,C.thaw,C.frzc,C.seqm,C.late,C.ben,C.mask,C.ord,C.ahd,L,C.libm⟩
def qq(C:Cfg)(L:Nat->Option (List AV->Option AV)):Prop:=∀g,L g=C.lib g\/C.lib g=some (fun _=>none)
section
variable {R:Type} {C:Cfg} {L:Nat->Option (List AV->Option AV)} {fid:Nat} {cp cp':Nat->List AV->Option AV} {ci ci':Nat->List AV->ae->OM}
theorem qe6(hp:qq C L)(h:jQ cp cp' ci ci'){d:Option Nat}{g:Nat}{vs:List AV}{m:ae}{K:AV->ae->Option R}{x:R}(hx:nK C fid cp ci d g vs m K=some x):nK (C.plug L) fid cp' ci' d g vs m K=some x:=by
 unfold nK at hx ⊢
 cases oL:C.libm g with
 | some l=>
  rw[oL] at hx;exact hx
 | none=>
 rw[oL] at hx;simp only at hx ⊢
 cases hl:C.lib g with
 | some l=>
  rw[hl] at hx
  rcases hp g with e|e
  .rw[show L g=some l from e.trans hl];exact hx
  .rw[e] at hl;obtain rfl:=kz hl;simp at hx
 | none=>
  rw[hl] at hx
  have e:L g=none:=by
   rcases hp g with e|e
   .exact e.trans hl
   .rw[e] at hl;cases hl
  rw[e];simp only at hx ⊢
  cases hi:C.inl fid g with
  | true=>
   rw[hi] at hx
   cases d with
   | some d=>exact hx
   | none=>
    simp only[aS] at hx ⊢;obtain ⟨r,hr,hx⟩:=hx
    cases hfz:C.frzc fid g with
    | true=>
     rw[hfz] at hr;simp only[Cy,aS] at hr ⊢;obtain ⟨r1,h1,h2⟩:=hr;exact ⟨r,⟨r1,h1,h.2 _ _ _ _ h2⟩,hx⟩
    | false=>
    rw[hfz] at hr;simp only at hr ⊢
    cases ht:C.thaw fid g with
    | false=>rw[ht] at hr;exact ⟨r,h.2 _ _ _ _ hr,hx⟩
    | true=>
     rw[ht] at hr;simp only[nT,aS] at hr ⊢;obtain ⟨r1,h1,q,h2,h3⟩:=hr;exact ⟨r,⟨r1,h1,q,h.2 _ _ _ _ h2,h3⟩,hx⟩
  | false=>
   rw[hi] at hx;simp only[aS] at hx ⊢;obtain ⟨r,hr,hx⟩:=hx;refine ⟨r,?_,hx⟩;unfold ao at hr ⊢;simp only[aS] at hr ⊢;obtain ⟨r1,h1,h2⟩:=hr;refine ⟨r1,h1,?_⟩
   split at h2
   .cases h2
   .rename_i aE;rw[ag aE];simp only[gm] at h2 ⊢;obtain ⟨v,hv,h2⟩:=h2;exact ⟨v,h.1 _ _ _ hv,h2⟩
theorem Vg(hp:qq C L)(h:jQ cp cp' ci ci'){d:Option Nat}{o:Oper}{ρ:Operand->AV}{m:ae}{x:AV×ae}(hx:ep C fid cp ci d o ρ m=some x):ep (C.plug L) fid cp' ci' d o ρ m=some x:=by
 unfold ep jr at hx ⊢
 cases ho:o.op with
 | call c=>
  rw[ho] at hx;simp only at hx ⊢
  cases hc:c.callee with
  | value f=>
   rw[hc] at hx;simp only[aS] at hx ⊢;obtain ⟨gc,h1,hx⟩:=hx;exact ⟨gc,h1,qe6 hp h hx⟩
  | _=>rw[hc] at hx;exact hx
 | _=>rw[ho] at hx;exact hx
theorem Vh(hp:qq C L)(h:jQ cp cp' ci ci'){base:Option Nat}{ops:Array Oper}{i:Nat}{o:Oper}{ts:List AV}{m:ae}{r:AV×ae}(hr:eZ C fid cp ci base ops i o ts m=some r):eZ (C.plug L) fid cp' ci' base ops i o ts m=some r:=by
 unfold eZ at hr ⊢
 cases hg:o.guard with
 | none=>rw[hg] at hr;exact Vg hp h hr
 | some jw=>
  obtain ⟨j,want⟩:=jw;rw[hg] at hr;simp only at hr ⊢
  cases hd:(ops[j]?).bind (·.dst) with
  | none=>rw[hd] at hr;cases hr
  | some g=>
   rw[hd] at hr;simp only at hr ⊢
   split at hr
   .exact hr
   .split at hr
    .split at hr
     .rename_i hb;rw[aj hb];exact Vg hp h hr
     .rename_i hb;rw[ag hb];exact hr
    .cases hr
theorem WB(hp:qq C L)(h:jQ cp cp' ci ci'){base:Option Nat}{ops:Array Oper}{i:Nat}{st s:St}(hx:bK C fid cp ci base ops i st=some s):bK (C.plug L) fid cp' ci' base ops i st=some s:=by
 unfold bK at hx ⊢
 cases hi:ops[i]? with
 | none=>rw[hi] at hx;cases hx
 | some o=>
  rw[hi] at hx;simp only[gm] at hx ⊢;obtain ⟨r,hr,hx⟩:=hx;exact ⟨r,Vh hp h hr,hx⟩
theorem VY(hp:qq C L)(h:jQ cp cp' ci ci'){base:Option Nat}{ops:Array Oper}:∀(l:List Nat) {st s:St},fc C fid cp ci base ops l st=some s->fc (C.plug L) fid cp' ci' base ops l st=some s
 | [],_,_,hx=>hx
 | i::l,st,s,hx=>by
  simp only[fc,aS] at hx ⊢;obtain ⟨s1,h1,h2⟩:=hx;exact ⟨s1,WB hp h h1,VY hp h l h2⟩
theorem V7(hp:qq C L)(h:jQ cp cp' ci ci'){base:Option Nat}{ops:Array Oper}{l:List Nat}{st:St}{K:St->Option R}{r:R}(hx:kR C fid cp ci base ops l st K=some r):kR (C.plug L) fid cp' ci' base ops l st K=some r:=by
 rw[qh] at hx ⊢;simp only[aS] at hx ⊢;obtain ⟨s,h1,h2⟩:=hx;exact ⟨s,VY hp h l h1,h2⟩
theorem XF{ops:Array Oper}{y:Nat}{s:St}(hp:qq C L)(h:nE C fid ops y s):nE (C.plug L) fid ops y s:=by
 unfold nE at h ⊢
 split
 .rename_i o ho;rw[ho] at h;exact Vh hp ⟨fun _ _ _ h=>h,fun _ _ _ _ h=>h⟩ h
 .trivial
theorem V3(hp:qq C L)(h:jQ cp cp' ci ci'){lt:List (Nat×List Nat)}{ops:Array Oper}:∀(l:List Nat) {st:St} {K:St->Option R} {r:R},oW C fid cp ci lt ops l st K=some r->oW (C.plug L) fid cp' ci' lt ops l st K=some r
 | [],_,_,_,hx=>hx
 | i::l,st,K,r,hx=>by
  rw[vq,aS] at hx ⊢;obtain ⟨s1,h1,h2⟩:=hx;obtain ⟨h3,h4⟩:=Gc h2;exact ⟨s1,WB hp h h1,by rw[xJ fun y hy=>XF hp (h3 y hy)];exact V3 hp h l h4⟩
theorem qfU(hp:qq C L)(h:jQ cp cp' ci ci'):∀(c:Code) (st:St) (K:Ex->St->Option R) (r:R),aq C fid cp ci c st K=some r->aq (C.plug L) fid cp' ci' c st K=some r:=by
 intro c
 induction c with
 | region id ops d=>
  intro st K r hx
  cases d with
  | false=>simp only[aq] at hx ⊢;exact V7 hp h hx
  | true=>
   simp only[aq] at hx ⊢
   cases hq:C.seqm fid id with
   | true=>
    rw[hq] at hx;simp only at hx ⊢
    cases hd:vZ C.P ops (oS (C.ord fid id) ops.size) (C.ahd fid id) (C.late fid id) with
    | true=>rw[hd] at hx;exact V3 hp h _ hx
    | false=>rw[hd] at hx;cases hx
   | false=>
   rw[hq] at hx;simp only at hx ⊢
   cases hd:vW C.P ops (oS (C.ord fid id) ops.size) (C.ahd fid id) (C.two fid id) with
   | true=>rw[hd] at hx;exact V7 hp h hx
   | false=>rw[hd] at hx;cases hx
 | seq a b iha ihb=>
  intro st K r hx;simp only[aq] at hx ⊢;have h1:=iha _ _ _ hx;refine (ed a).mono (fun e s r hr=>?_) h1
  cases e with
  | normal=>exact ihb _ _ _ hr
  | exit id=>exact hr
  | ret=>exact hr
 | cond co a b iha ihb=>
  intro st K r hx;simp only[aq] at hx ⊢;unfold au at hx ⊢
  split at hx
  .split at hx
   .exact iha _ _ _ hx
   .exact ihb _ _ _ hx
  .cases hx
 | block id b ih=>
  intro st K r hx;simp only[aq] at hx ⊢;exact ih _ _ _ hx
 | loop b ih=>
  intro st K r hx;simp only[aq,iE] at hx ⊢
  cases hf:iO (C.mask fid (keyOf b)).head st.tmps with
  | false=>rw[hf] at hx;cases hx
  | true=>
   rw[hf] at hx;simp only at hx ⊢;obtain ⟨n,hn⟩:=qb hx
   have:∀n st,gp (aq C fid cp ci b) (C.mask fid (keyOf b)) n st K=some r->gp (aq (C.plug L) fid cp' ci' b) (C.mask fid (keyOf b)) n st K=some r:=by
    intro n
    induction n with
    | zero=>intro st hx;cases hx
    | succ n ihn=>
     intro st hx;simp only[gp] at hx ⊢;have h1:=ih _ _ _ hx
     rcases ed (R:=R) (C:=C.plug L) (fid:=fid) (callP:=cp') (callI:=ci') b st with hl|⟨e,s,hl⟩
     .rw[hl] at h1;cases h1
     .rw[hl] at h1 ⊢;simp only at h1 ⊢
      cases e with
      | normal=>
       simp only[fz,iE] at h1 ⊢
       cases sg:iO (C.mask fid (keyOf b)).head s.tmps with
       | true=>rw[sg] at h1;exact ihn _ h1
       | false=>rw[sg] at h1;cases h1
      | exit id=>exact h1
      | ret=>exact h1
   exact qP.lim (F:=fun n=>gp (aq (C.plug L) fid cp' ci' b) (C.mask fid (keyOf b)) n _ K) (fun n r h=>Dx (ed b) _ K n _ r h) (this n _ hn)
 | _=>intro st K r hx;exact hx
theorem qc1(hp:qq C L):∀k f args m r,l6 C k f args m=some r->l6 (C.plug L) k f args m=some r:=by
 intro k
 induction k with
 | zero=>intro f args m r h;cases h
 | succ k ih=>
  intro f args m r h;rw[l6] at h ⊢
  cases hf:C.P.funcs[f]? with
  | none=>rw[hf] at h;cases h
  | some fn=>
   rw[hf] at h;simp only at h ⊢
   cases hb:fn.body with
   | none=>rw[hb] at h;cases h
   | some c=>
    rw[hb] at h;exact qfU hp (B9 fun g vs m r=>ih g vs m r) c _ _ _ h
theorem Xz(hp:qq C L){f:Nat}{args:List AV}{m:ae}{r:AV×ae}(h:AC C f args m=some r):AC (C.plug L) f args m=some r:=by
 obtain ⟨k,hk⟩:=qb h;exact qP.lim (F:=fun k=>l6 (C.plug L) k f args m) (fun k r h=>F0 _ k f args m r h) (qc1 hp k f args m r hk)
theorem XA(hp:qq C L){f:Nat}{args:List AV}{v:AV}(h:AP C f args=some v):AP (C.plug L) f args=some v:=
 (B9 fun g vs m r hr=>Xz hp hr).1 f args v h
end
end Go.Ab
namespace Go.Ab
open Go.RowKit
section
variable [WInv] {C:Cfg} {B:Nat} {F:Fence} {n:Nat} {w:World} {g:G}
theorem WC(hC:CfgOk C)(hb:∀g,C.ben g=false)(hF:ik F){callI:Nat->List AV->ae->OM}(hI:nW C callI){fid:Nat}{ops:Array Oper}{i:Nat}{base:Option Nat}{st s1:St}{a:Act}{w:World}{g:G}(h:bK C fid (gv callI) callI base ops i st=some s1)(hs:StR B w g st a)(hk:∀b,base=some b->rI ops b st.mem [i])
  {Q:Exit->Act->World->Prop} {next:Act->World->Prop} (hn:∀a' w' g',StR B w' g' s1 a'->Step B w g w' g'->a'.defers=a.defers->next a' w'):tU F n C.P ops Q i next a w:=by
 obtain ⟨o,v,m1,ho,hr,rfl⟩:=qE h
 have jY:ep C fid (gv callI) callI (base.map (· + eE ops i)) o (ev st.tmps) st.mem=some (v,m1)->o.wp C.P a w next Q/\∀c,o.op≠.defer c:=by
  intro hf
  obtain ⟨v2,m2,hK,bh⟩:=M8 (a:=a) hC hI hf (Ag hs.tmp) hs.mem hs.size (fun kL s hb=>by
   obtain ⟨b,gI,rfl⟩:=gm.1 hb
   exact hk b gI i (by simp) o ho kL)
  simp only[bp,dT] at hK;obtain ⟨rfl,rfl⟩:=hK
  exact ⟨bh next Q fun a1 v' w' g' _ he _ s hm hv=>by
   obtain rfl:=he (HH hb hf)
   exact hn _ w' g' ⟨(hs.tmp.step s).put hv o.dst,hm,b7 hs.size s.below.size⟩ s (sI _ _ _),HH hb hf⟩
 have uX:v=.tup []/\m1=st.mem->next (a.put o.dst undef) w:=by
  rintro ⟨rfl,rfl⟩;exact hn _ w g ⟨hs.tmp.put (.tup [] #[] rfl (fun j hj=>absurd hj (Nat.not_lt_zero j))) o.dst,hs.mem,hs.size⟩ (Step.refl _ _ _) (sI _ _ _)
 have Mo:Region.wanted o (yielded ops a.tmps)=true->o.wp C.P a w next Q/\∀c,o.op≠.defer c:=by
  intro hw;unfold eZ at hr
  cases hg:o.guard with
  | none=>simp only[hg] at hr;exact jY hr
  | some jw=>
   obtain ⟨j,want⟩:=jw;simp only[hg] at hr
   cases hd:(ops[j]?).bind (·.dst) with
   | none=>simp[hd] at hr
   | some d=>
    simp only[hd] at hr
    cases oa:rv ops st.tmps j with
    | true=>
     simp only[oa] at hr
     cases hv:st.tmps.getD d .any with
     | tup cs=>
      have hV:=hs.tmp.2 d;rw[hv] at hV
      have hy:yielded ops a.tmps j=none:=by
       unfold yielded;rw[hd];simp only[aa];generalize hx:a.tmps.getD d undef=x at hV;cases hV;rw[fV] at hx
       cases hq:a.tmps[d]? with
       | none=>rfl
       | some y=>rw[hq] at hx;simp only[nZ] at hx;rw[hx]
      have:Region.wanted o (yielded ops a.tmps)=false:=by simp only[Region.wanted,hg,hy];rfl
      rw[this] at hw;cases hw
     | _=>simp only[hv] at hr;cases hr
    | false=>
     simp only[oa] at hr
     cases hv:st.tmps.getD d .any with
     | bool b=>
      simp only[hv] at hr;have hV:=hs.tmp.2 d;rw[hv] at hV
      have hy:yielded ops a.tmps j=some b:=by
       unfold yielded;rw[hd];simp only[aa];generalize hx:a.tmps.getD d undef=x at hV;cases hV
       have:a.tmps[d]?=some (.bool b):=by
        rw[fV] at hx
        cases hq:a.tmps[d]? with
        | none=>rw[hq] at hx;cases hx
        | some y=>rw[hq] at hx;simpa using hx
       rw[this]
      have pZ:Region.wanted o (yielded ops a.tmps)=(some b==some want):=by simp only[Region.wanted,hg,hy]
      by_cases hb:b=want
      .rw[aj hb] at hr;exact jY hr
      .have:(some b==some want)=false:=by simpa using hb
       rw[pZ,this] at hw;cases hw
     | _=>simp only[hv] at hr;cases hr
 have uT:Region.wanted o (yielded ops a.tmps)=false->v=.tup []/\m1=st.mem:=by
  intro hw;unfold eZ at hr
  cases hg:o.guard with
  | none=>
   have:Region.wanted o (yielded ops a.tmps)=true:=by simp[Region.wanted,hg]
   rw[this] at hw;cases hw
  | some jw=>
   obtain ⟨j,want⟩:=jw;simp only[hg] at hr
   cases hd:(ops[j]?).bind (·.dst) with
   | none=>simp[hd] at hr
   | some d=>
    simp only[hd] at hr
    cases oa:rv ops st.tmps j with
    | true=>
     simp only[oa] at hr
     cases hv:st.tmps.getD d .any with
     | tup cs=>
      simp only[hv] at hr
      cases cs with
      | nil=>
       simp only[bp,dT] at hr;exact ⟨hr.1.symm,hr.2.symm⟩
      | cons c cs=>simp only at hr;cases hr
     | _=>simp only[hv] at hr;cases hr
    | false=>
     simp only[oa] at hr
     cases hv:st.tmps.getD d .any with
     | bool b=>
      simp only[hv] at hr;have hV:=hs.tmp.2 d;rw[hv] at hV
      have hy:yielded ops a.tmps j=some b:=by
       unfold yielded;rw[hd];simp only[aa];generalize hx:a.tmps.getD d undef=x at hV;cases hV
       have:a.tmps[d]?=some (.bool b):=by
        rw[fV] at hx
        cases hq:a.tmps[d]? with
        | none=>rw[hq] at hx;cases hx
        | some y=>rw[hq] at hx;simpa using hx
       rw[this]
      have pZ:Region.wanted o (yielded ops a.tmps)=(some b==some want):=by simp only[Region.wanted,hg,hy]
      by_cases hb:b=want
      .have:(some b==some want)=true:=by simpa using hb
       rw[pZ,this] at hw;cases hw
      .rw[ag hb] at hr;simp only[bp,dT] at hr;exact ⟨hr.1.symm,hr.2.symm⟩
     | _=>simp only[hv] at hr;cases hr
 refine Hv hF (fun o' jb hw=>?_) (fun o' jb hw=>?_) (fun nj=>by rw[ho] at nj;cases nj)
 .rw[ho] at jb;obtain rfl:=kz jb;exact Mo hw
 .rw[ho] at jb;obtain rfl:=kz jb;exact uX (uT hw)
theorem qda(hC:CfgOk C)(hb:∀g,C.ben g=false)(hF:ik F){callI:Nat->List AV->ae->OM}(hI:nW C callI){fid b n':Nat}{ops:Array Oper}{Q:Exit->Act->World->Prop}{canon:List Nat}(aG:∀k o,ops[k]?=some o->∀e∈o.after.toList,Region.binds .any e=true->e.on<k)
  (wC:yT ops (tp ops) canon=true) (hnd:canon.Nodup):∀(l:List Nat) (n:Nat),l.length=n->l.Sublist canon->∀(listed:Array Bool),listed.size=ops.size->(∀x,x<ops.size->(listed.getD x true=true↔x∉l))->(∀x∈l,x<ops.size) ->
  (∀k o,k<ops.size->k∉l->ops[k]?=some o->∀e∈o.after.toList,Region.binds .any e=true->e.on∉l) ->
  ∀(st s':St) (a:Act) (w:World) (g:G),fc C fid (gv callI) callI (some b) ops l st=some s'->rI ops b st.mem l->StR B w g st a ->
  (∀a' w' g',StR B w' g' s' a'->Step B w g w' g'->a'.defers=a.defers->Q .normal a' w')->wpAnyIn F n' C.P .any ops Q n listed a w:=by
 intro l n hn
 induction n generalizing l with
 | zero=>
  intro ft listed gU gK hQ oK st s' a w g hr hk hs hq;have so:l=[]:=vD hn;subst so;simp only[fc,bp] at hr;subst hr;refine ⟨?_,hq a w g hs (Step.refl _ _ _) rfl⟩;unfold Region.ready;rw[List.filter_eq_nil_iff];intro x hx;have:listed.getD x true=true:=(gK x (by simpa using hx)).2 (by simp);simp[this]
 | succ n ih=>
  intro ft listed gU gK hQ oK st s' a w g hr hk hs hq
  have yx:∀i∈Region.ready .any ops listed,i∈l/\i<ops.size/\∃o,ops[i]?=some o/\∀e∈o.after.toList,Region.binds .any e=true->e.on∉l:=by
   intro i hi;unfold Region.ready at hi;simp only[uk,oC,dY,rH] at hi;obtain ⟨h1,h2,h3⟩:=hi
   have aU:i∈l:=by
    by_cases h:i∈l
    .exact h
    .have:=(gK i h1).2 h;rw[this] at h2;cases h2
   refine ⟨aU,h1,ops[i],by simp[h1],fun e he hb nk=>?_⟩;have ho:ops[i]?=some ops[i]:=by simp[h1]
   rw[ho] at h3;simp only[ar,nZ] at h3;have h4:=pI.1 h3 e (by simpa using he);simp only[hb,gk,zr] at h4;have h5:=aG i _ ho e he hb
   have h6:listed.getD e.on true=true:=by
    have iZ:e.on<listed.size:=by omega
    simp only[Array.getD,iZ,dif_pos] at h4 ⊢;exact h4
   exact (gK e.on (by omega)).1 h6 nk
  refine ⟨fun nj=>?_,fun i hi=>?_⟩
  ·
   exfalso;have aE:l≠[]:=fun h=>by rw[h] at hn;simp at hn
   obtain ⟨mn,qx,uS⟩:∃mn∈l,∀x∈l,mn<=x:=by
    exact Dp l aE
   have iF:=hQ mn qx
   have:mn∈Region.ready .any ops listed:=by
    unfold Region.ready;simp only[uk,oC,dY,rH]
    refine ⟨iF,?_,?_⟩
    .cases hb:listed.getD mn true with
     | false=>rfl
     | true=>exact absurd qx ((gK mn iF).1 hb)
    .have ho:ops[mn]?=some ops[mn]:=by simp[iF]
     rw[ho];simp only[ar,nZ];rw[pI];intro e he
     by_cases hb:Region.binds .any e=true
     .have h5:=aG mn _ ho e (by simpa using he) hb;have h6:e.on∉l:=fun h=>by have:=uS _ h;omega
      have h7:=(gK e.on (by omega)).2 h6;have iZ:e.on<listed.size:=by omega
      have h8:listed.getD e.on false=true:=by
       simp only[Array.getD,iZ,dif_pos] at h7 ⊢;exact h7
      rw[h8];simp
     .simp at hb;simp[hb]
   rw[nj] at this;simp at this
  .obtain ⟨aU,wo,x,hx,qZ⟩:=yx i hi
   obtain ⟨s1,h1,h2⟩:=first hx l st s' (hnd.sublist ft) aU hk (fun p q lP j hj=>by
    obtain ⟨pre,post,tB⟩:∃pc qc,canon=pc++i::qc/\∀y∈p,y∈pc:=by
     rw[lP] at ft;obtain ⟨c1,c2,hc,eM,eS⟩:=Fi.1 ft
     obtain ⟨d1,d2,hd,Tb⟩:∃d1 d2,c2=d1++i::d2/\True:=by
      have:=eS.subset (oB);obtain ⟨d1,d2,hd⟩:=xv this;exact ⟨d1,d2,hd,trivial⟩
     exact ⟨c1++d1,d2,by rw[hc,hd];simp,fun y hy=>kT.2 (.inl (eM.subset hy))⟩
    rcases Nc wC pre post i tB.1 j (tB.2 j hj) with h|⟨y,x',hy,hZ,bI⟩
    .exfalso;have fp:((nc ops ops.size).getD i 0).testBit j=true:=h
     have:=Cd (D:=fun k=>k∉l) (fun k o dO iR e he hb=>by
      rcases tj k ops.size with bu|bu
      .exact oK k o bu dO iR e he hb
      .rw[En bu] at iR;cases iR) aG ops.size i x wo hx qZ j fp
     exact this (by rw[lP];simp[hj])
    .obtain rfl:x=x':=by simpa [hx] using hZ
     exact ⟨y,hy,bI⟩) hr
   refine WC (base:=some b) hC hb hF hI h1 hs (fun b' fm=>by cases fm;exact fun k dO=>hk k (by simp at dO;rw[dO];exact aU)) fun a' w' g' dP s hd=>?_
   have fp:∀y,y∈l.erase i↔y∈l/\y≠i:=fun y=>by
    rw[(hnd.sublist ft).mem_erase_iff];exact And.comm
   refine ih (l.erase i) (by rw[List.length_erase_of_mem aU];omega) (List.Sublist.trans List.erase_sublist ft) (listed.setIfInBounds i true) (by simpa using gU) (fun y hy=>?_) (fun y hy=>hQ y ((fp y).1 hy).1) (fun k o bu pU iR e he hb nk=>?_) s1 s' a' w' g' h2 (fun k dO o ho hm=>?_) dP fun a'' w'' g'' mc s' gB=>hq a'' w'' g'' mc (s.trans s') (gB.trans hd)
   .have oP:y<listed.size:=by omega
    have hg:(listed.setIfInBounds i true).getD y true=if i=y then true else listed.getD y true:=by
     simp only[fV,xk]
     by_cases jA:i=y
     .subst jA;simp[oP]
     .simp[jA]
    rw[hg,fp]
    by_cases jA:i=y
    .subst jA;simp
    .rw[ag jA,gK y hy]
     constructor
     .intro h h';exact h h'.1
     .intro h h';exact h ⟨h',fun he=>jA he.symm⟩
   .have ss:=(fp _).1 nk
    by_cases sj:k=i
    .subst sj;obtain rfl:x=o:=by simpa [hx] using iR
     exact qZ e he hb ss.1
    .exact oK k o bu (fun h=>pU ((fp k).2 ⟨h,sj⟩)) iR e he hb ss.1
   .exact DV h1 (fun k' uO=>hk k' ((fp k').1 uO).1) (fun h=>((fp i).1 h).2 rfl) k dO o ho hm
theorem qfJ(hC:CfgOk C)(hb:∀g,C.ben g=false)(hF:ik F){callI:Nat->List AV->ae->OM}(hI:nW C callI){R:Type}{fid id n':Nat}{ops:Array Oper}{Q:Exit->Act->World->Prop}{canon:List Nat}(bI:Ae C.P ops canon=true){st:St}{K:St->Option R}{r:R}{a:Act}
  (h:kR C fid (gv callI) callI (some st.mem.length) ops canon ⟨st.tmps,eH st.mem (eE ops ops.size)⟩ K=some r) (hs:StR B w g st a)
  (hn:∀s' a' w' g',K s'=some r->StR B w' g' s' a'->Step B w g w' g'->a'.defers=a.defers->Q .normal a' w'):(Code.region id ops true).wpIn F n' C.P Q a w:=by
 unfold Ae at bI;simp only[dY] at bI;obtain ⟨⟨⟨h1,h2⟩,h3⟩,h4⟩:=bI;have kY:canon.Perm (List.range ops.size):=List.isPerm_iff.1 h2
 have aG:∀k o,ops[k]?=some o->∀e∈o.after.toList,Region.binds .any e=true->e.on<k:=by
  intro k o hk e he hb;have jh:=(eA.1 hk).1;have:=iX.1 h3 k (by simpa using jh);rw[hk] at this;simp only at this;have:=pI.1 this e (by simpa using he);simpa [hb] using this
 rw[qh,Ns] at h;simp only[aS] at h;obtain ⟨s',hr,hK⟩:=h;refine wpIn_region_any h1 ?_
 refine qda hC hb hF hI aG h4 (kY.nodup_iff.2 List.nodup_range) canon ops.size (by rw[kY.length_eq];simp) (List.Sublist.refl _) _ (by simp) (fun x hx=>?_) (fun x hx=>by simpa using kY.mem_iff.1 hx) (fun k o hk dO=>?_) _ s' a _ g hr (Mu ops st.mem canon) ⟨hs.tmp.step (Step.drew B w g),MK (B:=B) (w:=w.drew) (g:=g) hs.mem.drew _,hs.size⟩ ?_
 .have:x∈canon:=kY.mem_iff.2 (by simpa using hx);simp[this,Array.getD,hx]
 .exact absurd (kY.mem_iff.2 (by simpa using hk)) dO
 .intro a' w' g' dP s hd;exact hn s' a' w' g' hK dP ((Step.drew B w g).trans s) hd
def jq(C:Cfg)(fid:Nat):Code->Bool
 | .region id _ d=>!d||(!C.seqm fid id&&(C.two fid id).isEmpty)
 | .seq x y=>jq C fid x&&jq C fid y
 | .cond _ x y=>jq C fid x&&jq C fid y
 | .block _ x=>jq C fid x
 | .loop x=>jq C fid x
 | _=>true
theorem qfS(hC:CfgOk C)(hb:∀g,C.ben g=false)(hF:ik F){callI:Nat->List AV->ae->OM}(hI:nW C callI){R:Type}{fid:Nat}:∀(c:Code),jq C fid c=true->∀(st:St) (K:Ex->St->Option R) (r:R) (a:Act) (w:World) (g:G) (Q:Exit->Act->World->Prop),
  aq C fid (gv callI) callI c st K=some r->StR B w g st a->Iy C B w g a K r Q->c.wpIn F n C.P Q a w:=by
 intro c
 induction c with
 | skip=>
  intro _ st K r a w g Q h hs hq;exact wpIn_skip (hq .normal st a w g h hs (Step.refl _ _ _) rfl)
 | region id ops d=>
  intro n8 st K r a w g Q h hs hq;simp only[aq] at h
  cases d with
  | false=>
   simp only at h;rw[qh] at h;simp only[aS] at h;obtain ⟨s',hr,hK⟩:=h;exact wpIn_region (V0 hC hb hF hI _ st s' a w g hr hs fun a' w' g' dP s hd=>hq .normal s' a' w' g' hK dP s hd)
  | true=>
   simp only at h;simp only[jq,gk,zr,dY,rH,List.isEmpty_iff] at n8;rw[n8.1] at h;simp only at h
   split at h
   .rename_i bI;rw[n8.2] at bI h;exact qfJ hC hb hF hI (Sd bI) h hs fun s' a' w' g' hK dP s hd=>hq .normal s' a' w' g' hK dP s hd
   .cases h
 | seq x y ihx ihy=>
  intro n8 st K r a w g Q h hs hq;simp only[jq,dY] at n8;simp only[aq] at h;refine wpIn_seq (ihx n8.1 st _ r a w g _ h hs ?_);intro e st' a' w' g' hK dP s hd
  cases e with
  | normal=>
   simp only[dQ] at hK;exact ihy n8.2 st' K r a' w' g' Q hK dP fun e st'' a'' w'' g'' uH mc s' gB=>hq e st'' a'' w'' g'' uH mc (s.trans s') (gB.trans hd)
  | exit id=>exact hq (.exit id) st' a' w' g' hK dP s hd
  | ret=>exact hq .ret st' a' w' g' hK dP s hd
 | cond co x y ihx ihy=>
  intro n8 st K r a w g Q h hs hq;simp only[jq,dY] at n8;simp only[aq] at h;have hV:=Ag hs.tmp co
  cases hv:ev st.tmps co with
  | bool b=>
   rw[hv] at h hV;generalize hx:a.eval co=v at hV;cases hV
   cases b with
   | true=>exact wpIn_cond_true hx (ihx n8.1 st K r a w g Q (by simpa [au] using h) hs hq)
   | false=>exact wpIn_cond_false hx (ihy n8.2 st K r a w g Q (by simpa [au] using h) hs hq)
  | _=>rw[hv] at h;simp[au] at h
 | block id x ih=>
  intro n8 st K r a w g Q h hs hq;simp only[aq] at h;refine wpIn_block (ih n8 st _ r a w g _ h hs ?_);intro e st' a' w' g' hK dP s hd
  cases e with
  | normal=>exact hq .normal st' a' w' g' hK dP s hd
  | exit j=>
   simp only[dK] at hK
   by_cases hj:j=id
   .have hb:(j==id)=true:=by simpa using hj
    rw[hb] at hK;simp only[xS,Exit.inBlock,aj hj];exact hq .normal st' a' w' g' hK dP s hd
   .have hb:(j==id)=false:=by simpa using hj
    rw[hb] at hK;simp only[xS,Exit.inBlock,ag hj];exact hq (.exit j) st' a' w' g' hK dP s hd
  | ret=>exact hq .ret st' a' w' g' hK dP s hd
 | loop x ih=>
  intro n8 st K r a w g Q h hs hq;simp only[aq] at h;generalize C.mask fid (keyOf x)=mk at h;have uR:∀(l:List Bool) {w:World} {g:G} {st:St} {a:Act},iO l st.tmps=true->StR B w g st a->StR B w g ⟨rb l st.tmps,st.mem⟩ a:=fun l w g st a hf hs=>⟨by rw[Nq _ _ hf];exact hs.tmp.mask _,hs.mem,hs.size⟩;simp only[iE] at h
  cases uJ:iO mk.head st.tmps with
  | false=>rw[uJ] at h;cases h
  | true=>
  rw[uJ] at h;have qz:=uR mk.head uJ hs;obtain ⟨k0,hn⟩:=qb h
  have round:∀k (st:St) (a:Act) (w:World) (g:G),gp (aq C fid (gv callI) callI x) mk k st K=some r->StR B w g st a->Iy C B w g a K r Q->Code.roundsIn F n C.P x Q k a w:=by
   intro k
   induction k with
   | zero=>intro st a w g h;simp[gp] at h
   | succ k ihk=>
    intro st a w g h hs hq;simp only[gp] at h;rw[roundsIn_succ];refine ih n8 st _ r a w g _ h hs ?_;intro e st' a' w' g' hK dP s hd;have po:Iy C B w' g' a' K r Q:=fun e st'' a'' w'' g'' uH mc s' gB=>hq e st'' a'' w'' g'' uH mc (s.trans s') (gB.trans hd)
    cases e with
    | normal=>
     simp only[fz,iE] at hK
     cases hf:iO mk.head st'.tmps with
     | false=>rw[hf] at hK;cases hK
     | true=>
      rw[hf] at hK;exact ihk _ a' w' g' hK (uR _ hf dP) po
    | exit id=>
     simp only[fz,iE] at hK
     cases hf:iO mk.out st'.tmps with
     | false=>rw[hf] at hK;cases hK
     | true=>rw[hf] at hK;exact hq (.exit id) _ a' w' g' hK (uR _ hf dP) s hd
    | ret=>
     simp only[fz,iE] at hK
     cases hf:iO mk.ret st'.tmps with
     | false=>rw[hf] at hK;cases hK
     | true=>rw[hf] at hK;exact hq .ret _ a' w' g' hK (uR _ hf dP) s hd
  exact wpIn_loop_rounds k0 (round k0 _ a w g hn qz hq)
 | exit id=>
  intro _ st K r a w g Q h hs hq;exact wpIn_exit (hq (.exit id) st a w g h hs (Step.refl _ _ _) rfl)
 | ret=>
  intro _ st K r a w g Q h hs hq;exact wpIn_ret (hq .ret st a w g h hs (Step.refl _ _ _) rfl)
 | rangeFunc=>intro _ st K r a w g Q h;simp[aq] at h
 | scope=>intro _ st K r a w g Q h;simp[aq] at h
 | label=>intro _ st K r a w g Q h;simp[aq] at h
 | goto=>intro _ st K r a w g Q h;simp[aq] at h
 | refuse=>intro _ st K r a w g Q h;simp[aq] at h
end
end Go.Ab
namespace Go.Ab
open Go.Proofs.Try Go.RowKit
theorem CS:prog.funcs[47]?=some f47:=by kernel_rfl
theorem CN:f47.body=some (al f47):=by kernel_rfl
theorem Hx:f47.ntmps=49:=by kernel_rfl
theorem Gu:al f47=.seq (c1 (al f47)) (.seq (c1 (c2 (al f47))) (.seq (c1 (c2 (c2 (al f47)))) (.seq (c1 (c2 (c2 (c2 (al f47))))) (.seq (c1 (c2 (c2 (c2 (c2 (al f47)))))) (.seq (c1 (c2 (c2 (c2 (c2 (c2 (al f47))))))) (.seq (c1 (c2 (c2 (c2 (c2 (c2 (c2 (al f47)))))))) (.seq (.seq (c1 (c1 (c2 (c2 (c2 (c2 (c2 (c2 (c2 (al f47)))))))))) (.block 0 (.rangeFunc (.tmp 36) #[37,38] (rA (c1 (c2 (c1 (c2 (c2 (c2 (c2 (c2 (c2 (c2 (al f47)))))))))))) (rB (c1 (c2 (c1 (c2 (c2 (c2 (c2 (c2 (c2 (c2 (al f47))))))))))))))) (.seq (c1 (c2 (c2 (c2 (c2 (c2 (c2 (c2 (c2 (al f47)))))))))) (c2 (c2 (c2 (c2 (c2 (c2 (c2 (c2 (c2 (al f47)))))))))))))))))):=by kernel_rfl
theorem qfN:rA (c1 (c2 (c1 (c2 (c2 (c2 (c2 (c2 (c2 (c2 (al f47)))))))))))=.seq (.region 11 (fQ (c1 (rA (c1 (c2 (c1 (c2 (c2 (c2 (c2 (c2 (c2 (c2 (al f47)))))))))))))) false) (.region 12 (fQ (c2 (rA (c1 (c2 (c1 (c2 (c2 (c2 (c2 (c2 (c2 (c2 (al f47)))))))))))))) false):=by kernel_rfl
theorem qeT:(fQ (c1 (rA (c1 (c2 (c1 (c2 (c2 (c2 (c2 (c2 (c2 (c2 (al f47))))))))))))))[0]?=some (((fQ (c1 (rA (c1 (c2 (c1 (c2 (c2 (c2 (c2 (c2 (c2 (c2 (al f47))))))))))))))[0]?).getD default):=by kernel_rfl
theorem qeU:(fQ (c2 (rA (c1 (c2 (c1 (c2 (c2 (c2 (c2 (c2 (c2 (c2 (al f47))))))))))))))[0]?=some (((fQ (c2 (rA (c1 (c2 (c1 (c2 (c2 (c2 (c2 (c2 (c2 (c2 (al f47))))))))))))))[0]?).getD default):=by kernel_rfl
theorem HD:(((fQ (c1 (rA (c1 (c2 (c1 (c2 (c2 (c2 (c2 (c2 (c2 (c2 (al f47))))))))))))))[0]?).getD default).op=.assign (.tmp 37)/\(((fQ (c1 (rA (c1 (c2 (c1 (c2 (c2 (c2 (c2 (c2 (c2 (c2 (al f47))))))))))))))[0]?).getD default).guard=none/\(((fQ (c1 (rA (c1 (c2 (c1 (c2 (c2 (c2 (c2 (c2 (c2 (c2 (al f47))))))))))))))[0]?).getD default).dst=some 8:=⟨by kernel_rfl,by kernel_rfl,by kernel_rfl⟩
theorem HE:(((fQ (c2 (rA (c1 (c2 (c1 (c2 (c2 (c2 (c2 (c2 (c2 (c2 (al f47))))))))))))))[0]?).getD default).op=.assign (.tmp 38)/\(((fQ (c2 (rA (c1 (c2 (c1 (c2 (c2 (c2 (c2 (c2 (c2 (c2 (al f47))))))))))))))[0]?).getD default).guard=none/\(((fQ (c2 (rA (c1 (c2 (c1 (c2 (c2 (c2 (c2 (c2 (c2 (c2 (al f47))))))))))))))[0]?).getD default).dst=some 9:=⟨by kernel_rfl,by kernel_rfl,by kernel_rfl⟩
theorem WQ:List.range (fQ (c1 (rA (c1 (c2 (c1 (c2 (c2 (c2 (c2 (c2 (c2 (c2 (al f47)))))))))))))).size=[0]/\List.range (fQ (c2 (rA (c1 (c2 (c1 (c2 (c2 (c2 (c2 (c2 (c2 (c2 (al f47)))))))))))))).size=[0]:=⟨by kernel_rfl,by kernel_rfl⟩
theorem lF:jq ab 47 (c1 (al f47))=true/\jq ab 47 (c1 (c2 (al f47)))=true/\jq ab 47 (c1 (c2 (c2 (al f47))))=true/\jq ab 47 (c1 (c2 (c2 (c2 (al f47)))))=true/\jq ab 47 (c1 (c2 (c2 (c2 (c2 (al f47))))))=true/\jq ab 47 (c1 (c2 (c2 (c2 (c2 (c2 (al f47)))))))=true/\jq ab 47 (c1 (c2 (c2 (c2 (c2 (c2 (c2 (al f47))))))))=true/\jq ab 47 (c1 (c1 (c2 (c2 (c2 (c2 (c2 (c2 (c2 (al f47))))))))))=true/\jq ab 47 (rB (c1 (c2 (c1 (c2 (c2 (c2 (c2 (c2 (c2 (c2 (al f47))))))))))))=true/\jq ab 47 (c1 (c2 (c2 (c2 (c2 (c2 (c2 (c2 (c2 (al f47))))))))))=true/\jq ab 47 (c2 (c2 (c2 (c2 (c2 (c2 (c2 (c2 (c2 (al f47))))))))))=true:=⟨by kernel_rfl,by kernel_rfl,by kernel_rfl,by kernel_rfl,by kernel_rfl,by kernel_rfl,by kernel_rfl,by kernel_rfl,by kernel_rfl,by kernel_rfl,by kernel_rfl⟩
theorem VW(ts:List AV)(m:ae)(R:RV)(e:Int)(h2:ts.getD 2 .any=.ptr 1 0)(h3:ts.getD 3 .any=.int .i64 e)(h:m[1]?=some (cR R)):lU prog m ts f47.results.toList=some [R.av,.int .i64 e]:=by
 have e1:f47.results.toList=[.cell 2 43,.tmp 3]:=by kernel_rfl
 have e2:sN prog m ts (.cell 2 43)=ai (some 3) m (ts.getD 2 .any):=by kernel_rfl
 have e3:sN prog m ts (.tmp 3)=some (ts.getD 3 .any):=by kernel_rfl
 rw[e1,lU,e2,h2,je h];simp only[lU,e3,h3,aa]
 rfl
theorem MY{o:Obj}:tS=true->∀es c,o≠.map es c:=fun h=>absurd h (by decide)
theorem U1{m:ae}:tS=true->Jv m:=fun h=>absurd h (by decide)
theorem nb:∀g,ab.ben g=false:=fun _=>rfl
theorem hG{C:Cfg}(hC:CfgOk C)(hb:∀g,C.ben g=false){F:Fence}{n B:Nat}(hF:ik F){fid:Nat}{c:Code}(n8:jq C fid c=true){st st0:St}{e0:Ex}{a:Act}{w:World}{g:G}{Q:Exit->Act->World->Prop}(h:∀K:KT,aq C fid (AP C) (AC C) c st K=K e0 st0)(hs:StR B w g st a)
  (hq:∀a' w' g',StR B w' g' st0 a'->Step B w g w' g'->a'.defers=a.defers->Q (xS e0) a' w'):c.wpIn F n C.P Q a w:=
 qfS hC hb hF (Iw hC) c n8 st (only e0 st0) _ a w g Q ((h _).trans (qic _ _)) hs fun e st' a' w' g' hK dP s hd=>by
  obtain ⟨rfl,rfl⟩:=qib hK;exact hq a' w' g' dP s hd
end Go.Ab
namespace Go.Ab
open Go.Proofs.Try Go.RowKit
theorem Mw:∀(ns:List Nat) (m:ae) (q:Nat),q∉ns->(fg m ns)[q]?=m[q]?
 | [],_,_,_=>rfl
 | a::l,m,q,h=>by
  show (fg (m.set a none) l)[q]?=_;rw[Mw l _ q (fun hh=>h (nX _ hh)),dM (fun e=>h (by rw[e];exact oB))]
theorem XH{q i:Nat}{l:LV}{o s:RV}{j:Nat}{m:ae}(hl:LOk j l)(aU:i<l.es.length)(fo:o.fr=o)(Lg:AP ab 78 [o.av,(l.es[i]).av]=some s.av)(hm:m[q]?=some (cR o)) :
  ∃(ts:List AV),∀(K:KT),aq ab 47 (AP ab) (AC ab) (rB (c1 (c2 (c1 (c2 (c2 (c2 (c2 (c2 (c2 (c2 (al f47)))))))))))) ⟨[.any,.any,.any,.any,.any,.any,.any,(.ptr q 0),(.int .i64 i),l.av,.any,.any,.any,.any,.any,.any,.any,.any,.any,.any,.any,.any,.any,.any,.any,.any,.any,.any,.any,.any,.any,.any,.any,.any,.any,.any,.any,.any,.any,.any,.any,.any,.any,.any,.any,.any,.any,.any,.any],m⟩ K=K .normal ⟨ts,m.set q (cR s)⟩:=by
 have fr:=hl.fr _ (fH aU);refine ⟨[.any,.any,.any,.any,.any,.any,.any,(.ptr q 0),(.int .i64 i),l.av,.any,.any,.any,.any,.any,.any,.any,.any,.any,.any,.any,.any,.any,.any,.any,.any,.any,.any,.any,.any,.any,.any,.any,.any,.any,.any,.any,.any,.any,o.av,l.av,(.int .i64 i),(.vptr (l.es[i].av).cells),l.es[i].av,s.av,.any,.any,.any,.any],fun K=>?_⟩;rw[qbp,je hm,aa,tR hl aU,aa,sD,aa,bU,fo,fr,Lg,ar,aa,iV hm,aa]
theorem XK{o:RV}{j:Nat}{oq:Rat}{odd:Bool}(ho:ROk j o)(co:Can o oq)(fo:o.fr=o) :
  ∃s:RV,Can s (lf odd*oq)/\s.fr=s/\∀(m:ae) (q:Nat),m[q]?=some (cR o)->∃ts:List AV,(∀(K:KT),aq ab 47 (AP ab) (AC ab) (c1 (c2 (c2 (c2 (c2 (c2 (c2 (c2 (c2 (al f47)))))))))) ⟨[.any,.any,(.ptr 1 0),.any,.any,.any,(.bool odd),(.ptr q 0),.any,.any,.any,.any,.any,.any,.any,.any,.any,.any,.any,.any,.any,.any,.any,.any,.any,.any,.any,.any,.any,.any,.any,.any,.any,.any,.any,.any,.any,.any,.any,.any,.any,.any,.any,.any,.any,.any,.any,.any,.any],m⟩ K=K .normal ⟨ts,m.set q (cR s)⟩)/\ts.length=49/\ts.getD 2 .any=.ptr 1 0/\ts.getD 7 .any=.ptr q 0:=by
 cases odd with
 | true=>
  obtain ⟨s,s1,s2,s3⟩:=Q0 ho;rw[co.q] at s2;refine ⟨s,by rw[show lf true*oq=-oq by unfold lf;rw[aj rfl];grind];exact s2,s3,fun m q hm=>⟨[.any,.any,(.ptr 1 0),.any,.any,.any,(.bool true),(.ptr q 0),.any,.any,.any,.any,.any,.any,.any,.any,.any,.any,.any,.any,.any,.any,.any,.any,.any,.any,.any,.any,.any,.any,.any,.any,.any,.any,.any,.any,.any,.any,.any,.any,.any,.any,.any,.any,.any,(.bool true),o.av,s.av,.any],fun K=>?_,rfl,rfl,rfl⟩⟩;rw[Qh,jj,je hm,aa,bS,fo,s1,ar,aa,iV hm,aa]
 | false=>
  refine ⟨o,by rw[show lf false*oq=oq by unfold lf;rw[ag (by decide)];grind];exact co,fo,fun m q hm=>⟨[.any,.any,(.ptr 1 0),.any,.any,.any,(.bool false),(.ptr q 0),.any,.any,.any,.any,.any,.any,.any,.any,.any,.any,.any,.any,.any,.any,.any,.any,.any,.any,.any,.any,.any,.any,.any,.any,.any,.any,.any,.any,.any,.any,.any,.any,.any,.any,.any,.any,.any,(.bool false),.any,.any,.any],fun K=>?_,rfl,rfl,rfl⟩⟩;rw[Qh,fF]
  have e:m.set q (cR o)=m:=List.ext_getElem? fun t=>by
   rw[zK]
   split
   .rename_i h;subst h;rw[aj (dX.1 hm).1,hm]
   .rfl
  rw[e]
theorem qfR:∀(args:Array Value) (w:World),(callFunc 114 args).run prog w=.ok (.enter 114 args) w:=by
 intro args w
 have L1:(f114.name == "runtime.NumGoroutine")=false:=by kernel_rfl
 have hb:f114.body.isNone=false:=by rw[SZ];rfl
 simp only[callFunc,Tg,L1,hb,Sem.run_bind,Sem.run_pure,run_program,Result.andThen_ok,ko,j6]
theorem qf2{w:World}{g:G}{f:Nat}{c:AV}{v:Value}(h:V w g (.fn f [c]) v):∃pv,v=.func (.func f) #[] #[pv]/\V w g c pv:=by
 cases h with
 | fn _ _ vs hl hv=>
  have hs:vs.size=1:=by simpa using hl.symm
  obtain ⟨l⟩:=vs
  match l,hs with
  | [p],_=>exact ⟨p,rfl,by simpa using hv 0 (by simp)⟩
theorem Lc(t:Array Value)(a b:Value):((#[37,38]:Array Tmp).zip #[a,b]).foldl (fun t (p,v)=>t.setIfInBounds p v) t=(t.setIfInBounds 37 a).setIfInBounds 38 b:=by
 simp[Array.zip]
def oG(N:MX):Nat->Rat
 | 0=>1
 | i+1=>oG N i*N i i
end Go.Ab
namespace Go.Ab
open Go.Proofs.Try
section
variable {xx:MV} {n j:Nat}
open Classical in
noncomputable def fO(xx:MV)(n:Nat)(o:RV)(i:Nat):RV:=
 if hh:∃s:RV,∃h:i*n+i<xx.lv.es.length,AP ab 78 [o.av,(xx.lv.es[i*n+i]).av]=some s.av/\Can s (o.q*gY xx (i*n+i))/\s.fr=s then Classical.choose hh else mw
noncomputable def OL(xx:MV)(n:Nat)(l:List Nat):RV:=l.foldl (fO xx n) j8
theorem Qd(l:List Nat)(i:Nat):OL xx n (l++[i])=fO xx n (OL xx n l) i:=by simp[OL,List.foldl_append]
def Dk(n j t:Nat)(o:RV):Prop:=ROk (1+n*j) o/\o.fr=o/\Bd (1+t*j) o.q
theorem KZ(hl:LOk j xx.lv)(hlen:xx.lv.es.length=n*n)(mO:1<=j)(hj:1+n*j<2^36){t i:Nat}{o:RV}(ho:Dk n j t o)(ht:t+1<=n)(hi:i<n) :
  (∀hp:i*n+i<xx.lv.es.length,AP ab 78 [o.av,(xx.lv.es[i*n+i]).av]=some (fO xx n o i).av)/\Can (fO xx n o i) (o.q*gY xx (i*n+i))/\Dk n j (t+1) (fO xx n o i):=by
 have hp:i*n+i<xx.lv.es.length:=by rw[hlen];exact kB hi hi
 have hc:=hl.ok _ (fH hp);have hNj:(t+1)*j<=n*j:=fW j ht;have e2:(t+1)*j=t*j+j:=by rw[fI,nH]
 have hex:∃s:RV,∃h:i*n+i<xx.lv.es.length,AP ab 78 [o.av,(xx.lv.es[i*n+i]).av]=some s.av/\Can s (o.q*gY xx (i*n+i))/\s.fr=s:=by
  obtain ⟨s,s1,s2,s3⟩:=QY ho.1 (hc.mono (show j<=1+n*j by omega)) (by omega) hj;exact ⟨s,hp,s1,by rw[rl hp];exact s2,s3⟩
 have e:fO xx n o i=Classical.choose hex:=by unfold fO;rw[dif_pos hex]
 obtain ⟨_,h1,h2,h3⟩:=Classical.choose_spec hex;rw[<- e] at h1 h2 h3;have bq:Bd (1+(t+1)*j) (o.q*gY xx (i*n+i)):=(zp ho.2.2 (yX hl mO) (by omega)).mono (by omega);exact ⟨fun _=>h1,h2,h2.ok (bq.mono (by omega)) (by omega),h3,by rw[h2.q];exact bq⟩
theorem Sv(hl:LOk j xx.lv)(hlen:xx.lv.es.length=n*n)(mO:1<=j)(hj:1+n*j<2^36):∀(l:List Nat) (o:RV) (t:Nat),t+l.length<=n->(∀i∈l,i<n)->Dk n j t o->Dk n j (t+l.length) (l.foldl (fO xx n) o)
 | [],o,t,_,_,h=>h
 | i::l,o,t,ht,hi,h=>by
  rw[aR] at ht;have:=Sv hl hlen mO hj l (fO xx n o i) (t+1) (by omega) (fun i' h'=>hi i' (nX _ h')) (KZ hl hlen mO hj h (by omega) (hi i oB)).2.2;rw[aR,show t+(l.length+1)=t+1+l.length by omega];exact this
theorem Fy(hl:LOk j xx.lv)(hlen:xx.lv.es.length=n*n)(mO:1<=j)(hj:1+n*j<2^36){l:List Nat}(h:l.length<=n)(hi:∀i∈l,i<n):Dk n j l.length (OL xx n l):=by
 have:=Sv hl hlen mO hj l j8 0 (by omega) hi ⟨U9.mono (by omega),qia,by rw[Cl.q];exact Bu (by omega)⟩;rw[aL] at this;exact this
theorem Kc(hl:LOk j xx.lv)(hlen:xx.lv.es.length=n*n)(mO:1<=j)(hj:1+n*j<2^36):∀i,i<=n->Can (OL xx n (List.range i)) (oG (eW xx n) i)
 | 0,_=>Cl
 | i+1,h=>by
  have ih:=Kc hl hlen mO hj i (by omega);have hQ:=Fy hl hlen mO hj (l:=List.range i) (by rw[List.length_range];omega) (fun t ht=>by have:=oC.1 ht;omega);rw[List.length_range] at hQ;have:=(KZ hl hlen mO hj hQ (by omega) (show i<n by omega)).2.1;rw[ih.q] at this;rw[List.range_succ,Qd];exact this
end
end Go.Ab
namespace Go.Ab
open Go.Proofs.Try Go.RowKit
theorem jy(n t:Nat):(List.replicate n AV.any).getD t .any=.any:=by
 rw[bA,ui];split<;>rfl
theorem StR.pat{B:Nat}{w:World}{g:G}{ts P:List AV}{m:ae}{a:Act}(h:StR B w g ⟨ts,m⟩ a)(hl:P.length=ts.length)(hp:∀t,P.getD t .any=ts.getD t .any\/P.getD t .any=.any):StR B w g ⟨P,m⟩ a:=⟨h.tmp.less hl hp,h.mem,h.size⟩
theorem K6{B:Nat}{w:World}{g:G}{R:RV}{e:Int}{st:St}{a:Act}{w1:World}{g1:G}(hm:MemR B w g [])(hs:StR B w1 g1 st a)(s:Step B w g w1 g1)(h2:st.tmps.getD 2 .any=.ptr 1 0)(h3:st.tmps.getD 3 .any=.int .i64 e)(h1:st.mem[1]?=some (cR R))(hR:R.fr=R)(hd:a.defers=[]) :
  bodyPostM Fence.wide 5 prog f47 (fun e' w'=>∃v' g',e'=.returned v'/\Step B w g w' g'/\MemR B w' g' []/\V w' g' (.tup [R.av,.int .i64 e]) v') .ret a w1:=by
 refine Mz hs (VW _ _ R e h2 h3 h1) hd fun v hv=>?_;refine ⟨v,g1.bare,rfl,s.bare hm,hs.mem.none,?_⟩;refine V.bare hv ?_;have h:=fE RV.num hR;have h':=fE RV.den hR;obtain ⟨neg,⟨z1,o1,d1⟩,⟨z2,o2,d2⟩⟩:=R;simp only[RV.fr,NV.fr,NV.mk.injEq,true_and,and_true] at h h';cases o1<;>cases o2<;>simp[Own.fr] at h h'<;>rfl
theorem qfm{x:MV}{k:Nat}(hx:IsM k x)(hk:k<2^36)(hb:aP x=false):kr prog 47 [x.av] [] (.tup [zR.av,.int .i64 1]) []:=by
 intro B w g vs hm hB hl hv;refine (callsIn_wide (n:=5)).1 ?_;have hF:ik Fence.wide:=.inl rfl;refine callsIn_of_wp_marks (fn:=f47) (c:=al f47) ?hf ?hb ?hF ?hh ?hro
 case hf=>exact CS
 case hb=>exact CN
 case hF=>exact hF.fn 47
 case hro=>rfl
 have oh:vs.size=1:=by simpa using hl.symm
 rw[Hx,oh];have kO:=tZ hl hv 48;rw[Gu];refine wpIn_seq (hG (C:=ab) fC nb hF lF.1 (Eu x) (show StR B w g _ _ from ⟨kO,hm,hB⟩) fun a1 w1 g1 eM s1 iP=>?_)
 have p1:=eM.pat (P:=[.any,(.ptr 0 0),(.ptr 1 0),.any,.any,.any,.any,.any,.any,.any,.any,.any,.any,.any,.any,.any,.any,.any,.any,.any,.any,.any,.any,.any,.any,.any,.any,.any,.any,.any,.any,.any,.any,.any,.any,.any,.any,.any,.any,.any,.any,.any,.any,.any,.any,.any,.any,.any,.any]) rfl (fun t=>by
    match t with
    | 1|2=>exact .inl rfl
    | 0|3=>exact .inr rfl
    | t+4=>exact .inr (jy 45 t))
 refine wpIn_seq (hG (C:=ab) fC nb hF lF.2.1 (e0:=.ret) (fun K=>(Ev hx (by omega) K).trans (ag (by rw[hb];decide))) p1 fun a2 w2 g2 eS s2 jz=>?_);exact K6 hm eS (s1.trans s2) rfl rfl rfl rfl (jz.trans iP)
theorem qfn{x:MV}{k:Nat}(hx:IsM k x)(hk:k<2^36)(hb:aP x=true)(hc:x.rows≠x.cols):kr prog 47 [x.av] [] (.tup [zR.av,.int .i64 30]) []:=by
 intro B w g vs hm hB hl hv;refine (callsIn_wide (n:=5)).1 ?_;have hF:ik Fence.wide:=.inl rfl;refine callsIn_of_wp_marks (fn:=f47) (c:=al f47) ?hf ?hb ?hF ?hh ?hro
 case hf=>exact CS
 case hb=>exact CN
 case hF=>exact hF.fn 47
 case hro=>rfl
 have oh:vs.size=1:=by simpa using hl.symm
 rw[Hx,oh];have kO:=tZ hl hv 48;rw[Gu];refine wpIn_seq (hG (C:=ab) fC nb hF lF.1 (Eu x) (show StR B w g _ _ from ⟨kO,hm,hB⟩) fun a1 w1 g1 eM s1 iP=>?_)
 have p1:=eM.pat (P:=[.any,(.ptr 0 0),(.ptr 1 0),.any,.any,.any,.any,.any,.any,.any,.any,.any,.any,.any,.any,.any,.any,.any,.any,.any,.any,.any,.any,.any,.any,.any,.any,.any,.any,.any,.any,.any,.any,.any,.any,.any,.any,.any,.any,.any,.any,.any,.any,.any,.any,.any,.any,.any,.any]) rfl (fun t=>by
    match t with
    | 1|2=>exact .inl rfl
    | 0|3=>exact .inr rfl
    | t+4=>exact .inr (jy 45 t))
 refine wpIn_seq (hG (C:=ab) fC nb hF lF.2.1 (e0:=.normal) (fun K=>(Ev hx (by omega) K).trans (aj hb)) p1 fun a2 w2 g2 eS s2 jz=>?_)
 have p2:=eS.pat (P:=[.any,(.ptr 0 0),(.ptr 1 0),.any,.any,.any,.any,.any,.any,.any,.any,.any,.any,.any,.any,.any,.any,.any,.any,.any,.any,.any,.any,.any,.any,.any,.any,.any,.any,.any,.any,.any,.any,.any,.any,.any,.any,.any,.any,.any,.any,.any,.any,.any,.any,.any,.any,.any,.any]) rfl (fun t=>by
    match t with
    | 1|2=>exact .inl rfl
    | 0|3|4|5|6|7|8|9|10|11|12=>exact .inr rfl
    | t+13=>exact .inr (jy 36 t))
 refine wpIn_seq (hG (C:=ab) fC nb hF lF.2.2.1 (e0:=.ret) (fun K=>(IG K).trans (ag hc)) p2 fun a3 w3 g3 uW s3 sb=>?_);exact K6 hm uW ((s1.trans s2).trans s3) rfl rfl rfl rfl (sb.trans (jz.trans iP))
theorem qfo{x:MV}{k n:Nat}(hx:IsM k x)(hk:k<2^36)(hb:aP x=true)(aD:x.rows=n)(az:x.cols=n){ts1 ts2:List AV}{m1 m2:ae}{p r:Nat}{odd:Bool}{xx:MV}{ns:List Nat}
  (q1:∀K:KT,aq ab 47 (AP ab) (AC ab) (c1 (c2 (c2 (c2 (al f47))))) ⟨[.any,(.ptr 0 0),(.ptr 1 0),.any,.any,.any,.any,.any,.any,.any,.any,.any,.any,.any,.any,.any,.any,.any,.any,.any,.any,.any,.any,.any,.any,.any,.any,.any,.any,.any,.any,.any,.any,.any,.any,.any,.any,.any,.any,.any,.any,.any,.any,.any,.any,.any,.any,.any,.any],[cM x,cR zR]⟩ K=K .normal ⟨ts1,m1⟩) (l1:ts1.length=49) (l12:ts1.getD 2 .any=.ptr 1 0) (l14:ts1.getD 4 .any=.ptr p 0)
  (q2:∀K:KT,aq ab 47 (AP ab) (AC ab) (c1 (c2 (c2 (c2 (c2 (al f47)))))) ⟨[.any,.any,(.ptr 1 0),.any,(.ptr p 0),.any,.any,.any,.any,.any,.any,.any,.any,.any,.any,.any,.any,.any,.any,.any,.any,.any,.any,.any,.any,.any,.any,.any,.any,.any,.any,.any,.any,.any,.any,.any,.any,.any,.any,.any,.any,.any,.any,.any,.any,.any,.any,.any,.any],m1⟩ K=K .normal ⟨ts2,m2⟩) (l2:ts2.length=49) (l22:ts2.getD 2 .any=.ptr 1 0) (l24:ts2.getD 4 .any=.ptr p 0) (l25:ts2.getD 5 .any=.int .i64 r) (l26:ts2.getD 6 .any=.bool odd) (D:Dn x k n m2 p r odd xx ns) (hr:r<n) :
  kr prog 47 [x.av] [] (.tup [mw.av,.int .i64 0]) []:=by
 have hc:x.rows=x.cols:=aD.trans az.symm;intro B w g vs hm hB hl hv;refine (callsIn_wide (n:=5)).1 ?_;have hF:ik Fence.wide:=.inl rfl;refine callsIn_of_wp_marks (fn:=f47) (c:=al f47) ?hf ?hb ?hF ?hh ?hro
 case hf=>exact CS
 case hb=>exact CN
 case hF=>exact hF.fn 47
 case hro=>rfl
 have oh:vs.size=1:=by simpa using hl.symm
 rw[Hx,oh];have kO:=tZ hl hv 48;rw[Gu];refine wpIn_seq (hG (C:=ab) fC nb hF lF.1 (Eu x) (show StR B w g _ _ from ⟨kO,hm,hB⟩) fun a1 w1 g1 eM s1 iP=>?_)
 have p1:=eM.pat (P:=[.any,(.ptr 0 0),(.ptr 1 0),.any,.any,.any,.any,.any,.any,.any,.any,.any,.any,.any,.any,.any,.any,.any,.any,.any,.any,.any,.any,.any,.any,.any,.any,.any,.any,.any,.any,.any,.any,.any,.any,.any,.any,.any,.any,.any,.any,.any,.any,.any,.any,.any,.any,.any,.any]) rfl (fun t=>by
    match t with
    | 1|2=>exact .inl rfl
    | 0|3=>exact .inr rfl
    | t+4=>exact .inr (jy 45 t))
 refine wpIn_seq (hG (C:=ab) fC nb hF lF.2.1 (e0:=.normal) (fun K=>(Ev hx (by omega) K).trans (aj hb)) p1 fun a2 w2 g2 eS s2 jz=>?_)
 have p2:=eS.pat (P:=[.any,(.ptr 0 0),(.ptr 1 0),.any,.any,.any,.any,.any,.any,.any,.any,.any,.any,.any,.any,.any,.any,.any,.any,.any,.any,.any,.any,.any,.any,.any,.any,.any,.any,.any,.any,.any,.any,.any,.any,.any,.any,.any,.any,.any,.any,.any,.any,.any,.any,.any,.any,.any,.any]) rfl (fun t=>by
    match t with
    | 1|2=>exact .inl rfl
    | 0|3|4|5|6|7|8|9|10|11|12=>exact .inr rfl
    | t+13=>exact .inr (jy 36 t))
 refine wpIn_seq (hG (C:=ab) fC nb hF lF.2.2.1 (e0:=.normal) (fun K=>(IG K).trans (aj hc)) p2 fun a3 w3 g3 uW s3 sb=>?_)
 have p3:=uW.pat (P:=[.any,(.ptr 0 0),(.ptr 1 0),.any,.any,.any,.any,.any,.any,.any,.any,.any,.any,.any,.any,.any,.any,.any,.any,.any,.any,.any,.any,.any,.any,.any,.any,.any,.any,.any,.any,.any,.any,.any,.any,.any,.any,.any,.any,.any,.any,.any,.any,.any,.any,.any,.any,.any,.any]) rfl (fun t=>by
    match t with
    | 1|2=>exact .inl rfl
    | 0|3|4|5|6|7|8|9|10|11|12|13|14|15|16|17|18=>exact .inr rfl
    | t+19=>exact .inr (jy 30 t))
 refine wpIn_seq (hG (C:=ab) fC nb hF lF.2.2.2.1 (e0:=.normal) q1 p3 fun a4 w4 g4 yB s4 sc=>?_)
 have p4:=yB.pat (P:=[.any,.any,(.ptr 1 0),.any,(.ptr p 0),.any,.any,.any,.any,.any,.any,.any,.any,.any,.any,.any,.any,.any,.any,.any,.any,.any,.any,.any,.any,.any,.any,.any,.any,.any,.any,.any,.any,.any,.any,.any,.any,.any,.any,.any,.any,.any,.any,.any,.any,.any,.any,.any,.any]) (by rw[l1];rfl) (fun t=>by
    match t with
    | 2=>exact .inl l12.symm
    | 4=>exact .inl l14.symm
    | 0|1|3=>exact .inr rfl
    | t+5=>exact .inr (jy 44 t))
 refine wpIn_seq (hG (C:=ab) fC nb hF lF.2.2.2.2.1 (e0:=.normal) q2 p4 fun a5 w5 g5 Mg s5 At=>?_)
 have p5:=Mg.pat (P:=[.any,.any,(.ptr 1 0),.any,(.ptr p 0),(.int .i64 r),(.bool odd),.any,.any,.any,.any,.any,.any,.any,.any,.any,.any,.any,.any,.any,.any,.any,.any,.any,.any,.any,.any,.any,.any,.any,.any,.any,.any,.any,.any,.any,.any,.any,.any,.any,.any,.any,.any,.any,.any,.any,.any,.any,.any]) (by rw[l2];rfl) (fun t=>by
    match t with
    | 2=>exact .inl l22.symm
    | 4=>exact .inl l24.symm
    | 5=>exact .inl l25.symm
    | 6=>exact .inl l26.symm
    | 0|1|3=>exact .inr rfl
    | t+7=>exact .inr (jy 42 t))
 have s05:=(((s1.trans s2).trans s3).trans s4).trans s5;have LB:a5.defers=[]:=At.trans (sc.trans (sb.trans (jz.trans iP)));refine wpIn_seq (hG (C:=ab) fC nb hF lF.2.2.2.2.2.1 (e0:=.ret) (fun K=>(Oj D K).trans (aj hr)) p5 fun a6 w6 g6 Mh s6 ye=>?_);exact K6 hm Mh (s05.trans s6) rfl rfl (jF D.p2) Od (ye.trans LB)
end Go.Ab
namespace Go.Ab
open Go.Proofs.Try Go.RowKit
theorem V.it{w:World}{g:G}{a b:Int}{sh sh':Sh}{z:Bool}{o:Own}{es:List AV}{v:Value}(h:V w g (.vptr [.int .i64 a,.int .i64 b,.lst sh z o es]) v)(hs:sh=sh'\/es=[])(hc:cl (.lst sh z o es)=true):V w g (.vptr [.int .i64 a,.int .i64 b,.lst sh' z o es]) v:=by
 rcases hs with rfl|rfl
 .exact h
 .cases h with
  | vptr cs b' off us cf hv=>
   refine .vptr _ b' off us (fun j hj=>cf j (by simpa using hj)) (fun j hj=>?_)
   match j,hj with
   | 0,_=>exact hv 0 (by simp)
   | 1,_=>exact hv 1 (by simp)
   | 2,_=>exact (hv 2 (by simp)).resh hc
theorem qff{l:LV}(h:l.fr=l):cl l.av=true:=by
 obtain ⟨sh,z,o,es⟩:=l
 cases o with
 | no=>rfl
 | full=>rfl
 | tok a b=>simp[LV.fr,Own.fr] at h
theorem qfp{x:MV}{k n:Nat}(hx:IsM k x)(bu:1<=k)(hk:k<2^36)(hb:aP x=true)(aD:x.rows=n)(az:x.cols=n)(hn:n<=60)(hK:1+n*kk k n<2^36)(CI:kk k n<2^36){ts1 ts2:List AV}{m1 m2:ae}{p r:Nat}{odd:Bool}{xx:MV}{ns:List Nat}
  (q1:∀K:KT,aq ab 47 (AP ab) (AC ab) (c1 (c2 (c2 (c2 (al f47))))) ⟨[.any,(.ptr 0 0),(.ptr 1 0),.any,.any,.any,.any,.any,.any,.any,.any,.any,.any,.any,.any,.any,.any,.any,.any,.any,.any,.any,.any,.any,.any,.any,.any,.any,.any,.any,.any,.any,.any,.any,.any,.any,.any,.any,.any,.any,.any,.any,.any,.any,.any,.any,.any,.any,.any],[cM x,cR zR]⟩ K=K .normal ⟨ts1,m1⟩) (l1:ts1.length=49) (l12:ts1.getD 2 .any=.ptr 1 0) (l14:ts1.getD 4 .any=.ptr p 0)
  (q2:∀K:KT,aq ab 47 (AP ab) (AC ab) (c1 (c2 (c2 (c2 (c2 (al f47)))))) ⟨[.any,.any,(.ptr 1 0),.any,(.ptr p 0),.any,.any,.any,.any,.any,.any,.any,.any,.any,.any,.any,.any,.any,.any,.any,.any,.any,.any,.any,.any,.any,.any,.any,.any,.any,.any,.any,.any,.any,.any,.any,.any,.any,.any,.any,.any,.any,.any,.any,.any,.any,.any,.any,.any],m1⟩ K=K .normal ⟨ts2,m2⟩) (l2:ts2.length=49) (l22:ts2.getD 2 .any=.ptr 1 0) (l24:ts2.getD 4 .any=.ptr p 0) (l25:ts2.getD 5 .any=.int .i64 r) (l26:ts2.getD 6 .any=.bool odd) (D:Dn x k n m2 p r odd xx ns) (hr:¬ r<n) :
  ∃R:RV,R.fr=R/\Can R (lf odd*oG (eW xx n) n)/\kr prog 47 [x.av] [] (.tup [R.av,.int .i64 0]) []:=by
 have hc:x.rows=x.cols:=aD.trans az.symm;have kj:1<=kk k n:=b7 bu (mf k (jH n));have oin:=Fy D.lok D.len kj hK (l:=List.range n) (by rw[List.length_range];omega) (fun t ht=>oC.1 ht);obtain ⟨R,R1,R2,R3⟩:=XK (odd:=odd) oin.1 (Kc D.lok D.len kj hK n (aW n)) oin.2.1;refine ⟨R,R2,R1,?_⟩;intro B w g vs hm hB hl hv;refine (callsIn_wide (n:=5)).1 ?_;have hF:ik Fence.wide:=.inl rfl;refine callsIn_of_wp_marks (fn:=f47) (c:=al f47) ?hf ?hb ?hF ?hh ?hro
 case hf=>exact CS
 case hb=>exact CN
 case hF=>exact hF.fn 47
 case hro=>rfl
 have oh:vs.size=1:=by simpa using hl.symm
 rw[Hx,oh];have kO:=tZ hl hv 48;rw[Gu];refine wpIn_seq (hG (C:=ab) fC nb hF lF.1 (Eu x) (show StR B w g _ _ from ⟨kO,hm,hB⟩) fun a1 w1 g1 eM s1 iP=>?_)
 have p1:=eM.pat (P:=[.any,(.ptr 0 0),(.ptr 1 0),.any,.any,.any,.any,.any,.any,.any,.any,.any,.any,.any,.any,.any,.any,.any,.any,.any,.any,.any,.any,.any,.any,.any,.any,.any,.any,.any,.any,.any,.any,.any,.any,.any,.any,.any,.any,.any,.any,.any,.any,.any,.any,.any,.any,.any,.any]) rfl (fun t=>by
    match t with
    | 1|2=>exact .inl rfl
    | 0|3=>exact .inr rfl
    | t+4=>exact .inr (jy 45 t))
 refine wpIn_seq (hG (C:=ab) fC nb hF lF.2.1 (e0:=.normal) (fun K=>(Ev hx (by omega) K).trans (aj hb)) p1 fun a2 w2 g2 eS s2 jz=>?_)
 have p2:=eS.pat (P:=[.any,(.ptr 0 0),(.ptr 1 0),.any,.any,.any,.any,.any,.any,.any,.any,.any,.any,.any,.any,.any,.any,.any,.any,.any,.any,.any,.any,.any,.any,.any,.any,.any,.any,.any,.any,.any,.any,.any,.any,.any,.any,.any,.any,.any,.any,.any,.any,.any,.any,.any,.any,.any,.any]) rfl (fun t=>by
    match t with
    | 1|2=>exact .inl rfl
    | 0|3|4|5|6|7|8|9|10|11|12=>exact .inr rfl
    | t+13=>exact .inr (jy 36 t))
 refine wpIn_seq (hG (C:=ab) fC nb hF lF.2.2.1 (e0:=.normal) (fun K=>(IG K).trans (aj hc)) p2 fun a3 w3 g3 uW s3 sb=>?_)
 have p3:=uW.pat (P:=[.any,(.ptr 0 0),(.ptr 1 0),.any,.any,.any,.any,.any,.any,.any,.any,.any,.any,.any,.any,.any,.any,.any,.any,.any,.any,.any,.any,.any,.any,.any,.any,.any,.any,.any,.any,.any,.any,.any,.any,.any,.any,.any,.any,.any,.any,.any,.any,.any,.any,.any,.any,.any,.any]) rfl (fun t=>by
    match t with
    | 1|2=>exact .inl rfl
    | 0|3|4|5|6|7|8|9|10|11|12|13|14|15|16|17|18=>exact .inr rfl
    | t+19=>exact .inr (jy 30 t))
 refine wpIn_seq (hG (C:=ab) fC nb hF lF.2.2.2.1 (e0:=.normal) q1 p3 fun a4 w4 g4 yB s4 sc=>?_)
 have p4:=yB.pat (P:=[.any,.any,(.ptr 1 0),.any,(.ptr p 0),.any,.any,.any,.any,.any,.any,.any,.any,.any,.any,.any,.any,.any,.any,.any,.any,.any,.any,.any,.any,.any,.any,.any,.any,.any,.any,.any,.any,.any,.any,.any,.any,.any,.any,.any,.any,.any,.any,.any,.any,.any,.any,.any,.any]) (by rw[l1];rfl) (fun t=>by
    match t with
    | 2=>exact .inl l12.symm
    | 4=>exact .inl l14.symm
    | 0|1|3=>exact .inr rfl
    | t+5=>exact .inr (jy 44 t))
 refine wpIn_seq (hG (C:=ab) fC nb hF lF.2.2.2.2.1 (e0:=.normal) q2 p4 fun a5 w5 g5 Mg s5 At=>?_)
 have p5:=Mg.pat (P:=[.any,.any,(.ptr 1 0),.any,(.ptr p 0),(.int .i64 r),(.bool odd),.any,.any,.any,.any,.any,.any,.any,.any,.any,.any,.any,.any,.any,.any,.any,.any,.any,.any,.any,.any,.any,.any,.any,.any,.any,.any,.any,.any,.any,.any,.any,.any,.any,.any,.any,.any,.any,.any,.any,.any,.any,.any]) (by rw[l2];rfl) (fun t=>by
    match t with
    | 2=>exact .inl l22.symm
    | 4=>exact .inl l24.symm
    | 5=>exact .inl l25.symm
    | 6=>exact .inl l26.symm
    | 0|1|3=>exact .inr rfl
    | t+7=>exact .inr (jy 42 t))
 have s05:=(((s1.trans s2).trans s3).trans s4).trans s5;have LB:a5.defers=[]:=At.trans (sc.trans (sb.trans (jz.trans iP)));refine wpIn_seq (hG (C:=ab) fC nb hF lF.2.2.2.2.2.1 (e0:=.normal) (fun K=>(Oj D K).trans (ag hr)) p5 fun a6 w6 g6 Mh s6 ye=>?_)
 have p6:=Mh.pat (P:=[.any,.any,(.ptr 1 0),.any,(.ptr p 0),.any,(.bool odd),.any,.any,.any,.any,.any,.any,.any,.any,.any,.any,.any,.any,.any,.any,.any,.any,.any,.any,.any,.any,.any,.any,.any,.any,.any,.any,.any,.any,.any,.any,.any,.any,.any,.any,.any,.any,.any,.any,.any,.any,.any,.any]) rfl (fun t=>by
    match t with
    | 2|4|6=>exact .inl rfl
    | 0|1|3|5|7|8|9|10|11|12|13|14|15|16|17|18|19|20|21|22|23|24|25|26|27|28|29|30|31|32=>exact .inr rfl
    | t+33=>exact .inr (jy 16 t))
 refine wpIn_seq (hG (C:=ab) fC nb hF lF.2.2.2.2.2.2.1 (e0:=.normal) (fun K=>XI K) p6 fun a7 w7 g7 hs7 s7 LC=>?_)
 have p7:=hs7.pat (P:=[.any,.any,(.ptr 1 0),.any,(.ptr p 0),.any,(.bool odd),(.ptr m2.length 0),.any,.any,.any,.any,.any,.any,.any,.any,.any,.any,.any,.any,.any,.any,.any,.any,.any,.any,.any,.any,.any,.any,.any,.any,.any,.any,.any,.any,.any,.any,.any,.any,.any,.any,.any,.any,.any,.any,.any,.any,.any]) rfl (fun t=>by
    match t with
    | 2|4|6|7=>exact .inl rfl
    | 0|1|3|5|8|9|10|11|12|13|14|15|16|17|18|19|20|21|22|23|24|25|26|27|28|29|30|31|32|33|34=>exact .inr rfl
    | t+35=>exact .inr (jy 14 t))
 obtain ⟨v7,h7⟩:=XJ D;refine wpIn_seq (wpIn_seq (hG (C:=ab) fC nb hF lF.2.2.2.2.2.2.2.1 (e0:=.normal) h7 p7 fun a8 w8 g8 yC s8 hd8=>?_));have s08:=((s05.trans s6).trans s7).trans s8;have qgr:a8.defers=[]:=hd8.trans (LC.trans (ye.trans LB));obtain ⟨pv,L8,xZ⟩:=qf2 (yC.tmp.2 36:V w8 g8 (.fn 114 [vM xx]) (a8.tmps.getD 36 undef));have qgI:xx.lv.fr=xx.lv:=by have:=D.fr;unfold MV.fr at this;exact fE MV.lv this
 have hVi:V w8 g8 (px n n xx.lv.z xx.lv.o (xx.lv.es.map RV.av)) pv:=by
  have h1:V w8 g8 (.vptr [.int .i64 (n:Int),.int .i64 (n:Int),.lst xx.lv.sh xx.lv.z xx.lv.o (xx.lv.es.map RV.av)]) pv:=by
   have:vM xx=.vptr [.int .i64 (n:Int),.int .i64 (n:Int),.lst xx.lv.sh xx.lv.z xx.lv.o (xx.lv.es.map RV.av)]:=by rw[vM,D.rows,D.cols];rfl
   rw[<- this];exact xZ
  exact h1.it (D.lok.sh.imp id fun h=>by rw[h];rfl) (qff qgI)
 have Lh:B<=w8.heap.size:=yC.size;have g1:(fg (m2++[cR j8]) ns)[1]?=some (cR zR):=(Mw ns _ 1 (fun h=>by have:=D.ns2 1 h;omega)).trans (l7 D.res);have gq:(fg (m2++[cR j8]) ns)[m2.length]?=some (cR j8):=(Mw ns _ _ D.nq).trans bX;refine wpIn_block ?_
 refine wpIn_rangeFunc_ownF (F:=Fence.wide) (n:=5) (P:=prog) rfl (by omega) (gf:=114) (lb:=#[pv]) L8 (hF.fn 114) qfR
  (qjA (w:=w8) (g:=g8) hVi (by rw[gu];exact D.len) hn hn (n:=4) (by omega)) Hold.trans (fun W l o o' h1 h2 h3 _=>Hold.book (aW _) W l o o' h1 h2 h3) (Below.refl _ _) (fun _=>rfl)
  (fun pre W=>∃g' m',Step B w8 g8 W g'/\MemR B W g' m'/\B<=W.heap.size/\(∀y∈pre,y.1.1<n)/\m'[m2.length]?=some (cR (OL xx n (pre.map fun y=>y.1.1)))/\m'[1]?=some (cR zR))
  (fun c pre W=>False)
  ?hI ?hIx ⟨g8,_,Step.refl _ _ _,yC.mem,yC.size,fun y hy=>by simp at hy,gq,g1⟩
  (fun y=>(({ tmps:=((#[37,38]:Array Tmp).zip (xR y)).foldl (fun t (p,v)=>t.setIfInBounds p v) a8.tmps,defers:=[] }:Act).put (some 8) (.int .i64 (y.1.1:Int))).put (some 9) y.1.2) ?assign ?body ?done ?stop
 case hI=>
  rintro pre W W' row ⟨g',m',h2,h3,h4,h5⟩ hg wE;have ni:vH W row:=fun q e=>(wE q e).2;exact ⟨g',m',h2.grown hg ni (fun q e=>(wE q e).1) Lh,h3.grown hg ni h4 (fun r e=>b7 Lh (wE r e).1) U1,b7 h4 hg.size,h5⟩
 case hIx=>rintro c pre W W' row h;exact h.elim
 case stop=>rintro D' c pre W hD _ h;exact h.elim
 case assign=>
  intro l y W K hK;rw[qfN];have hz:49=a8.tmps.size:=yC.tmp.1;have ez:xR y = #[.int .i64 (y.1.1:Int),y.1.2]:=rfl;refine wpIn_seq (wpIn_region ?_);rw[WQ.1,zm]
  refine Is (.inr ⟨l,rfl⟩) qeT (v:=.int .i64 (y.1.1:Int)) (fun c h=>by rw[HD.1] at h;cases h) HD.2.1 ?_ ?_
  .simp only[execOp,HD.1,Sem.run_pure];rw[ez,Lc];simp[Act.eval,fV,xk,<- hz]
  .rw[HD.2.2];refine wpIn_region ?_;rw[WQ.2,zm]
   refine Is (.inr ⟨l,rfl⟩) qeU (v:=y.1.2) (fun c h=>by rw[HE.1] at h;cases h) HE.2.1 ?_ ?_
   .simp only[execOp,HE.1,Sem.run_pure];rw[ez,Lc];simp[Act.eval,Act.put,fV,xk,<- hz]
   .rw[HE.2.2];exact hK
 case body=>
  rintro l pre y W ⟨g',m',h2,h3,h4,h5,h6,xX⟩ hlen;have hi:y.1.1<n:=y.2.1;have kN:pre.length<n:=hlen
  have bI:LOk (kk k n) ⟨some 3,xx.lv.z,.no,(xx.lv.es.take ((y.1.1+1)*n)).drop (y.1.1*n)⟩:=⟨.inl rfl,fun hz=>by
   have h0:xx.lv.es=[]:=D.lok.z hz;show (xx.lv.es.take ((y.1.1+1)*n)).drop (y.1.1*n)=[]
   simp[h0],fun t ht=>D.lok.fr t (um (List.mem_of_mem_drop ht)),fun t ht=>D.lok.ok t (um (List.mem_of_mem_drop ht))⟩
  have tH:(LV.av ⟨some 3,xx.lv.z,.no,(xx.lv.es.take ((y.1.1+1)*n)).drop (y.1.1*n)⟩)=HW xx.lv.z (xx.lv.es.map RV.av) n y.1.1:=by
   show AV.lst (some 3) xx.lv.z .no (((xx.lv.es.take ((y.1.1+1)*n)).drop (y.1.1*n)).map RV.av)=AV.lst (some 3) xx.lv.z .no (((xx.lv.es.map RV.av).take ((y.1.1+1)*n)).drop (y.1.1*n));rw[<- List.map_take,<- List.map_drop]
  have ng:(y.1.1+1)*n<=xx.lv.es.length:=by rw[D.len];exact fW n hi
  have hp:y.1.1*n+y.1.1<xx.lv.es.length:=by rw[D.len];exact kB hi hi
  have aU:y.1.1<((xx.lv.es.take ((y.1.1+1)*n)).drop (y.1.1*n)).length:=by rw[rL,oA,ur ng];have:=fI y.1.1 1 n;omega
  have cf:((xx.lv.es.take ((y.1.1+1)*n)).drop (y.1.1*n))[y.1.1]=xx.lv.es[y.1.1*n+y.1.1]:=by rw[List.getElem_drop,List.getElem_take]
  have hQ:=Fy D.lok D.len kj hK (l:=pre.map fun y=>y.1.1) (by rw[gu];omega) (fun t ht=>by obtain ⟨y',hy,rfl⟩:=ks.1 ht;exact h5 y' hy);have eD:=KZ D.lok D.len kj hK hQ (by rw[gu];omega) hi
  have Lg:AP ab 78 [(OL xx n (pre.map fun y=>y.1.1)).av,(((xx.lv.es.take ((y.1.1+1)*n)).drop (y.1.1*n))[y.1.1]).av]=some (fO xx n (OL xx n (pre.map fun y=>y.1.1)) y.1.1).av:=by
   rw[cf];exact eD.1 hp
  obtain ⟨ts,fm⟩:=XH (m:=m') (s:=fO xx n (OL xx n (pre.map fun y=>y.1.1)) y.1.1) bI aU hQ.2.1 Lg h6;rw[tH] at fm
  have htm:gn W g' [.any,.any,.any,.any,.any,.any,.any,(.ptr m2.length 0),(.int .i64 (y.1.1:Int)),(HW xx.lv.z (xx.lv.es.map RV.av) n y.1.1),.any,.any,.any,.any,.any,.any,.any,.any,.any,.any,.any,.any,.any,.any,.any,.any,.any,.any,.any,.any,.any,.any,.any,.any,.any,.any,.any,.any,.any,.any,.any,.any,.any,.any,.any,.any,.any,.any,.any] ((({ tmps:=((#[37,38]:Array Tmp).zip (xR y)).foldl (fun t (p,v)=>t.setIfInBounds p v) a8.tmps,defers:=[] }:Act).put (some 8) (.int .i64 (y.1.1:Int))).put (some 9) y.1.2).tmps:=by
   have t0:gn W g' [.any,.any,.any,.any,.any,.any,.any,(.ptr m2.length 0),.any,.any,.any,.any,.any,.any,.any,.any,.any,.any,.any,.any,.any,.any,.any,.any,.any,.any,.any,.any,.any,.any,.any,.any,.any,.any,.any,.any,.any,.any,.any,.any,.any,.any,.any,.any,.any,.any,.any,.any,.any] a8.tmps:=(yC.tmp.step h2).less rfl (fun t=>by
    match t with
    | 7=>exact .inl rfl
    | 0|1|2|3|4|5|6|8|9|10|11|12|13|14|15|16|17|18|19|20|21|22|23|24|25|26|27|28|29|30|31|32|33|34|35|36=>exact .inr rfl
    | t+37=>exact .inr (jy 12 t))
   have t1:=t0.put' (a:=a8) (v:=.any) (v':=.int .i64 (y.1.1:Int)) (.any _) 37 rfl;have t2:=t1.put' (v:=.any) (v':=y.1.2) (.any _) 38 rfl;have t3:=t2.put' (v:=.int .i64 (y.1.1:Int)) (v':=.int .i64 (y.1.1:Int)) (.int _ _) 8 rfl;have t4:=t3.put' (v:=HW xx.lv.z (xx.lv.es.map RV.av) n y.1.1) (v':=y.1.2) (y.2.2.step h2) 9 rfl;rw[show xR y = #[.int .i64 (y.1.1:Int),y.1.2] from rfl,Lc];exact t4
  refine hG (C:=ab) fC nb (.inr ⟨l,rfl⟩) lF.2.2.2.2.2.2.2.2.1 (e0:=.normal) fm (show StR B W g' _ _ from ⟨htm,h3,h4⟩) fun a' w' g'' dP stp gB=>?_;have C2:m2.length≠1:=fun h=>by have:=D.p2;omega
  refine ⟨⟨stp.below.size,fun k o h1 h2=>stp.others k o h1 h2 MY⟩,Hold.of_step stp (fun b off nN hn=>h2.wr b off nN hn),g'',_,h2.trans stp,dP.mem,dP.size,fun y' uZ=>?_,?_,?_⟩
  .rcases kT.1 uZ with h|h
   .exact h5 y' h
   .rw[List.mem_singleton] at h;subst h;exact hi
  .rw[zO,qn,xw,Qd];exact jF (dX.1 h6).1
  .rw[dM C2];exact xX
 case done=>
  rintro D' xs W hD hS ⟨g',m',h2,h3,h4,h5,h6,xX⟩ uH;show Code.wpIn Fence.wide 5 prog (.seq (c1 (c2 (c2 (c2 (c2 (c2 (c2 (c2 (c2 (al f47)))))))))) (c2 (c2 (c2 (c2 (c2 (c2 (c2 (c2 (c2 (al f47))))))))))) _ _ _
  have p9:StR B W g' ⟨[.any,.any,(.ptr 1 0),.any,.any,.any,(.bool odd),(.ptr m2.length 0),.any,.any,.any,.any,.any,.any,.any,.any,.any,.any,.any,.any,.any,.any,.any,.any,.any,.any,.any,.any,.any,.any,.any,.any,.any,.any,.any,.any,.any,.any,.any,.any,.any,.any,.any,.any,.any,.any,.any,.any,.any],m'⟩ { a8 with defers:={ target:=.collected D',args:=#[] } :: a8.defers }:=⟨(yC.tmp.step h2).less rfl (fun t=>by
    match t with
    | 2|6|7=>exact .inl rfl
    | 0|1|3|4|5|8|9|10|11|12|13|14|15|16|17|18|19|20|21|22|23|24|25|26|27|28|29|30|31|32|33|34|35|36=>exact .inr rfl
    | t+37=>exact .inr (jy 12 t)),h3,h4⟩
  have hS':xs.map (fun y=>y.1.1)=List.range n:=hS;rw[hS'] at h6;obtain ⟨ts9,e9,l9,l92,l97⟩:=R3 m' _ h6;refine wpIn_seq (hG (C:=ab) fC nb hF lF.2.2.2.2.2.2.2.2.2.1 (e0:=.normal) e9 p9 fun a9 w9 g9 hs9 s9 hd9=>?_)
  have p10:=hs9.pat (P:=[.any,.any,(.ptr 1 0),.any,.any,.any,.any,(.ptr m2.length 0),.any,.any,.any,.any,.any,.any,.any,.any,.any,.any,.any,.any,.any,.any,.any,.any,.any,.any,.any,.any,.any,.any,.any,.any,.any,.any,.any,.any,.any,.any,.any,.any,.any,.any,.any,.any,.any,.any,.any,.any,.any]) (by rw[l9];rfl) (fun t=>by
    match t with
    | 2=>exact .inl l92.symm
    | 7=>exact .inl l97.symm
    | 0|1|3|4|5|6=>exact .inr rfl
    | t+8=>exact .inr (jy 41 t))
  have C2:m2.length≠1:=fun h=>by have:=D.p2;omega
  have z1:(m'.set m2.length (cR R))[1]?=some (cR zR):=by rw[dM C2];exact xX
  have zq:(m'.set m2.length (cR R))[m2.length]?=some (cR R):=jF (dX.1 h6).1;refine hG (C:=ab) fC nb hF lF.2.2.2.2.2.2.2.2.2.2 (e0:=.ret) (fun K=>XL zq z1 K) p10 fun a10 w10 g10 qg5 s10 qgs=>?_;have SQ:=s10.others _ _ (s9.others _ _ uH rfl MY) rfl MY;refine qhy qg5 (VW _ _ R 0 rfl rfl (jF (dX.1 z1).1)) (by rw[qgs,hd9];show _::a8.defers=_;rw[qgr]) SQ (b7 Lh hD) U1 fun v hv CZ=>?_;have hDw:w.heap.size<=D':=b7 s08.below.size hD;refine ⟨v,g10.bare,rfl,(((((s08.trans h2).trans s9).trans s10)).grown (grownBy_putObj' w10 D' (.deferred none)) (fun q e=>by cases e;exact ⟨_,SQ,rfl⟩) (fun q e=>by cases e;exact hDw) hB).bare hm,CZ.none,?_⟩;refine V.bare hv ?_;have e1:=fE RV.num R2;have e2:=fE RV.den R2;obtain ⟨neg,⟨z1,o1,d1⟩,⟨z2,o2,d2⟩⟩:=R;simp only[RV.fr,NV.fr,NV.mk.injEq,true_and,and_true] at e1 e2;cases o1<;>cases o2<;>simp[Own.fr] at e1 e2<;>rfl
end Go.Ab
namespace Go.Ab
theorem RZ{n:Nat}{M N:MX}{s:Rat}{r:Nat}{cs:Nat->Nat}(E:EC n n M N s r n cs)(hr:r<n):det n M=0:=by
 have h:=E.re.det (aW n);rw[R4 (M:=N) (r:=r) hr fun k hk=>E.ech.rest r (aW r) hr k hk] at h;have h0:=E.re.ne0;have:s*det n M=0:=h.symm
 rcases Rat.mul_eq_zero.1 this with h1|h1
 .exact absurd h1 h0
 .exact h1
theorem qfA{n:Nat}{M N:MX}{s:Rat}{cs:Nat->Nat}{odd:Bool}(E:EC n n M N s n n cs)(hs:s=lf odd):det n M=lf odd*det n N:=by
 have h:=E.re.det (aW n);rw[h,hs];cases odd<;>simp only[lf,eC,ko,j6]<;>grind
theorem R7(N:MX):∀d i,uE N d i*oG N i=oG N (i+d)
 | 0,i=>by simp only[uE,jo];grind
 | d+1,i=>by
  have h:=R7 N d (i+1);rw[oG] at h;rw[uE,show i+(d+1)=i+1+d by omega,<- h]
  grind
end Go.Ab
namespace Go.Ab
open Go.Proofs.Try Go.RowKit
theorem R6{A B:MX}:∀{n:Nat},(∀i,i<n->A i i=B i i)->oG A n=oG B n
 | 0,_=>rfl
 | n+1,h=>by rw[oG,oG,R6 fun i hi=>h i (by omega),h n (by omega)]
theorem XB{k:Nat}{q:Rat}(odd:Bool)(h:Bd k q):Bd k (lf odd*q):=by
 cases odd with
 | false=>rw[show lf false*q=q by unfold lf;rw[ag (by decide)];grind];exact h
 | true=>rw[show lf true*q=-q by unfold lf;rw[aj rfl];grind];exact Ep h
theorem RW{x:MV}{k n:Nat}(hx:IsM k x)(bu:1<=k)(hk:k<2^36)(hb:aP x=true)(aD:x.rows=n)(az:x.cols=n)(hn:n<=60)(hK:1+n*kk k n<2^36)(CI:kk k n<2^36):∃R:RV,R.fr=R/\Can R (det n (eW x n))/\Bd (1+n*kk k n) (det n (eW x n))/\kr prog 47 [x.av] [] (.tup [R.av,.int .i64 0]) []:=by
 have kj:1<=kk k n:=b7 bu (mf k (jH n));obtain ⟨ts1,m1,ts2,m2,p,r,odd,xx,ns,q1,⟨l1,l12,l14⟩,q2,⟨l2,l22,l24,l25,l26⟩,D⟩:=XG hx hb aD az hn bu CI;obtain ⟨N,s,cs,E,hs,hN⟩:=D.ec
 by_cases hr:r<n
 .refine ⟨mw,Od,?_,?_,qfo hx hk hb aD az q1 l1 l12 l14 q2 l2 l22 l24 l25 l26 D hr⟩
  .rw[RZ E hr];exact Cn
  .rw[RZ E hr];exact Bv (by omega)
 .obtain ⟨R,R1,R2,R3⟩:=qfp hx bu hk hb aD az hn hK CI q1 l1 l12 l14 q2 l2 l22 l24 l25 l26 D hr;have oin:=Fy D.lok D.len kj hK (l:=List.range n) (by rw[List.length_range];omega) (fun t ht=>oC.1 ht)
  have b1:Bd (1+n*kk k n) (oG (eW xx n) n):=by
   rw[<- (Kc D.lok D.len kj hK n (aW n)).q];exact oin.1.bd (by omega)
  have b2:=XB odd b1;have C5:r=n:=Nat.le_antisymm E.ech.le (Nat.not_lt.1 hr);subst C5;have e2:oG (eW xx r) r=oG N r:=R6 fun i hi=>hN i i hi hi
  have e3:det r N=oG N r:=by
   rw[R5 (E.ech.tri),<- aL r,<- R7 N r 0];simp only[oG,aL]
   grind
  have e4:det r (eW x r)=lf odd*oG (eW xx r) r:=by rw[qfA E hs,e3,<- e2]
  rw[e4];exact ⟨R,R1,R2,b2,R3⟩
theorem NV.av_inj{a b:NV}(h:a.av=b.av):a=b:=by
 obtain ⟨z,o,ds⟩:=a;obtain ⟨z',o',ds'⟩:=b;simp only[NV.av,AV.lst.injEq,true_and] at h;obtain ⟨rfl,rfl,h⟩:=h
 have hd:∀x y:Nat,dg x=dg y->x=y:=fun x y h=>by
  simp only[dg,AV.int.injEq,true_and] at h;omega
 rw[(List.map_inj_right hd).1 h]
theorem RV.av_inj{a b:RV}(h:a.av=b.av):a=b:=by
 obtain ⟨n,x,y⟩:=a;obtain ⟨n',x',y'⟩:=b;simp only[RV.av,AV.agg.injEq,qH,AV.bool.injEq,and_true] at h;obtain ⟨rfl,h1,h2⟩:=h;rw[NV.av_inj h1,NV.av_inj h2]
theorem MV.av_inj{a b:MV}(h:a.av=b.av):a=b:=by
 obtain ⟨r,c,⟨sh,z,o,es⟩⟩:=a;obtain ⟨r',c',⟨sh',z',o',es'⟩⟩:=b;simp only[MV.av,LV.av,AV.agg.injEq,qH,AV.int.injEq,AV.lst.injEq,true_and,and_true] at h;obtain ⟨rfl,rfl,rfl,rfl,rfl,h⟩:=h;rw[(List.map_inj_right (fun x y Mn=>RV.av_inj Mn)).1 h]
structure DetP (x:MV) (R:RV) (e:Int):Prop where
 xfr:x.fr=x
 fr:R.fr=R
 call:kr prog 47 [x.av] [] (.tup [R.av,.int .i64 e]) []
 bad:aP x=false->e=1/\R=zR
 shape:aP x=true->x.rows≠x.cols->e=30/\R=zR
 ok:aP x=true->∀n:Nat,x.rows=n->x.cols=n->e=0/\Can R (det n (eW x n))
theorem qfz{x:MV}{k n:Nat}(hx:IsM k x)(bu:1<=k)(hk:k<2^36)(hb:aP x=true)(aD:x.rows=n)(az:x.cols=n)(hn:n<=60)(hK:1+n*kk k n<2^36)(CI:kk k n<2^36):Bd (1+n*kk k n) (det n (eW x n)):=by
 obtain ⟨_,_,_,h,_⟩:=RW hx bu hk hb aD az hn hK CI;exact h
theorem qfx{x:MV}{k:Nat}(hx:IsM k x)(bu:1<=k)(hk:k<2^36)(hK:aP x=true->∀n:Nat,x.rows=n->x.cols=n->1+n*kk k n<2^36/\kk k n<2^36):∃R e,DetP x R e:=by
 cases hb:aP x with
 | false=>
  refine ⟨zR,1,⟨hx.fr,rfl,qfm hx hk hb,fun _=>⟨rfl,rfl⟩,fun h=>?_,fun h=>?_⟩⟩
  .rw[hb] at h;cases h
  .rw[hb] at h;cases h
 | true=>
  by_cases hc:x.rows=x.cols
  .obtain ⟨r,c,hr,kG,h6,_,_⟩:=qg hb;obtain ⟨k1,k2⟩:=hK hb r hr (hc▸hr);obtain ⟨R,R1,R2,_,R3⟩:=RW hx bu hk hb hr (hc▸hr) h6 k1 k2
   refine ⟨R,0,⟨hx.fr,R1,R3,fun h=>?_,fun _ h=>absurd hc h,fun _ n hn _=>⟨rfl,?_⟩⟩⟩
   .rw[hb] at h;cases h
   .obtain rfl:n=r:=by omega
    exact R2
  .refine ⟨zR,30,⟨hx.fr,rfl,qfn hx hk hb hc,fun h=>?_,fun _ _=>⟨rfl,rfl⟩,fun _ n h1 h2=>absurd (h1.trans h2.symm) hc⟩⟩;rw[hb] at h;cases h
theorem qe8{x:MV}{R:RV}{e:Int}(h:DetP x R e)(m:ae):kr prog 47 [x.av] m (.tup [R.av,.int .i64 e]) m:=by
 intro B w g vs hm hB hl hv
 have hf:bJ (frz m eo) [x.av]=some ([x.av],[]):=by
  have e:frz m eo x.av=some (x.fr.av,[]):=lH x m;simp only[bJ,e,h.xfr,aa,ar,bN]
 classical
 refine HM hm hB (P:=prog) (f:=47) (call:=fun f args m=>if f=47/\args=[x.av]/\m=[] then some (.tup [R.av,.int .i64 e],[]) else none) (fun args m v m' h'=>?_) hl hv hf (r:=.tup [R.av,.int .i64 e]) ?_
 .simp only at h'
  split at h'
  .rename_i hc;obtain ⟨_,rfl,rfl⟩:=hc;simp only[bp,dT] at h';obtain ⟨rfl,rfl⟩:=h';exact h.call
  .cases h'
 .simp only[gv,true_and,eC,aa]
  have e1:frz [] eo (.tup [R.av,.int .i64 e])=some (.tup [R.fr.av,.int .i64 e],[]):=by
   have e2:frz [] 8 R.av=some (R.fr.av,[]):=SA [] R;have e3:frz [] eo (.tup [R.av,.int .i64 e])=(bJ (frz [] 8) [R.av,.int .i64 e]).map fun q=>(.tup q.1,q.2):=rfl;have e4:frz [] 8 (.int .i64 e)=some (.int .i64 e,[]):=rfl;rw[e3];simp only[bJ,e2,e4,aa,ar,bN]
  rw[e1,h.fr]
  rfl
open Classical in
noncomputable def wi(vs:List AV):Option AV:=if h:∃p:MV×RV×Int,DetP p.1 p.2.1 p.2.2/\vs=[p.1.av] then some (.tup [(Classical.choose h).2.1.av,.int .i64 (Classical.choose h).2.2]) else none
theorem qgj{x:MV}{R0:RV}{e0:Int}(hx:DetP x R0 e0):∃R e,wi [x.av]=some (.tup [R.av,.int .i64 e])/\DetP x R e:=by
 have h:∃p:MV×RV×Int,DetP p.1 p.2.1 p.2.2/\[x.av]=[p.1.av]:=⟨(x,R0,e0),hx,rfl⟩;obtain ⟨h1,e⟩:=Classical.choose_spec h;have e1:=MV.av_inj (List.cons.inj e).1;have h2:wi [x.av]=some (.tup [(Classical.choose h).2.1.av,.int .i64 (Classical.choose h).2.2]):=by unfold wi;rw[dif_pos h]
 generalize Classical.choose h=p at h1 e1 h2;exact ⟨_,_,h2,e1▸h1⟩
noncomputable def MA(g:Nat):Option (List AV->Option AV):=match Nat.beq g 47 with
 | true=>some wi
 | false=>ab.lib g
noncomputable def RJ:Cfg:=ab.plug MA
theorem qfb:CfgOk RJ where
 name:=fC.name
 ben:=fC.ben
 libm:=fC.libm
 lib g h hh:=by
  have hO:MA g=some h:=hh;unfold MA at hO
  cases hb:Nat.beq g 47 with
  | false=>rw[hb] at hO;exact fC.lib g h hO
  | true=>
   rw[hb] at hO;obtain rfl:=kz hO;have:=mz hb;subst this;refine ⟨⟨f47,CS,by rw[CN];rfl⟩,fun vs v hv m=>?_⟩;unfold wi at hv
   split at hv
   .rename_i hx;obtain ⟨h1,e⟩:=Classical.choose_spec hx;simp only[bp] at hv;subst hv;have hc:=qe8 h1 m;rw[<- e] at hc;exact hc
   .cases hv
end Go.Ab
namespace Go.Ab
open Go.RowKit
section
variable [WInv] {C:Cfg} {B:Nat} {F:Fence} {w:World} {g:G}
def eh(C:Cfg)(fid:Nat)(ops:Array Oper)(Ok:St->Prop):Nat->Array Bool->St->Prop
 | 0,listed,st=>Region.ready .any ops listed=[]/\Ok st
 | n+1,listed,st=>(Region.ready .any ops listed=[]->Ok st)/\∀i∈Region.ready .any ops listed,∃s1,bK C fid (AP C) (AC C) none ops i st=some s1/\eh C fid ops Ok n (listed.setIfInBounds i true) s1
theorem Sf(hC:CfgOk C)(hb:∀g,C.ben g=false)(hF:ik F){fid n':Nat}{ops:Array Oper}{Q:Exit->Act->World->Prop}{Ok:St->Prop}:∀(n:Nat) (listed:Array Bool) (st:St) (a:Act) (w:World) (g:G),eh C fid ops Ok n listed st->StR B w g st a ->
  (∀st' a' w' g',Ok st'->StR B w' g' st' a'->Step B w g w' g'->a'.defers=a.defers->Q .normal a' w')->wpAnyIn F n' C.P .any ops Q n listed a w
 | 0,listed,st,a,w,g,h,hs,hq=>⟨h.1,hq st a w g h.2 hs (Step.refl _ _ _) rfl⟩
 | n+1,listed,st,a,w,g,h,hs,hq=>⟨fun h0=>hq st a w g (h.1 h0) hs (Step.refl _ _ _) rfl,fun i hi=>by
  obtain ⟨s1,h1,h2⟩:=h.2 i hi
  exact WC hC hb hF (Iw hC) h1 hs (fun b e=>by cases e) fun a' w' g' dP s hd=>
   Sf hC hb hF n _ s1 a' w' g' h2 dP fun st' a'' w'' g'' ho mc s' gB=>hq st' a'' w'' g'' ho mc (s.trans s') (gB.trans hd)⟩
theorem Sg(hC:CfgOk C)(hb:∀g,C.ben g=false)(hF:ik F)(hm:C.P.follows .mixedOrders=true){fid id n':Nat}{ops:Array Oper}{Q:Exit->Act->World->Prop}{Ok:St->Prop}{st:St}{a:Act}(h:eh C fid ops Ok ops.size (Array.replicate ops.size false) st)(hs:StR B w g st a)
  (hq:∀st' a' w' g',Ok st'->StR B w' g' st' a'->Step B w g w' g'->a'.defers=a.defers->Q .normal a' w'):(Code.region id ops true).wpIn F n' C.P Q a w:=by
 refine wpIn_region_any hm ?_;exact Sf hC hb hF _ _ st a w.drew g h ⟨hs.tmp.step (Step.drew B w g),hs.mem.drew,hs.size⟩ fun st' a' w' g' ho dP s hd=>hq st' a' w' g' ho dP ((Step.drew B w g).trans s) hd
end
end Go.Ab
namespace Go.Ab
open Go.Proofs.Try Go.RowKit
section
variable (t0 t1 t2 t3 t4 t5 t6 t7 t8:AV) (m:ae)
end
section
variable {x:MV} {n:Nat} {t0:AV} {Ok:St->Prop} {m7:ae} {s:RV}
end
end Go.Ab
namespace Go.Ab
open Go.Proofs.Try
structure Res9 (x:MV) (nr n:Nat) (D:RV) (tk:Nat->Int):Prop where
 fr:D.fr=D
 can:∃dv,D=nB dv/\Can D dv/\Bd (1+n*kk 3 n) dv/\(nr=n->dv=det n (eW x n))
 cnt:ma tk n=gG (mT nr n (eW x n)) n
def n3(x:MV)(nr n:Nat)(m:ae)(L:Nat)(av:Nat->Prop):Prop:=n=0\/∃(S:Nat->Prop) (R:Nat->Nat) (es:Nat->List RV),WR S m L R es nr n (eW x n)/\qm 3 nr n (eW x n)/\∀p,S p->p<m.length/\av p
theorem n3.app{x:MV}{nr n:Nat}{m:ae}{L:Nat}{av av':Nat->Prop}(h:n3 x nr n m L av)(e:ae)(ha:∀p,p<m.length->av p->av' p):n3 x nr n (m++e) L av':=by
 rcases h with h|⟨S,R,es,W,B,hS⟩
 .exact .inl h
 .exact .inr ⟨S,R,es,W.app e,B,fun p hp=>⟨by rw[aK];have:=(hS p hp).1;omega,ha p (hS p hp).1 (hS p hp).2⟩⟩
section
variable {x:MV} {nr n:Nat}
theorem qT(hx:IsM 3 x)(hb:aP x=true)(aD:x.rows=nr)(az:x.cols=n)(m:ae):∃(m':ae) (L:Nat),AC ab 85 [x.av] m=some (.arr L 0 nr none,m')/\m.length<=m'.length/\(∀p,p<m.length->m'[p]?=m[p]?)/\n3 x nr n m' L (fun p=>m.length<=p):=by
 rcases Nat.eq_zero_or_pos n with h0|h0
 .subst h0;obtain ⟨m',h1,h2,h3,h4⟩:=Et (m:=m) hx hb aD az;exact ⟨m',_,h1,by omega,h4,.inl rfl⟩
 .obtain ⟨m',es,h1,h2,h3,h4,h5⟩:=Es (m:=m) hx hb aD az h0 (by omega);exact ⟨m',_,h1,by omega,h5,.inr ⟨_,_,es,h2,h3,fun p hp=>⟨by rw[h4];exact hp.2,by have:=hp.1;omega⟩⟩⟩
theorem Ga(n6:n<=6)(TX:nr<=60){m:ae}{L:Nat}{av:Nat->Prop}(H:n3 x nr n m L av):∃(m':ae) (T:Nat) (D:RV) (tk:Nat->Int),AC ab 91 [.arr L 0 nr none,.int .i64 n] m=some (.tup [.arr T 0 n none,D.av],m')/\Res9 x nr n D tk/\m'[T]?=some (aO (iN tk) n)/\m.length<=T/\m.length<=m'.length/\∀p,p<m.length->¬ av p->m'[p]?=m[p]?:=by
 rcases H with h0|⟨S,R,es,W,B,hS⟩
 .subst h0;obtain ⟨m',h1,h2,h3,h4⟩:=XE (.arr L 0 nr none) m;exact ⟨m',_,gN,fun _=>0,h1,⟨Hz,⟨1,U7,Ck,Bu (by omega),fun _=>rfl⟩,rfl⟩,h4,by omega,h3,fun p hp _=>h2 p hp⟩
 .have k1:kk 3 n<=13653:=by rw[<- show kk 3 6=13653 from by decide];exact mf 3 n6
  have k3:n*kk 3 n<=6*13653:=il n6 k1;obtain ⟨m',D,T,tk,R',es',N,top,cs,s,dv,h1,O⟩:=Oi W (fun p hp=>(hS p hp).1) B (aW n) (by omega) TX (by omega) (by omega) (by omega)
  refine ⟨m',T,D,tk,h1,⟨O.fD,⟨dv,O.zD,O.cD,O.bD,fun e=>?_⟩,?_⟩,O.hT,O.sT,O.len,fun p hp hn=>O.keep p hp fun h=>hn (hS p h).2⟩
  .subst e;exact (O.G.det (aW nr)).symm
  .rw[O.cnt];exact O.G.rank
end
theorem xc(a b:AV):bg (.tup [a,b]) 0=some a:=rfl
theorem ua(a b:AV):bg (.tup [a,b]) 1=some b:=rfl
end Go.Ab
namespace Go.Ab
open Go.Proofs.Try
def B1(x2 x3 x4 x6:AV)(m:ae):St:=⟨[.any,.any,x2,x3,x4,.any,x6,.any,.any,.any,.any,.any,.any,.any,.any,.any,.any,.any,.any,.any,.any,.any,.any,.any,.any,.any,.any,.any,.any,.any,.any,.any,.any,.any,.any,.any,.any,.any,.any,.any,.any,.any,.any,.any,.any,.any,.any,.any,.any,.any,.any,.any,.any,.any,.any,.any,.any,.any,.any,.any,.any,.any,.any,.any,.any,.any,.any,.any,.any,.any,.any,.any,.any,.any,.any,.any,.any,.any,.any,.any,.any,.any,.any,.any,.any,.any,.any,.any,.any,.any],m⟩
noncomputable def zB(x2 x3 x4 x6 rF pH xj:AV)(m:ae)(K:KT):OM:=bP (aq ab 53 (AP ab) (AC ab) (c1 (c1 (c2 (c1 (c2 (c2 (c2 (al f53))))))))) (ab.mask 53 (some 7)) ⟨[.any,.any,x2,x3,x4,.any,x6,.any,.any,.any,.any,.any,.any,.any,.any,.any,.any,.any,.any,.any,.any,.any,.any,.any,.any,.any,.any,.any,.any,.any,.any,.any,.any,.any,.any,.any,.any,.any,.any,.any,.any,rF,pH,xj,.any,.any,.any,.any,.any,.any,.any,.any,.any,.any,.any,.any,.any,.any,.any,.any,.any,.any,.any,.any,.any,.any,.any,.any,.any,.any,.any,.any,.any,.any,.any,.any,.any,.any,.any,.any,.any,.any,.any,.any,.any,.any,.any,.any,.any,.any],m⟩ K
def B0(x4 cn:AV)(m:ae):St:=⟨[.any,.any,.any,.any,x4,.any,.any,.any,.any,.any,.any,cn,.any,.any,.any,.any,.any,.any,.any,.any,.any,.any,.any,.any,.any,.any,.any,.any,.any,.any,.any,.any,.any,.any,.any,.any,.any,.any,.any,.any,.any,.any,.any,.any,.any,.any,.any,.any,.any,.any,.any,.any,.any,.any,.any,.any,.any,.any,.any,.any,.any,.any,.any,.any,.any,.any,.any,.any,.any,.any,.any,.any,.any,.any,.any,.any,.any,.any,.any,.any,.any,.any,.any,.any,.any,.any,.any,.any,.any,.any],m⟩
noncomputable def zA(x2 x4 cn Eh Ei Bs:AV)(m:ae)(K:KT):OM:=bP (aq ab 53 (AP ab) (AC ab) (c1 (c1 (c2 (c1 (c2 (c2 (c2 (c2 (c2 (c2 (c2 (al f53))))))))))))) (ab.mask 53 (some 16)) ⟨[.any,.any,x2,.any,x4,.any,.any,.any,.any,.any,.any,cn,.any,.any,.any,.any,.any,.any,.any,.any,.any,.any,.any,.any,.any,.any,.any,.any,.any,.any,.any,.any,.any,.any,.any,.any,.any,.any,.any,.any,.any,.any,.any,.any,.any,.any,.any,.any,.any,.any,.any,.any,.any,.any,.any,.any,.any,.any,.any,.any,.any,.any,.any,.any,.any,.any,.any,.any,.any,.any,.any,.any,.any,.any,Eh,Ei,Bs,.any,.any,.any,.any,.any,.any,.any,.any,.any,.any,.any,.any,.any],m⟩ K
noncomputable abbrev ZO(K:KT):KT:=dQ (fun st=>aq ab 53 (AP ab) (AC ab) (c2 (c2 (c2 (c2 (al f53))))) st K) K
noncomputable abbrev ZP(K:KT):KT:=dK 1 (ZO K)
noncomputable abbrev zt(K:KT):KT:=(ZP K)
noncomputable abbrev ZM(K:KT):KT:=dQ (fun st=>aq ab 53 (AP ab) (AC ab) (c2 (c2 (c2 (c2 (c2 (c2 (c2 (c2 (al f53))))))))) st K) K
noncomputable abbrev ZN(K:KT):KT:=dK 3 (ZM K)
noncomputable abbrev EF(K:KT):KT:=(ZN K)
theorem Qt(a0 a1:AV)(m:ae):AC ab 53 [a0,a1] m =
 (ef none (some 3) m a0).bind fun r1=>
 (ef none (some 3) r1.2 a1).bind fun r2=>
 (ai (some 3) (ak none r2.2 (.obj true [(.int .i64 0),(.int .i64 0),(.lst none true .full [])])).2 r1.1).bind fun v3=>
 (ao (AP ab) none (ak none r2.2 (.obj true [(.int .i64 0),(.int .i64 0),(.lst none true .full [])])).2 21 [v3]).bind fun r4=>
 (iI .not r4.1).bind fun v5=>
 au v5 (
 (eI (.agg [(.int .i64 0),(.int .i64 0),(.lst none true .full [])]) []).bind fun v6=>
 (aA (some 3) r4.2 (.ptr (ak none r2.2 .resv).1 0) v6).bind fun m7=>
 (ai (some 3) m7 (.ptr (ak none r2.2 .resv).1 0)).bind fun v8=>
 some ((.tup [v8,(.int .i64 1)]),m7)) (
 (ai (some 3) r4.2 r2.1).bind fun v9=>
 (ao (AP ab) none r4.2 21 [v9]).bind fun fR=>
 (iI .not fR.1).bind fun v11=>
 au v11 (
 (eI (.agg [(.int .i64 0),(.int .i64 0),(.lst none true .full [])]) []).bind fun aV=>
 (aA (some 3) fR.2 (.ptr (ak none r2.2 .resv).1 0) aV).bind fun m13=>
 (ai (some 3) m13 (.ptr (ak none r2.2 .resv).1 0)).bind fun bM=>
 some ((.tup [bM,(.int .i64 1)]),m13)) (
 (aB 0 r1.1).bind fun bz=>
 (ai none fR.2 bz).bind fun bQ=>
 (aB 1 r1.1).bind fun bV=>
 (ai none fR.2 bV).bind fun dU=>
 (af .other .neq bQ dU).bind fun dL=>
 au dL (
 (eI (.agg [(.int .i64 0),(.int .i64 0),(.lst none true .full [])]) []).bind fun v20=>
 (aA (some 3) fR.2 (.ptr (ak none r2.2 .resv).1 0) v20).bind fun m21=>
 (ai (some 3) m21 (.ptr (ak none r2.2 .resv).1 0)).bind fun dV=>
 some ((.tup [dV,(.int .i64 30)]),m21)) (
 (aB 0 r2.1).bind fun fS=>
 (ai none fR.2 fS).bind fun gD=>
 (aB 0 r1.1).bind fun fT=>
 (ai none fR.2 fT).bind fun gW=>
 (af .other .neq gD gW).bind fun gL=>
 au gL (
 (eI (.agg [(.int .i64 0),(.int .i64 0),(.lst none true .full [])]) []).bind fun fU=>
 (aA (some 3) fR.2 (.ptr (ak none r2.2 .resv).1 0) fU).bind fun m29=>
 (ai (some 3) m29 (.ptr (ak none r2.2 .resv).1 0)).bind fun v30=>
 some ((.tup [v30,(.int .i64 30)]),m29)) (
 (ai (some 3) fR.2 r1.1).bind fun ki=>
 (AC ab 85 [ki] fR.2).bind fun mU=>
 (ai (some 3) mU.2 r2.1).bind fun lA=>
 (AC ab 85 [lA] mU.2).bind fun rp=>
 (aY false rp.1).bind fun lB=>
 zB r1.1 r2.1 (.ptr (ak none r2.2 .resv).1 0) mU.1 rp.1 lB (.int .i64 0) rp.2 (zt (aN ab.P f53.results.toList)))))):=
(bW ab 53 [a0,a1] m (fn:=f53) (c:=al f53) qej rfl).trans (by kernel_rfl)
theorem BQ(x2 x3 x4 x6 rF pH xj:AV)(m:ae)(K:KT):zB x2 x3 x4 x6 rF pH xj m K =
 (af .other .lss xj pH).bind fun v1=>
 au v1 (
 (aJ none rF xj).bind fun v2=>
 (ai none m v2).bind fun v3=>
 (aJ none x6 xj).bind fun v4=>
 (ai none m v4).bind fun v5=>
 (eG none true 43 (some 3) 56 m v5 v3).bind fun r6=>
 (aJ none x6 xj).bind fun v7=>
 (aA none r6.2 v7 r6.1).bind fun m8=>
 (af .other .add xj (.int .i64 1)).bind fun v9=>
 zB x2 x3 x4 x6 rF pH v9 m8 K) (
 K (.exit 1) (B1 x2 x3 x4 x6 m)):=
(eu (ed _) _ _ _).trans (by kernel_rfl)
theorem E1(x2 x4 cn Eh Ei Bs:AV)(m:ae)(K:KT):zA x2 x4 cn Eh Ei Bs m K =
 (af .other .lss Bs Ei).bind fun v1=>
 au v1 (
 (aJ none Eh Bs).bind fun v2=>
 (ai none m v2).bind fun v3=>
 (aB 2 cn).bind fun v4=>
 (ai none m v4).bind fun v5=>
 (aB 1 x2).bind fun v6=>
 (ai none m v6).bind fun v7=>
 (nS (some 3) v3 (some v7) none none).bind fun v8=>
 (eG none true 43 (some 3) 56 m v5 v8).bind fun r9=>
 (aB 2 cn).bind fun v10=>
 (aA none r9.2 v10 r9.1).bind fun m11=>
 (af .other .add Bs (.int .i64 1)).bind fun aV=>
 zA x2 x4 cn Eh Ei aV m11 K) (
 K (.exit 3) (B0 x4 cn m)):=
(eu (ed _) _ _ _).trans (by kernel_rfl)
theorem ZQ(x2 x3 x4 x6:AV)(m:ae):zt (aN ab.P f53.results.toList) (.exit 1) (B1 x2 x3 x4 x6 m) =
 (aB 1 x2).bind fun v1=>
 (ai none m v1).bind fun v2=>
 (AC ab 91 [x6,v2] m).bind fun r3=>
 (bg r3.1 0).bind fun v4=>
 (bg r3.1 1).bind fun v5=>
 (aA (some 3) (ak none r3.2 (.obj true [(.bool false),(.lst none true .full []),(.lst none true .full [])])).2 (.ptr (ak none r3.2 .resv).1 0) v5).bind fun m6=>
 (ai (some 3) m6 (.ptr (ak none r3.2 .resv).1 0)).bind fun v7=>
 (ao (AP ab) none m6 86 [v7]).bind fun r8=>
 (af .other .eql r8.1 (.int .i64 0)).bind fun v9=>
 au v9 (
 (eI (.agg [(.int .i64 0),(.int .i64 0),(.lst none true .full [])]) []).bind fun v10=>
 (aA (some 3) r8.2 x4 v10).bind fun m11=>
 (ai (some 3) m11 x4).bind fun aV=>
 some ((.tup [aV,(.int .i64 31)]),m11)) (
 (aB 0 x3).bind fun bL=>
 (ai none r8.2 bL).bind fun bM=>
 (aB 1 x3).bind fun bz=>
 (ai none r8.2 bz).bind fun bQ=>
 (eI (.agg [(.int .i64 0),(.int .i64 0),(.lst none true .full [])]) [(0,none,bM),(1,none,bQ)]).bind fun bV=>
 (aA (some 3) (ak none r8.2 (.obj true [(.int .i64 0),(.int .i64 0),(.lst none true .full [])])).2 (.ptr (ak none r8.2 .resv).1 0) bV).bind fun m18=>
 (aY false x6).bind fun dL=>
 zA x2 x4 (.ptr (ak none r8.2 .resv).1 0) x6 dL (.int .i64 0) m18 (EF (aN ab.P f53.results.toList))):=by kernel_rfl
theorem Jd(x4 cn:AV)(m:ae):EF (aN ab.P f53.results.toList) (.exit 3) (B0 x4 cn m) =
 (ai (some 3) m cn).bind fun v1=>
 (aA (some 3) m x4 v1).bind fun m2=>
 (ai (some 3) m2 x4).bind fun v3=>
 some ((.tup [v3,(.int .i64 0)]),m2):=by kernel_rfl
end Go.Ab
namespace Go.Ab
open Go.Proofs.Try
theorem Sq:∀(es:List RV) (a:Nat),(eJ es).drop (a*3)=eJ (es.drop a)
 | es,0=>by rw[qM];rfl
 | [],a+1=>by simp[eJ]
 | r::es,a+1=>by
  have e:(a+1)*3=a*3+1+1+1:=by omega
  show (_::_::_::eJ es).drop ((a+1)*3)=_;rw[e,List.drop_succ_cons,List.drop_succ_cons,List.drop_succ_cons,Sq es a,List.drop_succ_cons]
theorem Su:∀(es:List RV) (a:Nat),(eJ es).take (a*3)=eJ (es.take a)
 | es,0=>by rw[qM];rfl
 | [],a+1=>by simp[eJ]
 | r::es,a+1=>by
  have e:(a+1)*3=a*3+1+1+1:=by omega
  have ih:=Su es a;show (_::_::_::eJ es).take ((a+1)*3)=_;rw[e,List.take_succ_cons,List.take_succ_cons,List.take_succ_cons,ih]
  rfl
theorem Sp:∀es:List RV,(eJ es).all fZ=true
 | []=>rfl
 | r::es=>by
  have ih:=Sp es;show (fZ _&&(fZ _&&(fZ _&&(eJ es).all fZ)))=true;rw[ih];rfl
theorem qf1(a b:List RV):eJ a++eJ b=eJ (a++b):=by
 unfold eJ;rw[List.flatMap_append]
theorem VU{m:ae}{q a c:Nat}{full:List RV}(hq:m[q]?=some (cA full))(hc:0<c)(wj:a+c<=full.length):DR m (some 3) (.arr q (a*3) c (some 3))=some (c,eJ ((full.drop a).take c)):=by
 have hl:=Aj full;have e:((eJ full).drop (a*3)).take (c*3)=eJ ((full.drop a).take c):=by rw[Sq,Su]
 show (m.obj? q).bind (fun o=>if (some 3:Sh)=some 3/\0<c/\a*3+c*3<=o.2.length/\((o.2.drop (a*3)).take (c*3)).all fZ=true then some (c,(o.2.drop (a*3)).take (c*3)) else none)=_
 rw[jc hq,aa];dsimp only;rw[e,aj ⟨rfl,hc,by rw[hl];omega,Sp _⟩]
theorem Ru{m:ae}{p n q a c:Nat}{es full:List RV}(hp:m[p]?=some (cA es))(hn:es.length=n)(jC:0<n)(hq:m[q]?=some (cA full))(hc:0<c)(wj:a+c<=full.length)(hb:n+c<=60*60) :
  eG none true 43 (some 3) 56 m (.arr p 0 n (some 3)) (.arr q (a*3) c (some 3))=some (.arr m.length 0 (n+c) (some 3),(m.set p none)++[cA (es++(full.drop a).take c)]):=by
 have hl:=Aj es
 have hX:H2 m (some 3) (.arr p 0 n (some 3))=some (n,eJ es,m.set p none):=by
  show (m.obj? p).bind (fun o=>if (some 3:Sh)=some 3/\0=0/\0<n/\o.1=false/\o.2.length=n*3 then some (n,o.2,m.set p none) else none)=_
  rw[jc hp,aa,aj ⟨rfl,rfl,jC,rfl,by rw[hl,hn]⟩]
 show rT none true (some 3) 56 m (.arr p 0 n (some 3)) (.arr q (a*3) c (some 3))=_;unfold rT;rw[VU hq hc wj];simp only;rw[hX,aa];simp only;rw[aj (by unfold iU;omega),eB,qf1]
 rfl
theorem qdi{m:ae}{q a c:Nat}{full:List RV}(hq:m[q]?=some (cA full))(hc:0<c)(wj:a+c<=full.length)(hb:c<=60*60) :
  eG none true 43 (some 3) 56 m b9.av (.arr q (a*3) c (some 3))=some (.arr m.length 0 c (some 3),m++[cA ((full.drop a).take c)]):=by
 show rT none true (some 3) 56 m b9.av (.arr q (a*3) c (some 3))=_;unfold rT;rw[VU hq hc wj];simp only;rw[show H2 m (some 3) b9.av=some (0,[],m) from rfl,aa];simp only;rw[aj (by unfold iU;omega),aL,aZ]
 rfl
theorem qdj{m:ae}{p n:Nat}:eG none true 43 (some 3) 56 m (.arr p 0 n (some 3)) (.lst (some 3) false .full [])=some (.arr p 0 n (some 3),m):=rfl
theorem qdh{m:ae}{q o:Nat}:eG none true 43 (some 3) 56 m b9.av (.arr q o 0 (some 3))=some (b9.av,m):=by
 show rT none true (some 3) 56 m b9.av (.arr q o 0 (some 3))=_;unfold rT
 have h:DR m (some 3) (.arr q o 0 (some 3))=none:=by
  show (m.obj? q).bind (fun o'=>if (some 3:Sh)=some 3/\0<0/\_/\_ then some _ else none)=none
  cases m.obj? q with
  | none=>rfl
  | some o'=>rw[aa,ag (fun h=>by omega)]
 rw[h]
 rfl
theorem Ws{p w n:Nat}(h:n<=w):nS (some 3) (.arr p 0 w (some 3)) (some (.int .i64 n)) none none=some (.arr p (n*3) (w-n) (some 3)):=by
 have h1:(0:Int)<=(n:Nat)/\((n:Nat):Int)<=(w:Nat):=by omega
 show (if (some 3:Sh)=some 3 then (jI w none w).bind fun hh=>(jI hh (some (.int .i64 n)) 0).bind fun l=>some (AV.arr p (0+l*3) (hh-l) (some 3)) else none)=_
 rw[aj rfl]
 show ((if (0:Int)<=(n:Nat)/\((n:Nat):Int)<=(w:Nat) then some ((n:Nat):Int).toNat else none).bind fun l=>some (AV.arr p (0+l*3) (w-l) (some 3)))=_
 rw[aj h1,aa,nG,aL]
def qe(base:Nat)(R:Nat->Nat)(n c i:Nat):Nat->AV:=fun j=>if j<i then .arr (base+j) 0 (n+c) (some 3) else .arr (R j) 0 n (some 3)
section
variable {n c:Nat} {x2 x3 x4:AV}
theorem Re{Sx Sy:Nat->Prop}{m:ae}{L Ly:Nat}{R Ry:Nat->Nat}{ex ey:Nat->List RV}{A B:MX}(Wx:WR Sx m L R ex n n A)(Wy:WR Sy m Ly Ry ey n c B)(hd:∀p,Sx p->¬ Sy p)(Lr:∀p,Sy p->p<m.length)(GI:∀p,Sx p->p<m.length)(hc:0<c)(hb:n+c<=60)(KK:KT):∀(e i:Nat) (mi:ae),i+e=n->mi.length=m.length+i->mi[L]?=some (aO (qe m.length R n c i) n)->(∀j,j<i->mi[m.length+j]?=some (cA (ex j++ey j)))->(∀p,p<m.length->p≠L->(∀j,j<i->p≠R j)->mi[p]?=m[p]?) ->
  ∃m':ae,zB x2 x3 x4 (.arr L 0 n none) (.arr Ly 0 n none) (.int .i64 n) (.int .i64 i) mi KK=KK (.exit 1) (B1 x2 x3 x4 (.arr L 0 n none) m')/\m'.length=m.length+n/\m'[L]?=some (aO (qe m.length R n c n) n)/\(∀j,j<n->m'[m.length+j]?=some (cA (ex j++ey j)))/\(∀p,p<m.length->p≠L->(∀j,j<n->p≠R j)->m'[p]?=m[p]?)
 | 0,i,mi,hi,h1,h2,h3,h4=>by
  obtain rfl:i=n:=by omega
  refine ⟨mi,?_,h1,h2,h3,h4⟩;rw[BQ,bR,aa,aw,ag (by omega)]
 | e+1,i,mi,hi,h1,h2,h3,h4=>by
  have aU:i<n:=by omega
  have nSx:∀{p},Sy p->p≠L/\∀j,j<n->p≠R j:=fun hp=>⟨fun e=>hd L Wx.sL (e▸hp),fun j hj e=>hd (R j) (Wx.sR j hj) (e▸hp)⟩;have gy:mi[Ly]?=some (aO (rN Ry c) n):=(h4 Ly (Lr _ Wy.sL) (nSx Wy.sL).1 fun j hj=>(nSx Wy.sL).2 j (by omega)).trans Wy.hL;have gr:mi[Ry i]?=some (cA (ey i)):=(h4 (Ry i) (Lr _ (Wy.sR i aU)) (nSx (Wy.sR i aU)).1 fun j hj=>(nSx (Wy.sR i aU)).2 j (by omega)).trans (Wy.hR i aU);have gx:mi[R i]?=some (cA (ex i)):=(h4 (R i) (GI _ (Wx.sR i aU)) (Wx.nL i aU) fun j hj e=>by have:=Wx.inj i j aU (by omega) e;omega).trans (Wx.hR i aU);have ly:=Wy.len i aU;have lx:=Wx.len i aU;have GL:=Ru (q:=Ry i) (a:=0) (c:=c) (full:=ey i) gx lx (by omega) gr hc (by omega) (by omega);have etake:((ey i).drop 0).take c=ey i:=by rw[tg,<- ly,List.take_length]
  rw[etake,qM] at GL;have SR:L<m.length:=GI _ Wx.sL;have hRm:R i<m.length:=GI _ (Wx.sR i aU);have Lk:((mi.set (R i) none)++[cA (ex i++ey i)])[L]?=some (aO (qe m.length R n c i) n):=fM (by rw[dM (Wx.nL i aU)];exact h2)
  have eD:aA none ((mi.set (R i) none)++[cA (ex i++ey i)]) (.ptr L i) (.arr mi.length 0 (n+c) (some 3))=some (((mi.set (R i) none)++[cA (ex i++ey i)]).set L (aO (qe m.length R n c (i+1)) n)):=by
   rw[vL Lk aU rfl rfl]
   have:(fun j=>if j=i then AV.arr mi.length 0 (n+c) (some 3) else qe m.length R n c i j)=qe m.length R n c (i+1):=by
    funext j;unfold qe
    by_cases h:j=i
    .rw[aj h,aj (by omega),h1,h]
    .rw[ag h]
     by_cases h':j<i
     .rw[aj h',aj (by omega)]
     .rw[ag h',ag (by omega)]
   rw[this]
  obtain ⟨m',z1,z2,z3,z4,z5⟩:=Re Wx Wy hd Lr GI hc hb KK e (i+1) (((mi.set (R i) none)++[cA (ex i++ey i)]).set L (aO (qe m.length R n c (i+1)) n)) (by omega) (by rw[eB,aK,eB,h1];rfl) (jO (by rw[aK,eB];omega))
   (fun j hj=>by
    rw[dM (by omega)]
    by_cases h:j=i
    .subst h;have:((mi.set (R j) none)++[cA (ex j++ey j)])[(mi.set (R j) none).length]?=some (cA (ex j++ey j)):=bX;rw[eB,h1] at this;exact this
    .exact fM (by rw[dM (by omega)];exact h3 j (by omega)))
   (fun p hp TR TS=>by
    rw[dM (fun e=>TR e.symm),er (by rw[eB];omega),dM (fun e=>TS i (by omega) e.symm)]
    exact h4 p hp TR fun j hj=>TS j (by omega))
  refine ⟨m',?_,z2,z3,z4,z5⟩
  have tF:ai none mi (.ptr L i)=some (.arr (R i) 0 n (some 3)):=by
   rw[B7 h2 aU];unfold qe;rw[ag (rP i)]
  have qgE:ai none mi (.ptr Ly i)=some (.arr (Ry i) 0 c (some 3)):=B7 gy aU;rw[BQ,bR,aa,aw,aj aU,mD aU,aa,qgE,aa,mD aU,aa,tF,aa,GL,aa,aa,eD,aa,eF (by omega),aa];exact z1
theorem Rf{Sx:Nat->Prop}{L Ly:Nat}{R:Nat->Nat}{ex:Nat->List RV}{A:MX}(hn:n<=60)(KK:KT):∀(e i:Nat) (mi:ae),i+e=n->WR Sx mi L R ex n n A->L≠Ly->mi[Ly]?=some (aO (fun _=>.lst (some 3) false .full []) n) ->
  ∃m':ae,zB x2 x3 x4 (.arr L 0 n none) (.arr Ly 0 n none) (.int .i64 n) (.int .i64 i) mi KK=KK (.exit 1) (B1 x2 x3 x4 (.arr L 0 n none) m')/\m'.length=mi.length/\WR Sx m' L R ex n n A/\(∀p,p≠L->m'[p]?=mi[p]?)
 | 0,i,mi,hi,W,aE,h2=>by
  obtain rfl:i=n:=by omega
  refine ⟨mi,?_,rfl,W,fun _ _=>rfl⟩;rw[BQ,bR,aa,aw,ag (by omega)]
 | e+1,i,mi,hi,W,aE,h2=>by
  have aU:i<n:=by omega
  have SR:=(dX.1 W.hL).1
  have eD:aA none mi (.ptr L i) (.arr (R i) 0 n (some 3))=some (mi.set L (aO (rN R n) n)):=by
   rw[vL W.hL aU rfl rfl]
   have:(fun j=>if j=i then AV.arr (R i) 0 n (some 3) else rN R n j)=rN R n:=by
    funext j
    by_cases h:j=i
    .rw[aj h,h];rfl
    .rw[ag h]
   rw[this]
  have W1:WR Sx (mi.set L (aO (rN R n) n)) L R ex n n A:=⟨jO SR,fun j hj=>by rw[dM (fun e=>W.nL j hj e.symm)];exact W.hR j hj,W.len,W.inj,W.nL,W.fr,W.can,W.sR,W.sL⟩;obtain ⟨m',z1,z2,z3,z4⟩:=Rf hn KK e (i+1) (mi.set L (aO (rN R n) n)) (by omega) W1 aE (by rw[dM aE];exact h2);refine ⟨m',?_,by rw[z2,eB],z3,fun p hp=>by rw[z4 p hp,dM (fun e=>hp e.symm)]⟩;rw[BQ,bR,aa,aw,aj aU,mD aU,aa,B7 h2 aU,aa,mD aU,aa,W.ldR aU,aa,qdj,aa,aa,eD,aa,eF (by omega),aa];exact z1
def oM(r c:Int)(v:AV):Option Ent:=some (.obj true [.int .i64 r,.int .i64 c,v])
theorem U4{m:ae}{q:Nat}{r c:Int}{v:AV}(h:m[q]?=some (oM r c v)):ai none m (.ptr q 2)=some v:=by simp[ai,jc h,jU]
theorem Hy{m:ae}{q:Nat}{r c:Int}{v:AV}(h:m[q]?=some (oM r c v)):ai (some 3) m (.ptr q 0)=some (.agg [.int .i64 r,.int .i64 c,v]):=by simp[ai,jc h,jU]
theorem U5{m:ae}{q:Nat}{r c:Int}{v v':AV}(h:m[q]?=some (oM r c v))(ha:fZ v'=true)(hc:v'.cells=[v']):aA none m (.ptr q 2) v'=some (m.set q (oM r c v')):=by
 simp only[aA,jc h,aa,Sh.size,eP,ha,eC,hc]
 rfl
def kA(es:Nat->List RV)(n:Nat):Nat->List RV
 | 0=>[]
 | i+1=>kA es n i++(es i).drop n
theorem F1{es:Nat->List RV}:∀{i:Nat},(∀j,j<i->(es j).length=n+c)->(kA es n i).length=i*c
 | 0,_=>by rw[qM];rfl
 | i+1,h=>by
  rw[kA,aK,F1 fun j hj=>h j (by omega),rL,h i (by omega),fI,nH];omega
theorem Rn{es:Nat->List RV}{r:RV}:∀{i j t:Nat},(∀j,j<i->(es j).length=n+c)->j<i->t<c->(kA es n i).getD (j*c+t) r=(es j).getD (n+t) r
 | i+1,j,t,h,hj,ht=>by
  have hl:=F1 (n:=n) (c:=c) (es:=es) (i:=i) fun j hj=>h j (by omega);rw[kA,bA]
  by_cases wq:j<i
  .have aG:j*c+t<i*c:=by
    have:(j+1)*c<=i*c:=fW c wq;rw[fI,nH] at this;omega
   rw[er (by rw[hl];exact aG),<- bA];exact Rn (fun j hj=>h j (by omega)) wq ht
  .obtain rfl:j=i:=by omega
   rw[vE (by rw[hl];omega),hl,show j*c+t-j*c=t by omega,qI,<- bA]
theorem Rc{S:Nat->Prop}{L:Nat}{R:Nat->Nat}{es:Nat->List RV}{N:MX}{x:MV}(az:x.cols=n)(hc:0<c)(hb:n+c<=60)(hn:n<=60){q:Nat}(hq:¬ S q)(L9:3<=q)(hS3:∀p,S p->3<=p)(KK:KT){z2:Option Ent}:∀(e i:Nat) (m:ae) (v:AV),i+e=n->WR S m L R es n (n+c) N->(∀p,S p->p<m.length)->m[0]?=some (cM x)->m[2]?=some z2->m[q]?=some (oM n c v)->(i=0/\v=b9.av\/0<i/\∃p,v=.arr p 0 (i*c) (some 3)/\m[p]?=some (cA (kA es n i))/\¬ S p/\p≠q/\3<=p) ->
  ∃(m':ae) (v':AV),zA (.ptr 0 0) x4 (.ptr q 0) (.arr L 0 n none) (.int .i64 n) (.int .i64 i) m KK=KK (.exit 3) (B0 x4 (.ptr q 0) m')/\m'[2]?=some z2/\m'[q]?=some (oM n c v')/\(n=0/\v'=b9.av\/0<n/\∃p,v'=.arr p 0 (n*c) (some 3)/\m'[p]?=some (cA (kA es n n))/\p≠q/\3<=p)
 | 0,i,m,v,hi,W,hS,h0,h2,po,hv=>by
  obtain rfl:i=n:=by omega
  refine ⟨m,v,?_,h2,po,hv.imp id fun ⟨a,p,b1,b2,b3,b4,b5⟩=>⟨a,p,b1,b2,b4,b5⟩⟩;rw[E1,bR,aa,aw,ag (by omega)]
 | e+1,i,m,v,hi,W,hS,h0,h2,po,hv=>by
  have aU:i<n:=by omega
  have hlen:=W.len i aU;have gR:=W.hR i aU;have hic:i*c<=60*60:=il (by omega) (by omega);have qgz:i*c+c=(i+1)*c:=by rw[fI,nH]
  have etake:((es i).drop n).take c=(es i).drop n:=nY (by rw[rL];omega);have Mb:q<m.length:=(dX.1 po).1
  have common:∀(m1:ae),m1.length=m.length->(∀p,p<m.length->(p=q\/S p\/p<3)->m1[p]?=m[p]?)->eG none true 43 (some 3) 56 m v (.arr (R i) (n*3) c (some 3))=some (.arr m.length 0 ((i+1)*c) (some 3),m1++[cA (kA es n (i+1))]) ->
    ∃(m':ae) (v':AV),zA (.ptr 0 0) x4 (.ptr q 0) (.arr L 0 n none) (.int .i64 n) (.int .i64 i) m KK=KK (.exit 3) (B0 x4 (.ptr q 0) m')/\m'[2]?=some z2/\m'[q]?=some (oM n c v')/\(n=0/\v'=b9.av\/0<n/\∃p,v'=.arr p 0 (n*c) (some 3)/\m'[p]?=some (cA (kA es n n))/\p≠q/\3<=p):=by
   intro m1 kK hk GL;have C2:(m1++[cA (kA es n (i+1))])[q]?=some (oM n c v):=fM ((hk q Mb (.inl rfl)).trans po);have W1:WR S ((m1++[cA (kA es n (i+1))]).set q (oM n c (.arr m.length 0 ((i+1)*c) (some 3)))) L R es n (n+c) N:=(W.keep (m':=m1++[cA (kA es n (i+1))]) fun p hp kN=>(er (by omega)).trans (hk p kN (.inr (.inl hp)))).set _ hq;have nSl:¬ S m.length:=fun h=>by have:=hS _ h;omega
   obtain ⟨m',v',y1,y2,y3,y4⟩:=Rc az hc hb hn hq L9 hS3 KK e (i+1) ((m1++[cA (kA es n (i+1))]).set q (oM n c (.arr m.length 0 ((i+1)*c) (some 3)))) (.arr m.length 0 ((i+1)*c) (some 3)) (by omega) W1
    (fun p hp=>by rw[eB,aK,kK];have:=hS p hp;omega)
    (by rw[dM (by omega)];exact fM ((hk 0 (by omega) (.inr (.inr (by omega)))).trans h0))
    (by rw[dM (by omega)];exact fM ((hk 2 (by omega) (.inr (.inr (by omega)))).trans h2))
    (jO (by rw[aK,kK];omega))
    (.inr ⟨by omega,m.length,rfl,by rw[dM (by omega),<- kK];exact bX,nSl,by omega,by omega⟩)
   refine ⟨m',v',?_,y2,y3,y4⟩;rw[E1,bR,aa,aw,aj aU,mD aU,aa,W.ldR aU,aa,bE,aa,U4 po,aa,ba,aa,fh h0,aa,az,Ws (by omega),aa,show n+c-n=c by omega,GL,aa,aa,U5 C2 rfl rfl,aa,eF (by omega),aa];exact y1
  rcases hv with ⟨yk,rfl⟩|⟨yk,p,rfl,hp1,yt,hp3,hp4⟩
  .subst yk;have ha:=qdi (m:=m) (q:=R 0) (a:=n) (c:=c) (full:=es 0) gR hc (by omega) (by omega);rw[etake] at ha;refine common m rfl (fun p _ _=>rfl) ?_;rw[show (0+1)*c=c by omega];exact ha
  .have kW:=F1 (n:=n) (c:=c) (es:=es) (i:=i) fun j hj=>W.len j (by omega)
   have ha:=Ru (m:=m) (p:=p) (n:=i*c) (q:=R i) (a:=n) (c:=c) (full:=es i) hp1 kW (Nat.mul_pos yk hc) gR hc (by omega) (by
    have:(i+1)*c<=60*60:=il (by omega) (by omega)
    omega)
   rw[etake,qgz] at ha;refine common (m.set p none) (by rw[eB]) (fun p' _ h=>?_) ha
   have:p≠p':=fun e=>by
    rcases h with h|h|h
    .exact hp3 (e.trans h)
    .exact yt (e▸h)
    .omega
   rw[dM this]
theorem Rd{S:Nat->Prop}{L:Nat}{R:Nat->Nat}{es:Nat->List RV}{N:MX}{x:MV}(az:x.cols=n)(hn:n<=60){q:Nat}(hq:¬ S q)(L9:3<=q)(KK:KT){z2:Option Ent}:∀(e i:Nat) (m:ae),i+e=n->WR S m L R es n n N->m[0]?=some (cM x)->m[2]?=some z2->m[q]?=some (oM n (0:Nat) b9.av) ->
  ∃(m':ae),zA (.ptr 0 0) x4 (.ptr q 0) (.arr L 0 n none) (.int .i64 n) (.int .i64 i) m KK=KK (.exit 3) (B0 x4 (.ptr q 0) m')/\m'[2]?=some z2/\m'[q]?=some (oM n (0:Nat) b9.av)
 | 0,i,m,hi,W,h0,h2,po=>by
  obtain rfl:i=n:=by omega
  refine ⟨m,?_,h2,po⟩;rw[E1,bR,aa,aw,ag (by omega)]
 | e+1,i,m,hi,W,h0,h2,po=>by
  have aU:i<n:=by omega
  have Mb:q<m.length:=(dX.1 po).1;obtain ⟨m',y1,y2,y3⟩:=Rd az hn hq L9 KK e (i+1) (m.set q (oM n (0:Nat) b9.av)) (by omega) (W.set _ hq) (by rw[dM (by omega)];exact h0) (by rw[dM (by omega)];exact h2) (jO Mb);refine ⟨m',?_,y2,y3⟩;have hs:nS (some 3) (.arr (R i) 0 n (some 3)) (some (.int .i64 n)) none none=some (.arr (R i) (n*3) 0 (some 3)):=by rw[Ws (aW n),oE]
  rw[E1,bR,aa,aw,aj aU,mD aU,aa,W.ldR aU,aa,bE,aa,U4 po,aa,ba,aa,fh h0,aa,az,hs,aa,qdh,aa,aa,U5 po rfl rfl,aa,eF (by omega),aa];exact y1
end
end Go.Ab
namespace Go.Ab
open Go.Proofs.Try
structure SolQ (x y:MV) (n c K:Nat) (z:MV) (ok:Bool):Prop where
 rank:ok=decide (gG (mT n n (eW x n)) n=n)
 fr:z.fr=z
 lok:LOk K z.lv
 bad:ok=false->z=zM
 rows:ok=true->z.rows=n
 cols:ok=true->z.cols=c
 len:ok=true->z.lv.es.length=n*c
 sol:ok=true->∀X,uv n c (lE x y n c) X↔∀i q,i<n->q<c->X i q=gY z (i*c+q)
section
variable {x y:MV} {n c:Nat}
theorem qhR(hx:IsM 3 x)(hy:IsM 3 y)(ff:aP x=true)(gJ:aP y=true)(aD:x.rows=n)(az:x.cols=n)(tO:y.rows=n)(nP:y.cols=c)(hb:n+c<=60){m3:ae}(uQ:m3=[cM x,cM y,cM zM]) :
  ∃(m1 m2 m':ae) (L Ly:Nat) (S:Nat->Prop) (R:Nat->Nat) (es:Nat->List RV),AC ab 85 [x.av] m3=some (.arr L 0 n none,m1)/\m1[1]?=some (cM y)/\AC ab 85 [y.av] m1=some (.arr Ly 0 n none,m2) /\
   zB (.ptr 0 0) (.ptr 1 0) (.ptr 2 0) (.arr L 0 n none) (.arr Ly 0 n none) (.int .i64 n) (.int .i64 (0:Nat)) m2 (zt (aN ab.P f53.results.toList))=zt (aN ab.P f53.results.toList) (.exit 1) (B1 (.ptr 0 0) (.ptr 1 0) (.ptr 2 0) (.arr L 0 n none) m') /\
   WR S m' L R es n (n+c) (lE x y n c)/\(∀p,S p->3<=p/\p<m'.length)/\m'[0]?=some (cM x)/\m'[1]?=some (cM y)/\m'[2]?=some (cM zM):=by
 have AA:m3.length=3:=by rw[uQ];rfl
 have b0:m3[0]?=some (cM x):=by rw[uQ];rfl
 have b1:m3[1]?=some (cM y):=by rw[uQ];rfl
 have b2:m3[2]?=some (cM zM):=by rw[uQ];rfl
 rcases Nat.eq_zero_or_pos n with jC|jC
 ·
  subst jC;obtain ⟨m1,x1,x2,x3,x4⟩:=Et (m:=m3) hx ff aD az
  have y85:∃(m2:ae) (Ly:Nat),AC ab 85 [y.av] m1=some (.arr Ly 0 0 none,m2)/\m1.length<=m2.length/\∀p,p<m1.length->m2[p]?=m1[p]?:=by
   rcases Nat.eq_zero_or_pos c with kF|kF
   .subst kF;obtain ⟨m2,y1,y2,y3,y4⟩:=Et (m:=m1) hy gJ tO nP;exact ⟨m2,_,y1,by omega,y4⟩
   .obtain ⟨m2,ey,y1,y2,y3,y4,y5⟩:=Es (m:=m1) hy gJ tO nP kF (by omega);exact ⟨m2,_,y1,by omega,y5⟩
  obtain ⟨m2,Ly,y1,y2,y3⟩:=y85;have g:∀{p:Nat} {z:Option Ent},p<3->m3[p]?=some z->m2[p]?=some z:=fun hp h=>(y3 _ (by omega)).trans ((x4 _ (by omega)).trans h)
  refine ⟨m1,m2,m2,m3.length+1,Ly,fun p=>p=m3.length+1,fun i=>i,fun _=>[],x1,(x4 1 (by omega)).trans b1,y1,?_,?_,fun p hp=>by omega,g (by omega) b0,g (by omega) b1,g (by omega) b2⟩
  .rw[BQ,bR,aa,aw,ag (by omega)]
  .exact ⟨(y3 _ (by omega)).trans x3,fun i hi=>by omega,fun i hi=>by omega,fun i j hi=>by omega,fun i hi=>by omega,fun i hi=>by omega,fun i j hi=>by omega,fun i hi=>by omega,rfl⟩
 .obtain ⟨m1,ex,x1,Wx,Bx,x4,x5⟩:=Es (m:=m3) hx ff aD az jC (by omega)
  rcases Nat.eq_zero_or_pos c with kF|kF
  .subst kF;obtain ⟨m2,y1,y2,y3,y4⟩:=Et (m:=m1) hy gJ tO nP;have Wx2:=Wx.keep (m':=m2) fun p _ hp=>y4 p hp;obtain ⟨m',z1,z2,z3,z4⟩:=Rf (x2:=.ptr 0 0) (x3:=.ptr 1 0) (x4:=.ptr 2 0) (by omega) (zt (aN ab.P f53.results.toList)) n 0 m2 (by omega) Wx2 (by omega) y3;have g:∀{p:Nat} {z:Option Ent},p<3->m3[p]?=some z->m'[p]?=some z:=fun hp h=>(z4 _ (by omega)).trans ((y4 _ (by omega)).trans ((x5 _ (by omega)).trans h));refine ⟨m1,m2,m',m3.length+1,m1.length+1,_,_,ex,x1,(x5 1 (by omega)).trans b1,y1,z1,z3.congr fun i j hi hj=>?_,fun p hp=>⟨by have:=hp.1;omega,by have:=hp.2;omega⟩,g (by omega) b0,g (by omega) b1,g (by omega) b2⟩;unfold lE eW;rw[aj hj]
  .obtain ⟨m2,ey,y1,Wy,By,y4,y5⟩:=Es (m:=m1) hy gJ tO nP kF (by omega);have Wx2:=Wx.keep (m':=m2) fun p _ hp=>y5 p hp
   have h0:m2[m3.length+1]?=some (aO (qe m2.length (fun i=>m3.length+1+1+i) n c 0) n):=by
    have:qe m2.length (fun i=>m3.length+1+1+i) n c 0=rN (fun i=>m3.length+1+1+i) n:=by
     funext j;unfold qe rN;rw[ag (by omega)]
    rw[this];exact Wx2.hL
   obtain ⟨m',z1,z2,z3,z4,z5⟩:=Re (x2:=.ptr 0 0) (x3:=.ptr 1 0) (x4:=.ptr 2 0) Wx2 Wy (fun p h1 h2=>by have:=h1.2;have:=h2.1;omega) (fun p hp=>by have:=hp.2;omega) (fun p hp=>by have:=hp.2;omega) kF hb (zt (aN ab.P f53.results.toList)) n 0 m2 (by omega) (by omega) h0 (fun j hj=>by omega) (fun p _ _ _=>rfl);have g:∀{p:Nat} {z:Option Ent},p<3->m3[p]?=some z->m'[p]?=some z:=fun hp h=>(z5 _ (by omega) (by omega) (fun j hj=>by omega)).trans ((y5 _ (by omega)).trans ((x5 _ (by omega)).trans h))
   refine ⟨m1,m2,m',m3.length+1,m1.length+1,fun p=>p=m3.length+1\/(m2.length<=p/\p<m2.length+n),fun j=>m2.length+j,fun j=>ex j++ey j,x1,(x5 1 (by omega)).trans b1,y1,z1,⟨?_,z4,fun i hi=>by rw[aK,Wx.len i hi,Wy.len i hi],fun i j _ _ h=>by omega,fun i _=>by omega,fun i hi r hr=>?_,fun i j hi hj=>?_,fun i hi=>.inr ⟨by omega,by omega⟩,.inl rfl⟩,fun p hp=>by rcases hp with h|h<;>omega,g (by omega) b0,g (by omega) b1,g (by omega) b2⟩
   .have:aO (qe m2.length (fun i=>m3.length+1+1+i) n c n) n=aO (rN (fun j=>m2.length+j) (n+c)) n:=by
     unfold aO;congr 2;refine List.map_congr_left fun j hj=>?_;unfold qe rN;rw[aj (oC.1 hj)]
    rw[<- this];exact z3
   .rcases kT.1 hr with h|h
    .exact Wx.fr i hi r h
    .exact Wy.fr i hi r h
   .have lx:=Wx.len i hi;unfold lE
    by_cases h:j<n
    .rw[aj h,bA,er (by omega),<- bA];exact Wx.can i j hi h
    .rw[ag h,bA,vE (by omega),lx,<- bA];exact Wy.can i (j-n) hi (by omega)
theorem QV(hx:IsM 3 x)(hy:IsM 3 y)(ff:aP x=true)(gJ:aP y=true)(aD:x.rows=n)(az:x.cols=n)(tO:y.rows=n)(nP:y.cols=c)(n6:n<=6)(c6:c<=6) :
  ∃z ok,AP ab 53 [x.av,y.av]=some (.tup [z.av,.int .i64 (if ok=true then 0 else 31)])/\SolQ x y n c 13653 z ok:=by
 have e21:=qs hx.ok (k:=3) (by omega) (by have:=hx.len;omega);have e21':=qs hy.ok (k:=3) (by omega) (by have:=hy.len;omega);obtain ⟨m3,uQ⟩:∃m3,m3=[cM x,cM y,cM zM]:=⟨_,rfl⟩;obtain ⟨m1,m2,m',L,Ly,S,R,es,c1,c2,c3,c4,W,hS,g0,g1,g2⟩:=qhR hx hy ff gJ aD az tO nP (by omega) uQ;have k1:kk 3 n<=13653:=by rw[<- show kk 3 6=13653 from by decide];exact mf 3 n6
 have k3:n*kk 3 n<=6*13653:=il n6 k1
 have hB:qm 3 n (n+c) (lE x y n c):=fun i j hi hj=>by
  unfold lE
  split
  .exact yX hx.ok (by omega)
  .exact yX hy.ok (by omega)
 obtain ⟨m5,D,T,tk,R',es',N,top,cs,s,dv,d1,O⟩:=Oi (n:=n) (K0:=3) W (fun p hp=>(hS p hp).2) hB (by omega) (by omega) (by omega) (by omega) (by omega) (by omega);have kp:∀{p:Nat} {z:Option Ent},p<3->m'[p]?=some z->m5[p]?=some z:=fun hp h=>(O.keep _ (by have:=(dX.1 g2).1;omega) fun hs=>by have:=(hS _ hs).1;omega).trans h;have hl5:3<=m5.length:=by have:=(dX.1 (kp (by omega) g2)).1;omega
 have oD:=O.cD.ok O.bD (by omega);have e86:=FQ oD (by omega);rw[O.cD.q] at e86
 have TY:top=gG (mT n n (eW x n)) n:=by
  rw[O.G.rank];exact VF (by omega) fun i j hi hj=>by unfold lE eW;rw[aj hj]
 have e12:(m5++[cR zR]).set m5.length (cR D)=m5++[cR D]:=by simp
 have start:AC ab 53 [x.av,y.av] []=AC ab 53 [x.av,y.av] []:=rfl
 conv at start=>rhs;rw[Qt,im,aa,im,aa]
 simp only[iG,bc,aX,aZ,aR,bm,aL,Nat.reduceAdd] at start;rw[bC (x:=x) rfl,aa,lS,hx.fr,e21,ar,aa,bB,aa,ff,gk,fF,bC (x:=y) rfl,aa,lS,hy.fr,e21',ar,aa,bB,aa,gJ,gk,fF,bj,aa,gh (x:=x) rfl,aa,ba,aa,fh (x:=x) rfl,aa,iL,aa,aw,ag (by omega),bj,aa,gh (x:=y) rfl,aa,aa,gh (x:=x) rfl,aa,iL,aa,aw,ag (by omega),bC (x:=x) rfl,aa,<- uQ,c1,aa] at start;rw[bC c2,aa,c3,aa,ux,aa] at start;have start2:=start.trans c4;rw[ZQ,ba,aa,fh g0,aa,az,d1,aa,pO,aa,pP,aa] at start2;simp only[tT,bc] at start2;rw[iV bX,aa,e12,je bX,aa,bS,O.fD,e86,ar,aa,iY,aa,NJ,aw] at start2
 by_cases h0:dv=0
 .rw[aj h0,pb,aa,eO (x:=zM) (fM (kp (by omega) g2)),aa,bC (jO (by rw[aK];omega)),aa] at start2;have aE:=(O.G.dv0).1 h0
  refine ⟨zM,false,?_,⟨?_,rfl,?_,fun _=>rfl,fun h=>(by cases h),fun h=>(by cases h),fun h=>(by cases h),fun h=>(by cases h)⟩⟩
  .rw[ag (by decide)];exact nC start2 rfl
  .rw[<- TY];exact (kC aE).symm
  .exact ⟨.inr rfl,fun _=>rfl,fun r hr=>(by cases hr),fun r hr=>(by cases hr)⟩
 .have rh:top=n:=jv fun h=>h0 ((O.G.dv0).2 h);subst rh;have ok:true=decide (gG (mT top top (eW x top)) top=top):=(nd TY.symm).symm;have q0:(m5++[cR D])[0]?=some (cM x):=fM (kp (by omega) g0);have q1:(m5++[cR D])[1]?=some (cM y):=fM (kp (by omega) g1);have q2:(m5++[cR D])[2]?=some (cM zM):=fM (kp (by omega) g2);obtain ⟨m6,TI⟩:∃m6,m6=m5++[cR D]:=⟨_,rfl⟩;have W6:=O.W.app [cR D];rw[<- TI] at q0 q1 q2 W6 start2;have hl6:m6.length=m5.length+1:=by rw[TI,aK];rfl
  have SS:∀p,S p->p<m6.length:=fun p hp=>by have:=(hS p hp).2;have:=O.len;omega
  have e13:(m6++[cM zM]).set m6.length (cM ⟨top,c,b9⟩)=m6++[cM ⟨top,c,b9⟩]:=by simp
  rw[ag h0,bj,aa,gh q1,aa,ba,aa,fh q1,aa,tO,nP,xG,aa] at start2;simp only[iG,bc] at start2;rw[eO bX,aa,e13,ux,aa] at start2;have nSq:¬ S m6.length:=fun h=>by have:=SS _ h;omega
  have W7:=W6.app [cM ⟨top,c,b9⟩];have p0:(m6++[cM ⟨top,c,b9⟩])[0]?=some (cM x):=fM q0;have p2:(m6++[cM ⟨top,c,b9⟩])[2]?=some (cM zM):=fM q2;have pq:(m6++[cM ⟨top,c,b9⟩])[m6.length]?=some (oM top c b9.av):=bX
  rcases Nat.eq_zero_or_pos c with kF|kF
  .subst kF;obtain ⟨m8,y1,y2,y3⟩:=Rd (x4:=.ptr 2 0) az (by omega) nSq (by omega) (EF (aN ab.P f53.results.toList)) top 0 _ (by omega) W7 p0 p2 pq;have st3:=start2.trans y1;have GX:2<m8.length:=(dX.1 y2).1;rw[Jd,Hy y3,aa,show AV.agg [.int .i64 (top:Nat),.int .i64 ((0:Nat):Int),b9.av]=MV.av ⟨top,(0:Nat),b9⟩ from rfl,eO y2,aa,bC (jO GX),aa] at st3
   refine ⟨⟨top,(0:Nat),b9⟩,true,?_,⟨ok,rfl,⟨.inr rfl,fun _=>rfl,fun r hr=>(by cases hr),fun r hr=>(by cases hr)⟩,fun h=>(by cases h),fun _=>rfl,fun _=>rfl,fun _=>(by rw[mA];rfl),fun _ X=>?_⟩⟩
   .rw[aj rfl];exact nC st3 rfl
   .exact ⟨fun _ i q _ hq=>by omega,fun _ i q _ hq=>by omega⟩
  .obtain ⟨m8,v',y1,y2,y3,y4⟩:=Rc (x4:=.ptr 2 0) az kF (by omega) (by omega) nSq (by omega) (fun p hp=>(hS p hp).1) (EF (aN ab.P f53.results.toList)) top 0 _ b9.av (by omega) W7 (fun p hp=>by rw[aK];have:=SS p hp;omega) p0 p2 pq (.inl ⟨rfl,rfl⟩);have st3:=start2.trans y1;have GX:2<m8.length:=(dX.1 y2).1;have wj:∀j,j<top->(es' j).length=top+c:=O.W.len;have kW:=F1 (n:=top) (c:=c) (es:=es') (i:=top) wj;have elem:∀i q,i<top->q<c->(kA es' top top).getD (i*c+q) zR=(es' i).getD (top+q) zR:=fun i q hi hq=>Rn wj hi hq
   have T0:∀(z:MV),z.lv.es=kA es' top top->∀X,uv top c (lE x y top c) X↔∀i q,i<top->q<c->X i q=gY z (i*c+q):=fun z hz X=>by
    rw[O.G.sol X]
    have hv:∀i q,i<top->q<c->gY z (i*c+q)=N i (top+q):=fun i q hi hq=>by
     have h1:=elem i q hi hq;have aG:i*c+q<z.lv.es.length:=by rw[hz,kW];exact kB hi hq
     rw[rl aG]
     have h2:z.lv.es[i*c+q]=(es' i).getD (top+q) zR:=by
      rw[<- h1,bA];rw[show (kA es' top top)[i*c+q]?=z.lv.es[i*c+q]? by rw[hz],jR aG]
      rfl
     rw[h2];exact (O.W.can i (top+q) hi (by omega)).q
    exact ⟨fun h i q hi hq=>by rw[hv i q hi hq];exact h i q hi hq,fun h i q hi hq=>by rw[<- hv i q hi hq];exact h i q hi hq⟩
   rcases y4 with ⟨Da,rfl⟩|⟨Da,p,rfl,r1,r2,r3⟩
   .rw[Jd,Hy y3,aa,show AV.agg [.int .i64 (top:Nat),.int .i64 (c:Nat),b9.av]=MV.av ⟨top,c,b9⟩ from rfl,eO y2,aa,bC (jO GX),aa] at st3
    have hz:kA es' top top=[]:=by
     rw[<- List.length_eq_zero_iff,kW,Da,qM]
    refine ⟨⟨top,c,b9⟩,true,?_,⟨ok,rfl,⟨.inr rfl,fun _=>rfl,fun r hr=>(by cases hr),fun r hr=>(by cases hr)⟩,fun h=>(by cases h),fun _=>rfl,fun _=>rfl,fun _=>(by rw[<- kW,hz];rfl),fun _ X=>T0 _ (by rw[hz];rfl) X⟩⟩;rw[aj rfl];exact nC st3 rfl
   .have lM:∀r∈kA es' top top,r.fr=r:=fun r hr=>by
     obtain ⟨u,hu,rfl⟩:=uj hr;have Mm:u<top*c:=by rw[<- kW];exact hu
     have h1:u/c<top:=Nat.div_lt_of_lt_mul (by rw[en];exact Mm);have h2:=jx u kF;have h3:=elem (u/c) (u%c) h1 h2;rw[Gs,bA,jR hu] at h3;have h4:(kA es' top top)[u]=(es' (u/c)).getD (top+u%c) zR:=h3;rw[h4];exact O.W.cfr h1 (by omega)
    have bI:∀r∈kA es' top top,ROk 13653 r:=fun r hr=>by
     obtain ⟨u,hu,rfl⟩:=uj hr;have Mm:u<top*c:=by rw[<- kW];exact hu
     have h1:u/c<top:=Nat.div_lt_of_lt_mul (by rw[en];exact Mm);have h2:=jx u kF;have h3:=elem (u/c) (u%c) h1 h2;rw[Gs,bA,jR hu] at h3;have h4:(kA es' top top)[u]=(es' (u/c)).getD (top+u%c) zR:=h3;rw[h4];exact O.W.ok h1 (by omega) ((O.B _ _ h1 (by omega)).mono k1) (by omega)
    have hp8:(m8.set 2 (some (.obj true [.int .i64 (top:Nat),.int .i64 (c:Nat),.arr p 0 (top*c) (some 3)])))[p]?=some (cA (kA es' top top)):=by rw[dM (by omega)];exact r1
    have tF:ai (some 3) (m8.set 2 (some (.obj true [.int .i64 (top:Nat),.int .i64 (c:Nat),.arr p 0 (top*c) (some 3)]))) (.ptr 2 0)=some (.agg [.int .i64 (top:Nat),.int .i64 (c:Nat),.arr p 0 (top*c) (some 3)]):=Hy (q:=2) (r:=top) (c:=c) (v:=.arr p 0 (top*c) (some 3)) (jO GX);rw[Jd,Hy y3,aa,z6 m8 y2 _ _ _ rfl,aa,tF,aa] at st3;have hf:=qgc (m:=m8.set 2 (some (.obj true [.int .i64 (top:Nat),.int .i64 (c:Nat),.arr p 0 (top*c) (some 3)]))) (nR:=p) (es:=kA es' top top) top c 0 hp8 lM;rw[kW] at hf;refine ⟨⟨top,c,⟨some 3,false,.no,kA es' top top⟩⟩,true,?_,⟨ok,rfl,⟨.inl rfl,fun h=>(by cases h),lM,bI⟩,fun h=>(by cases h),fun _=>rfl,fun _=>rfl,fun _=>kW,fun _ X=>T0 _ rfl X⟩⟩;rw[aj rfl];exact jE st3 hf rfl
def sX(x y:MV):Int:=if aP x=true/\aP y=true then (if x.rows=x.cols/\y.rows=x.rows then 0 else 30) else 1
theorem qct{k:Nat}(hx:IsM k x)(hy:IsM k y)(hk:k<2^36)(bu:1<=k)(he:sX x y≠0):AP ab 53 [x.av,y.av]=some (.tup [zM.av,.int .i64 (sX x y)]):=by
 have e21:=qs hx.ok (k:=k) (by omega) (by have:=hx.len;omega);have e21':=qs hy.ok (k:=k) (by omega) (by have:=hy.len;omega);have start:AC ab 53 [x.av,y.av] []=AC ab 53 [x.av,y.av] []:=rfl
 conv at start=>rhs;rw[Qt,im,aa,im,aa]
 simp only[iG,bc,aX,aZ,aR,bm,aL,Nat.reduceAdd] at start;rw[bC (x:=x) rfl,aa,lS,hx.fr,e21,ar,aa,bB,aa] at start;unfold sX at he ⊢
 cases ff:aP x with
 | false=>
  rw[ff,mZ,jj,pb,aa,eO (x:=zM) rfl,aa,bC (x:=zM) rfl,aa] at start;rw[ag (fun h=>by cases h.1)];exact nC start rfl
 | true=>
  rw[ff,gk,fF,bC (x:=y) rfl,aa,lS,hy.fr,e21',ar,aa,bB,aa] at start
  cases gJ:aP y with
  | false=>
   rw[gJ,mZ,jj,pb,aa,eO (x:=zM) rfl,aa,bC (x:=zM) rfl,aa] at start;rw[ag (fun h=>by cases h.2)];exact nC start rfl
  | true=>
   rw[ff,gJ,aj ⟨rfl,rfl⟩] at he;rw[aj ⟨rfl,rfl⟩];rw[gJ,gk,fF,bj,aa,gh (x:=x) rfl,aa,ba,aa,fh (x:=x) rfl,aa,iL,aa,aw] at start
   by_cases h1:x.rows=x.cols
   .rw[ag (fun h=>h h1),bj,aa,gh (x:=y) rfl,aa,aa,gh (x:=x) rfl,aa,iL,aa,aw] at start
    by_cases h2:y.rows=x.rows
    .exact absurd (aj ⟨h1,h2⟩) he
    .rw[aj h2,pb,aa,eO (x:=zM) rfl,aa,bC (x:=zM) rfl,aa] at start;rw[ag (fun h=>h2 h.2)];exact nC start rfl
   .rw[aj h1,pb,aa,eO (x:=zM) rfl,aa,bC (x:=zM) rfl,aa] at start;rw[ag (fun h=>h1 h.1)];exact nC start rfl
theorem QT{k:Nat}(hx:IsM k x)(hy:IsM k y)(hk:k<2^36)(bu:1<=k)(he:sX x y≠0):AP ab 52 [x.av,y.av]=some (.tup [zM.av,.int .i64 (sX x y)]):=by
 have e21:=vK hx.ok (k:=k) (by omega) (by have:=hx.len;omega);have e21':=vK hy.ok (k:=k) (by omega) (by have:=hy.len;omega);have start:AC ab 52 [x.av,y.av] []=AC ab 52 [x.av,y.av] []:=rfl
 conv at start=>rhs;rw[Qs,im,aa,im,aa]
 simp only[iG,bc,aX,aZ,aR,bm,aL,Nat.reduceAdd] at start;rw[bC (x:=x) rfl,aa,lS,hx.fr,e21,ar,aa,bB,aa] at start;unfold sX at he ⊢
 cases ff:aP x with
 | false=>
  rw[ff,mZ,jj,pb,aa,eO (x:=zM) rfl,aa,bC (x:=zM) rfl,aa] at start;rw[ag (fun h=>by cases h.1)];exact nC start rfl
 | true=>
  rw[ff,gk,fF,bC (x:=y) rfl,aa,lS,hy.fr,e21',ar,aa,bB,aa] at start
  cases gJ:aP y with
  | false=>
   rw[gJ,mZ,jj,pb,aa,eO (x:=zM) rfl,aa,bC (x:=zM) rfl,aa] at start;rw[ag (fun h=>by cases h.2)];exact nC start rfl
  | true=>
   rw[ff,gJ,aj ⟨rfl,rfl⟩] at he;rw[aj ⟨rfl,rfl⟩];rw[gJ,gk,fF,bj,aa,gh (x:=x) rfl,aa,ba,aa,fh (x:=x) rfl,aa,iL,aa,aw] at start
   by_cases h1:x.rows=x.cols
   .rw[ag (fun h=>h h1),bj,aa,gh (x:=y) rfl,aa,aa,gh (x:=x) rfl,aa,iL,aa,aw] at start
    by_cases h2:y.rows=x.rows
    .exact absurd (aj ⟨h1,h2⟩) he
    .rw[aj h2,pb,aa,eO (x:=zM) rfl,aa,bC (x:=zM) rfl,aa] at start;rw[ag (fun h=>h2 h.2)];exact nC start rfl
   .rw[aj h1,pb,aa,eO (x:=zM) rfl,aa,bC (x:=zM) rfl,aa] at start;rw[ag (fun h=>h1 h.1)];exact nC start rfl
end
end Go.Ab
namespace Go.Ab
open Go.Proofs.Try
theorem Mx(k a:Nat):∀b,kk (kk k a) b=kk k (a+b)
 | 0=>rfl
 | b+1=>by rw[kk,Mx k a b];rfl
theorem Si{g:Nat}{cs:List AV}{rows cols k:Nat}{Q:Nat->Nat->Rat}(hi:ab.inl 58 g=false/\ab.lib g=none)(gd:∀m,bJ (frz m eo) cs=some (cs,[]))(hr:rows<=60)(hc:cols<=60)
  (h:∀i j,i<rows->j<cols->∃s:RV,AP ab g ([.int .i64 i,.int .i64 j]++cs)=some s.av/\Can s (Q i j)/\s.fr=s/\ROk k s) :
  ∃m' l',gM m' l'/\l'.es.length=rows*cols/\(∀i j,i<rows->j<cols->∀h:i*cols+j<l'.es.length,Can l'.es[i*cols+j] (Q i j))/\(∀r∈l'.es,r.fr=r)/\(∀r∈l'.es,ROk k r/\jl r=true)/\AC ab 58 [.int .i64 rows,.int .i64 cols,.fn g cs] []=some (MV.av ⟨rows,cols,l'⟩,m'):=by
 obtain ⟨F,hF⟩:=qfe h;obtain ⟨m',l',q1,q2,q3⟩:=qcf (F:=F) ⟨hi.1,hi.2,gd,fun i j h1 h2=>(hF i j h1 h2).1,fun i j h1 h2=>(hF i j h1 h2).2.2.1,fun i j h1 h2=>(hF i j h1 h2).2.2.2⟩ hr hc
 refine ⟨m',l',q1,by rw[q2,vR],fun i j h1 h2 hp=>?_,fun r hr=>?_,fun r hr=>?_,q3⟩
 .have tG:i*cols+j<rows*cols:=kB h1 h2;have e:=KG F cols rows _ tG;rw[<- q2,jR hp] at e;obtain ⟨e1,e2⟩:=AZ (i:=i) h2;rw[e1,e2] at e;rw[kz e];exact (hF i j h1 h2).2.1
 .rw[q2] at hr;obtain ⟨a,b,h1,h2,rfl⟩:=z9 hr;exact (hF a b h1 h2).2.2.1
 .rw[q2] at hr;obtain ⟨a,b,h1,h2,rfl⟩:=z9 hr;exact ⟨(hF a b h1 h2).2.2.2,Cm (hF a b h1 h2).2.1⟩
def cI(n:Int):Option Ent:=some (.obj true [.int .i64 n])
theorem qh4(m:ae):ak none m (.obj true [.int .i64 0])=(m.length,m++[cI 0]):=rfl
theorem AK{m:ae}{b:Nat}{n:Int}(h:m[b]?=some (cI n)):ai none m (.ptr b 0)=some (.int .i64 n):=by simp[ai,jc h,jU]
theorem Sz{m:ae}{b:Nat}{n:Int}(h:m[b]?=some (cI n)):frz m 8 (.ptr b 0)=some (vI n,[]):=by
 have e:frz m 8 (.ptr b 0)=(m.obj? b).bind fun o=>if o.1 then (bJ (frz m 7) (o.2.drop 0)).map fun r=>(.vptr r.1,r.2) else none:=rfl
 rw[e,jc h];rfl
theorem qgb{m:ae}{b nm:Nat}{n c:Int}{es:List RV}(h:m[b]?=some (cB n c nm es.length))(hm:m[nm]?=some (cA es))(hf:∀r∈es,r.fr=r):frz m 8 (.ptr b 0)=some (vM ⟨n,c,⟨some 3,false,.no,es⟩⟩,[nm]):=by
 have e:frz m 8 (.ptr b 0)=(m.obj? b).bind fun o=>if o.1 then (bJ (frz m 7) (o.2.drop 0)).map fun r=>(.vptr r.1,r.2) else none:=rfl
 have ha:=Cz (k:=5) hm hf;have hi:∀x:Int,frz m 7 (.int .i64 x)=some (.int .i64 x,[]):=fun _=>rfl;rw[e,jc h];simp[bJ,hi,ha,vM,LV.av]
theorem qht{m:ae}{ns:List Nat}(h:ns=[]\/ns=[4]){p:Nat}(hp:p≠4):(fg m ns)[p]?=m[p]?:=by
 rcases h with rfl|rfl
 .rfl
 .exact dM (by omega)
theorem Ul{m:ae}{ns:List Nat}(h:ns=[]\/ns=[4]):(fg m ns).length=m.length:=by
 rcases h with rfl|rfl
 .rfl
 .exact eB
theorem WT{m:ae}{p:Nat}{vx:AV}{ns:List Nat}{y:MV}{n b K:Nat}{Q:Nat->Nat->Rat}(h1:m[1]?=some (cM y))(h2:m[2]?=some (cM zM))(h3:m[3]?=some (cI n))(nP:y.cols=b)(hz:frz m 8 (.ptr p 0)=some (vx,ns))(AD:ns=[]\/ns=[4])(hvx:∀m k,frz m (k+2) vx=some (vx,[]))
  (cf:∀i j,i<n->j<b->∃s:RV,AP ab 121 [.int .i64 i,.int .i64 j,vx,vI n]=some s.av/\Can s (Q i j)/\s.fr=s/\ROk K s) (hn:n<=60) (hb:b<=60) :
  ∃v mm z l,uf (aN ab.P f92.results.toList) (.exit 0) (Fw (.ptr 1 0) (.ptr 2 0) (.ptr 3 0) (.ptr p 0) m)=some (v,mm)/\frz mm eo v=some (.tup [MV.av z,.bool true],l)/\z.fr=z/\z.rows=n/\z.cols=b/\z.lv.es.length=n*b/\LOk K z.lv/\(∀u∈z.lv.es,jl u=true)/\∀i k,i<n->k<b->gY z (i*b+k)=Q i k:=by
 obtain ⟨m0,l0,t1,t2,t3,t4,t5,t6⟩:=Si (g:=121) (cs:=[vx,vI n]) (rows:=n) (cols:=b) (k:=K) (Q:=Q) ⟨rfl,rfl⟩ (qfv hvx (SB n)) hn hb cf
 have hf:bJ (frz m eo) [.int .i64 n,.int .i64 b,.fn 121 [.ptr p 0,.ptr 3 0]]=some ([.int .i64 n,.int .i64 b,.fn 121 [vx,vI n]],ns):=by
  have e1:=Sz h3
  have e:frz m eo (.fn 121 [.ptr p 0,.ptr 3 0])=some (.fn 121 [vx,vI n],ns):=by
   have e':frz m eo (.fn 121 [.ptr p 0,.ptr 3 0])=(bJ (frz m 8) [.ptr p 0,.ptr 3 0]).map fun r=>(.fn 121 r.1,r.2):=rfl;rw[e'];simp[bJ,e1,hz]
  have ei:∀z:Int,frz m eo (.int .i64 z)=some (.int .i64 z,[]):=fun _=>rfl;simp[bJ,ei,e]
 have e0:=qaI (.ptr 1 0) (.ptr 2 0) (.ptr 3 0) (.ptr p 0) m;rw[AK h3,aa,ba,aa,fh h1,aa,nP] at e0;have k2:(fg m ns)[2]?=some (cM zM):=(qht AD (by decide)).trans h2
 rcases Ik hf t6 t1 t4 with ⟨z1,z2⟩|⟨z1,z2⟩
 .have h0:n*b=0:=by
   rw[z1] at t2;exact t2.symm
  rw[z2,aa,eO (y:=⟨n,b,b9⟩) k2,aa,bC (x:=⟨n,b,b9⟩) (by rw[jF (dX.1 k2).1]),aa] at e0;refine ⟨_,_,⟨n,b,b9⟩,[],e0,CA ⟨n,b,b9⟩ (CB _) _,rfl,rfl,rfl,h0.symm,Ek K,by simp[b9],fun i q hi hq=>?_⟩;have:=kB hi hq;omega
 .have k3:(fg m ns++[cA l0.es])[2]?=some (cM zM):=l7 k2;have l2:=(dX.1 k3).1;have CZ:=(dX.1 k2).1;rw[Ul AD] at CZ;rw[z2,aa,z6 _ k3 _ _ _ rfl,aa,show (some (Ent.obj true [AV.int .i64 n,AV.int .i64 b,AV.arr m.length 0 l0.es.length (some 3)]))=cB n b m.length l0.es.length from rfl,vQ (jF l2),aa] at e0
  have ga:((fg m ns++[cA l0.es]).set 2 (cB n b m.length l0.es.length))[m.length]?=some (cA l0.es):=by
   rw[dM (by omega),<- Ul AD (m:=m)];exact bX
  have hfz:frz ((fg m ns++[cA l0.es]).set 2 (cB n b m.length l0.es.length)) eo (.tup [aM n b m.length l0.es.length,.bool true])=some (.tup [MV.av ⟨n,b,⟨some 3,false,.no,l0.es⟩⟩,.bool true],[m.length]):=by
   have e:∀(m:ae) (a b c:AV),frz m eo (.tup [.agg [a,b,c],.bool true])=(bJ (frz m 8) [.agg [a,b,c],.bool true]).map fun r=>(.tup r.1,r.2):=fun _ _ _ _=>rfl;have e2:∀(m:ae) (a b c:AV),frz m 8 (.agg [a,b,c])=(bJ (frz m 7) [a,b,c]).map fun r=>(.agg r.1,r.2):=fun _ _ _ _=>rfl;have ha:=Cz (k:=5) ga t4;have hi:∀(m:ae) (x:Int),frz m 7 (.int .i64 x)=some (.int .i64 x,[]):=fun _ _=>rfl;have hb:∀(m:ae) (x:Bool),frz m 8 (.bool x)=some (.bool x,[]):=fun _ _=>rfl;rw[e];simp only[bJ,e2,hi,hb,ha,aa,ar,aZ,bN,MV.av,LV.av]
  refine ⟨_,_,⟨n,b,⟨some 3,false,.no,l0.es⟩⟩,[m.length],e0,hfz,rfl,rfl,rfl,t2,⟨.inl rfl,(fun h=>absurd (show false=true from h) (by decide)),t4,fun r hr=>(t5 r hr).1⟩,fun u hu=>(t5 u hu).2,fun i q hi hq=>?_⟩;have hp:i*b+q<l0.es.length:=by rw[t2];exact kB hi hq
  rw[rl (x:=⟨n,b,⟨some 3,false,.no,l0.es⟩⟩) hp];exact (t3 i q hi hq hp).q
structure SolR (x y:MV) (n b K:Nat) (z:MV) (ok:Bool):Prop where
 rank:ok=decide (gG (mT n n (eW x n)) n=n)
 fr:z.fr=z
 lok:LOk K z.lv
 bad:ok=false->z=zM
 rows:ok=true->z.rows=n
 cols:ok=true->z.cols=b
 len:ok=true->z.lv.es.length=n*b
 right:∀u∈z.lv.es,jl u=true
 sol:ok=true->uv n b (lE x y n b) (eW z b)
theorem V92{x y:MV}{k n b:Nat}(hx:IsM k x)(hy:IsM k y)(Me:∀u∈x.lv.es,jl u=true)(Mf:∀u∈y.lv.es,jl u=true)(aD:x.rows=n)(nP:y.cols=b)(wz:x.lv.es.length=n*n)(CY:y.lv.es.length=n*b)(qy:n+b<=60)(bu:1<=k)(hK:kk k (n+n)<2^36) :
  ∃z ok,AP ab 92 [x.av,y.av]=some (.tup [z.av,.bool ok])/\SolR x y n b (kk k (n+n)+kk k (n+n)) z ok:=by
 have gx:∀e:ae,(cM x::e)[0]?=some (cM x):=fun _=>rfl;have gy:∀e:ae,(cM x::cM y::e)[1]?=some (cM y):=fun _=>rfl;have kk0:k<=kk k (n+n):=mf k (jH _);have kkn:kk k n<=kk k (n+n):=mf k (by omega);have hrk:gG (mT n (n+b) (lE x y n b)) n=gG (mT n n (eW x n)) n:=VF (by omega) fun i j hi hj=>by unfold lE eW;rw[aj hj]
 have start:AC ab 92 [x.av,y.av] []=AC ab 92 [x.av,y.av] []:=rfl
 conv at start=>rhs;rw[T92,im,aa,im,aa]
 simp only[iG,qh4,bc,aX,aZ,aR,bm,aL,Nat.reduceAdd] at start;rw[bj,aa,gh (gx _),aa,aD,show aA none [cM x,cM y,cM zM,cI 0] (.ptr 3 0) (.int .i64 n)=some [cM x,cM y,cM zM,cI n] from rfl,aa,AK (n:=n) rfl,aa,aa,ba,aa,fh (gy _),aa,nP,lQ (by omega),aa] at start
 obtain ⟨m0,l0,t1,t2,t3,t4,t5,t6⟩:=Si (g:=120) (cs:=[vI n,vM x,vM y]) (rows:=n) (cols:=n+b) (k:=k) (Q:=lE x y n b) ⟨rfl,rfl⟩ (fun m=>by
  have e1:frz m eo (vI n)=some (vI n,[]):=SB n m 7;have e2:frz m eo (vM x)=some (vM x,[]):=GC hx.fr m 7;have e3:frz m eo (vM y)=some (vM y,[]):=GC hy.fr m 7
  simp[bJ,e1,e2,e3]) (by omega) qy (fun i j hi hj=>qcl hx.ok hy.ok Me Mf nP hi hj qy wz CY)
 have hf:bJ (frz [cM x,cM y,cM zM,cI n] eo) [.int .i64 n,.int .i64 (n+b:Nat),.fn 120 [.ptr 3 0,.ptr 0 0,.ptr 1 0]]=some ([.int .i64 n,.int .i64 (n+b:Nat),.fn 120 [vI n,vM x,vM y]],[]):=by
  have e1:=Sz (m:=[cM x,cM y,cM zM,cI n]) (b:=3) (n:=n) rfl;have e2:=GB (m:=[cM x,cM y,cM zM,cI n]) (gx _);have e3:=GB (m:=[cM x,cM y,cM zM,cI n]) (gy _);rw[hx.fr] at e2;rw[hy.fr] at e3
  have e:frz [cM x,cM y,cM zM,cI n] eo (.fn 120 [.ptr 3 0,.ptr 0 0,.ptr 1 0])=some (.fn 120 [vI n,vM x,vM y],[]):=by
   have e':frz [cM x,cM y,cM zM,cI n] eo (.fn 120 [.ptr 3 0,.ptr 0 0,.ptr 1 0])=(bJ (frz [cM x,cM y,cM zM,cI n] 8) [.ptr 3 0,.ptr 0 0,.ptr 1 0]).map fun r=>(.fn 120 r.1,r.2):=rfl;rw[e'];simp[bJ,e1,e2,e3]
  have ei:∀z:Int,frz [cM x,cM y,cM zM,cI n] eo (.int .i64 z)=some (.int .i64 z,[]):=fun _=>rfl;simp[bJ,ei,e]
 have ht:=Ik (m:=[cM x,cM y,cM zM,cI n]) hf t6 t1 t4;have exn:∀v:AV,bg (.tup [v,.bool true]) 0=some v:=fun _=>rfl
 rcases ht with ⟨hz,ht⟩|⟨hz,ht⟩
 ·
  have jC:n=0:=by
   rw[hz] at t2;have h0:n*(n+b)=0:=t2.symm
   rcases Nat.mul_eq_zero.1 h0 with h|h<;>omega
  subst jC;rw[ht,aa] at start;simp only[fg,List.foldl_nil,aR,aX,bm,aZ,aL,Nat.reduceAdd] at start;rw[eO (x:=zM) (y:=⟨(0:Nat),(b:Nat),b9⟩) rfl,aa] at start;simp only[bH,bk] at start;obtain ⟨m1,CF,kp⟩:=IF (a:=(0:Nat)) (b:=(b:Nat)) (cols:=0) (.inl rfl) (by omega) [cM x,cM y,cM zM,cI (0:Nat),cM ⟨(0:Nat),(b:Nat),b9⟩];rw[bC (x:=⟨(0:Nat),(b:Nat),b9⟩) rfl,aa,AK (n:=(0:Nat)) rfl,aa,CF,aa,bY,aa,bZ,aa] at start;have i1:m1[1]?=some (cM y):=kp.2 1 true _ rfl;have i2:m1[2]?=some (cM zM):=kp.2 2 true _ rfl;have i3:m1[3]?=some (cI (0:Nat)):=kp.2 3 true _ rfl;have i4:m1[4]?=some (cM ⟨(0:Nat),(b:Nat),b9⟩):=kp.2 4 true _ rfl;obtain ⟨v,mm,z,ls,u1,u2,u3,u4,u5,u6,u7,u8,u9⟩:=WT (K:=kk k (0+0)+kk k (0+0)) (Q:=fun _ _=>0) i1 i2 i3 nP (GB i4) (.inl rfl) (GC rfl) (fun i j hi hj=>by omega) (by omega) (by omega);rw[AK i3,aa,gw,aa,aw,ag (by omega),aa,qA (by omega),aa,Ju,o9,aa,aw,ag (by omega),u1] at start;exact ⟨z,true,jE start u2 (by rw[show gV (.tup [z.av,.bool true])=true from rfl,Bool.or_true]),(nd rfl).symm,u3,u7,fun h=>(by cases h),fun _=>u4,fun _=>u5,fun _=>u6,u8,fun _ i k hi hk=>by omega⟩
 ·
  have jC:0<n:=by
   rcases Nat.eq_zero_or_pos n with h|h
   .subst h;rw[qM] at t2;exact absurd (List.length_eq_zero_iff.1 t2) hz
   .exact h
  rw[ht,aa] at start;simp only[fg,List.foldl_nil,aR,aX,bm,aZ,aL,Nat.reduceAdd] at start;rw[t2,z6 _ (n:=5) (x:=zM) rfl _ _ _ rfl,aa] at start;simp only[bH,bk] at start;have g5:([cM x,cM y,cM zM,cI n,cA l0.es,cB n (n+b:Nat) 4 (n*(n+b))]:ae)[5]?=some (cB n (n+b:Nat) 4 (n*(n+b))):=rfl
  have W:WM [cM x,cM y,cM zM,cI n,cA l0.es,cB n (n+b:Nat) 4 (n*(n+b))] 4 l0.es n (n+b) (fun _=>k) (lE x y n b):=⟨rfl,t2,t4,t3,fun i j hi hj=>by
   unfold lE
   split
   .exact yX hx.ok bu
   .exact yX hy.ok bu⟩
  obtain ⟨m1,es1,N,s,r,cs,odd,CF,E,_,W1,kn⟩:=IE (by omega) qy bu (k0:=k) (cols:=n) (by omega) (by omega) W;rw[show (some (Ent.obj true [AV.int .i64 n,AV.int .i64 (n+b:Nat),AV.arr 4 0 (n*(n+b)) (some 3)]))=cB n (n+b:Nat) 4 (n*(n+b)) from rfl,vQ g5,aa,AK (n:=n) rfl,aa,CF,aa,bY,aa,bZ,aa] at start;have i0:m1[0]?=some (cM x):=kn.2 0 true _ (by decide) rfl;have i1:m1[1]?=some (cM y):=kn.2 1 true _ (by decide) rfl;have i2:m1[2]?=some (cM zM):=kn.2 2 true _ (by decide) rfl;have i3:m1[3]?=some (cI n):=kn.2 3 true _ (by decide) rfl;have i5:m1[5]?=some (cB n (n+b:Nat) 4 (n*(n+b))):=kn.2 5 true _ (by decide) rfl;rw[AK i3,aa,bR,aa,aw] at start;have Lx:=E.cnt;rw[hrk] at Lx
  by_cases C5:r<n
  .rw[aj C5,pb,aa,eO i2,aa,bC (x:=zM) (by rw[jF (dX.1 i2).1]),aa] at start;exact ⟨zM,false,bT _ _ (CA zM (CB _)) rfl start,by rw[Lx];exact (kC (by omega)).symm,rfl,Ek _,fun _=>rfl,fun h=>(by cases h),fun h=>(by cases h),fun h=>(by cases h),by simp[zM,b9],fun h=>(by cases h)⟩
  .have qg0:r=n:=by have:=E.ech.le;omega
   subst qg0;rw[ag C5,aa,qA (by omega),aa] at start;obtain ⟨m2,es2,N2,h7,re,dg,W2,j5,kn2⟩:=W92 (k0:=kk k r) (s:=s) (b:=5) (by omega) qy (by omega) (b7 bu (mf k (jH r))) (by rw[Mx];exact hK) (by decide) (.ptr 1 0) (.ptr 2 0) (.ptr 3 0) (aN ab.P f92.results.toList) (fun m' i=>qaF _ _ _ _ _ _ _) r N m1 es1 (aW r) E.re E.ech.upt (W1.mono fun _ _=>by rw[oE];exact aW _) i5;rw[Mx] at W2;have j1:m2[1]?=some (cM y):=kn2.2 1 true _ (by decide) i1;have j2:m2[2]?=some (cM zM):=kn2.2 2 true _ (by decide) i2;have j3:m2[3]?=some (cI r):=kn2.2 3 true _ (by decide) i3;obtain ⟨lk,lq⟩:=W2.lok (show kk k (r+r)<2^40 by omega);have hw:=qgb (b:=5) (es:=es2) (by rw[W2.len];exact j5) W2.hm W2.fr
   obtain ⟨v,mm,z,ls,u1,u2,u3,u4,u5,u6,u7,u8,u9⟩:=WT (K:=kk k (r+r)+kk k (r+r)) (Q:=fun i j=>N2 i (r+j)/N2 i i) j1 j2 j3 nP hw (.inr rfl) (GC (x:=⟨r,(r+b:Nat),⟨some 3,false,.no,es2⟩⟩) rfl) (fun i j hi hj=>by
    have hd:=dg.1 i hi;obtain ⟨t,t1,t2,t3⟩:=qcm (x:=⟨r,(r+b:Nat),⟨some 3,false,.no,es2⟩⟩) (n:=r) (c:=r+b) (i:=i) (j:=j) lk (by omega) hK rfl hi (by omega) qy W2.len (by rw[lq i i hi (by omega)];exact hd);rw[lq i (r+j) hi (by omega),lq i i hi (by omega)] at t2
    exact ⟨t,t1,t2,t3,t2.ok (IC (W2.bd i (r+j) hi (by omega)) (W2.bd i i hi (by omega)) (by omega) hd) (by omega)⟩) (by omega) (by omega)
   rw[h7,u1] at start;refine ⟨z,true,jE start u2 (by rw[show gV (.tup [z.av,.bool true])=true from rfl,Bool.or_true]),by rw[Lx];exact (nd rfl).symm,u3,u7,fun h=>(by cases h),fun _=>u4,fun _=>u5,fun _=>u6,u8,fun _=>?_⟩;exact (Wu re dg (eW z b)).2 fun i q hi hq=>u9 i q hi hq
end Go.Ab
namespace Go.Ab
open Go.Proofs.Try
end Go.Ab
namespace Go.Ab
end Go.Ab
namespace Go.Ab
open Go.Proofs.Try
theorem QU{x y:MV}{k n b:Nat}(hx:IsM k x)(hy:IsM k y)(ff:aP x=true)(gJ:aP y=true)(aD:x.rows=n)(az:x.cols=n)(tO:y.rows=n)(nP:y.cols=b)(qy:n+b<=60)(bu:1<=k)(hk:k<2^36)(hK:kk k (n+n)<2^36) :
  ∃z ok,AP ab 52 [x.av,y.av]=some (.tup [z.av,.int .i64 (if ok=true then 0 else 31)])/\SolR x y n b (kk k (n+n)+kk k (n+n)) z ok:=by
 have e20:=vK hx.ok (by omega) (by have:=hx.len;omega);have e20':=vK hy.ok (by omega) (by have:=hy.len;omega);have gx:∀e:ae,(cM x::e)[0]?=some (cM x):=fun _=>rfl;have gy:∀e:ae,(cM x::cM y::e)[1]?=some (cM y):=fun _=>rfl
 have wz:x.lv.es.length=n*n:=by
  obtain ⟨r,c,a1,a2,_,_,a5⟩:=qg ff;rw[a5,show r=n by omega,show c=n by omega]
 have CY:y.lv.es.length=n*b:=by
  obtain ⟨r,c,a1,a2,_,_,a5⟩:=qg gJ;rw[a5,show r=n by omega,show c=b by omega]
 obtain ⟨z,ok,s1,s2⟩:=V92 hx hy (DQ ff) (DQ gJ) aD nP wz CY qy bu hK;have start:AC ab 52 [x.av,y.av] []=AC ab 52 [x.av,y.av] []:=rfl
 conv at start=>rhs;rw[Qs,im,aa,im,aa]
 simp only[iG,bc,aX,aZ,aR,bm,aL,Nat.reduceAdd] at start;rw[bC (gx _),aa,lS,hx.fr,e20,ar,aa,bB,aa] at start;rw[ff,gk,fF,bC (gy _),aa,lS,hy.fr,e20',ar,aa,bB,aa] at start;rw[gJ,gk,fF,bj,aa,gh (gx _),aa,ba,aa,fh (gx _),aa,iL,aa,aw,ag (by omega),bj,aa,gh (gy _),aa,aa,gh (gx _),aa,iL,aa,aw,ag (by omega),bC (gx _),aa,bC (gy _),aa,HJ,hx.fr,hy.fr,s1,ar,aa,pO,aa,pP,aa] at start;simp only[iG,bc,aX,aZ,aR,bm,aL,Nat.reduceAdd] at start;rw[eO (x:=zM) rfl,aa] at start;simp only[bk,bH] at start;rw[bB,aa] at start
 cases ok with
 | false=>
  rw[mZ,jj,pb,aa,eO (x:=zM) rfl,aa] at start;simp only[bk,bH] at start;rw[bC (x:=zM) rfl,aa] at start;have hz:=s2.bad rfl;refine ⟨z,false,?_,s2⟩;rw[hz,ag (by decide)];exact nC start rfl
 | true=>
  rw[gk,fF,bC (x:=z) rfl,aa,eO (x:=zM) rfl,aa] at start;simp only[bk,bH] at start;rw[bC (x:=z) rfl,aa] at start;exact ⟨z,true,by rw[aj rfl];exact nC start s2.fr,s2⟩
theorem qkl(a b:Nat):jl (ql a b)=true:=by
 unfold ql
 split
 .exact Cm Cl
 .exact Cm Cn
theorem qkk(a b:Nat):(ql a b).q=p8 a b:=by
 unfold ql p8
 split
 .exact Cl.q
 .exact Cn.q
theorem Xf{n:Nat}{y:MV}(h:y.lv.es=n4 ql n n):y.lv.es.length=n*n/\(∀u∈y.lv.es,jl u=true)/\∀i k,i<n->k<n->gY y (i*n+k)=p8 i k:=by
 refine ⟨by rw[h,vR],fun u hu=>?_,fun i k hi hk=>?_⟩
 .rw[h] at hu;obtain ⟨a,b,_,_,rfl⟩:=z9 hu;exact qkl a b
 .have e:=KG ql n n (i*n+k) (kB hi hk);obtain ⟨e1,e2⟩:=AZ (i:=i) hk;unfold gY;rw[bA,o0,h,e,e1,e2];exact qkk i k
structure InvR (x:MV) (n K:Nat) (z:MV) (ok:Bool):Prop where
 rank:ok=decide (gG (mT n n (eW x n)) n=n)
 fr:z.fr=z
 lok:LOk K z.lv
 bad:ok=false->z=zM
 rows:ok=true->z.rows=n
 cols:ok=true->z.cols=n
 len:ok=true->z.lv.es.length=n*n
 right:∀u∈z.lv.es,jl u=true
 inv:ok=true->∀i k,i<n->k<n->yJ n (eW x n) (eW z n) i k=p8 i k
theorem qcv{x:MV}{k n:Nat}(hx:IsM k x)(ff:aP x=true)(aD:x.rows=n)(az:x.cols=n)(qy:n+n<=60)(bu:1<=k)(hk:k<2^36)(hK:kk k (n+n)<2^36) :
  ∃z ok,AP ab 54 [x.av]=some (.tup [z.av,.int .i64 (if ok=true then 0 else 31)])/\InvR x n (kk k (n+n)+kk k (n+n)) z ok:=by
 have e20:=vK hx.ok (by omega) (by have:=hx.len;omega);have gx:∀e:ae,(cM x::e)[0]?=some (cM x):=fun _=>rfl;obtain ⟨y,f1,f2,f3,f4,f5,f6⟩:=Ko (K4 n n) (by omega) (by omega);obtain ⟨u1,u2,u3⟩:=Xf f4;have iy:IsM k y:=⟨f5.mono bu,f6,by have:n*n<=60*60:=il (by omega) (by omega);omega⟩;obtain ⟨z,ok,s1,s2⟩:=QU hx iy ff (Nx f2 f3 (by omega) (by omega) u1 u2) aD az f2 f3 qy bu hk hK;have start:AC ab 54 [x.av] []=AC ab 54 [x.av] []:=rfl
 conv at start=>rhs;rw[Qu,im,aa]
 simp only[iG,bc,aX,aZ,aR,bm,aL,Nat.reduceAdd] at start;rw[bC (gx _),aa,lS,hx.fr,e20,ar,aa,bB,aa,ff,gk,fF,bC (gx _),aa,bj,aa,gh (gx _),aa,aa,gh (gx _),aa,aD,yV (eK _ _) (eK _ _) (Le 62),f1,ar,aa,HJ,hx.fr,f6,s1,ar,aa,pO,aa,pP,aa,eO (x:=zM) rfl,aa] at start;simp only[bk,bH] at start;rw[bC (x:=z) rfl,aa] at start;refine ⟨z,ok,nC start s2.fr,s2.rank,s2.fr,s2.lok,s2.bad,s2.rows,s2.cols,s2.len,s2.right,fun h i q hi hq=>?_⟩;have h2:=s2.sol h i q hi hq
 have e:lE x y n n i (n+q)=p8 i q:=by
  unfold lE;rw[ag (by omega),show n+q-n=q by omega];exact u3 i q hi hq
 rw[e] at h2;rw[<- h2];exact lh fun j hj=>by unfold lE eW;rw[aj hj]
end Go.Ab
namespace Go.Ab
open Go.Proofs.Try
theorem qh8{n:Nat}(hn:n<=60):∃y:MV,AP ab 63 [.int .i64 n]=some y.av/\IsM 3 y/\aP y=true/\y.rows=n/\y.cols=n/\∀i q,i<n->q<n->gY y (i*n+q)=p8 i q:=by
 obtain ⟨y,h1,h2,h3,h4,h5,h6⟩:=V63 hn;have hl:y.lv.es.length=n*n:=by rw[h4,AN]
 have hnn:n*n<=60*60:=il hn hn
 refine ⟨y,h1,⟨h5.mono (by omega),h6,by omega⟩,Nx h2 h3 hn hn hl fun t ht=>?_,h2,h3,fun i q hi hq=>?_⟩
 .rw[h4] at ht
  rcases HA n n t ht with rfl|rfl
  .exact Cm z8
  .exact Cm Ck
 .have e:=Vb n n (i*n+q) (aW n) (kB hi hq);obtain ⟨e1,e2⟩:=AZ (i:=i) hq;rw[e1,e2] at e;unfold gY p8;rw[bA,o0,h4,e]
  by_cases h:i=q
  .rw[aj ⟨h,hi⟩,aj h];exact Ck.q
  .rw[ag (fun hh=>h hh.1),ag h];exact z8.q
section
variable {x:MV} {n:Nat}
def vc(x:MV):Int:=if aP x=true then (if x.rows=x.cols then 0 else 30) else 1
theorem qcw(hx:IsM 3 x)(he:vc x≠0):AP ab 55 [x.av]=some (.tup [zM.av,.int .i64 (vc x)]):=by
 have e21:=qs hx.ok (k:=3) (by omega) (by have:=hx.len;omega);have start:AC ab 55 [x.av] []=AC ab 55 [x.av] []:=rfl
 conv at start=>rhs;rw[Qv,im,aa]
 simp only[iG,bc,aX,aZ,aR,bm,aL,Nat.reduceAdd] at start;rw[bC (x:=x) rfl,aa,lS,hx.fr,e21,ar,aa,bB,aa] at start;unfold vc at he ⊢
 cases ff:aP x with
 | false=>
  rw[ff,mZ,jj,pb,aa,eO (x:=zM) rfl,aa,bC (x:=zM) rfl,aa] at start;rw[ag (by decide)];exact nC start rfl
 | true=>
  rw[ff,aj rfl] at he;rw[aj rfl];rw[ff,gk,fF,bj,aa,gh (x:=x) rfl,aa,ba,aa,fh (x:=x) rfl,aa,iL,aa,aw] at start
  by_cases h1:x.rows=x.cols
  .exact absurd (aj h1) he
  .rw[aj h1,pb,aa,eO (x:=zM) rfl,aa,bC (x:=zM) rfl,aa] at start;rw[ag h1];exact nC start rfl
theorem qcu(hx:IsM 3 x)(he:vc x≠0):AP ab 54 [x.av]=some (.tup [zM.av,.int .i64 (vc x)]):=by
 have e20:=vK hx.ok (k:=3) (by omega) (by have:=hx.len;omega);have start:AC ab 54 [x.av] []=AC ab 54 [x.av] []:=rfl
 conv at start=>rhs;rw[Qu,im,aa]
 simp only[iG,bc,aX,aZ,aR,bm,aL,Nat.reduceAdd] at start;rw[bC (x:=x) rfl,aa,lS,hx.fr,e20,ar,aa,bB,aa] at start;unfold vc at he ⊢
 cases ff:aP x with
 | false=>
  rw[ff,mZ,jj,pb,aa,eO (x:=zM) rfl,aa,bC (x:=zM) rfl,aa] at start;rw[ag (by decide)];exact nC start rfl
 | true=>
  rw[ff,aj rfl] at he;rw[aj rfl];have h1:x.rows≠x.cols:=fun h=>he (aj h);obtain ⟨r,c,hr,hc,aI,c60,hl⟩:=qg ff;obtain ⟨y,f1,f2,f3,f4,f5,f6⟩:=Ko (K4 r r) aI aI;obtain ⟨u1,u2,u3⟩:=Xf f4;have iy:IsM 3 y:=⟨f5.mono (by omega),f6,by have:r*r<=60*60:=il aI aI;omega⟩;have gJ:=Nx f2 f3 aI aI u1 u2;have hs:sX x y=30:=by unfold sX;rw[aj ⟨ff,gJ⟩,ag (fun h=>h1 h.1)]
  have e52:=QT hx iy (by omega) (by omega) (by rw[hs];decide);rw[hs] at e52;rw[ff,gk,fF,bC (x:=x) rfl,aa,bj,aa,gh (x:=x) rfl,aa,aa,gh (x:=x) rfl,aa,hr,yV (eK _ _) (eK _ _) (Le 62),f1,ar,aa,HJ,hx.fr,f6,e52,ar,aa,pO,aa,pP,aa,eO (x:=zM) rfl,aa] at start;simp only[bk,bH] at start;rw[bC (x:=zM) rfl,aa] at start;rw[ag h1];exact nC start rfl
structure InvQ (x:MV) (n K:Nat) (z:MV) (ok:Bool):Prop where
 rank:ok=decide (gG (mT n n (eW x n)) n=n)
 fr:z.fr=z
 lok:LOk K z.lv
 bad:ok=false->z=zM
 rows:ok=true->z.rows=n
 cols:ok=true->z.cols=n
 len:ok=true->z.lv.es.length=n*n
 inv:ok=true->∀X,(∀i k,i<n->k<n->yJ n (eW x n) X i k=p8 i k)->∀i q,i<n->q<n->X i q=gY z (i*n+q)
theorem qcx(hx:IsM 3 x)(ff:aP x=true)(aD:x.rows=n)(az:x.cols=n)(n6:n<=6):∃z ok,AP ab 55 [x.av]=some (.tup [z.av,.int .i64 (if ok=true then 0 else 31)])/\InvQ x n 13653 z ok:=by
 have e21:=qs hx.ok (k:=3) (by omega) (by have:=hx.len;omega);obtain ⟨y,y1,y2,y3,y4,y5,y6⟩:=qh8 (n:=n) (by omega);obtain ⟨z,ok,s1,Z⟩:=QV hx y2 ff y3 aD az y4 y5 n6 n6;have start:AC ab 55 [x.av] []=AC ab 55 [x.av] []:=rfl
 conv at start=>rhs;rw[Qv,im,aa]
 simp only[iG,bc,aX,aZ,aR,bm,aL,Nat.reduceAdd] at start;rw[bC (x:=x) rfl,aa,lS,hx.fr,e21,ar,aa,bB,aa,ff,gk,fF,bj,aa,gh (x:=x) rfl,aa,ba,aa,fh (x:=x) rfl,aa,iL,aa,aw,ag (by omega),bC (x:=x) rfl,aa,aa,gh (x:=x) rfl,aa,aD,dW (eK _ _),y1,ar,aa,HJ,hx.fr,y2.fr,s1,ar,aa,pO,aa,pP,aa,eO (x:=zM) rfl,aa] at start;simp only[bk,bH] at start;rw[bC (x:=z) rfl,aa] at start;refine ⟨z,ok,nC start Z.fr,Z.rank,Z.fr,Z.lok,Z.bad,Z.rows,Z.cols,Z.len,fun h X hX=>?_⟩;refine (Z.sol h X).1 fun i k hi hk=>?_;have h1:=hX i k hi hk
 have e1:lE x y n n i (n+k)=p8 i k:=by
  unfold lE;rw[ag (by omega),show n+k-n=k by omega];exact y6 i k hi hk
 rw[e1,<- h1];exact lh fun j hj=>by unfold lE eW;rw[aj hj]
end
end Go.Ab
namespace Go.Ab
open Go.Proofs.Try
theorem qbx(x0:AV)(m:ae)(K:KT):aq ab 49 (AP ab) (AC ab) (c1 (al f49)) ⟨[x0,.any,.any,.any,.any,.any,.any,.any,.any,.any,.any,.any,.any,.any,.any,.any,.any,.any,.any,.any,.any,.any,.any,.any,.any,.any,.any],m⟩ K =
 (ef none (some 3) m x0).bind fun r1=>
 K .normal ⟨[x0,r1.1,(.ptr (ak none r1.2 .resv).1 0),(.int .i64 0),.any,.any,.any,.any,.any,.any,.any,.any,.any,.any,.any,.any,.any,.any,.any,.any,.any,.any,.any,.any,.any,.any,.any],(ak none r1.2 (.obj true [(.bool false),(.lst none true .full []),(.lst none true .full [])])).2⟩:=by kernel_rfl
theorem Kd(x1 x2 x3:AV)(m:ae)(K:KT):aq ab 49 (AP ab) (AC ab) (c1 (c2 (al f49))) ⟨[.any,x1,x2,x3,.any,.any,.any,.any,.any,.any,.any,.any,.any,.any,.any,.any,.any,.any,.any,.any,.any,.any,.any,.any,.any,.any,.any],m⟩ K =
 (ai (some 3) m x1).bind fun v1=>
 (ao (AP ab) none m 21 [v1]).bind fun r2=>
 (iI .not r2.1).bind fun v3=>
 au v3 (
 (eI (.agg [(.bool false),(.lst none true .full []),(.lst none true .full [])]) []).bind fun v4=>
 (aA (some 3) r2.2 x2 v4).bind fun m5=>
 K .ret ⟨[.any,x1,x2,(.int .i64 1),.any,.any,v3,v1,r2.1,v3,v4,.any,.any,.any,.any,.any,.any,.any,.any,.any,.any,.any,.any,.any,.any,.any,.any],m5⟩) (
 (aB 0 x1).bind fun v6=>
 (ai none r2.2 v6).bind fun v7=>
 (aB 1 x1).bind fun v8=>
 (ai none r2.2 v8).bind fun v9=>
 (af .other .neq v7 v9).bind fun v10=>
 au v10 (
 (eI (.agg [(.bool false),(.lst none true .full []),(.lst none true .full [])]) []).bind fun v11=>
 (aA (some 3) r2.2 x2 v11).bind fun m12=>
 K .ret ⟨[.any,x1,x2,(.int .i64 30),.any,.any,v3,v1,r2.1,v3,.any,v10,v6,v7,v8,v9,v10,v11,.any,.any,.any,.any,.any,.any,.any,.any,.any],m12⟩) (
 K .normal ⟨[.any,x1,x2,x3,.any,.any,v3,v1,r2.1,v3,.any,v10,v6,v7,v8,v9,v10,.any,.any,.any,.any,.any,.any,.any,.any,.any,.any],r2.2⟩)):=by kernel_rfl
theorem qby(x2 x5:AV)(m:ae)(K:KT):aq ab 49 (AP ab) (AC ab) (c2 (c2 (c2 (al f49)))) ⟨[.any,.any,x2,.any,.any,x5,.any,.any,.any,.any,.any,.any,.any,.any,.any,.any,.any,.any,.any,.any,.any,.any,.any,.any,.any,.any,.any],m⟩ K =
 (ai (some 3) m x5).bind fun v1=>
 (aA (some 3) m x2 v1).bind fun m2=>
 K .ret ⟨[.any,.any,x2,(.int .i64 0),.any,x5,.any,.any,.any,.any,.any,.any,.any,.any,.any,.any,.any,.any,.any,.any,.any,.any,.any,.any,.any,.any,v1],m2⟩:=by kernel_rfl
def JT(x6:AV)(m:ae):St:=⟨[.any,.any,.any,.any,.any,.any,x6,.any,.any,.any,.any,.any,.any,.any,.any,.any,.any,.any,.any,.any,.any,.any,.any,.any,.any,.any,.any,.any,.any,.any,.any,.any],m⟩
noncomputable def BP(x6 Bo jn gF:AV)(m:ae)(K:KT):OM:=bP (aq ab 51 (AP ab) (AC ab) (c1 (c1 (c2 (c1 (c2 (c2 (c2 (c2 (al f51)))))))))) (ab.mask 51 (some 6)) ⟨[.any,.any,.any,.any,.any,.any,x6,.any,.any,.any,.any,.any,.any,.any,.any,.any,.any,.any,.any,.any,Bo,jn,gF,.any,.any,.any,.any,.any,.any,.any,.any,.any],m⟩ K
noncomputable abbrev ZJ(K:KT):KT:=dQ (fun st=>aq ab 51 (AP ab) (AC ab) (c2 (c2 (c2 (c2 (c2 (al f51)))))) st K) K
noncomputable abbrev ZK(K:KT):KT:=dK 0 (ZJ K)
noncomputable abbrev Jc(K:KT):KT:=(ZK K)
theorem qbz(x0:AV)(m:ae)(K:KT):aq ab 51 (AP ab) (AC ab) (c1 (al f51)) ⟨[x0,.any,.any,.any,.any,.any,.any,.any,.any,.any,.any,.any,.any,.any,.any,.any,.any,.any,.any,.any,.any,.any,.any,.any,.any,.any,.any,.any,.any,.any,.any,.any],m⟩ K =
 (ef none (some 3) m x0).bind fun r1=>
 K .normal ⟨[x0,r1.1,(.int .i64 0),(.int .i64 0),.any,.any,.any,.any,.any,.any,.any,.any,.any,.any,.any,.any,.any,.any,.any,.any,.any,.any,.any,.any,.any,.any,.any,.any,.any,.any,.any,.any],r1.2⟩:=by kernel_rfl
theorem Qi(x1 x2 x3:AV)(m:ae)(K:KT):aq ab 51 (AP ab) (AC ab) (c1 (c2 (al f51))) ⟨[.any,x1,x2,x3,.any,.any,.any,.any,.any,.any,.any,.any,.any,.any,.any,.any,.any,.any,.any,.any,.any,.any,.any,.any,.any,.any,.any,.any,.any,.any,.any,.any],m⟩ K =
 (ai (some 3) m x1).bind fun v1=>
 (ao (AP ab) none m 21 [v1]).bind fun r2=>
 (iI .not r2.1).bind fun v3=>
 au v3 (
 K .ret ⟨[.any,x1,(.int .i64 0),(.int .i64 1),.any,.any,.any,.any,.any,v1,r2.1,v3,.any,.any,.any,.any,.any,.any,.any,.any,.any,.any,.any,.any,.any,.any,.any,.any,.any,.any,.any,.any],r2.2⟩) (
 K .normal ⟨[.any,x1,x2,x3,.any,.any,.any,.any,.any,v1,r2.1,v3,.any,.any,.any,.any,.any,.any,.any,.any,.any,.any,.any,.any,.any,.any,.any,.any,.any,.any,.any,.any],r2.2⟩):=by kernel_rfl
theorem qbA(x4:AV)(m:ae)(K:KT):aq ab 51 (AP ab) (AC ab) (c2 (c2 (c2 (al f51)))) ⟨[.any,.any,.any,.any,x4,.any,.any,.any,.any,.any,.any,.any,.any,.any,.any,.any,.any,.any,.any,.any,.any,.any,.any,.any,.any,.any,.any,.any,.any,.any,.any,.any],m⟩ K =
 (aY false x4).bind fun v1=>
 BP (.int .i64 0) x4 v1 (.int .i64 0) m (Jc K):=by kernel_rfl
theorem PT(x6 Bo jn gF:AV)(m:ae)(K:KT):BP x6 Bo jn gF m K =
 (af .other .lss gF jn).bind fun v1=>
 au v1 (
 (aJ none Bo gF).bind fun v2=>
 (ai none m v2).bind fun v3=>
 (af .other .geq v3 (.int .i64 0)).bind fun v4=>
 au v4 (
 (af .other .add x6 (.int .i64 1)).bind fun v5=>
 (af .other .add gF (.int .i64 1)).bind fun v6=>
 BP v5 Bo jn v6 m K) (
 (af .other .add gF (.int .i64 1)).bind fun v7=>
 BP x6 Bo jn v7 m K)) (
 K (.exit 0) (JT x6 m)):=
(eu (ed _) _ _ _).trans (by kernel_rfl)
theorem ZL(x6:AV)(m:ae)(K:KT):Jc K (.exit 0) (JT x6 m) =
 K .ret ⟨[.any,.any,x6,(.int .i64 0),.any,.any,x6,.any,.any,.any,.any,.any,.any,.any,.any,.any,.any,.any,.any,.any,.any,.any,.any,.any,.any,.any,.any,.any,.any,.any,.any,x6],m⟩:=by kernel_rfl
end Go.Ab
namespace Go.Ab
open Go.Proofs.Try Go.RowKit
structure ExpP (x:MV) (R:RV):Prop where
 xfr:x.fr=x
 fr:R.fr=R
 call:kr prog 48 [x.av] [] R.av []
 ok:∀n:Nat,x.rows=n->x.cols=n->Can R (det n (eW x n))
end Go.Ab
namespace Go.Ab
open Go.Proofs.Try Go.RowKit
noncomputable def dk:Array Oper:=fQ (c1 (c2 (c2 (al f49))))
theorem GN:prog.funcs[49]?=some f49:=by kernel_rfl
theorem GM:f49.body=some (al f49):=by kernel_rfl
theorem MS:f49.ntmps=27:=by kernel_rfl
theorem KS:al f49=.seq (c1 (al f49)) (.seq (c1 (c2 (al f49))) (.seq (.region 5 dk true) (c2 (c2 (c2 (al f49)))))):=by kernel_rfl
theorem qjR:dk.size=11:=by kernel_rfl
theorem xI:jq ab 49 (c1 (al f49))=true/\jq ab 49 (c1 (c2 (al f49)))=true/\jq ab 49 (c2 (c2 (c2 (al f49))))=true:=⟨by kernel_rfl,by kernel_rfl,by kernel_rfl⟩
section
variable (t0 t1 t2 t3 t4 t5 t6 t7 t8 t9 t10 t11 t12 t13 t14 t15 t16 t17 t18 t19 t20 t21 t22 t23 t24 t25 t26:AV) (m:ae)
theorem A2:bK ab 49 (AP ab) (AC ab) none dk 0 ⟨[t0,t1,t2,t3,t4,t5,t6,t7,t8,t9,t10,t11,t12,t13,t14,t15,t16,t17,t18,t19,t20,t21,t22,t23,t24,t25,t26],m⟩=(ai (some 3) m t1).bind fun v=>some ⟨[t0,t1,t2,t3,t4,t5,t6,t7,t8,t9,t10,t11,t12,t13,t14,t15,t16,t17,t18,v,t20,t21,t22,t23,t24,t25,t26],m⟩:=by
 have e:bK ab 49 (AP ab) (AC ab) none dk 0 ⟨[t0,t1,t2,t3,t4,t5,t6,t7,t8,t9,t10,t11,t12,t13,t14,t15,t16,t17,t18,t19,t20,t21,t22,t23,t24,t25,t26],m⟩=(((ai (some 3) m t1).bind fun v=>some (v,m)).map fun q=>(⟨ee [t0,t1,t2,t3,t4,t5,t6,t7,t8,t9,t10,t11,t12,t13,t14,t15,t16,t17,t18,t19,t20,t21,t22,t23,t24,t25,t26] (some 19) q.1,q.2⟩:St)):=by kernel_rfl
 rw[e];cases ai (some 3) m t1<;>rfl
theorem A3:bK ab 49 (AP ab) (AC ab) none dk 1 ⟨[t0,t1,t2,t3,t4,t5,t6,t7,t8,t9,t10,t11,t12,t13,t14,t15,t16,t17,t18,t19,t20,t21,t22,t23,t24,t25,t26],m⟩=(AC ab 85 [t19] m).bind fun r=>some ⟨[t0,t1,t2,t3,t4,t5,t6,t7,t8,t9,t10,t11,t12,t13,t14,t15,t16,t17,t18,t19,r.1,t21,t22,t23,t24,t25,t26],r.2⟩:=by
 have e:bK ab 49 (AP ab) (AC ab) none dk 1 ⟨[t0,t1,t2,t3,t4,t5,t6,t7,t8,t9,t10,t11,t12,t13,t14,t15,t16,t17,t18,t19,t20,t21,t22,t23,t24,t25,t26],m⟩=(((AC ab 85 [t19] m).bind fun r=>some (r.1,r.2)).map fun q=>(⟨ee [t0,t1,t2,t3,t4,t5,t6,t7,t8,t9,t10,t11,t12,t13,t14,t15,t16,t17,t18,t19,t20,t21,t22,t23,t24,t25,t26] (some 20) q.1,q.2⟩:St)):=by kernel_rfl
 rw[e];cases AC ab 85 [t19] m<;>rfl
theorem A4:bK ab 49 (AP ab) (AC ab) none dk 2 ⟨[t0,t1,t2,t3,t4,t5,t6,t7,t8,t9,t10,t11,t12,t13,t14,t15,t16,t17,t18,t19,t20,t21,t22,t23,t24,t25,t26],m⟩=(aB 1 t1).bind fun v=>some ⟨[t0,t1,t2,t3,t4,t5,t6,t7,t8,t9,t10,t11,t12,t13,t14,t15,t16,t17,t18,t19,t20,v,t22,t23,t24,t25,t26],m⟩:=by
 have e:bK ab 49 (AP ab) (AC ab) none dk 2 ⟨[t0,t1,t2,t3,t4,t5,t6,t7,t8,t9,t10,t11,t12,t13,t14,t15,t16,t17,t18,t19,t20,t21,t22,t23,t24,t25,t26],m⟩=(((aB 1 t1).bind fun v=>some (v,m)).map fun q=>(⟨ee [t0,t1,t2,t3,t4,t5,t6,t7,t8,t9,t10,t11,t12,t13,t14,t15,t16,t17,t18,t19,t20,t21,t22,t23,t24,t25,t26] (some 21) q.1,q.2⟩:St)):=by kernel_rfl
 rw[e];cases aB 1 t1<;>rfl
theorem A5:bK ab 49 (AP ab) (AC ab) none dk 3 ⟨[t0,t1,t2,t3,t4,t5,t6,t7,t8,t9,t10,t11,t12,t13,t14,t15,t16,t17,t18,t19,t20,t21,t22,t23,t24,t25,t26],m⟩=(ai none m t21).bind fun v=>some ⟨[t0,t1,t2,t3,t4,t5,t6,t7,t8,t9,t10,t11,t12,t13,t14,t15,t16,t17,t18,t19,t20,t21,v,t23,t24,t25,t26],m⟩:=by
 have e:bK ab 49 (AP ab) (AC ab) none dk 3 ⟨[t0,t1,t2,t3,t4,t5,t6,t7,t8,t9,t10,t11,t12,t13,t14,t15,t16,t17,t18,t19,t20,t21,t22,t23,t24,t25,t26],m⟩=(((ai none m t21).bind fun v=>some (v,m)).map fun q=>(⟨ee [t0,t1,t2,t3,t4,t5,t6,t7,t8,t9,t10,t11,t12,t13,t14,t15,t16,t17,t18,t19,t20,t21,t22,t23,t24,t25,t26] (some 22) q.1,q.2⟩:St)):=by kernel_rfl
 rw[e];cases ai none m t21<;>rfl
theorem V9:bK ab 49 (AP ab) (AC ab) none dk 4 ⟨[t0,t1,t2,t3,t4,t5,t6,t7,t8,t9,t10,t11,t12,t13,t14,t15,t16,t17,t18,t19,t20,t21,t22,t23,t24,t25,t26],m⟩=(AC ab 91 [t20,t22] m).bind fun r=>some ⟨[t0,t1,t2,t3,t4,t5,t6,t7,t8,t9,t10,t11,t12,t13,t14,t15,t16,t17,t18,t19,t20,t21,t22,r.1,t24,t25,t26],r.2⟩:=by
 have e:bK ab 49 (AP ab) (AC ab) none dk 4 ⟨[t0,t1,t2,t3,t4,t5,t6,t7,t8,t9,t10,t11,t12,t13,t14,t15,t16,t17,t18,t19,t20,t21,t22,t23,t24,t25,t26],m⟩=(((AC ab 91 [t20,t22] m).bind fun r=>some (r.1,r.2)).map fun q=>(⟨ee [t0,t1,t2,t3,t4,t5,t6,t7,t8,t9,t10,t11,t12,t13,t14,t15,t16,t17,t18,t19,t20,t21,t22,t23,t24,t25,t26] (some 23) q.1,q.2⟩:St)):=by kernel_rfl
 rw[e];cases AC ab 91 [t20,t22] m<;>rfl
theorem Wa:bK ab 49 (AP ab) (AC ab) none dk 5 ⟨[t0,t1,t2,t3,t4,t5,t6,t7,t8,t9,t10,t11,t12,t13,t14,t15,t16,t17,t18,t19,t20,t21,t22,t23,t24,t25,t26],m⟩=some ⟨[t0,t1,t2,t3,t4,t5,t6,t7,t8,t9,t10,t11,t12,t13,t14,t15,t16,t17,t23,t19,t20,t21,t22,t23,t24,t25,t26],m⟩:=by kernel_rfl
theorem H3:bK ab 49 (AP ab) (AC ab) none dk 6 ⟨[t0,t1,t2,t3,t4,t5,t6,t7,t8,t9,t10,t11,t12,t13,t14,t15,t16,t17,t18,t19,t20,t21,t22,t23,t24,t25,t26],m⟩=(bg t18 0).bind fun v=>some ⟨[t0,t1,t2,t3,t4,t5,t6,t7,t8,t9,t10,t11,t12,t13,t14,t15,t16,t17,t18,t19,t20,t21,t22,t23,v,t25,t26],m⟩:=by
 have e:bK ab 49 (AP ab) (AC ab) none dk 6 ⟨[t0,t1,t2,t3,t4,t5,t6,t7,t8,t9,t10,t11,t12,t13,t14,t15,t16,t17,t18,t19,t20,t21,t22,t23,t24,t25,t26],m⟩=(((bg t18 0).bind fun v=>some (v,m)).map fun q=>(⟨ee [t0,t1,t2,t3,t4,t5,t6,t7,t8,t9,t10,t11,t12,t13,t14,t15,t16,t17,t18,t19,t20,t21,t22,t23,t24,t25,t26] (some 24) q.1,q.2⟩:St)):=by kernel_rfl
 rw[e];cases bg t18 0<;>rfl
theorem DS:bK ab 49 (AP ab) (AC ab) none dk 7 ⟨[t0,t1,t2,t3,t4,t5,t6,t7,t8,t9,t10,t11,t12,t13,t14,t15,t16,t17,t18,t19,t20,t21,t22,t23,t24,t25,t26],m⟩=(bg t18 1).bind fun v=>some ⟨[t0,t1,t2,t3,t4,t5,t6,t7,t8,t9,t10,t11,t12,t13,t14,t15,t16,t17,t18,t19,t20,t21,t22,t23,t24,v,t26],m⟩:=by
 have e:bK ab 49 (AP ab) (AC ab) none dk 7 ⟨[t0,t1,t2,t3,t4,t5,t6,t7,t8,t9,t10,t11,t12,t13,t14,t15,t16,t17,t18,t19,t20,t21,t22,t23,t24,t25,t26],m⟩=(((bg t18 1).bind fun v=>some (v,m)).map fun q=>(⟨ee [t0,t1,t2,t3,t4,t5,t6,t7,t8,t9,t10,t11,t12,t13,t14,t15,t16,t17,t18,t19,t20,t21,t22,t23,t24,t25,t26] (some 25) q.1,q.2⟩:St)):=by kernel_rfl
 rw[e];cases bg t18 1<;>rfl
theorem qi:bK ab 49 (AP ab) (AC ab) none dk 8 ⟨[t0,t1,t2,t3,t4,t5,t6,t7,t8,t9,t10,t11,t12,t13,t14,t15,t16,t17,t18,t19,t20,t21,t22,t23,t24,t25,t26],m⟩=some ⟨[t0,t1,t2,t3,t4,(.ptr m.length 0),t6,t7,t8,t9,t10,t11,t12,t13,t14,t15,t16,t17,t18,t19,t20,t21,t22,t23,t24,t25,t26],m++[cR zR]⟩:=by kernel_rfl
theorem Wb:bK ab 49 (AP ab) (AC ab) none dk 9 ⟨[t0,t1,t2,t3,t4,t5,t6,t7,t8,t9,t10,t11,t12,t13,t14,t15,t16,t17,t18,t19,t20,t21,t22,t23,t24,t25,t26],m⟩=some ⟨[t0,t1,t2,t3,t24,t5,t6,t7,t8,t9,t10,t11,t12,t13,t14,t15,t16,t17,t18,t19,t20,t21,t22,t23,t24,t25,t26],m⟩:=by kernel_rfl
theorem qje:bK ab 49 (AP ab) (AC ab) none dk 10 ⟨[t0,t1,t2,t3,t4,t5,t6,t7,t8,t9,t10,t11,t12,t13,t14,t15,t16,t17,t18,t19,t20,t21,t22,t23,t24,t25,t26],m⟩=(aA (some 3) m t5 t25).bind fun m1=>some ⟨[t0,t1,t2,t3,t4,t5,t6,t7,t8,t9,t10,t11,t12,t13,t14,t15,t16,t17,t18,t19,t20,t21,t22,t23,t24,t25,t26],m1⟩:=by
 have e:bK ab 49 (AP ab) (AC ab) none dk 10 ⟨[t0,t1,t2,t3,t4,t5,t6,t7,t8,t9,t10,t11,t12,t13,t14,t15,t16,t17,t18,t19,t20,t21,t22,t23,t24,t25,t26],m⟩=(((aA (some 3) m t5 t25).bind fun m1=>some (AV.any,m1)).map fun q=>(⟨ee [t0,t1,t2,t3,t4,t5,t6,t7,t8,t9,t10,t11,t12,t13,t14,t15,t16,t17,t18,t19,t20,t21,t22,t23,t24,t25,t26] none q.1,q.2⟩:St)):=by kernel_rfl
 rw[e];cases aA (some 3) m t5 t25<;>rfl
end
section
variable {x:MV} {nr n:Nat} {t0 t2 t3:AV} {m00:ae}
def iJ(x:MV)(nr n:Nat)(t0 t2 t3:AV)(m00:ae)(st:St):Prop:=∃(m:ae) (q T L:Nat) (D:RV) (tk:Nat->Int),st=⟨[t0,(.ptr 0 0),t2,t3,(.arr T 0 n none),(.ptr q 0),.any,.any,.any,.any,.any,.any,.any,.any,.any,.any,.any,.any,(.tup [.arr T 0 n none,D.av]),x.av,(.arr L 0 nr none),(.ptr 0 1),(.int .i64 n),(.tup [.arr T 0 n none,D.av]),(.arr T 0 n none),D.av,.any],m⟩/\m[q]?=some (cR D)/\Res9 x nr n D tk/\m[T]?=some (aO (iN tk) n)/\(∀p,p<2->m[p]?=m00[p]?)
theorem OD(aF:m00[0]?=some (cM x))(hx:IsM 3 x)(hb:aP x=true)(aD:x.rows=nr)(az:x.cols=n)(n6:n<=6)(aI:nr<=60)(m:ae)(q:Nat)(L:Nat)(T:Nat)(D:RV)(tk:Nat->Int)(hl:2<=m.length)(hk:∀p,p<2->m[p]?=m00[p]?)(hq:m[q]?=some (cR zR)/\2<=q)(hd:Res9 x nr n D tk)(hT:m[T]?=some (aO (iN tk) n)/\2<=T/\T≠q):eh ab 49 dk (iJ x nr n t0 t2 t3 m00) 1 #[true,true,true,true,true,true,true,true,true,true,false] ⟨[t0,(.ptr 0 0),t2,t3,(.arr T 0 n none),(.ptr q 0),.any,.any,.any,.any,.any,.any,.any,.any,.any,.any,.any,.any,(.tup [.arr T 0 n none,D.av]),x.av,(.arr L 0 nr none),(.ptr 0 1),(.int .i64 n),(.tup [.arr T 0 n none,D.av]),(.arr T 0 n none),D.av,.any],m⟩:=by
 have aH:Region.ready .any dk #[true,true,true,true,true,true,true,true,true,true,false]=[10]:=by kernel_rfl
 refine ⟨fun h=>(by rw[aH] at h;cases h),fun i hi=>?_⟩;rw[aH] at hi;simp only[dI,et,or_false] at hi;subst hi;refine ⟨_,by rw[qje,iV hq.1,aa],?_⟩;have e:(#[true,true,true,true,true,true,true,true,true,true,false]:Array Bool).setIfInBounds 10 true = #[true,true,true,true,true,true,true,true,true,true,true]:=by decide
 rw[e]
 refine ⟨by kernel_rfl,m.set q (cR D),q,T,L,D,tk,rfl,jO (dX.1 hq.1).1,hd,?_,fun p hp=>?_⟩
 .rw[dM (fun e=>hT.2.2 e.symm)];exact hT.1
 .rw[dM (by have:=hq.2;omega)];exact hk p hp
theorem IP(aF:m00[0]?=some (cM x))(hx:IsM 3 x)(hb:aP x=true)(aD:x.rows=nr)(az:x.cols=n)(n6:n<=6)(aI:nr<=60)(m:ae)(q:Nat)(L:Nat)(T:Nat)(D:RV)(tk:Nat->Int)(hl:2<=m.length)(hk:∀p,p<2->m[p]?=m00[p]?)(hq:m[q]?=some (cR zR)/\2<=q)(hd:Res9 x nr n D tk)(hT:m[T]?=some (aO (iN tk) n)/\2<=T/\T≠q):eh ab 49 dk (iJ x nr n t0 t2 t3 m00) 2 #[true,true,true,true,true,true,true,true,true,false,false] ⟨[t0,(.ptr 0 0),t2,t3,.any,(.ptr q 0),.any,.any,.any,.any,.any,.any,.any,.any,.any,.any,.any,.any,(.tup [.arr T 0 n none,D.av]),x.av,(.arr L 0 nr none),(.ptr 0 1),(.int .i64 n),(.tup [.arr T 0 n none,D.av]),(.arr T 0 n none),D.av,.any],m⟩:=by
 have aH:Region.ready .any dk #[true,true,true,true,true,true,true,true,true,false,false]=[9]:=by kernel_rfl
 refine ⟨fun h=>(by rw[aH] at h;cases h),fun i hi=>?_⟩;rw[aH] at hi;simp only[dI,et,or_false] at hi;subst hi;refine ⟨_,by rw[Wb],?_⟩;have e:(#[true,true,true,true,true,true,true,true,true,false,false]:Array Bool).setIfInBounds 9 true = #[true,true,true,true,true,true,true,true,true,true,false]:=by decide
 rw[e];exact OD aF hx hb aD az n6 aI m q L T D tk hl hk hq hd hT
theorem XZ(aF:m00[0]?=some (cM x))(hx:IsM 3 x)(hb:aP x=true)(aD:x.rows=nr)(az:x.cols=n)(n6:n<=6)(aI:nr<=60)(m:ae)(q:Nat)(L:Nat)(T:Nat)(D:RV)(tk:Nat->Int)(hl:2<=m.length)(hk:∀p,p<2->m[p]?=m00[p]?)(hq:m[q]?=some (cR zR)/\2<=q)(hd:Res9 x nr n D tk)(hT:m[T]?=some (aO (iN tk) n)/\2<=T/\T≠q):eh ab 49 dk (iJ x nr n t0 t2 t3 m00) 2 #[true,true,true,true,true,true,true,false,true,true,false] ⟨[t0,(.ptr 0 0),t2,t3,(.arr T 0 n none),(.ptr q 0),.any,.any,.any,.any,.any,.any,.any,.any,.any,.any,.any,.any,(.tup [.arr T 0 n none,D.av]),x.av,(.arr L 0 nr none),(.ptr 0 1),(.int .i64 n),(.tup [.arr T 0 n none,D.av]),(.arr T 0 n none),.any,.any],m⟩:=by
 have aH:Region.ready .any dk #[true,true,true,true,true,true,true,false,true,true,false]=[7]:=by kernel_rfl
 refine ⟨fun h=>(by rw[aH] at h;cases h),fun i hi=>?_⟩;rw[aH] at hi;simp only[dI,et,or_false] at hi;subst hi;refine ⟨_,by rw[DS,ua,aa],?_⟩;have e:(#[true,true,true,true,true,true,true,false,true,true,false]:Array Bool).setIfInBounds 7 true = #[true,true,true,true,true,true,true,true,true,true,false]:=by decide
 rw[e];exact OD aF hx hb aD az n6 aI m q L T D tk hl hk hq hd hT
theorem OB(aF:m00[0]?=some (cM x))(hx:IsM 3 x)(hb:aP x=true)(aD:x.rows=nr)(az:x.cols=n)(n6:n<=6)(aI:nr<=60)(m:ae)(q:Nat)(L:Nat)(T:Nat)(D:RV)(tk:Nat->Int)(hl:2<=m.length)(hk:∀p,p<2->m[p]?=m00[p]?)(hq:m[q]?=some (cR zR)/\2<=q)(hd:Res9 x nr n D tk)(hT:m[T]?=some (aO (iN tk) n)/\2<=T/\T≠q):eh ab 49 dk (iJ x nr n t0 t2 t3 m00) 3 #[true,true,true,true,true,true,true,false,true,false,false] ⟨[t0,(.ptr 0 0),t2,t3,.any,(.ptr q 0),.any,.any,.any,.any,.any,.any,.any,.any,.any,.any,.any,.any,(.tup [.arr T 0 n none,D.av]),x.av,(.arr L 0 nr none),(.ptr 0 1),(.int .i64 n),(.tup [.arr T 0 n none,D.av]),(.arr T 0 n none),.any,.any],m⟩:=by
 have aH:Region.ready .any dk #[true,true,true,true,true,true,true,false,true,false,false]=[7,9]:=by kernel_rfl
 refine ⟨fun h=>(by rw[aH] at h;cases h),fun i hi=>?_⟩;rw[aH] at hi;simp only[dI,et,or_false] at hi
 rcases hi with rfl|rfl
 .refine ⟨_,by rw[DS,ua,aa],?_⟩;have e:(#[true,true,true,true,true,true,true,false,true,false,false]:Array Bool).setIfInBounds 7 true = #[true,true,true,true,true,true,true,true,true,false,false]:=by decide
  rw[e];exact IP aF hx hb aD az n6 aI m q L T D tk hl hk hq hd hT
 .refine ⟨_,by rw[Wb],?_⟩;have e:(#[true,true,true,true,true,true,true,false,true,false,false]:Array Bool).setIfInBounds 9 true = #[true,true,true,true,true,true,true,false,true,true,false]:=by decide
  rw[e];exact XZ aF hx hb aD az n6 aI m q L T D tk hl hk hq hd hT
theorem OA(aF:m00[0]?=some (cM x))(hx:IsM 3 x)(hb:aP x=true)(aD:x.rows=nr)(az:x.cols=n)(n6:n<=6)(aI:nr<=60)(m:ae)(q:Nat)(L:Nat)(T:Nat)(D:RV)(tk:Nat->Int)(hl:2<=m.length)(hk:∀p,p<2->m[p]?=m00[p]?)(hq:m[q]?=some (cR zR)/\2<=q)(hd:Res9 x nr n D tk)(hT:m[T]?=some (aO (iN tk) n)/\2<=T/\T≠q):eh ab 49 dk (iJ x nr n t0 t2 t3 m00) 3 #[true,true,true,true,true,true,false,true,true,false,false] ⟨[t0,(.ptr 0 0),t2,t3,.any,(.ptr q 0),.any,.any,.any,.any,.any,.any,.any,.any,.any,.any,.any,.any,(.tup [.arr T 0 n none,D.av]),x.av,(.arr L 0 nr none),(.ptr 0 1),(.int .i64 n),(.tup [.arr T 0 n none,D.av]),.any,D.av,.any],m⟩:=by
 have aH:Region.ready .any dk #[true,true,true,true,true,true,false,true,true,false,false]=[6]:=by kernel_rfl
 refine ⟨fun h=>(by rw[aH] at h;cases h),fun i hi=>?_⟩;rw[aH] at hi;simp only[dI,et,or_false] at hi;subst hi;refine ⟨_,by rw[H3,xc,aa],?_⟩;have e:(#[true,true,true,true,true,true,false,true,true,false,false]:Array Bool).setIfInBounds 6 true = #[true,true,true,true,true,true,true,true,true,false,false]:=by decide
 rw[e];exact IP aF hx hb aD az n6 aI m q L T D tk hl hk hq hd hT
theorem OC(aF:m00[0]?=some (cM x))(hx:IsM 3 x)(hb:aP x=true)(aD:x.rows=nr)(az:x.cols=n)(n6:n<=6)(aI:nr<=60)(m:ae)(L:Nat)(T:Nat)(D:RV)(tk:Nat->Int)(hl:2<=m.length)(hk:∀p,p<2->m[p]?=m00[p]?)(hd:Res9 x nr n D tk)(hT:m[T]?=some (aO (iN tk) n)/\2<=T):eh ab 49 dk (iJ x nr n t0 t2 t3 m00) 3 #[true,true,true,true,true,true,true,true,false,false,false] ⟨[t0,(.ptr 0 0),t2,t3,.any,.any,.any,.any,.any,.any,.any,.any,.any,.any,.any,.any,.any,.any,(.tup [.arr T 0 n none,D.av]),x.av,(.arr L 0 nr none),(.ptr 0 1),(.int .i64 n),(.tup [.arr T 0 n none,D.av]),(.arr T 0 n none),D.av,.any],m⟩:=by
 have aH:Region.ready .any dk #[true,true,true,true,true,true,true,true,false,false,false]=[8]:=by kernel_rfl
 refine ⟨fun h=>(by rw[aH] at h;cases h),fun i hi=>?_⟩;rw[aH] at hi;simp only[dI,et,or_false] at hi;subst hi;refine ⟨_,qi ..,?_⟩;have e:(#[true,true,true,true,true,true,true,true,false,false,false]:Array Bool).setIfInBounds 8 true = #[true,true,true,true,true,true,true,true,true,false,false]:=by decide
 rw[e];exact IP aF hx hb aD az n6 aI (m++[cR zR]) m.length L T D tk (by rw[aK];omega) (fun p hp=>(er (by omega)).trans (hk p hp)) ⟨bX,hl⟩ hd ⟨fM hT.1,hT.2,by have:=(dX.1 hT.1).1;omega⟩
theorem Oz(aF:m00[0]?=some (cM x))(hx:IsM 3 x)(hb:aP x=true)(aD:x.rows=nr)(az:x.cols=n)(n6:n<=6)(aI:nr<=60)(m:ae)(q:Nat)(L:Nat)(T:Nat)(D:RV)(tk:Nat->Int)(hl:2<=m.length)(hk:∀p,p<2->m[p]?=m00[p]?)(hq:m[q]?=some (cR zR)/\2<=q)(hd:Res9 x nr n D tk)(hT:m[T]?=some (aO (iN tk) n)/\2<=T/\T≠q):eh ab 49 dk (iJ x nr n t0 t2 t3 m00) 4 #[true,true,true,true,true,true,false,false,true,false,false] ⟨[t0,(.ptr 0 0),t2,t3,.any,(.ptr q 0),.any,.any,.any,.any,.any,.any,.any,.any,.any,.any,.any,.any,(.tup [.arr T 0 n none,D.av]),x.av,(.arr L 0 nr none),(.ptr 0 1),(.int .i64 n),(.tup [.arr T 0 n none,D.av]),.any,.any,.any],m⟩:=by
 have aH:Region.ready .any dk #[true,true,true,true,true,true,false,false,true,false,false]=[6,7]:=by kernel_rfl
 refine ⟨fun h=>(by rw[aH] at h;cases h),fun i hi=>?_⟩;rw[aH] at hi;simp only[dI,et,or_false] at hi
 rcases hi with rfl|rfl
 .refine ⟨_,by rw[H3,xc,aa],?_⟩;have e:(#[true,true,true,true,true,true,false,false,true,false,false]:Array Bool).setIfInBounds 6 true = #[true,true,true,true,true,true,true,false,true,false,false]:=by decide
  rw[e];exact OB aF hx hb aD az n6 aI m q L T D tk hl hk hq hd hT
 .refine ⟨_,by rw[DS,ua,aa],?_⟩;have e:(#[true,true,true,true,true,true,false,false,true,false,false]:Array Bool).setIfInBounds 7 true = #[true,true,true,true,true,true,false,true,true,false,false]:=by decide
  rw[e];exact OA aF hx hb aD az n6 aI m q L T D tk hl hk hq hd hT
theorem XY(aF:m00[0]?=some (cM x))(hx:IsM 3 x)(hb:aP x=true)(aD:x.rows=nr)(az:x.cols=n)(n6:n<=6)(aI:nr<=60)(m:ae)(L:Nat)(T:Nat)(D:RV)(tk:Nat->Int)(hl:2<=m.length)(hk:∀p,p<2->m[p]?=m00[p]?)(hd:Res9 x nr n D tk)(hT:m[T]?=some (aO (iN tk) n)/\2<=T):eh ab 49 dk (iJ x nr n t0 t2 t3 m00) 4 #[true,true,true,true,true,true,true,false,false,false,false] ⟨[t0,(.ptr 0 0),t2,t3,.any,.any,.any,.any,.any,.any,.any,.any,.any,.any,.any,.any,.any,.any,(.tup [.arr T 0 n none,D.av]),x.av,(.arr L 0 nr none),(.ptr 0 1),(.int .i64 n),(.tup [.arr T 0 n none,D.av]),(.arr T 0 n none),.any,.any],m⟩:=by
 have aH:Region.ready .any dk #[true,true,true,true,true,true,true,false,false,false,false]=[7,8]:=by kernel_rfl
 refine ⟨fun h=>(by rw[aH] at h;cases h),fun i hi=>?_⟩;rw[aH] at hi;simp only[dI,et,or_false] at hi
 rcases hi with rfl|rfl
 .refine ⟨_,by rw[DS,ua,aa],?_⟩;have e:(#[true,true,true,true,true,true,true,false,false,false,false]:Array Bool).setIfInBounds 7 true = #[true,true,true,true,true,true,true,true,false,false,false]:=by decide
  rw[e];exact OC aF hx hb aD az n6 aI m L T D tk hl hk hd hT
 .refine ⟨_,qi ..,?_⟩;have e:(#[true,true,true,true,true,true,true,false,false,false,false]:Array Bool).setIfInBounds 8 true = #[true,true,true,true,true,true,true,false,true,false,false]:=by decide
  rw[e];exact OB aF hx hb aD az n6 aI (m++[cR zR]) m.length L T D tk (by rw[aK];omega) (fun p hp=>(er (by omega)).trans (hk p hp)) ⟨bX,hl⟩ hd ⟨fM hT.1,hT.2,by have:=(dX.1 hT.1).1;omega⟩
theorem XX(aF:m00[0]?=some (cM x))(hx:IsM 3 x)(hb:aP x=true)(aD:x.rows=nr)(az:x.cols=n)(n6:n<=6)(aI:nr<=60)(m:ae)(L:Nat)(T:Nat)(D:RV)(tk:Nat->Int)(hl:2<=m.length)(hk:∀p,p<2->m[p]?=m00[p]?)(hd:Res9 x nr n D tk)(hT:m[T]?=some (aO (iN tk) n)/\2<=T):eh ab 49 dk (iJ x nr n t0 t2 t3 m00) 4 #[true,true,true,true,true,true,false,true,false,false,false] ⟨[t0,(.ptr 0 0),t2,t3,.any,.any,.any,.any,.any,.any,.any,.any,.any,.any,.any,.any,.any,.any,(.tup [.arr T 0 n none,D.av]),x.av,(.arr L 0 nr none),(.ptr 0 1),(.int .i64 n),(.tup [.arr T 0 n none,D.av]),.any,D.av,.any],m⟩:=by
 have aH:Region.ready .any dk #[true,true,true,true,true,true,false,true,false,false,false]=[6,8]:=by kernel_rfl
 refine ⟨fun h=>(by rw[aH] at h;cases h),fun i hi=>?_⟩;rw[aH] at hi;simp only[dI,et,or_false] at hi
 rcases hi with rfl|rfl
 .refine ⟨_,by rw[H3,xc,aa],?_⟩;have e:(#[true,true,true,true,true,true,false,true,false,false,false]:Array Bool).setIfInBounds 6 true = #[true,true,true,true,true,true,true,true,false,false,false]:=by decide
  rw[e];exact OC aF hx hb aD az n6 aI m L T D tk hl hk hd hT
 .refine ⟨_,qi ..,?_⟩;have e:(#[true,true,true,true,true,true,false,true,false,false,false]:Array Bool).setIfInBounds 8 true = #[true,true,true,true,true,true,false,true,true,false,false]:=by decide
  rw[e];exact OA aF hx hb aD az n6 aI (m++[cR zR]) m.length L T D tk (by rw[aK];omega) (fun p hp=>(er (by omega)).trans (hk p hp)) ⟨bX,hl⟩ hd ⟨fM hT.1,hT.2,by have:=(dX.1 hT.1).1;omega⟩
theorem Oy(aF:m00[0]?=some (cM x))(hx:IsM 3 x)(hb:aP x=true)(aD:x.rows=nr)(az:x.cols=n)(n6:n<=6)(aI:nr<=60)(m:ae)(q:Nat)(L:Nat)(T:Nat)(D:RV)(tk:Nat->Int)(hl:2<=m.length)(hk:∀p,p<2->m[p]?=m00[p]?)(hq:m[q]?=some (cR zR)/\2<=q)(hd:Res9 x nr n D tk)(hT:m[T]?=some (aO (iN tk) n)/\2<=T/\T≠q):eh ab 49 dk (iJ x nr n t0 t2 t3 m00) 5 #[true,true,true,true,true,false,false,false,true,false,false] ⟨[t0,(.ptr 0 0),t2,t3,.any,(.ptr q 0),.any,.any,.any,.any,.any,.any,.any,.any,.any,.any,.any,.any,.any,x.av,(.arr L 0 nr none),(.ptr 0 1),(.int .i64 n),(.tup [.arr T 0 n none,D.av]),.any,.any,.any],m⟩:=by
 have aH:Region.ready .any dk #[true,true,true,true,true,false,false,false,true,false,false]=[5]:=by kernel_rfl
 refine ⟨fun h=>(by rw[aH] at h;cases h),fun i hi=>?_⟩;rw[aH] at hi;simp only[dI,et,or_false] at hi;subst hi;refine ⟨_,by rw[Wa],?_⟩;have e:(#[true,true,true,true,true,false,false,false,true,false,false]:Array Bool).setIfInBounds 5 true = #[true,true,true,true,true,true,false,false,true,false,false]:=by decide
 rw[e];exact Oz aF hx hb aD az n6 aI m q L T D tk hl hk hq hd hT
theorem XW(aF:m00[0]?=some (cM x))(hx:IsM 3 x)(hb:aP x=true)(aD:x.rows=nr)(az:x.cols=n)(n6:n<=6)(aI:nr<=60)(m:ae)(L:Nat)(T:Nat)(D:RV)(tk:Nat->Int)(hl:2<=m.length)(hk:∀p,p<2->m[p]?=m00[p]?)(hd:Res9 x nr n D tk)(hT:m[T]?=some (aO (iN tk) n)/\2<=T):eh ab 49 dk (iJ x nr n t0 t2 t3 m00) 5 #[true,true,true,true,true,true,false,false,false,false,false] ⟨[t0,(.ptr 0 0),t2,t3,.any,.any,.any,.any,.any,.any,.any,.any,.any,.any,.any,.any,.any,.any,(.tup [.arr T 0 n none,D.av]),x.av,(.arr L 0 nr none),(.ptr 0 1),(.int .i64 n),(.tup [.arr T 0 n none,D.av]),.any,.any,.any],m⟩:=by
 have aH:Region.ready .any dk #[true,true,true,true,true,true,false,false,false,false,false]=[6,7,8]:=by kernel_rfl
 refine ⟨fun h=>(by rw[aH] at h;cases h),fun i hi=>?_⟩;rw[aH] at hi;simp only[dI,et,or_false] at hi
 rcases hi with rfl|rfl|rfl
 .refine ⟨_,by rw[H3,xc,aa],?_⟩;have e:(#[true,true,true,true,true,true,false,false,false,false,false]:Array Bool).setIfInBounds 6 true = #[true,true,true,true,true,true,true,false,false,false,false]:=by decide
  rw[e];exact XY aF hx hb aD az n6 aI m L T D tk hl hk hd hT
 .refine ⟨_,by rw[DS,ua,aa],?_⟩;have e:(#[true,true,true,true,true,true,false,false,false,false,false]:Array Bool).setIfInBounds 7 true = #[true,true,true,true,true,true,false,true,false,false,false]:=by decide
  rw[e];exact XX aF hx hb aD az n6 aI m L T D tk hl hk hd hT
 .refine ⟨_,qi ..,?_⟩;have e:(#[true,true,true,true,true,true,false,false,false,false,false]:Array Bool).setIfInBounds 8 true = #[true,true,true,true,true,true,false,false,true,false,false]:=by decide
  rw[e];exact Oz aF hx hb aD az n6 aI (m++[cR zR]) m.length L T D tk (by rw[aK];omega) (fun p hp=>(er (by omega)).trans (hk p hp)) ⟨bX,hl⟩ hd ⟨fM hT.1,hT.2,by have:=(dX.1 hT.1).1;omega⟩
theorem XV(aF:m00[0]?=some (cM x))(hx:IsM 3 x)(hb:aP x=true)(aD:x.rows=nr)(az:x.cols=n)(n6:n<=6)(aI:nr<=60)(m:ae)(L:Nat)(T:Nat)(D:RV)(tk:Nat->Int)(hl:2<=m.length)(hk:∀p,p<2->m[p]?=m00[p]?)(hd:Res9 x nr n D tk)(hT:m[T]?=some (aO (iN tk) n)/\2<=T):eh ab 49 dk (iJ x nr n t0 t2 t3 m00) 6 #[true,true,true,true,true,false,false,false,false,false,false] ⟨[t0,(.ptr 0 0),t2,t3,.any,.any,.any,.any,.any,.any,.any,.any,.any,.any,.any,.any,.any,.any,.any,x.av,(.arr L 0 nr none),(.ptr 0 1),(.int .i64 n),(.tup [.arr T 0 n none,D.av]),.any,.any,.any],m⟩:=by
 have aH:Region.ready .any dk #[true,true,true,true,true,false,false,false,false,false,false]=[5,8]:=by kernel_rfl
 refine ⟨fun h=>(by rw[aH] at h;cases h),fun i hi=>?_⟩;rw[aH] at hi;simp only[dI,et,or_false] at hi
 rcases hi with rfl|rfl
 .refine ⟨_,by rw[Wa],?_⟩;have e:(#[true,true,true,true,true,false,false,false,false,false,false]:Array Bool).setIfInBounds 5 true = #[true,true,true,true,true,true,false,false,false,false,false]:=by decide
  rw[e];exact XW aF hx hb aD az n6 aI m L T D tk hl hk hd hT
 .refine ⟨_,qi ..,?_⟩;have e:(#[true,true,true,true,true,false,false,false,false,false,false]:Array Bool).setIfInBounds 8 true = #[true,true,true,true,true,false,false,false,true,false,false]:=by decide
  rw[e];exact Oy aF hx hb aD az n6 aI (m++[cR zR]) m.length L T D tk (by rw[aK];omega) (fun p hp=>(er (by omega)).trans (hk p hp)) ⟨bX,hl⟩ hd ⟨fM hT.1,hT.2,by have:=(dX.1 hT.1).1;omega⟩
theorem IN(aF:m00[0]?=some (cM x))(hx:IsM 3 x)(hb:aP x=true)(aD:x.rows=nr)(az:x.cols=n)(n6:n<=6)(aI:nr<=60)(m:ae)(q:Nat)(L:Nat)(hl:2<=m.length)(hk:∀p,p<2->m[p]?=m00[p]?)(hq:m[q]?=some (cR zR)/\2<=q)(hr:n3 x nr n m L (fun p=>2<=p/\p≠q)):eh ab 49 dk (iJ x nr n t0 t2 t3 m00) 6 #[true,true,true,true,false,false,false,false,true,false,false] ⟨[t0,(.ptr 0 0),t2,t3,.any,(.ptr q 0),.any,.any,.any,.any,.any,.any,.any,.any,.any,.any,.any,.any,.any,x.av,(.arr L 0 nr none),(.ptr 0 1),(.int .i64 n),.any,.any,.any,.any],m⟩:=by
 have aH:Region.ready .any dk #[true,true,true,true,false,false,false,false,true,false,false]=[4]:=by kernel_rfl
 refine ⟨fun h=>(by rw[aH] at h;cases h),fun i hi=>?_⟩;rw[aH] at hi;simp only[dI,et,or_false] at hi;subst hi;obtain ⟨m',T,D,tk,c1,c2,c3,c4,c5,c6⟩:=Ga n6 aI hr;refine ⟨_,by rw[V9,c1,aa],?_⟩;have e:(#[true,true,true,true,false,false,false,false,true,false,false]:Array Bool).setIfInBounds 4 true = #[true,true,true,true,true,false,false,false,true,false,false]:=by decide
 rw[e];exact Oy aF hx hb aD az n6 aI m' q L T D tk (by omega) (fun p hp=>(c6 p (by omega) (fun h=>by have:=h.1;omega)).trans (hk p hp)) ⟨(c6 _ (dX.1 hq.1).1 (fun h=>h.2 rfl)).trans hq.1,hq.2⟩ c2 ⟨c3,by omega,by have:=(dX.1 hq.1).1;omega⟩
theorem IM(aF:m00[0]?=some (cM x))(hx:IsM 3 x)(hb:aP x=true)(aD:x.rows=nr)(az:x.cols=n)(n6:n<=6)(aI:nr<=60)(m:ae)(q:Nat)(L:Nat)(hl:2<=m.length)(hk:∀p,p<2->m[p]?=m00[p]?)(hq:m[q]?=some (cR zR)/\2<=q)(hr:n3 x nr n m L (fun p=>2<=p/\p≠q)):eh ab 49 dk (iJ x nr n t0 t2 t3 m00) 7 #[true,true,true,false,false,false,false,false,true,false,false] ⟨[t0,(.ptr 0 0),t2,t3,.any,(.ptr q 0),.any,.any,.any,.any,.any,.any,.any,.any,.any,.any,.any,.any,.any,x.av,(.arr L 0 nr none),(.ptr 0 1),.any,.any,.any,.any,.any],m⟩:=by
 have aH:Region.ready .any dk #[true,true,true,false,false,false,false,false,true,false,false]=[3]:=by kernel_rfl
 refine ⟨fun h=>(by rw[aH] at h;cases h),fun i hi=>?_⟩;rw[aH] at hi;simp only[dI,et,or_false] at hi;subst hi;refine ⟨_,by rw[A5,fh ((hk 0 (by omega)).trans aF),aa,az],?_⟩;have e:(#[true,true,true,false,false,false,false,false,true,false,false]:Array Bool).setIfInBounds 3 true = #[true,true,true,true,false,false,false,false,true,false,false]:=by decide
 rw[e];exact IN aF hx hb aD az n6 aI m q L hl hk hq hr
theorem IL(aF:m00[0]?=some (cM x))(hx:IsM 3 x)(hb:aP x=true)(aD:x.rows=nr)(az:x.cols=n)(n6:n<=6)(aI:nr<=60)(m:ae)(q:Nat)(hl:2<=m.length)(hk:∀p,p<2->m[p]?=m00[p]?)(hq:m[q]?=some (cR zR)/\2<=q):eh ab 49 dk (iJ x nr n t0 t2 t3 m00) 7 #[true,false,true,true,false,false,false,false,true,false,false] ⟨[t0,(.ptr 0 0),t2,t3,.any,(.ptr q 0),.any,.any,.any,.any,.any,.any,.any,.any,.any,.any,.any,.any,.any,x.av,.any,(.ptr 0 1),(.int .i64 n),.any,.any,.any,.any],m⟩:=by
 have aH:Region.ready .any dk #[true,false,true,true,false,false,false,false,true,false,false]=[1]:=by kernel_rfl
 refine ⟨fun h=>(by rw[aH] at h;cases h),fun i hi=>?_⟩;rw[aH] at hi;simp only[dI,et,or_false] at hi;subst hi;obtain ⟨m',L',c1,c2,c3,c4⟩:=qT hx hb aD az m;refine ⟨_,by rw[A3,c1,aa],?_⟩;have e:(#[true,false,true,true,false,false,false,false,true,false,false]:Array Bool).setIfInBounds 1 true = #[true,true,true,true,false,false,false,false,true,false,false]:=by decide
 rw[e];exact IN aF hx hb aD az n6 aI m' q L' (by omega) (fun p hp=>(c3 p (by omega)).trans (hk p hp)) ⟨(c3 _ (dX.1 hq.1).1).trans hq.1,hq.2⟩ (c4.imp id fun ⟨S,R,es,a1,a2,a3⟩=>⟨S,R,es,a1,a2,fun p hp=>⟨(a3 p hp).1,by have:=(a3 p hp).2;have:=(dX.1 hq.1).1;omega⟩⟩)
theorem Ox(aF:m00[0]?=some (cM x))(hx:IsM 3 x)(hb:aP x=true)(aD:x.rows=nr)(az:x.cols=n)(n6:n<=6)(aI:nr<=60)(m:ae)(L:Nat)(hl:2<=m.length)(hk:∀p,p<2->m[p]?=m00[p]?)(hr:n3 x nr n m L (fun p=>2<=p)):eh ab 49 dk (iJ x nr n t0 t2 t3 m00) 7 #[true,true,true,true,false,false,false,false,false,false,false] ⟨[t0,(.ptr 0 0),t2,t3,.any,.any,.any,.any,.any,.any,.any,.any,.any,.any,.any,.any,.any,.any,.any,x.av,(.arr L 0 nr none),(.ptr 0 1),(.int .i64 n),.any,.any,.any,.any],m⟩:=by
 have aH:Region.ready .any dk #[true,true,true,true,false,false,false,false,false,false,false]=[4,8]:=by kernel_rfl
 refine ⟨fun h=>(by rw[aH] at h;cases h),fun i hi=>?_⟩;rw[aH] at hi;simp only[dI,et,or_false] at hi
 rcases hi with rfl|rfl
 .obtain ⟨m',T,D,tk,c1,c2,c3,c4,c5,c6⟩:=Ga n6 aI hr;refine ⟨_,by rw[V9,c1,aa],?_⟩;have e:(#[true,true,true,true,false,false,false,false,false,false,false]:Array Bool).setIfInBounds 4 true = #[true,true,true,true,true,false,false,false,false,false,false]:=by decide
  rw[e];exact XV aF hx hb aD az n6 aI m' L T D tk (by omega) (fun p hp=>(c6 p (by omega) (fun h=>by omega)).trans (hk p hp)) c2 ⟨c3,by omega⟩
 .refine ⟨_,qi ..,?_⟩;have e:(#[true,true,true,true,false,false,false,false,false,false,false]:Array Bool).setIfInBounds 8 true = #[true,true,true,true,false,false,false,false,true,false,false]:=by decide
  rw[e];exact IN aF hx hb aD az n6 aI (m++[cR zR]) m.length L (by rw[aK];omega) (fun p hp=>(er (by omega)).trans (hk p hp)) ⟨bX,hl⟩ (hr.app _ fun p h1 h2=>⟨h2,by omega⟩)
theorem Ov(aF:m00[0]?=some (cM x))(hx:IsM 3 x)(hb:aP x=true)(aD:x.rows=nr)(az:x.cols=n)(n6:n<=6)(aI:nr<=60)(m:ae)(q:Nat)(L:Nat)(hl:2<=m.length)(hk:∀p,p<2->m[p]?=m00[p]?)(hq:m[q]?=some (cR zR)/\2<=q)(hr:n3 x nr n m L (fun p=>2<=p/\p≠q)):eh ab 49 dk (iJ x nr n t0 t2 t3 m00) 8 #[true,true,false,false,false,false,false,false,true,false,false] ⟨[t0,(.ptr 0 0),t2,t3,.any,(.ptr q 0),.any,.any,.any,.any,.any,.any,.any,.any,.any,.any,.any,.any,.any,x.av,(.arr L 0 nr none),.any,.any,.any,.any,.any,.any],m⟩:=by
 have aH:Region.ready .any dk #[true,true,false,false,false,false,false,false,true,false,false]=[2]:=by kernel_rfl
 refine ⟨fun h=>(by rw[aH] at h;cases h),fun i hi=>?_⟩;rw[aH] at hi;simp only[dI,et,or_false] at hi;subst hi;refine ⟨_,by rw[A4,ba,aa],?_⟩;have e:(#[true,true,false,false,false,false,false,false,true,false,false]:Array Bool).setIfInBounds 2 true = #[true,true,true,false,false,false,false,false,true,false,false]:=by decide
 rw[e];exact IM aF hx hb aD az n6 aI m q L hl hk hq hr
theorem Ou(aF:m00[0]?=some (cM x))(hx:IsM 3 x)(hb:aP x=true)(aD:x.rows=nr)(az:x.cols=n)(n6:n<=6)(aI:nr<=60)(m:ae)(hl:2<=m.length)(hk:∀p,p<2->m[p]?=m00[p]?):eh ab 49 dk (iJ x nr n t0 t2 t3 m00) 8 #[true,false,true,true,false,false,false,false,false,false,false] ⟨[t0,(.ptr 0 0),t2,t3,.any,.any,.any,.any,.any,.any,.any,.any,.any,.any,.any,.any,.any,.any,.any,x.av,.any,(.ptr 0 1),(.int .i64 n),.any,.any,.any,.any],m⟩:=by
 have aH:Region.ready .any dk #[true,false,true,true,false,false,false,false,false,false,false]=[1,8]:=by kernel_rfl
 refine ⟨fun h=>(by rw[aH] at h;cases h),fun i hi=>?_⟩;rw[aH] at hi;simp only[dI,et,or_false] at hi
 rcases hi with rfl|rfl
 .obtain ⟨m',L',c1,c2,c3,c4⟩:=qT hx hb aD az m;refine ⟨_,by rw[A3,c1,aa],?_⟩;have e:(#[true,false,true,true,false,false,false,false,false,false,false]:Array Bool).setIfInBounds 1 true = #[true,true,true,true,false,false,false,false,false,false,false]:=by decide
  rw[e];exact Ox aF hx hb aD az n6 aI m' L' (by omega) (fun p hp=>(c3 p (by omega)).trans (hk p hp)) (c4.imp id fun ⟨S,R,es,a1,a2,a3⟩=>⟨S,R,es,a1,a2,fun p hp=>⟨(a3 p hp).1,by have:=(a3 p hp).2;omega⟩⟩)
 .refine ⟨_,qi ..,?_⟩;have e:(#[true,false,true,true,false,false,false,false,false,false,false]:Array Bool).setIfInBounds 8 true = #[true,false,true,true,false,false,false,false,true,false,false]:=by decide
  rw[e];exact IL aF hx hb aD az n6 aI (m++[cR zR]) m.length (by rw[aK];omega) (fun p hp=>(er (by omega)).trans (hk p hp)) ⟨bX,hl⟩
theorem Ow(aF:m00[0]?=some (cM x))(hx:IsM 3 x)(hb:aP x=true)(aD:x.rows=nr)(az:x.cols=n)(n6:n<=6)(aI:nr<=60)(m:ae)(L:Nat)(hl:2<=m.length)(hk:∀p,p<2->m[p]?=m00[p]?)(hr:n3 x nr n m L (fun p=>2<=p)):eh ab 49 dk (iJ x nr n t0 t2 t3 m00) 8 #[true,true,true,false,false,false,false,false,false,false,false] ⟨[t0,(.ptr 0 0),t2,t3,.any,.any,.any,.any,.any,.any,.any,.any,.any,.any,.any,.any,.any,.any,.any,x.av,(.arr L 0 nr none),(.ptr 0 1),.any,.any,.any,.any,.any],m⟩:=by
 have aH:Region.ready .any dk #[true,true,true,false,false,false,false,false,false,false,false]=[3,8]:=by kernel_rfl
 refine ⟨fun h=>(by rw[aH] at h;cases h),fun i hi=>?_⟩;rw[aH] at hi;simp only[dI,et,or_false] at hi
 rcases hi with rfl|rfl
 .refine ⟨_,by rw[A5,fh ((hk 0 (by omega)).trans aF),aa,az],?_⟩;have e:(#[true,true,true,false,false,false,false,false,false,false,false]:Array Bool).setIfInBounds 3 true = #[true,true,true,true,false,false,false,false,false,false,false]:=by decide
  rw[e];exact Ox aF hx hb aD az n6 aI m L hl hk hr
 .refine ⟨_,qi ..,?_⟩;have e:(#[true,true,true,false,false,false,false,false,false,false,false]:Array Bool).setIfInBounds 8 true = #[true,true,true,false,false,false,false,false,true,false,false]:=by decide
  rw[e];exact IM aF hx hb aD az n6 aI (m++[cR zR]) m.length L (by rw[aK];omega) (fun p hp=>(er (by omega)).trans (hk p hp)) ⟨bX,hl⟩ (hr.app _ fun p h1 h2=>⟨h2,by omega⟩)
theorem Oo(aF:m00[0]?=some (cM x))(hx:IsM 3 x)(hb:aP x=true)(aD:x.rows=nr)(az:x.cols=n)(n6:n<=6)(aI:nr<=60)(m:ae)(q:Nat)(hl:2<=m.length)(hk:∀p,p<2->m[p]?=m00[p]?)(hq:m[q]?=some (cR zR)/\2<=q):eh ab 49 dk (iJ x nr n t0 t2 t3 m00) 8 #[false,false,true,true,false,false,false,false,true,false,false] ⟨[t0,(.ptr 0 0),t2,t3,.any,(.ptr q 0),.any,.any,.any,.any,.any,.any,.any,.any,.any,.any,.any,.any,.any,.any,.any,(.ptr 0 1),(.int .i64 n),.any,.any,.any,.any],m⟩:=by
 have aH:Region.ready .any dk #[false,false,true,true,false,false,false,false,true,false,false]=[0]:=by kernel_rfl
 refine ⟨fun h=>(by rw[aH] at h;cases h),fun i hi=>?_⟩;rw[aH] at hi;simp only[dI,et,or_false] at hi;subst hi;refine ⟨_,by rw[A2,bC ((hk 0 (by omega)).trans aF),aa],?_⟩;have e:(#[false,false,true,true,false,false,false,false,true,false,false]:Array Bool).setIfInBounds 0 true = #[true,false,true,true,false,false,false,false,true,false,false]:=by decide
 rw[e];exact IL aF hx hb aD az n6 aI m q hl hk hq
theorem IK(aF:m00[0]?=some (cM x))(hx:IsM 3 x)(hb:aP x=true)(aD:x.rows=nr)(az:x.cols=n)(n6:n<=6)(aI:nr<=60)(m:ae)(q:Nat)(hl:2<=m.length)(hk:∀p,p<2->m[p]?=m00[p]?)(hq:m[q]?=some (cR zR)/\2<=q):eh ab 49 dk (iJ x nr n t0 t2 t3 m00) 8 #[true,false,true,false,false,false,false,false,true,false,false] ⟨[t0,(.ptr 0 0),t2,t3,.any,(.ptr q 0),.any,.any,.any,.any,.any,.any,.any,.any,.any,.any,.any,.any,.any,x.av,.any,(.ptr 0 1),.any,.any,.any,.any,.any],m⟩:=by
 have aH:Region.ready .any dk #[true,false,true,false,false,false,false,false,true,false,false]=[1,3]:=by kernel_rfl
 refine ⟨fun h=>(by rw[aH] at h;cases h),fun i hi=>?_⟩;rw[aH] at hi;simp only[dI,et,or_false] at hi
 rcases hi with rfl|rfl
 .obtain ⟨m',L',c1,c2,c3,c4⟩:=qT hx hb aD az m;refine ⟨_,by rw[A3,c1,aa],?_⟩;have e:(#[true,false,true,false,false,false,false,false,true,false,false]:Array Bool).setIfInBounds 1 true = #[true,true,true,false,false,false,false,false,true,false,false]:=by decide
  rw[e];exact IM aF hx hb aD az n6 aI m' q L' (by omega) (fun p hp=>(c3 p (by omega)).trans (hk p hp)) ⟨(c3 _ (dX.1 hq.1).1).trans hq.1,hq.2⟩ (c4.imp id fun ⟨S,R,es,a1,a2,a3⟩=>⟨S,R,es,a1,a2,fun p hp=>⟨(a3 p hp).1,by have:=(a3 p hp).2;have:=(dX.1 hq.1).1;omega⟩⟩)
 .refine ⟨_,by rw[A5,fh ((hk 0 (by omega)).trans aF),aa,az],?_⟩;have e:(#[true,false,true,false,false,false,false,false,true,false,false]:Array Bool).setIfInBounds 3 true = #[true,false,true,true,false,false,false,false,true,false,false]:=by decide
  rw[e];exact IL aF hx hb aD az n6 aI m q hl hk hq
theorem On(aF:m00[0]?=some (cM x))(hx:IsM 3 x)(hb:aP x=true)(aD:x.rows=nr)(az:x.cols=n)(n6:n<=6)(aI:nr<=60)(m:ae)(q:Nat)(hl:2<=m.length)(hk:∀p,p<2->m[p]?=m00[p]?)(hq:m[q]?=some (cR zR)/\2<=q):eh ab 49 dk (iJ x nr n t0 t2 t3 m00) 9 #[false,false,true,false,false,false,false,false,true,false,false] ⟨[t0,(.ptr 0 0),t2,t3,.any,(.ptr q 0),.any,.any,.any,.any,.any,.any,.any,.any,.any,.any,.any,.any,.any,.any,.any,(.ptr 0 1),.any,.any,.any,.any,.any],m⟩:=by
 have aH:Region.ready .any dk #[false,false,true,false,false,false,false,false,true,false,false]=[0,3]:=by kernel_rfl
 refine ⟨fun h=>(by rw[aH] at h;cases h),fun i hi=>?_⟩;rw[aH] at hi;simp only[dI,et,or_false] at hi
 rcases hi with rfl|rfl
 .refine ⟨_,by rw[A2,bC ((hk 0 (by omega)).trans aF),aa],?_⟩;have e:(#[false,false,true,false,false,false,false,false,true,false,false]:Array Bool).setIfInBounds 0 true = #[true,false,true,false,false,false,false,false,true,false,false]:=by decide
  rw[e];exact IK aF hx hb aD az n6 aI m q hl hk hq
 .refine ⟨_,by rw[A5,fh ((hk 0 (by omega)).trans aF),aa,az],?_⟩;have e:(#[false,false,true,false,false,false,false,false,true,false,false]:Array Bool).setIfInBounds 3 true = #[false,false,true,true,false,false,false,false,true,false,false]:=by decide
  rw[e];exact Oo aF hx hb aD az n6 aI m q hl hk hq
theorem XS(aF:m00[0]?=some (cM x))(hx:IsM 3 x)(hb:aP x=true)(aD:x.rows=nr)(az:x.cols=n)(n6:n<=6)(aI:nr<=60)(m:ae)(hl:2<=m.length)(hk:∀p,p<2->m[p]?=m00[p]?):eh ab 49 dk (iJ x nr n t0 t2 t3 m00) 9 #[false,false,true,true,false,false,false,false,false,false,false] ⟨[t0,(.ptr 0 0),t2,t3,.any,.any,.any,.any,.any,.any,.any,.any,.any,.any,.any,.any,.any,.any,.any,.any,.any,(.ptr 0 1),(.int .i64 n),.any,.any,.any,.any],m⟩:=by
 have aH:Region.ready .any dk #[false,false,true,true,false,false,false,false,false,false,false]=[0,8]:=by kernel_rfl
 refine ⟨fun h=>(by rw[aH] at h;cases h),fun i hi=>?_⟩;rw[aH] at hi;simp only[dI,et,or_false] at hi
 rcases hi with rfl|rfl
 .refine ⟨_,by rw[A2,bC ((hk 0 (by omega)).trans aF),aa],?_⟩;have e:(#[false,false,true,true,false,false,false,false,false,false,false]:Array Bool).setIfInBounds 0 true = #[true,false,true,true,false,false,false,false,false,false,false]:=by decide
  rw[e];exact Ou aF hx hb aD az n6 aI m hl hk
 .refine ⟨_,qi ..,?_⟩;have e:(#[false,false,true,true,false,false,false,false,false,false,false]:Array Bool).setIfInBounds 8 true = #[false,false,true,true,false,false,false,false,true,false,false]:=by decide
  rw[e];exact Oo aF hx hb aD az n6 aI (m++[cR zR]) m.length (by rw[aK];omega) (fun p hp=>(er (by omega)).trans (hk p hp)) ⟨bX,hl⟩
theorem Ot(aF:m00[0]?=some (cM x))(hx:IsM 3 x)(hb:aP x=true)(aD:x.rows=nr)(az:x.cols=n)(n6:n<=6)(aI:nr<=60)(m:ae)(hl:2<=m.length)(hk:∀p,p<2->m[p]?=m00[p]?):eh ab 49 dk (iJ x nr n t0 t2 t3 m00) 9 #[true,false,true,false,false,false,false,false,false,false,false] ⟨[t0,(.ptr 0 0),t2,t3,.any,.any,.any,.any,.any,.any,.any,.any,.any,.any,.any,.any,.any,.any,.any,x.av,.any,(.ptr 0 1),.any,.any,.any,.any,.any],m⟩:=by
 have aH:Region.ready .any dk #[true,false,true,false,false,false,false,false,false,false,false]=[1,3,8]:=by kernel_rfl
 refine ⟨fun h=>(by rw[aH] at h;cases h),fun i hi=>?_⟩;rw[aH] at hi;simp only[dI,et,or_false] at hi
 rcases hi with rfl|rfl|rfl
 .obtain ⟨m',L',c1,c2,c3,c4⟩:=qT hx hb aD az m;refine ⟨_,by rw[A3,c1,aa],?_⟩;have e:(#[true,false,true,false,false,false,false,false,false,false,false]:Array Bool).setIfInBounds 1 true = #[true,true,true,false,false,false,false,false,false,false,false]:=by decide
  rw[e];exact Ow aF hx hb aD az n6 aI m' L' (by omega) (fun p hp=>(c3 p (by omega)).trans (hk p hp)) (c4.imp id fun ⟨S,R,es,a1,a2,a3⟩=>⟨S,R,es,a1,a2,fun p hp=>⟨(a3 p hp).1,by have:=(a3 p hp).2;omega⟩⟩)
 .refine ⟨_,by rw[A5,fh ((hk 0 (by omega)).trans aF),aa,az],?_⟩;have e:(#[true,false,true,false,false,false,false,false,false,false,false]:Array Bool).setIfInBounds 3 true = #[true,false,true,true,false,false,false,false,false,false,false]:=by decide
  rw[e];exact Ou aF hx hb aD az n6 aI m hl hk
 .refine ⟨_,qi ..,?_⟩;have e:(#[true,false,true,false,false,false,false,false,false,false,false]:Array Bool).setIfInBounds 8 true = #[true,false,true,false,false,false,false,false,true,false,false]:=by decide
  rw[e];exact IK aF hx hb aD az n6 aI (m++[cR zR]) m.length (by rw[aK];omega) (fun p hp=>(er (by omega)).trans (hk p hp)) ⟨bX,hl⟩
theorem XU(aF:m00[0]?=some (cM x))(hx:IsM 3 x)(hb:aP x=true)(aD:x.rows=nr)(az:x.cols=n)(n6:n<=6)(aI:nr<=60)(m:ae)(L:Nat)(hl:2<=m.length)(hk:∀p,p<2->m[p]?=m00[p]?)(hr:n3 x nr n m L (fun p=>2<=p)):eh ab 49 dk (iJ x nr n t0 t2 t3 m00) 9 #[true,true,false,false,false,false,false,false,false,false,false] ⟨[t0,(.ptr 0 0),t2,t3,.any,.any,.any,.any,.any,.any,.any,.any,.any,.any,.any,.any,.any,.any,.any,x.av,(.arr L 0 nr none),.any,.any,.any,.any,.any,.any],m⟩:=by
 have aH:Region.ready .any dk #[true,true,false,false,false,false,false,false,false,false,false]=[2,8]:=by kernel_rfl
 refine ⟨fun h=>(by rw[aH] at h;cases h),fun i hi=>?_⟩;rw[aH] at hi;simp only[dI,et,or_false] at hi
 rcases hi with rfl|rfl
 .refine ⟨_,by rw[A4,ba,aa],?_⟩;have e:(#[true,true,false,false,false,false,false,false,false,false,false]:Array Bool).setIfInBounds 2 true = #[true,true,true,false,false,false,false,false,false,false,false]:=by decide
  rw[e];exact Ow aF hx hb aD az n6 aI m L hl hk hr
 .refine ⟨_,qi ..,?_⟩;have e:(#[true,true,false,false,false,false,false,false,false,false,false]:Array Bool).setIfInBounds 8 true = #[true,true,false,false,false,false,false,false,true,false,false]:=by decide
  rw[e];exact Ov aF hx hb aD az n6 aI (m++[cR zR]) m.length L (by rw[aK];omega) (fun p hp=>(er (by omega)).trans (hk p hp)) ⟨bX,hl⟩ (hr.app _ fun p h1 h2=>⟨h2,by omega⟩)
theorem Oq(aF:m00[0]?=some (cM x))(hx:IsM 3 x)(hb:aP x=true)(aD:x.rows=nr)(az:x.cols=n)(n6:n<=6)(aI:nr<=60)(m:ae)(q:Nat)(hl:2<=m.length)(hk:∀p,p<2->m[p]?=m00[p]?)(hq:m[q]?=some (cR zR)/\2<=q):eh ab 49 dk (iJ x nr n t0 t2 t3 m00) 9 #[true,false,false,false,false,false,false,false,true,false,false] ⟨[t0,(.ptr 0 0),t2,t3,.any,(.ptr q 0),.any,.any,.any,.any,.any,.any,.any,.any,.any,.any,.any,.any,.any,x.av,.any,.any,.any,.any,.any,.any,.any],m⟩:=by
 have aH:Region.ready .any dk #[true,false,false,false,false,false,false,false,true,false,false]=[1,2]:=by kernel_rfl
 refine ⟨fun h=>(by rw[aH] at h;cases h),fun i hi=>?_⟩;rw[aH] at hi;simp only[dI,et,or_false] at hi
 rcases hi with rfl|rfl
 .obtain ⟨m',L',c1,c2,c3,c4⟩:=qT hx hb aD az m;refine ⟨_,by rw[A3,c1,aa],?_⟩;have e:(#[true,false,false,false,false,false,false,false,true,false,false]:Array Bool).setIfInBounds 1 true = #[true,true,false,false,false,false,false,false,true,false,false]:=by decide
  rw[e];exact Ov aF hx hb aD az n6 aI m' q L' (by omega) (fun p hp=>(c3 p (by omega)).trans (hk p hp)) ⟨(c3 _ (dX.1 hq.1).1).trans hq.1,hq.2⟩ (c4.imp id fun ⟨S,R,es,a1,a2,a3⟩=>⟨S,R,es,a1,a2,fun p hp=>⟨(a3 p hp).1,by have:=(a3 p hp).2;have:=(dX.1 hq.1).1;omega⟩⟩)
 .refine ⟨_,by rw[A4,ba,aa],?_⟩;have e:(#[true,false,false,false,false,false,false,false,true,false,false]:Array Bool).setIfInBounds 2 true = #[true,false,true,false,false,false,false,false,true,false,false]:=by decide
  rw[e];exact IK aF hx hb aD az n6 aI m q hl hk hq
theorem XP(aF:m00[0]?=some (cM x))(hx:IsM 3 x)(hb:aP x=true)(aD:x.rows=nr)(az:x.cols=n)(n6:n<=6)(aI:nr<=60)(m:ae)(q:Nat)(hl:2<=m.length)(hk:∀p,p<2->m[p]?=m00[p]?)(hq:m[q]?=some (cR zR)/\2<=q):eh ab 49 dk (iJ x nr n t0 t2 t3 m00) 10 #[false,false,false,false,false,false,false,false,true,false,false] ⟨[t0,(.ptr 0 0),t2,t3,.any,(.ptr q 0),.any,.any,.any,.any,.any,.any,.any,.any,.any,.any,.any,.any,.any,.any,.any,.any,.any,.any,.any,.any,.any],m⟩:=by
 have aH:Region.ready .any dk #[false,false,false,false,false,false,false,false,true,false,false]=[0,2]:=by kernel_rfl
 refine ⟨fun h=>(by rw[aH] at h;cases h),fun i hi=>?_⟩;rw[aH] at hi;simp only[dI,et,or_false] at hi
 rcases hi with rfl|rfl
 .refine ⟨_,by rw[A2,bC ((hk 0 (by omega)).trans aF),aa],?_⟩;have e:(#[false,false,false,false,false,false,false,false,true,false,false]:Array Bool).setIfInBounds 0 true = #[true,false,false,false,false,false,false,false,true,false,false]:=by decide
  rw[e];exact Oq aF hx hb aD az n6 aI m q hl hk hq
 .refine ⟨_,by rw[A4,ba,aa],?_⟩;have e:(#[false,false,false,false,false,false,false,false,true,false,false]:Array Bool).setIfInBounds 2 true = #[false,false,true,false,false,false,false,false,true,false,false]:=by decide
  rw[e];exact On aF hx hb aD az n6 aI m q hl hk hq
theorem XQ(aF:m00[0]?=some (cM x))(hx:IsM 3 x)(hb:aP x=true)(aD:x.rows=nr)(az:x.cols=n)(n6:n<=6)(aI:nr<=60)(m:ae)(hl:2<=m.length)(hk:∀p,p<2->m[p]?=m00[p]?):eh ab 49 dk (iJ x nr n t0 t2 t3 m00) 10 #[false,false,true,false,false,false,false,false,false,false,false] ⟨[t0,(.ptr 0 0),t2,t3,.any,.any,.any,.any,.any,.any,.any,.any,.any,.any,.any,.any,.any,.any,.any,.any,.any,(.ptr 0 1),.any,.any,.any,.any,.any],m⟩:=by
 have aH:Region.ready .any dk #[false,false,true,false,false,false,false,false,false,false,false]=[0,3,8]:=by kernel_rfl
 refine ⟨fun h=>(by rw[aH] at h;cases h),fun i hi=>?_⟩;rw[aH] at hi;simp only[dI,et,or_false] at hi
 rcases hi with rfl|rfl|rfl
 .refine ⟨_,by rw[A2,bC ((hk 0 (by omega)).trans aF),aa],?_⟩;have e:(#[false,false,true,false,false,false,false,false,false,false,false]:Array Bool).setIfInBounds 0 true = #[true,false,true,false,false,false,false,false,false,false,false]:=by decide
  rw[e];exact Ot aF hx hb aD az n6 aI m hl hk
 .refine ⟨_,by rw[A5,fh ((hk 0 (by omega)).trans aF),aa,az],?_⟩;have e:(#[false,false,true,false,false,false,false,false,false,false,false]:Array Bool).setIfInBounds 3 true = #[false,false,true,true,false,false,false,false,false,false,false]:=by decide
  rw[e];exact XS aF hx hb aD az n6 aI m hl hk
 .refine ⟨_,qi ..,?_⟩;have e:(#[false,false,true,false,false,false,false,false,false,false,false]:Array Bool).setIfInBounds 8 true = #[false,false,true,false,false,false,false,false,true,false,false]:=by decide
  rw[e];exact On aF hx hb aD az n6 aI (m++[cR zR]) m.length (by rw[aK];omega) (fun p hp=>(er (by omega)).trans (hk p hp)) ⟨bX,hl⟩
theorem XT(aF:m00[0]?=some (cM x))(hx:IsM 3 x)(hb:aP x=true)(aD:x.rows=nr)(az:x.cols=n)(n6:n<=6)(aI:nr<=60)(m:ae)(hl:2<=m.length)(hk:∀p,p<2->m[p]?=m00[p]?):eh ab 49 dk (iJ x nr n t0 t2 t3 m00) 10 #[true,false,false,false,false,false,false,false,false,false,false] ⟨[t0,(.ptr 0 0),t2,t3,.any,.any,.any,.any,.any,.any,.any,.any,.any,.any,.any,.any,.any,.any,.any,x.av,.any,.any,.any,.any,.any,.any,.any],m⟩:=by
 have aH:Region.ready .any dk #[true,false,false,false,false,false,false,false,false,false,false]=[1,2,8]:=by kernel_rfl
 refine ⟨fun h=>(by rw[aH] at h;cases h),fun i hi=>?_⟩;rw[aH] at hi;simp only[dI,et,or_false] at hi
 rcases hi with rfl|rfl|rfl
 .obtain ⟨m',L',c1,c2,c3,c4⟩:=qT hx hb aD az m;refine ⟨_,by rw[A3,c1,aa],?_⟩;have e:(#[true,false,false,false,false,false,false,false,false,false,false]:Array Bool).setIfInBounds 1 true = #[true,true,false,false,false,false,false,false,false,false,false]:=by decide
  rw[e];exact XU aF hx hb aD az n6 aI m' L' (by omega) (fun p hp=>(c3 p (by omega)).trans (hk p hp)) (c4.imp id fun ⟨S,R,es,a1,a2,a3⟩=>⟨S,R,es,a1,a2,fun p hp=>⟨(a3 p hp).1,by have:=(a3 p hp).2;omega⟩⟩)
 .refine ⟨_,by rw[A4,ba,aa],?_⟩;have e:(#[true,false,false,false,false,false,false,false,false,false,false]:Array Bool).setIfInBounds 2 true = #[true,false,true,false,false,false,false,false,false,false,false]:=by decide
  rw[e];exact Ot aF hx hb aD az n6 aI m hl hk
 .refine ⟨_,qi ..,?_⟩;have e:(#[true,false,false,false,false,false,false,false,false,false,false]:Array Bool).setIfInBounds 8 true = #[true,false,false,false,false,false,false,false,true,false,false]:=by decide
  rw[e];exact Oq aF hx hb aD az n6 aI (m++[cR zR]) m.length (by rw[aK];omega) (fun p hp=>(er (by omega)).trans (hk p hp)) ⟨bX,hl⟩
theorem XO(aF:m00[0]?=some (cM x))(hx:IsM 3 x)(hb:aP x=true)(aD:x.rows=nr)(az:x.cols=n)(n6:n<=6)(aI:nr<=60)(m:ae)(hl:2<=m.length)(hk:∀p,p<2->m[p]?=m00[p]?):eh ab 49 dk (iJ x nr n t0 t2 t3 m00) 11 #[false,false,false,false,false,false,false,false,false,false,false] ⟨[t0,(.ptr 0 0),t2,t3,.any,.any,.any,.any,.any,.any,.any,.any,.any,.any,.any,.any,.any,.any,.any,.any,.any,.any,.any,.any,.any,.any,.any],m⟩:=by
 have aH:Region.ready .any dk #[false,false,false,false,false,false,false,false,false,false,false]=[0,2,8]:=by kernel_rfl
 refine ⟨fun h=>(by rw[aH] at h;cases h),fun i hi=>?_⟩;rw[aH] at hi;simp only[dI,et,or_false] at hi
 rcases hi with rfl|rfl|rfl
 .refine ⟨_,by rw[A2,bC ((hk 0 (by omega)).trans aF),aa],?_⟩;have e:(#[false,false,false,false,false,false,false,false,false,false,false]:Array Bool).setIfInBounds 0 true = #[true,false,false,false,false,false,false,false,false,false,false]:=by decide
  rw[e];exact XT aF hx hb aD az n6 aI m hl hk
 .refine ⟨_,by rw[A4,ba,aa],?_⟩;have e:(#[false,false,false,false,false,false,false,false,false,false,false]:Array Bool).setIfInBounds 2 true = #[false,false,true,false,false,false,false,false,false,false,false]:=by decide
  rw[e];exact XQ aF hx hb aD az n6 aI m hl hk
 .refine ⟨_,qi ..,?_⟩;have e:(#[false,false,false,false,false,false,false,false,false,false,false]:Array Bool).setIfInBounds 8 true = #[false,false,false,false,false,false,false,false,true,false,false]:=by decide
  rw[e];exact XP aF hx hb aD az n6 aI (m++[cR zR]) m.length (by rw[aK];omega) (fun p hp=>(er (by omega)).trans (hk p hp)) ⟨bX,hl⟩
end
end Go.Ab
