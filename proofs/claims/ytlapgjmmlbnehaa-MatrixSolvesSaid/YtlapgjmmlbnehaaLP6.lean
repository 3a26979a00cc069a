/- The reference's Det: the call, whole. -/
import Derived.Test.YtlapgjmmlbnehaaLP5
import Derived.Test.YtlapgjmmlbnehaaLP4
set_option maxRecDepth 100000
set_option linter.unusedVariables false
set_option linter.unusedSimpArgs false
set_option linter.unusedSectionVars false
namespace Go.Ab
open Go.Proofs.Try Go.RowKit
theorem RC:eI (.agg [(.bool false),(.lst none true .full []),(.lst none true .full [])]) []=some zR.av:=rfl
theorem Kh(x:MV)(K:KT):aq ab 49 (AP ab) (AC ab) (c1 (al f49)) ⟨[x.av,.any,.any,.any,.any,.any,.any,.any,.any,.any,.any,.any,.any,.any,.any,.any,.any,.any,.any,.any,.any,.any,.any,.any,.any,.any,.any],[]⟩ K=K .normal ⟨[x.av,(.ptr 0 0),(.ptr 1 0),(.int .i64 0),.any,.any,.any,.any,.any,.any,.any,.any,.any,.any,.any,.any,.any,.any,.any,.any,.any,.any,.any,.any,.any,.any,.any],[cM x,cR zR]⟩:=by
 rw[qbx,im,aa,tT,bc];rfl
section
variable {x:MV} (hx:IsM 3 x)
include hx
theorem qbB(hb:aP x=false)(K:KT):aq ab 49 (AP ab) (AC ab) (c1 (c2 (al f49))) ⟨[.any,(.ptr 0 0),(.ptr 1 0),(.int .i64 0),.any,.any,.any,.any,.any,.any,.any,.any,.any,.any,.any,.any,.any,.any,.any,.any,.any,.any,.any,.any,.any,.any,.any],[cM x,cR zR]⟩ K=K .ret ⟨[.any,(.ptr 0 0),(.ptr 1 0),(.int .i64 1),.any,.any,(.bool true),x.av,(.bool false),(.bool true),zR.av,.any,.any,.any,.any,.any,.any,.any,.any,.any,.any,.any,.any,.any,.any,.any,.any],[cM x,cR zR]⟩:=by
 have e21:=qs hx.ok (k:=3) (by omega) (by have:=hx.len;omega);rw[Kd,bC (x:=x) rfl,aa,lS,hx.fr,e21,ar,aa,bB,aa,hb,mZ,jj,RC,aa,iV (x:=zR) rfl,aa]
 rfl
theorem qbC(hb:aP x=true)(hc:x.rows≠x.cols)(K:KT):aq ab 49 (AP ab) (AC ab) (c1 (c2 (al f49))) ⟨[.any,(.ptr 0 0),(.ptr 1 0),(.int .i64 0),.any,.any,.any,.any,.any,.any,.any,.any,.any,.any,.any,.any,.any,.any,.any,.any,.any,.any,.any,.any,.any,.any,.any],[cM x,cR zR]⟩ K=K .ret ⟨[.any,(.ptr 0 0),(.ptr 1 0),(.int .i64 30),.any,.any,(.bool false),x.av,(.bool true),(.bool false),.any,(.bool (decide (x.rows≠x.cols))),(.ptr 0 0),(.int .i64 x.rows),(.ptr 0 1),(.int .i64 x.cols),(.bool (decide (x.rows≠x.cols))),zR.av,.any,.any,.any,.any,.any,.any,.any,.any,.any],[cM x,cR zR]⟩:=by
 have e21:=qs hx.ok (k:=3) (by omega) (by have:=hx.len;omega);rw[Kd,bC (x:=x) rfl,aa,lS,hx.fr,e21,ar,aa,bB,aa,hb,gk,fF,bj,aa,gh (x:=x) rfl,aa,ba,aa,fh (x:=x) rfl,aa,iL,aa,aw,aj hc,RC,aa,iV (x:=zR) rfl,aa]
 rfl
theorem qbD(hb:aP x=true)(hc:x.rows=x.cols)(K:KT):aq ab 49 (AP ab) (AC ab) (c1 (c2 (al f49))) ⟨[.any,(.ptr 0 0),(.ptr 1 0),(.int .i64 0),.any,.any,.any,.any,.any,.any,.any,.any,.any,.any,.any,.any,.any,.any,.any,.any,.any,.any,.any,.any,.any,.any,.any],[cM x,cR zR]⟩ K=K .normal ⟨[.any,(.ptr 0 0),(.ptr 1 0),(.int .i64 0),.any,.any,(.bool false),x.av,(.bool true),(.bool false),.any,(.bool (decide (x.rows≠x.cols))),(.ptr 0 0),(.int .i64 x.rows),(.ptr 0 1),(.int .i64 x.cols),(.bool (decide (x.rows≠x.cols))),.any,.any,.any,.any,.any,.any,.any,.any,.any,.any],[cM x,cR zR]⟩:=by
 have e21:=qs hx.ok (k:=3) (by omega) (by have:=hx.len;omega);rw[Kd,bC (x:=x) rfl,aa,lS,hx.fr,e21,ar,aa,bB,aa,hb,gk,fF,bj,aa,gh (x:=x) rfl,aa,ba,aa,fh (x:=x) rfl,aa,iL,aa,aw,ag (fun h=>h hc)]
end
theorem qi3(ts:List AV)(m:ae)(R:RV)(e:Int)(h2:ts.getD 2 .any=.ptr 1 0)(h3:ts.getD 3 .any=.int .i64 e)(h:m[1]?=some (cR R)):lU prog m ts f49.results.toList=some [R.av,.int .i64 e]:=by
 have e1:f49.results.toList=[.cell 2 43,.tmp 3]:=by kernel_rfl
 have e2:sN prog m ts (.cell 2 43)=ai (some 3) m (ts.getD 2 .any):=by kernel_rfl
 have e3:sN prog m ts (.tmp 3)=some (ts.getD 3 .any):=by kernel_rfl
 rw[e1,lU,e2,h2,je h];simp only[lU,e3,h3,aa]
 rfl
theorem K7{B:Nat}{w:World}{g:G}{R:RV}{e:Int}{st:St}{a:Act}{w1:World}{g1:G}(hm:MemR B w g [])(hs:StR B w1 g1 st a)(s:Step B w g w1 g1)(h2:st.tmps.getD 2 .any=.ptr 1 0)(h3:st.tmps.getD 3 .any=.int .i64 e)(h1:st.mem[1]?=some (cR R))(hR:R.fr=R)(hd:a.defers=[]) :
  bodyPostM Fence.wide 5 prog f49 (fun e' w'=>∃v' g',e'=.returned v'/\Step B w g w' g'/\MemR B w' g' []/\V w' g' (.tup [R.av,.int .i64 e]) v') .ret a w1:=by
 refine Mz hs (qi3 _ _ R e h2 h3 h1) hd fun v hv=>?_;refine ⟨v,g1.bare,rfl,s.bare hm,hs.mem.none,?_⟩;refine V.bare hv ?_;have h:=fE RV.num hR;have h':=fE RV.den hR;obtain ⟨neg,⟨z1,o1,d1⟩,⟨z2,o2,d2⟩⟩:=R;simp only[RV.fr,NV.fr,NV.mk.injEq,true_and,and_true] at h h';cases o1<;>cases o2<;>simp[Own.fr] at h h'<;>rfl
theorem qfq{x:MV}(hx:IsM 3 x)(hb:aP x=false):kr prog 49 [x.av] [] (.tup [zR.av,.int .i64 1]) []:=by
 intro B w g vs hm hB hl hv;refine (callsIn_wide (n:=5)).1 ?_;have hF:ik Fence.wide:=.inl rfl;refine callsIn_of_wp_marks (fn:=f49) (c:=al f49) ?hf ?hb ?hF ?hh ?hro
 case hf=>exact GN
 case hb=>exact GM
 case hF=>exact hF.fn 49
 case hro=>rfl
 have oh:vs.size=1:=by simpa using hl.symm
 rw[MS,oh];have kO:=tZ hl hv 26;rw[KS];refine wpIn_seq (hG (C:=ab) fC nb hF xI.1 (e0:=.normal) (fun K=>Kh x K) (show StR B w g _ _ from ⟨kO,hm,hB⟩) fun a1 w1 g1 eM s1 iP=>?_)
 have p1:=eM.pat (P:=[.any,(.ptr 0 0),(.ptr 1 0),(.int .i64 0),.any,.any,.any,.any,.any,.any,.any,.any,.any,.any,.any,.any,.any,.any,.any,.any,.any,.any,.any,.any,.any,.any,.any]) rfl (fun t=>by
   match t with
   | 1|2|3=>exact .inl rfl
   | 0=>exact .inr rfl
   | t+4=>exact .inr (jy 23 t))
 refine wpIn_seq (hG (C:=ab) fC nb hF xI.2.1 (e0:=.ret) (fun K=>qbB hx hb K) p1 fun a2 w2 g2 eS s2 jz=>?_);exact K7 hm eS (s1.trans s2) rfl rfl rfl rfl (jz.trans iP)
theorem qfr{x:MV}(hx:IsM 3 x)(hb:aP x=true)(hc:x.rows≠x.cols):kr prog 49 [x.av] [] (.tup [zR.av,.int .i64 30]) []:=by
 intro B w g vs hm hB hl hv;refine (callsIn_wide (n:=5)).1 ?_;have hF:ik Fence.wide:=.inl rfl;refine callsIn_of_wp_marks (fn:=f49) (c:=al f49) ?hf ?hb ?hF ?hh ?hro
 case hf=>exact GN
 case hb=>exact GM
 case hF=>exact hF.fn 49
 case hro=>rfl
 have oh:vs.size=1:=by simpa using hl.symm
 rw[MS,oh];have kO:=tZ hl hv 26;rw[KS];refine wpIn_seq (hG (C:=ab) fC nb hF xI.1 (e0:=.normal) (fun K=>Kh x K) (show StR B w g _ _ from ⟨kO,hm,hB⟩) fun a1 w1 g1 eM s1 iP=>?_)
 have p1:=eM.pat (P:=[.any,(.ptr 0 0),(.ptr 1 0),(.int .i64 0),.any,.any,.any,.any,.any,.any,.any,.any,.any,.any,.any,.any,.any,.any,.any,.any,.any,.any,.any,.any,.any,.any,.any]) rfl (fun t=>by
   match t with
   | 1|2|3=>exact .inl rfl
   | 0=>exact .inr rfl
   | t+4=>exact .inr (jy 23 t))
 refine wpIn_seq (hG (C:=ab) fC nb hF xI.2.1 (e0:=.ret) (fun K=>qbC hx hb hc K) p1 fun a2 w2 g2 eS s2 jz=>?_);exact K7 hm eS (s1.trans s2) rfl rfl rfl rfl (jz.trans iP)
theorem qbE{m:ae}{q:Nat}{D:RV}(h:m[q]?=some (cR D))(h1:m[1]?=some (cR zR))(K:KT):aq ab 49 (AP ab) (AC ab) (c2 (c2 (c2 (al f49)))) ⟨[.any,.any,(.ptr 1 0),.any,.any,(.ptr q 0),.any,.any,.any,.any,.any,.any,.any,.any,.any,.any,.any,.any,.any,.any,.any,.any,.any,.any,.any,.any,.any],m⟩ K=K .ret ⟨[.any,.any,(.ptr 1 0),(.int .i64 0),.any,(.ptr q 0),.any,.any,.any,.any,.any,.any,.any,.any,.any,.any,.any,.any,.any,.any,.any,.any,.any,.any,.any,.any,D.av],m.set 1 (cR D)⟩:=by
 rw[qby,je h,aa,iV h1,aa]
theorem qfs{x:MV}{n:Nat}(hx:IsM 3 x)(hb:aP x=true)(aD:x.rows=n)(az:x.cols=n)(n6:n<=6):kr prog 49 [x.av] [] (.tup [(nB (det n (eW x n))).av,.int .i64 0]) []:=by
 have hc:x.rows=x.cols:=aD.trans az.symm;intro B w g vs hm hB hl hv;refine (callsIn_wide (n:=5)).1 ?_;have hF:ik Fence.wide:=.inl rfl;refine callsIn_of_wp_marks (fn:=f49) (c:=al f49) ?hf ?hb ?hF ?hh ?hro
 case hf=>exact GN
 case hb=>exact GM
 case hF=>exact hF.fn 49
 case hro=>rfl
 have oh:vs.size=1:=by simpa using hl.symm
 rw[MS,oh];have kO:=tZ hl hv 26;rw[KS];refine wpIn_seq (hG (C:=ab) fC nb hF xI.1 (e0:=.normal) (fun K=>Kh x K) (show StR B w g _ _ from ⟨kO,hm,hB⟩) fun a1 w1 g1 eM s1 iP=>?_)
 have p1:=eM.pat (P:=[.any,(.ptr 0 0),(.ptr 1 0),(.int .i64 0),.any,.any,.any,.any,.any,.any,.any,.any,.any,.any,.any,.any,.any,.any,.any,.any,.any,.any,.any,.any,.any,.any,.any]) rfl (fun t=>by
   match t with
   | 1|2|3=>exact .inl rfl
   | 0=>exact .inr rfl
   | t+4=>exact .inr (jy 23 t))
 refine wpIn_seq (hG (C:=ab) fC nb hF xI.2.1 (e0:=.normal) (fun K=>qbD hx hb hc K) p1 fun a2 w2 g2 eS s2 jz=>?_)
 have p2:=eS.pat (P:=[.any,(.ptr 0 0),(.ptr 1 0),.any,.any,.any,.any,.any,.any,.any,.any,.any,.any,.any,.any,.any,.any,.any,.any,.any,.any,.any,.any,.any,.any,.any,.any]) rfl (fun t=>by
   match t with
   | 1|2=>exact .inl rfl
   | 0|3|4|5|6|7|8|9|10|11|12|13|14|15|16=>exact .inr rfl
   | t+17=>exact .inr (jy 10 t))
 refine wpIn_seq (Sg (C:=ab) (fid:=49) fC nb hF (by kernel_rfl) (Ok:=iJ x n n .any (.ptr 1 0) .any [cM x,cR zR]) ?_ p2 fun st' a3 w3 g3 ho uW s3 sb=>?_)
 .rw[qjR];exact XO rfl hx hb aD az n6 (by omega) [cM x,cR zR] (aW _) (fun p hp=>rfl)
 obtain ⟨m,q,T,L,D,tk,rfl,h1,hR,h3,h4⟩:=ho;obtain ⟨dv,zD,_,_,yg⟩:=hR.can;have hD:D=nB (det n (eW x n)):=by rw[zD,yg rfl]
 have fD:=hR.fr
 have p3:=uW.pat (P:=[.any,.any,(.ptr 1 0),.any,.any,(.ptr q 0),.any,.any,.any,.any,.any,.any,.any,.any,.any,.any,.any,.any,.any,.any,.any,.any,.any,.any,.any,.any,.any]) rfl (fun t=>by
   match t with
   | 2|5=>exact .inl rfl
   | 0|1|3|4|6|7|8|9|10|11|12|13|14|15|16|17|18|19|20|21|22|23|24|25=>exact .inr rfl
   | t+26=>exact .inr (jy 1 t))
 refine hG (C:=ab) fC nb hF xI.2.2 (e0:=.ret) (fun K=>qbE h1 ((h4 1 (by omega)).trans rfl) K) p3 fun a4 w4 g4 yB s4 sc=>?_;rw[<- hD];have aG:1<m.length:=(dX.1 ((h4 1 (by omega)).trans (rfl:([cM x,cR zR]:ae)[1]?=some (cR zR)))).1;exact K7 hm yB (((s1.trans s2).trans s3).trans s4) rfl rfl (jF aG) fD (sc.trans (sb.trans (jz.trans iP)))
end Go.Ab
namespace Go.Ab
open Go.Proofs.Try Go.RowKit
noncomputable def dm:Array Oper:=fQ (c1 (c2 (c2 (al f51))))
theorem LG:prog.funcs[51]?=some f51:=by kernel_rfl
theorem Lv:f51.body=some (al f51):=by kernel_rfl
theorem U3:f51.ntmps=32:=by kernel_rfl
theorem Se:al f51=.seq (c1 (al f51)) (.seq (c1 (c2 (al f51))) (.seq (.region 3 dm true) (c2 (c2 (c2 (al f51)))))):=by kernel_rfl
theorem qjS:dm.size=11:=by kernel_rfl
theorem Cj:jq ab 51 (c1 (al f51))=true/\jq ab 51 (c1 (c2 (al f51)))=true/\jq ab 51 (c2 (c2 (c2 (al f51))))=true:=⟨by kernel_rfl,by kernel_rfl,by kernel_rfl⟩
section
variable (t0 t1 t2 t3 t4 t5 t6 t7 t8 t9 t10 t11 t12 t13 t14 t15 t16 t17 t18 t19 t20 t21 t22 t23 t24 t25 t26 t27 t28 t29 t30 t31:AV) (m:ae)
theorem A6:bK ab 51 (AP ab) (AC ab) none dm 0 ⟨[t0,t1,t2,t3,t4,t5,t6,t7,t8,t9,t10,t11,t12,t13,t14,t15,t16,t17,t18,t19,t20,t21,t22,t23,t24,t25,t26,t27,t28,t29,t30,t31],m⟩=(ai (some 3) m t1).bind fun v=>some ⟨[t0,t1,t2,t3,t4,t5,t6,t7,t8,t9,t10,t11,t12,v,t14,t15,t16,t17,t18,t19,t20,t21,t22,t23,t24,t25,t26,t27,t28,t29,t30,t31],m⟩:=by
 have e:bK ab 51 (AP ab) (AC ab) none dm 0 ⟨[t0,t1,t2,t3,t4,t5,t6,t7,t8,t9,t10,t11,t12,t13,t14,t15,t16,t17,t18,t19,t20,t21,t22,t23,t24,t25,t26,t27,t28,t29,t30,t31],m⟩=(((ai (some 3) m t1).bind fun v=>some (v,m)).map fun q=>(⟨ee [t0,t1,t2,t3,t4,t5,t6,t7,t8,t9,t10,t11,t12,t13,t14,t15,t16,t17,t18,t19,t20,t21,t22,t23,t24,t25,t26,t27,t28,t29,t30,t31] (some 13) q.1,q.2⟩:St)):=by kernel_rfl
 rw[e];cases ai (some 3) m t1<;>rfl
theorem A7:bK ab 51 (AP ab) (AC ab) none dm 1 ⟨[t0,t1,t2,t3,t4,t5,t6,t7,t8,t9,t10,t11,t12,t13,t14,t15,t16,t17,t18,t19,t20,t21,t22,t23,t24,t25,t26,t27,t28,t29,t30,t31],m⟩=(AC ab 85 [t13] m).bind fun r=>some ⟨[t0,t1,t2,t3,t4,t5,t6,t7,t8,t9,t10,t11,t12,t13,r.1,t15,t16,t17,t18,t19,t20,t21,t22,t23,t24,t25,t26,t27,t28,t29,t30,t31],r.2⟩:=by
 have e:bK ab 51 (AP ab) (AC ab) none dm 1 ⟨[t0,t1,t2,t3,t4,t5,t6,t7,t8,t9,t10,t11,t12,t13,t14,t15,t16,t17,t18,t19,t20,t21,t22,t23,t24,t25,t26,t27,t28,t29,t30,t31],m⟩=(((AC ab 85 [t13] m).bind fun r=>some (r.1,r.2)).map fun q=>(⟨ee [t0,t1,t2,t3,t4,t5,t6,t7,t8,t9,t10,t11,t12,t13,t14,t15,t16,t17,t18,t19,t20,t21,t22,t23,t24,t25,t26,t27,t28,t29,t30,t31] (some 14) q.1,q.2⟩:St)):=by kernel_rfl
 rw[e];cases AC ab 85 [t13] m<;>rfl
theorem A8:bK ab 51 (AP ab) (AC ab) none dm 2 ⟨[t0,t1,t2,t3,t4,t5,t6,t7,t8,t9,t10,t11,t12,t13,t14,t15,t16,t17,t18,t19,t20,t21,t22,t23,t24,t25,t26,t27,t28,t29,t30,t31],m⟩=(aB 1 t1).bind fun v=>some ⟨[t0,t1,t2,t3,t4,t5,t6,t7,t8,t9,t10,t11,t12,t13,t14,v,t16,t17,t18,t19,t20,t21,t22,t23,t24,t25,t26,t27,t28,t29,t30,t31],m⟩:=by
 have e:bK ab 51 (AP ab) (AC ab) none dm 2 ⟨[t0,t1,t2,t3,t4,t5,t6,t7,t8,t9,t10,t11,t12,t13,t14,t15,t16,t17,t18,t19,t20,t21,t22,t23,t24,t25,t26,t27,t28,t29,t30,t31],m⟩=(((aB 1 t1).bind fun v=>some (v,m)).map fun q=>(⟨ee [t0,t1,t2,t3,t4,t5,t6,t7,t8,t9,t10,t11,t12,t13,t14,t15,t16,t17,t18,t19,t20,t21,t22,t23,t24,t25,t26,t27,t28,t29,t30,t31] (some 15) q.1,q.2⟩:St)):=by kernel_rfl
 rw[e];cases aB 1 t1<;>rfl
theorem A9:bK ab 51 (AP ab) (AC ab) none dm 3 ⟨[t0,t1,t2,t3,t4,t5,t6,t7,t8,t9,t10,t11,t12,t13,t14,t15,t16,t17,t18,t19,t20,t21,t22,t23,t24,t25,t26,t27,t28,t29,t30,t31],m⟩=(ai none m t15).bind fun v=>some ⟨[t0,t1,t2,t3,t4,t5,t6,t7,t8,t9,t10,t11,t12,t13,t14,t15,v,t17,t18,t19,t20,t21,t22,t23,t24,t25,t26,t27,t28,t29,t30,t31],m⟩:=by
 have e:bK ab 51 (AP ab) (AC ab) none dm 3 ⟨[t0,t1,t2,t3,t4,t5,t6,t7,t8,t9,t10,t11,t12,t13,t14,t15,t16,t17,t18,t19,t20,t21,t22,t23,t24,t25,t26,t27,t28,t29,t30,t31],m⟩=(((ai none m t15).bind fun v=>some (v,m)).map fun q=>(⟨ee [t0,t1,t2,t3,t4,t5,t6,t7,t8,t9,t10,t11,t12,t13,t14,t15,t16,t17,t18,t19,t20,t21,t22,t23,t24,t25,t26,t27,t28,t29,t30,t31] (some 16) q.1,q.2⟩:St)):=by kernel_rfl
 rw[e];cases ai none m t15<;>rfl
theorem Wc:bK ab 51 (AP ab) (AC ab) none dm 4 ⟨[t0,t1,t2,t3,t4,t5,t6,t7,t8,t9,t10,t11,t12,t13,t14,t15,t16,t17,t18,t19,t20,t21,t22,t23,t24,t25,t26,t27,t28,t29,t30,t31],m⟩=(AC ab 91 [t14,t16] m).bind fun r=>some ⟨[t0,t1,t2,t3,t4,t5,t6,t7,t8,t9,t10,t11,t12,t13,t14,t15,t16,r.1,t18,t19,t20,t21,t22,t23,t24,t25,t26,t27,t28,t29,t30,t31],r.2⟩:=by
 have e:bK ab 51 (AP ab) (AC ab) none dm 4 ⟨[t0,t1,t2,t3,t4,t5,t6,t7,t8,t9,t10,t11,t12,t13,t14,t15,t16,t17,t18,t19,t20,t21,t22,t23,t24,t25,t26,t27,t28,t29,t30,t31],m⟩=(((AC ab 91 [t14,t16] m).bind fun r=>some (r.1,r.2)).map fun q=>(⟨ee [t0,t1,t2,t3,t4,t5,t6,t7,t8,t9,t10,t11,t12,t13,t14,t15,t16,t17,t18,t19,t20,t21,t22,t23,t24,t25,t26,t27,t28,t29,t30,t31] (some 17) q.1,q.2⟩:St)):=by kernel_rfl
 rw[e];cases AC ab 91 [t14,t16] m<;>rfl
theorem Wd:bK ab 51 (AP ab) (AC ab) none dm 5 ⟨[t0,t1,t2,t3,t4,t5,t6,t7,t8,t9,t10,t11,t12,t13,t14,t15,t16,t17,t18,t19,t20,t21,t22,t23,t24,t25,t26,t27,t28,t29,t30,t31],m⟩=some ⟨[t0,t1,t2,t3,t4,t5,t6,t7,t8,t9,t10,t11,t17,t13,t14,t15,t16,t17,t18,t19,t20,t21,t22,t23,t24,t25,t26,t27,t28,t29,t30,t31],m⟩:=by kernel_rfl
theorem H4:bK ab 51 (AP ab) (AC ab) none dm 6 ⟨[t0,t1,t2,t3,t4,t5,t6,t7,t8,t9,t10,t11,t12,t13,t14,t15,t16,t17,t18,t19,t20,t21,t22,t23,t24,t25,t26,t27,t28,t29,t30,t31],m⟩=(bg t12 0).bind fun v=>some ⟨[t0,t1,t2,t3,t4,t5,t6,t7,t8,t9,t10,t11,t12,t13,t14,t15,t16,t17,v,t19,t20,t21,t22,t23,t24,t25,t26,t27,t28,t29,t30,t31],m⟩:=by
 have e:bK ab 51 (AP ab) (AC ab) none dm 6 ⟨[t0,t1,t2,t3,t4,t5,t6,t7,t8,t9,t10,t11,t12,t13,t14,t15,t16,t17,t18,t19,t20,t21,t22,t23,t24,t25,t26,t27,t28,t29,t30,t31],m⟩=(((bg t12 0).bind fun v=>some (v,m)).map fun q=>(⟨ee [t0,t1,t2,t3,t4,t5,t6,t7,t8,t9,t10,t11,t12,t13,t14,t15,t16,t17,t18,t19,t20,t21,t22,t23,t24,t25,t26,t27,t28,t29,t30,t31] (some 18) q.1,q.2⟩:St)):=by kernel_rfl
 rw[e];cases bg t12 0<;>rfl
theorem DT:bK ab 51 (AP ab) (AC ab) none dm 7 ⟨[t0,t1,t2,t3,t4,t5,t6,t7,t8,t9,t10,t11,t12,t13,t14,t15,t16,t17,t18,t19,t20,t21,t22,t23,t24,t25,t26,t27,t28,t29,t30,t31],m⟩=(bg t12 1).bind fun v=>some ⟨[t0,t1,t2,t3,t4,t5,t6,t7,t8,t9,t10,t11,t12,t13,t14,t15,t16,t17,t18,v,t20,t21,t22,t23,t24,t25,t26,t27,t28,t29,t30,t31],m⟩:=by
 have e:bK ab 51 (AP ab) (AC ab) none dm 7 ⟨[t0,t1,t2,t3,t4,t5,t6,t7,t8,t9,t10,t11,t12,t13,t14,t15,t16,t17,t18,t19,t20,t21,t22,t23,t24,t25,t26,t27,t28,t29,t30,t31],m⟩=(((bg t12 1).bind fun v=>some (v,m)).map fun q=>(⟨ee [t0,t1,t2,t3,t4,t5,t6,t7,t8,t9,t10,t11,t12,t13,t14,t15,t16,t17,t18,t19,t20,t21,t22,t23,t24,t25,t26,t27,t28,t29,t30,t31] (some 19) q.1,q.2⟩:St)):=by kernel_rfl
 rw[e];cases bg t12 1<;>rfl
theorem qj:bK ab 51 (AP ab) (AC ab) none dm 8 ⟨[t0,t1,t2,t3,t4,t5,t6,t7,t8,t9,t10,t11,t12,t13,t14,t15,t16,t17,t18,t19,t20,t21,t22,t23,t24,t25,t26,t27,t28,t29,t30,t31],m⟩=some ⟨[t0,t1,t2,t3,t4,(.ptr m.length 0),t6,t7,t8,t9,t10,t11,t12,t13,t14,t15,t16,t17,t18,t19,t20,t21,t22,t23,t24,t25,t26,t27,t28,t29,t30,t31],m++[cR zR]⟩:=by kernel_rfl
theorem We:bK ab 51 (AP ab) (AC ab) none dm 9 ⟨[t0,t1,t2,t3,t4,t5,t6,t7,t8,t9,t10,t11,t12,t13,t14,t15,t16,t17,t18,t19,t20,t21,t22,t23,t24,t25,t26,t27,t28,t29,t30,t31],m⟩=some ⟨[t0,t1,t2,t3,t18,t5,t6,t7,t8,t9,t10,t11,t12,t13,t14,t15,t16,t17,t18,t19,t20,t21,t22,t23,t24,t25,t26,t27,t28,t29,t30,t31],m⟩:=by kernel_rfl
theorem qjf:bK ab 51 (AP ab) (AC ab) none dm 10 ⟨[t0,t1,t2,t3,t4,t5,t6,t7,t8,t9,t10,t11,t12,t13,t14,t15,t16,t17,t18,t19,t20,t21,t22,t23,t24,t25,t26,t27,t28,t29,t30,t31],m⟩=(aA (some 3) m t5 t19).bind fun m1=>some ⟨[t0,t1,t2,t3,t4,t5,t6,t7,t8,t9,t10,t11,t12,t13,t14,t15,t16,t17,t18,t19,t20,t21,t22,t23,t24,t25,t26,t27,t28,t29,t30,t31],m1⟩:=by
 have e:bK ab 51 (AP ab) (AC ab) none dm 10 ⟨[t0,t1,t2,t3,t4,t5,t6,t7,t8,t9,t10,t11,t12,t13,t14,t15,t16,t17,t18,t19,t20,t21,t22,t23,t24,t25,t26,t27,t28,t29,t30,t31],m⟩=(((aA (some 3) m t5 t19).bind fun m1=>some (AV.any,m1)).map fun q=>(⟨ee [t0,t1,t2,t3,t4,t5,t6,t7,t8,t9,t10,t11,t12,t13,t14,t15,t16,t17,t18,t19,t20,t21,t22,t23,t24,t25,t26,t27,t28,t29,t30,t31] none q.1,q.2⟩:St)):=by kernel_rfl
 rw[e];cases aA (some 3) m t5 t19<;>rfl
end
section
variable {x:MV} {nr n:Nat} {t0 t2 t3:AV} {m00:ae}
def iK(x:MV)(nr n:Nat)(t0 t2 t3:AV)(m00:ae)(st:St):Prop:=∃(m:ae) (q T L:Nat) (D:RV) (tk:Nat->Int),st=⟨[t0,(.ptr 0 0),t2,t3,(.arr T 0 n none),(.ptr q 0),.any,.any,.any,.any,.any,.any,(.tup [.arr T 0 n none,D.av]),x.av,(.arr L 0 nr none),(.ptr 0 1),(.int .i64 n),(.tup [.arr T 0 n none,D.av]),(.arr T 0 n none),D.av,.any,.any,.any,.any,.any,.any,.any,.any,.any,.any,.any,.any],m⟩/\m[q]?=some (cR D)/\Res9 x nr n D tk/\m[T]?=some (aO (iN tk) n)/\(∀p,p<1->m[p]?=m00[p]?)
theorem OT(aF:m00[0]?=some (cM x))(hx:IsM 3 x)(hb:aP x=true)(aD:x.rows=nr)(az:x.cols=n)(n6:n<=6)(aI:nr<=60)(m:ae)(q:Nat)(L:Nat)(T:Nat)(D:RV)(tk:Nat->Int)(hl:1<=m.length)(hk:∀p,p<1->m[p]?=m00[p]?)(hq:m[q]?=some (cR zR)/\1<=q)(hd:Res9 x nr n D tk)(hT:m[T]?=some (aO (iN tk) n)/\1<=T/\T≠q):eh ab 51 dm (iK x nr n t0 t2 t3 m00) 1 #[true,true,true,true,true,true,true,true,true,true,false] ⟨[t0,(.ptr 0 0),t2,t3,(.arr T 0 n none),(.ptr q 0),.any,.any,.any,.any,.any,.any,(.tup [.arr T 0 n none,D.av]),x.av,(.arr L 0 nr none),(.ptr 0 1),(.int .i64 n),(.tup [.arr T 0 n none,D.av]),(.arr T 0 n none),D.av,.any,.any,.any,.any,.any,.any,.any,.any,.any,.any,.any,.any],m⟩:=by
 have aH:Region.ready .any dm #[true,true,true,true,true,true,true,true,true,true,false]=[10]:=by kernel_rfl
 refine ⟨fun h=>(by rw[aH] at h;cases h),fun i hi=>?_⟩;rw[aH] at hi;simp only[dI,et,or_false] at hi;subst hi;refine ⟨_,by rw[qjf,iV hq.1,aa],?_⟩;have e:(#[true,true,true,true,true,true,true,true,true,true,false]:Array Bool).setIfInBounds 10 true = #[true,true,true,true,true,true,true,true,true,true,true]:=by decide
 rw[e]
 refine ⟨by kernel_rfl,m.set q (cR D),q,T,L,D,tk,rfl,jO (dX.1 hq.1).1,hd,?_,fun p hp=>?_⟩
 .rw[dM (fun e=>hT.2.2 e.symm)];exact hT.1
 .rw[dM (by have:=hq.2;omega)];exact hk p hp
theorem IV(aF:m00[0]?=some (cM x))(hx:IsM 3 x)(hb:aP x=true)(aD:x.rows=nr)(az:x.cols=n)(n6:n<=6)(aI:nr<=60)(m:ae)(q:Nat)(L:Nat)(T:Nat)(D:RV)(tk:Nat->Int)(hl:1<=m.length)(hk:∀p,p<1->m[p]?=m00[p]?)(hq:m[q]?=some (cR zR)/\1<=q)(hd:Res9 x nr n D tk)(hT:m[T]?=some (aO (iN tk) n)/\1<=T/\T≠q):eh ab 51 dm (iK x nr n t0 t2 t3 m00) 2 #[true,true,true,true,true,true,true,true,true,false,false] ⟨[t0,(.ptr 0 0),t2,t3,.any,(.ptr q 0),.any,.any,.any,.any,.any,.any,(.tup [.arr T 0 n none,D.av]),x.av,(.arr L 0 nr none),(.ptr 0 1),(.int .i64 n),(.tup [.arr T 0 n none,D.av]),(.arr T 0 n none),D.av,.any,.any,.any,.any,.any,.any,.any,.any,.any,.any,.any,.any],m⟩:=by
 have aH:Region.ready .any dm #[true,true,true,true,true,true,true,true,true,false,false]=[9]:=by kernel_rfl
 refine ⟨fun h=>(by rw[aH] at h;cases h),fun i hi=>?_⟩;rw[aH] at hi;simp only[dI,et,or_false] at hi;subst hi;refine ⟨_,by rw[We],?_⟩;have e:(#[true,true,true,true,true,true,true,true,true,false,false]:Array Bool).setIfInBounds 9 true = #[true,true,true,true,true,true,true,true,true,true,false]:=by decide
 rw[e];exact OT aF hx hb aD az n6 aI m q L T D tk hl hk hq hd hT
theorem Ya(aF:m00[0]?=some (cM x))(hx:IsM 3 x)(hb:aP x=true)(aD:x.rows=nr)(az:x.cols=n)(n6:n<=6)(aI:nr<=60)(m:ae)(q:Nat)(L:Nat)(T:Nat)(D:RV)(tk:Nat->Int)(hl:1<=m.length)(hk:∀p,p<1->m[p]?=m00[p]?)(hq:m[q]?=some (cR zR)/\1<=q)(hd:Res9 x nr n D tk)(hT:m[T]?=some (aO (iN tk) n)/\1<=T/\T≠q):eh ab 51 dm (iK x nr n t0 t2 t3 m00) 2 #[true,true,true,true,true,true,true,false,true,true,false] ⟨[t0,(.ptr 0 0),t2,t3,(.arr T 0 n none),(.ptr q 0),.any,.any,.any,.any,.any,.any,(.tup [.arr T 0 n none,D.av]),x.av,(.arr L 0 nr none),(.ptr 0 1),(.int .i64 n),(.tup [.arr T 0 n none,D.av]),(.arr T 0 n none),.any,.any,.any,.any,.any,.any,.any,.any,.any,.any,.any,.any,.any],m⟩:=by
 have aH:Region.ready .any dm #[true,true,true,true,true,true,true,false,true,true,false]=[7]:=by kernel_rfl
 refine ⟨fun h=>(by rw[aH] at h;cases h),fun i hi=>?_⟩;rw[aH] at hi;simp only[dI,et,or_false] at hi;subst hi;refine ⟨_,by rw[DT,ua,aa],?_⟩;have e:(#[true,true,true,true,true,true,true,false,true,true,false]:Array Bool).setIfInBounds 7 true = #[true,true,true,true,true,true,true,true,true,true,false]:=by decide
 rw[e];exact OT aF hx hb aD az n6 aI m q L T D tk hl hk hq hd hT
theorem OR(aF:m00[0]?=some (cM x))(hx:IsM 3 x)(hb:aP x=true)(aD:x.rows=nr)(az:x.cols=n)(n6:n<=6)(aI:nr<=60)(m:ae)(q:Nat)(L:Nat)(T:Nat)(D:RV)(tk:Nat->Int)(hl:1<=m.length)(hk:∀p,p<1->m[p]?=m00[p]?)(hq:m[q]?=some (cR zR)/\1<=q)(hd:Res9 x nr n D tk)(hT:m[T]?=some (aO (iN tk) n)/\1<=T/\T≠q):eh ab 51 dm (iK x nr n t0 t2 t3 m00) 3 #[true,true,true,true,true,true,true,false,true,false,false] ⟨[t0,(.ptr 0 0),t2,t3,.any,(.ptr q 0),.any,.any,.any,.any,.any,.any,(.tup [.arr T 0 n none,D.av]),x.av,(.arr L 0 nr none),(.ptr 0 1),(.int .i64 n),(.tup [.arr T 0 n none,D.av]),(.arr T 0 n none),.any,.any,.any,.any,.any,.any,.any,.any,.any,.any,.any,.any,.any],m⟩:=by
 have aH:Region.ready .any dm #[true,true,true,true,true,true,true,false,true,false,false]=[7,9]:=by kernel_rfl
 refine ⟨fun h=>(by rw[aH] at h;cases h),fun i hi=>?_⟩;rw[aH] at hi;simp only[dI,et,or_false] at hi
 rcases hi with rfl|rfl
 .refine ⟨_,by rw[DT,ua,aa],?_⟩;have e:(#[true,true,true,true,true,true,true,false,true,false,false]:Array Bool).setIfInBounds 7 true = #[true,true,true,true,true,true,true,true,true,false,false]:=by decide
  rw[e];exact IV aF hx hb aD az n6 aI m q L T D tk hl hk hq hd hT
 .refine ⟨_,by rw[We],?_⟩;have e:(#[true,true,true,true,true,true,true,false,true,false,false]:Array Bool).setIfInBounds 9 true = #[true,true,true,true,true,true,true,false,true,true,false]:=by decide
  rw[e];exact Ya aF hx hb aD az n6 aI m q L T D tk hl hk hq hd hT
theorem OQ(aF:m00[0]?=some (cM x))(hx:IsM 3 x)(hb:aP x=true)(aD:x.rows=nr)(az:x.cols=n)(n6:n<=6)(aI:nr<=60)(m:ae)(q:Nat)(L:Nat)(T:Nat)(D:RV)(tk:Nat->Int)(hl:1<=m.length)(hk:∀p,p<1->m[p]?=m00[p]?)(hq:m[q]?=some (cR zR)/\1<=q)(hd:Res9 x nr n D tk)(hT:m[T]?=some (aO (iN tk) n)/\1<=T/\T≠q):eh ab 51 dm (iK x nr n t0 t2 t3 m00) 3 #[true,true,true,true,true,true,false,true,true,false,false] ⟨[t0,(.ptr 0 0),t2,t3,.any,(.ptr q 0),.any,.any,.any,.any,.any,.any,(.tup [.arr T 0 n none,D.av]),x.av,(.arr L 0 nr none),(.ptr 0 1),(.int .i64 n),(.tup [.arr T 0 n none,D.av]),.any,D.av,.any,.any,.any,.any,.any,.any,.any,.any,.any,.any,.any,.any],m⟩:=by
 have aH:Region.ready .any dm #[true,true,true,true,true,true,false,true,true,false,false]=[6]:=by kernel_rfl
 refine ⟨fun h=>(by rw[aH] at h;cases h),fun i hi=>?_⟩;rw[aH] at hi;simp only[dI,et,or_false] at hi;subst hi;refine ⟨_,by rw[H4,xc,aa],?_⟩;have e:(#[true,true,true,true,true,true,false,true,true,false,false]:Array Bool).setIfInBounds 6 true = #[true,true,true,true,true,true,true,true,true,false,false]:=by decide
 rw[e];exact IV aF hx hb aD az n6 aI m q L T D tk hl hk hq hd hT
theorem OS(aF:m00[0]?=some (cM x))(hx:IsM 3 x)(hb:aP x=true)(aD:x.rows=nr)(az:x.cols=n)(n6:n<=6)(aI:nr<=60)(m:ae)(L:Nat)(T:Nat)(D:RV)(tk:Nat->Int)(hl:1<=m.length)(hk:∀p,p<1->m[p]?=m00[p]?)(hd:Res9 x nr n D tk)(hT:m[T]?=some (aO (iN tk) n)/\1<=T):eh ab 51 dm (iK x nr n t0 t2 t3 m00) 3 #[true,true,true,true,true,true,true,true,false,false,false] ⟨[t0,(.ptr 0 0),t2,t3,.any,.any,.any,.any,.any,.any,.any,.any,(.tup [.arr T 0 n none,D.av]),x.av,(.arr L 0 nr none),(.ptr 0 1),(.int .i64 n),(.tup [.arr T 0 n none,D.av]),(.arr T 0 n none),D.av,.any,.any,.any,.any,.any,.any,.any,.any,.any,.any,.any,.any],m⟩:=by
 have aH:Region.ready .any dm #[true,true,true,true,true,true,true,true,false,false,false]=[8]:=by kernel_rfl
 refine ⟨fun h=>(by rw[aH] at h;cases h),fun i hi=>?_⟩;rw[aH] at hi;simp only[dI,et,or_false] at hi;subst hi;refine ⟨_,qj ..,?_⟩;have e:(#[true,true,true,true,true,true,true,true,false,false,false]:Array Bool).setIfInBounds 8 true = #[true,true,true,true,true,true,true,true,true,false,false]:=by decide
 rw[e];exact IV aF hx hb aD az n6 aI (m++[cR zR]) m.length L T D tk (by rw[aK];omega) (fun p hp=>(er (by omega)).trans (hk p hp)) ⟨bX,hl⟩ hd ⟨fM hT.1,hT.2,by have:=(dX.1 hT.1).1;omega⟩
theorem OP(aF:m00[0]?=some (cM x))(hx:IsM 3 x)(hb:aP x=true)(aD:x.rows=nr)(az:x.cols=n)(n6:n<=6)(aI:nr<=60)(m:ae)(q:Nat)(L:Nat)(T:Nat)(D:RV)(tk:Nat->Int)(hl:1<=m.length)(hk:∀p,p<1->m[p]?=m00[p]?)(hq:m[q]?=some (cR zR)/\1<=q)(hd:Res9 x nr n D tk)(hT:m[T]?=some (aO (iN tk) n)/\1<=T/\T≠q):eh ab 51 dm (iK x nr n t0 t2 t3 m00) 4 #[true,true,true,true,true,true,false,false,true,false,false] ⟨[t0,(.ptr 0 0),t2,t3,.any,(.ptr q 0),.any,.any,.any,.any,.any,.any,(.tup [.arr T 0 n none,D.av]),x.av,(.arr L 0 nr none),(.ptr 0 1),(.int .i64 n),(.tup [.arr T 0 n none,D.av]),.any,.any,.any,.any,.any,.any,.any,.any,.any,.any,.any,.any,.any,.any],m⟩:=by
 have aH:Region.ready .any dm #[true,true,true,true,true,true,false,false,true,false,false]=[6,7]:=by kernel_rfl
 refine ⟨fun h=>(by rw[aH] at h;cases h),fun i hi=>?_⟩;rw[aH] at hi;simp only[dI,et,or_false] at hi
 rcases hi with rfl|rfl
 .refine ⟨_,by rw[H4,xc,aa],?_⟩;have e:(#[true,true,true,true,true,true,false,false,true,false,false]:Array Bool).setIfInBounds 6 true = #[true,true,true,true,true,true,true,false,true,false,false]:=by decide
  rw[e];exact OR aF hx hb aD az n6 aI m q L T D tk hl hk hq hd hT
 .refine ⟨_,by rw[DT,ua,aa],?_⟩;have e:(#[true,true,true,true,true,true,false,false,true,false,false]:Array Bool).setIfInBounds 7 true = #[true,true,true,true,true,true,false,true,true,false,false]:=by decide
  rw[e];exact OQ aF hx hb aD az n6 aI m q L T D tk hl hk hq hd hT
theorem X9(aF:m00[0]?=some (cM x))(hx:IsM 3 x)(hb:aP x=true)(aD:x.rows=nr)(az:x.cols=n)(n6:n<=6)(aI:nr<=60)(m:ae)(L:Nat)(T:Nat)(D:RV)(tk:Nat->Int)(hl:1<=m.length)(hk:∀p,p<1->m[p]?=m00[p]?)(hd:Res9 x nr n D tk)(hT:m[T]?=some (aO (iN tk) n)/\1<=T):eh ab 51 dm (iK x nr n t0 t2 t3 m00) 4 #[true,true,true,true,true,true,true,false,false,false,false] ⟨[t0,(.ptr 0 0),t2,t3,.any,.any,.any,.any,.any,.any,.any,.any,(.tup [.arr T 0 n none,D.av]),x.av,(.arr L 0 nr none),(.ptr 0 1),(.int .i64 n),(.tup [.arr T 0 n none,D.av]),(.arr T 0 n none),.any,.any,.any,.any,.any,.any,.any,.any,.any,.any,.any,.any,.any],m⟩:=by
 have aH:Region.ready .any dm #[true,true,true,true,true,true,true,false,false,false,false]=[7,8]:=by kernel_rfl
 refine ⟨fun h=>(by rw[aH] at h;cases h),fun i hi=>?_⟩;rw[aH] at hi;simp only[dI,et,or_false] at hi
 rcases hi with rfl|rfl
 .refine ⟨_,by rw[DT,ua,aa],?_⟩;have e:(#[true,true,true,true,true,true,true,false,false,false,false]:Array Bool).setIfInBounds 7 true = #[true,true,true,true,true,true,true,true,false,false,false]:=by decide
  rw[e];exact OS aF hx hb aD az n6 aI m L T D tk hl hk hd hT
 .refine ⟨_,qj ..,?_⟩;have e:(#[true,true,true,true,true,true,true,false,false,false,false]:Array Bool).setIfInBounds 8 true = #[true,true,true,true,true,true,true,false,true,false,false]:=by decide
  rw[e];exact OR aF hx hb aD az n6 aI (m++[cR zR]) m.length L T D tk (by rw[aK];omega) (fun p hp=>(er (by omega)).trans (hk p hp)) ⟨bX,hl⟩ hd ⟨fM hT.1,hT.2,by have:=(dX.1 hT.1).1;omega⟩
theorem X8(aF:m00[0]?=some (cM x))(hx:IsM 3 x)(hb:aP x=true)(aD:x.rows=nr)(az:x.cols=n)(n6:n<=6)(aI:nr<=60)(m:ae)(L:Nat)(T:Nat)(D:RV)(tk:Nat->Int)(hl:1<=m.length)(hk:∀p,p<1->m[p]?=m00[p]?)(hd:Res9 x nr n D tk)(hT:m[T]?=some (aO (iN tk) n)/\1<=T):eh ab 51 dm (iK x nr n t0 t2 t3 m00) 4 #[true,true,true,true,true,true,false,true,false,false,false] ⟨[t0,(.ptr 0 0),t2,t3,.any,.any,.any,.any,.any,.any,.any,.any,(.tup [.arr T 0 n none,D.av]),x.av,(.arr L 0 nr none),(.ptr 0 1),(.int .i64 n),(.tup [.arr T 0 n none,D.av]),.any,D.av,.any,.any,.any,.any,.any,.any,.any,.any,.any,.any,.any,.any],m⟩:=by
 have aH:Region.ready .any dm #[true,true,true,true,true,true,false,true,false,false,false]=[6,8]:=by kernel_rfl
 refine ⟨fun h=>(by rw[aH] at h;cases h),fun i hi=>?_⟩;rw[aH] at hi;simp only[dI,et,or_false] at hi
 rcases hi with rfl|rfl
 .refine ⟨_,by rw[H4,xc,aa],?_⟩;have e:(#[true,true,true,true,true,true,false,true,false,false,false]:Array Bool).setIfInBounds 6 true = #[true,true,true,true,true,true,true,true,false,false,false]:=by decide
  rw[e];exact OS aF hx hb aD az n6 aI m L T D tk hl hk hd hT
 .refine ⟨_,qj ..,?_⟩;have e:(#[true,true,true,true,true,true,false,true,false,false,false]:Array Bool).setIfInBounds 8 true = #[true,true,true,true,true,true,false,true,true,false,false]:=by decide
  rw[e];exact OQ aF hx hb aD az n6 aI (m++[cR zR]) m.length L T D tk (by rw[aK];omega) (fun p hp=>(er (by omega)).trans (hk p hp)) ⟨bX,hl⟩ hd ⟨fM hT.1,hT.2,by have:=(dX.1 hT.1).1;omega⟩
theorem OO(aF:m00[0]?=some (cM x))(hx:IsM 3 x)(hb:aP x=true)(aD:x.rows=nr)(az:x.cols=n)(n6:n<=6)(aI:nr<=60)(m:ae)(q:Nat)(L:Nat)(T:Nat)(D:RV)(tk:Nat->Int)(hl:1<=m.length)(hk:∀p,p<1->m[p]?=m00[p]?)(hq:m[q]?=some (cR zR)/\1<=q)(hd:Res9 x nr n D tk)(hT:m[T]?=some (aO (iN tk) n)/\1<=T/\T≠q):eh ab 51 dm (iK x nr n t0 t2 t3 m00) 5 #[true,true,true,true,true,false,false,false,true,false,false] ⟨[t0,(.ptr 0 0),t2,t3,.any,(.ptr q 0),.any,.any,.any,.any,.any,.any,.any,x.av,(.arr L 0 nr none),(.ptr 0 1),(.int .i64 n),(.tup [.arr T 0 n none,D.av]),.any,.any,.any,.any,.any,.any,.any,.any,.any,.any,.any,.any,.any,.any],m⟩:=by
 have aH:Region.ready .any dm #[true,true,true,true,true,false,false,false,true,false,false]=[5]:=by kernel_rfl
 refine ⟨fun h=>(by rw[aH] at h;cases h),fun i hi=>?_⟩;rw[aH] at hi;simp only[dI,et,or_false] at hi;subst hi;refine ⟨_,by rw[Wd],?_⟩;have e:(#[true,true,true,true,true,false,false,false,true,false,false]:Array Bool).setIfInBounds 5 true = #[true,true,true,true,true,true,false,false,true,false,false]:=by decide
 rw[e];exact OP aF hx hb aD az n6 aI m q L T D tk hl hk hq hd hT
theorem X7(aF:m00[0]?=some (cM x))(hx:IsM 3 x)(hb:aP x=true)(aD:x.rows=nr)(az:x.cols=n)(n6:n<=6)(aI:nr<=60)(m:ae)(L:Nat)(T:Nat)(D:RV)(tk:Nat->Int)(hl:1<=m.length)(hk:∀p,p<1->m[p]?=m00[p]?)(hd:Res9 x nr n D tk)(hT:m[T]?=some (aO (iN tk) n)/\1<=T):eh ab 51 dm (iK x nr n t0 t2 t3 m00) 5 #[true,true,true,true,true,true,false,false,false,false,false] ⟨[t0,(.ptr 0 0),t2,t3,.any,.any,.any,.any,.any,.any,.any,.any,(.tup [.arr T 0 n none,D.av]),x.av,(.arr L 0 nr none),(.ptr 0 1),(.int .i64 n),(.tup [.arr T 0 n none,D.av]),.any,.any,.any,.any,.any,.any,.any,.any,.any,.any,.any,.any,.any,.any],m⟩:=by
 have aH:Region.ready .any dm #[true,true,true,true,true,true,false,false,false,false,false]=[6,7,8]:=by kernel_rfl
 refine ⟨fun h=>(by rw[aH] at h;cases h),fun i hi=>?_⟩;rw[aH] at hi;simp only[dI,et,or_false] at hi
 rcases hi with rfl|rfl|rfl
 .refine ⟨_,by rw[H4,xc,aa],?_⟩;have e:(#[true,true,true,true,true,true,false,false,false,false,false]:Array Bool).setIfInBounds 6 true = #[true,true,true,true,true,true,true,false,false,false,false]:=by decide
  rw[e];exact X9 aF hx hb aD az n6 aI m L T D tk hl hk hd hT
 .refine ⟨_,by rw[DT,ua,aa],?_⟩;have e:(#[true,true,true,true,true,true,false,false,false,false,false]:Array Bool).setIfInBounds 7 true = #[true,true,true,true,true,true,false,true,false,false,false]:=by decide
  rw[e];exact X8 aF hx hb aD az n6 aI m L T D tk hl hk hd hT
 .refine ⟨_,qj ..,?_⟩;have e:(#[true,true,true,true,true,true,false,false,false,false,false]:Array Bool).setIfInBounds 8 true = #[true,true,true,true,true,true,false,false,true,false,false]:=by decide
  rw[e];exact OP aF hx hb aD az n6 aI (m++[cR zR]) m.length L T D tk (by rw[aK];omega) (fun p hp=>(er (by omega)).trans (hk p hp)) ⟨bX,hl⟩ hd ⟨fM hT.1,hT.2,by have:=(dX.1 hT.1).1;omega⟩
theorem X6(aF:m00[0]?=some (cM x))(hx:IsM 3 x)(hb:aP x=true)(aD:x.rows=nr)(az:x.cols=n)(n6:n<=6)(aI:nr<=60)(m:ae)(L:Nat)(T:Nat)(D:RV)(tk:Nat->Int)(hl:1<=m.length)(hk:∀p,p<1->m[p]?=m00[p]?)(hd:Res9 x nr n D tk)(hT:m[T]?=some (aO (iN tk) n)/\1<=T):eh ab 51 dm (iK x nr n t0 t2 t3 m00) 6 #[true,true,true,true,true,false,false,false,false,false,false] ⟨[t0,(.ptr 0 0),t2,t3,.any,.any,.any,.any,.any,.any,.any,.any,.any,x.av,(.arr L 0 nr none),(.ptr 0 1),(.int .i64 n),(.tup [.arr T 0 n none,D.av]),.any,.any,.any,.any,.any,.any,.any,.any,.any,.any,.any,.any,.any,.any],m⟩:=by
 have aH:Region.ready .any dm #[true,true,true,true,true,false,false,false,false,false,false]=[5,8]:=by kernel_rfl
 refine ⟨fun h=>(by rw[aH] at h;cases h),fun i hi=>?_⟩;rw[aH] at hi;simp only[dI,et,or_false] at hi
 rcases hi with rfl|rfl
 .refine ⟨_,by rw[Wd],?_⟩;have e:(#[true,true,true,true,true,false,false,false,false,false,false]:Array Bool).setIfInBounds 5 true = #[true,true,true,true,true,true,false,false,false,false,false]:=by decide
  rw[e];exact X7 aF hx hb aD az n6 aI m L T D tk hl hk hd hT
 .refine ⟨_,qj ..,?_⟩;have e:(#[true,true,true,true,true,false,false,false,false,false,false]:Array Bool).setIfInBounds 8 true = #[true,true,true,true,true,false,false,false,true,false,false]:=by decide
  rw[e];exact OO aF hx hb aD az n6 aI (m++[cR zR]) m.length L T D tk (by rw[aK];omega) (fun p hp=>(er (by omega)).trans (hk p hp)) ⟨bX,hl⟩ hd ⟨fM hT.1,hT.2,by have:=(dX.1 hT.1).1;omega⟩
theorem IU(aF:m00[0]?=some (cM x))(hx:IsM 3 x)(hb:aP x=true)(aD:x.rows=nr)(az:x.cols=n)(n6:n<=6)(aI:nr<=60)(m:ae)(q:Nat)(L:Nat)(hl:1<=m.length)(hk:∀p,p<1->m[p]?=m00[p]?)(hq:m[q]?=some (cR zR)/\1<=q)(hr:n3 x nr n m L (fun p=>1<=p/\p≠q)):eh ab 51 dm (iK x nr n t0 t2 t3 m00) 6 #[true,true,true,true,false,false,false,false,true,false,false] ⟨[t0,(.ptr 0 0),t2,t3,.any,(.ptr q 0),.any,.any,.any,.any,.any,.any,.any,x.av,(.arr L 0 nr none),(.ptr 0 1),(.int .i64 n),.any,.any,.any,.any,.any,.any,.any,.any,.any,.any,.any,.any,.any,.any,.any],m⟩:=by
 have aH:Region.ready .any dm #[true,true,true,true,false,false,false,false,true,false,false]=[4]:=by kernel_rfl
 refine ⟨fun h=>(by rw[aH] at h;cases h),fun i hi=>?_⟩;rw[aH] at hi;simp only[dI,et,or_false] at hi;subst hi;obtain ⟨m',T,D,tk,c1,c2,c3,c4,c5,c6⟩:=Ga n6 aI hr;refine ⟨_,by rw[Wc,c1,aa],?_⟩;have e:(#[true,true,true,true,false,false,false,false,true,false,false]:Array Bool).setIfInBounds 4 true = #[true,true,true,true,true,false,false,false,true,false,false]:=by decide
 rw[e];exact OO aF hx hb aD az n6 aI m' q L T D tk (by omega) (fun p hp=>(c6 p (by omega) (fun h=>by have:=h.1;omega)).trans (hk p hp)) ⟨(c6 _ (dX.1 hq.1).1 (fun h=>h.2 rfl)).trans hq.1,hq.2⟩ c2 ⟨c3,by omega,by have:=(dX.1 hq.1).1;omega⟩
theorem IT(aF:m00[0]?=some (cM x))(hx:IsM 3 x)(hb:aP x=true)(aD:x.rows=nr)(az:x.cols=n)(n6:n<=6)(aI:nr<=60)(m:ae)(q:Nat)(L:Nat)(hl:1<=m.length)(hk:∀p,p<1->m[p]?=m00[p]?)(hq:m[q]?=some (cR zR)/\1<=q)(hr:n3 x nr n m L (fun p=>1<=p/\p≠q)):eh ab 51 dm (iK x nr n t0 t2 t3 m00) 7 #[true,true,true,false,false,false,false,false,true,false,false] ⟨[t0,(.ptr 0 0),t2,t3,.any,(.ptr q 0),.any,.any,.any,.any,.any,.any,.any,x.av,(.arr L 0 nr none),(.ptr 0 1),.any,.any,.any,.any,.any,.any,.any,.any,.any,.any,.any,.any,.any,.any,.any,.any],m⟩:=by
 have aH:Region.ready .any dm #[true,true,true,false,false,false,false,false,true,false,false]=[3]:=by kernel_rfl
 refine ⟨fun h=>(by rw[aH] at h;cases h),fun i hi=>?_⟩;rw[aH] at hi;simp only[dI,et,or_false] at hi;subst hi;refine ⟨_,by rw[A9,fh ((hk 0 (by omega)).trans aF),aa,az],?_⟩;have e:(#[true,true,true,false,false,false,false,false,true,false,false]:Array Bool).setIfInBounds 3 true = #[true,true,true,true,false,false,false,false,true,false,false]:=by decide
 rw[e];exact IU aF hx hb aD az n6 aI m q L hl hk hq hr
theorem IS(aF:m00[0]?=some (cM x))(hx:IsM 3 x)(hb:aP x=true)(aD:x.rows=nr)(az:x.cols=n)(n6:n<=6)(aI:nr<=60)(m:ae)(q:Nat)(hl:1<=m.length)(hk:∀p,p<1->m[p]?=m00[p]?)(hq:m[q]?=some (cR zR)/\1<=q):eh ab 51 dm (iK x nr n t0 t2 t3 m00) 7 #[true,false,true,true,false,false,false,false,true,false,false] ⟨[t0,(.ptr 0 0),t2,t3,.any,(.ptr q 0),.any,.any,.any,.any,.any,.any,.any,x.av,.any,(.ptr 0 1),(.int .i64 n),.any,.any,.any,.any,.any,.any,.any,.any,.any,.any,.any,.any,.any,.any,.any],m⟩:=by
 have aH:Region.ready .any dm #[true,false,true,true,false,false,false,false,true,false,false]=[1]:=by kernel_rfl
 refine ⟨fun h=>(by rw[aH] at h;cases h),fun i hi=>?_⟩;rw[aH] at hi;simp only[dI,et,or_false] at hi;subst hi;obtain ⟨m',L',c1,c2,c3,c4⟩:=qT hx hb aD az m;refine ⟨_,by rw[A7,c1,aa],?_⟩;have e:(#[true,false,true,true,false,false,false,false,true,false,false]:Array Bool).setIfInBounds 1 true = #[true,true,true,true,false,false,false,false,true,false,false]:=by decide
 rw[e];exact IU aF hx hb aD az n6 aI m' q L' (by omega) (fun p hp=>(c3 p (by omega)).trans (hk p hp)) ⟨(c3 _ (dX.1 hq.1).1).trans hq.1,hq.2⟩ (c4.imp id fun ⟨S,R,es,a1,a2,a3⟩=>⟨S,R,es,a1,a2,fun p hp=>⟨(a3 p hp).1,by have:=(a3 p hp).2;have:=(dX.1 hq.1).1;omega⟩⟩)
theorem ON(aF:m00[0]?=some (cM x))(hx:IsM 3 x)(hb:aP x=true)(aD:x.rows=nr)(az:x.cols=n)(n6:n<=6)(aI:nr<=60)(m:ae)(L:Nat)(hl:1<=m.length)(hk:∀p,p<1->m[p]?=m00[p]?)(hr:n3 x nr n m L (fun p=>1<=p)):eh ab 51 dm (iK x nr n t0 t2 t3 m00) 7 #[true,true,true,true,false,false,false,false,false,false,false] ⟨[t0,(.ptr 0 0),t2,t3,.any,.any,.any,.any,.any,.any,.any,.any,.any,x.av,(.arr L 0 nr none),(.ptr 0 1),(.int .i64 n),.any,.any,.any,.any,.any,.any,.any,.any,.any,.any,.any,.any,.any,.any,.any],m⟩:=by
 have aH:Region.ready .any dm #[true,true,true,true,false,false,false,false,false,false,false]=[4,8]:=by kernel_rfl
 refine ⟨fun h=>(by rw[aH] at h;cases h),fun i hi=>?_⟩;rw[aH] at hi;simp only[dI,et,or_false] at hi
 rcases hi with rfl|rfl
 .obtain ⟨m',T,D,tk,c1,c2,c3,c4,c5,c6⟩:=Ga n6 aI hr;refine ⟨_,by rw[Wc,c1,aa],?_⟩;have e:(#[true,true,true,true,false,false,false,false,false,false,false]:Array Bool).setIfInBounds 4 true = #[true,true,true,true,true,false,false,false,false,false,false]:=by decide
  rw[e];exact X6 aF hx hb aD az n6 aI m' L T D tk (by omega) (fun p hp=>(c6 p (by omega) (fun h=>by omega)).trans (hk p hp)) c2 ⟨c3,by omega⟩
 .refine ⟨_,qj ..,?_⟩;have e:(#[true,true,true,true,false,false,false,false,false,false,false]:Array Bool).setIfInBounds 8 true = #[true,true,true,true,false,false,false,false,true,false,false]:=by decide
  rw[e];exact IU aF hx hb aD az n6 aI (m++[cR zR]) m.length L (by rw[aK];omega) (fun p hp=>(er (by omega)).trans (hk p hp)) ⟨bX,hl⟩ (hr.app _ fun p h1 h2=>⟨h2,by omega⟩)
theorem OJ(aF:m00[0]?=some (cM x))(hx:IsM 3 x)(hb:aP x=true)(aD:x.rows=nr)(az:x.cols=n)(n6:n<=6)(aI:nr<=60)(m:ae)(q:Nat)(L:Nat)(hl:1<=m.length)(hk:∀p,p<1->m[p]?=m00[p]?)(hq:m[q]?=some (cR zR)/\1<=q)(hr:n3 x nr n m L (fun p=>1<=p/\p≠q)):eh ab 51 dm (iK x nr n t0 t2 t3 m00) 8 #[true,true,false,false,false,false,false,false,true,false,false] ⟨[t0,(.ptr 0 0),t2,t3,.any,(.ptr q 0),.any,.any,.any,.any,.any,.any,.any,x.av,(.arr L 0 nr none),.any,.any,.any,.any,.any,.any,.any,.any,.any,.any,.any,.any,.any,.any,.any,.any,.any],m⟩:=by
 have aH:Region.ready .any dm #[true,true,false,false,false,false,false,false,true,false,false]=[2]:=by kernel_rfl
 refine ⟨fun h=>(by rw[aH] at h;cases h),fun i hi=>?_⟩;rw[aH] at hi;simp only[dI,et,or_false] at hi;subst hi;refine ⟨_,by rw[A8,ba,aa],?_⟩;have e:(#[true,true,false,false,false,false,false,false,true,false,false]:Array Bool).setIfInBounds 2 true = #[true,true,true,false,false,false,false,false,true,false,false]:=by decide
 rw[e];exact IT aF hx hb aD az n6 aI m q L hl hk hq hr
theorem OI(aF:m00[0]?=some (cM x))(hx:IsM 3 x)(hb:aP x=true)(aD:x.rows=nr)(az:x.cols=n)(n6:n<=6)(aI:nr<=60)(m:ae)(hl:1<=m.length)(hk:∀p,p<1->m[p]?=m00[p]?):eh ab 51 dm (iK x nr n t0 t2 t3 m00) 8 #[true,false,true,true,false,false,false,false,false,false,false] ⟨[t0,(.ptr 0 0),t2,t3,.any,.any,.any,.any,.any,.any,.any,.any,.any,x.av,.any,(.ptr 0 1),(.int .i64 n),.any,.any,.any,.any,.any,.any,.any,.any,.any,.any,.any,.any,.any,.any,.any],m⟩:=by
 have aH:Region.ready .any dm #[true,false,true,true,false,false,false,false,false,false,false]=[1,8]:=by kernel_rfl
 refine ⟨fun h=>(by rw[aH] at h;cases h),fun i hi=>?_⟩;rw[aH] at hi;simp only[dI,et,or_false] at hi
 rcases hi with rfl|rfl
 .obtain ⟨m',L',c1,c2,c3,c4⟩:=qT hx hb aD az m;refine ⟨_,by rw[A7,c1,aa],?_⟩;have e:(#[true,false,true,true,false,false,false,false,false,false,false]:Array Bool).setIfInBounds 1 true = #[true,true,true,true,false,false,false,false,false,false,false]:=by decide
  rw[e];exact ON aF hx hb aD az n6 aI m' L' (by omega) (fun p hp=>(c3 p (by omega)).trans (hk p hp)) (c4.imp id fun ⟨S,R,es,a1,a2,a3⟩=>⟨S,R,es,a1,a2,fun p hp=>⟨(a3 p hp).1,by have:=(a3 p hp).2;omega⟩⟩)
 .refine ⟨_,qj ..,?_⟩;have e:(#[true,false,true,true,false,false,false,false,false,false,false]:Array Bool).setIfInBounds 8 true = #[true,false,true,true,false,false,false,false,true,false,false]:=by decide
  rw[e];exact IS aF hx hb aD az n6 aI (m++[cR zR]) m.length (by rw[aK];omega) (fun p hp=>(er (by omega)).trans (hk p hp)) ⟨bX,hl⟩
theorem OK(aF:m00[0]?=some (cM x))(hx:IsM 3 x)(hb:aP x=true)(aD:x.rows=nr)(az:x.cols=n)(n6:n<=6)(aI:nr<=60)(m:ae)(L:Nat)(hl:1<=m.length)(hk:∀p,p<1->m[p]?=m00[p]?)(hr:n3 x nr n m L (fun p=>1<=p)):eh ab 51 dm (iK x nr n t0 t2 t3 m00) 8 #[true,true,true,false,false,false,false,false,false,false,false] ⟨[t0,(.ptr 0 0),t2,t3,.any,.any,.any,.any,.any,.any,.any,.any,.any,x.av,(.arr L 0 nr none),(.ptr 0 1),.any,.any,.any,.any,.any,.any,.any,.any,.any,.any,.any,.any,.any,.any,.any,.any],m⟩:=by
 have aH:Region.ready .any dm #[true,true,true,false,false,false,false,false,false,false,false]=[3,8]:=by kernel_rfl
 refine ⟨fun h=>(by rw[aH] at h;cases h),fun i hi=>?_⟩;rw[aH] at hi;simp only[dI,et,or_false] at hi
 rcases hi with rfl|rfl
 .refine ⟨_,by rw[A9,fh ((hk 0 (by omega)).trans aF),aa,az],?_⟩;have e:(#[true,true,true,false,false,false,false,false,false,false,false]:Array Bool).setIfInBounds 3 true = #[true,true,true,true,false,false,false,false,false,false,false]:=by decide
  rw[e];exact ON aF hx hb aD az n6 aI m L hl hk hr
 .refine ⟨_,qj ..,?_⟩;have e:(#[true,true,true,false,false,false,false,false,false,false,false]:Array Bool).setIfInBounds 8 true = #[true,true,true,false,false,false,false,false,true,false,false]:=by decide
  rw[e];exact IT aF hx hb aD az n6 aI (m++[cR zR]) m.length L (by rw[aK];omega) (fun p hp=>(er (by omega)).trans (hk p hp)) ⟨bX,hl⟩ (hr.app _ fun p h1 h2=>⟨h2,by omega⟩)
theorem OF(aF:m00[0]?=some (cM x))(hx:IsM 3 x)(hb:aP x=true)(aD:x.rows=nr)(az:x.cols=n)(n6:n<=6)(aI:nr<=60)(m:ae)(q:Nat)(hl:1<=m.length)(hk:∀p,p<1->m[p]?=m00[p]?)(hq:m[q]?=some (cR zR)/\1<=q):eh ab 51 dm (iK x nr n t0 t2 t3 m00) 8 #[false,false,true,true,false,false,false,false,true,false,false] ⟨[t0,(.ptr 0 0),t2,t3,.any,(.ptr q 0),.any,.any,.any,.any,.any,.any,.any,.any,.any,(.ptr 0 1),(.int .i64 n),.any,.any,.any,.any,.any,.any,.any,.any,.any,.any,.any,.any,.any,.any,.any],m⟩:=by
 have aH:Region.ready .any dm #[false,false,true,true,false,false,false,false,true,false,false]=[0]:=by kernel_rfl
 refine ⟨fun h=>(by rw[aH] at h;cases h),fun i hi=>?_⟩;rw[aH] at hi;simp only[dI,et,or_false] at hi;subst hi;refine ⟨_,by rw[A6,bC ((hk 0 (by omega)).trans aF),aa],?_⟩;have e:(#[false,false,true,true,false,false,false,false,true,false,false]:Array Bool).setIfInBounds 0 true = #[true,false,true,true,false,false,false,false,true,false,false]:=by decide
 rw[e];exact IS aF hx hb aD az n6 aI m q hl hk hq
theorem IQ(aF:m00[0]?=some (cM x))(hx:IsM 3 x)(hb:aP x=true)(aD:x.rows=nr)(az:x.cols=n)(n6:n<=6)(aI:nr<=60)(m:ae)(q:Nat)(hl:1<=m.length)(hk:∀p,p<1->m[p]?=m00[p]?)(hq:m[q]?=some (cR zR)/\1<=q):eh ab 51 dm (iK x nr n t0 t2 t3 m00) 8 #[true,false,true,false,false,false,false,false,true,false,false] ⟨[t0,(.ptr 0 0),t2,t3,.any,(.ptr q 0),.any,.any,.any,.any,.any,.any,.any,x.av,.any,(.ptr 0 1),.any,.any,.any,.any,.any,.any,.any,.any,.any,.any,.any,.any,.any,.any,.any,.any],m⟩:=by
 have aH:Region.ready .any dm #[true,false,true,false,false,false,false,false,true,false,false]=[1,3]:=by kernel_rfl
 refine ⟨fun h=>(by rw[aH] at h;cases h),fun i hi=>?_⟩;rw[aH] at hi;simp only[dI,et,or_false] at hi
 rcases hi with rfl|rfl
 .obtain ⟨m',L',c1,c2,c3,c4⟩:=qT hx hb aD az m;refine ⟨_,by rw[A7,c1,aa],?_⟩;have e:(#[true,false,true,false,false,false,false,false,true,false,false]:Array Bool).setIfInBounds 1 true = #[true,true,true,false,false,false,false,false,true,false,false]:=by decide
  rw[e];exact IT aF hx hb aD az n6 aI m' q L' (by omega) (fun p hp=>(c3 p (by omega)).trans (hk p hp)) ⟨(c3 _ (dX.1 hq.1).1).trans hq.1,hq.2⟩ (c4.imp id fun ⟨S,R,es,a1,a2,a3⟩=>⟨S,R,es,a1,a2,fun p hp=>⟨(a3 p hp).1,by have:=(a3 p hp).2;have:=(dX.1 hq.1).1;omega⟩⟩)
 .refine ⟨_,by rw[A9,fh ((hk 0 (by omega)).trans aF),aa,az],?_⟩;have e:(#[true,false,true,false,false,false,false,false,true,false,false]:Array Bool).setIfInBounds 3 true = #[true,false,true,true,false,false,false,false,true,false,false]:=by decide
  rw[e];exact IS aF hx hb aD az n6 aI m q hl hk hq
theorem OE(aF:m00[0]?=some (cM x))(hx:IsM 3 x)(hb:aP x=true)(aD:x.rows=nr)(az:x.cols=n)(n6:n<=6)(aI:nr<=60)(m:ae)(q:Nat)(hl:1<=m.length)(hk:∀p,p<1->m[p]?=m00[p]?)(hq:m[q]?=some (cR zR)/\1<=q):eh ab 51 dm (iK x nr n t0 t2 t3 m00) 9 #[false,false,true,false,false,false,false,false,true,false,false] ⟨[t0,(.ptr 0 0),t2,t3,.any,(.ptr q 0),.any,.any,.any,.any,.any,.any,.any,.any,.any,(.ptr 0 1),.any,.any,.any,.any,.any,.any,.any,.any,.any,.any,.any,.any,.any,.any,.any,.any],m⟩:=by
 have aH:Region.ready .any dm #[false,false,true,false,false,false,false,false,true,false,false]=[0,3]:=by kernel_rfl
 refine ⟨fun h=>(by rw[aH] at h;cases h),fun i hi=>?_⟩;rw[aH] at hi;simp only[dI,et,or_false] at hi
 rcases hi with rfl|rfl
 .refine ⟨_,by rw[A6,bC ((hk 0 (by omega)).trans aF),aa],?_⟩;have e:(#[false,false,true,false,false,false,false,false,true,false,false]:Array Bool).setIfInBounds 0 true = #[true,false,true,false,false,false,false,false,true,false,false]:=by decide
  rw[e];exact IQ aF hx hb aD az n6 aI m q hl hk hq
 .refine ⟨_,by rw[A9,fh ((hk 0 (by omega)).trans aF),aa,az],?_⟩;have e:(#[false,false,true,false,false,false,false,false,true,false,false]:Array Bool).setIfInBounds 3 true = #[false,false,true,true,false,false,false,false,true,false,false]:=by decide
  rw[e];exact OF aF hx hb aD az n6 aI m q hl hk hq
theorem X3(aF:m00[0]?=some (cM x))(hx:IsM 3 x)(hb:aP x=true)(aD:x.rows=nr)(az:x.cols=n)(n6:n<=6)(aI:nr<=60)(m:ae)(hl:1<=m.length)(hk:∀p,p<1->m[p]?=m00[p]?):eh ab 51 dm (iK x nr n t0 t2 t3 m00) 9 #[false,false,true,true,false,false,false,false,false,false,false] ⟨[t0,(.ptr 0 0),t2,t3,.any,.any,.any,.any,.any,.any,.any,.any,.any,.any,.any,(.ptr 0 1),(.int .i64 n),.any,.any,.any,.any,.any,.any,.any,.any,.any,.any,.any,.any,.any,.any,.any],m⟩:=by
 have aH:Region.ready .any dm #[false,false,true,true,false,false,false,false,false,false,false]=[0,8]:=by kernel_rfl
 refine ⟨fun h=>(by rw[aH] at h;cases h),fun i hi=>?_⟩;rw[aH] at hi;simp only[dI,et,or_false] at hi
 rcases hi with rfl|rfl
 .refine ⟨_,by rw[A6,bC ((hk 0 (by omega)).trans aF),aa],?_⟩;have e:(#[false,false,true,true,false,false,false,false,false,false,false]:Array Bool).setIfInBounds 0 true = #[true,false,true,true,false,false,false,false,false,false,false]:=by decide
  rw[e];exact OI aF hx hb aD az n6 aI m hl hk
 .refine ⟨_,qj ..,?_⟩;have e:(#[false,false,true,true,false,false,false,false,false,false,false]:Array Bool).setIfInBounds 8 true = #[false,false,true,true,false,false,false,false,true,false,false]:=by decide
  rw[e];exact OF aF hx hb aD az n6 aI (m++[cR zR]) m.length (by rw[aK];omega) (fun p hp=>(er (by omega)).trans (hk p hp)) ⟨bX,hl⟩
theorem OH(aF:m00[0]?=some (cM x))(hx:IsM 3 x)(hb:aP x=true)(aD:x.rows=nr)(az:x.cols=n)(n6:n<=6)(aI:nr<=60)(m:ae)(hl:1<=m.length)(hk:∀p,p<1->m[p]?=m00[p]?):eh ab 51 dm (iK x nr n t0 t2 t3 m00) 9 #[true,false,true,false,false,false,false,false,false,false,false] ⟨[t0,(.ptr 0 0),t2,t3,.any,.any,.any,.any,.any,.any,.any,.any,.any,x.av,.any,(.ptr 0 1),.any,.any,.any,.any,.any,.any,.any,.any,.any,.any,.any,.any,.any,.any,.any,.any],m⟩:=by
 have aH:Region.ready .any dm #[true,false,true,false,false,false,false,false,false,false,false]=[1,3,8]:=by kernel_rfl
 refine ⟨fun h=>(by rw[aH] at h;cases h),fun i hi=>?_⟩;rw[aH] at hi;simp only[dI,et,or_false] at hi
 rcases hi with rfl|rfl|rfl
 .obtain ⟨m',L',c1,c2,c3,c4⟩:=qT hx hb aD az m;refine ⟨_,by rw[A7,c1,aa],?_⟩;have e:(#[true,false,true,false,false,false,false,false,false,false,false]:Array Bool).setIfInBounds 1 true = #[true,true,true,false,false,false,false,false,false,false,false]:=by decide
  rw[e];exact OK aF hx hb aD az n6 aI m' L' (by omega) (fun p hp=>(c3 p (by omega)).trans (hk p hp)) (c4.imp id fun ⟨S,R,es,a1,a2,a3⟩=>⟨S,R,es,a1,a2,fun p hp=>⟨(a3 p hp).1,by have:=(a3 p hp).2;omega⟩⟩)
 .refine ⟨_,by rw[A9,fh ((hk 0 (by omega)).trans aF),aa,az],?_⟩;have e:(#[true,false,true,false,false,false,false,false,false,false,false]:Array Bool).setIfInBounds 3 true = #[true,false,true,true,false,false,false,false,false,false,false]:=by decide
  rw[e];exact OI aF hx hb aD az n6 aI m hl hk
 .refine ⟨_,qj ..,?_⟩;have e:(#[true,false,true,false,false,false,false,false,false,false,false]:Array Bool).setIfInBounds 8 true = #[true,false,true,false,false,false,false,false,true,false,false]:=by decide
  rw[e];exact IQ aF hx hb aD az n6 aI (m++[cR zR]) m.length (by rw[aK];omega) (fun p hp=>(er (by omega)).trans (hk p hp)) ⟨bX,hl⟩
theorem X5(aF:m00[0]?=some (cM x))(hx:IsM 3 x)(hb:aP x=true)(aD:x.rows=nr)(az:x.cols=n)(n6:n<=6)(aI:nr<=60)(m:ae)(L:Nat)(hl:1<=m.length)(hk:∀p,p<1->m[p]?=m00[p]?)(hr:n3 x nr n m L (fun p=>1<=p)):eh ab 51 dm (iK x nr n t0 t2 t3 m00) 9 #[true,true,false,false,false,false,false,false,false,false,false] ⟨[t0,(.ptr 0 0),t2,t3,.any,.any,.any,.any,.any,.any,.any,.any,.any,x.av,(.arr L 0 nr none),.any,.any,.any,.any,.any,.any,.any,.any,.any,.any,.any,.any,.any,.any,.any,.any,.any],m⟩:=by
 have aH:Region.ready .any dm #[true,true,false,false,false,false,false,false,false,false,false]=[2,8]:=by kernel_rfl
 refine ⟨fun h=>(by rw[aH] at h;cases h),fun i hi=>?_⟩;rw[aH] at hi;simp only[dI,et,or_false] at hi
 rcases hi with rfl|rfl
 .refine ⟨_,by rw[A8,ba,aa],?_⟩;have e:(#[true,true,false,false,false,false,false,false,false,false,false]:Array Bool).setIfInBounds 2 true = #[true,true,true,false,false,false,false,false,false,false,false]:=by decide
  rw[e];exact OK aF hx hb aD az n6 aI m L hl hk hr
 .refine ⟨_,qj ..,?_⟩;have e:(#[true,true,false,false,false,false,false,false,false,false,false]:Array Bool).setIfInBounds 8 true = #[true,true,false,false,false,false,false,false,true,false,false]:=by decide
  rw[e];exact OJ aF hx hb aD az n6 aI (m++[cR zR]) m.length L (by rw[aK];omega) (fun p hp=>(er (by omega)).trans (hk p hp)) ⟨bX,hl⟩ (hr.app _ fun p h1 h2=>⟨h2,by omega⟩)
theorem OG(aF:m00[0]?=some (cM x))(hx:IsM 3 x)(hb:aP x=true)(aD:x.rows=nr)(az:x.cols=n)(n6:n<=6)(aI:nr<=60)(m:ae)(q:Nat)(hl:1<=m.length)(hk:∀p,p<1->m[p]?=m00[p]?)(hq:m[q]?=some (cR zR)/\1<=q):eh ab 51 dm (iK x nr n t0 t2 t3 m00) 9 #[true,false,false,false,false,false,false,false,true,false,false] ⟨[t0,(.ptr 0 0),t2,t3,.any,(.ptr q 0),.any,.any,.any,.any,.any,.any,.any,x.av,.any,.any,.any,.any,.any,.any,.any,.any,.any,.any,.any,.any,.any,.any,.any,.any,.any,.any],m⟩:=by
 have aH:Region.ready .any dm #[true,false,false,false,false,false,false,false,true,false,false]=[1,2]:=by kernel_rfl
 refine ⟨fun h=>(by rw[aH] at h;cases h),fun i hi=>?_⟩;rw[aH] at hi;simp only[dI,et,or_false] at hi
 rcases hi with rfl|rfl
 .obtain ⟨m',L',c1,c2,c3,c4⟩:=qT hx hb aD az m;refine ⟨_,by rw[A7,c1,aa],?_⟩;have e:(#[true,false,false,false,false,false,false,false,true,false,false]:Array Bool).setIfInBounds 1 true = #[true,true,false,false,false,false,false,false,true,false,false]:=by decide
  rw[e];exact OJ aF hx hb aD az n6 aI m' q L' (by omega) (fun p hp=>(c3 p (by omega)).trans (hk p hp)) ⟨(c3 _ (dX.1 hq.1).1).trans hq.1,hq.2⟩ (c4.imp id fun ⟨S,R,es,a1,a2,a3⟩=>⟨S,R,es,a1,a2,fun p hp=>⟨(a3 p hp).1,by have:=(a3 p hp).2;have:=(dX.1 hq.1).1;omega⟩⟩)
 .refine ⟨_,by rw[A8,ba,aa],?_⟩;have e:(#[true,false,false,false,false,false,false,false,true,false,false]:Array Bool).setIfInBounds 2 true = #[true,false,true,false,false,false,false,false,true,false,false]:=by decide
  rw[e];exact IQ aF hx hb aD az n6 aI m q hl hk hq
theorem X1(aF:m00[0]?=some (cM x))(hx:IsM 3 x)(hb:aP x=true)(aD:x.rows=nr)(az:x.cols=n)(n6:n<=6)(aI:nr<=60)(m:ae)(q:Nat)(hl:1<=m.length)(hk:∀p,p<1->m[p]?=m00[p]?)(hq:m[q]?=some (cR zR)/\1<=q):eh ab 51 dm (iK x nr n t0 t2 t3 m00) 10 #[false,false,false,false,false,false,false,false,true,false,false] ⟨[t0,(.ptr 0 0),t2,t3,.any,(.ptr q 0),.any,.any,.any,.any,.any,.any,.any,.any,.any,.any,.any,.any,.any,.any,.any,.any,.any,.any,.any,.any,.any,.any,.any,.any,.any,.any],m⟩:=by
 have aH:Region.ready .any dm #[false,false,false,false,false,false,false,false,true,false,false]=[0,2]:=by kernel_rfl
 refine ⟨fun h=>(by rw[aH] at h;cases h),fun i hi=>?_⟩;rw[aH] at hi;simp only[dI,et,or_false] at hi
 rcases hi with rfl|rfl
 .refine ⟨_,by rw[A6,bC ((hk 0 (by omega)).trans aF),aa],?_⟩;have e:(#[false,false,false,false,false,false,false,false,true,false,false]:Array Bool).setIfInBounds 0 true = #[true,false,false,false,false,false,false,false,true,false,false]:=by decide
  rw[e];exact OG aF hx hb aD az n6 aI m q hl hk hq
 .refine ⟨_,by rw[A8,ba,aa],?_⟩;have e:(#[false,false,false,false,false,false,false,false,true,false,false]:Array Bool).setIfInBounds 2 true = #[false,false,true,false,false,false,false,false,true,false,false]:=by decide
  rw[e];exact OE aF hx hb aD az n6 aI m q hl hk hq
theorem X2(aF:m00[0]?=some (cM x))(hx:IsM 3 x)(hb:aP x=true)(aD:x.rows=nr)(az:x.cols=n)(n6:n<=6)(aI:nr<=60)(m:ae)(hl:1<=m.length)(hk:∀p,p<1->m[p]?=m00[p]?):eh ab 51 dm (iK x nr n t0 t2 t3 m00) 10 #[false,false,true,false,false,false,false,false,false,false,false] ⟨[t0,(.ptr 0 0),t2,t3,.any,.any,.any,.any,.any,.any,.any,.any,.any,.any,.any,(.ptr 0 1),.any,.any,.any,.any,.any,.any,.any,.any,.any,.any,.any,.any,.any,.any,.any,.any],m⟩:=by
 have aH:Region.ready .any dm #[false,false,true,false,false,false,false,false,false,false,false]=[0,3,8]:=by kernel_rfl
 refine ⟨fun h=>(by rw[aH] at h;cases h),fun i hi=>?_⟩;rw[aH] at hi;simp only[dI,et,or_false] at hi
 rcases hi with rfl|rfl|rfl
 .refine ⟨_,by rw[A6,bC ((hk 0 (by omega)).trans aF),aa],?_⟩;have e:(#[false,false,true,false,false,false,false,false,false,false,false]:Array Bool).setIfInBounds 0 true = #[true,false,true,false,false,false,false,false,false,false,false]:=by decide
  rw[e];exact OH aF hx hb aD az n6 aI m hl hk
 .refine ⟨_,by rw[A9,fh ((hk 0 (by omega)).trans aF),aa,az],?_⟩;have e:(#[false,false,true,false,false,false,false,false,false,false,false]:Array Bool).setIfInBounds 3 true = #[false,false,true,true,false,false,false,false,false,false,false]:=by decide
  rw[e];exact X3 aF hx hb aD az n6 aI m hl hk
 .refine ⟨_,qj ..,?_⟩;have e:(#[false,false,true,false,false,false,false,false,false,false,false]:Array Bool).setIfInBounds 8 true = #[false,false,true,false,false,false,false,false,true,false,false]:=by decide
  rw[e];exact OE aF hx hb aD az n6 aI (m++[cR zR]) m.length (by rw[aK];omega) (fun p hp=>(er (by omega)).trans (hk p hp)) ⟨bX,hl⟩
theorem X4(aF:m00[0]?=some (cM x))(hx:IsM 3 x)(hb:aP x=true)(aD:x.rows=nr)(az:x.cols=n)(n6:n<=6)(aI:nr<=60)(m:ae)(hl:1<=m.length)(hk:∀p,p<1->m[p]?=m00[p]?):eh ab 51 dm (iK x nr n t0 t2 t3 m00) 10 #[true,false,false,false,false,false,false,false,false,false,false] ⟨[t0,(.ptr 0 0),t2,t3,.any,.any,.any,.any,.any,.any,.any,.any,.any,x.av,.any,.any,.any,.any,.any,.any,.any,.any,.any,.any,.any,.any,.any,.any,.any,.any,.any,.any],m⟩:=by
 have aH:Region.ready .any dm #[true,false,false,false,false,false,false,false,false,false,false]=[1,2,8]:=by kernel_rfl
 refine ⟨fun h=>(by rw[aH] at h;cases h),fun i hi=>?_⟩;rw[aH] at hi;simp only[dI,et,or_false] at hi
 rcases hi with rfl|rfl|rfl
 .obtain ⟨m',L',c1,c2,c3,c4⟩:=qT hx hb aD az m;refine ⟨_,by rw[A7,c1,aa],?_⟩;have e:(#[true,false,false,false,false,false,false,false,false,false,false]:Array Bool).setIfInBounds 1 true = #[true,true,false,false,false,false,false,false,false,false,false]:=by decide
  rw[e];exact X5 aF hx hb aD az n6 aI m' L' (by omega) (fun p hp=>(c3 p (by omega)).trans (hk p hp)) (c4.imp id fun ⟨S,R,es,a1,a2,a3⟩=>⟨S,R,es,a1,a2,fun p hp=>⟨(a3 p hp).1,by have:=(a3 p hp).2;omega⟩⟩)
 .refine ⟨_,by rw[A8,ba,aa],?_⟩;have e:(#[true,false,false,false,false,false,false,false,false,false,false]:Array Bool).setIfInBounds 2 true = #[true,false,true,false,false,false,false,false,false,false,false]:=by decide
  rw[e];exact OH aF hx hb aD az n6 aI m hl hk
 .refine ⟨_,qj ..,?_⟩;have e:(#[true,false,false,false,false,false,false,false,false,false,false]:Array Bool).setIfInBounds 8 true = #[true,false,false,false,false,false,false,false,true,false,false]:=by decide
  rw[e];exact OG aF hx hb aD az n6 aI (m++[cR zR]) m.length (by rw[aK];omega) (fun p hp=>(er (by omega)).trans (hk p hp)) ⟨bX,hl⟩
theorem X0(aF:m00[0]?=some (cM x))(hx:IsM 3 x)(hb:aP x=true)(aD:x.rows=nr)(az:x.cols=n)(n6:n<=6)(aI:nr<=60)(m:ae)(hl:1<=m.length)(hk:∀p,p<1->m[p]?=m00[p]?):eh ab 51 dm (iK x nr n t0 t2 t3 m00) 11 #[false,false,false,false,false,false,false,false,false,false,false] ⟨[t0,(.ptr 0 0),t2,t3,.any,.any,.any,.any,.any,.any,.any,.any,.any,.any,.any,.any,.any,.any,.any,.any,.any,.any,.any,.any,.any,.any,.any,.any,.any,.any,.any,.any],m⟩:=by
 have aH:Region.ready .any dm #[false,false,false,false,false,false,false,false,false,false,false]=[0,2,8]:=by kernel_rfl
 refine ⟨fun h=>(by rw[aH] at h;cases h),fun i hi=>?_⟩;rw[aH] at hi;simp only[dI,et,or_false] at hi
 rcases hi with rfl|rfl|rfl
 .refine ⟨_,by rw[A6,bC ((hk 0 (by omega)).trans aF),aa],?_⟩;have e:(#[false,false,false,false,false,false,false,false,false,false,false]:Array Bool).setIfInBounds 0 true = #[true,false,false,false,false,false,false,false,false,false,false]:=by decide
  rw[e];exact X4 aF hx hb aD az n6 aI m hl hk
 .refine ⟨_,by rw[A8,ba,aa],?_⟩;have e:(#[false,false,false,false,false,false,false,false,false,false,false]:Array Bool).setIfInBounds 2 true = #[false,false,true,false,false,false,false,false,false,false,false]:=by decide
  rw[e];exact X2 aF hx hb aD az n6 aI m hl hk
 .refine ⟨_,qj ..,?_⟩;have e:(#[false,false,false,false,false,false,false,false,false,false,false]:Array Bool).setIfInBounds 8 true = #[false,false,false,false,false,false,false,false,true,false,false]:=by decide
  rw[e];exact X1 aF hx hb aD az n6 aI (m++[cR zR]) m.length (by rw[aK];omega) (fun p hp=>(er (by omega)).trans (hk p hp)) ⟨bX,hl⟩
end
end Go.Ab
namespace Go.Ab
open Go.Proofs.Try Go.RowKit
theorem Qj(x:MV)(K:KT):aq ab 51 (AP ab) (AC ab) (c1 (al f51)) ⟨[x.av,.any,.any,.any,.any,.any,.any,.any,.any,.any,.any,.any,.any,.any,.any,.any,.any,.any,.any,.any,.any,.any,.any,.any,.any,.any,.any,.any,.any,.any,.any,.any],[]⟩ K=K .normal ⟨[x.av,(.ptr 0 0),(.int .i64 0),(.int .i64 0),.any,.any,.any,.any,.any,.any,.any,.any,.any,.any,.any,.any,.any,.any,.any,.any,.any,.any,.any,.any,.any,.any,.any,.any,.any,.any,.any,.any],[cM x]⟩:=by
 rw[qbz,im,aa];rfl
theorem qbF{x:MV}(hx:IsM 3 x)(hb:aP x=false)(K:KT):aq ab 51 (AP ab) (AC ab) (c1 (c2 (al f51))) ⟨[.any,(.ptr 0 0),(.int .i64 0),(.int .i64 0),.any,.any,.any,.any,.any,.any,.any,.any,.any,.any,.any,.any,.any,.any,.any,.any,.any,.any,.any,.any,.any,.any,.any,.any,.any,.any,.any,.any],[cM x]⟩ K=K .ret ⟨[.any,(.ptr 0 0),(.int .i64 0),(.int .i64 1),.any,.any,.any,.any,.any,x.av,(.bool false),(.bool true),.any,.any,.any,.any,.any,.any,.any,.any,.any,.any,.any,.any,.any,.any,.any,.any,.any,.any,.any,.any],[cM x]⟩:=by
 have e21:=qs hx.ok (k:=3) (by omega) (by have:=hx.len;omega);rw[Qi,bC (x:=x) rfl,aa,lS,hx.fr,e21,ar,aa,bB,aa,hb,mZ,jj]
theorem qbG{x:MV}(hx:IsM 3 x)(hb:aP x=true)(K:KT):aq ab 51 (AP ab) (AC ab) (c1 (c2 (al f51))) ⟨[.any,(.ptr 0 0),(.int .i64 0),(.int .i64 0),.any,.any,.any,.any,.any,.any,.any,.any,.any,.any,.any,.any,.any,.any,.any,.any,.any,.any,.any,.any,.any,.any,.any,.any,.any,.any,.any,.any],[cM x]⟩ K=K .normal ⟨[.any,(.ptr 0 0),(.int .i64 0),(.int .i64 0),.any,.any,.any,.any,.any,x.av,(.bool true),(.bool false),.any,.any,.any,.any,.any,.any,.any,.any,.any,.any,.any,.any,.any,.any,.any,.any,.any,.any,.any,.any],[cM x]⟩:=by
 have e21:=qs hx.ok (k:=3) (by omega) (by have:=hx.len;omega);rw[Qi,bC (x:=x) rfl,aa,lS,hx.fr,e21,ar,aa,bB,aa,hb,gk,fF]
theorem qi4(ts:List AV)(m:ae)(a b:Int)(h2:ts.getD 2 .any=.int .i64 a)(h3:ts.getD 3 .any=.int .i64 b):lU prog m ts f51.results.toList=some [.int .i64 a,.int .i64 b]:=by
 have e1:f51.results.toList=[.tmp 2,.tmp 3]:=by kernel_rfl
 have e2:sN prog m ts (.tmp 2)=some (ts.getD 2 .any):=by kernel_rfl
 have e3:sN prog m ts (.tmp 3)=some (ts.getD 3 .any):=by kernel_rfl
 rw[e1,lU,e2,h2];simp only[lU,e3,h3,aa]
 rfl
theorem Sj{B:Nat}{w:World}{g:G}{k e:Int}{st:St}{a:Act}{w1:World}{g1:G}(hm:MemR B w g [])(hs:StR B w1 g1 st a)(s:Step B w g w1 g1)(h2:st.tmps.getD 2 .any=.int .i64 k)(h3:st.tmps.getD 3 .any=.int .i64 e)(hd:a.defers=[]) :
  bodyPostM Fence.wide 5 prog f51 (fun e' w'=>∃v' g',e'=.returned v'/\Step B w g w' g'/\MemR B w' g' []/\V w' g' (.tup [.int .i64 k,.int .i64 e]) v') .ret a w1:=by
 refine Mz hs (qi4 _ _ k e h2 h3) hd fun v hv=>?_;refine ⟨v,g1.bare,rfl,s.bare hm,hs.mem.none,?_⟩;exact V.bare hv rfl
theorem Rb{n T:Nat}{tk:Nat->Int}{m:ae}(hn:n<=60)(h:m[T]?=some (aO (iN tk) n))(K:KT):∀(e i:Nat),i+e=n ->
  BP (.int .i64 (ma tk i:Nat)) (.arr T 0 n none) (.int .i64 n) (.int .i64 i) m K=K (.exit 0) (JT (.int .i64 (ma tk n:Nat)) m)
 | 0,i,hi=>by
  obtain rfl:i=n:=by omega
  rw[PT,bR,aa,aw,ag (by omega)]
 | e+1,i,hi=>by
  have aU:i<n:=by omega
  have hle:∀j,ma tk j<=j:=by
   intro j
   induction j with
   | zero=>exact aW _
   | succ j ih=>rw[ma];split<;>omega
  have hc:=hle i;have ih:=Rb hn h K e (i+1) (by omega);rw[PT,bR,aa,aw,aj aU,mD aU,aa,B7 h aU,aa];show (af .other .geq (.int .i64 (tk i)) (.int .i64 0)).bind _=_;rw[o9,aa,aw]
  by_cases h0:tk i≥0
  .rw[aj h0,eF (by omega),aa,eF (by omega),aa];rw[ma,aj h0] at ih;exact ih
  .rw[ag h0,eF (by omega),aa];rw[ma,ag h0] at ih;exact ih
theorem qbH{m:ae}{n T:Nat}{tk:Nat->Int}(hn:n<=60)(h:m[T]?=some (aO (iN tk) n))(K:KT):aq ab 51 (AP ab) (AC ab) (c2 (c2 (c2 (al f51)))) ⟨[.any,.any,.any,.any,(.arr T 0 n none),.any,.any,.any,.any,.any,.any,.any,.any,.any,.any,.any,.any,.any,.any,.any,.any,.any,.any,.any,.any,.any,.any,.any,.any,.any,.any,.any],m⟩ K=K .ret ⟨[.any,.any,(.int .i64 (ma tk n:Nat)),(.int .i64 0),.any,.any,(.int .i64 (ma tk n:Nat)),.any,.any,.any,.any,.any,.any,.any,.any,.any,.any,.any,.any,.any,.any,.any,.any,.any,.any,.any,.any,.any,.any,.any,.any,(.int .i64 (ma tk n:Nat))],m⟩:=by
 rw[qbA,ux,aa];refine (Rb hn h (Jc K) n 0 (by omega)).trans ?_;rw[ZL]
theorem qft{x:MV}(hx:IsM 3 x)(hb:aP x=false):kr prog 51 [x.av] [] (.tup [.int .i64 0,.int .i64 1]) []:=by
 intro B w g vs hm hB hl hv;refine (callsIn_wide (n:=5)).1 ?_;have hF:ik Fence.wide:=.inl rfl;refine callsIn_of_wp_marks (fn:=f51) (c:=al f51) ?hf ?hb ?hF ?hh ?hro
 case hf=>exact LG
 case hb=>exact Lv
 case hF=>exact hF.fn 51
 case hro=>rfl
 have oh:vs.size=1:=by simpa using hl.symm
 rw[U3,oh];have kO:=tZ hl hv 31;rw[Se];refine wpIn_seq (hG (C:=ab) fC nb hF Cj.1 (e0:=.normal) (fun K=>Qj x K) (show StR B w g _ _ from ⟨kO,hm,hB⟩) fun a1 w1 g1 eM s1 iP=>?_)
 have p1:=eM.pat (P:=[.any,(.ptr 0 0),(.int .i64 0),(.int .i64 0),.any,.any,.any,.any,.any,.any,.any,.any,.any,.any,.any,.any,.any,.any,.any,.any,.any,.any,.any,.any,.any,.any,.any,.any,.any,.any,.any,.any]) rfl (fun t=>by
   match t with
   | 1|2|3=>exact .inl rfl
   | 0=>exact .inr rfl
   | t+4=>exact .inr (jy 28 t))
 refine wpIn_seq (hG (C:=ab) fC nb hF Cj.2.1 (e0:=.ret) (fun K=>qbF hx hb K) p1 fun a2 w2 g2 eS s2 jz=>?_);exact Sj hm eS (s1.trans s2) rfl rfl (jz.trans iP)
theorem qfu{x:MV}{nr n:Nat}(hx:IsM 3 x)(hb:aP x=true)(aD:x.rows=nr)(az:x.cols=n)(n6:n<=6)(aI:nr<=60):kr prog 51 [x.av] [] (.tup [.int .i64 (gG (mT nr n (eW x n)) n:Nat),.int .i64 0]) []:=by
 intro B w g vs hm hB hl hv;refine (callsIn_wide (n:=5)).1 ?_;have hF:ik Fence.wide:=.inl rfl;refine callsIn_of_wp_marks (fn:=f51) (c:=al f51) ?hf ?hb ?hF ?hh ?hro
 case hf=>exact LG
 case hb=>exact Lv
 case hF=>exact hF.fn 51
 case hro=>rfl
 have oh:vs.size=1:=by simpa using hl.symm
 rw[U3,oh];have kO:=tZ hl hv 31;rw[Se];refine wpIn_seq (hG (C:=ab) fC nb hF Cj.1 (e0:=.normal) (fun K=>Qj x K) (show StR B w g _ _ from ⟨kO,hm,hB⟩) fun a1 w1 g1 eM s1 iP=>?_)
 have p1:=eM.pat (P:=[.any,(.ptr 0 0),(.int .i64 0),(.int .i64 0),.any,.any,.any,.any,.any,.any,.any,.any,.any,.any,.any,.any,.any,.any,.any,.any,.any,.any,.any,.any,.any,.any,.any,.any,.any,.any,.any,.any]) rfl (fun t=>by
   match t with
   | 1|2|3=>exact .inl rfl
   | 0=>exact .inr rfl
   | t+4=>exact .inr (jy 28 t))
 refine wpIn_seq (hG (C:=ab) fC nb hF Cj.2.1 (e0:=.normal) (fun K=>qbG hx hb K) p1 fun a2 w2 g2 eS s2 jz=>?_)
 have p2:=eS.pat (P:=[.any,(.ptr 0 0),.any,.any,.any,.any,.any,.any,.any,.any,.any,.any,.any,.any,.any,.any,.any,.any,.any,.any,.any,.any,.any,.any,.any,.any,.any,.any,.any,.any,.any,.any]) rfl (fun t=>by
   match t with
   | 1=>exact .inl rfl
   | 0|2|3|4|5|6|7|8|9|10|11=>exact .inr rfl
   | t+12=>exact .inr (jy 20 t))
 refine wpIn_seq (Sg (C:=ab) (fid:=51) fC nb hF (by kernel_rfl) (Ok:=iK x nr n .any .any .any [cM x]) ?_ p2 fun st' a3 w3 g3 ho uW s3 sb=>?_)
 .rw[qjS];exact X0 rfl hx hb aD az n6 aI [cM x] (aW _) (fun p hp=>rfl)
 obtain ⟨m,q,T,L,D,tk,rfl,h1,hR,h3,h4⟩:=ho
 have p3:=uW.pat (P:=[.any,.any,.any,.any,(.arr T 0 n none),.any,.any,.any,.any,.any,.any,.any,.any,.any,.any,.any,.any,.any,.any,.any,.any,.any,.any,.any,.any,.any,.any,.any,.any,.any,.any,.any]) rfl (fun t=>by
   match t with
   | 4=>exact .inl rfl
   | 0|1|2|3|5|6|7|8|9|10|11|12|13|14|15|16|17|18|19=>exact .inr rfl
   | t+20=>exact .inr (jy 12 t))
 refine hG (C:=ab) fC nb hF Cj.2.2 (e0:=.ret) (fun K=>qbH (by omega) h3 K) p3 fun a4 w4 g4 yB s4 sc=>?_;rw[<- hR.cnt];exact Sj hm yB (((s1.trans s2).trans s3).trans s4) rfl rfl (sc.trans (sb.trans (jz.trans iP)))
end Go.Ab
namespace Go.Ab
open Go.Proofs.Try Go.RowKit
theorem qiS(q:Rat):(nB q).fr=nB q:=by simp only[nB,RV.fr,gZ]
theorem qiR(q:Rat):Can (nB q) q:=⟨rfl,jd _,jd _,vo _,vo _⟩
structure DetQ (x:MV) (R:RV) (e:Int):Prop where
 xfr:x.fr=x
 fr:R.fr=R
 call:kr prog 49 [x.av] [] (.tup [R.av,.int .i64 e]) []
 bad:aP x=false->e=1/\R=zR
 shape:aP x=true->x.rows≠x.cols->e=30/\R=zR
 ok:aP x=true->∀n:Nat,x.rows=n->x.cols=n->e=0/\Can R (det n (eW x n))
theorem qfy{x:MV}(hx:IsM 3 x)(h6:aP x=true->x.rows<=6):∃R e,DetQ x R e:=by
 cases hb:aP x with
 | false=>
  refine ⟨zR,1,⟨hx.fr,rfl,qfq hx hb,fun _=>⟨rfl,rfl⟩,fun h=>?_,fun h=>?_⟩⟩
  .rw[hb] at h;cases h
  .rw[hb] at h;cases h
 | true=>
  by_cases hc:x.rows=x.cols
  .obtain ⟨r,c,hr,kG,_,_,_⟩:=qg hb;have TX:=h6 hb
   refine ⟨nB (det r (eW x r)),0,⟨hx.fr,qiS _,qfs hx hb hr (hc▸hr) (by omega),fun h=>?_,fun _ h=>absurd hc h,fun _ n hn _=>⟨rfl,?_⟩⟩⟩
   .rw[hb] at h;cases h
   .obtain rfl:n=r:=by omega
    exact qiR _
  .refine ⟨zR,30,⟨hx.fr,rfl,qfr hx hb hc,fun h=>?_,fun _ _=>⟨rfl,rfl⟩,fun _ n h1 h2=>absurd (h1.trans h2.symm) hc⟩⟩;rw[hb] at h;cases h
theorem qe9{x:MV}{R:RV}{e:Int}(h:DetQ x R e)(m:ae):kr prog 49 [x.av] m (.tup [R.av,.int .i64 e]) m:=by
 intro B w g vs hm hB hl hv
 have hf:bJ (frz m eo) [x.av]=some ([x.av],[]):=by
  have e:frz m eo x.av=some (x.fr.av,[]):=lH x m;simp only[bJ,e,h.xfr,aa,ar,bN]
 classical
 refine HM hm hB (P:=prog) (f:=49) (call:=fun f args m=>if f=49/\args=[x.av]/\m=[] then some (.tup [R.av,.int .i64 e],[]) else none) (fun args m v m' h'=>?_) hl hv hf (r:=.tup [R.av,.int .i64 e]) ?_
 .simp only at h'
  split at h'
  .rename_i hc;obtain ⟨_,rfl,rfl⟩:=hc;simp only[bp,dT] at h';obtain ⟨rfl,rfl⟩:=h';exact h.call
  .cases h'
 .simp only[gv,true_and,eC,aa];have e1:frz [] eo (.tup [R.av,.int .i64 e])=some (.tup [R.fr.av,.int .i64 e],[]):=uF R (gH _ _) [];rw[e1,h.fr]
  rfl
open Classical in
noncomputable def Am(vs:List AV):Option AV:=if h:∃p:MV×RV×Int,DetQ p.1 p.2.1 p.2.2/\vs=[p.1.av] then some (.tup [(Classical.choose h).2.1.av,.int .i64 (Classical.choose h).2.2]) else none
theorem qgk{x:MV}{R0:RV}{e0:Int}(hx:DetQ x R0 e0):∃R e,Am [x.av]=some (.tup [R.av,.int .i64 e])/\DetQ x R e:=by
 have h:∃p:MV×RV×Int,DetQ p.1 p.2.1 p.2.2/\[x.av]=[p.1.av]:=⟨(x,R0,e0),hx,rfl⟩;obtain ⟨h1,e⟩:=Classical.choose_spec h;have e1:=MV.av_inj (List.cons.inj e).1;have h2:Am [x.av]=some (.tup [(Classical.choose h).2.1.av,.int .i64 (Classical.choose h).2.2]):=by unfold Am;rw[dif_pos h]
 generalize Classical.choose h=p at h1 e1 h2;exact ⟨_,_,h2,e1▸h1⟩
structure RankQ (x:MV) (k e:Int):Prop where
 xfr:x.fr=x
 call:kr prog 51 [x.av] [] (.tup [.int .i64 k,.int .i64 e]) []
 val:k=(if aP x=true then (HU x:Int) else 0)/\e=(if aP x=true then 0 else 1)
theorem qiO{x:MV}(hx:IsM 3 x)(h6:aP x=true->x.cols<=6):∃k e,RankQ x k e:=by
 cases hb:aP x with
 | false=>exact ⟨0,1,⟨hx.fr,qft hx hb,by rw[hb];exact ⟨rfl,rfl⟩⟩⟩
 | true=>
  obtain ⟨r,c,hr,hc,aI,_,_⟩:=qg hb;have hc6:=h6 hb;refine ⟨_,0,⟨hx.fr,qfu hx hb hr hc (by omega) aI,?_⟩⟩;rw[hb,aj rfl,aj rfl];refine ⟨?_,rfl⟩;have e1:x.rows.toNat=r:=by rw[hr];rfl
  have e2:x.cols.toNat=c:=by rw[hc];rfl
  unfold HU;rw[e1,e2]
theorem qfa{x:MV}{k e:Int}(h:RankQ x k e)(m:ae):kr prog 51 [x.av] m (.tup [.int .i64 k,.int .i64 e]) m:=by
 intro B w g vs hm hB hl hv
 have hf:bJ (frz m eo) [x.av]=some ([x.av],[]):=by
  have e:frz m eo x.av=some (x.fr.av,[]):=lH x m;simp only[bJ,e,h.xfr,aa,ar,bN]
 classical
 refine HM hm hB (P:=prog) (f:=51) (call:=fun f args m=>if f=51/\args=[x.av]/\m=[] then some (.tup [.int .i64 k,.int .i64 e],[]) else none) (fun args m v m' h'=>?_) hl hv hf (r:=.tup [.int .i64 k,.int .i64 e]) ?_
 .simp only at h'
  split at h'
  .rename_i hc;obtain ⟨_,rfl,rfl⟩:=hc;simp only[bp,dT] at h';obtain ⟨rfl,rfl⟩:=h';exact h.call
  .cases h'
 .simp only[gv,true_and,eC,aa];have e1:frz [] eo (.tup [.int .i64 k,.int .i64 e])=some (.tup [.int .i64 k,.int .i64 e],[]):=GD k e [];rw[e1]
  rfl
open Classical in
noncomputable def An(vs:List AV):Option AV:=if h:∃p:MV×Int×Int,RankQ p.1 p.2.1 p.2.2/\vs=[p.1.av] then some (.tup [.int .i64 (Classical.choose h).2.1,.int .i64 (Classical.choose h).2.2]) else none
theorem qgl{x:MV}{k0 e0:Int}(hx:RankQ x k0 e0):∃k e,An [x.av]=some (.tup [.int .i64 k,.int .i64 e])/\RankQ x k e:=by
 have h:∃p:MV×Int×Int,RankQ p.1 p.2.1 p.2.2/\[x.av]=[p.1.av]:=⟨(x,k0,e0),hx,rfl⟩;obtain ⟨h1,e⟩:=Classical.choose_spec h;have e1:=MV.av_inj (List.cons.inj e).1;have h2:An [x.av]=some (.tup [.int .i64 (Classical.choose h).2.1,.int .i64 (Classical.choose h).2.2]):=by unfold An;rw[dif_pos h]
 generalize Classical.choose h=p at h1 e1 h2;exact ⟨_,_,h2,e1▸h1⟩
noncomputable def Dr(g:Nat):Option (List AV->Option AV):=match Nat.beq g 47 with
 | true=>some wi
 | false=>match Nat.beq g 49 with
  | true=>some Am
  | false=>match Nat.beq g 51 with
   | true=>some An
   | false=>ab.lib g
noncomputable def fN:Cfg:=ab.plug Dr
theorem qiv:qq ab Dr:=fun g=>by
 unfold Dr
 cases hb:Nat.beq g 47 with
 | true=>right;have:=mz hb;subst this;rfl
 | false=>
  cases ng:Nat.beq g 49 with
  | true=>right;have:=mz ng;subst this;rfl
  | false=>
   cases wm:Nat.beq g 51 with
   | true=>right;have:=mz wm;subst this;rfl
   | false=>exact .inl rfl
theorem qF{f:Nat}{args:List AV}{v:AV}(h:AP ab f args=some v):AP fN f args=some v:=XA qiv h
theorem qfc:CfgOk fN where
 name:=fC.name
 ben:=fC.ben
 libm:=fC.libm
 lib g h hh:=by
  have hO:Dr g=some h:=hh;unfold Dr at hO
  cases hb:Nat.beq g 47 with
  | true=>
   rw[hb] at hO;have e:Cfg.lib RJ 47=some wi:=rfl;obtain rfl:=kz hO;have:=mz hb;subst this;exact qfb.lib 47 _ e
  | false=>
   rw[hb] at hO
   cases ng:Nat.beq g 49 with
   | true=>
    rw[ng] at hO;obtain rfl:=kz hO;have:=mz ng;subst this;refine ⟨⟨f49,GN,by rw[GM];rfl⟩,fun vs v hv m=>?_⟩;unfold Am at hv
    split at hv
    .rename_i hx;obtain ⟨h1,e⟩:=Classical.choose_spec hx;simp only[bp] at hv;subst hv;have hc:=qe9 h1 m;rw[<- e] at hc;exact hc
    .cases hv
   | false=>
    rw[ng] at hO
    cases wm:Nat.beq g 51 with
    | false=>rw[wm] at hO;exact fC.lib g h hO
    | true=>
     rw[wm] at hO;obtain rfl:=kz hO;have:=mz wm;subst this;refine ⟨⟨f51,LG,by rw[Lv];rfl⟩,fun vs v hv m=>?_⟩;unfold An at hv
     split at hv
     .rename_i hx;obtain ⟨h1,e⟩:=Classical.choose_spec hx;simp only[bp] at hv;subst hv;have hc:=qfa h1 m;rw[<- e] at hc;exact hc
     .cases hv
theorem qhx{f:Nat}{args:List AV}{vs:Array Value}{W:World}(h:∃m',AC fN f args []=some (.bool true,m'))(hl:args.length=vs.size)(hv:∀j,j<args.length->V W g0 (args.getD j .any) (vs.getD j undef)) :
  Calls Go.Proofs.Try.prog f vs W fun e W'=>e=.returned (.bool true)/\Below W.heap.size W W':=by
 obtain ⟨m',eR⟩:=h;refine ((Iw qfc f args [] _ _ eR).1 W.heap.size W g0 vs (qhQ W) (aW _) hl hv).mono ?_;rintro e W' ⟨v',g',rfl,hs,_,Db⟩;cases Db;exact ⟨rfl,hs.below⟩
end Go.Ab
namespace Go.Ab
open Go.Proofs.Try
def Qa(m:ae):St:=⟨[.any,.any,.any,.any,.any,.any,.any,.any,.any,.any,.any,.any,.any,.any,.any,.any,.any,.any,.any,.any,.any,.any,.any,.any,.any,.any,.any,.any,.any,.any,.any,.any,.any,.any,.any,.any,.any,.any,.any,.any,.any,.any,.any,.any,.any,.any,.any,.any,.any,.any,.any,.any,.any,.any,.any,.any,.any,.any,.any,.any,.any,.any,.any,.any,.any,.any,.any,.any,.any,.any,.any,.any,.any,.any,.any,.any,.any,.any,.any,.any,.any,.any,.any,.any,.any,.any,.any,.any,.any,.any,.any,.any,.any,.any,.any,.any,.any,.any,.any,.any,.any,.any,.any,.any,.any,.any,.any,.any,.any,.any,.any,.any,.any],m⟩
def zU(x4:AV)(m:ae):St:=⟨[.any,.any,.any,.any,x4,.any,.any,.any,.any,.any,.any,.any,.any,.any,.any,.any,.any,.any,.any,.any,.any,.any,.any,.any,.any,.any,.any,.any,.any,.any,.any,.any,.any,.any,.any,.any,.any,.any,.any,.any,.any,.any,.any,.any,.any,.any,.any,.any,.any,.any,.any,.any,.any,.any,.any,.any,.any,.any,.any,.any,.any,.any,.any,.any,.any,.any,.any,.any,.any,.any,.any,.any,.any,.any,.any,.any,.any,.any,.any,.any,.any,.any,.any,.any,.any,.any,.any,.any,.any,.any,.any,.any,.any,.any,.any,.any,.any,.any,.any,.any,.any,.any,.any,.any,.any,.any,.any,.any,.any,.any,.any,.any,.any],m⟩
noncomputable def BL(x3 lY Eg Bq:AV)(m:ae)(K:KT):OM:=bP (aq fN 11 (AP fN) (AC fN) (c1 (c1 (c2 (c1 (c2 (c2 (al f11)))))))) (fN.mask 11 (some 3)) ⟨[.any,.any,.any,x3,.any,.any,.any,.any,.any,.any,.any,.any,.any,.any,.any,.any,.any,.any,.any,.any,.any,.any,.any,.any,.any,.any,.any,.any,.any,.any,lY,Eg,Bq,.any,.any,.any,.any,.any,.any,.any,.any,.any,.any,.any,.any,.any,.any,.any,.any,.any,.any,.any,.any,.any,.any,.any,.any,.any,.any,.any,.any,.any,.any,.any,.any,.any,.any,.any,.any,.any,.any,.any,.any,.any,.any,.any,.any,.any,.any,.any,.any,.any,.any,.any,.any,.any,.any,.any,.any,.any,.any,.any,.any,.any,.any,.any,.any,.any,.any,.any,.any,.any,.any,.any,.any,.any,.any,.any,.any,.any,.any,.any,.any],m⟩ K
noncomputable abbrev YS(K:KT):KT:=dQ (fun st=>aq fN 11 (AP fN) (AC fN) (c2 (c2 (c2 (al f11)))) st K) K
noncomputable abbrev YT(K:KT):KT:=dK 0 (YS K)
noncomputable abbrev EA(K:KT):KT:=(YT K)
theorem T11(a0 a1:AV)(m:ae):AC fN 11 [a0,a1] m =
 (ef none (some 3) m a0).bind fun r1=>
 (ef none (some 3) r1.2 a1).bind fun r2=>
 (ai (some 3) r2.2 r1.1).bind fun v3=>
 (ao (AP fN) (some r2.2.length) r2.2 13 [v3,(.int .i64 6)]).bind fun r4=>
 (ai (some 3) r4.2 r2.1).bind fun v5=>
 (ao (AP fN) (some r2.2.length) r4.2 13 [v5,(.int .i64 6)]).bind fun r6=>
 (aA (some 3) r6.2 r1.1 r4.1).bind fun m7=>
 (aA (some 3) m7 r2.1 r6.1).bind fun m8=>
 (ai (some 3) m8 r1.1).bind fun v9=>
 (ai (some 3) m8 r1.1).bind fun v10=>
 (ao (AP fN) (some m8.length) m8 43 [v10,(.int .i64 6)]).bind fun iH=>
 (iq (some 3) [v9,iH.1]).bind fun aV=>
 (aY false aV).bind fun bL=>
 BL r2.1 aV bL (.int .i64 0) iH.2 (EA (aN fN.P f11.results.toList)):=
(bW fN 11 [a0,a1] m (fn:=f11) (c:=al f11) (by kernel_rfl) rfl).trans (by kernel_rfl)
theorem PB(x3 lY Eg Bq:AV)(m:ae)(K:KT):BL x3 lY Eg Bq m K =
 (af .other .lss Bq Eg).bind fun v1=>
 au v1 (
 (aJ (some 3) lY Bq).bind fun v2=>
 (ai (some 3) m v2).bind fun v3=>
 (aA (some 3) (ak none m (.obj true [(.int .i64 0),(.int .i64 0),(.lst none true .full [])])).2 (.ptr (ak none m .resv).1 0) v3).bind fun m4=>
 (ai (some 3) m4 (.ptr (ak none m .resv).1 0)).bind fun v5=>
 (wi [v5]).bind fun v6=>
 (bg v6 0).bind fun v7=>
 (bg v6 1).bind fun v8=>
 (aA (some 3) (ak none m4 (.obj true [(.bool false),(.lst none true .full []),(.lst none true .full [])])).2 (.ptr (ak none m4 .resv).1 0) v7).bind fun m9=>
 (ai (some 3) m9 (.ptr (ak none m .resv).1 0)).bind fun v10=>
 (Am [v10]).bind fun v11=>
 (bg v11 0).bind fun aV=>
 (bg v11 1).bind fun bL=>
 (aA (some 3) (ak none m9 (.obj true [(.bool false),(.lst none true .full []),(.lst none true .full [])])).2 (.ptr (ak none m9 .resv).1 0) aV).bind fun m14=>
 (ai (some 3) m14 (.ptr (ak none m .resv).1 0)).bind fun bz=>
 (ao (AP fN) none m14 50 [bz]).bind fun js=>
 (bg js.1 0).bind fun bV=>
 (bg js.1 1).bind fun dU=>
 (ai (some 3) js.2 (.ptr (ak none m .resv).1 0)).bind fun dL=>
 (An [dL]).bind fun v20=>
 (bg v20 0).bind fun eg=>
 (bg v20 1).bind fun dV=>
 (af .other .neq v8 bL).bind fun fS=>
 au fS (
 K .ret (zU (.bool false) js.2)) (
 (ai (some 3) js.2 (.ptr (ak none m4 .resv).1 0)).bind fun gD=>
 (ai (some 3) js.2 (.ptr (ak none m9 .resv).1 0)).bind fun fT=>
 (ao (AP fN) none js.2 23 [gD,fT]).bind fun oU=>
 (iI .not oU.1).bind fun gL=>
 au gL (
 K .ret (zU (.bool false) oU.2)) (
 (af .other .neq bV eg).bind fun fU=>
 au fU (
 K .ret (zU (.bool false) oU.2)) (
 (af .other .neq dU dV).bind fun jP=>
 au jP (
 K .ret (zU (.bool false) oU.2)) (
 (ai (some 3) oU.2 (.ptr (ak none m .resv).1 0)).bind fun v30=>
 (ai (some 3) oU.2 x3).bind fun ki=>
 (ao (AP fN) none oU.2 52 [v30,ki]).bind fun mU=>
 (bg mU.1 0).bind fun lA=>
 (bg mU.1 1).bind fun pG=>
 (aA (some 3) (ak none mU.2 (.obj true [(.int .i64 0),(.int .i64 0),(.lst none true .full [])])).2 (.ptr (ak none mU.2 .resv).1 0) lA).bind fun m35=>
 (ai (some 3) m35 (.ptr (ak none m .resv).1 0)).bind fun ry=>
 (ai (some 3) m35 x3).bind fun vu=>
 (ao (AP fN) none m35 53 [ry,vu]).bind fun DL=>
 (bg DL.1 0).bind fun rz=>
 (bg DL.1 1).bind fun ta=>
 (aA (some 3) (ak none DL.2 (.obj true [(.int .i64 0),(.int .i64 0),(.lst none true .full [])])).2 (.ptr (ak none DL.2 .resv).1 0) rz).bind fun m41=>
 (ai (some 3) m41 (.ptr (ak none m .resv).1 0)).bind fun D4=>
 (ao (AP fN) none m41 54 [D4]).bind fun DM=>
 (bg DM.1 0).bind fun D5=>
 (bg DM.1 1).bind fun zk=>
 (aA (some 3) (ak none DM.2 (.obj true [(.int .i64 0),(.int .i64 0),(.lst none true .full [])])).2 (.ptr (ak none DM.2 .resv).1 0) D5).bind fun m46=>
 (ai (some 3) m46 (.ptr (ak none m .resv).1 0)).bind fun D6=>
 (ao (AP fN) none m46 55 [D6]).bind fun DN=>
 (bg DN.1 0).bind fun v49=>
 (bg DN.1 1).bind fun N5=>
 (aA (some 3) (ak none DN.2 (.obj true [(.int .i64 0),(.int .i64 0),(.lst none true .full [])])).2 (.ptr (ak none DN.2 .resv).1 0) v49).bind fun m51=>
 (ai (some 3) m51 (.ptr (ak none mU.2 .resv).1 0)).bind fun N6=>
 (ai (some 3) m51 (.ptr (ak none DL.2 .resv).1 0)).bind fun N7=>
 (ao (AP fN) none m51 22 [N6,pG,N7,ta]).bind fun DO=>
 (iI .not DO.1).bind fun D7=>
 au D7 (
 K .ret (zU (.bool false) DO.2)) (
 (ai (some 3) DO.2 (.ptr (ak none DM.2 .resv).1 0)).bind fun v56=>
 (ai (some 3) DO.2 (.ptr (ak none DN.2 .resv).1 0)).bind fun N8=>
 (ao (AP fN) none DO.2 22 [v56,zk,N8,N5]).bind fun Np=>
 (iI .not Np.1).bind fun Xj=>
 au Xj (
 K .ret (zU (.bool false) Np.2)) (
 (af .other .add Bq (.int .i64 1)).bind fun D8=>
 BL x3 lY Eg D8 Np.2 K))))))) (
 K (.exit 0) (Qa m)):=
(eu (ed _) _ _ _).trans (by kernel_rfl)
theorem YU(m:ae):EA (aN fN.P f11.results.toList) (.exit 0) (Qa  m) =
 (ao (AP fN) none m 26 []).bind fun r1=>
 some (r1.1,r1.2):=by kernel_rfl
end Go.Ab
namespace Go.Ab
open Go.Proofs.Try
theorem Um:kk 3 12=55924053:=by decide
theorem qhv:kk 3 6=13653:=by decide
theorem Iu(k:Nat):LOk k zM.lv:=⟨.inr rfl,fun _=>rfl,fun r hr=>(by cases hr),fun r hr=>(by cases hr)⟩
theorem Iv:ROk 1 zR:=⟨Bt.num,Bt.num,Bt.ln,Bt.ln⟩
theorem Wf{x y:MV}{r c:Nat}(h1:x.rows=r)(h2:x.cols=c)(h3:y.rows=r)(h4:y.cols=c)(h5:x.lv.es.length=r*c)(h6:y.lv.es.length=r*c)(h:∀i j,i<r->j<c->gY x (i*c+j)=gY y (i*c+j)):sP x y=true:=by
 refine qjg (h1.trans h3.symm) (h2.trans h4.symm) (h5.trans h6.symm) fun p hp=>?_;rw[h5] at hp
 have kF:0<c:=by
  rcases Nat.eq_zero_or_pos c with h0|h0
  .rw[h0,mA] at hp;omega
  .exact h0
 have:=h (p/c) (p%c) (Nat.div_lt_of_lt_mul (by rw[en];exact hp)) (jx _ kF)
 rwa [Gs] at this
structure Two (f g:Nat) (args:List AV):Prop where
 ex:∃(s t:MV) (e:Int) (K:Nat),AP ab f args=some (.tup [s.av,.int .i64 e])/\AP ab g args=some (.tup [t.av,.int .i64 e])/\s.fr=s/\t.fr=t/\LOk K s.lv/\LOk K t.lv/\1<=K/\K<2^36/\s.lv.es.length<2^40/\sP s t=true
section
variable {u y:MV}
theorem qj7(iu:IsM 3 u)(iy:IsM 3 y)(tK:aP u=true->u.rows<=6/\u.cols<=6)(AJ:aP y=true->y.rows<=6/\y.cols<=6):Two 52 53 [u.av,y.av]:=by
 by_cases he:sX u y=0
 .have hr:aP u=true/\aP y=true:=jv fun h=>by unfold sX at he;rw[ag h] at he;cases he
  have hs:u.rows=u.cols/\y.rows=u.rows:=jv fun h=>by unfold sX at he;rw[aj hr,ag h] at he;cases he
  obtain ⟨mM,gJ⟩:=hr;obtain ⟨n,n',hn,ni,_,_,hl⟩:=qg mM;obtain ⟨n2,c,h2,hc,_,_,pn⟩:=qg gJ;obtain rfl:n=n':=by have:=hs.1;omega
  obtain rfl:n2=n:=by have:=hs.2;omega
  have a1:=tK mM;have a2:=AJ gJ;have n6:n2<=6:=by omega
  have c6:c<=6:=by omega
  have k1:kk 3 (n2+n2)<=55924053:=by rw[<- Um];exact mf 3 (by omega)
  obtain ⟨s,ok,s1,S⟩:=QU iu iy mM gJ hn ni h2 hc (by omega) (by omega) (by omega) (by omega);obtain ⟨t,ok',t1,T⟩:=QV iu iy mM gJ hn ni h2 hc n6 c6;have bI:ok'=ok:=T.rank.trans S.rank.symm;subst bI;have TL:n2*c<=60*60:=il (by omega) (by omega)
  refine ⟨s,t,_,111848106,s1,t1,S.fr,T.fr,S.lok.mono (by omega),T.lok.mono (by omega),by omega,by omega,?_,?_⟩
  .cases ok' with
   | false=>rw[S.bad rfl];exact (by decide:zM.lv.es.length<2^40)
   | true=>rw[S.len rfl];omega
  .cases ok' with
   | false=>rw[S.bad rfl,T.bad rfl];rfl
   | true=>exact Wf (S.rows rfl) (S.cols rfl) (T.rows rfl) (T.cols rfl) (S.len rfl) (T.len rfl) fun i j hi hj=>(T.sol rfl (eW s c)).1 (S.sol rfl) i j hi hj
 .exact ⟨zM,zM,_,1,QT iu iy (by omega) (by omega) he,qct iu iy (by omega) (by omega) he,rfl,rfl,Iu 1,Iu 1,by omega,by omega,by decide,rfl⟩
theorem qj5(iu:IsM 3 u)(tK:aP u=true->u.rows<=6/\u.cols<=6):Two 54 55 [u.av]:=by
 by_cases he:vc u=0
 .have mM:aP u=true:=jv fun h=>by unfold vc at he;rw[ag h] at he;cases he
  have hs:u.rows=u.cols:=jv fun h=>by unfold vc at he;rw[aj mM,ag h] at he;cases he
  obtain ⟨n,n',hn,ni,_,_,hl⟩:=qg mM;obtain rfl:n=n':=by omega
  have a1:=tK mM;have n6:n<=6:=by omega
  have k1:kk 3 (n+n)<=55924053:=by rw[<- Um];exact mf 3 (by omega)
  obtain ⟨s,ok,s1,S⟩:=qcv iu mM hn ni (by omega) (by omega) (by omega) (by omega);obtain ⟨t,ok',t1,T⟩:=qcx iu mM hn ni n6;have bI:ok'=ok:=T.rank.trans S.rank.symm;subst bI;have TL:n*n<=60*60:=il (by omega) (by omega)
  refine ⟨s,t,_,111848106,s1,t1,S.fr,T.fr,S.lok.mono (by omega),T.lok.mono (by omega),by omega,by omega,?_,?_⟩
  .cases ok' with
   | false=>rw[S.bad rfl];exact (by decide:zM.lv.es.length<2^40)
   | true=>rw[S.len rfl];omega
  .cases ok' with
   | false=>rw[S.bad rfl,T.bad rfl];rfl
   | true=>exact Wf (S.rows rfl) (S.cols rfl) (T.rows rfl) (T.cols rfl) (S.len rfl) (T.len rfl) fun i j hi hj=>T.inv rfl (eW s n) (S.inv rfl) i j hi hj
 .exact ⟨zM,zM,_,1,qcu iu he,qcw iu he,rfl,rfl,Iu 1,Iu 1,by omega,by omega,by decide,rfl⟩
end
section
variable {m:ae} {d:Option Nat} {g:Nat}
theorem Na(x:MV):ao (AP fN) d m g [x.av]=(AP fN g [x.fr.av]).map fun v=>(v,m):=dW (lH x)
theorem Nb(x:MV)(a:Int):ao (AP fN) d m g [x.av,.int .i64 a]=(AP fN g [x.fr.av,.int .i64 a]).map fun v=>(v,m):=gO (lH x) (eK _ a)
theorem Vk(x y:MV):ao (AP fN) d m g [x.av,y.av]=(AP fN g [x.fr.av,y.fr.av]).map fun v=>(v,m):=gO (lH x) (lH y)
theorem qim(r s:RV):ao (AP fN) d m g [r.av,s.av]=(AP fN g [r.fr.av,s.fr.av]).map fun v=>(v,m):=gO (gA r) (gA s)
theorem Vl(x y:MV)(e f:Int):ao (AP fN) d m g [x.av,.int .i64 e,y.av,.int .i64 f]=(AP fN g [x.fr.av,.int .i64 e,y.fr.av,.int .i64 f]).map fun v=>(v,m):=qis (lH x) (eK _ _) (lH y) (eK _ _)
theorem qbn:ao (AP fN) d m 26 []=some (.bool true,m):=by rw[DH,qF V26];rfl
end
theorem UT{x:MV}(h:x.fr=x):(eP (some 3) (lV x.av)&&pl (lV x.av))=true/\lV x.av=x.av:=by
 obtain ⟨r,c,⟨sh,z,o,es⟩⟩:=x
 cases o with
 | tok a b=>
  have e:Own.no=Own.tok a b:=fE (fun q:MV=>q.lv.o) h;cases e
 | full=>exact ⟨rfl,rfl⟩
 | no=>exact ⟨rfl,rfl⟩
theorem qj6{x w:MV}(hx:x.fr=x)(hw:w.fr=w):iq (some 3) [x.av,w.av]=some (.lst (some 3) false .full [x.av,w.av]):=by
 obtain ⟨a1,a2⟩:=UT hx;obtain ⟨b1,b2⟩:=UT hw;unfold iq
 have h:([x.av,w.av].all fun v=>eP (some 3) (lV v)&&pl (lV v))=true:=by
  simp only[xu,List.all_nil,Bool.and_true];rw[a1,b1];rfl
 rw[aj h];simp only[qn,xw,a2,b2]
theorem qhF(m:ae)(x:MV):ai (some 3) m (.vptr x.av.cells)=some x.av:=rfl
theorem za{m:ae}(a b:Option Ent):(m++[a]).set m.length b=m++[b]:=by simp
theorem VL{u y:MV}(iu:IsM 3 u)(iy:IsM 3 y)(tK:aP u=true->u.rows<=6/\u.cols<=6)(AJ:aP y=true->y.rows<=6/\y.cols<=6){l:List AV}{i:Nat}(hi:i<l.length)(hl:l[i]?=some u.av)(hb:l.length<=60){m:ae}(hm:m[1]?=some (cM y))(K:KT) :
  ∃m':ae,m'[1]?=some (cM y)/\BL (.ptr 1 0) (.lst (some 3) false .full l) (.int .i64 l.length) (.int .i64 i) m K=BL (.ptr 1 0) (.lst (some 3) false .full l) (.int .i64 l.length) (.int .i64 (i+1:Nat)) m' K:=by
 have k1:∀n,n<=6->kk 3 n<=13653:=fun n hn=>by rw[<- qhv];exact mf 3 hn
 have fit:aP u=true->∀n:Nat,u.rows=n->u.cols=n->1+n*kk 3 n<2^36/\kk 3 n<2^36:=fun hr n h1 _=>by
  have a:=tK hr;have n6:n<=6:=by omega
  have b:=k1 n n6;have c:n*kk 3 n<=6*13653:=il n6 b;constructor<;>omega
 obtain ⟨_,_,pX⟩:=qfx iu (by omega) (by omega) fit;obtain ⟨X,eX,hX,PX⟩:=qgj pX;obtain ⟨_,_,pY⟩:=qfy iu fun hr=>(tK hr).1;obtain ⟨Y,eY,hY,PY⟩:=qgk pY;obtain ⟨_,_,pK⟩:=qiO iu fun hr=>(tK hr).2;obtain ⟨rk,ek,hK,PK⟩:=qgl pK
 have e50:=V50 iu (by omega) (by omega) (fun hr=>by
  have a:=tK hr;have:=k1 u.cols.toNat (by omega)
  omega)
 rw[<- PK.val.1,<- PK.val.2] at e50
 have qgt:eX=eY/\∃k,1<=k/\k<2^36/\ROk k X/\ROk k Y/\X.q=Y.q:=by
  cases mM:aP u with
  | false=>
   obtain ⟨a1,a2⟩:=PX.bad mM;obtain ⟨b1,b2⟩:=PY.bad mM;exact ⟨a1.trans b1.symm,1,by omega,by omega,a2▸Iv,b2▸Iv,by rw[a2,b2]⟩
  | true=>
   by_cases hc:u.rows=u.cols
   .obtain ⟨n,n',hn,ni,n60,_,_⟩:=qg mM;obtain rfl:n=n':=by omega
    obtain ⟨a1,a2⟩:=PX.ok mM n hn ni;obtain ⟨b1,b2⟩:=PY.ok mM n hn ni;obtain ⟨f1,f2⟩:=fit mM n hn ni;have bd:=qfz iu (by omega) (by omega) mM hn ni n60 f1 f2;exact ⟨a1.trans b1.symm,1+n*kk 3 n,by omega,f1,a2.ok bd (by omega),b2.ok bd (by omega),a2.q.trans b2.q.symm⟩
   .obtain ⟨a1,a2⟩:=PX.shape mM hc;obtain ⟨b1,b2⟩:=PY.shape mM hc;exact ⟨a1.trans b1.symm,1,by omega,by omega,a2▸Iv,b2▸Iv,by rw[a2,b2]⟩
 obtain ⟨rfl,kd,kd1,kd2,oX,oY,qXY⟩:=qgt;have e23:=QR oX oY kd1 kd2;rw[nd qXY] at e23;obtain ⟨s,t,e1,K1,s1,t1,sf,tf,sl,tl,q1,q2,q3,sst⟩:=(qj7 iu iy tK AJ).ex;obtain ⟨v,w,e2,K2,v1,w1,vf,wf,vl,wl,q4,q5,q6,svw⟩:=(qj5 iu tK).ex;have f1:=QQ sl tl q1 q2 q3 e1 e1;have f2:=QQ vl wl q4 q5 q6 e2 e2;rw[sst,nd rfl,ow] at f1;rw[svw,nd rfl,ow] at f2;obtain ⟨M1,Ll⟩:∃M1,M1=m++[cM u]:=⟨_,rfl⟩;obtain ⟨M2,Lm⟩:∃M2,M2=M1++[cR X]:=⟨_,rfl⟩;obtain ⟨M3,nM⟩:∃M3,M3=M2++[cR Y]:=⟨_,rfl⟩;obtain ⟨M4,Ln⟩:∃M4,M4=M3++[cM s]:=⟨_,rfl⟩;obtain ⟨M5,Lo⟩:∃M5,M5=M4++[cM t]:=⟨_,rfl⟩;obtain ⟨M6,Lp⟩:∃M6,M6=M5++[cM v]:=⟨_,rfl⟩;obtain ⟨M7,Lq⟩:∃M7,M7=M6++[cM w]:=⟨_,rfl⟩;have u1:M1[m.length]?=some (cM u):=by rw[Ll];exact bX
 have x2:M2[M1.length]?=some (cR X):=by rw[Lm];exact bX
 have y3:M3[M2.length]?=some (cR Y):=by rw[nM];exact bX
 have s4:M4[M3.length]?=some (cM s):=by rw[Ln];exact bX
 have t5:M5[M4.length]?=some (cM t):=by rw[Lo];exact bX
 have v6:M6[M5.length]?=some (cM v):=by rw[Lp];exact bX
 have w7:M7[M6.length]?=some (cM w):=by rw[Lq];exact bX
 have c1:∀{p:Nat} {z:Option Ent},m[p]?=some z->M1[p]?=some z:=fun h=>by rw[Ll];exact fM h
 have c2:∀{p:Nat} {z:Option Ent},M1[p]?=some z->M2[p]?=some z:=fun h=>by rw[Lm];exact fM h
 have c3:∀{p:Nat} {z:Option Ent},M2[p]?=some z->M3[p]?=some z:=fun h=>by rw[nM];exact fM h
 have c4:∀{p:Nat} {z:Option Ent},M3[p]?=some z->M4[p]?=some z:=fun h=>by rw[Ln];exact fM h
 have c5:∀{p:Nat} {z:Option Ent},M4[p]?=some z->M5[p]?=some z:=fun h=>by rw[Lo];exact fM h
 have c6:∀{p:Nat} {z:Option Ent},M5[p]?=some z->M6[p]?=some z:=fun h=>by rw[Lp];exact fM h
 have c7:∀{p:Nat} {z:Option Ent},M6[p]?=some z->M7[p]?=some z:=fun h=>by rw[Lq];exact fM h
 have u3:=c3 (c2 u1);have u4:=c4 u3;have u5:=c5 u4;have u6:=c6 u5;have yy3:=c3 (c2 (c1 hm));have yy4:=c4 yy3;have yy7:=c7 (c6 (c5 yy4))
 have pk:aJ (some 3) (.lst (some 3) false .full l) (.int .i64 i)=some (.vptr u.av.cells):=by
  have h0:(0:Int)<=(i:Nat):=by omega
  simp only[aJ,eC,aj h0,nG,hl,ar]
 refine ⟨M7,yy7,?_⟩;rw[PB,bR,aa,aw,aj hi,pk,aa,qhF,aa]
 try simp only[iG,bc]
 rw[eO bX,aa,za,<- Ll,bC u1,aa,hX,aa,pO,aa,pP,aa]
 try simp only[tT,bc]
 rw[iV bX,aa,za,<- Lm,bC (c2 u1),aa,hY,aa,pO,aa,pP,aa]
 try simp only[tT,bc]
 rw[iV bX,aa,za,<- nM,bC u3,aa,Na,iu.fr,qF e50,ar,aa,pO,aa,pP,aa,bC u3,aa,hK,aa,pO,aa,pP,aa,iL,aa,aw,ag (fun h=>h rfl),je (c3 x2),aa,je y3,aa,qim,PX.fr,PY.fr,qF e23,ar,aa,bB,aa,gk,fF,iL,aa,aw,ag (fun h=>h rfl),iL,aa,aw,ag (fun h=>h rfl),bC u3,aa,bC yy3,aa,Vk,iu.fr,iy.fr,qF s1,ar,aa,pO,aa,pP,aa]
 try simp only[iG,bc]
 rw[eO bX,aa,za,<- Ln,bC u4,aa,bC yy4,aa,Vk,iu.fr,iy.fr,qF t1,ar,aa,pO,aa,pP,aa]
 try simp only[iG,bc]
 rw[eO bX,aa,za,<- Lo,bC u5,aa,Na,iu.fr,qF v1,ar,aa,pO,aa,pP,aa]
 try simp only[iG,bc]
 rw[eO bX,aa,za,<- Lp,bC u6,aa,Na,iu.fr,qF w1,ar,aa,pO,aa,pP,aa]
 try simp only[iG,bc]
 rw[eO bX,aa,za,<- Lq,bC (c7 (c6 (c5 s4))),aa,bC (c7 (c6 t5)),aa,Vl,sf,tf,qF f1,ar,aa,bB,aa,gk,fF,bC (c7 v6),aa,bC w7,aa,Vl,vf,wf,qF f2,ar,aa,bB,aa,gk,fF,eF (by omega),aa]
theorem qbj{a b:MV}(ha:XM a.fr)(hb:XM b.fr):∃m',AC fN 11 [a.av,b.av] []=some (.bool true,m'):=by
 obtain ⟨x,x1,x2,x3,x4,x5⟩:=FL (n:=6) (by omega) ha (US a);obtain ⟨y,y1,y2,y3,y4,y5⟩:=FL (n:=6) (by omega) hb (US b);obtain ⟨w,w1,w2,w3,w4,w5⟩:=V43 (n:=6) (by omega) x2.xm x4;have ix:IsM 3 x:=⟨x2,x4,x3⟩;have iy:IsM 3 y:=⟨y2,y4,y3⟩;have iw:IsM 3 w:=⟨w2,w4,w3⟩;have start:AC fN 11 [a.av,b.av] []=AC fN 11 [a.av,b.av] []:=rfl
 conv at start=>rhs;rw[T11,im,aa,im,aa]
 simp only[aX,aZ,aR,bm,aL,Nat.reduceAdd] at start;rw[bC (x:=a) rfl,aa,Nb,show ((6:Int))=((6:Nat):Int) from rfl,qF x1,ar,aa,bC (x:=b) rfl,aa,Nb,qF y1,ar,aa,eO (x:=a) rfl,aa] at start;simp only[bk,bH] at start;rw[eO (x:=b) rfl,aa] at start;simp only[bk,bH] at start;rw[bC (x:=x) rfl,aa,aa,Nb,x4,qF w1,ar,aa,qj6 x4 w4,aa,show aY false (.lst (some 3) false .full [x.av,w.av])=some (.int .i64 (([x.av,w.av]:List AV).length:Nat)) from rfl,aa] at start;have hx6:aP x=true->x.rows<=6/\x.cols<=6:=fun h=>by have:=x5 h;omega
 have AJ:aP y=true->y.rows<=6/\y.cols<=6:=fun h=>by have:=y5 h;omega
 have hw6:aP w=true->w.rows<=6/\w.cols<=6:=fun h=>by have:=w5 h;omega
 obtain ⟨m1,g1,r1⟩:=VL ix iy hx6 AJ (l:=[x.av,w.av]) (i:=0) (by show 0<2;omega) rfl (by show 2<=60;omega) (m:=[cM x,cM y]) rfl (EA (aN fN.P f11.results.toList));obtain ⟨m2,g2,r2⟩:=VL iw iy hw6 AJ (l:=[x.av,w.av]) (i:=1) (by show 1<2;omega) rfl (by show 2<=60;omega) (m:=m1) g1 (EA (aN fN.P f11.results.toList));have st2:=(start.trans r1).trans r2;rw[PB,show af .other .lss (.int .i64 ((1+1:Nat):Int)) (.int .i64 (([x.av,w.av]:List AV).length:Nat))=some (.bool false) from rfl,aa,fF,YU,qbn,aa] at st2;exact ⟨_,st2⟩
end Go.Ab
