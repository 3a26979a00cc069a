/- Det: the values of its pieces. -/
import Derived.Test.YtlapgjmmlbnehaaKP4
import Derived.Test.YtlapgjmmlbnehaaKP2
import Derived.RangeFuncFrom
import Derived.RangeFuncLeaves
import Derived.ProofKit
import Derived.OpenShut
import Derived.ChangeArms
import Derived.KernelRfl
import Derived.Test.YtlapgjmmlbnehaaKP1
import Derived.OrdersIn
import Derived.Shelf.Abstract
set_option maxRecDepth 100000
set_option linter.unusedVariables false
set_option linter.unusedSimpArgs false
set_option linter.unusedSectionVars false
set_option linter.unusedVariables false
set_option linter.unusedSimpArgs false
namespace Go.Ab
open Go.Proofs.Try
theorem WM.lok {m:Mem} {nm:Nat} {es:List RV} {n c k:Nat} {N:MX} (W:WM m nm es n c (fun _=>k) N) (hk:k<2^40):LOk k ⟨some 3,false,.no,es⟩∧∀ i j,i<n→j<c→qAt ⟨n,c,⟨some 3,false,.no,es⟩⟩ (i*c+j)=N i j:=by
 refine ⟨⟨.inl rfl,fun h=>(by cases h),W.fr,fun r hr=>?_⟩,fun i j hi hj=>?_⟩
 ·obtain ⟨p,hp,rfl⟩:=List.getElem_of_mem (show r∈es from hr)
  have hp':p<n*c:=by rw[← W.len];exact hp
  have hc0:0<c:=by
   rcases Nat.eq_zero_or_pos c with h0|h0
   ·rw[h0,Nat.mul_zero] at hp';omega
   ·exact h0
  have h1:p/c<n:=Nat.div_lt_of_lt_mul (by rw[Nat.mul_comm];exact hp')
  have h2:p%c<c:=Nat.mod_lt _ hc0
  have e:=div_mod_mul p c
  have h3:p/c*c+p%c<es.length:=by rw[e];exact hp
  have:=(W.can _ _ h1 h2 h3).ok (W.bd _ _ h1 h2) hk
  simp only[e] at this
  exact this
 ·have h:=W.at hi hj
  rw[qAt_get (x:=⟨n,c,⟨some 3,false,.no,es⟩⟩) h]
  exact (W.can i j hi hj h).q
theorem D_h0 (x:MV) (K:KT):execW cfg 47 (AP cfg) (AC cfg) (c1 (bodyOf f47)) ⟨[x.av,.any,.any,.any,.any,.any,.any,.any,.any,.any,.any,.any,.any,.any,.any,.any,.any,.any,.any,.any,.any,.any,.any,.any,.any,.any,.any,.any,.any,.any,.any,.any,.any,.any,.any,.any,.any,.any,.any,.any,.any,.any,.any,.any,.any,.any,.any,.any,.any],[]⟩ K=K .normal ⟨[x.av,(.ptr 0 0),(.ptr 1 0),(.int .i64 0),.any,.any,.any,.any,.any,.any,.any,.any,.any,.any,.any,.any,.any,.any,.any,.any,.any,.any,.any,.any,.any,.any,.any,.any,.any,.any,.any,.any,.any,.any,.any,.any,.any,.any,.any,.any,.any,.any,.any,.any,.any,.any,.any,.any,.any],[cM x,cR zR]⟩:=by
 rw[Q47_h0,box_mv,oBs]
 rfl
theorem D_h1 {x:MV} {k:Nat} (hx:IsM k x) (hk:k<2^38) (K:KT):execW cfg 47 (AP cfg) (AC cfg) (c1 (c2 (bodyOf f47))) ⟨[.any,(.ptr 0 0),(.ptr 1 0),.any,.any,.any,.any,.any,.any,.any,.any,.any,.any,.any,.any,.any,.any,.any,.any,.any,.any,.any,.any,.any,.any,.any,.any,.any,.any,.any,.any,.any,.any,.any,.any,.any,.any,.any,.any,.any,.any,.any,.any,.any,.any,.any,.any,.any,.any],[cM x,cR zR]⟩ K =
  if rightM x=true then K .normal ⟨[.any,(.ptr 0 0),(.ptr 1 0),.any,.any,.any,.any,.any,.any,.any,x.av,(.bool true),(.bool false),.any,.any,.any,.any,.any,.any,.any,.any,.any,.any,.any,.any,.any,.any,.any,.any,.any,.any,.any,.any,.any,.any,.any,.any,.any,.any,.any,.any,.any,.any,.any,.any,.any,.any,.any,.any],[cM x,cR zR]⟩ else K .ret ⟨[.any,(.ptr 0 0),(.ptr 1 0),(.int .i64 1),.any,.any,.any,.any,.any,.any,x.av,(.bool false),(.bool true),zR.av,.any,.any,.any,.any,.any,.any,.any,.any,.any,.any,.any,.any,.any,.any,.any,.any,.any,.any,.any,.any,.any,.any,.any,.any,.any,.any,.any,.any,.any,.any,.any,.any,.any,.any,.any],[cM x,cR zR]⟩:=by
 rw[Q47_h1,mldA (x:=x) rfl,oBs,pcM,hx.fr,V20 hx.ok hk (by have:=hx.len;omega),Option.map_some,oBs,not_b,oBs]
 cases hb:rightM x with
 | false=>
  rw[Bool.not_false,ifA_true,if_neg (by decide),show buildA (.agg [(.bool false),(.lst none true .full []),(.lst none true .full [])]) []=some zR.av from rfl,oBs,rstA (x:=zR) rfl,oBs]
  rfl
 | true=>rw[Bool.not_true,ifA_false,if_pos rfl]
theorem D_h2 {x:MV} (K:KT):execW cfg 47 (AP cfg) (AC cfg) (c1 (c2 (c2 (bodyOf f47)))) ⟨[.any,(.ptr 0 0),(.ptr 1 0),.any,.any,.any,.any,.any,.any,.any,.any,.any,.any,.any,.any,.any,.any,.any,.any,.any,.any,.any,.any,.any,.any,.any,.any,.any,.any,.any,.any,.any,.any,.any,.any,.any,.any,.any,.any,.any,.any,.any,.any,.any,.any,.any,.any,.any,.any],[cM x,cR zR]⟩ K =
  if x.rows=x.cols then K .normal ⟨[.any,(.ptr 0 0),(.ptr 1 0),.any,.any,.any,.any,.any,.any,.any,.any,.any,.any,.any,(.ptr 0 0),(.int .i64 x.rows),(.ptr 0 1),(.int .i64 x.cols),(.bool (decide (x.rows≠x.cols))),.any,.any,.any,.any,.any,.any,.any,.any,.any,.any,.any,.any,.any,.any,.any,.any,.any,.any,.any,.any,.any,.any,.any,.any,.any,.any,.any,.any,.any,.any],[cM x,cR zR]⟩ else K .ret ⟨[.any,(.ptr 0 0),(.ptr 1 0),(.int .i64 30),.any,.any,.any,.any,.any,.any,.any,.any,.any,.any,(.ptr 0 0),(.int .i64 x.rows),(.ptr 0 1),(.int .i64 x.cols),(.bool (decide (x.rows≠x.cols))),zR.av,.any,.any,.any,.any,.any,.any,.any,.any,.any,.any,.any,.any,.any,.any,.any,.any,.any,.any,.any,.any,.any,.any,.any,.any,.any,.any,.any,.any,.any],[cM x,cR zR]⟩:=by
 rw[Q47_h2,fld0,oBs,mld0 (x:=x) rfl,oBs,fld1,oBs,mld1 (x:=x) rfl,oBs,binA_neq,oBs,ifA_dec]
 by_cases hc:x.rows=x.cols
 ·rw[if_neg (fun h=>h hc),if_pos hc]
 ·rw[if_pos hc,if_neg hc,show buildA (.agg [(.bool false),(.lst none true .full []),(.lst none true .full [])]) []=some zR.av from rfl,oBs,rstA (x:=zR) rfl,oBs]
  rfl
structure Dn (x:MV) (k n:Nat) (m:Mem) (p r:Nat) (odd:Bool) (xx:MV) (ns:List Nat):Prop where
 res:m[1]?=some (cR zR)
 row:loadA none m (.ptr p 0)=some (.int .i64 n)
 ec:∃ (N:MX) (s:Rat) (cs:Nat→Nat),EC n n (mxOf x n) N s r n cs∧s=sgO odd∧∀ i j,i<n→j<n→qAt xx (i*n+j)=N i j
 fr:xx.fr=xx
 rows:xx.rows=n
 cols:xx.cols=n
 lok:LOk (kk k n) xx.lv
 len:xx.lv.es.length=n*n
 frz:∀ e:Mem,∃ v,loadA (some 3) (m++e) (.ptr p 0)=some v∧mapF (Ab.frz (m++e) fuelF) [v]=some ([xx.av],ns)
 ns2:∀ q∈ns,q=2
 p2:1<m.length
 nq:m.length∉ns
theorem D34 {x:MV} {k n:Nat} (hx:IsM k x) (hb:rightM x=true) (hxn:x.rows=n) (hxc:x.cols=n) (hn:n≤60) (hk1:1≤k) (hK:kk k n<2^36) :
  ∃ (ts1:List AV) (m1:Mem) (ts2:List AV) (m2:Mem) (p r:Nat) (odd:Bool) (xx:MV) (ns:List Nat),
   (∀ K:KT,execW cfg 47 (AP cfg) (AC cfg) (c1 (c2 (c2 (c2 (bodyOf f47))))) ⟨[.any,(.ptr 0 0),(.ptr 1 0),.any,.any,.any,.any,.any,.any,.any,.any,.any,.any,.any,.any,.any,.any,.any,.any,.any,.any,.any,.any,.any,.any,.any,.any,.any,.any,.any,.any,.any,.any,.any,.any,.any,.any,.any,.any,.any,.any,.any,.any,.any,.any,.any,.any,.any,.any],[cM x,cR zR]⟩ K=K .normal ⟨ts1,m1⟩)∧(ts1.length=49∧ts1.getD 2 .any=.ptr 1 0∧ts1.getD 4 .any=.ptr p 0) ∧
   (∀ K:KT,execW cfg 47 (AP cfg) (AC cfg) (c1 (c2 (c2 (c2 (c2 (bodyOf f47)))))) ⟨[.any,.any,(.ptr 1 0),.any,(.ptr p 0),.any,.any,.any,.any,.any,.any,.any,.any,.any,.any,.any,.any,.any,.any,.any,.any,.any,.any,.any,.any,.any,.any,.any,.any,.any,.any,.any,.any,.any,.any,.any,.any,.any,.any,.any,.any,.any,.any,.any,.any,.any,.any,.any,.any],m1⟩ K=K .normal ⟨ts2,m2⟩)∧(ts2.length=49∧ts2.getD 2 .any=.ptr 1 0∧ts2.getD 4 .any=.ptr p 0∧ts2.getD 5 .any=.int .i64 r∧ts2.getD 6 .any=.bool odd)∧Dn x k n m2 p r odd xx ns:=by
 have hl:x.lv.es.length=n*n:=by
  obtain ⟨r,c,a1,a2,_,_,a5⟩:=right_len hb
  rw[a5,show r=n by omega,show c=n by omega]
 have hcc:=right_cells hb
 have kle:k≤kk k n:=kk_mono k (Nat.zero_le n)
 obtain ⟨m0,l1,r1,r2,r3⟩:=T56' hx.ok (by have:=hx.len;omega)
 have hf:mapF (Ab.frz [cM x,cR zR] fuelF) [x.av]=some ([x.av],[]):=by
  simp[mapF,fz_mv x [cM x,cR zR],hx.fr]
 have ht:=thawM (m:=[cM x,cR zR]) hf r3 r1 (by rw[r2];intro r hr;obtain ⟨r',_,rfl⟩:=List.mem_map.1 hr;exact copyR_fr _)
 rcases ht with ⟨hz,ht⟩|⟨hz,ht⟩
 ·have hn0:n=0:=by
   rw[hz] at r2
   have h:=congrArg List.length r2
   rw[List.length_map,hl] at h
   have h:0=n*n:=h
   rcases Nat.mul_eq_zero.1 h.symm with h|h<;>exact h
  subst hn0
  rw[hxn,hxc] at ht
  obtain ⟨m2,h88,kp⟩:=C88z (a:=(0:Nat)) (b:=(0:Nat)) (cols:=0) (.inl rfl) (by omega) [cM x,cR zR,cM ⟨(0:Nat),(0:Nat),nilL⟩]
  have g2:m2[2]?=some (cM ⟨(0:Nat),(0:Nat),nilL⟩):=(kp.2 2 true _ rfl)
  have lm:m2.length=m2.length:=rfl
  refine ⟨[.any,(.ptr 0 0),(.ptr 1 0),.any,(.ptr 2 0),.any,.any,.any,.any,.any,.any,.any,.any,.any,.any,.any,.any,.any,.any,.any,x.av,(MV.av ⟨(0:Nat),(0:Nat),nilL⟩),.any,.any,.any,.any,.any,.any,.any,.any,.any,.any,.any,.any,.any,.any,.any,.any,.any,.any,.any,.any,.any,.any,.any,.any,.any,.any,.any],[cM x,cR zR,cM ⟨(0:Nat),(0:Nat),nilL⟩],[.any,.any,(.ptr 1 0),.any,(.ptr 2 0),(.int .i64 0),(.bool false),.any,.any,.any,.any,.any,.any,.any,.any,.any,.any,.any,.any,.any,.any,.any,(.tup [.int .i64 0,.bool false]),(MV.av ⟨(0:Nat),(0:Nat),nilL⟩),(.ptr 2 1),(.int .i64 (0:Nat)),(.tup [.int .i64 0,.bool false]),(.int .i64 0),(.bool false),.any,.any,.any,.any,.any,.any,.any,.any,.any,.any,.any,.any,.any,.any,.any,.any,.any,.any,.any,.any],m2,2,0,false,⟨(0:Nat),(0:Nat),nilL⟩,[],fun K=>?_,⟨?_,?_,?_⟩,fun K=>?_,⟨?_,?_,?_,?_,?_⟩,⟨(kp.2 1 true _ rfl),mld0 g2,⟨mxOf x 0,1,fun _=>0,ec0 0 0 _ _,rfl,fun i j hi=>by omega⟩,rfl,rfl,rfl,zM_ok _,rfl,fun e=>⟨_,mldA (app_get g2),?_⟩,by simp,by rw[lm];exact Nat.lt_of_lt_of_le (show 1<3 by decide) kp.1,by simp⟩⟩
  ·rw[Q47_h3,mldA (x:=x) rfl,oBs,ht,oBs]
   simp only[kill,List.foldl_nil,new_m,new_r,List.length_cons,List.length_nil,List.cons_append,List.nil_append,Nat.zero_add,Nat.reduceAdd]
   rw[mstA (x:=zM) (y:=⟨(0:Nat),(0:Nat),nilL⟩) rfl,oBs]
   rfl
  ·rfl
  ·rfl
  ·rfl
  ·rw[Q47_h4,mldA (x:=⟨(0:Nat),(0:Nat),nilL⟩) rfl,oBs,fld1,oBs,mld1 (x:=⟨(0:Nat),(0:Nat),nilL⟩) rfl,oBs,h88,oBs,ex0,oBs,ex1,oBs]
  ·rfl
  ·rfl
  ·rfl
  ·rfl
  ·rfl
  ·simp[mapF,fz_mv ⟨(0:Nat),(0:Nat),nilL⟩ (m2++e)]
   rfl
 ·have hl1:l1.es.length=n*n:=by rw[r2,List.length_map,hl]
  have W:WM [cM x,cR zR,cA l1.es,cB n n 2 (n*n)] 2 l1.es n n (fun _=>k) (mxOf x n):=by
   rw[r2]
   exact wm_copy hx.ok hk1 hcc hl rfl
  obtain ⟨m2,es2,N,s,r,cs,odd,h2,E,hs,W2,kn⟩:=C88 hn hn hk1 hK (Nat.le_refl n) W
  have g3:m2[3]?=some (cB n n 2 (n*n)):=(kn.2 3 true _ (by decide) rfl)
  have lm:m2.length=m2.length:=rfl
  have g3':∀ e:Mem,(m2++e)[3]?=some (cB n n 2 es2.length):=fun e=>by rw[W2.len];exact app_get g3
  obtain ⟨lk,lq⟩:=W2.lok (show kk k n<2^40 by omega)
  rw[hxn,hxc,hl1] at ht
  refine ⟨[.any,(.ptr 0 0),(.ptr 1 0),.any,(.ptr 3 0),.any,.any,.any,.any,.any,.any,.any,.any,.any,.any,.any,.any,.any,.any,.any,x.av,(aM n n 2 (n*n)),.any,.any,.any,.any,.any,.any,.any,.any,.any,.any,.any,.any,.any,.any,.any,.any,.any,.any,.any,.any,.any,.any,.any,.any,.any,.any,.any],[cM x,cR zR,cA l1.es,cB n n 2 (n*n)],[.any,.any,(.ptr 1 0),.any,(.ptr 3 0),(.int .i64 r),(.bool odd),.any,.any,.any,.any,.any,.any,.any,.any,.any,.any,.any,.any,.any,.any,.any,(.tup [.int .i64 r,.bool odd]),(aM n n 2 (n*n)),(.ptr 3 1),(.int .i64 n),(.tup [.int .i64 r,.bool odd]),(.int .i64 r),(.bool odd),.any,.any,.any,.any,.any,.any,.any,.any,.any,.any,.any,.any,.any,.any,.any,.any,.any,.any,.any,.any],m2,3,r,odd,⟨n,n,⟨some 3,false,.no,es2⟩⟩,[2],fun K=>?_,⟨?_,?_,?_⟩,fun K=>?_,⟨?_,?_,?_,?_,?_⟩,⟨(kn.2 1 true _ (by decide) rfl),bL0 g3,⟨N,s,cs,E,hs,lq⟩,rfl,rfl,rfl,lk,W2.len,fun e=>⟨_,bLA (g3' e),?_⟩,by simp,by rw[lm];exact Nat.lt_of_lt_of_le (show 1<4 by decide) kn.1,by have h4:4≤m2.length:=kn.1;simp;omega⟩⟩
  ·rw[Q47_h3,mldA (x:=x) rfl,oBs,ht,oBs]
   simp only[kill,List.foldl_nil,new_m,new_r,List.length_cons,List.length_nil,List.cons_append,List.nil_append,Nat.zero_add,Nat.reduceAdd]
   rw[bldMz _ (n:=3) (x:=zM) rfl _ _ _ rfl,oBs]
   rfl
  ·rfl
  ·rfl
  ·rfl
  ·rw[Q47_h4,bLA (rows:=n) (cols:=n) (nm:=2) (L:=n*n) rfl,oBs,fld1,oBs,bL1 (rows:=n) (cols:=n) (nm:=2) (L:=n*n) rfl,oBs,h2,oBs,ex0,oBs,ex1,oBs]
  ·rfl
  ·rfl
  ·rfl
  ·rfl
  ·rfl
  ·have ha:=frz_arrR (k:=6) (app_get (e:=e) (W2.hm)) W2.fr
   have e1:∀ (m:Mem) (a b c:AV),Ab.frz m fuelF (.agg [a,b,c])=(mapF (Ab.frz m 8) [a,b,c]).map fun r=>(.agg r.1,r.2):=fun _ _ _ _=>rfl
   have hi:∀ (m:Mem) (x:Int),Ab.frz m 8 (.int .i64 x)=some (.int .i64 x,[]):=fun _ _=>rfl
   simp only[mapF,e1,hi,ha,oBs,Option.map_some,List.nil_append,List.append_nil,MV.av,LV.av]
end Go.Ab
set_option linter.unusedVariables false
set_option linter.unusedSimpArgs false
namespace Go.Ab
open Go.Proofs.Try
section
variable {x:MV} {k n:Nat} {m:Mem} {p r:Nat} {odd:Bool} {xx:MV} {ns:List Nat}
theorem D_h5 (D:Dn x k n m p r odd xx ns) (K:KT):execW cfg 47 (AP cfg) (AC cfg) (c1 (c2 (c2 (c2 (c2 (c2 (bodyOf f47))))))) ⟨[.any,.any,(.ptr 1 0),.any,(.ptr p 0),(.int .i64 r),(.bool odd),.any,.any,.any,.any,.any,.any,.any,.any,.any,.any,.any,.any,.any,.any,.any,.any,.any,.any,.any,.any,.any,.any,.any,.any,.any,.any,.any,.any,.any,.any,.any,.any,.any,.any,.any,.any,.any,.any,.any,.any,.any,.any],m⟩ K =
  if r<n then K .ret ⟨[.any,.any,(.ptr 1 0),(.int .i64 0),(.ptr p 0),(.int .i64 r),(.bool odd),.any,.any,.any,.any,.any,.any,.any,.any,.any,.any,.any,.any,.any,.any,.any,.any,.any,.any,.any,.any,.any,.any,(.int .i64 r),(.ptr p 0),(.int .i64 n),(.bool (decide (r<n))),zeroR.av,.any,.any,.any,.any,.any,.any,.any,.any,.any,.any,.any,.any,.any,.any,.any],m.set 1 (cR zeroR)⟩ else K .normal ⟨[.any,.any,(.ptr 1 0),.any,(.ptr p 0),(.int .i64 r),(.bool odd),.any,.any,.any,.any,.any,.any,.any,.any,.any,.any,.any,.any,.any,.any,.any,.any,.any,.any,.any,.any,.any,.any,(.int .i64 r),(.ptr p 0),(.int .i64 n),(.bool (decide (r<n))),.any,.any,.any,.any,.any,.any,.any,.any,.any,.any,.any,.any,.any,.any,.any,.any],m⟩:=by
 rw[Q47_h5,fld0,oBs,D.row,oBs,n_lss,oBs,ifA_dec]
 by_cases h:r<n
 ·rw[if_pos h,if_pos h,pc0,V60,Option.map_some,oBs,rstA D.res,oBs]
 ·rw[if_neg h,if_neg h]
theorem D_h6 (K:KT):execW cfg 47 (AP cfg) (AC cfg) (c1 (c2 (c2 (c2 (c2 (c2 (c2 (bodyOf f47)))))))) ⟨[.any,.any,(.ptr 1 0),.any,(.ptr p 0),.any,(.bool odd),.any,.any,.any,.any,.any,.any,.any,.any,.any,.any,.any,.any,.any,.any,.any,.any,.any,.any,.any,.any,.any,.any,.any,.any,.any,.any,.any,.any,.any,.any,.any,.any,.any,.any,.any,.any,.any,.any,.any,.any,.any,.any],m⟩ K=K .normal ⟨[.any,.any,(.ptr 1 0),.any,(.ptr p 0),.any,(.bool odd),(.ptr m.length 0),.any,.any,.any,.any,.any,.any,.any,.any,.any,.any,.any,.any,.any,.any,.any,.any,.any,.any,.any,.any,.any,.any,.any,.any,.any,.any,oneR.av,.any,.any,.any,.any,.any,.any,.any,.any,.any,.any,.any,.any,.any,.any],m++[cR oneR]⟩:=by
 rw[Q47_h6,pc0,V84,Option.map_some,oBs,new_z',new_r,st_last,oBs]
theorem V82 (x:MV) (fr:x.fr=x):AP cfg 82 [x.av]=some (.fn 114 [vM x]):=by
 refine AP_of (m:=[cM x]) (v:=.fn 114 [.ptr 0 0]) (l:=[]) ?_ ?_ rfl
 ·rw[T82,box_mv];rfl
 ·have e:frz [cM x] fuelF (.fn 114 [.ptr 0 0])=(mapF (frz [cM x] 8) [.ptr 0 0]).map fun q=>(.fn 114 q.1,q.2):=rfl
  rw[e]
  have e2:frz [cM x] 8 (.ptr 0 0)=some (vM x.fr,[]):=frz_ptrM rfl
  simp only[mapF,e2,oBs,Option.map_some,fr,List.append_nil]
theorem D_h7 (D:Dn x k n m p r odd xx ns):∃ v:AV,∀ (K:KT),execW cfg 47 (AP cfg) (AC cfg) (c1 (c1 (c2 (c2 (c2 (c2 (c2 (c2 (c2 (bodyOf f47)))))))))) ⟨[.any,.any,(.ptr 1 0),.any,(.ptr p 0),.any,(.bool odd),(.ptr m.length 0),.any,.any,.any,.any,.any,.any,.any,.any,.any,.any,.any,.any,.any,.any,.any,.any,.any,.any,.any,.any,.any,.any,.any,.any,.any,.any,.any,.any,.any,.any,.any,.any,.any,.any,.any,.any,.any,.any,.any,.any,.any],m++[cR oneR]⟩ K=K .normal ⟨[.any,.any,(.ptr 1 0),.any,(.ptr p 0),.any,(.bool odd),(.ptr m.length 0),.any,.any,.any,.any,.any,.any,.any,.any,.any,.any,.any,.any,.any,.any,.any,.any,.any,.any,.any,.any,.any,.any,.any,.any,.any,.any,.any,v,(.fn 114 [vM xx]),.any,.any,.any,.any,.any,.any,.any,.any,.any,.any,.any,.any],kill (m++[cR oneR]) ns⟩:=by
 obtain ⟨v,h1,h2⟩:=D.frz [cR oneR]
 refine ⟨v,fun K=>?_⟩
 have e:pcall (AP cfg) none (m++[cR oneR]) 82 [v]=some (.fn 114 [vM xx],kill (m++[cR oneR]) ns):=by
  unfold pcall
  rw[h2,oBs]
  simp only[Option.isSome_none,Bool.false_and,Bool.false_eq_true,if_false]
  rw[V82 xx D.fr];rfl
 rw[Q47_h7,h1,oBs,e,oBs]
theorem D_t {q:Nat} {o z:RV} (hm:m[q]?=some (cR o)) (h1:m[1]?=some (cR z)) (K:KT):execW cfg 47 (AP cfg) (AC cfg) (c2 (c2 (c2 (c2 (c2 (c2 (c2 (c2 (c2 (bodyOf f47)))))))))) ⟨[.any,.any,(.ptr 1 0),.any,.any,.any,.any,(.ptr q 0),.any,.any,.any,.any,.any,.any,.any,.any,.any,.any,.any,.any,.any,.any,.any,.any,.any,.any,.any,.any,.any,.any,.any,.any,.any,.any,.any,.any,.any,.any,.any,.any,.any,.any,.any,.any,.any,.any,.any,.any,.any],m⟩ K=K .ret ⟨[.any,.any,(.ptr 1 0),(.int .i64 0),.any,.any,.any,(.ptr q 0),.any,.any,.any,.any,.any,.any,.any,.any,.any,.any,.any,.any,.any,.any,.any,.any,.any,.any,.any,.any,.any,.any,.any,.any,.any,.any,.any,.any,.any,.any,.any,.any,.any,.any,.any,.any,.any,.any,.any,.any,o.av],m.set 1 (cR o)⟩:=by
 rw[Q47_t,rldA hm,oBs,rstA h1,oBs]
end
end Go.Ab
namespace Go.Ab
instance instWInv:WInv:=⟨fun _=>True⟩
end Go.Ab
set_option linter.unusedVariables false
set_option linter.unusedSimpArgs false
namespace Go.Ab
open Go.Proofs.Try
section
variable (r c:Int) (z:Bool) (o:Own) (es:List AV)
abbrev it114:AV:=.vptr [.int .i64 r,.int .i64 c,.lst (some 3) z o es]
def s114 (i:Int):List AV:=[.any,it114 r c z o es,.any,.any,.any,.int .i64 r,.int .i64 i,.any,.any,.any,.any,.any,.any,.any,.any,.any,.any,.any,.any,.any,.any,.any,.any,.any,.any,.any]
def t114 (i:Int):List AV:=[.any,it114 r c z o es,.any,.int .i64 i,.any,.int .i64 r,.int .i64 i,.any,.any,.any,.any,.any,.any,.any,.any,.any,.any,.any,.any,.any,.any,.any,.any,.any,.any,.any]
def u114 (i:Int):List AV:=[.any,it114 r c z o es,.any,.int .i64 i,.any,.int .i64 r,.int .i64 i,.any,.any,.any,.int .i64 i,.vptr [.lst (some 3) z o es],.lst (some 3) z o es,.int .i64 i,.vptr [.int .i64 c,.lst (some 3) z o es],.int .i64 c,.int .i64 (IntKind.wrap .i64 (i*c)),.int .i64 i,.int .i64 (IntKind.wrap .i64 (i+1)),.vptr [.int .i64 c,.lst (some 3) z o es],.int .i64 c,.int .i64 (IntKind.wrap .i64 (IntKind.wrap .i64 (i+1)*c)),.any,.any,.any,.any]
theorem q114_0:runQ cfg 114 (opsOf (c1 (bodyOf f114))) [0,1,2] [.any,it114 r c z o es,.any,.any,.any,.any,.any,.any,.any,.any,.any,.any,.any,.any,.any,.any,.any,.any,.any,.any,.any,.any,.any,.any,.any,.any]=some [.any,it114 r c z o es,.any,.any,it114 r c z o es,.int .i64 r,.int .i64 0,.any,.any,.any,.any,.any,.any,.any,.any,.any,.any,.any,.any,.any,.any,.any,.any,.any,.any,.any]:=by kernel_rfl
theorem q114_1 (i:Int):runQ cfg 114 (opsOf (c1 (c1 (c1 (c2 (bodyOf f114)))))) [0] (s114 r c z o es i)=some [.any,it114 r c z o es,.any,.any,.any,.int .i64 r,.int .i64 i,.bool (decide (i<r)),.any,.any,.any,.any,.any,.any,.any,.any,.any,.any,.any,.any,.any,.any,.any,.any,.any,.any]:=by kernel_rfl
theorem q114_2 (i:Int):runQ cfg 114 (opsOf (c1 (c1 (c1 (c2 (c2 (c1 (c1 (c2 (bodyOf f114)))))))))) [0,1] (s114 r c z o es i)=some [.any,it114 r c z o es,.any,.int .i64 i,.any,.int .i64 r,.int .i64 i,.any,.int .i64 i,.any,.any,.any,.any,.any,.any,.any,.any,.any,.any,.any,.any,.any,.any,.any,.any,.any]:=by kernel_rfl
theorem q114_3 (i:Int):runQ cfg 114 (opsOf (c1 (c2 (c1 (c1 (c2 (c2 (c1 (c1 (c2 (bodyOf f114))))))))))) [1,2,3,4,5,6,7,8,9,10,11,12] (t114 r c z o es i)=some (u114 r c z o es i):=by kernel_rfl
theorem q114_4 (i:Int):runQ cfg 114 (opsOf (c2 (c2 (c2 (c1 (c1 (c2 (bodyOf f114)))))))) [0,1] (s114 r c z o es i)=some [.any,it114 r c z o es,.any,.any,.any,.int .i64 r,.int .i64 (IntKind.wrap .i64 (i+1)),.any,.any,.any,.any,.any,.any,.any,.any,.any,.any,.any,.any,.any,.any,.any,.any,.any,.any,.int .i64 (IntKind.wrap .i64 (i+1))]:=by kernel_rfl
theorem q114_5 (i:Int) (b:Bool):runQ cfg 114 (opsOf (c1 (c2 (c1 (c1 (c2 (c2 (c1 (c1 (c2 (bodyOf f114))))))))))) [15] [.any,it114 r c z o es,.any,.any,.any,.int .i64 r,.int .i64 i,.any,.any,.any,.any,.any,.any,.any,.any,.any,.any,.any,.any,.any,.any,.any,.any,.bool b,.any,.any]=some [.any,it114 r c z o es,.any,.any,.any,.int .i64 r,.int .i64 i,.any,.any,.any,.any,.any,.any,.any,.any,.any,.any,.any,.any,.any,.any,.any,.any,.bool b,.bool (!b),.any]:=by kernel_rfl
end
theorem e114:bodyOf f114=.seq (.region 0 (opsOf (c1 (bodyOf f114))) false) (.block 0 (.loop (.seq (.region 1 (opsOf (c1 (c1 (c1 (c2 (bodyOf f114)))))) false) (.seq (.cond (.tmp 7) .skip (.exit 0)) (.seq (.block 1 (.seq (.region 2 (opsOf (c1 (c1 (c1 (c2 (c2 (c1 (c1 (c2 (bodyOf f114)))))))))) false) (.seq (.region 3 (opsOf (c1 (c2 (c1 (c1 (c2 (c2 (c1 (c1 (c2 (bodyOf f114))))))))))) false) (.cond (.tmp 24) .ret .skip)))) (.region 4 (opsOf (c2 (c2 (c2 (c1 (c1 (c2 (bodyOf f114)))))))) false)))))):=by kernel_rfl
theorem res114 (ts:Array Value) (w:World):(results f114 ts).run prog w=.ok (.tuple #[]) w:=by
 rw[results_eq,Array.mapM_eq_mapM_toList,show f114.results.toList=[] from rfl]
 simp
end Go.Ab
set_option linter.unusedVariables false
set_option linter.unusedSimpArgs false
namespace Go.Ab
open Go.Proofs.Try Go.RowKit
abbrev rowA (z:Bool) (es:List AV) (c i:Nat):AV:=.lst (some 3) z .no ((es.take ((i+1)*c)).drop (i*c))
abbrev X114 (w:World) (g:G) (r c:Nat) (z:Bool) (es:List AV):={ p:Nat×Value // p.1<r∧V w g (rowA z es c p.1) p.2 }
def enc114 {w:World} {g:G} {r c:Nat} {z:Bool} {es:List AV} (x:X114 w g r c z es):Array Value:=#[.int .i64 (x.1.1:Int),x.1.2]
theorem anyD:∀ (n t:Nat),(List.replicate n AV.any).getD t .any=.any:=by
 intro n t
 rw[List.getD_eq_getElem?_getD,List.getElem?_replicate]
 split<;>rfl
theorem TmpR.put' {w:World} {g:G} {ts:List AV} {a:Act} (h:TmpR w g ts a.tmps) {v:AV} {v':Value} (hv:V w g v v') (d:Nat) {ts':List AV} (e:ts.set d v=ts'):TmpR w g ts' (a.put (some d) v').tmps:=by
 subst e
 exact h.put hv (some d)
theorem put_self {a:Act} {d:Nat} {v:Value} (h:d<a.tmps.size):(a.put (some d) v).tmps.getD d undef=v:=by
 simp only[Act.put]
 rw[Array.getD_eq_getD_getElem?,Array.getElem?_setIfInBounds_self]
 simp[h]
noncomputable def g114 (i:Nat):Oper:=((opsOf (c1 (c2 (c1 (c1 (c2 (c2 (c1 (c1 (c2 (bodyOf f114)))))))))))[i]?).getD default
theorem at3_0:(opsOf (c1 (c2 (c1 (c1 (c2 (c2 (c1 (c1 (c2 (bodyOf f114)))))))))))[0]?=some (g114 0):=by kernel_rfl
theorem at3_13:(opsOf (c1 (c2 (c1 (c1 (c2 (c2 (c1 (c1 (c2 (bodyOf f114)))))))))))[13]?=some (g114 13):=by kernel_rfl
theorem at3_14:(opsOf (c1 (c2 (c1 (c1 (c2 (c2 (c1 (c1 (c2 (bodyOf f114)))))))))))[14]?=some (g114 14):=by kernel_rfl
theorem op3_0:(g114 0).op=.move (.tmp 0)∧(g114 0).guard=none∧(g114 0).dst=some 9:=⟨by kernel_rfl,by kernel_rfl,by kernel_rfl⟩
theorem op3_13:(g114 13).op=.slice 22 (.tmp 12) (some (.tmp 16)) (some (.tmp 21)) none∧(g114 13).guard=none∧(g114 13).dst=some 22:=⟨by kernel_rfl,by kernel_rfl,by kernel_rfl⟩
theorem op3_14:(g114 14).op=.call { callee:=.value (.tmp 9),args:=#[.tmp 10,.tmp 22],argTypes:=#[3,22] }∧(g114 14).guard=none∧(g114 14).dst=some 23:=⟨by kernel_rfl,by kernel_rfl,by kernel_rfl⟩
theorem TmpR.flat {w w':World} {g g':G} {ts:List AV} {vs:Array Value} (h:TmpR w g ts vs) (hw:∀ x∈ts,wl x=true):TmpR w' g' ts vs:=
 ⟨h.1,fun t=>by
  by_cases ht:t<ts.length
  ·exact (h.2 t).flat (hw _ (getD_mem ht))
  ·rw[List.getD_eq_getElem?_getD,List.getElem?_eq_none (by omega)];exact .any _⟩
theorem q114_6 (b:Bool):runQ cfg 114 (opsOf (c1 (c2 (c1 (c1 (c2 (c2 (c1 (c1 (c2 (bodyOf f114))))))))))) [15] [.any,.any,.any,.any,.any,.any,.any,.any,.any,.any,.any,.any,.any,.any,.any,.any,.any,.any,.any,.any,.any,.any,.any,.bool b,.any,.any]=some [.any,.any,.any,.any,.any,.any,.any,.any,.any,.any,.any,.any,.any,.any,.any,.any,.any,.any,.any,.any,.any,.any,.any,.bool b,.bool (!b),.any]:=by kernel_rfl
theorem V.int_eq {w:World} {g:G} {k:IntKind} {n:Int} {v:Value} (h:V w g (.int k n) v):v=.int k n:=by cases h;rfl
theorem V.bool_eq {w:World} {g:G} {b:Bool} {v:Value} (h:V w g (.bool b) v):v=.bool b:=by cases h;rfl
theorem ty22:prog.underlying 22=some (.slice 43):=by kernel_rfl
theorem sh43:shOf prog 43=some (some 3):=by kernel_rfl
theorem el43:elemOk prog 43 (some 3)=true:=by kernel_rfl
theorem tmpR_start {w:World} {g:G} {args:List AV} {vs:Array Value} (hl:args.length=vs.size) (hv:∀ j,j<args.length→V w g (args.getD j .any) (vs.getD j undef)) (k:Nat):TmpR w g (args++List.replicate k .any) (vs++Array.replicate k undef):=by
 refine ⟨by simp[hl],fun t=>?_⟩
 simp only[List.getD_eq_getElem?_getD,Array.getD_eq_getD_getElem?,List.getElem?_append,Array.getElem?_append]
 by_cases h1:t<args.length
 ·rw[if_pos h1,if_pos (by omega)]
  simpa [List.getD_eq_getElem?_getD,Array.getD_eq_getD_getElem?] using hv t h1
 ·rw[if_neg h1,if_neg (by omega),List.getElem?_replicate]
  split<;>exact .any _
theorem hf114:prog.funcs[114]?=some f114:=by kernel_rfl
theorem nt114:f114.ntmps=26:=by kernel_rfl
theorem hb114:f114.body=some (bodyOf f114):=by kernel_rfl
theorem stops114 {w:World} {g:G} {r c:Nat} {z:Bool} {o:Own} {es:List AV} {pv:Value} (hV:V w g (it114 r c z o es) pv) (hl:es.length=r*c) (hr:r≤60) (hc:c≤60) {n:Nat} (hn:1≤n) :
  SeqStopsK Fence.wide n prog 114 #[pv] (enc114 (w:=w) (g:=g) (r:=r) (c:=c) (z:=z) (es:=es)) (Hold g w) (fun xs=>xs.map (fun x=>x.1.1)=List.range r) (fun _=>True) r w:=by
 intro l J Jx W hW hJ hJx hY h0
 have hF:Fine Fence.wide:=.inl rfl
 have hH:=Hold.of_below hW (g:=g)
 refine callsIn_of_wp (fn:=f114) (c:=bodyOf f114) ?hf ?hb ?hF ?hh ?hro
 case hf=>exact hf114
 case hb=>exact hb114
 case hF=>exact hF.fn 114
 case hro=>rfl
 have hA:((#[.func (.yield l) #[] #[]] ++ #[pv])++Array.replicate (f114.ntmps-(#[.func (.yield l) #[] #[]] ++ #[pv]:Array Value).size) undef:Array Value) = #[.func (.yield l) #[] #[],pv]++Array.replicate 24 undef:=by
  rw[nt114];rfl
 rw[hA]
 have hts:TmpR w g [.any,it114 r c z o es,.any,.any,.any,.any,.any,.any,.any,.any,.any,.any,.any,.any,.any,.any,.any,.any,.any,.any,.any,.any,.any,.any,.any,.any] (#[.func (.yield l) #[] #[],pv]++Array.replicate 24 undef):=
  tmpR_start (args:=[.any,it114 r c z o es]) (vs:=#[.func (.yield l) #[] #[],pv]) rfl (fun j hj=>by
   rcases j with _|_|j
   ·exact V.any _
   ·exact hV
   ·simp at hj;omega) 24
 have hy0:(#[.func (.yield l) #[] #[],pv]++Array.replicate 24 undef:Array Value).getD 0 undef=.func (.yield l) #[] #[]:=by rw[Array.getD_eq_getD_getElem?];simp
 generalize (#[.func (.yield l) #[] #[],pv]++Array.replicate 24 undef:Array Value)=tmps0 at hts hy0 ⊢
 rw[e114]
 refine wpIn_seq (wpIn_region ?_)
 rw[show List.range (opsOf (c1 (bodyOf f114))).size=[0,1,2]++[] by kernel_rfl]
 refine pureQ (C:=cfg) hF hH [] [0,1,2] _ _ _ (q114_0 r c z o es) hts fun a1 ht1 hd1 hk1=>?_
 refine wpIn_block (wpIn_loop_rounds (r+1) ?_)
 have key:∀ (j k:Nat) (pre:List (X114 w g r c z es)) (a:Act) (W:World),k+j=r→pre.map (fun x=>x.1.1)=List.range k→J pre W→Hold g w w W→TmpR w g (s114 r c z o es k) a.tmps→a.tmps.getD 0 undef=.func (.yield l) #[] #[]→a.defers=[] →
   Code.roundsIn Fence.wide n prog (.seq (.region 1 (opsOf (c1 (c1 (c1 (c2 (bodyOf f114)))))) false) (.seq (.cond (.tmp 7) .skip (.exit 0)) (.seq (.block 1 (.seq (.region 2 (opsOf (c1 (c1 (c1 (c2 (c2 (c1 (c1 (c2 (bodyOf f114)))))))))) false) (.seq (.region 3 (opsOf (c1 (c2 (c1 (c1 (c2 (c2 (c1 (c1 (c2 (bodyOf f114))))))))))) false) (.cond (.tmp 24) .ret .skip)))) (.region 4 (opsOf (c2 (c2 (c2 (c1 (c1 (c2 (bodyOf f114)))))))) false))))
    (Exit.inBlock 0 (bodyPost prog f114 fun e W'=>(∃ v,e=.returned v)∧((∃ xs:List (X114 w g r c z es),xs.map (fun x=>x.1.1)=List.range r∧J xs W')∨∃ pre:List (X114 w g r c z es),True∧Jx pre W'))) (j+1) a W:=by
  intro j
  induction j with
  | zero=>
   intro k pre a W hk hpre hJp hH ht hy hd
   obtain rfl:k=r:=by omega
   rw[roundsIn_succ]
   refine wpIn_seq (wpIn_region ?_)
   rw[show List.range (opsOf (c1 (c1 (c1 (c2 (bodyOf f114)))))).size=[0]++[] by kernel_rfl]
   refine pureQ (C:=cfg) hF hH [] [0] _ _ _ (q114_1 k c z o es k) ht fun a1 ht1 hd1 hk1=>?_
   have h7:=ht1.2 7
   have e7:decide ((k:Int)<k)=false:=by simp
   rw[e7] at h7
   have h7':a1.eval (.tmp 7)=.bool false:=by cases hx:a1.tmps.getD 7 undef<;>(rw[hx] at h7;cases h7)<;>exact hx
   refine wpIn_seq (wpIn_cond_false h7' (wpIn_exit ?_))
   exact ⟨hd1.trans hd,_,res114 _ _,⟨_,rfl⟩,.inl ⟨pre,hpre,hJp⟩⟩
  | succ j ih=>
   intro k pre a W hk hpre hJp hH ht hy hd
   have hkr:k<r:=by omega
   rw[roundsIn_succ]
   refine wpIn_seq (wpIn_region ?_)
   rw[show List.range (opsOf (c1 (c1 (c1 (c2 (bodyOf f114)))))).size=[0]++[] by kernel_rfl]
   refine pureQ (C:=cfg) hF hH [] [0] _ _ _ (q114_1 r c z o es k) ht fun a1 ht1 hd1 hk1=>?_
   have h7:=ht1.2 7
   have e7:decide ((k:Int)<r)=true:=by simp;omega
   rw[e7] at h7
   have h7':a1.eval (.tmp 7)=.bool true:=by cases hx:a1.tmps.getD 7 undef<;>(rw[hx] at h7;cases h7)<;>exact hx
   refine wpIn_seq (wpIn_cond_true h7' (wpIn_skip ?_))
   refine wpIn_seq (wpIn_block (wpIn_seq (wpIn_region ?_)))
   have ht1s:TmpR w g (s114 r c z o es k) a1.tmps:=ht1.less rfl fun t=>by
    match t with
    | 0|1|2|3|4|5|6=>exact .inl rfl
    | 7=>exact .inr rfl
    | t+8=>exact .inl rfl
   rw[show List.range (opsOf (c1 (c1 (c1 (c2 (c2 (c1 (c1 (c2 (bodyOf f114)))))))))).size=[0,1]++[] by kernel_rfl]
   refine pureQ (C:=cfg) hF hH [] [0,1] _ _ _ (q114_2 r c z o es k) ht1s fun a2 ht2 hd2 hk2=>?_
   refine wpIn_seq (wpIn_region ?_)
   have hy2:a2.tmps.getD 0 undef=.func (.yield l) #[] #[]:=by rw[hk2 0 (by kernel_rfl),hk1 0 (by kernel_rfl)];exact hy
   rw[show List.range (opsOf (c1 (c2 (c1 (c1 (c2 (c2 (c1 (c1 (c2 (bodyOf f114))))))))))).size=0::([1,2,3,4,5,6,7,8,9,10,11,12]++[13,14,15]) by kernel_rfl,wpOpsIn_cons]
   refine moveIn hF at3_0 op3_0.1 op3_0.2.1 ?_
   rw[op3_0.2.2]
   have hsz2:26=a2.tmps.size:=ht2.1
   have e3:a2.eval (.tmp 0)=.func (.yield l) #[] #[]:=hy2
   rw[e3]
   have ht3:TmpR w g (t114 r c z o es k) (a2.put (some 9) (.func (.yield l) #[] #[])).tmps:=
    (ht2.less (ts':=t114 r c z o es k) rfl fun t=>by
     match t with
     | 0|1|2|3|4|5|6|7=>exact .inl rfl
     | 8=>exact .inr rfl
     | t+9=>exact .inl rfl).put' (.any _) 9 rfl
   refine pureQ (C:=cfg) hF hH [13,14,15] [1,2,3,4,5,6,7,8,9,10,11,12] _ _ _ (q114_3 r c z o es k) ht3 fun a4 ht4 hd4 hk4=>?_
   have hy4:a4.tmps.getD 9 undef=.func (.yield l) #[] #[]:=by
    rw[hk4 9 (by kernel_rfl)]
    exact put_self (by omega)
   have hk60:k*c≤60*60:=Nat.mul_le_mul (by omega) hc
   have hk61:(k+1)*c≤60*60:=Nat.mul_le_mul (by omega) hc
   have hle:k*c≤(k+1)*c:=Nat.mul_le_mul (by omega) (Nat.le_refl _)
   have hle2:(k+1)*c≤es.length:=by rw[hl];exact Nat.mul_le_mul (by omega) (Nat.le_refl _)
   have e16:a4.eval (.tmp 16)=.int .i64 ((k*c:Nat):Int):=by
    have h:=(ht4.2 16).int_eq (k:=.i64) (n:=IntKind.wrap .i64 ((k:Int)*c))
    rw[wrap_i64 (by rw[← Int.natCast_mul];omega) (by rw[← Int.natCast_mul];omega)] at h
    rw[Int.natCast_mul];exact h
   have e21:a4.eval (.tmp 21)=.int .i64 (((k+1)*c:Nat):Int):=by
    have h:=(ht4.2 21).int_eq (k:=.i64) (n:=IntKind.wrap .i64 (IntKind.wrap .i64 ((k:Int)+1)*c))
    have e1:IntKind.wrap .i64 ((k:Int)+1)=((k+1:Nat):Int):=by rw[wrap_i64 (by omega) (by omega)];rfl
    rw[e1,wrap_i64 (by rw[← Int.natCast_mul];omega) (by rw[← Int.natCast_mul];omega)] at h
    rw[Int.natCast_mul];exact h
   obtain ⟨v,hrun,hv⟩:=slice_any (P:=prog) (ht4.2 12:V w g (.lst (some 3) z o es) (a4.tmps.getD 12 undef)) hle hle2 22 ty22 sh43 el43
   rw[wpOpsIn_cons]
   refine valIn hF at3_13 (v:=v) (fun c h=>by rw[op3_13.1] at h;cases h) op3_13.2.1 ?_ ?_
   ·have:(execOp a4.eval (g114 13)).run prog W=(do pure (Next.value (← Instr.sliceAt 22 (a4.eval (.tmp 12)) (some (a4.eval (.tmp 16))) (some (a4.eval (.tmp 21))) none)):Sem Next).run prog W:=by
     simp only[execOp,op3_13.1,Option.map_some,Option.map_none]
    show (execOp a4.eval (g114 13)).run prog W=_
    rw[this,e16,e21]
    simp only[Sem.run_bind]
    rw[show a4.eval (.tmp 12)=a4.tmps.getD 12 undef from rfl,hrun W]
    rfl
   rw[op3_13.2.2,wpOpsIn_cons]
   have hsz4:26=a4.tmps.size:=ht4.1
   have ht4s:TmpR w g (s114 r c z o es k) a4.tmps:=ht4.less rfl fun t=>by
    match t with
    | 0|1|2|4|5|6|7|8|9=>exact .inl rfl
    | 3|10|11|12|13|14|15|16|17|18|19|20|21=>exact .inr rfl
    | t+22=>exact .inl rfl
   have ht5:TmpR w g (s114 r c z o es k) (a4.put (some 22) v).tmps:=ht4s.put' (.any _) 22 rfl
   have hlen:pre.length<r:=by
    have:=congrArg List.length hpre
    simp at this;omega
   have hx:=hY pre ⟨(k,v),hkr,hv⟩ W hJp hlen
   have e9:(a4.put (some 22) v).eval (.tmp 9)=.func (.yield l) #[] #[]:=(put_other (by simp)).trans hy4
   have e10:(a4.put (some 22) v).eval (.tmp 10)=.int .i64 (k:Int):=(put_other (by simp)).trans ((ht4.2 10).int_eq (k:=.i64) (n:=k))
   have e22:(a4.put (some 22) v).eval (.tmp 22)=v:=put_self (by omega)
   refine yieldIn hF hn at3_14 op3_14.1 rfl op3_14.2.1 e9 (R:=fun e W'=>(e=.returned (.bool true)∧J (pre++[⟨(k,v),hkr,hv⟩]) W'∧Hold g w W W')∨(e=.returned (.bool false)∧Jx (pre++[⟨(k,v),hkr,hv⟩]) W')) ?_ ?_
   ·have:(#[Operand.tmp 10,Operand.tmp 22].map (a4.put (some 22) v).eval)=enc114 (w:=w) (g:=g) (r:=r) (c:=c) (z:=z) (es:=es) ⟨(k,v),hkr,hv⟩:=by
     simp only[List.map_toArray,List.map_cons,List.map_nil,e10,e22,enc114]
    rw[this]
    exact hx
   ·have hdf:(a4.put (some 22) v).defers=[]:=by
     rw[put_defers,hd4,put_defers,hd2,hd1,hd]
    rintro e W' (⟨rfl,hJ',hk'⟩|⟨rfl,hJx'⟩)
    ·refine ⟨_,rfl,?_⟩
     rw[op3_14.2.2]
     have hH':=hH.trans hk'
     refine pureQ (C:=cfg) hF hH' [] [15] _ _ _ (q114_5 r c z o es k true) (ht5.put' (.bool true) 23 rfl) fun a6 ht6 hd6 hk6=>?_
     have e24:a6.eval (.tmp 24)=.bool false:=(ht6.2 24).bool_eq (b:=false)
     refine wpIn_cond_false e24 (wpIn_skip ?_)
     refine wpIn_region ?_
     rw[show List.range (opsOf (c2 (c2 (c2 (c1 (c1 (c2 (bodyOf f114)))))))).size=[0,1]++[] by kernel_rfl]
     have ht6s:TmpR w g (s114 r c z o es k) a6.tmps:=ht6.less rfl fun t=>by
      match t with
      | 23|24=>exact .inr rfl
      | 0|1|2|3|4|5|6|7|8|9|10|11|12|13|14|15|16|17|18|19|20|21|22=>exact .inl rfl
      | t+25=>exact .inl rfl
     refine pureQ (C:=cfg) hF hH' [] [0,1] _ _ _ (q114_4 r c z o es k) ht6s fun a7 ht7 hd7 hk7=>?_
     have e1:IntKind.wrap .i64 ((k:Int)+1)=((k+1:Nat):Int):=by rw[wrap_i64 (by omega) (by omega)];rfl
     rw[e1] at ht7
     refine ih (k+1) (pre++[⟨(k,v),hkr,hv⟩]) a7 W' (by omega) (by rw[List.map_append,hpre,List.range_succ];rfl) hJ' hH' (ht7.less rfl fun t=>?_) ?_ ?_
     ·match t with
      | 25=>exact .inr rfl
      | 0|1|2|3|4|5|6|7|8|9|10|11|12|13|14|15|16|17|18|19|20|21|22|23|24=>exact .inl rfl
      | t+26=>exact .inl rfl
     ·rw[hk7 0 (by kernel_rfl),hk6 0 (by kernel_rfl),put_other (by simp),put_other (by simp),hk4 0 (by kernel_rfl),put_other (by simp)]
      exact hy2
     ·rw[hd7,hd6,put_defers];exact hdf
    ·refine ⟨_,rfl,?_⟩
     rw[op3_14.2.2]
     have hfl:TmpR W' g [.any,.any,.any,.any,.any,.any,.any,.any,.any,.any,.any,.any,.any,.any,.any,.any,.any,.any,.any,.any,.any,.any,.any,.any,.any,.any] (a4.put (some 22) v).tmps:=
      (TmpR.less ht5 (ts':=List.replicate 26 .any) rfl fun t=>.inr (anyD 26 t)).flat (by simp[wl])
     refine pureQ (C:=cfg) hF (Hold.refl g W' W') [] [15] _ _ _ (q114_6 false) (hfl.put' (.bool false) 23 rfl) fun a6 ht6 hd6 hk6=>?_
     have e24:a6.eval (.tmp 24)=.bool true:=(ht6.2 24).bool_eq (b:=true)
     refine wpIn_cond_true e24 (wpIn_ret ?_)
     exact ⟨by rw[hd6,put_defers];exact hdf,_,res114 _ _,⟨_,rfl⟩,.inr ⟨pre++[⟨(k,v),hkr,hv⟩],trivial,hJx'⟩⟩
 exact key r 0 [] a1 W (by omega) rfl h0 hH (ht1.less rfl fun t=>by
  match t with
  | 4=>exact .inr rfl
  | 0|1|2|3|5|6=>exact .inl rfl
  | t+7=>exact .inl rfl) ((hk1 0 (by kernel_rfl)).trans hy0) hd1
end Go.Ab
set_option linter.unusedVariables false
set_option linter.unusedSimpArgs false
namespace Go.Ab
open Go.Proofs Go.Proofs.Try Go.RowKit
def g0:G:=⟨fun _ _=>False,fun _=>False,fun _=>none,fun _ _=>none⟩
theorem get_nil (nm:Nat):Mem.get ([]:Mem) nm=none:=by simp[Mem.get]
theorem memR0 (w:World):MemR w.heap.size w g0 [] where
 obj nm bx cs h:=by rw[get_nil] at h;cases h
 tok nm n sz h:=by rw[get_nil] at h;cases h
 resv nm h:=⟨rfl,fun _=>rfl⟩
 fresh nm h:=⟨rfl,fun _=>rfl⟩
 inj nm nm' b h:=by unfold blk at h;rw[get_nil] at h;cases h
 wrLt b off h:=h.elim
 inv _ _:=trivial
 boxLt b h:=h.elim
 mp nm kk es h:=by rw[get_nil] at h;cases h
theorem cfgOk:CfgOk cfg where
 ben g h caps:=by
  have h:false=true:=h
  cases h
 libm g h hh:=by
  have hh:(none:Option (List AV→Mem→OM))=some h:=hh
  cases hh
 name g fn h:=by
  have hall:(Try.prog.funcs.toList.all fun fn=>!(fn.name == "runtime.NumGoroutine"))=true:=by kernel_rfl
  have hm:fn∈Try.prog.funcs.toList:=by
   rw[Array.mem_toList_iff]
   exact Array.mem_of_getElem? h
  have:=List.all_eq_true.1 hall fn hm
  simpa using this
 lib g h hh:=by
  have hh':(match Nat.beq g 45 with|true=>some (fun _=>none)|false=>match Nat.beq g 47 with|true=>some (fun _=>none)|false=>match Nat.beq g 48 with|true=>some (fun _=>none)|false=>none)=some h:=hh
  cases b1:Nat.beq g 45 with
  | true=>
   rw[b1] at hh'
   obtain rfl:=Nat.eq_of_beq_eq_true b1
   obtain rfl:(fun _=>none)=h:=Option.some.inj hh'
   exact ⟨⟨Try.f45,by kernel_rfl,rfl⟩,fun vs v hv=>by cases hv⟩
  | false=>
  cases b2:Nat.beq g 47 with
  | true=>
   rw[b1,b2] at hh'
   obtain rfl:=Nat.eq_of_beq_eq_true b2
   obtain rfl:(fun _=>none)=h:=Option.some.inj hh'
   exact ⟨⟨Try.f47,by kernel_rfl,rfl⟩,fun vs v hv=>by cases hv⟩
  | false=>
  cases b3:Nat.beq g 48 with
  | true=>
   rw[b1,b2,b3] at hh'
   obtain rfl:=Nat.eq_of_beq_eq_true b3
   obtain rfl:(fun _=>none)=h:=Option.some.inj hh'
   exact ⟨⟨Try.f48,by kernel_rfl,rfl⟩,fun vs v hv=>by cases hv⟩
  | false=>
   rw[b1,b2,b3] at hh'
   cases hh'
theorem u3:Try.prog.underlying 3=some (.int .i64):=by kernel_rfl
theorem u4:Try.prog.underlying 4=some .bool:=by kernel_rfl
theorem u116:Try.prog.underlying 116=some (.int .u32):=by kernel_rfl
theorem u41:Try.prog.underlying 41=some (.slice 116):=by kernel_rfl
theorem u22:Try.prog.underlying 22=some (.slice 43):=by kernel_rfl
theorem c3:Try.prog.cellsOf 3=1:=by kernel_rfl
theorem c4:Try.prog.cellsOf 4=1:=by kernel_rfl
theorem c22:Try.prog.cellsOf 22=1:=by kernel_rfl
theorem c24:Try.prog.cellsOf 24=3:=by kernel_rfl
theorem c41:Try.prog.cellsOf 41=1:=by kernel_rfl
theorem c43:Try.prog.cellsOf 43=3:=by kernel_rfl
theorem c116:Try.prog.cellsOf 116=1:=by kernel_rfl
noncomputable def fieldsOf (t:Nat):Array Field:=match Try.prog.underlying t with
 | some (.struct fs)=>fs
 | _=>#[]
theorem u43:Try.prog.underlying 43=some (.struct (fieldsOf 43)):=by kernel_rfl
theorem u24:Try.prog.underlying 24=some (.struct (fieldsOf 24)):=by kernel_rfl
theorem f43:(fieldsOf 43).toList.map (fun f=>(f.type,f.offset))=[(4,0),(41,1),(41,2)]:=by kernel_rfl
theorem f24:(fieldsOf 24).toList.map (fun f=>(f.type,f.offset))=[(3,0),(3,1),(22,2)]:=by kernel_rfl
theorem cells_get {w:World} {a:Addr} {n:Nat} {cs:List Value} (h:w.cells? 0 a n=some cs):cs.length=n∧∀ j,j<n→w.cell? (a.add j)=cs[j]?:=by
 unfold World.cells? at h
 rw[if_pos (Nat.zero_le _)] at h
 refine ⟨by simpa using mapM_some_length h,fun j hj=>mapM_some_get h j j (by simp[hj])⟩
theorem cell_spot {w:World} {a:Addr} {u:Value} (h:w.cell? a=some u):a.spot=none:=World.cell?_spot h
theorem add_mk {a:Addr} (h:a.spot=none) (j:Nat):a.add j=⟨a.block,a.off+j,none⟩:=by
 obtain ⟨b,o,s⟩:=a
 subst h
 exact Addr_add b o j
theorem three {α:Type} {cs:List α} (h:cs.length=3):∃ a b c,cs=[a,b,c]:=by
 match cs,h with
 | [a,b,c],_=>exact ⟨a,b,c,rfl⟩
section
variable {H:Type} {enc:TypeId×Value→H} {W:World} {fuel:Nat} {cs:List Value} {x:DataW H×List MemPlace}
theorem field_read {t:Nat} (ht:Try.prog.underlying t=some (.struct (fieldsOf t))) (h:DataW.trod enc Try.prog W 0 (fun _=>true) true fuel t cs=some x) {t' off i:Nat} (hi:((fieldsOf t).toList.map (fun f=>(f.type,f.offset)))[i]?=some (t',off)) :
  ∃ n y,DataW.trod enc Try.prog W 0 (fun _=>true) true n t' ((cs.drop off).take (Try.prog.cellsOf t'))=some y:=by
 obtain ⟨xs,n,rfl,_,_,hl,hf⟩:=DataW.trod_struct ht h
 rw[List.getElem?_map,Option.map_eq_some_iff] at hi
 obtain ⟨f,h1,h2⟩:=hi
 obtain ⟨rfl,rfl⟩:=Prod.mk.inj h2
 have hfi:(fieldsOf t)[i]?=some f:=by rw[← h1,Array.getElem?_toList]
 have:=hf i f hfi
 have hlt:i<xs.length:=by
  rw[hl]
  obtain ⟨h,_⟩:=Array.getElem?_eq_some_iff.1 hfi
  exact h
 rw[List.getElem?_eq_getElem hlt] at this
 exact ⟨n,_,this⟩
theorem u32_at {a:Addr} {i:Nat} (h:(W.cells? 0 (a.add (i*Try.prog.cellsOf 116)) (Try.prog.cellsOf 116)).bind (DataW.trod enc Try.prog W 0 (fun _=>true) true fuel 116)=some x):∃ d:Nat,d<4294967296∧W.cell? (a.add i)=some (.int .u32 d):=by
 rw[c116,Nat.mul_one] at h
 obtain ⟨cs,h1,h2⟩:=Option.bind_eq_some_iff.1 h
 obtain ⟨n,rfl,_,hw⟩:=DataW.trod_int u116 h2
 have h3:=(cells_get h1).2 0 (by omega)
 have hw2:0≤n∧n≤4294967295:=by
  simp only[Lit.wf,Bool.and_eq_true,decide_eq_true_eq] at hw
  exact hw
 refine ⟨n.toNat,by omega,?_⟩
 rw[Int.toNat_of_nonneg hw2.1]
 exact h3
theorem nat_read (h:DataW.trod enc Try.prog W 0 (fun _=>true) true fuel 41 cs=some x):∃ v,∃ y:NV,cs=[v]∧V W g0 y.av v∧XN y∧y.o=.no:=by
 rcases DataW.trod_slice u41 h with ⟨rfl,_⟩|⟨a,len,cap,elems,rest,n,_,rfl,_,_,hl,hm,he,hel,hre,_⟩
 ·exact ⟨_,⟨true,.no,[]⟩,rfl,.nils none .no (.inr rfl),⟨fun i=>by simp,fun _=>rfl⟩,rfl⟩
 ·obtain ⟨hrl,hre⟩:=hre rfl
  have cell:∀ i,∃ d:Nat,i<cap→d<4294967296∧W.cell? (a.add i)=some (.int .u32 d):=by
   intro i
   by_cases hi:i<cap
   ·by_cases hi2:i<len
    ·have h1:=hel i hi2
     rw[List.getElem?_eq_getElem (by omega)] at h1
     obtain ⟨d,hd⟩:=u32_at h1
     exact ⟨d,fun _=>hd⟩
    ·have h1:=hre (i-len) (by omega)
     rw[List.getElem?_eq_getElem (by omega),show len+(i-len)=i by omega] at h1
     obtain ⟨d,hd⟩:=u32_at h1
     exact ⟨d,fun _=>hd⟩
   ·exact ⟨0,fun h=>absurd h hi⟩
  obtain ⟨f,hf⟩:=Classical.axiomOfChoice cell
  have hsp:cap=0∨a.spot=none:=by
   by_cases h0:cap=0
   ·exact .inl h0
   ·exact .inr (cell_spot (hf 0 (by omega)).2)
  have hfl:flat (((List.range len).map f).map dg)=((List.range len).map f).map dg:=by
   generalize (List.range len).map f=l
   induction l with
   | nil=>rfl
   | cons d l ih=>
    show (dg d).cells++flat (l.map dg)=_
    rw[ih];rfl
  have hlen:(((List.range len).map f).map dg).length=len:=by simp
  refine ⟨_,⟨false,.no,(List.range len).map f⟩,rfl,?_,⟨fun i=>?_,fun h=>by cases h⟩,rfl⟩
  ·have hV:=V.lst (w:=W) (g:=g0) none .no (((List.range len).map f).map dg) a cap (fun j=>.int .u32 (f j)) hsp (by rw[hlen];exact hl) hm
    (fun e he=>by
     obtain ⟨d,_,rfl⟩:=List.mem_map.1 he
     exact ⟨rfl,rfl⟩)
    (fun j hj=>by
     rw[hfl,hlen] at hj
     refine ⟨?_,fun h=>h,fun h=>h⟩
     have:=(hf j (by omega)).2
     rw[add_mk (hsp.resolve_left (by omega))] at this
     exact this)
    (fun j hj=>by
     rw[hfl,hlen] at hj
     rw[hfl,List.getD_eq_getElem?_getD,List.getElem?_map,List.getElem?_map,List.getElem?_range hj]
     exact .int _ _) trivial
   rw[hlen] at hV
   exact hV
  ·show ((List.range len).map f).getD i 0<_
   rw[List.getD_eq_getElem?_getD,List.getElem?_map]
   by_cases hi:i<len
   ·rw[List.getElem?_range hi]
    exact (hf i (by omega)).1
   ·rw[List.getElem?_eq_none (by simp;omega)]
    exact (by omega:0<4294967296)
theorem ratio_read (h:DataW.trod enc Try.prog W 0 (fun _=>true) true fuel 43 cs=some x):∃ c0 c1 c2,∃ r:RV,cs=[c0,c1,c2]∧V W g0 (.bool r.neg) c0∧V W g0 r.num.av c1∧V W g0 r.den.av c2∧XR r∧r.num.o=.no∧r.den.o=.no:=by
 have hlen:cs.length=3:=by
  obtain ⟨_,_,_,_,h1,_⟩:=DataW.trod_struct u43 h
  rw[h1,c43]
 obtain ⟨c0,c1,c2,rfl⟩:=three hlen
 obtain ⟨n0,y0,h0⟩:=field_read u43 h (t':=4) (off:=0) (i:=0) (by rw[f43];rfl)
 obtain ⟨n1,y1,h1⟩:=field_read u43 h (t':=41) (off:=1) (i:=1) (by rw[f43];rfl)
 obtain ⟨n2,y2,h2⟩:=field_read u43 h (t':=41) (off:=2) (i:=2) (by rw[f43];rfl)
 rw[c4] at h0
 rw[c41] at h1 h2
 obtain ⟨b,e0,_⟩:=DataW.trod_bool u4 h0
 obtain ⟨v1,z1,e1,q1,q2,q3⟩:=nat_read h1
 obtain ⟨v2,z2,e2,r1,r2,r3⟩:=nat_read h2
 simp only[List.drop_zero,List.drop_succ_cons,List.take_succ_cons,List.take_zero,List.cons.injEq,and_true] at e0 e1 e2
 subst e0;subst e1;subst e2
 refine ⟨_,_,_,⟨b,z1,z2⟩,rfl,.bool b,q1,r1,⟨q2,r2,?_⟩,q3,r3⟩
 obtain ⟨a1,o1,d1⟩:=z1
 obtain ⟨a2,o2,d2⟩:=z2
 subst q3;subst r3
 rfl
theorem flat3:∀ (es:List RV) (j:Nat),j<es.length*3→(flat (es.map RV.av)).getD j .any=((es.getD (j/3) ⟨false,⟨true,.no,[]⟩,⟨true,.no,[]⟩⟩).av.cells).getD (j%3) .any
 | [],j,h=>by simp at h
 | r::es,0,h=>rfl
 | r::es,1,h=>rfl
 | r::es,2,h=>rfl
 | r::es,j+3,h=>by
  have ih:=flat3 es j (by simp only[List.length_cons] at h;omega)
  have e1:(j+3)/3=j/3+1:=by omega
  have e2:(j+3)%3=j%3:=by omega
  rw[e1,e2,List.getD_cons_succ,← ih]
  rfl
theorem flat3_len (es:List RV):(flat (es.map RV.av)).length=es.length*3:=by
 induction es with
 | nil=>rfl
 | cons r es ih=>
  show (_::_::_::flat (es.map RV.av)).length=_
  rw[List.length_cons,List.length_cons,List.length_cons,ih,List.length_cons];omega
theorem ratio_at {a:Addr} {i:Nat} (ha:i=0∨a.spot=none) (h:(W.cells? 0 (a.add (i*Try.prog.cellsOf 43)) (Try.prog.cellsOf 43)).bind (DataW.trod enc Try.prog W 0 (fun _=>true) true fuel 43)=some x) :
  a.spot=none∧∃ r:RV,(XR r∧r.num.o=.no∧r.den.o=.no)∧∀ j,j<3→∃ u,W.cell? ⟨a.block,a.off+(i*3+j),none⟩=some u∧V W g0 (r.av.cells.getD j .any) u:=by
 rw[c43] at h
 obtain ⟨cs,h1,h2⟩:=Option.bind_eq_some_iff.1 h
 obtain ⟨c0,c1,c2,r,rfl,v0,v1,v2,xr,o1,o2⟩:=ratio_read h2
 have h3:=(cells_get h1).2
 have hs:a.spot=none:=by
  rcases ha with rfl|ha
  ·rw[Nat.zero_mul] at h3
   exact cell_spot (h3 0 (by omega))
  ·exact ha
 refine ⟨hs,r,⟨xr,o1,o2⟩,fun j hj=>?_⟩
 have h4:=h3 j hj
 rw[add_mk hs,Addr_add,Nat.add_assoc] at h4
 match j,hj with
 | 0,_=>exact ⟨c0,h4,v0⟩
 | 1,_=>exact ⟨c1,h4,v1⟩
 | 2,_=>exact ⟨c2,h4,v2⟩
theorem sh_rv {r:RV} (h1:r.num.o=.no) (h2:r.den.o=.no):shOk (some 3) r.av=true∧pl r.av=true:=by
 obtain ⟨b,⟨a1,o1,d1⟩,⟨a2,o2,d2⟩⟩:=r
 subst h1;subst h2
 exact ⟨rfl,rfl⟩
theorem row_read (h:DataW.trod enc Try.prog W 0 (fun _=>true) true fuel 22 cs=some x):∃ v,∃ l:LV,cs=[v]∧V W g0 l.av v∧(l.sh=some 3∨l.es=[])∧(l.z=true→l.es=[])∧(∀ r∈l.es,XR r)∧l.o=.no:=by
 rcases DataW.trod_slice u22 h with ⟨rfl,_⟩|⟨a,len,cap,elems,rest,n,_,rfl,_,_,hl,hm,he,hel,hre,_⟩
 ·exact ⟨_,⟨some 3,true,.no,[]⟩,rfl,.nils _ .no (.inr rfl),.inl rfl,fun _=>rfl,(fun r hr=>by cases hr),rfl⟩
 ·obtain ⟨hrl,hre⟩:=hre rfl
  have raw:∀ i,i<cap→∃ y,(W.cells? 0 (a.add (i*Try.prog.cellsOf 43)) (Try.prog.cellsOf 43)).bind (DataW.trod enc Try.prog W 0 (fun _=>true) true n 43)=some y:=by
   intro i hi
   by_cases hi2:i<len
   ·have h1:=hel i hi2
    rw[List.getElem?_eq_getElem (by omega)] at h1
    exact ⟨_,h1⟩
   ·have h1:=hre (i-len) (by omega)
    rw[List.getElem?_eq_getElem (by omega),show len+(i-len)=i by omega] at h1
    exact ⟨_,h1⟩
  have hsp:cap=0∨a.spot=none:=by
   by_cases h0:cap=0
   ·exact .inl h0
   ·obtain ⟨y,hy⟩:=raw 0 (by omega)
    exact .inr (ratio_at (.inl rfl) hy).1
  have cell:∀ i,∃ r:RV,i<cap→(XR r∧r.num.o=.no∧r.den.o=.no)∧∀ j,j<3→∃ u,W.cell? ⟨a.block,a.off+(i*3+j),none⟩=some u∧V W g0 (r.av.cells.getD j .any) u:=by
   intro i
   by_cases hi:i<cap
   ·obtain ⟨y,hy⟩:=raw i hi
    obtain ⟨r,hr⟩:=(ratio_at (.inr (hsp.resolve_left (by omega))) hy).2
    exact ⟨r,fun _=>hr⟩
   ·exact ⟨⟨false,⟨true,.no,[]⟩,⟨true,.no,[]⟩⟩,fun h=>absurd h hi⟩
  obtain ⟨f,hf⟩:=Classical.axiomOfChoice cell
  have hlen:(((List.range len).map f).map RV.av).length=len:=by simp
  have hlen0:((List.range len).map f).length=len:=by simp
  have hget:∀ j,j<len*3→((List.range len).map f).getD (j/3) ⟨false,⟨true,.no,[]⟩,⟨true,.no,[]⟩⟩=f (j/3):=by
   intro j hj
   rw[List.getD_eq_getElem?_getD,List.getElem?_map,List.getElem?_range (by omega)]
   rfl
  have hmem:∀ r∈(List.range len).map f,XR r∧r.num.o=.no∧r.den.o=.no:=by
   intro r hr
   obtain ⟨i,hi,rfl⟩:=List.mem_map.1 hr
   exact (hf i (by have:=List.mem_range.1 hi;omega)).1
  have hcl:∀ j,j<len*3→∃ u,W.cell? ⟨a.block,a.off+j,none⟩=some u∧V W g0 ((flat (((List.range len).map f).map RV.av)).getD j .any) u:=by
   intro j hj
   rw[flat3 _ j (by rw[hlen0];exact hj),hget j hj]
   have h1:=(hf (j/3) (by omega)).2 (j%3) (by omega)
   rw[show j/3*3+j%3=j by omega] at h1
   exact h1
  have hus:∀ j,∃ u,j<len*3→W.cell? ⟨a.block,a.off+j,none⟩=some u∧V W g0 ((flat (((List.range len).map f).map RV.av)).getD j .any) u:=by
   intro j
   by_cases hj:j<len*3
   ·obtain ⟨u,hu⟩:=hcl j hj
    exact ⟨u,fun _=>hu⟩
   ·exact ⟨undef,fun h=>absurd h hj⟩
  obtain ⟨us,hus⟩:=Classical.axiomOfChoice hus
  refine ⟨_,⟨some 3,false,.no,(List.range len).map f⟩,rfl,?_,.inl rfl,(fun h=>by cases h),fun r hr=>(hmem r hr).1,rfl⟩
  have hV:=V.lst (w:=W) (g:=g0) (some 3) .no (((List.range len).map f).map RV.av) a cap us hsp (by rw[hlen];exact hl) hm
   (fun e he=>by
    obtain ⟨r,hr,rfl⟩:=List.mem_map.1 he
    exact sh_rv (hmem r hr).2.1 (hmem r hr).2.2)
   (fun j hj=>by
    rw[flat3_len,hlen0] at hj
    exact ⟨(hus j hj).1,fun h=>h,fun h=>h⟩)
   (fun j hj=>by
    rw[flat3_len,hlen0] at hj
    exact (hus j hj).2) trivial
  rw[hlen] at hV
  exact hV
theorem mat_read {v:Value} {d:DataW H} {ps:List MemPlace} (hv:∃ cs,v=.agg cs) (h:DataW.Trod enc Try.prog W 0 (fun _=>true) true 24 v d ps):∃ y:MV,V W g0 y.av v∧XM y∧y.fr=y:=by
 obtain ⟨cs,rfl⟩:=hv
 obtain ⟨fuel,h⟩:=h
 have hlen:cs.toList.length=3:=by
  obtain ⟨_,_,_,_,h1,_⟩:=DataW.trod_struct u24 h
  rw[c24] at h1
  exact h1
 have h:DataW.trod enc Try.prog W 0 (fun _=>true) true fuel 24 cs.toList=some (d,ps):=h
 obtain ⟨v0,v1,v2,hcs⟩:=three hlen
 obtain rfl:cs = #[v0,v1,v2]:=by
  cases cs
  simp_all
 obtain ⟨n0,y0,h0⟩:=field_read u24 h (t':=3) (off:=0) (i:=0) (by rw[f24];rfl)
 obtain ⟨n1,y1,h1⟩:=field_read u24 h (t':=3) (off:=1) (i:=1) (by rw[f24];rfl)
 obtain ⟨n2,y2,h2⟩:=field_read u24 h (t':=22) (off:=2) (i:=2) (by rw[f24];rfl)
 rw[c3] at h0 h1
 rw[c22] at h2
 obtain ⟨a,e0,_⟩:=DataW.trod_int u3 h0
 obtain ⟨b,e1,_⟩:=DataW.trod_int u3 h1
 obtain ⟨v,l,e2,q1,q2,q3,q4,q5⟩:=row_read h2
 simp only[List.drop_zero,List.drop_succ_cons,List.take_succ_cons,List.take_zero,List.cons.injEq,and_true] at e0 e1 e2
 subst e0;subst e1;subst e2
 refine ⟨⟨a,b,l⟩,.agg _ _ rfl fun j hj=>?_,⟨q2,q3,q4⟩,?_⟩
 ·match j,hj with
  | 0,_=>exact .int _ _
  | 1,_=>exact .int _ _
  | 2,_=>exact q1
 ·obtain ⟨sh,z,o,es⟩:=l
  subst q5
  rfl
theorem okWide_agg {base:Nat} {t:Nat} {v:Value} {fs:Array Field} (ht:Try.prog.underlying t=some (.struct fs)) (h:Value.okWide Try.prog W .any base t v):∃ cs,v=.agg cs:=by
 simp only[Value.okWide,ht] at h
 obtain ⟨cs,h,_⟩:=h
 exact ⟨cs,h⟩
end
end Go.Ab
set_option linter.unusedVariables false
set_option linter.unusedSimpArgs false
set_option linter.unusedSectionVars false
namespace Go.Ab
abbrev Cfg.plug (C:Cfg) (L:Nat→Option (List AV→Option AV)):Cfg:=⟨C.P,C.inl,C.arrm,C.tokm,C.two,C.thaw,C.frzc,C.seqm,C.late,C.ben,C.mask,C.ord,C.ahd,L,C.libm⟩
def Plugs (C:Cfg) (L:Nat→Option (List AV→Option AV)):Prop:=∀ g,L g=C.lib g∨C.lib g=some (fun _=>none)
section
variable {R:Type} {C:Cfg} {L:Nat→Option (List AV→Option AV)} {fid:Nat} {cp cp':Nat→List AV→Option AV} {ci ci':Nat→List AV→Mem→OM}
theorem callK_plug (hp:Plugs C L) (h:CLe cp cp' ci ci') {d:Option Nat} {g:Nat} {vs:List AV} {m:Mem} {K:AV→Mem→Option R} {x:R} (hx:callK C fid cp ci d g vs m K=some x):callK (C.plug L) fid cp' ci' d g vs m K=some x:=by
 unfold callK at hx ⊢
 cases hlm:C.libm g with
 | some l=>
  rw[hlm] at hx
  exact hx
 | none=>
 rw[hlm] at hx
 simp only at hx ⊢
 cases hl:C.lib g with
 | some l=>
  rw[hl] at hx
  rcases hp g with e|e
  ·rw[show L g=some l from e.trans hl];exact hx
  ·rw[e] at hl
   obtain rfl:=Option.some.inj hl
   simp at hx
 | none=>
  rw[hl] at hx
  have e:L g=none:=by
   rcases hp g with e|e
   ·exact e.trans hl
   ·rw[e] at hl;cases hl
  rw[e]
  simp only at hx ⊢
  cases hi:C.inl fid g with
  | true=>
   rw[hi] at hx
   cases d with
   | some d=>exact hx
   | none=>
    simp only[Option.bind_eq_some_iff] at hx ⊢
    obtain ⟨r,hr,hx⟩:=hx
    cases hfz:C.frzc fid g with
    | true=>
     rw[hfz] at hr
     simp only[frzCall,Option.bind_eq_some_iff] at hr ⊢
     obtain ⟨r1,h1,h2⟩:=hr
     exact ⟨r,⟨r1,h1,h.2 _ _ _ _ h2⟩,hx⟩
    | false=>
    rw[hfz] at hr
    simp only at hr ⊢
    cases ht:C.thaw fid g with
    | false=>rw[ht] at hr;exact ⟨r,h.2 _ _ _ _ hr,hx⟩
    | true=>
     rw[ht] at hr
     simp only[thawCall,Option.bind_eq_some_iff] at hr ⊢
     obtain ⟨r1,h1,q,h2,h3⟩:=hr
     exact ⟨r,⟨r1,h1,q,h.2 _ _ _ _ h2,h3⟩,hx⟩
  | false=>
   rw[hi] at hx
   simp only[Option.bind_eq_some_iff] at hx ⊢
   obtain ⟨r,hr,hx⟩:=hx
   refine ⟨r,?_,hx⟩
   unfold pcall at hr ⊢
   simp only[Option.bind_eq_some_iff] at hr ⊢
   obtain ⟨r1,h1,h2⟩:=hr
   refine ⟨r1,h1,?_⟩
   split at h2
   ·cases h2
   ·rename_i hne
    rw[if_neg hne]
    simp only[Option.map_eq_some_iff] at h2 ⊢
    obtain ⟨v,hv,h2⟩:=h2
    exact ⟨v,h.1 _ _ _ hv,h2⟩
theorem opF_plug (hp:Plugs C L) (h:CLe cp cp' ci ci') {d:Option Nat} {o:Oper} {ρ:Operand→AV} {m:Mem} {x:AV×Mem} (hx:opF C fid cp ci d o ρ m=some x):opF (C.plug L) fid cp' ci' d o ρ m=some x:=by
 unfold opF opK at hx ⊢
 cases ho:o.op with
 | call c=>
  rw[ho] at hx
  simp only at hx ⊢
  cases hc:c.callee with
  | value f=>
   rw[hc] at hx
   simp only[Option.bind_eq_some_iff] at hx ⊢
   obtain ⟨gc,h1,hx⟩:=hx
   exact ⟨gc,h1,callK_plug hp h hx⟩
  | _=>rw[hc] at hx;exact hx
 | _=>rw[ho] at hx;exact hx
theorem opG_plug (hp:Plugs C L) (h:CLe cp cp' ci ci') {base:Option Nat} {ops:Array Oper} {i:Nat} {o:Oper} {ts:List AV} {m:Mem} {r:AV×Mem} (hr:opG C fid cp ci base ops i o ts m=some r):opG (C.plug L) fid cp' ci' base ops i o ts m=some r:=by
 unfold opG at hr ⊢
 cases hg:o.guard with
 | none=>rw[hg] at hr;exact opF_plug hp h hr
 | some jw=>
  obtain ⟨j,want⟩:=jw
  rw[hg] at hr
  simp only at hr ⊢
  cases hd:(ops[j]?).bind (·.dst) with
  | none=>rw[hd] at hr;cases hr
  | some g=>
   rw[hd] at hr
   simp only at hr ⊢
   split at hr
   ·exact hr
   ·split at hr
    ·split at hr
     ·rename_i hb;rw[if_pos hb];exact opF_plug hp h hr
     ·rename_i hb;rw[if_neg hb];exact hr
    ·cases hr
theorem stepF_plug (hp:Plugs C L) (h:CLe cp cp' ci ci') {base:Option Nat} {ops:Array Oper} {i:Nat} {st s:St} (hx:stepF C fid cp ci base ops i st=some s):stepF (C.plug L) fid cp' ci' base ops i st=some s:=by
 unfold stepF at hx ⊢
 cases hi:ops[i]? with
 | none=>rw[hi] at hx;cases hx
 | some o=>
  rw[hi] at hx
  simp only[Option.map_eq_some_iff] at hx ⊢
  obtain ⟨r,hr,hx⟩:=hx
  exact ⟨r,opG_plug hp h hr,hx⟩
theorem runF_plug (hp:Plugs C L) (h:CLe cp cp' ci ci') {base:Option Nat} {ops:Array Oper}:∀ (l:List Nat) {st s:St},runF C fid cp ci base ops l st=some s→runF (C.plug L) fid cp' ci' base ops l st=some s
 | [],_,_,hx=>hx
 | i::l,st,s,hx=>by
  simp only[runF,Option.bind_eq_some_iff] at hx ⊢
  obtain ⟨s1,h1,h2⟩:=hx
  exact ⟨s1,stepF_plug hp h h1,runF_plug hp h l h2⟩
theorem runOps_plug (hp:Plugs C L) (h:CLe cp cp' ci ci') {base:Option Nat} {ops:Array Oper} {l:List Nat} {st:St} {K:St→Option R} {r:R} (hx:runOps C fid cp ci base ops l st K=some r):runOps (C.plug L) fid cp' ci' base ops l st K=some r:=by
 rw[runOps_eq] at hx ⊢
 simp only[Option.bind_eq_some_iff] at hx ⊢
 obtain ⟨s,h1,h2⟩:=hx
 exact ⟨s,runF_plug hp h l h1,h2⟩
theorem Chk_plug {ops:Array Oper} {y:Nat} {s:St} (hp:Plugs C L) (h:Chk C fid ops y s):Chk (C.plug L) fid ops y s:=by
 unfold Chk at h ⊢
 split
 ·rename_i o ho
  rw[ho] at h
  exact opG_plug hp ⟨fun _ _ _ h=>h,fun _ _ _ _ h=>h⟩ h
 ·trivial
theorem runL_plug (hp:Plugs C L) (h:CLe cp cp' ci ci') {lt:List (Nat×List Nat)} {ops:Array Oper}:∀ (l:List Nat) {st:St} {K:St→Option R} {r:R},runL C fid cp ci lt ops l st K=some r→runL (C.plug L) fid cp' ci' lt ops l st K=some r
 | [],_,_,_,hx=>hx
 | i::l,st,K,r,hx=>by
  rw[runL_cons,Option.bind_eq_some_iff] at hx ⊢
  obtain ⟨s1,h1,h2⟩:=hx
  obtain ⟨h3,h4⟩:=chkAll_some h2
  exact ⟨s1,stepF_plug hp h h1,by rw[chkAll_pos fun y hy=>Chk_plug hp (h3 y hy)];exact runL_plug hp h l h4⟩
theorem execW_plug (hp:Plugs C L) (h:CLe cp cp' ci ci'):∀ (c:Code) (st:St) (K:Ex→St→Option R) (r:R),execW C fid cp ci c st K=some r→execW (C.plug L) fid cp' ci' c st K=some r:=by
 intro c
 induction c with
 | region id ops d=>
  intro st K r hx
  cases d with
  | false=>simp only[execW] at hx ⊢;exact runOps_plug hp h hx
  | true=>
   simp only[execW] at hx ⊢
   cases hq:C.seqm fid id with
   | true=>
    rw[hq] at hx
    simp only at hx ⊢
    cases hd:drawS C.P ops (ordOf (C.ord fid id) ops.size) (C.ahd fid id) (C.late fid id) with
    | true=>rw[hd] at hx;exact runL_plug hp h _ hx
    | false=>rw[hd] at hx;cases hx
   | false=>
   rw[hq] at hx
   simp only at hx ⊢
   cases hd:drawOk3 C.P ops (ordOf (C.ord fid id) ops.size) (C.ahd fid id) (C.two fid id) with
   | true=>rw[hd] at hx;exact runOps_plug hp h hx
   | false=>rw[hd] at hx;cases hx
 | seq a b iha ihb=>
  intro st K r hx
  simp only[execW] at hx ⊢
  have h1:=iha _ _ _ hx
  refine (execW_lin a).mono (fun e s r hr=>?_) h1
  cases e with
  | normal=>exact ihb _ _ _ hr
  | exit id=>exact hr
  | ret=>exact hr
 | cond co a b iha ihb=>
  intro st K r hx
  simp only[execW] at hx ⊢
  unfold ifA at hx ⊢
  split at hx
  ·split at hx
   ·exact iha _ _ _ hx
   ·exact ihb _ _ _ hx
  ·cases hx
 | block id b ih=>
  intro st K r hx
  simp only[execW] at hx ⊢
  exact ih _ _ _ hx
 | loop b ih=>
  intro st K r hx
  simp only[execW,grd] at hx ⊢
  cases hf:fits (C.mask fid (keyOf b)).head st.tmps with
  | false=>rw[hf] at hx;cases hx
  | true=>
   rw[hf] at hx
   simp only at hx ⊢
   obtain ⟨n,hn⟩:=lim_some hx
   have:∀ n st,loopG (execW C fid cp ci b) (C.mask fid (keyOf b)) n st K=some r→loopG (execW (C.plug L) fid cp' ci' b) (C.mask fid (keyOf b)) n st K=some r:=by
    intro n
    induction n with
    | zero=>intro st hx;cases hx
    | succ n ihn=>
     intro st hx
     simp only[loopG] at hx ⊢
     have h1:=ih _ _ _ hx
     rcases execW_lin (R:=R) (C:=C.plug L) (fid:=fid) (callP:=cp') (callI:=ci') b st with hl|⟨e,s,hl⟩
     ·rw[hl] at h1;cases h1
     ·rw[hl] at h1 ⊢
      simp only at h1 ⊢
      cases e with
      | normal=>
       simp only[roundG,grd] at h1 ⊢
       cases hf':fits (C.mask fid (keyOf b)).head s.tmps with
       | true=>rw[hf'] at h1;exact ihn _ h1
       | false=>rw[hf'] at h1;cases h1
      | exit id=>exact h1
      | ret=>exact h1
   exact Rise.lim (F:=fun n=>loopG (execW (C.plug L) fid cp' ci' b) (C.mask fid (keyOf b)) n _ K) (fun n r h=>loopG_rise (execW_lin b) _ K n _ r h) (this n _ hn)
 | _=>intro st K r hx;exact hx
theorem acallW_plug (hp:Plugs C L):∀ k f args m r,acallW C k f args m=some r→acallW (C.plug L) k f args m=some r:=by
 intro k
 induction k with
 | zero=>intro f args m r h;cases h
 | succ k ih=>
  intro f args m r h
  rw[acallW] at h ⊢
  cases hf:C.P.funcs[f]? with
  | none=>rw[hf] at h;cases h
  | some fn=>
   rw[hf] at h
   simp only at h ⊢
   cases hb:fn.body with
   | none=>rw[hb] at h;cases h
   | some c=>
    rw[hb] at h
    exact execW_plug hp (acallP_le fun g vs m r=>ih g vs m r) c _ _ _ h
theorem AC_plug (hp:Plugs C L) {f:Nat} {args:List AV} {m:Mem} {r:AV×Mem} (h:AC C f args m=some r):AC (C.plug L) f args m=some r:=by
 obtain ⟨k,hk⟩:=lim_some h
 exact Rise.lim (F:=fun k=>acallW (C.plug L) k f args m) (fun k r h=>acallW_rise _ k f args m r h) (acallW_plug hp k f args m r hk)
theorem AP_plug (hp:Plugs C L) {f:Nat} {args:List AV} {v:AV} (h:AP C f args=some v):AP (C.plug L) f args=some v:=
 (acallP_le fun g vs m r hr=>AC_plug hp hr).1 f args v h
end
end Go.Ab
set_option linter.unusedVariables false
set_option linter.unusedSimpArgs false
set_option linter.unusedSectionVars false
namespace Go.Ab
open Go.RowKit
section
variable [WInv] {C:Cfg} {B:Nat} {F:Fence} {n:Nat} {w:World} {g:G}
theorem stepInB (hC:CfgOk C) (hb:∀ g,C.ben g=false) (hF:Fine F) {callI:Nat→List AV→Mem→OM} (hI:IOk C callI) {fid:Nat} {ops:Array Oper} {i:Nat} {base:Option Nat} {st s1:St} {a:Act} {w:World} {g:G} (h:stepF C fid (acallP callI) callI base ops i st=some s1) (hs:StR B w g st a) (hk:∀ b,base=some b→Kept ops b st.mem [i])
  {Q:Exit→Act→World→Prop} {next:Act→World→Prop} (hn:∀ a' w' g',StR B w' g' s1 a'→Step B w g w' g'→a'.defers=a.defers→next a' w'):nextIn F n C.P ops Q i next a w:=by
 obtain ⟨o,v,m1,ho,hr,rfl⟩:=stepF_some h
 have hrun:opF C fid (acallP callI) callI (base.map (· + rankA ops i)) o (ev st.tmps) st.mem=some (v,m1)→o.wp C.P a w next Q∧∀ c,o.op≠.defer c:=by
  intro hf
  obtain ⟨v2,m2,hK,hop⟩:=opK_sound (a:=a) hC hI hf (ev_V hs.tmp) hs.mem hs.size (fun hmk s hb=>by
   obtain ⟨b,hb1,rfl⟩:=Option.map_eq_some_iff.1 hb
   exact hk b hb1 i (by simp) o ho hmk)
  simp only[Option.some.injEq,Prod.mk.injEq] at hK
  obtain ⟨rfl,rfl⟩:=hK
  exact ⟨hop next Q fun a1 v' w' g' _ he _ s hm hv=>by
   obtain rfl:=he (opF_nodefer hb hf)
   exact hn _ w' g' ⟨(hs.tmp.step s).put hv o.dst,hm,Nat.le_trans hs.size s.below.size⟩ s (put_defers _ _ _),opF_nodefer hb hf⟩
 have hskip:v=.tup []∧m1=st.mem→next (a.put o.dst undef) w:=by
  rintro ⟨rfl,rfl⟩
  exact hn _ w g ⟨hs.tmp.put (.tup [] #[] rfl (fun j hj=>absurd hj (Nat.not_lt_zero j))) o.dst,hs.mem,hs.size⟩ (Step.refl _ _ _) (put_defers _ _ _)
 have hyes:Region.wanted o (yielded ops a.tmps)=true→o.wp C.P a w next Q∧∀ c,o.op≠.defer c:=by
  intro hw
  unfold opG at hr
  cases hg:o.guard with
  | none=>simp only[hg] at hr;exact hrun hr
  | some jw=>
   obtain ⟨j,want⟩:=jw
   simp only[hg] at hr
   cases hd:(ops[j]?).bind (·.dst) with
   | none=>simp[hd] at hr
   | some d=>
    simp only[hd] at hr
    cases hsk:skpd ops st.tmps j with
    | true=>
     simp only[hsk] at hr
     cases hv:st.tmps.getD d .any with
     | tup cs=>
      have hV:=hs.tmp.2 d
      rw[hv] at hV
      have hy:yielded ops a.tmps j=none:=by
       unfold yielded
       rw[hd]
       simp only[oBs]
       generalize hx:a.tmps.getD d undef=x at hV
       cases hV
       rw[Array.getD_eq_getD_getElem?] at hx
       cases hq:a.tmps[d]? with
       | none=>rfl
       | some y=>rw[hq] at hx;simp only[Option.getD_some] at hx;rw[hx]
      have:Region.wanted o (yielded ops a.tmps)=false:=by simp only[Region.wanted,hg,hy];rfl
      rw[this] at hw;cases hw
     | _=>simp only[hv] at hr;cases hr
    | false=>
     simp only[hsk] at hr
     cases hv:st.tmps.getD d .any with
     | bool b=>
      simp only[hv] at hr
      have hV:=hs.tmp.2 d
      rw[hv] at hV
      have hy:yielded ops a.tmps j=some b:=by
       unfold yielded
       rw[hd]
       simp only[oBs]
       generalize hx:a.tmps.getD d undef=x at hV
       cases hV
       have:a.tmps[d]?=some (.bool b):=by
        rw[Array.getD_eq_getD_getElem?] at hx
        cases hq:a.tmps[d]? with
        | none=>rw[hq] at hx;cases hx
        | some y=>rw[hq] at hx;simpa using hx
       rw[this]
      have hw2:Region.wanted o (yielded ops a.tmps)=(some b==some want):=by simp only[Region.wanted,hg,hy]
      by_cases hb:b=want
      ·rw[if_pos hb] at hr
       exact hrun hr
      ·have:(some b==some want)=false:=by simpa using hb
       rw[hw2,this] at hw;cases hw
     | _=>simp only[hv] at hr;cases hr
 have hno:Region.wanted o (yielded ops a.tmps)=false→v=.tup []∧m1=st.mem:=by
  intro hw
  unfold opG at hr
  cases hg:o.guard with
  | none=>
   have:Region.wanted o (yielded ops a.tmps)=true:=by simp[Region.wanted,hg]
   rw[this] at hw;cases hw
  | some jw=>
   obtain ⟨j,want⟩:=jw
   simp only[hg] at hr
   cases hd:(ops[j]?).bind (·.dst) with
   | none=>simp[hd] at hr
   | some d=>
    simp only[hd] at hr
    cases hsk:skpd ops st.tmps j with
    | true=>
     simp only[hsk] at hr
     cases hv:st.tmps.getD d .any with
     | tup cs=>
      simp only[hv] at hr
      cases cs with
      | nil=>
       simp only[Option.some.injEq,Prod.mk.injEq] at hr
       exact ⟨hr.1.symm,hr.2.symm⟩
      | cons c cs=>simp only at hr;cases hr
     | _=>simp only[hv] at hr;cases hr
    | false=>
     simp only[hsk] at hr
     cases hv:st.tmps.getD d .any with
     | bool b=>
      simp only[hv] at hr
      have hV:=hs.tmp.2 d
      rw[hv] at hV
      have hy:yielded ops a.tmps j=some b:=by
       unfold yielded
       rw[hd]
       simp only[oBs]
       generalize hx:a.tmps.getD d undef=x at hV
       cases hV
       have:a.tmps[d]?=some (.bool b):=by
        rw[Array.getD_eq_getD_getElem?] at hx
        cases hq:a.tmps[d]? with
        | none=>rw[hq] at hx;cases hx
        | some y=>rw[hq] at hx;simpa using hx
       rw[this]
      have hw2:Region.wanted o (yielded ops a.tmps)=(some b==some want):=by simp only[Region.wanted,hg,hy]
      by_cases hb:b=want
      ·have:(some b==some want)=true:=by simpa using hb
       rw[hw2,this] at hw;cases hw
      ·rw[if_neg hb] at hr
       simp only[Option.some.injEq,Prod.mk.injEq] at hr
       exact ⟨hr.1.symm,hr.2.symm⟩
     | _=>simp only[hv] at hr;cases hr
 refine nextIn_of hF (fun o' ho' hw=>?_) (fun o' ho' hw=>?_) (fun hnone=>by rw[ho] at hnone;cases hnone)
 ·rw[ho] at ho'
  obtain rfl:=Option.some.inj ho'
  exact hyes hw
 ·rw[ho] at ho'
  obtain rfl:=Option.some.inj ho'
  exact hskip (hno hw)
theorem any_in (hC:CfgOk C) (hb:∀ g,C.ben g=false) (hF:Fine F) {callI:Nat→List AV→Mem→OM} (hI:IOk C callI) {fid b n':Nat} {ops:Array Oper} {Q:Exit→Act→World→Prop} {canon:List Nat} (hlt:∀ k o,ops[k]?=some o→∀ e∈o.after.toList,Region.binds .any e=true→e.on<k)
  (hpairs:pairsOk ops (aheadOf ops) canon=true) (hnd:canon.Nodup):∀ (l:List Nat) (n:Nat),l.length=n→l.Sublist canon→∀ (listed:Array Bool),listed.size=ops.size→(∀ x,x<ops.size→(listed.getD x true=true↔x∉l))→(∀ x∈l,x<ops.size) →
  (∀ k o,k<ops.size→k∉l→ops[k]?=some o→∀ e∈o.after.toList,Region.binds .any e=true→e.on∉l) →
  ∀ (st s':St) (a:Act) (w:World) (g:G),runF C fid (acallP callI) callI (some b) ops l st=some s'→Kept ops b st.mem l→StR B w g st a →
  (∀ a' w' g',StR B w' g' s' a'→Step B w g w' g'→a'.defers=a.defers→Q .normal a' w')→wpAnyIn F n' C.P .any ops Q n listed a w:=by
 intro l n hn
 induction n generalizing l with
 | zero=>
  intro hsub listed hsz hlist hin hdown st s' a w g hr hk hs hq
  have hnil:l=[]:=List.eq_nil_of_length_eq_zero hn
  subst hnil
  simp only[runF,Option.some.injEq] at hr
  subst hr
  refine ⟨?_,hq a w g hs (Step.refl _ _ _) rfl⟩
  unfold Region.ready
  rw[List.filter_eq_nil_iff]
  intro x hx
  have:listed.getD x true=true:=(hlist x (by simpa using hx)).2 (by simp)
  simp[this]
 | succ n ih=>
  intro hsub listed hsz hlist hin hdown st s' a w g hr hk hs hq
  have hready:∀ i∈Region.ready .any ops listed,i∈l∧i<ops.size∧∃ o,ops[i]?=some o∧∀ e∈o.after.toList,Region.binds .any e=true→e.on∉l:=by
   intro i hi
   unfold Region.ready at hi
   simp only[List.mem_filter,List.mem_range,Bool.and_eq_true,Bool.not_eq_true'] at hi
   obtain ⟨h1,h2,h3⟩:=hi
   have hil:i∈l:=by
    by_cases h:i∈l
    ·exact h
    ·have:=(hlist i h1).2 h;rw[this] at h2;cases h2
   refine ⟨hil,h1,ops[i],by simp[h1],fun e he hb hon=>?_⟩
   have ho:ops[i]?=some ops[i]:=by simp[h1]
   rw[ho] at h3
   simp only[Option.map_some,Option.getD_some] at h3
   have h4:=Array.all_eq_true_iff_forall_mem.1 h3 e (by simpa using he)
   simp only[hb,Bool.not_true,Bool.false_or] at h4
   have h5:=hlt i _ ho e he hb
   have h6:listed.getD e.on true=true:=by
    have hes:e.on<listed.size:=by omega
    simp only[Array.getD,hes,dif_pos] at h4 ⊢
    exact h4
   exact (hlist e.on (by omega)).1 h6 hon
  refine ⟨fun hnone=>?_,fun i hi=>?_⟩
  ·
   exfalso
   have hne:l≠[]:=fun h=>by rw[h] at hn;simp at hn
   obtain ⟨mn,hmn,hmin⟩:∃ mn∈l,∀ x∈l,mn≤x:=by
    exact least l hne
   have hml:=hin mn hmn
   have:mn∈Region.ready .any ops listed:=by
    unfold Region.ready
    simp only[List.mem_filter,List.mem_range,Bool.and_eq_true,Bool.not_eq_true']
    refine ⟨hml,?_,?_⟩
    ·cases hb:listed.getD mn true with
     | false=>rfl
     | true=>exact absurd hmn ((hlist mn hml).1 hb)
    ·have ho:ops[mn]?=some ops[mn]:=by simp[hml]
     rw[ho]
     simp only[Option.map_some,Option.getD_some]
     rw[Array.all_eq_true_iff_forall_mem]
     intro e he
     by_cases hb:Region.binds .any e=true
     ·have h5:=hlt mn _ ho e (by simpa using he) hb
      have h6:e.on∉l:=fun h=>by have:=hmin _ h;omega
      have h7:=(hlist e.on (by omega)).2 h6
      have hes:e.on<listed.size:=by omega
      have h8:listed.getD e.on false=true:=by
       simp only[Array.getD,hes,dif_pos] at h7 ⊢
       exact h7
      rw[h8];simp
     ·simp at hb;simp[hb]
   rw[hnone] at this
   simp at this
  ·obtain ⟨hil,hio,x,hx,hedge⟩:=hready i hi
   obtain ⟨s1,h1,h2⟩:=first hx l st s' (hnd.sublist hsub) hil hk (fun p q hpq j hj=>by
    obtain ⟨pre,post,hcan⟩:∃ pc qc,canon=pc++i::qc∧∀ y∈p,y∈pc:=by
     rw[hpq] at hsub
     obtain ⟨c1,c2,hc,hs1,hs2⟩:=List.append_sublist_iff.1 hsub
     obtain ⟨d1,d2,hd,hdi⟩:∃ d1 d2,c2=d1++i::d2∧True:=by
      have:=hs2.subset (List.mem_cons_self)
      obtain ⟨d1,d2,hd⟩:=List.append_of_mem this
      exact ⟨d1,d2,hd,trivial⟩
     exact ⟨c1++d1,d2,by rw[hc,hd];simp,fun y hy=>List.mem_append.2 (.inl (hs1.subset hy))⟩
    rcases pairsOk_split hpairs pre post i hcan.1 j (hcan.2 j hj) with h|⟨y,x',hy,hx',hok⟩
    ·exfalso
     have hmem:((aheadTo ops ops.size).getD i 0).testBit j=true:=h
     have:=ahead_met (D:=fun k=>k∉l) (fun k o hk' hko e he hb=>by
      rcases Nat.lt_or_ge k ops.size with hk1|hk1
      ·exact hdown k o hk1 hk' hko e he hb
      ·rw[Array.getElem?_eq_none hk1] at hko;cases hko) hlt ops.size i x hio hx hedge j hmem
     exact this (by rw[hpq];simp[hj])
    ·obtain rfl:x=x':=by simpa [hx] using hx'
     exact ⟨y,hy,hok⟩) hr
   refine stepInB (base:=some b) hC hb hF hI h1 hs (fun b' hb'=>by cases hb';exact fun k hk'=>hk k (by simp at hk';rw[hk'];exact hil)) fun a' w' g' hs' s hd=>?_
   have hmem:∀ y,y∈l.erase i↔y∈l∧y≠i:=fun y=>by
    rw[(hnd.sublist hsub).mem_erase_iff];exact And.comm
   refine ih (l.erase i) (by rw[List.length_erase_of_mem hil];omega) (List.Sublist.trans List.erase_sublist hsub) (listed.setIfInBounds i true) (by simpa using hsz) (fun y hy=>?_) (fun y hy=>hin y ((hmem y).1 hy).1) (fun k o hk1 hk2 hko e he hb hon=>?_) s1 s' a' w' g' h2 (fun k hk' o ho hm=>?_) hs' fun a'' w'' g'' hs'' s' hd'=>hq a'' w'' g'' hs'' (s.trans s') (hd'.trans hd)
   ·have hys:y<listed.size:=by omega
    have hg:(listed.setIfInBounds i true).getD y true=if i=y then true else listed.getD y true:=by
     simp only[Array.getD_eq_getD_getElem?,Array.getElem?_setIfInBounds]
     by_cases hiy:i=y
     ·subst hiy;simp[hys]
     ·simp[hiy]
    rw[hg,hmem]
    by_cases hiy:i=y
    ·subst hiy;simp
    ·rw[if_neg hiy,hlist y hy]
     constructor
     ·intro h h';exact h h'.1
     ·intro h h';exact h ⟨h',fun he=>hiy he.symm⟩
   ·have hon':=(hmem _).1 hon
    by_cases hki:k=i
    ·subst hki
     obtain rfl:x=o:=by simpa [hx] using hko
     exact hedge e he hb hon'.1
    ·exact hdown k o hk1 (fun h=>hk2 ((hmem k).2 ⟨h,hki⟩)) hko e he hb hon'.1
   ·exact stepF_kept h1 (fun k' hk''=>hk k' ((hmem k').1 hk'').1) (fun h=>((hmem i).1 h).2 rfl) k hk' o ho hm
theorem draw_in (hC:CfgOk C) (hb:∀ g,C.ben g=false) (hF:Fine F) {callI:Nat→List AV→Mem→OM} (hI:IOk C callI) {R:Type} {fid id n':Nat} {ops:Array Oper} {Q:Exit→Act→World→Prop} {canon:List Nat} (hok:drawOk C.P ops canon=true) {st:St} {K:St→Option R} {r:R} {a:Act}
  (h:runOps C fid (acallP callI) callI (some st.mem.length) ops canon ⟨st.tmps,reserve st.mem (rankA ops ops.size)⟩ K=some r) (hs:StR B w g st a)
  (hn:∀ s' a' w' g',K s'=some r→StR B w' g' s' a'→Step B w g w' g'→a'.defers=a.defers→Q .normal a' w'):(Code.region id ops true).wpIn F n' C.P Q a w:=by
 unfold drawOk at hok
 simp only[Bool.and_eq_true] at hok
 obtain ⟨⟨⟨h1,h2⟩,h3⟩,h4⟩:=hok
 have hperm:canon.Perm (List.range ops.size):=List.isPerm_iff.1 h2
 have hlt:∀ k o,ops[k]?=some o→∀ e∈o.after.toList,Region.binds .any e=true→e.on<k:=by
  intro k o hk e he hb
  have hkl:=(Array.getElem?_eq_some_iff.1 hk).1
  have:=List.all_eq_true.1 h3 k (by simpa using hkl)
  rw[hk] at this
  simp only at this
  have:=Array.all_eq_true_iff_forall_mem.1 this e (by simpa using he)
  simpa [hb] using this
 rw[runOps_eq,reserve_eq] at h
 simp only[Option.bind_eq_some_iff] at h
 obtain ⟨s',hr,hK⟩:=h
 refine wpIn_region_any h1 ?_
 refine any_in hC hb hF hI hlt h4 (hperm.nodup_iff.2 List.nodup_range) canon ops.size (by rw[hperm.length_eq];simp) (List.Sublist.refl _) _ (by simp) (fun x hx=>?_) (fun x hx=>by simpa using hperm.mem_iff.1 hx) (fun k o hk hk'=>?_) _ s' a _ g hr (kept_reserve ops st.mem canon) ⟨hs.tmp.step (Step.drew B w g),mem_reserve (B:=B) (w:=w.drew) (g:=g) hs.mem.drew _,hs.size⟩ ?_
 ·have:x∈canon:=hperm.mem_iff.2 (by simpa using hx)
  simp[this,Array.getD,hx]
 ·exact absurd (hperm.mem_iff.2 (by simpa using hk)) hk'
 ·intro a' w' g' hs' s hd
  exact hn s' a' w' g' hK hs' ((Step.drew B w g).trans s) hd
def calmD (C:Cfg) (fid:Nat):Code→Bool
 | .region id _ d=>!d||(!C.seqm fid id&&(C.two fid id).isEmpty)
 | .seq x y=>calmD C fid x&&calmD C fid y
 | .cond _ x y=>calmD C fid x&&calmD C fid y
 | .block _ x=>calmD C fid x
 | .loop x=>calmD C fid x
 | _=>true
theorem execInD (hC:CfgOk C) (hb:∀ g,C.ben g=false) (hF:Fine F) {callI:Nat→List AV→Mem→OM} (hI:IOk C callI) {R:Type} {fid:Nat}:∀ (c:Code),calmD C fid c=true→∀ (st:St) (K:Ex→St→Option R) (r:R) (a:Act) (w:World) (g:G) (Q:Exit→Act→World→Prop),
  execW C fid (acallP callI) callI c st K=some r→StR B w g st a→AfterD C B w g a K r Q→c.wpIn F n C.P Q a w:=by
 intro c
 induction c with
 | skip=>
  intro _ st K r a w g Q h hs hq
  exact wpIn_skip (hq .normal st a w g h hs (Step.refl _ _ _) rfl)
 | region id ops d=>
  intro hcalm st K r a w g Q h hs hq
  simp only[execW] at h
  cases d with
  | false=>
   simp only at h
   rw[runOps_eq] at h
   simp only[Option.bind_eq_some_iff] at h
   obtain ⟨s',hr,hK⟩:=h
   exact wpIn_region (runIn hC hb hF hI _ st s' a w g hr hs fun a' w' g' hs' s hd=>hq .normal s' a' w' g' hK hs' s hd)
  | true=>
   simp only at h
   simp only[calmD,Bool.not_true,Bool.false_or,Bool.and_eq_true,Bool.not_eq_true',List.isEmpty_iff] at hcalm
   rw[hcalm.1] at h
   simp only at h
   split at h
   ·rename_i hok
    rw[hcalm.2] at hok h
    exact draw_in hC hb hF hI (drawOk_of hok) h hs fun s' a' w' g' hK hs' s hd=>hq .normal s' a' w' g' hK hs' s hd
   ·cases h
 | seq x y ihx ihy=>
  intro hcalm st K r a w g Q h hs hq
  simp only[calmD,Bool.and_eq_true] at hcalm
  simp only[execW] at h
  refine wpIn_seq (ihx hcalm.1 st _ r a w g _ h hs ?_)
  intro e st' a' w' g' hK hs' s hd
  cases e with
  | normal=>
   simp only[seqK] at hK
   exact ihy hcalm.2 st' K r a' w' g' Q hK hs' fun e st'' a'' w'' g'' hK' hs'' s' hd'=>hq e st'' a'' w'' g'' hK' hs'' (s.trans s') (hd'.trans hd)
  | exit id=>exact hq (.exit id) st' a' w' g' hK hs' s hd
  | ret=>exact hq .ret st' a' w' g' hK hs' s hd
 | cond co x y ihx ihy=>
  intro hcalm st K r a w g Q h hs hq
  simp only[calmD,Bool.and_eq_true] at hcalm
  simp only[execW] at h
  have hV:=ev_V hs.tmp co
  cases hv:ev st.tmps co with
  | bool b=>
   rw[hv] at h hV
   generalize hx:a.eval co=v at hV
   cases hV
   cases b with
   | true=>exact wpIn_cond_true hx (ihx hcalm.1 st K r a w g Q (by simpa [ifA] using h) hs hq)
   | false=>exact wpIn_cond_false hx (ihy hcalm.2 st K r a w g Q (by simpa [ifA] using h) hs hq)
  | _=>rw[hv] at h;simp[ifA] at h
 | block id x ih=>
  intro hcalm st K r a w g Q h hs hq
  simp only[execW] at h
  refine wpIn_block (ih hcalm st _ r a w g _ h hs ?_)
  intro e st' a' w' g' hK hs' s hd
  cases e with
  | normal=>exact hq .normal st' a' w' g' hK hs' s hd
  | exit j=>
   simp only[blockK] at hK
   by_cases hj:j=id
   ·have hb:(j==id)=true:=by simpa using hj
    rw[hb] at hK
    simp only[exitOf,Exit.inBlock,if_pos hj]
    exact hq .normal st' a' w' g' hK hs' s hd
   ·have hb:(j==id)=false:=by simpa using hj
    rw[hb] at hK
    simp only[exitOf,Exit.inBlock,if_neg hj]
    exact hq (.exit j) st' a' w' g' hK hs' s hd
  | ret=>exact hq .ret st' a' w' g' hK hs' s hd
 | loop x ih=>
  intro hcalm st K r a w g Q h hs hq
  simp only[execW] at h
  generalize C.mask fid (keyOf x)=mk at h
  have hmask:∀ (l:List Bool) {w:World} {g:G} {st:St} {a:Act},fits l st.tmps=true→StR B w g st a→StR B w g ⟨rb l st.tmps,st.mem⟩ a:=fun l w g st a hf hs=>⟨by rw[rb_fits _ _ hf];exact hs.tmp.mask _,hs.mem,hs.size⟩
  simp only[grd] at h
  cases hf0:fits mk.head st.tmps with
  | false=>rw[hf0] at h;cases h
  | true=>
  rw[hf0] at h
  have hs0:=hmask mk.head hf0 hs
  obtain ⟨k0,hn⟩:=lim_some h
  have round:∀ k (st:St) (a:Act) (w:World) (g:G),loopG (execW C fid (acallP callI) callI x) mk k st K=some r→StR B w g st a→AfterD C B w g a K r Q→Code.roundsIn F n C.P x Q k a w:=by
   intro k
   induction k with
   | zero=>intro st a w g h;simp[loopG] at h
   | succ k ihk=>
    intro st a w g h hs hq
    simp only[loopG] at h
    rw[roundsIn_succ]
    refine ih hcalm st _ r a w g _ h hs ?_
    intro e st' a' w' g' hK hs' s hd
    have hq':AfterD C B w' g' a' K r Q:=fun e st'' a'' w'' g'' hK' hs'' s' hd'=>hq e st'' a'' w'' g'' hK' hs'' (s.trans s') (hd'.trans hd)
    cases e with
    | normal=>
     simp only[roundG,grd] at hK
     cases hf:fits mk.head st'.tmps with
     | false=>rw[hf] at hK;cases hK
     | true=>
      rw[hf] at hK
      exact ihk _ a' w' g' hK (hmask _ hf hs') hq'
    | exit id=>
     simp only[roundG,grd] at hK
     cases hf:fits mk.out st'.tmps with
     | false=>rw[hf] at hK;cases hK
     | true=>rw[hf] at hK;exact hq (.exit id) _ a' w' g' hK (hmask _ hf hs') s hd
    | ret=>
     simp only[roundG,grd] at hK
     cases hf:fits mk.ret st'.tmps with
     | false=>rw[hf] at hK;cases hK
     | true=>rw[hf] at hK;exact hq .ret _ a' w' g' hK (hmask _ hf hs') s hd
  exact wpIn_loop_rounds k0 (round k0 _ a w g hn hs0 hq)
 | exit id=>
  intro _ st K r a w g Q h hs hq
  exact wpIn_exit (hq (.exit id) st a w g h hs (Step.refl _ _ _) rfl)
 | ret=>
  intro _ st K r a w g Q h hs hq
  exact wpIn_ret (hq .ret st a w g h hs (Step.refl _ _ _) rfl)
 | rangeFunc=>intro _ st K r a w g Q h;simp[execW] at h
 | scope=>intro _ st K r a w g Q h;simp[execW] at h
 | label=>intro _ st K r a w g Q h;simp[execW] at h
 | goto=>intro _ st K r a w g Q h;simp[execW] at h
 | refuse=>intro _ st K r a w g Q h;simp[execW] at h
end
end Go.Ab
set_option linter.unusedVariables false
set_option linter.unusedSimpArgs false
namespace Go.Ab
open Go.Proofs.Try Go.RowKit
theorem hf47:prog.funcs[47]?=some f47:=by kernel_rfl
theorem hb47:f47.body=some (bodyOf f47):=by kernel_rfl
theorem nt47:f47.ntmps=49:=by kernel_rfl
theorem e47:bodyOf f47=.seq (c1 (bodyOf f47)) (.seq (c1 (c2 (bodyOf f47))) (.seq (c1 (c2 (c2 (bodyOf f47)))) (.seq (c1 (c2 (c2 (c2 (bodyOf f47))))) (.seq (c1 (c2 (c2 (c2 (c2 (bodyOf f47)))))) (.seq (c1 (c2 (c2 (c2 (c2 (c2 (bodyOf f47))))))) (.seq (c1 (c2 (c2 (c2 (c2 (c2 (c2 (bodyOf f47)))))))) (.seq (.seq (c1 (c1 (c2 (c2 (c2 (c2 (c2 (c2 (c2 (bodyOf f47)))))))))) (.block 0 (.rangeFunc (.tmp 36) #[37,38] (rA (c1 (c2 (c1 (c2 (c2 (c2 (c2 (c2 (c2 (c2 (bodyOf f47)))))))))))) (rB (c1 (c2 (c1 (c2 (c2 (c2 (c2 (c2 (c2 (c2 (bodyOf f47))))))))))))))) (.seq (c1 (c2 (c2 (c2 (c2 (c2 (c2 (c2 (c2 (bodyOf f47)))))))))) (c2 (c2 (c2 (c2 (c2 (c2 (c2 (c2 (c2 (bodyOf f47)))))))))))))))))):=by kernel_rfl
theorem eA47:rA (c1 (c2 (c1 (c2 (c2 (c2 (c2 (c2 (c2 (c2 (bodyOf f47)))))))))))=.seq (.region 11 (opsOf (c1 (rA (c1 (c2 (c1 (c2 (c2 (c2 (c2 (c2 (c2 (c2 (bodyOf f47)))))))))))))) false) (.region 12 (opsOf (c2 (rA (c1 (c2 (c1 (c2 (c2 (c2 (c2 (c2 (c2 (c2 (bodyOf f47)))))))))))))) false):=by kernel_rfl
theorem atA47:(opsOf (c1 (rA (c1 (c2 (c1 (c2 (c2 (c2 (c2 (c2 (c2 (c2 (bodyOf f47))))))))))))))[0]?=some (((opsOf (c1 (rA (c1 (c2 (c1 (c2 (c2 (c2 (c2 (c2 (c2 (c2 (bodyOf f47))))))))))))))[0]?).getD default):=by kernel_rfl
theorem atB47:(opsOf (c2 (rA (c1 (c2 (c1 (c2 (c2 (c2 (c2 (c2 (c2 (c2 (bodyOf f47))))))))))))))[0]?=some (((opsOf (c2 (rA (c1 (c2 (c1 (c2 (c2 (c2 (c2 (c2 (c2 (c2 (bodyOf f47))))))))))))))[0]?).getD default):=by kernel_rfl
theorem opA47:(((opsOf (c1 (rA (c1 (c2 (c1 (c2 (c2 (c2 (c2 (c2 (c2 (c2 (bodyOf f47))))))))))))))[0]?).getD default).op=.assign (.tmp 37)∧(((opsOf (c1 (rA (c1 (c2 (c1 (c2 (c2 (c2 (c2 (c2 (c2 (c2 (bodyOf f47))))))))))))))[0]?).getD default).guard=none∧(((opsOf (c1 (rA (c1 (c2 (c1 (c2 (c2 (c2 (c2 (c2 (c2 (c2 (bodyOf f47))))))))))))))[0]?).getD default).dst=some 8:=⟨by kernel_rfl,by kernel_rfl,by kernel_rfl⟩
theorem opB47:(((opsOf (c2 (rA (c1 (c2 (c1 (c2 (c2 (c2 (c2 (c2 (c2 (c2 (bodyOf f47))))))))))))))[0]?).getD default).op=.assign (.tmp 38)∧(((opsOf (c2 (rA (c1 (c2 (c1 (c2 (c2 (c2 (c2 (c2 (c2 (c2 (bodyOf f47))))))))))))))[0]?).getD default).guard=none∧(((opsOf (c2 (rA (c1 (c2 (c1 (c2 (c2 (c2 (c2 (c2 (c2 (c2 (bodyOf f47))))))))))))))[0]?).getD default).dst=some 9:=⟨by kernel_rfl,by kernel_rfl,by kernel_rfl⟩
theorem szA47:List.range (opsOf (c1 (rA (c1 (c2 (c1 (c2 (c2 (c2 (c2 (c2 (c2 (c2 (bodyOf f47)))))))))))))).size=[0]∧List.range (opsOf (c2 (rA (c1 (c2 (c1 (c2 (c2 (c2 (c2 (c2 (c2 (c2 (bodyOf f47)))))))))))))).size=[0]:=⟨by kernel_rfl,by kernel_rfl⟩
theorem calm47:calmD cfg 47 (c1 (bodyOf f47))=true∧calmD cfg 47 (c1 (c2 (bodyOf f47)))=true∧calmD cfg 47 (c1 (c2 (c2 (bodyOf f47))))=true∧calmD cfg 47 (c1 (c2 (c2 (c2 (bodyOf f47)))))=true∧calmD cfg 47 (c1 (c2 (c2 (c2 (c2 (bodyOf f47))))))=true∧calmD cfg 47 (c1 (c2 (c2 (c2 (c2 (c2 (bodyOf f47)))))))=true∧calmD cfg 47 (c1 (c2 (c2 (c2 (c2 (c2 (c2 (bodyOf f47))))))))=true∧calmD cfg 47 (c1 (c1 (c2 (c2 (c2 (c2 (c2 (c2 (c2 (bodyOf f47))))))))))=true∧calmD cfg 47 (rB (c1 (c2 (c1 (c2 (c2 (c2 (c2 (c2 (c2 (c2 (bodyOf f47))))))))))))=true∧calmD cfg 47 (c1 (c2 (c2 (c2 (c2 (c2 (c2 (c2 (c2 (bodyOf f47))))))))))=true∧calmD cfg 47 (c2 (c2 (c2 (c2 (c2 (c2 (c2 (c2 (c2 (bodyOf f47))))))))))=true:=⟨by kernel_rfl,by kernel_rfl,by kernel_rfl,by kernel_rfl,by kernel_rfl,by kernel_rfl,by kernel_rfl,by kernel_rfl,by kernel_rfl,by kernel_rfl,by kernel_rfl⟩
theorem rs47 (ts:List AV) (m:Mem) (R:RV) (e:Int) (h2:ts.getD 2 .any=.ptr 1 0) (h3:ts.getD 3 .any=.int .i64 e) (h:m[1]?=some (cR R)):resultsA prog m ts f47.results.toList=some [R.av,.int .i64 e]:=by
 have e1:f47.results.toList=[.cell 2 43,.tmp 3]:=by kernel_rfl
 have e2:resA prog m ts (.cell 2 43)=loadA (some 3) m (ts.getD 2 .any):=by kernel_rfl
 have e3:resA prog m ts (.tmp 3)=some (ts.getD 3 .any):=by kernel_rfl
 rw[e1,resultsA,e2,h2,rldA h]
 simp only[resultsA,e3,h3,oBs]
 rfl
theorem offM {o:Obj}:mapsOn=true→∀ es c,o≠.map es c:=fun h=>absurd h (by decide)
theorem noMp {m:Mem}:mapsOn=true→NoMap m:=fun h=>absurd h (by decide)
theorem nb:∀ g,cfg.ben g=false:=fun _=>rfl
theorem execD {C:Cfg} (hC:CfgOk C) (hb:∀ g,C.ben g=false) {F:Fence} {n B:Nat} (hF:Fine F) {fid:Nat} {c:Code} (hcalm:calmD C fid c=true) {st st0:St} {e0:Ex} {a:Act} {w:World} {g:G} {Q:Exit→Act→World→Prop} (h:∀ K:KT,execW C fid (AP C) (AC C) c st K=K e0 st0) (hs:StR B w g st a)
  (hq:∀ a' w' g',StR B w' g' st0 a'→Step B w g w' g'→a'.defers=a.defers→Q (exitOf e0) a' w'):c.wpIn F n C.P Q a w:=
 execInD hC hb hF (AC_sound hC) c hcalm st (only e0 st0) _ a w g Q ((h _).trans (only_self _ _)) hs fun e st' a' w' g' hK hs' s hd=>by
  obtain ⟨rfl,rfl⟩:=only_eq hK
  exact hq a' w' g' hs' s hd
end Go.Ab
set_option linter.unusedVariables false
set_option linter.unusedSimpArgs false
namespace Go.Ab
open Go.Proofs.Try Go.RowKit
theorem kill_ne:∀ (ns:List Nat) (m:Mem) (q:Nat),q∉ns→(kill m ns)[q]?=m[q]?
 | [],_,_,_=>rfl
 | a::l,m,q,h=>by
  show (kill (m.set a none) l)[q]?=_
  rw[kill_ne l _ q (fun hh=>h (List.mem_cons_of_mem _ hh)),List.getElem?_set_ne (fun e=>h (by rw[e];exact List.mem_cons_self))]
theorem D_b2 {q i:Nat} {l:LV} {o s:RV} {j:Nat} {m:Mem} (hl:LOk j l) (hil:i<l.es.length) (fo:o.fr=o) (h78:AP cfg 78 [o.av,(l.es[i]).av]=some s.av) (hm:m[q]?=some (cR o)) :
  ∃ (ts:List AV),∀ (K:KT),execW cfg 47 (AP cfg) (AC cfg) (rB (c1 (c2 (c1 (c2 (c2 (c2 (c2 (c2 (c2 (c2 (bodyOf f47)))))))))))) ⟨[.any,.any,.any,.any,.any,.any,.any,(.ptr q 0),(.int .i64 i),l.av,.any,.any,.any,.any,.any,.any,.any,.any,.any,.any,.any,.any,.any,.any,.any,.any,.any,.any,.any,.any,.any,.any,.any,.any,.any,.any,.any,.any,.any,.any,.any,.any,.any,.any,.any,.any,.any,.any,.any],m⟩ K=K .normal ⟨ts,m.set q (cR s)⟩:=by
 have fr:=hl.fr _ (List.getElem_mem hil)
 refine ⟨[.any,.any,.any,.any,.any,.any,.any,(.ptr q 0),(.int .i64 i),l.av,.any,.any,.any,.any,.any,.any,.any,.any,.any,.any,.any,.any,.any,.any,.any,.any,.any,.any,.any,.any,.any,.any,.any,.any,.any,.any,.any,.any,.any,o.av,l.av,(.int .i64 i),(.vptr (l.es[i].av).cells),l.es[i].av,s.av,.any,.any,.any,.any],fun K=>?_⟩
 rw[Q47_b,rldA hm,oBs,index_lv hl hil,oBs,load_row,oBs,pcRR,fo,fr,h78,Option.map_some,oBs,rstA hm,oBs]
theorem D_h82 {o:RV} {j:Nat} {oq:Rat} {odd:Bool} (ho:ROk j o) (co:Can o oq) (fo:o.fr=o) :
  ∃ s:RV,Can s (sgO odd*oq)∧s.fr=s∧∀ (m:Mem) (q:Nat),m[q]?=some (cR o)→∃ ts:List AV,(∀ (K:KT),execW cfg 47 (AP cfg) (AC cfg) (c1 (c2 (c2 (c2 (c2 (c2 (c2 (c2 (c2 (bodyOf f47)))))))))) ⟨[.any,.any,(.ptr 1 0),.any,.any,.any,(.bool odd),(.ptr q 0),.any,.any,.any,.any,.any,.any,.any,.any,.any,.any,.any,.any,.any,.any,.any,.any,.any,.any,.any,.any,.any,.any,.any,.any,.any,.any,.any,.any,.any,.any,.any,.any,.any,.any,.any,.any,.any,.any,.any,.any,.any],m⟩ K=K .normal ⟨ts,m.set q (cR s)⟩)∧ts.length=49∧ts.getD 2 .any=.ptr 1 0∧ts.getD 7 .any=.ptr q 0:=by
 cases odd with
 | true=>
  obtain ⟨s,s1,s2,s3⟩:=V89 ho
  rw[co.q] at s2
  refine ⟨s,by rw[show sgO true*oq=-oq by unfold sgO;rw[if_pos rfl];grind];exact s2,s3,fun m q hm=>⟨[.any,.any,(.ptr 1 0),.any,.any,.any,(.bool true),(.ptr q 0),.any,.any,.any,.any,.any,.any,.any,.any,.any,.any,.any,.any,.any,.any,.any,.any,.any,.any,.any,.any,.any,.any,.any,.any,.any,.any,.any,.any,.any,.any,.any,.any,.any,.any,.any,.any,.any,(.bool true),o.av,s.av,.any],fun K=>?_,rfl,rfl,rfl⟩⟩
  rw[Q47_h8,ifA_true,rldA hm,oBs,pcR,fo,s1,Option.map_some,oBs,rstA hm,oBs]
 | false=>
  refine ⟨o,by rw[show sgO false*oq=oq by unfold sgO;rw[if_neg (by decide)];grind];exact co,fo,fun m q hm=>⟨[.any,.any,(.ptr 1 0),.any,.any,.any,(.bool false),(.ptr q 0),.any,.any,.any,.any,.any,.any,.any,.any,.any,.any,.any,.any,.any,.any,.any,.any,.any,.any,.any,.any,.any,.any,.any,.any,.any,.any,.any,.any,.any,.any,.any,.any,.any,.any,.any,.any,.any,(.bool false),.any,.any,.any],fun K=>?_,rfl,rfl,rfl⟩⟩
  rw[Q47_h8,ifA_false]
  have e:m.set q (cR o)=m:=List.ext_getElem? fun t=>by
   rw[List.getElem?_set]
   split
   ·rename_i h;subst h
    rw[if_pos (List.getElem?_eq_some_iff.1 hm).1,hm]
   ·rfl
  rw[e]
theorem enters114:∀ (args:Array Value) (w:World),(callFunc 114 args).run prog w=.ok (.enter 114 args) w:=by
 intro args w
 have hname:(f114.name == "runtime.NumGoroutine")=false:=by kernel_rfl
 have hb:f114.body.isNone=false:=by rw[hb114];rfl
 simp only[callFunc,hf114,hname,hb,Sem.run_bind,Sem.run_pure,run_program,Result.andThen_ok,Bool.false_eq_true,if_false]
theorem fn_inv {w:World} {g:G} {f:Nat} {c:AV} {v:Value} (h:V w g (.fn f [c]) v):∃ pv,v=.func (.func f) #[] #[pv]∧V w g c pv:=by
 cases h with
 | fn _ _ vs hl hv=>
  have hs:vs.size=1:=by simpa using hl.symm
  obtain ⟨l⟩:=vs
  match l,hs with
  | [p],_=>exact ⟨p,rfl,by simpa using hv 0 (by simp)⟩
theorem fold47 (t:Array Value) (a b:Value):((#[37,38]:Array Tmp).zip #[a,b]).foldl (fun t (p,v)=>t.setIfInBounds p v) t=(t.setIfInBounds 37 a).setIfInBounds 38 b:=by
 simp[Array.zip]
def dgP (N:MX):Nat→Rat
 | 0=>1
 | i+1=>dgP N i*N i i
end Go.Ab
set_option linter.unusedVariables false
set_option linter.unusedSimpArgs false
namespace Go.Ab
open Go.Proofs.Try
section
variable {xx:MV} {n j:Nat}
open Classical in
noncomputable def fO (xx:MV) (n:Nat) (o:RV) (i:Nat):RV:=
 if hh:∃ s:RV,∃ h:i*n+i<xx.lv.es.length,AP cfg 78 [o.av,(xx.lv.es[i*n+i]).av]=some s.av∧Can s (o.q*qAt xx (i*n+i))∧s.fr=s then Classical.choose hh else zeroR
noncomputable def OL (xx:MV) (n:Nat) (l:List Nat):RV:=l.foldl (fO xx n) oneR
theorem OL_snoc (l:List Nat) (i:Nat):OL xx n (l++[i])=fO xx n (OL xx n l) i:=by simp[OL,List.foldl_append]
def inO (n j t:Nat) (o:RV):Prop:=ROk (1+n*j) o∧o.fr=o∧Bd (1+t*j) o.q
theorem fO_step (hl:LOk j xx.lv) (hlen:xx.lv.es.length=n*n) (hj1:1≤j) (hj:1+n*j<2^36) {t i:Nat} {o:RV} (ho:inO n j t o) (ht:t+1≤n) (hi:i<n) :
  (∀ hp:i*n+i<xx.lv.es.length,AP cfg 78 [o.av,(xx.lv.es[i*n+i]).av]=some (fO xx n o i).av)∧Can (fO xx n o i) (o.q*qAt xx (i*n+i))∧inO n j (t+1) (fO xx n o i):=by
 have hp:i*n+i<xx.lv.es.length:=by rw[hlen];exact cell_lt60 hi hi
 have hc:=hl.ok _ (List.getElem_mem hp)
 have hNj:(t+1)*j≤n*j:=Nat.mul_le_mul_right j ht
 have e2:(t+1)*j=t*j+j:=by rw[Nat.add_mul,Nat.one_mul]
 have hex:∃ s:RV,∃ h:i*n+i<xx.lv.es.length,AP cfg 78 [o.av,(xx.lv.es[i*n+i]).av]=some s.av∧Can s (o.q*qAt xx (i*n+i))∧s.fr=s:=by
  obtain ⟨s,s1,s2,s3⟩:=V78 ho.1 (hc.mono (show j≤1+n*j by omega)) (by omega) hj
  exact ⟨s,hp,s1,by rw[qAt_get hp];exact s2,s3⟩
 have e:fO xx n o i=Classical.choose hex:=by unfold fO;rw[dif_pos hex]
 obtain ⟨_,h1,h2,h3⟩:=Classical.choose_spec hex
 rw[← e] at h1 h2 h3
 have bq:Bd (1+(t+1)*j) (o.q*qAt xx (i*n+i)):=(Bd_mul ho.2.2 (qAt_bd hl hj1) (by omega)).mono (by omega)
 exact ⟨fun _=>h1,h2,h2.ok (bq.mono (by omega)) (by omega),h3,by rw[h2.q];exact bq⟩
theorem fold_in (hl:LOk j xx.lv) (hlen:xx.lv.es.length=n*n) (hj1:1≤j) (hj:1+n*j<2^36):∀ (l:List Nat) (o:RV) (t:Nat),t+l.length≤n→(∀ i∈l,i<n)→inO n j t o→inO n j (t+l.length) (l.foldl (fO xx n) o)
 | [],o,t,_,_,h=>h
 | i::l,o,t,ht,hi,h=>by
  rw[List.length_cons] at ht
  have:=fold_in hl hlen hj1 hj l (fO xx n o i) (t+1) (by omega) (fun i' h'=>hi i' (List.mem_cons_of_mem _ h')) (fO_step hl hlen hj1 hj h (by omega) (hi i List.mem_cons_self)).2.2
  rw[List.length_cons,show t+(l.length+1)=t+1+l.length by omega]
  exact this
theorem OL_in (hl:LOk j xx.lv) (hlen:xx.lv.es.length=n*n) (hj1:1≤j) (hj:1+n*j<2^36) {l:List Nat} (h:l.length≤n) (hi:∀ i∈l,i<n):inO n j l.length (OL xx n l):=by
 have:=fold_in hl hlen hj1 hj l oneR 0 (by omega) hi ⟨oneR_ok.mono (by omega),oneR_fr,by rw[can_one.q];exact Bd_one (by omega)⟩
 rw[Nat.zero_add] at this
 exact this
theorem OL_range (hl:LOk j xx.lv) (hlen:xx.lv.es.length=n*n) (hj1:1≤j) (hj:1+n*j<2^36):∀ i,i≤n→Can (OL xx n (List.range i)) (dgP (mxOf xx n) i)
 | 0,_=>can_one
 | i+1,h=>by
  have ih:=OL_range hl hlen hj1 hj i (by omega)
  have hin:=OL_in hl hlen hj1 hj (l:=List.range i) (by rw[List.length_range];omega) (fun t ht=>by have:=List.mem_range.1 ht;omega)
  rw[List.length_range] at hin
  have:=(fO_step hl hlen hj1 hj hin (by omega) (show i<n by omega)).2.1
  rw[ih.q] at this
  rw[List.range_succ,OL_snoc]
  exact this
end
end Go.Ab
set_option linter.unusedVariables false
set_option linter.unusedSimpArgs false
namespace Go.Ab
open Go.Proofs.Try Go.RowKit
theorem anyD' (n t:Nat):(List.replicate n AV.any).getD t .any=.any:=by
 rw[List.getD_eq_getElem?_getD,List.getElem?_replicate]
 split<;>rfl
theorem StR.pat {B:Nat} {w:World} {g:G} {ts P:List AV} {m:Mem} {a:Act} (h:StR B w g ⟨ts,m⟩ a) (hl:P.length=ts.length) (hp:∀ t,P.getD t .any=ts.getD t .any∨P.getD t .any=.any):StR B w g ⟨P,m⟩ a:=⟨h.tmp.less hl hp,h.mem,h.size⟩
theorem fin47 {B:Nat} {w:World} {g:G} {R:RV} {e:Int} {st:St} {a:Act} {w1:World} {g1:G} (hm:MemR B w g []) (hs:StR B w1 g1 st a) (s:Step B w g w1 g1) (h2:st.tmps.getD 2 .any=.ptr 1 0) (h3:st.tmps.getD 3 .any=.int .i64 e) (h1:st.mem[1]?=some (cR R)) (hR:R.fr=R) (hd:a.defers=[]) :
  bodyPostM Fence.wide 5 prog f47 (fun e' w'=>∃ v' g',e'=.returned v'∧Step B w g w' g'∧MemR B w' g' []∧V w' g' (.tup [R.av,.int .i64 e]) v') .ret a w1:=by
 refine leaves0 hs (rs47 _ _ R e h2 h3 h1) hd fun v hv=>?_
 refine ⟨v,g1.bare,rfl,s.bare hm,hs.mem.none,?_⟩
 refine V.bare hv ?_
 have h:=congrArg RV.num hR
 have h':=congrArg RV.den hR
 obtain ⟨neg,⟨z1,o1,d1⟩,⟨z2,o2,d2⟩⟩:=R
 simp only[RV.fr,NV.fr,NV.mk.injEq,true_and,and_true] at h h'
 cases o1<;>cases o2<;>simp[Own.fr] at h h'<;>rfl
theorem core47a {x:MV} {k:Nat} (hx:IsM k x) (hk:k<2^36) (hb:rightM x=false):CallOk prog 47 [x.av] [] (.tup [zR.av,.int .i64 1]) []:=by
 intro B w g vs hm hB hl hv
 refine (callsIn_wide (n:=5)).1 ?_
 have hF:Fine Fence.wide:=.inl rfl
 refine callsIn_of_wp_marks (fn:=f47) (c:=bodyOf f47) ?hf ?hb ?hF ?hh ?hro
 case hf=>exact hf47
 case hb=>exact hb47
 case hF=>exact hF.fn 47
 case hro=>rfl
 have hvs1:vs.size=1:=by simpa using hl.symm
 rw[nt47,hvs1]
 have hts:=tmpR_start hl hv 48
 rw[e47]
 refine wpIn_seq (execD (C:=cfg) cfgOk nb hF calm47.1 (D_h0 x) (show StR B w g _ _ from ⟨hts,hm,hB⟩) fun a1 w1 g1 hs1 s1 hd1=>?_)
 have p1:=hs1.pat (P:=[.any,(.ptr 0 0),(.ptr 1 0),.any,.any,.any,.any,.any,.any,.any,.any,.any,.any,.any,.any,.any,.any,.any,.any,.any,.any,.any,.any,.any,.any,.any,.any,.any,.any,.any,.any,.any,.any,.any,.any,.any,.any,.any,.any,.any,.any,.any,.any,.any,.any,.any,.any,.any,.any]) rfl (fun t=>by
    match t with
    | 1|2=>exact .inl rfl
    | 0|3=>exact .inr rfl
    | t+4=>exact .inr (anyD' 45 t))
 refine wpIn_seq (execD (C:=cfg) cfgOk nb hF calm47.2.1 (e0:=.ret) (fun K=>(D_h1 hx (by omega) K).trans (if_neg (by rw[hb];decide))) p1 fun a2 w2 g2 hs2 s2 hd2=>?_)
 exact fin47 hm hs2 (s1.trans s2) rfl rfl rfl rfl (hd2.trans hd1)
theorem core47b {x:MV} {k:Nat} (hx:IsM k x) (hk:k<2^36) (hb:rightM x=true) (hc:x.rows≠x.cols):CallOk prog 47 [x.av] [] (.tup [zR.av,.int .i64 30]) []:=by
 intro B w g vs hm hB hl hv
 refine (callsIn_wide (n:=5)).1 ?_
 have hF:Fine Fence.wide:=.inl rfl
 refine callsIn_of_wp_marks (fn:=f47) (c:=bodyOf f47) ?hf ?hb ?hF ?hh ?hro
 case hf=>exact hf47
 case hb=>exact hb47
 case hF=>exact hF.fn 47
 case hro=>rfl
 have hvs1:vs.size=1:=by simpa using hl.symm
 rw[nt47,hvs1]
 have hts:=tmpR_start hl hv 48
 rw[e47]
 refine wpIn_seq (execD (C:=cfg) cfgOk nb hF calm47.1 (D_h0 x) (show StR B w g _ _ from ⟨hts,hm,hB⟩) fun a1 w1 g1 hs1 s1 hd1=>?_)
 have p1:=hs1.pat (P:=[.any,(.ptr 0 0),(.ptr 1 0),.any,.any,.any,.any,.any,.any,.any,.any,.any,.any,.any,.any,.any,.any,.any,.any,.any,.any,.any,.any,.any,.any,.any,.any,.any,.any,.any,.any,.any,.any,.any,.any,.any,.any,.any,.any,.any,.any,.any,.any,.any,.any,.any,.any,.any,.any]) rfl (fun t=>by
    match t with
    | 1|2=>exact .inl rfl
    | 0|3=>exact .inr rfl
    | t+4=>exact .inr (anyD' 45 t))
 refine wpIn_seq (execD (C:=cfg) cfgOk nb hF calm47.2.1 (e0:=.normal) (fun K=>(D_h1 hx (by omega) K).trans (if_pos hb)) p1 fun a2 w2 g2 hs2 s2 hd2=>?_)
 have p2:=hs2.pat (P:=[.any,(.ptr 0 0),(.ptr 1 0),.any,.any,.any,.any,.any,.any,.any,.any,.any,.any,.any,.any,.any,.any,.any,.any,.any,.any,.any,.any,.any,.any,.any,.any,.any,.any,.any,.any,.any,.any,.any,.any,.any,.any,.any,.any,.any,.any,.any,.any,.any,.any,.any,.any,.any,.any]) rfl (fun t=>by
    match t with
    | 1|2=>exact .inl rfl
    | 0|3|4|5|6|7|8|9|10|11|12=>exact .inr rfl
    | t+13=>exact .inr (anyD' 36 t))
 refine wpIn_seq (execD (C:=cfg) cfgOk nb hF calm47.2.2.1 (e0:=.ret) (fun K=>(D_h2 K).trans (if_neg hc)) p2 fun a3 w3 g3 hs3 s3 hd3=>?_)
 exact fin47 hm hs3 ((s1.trans s2).trans s3) rfl rfl rfl rfl (hd3.trans (hd2.trans hd1))
theorem core47c {x:MV} {k n:Nat} (hx:IsM k x) (hk:k<2^36) (hb:rightM x=true) (hxn:x.rows=n) (hxc:x.cols=n) {ts1 ts2:List AV} {m1 m2:Mem} {p r:Nat} {odd:Bool} {xx:MV} {ns:List Nat}
  (q1:∀ K:KT,execW cfg 47 (AP cfg) (AC cfg) (c1 (c2 (c2 (c2 (bodyOf f47))))) ⟨[.any,(.ptr 0 0),(.ptr 1 0),.any,.any,.any,.any,.any,.any,.any,.any,.any,.any,.any,.any,.any,.any,.any,.any,.any,.any,.any,.any,.any,.any,.any,.any,.any,.any,.any,.any,.any,.any,.any,.any,.any,.any,.any,.any,.any,.any,.any,.any,.any,.any,.any,.any,.any,.any],[cM x,cR zR]⟩ K=K .normal ⟨ts1,m1⟩) (l1:ts1.length=49) (l12:ts1.getD 2 .any=.ptr 1 0) (l14:ts1.getD 4 .any=.ptr p 0)
  (q2:∀ K:KT,execW cfg 47 (AP cfg) (AC cfg) (c1 (c2 (c2 (c2 (c2 (bodyOf f47)))))) ⟨[.any,.any,(.ptr 1 0),.any,(.ptr p 0),.any,.any,.any,.any,.any,.any,.any,.any,.any,.any,.any,.any,.any,.any,.any,.any,.any,.any,.any,.any,.any,.any,.any,.any,.any,.any,.any,.any,.any,.any,.any,.any,.any,.any,.any,.any,.any,.any,.any,.any,.any,.any,.any,.any],m1⟩ K=K .normal ⟨ts2,m2⟩) (l2:ts2.length=49) (l22:ts2.getD 2 .any=.ptr 1 0) (l24:ts2.getD 4 .any=.ptr p 0) (l25:ts2.getD 5 .any=.int .i64 r) (l26:ts2.getD 6 .any=.bool odd) (D:Dn x k n m2 p r odd xx ns) (hr:r<n) :
  CallOk prog 47 [x.av] [] (.tup [zeroR.av,.int .i64 0]) []:=by
 have hc:x.rows=x.cols:=hxn.trans hxc.symm
 intro B w g vs hm hB hl hv
 refine (callsIn_wide (n:=5)).1 ?_
 have hF:Fine Fence.wide:=.inl rfl
 refine callsIn_of_wp_marks (fn:=f47) (c:=bodyOf f47) ?hf ?hb ?hF ?hh ?hro
 case hf=>exact hf47
 case hb=>exact hb47
 case hF=>exact hF.fn 47
 case hro=>rfl
 have hvs1:vs.size=1:=by simpa using hl.symm
 rw[nt47,hvs1]
 have hts:=tmpR_start hl hv 48
 rw[e47]
 refine wpIn_seq (execD (C:=cfg) cfgOk nb hF calm47.1 (D_h0 x) (show StR B w g _ _ from ⟨hts,hm,hB⟩) fun a1 w1 g1 hs1 s1 hd1=>?_)
 have p1:=hs1.pat (P:=[.any,(.ptr 0 0),(.ptr 1 0),.any,.any,.any,.any,.any,.any,.any,.any,.any,.any,.any,.any,.any,.any,.any,.any,.any,.any,.any,.any,.any,.any,.any,.any,.any,.any,.any,.any,.any,.any,.any,.any,.any,.any,.any,.any,.any,.any,.any,.any,.any,.any,.any,.any,.any,.any]) rfl (fun t=>by
    match t with
    | 1|2=>exact .inl rfl
    | 0|3=>exact .inr rfl
    | t+4=>exact .inr (anyD' 45 t))
 refine wpIn_seq (execD (C:=cfg) cfgOk nb hF calm47.2.1 (e0:=.normal) (fun K=>(D_h1 hx (by omega) K).trans (if_pos hb)) p1 fun a2 w2 g2 hs2 s2 hd2=>?_)
 have p2:=hs2.pat (P:=[.any,(.ptr 0 0),(.ptr 1 0),.any,.any,.any,.any,.any,.any,.any,.any,.any,.any,.any,.any,.any,.any,.any,.any,.any,.any,.any,.any,.any,.any,.any,.any,.any,.any,.any,.any,.any,.any,.any,.any,.any,.any,.any,.any,.any,.any,.any,.any,.any,.any,.any,.any,.any,.any]) rfl (fun t=>by
    match t with
    | 1|2=>exact .inl rfl
    | 0|3|4|5|6|7|8|9|10|11|12=>exact .inr rfl
    | t+13=>exact .inr (anyD' 36 t))
 refine wpIn_seq (execD (C:=cfg) cfgOk nb hF calm47.2.2.1 (e0:=.normal) (fun K=>(D_h2 K).trans (if_pos hc)) p2 fun a3 w3 g3 hs3 s3 hd3=>?_)
 have p3:=hs3.pat (P:=[.any,(.ptr 0 0),(.ptr 1 0),.any,.any,.any,.any,.any,.any,.any,.any,.any,.any,.any,.any,.any,.any,.any,.any,.any,.any,.any,.any,.any,.any,.any,.any,.any,.any,.any,.any,.any,.any,.any,.any,.any,.any,.any,.any,.any,.any,.any,.any,.any,.any,.any,.any,.any,.any]) rfl (fun t=>by
    match t with
    | 1|2=>exact .inl rfl
    | 0|3|4|5|6|7|8|9|10|11|12|13|14|15|16|17|18=>exact .inr rfl
    | t+19=>exact .inr (anyD' 30 t))
 refine wpIn_seq (execD (C:=cfg) cfgOk nb hF calm47.2.2.2.1 (e0:=.normal) q1 p3 fun a4 w4 g4 hs4 s4 hd4=>?_)
 have p4:=hs4.pat (P:=[.any,.any,(.ptr 1 0),.any,(.ptr p 0),.any,.any,.any,.any,.any,.any,.any,.any,.any,.any,.any,.any,.any,.any,.any,.any,.any,.any,.any,.any,.any,.any,.any,.any,.any,.any,.any,.any,.any,.any,.any,.any,.any,.any,.any,.any,.any,.any,.any,.any,.any,.any,.any,.any]) (by rw[l1];rfl) (fun t=>by
    match t with
    | 2=>exact .inl l12.symm
    | 4=>exact .inl l14.symm
    | 0|1|3=>exact .inr rfl
    | t+5=>exact .inr (anyD' 44 t))
 refine wpIn_seq (execD (C:=cfg) cfgOk nb hF calm47.2.2.2.2.1 (e0:=.normal) q2 p4 fun a5 w5 g5 hs5 s5 hd5=>?_)
 have p5:=hs5.pat (P:=[.any,.any,(.ptr 1 0),.any,(.ptr p 0),(.int .i64 r),(.bool odd),.any,.any,.any,.any,.any,.any,.any,.any,.any,.any,.any,.any,.any,.any,.any,.any,.any,.any,.any,.any,.any,.any,.any,.any,.any,.any,.any,.any,.any,.any,.any,.any,.any,.any,.any,.any,.any,.any,.any,.any,.any,.any]) (by rw[l2];rfl) (fun t=>by
    match t with
    | 2=>exact .inl l22.symm
    | 4=>exact .inl l24.symm
    | 5=>exact .inl l25.symm
    | 6=>exact .inl l26.symm
    | 0|1|3=>exact .inr rfl
    | t+7=>exact .inr (anyD' 42 t))
 have s05:=(((s1.trans s2).trans s3).trans s4).trans s5
 have hd05:a5.defers=[]:=hd5.trans (hd4.trans (hd3.trans (hd2.trans hd1)))
 refine wpIn_seq (execD (C:=cfg) cfgOk nb hF calm47.2.2.2.2.2.1 (e0:=.ret) (fun K=>(D_h5 D K).trans (if_pos hr)) p5 fun a6 w6 g6 hs6 s6 hd6=>?_)
 exact fin47 hm hs6 (s05.trans s6) rfl rfl (List.getElem?_set_self D.p2) zeroR_fr (hd6.trans hd05)
end Go.Ab
set_option linter.unusedVariables false
set_option linter.unusedSimpArgs false
namespace Go.Ab
open Go.Proofs.Try Go.RowKit
theorem V.it {w:World} {g:G} {a b:Int} {sh sh':Sh} {z:Bool} {o:Own} {es:List AV} {v:Value} (h:V w g (.vptr [.int .i64 a,.int .i64 b,.lst sh z o es]) v) (hs:sh=sh'∨es=[]) (hc:cl (.lst sh z o es)=true):V w g (.vptr [.int .i64 a,.int .i64 b,.lst sh' z o es]) v:=by
 rcases hs with rfl|rfl
 ·exact h
 ·cases h with
  | vptr cs b' off us hcell hv=>
   refine .vptr _ b' off us (fun j hj=>hcell j (by simpa using hj)) (fun j hj=>?_)
   match j,hj with
   | 0,_=>exact hv 0 (by simp)
   | 1,_=>exact hv 1 (by simp)
   | 2,_=>exact (hv 2 (by simp)).resh hc
theorem cl_lv {l:LV} (h:l.fr=l):cl l.av=true:=by
 obtain ⟨sh,z,o,es⟩:=l
 cases o with
 | no=>rfl
 | full=>rfl
 | tok a b=>simp[LV.fr,Own.fr] at h
theorem core47n {x:MV} {k n:Nat} (hx:IsM k x) (hk1:1≤k) (hk:k<2^36) (hb:rightM x=true) (hxn:x.rows=n) (hxc:x.cols=n) (hn:n≤60) (hK:1+n*kk k n<2^36) (hK2:kk k n<2^36) {ts1 ts2:List AV} {m1 m2:Mem} {p r:Nat} {odd:Bool} {xx:MV} {ns:List Nat}
  (q1:∀ K:KT,execW cfg 47 (AP cfg) (AC cfg) (c1 (c2 (c2 (c2 (bodyOf f47))))) ⟨[.any,(.ptr 0 0),(.ptr 1 0),.any,.any,.any,.any,.any,.any,.any,.any,.any,.any,.any,.any,.any,.any,.any,.any,.any,.any,.any,.any,.any,.any,.any,.any,.any,.any,.any,.any,.any,.any,.any,.any,.any,.any,.any,.any,.any,.any,.any,.any,.any,.any,.any,.any,.any,.any],[cM x,cR zR]⟩ K=K .normal ⟨ts1,m1⟩) (l1:ts1.length=49) (l12:ts1.getD 2 .any=.ptr 1 0) (l14:ts1.getD 4 .any=.ptr p 0)
  (q2:∀ K:KT,execW cfg 47 (AP cfg) (AC cfg) (c1 (c2 (c2 (c2 (c2 (bodyOf f47)))))) ⟨[.any,.any,(.ptr 1 0),.any,(.ptr p 0),.any,.any,.any,.any,.any,.any,.any,.any,.any,.any,.any,.any,.any,.any,.any,.any,.any,.any,.any,.any,.any,.any,.any,.any,.any,.any,.any,.any,.any,.any,.any,.any,.any,.any,.any,.any,.any,.any,.any,.any,.any,.any,.any,.any],m1⟩ K=K .normal ⟨ts2,m2⟩) (l2:ts2.length=49) (l22:ts2.getD 2 .any=.ptr 1 0) (l24:ts2.getD 4 .any=.ptr p 0) (l25:ts2.getD 5 .any=.int .i64 r) (l26:ts2.getD 6 .any=.bool odd) (D:Dn x k n m2 p r odd xx ns) (hr:¬ r<n) :
  ∃ R:RV,R.fr=R∧Can R (sgO odd*dgP (mxOf xx n) n)∧CallOk prog 47 [x.av] [] (.tup [R.av,.int .i64 0]) []:=by
 have hc:x.rows=x.cols:=hxn.trans hxc.symm
 have kj:1≤kk k n:=Nat.le_trans hk1 (kk_mono k (Nat.zero_le n))
 have oin:=OL_in D.lok D.len kj hK (l:=List.range n) (by rw[List.length_range];omega) (fun t ht=>List.mem_range.1 ht)
 obtain ⟨R,R1,R2,R3⟩:=D_h82 (odd:=odd) oin.1 (OL_range D.lok D.len kj hK n (Nat.le_refl n)) oin.2.1
 refine ⟨R,R2,R1,?_⟩
 intro B w g vs hm hB hl hv
 refine (callsIn_wide (n:=5)).1 ?_
 have hF:Fine Fence.wide:=.inl rfl
 refine callsIn_of_wp_marks (fn:=f47) (c:=bodyOf f47) ?hf ?hb ?hF ?hh ?hro
 case hf=>exact hf47
 case hb=>exact hb47
 case hF=>exact hF.fn 47
 case hro=>rfl
 have hvs1:vs.size=1:=by simpa using hl.symm
 rw[nt47,hvs1]
 have hts:=tmpR_start hl hv 48
 rw[e47]
 refine wpIn_seq (execD (C:=cfg) cfgOk nb hF calm47.1 (D_h0 x) (show StR B w g _ _ from ⟨hts,hm,hB⟩) fun a1 w1 g1 hs1 s1 hd1=>?_)
 have p1:=hs1.pat (P:=[.any,(.ptr 0 0),(.ptr 1 0),.any,.any,.any,.any,.any,.any,.any,.any,.any,.any,.any,.any,.any,.any,.any,.any,.any,.any,.any,.any,.any,.any,.any,.any,.any,.any,.any,.any,.any,.any,.any,.any,.any,.any,.any,.any,.any,.any,.any,.any,.any,.any,.any,.any,.any,.any]) rfl (fun t=>by
    match t with
    | 1|2=>exact .inl rfl
    | 0|3=>exact .inr rfl
    | t+4=>exact .inr (anyD' 45 t))
 refine wpIn_seq (execD (C:=cfg) cfgOk nb hF calm47.2.1 (e0:=.normal) (fun K=>(D_h1 hx (by omega) K).trans (if_pos hb)) p1 fun a2 w2 g2 hs2 s2 hd2=>?_)
 have p2:=hs2.pat (P:=[.any,(.ptr 0 0),(.ptr 1 0),.any,.any,.any,.any,.any,.any,.any,.any,.any,.any,.any,.any,.any,.any,.any,.any,.any,.any,.any,.any,.any,.any,.any,.any,.any,.any,.any,.any,.any,.any,.any,.any,.any,.any,.any,.any,.any,.any,.any,.any,.any,.any,.any,.any,.any,.any]) rfl (fun t=>by
    match t with
    | 1|2=>exact .inl rfl
    | 0|3|4|5|6|7|8|9|10|11|12=>exact .inr rfl
    | t+13=>exact .inr (anyD' 36 t))
 refine wpIn_seq (execD (C:=cfg) cfgOk nb hF calm47.2.2.1 (e0:=.normal) (fun K=>(D_h2 K).trans (if_pos hc)) p2 fun a3 w3 g3 hs3 s3 hd3=>?_)
 have p3:=hs3.pat (P:=[.any,(.ptr 0 0),(.ptr 1 0),.any,.any,.any,.any,.any,.any,.any,.any,.any,.any,.any,.any,.any,.any,.any,.any,.any,.any,.any,.any,.any,.any,.any,.any,.any,.any,.any,.any,.any,.any,.any,.any,.any,.any,.any,.any,.any,.any,.any,.any,.any,.any,.any,.any,.any,.any]) rfl (fun t=>by
    match t with
    | 1|2=>exact .inl rfl
    | 0|3|4|5|6|7|8|9|10|11|12|13|14|15|16|17|18=>exact .inr rfl
    | t+19=>exact .inr (anyD' 30 t))
 refine wpIn_seq (execD (C:=cfg) cfgOk nb hF calm47.2.2.2.1 (e0:=.normal) q1 p3 fun a4 w4 g4 hs4 s4 hd4=>?_)
 have p4:=hs4.pat (P:=[.any,.any,(.ptr 1 0),.any,(.ptr p 0),.any,.any,.any,.any,.any,.any,.any,.any,.any,.any,.any,.any,.any,.any,.any,.any,.any,.any,.any,.any,.any,.any,.any,.any,.any,.any,.any,.any,.any,.any,.any,.any,.any,.any,.any,.any,.any,.any,.any,.any,.any,.any,.any,.any]) (by rw[l1];rfl) (fun t=>by
    match t with
    | 2=>exact .inl l12.symm
    | 4=>exact .inl l14.symm
    | 0|1|3=>exact .inr rfl
    | t+5=>exact .inr (anyD' 44 t))
 refine wpIn_seq (execD (C:=cfg) cfgOk nb hF calm47.2.2.2.2.1 (e0:=.normal) q2 p4 fun a5 w5 g5 hs5 s5 hd5=>?_)
 have p5:=hs5.pat (P:=[.any,.any,(.ptr 1 0),.any,(.ptr p 0),(.int .i64 r),(.bool odd),.any,.any,.any,.any,.any,.any,.any,.any,.any,.any,.any,.any,.any,.any,.any,.any,.any,.any,.any,.any,.any,.any,.any,.any,.any,.any,.any,.any,.any,.any,.any,.any,.any,.any,.any,.any,.any,.any,.any,.any,.any,.any]) (by rw[l2];rfl) (fun t=>by
    match t with
    | 2=>exact .inl l22.symm
    | 4=>exact .inl l24.symm
    | 5=>exact .inl l25.symm
    | 6=>exact .inl l26.symm
    | 0|1|3=>exact .inr rfl
    | t+7=>exact .inr (anyD' 42 t))
 have s05:=(((s1.trans s2).trans s3).trans s4).trans s5
 have hd05:a5.defers=[]:=hd5.trans (hd4.trans (hd3.trans (hd2.trans hd1)))
 refine wpIn_seq (execD (C:=cfg) cfgOk nb hF calm47.2.2.2.2.2.1 (e0:=.normal) (fun K=>(D_h5 D K).trans (if_neg hr)) p5 fun a6 w6 g6 hs6 s6 hd6=>?_)
 have p6:=hs6.pat (P:=[.any,.any,(.ptr 1 0),.any,(.ptr p 0),.any,(.bool odd),.any,.any,.any,.any,.any,.any,.any,.any,.any,.any,.any,.any,.any,.any,.any,.any,.any,.any,.any,.any,.any,.any,.any,.any,.any,.any,.any,.any,.any,.any,.any,.any,.any,.any,.any,.any,.any,.any,.any,.any,.any,.any]) rfl (fun t=>by
    match t with
    | 2|4|6=>exact .inl rfl
    | 0|1|3|5|7|8|9|10|11|12|13|14|15|16|17|18|19|20|21|22|23|24|25|26|27|28|29|30|31|32=>exact .inr rfl
    | t+33=>exact .inr (anyD' 16 t))
 refine wpIn_seq (execD (C:=cfg) cfgOk nb hF calm47.2.2.2.2.2.2.1 (e0:=.normal) (fun K=>D_h6 K) p6 fun a7 w7 g7 hs7 s7 hd7=>?_)
 have p7:=hs7.pat (P:=[.any,.any,(.ptr 1 0),.any,(.ptr p 0),.any,(.bool odd),(.ptr m2.length 0),.any,.any,.any,.any,.any,.any,.any,.any,.any,.any,.any,.any,.any,.any,.any,.any,.any,.any,.any,.any,.any,.any,.any,.any,.any,.any,.any,.any,.any,.any,.any,.any,.any,.any,.any,.any,.any,.any,.any,.any,.any]) rfl (fun t=>by
    match t with
    | 2|4|6|7=>exact .inl rfl
    | 0|1|3|5|8|9|10|11|12|13|14|15|16|17|18|19|20|21|22|23|24|25|26|27|28|29|30|31|32|33|34=>exact .inr rfl
    | t+35=>exact .inr (anyD' 14 t))
 obtain ⟨v7,h7⟩:=D_h7 D
 refine wpIn_seq (wpIn_seq (execD (C:=cfg) cfgOk nb hF calm47.2.2.2.2.2.2.2.1 (e0:=.normal) h7 p7 fun a8 w8 g8 hs8 s8 hd8=>?_))
 have s08:=((s05.trans s6).trans s7).trans s8
 have hd08:a8.defers=[]:=hd8.trans (hd7.trans (hd6.trans hd05))
 obtain ⟨pv,hpv,hVp⟩:=fn_inv (hs8.tmp.2 36:V w8 g8 (.fn 114 [vM xx]) (a8.tmps.getD 36 undef))
 have hlvfr:xx.lv.fr=xx.lv:=by have:=D.fr;unfold MV.fr at this;exact congrArg MV.lv this
 have hVi:V w8 g8 (it114 n n xx.lv.z xx.lv.o (xx.lv.es.map RV.av)) pv:=by
  have h1:V w8 g8 (.vptr [.int .i64 (n:Int),.int .i64 (n:Int),.lst xx.lv.sh xx.lv.z xx.lv.o (xx.lv.es.map RV.av)]) pv:=by
   have:vM xx=.vptr [.int .i64 (n:Int),.int .i64 (n:Int),.lst xx.lv.sh xx.lv.z xx.lv.o (xx.lv.es.map RV.av)]:=by rw[vM,D.rows,D.cols];rfl
   rw[← this];exact hVp
  exact h1.it (D.lok.sh.imp id fun h=>by rw[h];rfl) (cl_lv hlvfr)
 have hBw8:B≤w8.heap.size:=hs8.size
 have g1:(kill (m2++[cR oneR]) ns)[1]?=some (cR zR):=(kill_ne ns _ 1 (fun h=>by have:=D.ns2 1 h;omega)).trans (app_get D.res)
 have gq:(kill (m2++[cR oneR]) ns)[m2.length]?=some (cR oneR):=(kill_ne ns _ _ D.nq).trans get_last
 refine wpIn_block ?_
 refine wpIn_rangeFunc_ownF (F:=Fence.wide) (n:=5) (P:=prog) rfl (by omega) (gf:=114) (lb:=#[pv]) hpv (hF.fn 114) enters114
  (stops114 (w:=w8) (g:=g8) hVi (by rw[List.length_map];exact D.len) hn hn (n:=4) (by omega)) Hold.trans (fun W l o o' h1 h2 h3 _=>Hold.book (Nat.le_refl _) W l o o' h1 h2 h3) (Below.refl _ _) (fun _=>rfl)
  (fun pre W=>∃ g' m',Step B w8 g8 W g'∧MemR B W g' m'∧B≤W.heap.size∧(∀ y∈pre,y.1.1<n)∧m'[m2.length]?=some (cR (OL xx n (pre.map fun y=>y.1.1)))∧m'[1]?=some (cR zR))
  (fun c pre W=>False)
  ?hI ?hIx ⟨g8,_,Step.refl _ _ _,hs8.mem,hs8.size,fun y hy=>by simp at hy,gq,g1⟩
  (fun y=>(({ tmps:=((#[37,38]:Array Tmp).zip (enc114 y)).foldl (fun t (p,v)=>t.setIfInBounds p v) a8.tmps,defers:=[] }:Act).put (some 8) (.int .i64 (y.1.1:Int))).put (some 9) y.1.2) ?assign ?body ?done ?stop
 case hI=>
  rintro pre W W' row ⟨g',m',h2,h3,h4,h5⟩ hg hr'
  have hn':NonCells W row:=fun q e=>(hr' q e).2
  exact ⟨g',m',h2.grown hg hn' (fun q e=>(hr' q e).1) hBw8,h3.grown hg hn' h4 (fun r e=>Nat.le_trans hBw8 (hr' r e).1) noMp,Nat.le_trans h4 hg.size,h5⟩
 case hIx=>rintro c pre W W' row h;exact h.elim
 case stop=>rintro D' c pre W hD _ h;exact h.elim
 case assign=>
  intro l y W K hK
  rw[eA47]
  have hz:49=a8.tmps.size:=hs8.tmp.1
  have ez:enc114 y = #[.int .i64 (y.1.1:Int),y.1.2]:=rfl
  refine wpIn_seq (wpIn_region ?_)
  rw[szA47.1,wpOpsIn_cons]
  refine valIn (.inr ⟨l,rfl⟩) atA47 (v:=.int .i64 (y.1.1:Int)) (fun c h=>by rw[opA47.1] at h;cases h) opA47.2.1 ?_ ?_
  ·simp only[execOp,opA47.1,Sem.run_pure]
   rw[ez,fold47]
   simp[Act.eval,Array.getD_eq_getD_getElem?,Array.getElem?_setIfInBounds,← hz]
  ·rw[opA47.2.2]
   refine wpIn_region ?_
   rw[szA47.2,wpOpsIn_cons]
   refine valIn (.inr ⟨l,rfl⟩) atB47 (v:=y.1.2) (fun c h=>by rw[opB47.1] at h;cases h) opB47.2.1 ?_ ?_
   ·simp only[execOp,opB47.1,Sem.run_pure]
    rw[ez,fold47]
    simp[Act.eval,Act.put,Array.getD_eq_getD_getElem?,Array.getElem?_setIfInBounds,← hz]
   ·rw[opB47.2.2]
    exact hK
 case body=>
  rintro l pre y W ⟨g',m',h2,h3,h4,h5,h6,h7'⟩ hlen
  have hi:y.1.1<n:=y.2.1
  have hpl:pre.length<n:=hlen
  have hok:LOk (kk k n) ⟨some 3,xx.lv.z,.no,(xx.lv.es.take ((y.1.1+1)*n)).drop (y.1.1*n)⟩:=⟨.inl rfl,fun hz=>by
   have h0:xx.lv.es=[]:=D.lok.z hz
   show (xx.lv.es.take ((y.1.1+1)*n)).drop (y.1.1*n)=[]
   simp[h0],fun t ht=>D.lok.fr t (List.mem_of_mem_take (List.mem_of_mem_drop ht)),fun t ht=>D.lok.ok t (List.mem_of_mem_take (List.mem_of_mem_drop ht))⟩
  have hrow:(LV.av ⟨some 3,xx.lv.z,.no,(xx.lv.es.take ((y.1.1+1)*n)).drop (y.1.1*n)⟩)=rowA xx.lv.z (xx.lv.es.map RV.av) n y.1.1:=by
   show AV.lst (some 3) xx.lv.z .no (((xx.lv.es.take ((y.1.1+1)*n)).drop (y.1.1*n)).map RV.av)=AV.lst (some 3) xx.lv.z .no (((xx.lv.es.map RV.av).take ((y.1.1+1)*n)).drop (y.1.1*n))
   rw[← List.map_take,← List.map_drop]
  have hb2:(y.1.1+1)*n≤xx.lv.es.length:=by rw[D.len];exact Nat.mul_le_mul_right n hi
  have hp:y.1.1*n+y.1.1<xx.lv.es.length:=by rw[D.len];exact cell_lt60 hi hi
  have hil:y.1.1<((xx.lv.es.take ((y.1.1+1)*n)).drop (y.1.1*n)).length:=by rw[List.length_drop,List.length_take,Nat.min_eq_left hb2];have:=Nat.add_mul y.1.1 1 n;omega
  have hcell:((xx.lv.es.take ((y.1.1+1)*n)).drop (y.1.1*n))[y.1.1]=xx.lv.es[y.1.1*n+y.1.1]:=by rw[List.getElem_drop,List.getElem_take]
  have hin:=OL_in D.lok D.len kj hK (l:=pre.map fun y=>y.1.1) (by rw[List.length_map];omega) (fun t ht=>by obtain ⟨y',hy,rfl⟩:=List.mem_map.1 ht;exact h5 y' hy)
  have hst:=fO_step D.lok D.len kj hK hin (by rw[List.length_map];omega) hi
  have h78:AP cfg 78 [(OL xx n (pre.map fun y=>y.1.1)).av,(((xx.lv.es.take ((y.1.1+1)*n)).drop (y.1.1*n))[y.1.1]).av]=some (fO xx n (OL xx n (pre.map fun y=>y.1.1)) y.1.1).av:=by
   rw[hcell];exact hst.1 hp
  obtain ⟨ts,hb'⟩:=D_b2 (m:=m') (s:=fO xx n (OL xx n (pre.map fun y=>y.1.1)) y.1.1) hok hil hin.2.1 h78 h6
  rw[hrow] at hb'
  have htm:TmpR W g' [.any,.any,.any,.any,.any,.any,.any,(.ptr m2.length 0),(.int .i64 (y.1.1:Int)),(rowA xx.lv.z (xx.lv.es.map RV.av) n y.1.1),.any,.any,.any,.any,.any,.any,.any,.any,.any,.any,.any,.any,.any,.any,.any,.any,.any,.any,.any,.any,.any,.any,.any,.any,.any,.any,.any,.any,.any,.any,.any,.any,.any,.any,.any,.any,.any,.any,.any] ((({ tmps:=((#[37,38]:Array Tmp).zip (enc114 y)).foldl (fun t (p,v)=>t.setIfInBounds p v) a8.tmps,defers:=[] }:Act).put (some 8) (.int .i64 (y.1.1:Int))).put (some 9) y.1.2).tmps:=by
   have t0:TmpR W g' [.any,.any,.any,.any,.any,.any,.any,(.ptr m2.length 0),.any,.any,.any,.any,.any,.any,.any,.any,.any,.any,.any,.any,.any,.any,.any,.any,.any,.any,.any,.any,.any,.any,.any,.any,.any,.any,.any,.any,.any,.any,.any,.any,.any,.any,.any,.any,.any,.any,.any,.any,.any] a8.tmps:=(hs8.tmp.step h2).less rfl (fun t=>by
    match t with
    | 7=>exact .inl rfl
    | 0|1|2|3|4|5|6|8|9|10|11|12|13|14|15|16|17|18|19|20|21|22|23|24|25|26|27|28|29|30|31|32|33|34|35|36=>exact .inr rfl
    | t+37=>exact .inr (anyD' 12 t))
   have t1:=t0.put' (a:=a8) (v:=.any) (v':=.int .i64 (y.1.1:Int)) (.any _) 37 rfl
   have t2:=t1.put' (v:=.any) (v':=y.1.2) (.any _) 38 rfl
   have t3:=t2.put' (v:=.int .i64 (y.1.1:Int)) (v':=.int .i64 (y.1.1:Int)) (.int _ _) 8 rfl
   have t4:=t3.put' (v:=rowA xx.lv.z (xx.lv.es.map RV.av) n y.1.1) (v':=y.1.2) (y.2.2.step h2) 9 rfl
   rw[show enc114 y = #[.int .i64 (y.1.1:Int),y.1.2] from rfl,fold47]
   exact t4
  refine execD (C:=cfg) cfgOk nb (.inr ⟨l,rfl⟩) calm47.2.2.2.2.2.2.2.2.1 (e0:=.normal) hb' (show StR B W g' _ _ from ⟨htm,h3,h4⟩) fun a' w' g'' hs' stp hd'=>?_
  have hq1:m2.length≠1:=fun h=>by have:=D.p2;omega
  refine ⟨⟨stp.below.size,fun k o h1 h2=>stp.others k o h1 h2 offM⟩,Hold.of_step stp (fun b off hb0 hn=>h2.wr b off hb0 hn),g'',_,h2.trans stp,hs'.mem,hs'.size,fun y' hy'=>?_,?_,?_⟩
  ·rcases List.mem_append.1 hy' with h|h
   ·exact h5 y' h
   ·rw[List.mem_singleton] at h;subst h;exact hi
  ·rw[List.map_append,List.map_cons,List.map_nil,OL_snoc]
   exact List.getElem?_set_self (List.getElem?_eq_some_iff.1 h6).1
  ·rw[List.getElem?_set_ne hq1];exact h7'
 case done=>
  rintro D' xs W hD hS ⟨g',m',h2,h3,h4,h5,h6,h7'⟩ hK'
  show Code.wpIn Fence.wide 5 prog (.seq (c1 (c2 (c2 (c2 (c2 (c2 (c2 (c2 (c2 (bodyOf f47)))))))))) (c2 (c2 (c2 (c2 (c2 (c2 (c2 (c2 (c2 (bodyOf f47))))))))))) _ _ _
  have p9:StR B W g' ⟨[.any,.any,(.ptr 1 0),.any,.any,.any,(.bool odd),(.ptr m2.length 0),.any,.any,.any,.any,.any,.any,.any,.any,.any,.any,.any,.any,.any,.any,.any,.any,.any,.any,.any,.any,.any,.any,.any,.any,.any,.any,.any,.any,.any,.any,.any,.any,.any,.any,.any,.any,.any,.any,.any,.any,.any],m'⟩ { a8 with defers:={ target:=.collected D',args:=#[] } :: a8.defers }:=⟨(hs8.tmp.step h2).less rfl (fun t=>by
    match t with
    | 2|6|7=>exact .inl rfl
    | 0|1|3|4|5|8|9|10|11|12|13|14|15|16|17|18|19|20|21|22|23|24|25|26|27|28|29|30|31|32|33|34|35|36=>exact .inr rfl
    | t+37=>exact .inr (anyD' 12 t)),h3,h4⟩
  have hS':xs.map (fun y=>y.1.1)=List.range n:=hS
  rw[hS'] at h6
  obtain ⟨ts9,e9,l9,l92,l97⟩:=R3 m' _ h6
  refine wpIn_seq (execD (C:=cfg) cfgOk nb hF calm47.2.2.2.2.2.2.2.2.2.1 (e0:=.normal) e9 p9 fun a9 w9 g9 hs9 s9 hd9=>?_)
  have p10:=hs9.pat (P:=[.any,.any,(.ptr 1 0),.any,.any,.any,.any,(.ptr m2.length 0),.any,.any,.any,.any,.any,.any,.any,.any,.any,.any,.any,.any,.any,.any,.any,.any,.any,.any,.any,.any,.any,.any,.any,.any,.any,.any,.any,.any,.any,.any,.any,.any,.any,.any,.any,.any,.any,.any,.any,.any,.any]) (by rw[l9];rfl) (fun t=>by
    match t with
    | 2=>exact .inl l92.symm
    | 7=>exact .inl l97.symm
    | 0|1|3|4|5|6=>exact .inr rfl
    | t+8=>exact .inr (anyD' 41 t))
  have hq1:m2.length≠1:=fun h=>by have:=D.p2;omega
  have z1:(m'.set m2.length (cR R))[1]?=some (cR zR):=by rw[List.getElem?_set_ne hq1];exact h7'
  have zq:(m'.set m2.length (cR R))[m2.length]?=some (cR R):=List.getElem?_set_self (List.getElem?_eq_some_iff.1 h6).1
  refine execD (C:=cfg) cfgOk nb hF calm47.2.2.2.2.2.2.2.2.2.2 (e0:=.ret) (fun K=>D_t zq z1 K) p10 fun a10 w10 g10 hs10 s10 hd10=>?_
  have hK2':=s10.others _ _ (s9.others _ _ hK' rfl offM) rfl offM
  refine leavesD hs10 (rs47 _ _ R 0 rfl rfl (List.getElem?_set_self (List.getElem?_eq_some_iff.1 z1).1)) (by rw[hd10,hd9];show _::a8.defers=_;rw[hd08]) hK2' (Nat.le_trans hBw8 hD) noMp fun v hv hmm=>?_
  have hDw:w.heap.size≤D':=Nat.le_trans s08.below.size hD
  refine ⟨v,g10.bare,rfl,(((((s08.trans h2).trans s9).trans s10)).grown (grownBy_putObj' w10 D' (.deferred none)) (fun q e=>by cases e;exact ⟨_,hK2',rfl⟩) (fun q e=>by cases e;exact hDw) hB).bare hm,hmm.none,?_⟩
  refine V.bare hv ?_
  have e1:=congrArg RV.num R2
  have e2:=congrArg RV.den R2
  obtain ⟨neg,⟨z1,o1,d1⟩,⟨z2,o2,d2⟩⟩:=R
  simp only[RV.fr,NV.fr,NV.mk.injEq,true_and,and_true] at e1 e2
  cases o1<;>cases o2<;>simp[Own.fr] at e1 e2<;>rfl
end Go.Ab
set_option linter.unusedVariables false
namespace Go.Ab
theorem det_low {n:Nat} {M N:MX} {s:Rat} {r:Nat} {cs:Nat→Nat} (E:EC n n M N s r n cs) (hr:r<n):det n M=0:=by
 have h:=E.re.det (Nat.le_refl n)
 rw[det_row0 (M:=N) (r:=r) hr fun k hk=>E.ech.rest r (Nat.le_refl r) hr k hk] at h
 have h0:=E.re.ne0
 have:s*det n M=0:=h.symm
 rcases Rat.mul_eq_zero.1 this with h1|h1
 ·exact absurd h1 h0
 ·exact h1
theorem det_full {n:Nat} {M N:MX} {s:Rat} {cs:Nat→Nat} {odd:Bool} (E:EC n n M N s n n cs) (hs:s=sgO odd):det n M=sgO odd*det n N:=by
 have h:=E.re.det (Nat.le_refl n)
 rw[h,hs]
 cases odd<;>simp only[sgO,if_true,Bool.false_eq_true,if_false]<;>grind
theorem diag_dgP (N:MX):∀ d i,diagP N d i*dgP N i=dgP N (i+d)
 | 0,i=>by simp only[diagP,Nat.add_zero];grind
 | d+1,i=>by
  have h:=diag_dgP N d (i+1)
  rw[dgP] at h
  rw[diagP,show i+(d+1)=i+1+d by omega,← h]
  grind
end Go.Ab
set_option linter.unusedVariables false
set_option linter.unusedSimpArgs false
namespace Go.Ab
open Go.Proofs.Try Go.RowKit
theorem dgP_congr {A B:MX}:∀ {n:Nat},(∀ i,i<n→A i i=B i i)→dgP A n=dgP B n
 | 0,_=>rfl
 | n+1,h=>by rw[dgP,dgP,dgP_congr fun i hi=>h i (by omega),h n (by omega)]
theorem Bd_sgO {k:Nat} {q:Rat} (odd:Bool) (h:Bd k q):Bd k (sgO odd*q):=by
 cases odd with
 | false=>rw[show sgO false*q=q by unfold sgO;rw[if_neg (by decide)];grind];exact h
 | true=>rw[show sgO true*q=-q by unfold sgO;rw[if_pos rfl];grind];exact Bd_neg h
theorem core47d {x:MV} {k n:Nat} (hx:IsM k x) (hk1:1≤k) (hk:k<2^36) (hb:rightM x=true) (hxn:x.rows=n) (hxc:x.cols=n) (hn:n≤60) (hK:1+n*kk k n<2^36) (hK2:kk k n<2^36):∃ R:RV,R.fr=R∧Can R (det n (mxOf x n))∧Bd (1+n*kk k n) (det n (mxOf x n))∧CallOk prog 47 [x.av] [] (.tup [R.av,.int .i64 0]) []:=by
 have kj:1≤kk k n:=Nat.le_trans hk1 (kk_mono k (Nat.zero_le n))
 obtain ⟨ts1,m1,ts2,m2,p,r,odd,xx,ns,q1,⟨l1,l12,l14⟩,q2,⟨l2,l22,l24,l25,l26⟩,D⟩:=D34 hx hb hxn hxc hn hk1 hK2
 obtain ⟨N,s,cs,E,hs,hN⟩:=D.ec
 by_cases hr:r<n
 ·refine ⟨zeroR,zeroR_fr,?_,?_,core47c hx hk hb hxn hxc q1 l1 l12 l14 q2 l2 l22 l24 l25 l26 D hr⟩
  ·rw[det_low E hr]
   exact can_zero
  ·rw[det_low E hr]
   exact Bd_zero (by omega)
 ·obtain ⟨R,R1,R2,R3⟩:=core47n hx hk1 hk hb hxn hxc hn hK hK2 q1 l1 l12 l14 q2 l2 l22 l24 l25 l26 D hr
  have oin:=OL_in D.lok D.len kj hK (l:=List.range n) (by rw[List.length_range];omega) (fun t ht=>List.mem_range.1 ht)
  have b1:Bd (1+n*kk k n) (dgP (mxOf xx n) n):=by
   rw[← (OL_range D.lok D.len kj hK n (Nat.le_refl n)).q]
   exact oin.1.bd (by omega)
  have b2:=Bd_sgO odd b1
  have hrn:r=n:=Nat.le_antisymm E.ech.le (Nat.not_lt.1 hr)
  subst hrn
  have e2:dgP (mxOf xx r) r=dgP N r:=dgP_congr fun i hi=>hN i i hi hi
  have e3:det r N=dgP N r:=by
   rw[det_tri (E.ech.tri),← Nat.zero_add r,← diag_dgP N r 0]
   simp only[dgP,Nat.zero_add]
   grind
  have e4:det r (mxOf x r)=sgO odd*dgP (mxOf xx r) r:=by rw[det_full E hs,e3,← e2]
  rw[e4]
  exact ⟨R,R1,R2,b2,R3⟩
theorem NV.av_inj {a b:NV} (h:a.av=b.av):a=b:=by
 obtain ⟨z,o,ds⟩:=a
 obtain ⟨z',o',ds'⟩:=b
 simp only[NV.av,AV.lst.injEq,true_and] at h
 obtain ⟨rfl,rfl,h⟩:=h
 have hd:∀ x y:Nat,dg x=dg y→x=y:=fun x y h=>by
  simp only[dg,AV.int.injEq,true_and] at h
  omega
 rw[(List.map_inj_right hd).1 h]
theorem RV.av_inj {a b:RV} (h:a.av=b.av):a=b:=by
 obtain ⟨n,x,y⟩:=a
 obtain ⟨n',x',y'⟩:=b
 simp only[RV.av,AV.agg.injEq,List.cons.injEq,AV.bool.injEq,and_true] at h
 obtain ⟨rfl,h1,h2⟩:=h
 rw[NV.av_inj h1,NV.av_inj h2]
theorem MV.av_inj {a b:MV} (h:a.av=b.av):a=b:=by
 obtain ⟨r,c,⟨sh,z,o,es⟩⟩:=a
 obtain ⟨r',c',⟨sh',z',o',es'⟩⟩:=b
 simp only[MV.av,LV.av,AV.agg.injEq,List.cons.injEq,AV.int.injEq,AV.lst.injEq,true_and,and_true] at h
 obtain ⟨rfl,rfl,rfl,rfl,rfl,h⟩:=h
 rw[(List.map_inj_right (fun x y hxy=>RV.av_inj hxy)).1 h]
structure DetP (x:MV) (R:RV) (e:Int):Prop where
 xfr:x.fr=x
 fr:R.fr=R
 call:CallOk prog 47 [x.av] [] (.tup [R.av,.int .i64 e]) []
 bad:rightM x=false→e=1∧R=zR
 shape:rightM x=true→x.rows≠x.cols→e=30∧R=zR
 ok:rightM x=true→∀ n:Nat,x.rows=n→x.cols=n→e=0∧Can R (det n (mxOf x n))
theorem det_bd {x:MV} {k n:Nat} (hx:IsM k x) (hk1:1≤k) (hk:k<2^36) (hb:rightM x=true) (hxn:x.rows=n) (hxc:x.cols=n) (hn:n≤60) (hK:1+n*kk k n<2^36) (hK2:kk k n<2^36):Bd (1+n*kk k n) (det n (mxOf x n)):=by
 obtain ⟨_,_,_,h,_⟩:=core47d hx hk1 hk hb hxn hxc hn hK hK2
 exact h
theorem detP {x:MV} {k:Nat} (hx:IsM k x) (hk1:1≤k) (hk:k<2^36) (hK:rightM x=true→∀ n:Nat,x.rows=n→x.cols=n→1+n*kk k n<2^36∧kk k n<2^36):∃ R e,DetP x R e:=by
 cases hb:rightM x with
 | false=>
  refine ⟨zR,1,⟨hx.fr,rfl,core47a hx hk hb,fun _=>⟨rfl,rfl⟩,fun h=>?_,fun h=>?_⟩⟩
  ·rw[hb] at h;cases h
  ·rw[hb] at h;cases h
 | true=>
  by_cases hc:x.rows=x.cols
  ·obtain ⟨r,c,hr,hcc,h6,_,_⟩:=right_len hb
   obtain ⟨k1,k2⟩:=hK hb r hr (hc▸hr)
   obtain ⟨R,R1,R2,_,R3⟩:=core47d hx hk1 hk hb hr (hc▸hr) h6 k1 k2
   refine ⟨R,0,⟨hx.fr,R1,R3,fun h=>?_,fun _ h=>absurd hc h,fun _ n hn _=>⟨rfl,?_⟩⟩⟩
   ·rw[hb] at h;cases h
   ·obtain rfl:n=r:=by omega
    exact R2
  ·refine ⟨zR,30,⟨hx.fr,rfl,core47b hx hk hb hc,fun h=>?_,fun _ _=>⟨rfl,rfl⟩,fun _ n h1 h2=>absurd (h1.trans h2.symm) hc⟩⟩
   rw[hb] at h;cases h
theorem callOk47 {x:MV} {R:RV} {e:Int} (h:DetP x R e) (m:Mem):CallOk prog 47 [x.av] m (.tup [R.av,.int .i64 e]) m:=by
 intro B w g vs hm hB hl hv
 have hf:mapF (frz m fuelF) [x.av]=some ([x.av],[]):=by
  have e:frz m fuelF x.av=some (x.fr.av,[]):=fz_mv x m
  simp only[mapF,e,h.xfr,oBs,Option.map_some,List.append_nil]
 classical
 refine pureCall_sound hm hB (P:=prog) (f:=47) (call:=fun f args m=>if f=47∧args=[x.av]∧m=[] then some (.tup [R.av,.int .i64 e],[]) else none) (fun args m v m' h'=>?_) hl hv hf (r:=.tup [R.av,.int .i64 e]) ?_
 ·simp only at h'
  split at h'
  ·rename_i hc
   obtain ⟨_,rfl,rfl⟩:=hc
   simp only[Option.some.injEq,Prod.mk.injEq] at h'
   obtain ⟨rfl,rfl⟩:=h'
   exact h.call
  ·cases h'
 ·simp only[acallP,true_and,if_true,oBs]
  have e1:frz [] fuelF (.tup [R.av,.int .i64 e])=some (.tup [R.fr.av,.int .i64 e],[]):=by
   have e2:frz [] 8 R.av=some (R.fr.av,[]):=frz_rv [] R
   have e3:frz [] fuelF (.tup [R.av,.int .i64 e])=(mapF (frz [] 8) [R.av,.int .i64 e]).map fun q=>(.tup q.1,q.2):=rfl
   have e4:frz [] 8 (.int .i64 e)=some (.int .i64 e,[]):=rfl
   rw[e3]
   simp only[mapF,e2,e4,oBs,Option.map_some,List.append_nil]
  rw[e1,h.fr]
  rfl
open Classical in
noncomputable def h47 (vs:List AV):Option AV:=if h:∃ p:MV×RV×Int,DetP p.1 p.2.1 p.2.2∧vs=[p.1.av] then some (.tup [(Classical.choose h).2.1.av,.int .i64 (Classical.choose h).2.2]) else none
theorem h47_ex {x:MV} {R0:RV} {e0:Int} (hx:DetP x R0 e0):∃ R e,h47 [x.av]=some (.tup [R.av,.int .i64 e])∧DetP x R e:=by
 have h:∃ p:MV×RV×Int,DetP p.1 p.2.1 p.2.2∧[x.av]=[p.1.av]:=⟨(x,R0,e0),hx,rfl⟩
 obtain ⟨h1,e⟩:=Classical.choose_spec h
 have e1:=MV.av_inj (List.cons.inj e).1
 have h2:h47 [x.av]=some (.tup [(Classical.choose h).2.1.av,.int .i64 (Classical.choose h).2.2]):=by unfold h47;rw[dif_pos h]
 generalize Classical.choose h=p at h1 e1 h2
 exact ⟨_,_,h2,e1▸h1⟩
noncomputable def lib5 (g:Nat):Option (List AV→Option AV):=match Nat.beq g 47 with
 | true=>some h47
 | false=>cfg.lib g
noncomputable def cfg5:Cfg:=cfg.plug lib5
theorem cfgOk5:CfgOk cfg5 where
 name:=cfgOk.name
 ben:=cfgOk.ben
 libm:=cfgOk.libm
 lib g h hh:=by
  have hh':lib5 g=some h:=hh
  unfold lib5 at hh'
  cases hb:Nat.beq g 47 with
  | false=>rw[hb] at hh';exact cfgOk.lib g h hh'
  | true=>
   rw[hb] at hh'
   obtain rfl:=Option.some.inj hh'
   have:=Nat.eq_of_beq_eq_true hb
   subst this
   refine ⟨⟨f47,hf47,by rw[hb47];rfl⟩,fun vs v hv m=>?_⟩
   unfold h47 at hv
   split at hv
   ·rename_i hx
    obtain ⟨h1,e⟩:=Classical.choose_spec hx
    simp only[Option.some.injEq] at hv
    subst hv
    have hc:=callOk47 h1 m
    rw[← e] at hc
    exact hc
   ·cases hv
end Go.Ab
set_option linter.unusedVariables false
set_option linter.unusedSimpArgs false
set_option linter.unusedSectionVars false
namespace Go.Ab
open Go.RowKit
section
variable [WInv] {C:Cfg} {B:Nat} {F:Fence} {w:World} {g:G}
def EachK (C:Cfg) (fid:Nat) (ops:Array Oper) (Ok:St→Prop):Nat→Array Bool→St→Prop
 | 0,listed,st=>Region.ready .any ops listed=[]∧Ok st
 | n+1,listed,st=>(Region.ready .any ops listed=[]→Ok st)∧∀ i∈Region.ready .any ops listed,∃ s1,stepF C fid (AP C) (AC C) none ops i st=some s1∧EachK C fid ops Ok n (listed.setIfInBounds i true) s1
theorem each_in (hC:CfgOk C) (hb:∀ g,C.ben g=false) (hF:Fine F) {fid n':Nat} {ops:Array Oper} {Q:Exit→Act→World→Prop} {Ok:St→Prop}:∀ (n:Nat) (listed:Array Bool) (st:St) (a:Act) (w:World) (g:G),EachK C fid ops Ok n listed st→StR B w g st a →
  (∀ st' a' w' g',Ok st'→StR B w' g' st' a'→Step B w g w' g'→a'.defers=a.defers→Q .normal a' w')→wpAnyIn F n' C.P .any ops Q n listed a w
 | 0,listed,st,a,w,g,h,hs,hq=>⟨h.1,hq st a w g h.2 hs (Step.refl _ _ _) rfl⟩
 | n+1,listed,st,a,w,g,h,hs,hq=>⟨fun h0=>hq st a w g (h.1 h0) hs (Step.refl _ _ _) rfl,fun i hi=>by
  obtain ⟨s1,h1,h2⟩:=h.2 i hi
  exact stepInB hC hb hF (AC_sound hC) h1 hs (fun b e=>by cases e) fun a' w' g' hs' s hd=>
   each_in hC hb hF n _ s1 a' w' g' h2 hs' fun st' a'' w'' g'' ho hs'' s' hd'=>hq st' a'' w'' g'' ho hs'' (s.trans s') (hd'.trans hd)⟩
theorem each_region (hC:CfgOk C) (hb:∀ g,C.ben g=false) (hF:Fine F) (hm:C.P.follows .mixedOrders=true) {fid id n':Nat} {ops:Array Oper} {Q:Exit→Act→World→Prop} {Ok:St→Prop} {st:St} {a:Act} (h:EachK C fid ops Ok ops.size (Array.replicate ops.size false) st) (hs:StR B w g st a)
  (hq:∀ st' a' w' g',Ok st'→StR B w' g' st' a'→Step B w g w' g'→a'.defers=a.defers→Q .normal a' w'):(Code.region id ops true).wpIn F n' C.P Q a w:=by
 refine wpIn_region_any hm ?_
 exact each_in hC hb hF _ _ st a w.drew g h ⟨hs.tmp.step (Step.drew B w g),hs.mem.drew,hs.size⟩ fun st' a' w' g' ho hs' s hd=>hq st' a' w' g' ho hs' ((Step.drew B w g).trans s) hd
end
end Go.Ab
set_option linter.unusedVariables false
set_option linter.unusedSimpArgs false
namespace Go.Ab
open Go.Proofs.Try Go.RowKit
noncomputable def ops48:Array Oper:=opsOf (c1 (c2 (bodyOf f48)))
theorem hf48:prog.funcs[48]?=some f48:=by kernel_rfl
theorem hb48:f48.body=some (bodyOf f48):=by kernel_rfl
theorem nt48:f48.ntmps=9:=by kernel_rfl
theorem e48:bodyOf f48=.seq (c1 (bodyOf f48)) (.seq (.region 1 ops48 true) (c2 (c2 (bodyOf f48)))):=by kernel_rfl
theorem sz48:ops48.size=7:=by kernel_rfl
theorem calm48:calmD cfg 48 (c1 (bodyOf f48))=true∧calmD cfg 48 (c2 (c2 (bodyOf f48)))=true:=⟨by kernel_rfl,by kernel_rfl⟩
section
variable (t0 t1 t2 t3 t4 t5 t6 t7 t8:AV) (m:Mem)
theorem s48_0:stepF cfg 48 (AP cfg) (AC cfg) none ops48 0 ⟨[t0,t1,t2,t3,t4,t5,t6,t7,t8],m⟩=(loadA (some 3) m t1).bind fun v=>some ⟨[t0,t1,t2,v,t4,t5,t6,t7,t8],m⟩:=by
 have e:stepF cfg 48 (AP cfg) (AC cfg) none ops48 0 ⟨[t0,t1,t2,t3,t4,t5,t6,t7,t8],m⟩=(((loadA (some 3) m t1).bind fun v=>some (v,m)).map fun q=>(⟨setD [t0,t1,t2,t3,t4,t5,t6,t7,t8] (some 3) q.1,q.2⟩:St)):=by kernel_rfl
 rw[e]
 cases (loadA (some 3) m t1)<;>rfl
theorem s48_1:stepF cfg 48 (AP cfg) (AC cfg) none ops48 1 ⟨[t0,t1,t2,t3,t4,t5,t6,t7,t8],m⟩=(fieldAddrA 1 t1).bind fun v=>some ⟨[t0,t1,t2,t3,v,t5,t6,t7,t8],m⟩:=by
 have e:stepF cfg 48 (AP cfg) (AC cfg) none ops48 1 ⟨[t0,t1,t2,t3,t4,t5,t6,t7,t8],m⟩=(((fieldAddrA 1 t1).bind fun v=>some (v,m)).map fun q=>(⟨setD [t0,t1,t2,t3,t4,t5,t6,t7,t8] (some 4) q.1,q.2⟩:St)):=by kernel_rfl
 rw[e]
 cases (fieldAddrA 1 t1)<;>rfl
theorem s48_2:stepF cfg 48 (AP cfg) (AC cfg) none ops48 2 ⟨[t0,t1,t2,t3,t4,t5,t6,t7,t8],m⟩=(loadA none m t4).bind fun v=>some ⟨[t0,t1,t2,t3,t4,v,t6,t7,t8],m⟩:=by
 have e:stepF cfg 48 (AP cfg) (AC cfg) none ops48 2 ⟨[t0,t1,t2,t3,t4,t5,t6,t7,t8],m⟩=(((loadA none m t4).bind fun v=>some (v,m)).map fun q=>(⟨setD [t0,t1,t2,t3,t4,t5,t6,t7,t8] (some 5) q.1,q.2⟩:St)):=by kernel_rfl
 rw[e]
 cases (loadA none m t4)<;>rfl
theorem s48_3:stepF cfg 48 (AP cfg) (AC cfg) none ops48 3 ⟨[t0,t1,t2,t3,t4,t5,t6,t7,t8],m⟩=(makeA none 4 none (.bool false) 1 m t5 t5).bind fun r=>some ⟨[t0,t1,t2,t3,t4,t5,r.1,t7,t8],r.2⟩:=by
 have e:stepF cfg 48 (AP cfg) (AC cfg) none ops48 3 ⟨[t0,t1,t2,t3,t4,t5,t6,t7,t8],m⟩=(((makeA none 4 none (.bool false) 1 m t5 t5).bind fun r=>some (r.1,r.2)).map fun q=>(⟨setD [t0,t1,t2,t3,t4,t5,t6,t7,t8] (some 6) q.1,q.2⟩:St)):=by kernel_rfl
 rw[e]
 cases (makeA none 4 none (.bool false) 1 m t5 t5)<;>rfl
theorem s48_4:stepF cfg 48 (AP cfg) (AC cfg) none ops48 4 ⟨[t0,t1,t2,t3,t4,t5,t6,t7,t8],m⟩=(pcall (AP cfg) none m 28 []).bind fun r=>some ⟨[t0,t1,t2,t3,t4,t5,t6,r.1,t8],r.2⟩:=by
 have e:stepF cfg 48 (AP cfg) (AC cfg) none ops48 4 ⟨[t0,t1,t2,t3,t4,t5,t6,t7,t8],m⟩=(((pcall (AP cfg) none m 28 []).bind fun r=>some (r.1,r.2)).map fun q=>(⟨setD [t0,t1,t2,t3,t4,t5,t6,t7,t8] (some 7) q.1,q.2⟩:St)):=by kernel_rfl
 rw[e]
 cases (pcall (AP cfg) none m 28 [])<;>rfl
theorem s48_5:stepF cfg 48 (AP cfg) (AC cfg) none ops48 5 ⟨[t0,t1,t2,t3,t4,t5,t6,t7,t8],m⟩=(AC cfg 90 [t3,.int .i64 0,t6,t7] m).bind fun r=>some ⟨[t0,t1,t2,t3,t4,t5,t6,t7,r.1],r.2⟩:=by
 have e:stepF cfg 48 (AP cfg) (AC cfg) none ops48 5 ⟨[t0,t1,t2,t3,t4,t5,t6,t7,t8],m⟩=(((AC cfg 90 [t3,.int .i64 0,t6,t7] m).bind fun r=>some (r.1,r.2)).map fun q=>(⟨setD [t0,t1,t2,t3,t4,t5,t6,t7,t8] (some 8) q.1,q.2⟩:St)):=by kernel_rfl
 rw[e]
 cases (AC cfg 90 [t3,.int .i64 0,t6,t7] m)<;>rfl
theorem s48_6:stepF cfg 48 (AP cfg) (AC cfg) none ops48 6 ⟨[t0,t1,t2,t3,t4,t5,t6,t7,t8],m⟩=(storeA (some 3) m t2 t8).bind fun m1=>some ⟨[t0,t1,t2,t3,t4,t5,t6,t7,t8],m1⟩:=by
 have e:stepF cfg 48 (AP cfg) (AC cfg) none ops48 6 ⟨[t0,t1,t2,t3,t4,t5,t6,t7,t8],m⟩=(((storeA (some 3) m t2 t8).bind fun m1=>some (AV.any,m1)).map fun q=>(⟨setD [t0,t1,t2,t3,t4,t5,t6,t7,t8] none q.1,q.2⟩:St)):=by kernel_rfl
 rw[e]
 cases (storeA (some 3) m t2 t8)<;>rfl
end
theorem bU_zeros (n:Nat):(some (.obj false (zeros none (.bool false) n)):Option Ent)=bU (fun _=>false) n:=by
 show some (Ent.obj false (List.replicate n (AV.bool false)))=some (Ent.obj false ((List.range n).map fun _=>AV.bool false))
 rw[List.map_const',List.length_range]
theorem make48 {x:MV} {n:Nat} (hn:n≤5):makeA none 4 none (.bool false) 1 [cM x,cR zR] (.int .i64 n) (.int .i64 n)=some (.arr 2 0 n none,[cM x,cR zR,bU (fun _=>false) n]):=by
 unfold makeA
 simp only
 rw[if_pos (by omega),if_pos trivial,← bU_zeros,Int.toNat_natCast]
 rfl
section
variable {x:MV} {n:Nat} {t0:AV} {Ok:St→Prop} {m7:Mem} {s:RV}
theorem E48_131 (hxc:x.cols=n) (hn:n≤5) (h90:AC cfg 90 [x.av,.int .i64 0,.arr 2 0 n none,oneF.av] [cM x,cR zR,bU (fun _=>false) n]=some (s.av,m7)) (h1:m7[1]?=some (cR zR)) (hOk:Ok ⟨[t0,(.ptr 0 0),(.ptr 1 0),x.av,(.ptr 0 1),(.int .i64 n),(.arr 2 0 n none),oneF.av,s.av],m7.set 1 (cR s)⟩):EachK cfg 48 ops48 Ok 2 #[true,true,true,true,true,false,false] ⟨[t0,(.ptr 0 0),(.ptr 1 0),x.av,(.ptr 0 1),(.int .i64 n),(.arr 2 0 n none),oneF.av,.any],[cM x,cR zR,bU (fun _=>false) n]⟩:=by
 have hr:Region.ready .any ops48 #[true,true,true,true,true,false,false]=[5]:=by kernel_rfl
 refine ⟨fun h=>(by rw[hr] at h;cases h),fun i hi=>?_⟩
 rw[hr] at hi
 simp only[List.mem_cons,List.not_mem_nil,or_false] at hi
 subst hi
 refine ⟨_,by rw[s48_5,h90,oBs],?_⟩
 have e:(#[true,true,true,true,true,false,false]:Array Bool).setIfInBounds 5 true = #[true,true,true,true,true,true,false]:=by decide
 rw[e]
 have hr2:Region.ready .any ops48 #[true,true,true,true,true,true,false]=[6]:=by kernel_rfl
 refine ⟨fun h=>(by rw[hr2] at h;cases h),fun i hi=>?_⟩
 rw[hr2] at hi
 simp only[List.mem_cons,List.not_mem_nil,or_false] at hi
 subst hi
 refine ⟨_,by rw[s48_6,rstA h1,oBs],?_⟩
 have e:(#[true,true,true,true,true,true,false]:Array Bool).setIfInBounds 6 true = #[true,true,true,true,true,true,true]:=by decide
 rw[e]
 exact ⟨by kernel_rfl,hOk⟩
theorem E48_130 (hxc:x.cols=n) (hn:n≤5) (h90:AC cfg 90 [x.av,.int .i64 0,.arr 2 0 n none,oneF.av] [cM x,cR zR,bU (fun _=>false) n]=some (s.av,m7)) (h1:m7[1]?=some (cR zR)) (hOk:Ok ⟨[t0,(.ptr 0 0),(.ptr 1 0),x.av,(.ptr 0 1),(.int .i64 n),(.arr 2 0 n none),oneF.av,s.av],m7.set 1 (cR s)⟩):EachK cfg 48 ops48 Ok 3 #[true,true,true,true,false,false,false] ⟨[t0,(.ptr 0 0),(.ptr 1 0),x.av,(.ptr 0 1),(.int .i64 n),(.arr 2 0 n none),.any,.any],[cM x,cR zR,bU (fun _=>false) n]⟩:=by
 have hr:Region.ready .any ops48 #[true,true,true,true,false,false,false]=[4]:=by kernel_rfl
 refine ⟨fun h=>(by rw[hr] at h;cases h),fun i hi=>?_⟩
 rw[hr] at hi
 simp only[List.mem_cons,List.not_mem_nil,or_false] at hi
 subst hi
 ·refine ⟨_,by rw[s48_4,pcall0,V28,Option.map_some,oBs],?_⟩
  have e:(#[true,true,true,true,false,false,false]:Array Bool).setIfInBounds 4 true = #[true,true,true,true,true,false,false]:=by decide
  rw[e]
  exact E48_131 hxc hn h90 h1 hOk
theorem E48_121 (hxc:x.cols=n) (hn:n≤5) (h90:AC cfg 90 [x.av,.int .i64 0,.arr 2 0 n none,oneF.av] [cM x,cR zR,bU (fun _=>false) n]=some (s.av,m7)) (h1:m7[1]?=some (cR zR)) (hOk:Ok ⟨[t0,(.ptr 0 0),(.ptr 1 0),x.av,(.ptr 0 1),(.int .i64 n),(.arr 2 0 n none),oneF.av,s.av],m7.set 1 (cR s)⟩):EachK cfg 48 ops48 Ok 3 #[true,true,true,false,true,false,false] ⟨[t0,(.ptr 0 0),(.ptr 1 0),x.av,(.ptr 0 1),(.int .i64 n),.any,oneF.av,.any],[cM x,cR zR]⟩:=by
 have hr:Region.ready .any ops48 #[true,true,true,false,true,false,false]=[3]:=by kernel_rfl
 refine ⟨fun h=>(by rw[hr] at h;cases h),fun i hi=>?_⟩
 rw[hr] at hi
 simp only[List.mem_cons,List.not_mem_nil,or_false] at hi
 subst hi
 ·refine ⟨_,by rw[s48_3,make48 hn,oBs],?_⟩
  have e:(#[true,true,true,false,true,false,false]:Array Bool).setIfInBounds 3 true = #[true,true,true,true,true,false,false]:=by decide
  rw[e]
  exact E48_131 hxc hn h90 h1 hOk
theorem E48_031 (hxc:x.cols=n) (hn:n≤5) (h90:AC cfg 90 [x.av,.int .i64 0,.arr 2 0 n none,oneF.av] [cM x,cR zR,bU (fun _=>false) n]=some (s.av,m7)) (h1:m7[1]?=some (cR zR)) (hOk:Ok ⟨[t0,(.ptr 0 0),(.ptr 1 0),x.av,(.ptr 0 1),(.int .i64 n),(.arr 2 0 n none),oneF.av,s.av],m7.set 1 (cR s)⟩):EachK cfg 48 ops48 Ok 3 #[false,true,true,true,true,false,false] ⟨[t0,(.ptr 0 0),(.ptr 1 0),.any,(.ptr 0 1),(.int .i64 n),(.arr 2 0 n none),oneF.av,.any],[cM x,cR zR,bU (fun _=>false) n]⟩:=by
 have hr:Region.ready .any ops48 #[false,true,true,true,true,false,false]=[0]:=by kernel_rfl
 refine ⟨fun h=>(by rw[hr] at h;cases h),fun i hi=>?_⟩
 rw[hr] at hi
 simp only[List.mem_cons,List.not_mem_nil,or_false] at hi
 subst hi
 ·refine ⟨_,by rw[s48_0,mldA (x:=x) rfl,oBs],?_⟩
  have e:(#[false,true,true,true,true,false,false]:Array Bool).setIfInBounds 0 true = #[true,true,true,true,true,false,false]:=by decide
  rw[e]
  exact E48_131 hxc hn h90 h1 hOk
theorem E48_120 (hxc:x.cols=n) (hn:n≤5) (h90:AC cfg 90 [x.av,.int .i64 0,.arr 2 0 n none,oneF.av] [cM x,cR zR,bU (fun _=>false) n]=some (s.av,m7)) (h1:m7[1]?=some (cR zR)) (hOk:Ok ⟨[t0,(.ptr 0 0),(.ptr 1 0),x.av,(.ptr 0 1),(.int .i64 n),(.arr 2 0 n none),oneF.av,s.av],m7.set 1 (cR s)⟩):EachK cfg 48 ops48 Ok 4 #[true,true,true,false,false,false,false] ⟨[t0,(.ptr 0 0),(.ptr 1 0),x.av,(.ptr 0 1),(.int .i64 n),.any,.any,.any],[cM x,cR zR]⟩:=by
 have hr:Region.ready .any ops48 #[true,true,true,false,false,false,false]=[3,4]:=by kernel_rfl
 refine ⟨fun h=>(by rw[hr] at h;cases h),fun i hi=>?_⟩
 rw[hr] at hi
 simp only[List.mem_cons,List.not_mem_nil,or_false] at hi
 rcases hi with rfl|rfl
 ·refine ⟨_,by rw[s48_3,make48 hn,oBs],?_⟩
  have e:(#[true,true,true,false,false,false,false]:Array Bool).setIfInBounds 3 true = #[true,true,true,true,false,false,false]:=by decide
  rw[e]
  exact E48_130 hxc hn h90 h1 hOk
 ·refine ⟨_,by rw[s48_4,pcall0,V28,Option.map_some,oBs],?_⟩
  have e:(#[true,true,true,false,false,false,false]:Array Bool).setIfInBounds 4 true = #[true,true,true,false,true,false,false]:=by decide
  rw[e]
  exact E48_121 hxc hn h90 h1 hOk
theorem E48_111 (hxc:x.cols=n) (hn:n≤5) (h90:AC cfg 90 [x.av,.int .i64 0,.arr 2 0 n none,oneF.av] [cM x,cR zR,bU (fun _=>false) n]=some (s.av,m7)) (h1:m7[1]?=some (cR zR)) (hOk:Ok ⟨[t0,(.ptr 0 0),(.ptr 1 0),x.av,(.ptr 0 1),(.int .i64 n),(.arr 2 0 n none),oneF.av,s.av],m7.set 1 (cR s)⟩):EachK cfg 48 ops48 Ok 4 #[true,true,false,false,true,false,false] ⟨[t0,(.ptr 0 0),(.ptr 1 0),x.av,(.ptr 0 1),.any,.any,oneF.av,.any],[cM x,cR zR]⟩:=by
 have hr:Region.ready .any ops48 #[true,true,false,false,true,false,false]=[2]:=by kernel_rfl
 refine ⟨fun h=>(by rw[hr] at h;cases h),fun i hi=>?_⟩
 rw[hr] at hi
 simp only[List.mem_cons,List.not_mem_nil,or_false] at hi
 subst hi
 ·refine ⟨_,by rw[s48_2,mld1 (x:=x) rfl,oBs,hxc],?_⟩
  have e:(#[true,true,false,false,true,false,false]:Array Bool).setIfInBounds 2 true = #[true,true,true,false,true,false,false]:=by decide
  rw[e]
  exact E48_121 hxc hn h90 h1 hOk
theorem E48_030 (hxc:x.cols=n) (hn:n≤5) (h90:AC cfg 90 [x.av,.int .i64 0,.arr 2 0 n none,oneF.av] [cM x,cR zR,bU (fun _=>false) n]=some (s.av,m7)) (h1:m7[1]?=some (cR zR)) (hOk:Ok ⟨[t0,(.ptr 0 0),(.ptr 1 0),x.av,(.ptr 0 1),(.int .i64 n),(.arr 2 0 n none),oneF.av,s.av],m7.set 1 (cR s)⟩):EachK cfg 48 ops48 Ok 4 #[false,true,true,true,false,false,false] ⟨[t0,(.ptr 0 0),(.ptr 1 0),.any,(.ptr 0 1),(.int .i64 n),(.arr 2 0 n none),.any,.any],[cM x,cR zR,bU (fun _=>false) n]⟩:=by
 have hr:Region.ready .any ops48 #[false,true,true,true,false,false,false]=[0,4]:=by kernel_rfl
 refine ⟨fun h=>(by rw[hr] at h;cases h),fun i hi=>?_⟩
 rw[hr] at hi
 simp only[List.mem_cons,List.not_mem_nil,or_false] at hi
 rcases hi with rfl|rfl
 ·refine ⟨_,by rw[s48_0,mldA (x:=x) rfl,oBs],?_⟩
  have e:(#[false,true,true,true,false,false,false]:Array Bool).setIfInBounds 0 true = #[true,true,true,true,false,false,false]:=by decide
  rw[e]
  exact E48_130 hxc hn h90 h1 hOk
 ·refine ⟨_,by rw[s48_4,pcall0,V28,Option.map_some,oBs],?_⟩
  have e:(#[false,true,true,true,false,false,false]:Array Bool).setIfInBounds 4 true = #[false,true,true,true,true,false,false]:=by decide
  rw[e]
  exact E48_031 hxc hn h90 h1 hOk
theorem E48_021 (hxc:x.cols=n) (hn:n≤5) (h90:AC cfg 90 [x.av,.int .i64 0,.arr 2 0 n none,oneF.av] [cM x,cR zR,bU (fun _=>false) n]=some (s.av,m7)) (h1:m7[1]?=some (cR zR)) (hOk:Ok ⟨[t0,(.ptr 0 0),(.ptr 1 0),x.av,(.ptr 0 1),(.int .i64 n),(.arr 2 0 n none),oneF.av,s.av],m7.set 1 (cR s)⟩):EachK cfg 48 ops48 Ok 4 #[false,true,true,false,true,false,false] ⟨[t0,(.ptr 0 0),(.ptr 1 0),.any,(.ptr 0 1),(.int .i64 n),.any,oneF.av,.any],[cM x,cR zR]⟩:=by
 have hr:Region.ready .any ops48 #[false,true,true,false,true,false,false]=[0,3]:=by kernel_rfl
 refine ⟨fun h=>(by rw[hr] at h;cases h),fun i hi=>?_⟩
 rw[hr] at hi
 simp only[List.mem_cons,List.not_mem_nil,or_false] at hi
 rcases hi with rfl|rfl
 ·refine ⟨_,by rw[s48_0,mldA (x:=x) rfl,oBs],?_⟩
  have e:(#[false,true,true,false,true,false,false]:Array Bool).setIfInBounds 0 true = #[true,true,true,false,true,false,false]:=by decide
  rw[e]
  exact E48_121 hxc hn h90 h1 hOk
 ·refine ⟨_,by rw[s48_3,make48 hn,oBs],?_⟩
  have e:(#[false,true,true,false,true,false,false]:Array Bool).setIfInBounds 3 true = #[false,true,true,true,true,false,false]:=by decide
  rw[e]
  exact E48_031 hxc hn h90 h1 hOk
theorem E48_110 (hxc:x.cols=n) (hn:n≤5) (h90:AC cfg 90 [x.av,.int .i64 0,.arr 2 0 n none,oneF.av] [cM x,cR zR,bU (fun _=>false) n]=some (s.av,m7)) (h1:m7[1]?=some (cR zR)) (hOk:Ok ⟨[t0,(.ptr 0 0),(.ptr 1 0),x.av,(.ptr 0 1),(.int .i64 n),(.arr 2 0 n none),oneF.av,s.av],m7.set 1 (cR s)⟩):EachK cfg 48 ops48 Ok 5 #[true,true,false,false,false,false,false] ⟨[t0,(.ptr 0 0),(.ptr 1 0),x.av,(.ptr 0 1),.any,.any,.any,.any],[cM x,cR zR]⟩:=by
 have hr:Region.ready .any ops48 #[true,true,false,false,false,false,false]=[2,4]:=by kernel_rfl
 refine ⟨fun h=>(by rw[hr] at h;cases h),fun i hi=>?_⟩
 rw[hr] at hi
 simp only[List.mem_cons,List.not_mem_nil,or_false] at hi
 rcases hi with rfl|rfl
 ·refine ⟨_,by rw[s48_2,mld1 (x:=x) rfl,oBs,hxc],?_⟩
  have e:(#[true,true,false,false,false,false,false]:Array Bool).setIfInBounds 2 true = #[true,true,true,false,false,false,false]:=by decide
  rw[e]
  exact E48_120 hxc hn h90 h1 hOk
 ·refine ⟨_,by rw[s48_4,pcall0,V28,Option.map_some,oBs],?_⟩
  have e:(#[true,true,false,false,false,false,false]:Array Bool).setIfInBounds 4 true = #[true,true,false,false,true,false,false]:=by decide
  rw[e]
  exact E48_111 hxc hn h90 h1 hOk
theorem E48_101 (hxc:x.cols=n) (hn:n≤5) (h90:AC cfg 90 [x.av,.int .i64 0,.arr 2 0 n none,oneF.av] [cM x,cR zR,bU (fun _=>false) n]=some (s.av,m7)) (h1:m7[1]?=some (cR zR)) (hOk:Ok ⟨[t0,(.ptr 0 0),(.ptr 1 0),x.av,(.ptr 0 1),(.int .i64 n),(.arr 2 0 n none),oneF.av,s.av],m7.set 1 (cR s)⟩):EachK cfg 48 ops48 Ok 5 #[true,false,false,false,true,false,false] ⟨[t0,(.ptr 0 0),(.ptr 1 0),x.av,.any,.any,.any,oneF.av,.any],[cM x,cR zR]⟩:=by
 have hr:Region.ready .any ops48 #[true,false,false,false,true,false,false]=[1]:=by kernel_rfl
 refine ⟨fun h=>(by rw[hr] at h;cases h),fun i hi=>?_⟩
 rw[hr] at hi
 simp only[List.mem_cons,List.not_mem_nil,or_false] at hi
 subst hi
 ·refine ⟨_,by rw[s48_1,fld1,oBs],?_⟩
  have e:(#[true,false,false,false,true,false,false]:Array Bool).setIfInBounds 1 true = #[true,true,false,false,true,false,false]:=by decide
  rw[e]
  exact E48_111 hxc hn h90 h1 hOk
theorem E48_020 (hxc:x.cols=n) (hn:n≤5) (h90:AC cfg 90 [x.av,.int .i64 0,.arr 2 0 n none,oneF.av] [cM x,cR zR,bU (fun _=>false) n]=some (s.av,m7)) (h1:m7[1]?=some (cR zR)) (hOk:Ok ⟨[t0,(.ptr 0 0),(.ptr 1 0),x.av,(.ptr 0 1),(.int .i64 n),(.arr 2 0 n none),oneF.av,s.av],m7.set 1 (cR s)⟩):EachK cfg 48 ops48 Ok 5 #[false,true,true,false,false,false,false] ⟨[t0,(.ptr 0 0),(.ptr 1 0),.any,(.ptr 0 1),(.int .i64 n),.any,.any,.any],[cM x,cR zR]⟩:=by
 have hr:Region.ready .any ops48 #[false,true,true,false,false,false,false]=[0,3,4]:=by kernel_rfl
 refine ⟨fun h=>(by rw[hr] at h;cases h),fun i hi=>?_⟩
 rw[hr] at hi
 simp only[List.mem_cons,List.not_mem_nil,or_false] at hi
 rcases hi with rfl|rfl|rfl
 ·refine ⟨_,by rw[s48_0,mldA (x:=x) rfl,oBs],?_⟩
  have e:(#[false,true,true,false,false,false,false]:Array Bool).setIfInBounds 0 true = #[true,true,true,false,false,false,false]:=by decide
  rw[e]
  exact E48_120 hxc hn h90 h1 hOk
 ·refine ⟨_,by rw[s48_3,make48 hn,oBs],?_⟩
  have e:(#[false,true,true,false,false,false,false]:Array Bool).setIfInBounds 3 true = #[false,true,true,true,false,false,false]:=by decide
  rw[e]
  exact E48_030 hxc hn h90 h1 hOk
 ·refine ⟨_,by rw[s48_4,pcall0,V28,Option.map_some,oBs],?_⟩
  have e:(#[false,true,true,false,false,false,false]:Array Bool).setIfInBounds 4 true = #[false,true,true,false,true,false,false]:=by decide
  rw[e]
  exact E48_021 hxc hn h90 h1 hOk
theorem E48_011 (hxc:x.cols=n) (hn:n≤5) (h90:AC cfg 90 [x.av,.int .i64 0,.arr 2 0 n none,oneF.av] [cM x,cR zR,bU (fun _=>false) n]=some (s.av,m7)) (h1:m7[1]?=some (cR zR)) (hOk:Ok ⟨[t0,(.ptr 0 0),(.ptr 1 0),x.av,(.ptr 0 1),(.int .i64 n),(.arr 2 0 n none),oneF.av,s.av],m7.set 1 (cR s)⟩):EachK cfg 48 ops48 Ok 5 #[false,true,false,false,true,false,false] ⟨[t0,(.ptr 0 0),(.ptr 1 0),.any,(.ptr 0 1),.any,.any,oneF.av,.any],[cM x,cR zR]⟩:=by
 have hr:Region.ready .any ops48 #[false,true,false,false,true,false,false]=[0,2]:=by kernel_rfl
 refine ⟨fun h=>(by rw[hr] at h;cases h),fun i hi=>?_⟩
 rw[hr] at hi
 simp only[List.mem_cons,List.not_mem_nil,or_false] at hi
 rcases hi with rfl|rfl
 ·refine ⟨_,by rw[s48_0,mldA (x:=x) rfl,oBs],?_⟩
  have e:(#[false,true,false,false,true,false,false]:Array Bool).setIfInBounds 0 true = #[true,true,false,false,true,false,false]:=by decide
  rw[e]
  exact E48_111 hxc hn h90 h1 hOk
 ·refine ⟨_,by rw[s48_2,mld1 (x:=x) rfl,oBs,hxc],?_⟩
  have e:(#[false,true,false,false,true,false,false]:Array Bool).setIfInBounds 2 true = #[false,true,true,false,true,false,false]:=by decide
  rw[e]
  exact E48_021 hxc hn h90 h1 hOk
theorem E48_100 (hxc:x.cols=n) (hn:n≤5) (h90:AC cfg 90 [x.av,.int .i64 0,.arr 2 0 n none,oneF.av] [cM x,cR zR,bU (fun _=>false) n]=some (s.av,m7)) (h1:m7[1]?=some (cR zR)) (hOk:Ok ⟨[t0,(.ptr 0 0),(.ptr 1 0),x.av,(.ptr 0 1),(.int .i64 n),(.arr 2 0 n none),oneF.av,s.av],m7.set 1 (cR s)⟩):EachK cfg 48 ops48 Ok 6 #[true,false,false,false,false,false,false] ⟨[t0,(.ptr 0 0),(.ptr 1 0),x.av,.any,.any,.any,.any,.any],[cM x,cR zR]⟩:=by
 have hr:Region.ready .any ops48 #[true,false,false,false,false,false,false]=[1,4]:=by kernel_rfl
 refine ⟨fun h=>(by rw[hr] at h;cases h),fun i hi=>?_⟩
 rw[hr] at hi
 simp only[List.mem_cons,List.not_mem_nil,or_false] at hi
 rcases hi with rfl|rfl
 ·refine ⟨_,by rw[s48_1,fld1,oBs],?_⟩
  have e:(#[true,false,false,false,false,false,false]:Array Bool).setIfInBounds 1 true = #[true,true,false,false,false,false,false]:=by decide
  rw[e]
  exact E48_110 hxc hn h90 h1 hOk
 ·refine ⟨_,by rw[s48_4,pcall0,V28,Option.map_some,oBs],?_⟩
  have e:(#[true,false,false,false,false,false,false]:Array Bool).setIfInBounds 4 true = #[true,false,false,false,true,false,false]:=by decide
  rw[e]
  exact E48_101 hxc hn h90 h1 hOk
theorem E48_010 (hxc:x.cols=n) (hn:n≤5) (h90:AC cfg 90 [x.av,.int .i64 0,.arr 2 0 n none,oneF.av] [cM x,cR zR,bU (fun _=>false) n]=some (s.av,m7)) (h1:m7[1]?=some (cR zR)) (hOk:Ok ⟨[t0,(.ptr 0 0),(.ptr 1 0),x.av,(.ptr 0 1),(.int .i64 n),(.arr 2 0 n none),oneF.av,s.av],m7.set 1 (cR s)⟩):EachK cfg 48 ops48 Ok 6 #[false,true,false,false,false,false,false] ⟨[t0,(.ptr 0 0),(.ptr 1 0),.any,(.ptr 0 1),.any,.any,.any,.any],[cM x,cR zR]⟩:=by
 have hr:Region.ready .any ops48 #[false,true,false,false,false,false,false]=[0,2,4]:=by kernel_rfl
 refine ⟨fun h=>(by rw[hr] at h;cases h),fun i hi=>?_⟩
 rw[hr] at hi
 simp only[List.mem_cons,List.not_mem_nil,or_false] at hi
 rcases hi with rfl|rfl|rfl
 ·refine ⟨_,by rw[s48_0,mldA (x:=x) rfl,oBs],?_⟩
  have e:(#[false,true,false,false,false,false,false]:Array Bool).setIfInBounds 0 true = #[true,true,false,false,false,false,false]:=by decide
  rw[e]
  exact E48_110 hxc hn h90 h1 hOk
 ·refine ⟨_,by rw[s48_2,mld1 (x:=x) rfl,oBs,hxc],?_⟩
  have e:(#[false,true,false,false,false,false,false]:Array Bool).setIfInBounds 2 true = #[false,true,true,false,false,false,false]:=by decide
  rw[e]
  exact E48_020 hxc hn h90 h1 hOk
 ·refine ⟨_,by rw[s48_4,pcall0,V28,Option.map_some,oBs],?_⟩
  have e:(#[false,true,false,false,false,false,false]:Array Bool).setIfInBounds 4 true = #[false,true,false,false,true,false,false]:=by decide
  rw[e]
  exact E48_011 hxc hn h90 h1 hOk
theorem E48_001 (hxc:x.cols=n) (hn:n≤5) (h90:AC cfg 90 [x.av,.int .i64 0,.arr 2 0 n none,oneF.av] [cM x,cR zR,bU (fun _=>false) n]=some (s.av,m7)) (h1:m7[1]?=some (cR zR)) (hOk:Ok ⟨[t0,(.ptr 0 0),(.ptr 1 0),x.av,(.ptr 0 1),(.int .i64 n),(.arr 2 0 n none),oneF.av,s.av],m7.set 1 (cR s)⟩):EachK cfg 48 ops48 Ok 6 #[false,false,false,false,true,false,false] ⟨[t0,(.ptr 0 0),(.ptr 1 0),.any,.any,.any,.any,oneF.av,.any],[cM x,cR zR]⟩:=by
 have hr:Region.ready .any ops48 #[false,false,false,false,true,false,false]=[0,1]:=by kernel_rfl
 refine ⟨fun h=>(by rw[hr] at h;cases h),fun i hi=>?_⟩
 rw[hr] at hi
 simp only[List.mem_cons,List.not_mem_nil,or_false] at hi
 rcases hi with rfl|rfl
 ·refine ⟨_,by rw[s48_0,mldA (x:=x) rfl,oBs],?_⟩
  have e:(#[false,false,false,false,true,false,false]:Array Bool).setIfInBounds 0 true = #[true,false,false,false,true,false,false]:=by decide
  rw[e]
  exact E48_101 hxc hn h90 h1 hOk
 ·refine ⟨_,by rw[s48_1,fld1,oBs],?_⟩
  have e:(#[false,false,false,false,true,false,false]:Array Bool).setIfInBounds 1 true = #[false,true,false,false,true,false,false]:=by decide
  rw[e]
  exact E48_011 hxc hn h90 h1 hOk
theorem E48_000 (hxc:x.cols=n) (hn:n≤5) (h90:AC cfg 90 [x.av,.int .i64 0,.arr 2 0 n none,oneF.av] [cM x,cR zR,bU (fun _=>false) n]=some (s.av,m7)) (h1:m7[1]?=some (cR zR)) (hOk:Ok ⟨[t0,(.ptr 0 0),(.ptr 1 0),x.av,(.ptr 0 1),(.int .i64 n),(.arr 2 0 n none),oneF.av,s.av],m7.set 1 (cR s)⟩):EachK cfg 48 ops48 Ok 7 #[false,false,false,false,false,false,false] ⟨[t0,(.ptr 0 0),(.ptr 1 0),.any,.any,.any,.any,.any,.any],[cM x,cR zR]⟩:=by
 have hr:Region.ready .any ops48 #[false,false,false,false,false,false,false]=[0,1,4]:=by kernel_rfl
 refine ⟨fun h=>(by rw[hr] at h;cases h),fun i hi=>?_⟩
 rw[hr] at hi
 simp only[List.mem_cons,List.not_mem_nil,or_false] at hi
 rcases hi with rfl|rfl|rfl
 ·refine ⟨_,by rw[s48_0,mldA (x:=x) rfl,oBs],?_⟩
  have e:(#[false,false,false,false,false,false,false]:Array Bool).setIfInBounds 0 true = #[true,false,false,false,false,false,false]:=by decide
  rw[e]
  exact E48_100 hxc hn h90 h1 hOk
 ·refine ⟨_,by rw[s48_1,fld1,oBs],?_⟩
  have e:(#[false,false,false,false,false,false,false]:Array Bool).setIfInBounds 1 true = #[false,true,false,false,false,false,false]:=by decide
  rw[e]
  exact E48_010 hxc hn h90 h1 hOk
 ·refine ⟨_,by rw[s48_4,pcall0,V28,Option.map_some,oBs],?_⟩
  have e:(#[false,false,false,false,false,false,false]:Array Bool).setIfInBounds 4 true = #[false,false,false,false,true,false,false]:=by decide
  rw[e]
  exact E48_001 hxc hn h90 h1 hOk
end
theorem D48_0 {x:MV} (K:KT):execW cfg 48 (AP cfg) (AC cfg) (c1 (bodyOf f48)) ⟨[x.av,.any,.any,.any,.any,.any,.any,.any,.any],[]⟩ K=K .normal ⟨[x.av,(.ptr 0 0),(.ptr 1 0),.any,.any,.any,.any,.any,.any],[cM x,cR zR]⟩:=by
 have e:execW cfg 48 (AP cfg) (AC cfg) (c1 (bodyOf f48)) ⟨[x.av,.any,.any,.any,.any,.any,.any,.any,.any],[]⟩ K=(boxA none (some 3) [] x.av).bind fun r1=>K .normal ⟨[x.av,r1.1,(.ptr (newAt none r1.2 .resv).1 0),.any,.any,.any,.any,.any,.any],(newAt none r1.2 (.obj true [(.bool false),(.lst none true .full []),(.lst none true .full [])])).2⟩:=by kernel_rfl
 rw[e,box_mv,oBs,new_q',new_r];rfl
theorem D48_t (st:St) (K:KT):execW cfg 48 (AP cfg) (AC cfg) (c2 (c2 (bodyOf f48))) st K=K .ret st:=by kernel_rfl
theorem rs48 (ts:List AV) (m:Mem) (R:RV) (h2:ts.getD 2 .any=.ptr 1 0) (h:m[1]?=some (cR R)):resultsA prog m ts f48.results.toList=some [R.av]:=by
 have e1:f48.results.toList=[.cell 2 43]:=by kernel_rfl
 have e2:resA prog m ts (.cell 2 43)=loadA (some 3) m (ts.getD 2 .any):=by kernel_rfl
 rw[e1,resultsA,e2,h2,rldA h]
 simp only[resultsA,oBs]
 rfl
theorem core48 {x:MV} {n:Nat} (hx:IsM 3 x) (hb:rightM x=true) (hxn:x.rows=n) (hxc:x.cols=n) (hn:n≤5):∃ R:RV,R.fr=R∧Can R (det n (mxOf x n))∧Bd (rbD n) (det n (mxOf x n))∧CallOk prog 48 [x.av] [] R.av []:=by
 have hlx:x.lv.es.length=n*n:=by
  obtain ⟨r,c,a1,a2,_,_,a5⟩:=right_len hb
  obtain rfl:r=n:=by omega
  obtain rfl:c=r:=by omega
  exact a5
 obtain ⟨m7,R,h90,c1',f1',b1',sm,_⟩:=C90 hx hxn hxc hlx hn n 0 (by omega) (fun _=>false) [cM x,cR zR,bU (fun _=>false) n] 2 oneF 1 rfl canF_one oneF_fr (Bd_one (by omega))
 have h1:m7[1]?=some (cR zR):=(sm.2 1 (by show 1<3;omega) (by omega)).trans rfl
 rw[Rat.one_mul] at c1' b1'
 refine ⟨R,f1',c1',b1',?_⟩
 intro B w g vs hm hB hl hv
 refine (callsIn_wide (n:=5)).1 ?_
 have hF:Fine Fence.wide:=.inl rfl
 refine callsIn_of_wp_marks (fn:=f48) (c:=bodyOf f48) ?hf ?hb ?hF ?hh ?hro
 case hf=>exact hf48
 case hb=>exact hb48
 case hF=>exact hF.fn 48
 case hro=>rfl
 have hvs1:vs.size=1:=by simpa using hl.symm
 rw[nt48,hvs1]
 have hts:=tmpR_start hl hv 8
 rw[e48]
 refine wpIn_seq (execD (C:=cfg) cfgOk nb hF calm48.1 (e0:=.normal) (fun K=>D48_0 K) (show StR B w g _ _ from ⟨hts,hm,hB⟩) fun a1 w1 g1 hs1 s1 hd1=>?_)
 refine wpIn_seq (each_region (C:=cfg) (fid:=48) cfgOk nb hF (by kernel_rfl) (Ok:=fun st=>st=⟨[x.av,(.ptr 0 0),(.ptr 1 0),x.av,(.ptr 0 1),(.int .i64 n),(.arr 2 0 n none),oneF.av,R.av],m7.set 1 (cR R)⟩) ?_ hs1 fun st' a2 w2 g2 ho hs2 s2 hd2=>?_)
 ·rw[sz48]
  exact E48_000 hxc hn h90 h1 rfl
 subst ho
 refine execD (C:=cfg) cfgOk nb hF calm48.2 (e0:=.ret) (fun K=>D48_t _ K) hs2 fun a3 w3 g3 hs3 s3 hd3=>?_
 have s:=(s1.trans s2).trans s3
 refine leaves0 hs3 (rs48 _ _ R rfl (set_same (List.getElem?_eq_some_iff.1 h1).1)) (hd3.trans (hd2.trans hd1)) fun v hv=>?_
 refine ⟨v,g3.bare,rfl,s.bare hm,hs3.mem.none,?_⟩
 refine V.bare hv ?_
 have h:=congrArg RV.num f1'
 have h':=congrArg RV.den f1'
 obtain ⟨neg,⟨z1,o1,d1⟩,⟨z2,o2,d2⟩⟩:=R
 simp only[RV.fr,NV.fr,NV.mk.injEq,true_and,and_true] at h h'
 cases o1<;>cases o2<;>simp[Own.fr] at h h'<;>rfl
end Go.Ab
set_option linter.unusedVariables false
set_option linter.unusedSimpArgs false
namespace Go.Ab
open Go.Proofs.Try Go.RowKit
structure ExpP (x:MV) (R:RV):Prop where
 xfr:x.fr=x
 fr:R.fr=R
 call:CallOk prog 48 [x.av] [] R.av []
 ok:∀ n:Nat,x.rows=n→x.cols=n→Can R (det n (mxOf x n))
theorem expP {x:MV} {n:Nat} (hx:IsM 3 x) (hb:rightM x=true) (hxn:x.rows=n) (hxc:x.cols=n) (hn:n≤5):∃ R,ExpP x R:=by
 obtain ⟨R,R1,R2,_,R3⟩:=core48 hx hb hxn hxc hn
 refine ⟨R,hx.fr,R1,R3,fun n' h1 _=>?_⟩
 obtain rfl:n'=n:=by omega
 exact R2
theorem callOk48 {x:MV} {R:RV} (h:ExpP x R) (m:Mem):CallOk prog 48 [x.av] m R.av m:=by
 intro B w g vs hm hB hl hv
 have hf:mapF (frz m fuelF) [x.av]=some ([x.av],[]):=by
  have e:frz m fuelF x.av=some (x.fr.av,[]):=fz_mv x m
  simp only[mapF,e,h.xfr,oBs,Option.map_some,List.append_nil]
 classical
 refine pureCall_sound hm hB (P:=prog) (f:=48) (call:=fun f args m=>if f=48∧args=[x.av]∧m=[] then some (R.av,[]) else none) (fun args m v m' h'=>?_) hl hv hf (r:=R.av) ?_
 ·simp only at h'
  split at h'
  ·rename_i hc
   obtain ⟨_,rfl,rfl⟩:=hc
   simp only[Option.some.injEq,Prod.mk.injEq] at h'
   obtain ⟨rfl,rfl⟩:=h'
   exact h.call
  ·cases h'
 ·simp only[acallP,true_and,if_true,oBs]
  have e1:frz [] fuelF R.av=some (R.fr.av,[]):=fz_rv R []
  rw[e1,h.fr]
  rfl
open Classical in
noncomputable def h48 (vs:List AV):Option AV:=if h:∃ p:MV×RV,ExpP p.1 p.2∧vs=[p.1.av] then some (Classical.choose h).2.av else none
theorem h48_ex {x:MV} {R0:RV} (hx:ExpP x R0):∃ R,h48 [x.av]=some R.av∧ExpP x R:=by
 have h:∃ p:MV×RV,ExpP p.1 p.2∧[x.av]=[p.1.av]:=⟨(x,R0),hx,rfl⟩
 obtain ⟨h1,e⟩:=Classical.choose_spec h
 have e1:=MV.av_inj (List.cons.inj e).1
 have h2:h48 [x.av]=some (Classical.choose h).2.av:=by unfold h48;rw[dif_pos h]
 generalize Classical.choose h=p at h1 e1 h2
 exact ⟨_,h2,e1▸h1⟩
noncomputable def lib6 (g:Nat):Option (List AV→Option AV):=match Nat.beq g 47 with
 | true=>some h47
 | false=>match Nat.beq g 48 with
  | true=>some h48
  | false=>cfg.lib g
noncomputable def cfg6:Cfg:=cfg.plug lib6
theorem plugs6:Plugs cfg lib6:=fun g=>by
 unfold lib6
 cases hb:Nat.beq g 47 with
 | true=>
  right
  have:=Nat.eq_of_beq_eq_true hb
  subst this
  rfl
 | false=>
  cases hb2:Nat.beq g 48 with
  | true=>
   right
   have:=Nat.eq_of_beq_eq_true hb2
   subst this
   rfl
  | false=>exact .inl rfl
theorem AP6 {f:Nat} {args:List AV} {v:AV} (h:AP cfg f args=some v):AP cfg6 f args=some v:=AP_plug plugs6 h
theorem cfgOk6:CfgOk cfg6 where
 name:=cfgOk.name
 ben:=cfgOk.ben
 libm:=cfgOk.libm
 lib g h hh:=by
  have hh':lib6 g=some h:=hh
  unfold lib6 at hh'
  cases hb:Nat.beq g 47 with
  | true=>
   rw[hb] at hh'
   have e:Cfg.lib cfg5 47=some h47:=rfl
   obtain rfl:=Option.some.inj hh'
   have:=Nat.eq_of_beq_eq_true hb
   subst this
   exact cfgOk5.lib 47 _ e
  | false=>
   rw[hb] at hh'
   cases hb2:Nat.beq g 48 with
   | false=>rw[hb2] at hh';exact cfgOk.lib g h hh'
   | true=>
    rw[hb2] at hh'
    obtain rfl:=Option.some.inj hh'
    have:=Nat.eq_of_beq_eq_true hb2
    subst this
    refine ⟨⟨f48,hf48,by rw[hb48];rfl⟩,fun vs v hv m=>?_⟩
    unfold h48 at hv
    split at hv
    ·rename_i hx
     obtain ⟨h1,e⟩:=Classical.choose_spec hx
     simp only[Option.some.injEq] at hv
     subst hv
     have hc:=callOk48 h1 m
     rw[← e] at hc
     exact hc
    ·cases hv
theorem law_calls6 {f:Nat} {args:List AV} {vs:Array Value} {W:World} (h:∃ m',AC cfg6 f args []=some (.bool true,m')) (hl:args.length=vs.size) (hv:∀ j,j<args.length→V W g0 (args.getD j .any) (vs.getD j undef)) :
  Calls Go.Proofs.Try.prog f vs W fun e W'=>e=.returned (.bool true)∧Below W.heap.size W W':=by
 obtain ⟨m',hm'⟩:=h
 refine ((AC_sound cfgOk6 f args [] _ _ hm').1 W.heap.size W g0 vs (memR0 W) (Nat.le_refl _) hl hv).mono ?_
 rintro e W' ⟨v',g',rfl,hs,_,hv'⟩
 cases hv'
 exact ⟨rfl,hs.below⟩
end Go.Ab
set_option linter.unusedVariables false
namespace Go.Ab
open Go.Proofs.Try
theorem T9 (a0:AV) (m:Mem):AC cfg6 9 [a0] m =
 (boxA none (some 3) m a0).bind fun r1=>
 (loadA (some 3) r1.2 r1.1).bind fun v2=>
 (pcall (AP cfg6) none r1.2 43 [v2,(.int .i64 5)]).bind fun r3=>
 (storeA (some 3) r3.2 r1.1 r3.1).bind fun m4=>
 (loadA (some 3) m4 r1.1).bind fun v5=>
 (pcall (AP cfg6) none m4 21 [v5]).bind fun r6=>
 (unA .not r6.1).bind fun v7=>
 ifA v7 (
 (pcall (AP cfg6) none r6.2 26 []).bind fun r8=>
 some (r8.1,r8.2)) (
 (loadA (some 3) r6.2 r1.1).bind fun v9=>
 (h47 [v9]).bind fun v10=>
 (extractA v10 0).bind fun v11=>
 (extractA v10 1).bind fun v12=>
 (storeA (some 3) (newAt none r6.2 (.obj true [(.bool false),(.lst none true .full []),(.lst none true .full [])])).2 (.ptr (newAt none r6.2 .resv).1 0) v11).bind fun m13=>
 (binA .other .eql v12 (.int .i64 0)).bind fun v14=>
 ifA v14 (
 (loadA (some 3) m13 (.ptr (newAt none r6.2 .resv).1 0)).bind fun v15=>
 (loadA (some 3) m13 r1.1).bind fun v16=>
 (h48 [v16]).bind fun v17=>
 (pcall (AP cfg6) (some m13.length) m13 23 [v15,v17]).bind fun r18=>
 ifA r18.1 (
 (pcall (AP cfg6) (some m13.length) r18.2 26 []).bind fun r19=>
 some (r19.1,r19.2)) (
 some ((.bool false),r18.2))) (
 some ((.bool false),m13))):=
(AC_eq cfg6 9 [a0] m (fn:=f9) (c:=bodyOf f9) (by kernel_rfl) rfl).trans (by kernel_rfl)
end Go.Ab
set_option linter.unusedVariables false
set_option linter.unusedSimpArgs false
namespace Go.Ab
open Go.Proofs.Try
theorem ext0' (a b:AV):extractA (.tup [a,b]) 0=some a:=rfl
theorem ext1' (a b:AV):extractA (.tup [a,b]) 1=some b:=rfl
theorem mv_frfr' (x:MV):x.fr.fr=x.fr:=by
 obtain ⟨a,b,⟨c,d,o,es⟩⟩:=x
 cases o<;>rfl
end Go.Ab
set_option linter.unusedVariables false
set_option linter.unusedSimpArgs false
namespace Go.Ab
open Go.Proofs.Try
theorem kk5:kk 3 5=3413:=by decide
section
variable {m:Mem} {d:Option Nat} {g:Nat}
theorem p6M (x:MV):pcall (AP cfg6) d m g [x.av]=(AP cfg6 g [x.fr.av]).map fun v=>(v,m):=pcall1 (fz_mv x)
theorem p6MI (x:MV) (a:Int):pcall (AP cfg6) d m g [x.av,.int .i64 a]=(AP cfg6 g [x.fr.av,.int .i64 a]).map fun v=>(v,m):=pcall2 (fz_mv x) (fz_int _ a)
theorem p6RR (r s:RV):pcall (AP cfg6) d m g [r.av,s.av]=(AP cfg6 g [r.fr.av,s.fr.av]).map fun v=>(v,m):=pcall2 (fz_rv r) (fz_rv s)
theorem P26e:pcall (AP cfg6) d m 26 []=some (.bool true,m):=by rw[pcall0,AP6 V26];rfl
end
set_option maxHeartbeats 8000000 in
theorem MatrixExpands_law {a:MV} (ha:XM a.fr):∃ m',AC cfg6 9 [a.av] []=some (.bool true,m'):=by
 obtain ⟨x,x1,x2,x3,x4,x5⟩:=V43 (n:=5) (by omega) ha (mv_frfr' a)
 have r21:=V21 (x:=x) x2 (k:=3) (by omega) (by omega)
 have start:AC cfg6 9 [a.av] []=AC cfg6 9 [a.av] []:=rfl
 conv at start=>rhs;rw[T9,box_mv,oBs]
 simp only[List.length_nil,List.nil_append,List.length_cons,List.cons_append,Nat.zero_add,Nat.reduceAdd] at start
 rw[mldA (x:=a) rfl,oBs,p6MI,show ((5:Int))=((5:Nat):Int) from rfl,AP6 x1,Option.map_some,oBs,mstA (x:=a) rfl,oBs] at start
 simp only[List.set_cons_zero,List.set_cons_succ] at start
 rw[mldA (x:=x) rfl,oBs,p6M,x4,AP6 r21,Option.map_some,oBs,not_b,oBs] at start
 cases hbx:rightM x with
 | false=>
  rw[hbx,Bool.not_false,ifA_true,P26e,oBs] at start
  exact ⟨_,start⟩
 | true=>
 obtain ⟨x6,x7⟩:=x5 hbx
 obtain ⟨n,n',hr,hr',_,_,hlx⟩:=right_len hbx
 obtain rfl:n=n':=by omega
 have hn5:n≤5:=by omega
 have ix:IsM 3 x:=⟨x2,x4,x3⟩
 have k1:kk 3 n≤3413:=by rw[← kk5];exact kk_mono 3 hn5
 have k3:n*kk 3 n≤5*3413:=Nat.mul_le_mul hn5 k1
 have f3:1+n*kk 3 n<2^36∧kk 3 n<2^36:=by constructor<;>omega
 obtain ⟨_,_,px⟩:=detP ix (by omega) (by omega) fun _ n' h1 _=>by
  have:n'=n:=Int.ofNat_inj.1 (h1.symm.trans hr)
  rw[this];exact f3
 obtain ⟨X,e,hX,PX⟩:=h47_ex px
 obtain ⟨rfl,cX⟩:=PX.ok hbx n hr hr'
 obtain ⟨_,py⟩:=expP ix hbx hr hr' hn5
 obtain ⟨Y,hY,PY⟩:=h48_ex py
 have cY:=PY.ok n hr hr'
 have bX:=(det_bd ix (by omega) (by omega) hbx hr hr' (by omega) (by omega) (by omega)).mono (k':=60000) (by omega)
 have oX:=cX.ok bX (by omega)
 have oY:=cY.ok bX (by omega)
 have q1:=V23 oX oY (by omega) (by omega)
 rw[cX.q,cY.q,decide_eq_true rfl] at q1
 rw[hbx,Bool.not_true,ifA_false,mldA (x:=x) rfl,oBs,hX,oBs,ext0',oBs,ext1',oBs] at start
 simp only[new_q',new_r,List.length_nil,List.nil_append,List.length_cons,List.cons_append,Nat.zero_add,Nat.reduceAdd] at start
 rw[rstA (x:=zR) rfl,oBs] at start
 simp only[List.set_cons_zero,List.set_cons_succ] at start
 rw[show binA .other .eql (.int .i64 0) (.int .i64 0)=some (.bool true) from rfl,oBs,ifA_true,rldA (x:=X) rfl,oBs,mldA (x:=x) rfl,oBs,hY,oBs,p6RR,PX.fr,PY.fr,AP6 q1,Option.map_some,oBs,ifA_true,P26e,oBs] at start
 exact ⟨_,start⟩
end Go.Ab
