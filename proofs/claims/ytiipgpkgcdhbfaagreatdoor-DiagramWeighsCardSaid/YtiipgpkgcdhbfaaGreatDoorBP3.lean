/- Tables, the builder of diagrams, by value. -/
import Derived.Test.YtiipgpkgcdhbfaaGreatDoorBP2
import Derived.Test.YtiipgpkgcdhbfaaGreatDoorBP1
set_option linter.unusedVariables false
set_option linter.unusedSimpArgs false
set_option linter.unusedSectionVars false
set_option maxRecDepth 100000
namespace Go.Ab
open Go.Proofs Go.Proofs.Tryz
theorem qDp {tk:TK} {a b:Nat} (h:b≠0):qaz tk .rem (.int .i64 a) (.int .i64 b)=some (.int .i64 (a % b:Nat)):=by
 have e:qaz tk .rem (.int .i64 a) (.int .i64 b)=if (b:Int)=0 then none else some (.int .i64 ((a:Int).tmod b)):=by cases tk<;>rfl
 rw[e,qah (by omega)]
 rfl
theorem qE8 {tk:TK} {a b:Nat} (h:b≠0) (h':a < 9223372036854775808):qaz tk .quo (.int .i64 a) (.int .i64 b)=some (.int .i64 (a / b:Nat)):=by
 have e:qaz tk .quo (.int .i64 a) (.int .i64 b)=if (b:Int)=0 then none else some (.int .i64 (IntKind.wrap .i64 ((a:Int).tdiv b))):=by cases tk<;>rfl
 rw[e,qah (by omega)]
 have e2:(a:Int).tdiv b=((a / b:Nat):Int):=rfl
 have:=qib a b
 rw[e2]
 generalize a / b=q at *
 rw[qbQ (by omega) (by omega)]
theorem qE6 {tk:TK} {a b:Nat} (h:a * b < 9223372036854775808):qaz tk .mul (.int .i64 a) (.int .i64 b)=some (.int .i64 (a * b:Nat)):=by
 rw[qf3,<- qer]
 generalize a * b=q at *
 rw[qbQ (by omega) (by omega)]
theorem qFF (tk:TK) (a:Int):qaz tk .rem (.int .i64 a) (.int .i64 5)=some (.int .i64 (a.tmod 5)):=by cases tk<;>rfl
inductive GR (e:Nat) (m:Mem):AV->List AV->List Nat->Prop
 | none:GR e m (.lst none true .full []) [] []
 | some (t:Nat) (es:List AV) (ht:m.get t=some (.tok es.length 1)) (hne:es≠[]):GR e m (.lst none false (.tok t e) es) es [t]
theorem qvL {e:Nat} {m m':Mem} {x:AV} {l:List AV} {T:List Nat} (h:GR e m x l T) (f:∀ k∈T,m'.get k=m.get k):GR e m' x l T:=by
 cases h with
 | none=>exact .none
 | some t l ht hne=>exact .some t l ((f t (by simp)).trans ht) hne
theorem qDa {e:Nat} {m:Mem} {x:AV} {l:List AV} {T:List Nat} (h:GR e m x l T):∀ k∈T,k < m.length:=by
 cases h with
 | none=>simp
 | some t l ht _=>
  intro k hk
  obtain rfl:k=t:=by simpa using hk
  exact qbz ht
theorem qnQ {e:Nat} {m:Mem} {x:AV} {l:List AV} {T:List Nat} (h:GR e m x l T):∃ z o,x=.lst none z o l/\(z=true->l=[]):=by
 cases h with
 | none=>exact ⟨true,.full,rfl,fun _=>rfl⟩
 | some t l ht _=>exact ⟨false,.tok t e,rfl,fun h=>by cases h⟩
theorem qnP {e b:Nat} {m:Mem} {x:AV} {l:List AV} {T:List Nat} (h:GR e m x l T) (hl:l.length < 1000000) (hb:b<=64) (y:AV):∃ x' m' T',qd6 none false e none b m x (.lst none false .full [y])=some (x',m')/\GR e m' x' (l++[y]) T'/\Fr m m' T/\Gr m T T':=by
 have h2:(l.length+1) * b<=qef:=by
  have:=qdU (show l.length+1<=1000000 by omega) hb
  unfold qef;omega
 cases h with
 | none=>
  refine ⟨.lst none false (.tok m.length e) [y],m++[some (Ent.tok 1 1)],[m.length],?_,.some _ [y] (by simp (disch:=(first | assumption | omega | (simp only[qab,qai,qad,qae];first | done | omega))) only[qeI,qey,qev,qdb,qdF];first | done | rfl) (by simp),Fr.app m _ _,fun k hk=>?_⟩
  ·have h2:b<=qef:=by simpa using h2
   simp[qd6,h2,qaH,Sh.size]
  ·obtain rfl:k=m.length:=by simpa using hk
   exact .inr (qak _)
 | some t es ht _=>
  have htl:=qbz ht
  refine ⟨.lst none false (.tok t e) (l++[y]),m.set t (some (Ent.tok (l.length+1) 1)),[t],?_,?_,(Fr.refl m [t]).set _ (.inl (by simp)),Gr.refl _ _⟩
  ·simp[qd6,ht,Sh.size,h2]
  ·refine .some t (l++[y]) ?_ (by simp)
   rw[qdF rfl htl,qab];rfl
theorem qku {most:Int}:∀ (l:List Int) (acc:Int),(∀ a∈l,1<=a)->1<=acc->acc<=most->qdG most acc l≠0->qdG most acc l=acc * qbD l/\acc * qbD l<=most
 | [],acc,_,h1,h2,_=>by simp only[qdG,qbD];omega
 | n::l,acc,hl,h1,h2,h=>by
  rw[qdG] at h ⊢
  have hn:=hl n qaC
  by_cases hg:acc * n > most
  ·rw[qal hg] at h;exact absurd rfl h
  ·rw[qah hg] at h ⊢
   have hp:1<=acc * n:=by have:=Int.mul_le_mul h1 hn (by omega) (by omega);simpa using this
   have e:=qku l (acc * n) (fun a ha=>hl a (qax _ ha)) hp (by omega) h
   have e2:acc * ((qbD (n::l):Nat):Int)=acc * n * qbD l:=by
    rw[qbD,qer,Int.toNat_of_nonneg (by omega),Int.mul_assoc]
   rw[e2]
   exact e
theorem qmz {l:List Int} (h:∀ a∈l,1<=a):1<=qbD l:=by
 induction l with
 | nil=>exact qak _
 | cons n l ih=>
  rw[qbD]
  have h1:=h n qaC
  exact Nat.mul_pos (by omega) (ih fun a ha=>h a (qax _ ha))
theorem qlC {most:Int}:∀ (l:List Int) (acc:Int),(∀ a∈l,1<=a)->1<=acc->acc * qbD l<=most->qdG most acc l=acc * qbD l
 | [],acc,_,h1,_=>by simp[qdG,qbD]
 | n::l,acc,hl,h1,h=>by
  have hn:=hl n qaC
  have e2:acc * ((qbD (n::l):Nat):Int)=acc * n * qbD l:=by
   rw[qbD,qer,Int.toNat_of_nonneg (by omega),Int.mul_assoc]
  rw[e2] at h ⊢
  have hp:1<=acc * n:=by have:=Int.mul_le_mul h1 hn (by omega) (by omega);simpa using this
  have hl':=qmz fun a ha=>hl a (qax n ha)
  have h3:acc * n * 1<=acc * n * (qbD l:Nat):=Int.mul_le_mul_of_nonneg_left (by omega) (by omega)
  rw[qdG,qah (by omega)]
  exact qlC l (acc * n) (fun a ha=>hl a (qax _ ha)) hp h
theorem W28 {z zl:Bool} {o ol:Own} {ar l:List Int} (h1:ar.length<=16) (h2:∀ a∈ar,1<=a/\a<=64) {N:Nat} (hN:qdG 300 1 ar=N) (hN2:N<=300):∀ (j i:Nat) (m:Mem) (x:AV) (t:List Int) (T:List Nat),i+j=N->GR 3 m x (t.map (AV.int .i64)) T->t.length=i->(∀ y∈t,0<=y/\y<=4) ->
  ∃ (m':Mem) (x':AV) (t':List Int) (T':List Nat),qsn (IA z o ar) (IA zl ol l) x (.int .i64 i) m (qxz (qbw cfg.P f14.results.toList))=some (x',m')/\GR 3 m' x' (t'.map (AV.int .i64)) T'/\t'.length=N/\∀ y∈t',0<=y/\y<=4:=by
 intro j
 induction j with
 | zero=>
  intro i m x t T hi h ht hy
  refine ⟨m,x,t,T,?_,h,by omega,hy⟩
  rw[qqn,qD5 _ _ _ h1 h2 300 (by omega),oBs,hN,qdc,oBs,qap,qah (by omega),qxA]
 | succ j ih=>
  intro i m x t T hi h ht hy
  have nx:∀ (y:Int),∃ (m':Mem) (x':AV) (t':List Int) (T':List Nat),((qd6 none false 3 none 8 m x (.lst none false .full [.int .i64 ((IntKind.wrap .i64 (y.tmod 5+5)).tmod 5)])).bind fun r13=>qsn (IA z o ar) (IA zl ol l) r13.1 (.int .i64 (i+1:Nat)) r13.2 (qxz (qbw cfg.P f14.results.toList)))=some (x',m')/\GR 3 m' x' (t'.map (AV.int .i64)) T'/\t'.length=N/\∀ y∈t',0<=y/\y<=4:=fun y=>by
   obtain ⟨x1,m1,T1,ea,g1,_,_⟩:=qnP (b:=8) h (by rw[qaE];omega) (by omega) (.int .i64 ((IntKind.wrap .i64 (y.tmod 5+5)).tmod 5))
   rw[ea,oBs]
   have hb:0<=(IntKind.wrap .i64 (y.tmod 5+5)).tmod 5/\(IntKind.wrap .i64 (y.tmod 5+5)).tmod 5<=4:=by
    have a1:=Int.tmod_lt_of_pos y (show (0:Int) < 5 by omega)
    have a2:-5 < y.tmod 5:=by
     have hd:=Int.tmod_add_mul_tdiv y 5
     rcases Int.le_total 0 y with h0 | h0
     ·have:=Int.tmod_nonneg (a:=y) 5 h0;omega
     ·have e:(-y).tmod 5=-(y.tmod 5):=Int.neg_tmod ..
      have:=Int.tmod_lt_of_pos (-y) (show (0:Int) < 5 by omega)
      omega
    rw[qbQ (by omega) (by omega)]
    have b1:=Int.tmod_lt_of_pos (y.tmod 5+5) (show (0:Int) < 5 by omega)
    have b2:=Int.tmod_nonneg (a:=y.tmod 5+5) 5 (by omega)
    omega
   have g2:GR 3 m1 x1 ((t++[(IntKind.wrap .i64 (y.tmod 5+5)).tmod 5]).map (AV.int .i64)) T1:=by
    rw[qcA];exact g1
   exact ih (i+1) m1 x1 _ T1 (by omega) g2 (by simp[ht]) fun k hk=>by
    rcases qaW.1 hk with hk | hk
    ·exact hy k hk
    ·obtain rfl:k=_:=by simpa using hk
     exact hb
  rw[qqn,qD5 _ _ _ h1 h2 300 (by omega),oBs,hN,qdc,oBs,qap,qal (by omega),qeb,oBs,qcB,oBs,qap]
  by_cases hl:(l.length:Int) > 0
  ·rw[qal hl,oBs,qDp (by omega),oBs,qeN (qcO _ (by omega)),oBs,qbs,oBs,qFF,oBs,qc4,oBs,qFF,oBs,qeu,oBs]
   simp only[qbM (show i+1 < 9223372036854775808 by omega)]
   exact nx _
  ·rw[qah hl,qFF,oBs,qc4,oBs,qFF,oBs,qeu,oBs]
   simp only[qbM (show i+1 < 9223372036854775808 by omega)]
   exact nx _
theorem V28 (z zl:Bool) (o ol:Own) (ar l:List Int) (h1:ar.length<=16) (h2:∀ a∈ar,1<=a/\a<=64) {N:Nat} (hN:qdG 300 1 ar=N) (hN2:N<=300):∃ (z':Bool) (o':Own) (t:List Int),AP cfg 14 [IA z o ar,IA zl ol l]=some (IA z' o' t)/\(z'=true->t=[])/\t.length=N/\∀ y∈t,0<=y/\y<=4:=by
 obtain ⟨m',x',t,T',e,g,ht,hy⟩:=W28 (z:=z) (zl:=zl) (o:=o) (ol:=ol) (l:=l) h1 h2 hN hN2 N 0 [] (.lst none true .full []) [] [] (by omega) .none rfl (by simp)
 obtain ⟨z',o',rfl,hz⟩:=qnQ g
 refine ⟨z',o'.fr,t,?_,fun h=>qg4.1 (hz h),ht,hy⟩
 refine qeG (m:=m') (v:=IA z' o' t) (l:=[]) ?_ (qg6 z' o' t m') rfl
 rw[T14]
 exact e
theorem qEA (z:Bool) (o:Own) (t:List Int) (k:IntKind) {n i:Nat} (h:(i+1) * n<=t.length):qf7 none (IA z o t) (some (.int k (i * n:Nat))) (some (.int k ((i+1) * n:Nat))) none=some (IA z .no (part t n i)):=by
 have h2:i * n<=(i+1) * n:=qaS _ (by omega)
 have e:(i+1) * n - i * n=n:=by rw[qbd,qek];omega
 have e2:part t n i=(t.take ((i+1) * n)).drop (i * n):=by rw[List.drop_take,e];rfl
 rw[e2]
 have e3:qf7 none (IA z o t) (some (.int k (i * n:Nat))) (some (.int k ((i+1) * n:Nat))) none=(qdL (List.map (AV.int .i64) t).length (some (.int k ((i+1) * n:Nat))) (List.map (AV.int .i64) t).length).bind fun h=>(qdL h (some (.int k (i * n:Nat))) 0).bind fun l=>some (.lst none z .no (((List.map (AV.int .i64) t).take h).drop l)):=by
  have e4:∀ (es:List AV) (x y:Option AV),qf7 none (.lst none z o es) x y none=if (none:Sh)=none\/es=[] then (qdL es.length y es.length).bind fun h=>(qdL h x 0).bind fun l=>some (.lst none z .no ((es.take h).drop l)) else none:=fun _ _ _=>rfl
  rw[e4,qal (.inl rfl)]
 rw[e3]
 have b1:qdL (List.map (AV.int .i64) t).length (some (.int k ((i+1) * n:Nat))) (List.map (AV.int .i64) t).length=some ((i+1) * n):=by
  simp only[qdL,qaE]
  rw[qal ⟨by omega,by omega⟩,qaQ]
 have b2:qdL ((i+1) * n) (some (.int k (i * n:Nat))) 0=some (i * n):=by
  simp only[qdL]
  rw[qal ⟨by omega,by omega⟩,qaQ]
 rw[b1,oBs,b2,oBs,<- qCe,<- List.map_drop]
def qs0 (s:Nat) (zs za:Bool) (os oa:Own) (ar:List Int) (v n:Nat):Prop:=
 ∀ (m:Mem) (F:List Nat) (l:List ND) (t:List Int) (z:Bool) (o:Own),St8 m s F (IA zs os ar) 4000 l->GoodL ar l->t.length=n->(∀ x∈t,0<=x/\x<=4)->l.length+2 * n<=4000->∃ (m':Mem) (F':List Nat) (r:List ND) (id:Nat),AC cfg 62 [.ptr s 0,IA za oa ar,IA z o t,.int .i64 v] m=some (.tup [.int .i64 (id:Nat),.int .i64 0],m') /\
  St8 m' s F' (IA zs os ar) 4000 (l++r)/\GoodL ar (l++r)/\TabV ar (l++r) id v t/\r.length+1<=2 * t.length/\Fr m m' F/\Gr m F F'
theorem qIT {s:Nat} {zs za z:Bool} {os oa o:Own} {ar t:List Int} {v n a:Nat} (hv:v < ar.length) (ha:ar[v]=(a:Int)) (h1:∀ x∈ar,1<=x/\x<=64) (hal:ar.length<=16) (ht:t.length=a * n) (hn:n=qbD (ar.drop (v+1))) (hn0:1<=n) (htl:t.length<=300) (hx:∀ x∈t,0<=x/\x<=4)
  {l0:List ND} (hl0:l0.length+2 * t.length<=4000) {m0:Mem} {F0:List Nat} (ih:qs0 s zs za os oa ar (v+1) n) :
  ∀ (j k:Nat) (m:Mem) (F:List Nat) (R:List ND) (ids:List Nat) (x:AV) (T:List Nat),k+j=a->St8 m s F (IA zs os ar) 4000 (l0++R)->GoodL ar (l0++R)->ids.length=k->(∀ i (h:i < ids.length),TabV ar (l0++R) ids[i] (v+1) (part t n i))->R.length+k<=2 * n * k ->
   GR 3 m x ((ids.map Int.ofNat).map (AV.int .i64)) T->(∀ y∈T,y∉F/\m0.length<=y)->Fr m0 m F0->Gr m0 F0 F ->
   ∃ (m':Mem) (F':List Nat) (r:List ND) (id:Nat),qsp (.ptr s 0) (IA za oa ar) (IA z o t) (.int .i64 v) x (.int .i64 n) (.int .i64 k) m (qut (qbw cfg.P f62.results.toList))=some (.tup [.int .i64 (id:Nat),.int .i64 0],m') /\
    St8 m' s F' (IA zs os ar) 4000 (l0++r)/\GoodL ar (l0++r)/\TabV ar (l0++r) id v t/\r.length+1<=2 * t.length/\Fr m0 m' F0/\Gr m0 F0 F':=by
 have hab:=h1 _ (qaJ hv)
 have hget:ar.getD v 0=(a:Int):=by rw[qaa,qam hv,qaP,ha]
 have hix:qag none (IA za oa ar) (.int .i64 v)=some (.vptr [.int .i64 a]):=by rw[qeN hv,ha]
 intro j
 induction j with
 | zero=>
  intro k m F R ids x T hk h g hids htab hR hx' hT f gr
  obtain rfl:k=a:=by omega
  obtain ⟨xz,xo,rfl,hxz⟩:=qnQ hx'
  have hb:R.length+k<=2 * t.length:=by rw[ht,qaI k n,<- qaO];exact hR
  have hk':∀ i∈ids,∃ h:i < (l0++R).length,(v:Int) < abv ar.length (l0++R)[i]:=fun i hi=>by
   obtain ⟨q,hq,e⟩:=qbH hi
   have:=htab q hq
   rw[e] at this
   exact ⟨this.lt,by have:=this.top this.lt;omega⟩
  have hll:(l0++R).length < 4000:=by rw[qab];omega
  obtain ⟨r1,id,er,hr1,hr2,g2,tv⟩:=qzQ g h1 hal hv (ks:=ids) (t:=t) (by rw[hids,hget]) (by rw[ht,qgr hv,hget,hn];rfl) (fun q hq=>by rw[<- hn];exact htab q hq) (by omega)
  have mk:qmn ar (l0++R) v (ids.map Int.ofNat)=(((id:Int),0),(l0++R)++r1):=by
   unfold qmn
   rw[qal,er]
   refine ⟨by omega,by omega,by rw[qaQ,hget,qaE,hids],qaV.2 fun q hq=>?_⟩
   obtain ⟨i,hi,rfl⟩:=qbF.1 hq
   obtain ⟨hi1,hi2⟩:=hk' i hi
   unfold qkT
   simp only[qay,qcI]
   refine ⟨⟨qfF i,show (i:Int) < ((l0++R).length:Nat) by omega⟩,?_⟩
   have:(Int.ofNat i).toNat=i:=rfl
   rw[this,qaa,qam hi1,qaP]
   exact hi2
  obtain ⟨m2,F2,e17,k1,k2,k3⟩:=A17 (kz:=xz) (ko:=xo) (ks:=ids.map Int.ofNat) h v (fun hh=>qg4.1 (hxz hh)) h1 hal (by rw[qaE];omega) (by omega) (by omega)
  rw[mk] at e17 k1
  have e17:AC cfg 34 [.ptr s 0,.int .i64 v,.lst none xz xo ((ids.map Int.ofNat).map (AV.int .i64))] m=_:=e17
  refine ⟨m2,F2,R++r1,id,?_,by rw[<- qaL];exact k1,by rw[<- qaL];exact g2,by rw[<- qaL];exact tv,?_,Fr.trans f k2 gr,Gr.trans f.len gr k3⟩
  ·rw[qqH,hix,oBs,qbs,oBs,qdc,oBs,qap,qah (by omega),qyn,e17,oBs]
   rfl
  ·rw[qab]
   by_cases hk1:ids.length=1
   ·rw[hr2 hk1];simp;omega
   ·omega
 | succ j ihj=>
  intro k m F R ids x T hk h g hids htab hR hx' hT f gr
  have hka:k < a:=by omega
  have hkn:(k+1) * n<=t.length:=by rw[ht];exact qaS _ (by omega)
  have hkn0:k * n<=(k+1) * n:=qaS _ (by omega)
  have hpl:(part t n k).length=n:=part_len ht hka
  have hR2:R.length+k+2 * n<=2 * t.length:=by
   have:2 * n * k+2 * n<=2 * t.length:=by
    have e:2 * n * k+2 * n=2 * ((k+1) * n):=by rw[qbd,qek,qa8,qaO,qaI n k]
    omega
   omega
  obtain ⟨m1,F1,r1,id,e30,k1,k2,k3,k4,k5,k6⟩:=ih m F (l0++R) (part t n k) z .no h g hpl (fun y hy=>hx y (qzB y hy)) (by rw[qab];omega)
  rw[hpl] at k4
  have g1:GR 3 m1 x ((ids.map Int.ofNat).map (AV.int .i64)) T:=qvL hx' fun y hy=>k5.get y (qDa hx' y hy) (hT y hy).1
  obtain ⟨x2,m2,T2,ea,g2,f2,gg2⟩:=qnP (b:=8) g1 (by simp;omega) (by omega) (.int .i64 (id:Nat))
  have hTF1:∀ y∈T,y∉F1:=fun y hy hF=>by
   rcases k6 y hF with hh | hh
   ·exact (hT y hy).1 hh
   ·have:=qDa hx' y hy;omega
  have st2:St8 m2 s F1 (IA zs os ar) 4000 (l0++(R++r1)):=by
   rw[<- qaL]
   exact k1.fr f2 fun y hy hT'=>hTF1 y hT' hy
  have e0:qsp (.ptr s 0) (IA za oa ar) (IA z o t) (.int .i64 v) x (.int .i64 n) (.int .i64 k) m (qut (qbw cfg.P f62.results.toList))=qsp (.ptr s 0) (IA za oa ar) (IA z o t) (.int .i64 v) x2 (.int .i64 n) (.int .i64 (k+1:Nat)) m2 (qut (qbw cfg.P f62.results.toList)):=by
   rw[qqH,hix,oBs,qbs,oBs,qdc,oBs,qap,qal hka,qE6 (by omega),oBs,qbM (by omega),oBs,qE6 (by omega),oBs,qEA z o t .i64 hkn,oBs,qbM (by omega),oBs,e30,oBs,ex0,oBs,ex1,oBs,qcW,oBs,qap,qah (by simp),qeu,oBs,ea,oBs,oBs]
  rw[e0]
  refine ihj (k+1) m2 F1 (R++r1) (ids++[id]) x2 T2 (by omega) st2 (by rw[<- qaL];exact k2) (by simp[hids]) (fun i hi=>?_) ?_ (by rw[qcA,qcA];exact g2) (fun y hy=>?_) (Fr.trans (Fr.trans f k5 gr) f2 fun y hy=>.inr (hT y hy).2) (Gr.trans f.len gr k6)
  ·rw[<- qaL]
   by_cases hi2:i < ids.length
   ·rw[List.getElem_append_left hi2]
    exact (htab i hi2).app g r1
   ·have:i=ids.length:=by simp at hi;omega
    subst this
    have e:(ids++[id])[ids.length]'(by simp)=id:=by simp
    rw[e,hids]
    exact k3
  ·rw[qab,qa8,qc1];omega
  ·rcases gg2 y hy with hh | hh
   ·exact ⟨hTF1 y hh,(hT y hh).2⟩
   ·have l1:=f.len;have l2:=k5.len
    exact ⟨fun hF=>by have:=k1.lt y hF;omega,by omega⟩
theorem A30 {s:Nat} {zs za:Bool} {os oa:Own} {ar:List Int} (h1:∀ x∈ar,1<=x/\x<=64) (hal:ar.length<=16) (hp:qbD ar<=300):∀ (d v:Nat),v+d=ar.length->qbD (ar.drop v)<=300->qs0 s zs za os oa ar v (qbD (ar.drop v)):=by
 intro d
 induction d with
 | zero=>
  intro v hv hpv m F l t z o h g ht hx hl
  obtain rfl:v=ar.length:=by omega
  rw[List.drop_length] at ht hl
  have ht:t.length=1:=ht
  obtain ⟨y,rfl⟩:∃ y,t=[y]:=List.length_eq_one_iff.1 ht
  have hy:=hx y (by simp)
  have hl:l.length+2<=4000:=hl
  obtain ⟨r,er,hr,g2,tv⟩:=qsC g (x:=y) ⟨hy.1,by omega⟩
  obtain ⟨m2,F2,e15,k1,k2,k3⟩:=A15 h y (by omega) (by omega)
  rw[qmk,qal ⟨hy.1,by omega⟩] at e15 k1
  dsimp only at e15 k1
  rw[er] at k1
  refine ⟨m2,F2,r,_,?_,k1,g2,tv,by simp;omega,k2,k3⟩
  rw[T62,qeb,oBs,qv5,oBs,qap,qal rfl,qpl (by simp),oBs,qbs,oBs]
  have e15:AC cfg 33 [.ptr s 0,.int .i64 [y][0]] m=_:=e15
  rw[e15,oBs]
  rfl
 | succ d ih=>
  intro v hv hpv m F l t z o h g ht hx hl
  have hvl:v < ar.length:=by omega
  have hab:=h1 _ (qaJ hvl)
  obtain ⟨a,ha⟩:=qc0 (by omega:0<=ar[v])
  have hget:ar.getD v 0=(a:Int):=by rw[qaa,qam hvl,qaP,ha]
  have hps:qbD (ar.drop v)=a * qbD (ar.drop (v+1)):=by rw[qgr hvl,hget];rfl
  have hn0:1<=qbD (ar.drop (v+1)):=qmz fun x hx=>(h1 x (List.drop_subset _ _ hx)).1
  have hle:qbD (ar.drop (v+1))<=qbD (ar.drop v):=by
   rw[hps];exact Nat.le_mul_of_pos_left _ (by omega)
  have ihv:=ih (v+1) (by omega) (by omega)
  have hta:t.length=a * qbD (ar.drop (v+1)):=by rw[ht,hps]
  obtain ⟨m',F',r,id,e,k⟩:=qIT (z:=z) (o:=o) (m0:=m) (F0:=F) hvl ha h1 hal hta rfl hn0 (by omega) hx (l0:=l) (by omega) ihv a 0 m F [] [] (.lst none true .full []) [] (by omega) (by rw[qav];exact h) (by rw[qav];exact g) rfl (fun i hi=>by simp at hi) (by simp) .none (by simp) (Fr.refl _ _) (Gr.refl _ _)
  refine ⟨m',F',r,id,?_,k⟩
  have hix:qag none (IA za oa ar) (.int .i64 v)=some (.vptr [.int .i64 a]):=by rw[qeN hvl,ha]
  have hdiv:t.length / a=qbD (ar.drop (v+1)):=by rw[hta,Nat.mul_div_cancel_left _ (by omega)]
  rw[T62,qeb,oBs,qv5,oBs,qap,qah (by omega),qeb,oBs,hix,oBs,qbs,oBs,qE8 (by omega) (by omega),oBs,hdiv]
  exact e
theorem A29 {za z:Bool} {oa o:Own} {ar t:List Int} (m:Mem) (hz:za=true->ar=[]) (he:qhH ar=0) (hp:qbD ar<=300) (ht:t.length=qbD ar) (hx:∀ x∈t,0<=x/\x<=4) :
  ∃ m' s F zs os l id,AC cfg 15 [IA za oa ar,IA z o t] m=some (.tup [.ptr s 0,.int .i64 (id:Nat),.bool true],m')/\St8 m' s F (IA zs os ar) 4000 l/\GoodL ar l/\TabV ar l id 0 t/\l.length<=600/\Fr m m' []/\∀ x∈F,m.length<=x:=by
 obtain ⟨h1,h2⟩:=qhs he
 obtain ⟨m1,s,F,zs,os,e14,st,f1,hF⟩:=A14 m za oa ar hz he
 obtain ⟨m2,F2,r,id,e30,k1,k2,k3,k4,k5,k6⟩:=A30 (s:=s) (zs:=zs) (za:=za) (os:=os) (oa:=oa) h2 h1 hp ar.length 0 (by omega) hp m1 F [] t z o st qzh ht hx (by simp;have:qbD (ar.drop 0)=qbD ar:=rfl;omega)
 rw[qaw] at k1 k2 k3
 have e30:AC cfg 62 [.ptr s 0,IA za oa ar,IA z o t,.int .i64 0] m1=_:=e30
 refine ⟨m2,s,F2,zs,os,r,id,?_,k1,k2,k3,by omega,(Fr.trans f1 k5 fun x hx=>.inr (hF x hx)),fun x hx=>?_⟩
 ·rw[T15,e14,oBs,ex0,oBs,ex1,oBs,qcW,oBs,qap,qah (by simp),e30,oBs]
  rfl
 ·rcases k6 x hx with hh | hh
  ·exact hF x hh
  ·have:=f1.len;omega
end Go.Ab

/- What the interpreter does, function by function. -/
set_option maxRecDepth 100000
namespace Go.Ab
open Go.Proofs.Tryz
def qCi (m:Mem):St:=⟨(qdR (qd7 (yA2 []))),m⟩
def qu3 (x4:AV) (m:Mem):St:=⟨(yA4 (x4::qdR (yA8 (yA4 (yA1 []))))),m⟩
noncomputable def qyD (x0 x15 x16 x17:AV) (m:Mem) (K:KT):OM:=qbq (qaM cfg 18 (AP cfg) (AC cfg) (c1 (c1 (c2 (c1 (c2 (c2 (qaq f18)))))))) (cfg.mask 18 (some 4)) ⟨(x0::yA8 (yA4 (yA2 (x15::x16::x17::qdR [])))),m⟩ K
def qCj (x0 x5 x6 x7 x15 x16 x17:AV) (m:Mem):St:=⟨(x0::yA4 (x5::x6::x7::yA4 (yA2 (yA1 (x15::x16::x17::qdR []))))),m⟩
def qyS (x4:AV) (m:Mem):St:=⟨(yA4 (x4::qdR (yA8 (yA4 (yA1 []))))),m⟩
noncomputable def qyE (x0 x5 x6 x7 x15 x16 x17 x22 x23 x24:AV) (m:Mem) (K:KT):OM:=qbq (qaM cfg 18 (AP cfg) (AC cfg) (c1 (c1 (c2 (c1 (c2 (c2 (c1 (c1 (c2 (c2 (c1 (c1 (c2 (c1 (c2 (c2 (qaq f18)))))))))))))))))) (cfg.mask 18 (some 8)) ⟨(x0::yA4 (x5::x6::x7::yA4 (yA2 (yA1 (x15::x16::x17::yA4 (x22::x23::x24::qd7 (yA8 (yA1 [])))))))),m⟩ K
noncomputable abbrev qBq (K:KT):KT:=qdH (fun st=>qaM cfg 18 (AP cfg) (AC cfg) (c2 (c2 (c2 (qaq f18)))) st K) K
noncomputable abbrev qBr (K:KT):KT:=qbb 0 (qBq K)
noncomputable abbrev qBp (K:KT):KT:=(qBr K)
noncomputable abbrev qBs (K:KT):KT:=qdH (fun st=>qaM cfg 18 (AP cfg) (AC cfg) (c2 (c2 (c2 (c1 (c1 (c2 (c1 (c2 (c2 (qaq f18)))))))))) st (qcQ (fun st=>qbq (qaM cfg 18 (AP cfg) (AC cfg) (c1 (c1 (c2 (c1 (c2 (c2 (qaq f18)))))))) (cfg.mask 18 (some 4)) st K) (cfg.mask 18 (some 4)) K)) (qcQ (fun st=>qbq (qaM cfg 18 (AP cfg) (AC cfg) (c1 (c1 (c2 (c1 (c2 (c2 (qaq f18)))))))) (cfg.mask 18 (some 4)) st K) (cfg.mask 18 (some 4)) K)
noncomputable abbrev quh (K:KT):KT:=qbb 1 (qBs K)
noncomputable abbrev qBt (K:KT):KT:=qdH (fun st=>qaM cfg 18 (AP cfg) (AC cfg) (c2 (c2 (c2 (c1 (c1 (c2 (c2 (c1 (c1 (c2 (c1 (c2 (c2 (qaq f18)))))))))))))) st (quh K)) (quh K)
noncomputable abbrev qBu (K:KT):KT:=qbb 2 (qBt K)
noncomputable abbrev qx5 (K:KT):KT:=(qBu K)
theorem T18 (a0 a1:AV) (m:Mem):AC cfg 18 [a0,a1] m =
 (qbY false a1).bind fun v1=>
 (qbY false a0).bind fun v2=>
 (qaz .other .neq v1 v2).bind fun v3=>
 ifA v3 (
 some ((.bool false),m)) (
 (qbY false a1).bind fun v4=>
 qyD a0 a1 v4 (.int .i64 0) m (qBp (qbw cfg.P f18.results.toList))):=
(qbx cfg 18 [a0,a1] m (fn:=f18) (c:=qaq f18) qI8 rfl).trans (by kernel_rfl)
theorem qqv (x0 x15 x16 x17:AV) (m:Mem) (K:KT):qyD x0 x15 x16 x17 m K =
 (qaz .other .lss x17 x16).bind fun v1=>
 ifA v1 (
 (qag none x15 x17).bind fun v2=>
 (qat none m v2).bind fun v3=>
 (qbY false v3).bind fun v4=>
 qyE x0 x17 v3 (.int .i64 0) x15 x16 x17 v3 v4 (.int .i64 0) m (qx5 K)) (
 K (.exit 0) (qCi m)):=
(qa3 (qaT _) _ _ _).trans (by kernel_rfl)
theorem qqw (x0 x5 x6 x7 x15 x16 x17 x22 x23 x24:AV) (m:Mem) (K:KT):qyE x0 x5 x6 x7 x15 x16 x17 x22 x23 x24 m K =
 (qaz .other .lss x24 x23).bind fun v1=>
 ifA v1 (
 (qag none x22 x24).bind fun v2=>
 (qat none m v2).bind fun v3=>
 (qaz .other .lss v3 (.int .i64 0)).bind fun v4=>
 ifA v4 (
 K .ret (qyS (.bool false) m)) (
 (qaz .other .gtr v3 (.int .i64 1000)).bind fun v5=>
 ifA v5 (
 K .ret (qyS (.bool false) m)) (
 (qaz .other .add x7 v3).bind fun v6=>
 (qaz .other .add x24 (.int .i64 1)).bind fun v7=>
 qyE x0 x5 x6 v6 x15 x16 x17 x22 x23 v7 m K))) (
 K (.exit 2) (qCj x0 x5 x6 x7 x15 x16 x17 m)):=
(qa3 (qaT _) _ _ _).trans (by kernel_rfl)
theorem qx4 (m:Mem):qBp (qbw cfg.P f18.results.toList) (.exit 0) (qCi  m) =
 some ((.bool true),m):=by kernel_rfl
theorem qug (x4:AV) (m:Mem):qBp (qbw cfg.P f18.results.toList) .ret (qu3 x4 m) =
 some (x4,m):=by kernel_rfl
theorem qx6 (x0 x5 x6 x7 x15 x16 x17:AV) (m:Mem) (K:KT):qx5 K (.exit 2) (qCj x0 x5 x6 x7 x15 x16 x17 m) =
 (qbY false x6).bind fun v1=>
 (qag none x0 x5).bind fun v2=>
 (qat none m v2).bind fun v3=>
 (qaz .other .neq v1 v3).bind fun v4=>
 ifA v4 (
 K .ret (qu3 (.bool false) m)) (
 (qaz .other .eql x7 (.int .i64 0)).bind fun v5=>
 ifA v5 (
 K .ret (qu3 (.bool false) m)) (
 (qaz .other .add x17 (.int .i64 1)).bind fun v6=>
 qyD x0 x15 x16 v6 m K)):=by kernel_rfl
theorem qui (x4:AV) (m:Mem) (K:KT):qx5 K .ret (qyS x4 m) =
 K .ret (qu3 x4 m):=by kernel_rfl
def qCk (x7:AV) (m:Mem):St:=⟨(yA4 (yA2 (yA1 (x7::qdR (yA8 (yA1 [])))))),m⟩
noncomputable def quE (x0 x1 x2 x7 x14 x15 x16:AV) (m:Mem) (K:KT):OM:=qbq (qaM cfg 19 (AP cfg) (AC cfg) (c1 (c1 (c2 (c1 (c2 (c2 (qaq f19)))))))) (cfg.mask 19 (some 3)) ⟨(x0::x1::x2::yA4 (x7::yA4 (yA2 (x14::x15::x16::qdR [])))),m⟩ K
def qCl (x0 x1 x2 x7 x9 x10 x14 x15 x16:AV) (m:Mem):St:=⟨(x0::x1::x2::yA4 (x7::yA1 (x9::x10::yA2 (yA1 (x14::x15::x16::qdR []))))),m⟩
noncomputable def qlT (x0 x1 x2 x7 x9 x10 x14 x15 x16 x22 x23 x24:AV) (m:Mem) (K:KT):OM:=qbq (qaM cfg 19 (AP cfg) (AC cfg) (c1 (c1 (c2 (c1 (c2 (c2 (c1 (c1 (c2 (c2 (c1 (c1 (c2 (c1 (c2 (c2 (qaq f19)))))))))))))))))) (cfg.mask 19 (some 7)) ⟨(x0::x1::x2::yA4 (x7::yA1 (x9::x10::yA2 (yA1 (x14::x15::x16::yA4 (yA1 (x22::x23::x24::qd7 (yA8 [])))))))),m⟩ K
noncomputable abbrev qBv (K:KT):KT:=qdH (fun st=>qaM cfg 19 (AP cfg) (AC cfg) (c2 (c2 (c2 (qaq f19)))) st K) K
noncomputable abbrev qBw (K:KT):KT:=qbb 0 (qBv K)
noncomputable abbrev qx7 (K:KT):KT:=(qBw K)
noncomputable abbrev qBx (K:KT):KT:=qdH (fun st=>qaM cfg 19 (AP cfg) (AC cfg) (c2 (c2 (c2 (c1 (c1 (c2 (c1 (c2 (c2 (qaq f19)))))))))) st (qcQ (fun st=>qbq (qaM cfg 19 (AP cfg) (AC cfg) (c1 (c1 (c2 (c1 (c2 (c2 (qaq f19)))))))) (cfg.mask 19 (some 3)) st K) (cfg.mask 19 (some 3)) K)) (qcQ (fun st=>qbq (qaM cfg 19 (AP cfg) (AC cfg) (c1 (c1 (c2 (c1 (c2 (c2 (qaq f19)))))))) (cfg.mask 19 (some 3)) st K) (cfg.mask 19 (some 3)) K)
noncomputable abbrev quj (K:KT):KT:=qbb 1 (qBx K)
noncomputable abbrev qBy (K:KT):KT:=qdH (fun st=>qaM cfg 19 (AP cfg) (AC cfg) (c2 (c2 (c2 (c1 (c1 (c2 (c2 (c1 (c1 (c2 (c1 (c2 (c2 (qaq f19)))))))))))))) st (quj K)) (quj K)
noncomputable abbrev qBz (K:KT):KT:=qbb 2 (qBy K)
noncomputable abbrev qx9 (K:KT):KT:=(qBz K)
theorem T19 (a0 a1 a2:AV) (m:Mem):AC cfg 19 [a0,a1,a2] m =
 (qaN (AP cfg) none m 58 [a1]).bind fun r1=>
 (qbY false r1.1).bind fun v2=>
 quE a0 a1 a2 (.lst none true .full []) r1.1 v2 (.int .i64 0) r1.2 (qx7 (qbw cfg.P f19.results.toList)):=
(qbx cfg 19 [a0,a1,a2] m (fn:=f19) (c:=qaq f19) qI9 rfl).trans (by kernel_rfl)
theorem qqx (x0 x1 x2 x7 x14 x15 x16:AV) (m:Mem) (K:KT):quE x0 x1 x2 x7 x14 x15 x16 m K =
 (qaz .other .lss x16 x15).bind fun v1=>
 ifA v1 (
 (qag none x14 x16).bind fun v2=>
 (qat none m v2).bind fun v3=>
 (qaN (AP cfg) none m 20 []).bind fun r4=>
 (qaR (some 3) (qaH none r4.2 (.obj true [(.bool false),(.lst none true .full []),(.lst none true .full [])])).2 (.ptr (qaH none r4.2 .resv).1 0) r4.1).bind fun m5=>
 (qaN (AP cfg) none m5 54 [x0]).bind fun r6=>
 (qbY false r6.1).bind fun v7=>
 qlT x0 x1 x2 x7 v3 (.ptr (qaH none r4.2 .resv).1 0) x14 x15 x16 r6.1 v7 (.int .i64 0) r6.2 (qx9 K)) (
 K (.exit 0) (qCk x7 m)):=
(qa3 (qaT _) _ _ _).trans (by kernel_rfl)
theorem qqy (x0 x1 x2 x7 x9 x10 x14 x15 x16 x22 x23 x24:AV) (m:Mem) (K:KT):qlT x0 x1 x2 x7 x9 x10 x14 x15 x16 x22 x23 x24 m K =
 (qaz .other .lss x24 x23).bind fun v1=>
 ifA v1 (
 (qag none x22 x24).bind fun v2=>
 (qat none m v2).bind fun v3=>
 (qag none x1 x24).bind fun v4=>
 (qat none m v4).bind fun v5=>
 (qaz .other .eql v5 x9).bind fun v6=>
 ifA v6 (
 (qat (some 3) m x10).bind fun v7=>
 (qaN (AP cfg) (some m.length) m 55 [x2,v3]).bind fun r8=>
 (qaN (AP cfg) (some m.length) r8.2 22 [v7,r8.1]).bind fun r9=>
 (qaR (some 3) r9.2 x10 r9.1).bind fun m10=>
 (qaz .other .add x24 (.int .i64 1)).bind fun v11=>
 qlT x0 x1 x2 x7 x9 x10 x14 x15 x16 x22 x23 v11 m10 K) (
 (qaz .other .add x24 (.int .i64 1)).bind fun v12=>
 qlT x0 x1 x2 x7 x9 x10 x14 x15 x16 x22 x23 v12 m K)) (
 K (.exit 2) (qCl x0 x1 x2 x7 x9 x10 x14 x15 x16 m)):=
(qa3 (qaT _) _ _ _).trans (by kernel_rfl)
theorem qx8 (x7:AV) (m:Mem):qx7 (qbw cfg.P f19.results.toList) (.exit 0) (qCk x7 m) =
 some (x7,m):=by kernel_rfl
theorem qya (x0 x1 x2 x7 x9 x10 x14 x15 x16:AV) (m:Mem) (K:KT):qx9 K (.exit 2) (qCl x0 x1 x2 x7 x9 x10 x14 x15 x16 m) =
 (qat (some 3) m x10).bind fun v1=>
 (qdz (.agg [(.int .i64 0),(.bool false),(.lst none true .full []),(.lst none true .full [])]) [(0,none,x9),(1,(some 3),v1)]).bind fun v2=>
 (qaY (some 4) [v2]).bind fun v3=>
 (qd6 none false 47 (some 4) 64 m x7 v3).bind fun r4=>
 (qaz .other .add x16 (.int .i64 1)).bind fun v5=>
 quE x0 x1 x2 r4.1 x14 x15 v5 r4.2 K:=by kernel_rfl
def qEj (x3:AV) (m:Mem):St:=⟨(yA2 (yA1 (x3::yA8 (yA4 (yA2 []))))),m⟩
noncomputable def qyF (x0 x3 x4:AV) (m:Mem) (K:KT):OM:=qbq (qaM cfg 54 (AP cfg) (AC cfg) (c1 (c1 (c2 (c1 (c2 (c2 (qaq f54)))))))) (cfg.mask 54 (some 3)) ⟨(x0::yA2 (x3::x4::yA8 (yA4 (yA1 [])))),m⟩ K
noncomputable abbrev qBD (K:KT):KT:=qdH (fun st=>qaM cfg 54 (AP cfg) (AC cfg) (c2 (c2 (c2 (qaq f54)))) st K) K
noncomputable abbrev qBE (K:KT):KT:=qbb 0 (qBD K)
noncomputable abbrev qBC (K:KT):KT:=(qBE K)
theorem T54 (a0:AV) (m:Mem):AC cfg 54 [a0] m =
 qyF a0 (.lst none true .full []) (.int .i64 0) m (qBC (qbw cfg.P f54.results.toList)):=
(qbx cfg 54 [a0] m (fn:=f54) (c:=qaq f54) qJj rfl).trans (by kernel_rfl)
theorem qqD (x0 x3 x4:AV) (m:Mem) (K:KT):qyF x0 x3 x4 m K =
 (qaN (AP cfg) none m 12 [x0,(.int .i64 1048576)]).bind fun r1=>
 (qaz .other .lss x4 r1.1).bind fun v2=>
 ifA v2 (
 (AC cfg 115 [x0,x4] r1.2).bind fun r3=>
 (qaY none [r3.1]).bind fun v4=>
 (qd6 none true 22 none 24 r3.2 x3 v4).bind fun r5=>
 (qaz .other .add x4 (.int .i64 1)).bind fun v6=>
 qyF x0 r5.1 v6 r5.2 K) (
 K (.exit 0) (qEj x3 r1.2)):=
(qa3 (qaT _) _ _ _).trans (by kernel_rfl)
theorem qyi (x3:AV) (m:Mem):qBC (qbw cfg.P f54.results.toList) (.exit 0) (qEj x3 m) =
 some (x3,m):=by kernel_rfl
def qCn (x4 x5:AV) (m:Mem):St:=⟨(yA4 (x4::x5::qdR (yA8 (yA2 [])))),m⟩
noncomputable def quG (x1 x4 x5 x14 x15 x16:AV) (m:Mem) (K:KT):OM:=qbq (qaM cfg 55 (AP cfg) (AC cfg) (c1 (c1 (c2 (c1 (c2 (c2 (qaq f55)))))))) (cfg.mask 55 (some 3)) ⟨(yA1 (x1::yA2 (x4::x5::yA8 (x14::x15::x16::qd7 (yA8 (yA4 (yA2 (yA1 [])))))))),m⟩ K
def qCo (x1 x4 x5 x6 x7 x8 x14 x15 x16:AV) (m:Mem):St:=⟨(yA1 (x1::yA2 (x4::x5::x6::x7::x8::yA4 (yA1 (x14::x15::x16::qd7 (yA8 (yA4 (yA2 (yA1 []))))))))),m⟩
noncomputable def quH (x1 x4 x5 x6 x7 x8 x14 x15 x16 x21 x22 x23:AV) (m:Mem) (K:KT):OM:=qbq (qaM cfg 55 (AP cfg) (AC cfg) (c1 (c1 (c2 (c1 (c2 (c2 (c1 (c1 (c2 (c2 (c1 (c1 (c2 (c1 (c2 (c2 (qaq f55)))))))))))))))))) (cfg.mask 55 (some 7)) ⟨(yA1 (x1::yA2 (x4::x5::x6::x7::x8::yA4 (yA1 (x14::x15::x16::yA4 (x21::x22::x23::qd7 (yA8 []))))))),m⟩ K
noncomputable abbrev qBF (K:KT):KT:=qdH (fun st=>qaM cfg 55 (AP cfg) (AC cfg) (c2 (c2 (c2 (qaq f55)))) st K) K
noncomputable abbrev qBG (K:KT):KT:=qbb 0 (qBF K)
noncomputable abbrev qyj (K:KT):KT:=(qBG K)
noncomputable abbrev qBH (K:KT):KT:=qdH (fun st=>qaM cfg 55 (AP cfg) (AC cfg) (c2 (c2 (c2 (c1 (c1 (c2 (c1 (c2 (c2 (qaq f55)))))))))) st (qcQ (fun st=>qbq (qaM cfg 55 (AP cfg) (AC cfg) (c1 (c1 (c2 (c1 (c2 (c2 (qaq f55)))))))) (cfg.mask 55 (some 3)) st K) (cfg.mask 55 (some 3)) K)) (qcQ (fun st=>qbq (qaM cfg 55 (AP cfg) (AC cfg) (c1 (c1 (c2 (c1 (c2 (c2 (qaq f55)))))))) (cfg.mask 55 (some 3)) st K) (cfg.mask 55 (some 3)) K)
noncomputable abbrev quq (K:KT):KT:=qbb 1 (qBH K)
noncomputable abbrev qBI (K:KT):KT:=qdH (fun st=>qaM cfg 55 (AP cfg) (AC cfg) (c2 (c2 (c2 (c1 (c1 (c2 (c2 (c1 (c1 (c2 (c1 (c2 (c2 (qaq f55)))))))))))))) st (quq K)) (quq K)
noncomputable abbrev qBJ (K:KT):KT:=qbb 2 (qBI K)
noncomputable abbrev qyl (K:KT):KT:=(qBJ K)
theorem T55 (a0 a1:AV) (m:Mem):AC cfg 55 [a0,a1] m =
 (qaN (AP cfg) none (qaH none m (.obj true [(.bool false),(.lst none true .full []),(.lst none true .full [])])).2 23 []).bind fun r1=>
 (qaR (some 3) (qaH none r1.2 (.obj true [(.bool false),(.lst none true .full []),(.lst none true .full [])])).2 (.ptr (qaH none r1.2 .resv).1 0) r1.1).bind fun m2=>
 (qbY false a0).bind fun v3=>
 quG a1 (.ptr (qaH none m .resv).1 0) (.ptr (qaH none r1.2 .resv).1 0) a0 v3 (.int .i64 0) m2 (qyj (qbw cfg.P f55.results.toList)):=
(qbx cfg 55 [a0,a1] m (fn:=f55) (c:=qaq f55) qJk rfl).trans (by kernel_rfl)
theorem qqE (x1 x4 x5 x14 x15 x16:AV) (m:Mem) (K:KT):quG x1 x4 x5 x14 x15 x16 m K =
 (qaz .other .lss x16 x15).bind fun v1=>
 ifA v1 (
 (qag none x14 x16).bind fun v2=>
 (qat none m v2).bind fun v3=>
 (qbY false v3).bind fun v4=>
 quH x1 x4 x5 x16 v3 (.int .i64 0) x14 x15 x16 v3 v4 (.int .i64 0) m (qyl K)) (
 K (.exit 0) (qCn x4 x5 m)):=
(qa3 (qaT _) _ _ _).trans (by kernel_rfl)
theorem qqF (x1 x4 x5 x6 x7 x8 x14 x15 x16 x21 x22 x23:AV) (m:Mem) (K:KT):quH x1 x4 x5 x6 x7 x8 x14 x15 x16 x21 x22 x23 m K =
 (qaz .other .lss x23 x22).bind fun v1=>
 ifA v1 (
 (qag none x21 x23).bind fun v2=>
 (qat none m v2).bind fun v3=>
 (qaz .other .add x8 v3).bind fun v4=>
 (qaz .other .add x23 (.int .i64 1)).bind fun v5=>
 quH x1 x4 x5 x6 x7 v4 x14 x15 x16 x21 x22 v5 m K) (
 K (.exit 2) (qCo x1 x4 x5 x6 x7 x8 x14 x15 x16 m)):=
(qa3 (qaT _) _ _ _).trans (by kernel_rfl)
theorem qyk (x4 x5:AV) (m:Mem):qyj (qbw cfg.P f55.results.toList) (.exit 0) (qCn x4 x5 m) =
 (qat (some 3) m x5).bind fun v1=>
 (qaR (some 3) m x4 v1).bind fun m2=>
 (qat (some 3) m2 x4).bind fun v3=>
 some (v3,m2):=by kernel_rfl
theorem qym (x1 x4 x5 x6 x7 x8 x14 x15 x16:AV) (m:Mem) (K:KT):qyl K (.exit 2) (qCo x1 x4 x5 x6 x7 x8 x14 x15 x16 m) =
 (qag none x1 x6).bind fun v1=>
 (qat none m v1).bind fun v2=>
 (qag none x7 v2).bind fun v3=>
 (qat none m v3).bind fun v4=>
 (qaN (AP cfg) none m 116 [v4,x8]).bind fun r5=>
 (qaF r5.1 0).bind fun v6=>
 (qaF r5.1 1).bind fun v7=>
 (qaR (some 3) (qaH none r5.2 (.obj true [(.bool false),(.lst none true .full []),(.lst none true .full [])])).2 (.ptr (qaH none r5.2 .resv).1 0) v6).bind fun m8=>
 (qat (some 3) m8 x5).bind fun v9=>
 (qat (some 3) m8 (.ptr (qaH none r5.2 .resv).1 0)).bind fun v10=>
 (qaN (AP cfg) none m8 117 [v9,v10]).bind fun r11=>
 (qaR (some 3) r11.2 x5 r11.1).bind fun m12=>
 (qaz .other .add x16 (.int .i64 1)).bind fun v13=>
 quG x1 x4 x5 x14 x15 v13 m12 K:=by kernel_rfl
def qEn (x2:AV) (m:Mem):St:=⟨(yA2 (x2::qdR (yA8 (yA2 [])))),m⟩
noncomputable def qoS (x0 x3:AV) (m:Mem) (K:KT):OM:=qbq (qaM cfg 58 (AP cfg) (AC cfg) (c1 (c1 (c2 (c2 (qaq f58)))))) (cfg.mask 58 (some 2)) ⟨(x0::yA2 (x3::qdR (yA8 (yA1 [])))),m⟩ K
def qsr (x0 x3 x4 x5:AV) (m:Mem):St:=⟨(x0::yA2 (x3::x4::x5::qdR (yA4 (yA2 (yA1 []))))),m⟩
noncomputable def qiK (x0 x3 x4 x5 x8 x9 x10:AV) (m:Mem) (K:KT):OM:=qbq (qaM cfg 58 (AP cfg) (AC cfg) (c1 (c1 (c2 (c1 (c2 (c1 (c1 (c1 (c2 (c2 (qaq f58)))))))))))) (cfg.mask 58 (some 4)) ⟨(x0::yA2 (x3::x4::x5::yA2 (x8::x9::x10::qdR (yA2 [])))),m⟩ K
noncomputable abbrev qBK (K:KT):KT:=qbb 0 K
noncomputable abbrev qlM (K:KT):KT:=(qBK K)
noncomputable abbrev qus (K:KT):KT:=qbb 1 (qcQ (fun st=>qbq (qaM cfg 58 (AP cfg) (AC cfg) (c1 (c1 (c2 (c2 (qaq f58)))))) (cfg.mask 58 (some 2)) st K) (cfg.mask 58 (some 2)) K)
noncomputable abbrev qBL (K:KT):KT:=qdH (fun st=>qaM cfg 58 (AP cfg) (AC cfg) (c2 (c2 (c1 (c1 (c1 (c2 (c2 (qaq f58)))))))) st (qus K)) (qus K)
noncomputable abbrev qBM (K:KT):KT:=qbb 2 (qBL K)
noncomputable abbrev qkO (K:KT):KT:=(qBM K)
theorem T58 (a0:AV) (m:Mem):AC cfg 58 [a0] m =
 qoS a0 (.lst none true .full []) m (qlM (qbw cfg.P f58.results.toList)):=
(qbx cfg 58 [a0] m (fn:=f58) (c:=qaq f58) qJm rfl).trans (by kernel_rfl)
theorem qyG (x0 x3:AV) (m:Mem) (K:KT):qoS x0 x3 m K =
 (qbY false x0).bind fun v1=>
 qiK x0 x3 (.int .i64 0) (.bool false) x0 v1 (.int .i64 0) m (qkO K):=
(qa3 (qaT _) _ _ _).trans (by kernel_rfl)
theorem qqG (x0 x3 x4 x5 x8 x9 x10:AV) (m:Mem) (K:KT):qiK x0 x3 x4 x5 x8 x9 x10 m K =
 (qaz .other .lss x10 x9).bind fun v1=>
 ifA v1 (
 (qag none x8 x10).bind fun v2=>
 (qat none m v2).bind fun v3=>
 (qbY false x3).bind fun v4=>
 (qaz .other .eql v4 (.int .i64 0)).bind fun v5=>
 ifA v5 (
 (unA .not x5).bind fun v6=>
 ifA v6 (
 (qaz .other .add x10 (.int .i64 1)).bind fun v7=>
 qiK x0 x3 v3 (.bool true) x8 x9 v7 m K) (
 (qaz .other .lss v3 x4).bind fun v8=>
 ifA v8 (
 (qaz .other .add x10 (.int .i64 1)).bind fun v9=>
 qiK x0 x3 v3 (.bool true) x8 x9 v9 m K) (
 (qaz .other .add x10 (.int .i64 1)).bind fun v10=>
 qiK x0 x3 x4 x5 x8 x9 v10 m K))) (
 (qbY false x3).bind fun v11=>
 (qaz .other .sub v11 (.int .i64 1)).bind fun v12=>
 (qag none x3 v12).bind fun v13=>
 (qat none m v13).bind fun v14=>
 (qaz .other .gtr v3 v14).bind fun v15=>
 ifA v15 (
 (unA .not x5).bind fun v16=>
 ifA v16 (
 (qaz .other .add x10 (.int .i64 1)).bind fun v17=>
 qiK x0 x3 v3 (.bool true) x8 x9 v17 m K) (
 (qaz .other .lss v3 x4).bind fun v18=>
 ifA v18 (
 (qaz .other .add x10 (.int .i64 1)).bind fun v19=>
 qiK x0 x3 v3 (.bool true) x8 x9 v19 m K) (
 (qaz .other .add x10 (.int .i64 1)).bind fun v20=>
 qiK x0 x3 x4 x5 x8 x9 v20 m K))) (
 (qaz .other .add x10 (.int .i64 1)).bind fun v21=>
 qiK x0 x3 x4 x5 x8 x9 v21 m K))) (
 K (.exit 2) (qsr x0 x3 x4 x5 m)):=
(qa3 (qaT _) _ _ _).trans (by kernel_rfl)
theorem qur (x2:AV) (m:Mem):qlM (qbw cfg.P f58.results.toList) .ret (qEn x2 m) =
 some (x2,m):=by kernel_rfl
theorem qqb (x0 x3 x4 x5:AV) (m:Mem) (K:KT):qkO K (.exit 2) (qsr x0 x3 x4 x5 m) =
 (unA .not x5).bind fun v1=>
 ifA v1 (
 K .ret (qEn x3 m)) (
 (qaY none [x4]).bind fun v2=>
 (qd6 none false 3 none 8 m x3 v2).bind fun r3=>
 qoS x0 r3.1 r3.2 K):=by kernel_rfl
def qz8 (x5:AV) (m:Mem):St:=⟨(yA4 (yA1 (x5::qd7 (yA8 (yA2 (yA1 [])))))),m⟩
noncomputable def qqd (x0 x1 x5 x6:AV) (m:Mem) (K:KT):OM:=qbq (qaM cfg 115 (AP cfg) (AC cfg) (c1 (c1 (c2 (c1 (c2 (c2 (qaq f115)))))))) (cfg.mask 115 (some 3)) ⟨(x0::x1::yA2 (yA1 (x5::x6::qd7 (yA8 (yA2 []))))),m⟩ K
noncomputable abbrev qw4 (K:KT):KT:=qdH (fun st=>qaM cfg 115 (AP cfg) (AC cfg) (c2 (c2 (c2 (qaq f115)))) st K) K
noncomputable abbrev qw5 (K:KT):KT:=qbb 0 (qw4 K)
noncomputable abbrev qs5 (K:KT):KT:=(qw5 K)
theorem qH0 (a0 a1:AV) (m:Mem):AC cfg 115 [a0,a1] m =
 (qbY false a0).bind fun v1=>
 (qeU none 3 none (.int .i64 0) 8 m v1 v1).bind fun r2=>
 (qbY false a0).bind fun v3=>
 (qaz .other .sub v3 (.int .i64 1)).bind fun v4=>
 qqd a0 a1 r2.1 v4 r2.2 (qs5 (qbw cfg.P f115.results.toList)):=
(qbx cfg 115 [a0,a1] m (fn:=f115) (c:=qaq f115) qF9 rfl).trans (by kernel_rfl)
theorem qm8 (x0 x1 x5 x6:AV) (m:Mem) (K:KT):qqd x0 x1 x5 x6 m K =
 (qaz .other .geq x6 (.int .i64 0)).bind fun v1=>
 ifA v1 (
 (qag none x0 x6).bind fun v2=>
 (qat none m v2).bind fun v3=>
 (qaz .other .rem x1 v3).bind fun v4=>
 (qag none x5 x6).bind fun v5=>
 (qaR none m v5 v4).bind fun m6=>
 (qag none x0 x6).bind fun v7=>
 (qat none m6 v7).bind fun v8=>
 (qaz .other .quo x1 v8).bind fun v9=>
 (qaz .other .sub x6 (.int .i64 1)).bind fun v10=>
 qqd x0 v9 x5 v10 m6 K) (
 K (.exit 0) (qz8 x5 m)):=
(qa3 (qaT _) _ _ _).trans (by kernel_rfl)
theorem qs6 (x5:AV) (m:Mem):qs5 (qbw cfg.P f115.results.toList) (.exit 0) (qz8 x5 m) =
 some (x5,m):=by kernel_rfl
end Go.Ab

/- What the interpreter does, function by function. -/
set_option maxRecDepth 100000
namespace Go.Ab
open Go.Proofs.Tryz
theorem T41 (a0 a1:AV) (m:Mem):AC cfg 41 [a0,a1] m =
 (AC cfg 104 [a0,a1,(.fn 106 [])] m).bind fun r1=>
 (qaF r1.1 0).bind fun v2=>
 (qaF r1.1 1).bind fun v3=>
 some ((.tup [v2,v3]),r1.2):=
(qbx cfg 41 [a0,a1] m (fn:=f41) (c:=qaq f41) qJi rfl).trans (by kernel_rfl)
def qqQ (x8:AV) (m:Mem):St:=⟨(yA8 (x8::qdR (yA8 []))),m⟩
noncomputable def qi6 (x0 x2 x8 x21 x22 x23:AV) (m:Mem) (K:KT):OM:=qbq (qaM cfg 104 (AP cfg) (AC cfg) (c1 (c1 (c2 (c1 (c2 (c2 (c2 (c2 (qaq f104)))))))))) (cfg.mask 104 (some 7)) ⟨(x0::yA1 (x2::yA4 (yA1 (x8::yA8 (yA4 (x21::x22::x23::qd7 (yA8 (yA1 [])))))))),m⟩ K
noncomputable abbrev qw1 (K:KT):KT:=qdH (fun st=>qaM cfg 104 (AP cfg) (AC cfg) (c2 (c2 (c2 (c2 (c2 (qaq f104)))))) st K) K
noncomputable abbrev qw2 (K:KT):KT:=qbb 0 (qw1 K)
noncomputable abbrev qi5 (K:KT):KT:=(qw2 K)
theorem qHX (a0 a1 a2:AV) (m:Mem):AC cfg 104 [a0,a1,a2] m =
 (AC cfg 80 [a0] m).bind fun r1=>
 ifA r1.1 (
 some ((.tup [(.lst none true .full []),(.int .i64 4)]),r1.2)) (
 (AC cfg 81 [a0,a1] r1.2).bind fun r2=>
 (unA .not r2.1).bind fun v3=>
 ifA v3 (
 some ((.tup [(.lst none true .full []),(.int .i64 1)]),r2.2)) (
 (AC cfg 65 [a0,a1] r2.2).bind fun r4=>
 (qbY false r4.1).bind fun v5=>
 qi6 a0 a2 (.lst none true .full []) r4.1 v5 (.int .i64 0) r4.2 (qi5 (qbw cfg.P f104.results.toList)))):=
(qbx cfg 104 [a0,a1,a2] m (fn:=f104) (c:=qaq f104) qF6 rfl).trans (by kernel_rfl)
theorem qm7 (x0 x2 x8 x21 x22 x23:AV) (m:Mem) (K:KT):qi6 x0 x2 x8 x21 x22 x23 m K =
 (qaz .other .lss x23 x22).bind fun v1=>
 ifA v1 (
 (qag none x21 x23).bind fun v2=>
 (qat none m v2).bind fun v3=>
 (qjD x0).bind fun v4=>
 (qaB 1 v4).bind fun v5=>
 (qat none m v5).bind fun v6=>
 (qag (some 3) v6 v3).bind fun v7=>
 (qat (some 3) m v7).bind fun v8=>
 (qlv x2).bind fun g9=>
 qfL cfg 104 (AP cfg) (AC cfg) none g9.1 ([v8]++g9.2) m fun v10 m11=>
 (qaF v10 0).bind fun v12=>
 (qaF v10 1).bind fun v13=>
 ifA v13 (
 (qaY none [v12]).bind fun v14=>
 (qd6 none true 3 none 8 m11 x8 v14).bind fun r15=>
 (qaz .other .add x23 (.int .i64 1)).bind fun v16=>
 qi6 x0 x2 r15.1 x21 x22 v16 r15.2 K) (
 (qaz .other .add x23 (.int .i64 1)).bind fun v17=>
 qi6 x0 x2 x8 x21 x22 v17 m11 K)) (
 K (.exit 0) (qqQ x8 m)):=
(qa3 (qaT _) _ _ _).trans (by kernel_rfl)
theorem qs4 (x8:AV) (m:Mem):qi5 (qbw cfg.P f104.results.toList) (.exit 0) (qqQ x8 m) =
 (qpO [x8] m).bind fun r1=>
 (qgE [x8] r1.2).bind fun r2=>
 some ((.tup [r2.1,(.int .i64 0)]),r2.2):=by kernel_rfl
end Go.Ab

/- Small functions of the laws and the reference; Eval; All: by value. -/
set_option maxRecDepth 100000
namespace Go.Ab
open Go.Proofs Go.Proofs.Tryz
theorem qrf {a b:Nat->Nat}:∀ (r:List Int) (v:Nat),(∀ w,v<=w->a w=b w)->qhl r v a=qhl r v b
 | [],_,_=>rfl
 | n::r,v,h=>by rw[qhl,qhl,h v (qak _),qrf r (v+1) fun w hw=>h w (by omega)]
def qeK (cs:List Int):Nat->Nat:=fun v=>(cs.getD v 0).toNat
theorem qrr (m:Mem) (k:Nat):∀ ds:List Int,qgc (frz m (k+1)) (ds.map (AV.int .i64))=some (ds.map (AV.int .i64),[])
 | []=>rfl
 | d::ds=>by
  have:frz m (k+1) (AV.int .i64 d)=some (AV.int .i64 d,[]):=rfl
  simp[qgc,this,qrr m k ds]
theorem qwk:∀ ds:List Int,plL (ds.map (AV.int .i64))=true
 | []=>rfl
 | d::ds=>by
  have:pl (AV.int .i64 d)=true:=rfl
  simp[plL,this,qwk ds]
theorem qFn {m:Mem} {nm i:Nat} {ds:List Int} {y:Int} (h:m.get nm=some (.obj false (ds.map (AV.int .i64)))) (hi:i < ds.length):qaR none m (.ptr nm i) (.int .i64 y)=some (m.set nm (some (.obj false ((ds.set i y).map (AV.int .i64))))):=by
 have hg:m.obj? nm=some (false,ds.map (AV.int .i64)):=by rw[qeA,h];rfl
 have h1:i+1<=ds.length:=hi
 simp only[qaR,hg,oBs,Sh.size,qaE,h1,qa5,qeJ,qcE,AV.cells]
 congr 4
 simp only[qbK,qad,qae]
 rw[List.map_set,qfH]
 simp[hi,qCe,List.map_drop]
theorem qDH {m:Mem} {nm:Nat} {e:Ent} (h:m.get nm=some e):m.set nm (some e)=m:=by
 have hlt:=qbz h
 apply List.ext_getElem?
 intro k
 rw[qsq]
 split
 ·rename_i hk
  subst hk
  first | rw[qal hlt] | skip
  unfold Mem.get at h
  cases hq:m[nm]? with
  | none=>rw[hq] at h;cases h
  | some x=>rw[hq] at h;simp only[oBs,id] at h;rw[h]
 ·rfl
theorem W64 {z:Bool} {o:Own} {ar:List Int} (h1:∀ x∈ar,1<=x/\x<=64) (hal:ar.length<=16) {i0 nm:Nat} (hi0:i0<=1000000):∀ (j:Nat),j<=ar.length->∀ (q:Nat) (cs:List Int) (m:Mem),m.get nm=some (.obj false (cs.map (AV.int .i64)))->cs.length=ar.length->(∀ v,j<=v->v < ar.length->0<=cs.getD v 0/\cs.getD v 0 < ar.getD v 0)->q<=i0 ->
  i0=q * qbD (ar.drop j)+qhl (ar.drop j) j (qeK cs)->∃ (cs':List Int) (q':Nat),qqd (IA z o ar) (.int .i64 q) (.arr nm 0 ar.length none) (.int .i64 ((j:Int) - 1)) m (qs5 (qbw cfg.P f115.results.toList))=some (.arr nm 0 ar.length none,m.set nm (some (.obj false (cs'.map (AV.int .i64)))))/\cs'.length=ar.length /\
   (∀ v,v < ar.length->0<=cs'.getD v 0/\cs'.getD v 0 < ar.getD v 0)/\i0=q' * qbD ar+qhl ar 0 (qeK cs')
 | 0,_,q,cs,m,hg,hc,hb,hq,he=>by
  refine ⟨cs,q,?_,hc,fun v hv=>hb v (qdq _) hv,he⟩
  rw[qDH hg,qm8,qdD,oBs,qap,qah (by omega),qs6]
 | j+1,hj,q,cs,m,hg,hc,hb,hq,he=>by
  have hv:j < ar.length:=by omega
  have hab:=h1 _ (qaJ hv)
  obtain ⟨a,ha⟩:=qc0 (by omega:0<=ar[j])
  have hget:ar.getD j 0=(a:Int):=by rw[qaa,qam hv,qaP,ha]
  have hix:qag none (IA z o ar) (.int .i64 j)=some (.vptr [.int .i64 a]):=by rw[qeN hv,ha]
  have hqa:=qib q a
  have hlt:=qcO q (show a > 0 by omega)
  have hl:=qbz hg
  obtain ⟨cs',q',e,k⟩:=W64 (z:=z) (o:=o) h1 hal hi0 (nm:=nm) j (by omega) (q / a) (cs.set j (q % a:Nat)) (m.set nm (some (.obj false ((cs.set j (q % a:Nat)).map (AV.int .i64))))) (qdF rfl hl) (by rw[qai];exact hc) (fun v hv1 hv2=>by
   by_cases hvj:v=j
   ·subst hvj
    rw[qaa,qhG (by omega),qaP,hget]
    omega
   ·rw[qaa,qjn (by omega),<- qaa]
    exact hb v (by omega) hv2) (by omega) (by
   rw[qgr hv,qfv hv,hget,qrf (a:=qeK (cs.set j (q % a:Nat))) (b:=qeK cs) (ar.drop (j+1)) (j+1) (fun w hw=>by
    unfold qeK
    rw[qaa,qjn (by omega),<- qaa])]
   have e1:qeK (cs.set j (q % a:Nat)) j=q % a:=by
    unfold qeK
    rw[qaa,qhG (by omega),qaP,qaQ]
   have e2:(a:Int).toNat=a:=qaQ a
   rw[e1,e2,he]
   generalize qbD (ar.drop (j+1))=P
   have:=qe6 q a
   have e3:q * P=q / a * (a * P)+q % a * P:=by
    rw[<- qaO,<- qbd,qaI (q / a) a,this]
   omega)
  refine ⟨cs',q',?_,k⟩
  have ej:((j+1:Nat):Int) - 1=j:=by omega
  rw[ej,qm8,qdD,oBs,qap,qal (by omega),hix,oBs,qbs,oBs,qDp (by omega),oBs,qbf hv,oBs,qFn hg (by omega),oBs,oBs,qbs,oBs,qE8 (by omega) (by omega),oBs,qfh (by omega),oBs]
  rw[quJ] at e
  exact e
structure Asn (ar:List Int) (i:Nat) (cs:List Int):Prop where
 len:cs.length=ar.length
 bd:∀ v,v < ar.length->0<=cs.getD v 0/\cs.getD v 0 < ar.getD v 0
 idx:qhl ar 0 (qeK cs)=i
theorem Asn.asg {ar:List Int} {i:Nat} {cs:List Int} (h:Asn ar i cs):Asg ar (qeK cs):=fun v hv=>by
 have:=h.bd v hv
 unfold qeK;omega
theorem C64 (z:Bool) (o:Own) (ar:List Int) (h1:∀ x∈ar,1<=x/\x<=64) (hal:ar.length<=16) {i:Nat} (hi:i < qbD ar) (hi2:i<=1000000) (m:Mem):∃ cs,AC cfg 115 [IA z o ar,.int .i64 i] m=some (.arr m.length 0 ar.length none,m++[some (.obj false (cs.map (AV.int .i64)))])/\Asn ar i cs:=by
 have hmk:qeU none 3 none (.int .i64 0) 8 m (.int .i64 ar.length) (.int .i64 ar.length)=some (.arr m.length 0 ar.length none,m++[some (Ent.obj false ((List.replicate ar.length (0:Int)).map (AV.int .i64)))]):=by
  have h3:(ar.length:Int) * 8<=281474976710656:=by omega
  have h4:(ar.length:Int)<=9223372036854775807:=by omega
  have h5:(0:Int)<=ar.length:=by omega
  simp only[qeU,qaH,qkK,qeH,qa5,qaQ,List.map_replicate]
  rw[qal ⟨h5,trivial,h3,h4⟩]
 obtain ⟨cs,q,e,hc,hb,he⟩:=W64 (z:=z) (o:=o) h1 hal hi2 (nm:=m.length) ar.length (qak _) i (List.replicate ar.length (0:Int)) (m++[some (Ent.obj false ((List.replicate ar.length (0:Int)).map (AV.int .i64)))]) (qev rfl) (by simp) (fun v h1 h2=>by omega) (qak _) (by rw[List.drop_length];simp[qbD,qhl])
 have asn:Asn ar i cs:=by
  refine ⟨hc,hb,?_⟩
  have hq:q=0:=by
   refine Nat.eq_zero_of_not_pos fun hq=>?_
   have:1 * qbD ar<=q * qbD ar:=qaS _ hq
   omega
  rw[hq] at he
  omega
 refine ⟨cs,?_,asn⟩
 have e2:(m++[some (Ent.obj false ((List.replicate ar.length (0:Int)).map (AV.int .i64)))]).set m.length (some (.obj false (cs.map (AV.int .i64))))=m++[some (.obj false (cs.map (AV.int .i64)))]:=by
  rw[qcV _ _ (qak _),qd1];rfl
 rw[e2] at e
 rw[qH0,qeb,oBs,hmk,oBs,oBs,qfh (by omega),oBs]
 exact e
structure AL (n:Nat) (m0 m:Mem) (x:AV) (nms:List Nat) (css:List (List Int)):Prop where
 len:nms.length=css.length
 row:∀ k (h1:k < nms.length) (h2:k < css.length),m.get nms[k]=some (.obj false (css[k].map (AV.int .i64)))/\css[k].length=n
 nd:nms.Nodup
 lo:∀ a∈nms,m0.length<=a
 kp:m0.length<=m.length/\∀ k,k < m0.length->m.get k=m0.get k
 x:(x=.lst none true .full []/\nms=[])\/∃ t,x=.arr t 0 nms.length none/\0 < nms.length/\m.get t=some (.obj false (nms.map fun a=>.arr a 0 n none))/\m0.length<=t/\t∉nms
theorem AL.lt {n:Nat} {m0 m:Mem} {x:AV} {nms:List Nat} {css:List (List Int)} (h:AL n m0 m x nms css):∀ a∈nms,a < m.length:=fun a ha=>by
 obtain ⟨k,hk,e⟩:=qbH ha
 have hl:=h.len
 have:=(h.row k hk (by omega)).1
 rw[e] at this
 exact qbz this
theorem qEv {n:Nat} {m0 m:Mem} {x:AV} {nms:List Nat} {css:List (List Int)} (h:AL n m0 m x nms css) {cs:List Int} (hc:cs.length=n) (hl:css.length<=1000) :
  ∃ x' m',qd6 none true 22 none 24 (m++[some (Ent.obj false (cs.map (AV.int .i64)))]) x (.vec 1 none [.arr m.length 0 n none])=some (x',m')/\AL n m0 m' x' (nms++[m.length]) (css++[cs]):=by
 have hlen:=h.len
 have hlt:=h.lt
 have hY:∀ M:Mem,qD6 M none (.vec 1 none [.arr m.length 0 n none])=some (1,[.arr m.length 0 n none]):=fun M=>rfl
 have nd2:(nms++[m.length]).Nodup:=by
  rw[List.nodup_append]
  exact ⟨h.nd,by simp,fun a ha b hb=>by
   obtain rfl:b=m.length:=by simpa using hb
   have:=hlt a ha;omega⟩
 have rows:∀ (m':Mem),(∀ k,k < m.length+1->(∀ t,x=.arr t 0 nms.length none->k≠t)->m'.get k=Mem.get (m++[some (Ent.obj false (cs.map (AV.int .i64)))]) k)->∀ k (h1:k < (nms++[m.length]).length) (h2:k < (css++[cs]).length),m'.get (nms++[m.length])[k]=some (.obj false ((css++[cs])[k].map (AV.int .i64)))/\(css++[cs])[k].length=n:=by
  intro m' hm' k h1 h2
  by_cases hk:k < nms.length
  ·rw[List.getElem_append_left hk,List.getElem_append_left (by omega)]
   have hmem:=qaJ hk
   have hl2:=hlt _ hmem
   rw[hm' _ (by omega) (fun t ht e=>by
    rcases h.x with ⟨rfl,_⟩ | ⟨t',rfl,_,_,_,hn⟩
    ·cases ht
    ·cases ht;exact hn (e▸hmem)),qey hl2]
   exact h.row k hk (by omega)
  ·have hk1:k=nms.length:=by simp at h1;omega
   subst hk1
   have e1:(nms++[m.length])[nms.length]'h1=m.length:=by simp
   have e2:(css++[cs])[nms.length]'h2=cs:=by simp[hlen]
   rw[e1,e2,hm' _ (by omega) (fun t ht e=>by
    rcases h.x with ⟨rfl,_⟩ | ⟨t',rfl,_,hg,_,hn⟩
    ·cases ht
    ·cases ht;have:=qbz hg;omega),qev rfl]
   exact ⟨rfl,hc⟩
 have lo2:∀ a∈nms++[m.length],m0.length<=a:=fun a ha=>by
  rcases qaW.1 ha with ha | ha
  ·exact h.lo a ha
  ·obtain rfl:a=m.length:=by simpa using ha
   exact h.kp.1
 have hroom:∀ k:Nat,k<=1000->(k+1) * 24<=qef:=fun k hk=>by unfold qef;omega
 rcases h.x with ⟨rfl,rfl⟩ | ⟨t,rfl,hpos,hg,htl,htn⟩
 ·have hX:qzI (m++[some (Ent.obj false (cs.map (AV.int .i64)))]) none (.lst none true .full [])=some (0,[],m++[some (.obj false (cs.map (AV.int .i64)))]):=rfl
  have ha:qd6 none true 22 none 24 (m++[some (Ent.obj false (cs.map (AV.int .i64)))]) (.lst none true .full []) (.vec 1 none [.arr m.length 0 n none])=some (.arr (m++[some (Ent.obj false (cs.map (AV.int .i64)))]).length 0 1 none,(m++[some (Ent.obj false (cs.map (AV.int .i64)))])++[some (.obj false [.arr m.length 0 n none])]):=by
   simp only[qd6,qyY,hY,hX,oBs]
   rfl
  refine ⟨_,_,ha,?_,rows _ (fun k hk _=>qey (by simpa using hk)),nd2,lo2,?_,.inr ⟨(m++[some (Ent.obj false (cs.map (AV.int .i64)))]).length,by simp,by simp,by rw[qev rfl];rfl,by have:=h.kp.1;simp;omega,by simp⟩⟩
  ·simp only[qab,qad,qae] at hlen ⊢
   omega
  ·refine ⟨by have:=h.kp.1;simp;omega,fun k hk=>?_⟩
   have:=h.kp.1
   rw[qey (by simp;omega),qey (by omega)]
   exact h.kp.2 k hk
 ·have htlt:=qbz hg
  have hg2:Mem.get (m++[some (Ent.obj false (cs.map (AV.int .i64)))]) t=some (.obj false (nms.map fun a=>.arr a 0 n none)):=by rw[qey htlt];exact hg
  have ho:(m++[some (Ent.obj false (cs.map (AV.int .i64)))]).obj? t=some (false,nms.map fun a=>.arr a 0 n none):=by rw[qeA,hg2];rfl
  have hX:qzI (m++[some (Ent.obj false (cs.map (AV.int .i64)))]) none (.arr t 0 nms.length none)=some (nms.length,nms.map fun a=>.arr a 0 n none,(m++[some (Ent.obj false (cs.map (AV.int .i64)))]).set t none):=by
   simp only[qzI,ho,oBs]
   rw[qal ⟨trivial,trivial,hpos,trivial,by simp[Sh.size]⟩]
  have ha:qd6 none true 22 none 24 (m++[some (Ent.obj false (cs.map (AV.int .i64)))]) (.arr t 0 nms.length none) (.vec 1 none [.arr m.length 0 n none])=some (.arr ((m++[some (Ent.obj false (cs.map (AV.int .i64)))]).set t none).length 0 (nms.length+1) none,((m++[some (Ent.obj false (cs.map (AV.int .i64)))]).set t none)++[some (.obj false ((nms.map fun a=>.arr a 0 n none)++[.arr m.length 0 n none]))]):=by
   simp only[qd6,qyY,hY,hX,oBs]
   rw[qal (hroom nms.length (by omega))]
  have hml:((m++[some (Ent.obj false (cs.map (AV.int .i64)))]).set t none).length=m.length+1:=by simp
  refine ⟨_,_,ha,?_,rows _ (fun k hk hne=>?_),nd2,lo2,?_,.inr ⟨((m++[some (Ent.obj false (cs.map (AV.int .i64)))]).set t none).length,by simp,by simp,by rw[qev rfl,qcA];rfl,by have:=h.kp.1;rw[hml];omega,?_⟩⟩
  ·simp only[qab,hlen,qad,qae]
  ·rw[qey (by rw[hml];exact hk),qdb (hne t rfl)]
  ·refine ⟨by have:=h.kp.1;rw[qab,hml];omega,fun k hk=>?_⟩
   have:=h.kp.1
   rw[qey (by rw[hml];omega),qdb (by omega),qey (by omega)]
   exact h.kp.2 k hk
  ·rw[hml]
   intro hh
   rcases qaW.1 hh with hh | hh
   ·have:=hlt _ hh;omega
   ·simp at hh
theorem qze {m:Mem} {nm k:Nat} {ds:List Int} (h:m.get nm=some (.obj false (ds.map (AV.int .i64)))):frz m (k+2) (.arr nm 0 ds.length none)=some (IA false .no ds,[nm]):=by
 have h1:((ds.map (AV.int .i64)).all qcE)=true:=by simp[List.all_map,qcE]
 have hg:m.obj? nm=some (false,ds.map (AV.int .i64)):=by rw[qeA,h];rfl
 show (m.obj? nm).bind _=_
 rw[hg]
 simp only[oBs,Sh.size,qaE,qar,qc1,qak,decide_true,qcS,qeo,qa5,qbk,qbg (by simp:(ds.map (AV.int .i64)).length<=ds.length)]
 rw[qrr]
 simp only[oBs,h1,qwk,qeo,qa5,grp]
 rw[qbg (by simp)]
theorem qn4 {m:Mem} {n k:Nat}:∀ (nms:List Nat) (css:List (List Int)),nms.length=css.length->(∀ i (h1:i < nms.length) (h2:i < css.length),m.get nms[i]=some (.obj false (css[i].map (AV.int .i64)))/\css[i].length=n)->qgc (frz m (k+2)) (nms.map fun a=>.arr a 0 n none)=some (css.map (IA false .no),nms)
 | [],[],_,_=>rfl
 | [],_::_,h,_=>by simp at h
 | _::_,[],h,_=>by simp at h
 | a::nms,cs::css,h,hr=>by
  obtain ⟨r1,r2⟩:=hr 0 (by simp) (by simp)
  simp only[List.getElem_cons_zero] at r1 r2
  have ih:=qn4 (n:=n) (k:=k) (m:=m) nms css (by simpa using h) (fun i h1 h2=>by
   have:=hr (i+1) (by simpa using h1) (by simpa using h2)
   simpa using this)
  have h1:=qze (k:=k) r1
  rw[r2] at h1
  simp only[qaX,qgc,h1,oBs,ih,qaf,List.singleton_append]
theorem qrE:∀ css:List (List Int),plL (css.map (IA false .no))=true
 | []=>rfl
 | c::css=>by
  have:pl (IA false .no c)=true:=rfl
  simp[plL,this,qrE css]
theorem qC6 {n t:Nat} {m0 m:Mem} {nms:List Nat} {css:List (List Int)} (h:AL n m0 m (.arr t 0 nms.length none) nms css):frz m qga (.arr t 0 nms.length none)=some (.lst none false .no (css.map (IA false .no)),t::nms):=by
 have hg:m.get t=some (.obj false (nms.map fun a=>.arr a 0 n none)):=by
  rcases h.x with ⟨e,_⟩ | ⟨t',e,_,hg,_,_⟩
  ·cases e
  ·cases e;exact hg
 have ho:m.obj? t=some (false,nms.map fun a=>.arr a 0 n none):=by rw[qeA,hg];rfl
 have hlen:=h.len
 have h1:((css.map (IA false .no)).all qcE)=true:=by simp[List.all_map,qcE,IA]
 show (m.obj? t).bind _=_
 rw[ho]
 simp only[oBs,Sh.size,qaE,qar,qc1,qak,decide_true,qcS,qeo,qa5,qbk,qbg (by simp:(nms.map fun a=>AV.arr a 0 n none).length<=nms.length)]
 rw[qn4 nms css hlen h.row]
 simp only[oBs,h1,qrE,qeo,qa5,grp]
 rw[qbg (by simp;omega)]
theorem W35 {z:Bool} {o:Own} {ar:List Int} (h1:∀ x∈ar,1<=x/\x<=64) (hal:ar.length<=16) (hp:qbD ar<=300) {m0:Mem}:∀ (j i:Nat) (m:Mem) (x:AV) (nms:List Nat) (css:List (List Int)),i+j=qbD ar->AL ar.length m0 m x nms css->css.length=i->(∀ k (h:k < css.length),Asn ar k css[k]) ->
  ∃ (m':Mem) (x':AV) (nms':List Nat) (css':List (List Int)),qyF (IA z o ar) x (.int .i64 i) m (qBC (qbw cfg.P f54.results.toList))=some (x',m')/\AL ar.length m0 m' x' nms' css'/\css'.length=qbD ar/\∀ k (h:k < css'.length),Asn ar k css'[k]:=by
 have hpl:qdG 1048576 1 ar=(qbD ar:Nat):=by
  rw[qlC ar 1 (fun a ha=>(h1 a ha).1) (by omega) (by omega),Int.one_mul]
 intro j
 induction j with
 | zero=>
  intro i m x nms css hi h hl hc
  refine ⟨m,x,nms,css,?_,h,by omega,hc⟩
  rw[qqD,qD5 _ _ _ hal h1 1048576 (by omega),oBs,hpl,qdc,oBs,qap,qah (by omega),qyi]
 | succ j ih=>
  intro i m x nms css hi h hl hc
  obtain ⟨cs,e64,hcs⟩:=C64 z o ar h1 hal (i:=i) (by omega) (by omega) m
  obtain ⟨x1,m1,ea,g1⟩:=qEv h hcs.len (by omega)
  obtain ⟨m',x',nms',css',e,k⟩:=ih (i+1) m1 x1 (nms++[m.length]) (css++[cs]) (by omega) g1 (by simp[hl]) (fun k hk=>by
   by_cases hk2:k < css.length
   ·rw[List.getElem_append_left hk2];exact hc k hk2
   ·have:k=css.length:=by simp at hk;omega
    subst this
    have e:(css++[cs])[css.length]'(by simp)=cs:=by simp
    rw[e,hl];exact hcs)
  refine ⟨m',x',nms',css',?_,k⟩
  have hb:qaY none [.arr m.length 0 ar.length none]=some (.vec 1 none [.arr m.length 0 ar.length none]):=rfl
  rw[qqD,qD5 _ _ _ hal h1 1048576 (by omega),oBs,hpl,qdc,oBs,qap,qal (by omega),e64,oBs,hb,oBs,ea,oBs,qbM (by omega),oBs]
  exact e
theorem C35 (z:Bool) (o:Own) (ar:List Int) (h1:∀ x∈ar,1<=x/\x<=64) (hal:ar.length<=16) (hp:qbD ar<=300) (m:Mem):∃ (m':Mem) (t:Nat) (nms:List Nat) (css:List (List Int)),AC cfg 54 [IA z o ar] m=some (.arr t 0 nms.length none,m')/\AL ar.length m m' (.arr t 0 nms.length none) nms css/\css.length=qbD ar/\∀ k (h:k < css.length),Asn ar k css[k]:=by
 obtain ⟨m',x',nms,css,e,g,hl,hc⟩:=W35 (z:=z) (o:=o) h1 hal hp (m0:=m) (qbD ar) 0 m (.lst none true .full []) [] [] (by omega) ⟨rfl,fun k h=>by simp at h,by simp,by simp,⟨qak _,fun _ _=>rfl⟩,.inl ⟨rfl,rfl⟩⟩ rfl (fun k h=>by simp at h)
 have hpos:=qmz fun x hx=>(h1 x hx).1
 have hlen:=g.len
 rcases g.x with ⟨_,rfl⟩ | ⟨t,rfl,_⟩
 ·simp at hlen;omega
 ·refine ⟨m',t,nms,css,?_,g,hl,hc⟩
  rw[T54]
  exact e
theorem V35 (z:Bool) (o:Own) (ar:List Int) (h1:∀ x∈ar,1<=x/\x<=64) (hal:ar.length<=16) (hp:qbD ar<=300):∃ (z':Bool) (o':Own) (css:List (List Int)),AP cfg 54 [IA z o ar]=some (.lst none z' o' (css.map (IA false .no)))/\css.length=qbD ar/\∀ k (h:k < css.length),Asn ar k css[k]:=by
 obtain ⟨m',t,nms,css,e,g,hl,hc⟩:=C35 z o ar h1 hal hp []
 exact ⟨false,.no,css,qeG e (qC6 g) rfl,hl,hc⟩
section
variable {m:Mem} {s:Nat} {F:List Nat} {most:Int} {l:List ND} {zs z:Bool} {os o:Own} {ar:List Int} {cs:List Int}
end
end Go.Ab

/- What the interpreter does, function by function. -/
set_option maxRecDepth 100000
namespace Go.Ab
open Go.Proofs.Tryz
theorem T66 (a0 a1:AV) (m:Mem):AC cfg 66 [a0,a1] m =
 (qbY false a0).bind fun v1=>
 (AC cfg 125 [a0,v1,a1] m).bind fun r2=>
 some ((.tup []),r2.2):=
(qbx cfg 66 [a0,a1] m (fn:=f66) (c:=qaq f66) qJr rfl).trans (by kernel_rfl)
def qz9 (x0 x1 x2 x6 x7:AV) (m:Mem):St:=⟨(x0::x1::x2::yA2 (yA1 (x6::x7::qdR (qd7 (yA4 (yA2 (yA1 []))))))),m⟩
noncomputable def qnb (x0 x1 x2 x6 x7 x8:AV) (m:Mem) (K:KT):OM:=qbq (qaM cfg 125 (AP cfg) (AC cfg) (c1 (c1 (c1 (c2 (c2 (qaq f125))))))) (cfg.mask 125 (some 2)) ⟨(x0::x1::x2::yA2 (yA1 (x6::x7::x8::qdR (qd7 (yA4 (yA2 [])))))),m⟩ K
def qAa (m:Mem):St:=⟨(qdR (qd7 (yA8 (yA4 (yA2 (yA1 [])))))),m⟩
noncomputable def qi7 (x0 x1 x2 x6:AV) (m:Mem) (K:KT):OM:=qbq (qaM cfg 125 (AP cfg) (AC cfg) (c1 (c1 (c2 (c2 (c2 (c2 (qaq f125)))))))) (cfg.mask 125 (some 7)) ⟨(x0::x1::x2::yA2 (yA1 (x6::qdR (qd7 (yA8 []))))),m⟩ K
def qAb (x0 x1 x2 x6 x7:AV) (m:Mem):St:=⟨(x0::x1::x2::yA2 (yA1 (x6::x7::qdR (qd7 (yA4 (yA2 (yA1 []))))))),m⟩
noncomputable def qqg (x0 x1 x2 x6 x7 x8:AV) (m:Mem) (K:KT):OM:=qbq (qaM cfg 125 (AP cfg) (AC cfg) (c1 (c1 (c1 (c2 (c1 (c2 (c1 (c1 (c2 (c2 (c2 (c2 (qaq f125)))))))))))))) (cfg.mask 125 (some 9)) ⟨(x0::x1::x2::yA2 (yA1 (x6::x7::x8::qdR (qd7 (yA4 (yA2 [])))))),m⟩ K
noncomputable abbrev qxb (K:KT):KT:=qdH (fun st=>qaM cfg 125 (AP cfg) (AC cfg) (c2 (c2 (c2 (qaq f125)))) st K) K
noncomputable abbrev qxc (K:KT):KT:=qbb 0 (qxb K)
noncomputable abbrev qp2 (K:KT):KT:=(qxc K)
noncomputable abbrev qp3 (K:KT):KT:=qbb 3 (qcQ (fun st=>qbq (qaM cfg 125 (AP cfg) (AC cfg) (c1 (c1 (c2 (c2 (c2 (c2 (qaq f125)))))))) (cfg.mask 125 (some 7)) st K) (cfg.mask 125 (some 7)) K)
noncomputable abbrev qxe (K:KT):KT:=qdH (fun st=>qaM cfg 125 (AP cfg) (AC cfg) (c2 (c2 (c1 (c2 (c1 (c1 (c2 (c2 (c2 (c2 (qaq f125))))))))))) st (qp3 K)) (qp3 K)
noncomputable abbrev qxf (K:KT):KT:=qbb 4 (qxe K)
noncomputable abbrev qtl (K:KT):KT:=(qxf K)
noncomputable abbrev qxd (K:KT):KT:=qbb 2 K
noncomputable abbrev qjL (K:KT):KT:=(qxd K)
theorem qH5 (a0 a1 a2:AV) (m:Mem):AC cfg 125 [a0,a1,a2] m =
 qnb a0 a1 a2 (.int .i64 20) (.int .i64 0) (.int .i64 20) m (qp2 (qbw cfg.P f125.results.toList)):=
(qbx cfg 125 [a0,a1,a2] m (fn:=f125) (c:=qaq f125) qGf rfl).trans (by kernel_rfl)
theorem qnc (x0 x1 x2 x6 x7 x8:AV) (m:Mem) (K:KT):qnb x0 x1 x2 x6 x7 x8 m K =
 (qaz .other .leq x8 x1).bind fun v1=>
 ifA v1 (
 (AC cfg 165 [x0,x7,x8,x2] m).bind fun r2=>
 (qaz .other .add x8 x6).bind fun v3=>
 qnb x0 x1 x2 x6 x8 v3 r2.2 K) (
 K (.exit 0) (qz9 x0 x1 x2 x6 x7 m)):=
(qa3 (qaT _) _ _ _).trans (by kernel_rfl)
theorem qnd (x0 x1 x2 x6:AV) (m:Mem) (K:KT):qi7 x0 x1 x2 x6 m K =
 (qaz .other .lss x6 x1).bind fun v1=>
 ifA v1 (
 (qaz .other .mul (.int .i64 2) x6).bind fun v2=>
 qqg x0 x1 x2 x6 (.int .i64 0) v2 m (qtl K)) (
 K (.exit 2) (qAa m)):=
(qa3 (qaT _) _ _ _).trans (by kernel_rfl)
theorem qne (x0 x1 x2 x6 x7 x8:AV) (m:Mem) (K:KT):qqg x0 x1 x2 x6 x7 x8 m K =
 (qaz .other .leq x8 x1).bind fun v1=>
 ifA v1 (
 (qaz .other .add x7 x6).bind fun v2=>
 (AC cfg 166 [x0,x7,v2,x8,x2] m).bind fun r3=>
 (qaz .other .mul (.int .i64 2) x6).bind fun v4=>
 (qaz .other .add x8 v4).bind fun v5=>
 qqg x0 x1 x2 x6 x8 v5 r3.2 K) (
 K (.exit 4) (qAb x0 x1 x2 x6 x7 m)):=
(qa3 (qaT _) _ _ _).trans (by kernel_rfl)
theorem qtj (x0 x1 x2 x6 x7:AV) (m:Mem):qp2 (qbw cfg.P f125.results.toList) (.exit 0) (qz9 x0 x1 x2 x6 x7 m) =
 (AC cfg 165 [x0,x7,x1,x2] m).bind fun r1=>
 qi7 x0 x1 x2 x6 r1.2 (qjL (qbw cfg.P f125.results.toList)):=by kernel_rfl
theorem qtm (x0 x1 x2 x6 x7:AV) (m:Mem) (K:KT):qtl K (.exit 4) (qAb x0 x1 x2 x6 x7 m) =
 (qaz .other .add x7 x6).bind fun v1=>
 (qaz .other .lss v1 x1).bind fun v2=>
 ifA v2 (
 (AC cfg 166 [x0,x7,v1,x1,x2] m).bind fun r3=>
 (qaz .other .mul x6 (.int .i64 2)).bind fun v4=>
 qi7 x0 x1 x2 v4 r3.2 K) (
 (qaz .other .mul x6 (.int .i64 2)).bind fun v5=>
 qi7 x0 x1 x2 v5 m K):=by kernel_rfl
theorem qtk (m:Mem):qjL (qbw cfg.P f125.results.toList) (.exit 2) (qAa  m) =
 some ((.tup []),m):=by kernel_rfl
def qAd (m:Mem):St:=⟨(qdR (qd7 (yA4 (yA1 [])))),m⟩
noncomputable def qqp (x0 x1 x2 x3 x8:AV) (m:Mem) (K:KT):OM:=qbq (qaM cfg 165 (AP cfg) (AC cfg) (c1 (c1 (c2 (qaq f165))))) (cfg.mask 165 (some 1)) ⟨(x0::x1::x2::x3::yA4 (x8::qdR (yA8 (yA4 [])))),m⟩ K
def qnB (x0 x1 x2 x3 x8:AV) (m:Mem):St:=⟨(x0::x1::x2::x3::yA4 (x8::qdR (yA8 (yA4 [])))),m⟩
noncomputable def qk8 (x0 x1 x2 x3 x8 x9:AV) (m:Mem) (K:KT):OM:=qbq (qaM cfg 165 (AP cfg) (AC cfg) (c1 (c1 (c2 (c1 (c1 (c2 (c1 (c1 (c2 (qaq f165))))))))))) (cfg.mask 165 (some 4)) ⟨(x0::x1::x2::x3::yA4 (x8::x9::qdR (yA8 (yA2 (yA1 []))))),m⟩ K
noncomputable abbrev qxD (K:KT):KT:=qbb 0 K
noncomputable abbrev qp6 (K:KT):KT:=(qxD K)
noncomputable abbrev qxE (K:KT):KT:=qdH (fun st=>qaM cfg 165 (AP cfg) (AC cfg) (c2 (c2 (c1 (c1 (c2 (qaq f165)))))) st (qcQ (fun st=>qbq (qaM cfg 165 (AP cfg) (AC cfg) (c1 (c1 (c2 (qaq f165))))) (cfg.mask 165 (some 1)) st K) (cfg.mask 165 (some 1)) K)) (qcQ (fun st=>qbq (qaM cfg 165 (AP cfg) (AC cfg) (c1 (c1 (c2 (qaq f165))))) (cfg.mask 165 (some 1)) st K) (cfg.mask 165 (some 1)) K)
noncomputable abbrev qxF (K:KT):KT:=qbb 1 (qxE K)
noncomputable abbrev qxG (K:KT):KT:=qbb 2 (qxF K)
noncomputable abbrev qtH (K:KT):KT:=(qxG K)
theorem qHp (a0 a1 a2 a3:AV) (m:Mem):AC cfg 165 [a0,a1,a2,a3] m =
 (qaz .other .add a1 (.int .i64 1)).bind fun v1=>
 qqp a0 a1 a2 a3 v1 m (qp6 (qbw cfg.P f165.results.toList)):=
(qbx cfg 165 [a0,a1,a2,a3] m (fn:=f165) (c:=qaq f165) qGC rfl).trans (by kernel_rfl)
theorem qjQ (x0 x1 x2 x3 x8:AV) (m:Mem) (K:KT):qqp x0 x1 x2 x3 x8 m K =
 (qaz .other .lss x8 x2).bind fun v1=>
 ifA v1 (
 qk8 x0 x1 x2 x3 x8 x8 m (qtH K)) (
 K (.exit 0) (qAd m)):=
(qa3 (qaT _) _ _ _).trans (by kernel_rfl)
theorem qno (x0 x1 x2 x3 x8 x9:AV) (m:Mem) (K:KT):qk8 x0 x1 x2 x3 x8 x9 m K =
 (qaz .other .gtr x9 x1).bind fun v1=>
 ifA v1 (
 (qag none x0 x9).bind fun v2=>
 (qat none m v2).bind fun v3=>
 (qaz .other .sub x9 (.int .i64 1)).bind fun v4=>
 (qag none x0 v4).bind fun v5=>
 (qat none m v5).bind fun v6=>
 (qlv x3).bind fun g7=>
 qfL cfg 165 (AP cfg) (AC cfg) none g7.1 ([v3,v6]++g7.2) m fun v8 m9=>
 (qaz .other .lss v8 (.int .i64 0)).bind fun v10=>
 ifA v10 (
 (qaz .other .sub x9 (.int .i64 1)).bind fun v11=>
 (qaz .other .sub x9 (.int .i64 1)).bind fun v12=>
 (qag none x0 v12).bind fun v13=>
 (qat none m9 v13).bind fun v14=>
 (qag none x0 x9).bind fun v15=>
 (qat none m9 v15).bind fun v16=>
 (qag none x0 x9).bind fun v17=>
 (qaR none m9 v17 v14).bind fun m18=>
 (qag none x0 v11).bind fun v19=>
 (qaR none m18 v19 v16).bind fun m20=>
 (qaz .other .sub x9 (.int .i64 1)).bind fun v21=>
 qk8 x0 x1 x2 x3 x8 v21 m20 K) (
 K (.exit 2) (qnB x0 x1 x2 x3 x8 m9))) (
 K (.exit 2) (qnB x0 x1 x2 x3 x8 m)):=
(qa3 (qaT _) _ _ _).trans (by kernel_rfl)
theorem qmZ (m:Mem):qp6 (qbw cfg.P f165.results.toList) (.exit 0) (qAd  m) =
 some ((.tup []),m):=by kernel_rfl
theorem qtI (x0 x1 x2 x3 x8:AV) (m:Mem) (K:KT):qtH K (.exit 2) (qnB x0 x1 x2 x3 x8 m) =
 (qaz .other .add x8 (.int .i64 1)).bind fun v1=>
 qqp x0 x1 x2 x3 v1 m K:=by kernel_rfl
def quT (x0 x1 x10:AV) (m:Mem):St:=⟨(x0::x1::yA8 (x10::qdC (qdC (qdC (qd7 (yA1 [])))))),m⟩
noncomputable def qi8 (x0 x1 x4 x10 x11:AV) (m:Mem) (K:KT):OM:=qbq (qaM cfg 166 (AP cfg) (AC cfg) (c1 (c1 (c1 (c2 (c2 (c1 (c2 (c1 (qaq f166)))))))))) (cfg.mask 166 (some 3)) ⟨(x0::x1::yA2 (x4::yA4 (yA1 (x10::x11::qdC (qdC (qdC (qd7 []))))))),m⟩ K
def qAe (m:Mem):St:=⟨(qdC (qdC (qdC (qd7 (yA8 (yA4 [])))))),m⟩
noncomputable def qqq (x0 x10 x13:AV) (m:Mem) (K:KT):OM:=qbq (qaM cfg 166 (AP cfg) (AC cfg) (c1 (c1 (c2 (c1 (c2 (c2 (c2 (c1 (c2 (c1 (qaq f166)))))))))))) (cfg.mask 166 (some 9)) ⟨(x0::yA8 (yA1 (x10::yA2 (x13::qdC (qdC (qdC (yA8 (yA4 (yA2 []))))))))),m⟩ K
def qoY (x0 x2 x14:AV) (m:Mem):St:=⟨(x0::yA1 (x2::yA8 (yA2 (yA1 (x14::qdC (qdC (qdC (yA8 (yA4 (yA1 [])))))))))),m⟩
noncomputable def qha (x0 x2 x4 x14 x15:AV) (m:Mem) (K:KT):OM:=qbq (qaM cfg 166 (AP cfg) (AC cfg) (c1 (c1 (c1 (c2 (c2 (c1 (c2 (c1 (c2 (qaq f166))))))))))) (cfg.mask 166 (some 15)) ⟨(x0::yA1 (x2::yA1 (x4::yA8 (yA1 (x14::x15::qdC (qdC (qdC (yA8 (yA4 []))))))))),m⟩ K
def quS (m:Mem):St:=⟨(qdC (qdC (qdC (qd7 (yA8 (yA4 [])))))),m⟩
noncomputable def qlQ (x0 x14 x17:AV) (m:Mem) (K:KT):OM:=qbq (qaM cfg 166 (AP cfg) (AC cfg) (c1 (c1 (c2 (c1 (c2 (c2 (c2 (c1 (c2 (c1 (c2 (qaq f166))))))))))))) (cfg.mask 166 (some 21)) ⟨(x0::yA8 (yA4 (yA1 (x14::yA2 (x17::qdC (qdC (qdC (yA8 (yA2 []))))))))),m⟩ K
def qlX (x0 x1 x2 x3 x4 x18 x19 x20:AV) (m:Mem):St:=⟨(x0::x1::x2::x3::x4::yA8 (yA4 (yA1 (x18::x19::x20::qdC (qdC (qdC (yA4 (yA2 (yA1 []))))))))),m⟩
noncomputable def qfg (x0 x1 x2 x3 x4 x18 x19 x20 x21 x22:AV) (m:Mem) (K:KT):OM:=qbq (qaM cfg 166 (AP cfg) (AC cfg) (c1 (c1 (c1 (c2 (c2 (c2 (c2 (c2 (c2 (c2 (qaq f166)))))))))))) (cfg.mask 166 (some 33)) ⟨(x0::x1::x2::x3::x4::yA8 (yA4 (yA1 (x18::x19::x20::x21::x22::qdC (qdC (qdC (yA4 (yA1 [])))))))),m⟩ K
noncomputable abbrev qp7 (K:KT):KT:=qdH (fun st=>qaM cfg 166 (AP cfg) (AC cfg) (c2 (qaq f166)) st K) K
noncomputable abbrev qxH (K:KT):KT:=qdH (fun st=>qaM cfg 166 (AP cfg) (AC cfg) (c2 (c2 (c2 (c1 (c2 (c1 (qaq f166))))))) st (qp7 K)) (qp7 K)
noncomputable abbrev qxI (K:KT):KT:=qbb 0 (qxH K)
noncomputable abbrev qtN (K:KT):KT:=(qxI K)
noncomputable abbrev qm0 (K:KT):KT:=qdH (fun st=>qaM cfg 166 (AP cfg) (AC cfg) (c2 (c2 (qaq f166))) st K) K
noncomputable abbrev qtJ (K:KT):KT:=qdH (fun st=>qaM cfg 166 (AP cfg) (AC cfg) (c2 (c2 (c2 (c1 (c2 (c1 (c2 (qaq f166)))))))) st (qm0 K)) (qm0 K)
noncomputable abbrev qtK (K:KT):KT:=qbb 4 (qtJ K)
noncomputable abbrev qoK (K:KT):KT:=(qtK K)
noncomputable abbrev qtO (K:KT):KT:=qdH (fun st=>qaM cfg 166 (AP cfg) (AC cfg) (c2 (c2 (c2 (c2 (c2 (c2 (c2 (c2 (qaq f166))))))))) st K) K
noncomputable abbrev qtP (K:KT):KT:=qbb 8 (qtO K)
noncomputable abbrev qg9 (K:KT):KT:=(qtP K)
noncomputable abbrev qp8 (K:KT):KT:=qdH (fun st=>qaM cfg 166 (AP cfg) (AC cfg) (c2 (qaq f166)) st K) K
noncomputable abbrev qxJ (K:KT):KT:=qdH (fun st=>qaM cfg 166 (AP cfg) (AC cfg) (c2 (c2 (c2 (c2 (c1 (c2 (c1 (qaq f166)))))))) st (qp8 K)) (qp8 K)
noncomputable abbrev qxK (K:KT):KT:=qbb 2 (qxJ K)
noncomputable abbrev qtR (K:KT):KT:=(qxK K)
noncomputable abbrev qm1 (K:KT):KT:=qdH (fun st=>qaM cfg 166 (AP cfg) (AC cfg) (c2 (c2 (qaq f166))) st K) K
noncomputable abbrev qtL (K:KT):KT:=qdH (fun st=>qaM cfg 166 (AP cfg) (AC cfg) (c2 (c2 (c2 (c2 (c1 (c2 (c1 (c2 (qaq f166))))))))) st (qm1 K)) (qm1 K)
noncomputable abbrev qtM (K:KT):KT:=qbb 6 (qtL K)
noncomputable abbrev qoL (K:KT):KT:=(qtM K)
theorem qIk (a0 a1 a2 a3 a4:AV) (m:Mem):AC cfg 166 [a0,a1,a2,a3,a4] m =
 (qaz .other .sub a2 a1).bind fun v1=>
 (qaz .other .eql v1 (.int .i64 1)).bind fun v2=>
 ifA v2 (
 qi8 a0 a1 a4 a2 a3 m (qtN (qbw cfg.P f166.results.toList))) (
 (qaz .other .sub a3 a2).bind fun v3=>
 (qaz .other .eql v3 (.int .i64 1)).bind fun v4=>
 ifA v4 (
 qha a0 a2 a4 a1 a2 m (qoK (qbw cfg.P f166.results.toList))) (
 (qaz .other .add a1 a3).bind fun v5=>
 (qbl .u64 v5).bind fun v6=>
 (qaz .other .shr v6 (.int .u64 1)).bind fun v7=>
 (qbl .i64 v7).bind fun v8=>
 (qaz .other .add v8 a2).bind fun v9=>
 (qaz .other .gtr a2 v8).bind fun v10=>
 ifA v10 (
 (qaz .other .sub v9 a3).bind fun v11=>
 (qaz .other .sub v9 (.int .i64 1)).bind fun v12=>
 qfg a0 a1 a2 a3 a4 v8 v9 v11 v8 v12 m (qg9 (qbw cfg.P f166.results.toList))) (
 (qaz .other .sub v9 (.int .i64 1)).bind fun v13=>
 qfg a0 a1 a2 a3 a4 v8 v9 a1 a2 v13 m (qg9 (qbw cfg.P f166.results.toList))))):=
(qbx cfg 166 [a0,a1,a2,a3,a4] m (fn:=f166) (c:=qaq f166) qGD rfl).trans (by kernel_rfl)
theorem qnp (x0 x1 x4 x10 x11:AV) (m:Mem) (K:KT):qi8 x0 x1 x4 x10 x11 m K =
 (qaz .other .lss x10 x11).bind fun v1=>
 ifA v1 (
 (qaz .other .add x10 x11).bind fun v2=>
 (qbl .u64 v2).bind fun v3=>
 (qaz .other .shr v3 (.int .u64 1)).bind fun v4=>
 (qbl .i64 v4).bind fun v5=>
 (qag none x0 v5).bind fun v6=>
 (qat none m v6).bind fun v7=>
 (qag none x0 x1).bind fun v8=>
 (qat none m v8).bind fun v9=>
 (qlv x4).bind fun g10=>
 qfL cfg 166 (AP cfg) (AC cfg) none g10.1 ([v7,v9]++g10.2) m fun v11 m12=>
 (qaz .other .lss v11 (.int .i64 0)).bind fun v13=>
 ifA v13 (
 (qaz .other .add v5 (.int .i64 1)).bind fun v14=>
 qi8 x0 x1 x4 v14 x11 m12 K) (
 qi8 x0 x1 x4 x10 v5 m12 K)) (
 K (.exit 0) (quT x0 x1 x10 m)):=
(qa3 (qaT _) _ _ _).trans (by kernel_rfl)
theorem qnq (x0 x10 x13:AV) (m:Mem) (K:KT):qqq x0 x10 x13 m K =
 (qaz .other .sub x10 (.int .i64 1)).bind fun v1=>
 (qaz .other .lss x13 v1).bind fun v2=>
 ifA v2 (
 (qaz .other .add x13 (.int .i64 1)).bind fun v3=>
 (qaz .other .add x13 (.int .i64 1)).bind fun v4=>
 (qag none x0 v4).bind fun v5=>
 (qat none m v5).bind fun v6=>
 (qag none x0 x13).bind fun v7=>
 (qat none m v7).bind fun v8=>
 (qag none x0 x13).bind fun v9=>
 (qaR none m v9 v6).bind fun m10=>
 (qag none x0 v3).bind fun v11=>
 (qaR none m10 v11 v8).bind fun m12=>
 (qaz .other .add x13 (.int .i64 1)).bind fun v13=>
 qqq x0 x10 v13 m12 K) (
 K (.exit 2) (qAe m)):=
(qa3 (qaT _) _ _ _).trans (by kernel_rfl)
theorem qk9 (x0 x2 x4 x14 x15:AV) (m:Mem) (K:KT):qha x0 x2 x4 x14 x15 m K =
 (qaz .other .lss x14 x15).bind fun v1=>
 ifA v1 (
 (qaz .other .add x14 x15).bind fun v2=>
 (qbl .u64 v2).bind fun v3=>
 (qaz .other .shr v3 (.int .u64 1)).bind fun v4=>
 (qbl .i64 v4).bind fun v5=>
 (qag none x0 x2).bind fun v6=>
 (qat none m v6).bind fun v7=>
 (qag none x0 v5).bind fun v8=>
 (qat none m v8).bind fun v9=>
 (qlv x4).bind fun g10=>
 qfL cfg 166 (AP cfg) (AC cfg) none g10.1 ([v7,v9]++g10.2) m fun v11 m12=>
 (qaz .other .lss v11 (.int .i64 0)).bind fun v13=>
 (unA .not v13).bind fun v14=>
 ifA v14 (
 (qaz .other .add v5 (.int .i64 1)).bind fun v15=>
 qha x0 x2 x4 v15 x15 m12 K) (
 qha x0 x2 x4 x14 v5 m12 K)) (
 K (.exit 4) (qoY x0 x2 x14 m)):=
(qa3 (qaT _) _ _ _).trans (by kernel_rfl)
theorem qla (x0 x14 x17:AV) (m:Mem) (K:KT):qlQ x0 x14 x17 m K =
 (qaz .other .gtr x17 x14).bind fun v1=>
 ifA v1 (
 (qaz .other .sub x17 (.int .i64 1)).bind fun v2=>
 (qaz .other .sub x17 (.int .i64 1)).bind fun v3=>
 (qag none x0 v3).bind fun v4=>
 (qat none m v4).bind fun v5=>
 (qag none x0 x17).bind fun v6=>
 (qat none m v6).bind fun v7=>
 (qag none x0 x17).bind fun v8=>
 (qaR none m v8 v5).bind fun m9=>
 (qag none x0 v2).bind fun v10=>
 (qaR none m9 v10 v7).bind fun m11=>
 (qaz .other .sub x17 (.int .i64 1)).bind fun v12=>
 qlQ x0 x14 v12 m11 K) (
 K (.exit 6) (quS m)):=
(qa3 (qaT _) _ _ _).trans (by kernel_rfl)
theorem qlb (x0 x1 x2 x3 x4 x18 x19 x20 x21 x22:AV) (m:Mem) (K:KT):qfg x0 x1 x2 x3 x4 x18 x19 x20 x21 x22 m K =
 (qaz .other .lss x20 x21).bind fun v1=>
 ifA v1 (
 (qaz .other .add x20 x21).bind fun v2=>
 (qbl .u64 v2).bind fun v3=>
 (qaz .other .shr v3 (.int .u64 1)).bind fun v4=>
 (qbl .i64 v4).bind fun v5=>
 (qaz .other .sub x22 v5).bind fun v6=>
 (qag none x0 v6).bind fun v7=>
 (qat none m v7).bind fun v8=>
 (qag none x0 v5).bind fun v9=>
 (qat none m v9).bind fun v10=>
 (qlv x4).bind fun g11=>
 qfL cfg 166 (AP cfg) (AC cfg) none g11.1 ([v8,v10]++g11.2) m fun v12 m13=>
 (qaz .other .lss v12 (.int .i64 0)).bind fun v14=>
 (unA .not v14).bind fun v15=>
 ifA v15 (
 (qaz .other .add v5 (.int .i64 1)).bind fun v16=>
 qfg x0 x1 x2 x3 x4 x18 x19 v16 x21 x22 m13 K) (
 qfg x0 x1 x2 x3 x4 x18 x19 x20 v5 x22 m13 K)) (
 K (.exit 8) (qlX x0 x1 x2 x3 x4 x18 x19 x20 m)):=
(qa3 (qaT _) _ _ _).trans (by kernel_rfl)
theorem qtQ (x0 x1 x10:AV) (m:Mem):qtN (qbw cfg.P f166.results.toList) (.exit 0) (quT x0 x1 x10 m) =
 qqq x0 x10 x1 m (qtR (qbw cfg.P f166.results.toList)):=by kernel_rfl
theorem qsb (x0 x2 x14:AV) (m:Mem):qoK (qbw cfg.P f166.results.toList) (.exit 4) (qoY x0 x2 x14 m) =
 qlQ x0 x14 x2 m (qoL (qbw cfg.P f166.results.toList)):=by kernel_rfl
theorem qsd (x0 x1 x2 x3 x4 x18 x19 x20:AV) (m:Mem):qg9 (qbw cfg.P f166.results.toList) (.exit 8) (qlX x0 x1 x2 x3 x4 x18 x19 x20 m) =
 (qaz .other .sub x19 x20).bind fun v1=>
 (qaz .other .lss x20 x2).bind fun v2=>
 ifA v2 (
 (qaz .other .lss x2 v1).bind fun v3=>
 ifA v3 (
 (AC cfg 186 [x0,x20,x2,v1,x4] m).bind fun r4=>
 (qaz .other .lss x1 x20).bind fun v5=>
 ifA v5 (
 (qaz .other .lss x20 x18).bind fun v6=>
 ifA v6 (
 (AC cfg 166 [x0,x1,x20,x18,x4] r4.2).bind fun r7=>
 (qaz .other .lss x18 v1).bind fun v8=>
 ifA v8 (
 (qaz .other .lss v1 x3).bind fun v9=>
 ifA v9 (
 (AC cfg 166 [x0,x18,v1,x3,x4] r7.2).bind fun r10=>
 some ((.tup []),r10.2)) (
 some ((.tup []),r7.2))) (
 some ((.tup []),r7.2))) (
 (qaz .other .lss x18 v1).bind fun v11=>
 ifA v11 (
 (qaz .other .lss v1 x3).bind fun v12=>
 ifA v12 (
 (AC cfg 166 [x0,x18,v1,x3,x4] r4.2).bind fun r13=>
 some ((.tup []),r13.2)) (
 some ((.tup []),r4.2))) (
 some ((.tup []),r4.2)))) (
 (qaz .other .lss x18 v1).bind fun v14=>
 ifA v14 (
 (qaz .other .lss v1 x3).bind fun v15=>
 ifA v15 (
 (AC cfg 166 [x0,x18,v1,x3,x4] r4.2).bind fun r16=>
 some ((.tup []),r16.2)) (
 some ((.tup []),r4.2))) (
 some ((.tup []),r4.2)))) (
 (qaz .other .lss x1 x20).bind fun v17=>
 ifA v17 (
 (qaz .other .lss x20 x18).bind fun v18=>
 ifA v18 (
 (AC cfg 166 [x0,x1,x20,x18,x4] m).bind fun r19=>
 (qaz .other .lss x18 v1).bind fun v20=>
 ifA v20 (
 (qaz .other .lss v1 x3).bind fun v21=>
 ifA v21 (
 (AC cfg 166 [x0,x18,v1,x3,x4] r19.2).bind fun r22=>
 some ((.tup []),r22.2)) (
 some ((.tup []),r19.2))) (
 some ((.tup []),r19.2))) (
 (qaz .other .lss x18 v1).bind fun v23=>
 ifA v23 (
 (qaz .other .lss v1 x3).bind fun v24=>
 ifA v24 (
 (AC cfg 166 [x0,x18,v1,x3,x4] m).bind fun r25=>
 some ((.tup []),r25.2)) (
 some ((.tup []),m))) (
 some ((.tup []),m)))) (
 (qaz .other .lss x18 v1).bind fun v26=>
 ifA v26 (
 (qaz .other .lss v1 x3).bind fun v27=>
 ifA v27 (
 (AC cfg 166 [x0,x18,v1,x3,x4] m).bind fun r28=>
 some ((.tup []),r28.2)) (
 some ((.tup []),m))) (
 some ((.tup []),m))))) (
 (qaz .other .lss x1 x20).bind fun v29=>
 ifA v29 (
 (qaz .other .lss x20 x18).bind fun v30=>
 ifA v30 (
 (AC cfg 166 [x0,x1,x20,x18,x4] m).bind fun r31=>
 (qaz .other .lss x18 v1).bind fun v32=>
 ifA v32 (
 (qaz .other .lss v1 x3).bind fun v33=>
 ifA v33 (
 (AC cfg 166 [x0,x18,v1,x3,x4] r31.2).bind fun r34=>
 some ((.tup []),r34.2)) (
 some ((.tup []),r31.2))) (
 some ((.tup []),r31.2))) (
 (qaz .other .lss x18 v1).bind fun v35=>
 ifA v35 (
 (qaz .other .lss v1 x3).bind fun v36=>
 ifA v36 (
 (AC cfg 166 [x0,x18,v1,x3,x4] m).bind fun r37=>
 some ((.tup []),r37.2)) (
 some ((.tup []),m))) (
 some ((.tup []),m)))) (
 (qaz .other .lss x18 v1).bind fun v38=>
 ifA v38 (
 (qaz .other .lss v1 x3).bind fun v39=>
 ifA v39 (
 (AC cfg 166 [x0,x18,v1,x3,x4] m).bind fun r40=>
 some ((.tup []),r40.2)) (
 some ((.tup []),m))) (
 some ((.tup []),m)))):=by kernel_rfl
theorem qtS (m:Mem):qtR (qbw cfg.P f166.results.toList) (.exit 2) (qAe  m) =
 some ((.tup []),m):=by kernel_rfl
theorem qsc (m:Mem):qoL (qbw cfg.P f166.results.toList) (.exit 6) (quS  m) =
 some ((.tup []),m):=by kernel_rfl
def qAf (x0 x2 x4 x10:AV) (m:Mem):St:=⟨(x0::yA1 (x2::yA1 (x4::yA4 (yA1 (x10::qdR (yA8 (yA4 (yA2 (yA1 []))))))))),m⟩
noncomputable def qnw (x0 x2 x4 x10 x11:AV) (m:Mem) (K:KT):OM:=qbq (qaM cfg 186 (AP cfg) (AC cfg) (c1 (c1 (c1 (c2 (c2 (qaq f186))))))) (cfg.mask 186 (some 2)) ⟨(x0::yA1 (x2::yA1 (x4::yA4 (yA1 (x10::x11::qdR (yA8 (yA4 (yA2 [])))))))),m⟩ K
noncomputable abbrev qx2 (K:KT):KT:=qdH (fun st=>qaM cfg 186 (AP cfg) (AC cfg) (c2 (c2 (c2 (qaq f186)))) st K) K
noncomputable abbrev qx3 (K:KT):KT:=qbb 0 (qx2 K)
noncomputable abbrev qt1 (K:KT):KT:=(qx3 K)
theorem qIq (a0 a1 a2 a3 a4:AV) (m:Mem):AC cfg 186 [a0,a1,a2,a3,a4] m =
 (qaz .other .sub a2 a1).bind fun v1=>
 (qaz .other .sub a3 a2).bind fun v2=>
 qnw a0 a2 a4 v1 v2 m (qt1 (qbw cfg.P f186.results.toList)):=
(qbx cfg 186 [a0,a1,a2,a3,a4] m (fn:=f186) (c:=qaq f186) qGL rfl).trans (by kernel_rfl)
theorem qjS (x0 x2 x4 x10 x11:AV) (m:Mem) (K:KT):qnw x0 x2 x4 x10 x11 m K =
 (qaz .other .neq x10 x11).bind fun v1=>
 ifA v1 (
 (qaz .other .gtr x10 x11).bind fun v2=>
 ifA v2 (
 (qaz .other .sub x2 x10).bind fun v3=>
 (AC cfg 201 [x0,v3,x2,x11,x4] m).bind fun r4=>
 (qaz .other .sub x10 x11).bind fun v5=>
 qnw x0 x2 x4 v5 x11 r4.2 K) (
 (qaz .other .sub x2 x10).bind fun v6=>
 (qaz .other .add x2 x11).bind fun v7=>
 (qaz .other .sub v7 x10).bind fun v8=>
 (AC cfg 201 [x0,v6,v8,x10,x4] m).bind fun r9=>
 (qaz .other .sub x11 x10).bind fun v10=>
 qnw x0 x2 x4 x10 v10 r9.2 K)) (
 K (.exit 0) (qAf x0 x2 x4 x10 m)):=
(qa3 (qaT _) _ _ _).trans (by kernel_rfl)
theorem qt2 (x0 x2 x4 x10:AV) (m:Mem):qt1 (qbw cfg.P f186.results.toList) (.exit 0) (qAf x0 x2 x4 x10 m) =
 (qaz .other .sub x2 x10).bind fun v1=>
 (AC cfg 201 [x0,v1,x2,x10,x4] m).bind fun r2=>
 some ((.tup []),r2.2):=by kernel_rfl
def qAg (m:Mem):St:=⟨(qdR (yA4 (yA2 []))),m⟩
noncomputable def qqz (x0 x1 x2 x3 x10:AV) (m:Mem) (K:KT):OM:=qbq (qaM cfg 201 (AP cfg) (AC cfg) (c1 (c1 (c2 (qaq f201))))) (cfg.mask 201 (some 1)) ⟨(x0::x1::x2::x3::yA4 (yA2 (x10::qd7 (yA8 (yA2 (yA1 [])))))),m⟩ K
noncomputable abbrev qyb (K:KT):KT:=qbb 0 K
noncomputable abbrev quk (K:KT):KT:=(qyb K)
theorem qIs (a0 a1 a2 a3 a4:AV) (m:Mem):AC cfg 201 [a0,a1,a2,a3,a4] m =
 qqz a0 a1 a2 a3 (.int .i64 0) m (quk (qbw cfg.P f201.results.toList)):=
(qbx cfg 201 [a0,a1,a2,a3,a4] m (fn:=f201) (c:=qaq f201) qGO rfl).trans (by kernel_rfl)
theorem qnx (x0 x1 x2 x3 x10:AV) (m:Mem) (K:KT):qqz x0 x1 x2 x3 x10 m K =
 (qaz .other .lss x10 x3).bind fun v1=>
 ifA v1 (
 (qaz .other .add x1 x10).bind fun v2=>
 (qaz .other .add x2 x10).bind fun v3=>
 (qaz .other .add x2 x10).bind fun v4=>
 (qag none x0 v4).bind fun v5=>
 (qat none m v5).bind fun v6=>
 (qaz .other .add x1 x10).bind fun v7=>
 (qag none x0 v7).bind fun v8=>
 (qat none m v8).bind fun v9=>
 (qag none x0 v2).bind fun v10=>
 (qaR none m v10 v6).bind fun m11=>
 (qag none x0 v3).bind fun v12=>
 (qaR none m11 v12 v9).bind fun m13=>
 (qaz .other .add x10 (.int .i64 1)).bind fun v14=>
 qqz x0 x1 x2 x3 v14 m13 K) (
 K (.exit 0) (qAg m)):=
(qa3 (qaT _) _ _ _).trans (by kernel_rfl)
theorem qul (m:Mem):quk (qbw cfg.P f201.results.toList) (.exit 0) (qAg  m) =
 some ((.tup []),m):=by kernel_rfl
end Go.Ab

/- A stable sort on a row in memory: exchanges, moves, turns, insertion. -/
set_option maxRecDepth 100000
namespace Go.Ab
open Go.Proofs Go.Proofs.Tryz
abbrev ni (n:Nat):AV:=.int .i64 (n:Int)
def ds (l:List Nat):List AV:=(l.map Int.ofNat).map (AV.int .i64)
theorem qvA (l:List Nat):(ds l).length=l.length:=by simp[ds]
theorem qvz {l:List Nat} {i x:Nat} (h:l[i]?=some x):(ds l)[i]?=some (ni x):=by simp[ds,h]
theorem qEB (l:List Nat) (i x:Nat):(ds l).set i (ni x)=ds (l.set i x):=by simp[ds,List.map_set]
structure SD (m0:Mem) (nm N L:Nat) (m:Mem) (l:List Nat):Prop where
 fr:Fr m0 m [nm]
 hd:m.get nm=some (.obj false (ds l))
 hl:l.length=L
 hN:∀ x∈l,x < N
def qiG (m0:Mem) (nm N:Nat) (p:AV) (f:Nat->Int):Prop:=∀ m,Fr m0 m [nm]->∀ x y:Nat,x < N->y < N->∃ m',AC cfg 67 [ni x,ni y,p] m=some (.int .i64 (f x - f y),m')/\Fr m m' []
section
variable {m0:Mem} {nm N L:Nat} {m:Mem} {l:List Nat}
theorem SD.ld (h:SD m0 nm N L m l) {i x:Nat} (hi:l[i]?=some x):qat none m (.ptr nm i)=some (ni x):=by
 rw[qea,h.hd,qd5,oBs,qC0];exact qvz hi
theorem SD.ld' (h:SD m0 nm N L m l) {i:Nat} (hi:i < L):qat none m (.ptr nm i)=some (ni (l.getD i 0))/\l.getD i 0 < N:=by
 have hil:i < l.length:=by rw[h.hl];exact hi
 have e:l[i]?=some (l.getD i 0):=by rw[qaa,qam hil];rfl
 exact ⟨h.ld e,h.hN _ (List.mem_of_getElem? e)⟩
theorem SD.st (h:SD m0 nm N L m l) {i x:Nat} (hi:i < l.length):qaR none m (.ptr nm i) (ni x)=some (m.set nm (some (.obj false (ds (l.set i x))))):=by
 have hg:m.obj? nm=some (false,ds l):=by rw[qeA,h.hd];rfl
 have h1:i+1<=l.length:=hi
 simp only[qaR,hg,oBs,Sh.size,qvA,h1,qa5,qeJ,qcE,AV.cells]
 congr 4
 rw[<- qEB,qbK,qfH,qal (by rw[qvA];exact hi)]
 simp
theorem SD.cmp (h:SD m0 nm N L m l) {p:AV} {f:Nat->Int} (hc:qiG m0 nm N p f) {x y:Nat} (hx:x < N) (hy:y < N):∃ m',AC cfg 67 ([ni x,ni y]++[p]) m=some (.int .i64 (f x - f y),m')/\SD m0 nm N L m' l:=by
 obtain ⟨m',e,k⟩:=hc m h.fr x y hx hy
 refine ⟨m',e,Fr.trans h.fr k (fun _ h=>by cases h),?_,h.hl,h.hN⟩
 rw[k.get nm (qbz h.hd) (by simp)];exact h.hd
theorem qDS {P M Q:List Nat} {x y:Nat}:(P++x::(M++y::Q))[P.length]?=some x/\(P++x::(M++y::Q))[P.length+1+M.length]?=some y /\
  ((P++x::(M++y::Q)).set P.length y).set (P.length+1+M.length) x=P++y::(M++x::Q)/\((P++x::(M++y::Q)).set (P.length+1+M.length) x).set P.length y=P++y::(M++x::Q):=by
 have a:∀ (P':List Nat) (u v:Nat) (R:List Nat),(P'++u::R)[P'.length]?=some u/\(P'++u::R).set P'.length v=P'++v::R:=fun P' u v R=>by
  constructor
  ·simp
  ·induction P' with
   | nil=>rfl
   | cons c P' ih=>simp
 have e1:P++x::(M++y::Q)=(P++x::M)++y::Q:=by simp
 have e2:P++y::(M++y::Q)=(P++y::M)++y::Q:=by simp
 have l1:P.length+1+M.length=(P++x::M).length:=by simp;omega
 have l2:P.length+1+M.length=(P++y::M).length:=by simp;omega
 refine ⟨(a P x y _).1,?_,?_,?_⟩
 ·rw[e1,l1];exact (a (P++x::M) y x Q).1
 ·rw[(a P x y (M++y::Q)).2,e2,l2,(a (P++y::M) y x Q).2];simp
 ·rw[e1,l1,(a (P++x::M) y x Q).2]
  have:(P++x::M)++x::Q=P++x::(M++x::Q):=by simp
  rw[this,(a P x y _).2]
theorem SD.put (h:SD m0 nm N L m l) {l':List Nat} (hp:l'.Perm l) (hlen:l'.length=l.length) {m':Mem} (fr:Fr m m' [nm]) (hd:m'.get nm=some (.obj false (ds l'))):SD m0 nm N L m' l':=
 ⟨Fr.trans h.fr fr (fun x hx=>.inl hx),hd,hlen.trans h.hl,fun x hx=>h.hN x (hp.mem_iff.1 hx)⟩
theorem SD.swap {P M Q:List Nat} {x y i j:Nat} (h:SD m0 nm N L m (P++x::(M++y::Q))) (hi:i=P.length) (hj:j=P.length+1+M.length) :
  qat none m (.ptr nm i)=some (ni x)/\qat none m (.ptr nm j)=some (ni y) /\
  (∃ m1 m2,qaR none m (.ptr nm i) (ni y)=some m1/\qaR none m1 (.ptr nm j) (ni x)=some m2/\SD m0 nm N L m2 (P++y::(M++x::Q))) /\
  (∃ m1 m2,qaR none m (.ptr nm j) (ni x)=some m1/\qaR none m1 (.ptr nm i) (ni y)=some m2/\SD m0 nm N L m2 (P++y::(M++x::Q))):=by
 subst hi hj
 obtain ⟨a1,a2,a3,a4⟩:=qDS (P:=P) (M:=M) (Q:=Q) (x:=x) (y:=y)
 have hlt:=qbz h.hd
 have li:P.length < (P++x::(M++y::Q)).length:=by simp
 have lj:P.length+1+M.length < (P++x::(M++y::Q)).length:=by simp;omega
 have hp:(P++y::(M++x::Q)).Perm (P++x::(M++y::Q)):=by
  refine qh9 P ?_
  have e:∀ u v:Nat,(u::(M++v::Q)).Perm (u::v::(M++Q)):=fun u v=>List.Perm.cons u List.perm_middle
  exact (e y x).trans ((List.Perm.swap x y _).trans (e x y).symm)
 have go:∀ (i j u v:Nat),i < (P++x::(M++y::Q)).length->j < (P++x::(M++y::Q)).length->u < N->((P++x::(M++y::Q)).set i u).set j v=P++y::(M++x::Q) ->
   ∃ m1 m2,qaR none m (.ptr nm i) (ni u)=some m1/\qaR none m1 (.ptr nm j) (ni v)=some m2/\SD m0 nm N L m2 (P++y::(M++x::Q)):=by
  intro i j u v hi hj hu he
  refine ⟨_,(m.set nm (some (.obj false (ds ((P++x::(M++y::Q)).set i u))))).set nm (some (.obj false (ds (P++y::(M++x::Q))))),h.st hi,?_,?_⟩
  ·have h':SD m0 nm N L (m.set nm (some (.obj false (ds ((P++x::(M++y::Q)).set i u))))) ((P++x::(M++y::Q)).set i u):=by
    refine ⟨h.fr.set _ (.inl (by simp)),qdF rfl hlt,by rw[qai];exact h.hl,fun z hz=>?_⟩
    rcases List.mem_or_eq_of_mem_set hz with hz | rfl
    ·exact h.hN z hz
    ·exact hu
   rw[h'.st (by rw[qai];exact hj),he]
  ·exact h.put hp (by simp) (((Fr.refl m [nm]).set _ (.inl (by simp))).set _ (.inl (by simp))) (qdF rfl (by rw[qai];exact hlt))
 have hx:=h.hN x (by simp)
 have hy:=h.hN y (by simp)
 exact ⟨h.ld a1,h.ld a2,go _ _ _ _ li lj hy a3,go _ _ _ _ lj li hx a4⟩
end
section
variable {m0:Mem} {nm N L:Nat} {p:AV} {f:Nat->Int}
theorem qIS (hL:L<=100000) (x4:AV) {pre mid post:List Nat} (a b n:Nat) (ha:a=pre.length) (hb:b=a+n+mid.length):∀ (X2 Y2 X1 Y1:List Nat) (m:Mem),X2.length=Y2.length->X1.length=Y1.length->X1.length+X2.length=n ->
  SD m0 nm N L m (pre++(Y1++(X2++(mid++(X1++(Y2++post)))))) ->
  ∃ m',qqz (.arr nm 0 L none) (ni a) (ni b) (ni n) (ni X1.length) m (quk (qbw cfg.P f201.results.toList))=some (.tup [],m')/\SD m0 nm N L m' (pre++((Y1++Y2)++(mid++((X1++X2)++post)))):=by
 intro X2
 induction X2 with
 | nil=>
  intro Y2 X1 Y1 m h2 h1 hn h
  have:Y2=[]:=qa4 (by simpa using h2.symm)
  subst this
  refine ⟨m,?_,by simpa using h⟩
  rw[qnx,qaU,oBs,qap,qah (by simp at hn;omega),qul]
 | cons x X2 ih=>
  intro Y2 X1 Y1 m h2 h1 hn h
  cases Y2 with
  | nil=>simp at h2
  | cons y Y2=>
   simp only[qad] at h2 hn
   have hl:=h.hl
   simp only[qab,qad] at hl
   have h':SD m0 nm N L m ((pre++Y1)++x::((X2++(mid++X1))++y::(Y2++post))):=by simpa using h
   obtain ⟨l1,l2,⟨m1,m2,s1,s2,k⟩,_⟩:=h'.swap (i:=a+X1.length) (j:=b+X1.length) (by simp;omega) (by simp;omega)
   obtain ⟨m',e,k'⟩:=ih Y2 (X1++[x]) (Y1++[y]) m2 (by omega) (by simp[h1]) (by simp;omega) (by simpa using k)
   refine ⟨m',?_,by simpa using k'⟩
   have ia:qag none (.arr nm 0 L none) (ni (a+X1.length))=some (.ptr nm (a+X1.length)):=qbf (by omega)
   have ib:qag none (.arr nm 0 L none) (ni (b+X1.length))=some (.ptr nm (b+X1.length)):=qbf (by omega)
   rw[qnx,qaU,oBs,qap,qal (by omega),qfu (by omega),oBs,qfu (by omega),oBs,oBs,ib,oBs,l2,oBs,oBs,ia,oBs,l1,oBs,oBs,s1,oBs,oBs,s2,oBs,qbM (by omega),oBs]
   rw[qab,qdo] at e
   exact e
theorem qFJ (hL:L<=100000) (x4:AV) {pre mid post X Y:List Nat} {m:Mem} (hXY:X.length=Y.length) (h:SD m0 nm N L m (pre++(X++(mid++(Y++post))))) {a b n:Nat} (ha:a=pre.length) (hn:n=X.length) (hb:b=a+n+mid.length) :
  ∃ m',AC cfg 201 [.arr nm 0 L none,ni a,ni b,ni n,x4] m=some (.tup [],m')/\SD m0 nm N L m' (pre++(Y++(mid++(X++post)))):=by
 obtain ⟨m',e,k⟩:=qIS hL x4 a b n ha hb X Y [] [] m hXY rfl (by simp[hn]) (by simpa using h)
 exact ⟨m',by rw[qIs];exact e,by simpa using k⟩
theorem qIR (hL:L<=100000) (x4:AV) (mm:Nat):∀ (k:Nat) (P A B Q:List Nat) (m:Mem),A.length+B.length=k->A≠[]->B≠[]->mm=P.length+A.length->SD m0 nm N L m (P++(A++(B++Q))) ->
  ∃ m',qnw (.arr nm 0 L none) (ni mm) x4 (ni A.length) (ni B.length) m (qt1 (qbw cfg.P f186.results.toList))=some (.tup [],m')/\SD m0 nm N L m' (P++(B++(A++Q))):=by
 intro k
 induction k using Nat.strongRecOn with
 | ind k ih=>
  intro P A B Q m hk hA hB hm h
  have hl:=h.hl
  simp only[qab] at hl
  have a0:=qg3.2 hA
  have b0:=qg3.2 hB
  by_cases he:A.length=B.length
  ·obtain ⟨m',e,k'⟩:=qFJ hL x4 (mid:=[]) he (by simpa using h) (a:=P.length) (b:=mm) (n:=A.length) rfl rfl (by simp[hm])
   refine ⟨m',?_,by simpa using k'⟩
   rw[qjS,qcW,oBs,qap,qah (by rw[he];simp),qt2,qgM (by omega) (by omega),oBs,show mm - A.length=P.length by omega,e,oBs]
  ·by_cases hg:B.length < A.length
   ·have eA:A=A.take B.length++A.drop B.length:=(qbj _ _).symm
    have t1:(A.take B.length).length=B.length:=by rw[qbn];omega
    have t2:(A.drop B.length).length=A.length - B.length:=qdt
    obtain ⟨m1,e,k1⟩:=qFJ hL x4 (pre:=P) (X:=A.take B.length) (mid:=A.drop B.length) (Y:=B) (post:=Q) t1 (by
     rw[<- qaL (A.take B.length),qbj];exact h) (a:=P.length) (b:=mm) (n:=B.length) rfl t1.symm (by omega)
    obtain ⟨m',e2,k2⟩:=ih A.length (by omega) (P++B) (A.drop B.length) (A.take B.length) Q m1 (by omega) (qcM (by omega)) (qcM (by omega)) (by simp;omega) (by simpa using k1)
    refine ⟨m',?_,?_⟩
    ·rw[qjS,qcW,oBs,qap,qal (by omega),qcB,oBs,qap,qal (by omega),qgM (by omega) (by omega),oBs,show mm - A.length=P.length by omega,e,oBs,qgM (by omega) (by omega),oBs]
     rw[t1,t2] at e2
     exact e2
    ·have:=k2
     rw[qaL,<- qaL (A.take B.length),qbj] at this
     exact this
   ·have eB:B=B.take (B.length - A.length)++B.drop (B.length - A.length):=(qbj _ _).symm
    have t1:(B.take (B.length - A.length)).length=B.length - A.length:=by rw[qbn];omega
    have t2:(B.drop (B.length - A.length)).length=A.length:=by rw[qdt];omega
    obtain ⟨m1,e,k1⟩:=qFJ hL x4 (pre:=P) (X:=A) (mid:=B.take (B.length - A.length)) (Y:=B.drop (B.length - A.length)) (post:=Q) t2.symm (by
     rw[<- qaL (B.take (B.length - A.length)),qbj];exact h) (a:=P.length) (b:=mm+B.length - A.length) (n:=A.length) rfl rfl (by omega)
    obtain ⟨m',e2,k2⟩:=ih B.length (by omega) P (B.drop (B.length - A.length)) (B.take (B.length - A.length)) (A++Q) m1 (by omega) (qcM (by omega)) (qcM (by omega)) (by omega) (by simpa using k1)
    refine ⟨m',?_,?_⟩
    ·rw[qjS,qcW,oBs,qap,qal (by omega),qcB,oBs,qap,qah (by omega),qgM (by omega) (by omega),oBs,show mm - A.length=P.length by omega,qfu (by omega),oBs,qgM (by omega) (by omega),oBs,e,oBs,qgM (by omega) (by omega),oBs]
     rw[t1,t2] at e2
     exact e2
    ·have:=k2
     rw[<- qaL (B.take (B.length - A.length)),qbj] at this
     exact this
theorem qHL (hL:L<=100000) (x4:AV) {P A B Q:List Nat} {m:Mem} (hA:A≠[]) (hB:B≠[]) (h:SD m0 nm N L m (P++(A++(B++Q)))) {a mm b:Nat} (ha:a=P.length) (hm:mm=a+A.length) (hb:b=mm+B.length) :
  ∃ m',AC cfg 186 [.arr nm 0 L none,ni a,ni mm,ni b,x4] m=some (.tup [],m')/\SD m0 nm N L m' (P++(B++(A++Q))):=by
 have hl:=h.hl
 simp only[qab] at hl
 obtain ⟨m',e,k⟩:=qIR hL x4 mm _ P A B Q m rfl hA hB (by omega) h
 refine ⟨m',?_,k⟩
 rw[qIq,qgM (by omega) (by omega),oBs,qgM (by omega) (by omega),oBs,show mm - a=A.length by omega,show b - mm=B.length by omega]
 exact e
theorem qIN (hL:L<=100000) (hc:qiG m0 nm N p f) {pre post:List Nat} (x2 x8:AV) {x:Nat} (K:KT):∀ (k:Nat) (S1 S2:List Nat) (m:Mem),S1.length=k->Srt f (S1++S2)->(∀ s∈S2,f x<=f s)->SD m0 nm N L m (pre++(S1++x::(S2++post))) ->
  ∃ (m':Mem) (T1 T2:List Nat),qk8 (.arr nm 0 L none) (ni pre.length) x2 (.fn 67 [p]) x8 (ni (pre.length+S1.length)) m K=K (.exit 2) (qnB (.arr nm 0 L none) (ni pre.length) x2 (.fn 67 [p]) x8 m') /\
   SD m0 nm N L m' (pre++(T1++x::(T2++post)))/\T1++T2=S1++S2/\(∀ t∈T1,f t<=f x)/\∀ t∈T2,f x<=f t:=by
 intro k
 induction k with
 | zero=>
  intro S1 S2 m hk hs h2 h
  have:S1=[]:=qa4 hk
  subst this
  refine ⟨m,[],S2,?_,h,rfl,by simp,h2⟩
  rw[qno,qcB,oBs,qap,qah (by simp)]
 | succ k ih=>
  intro S1 S2 m hk hs h2 h
  obtain ⟨S,y,rfl⟩:∃ S y,S1=S++[y]:=by
   have hne:S1≠[]:=fun e=>by simp[e] at hk
   exact ⟨S1.dropLast,S1.getLast hne,(List.dropLast_concat_getLast hne).symm⟩
  have hl:=h.hl
  simp only[qab,qad,qae] at hl hk ⊢
  have h':SD m0 nm N L m ((pre++S)++y::([]++x::(S2++post))):=by simpa using h
  have hjl:pre.length+(S.length+1) - 1=(pre++S).length:=by simp
  have hj:pre.length+(S.length+1)=(pre++S).length+1+([]:List Nat).length:=by simp;omega
  obtain ⟨l1,l2,_,_⟩:=h'.swap hjl hj
  have hx:=h.hN x (by simp)
  have hy:=h.hN y (by simp)
  obtain ⟨m1,e1,k1⟩:=h.cmp hc hx hy
  have ia:qag none (.arr nm 0 L none) (ni (pre.length+(S.length+1)))=some (.ptr nm (pre.length+(S.length+1))):=qbf (by omega)
  have ib:qag none (.arr nm 0 L none) (ni (pre.length+(S.length+1) - 1))=some (.ptr nm (pre.length+(S.length+1) - 1)):=qbf (by omega)
  have is:qaz .other .sub (ni (pre.length+(S.length+1))) (.int .i64 1)=some (ni (pre.length+(S.length+1) - 1)):=qfN (by omega) (by omega)
  have hpr:qk8 (.arr nm 0 L none) (ni pre.length) x2 (.fn 67 [p]) x8 (ni (pre.length+(S.length+1))) m K=ifA (.bool (decide (f x - f y < 0))) (
    (qaz .other .sub (ni (pre.length+(S.length+1))) (.int .i64 1)).bind fun v11=>
    (qaz .other .sub (ni (pre.length+(S.length+1))) (.int .i64 1)).bind fun v12=>
    (qag none (.arr nm 0 L none) v12).bind fun v13=>
    (qat none m1 v13).bind fun v14=>
    (qag none (.arr nm 0 L none) (ni (pre.length+(S.length+1)))).bind fun v15=>
    (qat none m1 v15).bind fun v16=>
    (qag none (.arr nm 0 L none) (ni (pre.length+(S.length+1)))).bind fun v17=>
    (qaR none m1 v17 v14).bind fun m18=>
    (qag none (.arr nm 0 L none) v11).bind fun v19=>
    (qaR none m18 v19 v16).bind fun m20=>
    (qaz .other .sub (ni (pre.length+(S.length+1))) (.int .i64 1)).bind fun v21=>
    qk8 (.arr nm 0 L none) (ni pre.length) x2 (.fn 67 [p]) x8 v21 m20 K) (K (.exit 2) (qnB (.arr nm 0 L none) (ni pre.length) x2 (.fn 67 [p]) x8 m1)):=by
   rw[qno,qcB,oBs,qap,qal (by omega),ia,oBs,l2,oBs,is,oBs,ib,oBs,l1,oBs,show qlv (.fn 67 [p])=some (67,[p]) from rfl,oBs,qft rfl rfl rfl,e1,oBs,qaU,oBs]
  rw[hpr,qap]
  by_cases hlt:f x - f y < 0
  ·rw[qal hlt]
   have k1':SD m0 nm N L m1 ((pre++S)++y::([]++x::(S2++post))):=by simpa using k1
   obtain ⟨l1',l2',_,⟨m2,m3,s1,s2,k3⟩⟩:=k1'.swap hjl hj
   obtain ⟨m',T1,T2,e,q1,q2,q3,q4⟩:=ih S (y::S2) m3 (by omega) (by simpa using hs) (fun s hs'=>by
    rcases qa1.1 hs' with rfl | hs'
    ·omega
    ·exact h2 s hs') (by simpa using k3)
   refine ⟨m',T1,T2,?_,q1,by rw[q2];simp,q3,q4⟩
   rw[is,oBs,oBs,ib,oBs,l1',oBs,ia,oBs,l2',oBs,oBs,s1,oBs,oBs,s2,oBs,oBs]
   exact e
  ·rw[qah hlt]
   refine ⟨m1,S++[y],S2,rfl,k1,rfl,fun t ht=>?_,h2⟩
   have:=Srt.le_last (Srt.app.1 hs).1 t ht
   omega
theorem qF2 (hL:L<=100000) (hc:qiG m0 nm N p f) {pre post:List Nat} (b:Nat):∀ (R S:List Nat) (m:Mem),Srt f S->b=pre.length+S.length+R.length->SD m0 nm N L m (pre++(S++(R++post))) ->
  ∃ (m':Mem) (S':List Nat),qqp (.arr nm 0 L none) (ni pre.length) (ni b) (.fn 67 [p]) (ni (pre.length+S.length)) m (qp6 (qbw cfg.P f165.results.toList))=some (.tup [],m')/\SD m0 nm N L m' (pre++(S'++post))/\S'.Perm (S++R)/\Srt f S':=by
 intro R
 induction R with
 | nil=>
  intro S m hs hb h
  refine ⟨m,S,?_,by simpa using h,by simp,hs⟩
  rw[qjQ,qaU,oBs,qap,qah (by simp at hb;omega),qmZ]
 | cons x R ih=>
  intro S m hs hb h
  have hl:=h.hl
  simp only[qab,qad] at hl hb
  obtain ⟨m1,T1,T2,e,q1,q2,q3,q4⟩:=qIN hL hc (pre:=pre) (post:=R++post) (ni b) (ni (pre.length+S.length)) (x:=x) (qtH (qp6 (qbw cfg.P f165.results.toList))) S.length S [] m rfl (by simpa using hs) (by simp) (by simpa using h)
  rw[qav] at q2
  have hs':Srt f (T1++x::T2):=Srt.put (by rw[q2];exact hs) q3 q4
  have hlen:(T1++x::T2).length=S.length+1:=by rw[<- q2];simp;omega
  have hpm:(T1++x::T2).Perm (S++[x]):=by rw[<- q2];exact List.perm_middle.trans (List.perm_append_singleton x _).symm
  obtain ⟨m',S',e2,k1,k2,k3⟩:=ih (T1++x::T2) m1 hs' (by rw[hlen];omega) (by simpa using q1)
  refine ⟨m',S',?_,k1,k2.trans ?_,k3⟩
  ·rw[qjQ,qaU,oBs,qap,qal (by omega),e,qtI,qbM (by omega),oBs]
   rw[hlen] at e2
   exact e2
  ·refine (hpm.append_right R).trans ?_
   simp
theorem qHe (hL:L<=100000) (hc:qiG m0 nm N p f) {pre X post:List Nat} {m:Mem} (h:SD m0 nm N L m (pre++(X++post))) {a b:Nat} (ha:a=pre.length) (hb:b=a+X.length) :
  ∃ (m':Mem) (X':List Nat),AC cfg 165 [.arr nm 0 L none,ni a,ni b,.fn 67 [p]] m=some (.tup [],m')/\SD m0 nm N L m' (pre++(X'++post))/\X'.Perm X/\Srt f X':=by
 have hl:=h.hl
 simp only[qab] at hl
 subst ha
 cases X with
 | nil=>
  refine ⟨m,[],?_,by simpa using h,by simp,List.Pairwise.nil⟩
  rw[qHp,qbM (by omega),oBs,qjQ,qaU,oBs,qap,qah (by simp at hb;omega),qmZ]
 | cons x R=>
  obtain ⟨m',S',e,k1,k2,k3⟩:=qF2 hL hc (pre:=pre) (post:=post) b R [x] m (List.pairwise_singleton _ _) (by rw[hb];simp only[qad,qae];omega) (by simpa using h)
  refine ⟨m',S',?_,k1,by simpa using k2,k3⟩
  rw[qHp,qbM (by omega),oBs]
  exact e
end
end Go.Ab

/- A stable sort on a row in memory: searches, moves of one element, the symmetric merge. -/
set_option maxRecDepth 100000
namespace Go.Ab
open Go.Proofs Go.Proofs.Tryz
theorem qJX (a:Nat):qaz .other .shr (.int .u64 (a:Int)) (.int .u64 1)=some (.int .u64 ((a / 2:Nat):Int)):=by
 rw[qq4 _ _ _ _ _ (by omega)]
 have:(a:Int).fdiv (2 ^ (min (1:Int).toNat (IntKind.bits .u64)))=((a / 2:Nat):Int):=by
  have e:min (1:Int).toNat (IntKind.bits .u64)=1:=rfl
  rw[e,Int.fdiv_eq_ediv_of_nonneg _ (by omega)]
  omega
 rw[this]
theorem qJR {k:IntKind} {a:Nat} (h:a < 9223372036854775808):qbl .i64 (.int k a)=some (ni a):=by rw[qcX,qbQ (by omega) (by omega)]
section
variable {R:Type}
theorem qzv {i j:Nat} (h:i+j < 1000000) (K:AV->Option R):((qaz .other .add (ni i) (ni j)).bind fun v2=>(qbl .u64 v2).bind fun v3=>(qaz .other .shr v3 (.int .u64 1)).bind fun v4=>(qbl .i64 v4).bind fun v5=>K v5)=K (ni ((i+j) / 2)):=by
 rw[qfu (by omega),oBs,qD1 (by omega),oBs,qJX,oBs,qJR (by omega),oBs]
end
section
variable {m0:Mem} {nm N L:Nat} {p:AV} {f:Nat->Int}
theorem S3 (hL:L<=100000) (hc:qiG m0 nm N p f) {l:List Nat} {a lo hi:Nat} (ha:a < L) (hh:hi<=L) (K:KT):∀ (k i j:Nat) (m:Mem),j - i=k->lo<=i->i<=j->j<=hi->(i=lo\/f (l.getD (i - 1) 0) < f (l.getD a 0))->(j=hi\/¬ f (l.getD j 0) < f (l.getD a 0))->SD m0 nm N L m l ->
  ∃ (m':Mem) (s:Nat),qi8 (.arr nm 0 L none) (ni a) (.fn 67 [p]) (ni i) (ni j) m K=K (.exit 0) (quT (.arr nm 0 L none) (ni a) (ni s) m')/\SD m0 nm N L m' l/\Edge (fun c=>f (l.getD c 0) < f (l.getD a 0)) lo hi s:=by
 intro k
 induction k using Nat.strongRecOn with
 | ind k ih=>
  intro i j m hk h1 h2 h3 h4 h5 h
  by_cases hij:i < j
  ·have hq1:i<=(i+j) / 2:=by omega
   have hq2:(i+j) / 2 < j:=by omega
   generalize hqe:(i+j) / 2=q at hq1 hq2
   obtain ⟨l1,n1⟩:=h.ld' (i:=q) (by omega)
   obtain ⟨l2,n2⟩:=h.ld' (i:=a) ha
   obtain ⟨m1,e1,k1⟩:=h.cmp hc n1 n2
   have i1:qag none (.arr nm 0 L none) (ni q)=some (.ptr nm q):=qbf (by omega)
   have i2:qag none (.arr nm 0 L none) (ni a)=some (.ptr nm a):=qbf ha
   have hpr:qi8 (.arr nm 0 L none) (ni a) (.fn 67 [p]) (ni i) (ni j) m K=ifA (.bool (decide (f (l.getD q 0) - f (l.getD a 0) < 0))) ((qaz .other .add (ni q) (.int .i64 1)).bind fun v14=>qi8 (.arr nm 0 L none) (ni a) (.fn 67 [p]) v14 (ni j) m1 K) (qi8 (.arr nm 0 L none) (ni a) (.fn 67 [p]) (ni i) (ni q) m1 K):=by
    rw[qnp,qaU,oBs,qap,qal (by omega),qzv (by omega),hqe,i1,oBs,l1,oBs,i2,oBs,l2,oBs,show qlv (.fn 67 [p])=some (67,[p]) from rfl,oBs,qft rfl rfl rfl,e1,oBs,qaU,oBs]
   rw[hpr,qap]
   by_cases ht:f (l.getD q 0) - f (l.getD a 0) < 0
   ·rw[qal ht,qbM (by omega),oBs]
    exact ih (j - (q+1)) (by omega) (q+1) j m1 rfl (by omega) (by omega) h3 (.inr (by rw[qbO];omega)) h5 k1
   ·rw[qah ht]
    exact ih (q - i) (by omega) i q m1 rfl h1 hq1 (by omega) h4 (.inr (by omega)) k1
  ·have:i=j:=by omega
   subst this
   refine ⟨m,i,?_,h,h1,h3,h4,h5⟩
   rw[qnp,qaU,oBs,qap,qah (by omega)]
theorem S15 (hL:L<=100000) (hc:qiG m0 nm N p f) {l:List Nat} {a lo hi:Nat} (ha:a < L) (hh:hi<=L) (K:KT):∀ (k i j:Nat) (m:Mem),j - i=k->lo<=i->i<=j->j<=hi->(i=lo\/f (l.getD (i - 1) 0)<=f (l.getD a 0))->(j=hi\/¬ f (l.getD j 0)<=f (l.getD a 0))->SD m0 nm N L m l ->
  ∃ (m':Mem) (s:Nat),qha (.arr nm 0 L none) (ni a) (.fn 67 [p]) (ni i) (ni j) m K=K (.exit 4) (qoY (.arr nm 0 L none) (ni a) (ni s) m')/\SD m0 nm N L m' l/\Edge (fun c=>f (l.getD c 0)<=f (l.getD a 0)) lo hi s:=by
 intro k
 induction k using Nat.strongRecOn with
 | ind k ih=>
  intro i j m hk h1 h2 h3 h4 h5 h
  by_cases hij:i < j
  ·have hq1:i<=(i+j) / 2:=by omega
   have hq2:(i+j) / 2 < j:=by omega
   generalize hqe:(i+j) / 2=q at hq1 hq2
   obtain ⟨l1,n1⟩:=h.ld' (i:=q) (by omega)
   obtain ⟨l2,n2⟩:=h.ld' (i:=a) ha
   obtain ⟨m1,e1,k1⟩:=h.cmp hc n2 n1
   have i1:qag none (.arr nm 0 L none) (ni q)=some (.ptr nm q):=qbf (by omega)
   have i2:qag none (.arr nm 0 L none) (ni a)=some (.ptr nm a):=qbf ha
   have hpr:qha (.arr nm 0 L none) (ni a) (.fn 67 [p]) (ni i) (ni j) m K=ifA (.bool (!decide (f (l.getD a 0) - f (l.getD q 0) < 0))) ((qaz .other .add (ni q) (.int .i64 1)).bind fun v14=>qha (.arr nm 0 L none) (ni a) (.fn 67 [p]) v14 (ni j) m1 K) (qha (.arr nm 0 L none) (ni a) (.fn 67 [p]) (ni i) (ni q) m1 K):=by
    rw[qk9,qaU,oBs,qap,qal (by omega),qzv (by omega),hqe,i2,oBs,l2,oBs,i1,oBs,l1,oBs,show qlv (.fn 67 [p])=some (67,[p]) from rfl,oBs,qft rfl rfl rfl,e1,oBs,qaU,oBs,qfU,oBs]
   rw[hpr]
   by_cases ht:f (l.getD a 0) - f (l.getD q 0) < 0
   ·rw[qa6 ht,qcC,qdW]
    exact ih (q - i) (by omega) i q m1 rfl h1 hq1 (by omega) h4 (.inr (by omega)) k1
   ·rw[qa7 ht,qcS,qfw,qbM (by omega),oBs]
    exact ih (j - (q+1)) (by omega) (q+1) j m1 rfl (by omega) (by omega) h3 (.inr (by rw[qbO];omega)) h5 k1
  ·have:i=j:=by omega
   subst this
   refine ⟨m,i,?_,h,h1,h3,h4,h5⟩
   rw[qk9,qaU,oBs,qap,qah (by omega)]
theorem S33 (hL:L<=100000) (hc:qiG m0 nm N p f) {l:List Nat} {pp lo hi:Nat} (hh:hi<=pp+1) (hp:pp < L+lo) (hhl:hi<=L) (x1 x2 x3 x18 x19:AV) (K:KT):∀ (k i j:Nat) (m:Mem),j - i=k->lo<=i->i<=j->j<=hi->(i=lo\/f (l.getD (i - 1) 0)<=f (l.getD (pp - (i - 1)) 0))->(j=hi\/¬ f (l.getD j 0)<=f (l.getD (pp - j) 0))->SD m0 nm N L m l ->
  ∃ (m':Mem) (s:Nat),qfg (.arr nm 0 L none) x1 x2 x3 (.fn 67 [p]) x18 x19 (ni i) (ni j) (ni pp) m K=K (.exit 8) (qlX (.arr nm 0 L none) x1 x2 x3 (.fn 67 [p]) x18 x19 (ni s) m')/\SD m0 nm N L m' l/\Edge (fun c=>f (l.getD c 0)<=f (l.getD (pp - c) 0)) lo hi s:=by
 intro k
 induction k using Nat.strongRecOn with
 | ind k ih=>
  intro i j m hk h1 h2 h3 h4 h5 h
  by_cases hij:i < j
  ·have hq1:i<=(i+j) / 2:=by omega
   have hq2:(i+j) / 2 < j:=by omega
   generalize hqe:(i+j) / 2=q at hq1 hq2
   obtain ⟨l1,n1⟩:=h.ld' (i:=q) (by omega)
   obtain ⟨l2,n2⟩:=h.ld' (i:=pp - q) (by omega)
   obtain ⟨m1,e1,k1⟩:=h.cmp hc n2 n1
   have i1:qag none (.arr nm 0 L none) (ni q)=some (.ptr nm q):=qbf (by omega)
   have i2:qag none (.arr nm 0 L none) (ni (pp - q))=some (.ptr nm (pp - q)):=qbf (by omega)
   have hpr:qfg (.arr nm 0 L none) x1 x2 x3 (.fn 67 [p]) x18 x19 (ni i) (ni j) (ni pp) m K=ifA (.bool (!decide (f (l.getD (pp - q) 0) - f (l.getD q 0) < 0))) ((qaz .other .add (ni q) (.int .i64 1)).bind fun v14=>qfg (.arr nm 0 L none) x1 x2 x3 (.fn 67 [p]) x18 x19 v14 (ni j) (ni pp) m1 K) (qfg (.arr nm 0 L none) x1 x2 x3 (.fn 67 [p]) x18 x19 (ni i) (ni q) (ni pp) m1 K):=by
    rw[qlb,qaU,oBs,qap,qal (by omega),qzv (by omega),hqe,qgM (by omega) (by omega),oBs,i2,oBs,l2,oBs,i1,oBs,l1,oBs,show qlv (.fn 67 [p])=some (67,[p]) from rfl,oBs,qft rfl rfl rfl,e1,oBs,qaU,oBs,qfU,oBs]
   rw[hpr]
   by_cases ht:f (l.getD (pp - q) 0) - f (l.getD q 0) < 0
   ·rw[qa6 ht,qcC,qdW]
    exact ih (q - i) (by omega) i q m1 rfl h1 hq1 (by omega) h4 (.inr (by omega)) k1
   ·rw[qa7 ht,qcS,qfw,qbM (by omega),oBs]
    exact ih (j - (q+1)) (by omega) (q+1) j m1 rfl (by omega) (by omega) h3 (.inr (by rw[qbO];omega)) h5 k1
  ·have:i=j:=by omega
   subst this
   refine ⟨m,i,?_,h,h1,h3,h4,h5⟩
   rw[qlb,qaU,oBs,qap,qah (by omega)]
theorem W9 (hL:L<=100000) {x s:Nat} {pre post:List Nat}:∀ (Q P:List Nat) (m:Mem),s=pre.length+P.length+1+Q.length->SD m0 nm N L m (pre++(P++x::(Q++post))) ->
  ∃ m',qqq (.arr nm 0 L none) (ni s) (ni (pre.length+P.length)) m (qtR (qbw cfg.P f166.results.toList))=some (.tup [],m')/\SD m0 nm N L m' (pre++(P++(Q++x::post))):=by
 intro Q
 induction Q with
 | nil=>
  intro P m hs h
  have hl:=h.hl
  simp only[qab,qad,qae] at hl hs
  refine ⟨m,?_,h⟩
  rw[qnq,qfN (by omega) (by omega),oBs,qaU,oBs,qap,qah (by omega),qtS]
 | cons y Q ih=>
  intro P m hs h
  have hl:=h.hl
  simp only[qab,qad] at hl hs
  have h':SD m0 nm N L m ((pre++P)++x::([]++y::(Q++post))):=by simpa using h
  obtain ⟨l1,l2,⟨m1,m2,s1,s2,k⟩,_⟩:=h'.swap (i:=pre.length+P.length) (j:=pre.length+P.length+1) (by simp) (by simp)
  obtain ⟨m',e,k'⟩:=ih (P++[y]) m2 (by simp;omega) (by simpa using k)
  refine ⟨m',?_,by simpa using k'⟩
  have ia:qag none (.arr nm 0 L none) (ni (pre.length+P.length))=some (.ptr nm (pre.length+P.length)):=qbf (by omega)
  have ib:qag none (.arr nm 0 L none) (ni (pre.length+P.length+1))=some (.ptr nm (pre.length+P.length+1)):=qbf (by omega)
  have i1:qaz .other .add (ni (pre.length+P.length)) (.int .i64 1)=some (ni (pre.length+P.length+1)):=qbM (by omega)
  rw[qnq,qfN (by omega) (by omega),oBs,qaU,oBs,qap,qal (by omega),i1,oBs,oBs,ib,oBs,l2,oBs,ia,oBs,l1,oBs,oBs,s1,oBs,oBs,s2,oBs,oBs]
  rw[qab,qdo] at e
  exact e
theorem W21 (hL:L<=100000) {x s:Nat} {pre post:List Nat} (hs:s=pre.length):∀ (k:Nat) (Q P:List Nat) (m:Mem),Q.length=k->SD m0 nm N L m (pre++(Q++x::(P++post))) ->
  ∃ m',qlQ (.arr nm 0 L none) (ni s) (ni (pre.length+Q.length)) m (qoL (qbw cfg.P f166.results.toList))=some (.tup [],m')/\SD m0 nm N L m' (pre++(x::(Q++(P++post)))):=by
 intro k
 induction k with
 | zero=>
  intro Q P m hk h
  have:Q=[]:=qa4 hk
  subst this
  refine ⟨m,?_,h⟩
  rw[qla,qcB,oBs,qap,qah (by simp;omega),qsc]
 | succ k ih=>
  intro Q P m hk h
  obtain ⟨S,y,rfl⟩:∃ S y,Q=S++[y]:=by
   have hne:Q≠[]:=fun e=>by simp[e] at hk
   exact ⟨Q.dropLast,Q.getLast hne,(List.dropLast_concat_getLast hne).symm⟩
  have hl:=h.hl
  simp only[qab,qad,qae] at hl hk ⊢
  have h':SD m0 nm N L m ((pre++S)++y::([]++x::(P++post))):=by simpa using h
  obtain ⟨l1,l2,_,⟨m1,m2,s1,s2,k1⟩⟩:=h'.swap (i:=pre.length+(S.length+1) - 1) (j:=pre.length+(S.length+1)) (by simp) (by simp;omega)
  obtain ⟨m',e,k'⟩:=ih S (y::P) m2 (by omega) (by simpa using k1)
  refine ⟨m',?_,by simpa using k'⟩
  have ia:qag none (.arr nm 0 L none) (ni (pre.length+(S.length+1)))=some (.ptr nm (pre.length+(S.length+1))):=qbf (by omega)
  have ib:qag none (.arr nm 0 L none) (ni (pre.length+(S.length+1) - 1))=some (.ptr nm (pre.length+(S.length+1) - 1)):=qbf (by omega)
  have is:qaz .other .sub (ni (pre.length+(S.length+1))) (.int .i64 1)=some (ni (pre.length+(S.length+1) - 1)):=qfN (by omega) (by omega)
  have e0:ni (pre.length+(S.length+0+1))=ni (pre.length+(S.length+1)):=rfl
  rw[qla,qcB,oBs,qap,qal (by omega),is,oBs,oBs,ib,oBs,l1,oBs,ia,oBs,l2,oBs,oBs,s1,oBs,oBs,s2,oBs,oBs]
  exact e
end
end Go.Ab

/- The symmetric merge; the stable sort. -/
set_option maxRecDepth 100000
namespace Go.Ab
open Go.Proofs Go.Proofs.Tryz
theorem Srt.le_take {f:Nat->Int} {B:List Nat} (h:Srt f B) {s:Nat} {c:Int} (hs:s<=B.length) (he:s=0\/f (B.getD (s - 1) 0)<=c):∀ t∈B.take s,f t<=c:=by
 cases s with
 | zero=>simp
 | succ s=>
  have hl:s < B.length:=hs
  rcases he with he | he
  ·cases he
  ·rw[qbO,qaa,qam hl,qaP] at he
   rw[qbW hl]
   intro t ht
   have h1:Srt f (B.take s++[B[s]]):=by
    rw[<- qbW hl]
    exact qh8 (List.take_sublist _ _) h
   exact Int.le_trans (Srt.le_last h1 t ht) he
theorem Srt.ge_drop {f:Nat->Int} {B:List Nat} (h:Srt f B) {s:Nat} {c:Int} (he:s=B.length\/c<=f (B.getD s 0)):∀ t∈B.drop s,c<=f t:=by
 by_cases hl:s < B.length
 ·rcases he with he | he
  ·omega
  ·rw[qaa,qam hl,qaP] at he
   rw[qbr hl]
   intro t ht
   have h1:Srt f (B[s]::B.drop (s+1)):=by
    rw[<- qbr hl]
    exact qh8 (List.drop_sublist _ _) h
   exact Int.le_trans he (Srt.head_le h1 t ht)
 ·rw[qbc (by omega)];simp
theorem qEL {pre A B post:List Nat} {i k:Nat} (hi:i < A.length) (hk:k=pre.length+i):(pre++(A++(B++post))).getD k 0=A.getD i 0:=by
 subst hk
 simp only[qaa]
 rw[qcG (by omega),Nat.add_sub_cancel_left,qbZ hi]
theorem qEM {pre A B post:List Nat} {i k:Nat} (hi:i < B.length) (hk:k=pre.length+A.length+i):(pre++(A++(B++post))).getD k 0=B.getD i 0:=by
 subst hk
 simp only[qaa]
 rw[qcG (by omega),qcG (by omega),qbZ (by omega)]
 congr 2
 omega
noncomputable def mE2 (x0 x18 v1 x3 x4:AV) (m:Mem):OM:=
 (qaz .other .lss x18 v1).bind fun v=>ifA v ((qaz .other .lss v1 x3).bind fun w=>ifA w ((AC cfg 166 [x0,x18,v1,x3,x4] m).bind fun r=>some ((.tup []),r.2)) (some ((.tup []),m))) (some ((.tup []),m))
noncomputable def mE1 (x0 x1 x20 x18 v1 x3 x4:AV) (m:Mem):OM:=
 (qaz .other .lss x1 x20).bind fun v=>ifA v ((qaz .other .lss x20 x18).bind fun w=>ifA w ((AC cfg 166 [x0,x1,x20,x18,x4] m).bind fun r=>mE2 x0 x18 v1 x3 x4 r.2) (mE2 x0 x18 v1 x3 x4 m)) (mE2 x0 x18 v1 x3 x4 m)
theorem mE0 (x0 x1 x2 x3 x4 x18 x19 x20:AV) (m:Mem):qg9 (qbw cfg.P f166.results.toList) (.exit 8) (qlX x0 x1 x2 x3 x4 x18 x19 x20 m) =
  (qaz .other .sub x19 x20).bind fun v1=>(qaz .other .lss x20 x2).bind fun v2=>ifA v2 ((qaz .other .lss x2 v1).bind fun v3=>ifA v3 ((AC cfg 186 [x0,x20,x2,v1,x4] m).bind fun r=>mE1 x0 x1 x20 x18 v1 x3 x4 r.2) (mE1 x0 x1 x20 x18 v1 x3 x4 m)) (mE1 x0 x1 x20 x18 v1 x3 x4 m):=(qsd x0 x1 x2 x3 x4 x18 x19 x20 m).trans rfl
section
variable {m0:Mem} {nm N L:Nat} {p:AV} {f:Nat->Int}
def qD9 (m0:Mem) (nm N L:Nat) (p:AV) (f:Nat->Int) (n:Nat):Prop:=∀ (pre A B post:List Nat) (m:Mem) (a mm b:Nat),A.length+B.length=n->A≠[]->B≠[]->Srt f A->Srt f B->SD m0 nm N L m (pre++(A++(B++post)))->a=pre.length->mm=a+A.length->b=mm+B.length ->
 ∃ (m':Mem) (M:List Nat),AC cfg 166 [.arr nm 0 L none,ni a,ni mm,ni b,.fn 67 [p]] m=some (.tup [],m')/\SD m0 nm N L m' (pre++(M++post))/\M.Perm (A++B)/\Srt f M
theorem qwg {n:Nat} (ih:qD9 m0 nm N L p f n) {pre A B post:List Nat} {m:Mem} {a mm b:Nat} (hn:A.length+B.length=n) (sA:Srt f A) (sB:Srt f B) (h:SD m0 nm N L m (pre++(A++(B++post)))) (ha:a=pre.length) (hm:mm=a+A.length) (hb:b=mm+B.length)
  {R:Type} (K:Mem->Option R):∃ (m':Mem) (M:List Nat),((qaz .other .lss (ni a) (ni mm)).bind fun v=>ifA v ((qaz .other .lss (ni mm) (ni b)).bind fun w=>ifA w ((AC cfg 166 [.arr nm 0 L none,ni a,ni mm,ni b,.fn 67 [p]] m).bind fun r=>K r.2) (K m)) (K m))=K m'/\SD m0 nm N L m' (pre++(M++post))/\M.Perm (A++B)/\Srt f M:=by
 rw[qaU,oBs,qap]
 by_cases hA:A=[]
 ·subst hA
  rw[qah (by simp at hm;omega)]
  exact ⟨m,B,rfl,h,by simp,sB⟩
 ·have:=qg3.2 hA
  rw[qal (by omega),qaU,oBs,qap]
  by_cases hB:B=[]
  ·subst hB
   rw[qah (by simp at hb;omega)]
   exact ⟨m,A,rfl,by simpa using h,by simp,sA⟩
  ·have:=qg3.2 hB
   rw[qal (by omega)]
   obtain ⟨m',M,e,k⟩:=ih pre A B post m a mm b hn hA hB sA sB h ha hm hb
   exact ⟨m',M,by rw[e,oBs],k⟩
theorem qHf (hL:L<=100000) (hc:qiG m0 nm N p f):∀ n,qD9 m0 nm N L p f n:=by
 intro n
 induction n using Nat.strongRecOn with
 | ind n ih=>
  intro pre A B post m a mm b hn hA hB sA sB h ha hm hb
  have a0:=qg3.2 hA
  have b0:=qg3.2 hB
  have hl:=h.hl
  simp only[qab] at hl
  rw[qIk,qgM (by omega) (by omega),oBs,qcK,oBs,qap]
  by_cases h1:A.length=1
  ·rw[qal (by omega)]
   obtain ⟨x,rfl⟩:=List.length_eq_one_iff.1 h1
   obtain ⟨m1,s,e1,k1,g1,g2,g3,g4⟩:=S3 hL hc (l:=pre++([x]++(B++post))) (a:=a) (lo:=mm) (hi:=b) (by omega) (by omega) (qtN (qbw cfg.P f166.results.toList)) _ mm b m rfl (qak _) (by omega) (qak _) (.inl rfl) (.inl rfl) h
   dsimp only at g3 g4
   have ex:(pre++([x]++(B++post))).getD a 0=x:=by rw[qEL (i:=0) (by simp) (by omega)];rfl
   rw[ex] at g3 g4
   have q1:∀ t∈B.take (s - mm),f t<=f x:=Srt.le_take sB (by omega) (by
    rcases g3 with g3 | g3
    ·exact .inl (by omega)
    ·by_cases hz:s=mm
     ·exact .inl (by omega)
     ·rw[qEM (i:=s - 1 - mm) (by omega) (by omega)] at g3
      rw[show s - mm - 1=s - 1 - mm by omega]
      exact .inr (by omega))
   have q2:∀ t∈B.drop (s - mm),f x<=f t:=Srt.ge_drop sB (by
    rcases g4 with g4 | g4
    ·exact .inl (by omega)
    ·by_cases hz:s=b
     ·exact .inl (by omega)
     ·rw[qEM (i:=s - mm) (by omega) (by omega)] at g4
      exact .inr (by omega))
   have tl:(B.take (s - mm)).length=s - mm:=by rw[qbn];omega
   obtain ⟨m2,e2,k2⟩:=W9 hL (x:=x) (s:=s) (pre:=pre) (post:=B.drop (s - mm)++post) (B.take (s - mm)) [] m1 (by simp at hm ⊢;omega) (by
    rw[qaw,<- qaL (B.take (s - mm)),qbj];exact k1)
   refine ⟨m2,B.take (s - mm)++x::B.drop (s - mm),?_,by simpa using k2,?_,?_⟩
   ·rw[e1,qtQ,ha]
    exact e2
   ·refine List.perm_middle.trans ?_
    rw[qbj]
    exact List.Perm.refl _
   ·exact Srt.put (by rw[qbj];exact sB) q1 q2
  ·rw[qah (by omega),qgM (by omega) (by omega),oBs,qcK,oBs,qap]
   by_cases h2:B.length=1
   ·rw[qal (by omega)]
    obtain ⟨x,rfl⟩:=List.length_eq_one_iff.1 h2
    obtain ⟨m1,s,e1,k1,g1,g2,g3,g4⟩:=S15 hL hc (l:=pre++(A++([x]++post))) (a:=mm) (lo:=a) (hi:=mm) (by omega) (by omega) (qoK (qbw cfg.P f166.results.toList)) _ a mm m rfl (qak _) (by omega) (qak _) (.inl rfl) (.inl rfl) h
    dsimp only at g3 g4
    have ex:(pre++(A++([x]++post))).getD mm 0=x:=by rw[qEM (i:=0) (by simp) (by omega)];rfl
    rw[ex] at g3 g4
    have q1:∀ t∈A.take (s - a),f t<=f x:=Srt.le_take sA (by omega) (by
     rcases g3 with g3 | g3
     ·exact .inl (by omega)
     ·by_cases hz:s=a
      ·exact .inl (by omega)
      ·rw[qEL (i:=s - 1 - a) (by omega) (by omega)] at g3
       rw[show s - a - 1=s - 1 - a by omega]
       exact .inr g3)
    have q2:∀ t∈A.drop (s - a),f x<=f t:=Srt.ge_drop sA (by
     rcases g4 with g4 | g4
     ·exact .inl (by omega)
     ·by_cases hz:s=mm
      ·exact .inl (by omega)
      ·rw[qEL (i:=s - a) (by omega) (by omega)] at g4
       exact .inr (by omega))
    have tl:(A.take (s - a)).length=s - a:=by rw[qbn];omega
    have dl:(A.drop (s - a)).length=A.length - (s - a):=qdt
    obtain ⟨m2,e2,k2⟩:=W21 hL (x:=x) (s:=s) (pre:=pre++A.take (s - a)) (post:=post) (by simp[tl];omega) _ (A.drop (s - a)) [] m1 rfl (by
     rw[qaw,qaL,<- qaL (A.take (s - a)),qbj];exact k1)
    refine ⟨m2,A.take (s - a)++x::A.drop (s - a),?_,by simpa using k2,?_,?_⟩
    ·rw[e1,qsb]
     have:(pre++A.take (s - a)).length+(A.drop (s - a)).length=mm:=by rw[qab,tl,dl];omega
     rw[this] at e2
     exact e2
    ·refine List.perm_middle.trans ?_
     rw[qbj]
     exact (List.perm_append_singleton x A).symm
    ·exact Srt.put (by rw[qbj];exact sA) q1 q2
   ·rw[qah (by omega)]
    rw[qzv (by omega)]
    have hmid:(a+b) / 2 * 2<=a+b:=qEg _ _
    have hmid2:a+b<=(a+b) / 2 * 2+1:=by omega
    generalize (a+b) / 2=mid at hmid hmid2
    rw[qfu (by omega),oBs,qcB,oBs,qap]
    have srch:∃ (lo hi:Nat),(if ((mm:Nat):Int) > ((mid:Nat):Int) then
       (qaz .other .sub (.int .i64 ((mid+mm:Nat):Int)) (ni b)).bind fun v11=>(qaz .other .sub (.int .i64 ((mid+mm:Nat):Int)) (.int .i64 1)).bind fun v12=>qfg (.arr nm 0 L none) (ni a) (ni mm) (ni b) (.fn 67 [p]) (ni mid) (.int .i64 ((mid+mm:Nat):Int)) v11 (ni mid) v12 m (qg9 (qbw cfg.P f166.results.toList))
      else (qaz .other .sub (.int .i64 ((mid+mm:Nat):Int)) (.int .i64 1)).bind fun v13=>qfg (.arr nm 0 L none) (ni a) (ni mm) (ni b) (.fn 67 [p]) (ni mid) (.int .i64 ((mid+mm:Nat):Int)) (ni a) (ni mm) v13 m (qg9 (qbw cfg.P f166.results.toList))) =
      qfg (.arr nm 0 L none) (ni a) (ni mm) (ni b) (.fn 67 [p]) (ni mid) (ni (mid+mm)) (ni lo) (ni hi) (ni (mid+mm - 1)) m (qg9 (qbw cfg.P f166.results.toList))/\a<=lo/\lo<=hi/\hi<=mm/\hi<=mid/\mid+mm<=b+lo/\(lo=a\/mid+mm=b+lo)/\(hi=mm\/hi=mid):=by
     by_cases hg:mid < mm
     ·refine ⟨mid+mm - b,mid,?_,by omega,by omega,by omega,by omega,by omega,.inr (by omega),.inr rfl⟩
      rw[qal (by omega),qgM (by omega) (by omega),oBs,qfN (by omega) (by omega),oBs]
     ·refine ⟨a,mm,?_,by omega,by omega,by omega,by omega,by omega,.inl rfl,.inl rfl⟩
      rw[qah (by omega),qfN (by omega) (by omega),oBs]
    obtain ⟨lo,hi,eS,z1,z2,z3,z4,z5,z6,z7⟩:=srch
    rw[eS]
    obtain ⟨m1,s,e1,k1,g1,g2,g3,g4⟩:=S33 hL hc (l:=pre++(A++(B++post))) (pp:=mid+mm - 1) (lo:=lo) (hi:=hi) (by omega) (by omega) (by omega) (ni a) (ni mm) (ni b) (ni mid) (ni (mid+mm)) (qg9 (qbw cfg.P f166.results.toList)) _ lo hi m rfl (qak _) z2 (qak _) (.inl rfl) (.inl rfl) h
    dsimp only at g3 g4
    rw[e1,mE0,qgM (by omega) (by omega),oBs]
    obtain ⟨e,he⟩:∃ e,e=mid+mm - s:=⟨_,rfl⟩
    rw[<- he]
    have eA:A.take (s - a)++A.drop (s - a)=A:=qbj _ _
    have eB:B.take (e - mm)++B.drop (e - mm)=B:=qbj _ _
    have tA:(A.take (s - a)).length=s - a:=by rw[qbn];omega
    have dA:(A.drop (s - a)).length=mm - s:=by rw[qdt];omega
    have tB:(B.take (e - mm)).length=e - mm:=by rw[qbn];omega
    have dB:(B.drop (e - mm)).length=b - e:=by rw[qdt];omega
    have b1:∀ x∈A.take (s - a),∀ y∈B.drop (e - mm),f x<=f y:=by
     by_cases hs:s=a
     ·rw[show s - a=0 by omega];simp
     ·by_cases hse:e=b
      ·rw[qbc (show B.length<=e - mm by omega)];simp
      ·have hne:s≠lo:=by omega
       have:=g3.resolve_left hne
       rw[qEL (i:=s - 1 - a) (by omega) (by omega),qEM (i:=e - mm) (by omega) (by omega)] at this
       intro x hx y hy
       have u1:=Srt.le_take sA (s:=s - a) (c:=f (A.getD (s - 1 - a) 0)) (by omega) (.inr (by rw[show s - a - 1=s - 1 - a by omega];exact qeH _)) x hx
       have u2:=Srt.ge_drop sB (s:=e - mm) (c:=f (B.getD (e - mm) 0)) (.inr (qeH _)) y hy
       omega
    have b2:∀ x∈B.take (e - mm),∀ y∈A.drop (s - a),f x<=f y:=by
     by_cases hs:s=mm
     ·rw[qbc (show A.length<=s - a by omega)];simp
     ·by_cases hse:e=mm
      ·rw[show e - mm=0 by omega];simp
      ·have hne:s≠hi:=by omega
       have:=g4.resolve_left hne
       rw[qEL (i:=s - a) (by omega) (by omega),qEM (i:=e - 1 - mm) (by omega) (by omega)] at this
       intro x hx y hy
       have u1:=Srt.le_take sB (s:=e - mm) (c:=f (B.getD (e - 1 - mm) 0)) (by omega) (.inr (by rw[show e - mm - 1=e - 1 - mm by omega];exact qeH _)) x hx
       have u2:=Srt.ge_drop sA (s:=s - a) (c:=f (A.getD (s - a) 0)) (.inr (qeH _)) y hy
       omega
    have k1':SD m0 nm N L m1 ((pre++A.take (s - a))++(A.drop (s - a)++(B.take (e - mm)++(B.drop (e - mm)++post)))):=by
     rw[<- qaL (B.take (e - mm)),eB,qaL,<- qaL (A.take (s - a)),eA];exact k1
    have turn:∃ m2,((qaz .other .lss (ni s) (ni mm)).bind fun v2=>ifA v2 ((qaz .other .lss (ni mm) (ni e)).bind fun v3=>ifA v3 ((AC cfg 186 [.arr nm 0 L none,ni s,ni mm,ni e,.fn 67 [p]] m1).bind fun r=>mE1 (.arr nm 0 L none) (ni a) (ni s) (ni mid) (ni e) (ni b) (.fn 67 [p]) r.2) (mE1 (.arr nm 0 L none) (ni a) (ni s) (ni mid) (ni e) (ni b) (.fn 67 [p]) m1)) (mE1 (.arr nm 0 L none) (ni a) (ni s) (ni mid) (ni e) (ni b) (.fn 67 [p]) m1))=mE1 (.arr nm 0 L none) (ni a) (ni s) (ni mid) (ni e) (ni b) (.fn 67 [p]) m2/\SD m0 nm N L m2 ((pre++A.take (s - a))++(B.take (e - mm)++(A.drop (s - a)++(B.drop (e - mm)++post)))):=by
     rw[qaU,oBs,qap]
     by_cases hs:s < mm
     ·rw[qal (by omega),qaU,oBs,qap]
      by_cases hse:mm < e
      ·rw[qal (by omega)]
       obtain ⟨m2,er,k2⟩:=qHL hL (.fn 67 [p]) (qcM (by omega)) (qcM (by omega)) k1' (a:=s) (mm:=mm) (b:=e) (by rw[qab,tA];omega) (by omega) (by omega)
       exact ⟨m2,by rw[er,oBs],k2⟩
      ·rw[qah (by omega)]
       refine ⟨m1,rfl,?_⟩
       rw[show B.take (e - mm)=[] from qa4 (by omega)] at k1' ⊢
       simpa using k1'
     ·rw[qah (by omega)]
      refine ⟨m1,rfl,?_⟩
      rw[show A.drop (s - a)=[] from qa4 (by omega)] at k1' ⊢
      simpa using k1'
    obtain ⟨m2,et,k2⟩:=turn
    rw[et]
    have s1:Srt f (A.take (s - a)):=qh8 (List.take_sublist _ _) sA
    have s2:Srt f (A.drop (s - a)):=qh8 (List.drop_sublist _ _) sA
    have s3:Srt f (B.take (e - mm)):=qh8 (List.take_sublist _ _) sB
    have s4:Srt f (B.drop (e - mm)):=qh8 (List.drop_sublist _ _) sB
    obtain ⟨m3,M1,e3,k3,p3,r3⟩:=qwg (ih (mid - a) (by omega)) (pre:=pre) (A:=A.take (s - a)) (B:=B.take (e - mm)) (post:=A.drop (s - a)++(B.drop (e - mm)++post)) (m:=m2) (a:=a) (mm:=s) (b:=mid) (by omega) s1 s3 (by simpa using k2) ha (by omega) (by omega) (fun q=>mE2 (.arr nm 0 L none) (ni mid) (ni e) (ni b) (.fn 67 [p]) q)
    have e3:mE1 (.arr nm 0 L none) (ni a) (ni s) (ni mid) (ni e) (ni b) (.fn 67 [p]) m2=mE2 (.arr nm 0 L none) (ni mid) (ni e) (ni b) (.fn 67 [p]) m3:=e3
    rw[e3]
    have lM1:M1.length=mid - a:=by rw[p3.length_eq,qab];omega
    obtain ⟨m4,M2,e4,k4,p4,r4⟩:=qwg (ih (b - mid) (by omega)) (pre:=pre++M1) (A:=A.drop (s - a)) (B:=B.drop (e - mm)) (post:=post) (m:=m3) (a:=mid) (mm:=e) (b:=b) (by omega) s2 s4 (by simpa using k3) (by rw[qab];omega) (by omega) (by omega) (fun q=>some ((.tup []:AV),q))
    obtain ⟨w1,w2⟩:=Srt.both (by rw[eA];exact sA) (by rw[eB];exact sB) b1 b2 p3 p4 r3 r4
    rw[eA,eB] at w2
    exact ⟨m4,M1++M2,e4,by simpa using k4,w2,w1⟩
theorem qIK (hL:L<=100000) (hc:qiG m0 nm N p f):∀ (k:Nat) (F R:List Nat) (m:Mem),R.length=k->Full f 20 F->SD m0 nm N L m (F++R) ->
  ∃ (m':Mem) (l':List Nat),qnb (.arr nm 0 L none) (ni L) (.fn 67 [p]) (.int .i64 20) (ni F.length) (ni (F.length+20)) m (qp2 (qbw cfg.P f125.results.toList))=qi7 (.arr nm 0 L none) (ni L) (.fn 67 [p]) (.int .i64 20) m' (qjL (qbw cfg.P f125.results.toList))/\SD m0 nm N L m' l'/\l'.Perm (F++R)/\Runs f 20 l':=by
 intro k
 induction k using Nat.strongRecOn with
 | ind k ih=>
  intro F R m hk hF h
  have hl:=h.hl
  simp only[qab] at hl
  by_cases hb:20<=R.length
  ·have tX:(R.take 20).length=20:=by rw[qbn];omega
   obtain ⟨m1,X',e1,k1,p1,s1⟩:=qHe hL hc (pre:=F) (X:=R.take 20) (post:=R.drop 20) (m:=m) (by rw[qbj];exact h) (a:=F.length) (b:=F.length+20) rfl (by omega)
   have lX:X'.length=20:=by rw[p1.length_eq];exact tX
   obtain ⟨m',l',e2,k2,p2,r2⟩:=ih (R.drop 20).length (by rw[qdt];omega) (F++X') (R.drop 20) m1 rfl (.more F X' hF lX s1) (by simpa using k1)
   refine ⟨m',l',?_,k2,p2.trans ?_,r2⟩
   ·rw[qnc,qf2,oBs,qap,qal (by omega),e1,oBs,show (AV.int .i64 20)=ni 20 from rfl,qfu (by omega),oBs]
    rw[qab,lX] at e2
    exact e2
   ·rw[qaL]
    refine qh9 F ?_
    have:=p1.append_right (R.drop 20)
    rwa [qbj] at this
  ·obtain ⟨m1,X',e1,k1,p1,s1⟩:=qHe hL hc (pre:=F) (X:=R) (post:=[]) (m:=m) (by simpa using h) (a:=F.length) (b:=L) rfl (by omega)
   refine ⟨m1,F++X',?_,by simpa using k1,qh9 F p1,hF.runs _ (.last _ (by rw[p1.length_eq];omega) s1)⟩
   rw[qnc,qf2,oBs,qap,qah (by omega),qtj,e1,oBs]
theorem qF0 (hL:L<=100000) (hc:qiG m0 nm N p f) {bs:Nat} (hbs:0 < bs) (hbl:bs < L):∀ (k:Nat) (F R:List Nat) (m:Mem),R.length=k->Full f (2 * bs) F->Runs f bs R->SD m0 nm N L m (F++R) ->
  ∃ (m':Mem) (l':List Nat),qqg (.arr nm 0 L none) (ni L) (.fn 67 [p]) (ni bs) (ni F.length) (ni (F.length+2 * bs)) m (qtl (qjL (qbw cfg.P f125.results.toList)))=qi7 (.arr nm 0 L none) (ni L) (.fn 67 [p]) (ni (bs * 2)) m' (qjL (qbw cfg.P f125.results.toList))/\SD m0 nm N L m' l'/\l'.Perm (F++R)/\Runs f (2 * bs) l':=by
 intro k
 induction k using Nat.strongRecOn with
 | ind k ih=>
  intro F R m hk hF hR h
  have hl:=h.hl
  simp only[qab] at hl
  have e2i:(AV.int .i64 2)=ni 2:=rfl
  by_cases hb:2 * bs<=R.length
  ·obtain ⟨x1,R1,rfl,lx1,sx1,hR1⟩:=hR.two hbs (by omega)
   simp only[qab] at hb hl
   obtain ⟨x2,R2,rfl,lx2,sx2,hR2⟩:∃ x r,R1=x++r/\x.length=bs/\Srt f x/\Runs f bs r:=by
    by_cases hq:bs < R1.length
    ·exact hR1.two hbs hq
    ·exact ⟨R1,[],by simp,by omega,hR1.one (by omega),.last [] (by simp) List.Pairwise.nil⟩
   obtain ⟨m1,M,e1,k1,p1,s1⟩:=qHf hL hc _ F x1 x2 R2 m F.length (F.length+bs) (F.length+2 * bs) rfl (qcM (by omega)) (qcM (by omega)) sx1 sx2 (by simpa using h) rfl (by omega) (by omega)
   have lM:M.length=2 * bs:=by rw[p1.length_eq,qab];omega
   obtain ⟨m',l',e2,k2,p2,r2⟩:=ih R2.length (by rw[<- hk];simp;omega) (F++M) R2 m1 rfl (.more F M hF lM s1) hR2 (by simpa using k1)
   simp only[qab] at hl
   refine ⟨m',l',?_,k2,p2.trans ?_,r2⟩
   ·rw[qne,qf2,oBs,qap,qal (by omega),qfu (by omega),oBs,e1,oBs,e2i,qf3,show ((2:Nat):Int) * (bs:Nat)=((2 * bs:Nat):Int) by omega,qbQ (by omega) (by omega),oBs,qfu (by omega),oBs]
    rw[qab,lM] at e2
    exact e2
   ·rw[qaL,<- qaL x1]
    exact qh9 F (p1.append_right R2)
  ·have e2m:qaz .other .mul (ni bs) (.int .i64 2)=some (ni (bs * 2)):=by
    rw[e2i,qf3,show (bs:Int) * (2:Nat)=((bs * 2:Nat):Int) by omega,qbQ (by omega) (by omega)]
   rw[qne,qf2,oBs,qap,qah (by omega),qtm,qfu (by omega),oBs,qaU,oBs,qap,e2m]
   by_cases hq:bs < R.length
   ·rw[qal (by omega)]
    obtain ⟨x1,R1,rfl,lx1,sx1,hR1⟩:=hR.two hbs hq
    simp only[qab] at hb hl hq
    obtain ⟨m1,M,e1,k1,p1,s1⟩:=qHf hL hc _ F x1 R1 [] m F.length (F.length+bs) L rfl (qcM (by omega)) (qcM (by omega)) sx1 (hR1.one (by omega)) (by simpa using h) rfl (by omega) (by omega)
    refine ⟨m1,F++M,?_,by simpa using k1,qh9 F p1,hF.runs _ (.last _ (by rw[p1.length_eq,qab];omega) s1)⟩
    rw[e1,oBs,oBs]
   ·rw[qah (by omega)]
    exact ⟨m,F++R,by rw[oBs],h,List.Perm.refl _,hF.runs _ (.last _ (by omega) (hR.one (by omega)))⟩
theorem qF1 (hL:L<=100000) (hc:qiG m0 nm N p f):∀ (k bs:Nat) (l:List Nat) (m:Mem),L - bs=k->0 < bs->bs < 1000000->Runs f bs l->SD m0 nm N L m l ->
  ∃ (m':Mem) (l':List Nat),qi7 (.arr nm 0 L none) (ni L) (.fn 67 [p]) (ni bs) m (qjL (qbw cfg.P f125.results.toList))=some (.tup [],m')/\SD m0 nm N L m' l'/\l'.Perm l/\Srt f l':=by
 intro k
 induction k using Nat.strongRecOn with
 | ind k ih=>
  intro bs l m hk h0 hbb hR h
  by_cases hb:bs < L
  ·obtain ⟨m1,l1,e1,k1,p1,r1⟩:=qF0 hL hc h0 hb _ [] l m rfl .nil hR (by simpa using h)
   obtain ⟨m',l',e2,k2,p2,s2⟩:=ih (L - bs * 2) (by omega) (bs * 2) l1 m1 rfl (by omega) (by omega) (by rw[qaI];exact r1) k1
   refine ⟨m',l',?_,k2,p2.trans (by simpa using p1),s2⟩
   rw[qnd,qaU,oBs,qap,qal (by omega),show (AV.int .i64 2)=ni 2 from rfl,qf3,show ((2:Nat):Int) * (bs:Nat)=((0+2 * bs:Nat):Int) by omega,qbQ (by omega) (by omega),oBs]
   rw[<- e2]
   exact e1
  ·refine ⟨m,l,?_,h,List.Perm.refl _,hR.one (by rw[h.hl];omega)⟩
   rw[qnd,qaU,oBs,qap,qah (by omega),qtk]
theorem A66 (hL:L<=100000) (hc:qiG m0 nm N p f) {l:List Nat} {m:Mem} (h:SD m0 nm N L m l):∃ (m':Mem) (l':List Nat),AC cfg 66 [.arr nm 0 L none,.fn 67 [p]] m=some (.tup [],m')/\SD m0 nm N L m' l'/\l'.Perm l/\Srt f l':=by
 obtain ⟨m1,l1,e1,k1,p1,r1⟩:=qIK hL hc _ [] l m rfl .nil (by simpa using h)
 obtain ⟨m',l',e2,k2,p2,s2⟩:=qF1 hL hc _ 20 l1 m1 rfl (by omega) (by omega) r1 k1
 refine ⟨m',l',?_,k2,p2.trans (by simpa using p1),s2⟩
 have e1:qnb (.arr nm 0 L none) (ni L) (.fn 67 [p]) (.int .i64 20) (.int .i64 0) (.int .i64 20) m (qp2 (qbw cfg.P f125.results.toList))=_:=e1
 have e2:qi7 (.arr nm 0 L none) (ni L) (.fn 67 [p]) (.int .i64 20) m1 (qjL (qbw cfg.P f125.results.toList))=_:=e2
 rw[T66,show qbY false (.arr nm 0 L none)=some (ni L) from rfl,oBs,qH5,e1,e2,oBs]
end
end Go.Ab

/- What the interpreter does, function by function. -/
set_option maxRecDepth 100000
namespace Go.Ab
open Go.Proofs.Tryz
theorem T65 (a0 a1:AV) (m:Mem):AC cfg 65 [a0,a1] m =
 (qf8 none none m a0).bind fun r1=>
 (qat none (qaH none r1.2 (.obj true [(.lst none true .full [])])).2 r1.1).bind fun v2=>
 (qjD v2).bind fun v3=>
 (qaB 1 v3).bind fun v4=>
 (qat none (qaH none r1.2 (.obj true [(.lst none true .full [])])).2 v4).bind fun v5=>
 (qbY false v5).bind fun v6=>
 (qeU none 4 none (.bool false) 1 (qaH none r1.2 (.obj true [(.lst none true .full [])])).2 v6 v6).bind fun r7=>
 (qaR none (qaH none r7.2 (.obj true [(.lst none true .full [])])).2 (.ptr (qaH none r7.2 .resv).1 0) r7.1).bind fun m8=>
 (qaR none (qaH none m8 (.obj true [.nilf])).2 (.ptr (qaH none m8 .resv).1 0) (.fn 124 [(.ptr (qaH none r7.2 .resv).1 0),r1.1,(.ptr (qaH none m8 .resv).1 0),(.ptr (qaH none r1.2 .resv).1 0)])).bind fun m9=>
 (qat none m9 (.ptr (qaH none m8 .resv).1 0)).bind fun v10=>
 (qlv v10).bind fun g11=>
 qfL cfg 65 (AP cfg) (AC cfg) none g11.1 ([a1]++g11.2) m9 fun v12 m13=>
 (qat none m13 (.ptr (qaH none r1.2 .resv).1 0)).bind fun v14=>
 some (v14,m13):=
(qbx cfg 65 [a0,a1] m (fn:=f65) (c:=qaq f65) qJq rfl).trans (by kernel_rfl)
def quM (x0 x4:AV) (m:Mem):St:=⟨(x0::yA2 (yA1 (x4::qd7 (yA8 (yA4 (yA2 (yA1 []))))))),m⟩
noncomputable def qm9 (x0 x3 x4 x22 x23 x24:AV) (m:Mem) (K:KT):OM:=qbq (qaM cfg 124 (AP cfg) (AC cfg) (c1 (c1 (c2 (c1 (c2 (c2 (qaq f124)))))))) (cfg.mask 124 (some 3)) ⟨(x0::yA2 (x3::x4::qd7 (yA1 (x22::x23::x24::yA8 (yA2 (yA1 [])))))),m⟩ K
noncomputable abbrev qw9 (K:KT):KT:=qdH (fun st=>qaM cfg 124 (AP cfg) (AC cfg) (c2 (c2 (c2 (qaq f124)))) st K) K
noncomputable abbrev qxa (K:KT):KT:=qbb 0 (qw9 K)
noncomputable abbrev qmX (K:KT):KT:=(qxa K)
theorem qHl (a0 a1 a2 a3 a4:AV) (m:Mem):AC cfg 124 [a0,a1,a2,a3,a4] m =
 (qat none m a1).bind fun v1=>
 (qag none v1 a0).bind fun v2=>
 (qat none m v2).bind fun v3=>
 ifA v3 (
 some ((.tup []),m)) (
 (qat none m a1).bind fun v4=>
 (qag none v4 a0).bind fun v5=>
 (qaR none m v5 (.bool true)).bind fun m6=>
 (qat none m6 a2).bind fun v7=>
 (qjD v7).bind fun v8=>
 (qaB 1 v8).bind fun v9=>
 (qat none m6 v9).bind fun v10=>
 (qag (some 3) v10 a0).bind fun v11=>
 (qaB 1 v11).bind fun v12=>
 (qat none m6 v12).bind fun v13=>
 (qbY false v13).bind fun v14=>
 qm9 a0 a3 a4 v13 v14 (.int .i64 0) m6 (qmX (qbw cfg.P f124.results.toList))):=
(qbx cfg 124 [a0,a1,a2,a3,a4] m (fn:=f124) (c:=qaq f124) qGe rfl).trans (by kernel_rfl)
theorem qna (x0 x3 x4 x22 x23 x24:AV) (m:Mem) (K:KT):qm9 x0 x3 x4 x22 x23 x24 m K =
 (qaz .other .lss x24 x23).bind fun v1=>
 ifA v1 (
 (qag none x22 x24).bind fun v2=>
 (qat none m v2).bind fun v3=>
 (qat none m x3).bind fun v4=>
 (qlv v4).bind fun g5=>
 qfL cfg 124 (AP cfg) (AC cfg) none g5.1 ([v3]++g5.2) m fun v6 m7=>
 (qaz .other .add x24 (.int .i64 1)).bind fun v8=>
 qm9 x0 x3 x4 x22 x23 v8 m7 K) (
 K (.exit 0) (quM x0 x4 m)):=
(qa3 (qaT _) _ _ _).trans (by kernel_rfl)
theorem qti (x0 x4:AV) (m:Mem):qmX (qbw cfg.P f124.results.toList) (.exit 0) (quM x0 x4 m) =
 (qat none m x4).bind fun v1=>
 (qaY none [x0]).bind fun v2=>
 (qd6 none true 3 none 8 m v1 v2).bind fun r3=>
 (qaR none r3.2 x4 r3.1).bind fun m4=>
 some ((.tup []),m4):=by kernel_rfl
theorem qHY (a0:AV) (m:Mem):AC cfg 106 [a0] m =
 (qf8 none (some 3) m a0).bind fun r1=>
 (qaB 2 r1.1).bind fun v2=>
 (qat none r1.2 v2).bind fun v3=>
 (qaB 0 r1.1).bind fun v4=>
 (qat none r1.2 v4).bind fun v5=>
 (qaz .other .lss v5 (.int .i64 0)).bind fun v6=>
 some ((.tup [v3,v6]),r1.2):=
(qbx cfg 106 [a0] m (fn:=f106) (c:=qaq f106) qF7 rfl).trans (by kernel_rfl)
end Go.Ab

/- The store's list of a diagram, by value. -/
set_option maxRecDepth 100000
namespace Go.Ab
open Go.Proofs Go.Proofs.Tryz
theorem qgm {m:Mem} {nm:Nat} {b:Bool} {v:AV} (h:m.get nm=some (.obj b [v])):qat none m (.ptr nm 0)=some v:=by
 rw[qea,h,qd5,oBs];rfl
theorem qFm {m:Mem} {nm:Nat} {b:Bool} {v0 v:AV} (h:m.get nm=some (.obj b [v0])) (hv:qeJ none v=true) (hc:v.cells=[v]):qaR none m (.ptr nm 0) v=some (m.set nm (some (.obj b [v]))):=by
 rw[qlJ,h,qd5,oBs]
 simp[qcN,Sh.size,hv,qbK,hc]
theorem qDg {m:Mem} {nm i:Nat} {ds:List Bool} (h:m.get nm=some (.obj false (ds.map .bool))) (hi:i < ds.length):qat none m (.ptr nm i)=some (.bool (ds.getD i false)):=by
 rw[qea,h,qd5,oBs,qC0,qiL,qam hi,qaa,qam hi];rfl
theorem qDJ {m:Mem} {nm i:Nat} {ds:List Bool} {y:Bool} (h:m.get nm=some (.obj false (ds.map .bool))) (hi:i < ds.length):qaR none m (.ptr nm i) (.bool y)=some (m.set nm (some (.obj false ((ds.set i y).map .bool)))):=by
 have hg:m.obj? nm=some (false,ds.map .bool):=by rw[qeA,h];rfl
 have h1:i+1<=ds.length:=hi
 simp only[qaR,hg,oBs,Sh.size,qaE,h1,qa5,qeJ,qcE,AV.cells]
 congr 4
 simp only[qbK,qad,qae]
 rw[List.map_set,qfH]
 simp[hi,qCe,List.map_drop]
theorem f1v (a b c:AV):qaB 1 (.vptr [a,b,c])=some (.vptr [b,c]):=rfl
theorem l2v (m:Mem) (a b:AV):qat none m (.vptr [a,b])=some a:=rfl
theorem qDs (s:Nat) (m:Mem) (e:Ent):qaH (some s) m e=(s,m.set s (some e)):=rfl
inductive GA (m:Mem):AV->List Nat->List Nat->Prop
 | none:GA m (.lst none true .full []) [] []
 | some (t:Nat) (l:List Nat) (h:m.get t=some (.obj false (ds l))) (hne:l≠[]):GA m (.arr t 0 l.length none) l [t]
theorem qvH {m m':Mem} {x:AV} {l T:List Nat} (h:GA m x l T) (hm:∀ y∈T,m'.get y=m.get y):GA m' x l T:=by
 cases h with
 | none=>exact .none
 | some t l h hne=>exact .some t l ((hm t (by simp)).trans h) hne
theorem qEJ {m:Mem} {x:AV} {l T:List Nat} (h:GA m x l T):qeJ none x=true/\x.cells=[x]:=by
 cases h<;>exact ⟨rfl,rfl⟩
theorem qEI {m:Mem} {x:AV} {l T:List Nat} (h:GA m x l T) (hl:l.length<=100000) (v:Nat):∃ x' m' T',qd6 none true 3 none 8 m x (.lst none false .full [ni v])=some (x',m')/\GA m' x' (l++[v]) T'/\Fr m m' T/\Gr m T T':=by
 cases h with
 | none=>
  have ha:qd6 none true 3 none 8 m (.lst none true .full []) (.lst none false .full [ni v])=some (.arr m.length 0 1 none,m++[some (.obj false [ni v])]):=by
   simp only[qd6,qae,qad,qar,qa5,or_true,qaw,qaH]
   rfl
  refine ⟨_,_,[m.length],ha,.some m.length [v] (by rw[qev rfl];rfl) (by simp),Fr.app m _ _,fun k hk=>?_⟩
  obtain rfl:k=m.length:=by simpa using hk
  exact .inr (qak _)
 | some t l hg hne=>
  have hpos:=qg3.2 hne
  have htl:=qbz hg
  have ho:m.obj? t=some (false,ds l):=by rw[qeA,hg];rfl
  have hY:qD6 m none (.lst none false .full [ni v])=some (1,[ni v]):=rfl
  have hX:qzI m none (.arr t 0 l.length none)=some (l.length,ds l,m.set t none):=by
   simp only[qzI,ho,oBs]
   rw[qal ⟨trivial,trivial,hpos,trivial,by simp[Sh.size,qvA]⟩]
  have ha:qd6 none true 3 none 8 m (.arr t 0 l.length none) (.lst none false .full [ni v])=some (.arr (m.set t none).length 0 (l.length+1) none,m.set t none++[some (.obj false (ds l++[ni v]))]):=by
   simp only[qd6,qyY,hY,hX,oBs]
   rw[qal (show (l.length+1) * 8<=qef by unfold qef;omega)]
  have e:ds l++[ni v]=ds (l++[v]):=by simp[ds]
  have e2:l.length+1=(l++[v]).length:=by simp
  refine ⟨_,_,[(m.set t none).length],by rw[ha,e,e2],.some _ (l++[v]) (by rw[qev rfl]) (by simp),((Fr.refl m [t]).set _ (.inl (by simp))).snoc _,fun k hk=>?_⟩
  obtain rfl:k=(m.set t none).length:=by simpa using hk
  exact .inr (by simp)
structure LS (m0 m:Mem) (b s:Nat) (sb:List Bool) (out:List Nat) (x:AV) (T:List Nat):Prop where
 hb:b=m0.length
 fr:Fr m0 m []
 h0:m.get b=some (.obj true [.ptr s 0])
 h1:m.get (b+1)=some (.obj true [x])
 h2:m.get (b+2)=some (.obj false (sb.map .bool))
 h3:m.get (b+3)=some (.obj true [.arr (b+2) 0 sb.length none])
 h4:m.get (b+4)=some (.obj true [.fn 124 [.ptr (b+3) 0,.ptr b 0,.ptr (b+4) 0,.ptr (b+1) 0]])
 gr:GA m x out T
 hT:∀ y∈T,b+5<=y
theorem qhz:∀ (n:Nat) (l:List Nat),l.Nodup->(∀ x∈l,x < n)->l.length<=n
 | 0,[],_,_=>qak _
 | 0,x::l,_,h=>by have:=h x qaC;omega
 | n+1,l,hn,h=>by
  by_cases hm:n∈l
  ·have e:=List.length_erase_of_mem hm
   have:=qhz n (l.erase n) (hn.erase n) fun x hx=>by
    have h1:=(hn.mem_erase_iff).1 hx
    have:=h x h1.2
    have:=h1.1
    omega
   omega
  ·have:=qhz n l hn fun x hx=>by
    have h1:=h x hx
    have:x≠n:=fun e=>hm (e▸hx)
    omega
   omega
section
variable {m0:Mem} {b s:Nat} {F:List Nat} {arms:AV} {most:Int} {l:List ND} {ar:List Int}
def qHg (l:List ND) (m0:Mem) (b s id:Nat):Prop:=∀ (m:Mem) (sb:List Bool) (out:List Nat) (x:AV) (T:List Nat),LS m0 m b s sb out x T->sb.length=l.length->Cl l out->(∀ i,i<=id->sb.getD i false=decide (i∈out)) ->
 ∃ (m':Mem) (sb':List Bool) (x':AV) (T':List Nat),AC cfg 124 [.int .i64 id,.ptr (b+3) 0,.ptr b 0,.ptr (b+4) 0,.ptr (b+1) 0] m=some (.tup [],m')/\LS m0 m' b s sb' (Vi l id out) x' T'/\sb'.length=l.length /\
  (∀ i,i<=id->sb'.getD i false=decide (i∈Vi l id out))/\∀ i,id < i->sb'.getD i false=sb.getD i false
theorem qJY (g:GoodL ar l) {id:Nat} (hid:id < l.length) (hll:l.length<=100000) (ih:∀ k,k < id->qHg l m0 b s k) {z:Bool} {o:Own} {kids:List Int} (hk:∀ k∈kids,∃ t:Nat,k=t/\t < id) (hkl:kids.length<=1000):∀ (j i:Nat) (m:Mem) (sb:List Bool) (out:List Nat) (x:AV) (T:List Nat),i+j=kids.length->LS m0 m b s sb out x T->sb.length=l.length->Cl l out->(∀ i,i < id->sb.getD i false=decide (i∈out)) ->
  ∃ (m':Mem) (sb':List Bool) (x':AV) (T':List Nat),qm9 (.int .i64 id) (.ptr (b+4) 0) (.ptr (b+1) 0) (IA z o kids) (.int .i64 kids.length) (.int .i64 i) m (qmX (qbw cfg.P f124.results.toList))=qmX (qbw cfg.P f124.results.toList) (.exit 0) (quM (.int .i64 id) (.ptr (b+1) 0) m') /\
   LS m0 m' b s sb' (Vis l (kids.drop i) out) x' T'/\sb'.length=l.length/\(∀ i,i < id->sb'.getD i false=decide (i∈Vis l (kids.drop i) out)\/True)/\(∀ q,q < id->sb'.getD q false=decide (q∈Vis l (kids.drop i) out))/\∀ q,id<=q->sb'.getD q false=sb.getD q false:=by
 intro j
 induction j with
 | zero=>
  intro i m sb out x T hi h hsl hc hsb
  refine ⟨m,sb,x,T,?_,?_,hsl,fun _ _=>.inr trivial,?_,fun _ _=>rfl⟩
  ·rw[qna,qaU,oBs,qap,qah (by omega)]
  ·rw[qbc (by omega)];exact h
  ·rw[qbc (by omega)];exact hsb
 | succ j ihj=>
  intro i m sb out x T hi h hsl hc hsb
  have hil:i < kids.length:=by omega
  obtain ⟨t,et,ht⟩:=hk _ (qaJ hil)
  obtain ⟨m1,sb1,x1,T1,e1,k1,k2,k3,k4⟩:=ih t ht m sb out x T h hsl hc (fun q hq=>hsb q (by omega))
  obtain ⟨c1,c2,r,c3,c4⟩:=qfs g t (by omega) out hc
  have hsb1:∀ q,q < id->sb1.getD q false=decide (q∈Vi l t out):=fun q hq=>by
   by_cases hqt:q<=t
   ·exact k3 q hqt
   ·rw[k4 q (by omega),hsb q hq]
    refine qbP.2 ⟨fun hh=>by rw[c3];exact qz6 _ hh,fun hh=>?_⟩
    rw[c3] at hh
    rcases qaW.1 hh with hh | hh
    ·exact hh
    ·have:=c4 q hh;omega
  obtain ⟨m',sb',x',T',e2,n1,n2,_,n3,n4⟩:=ihj (i+1) m1 sb1 (Vi l t out) x1 T1 (by omega) k1 k2 c1 hsb1
  have ed:Vis l (kids.drop i) out=Vis l (kids.drop (i+1)) (Vi l t out):=by
   rw[qbr hil,qjw,et,qaQ]
  refine ⟨m',sb',x',T',?_,by rw[ed];exact n1,n2,fun _ _=>.inr trivial,by rw[ed];exact n3,fun q hq=>by rw[n4 q hq,k4 q (by omega)]⟩
  have e1:AC cfg 124 ([.int .i64 kids[i]]++[.ptr (b+3) 0,.ptr b 0,.ptr (b+4) 0,.ptr (b+1) 0]) m=some (.tup [],m1):=by rw[et];exact e1
  rw[qna,qaU,oBs,qap,qal (by omega),qeN hil,oBs,qbs,oBs,qgm h.h4,oBs,show qlv (.fn 124 [.ptr (b+3) 0,.ptr b 0,.ptr (b+4) 0,.ptr (b+1) 0])=some (124,[.ptr (b+3) 0,.ptr b 0,.ptr (b+4) 0,.ptr (b+1) 0]) from rfl,oBs,qft rfl rfl rfl,e1,oBs,qbM (by omega),oBs]
  exact e2
theorem A75 (h0:St8 m0 s F arms most l) (hb:b=m0.length) (g:GoodL ar l) (hll:l.length<=100000):∀ id,id < l.length->qHg l m0 b s id:=by
 intro id
 induction id using Nat.strongRecOn with
 | ind id ih=>
  intro hid m sb out x T h hsl hc hsb
  have hsb0:=hsb id (qak _)
  have ld3:=qgm h.h3
  have hixa:qag none (.arr (b+2) 0 sb.length none) (.int .i64 id)=some (.ptr (b+2) id):=qbf (by omega)
  have st:=h0.app h.fr
  obtain ⟨p,na,TT,st,_⟩:=st
  have hs:=st.hs
  have hnx:=qob st.hn hid
  have lb:=qDg h.h2 (i:=id) (by omega)
  have b2:=qbz h.h2
  have b4:=qbz h.h4
  have hsm:s < m0.length:=by
   obtain ⟨p,na,TT,st0,_⟩:=h0
   exact qbz st0.hs
  by_cases hm:id∈out
  ·rw[qa6 hm] at hsb0
   refine ⟨m,sb,x,T,?_,?_,hsl,?_,fun _ _=>rfl⟩
   ·rw[qHl,ld3,oBs,hixa,oBs,lb,oBs,hsb0,qfw]
   ·rw[qo4 g hid,qal hm];exact h
   ·rw[qo4 g hid,qal hm];exact hsb
  ·rw[qa7 hm] at hsb0
   have sbq:=qDJ (y:=true) h.h2 (i:=id) (by omega)
   have h':LS m0 (m.set (b+2) (some (.obj false ((sb.set id true).map .bool)))) b s (sb.set id true) out x T:=by
    refine ⟨hb,h.fr.set _ (.inr (by omega)),?_,?_,?_,?_,?_,?_,h.hT⟩
    ·rw[qdb (by omega)];exact h.h0
    ·rw[qdb (by omega)];exact h.h1
    ·exact qdF rfl b2
    ·rw[qdb (by omega),qai];exact h.h3
    ·rw[qdb (by omega)];exact h.h4
    ·exact qvH h.gr fun y hy=>qdb (by have:=h.hT y hy;omega)
   have hsb':∀ q,q < id->(sb.set id true).getD q false=decide (q∈out):=fun q hq=>by
    rw[qaa,qjn (by omega),<- qaa]
    exact hsb q (by omega)
   have hkA:=qpp (st.ok _ (qaJ hid))
   have hkl:l[id].kids.length<=1000:=by
    rcases st.ok _ (qaJ hid) with ⟨_,h2,_⟩ | ⟨_,_,_,_,h5⟩
    ·rw[h2];simp
    ·omega
   obtain ⟨m1,sb1,x1,T1,e1,k1,k2,_,k3,k4⟩:=qJY g hid hll (fun k hk=>ih k hk (by omega)) (z:=kz l[id]) (o:=ko l[id]) (kids:=l[id].kids) (fun k hk=>qkj g hid k hk) hkl l[id].kids.length 0 _ _ out x T (by omega) h' (by rw[qai];exact hsl) hc hsb'
   rw[qbk] at k1 k3
   obtain ⟨c1,c2,r,c3,c4⟩:=qu8 g hid l[id].kids (fun k hk=>qkj g hid k hk) out hc
   have hl2:(Vis l l[id].kids out).length<=l.length:=by
    exact qhz _ _ c1.nd c1.lt
   obtain ⟨x2,m2,T2,ea,g2,f2,gg2⟩:=qEI k1.gr (by omega) id
   have hne:∀ q,q < b+5->q∉T1:=fun q hq hT=>by have:=k1.hT q hT;omega
   have ge:∀ q,q < b+5->m2.get q=m1.get q:=fun q hq=>f2.get q (by have:=qbz k1.h4;omega) (hne q hq)
   have hl1:=qbz k1.h4
   have hl12:=f2.len
   have g21:m2.get (b+1)=some (.obj true [x1]):=by rw[ge _ (by omega)];exact k1.h1
   have eV:Vi l id out=Vis l l[id].kids out++[id]:=by rw[qo4 g hid,qah hm]
   have sx:qaR none m2 (.ptr (b+1) 0) x2=some (m2.set (b+1) (some (.obj true [x2]))):=qFm g21 (qEJ g2).1 (qEJ g2).2
   refine ⟨m2.set (b+1) (some (.obj true [x2])),sb1,x2,T2,?_,?_,k2,?_,?_⟩
   ·rw[qHl,ld3,oBs,hixa,oBs,lb,oBs,hsb0,qdW]
    rw[oBs,hixa,oBs,sbq,oBs,qgm h'.h0,oBs,qh4,oBs,qgk,oBs]
    have ldna:qat none (m.set (b+2) (some (.obj false ((sb.set id true).map .bool)))) (.ptr s (0+1))=some na:=by
     rw[qea,qdb (by omega),hs];rfl
    rw[ldna,oBs,hnx,oBs,f1v,oBs,l2v,oBs,hkA,qeb,oBs]
    have e1:qm9 (.int .i64 id) (.ptr (b+4) 0) (.ptr (b+1) 0) (IA (kz l[id]) (ko l[id]) l[id].kids) (.int .i64 l[id].kids.length) (.int .i64 0) (m.set (b+2) (some (.obj false ((sb.set id true).map .bool)))) (qmX (qbw cfg.P f124.results.toList))=_:=e1
    rw[e1,qti,qgm k1.h1,oBs,qeu,oBs,ea,oBs,sx,oBs]
   ·rw[eV]
    refine ⟨hb,(Fr.trans k1.fr f2 fun y hy=>.inr (by have:=k1.hT y hy;omega)).set _ (.inr (by omega)),?_,?_,?_,?_,?_,?_,?_⟩
    ·rw[qdb (by omega),ge _ (by omega)];exact k1.h0
    ·exact qdF rfl (by omega)
    ·rw[qdb (by omega),ge _ (by omega)];exact k1.h2
    ·rw[qdb (by omega),ge _ (by omega)];exact k1.h3
    ·rw[qdb (by omega),ge _ (by omega)];exact k1.h4
    ·refine qvH g2 fun y hy=>qdb ?_
     rcases gg2 y hy with hh | hh
     ·have:=k1.hT y hh;omega
     ·omega
    ·intro y hy
     rcases gg2 y hy with hh | hh
     ·exact k1.hT y hh
     ·omega
   ·intro q hq
    rw[eV]
    by_cases hqi:q=id
    ·subst hqi
     rw[k4 q (qak _),qaa,qhG (by omega),qaP]
     exact (qa6 (by simp)).symm
    ·rw[k3 q (by omega)]
     refine qbP.2 ⟨fun hh=>qz6 _ hh,fun hh=>?_⟩
     rcases qaW.1 hh with hh | hh
     ·exact hh
     ·exact absurd (by simpa using hh) hqi
   ·intro q hq
    rw[k4 q (by omega),qaa,qjn (by omega),<- qaa]
theorem qv2 (m:Mem) (n:Nat) (h:n<=100000):qeU none 4 none (.bool false) 1 m (.int .i64 n) (.int .i64 n)=some (.arr m.length 0 n none,m++[some (Ent.obj false ((List.replicate n false).map .bool))]):=by
 have h3:(n:Int) * 1<=281474976710656:=by omega
 have h4:(n:Int)<=9223372036854775807:=by omega
 have h5:(0:Int)<=n:=by omega
 simp only[qeU,qaH,qkK,qeH,qa5,qaQ,List.map_replicate]
 rw[qal ⟨h5,trivial,h3,h4⟩]
theorem A61 (h0:St8 m0 s F arms most l) (g:GoodL ar l) (hll:l.length<=100000) {id:Nat} (hid:id < l.length):∃ (m':Mem) (x:AV) (T:List Nat),AC cfg 65 [.ptr s 0,.int .i64 id] m0=some (x,m')/\GA m' x (Vi l id []) T/\Fr m0 m' []/\∀ y∈T,m0.length<=y:=by
 have hx:=h0
 obtain ⟨p,na,TT,h,_⟩:=hx
 have hs:=h.hs
 have hsl:=qbz hs
 have hlen:qbY false na=some (.int .i64 l.length):=by
  cases h.hn with
  | none=>rfl
  | some t l ht=>rw[qez,qaE]
 have mk:=fun m=>qv2 m l.length hll
 generalize hM:(List.set ((List.set (((m0++[some (Ent.obj true [.ptr s 0])])++[some (Ent.obj true [.lst none true .full []])])++[some (Ent.obj false ((List.replicate l.length false).map .bool))]++[some (Ent.obj true [.lst none true .full []])]) (m0.length+1+1+1) (some (Ent.obj true [.arr (m0.length+1+1) 0 l.length none])))++[some (Ent.obj true [.nilf])]) (m0.length+1+1+1+1) (some (Ent.obj true [.fn 124 [.ptr (m0.length+1+1+1) 0,.ptr m0.length 0,.ptr (m0.length+1+1+1+1) 0,.ptr (m0.length+1) 0]])))=M
 have ls:LS m0 M m0.length s (List.replicate l.length false) [] (.lst none true .full []) []:=by
  rw[<- hM]
  refine ⟨rfl,?_,(by simp (disch:=(first | assumption | omega | (simp only[qab,qai,qad,qae];first | done | omega))) only[qeI,qey,qev,qdb,qdF];first | done | rfl),(by simp (disch:=(first | assumption | omega | (simp only[qab,qai,qad,qae];first | done | omega))) only[qeI,qey,qev,qdb,qdF];first | done | rfl),(by simp (disch:=(first | assumption | omega | (simp only[qab,qai,qad,qae];first | done | omega))) only[qeI,qey,qev,qdb,qdF];first | done | rfl),?_,(by simp (disch:=(first | assumption | omega | (simp only[qab,qai,qad,qae];first | done | omega))) only[qeI,qey,qev,qdb,qdF];first | done | rfl),.none,by simp⟩
  ·exact ((((((Fr.app m0 _ _).snoc _).snoc _).snoc _).set _ (.inr (by omega))).snoc _).set _ (.inr (by omega))
  ·rw[qdn];exact (by simp (disch:=(first | assumption | omega | (simp only[qab,qai,qad,qae];first | done | omega))) only[qeI,qey,qev,qdb,qdF];first | done | rfl)
 obtain ⟨m',sb',x',T',e,k1,_,_,_⟩:=A75 h0 rfl g hll id hid M (List.replicate l.length false) [] (.lst none true .full []) [] ls (by simp) qjd (fun i hi=>by
  rw[qaa,qeS,qal (by omega)];rfl)
 refine ⟨m',x',T',?_,k1.gr,k1.fr,fun y hy=>by have:=k1.hT y hy;omega⟩
 rw[T65]
 repeat ((with_reducible (first | apply bs | apply bsy));(focus (first | (simp (disch:=(first | assumption | omega | (simp only[qab,qai,qad,qae];first | done | omega))) only[LLb,beq_self_eq_true,qcN,oBs,Sh.size,qa5,qbK,Nat.reduceAdd,Nat.reduceLeDiff,qak,hs,hlen,mk,qiQ];first | done | rfl) | rfl));try dsimp only)
 have en:(qaH none (m0++[some (Ent.obj true [.ptr s 0])]) .resv).1=m0.length+1:=by simp[qDr]
 rw[qft rfl rfl rfl,hM,List.singleton_append,e,oBs,en]
 dsimp only
 rw[qgm k1.h1,oBs]
end
end Go.Ab

/- List: the nodes of a diagram, each with the places of its kids. -/
set_option maxRecDepth 100000
namespace Go.Ab
open Go.Proofs Go.Proofs.Tryz
def pe:Nat->List Nat->List (AV×AV)
 | _,[]=>[]
 | k,i::l=>(.int .i64 i,.int .i64 k)::pe (k+1) l
section
variable {m0:Mem} {s:Nat} {F:List Nat} {arms:AV} {most:Int} {l:List ND} {ar:List Int}
end
end Go.Ab

/- slices.Compact of a row that rises. Plain Lean. -/
namespace Go.Ab
theorem qkD (ns:List Int):(qgt ns).length=ns.length:=List.length_mergeSort _
theorem qwE (ns:List Int) (x:Int):x∈qgt ns↔x∈ns:=by
 unfold qgt
 exact List.mem_mergeSort
theorem qop (ns:List Int):(qgt ns).Pairwise (·<=·):=by
 have h:(qgt ns).Pairwise fun a b=>decide (a<=b)=true:=List.pairwise_mergeSort (fun a b c h1 h2=>by simp only[qcI] at *;omega) (fun a b=>by simp only[qmS,qcI];omega) ns
 exact h.imp fun h=>by simpa using h
theorem qhY (zs:List Int):(Lib.compact zs).length<=zs.length:=by
 unfold Lib.compact Lib.compactUpTo
 rw[qaE]
 have:=List.length_filter_le (Lib.keeps zs.toArray) (List.range zs.length)
 rwa [List.length_range] at this
theorem qgK {zs:List Int} {j:Nat} (h:j < zs.length):zs.toArray[j]! = zs[j]:=by simp[h]
theorem qki (zs:List Int) (j:Nat):Lib.keeps zs.toArray j=true↔j=0\/zs.toArray[j]!≠zs.toArray[j - 1]!:=by
 unfold Lib.keeps
 simp
theorem qpa {zs:List Int} (x:Int):x∈Lib.compact zs↔x∈zs:=by
 unfold Lib.compact Lib.compactUpTo
 rw[qbF]
 constructor
 ·rintro ⟨j,hj,rfl⟩
  have hjl:j < zs.length:=by
   have:=(qcJ.1 hj).1
   simpa using this
  rw[qgK hjl]
  exact qaJ hjl
 ·intro hx
  obtain ⟨i,hi,e⟩:=qbH hx
  have key:∀ i,(hi:i < zs.length)->∃ j,j < zs.length/\Lib.keeps zs.toArray j=true/\zs.toArray[j]! = zs[i]:=by
   intro i
   induction i with
   | zero=>intro hi;exact ⟨0,hi,(qki zs 0).2 (.inl rfl),qgK hi⟩
   | succ i ih=>
    intro hi
    by_cases hk:Lib.keeps zs.toArray (i+1)=true
    ·exact ⟨i+1,hi,hk,qgK hi⟩
    ·have hi':i < zs.length:=by omega
     obtain ⟨j,h1,h2,h3⟩:=ih hi'
     refine ⟨j,h1,h2,h3.trans ?_⟩
     rw[qki] at hk
     have h4:zs.toArray[i+1]! = zs.toArray[i]!:=qbJ fun hne=>hk (.inr (by rw[qbO];exact hne))
     rw[qgK hi,qgK hi'] at h4
     exact h4.symm
  obtain ⟨j,h1,h2,h3⟩:=key i hi
  exact ⟨j,qcJ.2 ⟨by simpa using h1,h2⟩,h3.trans e⟩
theorem qnM {zs:List Int} (h:zs.Pairwise (·<=·)):(Lib.compact zs).Pairwise (· < ·):=by
 unfold Lib.compact Lib.compactUpTo
 rw[List.pairwise_map]
 have hr:((List.range zs.length).filter (Lib.keeps zs.toArray)).Pairwise (· < ·):=List.Pairwise.filter _ List.pairwise_lt_range
 refine List.Pairwise.imp_of_mem ?_ hr
 intro a b ha hb hab
 have hal:a < zs.length:=by simpa using (qcJ.1 ha).1
 have hbl:b < zs.length:=by simpa using (qcJ.1 hb).1
 have hk:=(qki zs b).1 (qcJ.1 hb).2
 have hb0:b≠0:=by omega
 have hne:=hk.resolve_left hb0
 have hb1:b - 1 < zs.length:=by omega
 rw[qgK hbl,qgK hb1] at hne
 rw[qgK hal,qgK hbl]
 have hp:=List.pairwise_iff_getElem.1 h
 have h1:zs[a]<=zs[b - 1]:=by
  by_cases e:a=b - 1
  ·subst e;exact qeH _
  ·exact hp a (b - 1) hal hb1 (by omega)
 have h2:zs[b - 1]<=zs[b]:=hp (b - 1) b hb1 hbl (by omega)
 omega
def qrU (ns:List Int):List Int:=Lib.compact (qgt ns)
theorem qzT:qrU []=[]:=by
 refine qa4 ?_
 have h1:=qhY (qgt [])
 have h2:=qkD []
 unfold qrU
 simp only[qae] at h2
 omega
theorem qwL (ns:List Int):(qrU ns).Pairwise (· < ·):=qnM (qop ns)
theorem qmL (ns:List Int) (x:Int):x∈qrU ns↔x∈ns:=by unfold qrU;rw[qpa,qwE]
end Go.Ab

/- Support, Leaves, Size by value. -/
set_option maxRecDepth 100000
namespace Go.Ab
open Go.Proofs Go.Proofs.Tryz
def qAh (B:Nat) (m:Mem) (x:AV) (ns:List Int):Prop:=(x=.lst none true .full []/\ns=[])\/∃ t,x=.arr t 0 ns.length none/\0 < ns.length/\m.get t=some (.obj false (ns.map (AV.int .i64)))/\B<=t
theorem qAh.move {B:Nat} {m m':Mem} {x:AV} {ns:List Int} (h:qAh B m x ns) (hm:∀ t,x=.arr t 0 ns.length none->t < m.length->m'.get t=m.get t):qAh B m' x ns:=by
 rcases h with h | ⟨t,hx,h1,h2,h3⟩
 ·exact .inl h
 ·exact .inr ⟨t,hx,h1,by rw[hm t hx (qbz h2)];exact h2,h3⟩
theorem qFb {B:Nat} {m:Mem} {x:AV} {ns:List Int} (h:qAh B m x ns) (hl:ns.length<=100000) (hB:B<=m.length) (v:Int):∃ x' m',qd6 none true 3 none 8 m x (.lst none false .full [.int .i64 v])=some (x',m')/\qAh B m' x' (ns++[v])/\m.length<=m'.length/\∀ y,y < m.length->(∀ t,x=.arr t 0 ns.length none->y≠t)->m'.get y=m.get y:=by
 rcases h with ⟨rfl,rfl⟩ | ⟨t,rfl,hpos,hg,htB⟩
 ·have ha:qd6 none true 3 none 8 m (.lst none true .full []) (.lst none false .full [.int .i64 v])=some (.arr m.length 0 1 none,m++[some (.obj false [.int .i64 v])]):=by
   simp only[qd6,qae,qad,qar,qa5,or_true,qaw,qaH]
   rfl
  exact ⟨_,_,ha,.inr ⟨m.length,by simp,by simp,by rw[qev rfl];rfl,hB⟩,by simp,fun y hy _=>qey hy⟩
 ·have htl:=qbz hg
  have ho:m.obj? t=some (false,ns.map (AV.int .i64)):=by rw[qeA,hg];rfl
  have hY:qD6 m none (.lst none false .full [.int .i64 v])=some (1,[.int .i64 v]):=rfl
  have hX:qzI m none (.arr t 0 ns.length none)=some (ns.length,ns.map (AV.int .i64),m.set t none):=by
   simp only[qzI,ho,oBs]
   rw[qal ⟨trivial,trivial,hpos,trivial,by simp[Sh.size]⟩]
  have ha:qd6 none true 3 none 8 m (.arr t 0 ns.length none) (.lst none false .full [.int .i64 v])=some (.arr (m.set t none).length 0 (ns.length+1) none,(m.set t none)++[some (.obj false (ns.map (AV.int .i64)++[.int .i64 v]))]):=by
   simp only[qd6,qyY,hY,hX,oBs]
   rw[qal (show (ns.length+1) * 8<=qef by unfold qef;omega)]
  have hml:(m.set t (none:Option Ent)).length=m.length:=qai
  refine ⟨_,_,ha,.inr ⟨(m.set t none).length,by simp,by simp,by rw[qev rfl,qcA];rfl,by rw[hml];exact hB⟩,by simp,fun y hy hne=>?_⟩
  rw[qey (by rw[hml];exact hy),qdb (hne t rfl)]
def qFt (B:Nat) (m:Mem) (y:AV) (rs:List Int):Prop:=(y=.lst none true .full []/\rs=[])\/∃ t zs,y=.arr t 0 rs.length none/\m.get t=some (.obj false ((rs++zs).map (AV.int .i64)))/\B<=t
section
variable {s:Nat} {F:List Nat} {arms:AV} {most:Int} {l:List ND}
theorem B23 (n:ND) (m:Mem):AC cfg 106 [n.av] m=some (.tup [.int .i64 n.leaf,.bool (decide (n.var < 0))],m++[some (Ent.obj true [.int .i64 n.var,qdE n,.int .i64 n.leaf])]):=by
 have e:qeJ (some 3) n.av=true:=by unfold ND.av qdE;split<;>rfl
 have hb:qf8 none (some 3) m n.av=some (.ptr m.length 0,m++[some (Ent.obj true [.int .i64 n.var,qdE n,.int .i64 n.leaf])]):=by
  unfold qf8
  rw[qal e];rfl
 have l0:qat none (m++[some (Ent.obj true [.int .i64 n.var,qdE n,.int .i64 n.leaf])]) (.ptr m.length (0+0))=some (.int .i64 n.var):=by
  rw[qea,qev rfl];rfl
 have l2:qat none (m++[some (Ent.obj true [.int .i64 n.var,qdE n,.int .i64 n.leaf])]) (.ptr m.length (0+2))=some (.int .i64 n.leaf):=by
  rw[qea,qev rfl];rfl
 rw[qHY,hb,oBs,qgk,oBs,l2,oBs,qgk,oBs,l0,oBs,qaU,oBs]
theorem qGY {ar:List Int} {m:Mem} {x:AV} {T:List Nat} (g:GoodL ar l) {id:Nat} (hid:id < l.length) (h:GA m x (Vi l id []) T):∃ t,x=.arr t 0 (Vi l id []).length none/\m.get t=some (.obj false (ds (Vi l id []))):=by
 generalize hV:Vi l id []=ids at h
 cases h with
 | none=>
  have:id∈Vi l id []:=by rw[qo4 g hid,qah (by simp)];simp
  rw[hV] at this;cases this
 | some t ids ht hne=>exact ⟨t,rfl,ht⟩
def qf0 (val:ND->Int) (keep:ND->Bool) (l:List ND) (ids:List Nat):List Int:=(ids.filter fun i=>keep (l.getD i ⟨0,[],0⟩)).map fun i=>val (l.getD i ⟨0,[],0⟩)
theorem qlL (val:ND->Int) (keep:ND->Bool) (l:List ND) (p:List Nat) (i:Nat):qf0 val keep l (p++[i])=qf0 val keep l p++(if keep (l.getD i ⟨0,[],0⟩)=true then [val (l.getD i ⟨0,[],0⟩)] else []):=by
 unfold qf0
 rw[List.filter_append,qcA,List.filter_cons,List.filter_nil]
 congr 1
 split<;>rfl
theorem X21 {cf:Nat} {val:ND->Int} {keep:ND->Bool} (c1:((cfg.lib cf).isNone && (cfg.libm cf).isNone)=true) (c2:cfg.inl 104 cf=true) (c3:cfg.thaw 104 cf=false) (c4:cfg.frzc 104 cf=false) (hcf:∀ (n:ND) m,AC cfg cf [n.av] m=some (.tup [.int .i64 (val n),.bool (keep n)],m++[some (Ent.obj true [.int .i64 n.var,qdE n,.int .i64 n.leaf])]))
  {m0:Mem} (h0:St8 m0 s F arms most l) {ids:List Nat} (hids:∀ i∈ids,i < l.length) (hil:ids.length<=100000) {t:Nat} (ht:m0.get t=some (.obj false (ds ids))):∀ (q p:List Nat) (m:Mem) (x:AV),ids=p++q->Fr m0 m []->qAh m0.length m x (qf0 val keep l p) ->
  ∃ m' x',qi6 (.ptr s 0) (.fn cf []) x (.arr t 0 ids.length none) (.int .i64 ids.length) (.int .i64 p.length) m (qi5 (qbw cfg.P f104.results.toList))=qi5 (qbw cfg.P f104.results.toList) (.exit 0) (qqQ x' m')/\Fr m0 m' []/\qAh m0.length m' x' (qf0 val keep l ids):=by
 intro q
 induction q with
 | nil=>
  intro p m x hpq f hx
  rw[qav] at hpq
  subst hpq
  refine ⟨m,x,?_,f,hx⟩
  rw[qm7,qdc,oBs,qap,qah (by omega)]
 | cons i q ih=>
  intro p m x hpq f hx
  have hpl:p.length < ids.length:=by rw[hpq];simp
  have hat:ids[p.length]=i:=by simp[hpq]
  have hi:i < l.length:=hids i (by rw[hpq];simp)
  have hix:qag none (.arr t 0 ids.length none) (.int .i64 p.length)=some (.ptr t p.length):=qbf hpl
  have hld:qat none m (.ptr t p.length)=some (.int .i64 (i:Nat)):=by
   rw[qea,f.get t (qbz ht) (by simp),ht,qd5,oBs,qC0]
   exact qvz (by rw[hpq];simp)
  have hst:=h0.app f
  obtain ⟨p0,na,TT,st,_⟩:=hst
  have ldn:qat none m (.ptr s (0+1))=some na:=by rw[qea,st.hs];rfl
  have hnx:=qob st.hn hi
  have ldv:qat (some 3) m (.vptr [.int .i64 l[i].var,qdE l[i],.int .i64 l[i].leaf])=some l[i].av:=rfl
  have hc:=hcf l[i] m
  have hgd:l.getD i ⟨0,[],0⟩=l[i]:=qeD hi
  have f1:Fr m0 (m++[some (Ent.obj true [.int .i64 l[i].var,qdE l[i],.int .i64 l[i].leaf])]) []:=f.snoc _
  have hx1:qAh m0.length (m++[some (Ent.obj true [.int .i64 l[i].var,qdE l[i],.int .i64 l[i].leaf])]) x (qf0 val keep l p):=hx.move fun t _ ht=>qey ht
  have hp1:(p++[i]).length=p.length+1:=by simp
  have htl:(qf0 val keep l p).length<=100000:=by
   unfold qf0
   rw[qaE]
   have:=List.length_filter_le (fun i=>keep (l.getD i ⟨0,[],0⟩)) p
   omega
  have hstep:qi6 (.ptr s 0) (.fn cf []) x (.arr t 0 ids.length none) (.int .i64 ids.length) (.int .i64 p.length) m (qi5 (qbw cfg.P f104.results.toList))=ifA (.bool (keep l[i])) ((qd6 none true 3 none 8 (m++[some (Ent.obj true [.int .i64 l[i].var,qdE l[i],.int .i64 l[i].leaf])]) x (.lst none false .full [.int .i64 (val l[i])])).bind fun r15=>qi6 (.ptr s 0) (.fn cf []) r15.1 (.arr t 0 ids.length none) (.int .i64 ids.length) (.int .i64 (p.length+1:Nat)) r15.2 (qi5 (qbw cfg.P f104.results.toList))) (qi6 (.ptr s 0) (.fn cf []) x (.arr t 0 ids.length none) (.int .i64 ids.length) (.int .i64 (p.length+1:Nat)) (m++[some (Ent.obj true [.int .i64 l[i].var,qdE l[i],.int .i64 l[i].leaf])]) (qi5 (qbw cfg.P f104.results.toList))):=by
   rw[qm7,qdc,oBs,qap,qal hpl,hix,oBs,hld,oBs,qh4,oBs,qgk,oBs,ldn,oBs,hnx,oBs,ldv,oBs,show qlv (.fn cf [])=some (cf,[]) from rfl,oBs,qft c1 c2 c3 c4,qav,hc,oBs,ex0,oBs,ex1,oBs,qbM (by omega),qeu,oBs]
   rfl
  cases hk:keep l[i] with
  | true=>
   obtain ⟨x2,m2,ea,hx2,hlen,hg2⟩:=qFb hx1 htl (by have:=f1.len;omega) (val l[i])
   have f2:Fr m0 m2 []:=⟨by have:=f1.len;omega,fun y hy _=>by
    have hl:=f1.len
    rw[hg2 y (by omega) (fun t ht e=>by
     rcases hx1 with ⟨h1,_⟩ | ⟨t',h1,_,_,h4⟩
     ·rw[h1] at ht;cases ht
     ·rw[h1] at ht;cases ht;omega)]
    exact f1.get y hy (by simp)⟩
   have het:qf0 val keep l (p++[i])=qf0 val keep l p++[val l[i]]:=by
    rw[qlL,hgd,hk,qal rfl]
   obtain ⟨m',x',e,k1,k2⟩:=ih (p++[i]) m2 x2 (by rw[hpq,qaL];rfl) f2 (by rw[het];exact hx2)
   refine ⟨m',x',?_,k1,k2⟩
   rw[hp1] at e
   rw[hstep,hk,qfw,ea,oBs]
   exact e
  | false=>
   have het:qf0 val keep l (p++[i])=qf0 val keep l p:=by
    rw[qlL,hgd,hk,qah (by simp),qav]
   obtain ⟨m',x',e,k1,k2⟩:=ih (p++[i]) _ x (by rw[hpq,qaL];rfl) f1 (by rw[het];exact hx1)
   refine ⟨m',x',?_,k1,k2⟩
   rw[hp1] at e
   rw[hstep,hk,qdW]
   exact e
theorem B21 {cf:Nat} {val:ND->Int} {keep:ND->Bool} (c1:((cfg.lib cf).isNone && (cfg.libm cf).isNone)=true) (c2:cfg.inl 104 cf=true) (c3:cfg.thaw 104 cf=false) (c4:cfg.frzc 104 cf=false) (hcf:∀ (n:ND) m,AC cfg cf [n.av] m=some (.tup [.int .i64 (val n),.bool (keep n)],m++[some (Ent.obj true [.int .i64 n.var,qdE n,.int .i64 n.leaf])]))
  {m0:Mem} {ar:List Int} (h0:St8 m0 s F arms most l) (hm:most≠0) (g:GoodL ar l) (hll:l.length<=100000) {id:Nat} (hid:id < l.length) :
  ∃ m' y,AC cfg 104 [.ptr s 0,.int .i64 id,.fn cf []] m0=some (.tup [y,.int .i64 0],m')/\Fr m0 m' []/\qFt m0.length m' y (qrU (qf0 val keep l (Vi l id []))):=by
 have e50:=A50 h0 hm
 have e56:=A56 h0 id
 rw[qa6 (by omega)] at e56
 obtain ⟨m1,x,T,e61,hgr,f1,_⟩:=A61 h0 g hll hid
 obtain ⟨cc1,cc2,_⟩:=qfs g id hid [] qjd
 obtain ⟨t0,rfl,ht0⟩:=qGY g hid hgr
 have hvl:=qhz _ _ cc1.nd cc1.lt
 have st1:=h0.app f1
 obtain ⟨m2,x2,e,f2,hx2⟩:=X21 c1 c2 c3 c4 hcf st1 (ids:=Vi l id []) cc1.lt (by omega) ht0 (Vi l id []) [] m1 (.lst none true .full []) rfl (Fr.refl _ _) (.inl ⟨rfl,rfl⟩)
 have hlenx:qbY false (.arr t0 0 (Vi l id []).length none)=some (.int .i64 (Vi l id []).length):=rfl
 have f12:Fr m0 m2 []:=Fr.trans f1 f2 fun _ hh=>by cases hh
 have hl1:=f1.len;have hl2:=f2.len
 have e0:AC cfg 104 [.ptr s 0,.int .i64 id,.fn cf []] m0=qi5 (qbw cfg.P f104.results.toList) (.exit 0) (qqQ x2 m2):=by
  have e61:AC cfg 65 [.ptr s 0,.int .i64 id] m0=some (.arr t0 0 (Vi l id []).length none,m1):=e61
  rw[qHX,e50,oBs,qdW,e56,oBs,qfU,oBs,qcC,qdW,e61,oBs,hlenx,oBs]
  exact e
 rw[e0,qs4]
 generalize hns:qf0 val keep l (Vi l id [])=ns at *
 have hnl:ns.length<=100000:=by
  rw[<- hns]
  unfold qf0
  rw[qaE]
  have:=List.length_filter_le (fun i=>keep (l.getD i ⟨0,[],0⟩)) (Vi l id [])
  omega
 rcases hx2 with ⟨rfl,rfl⟩ | ⟨t,rfl,hpos,hg,htB⟩
 ·exact ⟨m2,_,rfl,f12,.inl ⟨rfl,qzT⟩⟩
 ·have htl:=qbz hg
  have ho:m2.obj? t=some (false,ns.map (AV.int .i64)):=by rw[qeA,hg];rfl
  have es:qpO [.arr t 0 ns.length none] m2=some (.tup [],m2.set t (some (.obj false ((qgt ns).map (AV.int .i64))))):=by
   simp only[qpO,ho,oBs]
   rw[qal ⟨trivial,trivial,hpos,by simp,by omega⟩,qkg];rfl
  have hg2:Mem.get (m2.set t (some (.obj false ((qgt ns).map (AV.int .i64))))) t=some (.obj false ((qgt ns).map (AV.int .i64))):=qdF rfl htl
  have ho2:Mem.obj? (m2.set t (some (.obj false ((qgt ns).map (AV.int .i64))))) t=some (false,(qgt ns).map (AV.int .i64)):=by rw[qeA,hg2];rfl
  have hsl:=qkD ns
  have ec:qgE [.arr t 0 ns.length none] (m2.set t (some (.obj false ((qgt ns).map (AV.int .i64)))))=some (.arr t 0 (qrU ns).length none,m2.set t (some (.obj false ((qrU ns++List.replicate ((qgt ns).length - (qrU ns).length) 0).map (AV.int .i64))))):=by
   simp only[qgE,ho2,oBs]
   rw[qal ⟨trivial,trivial,hpos,by rw[qaE,hsl],by omega⟩,qkg,qaf,quJ];rfl
  refine ⟨_,_,by rw[es,oBs,ec,oBs],⟨by rw[qai];exact f12.len,fun y hy _=>?_⟩,.inr ⟨t,List.replicate ((qgt ns).length - (qrU ns).length) 0,rfl,qdF rfl htl,by omega⟩⟩
  rw[qdb (by omega)]
  exact f12.get y hy (by simp)
theorem B10 {m0:Mem} {ar:List Int} (h0:St8 m0 s F arms most l) (hm:most≠0) (g:GoodL ar l) (hll:l.length<=100000) {id:Nat} (hid:id < l.length) :
  ∃ m' y,AC cfg 41 [.ptr s 0,.int .i64 id] m0=some (.tup [y,.int .i64 0],m')/\Fr m0 m' []/\qFt m0.length m' y (qrU (qf0 (fun n=>n.leaf) (fun n=>decide (n.var < 0)) l (Vi l id []))):=by
 obtain ⟨m',y,e,h1,h2⟩:=B21 (cf:=106) rfl rfl rfl rfl B23 h0 hm g hll hid
 exact ⟨m',y,by rw[T41,e,oBs,ex0,oBs,ex1,oBs],h1,h2⟩
end
end Go.Ab

/- What the interpreter does, function by function. -/
set_option maxRecDepth 100000
namespace Go.Ab
open Go.Proofs.Tryz
def quN (x5:AV) (m:Mem):St:=⟨(yA4 (yA1 (x5::qdC (yA1 [])))),m⟩
noncomputable def qqh (x1 x5 x21 x22 x23:AV) (m:Mem) (K:KT):OM:=qbq (qaM cfg 127 (AP cfg) (AC cfg) (c1 (c1 (c2 (c1 (c2 (c2 (c2 (qaq f127))))))))) (cfg.mask 127 (some 4)) ⟨(yA1 (x1::yA2 (yA1 (x5::yA8 (yA4 (yA2 (yA1 (x21::x22::x23::qdR (yA8 (yA4 (yA2 (yA1 [])))))))))))),m⟩ K
def quO (x1 x5 x6 x8 x21 x22 x23:AV) (m:Mem):St:=⟨(yA1 (x1::yA2 (yA1 (x5::x6::yA1 (x8::yA8 (yA4 (x21::x22::x23::qdR (yA8 (yA4 (yA2 (yA1 []))))))))))),m⟩
noncomputable def qqi (x1 x5 x6 x7 x8 x21 x22 x23 x28 x29 x30:AV) (m:Mem) (K:KT):OM:=qbq (qaM cfg 127 (AP cfg) (AC cfg) (c1 (c1 (c2 (c1 (c2 (c2 (c1 (c1 (c2 (c2 (c1 (c1 (c2 (c1 (c2 (c2 (c2 (qaq f127))))))))))))))))))) (cfg.mask 127 (some 8)) ⟨(yA1 (x1::yA2 (yA1 (x5::x6::x7::x8::yA8 (yA4 (x21::x22::x23::yA4 (x28::x29::x30::qdR (yA8 [])))))))),m⟩ K
noncomputable abbrev qxg (K:KT):KT:=qdH (fun st=>qaM cfg 127 (AP cfg) (AC cfg) (c2 (c2 (c2 (c2 (qaq f127))))) st K) K
noncomputable abbrev qxh (K:KT):KT:=qbb 0 (qxg K)
noncomputable abbrev qtn (K:KT):KT:=(qxh K)
noncomputable abbrev qxi (K:KT):KT:=qdH (fun st=>qaM cfg 127 (AP cfg) (AC cfg) (c2 (c2 (c2 (c1 (c1 (c2 (c1 (c2 (c2 (c2 (qaq f127))))))))))) st (qcQ (fun st=>qbq (qaM cfg 127 (AP cfg) (AC cfg) (c1 (c1 (c2 (c1 (c2 (c2 (c2 (qaq f127))))))))) (cfg.mask 127 (some 4)) st K) (cfg.mask 127 (some 4)) K)) (qcQ (fun st=>qbq (qaM cfg 127 (AP cfg) (AC cfg) (c1 (c1 (c2 (c1 (c2 (c2 (c2 (qaq f127))))))))) (cfg.mask 127 (some 4)) st K) (cfg.mask 127 (some 4)) K)
noncomputable abbrev qp4 (K:KT):KT:=qbb 1 (qxi K)
noncomputable abbrev qxj (K:KT):KT:=qdH (fun st=>qaM cfg 127 (AP cfg) (AC cfg) (c2 (c2 (c2 (c1 (c1 (c2 (c2 (c1 (c1 (c2 (c1 (c2 (c2 (c2 (qaq f127))))))))))))))) st (qp4 K)) (qp4 K)
noncomputable abbrev qxk (K:KT):KT:=qbb 2 (qxj K)
noncomputable abbrev qtp (K:KT):KT:=(qxk K)
theorem qH6 (a0 a1:AV) (m:Mem):AC cfg 127 [a0,a1] m =
 (qaN (AP cfg) none m 164 [a0]).bind fun r1=>
 (qaN (AP cfg) none r1.2 164 [a1]).bind fun r2=>
 (qbY false r1.1).bind fun v3=>
 (qbY false r2.1).bind fun v4=>
 (qaz .other .add v3 v4).bind fun v5=>
 (qeU none 161 none (.int .u32 0) 4 r2.2 v5 v5).bind fun r6=>
 (qbY false r1.1).bind fun v7=>
 qqh r2.1 r6.1 r1.1 v7 (.int .i64 0) r6.2 (qtn (qbw cfg.P f127.results.toList)):=
(qbx cfg 127 [a0,a1] m (fn:=f127) (c:=qaq f127) qGh rfl).trans (by kernel_rfl)
theorem qnf (x1 x5 x21 x22 x23:AV) (m:Mem) (K:KT):qqh x1 x5 x21 x22 x23 m K =
 (qaz .other .lss x23 x22).bind fun v1=>
 ifA v1 (
 (qag none x21 x23).bind fun v2=>
 (qat none m v2).bind fun v3=>
 (qbY false x1).bind fun v4=>
 qqi x1 x5 x23 v3 (.int .u64 0) x21 x22 x23 x1 v4 (.int .i64 0) m (qtp K)) (
 K (.exit 0) (quN x5 m)):=
(qa3 (qaT _) _ _ _).trans (by kernel_rfl)
theorem qng (x1 x5 x6 x7 x8 x21 x22 x23 x28 x29 x30:AV) (m:Mem) (K:KT):qqi x1 x5 x6 x7 x8 x21 x22 x23 x28 x29 x30 m K =
 (qaz .other .lss x30 x29).bind fun v1=>
 ifA v1 (
 (qag none x28 x30).bind fun v2=>
 (qat none m v2).bind fun v3=>
 (qaz .other .add x6 x30).bind fun v4=>
 (qag none x5 v4).bind fun v5=>
 (qat none m v5).bind fun v6=>
 (qbl .u64 v6).bind fun v7=>
 (qbl .u64 x7).bind fun v8=>
 (qbl .u64 v3).bind fun v9=>
 (qaz .other .mul v8 v9).bind fun v10=>
 (qaz .other .add v7 v10).bind fun v11=>
 (qaz .other .add x8 v11).bind fun v12=>
 (qaz .other .add x6 x30).bind fun v13=>
 (qbl .u32 v12).bind fun v14=>
 (qag none x5 v13).bind fun v15=>
 (qaR none m v15 v14).bind fun m16=>
 (qaz .other .shr v12 (.int .u64 32)).bind fun v17=>
 (qaz .other .add x30 (.int .i64 1)).bind fun v18=>
 qqi x1 x5 x6 x7 v17 x21 x22 x23 x28 x29 v18 m16 K) (
 K (.exit 2) (quO x1 x5 x6 x8 x21 x22 x23 m)):=
(qa3 (qaT _) _ _ _).trans (by kernel_rfl)
theorem qto (x5:AV) (m:Mem):qtn (qbw cfg.P f127.results.toList) (.exit 0) (quN x5 m) =
 (qaN (AP cfg) none m 164 [x5]).bind fun r1=>
 some (r1.1,r1.2):=by kernel_rfl
theorem qtq (x1 x5 x6 x8 x21 x22 x23:AV) (m:Mem) (K:KT):qtp K (.exit 2) (quO x1 x5 x6 x8 x21 x22 x23 m) =
 (qbY false x1).bind fun v1=>
 (qaz .other .add x6 v1).bind fun v2=>
 (qbl .u32 x8).bind fun v3=>
 (qag none x5 v2).bind fun v4=>
 (qaR none m v4 v3).bind fun m5=>
 (qaz .other .add x23 (.int .i64 1)).bind fun v6=>
 qqh x1 x5 x21 x22 v6 m5 K:=by kernel_rfl
def qqR (x5 x6:AV) (m:Mem):St:=⟨(yA4 (yA1 (x5::x6::qdR (qd7 (yA4 (yA1 [])))))),m⟩
noncomputable def qk4 (x1 x5 x6 x24 x25 x26:AV) (m:Mem) (K:KT):OM:=qbq (qaM cfg 130 (AP cfg) (AC cfg) (c1 (c1 (c2 (c1 (c2 (c2 (c2 (c2 (c2 (qaq f130))))))))))) (cfg.mask 130 (some 7)) ⟨(yA1 (x1::yA2 (yA1 (x5::x6::qd7 (yA1 (x24::x25::x26::qdR (yA1 []))))))),m⟩ K
noncomputable abbrev qxn (K:KT):KT:=qdH (fun st=>qaM cfg 130 (AP cfg) (AC cfg) (c2 (c2 (c2 (c2 (c2 (c2 (qaq f130))))))) st K) K
noncomputable abbrev qxo (K:KT):KT:=qbb 0 (qxn K)
noncomputable abbrev qk2 (K:KT):KT:=(qxo K)
theorem qH9 (a0 a1:AV) (m:Mem):AC cfg 130 [a0,a1] m =
 (qaN (AP cfg) none m 164 [a0]).bind fun r1=>
 (qaN (AP cfg) none r1.2 164 [a1]).bind fun r2=>
 (qbY false r1.1).bind fun v3=>
 (qbY false r2.1).bind fun v4=>
 (qaz .other .lss v3 v4).bind fun v5=>
 ifA v5 (
 (qbY false r2.1).bind fun v6=>
 (qaz .other .add v6 (.int .i64 1)).bind fun v7=>
 (qeU none 161 none (.int .u32 0) 4 r2.2 (.int .i64 0) v7).bind fun r8=>
 (qbY false r2.1).bind fun v9=>
 qk4 r1.1 r8.1 (.int .u64 0) r2.1 v9 (.int .i64 0) r8.2 (qk2 (qbw cfg.P f130.results.toList))) (
 (qbY false r1.1).bind fun v10=>
 (qaz .other .add v10 (.int .i64 1)).bind fun v11=>
 (qeU none 161 none (.int .u32 0) 4 r2.2 (.int .i64 0) v11).bind fun r12=>
 (qbY false r1.1).bind fun v13=>
 qk4 r2.1 r12.1 (.int .u64 0) r1.1 v13 (.int .i64 0) r12.2 (qk2 (qbw cfg.P f130.results.toList))):=
(qbx cfg 130 [a0,a1] m (fn:=f130) (c:=qaq f130) qGk rfl).trans (by kernel_rfl)
theorem qnh (x1 x5 x6 x24 x25 x26:AV) (m:Mem) (K:KT):qk4 x1 x5 x6 x24 x25 x26 m K =
 (qaz .other .lss x26 x25).bind fun v1=>
 ifA v1 (
 (qag none x24 x26).bind fun v2=>
 (qat none m v2).bind fun v3=>
 (qbl .u64 v3).bind fun v4=>
 (qaz .other .add x6 v4).bind fun v5=>
 (qbY false x1).bind fun v6=>
 (qaz .other .lss x26 v6).bind fun v7=>
 ifA v7 (
 (qag none x1 x26).bind fun v8=>
 (qat none m v8).bind fun v9=>
 (qbl .u64 v9).bind fun v10=>
 (qaz .other .add v5 v10).bind fun v11=>
 (qbl .u32 v11).bind fun v12=>
 (qaY none [v12]).bind fun v13=>
 (qd6 none false 161 none 4 m x5 v13).bind fun r14=>
 (qaz .other .shr v11 (.int .u64 32)).bind fun v15=>
 (qaz .other .add x26 (.int .i64 1)).bind fun v16=>
 qk4 x1 r14.1 v15 x24 x25 v16 r14.2 K) (
 (qbl .u32 v5).bind fun v17=>
 (qaY none [v17]).bind fun v18=>
 (qd6 none false 161 none 4 m x5 v18).bind fun r19=>
 (qaz .other .shr v5 (.int .u64 32)).bind fun v20=>
 (qaz .other .add x26 (.int .i64 1)).bind fun v21=>
 qk4 x1 r19.1 v20 x24 x25 v21 r19.2 K)) (
 K (.exit 0) (qqR x5 x6 m)):=
(qa3 (qaT _) _ _ _).trans (by kernel_rfl)
theorem qts (x5 x6:AV) (m:Mem):qk2 (qbw cfg.P f130.results.toList) (.exit 0) (qqR x5 x6 m) =
 (qbl .u32 x6).bind fun v1=>
 (qaY none [v1]).bind fun v2=>
 (qd6 none false 161 none 4 m x5 v2).bind fun r3=>
 (qaN (AP cfg) none r3.2 164 [r3.1]).bind fun r4=>
 some (r4.1,r4.2):=by kernel_rfl
def quP (m:Mem):St:=⟨(qdR (qd7 (yA1 []))),m⟩
def qqV (x4:AV) (m:Mem):St:=⟨(yA4 (x4::qdR (yA8 (yA4 [])))),m⟩
noncomputable def qqk (x0 x1 x5:AV) (m:Mem) (K:KT):OM:=qbq (qaM cfg 131 (AP cfg) (AC cfg) (c1 (c1 (c2 (c1 (c2 (c2 (c2 (qaq f131))))))))) (cfg.mask 131 (some 7)) ⟨(x0::x1::yA2 (yA1 (x5::qdR (yA8 (yA2 (yA1 [])))))),m⟩ K
noncomputable abbrev qxp (K:KT):KT:=qdH (fun st=>qaM cfg 131 (AP cfg) (AC cfg) (c2 (c2 (c2 (c2 (qaq f131))))) st K) K
noncomputable abbrev qxq (K:KT):KT:=qbb 1 (qxp K)
noncomputable abbrev qp5 (K:KT):KT:=(qxq K)
theorem qIa (a0 a1:AV) (m:Mem):AC cfg 131 [a0,a1] m =
 (qaN (AP cfg) none m 164 [a0]).bind fun r1=>
 (qaN (AP cfg) none r1.2 164 [a1]).bind fun r2=>
 (qbY false r1.1).bind fun v3=>
 (qbY false r2.1).bind fun v4=>
 (qaz .other .lss v3 v4).bind fun v5=>
 ifA v5 (
 some ((.int .i64 (-1)),r2.2)) (
 (qbY false r1.1).bind fun v6=>
 (qbY false r2.1).bind fun v7=>
 (qaz .other .gtr v6 v7).bind fun v8=>
 ifA v8 (
 some ((.int .i64 1),r2.2)) (
 (qbY false r1.1).bind fun v9=>
 (qaz .other .sub v9 (.int .i64 1)).bind fun v10=>
 qqk r1.1 r2.1 v10 r2.2 (qp5 (qbw cfg.P f131.results.toList)))):=
(qbx cfg 131 [a0,a1] m (fn:=f131) (c:=qaq f131) qGl rfl).trans (by kernel_rfl)
theorem qni (x0 x1 x5:AV) (m:Mem) (K:KT):qqk x0 x1 x5 m K =
 (qaz .other .geq x5 (.int .i64 0)).bind fun v1=>
 ifA v1 (
 (qag none x0 x5).bind fun v2=>
 (qat none m v2).bind fun v3=>
 (qag none x1 x5).bind fun v4=>
 (qat none m v4).bind fun v5=>
 (qaz .other .lss v3 v5).bind fun v6=>
 ifA v6 (
 K .ret (qqV (.int .i64 (-1)) m)) (
 (qag none x0 x5).bind fun v7=>
 (qat none m v7).bind fun v8=>
 (qag none x1 x5).bind fun v9=>
 (qat none m v9).bind fun v10=>
 (qaz .other .gtr v8 v10).bind fun v11=>
 ifA v11 (
 K .ret (qqV (.int .i64 1) m)) (
 (qaz .other .sub x5 (.int .i64 1)).bind fun v12=>
 qqk x0 x1 v12 m K))) (
 K (.exit 1) (quP m)):=
(qa3 (qaT _) _ _ _).trans (by kernel_rfl)
theorem qtt (m:Mem):qp5 (qbw cfg.P f131.results.toList) (.exit 1) (quP  m) =
 some ((.int .i64 0),m):=by kernel_rfl
theorem qr7 (x4:AV) (m:Mem):qp5 (qbw cfg.P f131.results.toList) .ret (qqV x4 m) =
 some (x4,m):=by kernel_rfl
def quQ (x6:AV) (m:Mem):St:=⟨(yA4 (yA2 (x6::qdR (qd7 (yA4 []))))),m⟩
noncomputable def qjO (x1 x6 x7 x22 x23 x24:AV) (m:Mem) (K:KT):OM:=qbq (qaM cfg 132 (AP cfg) (AC cfg) (c1 (c1 (c2 (c1 (c2 (c2 (c2 (c2 (c2 (qaq f132))))))))))) (cfg.mask 132 (some 7)) ⟨(yA1 (x1::yA4 (x6::x7::yA8 (yA4 (yA2 (x22::x23::x24::qdR (yA2 []))))))),m⟩ K
noncomputable abbrev qxr (K:KT):KT:=qdH (fun st=>qaM cfg 132 (AP cfg) (AC cfg) (c2 (c2 (c2 (c2 (c2 (c2 (qaq f132))))))) st K) K
noncomputable abbrev qxs (K:KT):KT:=qbb 0 (qxr K)
noncomputable abbrev qtu (K:KT):KT:=(qxs K)
theorem qHn (a0 a1:AV) (m:Mem):AC cfg 132 [a0,a1] m =
 (qaN (AP cfg) none m 131 [a0,a1]).bind fun r1=>
 (qaz .other .lss r1.1 (.int .i64 0)).bind fun v2=>
 ifA v2 (
 some ((.tup [(.lst none true .full []),(.int .i64 1)]),r1.2)) (
 (qaN (AP cfg) none r1.2 164 [a0]).bind fun r3=>
 (qaN (AP cfg) none r3.2 164 [a1]).bind fun r4=>
 (qbY false r3.1).bind fun v5=>
 (qeU none 161 none (.int .u32 0) 4 r4.2 v5 v5).bind fun r6=>
 (qbY false r3.1).bind fun v7=>
 qjO r4.1 r6.1 (.int .u64 0) r3.1 v7 (.int .i64 0) r6.2 (qtu (qbw cfg.P f132.results.toList))):=
(qbx cfg 132 [a0,a1] m (fn:=f132) (c:=qaq f132) qGm rfl).trans (by kernel_rfl)
theorem qnj (x1 x6 x7 x22 x23 x24:AV) (m:Mem) (K:KT):qjO x1 x6 x7 x22 x23 x24 m K =
 (qaz .other .lss x24 x23).bind fun v1=>
 ifA v1 (
 (qag none x22 x24).bind fun v2=>
 (qat none m v2).bind fun v3=>
 (qbY false x1).bind fun v4=>
 (qaz .other .lss x24 v4).bind fun v5=>
 ifA v5 (
 (qag none x1 x24).bind fun v6=>
 (qat none m v6).bind fun v7=>
 (qbl .u64 v7).bind fun v8=>
 (qaz .other .add x7 v8).bind fun v9=>
 (qbl .u64 v3).bind fun v10=>
 (qaz .other .lss v10 v9).bind fun v11=>
 ifA v11 (
 (qbl .u64 v3).bind fun v12=>
 (qaz .other .shl (.int .u64 1) (.int .u64 32)).bind fun v13=>
 (qaz .other .add v12 v13).bind fun v14=>
 (qaz .other .sub v14 v9).bind fun v15=>
 (qbl .u32 v15).bind fun v16=>
 (qag none x6 x24).bind fun v17=>
 (qaR none m v17 v16).bind fun m18=>
 (qaz .other .add x24 (.int .i64 1)).bind fun v19=>
 qjO x1 x6 (.int .u64 1) x22 x23 v19 m18 K) (
 (qbl .u64 v3).bind fun v20=>
 (qaz .other .shl (.int .u64 0) (.int .u64 32)).bind fun v21=>
 (qaz .other .add v20 v21).bind fun v22=>
 (qaz .other .sub v22 v9).bind fun v23=>
 (qbl .u32 v23).bind fun v24=>
 (qag none x6 x24).bind fun v25=>
 (qaR none m v25 v24).bind fun m26=>
 (qaz .other .add x24 (.int .i64 1)).bind fun v27=>
 qjO x1 x6 (.int .u64 0) x22 x23 v27 m26 K)) (
 (qbl .u64 v3).bind fun v28=>
 (qaz .other .lss v28 x7).bind fun v29=>
 ifA v29 (
 (qbl .u64 v3).bind fun v30=>
 (qaz .other .shl (.int .u64 1) (.int .u64 32)).bind fun v31=>
 (qaz .other .add v30 v31).bind fun v32=>
 (qaz .other .sub v32 x7).bind fun v33=>
 (qbl .u32 v33).bind fun v34=>
 (qag none x6 x24).bind fun v35=>
 (qaR none m v35 v34).bind fun m36=>
 (qaz .other .add x24 (.int .i64 1)).bind fun v37=>
 qjO x1 x6 (.int .u64 1) x22 x23 v37 m36 K) (
 (qbl .u64 v3).bind fun v38=>
 (qaz .other .shl (.int .u64 0) (.int .u64 32)).bind fun v39=>
 (qaz .other .add v38 v39).bind fun v40=>
 (qaz .other .sub v40 x7).bind fun v41=>
 (qbl .u32 v41).bind fun v42=>
 (qag none x6 x24).bind fun v43=>
 (qaR none m v43 v42).bind fun m44=>
 (qaz .other .add x24 (.int .i64 1)).bind fun v45=>
 qjO x1 x6 (.int .u64 0) x22 x23 v45 m44 K))) (
 K (.exit 0) (quQ x6 m)):=
(qa3 (qaT _) _ _ _).trans (by kernel_rfl)
theorem qtv (x6:AV) (m:Mem):qtu (qbw cfg.P f132.results.toList) (.exit 0) (quQ x6 m) =
 (qaN (AP cfg) none m 164 [x6]).bind fun r1=>
 some ((.tup [r1.1,(.int .i64 0)]),r1.2):=by kernel_rfl
theorem qH4 (a0:AV) (m:Mem):AC cfg 123 [a0] m =
 (qbl .u32 a0).bind fun v1=>
 (qaz .other .shr a0 (.int .u64 32)).bind fun v2=>
 (qbl .u32 v2).bind fun v3=>
 (qaY none [v1,v3]).bind fun v4=>
 (qaN (AP cfg) none m 164 [v4]).bind fun r5=>
 (qaN (AP cfg) none r5.2 163 [r5.1]).bind fun r6=>
 some (r6.1,r6.2):=
(qbx cfg 123 [a0] m (fn:=f123) (c:=qaq f123) qGd rfl).trans (by kernel_rfl)
def quY (x0:AV) (m:Mem):St:=⟨(x0::qd7 (yA8 (yA1 []))),m⟩
noncomputable def qqu (x0 x1:AV) (m:Mem) (K:KT):OM:=qbq (qaM cfg 183 (AP cfg) (AC cfg) (c1 (c1 (c1 (c2 (c2 (qaq f183))))))) (cfg.mask 183 (some 2)) ⟨(x0::x1::qd7 (yA8 [])),m⟩ K
noncomputable abbrev qx0 (K:KT):KT:=qdH (fun st=>qaM cfg 183 (AP cfg) (AC cfg) (c2 (c2 (c2 (qaq f183)))) st K) K
noncomputable abbrev qx1 (K:KT):KT:=qbb 0 (qx0 K)
noncomputable abbrev qtZ (K:KT):KT:=(qx1 K)
theorem qIp (a0 a1:AV) (m:Mem):AC cfg 183 [a0,a1] m =
 (qaN (AP cfg) none m 164 [a0]).bind fun r1=>
 (qaN (AP cfg) none r1.2 164 [a1]).bind fun r2=>
 qqu r1.1 r2.1 r2.2 (qtZ (qbw cfg.P f183.results.toList)):=
(qbx cfg 183 [a0,a1] m (fn:=f183) (c:=qaq f183) qGK rfl).trans (by kernel_rfl)
theorem quD (x0 x1:AV) (m:Mem) (K:KT):qqu x0 x1 m K =
 (qbY false x1).bind fun v1=>
 (qaz .other .gtr v1 (.int .i64 0)).bind fun v2=>
 ifA v2 (
 (qaN (AP cfg) none m 187 [x0,x1]).bind fun r3=>
 (qaF r3.1 0).bind fun v4=>
 (qaF r3.1 1).bind fun v5=>
 (qaF r3.1 2).bind fun v6=>
 qqu x1 v5 r3.2 K) (
 K (.exit 0) (quY x0 m)):=
(qa3 (qaT _) _ _ _).trans (by kernel_rfl)
theorem qt0 (x0:AV) (m:Mem):qtZ (qbw cfg.P f183.results.toList) (.exit 0) (quY x0 m) =
 (qaN (AP cfg) none m 163 [x0]).bind fun r1=>
 some (r1.1,r1.2):=by kernel_rfl
def qqT (x0 x3:AV) (m:Mem):St:=⟨(x0::yA2 (x3::qd7 (yA1 []))),m⟩
noncomputable def qqo (x0 x3:AV) (m:Mem) (K:KT):OM:=qbq (qaM cfg 164 (AP cfg) (AC cfg) (c1 (c1 (c1 (c2 (c2 (qaq f164))))))) (cfg.mask 164 (some 2)) ⟨(x0::yA2 (x3::qd7 (yA1 []))),m⟩ K
noncomputable abbrev qxB (K:KT):KT:=qdH (fun st=>qaM cfg 164 (AP cfg) (AC cfg) (c2 (c2 (c2 (qaq f164)))) st K) K
noncomputable abbrev qxC (K:KT):KT:=qbb 0 (qxB K)
noncomputable abbrev qtF (K:KT):KT:=(qxC K)
theorem qIj (a0:AV) (m:Mem):AC cfg 164 [a0] m =
 (qbY false a0).bind fun v1=>
 qqo a0 v1 m (qtF (qbw cfg.P f164.results.toList)):=
(qbx cfg 164 [a0] m (fn:=f164) (c:=qaq f164) qGB rfl).trans (by kernel_rfl)
theorem qnn (x0 x3:AV) (m:Mem) (K:KT):qqo x0 x3 m K =
 (qaz .other .gtr x3 (.int .i64 0)).bind fun v1=>
 ifA v1 (
 (qaz .other .sub x3 (.int .i64 1)).bind fun v2=>
 (qag none x0 v2).bind fun v3=>
 (qat none m v3).bind fun v4=>
 (qaz .other .eql v4 (.int .u32 0)).bind fun v5=>
 ifA v5 (
 (qaz .other .sub x3 (.int .i64 1)).bind fun v6=>
 qqo x0 v6 m K) (
 K (.exit 0) (qqT x0 x3 m))) (
 K (.exit 0) (qqT x0 x3 m)):=
(qa3 (qaT _) _ _ _).trans (by kernel_rfl)
theorem qtG (x0 x3:AV) (m:Mem):qtF (qbw cfg.P f164.results.toList) (.exit 0) (qqT x0 x3 m) =
 (qf7 none x0 none (some x3) none).bind fun v1=>
 some (v1,m):=by kernel_rfl
theorem qFT (a0:AV) (m:Mem):AC cfg 163 [a0] m =
 (qaz .sl .eql a0 (.lst none true .full [])).bind fun v1=>
 ifA v1 (
 some ((.lst none true .full []),m)) (
 (qaY none []).bind fun v2=>
 (qd6 none false 161 none 4 m v2 a0).bind fun r3=>
 some (r3.1,r3.2)):=
(qbx cfg 163 [a0] m (fn:=f163) (c:=qaq f163) qGA rfl).trans (by kernel_rfl)
def qoZ (x9 x10 x12 x13:AV) (m:Mem):St:=⟨(yA8 (yA1 (x9::x10::yA1 (x12::x13::qdC (qdC (qdC (qdC (qdR (yA8 (yA4 (yA1 []))))))))))),m⟩
noncomputable def qjT (x9 x10 x11 x12 x13 x14:AV) (m:Mem) (K:KT):OM:=qbq (qaM cfg 187 (AP cfg) (AC cfg) (c1 (c1 (c2 (c1 (c2 (c2 (c2 (c2 (c2 (c2 (c2 (qaq f187))))))))))))) (cfg.mask 187 (some 14)) ⟨(yA8 (yA1 (x9::x10::x11::x12::x13::x14::qdC (qdC (qdC (qdC (qdR (yA8 (yA4 []))))))))),m⟩ K
def qhU (x9 x10 x11 x12 x13 x14 x16:AV) (m:Mem):St:=⟨(yA8 (yA1 (x9::x10::x11::x12::x13::x14::yA1 (x16::qdC (qdC (qdC (qdC (qdR (yA8 (yA2 [])))))))))),m⟩
noncomputable def qiJ (x9 x10 x11 x12 x13 x14 x16 x17:AV) (m:Mem) (K:KT):OM:=qbq (qaM cfg 187 (AP cfg) (AC cfg) (c1 (c1 (c1 (c2 (c2 (c1 (c1 (c2 (c1 (c1 (c2 (c1 (c2 (c2 (c2 (c2 (c2 (c2 (c2 (qaq f187))))))))))))))))))))) (cfg.mask 187 (some 18)) ⟨(yA8 (yA1 (x9::x10::x11::x12::x13::x14::yA1 (x16::x17::qdC (qdC (qdC (qdC (qdR (yA8 (yA1 [])))))))))),m⟩ K
def qo0 (x9 x10 x11 x12 x13 x14 x16 x18 x19:AV) (m:Mem):St:=⟨(yA8 (yA1 (x9::x10::x11::x12::x13::x14::yA1 (x16::yA1 (x18::x19::qdC (qdC (qdC (qdC (qdR (yA4 (yA2 (yA1 [])))))))))))),m⟩
noncomputable def qjU (x9 x10 x11 x12 x13 x14 x16 x18 x19 x158 x159:AV) (m:Mem) (K:KT):OM:=qbq (qaM cfg 187 (AP cfg) (AC cfg) (c1 (c1 (c2 (c1 (c2 (c2 (c2 (c2 (c1 (c1 (c2 (c1 (c1 (c2 (c1 (c2 (c2 (c2 (c2 (c2 (c2 (c2 (qaq f187)))))))))))))))))))))))) (cfg.mask 187 (some 24)) ⟨(yA8 (yA1 (x9::x10::x11::x12::x13::x14::yA1 (x16::yA1 (x18::x19::qdC (qdC (yA8 (yA2 (x158::x159::qdC (qdC (qd7 (yA8 (yA2 (yA1 [])))))))))))))),m⟩ K
def qo1 (x9 x10 x11 x12 x13 x14 x16 x19:AV) (m:Mem):St:=⟨(yA8 (yA1 (x9::x10::x11::x12::x13::x14::yA1 (x16::yA2 (x19::qdC (qdC (qdC (qdC (qdR (yA4 (yA2 (yA1 [])))))))))))),m⟩
noncomputable def qlS (x9 x10 x11 x12 x13 x14 x16 x19 x235 x236:AV) (m:Mem) (K:KT):OM:=qbq (qaM cfg 187 (AP cfg) (AC cfg) (c1 (c1 (c2 (c1 (c2 (c2 (c1 (c2 (c1 (c2 (c2 (c2 (c2 (c2 (c2 (c2 (c2 (c1 (c1 (c2 (c1 (c1 (c2 (c1 (c2 (c2 (c2 (c2 (c2 (c2 (c2 (qaq f187))))))))))))))))))))))))))))))))) (cfg.mask 187 (some 41)) ⟨(yA8 (yA1 (x9::x10::x11::x12::x13::x14::yA1 (x16::yA2 (x19::qdC (qdC (qdC (qd7 (yA4 (yA2 (yA1 (x235::x236::qdC (yA8 (yA4 (yA2 []))))))))))))))),m⟩ K
def qo2 (x13 x25:AV) (m:Mem):St:=⟨(yA8 (yA4 (yA1 (x13::yA8 (yA2 (yA1 (x25::qdC (qdC (qdC (qdC (qdR (yA1 [])))))))))))),m⟩
noncomputable def qjV (x9 x10 x13 x25 x281 x282:AV) (m:Mem) (K:KT):OM:=qbq (qaM cfg 187 (AP cfg) (AC cfg) (c1 (c1 (c2 (c1 (c2 (c2 (c2 (c2 (c2 (c2 (c2 (c2 (c2 (qaq f187))))))))))))))) (cfg.mask 187 (some 51)) ⟨(yA8 (yA1 (x9::x10::yA2 (x13::yA8 (yA2 (yA1 (x25::qdC (qdC (qdC (qdR (qd7 (yA8 (yA4 (yA2 (yA1 (x281::x282::qdR [])))))))))))))))),m⟩ K
noncomputable abbrev qt3 (K:KT):KT:=qdH (fun st=>qaM cfg 187 (AP cfg) (AC cfg) (c2 (c2 (c2 (c2 (c2 (c2 (c2 (c2 (qaq f187))))))))) st K) K
noncomputable abbrev qt4 (K:KT):KT:=qbb 1 (qt3 K)
noncomputable abbrev qoM (K:KT):KT:=(qt4 K)
noncomputable abbrev qt5 (K:KT):KT:=qdH (fun st=>qaM cfg 187 (AP cfg) (AC cfg) (c2 (c2 (c1 (c1 (c2 (c1 (c2 (c2 (c2 (c2 (c2 (c2 (c2 (qaq f187)))))))))))))) st (qcQ (fun st=>qbq (qaM cfg 187 (AP cfg) (AC cfg) (c1 (c1 (c2 (c1 (c2 (c2 (c2 (c2 (c2 (c2 (c2 (qaq f187))))))))))))) (cfg.mask 187 (some 14)) st K) (cfg.mask 187 (some 14)) K)) (qcQ (fun st=>qbq (qaM cfg 187 (AP cfg) (AC cfg) (c1 (c1 (c2 (c1 (c2 (c2 (c2 (c2 (c2 (c2 (c2 (qaq f187))))))))))))) (cfg.mask 187 (some 14)) st K) (cfg.mask 187 (some 14)) K)
noncomputable abbrev qm3 (K:KT):KT:=qbb 2 (qt5 K)
noncomputable abbrev qt6 (K:KT):KT:=qdH (fun st=>qaM cfg 187 (AP cfg) (AC cfg) (c2 (c2 (c2 (c1 (c1 (c2 (c1 (c1 (c2 (c1 (c2 (c2 (c2 (c2 (c2 (c2 (c2 (qaq f187)))))))))))))))))) st (qm3 K)) (qm3 K)
noncomputable abbrev qt7 (K:KT):KT:=qbb 3 (qt6 K)
noncomputable abbrev qoN (K:KT):KT:=(qt7 K)
noncomputable abbrev que (K:KT):KT:=qdH (fun st=>qaM cfg 187 (AP cfg) (AC cfg) (c2 (c2 (c2 (c2 (c2 (c2 (c2 (c2 (c2 (c2 (qaq f187))))))))))) st K) K
noncomputable abbrev quf (K:KT):KT:=qbb 9 (que K)
noncomputable abbrev qoQ (K:KT):KT:=(quf K)
noncomputable abbrev qt8 (K:KT):KT:=qdH (fun st=>qaM cfg 187 (AP cfg) (AC cfg) (c2 (c2 (c1 (c1 (c2 (c1 (c2 (c2 (c2 (c2 (c2 (c2 (c2 (qaq f187)))))))))))))) st (qcQ (fun st=>qbq (qaM cfg 187 (AP cfg) (AC cfg) (c1 (c1 (c2 (c1 (c2 (c2 (c2 (c2 (c2 (c2 (c2 (qaq f187))))))))))))) (cfg.mask 187 (some 14)) st K) (cfg.mask 187 (some 14)) K)) (qcQ (fun st=>qbq (qaM cfg 187 (AP cfg) (AC cfg) (c1 (c1 (c2 (c1 (c2 (c2 (c2 (c2 (c2 (c2 (c2 (qaq f187))))))))))))) (cfg.mask 187 (some 14)) st K) (cfg.mask 187 (some 14)) K)
noncomputable abbrev qm4 (K:KT):KT:=qbb 2 (qt8 K)
noncomputable abbrev qt9 (K:KT):KT:=qdH (fun st=>qaM cfg 187 (AP cfg) (AC cfg) (c2 (c2 (c2 (c2 (c2 (c1 (c1 (c2 (c1 (c1 (c2 (c1 (c2 (c2 (c2 (c2 (c2 (c2 (c2 (qaq f187)))))))))))))))))))) st (qm4 K)) (qm4 K)
noncomputable abbrev qua (K:KT):KT:=qbb 5 (qt9 K)
noncomputable abbrev qoO (K:KT):KT:=(qua K)
noncomputable abbrev qub (K:KT):KT:=qdH (fun st=>qaM cfg 187 (AP cfg) (AC cfg) (c2 (c2 (c1 (c1 (c2 (c1 (c2 (c2 (c2 (c2 (c2 (c2 (c2 (qaq f187)))))))))))))) st (qcQ (fun st=>qbq (qaM cfg 187 (AP cfg) (AC cfg) (c1 (c1 (c2 (c1 (c2 (c2 (c2 (c2 (c2 (c2 (c2 (qaq f187))))))))))))) (cfg.mask 187 (some 14)) st K) (cfg.mask 187 (some 14)) K)) (qcQ (fun st=>qbq (qaM cfg 187 (AP cfg) (AC cfg) (c1 (c1 (c2 (c1 (c2 (c2 (c2 (c2 (c2 (c2 (c2 (qaq f187))))))))))))) (cfg.mask 187 (some 14)) st K) (cfg.mask 187 (some 14)) K)
noncomputable abbrev qm5 (K:KT):KT:=qbb 2 (qub K)
noncomputable abbrev qm6 (K:KT):KT:=qdH (fun st=>qaM cfg 187 (AP cfg) (AC cfg) (c2 (c2 (c2 (c2 (c2 (c2 (c2 (c2 (c2 (c1 (c1 (c2 (c1 (c1 (c2 (c1 (c2 (c2 (c2 (c2 (c2 (c2 (c2 (qaq f187)))))))))))))))))))))))) st (qm5 K)) (qm5 K)
noncomputable abbrev quc (K:KT):KT:=qdH (fun st=>qaM cfg 187 (AP cfg) (AC cfg) (c2 (c2 (c2 (c1 (c2 (c1 (c2 (c2 (c2 (c2 (c2 (c2 (c2 (c2 (c1 (c1 (c2 (c1 (c1 (c2 (c1 (c2 (c2 (c2 (c2 (c2 (c2 (c2 (qaq f187))))))))))))))))))))))))))))) st (qm6 K)) (qm6 K)
noncomputable abbrev qud (K:KT):KT:=qbb 7 (quc K)
noncomputable abbrev qoP (K:KT):KT:=(qud K)
theorem qFv (a0 a1:AV) (m:Mem):AC cfg 187 [a0,a1] m =
 (qaN (AP cfg) none m 164 [a0]).bind fun r1=>
 (qaN (AP cfg) none r1.2 164 [a1]).bind fun r2=>
 (qbY false r2.1).bind fun v3=>
 (qaz .other .eql v3 (.int .i64 0)).bind fun v4=>
 ifA v4 (
 some ((.tup [(.lst none true .full []),(.lst none true .full []),(.int .i64 31)]),r2.2)) (
 (qaN (AP cfg) none r2.2 131 [r1.1,r2.1]).bind fun r5=>
 (qaz .other .lss r5.1 (.int .i64 0)).bind fun v6=>
 ifA v6 (
 (qaN (AP cfg) none r5.2 163 [r1.1]).bind fun r7=>
 some ((.tup [(.lst none true .full []),r7.1,(.int .i64 0)]),r7.2)) (
 (qbY false r2.1).bind fun v8=>
 (qaz .other .eql v8 (.int .i64 1)).bind fun v9=>
 ifA v9 (
 (qag none r2.1 (.int .i64 0)).bind fun v10=>
 (qat none r5.2 v10).bind fun v11=>
 (qaN (AP cfg) none r5.2 202 [r1.1,v11]).bind fun r12=>
 (qaF r12.1 0).bind fun v13=>
 (qaF r12.1 1).bind fun v14=>
 (qbl .u64 v14).bind fun v15=>
 (qaN (AP cfg) none r12.2 123 [v15]).bind fun r16=>
 some ((.tup [v13,r16.1,(.int .i64 0)]),r16.2)) (
 (qbY false r2.1).bind fun v17=>
 (qaz .other .sub v17 (.int .i64 1)).bind fun v18=>
 (qag none r2.1 v18).bind fun v19=>
 (qat none r5.2 v19).bind fun v20=>
 (qaN (AP cfg) none r5.2 203 [v20]).bind fun r21=>
 (qbl .u64 r21.1).bind fun v22=>
 (AC cfg 204 [r1.1,v22] r21.2).bind fun r23=>
 (AC cfg 204 [r2.1,v22] r23.2).bind fun r24=>
 (qaN (AP cfg) none r24.2 164 [r24.1]).bind fun r25=>
 (qbY false r25.1).bind fun v26=>
 (qbY false r23.1).bind fun v27=>
 (qaz .other .sub v27 v26).bind fun v28=>
 (qeU none 161 none (.int .u32 0) 4 r25.2 v28 v28).bind fun r29=>
 (qbY false r23.1).bind fun v30=>
 (qaz .other .sub v30 v26).bind fun v31=>
 (qaz .other .sub v31 (.int .i64 1)).bind fun v32=>
 qjT v22 r23.1 r25.1 v26 r29.1 v32 r29.2 (qoM (qbw cfg.P f187.results.toList))))):=
(qbx cfg 187 [a0,a1] m (fn:=f187) (c:=qaq f187) qGM rfl).trans (by kernel_rfl)
theorem qld (x9 x10 x11 x12 x13 x14:AV) (m:Mem) (K:KT):qjT x9 x10 x11 x12 x13 x14 m K =
 (qaz .other .geq x14 (.int .i64 0)).bind fun v1=>
 ifA v1 (
 (qaz .other .add x14 x12).bind fun v2=>
 (qag none x10 v2).bind fun v3=>
 (qat none m v3).bind fun v4=>
 (qbl .u64 v4).bind fun v5=>
 (qaz .other .shl v5 (.int .u64 32)).bind fun v6=>
 (qaz .other .add x14 x12).bind fun v7=>
 (qaz .other .sub v7 (.int .i64 1)).bind fun v8=>
 (qag none x10 v8).bind fun v9=>
 (qat none m v9).bind fun v10=>
 (qbl .u64 v10).bind fun v11=>
 (qaz .other .or v6 v11).bind fun v12=>
 (qaz .other .sub x12 (.int .i64 1)).bind fun v13=>
 (qag none x11 v13).bind fun v14=>
 (qat none m v14).bind fun v15=>
 (qbl .u64 v15).bind fun v16=>
 (qaz .other .quo v12 v16).bind fun v17=>
 (qaz .other .sub x12 (.int .i64 1)).bind fun v18=>
 (qag none x11 v18).bind fun v19=>
 (qat none m v19).bind fun v20=>
 (qbl .u64 v20).bind fun v21=>
 (qaz .other .rem v12 v21).bind fun v22=>
 qiJ x9 x10 x11 x12 x13 x14 v17 v22 m (qoN K)) (
 K (.exit 1) (qoZ x9 x10 x12 x13 m)):=
(qa3 (qaT _) _ _ _).trans (by kernel_rfl)
theorem qso (x9 x10 x11 x12 x13 x14 x16 x17:AV) (m:Mem) (K:KT):qiJ x9 x10 x11 x12 x13 x14 x16 x17 m K =
 (qaz .other .geq x16 (.int .u64 4294967296)).bind fun v1=>
 ifA v1 (
 (qaz .other .sub x16 (.int .u64 1)).bind fun v2=>
 (qaz .other .sub x12 (.int .i64 1)).bind fun v3=>
 (qag none x11 v3).bind fun v4=>
 (qat none m v4).bind fun v5=>
 (qbl .u64 v5).bind fun v6=>
 (qaz .other .add x17 v6).bind fun v7=>
 (qaz .other .geq v7 (.int .u64 4294967296)).bind fun v8=>
 ifA v8 (
 K (.exit 3) (qhU x9 x10 x11 x12 x13 x14 v2 m)) (
 qiJ x9 x10 x11 x12 x13 x14 v2 v7 m K)) (
 (qaz .other .sub x12 (.int .i64 2)).bind fun v9=>
 (qag none x11 v9).bind fun v10=>
 (qat none m v10).bind fun v11=>
 (qbl .u64 v11).bind fun v12=>
 (qaz .other .mul x16 v12).bind fun v13=>
 (qaz .other .shl x17 (.int .u64 32)).bind fun v14=>
 (qaz .other .add x14 x12).bind fun v15=>
 (qaz .other .sub v15 (.int .i64 2)).bind fun v16=>
 (qag none x10 v16).bind fun v17=>
 (qat none m v17).bind fun v18=>
 (qbl .u64 v18).bind fun v19=>
 (qaz .other .or v14 v19).bind fun v20=>
 (qaz .other .gtr v13 v20).bind fun v21=>
 ifA v21 (
 (qaz .other .sub x16 (.int .u64 1)).bind fun v22=>
 (qaz .other .sub x12 (.int .i64 1)).bind fun v23=>
 (qag none x11 v23).bind fun v24=>
 (qat none m v24).bind fun v25=>
 (qbl .u64 v25).bind fun v26=>
 (qaz .other .add x17 v26).bind fun v27=>
 (qaz .other .geq v27 (.int .u64 4294967296)).bind fun v28=>
 ifA v28 (
 K (.exit 3) (qhU x9 x10 x11 x12 x13 x14 v22 m)) (
 qiJ x9 x10 x11 x12 x13 x14 v22 v27 m K)) (
 K (.exit 3) (qhU x9 x10 x11 x12 x13 x14 x16 m))):=
(qa3 (qaT _) _ _ _).trans (by kernel_rfl)
theorem qlf (x9 x10 x11 x12 x13 x14 x16 x18 x19 x158 x159:AV) (m:Mem) (K:KT):qjU x9 x10 x11 x12 x13 x14 x16 x18 x19 x158 x159 m K =
 (qaz .other .lss x159 x158).bind fun v1=>
 ifA v1 (
 (qag none x11 x159).bind fun v2=>
 (qat none m v2).bind fun v3=>
 (qbl .u64 v3).bind fun v4=>
 (qaz .other .mul x16 v4).bind fun v5=>
 (qaz .other .add x19 v5).bind fun v6=>
 (qaz .other .and v6 (.int .u64 4294967295)).bind fun v7=>
 (qaz .other .add v7 x18).bind fun v8=>
 (qaz .other .add x159 x14).bind fun v9=>
 (qag none x10 v9).bind fun v10=>
 (qat none m v10).bind fun v11=>
 (qbl .u64 v11).bind fun v12=>
 (qaz .other .lss v12 v8).bind fun v13=>
 ifA v13 (
 (qaz .other .add x159 x14).bind fun v14=>
 (qaz .other .add x159 x14).bind fun v15=>
 (qag none x10 v15).bind fun v16=>
 (qat none m v16).bind fun v17=>
 (qbl .u64 v17).bind fun v18=>
 (qaz .other .shl (.int .u64 1) (.int .u64 32)).bind fun v19=>
 (qaz .other .add v18 v19).bind fun v20=>
 (qaz .other .sub v20 v8).bind fun v21=>
 (qbl .u32 v21).bind fun v22=>
 (qag none x10 v14).bind fun v23=>
 (qaR none m v23 v22).bind fun m24=>
 (qaz .other .shr v6 (.int .u64 32)).bind fun v25=>
 (qaz .other .add x159 (.int .i64 1)).bind fun v26=>
 qjU x9 x10 x11 x12 x13 x14 x16 (.int .u64 1) v25 x158 v26 m24 K) (
 (qaz .other .add x159 x14).bind fun v27=>
 (qaz .other .add x159 x14).bind fun v28=>
 (qag none x10 v28).bind fun v29=>
 (qat none m v29).bind fun v30=>
 (qbl .u64 v30).bind fun v31=>
 (qaz .other .shl (.int .u64 0) (.int .u64 32)).bind fun v32=>
 (qaz .other .add v31 v32).bind fun v33=>
 (qaz .other .sub v33 v8).bind fun v34=>
 (qbl .u32 v34).bind fun v35=>
 (qag none x10 v27).bind fun v36=>
 (qaR none m v36 v35).bind fun m37=>
 (qaz .other .shr v6 (.int .u64 32)).bind fun v38=>
 (qaz .other .add x159 (.int .i64 1)).bind fun v39=>
 qjU x9 x10 x11 x12 x13 x14 x16 (.int .u64 0) v38 x158 v39 m37 K)) (
 K (.exit 5) (qo0 x9 x10 x11 x12 x13 x14 x16 x18 x19 m)):=
(qa3 (qaT _) _ _ _).trans (by kernel_rfl)
theorem qlg (x9 x10 x11 x12 x13 x14 x16 x19 x235 x236:AV) (m:Mem) (K:KT):qlS x9 x10 x11 x12 x13 x14 x16 x19 x235 x236 m K =
 (qaz .other .lss x236 x235).bind fun v1=>
 ifA v1 (
 (qaz .other .add x236 x14).bind fun v2=>
 (qag none x10 v2).bind fun v3=>
 (qat none m v3).bind fun v4=>
 (qbl .u64 v4).bind fun v5=>
 (qag none x11 x236).bind fun v6=>
 (qat none m v6).bind fun v7=>
 (qbl .u64 v7).bind fun v8=>
 (qaz .other .add v5 v8).bind fun v9=>
 (qaz .other .add x19 v9).bind fun v10=>
 (qaz .other .add x236 x14).bind fun v11=>
 (qbl .u32 v10).bind fun v12=>
 (qag none x10 v11).bind fun v13=>
 (qaR none m v13 v12).bind fun m14=>
 (qaz .other .shr v10 (.int .u64 32)).bind fun v15=>
 (qaz .other .add x236 (.int .i64 1)).bind fun v16=>
 qlS x9 x10 x11 x12 x13 x14 x16 v15 x235 v16 m14 K) (
 K (.exit 7) (qo1 x9 x10 x11 x12 x13 x14 x16 x19 m)):=
(qa3 (qaT _) _ _ _).trans (by kernel_rfl)
theorem qlh (x9 x10 x13 x25 x281 x282:AV) (m:Mem) (K:KT):qjV x9 x10 x13 x25 x281 x282 m K =
 (qaz .other .lss x282 x281).bind fun v1=>
 ifA v1 (
 (qag none x10 x282).bind fun v2=>
 (qat none m v2).bind fun v3=>
 (qaz .other .shr v3 x9).bind fun v4=>
 (qag none x25 x282).bind fun v5=>
 (qaR none m v5 v4).bind fun m6=>
 (qaz .other .gtr x9 (.int .u64 0)).bind fun v7=>
 ifA v7 (
 (qag none x25 x282).bind fun v8=>
 (qat none m6 v8).bind fun v9=>
 (qaz .other .add x282 (.int .i64 1)).bind fun v10=>
 (qag none x10 v10).bind fun v11=>
 (qat none m6 v11).bind fun v12=>
 (qaz .other .sub (.int .u64 32) x9).bind fun v13=>
 (qaz .other .shl v12 v13).bind fun v14=>
 (qaz .other .or v9 v14).bind fun v15=>
 (qag none x25 x282).bind fun v16=>
 (qaR none m6 v16 v15).bind fun m17=>
 (qaz .other .add x282 (.int .i64 1)).bind fun v18=>
 qjV x9 x10 x13 x25 x281 v18 m17 K) (
 (qaz .other .add x282 (.int .i64 1)).bind fun v19=>
 qjV x9 x10 x13 x25 x281 v19 m6 K)) (
 K (.exit 9) (qo2 x13 x25 m)):=
(qa3 (qaT _) _ _ _).trans (by kernel_rfl)
theorem qse (x9 x10 x12 x13:AV) (m:Mem):qoM (qbw cfg.P f187.results.toList) (.exit 1) (qoZ x9 x10 x12 x13 m) =
 (qeU none 161 none (.int .u32 0) 4 m x12 x12).bind fun r1=>
 qjV x9 x10 x13 r1.1 x12 (.int .i64 0) r1.2 (qoQ (qbw cfg.P f187.results.toList)):=by kernel_rfl
theorem qsf (x9 x10 x11 x12 x13 x14 x16:AV) (m:Mem) (K:KT):qoN K (.exit 3) (qhU x9 x10 x11 x12 x13 x14 x16 m) =
 qjU x9 x10 x11 x12 x13 x14 x16 (.int .u64 0) (.int .u64 0) x12 (.int .i64 0) m (qoO K):=by kernel_rfl
theorem qsi (x13 x25:AV) (m:Mem):qoQ (qbw cfg.P f187.results.toList) (.exit 9) (qo2 x13 x25 m) =
 (qaN (AP cfg) none m 164 [x13]).bind fun r1=>
 (qaN (AP cfg) none r1.2 164 [x25]).bind fun r2=>
 some ((.tup [r1.1,r2.1,(.int .i64 0)]),r2.2):=by kernel_rfl
theorem qsg (x9 x10 x11 x12 x13 x14 x16 x18 x19:AV) (m:Mem) (K:KT):qoO K (.exit 5) (qo0 x9 x10 x11 x12 x13 x14 x16 x18 x19 m) =
 (qaz .other .add x19 x18).bind fun v1=>
 (qaz .other .add x14 x12).bind fun v2=>
 (qag none x10 v2).bind fun v3=>
 (qat none m v3).bind fun v4=>
 (qbl .u64 v4).bind fun v5=>
 (qaz .other .lss v5 v1).bind fun v6=>
 (qaz .other .add x14 x12).bind fun v7=>
 (qaz .other .add x14 x12).bind fun v8=>
 (qag none x10 v8).bind fun v9=>
 (qat none m v9).bind fun v10=>
 (qbl .u64 v10).bind fun v11=>
 (qaz .other .sub v11 v1).bind fun v12=>
 (qbl .u32 v12).bind fun v13=>
 (qag none x10 v7).bind fun v14=>
 (qaR none m v14 v13).bind fun m15=>
 ifA v6 (
 (qaz .other .sub x16 (.int .u64 1)).bind fun v16=>
 qlS x9 x10 x11 x12 x13 x14 v16 (.int .u64 0) x12 (.int .i64 0) m15 (qoP K)) (
 (qbl .u32 x16).bind fun v17=>
 (qag none x13 x14).bind fun v18=>
 (qaR none m15 v18 v17).bind fun m19=>
 (qaz .other .sub x14 (.int .i64 1)).bind fun v20=>
 qjT x9 x10 x11 x12 x13 v20 m19 K):=by kernel_rfl
theorem qsh (x9 x10 x11 x12 x13 x14 x16 x19:AV) (m:Mem) (K:KT):qoP K (.exit 7) (qo1 x9 x10 x11 x12 x13 x14 x16 x19 m) =
 (qaz .other .add x14 x12).bind fun v1=>
 (qag none x10 v1).bind fun v2=>
 (qat none m v2).bind fun v3=>
 (qbl .u32 x19).bind fun v4=>
 (qaz .other .add v3 v4).bind fun v5=>
 (qag none x10 v1).bind fun v6=>
 (qaR none m v6 v5).bind fun m7=>
 (qbl .u32 x16).bind fun v8=>
 (qag none x13 x14).bind fun v9=>
 (qaR none m7 v9 v8).bind fun m10=>
 (qaz .other .sub x14 (.int .i64 1)).bind fun v11=>
 qjT x9 x10 x11 x12 x13 v11 m10 K:=by kernel_rfl
def quZ (x6 x7:AV) (m:Mem):St:=⟨(yA4 (yA2 (x6::x7::qdR (yA2 (yA1 []))))),m⟩
noncomputable def qqA (x0 x1 x6 x7 x8:AV) (m:Mem) (K:KT):OM:=qbq (qaM cfg 202 (AP cfg) (AC cfg) (c1 (c1 (c2 (c1 (c2 (c2 (c2 (qaq f202))))))))) (cfg.mask 202 (some 4)) ⟨(x0::x1::yA4 (x6::x7::x8::qdR (yA2 []))),m⟩ K
noncomputable abbrev qyc (K:KT):KT:=qdH (fun st=>qaM cfg 202 (AP cfg) (AC cfg) (c2 (c2 (c2 (c2 (qaq f202))))) st K) K
noncomputable abbrev qyd (K:KT):KT:=qbb 0 (qyc K)
noncomputable abbrev qum (K:KT):KT:=(qyd K)
theorem qIt (a0 a1:AV) (m:Mem):AC cfg 202 [a0,a1] m =
 (qbY false a0).bind fun v1=>
 (qeU none 161 none (.int .u32 0) 4 m v1 v1).bind fun r2=>
 (qbY false a0).bind fun v3=>
 (qaz .other .sub v3 (.int .i64 1)).bind fun v4=>
 qqA a0 a1 r2.1 (.int .u64 0) v4 r2.2 (qum (qbw cfg.P f202.results.toList)):=
(qbx cfg 202 [a0,a1] m (fn:=f202) (c:=qaq f202) qGP rfl).trans (by kernel_rfl)
theorem qny (x0 x1 x6 x7 x8:AV) (m:Mem) (K:KT):qqA x0 x1 x6 x7 x8 m K =
 (qaz .other .geq x8 (.int .i64 0)).bind fun v1=>
 ifA v1 (
 (qaz .other .shl x7 (.int .u64 32)).bind fun v2=>
 (qag none x0 x8).bind fun v3=>
 (qat none m v3).bind fun v4=>
 (qbl .u64 v4).bind fun v5=>
 (qaz .other .or v2 v5).bind fun v6=>
 (qbl .u64 x1).bind fun v7=>
 (qaz .other .quo v6 v7).bind fun v8=>
 (qbl .u32 v8).bind fun v9=>
 (qag none x6 x8).bind fun v10=>
 (qaR none m v10 v9).bind fun m11=>
 (qbl .u64 x1).bind fun v12=>
 (qaz .other .rem v6 v12).bind fun v13=>
 (qaz .other .sub x8 (.int .i64 1)).bind fun v14=>
 qqA x0 x1 x6 v13 v14 m11 K) (
 K (.exit 0) (quZ x6 x7 m)):=
(qa3 (qaT _) _ _ _).trans (by kernel_rfl)
theorem qun (x6 x7:AV) (m:Mem):qum (qbw cfg.P f202.results.toList) (.exit 0) (quZ x6 x7 m) =
 (qaN (AP cfg) none m 164 [x6]).bind fun r1=>
 (qbl .u32 x7).bind fun v2=>
 some ((.tup [r1.1,v2]),r1.2):=by kernel_rfl
theorem qIu (a0:AV) (m:Mem):AC cfg 203 [a0] m =
 (qaN (AP cfg) none m 199 [a0]).bind fun r1=>
 (qaz .other .sub (.int .i64 32) r1.1).bind fun v2=>
 some (v2,r1.2):=
(qbx cfg 203 [a0] m (fn:=f203) (c:=qaq f203) qGQ rfl).trans (by kernel_rfl)
def qu0 (x5:AV) (m:Mem):St:=⟨(yA4 (yA1 (x5::qdR (yA2 [])))),m⟩
noncomputable def qqB (x1 x5 x12 x13 x14:AV) (m:Mem) (K:KT):OM:=qbq (qaM cfg 204 (AP cfg) (AC cfg) (c1 (c1 (c2 (c1 (c2 (c2 (qaq f204)))))))) (cfg.mask 204 (some 3)) ⟨(yA1 (x1::yA2 (yA1 (x5::yA4 (yA2 (x12::x13::x14::qd7 (yA8 (yA1 [])))))))),m⟩ K
noncomputable abbrev qye (K:KT):KT:=qdH (fun st=>qaM cfg 204 (AP cfg) (AC cfg) (c2 (c2 (c2 (qaq f204)))) st K) K
noncomputable abbrev qyf (K:KT):KT:=qbb 0 (qye K)
noncomputable abbrev qz5 (K:KT):KT:=(qyf K)
theorem qIv (a0 a1:AV) (m:Mem):AC cfg 204 [a0,a1] m =
 (qbY false a0).bind fun v1=>
 (qaz .other .add v1 (.int .i64 1)).bind fun v2=>
 (qeU none 161 none (.int .u32 0) 4 m v2 v2).bind fun r3=>
 (qbY false a0).bind fun v4=>
 qqB a1 r3.1 a0 v4 (.int .i64 0) r3.2 (qz5 (qbw cfg.P f204.results.toList)):=
(qbx cfg 204 [a0,a1] m (fn:=f204) (c:=qaq f204) qGR rfl).trans (by kernel_rfl)
theorem qnz (x1 x5 x12 x13 x14:AV) (m:Mem) (K:KT):qqB x1 x5 x12 x13 x14 m K =
 (qaz .other .lss x14 x13).bind fun v1=>
 ifA v1 (
 (qag none x12 x14).bind fun v2=>
 (qat none m v2).bind fun v3=>
 (qag none x5 x14).bind fun v4=>
 (qat none m v4).bind fun v5=>
 (qaz .other .shl v3 x1).bind fun v6=>
 (qaz .other .or v5 v6).bind fun v7=>
 (qag none x5 x14).bind fun v8=>
 (qaR none m v8 v7).bind fun m9=>
 (qaz .other .add x14 (.int .i64 1)).bind fun v10=>
 (qbl .u64 v3).bind fun v11=>
 (qaz .other .shl v11 x1).bind fun v12=>
 (qaz .other .shr v12 (.int .u64 32)).bind fun v13=>
 (qbl .u32 v13).bind fun v14=>
 (qag none x5 v10).bind fun v15=>
 (qaR none m9 v15 v14).bind fun m16=>
 (qaz .other .add x14 (.int .i64 1)).bind fun v17=>
 qqB x1 x5 x12 x13 v17 m16 K) (
 K (.exit 0) (qu0 x5 m)):=
(qa3 (qaT _) _ _ _).trans (by kernel_rfl)
theorem qup (x5:AV) (m:Mem):qz5 (qbw cfg.P f204.results.toList) (.exit 0) (qu0 x5 m) =
 some (x5,m):=by kernel_rfl
theorem qIr (a0:AV) (m:Mem):AC cfg 199 [a0] m =
 (qaz .other .geq a0 (.int .u32 65536)).bind fun v1=>
 ifA v1 (
 (qaz .other .shr a0 (.int .u64 16)).bind fun v2=>
 (qaz .other .geq v2 (.int .u32 256)).bind fun v3=>
 ifA v3 (
 (qaz .other .shr v2 (.int .u64 8)).bind fun v4=>
 (qaz .other .add (.int .i64 16) (.int .i64 8)).bind fun v5=>
 (qbl .u8 v4).bind fun v6=>
 (qd9 (.str ⟨⟨[0,1,2,2,3,3,3,3,4,4,4,4,4,4,4,4,5,5,5,5,5,5,5,5,5,5,5,5,5,5,5,5,6,6,6,6,6,6,6,6,6,6,6,6,6,6,6,6,6,6,6,6,6,6,6,6,6,6,6,6,6,6,6,6,7,7,7,7,7,7,7,7,7,7,7,7,7,7,7,7,7,7,7,7,7,7,7,7,7,7,7,7,7,7,7,7,7,7,7,7,7,7,7,7,7,7,7,7,7,7,7,7,7,7,7,7,7,7,7,7,7,7,7,7,7,7,7,7,8,8,8,8,8,8,8,8,8,8,8,8,8,8,8,8,8,8,8,8,8,8,8,8,8,8,8,8,8,8,8,8,8,8,8,8,8,8,8,8,8,8,8,8,8,8,8,8,8,8,8,8,8,8,8,8,8,8,8,8,8,8,8,8,8,8,8,8,8,8,8,8,8,8,8,8,8,8,8,8,8,8,8,8,8,8,8,8,8,8,8,8,8,8,8,8,8,8,8,8,8,8,8,8,8,8,8,8,8,8,8,8,8,8,8,8,8,8,8,8,8,8,8,8,8,8,8,8]⟩⟩) v6).bind fun v7=>
 (qbl .i64 v7).bind fun v8=>
 (qaz .other .add v5 v8).bind fun v9=>
 some (v9,m)) (
 (qbl .u8 v2).bind fun v10=>
 (qd9 (.str ⟨⟨[0,1,2,2,3,3,3,3,4,4,4,4,4,4,4,4,5,5,5,5,5,5,5,5,5,5,5,5,5,5,5,5,6,6,6,6,6,6,6,6,6,6,6,6,6,6,6,6,6,6,6,6,6,6,6,6,6,6,6,6,6,6,6,6,7,7,7,7,7,7,7,7,7,7,7,7,7,7,7,7,7,7,7,7,7,7,7,7,7,7,7,7,7,7,7,7,7,7,7,7,7,7,7,7,7,7,7,7,7,7,7,7,7,7,7,7,7,7,7,7,7,7,7,7,7,7,7,7,8,8,8,8,8,8,8,8,8,8,8,8,8,8,8,8,8,8,8,8,8,8,8,8,8,8,8,8,8,8,8,8,8,8,8,8,8,8,8,8,8,8,8,8,8,8,8,8,8,8,8,8,8,8,8,8,8,8,8,8,8,8,8,8,8,8,8,8,8,8,8,8,8,8,8,8,8,8,8,8,8,8,8,8,8,8,8,8,8,8,8,8,8,8,8,8,8,8,8,8,8,8,8,8,8,8,8,8,8,8,8,8,8,8,8,8,8,8,8,8,8,8,8,8,8,8,8,8]⟩⟩) v10).bind fun v11=>
 (qbl .i64 v11).bind fun v12=>
 (qaz .other .add (.int .i64 16) v12).bind fun v13=>
 some (v13,m))) (
 (qaz .other .geq a0 (.int .u32 256)).bind fun v14=>
 ifA v14 (
 (qaz .other .shr a0 (.int .u64 8)).bind fun v15=>
 (qaz .other .add (.int .i64 0) (.int .i64 8)).bind fun v16=>
 (qbl .u8 v15).bind fun v17=>
 (qd9 (.str ⟨⟨[0,1,2,2,3,3,3,3,4,4,4,4,4,4,4,4,5,5,5,5,5,5,5,5,5,5,5,5,5,5,5,5,6,6,6,6,6,6,6,6,6,6,6,6,6,6,6,6,6,6,6,6,6,6,6,6,6,6,6,6,6,6,6,6,7,7,7,7,7,7,7,7,7,7,7,7,7,7,7,7,7,7,7,7,7,7,7,7,7,7,7,7,7,7,7,7,7,7,7,7,7,7,7,7,7,7,7,7,7,7,7,7,7,7,7,7,7,7,7,7,7,7,7,7,7,7,7,7,8,8,8,8,8,8,8,8,8,8,8,8,8,8,8,8,8,8,8,8,8,8,8,8,8,8,8,8,8,8,8,8,8,8,8,8,8,8,8,8,8,8,8,8,8,8,8,8,8,8,8,8,8,8,8,8,8,8,8,8,8,8,8,8,8,8,8,8,8,8,8,8,8,8,8,8,8,8,8,8,8,8,8,8,8,8,8,8,8,8,8,8,8,8,8,8,8,8,8,8,8,8,8,8,8,8,8,8,8,8,8,8,8,8,8,8,8,8,8,8,8,8,8,8,8,8,8,8]⟩⟩) v17).bind fun v18=>
 (qbl .i64 v18).bind fun v19=>
 (qaz .other .add v16 v19).bind fun v20=>
 some (v20,m)) (
 (qbl .u8 a0).bind fun v21=>
 (qd9 (.str ⟨⟨[0,1,2,2,3,3,3,3,4,4,4,4,4,4,4,4,5,5,5,5,5,5,5,5,5,5,5,5,5,5,5,5,6,6,6,6,6,6,6,6,6,6,6,6,6,6,6,6,6,6,6,6,6,6,6,6,6,6,6,6,6,6,6,6,7,7,7,7,7,7,7,7,7,7,7,7,7,7,7,7,7,7,7,7,7,7,7,7,7,7,7,7,7,7,7,7,7,7,7,7,7,7,7,7,7,7,7,7,7,7,7,7,7,7,7,7,7,7,7,7,7,7,7,7,7,7,7,7,8,8,8,8,8,8,8,8,8,8,8,8,8,8,8,8,8,8,8,8,8,8,8,8,8,8,8,8,8,8,8,8,8,8,8,8,8,8,8,8,8,8,8,8,8,8,8,8,8,8,8,8,8,8,8,8,8,8,8,8,8,8,8,8,8,8,8,8,8,8,8,8,8,8,8,8,8,8,8,8,8,8,8,8,8,8,8,8,8,8,8,8,8,8,8,8,8,8,8,8,8,8,8,8,8,8,8,8,8,8,8,8,8,8,8,8,8,8,8,8,8,8,8,8,8,8,8,8]⟩⟩) v21).bind fun v22=>
 (qbl .i64 v22).bind fun v23=>
 (qaz .other .add (.int .i64 0) v23).bind fun v24=>
 some (v24,m))):=
(qbx cfg 199 [a0] m (fn:=f199) (c:=qaq f199) qGN rfl).trans (by kernel_rfl)
end Go.Ab

/- What the functions of nat compute. -/
namespace Go.Ab
open Go.Proofs.Tryz
theorem qHP (x:NV) (m:Mem) (K:KT):∀ n:Nat,n<=x.ds.length->x.ds.length < 2 ^ 62->qqo x.av (.int .i64 n) m K=K (.exit 0) (qqT x.av (.int .i64 (trN x.ds n)) m):=by
 intro n
 induction n with
 | zero=>
  intro _ _
  rw[qnn]
  simp[qcB,ifA,trN]
 | succ n ih=>
  intro hn hl
  have ih:=ih (by omega) hl
  rw[qnn]
  have h1:((n+1:Nat):Int) > 0:=by omega
  have h2:IntKind.wrap .i64 (((n+1:Nat):Int) - 1)=n:=by rw[qbQ]<;>omega
  simp only[qcB,oBs,qap,qal h1,qel,h2]
  rw[NV.av,qeO (by omega) (by omega)]
  simp only[oBs,qbs,dg,qcK,qap,qaQ]
  rw[trN]
  by_cases h:x.ds.getD n 0=0
  ·rw[qal (by omega),qal h]
   exact ih
  ·rw[qah (by omega),qah h]
theorem qFU (x:NV) (m:Mem) (hl:x.ds.length < 2 ^ 62):AC cfg 164 [x.av] m=some (NV.av ⟨x.z,.no,tr x.ds⟩,m):=by
 rw[qIj]
 simp only[NV.av,qez,oBs,qaE]
 have:=qHP x m (qtF (qbw cfg.P f164.results.toList)) x.ds.length (qak _) hl
 rw[NV.av] at this
 rw[this,qtG,qoo (by omega) (by have:=qoy x.ds x.ds.length;omega)]
 simp[tr]
theorem qu1 (x:NV) (hl:x.ds.length < 2 ^ 62):AP cfg 164 [x.av]=some (NV.av ⟨x.z,.no,tr x.ds⟩):=
 qeG (qFU x [] hl) (qcy _ _) (by simp[qfQ])
theorem qHN (x y:NV) (m:Mem) (K:KT) (hl:x.ds.length < 2 ^ 62):∀ n:Nat,n<=x.ds.length->n<=y.ds.length ->
  qqk x.av y.av (.int .i64 ((n:Int) - 1)) m K=if qls x.ds y.ds n=0 then K (.exit 1) (quP m) else K .ret (qqV (.int .i64 (qls x.ds y.ds n)) m):=by
 intro n
 induction n with
 | zero=>
  intro _ _
  rw[qni]
  simp[qdD,ifA,qls]
 | succ n ih=>
  intro hx hy
  have ih:=ih (by omega) (by omega)
  rw[qni]
  have h1:((n+1:Nat):Int) - 1=n:=by omega
  have h0:(n:Int)≥0:=by omega
  have h2:IntKind.wrap .i64 ((n:Int) - 1)=(n:Int) - 1:=by rw[qbQ]<;>omega
  simp only[h1,qdD,oBs,qap,qal h0]
  simp only[NV.av] at ih ⊢
  rw[qeO (by omega) (by omega),qeO (by omega) (by omega)]
  simp only[oBs,qbs,dg,qaU,qcB,qap,qaQ,qel,h2]
  rw[qls]
  by_cases h:x.ds.getD n 0 < y.ds.getD n 0
  ·rw[qal (by omega),qal h]
   rfl
  ·rw[qah (by omega),qah h]
   by_cases h':x.ds.getD n 0 > y.ds.getD n 0
   ·rw[qal (by omega),qal h']
    rfl
   ·rw[qah (by omega),qah h']
    exact ih
theorem qFR (x y:NV) (m:Mem) (hx:x.ds.length < 2 ^ 62) (hy:y.ds.length < 2 ^ 62):AC cfg 131 [x.av,y.av] m=some (.int .i64 (qy7 (tr x.ds) (tr y.ds)),m):=by
 have ha:(tr x.ds).length < 2 ^ 62:=by simp only[tr,qbn];omega
 rw[qIa,qbt (qcy x),qu1 x.fr hx]
 simp only[qaf,oBs,qbt (qcy y),qu1 y.fr hy]
 simp only[NV.av,qez,qaE,oBs,qaU,qcB,qap,qel,NV.fr]
 unfold qy7
 by_cases h:(tr x.ds).length < (tr y.ds).length
 ·rw[qal (by omega),qal h]
 ·rw[qah (by omega),qah h]
  by_cases h':(tr x.ds).length > (tr y.ds).length
  ·rw[qal (by omega),qal h']
  ·rw[qah (by omega),qah h',qbQ (by omega) (by omega)]
   have:=qHN ⟨x.z,.no,tr x.ds⟩ ⟨y.z,.no,tr y.ds⟩ m (qp5 (qbw cfg.P f131.results.toList)) ha (tr x.ds).length (qak _) (by simp only;omega)
   simp only[NV.av] at this
   rw[this,qtt,qr7]
   split
   ·rename_i h0;rw[h0]
   ·rfl
theorem qHV (x y:NV) (hx:x.ds.length < 2 ^ 62) (hy:y.ds.length < 2 ^ 62):AP cfg 131 [x.av,y.av]=some (.int .i64 (qy7 (tr x.ds) (tr y.ds))):=
 qeG (qFR x y [] hx hy) (qcR _ _ _) (by simp[noV])
theorem qHi (x y:NV) (m:Mem) (K:KT) (hl:x.ds.length < 2 ^ 40) (hy:y.ds.length<=x.ds.length) (dx:Dg x.ds) (dy:Dg y.ds):∀ j i:Nat,i+j=x.ds.length ->
  qk4 y.av (.lst none false (.tok m.length 161) ((qd2 x.ds y.ds i).1.map dg)) (.int .u64 (qd2 x.ds y.ds i).2) x.av (.int .i64 x.ds.length) (.int .i64 i) (qpT m i) K
   = K (.exit 0) (qqR (.lst none false (.tok m.length 161) ((qd2 x.ds y.ds x.ds.length).1.map dg)) (.int .u64 (qd2 x.ds y.ds x.ds.length).2) (qpT m x.ds.length)):=by
 intro j
 induction j with
 | zero=>
  intro i hi
  have:i=x.ds.length:=by omega
  subst this
  rw[qnh]
  simp[qaU,ifA]
 | succ j ih=>
  intro i hi
  have ih:=ih (i+1) (by omega)
  have hc:=qeX dx dy i
  have h1:=dx i
  have h2:=dy i
  rw[qnh]
  have hi':((i:Nat):Int) < (x.ds.length:Int):=by omega
  have hw:IntKind.wrap .i64 ((i:Int)+1)=((i+1:Nat):Int):=by rw[qbQ]<;>omega
  simp only[qaU,oBs,qap,qal hi']
  simp only[NV.av] at ih ⊢
  have hidx:qag none (.lst none x.z x.o (x.ds.map dg)) (.int .i64 i)=some (.vptr [dg (x.ds.getD i 0)]):=by
   rw[qeO (by omega) (by omega)];simp
  rw[hidx]
  have e1:IntKind.wrap .u64 ((x.ds.getD i 0:Nat):Int)=(x.ds.getD i 0:Nat):=by rw[qcL]<;>omega
  have e2:IntKind.wrap .u64 (((qd2 x.ds y.ds i).2:Int)+(x.ds.getD i 0:Nat))=(((qd2 x.ds y.ds i).2+x.ds.getD i 0:Nat):Int):=by rw[qcL]<;>omega
  simp only[oBs,qbs,dg,qcX,e1,qc4,e2,qez,qaE,qaU,qap,hw]
  have fin:∀ s:Nat,s=(qd2 x.ds y.ds i).2+x.ds.getD i 0+y.ds.getD i 0->(qd6 none false 161 none 4 (qpT m i) (.lst none false (.tok m.length 161) ((qd2 x.ds y.ds i).1.map dg)) (.lst none false .full [.int .u32 (IntKind.wrap .u32 s)]))=some (.lst none false (.tok m.length 161) ((qd2 x.ds y.ds (i+1)).1.map dg),qpT m (i+1)):=by
   intro s hs
   have hlen:((qd2 x.ds y.ds i).1.map dg).length=i:=by rw[qaE,qd8]
   have:=ql2 (e:=161) (b:=4) (m:=m) (es:=(qd2 x.ds y.ds i).1.map dg) (z:=false) (o:=.full) (y:=.int .u32 (IntKind.wrap .u32 s)) (by rw[hlen];simp only[qef];omega)
   rw[hlen] at this
   rw[this]
   congr 3
   simp only[qd2,qcA,qaX,qia,dg,qei,<- hs]
   rfl
  by_cases h:(i:Int) < (y.ds.length:Int)
  ·rw[qal h]
   have hidy:qag none (.lst none y.z y.o (y.ds.map dg)) (.int .i64 i)=some (.vptr [dg (y.ds.getD i 0)]):=by
    rw[qeO (by omega) (by omega)];simp
   have e3:IntKind.wrap .u64 ((y.ds.getD i 0:Nat):Int)=(y.ds.getD i 0:Nat):=by rw[qcL]<;>omega
   have e4:IntKind.wrap .u64 ((((qd2 x.ds y.ds i).2+x.ds.getD i 0:Nat):Int)+(y.ds.getD i 0:Nat))=(((qd2 x.ds y.ds i).2+x.ds.getD i 0+y.ds.getD i 0:Nat):Int):=by rw[qcL]<;>omega
   have hidy':=hidy
   simp only[dg] at hidy'
   rw[hidy']
   simp only[oBs,qbs,qcX,e3,qc4,e4,qeu]
   have f:=fin _ rfl
   rw[f]
   simp only[oBs,qgh _ _ _ (qfF _),hw]
   exact ih
  ·rw[qah h]
   have h0:y.ds.getD i 0=0:=by
    rw[qaa,qbu (by omega)];rfl
   simp only[oBs,qcX,qeu]
   have f:=fin ((qd2 x.ds y.ds i).2+x.ds.getD i 0) (by omega)
   rw[f]
   simp only[oBs,qgh _ _ _ (qfF _),qc4,hw]
   have:(qd2 x.ds y.ds (i+1)).2=((qd2 x.ds y.ds i).2+x.ds.getD i 0) / 4294967296:=by simp only[qd2,h0,qby]
   rw[this] at ih
   exact ih
theorem qHh (a b:List Nat) (m:Mem) (hl:a.length < 2 ^ 40) (da:Dg a) (db:Dg b):qk2 (qbw cfg.P f130.results.toList) (.exit 0) (qqR (.lst none false (.tok m.length 161) ((qd2 a b a.length).1.map dg)) (.int .u64 (qd2 a b a.length).2) (qpT m a.length))=some (NV.av ⟨false,.no,qva a b⟩,qpT m (a.length+1)):=by
 have hc:=qeX da db a.length
 have hlen:((qd2 a b a.length).1.map dg).length=a.length:=by rw[qaE,qd8]
 rw[qts]
 simp only[qcX,oBs,qeu,qgZ (qfF _) (by omega:(((qd2 a b a.length).2:Nat):Int) < 4294967296)]
 have:=ql2 (e:=161) (b:=4) (m:=m) (es:=(qd2 a b a.length).1.map dg) (z:=false) (o:=.full) (y:=.int .u32 (qd2 a b a.length).2) (by rw[hlen];simp only[qef];omega)
 rw[hlen] at this
 rw[this]
 simp only[oBs]
 have e:(AV.lst none false (.tok m.length 161) ((qd2 a b a.length).1.map dg++[.int .u32 (qd2 a b a.length).2]))=NV.av ⟨false,.tok m.length 161,(qd2 a b a.length).1++[(qd2 a b a.length).2]⟩:=by simp[NV.av,dg]
 rw[e,qbt (qcy _),qu1 _ (by simp only[NV.fr,qab,qd8,qad,qae];omega)]
 rfl
theorem qFQ (x y:NV) (m:Mem) (hx:x.ds.length < 2 ^ 40) (hy:y.ds.length < 2 ^ 40) (dx:Dg x.ds) (dy:Dg y.ds):∃ m',AC cfg 130 [x.av,y.av] m=some (NV.av ⟨false,.no,qD0 (tr x.ds) (tr y.ds)⟩,m'):=by
 have hx':=qgw x.ds
 have hy':=qgw y.ds
 have dx':=qkZ dx
 have dy':=qkZ dy
 rw[qH9,qbt (qcy x),qu1 x.fr (by simp only[NV.fr];omega)]
 simp only[qaf,oBs,qbt (qcy y),qu1 y.fr (by simp only[NV.fr];omega)]
 simp only[NV.av,qez,qaE,oBs,qaU,qap,qc4,NV.fr]
 unfold qD0
 by_cases h:(tr x.ds).length < (tr y.ds).length
 ·rw[qal (by omega),qal h,qbQ (by omega) (by omega),qrq (by omega) (by omega) (by omega)]
  simp only[oBs]
  have:=qHi ⟨y.z,.no,tr y.ds⟩ ⟨x.z,.no,tr x.ds⟩ m (qk2 (qbw cfg.P f130.results.toList)) (by simp only;omega) (by simp only;omega) dy' dx' (tr y.ds).length 0 (by simp)
  simp only[NV.av,qd2,qia] at this
  refine ⟨_,this.trans (qHh (tr y.ds) (tr x.ds) m (by omega) dy' dx')⟩
 ·rw[qah (by omega),qah h,qbQ (by omega) (by omega),qrq (by omega) (by omega) (by omega)]
  simp only[oBs]
  have:=qHi ⟨x.z,.no,tr x.ds⟩ ⟨y.z,.no,tr y.ds⟩ m (qk2 (qbw cfg.P f130.results.toList)) (by simp only;omega) (by simp only;omega) dx' dy' (tr x.ds).length 0 (by simp)
  simp only[NV.av,qd2,qia] at this
  refine ⟨_,this.trans (qHh (tr x.ds) (tr y.ds) m (by omega) dx' dy')⟩
theorem qHU (x y:NV) (hx:x.ds.length < 2 ^ 40) (hy:y.ds.length < 2 ^ 40) (dx:Dg x.ds) (dy:Dg y.ds):AP cfg 130 [x.av,y.av]=some (NV.av ⟨false,.no,qD0 (tr x.ds) (tr y.ds)⟩):=by
 obtain ⟨m',h⟩:=qFQ x y [] hx hy dx dy
 exact qeG h (qcy _ _) (by simp[qfQ])
theorem qFN (y:NV) (m:Mem) (K:KT) (x i n:Nat) (s:List Nat×Nat) (v21 v22 v23:AV) (hl:n < 2 ^ 42) (hn:s.1.length=n) (hi:i+y.ds.length<=n) (dy:Dg y.ds) (hx:x < 4294967296) (hs:Dg s.1) (hc:s.2 < 4294967296):∀ j k:Nat,k+j=y.ds.length ->
  qqi y.av (.arr m.length 0 n none) (.int .i64 i) (dg x) (.int .u64 (qgd y.ds x i k s).2) v21 v22 v23 y.av (.int .i64 y.ds.length) (.int .i64 k) (qmt m (qgd y.ds x i k s).1) K
   = K (.exit 2) (quO y.av (.arr m.length 0 n none) (.int .i64 i) (.int .u64 (qgd y.ds x i y.ds.length s).2) v21 v22 v23 (qmt m (qgd y.ds x i y.ds.length s).1)):=by
 intro j
 induction j with
 | zero=>
  intro k hk
  have:k=y.ds.length:=by omega
  subst this
  rw[qng]
  simp[qaU,ifA]
 | succ j ih=>
  intro k hk
  have ih:=ih (k+1) (by omega)
  obtain ⟨h1,h2⟩:=qfB (i:=i) dy hx hs hc k
  have h3:=h1 (i+k)
  have h4:=dy k
  have h5:x * y.ds.getD k 0<=4294967295 * 4294967295:=qdU (by omega) (by omega)
  have hlen:=qed y.ds x i s k
  rw[qng]
  have hk':((k:Nat):Int) < (y.ds.length:Int):=by omega
  have hw:IntKind.wrap .i64 ((k:Int)+1)=((k+1:Nat):Int):=by rw[qbQ]<;>omega
  have hw2:IntKind.wrap .i64 ((i:Int)+k)=((i+k:Nat):Int):=by rw[qbQ]<;>omega
  simp only[qaU,oBs,qap,qal hk']
  have hidx:qag none y.av (.int .i64 k)=some (.vptr [dg (y.ds.getD k 0)]):=by
   rw[NV.av,qeO (by omega) (by omega)];simp
  rw[hidx]
  simp only[oBs,qbs,qc4,hw2]
  rw[qbf (by omega),oBs,qzs (by omega)]
  have e1:IntKind.wrap .u64 (((qgd y.ds x i k s).1.getD (i+k) 0:Nat):Int)=((qgd y.ds x i k s).1.getD (i+k) 0:Nat):=by rw[qcL]<;>omega
  have e2:IntKind.wrap .u64 ((x:Nat):Int)=x:=by rw[qcL]<;>omega
  have e3:IntKind.wrap .u64 ((y.ds.getD k 0:Nat):Int)=(y.ds.getD k 0:Nat):=by rw[qcL]<;>omega
  have e4:IntKind.wrap .u64 ((x:Int) * (y.ds.getD k 0:Nat))=((x * y.ds.getD k 0:Nat):Int):=by rw[<- qer,qcL]<;>omega
  have e5:IntKind.wrap .u64 ((((qgd y.ds x i k s).1.getD (i+k) 0:Nat):Int)+(x * y.ds.getD k 0:Nat))=(((qgd y.ds x i k s).1.getD (i+k) 0+x * y.ds.getD k 0:Nat):Int):=by rw[qcL]<;>omega
  have e6:IntKind.wrap .u64 (((qgd y.ds x i k s).2:Int)+((qgd y.ds x i k s).1.getD (i+k) 0+x * y.ds.getD k 0:Nat))=(((qgd y.ds x i k s).2+((qgd y.ds x i k s).1.getD (i+k) 0+x * y.ds.getD k 0):Nat):Int):=by rw[qcL]<;>omega
  have e7:IntKind.wrap .u32 (((qgd y.ds x i k s).2+((qgd y.ds x i k s).1.getD (i+k) 0+x * y.ds.getD k 0):Nat):Int)=((((qgd y.ds x i k s).2+((qgd y.ds x i k s).1.getD (i+k) 0+x * y.ds.getD k 0)) % 4294967296:Nat):Int):=by rw[qei];rfl
  simp only[dg,oBs,qcX,e1,e2,e3,qf3,e4,e5,e6,e7,qc4,hw2]
  rw[qgu (by omega)]
  simp only[oBs,qgh _ _ _ (qfF _),hw]
  exact ih
theorem qHM (x y:NV) (m:Mem) (K:KT) (hx:x.ds.length < 2 ^ 40) (hy:y.ds.length < 2 ^ 40) (dx:Dg x.ds) (dy:Dg y.ds):∀ j i:Nat,i+j=x.ds.length ->
  qqh y.av (.arr m.length 0 (x.ds.length+y.ds.length) none) x.av (.int .i64 x.ds.length) (.int .i64 i) (qmt m (qhy x.ds y.ds i)) K
   = K (.exit 0) (quN (.arr m.length 0 (x.ds.length+y.ds.length) none) (qmt m (qhy x.ds y.ds x.ds.length))):=by
 intro j
 induction j with
 | zero=>
  intro i hi
  have:i=x.ds.length:=by omega
  subst this
  rw[qnf]
  simp[qaU,ifA]
 | succ j ih=>
  intro i hi
  have ih:=ih (i+1) (by omega)
  rw[qnf]
  have hi':((i:Nat):Int) < (x.ds.length:Int):=by omega
  have hw:IntKind.wrap .i64 ((i:Int)+1)=((i+1:Nat):Int):=by rw[qbQ]<;>omega
  have hw2:IntKind.wrap .i64 ((i:Int)+y.ds.length)=((i+y.ds.length:Nat):Int):=by rw[qbQ]<;>omega
  simp only[qaU,oBs,qap,qal hi']
  have hidx:qag none x.av (.int .i64 i)=some (.vptr [dg (x.ds.getD i 0)]):=by
   rw[NV.av,qeO (by omega) (by omega)];simp
  have hlen:qbY false y.av=some (.int .i64 y.ds.length):=by simp[NV.av,qbY]
  rw[hidx]
  simp only[oBs,qbs,hlen]
  have hb:=qFN y m (qtp K) (x.ds.getD i 0) i (x.ds.length+y.ds.length) (qhy x.ds y.ds i,0) x.av (.int .i64 x.ds.length) (.int .i64 i) (by omega) (qec ..) (by omega) dy (dx i) (qh3 dx dy i) (by simp) y.ds.length 0 (by omega)
  simp only[qgd] at hb
  refine hb.trans ?_
  obtain ⟨h1,h2⟩:=qfB (i:=i) (s:=(qhy x.ds y.ds i,0)) dy (dx i) (qh3 dx dy i) (by simp) y.ds.length
  have hl:=qed y.ds (x.ds.getD i 0) i (qhy x.ds y.ds i,0) y.ds.length
  simp only[qec] at hl
  rw[qtq]
  simp only[hlen,oBs,qc4,hw2,qcX,qgZ (qfF _) (by omega:(((qgd y.ds (x.ds.getD i 0) i y.ds.length (qhy x.ds y.ds i,0)).2:Nat):Int) < 4294967296)]
  rw[qbf (by omega),oBs,qgu (by omega)]
  simp only[oBs,hw]
  exact ih
theorem qFP (x y:NV) (m:Mem) (hx:x.ds.length < 2 ^ 40) (hy:y.ds.length < 2 ^ 40) (dx:Dg x.ds) (dy:Dg y.ds):AC cfg 127 [x.av,y.av] m=some (NV.av ⟨false,.no,qE4 (tr x.ds) (tr y.ds)⟩,m++[none]):=by
 have hx':=qgw x.ds
 have hy':=qgw y.ds
 rw[qH6,qbt (qcy x),qu1 x.fr (by simp only[NV.fr];omega)]
 simp only[qaf,oBs,qbt (qcy y),qu1 y.fr (by simp only[NV.fr];omega)]
 have hl:∀ x:NV,qbY false x.av=some (.int .i64 x.ds.length):=fun x=>by simp[NV.av,qbY]
 have hw:IntKind.wrap .i64 (((tr x.ds).length:Int)+(tr y.ds).length)=(((tr x.ds).length+(tr y.ds).length:Nat):Int):=by rw[qbQ]<;>omega
 simp only[hl,oBs,qc4,NV.fr,hw]
 rw[qrp (by omega) (by omega)]
 simp only[oBs]
 have:=qHM ⟨x.z,.no,tr x.ds⟩ ⟨y.z,.no,tr y.ds⟩ m (qtn (qbw cfg.P f127.results.toList)) (by simp only;omega) (by simp only;omega) (qkZ dx) (qkZ dy) (tr x.ds).length 0 (by simp)
 refine this.trans ?_
 rw[qto]
 have hlen:=qec (tr x.ds) (tr y.ds) (tr x.ds).length
 have hp:=qwh (cp:=AP cfg) (m:=m) (g:=164) (ds:=qhy (tr x.ds) (tr y.ds) (tr x.ds).length)
 rw[hlen] at hp
 rw[hp]
 have:=qu1 ⟨false,.no,qhy (tr x.ds) (tr y.ds) (tr x.ds).length⟩ (by simp only[hlen];omega)
 simp only[NV.av] at this
 rw[this]
 rfl
theorem qHT (x y:NV) (hx:x.ds.length < 2 ^ 40) (hy:y.ds.length < 2 ^ 40) (dx:Dg x.ds) (dy:Dg y.ds):AP cfg 127 [x.av,y.av]=some (NV.av ⟨false,.no,qE4 (tr x.ds) (tr y.ds)⟩):=
 qeG (qFP x y [] hx hy dx dy) (qcy _ _) (by simp[qfQ])
def NV.ok (x:NV):Prop:=x.z=true->x.ds=[]
def qhO (x:NV):NV:=⟨x.z,if x.ds=[] then .full else .no,x.ds⟩
theorem qHk (x:NV) (hz:x.ok) (hx:x.ds.length < 2 ^ 40):AP cfg 163 [x.av]=some (qhO x).av:=by
 have h0:qaz .sl .eql x.av (.lst none true .full [])=some (.bool x.z):=rfl
 obtain ⟨z,o,ds⟩:=x
 cases z with
 | true=>
  have:ds=[]:=hz rfl
  subst this
  refine qeG (v:=NV.av ⟨true,.full,[]⟩) (m:=[]) ?_ (qcy _ _) (by simp[qfQ])
  rw[qFT,h0]
  rfl
 | false=>
  cases ds with
  | nil=>
   refine qeG (v:=NV.av ⟨false,.full,[]⟩) (m:=[]) ?_ (qcy _ _) (by simp[qfQ])
   rw[qFT,h0]
   rfl
  | cons d ds=>
   refine qeG (v:=NV.av ⟨false,.tok 0 161,d::ds⟩) (m:=[some (.tok (d::ds).length 1)]) ?_ (qcy _ _) (by simp[qfQ])
   rw[qFT,h0]
   have hl:(ds.length+1) * 4<=140737488355328:=by simp only[qad] at hx;omega
   simp only[oBs,ifA,qaY,List.all_nil,qa5,qia,NV.av,qaX,qd6,qae,qad,qaE,qar,qef,hl,true_or,qbe,qg7,qaH,qaw,Sh.size]
theorem qvr (x:NV):(qhO x).fr=qhO x:=by
 unfold qhO NV.fr
 simp only[]
 split<;>rfl
theorem qzg (x:NV):Fz (qhO x).av (qhO x).av:=by
 have:=qcy (qhO x)
 rwa [qvr] at this
def ofL (n:Nat):List Nat:=tr [n % 4294967296,n / 4294967296]
theorem qHS (n:Nat) (hn:n < 18446744073709551616):AP cfg 123 [.int .u64 n]=some (qhO ⟨false,.no,ofL n⟩).av:=by
 have e1:IntKind.wrap .u32 (n:Int)=((n % 4294967296:Nat):Int):=by rw[qei];rfl
 have e2:IntKind.wrap .u32 ((n:Int) / 4294967296)=((n / 4294967296:Nat):Int):=by rw[qgZ]<;>omega
 have hb:qaY none [.int .u32 ((n % 4294967296:Nat):Int),.int .u32 ((n / 4294967296:Nat):Int)]=some (NV.av ⟨false,.full,[n % 4294967296,n / 4294967296]⟩):=rfl
 have hl:(tr [n % 4294967296,n / 4294967296]).length<=2:=qgw _
 refine qeG (m:=[]) ?_ (qzg _ _) (by simp[qfQ])
 rw[qH4]
 simp only[qcX,oBs,e1,qgh _ _ _ (qfF _),e2,hb]
 rw[qbt (qcy _),qu1 _ (by simp[NV.fr])]
 simp only[qaf,oBs]
 rw[qbt (qcy _),qHk _ (by simp[NV.ok,NV.fr]) (by simp only[NV.fr];omega)]
 rfl
def qws (a:List Nat):Bool:=decide (a.length=0) || decide (a.getD (a.length - 1) 0≠0)
def qhT (a:List Nat):AV:=match a with
 | []=>.tup [.int .u64 0,.bool true]
 | [d]=>.tup [.int .u64 d,.bool true]
 | [d,e]=>.tup [.int .u64 (d+e * 4294967296:Nat),.bool true]
 | _=>.tup [.int .u64 0,.bool false]
theorem qrb (a:List Nat):Fz (qhT a) (qhT a)/\noV (qhT a)=true:=by
 unfold qhT
 split<;>exact ⟨fun _=>rfl,rfl⟩
theorem qHO (x y:NV) (m:Mem) (K:KT) (hl:x.ds.length < 2 ^ 40) (dx:Dg x.ds) (dy:Dg y.ds):∀ j i:Nat,i+j=x.ds.length ->
  qjO y.av (.arr m.length 0 x.ds.length none) (.int .u64 (qfZ x.ds y.ds i).2) x.av (.int .i64 x.ds.length) (.int .i64 i) (qmt m (qfZ x.ds y.ds i).1) K
   = K (.exit 0) (quQ (.arr m.length 0 x.ds.length none) (qmt m (qfZ x.ds y.ds x.ds.length).1)):=by
 intro j
 induction j with
 | zero=>
  intro i hi
  have:i=x.ds.length:=by omega
  subst this
  rw[qnj]
  simp[qaU,ifA]
 | succ j ih=>
  intro i hi
  have ih:=ih (i+1) (by omega)
  have hc:=qgW x.ds y.ds i
  have hlen:=qe1 x.ds y.ds i
  have h1:=dx i
  have h2:=dy i
  rw[qnj]
  have hi':((i:Nat):Int) < (x.ds.length:Int):=by omega
  have hw:IntKind.wrap .i64 ((i:Int)+1)=((i+1:Nat):Int):=by rw[qbQ]<;>omega
  have e1:IntKind.wrap .u64 ((x.ds.getD i 0:Nat):Int)=(x.ds.getD i 0:Nat):=by rw[qcL]<;>omega
  have e2:IntKind.wrap .u64 ((y.ds.getD i 0:Nat):Int)=(y.ds.getD i 0:Nat):=by rw[qcL]<;>omega
  have e3:IntKind.wrap .u64 (((qfZ x.ds y.ds i).2:Int)+(y.ds.getD i 0:Nat))=(((qfZ x.ds y.ds i).2+y.ds.getD i 0:Nat):Int):=by rw[qcL]<;>omega
  have s1:qaz .other .shl (.int .u64 1) (.int .u64 32)=some (.int .u64 4294967296):=rfl
  have s0:qaz .other .shl (.int .u64 0) (.int .u64 32)=some (.int .u64 0):=rfl
  simp only[qaU,oBs,qap,qal hi',qdi (by omega:i < x.ds.length),qbs,qdj]
  have big:∀ t:Nat,t=(qfZ x.ds y.ds i).2+y.ds.getD i 0->x.ds.getD i 0 < t->
    IntKind.wrap .u32 (IntKind.wrap .u64 (IntKind.wrap .u64 ((x.ds.getD i 0:Nat)+4294967296:Int) - (t:Nat)))=((x.ds.getD i 0+4294967296 - t:Nat):Int)/\qfZ x.ds y.ds (i+1)=((qfZ x.ds y.ds i).1.set i (x.ds.getD i 0+4294967296 - t),1):=by
   intro t ht hlt
   refine ⟨?_,by simp only[qfZ,<- ht,qal hlt]⟩
   rw[qcL (x:=((x.ds.getD i 0:Nat):Int)+4294967296) (by omega) (by omega),qcL (by omega) (by omega),qgZ (by omega) (by omega)]
   omega
  have small:∀ t:Nat,t=(qfZ x.ds y.ds i).2+y.ds.getD i 0->¬ x.ds.getD i 0 < t->
    IntKind.wrap .u32 (IntKind.wrap .u64 (IntKind.wrap .u64 ((x.ds.getD i 0:Nat)+0:Int) - (t:Nat)))=((x.ds.getD i 0 - t:Nat):Int)/\qfZ x.ds y.ds (i+1)=((qfZ x.ds y.ds i).1.set i (x.ds.getD i 0 - t),0):=by
   intro t ht hlt
   refine ⟨?_,by simp only[qfZ,<- ht,qah hlt]⟩
   rw[qcL (x:=((x.ds.getD i 0:Nat):Int)+0) (by omega) (by omega),qcL (by omega) (by omega),qgZ (by omega) (by omega)]
   omega
  by_cases h:(i:Int) < (y.ds.length:Int)
  ·rw[qal h,qdi (by omega:i < y.ds.length)]
   simp only[oBs,qbs,dg,qcX,e1,e2,e3,qc4,qaU,qap]
   by_cases h3:x.ds.getD i 0 < (qfZ x.ds y.ds i).2+y.ds.getD i 0
   ·obtain ⟨b1,b2⟩:=big _ rfl h3
    rw[qal (by omega),s1]
    simp only[oBs,qc4,qel,qcX,b1,hw]
    rw[qbf (by omega),oBs,qgu (by omega)]
    rw[b2] at ih
    exact ih
   ·obtain ⟨b1,b2⟩:=small _ rfl h3
    rw[qah (by omega),s0]
    simp only[oBs,qc4,qel,qcX,b1,hw]
    rw[qbf (by omega),oBs,qgu (by omega)]
    rw[b2] at ih
    exact ih
  ·rw[qah h]
   have h0:=qgL h
   simp only[oBs,qbs,dg,qcX,e1,qaU,qap]
   by_cases h3:x.ds.getD i 0 < (qfZ x.ds y.ds i).2
   ·obtain ⟨b1,b2⟩:=big (qfZ x.ds y.ds i).2 (by omega) h3
    rw[qal (by omega),s1]
    simp only[oBs,qc4,qel,qcX,b1,hw]
    rw[qbf (by omega),oBs,qgu (by omega)]
    rw[b2] at ih
    exact ih
   ·obtain ⟨b1,b2⟩:=small (qfZ x.ds y.ds i).2 (by omega) h3
    rw[qah (by omega),s0]
    simp only[oBs,qc4,qel,qcX,b1,hw]
    rw[qbf (by omega),oBs,qgu (by omega)]
    rw[b2] at ih
    exact ih
end Go.Ab

/- Division of numbers by digits: short division, shifts, and the long one. -/
namespace Go.Ab
def shS (a:List Nat) (d:Nat):Nat->List Nat×Nat
 | 0=>(List.replicate a.length 0,0)
 | k+1=>((shS a d k).1.set (a.length - 1 - k) (((shS a d k).2 * 4294967296+a.getD (a.length - 1 - k) 0) / d),((shS a d k).2 * 4294967296+a.getD (a.length - 1 - k) 0) % d)
theorem qeE (a:List Nat) (d:Nat):∀ k,(shS a d k).1.length=a.length
 | 0=>by simp[shS]
 | k+1=>by simp[shS,qeE a d k]
theorem qjG {a:List Nat} {d:Nat} (hd:0 < d):∀ k,(shS a d k).2 < d
 | 0=>hd
 | k+1=>qcO _ hd
theorem qpM {a:List Nat} {d:Nat} (ha:Dg a) (hd:0 < d) (k i:Nat):((shS a d k).2 * 4294967296+a.getD i 0) / d < 4294967296:=by
 have h1:=qjG (a:=a) hd k
 have h2:=ha i
 rw[qdp hd]
 have:((shS a d k).2+1) * 4294967296<=d * 4294967296:=qaS _ h1
 rw[qaI 4294967296 d]
 omega
theorem qlH {a:List Nat} {d:Nat} (ha:Dg a) (hd:0 < d):∀ k,Dg (shS a d k).1
 | 0=>qj5 _
 | k+1=>(qlH ha hd k).set _ _ (qpM ha hd k _)
theorem qrM (a:List Nat) (d j:Nat):∀ k,j+k < a.length->(shS a d k).1.getD j 0=0
 | 0,_=>qjA _ _
 | k+1,h=>by
  rw[shS]
  simp only[]
  rw[qdT (by omega)]
  exact qrM a d j k (by omega)
theorem qwC {a:List Nat} {d:Nat} (hd:0 < d):∀ k,k<=a.length->val (shS a d k).1 * d+4294967296 ^ (a.length - k) * (shS a d k).2+vs a (a.length - k)=val a
 | 0,_=>by simp[shS,qmN,qdB]
 | k+1,h=>by
  have ih:=qwC (a:=a) hd k (by omega)
  obtain ⟨i,hi⟩:∃ i,i=a.length - 1 - k:=⟨_,rfl⟩
  have e1:a.length - k=i+1:=by omega
  have e2:a.length - (k+1)=i:=by omega
  have hk:=qrM a d i k (by omega)
  have hl:=qeE a d k
  rw[e1,qc3,qbB] at ih
  rw[e2,shS,<- hi]
  generalize shS a d k=t at *
  simp only[]
  have h1:=qkI t.1 i ((t.2 * 4294967296+a.getD i 0) / d) (by omega)
  rw[hk,qc7,qby] at h1
  rw[h1,qbd,qaO,qcD (val t.1 * d),<- qa8,qaI (_ / _) d,qe6]
  rw[<- ih,qa8]
  have:4294967296 ^ i * (t.2 * 4294967296)=4294967296 ^ i * 4294967296 * t.2:=by rw[qaI t.2,qaO]
  omega
def qrN (a:List Nat) (d:Nat):List Nat:=tr (shS a d a.length).1
theorem qrO {a:List Nat} {d:Nat} (ha:Dg a) (hd:0 < d):qrN a d=qba (val a / d)/\(shS a d a.length).2=val a % d:=by
 have h:=qwC (a:=a) hd a.length (qak _)
 have h2:=qjG (a:=a) hd a.length
 simp only[qd1,Nat.pow_zero,qek,qfi,qby] at h
 rw[qrN,qf1 (qlH ha hd _)]
 have e:val a / d=val (shS a d a.length).1/\val a % d=(shS a d a.length).2:=by
  rw[<- h]
  constructor
  ·rw[qaI,Nat.mul_add_div hd,qkM h2];rfl
  ·rw[qaI,Nat.mul_add_mod,qbo h2]
 exact ⟨by rw[e.1],e.2.symm⟩
def wn (u:List Nat) (j:Nat):Nat->Nat
 | 0=>0
 | i+1=>wn u j i+4294967296 ^ i * u.getD (j+i) 0
theorem qwU (u:List Nat):∀ i,wn u 0 i=vs u i
 | 0=>rfl
 | i+1=>by rw[wn,qwU u i,qc3,qar]
theorem qpX {u:List Nat} (h:Dg u) (j:Nat):∀ i,wn u j i < 4294967296 ^ i
 | 0=>by simp[wn]
 | i+1=>by
  have ih:=qpX h j i
  have h1:=h (j+i)
  rw[wn,qbB]
  have:4294967296 ^ i * (u.getD (j+i) 0+1)<=4294967296 ^ i * 4294967296:=qa9 _ h1
  rw[qa8] at this
  omega
theorem qr1 {u w:List Nat} {j:Nat}:∀ i,(∀ k,k < i->u.getD (j+k) 0=w.getD (j+k) 0)->wn u j i=wn w j i
 | 0,_=>rfl
 | i+1,h=>by rw[wn,wn,qr1 i (fun k hk=>h k (by omega)),h i (by omega)]
theorem qdZ {u:List Nat} {j i p x:Nat} (h:p < j\/j+i<=p):wn (u.set p x) j i=wn u j i:=by
 apply qr1
 intro k hk
 exact qdT (by omega)
theorem qr2 (u:List Nat) (j i:Nat):∀ k,wn u j (i+k)=wn u j i+4294967296 ^ i * wn u (j+i) k
 | 0=>by simp[wn]
 | k+1=>by
  rw[<- qcD,wn,qr2 u j i k,wn,qa8,qfY,qaO,qcD j,qcD]
theorem qiB (u:List Nat) (j i:Nat):wn u j (i+1)=u.getD j 0+4294967296 * wn u (j+1) i:=by
 rw[qfI i 1,qr2 u j 1 i]
 simp[wn]
theorem qpY {u:List Nat} {j:Nat}:∀ i,(∀ k,k < i->u.getD (j+k) 0=0)->wn u j i=0
 | 0,_=>rfl
 | i+1,h=>by rw[wn,qpY i (fun k hk=>h k (by omega)),h i (by omega)];simp
def sfS (a:List Nat) (s:Nat):Nat->List Nat
 | 0=>List.replicate (a.length+1) 0
 | i+1=>((sfS a s i).set i ((sfS a s i).getD i 0+a.getD i 0 * 2 ^ s % 4294967296)).set (i+1) (a.getD i 0 * 2 ^ s / 4294967296)
theorem qe0 (a:List Nat) (s:Nat):∀ i,(sfS a s i).length=a.length+1
 | 0=>by simp[sfS]
 | i+1=>by simp[sfS,qe0 a s i]
theorem qfS {s:Nat} (hs:s < 32):2 ^ s * 2 ^ (32 - s)=4294967296:=by
 rw[<- qfY,show s+(32 - s)=32 by omega]
theorem qDc {x s:Nat} (hx:x < 4294967296):x * 2 ^ s / 4294967296 < 2 ^ s:=by
 rw[qdp (by omega)]
 rw[qaI]
 exact Nat.mul_lt_mul_of_pos_left hx (qe7 s)
theorem qE2 {x s:Nat} (hs:s < 32):x * 2 ^ s % 4294967296+2 ^ s<=4294967296:=by
 have h:=qfS hs
 have:x * 2 ^ s % 4294967296=x % 2 ^ (32 - s) * 2 ^ s:=by
  rw[<- h,qaI (2 ^ s) (2 ^ (32 - s)),Nat.mul_mod_mul_right]
 rw[this]
 have h2:x % 2 ^ (32 - s) < 2 ^ (32 - s):=qcO _ (qe7 _)
 have h3:(x % 2 ^ (32 - s)+1) * 2 ^ s<=2 ^ (32 - s) * 2 ^ s:=qaS _ h2
 rw[qaI (2 ^ (32 - s)),h,qbd] at h3
 omega
theorem qpL {a:List Nat} {s:Nat} (ha:Dg a):∀ i,i<=a.length->(sfS a s i).getD i 0 < 2 ^ s
 | 0,_=>by rw[sfS,qjA];exact qe7 s
 | i+1,h=>by
  have hl:=qe0 a s i
  rw[sfS,qdk (by rw[qai];omega)]
  exact qDc (ha i)
theorem qwB {a:List Nat} {s:Nat} (ha:Dg a) (hs:s < 32):∀ i,i<=a.length->Dg (sfS a s i)
 | 0,_=>qj5 _
 | i+1,h=>by
  have h1:=qpL (s:=s) ha i (by omega)
  have h2:=qE2 (x:=a.getD i 0) hs
  have h3:=qDc (x:=a.getD i 0) (s:=s) (ha i)
  have h4:2 ^ s<=2 ^ 31:=qbA (by omega) (by omega)
  exact ((qwB ha hs i (by omega)).set _ _ (by omega)).set _ _ (by omega)
theorem qAU {a:List Nat} {s:Nat}:∀ i,i<=a.length->wn (sfS a s i) 0 (i+1)=2 ^ s * vs a i
 | 0,_=>by rw[sfS,qpY];rfl;intro k _;exact qjA _ _
 | i+1,h=>by
  have ih:=qAU (a:=a) (s:=s) i (by omega)
  have hl:=qe0 a s i
  rw[wn,sfS,qdZ (by omega),qar,qdk (by rw[qai];omega),wn,qdZ (by omega),qar,qdk (by omega)]
  rw[wn,qar] at ih
  have e:=pmd (4294967296 ^ i) 4294967296 (a.getD i 0 * 2 ^ s)
  rw[qc3,qa8 (2 ^ s),<- ih,qbB,Nat.mul_left_comm (2 ^ s),qaI (2 ^ s),qa8]
  omega
theorem qAV {a:List Nat} {s:Nat}:val (sfS a s a.length)=2 ^ s * val a:=by
 have h:=qAU (a:=a) (s:=s) a.length (qak _)
 rw[qwU,qdB (by rw[qe0];omega),qdB (qak _)] at h
 exact h
theorem qzi {g r top v1 v2 u0 lo vlo p q:Nat} (h:g * v1+r=top) (hc:r * 4294967296+u0 < g * v2) (hlo:lo < p)
  (hq:q * ((v1 * 4294967296+v2) * p+vlo)<=(top * 4294967296+u0) * p+lo):q < g:=by
 apply qbJ
 intro hn
 have hg:g<=q:=qfz hn
 have h1:g * ((v1 * 4294967296+v2) * p+vlo)<=q * ((v1 * 4294967296+v2) * p+vlo):=qaS _ hg
 have h2:(top * 4294967296+u0+1) * p<=g * (v1 * 4294967296+v2) * p:=by
  apply qaS
  rw[qa8,<- qaO,<- h]
  omega
 rw[qa8,<- qaO] at h1
 rw[qbd _ 1,qek] at h2
 omega
theorem qre {g r top v1 v2 u0 lo vlo p U V:Nat} (h:g * v1+r=top) (hc:g * v2<=r * 4294967296+u0) (hg:g < 4294967296) (hv:vlo < p) (hv1:0 < v1)
  (hU:U=(top * 4294967296+u0) * p+lo) (hV:V=(v1 * 4294967296+v2) * p+vlo):g * V < U+V:=by
 have h2:g * (v1 * 4294967296+v2) * p<=(top * 4294967296+u0) * p:=by
  apply qaS
  rw[qa8,<- qaO,<- h]
  omega
 have h3:g * vlo<=4294967296 * p:=qdU (by omega) (by omega)
 have h4:g * vlo < 4294967296 * p:=by
  rcases Nat.eq_zero_or_pos g with h0 | h0
  ·subst h0;rw[qHj];omega
  ·exact Nat.mul_lt_mul'' hg hv
 have h5:1 * 4294967296 * p<=v1 * 4294967296 * p:=qaS _ (qaS _ hv1)
 rw[hV,qa8,<- qaO,qbd (v1 * 4294967296)]
 omega
def msS (v:List Nat) (g j:Nat):Nat->List Nat->List Nat×Nat×Nat
 | 0,u=>(u,0,0)
 | i+1,u=>
  let t:=msS v g j i u
  let c:=t.2.2+g * v.getD i 0
  let y:=c % 4294967296+t.2.1
  if t.1.getD (i+j) 0 < y then (t.1.set (i+j) (t.1.getD (i+j) 0+4294967296 - y),1,c / 4294967296)
  else (t.1.set (i+j) (t.1.getD (i+j) 0 - y),0,c / 4294967296)
theorem qgq (v:List Nat) (g j:Nat) (u:List Nat):∀ i,(msS v g j i u).1.length=u.length
 | 0=>rfl
 | i+1=>by
  rw[msS]
  split<;>simp[qgq v g j u i]
theorem qgp (v:List Nat) (g j:Nat) (u:List Nat):∀ i,(msS v g j i u).2.1<=1
 | 0=>by simp[msS]
 | i+1=>by
  rw[msS]
  split<;>simp
theorem qin {v:List Nat} {g:Nat} (hv:Dg v) (hg:g < 4294967296) (j:Nat) (u:List Nat):∀ i,(msS v g j i u).2.2 < 4294967296
 | 0=>by simp[msS]
 | i+1=>by
  have ih:=qin hv hg j u i
  have h4:=hv i
  have h5:g * v.getD i 0<=4294967295 * 4294967295:=qdU (by omega) (by omega)
  rw[msS]
  split<;>(simp only[];omega)
theorem qru {v u:List Nat} {g:Nat} (hu:Dg u) (j:Nat):∀ i,Dg (msS v g j i u).1
 | 0=>hu
 | i+1=>by
  have ih:=qru (v:=v) (g:=g) hu j i
  have hb:=qgp v g j u i
  have h1:=ih (i+j)
  rw[msS]
  split
  ·exact ih.set _ _ (by omega)
  ·exact ih.set _ _ (by omega)
theorem qmr (v:List Nat) (g j:Nat) (u:List Nat) (k:Nat):∀ i,k < j\/i+j<=k->(msS v g j i u).1.getD k 0=u.getD k 0
 | 0,_=>rfl
 | i+1,h=>by
  have ih:=qmr v g j u k i (by omega)
  rw[msS]
  split<;>simp only[]<;>rw[qdT (by omega),ih]
theorem qv4 {v u:List Nat} {g:Nat} (hu:Dg u) (j:Nat):∀ i,i+j<=u.length->wn (msS v g j i u).1 j i+g * vs v i=wn u j i+4294967296 ^ i * ((msS v g j i u).2.2+(msS v g j i u).2.1)
 | 0,_=>by simp[msS,wn,qfi]
 | i+1,h=>by
  have ih:=qv4 (v:=v) (g:=g) hu j i (by omega)
  have hk:=qmr v g j u (i+j) i (by omega)
  have hl:=qgq v g j u i
  have hb:=qgp v g j u i
  have hd:=hu (i+j)
  rw[wn.eq_2 u,qc3,qbB,qa8,<- qaO g,qaI g (4294967296 ^ i),qaO]
  rw[msS]
  generalize msS v g j i u=t at *
  obtain ⟨t,b,c⟩:=t
  simp only[] at *
  rw[hk,qfI j i]
  have e:=pmd (4294967296 ^ i) 4294967296 (c+g * v.getD i 0)
  generalize hc:c+g * v.getD i 0=C at *
  rw[<- hc,qa8,hc] at e
  rw[qa8] at ih
  split
  ·rename_i hlt
   simp only[]
   rw[wn,qdZ (by omega),qfI j i,qdk (by omega)]
   have e2:=qHJ (4294967296 ^ i) 4294967296 (u.getD (i+j) 0) (C % 4294967296+b) (by omega)
   rw[qa8 _ (C % 4294967296)] at e2
   rw[qa8 _ (C / 4294967296),qc1]
   omega
  ·rename_i hlt
   simp only[]
   rw[wn,qdZ (by omega),qfI j i,qdk (by omega)]
   have e2:=qzC (4294967296 ^ i) (u.getD (i+j) 0) (C % 4294967296+b) (by omega)
   rw[qa8 _ (C % 4294967296)] at e2
   rw[qby]
   omega
def abS (v:List Nat) (j:Nat):Nat->List Nat->List Nat×Nat
 | 0,u=>(u,0)
 | i+1,u=>
  let t:=abS v j i u
  let c:=t.2+(t.1.getD (i+j) 0+v.getD i 0)
  (t.1.set (i+j) (c % 4294967296),c / 4294967296)
theorem qgg (v:List Nat) (j:Nat) (u:List Nat):∀ i,(abS v j i u).1.length=u.length
 | 0=>rfl
 | i+1=>by simp[abS,qgg v j u i]
theorem qie {v u:List Nat} (hv:Dg v) (hu:Dg u) (j:Nat):∀ i,Dg (abS v j i u).1/\(abS v j i u).2<=1
 | 0=>⟨hu,by simp[abS]⟩
 | i+1=>by
  obtain ⟨h1,h2⟩:=qie hv hu j i
  have h3:=h1 (i+j)
  have h4:=hv i
  refine ⟨h1.set _ _ (qcO _ (by omega)),?_⟩
  simp only[abS]
  omega
theorem qlZ (v:List Nat) (j:Nat) (u:List Nat) (k:Nat):∀ i,k < j\/i+j<=k->(abS v j i u).1.getD k 0=u.getD k 0
 | 0,_=>rfl
 | i+1,h=>by
  have ih:=qlZ v j u k i (by omega)
  rw[abS]
  simp only[]
  rw[qdT (by omega),ih]
theorem qAk (v:List Nat) (j:Nat) (u:List Nat):∀ i,i+j<=u.length->wn (abS v j i u).1 j i+4294967296 ^ i * (abS v j i u).2=wn u j i+vs v i
 | 0,_=>by simp[abS,wn,qfi]
 | i+1,h=>by
  have ih:=qAk v j u i (by omega)
  have hk:=qlZ v j u (i+j) i (by omega)
  have hl:=qgg v j u i
  rw[wn.eq_2 u,qc3,qbB]
  rw[abS]
  simp only[]
  generalize abS v j i u=t at *
  rw[wn,qdZ (by omega),qfI j i,qdk (by omega),hk]
  have e:=pmd (4294967296 ^ i) 4294967296 (t.2+(u.getD (i+j) 0+v.getD i 0))
  generalize hc:t.2+(u.getD (i+j) 0+v.getD i 0)=C at *
  rw[<- hc,qa8,qa8,hc] at e
  omega
def kdU (v:List Nat) (n j g:Nat) (u:List Nat):List Nat×Nat:=
 let t:=msS v g j n u
 let y:=t.2.2+t.2.1
 if t.1.getD (j+n) 0 < y then
  let w:=abS v j n (t.1.set (j+n) (t.1.getD (j+n) 0+4294967296 - y))
  (w.1.set (j+n) ((w.1.getD (j+n) 0+w.2) % 4294967296),g - 1)
 else (t.1.set (j+n) (t.1.getD (j+n) 0 - y),g)
theorem qjf {q r U V:Nat} (h:U=q * V+r) (hr:r < V):U / V=q/\U % V=r:=by
 subst h
 constructor
 ·rw[qaI,Nat.mul_add_div (by omega),qkM hr];rfl
 ·rw[qaI,Nat.mul_add_mod,qbo hr]
theorem qzk {v u:List Nat} {n j g:Nat} (hv:Dg v) (hu:Dg u) (hn:v.length=n) (hL:j+n < u.length) (hg:g < 4294967296) (hVp:0 < val v)
  (h1:wn u j (n+1) / val v<=g) (h2:g * val v < wn u j (n+1)+val v) :
  Dg (kdU v n j g u).1/\(kdU v n j g u).1.length=u.length/\(∀ k,k < j\/j+n < k->(kdU v n j g u).1.getD k 0=u.getD k 0) /\
  wn (kdU v n j g u).1 j (n+1)=wn u j (n+1) % val v/\(kdU v n j g u).2=wn u j (n+1) / val v:=by
 have hV:vs v n=val v:=qdB (by omega)
 have hVP:val v < 4294967296 ^ n:=by rw[<- hn];exact qeF hv
 have hw:=qv4 (v:=v) (g:=g) hu j n (by omega)
 have hk:∀ k,k < j\/j+n<=k->(msS v g j n u).1.getD k 0=u.getD k 0:=fun k h=>qmr v g j u k n (by omega)
 have hl:=qgq v g j u n
 have hb:=qgp v g j u n
 have hc:=qin hv hg j u n
 have hd:=qru (v:=v) (g:=g) hu j n
 have hd1:=qpX hd j n
 have ht:=hk (j+n) (by omega)
 have htd:=hu (j+n)
 have hUp:=qpX hu j n
 have hUe:wn u j (n+1)=wn u j n+4294967296 ^ n * u.getD (j+n) 0:=rfl
 rw[hUe] at h1 h2 ⊢
 rw[hV] at hw
 unfold kdU
 simp only[]
 generalize msS v g j n u=t at *
 obtain ⟨t,b,c⟩:=t
 simp only[] at *
 rw[ht]
 have hU1:wn u j n+4294967296 ^ n * u.getD (j+n) 0 < (g+1) * val v:=by
  have:=Nat.lt_succ_of_le h1
  rwa [qdp hVp] at this
 rw[qbd,qek] at hU1
 generalize u.getD (j+n) 0=top at *
 by_cases h:top < c+b
 ·rw[qal h]
  simp only[]
  have hd2:Dg (t.set (j+n) (top+4294967296 - (c+b))):=hd.set _ _ (by omega)
  have ha:=qAk v j (t.set (j+n) (top+4294967296 - (c+b))) n (by rw[qai];omega)
  have hak:∀ k,k < j\/j+n<=k->(abS v j n (t.set (j+n) (top+4294967296 - (c+b)))).1.getD k 0=(t.set (j+n) (top+4294967296 - (c+b))).getD k 0:=fun k h=>qlZ v j _ k n (by omega)
  obtain ⟨had,hac⟩:=qie hv hd2 j n
  have hal:=qgg v j (t.set (j+n) (top+4294967296 - (c+b))) n
  rw[qdZ (by omega),hV] at ha
  have htop:=hak (j+n) (by omega)
  rw[qdk (by omega)] at htop
  have hwn:=qpX had j n
  have hset:∀ k,k < j\/j+n < k->(abS v j n (t.set (j+n) (top+4294967296 - (c+b)))).1.getD k 0=u.getD k 0:=by
   intro k hk'
   rw[hak k (by omega),qdT (by omega),hk k (by omega)]
  rw[qai] at hal
  generalize abS v j n (t.set (j+n) (top+4294967296 - (c+b)))=w at *
  obtain ⟨w,x⟩:=w
  simp only[] at *
  rw[htop]
  have hgU:wn u j n+4294967296 ^ n * top < g * val v:=by
   have:4294967296 ^ n * (top+1)<=4294967296 ^ n * (c+b):=qa9 _ h
   rw[qa8] at this
   omega
  have hg1:1<=g:=by
   apply qbG
   intro e
   rw[e,qHj] at hgU
   omega
  obtain ⟨g',hg'⟩:∃ g',g=g'+1:=⟨g - 1,by omega⟩
  subst hg'
  rw[qbd,qek] at hgU h2 hw
  obtain ⟨r,hr⟩:∃ r,wn u j n+4294967296 ^ n * top=g' * val v+r:=⟨_,(Nat.add_sub_cancel' (by omega)).symm⟩
  obtain ⟨hq,hm⟩:=qjf hr (by omega)
  have key:wn w j n+4294967296 ^ n * x=r+4294967296 ^ n * (c+b - top):=by
   have:=qzC (4294967296 ^ n) (c+b) top (by omega)
   omega
  have hx:x=c+b - top/\wn w j n=r:=by
   have h3:=qjf (q:=x) (r:=wn w j n) (V:=4294967296 ^ n) (by rw[qaI x,qfI]) hwn
   have h4:=qjf (q:=c+b - top) (r:=r) (U:=wn w j n+4294967296 ^ n * x) (V:=4294967296 ^ n) (by rw[key,qaI (c+b - top),qfI]) (by omega)
   exact ⟨h3.1.symm.trans h4.1,h3.2.symm.trans h4.2⟩
  refine ⟨had.set _ _ (qcO _ (by omega)),by rw[qai,hal,hl],?_,?_,by rw[hq];rfl⟩
  ·intro k hk'
   rw[qdT (by omega)]
   exact hset k hk'
  ·rw[wn,qdZ (by omega),qdk (by omega),hx.2,hm,hx.1]
   rw[show (top+4294967296 - (c+b)+(c+b - top)) % 4294967296=0 by omega]
   rfl
 ·rw[qah h]
  simp only[]
  have e:=qzC (4294967296 ^ n) top (c+b) (by omega)
  have hr:wn u j n+4294967296 ^ n * top=g * val v+(wn t j n+4294967296 ^ n * (top - (c+b))):=by omega
  obtain ⟨hq,hm⟩:=qjf hr (by omega)
  refine ⟨hd.set _ _ (by omega),by rw[qai,hl],?_,?_,by rw[hq]⟩
  ·intro k hk'
   rw[qdT (by omega)]
   exact hk k (by omega)
  ·rw[wn,qdZ (by omega),qdk (by omega),hm]
structure KInv (v u0:List Nat) (n m j:Nat) (u q:List Nat):Prop where
 du:Dg u
 lu:u.length=m+n
 dq:Dg q
 lq:q.length=m
 hi:∀ k,j+n<=k->u.getD k 0=0
 lo:∀ k,k < j->u.getD k 0=u0.getD k 0
 lt:wn u j n < val v
 eq:wn q j (m - j) * val v+wn u j n=wn u0 j (m+n - j)
theorem KInv.step {v u0 u q:List Nat} {n m j:Nat} (hv:Dg v) (hn:v.length=n) (hj:j < m) (h:KInv v u0 n m (j+1) u q) {u':List Nat} {d:Nat}
  (du:Dg u') (lu:u'.length=u.length) (hk:∀ k,k < j\/j+n < k->u'.getD k 0=u.getD k 0)
  (hw:wn u' j (n+1)=wn u j (n+1) % val v) (hd:d=wn u j (n+1) / val v) (hVp:0 < val v):KInv v u0 n m j u' (q.set j d):=by
 have hU:wn u j (n+1)=u.getD j 0+4294967296 * wn u (j+1) n:=qiB u j n
 have hlt:wn u j (n+1) % val v < val v:=qcO _ hVp
 have hVP:val v < 4294967296 ^ n:=by rw[<- hn];exact qeF hv
 have htop:u'.getD (j+n) 0=0:=by
  rw[wn] at hw
  apply qbJ
  intro hne
  have:4294967296 ^ n * 1<=4294967296 ^ n * u'.getD (j+n) 0:=qa9 _ (by omega)
  omega
 have hwn:wn u' j n=wn u j (n+1) % val v:=by
  rw[wn,htop,qc7,qby] at hw
  exact hw
 have hdB:d < 4294967296:=by
  rw[hd,qdp hVp,hU]
  have h1:=h.lt
  have h2:=h.du j
  omega
 refine ⟨du,by rw[lu,h.lu],h.dq.set _ _ hdB,by rw[qai,h.lq],?_,?_,by rw[hwn];exact hlt,?_⟩
 ·intro k hk'
  by_cases e:k=j+n
  ·rw[e,htop]
  ·rw[hk k (by omega)]
   exact h.hi k (by omega)
 ·intro k hk'
  rw[hk k (by omega)]
  exact h.lo k (by omega)
 ·have e:=h.eq
  obtain ⟨r,hr⟩:∃ r,m - j=r+1:=⟨m - j - 1,by omega⟩
  rw[hr,qiB,qdk (by rw[h.lq];exact hj),qdZ (by omega),hwn]
  rw[show m+n - j=(m+n - (j+1))+1 by omega,qiB u0,<- h.lo j (by omega),<- e,show m - (j+1)=r by omega]
  have h2:wn u j (n+1)=val v * d+wn u j (n+1) % val v:=by rw[hd,qe6]
  rw[qbd,qa8,qaI d,qaO]
  omega
def unS (u:List Nat) (s:Nat):Nat->List Nat
 | 0=>[]
 | i+1=>unS u s i++[u.getD i 0 / 2 ^ s+u.getD (i+1) 0 * 2 ^ (32 - s) % 4294967296]
theorem qgx (u:List Nat) (s:Nat):∀ i,(unS u s i).length=i
 | 0=>rfl
 | i+1=>by simp[unS,qgx u s i]
theorem qDW {x s:Nat} (hs:s < 32):x * 2 ^ (32 - s) % 4294967296=x % 2 ^ s * 2 ^ (32 - s):=by
 rw[<- qfS hs,Nat.mul_mod_mul_right]
theorem qFq {x s:Nat} (hs:s < 32) (hx:x < 4294967296):x / 2 ^ s < 2 ^ (32 - s):=by
 rw[qdp (qe7 s),qaI,qfS hs]
 exact hx
theorem qA6 {x y s:Nat} (hs:s < 32) (hx:x < 4294967296):x / 2 ^ s+y * 2 ^ (32 - s) % 4294967296 < 4294967296:=by
 have h1:=qFq hs hx
 have h2:y % 2 ^ s < 2 ^ s:=qcO _ (qe7 s)
 have h3:(y % 2 ^ s+1) * 2 ^ (32 - s)<=2 ^ s * 2 ^ (32 - s):=qaS _ h2
 rw[qfS hs,qbd] at h3
 rw[qDW hs]
 omega
theorem qrY {u:List Nat} {s:Nat} (hu:Dg u) (hs:s < 32):∀ i,Dg (unS u s i)
 | 0=>qj4
 | i+1=>qj3 (qrY hu hs i) (qig (qA6 hs (hu i)))
theorem qwS {u:List Nat} {s:Nat} (hs:s < 32):∀ i,2 ^ s * val (unS u s i)+u.getD 0 0 % 2 ^ s=wn u 0 i+4294967296 ^ i * (u.getD i 0 % 2 ^ s)
 | 0=>by simp[unS,val,wn]
 | i+1=>by
  have ih:=qwS (u:=u) hs i
  rw[unS,qhr,qgx,val,val,qc7,qby,qDW hs,qa8,wn,qar,qbB]
  have e1:4294967296 ^ i * u.getD i 0=4294967296 ^ i * (2 ^ s * (u.getD i 0 / 2 ^ s)+u.getD i 0 % 2 ^ s):=by rw[qe6]
  have e2:2 ^ s * (4294967296 ^ i * (u.getD i 0 / 2 ^ s+u.getD (i+1) 0 % 2 ^ s * 2 ^ (32 - s)))=4294967296 ^ i * (2 ^ s * (u.getD i 0 / 2 ^ s))+4294967296 ^ i * 4294967296 * (u.getD (i+1) 0 % 2 ^ s):=by
   rw[<- qfS hs]
   generalize (2 ^ s * 2 ^ (32 - s)) ^ i=p
   generalize u.getD (i+1) 0 % 2 ^ s=y
   generalize u.getD i 0 / 2 ^ s=z
   generalize 2 ^ (32 - s)=b
   generalize 2 ^ s=a
   simp only[qa8]
   congr 1
   ·simp only[Nat.mul_left_comm,qaI]
   ·simp only[Nat.mul_left_comm,qaI]
  rw[e2,e1,qa8]
  omega
theorem KInv.done {v u0 u q a b:List Nat} {n m s:Nat} (hs:s < 32) (hu:u0.length=m+n) (h0:val u0=2 ^ s * val a) (hv:val v=2 ^ s * val b) (h:KInv v u0 n m 0 u q) :
  tr q=qba (val a / val b)/\tr (unS u s n)=qba (val a % val b):=by
 have hp:=qe7 s
 have e:=h.eq
 have hlt:=h.lt
 rw[Nat.sub_zero,Nat.sub_zero,qwU u0,qdB (by omega),qwU q,qdB (by rw[h.lq];omega),h0] at e
 have hd:2 ^ s * val a / (2 ^ s * val b)=val q/\2 ^ s * val a % (2 ^ s * val b)=wn u 0 n:=by
  rw[<- hv]
  exact qjf e.symm hlt
 rw[Nat.mul_div_mul_left _ _ hp] at hd
 rw[Nat.mul_mod_mul_left] at hd
 rw[qf1 h.dq,qf1 (qrY h.du hs n),hd.1]
 refine ⟨rfl,?_⟩
 have hr:=qwS (u:=u) hs n
 have htop:=h.hi n (by omega)
 rw[htop,Nat.zero_mod,qc7,qby,<- hd.2] at hr
 have hm:u.getD 0 0 % 2 ^ s < 2 ^ s:=qcO _ hp
 have:=(qjf (q:=val a % val b) (r:=0) (U:=2 ^ s * (val a % val b)) (V:=2 ^ s) (by rw[qaI];rfl) hp).1
 have h3:=(qjf (q:=val (unS u s n)) (r:=u.getD 0 0 % 2 ^ s) (U:=2 ^ s * (val a % val b)) (V:=2 ^ s) (by rw[<- hr,qaI]) hm).1
 rw[<- this,h3]
end Go.Ab
