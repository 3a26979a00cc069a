/- Weights by value: a value of so many parts of a whole; maps of fractions; the sort's measure. -/
import Derived.Test.YtiipgpkgcdhbfaaGreatDoorEP2
import Derived.Test.YtiipgpkgcdhbfaaGreatDoorEP3
import Derived.Test.YtiipgpkgcdhbfaaGreatDoorEP4
import Derived.Test.YtiipgpkgcdhbfaaGreatDoorEP0
import Derived.Test.YtiipgpkgcdhbfaaGreatDoorProg
import Derived.Tactics
import Derived.Tactics2
import Derived.Defers
import Derived.Recover
import Derived.Laws.Pointers
set_option maxRecDepth 100000
set_option linter.unusedVariables false
set_option linter.unusedSimpArgs false
set_option linter.unusedSectionVars false
namespace Go.Ab
open Go.Proofs Go.Proofs.Tryz
structure WV (M:Nat) (r:RV) (N:Nat):Prop where
 ok:ROk 9 r
 q:r.q=dh false N M
 fr:r.fr=r
theorem OG {M a b:Nat} (hM:M≠0):dh false a M+dh false b M=dh false (a+b) M:=by
 rw[IX hM hM]
 have e:fH false (a * M)+fH false (b * M)=((a+b:Nat):Int) * (M:Int):=by
  simp only[fH,jM,lL];rw[<- rQ,<- Int.natCast_add,<- gX]
 rw[e,dh];have:=Rat.mkRat_mul_right (a:=M) (n:=((a+b:Nat):Int)) (d:=M) hM;rw[this];simp[fH]
theorem IY {n d a:Nat} (ha:a≠0):dh false (n * a) (d * a)=dh false n d:=by
 have:=Rat.mkRat_mul_right (a:=a) (n:=((n:Nat):Int)) (d:=d) ha;rw[dh,dh];simp only[fH,jM,lL,rQ];exact this
theorem bd9 {M N:Nat} (hM:M < 4294967296 ^ 8) (hN:N<=M):Bd 8 (dh false N M):=BY (oL (by omega)) (oL (by omega)) (by omega)
theorem Can.wv {M N:Nat} {r:RV} (hM:M < 4294967296 ^ 8) (hN:N<=M) (h:Can r (dh false N M)) (hf:r.fr=r):WV M r N:=⟨(h.ok (bd9 hM hN) (by omega)).mono (by omega),h.q,hf⟩
theorem WV.mul {M N a S:Nat} {r p:RV} (hM:M < 4294967296 ^ 8) (h:WV M r (N * S)) (hS:S≠0) (hp:Can p (dh false a S)) (sH:ROk 9 p) (hb:N * a<=M):∃ x:RV,AP ae 69 [r.av,p.av]=some x.av/\WV M x (N * a):=by
 obtain ⟨x,e,hc,hf⟩:=Ll h.ok sH (by omega) (by omega);refine ⟨x,e,Can.wv hM hb ?_ hf⟩;rw[h.q,hp.q,Er] at hc;have e1:N * S * a=N * a * S:=by rw[fB,cP S a,<- fB]
 rw[show (false != false)=false from rfl,e1,IY hS] at hc;exact hc
theorem WV.add {M N1 N2:Nat} {r1 r2:RV} (hM:M < 4294967296 ^ 8) (h0:M≠0) (h1:WV M r1 N1) (h2:WV M r2 N2) (hb:N1+N2<=M):∃ x:RV,AP ae 71 [r1.av,r2.av]=some x.av/\WV M x (N1+N2):=by
 obtain ⟨x,e,hc,hf⟩:=G5 h1.ok h2.ok (by omega) (by omega);rw[h1.q,h2.q,OG h0] at hc;exact ⟨x,e,Can.wv hM hb hc hf⟩
theorem ZA (M:Nat):WV M zR 0:=⟨⟨⟨by simp[zR,ij,Dg],by simp[zR,ij],fun _=>rfl⟩,⟨by simp[zR,ij,Dg],by simp[zR,ij],fun _=>rfl⟩,by simp[zR,ij],by simp[zR,ij]⟩,by rw[w6];exact zc _ _,rfl⟩
theorem OH {M:Nat} (h0:M≠0):dh false M M=1:=by
 have:=IY (n:=1) (d:=1) h0;rw[qW] at this;rw[this];rfl
theorem Zz {M:Nat} (hM:M < 4294967296 ^ 8) (h0:M≠0):WV M jF M:=Can.wv hM (aR _) (by rw[OH h0];exact LB) rfl
def dm (E:List (Int×RV)):List (AV×AV):=E.map fun p=>(.int .i64 p.1,p.2.av)
def lk:List (Int×RV)->Int->Option RV
 | [],_=>none
 | p::E,k=>if p.1=k then some p.2 else lk E k
def pm (E:List (Int×RV)) (k:Int) (r:RV):List (Int×RV):=match lk E k with
 | some _=>E.map fun p=>if p.1=k then (p.1,r) else p
 | none=>E++[(k,r)]
theorem VU (a k:Int):jc (.int .i64 a) (.int .i64 k)=decide (a=k):=by simp[jc,uK]
theorem LX (k:Int):∀ E:List (Int×RV),(dm E).find? (fun p=>jc p.1 (.int .i64 k))=(lk E k).map fun r=>(.int .i64 k,r.av)
 | []=>rfl
 | p::E=>by
  rw[dm,fV,List.find?_cons,VU,lk]
  by_cases h:p.1=k
  ·rw[eT h,an h,h];rfl
  ·rw[dk h,aj h];exact LX k E
theorem VX {k:Int} (h:-1000000000000<=k/\k<=1000000000000):jQ (.int .i64) (.int .i64 k)=true:=by
 have h1:IntKind.min .i64<=k:=by show (-9223372036854775808:Int)<=k;omega
 have h2:k<=IntKind.max .i64:=by show k<=9223372036854775807;omega
 simp only[jQ,nF,ER,eT h1,eT h2,decide_true,pg]
theorem NW {m:af} {p:Nat} {E:List (Int×RV)} {k:Int} (hp:m.get p=some (.mp (.int .i64) (dm E))) (hk:-1000000000000<=k/\k<=1000000000000):oX (.int .i64) zR.av m (.mref p) (.int .i64 k)=some (((lk E k).getD zR).av,(lk E k).isSome):=by
 have h1:mc m (.int .i64) (.mref p)=some (p,dm E):=by simp[mc,hp]
 unfold oX;rw[h1,aa,an (VX hk),Bg,LX];cases lk E k<;>rfl
theorem Pk {m:af} {p:Nat} {E:List (Int×RV)} {k:Int} (hp:m.get p=some (.mp (.int .i64) (dm E))) (hk:-1000000000000<=k/\k<=1000000000000) (hl:E.length<=1000000000) (r:RV):kO (.int .i64) m (.mref p) (.int .i64 k) r.av=some (m.set p (some (.mp (.int .i64) (dm (pm E k r))))):=by
 have h1:mc m (.int .i64) (.mref p)=some (p,dm E):=by simp[mc,hp]
 unfold kO;rw[h1,aa,an ⟨VX hk,rfl,by rw[dm,bU];unfold maxLen;omega⟩];have hf:=LX k E;congr 5;unfold nK pm
 cases hq:lk E k with
 | none=>
  rw[hq,Option.map_none,List.find?_eq_none] at hf;have:(dm E).any (fun p=>jc p.1 (.int .i64 k))=false:=by rw[List.any_eq_false];exact hf
  rw[this];simp[dm]
 | some r0=>
  rw[hq] at hf
  have:(dm E).any (fun p=>jc p.1 (.int .i64 k))=true:=by
   rw[List.any_eq_true];exact ⟨_,List.mem_of_find?_eq_some hf,List.find?_some (p:=fun p:AV×AV=>jc p.1 (.int .i64 k)) hf⟩
  rw[this];simp only[dm,rW];refine List.map_congr_left fun p hp=>?_;simp only[Function.comp];rw[VU]
  by_cases h:p.1=k
  ·rw[eT h,an rfl,an h]
  ·rw[dk h,aj (by simp),aj h]
theorem XS (E:List (Int×RV)) (k:Int) (r:RV):(pm E k r).length<=E.length+1:=by
 unfold pm;split<;>simp
theorem Wm (k k':Int) (r:RV):∀ E:List (Int×RV),lk (E++[(k,r)]) k'=match lk E k' with | some x=>some x | none=>if k=k' then some r else none
 | []=>rfl
 | p::E=>by
  rw[bQ,lk,lk]
  by_cases h:p.1=k'
  ·rw[an h,an h]
  ·rw[aj h,aj h,Wm k k' r E]
theorem Wn (k k':Int) (r:RV):∀ E:List (Int×RV),lk (E.map fun p=>if p.1=k then (p.1,r) else p) k'=if k=k' then (lk E k').map fun _=>r else lk E k'
 | []=>by simp[lk]
 | p::E=>by
  rw[fV,lk,Wn k k' r E,lk]
  by_cases h:p.1=k
  ·subst h;rw[an rfl]
   by_cases h2:p.1=k'
   ·rw[an h2,an h2,an h2];rfl
   ·simp[h2]
  ·rw[aj h]
   by_cases h2:p.1=k'
   ·subst h2;have h3:¬ k=p.1:=fun e=>h e.symm;rw[an rfl,aj h3];simp
   ·simp[h2]
theorem Wo (E:List (Int×RV)) (k k':Int) (r:RV):lk (pm E k r) k'=if k=k' then some r else lk E k':=by
 unfold pm
 cases hq:lk E k with
 | none=>
  simp only[Wm]
  by_cases h:k=k'
  ·subst h;rw[hq]
  ·rw[aj h,aj h];cases lk E k'<;>rfl
 | some x=>
  simp only[Wn]
  by_cases h:k=k'
  ·subst h;rw[an rfl,an rfl,hq];rfl
  ·rw[aj h,aj h]
def vV (M:Nat) (E:List (Int×RV)) (T:Nat->Nat):Prop:=∀ j:Nat,WV M ((lk E j).getD zR) (T j)
theorem vV.put {M:Nat} {E:List (Int×RV)} {T:Nat->Nat} (h:vV M E T) {k N:Nat} {r:RV} (hr:WV M r N):vV M (pm E k r) (upd T k N):=fun j=>by
 rw[Wo];unfold upd
 by_cases hj:j=k
 ·subst hj;rw[an rfl,an rfl];exact hr
 ·rw[aj (by omega),aj hj];exact h j
theorem sQ {m:af} {k:Nat} {r:RV} (h:m.get k=some (.obj true [.bool r.neg,r.num.av,r.den.av])):ai (some 3) m (.ptr k 0)=some r.av:=by
 rw[eY,h];rfl
theorem uk {m:af} {k:Nat} {c1 c2 c3:AV} {r:RV} (h:m.get k=some (.obj true [c1,c2,c3])):aN (some 3) m (.ptr k 0) r.av=some (m.set k (some (.obj true [.bool r.neg,r.num.av,r.den.av]))):=by
 rw[qh,h];rfl
section
variable {s:Nat} {F:List Nat} {zs:Bool} {os:Own} {most:Int} {l:List ND} {ar:List Int}
def ab (ar:List Int) (l:List ND) (i:Nat):Int:=ft ar.length (l.getD i ⟨0,[],0⟩)
theorem ZV {m:af} (h:eQ m s F (IA zs os ar) most l) {pb:Nat} (hb:m.get pb=some (.obj true [.ptr s 0])) {x y:Nat} (hx:x < l.length) (hy:y < l.length) (fC:ar.length<=16) (g:GoodL ar l):∃ m',AC ae 67 [ni x,ni y,.ptr pb 0] m=some (.int .i64 (ab ar l x - ab ar l y),m')/\Fr m m' []:=by
 obtain ⟨m1,e1,f1⟩:=Jz h hx;have h1:eQ m1 s F (IA zs os ar) most l:=h.fr f1 (fun _ _ h=>by cases h);obtain ⟨m2,e2,f2⟩:=Jz h1 hy;have hb1:m1.get pb=some (.obj true [.ptr s 0]):=by rw[f1.get pb (bJ hb) (by simp)];exact hb
 refine ⟨m2,?_,Fr.trans f1 f2 fun _ h=>by cases h⟩
 have bnd:∀ i (hi:i < l.length),-2<=ft ar.length l[i]/\ft ar.length l[i]<=16:=fun i hi=>by
  unfold ft
  split
  ·have:=(g.var i hi (by omega)).1;omega
  ·omega
 have b1:=bnd x hx;have b2:=bnd y hy;unfold ab;rw[jk hx,jk hy,T67,oV hb,aa,aa,e1,aa];rw[vp (by rw[oV hb1];rfl),e2,aa,pv,iK (by omega) (by omega),aa]
theorem qjM {m0:af} {nm:Nat} (h:eQ m0 s F (IA zs os ar) most l) (yF:nm∉F) {pb:Nat} (hb:m0.get pb=some (.obj true [.ptr s 0])) (hne:pb≠nm) (fC:ar.length<=16) (g:GoodL ar l):ql m0 nm l.length (.ptr pb 0) (ab ar l):=fun m f x y hx hy=>
 ZV (h.fr f fun a ha hh=>yF (by simpa [List.mem_singleton.1 hh] using ha)) (by rw[f.get pb (bJ hb) (by simpa using hne)];exact hb) hx hy fC g
end
end Go.Ab
namespace Go.Ab
open Go.Proofs Go.Proofs.Tryz
abbrev OL:=Pq.OL
abbrev IL:=Pq.IL
def bz (L:OL) (u j:Nat):Nat:=(((L.es.map Pq.IL.ns).getD u []).getD j 0).toNat
structure OddsOk (ar:List Int) (L:OL):Prop where
 len:L.es.length=ar.length
 row:∀ (u:Nat) (h:u < L.es.length),Pq.RowOk L.es[u]/\(L.es[u].ns.length:Int)=ar.getD u 0
theorem OU {L:OL} {u:Nat} (h:u < L.es.length) (j:Nat):bz L u j=(L.es[u].ns.getD j 0).toNat:=by
 unfold bz;rw[aT (l:=L.es.map Pq.IL.ns),n0,bA h];rfl
theorem qoX:∀ (l:List Int),(∀ o∈l,0<=o)->jJ l.length (fun j=>(l.getD j 0).toNat)=l.sum.toNat/\0<=l.sum:=by
 have key:∀ (l:List Int),(∀ o∈l,0<=o)->(((List.range l.length).map fun j=>(l.getD j 0).toNat).sum:Nat)=l.sum.toNat/\0<=l.sum:=by
  intro l
  induction l with
  | nil=>intro _;exact ⟨rfl,by simp⟩
  | cons a l ih=>
   intro h;obtain ⟨h1,h2⟩:=ih fun o ho=>h o (fI _ ho);have ha:=h a fJ;rw[aJ,List.range_succ_eq_map,fV,mR,rW,mR];refine ⟨?_,by omega⟩;have e:((fun j=>((a::l).getD j 0).toNat) ∘ Nat.succ)=fun j=>(l.getD j 0).toNat:=by funext j;rfl
   rw[e,h1];show a.toNat+_=_;omega
 exact key
theorem OddsOk.ss {ar:List Int} {L:OL} (h:OddsOk ar L) {u:Nat} (hu:u < L.es.length):SS ar (bz L) u=L.es[u].ns.sum.toNat/\0 < SS ar (bz L) u/\SS ar (bz L) u<=64000:=by
 obtain ⟨r,hl⟩:=h.row u hu
 have e:SS ar (bz L) u=L.es[u].ns.sum.toNat:=by
  rw[<- (qoX L.es[u].ns fun o ho=>(r.2.1 o ho).1).1];unfold SS;rw[show jC ar u=L.es[u].ns.length by unfold jC;omega];exact xh fun j _=>OU hu j
 obtain ⟨S,hS,h0,hb⟩:=r.sum;rw[hS] at e;exact ⟨by rw[e,hS],by rw[e];omega,by rw[e];omega⟩
theorem Rw {ar:List Int} {s:Nat->Nat->Nat} (h:∀ v,v < ar.length->0 < SS ar s v/\SS ar s v<=64000):∀ d v,v+d<=ar.length->0 < PM ar s d v/\PM ar s d v<=64000 ^ d
 | 0,v,_=>⟨Nat.one_pos,aR _⟩
 | d+1,v,hv=>by
  obtain ⟨h1,h2⟩:=h v (by omega);obtain ⟨h3,h4⟩:=Rw h d (v+1) (by omega);refine ⟨Nat.mul_pos h1 h3,?_⟩;rw[PM,jO,cP];exact rZ h4 h2
theorem GM {ar:List Int} {s:Nat->Nat->Nat} (h:∀ v,v < ar.length->0 < SS ar s v/\SS ar s v<=64000) (fC:ar.length<=16):PM ar s ar.length 0≠0/\PM ar s ar.length 0 < 4294967296 ^ 8:=by
 obtain ⟨h1,h2⟩:=Rw h ar.length 0 (by omega);refine ⟨by omega,jr h2 ?_⟩;exact jr (pO (by omega) fC) (by decide)
theorem OddsOk.all {ar:List Int} {L:OL} (h:OddsOk ar L):∀ v,v < ar.length->0 < SS ar (bz L) v/\SS ar (bz L) v<=64000:=fun v hv=>(h.ss (by rw[h.len];exact hv)).2
theorem XE {ar:List Int} {L:OL} (h:OddsOk ar L) {u:Nat} (hu:u < L.es.length) {j:Nat} (hj:j < L.es[u].ns.length):∃ p:RV,AP ae 70 [(L.es[u].fr).av,.int .i64 (j:Int)]=some p.av/\Can p (dh false (bz L u j) (SS ar (bz L) u))/\ROk 9 p/\p.fr=p:=by
 obtain ⟨r,hl⟩:=h.row u hu;have r':Pq.RowOk L.es[u].fr:=r;obtain ⟨p,e,hc,hf⟩:=Pq.V70 r' (i:=j) hj;have e1:Pq.partQ L.es[u].fr j=dh false (bz L u j) (SS ar (bz L) u):=by rw[(h.ss hu).1,OU hu];rfl
 have hb:=Pq.partQ_bd r (i:=j) hj;have iB:Bd 1 (dh false (bz L u j) (SS ar (bz L) u)):=by rw[<- e1];exact hb
 rw[e1] at hc;exact ⟨p,e,hc,(hc.ok iB (by omega)).mono (by omega),hf⟩
abbrev bR (r:RV):Option Ent:=some (.obj true [.bool r.neg,r.num.av,r.den.av])
abbrev bZ:Option Ent:=some (.obj true [.bool false,au,au])
theorem qJ (m:af) (e e':Option Ent) {k:Nat} (hk:k=m.length):List.set (m++[e]) k e'=m++[e']:=by
 subst hk;rw[tm _ _ (aR _),pP];rfl
theorem Ja (m:af) (e f e':Option Ent) {k:Nat} (hk:k=m.length):List.set ((m++[e])++[f]) k e'=(m++[e'])++[f]:=by
 rw[List.set_append_left _ _ (by simp;omega),qJ m e e' hk]
theorem OK (m:af):dG m 1=m++[some .resv]:=rfl
theorem Yk (m:af):dG m 2=(m++[some .resv])++[some .resv]:=by simp[dG,List.replicate]
section
variable {M:Nat} {pd:Nat}
theorem qgV {ar:List Int} {L:OL} (hO:OddsOk ar L) {l:List ND} {k u:Nat} (hk:k < l.length) (hu:l[k].var=u) (j0:u < L.es.length) (hM:M < 4294967296 ^ 8) (h0:M≠0) {t:Nat} {w:RV} (hw:WV M w (t * SS ar (bz L) u)) {T:Nat->Nat}
  (hb:∀ (A:List (Nat×Nat)) (p:Nat×Nat) (A':List (Nat×Nat)),jE ar (bz L) l[k]=A++p::A'->kD t A T p.1+t * p.2<=M) (sD:∀ (i:Nat) (h:i < l[k].kids.length),∃ q:Nat,l[k].kids[i]=q/\q<=1000000) (fL:l[k].kids.length=jC ar u) (MU:jC ar u<=64)
  {c:Nat} {z:Bool} {o:Own} (x3 x8 aL ka kd jS:AV) (K:KT):∀ (d j:Nat) (m:af) (E:List (Int×RV)),j+d=l[k].kids.length->pd < c->c+1 < m.length ->
  m.get c=some (.obj true [.int .i64 l[k].var,fc l[k],.int .i64 l[k].leaf])->m.get (c+1)=bR w->m.get pd=some (.mp (.int .i64) (dm E))->vV M E (kD t ((jE ar (bz L) l[k]).take j) T)->E.length+d<=900000000 ->
  ∃ (m':af) (E':List (Int×RV)),qm L.av x3 x8 (.mref pd) aL (.ptr c 0) (.ptr (c+1) 0) ka kd jS (IA z o l[k].kids) (.int .i64 l[k].kids.length) (.int .i64 j) m K=K (.exit 2) (GJ L.av x3 x8 (.mref pd) aL ka kd jS m')/\Fr m m' [pd]/\m'.get pd=some (.mp (.int .i64) (dm E'))/\vV M E' (kD t (jE ar (bz L) l[k]) T)/\E'.length<=E.length+d:=by
 have oB:l[k].var.toNat=u:=by omega
 have hWl:(jE ar (bz L) l[k]).length=l[k].kids.length:=by unfold jE;rw[bU,List.length_range,oB,fL]
 intro d
 induction d with
 | zero=>
  intro j m E hj H9 UO AQ MJ tK hR hE;refine ⟨m,E,?_,Fr.refl _ _,tK,by rw[kY (by omega)] at hR;exact hR,by omega⟩;rw[Ki,bg,aa,az,aj (by omega)]
 | succ d ih=>
  intro j m E hj H9 UO AQ MJ tK hR hE;have lD:j < l[k].kids.length:=by omega
  obtain ⟨q,eq,hq⟩:=sD j lD;have js:l[k].kids.getD j 0=(q:Int):=by rw[aT,bA lD,fg,eq]
  have UF:(jE ar (bz L) l[k])[j]'(by omega)=(q,bz L u j):=by
   unfold jE;rw[ti,List.getElem_range,js,oB];rfl
  have qlU:jE ar (bz L) l[k]=(jE ar (bz L) l[k]).take j++(q,bz L u j)::(jE ar (bz L) l[k]).drop (j+1):=by
   rw[<- UF,<- kP,n5]
  have MD:=hb _ _ _ qlU;dsimp only at MD;have jZ:(jE ar (bz L) l[k]).take (j+1)=(jE ar (bz L) l[k]).take j++[(q,bz L u j)]:=by rw[n6 (by omega),UF]
  generalize hTj:kD t ((jE ar (bz L) l[k]).take j) T=Tj at hR MD;have MR:j < L.es[u].ns.length:=by have:=(hO.row u j0).2;unfold jC at fL;omega
  obtain ⟨p,ep,cp,op,fp⟩:=XE hO j0 MR;obtain ⟨x,ex,wx⟩:=hw.mul hM (Nat.pos_iff_ne_zero.1 (hO.ss j0).2.1) cp op (by omega);have hS:=hO.ss j0;have gY:=Pq.index_ol (l:=L) (kk:=.i64) j0;have mV:aG none (IA z o l[k].kids) (.int .i64 j)=some (.vptr [.int .i64 (q:Int)]):=by rw[j6 lD,eq]
  have pW:=bJ AQ;have hpl:=bJ tK;have ldw:ai (some 3) (dG m 1) (.ptr (c+1) 0)=some w.av:=sQ (by rw[OK,cn (by omega)];exact MJ);have ldv:ai none (dG m 1) (.ptr c (0+0))=some (.int .i64 u):=by rw[eY,OK,cn (by omega),AQ,hu];rfl
  have p70:aD (AP ae) (some m.length) (dG m 1) 70 [L.es[u].av,.int .i64 j]=some (p.av,dG m 1):=by rw[fP (Pq.fz_il _) (gu _ _),ep];rfl
  have p69:aD (AP ae) (some m.length) (dG m 1) 69 [w.av,p.av]=some (x.av,dG m 1):=by rw[fP (iu w) (iu p),hw.fr,fp,ex];rfl
  have m1e:((aA (some m.length) (dG m 1) (.obj true [.bool false,au,au])).2)=m++[bZ]:=by rw[Ek,OK,qJ m _ _ rfl]
  have st1:aN (some 3) (m++[bZ]) (.ptr m.length 0) x.av=some (m++[bR x]):=by rw[uk (bV rfl),qJ m _ _ rfl]
  have qla:af.get (m++[bR x]) pd=some (.mp (.int .i64) (dm E)):=by rw[cn hpl];exact tK
  have lkq:=NW qla (k:=(q:Int)) (by omega);have m2e:(aA none (m++[bR x]) (.obj true [.bool false,au,au])).2=(m++[bR x])++[bZ]:=rfl;have l1:(m++[bR x]).length=m.length+1:=by simp
  generalize hr:(lk E q).getD zR=r at lkq;have wr:WV M r (Tj q):=by rw[<- hr];exact hR q
  have st2:aN (some 3) ((m++[bR x])++[bZ]) (.ptr (m.length+1) 0) r.av=some ((m++[bR x])++[bR r]):=by
   rw[uk (c1:=.bool false) (c2:=au) (c3:=au) (bV l1.symm),qJ _ _ _ l1.symm]
  have ldx:ai (some 3) ((m++[bR x])++[bR r]) (.ptr m.length 0)=some x.av:=sQ (by rw[cn (by simp),bV rfl]);have ldr:ai (some 3) ((m++[bR x])++[bR r]) (.ptr (m.length+1) 0)=some r.av:=sQ (bV l1.symm)
  have fin:∀ (y:RV) (M2:af),WV M y (Tj q+t * bz L u j)->Fr m M2 []->m.length<=M2.length ->
    ∃ (m':af) (E':List (Int×RV)),((kO (.int .i64) M2 (.mref pd) (.int .i64 (q:Int)) y.av).bind fun m21=>(ag .other .add (.int .i64 (j:Int)) (.int .i64 1)).bind fun v22=>qm L.av x3 x8 (.mref pd) aL (.ptr c 0) (.ptr (c+1) 0) ka kd jS (IA z o l[k].kids) (.int .i64 l[k].kids.length) v22 m21 K)=K (.exit 2) (GJ L.av x3 x8 (.mref pd) aL ka kd jS m')/\Fr m m' [pd]/\m'.get pd=some (.mp (.int .i64) (dm E'))/\vV M E' (kD t (jE ar (bz L) l[k]) T)/\E'.length<=E.length+(d+1):=by
   intro y M2 wy f2 ja;have pD:M2.get pd=some (.mp (.int .i64) (dm E)):=by rw[f2.get pd hpl (by simp)];exact tK
   have Ng:=bJ pD;have up:=Pk pD (k:=(q:Int)) (by omega) (by omega) y;have ple:=XS E q y;have fr2:Fr m (M2.set pd (some (.mp (.int .i64) (dm (pm E q y))))) [pd]:=(f2.mono (by simp)).set _ (.inl (by simp))
   obtain ⟨m',E',e,k1,k2,k3,k4⟩:=ih (j+1) (M2.set pd (some (.mp (.int .i64) (dm (pm E q y))))) (pm E q y) (by omega) H9 (by rw[aZ];omega) (by rw[cF (by omega),f2.get c pW (by simp)];exact AQ) (by rw[cF (by omega),f2.get (c+1) UO (by simp)];exact MJ) (dM rfl Ng) (by
    rw[jZ,Jd,hTj]
    exact hR.put wy) (by omega)
   refine ⟨m',E',?_,Fr.trans fr2 k1 (fun a ha=>.inl ha),k2,k3,by omega⟩;rw[up,aa,cG (by omega),aa];exact e
  have pre:qm L.av x3 x8 (.mref pd) aL (.ptr c 0) (.ptr (c+1) 0) ka kd jS (IA z o l[k].kids) (.int .i64 l[k].kids.length) (.int .i64 j) m K =
    aw (.bool (lk E q).isSome) (
     (ai (some 3) ((m++[bR x])++[bR r]) (.ptr (m.length+1) 0)).bind fun bO=>
     (ai (some 3) ((m++[bR x])++[bR r]) (.ptr m.length 0)).bind fun bB=>
     (aD (AP ae) none ((m++[bR x])++[bR r]) 71 [bO,bB]).bind fun iJ=>
     (aN (some 3) iJ.2 (.ptr m.length 0) iJ.1).bind fun m19=>
     (ai (some 3) m19 (.ptr m.length 0)).bind fun v20=>
     (kO (.int .i64) m19 (.mref pd) (.int .i64 (q:Int)) v20).bind fun m21=>
     (ag .other .add (.int .i64 (j:Int)) (.int .i64 1)).bind fun v22=>
     qm L.av x3 x8 (.mref pd) aL (.ptr c 0) (.ptr (c+1) 0) ka kd jS (IA z o l[k].kids) (.int .i64 l[k].kids.length) v22 m21 K) (
     (ai (some 3) ((m++[bR x])++[bR r]) (.ptr m.length 0)).bind fun v23=>
     (kO (.int .i64) ((m++[bR x])++[bR r]) (.mref pd) (.int .i64 (q:Int)) v23).bind fun m24=>
     (ag .other .add (.int .i64 (j:Int)) (.int .i64 1)).bind fun v25=>
     qm L.av x3 x8 (.mref pd) aL (.ptr c 0) (.ptr (c+1) 0) ka kd jS (IA z o l[k].kids) (.int .i64 l[k].kids.length) v25 m24 K):=by
   rw[Ki,bg,aa,az,an (by omega),mV,aa,gz,aa,ldw,aa,gg,aa,ldv,aa,gY,aa,Pq.load_ol,aa,p70,aa];dsimp only;rw[p69,aa];dsimp only;rw[m1e,show (aA (some m.length) (dG m 1) Ent.resv).1=m.length from rfl,st1,aa,show (AV.agg [.bool false,au,au])=zR.av from rfl,lkq,aa];dsimp only;rw[show ∀ a b:AV,ba (.tup [a,b]) 0=some a from fun _ _=>rfl,aa,show ∀ a b:AV,ba (.tup [a,b]) 1=some b from fun _ _=>rfl,aa,m2e,show (aA none (m++[bR x]) Ent.resv).1=m.length+1 from l1,st2,aa]
  rw[pre]
  cases DG:lk E q with
  | none=>
   rw[Option.isSome_none,ig,ldx,aa]
   have hz:Tj q=0:=by
    have h1:=hR q;rw[DG,Option.getD_none] at h1;have h2:=(ZA M).q;rw[h1.q,w6,XZ h0] at h2;exact h2
   obtain ⟨m',E',e,kk⟩:=fin x ((m++[bR x])++[bR r]) (by rw[hz,bf];exact wx) (((Fr.refl m []).snoc _).snoc _) (by simp);exact ⟨m',E',e,kk⟩
  | some r0=>
   obtain ⟨y,ey,wy⟩:=wr.add hM h0 wx MD;have p71:aD (AP ae) none ((m++[bR x])++[bR r]) 71 [r.av,x.av]=some (y.av,(m++[bR x])++[bR r]):=by rw[fP (iu r) (iu x),wr.fr,wx.fr,ey];rfl
   have st3:aN (some 3) ((m++[bR x])++[bR r]) (.ptr m.length 0) y.av=some ((m++[bR y])++[bR r]):=by
    rw[uk (c1:=.bool x.neg) (c2:=x.num.av) (c3:=x.den.av) (by rw[cn (by simp),bV rfl]),Ja m _ _ _ rfl]
   have ldy:ai (some 3) ((m++[bR y])++[bR r]) (.ptr m.length 0)=some y.av:=sQ (by rw[cn (by simp),bV rfl]);rw[Option.isSome_some,mJ,ldr,aa,ldx,aa,p71,aa];dsimp only;rw[st3,aa,ldy,aa];obtain ⟨m',E',e,kk⟩:=fin y ((m++[bR y])++[bR r]) wy (((Fr.refl m []).snoc _).snoc _) (by simp);exact ⟨m',E',e,kk⟩
end
end Go.Ab
namespace Go.Ab
open Go.Proofs Go.Proofs.Tryz
section
variable {ar:List Int} {L:OL} {l:List ND}
theorem qnu (hO:OddsOk ar L) {u:Nat} (hu:u < L.es.length) {j:Nat}:Pq.partQ L.es[u] j=dh false (bz L u j) (SS ar (bz L) u):=by rw[(hO.ss hu).1,OU hu];rfl
theorem qkV (hO:OddsOk ar L) (g:GoodL ar l) (h1:∀ x∈ar,1<=x) (c:Int) {M:Nat} (hM:M=PM ar (bz L) ar.length 0) (h0:M≠0) {i:Nat} (hi:i < l.length) {n:Pq.ND} (hv:n.var=l[i].var) (hk:n.kids.ns=l[i].kids) (hf:n.leaf=l[i].leaf) {ws:LV} (hw:∀ j,j < i->Pq.wQ ws j=dh false (Hc ar (bz L) l c j) M):Pq.hasQ L ws c n=dh false (Hc ar (bz L) l c i) M:=by
 by_cases hn:l[i].var < 0
 ·rw[Pq.hasQ_leaf (by omega),JJ c hi hn,hf,<- hM]
  split
  ·exact (OH h0).symm
  ·exact (w6 _ _).symm
 ·obtain ⟨a1,a2⟩:=g.var i hi (by omega);obtain ⟨u,hu⟩:=nW (show 0<=l[i].var by omega);have oB:l[i].var.toNat=u:=by omega
  have j0:u < L.es.length:=by rw[hO.len];omega
  obtain ⟨q,b1,b2⟩:=Mz (s:=bz L) g h1 c i u hi hu;rw[oB] at a2;have fL:l[i].kids.length=jC ar u:=by unfold jC;omega
  rw[Pq.hasQ_node j0 (hv.trans hu),b2,hk,fL]
  have key:∀ j,j<=jC ar u->Pq.sumR (Pq.termQ L.es[u] ws n) j=dh false (jJ j fun j=>bz L u j * q j) M:=by
   intro j
   induction j with
   | zero=>intro _;rw[Y4];exact (w6 _ _).symm
   | succ j ih=>
    intro hj;obtain ⟨t,e,ht,_⟩:=oD g hi (by omega) (k:=j) (by rw[oB];exact ra (by omega))
    have e2:Pq.termQ L.es[u] ws n j=dh false (bz L u j * q j) M:=by
     unfold Pq.termQ;have:=b1 j (by omega);rw[hk,qnu hO j0,hw _ (by rw[e,cK];exact ht),this,Er,show (false != false)=false from rfl];have hS:=(hO.ss j0).2.1;rw[show bz L u j * (SS ar (bz L) u * q j)=bz L u j * q j * SS ar (bz L) u by rw[cP (SS ar (bz L) u),fB],cP (SS ar (bz L) u) M];exact IY (by omega)
    rw[Pq.sumR,ih (by omega),e2,OG h0,rF]
  exact key _ (aR _)
end
end Go.Ab
namespace Go.Ab
open Go.Proofs Go.Proofs.Tryz
def B0 (M:Nat) (En:List (Int×RV)) (D:List (Int×Nat)):Prop:=∀ p∈D,∃ r,lk En p.1=some r/\WV M r p.2
theorem B0.put {M:Nat} {En:List (Int×RV)} {D:List (Int×Nat)} (h:B0 M En D) {c:Int} {N:Nat} {r:RV} (hc:c∉D.map Prod.fst) (hr:WV M r N):B0 M (pm En c r) (D++[(c,N)]):=fun p hp=>by
 rw[Wo]
 rcases im.1 hp with hp | hp
 ·rw[aj (fun e=>hc (by rw[e];exact List.mem_map_of_mem hp))];exact h p hp
 ·obtain rfl:p=(c,N):=by simpa using hp
  rw[an rfl];exact ⟨r,rfl,hr⟩
abbrev bN (n:ND):Option Ent:=some (.obj true [.int .i64 n.var,fc n,.int .i64 n.leaf])
section
variable {s:Nat} {F:List Nat} {zs:Bool} {os:Own} {most:Int} {l:List ND} {ar:List Int}
theorem qgW {L:OL} (hO:OddsOk ar L) (g:GoodL ar l) (h1:∀ x∈ar,1<=x/\x<=64) (fC:ar.length<=16) (fq:l.length<=100000) {M0:af} (h0:eQ M0 s F (IA zs os ar) most l) {pb pd pe nm:Nat} (hpd:pd∉F) (yL:pe∉F) (hne:pd≠pe) (hb0:M0.get pb=some (.obj true [.ptr s 0])) (MC:pb≠pd) (hbe:pb≠pe) {ids:List Nat} (lF:M0.get nm=some (.obj false (ds ids))) (hnd:nm≠pd) (hnp:nm≠pe)
  (cq:ids.length<=100000) (x8:AV) (K:KT):∀ (R P:List Nat) (m:af) (E En:List (Int×RV)) (T:Nat->Nat) (done:Nat) (D:List (Int×Nat)),ids=P++R->Flow ar (bz L) l R T done->Fr M0 m [pd,pe]->m.get pd=some (.mp (.int .i64) (dm E))->m.get pe=some (.mp (.int .i64) (dm En)) ->
  vV (PM ar (bz L) ar.length 0) E T->B0 (PM ar (bz L) ar.length 0) En D->((D++run ar (bz L) l R T).map Prod.fst).Nodup->E.length+64 * R.length<=900000000->En.length+R.length<=900000000 ->
  ∃ (m':af) (En':List (Int×RV)),zQ L.av (.ptr pb 0) x8 (.mref pd) (.mref pe) (.arr nm 0 ids.length none) (.int .i64 ids.length) (.int .i64 P.length) m K=K (.exit 0) (KI x8 (.mref pe) m')/\Fr M0 m' [pd,pe]/\m'.get pe=some (.mp (.int .i64) (dm En'))/\B0 (PM ar (bz L) ar.length 0) En' (D++run ar (bz L) l R T):=by
 obtain ⟨tE,oO⟩:=GM hO.all fC;intro R
 induction R with
 | nil=>
  intro P m E En T done D yp hF f js wF hR HO yH Mr HN;rw[bP] at yp;subst yp;refine ⟨m,En,?_,f,wF,by rw[run,bP];exact HO⟩;rw[QF,bg,aa,az,aj (by omega)]
 | cons k R ih=>
  intro P m E En T done D yp hF f js wF hR HO yH Mr HN;have hk:=hF.lt k fJ;have pz:P.length < ids.length:=by rw[yp];simp
  have M9:∀ a∈F,a∉[pd,pe]:=fun a ha hh=>by
   simp only[gB,Cy,or_false] at hh
   rcases hh with rfl | rfl
   ·exact hpd ha
   ·exact yL ha
  have gI:=h0.fr f M9;obtain ⟨p0,na,TT,st,_⟩:=gI;have be:=st.ok _ (bM hk);have U3:m.get pb=some (.obj true [.ptr s 0]):=by rw[f.get pb (bJ hb0) (by simp[MC,hbe])];exact hb0
  have DC:m.get nm=some (.obj false (ds ids)):=by rw[f.get nm (bJ lF) (by simp[hnd,hnp])];exact lF
  have qlC:=bJ U3;have Ia:=bJ js;have Vv:=bJ wF;have mG:=bJ st.hs;have rg:∀ x,x < m.length->af.get (dG m 2) x=m.get x:=fun x hx=>by rw[Yk,cn (by simp;omega),cn hx]
  have ix:aG none (.arr nm 0 ids.length none) (.int .i64 P.length)=some (.ptr nm P.length):=fU pz
  have ldk:ai none m (.ptr nm P.length)=some (.int .i64 (k:Nat)):=by
   rw[eY,DC,j7,aa,uP];exact HD (by rw[yp];simp)
  have ldb:ai none (dG m 2) (.ptr pb 0)=some (.ptr s 0):=oV (by rw[rg _ qlC];exact U3);have Ir:ai none (dG m 2) (.ptr s (0+1))=some na:=by rw[eY,rg _ mG,st.hs];rfl
  have yI:=Ei st.hn hk;have ldv:ai (some 3) (dG m 2) (.vptr [.int .i64 l[k].var,fc l[k],.int .i64 l[k].leaf])=some l[k].av:=rfl;have lkq:=NW (m:=dG m 2) (p:=pd) (E:=E) (k:=(k:Int)) (by rw[rg _ Ia];exact js) (by omega);generalize hw:(lk E k).getD zR=w at lkq;have ww:WV (PM ar (bz L) ar.length 0) w (T k):=by rw[<- hw];exact hR k
  have e1:((aA (some (m.length+1)) (aA (some m.length) (dG m 2) (.obj true [.int .i64 0,au,.int .i64 0])).2 (.obj true [.bool false,au,au])).2)=(m++[some (.obj true [.int .i64 0,au,.int .i64 0])])++[bZ]:=by
   rw[Ek,Ek,Yk,Ja m _ _ _ rfl,qJ _ _ _ (by simp)]
  have hsh:cZ (some 3) l[k].av=true:=by unfold ND.av fc;split<;>rfl
  have st1:aN (some 3) ((m++[some (.obj true [.int .i64 0,au,.int .i64 0])])++[bZ]) (.ptr m.length 0) l[k].av=some ((m++[bN l[k]])++[bZ]):=by
   rw[show l[k].av=.agg [.int .i64 l[k].var,fc l[k],.int .i64 l[k].leaf] from rfl,YS (a:=.int .i64 0) (b:=au) (c:=.int .i64 0) (by rw[cn (by simp),bV rfl]) hsh,Ja m _ _ _ rfl]
  have st2:aN (some 3) ((m++[bN l[k]])++[bZ]) (.ptr (m.length+1) 0) w.av=some ((m++[bN l[k]])++[bR w]):=by
   rw[uk (c1:=.bool false) (c2:=au) (c3:=au) (bV (by simp)),qJ _ _ _ (by simp)]
  have gn:af.get ((m++[bN l[k]])++[bR w]) m.length=some (.obj true [.int .i64 l[k].var,fc l[k],.int .i64 l[k].leaf]):=by rw[cn (by simp),bV rfl]
  have gw:af.get ((m++[bN l[k]])++[bR w]) (m.length+1)=bR w:=bV (by simp);have gl:∀ x,x < m.length->af.get ((m++[bN l[k]])++[bR w]) x=m.get x:=fun x hx=>by rw[cn (by simp;omega),cn hx]
  have fM:Fr m ((m++[bN l[k]])++[bR w]) []:=((Fr.refl m []).snoc _).snoc _;have lM:((m++[bN l[k]])++[bR w]).length=m.length+2:=by simp
  generalize hMM:(m++[bN l[k]])++[bR w]=MM at gn gw gl fM lM st2;have ld0:ai none MM (.ptr m.length (0+0))=some (.int .i64 l[k].var):=by rw[eY,gn];rfl
  have ld1:∀ M',M'.get m.length=some (.obj true [.int .i64 l[k].var,fc l[k],.int .i64 l[k].leaf])->ai none M' (.ptr m.length (0+1))=some (fc l[k]):=fun M' h=>by rw[eY,h];rfl
  have ld2:ai none MM (.ptr m.length (0+2))=some (.int .i64 l[k].leaf):=by rw[eY,gn];rfl
  have ldw:ai (some 3) MM (.ptr (m.length+1) 0)=some w.av:=sQ gw;have AT:=uc be;have Uy:(P++[k]).length=P.length+1:=by simp
  have pre:zQ L.av (.ptr pb 0) x8 (.mref pd) (.mref pe) (.arr nm 0 ids.length none) (.int .i64 ids.length) (.int .i64 P.length) m K =
    aw (.bool (decide (l[k].var < 0))) (
     (kO (.int .i64) MM (.mref pe) (.int .i64 l[k].leaf) w.av).bind fun m19=>
     (some (AV.ptr m.length (0+1))).bind fun v20=>
     (ai none m19 v20).bind fun v21=>
     (aK false v21).bind fun v22=>
     qm L.av (.ptr pb 0) x8 (.mref pd) (.mref pe) (.ptr m.length 0) (.ptr (m.length+1) 0) (.arr nm 0 ids.length none) (.int .i64 ids.length) (.int .i64 P.length) v21 v22 (.int .i64 0) m19 (xD K)) (
     qm L.av (.ptr pb 0) x8 (.mref pd) (.mref pe) (.ptr m.length 0) (.ptr (m.length+1) 0) (.arr nm 0 ids.length none) (.int .i64 ids.length) (.int .i64 P.length) (IA (kz l[k]) (ko l[k]) l[k].kids) (.int .i64 l[k].kids.length) (.int .i64 0) MM (xD K)):=by
   rw[QF,bg,aa,az,an (by omega),ix,aa,ldk,aa,ldb,aa,oY,aa,gg,aa,Ir,aa,yI,aa,ldv,aa,show (AV.agg [.bool false,au,au])=zR.av from rfl,lkq,aa];dsimp only;rw[e1,show (aA (some m.length) (dG m 2) Ent.resv).1=m.length from rfl,st1,aa];have e2:∀ x,(aA (some (m.length+1)) x Ent.resv).1=m.length+1:=fun _=>rfl;rw[e2,st2,aa,gg,aa,ld0,aa,bg,aa,gg,aa,ld2,aa,ldw,aa,gg,aa,ld1 MM gn,aa,AT,iI,aa]
  by_cases hv:l[k].var < 0
  ·
   obtain ⟨Ms,uT,_⟩:=hF.leaf g hk hv
   have ow:run ar (bz L) l (k::R) T=(l[k].leaf,T k)::run ar (bz L) l R T:=by
    rw[run,bA hk];dsimp only;rw[an hv]
   rw[ow] at yH ⊢
   have hlf:-1000000000000<=l[k].leaf/\l[k].leaf<=1000000000000:=by
    rcases be with ⟨_,_,h3⟩ | ⟨h3,_⟩<;>omega
   have U4:MM.get pe=some (.mp (.int .i64) (dm En)):=by rw[gl _ Vv];exact wF
   have up:=Pk U4 hlf (by simp at HN;omega) w
   have hcn:l[k].leaf∉D.map Prod.fst:=fun hh=>by
    rw[kX,fV] at yH;exact (List.nodup_append.1 yH).2.2 _ hh _ fJ rfl
   have ple:=XS En l[k].leaf w
   have uZ:l[k].kids=[]:=by
    rcases be with ⟨_,h2,_⟩ | ⟨h2,_⟩
    ·exact h2
    ·omega
   have Ng:=bJ U4;have f2:Fr M0 (MM.set pe (some (.mp (.int .i64) (dm (pm En l[k].leaf w))))) [pd,pe]:=(Fr.trans f fM fun _ h=>by cases h).set _ (.inl (by simp));obtain ⟨m',En',e,k1,k2,k3⟩:=ih (P++[k]) _ E (pm En l[k].leaf w) T _ (D++[(l[k].leaf,T k)]) (by rw[yp,ga];rfl) Ms f2 (by rw[cF hne,gl _ Ia];exact js) (dM rfl Ng) hR (HO.put hcn ww) (by rw[ga];exact yH) (by simp at Mr;omega) (by simp at HN;omega);refine ⟨m',En',?_,k1,k2,by rw[ga] at k3;exact k3⟩;rw[Uy] at e;have gn2:af.get (MM.set pe (some (.mp (.int .i64) (dm (pm En l[k].leaf w))))) m.length=some (.obj true [.int .i64 l[k].var,fc l[k],.int .i64 l[k].leaf]):=by rw[cF (by omega)];exact gn
   rw[pre,eT hv,mJ,up,aa,aa,ld1 _ gn2,aa,AT,iI,aa,Ki,bg,aa,az,aj (by rw[uZ];simp),P3,cG (by omega),aa];exact e
  ·
   obtain ⟨u,hu⟩:∃ u:Nat,l[k].var=u:=⟨l[k].var.toNat,by omega⟩;have oB:l[k].var.toNat=u:=by omega
   obtain ⟨j0,Ij,gh,_,hbound,Ms,_⟩:=hF.inner g (fun v hv=>(hO.all v hv).1) hk hu
   have ow:run ar (bz L) l (k::R) T=run ar (bz L) l R (kD (T k / SS ar (bz L) u) (jE ar (bz L) l[k]) T):=by
    rw[run,bA hk];dsimp only;rw[aj hv,oB]
   rw[ow] at yH ⊢;obtain ⟨kr,tT⟩:=g.var k hk (by omega);rw[oB] at tT;have fL:l[k].kids.length=jC ar u:=by unfold jC;omega
   have MU:jC ar u<=64:=by
    have:=h1 _ (bM j0);unfold jC;rw[aT,bA j0,fg];omega
   have qpL:E.length+(64 * R.length+64)<=900000000:=by simp only[aJ] at Mr;omega
   obtain ⟨m1,E1,e17,f1,g1,r1,mW⟩:=qgV hO hk hu (by rw[hO.len];exact j0) oO tE (t:=T k / SS ar (bz L) u) (w:=w) (by rw[Ij];exact ww) (T:=T) hbound (fun i hi=>by
     obtain ⟨q,e,hq⟩:=pF g hk _ (bM hi)
     exact ⟨q,e,by omega⟩) fL MU (c:=m.length) (z:=kz l[k]) (o:=ko l[k]) (.ptr pb 0) x8 (.mref pe) (.arr nm 0 ids.length none) (.int .i64 ids.length) (.int .i64 P.length) (xD K) l[k].kids.length 0 MM E (by omega) Ia (by omega) gn gw (by rw[gl _ Ia];exact js) (by rw[List.take_zero];exact hR) (by omega)
   have f2:Fr M0 m1 [pd,pe]:=Fr.trans (Fr.trans f fM fun _ h=>by cases h) f1 fun a ha=>.inl (by simp at ha;simp[ha]);have qk8:m1.get pe=some (.mp (.int .i64) (dm En)):=by rw[f1.get pe (by omega) (by simp;exact fun e=>hne e.symm),gl _ Vv];exact wF
   obtain ⟨m',En',e,k1,k2,k3⟩:=ih (P++[k]) m1 E1 En _ done D (by rw[yp,ga];rfl) Ms f2 g1 qk8 r1 HO yH (by omega) (by simp at HN;omega);refine ⟨m',En',?_,k1,k2,k3⟩;rw[Uy] at e;have e17:qm L.av (.ptr pb 0) x8 (.mref pd) (.mref pe) (.ptr m.length 0) (.ptr (m.length+1) 0) (.arr nm 0 ids.length none) (.int .i64 ids.length) (.int .i64 P.length) (IA (kz l[k]) (ko l[k]) l[k].kids) (.int .i64 l[k].kids.length) (.int .i64 0) MM (xD K)=_:=e17;rw[pre,dk hv,ig,e17,P3,cG (by omega),aa];exact e
end
end Go.Ab
namespace Go.Ab.Pq
open Go.Proofs.Tryz
structure HI (c:CV) (n:ND) (s:RV) (m:af):Prop where
 g0:m[0]?=some (cC c)
 g1:m[1]?=some (cR zR)
 g2:m[2]?=some (cN n)
 g3:m[3]?=some (cR s)
theorem AB {m:af} {k:Nat} {e:Option Ent} (h:m[k]?=some e) (x:Option Ent):(m++[x])[k]?=some e:=by
 rw[nl (z8.1 h).1];exact h
theorem HI.app {c:CV} {n:ND} {s:RV} {m:af} (h:HI c n s m) (e:Option Ent):HI c n s (m++[e]):=⟨AB h.g0 e,AB h.g1 e,AB h.g2 e,AB h.g3 e⟩
end Go.Ab.Pq
namespace Go.Ab.Pq
open Go.Proofs.Tryz
theorem zip_all {L:OL} {ns:List Int} (hl:L.es.length=ns.length) (h:(L.es.zip ns).all (fun p=>rowB p.1 p.2)=true) {v:Nat} (hv:v < L.es.length):rowB L.es[v] (ns[v]'(by omega))=true:=by
 have hz:v < (L.es.zip ns).length:=by rw[Cw];omega
 have:=fQ.1 h _ (bM hz);rw[List.getElem_zip] at this;exact this
theorem qox {c:CV} (h:shapedB c=true) {v:Nat} (hv:v < c.odds.es.length):RowOk c.odds.es[v]:=by
 unfold shapedB at h;simp only[bT] at h;obtain ⟨_,h1,h2,_⟩:=h;unfold oddsB at h2;rw[bT,wk] at h2;have h3:=zip_all h2.1 h2.2 hv;unfold rowB at h3;simp only[bT,wk] at h3;exact ⟨NP h1 _ (bM hv),fun o ho=>oddB_iff.1 (fQ.1 h3.1 o ho),h3.2.2⟩
theorem OZ {c:CV} (h:shapedB c=true):c.ws.es.length=c.nodes.es.length/\0 < c.nodes.es.length:=by
 unfold shapedB at h;simp only[bT,wk] at h;obtain ⟨h0,_,_,h1,_⟩:=h;unfold nodesB at h1;rw[bT,wk] at h1;exact ⟨h0.2.2.2,h1.1⟩
theorem qow {c:CV} (h:shapedB c=true) {i:Nat} (hi:i < c.nodes.es.length):nodeB (armsI (lens c.odds)) c.nodes.es i c.nodes.es[i]=true:=by
 unfold shapedB at h;simp only[bT] at h;obtain ⟨_,_,_,h1,_⟩:=h;unfold nodesB at h1;rw[bT] at h1;have:=allF_iff.1 h1.2 i (by omega) (by omega)
 rwa [Mk hi] at this
theorem qov {c:CV} (h:shapedB c=true) {i:Nat} (hi:i < c.nodes.es.length):CC c.odds c.ws c.nodes.es[i]/\(c.nodes.es[i].var=-1\/0<=c.nodes.es[i].var):=by
 have hn:=qow h hi;have hl:=(OZ h).1;refine ⟨?_,Xc hn⟩;unfold nodeB at hn
 by_cases c1:c.nodes.es[i].var=-1
 ·exact .inl (by omega)
 ·rw[aj c1,bT,wk] at hn;obtain ⟨⟨h0,h1,h2,h3⟩,h4⟩:=hn;obtain ⟨v,hv⟩:=nW h0;rw[armsI_ns,Be] at h1;have fT:v < c.odds.es.length:=by omega
  have qlZ:v < (lens c.odds).length:=by rw[Be];exact fT
  rw[armsI_ns,hv,cK,aT,bA qlZ] at h3;have h3:(c.nodes.es[i].kids.ns.length:Int)=(lens c.odds)[v]:=h3;rw[lens_get fT] at h3;refine .inr ⟨v,fT,hv,qox h fT,by omega,fun k hk=>?_⟩;have:=fQ.1 h4 k hk;unfold kidB at this;rw[bT,wk] at this;omega
def okAt (c:CV) (i:Nat):Bool:=decide (wQ c.ws i=hasQ c.odds c.ws c.leaf (c.nodes.es.getD i zN))
def firstF (f:Nat->Bool):Nat->Nat->Option Nat
 | 0,_=>none
 | j+1,i=>if f i then firstF f j (i+1) else some i
def checkE (c:CV):Int:=if shapedB c=true then (match firstF (okAt c) c.nodes.es.length 0 with | none=>0 | some _=>32) else 1
def checkI (c:CV):Int:=if shapedB c=true then (match firstF (okAt c) c.nodes.es.length 0 with | none=>0 | some i=>i) else 0
def Hp (c:CV):Rat:=if checkE c=0 then wQ c.ws (c.nodes.es.length - 1) else 0
theorem qkB (r:RV) (a b:Int):Fz (.tup [r.av,.int .i64 a,.int .i64 b]) (.tup [r.fr.av,.int .i64 a,.int .i64 b]):=by
 intro m;have e:bH m km (.tup [r.av,.int .i64 a,.int .i64 b])=(fD (bH m 8) [r.av,.int .i64 a,.int .i64 b]).map fun r=>(.tup r.1,r.2):=rfl;rw[e];simp[fD,Ug,jV _ _ m 7]
theorem Te:fR (.agg [.bool false,.lst none true .full [],.lst none true .full []]) []=some zR.av:=rfl
theorem CC.fr {odds:OL} {ws:LV} {n:ND} (h:CC odds ws n):CC odds.fr ws.fr ⟨n.var,n.kids.fr,n.leaf⟩:=by
 rcases h with h | ⟨v,hv,hn,h⟩
 ·exact .inl h
 ·exact .inr ⟨v,hv,hn,h.row,h.len,h.kids⟩
theorem ZC:zR.q=0:=zc _ _
theorem ZB:ROk 1 zR:=⟨⟨by simp[zR,ij,Dg],by simp[zR,ij],fun _=>rfl⟩,⟨by simp[zR,ij,Dg],by simp[zR,ij],fun _=>rfl⟩,by simp[zR,ij],by simp[zR,ij]⟩
structure CI (c:CV) (m:af):Prop where
 g0:m[0]?=some (cC c)
 g1:m[1]?=some (cR zR)
theorem CI.app {c:CV} {m:af} (h:CI c m) (e:Option Ent):CI c (m++[e]):=⟨AB h.g0 e,AB h.g1 e⟩
theorem SE {c:CV} (hc:COk 30 c) (hs:shapedB c=true) (K:KT):∀ (j i:Nat) (m:af),i+j=c.nodes.es.length->CI c m ->
  ∃ m',CI c m'/\zV (.ptr 0 0) (.ptr 1 0) c.nodes.av (.int .i64 c.nodes.es.length) (.int .i64 i) m K=match firstF (okAt c) j i with
   | none=>K (.exit 0) (K0 (.ptr 0 0) (.ptr 1 0) m')
   | some p=>K .ret (GU (.ptr 1 0) (.int .i64 p) (.int .i64 32) m')
 | 0,i,m,rv,hm=>⟨m,hm,by rw[QZ,dp,aa,az,aj (by omega)];rfl⟩
 | j+1,i,m,rv,hm=>by
  have hi:i < c.nodes.es.length:=by omega
  have hl:=(OZ hs).1;have hn:=hc.nlen;have hw:i < c.ws.es.length:=by omega
  obtain ⟨tO,_⟩:=qov hs hi;obtain ⟨m',hm',ih⟩:=SE hc hs K j (i+1) (m++[cN c.nodes.es[i]]) (by omega) (hm.app _);obtain ⟨s,s1,s2,s3⟩:=qf0 (odds:=c.odds.fr) (n:=⟨c.nodes.es[i].var,c.nodes.es[i].kids.fr,c.nodes.es[i].leaf⟩) (ws:=c.ws.fr) c.leaf hc.ws.fr' tO.fr;have s2:Can s (hasQ c.odds c.ws c.leaf c.nodes.es[i]):=s2;have okw:=hc.ws.ok _ (bM hw)
  have hb:Bd 4000 (hasQ c.odds c.ws c.leaf c.nodes.es[i]):=by
   rcases tO with h | ⟨v,hv,tT,h⟩
   ·rw[hasQ_leaf h]
    split
    ·exact JE (by omega)
    ·exact JF (by omega)
   ·rw[hasQ_node hv tT];exact Y6 h hc.ws (aR _)
  have wfr:=hc.ws.fr _ (bM hw);have e14:=qf2 (okw.mono (by omega:30<=4000)) (s2.ok hb (by omega)) wfr s3 (by omega) (by omega);have fO:=hm.app (cN c.nodes.es[i])
  have eok:decide (c.ws.es[i].q=s.q)=okAt c i:=by
   unfold okAt;rw[wQ_get hw,Mk hi,s2.q]
  rw[eok] at e14
  have key:zV (.ptr 0 0) (.ptr 1 0) c.nodes.av (.int .i64 c.nodes.es.length) (.int .i64 i) m K=aw (.bool (okAt c i)) (zV (.ptr 0 0) (.ptr 1 0) c.nodes.av (.int .i64 c.nodes.es.length) (.int .i64 ((i+1:Nat):Int)) (m++[cN c.nodes.es[i]]) K) (K .ret (GU (.ptr 1 0) (.int .i64 i) (.int .i64 32) ((m++[cN c.nodes.es[i]]).set 1 (cR zR)))):=by
   rw[QZ,dp,aa,az,an hi,NF hc.nsh hi,aa,Wr,aa];simp only[nG,cH];rw[Xj,aa,cJ,aa,As fO.g0,aa,Io hc.ws hw,aa,Ix,aa,cL,aa,Hq fO.g0,aa,qm0 (x:=c.nodes.es[i]) Mm,aa,Uc,aa,LH fO.g0,aa,aa,As fO.g0,aa,qnF (fz_ol _) (qkx _) (gu _ _) (Mi _),s1,aQ,aa,cU,wfr,s3,e14,aQ,aa,cY,aa,VM,cG (by omega),aa,Te,aa,Yp fO.g1,aa]
  rw[key,firstF]
  cases okAt c i with
  | true=>
   refine ⟨m',hm',?_⟩;rw[nE,ih];rfl
  | false=>
   refine ⟨(m++[cN c.nodes.es[i]]).set 1 (cR zR),⟨?_,?_⟩,rfl⟩
   ·rw[Gt (by omega)];exact fO.g0
   ·rw[Cv (z8.1 fO.g1).1]
theorem V53 {c:CV} (hc:COk 30 c):∃ r:RV,AP ae 53 [c.av]=some (.tup [r.av,.int .i64 (checkI c),.int .i64 (checkE c)])/\r.q=Hp c/\r.fr=r/\ROk 4000 r:=by
 have fin:∀ (r:RV) (a b:Int) (m:af),r.fr=r->AC ae 53 [c.av] []=some (.tup [r.av,.int .i64 a,.int .i64 b],m)->AP ae 53 [c.av]=some (.tup [r.av,.int .i64 a,.int .i64 b]):=fun r a b m hr h=>(cW _ _ (qkB r a b) rfl h).trans (by rw[hr]);have start:AC ae 53 [c.av] []=AC ae 53 [c.av] []:=rfl;have g0:([cC c,cR zR]:af)[0]?=some (cC c):=rfl;have e13:AP ae 112 [c.fr.av]=some (.bool (shapedB c)):=qf1 hc.fr;have hl:=hc.nlen
 conv at start=>rhs;rw[T53,Tg,aa]
 simp only[Bl,cH,aM,bE,aJ,bQ,bf] at start;rw[TA g0,aa,cw (Uh _),e13,aQ,aa,cY,aa,VM] at start;unfold checkI checkE Hp checkE
 cases hs:shapedB c with
 | false=>
  rw[hs,ng,Te,aa,cV,aa,cS,aa] at start;exact ⟨zR,fin _ _ _ _ Jw start,by simp[ZC],Jw,ZB.mono (by omega)⟩
 | true=>
  obtain ⟨ja,hl3⟩:=OZ hs;obtain ⟨m',hm',hW⟩:=SE hc hs (Fy (aF ae.P f53.results.toList)) c.nodes.es.length 0 [cC c,cR zR] (by omega) ⟨rfl,rfl⟩;rw[show (((0:Nat):Int))=(0:Int) from rfl] at hW;rw[hs,nE,cM,aa,Hr g0,aa,D7,aa,hW] at start;simp only[bq]
  cases hf:firstF (okAt c) c.nodes.es.length 0 with
  | some p=>
   rw[hf] at start;dsimp only at start;rw[qdV,Bz hm'.g1,aa] at start;exact ⟨zR,fin _ _ _ _ Jw start,by simp[ZC],Jw,ZB.mono (by omega)⟩
  | none=>
   rw[hf] at start;dsimp only at start;have oS:c.nodes.es.length - 1 < c.ws.es.length:=by omega
   have okw:=(hc.ws.ok _ (bM oS)).mono (by omega:30<=100);have wfr:=hc.ws.fr _ (bM oS);obtain ⟨t,t1,t2,t3⟩:=G5 okw (wg.ok (JF (by omega:1<=100)) (by omega)) (by omega) (by omega)
   have gS:ag .other .sub (.int .i64 (c.ws.es.length:Int)) (.int .i64 1)=some (.int .i64 ((c.nodes.es.length - 1:Nat):Int)):=by
    rw[pv,iK (by omega) (by omega)];congr 2;omega
   rw[qdW,cJ,aa,As hm'.g0,aa,aa,As hm'.g0,aa,Iv,aa,gS,aa,Io hc.ws oS,aa,Ix,aa,cT,CP,aQ,aa,cU,wfr,zB,t1,aQ,aa,Yp hm'.g1,aa,Bz (x:=t) (by rw[Cv (z8.1 hm'.g1).1]),aa] at start;have hq:t.q=wQ c.ws (c.nodes.es.length - 1):=by rw[t2.q,wg.q,Rat.add_zero,wQ_get oS]
   refine ⟨t,fin _ _ _ _ t3 start,by rw[an rfl,hq],t3,?_⟩;have:t.q=c.ws.es[c.nodes.es.length - 1].q:=by rw[hq,wQ_get oS]
   have tF:=t2;rw[wg.q,Rat.add_zero] at tF;exact tF.ok ((okw.bd (by omega)).mono (by omega)) (by omega)
end Go.Ab.Pq
namespace Go.Ab
open Go.Proofs Go.Proofs.Tryz
def qK (c:Int) (r:RV):AV:=.agg [.int .i64 c,.bool r.neg,r.num.av,r.den.av]
inductive QR (e:Nat) (sh:Sh) (m:af):AV->List AV->List Nat->Prop
 | none:QR e sh m au [] []
 | some (t:Nat) (es:List AV) (ht:m.get t=some (.tok es.length sh.size)) (hne:es≠[]):QR e sh m (.lst sh false (.tok t e) es) es [t]
theorem qnT {e b:Nat} {sh:Sh} {m:af} {x:AV} {l:List AV} {T:List Nat} (h:QR e sh m x l T) (hb:(l.length+1) * b<=gL) (y:AV):∃ x' m' T',cg none false e sh b m x (.lst sh false .full [y])=some (x',m')/\QR e sh m' x' (l++[y]) T'/\Fr m m' T/\Gr m T T':=by
 cases h with
 | none=>
  refine ⟨.lst sh false (.tok m.length e) [y],m++[some (Ent.tok 1 sh.size)],[m.length],?_,.some _ [y] (by rw[bV rfl];rfl) (by simp),Fr.app m _ _,fun k hk=>?_⟩
  ·have h2:b<=gL:=by simpa using hb
   simp[cg,h2,aA]
  ·obtain rfl:k=m.length:=by simpa using hk
   exact .inr (aR _)
 | some t es ht _=>
  have gF:=bJ ht
  refine ⟨.lst sh false (.tok t e) (l++[y]),m.set t (some (Ent.tok (l.length+1) sh.size)),[t],?_,?_,(Fr.refl m [t]).set _ (.inl (by simp)),Gr.refl _ _⟩
  ·simp[cg,ht,hb]
  ·refine .some t (l++[y]) ?_ (by simp);rw[dM rfl gF,aI];rfl
theorem Xv {o:Own} (h:o.fr=o):∀ a b,o≠.tok a b:=fun a b e=>by subst e;cases h
theorem Ji {x:NV} (h:x.fr=x):qi x.av=x.av:=by
 have h2:x.o.fr=x.o:=by have:=dc NV.o h;exact this
 unfold NV.av
 cases ho:x.o with
 | tok a b=>exact absurd ho (Xv h2 a b)
 | no=>rfl
 | full=>rfl
theorem Bt {x:NV} (h:x.fr=x):pl x.av=true:=by
 have h2:x.o.fr=x.o:=by have:=dc NV.o h;exact this
 unfold NV.av
 cases ho:x.o with
 | tok a b=>exact absurd ho (Xv h2 a b)
 | no=>rfl
 | full=>rfl
theorem qoO {c:Int} {r:RV} (h:r.fr=r):lO (qK c r)=qK c r:=by
 have h1:r.num.fr=r.num:=dc RV.num h;have h2:r.den.fr=r.den:=dc RV.den h;unfold qK lO;simp only[fV,qT,Ji h1,Ji h2]
 rfl
theorem qjt {c:Int} {r:RV} (h:r.fr=r):fh (some 4) [qK c r]=some (.lst (some 4) false .full [qK c r]):=by
 have h1:r.num.fr=r.num:=dc RV.num h;have h2:r.den.fr=r.den:=dc RV.den h;have hs:cZ (some 4) (qK c r)=true:=rfl
 have hp:pl (qK c r)=true:=by
  show (pl (.int .i64 c) && (pl (.bool r.neg) && (pl r.num.av && (pl r.den.av && true))))=true;rw[Bt h1,Bt h2];rfl
 unfold fh;simp only[nX,List.all_nil,fV,qT,qoO h,hs,hp,pg,Bool.and_true,bq]
theorem qjm (c:Int) (r:RV):fR (.agg [.int .i64 0,.bool false,au,au]) [(0,none,.int .i64 c),(1,some 3,r.av)]=some (qK c r):=rfl
section
variable {s:Nat} {F:List Nat} {zs:Bool} {os:Own} {most:Int} {l:List ND} {ar:List Int}
theorem He {M0:af} {pe B:Nat} {En:List (Int×RV)} {rs:List Int} (nB:∀ c∈rs,((lk En c).getD zR).fr=(lk En c).getD zR) (yL:M0.get pe=some (.mp (.int .i64) (dm En))) {y:AV} (hy:GX B M0 y rs) (hb:∀ c∈rs,-1000000000000<=c/\c<=1000000000000) (hl:rs.length<=100000) (K:KT):∀ (Q P:List Int) (m:af) (x:AV) (T:List Nat),rs=P++Q->Fr M0 m []->QR 46 (some 4) m x (P.map fun c=>qK c ((lk En c).getD zR)) T->(∀ k∈T,M0.length<=k) ->
  ∃ (m':af) (x':AV) (T':List Nat),Cf (.mref pe) x y (.int .i64 rs.length) (.int .i64 P.length) m K=K (.exit 4) (KJ x' m')/\Fr M0 m' []/\QR 46 (some 4) m' x' (rs.map fun c=>qK c ((lk En c).getD zR)) T'/\∀ k∈T',M0.length<=k:=by
 intro Q
 induction Q with
 | nil=>
  intro P m x T oP f hx hT;rw[bP] at oP;subst oP;refine ⟨m,x,T,?_,f,hx,hT⟩;rw[QG,bg,aa,az,aj (by omega)]
 | cons c Q ih=>
  intro P m x T oP f hx hT;have pz:P.length < rs.length:=by rw[oP];simp
  rcases hy with ⟨_,h2⟩ | ⟨t,zs',rfl,hg,_⟩
  ·rw[h2] at pz;simp at pz
  ·have hgm:m.get t=some (.obj false ((rs++zs').map (AV.int .i64))):=by rw[f.get t (bJ hg) (by simp)];exact hg
   have A0:m.get pe=some (.mp (.int .i64) (dm En)):=by rw[f.get pe (bJ yL) (by simp)];exact yL
   have ix:aG none (.arr t 0 rs.length none) (.int .i64 P.length)=some (.ptr t P.length):=fU pz
   have ld:ai none m (.ptr t P.length)=some (.int .i64 c):=by
    rw[eY,hgm,j7,aa,uP];have:((rs++zs').map (AV.int .i64))[P.length]?=some (.int .i64 c):=by rw[oP];simp
    exact this
   have lkq:=NW A0 (k:=c) (hb c (by rw[oP];simp));obtain ⟨x2,m2,T2,ea,q2,f2,g2⟩:=qnT (b:=64) hx (by rw[bU];unfold gL;omega) (qK c ((lk En c).getD zR));have jv:=f.len
   obtain ⟨m',x',T',e,k1,k2,k3⟩:=ih (P++[c]) m2 x2 T2 (by rw[oP,ga];rfl) (Fr.trans f f2 fun a ha=>.inr (hT a ha)) (by rw[kX];exact q2) (fun a ha=>by
    rcases g2 a ha with hh | hh
    ·exact hT a hh
    ·omega)
   refine ⟨m',x',T',?_,k1,k2,k3⟩;rw[aI,tj] at e;rw[QG,bg,aa,az,an (by omega),ix,aa,ld,aa,show (AV.agg [.bool false,au,au])=zR.av from rfl,lkq,aa];dsimp only;rw[qjm,aa,qjt (nB c (by rw[oP];simp)),aa,ea,aa,cG (by omega),aa];exact e
theorem Oo {L:OL} (h64:∀ r∈L.es,r.ns.length<=64) (h:Pq.oddsB ⟨zs,os,ar⟩ L=true):OddsOk ar L:=by
 unfold Pq.oddsB at h;rw[bT] at h;have hl:L.es.length=ar.length:=rD h.1;refine ⟨hl,fun u hu=>?_⟩;have hz:=Pq.zip_all (L:=L) (ns:=ar) hl h.2 hu;unfold Pq.rowB at hz;simp only[bT,nt,fQ] at hz;refine ⟨⟨h64 _ (bM hu),fun o ho=>Pq.oddB_iff.1 (hz.1 o ho),hz.2.2⟩,?_⟩;rw[hz.2.1,aT,bA (by omega),fg]
theorem qm8 {L:OL} (h64:∀ r∈L.es,r.ns.length<=64) (h:OddsOk ar L):Pq.oddsB ⟨zs,os,ar⟩ L=true:=by
 unfold Pq.oddsB;rw[bT];refine ⟨eT h.len,fQ.2 fun p hp=>?_⟩;obtain ⟨i,hi,rfl⟩:=pM hp;have hi2:i < L.es.length:=by rw[Cw] at hi;omega
 obtain ⟨⟨r1,r2,r3⟩,hl⟩:=h.row i hi2;rw[List.getElem_zip];unfold Pq.rowB;simp only[bT,nt,fQ];have hi3:i < ar.length:=by rw[<- h.len];exact hi2
 refine ⟨fun o ho=>Pq.oddB_iff.2 (r2 o ho),?_,r3⟩;rw[hl,aT,bA hi3,fg]
theorem Ue (g:GoodL ar l) {sf:Nat->Nat->Nat} {id:Nat} (hid:id < l.length) {R:List Nat} (hp:R.Perm (Vi l id [])) (hs:cQ (ab ar l) R):Flow ar sf l R (upd (fun _=>0) id (PM ar sf ar.length 0)) 0:=by
 obtain ⟨c1,c2,_⟩:=qs g id hid [] ri;have hnd:R.Nodup:=hp.nodup_iff.2 c1.nd
 refine ⟨hnd,fun j hj=>c1.lt j (hp.mem_iff.1 hj),hs,fun j hj ry hv k hk=>hp.mem_iff.2 (c1.kids (hp.mem_iff.1 ry) hj k hk),fun j hj v ry hv=>?_,?_⟩
 ·unfold upd
  split
  ·have fT:v<=ar.length:=by
    unfold ft at hv
    split at hv
    ·have:=(g.var j hj (by omega)).1;omega
    ·omega
   have:=CG (ar:=ar) (s:=sf) v (ar.length - v) 0;rw[show v+(ar.length - v)=ar.length by omega,bf] at this;rw[this];exact Nat.dvd_mul_left _ _
  ·exact Nat.dvd_zero _
 ·have:=IV (h:=fun _=>1) (T:=fun _=>0) (j:=id) (x:=PM ar sf ar.length 0) hnd;rw[bf,an (hp.mem_iff.2 c2),mq] at this;rw[this]
  have z:∀ R:List Nat,jx (fun _=>1) (fun _=>0) R=0:=fun R=>by
   unfold jx
   induction R with
   | nil=>rfl
   | cons a R ih=>rw[fV,mR,ih];rfl
  rw[z];omega
abbrev qA (l:List ND) (id:Nat):List Int:=qL (mM (fun n=>n.leaf) (fun n=>decide (n.var < 0)) l (Vi l id []))
theorem qmp (g:GoodL ar l) {i j:Nat} (hi:i < l.length) (hj:j < l.length) (vi:l[i].var < 0) (vj:l[j].var < 0) (e:l[i].leaf=l[j].leaf):i=j:=by
 refine Bn g.nd hi hj ?_;have h1:=g.ok _ (bM hi);have h2:=g.ok _ (bM hj)
 rcases h1 with ⟨a1,a2,_⟩ | ⟨a1,_⟩
 ·rcases h2 with ⟨b1,b2,_⟩ | ⟨b1,_⟩
  ·cases hx:l[i];cases hy:l[j];rw[hx] at a1 a2 e vi;rw[hy] at b1 b2 e vj
   simp_all
  ·omega
 ·omega
theorem Yx (g:GoodL ar l) {sf:Nat->Nat->Nat} {R:List Nat} (hn:R.Nodup) (hlt:∀ j∈R,j < l.length) (T:Nat->Nat):((run ar sf l R T).map Prod.fst).Nodup:=by
 rw[I8 g R T hlt]
 have key:∀ (A:List Nat),A.Nodup->(∀ j∈A,j < l.length/\(l.getD j ⟨0,[],0⟩).var < 0)->(A.map fun j=>(l.getD j ⟨0,[],0⟩).leaf).Nodup:=by
  intro A
  induction A with
  | nil=>intro _ _;simp
  | cons a A ih=>
   intro hn hA;obtain ⟨h1,h2⟩:=uC.1 hn;rw[fV,uC];refine ⟨fun hm=>?_,ih h2 fun j hj=>hA j (fI _ hj)⟩;obtain ⟨b,hb,e⟩:=iX.1 hm;obtain ⟨la,va⟩:=hA a fJ;obtain ⟨lb,vb⟩:=hA b (fI _ hb);rw[jk la] at va e;rw[jk lb] at vb e;have:=qmp g lb la vb va e;subst this;exact h1 hb
 refine key _ (hn.filter _) fun j hj=>?_;obtain ⟨h1,h2⟩:=rX.1 hj;exact ⟨hlt j h1,by simpa using h2⟩
theorem qoY {D:List (Int×Nat)} {c:Int} {N M:Nat} (hn:(D.map Prod.fst).Nodup) (hm:(c,N)∈D):(D.map fun p=>p.2 * (if p.1=c then M else 0)).sum=N * M:=by
 induction D with
 | nil=>cases hm
 | cons p D ih=>
  rw[fV,uC] at hn;rw[fV,mR]
  rcases gB.1 hm with e | hm
  ·subst e;rw[an rfl]
   have z:(D.map fun p=>p.2 * (if p.1=c then M else 0)).sum=0:=by
    have:∀ q∈D,q.1≠c:=fun q hq e=>hn.1 (by
     show c∈_
     rw[<- e];exact List.mem_map_of_mem hq)
    clear ih hm hn
    induction D with
    | nil=>rfl
    | cons q D ih=>rw[fV,mR,aj (this q fJ),ih fun r hr=>this r (fI _ hr)];simp
   rw[z];rfl
  ·have hne:p.1≠c:=fun e=>hn.1 (by rw[e];exact List.mem_map_of_mem (f:=Prod.fst) hm);rw[aj hne,ih hn.2 hm,n7,bf]
theorem qon (g:GoodL ar l) (h1:∀ x∈ar,1<=x) {sf:Nat->Nat->Nat} (h0:∀ v,v < ar.length->0 < SS ar sf v) (hM:PM ar sf ar.length 0≠0) {id:Nat} (hid:id < l.length) {R:List Nat} (hp:R.Perm (Vi l id [])) (hs:cQ (ab ar l) R) {c:Int} {N:Nat}
  (hm:(c,N)∈run ar sf l R (upd (fun _=>0) id (PM ar sf ar.length 0))):N=Hc ar sf l c id:=by
 have F:=Ue g (sf:=sf) hid hp hs;obtain ⟨_,c2,_⟩:=qs g id hid [] ri
 have nD:=OS g h0 (Mz g h1 c) (q:=fun c'=>if c'=c then PM ar sf ar.length 0 else 0) (fun k hk hv=>JJ c hk hv) R _ 0 F
 rw[qoY (Yx g F.nd F.lt _) hm] at nD;have:=IV (h:=Hc ar sf l c) (T:=fun _=>0) (j:=id) (x:=PM ar sf ar.length 0) F.nd;rw[bf,an (hp.mem_iff.2 c2)] at this
 have z:jx (Hc ar sf l c) (fun _=>0) R=0:=by
  unfold jx;clear this nD hm F hs hp
  induction R with
  | nil=>rfl
  | cons a R ih=>rw[fV,mR,ih];simp
 rw[this,z,bf,cP] at nD;exact (Nat.eq_of_mul_eq_mul_right (Nat.pos_iff_ne_zero.2 hM) nD).symm
theorem qom (g:GoodL ar l) {sf:Nat->Nat->Nat} {id:Nat} (hid:id < l.length) {R:List Nat} (hp:R.Perm (Vi l id [])) (T:Nat->Nat) {c:Int} (hc:c∈qA l id):∃ N,(c,N)∈run ar sf l R T:=by
 obtain ⟨c1,_,_⟩:=qs g id hid [] ri;rw[Zb] at hc;have hk:=I8 (s:=sf) g R T fun j hj=>c1.lt j (hp.mem_iff.1 hj)
 have:c∈(run ar sf l R T).map Prod.fst:=by
  rw[hk];exact ((hp.filter _).map _).mem_iff.2 hc
 obtain ⟨p,yK,e⟩:=iX.1 this;exact ⟨p.2,by rw[<- e];exact yK⟩
theorem qpg (ns:List Int):(qL ns).length<=ns.length:=by
 unfold qL;have:=LK (nP ns);rw[O1] at this;exact this
end
end Go.Ab
namespace Go.Ab
open Go.Proofs Go.Proofs.Tryz
section
variable {s:Nat} {F:List Nat} {zs:Bool} {os:Own} {most:Int} {l:List ND} {ar:List Int}
theorem qn6 {M:Nat} (hM:M < 4294967296 ^ 8) (h0:M≠0) (id:Nat):vV M [((id:Int),jF)] (upd (fun _=>0) id M):=fun j=>by
 unfold upd
 show WV M ((if (id:Int)=(j:Int) then some jF else none).getD zR) _
 by_cases h:j=id
 ·subst h;rw[an rfl,an rfl];exact Zz hM h0
 ·rw[aj (by omega),aj h];exact ZA M
theorem qgR {m0:af} (h0:eQ m0 s F (IA zs os ar) most l) (hm:most≠0) (g:GoodL ar l) (fq:l.length<=100000) (h1:∀ x∈ar,1<=x/\x<=64) (fC:ar.length<=16) {id:Nat} (hid:id < l.length) {L:OL} (h64:∀ r∈L.es,r.ns.length<=64) (oN:L.es.length<=40) (hO:Pq.oddsB ⟨zs,os,ar⟩ L=true) :
  ∃ (m':af) (x:AV) (En:List (Int×RV)) (T:List Nat),AC ae 17 [.ptr s 0,.int .i64 id,L.av] m0=some (.tup [x,.int .i64 0],m')/\Fr m0 m' []/\QR 46 (some 4) m' x ((qA l id).map fun c=>qK c ((lk En c).getD zR)) T/\(∀ k∈T,m0.length<=k) /\
   ∀ c∈qA l id,WV (PM ar (bz L) ar.length 0) ((lk En c).getD zR) (Hc ar (bz L) l c id):=by
 have be:=Oo h64 hO;obtain ⟨tE,oO⟩:=GM be.all fC;have f1:Fr m0 (m0++[some (Ent.obj true [.ptr s 0])]) []:=Fr.app m0 _ _;have sj:=h0.app f1;obtain ⟨m2,y,e41,f2,tR⟩:=ZZ sj hm g fq hid;have f12:Fr m0 m2 []:=Fr.trans f1 f2 fun _ h=>by cases h
 have lm2:=f12.len;have lm1:=f2.len;simp only[aI,aJ,aM] at lm1;have h2:=h0.app f12;have hb2:m2.get m0.length=some (.obj true [.ptr s 0]):=by rw[f2.get _ (by simp) (by simp),bV rfl]
 have lb:=oV hb2;have l0:ai none (m0++[some (Ent.obj true [.ptr s 0])]) (.ptr m0.length 0)=some (.ptr s 0):=oV (bV rfl)
 have la:ai none m2 (.ptr s (0+0))=some (IA zs os ar):=by
  obtain ⟨p,na,TT,st,_⟩:=h2;rw[eY,st.hs];rfl
 have p63:aD (AP ae) none m2 63 [IA zs os ar,L.av]=some (.bool true,m2):=by
  have:=Pq.V63 (Pq.IL.fr ⟨zs,os,ar⟩) (Pq.OL.fr L) h64 oN;rw[fP (nA zs os ar) (Pq.fz_ol L)];have e:AP ae 63 [IA zs os.fr ar,(Pq.OL.fr L).av]=some (.bool (Pq.oddsB ⟨zs,os,ar⟩ L)):=this;rw[e,hO];rfl
 have p64:∀ m,aD (AP ae) none m 64 []=some (jF.av,m):=fun m=>by rw[Ep,Lk];rfl
 have up:kO (.int .i64) (m2++[some (.mp (.int .i64) [])]) (.mref m2.length) (.int .i64 (id:Int)) jF.av=some (m2++[some (.mp (.int .i64) (dm [((id:Int),jF)]))]):=by
  have e0:kO (.int .i64) (m2++[some (.mp (.int .i64) [])]) (.mref m2.length) (.int .i64 (id:Int)) jF.av=_:=Pk (m:=m2++[some (.mp (.int .i64) (dm []))]) (p:=m2.length) (E:=[]) (k:=(id:Int)) (bV rfl) (by omega) (by simp) jF;rw[e0,qJ _ _ _ rfl];rfl
 have f3:Fr m0 (m2++[some (.mp (.int .i64) (dm [((id:Int),jF)]))]) []:=f12.snoc _;have MB:af.get (m2++[some (.mp (.int .i64) (dm [((id:Int),jF)]))]) m0.length=some (.obj true [.ptr s 0]):=by rw[cn (by omega)];exact hb2
 have gd3:af.get (m2++[some (.mp (.int .i64) (dm [((id:Int),jF)]))]) m2.length=some (.mp (.int .i64) (dm [((id:Int),jF)])):=bV rfl;have gx3:∀ x,x < m2.length->af.get (m2++[some (.mp (.int .i64) (dm [((id:Int),jF)]))]) x=m2.get x:=fun x hx=>cn hx;have l3:(m2++[some (Ent.mp (.int .i64) (dm [((id:Int),jF)]))]).length=m2.length+1:=by simp
 generalize hm3:m2++[some (Ent.mp (.int .i64) (dm [((id:Int),jF)]))]=m3 at up f3 MB gd3 gx3 l3;have lb3:=oV MB;have h3:=h0.app f3;obtain ⟨m5,x5,T5,e65,U2,f5,hT5⟩:=JA h3 g fq hid;obtain ⟨cl1,_,_⟩:=qs g id hid [] ri;have fT:=sU _ _ cl1.nd cl1.lt;have f05:Fr m0 m5 []:=Fr.trans f3 f5 fun _ h=>by cases h
 have l5:=f5.len
 obtain ⟨t,rfl,ht,htn⟩:∃ t,x5=.arr t 0 (Vi l id []).length none/\m5.get t=some (.obj false (ds (Vi l id [])))/\m3.length<=t:=by
  generalize hV:Vi l id []=ids at U2
  cases U2 with
  | none=>
   have:id∈Vi l id []:=by rw[tt g hid,aj (by simp)];simp
   rw[hV] at this;cases this
  | some t ids ht hne=>exact ⟨t,rfl,ht,hT5 t (by simp)⟩
 have gF:=bJ ht;have h5:=h0.app f05;have Mt:∀ a∈F,a < m0.length:=h0.lt;have UJ:m5.get m0.length=some (.obj true [.ptr s 0]):=by rw[f5.get _ (by omega) (by simp)];exact MB
 have HR:=qjM (nm:=t) h5 (fun ha=>by have:=Mt t ha;omega) (pb:=m0.length) UJ (by omega) fC g;obtain ⟨m6,ids,e66,sd,lK,VA⟩:=ZU (L:=(Vi l id []).length) (by omega) HR (l:=Vi l id []) (m:=m5) ⟨Fr.refl _ _,ht,rfl,cl1.lt⟩;have f56:=sd.fr;have l6:=f56.len;have hlen:ids.length=(Vi l id []).length:=lK.length_eq;have f06:Fr m0 m6 []:=Fr.trans f05 f56 fun a ha=>.inr (by simp at ha;omega);have f7:Fr m6 (m6++[some (Ent.mp (.int .i64) [])]) []:=Fr.app m6 _ _;have l7:(m6++[some (Ent.mp (.int .i64) [])]).length=m6.length+1:=by simp
 have f07:Fr m0 (m6++[some (Ent.mp (.int .i64) [])]) []:=f06.snoc _;have h7:=h0.app f07;have g67:∀ x,x < m6.length->af.get (m6++[some (Ent.mp (.int .i64) [])]) x=m6.get x:=fun x hx=>cn hx
 have gpd:af.get (m6++[some (Ent.mp (.int .i64) [])]) m2.length=some (.mp (.int .i64) (dm [((id:Int),jF)])):=by
  rw[g67 _ (by omega),f56.get _ (by omega) (by simp;omega),f5.get _ (by omega) (by simp)];exact gd3
 have gpe:af.get (m6++[some (Ent.mp (.int .i64) [])]) m6.length=some (.mp (.int .i64) (dm [])):=bV rfl
 have gpb:af.get (m6++[some (Ent.mp (.int .i64) [])]) m0.length=some (.obj true [.ptr s 0]):=by
  rw[g67 _ (by omega),f56.get _ (by omega) (by simp;omega)];exact UJ
 have gnm:af.get (m6++[some (Ent.mp (.int .i64) [])]) t=some (.obj false (ds ids)):=by rw[g67 _ (by omega)];exact sd.hd
 have fl:=Ue g (sf:=bz L) hid lK VA;have hrn:=Yx g (sf:=bz L) fl.nd fl.lt (upd (fun _=>0) id (PM ar (bz L) ar.length 0));obtain ⟨m8,En,e11,f8,gpe8,UU⟩:=qgW be g h1 fC fq h7 (pb:=m0.length) (pd:=m2.length) (pe:=m6.length) (nm:=t) (fun ha=>by have:=Mt _ ha;omega) (fun ha=>by have:=Mt _ ha;omega) (by omega) gpb (by omega) (by omega) gnm (by omega) (by omega) (by omega) y (Fm (aF ae.P f17.results.toList)) ids [] (m6++[some (Ent.mp (.int .i64) [])]) [((id:Int),jF)] [] (upd (fun _=>0) id (PM ar (bz L) ar.length 0)) 0 [] rfl fl (Fr.refl _ _) gpd gpe (qn6 oO tE id) (fun p hp=>by cases hp) (by simpa using hrn) (by simp;omega) (by simp;omega);rw[bE] at UU;have l8:=f8.len
 have qlI:(qA l id).length<=100000:=by
  have:=qpg (mM (fun n=>n.leaf) (fun n=>decide (n.var < 0)) l (Vi l id []));unfold mM at this;rw[bU] at this;have h2:=List.length_filter_le (fun i=>(fun n:ND=>decide (n.var < 0)) (l.getD i ⟨0,[],0⟩)) (Vi l id []);unfold qA mM;omega
 have qlH:GX (m0.length+1) m8 y (qA l id):=by
  rcases tR with hh | ⟨t',z',hx,hg,hB⟩
  ·exact .inl hh
  ·have h2:=bJ hg;have hB':m0.length+1<=t':=by simpa using hB
   refine .inr ⟨t',z',hx,?_,hB'⟩;rw[f8.get _ (by omega) (by simp;omega),g67 _ (by omega),f56.get _ (by omega) (by simp;omega),f5.get _ (by omega) (by simp),gx3 _ h2];exact hg
 have Nw:∀ c∈qA l id,WV (PM ar (bz L) ar.length 0) ((lk En c).getD zR) (Hc ar (bz L) l c id):=fun c hc=>by
  obtain ⟨N,hN⟩:=qom g (sf:=bz L) hid lK (upd (fun _=>0) id (PM ar (bz L) ar.length 0)) hc;obtain ⟨r,hr,wr⟩:=UU _ hN;have hv:=qon g (fun x hx=>(h1 x hx).1) (fun v hv=>(be.all v hv).1) tE hid lK VA hN;dsimp only at hr wr;rw[hr,fg,<- hv];exact wr
 have hcb:∀ c∈qA l id,-1000000000000<=c/\c<=1000000000000:=fun c hc=>by
  rw[Zb] at hc;obtain ⟨j,hj,rfl⟩:=iX.1 hc;have lD:=cl1.lt j (rX.1 hj).1;dsimp only;rw[jk lD]
  rcases g.ok _ (bM lD) with ⟨_,_,h3⟩ | ⟨_,h3,_⟩<;>omega
 obtain ⟨m9,x9,T9,e28,f9,q9,hT9⟩:=He (M0:=m8) (pe:=m6.length) (fun c hc=>(Nw c hc).fr) gpe8 qlH hcb qlI (Fo (aF ae.P f17.results.toList)) (qA l id) [] m8 au [] rfl (Fr.refl _ _) .none (by simp)
 have f08:Fr m0 m8 []:=Fr.trans f07 f8 fun a ha=>.inr (by
  simp only[gB,Cy,or_false] at ha
  rcases ha with rfl | rfl<;>omega)
 refine ⟨m9,x9,En,T9,?_,Fr.trans f08 f9 (fun _ h=>by cases h),q9,fun k hk=>by have:=hT9 k hk;omega,Nw⟩
 ·rw[T17,pS,aa,l0,aa,e41,aa,rj,aa,rl,aa,iY,aa,az,aj (by omega),lb,aa,oY,aa,gg,aa,la,aa,p63,aa,qM,aa,jN,ig];rw[show (aA none m2 (Ent.mp (.int .i64) [])).2=m2++[some (.mp (.int .i64) [])] from rfl,p64,aa];dsimp only;rw[show (aA none m2 Ent.resv).1=m2.length from rfl,up,aa,lb3,aa,e65,aa];dsimp only;rw[e66,aa];dsimp only;rw[show aK false (.arr t 0 (Vi l id []).length none)=some (.int .i64 (Vi l id []).length) from rfl,aa,<- hlen];have e11:zQ L.av (.ptr m0.length 0) y (.mref m2.length) (.mref (aA none m6 Ent.resv).1) (.arr t 0 ids.length none) (.int .i64 ids.length) (.int .i64 0) (aA none m6 (Ent.mp (.int .i64) [])).2 (Fm (aF ae.P f17.results.toList))=_:=e11;rw[e11,qcu]
  have hly:aK false y=some (.int .i64 (qA l id).length):=by
   rcases tR with ⟨h1,h2⟩ | ⟨t',z',h1,_⟩
   ·rw[h1];have:(qA l id).length=0:=by unfold qA;rw[h2];rfl
    rw[this];rfl
   ·rw[h1];rfl
  rw[hly,aa];have e28:Cf (.mref m6.length) au y (.int .i64 (qA l id).length) (.int .i64 0) m8 (Fo (aF ae.P f17.results.toList))=_:=e28;rw[e28,qcA]
end
end Go.Ab
namespace Go.Ab
open Go.Proofs Go.Proofs.Tryz
def El (os:List Int) (n:Int):Bool:=os.isEmpty || decide (n > os.getLastD 0)
section
variable {z zo:Bool} {o oo:Own} {t:List Int}
end
section
variable {ar:List Int} {s:Nat->Nat->Nat}
end
section
variable {ar:List Int} {L:OL}
end
end Go.Ab
namespace Go.Ab
open Go.Proofs Go.Proofs.Tryz
end Go.Ab
namespace Go.Ab
open Go.Proofs Go.Proofs.Tryz
theorem Y3 {F G:Nat->Nat}:∀ {n:Nat},(∀ k,k < n->F k<=G k)->jJ n F<=jJ n G
 | 0,_=>aR _
 | n+1,h=>by
  rw[rF,rF];exact Nat.add_le_add (Y3 fun k hk=>h k (by omega)) (h n (by omega))
theorem qoW {F:Nat->Nat} {i n:Nat} (h:i<=n):jJ i F<=jJ n F:=by
 obtain ⟨d,rfl⟩:=Nat.exists_eq_add_of_le h;rw[qoU];omega
section
variable {ar t:List Int} {L:OL}
structure Alls (ar:List Int) (css:List (List Int)):Prop where
 len:css.length=b9 ar
 row:∀ k (h:k < css.length),Asn ar k css[k]
end
def rE (r:List Int):IL:=⟨false,.no,r⟩
end Go.Ab
namespace Go.Ab
open Go.Proofs Go.Proofs.Tryz
theorem qjr {x:AV} {es:List Int} {m:af} {T:List Nat} (h:GR 3 m x (es.map (AV.int .i64)) T) (hne:es≠[]):fh none [x]=some (.lst none false .full [(rE es).av]):=by
 generalize he:es.map (AV.int .i64)=bs at h
 cases h with
 | none=>exact absurd (xK.1 he) hne
 | some t bs' ht H6=>
  subst he;have e:lO (.lst none false (.tok t 3) (es.map (AV.int .i64)))=(rE es).av:=rfl;unfold fh;simp only[nX,List.all_nil,fV,qT,e]
  rfl
structure LawOdds (ar:List Int) (L:OL):Prop where
 len:L.es.length=ar.length
 row:∀ (u:Nat) (h:u < L.es.length),(L.es[u].ns.length:Int)=ar.getD u 0
 fr:L.fr=L
section
variable {ar t:List Int} {s:Nat->Nat->Nat}
end
def RD (x:AV) (D:List (Int×RV)):Prop:=(x=au/\D=[])\/∃ o,x=.lst (some 4) false o (D.map fun p=>qK p.1 p.2)
theorem RD.len {x:AV} {D:List (Int×RV)} (h:RD x D):aK false x=some (.int .i64 D.length):=by
 rcases h with ⟨rfl,rfl⟩ | ⟨o,rfl⟩
 ·rfl
 ·rw[oW,bU]
end Go.Ab
namespace Go.Ab
noncomputable section
open Go.Proofs.Tryz
def KW (x3:AV) (m:af):St:=⟨(aO (aH (x3::bD (aY (aH []))))),m⟩
def Cm (x3:AV) (m:af) (K:KT):OM:=b8 45 (nq (c2 (c2 (aC f45)))) 4 (aO (aH (x3::bD (aY (aH []))))) m K
abbrev qdA (K:KT):KT:=bF 45 (bo (aC f45)) K
abbrev qdB (K:KT):KT:=bu 0 (qdA K)
abbrev Fs (K:KT):KT:=(qdB K)
theorem T45 (a0:AV) (m:af):AC ae 45 [a0] m=(fh none []).bind fun v1=>(aK false a0).bind fun v2=>(sT false v2 (.int .i64 17)).bind fun v3=>(kU none a0 none (some v3) none).bind fun v4=>(cg none false 3 none 8 m v1 v4).bind fun r5=>(aD (AP ae) none r5.2 11 [r5.1]).bind fun r6=>(ag .other .neq r6.1 (.int .i64 0)).bind fun v7=>aw v7 (some (r5.1,r6.2)) (Cm r5.1 r6.2 (Fs (aF ae.P f45.results.toList))):=
(bh ae 45 [a0] m (fn:=f45) (c:=aC f45) qiB rfl).trans (by kernel_rfl)
theorem QU (x3:AV) (m:af) (K:KT):Cm x3 m K=(aK false x3).bind fun v1=>(ag .other .gtr v1 (.int .i64 0)).bind fun v2=>aw v2 ((aD (AP ae) none m 12 [x3,(.int .i64 100)]).bind fun r3=>(ag .other .eql r3.1 (.int .i64 0)).bind fun v4=>aw v4 ((aK false x3).bind fun v5=>(ag .other .sub v5 (.int .i64 1)).bind fun v6=>(kU none x3 none (some v6) none).bind fun v7=>Cm v7 r3.2 K) (K (.exit 0) (KW x3 r3.2))) (K (.exit 0) (KW x3 m)):=
(b7 (bX _) _ _ _).trans (by kernel_rfl)
theorem P5 (x3:AV) (m:af):Fs (aF ae.P f45.results.toList) (.exit 0) (KW x3 m)=some (x3,m):=by kernel_rfl
theorem T46 (m:af):AC ae 46 [] m=(fR (.agg [(.int .i64 0),au,(.int .i64 0)]) [(0,none,(.int .i64 (-1))),(2,none,(.int .i64 4))]).bind fun v1=>(fh (some 3) [v1]).bind fun v2=>(aD (AP ae) none m 23 []).bind fun r3=>(fh (some 3) [r3.1]).bind fun v4=>(fR (.agg [au,au,au,(.int .i64 0)]) [(1,none,v2),(2,none,v4),(3,none,(.int .i64 4))]).bind fun v5=>(aN (some 4) (aA none r3.2 (.obj true [au,au,au,(.int .i64 0)])).2 (.ptr (aA none r3.2 .resv).1 0) v5).bind fun m6=>(ai (some 4) m6 (.ptr (aA none r3.2 .resv).1 0)).bind fun v7=>(aD (AP ae) none m6 53 [v7]).bind fun r8=>(ba r8.1 0).bind fun v9=>(ba r8.1 1).bind fun v10=>(ba r8.1 2).bind fun v11=>(aN (some 3) (aA none r8.2 (.obj true [(.bool false),au,au])).2 (.ptr (aA none r8.2 .resv).1 0) v9).bind fun m12=>(ag .other .eql v11 (.int .i64 0)).bind fun bp=>aw bp ((ai (some 3) m12 (.ptr (aA none r8.2 .resv).1 0)).bind fun bj=>(aD (AP ae) (some m12.length) m12 23 []).bind fun nL=>(aD (AP ae) (some m12.length) nL.2 21 [bj,nL.1]).bind fun gV=>some (gV.1,gV.2)) (some ((.bool false),m12)):=
(bh ae 46 [] m (fn:=f46) (c:=aC f46) qiC rfl).trans (by kernel_rfl)
def Rs (x5:AV) (m:af):St:=⟨(aP (aH (x5::bD (aY (aO []))))),m⟩
def zU (x0 x1 x5 x6:AV) (m:af) (K:KT):OM:=b8 47 (ck (c2 (c2 (aC f47)))) 3 (x0::x1::aO (aH (x5::x6::bD (aY (aH []))))) m K
abbrev qdC (K:KT):KT:=bF 47 (c2 (c2 (c2 (aC f47)))) K
abbrev qdD (K:KT):KT:=bu 0 (qdC K)
abbrev Ft (K:KT):KT:=(qdD K)
theorem T47 (a0 a1:AV) (m:af):AC ae 47 [a0,a1] m=zU a0 a1 au (.int .i64 0) m (Ft (aF ae.P f47.results.toList)):=
(bh ae 47 [a0,a1] m (fn:=f47) (c:=aC f47) qiD rfl).trans (by kernel_rfl)
theorem QV (x0 x1 x5 x6:AV) (m:af) (K:KT):zU x0 x1 x5 x6 m K=(aD (AP ae) none m 12 [x0,(.int .i64 100)]).bind fun r1=>(ag .other .lss x6 r1.1).bind fun v2=>aw v2 ((aK false x1).bind fun v3=>(ag .other .gtr v3 (.int .i64 0)).bind fun v4=>aw v4 ((aK false x1).bind fun v5=>(ag .other .rem x6 v5).bind fun v6=>(aG none x1 v6).bind fun v7=>(ai none r1.2 v7).bind fun v8=>(ag .other .rem v8 (.int .i64 4)).bind fun v9=>(ag .other .add v9 (.int .i64 4)).bind fun v10=>(ag .other .rem v10 (.int .i64 4)).bind fun v11=>(fh none [v11]).bind fun v12=>(cg none false 3 none 8 r1.2 x5 v12).bind fun fW=>(ag .other .add x6 (.int .i64 1)).bind fun bj=>zU x0 x1 fW.1 bj fW.2 K) ((ag .other .rem (.int .i64 0) (.int .i64 4)).bind fun bn=>(ag .other .add bn (.int .i64 4)).bind fun bO=>(ag .other .rem bO (.int .i64 4)).bind fun bB=>(fh none [bB]).bind fun fk=>(cg none false 3 none 8 r1.2 x5 fk).bind fun oZ=>(ag .other .add x6 (.int .i64 1)).bind fun v20=>zU x0 x1 oZ.1 v20 oZ.2 K)) (K (.exit 0) (Rs x5 r1.2)):=
(b7 (bX _) _ _ _).trans (by kernel_rfl)
theorem qdE (x5:AV) (m:af):Ft (aF ae.P f47.results.toList) (.exit 0) (Rs x5 m)=some (x5,m):=by kernel_rfl
def KX (x5:AV) (m:af):St:=⟨(aP (aH (x5::bI (aP (aO (aH [])))))),m⟩
def Cn (x1 x5 x6 aL aV aX:AV) (m:af) (K:KT):OM:=b8 48 (ck (c2 (c2 (c2 (aC f48))))) 4 (aH (x1::aO (aH (x5::x6::aP (aH (aL::aV::aX::bD (aY (aP (aO []))))))))) m K
def GK (x1 x5 x6 x9 aL aV aX:AV) (m:af):St:=⟨(aH (x1::aO (aH (x5::x6::aO (x9::aO (aL::aV::aX::bD (aY (aP (aO []))))))))),m⟩
def xH (x1 x5 x6 x8 x9 aE aL aV aX:AV) (m:af) (K:KT):OM:=b8 48 (ck (lS (lS (pU (c2 (aC f48)))))) 8 (aH (x1::aO (aH (x5::x6::aH (x8::x9::aE::aH (aL::aV::aX::bD (aY (aP (aO []))))))))) m K
abbrev qdF (K:KT):KT:=bF 48 (bo (aC f48)) K
abbrev qdG (K:KT):KT:=bu 0 (qdF K)
abbrev Fu (K:KT):KT:=(qdG K)
abbrev qdI (K:KT):KT:=bF 48 (lT (nr (c2 (c2 (aC f48))))) (oH 48 (ck (c2 (c2 (c2 (aC f48))))) 4 K)
abbrev qdJ (K:KT):KT:=bu 1 (qdI K)
abbrev qdK (K:KT):KT:=bF 48 (lT (Av (nr (c2 (c2 (aC f48)))))) (qdJ K)
abbrev qdL (K:KT):KT:=bu 2 (qdK K)
abbrev Fv (K:KT):KT:=(qdL K)
theorem T48 (a0 a1:AV) (m:af):AC ae 48 [a0,a1] m=(aK false a0).bind fun v1=>Cn a1 au (.int .i64 0) a0 v1 (.int .i64 0) m (Fu (aF ae.P f48.results.toList)):=
(bh ae 48 [a0,a1] m (fn:=f48) (c:=aC f48) qiE rfl).trans (by kernel_rfl)
theorem QW (x1 x5 x6 aL aV aX:AV) (m:af) (K:KT):Cn x1 x5 x6 aL aV aX m K=(ag .other .lss aX aV).bind fun v1=>aw v1 ((aG none aL aX).bind fun v2=>(ai none m v2).bind fun v3=>xH x1 x5 x6 v3 au (.int .i64 0) aL aV aX m (Fv K)) (K (.exit 0) (KX x5 m)):=
(b7 (bX _) _ _ _).trans (by kernel_rfl)
theorem Kk (x1 x5 x6 x8 x9 aE aL aV aX:AV) (m:af) (K:KT):xH x1 x5 x6 x8 x9 aE aL aV aX m K=(ag .other .lss aE x8).bind fun v1=>aw v1 ((aK false x1).bind fun v2=>(ag .other .gtr v2 (.int .i64 0)).bind fun v3=>aw v3 ((aK false x1).bind fun v4=>(ag .other .rem x6 v4).bind fun v5=>(aG none x1 v5).bind fun v6=>(ai none m v6).bind fun v7=>(ag .other .add x6 (.int .i64 1)).bind fun v8=>(fh none [v7]).bind fun v9=>(cg none false 3 none 8 m x9 v9).bind fun iE=>(ag .other .add aE (.int .i64 1)).bind fun v11=>xH x1 x5 v8 x8 iE.1 v11 aL aV aX iE.2 K) ((fh none [(.int .i64 1)]).bind fun v12=>(cg none false 3 none 8 m x9 v12).bind fun fW=>(ag .other .add aE (.int .i64 1)).bind fun bj=>xH x1 x5 x6 x8 fW.1 bj aL aV aX fW.2 K)) (K (.exit 2) (GK x1 x5 x6 x9 aL aV aX m)):=
(b7 (bX _) _ _ _).trans (by kernel_rfl)
theorem qdH (x5:AV) (m:af):Fu (aF ae.P f48.results.toList) (.exit 0) (KX x5 m)=some (x5,m):=by kernel_rfl
theorem qdM (x1 x5 x6 x9 aL aV aX:AV) (m:af) (K:KT):Fv K (.exit 2) (GK x1 x5 x6 x9 aL aV aX m)=(fh none [x9]).bind fun v1=>(cg none false 22 none 24 m x5 v1).bind fun r2=>(ag .other .add aX (.int .i64 1)).bind fun v3=>Cn x1 r2.1 x6 aL aV v3 r2.2 K:=by kernel_rfl
def KY (x7 x9:AV) (m:af):St:=⟨(aP (aO (aH (x7::aH (x9::bI (aO [])))))),m⟩
def Co (x7 x9 bY cr iG:AV) (m:af) (K:KT):OM:=b8 49 (ck (bo (aC f49))) 6 (aP (aO (aH (x7::aH (x9::aY (aP (aH (bY::cr::iG::bD (aO []))))))))) m K
abbrev qdN (K:KT):KT:=bF 49 (bo (c2 (aC f49))) K
abbrev qdO (K:KT):KT:=bu 0 (qdN K)
abbrev Fw (K:KT):KT:=(qdO K)
theorem T49 (a0 a1:AV) (m:af):AC ae 49 [a0,a1] m=(AC ae 32 [a0] m).bind fun r1=>(ba r1.1 0).bind fun v2=>(ba r1.1 1).bind fun v3=>(ag .other .neq v3 (.int .i64 0)).bind fun v4=>aw v4 (some ((.tup [.nilp,(.int .i64 0),(.bool false)]),r1.2)) ((aD (AP ae) none r1.2 31 [a0,a1]).bind fun r5=>(aK false r5.1).bind fun v6=>Co v2 au r5.1 v6 (.int .i64 0) r5.2 (Fw (aF ae.P f49.results.toList))):=
(bh ae 49 [a0,a1] m (fn:=f49) (c:=aC f49) qiF rfl).trans (by kernel_rfl)
theorem QX (x7 x9 bY cr iG:AV) (m:af) (K:KT):Co x7 x9 bY cr iG m K=(ag .other .lss iG cr).bind fun v1=>aw v1 ((aG (some 3) bY iG).bind fun v2=>(ai (some 3) m v2).bind fun v3=>(aN (some 3) (aA none m (.obj true [(.int .i64 0),au,(.int .i64 0)])).2 (.ptr (aA none m .resv).1 0) v3).bind fun m4=>(ai (some 3) m4 (.ptr (aA none m .resv).1 0)).bind fun v5=>(fh (some 3) [v5]).bind fun v6=>(cg none false 74 (some 3) 40 m4 x9 v6).bind fun r7=>(ag .other .add iG (.int .i64 1)).bind fun v8=>Co x7 r7.1 bY cr v8 r7.2 K) (K (.exit 0) (KY x7 x9 m)):=
(b7 (bX _) _ _ _).trans (by kernel_rfl)
theorem qdP (x7 x9:AV) (m:af):Fw (aF ae.P f49.results.toList) (.exit 0) (KY x7 x9 m)=(AC ae 44 [x7,x9] m).bind fun r1=>(ba r1.1 0).bind fun v2=>(ba r1.1 1).bind fun v3=>(ag .other .eql v3 (.int .i64 0)).bind fun v4=>some ((.tup [x7,v2,v4]),r1.2):=by kernel_rfl
def KZ (x8 aL:AV) (m:af):St:=⟨(aY (x8::aO (aH (aL::bI (bD (aP [])))))),m⟩
def Cp (x3 x8 aL E5 E6 BR:AV) (m:af) (K:KT):OM:=b8 50 (ck (bo (c2 (aC f50)))) 9 (aO (aH (x3::aP (x8::aO (aH (aL::bI (E5::E6::BR::bD (aH [])))))))) m K
abbrev qdQ (K:KT):KT:=bF 50 (bo (c2 (c2 (aC f50)))) K
abbrev qdR (K:KT):KT:=bu 0 (qdQ K)
abbrev Fx (K:KT):KT:=(qdR K)
theorem T50 (a0 a1 a2 a3:AV) (m:af):AC ae 50 [a0,a1,a2,a3] m=(AC ae 17 [a0,a1,a2] (aA none m (.obj true [au,au,au,(.int .i64 0)])).2).bind fun r1=>(ba r1.1 0).bind fun v2=>(ba r1.1 1).bind fun v3=>(ag .other .neq v3 (.int .i64 0)).bind fun v4=>aw v4 ((fR (.agg [au,au,au,(.int .i64 0)]) []).bind fun v5=>(aN (some 4) r1.2 (.ptr (aA none m .resv).1 0) v5).bind fun m6=>(ai (some 4) m6 (.ptr (aA none m .resv).1 0)).bind fun v7=>some ((.tup [v7,v3]),m6)) ((ag .other .lss a3 (.int .i64 0)).bind fun v8=>aw v8 ((fR (.agg [au,au,au,(.int .i64 0)]) []).bind fun v9=>(aN (some 4) r1.2 (.ptr (aA none m .resv).1 0) v9).bind fun m10=>(ai (some 4) m10 (.ptr (aA none m .resv).1 0)).bind fun v11=>some ((.tup [v11,(.int .i64 1)]),m10)) ((ag .other .gtr a3 (.int .i64 2147483647)).bind fun v12=>aw v12 ((fR (.agg [au,au,au,(.int .i64 0)]) []).bind fun bp=>(aN (some 4) r1.2 (.ptr (aA none m .resv).1 0) bp).bind fun m14=>(ai (some 4) m14 (.ptr (aA none m .resv).1 0)).bind fun bn=>some ((.tup [bn,(.int .i64 1)]),m14)) ((aD (AP ae) none r1.2 109 [a2]).bind fun gV=>(fR (.agg [au,au,au,(.int .i64 0)]) [(0,none,gV.1),(3,none,a3)]).bind fun bB=>(aN (some 4) (aA none gV.2 (.obj true [au,au,au,(.int .i64 0)])).2 (.ptr (aA none gV.2 .resv).1 0) bB).bind fun m18=>(AC ae 43 [a0,a1] m18).bind fun oZ=>(ba oZ.1 0).bind fun v20=>(ba oZ.1 1).bind fun v21=>(aS 1 (.ptr (aA none gV.2 .resv).1 0)).bind fun v22=>(aN none oZ.2 v22 v20).bind fun m23=>(aS 1 (.ptr (aA none gV.2 .resv).1 0)).bind fun v24=>(ai none m23 v24).bind fun v25=>(aK false v25).bind fun v26=>Cp a3 (.ptr (aA none m .resv).1 0) (.ptr (aA none gV.2 .resv).1 0) v25 v26 (.int .i64 0) m23 (Fx (aF ae.P f50.results.toList))))):=
(bh ae 50 [a0,a1,a2,a3] m (fn:=f50) (c:=aC f50) qiG rfl).trans (by kernel_rfl)
theorem QY (x3 x8 aL E5 E6 BR:AV) (m:af) (K:KT):Cp x3 x8 aL E5 E6 BR m K=(ag .other .lss BR E6).bind fun v1=>aw v1 ((aG (some 3) E5 BR).bind fun v2=>(ai (some 3) m v2).bind fun v3=>(aN (some 3) (aA none m (.obj true [(.int .i64 0),au,(.int .i64 0)])).2 (.ptr (aA none m .resv).1 0) v3).bind fun m4=>(aS 2 aL).bind fun v5=>(ai none m4 v5).bind fun v6=>(aS 0 aL).bind fun v7=>(ai none m4 v7).bind fun v8=>(ai (some 3) m4 (.ptr (aA none m .resv).1 0)).bind fun v9=>(aS 2 aL).bind fun v10=>(ai none m4 v10).bind fun v11=>(AC ae 110 [v8,v9,x3,v11] m4).bind fun kT=>tZ ((ai none kT.2 v5).bind (fun v=>some (v,kT.2))=some (v6,kT.2)) ((fh (some 3) [kT.1]).bind fun bp=>(cg none true 43 (some 3) 56 kT.2 v6 bp).bind fun jG=>(aS 2 aL).bind fun bn=>(aN none jG.2 bn jG.1).bind fun m16=>(ag .other .add BR (.int .i64 1)).bind fun bB=>Cp x3 x8 aL E5 E6 bB m16 K)) (K (.exit 0) (KZ x8 aL m)):=
(b7 (bX _) _ _ _).trans (by kernel_rfl)
theorem qdS (x8 aL:AV) (m:af):Fx (aF ae.P f50.results.toList) (.exit 0) (KZ x8 aL m)=(ai (some 4) m aL).bind fun v1=>(aN (some 4) m x8 v1).bind fun m2=>(ai (some 4) m2 x8).bind fun v3=>some ((.tup [v3,(.int .i64 0)]),m2):=by kernel_rfl
def Ko (x3:AV) (m:af):St:=⟨(aO (aH (x3::bD (aO (aH []))))),m⟩
def Ca (x3 x9 aE aW:AV) (m:af) (K:KT):OM:=b8 109 (ck (c2 (c2 (aC f109)))) 3 (aO (aH (x3::aP (aH (x9::aE::aW::aY (aO (aH []))))))) m K
abbrev qao (K:KT):KT:=bF 109 (c2 (c2 (c2 (aC f109)))) K
abbrev qap (K:KT):KT:=bu 0 (qao K)
abbrev Fc (K:KT):KT:=(qap K)
theorem qfd (a0:AV) (m:af):AC ae 109 [a0] m=(aK false a0).bind fun v1=>(iV none 22 none au 24 m v1 v1).bind fun r2=>(aK false a0).bind fun v3=>Ca r2.1 a0 v3 (.int .i64 0) r2.2 (Fc (aF ae.P f109.results.toList)):=
(bh ae 109 [a0] m (fn:=f109) (c:=aC f109) qhq rfl).trans (by kernel_rfl)
theorem Qa (x3 x9 aE aW:AV) (m:af) (K:KT):Ca x3 x9 aE aW m K=(ag .other .lss aW aE).bind fun v1=>aw v1 ((aG none x9 aW).bind fun v2=>(ai none m v2).bind fun v3=>(aD (AP ae) none m 88 [v3]).bind fun r4=>(aG none x3 aW).bind fun v5=>(aN none r4.2 v5 r4.1).bind fun m6=>(ag .other .add aW (.int .i64 1)).bind fun v7=>Ca x3 x9 aE v7 m6 K) (K (.exit 0) (Ko x3 m)):=
(b7 (bX _) _ _ _).trans (by kernel_rfl)
theorem qaq (x3:AV) (m:af):Fc (aF ae.P f109.results.toList) (.exit 0) (Ko x3 m)=some (x3,m):=by kernel_rfl
end
end Go.Ab
namespace Go.Ab
open Go.Proofs Go.Proofs.Tryz
def Mn (r:List Int):Prop:=og r=0->oF 100 1 r≠0
theorem SC:∀ (n:Nat) (r:List Int) (o:Own) (m:af),r.length=n->og r=0->∃ o' r' m',Cm (IA false o r) m (Fs (aF ae.P f45.results.toList))=some (IA false o' r',m')/\og r'=0/\oF 100 1 r'≠0
 | 0,r,o,m,hn,hr=>by
  obtain rfl:r=[]:=nY hn;refine ⟨o,[],m,?_,hr,by decide⟩;rw[QU,iI,aa,hJ,aa,az,aj (by simp),P5]
 | n+1,r,o,m,hn,hr=>by
  obtain ⟨h1,h2⟩:=xW hr;rw[QU,iI,aa,hJ,aa,az,an (by omega),Ov _ _ _ h1 h2 100 (by omega),aa,ir,aa,az]
  by_cases hp:oF 100 1 r=0
  ·rw[an hp,aa,oC (by omega) (by omega),aa,O0 _ _ _ _ _ (by omega),aa];refine SC n (r.take (r.length - 1)) .no m (by rw[ji];omega) ?_;unfold og;rw[aj (by rw[ji];omega),an];exact fQ.2 fun a ha=>eT (h2 a (List.take_subset _ _ ha))
  ·rw[aj hp,P5];exact ⟨o,r,m,rfl,hr,hp⟩
theorem qgi (z:Bool) (o:Own) (ns:List Int):∃ o' r,AP ae 45 [IA z o ns]=some (IA false o' r)/\Mn r/\r.length<=17/\(o'=.no\/o'=.full):=by
 have key:∃ o' r m',AC ae 45 [IA z o ns] []=some (IA false o' r,m')/\Mn r/\r.length<=17:=by
  have yD:sT false (.int .i64 ns.length) (.int .i64 17)=some (.int .i64 (min ns.length 17:Nat)):=by
   simp only[sT,bq,jM,lL];congr 2;split<;>omega
  obtain ⟨o1,m1,ha,_,_⟩:=qhf [] z .no (ns.take (min ns.length 17)) (by rw[ji];omega)
  have e0:AC ae 45 [IA z o ns] []=aw (.bool (decide (og (ns.take (min ns.length 17))≠0))) (some (IA false o1 (ns.take (min ns.length 17)),m1)) (Cm (IA false o1 (ns.take (min ns.length 17))) m1 (Fs (aF ae.P f45.results.toList))):=by
   rw[T45,show fh none []=some (.lst none false .full []) from rfl,aa,iI,aa,yD,aa,O0 _ _ _ _ _ (by omega),aa,ha,aa,XF,aa,iY,aa]
  rw[e0,az]
  by_cases hz:og (ns.take (min ns.length 17))≠0
  ·rw[an hz];exact ⟨_,_,_,rfl,fun h=>absurd h hz,by rw[ji];omega⟩
  ·rw[aj hz];obtain ⟨o',r',m',e,h1,h2⟩:=SC _ _ o1 m1 rfl (Decidable.not_not.1 hz);exact ⟨o',r',m',e,fun _=>h2,by have:=(xW h1).1;omega⟩
 obtain ⟨o',r,m',e,h1,h2⟩:=key
 refine ⟨o'.fr,r,?_,h1,h2,?_⟩
 ·unfold AP jB;rw[e,aa,nA false o' r m',aa]
  rfl
 ·cases o'<;>simp[Own.fr]
theorem qkd {r:List Int} (hg:Mn r) (he:og r=0):oF 100 1 r=(b9 r:Nat)/\b9 r<=100:=by
 obtain ⟨_,h2⟩:=xW he;have:=XQ r 1 (fun a ha=>(h2 a ha).1) (by omega) (by omega) (hg he);rw[Int.one_mul] at this;exact ⟨this.1,by omega⟩
theorem I5 (tk:TK) (a:Int):ag tk .rem (.int .i64 a) (.int .i64 4)=some (.int .i64 (a.tmod 4)):=by cases tk<;>rfl
theorem W47 {z zl:Bool} {o ol:Own} {ar l:List Int} (h1:ar.length<=16) (h2:∀ a∈ar,1<=a/\a<=64) {N:Nat} (hN:oF 100 1 ar=N) (AG:N<=100):∀ (j i:Nat) (m:af) (x:AV) (t:List Int) (T:List Nat),i+j=N->GR 3 m x (t.map (AV.int .i64)) T->t.length=i->(∀ y∈t,0<=y/\y<=3) ->
  ∃ (m':af) (x':AV) (t':List Int) (T':List Nat),zU (IA z o ar) (IA zl ol l) x (.int .i64 i) m (Ft (aF ae.P f47.results.toList))=some (x',m')/\GR 3 m' x' (t'.map (AV.int .i64)) T'/\t'.length=N/\∀ y∈t',0<=y/\y<=3:=by
 intro j
 induction j with
 | zero=>
  intro i m x t T hi h ht hy;refine ⟨m,x,t,T,?_,h,by omega,hy⟩;rw[QV,Ov _ _ _ h1 h2 100 (by omega),aa,hN,dp,aa,az,aj (by omega),qdE]
 | succ j ih=>
  intro i m x t T hi h ht hy
  have nx:∀ (y:Int),∃ (m':af) (x':AV) (t':List Int) (T':List Nat),((cg none false 3 none 8 m x (.lst none false .full [.int .i64 ((IntKind.wrap .i64 (y.tmod 4+4)).tmod 4)])).bind fun fW=>zU (IA z o ar) (IA zl ol l) fW.1 (.int .i64 (i+1:Nat)) fW.2 (Ft (aF ae.P f47.results.toList)))=some (x',m')/\GR 3 m' x' (t'.map (AV.int .i64)) T'/\t'.length=N/\∀ y∈t',0<=y/\y<=3:=fun y=>by
   obtain ⟨x1,m1,T1,ea,g1,_,_⟩:=AD (b:=8) h (by rw[bU];omega) (by omega) (.int .i64 ((IntKind.wrap .i64 (y.tmod 4+4)).tmod 4));rw[ea,aa]
   have hb:0<=(IntKind.wrap .i64 (y.tmod 4+4)).tmod 4/\(IntKind.wrap .i64 (y.tmod 4+4)).tmod 4<=3:=by
    have a1:=Int.tmod_lt_of_pos y (show (0:Int) < 4 by omega)
    have a2:-4 < y.tmod 4:=by
     have hd:=Int.tmod_add_mul_tdiv y 4
     rcases Int.le_total 0 y with h0 | h0
     ·have:=Int.tmod_nonneg (a:=y) 4 h0;omega
     ·have e:(-y).tmod 4=-(y.tmod 4):=Int.neg_tmod ..;have:=Int.tmod_lt_of_pos (-y) (show (0:Int) < 4 by omega);omega
    rw[iK (by omega) (by omega)];have b1:=Int.tmod_lt_of_pos (y.tmod 4+4) (show (0:Int) < 4 by omega);have b2:=Int.tmod_nonneg (a:=y.tmod 4+4) 4 (by omega);omega
   have g2:GR 3 m1 x1 ((t++[(IntKind.wrap .i64 (y.tmod 4+4)).tmod 4]).map (AV.int .i64)) T1:=by
    rw[kX];exact g1
   exact ih (i+1) m1 x1 _ T1 (by omega) g2 (by simp[ht]) fun k hk=>by
    rcases im.1 hk with hk | hk
    ·exact hy k hk
    ·obtain rfl:k=_:=by simpa using hk
     exact hb
  rw[QV,Ov _ _ _ h1 h2 100 (by omega),aa,hN,dp,aa,az,an (by omega),iI,aa,hJ,aa,az]
  by_cases hl:(l.length:Int) > 0
  ·rw[an hl,aa,W8 (by omega),aa,j6 (kf _ (by omega)),aa,gz,aa,I5,aa,kQ,aa,I5,aa,rh,aa];simp only[cG (show i+1 < 9223372036854775808 by omega)];exact nx _
  ·rw[aj hl,I5,aa,kQ,aa,I5,aa,rh,aa];simp only[cG (show i+1 < 9223372036854775808 by omega)];exact nx _
theorem V47 (z zl:Bool) (o ol:Own) (ar l:List Int) (h1:ar.length<=16) (h2:∀ a∈ar,1<=a/\a<=64) {N:Nat} (hN:oF 100 1 ar=N) (AG:N<=100):∃ (z':Bool) (o':Own) (t:List Int),AP ae 47 [IA z o ar,IA zl ol l]=some (IA z' o' t)/\(z'=true->t=[])/\t.length=N/\∀ y∈t,0<=y/\y<=3:=by
 obtain ⟨m',x',t,T',e,g,ht,hy⟩:=W47 (z:=z) (zl:=zl) (o:=o) (ol:=ol) (l:=l) h1 h2 hN AG N 0 [] au [] [] (by omega) .none rfl (by simp);obtain ⟨z',o',rfl,hz⟩:=Dr g;refine ⟨z',o'.fr,t,?_,fun h=>xK.1 (hz h),ht,hy⟩;refine iH (m:=m') (v:=IA z' o' t) (l:=[]) ?_ (nA z' o' t m') rfl;rw[T47];exact e
theorem X48 {z zl:Bool} {o ol:Own} {l:List Int} {n:Nat} (hn:n<=64) (x5 aL aV aX:AV) (K:KT):∀ (j i:Nat) (m:af) (x:AV) (es:List Int) (T:List Nat) (at':Nat),i+j=n->at'+64<=100000+i->GR 3 m x (es.map (AV.int .i64)) T->es.length=i ->
  ∃ (m':af) (x':AV) (es':List Int) (T':List Nat) (a':Nat),xH (IA zl ol l) x5 (.int .i64 at') (.int .i64 n) x (.int .i64 i) aL aV aX m K=K (.exit 2) (GK (IA zl ol l) x5 (.int .i64 a') x' aL aV aX m')/\GR 3 m' x' (es'.map (AV.int .i64)) T'/\es'.length=n/\a'<=at'+j/\Fr m m' T/\Gr m T T':=by
 intro j
 induction j with
 | zero=>
  intro i m x es T a hi ha hx he;refine ⟨m,x,es,T,a,?_,hx,by omega,by omega,Fr.refl _ _,Gr.refl _ _⟩;rw[Kk,bg,aa,az,aj (by omega)]
 | succ j ih=>
  intro i m x es T a hi ha hx he
  have go:∀ (v:Int) (a2:Nat),a2<=a+1->∃ (m':af) (x':AV) (es':List Int) (T':List Nat) (a':Nat),((fh none [.int .i64 v]).bind fun v9=>(cg none false 3 none 8 m x v9).bind fun iE=>(ag .other .add (.int .i64 (i:Nat)) (.int .i64 1)).bind fun v11=>xH (IA zl ol l) x5 (.int .i64 a2) (.int .i64 n) iE.1 v11 aL aV aX iE.2 K)=K (.exit 2) (GK (IA zl ol l) x5 (.int .i64 a') x' aL aV aX m')/\GR 3 m' x' (es'.map (AV.int .i64)) T'/\es'.length=n/\a'<=a+(j+1)/\Fr m m' T/\Gr m T T':=by
   intro v a2 Mw;obtain ⟨x2,m2,T2,ea,g2,f2,gg2⟩:=AD (b:=8) hx (by simp;omega) (by omega) (.int .i64 v);obtain ⟨m',x',es',T',a',e,k1,k2,k3,k4,k5⟩:=ih (i+1) m2 x2 (es++[v]) T2 a2 (by omega) (by omega) (by rw[kX];exact g2) (by simp[he]);refine ⟨m',x',es',T',a',?_,k1,k2,by omega,Fr.trans f2 k4 gg2,Gr.trans f2.len gg2 k5⟩;rw[rh,aa,ea,aa,cG (by omega),aa];exact e
  by_cases hl:0 < l.length
  ·have hlt:a % l.length < l.length:=kf _ hl;obtain ⟨m',x',es',T',a',e,k⟩:=go l[a % l.length] (a+1) (aR _);refine ⟨m',x',es',T',a',?_,k⟩;have ia1:ag .other .add (.int .i64 (a:Nat)) (.int .i64 1)=some (.int .i64 (a+1:Nat)):=cG (by omega);rw[Kk,bg,aa,az,an (by omega),iI,aa,hJ,aa,az,an (by omega),aa,W8 (by omega),aa,j6 hlt,aa,gz,aa,ia1,aa];exact e
  ·obtain ⟨m',x',es',T',a',e,k⟩:=go 1 a (by omega);refine ⟨m',x',es',T',a',?_,k⟩;rw[Kk,bg,aa,az,an (by omega),iI,aa,hJ,aa,az,aj (by omega)];exact e
theorem qgU {z zl:Bool} {o ol:Own} {l ar:List Int} (h1:∀ x∈ar,1<=x/\x<=64) (fC:ar.length<=16) (K:KT):∀ (Q P:List Int) (m:af) (x:AV) (rows:List (List Int)) (T:List Nat) (a:Nat),ar=P++Q->a<=64 * P.length->GR 22 m x (rows.map fun r=>(rE r).av) T->rows.map (fun r=>(r.length:Int))=P ->
  ∃ (m':af) (x':AV) (rows':List (List Int)) (T':List Nat),Cn (IA zl ol l) x (.int .i64 a) (IA z o ar) (.int .i64 ar.length) (.int .i64 P.length) m K=K (.exit 0) (KX x' m')/\GR 22 m' x' (rows'.map fun r=>(rE r).av) T'/\rows'.map (fun r=>(r.length:Int))=ar:=by
 intro Q
 induction Q with
 | nil=>
  intro P m x rows T a oP ha hx hr;rw[bP] at oP;subst oP;refine ⟨m,x,rows,T,?_,hx,hr⟩;rw[QW,bg,aa,az,aj (by omega)]
 | cons n Q ih=>
  intro P m x rows T a oP ha hx hr;have pz:P.length < ar.length:=by rw[oP];simp
  have hn:=h1 n (by rw[oP];simp);obtain ⟨k,rfl⟩:=nW (show 0<=n by omega)
  have ix:aG none (IA z o ar) (.int .i64 P.length)=some (.vptr [.int .i64 (k:Nat)]):=by
   rw[j6 pz];congr 3;simp[oP]
  obtain ⟨m1,x1,es,T1,a1,e8,g1,l1,ha1,f1,gr1⟩:=X48 (z:=z) (zl:=zl) (o:=o) (ol:=ol) (l:=l) (n:=k) (by omega) x (IA z o ar) (.int .i64 ar.length) (.int .i64 P.length) (Fv K) k 0 m au [] [] a (by omega) (by omega) .none rfl;have hx1:GR 22 m1 x (rows.map fun r=>(rE r).av) T:=Dq hx fun q hq=>f1.get q (AE hx q hq) (by simp);have DQ:rows.length=P.length:=by rw[<- hr,bU]
  obtain ⟨x2,m2,T2,ea,g2,f2,gg2⟩:=AD (b:=24) hx1 (by simp;omega) (by omega) (rE es).av;obtain ⟨m',x',rows',T',e,k1,k2⟩:=ih (P++[(k:Int)]) m2 x2 (rows++[es]) T2 a1 (by rw[oP,ga];rfl) (by rw[aI,tj];omega) (by rw[kX];exact g2) (by rw[kX,hr,fV,qT,l1]);refine ⟨m',x',rows',T',?_,k1,k2⟩;rw[aI,tj] at e;have e8:xH (IA zl ol l) x (.int .i64 a) (.int .i64 (k:Nat)) au (.int .i64 0) (IA z o ar) (.int .i64 ar.length) (.int .i64 P.length) m (Fv K)=_:=e8;rw[QW,bg,aa,az,an (by omega),ix,aa,gz,aa];rw[e8,qdM,qjr g1 (by intro h;rw[h] at l1;simp at l1;omega),aa,ea,aa,cG (by omega),aa];exact e
theorem qgj (z zl:Bool) (o ol:Own) {ar:List Int} (h1:∀ x∈ar,1<=x/\x<=64) (fC:ar.length<=16) (l:List Int):∃ L:OL,AP ae 48 [IA z o ar,IA zl ol l]=some L.av/\LawOdds ar L/\∀ r∈L.es,r.z=false:=by
 obtain ⟨m',x',rows,T,e,g,hr⟩:=qgU (z:=z) (zl:=zl) (o:=o) (ol:=ol) (l:=l) h1 fC (Fu (aF ae.P f48.results.toList)) ar [] [] au [] [] 0 rfl (by simp) .none rfl;have e:Cn (IA zl ol l) au (.int .i64 0) (IA z o ar) (.int .i64 ar.length) (.int .i64 0) [] (Fu (aF ae.P f48.results.toList))=_:=e
 have e16:AC ae 48 [IA z o ar,IA zl ol l] []=some (x',m'):=by
  rw[T48,iI,aa,e,qdH]
 obtain ⟨z',o',rfl,hz⟩:=Dr g
 have lo:∀ o2,LawOdds ar ⟨z',(o2:Own).fr,rows.map rE⟩:=fun o2=>by
  have hl:rows.length=ar.length:=by rw[<- hr,bU]
  refine ⟨by simp[hl],fun u hu=>?_,?_⟩
  ·have hur:u < rows.length:=by simpa using hu
   have:(ar.getD u 0)=(rows[u].length:Int):=by
    rw[<- hr,aT,n0,bA hur];rfl
   rw[this];simp[rE]
  ·unfold Pq.OL.fr;cases o2<;>rfl
 refine ⟨⟨z',o'.fr,rows.map rE⟩,?_,lo o',by simp[rE]⟩
 have oh:Pq.OL.av ⟨z',o'.fr,rows.map rE⟩=.lst none z' o'.fr (rows.map fun r=>(rE r).av):=by
  unfold Pq.OL.av;rw[rW];rfl
 rw[oh];exact iH (m:=m') (l:=[]) e16 (by cases o'<;>rfl) rfl
end Go.Ab
namespace Go.Ab
open Go.Proofs Go.Proofs.Tryz
theorem O4 {m:af} {a b c a' b' c':AV} (hs:cZ (some 3) (.agg [a',b',c'])=true):aN (some 3) (m++[some (Ent.obj true [a,b,c])]) (.ptr m.length 0) (.agg [a',b',c'])=some (m++[some (Ent.obj true [a',b',c'])]):=by
 rw[qh,bV rfl,j7,aa];simp[cO,Sh.size,hs,bC,AV.cells]
theorem qm5 {e:Nat} {m:af} {x:AV} {l:List ND} {T:List Nat} (h:NR e m x l T) (hl:l.length<=100000) (n:ND):∃ x' m' T',cg (some m.length) false e (some 3) 40 (m++[some Ent.resv]) x (.lst (some 3) false .full [n.av])=some (x',m')/\NR e m' x' (l++[n]) T'/\Fr m m' T/\Gr m T T':=by
 have h2:(l.length+1) * 40<=gL:=by unfold gL;omega
 cases h with
 | none=>
  refine ⟨.lst (some 3) false (.tok m.length e) [n.av],(m++[some Ent.resv]).set m.length (some (Ent.tok 1 3)),[m.length],?_,.some _ [n] (by simp (disch:=(first | assumption | omega | (simp only[aI,aZ,aJ,aM];first | done | omega))) only[gK,cn,bV,cF,dM];first | done | rfl),(Fr.app m _ _).set _ (.inr (aR _)),fun k hk=>?_⟩
  ·have h2:40<=gL:=by unfold gL;omega
   simp[cg,h2,aA,Sh.size]
  ·obtain rfl:k=m.length:=by simpa using hk
   exact .inr (aR _)
 | some t es ht=>
  have gF:=bJ ht;have qy:af.get (m++[some Ent.resv]) t=some (.tok l.length 3):=by rw[cn gF];exact ht
  refine ⟨.lst (some 3) false (.tok t e) (l.map ND.av++[n.av]),(m++[some Ent.resv]).set t (some (Ent.tok (l.length+1) 3)),[t],?_,?_,(Fr.app m _ [t]).set _ (.inl (by simp)),Gr.refl _ _⟩
  ·simp[cg,qy,Sh.size,h2]
  ·have e3:l.map ND.av++[n.av]=(l++[n]).map ND.av:=by simp
   rw[e3];refine .some t (l++[n]) ?_;rw[dM rfl (by simp;omega),aI];rfl
theorem qkz (a b:Int) (z:Bool) (o:Own) (ks:List AV):Fz (.agg [.int .i64 a,.lst none z o ks,.int .i64 b]) (.agg [.int .i64 a,qi (.lst none z o ks),.int .i64 b]):=fun m=>by cases o<;>rfl
theorem qm7 {e:Nat} {m:af} {x:AV} {l:List ND} {T:List Nat} (h:NR e m x l T):∃ sh z o es,x=.lst sh z o es:=by
 cases h with
 | none=>exact ⟨_,_,_,_,rfl⟩
 | some t l ht=>exact ⟨_,_,_,_,rfl⟩
theorem PL {m:af} {b q:Nat} {arms x:AV} {L:List ND} {T:List Nat} {n:ND} {z:Bool} {o:Own} (pV:m.get b=some (.obj true [arms,x])) (h:NR 146 m x L T) (so:b∉T) (Ni:q≠b) (vh:q∉T) (hq:m.get q=some (.obj true [.int .i64 n.var,.lst none z o (n.kids.map (AV.int .i64)),.int .i64 n.leaf]))
  (hk:qi (.lst none z o (n.kids.map (AV.int .i64)))=fc n) (hn:n.ok) (hL:∀ y∈L,y.ok) (hl:L.length<=100000) :
  ∃ (m':af) (x':AV) (T':List Nat),uw (.ptr b 0) (.ptr q 0) x (.int .i64 L.length) (.int .i64 0) m (th (aF ae.P f91.results.toList))=some (.int .i64 (L.idxOf n:Nat),m')/\m'.get b=some (.obj true [arms,x'])/\NR 146 m' x' (jb L n) T'/\Fr m m' (b::T)/\Gr m T T'/\b∉T':=by
 have pB:=bJ pV;have Ic:=bJ hq;have oh:AV.agg [.int .i64 n.var,fc n,.int .i64 n.leaf]=n.av:=rfl
 have W:∀ (j i:Nat) (m1:af),i+j=L.length->(∀ t (ht:t < L.length),t < i->L[t]≠n)->Fr m m1 [] ->
   ∃ m2,uw (.ptr b 0) (.ptr q 0) x (.int .i64 L.length) (.int .i64 i) m1 (th (aF ae.P f91.results.toList))=(if n∈L then some (.int .i64 (L.idxOf n:Nat),m2) else th (aF ae.P f91.results.toList) (.exit 4) (K9 (.ptr b 0) (.ptr q 0) m2))/\Fr m m2 []:=by
  intro j
  induction j with
  | zero=>
   intro i m1 hi hne f
   have pX:n∉L:=fun hm=>by
    obtain ⟨t,ht,e⟩:=pM hm;exact hne t ht (by omega) e
   refine ⟨m1,?_,f⟩;rw[Q9,bg,aa,az,aj (by omega),aj pX]
  | succ j ih=>
   intro i m1 hi hne f;have cq:i < L.length:=by omega
   have mV:=qm6 h cq;have bxi:=Hj L[i] m1 (HL m1);have f2:Fr m (m1++[some (Ent.obj true [.int .i64 L[i].var,fc L[i],.int .i64 L[i].leaf])]) []:=f.snoc _;have gq:af.get (m1++[some (Ent.obj true [.int .i64 L[i].var,fc L[i],.int .i64 L[i].leaf])]) q=_:=(f2.get q Ic (by simp)).trans hq
   have ld1:ai (some 3) (m1++[some (Ent.obj true [.int .i64 L[i].var,fc L[i],.int .i64 L[i].leaf])]) (.ptr q 0)=some (.agg [.int .i64 n.var,.lst none z o (n.kids.map (AV.int .i64)),.int .i64 n.leaf]):=by
    rw[eY,gq];rfl
   have ld2:ai (some 3) (m1++[some (Ent.obj true [.int .i64 L[i].var,fc L[i],.int .i64 L[i].leaf])]) (.ptr m1.length 0)=some L[i].av:=by
    rw[eY,bV rfl];rfl
   have p60:aD (AP ae) none (m1++[some (Ent.obj true [.int .i64 L[i].var,fc L[i],.int .i64 L[i].leaf])]) 142 [.agg [.int .i64 n.var,.lst none z o (n.kids.map (AV.int .i64)),.int .i64 n.leaf],L[i].av]=some (.bool (decide (n=L[i])),m1++[some (Ent.obj true [.int .i64 L[i].var,fc L[i],.int .i64 L[i].leaf])]):=by
    rw[fP (qkz _ _ _ _ _) (qkv _),hk,oh,V60 hn (hL _ (bM cq))];rfl
   have e0:uw (.ptr b 0) (.ptr q 0) x (.int .i64 L.length) (.int .i64 i) m1 (th (aF ae.P f91.results.toList))=aw (.bool (decide (n=L[i]))) (some (.int .i64 i,m1++[some (Ent.obj true [.int .i64 L[i].var,fc L[i],.int .i64 L[i].leaf])])) (uw (.ptr b 0) (.ptr q 0) x (.int .i64 L.length) (.int .i64 (i+1:Nat)) (m1++[some (Ent.obj true [.int .i64 L[i].var,fc L[i],.int .i64 L[i].leaf])]) (th (aF ae.P f91.results.toList))):=by
    rw[Q9,bg,aa,az,an (by omega),mV,aa,yX,aa,nG,nG];dsimp only;rw[bxi,aa,ld1,aa,ld2,aa,p60,aa,cG (by omega),aa,qeA]
   rw[e0,az]
   by_cases he:n=L[i]
   ·have hm:n∈L:=he▸bM cq;have gY:L.idxOf n=i:=VK cq he.symm hne;refine ⟨_,?_,f2⟩;rw[an he,an hm,gY]
   ·rw[aj he]
    exact ih (i+1) _ (by omega) (fun t ht hti=>by
     rcases qV t i with hh | hh
     ·exact hne t ht hh
     ·obtain rfl:t=i:=by omega
      exact fun e=>he e.symm) f2
 obtain ⟨m2,e2,f2⟩:=W L.length 0 m (by omega) (fun _ _ h=>by omega) (Fr.refl _ _);have e2:uw (.ptr b 0) (.ptr q 0) x (.int .i64 L.length) (.int .i64 0) m (th (aF ae.P f91.results.toList))=_:=e2;rw[e2];have gb2:m2.get b=some (.obj true [arms,x]):=(f2.get b pB (by simp)).trans pV
 by_cases hm:n∈L
 ·rw[an hm,jb,an hm];exact ⟨m2,x,T,rfl,gb2,vB h fun k hk=>f2.get k (vA h k hk) (by simp),f2.mono (by simp),Gr.refl _ _,so⟩
 ·rw[aj hm,jb,aj hm,D4 hm];have gq2:af.get m2 q=some (.obj true [.int .i64 n.var,.lst none z o (n.kids.map (AV.int .i64)),.int .i64 n.leaf]):=(f2.get q Ic (by simp)).trans hq;have h2:NR 146 m2 x L T:=vB h fun k hk=>f2.get k (vA h k hk) (by simp);obtain ⟨x3,m3,T3,ea,n3,f3,gg3⟩:=qm5 h2 hl n;have om:=Hl n.var n.leaf z o (n.kids.map (AV.int .i64));rw[hk,oh] at om;have UH:=bJ gb2;have Nh:=bJ gq2;have gb3:m3.get b=some (.obj true [arms,x]):=(f3.get b UH so).trans gb2;have UI:=bJ gb3;have ldx:ai none (dG m2 1) (.ptr b (0+1))=some x:=by rw[gK,eY,cn UH,gb2];rfl
  have ldq:ai (some 3) (dG m2 1) (.ptr q 0)=some (.agg [.int .i64 n.var,.lst none z o (n.kids.map (AV.int .i64)),.int .i64 n.leaf]):=by rw[gK,eY,cn Nh,gq2];rfl
  obtain ⟨sh3,z3,o3,es3,rfl⟩:=qm7 n3
  have st:aN none m3 (.ptr b (0+1)) (.lst sh3 z3 o3 es3)=some (m3.set b (some (.obj true [arms,.lst sh3 z3 o3 es3]))):=by
   rw[qh,gb3,j7,aa];rfl
  have ld4:ai none (m3.set b (some (.obj true [arms,.lst sh3 z3 o3 es3]))) (.ptr b (0+1))=some (.lst sh3 z3 o3 es3):=by
   rw[eY,dM rfl UI];rfl
  have ln:=Oj n3
  have UK:b∉T3:=fun hh=>by
   rcases gg3 b hh with h4 | h4
   ·exact so h4
   ·omega
  refine ⟨m3.set b (some (.obj true [arms,.lst sh3 z3 o3 es3])),.lst sh3 z3 o3 es3,T3,?_,dM rfl UI,vB n3 fun k hk=>cF (fun e=>UK (e▸hk)),?_,?_,UK⟩
  ·rw[gK] at ldx ldq;rw[qeB,oY,aa,gg,aa,gK,ldx,aa,ldq,aa,om,aa,ea,aa,aa,gg,aa,st,aa,aa,gg,aa,ld4,aa,ln,aa,aI,oC (by simp) (by simp;omega),aa];simp
  ·exact ((Fr.trans (f2.mono (F':=b::T) (by simp)) f3 fun x hx=>.inl (by simp[hx])).set _ (.inl (by simp)))
  ·intro k hk
   rcases gg3 k hk with h4 | h4
   ·exact .inl h4
   ·have:=f2.len;exact .inr (by omega)
end Go.Ab
namespace Go.Ab
open Go.Proofs Go.Proofs.Tryz
theorem qkM {e:Nat} {m:af} {x:AV} {l:List AV} {T:List Nat} (h:GR e m x l T):∀ k∈T,∃ n,m.get k=some (.tok n 1):=by
 cases h with
 | none=>simp
 | some t l ht _=>
  intro k hk;obtain rfl:k=t:=by simpa using hk
  exact ⟨_,ht⟩
def Fa (l:List ND) (ar:List Int) (za:Bool) (oa:Own) (b v:Nat):Prop:=∀ (m:af) (z:Bool) (o:Own) (part:List Int) (id:Nat) (out:List Nat) (x:AV) (T:List Nat),m.get b=some (.obj true [IA za oa ar,x])->NR 146 m x (eu l out) T->b∉T->Cl l out->TabV ar l id v part ->
 ∃ (m':af) (x':AV) (T':List Nat),AC ae 91 [.ptr b 0,.int .i64 v,IA z o part] m=some (.int .i64 ((Vi l id out).idxOf id:Nat),m')/\m'.get b=some (.obj true [IA za oa ar,x'])/\NR 146 m' x' (eu l (Vi l id out)) T'/\Fr m m' (b::T)/\Gr m T T'/\b∉T'
section
variable {l:List ND} {ar:List Int} {za:Bool} {oa:Own} {b v:Nat}
theorem qgO {m:af} {x:AV} (pV:m.get b=some (.obj true [IA za oa ar,x])) {z z1:Bool} {o o1:Own} {part first:List Int} {a n:Nat} (hv:v < ar.length) (ha:ar[v]=(a:Int)) (qpM:a<=64) (hp:part.length=a * n) (hpl:part.length<=300) (hf:first.length<=300) (x7:AV) (K:KT):∀ (j k:Nat) (fr:Bool),k+j=a ->
  ∃ fr':Bool,zX (.ptr b 0) (.int .i64 v) (IA z o part) x7 (.int .i64 n) (IA z1 o1 first) (.bool fr) (.int .i64 k) m K=K (.exit 0) (La (.ptr b 0) (.int .i64 v) (IA z o part) x7 (.int .i64 n) (IA z1 o1 first) (.bool fr') m)/\(fr'=true↔fr=true/\∀ q,k<=q->q < a->_root_.Go.Ab.part part n q=first):=by
 have gY:aG none (IA za oa ar) (.int .i64 v)=some (.vptr [.int .i64 a]):=by rw[j6 hv,ha]
 have ldx:ai none m (.ptr b (0+0))=some (IA za oa ar):=by rw[eY,pV];rfl
 intro j
 induction j with
 | zero=>
  intro k fr hk;refine ⟨fr,?_,⟨fun h=>⟨h,fun q h1 h2=>by omega⟩,fun h=>h.1⟩⟩;rw[Km,oY,aa,gg,aa,ldx,aa,gY,aa,gz,aa,dp,aa,az,aj (by omega)]
 | succ j ih=>
  intro k fr hk;have u6:k < a:=by omega
  have sD:(k+1) * n<=part.length:=by rw[hp];exact iO _ (by omega)
  have Vd:k * n<=(k+1) * n:=iO _ (by omega);have sH:=part_len hp u6;have lF:n<=(k+1) * n:=Nat.le_mul_of_pos_left _ (by omega)
  cases fr with
  | false=>
   obtain ⟨fr',e,h⟩:=ih (k+1) false (by omega)
   refine ⟨fr',?_,?_⟩
   ·rw[Km,oY,aa,gg,aa,ldx,aa,gY,aa,gz,aa,dp,aa,az,an u6,ig,cG (by omega),aa];exact e
   ·rw[h];simp
  | true=>
   obtain ⟨fr',e,h⟩:=ih (k+1) (decide (_root_.Go.Ab.part part n k=first)) (by omega)
   refine ⟨fr',?_,?_⟩
   ·rw[Km,oY,aa,gg,aa,ldx,aa,gY,aa,gz,aa,dp,aa,az,an u6,mJ,Bk (by omega),aa,cG (by omega),aa,Bk (by omega),aa,LO z o part .i64 sD,aa,qnB z z1 .no o1 _ first (by omega) m,aa,aa]
    exact e
   ·rw[h,wk]
    constructor
    ·rintro ⟨h1,h2⟩;refine ⟨rfl,fun q pZ vg=>?_⟩
     by_cases DO:q=k
     ·subst DO;exact h1
     ·exact h2 q (by omega) vg
    ·rintro ⟨_,h2⟩;exact ⟨h2 k (aR _) u6,fun q pZ vg=>h2 q (by omega) vg⟩
theorem qgP (g:GoodL ar l) (h1:∀ x∈ar,1<=x/\x<=64) (fq:l.length<=100000) (hv:v < ar.length) (fC:ar.length<=16) {a n:Nat} (ha:ar[v]=(a:Int)) (hn:n=b9 (ar.drop (v+1))) {id:Nat} (hid:id < l.length) (tU:l[id].var=v) {part:List Int} (htab:TabV ar l id v part) (hpl:part.length<=300) (ih:Fa l ar za oa b (v+1)) {z:Bool} {o:Own}
  {m0:af} {T0:List Nat} {q:Nat} (hq0:m0.length<=q) (hbq:b < m0.length) (hT0:∀ y∈T0,y < m0.length):∀ (j k:Nat) (m:af) (out:List Nat) (x xk:AV) (T Tk:List Nat),k+j=a->m.get b=some (.obj true [IA za oa ar,x])->NR 146 m x (eu l out) T->b∉T->Cl l out->Fr m0 m (b::T0)->Gr m0 T0 T->q∉T->(∀ i∈l[id].kids.take k,i.toNat∈out) ->
   m.get q=some (.obj true [.int .i64 v,xk,.int .i64 0])->GR 3 m xk (((l[id].kids.take k).map fun i=>((out.idxOf i.toNat:Nat):Int)).map (AV.int .i64)) Tk->(∀ y∈Tk,m0.length<=y/\y∉T) ->
   ∃ (m':af) (x' xk':AV) (T' Tk':List Nat),Cr (.ptr b 0) (.int .i64 v) (IA z o part) (.ptr q 0) (.int .i64 n) (.int .i64 k) m (B8 (aF ae.P f91.results.toList))=B8 (aF ae.P f91.results.toList) (.exit 2) (K8 (.ptr b 0) (.ptr q 0) m') /\
    m'.get b=some (.obj true [IA za oa ar,x'])/\NR 146 m' x' (eu l (iq l (l[id].kids.drop k) out)) T'/\b∉T'/\Fr m0 m' (b::T0)/\Gr m0 T0 T'/\q∉T'/\m'.get q=some (.obj true [.int .i64 v,xk',.int .i64 0])/\GR 3 m' xk' ((l[id].kids.map fun i=>(((iq l (l[id].kids.drop k) out).idxOf i.toNat:Nat):Int)).map (AV.int .i64)) Tk':=by
 have aU:ar.getD v 0=(a:Int):=by rw[aT,bA hv,fg,ha]
 have lY:=h1 _ (bM hv)
 have fL:l[id].kids.length=a:=by
  have:=(g.var id hid (by omega)).2;rw[tU,cK,aU] at this;omega
 have hp:part.length=a * n:=by
  rw[htab.len,w5 hv,aU,hn];rfl
 have gY:aG none (IA za oa ar) (.int .i64 v)=some (.vptr [.int .i64 a]):=by rw[j6 hv,ha]
 intro j
 induction j with
 | zero=>
  intro k m out x xk T Tk hk pV ve so hc f gr vh MZ vk wG uT;have hd:l[id].kids.drop k=[]:=jA (by omega);have ht:l[id].kids.take k=l[id].kids:=kY (by omega);rw[ht] at wG;have ldx:ai none m (.ptr b (0+0))=some (IA za oa ar):=by rw[eY,pV];rfl
  refine ⟨m,x,xk,T,Tk,?_,pV,by rw[hd];exact ve,so,f,gr,vh,vk,by rw[hd];exact wG⟩;rw[Q8,oY,aa,gg,aa,ldx,aa,gY,aa,gz,aa,dp,aa,az,aj (by omega)]
 | succ j ihj=>
  intro k m out x xk T Tk hk pV ve so hc f gr vh MZ vk wG uT;have u6:k < a:=by omega
  have u7:k < l[id].kids.length:=by omega
  have sD:(k+1) * n<=part.length:=by rw[hp];exact iO _ (by omega)
  have Vd:k * n<=(k+1) * n:=iO _ (by omega);have ldx:ai none m (.ptr b (0+0))=some (IA za oa ar):=by rw[eY,pV];rfl
  obtain ⟨t,et,ht⟩:=pF g hid _ (bM u7);have jZ:=Pb g (fun x hx=>(h1 x hx).1) hv htab hid tU (k:=k) (by rw[aU];omega);have eg:l[id].kids.getD k 0=(t:Int):=by rw[aT,bA u7,fg,et]
  rw[eg,cK,<- hn] at jZ;have pB:=bJ pV;have Ic:=bJ vk;obtain ⟨m1,x1,T1,e70,gb1,n1,f1,gr1,qkX⟩:=ih m z .no _ t out x T pV ve so hc jZ;obtain ⟨c1,c2,r,c3,c4⟩:=qs g t jZ.lt out hc;have Ni:q≠b:=by omega
  have pZ:m1.get q=some (.obj true [.int .i64 v,xk,.int .i64 0]):=(f1.get q Ic (by simp;exact ⟨Ni,vh⟩)).trans vk
  have Vx:q∉T1:=fun hh=>by
   rcases gr1 q hh with h4 | h4
   ·exact vh h4
   ·omega
  have qk9:GR 3 m1 xk (((l[id].kids.take k).map fun i=>(((Vi l t out).idxOf i.toNat:Nat):Int)).map (AV.int .i64)) Tk:=by
   have e:((l[id].kids.take k).map fun i=>(((Vi l t out).idxOf i.toNat:Nat):Int))=((l[id].kids.take k).map fun i=>((out.idxOf i.toNat:Nat):Int)):=List.map_congr_left fun i hi=>by
    rw[c3,List.idxOf_append,an (MZ i hi)]
   rw[e]
   exact Dq wG fun y hy=>f1.get y (AE wG y hy) (by
    simp only[gB,not_or]
    exact ⟨fun e=>by have:=(uT y hy).1;omega,(uT y hy).2⟩)
  obtain ⟨x2,m2,Tk2,ea,g2,f2,gg2⟩:=AD (b:=8) qk9 (by simp;omega) (by omega) (.int .i64 ((Vi l t out).idxOf t:Nat));have ntk:∀ y,y∉Tk->y < m1.length->m2.get y=m1.get y:=fun y h h'=>f2.get y h' h;have qkW:=bJ gb1;have qlG:=bJ pZ;have qkR:b∉Tk:=fun h=>by have:=(uT b h).1;omega
  have UD:q∉Tk:=fun h=>by
   have h2:=AE wG q h;obtain ⟨k',qy⟩:=qkM wG q h;rw[vk] at qy;cases qy
  have gb2:m2.get b=some (.obj true [IA za oa ar,x1]):=(ntk b qkR qkW).trans gb1;have gq2:m2.get q=some (.obj true [.int .i64 v,xk,.int .i64 0]):=(ntk q UD qlG).trans pZ
  have UC:∀ y∈Tk,y∉T1:=fun y hy hh=>by
   rcases gr1 y hh with h4 | h4
   ·exact (uT y hy).2 h4
   ·have:=AE wG y hy;omega
  have n2:NR 146 m2 x1 (eu l (Vi l t out)) T1:=vB n1 fun y hy=>ntk y (fun h=>UC y h hy) (vA n1 y hy);have Nh:=bJ gq2;obtain ⟨xz,xo,rfl,_⟩:=Dr g2
  have st:aN none m2 (.ptr q (0+1)) (.lst none xz xo (((l[id].kids.take k).map fun i=>(((Vi l t out).idxOf i.toNat:Nat):Int)).map (AV.int .i64)++[.int .i64 ((Vi l t out).idxOf t:Nat)]))=some (m2.set q (some (.obj true [.int .i64 v,.lst none xz xo (((l[id].kids.take k).map fun i=>(((Vi l t out).idxOf i.toNat:Nat):Int)).map (AV.int .i64)++[.int .i64 ((Vi l t out).idxOf t:Nat)]),.int .i64 0]))):=by
   rw[qh,gq2,j7,aa];rfl
  have ek:(((l[id].kids.take k).map fun i=>(((Vi l t out).idxOf i.toNat:Nat):Int)).map (AV.int .i64)++[.int .i64 ((Vi l t out).idxOf t:Nat)])=((l[id].kids.take (k+1)).map fun i=>(((Vi l t out).idxOf i.toNat:Nat):Int)).map (AV.int .i64):=by
   rw[n6 u7,kX,kX,et];rfl
  have hnq:∀ y∈Tk2,y≠q:=fun y hy e=>by
   rcases gg2 y hy with h4 | h4
   ·exact UD (e▸h4)
   ·omega
  have ed:iq l (l[id].kids.drop k) out=iq l (l[id].kids.drop (k+1)) (Vi l t out):=by
   rw[kP u7,CT,et,cK]
  have F1:Fr m0 m1 (b::T0):=Fr.trans f f1 fun y hy=>by
   rcases gB.1 hy with rfl | hy
   ·exact .inl (by simp)
   ·rcases gr y hy with h4 | h4
    ·exact .inl (by simp[h4])
    ·exact .inr h4
  have F2:Fr m0 m2 (b::T0):=Fr.trans F1 f2 fun y hy=>.inr (uT y hy).1
  obtain ⟨m',x',xk',T',Tk',e,k1,k2,k3,k4,k5,k6,k7,k8⟩:=ihj (k+1) (m2.set q (some (.obj true [.int .i64 v,.lst none xz xo (((l[id].kids.take k).map fun i=>(((Vi l t out).idxOf i.toNat:Nat):Int)).map (AV.int .i64)++[.int .i64 ((Vi l t out).idxOf t:Nat)]),.int .i64 0]))) (Vi l t out) x1 _ T1 Tk2 (by omega)
   (by rw[cF (fun e=>Ni e.symm)];exact gb2) (vB n2 fun y hy=>cF (fun e=>Vx (e▸hy))) qkX c1 (F2.set _ (.inr hq0)) (Gr.trans f.len gr gr1) Vx (fun i hi=>by
    rw[n6 u7] at hi
    rcases im.1 hi with hi | hi
    ·rw[c3];exact Ad _ (MZ i hi)
    ·obtain rfl:i=l[id].kids[k]:=by simpa using hi
     rw[et,cK];exact c2) (dM rfl Nh) (by
    rw[<- ek]
    exact Dq g2 fun y hy=>cF (hnq y hy)) (fun y hy=>by
    have l1:=f1.len;have l0:=f.len
    rcases gg2 y hy with h4 | h4
    ·exact ⟨(uT y h4).1,UC y h4⟩
    ·refine ⟨by omega,fun hh=>?_⟩;have:=vA n1 y hh
     omega)
  refine ⟨m',x',xk',T',Tk',?_,k1,by rw[ed];exact k2,k3,k4,k5,k6,k7,by rw[ed];exact k8⟩;have ldk:ai none m (.ptr q (0+1))=some xk:=by rw[eY,vk];rfl
  have ldk1:ai none m1 (.ptr q (0+1))=some xk:=by rw[eY,pZ];rfl
  rw[Q8,oY,aa,gg,aa,ldx,aa,gY,aa,gz,aa,dp,aa,az,an u6,gg,aa,ldk,aa,cG (by omega),aa,Bk (by omega),aa,cG (by omega),aa,Bk (by omega),aa,LO z o part .i64 sD,aa,e70,aa];rw[vp (by simp only[ldk1,aa]),rh,aa,ea,aa,aa,st,aa,aa];exact e
theorem IB (g:GoodL ar l) (fq:l.length<=100000) {out:List Nat} (hc:Cl l out):∀ y∈eu l out,y.ok:=fun y hy=>by
 obtain ⟨i,hi,rfl⟩:=iX.1 hy;have:=sU _ _ hc.nd hc.lt;exact Ej g fq (by omega) (hc.lt i hi)
theorem PK (g:GoodL ar l) (h1:∀ x∈ar,1<=x/\x<=64) (fq:l.length<=100000) (fC:ar.length<=16) (hv:v<=ar.length) (wN:b9 (ar.drop v)<=300) (ih:v < ar.length->Fa l ar za oa b (v+1)):Fa l ar za oa b v:=by
 intro m z o part id out x T pV ve so hc htab;have sj:∀ x∈ar,1<=x:=fun x hx=>(h1 x hx).1;have hid:=htab.lt;have hpp:1<=b9 (ar.drop v):=OD fun x hx=>sj x (List.drop_subset _ _ hx);have hpl:=htab.len;obtain ⟨c0,ct,ec⟩:=List.exists_cons_of_ne_nil (show part≠[] from fun e=>by rw[e] at hpl;simp at hpl;omega);have pB:=bJ pV;have i0:aG none (IA z o part) (.int .i64 0)=some (.vptr [.int .i64 c0]):=by rw[ec];exact D5 (by simp)
 have hb:fR (.agg [(.int .i64 0),au,(.int .i64 0)]) [(0,none,(.int .i64 (-1))),(2,none,.int .i64 c0)]=some (.agg [.int .i64 (-1),au,.int .i64 c0]):=rfl;have sn:=O4 (m:=m) (a:=.int .i64 0) (b:=au) (c:=.int .i64 0) (a':=.int .i64 (-1)) (b':=au) (c':=.int .i64 c0) rfl;have f4:Fr m (m++[some (Ent.obj true [.int .i64 (-1),au,.int .i64 c0])]) []:=Fr.app m _ _;generalize yC:m++[some (Ent.obj true [.int .i64 (-1),au,.int .i64 c0])]=m4 at sn f4
 have gq:m4.get m.length=some (Ent.obj true [.int .i64 (-1),au,.int .i64 c0]):=by rw[<- yC];exact (by simp (disch:=(first | assumption | omega | (simp only[aI,aZ,aJ,aM];first | done | omega))) only[gK,cn,bV,cF,dM];first | done | rfl)
 have l4:m4.length=m.length+1:=by rw[<- yC];simp
 have gb4:m4.get b=some (.obj true [IA za oa ar,x]):=(f4.get b pB (by simp)).trans pV;have n4:NR 146 m4 x (eu l out) T:=vB ve fun k hk=>f4.get k (vA ve k hk) (by simp);have vh:m.length∉T:=fun h=>by have:=vA ve _ h;omega
 have Vr:out.length<=l.length:=sU _ _ hc.nd hc.lt;have p78:=qnA z o part (by rw[ec];simp) (by omega) m4;have e0:AC ae 91 [.ptr b 0,.int .i64 v,IA z o part] m=_:=T91 _ _ _ m;rw[i0,aa,gz,aa,hb,aa,nG,nG] at e0;dsimp only at e0;rw[sn,aa,p78,aa,qM,aa,ec,List.headD_cons,<- ec] at e0;have ldx0:ai none m4 (.ptr b (0+0))=some (IA za oa ar):=by rw[eY,gb4];rfl
 have ldx1:ai none m4 (.ptr b (0+1))=some x:=by rw[eY,gb4];rfl
 by_cases hall:(part.all fun k=>k == c0)=true
 ·
  rw[hall,jN,ig,oY,aa,gg,aa,ldx1,aa,Oj ve,aa] at e0;have M5:=qjT g sj hv htab (c:=c0) (fun y hy=>by simpa using fQ.1 hall y hy)
  have hnd:nd l out id=iC c0:=by
   unfold nd;rw[M5];rfl
  rw[jk hid] at M5;have Vc:l[id].kids=[]:=by rw[M5];rfl
  have be:=Ej g fq (p:=out) (by omega) hid;rw[hnd] at be;obtain ⟨m5,x5,T5,e5,k1,k2,k3,k4,k5⟩:=PL (n:=iC c0) (z:=true) (o:=.full) gb4 n4 so (show m.length≠b by omega) vh gq rfl be (IB g fq hc) (by unfold eu;rw[bU];omega);have pr:=XX g hc hid (by rw[Vc];simp)
  have eV:Vi l id out=if id∈out then out else out++[id]:=by rw[Ss g hid hc,Vc,qgm]
  rw[hnd,<- eV] at pr;refine ⟨m5,x5,T5,?_,k1,by rw[<- pr.1];exact k2,Fr.trans (f4.mono (by simp)) k3 fun y hy=>.inl hy,Gr.trans f4.len (Gr.refl _ _) k4,k5⟩;rw[e0,e5,pr.2]
 ·rw[Bool.not_eq_true] at hall
  have fT:v < ar.length:=by
   refine Decidable.byContradiction fun hn=>?_;have:ar.drop v=[]:=jA (by omega);rw[this] at hpl;have hpl:part.length=1:=hpl;rw[ec] at hpl hall;have:ct=[]:=by simpa using hpl
   rw[this] at hall;simp at hall
  have lY:=h1 _ (bM fT);obtain ⟨a,ha⟩:=nW (by omega:0<=ar[v]);have aU:ar.getD v 0=(a:Int):=by rw[aT,bA fT,fg,ha]
  have gY:aG none (IA za oa ar) (.int .i64 v)=some (.vptr [.int .i64 a]):=by rw[j6 fT,ha]
  have sI:b9 (ar.drop v)=a * b9 (ar.drop (v+1)):=by rw[w5 fT,aU];rfl
  have lF:1<=b9 (ar.drop (v+1)):=OD fun x hx=>sj x (List.drop_subset _ _ hx);have yP:part.length=a * b9 (ar.drop (v+1)):=by rw[hpl,sI]
  have hle:b9 (ar.drop (v+1))<=part.length:=by rw[yP];exact Nat.le_mul_of_pos_left _ (by omega)
  have hdiv:part.length / a=b9 (ar.drop (v+1)):=by rw[yP,Nat.mul_div_cancel_left _ (by omega)]
  have mG:kU none (IA z o part) none (some (.int .i64 (b9 (ar.drop (v+1)):Nat))) none=some (IA z .no (_root_.Go.Ab.part part (b9 (ar.drop (v+1))) 0)):=by
   rw[O0 _ _ _ _ _ hle];unfold _root_.Go.Ab.part;rw[xN,jT]
  have H8:=part_len yP (k:=0) (by omega)
  obtain ⟨fr,e7,nB⟩:=qgO (z:=z) (z1:=z) (o:=o) (o1:=.no) (first:=_root_.Go.Ab.part part (b9 (ar.drop (v+1))) 0) gb4 fT ha (by omega) yP (by omega) (by omega) (.ptr m.length 0) (FD (aF ae.P f91.results.toList)) (a - 1) 1 true (by omega)
  have e7:zX (.ptr b 0) (.int .i64 v) (IA z o part) (.ptr m.length 0) (.int .i64 (b9 (ar.drop (v+1)):Nat)) (IA z .no (_root_.Go.Ab.part part (b9 (ar.drop (v+1))) 0)) (.bool true) (.int .i64 1) m4 (FD (aF ae.P f91.results.toList))=_:=e7;rw[hall,nT,mJ,iI,aa,oY,aa,gg,aa,ldx0,aa,gY,aa,gz,aa,W7 (by omega) (by omega),aa,hdiv,mG,aa,e7,qeF] at e0
  have UW:fr=true↔∀ k:Nat,(k:Int) < ar.getD v 0->_root_.Go.Ab.part part (b9 (ar.drop (v+1))) k=_root_.Go.Ab.part part (b9 (ar.drop (v+1))) 0:=by
   rw[nB,aU]
   constructor
   ·rintro ⟨_,h⟩ k hk
    by_cases uZ:k=0
    ·rw[uZ]
    ·exact h k (by omega) (by omega)
   ·exact fun h=>⟨rfl,fun q _ hq=>h q (by omega)⟩
  by_cases hf:fr=true
  ·
   rw[hf,mJ,cG (by omega),aa] at e0;have ht:=qkk g sj fT htab (UW.1 hf);obtain ⟨m5,x5,T5,e5,k1,k2,k3,k4,k5⟩:=ih fT m4 z .no _ id out x T gb4 n4 so hc ht;refine ⟨m5,x5,T5,?_,k1,k2,Fr.trans (f4.mono (by simp)) k3 fun y hy=>.inl hy,Gr.trans f4.len (Gr.refl _ _) k4,k5⟩;rw[e0,e5,aa]
  ·have hff:fr=false:=by simpa using hf
   have tU:=qm2 g sj fT htab hid (fun h=>hf (UW.2 h));have hb2:fR (.agg [(.int .i64 0),au,(.int .i64 0)]) [(0,none,.int .i64 v)]=some (.agg [.int .i64 v,au,.int .i64 0]):=rfl;have st:aN (some 3) m4 (.ptr m.length 0) (.agg [.int .i64 v,au,.int .i64 0])=some (m4.set m.length (some (Ent.obj true [.int .i64 v,au,.int .i64 0]))):=YS gq rfl;rw[hff,ig,hb2,aa,st,aa] at e0;have f5:Fr m (m4.set m.length (some (Ent.obj true [.int .i64 v,au,.int .i64 0]))) (b::T):=(f4.mono (F':=b::T) (by simp)).set _ (.inr (aR _))
   obtain ⟨m6,x6,xk,T6,Tk,e14,k1,k2,k3,k4,k5,k6,k7,k8⟩:=qgP g h1 fq fT fC ha rfl hid tU htab (by omega) (ih fT) (z:=z) (o:=o) (m0:=m) (T0:=T) (q:=m.length) (aR _) pB (vA ve) a 0 (m4.set m.length (some (Ent.obj true [.int .i64 v,au,.int .i64 0]))) out x au T [] (by omega)
    (by rw[cF (by omega)];exact gb4) (vB n4 fun y hy=>cF (fun e=>vh (e▸hy))) so hc f5 (Gr.refl _ _) vh (by simp) (dM rfl (by omega)) .none (by simp)
   rw[jT] at k2 k8;obtain ⟨c1,c2,r,c3,c4⟩:=Ln g hid l[id].kids (fun k hk=>pF g hid k hk) out hc;have qpW:=sU _ _ c1.nd c1.lt
   have hnk:(nd l (iq l l[id].kids out) id).kids=l[id].kids.map fun i=>(((iq l l[id].kids out).idxOf i.toNat:Nat):Int):=by
    unfold nd;rw[jk hid]
   have vf:(nd l (iq l l[id].kids out) id).var=v:=by unfold nd;rw[jk hid];exact tU
   have be:=Ej g fq (p:=iq l l[id].kids out) (by omega) hid
   have ou:(nd l (iq l l[id].kids out) id).leaf=0:=by
    rcases be with ⟨q1,_⟩ | ⟨_,_,q3,_⟩
    ·rw[vf] at q1;omega
    ·exact q3
   have AU:l[id].kids≠[]:=Uq g _ (bM hid) (by omega);obtain ⟨kz',ko',rfl,Ns⟩:=YY k8 hnk be (fun _=>by simpa using AU)
   have gq6:m6.get m.length=some (.obj true [.int .i64 (nd l (iq l l[id].kids out) id).var,.lst none kz' ko' ((nd l (iq l l[id].kids out) id).kids.map (AV.int .i64)),.int .i64 (nd l (iq l l[id].kids out) id).leaf]):=by
    rw[k7,vf,ou]
   obtain ⟨m7,x7,T7,e18,j1,j2,j3,j4,j5⟩:=PL (n:=nd l (iq l l[id].kids out) id) (z:=kz') (o:=ko') k1 k2 k3 (show m.length≠b by omega) k6 gq6 Ns be (IB g fq c1) (by unfold eu;rw[bU];omega);have pr:=XX g c1 hid c2;rw[<- Ss g hid hc] at pr
   refine ⟨m7,x7,T7,?_,j1,by rw[<- pr.1];exact j2,Fr.trans k4 j3 fun y hy=>?_,Gr.trans k4.len k5 j4,j5⟩
   ·have e14:Cr (.ptr b 0) (.int .i64 v) (IA z o part) (.ptr m.length 0) (.int .i64 (b9 (ar.drop (v+1)):Nat)) (.int .i64 0) (m4.set m.length (some (Ent.obj true [.int .i64 v,au,.int .i64 0]))) (B8 (aF ae.P f91.results.toList))=_:=e14;have ld6:ai none m6 (.ptr b (0+1))=some x6:=by rw[eY,k1];rfl
    rw[e0,e14,qex,oY,aa,gg,aa,ld6,aa,Oj k2,aa,e18,pr.2]
   ·rcases gB.1 hy with rfl | hy
    ·exact .inl (by simp)
    ·rcases k5 y hy with h4 | h4
     ·exact .inl (by simp[h4])
     ·exact .inr h4
theorem ZW (g:GoodL ar l) (h1:∀ x∈ar,1<=x/\x<=64) (fq:l.length<=100000) (fC:ar.length<=16):∀ (d v:Nat),v+d=ar.length->b9 (ar.drop v)<=300->Fa l ar za oa b v:=by
 have sj:∀ x∈ar,1<=x:=fun x hx=>(h1 x hx).1;intro d
 induction d with
 | zero=>
  intro v hv wN;exact PK g h1 fq fC (by omega) wN (fun hlt=>by omega)
 | succ d ih=>
  intro v hv wN;refine PK g h1 fq fC (by omega) wN (fun hlt=>ih (v+1) (by omega) ?_);have lY:=h1 _ (bM hlt);have sI:=w5 hlt;rw[aT,bA hlt,fg] at sI
  have:b9 (ar.drop (v+1))<=b9 (ar.drop v):=by
   rw[sI];exact Nat.le_mul_of_pos_left _ (by omega)
  omega
end
end Go.Ab
namespace Go.Ab
open Go.Proofs Go.Proofs.Tryz
theorem Ol {e:Nat} {m:af} {x:AV} {l:List ND} {T:List Nat} (h:NR e m x l T) (hl:l≠[]):∃ t,x=NL false (.tok t e) l:=by
 cases h with
 | none=>exact absurd rfl hl
 | some t l ht=>exact ⟨t,rfl⟩
theorem Sj {l:List ND} {ar:List Int} (g:GoodL ar l) (h1:∀ x∈ar,1<=x/\x<=64) (fq:l.length<=100000) (fC:ar.length<=16) (hp:b9 ar<=300) {id:Nat} {t:List Int} (htab:TabV ar l id 0 t) (za z:Bool) (oa o:Own) :
  AP ae 31 [IA za oa ar,IA z o t]=some (NL false .no (eu l (Vi l id []))):=by
 have hne:eu l (Vi l id [])≠[]:=by
  obtain ⟨_,c2,_⟩:=qs g id htab.lt [] ri;intro e;unfold eu at e;rw[xK] at e;rw[e] at c2;cases c2
 have hb:fR (.agg [au,au]) [(0,none,IA za oa ar)]=some (.agg [IA za oa ar,au]):=rfl;have hx:eR none (some 2) ([]:af) (.agg [IA za oa ar,au])=some (.ptr 0 0,[some (Ent.obj true [IA za oa ar,au])]):=rfl;obtain ⟨m',x',T',e,k1,k2,_,_,_⟩:=ZW (za:=za) (oa:=oa) (b:=0) g h1 fq fC ar.length 0 (by omega) hp [some (Ent.obj true [IA za oa ar,au])] z o t id [] au [] rfl .none (by simp) ri htab;obtain ⟨tk,rfl⟩:=Ol k2 hne;refine iH (m:=m') (v:=NL false (.tok tk 146) (eu l (Vi l id []))) (l:=[]) ?_ rfl rfl;have e:AC ae 91 [.ptr 0 0,.int .i64 0,IA z o t] [some (Ent.obj true [IA za oa ar,au])]=_:=e;have ld:ai none m' (.ptr 0 (0+1))=some (NL false (.tok tk 146) (eu l (Vi l id []))):=by rw[eY,k1];rfl
 rw[T31,hb,aa,hx,aa,e,aa,oY,aa,gg,aa,ld,aa]
end Go.Ab
namespace Go.Ab
open Go.Proofs Go.Proofs.Tryz
structure RN where
 var:Int
 z:Bool
 o:Own
 kids:List Int
 leaf:Int
def eP:RN:=⟨0,true,.full,[],0⟩
def RN.av (x:RN):AV:=.agg [.int .i64 x.var,IA x.z x.o x.kids,.int .i64 x.leaf]
abbrev RL (z:Bool) (o:Own) (L:List RN):AV:=.lst (some 3) z o (L.map RN.av)
theorem D6 (z:Bool) (o:Own) (L:List RN):aK false (RL z o L)=some (.int .i64 L.length):=by rw[oW,bU]
theorem NB {z:Bool} {o:Own} {L:List RN} {i:Nat} (hi:i < L.length):aG (some 3) (RL z o L) (.int .i64 i)=some (.vptr [.int .i64 L[i].var,IA L[i].z L[i].o L[i].kids,.int .i64 L[i].leaf]):=by
 simp[aG,hi];rfl
def kidB (L:List RN) (i:Nat) (v k:Int):Bool:=decide (0<=k/\k < i) && decide ((L.getD k.toNat eP).var=-1\/v < (L.getD k.toNat eP).var)
def nk (ar:List Int) (L:List RN) (i:Nat) (x:RN):Bool:=if x.var=-1 then decide (x.kids=[]/\0<=x.leaf/\x.leaf<=2147483647) else decide (0<=x.var/\x.var < ar.length/\x.leaf=0/\(x.kids.length:Int)=ar.getD x.var.toNat 0) && x.kids.all (kidB L i x.var)
def qa (ar:List Int) (L:List RN):Nat->Nat->Bool
 | 0,_=>decide (0 < L.length)
 | j+1,i=>nk ar L i (L.getD i eP) && qa ar L j (i+1)
theorem Xn {ar:List Int} {L:List RN} {i:Nat} {x:RN} (h:nk ar L i x=true):x.var=-1\/0<=x.var:=by
 unfold nk at h
 split at h
 ·exact .inl (by assumption)
 ·simp only[bT,nt] at h;exact .inr h.1.1
theorem qku (z:Bool) (o:Own) (L:List RN):Fz (RL z o L) (RL z o.fr L):=fun m=>by cases o<;>rfl
theorem SJ {za zl z zr:Bool} {oa ol o orr:Own} {ar:List Int} {L:List RN} {i:Nat} {x:RN} {m:af} {q:Nat} (hi:i < L.length) (hl:L.length<=100000) (hx:x.kids.length<=100000) (hq:m.get q=some (.obj true [.int .i64 x.var,IA x.z x.o x.kids,.int .i64 x.leaf])) (DM:∀ k (h:k < i),(L.getD k eP).var=-1\/0<=(L.getD k eP).var) (x9 aE aW:AV):∀ j c:Nat,c+j=x.kids.length ->
  xE (IA za oa ar) (RL zl ol L) (.int .i64 i) (.ptr q 0) x9 aE aW (IA z o x.kids) (.int .i64 x.kids.length) (.int .i64 c) m (zH (tf (aF ae.P f107.results.toList)))=if (x.kids.drop c).all (kidB L i x.var) then zH (tf (aF ae.P f107.results.toList)) (.exit 2) (Gz (IA za oa ar) (RL zl ol L) x9 aE aW m) else some (.bool false,m)
 | 0,c,h=>by
  rw[FF,bg,aa,az,aj (by omega),jA (by omega)];rfl
 | j+1,c,h=>by
  have hc:c < x.kids.length:=by omega
  have ih:=SJ (za:=za) (zl:=zl) (z:=z) (zr:=zr) (oa:=oa) (ol:=ol) (o:=o) (orr:=orr) (ar:=ar) hi hl hx hq DM x9 aE aW j (c+1) (by omega);have ldq:ai none m (.ptr q (0+0))=some (.int .i64 x.var):=by rw[eY,hq];rfl
  rw[FF,bg,aa,az,an (by omega),j6 hc,aa,gz,aa,bg,aa,az,kP hc,nX]
  by_cases h1:x.kids[c] < 0
  ·rw[an h1,Fb,tg,kidB,dk (by omega),lQ,lQ];rfl
  ·rw[aj h1,kF,aa,az]
   by_cases h2:x.kids[c]≥i
   ·rw[an h2,Fb,tg,kidB,dk (by omega),lQ,lQ];rfl
   ·obtain ⟨k,hk⟩:=nW (by omega:0<=x.kids[c]);have jt:k < i:=by omega
    have fL:k < L.length:=by omega
    have tN:=DM k jt;have hg:L.getD k eP=L[k]:=by rw[aT,bA fL,fg]
    rw[hg] at tN;have l3:∀ (a b c:AV),ai none m (.vptr [a,b,c])=some a:=fun _ _ _=>rfl;have hb1:decide (0<=(k:Int)/\(k:Int) < i)=true:=eT (by omega);rw[aj h2,hk,NB fL,aa,L6,aa,l3,aa,kF,aa,az,kidB,hb1,il,cK,hg]
    by_cases h3:L[k].var≥0
    ·rw[an h3,aa,L6,aa,l3,aa,gg,aa,ldq,aa,sg,aa,az]
     by_cases h4:L[k].var<=x.var
     ·rw[an h4,Fb,tg,dk (by omega),lQ];rfl
     ·rw[aj h4,cG (by omega),aa,ih,eT (by omega),il]
    ·rw[aj h3,cG (by omega),aa,ih,eT (by omega),il]
theorem SI {za zl z:Bool} {oa ol o:Own} {ar:List Int} {L:List RN} (hl:L.length<=100000) (hx:∀ a∈ar,1<=a/\a<=64):∀ (j i:Nat) (m:af),i+j=L.length->(∀ k (h:k < i),(L.getD k eP).var=-1\/0<=(L.getD k eP).var) ->
  ∃ m',uu (IA za oa ar) (RL zl ol L) (RL zl ol L) (.int .i64 L.length) (.int .i64 i) m (tf (aF ae.P f107.results.toList))=some (.bool (qa ar L j i),m')
 | 0,i,m,h,_=>by
  refine ⟨m,?_⟩;rw[FG,bg,aa,az,aj (by omega),PV,D6,aa,hJ,aa,qa];congr 3;exact jD.2 (by omega)
 | j+1,i,m,h,DM=>by
  have hi:i < L.length:=by omega
  have hg:L.getD i eP=L[i]:=by rw[aT,bA hi,fg]
  have gY:=NB (z:=zl) (o:=ol) hi;have sn:aN (some 3) (m++[some (Ent.obj true [.int .i64 0,au,.int .i64 0])]) (.ptr m.length 0) (.agg [.int .i64 L[i].var,IA L[i].z L[i].o L[i].kids,.int .i64 L[i].leaf])=some (m++[some (Ent.obj true [.int .i64 L[i].var,IA L[i].z L[i].o L[i].kids,.int .i64 L[i].leaf])]):=O4 rfl;have gq:af.get (m++[some (Ent.obj true [.int .i64 L[i].var,IA L[i].z L[i].o L[i].kids,.int .i64 L[i].leaf])]) m.length=some (Ent.obj true [.int .i64 L[i].var,IA L[i].z L[i].o L[i].kids,.int .i64 L[i].leaf]):=bV rfl;generalize yC:m++[some (Ent.obj true [.int .i64 L[i].var,IA L[i].z L[i].o L[i].kids,.int .i64 L[i].leaf])]=m4 at sn gq;have ld0:ai none m4 (.ptr m.length (0+0))=some (.int .i64 L[i].var):=by rw[eY,gq];rfl
  have ld1:ai none m4 (.ptr m.length (0+1))=some (IA L[i].z L[i].o L[i].kids):=by rw[eY,gq];rfl
  have ld2:ai none m4 (.ptr m.length (0+2))=some (.int .i64 L[i].leaf):=by rw[eY,gq];rfl
  have e0:∃ r,uu (IA za oa ar) (RL zl ol L) (RL zl ol L) (.int .i64 L.length) (.int .i64 i) m (tf (aF ae.P f107.results.toList))=r:=⟨_,rfl⟩;obtain ⟨r0,e0⟩:=e0;have e1:=e0;rw[FG,bg,aa,az,an (by omega),gY,aa,yX,aa,nG,nG] at e1;dsimp only at e1;rw[sn,aa,gg,aa,ld0,aa,ir,aa,az] at e1;rw[e0,qa,hg,nk];have bad:∀ (b:Bool),nk ar L i L[i]=false->r0=some (.bool false,m4)->∃ m',r0=some (.bool (nk ar L i L[i] && b),m'):=fun b h1 h2=>⟨m4,by rw[h2,h1,lQ]⟩
  have good:nk ar L i L[i]=true->r0=uu (IA za oa ar) (RL zl ol L) (RL zl ol L) (.int .i64 L.length) (.int .i64 (i+1:Nat)) m4 (tf (aF ae.P f107.results.toList))->∃ m',r0=some (.bool (nk ar L i L[i] && qa ar L j (i+1)),m'):=fun h1 h2=>by
   obtain ⟨m',e⟩:=SI (za:=za) (zl:=zl) (z:=z) (oa:=oa) (ol:=ol) (o:=o) (ar:=ar) hl hx j (i+1) m4 (by omega) fun k hk=>by
    by_cases jt:k < i
    ·exact DM k jt
    ·obtain rfl:k=i:=by omega
     rw[hg];exact Xn h1
   exact ⟨m',by rw[h2,e,h1,il]⟩
  rw[<- nk]
  by_cases hv:L[i].var=-1
  ·rw[an hv,gg,aa,ld1,aa,iI,aa,hJ,aa,az] at e1;have lH:nk ar L i L[i]=decide (L[i].kids=[]/\0<=L[i].leaf/\L[i].leaf<=2147483647):=by unfold nk;rw[an hv]
   by_cases hk:L[i].kids=[]
   ·rw[aj (by rw[hk];simp),gg,aa,ld2,aa,Ox,aa,qM,aa] at e1
    by_cases h1:0<=L[i].leaf/\L[i].leaf<=2147483647
    ·rw[eT h1,jN,ig,cG (by omega),aa] at e1;exact good (by rw[lH];exact eT ⟨hk,h1⟩) e1.symm
    ·rw[dk h1,nT,mJ,tg] at e1;exact bad _ (by rw[lH];exact dk (fun h=>h1 h.2)) e1.symm
   ·have fL:L[i].kids.length≠0:=fun e=>hk (nY e);rw[an (by omega),tg] at e1;exact bad _ (by rw[lH];exact dk (fun h=>hk h.1)) e1.symm
  ·have lH:nk ar L i L[i]=(decide (0<=L[i].var/\L[i].var < ar.length/\L[i].leaf=0/\(L[i].kids.length:Int)=ar.getD L[i].var.toNat 0) && L[i].kids.all (kidB L i L[i].var)):=by unfold nk;rw[aj hv]
   rw[aj hv,aa,ld0,aa,bg,aa,az] at e1
   by_cases h1:L[i].var < 0
   ·rw[an h1,tg] at e1;exact bad _ (by rw[lH,dk (by omega),lQ]) e1.symm
   ·rw[aj h1,aa,ld0,aa,iI,aa,kF,aa,az] at e1
    by_cases h2:L[i].var≥ar.length
    ·rw[an h2,tg] at e1;exact bad _ (by rw[lH,dk (by omega),lQ]) e1.symm
    ·rw[aj h2,gg,aa,ld2,aa,iY,aa,az] at e1
     by_cases h3:L[i].leaf=0
     ·obtain ⟨v,mZ⟩:=nW (by omega:0<=L[i].var);have fT:v < ar.length:=by omega
      have oh:ar.getD v 0=ar[v]:=by rw[aT,bA fT,fg]
      have hiv:aG none (IA za oa ar) (.int .i64 L[i].var)=some (.vptr [.int .i64 ar[v]]):=by rw[mZ];exact j6 fT
      rw[aj (by simpa using h3),gg,aa,ld1,aa,iI,aa,aa,ld0,aa,hiv,aa,gz,aa,iY,aa,az] at e1
      by_cases h4:(L[i].kids.length:Int)=ar[v]
      ·have hd:decide (0<=L[i].var/\L[i].var < ar.length/\L[i].leaf=0/\(L[i].kids.length:Int)=ar.getD L[i].var.toNat 0)=true:=eT ⟨by omega,by omega,h3,by rw[mZ,cK,oh];exact h4⟩;rw[aj (by simpa using h4),aa,ld1,aa,iI,aa] at e1;have rC:L[i].kids.length<=100000:=by have:=hx _ (bM fT);omega
       have w:=SJ (za:=za) (zl:=zl) (z:=L[i].z) (zr:=z) (oa:=oa) (ol:=ol) (o:=L[i].o) (orr:=o) (ar:=ar) hi hl rC gq DM (RL zl ol L) (.int .i64 L.length) (.int .i64 i) L[i].kids.length 0 (by omega);have w:xE (IA za oa ar) (RL zl ol L) (.int .i64 i) (.ptr m.length 0) (RL zl ol L) (.int .i64 L.length) (.int .i64 i) (IA L[i].z L[i].o L[i].kids) (.int .i64 L[i].kids.length) (.int .i64 0) m4 (zH (tf (aF ae.P f107.results.toList)))=_:=w;rw[w,jT] at e1
       by_cases h5:L[i].kids.all (kidB L i L[i].var)=true
       ·rw[an h5,PU,cG (by omega),aa] at e1;exact good (by rw[lH,hd,h5];rfl) e1.symm
       ·rw[aj h5] at e1;exact bad _ (by rw[lH];simp only[Bool.not_eq_true] at h5;rw[h5,Bool.and_false]) e1.symm
      ·rw[an (by simpa using h4),tg] at e1;exact bad _ (by rw[lH,dk (fun h=>h4 (by have:=h.2.2.2;rw[mZ,cK,oh] at this;exact this)),lQ]) e1.symm
     ·rw[an (by simpa using h3),tg] at e1;exact bad _ (by rw[lH,dk (fun h=>h3 h.2.2.1),lQ]) e1.symm
theorem V65 (za zl:Bool) (oa ol:Own) (ar:List Int) (L:List RN) (hl:L.length<=100000) (hx:∀ a∈ar,1<=a/\a<=64):AP ae 107 [IA za oa ar,RL zl ol L]=some (.bool (qa ar L L.length 0)):=by
 obtain ⟨m',e⟩:=SI (za:=za) (zl:=zl) (z:=za) (oa:=oa) (ol:=ol) (o:=oa) (ar:=ar) hl hx L.length 0 [] (by omega) (fun k h=>by omega);refine iH (m:=m') (v:=.bool (qa ar L L.length 0)) (l:=[]) ?_ rfl rfl;rw[RE,D6,aa];exact e
theorem qnz (za zl:Bool) (oa ol:Own) (ar:List Int) (L:List RN) (hl:L.length<=100000) (hx:∀ a∈ar,1<=a/\a<=64) (d:Option Nat) (m:af):aD (AP ae) d m 107 [IA za oa ar,RL zl ol L]=some (.bool (qa ar L L.length 0),m):=by
 rw[fP (nA za oa ar) (qku zl ol L),V65 _ _ _ _ ar L hl hx];rfl
end Go.Ab
namespace Go.Ab
open Go.Proofs Go.Proofs.Tryz
theorem qkK {l r:List ND} {id:Nat} (h:id < l.length):(l++r).getD id ⟨0,[],0⟩=l.getD id ⟨0,[],0⟩:=by
 rw[aT,nl h,<- aT]
def vZ (ar:List Int) (l:List ND) (id:Nat):Int:=ft ar.length (l.getD id ⟨0,[],0⟩)
theorem SQ {ar:List Int} {l r:List ND} {id:Nat} (h:id < l.length):vZ ar (l++r) id=vZ ar l id:=by unfold vZ;rw[qkK h]
theorem CW {ar:List Int} {l:List ND} {id:Nat} (h:id < l.length):vZ ar l id=ft ar.length l[id]:=by unfold vZ;rw[jk h]
section
variable {m:af} {s:Nat} {F:List Nat} {arms:AV} {most:Int} {l:List ND}
theorem qgX {ar:List Int} {l:List ND} (g:GoodL ar l) {i:Nat} (hi:i < l.length):0<=vZ ar l i/\vZ ar l i<=ar.length:=by
 rw[CW hi];unfold ft
 split
 ·have:=(g.var i hi (by omega)).1;omega
 ·omega
theorem ZQ {g:Nat} {caps:List AV} {Q:Int->List ND->Prop} (h:eQ m s F arms most l) (h1:((ae.lib g).isNone && (ae.libm g).isNone)=true) (h2:ae.inl 84 g=true) (h3:ae.thaw 84 g=false)
  (hc:∀ m1,Fr m m1 []->∃ m' F' id l',AC ae g caps m1=some (.int .i64 id,m')/\Q id l'/\eQ m' s F' arms most l'/\Fr m1 m' F/\Gr m1 F F') :
  ∃ m' F' id l',AC ae 84 [.ptr s 0,.fn g caps] m=some (.tup [.int .i64 id,.int .i64 0],m')/\Q id l'/\eQ m' s F' arms most l'/\Fr m m' F/\Gr m F F':=by
 have hlt:=h.lt;obtain ⟨p,na,T,h,rfl⟩:=h;have hs:=h.hs;have mG:=bJ hs
 have hlen:aK false na=some (.int .i64 l.length):=by
  cases h.hn with
  | none=>rfl
  | some t l ht=>rw[oW,bU]
 obtain ⟨m2,F2,id,l',e2,hQ,k1,k2,k3⟩:=hc (List.set (((m++[some (Ent.obj true [.ptr s 0])])++[some (Ent.obj true [.int .i64 0])])++[some (Ent.obj true [.int .i64 0])]++[some (Ent.obj true [.int .i64 0])]) (m.length+1+1+1) (some (Ent.obj true [.int .i64 l.length]))) (((((Fr.app m _ _).snoc _).snoc _).snoc _).set _ (.inr (by omega)));have len2:=k2.len;simp only[aZ,aI,aJ,aM] at len2
 have g1:af.get m2 (m.length+1)=some (Ent.obj true [.int .i64 0]):=by
  rw[k2.get _ (by simp) (fun hx=>by have:=hlt _ hx;omega)];exact (by simp (disch:=(first | assumption | omega | (simp only[aI,aZ,aJ,aM];first | done | omega))) only[gK,cn,bV,cF,dM];first | done | rfl)
 have g2:af.get m2 (m.length+2)=some (Ent.obj true [.int .i64 0]):=by
  rw[k2.get _ (by simp) (fun hx=>by have:=hlt _ hx;omega)];exact (by simp (disch:=(first | assumption | omega | (simp only[aI,aZ,aJ,aM];first | done | omega))) only[gK,cn,bV,cF,dM];first | done | rfl)
 have e:AC ae 84 [.ptr s 0,.fn g caps] m=some (.tup [.int .i64 id,.int .i64 0],(m2.set (m.length+1) (some (Ent.obj true [.int .i64 id]))).set (m.length+1+1) (some (Ent.obj true [.int .i64 0]))):=by
  rw[RX]
  repeat ((with_reducible (first | apply bs | apply eX));(focus (first | (simp (disch:=(first | assumption | omega | (simp only[aI,aZ,aJ,aM];first | done | omega))) only[eW,beq_self_eq_true,cO,aa,Sh.size,bq,bC,Nat.reduceAdd,Nat.reduceLeDiff,aR,hs,hlen,pS];first | done | rfl) | rfl));try dsimp only)
  rw[bE,tw h1 h2 h3,e2,aa];dsimp only
  repeat ((with_reducible (first | apply bs | apply eX));(focus (first | (simp (disch:=(first | assumption | omega | (simp only[aI,aZ,aJ,aM];first | done | omega))) only[eW,beq_self_eq_true,cO,aa,Sh.size,bq,bC,Nat.reduceAdd,Nat.reduceLeDiff,aR,g1,g2];first | done | rfl) | rfl));try dsimp only)
 refine ⟨_,F2,id,l',e,hQ,?_,?_,?_⟩
 ·refine k1.move fun x hx=>?_
  have hx2:x≠m.length+1/\x≠m.length+1+1:=by
   rcases k3 x hx with h | h
   ·have:=hlt x h;omega
   ·simp only[aZ,aI,aJ,aM] at h;omega
  rw[cF hx2.2,cF hx2.1]
 ·have f1:Fr m m2 (s::p::T):=Fr.trans (((((Fr.app m _ _).snoc _).snoc _).snoc _).set _ (.inr (by omega))) k2 fun x hx=>.inl hx;exact (f1.set _ (.inr (by omega))).set _ (.inr (by omega))
 ·intro x hx
  rcases k3 x hx with h | h
  ·exact .inl h
  ·simp only[aZ,aI,aJ,aM] at h;exact .inr (by omega)
end
end Go.Ab
namespace Go.Ab
def wq (L:List RN) (y:Nat->Nat):Nat->Nat->Int
 | 0,_=>0
 | n+1,i=>if (L.getD i eP).var=-1 then (L.getD i eP).leaf else wq L y n ((L.getD i eP).kids.getD (y (L.getD i eP).var.toNat) 0).toNat
def EV (L:List RN) (y:Nat->Nat) (i:Nat):Int:=wq L y (i+1) i
def oK (ar:List Int) (L:List RN):Prop:=∀ i,i < L.length->nk ar L i (L.getD i eP)=true
theorem Xl {ar:List Int} {L:List RN}:∀ (j i:Nat),i+j=L.length->qa ar L j i=true->0 < L.length/\∀ k,i<=k->k < L.length->nk ar L k (L.getD k eP)=true
 | 0,i,h,ho=>⟨by simpa [qa] using ho,fun k h1 h2=>by omega⟩
 | j+1,i,h,ho=>by
  rw[qa,bT] at ho;obtain ⟨h1,h2⟩:=Xl j (i+1) (by omega) ho.2;refine ⟨h1,fun k hk1 kK=>?_⟩
  by_cases jt:k=i
  ·rw[jt];exact ho.1
  ·exact h2 k (by omega) kK
section
variable {ar:List Int} {L:List RN}
theorem qop (h:oK ar L) {i:Nat} (hi:i < L.length) (hv:(L.getD i eP).var=-1):(L.getD i eP).kids=[]/\0<=(L.getD i eP).leaf/\(L.getD i eP).leaf<=2147483647:=by
 have:=h i hi;unfold nk at this;rw[an hv] at this;simpa using this
theorem OT (h:oK ar L) {i:Nat} (hi:i < L.length) (hv:(L.getD i eP).var≠-1):∃ v:Nat,(L.getD i eP).var=v/\v < ar.length/\((L.getD i eP).kids.length:Int)=ar.getD v 0/\∀ k∈(L.getD i eP).kids,∃ t:Nat,k=t/\t < i/\((L.getD t eP).var=-1\/(v:Int) < (L.getD t eP).var):=by
 have:=h i hi;unfold nk at this;rw[aj hv] at this;simp only[bT,nt,fQ] at this;obtain ⟨⟨h1,h2,h3,h4⟩,h5⟩:=this;obtain ⟨v,mZ⟩:=nW h1;rw[mZ,cK] at h4;refine ⟨v,mZ,by omega,h4,fun k hk=>?_⟩;have:=h5 k hk;unfold kidB at this;simp only[bT,nt] at this;obtain ⟨t,rfl⟩:=nW this.1.1;rw[cK,mZ] at this;exact ⟨t,rfl,by omega,this.2⟩
theorem Yz (h:oK ar L) {i:Nat} (hi:i < L.length) (hv:(L.getD i eP).var≠-1) {y:Nat->Nat} (hy:iW ar y):∃ v t:Nat,(L.getD i eP).var=v/\v < ar.length/\(L.getD i eP).kids.getD (y v) 0=t/\t < i/\y v < (L.getD i eP).kids.length:=by
 obtain ⟨v,mZ,fT,hl,hk⟩:=OT h hi hv;have yS:=hy v fT;have hlt:y v < (L.getD i eP).kids.length:=by omega
 obtain ⟨t,e,ht,_⟩:=hk _ (bM hlt);exact ⟨v,t,mZ,fT,by rw[aT,bA hlt,fg,e],ht,hlt⟩
theorem TV (h:oK ar L) {y:Nat->Nat} (hy:iW ar y):∀ (n i m:Nat),i < L.length->i < n->i < m->wq L y n i=wq L y m i
 | 0,i,m,_,h,_=>by omega
 | n+1,i,0,_,_,h=>by omega
 | n+1,i,m+1,hi,_,_=>by
  rw[wq,wq]
  by_cases hv:(L.getD i eP).var=-1
  ·rw[an hv,an hv]
  ·rw[aj hv,aj hv];obtain ⟨v,t,mZ,fT,e,ht,_⟩:=Yz h hi hv hy;rw[mZ,cK,e,cK];exact TV h hy n t m (by omega) (by omega) (by omega)
theorem Z5 {y:Nat->Nat} {i:Nat} (hv:(L.getD i eP).var=-1):EV L y i=(L.getD i eP).leaf:=by
 unfold EV;rw[wq,an hv]
theorem Z6 (h:oK ar L) {y:Nat->Nat} (hy:iW ar y) {i:Nat} (hi:i < L.length) {v:Nat} (hv:(L.getD i eP).var=v):EV L y i=EV L y ((L.getD i eP).kids.getD (y v) 0).toNat:=by
 have hne:(L.getD i eP).var≠-1:=by omega
 obtain ⟨v',t,mZ,fT,e,ht,_⟩:=Yz h hi hne hy;have:v'=v:=by omega
 subst this;unfold EV;rw[wq,aj hne,mZ,cK,e,cK];exact TV h hy i t (t+1) (by omega) ht (by omega)
def zk (p:List ND×List Nat) (x:RN):List ND×List Nat:=
 if x.var < 0 then (jb p.1 (iC x.leaf),p.2++[p.1.idxOf (iC x.leaf)])
 else ((nH p.1 x.var ((x.kids.map fun k=>p.2.getD k.toNat 0).map Int.ofNat)).2,p.2++[(nH p.1 x.var ((x.kids.map fun k=>p.2.getD k.toNat 0).map Int.ofNat)).1.toNat])
def mb (L:List RN) (l:List ND) (i:Nat):List ND×List Nat:=(L.take i).foldl zk (l,[])
theorem Iw {l:List ND} {i:Nat} (hi:i < L.length):mb L l (i+1)=zk (mb L l i) (L.getD i eP):=by
 unfold mb;rw[n6 hi,List.foldl_append,aT,bA hi]
 rfl
def IT (a:Nat) (x:RN):Int:=if x.var=-1 then a else x.var
structure LI (ar:List Int) (L:List RN) (l0:List ND) (i:Nat) (l:List ND) (ids:List Nat):Prop where
 g:GoodL ar l
 len:ids.length=i
 gr:∃ r,l=l0++r/\r.length<=i
 at_:∀ k,k < i->ids.getD k 0 < l.length/\IT ar.length (L.getD k eP)<=vZ ar l (ids.getD k 0)/\∀ y,iW ar y->S l y (ids.getD k 0)=EV L y k
theorem Wu (h:oK ar L) (h1:∀ x∈ar,1<=x/\x<=64) (fC:ar.length<=16) {l0 l:List ND} {ids:List Nat} {i:Nat} (hi:i < L.length) (I:LI ar L l0 i l ids) (hl:l.length<=100000) (hv:¬ (L.getD i eP).var < 0) :
  ∃ r id,nH l (L.getD i eP).var (((L.getD i eP).kids.map fun k=>ids.getD k.toNat 0).map Int.ofNat)=(((id:Nat):Int),l++r)/\LI ar L l0 (i+1) (l++r) (ids++[id])/\(gU (L.getD i eP).var (((L.getD i eP).kids.map fun k=>ids.getD k.toNat 0).map Int.ofNat)).ok/\(L.getD i eP).kids≠[]:=by
 obtain ⟨v,mZ,fT,fL,hk⟩:=OT h hi (by omega);have lY:=h1 _ (bM fT);have aU:ar.getD v 0=ar[v]:=by rw[aT,bA fT,fg]
 have AW:∀ k∈(L.getD i eP).kids,∃ hh:ids.getD k.toNat 0 < l.length,(v:Int) < ft ar.length l[ids.getD k.toNat 0]:=fun k bL=>by
  obtain ⟨t,rfl,ht,hp⟩:=hk k bL;rw[cK];obtain ⟨a1,a2,_⟩:=I.at_ t ht;rw[CW a1] at a2;refine ⟨a1,?_⟩;unfold IT at a2
  split at a2
  ·omega
  ·rcases hp with hp | hp
   ·rename_i hne;exact absurd hp hne
   ·omega
 obtain ⟨r,id,e,hr,tQ,g2,hid,mI,hS⟩:=Xf I.g h1 fC fT (ks:=(L.getD i eP).kids.map fun k=>ids.getD k.toNat 0) (by rw[bU];exact fL) (fun q hq=>by
  obtain ⟨k,bL,rfl⟩:=iX.1 hq
  exact AW k bL) hl
 have AU:(L.getD i eP).kids≠[]:=fun hh=>by
  have h0:(L.getD i eP).kids.length=0:=by rw[hh];rfl
  omega
 rw[mZ]
 refine ⟨r,id,e,⟨g2,by simp[I.len],?_,fun k bL=>?_⟩,?_,AU⟩
 ·obtain ⟨r0,e0,wO⟩:=I.gr;exact ⟨r0++r,by rw[e0,ga],by rw[aI];omega⟩
 ·by_cases jt:k < i
  ·obtain ⟨a1,a2,a3⟩:=I.at_ k jt
   have e1:(ids++[id]).getD k 0=ids.getD k 0:=by
    rw[aT,nl (by rw[I.len];exact jt),<- aT]
   rw[e1];refine ⟨by rw[aI];omega,by rw[SQ a1];exact a2,fun y hy=>by rw[GY I.g r hy _ a1];exact a3 y hy⟩
  ·have:k=i:=by omega
   subst this
   have e1:(ids++[id]).getD k 0=id:=by
    rw[aT,rU (by rw[I.len];exact aR _),I.len];simp
   rw[e1]
   refine ⟨hid,?_,fun y hy=>?_⟩
   ·rw[CW hid];unfold IT;rw[aj (by omega),mZ];exact mI
   ·have yS:=hy v fT;have hlt:y v < (L.getD k eP).kids.length:=by omega
    obtain ⟨t,et,ht,_⟩:=hk _ (bM hlt);have e2:(L.getD k eP).kids.getD (y v) 0=(t:Int):=by rw[aT,bA hlt,fg,et]
    rw[hS y hy,Z6 h hy hi mZ,e2,cK,aT,n0,bA hlt];simp only[aQ,fg,et,cK];exact (I.at_ t ht).2.2 y hy
 ·refine .inr ⟨by simp only[gU];omega,by simp only[gU];omega,rfl,fun q hq=>?_,by simp only[gU,bU];omega⟩;obtain ⟨a,ha,rfl⟩:=iX.1 hq;obtain ⟨k,bL,rfl⟩:=iX.1 ha;obtain ⟨q1,_⟩:=AW k bL;refine ⟨rR _,?_⟩;show ((ids.getD k.toNat 0:Nat):Int) < 1000000;omega
theorem Wq (h:oK ar L) {l0 l:List ND} {ids:List Nat} {i:Nat} (hi:i < L.length) (I:LI ar L l0 i l ids) (hv:(L.getD i eP).var < 0) :
  ∃ r,jb l (iC (L.getD i eP).leaf)=l++r/\LI ar L l0 (i+1) (l++r) (ids++[l.idxOf (iC (L.getD i eP).leaf)])/\0<=(L.getD i eP).leaf/\(L.getD i eP).leaf<=2147483647:=by
 have kr:(L.getD i eP).var=-1:=by
  rcases Xn (h i hi) with h | h<;>omega
 obtain ⟨_,b1,b2⟩:=qop h hi kr;obtain ⟨r,e,hr,g2,tv⟩:=Wd I.g (x:=(L.getD i eP).leaf) ⟨b1,b2⟩
 refine ⟨r,e,⟨g2,by simp[I.len],?_,fun k bL=>?_⟩,b1,b2⟩
 ·obtain ⟨r0,e0,wO⟩:=I.gr;exact ⟨r0++r,by rw[e0,ga],by rw[aI];omega⟩
 ·by_cases jt:k < i
  ·obtain ⟨a1,a2,a3⟩:=I.at_ k jt
   have e1:(ids++[l.idxOf (iC (L.getD i eP).leaf)]).getD k 0=ids.getD k 0:=by
    rw[aT,nl (by rw[I.len];exact jt),<- aT]
   rw[e1];refine ⟨by rw[aI];omega,by rw[SQ a1];exact a2,fun y hy=>by rw[GY I.g r hy _ a1];exact a3 y hy⟩
  ·have:k=i:=by omega
   subst this
   have e1:(ids++[l.idxOf (iC (L.getD k eP).leaf)]).getD k 0=l.idxOf (iC (L.getD k eP).leaf):=by
    rw[aT,rU (by rw[I.len];exact aR _),I.len];simp
   rw[e1]
   refine ⟨tv.lt,?_,fun y hy=>?_⟩
   ·rw[CW tv.lt];unfold IT;rw[an kr];exact tv.top tv.lt
   ·rw[tv.val y hy,Z5 kr,List.drop_length];rfl
theorem Bf (h:oK ar L) (h1:∀ x∈ar,1<=x/\x<=64) (fC:ar.length<=16) {l0:List ND} (g:GoodL ar l0) (hl:l0.length+L.length<=4000):∀ i,i<=L.length->LI ar L l0 i (mb L l0 i).1 (mb L l0 i).2
 | 0,_=>⟨g,rfl,⟨[],by simp[mb],by simp⟩,fun k hk=>by omega⟩
 | i+1,hi=>by
  have I:=Bf h h1 fC g hl i (by omega);obtain ⟨r0,e0,wO⟩:=I.gr;have fq:(mb L l0 i).1.length<=100000:=by rw[e0,aI];omega
  rw[Iw (by omega)];unfold zk
  by_cases hv:(L.getD i eP).var < 0
  ·rw[an hv];obtain ⟨r,e,J,_⟩:=Wq h (by omega) I hv;rw[e];exact J
  ·rw[aj hv];obtain ⟨r,id,e,J,_⟩:=Wu h h1 fC (by omega) I fq hv;rw[e];exact J
end
end Go.Ab
namespace Go.Ab
noncomputable section
open Go.Proofs.Tryz
def Rb (x0 x3:AV) (m:af):St:=⟨(x0::aO (x3::bI (bD (aY (aP []))))),m⟩
def xF (x0 x1 x3 aL aV aX:AV) (m:af) (K:KT):OM:=b8 108 (ck (c2 (c2 (aC f108)))) 3 (x0::x1::aH (x3::aY (aL::aV::aX::bI (bD (aH []))))) m K
def Kn (x0 x1 x3 x4 x5 x6 aL aV aX:AV) (m:af):St:=⟨(x0::x1::aH (x3::x4::x5::x6::aP (aH (aL::aV::aX::bI (bD (aH [])))))),m⟩
def B9 (x0 x1 x3 x4 x5 x6 aL aV aX E2 E3 qP:AV) (m:af) (K:KT):OM:=b8 108 (ck (lT (Av (nr (c2 (aC f108)))))) 9 (x0::x1::aH (x3::x4::x5::x6::aP (aH (aL::aV::aX::bD (aO (aH (E2::E3::qP::bD (aY (aO (aH [])))))))))) m K
abbrev qag (K:KT):KT:=bF 108 (c2 (c2 (c2 (aC f108)))) K
abbrev qah (K:KT):KT:=bu 0 (qag K)
abbrev xB (K:KT):KT:=(qah K)
abbrev qaj (K:KT):KT:=bF 108 (lT (nr (c2 (aC f108)))) (oH 108 (ck (c2 (c2 (aC f108)))) 3 K)
abbrev qak (K:KT):KT:=bu 1 (qaj K)
abbrev qal (K:KT):KT:=bF 108 (bo (uO (ck (c2 (c2 (aC f108)))))) (qak K)
abbrev qam (K:KT):KT:=bu 2 (qal K)
abbrev B1 (K:KT):KT:=(qam K)
theorem qfc (a0 a1:AV) (m:af):AC ae 108 [a0,a1] m=(ai none m a0).bind fun v1=>(aK false v1).bind fun v2=>(iV none 3 none (.int .i64 0) 8 m v2 v2).bind fun r3=>(ai none r3.2 a0).bind fun v4=>(aK false v4).bind fun v5=>xF a0 a1 r3.1 v4 v5 (.int .i64 0) r3.2 (xB (aF ae.P f108.results.toList)):=
(bh ae 108 [a0,a1] m (fn:=f108) (c:=aC f108) qhp rfl).trans (by kernel_rfl)
theorem P8 (x0 x1 x3 aL aV aX:AV) (m:af) (K:KT):xF x0 x1 x3 aL aV aX m K=(ag .other .lss aX aV).bind fun v1=>aw v1 ((aG (some 3) aL aX).bind fun v2=>(ai (some 3) m v2).bind fun v3=>(aN (some 3) (aA none m (.obj true [(.int .i64 0),au,(.int .i64 0)])).2 (.ptr (aA none m .resv).1 0) v3).bind fun m4=>(aS 0 (.ptr (aA none m .resv).1 0)).bind fun v5=>(ai none m4 v5).bind fun v6=>(ag .other .lss v6 (.int .i64 0)).bind fun v7=>aw v7 ((ai none m4 x1).bind fun v8=>(aS 2 (.ptr (aA none m .resv).1 0)).bind fun v9=>(ai none m4 v9).bind fun v10=>(AC ae 96 [v8,v10] m4).bind fun jy=>(aG none x3 aX).bind fun v12=>(aN none jy.2 v12 jy.1).bind fun m13=>(ag .other .add aX (.int .i64 1)).bind fun bj=>xF x0 x1 x3 aL aV bj m13 K) ((aS 1 (.ptr (aA none m .resv).1 0)).bind fun bn=>(ai none m4 bn).bind fun bO=>(aK false bO).bind fun bB=>(iV none 3 none (.int .i64 0) 8 m4 bB bB).bind fun iJ=>(aS 1 (.ptr (aA none m .resv).1 0)).bind fun eU=>(ai none iJ.2 eU).bind fun v20=>(aK false v20).bind fun v21=>B9 x0 x1 x3 aX (.ptr (aA none m .resv).1 0) iJ.1 aL aV aX v20 v21 (.int .i64 0) iJ.2 (B1 K))) (K (.exit 0) (Rb x0 x3 m)):=
(b7 (bX _) _ _ _).trans (by kernel_rfl)
theorem P9 (x0 x1 x3 x4 x5 x6 aL aV aX E2 E3 qP:AV) (m:af) (K:KT):B9 x0 x1 x3 x4 x5 x6 aL aV aX E2 E3 qP m K=(ag .other .lss qP E3).bind fun v1=>aw v1 ((aG none E2 qP).bind fun v2=>(ai none m v2).bind fun v3=>(aG none x3 v3).bind fun v4=>(ai none m v4).bind fun v5=>(aG none x6 qP).bind fun v6=>(aN none m v6 v5).bind fun m7=>(ag .other .add qP (.int .i64 1)).bind fun v8=>B9 x0 x1 x3 x4 x5 x6 aL aV aX E2 E3 v8 m7 K) (K (.exit 2) (Kn x0 x1 x3 x4 x5 x6 aL aV aX m)):=
(b7 (bX _) _ _ _).trans (by kernel_rfl)
theorem qai (x0 x3:AV) (m:af):xB (aF ae.P f108.results.toList) (.exit 0) (Rb x0 x3 m)=(ai none m x0).bind fun v1=>(aK false v1).bind fun v2=>(ag .other .sub v2 (.int .i64 1)).bind fun v3=>(aG none x3 v3).bind fun v4=>(ai none m v4).bind fun v5=>some (v5,m):=by kernel_rfl
theorem qan (x0 x1 x3 x4 x5 x6 aL aV aX:AV) (m:af) (K:KT):B1 K (.exit 2) (Kn x0 x1 x3 x4 x5 x6 aL aV aX m)=(ai none m x1).bind fun v1=>(aS 0 x5).bind fun v2=>(ai none m v2).bind fun v3=>(yi (AC ae) m 99 [v1,v3,x6]).bind fun r4=>(aG none x3 x4).bind fun v5=>(aN none r4.2 v5 r4.1).bind fun m6=>(ag .other .add aX (.int .i64 1)).bind fun v7=>xF x0 x1 x3 aL aV v7 m6 K:=by kernel_rfl
end
end Go.Ab
namespace Go.Ab
open Go.Proofs Go.Proofs.Tryz
def iT (ids:List Nat) (n:Nat):List Int:=ids.map Int.ofNat++List.replicate (n - ids.length) 0
theorem Dd {ids:List Nat} {n:Nat} (h:ids.length<=n):(iT ids n).length=n:=by unfold iT;simp;omega
theorem LN {ids:List Nat} {n:Nat} (h:ids.length < n) (id:Nat):(iT ids n).set ids.length (id:Int)=iT (ids++[id]) n:=by
 unfold iT;obtain ⟨k,hk⟩:∃ k,n - ids.length=k+1:=⟨n - ids.length - 1,by omega⟩;have e2:n - (ids++[id]).length=k:=by simp;omega
 rw[hk,e2,tm _ _ (by simp),kX,ga];simp[xM]
theorem TH {ids:List Nat} {n t:Nat} (h:t < ids.length):(iT ids n).getD t 0=((ids.getD t 0:Nat):Int):=by
 unfold iT;rw[aT,nl (by simpa using h),n0,aT,bA h];rfl
theorem qjW {ids:List Nat}:iT ids ids.length=ids.map Int.ofNat:=by unfold iT;simp
theorem Wa {m:af} {nm i:Nat} {ds:List Int} (h:m.get nm=some (.obj false (ds.map (AV.int .i64)))) (hi:i < ds.length):ai none m (.ptr nm i)=some (.int .i64 (ds.getD i 0)):=by
 rw[eY,h,j7,aa,uP,n0,bA hi,aT,bA hi];rfl
theorem WD (m:af) (n:Nat) (h:n<=100000):iV none 3 none (.int .i64 0) 8 m (.int .i64 n) (.int .i64 n)=some (.arr m.length 0 n none,m++[some (Ent.obj false ((iT [] n).map (AV.int .i64)))]):=by
 have h3:(n:Int) * 8<=281474976710656:=by omega
 have h4:(n:Int)<=9223372036854775807:=by omega
 have h5:(0:Int)<=n:=by omega
 simp only[iV,aA,rN,qQ,bq,cK];rw[an ⟨h5,trivial,h3,h4⟩];simp[iT]
theorem qmj (m:af) (k:Nat):Fr m (jm m [k]) [k]:=⟨by rw[Bc];exact aR _,fun x _ hx=>by rw[kH,aj hx]⟩
section
variable {s b1 b2 nm:Nat} {F0:List Nat} {arms:AV} {ar:List Int} {L:List RN} {zl:Bool} {ol:Own} {l0:List ND}
theorem qgN {kids:List Int} {ids:List Nat} {z:Bool} {o:Own} {kq n:Nat} {m1:af} (sD:kq≠nm) (uX:ids.length<=n) (hk:∀ k∈kids,∃ t:Nat,k=t/\t < ids.length) (fL:kids.length<=1000) (hkq:kq < m1.length) (pX:nm < m1.length) (uW:m1.get nm=some (.obj false ((iT ids n).map (AV.int .i64)))) (x0 x1 x4 x5 aL aV aX:AV) (K:KT):∀ (j c:Nat) (m:af),c+j=kids.length->Fr m1 m [kq]->m.get kq=some (.obj false ((iT ((kids.take c).map fun k=>ids.getD k.toNat 0) kids.length).map (AV.int .i64))) ->
  ∃ m',B9 x0 x1 (.arr nm 0 n none) x4 x5 (.arr kq 0 kids.length none) aL aV aX (IA z o kids) (.int .i64 kids.length) (.int .i64 c) m (B1 K)=B1 K (.exit 2) (Kn x0 x1 (.arr nm 0 n none) x4 x5 (.arr kq 0 kids.length none) aL aV aX m')/\Fr m1 m' [kq]/\m'.get kq=some (.obj false (((kids.map fun k=>ids.getD k.toNat 0).map Int.ofNat).map (AV.int .i64))):=by
 intro j
 induction j with
 | zero=>
  intro c m hc f hg
  refine ⟨m,?_,f,?_⟩
  ·rw[P9,bg,aa,az,aj (by omega)]
  ·rw[hg,kY (by omega)];have:kids.length=(kids.map fun k=>ids.getD k.toNat 0).length:=by rw[bU]
   rw[this,qjW]
 | succ j ih=>
  intro c m hc f hg;have hcl:c < kids.length:=by omega
  obtain ⟨t,et,ht⟩:=hk _ (bM hcl);have DC:m.get nm=some (.obj false ((iT ids n).map (AV.int .i64))):=(f.get nm pX (by simpa using fun e=>sD e.symm)).trans uW;have qlf:=bJ hg;have ld:=Wa DC (i:=t) (by rw[Dd uX];omega);rw[TH ht] at ld;have gF:((kids.take c).map fun k=>ids.getD k.toNat 0).length=c:=by rw[bU,ji];omega
  have st:=O3 (y:=((ids.getD t 0:Nat):Int)) hg (i:=c) (by rw[Dd (by omega)];omega)
  have e1:(iT ((kids.take c).map fun k=>ids.getD k.toNat 0) kids.length).set c ((ids.getD t 0:Nat):Int)=iT ((kids.take (c+1)).map fun k=>ids.getD k.toNat 0) kids.length:=by
   have:=LN (ids:=(kids.take c).map fun k=>ids.getD k.toNat 0) (n:=kids.length) (by omega) (ids.getD t 0);rw[gF] at this;rw[this,n6 hcl,kX,et];rfl
  rw[e1] at st;obtain ⟨m',e,k⟩:=ih (c+1) _ (by omega) (f.set _ (.inl (by simp))) (dM rfl qlf);refine ⟨m',?_,k⟩;rw[P9,bg,aa,az,an (by omega),j6 hcl,aa,gz,aa,et,fU (by omega),aa,ld,aa,fU hcl,aa,st,aa,cG (by omega),aa];exact e
theorem W66 (h:oK ar L) (h1:∀ x∈ar,1<=x/\x<=64) (fC:ar.length<=16) (g0:GoodL ar l0) (hl:l0.length+L.length < 4000) (hL:0 < L.length) {m0:af} (pX:m0.length<=nm) (hb1:b1 < m0.length) (hb2:b2 < m0.length) (qkP:b1∉F0) (qkQ:b2∉F0) (hF0:∀ y∈F0,y < m0.length) (uW:m0.get b1=some (.obj true [RL zl ol L])) (pD:m0.get b2=some (.obj true [.ptr s 0])) :
  ∀ (j i:Nat) (m:af) (F:List Nat),i+j=L.length->eQ m s F arms 4000 (mb L l0 i).1->m.get nm=some (.obj false ((iT (mb L l0 i).2 L.length).map (AV.int .i64)))->nm∉F->Fr m0 m F0->Gr m0 F0 F ->
   ∃ m' F',xF (.ptr b1 0) (.ptr b2 0) (.arr nm 0 L.length none) (RL zl ol L) (.int .i64 L.length) (.int .i64 i) m (xB (aF ae.P f108.results.toList))=some (.int .i64 ((mb L l0 L.length).2.getD (L.length - 1) 0:Nat),m')/\eQ m' s F' arms 4000 (mb L l0 L.length).1/\Fr m0 m' F0/\Gr m0 F0 F':=by
 intro j
 induction j with
 | zero=>
  intro i m F hi st hg yF f gr;obtain rfl:i=L.length:=by omega
  have I:=Bf h h1 fC g0 (by omega) L.length (aR _);refine ⟨m,F,?_,st,f,gr⟩;have gb1:m.get b1=some (.obj true [RL zl ol L]):=(f.get b1 hb1 qkP).trans uW;have hlt:=I.len;have ld:=Wa hg (i:=L.length - 1) (by rw[Dd (by omega)];omega);rw[TH (by omega)] at ld;rw[P8,bg,aa,az,aj (by omega),qai,oV gb1,aa,D6,aa,oC (by omega) (by omega),aa,fU (by omega),aa,ld,aa]
 | succ j ih=>
  intro i m F hi st hg yF f gr;have cq:i < L.length:=by omega
  have I:=Bf h h1 fC g0 (by omega) i (by omega);have I2:=Bf h h1 fC g0 (by omega) (i+1) (by omega);have es:=Iw (l:=l0) cq;obtain ⟨r0,e0,wO⟩:=I.gr;have fq:(mb L l0 i).1.length<=l0.length+i:=by rw[e0,aI];omega
  have ru:=I.len;generalize mb L l0 i=p at *;obtain ⟨l,ids⟩:=p;simp only at st hg I e0 fq ru;have js:L.getD i eP=L[i]:=by rw[aT,bA cq,fg]
  have gY:=NB (z:=zl) (o:=ol) cq;have qlu:=bJ hg
  have bNotF:∀ b,b < m0.length->b∉F0->b∉F:=fun b hb hbF hh=>by
   rcases gr b hh with h4 | h4
   ·exact hbF h4
   ·omega
  have sn:aN (some 3) (m++[some (Ent.obj true [.int .i64 0,au,.int .i64 0])]) (.ptr m.length 0) (.agg [.int .i64 L[i].var,IA L[i].z L[i].o L[i].kids,.int .i64 L[i].leaf])=some (m++[some (Ent.obj true [.int .i64 L[i].var,IA L[i].z L[i].o L[i].kids,.int .i64 L[i].leaf])]):=O4 rfl;have f4:Fr m (m++[some (Ent.obj true [.int .i64 L[i].var,IA L[i].z L[i].o L[i].kids,.int .i64 L[i].leaf])]) []:=Fr.app m _ _;have gq:af.get (m++[some (Ent.obj true [.int .i64 L[i].var,IA L[i].z L[i].o L[i].kids,.int .i64 L[i].leaf])]) m.length=some (Ent.obj true [.int .i64 L[i].var,IA L[i].z L[i].o L[i].kids,.int .i64 L[i].leaf]):=bV rfl;have l4:(m++[some (Ent.obj true [.int .i64 L[i].var,IA L[i].z L[i].o L[i].kids,.int .i64 L[i].leaf])]).length=m.length+1:=by simp
  generalize m++[some (Ent.obj true [.int .i64 L[i].var,IA L[i].z L[i].o L[i].kids,.int .i64 L[i].leaf])]=m4 at sn f4 gq l4;have ld0:ai none m4 (.ptr m.length (0+0))=some (.int .i64 L[i].var):=by rw[eY,gq];rfl
  have ld1:ai none m4 (.ptr m.length (0+1))=some (IA L[i].z L[i].o L[i].kids):=by rw[eY,gq];rfl
  have ld2:ai none m4 (.ptr m.length (0+2))=some (.int .i64 L[i].leaf):=by rw[eY,gq];rfl
  have fm:=f.len;have gb2:m.get b2=some (.obj true [.ptr s 0]):=(f.get b2 hb2 qkQ).trans pD;have gb24:m4.get b2=some (.obj true [.ptr s 0]):=(f4.get b2 (by omega) (by simp)).trans gb2;have gn4:m4.get nm=some (.obj false ((iT ids L.length).map (AV.int .i64))):=(f4.get nm qlu (by simp)).trans hg;have f04:Fr m0 m4 F0:=Fr.trans f f4 fun _ hh=>by cases hh
  have st4:=st.app f4;have e1:xF (.ptr b1 0) (.ptr b2 0) (.arr nm 0 L.length none) (RL zl ol L) (.int .i64 L.length) (.int .i64 i) m (xB (aF ae.P f108.results.toList))=_:=P8 _ _ _ _ _ _ m _;rw[bg,aa,az,an (by omega),gY,aa,yX,aa,nG,nG] at e1;dsimp only at e1;rw[sn,aa,gg,aa,ld0,aa,bg,aa,az] at e1;unfold zk at es;rw[js] at es;dsimp only at es
  by_cases hv:L[i].var < 0
  ·rw[an hv] at es;obtain ⟨r,er,J,bl1,bl2⟩:=Wq h cq I (by rw[js];exact hv);rw[js] at er J bl1 bl2;obtain ⟨m5,F5,e54,k1,k2,k3⟩:=PI st4 (x:=L[i].leaf) ⟨bl1,bl2⟩ (by omega) (by omega);have gn5:m5.get nm=some (.obj false ((iT ids L.length).map (AV.int .i64))):=(k2.get nm (by omega) yF).trans gn4
   have Vm:nm∉F5:=fun hh=>by
    rcases k3 nm hh with h4 | h4
    ·exact yF h4
    ·omega
   have sti:=O3 (y:=((l.idxOf (iC L[i].leaf):Nat):Int)) gn5 (i:=i) (by rw[Dd (by omega)];omega);have ecs:=LN (ids:=ids) (n:=L.length) (by omega) (l.idxOf (iC L[i].leaf));rw[ru] at ecs;rw[ecs] at sti;rw[an hv,oV gb24,aa,gg,aa,ld2,aa,e54,aa,fU cq,aa,sti,aa,cG (by omega),aa] at e1;have M8:=bJ gn5
   have DD:Gr m F F5:=fun y hy=>by
    rcases k3 y hy with h4 | h4
    ·exact .inl h4
    ·exact .inr (by omega)
   obtain ⟨m',F',e,k⟩:=ih (i+1) (m5.set nm (some (.obj false ((iT (ids++[l.idxOf (iC L[i].leaf)]) L.length).map (AV.int .i64))))) F5 (by omega) (by rw[es];exact k1.move fun y hy=>cF (fun e=>Vm (e▸hy))) (by rw[es];exact dM rfl M8) Vm ((Fr.trans f04 k2 gr).set _ (.inr pX)) (Gr.trans f.len gr DD);exact ⟨m',F',e1.trans e,k⟩
  ·rw[aj hv] at es;obtain ⟨r,id,er,J,wK,AU⟩:=Wu h h1 fC cq I (by omega) (by rw[js];exact hv);obtain ⟨v,mZ,fT,fL,u7⟩:=OT h cq (by rw[js];omega);rw[js] at er wK AU mZ fL u7;have lY:=h1 _ (bM fT);have aU:ar.getD v 0=ar[v]:=by rw[aT,bA fT,fg]
   have qld:L[i].kids.length<=1000:=by omega
   have mk:=WD m4 L[i].kids.length (by omega);have f5:Fr m4 (m4++[some (Ent.obj false ((iT [] L[i].kids.length).map (AV.int .i64)))]) []:=Fr.app m4 _ _;have gk:af.get (m4++[some (Ent.obj false ((iT [] L[i].kids.length).map (AV.int .i64)))]) m4.length=some (Ent.obj false ((iT [] L[i].kids.length).map (AV.int .i64))):=bV rfl;have l5:(m4++[some (Ent.obj false ((iT [] L[i].kids.length).map (AV.int .i64)))]).length=m4.length+1:=by simp
   generalize m4++[some (Ent.obj false ((iT [] L[i].kids.length).map (AV.int .i64)))]=m5 at mk f5 gk l5;have ld15:ai none m5 (.ptr m.length (0+1))=some (IA L[i].z L[i].o L[i].kids):=by rw[eY,f5.get _ (by omega) (by simp),gq];rfl
   have gn5:m5.get nm=some (.obj false ((iT ids L.length).map (AV.int .i64))):=(f5.get nm (by omega) (by simp)).trans gn4
   obtain ⟨m6,e9,f6,gk6⟩:=qgN (nm:=nm) (kids:=L[i].kids) (ids:=ids) (z:=L[i].z) (o:=L[i].o) (kq:=m4.length) (n:=L.length) (m1:=m5) (by omega) (by omega) (fun k bL=>by
    obtain ⟨t,rfl,ht,_⟩:=u7 k bL
    exact ⟨t,rfl,by omega⟩) qld (by omega) (by omega) gn5 (.ptr b1 0) (.ptr b2 0) (.int .i64 i) (.ptr m.length 0) (RL zl ol L) (.int .i64 L.length) (.int .i64 i) (xB (aF ae.P f108.results.toList)) L[i].kids.length 0 m5 (by omega) (Fr.refl _ _) gk
   have e9:B9 (.ptr b1 0) (.ptr b2 0) (.arr nm 0 L.length none) (.int .i64 i) (.ptr m.length 0) (.arr m4.length 0 L[i].kids.length none) (RL zl ol L) (.int .i64 L.length) (.int .i64 i) (IA L[i].z L[i].o L[i].kids) (.int .i64 L[i].kids.length) (.int .i64 0) m5 (B1 (xB (aF ae.P f108.results.toList)))=_:=e9;have lm6:=f6.len;have g6:∀ y,y < m4.length->m6.get y=m4.get y:=fun y hy=>(f6.get y (by omega) (by simp;omega)).trans (f5.get y (by omega) (by simp));have gb26:m6.get b2=some (.obj true [.ptr s 0]):=(g6 b2 (by omega)).trans gb24;have ld06:ai none m6 (.ptr m.length (0+0))=some (.int .i64 L[i].var):=by rw[eY,g6 _ (by omega),gq];rfl
   have f7:=qmj m6 m4.length;have l7:=f7.len;have g7:∀ y,y < m4.length->af.get (jm m6 [m4.length]) y=m4.get y:=fun y hy=>(f7.get y (by omega) (by simp;omega)).trans (g6 y hy);have st7:eQ (jm m6 [m4.length]) s F arms 4000 l:=st4.move fun y hy=>g7 y (st4.lt y hy)
   have hfz:bH m6 km (.arr m4.length 0 L[i].kids.length none)=some (IA false .no ((L[i].kids.map fun k=>ids.getD k.toNat 0).map Int.ofNat),[m4.length]):=by
    have:=qkr gk6;rw[bU,bU] at this;exact this
   have hmf:fD (Az m6) [.ptr s 0,.int .i64 L[i].var,.arr m4.length 0 L[i].kids.length none]=some ([.ptr s 0,.int .i64 L[i].var,IA false .no ((L[i].kids.map fun k=>ids.getD k.toNat 0).map Int.ofNat)],[m4.length]):=by
    simp[fD,Az,hfz]
   obtain ⟨m8,F8,e59,k1,k2,k3⟩:=PJ st7 (v:=L[i].var) (z:=false) (o:=.no) (ks:=(L[i].kids.map fun k=>ids.getD k.toNat 0).map Int.ofNat) (by simpa using AU) wK rfl (.inl rfl) (by omega) (by omega);rw[er] at e59 k1 es;dsimp only at e59 k1 es
   have hc:yi (AC ae) m6 99 [.ptr s 0,.int .i64 L[i].var,.arr m4.length 0 L[i].kids.length none]=some (.int .i64 (id:Nat),m8):=by
    unfold yi;rw[hmf,aa];exact e59
   have gn8:m8.get nm=some (.obj false ((iT ids L.length).map (AV.int .i64))):=(k2.get nm (by omega) yF).trans ((g7 nm (by omega)).trans gn4)
   have Vn:nm∉F8:=fun hh=>by
    rcases k3 nm hh with h4 | h4
    ·exact yF h4
    ·omega
   have sti:=O3 (y:=((id:Nat):Int)) gn8 (i:=i) (by rw[Dd (by omega)];omega);have ecs:=LN (ids:=ids) (n:=L.length) (by omega) id;rw[ru] at ecs;rw[ecs] at sti;rw[aj hv,gg,aa,ld1,aa,iI,aa,mk,aa,aa,ld15,aa,iI,aa,e9,qan,oV gb26,aa,gg,aa,ld06,aa,hc,aa,fU cq,aa,sti,aa,cG (by omega),aa] at e1;have hn8:=bJ gn8
   have DD:Gr m F F8:=fun y hy=>by
    rcases k3 y hy with h4 | h4
    ·exact .inl h4
    ·exact .inr (by omega)
   have F48:Fr m0 m8 F0:=Fr.trans (Fr.trans (Fr.trans (Fr.trans f04 f5 fun _ hh=>by cases hh) f6 fun y hy=>by
    obtain rfl:y=m4.length:=by simpa using hy
    exact .inr (by omega)) f7 fun y hy=>by
    obtain rfl:y=m4.length:=by simpa using hy
    exact .inr (by omega)) k2 gr
   obtain ⟨m',F',e,k⟩:=ih (i+1) (m8.set nm (some (.obj false ((iT (ids++[id]) L.length).map (AV.int .i64))))) F8 (by omega) (by rw[es];exact k1.move fun y hy=>cF (fun e=>Vn (e▸hy))) (by rw[es,cK];exact dM rfl hn8) Vn (F48.set _ (.inr pX)) (Gr.trans f.len gr DD);exact ⟨m',F',e1.trans e,k⟩
end
end Go.Ab
namespace Go.Ab
open Go.Proofs Go.Proofs.Tryz
theorem qjn (sh:Sh) (z:Bool) (o:Own) (es:List AV) (m:af):eR none none m (.lst sh z o es)=some (.ptr m.length 0,m++[some (Ent.obj true [.lst sh z o es])]):=rfl
section
variable {s:Nat} {zs zl:Bool} {os ol:Own} {ar:List Int} {F:List Nat} {l0:List ND} {L:List RN}
theorem ZF (h:oK ar L) (h1:∀ x∈ar,1<=x/\x<=64) (fC:ar.length<=16) (g0:GoodL ar l0) (hl:l0.length+L.length < 4000) (hL:0 < L.length) {arms:AV} {m:af} (st:eQ m s F arms 4000 l0) {b1 b2:Nat} (hF1:b1∉F) (hF2:b2∉F) (g1:m.get b1=some (.obj true [RL zl ol L])) (g2:m.get b2=some (.obj true [.ptr s 0])) :
  ∃ m' F',AC ae 108 [.ptr b1 0,.ptr b2 0] m=some (.int .i64 ((mb L l0 L.length).2.getD (L.length - 1) 0:Nat),m')/\eQ m' s F' arms 4000 (mb L l0 L.length).1/\Fr m m' F/\Gr m F F':=by
 have mk:=WD m L.length (by omega);have f1:=Fr.app m (some (Ent.obj false ((iT [] L.length).map (AV.int .i64)))) F;have hb1:=bJ g1;obtain ⟨m',F',e,k⟩:=W66 (s:=s) (nm:=m.length) (arms:=arms) (zl:=zl) (ol:=ol) h h1 fC g0 hl hL (aR _) hb1 (bJ g2) hF1 hF2 st.lt g1 g2 L.length 0 (m++[some (Ent.obj false ((iT [] L.length).map (AV.int .i64)))]) F (by omega) (st.app (Fr.app m _ _)) (bV rfl) (fun hh=>by have:=st.lt _ hh;omega) f1 (Gr.refl _ _);refine ⟨m',F',?_,k⟩;have e:xF (.ptr b1 0) (.ptr b2 0) (.arr m.length 0 L.length none) (RL zl ol L) (.int .i64 L.length) (.int .i64 0) (m++[some (Ent.obj false ((iT [] L.length).map (AV.int .i64)))]) (xB (aF ae.P f108.results.toList))=_:=e;rw[qfc,oV g1,aa,D6,aa,mk,aa,oV (show af.get (m++[some (Ent.obj false ((iT [] L.length).map (AV.int .i64)))]) b1=some (.obj true [RL zl ol L]) by rw[cn hb1];exact g1),aa,D6,aa];exact e
theorem ZN (h:qa ar L L.length 0=true) (h1:∀ x∈ar,1<=x/\x<=64) (fC:ar.length<=16) (g0:GoodL ar l0) (hl:l0.length+L.length < 4000) {m:af} (st:eQ m s F (IA zs os ar) 4000 l0) :
  ∃ m' F',AC ae 44 [.ptr s 0,RL zl ol L] m=some (.tup [.int .i64 ((mb L l0 L.length).2.getD (L.length - 1) 0:Nat),.int .i64 0],m')/\eQ m' s F' (IA zs os ar) 4000 (mb L l0 L.length).1/\Fr m m' F/\Gr m F F':=by
 obtain ⟨hL,vn⟩:=Xl L.length 0 (by omega) h;have vn:oK ar L:=fun i hi=>vn i (mw _) hi;have f2:Fr m ((m++[some (Ent.obj true [.ptr s 0])])++[some (Ent.obj true [RL zl ol L])]) []:=(Fr.app m _ _).snoc _;have st2:=st.app f2;have e50:=BU st2 (by omega)
 have hs:∃ na p,af.get m s=some (Ent.obj true [IA zs os ar,na,.mref p,.int .i64 4000]):=by
  obtain ⟨p,na,T,h,rfl⟩:=st;exact ⟨na,p,h.hs⟩
 obtain ⟨na,p,hs⟩:=hs;have mG:=bJ hs;have p65:=fun d m=>qnz zs zl os ol ar L (by omega) h1 d m;rw[h] at p65
 obtain ⟨m',F',id,l',e52,hQ,k1,k2,k3⟩:=ZQ (g:=108) (caps:=[.ptr (m.length+1) 0,.ptr m.length 0]) (Q:=fun id l'=>id=((mb L l0 L.length).2.getD (L.length - 1) 0:Nat)/\l'=(mb L l0 L.length).1) st2 rfl rfl rfl
  (fun m1 fr=>by
   obtain ⟨m',F',e,k1,k2,k3⟩:=ZF (zl:=zl) (ol:=ol) vn h1 fC g0 hl hL (st2.app fr) (b1:=m.length+1) (b2:=m.length) (fun hh=>by have:=st.lt _ hh;omega) (fun hh=>by have:=st.lt _ hh;omega) (by rw[fr.get _ (by simp) (by simp)];exact (by simp (disch:=(first | assumption | omega | (simp only[aI,aZ,aJ,aM];first | done | omega))) only[gK,cn,bV,cF,dM];first | done | rfl)) (by rw[fr.get _ (by simp) (by simp)];exact (by simp (disch:=(first | assumption | omega | (simp only[aI,aZ,aJ,aM];first | done | omega))) only[gK,cn,bV,cF,dM];first | done | rfl))
   exact ⟨m',F',_,_,e,⟨rfl,rfl⟩,k1,k2,k3⟩)
 obtain ⟨rfl,rfl⟩:=hQ;refine ⟨m',F',?_,k1,Fr.trans (f2.mono (by simp)) k2 fun y hy=>.inl hy,Gr.trans f2.len (Gr.refl _ _) k3⟩;rw[T44]
 repeat ((with_reducible (first | apply bs | apply eX));(focus (first | (simp (disch:=(first | assumption | omega | (simp only[aI,aZ,aJ,aM];first | done | omega))) only[eW,beq_self_eq_true,cO,aa,Sh.size,bq,bC,Nat.reduceAdd,Nat.reduceLeDiff,aR,pS,qjn,e50];first | done | rfl) | rfl));try dsimp only)
 rw[ig]
 repeat ((with_reducible (first | apply bs | apply eX));(focus (first | (simp (disch:=(first | assumption | omega | (simp only[aI,aZ,aJ,aM];first | done | omega))) only[eW,beq_self_eq_true,cO,aa,Sh.size,bq,bC,Nat.reduceAdd,Nat.reduceLeDiff,aR,hs,p65];first | done | rfl) | rfl));try dsimp only)
 rw[jN,ig]
 repeat ((with_reducible (first | apply bs | apply eX));(focus (first | (simp (disch:=(first | assumption | omega | (simp only[aI,aZ,aJ,aM];first | done | omega))) only[eW,beq_self_eq_true,cO,aa,Sh.size,bq,bC,Nat.reduceAdd,Nat.reduceLeDiff,aR,e52];first | done | rfl) | rfl));try dsimp only)
end
end Go.Ab
namespace Go.Ab
open Go.Proofs Go.Proofs.Tryz
inductive GS (e:Nat) (m:af):AV->List AV->List Nat->Prop
 | none:GS e m au [] []
 | some (t:Nat) (es:List AV) (ht:m.get t=some (.tok es.length 3)) (hne:es≠[]):GS e m (.lst (some 3) false (.tok t e) es) es [t]
end Go.Ab
namespace Go.Ab
open Go.Proofs Go.Proofs.Tryz
def jR (n:ND):RN:=⟨n.var,kz n,ko n,n.kids,n.leaf⟩
theorem qpe {n:ND} (h:n.ok):(jR n).av=n.av:=by
 unfold ND.av;rw[uc h];rfl
theorem qe0 {z:Bool} {o:Own} {P:List ND} (h:∀ n∈P,n.ok):NL z o P=RL z o (P.map jR):=by
 have:(P.map jR).map RN.av=P.map ND.av:=by
  rw[rW];exact List.map_congr_left fun n hn=>qpe (h n hn)
 rw[RL,this]
section
variable {ar:List Int} {l:List ND}
theorem Ai {P:List ND} {i:Nat} (hi:i < P.length):(P.map jR).getD i eP=jR P[i]:=by
 rw[aT,n0,bA hi];rfl
theorem Xm {L:List RN} (h:oK ar L) (hL:0 < L.length):∀ (j i:Nat),i+j=L.length->qa ar L j i=true
 | 0,i,_=>eT hL
 | j+1,i,hi=>by rw[qa,h i (by omega),Xm h hL j (i+1) (by omega)];rfl
theorem Bh {out:List Nat} {i:Nat} (hi:i < out.length):(eu l out)[i]'(by unfold eu;rw[bU];exact hi)=nd l out out[i]:=by
 unfold eu;rw[ti]
theorem C9 {out:List Nat} (hc:Cl l out) {i:Nat} (hi:i < out.length) (hj:out[i] < l.length) {k:Int} (hk:k∈l[out[i]].kids):out.idxOf k.toNat < i/\out[out.idxOf k.toNat]?=some k.toNat:=by
 have h1:=hc.cl i hi hj k hk;have h2:(out.take i).idxOf k.toNat < (out.take i).length:=List.idxOf_lt_length_of_mem h1
 have h3:out.idxOf k.toNat=(out.take i).idxOf k.toNat:=by
  conv=>lhs;rw[<- n5 i out]
  rw[List.idxOf_append,an h1]
 have h4:out.idxOf k.toNat < i:=by rw[h3];rw[ji] at h2;omega
 have h5:out.idxOf k.toNat < out.length:=by omega
 exact ⟨h4,by rw[bA h5,List.getElem_idxOf]⟩
theorem Rv (g:GoodL ar l) {out:List Nat} (hc:Cl l out):oK ar ((eu l out).map jR):=by
 intro i hi;have mW:((eu l out).map jR).length=out.length:=by unfold eu;rw[bU,bU]
 have jY:i < out.length:=by omega
 have uY:i < (eu l out).length:=by unfold eu;rw[bU];exact jY
 have hj:=hc.lt _ (bM jY);rw[Ai uY,Bh jY]
 have hnd:jR (nd l out out[i])=⟨l[out[i]].var,kz (nd l out out[i]),ko (nd l out out[i]),l[out[i]].kids.map (fun k=>((out.idxOf k.toNat:Nat):Int)),l[out[i]].leaf⟩:=by
  unfold jR nd;rw[jk hj]
 have be:=g.ok _ (bM hj);unfold nk;rw[hnd]
 by_cases hv:l[out[i]].var < 0
 ·rcases be with ⟨a1,a2,a3⟩ | ⟨a1,_⟩
  ·rw[an a1];exact eT ⟨by simp[a2],a3⟩
  ·omega
 ·rcases be with ⟨a1,_⟩ | ⟨a1,a2,a3,a4,a5⟩
  ·omega
  ·have hne:¬ l[out[i]].var=-1:=by omega
   obtain ⟨b1,b2⟩:=g.var _ hj (by omega);rw[aj hne,bT];refine ⟨eT ⟨a1,b1,a3,by simpa using b2⟩,fQ.2 fun q hq=>?_⟩;obtain ⟨k,hk,rfl⟩:=iX.1 hq;obtain ⟨c1,c2⟩:=C9 hc jY hj hk;obtain ⟨t,ek,ht,DX⟩:=g.kid _ hj (by omega) k hk;have gF:t < l.length:=by omega
   have DX:=DX gF;have c3:out.idxOf k.toNat < out.length:=by omega
   have c4:out[out.idxOf k.toNat]=t:=by
    rw[bA c3] at c2;have:=po c2;rw[this,ek,cK]
   unfold kidB;rw[cK,Ai (by unfold eu;rw[bU];exact c3),Bh c3,c4];have vf:(jR (nd l out t)).var=l[t].var:=by unfold jR nd;rw[jk gF]
   rw[vf,bT];refine ⟨eT (by omega),eT ?_⟩;unfold ft at DX
   split at DX
   ·exact .inr DX
   ·rcases g.ok _ (bM gF) with ⟨d1,_⟩ | ⟨d1,_⟩
    ·exact .inl d1
    ·omega
theorem We {n:ND} (h:n.ok) (hv:n.var < 0):iC n.leaf=n:=by
 rcases h with ⟨a1,a2,_⟩ | ⟨a1,_⟩
 ·obtain ⟨v,k,x⟩:=n;simp only at a1 a2;rw[a1,a2];rfl
 ·omega
theorem Xg {n:ND} (h:n.ok) (hv:¬ n.var < 0):gU n.var n.kids=n:=by
 rcases h with ⟨a1,_⟩ | ⟨_,_,a3,_⟩
 ·omega
 ·obtain ⟨v,k,x⟩:=n;simp only at a3;rw[a3];rfl
theorem Xe {l:List ND} {v:Int} {ks:List Int} (h:∃ k∈ks,k≠ks.headD 0):nH l v ks=(((l.idxOf (gU v ks):Nat):Int),jb l (gU v ks)):=by
 unfold nH;rw[aj];intro hh;obtain ⟨k,hk,hne⟩:=h;exact hne (by simpa using fQ.1 hh k hk)
theorem Wv (g:GoodL ar l) {out:List Nat} (hc:Cl l out):∀ i,i<=out.length->mb ((eu l out).map jR) l i=(l,out.take i)
 | 0,_=>rfl
 | i+1,hi=>by
  have jY:i < out.length:=by omega
  have uY:i < (eu l out).length:=by unfold eu;rw[bU];exact jY
  have hj:=hc.lt _ (bM jY);have be:=g.ok _ (bM hj);rw[Iw (by rw[bU];exact uY),Wv g hc i (by omega),Ai uY,Bh jY,n6 jY];have e1:(jR (nd l out out[i])).var=l[out[i]].var:=by unfold jR nd;rw[jk hj]
  have e2:(jR (nd l out out[i])).leaf=l[out[i]].leaf:=by unfold jR nd;rw[jk hj]
  have e3:(jR (nd l out out[i])).kids=l[out[i]].kids.map (fun k=>((out.idxOf k.toNat:Nat):Int)):=by unfold jR nd;rw[jk hj]
  have gh:l[out[i]]∈l:=bM hj;have gY:l.idxOf l[out[i]]=out[i]:=Bn g.nd (List.idxOf_lt_length_of_mem gh) hj (List.getElem_idxOf _);unfold zk;rw[e1,e2,e3]
  by_cases hv:l[out[i]].var < 0
  ·rw[an hv,We be hv];simp only[jb,an gh,gY]
  ·rw[aj hv]
   have ek:((l[out[i]].kids.map (fun k=>((out.idxOf k.toNat:Nat):Int))).map fun k=>(out.take i).getD k.toNat 0).map Int.ofNat=l[out[i]].kids:=by
    rw[rW,rW]
    conv=>rhs;rw[<- List.map_id l[out[i]].kids]
    refine List.map_congr_left fun k hk=>?_;obtain ⟨c1,c2⟩:=C9 hc jY hj hk;obtain ⟨t,et,_⟩:=pF g hj k hk;simp only[Function.comp,cK,id];rw[aT,qo,an c1,c2,fg,et];simp
   simp only[ek];rw[Xe (g.dif _ hj (by omega)),Xg be hv];simp only[jb,an gh,gY,cK]
theorem qmJ (g:GoodL ar l) {out:List Nat} (hc:Cl l out):(eu l out).Nodup:=by
 unfold eu;rw[List.nodup_iff_pairwise_ne,List.pairwise_map];refine List.Pairwise.imp_of_mem ?_ (List.nodup_iff_pairwise_ne.1 hc.nd);intro a b ha hb hne e;exact hne (Od g (hc.lt a ha) (hc.lt b hb) (hc.kids ha (hc.lt a ha)) (hc.kids hb (hc.lt b hb)) e)
theorem qm4 {α:Type} [DecidableEq α] {P:List α} (h:P.Nodup) {i:Nat} (hi:i < P.length):P[i]∉P.take i:=fun hm=>by
 obtain ⟨k,hk,e⟩:=pM hm;rw[ji] at hk;rw[List.getElem_take] at e;have:=Bn h (by omega) hi e;omega
theorem Wt (g:GoodL ar l) (fq:l.length<=100000) {out:List Nat} (hc:Cl l out):∀ i,i<=out.length->mb ((eu l out).map jR) [] i=((eu l out).take i,List.range i)
 | 0,_=>rfl
 | i+1,hi=>by
  have jY:i < out.length:=by omega
  have uY:i < (eu l out).length:=by unfold eu;rw[bU];exact jY
  have hj:=hc.lt _ (bM jY);have Vr:=sU _ _ hc.nd hc.lt;have be:=Ej g fq (p:=out) (by omega) hj;have pX:=qm4 (qmJ g hc) uY;rw[Bh jY] at pX;have hlt:((eu l out).take i).length=i:=by rw[ji];omega
  rw[Iw (by rw[bU];exact uY),Wt g fq hc i (by omega),Ai uY,Bh jY,n6 uY,Bh jY,List.range_succ];have e3:(nd l out out[i]).kids=l[out[i]].kids.map (fun k=>((out.idxOf k.toNat:Nat):Int)):=by unfold nd;rw[jk hj]
  have e1:(nd l out out[i]).var=l[out[i]].var:=by unfold nd;rw[jk hj]
  show zk _ (jR (nd l out out[i]))=_;unfold zk jR
  by_cases hv:(nd l out out[i]).var < 0
  ·simp only[an hv];rw[We be hv];simp only[jb,aj pX,D4 pX,hlt]
  ·simp only[aj hv]
   have ek:((nd l out out[i]).kids.map fun k=>(List.range i).getD k.toNat 0).map Int.ofNat=(nd l out out[i]).kids:=by
    rw[e3,rW,rW];refine List.map_congr_left fun k hk=>?_;obtain ⟨c1,_⟩:=C9 hc jY hj hk;simp only[Function.comp,cK];rw[aT,List.getElem?_range c1,fg];rfl
   simp only[ek]
   have hd:∃ k∈(nd l out out[i]).kids,k≠(nd l out out[i]).kids.headD 0:=by
    obtain ⟨k,hk,hne⟩:=g.dif _ hj (by rw[e1] at hv;omega);rw[e3];refine ⟨_,List.mem_map_of_mem hk,fun e=>hne ?_⟩
    cases AW:l[out[i]].kids with
    | nil=>rw[AW] at hk;cases hk
    | cons k0 kt=>
     rw[AW,fV,List.headD_cons] at e;rw[List.headD_cons];have uZ:k0∈l[out[i]].kids:=by rw[AW];exact fJ
     obtain ⟨_,c2⟩:=C9 hc jY hj hk;obtain ⟨_,d2⟩:=C9 hc jY hj uZ;have e':out.idxOf k.toNat=out.idxOf k0.toNat:=by omega
     rw[e'] at c2;rw[c2] at d2;have e4:=po d2;obtain ⟨t,et,_⟩:=pF g hj k hk;obtain ⟨t0,et0,_⟩:=pF g hj k0 uZ;omega
   rw[Xe hd,Xg be hv];simp only[jb,aj pX,D4 pX,hlt,cK]
end
end Go.Ab
namespace Go.Ab
open Go.Proofs Go.Proofs.Tryz
theorem qjg {a b:ND} (ha:a.ok) (hb:b.ok) (h:a.av=b.av):a=b:=by
 unfold ND.av at h;rw[uc ha,uc hb] at h;simp only[AV.agg.injEq,pj,AV.int.injEq,AV.lst.injEq,and_true,true_and] at h;obtain ⟨h1,⟨_,_,h2⟩,h3⟩:=h;have h2:=(List.map_inj_right (fun x y e=>by simpa using e)).1 h2;cases a;cases b;simp_all
theorem WO:∀ {P Q:List ND},(∀ n∈P,n.ok)->(∀ n∈Q,n.ok)->P.map ND.av=Q.map ND.av->P=Q
 | [],[],_,_,_=>rfl
 | [],_::_,_,_,h=>by cases h
 | _::_,[],_,_,h=>by cases h
 | a::P,b::Q,hp,hq,h=>by
  simp only[fV,pj] at h;rw[qjg (hp a fJ) (hq b fJ) h.1,WO (fun n hn=>hp n (fI _ hn)) (fun n hn=>hq n (fI _ hn)) h.2]
theorem W49 {s:AV} {z:Bool} {o:Own} {L:List ND} (hL:L.length<=100000) (K:KT):∀ (q p:List ND) (m:af) (x:AV) (T:List Nat),L=p++q->NR 74 m x p T ->
  ∃ (m':af) (x':AV) (T':List Nat),Co s x (NL z o L) (.int .i64 L.length) (.int .i64 p.length) m K=K (.exit 0) (KY s x' m')/\NR 74 m' x' L T'/\Fr m m' T/\Gr m T T':=by
 intro q
 induction q with
 | nil=>
  intro p m x T fS h;rw[bP] at fS;subst fS;refine ⟨m,x,T,?_,h,Fr.refl _ _,Gr.refl _ _⟩;rw[QX,bg,aa,az,aj (by omega)]
 | cons n q ih=>
  intro p m x T fS h;have hpl:p.length < L.length:=by rw[fS];simp
  have iv:L[p.length]=n:=by simp[fS]
  have gY:=Nz (z:=z) (o:=o) hpl;rw[iv] at gY;have bx:=Hj n m (HL m);have f1:Fr m (m++[some (Ent.obj true [.int .i64 n.var,fc n,.int .i64 n.leaf])]) T:=Fr.app m _ _;have h2:NR 74 (m++[some (Ent.obj true [.int .i64 n.var,fc n,.int .i64 n.leaf])]) x p T:=vB h fun k hk=>(Fr.app m _ []).get k (vA h k hk) (by simp);obtain ⟨x3,m3,T3,ea,n3,f3,g3⟩:=Xi h2 (by omega) n;obtain ⟨m',x',T',e,k1,k2,k3⟩:=ih (p++[n]) m3 x3 T3 (by rw[fS,ga];rfl) n3
  have g13:Gr m T T3:=fun a ha=>by
   rcases g3 a ha with hh | hh
   ·exact .inl hh
   ·rw[aI] at hh;exact .inr (by omega)
  have f13:Fr m m3 T:=Fr.trans f1 f3 fun a ha=>.inl ha;refine ⟨m',x',T',?_,k1,Fr.trans f13 k2 g13,Gr.trans f13.len g13 k3⟩
  have ld2:ai (some 3) (m++[some (Ent.obj true [.int .i64 n.var,fc n,.int .i64 n.leaf])]) (.ptr m.length 0)=some n.av:=by
   rw[eY,bV rfl];rfl
  have om:fh (some 3) [n.av]=some (.lst (some 3) false .full [n.av]):=qjq n;rw[QX,bg,aa,az,an (by omega),gY,aa,yX,aa,nG,nG];dsimp only;rw[bx,aa,ld2,aa,om,aa,ea,aa,cG (by omega),aa];rw[aI] at e;exact e
theorem ZP {za zt:Bool} {oa ot:Own} {ar t:List Int} (m0:af) (VI:za=true->ar=[]) (he:og ar=0) (hp:b9 ar<=300) (gF:t.length=b9 ar) (Nv:∀ y∈t,0<=y/\y<=4) :
  ∃ m' s F zs os P,AC ae 49 [IA za oa ar,IA zt ot t] m0=some (.tup [.ptr s 0,.int .i64 (P.length - 1:Nat),.bool true],m')/\eQ m' s F (IA zs os ar) 4000 P/\GoodL ar P/\0 < P.length/\P.length < 4000/\TabV ar P (P.length - 1) 0 t/\Fr m0 m' []/\(∀ x∈F,m0.length<=x) /\
   eu P (Vi P (P.length - 1) [])=P/\∀ z o z' o',AP ae 31 [IA z o ar,IA z' o' t]=some (NL false .no P):=by
 obtain ⟨h1,h2⟩:=xW he;obtain ⟨mA,sA,FA,zA,oA,l1,id1,_,stA,g1,tab1,mW,_,_⟩:=ZL (za:=za) (z:=zt) (oa:=oa) (o:=ot) (ar:=ar) (t:=t) m0 VI he hp gF Nv;have fq:l1.length<=100000:=by omega
 obtain ⟨c1,c2,_⟩:=qs g1 id1 tab1.lt [] ri;have eV:=tt g1 tab1.lt [];rw[aj (by simp)] at eV;have Mp:=fun z o z' o'=>Sj g1 h2 fq h1 hp tab1 z z' o o';generalize qpX:Vi l1 id1 []=out at *;have Vr:=sU _ _ c1.nd c1.lt;have ho0:0 < out.length:=List.length_pos_of_mem c2;have pz:(eu l1 out).length=out.length:=by unfold eu;rw[bU]
 have hne:eu l1 out≠[]:=fun e=>by rw[e] at pz;simp at pz;omega
 have be:=IB g1 fq c1;have vn:=Rv g1 c1;have hLl:((eu l1 out).map jR).length=out.length:=by rw[bU,pz]
 have qlz:=Xm vn (by omega) ((eu l1 out).map jR).length 0 (by omega);obtain ⟨m4,s',F4,zs',os',e14,st4,f4,Ux⟩:=PD m0 za oa ar VI he;obtain ⟨m5,x5,T5,e49,M8,f5,_⟩:=W49 (s:=.ptr s' 0) (z:=false) (o:=.no) (L:=eu l1 out) (by omega) (Fw (aF ae.P f49.results.toList)) (eu l1 out) [] m4 au [] rfl .none;obtain ⟨tk,rfl⟩:=Ol M8 hne;have hNR:=qe0 (z:=false) (o:=.tok tk 74) be;have st5:=st4.app f5;obtain ⟨m6,F6,e44,st6,f6,gr6⟩:=ZN (zl:=false) (ol:=.tok tk 74) qlz h2 h1 Mo (by simp;omega) st5;have tP:=Wt g1 fq c1 out.length (aR _);have I:=Bf vn h2 h1 Mo (by simp;omega) out.length (by omega);have I0:=Bf vn h2 h1 g1 (by omega) out.length (by omega);have No:=Wv g1 c1 out.length (aR _);rw[hLl,tP] at e44 st6;rw[tP] at I;rw[No] at I0;have hPt:(eu l1 out).take out.length=eu l1 out:=by rw[<- pz,List.take_length]
 rw[hPt] at st6 I;dsimp only at e44 st6 I I0;rw[<- hNR] at e44;obtain ⟨a1,a2,a3⟩:=I.at_ (out.length - 1) (by omega);obtain ⟨b1,b2,b3⟩:=I0.at_ (out.length - 1) (by omega)
 have oS:out.getD (out.length - 1) 0=id1:=by
  rw[eV,aT];simp
 rw[List.take_length,oS] at b3
 have hx:(List.range out.length).getD (out.length - 1) 0=out.length - 1:=by
  rw[aT,List.getElem?_range (by omega)];rfl
 rw[hx] at a1 a2 a3 e44
 have tab2:TabV ar (eu l1 out) (out.length - 1) 0 t:=by
  refine ⟨tab1.len,a1,fun hh=>?_,fun y hy=>?_⟩
  ·have:=qgX I.g a1;rw[CW a1] at this;exact this.1
  ·rw[a3 y hy,<- b3 y hy];exact tab1.val y hy
 have Mq:=Sj I.g h2 (by omega) h1 hp tab2 za zt oa ot;obtain ⟨d1,_,_⟩:=qs I.g (out.length - 1) tab2.lt [] ri;have qly:=IB I.g (by omega) d1;rw[Mp za oa zt ot] at Mq;simp only[bG,AV.lst.injEq,true_and] at Mq;have hsf:=WO qly be Mq.symm
 refine ⟨m6,s',F6,zs',os',eu l1 out,?_,st6,I.g,by omega,by omega,by rw[pz];exact tab2,?_,?_,by rw[pz];exact hsf,fun z o z' o'=>Mp z o z' o'⟩
 ·have p31:aD (AP ae) none m4 31 [IA za oa ar,IA zt ot t]=some (NL false .no (eu l1 out),m4):=by
   rw[fP (nA za oa ar) (nA zt ot t),Mp];rfl
  have e49:Co (.ptr s' 0) au (NL false .no (eu l1 out)) (.int .i64 (eu l1 out).length) (.int .i64 0) m4 (Fw (aF ae.P f49.results.toList))=_:=e49;rw[T49,e14,aa,rj,aa,rl,aa,iY,aa,az,aj (by omega),p31,aa,Wg,aa];dsimp only;rw[e49,qdP,e44,aa,rj,aa,rl,aa,ir,aa,pz]
  rfl
 ·exact Fr.trans (Fr.trans f4 f5 fun _ h=>by cases h) f6 fun x hx=>.inr (Ux x hx)
 ·intro x hx;have:=(f4.len);have:=(f5.len)
  rcases gr6 x hx with h | h
  ·exact Ux x h
  ·omega
end Go.Ab
namespace Go.Ab
open Go.Proofs Go.Proofs.Tryz
theorem WV.mulp {M N a S:Nat} {r p:RV} (hM:M < 4294967296 ^ 8) (h:WV M r (S * N)) (hS:S≠0) (hp:Can p (dh false a S)) (sH:ROk 9 p) (hb:a * N<=M):∃ x:RV,AP ae 69 [p.av,r.av]=some x.av/\WV M x (a * N):=by
 obtain ⟨x,e,hc,hf⟩:=Ll sH h.ok (by omega) (by omega);refine ⟨x,e,Can.wv hM hb ?_ hf⟩;rw[h.q,hp.q,Er] at hc;have e1:a * (S * N)=a * N * S:=by rw[cP S N,fB]
 rw[show (false != false)=false from rfl,e1,cP S M,IY hS] at hc;exact hc
structure WC (M:Nat) (r:RV) (N:Nat):Prop where
 wv:WV M r N
 can:Can r (dh false N M)
theorem Can.wc {M N:Nat} {r:RV} (hM:M < 4294967296 ^ 8) (hN:N<=M) (h:Can r (dh false N M)) (hf:r.fr=r):WC M r N:=⟨Can.wv hM hN h hf,h⟩
theorem WC.add {M N1 N2:Nat} {r1 r2:RV} (hM:M < 4294967296 ^ 8) (h0:M≠0) (h1:WC M r1 N1) (h2:WV M r2 N2) (hb:N1+N2<=M):∃ x:RV,AP ae 71 [r1.av,r2.av]=some x.av/\WC M x (N1+N2):=by
 obtain ⟨x,e,hc,hf⟩:=G5 h1.wv.ok h2.ok (by omega) (by omega);rw[h1.wv.q,h2.q,OG h0] at hc;exact ⟨x,e,Can.wc hM hb hc hf⟩
section
variable {ar:List Int} {s:Nat->Nat->Nat}
theorem PT {φ ψ:(Nat->Nat)->Nat} (h:∀ b,φ b<=ψ b):∀ (d v:Nat) (a:Nat->Nat),Ct ar s d v φ a<=Ct ar s d v ψ a
 | 0,v,a=>h a
 | d+1,v,a=>Y3 fun k _=>kE _ (PT h d (v+1) (upd a v k))
theorem Z7 (l:List ND) (c:Int) (k:Nat):Hc ar s l c k<=PM ar s ar.length 0:=by
 unfold Hc;refine fA (PT (ψ:=fun _=>1) (fun b=>by split<;>omega) _ _ _) ?_;rw[JH,mq];exact aR _
end
def rc (r:RV):List AV:=[.bool r.neg,r.num.av,r.den.av]
theorem Bx:∀ ws:List RV,(ws.flatMap rc).length=ws.length * 3
 | []=>rfl
 | r::ws=>by rw[nZ,aI,Bx ws,aJ,gX];simp[rc];omega
theorem Yb:∀ (ws:List RV) (k:Nat) (h:k < ws.length),((ws.flatMap rc).drop (k * 3)).take 3=rc ws[k]
 | r::ws,0,_=>by rw[nZ];simp[rc]
 | r::ws,k+1,h=>by
  have e:((r::ws).flatMap rc).drop ((k+1) * 3)=(ws.flatMap rc).drop (k * 3):=by
   rw[nZ,show (k+1) * 3=(rc r).length+k * 3 by simp[rc];omega,List.drop_length_add_append]
  rw[e,Yb ws k (by simpa using h)];rfl
inductive WA (m:af):AV->List RV->List Nat->Prop
 | none:WA m au [] []
 | some (t:Nat) (ws:List RV) (ht:m.get t=some (.obj false (ws.flatMap rc))) (hne:ws≠[]):WA m (.arr t 0 ws.length (some 3)) ws [t]
theorem EP {m m':af} {x:AV} {ws:List RV} {T:List Nat} (h:WA m x ws T) (f:∀ k∈T,m'.get k=m.get k):WA m' x ws T:=by
 cases h with
 | none=>exact .none
 | some t ws ht hne=>exact .some t ws ((f t (by simp)).trans ht) hne
theorem EO {m:af} {x:AV} {ws:List RV} {T:List Nat} (h:WA m x ws T):∀ k∈T,k < m.length:=by
 cases h with
 | none=>simp
 | some t ws ht hne=>intro k hk;simp at hk;subst hk;exact bJ ht
theorem Zv {m:af} {x:AV} {ws:List RV} {T:List Nat} (h:WA m x ws T) {k:Nat} (hk:k < ws.length):∃ a,aG (some 3) x (.int .i64 (k:Int))=some a/\∀ m':af,(∀ t∈T,m'.get t=m.get t)->ai (some 3) m' a=some ws[k].av:=by
 cases h with
 | none=>exact absurd hk (by simp)
 | some t ws ht hne=>
  refine ⟨.ptr t (k * 3),?_,fun m' f=>?_⟩
  ·have:(k:Int) < ws.length:=by omega
   simp[aG,this,Sh.size]
  ·rw[eY,f t (by simp),ht,j7,aa];unfold ki;dsimp only;rw[an (by rw[Bx];omega),Yb ws k hk];rfl
theorem qpB {m:af} {x:AV} {ws:List RV} {T:List Nat} (h:WA m x ws T) (hl:ws.length<=100000) {r:RV} (hr:r.fr=r):∃ x' m' t,cg none true 43 (some 3) 56 m x (.lst (some 3) false .full [r.av])=some (x',m')/\WA m' x' (ws++[r]) [t]/\Fr m m' T/\m.length<=t:=by
 have hc:(([r.av]:List AV).flatMap AV.cells)=rc r:=by
  show AV.cells r.av++[]=_;rw[bP];rfl
 cases h with
 | none=>
  refine ⟨.arr m.length 0 1 (some 3),m++[some (.obj false (rc r))],m.length,rfl,.some m.length [r] (by rw[bV rfl];simp[rc]) (by simp),Fr.app m _ _,aR _⟩
 | some t ws ht hne=>
  have gF:=bJ ht;have A8:0 < ws.length:=xJ.2 hne
  have hx:xc m (some 3) (.arr t 0 ws.length (some 3))=some (ws.length,ws.flatMap rc,m.set t none):=by
   unfold xc;dsimp only;rw[p9,ht,j7,aa];exact an ⟨rfl,rfl,A8,rfl,Bx ws⟩
  have hy:zf m (some 3) (.lst (some 3) false .full [r.av])=some (1,rc r):=by
   unfold zf;dsimp only;rw[an ⟨rfl,by simp⟩,hc];rfl
  refine ⟨.arr m.length 0 (ws.length+1) (some 3),m.set t none++[some (.obj false (ws.flatMap rc++rc r))],m.length,?_,?_,?_,aR _⟩
  ·show uJ none true (some 3) 56 m (.arr t 0 ws.length (some 3)) (.lst (some 3) false .full [r.av])=_;unfold uJ;dsimp only;rw[hy,aa,hx,aa];dsimp only;rw[an (by unfold gL;omega),aZ]
  ·have hws:(ws++[r]).flatMap rc=ws.flatMap rc++rc r:=by rw[List.flatMap_append];simp
   have:=WA.some (m:=m.set t none++[some (.obj false (ws.flatMap rc++rc r))]) m.length (ws++[r]) (by rw[hws];exact bV (by rw[aZ])) (by simp);rw[aI,tj] at this;exact this
  ·exact ((Fr.refl m [t]).set _ (.inl (by simp))).snoc _
section
variable {ar:List Int} {L:OL} {l:List ND} {M:Nat}
theorem qgT (hO:OddsOk ar L) (AF:L.fr=L) (oO:M < 4294967296 ^ 8) (h0:M≠0) {u B:Nat} (j0:u < L.es.length) {q:Nat->Nat} {kids:List Int} (fL:kids.length=jC ar u) (MU:jC ar u<=64) (hB:B<=M) (hs:B=jJ (jC ar u) fun j=>bz L u j * q j)
  {m0:af} {wv:AV} {ws:List RV} {T:List Nat} (hW:WA m0 wv ws T) (MY:∀ j,j < kids.length->∃ t:Nat,kids.getD j 0=t/\∃ h:t < ws.length,WV M ws[t] (SS ar (bz L) u * q j)) {z:Bool} {o:Own} (lf:AV) (x8:AV) (K:KT):∀ (d j:Nat) (sm:RV),j+d=kids.length->WC M sm (jJ j fun j=>bz L u j * q j) ->
  ∃ sm':RV,zK L.av wv (.ptr m0.length 0) x8 (.ptr (m0.length+2) 0) (IA z o kids) (.int .i64 kids.length) (.int .i64 j) (((m0++[some (.obj true [.int .i64 u,IA z o kids,lf])])++[bZ])++[bR sm]) K=K (.exit 0) (GC x8 (.ptr (m0.length+2) 0) (((m0++[some (.obj true [.int .i64 u,IA z o kids,lf])])++[bZ])++[bR sm']))/\WC M sm' B:=by
 intro d
 induction d with
 | zero=>
  intro j sm hj hw
  refine ⟨sm,?_,?_⟩
  ·rw[FH,bg,aa,az,aj (by omega)]
  ·rw[hs,<- fL,show kids.length=j by omega];exact hw
 | succ d ih=>
  intro j sm hj hw;have lD:j < kids.length:=by omega
  obtain ⟨t,et,gF,wt⟩:=MY j lD;have DF:kids[j]=(t:Int):=by rw[<- et,aT,bA lD];rfl
  have MR:j < L.es[u].ns.length:=by have:=(hO.row u j0).2;unfold jC at fL;omega
  obtain ⟨p,ep,cp,op,fp⟩:=XE hO j0 MR;have qp0:bz L u j * q j<=B:=by rw[hs];exact qoV (fun j=>bz L u j * q j) (by omega)
  obtain ⟨x,ex,wx⟩:=wt.mulp oO (Nat.pos_iff_ne_zero.1 (hO.ss j0).2.1) cp op (by omega);have nD:jJ (j+1) (fun j=>bz L u j * q j)<=B:=by rw[hs];exact qoW (by omega)
  rw[rF] at nD;obtain ⟨y,ey,wy⟩:=hw.add oO h0 wx (by omega);obtain ⟨a,ia,la⟩:=Zv hW gF;have hT:=EO hW;generalize yE:((m0++[some (Ent.obj true [.int .i64 u,IA z o kids,lf])])++[bZ])++[bR sm]=mm;have jv:mm.length=m0.length+3:=by rw[<- yE];simp
  have g0:mm.get m0.length=some (.obj true [.int .i64 u,IA z o kids,lf]):=by rw[<- yE,cn (by simp),cn (by simp),bV rfl]
  have g2:mm.get (m0.length+2)=bR sm:=by rw[<- yE];exact bV (by simp)
  have gT:∀ t∈T,mm.get t=m0.get t:=fun t ht=>by
   have:=hT t ht;rw[<- yE,cn (by simp;omega),cn (by simp;omega),cn this]
  obtain ⟨sm',e,k⟩:=ih (j+1) y (by omega) (by rw[rF];exact wy);refine ⟨sm',?_,k⟩;have ldv:ai none mm (.ptr m0.length (0+0))=some (.int .i64 u):=by rw[eY,g0];rfl
  have p70:aD (AP ae) (some mm.length) mm 70 [L.es[u].av,.int .i64 j]=some (p.av,mm):=by rw[fP (Pq.fz_il _) (gu _ _),ep];rfl
  have p69:aD (AP ae) (some mm.length) mm 69 [p.av,ws[t].av]=some (x.av,mm):=by rw[fP (iu p) (iu _),fp,wt.fr,ex];rfl
  have p71:aD (AP ae) (some mm.length) mm 71 [sm.av,x.av]=some (y.av,mm):=by rw[fP (iu sm) (iu x),hw.wv.fr,wx.fr,ey];rfl
  have st:aN (some 3) mm (.ptr (m0.length+2) 0) y.av=some (((m0++[some (Ent.obj true [.int .i64 u,IA z o kids,lf])])++[bZ])++[bR y]):=by
   rw[uk g2,<- yE,qJ _ _ _ (by simp)]
  rw[FH,bg,aa,az,an (by omega),j6 lD,aa,DF,gz,aa,sQ g2,aa,gg,aa,ldv,aa,Pq.index_ol j0,aa,Pq.load_ol,aa,p70,aa];dsimp only;rw[ia,aa,la mm gT,aa,p69,aa];dsimp only;rw[p71,aa];dsimp only;rw[st,aa,cG (by omega),aa];exact e
theorem ZG (hO:OddsOk ar L) (AF:L.fr=L) (g:GoodL ar l) (h1:∀ x∈ar,1<=x/\x<=64) (c:Int) (hM:M=PM ar (bz L) ar.length 0) (h0:M≠0) (oO:M < 4294967296 ^ 8) {i:Nat} (hi:i < l.length) {ws:List RV} (hws:∀ k (h:k < ws.length),WV M ws[k] (Hc ar (bz L) l c k)) (cq:i<=ws.length) {m0:af} {wv:AV} {T:List Nat} (hW:WA m0 wv ws T) :
  ∃ (m':af) (sm:RV),AC ae 110 [L.av,l[i].av,.int .i64 c,wv] m0=some (sm.av,m')/\WC M sm (Hc ar (bz L) l c i)/\Fr m0 m' []:=by
 have be:=g.ok _ (bM hi);have eav:l[i].av=.agg [.int .i64 l[i].var,IA (kz l[i]) (ko l[i]) l[i].kids,.int .i64 l[i].leaf]:=by unfold ND.av;rw[uc be]
 generalize kz l[i]=z at eav;generalize ko l[i]=o at eav;have bx:eR none (some 3) m0 (.agg [.int .i64 l[i].var,IA z o l[i].kids,.int .i64 l[i].leaf])=some (.ptr m0.length 0,m0++[some (Ent.obj true [.int .i64 l[i].var,IA z o l[i].kids,.int .i64 l[i].leaf])]):=rfl;generalize lE:m0++[some (Ent.obj true [.int .i64 l[i].var,IA z o l[i].kids,.int .i64 l[i].leaf])]=m1 at bx;have mW:m1.length=m0.length+1:=by rw[<- lE];simp
 have f1:Fr m0 m1 []:=by rw[<- lE];exact Fr.app m0 _ _
 have g1:m1.get m0.length=some (.obj true [.int .i64 l[i].var,IA z o l[i].kids,.int .i64 l[i].leaf]):=by rw[<- lE];exact bV rfl
 have l0:∀ e,ai none (m1++[e]) (.ptr m0.length (0+0))=some (.int .i64 l[i].var):=fun e=>by rw[eY,cn (by omega),g1];rfl
 have l1:∀ e,ai none (m1++[e]) (.ptr m0.length (0+2))=some (.int .i64 l[i].leaf):=fun e=>by rw[eY,cn (by omega),g1];rfl
 have sto:∀ r:RV,aN (some 3) (m1++[bZ]) (.ptr m1.length 0) r.av=some (m1++[bR r]):=fun r=>by
  rw[uk (c1:=.bool false) (c2:=au) (c3:=au) (bV rfl),qJ m1 _ _ rfl]
 have p64:∀ d m,aD (AP ae) d m 64 []=some (jF.av,m):=fun d m=>by rw[Ep,Lk];rfl
 have p114:∀ d m,aD (AP ae) d m 114 []=some (nS.av,m):=fun d m=>by rw[Ep,CP];rfl
 have nz:∀ m:af,(aA none m (.obj true [.bool false,au,au])).2=m++[bZ]:=fun _=>rfl;have nz1:∀ m:af,(aA none m .resv).1=m.length:=fun _=>rfl;rw[eav,RF,bx,aa];dsimp only;rw[nz,nz1,gg,aa,l0,aa,bg,aa,az]
 by_cases hn:l[i].var < 0
 ·rw[an hn,gg,aa,l1,aa,ir,aa,az];have hH:=JJ (s:=bz L) (ar:=ar) c hi hn
  by_cases hc:l[i].leaf=c
  ·rw[an hc] at hH;rw[an hc,p64,aa];dsimp only;rw[sto,aa,sQ (bV rfl),aa];refine ⟨_,jF,rfl,?_,f1.snoc _⟩;rw[hH,<- hM];exact ⟨Zz oO h0,by rw[OH h0];exact LB⟩
  ·rw[aj hc] at hH;rw[aj hc,p114,aa];dsimp only;rw[sto,aa,sQ (bV rfl),aa];refine ⟨_,nS,rfl,?_,f1.snoc _⟩;rw[hH];exact Can.wc oO (mw _) (by rw[w6];exact wg) zB
 ·obtain ⟨a1,a2⟩:=g.var i hi (by omega);obtain ⟨u,hu⟩:=nW (show 0<=l[i].var by omega);have oB:l[i].var.toNat=u:=by omega
  have DY:u < ar.length:=by omega
  have j0:u < L.es.length:=by rw[hO.len];omega
  obtain ⟨q,b1,b2⟩:=Mz (s:=bz L) g (fun x hx=>(h1 x hx).1) c i u hi hu;rw[oB] at a2;have fL:l[i].kids.length=jC ar u:=by unfold jC;omega
  have h6:jC ar u<=64:=by
   have:=h1 ar[u] (bM DY);have e:ar.getD u 0=ar[u]:=by rw[aT,bA DY];rfl
   unfold jC;omega
  have MY:∀ j,j < l[i].kids.length->∃ t:Nat,l[i].kids.getD j 0=t/\∃ h:t < ws.length,WV M ws[t] (SS ar (bz L) u * q j):=fun j hj=>by
   obtain ⟨t,e,ht,_⟩:=oD g hi (by omega) (k:=j) (by rw[oB];exact ra (by omega));refine ⟨t,e,by omega,?_⟩;have:=b1 j (by omega);rw[e,cK] at this;rw[<- this];exact hws t (by omega)
  rw[aj hn,p114,aa];dsimp only
  have sto2:aN (some 3) ((m1++[bZ])++[bZ]) (.ptr (m1++[bZ]).length 0) nS.av=some ((m1++[bZ])++[bR nS]):=by
   rw[uk (c1:=.bool false) (c2:=au) (c3:=au) (bV rfl),qJ _ _ _ rfl]
  have lk:∀ e,ai none ((m1++[bZ])++[e]) (.ptr m0.length (0+1))=some (IA z o l[i].kids):=fun e=>by rw[eY,cn (by simp;omega),cn (by omega),g1];rfl
  rw[nz,nz1,sto2,aa,gg,aa,lk,aa,iI,aa];have ja:(m1++[bZ]).length=m0.length+2:=by simp;omega
  obtain ⟨sm,e,w⟩:=qgT (z:=z) (o:=o) hO AF oO h0 j0 fL h6 (by rw[hM];exact Z7 l c i) b2 hW MY (.int .i64 l[i].leaf) (.ptr m1.length 0) (B2 (aF ae.P f110.results.toList)) l[i].kids.length 0 nS (by omega) (by rw[Y4];exact Can.wc oO (mw _) (by rw[w6];exact wg) zB);rw[<- hu,lE] at e;rw[ja];have e:zK L.av wv (.ptr m0.length 0) (.ptr m1.length 0) (.ptr (m0.length+2) 0) (IA z o l[i].kids) (.int .i64 l[i].kids.length) (.int .i64 0) ((m1++[bZ])++[bR nS]) (B2 (aF ae.P f110.results.toList))=_:=e;rw[e,PW,sQ (bV ja.symm),aa]
  have st3:aN (some 3) ((m1++[bZ])++[bR sm]) (.ptr m1.length 0) sm.av=some ((m1++[bR sm])++[bR sm]):=by
   rw[uk (c1:=.bool false) (c2:=au) (c3:=au) (by rw[cn (by simp),bV rfl]),Ja _ _ _ _ rfl]
  rw[st3,aa,sQ (by rw[cn (by simp),bV rfl]),aa];exact ⟨_,sm,rfl,w,(f1.snoc _).snoc _⟩
end
end Go.Ab
namespace Go.Ab
noncomputable section
open Go.Proofs.Tryz
end
end Go.Ab
namespace Go.Ab
open Go.Proofs Go.Proofs.Tryz
section
variable {m:af} {x:AV}
end
end Go.Ab
namespace Go.Ab
open Go.Proofs Go.Proofs.Tryz
def kh (r:IL):IL:=⟨false,if r.ns=[] then .full else .no,r.ns⟩
theorem qjI (r:IL):(kh r).fr=kh r:=by unfold kh Pq.IL.fr;dsimp only;split<;>rfl
theorem qnC (r:IL) (hz:r.z=false) (hl:r.ns.length<=1000000) (m:af):aD (AP ae) none m 88 [r.av]=some ((kh r).av,m):=by
 have h:=Ow r.z r.o r.ns hl m
 have e:xY r.z r.ns=(kh r).av:=by
  rw[hz];unfold xY kh Pq.IL.av;rw[aj (by simp)]
  split
  ·rename_i h0;simp[h0]
  ·rfl
 rw[e] at h;exact h
theorem qoJ {m:af} {nm i:Nat} {cs:List AV} {v:AV} (h:m.get nm=some (.obj false cs)) (hi:i < cs.length) (hv:ff v=true) (hc:v.cells=[v]):aN none m (.ptr nm i) v=some (m.set nm (some (.obj false (cs.set i v)))):=by
 have hg:m.obj? nm=some (false,cs):=by rw[p9,h];rfl
 have h1:i+1<=cs.length:=hi;simp only[aN,hg,aa,Sh.size,h1,bq,cZ,hv,hc];congr 4;simp only[bC,aJ,aM];rw[CA,an hi];simp
theorem VN (r:IL):ff r.av=true/\r.av.cells=[r.av]:=⟨rfl,rfl⟩
theorem qgS {L:OL} (hz:∀ r∈L.es,r.z=false/\r.ns.length<=1000000) (hl:L.es.length<=100000) {nm:Nat} (K:KT):∀ (d i:Nat) (m:af) (cs:List AV),i+d=L.es.length->m.get nm=some (.obj false cs)->cs.length=L.es.length->cs.take i=(L.es.take i).map (fun r=>(kh r).av) ->
  ∃ m',Ca (.arr nm 0 L.es.length none) L.av (.int .i64 L.es.length) (.int .i64 i) m K=K (.exit 0) (Ko (.arr nm 0 L.es.length none) m')/\m'.get nm=some (.obj false (L.es.map fun r=>(kh r).av)):=by
 intro d
 induction d with
 | zero=>
  intro i m cs hi hg hc ht;rw[kY (by omega),kY (by omega)] at ht;subst ht;exact ⟨m,by rw[Qa,bg,aa,az,aj (by omega)],hg⟩
 | succ d ih=>
  intro i m cs hi hg hc ht;have cq:i < L.es.length:=by omega
  have tJ:=bJ hg
  obtain ⟨m',e,k⟩:=ih (i+1) (m.set nm (some (.obj false (cs.set i (kh L.es[i]).av)))) (cs.set i (kh L.es[i]).av) (by omega) (dM rfl tJ) (by rw[aZ];exact hc) (by
   rw[n6 (by rw[aZ];omega),List.getElem_set_self,List.take_set_of_le (aR _),ht,n6 cq,kX];rfl)
  refine ⟨m',?_,k⟩;obtain ⟨q1,q2⟩:=hz _ (bM cq);rw[Qa,bg,aa,az,an (by omega),Pq.index_ol cq,aa,Pq.load_ol,aa,qnC _ q1 q2,aa];dsimp only;rw[fU cq,aa,qoJ hg (by omega) (VN _).1 (VN _).2,aa,cG (by omega),aa];exact e
theorem WH {m:af} {k:Nat}:∀ es:List IL,fD (bH m (k+1)) (es.map fun r=>(kh r).av)=some (es.map fun r=>(kh r).av,[])
 | []=>rfl
 | r::es=>by
  have h:=Pq.fza_il (kh r) m k;rw[qjI] at h;simp only[fV,fD,h,aa,WH es,aQ,bP]
theorem XJ:∀ es:List IL,mg (es.map fun r=>(kh r).av)=true
 | []=>rfl
 | r::es=>by
  have:pl (kh r).av=true:=by unfold kh Pq.IL.av;dsimp only;split<;>rfl
  simp[mg,this,XJ es]
theorem qfZ {L:OL} (hz:∀ r∈L.es,r.z=false/\r.ns.length<=1000000) (hl:L.es.length<=100000):AP ae 109 [L.av]=some (Pq.OL.av ⟨false,.no,L.es.map kh⟩):=by
 have h3:(L.es.length:Int) * 24<=281474976710656:=by omega
 have h4:(L.es.length:Int)<=9223372036854775807:=by omega
 have h5:(0:Int)<=L.es.length:=by omega
 have hm:iV none 22 none au 24 [] (.int .i64 L.es.length) (.int .i64 L.es.length)=some (.arr 0 0 L.es.length none,[some (Ent.obj false (List.replicate L.es.length au))]):=by
  simp only[iV,aA,rN,qQ,bq,cK];rw[an ⟨h5,trivial,h3,h4⟩];rfl
 obtain ⟨m',e,hg⟩:=qgS hz hl (nm:=0) (Fc (aF ae.P f109.results.toList)) L.es.length 0 [some (Ent.obj false (List.replicate L.es.length au))] (List.replicate L.es.length au) (by omega) rfl (by simp) (by simp);have e:Ca (.arr 0 0 L.es.length none) L.av (.int .i64 L.es.length) (.int .i64 0) [some (Ent.obj false (List.replicate L.es.length au))] (Fc (aF ae.P f109.results.toList))=_:=e
 have ha:AC ae 109 [L.av] []=some (.arr 0 0 L.es.length none,m'):=by
  rw[qfd,Pq.len_ol,aa,hm,aa,aa];dsimp only;rw[e,qaq]
 have oh:Pq.OL.av ⟨false,.no,L.es.map kh⟩=.lst none false .no (L.es.map fun r=>(kh r).av):=by
  unfold Pq.OL.av;rw[rW];rfl
 have hf:bH m' km (.arr 0 0 L.es.length none)=some (.lst none false .no (L.es.map fun r=>(kh r).av),[0]):=by
  have h1:((L.es.map fun r=>(kh r).av).all ff)=true:=by simp[List.all_map,ff,Pq.IL.av]
  have ho:m'.obj? 0=some (false,L.es.map fun r=>(kh r).av):=by rw[p9,hg];rfl
  show (m'.obj? 0).bind _=_;rw[ho];simp only[aa,Sh.size,bU,bf,mq,aR,decide_true,nT,pg,bq,jT,kY (by simp:(L.es.map fun r=>(kh r).av).length<=L.es.length)];rw[WH];simp only[aa,h1,XJ,pg,bq,lW];rw[kY (by simp)]
 rw[oh];exact iH ha hf rfl
theorem WJ {m:af} {k:Nat}:∀ ws:List RV,(∀ r∈ws,r.fr=r)->fD (bH m (k+1)) (ws.flatMap rc)=some (ws.flatMap rc,[])
 | [],_=>rfl
 | r::ws,h=>by
  have hr:=h r fJ;have h1:r.num.fr=r.num:=dc RV.num hr;have h2:r.den.fr=r.den:=dc RV.den hr
  have e1:bH m (k+1) r.num.av=some (r.num.av,[]):=by
   have:=qu none r.num.z r.num.o (r.num.ds.map dg) m k;have e:AV.lst none r.num.z r.num.o.fr (r.num.ds.map dg)=r.num.fr.av:=rfl;rw[e,h1] at this;exact this
  have e2:bH m (k+1) r.den.av=some (r.den.av,[]):=by
   have:=qu none r.den.z r.den.o (r.den.ds.map dg) m k;have e:AV.lst none r.den.z r.den.o.fr (r.den.ds.map dg)=r.den.fr.av:=rfl;rw[e,h2] at this;exact this
  have e0:bH m (k+1) (.bool r.neg)=some (.bool r.neg,[]):=rfl;rw[nZ];simp only[rc,bQ,bE,fD,e0,e1,e2,aa,aQ,bP];rw[WJ ws fun x hx=>h x (fI _ hx)]
  rfl
theorem XL:∀ ws:List RV,(∀ r∈ws,r.fr=r)->mg (ws.flatMap rc)=true/\(ws.flatMap rc).all ff=true
 | [],_=>⟨rfl,rfl⟩
 | r::ws,h=>by
  have hr:=h r fJ;obtain ⟨i1,i2⟩:=XL ws fun x hx=>h x (fI _ hx);have p1:=Bt (x:=r.num) (dc RV.num hr);have p2:=Bt (x:=r.den) (dc RV.den hr);rw[nZ]
  refine ⟨?_,?_⟩
  ·show (pl (.bool r.neg) && (pl r.num.av && (pl r.den.av && mg (ws.flatMap rc))))=true;rw[p1,p2,i1];rfl
  ·show (ff (.bool r.neg) && (ff r.num.av && (ff r.den.av && (ws.flatMap rc).all ff)))=true;rw[i2];rfl
theorem Uv:∀ ws:List RV,lW (some 3) ws.length (ws.flatMap rc)=ws.map RV.av
 | []=>rfl
 | r::ws=>by
  have ih:=Uv ws;have e:lW (some 3) (ws.length+1) ((r::ws).flatMap rc)=.agg (((r::ws).flatMap rc).take 3)::lW (some 3) ws.length (((r::ws).flatMap rc).drop 3):=rfl;have e1:((r::ws).flatMap rc).take 3=rc r:=rfl;have e2:((r::ws).flatMap rc).drop 3=ws.flatMap rc:=rfl;rw[aJ,e,e1,e2,ih];rfl
def wv (ws:List RV):LV:=if ws=[] then ⟨none,true,.full,[]⟩ else ⟨some 3,false,.no,ws⟩
theorem BM (ws:List RV):(wv ws).es=ws:=by unfold wv;split<;>simp_all
theorem qpH {k:Nat} {ws:List RV} (h:∀ r∈ws,ROk k r/\r.fr=r):LOk k (wv ws):=by
 refine ⟨?_,?_,fun r hr=>?_,fun r hr=>?_⟩
 ·unfold wv;split
  ·exact .inr rfl
  ·exact .inl rfl
 ·unfold wv;split
  ·exact fun _=>rfl
  ·intro h;cases h
 ·rw[BM] at hr;exact (h r hr).2
 ·rw[BM] at hr;exact (h r hr).1
theorem qkt {m:af} {x:AV} {ws:List RV} {T:List Nat} {k:Nat} (h:WA m x ws T) (hf:∀ r∈ws,r.fr=r):bH m (k+2) x=some ((wv ws).av,T):=by
 cases h with
 | none=>rfl
 | some t ws ht hne=>
  have ho:m.obj? t=some (false,ws.flatMap rc):=by rw[p9,ht];rfl
  obtain ⟨p1,p2⟩:=XL ws hf;have e:(wv ws).av=.lst (some 3) false .no (ws.map RV.av):=by unfold wv;rw[aj hne];rfl
  show (m.obj? t).bind _=_;rw[ho];simp only[aa,Sh.size,Bx,bf,aR,decide_true,nT,pg,bq,jT,kY (by rw[Bx];exact aR _:(ws.flatMap rc).length<=ws.length * 3)];rw[WJ ws hf];simp only[aa,p1,p2,pg,bq,Uv,e]
theorem qjs {r:RV} (h:r.fr=r):fh (some 3) [r.av]=some (.lst (some 3) false .full [r.av]):=by
 have h1:r.num.fr=r.num:=dc RV.num h;have h2:r.den.fr=r.den:=dc RV.den h
 have hs:lO r.av=r.av:=by
  unfold RV.av lO;simp only[fV,qT,Ji h1,Ji h2]
  rfl
 have ho:cZ (some 3) r.av=true:=rfl
 have hp:pl r.av=true:=by
  show (pl (.bool r.neg) && (pl r.num.av && (pl r.den.av && true)))=true;rw[Bt h1,Bt h2];rfl
 unfold fh;simp only[nX,List.all_nil,fV,qT,hs,ho,hp]
 rfl
end Go.Ab
namespace Go.Ab
open Go.Proofs Go.Proofs.Tryz
section
variable {ar:List Int} {L:OL} {l:List ND} {M:Nat}
theorem qoI {m:af} {c:Nat} {a b w w':AV} {n:Int} (h:m.get c=some (.obj true [a,b,w,.int .i64 n])) (hv:ff w'=true) (hc:w'.cells=[w']):aN none m (.ptr c (0+2)) w'=some (m.set c (some (.obj true [a,b,w',.int .i64 n]))):=by
 rw[qh,h,j7,aa];simp[cO,Sh.size,cZ,hv,hc,bC]
theorem PA {m:af} {x:AV} {ws:List RV} {T:List Nat} (h:WA m x ws T):ff x=true/\x.cells=[x]:=by
 cases h with
 | none=>exact ⟨rfl,rfl⟩
 | some t ws ht hne=>exact ⟨rfl,rfl⟩
theorem X50 (hO:OddsOk ar L) (AF:L.fr=L) (g:GoodL ar l) (h1:∀ x∈ar,1<=x/\x<=64) (c:Int) (hM:M=PM ar (bz L) ar.length 0) (h0:M≠0) (oO:M < 4294967296 ^ 8) (fq:l.length<=4000) {c12:Nat} {z:Bool} {o:Own} (x8:AV) (K:KT):∀ (d i:Nat) (m:af) (x:AV) (ws:List RV) (T:List Nat),i+d=l.length ->
  m.get c12=some (.obj true [L.av,NL z o l,x,.int .i64 c])->WA m x ws T->(∀ t∈T,c12 < t)->ws.length=i->(∀ k (h:k < ws.length),WC M ws[k] (Hc ar (bz L) l c k)) ->
  ∃ (m':af) (x':AV) (ws':List RV) (T':List Nat),Cp (.int .i64 c) x8 (.ptr c12 0) (NL z o l) (.int .i64 l.length) (.int .i64 i) m K=K (.exit 0) (KZ x8 (.ptr c12 0) m')/\Fr m m' (c12::T)/\m'.get c12=some (.obj true [L.av,NL z o l,x',.int .i64 c])/\WA m' x' ws' T'/\(∀ t∈T',c12 < t)/\Gr m T T'/\ws'.length=l.length/\∀ k (h:k < ws'.length),WC M ws'[k] (Hc ar (bz L) l c k):=by
 intro d
 induction d with
 | zero=>
  intro i m x ws T hi hg hw hT hl hws;refine ⟨m,x,ws,T,?_,Fr.refl _ _,hg,hw,hT,Gr.refl _ _,by omega,hws⟩;rw[QY,bg,aa,az,aj (by omega)]
 | succ d ih=>
  intro i m x ws T hi hg hw hT hl hws;have cq:i < l.length:=by omega
  have tJ:=bJ hg;have gY:=Nz (z:=z) (o:=o) cq;have bx:=Hj l[i] m (HL m);have f4:Fr m (m++[some (Ent.obj true [.int .i64 l[i].var,fc l[i],.int .i64 l[i].leaf])]) []:=Fr.app m _ _
  have ld2:ai (some 3) (m++[some (Ent.obj true [.int .i64 l[i].var,fc l[i],.int .i64 l[i].leaf])]) (.ptr m.length 0)=some l[i].av:=by
   rw[eY,bV rfl];rfl
  generalize yC:m++[some (Ent.obj true [.int .i64 l[i].var,fc l[i],.int .i64 l[i].leaf])]=m4 at bx f4 ld2;have D1:WA m4 x ws T:=EP hw fun t ht=>f4.get t (EO hw t ht) (by simp);have MI:m4.get c12=some (.obj true [L.av,NL z o l,x,.int .i64 c]):=by rw[f4.get _ tJ (by simp)];exact hg
  obtain ⟨m5,sm,e110,wsm,f5⟩:=ZG hO AF g h1 c hM h0 oO cq (fun k h=>(hws k h).wv) (by omega) D1;have Ik:WA m5 x ws T:=EP D1 fun t ht=>f5.get t (EO D1 t ht) (by simp);have HW:m5.get c12=some (.obj true [L.av,NL z o l,x,.int .i64 c]):=by rw[f5.get _ (bJ MI) (by simp)];exact MI
  obtain ⟨x6,m6,t6,ea,VG,f6,ht6⟩:=qpB Ik (by omega) wsm.wv.fr;have qkZ:c12∉T:=fun hh=>by have:=hT _ hh;omega
  have U0:m6.get c12=some (.obj true [L.av,NL z o l,x,.int .i64 c]):=by rw[f6.get _ (bJ HW) qkZ];exact HW
  have hc5:=bJ HW;obtain ⟨a1,a2⟩:=PA VG;have st:=qoI U0 a1 a2;have qpV:t6≠c12:=by omega
  have hw7:WA (m6.set c12 (some (.obj true [L.av,NL z o l,x6,.int .i64 c]))) x6 (ws++[sm]) [t6]:=EP VG fun t ht=>by
   simp only[List.mem_singleton] at ht;subst ht;exact cF (by omega)
  have l4:=f4.len;have l5:=f5.len;have f46:Fr m m6 (c12::T):=Fr.trans ((Fr.trans f4 f5 fun _ h=>by cases h).mono (by simp)) f6 fun a ha=>.inl (fI _ ha);have f47:Fr m (m6.set c12 (some (.obj true [L.av,NL z o l,x6,.int .i64 c]))) (c12::T):=f46.set _ (.inl (by simp))
  obtain ⟨m',x',ws',T',e,k1,k2,k3,k4,k5,k6,k7⟩:=ih (i+1) (m6.set c12 (some (.obj true [L.av,NL z o l,x6,.int .i64 c]))) x6 (ws++[sm]) [t6] (by omega) (dM rfl (bJ U0)) hw7 (fun t ht=>by
   simp only[List.mem_singleton] at ht
   omega) (by rw[aI,hl];rfl) (fun k hk=>by
   rw[List.getElem_append]
   split
   ·exact hws k _
   ·rename_i hh;rw[aI,tj] at hk;obtain rfl:k=i:=by omega
    simp only[hl,pP,List.getElem_singleton]
    exact wsm)
  have g7:Gr m T [t6]:=fun a ha=>by
   simp only[List.mem_singleton] at ha;exact .inr (by omega)
  refine ⟨m',x',ws',T',?_,Fr.trans f47 k1 (fun a ha=>?_),k2,k3,k4,Gr.trans f47.len g7 k5,k6,k7⟩
  ·have ld0:∀ w,m4.get c12=some (.obj true [L.av,NL z o l,w,.int .i64 c])->ai none m4 (.ptr c12 (0+0))=some L.av/\ai none m4 (.ptr c12 (0+2))=some w:=fun w h=>by
    rw[eY,eY,h];exact ⟨rfl,rfl⟩
   obtain ⟨q0,q2⟩:=ld0 x MI;have q5:ai none m5 (.ptr c12 (0+2))=some x:=by rw[eY,HW];rfl
   rw[QY,bg,aa,az,an (by omega),gY,aa,yX,aa,nG,nG];dsimp only;rw[bx,aa,gg,aa,q2,aa,gg,aa,q0,aa,ld2,aa,aa,q2,aa,e110,aa];dsimp only;rw[vp (by rw[q5,aa]),qjs wsm.wv.fr,aa,ea,aa,aa];dsimp only;rw[st,aa,cG (by omega),aa];exact e
  ·rcases gB.1 ha with rfl | ha
   ·exact .inl (by simp)
   ·simp only[List.mem_singleton] at ha;exact .inr (by omega)
end
def gO (L:OL):OL:=⟨false,.no,L.es.map kh⟩
theorem Tx (L:OL):(gO L).fr=gO L:=rfl
theorem qjJ (L:OL):(gO L).es.map Pq.IL.ns=L.es.map Pq.IL.ns:=by unfold gO;rw[rW];rfl
theorem LG (L:OL):bz (gO L)=bz L:=by funext u j;unfold bz;rw[qjJ]
theorem Tz {ar:List Int} {L:OL} (h:OddsOk ar L):OddsOk ar (gO L):=by
 refine ⟨by unfold gO;rw[bU];exact h.len,fun u hu=>?_⟩;have j0:u < L.es.length:=by unfold gO at hu;simpa using hu
 have e:(gO L).es[u].ns=L.es[u].ns:=by
  have:(gO L).es[u]=kh L.es[u]:=ti ..;rw[this];rfl
 obtain ⟨a,b⟩:=h.row u j0;unfold Pq.RowOk at a ⊢;rw[e];exact ⟨a,b⟩
section
variable {s:Nat} {F:List Nat} {zs:Bool} {os:Own} {ar:List Int} {most:Int} {l:List ND}
abbrev cA (L:OL) (z:Bool) (o:Own) (l:List ND) (x:AV) (c:Int):AV:=.agg [L.av,NL z o l,x,.int .i64 c]
theorem Oe (m:af):(aA none m (.obj true [au,au,au,.int .i64 0])).2=m++[some (.obj true [au,au,au,.int .i64 0])]:=rfl
theorem II (m:af):(aA none m .resv).1=m.length:=rfl
theorem O2 {m:af} {c:Nat} {e:List AV} {a b w:AV} {n:Int} (h:m.get c=some (.obj true e)) (he:e.length=4) (ha:ff a=true/\a.cells=[a]) (hb:ff b=true/\b.cells=[b]) (hw:ff w=true/\w.cells=[w]):aN (some 4) m (.ptr c 0) (.agg [a,b,w,.int .i64 n])=some (m.set c (some (.obj true [a,b,w,.int .i64 n]))):=by
 rw[qh,h,j7,aa]
 have e1:cZ (some 4) (.agg [a,b,w,.int .i64 n])=true:=by
  simp[cZ,ha.1,hb.1,hw.1,Lu]
 have e2:AV.cells (.agg [a,b,w,.int .i64 n])=[a,b,w,.int .i64 n]:=rfl;have e3:e.drop 4=[]:=jA (by omega);simp[cO,Sh.size,he,e1,e2,bC,e3]
theorem NO {m:af} {c:Nat} {a b w n:AV} (h:m.get c=some (.obj true [a,b,w,n])):ai (some 4) m (.ptr c 0)=some (.agg [a,b,w,n]):=by
 rw[eY,h];rfl
theorem qeZ {m0:af} (h0:eQ m0 s F (IA zs os ar) most l) (hm:most≠0) (g:GoodL ar l) (fq:l.length<=4000) (h1:∀ x∈ar,1<=x/\x<=64) (fC:ar.length<=16) {id:Nat} (hid:id < l.length) (vo:eu l (Vi l id [])=l) {L:OL} (h64:∀ r∈L.es,r.ns.length<=64) (oN:L.es.length<=40) (hz:∀ r∈L.es,r.z=false) (AF:L.fr=L) (hO:Pq.oddsB ⟨zs,os,ar⟩ L=true) {c:Int} (hc:0<=c/\c<=2147483647) :
  ∃ (m':af) (tk:Nat) (x:AV) (ws:List RV) (T:List Nat),AC ae 50 [.ptr s 0,.int .i64 id,L.av,.int .i64 c] m0=some (.tup [cA (gO L) false (.tok tk 74) l x c,.int .i64 0],m')/\Fr m0 m' []/\WA m' x ws T/\(∀ t∈T,m0.length<=t)/\ws.length=l.length/\∀ k (h:k < ws.length),WC (PM ar (bz L) ar.length 0) ws[k] (Hc ar (bz L) l c k):=by
 have be:=Oo h64 hO;obtain ⟨tE,oO⟩:=GM be.all fC;have f0:Fr m0 (m0++[some (Ent.obj true [au,au,au,.int .i64 0])]) []:=Fr.app m0 _ _;have h0':=h0.app f0;obtain ⟨m1,xw,En,Tw,e17,f1,_⟩:=qgR h0' hm g (by omega) h1 fC hid h64 oN hO;have f01:=Fr.trans f0 f1 fun _ h=>by cases h
 have l0:(m0++[some (Ent.obj true [au,au,au,.int .i64 0])]).length=m0.length+1:=by simp
 have l1:=f1.len;have hg8:m1.get m0.length=some (.obj true [au,au,au,.int .i64 0]):=by rw[f1.get _ (by simp) (by simp),bV rfl]
 have p109:aD (AP ae) none m1 109 [L.av]=some ((gO L).av,m1):=by
  rw[cw (Pq.fz_ol L),AF,qfZ (fun r hr=>⟨hz r hr,by have:=h64 r hr;omega⟩) (by omega)];rfl
 have hb:fR (.agg [au,au,au,.int .i64 0]) [(0,none,(gO L).av),(3,none,.int .i64 c)]=some (.agg [(gO L).av,au,au,.int .i64 c]):=rfl
 have st1:aN (some 4) (m1++[some (.obj true [au,au,au,.int .i64 0])]) (.ptr m1.length 0) (.agg [(gO L).av,au,au,.int .i64 c])=some (m1++[some (.obj true [(gO L).av,au,au,.int .i64 c])]):=by
  rw[O2 (a:=(gO L).av) (b:=au) (w:=au) (n:=c) (bV rfl) rfl ⟨rfl,rfl⟩ ⟨rfl,rfl⟩ ⟨rfl,rfl⟩,qJ m1 _ _ rfl]
 have f2:Fr m0 (m1++[some (.obj true [(gO L).av,au,au,.int .i64 c])]) []:=f01.snoc _;have h2:=h0.app f2;have g2:(m1++[some (Ent.obj true [(gO L).av,au,au,.int .i64 c])]).get m1.length=some (.obj true [(gO L).av,au,au,.int .i64 c]):=bV rfl;have l2:(m1++[some (Ent.obj true [(gO L).av,au,au,.int .i64 c])]).length=m1.length+1:=by simp
 generalize fO:m1++[some (Ent.obj true [(gO L).av,au,au,.int .i64 c])]=m2 at st1 f2 h2 g2 l2;obtain ⟨m3,y,Ty,e43,hn,f3⟩:=ZK h2 g (by omega) hm hid;rw[vo] at hn;have hne:l≠[]:=fun e=>by subst e;simp at hid
 obtain ⟨tk,rfl⟩:=Ol hn hne;have g3:m3.get m1.length=some (.obj true [(gO L).av,au,au,.int .i64 c]):=by rw[f3.get _ (by omega) (by simp)];exact g2
 have st3:aN none m3 (.ptr m1.length (0+1)) (NL false (.tok tk 74) l)=some (m3.set m1.length (some (.obj true [(gO L).av,NL false (.tok tk 74) l,au,.int .i64 c]))):=by
  rw[qh,g3,j7,aa];simp[cO,Sh.size,cZ,ff,AV.cells,bC]
 have g3l:=bJ g3;have f23:Fr m0 m3 []:=Fr.trans f2 f3 fun _ h=>by cases h
 have f4:Fr m0 (m3.set m1.length (some (.obj true [(gO L).av,NL false (.tok tk 74) l,au,.int .i64 c]))) []:=f23.set _ (.inr (by omega));have g4:af.get (m3.set m1.length (some (Ent.obj true [(gO L).av,NL false (.tok tk 74) l,au,.int .i64 c]))) m1.length=some (.obj true [(gO L).av,NL false (.tok tk 74) l,au,.int .i64 c]):=dM rfl g3l;have l3:=f3.len;have ld1:ai none (m3.set m1.length (some (Ent.obj true [(gO L).av,NL false (.tok tk 74) l,au,.int .i64 c]))) (.ptr m1.length (0+1))=some (NL false (.tok tk 74) l):=by rw[eY,g4];rfl
 generalize yC:m3.set m1.length (some (Ent.obj true [(gO L).av,NL false (.tok tk 74) l,au,.int .i64 c]))=m4 at st3 f4 g4 ld1;have l4:m4.length=m3.length:=by rw[<- yC,aZ]
 have qk7:af.get m4 m0.length=some (.obj true [au,au,au,.int .i64 0]):=by
  rw[<- yC,cF (by omega),f3.get _ (by omega) (by simp),<- fO,cn (by omega)];exact hg8
 obtain ⟨m5,x5,ws,T,e9,f5,g5,Ik,_,gr5,hlen,hws⟩:=X50 (Tz be) (Tx L) g h1 c (by rw[LG]) tE oO fq (c12:=m1.length) (z:=false) (o:=.tok tk 74) (.ptr m0.length 0) (Fx (aF ae.P f50.results.toList)) l.length 0 m4 au [] [] (by omega) g4 .none (by simp) rfl (by simp);have e9:Cp (.int .i64 c) (.ptr m0.length 0) (.ptr m1.length 0) (NL false (.tok tk 74) l) (.int .i64 l.length) (.int .i64 0) m4 (Fx (aF ae.P f50.results.toList))=_:=e9;rw[LG] at hws
 have g85:m5.get m0.length=some (.obj true [au,au,au,.int .i64 0]):=by
  rw[f5.get _ (by omega) (by simp;omega)];exact qk7
 obtain ⟨a1,a2⟩:=PA Ik;have st5:=O2 (a:=(gO L).av) (b:=NL false (.tok tk 74) l) (w:=x5) (n:=c) g85 rfl ⟨rfl,rfl⟩ ⟨rfl,rfl⟩ ⟨a1,a2⟩
 have f05:Fr m0 m5 []:=Fr.trans f4 f5 fun a ha=>by
  simp only[gB,Cy,or_false] at ha;exact .inr (by omega)
 refine ⟨m5.set m0.length (some (.obj true [(gO L).av,NL false (.tok tk 74) l,x5,.int .i64 c])),tk,x5,ws,T,?_,f05.set _ (.inr (aR _)),?_,?_,hlen,hws⟩
 ·rw[T50,Oe,II,e17,aa,rj,aa,rl,aa,iY,aa,az,aj (by omega),bg,aa,az,aj (by omega),hJ,aa,az,aj (by omega),p109,aa];dsimp only;rw[hb,aa,Oe,II,st1,aa,e43,aa,rj,aa,rl,aa,gg,aa];dsimp only;rw[st3,aa,aa,ld1,aa,Wg,aa,e9,qdS,NO g5,aa,st5,aa,NO (dM rfl (bJ g85)),aa]
 ·refine EP Ik fun t ht=>cF ?_
  rcases gr5 t ht with h | h
  ·cases h
  ·omega
 ·intro t ht
  rcases gr5 t ht with h | h
  ·cases h
  ·omega
end
end Go.Ab
namespace Go.Ab
open Go.Proofs Go.Proofs.Tryz
theorem Yc:∀ (ws:List RV) (k:Nat) (r:RV),k < ws.length->bC (ws.flatMap rc) (k * 3) (rc r)=(ws.set k r).flatMap rc
 | a::ws,0,r,_=>by simp[bC,rc]
 | a::ws,k+1,r,h=>by
  have ih:=Yc ws k r (by simpa using h)
  have e1:((a::ws).flatMap rc).take ((k+1) * 3)=rc a++(ws.flatMap rc).take (k * 3):=by
   rw[nZ,show (k+1) * 3=(rc a).length+k * 3 by simp[rc];omega,List.take_length_add_append]
  have e2:((a::ws).flatMap rc).drop ((k+1) * 3+(rc r).length)=(ws.flatMap rc).drop (k * 3+(rc r).length):=by
   rw[nZ,show (k+1) * 3+(rc r).length=(rc a).length+(k * 3+(rc r).length) by simp[rc];omega,List.drop_length_add_append]
  unfold bC at ih ⊢;rw[e1,e2,dC,nZ,<- ih];simp[ga]
theorem qpC {m:af} {x:AV} {ws:List RV} {T:List Nat} (h:WA m x ws T) {k:Nat} (hk:k < ws.length):∃ a,aG (some 3) x (.int .i64 (k:Int))=some a/\∀ (m':af) (r:RV),WA m' x ws T->∃ m'',aN (some 3) m' a r.av=some m''/\WA m'' x (ws.set k r) T/\Fr m' m'' T:=by
 cases h with
 | none=>exact absurd hk (by simp)
 | some t ws ht hne=>
  refine ⟨.ptr t (k * 3),?_,fun m' r h'=>?_⟩
  ·have:(k:Int) < ws.length:=by omega
   simp[aG,this,Sh.size]
  ·obtain ⟨qy⟩:m'.get t=some (.obj false (ws.flatMap rc))/\True:=by
    generalize hx:AV.arr t 0 ws.length (some 3)=y at h';generalize hT:[t]=T at h'
    cases h' with
    | none=>cases hx
    | some t' _ qy qlp=>
     obtain rfl:t=t':=by simpa using hT
     exact ⟨qy,trivial⟩
   refine ⟨m'.set t (some (.obj false ((ws.set k r).flatMap rc))),?_,?_,(Fr.refl m' [t]).set _ (.inl (by simp))⟩
   ·rw[qh,qy,j7,aa];unfold cO;dsimp only;rw[an (by rw[Bx];simp only[Sh.size];omega),an (show cZ (some 3) r.av=true from rfl),show AV.cells r.av=rc r from rfl,Yc ws k r hk]
   ·have:=WA.some (m:=m'.set t (some (.obj false ((ws.set k r).flatMap rc)))) t (ws.set k r) (dM rfl (bJ qy)) (by intro e;have:=dc List.length e;simp at this;exact hne (nY (by simp[this])));rw[aZ] at this;exact this
structure HJ (m0 m:af) (cc nn:List AV) (s:RV):Prop where
 fr:Fr m0 m []
 g0:m.get m0.length=some (.obj true cc)
 g1:m.get (m0.length+1)=bZ
 g2:m.get (m0.length+2)=some (.obj true nn)
 g3:m.get (m0.length+3)=bR s
section
variable {ar:List Int} {L:OL} {l:List ND} {M:Nat}
end
end Go.Ab
namespace Go.Ab
open Go.Proofs Go.Proofs.Tryz
section
variable {ar:List Int} {L:OL} {l:List ND} {M:Nat}
end
section
variable {l:List ND}
end
end Go.Ab
namespace Go.Ab.Pq
open Go.Proofs.Tryz
def n9:CV:=⟨⟨true,.full,[]⟩,⟨some 3,false,.full,[⟨-1,y2,4⟩]⟩,⟨some 3,false,.full,[sV]⟩,4⟩
theorem qg5:COk 30 n9.fr:=⟨by simp[n9,CV.fr,OL.fr],.inl rfl,by simp[n9,CV.fr,NL.fr],⟨.inl rfl,(fun h=>by cases h),by simp[n9,CV.fr,LV.fr,IK],by
 intro r hr;have:r=sV:=by simpa [n9,CV.fr,LV.fr] using hr
 rw[this]
 exact (Aq.ok (JE (by omega)) (by omega))⟩,by simp[n9,CV.fr,LV.fr]⟩
theorem qg7:shapedB n9.fr=true:=by
 have h1:kN sV=true:=LC Aq;simp[shapedB,n9,CV.fr,OL.fr,NL.fr,LV.fr,oddsB,nodesB,uI,nodeB,armsI,lens,h1,y2]
theorem qg6:okAt n9.fr 0=true:=by
 unfold okAt;refine eT ?_;have e1:wQ n9.fr.ws 0=1:=Aq.q;rw[e1]
 rfl
theorem qg4:checkE n9.fr=0/\Hp n9.fr=1:=by
 have e:checkE n9.fr=0:=by
  unfold checkE;rw[an qg7]
  show (match firstF (okAt n9.fr) 1 0 with | none=>(0:Int) | some _=>32)=0
  rw[firstF,an qg6];rfl
 refine ⟨e,?_⟩;unfold Hp;rw[an e];exact Aq.q
theorem pcall10 {m:af} {d:Option Nat}:aD (AP ae) d m 46 []=some (.bool true,m):=by
 have h10:AP ae 46 []=some (.bool true):=by
  obtain ⟨e1,e2⟩:=qg4;obtain ⟨r,r1,r2,r3,r4⟩:=V53 qg5;rw[e1] at r1;rw[e2] at r2;have e9:=V21 r4 (Aq.ok (JE (by omega:1<=4000)) (by omega)) (by omega) (by omega);rw[r2,Aq.q] at e9;refine cW _ _ (px _) rfl (m:=[cC n9,cR r]) ?_;have b1:fR (.agg [.int .i64 0,.lst none true .full [],.int .i64 0]) [(0,none,.int .i64 (-1)),(2,none,.int .i64 4)]=some (ND.av ⟨-1,y2,4⟩):=rfl;have b2:fh (some 3) [ND.av ⟨-1,y2,4⟩]=some (.lst (some 3) false .full [ND.av ⟨-1,y2,4⟩]):=rfl;have b3:fR (.agg [.lst none true .full [],.lst none true .full [],.lst none true .full [],.int .i64 0]) [(1,none,.lst (some 3) false .full [ND.av ⟨-1,y2,4⟩]),(2,none,.lst (some 3) false .full [sV.av]),(3,none,.int .i64 4)]=some n9.av:=rfl;have start:AC ae 46 [] []=AC ae 46 [] []:=rfl
  conv at start=>rhs;rw[T46,b1,aa,b2,aa,cT,Si,aQ,aa,qjv IK,aa,b3,aa]
  simp only[qmZ,cH,aM,bE] at start;rw[qjX (x:=zC) rfl,aa] at start;simp only[cD] at start;rw[TA (x:=n9) rfl,aa,cw (Uh _),r1,aQ,aa,di,aa,dj,aa,dE,aa] at start;simp only[Bl,cH,aM,bE,aJ,bQ,bf] at start;rw[cV,aa,ir,aa,eT rfl,nE,cS,aa,cT,Si,aQ,aa,cU,r3,IK,e9,aQ,aa] at start;rw[start]
  rfl
 rw[Ep,h10];rfl
end Go.Ab.Pq
namespace Go.Ab
open Go.Proofs Go.Proofs.Tryz
def pN (n:ND):Pq.ND:=⟨n.var,⟨kz n,ko n,n.kids⟩,n.leaf⟩
theorem qnq {n:ND} (h:n.ok):(pN n).av=n.av:=by
 unfold ND.av;rw[uc h];rfl
end Go.Ab
namespace Go.Ab
open Go.Proofs Go.Proofs.Tryz
theorem qkq {m:af} {L:OL} {z:Bool} {o:Own} {l:List ND} {x:AV} {ws:List RV} {T:List Nat} {c:Int} (k:Nat) (hw:WA m x ws T) (hf:∀ r∈ws,r.fr=r) (hL:L.fr=L):bH m (k+3) (cA L z o l x c)=some (cA L z o.fr l (wv ws).av c,T):=by
 have q1:bH m (k+2) L.av=some (L.av,[]):=by
  have:=Pq.fza_ol L m (k+1);rw[hL] at this;exact this
 have q2:bH m (k+2) (NL z o l)=some (NL z o.fr l,[]):=qu (some 3) z o (l.map ND.av) m (k+1);have q3:=qkt (k:=k) hw hf;have q4:bH m (k+2) (.int .i64 c)=some (.int .i64 c,[]):=rfl;show (fD (bH m (k+2)) [L.av,NL z o l,x,.int .i64 c]).map _=_;simp only[fD,q1,q2,q3,q4,aa,aQ,bE,bP]
theorem qny {m:af} {L:OL} {z:Bool} {o:Own} {l:List ND} {x:AV} {ws:List RV} {T:List Nat} {c:Int} (hw:WA m x ws T) (hf:∀ r∈ws,r.fr=r) (hL:L.fr=L) :
  aD (AP ae) none m 53 [cA L z o l x c]=(AP ae 53 [cA L z o.fr l (wv ws).av c]).map fun v=>(v,jm m T):=by
 have e1:bH m km (cA L z o l x c)=some (cA L z o.fr l (wv ws).av c,T):=qkq 6 hw hf hL;simp only[aD,fD,e1,aa,aQ,bP,Option.isSome_none,lQ,jM,lL]
def pC (L:OL) (P:List ND) (V:LV) (c:Int):Pq.CV:=⟨L,⟨some 3,false,.no,P.map pN⟩,V,c⟩
theorem qnp {L:OL} {P:List ND} {V:LV} {c:Int} (h:∀ n∈P,n.ok):(pC L P V c).av=cA L false .no P V.av c:=by
 have e:(P.map pN).map Pq.ND.av=P.map ND.av:=by
  rw[rW];exact List.map_congr_left fun n hn=>qnq (h n hn)
 show AV.agg [L.av,.lst (some 3) false .no ((P.map pN).map Pq.ND.av),V.av,.int .i64 c]=_;rw[e]
section
variable {ar:List Int} {L:OL} {P:List ND} {V:LV} {c:Int}
theorem qmt (hO:OddsOk ar L):Pq.lens L=ar:=by
 refine List.ext_getElem (by unfold Pq.lens;rw[bU];exact hO.len) fun i h1 h2=>?_;have hi:i < L.es.length:=by rw[hO.len];exact h2
 have:=(hO.row i hi).2;rw[Pq.lens_get hi,this,aT,bA h2];rfl
theorem TZ {f:Nat->Bool}:∀ (j i k:Nat),i<=k->k < i+j->(∀ t,i<=t->t < k->f t=true)->f k=false->Pq.firstF f j i=some k
 | 0,i,k,h1,h2,_,_=>by omega
 | j+1,i,k,h1,h2,h3,h4=>by
  rw[Pq.firstF]
  by_cases e:i=k
  ·subst e;rw[aj (by simp[h4])]
  ·rw[an (h3 i (aR _) (by omega))];exact TZ j (i+1) k (by omega) (by omega) (fun t t1 t2=>h3 t (by omega) t2) h4
theorem qou (hO:OddsOk ar L) (fC:ar.length<=16) (h1:∀ x∈ar,1<=x/\x<=64) (hR:oK ar (P.map jR)) (AH:0 < P.length) (hc:0<=c/\c<=2147483647) (hlen:V.es.length=P.length) (hr:∀ r∈V.es,kN r=true):Pq.shapedB (pC L P V c)=true:=by
 have Vf:=qmt hO
 have h64:∀ r∈L.es,1<=r.ns.length/\r.ns.length<=64:=fun r hr=>by
  obtain ⟨i,hi,rfl⟩:=Cx.1 hr;have hi2:i < ar.length:=by rw[<- hO.len];exact hi
  have:=(hO.row i hi).2;rw[aT,bA hi2,fg] at this;have:=h1 _ (bM hi2);omega
 have hb:Pq.oddsB (Pq.armsI (Pq.lens L)) L=true:=by
  have:=qm8 (zs:=false) (os:=.no) (fun r hr=>(h64 r hr).2) hO;unfold Pq.oddsB at this ⊢;rw[Pq.armsI_ns,Vf];exact this
 have hn:Pq.nodesB (Pq.armsI (Pq.lens L)) (P.map pN)=true:=by
  unfold Pq.nodesB;rw[bT,bU];refine ⟨eT AH,Pq.allF_iff.2 fun k _ hk=>?_⟩;have hk:k < P.length:=by omega
  have e1:(P.map pN).getD k Pq.zN=pN P[k]:=by rw[aT,n0,bA hk];rfl
  have e2:=hR k (by rw[bU];exact hk);rw[Ai hk] at e2;rw[e1];unfold nk at e2;unfold Pq.nodeB;rw[Pq.armsI_ns,Vf];have ev:(jR P[k]).var=(pN P[k]).var:=rfl
  by_cases hv:(pN P[k]).var=-1
  ·rw[an (ev.trans hv)] at e2;rw[an hv];have:=rD e2;exact eT ⟨by show P[k].kids.length=0;rw[show P[k].kids=[] from this.1];rfl,this.2⟩
  ·rw[aj (fun h=>hv (ev.symm.trans h)),bT] at e2;rw[aj hv,bT];refine ⟨e2.1,fQ.2 fun q hq=>?_⟩;have h2:=fQ.1 e2.2 q hq;unfold kidB at h2;unfold Pq.kidB;rw[bT] at h2 ⊢;refine ⟨h2.1,?_⟩;have hlt:=rD h2.1;have ht:q.toNat < P.length:=by omega
   have e3:Pq.varAt (P.map pN) q.toNat=P[q.toNat].var:=by
    unfold Pq.varAt;rw[aT,n0,n0,bA ht];rfl
   have h4:=rD h2.2;rw[Ai ht] at h4;rw[e3,zF]
   rcases h4 with h4 | h4
   ·exact .inl (eT (by have:P[q.toNat].var=-1:=h4;omega))
   ·exact .inr (eT h4)
 unfold Pq.shapedB pC;dsimp only;rw[hb,hn];simp only[bT,il,fQ,nt];refine ⟨⟨by rw[hO.len];exact fC,hc.1,hc.2,by rw[bU];exact hlen⟩,fun r h=>eT (h64 r h),hr⟩
theorem Xk (hO:OddsOk ar L) (g:GoodL ar P) (h1:∀ x∈ar,1<=x/\x<=64) {M:Nat} (hM:M=PM ar (bz L) ar.length 0) (h0:M≠0) {i:Nat} (hi:i < P.length) (hw:∀ j,j < i->Pq.wQ V j=dh false (Hc ar (bz L) P c j) M):Pq.okAt (pC L P V c) i=decide (Pq.wQ V i=dh false (Hc ar (bz L) P c i) M):=by
 have e1:(pC L P V c).nodes.es.getD i Pq.zN=pN P[i]:=by
  show (P.map pN).getD i Pq.zN=_;rw[aT,n0,bA hi];rfl
 unfold Pq.okAt;rw[e1,show (pC L P V c).ws=V from rfl,show (pC L P V c).odds=L from rfl,show (pC L P V c).leaf=c from rfl,qkV hO g (fun x hx=>(h1 x hx).1) c hM h0 hi (n:=pN P[i]) rfl rfl rfl hw]
theorem Z3 (hO:OddsOk ar L) (fC:ar.length<=16) (hP:P.length<=4000) {M:Nat} (hlen:V.es.length=P.length) (hV:LOk 30 V):Pq.COk 30 (pC L P V c):=
 ⟨by rw[show (pC L P V c).odds=L from rfl,hO.len];omega,.inl rfl,by rw[show (pC L P V c).nodes.es.length=P.length from bU ..];exact hP,hV,by rw[show (pC L P V c).ws=V from rfl,hlen];exact hP⟩
end
end Go.Ab
namespace Go.Ab
noncomputable section
open Go.Proofs.Tryz
theorem T8 (a0 a1 a2 a3 a4 a5:AV) (m:af):AC ae 8 [a0,a1,a2,a3,a4,a5] m=(eR none (some 3) m a5).bind fun r1=>(aD (AP ae) none r1.2 45 [a0]).bind fun r2=>(aS 0 r1.1).bind fun v3=>(ai none r2.2 v3).bind fun v4=>(aS 1 r1.1).bind fun v5=>(ai none r2.2 v5).bind fun v6=>(aS 1 r1.1).bind fun v7=>(ai none r2.2 v7).bind fun v8=>(aK false v8).bind fun v9=>(sT false v9 (.int .i64 3)).bind fun v10=>(kU none v6 none (some v10) none).bind fun v11=>(aS 2 r1.1).bind fun v12=>(ai none r2.2 v12).bind fun bp=>(aS 2 r1.1).bind fun bj=>(ai none r2.2 bj).bind fun bn=>(aK false bn).bind fun bO=>(sT false bO (.int .i64 3)).bind fun bB=>(kU none bp none (some bB) none).bind fun fk=>(fR (.agg [(.bool false),au,au]) [(0,none,v4),(1,none,v11),(2,none,fk)]).bind fun eU=>(aN (some 3) r2.2 r1.1 eU).bind fun m20=>(aD (AP ae) none m20 11 [r2.1]).bind fun ue=>(ag .other .neq ue.1 (.int .i64 0)).bind fun v22=>aw v22 ((aD (AP ae) none ue.2 46 []).bind fun mK=>some (mK.1,mK.2)) ((ai (some 3) ue.2 r1.1).bind fun v24=>(aD (AP ae) none ue.2 56 [v24]).bind fun kC=>(jg .not kC.1).bind fun v26=>aw v26 ((aD (AP ae) none kC.2 46 []).bind fun Es=>some (Es.1,Es.2)) ((ai (some 3) kC.2 r1.1).bind fun v28=>(aD (AP ae) none kC.2 57 [v28]).bind fun Bw=>(ag .other .eql Bw.1 (.int .i64 0)).bind fun v30=>aw v30 ((aD (AP ae) none Bw.2 46 []).bind fun oG=>some (oG.1,oG.2)) ((aD (AP ae) none Bw.2 47 [r2.1,a1]).bind fun uf=>(aD (AP ae) none uf.2 48 [r2.1,a2]).bind fun vE=>(aD (AP ae) none vE.2 18 [r2.1,vE.1]).bind fun qd=>(jg .not qd.1).bind fun ml=>aw ml ((aD (AP ae) none qd.2 46 []).bind fun ug=>some (ug.1,ug.2)) ((AC ae 49 [r2.1,uf.1] qd.2).bind fun qH=>(ba qH.1 0).bind fun qO=>(ba qH.1 1).bind fun rH=>(ba qH.1 2).bind fun v40=>(jg .not v40).bind fun zq=>aw zq (some ((.bool false),qH.2)) ((ag .other .rem a3 (.int .i64 6)).bind fun EG=>(ag .other .add EG (.int .i64 6)).bind fun zu=>(ag .other .rem zu (.int .i64 6)).bind fun EH=>(AC ae 50 [qO,rH,vE.1,EH] qH.2).bind fun sX=>(ba sX.1 0).bind fun v46=>(ba sX.1 1).bind fun EJ=>(aN (some 4) (aA none sX.2 (.obj true [au,au,au,(.int .i64 0)])).2 (.ptr (aA none sX.2 .resv).1 0) v46).bind fun m48=>(ag .other .neq EJ (.int .i64 0)).bind fun v49=>aw v49 (some ((.bool false),m48)) ((aS 2 (.ptr (aA none sX.2 .resv).1 0)).bind fun Pm=>(ai none m48 Pm).bind fun v51=>(aK false v51).bind fun Pn=>(ag .other .eql Pn (.int .i64 0)).bind fun v53=>aw v53 (some ((.bool false),m48)) ((aS 2 (.ptr (aA none sX.2 .resv).1 0)).bind fun Po=>(ai none m48 Po).bind fun EK=>(aK false EK).bind fun v56=>(ag .other .rem a4 v56).bind fun Pp=>(aS 2 (.ptr (aA none sX.2 .resv).1 0)).bind fun Jt=>(ai none m48 Jt).bind fun v59=>(aK false v59).bind fun EL=>(ag .other .add Pp EL).bind fun Pr=>(aS 2 (.ptr (aA none sX.2 .resv).1 0)).bind fun Ps=>(ai none m48 Ps).bind fun v63=>(aK false v63).bind fun Pt=>(ag .other .rem Pr Pt).bind fun Pu=>(aS 2 (.ptr (aA none sX.2 .resv).1 0)).bind fun Pv=>(ai none m48 Pv).bind fun Zq=>(aS 2 (.ptr (aA none sX.2 .resv).1 0)).bind fun Pw=>(ai none m48 Pw).bind fun Px=>(aG (some 3) Px Pu).bind fun v70=>(ai (some 3) m48 v70).bind fun v71=>(ai (some 3) m48 r1.1).bind fun v72=>(aD (AP ae) (some m48.length) m48 22 [v71,v72]).bind fun X7=>(aG (some 3) Zq Pu).bind fun v74=>(aN (some 3) X7.2 v74 X7.1).bind fun m75=>(ai (some 4) m75 (.ptr (aA none sX.2 .resv).1 0)).bind fun v76=>(aD (AP ae) none m75 53 [v76]).bind fun Ev=>(ba Ev.1 0).bind fun v78=>(ba Ev.1 1).bind fun v79=>(ba Ev.1 2).bind fun v80=>(aN (some 3) (aA none Ev.2 (.obj true [(.bool false),au,au])).2 (.ptr (aA none Ev.2 .resv).1 0) v78).bind fun m81=>(ag .other .eql v80 (.int .i64 32)).bind fun v82=>aw v82 ((ag .other .eql v79 Pu).bind fun v83=>aw v83 ((aD (AP ae) none m81 46 []).bind fun X8=>some (X8.1,X8.2)) (some ((.bool false),m81))) (some ((.bool false),m81))))))))):=
(bh ae 8 [a0,a1,a2,a3,a4,a5] m (fn:=f8) (c:=aC f8) at8 rfl).trans (by kernel_rfl)
end
end Go.Ab
namespace Go.Ab
open Go.Proofs Go.Proofs.Tryz
theorem LawOdds.h64 {ar:List Int} {L:OL} (h:LawOdds ar L) (h1:∀ x∈ar,1<=x/\x<=64):∀ r∈L.es,r.ns.length<=64:=fun r hr=>by
 obtain ⟨u,hu,rfl⟩:=pM hr;have:=h.row u hu;have DY:u < ar.length:=by rw[<- h.len];exact hu
 rw[aT,bA DY,fg] at this;have:=h1 _ (bM DY);omega
end Go.Ab
namespace Go.Ab
open Go.Proofs Go.Proofs.Tryz
theorem Eo (d:Option Nat) (m:af):aD (AP ae) d m 46 []=some (.bool true,m):=Pq.pcall10
theorem qnx (z zg:Bool) (o:Own) {ar:List Int} (h2:∀ x∈ar,1<=x/\x<=64) (h1:ar.length<=16) (gv:List Int):∃ L:OL,(∀ m,aD (AP ae) none m 48 [IA z o ar,IA zg .no gv]=some (L.av,m))/\LawOdds ar L/\∀ r∈L.es,r.z=false:=by
 obtain ⟨L,e,hL,hz⟩:=qgj z zg o.fr .no h2 h1 gv;exact ⟨L,fun m=>by rw[fP (nA z o ar) (nA zg .no gv),show (Own.no).fr=Own.no from rfl,e];rfl,hL,hz⟩
theorem qnw (z zl:Bool) (o:Own) {ar:List Int} (l:List Int) (h1:ar.length<=16) (h2:∀ a∈ar,1<=a/\a<=64) {N:Nat} (hN:oF 100 1 ar=N) (AG:N<=100):∃ (z':Bool) (o':Own) (t:List Int),(∀ m,aD (AP ae) none m 47 [IA z o ar,IA zl .no l]=some (IA z' o' t,m))/\t.length=N/\∀ y∈t,0<=y/\y<=4:=by
 obtain ⟨z',o',t,e,_,a,b⟩:=V47 z zl o.fr .no ar l h1 h2 hN AG;exact ⟨z',o',t,fun m=>by rw[fP (nA z o ar) (nA zl .no l),show (Own.no).fr=Own.no from rfl,e];rfl,a,fun y hy=>by have:=b y hy;omega⟩
end Go.Ab
namespace Go.Ab
open Go.Proofs Go.Proofs.Tryz
section
variable {ar t:List Int} {L:OL}
end
theorem Yg (tk:TK) (a:Int):ag tk .rem (.int .i64 a) (.int .i64 6)=some (.int .i64 (a.tmod 6)):=by cases tk<;>rfl
theorem qmP (a:Int):0<=(IntKind.wrap .i64 (a.tmod 6+6)).tmod 6/\(IntKind.wrap .i64 (a.tmod 6+6)).tmod 6<=2147483647:=by
 have a1:=Int.tmod_lt_of_pos a (show (0:Int) < 6 by omega)
 have a2:-6 < a.tmod 6:=by
  rcases Int.le_total 0 a with h0 | h0
  ·have:=Int.tmod_nonneg (a:=a) 6 h0;omega
  ·have e:(-a).tmod 6=-(a.tmod 6):=Int.neg_tmod ..;have:=Int.tmod_lt_of_pos (-a) (show (0:Int) < 6 by omega);omega
 rw[iK (by omega) (by omega)];have b1:=Int.tmod_lt_of_pos (a.tmod 6+6) (show (0:Int) < 6 by omega);have b2:=Int.tmod_nonneg (a:=a.tmod 6+6) 6 (by omega);omega
theorem qn8 {ar:List Int} {P:List ND} (g:GoodL ar P) (hP:0 < P.length) (hs:eu P (Vi P (P.length - 1) [])=P):oK ar (P.map jR):=by
 obtain ⟨d1,_,_⟩:=qs g (P.length - 1) (by omega) [] ri;have:=Rv g d1;rw[hs] at this;exact this
end Go.Ab
namespace Go.Ab
open Go.Proofs Go.Proofs.Tryz
def XN (x:NV):Prop:=(∀ i,x.ds.getD i 0 < 4294967296)/\(x.z=true->x.ds=[])
def XR (r:RV):Prop:=XN r.num/\XN r.den
def yb (x:NV):NV:=⟨x.z,.no,x.ds.take (min x.ds.length 3)⟩
def Aw (r:RV):RV:=⟨r.neg,yb r.num,yb r.den⟩
theorem qjY (r:RV):(Aw r).fr=Aw r:=rfl
theorem Hu {x:NV} (h:XN x):NOk (yb x)/\(yb x).ds.length<=3:=by
 refine ⟨⟨fun i=>?_,?_,fun hz=>?_⟩,?_⟩
 ·show (x.ds.take _).getD i 0 < _;rw[aT]
  by_cases hi:i < min x.ds.length 3
  ·rw[List.getElem?_take_of_lt hi,<- aT];exact h.1 i
  ·rw[mQ (by rw[ji];omega)];exact (by omega:0 < 4294967296)
 ·show (x.ds.take _).length < _;rw[ji];omega
 ·show x.ds.take _=[];rw[h.2 hz];rfl
 ·show (x.ds.take _).length<=3;rw[ji];omega
theorem qjZ {r:RV} (h:XR r):ROk 3 (Aw r):=⟨(Hu h.1).1,(Hu h.2).1,(Hu h.1).2,(Hu h.2).2⟩
theorem YP (x:NV):kU none x.av none (some (.int .i64 ((min x.ds.length 3:Nat):Int))) none=some (yb x).av:=by
 have h:min x.ds.length 3<=x.ds.length:=Nat.min_le_left _ _
 have:kU none (.lst none x.z x.o (x.ds.map dg)) none (some (.int .i64 ((min x.ds.length 3:Nat):Int))) none=some (.lst none x.z .no ((x.ds.take (min x.ds.length 3)).map dg)):=by
  generalize min x.ds.length 3=k at h;simp[kU,qg,jj,h,xL]
 exact this
theorem qjl (b:Bool) (x y:NV):fR (.agg [.bool false,au,au]) [(0,none,.bool b),(1,none,x.av),(2,none,y.av)]=some (RV.av ⟨b,x,y⟩):=rfl
theorem Wh (x:NV):aK false x.av=some (.int .i64 x.ds.length):=by
 show aK false (.lst none x.z x.o (x.ds.map dg))=_;rw[oW,bU]
theorem WR (n:Nat):sT false (.int .i64 n) (.int .i64 3)=some (.int .i64 (min n 3:Nat)):=by
 simp only[sT,bq,jM,lL];congr 2;split<;>omega
theorem Yh (tk:TK) (a:Int) {n:Nat} (h:n≠0):ag tk .rem (.int .i64 a) (.int .i64 n)=some (.int .i64 (a.tmod n)):=by
 have e:ag tk .rem (.int .i64 a) (.int .i64 n)=if (n:Int)=0 then none else some (.int .i64 (a.tmod n)):=by cases tk<;>rfl
 rw[e,aj (by omega)]
theorem qmQ (a:Int) {n:Nat} (h:n≠0) (hn:n<=100000):∃ i:Nat,(IntKind.wrap .i64 (a.tmod n+n)).tmod n=i/\i < n:=by
 have a1:=Int.tmod_lt_of_pos a (show (0:Int) < n by omega)
 have a2:-(n:Int) < a.tmod n:=by
  rcases Int.le_total 0 a with h0 | h0
  ·have:=Int.tmod_nonneg (a:=a) n h0;omega
  ·have e:(-a).tmod n=-(a.tmod n):=Int.neg_tmod ..;have:=Int.tmod_lt_of_pos (-a) (show (0:Int) < n by omega);omega
 rw[iK (by omega) (by omega)];have b1:=Int.tmod_lt_of_pos (a.tmod n+n) (show (0:Int) < n by omega);have b2:=Int.tmod_nonneg (a:=a.tmod n+n) n (by omega);exact ⟨((a.tmod n+n).tmod n).toNat,by omega,by omega⟩
theorem Wj {m:af} {x:AV} {ws:List RV} {T:List Nat} (h:WA m x ws T):aK false x=some (.int .i64 ws.length):=by
 cases h with
 | none=>rfl
 | some t ws ht hne=>rfl
section
variable {ar:List Int} {L:OL} {P:List ND} {V:LV} {c:Int}
theorem qjG (hO:OddsOk ar L) (g:GoodL ar P) (fC:ar.length<=16) (h1:∀ x∈ar,1<=x/\x<=64) (hR:oK ar (P.map jR)) (AH:0 < P.length) (hc:0<=c/\c<=2147483647) {M:Nat} (hM:M=PM ar (bz L) ar.length 0) (h0:M≠0) (hlen:V.es.length=P.length) {i:Nat} (hi:i < P.length) (hws:∀ k (h:k < V.es.length),k≠i->WC M V.es[k] (Hc ar (bz L) P c k)) (hr:∀ h:i < V.es.length,kN V.es[i]=true/\V.es[i].q≠dh false (Hc ar (bz L) P c i) M) :
  Pq.checkE (pC L P V c)=32/\Pq.checkI (pC L P V c)=i:=by
 have hs:Pq.shapedB (pC L P V c)=true:=qou hO fC h1 hR AH hc hlen fun r Ie=>by
  obtain ⟨k,hk,rfl⟩:=Cx.1 Ie
  by_cases e:k=i
  ·subst e;exact (hr hk).1
  ·exact LC (hws k hk e).can
 have hq:∀ k,k < i->Pq.wQ V k=dh false (Hc ar (bz L) P c k) M:=fun k hk=>by
  rw[Pq.wQ_get (by omega)];exact (hws k (by omega) (by omega)).wv.q
 have hf:Pq.firstF (Pq.okAt (pC L P V c)) (pC L P V c).nodes.es.length 0=some i:=by
  have e:(pC L P V c).nodes.es.length=P.length:=bU ..
  refine TZ _ _ i (by omega) (by omega) (fun t _ ht=>?_) ?_
  ·rw[Xk hO g h1 hM h0 (by omega) fun j hj=>hq j (by omega)];exact eT (hq t ht)
  ·rw[Xk hO g h1 hM h0 hi fun j hj=>hq j hj,Pq.wQ_get (by omega)];exact dk (hr (by omega)).2
 refine ⟨?_,?_⟩
 ·unfold Pq.checkE;rw[an hs,hf]
 ·unfold Pq.checkI;rw[an hs,hf]
end
theorem qe8 (z zl zg:Bool) (ar l gv:List Int) (c0 at0:Int) {b:RV} (hx:XR b):∃ m',AC ae 8 [IA z .no ar,IA zl .no l,IA zg .no gv,.int .i64 c0,.int .i64 at0,b.av] []=some (.bool true,m'):=by
 obtain ⟨o',r,e45,hg,qpZ,DK⟩:=qgi z .no ar
 have p45:∀ m,aD (AP ae) none m 45 [IA z .no ar]=some (IA false o' r,m):=fun m=>by
  rw[cw (nA z .no ar),show (Own.no).fr=Own.no from rfl,e45];rfl
 have bx:eR none (some 3) [] b.av=some (.ptr 0 0,[bR b]):=rfl;have l0:ai none [bR b] (.ptr 0 (0+0))=some (.bool b.neg):=rfl;have l1:ai none [bR b] (.ptr 0 (0+1))=some b.num.av:=rfl;have l2:ai none [bR b] (.ptr 0 (0+2))=some b.den.av:=rfl;have st:aN (some 3) [bR b] (.ptr 0 0) (RV.av ⟨b.neg,yb b.num,yb b.den⟩)=some [bR (Aw b)]:=uk (r:=Aw b) (c1:=.bool b.neg) (c2:=b.num.av) (c3:=b.den.av) rfl;have El:=qjZ hx;have frB:=qjY b;rw[T8,bx,aa];dsimp only;rw[p45,aa,gg,aa];dsimp only;rw[l0,aa,gg,aa,l1,aa,aa,l1,aa,Wh,aa,WR,aa,YP,aa,gg,aa,l2,aa,aa,l2,aa,Wh,aa,WR,aa,YP,aa,qjl,aa,st,aa,XF,aa,iY,aa,az];generalize Aw b=B at *
 by_cases he:og r=0
 ·rw[aj (by simpa using he)];obtain ⟨h1,h2⟩:=xW he;obtain ⟨hN,AG⟩:=qkd hg he;obtain ⟨zt,ot,t,p47,gF,Nv⟩:=qnw false zl o' l h1 h2 hN AG;obtain ⟨L,p48,hL,hz⟩:=qnx false zg o' h2 h1 gv;have h64:=hL.h64 h2;have oN:L.es.length<=40:=by rw[hL.len];omega
  have hc:=qmP c0;generalize tG:(IntKind.wrap .i64 (c0.tmod 6+6)).tmod 6=c at hc;have lB:ai (some 3) [bR B] (.ptr 0 0)=some B.av:=rfl;have p56:aD (AP ae) none [bR B] 56 [B.av]=some (.bool (kN B),[bR B]):=by rw[cw (iu B),frB,V56 El (by omega)];rfl
  have p57:aD (AP ae) none [bR B] 57 [B.av]=some (.int .i64 (zi B.q),[bR B]):=by rw[cw (iu B),frB,Sk El (by omega)];rfl
  dsimp only;rw[lB,aa,p56,aa,qM,aa]
  cases hrB:kN B with
  | false=>
   rw[nT,mJ];dsimp only;rw[Eo,aa];exact ⟨_,rfl⟩
  | true=>
  rw[jN,ig];dsimp only;rw[lB,aa,p57,aa,ir,aa,az];dsimp only
  by_cases Nq:zi B.q=0
  ·rw[an Nq,Eo,aa];exact ⟨_,rfl⟩
  rw[aj Nq,p47,aa];dsimp only;rw[p48,aa];dsimp only;have hBq:B.q≠0:=fun e=>Nq (by rw[e];rfl)
  have p18:∀ (zs:Bool) (os:Own) m,aD (AP ae) none m 18 [IA false o' r,L.av]=some (.bool (Pq.oddsB ⟨zs,os,r⟩ L),m):=fun zs os m=>by
   rw[fP (nA false o' r) (Pq.fz_ol L),hL.fr];have:=Pq.V18 ⟨false,o'.fr,r⟩ L h64 oN;have e:AP ae 18 [IA false o'.fr r,L.av]=some (.bool (Pq.oddsB ⟨zs,os,r⟩ L)):=this;rw[e];rfl
  obtain ⟨m1,s,F,zs,os,P,e49,st1,g,AH,hP4,tab,f1,_,vo,h31⟩:=ZP (za:=false) (zt:=zt) (oa:=o') (ot:=ot) (ar:=r) (t:=t) [bR B] (fun h=>by cases h) he (by omega) gF Nv;rw[p18 zs os,aa];dsimp only
  cases hO:Pq.oddsB ⟨zs,os,r⟩ L with
  | false=>
   rw[qM,aa,nT,mJ,Eo,aa];exact ⟨_,rfl⟩
  | true=>
   have hid:P.length - 1 < P.length:=by omega
   have be:=Oo h64 hO;obtain ⟨tE,oO⟩:=GM be.all h1;obtain ⟨m2,tk,x,ws,T,e50,f2,hw,hT,hlen,hws⟩:=qeZ st1 (by omega) g (by omega) h2 h1 hid vo h64 oN hz hL.fr hO hc;obtain ⟨wa1,wa2⟩:=PA hw
   have b1:aN (some 4) (m2++[some (.obj true [au,au,au,.int .i64 0])]) (.ptr m2.length 0) (cA (gO L) false (.tok tk 74) P x c)=some (m2++[some (.obj true [(gO L).av,NL false (.tok tk 74) P,x,.int .i64 c])]):=by
    rw[O2 (a:=(gO L).av) (b:=NL false (.tok tk 74) P) (w:=x) (n:=c) (bV rfl) rfl ⟨rfl,rfl⟩ ⟨rfl,rfl⟩ ⟨wa1,wa2⟩,qJ m2 _ _ rfl]
   have g3:af.get (m2++[some (Ent.obj true [(gO L).av,NL false (.tok tk 74) P,x,.int .i64 c])]) m2.length=some (.obj true [(gO L).av,NL false (.tok tk 74) P,x,.int .i64 c]):=bV rfl;have A7:WA (m2++[some (Ent.obj true [(gO L).av,NL false (.tok tk 74) P,x,.int .i64 c])]) x ws T:=EP hw fun t ht=>cn (EO hw t ht);have lm1:=f1.len;have lm2:=f2.len;simp only[aJ,aM] at lm1
   have g0:af.get (m2++[some (Ent.obj true [(gO L).av,NL false (.tok tk 74) P,x,.int .i64 c])]) 0=bR B:=by
    rw[cn (by omega),f2.get 0 (by omega) (by simp),f1.get 0 (by simp) (by simp)];rfl
   have Vq:=Tz be;have Nn:bz (gO L)=bz L:=LG L;have hTm:m2.length∉T:=fun hh=>by have:=EO hw _ hh;omega
   generalize hm3:m2++[some (Ent.obj true [(gO L).av,NL false (.tok tk 74) P,x,.int .i64 c])]=m3 at b1 g3 A7 g0;have A8:ws.length≠0:=by omega
   obtain ⟨i,ei,hi⟩:=qmQ at0 (n:=ws.length) A8 (by omega);obtain ⟨ad,ia,la⟩:=Zv A7 hi;obtain ⟨ad',ia',put⟩:=qpC A7 hi;rw[ia] at ia';obtain rfl:ad=ad':=po ia';have wi:=hws i hi;obtain ⟨y,ey,cy,fy⟩:=Sg (a:=ws[i]) (b:=B) (k:=9) wi.wv.ok (El.mono (by omega)) (by omega) (by omega);obtain ⟨m4,st4,D1,f4⟩:=put m3 y A7;have g4:m4.get m2.length=some (.obj true [(gO L).av,NL false (.tok tk 74) P,x,.int .i64 c]):=by rw[f4.get _ (bJ g3) hTm];exact g3
   have MC:Bd 9 (ws[i].q):=wi.wv.ok.bd (by omega);have hbB:Bd 3 B.q:=El.bd (by omega);have oky:ROk 30 y:=(cy.ok (JD MC (hbB.mono (by omega:3<=9)) (by omega)) (by omega)).mono (by omega)
   have wfs:∀ q∈ws.set i y,ROk 30 q/\q.fr=q:=fun q hq=>by
    rcases List.mem_or_eq_of_mem_set hq with hq | rfl
    ·obtain ⟨k,hk,rfl⟩:=Cx.1 hq;exact ⟨(hws k hk).wv.ok.mono (by omega),(hws k hk).wv.fr⟩
    ·exact ⟨oky,fy⟩
   have Ve:(wv (ws.set i y)).es.length=P.length:=by rw[BM,aZ];exact hlen
   have hRL:=qn8 g AH vo;have iv:∀ k (h:k < (wv (ws.set i y)).es.length),(wv (ws.set i y)).es[k]=(ws.set i y)[k]'(by rw[BM] at h;exact h):=fun k h=>by simp only[BM]
   obtain ⟨cE,cI⟩:=qjG Vq g h1 h2 hRL AH hc (M:=PM r (bz L) r.length 0) (V:=wv (ws.set i y)) (c:=c) (by rw[Nn]) tE Ve (i:=i) (by omega) (fun k hk jt=>by
    have kK:k < ws.length:=by rw[BM,aZ] at hk;exact hk
    rw[iv k hk,List.getElem_set_ne (by omega),Nn]
    exact hws k kK) (fun hh=>by
    rw[iv i hh,List.getElem_set_self,Nn];refine ⟨LC cy,fun e=>hBq ?_⟩;rw[cy.q,wi.wv.q] at e;have:=dc (fun q=>-dh false (Hc r (bz L) P c i) (PM r (bz L) r.length 0)+q) e
    rwa [<- Rat.add_assoc,Rat.neg_add_cancel,Rat.zero_add] at this)
   obtain ⟨rr,zd,rq,rf,rk⟩:=Pq.V53 (Z3 (c:=c) Vq h1 (by omega) (M:=PM r (bz L) r.length 0) Ve (qpH (k:=30) wfs));rw[cE,cI,qnp g.ok] at zd
   have p53:aD (AP ae) none m4 53 [cA (gO L) false (.tok tk 74) P x c]=some (.tup [rr.av,.int .i64 (i:Int),.int .i64 32],jm m4 T):=by
    rw[qny D1 (fun q hq=>(wfs q hq).2) (Tx L),show (Own.tok tk 74).fr=Own.no from rfl,zd];rfl
   generalize jm m4 T=m5 at p53;have nz:∀ m:af,(aA none m (.obj true [.bool false,au,au])).2=m++[bZ]:=fun _=>rfl
   have st0:∀ (m:af) (q:RV),aN (some 3) (m++[bZ]) (.ptr m.length 0) q.av=some (m++[bR q]):=fun m q=>by
    rw[uk (c1:=.bool false) (c2:=au) (c3:=au) (bV rfl),qJ m _ _ rfl]
   have p22:aD (AP ae) (some m3.length) m3 22 [ws[i].av,B.av]=some (y.av,m3):=by
    rw[fP (iu _) (iu _),wi.wv.fr,frB,ey];rfl
   have lw:ai none m3 (.ptr m2.length (0+2))=some x:=by rw[eY,g3];rfl
   rw[qM,aa,jN,ig,e49,aa,show ba (.tup [.ptr s 0,.int .i64 (P.length - 1:Nat),.bool true]) 0=some (.ptr s 0) from rfl,aa,show ba (.tup [.ptr s 0,.int .i64 (P.length - 1:Nat),.bool true]) 1=some (.int .i64 (P.length - 1:Nat)) from rfl,aa,show ba (.tup [.ptr s 0,.int .i64 (P.length - 1:Nat),.bool true]) 2=some (.bool true) from rfl,aa,qM,aa,jN,ig,Yg,aa,kQ,aa,Yg,aa,tG];dsimp only;rw[e50,aa];dsimp only;rw[rj,aa,rl,aa,Oe,II,b1,aa,show ag .other .neq (.int .i64 0) (.int .i64 0)=some (.bool false) from rfl,aa,ig,gg,aa,lw,aa,Wj A7,aa,ir,aa,az,aj (by omega)];simp only[aa,lw,Wj A7];rw[Yh _ _ A8,aa,kQ,aa,Yh _ _ A8,aa,ei,ia,aa,la m3 (fun _ _=>rfl),aa,sQ g0,aa,p22,aa,aa];dsimp only;rw[st4,aa,NO g4,aa,p53,aa,show ba (.tup [rr.av,.int .i64 (i:Int),.int .i64 32]) 0=some rr.av from rfl,aa,show ba (.tup [rr.av,.int .i64 (i:Int),.int .i64 32]) 1=some (.int .i64 (i:Int)) from rfl,aa,show ba (.tup [rr.av,.int .i64 (i:Int),.int .i64 32]) 2=some (.int .i64 32) from rfl,aa];dsimp only;rw[nz,II,st0,aa,show ag .other .eql (.int .i64 32) (.int .i64 32)=some (.bool true) from rfl,aa,mJ,ir,aa,eT rfl,mJ,Eo,aa];exact ⟨_,rfl⟩
 ·rw[an he,Eo,aa];exact ⟨_,rfl⟩
end Go.Ab
namespace Go.Ab
open Go.Proofs Go.RowKit
theorem ql3 (caps:Array Value) (w:World):CallsD Tryz.prog 140 caps .returning w fun e u w'=>(∃ v,e=.returned v)/\u=.returning/\w'=w:=by
 refine callsD_of_wpS Tryz.func140 rfl fun c₀ cs hu=>?_
 have hs:45<=(caps++Array.replicate (Tryz.f140.ntmps - caps.size) undef).size:=by
  rw[Tryz.ntmps140,zD,Array.size_replicate];omega
 generalize caps++Array.replicate (Tryz.f140.ntmps - caps.size) undef=T at hs;apply wpS_seq;apply wpS_region;simp[wpOpsS,go_sem,recoverD,hu,Exit.thenS,Act.put,Act.eval,show 9 < T.size by omega,show 4 < T.size by omega];apply wpS_seq;apply wpS_seq;apply wpS_region;simp[wpOpsS,go_sem,recoverD,hu,Exit.thenS,Act.put,Act.eval,show 9 < T.size by omega,show 4 < T.size by omega,show 10 < T.size by omega,show 11 < T.size by omega];refine wpS_cond (t:=true) (by simp[Act.eval,show 11 < T.size by omega]) ?_;simp only[bq];refine wpS_of_wp (wp_ret ?_);cases c₀
 simp_all [bodyPostS,results,Tryz.results140,Exit.thenS]
theorem ql4 (caps:Array Value) (w:World):CallsD Tryz.prog 177 caps .returning w fun e u w'=>(∃ v,e=.returned v)/\u=.returning/\w'=w:=by
 refine callsD_of_wpS Tryz.func177 rfl fun c₀ cs hu=>?_
 have hs:3<=(caps++Array.replicate (Tryz.f177.ntmps - caps.size) undef).size:=by
  rw[Tryz.ntmps177,zD,Array.size_replicate];omega
 generalize caps++Array.replicate (Tryz.f177.ntmps - caps.size) undef=T at hs;apply wpS_seq;apply wpS_region;simp[wpOpsS,go_sem,recoverD,hu,Exit.thenS,Act.put,Act.eval,show 1 < T.size by omega,show 2 < T.size by omega];refine wpS_cond (t:=false) (by simp[Act.eval,show 2 < T.size by omega]) ?_;simp only[jM,lL];refine wpS_of_wp (wp_skip ?_);cases c₀
 simp_all [bodyPostS,results,Tryz.results177]
theorem Ta {g:Nat} {fn:Func} (hfn:Tryz.prog.funcs[g]?=some fn) (hname:(fn.name == "runtime.NumGoroutine")=false) (hbody:fn.body.isSome) (caps:Array Value)
  (h:∀ w,CallsD Tryz.prog g caps .returning w fun e u w'=>(∃ v,e=.returned v)/\u=.returning/\w'=w):BZ Tryz.prog { target:=.fn (.func g) caps,args:=#[] }:=by
 refine ⟨.func g,caps,g,caps,rfl,fun w=>⟨?_,h w⟩⟩;have hb:fn.body.isNone=false:=by cases hb:fn.body<;>simp_all
 simp only[invoke,callFunc,hfn,hname,hb,Sem.run_bind,Sem.run_pure,run_program,Result.andThen_ok,jM,lL,Array.empty_append]
theorem qjh (caps:Array Value):BZ Tryz.prog { target:=.fn (.func 140) caps,args:=#[] }:=Ta Tryz.func140 (by kernel_rfl) (by kernel_rfl) caps (ql3 caps)
theorem qji (caps:Array Value):BZ Tryz.prog { target:=.fn (.func 177) caps,args:=#[] }:=Ta Tryz.func177 (by kernel_rfl) (by kernel_rfl) caps (ql4 caps)
end Go.Ab
