/- A stable sort on a row in memory: searches, moves of one element, the symmetric merge. -/
import Derived.Test.YtiipgpkgcdhbfaaGreatDoorGP2
import Derived.Test.YtiipgpkgcdhbfaaGreatDoorGP1
set_option maxRecDepth 100000
set_option linter.unusedVariables false
set_option linter.unusedSimpArgs false
set_option linter.unusedSectionVars false
namespace Go.Ab
open Go.Proofs Go.Proofs.Tryz
theorem qtE(a:Nat):ag .o .shr (.U (a:Int)) (.U 1)=some (.U ((a/2:Nat):Int)):=by
 rw[Xb _ _ _ _ _ aa]
 have:(a:Int).fdiv (2^(min (1:Int).toNat (IntKind.bits .u64)))=((a/2:Nat):Int):=by
  have e:min (1:Int).toNat (IntKind.bits .u64)=1:=rfl;rw[e,Int.fdiv_eq_ediv_of_nonneg _ aa];omega
 rw[this]
theorem qoB{k:IntKind}{a:Nat}(h:a<9223372036854775808):bE .i64 (.int k a)=some (ni a):=by rw[mX,iV aa aa]
section
variable {R:Type}
theorem KG{i j:Nat}(h:i+j<1000000)(K:AV->Option R):((ag .o .add (ni i) (ni j)).bind fun v2=>(bE .u64 v2).bind fun v3=>(ag .o .shr v3 (.U 1)).bind fun v4=>(bE .i64 v4).bind fun v5=>K v5)=K (ni ((i+j)/2)):=by
 rw[lU aa,ae,Cg aa,ae,qtE,ae,qoB aa,ae]
end
section
variable {m0:ai} {nm N L:Nat} {p:AV} {f:Nat->Int}
theorem S3(hL:L<=100000)(hc:rv m0 nm N p f){l:List Nat}{a lo hi:Nat}(ha:a<L)(hh:hi<=L)(K:KT):∀(k i j:Nat) (m:ai),j-i=k->lo<=i->i<=j->j<=hi->(i=lo\/f (l.getD (i-1) 0)<f (l.getD a 0))->(j=hi\/¬ f (l.getD j 0)<f (l.getD a 0))->SD m0 nm N L m l ->
  ∃(m':ai) (s:Nat),xM (.arr nm 0 L none) (ni a) (.fn 67 [p]) (ni i) (ni j) m K=K (.exit 0) (NC (.arr nm 0 L none) (ni a) (ni s) m')/\SD m0 nm N L m' l/\Me (fun c=>f (l.getD c 0)<f (l.getD a 0)) lo hi s:=by
 intro k
 induction k using Nat.strongRecOn with
 | ind k ih=>
  intro i j m hk h1 h2 h3 h4 h5 h
  by_cases iD:i<j
  .have qW:i<=(i+j)/2:=aa;have wU:(i+j)/2<j:=aa;generalize FG:(i+j)/2=q at qW wU;obtain ⟨l1,n1⟩:=h.ld' (i:=q) aa;obtain ⟨l2,n2⟩:=h.ld' (i:=a) ha;obtain ⟨m1,e1,k1⟩:=h.cmp hc n1 n2;have i1:aI none (.arr nm 0 L none) (ni q)=some (.ptr nm q):=gF aa;have i2:aI none (.arr nm 0 L none) (ni a)=some (.ptr nm a):=gF ha
   have AS:xM (.arr nm 0 L none) (ni a) (.fn 67 [p]) (ni i) (ni j) m K=aB (.bool (decide (f (l.getD q 0)-f (l.getD a 0)<0))) ((ag .o .add (ni q) (.I 1)).bind fun bf=>xM (.arr nm 0 L none) (ni a) (.fn 67 [p]) bf (ni j) m1 K) (xM (.arr nm 0 L none) (ni a) (.fn 67 [p]) (ni i) (ni q) m1 K):=by
    rw[TV,bz,ae,aC,aq aa,KG aa,FG,i1,ae,l1,ae,i2,ae,l2,ae,show kI (.fn 67 [p])=some (67,[p]) from rfl,ae,uI rfl rfl rfl,e1,ae,bz,ae]
   rw[AS,aC]
   by_cases ht:f (l.getD q 0)-f (l.getD a 0)<0
   .rw[aq ht,bU aa,ae];exact ih (j-(q+1)) aa (q+1) j m1 rfl aa aa h3 (.inr (by rw[pQ];omega)) h5 k1
   .rw[an ht];exact ih (q-i) aa i q m1 rfl h1 qW aa h4 (.inr aa) k1
  .have:i=j:=aa;subst this;refine ⟨m,i,?_,h,h1,h3,h4,h5⟩;rw[TV,bz,ae,aC,an aa]
theorem S15(hL:L<=100000)(hc:rv m0 nm N p f){l:List Nat}{a lo hi:Nat}(ha:a<L)(hh:hi<=L)(K:KT):∀(k i j:Nat) (m:ai),j-i=k->lo<=i->i<=j->j<=hi->(i=lo\/f (l.getD (i-1) 0)<=f (l.getD a 0))->(j=hi\/¬ f (l.getD j 0)<=f (l.getD a 0))->SD m0 nm N L m l ->
  ∃(m':ai) (s:Nat),xL (.arr nm 0 L none) (ni a) (.fn 67 [p]) (ni i) (ni j) m K=K (.exit 4) (NB (.arr nm 0 L none) (ni a) (ni s) m')/\SD m0 nm N L m' l/\Me (fun c=>f (l.getD c 0)<=f (l.getD a 0)) lo hi s:=by
 intro k
 induction k using Nat.strongRecOn with
 | ind k ih=>
  intro i j m hk h1 h2 h3 h4 h5 h
  by_cases iD:i<j
  .have qW:i<=(i+j)/2:=aa;have wU:(i+j)/2<j:=aa;generalize FG:(i+j)/2=q at qW wU;obtain ⟨l1,n1⟩:=h.ld' (i:=q) aa;obtain ⟨l2,n2⟩:=h.ld' (i:=a) ha;obtain ⟨m1,e1,k1⟩:=h.cmp hc n2 n1;have i1:aI none (.arr nm 0 L none) (ni q)=some (.ptr nm q):=gF aa;have i2:aI none (.arr nm 0 L none) (ni a)=some (.ptr nm a):=gF ha
   have AS:xL (.arr nm 0 L none) (ni a) (.fn 67 [p]) (ni i) (ni j) m K=aB (.bool (!decide (f (l.getD a 0)-f (l.getD q 0)<0))) ((ag .o .add (ni q) (.I 1)).bind fun bf=>xL (.arr nm 0 L none) (ni a) (.fn 67 [p]) bf (ni j) m1 K) (xL (.arr nm 0 L none) (ni a) (.fn 67 [p]) (ni i) (ni q) m1 K):=by
    rw[TR,bz,ae,aC,aq aa,KG aa,FG,i2,ae,l2,ae,i1,ae,l1,ae,show kI (.fn 67 [p])=some (67,[p]) from rfl,ae,uI rfl rfl rfl,e1,ae,bz,ae,nB,ae]
   rw[AS]
   by_cases ht:f (l.getD a 0)-f (l.getD q 0)<0
   .rw[bM ht,jj,gT];exact ih (q-i) aa i q m1 rfl h1 qW aa h4 (.inr aa) k1
   .rw[bD ht,my,ll,bU aa,ae];exact ih (j-(q+1)) aa (q+1) j m1 rfl aa aa h3 (.inr (by rw[pQ];omega)) h5 k1
  .have:i=j:=aa;subst this;refine ⟨m,i,?_,h,h1,h3,h4,h5⟩;rw[TR,bz,ae,aC,an aa]
theorem S33(hL:L<=100000)(hc:rv m0 nm N p f){l:List Nat}{pp lo hi:Nat}(hh:hi<=pp+1)(hp:pp<L+lo)(hhl:hi<=L)(x1 x2 x3 fF jr:AV)(K:KT):∀(k i j:Nat) (m:ai),j-i=k->lo<=i->i<=j->j<=hi->(i=lo\/f (l.getD (i-1) 0)<=f (l.getD (pp-(i-1)) 0))->(j=hi\/¬ f (l.getD j 0)<=f (l.getD (pp-j) 0))->SD m0 nm N L m l ->
  ∃(m':ai) (s:Nat),si (.arr nm 0 L none) x1 x2 x3 (.fn 67 [p]) fF jr (ni i) (ni j) (ni pp) m K=K (.exit 8) (IK (.arr nm 0 L none) x1 x2 x3 (.fn 67 [p]) fF jr (ni s) m')/\SD m0 nm N L m' l/\Me (fun c=>f (l.getD c 0)<=f (l.getD (pp-c) 0)) lo hi s:=by
 intro k
 induction k using Nat.strongRecOn with
 | ind k ih=>
  intro i j m hk h1 h2 h3 h4 h5 h
  by_cases iD:i<j
  .have qW:i<=(i+j)/2:=aa;have wU:(i+j)/2<j:=aa;generalize FG:(i+j)/2=q at qW wU;obtain ⟨l1,n1⟩:=h.ld' (i:=q) aa;obtain ⟨l2,n2⟩:=h.ld' (i:=pp-q) aa;obtain ⟨m1,e1,k1⟩:=h.cmp hc n2 n1;have i1:aI none (.arr nm 0 L none) (ni q)=some (.ptr nm q):=gF aa;have i2:aI none (.arr nm 0 L none) (ni (pp-q))=some (.ptr nm (pp-q)):=gF aa
   have AS:si (.arr nm 0 L none) x1 x2 x3 (.fn 67 [p]) fF jr (ni i) (ni j) (ni pp) m K=aB (.bool (!decide (f (l.getD (pp-q) 0)-f (l.getD q 0)<0))) ((ag .o .add (ni q) (.I 1)).bind fun bf=>si (.arr nm 0 L none) x1 x2 x3 (.fn 67 [p]) fF jr bf (ni j) (ni pp) m1 K) (si (.arr nm 0 L none) x1 x2 x3 (.fn 67 [p]) fF jr (ni i) (ni q) (ni pp) m1 K):=by
    rw[TU,bz,ae,aC,aq aa,KG aa,FG,om aa aa,ae,i2,ae,l2,ae,i1,ae,l1,ae,show kI (.fn 67 [p])=some (67,[p]) from rfl,ae,uI rfl rfl rfl,e1,ae,bz,ae,nB,ae]
   rw[AS]
   by_cases ht:f (l.getD (pp-q) 0)-f (l.getD q 0)<0
   .rw[bM ht,jj,gT];exact ih (q-i) aa i q m1 rfl h1 qW aa h4 (.inr aa) k1
   .rw[bD ht,my,ll,bU aa,ae];exact ih (j-(q+1)) aa (q+1) j m1 rfl aa aa h3 (.inr (by rw[pQ];omega)) h5 k1
  .have:i=j:=aa;subst this;refine ⟨m,i,?_,h,h1,h3,h4,h5⟩;rw[TU,bz,ae,aC,an aa]
theorem W9(hL:L<=100000){x s:Nat}{pre post:List Nat}:∀(Q P:List Nat) (m:ai),s=pre.length+P.length+1+Q.length->SD m0 nm N L m (pre++(P++x::(Q++post))) ->
  ∃m',H8 (.arr nm 0 L none) (ni s) (ni (pre.length+P.length)) m (Mz (aH f166))=some (.tup [],m')/\SD m0 nm N L m' (pre++(P++(Q++x::post))):=by
 intro Q
 induction Q with
 | nil=>
  intro P m hs h;have hl:=h.hl;simp only[aW,ba,bo] at hl hs;refine ⟨m,?_,h⟩;rw[TX,oT aa aa,ae,bz,ae,aC,an aa,qf5]
 | cons y Q ih=>
  intro P m hs h;have hl:=h.hl;simp only[aW,ba] at hl hs;have h':SD m0 nm N L m ((pre++P)++x::([]++y::(Q++post))):=by simpa using h
  obtain ⟨l1,l2,⟨m1,m2,s1,s2,k⟩,_⟩:=h'.swap (i:=pre.length+P.length) (j:=pre.length+P.length+1) aA aA;obtain ⟨m',e,k'⟩:=ih (P++[y]) m2 (by simp;omega) (by simpa using k);refine ⟨m',?_,by simpa using k'⟩;have ia:aI none (.arr nm 0 L none) (ni (pre.length+P.length))=some (.ptr nm (pre.length+P.length)):=gF aa;have ib:aI none (.arr nm 0 L none) (ni (pre.length+P.length+1))=some (.ptr nm (pre.length+P.length+1)):=gF aa;have i1:ag .o .add (ni (pre.length+P.length)) (.I 1)=some (ni (pre.length+P.length+1)):=bU aa;rw[TX,oT aa aa,ae,bz,ae,aC,aq aa,i1,ae,ae,ib,ae,l2,ae,ia,ae,l1,ae,ae,s1,ae,ae,s2,ae,ae];rw[aW,vS] at e;exact e
theorem W21(hL:L<=100000){x s:Nat}{pre post:List Nat}(hs:s=pre.length):∀(k:Nat) (Q P:List Nat) (m:ai),Q.length=k->SD m0 nm N L m (pre++(Q++x::(P++post))) ->
  ∃m',H7 (.arr nm 0 L none) (ni s) (ni (pre.length+Q.length)) m (Mx (aH f166))=some (.tup [],m')/\SD m0 nm N L m' (pre++(x::(Q++(P++post)))):=by
 intro k
 induction k with
 | zero=>
  intro Q P m hk h;have:Q=[]:=oF hk;subst this;refine ⟨m,?_,h⟩;rw[TS,gE,ae,aC,an (by simp;omega),qfU]
 | succ k ih=>
  intro Q P m hk h
  obtain ⟨S,y,rfl⟩:∃S y,Q=S++[y]:=by
   have hne:Q≠[]:=fun e=>by simp[e] at hk
   exact ⟨Q.dropLast,Q.getLast hne,(List.dropLast_concat_getLast hne).symm⟩
  have hl:=h.hl;simp only[aW,ba,bo] at hl hk ⊢;have h':SD m0 nm N L m ((pre++S)++y::([]++x::(P++post))):=by simpa using h
  obtain ⟨l1,l2,_,⟨m1,m2,s1,s2,k1⟩⟩:=h'.swap (i:=pre.length+(S.length+1)-1) (j:=pre.length+(S.length+1)) aA (by simp;omega);obtain ⟨m',e,k'⟩:=ih S (y::P) m2 aa (by simpa using k1);refine ⟨m',?_,by simpa using k'⟩;have ia:aI none (.arr nm 0 L none) (ni (pre.length+(S.length+1)))=some (.ptr nm (pre.length+(S.length+1))):=gF aa;have ib:aI none (.arr nm 0 L none) (ni (pre.length+(S.length+1)-1))=some (.ptr nm (pre.length+(S.length+1)-1)):=gF aa;have is:ag .o .sub (ni (pre.length+(S.length+1))) (.I 1)=some (ni (pre.length+(S.length+1)-1)):=oT aa aa;have e0:ni (pre.length+(S.length+0+1))=ni (pre.length+(S.length+1)):=rfl;rw[TS,gE,ae,aC,aq aa,is,ae,ae,ib,ae,l1,ae,ia,ae,l2,ae,ae,s1,ae,ae,s2,ae,ae];exact e
end
end Go.Ab
namespace Go.Ab
open Go.Proofs Go.Proofs.Tryz
theorem dn.le_take{f:Nat->Int}{B:List Nat}(h:dn f B){s:Nat}{c:Int}(hs:s<=B.length)(he:s=0\/f (B.getD (s-1) 0)<=c):∀t∈B.take s,f t<=c:=by
 cases s with
 | zero=>simp
 | succ s=>
  have hl:s<B.length:=hs
  rcases he with he|he
  .cases he
  .rw[pQ,aT,bP hl,fk] at he;rw[mU hl];intro t ht
   have h1:dn f (B.take s++[B[s]]):=by
    rw[<- mU hl];exact Eb (List.take_sublist _ _) h
   exact Int.le_trans (dn.le_last h1 t ht) he
theorem dn.ge_drop{f:Nat->Int}{B:List Nat}(h:dn f B){s:Nat}{c:Int}(he:s=B.length\/c<=f (B.getD s 0)):∀t∈B.drop s,c<=f t:=by
 by_cases hl:s<B.length
 .rcases he with he|he
  .omega
  .rw[aT,bP hl,fk] at he;rw[jP hl];intro t ht
   have h1:dn f (B[s]::B.drop (s+1)):=by
    rw[<- jP hl];exact Eb (List.drop_sublist _ _) h
   exact Int.le_trans he (dn.head_le h1 t ht)
 .rw[gU aa];simp
theorem E4{pre A B post:List Nat}{i k:Nat}(hi:i<A.length)(hk:k=pre.length+i):(pre++(A++(B++post))).getD k 0=A.getD i 0:=by
 subst hk;simp only[aT];rw[td aa,Nat.add_sub_cancel_left,nZ hi]
theorem E5{pre A B post:List Nat}{i k:Nat}(hi:i<B.length)(hk:k=pre.length+A.length+i):(pre++(A++(B++post))).getD k 0=B.getD i 0:=by
 subst hk;simp only[aT];rw[td aa,td aa,nZ aa];congr 2;omega
noncomputable def F7(x0 fF v1 x3 x4:AV)(m:ai):OM:=
 (ag .o .lss fF v1).bind fun v=>aB v ((ag .o .lss v1 x3).bind fun w=>aB w ((AC af 166 [x0,fF,v1,x3,x4] m).bind fun r=>some ((.tup []),r.2)) (some ((.tup []),m))) (some ((.tup []),m))
noncomputable def yQ(x0 x1 js fF v1 x3 x4:AV)(m:ai):OM:=
 (ag .o .lss x1 js).bind fun v=>aB v ((ag .o .lss js fF).bind fun w=>aB w ((AC af 166 [x0,x1,js,fF,x4] m).bind fun r=>F7 x0 fF v1 x3 x4 r.2) (F7 x0 fF v1 x3 x4 m)) (F7 x0 fF v1 x3 x4 m)
theorem mE0(x0 x1 x2 x3 x4 fF jr js:AV)(m:ai):xI (aH f166) (.exit 8) (IK x0 x1 x2 x3 x4 fF jr js m) =
  (ag .o .sub jr js).bind fun v1=>(ag .o .lss js x2).bind fun v2=>aB v2 ((ag .o .lss x2 v1).bind fun v3=>aB v3 ((AC af 186 [x0,js,x2,v1,x4] m).bind fun r=>yQ x0 x1 js fF v1 x3 x4 r.2) (yQ x0 x1 js fF v1 x3 x4 m)) (yQ x0 x1 js fF v1 x3 x4 m):=(qfX x0 x1 x2 x3 x4 fF jr js m).trans rfl
section
variable {m0:ai} {nm N L:Nat} {p:AV} {f:Nat->Int}
def SJ(m0:ai)(nm N L:Nat)(p:AV)(f:Nat->Int)(n:Nat):Prop:=∀(pre A B post:List Nat) (m:ai) (a mm b:Nat),A.length+B.length=n->A≠[]->B≠[]->dn f A->dn f B->SD m0 nm N L m (pre++(A++(B++post)))->a=pre.length->mm=a+A.length->b=mm+B.length ->
 ∃(m':ai) (M:List Nat),AC af 166 [.arr nm 0 L none,ni a,ni mm,ni b,.fn 67 [p]] m=some (.tup [],m')/\SD m0 nm N L m' (pre++(M++post))/\M.Perm (A++B)/\dn f M
theorem qbp{n:Nat}(ih:SJ m0 nm N L p f n){pre A B post:List Nat}{m:ai}{a mm b:Nat}(hn:A.length+B.length=n)(sA:dn f A)(sB:dn f B)(h:SD m0 nm N L m (pre++(A++(B++post))))(ha:a=pre.length)(hm:mm=a+A.length)(hb:b=mm+B.length)
  {R:Type} (K:ai->Option R):∃(m':ai) (M:List Nat),((ag .o .lss (ni a) (ni mm)).bind fun v=>aB v ((ag .o .lss (ni mm) (ni b)).bind fun w=>aB w ((AC af 166 [.arr nm 0 L none,ni a,ni mm,ni b,.fn 67 [p]] m).bind fun r=>K r.2) (K m)) (K m))=K m'/\SD m0 nm N L m' (pre++(M++post))/\M.Perm (A++B)/\dn f M:=by
 rw[bz,ae,aC]
 by_cases hA:A=[]
 .subst hA;rw[an (by simp at hm;omega)];exact ⟨m,B,rfl,h,aA,sB⟩
 .have:=zI.2 hA;rw[aq aa,bz,ae,aC]
  by_cases hB:B=[]
  .subst hB;rw[an (by simp at hb;omega)];exact ⟨m,A,rfl,by simpa using h,aA,sA⟩
  .have:=zI.2 hB;rw[aq aa];obtain ⟨m',M,e,k⟩:=ih pre A B post m a mm b hn hA hB sA sB h ha hm hb;exact ⟨m',M,by rw[e,ae],k⟩
theorem SA(hL:L<=100000)(hc:rv m0 nm N p f):∀n,SJ m0 nm N L p f n:=by
 intro n
 induction n using Nat.strongRecOn with
 | ind n ih=>
  intro pre A B post m a mm b hn hA hB sA sB h ha hm hb;have a0:=zI.2 hA;have b0:=zI.2 hB;have hl:=h.hl;simp only[aW] at hl;rw[qkg,om aa aa,ae,iK,ae,aC]
  by_cases h1:A.length=1
  .rw[aq aa];obtain ⟨x,rfl⟩:=List.length_eq_one_iff.1 h1;obtain ⟨m1,s,e1,k1,g1,g2,g3,g4⟩:=S3 hL hc (l:=pre++([x]++(B++post))) (a:=a) (lo:=mm) (hi:=b) aa aa (My (aH f166)) _ mm b m rfl (aR _) aa (aR _) (.inl rfl) (.inl rfl) h;dsimp only at g3 g4;have ex:(pre++([x]++(B++post))).getD a 0=x:=by rw[E4 (i:=0) aA aa];rfl
   rw[ex] at g3 g4
   have q1:∀t∈B.take (s-mm),f t<=f x:=dn.le_take sB aa (by
    rcases g3 with g3|g3
    .exact .inl aa
    .by_cases hz:s=mm
     .exact .inl aa
     .rw[E5 (i:=s-1-mm) aa aa] at g3;rw[show s-mm-1=s-1-mm by omega]
      exact .inr aa)
   have q2:∀t∈B.drop (s-mm),f x<=f t:=dn.ge_drop sB (by
    rcases g4 with g4|g4
    .exact .inl aa
    .by_cases hz:s=b
     .exact .inl aa
     .rw[E5 (i:=s-mm) aa aa] at g4
      exact .inr aa)
   have tl:(B.take (s-mm)).length=s-mm:=by rw[im];omega
   obtain ⟨m2,e2,k2⟩:=W9 hL (x:=x) (s:=s) (pre:=pre) (post:=B.drop (s-mm)++post) (B.take (s-mm)) [] m1 (by simp at hm ⊢;omega) (by
    rw[bF,<- gR (B.take (s-mm)),oG];exact k1)
   refine ⟨m2,B.take (s-mm)++x::B.drop (s-mm),?_,by simpa using k2,?_,?_⟩
   .rw[e1,qf1,ha];exact e2
   .refine List.perm_middle.trans ?_;rw[oG];exact List.Perm.refl _
   .exact dn.put (by rw[oG];exact sB) q1 q2
  .rw[an aa,om aa aa,ae,iK,ae,aC]
   by_cases h2:B.length=1
   .rw[aq aa];obtain ⟨x,rfl⟩:=List.length_eq_one_iff.1 h2;obtain ⟨m1,s,e1,k1,g1,g2,g3,g4⟩:=S15 hL hc (l:=pre++(A++([x]++post))) (a:=mm) (lo:=a) (hi:=mm) aa aa (Mw (aH f166)) _ a mm m rfl (aR _) aa (aR _) (.inl rfl) (.inl rfl) h;dsimp only at g3 g4;have ex:(pre++(A++([x]++post))).getD mm 0=x:=by rw[E5 (i:=0) aA aa];rfl
    rw[ex] at g3 g4
    have q1:∀t∈A.take (s-a),f t<=f x:=dn.le_take sA aa (by
     rcases g3 with g3|g3
     .exact .inl aa
     .by_cases hz:s=a
      .exact .inl aa
      .rw[E4 (i:=s-1-a) aa aa] at g3;rw[show s-a-1=s-1-a by omega]
       exact .inr g3)
    have q2:∀t∈A.drop (s-a),f x<=f t:=dn.ge_drop sA (by
     rcases g4 with g4|g4
     .exact .inl aa
     .by_cases hz:s=mm
      .exact .inl aa
      .rw[E4 (i:=s-a) aa aa] at g4
       exact .inr aa)
    have tl:(A.take (s-a)).length=s-a:=by rw[im];omega
    have dl:(A.drop (s-a)).length=A.length-(s-a):=pn
    obtain ⟨m2,e2,k2⟩:=W21 hL (x:=x) (s:=s) (pre:=pre++A.take (s-a)) (post:=post) (by simp[tl];omega) _ (A.drop (s-a)) [] m1 rfl (by
     rw[bF,gR,<- gR (A.take (s-a)),oG];exact k1)
    refine ⟨m2,A.take (s-a)++x::A.drop (s-a),?_,by simpa using k2,?_,?_⟩
    .rw[e1,qfQ];have:(pre++A.take (s-a)).length+(A.drop (s-a)).length=mm:=by rw[aW,tl,dl];omega
     rw[this] at e2;exact e2
    .refine List.perm_middle.trans ?_;rw[oG];exact (List.perm_append_singleton x A).symm
    .exact dn.put (by rw[oG];exact sA) q1 q2
   .rw[an aa];rw[KG aa];have Zj:(a+b)/2*2<=a+b:=Iy _ _;have qqs:a+b<=(a+b)/2*2+1:=aa;generalize (a+b)/2=mid at Zj qqs;rw[lU aa,ae,gE,ae,aC]
    have srch:∃(lo hi:Nat),(if ((mm:Nat):Int)>((mid:Nat):Int) then
       (ag .o .sub (.I ((mid+mm:Nat):Int)) (ni b)).bind fun v11=>(ag .o .sub (.I ((mid+mm:Nat):Int)) (.I 1)).bind fun v12=>si (.arr nm 0 L none) (ni a) (ni mm) (ni b) (.fn 67 [p]) (ni mid) (.I ((mid+mm:Nat):Int)) v11 (ni mid) v12 m (xI (aH f166))
      else (ag .o .sub (.I ((mid+mm:Nat):Int)) (.I 1)).bind fun bg=>si (.arr nm 0 L none) (ni a) (ni mm) (ni b) (.fn 67 [p]) (ni mid) (.I ((mid+mm:Nat):Int)) (ni a) (ni mm) bg m (xI (aH f166))) =
      si (.arr nm 0 L none) (ni a) (ni mm) (ni b) (.fn 67 [p]) (ni mid) (ni (mid+mm)) (ni lo) (ni hi) (ni (mid+mm-1)) m (xI (aH f166))/\a<=lo/\lo<=hi/\hi<=mm/\hi<=mid/\mid+mm<=b+lo/\(lo=a\/mid+mm=b+lo)/\(hi=mm\/hi=mid):=by
     by_cases hg:mid<mm
     .refine ⟨mid+mm-b,mid,?_,aa,aa,aa,aa,aa,.inr aa,.inr rfl⟩;rw[aq aa,om aa aa,ae,oT aa aa,ae]
     .refine ⟨a,mm,?_,aa,aa,aa,aa,aa,.inl rfl,.inl rfl⟩;rw[an aa,oT aa aa,ae]
    obtain ⟨lo,hi,eS,z1,z2,z3,z4,z5,z6,z7⟩:=srch;rw[eS];obtain ⟨m1,s,e1,k1,g1,g2,g3,g4⟩:=S33 hL hc (l:=pre++(A++(B++post))) (pp:=mid+mm-1) (lo:=lo) (hi:=hi) aa aa aa (ni a) (ni mm) (ni b) (ni mid) (ni (mid+mm)) (xI (aH f166)) _ lo hi m rfl (aR _) z2 (aR _) (.inl rfl) (.inl rfl) h;dsimp only at g3 g4;rw[e1,mE0,om aa aa,ae];obtain ⟨e,he⟩:∃e,e=mid+mm-s:=⟨_,rfl⟩;rw[<- he];have eA:A.take (s-a)++A.drop (s-a)=A:=oG _ _;have eB:B.take (e-mm)++B.drop (e-mm)=B:=oG _ _;have tA:(A.take (s-a)).length=s-a:=by rw[im];omega
    have dA:(A.drop (s-a)).length=mm-s:=by rw[pn];omega
    have tB:(B.take (e-mm)).length=e-mm:=by rw[im];omega
    have dB:(B.drop (e-mm)).length=b-e:=by rw[pn];omega
    have b1:∀x∈A.take (s-a),∀y∈B.drop (e-mm),f x<=f y:=by
     by_cases hs:s=a
     .rw[show s-a=0 by omega];simp
     .by_cases FK:e=b
      .rw[gU (show B.length<=e-mm by omega)];simp
      .have hne:s≠lo:=aa;have:=g3.resolve_left hne;rw[E4 (i:=s-1-a) aa aa,E5 (i:=e-mm) aa aa] at this;intro x hx y hy;have u1:=dn.le_take sA (s:=s-a) (c:=f (A.getD (s-1-a) 0)) aa (.inr (by rw[show s-a-1=s-1-a by omega];exact qG _)) x hx;have u2:=dn.ge_drop sB (s:=e-mm) (c:=f (B.getD (e-mm) 0)) (.inr (qG _)) y hy;omega
    have b2:∀x∈B.take (e-mm),∀y∈A.drop (s-a),f x<=f y:=by
     by_cases hs:s=mm
     .rw[gU (show A.length<=s-a by omega)];simp
     .by_cases FK:e=mm
      .rw[show e-mm=0 by omega];simp
      .have hne:s≠hi:=aa;have:=g4.resolve_left hne;rw[E4 (i:=s-a) aa aa,E5 (i:=e-1-mm) aa aa] at this;intro x hx y hy;have u1:=dn.le_take sB (s:=e-mm) (c:=f (B.getD (e-1-mm) 0)) aa (.inr (by rw[show e-mm-1=e-1-mm by omega];exact qG _)) x hx;have u2:=dn.ge_drop sA (s:=s-a) (c:=f (A.getD (s-a) 0)) (.inr (qG _)) y hy;omega
    have k1':SD m0 nm N L m1 ((pre++A.take (s-a))++(A.drop (s-a)++(B.take (e-mm)++(B.drop (e-mm)++post)))):=by
     rw[<- gR (B.take (e-mm)),eB,gR,<- gR (A.take (s-a)),eA];exact k1
    have turn:∃m2,((ag .o .lss (ni s) (ni mm)).bind fun v2=>aB v2 ((ag .o .lss (ni mm) (ni e)).bind fun v3=>aB v3 ((AC af 186 [.arr nm 0 L none,ni s,ni mm,ni e,.fn 67 [p]] m1).bind fun r=>yQ (.arr nm 0 L none) (ni a) (ni s) (ni mid) (ni e) (ni b) (.fn 67 [p]) r.2) (yQ (.arr nm 0 L none) (ni a) (ni s) (ni mid) (ni e) (ni b) (.fn 67 [p]) m1)) (yQ (.arr nm 0 L none) (ni a) (ni s) (ni mid) (ni e) (ni b) (.fn 67 [p]) m1))=yQ (.arr nm 0 L none) (ni a) (ni s) (ni mid) (ni e) (ni b) (.fn 67 [p]) m2/\SD m0 nm N L m2 ((pre++A.take (s-a))++(B.take (e-mm)++(A.drop (s-a)++(B.drop (e-mm)++post)))):=by
     rw[bz,ae,aC]
     by_cases hs:s<mm
     .rw[aq aa,bz,ae,aC]
      by_cases FK:mm<e
      .rw[aq aa];obtain ⟨m2,er,k2⟩:=qc9 hL (.fn 67 [p]) (vW aa) (vW aa) k1' (a:=s) (mm:=mm) (b:=e) (by rw[aW,tA];omega) aa aa;exact ⟨m2,by rw[er,ae],k2⟩
      .rw[an aa];refine ⟨m1,rfl,?_⟩;rw[show B.take (e-mm)=[] from oF aa] at k1' ⊢;simpa using k1'
     .rw[an aa];refine ⟨m1,rfl,?_⟩;rw[show A.drop (s-a)=[] from oF aa] at k1' ⊢;simpa using k1'
    obtain ⟨m2,et,k2⟩:=turn;rw[et];have s1:dn f (A.take (s-a)):=Eb (List.take_sublist _ _) sA;have s2:dn f (A.drop (s-a)):=Eb (List.drop_sublist _ _) sA;have s3:dn f (B.take (e-mm)):=Eb (List.take_sublist _ _) sB;have s4:dn f (B.drop (e-mm)):=Eb (List.drop_sublist _ _) sB;obtain ⟨m3,M1,e3,k3,p3,r3⟩:=qbp (ih (mid-a) aa) (pre:=pre) (A:=A.take (s-a)) (B:=B.take (e-mm)) (post:=A.drop (s-a)++(B.drop (e-mm)++post)) (m:=m2) (a:=a) (mm:=s) (b:=mid) aa s1 s3 (by simpa using k2) ha aa aa (fun q=>F7 (.arr nm 0 L none) (ni mid) (ni e) (ni b) (.fn 67 [p]) q);have e3:yQ (.arr nm 0 L none) (ni a) (ni s) (ni mid) (ni e) (ni b) (.fn 67 [p]) m2=F7 (.arr nm 0 L none) (ni mid) (ni e) (ni b) (.fn 67 [p]) m3:=e3;rw[e3];have lM1:M1.length=mid-a:=by rw[p3.length_eq,aW];omega
    obtain ⟨m4,M2,e4,k4,p4,r4⟩:=qbp (ih (b-mid) aa) (pre:=pre++M1) (A:=A.drop (s-a)) (B:=B.drop (e-mm)) (post:=post) (m:=m3) (a:=mid) (mm:=e) (b:=b) aa s2 s4 (by simpa using k3) (by rw[aW];omega) aa aa (fun q=>some ((.tup []:AV),q));obtain ⟨w1,w2⟩:=dn.both (by rw[eA];exact sA) (by rw[eB];exact sB) b1 b2 p3 p4 r3 r4;rw[eA,eB] at w2;exact ⟨m4,M1++M2,e4,by simpa using k4,w2,w1⟩
theorem qlb(hL:L<=100000)(hc:rv m0 nm N p f):∀(k:Nat) (F R:List Nat) (m:ai),R.length=k->Full f 20 F->SD m0 nm N L m (F++R) ->
  ∃(m':ai) (l':List Nat),DV (.arr nm 0 L none) (ni L) (.fn 67 [p]) (.I 20) (ni F.length) (ni (F.length+20)) m (Ha (aH f125))=xK (.arr nm 0 L none) (ni L) (.fn 67 [p]) (.I 20) m' (zu (aH f125))/\SD m0 nm N L m' l'/\l'.Perm (F++R)/\Runs f 20 l':=by
 intro k
 induction k using Nat.strongRecOn with
 | ind k ih=>
  intro F R m hk hF h;have hl:=h.hl;simp only[aW] at hl
  by_cases hb:20<=R.length
  .have tX:(R.take 20).length=20:=by rw[im];omega
   obtain ⟨m1,X',e1,k1,p1,s1⟩:=Sz hL hc (pre:=F) (X:=R.take 20) (post:=R.drop 20) (m:=m) (by rw[oG];exact h) (a:=F.length) (b:=F.length+20) rfl aa;have lX:X'.length=20:=by rw[p1.length_eq];exact tX
   obtain ⟨m',l',e2,k2,p2,r2⟩:=ih (R.drop 20).length (by rw[pn];omega) (F++X') (R.drop 20) m1 rfl (.more F X' hF lX s1) (by simpa using k1)
   refine ⟨m',l',?_,k2,p2.trans ?_,r2⟩
   .rw[Tr,rG,ae,aC,aq aa,e1,ae,show (AV.I 20)=ni 20 from rfl,lU aa,ae];rw[aW,lX] at e2;exact e2
   .rw[gR];refine Ec F ?_;have:=p1.append_right (R.drop 20)
    rwa [oG] at this
  .obtain ⟨m1,X',e1,k1,p1,s1⟩:=Sz hL hc (pre:=F) (X:=R) (post:=[]) (m:=m) (by simpa using h) (a:=F.length) (b:=L) rfl aa;refine ⟨m1,F++X',?_,by simpa using k1,Ec F p1,hF.runs _ (.last _ (by rw[p1.length_eq];omega) s1)⟩;rw[Tr,rG,ae,aC,an aa,qeu,e1,ae]
theorem qlc(hL:L<=100000)(hc:rv m0 nm N p f){bs:Nat}(pD:0<bs)(pB:bs<L):∀(k:Nat) (F R:List Nat) (m:ai),R.length=k->Full f (2*bs) F->Runs f bs R->SD m0 nm N L m (F++R) ->
  ∃(m':ai) (l':List Nat),HQ (.arr nm 0 L none) (ni L) (.fn 67 [p]) (ni bs) (ni F.length) (ni (F.length+2*bs)) m (Ml (zu (aH f125)))=xK (.arr nm 0 L none) (ni L) (.fn 67 [p]) (ni (bs*2)) m' (zu (aH f125))/\SD m0 nm N L m' l'/\l'.Perm (F++R)/\Runs f (2*bs) l':=by
 intro k
 induction k using Nat.strongRecOn with
 | ind k ih=>
  intro F R m hk hF hR h;have hl:=h.hl;simp only[aW] at hl;have e2i:(AV.I 2)=ni 2:=rfl
  by_cases hb:2*bs<=R.length
  .obtain ⟨x1,R1,rfl,lx1,sx1,JY⟩:=hR.two pD aa;simp only[aW] at hb hl
   obtain ⟨x2,R2,rfl,lx2,sx2,Yt⟩:∃x r,R1=x++r/\x.length=bs/\dn f x/\Runs f bs r:=by
    by_cases hq:bs<R1.length
    .exact JY.two pD hq
    .exact ⟨R1,[],aA,aa,JY.one aa,.last [] aA List.Pairwise.nil⟩
   obtain ⟨m1,M,e1,k1,p1,s1⟩:=SA hL hc _ F x1 x2 R2 m F.length (F.length+bs) (F.length+2*bs) rfl (vW aa) (vW aa) sx1 sx2 (by simpa using h) rfl aa aa;have lM:M.length=2*bs:=by rw[p1.length_eq,aW];omega
   obtain ⟨m',l',e2,k2,p2,r2⟩:=ih R2.length (by rw[<- hk];simp;omega) (F++M) R2 m1 rfl (.more F M hF lM s1) Yt (by simpa using k1);simp only[aW] at hl
   refine ⟨m',l',?_,k2,p2.trans ?_,r2⟩
   .rw[Tt,rG,ae,aC,aq aa,lU aa,ae,e1,ae,e2i,xZ,show ((2:Nat):Int)*(bs:Nat)=((2*bs:Nat):Int) by omega,iV aa aa,ae,lU aa,ae];rw[aW,lM] at e2;exact e2
   .rw[gR,<- gR x1];exact Ec F (p1.append_right R2)
  .have e2m:ag .o .mul (ni bs) (.I 2)=some (ni (bs*2)):=by
    rw[e2i,xZ,show (bs:Int)*(2:Nat)=((bs*2:Nat):Int) by omega,iV aa aa]
   rw[Tt,rG,ae,aC,an aa,qeA,lU aa,ae,bz,ae,aC,e2m]
   by_cases hq:bs<R.length
   .rw[aq aa];obtain ⟨x1,R1,rfl,lx1,sx1,JY⟩:=hR.two pD hq;simp only[aW] at hb hl hq;obtain ⟨m1,M,e1,k1,p1,s1⟩:=SA hL hc _ F x1 R1 [] m F.length (F.length+bs) L rfl (vW aa) (vW aa) sx1 (JY.one aa) (by simpa using h) rfl aa aa;refine ⟨m1,F++M,?_,by simpa using k1,Ec F p1,hF.runs _ (.last _ (by rw[p1.length_eq,aW];omega) s1)⟩;rw[e1,ae,ae]
   .rw[an aa];exact ⟨m,F++R,by rw[ae],h,List.Perm.refl _,hF.runs _ (.last _ aa (hR.one aa))⟩
theorem qld(hL:L<=100000)(hc:rv m0 nm N p f):∀(k bs:Nat) (l:List Nat) (m:ai),L-bs=k->0<bs->bs<1000000->Runs f bs l->SD m0 nm N L m l ->
  ∃(m':ai) (l':List Nat),xK (.arr nm 0 L none) (ni L) (.fn 67 [p]) (ni bs) m (zu (aH f125))=some (.tup [],m')/\SD m0 nm N L m' l'/\l'.Perm l/\dn f l':=by
 intro k
 induction k using Nat.strongRecOn with
 | ind k ih=>
  intro bs l m hk h0 hbb hR h
  by_cases hb:bs<L
  .obtain ⟨m1,l1,e1,k1,p1,r1⟩:=qlc hL hc h0 hb _ [] l m rfl .nil hR (by simpa using h);obtain ⟨m',l',e2,k2,p2,s2⟩:=ih (L-bs*2) aa (bs*2) l1 m1 rfl aa aa (by rw[dF];exact r1) k1;refine ⟨m',l',?_,k2,p2.trans (by simpa using p1),s2⟩;rw[Ts,bz,ae,aC,aq aa,show (AV.I 2)=ni 2 from rfl,xZ,show ((2:Nat):Int)*(bs:Nat)=((0+2*bs:Nat):Int) by omega,iV aa aa,ae];rw[<- e2];exact e1
  .refine ⟨m,l,?_,h,List.Perm.refl _,hR.one (by rw[h.hl];omega)⟩;rw[Ts,bz,ae,aC,an aa,qew]
theorem A66(hL:L<=100000)(hc:rv m0 nm N p f){l:List Nat}{m:ai}(h:SD m0 nm N L m l):∃(m':ai) (l':List Nat),AC af 66 [.arr nm 0 L none,.fn 67 [p]] m=some (.tup [],m')/\SD m0 nm N L m' l'/\l'.Perm l/\dn f l':=by
 obtain ⟨m1,l1,e1,k1,p1,r1⟩:=qlb hL hc _ [] l m rfl .nil (by simpa using h);obtain ⟨m',l',e2,k2,p2,s2⟩:=qld hL hc _ 20 l1 m1 rfl aa aa r1 k1;refine ⟨m',l',?_,k2,p2.trans (by simpa using p1),s2⟩;have e1:DV (.arr nm 0 L none) (ni L) (.fn 67 [p]) (.I 20) (.I 0) (.I 20) m (Ha (aH f125))=_:=e1;have e2:xK (.arr nm 0 L none) (ni L) (.fn 67 [p]) (.I 20) m1 (zu (aH f125))=_:=e2;rw[T66,show aM false (.arr nm 0 L none)=some (ni L) from rfl,ae,qjN,e1,e2,ae]
end
end Go.Ab
namespace Go.Ab
noncomputable section
variable (a0 a1 a2 a3 a4 x0 x3 x4 dU dV fh:AV) (m:ai) (K:KT)
open Go.Proofs.Tryz
theorem T65:AC af 65 [a0,a1] m=(dp none none m a0).bind fun r1=>(aj none (az none r1.2 (.B [aD])).2 r1.1).bind fun v2=>(jb v2).bind fun v3=>(aL 1 v3).bind fun v4=>(aj none (az none r1.2 (.B [aD])).2 v4).bind fun v5=>(aM false v5).bind fun v6=>(jy none 4 none (.bool false) 1 (az none r1.2 (.B [aD])).2 v6 v6).bind fun r7=>(aP none (az none r7.2 (.B [aD])).2 (.ptr (az none r7.2 .resv).1 0) r7.1).bind fun m8=>(aP none (az none m8 (.B [.nilf])).2 (.ptr (az none m8 .resv).1 0) (.fn 124 [(.ptr (az none r7.2 .resv).1 0),r1.1,(.ptr (az none m8 .resv).1 0),(.ptr (az none r1.2 .resv).1 0)])).bind fun m9=>(aj none m9 (.ptr (az none m8 .resv).1 0)).bind fun v10=>(kI v10).bind fun g11=>jZ af 65 (AP af) (AC af) none g11.1 ([a1]++g11.2) m9 fun v12 m13=>(aj none m13 (.ptr (az none r1.2 .resv).1 0)).bind fun bf=>some (bf,m13):=
(bm af 65 [a0,a1] m (fn:=f65) (c:=aE f65) qnP rfl).trans au
def Nn:St:=⟨(x0::aK (aJ (x4::br (aV (aO (aK (aJ []))))))),m⟩
def DU:OM:=bY 124 (b8 (c2 (c2 (aE f124)))) 3 (x0::aK (x3::x4::br (aJ (dU::dV::fh::aV (aK (aJ [])))))) m K
abbrev qep:KT:=bI 124 (c2 (c2 (c2 (aE f124)))) K
abbrev qeq:KT:=bw 0 (qep K)
abbrev DK:KT:=(qeq K)
theorem Vg:AC af 124 [a0,a1,a2,a3,a4] m=(aj none m a1).bind fun v1=>(aI none v1 a0).bind fun v2=>(aj none m v2).bind fun v3=>aB v3 (some ((.tup []),m)) ((aj none m a1).bind fun v4=>(aI none v4 a0).bind fun v5=>(aP none m v5 (.bool true)).bind fun m6=>(aj none m6 a2).bind fun v7=>(jb v7).bind fun v8=>(aL 1 v8).bind fun v9=>(aj none m6 v9).bind fun v10=>(aI (some 3) v10 a0).bind fun v11=>(aL 1 v11).bind fun v12=>(aj none m6 v12).bind fun bg=>(aM false bg).bind fun bf=>DU a0 a3 a4 bg bf (.I 0) m6 (DK (aH f124))):=
(bm af 124 [a0,a1,a2,a3,a4] m (fn:=f124) (c:=aE f124) qmq rfl).trans au
theorem Tq:DU x0 x3 x4 dU dV fh m K=(ag .o .lss fh dV).bind fun v1=>aB v1 ((aI none dU fh).bind fun v2=>(aj none m v2).bind fun v3=>(aj none m x3).bind fun v4=>(kI v4).bind fun g5=>jZ af 124 (AP af) (AC af) none g5.1 ([v3]++g5.2) m fun v6 m7=>(ag .o .add fh (.I 1)).bind fun v8=>DU x0 x3 x4 dU dV v8 m7 K) (K (.exit 0) (Nn x0 x4 m)):=
(bX (bQ _) _ _ _).trans au
theorem qer:DK (aH f124) (.exit 0) (Nn x0 x4 m)=(aj none m x4).bind fun v1=>(df none [x0]).bind fun v2=>(bL none true 3 none 8 m v1 v2).bind fun r3=>(aP none r3.2 x4 r3.1).bind fun m4=>some ((.tup []),m4):=au
theorem qjx:AC af 106 [a0] m=(dp none (some 3) m a0).bind fun r1=>(aL 2 r1.1).bind fun v2=>(aj none r1.2 v2).bind fun v3=>(aL 0 r1.1).bind fun v4=>(aj none r1.2 v4).bind fun v5=>(ag .o .lss v5 (.I 0)).bind fun v6=>some ((.tup [v3,v6]),r1.2):=
(bm af 106 [a0] m (fn:=f106) (c:=aE f106) ql7 rfl).trans au
end
end Go.Ab
namespace Go.Ab
open Go.Proofs Go.Proofs.Tryz
theorem p5{m:ai}{nm:Nat}{b:Bool}{v:AV}(h:m.get nm=some (.obj b [v])):aj none m (.ptr nm 0)=some v:=by
 rw[fK,h,mg,ae];rfl
theorem qtQ{m:ai}{nm:Nat}{b:Bool}{v0 v:AV}(h:m.get nm=some (.obj b [v0]))(hv:dJ none v=true)(hc:v.cells=[v]):aP none m (.ptr nm 0) v=some (m.set nm (some (.obj b [v]))):=by
 rw[sa,h,mg,ae];simp[dz,Sh.size,hv,b9,hc]
theorem qrx{m:ai}{nm i:Nat}{ds:List Bool}(h:m.get nm=some (.obj false (ds.map .bool)))(hi:i<ds.length):aj none m (.ptr nm i)=some (.bool (ds.getD i false)):=by
 rw[fK,h,mg,ae,wq,mS,bP hi,aT,bP hi];rfl
theorem qtP{m:ai}{nm i:Nat}{ds:List Bool}{y:Bool}(h:m.get nm=some (.obj false (ds.map .bool)))(hi:i<ds.length):aP none m (.ptr nm i) (.bool y)=some (m.set nm (some (.obj false ((ds.set i y).map .bool)))):=by
 have hg:m.obj? nm=some (false,ds.map .bool):=by rw[sR,h];rfl
 have h1:i+1<=ds.length:=hi;simp only[aP,hg,ae,Sh.size,bu,h1,bJ,dJ,fG,AV.cells];congr 4;simp only[b9,ba,bo];rw[List.map_set,Ee];simp[hi,qm,List.map_drop]
theorem XW(a b c:AV):aL 1 (.vptr [a,b,c])=some (.vptr [b,c]):=rfl
theorem Pj(a b c:AV):aL 0 (.vptr [a,b,c])=some (.vptr [a,b,c]):=rfl
theorem f2v(a b c:AV):aL 2 (.vptr [a,b,c])=some (.vptr [c]):=rfl
theorem Z9(m:ai)(a b:AV):aj none m (.vptr [a,b])=some a:=rfl
theorem Gj(s:Nat)(m:ai)(e:Ent):az (some s) m e=(s,m.set s (some e)):=rfl
inductive GA (m:ai):AV->List Nat->List Nat->Prop
 | none:GA m aD [] []
 | some (t:Nat) (l:List Nat) (h:m.get t=some (.obj false (ds l))) (hne:l≠[]):GA m (.arr t 0 l.length none) l [t]
theorem Yb{m m':ai}{x:AV}{l T:List Nat}(h:GA m x l T)(hm:∀y∈T,m'.get y=m.get y):GA m' x l T:=by
 cases h with
 | none=>exact .none
 | some t l h hne=>exact .some t l ((hm t (by simp)).trans h) hne
theorem Yc{m:ai}{x:AV}{l T:List Nat}(h:GA m x l T):dJ none x=true/\x.cells=[x]:=by
 cases h<;>exact ⟨rfl,rfl⟩
theorem qpI{m:ai}{x:AV}{l T:List Nat}(h:GA m x l T)(hl:l.length<=100000)(v:Nat):∃x' m' T',bL none true 3 none 8 m x (.lst none false .full [ni v])=some (x',m')/\GA m' x' (l++[v]) T'/\Fr m m' T/\Gr m T T':=by
 cases h with
 | none=>
  have ha:bL none true 3 none 8 m aD (.lst none false .full [ni v])=some (.arr m.length 0 1 none,m++[some (.obj false [ni v])]):=by
   simp only[bL,bo,ba,bq,bJ,or_true,bF,az]
   rfl
  refine ⟨_,_,[m.length],ha,.some m.length [v] (by rw[cJ rfl];rfl) aA,Fr.app m _ _,fun k hk=>?_⟩;obtain rfl:k=m.length:=by simpa using hk
  exact .inr (aR _)
 | some t l hg hne=>
  have jd:=zI.2 hne;have fJ:=bW hg;have ho:m.obj? t=some (false,ds l):=by rw[sR,hg];rfl
  have hY:Gu m none (.lst none false .full [ni v])=some (1,[ni v]):=rfl
  have hX:Dh m none (.arr t 0 l.length none)=some (l.length,ds l,m.set t none):=by
   simp only[Dh,ho,ae];rw[aq ⟨trivial,trivial,jd,trivial,by simp[Sh.size,Pd]⟩]
  have ha:bL none true 3 none 8 m (.arr t 0 l.length none) (.lst none false .full [ni v])=some (.arr (m.set t none).length 0 (l.length+1) none,m.set t none++[some (.obj false (ds l++[ni v]))]):=by
   simp only[bL,zZ,hY,hX,ae];rw[aq (show (l.length+1)*8<=ft by unfold ft;omega)]
  have e:ds l++[ni v]=ds (l++[v]):=by simp[ds]
  have e2:l.length+1=(l++[v]).length:=aA;refine ⟨_,_,[(m.set t none).length],by rw[ha,e,e2],.some _ (l++[v]) (by rw[cJ rfl]) aA,((Fr.refl m [t]).set _ (.inl (by simp))).snoc _,fun k hk=>?_⟩;obtain rfl:k=(m.set t none).length:=by simpa using hk
  exact .inr aA
structure LS (m0 m:ai) (b s:Nat) (sb:List Bool) (out:List Nat) (x:AV) (T:List Nat):Prop where
 hb:b=m0.length
 fr:Fr m0 m []
 h0:m.get b=some (.B [.ptr s 0])
 h1:m.get (b+1)=some (.B [x])
 h2:m.get (b+2)=some (.obj false (sb.map .bool))
 h3:m.get (b+3)=some (.B [.arr (b+2) 0 sb.length none])
 h4:m.get (b+4)=some (.B [.fn 124 [.ptr (b+3) 0,.ptr b 0,.ptr (b+4) 0,.ptr (b+1) 0]])
 gr:GA m x out T
 hT:∀y∈T,b+5<=y
theorem q8:∀(n:Nat) (l:List Nat),l.Nodup->(∀x∈l,x<n)->l.length<=n
 | 0,[],_,_=>aR _
 | 0,x::l,_,h=>by have:=h x gj;omega
 | n+1,l,hn,h=>by
  by_cases hm:n∈l
  .have e:=List.length_erase_of_mem hm
   have:=q8 n (l.erase n) (hn.erase n) fun x hx=>by
    have h1:=(hn.mem_erase_iff).1 hx;have:=h x h1.2;have:=h1.1;omega
   omega
  .have:=q8 n l hn fun x hx=>by
    have h1:=h x hx;have:x≠n:=fun e=>hm (e▸hx);omega
   omega
section
variable {m0:ai} {b s:Nat} {F:List Nat} {arms:AV} {most:Int} {l:List ND} {ar:List Int}
def SK(l:List ND)(m0:ai)(b s id:Nat):Prop:=∀(m:ai) (sb:List Bool) (out:List Nat) (x:AV) (T:List Nat),LS m0 m b s sb out x T->sb.length=l.length->Cl l out->(∀i,i<=id->sb.getD i false=decide (i∈out)) ->
 ∃(m':ai) (sb':List Bool) (x':AV) (T':List Nat),AC af 124 [.I id,.ptr (b+3) 0,.ptr b 0,.ptr (b+4) 0,.ptr (b+1) 0] m=some (.tup [],m')/\LS m0 m' b s sb' (Vi l id out) x' T'/\sb'.length=l.length /\
  (∀i,i<=id->sb'.getD i false=decide (i∈Vi l id out))/\∀i,id<i->sb'.getD i false=sb.getD i false
theorem quW(g:GoodL ar l){id:Nat}(hid:id<l.length)(fI:l.length<=100000)(ih:∀k,k<id->SK l m0 b s k){z:Bool}{o:Own}{kids:List Int}(hk:∀k∈kids,∃t:Nat,k=t/\t<id)(fZ:kids.length<=1000):∀(j i:Nat) (m:ai) (sb:List Bool) (out:List Nat) (x:AV) (T:List Nat),i+j=kids.length->LS m0 m b s sb out x T->sb.length=l.length->Cl l out->(∀i,i<id->sb.getD i false=decide (i∈out)) ->
  ∃(m':ai) (sb':List Bool) (x':AV) (T':List Nat),DU (.I id) (.ptr (b+4) 0) (.ptr (b+1) 0) (IA z o kids) (.I kids.length) (.I i) m (DK (aH f124))=DK (aH f124) (.exit 0) (Nn (.I id) (.ptr (b+1) 0) m') /\
   LS m0 m' b s sb' (iJ l (kids.drop i) out) x' T'/\sb'.length=l.length/\(∀i,i<id->sb'.getD i false=decide (i∈iJ l (kids.drop i) out)\/True)/\(∀q,q<id->sb'.getD q false=decide (q∈iJ l (kids.drop i) out))/\∀q,id<=q->sb'.getD q false=sb.getD q false:=by
 intro j
 induction j with
 | zero=>
  intro i m sb out x T hi h mM hc yH
  refine ⟨m,sb,x,T,?_,?_,mM,fun _ _=>.inr trivial,?_,fun _ _=>rfl⟩
  .rw[Tq,bz,ae,aC,an aa]
  .rw[gU aa];exact h
  .rw[gU aa];exact yH
 | succ j ihj=>
  intro i m sb out x T hi h mM hc yH;have cE:i<kids.length:=aa;obtain ⟨t,et,ht⟩:=hk _ (bA cE);obtain ⟨m1,sb1,x1,T1,e1,k1,k2,k3,k4⟩:=ih t ht m sb out x T h mM hc (fun q hq=>yH q aa);obtain ⟨c1,c2,r,c3,c4⟩:=pT g t aa out hc
  have qqV:∀q,q<id->sb1.getD q false=decide (q∈Vi l t out):=fun q hq=>by
   by_cases hqt:q<=t
   .exact k3 q hqt
   .rw[k4 q aa,yH q hq];refine jm.2 ⟨fun hh=>by rw[c3];exact zJ _ hh,fun hh=>?_⟩;rw[c3] at hh
    rcases hZ.1 hh with hh|hh
    .exact hh
    .have:=c4 q hh;omega
  obtain ⟨m',sb',x',T',e2,n1,n2,_,n3,n4⟩:=ihj (i+1) m1 sb1 (Vi l t out) x1 T1 aa k1 k2 c1 qqV
  have ed:iJ l (kids.drop i) out=iJ l (kids.drop (i+1)) (Vi l t out):=by
   rw[jP cE,zX,et,cU]
  refine ⟨m',sb',x',T',?_,by rw[ed];exact n1,n2,fun _ _=>.inr trivial,by rw[ed];exact n3,fun q hq=>by rw[n4 q hq,k4 q aa]⟩;have e1:AC af 124 ([.I kids[i]]++[.ptr (b+3) 0,.ptr b 0,.ptr (b+4) 0,.ptr (b+1) 0]) m=some (.tup [],m1):=by rw[et];exact e1
  rw[Tq,bz,ae,aC,aq aa,j6 cE,ae,gP,ae,p5 h.h4,ae,show kI (.fn 124 [.ptr (b+3) 0,.ptr b 0,.ptr (b+4) 0,.ptr (b+1) 0])=some (124,[.ptr (b+3) 0,.ptr b 0,.ptr (b+4) 0,.ptr (b+1) 0]) from rfl,ae,uI rfl rfl rfl,e1,ae,bU aa,ae];exact e2
theorem A75(h0:dW m0 s F arms most l)(hb:b=m0.length)(g:GoodL ar l)(fI:l.length<=100000):∀id,id<l.length->SK l m0 b s id:=by
 intro id
 induction id using Nat.strongRecOn with
 | ind id ih=>
  intro hid m sb out x T h mM hc yH;have Km:=yH id (aR _);have ld3:=p5 h.h3;have P4:aI none (.arr (b+2) 0 sb.length none) (.I id)=some (.ptr (b+2) id):=gF aa;have st:=h0.app h.fr;obtain ⟨p,na,TT,st,_⟩:=st;have hs:=st.hs;have AO:=Gf st.hn hid;have lb:=qrx h.h2 (i:=id) aa;have b2:=bW h.h2;have b4:=bW h.h4
  have hsm:s<m0.length:=by
   obtain ⟨p,na,TT,st0,_⟩:=h0;exact bW st0.hs
  by_cases hm:id∈out
  .rw[bM hm] at Km
   refine ⟨m,sb,x,T,?_,?_,mM,?_,fun _ _=>rfl⟩
   .rw[Vg,ld3,ae,P4,ae,lb,ae,Km,ll]
   .rw[sy g hid,aq hm];exact h
   .rw[sy g hid,aq hm];exact yH
  .rw[bD hm] at Km;have sbq:=qtP (y:=true) h.h2 (i:=id) aa
   have h':LS m0 (m.set (b+2) (some (.obj false ((sb.set id true).map .bool)))) b s (sb.set id true) out x T:=by
    refine ⟨hb,h.fr.set _ (.inr aa),?_,?_,?_,?_,?_,?_,h.hT⟩
    .rw[cQ aa];exact h.h0
    .rw[cQ aa];exact h.h1
    .exact di rfl b2
    .rw[cQ aa,il];exact h.h3
    .rw[cQ aa];exact h.h4
    .exact Yb h.gr fun y hy=>cQ (by have:=h.hT y hy;omega)
   have qqU:∀q,q<id->(sb.set id true).getD q false=decide (q∈out):=fun q hq=>by
    rw[aT,ql aa,<- aT];exact yH q aa
   have CE:=w7 (st.ok _ (bA hid))
   have fZ:l[id].kids.length<=1000:=by
    rcases st.ok _ (bA hid) with ⟨_,h2,_⟩|⟨_,_,_,_,h5⟩
    .rw[h2];simp
    .omega
   obtain ⟨m1,sb1,x1,T1,e1,k1,k2,_,k3,k4⟩:=quW g hid fI (fun k hk=>ih k hk aa) (z:=kz l[id]) (o:=ko l[id]) (kids:=l[id].kids) (fun k hk=>pZ g hid k hk) fZ l[id].kids.length 0 _ _ out x T aa h' (by rw[il];exact mM) hc qqU;rw[gC] at k1 k3;obtain ⟨c1,c2,r,c3,c4⟩:=OG g hid l[id].kids (fun k hk=>pZ g hid k hk) out hc
   have jC:(iJ l l[id].kids out).length<=l.length:=by
    exact q8 _ _ c1.nd c1.lt
   obtain ⟨x2,m2,T2,ea,g2,f2,gg2⟩:=qpI k1.gr aa id;have hne:∀q,q<b+5->q∉T1:=fun q hq hT=>by have:=k1.hT q hT;omega
   have ge:∀q,q<b+5->m2.get q=m1.get q:=fun q hq=>f2.get q (by have:=bW k1.h4;omega) (hne q hq);have nQ:=bW k1.h4;have qu2:=f2.len;have g21:m2.get (b+1)=some (.B [x1]):=by rw[ge _ aa];exact k1.h1
   have eV:Vi l id out=iJ l l[id].kids out++[id]:=by rw[sy g hid,an hm]
   have sx:aP none m2 (.ptr (b+1) 0) x2=some (m2.set (b+1) (some (.B [x2]))):=qtQ g21 (Yc g2).1 (Yc g2).2
   refine ⟨m2.set (b+1) (some (.B [x2])),sb1,x2,T2,?_,?_,k2,?_,?_⟩
   .rw[Vg,ld3,ae,P4,ae,lb,ae,Km,gT];rw[ae,P4,ae,sbq,ae,p5 h'.h0,ae,p8,ae,iL,ae]
    have ldna:aj none (m.set (b+2) (some (.obj false ((sb.set id true).map .bool)))) (.ptr s (0+1))=some na:=by
     rw[fK,cQ aa,hs];rfl
    rw[ldna,ae,AO,ae,XW,ae,Z9,ae,CE,iT,ae];have e1:DU (.I id) (.ptr (b+4) 0) (.ptr (b+1) 0) (IA (kz l[id]) (ko l[id]) l[id].kids) (.I l[id].kids.length) (.I 0) (m.set (b+2) (some (.obj false ((sb.set id true).map .bool)))) (DK (aH f124))=_:=e1;rw[e1,qer,p5 k1.h1,ae,qM,ae,ea,ae,sx,ae]
   .rw[eV]
    refine ⟨hb,(Fr.trans k1.fr f2 fun y hy=>.inr (by have:=k1.hT y hy;omega)).set _ (.inr aa),?_,?_,?_,?_,?_,?_,?_⟩
    .rw[cQ aa,ge _ aa];exact k1.h0
    .exact di rfl aa
    .rw[cQ aa,ge _ aa];exact k1.h2
    .rw[cQ aa,ge _ aa];exact k1.h3
    .rw[cQ aa,ge _ aa];exact k1.h4
    .refine Yb g2 fun y hy=>cQ ?_
     rcases gg2 y hy with hh|hh
     .have:=k1.hT y hh;omega
     .omega
    .intro y hy
     rcases gg2 y hy with hh|hh
     .exact k1.hT y hh
     .omega
   .intro q hq;rw[eV]
    by_cases Zu:q=id
    .subst Zu;rw[k4 q (aR _),aT,qH aa,fk];exact (bM (by simp)).symm
    .rw[k3 q aa];refine jm.2 ⟨fun hh=>zJ _ hh,fun hh=>?_⟩
     rcases hZ.1 hh with hh|hh
     .exact hh
     .exact absurd (by simpa using hh) Zu
   .intro q hq;rw[k4 q aa,aT,ql aa,<- aT]
theorem qrR(m:ai)(n:Nat)(h:n<=100000):jy none 4 none (.bool false) 1 m (.I n) (.I n)=some (.arr m.length 0 n none,m++[some (Ent.obj false ((List.replicate n false).map .bool))]):=by
 have h3:(n:Int)*1<=281474976710656:=aa;have h4:(n:Int)<=9223372036854775807:=aa;have h5:(0:Int)<=n:=aa;simp only[jy,az,sZ,qG,bJ,cU,List.map_replicate];rw[aq ⟨h5,trivial,h3,h4⟩]
theorem L8(h0:dW m0 s F arms most l)(g:GoodL ar l)(fI:l.length<=100000){id:Nat}(hid:id<l.length):∃(m':ai) (x:AV) (T:List Nat),AC af 65 [.ptr s 0,.I id] m0=some (x,m')/\GA m' x (Vi l id []) T/\Fr m0 m' []/\∀y∈T,m0.length<=y:=by
 have hx:=h0;obtain ⟨p,na,TT,h,_⟩:=hx;have hs:=h.hs;have mM:=bW hs
 have hlen:aM false na=some (.I l.length):=by
  cases h.hn with
  | none=>rfl
  | some t l ht=>rw[qy,bu]
 have mk:=fun m=>qrR m l.length fI;generalize hM:(List.set ((List.set (((m0++[some (Ent.B [.ptr s 0])])++[some (Ent.B [aD])])++[some (Ent.obj false ((List.replicate l.length false).map .bool))]++[some (Ent.B [aD])]) (m0.length+1+1+1) (some (Ent.B [.arr (m0.length+1+1) 0 l.length none])))++[some (Ent.B [.nilf])]) (m0.length+1+1+1+1) (some (Ent.B [.fn 124 [.ptr (m0.length+1+1+1) 0,.ptr m0.length 0,.ptr (m0.length+1+1+1+1) 0,.ptr (m0.length+1) 0]])))=M
 have ls:LS m0 M m0.length s (List.replicate l.length false) [] aD []:=by
  rw[<- hM]
  refine ⟨rfl,?_,(by simp (disch:=first|assumption|omega|simp only[b7]<;>omega|fail) only[ik,cK,cJ,cQ,di]<;>rfl),(by simp (disch:=first|assumption|omega|simp only[b7]<;>omega|fail) only[ik,cK,cJ,cQ,di]<;>rfl),(by simp (disch:=first|assumption|omega|simp only[b7]<;>omega|fail) only[ik,cK,cJ,cQ,di]<;>rfl),?_,(by simp (disch:=first|assumption|omega|simp only[b7]<;>omega|fail) only[ik,cK,cJ,cQ,di]<;>rfl),.none,aA⟩
  .exact ((((((Fr.app m0 _ _).snoc _).snoc _).snoc _).set _ (.inr (by omega))).snoc _).set _ (.inr aa)
  .rw[vR];exact (by simp (disch:=first|assumption|omega|simp only[b7]<;>omega|fail) only[ik,cK,cJ,cQ,di]<;>rfl)
 obtain ⟨m',sb',x',T',e,k1,_,_,_⟩:=A75 h0 rfl g fI id hid M (List.replicate l.length false) [] aD [] ls aA qq (fun i hi=>by
  rw[aT,BZ,aq aa];rfl)
 refine ⟨m',x',T',?_,k1.gr,k1.fr,fun y hy=>by have:=k1.hT y hy;omega⟩;rw[T65]
 repeat ((with_reducible first|apply bs|apply fB);(focus first|(simp (disch:=first|assumption|omega|simp only[b7]<;>omega|fail) only[fA,beq_self_eq_true,dz,ae,Sh.size,bJ,b9,Nat.reduceAdd,Nat.reduceLeDiff,aR,hs,hlen,mk,qL]<;>rfl)|rfl);try dsimp only)
 have en:(az none (m0++[some (Ent.B [.ptr s 0])]) .resv).1=m0.length+1:=by simp[mO]
 rw[uI rfl rfl rfl,hM,List.singleton_append,e,ae,en];dsimp only;rw[p5 k1.h1,ae]
end
end Go.Ab
namespace Go.Ab
open Go.Proofs Go.Proofs.Tryz
def pe:Nat->List Nat->List (AV×AV)
 | _,[]=>[]
 | k,i::l=>(.I i,.I k)::pe (k+1) l
theorem qbu(n:Nat):∀(l:List Nat) (k:Nat),pe k (l++[n])=pe k l++[(.I n,.I (k+l.length:Nat))]
 | [],k=>rfl
 | x::l,k=>by
  rw[b6,pe,pe,qbu n l (k+1)];simp only[b6,ba];congr 5;omega
theorem qbv:∀(l:List Nat) (k:Nat),(pe k l).length=l.length
 | [],_=>rfl
 | _::l,k=>by rw[pe,ba,qbv l,ba]
theorem Rq{n:Nat}:∀(l:List Nat) (k:Nat),(pe k l).find? (fun p=>jE p.1 (.I n))=if n∈l then some (.I n,.I (k+l.idxOf n:Nat)) else none
 | [],k=>rfl
 | x::l,k=>by
  have hk:jE (.I (x:Int)) (.I (n:Int))=decide (x=n):=by
   simp only[jE,wi,decide_true,dd];exact jm.2 aa
  rw[pe,List.find?_cons,hk]
  by_cases he:x=n
  .subst he;simp
  .rw[bD he];simp only[];rw[Rq l (k+1)];have:n∈x::l↔n∈l:=⟨fun h=>(gI.1 h).resolve_left (fun e=>he e.symm),fW _⟩
   by_cases hm:n∈l
   .rw[aq hm,aq (this.2 hm),List.idxOf_cons,cond_eq_ite,an (by simpa using he)];congr 3;omega
   .rw[an hm,an (fun h=>hm (this.1 h))]
theorem Z1{n:Nat}(h:n<=1000000):ku (.int .i64) (.I n)=true:=by
 have h1:IntKind.min .i64<=(n:Int):=by show (-9223372036854775808:Int)<=n;omega
 have h2:(n:Int)<=IntKind.max .i64:=by show (n:Int)<=9223372036854775807;omega
 simp only[ku,oU,GM,bM h1,bM h2,decide_true,ru]
theorem qrK{m:ai}{p n:Nat}{l:List Nat}(hp:m.get p=some (.mp (.int .i64) (pe 0 l)))(hn:n<=1000000)(hm:n∈l)(z:AV):p6 (.int .i64) z m (.mref p) (.I n)=some (.I (l.idxOf n:Nat),true):=by
 have h1:nq m (.int .i64) (.mref p)=some (p,pe 0 l):=by simp[nq,hp]
 unfold p6;rw[h1];simp only[ae,Z1 hn,bJ,C0,Rq l 0,aq hm,bq]
theorem quI{m:ai}{p n:Nat}{l:List Nat}(hp:m.get p=some (.mp (.int .i64) (pe 0 l)))(hn:n<=1000000)(hm:n∉l)(hl:l.length<=100000):lY (.int .i64) m (.mref p) (.I n) (.I l.length)=some (m.set p (some (.mp (.int .i64) (pe 0 (l++[n]))))):=by
 have h1:nq m (.int .i64) (.mref p)=some (p,pe 0 l):=by simp[nq,hp]
 have h3:(pe 0 l).any (fun p=>jE p.1 (.I n))=false:=by
  have:=Rq (n:=n) l 0;rw[an hm,List.find?_eq_none] at this;rw[List.any_eq_false];exact this
 unfold lY;rw[h1,ae,aq ⟨Z1 hn,rfl,by rw[qbv];unfold maxLen;omega⟩,qbu];simp only[oY,h3,bq]
theorem qa6{e:Nat}{m:ai}{x:AV}{l:List ND}{T:List Nat}(h:NR e m x l T)(hl:l.length<=100000)(n:ND):∃x' m' T',bL none false e (some 3) 40 m x (.lst (some 3) false .full [n.av])=some (x',m')/\NR e m' x' (l++[n]) T'/\Fr m m' T/\Gr m T T':=by
 have h2:(l.length+1)*40<=ft:=by unfold ft;omega
 cases h with
 | none=>
  refine ⟨.lst (some 3) false (.tok m.length e) [n.av],m++[some (Ent.tok 1 3)],[m.length],?_,.some _ [n] (by simp (disch:=first|assumption|omega|simp only[b7]<;>omega|fail) only[ik,cK,cJ,cQ,di]<;>rfl),Fr.app m _ _,fun k hk=>?_⟩
  .have h2:40<=ft:=by unfold ft;omega
   simp[bL,h2,az,Sh.size]
  .obtain rfl:k=m.length:=by simpa using hk
   exact .inr (aR _)
 | some t es ht=>
  have fJ:=bW ht
  refine ⟨.lst (some 3) false (.tok t e) (l.map ND.av++[n.av]),m.set t (some (Ent.tok (l.length+1) 3)),[t],?_,?_,(Fr.refl m [t]).set _ (.inl aA),Gr.refl _ _⟩
  .simp[bL,ht,Sh.size,h2]
  .have e3:l.map ND.av++[n.av]=(l++[n]).map ND.av:=aA;rw[e3];refine .some t (l++[n]) ?_;rw[di rfl fJ,aW];rfl
theorem qcy{m:ai}{x:AV}{ks:List Int}{T:List Nat}(h:GR 3 m x (ks.map (AV.int .i64)) T){n:ND}(hk:n.kids=ks)(hn:n.ok)(hne:¬ n.var<0->ks≠[]):∃z o,x=.lst none z o (n.kids.map (AV.int .i64))/\rl (.lst none z o (n.kids.map (AV.int .i64)))=fD n:=by
 subst hk;generalize he:n.kids.map (AV.int .i64)=es at h
 cases h with
 | none=>
  refine ⟨true,.full,rfl,?_⟩;unfold fD
  rw[aq]
  .rfl
  .refine Decidable.byContradiction fun hv=>hne hv (uA.1 he)
 | some t es ht Kg=>
  refine ⟨false,.tok t 3,rfl,?_⟩;unfold fD
  rw[an,he]
  .rfl
  .intro hv
   rcases hn with ⟨_,h2,_⟩|⟨h1,_⟩
   .rw[h2] at he;exact Kg he.symm
   .omega
section
variable {m0:ai} {s:Nat} {F:List Nat} {arms:AV} {most:Int} {l:List ND} {ar:List Int}
theorem qlv{pm c:Nat}{p:List Nat}{v leaf:Int}{kids:List Int}{x0:AV}(Ki:p.length<=100000)(hpb:∀y∈p,y<=1000000){m1:ai}(hc:c<m1.length)(CM:pm<m1.length)(hne:pm≠c){z:Bool}{o:Own}(hk:∀k∈kids,∃t:Nat,k=t/\t∈p)(fZ:kids.length<=1000)(hp:m1.get pm=some (.mp (.int .i64) (pe 0 p)))(x6 x7 dU dV fh:AV)(hx6:x6=.mref pm)(K:KT):∀(j i:Nat) (m:ai) (x:AV) (T:List Nat),i+j=kids.length->Fr m1 m [c]->m.get c=some (.B [.I v,x,.I leaf])->GR 3 m x (((kids.take i).map fun k=>((p.idxOf k.toNat:Nat):Int)).map (AV.int .i64)) T->(∀y∈T,m1.length<=y) ->
  ∃(m':ai) (x':AV) (T':List Nat),D4 x0 x6 x7 (.ptr c 0) dU dV fh (IA z o kids) (.I kids.length) (.I i) m (DM K)=DM K (.exit 2) (NX x0 x6 x7 (.ptr c 0) dU dV fh m')/\Fr m1 m' [c]/\m'.get c=some (.B [.I v,x',.I leaf])/\GR 3 m' x' ((kids.map fun k=>((p.idxOf k.toNat:Nat):Int)).map (AV.int .i64)) T'/\∀y∈T',m1.length<=y:=by
 subst hx6;intro j
 induction j with
 | zero=>
  intro i m x T hi f hg hr hT;rw[iX aa] at hr;refine ⟨m,x,T,?_,f,hg,hr,hT⟩;rw[Uo,bz,ae,aC,an aa]
 | succ j ih=>
  intro i m x T hi f hg hr hT;have cE:i<kids.length:=aa;obtain ⟨t,et,ht⟩:=hk _ (bA cE);have hcl:=bW hg;have FE:m.get pm=some (.mp (.int .i64) (pe 0 p)):=(f.get _ CM (by simpa using hne)).trans hp;have lk:=qrK FE (hpb t ht) ht (.I 0);obtain ⟨x2,m2,T2,ea,g2,f2,gg2⟩:=Ar (b:=8) hr (by simp;omega) aa (.I (p.idxOf t:Nat));have hcT:c∉T:=fun h=>by have:=hT c h;omega
  have g2c:m2.get c=some (.B [.I v,x,.I leaf]):=(f2.get _ hcl hcT).trans hg;obtain ⟨xz,xo,rfl,_⟩:=As g2
  have st:aP none m2 (.ptr c (0+1)) (.lst none xz xo (((kids.take i).map fun k=>((p.idxOf k.toNat:Nat):Int)).map (AV.int .i64)++[.I (p.idxOf t:Nat)]))=some (m2.set c (some (.B [.I v,.lst none xz xo (((kids.take i).map fun k=>((p.idxOf k.toNat:Nat):Int)).map (AV.int .i64)++[.I (p.idxOf t:Nat)]),.I leaf]))):=by
   rw[sa,g2c,mg,ae];rfl
  have qp5:=bW g2c
  have ek:(((kids.take i).map fun k=>((p.idxOf k.toNat:Nat):Int)).map (AV.int .i64)++[.I (p.idxOf t:Nat)])=((kids.take (i+1)).map fun k=>((p.idxOf k.toNat:Nat):Int)).map (AV.int .i64):=by
   rw[mU cE,iH,iH,et];rfl
  obtain ⟨m',x',T',e,k⟩:=ih (i+1) (m2.set c (some (.B [.I v,.lst none xz xo (((kids.take i).map fun k=>((p.idxOf k.toNat:Nat):Int)).map (AV.int .i64)++[.I (p.idxOf t:Nat)]),.I leaf]))) _ T2 aa ((Fr.trans f f2 fun y hy=>.inr (hT y hy)).set _ (.inl aA)) (di rfl qp5) (by
   rw[<- ek]
   exact Fa g2 fun y hy=>cQ (by
    rcases gg2 y hy with hh|hh
    .have:=hT y hh;omega
    .have:=f.len;omega)) (fun y hy=>by
   rcases gg2 y hy with hh|hh
   .exact hT y hh
   .have:=f.len;omega)
  refine ⟨m',x',T',?_,k⟩;have ldx:aj none m (.ptr c (0+1))=some x:=by rw[fK,hg];rfl
  rw[Uo,bz,ae,aC,aq aa,j6 cE,ae,gP,ae,iL,ae,ldx,ae,et,lk,ae,qM,ae,ea,ae,ae,st,ae,bU aa,ae];exact e
theorem Gh(g:GoodL ar l)(fI:l.length<=100000){p:List Nat}(hp:p.length<=100000){id:Nat}(hid:id<l.length):(nd l p id).ok:=by
 unfold nd;rw[iM hid]
 rcases g.ok _ (bA hid) with ⟨a1,a2,a3⟩|⟨a1,a2,a3,a4,a5⟩
 .refine .inl ⟨a1,?_,a3⟩;simp only[a2];rfl
 .refine .inr ⟨a1,a2,a3,fun k hk=>?_,by simpa using a5⟩;obtain ⟨q,_,rfl⟩:=iw.1 hk;have:=List.idxOf_le_length (a:=q.toNat) (l:=p);omega
theorem qoL{p q:List Nat}(h:Cl l (p++q)):Cl l p:=by
 refine ⟨(List.nodup_append.1 h.nd).1,fun j hj=>h.lt j (zJ _ hj),fun i hi hj k hk=>?_⟩;have hi2:i<(p++q).length:=by simp;omega
 have e:(p++q)[i]=p[i]:=List.getElem_append_left hi;have pY:(p++q)[i]<l.length:=by rw[e];exact hj
 have:=h.cl i hi2 pY k (by
  have:∀(y:Nat) (hy:y<l.length),y=p[i]->k∈l[y].kids:=fun y hy ey=>by subst ey;exact hk
  exact this _ pY e)
 rwa [List.take_append_of_le_length aa] at this
theorem W25(h0:dW m0 s F arms most l)(g:GoodL ar l)(fI:l.length<=100000)(tN:Z5 l){pm t:Nat}(CM:m0.length=pm)(hpt:pm<t){ids:List Nat}(hc:Cl l ids):∀(q p:List Nat) (m:ai) (y:AV) (T:List Nat),ids=p++q->Fr m0 m []->m.get pm=some (.mp (.int .i64) (pe 0 p))->NR 74 m y (dR l p) T->(∀k∈T,t<k)->m.get t=some (.obj false (ds ids)) ->
  ∃(m':ai) (y':AV) (T':List Nat),Il (.ptr s 0) (.mref pm) y (.arr t 0 ids.length none) (.I ids.length) (.I p.length) m (DN (aH f43))=some (.tup [y',.I 0],m')/\NR 74 m' y' (dR l ids) T'/\Fr m0 m' []:=by
 have cE:ids.length<=l.length:=q8 _ _ hc.nd hc.lt;intro q
 induction q with
 | nil=>
  intro p m y T gA f FE hn hT ht;rw[cu] at gA;subst gA;refine ⟨m,y,T,?_,hn,f⟩;rw[Up,bz,ae,aC,an aa,qht]
 | cons id q ihq=>
  intro p m y T gA f FE hn hT ht;have J2:Cl l p:=by rw[gA] at hc;exact qoL hc
  have hid:id<l.length:=hc.lt id (by rw[gA];simp);have qqJ:p.length<ids.length:=by rw[gA];simp
  have Qd:id∉p:=fun h=>by
   rw[gA] at hc;exact (List.nodup_append.1 hc.nd).2.2 id h id gj rfl
  have uX:∀k∈l[id].kids,k.toNat∈p:=fun k hk=>by
   rw[gA] at hc;have e:(p++id::q)[p.length]'(by simp)=id:=aA
   have:=hc.cl p.length aA (by rw[e];exact hid) k (by
    have:∀(y:Nat) (hy:y<l.length),y=id->k∈l[y].kids:=fun y hy ey=>by subst ey;exact hk
    exact this _ _ e)
   simpa using this
  have iy:aI none (.arr t 0 ids.length none) (.I p.length)=some (.ptr t p.length):=gF qqJ
  have yw:aj none m (.ptr t p.length)=some (.I id):=by
   rw[fK,ht,mg,ae,wq];exact JM (by rw[gA];simp)
  have fJ:=bW ht;have qu8:=bW FE;have up:=quI FE (n:=id) aa Qd aa;have st:=h0.app f;obtain ⟨pp,na,TT,st,hFF⟩:=st;have hs:=st.hs;have hsm:s<m0.length:=h0.lt s (by rw[hFF];simp);have AO:=Gf st.hn hid;have CE:=w7 (st.ok _ (bA hid))
  have fZ:l[id].kids.length<=1000:=by
   rcases st.ok _ (bA hid) with ⟨_,h2,_⟩|⟨_,_,_,_,h5⟩
   .rw[h2];simp
   .omega
  have hb:fR (.agg [(.I 0),aD,(.I 0)]) [(0,none,.I l[id].var),(2,none,.I l[id].leaf)]=some (.agg [.I l[id].var,aD,.I l[id].leaf]):=rfl;generalize hM:List.set (List.set ((m.set pm (some (.mp (.int .i64) (pe 0 (p++[id])))))++[some Ent.resv]) m.length (some (Ent.B [.I 0,aD,.I 0]))) m.length (some (Ent.B [.I l[id].var,aD,.I l[id].leaf]))=M
  have fM:Fr m0 M []:=by
   rw[<- hM];exact (((f.set _ (.inr (by omega))).snoc _).set _ (.inr (by omega))).set _ (.inr aa)
  have lM:M.length=m.length+1:=by rw[<- hM];simp
  have fM2:Fr m M [pm]:=by
   rw[<- hM];exact ((((Fr.refl m [pm]).set _ (.inl (by simp))).snoc _).set _ (.inr (by omega))).set _ (.inr aa)
  have gc:ai.get M m.length=some (Ent.B [.I l[id].var,aD,.I l[id].leaf]):=by rw[<- hM];exact (by simp (disch:=first|assumption|omega|simp only[b7]<;>omega|fail) only[ik,cK,cJ,cQ,di]<;>rfl)
  have gp:ai.get M pm=some (.mp (.int .i64) (pe 0 (p++[id]))):=by rw[<- hM];exact (by simp (disch:=first|assumption|omega|simp only[b7]<;>omega|fail) only[ik,cK,cJ,cQ,di]<;>rfl)
  have qqm:∀k∈l[id].kids,∃t:Nat,k=t/\t∈p++[id]:=fun k hk=>by
   obtain ⟨t,rfl,_⟩:=pZ g hid k hk;exact ⟨t,rfl,zJ _ (by simpa using uX _ hk)⟩
  obtain ⟨m2,xk,Tk,e13,f2,gc2,gk,wG⟩:=qlv (x0:=.ptr s 0) (pm:=pm) (c:=m.length) (p:=p++[id]) (v:=l[id].var) (leaf:=l[id].leaf) (kids:=l[id].kids) (z:=kz l[id]) (o:=ko l[id]) (m1:=M) (by simp;omega) (fun y hy=>by
   have:y<l.length:=by
    rcases hZ.1 hy with h|h
    .exact J2.lt y h
    .obtain rfl:y=id:=by simpa using h
     exact hid
   omega) aa aa aa qqm fZ gp (.mref pm) y (.arr t 0 ids.length none) (.I ids.length) (.I p.length) rfl (DN (aH f43)) l[id].kids.length 0 M _ [] aa (Fr.refl _ _) gc .none aA
  have qqu:(nd l p id).kids=l[id].kids.map fun k=>(((p++[id]).idxOf k.toNat:Nat):Int):=by
   rw[<- Q4 hid uX [id]];unfold nd;rw[iM hid]
  have FB:(nd l p id).var=l[id].var/\(nd l p id).leaf=l[id].leaf:=by
   unfold nd;rw[iM hid];exact ⟨rfl,rfl⟩
  have bc:=Gh g fI (p:=p) aa hid
  obtain ⟨kz',ko',rfl,Qt⟩:=qcy gk qqu bc (fun hv=>by
   rw[FB.1] at hv;have:=tN _ (bA hid) hv
   simpa using this)
  have pD:=Jt l[id].var l[id].leaf kz' ko' ((nd l p id).kids.map (AV.int .i64));rw[Qt,<- FB.1,<- FB.2] at pD;have pD:df (some 3) [.agg [.I (nd l p id).var,.lst none kz' ko' ((nd l p id).kids.map (AV.int .i64)),.I (nd l p id).leaf]]=some (.lst (some 3) false .full [(nd l p id).av]):=pD
  have fm2:Fr m m2 [pm]:=Fr.trans fM2 f2 fun x hx=>by
   obtain rfl:x=m.length:=by simpa using hx
   exact .inr (aR _)
  have n2:NR 74 m2 y (dR l p) T:=xn hn fun k hk=>fm2.get k (xm hn k hk) (by have:=hT k hk;simp;omega);obtain ⟨y3,m3,T3,ea,n3,f3,gg3⟩:=qa6 n2 (by unfold dR;rw[bu];omega) (nd l p id);rw[<- qaL J2 hid uX] at n3
  have f03:Fr m0 m3 []:=Fr.trans (Fr.trans fM f2 fun x hx=>by
   obtain rfl:x=m.length:=by simpa using hx
   have:=f.len
   exact .inr this) f3 fun x hx=>.inr (by have:=hT x hx;omega)
  have lm2:=f2.len
  have gp3:m3.get pm=some (.mp (.int .i64) (pe 0 (p++[id]))):=by
   rw[f3.get pm aa (fun h=>by have:=hT pm h;omega),f2.get pm aa (by simp;omega)];exact gp
  obtain ⟨m',y',T',e,k⟩:=ihq (p++[id]) m3 y3 T3 (by rw[gA,gR];rfl) f03 gp3 n3 (fun x hx=>by
   rcases gg3 x hx with hh|hh
   .exact hT x hh
   .omega) (by
   rw[f3.get t aa (fun h=>by have:=hT t h;omega),f2.get t aa (by simp;omega),<- hM]
   exact (by simp (disch:=first|assumption|omega|simp only[b7]<;>omega|fail) only[ik,cK,cJ,cQ,di,ht]<;>rfl))
  refine ⟨m',y',T',?_,k⟩
  have ld3:aj (some 3) m2 (.ptr m.length 0)=some (.agg [.I (nd l p id).var,.lst none kz' ko' ((nd l p id).kids.map (AV.int .i64)),.I (nd l p id).leaf]):=by
   rw[fK,gc2,FB.1,FB.2];rfl
  have e13:D4 (.ptr s 0) (.mref pm) y (.ptr m.length 0) (.arr t 0 ids.length none) (.I ids.length) (.I p.length) (IA (kz l[id]) (ko l[id]) l[id].kids) (.I l[id].kids.length) (.I 0) M (DM (DN (aH f43)))=_:=e13;rw[Up,bz,ae,aC,aq aa]
  repeat ((with_reducible first|apply bs|apply fB);(focus first|(simp (disch:=first|assumption|omega|simp only[b7]<;>omega|fail) only[fA,beq_self_eq_true,dz,ae,Sh.size,bJ,b9,Nat.reduceAdd,Nat.reduceLeDiff,aR,iy,yw,up,hs,AO,Pj,XW,f2v,Z9,hb,Gj,CE,iT]<;>rfl)|rfl);try dsimp only)
  have en:(az (some (List.set m pm (some (Ent.mp (.int .i64) (pe 0 (p++[id]))))).length) (bV (List.set m pm (some (Ent.mp (.int .i64) (pe 0 (p++[id]))))) 1) .resv).1=m.length:=by rw[Gj];simp
  rw[en,hM,e13,qhq,ld3,ae,pD,ae,ea,ae,bU aa,ae];rw[aW] at e;exact e
theorem Yi(g:GoodL ar l):Z5 l:=fun n hn hv=>by
 obtain ⟨i,hi,rfl⟩:=n0 hn;obtain ⟨k,hk,_⟩:=g.dif i hi aa;exact List.ne_nil_of_mem hk
theorem A25(h0:dW m0 s F arms most l)(g:GoodL ar l)(fI:l.length<=100000)(hm:most≠0){id:Nat}(hid:id<l.length):∃(m':ai) (y:AV) (T:List Nat),AC af 43 [.ptr s 0,.I id] m0=some (.tup [y,.I 0],m')/\NR 74 m' y (dR l (Vi l id [])) T/\Fr m0 m' []:=by
 have e50:=DB h0 hm;have e56:=L6 h0 id;rw[bM aa] at e56;have f1:=Fr.app m0 (some (Ent.mp (.int .i64) [])) [];obtain ⟨m1,x,T,e61,gx,f2,hT1⟩:=L8 (h0.app f1) g fI hid;have f3:Fr m0 m1 []:=Fr.trans f1 f2 fun _ h=>by cases h
 obtain ⟨c1,_,_⟩:=pT g id hid [] qq
 have gp:m1.get m0.length=some (.mp (.int .i64) (pe 0 [])):=by
  rw[f2.get _ aA aA];exact (by simp (disch:=first|assumption|omega|simp only[b7]<;>omega|fail) only[ik,cK,cJ,cQ,di]<;>rfl)
 have e65:AC af 65 [.ptr s 0,.I id] (az none m0 (.mp (.int .i64) [])).2=_:=e61;rw[T43,e50,ae,gT,e56,ae,nB,ae,jj,gT,e65,ae];generalize hV:Vi l id []=ids at gx c1 ⊢
 cases gx with
 | none=>
  have:id∈Vi l id []:=by rw[sy g hid,an aA];simp
  rw[hV] at this;cases this
 | some t ids ht hne=>
  have fJ:=hT1 t aA;obtain ⟨m',y,T',e,k⟩:=W25 h0 g fI (Yi g) (pm:=m0.length) (t:=t) rfl (by simp at fJ;omega) c1 ids [] m1 aD [] rfl f3 gp .none aA ht;refine ⟨m',y,T',?_,k⟩;rw[show aM false (.arr t 0 ids.length none)=some (.I ids.length) from rfl,ae];exact e
end
end Go.Ab
namespace Go.Ab
theorem RX(ns:List Int):(o8 ns).length=ns.length:=List.length_mergeSort _
theorem qtM(ns:List Int)(x:Int):x∈o8 ns↔x∈ns:=by
 unfold o8;exact List.mem_mergeSort
theorem O2(zs:List Int):(Lib.compact zs).length<=zs.length:=by
 unfold Lib.compact Lib.compactUpTo;rw[bu];have:=List.length_filter_le (Lib.keeps zs.toArray) (List.range zs.length)
 rwa [List.length_range] at this
theorem E6{zs:List Int}{j:Nat}(h:j<zs.length):zs.toArray[j]! = zs[j]:=by simp[h]
theorem ZX(zs:List Int)(j:Nat):Lib.keeps zs.toArray j=true↔j=0\/zs.toArray[j]!≠zs.toArray[j-1]!:=by
 unfold Lib.keeps;simp
theorem qoR{zs:List Int}(x:Int):x∈Lib.compact zs↔x∈zs:=by
 unfold Lib.compact Lib.compactUpTo;rw[iw]
 constructor
 .rintro ⟨j,hj,rfl⟩
  have kr:j<zs.length:=by
   have:=(po.1 hj).1;simpa using this
  rw[E6 kr];exact bA kr
 .intro hx;obtain ⟨i,hi,e⟩:=n0 hx
  have key:∀i,(hi:i<zs.length)->∃j,j<zs.length/\Lib.keeps zs.toArray j=true/\zs.toArray[j]! = zs[i]:=by
   intro i
   induction i with
   | zero=>intro hi;exact ⟨0,hi,(ZX zs 0).2 (.inl rfl),E6 hi⟩
   | succ i ih=>
    intro hi
    by_cases hk:Lib.keeps zs.toArray (i+1)=true
    .exact ⟨i+1,hi,hk,E6 hi⟩
    .have gu:i<zs.length:=aa;obtain ⟨j,h1,h2,h3⟩:=ih gu;refine ⟨j,h1,h2,h3.trans ?_⟩;rw[ZX] at hk;have h4:zs.toArray[i+1]! = zs.toArray[i]!:=s8 fun hne=>hk (.inr (by rw[pQ];exact hne));rw[E6 hi,E6 gu] at h4;exact h4.symm
  obtain ⟨j,h1,h2,h3⟩:=key i hi;exact ⟨j,po.2 ⟨by simpa using h1,h2⟩,h3.trans e⟩
def sc(ns:List Int):List Int:=Lib.compact (o8 ns)
theorem qun:sc []=[]:=by
 refine oF ?_;have h1:=O2 (o8 []);have h2:=RX [];unfold sc;simp only[bo] at h2;omega
theorem LD(ns:List Int)(x:Int):x∈sc ns↔x∈ns:=by unfold sc;rw[qoR,qtM]
end Go.Ab
namespace Go.Ab
open Go.Proofs Go.Proofs.Tryz
def xS(B:Nat)(m:ai)(x:AV)(ns:List Int):Prop:=(x=aD/\ns=[])\/∃t,x=.arr t 0 ns.length none/\0<ns.length/\m.get t=some (.obj false (ns.map (AV.int .i64)))/\B<=t
theorem xS.move{B:Nat}{m m':ai}{x:AV}{ns:List Int}(h:xS B m x ns)(hm:∀t,x=.arr t 0 ns.length none->t<m.length->m'.get t=m.get t):xS B m' x ns:=by
 rcases h with h|⟨t,hx,h1,h2,h3⟩
 .exact .inl h
 .exact .inr ⟨t,hx,h1,by rw[hm t hx (bW h2)];exact h2,h3⟩
theorem qsw{B:Nat}{m:ai}{x:AV}{ns:List Int}(h:xS B m x ns)(hl:ns.length<=100000)(hB:B<=m.length)(v:Int):∃x' m',bL none true 3 none 8 m x (.lst none false .full [.I v])=some (x',m')/\xS B m' x' (ns++[v])/\m.length<=m'.length/\∀y,y<m.length->(∀t,x=.arr t 0 ns.length none->y≠t)->m'.get y=m.get y:=by
 rcases h with ⟨rfl,rfl⟩|⟨t,rfl,jd,hg,htB⟩
 .have ha:bL none true 3 none 8 m aD (.lst none false .full [.I v])=some (.arr m.length 0 1 none,m++[some (.obj false [.I v])]):=by
   simp only[bL,bo,ba,bq,bJ,or_true,bF,az]
   rfl
  exact ⟨_,_,ha,.inr ⟨m.length,aA,aA,by rw[cJ rfl];rfl,hB⟩,aA,fun y hy _=>cK hy⟩
 .have fJ:=bW hg;have ho:m.obj? t=some (false,ns.map (AV.int .i64)):=by rw[sR,hg];rfl
  have hY:Gu m none (.lst none false .full [.I v])=some (1,[.I v]):=rfl
  have hX:Dh m none (.arr t 0 ns.length none)=some (ns.length,ns.map (AV.int .i64),m.set t none):=by
   simp only[Dh,ho,ae];rw[aq ⟨trivial,trivial,jd,trivial,by simp[Sh.size]⟩]
  have ha:bL none true 3 none 8 m (.arr t 0 ns.length none) (.lst none false .full [.I v])=some (.arr (m.set t none).length 0 (ns.length+1) none,(m.set t none)++[some (.obj false (ns.map (AV.int .i64)++[.I v]))]):=by
   simp only[bL,zZ,hY,hX,ae];rw[aq (show (ns.length+1)*8<=ft by unfold ft;omega)]
  have j0:(m.set t (none:Option Ent)).length=m.length:=il;refine ⟨_,_,ha,.inr ⟨(m.set t none).length,aA,aA,by rw[cJ rfl,iH];rfl,by rw[j0];exact hB⟩,aA,fun y hy hne=>?_⟩;rw[cK (by rw[j0];exact hy),cQ (hne t rfl)]
def I4(B:Nat)(m:ai)(y:AV)(rs:List Int):Prop:=(y=aD/\rs=[])\/∃t zs,y=.arr t 0 rs.length none/\m.get t=some (.obj false ((rs++zs).map (AV.int .i64)))/\B<=t
section
variable {s:Nat} {F:List Nat} {arms:AV} {most:Int} {l:List ND}
theorem B23(n:ND)(m:ai):AC af 106 [n.av] m=some (.tup [.I n.leaf,.bool (decide (n.var<0))],m++[some (Ent.B [.I n.var,fD n,.I n.leaf])]):=by
 have e:dJ (some 3) n.av=true:=by unfold ND.av fD;split<;>rfl
 have hb:dp none (some 3) m n.av=some (.ptr m.length 0,m++[some (Ent.B [.I n.var,fD n,.I n.leaf])]):=by
  unfold dp;rw[aq e];rfl
 have l0:aj none (m++[some (Ent.B [.I n.var,fD n,.I n.leaf])]) (.ptr m.length (0+0))=some (.I n.var):=by
  rw[fK,cJ rfl];rfl
 have l2:aj none (m++[some (Ent.B [.I n.var,fD n,.I n.leaf])]) (.ptr m.length (0+2))=some (.I n.leaf):=by
  rw[fK,cJ rfl];rfl
 rw[qjx,hb,ae,iL,ae,l2,ae,iL,ae,l0,ae,bz,ae]
theorem qpJ{ar:List Int}{m:ai}{x:AV}{T:List Nat}(g:GoodL ar l){id:Nat}(hid:id<l.length)(h:GA m x (Vi l id []) T):∃t,x=.arr t 0 (Vi l id []).length none/\m.get t=some (.obj false (ds (Vi l id []))):=by
 generalize hV:Vi l id []=ids at h
 cases h with
 | none=>
  have:id∈Vi l id []:=by rw[sy g hid,an aA];simp
  rw[hV] at this;cases this
 | some t ids ht hne=>exact ⟨t,rfl,ht⟩
def ml(val:ND->Int)(keep:ND->Bool)(l:List ND)(ids:List Nat):List Int:=(ids.filter fun i=>keep (l.getD i ⟨0,[],0⟩)).map fun i=>val (l.getD i ⟨0,[],0⟩)
theorem qcJ(val:ND->Int)(keep:ND->Bool)(l:List ND)(p:List Nat)(i:Nat):ml val keep l (p++[i])=ml val keep l p++(if keep (l.getD i ⟨0,[],0⟩)=true then [val (l.getD i ⟨0,[],0⟩)] else []):=by
 unfold ml;rw[List.filter_append,iH,List.filter_cons,List.filter_nil];congr 1;split<;>rfl
theorem X21{cf:Nat}{val:ND->Int}{keep:ND->Bool}(c1:((af.lib cf).isNone&&(af.libm cf).isNone)=true)(c2:af.inl 104 cf=true)(c3:af.thaw 104 cf=false)(c4:af.frzc 104 cf=false)(tH:∀(n:ND) m,AC af cf [n.av] m=some (.tup [.I (val n),.bool (keep n)],m++[some (Ent.B [.I n.var,fD n,.I n.leaf])]))
  {m0:ai} (h0:dW m0 s F arms most l) {ids:List Nat} (tK:∀i∈ids,i<l.length) (cE:ids.length<=100000) {t:Nat} (ht:m0.get t=some (.obj false (ds ids))):∀(q p:List Nat) (m:ai) (x:AV),ids=p++q->Fr m0 m []->xS m0.length m x (ml val keep l p) ->
  ∃m' x',xJ (.ptr s 0) (.fn cf []) x (.arr t 0 ids.length none) (.I ids.length) (.I p.length) m (xH (aH f104))=xH (aH f104) (.exit 0) (IC x' m')/\Fr m0 m' []/\xS m0.length m' x' (ml val keep l ids):=by
 intro q
 induction q with
 | nil=>
  intro p m x gA f hx;rw[cu] at gA;subst gA;refine ⟨m,x,?_,f,hx⟩;rw[Td,bS,ae,aC,an aa]
 | cons i q ih=>
  intro p m x gA f hx;have hpl:p.length<ids.length:=by rw[gA];simp
  have iC:ids[p.length]=i:=by simp[gA]
  have hi:i<l.length:=tK i (by rw[gA];simp);have iy:aI none (.arr t 0 ids.length none) (.I p.length)=some (.ptr t p.length):=gF hpl
  have yw:aj none m (.ptr t p.length)=some (.I (i:Nat)):=by
   rw[fK,f.get t (bW ht) aA,ht,mg,ae,wq];exact JM (by rw[gA];simp)
  have ic:=h0.app f;obtain ⟨p0,na,TT,st,_⟩:=ic;have Kv:aj none m (.ptr s (0+1))=some na:=by rw[fK,st.hs];rfl
  have AO:=Gf st.hn hi;have ldv:aj (some 3) m (.vptr [.I l[i].var,fD l[i],.I l[i].leaf])=some l[i].av:=rfl;have hc:=tH l[i] m;have jA:l.getD i ⟨0,[],0⟩=l[i]:=iM hi;have f1:Fr m0 (m++[some (Ent.B [.I l[i].var,fD l[i],.I l[i].leaf])]) []:=f.snoc _;have hx1:xS m0.length (m++[some (Ent.B [.I l[i].var,fD l[i],.I l[i].leaf])]) x (ml val keep l p):=hx.move fun t _ ht=>cK ht;have Zq:(p++[i]).length=p.length+1:=aA
  have fJ:(ml val keep l p).length<=100000:=by
   unfold ml;rw[bu];have:=List.length_filter_le (fun i=>keep (l.getD i ⟨0,[],0⟩)) p;omega
  have ZA:xJ (.ptr s 0) (.fn cf []) x (.arr t 0 ids.length none) (.I ids.length) (.I p.length) m (xH (aH f104))=aB (.bool (keep l[i])) ((bL none true 3 none 8 (m++[some (Ent.B [.I l[i].var,fD l[i],.I l[i].leaf])]) x (.lst none false .full [.I (val l[i])])).bind fun nt=>xJ (.ptr s 0) (.fn cf []) nt.1 (.arr t 0 ids.length none) (.I ids.length) (.I (p.length+1:Nat)) nt.2 (xH (aH f104))) (xJ (.ptr s 0) (.fn cf []) x (.arr t 0 ids.length none) (.I ids.length) (.I (p.length+1:Nat)) (m++[some (Ent.B [.I l[i].var,fD l[i],.I l[i].leaf])]) (xH (aH f104))):=by
   rw[Td,bS,ae,aC,aq hpl,iy,ae,yw,ae,p8,ae,iL,ae,Kv,ae,AO,ae,ldv,ae,show kI (.fn cf [])=some (cf,[]) from rfl,ae,uI c1 c2 c3 c4,cu,hc,ae,rI,ae,rJ,ae,bU aa,qM,ae]
   rfl
  cases hk:keep l[i] with
  | true=>
   obtain ⟨x2,m2,ea,hx2,hlen,qv⟩:=qsw hx1 fJ (by have:=f1.len;omega) (val l[i])
   have f2:Fr m0 m2 []:=⟨by have:=f1.len;omega,fun y hy _=>by
    have hl:=f1.len
    rw[qv y aa (fun t ht e=>by
     rcases hx1 with ⟨h1,_⟩|⟨t',h1,_,_,h4⟩
     .rw[h1] at ht;cases ht
     .rw[h1] at ht;cases ht;omega)]
    exact f1.get y hy aA⟩
   have het:ml val keep l (p++[i])=ml val keep l p++[val l[i]]:=by
    rw[qcJ,jA,hk,aq rfl]
   obtain ⟨m',x',e,k1,k2⟩:=ih (p++[i]) m2 x2 (by rw[gA,gR];rfl) f2 (by rw[het];exact hx2);refine ⟨m',x',?_,k1,k2⟩;rw[Zq] at e;rw[ZA,hk,ll,ea,ae];exact e
  | false=>
   have het:ml val keep l (p++[i])=ml val keep l p:=by
    rw[qcJ,jA,hk,an aA,cu]
   obtain ⟨m',x',e,k1,k2⟩:=ih (p++[i]) _ x (by rw[gA,gR];rfl) f1 (by rw[het];exact hx1);refine ⟨m',x',?_,k1,k2⟩;rw[Zq] at e;rw[ZA,hk,gT];exact e
theorem B21{cf:Nat}{val:ND->Int}{keep:ND->Bool}(c1:((af.lib cf).isNone&&(af.libm cf).isNone)=true)(c2:af.inl 104 cf=true)(c3:af.thaw 104 cf=false)(c4:af.frzc 104 cf=false)(tH:∀(n:ND) m,AC af cf [n.av] m=some (.tup [.I (val n),.bool (keep n)],m++[some (Ent.B [.I n.var,fD n,.I n.leaf])]))
  {m0:ai} {ar:List Int} (h0:dW m0 s F arms most l) (hm:most≠0) (g:GoodL ar l) (fI:l.length<=100000) {id:Nat} (hid:id<l.length) :
  ∃m' y,AC af 104 [.ptr s 0,.I id,.fn cf []] m0=some (.tup [y,.I 0],m')/\Fr m0 m' []/\I4 m0.length m' y (sc (ml val keep l (Vi l id []))):=by
 have e50:=DB h0 hm;have e56:=L6 h0 id;rw[bM aa] at e56;obtain ⟨m1,x,T,e61,Fs,f1,_⟩:=L8 h0 g fI hid;obtain ⟨cc1,cc2,_⟩:=pT g id hid [] qq;obtain ⟨t0,rfl,Qv⟩:=qpJ g hid Fs;have fL:=q8 _ _ cc1.nd cc1.lt;have st1:=h0.app f1;obtain ⟨m2,x2,e,f2,hx2⟩:=X21 c1 c2 c3 c4 tH st1 (ids:=Vi l id []) cc1.lt aa Qv (Vi l id []) [] m1 aD rfl (Fr.refl _ _) (.inl ⟨rfl,rfl⟩);have qqq:aM false (.arr t0 0 (Vi l id []).length none)=some (.I (Vi l id []).length):=rfl;have f12:Fr m0 m2 []:=Fr.trans f1 f2 fun _ hh=>by cases hh
 have nQ:=f1.len;have jC:=f2.len
 have e0:AC af 104 [.ptr s 0,.I id,.fn cf []] m0=xH (aH f104) (.exit 0) (IC x2 m2):=by
  have e61:AC af 65 [.ptr s 0,.I id] m0=some (.arr t0 0 (Vi l id []).length none,m1):=e61;rw[qjw,e50,ae,gT,e56,ae,nB,ae,jj,gT,e61,ae,qqq,ae];exact e
 rw[e0,qdo];generalize hns:ml val keep l (Vi l id [])=ns at *
 have pH:ns.length<=100000:=by
  rw[<- hns];unfold ml;rw[bu];have:=List.length_filter_le (fun i=>keep (l.getD i ⟨0,[],0⟩)) (Vi l id []);omega
 rcases hx2 with ⟨rfl,rfl⟩|⟨t,rfl,jd,hg,htB⟩
 .exact ⟨m2,_,rfl,f12,.inl ⟨rfl,qun⟩⟩
 .have fJ:=bW hg;have ho:m2.obj? t=some (false,ns.map (AV.int .i64)):=by rw[sR,hg];rfl
  have es:Bp [.arr t 0 ns.length none] m2=some (.tup [],m2.set t (some (.obj false ((o8 ns).map (AV.int .i64))))):=by
   simp only[Bp,ho,ae];rw[aq ⟨trivial,trivial,jd,aA,aa⟩,QF];rfl
  have qv:ai.get (m2.set t (some (.obj false ((o8 ns).map (AV.int .i64))))) t=some (.obj false ((o8 ns).map (AV.int .i64))):=di rfl fJ;have ho2:ai.obj? (m2.set t (some (.obj false ((o8 ns).map (AV.int .i64))))) t=some (false,(o8 ns).map (AV.int .i64)):=by rw[sR,qv];rfl
  have mM:=RX ns
  have ec:Ae [.arr t 0 ns.length none] (m2.set t (some (.obj false ((o8 ns).map (AV.int .i64)))))=some (.arr t 0 (sc ns).length none,m2.set t (some (.obj false ((sc ns++List.replicate ((o8 ns).length-(sc ns).length) 0).map (AV.int .i64))))):=by
   simp only[Ae,ho2,ae];rw[aq ⟨trivial,trivial,jd,by rw[bu,mM],aa⟩,QF,aQ,B2];rfl
  refine ⟨_,_,by rw[es,ae,ec,ae],⟨by rw[il];exact f12.len,fun y hy _=>?_⟩,.inr ⟨t,List.replicate ((o8 ns).length-(sc ns).length) 0,rfl,di rfl fJ,aa⟩⟩;rw[cQ aa];exact f12.get y hy aA
theorem B10{m0:ai}{ar:List Int}(h0:dW m0 s F arms most l)(hm:most≠0)(g:GoodL ar l)(fI:l.length<=100000){id:Nat}(hid:id<l.length) :
  ∃m' y,AC af 41 [.ptr s 0,.I id] m0=some (.tup [y,.I 0],m')/\Fr m0 m' []/\I4 m0.length m' y (sc (ml (fun n=>n.leaf) (fun n=>decide (n.var<0)) l (Vi l id []))):=by
 obtain ⟨m',y,e,h1,h2⟩:=B21 (cf:=106) rfl rfl rfl rfl B23 h0 hm g fI hid;exact ⟨m',y,by rw[T41,e,ae,rI,ae,rJ,ae],h1,h2⟩
end
end Go.Ab
namespace Go.Ab
noncomputable section
variable (a0 a1 x0 x1 x3 x4 x5 x6 x7 x8 x9 aN aX aS aY aZ c9 fw fF jr mw dU dV fh ji sg LU xD rn GQ ur LR Bz GV vG:AV) (m:ai) (K:KT)
open Go.Proofs.Tryz
def No:St:=⟨(aO (aJ (x5::bB (aJ [])))),m⟩
def HR:OM:=bY 127 (b8 (c2 (c2 (c2 (aE f127))))) 4 (aJ (x1::aK (aJ (x5::aV (aO (aK (aJ (mw::dU::dV::bC (aV (aO (aK (aJ [])))))))))))) m K
def Np:St:=⟨(aJ (x1::aK (aJ (x5::x6::aJ (x8::aV (aO (mw::dU::dV::bC (aV (aO (aK (aJ []))))))))))),m⟩
def HS:OM:=bY 127 (b8 (lH (lH (qP (c2 (aE f127)))))) 8 (aJ (x1::aK (aJ (x5::x6::x7::x8::aV (aO (mw::dU::dV::aO (LU::xD::rn::bC (aV [])))))))) m K
abbrev qeB:KT:=bI 127 (bG (aE f127)) K
abbrev qeC:KT:=bw 0 (qeB K)
abbrev Mm:KT:=(qeC K)
abbrev qeE:KT:=bI 127 (ma (nM (c2 (c2 (aE f127))))) (nU 127 (b8 (c2 (c2 (c2 (aE f127))))) 4 K)
abbrev qeF:KT:=bw 1 (qeE K)
abbrev qeG:KT:=bI 127 (ma (Ck (nM (c2 (c2 (aE f127)))))) (qeF K)
abbrev qeH:KT:=bw 2 (qeG K)
abbrev Mn:KT:=(qeH K)
theorem qjO:AC af 127 [a0,a1] m=(aF (AP af) none m 164 [a0]).bind fun r1=>(aF (AP af) none r1.2 164 [a1]).bind fun r2=>(aM false r1.1).bind fun v3=>(aM false r2.1).bind fun v4=>(ag .o .add v3 v4).bind fun v5=>(jy none 161 none (.int .u32 0) 4 r2.2 v5 v5).bind fun r6=>(aM false r1.1).bind fun v7=>HR r2.1 r6.1 r1.1 v7 (.I 0) r6.2 (Mm (aH f127)):=
(bm af 127 [a0,a1] m (fn:=f127) (c:=aE f127) qmt rfl).trans au
theorem Tu:HR x1 x5 mw dU dV m K=(ag .o .lss dV dU).bind fun v1=>aB v1 ((aI none mw dV).bind fun v2=>(aj none m v2).bind fun v3=>(aM false x1).bind fun v4=>HS x1 x5 dV v3 (.U 0) mw dU dV x1 v4 (.I 0) m (Mn K)) (K (.exit 0) (No x5 m)):=
(bX (bQ _) _ _ _).trans au
theorem Tv:HS x1 x5 x6 x7 x8 mw dU dV LU xD rn m K=(ag .o .lss rn xD).bind fun v1=>aB v1 ((aI none LU rn).bind fun v2=>(aj none m v2).bind fun v3=>(ag .o .add x6 rn).bind fun v4=>(aI none x5 v4).bind fun v5=>(aj none m v5).bind fun v6=>(bE .u64 v6).bind fun v7=>(bE .u64 x7).bind fun v8=>(bE .u64 v3).bind fun v9=>(ag .o .mul v8 v9).bind fun v10=>(ag .o .add v7 v10).bind fun v11=>(ag .o .add x8 v11).bind fun v12=>(ag .o .add x6 rn).bind fun bg=>(bE .u32 v12).bind fun bf=>(aI none x5 bg).bind fun bh=>(aP none m bh bf).bind fun m16=>(ag .o .shr v12 (.U 32)).bind fun bH=>(ag .o .add rn (.I 1)).bind fun cV=>HS x1 x5 x6 x7 bH mw dU dV LU xD cV m16 K) (K (.exit 2) (Np x1 x5 x6 x8 mw dU dV m)):=
(bX (bQ _) _ _ _).trans au
theorem qeD:Mm (aH f127) (.exit 0) (No x5 m)=(aF (AP af) none m 164 [x5]).bind fun r1=>some (r1.1,r1.2):=au
theorem qeI:Mn K (.exit 2) (Np x1 x5 x6 x8 mw dU dV m)=(aM false x1).bind fun v1=>(ag .o .add x6 v1).bind fun v2=>(bE .u32 x8).bind fun v3=>(aI none x5 v2).bind fun v4=>(aP none m v4 v3).bind fun m5=>(ag .o .add dV (.I 1)).bind fun v6=>HR x1 x5 mw dU v6 m5 K:=au
def IH:St:=⟨(aO (aJ (x5::x6::bC (br (aO (aJ [])))))),m⟩
def BL:OM:=bY 130 (b8 (bG (c2 (aE f130)))) 7 (aJ (x1::aK (aJ (x5::x6::br (aJ (fh::ji::sg::bC (aJ []))))))) m K
abbrev qeN:KT:=bI 130 (bG (c2 (c2 (aE f130)))) K
abbrev qeO:KT:=bw 0 (qeN K)
abbrev BH:KT:=(qeO K)
theorem qjS:AC af 130 [a0,a1] m=(aF (AP af) none m 164 [a0]).bind fun r1=>(aF (AP af) none r1.2 164 [a1]).bind fun r2=>(aM false r1.1).bind fun v3=>(aM false r2.1).bind fun v4=>(ag .o .lss v3 v4).bind fun v5=>aB v5 ((aM false r2.1).bind fun v6=>(ag .o .add v6 (.I 1)).bind fun v7=>(jy none 161 none (.int .u32 0) 4 r2.2 (.I 0) v7).bind fun r8=>(aM false r2.1).bind fun v9=>BL r1.1 r8.1 (.U 0) r2.1 v9 (.I 0) r8.2 (BH (aH f130))) ((aM false r1.1).bind fun v10=>(ag .o .add v10 (.I 1)).bind fun v11=>(jy none 161 none (.int .u32 0) 4 r2.2 (.I 0) v11).bind fun jV=>(aM false r1.1).bind fun bg=>BL r2.1 jV.1 (.U 0) r1.1 bg (.I 0) jV.2 (BH (aH f130))):=
(bm af 130 [a0,a1] m (fn:=f130) (c:=aE f130) qmw rfl).trans au
theorem TA:BL x1 x5 x6 fh ji sg m K=(ag .o .lss sg ji).bind fun v1=>aB v1 ((aI none fh sg).bind fun v2=>(aj none m v2).bind fun v3=>(bE .u64 v3).bind fun v4=>(ag .o .add x6 v4).bind fun v5=>(aM false x1).bind fun v6=>(ag .o .lss sg v6).bind fun v7=>aB v7 ((aI none x1 sg).bind fun v8=>(aj none m v8).bind fun v9=>(bE .u64 v9).bind fun v10=>(ag .o .add v5 v10).bind fun v11=>(bE .u32 v11).bind fun v12=>(df none [v12]).bind fun bg=>(bL none false 161 none 4 m x5 bg).bind fun mh=>(ag .o .shr v11 (.U 32)).bind fun bh=>(ag .o .add sg (.I 1)).bind fun bK=>BL x1 mh.1 bh fh ji bK mh.2 K) ((bE .u32 v5).bind fun bH=>(df none [bH]).bind fun cV=>(bL none false 161 none 4 m x5 cV).bind fun kP=>(ag .o .shr v5 (.U 32)).bind fun v20=>(ag .o .add sg (.I 1)).bind fun v21=>BL x1 kP.1 v20 fh ji v21 kP.2 K)) (K (.exit 0) (IH x5 x6 m)):=
(bX (bQ _) _ _ _).trans au
theorem qeP:BH (aH f130) (.exit 0) (IH x5 x6 m)=(bE .u32 x6).bind fun v1=>(df none [v1]).bind fun v2=>(bL none false 161 none 4 m x5 v2).bind fun r3=>(aF (AP af) none r3.2 164 [r3.1]).bind fun r4=>some (r4.1,r4.2):=au
def Nq:St:=⟨(bC (br (aJ []))),m⟩
def IW:St:=⟨(aO (x4::bC (aV (aO [])))),m⟩
def HU:OM:=bY 131 (b8 (c2 (c2 (c2 (aE f131))))) 7 (x0::x1::aK (aJ (x5::bC (aV (aK (aJ [])))))) m K
abbrev qeQ:KT:=bI 131 (bG (aE f131)) K
abbrev qeR:KT:=bw 1 (qeQ K)
abbrev Hd:KT:=(qeR K)
theorem qjU:AC af 131 [a0,a1] m=(aF (AP af) none m 164 [a0]).bind fun r1=>(aF (AP af) none r1.2 164 [a1]).bind fun r2=>(aM false r1.1).bind fun v3=>(aM false r2.1).bind fun v4=>(ag .o .lss v3 v4).bind fun v5=>aB v5 (some ((.I (-1)),r2.2)) ((aM false r1.1).bind fun v6=>(aM false r2.1).bind fun v7=>(ag .o .gtr v6 v7).bind fun v8=>aB v8 (some ((.I 1),r2.2)) ((aM false r1.1).bind fun v9=>(ag .o .sub v9 (.I 1)).bind fun v10=>HU r1.1 r2.1 v10 r2.2 (Hd (aH f131)))):=
(bm af 131 [a0,a1] m (fn:=f131) (c:=aE f131) qmx rfl).trans au
theorem TB:HU x0 x1 x5 m K=(ag .o .geq x5 (.I 0)).bind fun v1=>aB v1 ((aI none x0 x5).bind fun v2=>(aj none m v2).bind fun v3=>(aI none x1 x5).bind fun v4=>(aj none m v4).bind fun v5=>(ag .o .lss v3 v5).bind fun v6=>aB v6 (K .ret (IW (.I (-1)) m)) ((aI none x0 x5).bind fun v7=>(aj none m v7).bind fun v8=>(aI none x1 x5).bind fun v9=>(aj none m v9).bind fun v10=>(ag .o .gtr v8 v10).bind fun v11=>aB v11 (K .ret (IW (.I 1) m)) ((ag .o .sub x5 (.I 1)).bind fun v12=>HU x0 x1 v12 m K))) (K (.exit 1) (Nq m)):=
(bX (bQ _) _ _ _).trans au
theorem qeT:Hd (aH f131) (.exit 1) (Nq  m)=some ((.I 0),m):=au
theorem qeS:Hd (aH f131) .ret (IW x4 m)=some (x4,m):=au
def Nr:St:=⟨(aO (aK (x6::bC (br (aO []))))),m⟩
def zE:OM:=bY 132 (b8 (bG (c2 (aE f132)))) 7 (aJ (x1::aO (x6::x7::aV (aO (aK (dU::dV::fh::bC (aK []))))))) m K
abbrev qeU:KT:=bI 132 (bG (c2 (c2 (aE f132)))) K
abbrev qeV:KT:=bw 0 (qeU K)
abbrev Mo:KT:=(qeV K)
theorem Vj:AC af 132 [a0,a1] m=(aF (AP af) none m 131 [a0,a1]).bind fun r1=>(ag .o .lss r1.1 (.I 0)).bind fun v2=>aB v2 (some ((.tup [aD,(.I 1)]),r1.2)) ((aF (AP af) none r1.2 164 [a0]).bind fun r3=>(aF (AP af) none r3.2 164 [a1]).bind fun r4=>(aM false r3.1).bind fun v5=>(jy none 161 none (.int .u32 0) 4 r4.2 v5 v5).bind fun r6=>(aM false r3.1).bind fun v7=>zE r4.1 r6.1 (.U 0) r3.1 v7 (.I 0) r6.2 (Mo (aH f132))):=
(bm af 132 [a0,a1] m (fn:=f132) (c:=aE f132) qmy rfl).trans au
theorem TC:zE x1 x6 x7 dU dV fh m K=(ag .o .lss fh dV).bind fun v1=>aB v1 ((aI none dU fh).bind fun v2=>(aj none m v2).bind fun v3=>(aM false x1).bind fun v4=>(ag .o .lss fh v4).bind fun v5=>aB v5 ((aI none x1 fh).bind fun v6=>(aj none m v6).bind fun v7=>(bE .u64 v7).bind fun v8=>(ag .o .add x7 v8).bind fun v9=>(bE .u64 v3).bind fun v10=>(ag .o .lss v10 v9).bind fun v11=>aB v11 ((bE .u64 v3).bind fun v12=>(ag .o .shl (.U 1) (.U 32)).bind fun bg=>(ag .o .add v12 bg).bind fun bf=>(ag .o .sub bf v9).bind fun bh=>(bE .u32 bh).bind fun bK=>(aI none x6 fh).bind fun bH=>(aP none m bH bK).bind fun m18=>(ag .o .add fh (.I 1)).bind fun cP=>zE x1 x6 (.U 1) dU dV cP m18 K) ((bE .u64 v3).bind fun v20=>(ag .o .shl (.U 0) (.U 32)).bind fun v21=>(ag .o .add v20 v21).bind fun v22=>(ag .o .sub v22 v9).bind fun v23=>(bE .u32 v23).bind fun v24=>(aI none x6 fh).bind fun v25=>(aP none m v25 v24).bind fun m26=>(ag .o .add fh (.I 1)).bind fun iR=>zE x1 x6 (.U 0) dU dV iR m26 K)) ((bE .u64 v3).bind fun v28=>(ag .o .lss v28 x7).bind fun jh=>aB jh ((bE .u64 v3).bind fun v30=>(ag .o .shl (.U 1) (.U 32)).bind fun v31=>(ag .o .add v30 v31).bind fun jN=>(ag .o .sub jN x7).bind fun kR=>(bE .u32 kR).bind fun nC=>(aI none x6 fh).bind fun kF=>(aP none m kF nC).bind fun m36=>(ag .o .add fh (.I 1)).bind fun v37=>zE x1 x6 (.U 1) dU dV v37 m36 K) ((bE .u64 v3).bind fun qe=>(ag .o .shl (.U 0) (.U 32)).bind fun rm=>(ag .o .add qe rm).bind fun v40=>(ag .o .sub v40 x7).bind fun GH=>(bE .u32 GH).bind fun GI=>(aI none x6 fh).bind fun Bv=>(aP none m Bv GI).bind fun m44=>(ag .o .add fh (.I 1)).bind fun Bw=>zE x1 x6 (.U 0) dU dV Bw m44 K))) (K (.exit 0) (Nr x6 m)):=
(bX (bQ _) _ _ _).trans au
theorem qeW:Mo (aH f132) (.exit 0) (Nr x6 m)=(aF (AP af) none m 164 [x6]).bind fun r1=>some ((.tup [r1.1,(.I 0)]),r1.2):=au
theorem qjM:AC af 123 [a0] m=(bE .u32 a0).bind fun v1=>(ag .o .shr a0 (.U 32)).bind fun v2=>(bE .u32 v2).bind fun v3=>(df none [v1,v3]).bind fun v4=>(aF (AP af) none m 164 [v4]).bind fun r5=>(aF (AP af) none r5.2 163 [r5.1]).bind fun r6=>some (r6.1,r6.2):=
(bm af 123 [a0] m (fn:=f123) (c:=aE f123) qmp rfl).trans au
theorem qkl:AC af 181 [a0] m=(aM false a0).bind fun v1=>(ag .o .eql v1 (.I 0)).bind fun v2=>aB v2 (some ((.bool true),m)) ((aM false a0).bind fun v3=>(ag .o .sub v3 (.I 1)).bind fun v4=>(aI none a0 v4).bind fun v5=>(aj none m v5).bind fun v6=>(ag .o .neq v6 (.int .u32 0)).bind fun v7=>some (v7,m)):=
(bm af 181 [a0] m (fn:=f181) (c:=aE f181) qnc rfl).trans au
theorem qkm:AC af 182 [a0] m=(aF (AP af) none m 164 [a0]).bind fun r1=>(aM false r1.1).bind fun v2=>(ag .o .eql v2 (.I 0)).bind fun v3=>aB v3 (some ((.tup [(.U 0),(.bool true)]),r1.2)) ((ag .o .eql v2 (.I 1)).bind fun v4=>aB v4 ((aI none r1.1 (.I 0)).bind fun v5=>(aj none r1.2 v5).bind fun v6=>(bE .u64 v6).bind fun v7=>some ((.tup [v7,(.bool true)]),r1.2)) ((ag .o .eql v2 (.I 2)).bind fun v8=>aB v8 ((aI none r1.1 (.I 0)).bind fun v9=>(aj none r1.2 v9).bind fun v10=>(bE .u64 v10).bind fun v11=>(aI none r1.1 (.I 1)).bind fun v12=>(aj none r1.2 v12).bind fun bg=>(bE .u64 bg).bind fun bf=>(ag .o .shl bf (.U 32)).bind fun bh=>(ag .o .or v11 bh).bind fun bK=>some ((.tup [bK,(.bool true)]),r1.2)) (some ((.tup [(.U 0),(.bool false)]),r1.2)))):=
(bm af 182 [a0] m (fn:=f182) (c:=aE f182) qnd rfl).trans au
def NJ:St:=⟨(x0::br (aV (aJ []))),m⟩
def Ib:OM:=bY 183 (oL (c2 (aE f183))) 2 (x0::x1::br (aV [])) m K
abbrev qgq:KT:=bI 183 (c2 (c2 (c2 (aE f183)))) K
abbrev qgr:KT:=bw 0 (qgq K)
abbrev MB:KT:=(qgr K)
theorem qkn:AC af 183 [a0,a1] m=(aF (AP af) none m 164 [a0]).bind fun r1=>(aF (AP af) none r1.2 164 [a1]).bind fun r2=>Ib r1.1 r2.1 r2.2 (MB (aH f183)):=
(bm af 183 [a0,a1] m (fn:=f183) (c:=aE f183) qne rfl).trans au
theorem qje:Ib x0 x1 m K=(aM false x1).bind fun v1=>(ag .o .gtr v1 (.I 0)).bind fun v2=>aB v2 ((aF (AP af) none m 187 [x0,x1]).bind fun r3=>(a8 r3.1 0).bind fun v4=>(a8 r3.1 1).bind fun v5=>(a8 r3.1 2).bind fun v6=>Ib x1 v5 r3.2 K) (K (.exit 0) (NJ x0 m)):=
(bX (bQ _) _ _ _).trans au
theorem qgs:MB (aH f183) (.exit 0) (NJ x0 m)=(aF (AP af) none m 163 [x0]).bind fun r1=>some (r1.1,r1.2):=au
def IJ:St:=⟨(x0::aK (x3::br (aJ []))),m⟩
def H5:OM:=bY 164 (oL (c2 (aE f164))) 2 (x0::aK (x3::br (aJ []))) m K
abbrev qfF:KT:=bI 164 (c2 (c2 (c2 (aE f164)))) K
abbrev qfG:KT:=bw 0 (qfF K)
abbrev Mu:KT:=(qfG K)
theorem qke:AC af 164 [a0] m=(aM false a0).bind fun v1=>H5 a0 v1 m (Mu (aH f164)):=
(bm af 164 [a0] m (fn:=f164) (c:=aE f164) qm0 rfl).trans au
theorem TP:H5 x0 x3 m K=(ag .o .gtr x3 (.I 0)).bind fun v1=>aB v1 ((ag .o .sub x3 (.I 1)).bind fun v2=>(aI none x0 v2).bind fun v3=>(aj none m v3).bind fun v4=>(ag .o .eql v4 (.int .u32 0)).bind fun v5=>aB v5 ((ag .o .sub x3 (.I 1)).bind fun v6=>H5 x0 v6 m K) (K (.exit 0) (IJ x0 x3 m))) (K (.exit 0) (IJ x0 x3 m)):=
(bX (bQ _) _ _ _).trans au
theorem qfH:Mu (aH f164) (.exit 0) (IJ x0 x3 m)=(gX none x0 none (some x3) none).bind fun v1=>some (v1,m):=au
theorem Ox:AC af 163 [a0] m=(ag .sl .eql a0 aD).bind fun v1=>aB v1 (some (aD,m)) ((df none []).bind fun v2=>(bL none false 161 none 4 m v2 a0).bind fun r3=>some (r3.1,r3.2)):=
(bm af 163 [a0] m (fn:=f163) (c:=aE f163) qmZ rfl).trans au
def NN:St:=⟨(aV (aJ (x9::aN::aJ (aS::aY::bB (bB (bB (bB (bC (aV (aO (aJ []))))))))))),m⟩
def D1:OM:=bY 187 (b8 (bG (c2 (c2 (c2 (aE f187)))))) 14 (aV (aJ (x9::aN::aX::aS::aY::aZ::bB (bB (bB (bB (bC (aV (aO []))))))))) m K
def zO:St:=⟨(aV (aJ (x9::aN::aX::aS::aY::aZ::aJ (c9::bB (bB (bB (bB (bC (aV (aK [])))))))))),m⟩
def BS:OM:=bY 187 (oL (uN (b8 (bG (c2 (c2 (c2 (aE f187)))))))) 18 (aV (aJ (x9::aN::aX::aS::aY::aZ::aJ (c9::fw::bB (bB (bB (bB (bC (aV (aJ [])))))))))) m K
def NO:St:=⟨(aV (aJ (x9::aN::aX::aS::aY::aZ::aJ (c9::aJ (fF::jr::bB (bB (bB (bB (bC (aO (aK (aJ [])))))))))))),m⟩
def D2:OM:=bY 187 (b8 (bG (b8 (nM (bG (c2 (c2 (aE f187)))))))) 24 (aV (aJ (x9::aN::aX::aS::aY::aZ::aJ (c9::aJ (fF::jr::bB (bB (aV (aK (GQ::ur::bB (bB (br (aV (aK (aJ [])))))))))))))) m K
def NP:St:=⟨(aV (aJ (x9::aN::aX::aS::aY::aZ::aJ (c9::aK (jr::bB (bB (bB (bB (bC (aO (aK (aJ [])))))))))))),m⟩
def Ie:OM:=bY 187 (b8 (O4 (EU (bG (uN (b8 (bG (c2 (c2 (c2 (aE f187))))))))))) 41 (aV (aJ (x9::aN::aX::aS::aY::aZ::aJ (c9::aK (jr::bB (bB (bB (br (aO (aK (aJ (LR::Bz::bB (aV (aO (aK []))))))))))))))) m K
def NQ:St:=⟨(aV (aO (aJ (aY::aV (aK (aJ (ji::bB (bB (bB (bB (bC (aJ [])))))))))))),m⟩
def D3:OM:=bY 187 (b8 (bG (bG (c2 (aE f187))))) 51 (aV (aJ (x9::aN::aK (aY::aV (aK (aJ (ji::bB (bB (bB (bC (br (aV (aO (aK (aJ (GV::vG::bC [])))))))))))))))) m K
abbrev qgI:KT:=bI 187 (bG (bG (aE f187))) K
abbrev qgJ:KT:=bw 1 (qgI K)
abbrev MF:KT:=(qgJ K)
abbrev qgL:KT:=bI 187 (lH (qP (bG (c2 (aE f187))))) (nU 187 (b8 (bG (c2 (c2 (c2 (aE f187)))))) 14 K)
abbrev qgM:KT:=bw 2 (qgL K)
abbrev qgN:KT:=bI 187 (ma (JB (qP (bG (c2 (aE f187)))))) (qgM K)
abbrev qgO:KT:=bw 3 (qgN K)
abbrev MG:KT:=(qgO K)
abbrev qg1:KT:=bI 187 (bG (bG (c2 (c2 (aE f187))))) K
abbrev qg2:KT:=bw 9 (qg1 K)
abbrev MJ:KT:=(qg2 K)
abbrev qgQ:KT:=bI 187 (lH (qP (bG (c2 (aE f187))))) (nU 187 (b8 (bG (c2 (c2 (c2 (aE f187)))))) 14 K)
abbrev qgR:KT:=bw 2 (qgQ K)
abbrev qgS:KT:=bI 187 (bG (uN (b8 (bG (c2 (c2 (c2 (aE f187)))))))) (qgR K)
abbrev qgT:KT:=bw 5 (qgS K)
abbrev MH:KT:=(qgT K)
abbrev qgV:KT:=bI 187 (lH (qP (bG (c2 (aE f187))))) (nU 187 (b8 (bG (c2 (c2 (c2 (aE f187)))))) 14 K)
abbrev qgW:KT:=bw 2 (qgV K)
abbrev qgX:KT:=bI 187 (bG (bG (uN (b8 (bG (c2 (c2 (c2 (aE f187))))))))) (qgW K)
abbrev qgY:KT:=bI 187 (ma (qP (bG (lH (uN (EU (bG (aE f187)))))))) (qgX K)
abbrev qgZ:KT:=bw 7 (qgY K)
abbrev MI:KT:=(qgZ K)
theorem I7:AC af 187 [a0,a1] m=(aF (AP af) none m 164 [a0]).bind fun r1=>(aF (AP af) none r1.2 164 [a1]).bind fun r2=>(aM false r2.1).bind fun v3=>(ag .o .eql v3 (.I 0)).bind fun v4=>aB v4 (some ((.tup [aD,aD,(.I 31)]),r2.2)) ((aF (AP af) none r2.2 131 [r1.1,r2.1]).bind fun r5=>(ag .o .lss r5.1 (.I 0)).bind fun v6=>aB v6 ((aF (AP af) none r5.2 163 [r1.1]).bind fun r7=>some ((.tup [aD,r7.1,(.I 0)]),r7.2)) ((aM false r2.1).bind fun v8=>(ag .o .eql v8 (.I 1)).bind fun v9=>aB v9 ((aI none r2.1 (.I 0)).bind fun v10=>(aj none r5.2 v10).bind fun v11=>(aF (AP af) none r5.2 202 [r1.1,v11]).bind fun jV=>(a8 jV.1 0).bind fun bg=>(a8 jV.1 1).bind fun bf=>(bE .u64 bf).bind fun bh=>(aF (AP af) none jV.2 123 [bh]).bind fun gW=>some ((.tup [bg,gW.1,(.I 0)]),gW.2)) ((aM false r2.1).bind fun bH=>(ag .o .sub bH (.I 1)).bind fun cV=>(aI none r2.1 cV).bind fun cP=>(aj none r5.2 cP).bind fun v20=>(aF (AP af) none r5.2 203 [v20]).bind fun vt=>(bE .u64 vt.1).bind fun v22=>(AC af 204 [r1.1,v22] vt.2).bind fun ka=>(AC af 204 [r2.1,v22] ka.2).bind fun lE=>(aF (AP af) none lE.2 164 [lE.1]).bind fun kC=>(aM false kC.1).bind fun v26=>(aM false ka.1).bind fun iR=>(ag .o .sub iR v26).bind fun v28=>(jy none 161 none (.int .u32 0) 4 kC.2 v28 v28).bind fun r29=>(aM false ka.1).bind fun v30=>(ag .o .sub v30 v26).bind fun v31=>(ag .o .sub v31 (.I 1)).bind fun jN=>D1 v22 ka.1 kC.1 v26 r29.1 jN r29.2 (MF (aH f187))))):=
(bm af 187 [a0,a1] m (fn:=f187) (c:=aE f187) qni rfl).trans au
theorem Uf:D1 x9 aN aX aS aY aZ m K=(ag .o .geq aZ (.I 0)).bind fun v1=>aB v1 ((ag .o .add aZ aS).bind fun v2=>(aI none aN v2).bind fun v3=>(aj none m v3).bind fun v4=>(bE .u64 v4).bind fun v5=>(ag .o .shl v5 (.U 32)).bind fun v6=>(ag .o .add aZ aS).bind fun v7=>(ag .o .sub v7 (.I 1)).bind fun v8=>(aI none aN v8).bind fun v9=>(aj none m v9).bind fun v10=>(bE .u64 v10).bind fun v11=>(ag .o .or v6 v11).bind fun v12=>(ag .o .sub aS (.I 1)).bind fun bg=>(aI none aX bg).bind fun bf=>(aj none m bf).bind fun bh=>(bE .u64 bh).bind fun bK=>(ag .o .quo v12 bK).bind fun bH=>(ag .o .sub aS (.I 1)).bind fun cV=>(aI none aX cV).bind fun cP=>(aj none m cP).bind fun v20=>(bE .u64 v20).bind fun v21=>(ag .o .rem v12 v21).bind fun v22=>BS x9 aN aX aS aY aZ bH v22 m (MG K)) (K (.exit 1) (NN x9 aN aS aY m)):=
(bX (bQ _) _ _ _).trans au
theorem qjf:BS x9 aN aX aS aY aZ c9 fw m K=(ag .o .geq c9 (.U 4294967296)).bind fun v1=>aB v1 ((ag .o .sub c9 (.U 1)).bind fun v2=>(ag .o .sub aS (.I 1)).bind fun v3=>(aI none aX v3).bind fun v4=>(aj none m v4).bind fun v5=>(bE .u64 v5).bind fun v6=>(ag .o .add fw v6).bind fun v7=>(ag .o .geq v7 (.U 4294967296)).bind fun v8=>aB v8 (K (.exit 3) (zO x9 aN aX aS aY aZ v2 m)) (BS x9 aN aX aS aY aZ v2 v7 m K)) ((ag .o .sub aS (.I 2)).bind fun v9=>(aI none aX v9).bind fun v10=>(aj none m v10).bind fun v11=>(bE .u64 v11).bind fun v12=>(ag .o .mul c9 v12).bind fun bg=>(ag .o .shl fw (.U 32)).bind fun bf=>(ag .o .add aZ aS).bind fun bh=>(ag .o .sub bh (.I 2)).bind fun bK=>(aI none aN bK).bind fun bH=>(aj none m bH).bind fun cV=>(bE .u64 cV).bind fun cP=>(ag .o .or bf cP).bind fun v20=>(ag .o .gtr bg v20).bind fun v21=>aB v21 ((ag .o .sub c9 (.U 1)).bind fun v22=>(ag .o .sub aS (.I 1)).bind fun v23=>(aI none aX v23).bind fun v24=>(aj none m v24).bind fun v25=>(bE .u64 v25).bind fun v26=>(ag .o .add fw v26).bind fun iR=>(ag .o .geq iR (.U 4294967296)).bind fun v28=>aB v28 (K (.exit 3) (zO x9 aN aX aS aY aZ v22 m)) (BS x9 aN aX aS aY aZ v22 iR m K)) (K (.exit 3) (zO x9 aN aX aS aY aZ c9 m))):=
(bX (bQ _) _ _ _).trans au
theorem Ug:D2 x9 aN aX aS aY aZ c9 fF jr GQ ur m K=(ag .o .lss ur GQ).bind fun v1=>aB v1 ((aI none aX ur).bind fun v2=>(aj none m v2).bind fun v3=>(bE .u64 v3).bind fun v4=>(ag .o .mul c9 v4).bind fun v5=>(ag .o .add jr v5).bind fun v6=>(ag .o .and v6 (.U 4294967295)).bind fun v7=>(ag .o .add v7 fF).bind fun v8=>(ag .o .add ur aZ).bind fun v9=>(aI none aN v9).bind fun v10=>(aj none m v10).bind fun v11=>(bE .u64 v11).bind fun v12=>(ag .o .lss v12 v8).bind fun bg=>aB bg ((ag .o .add ur aZ).bind fun bf=>(ag .o .add ur aZ).bind fun bh=>(aI none aN bh).bind fun bK=>(aj none m bK).bind fun bH=>(bE .u64 bH).bind fun cV=>(ag .o .shl (.U 1) (.U 32)).bind fun cP=>(ag .o .add cV cP).bind fun v20=>(ag .o .sub v20 v8).bind fun v21=>(bE .u32 v21).bind fun v22=>(aI none aN bf).bind fun v23=>(aP none m v23 v22).bind fun m24=>(ag .o .shr v6 (.U 32)).bind fun v25=>(ag .o .add ur (.I 1)).bind fun v26=>D2 x9 aN aX aS aY aZ c9 (.U 1) v25 GQ v26 m24 K) ((ag .o .add ur aZ).bind fun iR=>(ag .o .add ur aZ).bind fun v28=>(aI none aN v28).bind fun jh=>(aj none m jh).bind fun v30=>(bE .u64 v30).bind fun v31=>(ag .o .shl (.U 0) (.U 32)).bind fun jN=>(ag .o .add v31 jN).bind fun kR=>(ag .o .sub kR v8).bind fun nC=>(bE .u32 nC).bind fun kF=>(aI none aN iR).bind fun se=>(aP none m se kF).bind fun m37=>(ag .o .shr v6 (.U 32)).bind fun qe=>(ag .o .add ur (.I 1)).bind fun rm=>D2 x9 aN aX aS aY aZ c9 (.U 0) qe GQ rm m37 K)) (K (.exit 5) (NO x9 aN aX aS aY aZ c9 fF jr m)):=
(bX (bQ _) _ _ _).trans au
theorem Uh:Ie x9 aN aX aS aY aZ c9 jr LR Bz m K=(ag .o .lss Bz LR).bind fun v1=>aB v1 ((ag .o .add Bz aZ).bind fun v2=>(aI none aN v2).bind fun v3=>(aj none m v3).bind fun v4=>(bE .u64 v4).bind fun v5=>(aI none aX Bz).bind fun v6=>(aj none m v6).bind fun v7=>(bE .u64 v7).bind fun v8=>(ag .o .add v5 v8).bind fun v9=>(ag .o .add jr v9).bind fun v10=>(ag .o .add Bz aZ).bind fun v11=>(bE .u32 v10).bind fun v12=>(aI none aN v11).bind fun bg=>(aP none m bg v12).bind fun m14=>(ag .o .shr v10 (.U 32)).bind fun bh=>(ag .o .add Bz (.I 1)).bind fun bK=>Ie x9 aN aX aS aY aZ c9 bh LR bK m14 K) (K (.exit 7) (NP x9 aN aX aS aY aZ c9 jr m)):=
(bX (bQ _) _ _ _).trans au
theorem Ui:D3 x9 aN aY ji GV vG m K=(ag .o .lss vG GV).bind fun v1=>aB v1 ((aI none aN vG).bind fun v2=>(aj none m v2).bind fun v3=>(ag .o .shr v3 x9).bind fun v4=>(aI none ji vG).bind fun v5=>(aP none m v5 v4).bind fun m6=>(ag .o .gtr x9 (.U 0)).bind fun v7=>aB v7 ((aI none ji vG).bind fun v8=>(aj none m6 v8).bind fun v9=>(ag .o .add vG (.I 1)).bind fun v10=>(aI none aN v10).bind fun v11=>(aj none m6 v11).bind fun v12=>(ag .o .sub (.U 32) x9).bind fun bg=>(ag .o .shl v12 bg).bind fun bf=>(ag .o .or v9 bf).bind fun bh=>(aI none ji vG).bind fun bK=>(aP none m6 bK bh).bind fun m17=>(ag .o .add vG (.I 1)).bind fun cV=>D3 x9 aN aY ji GV cV m17 K) ((ag .o .add vG (.I 1)).bind fun cP=>D3 x9 aN aY ji GV cP m6 K)) (K (.exit 9) (NQ aY ji m)):=
(bX (bQ _) _ _ _).trans au
theorem qgK:MF (aH f187) (.exit 1) (NN x9 aN aS aY m)=(jy none 161 none (.int .u32 0) 4 m aS aS).bind fun r1=>D3 x9 aN aY r1.1 aS (.I 0) r1.2 (MJ (aH f187)):=au
theorem qgP:MG K (.exit 3) (zO x9 aN aX aS aY aZ c9 m)=D2 x9 aN aX aS aY aZ c9 (.U 0) (.U 0) aS (.I 0) m (MH K):=au
theorem qg3:MJ (aH f187) (.exit 9) (NQ aY ji m)=(aF (AP af) none m 164 [aY]).bind fun r1=>(aF (AP af) none r1.2 164 [ji]).bind fun r2=>some ((.tup [r1.1,r2.1,(.I 0)]),r2.2):=au
theorem qgU:MH K (.exit 5) (NO x9 aN aX aS aY aZ c9 fF jr m)=(ag .o .add jr fF).bind fun v1=>(ag .o .add aZ aS).bind fun v2=>(aI none aN v2).bind fun v3=>(aj none m v3).bind fun v4=>(bE .u64 v4).bind fun v5=>(ag .o .lss v5 v1).bind fun v6=>(ag .o .add aZ aS).bind fun v7=>(ag .o .add aZ aS).bind fun v8=>(aI none aN v8).bind fun v9=>(aj none m v9).bind fun v10=>(bE .u64 v10).bind fun v11=>(ag .o .sub v11 v1).bind fun v12=>(bE .u32 v12).bind fun bg=>(aI none aN v7).bind fun bf=>(aP none m bf bg).bind fun m15=>aB v6 ((ag .o .sub c9 (.U 1)).bind fun bK=>Ie x9 aN aX aS aY aZ bK (.U 0) aS (.I 0) m15 (MI K)) ((bE .u32 c9).bind fun bH=>(aI none aY aZ).bind fun cV=>(aP none m15 cV bH).bind fun m19=>(ag .o .sub aZ (.I 1)).bind fun v20=>D1 x9 aN aX aS aY v20 m19 K):=au
theorem qg0:MI K (.exit 7) (NP x9 aN aX aS aY aZ c9 jr m)=(ag .o .add aZ aS).bind fun v1=>(aI none aN v1).bind fun v2=>(aj none m v2).bind fun v3=>(bE .u32 jr).bind fun v4=>(ag .o .add v3 v4).bind fun v5=>(aI none aN v1).bind fun v6=>(aP none m v6 v5).bind fun m7=>(bE .u32 c9).bind fun v8=>(aI none aY aZ).bind fun v9=>(aP none m7 v9 v8).bind fun m10=>(ag .o .sub aZ (.I 1)).bind fun v11=>D1 x9 aN aX aS aY v11 m10 K:=au
def NU:St:=⟨(aO (aK (x6::x7::bC (aK (aJ []))))),m⟩
def Ij:OM:=bY 202 (b8 (c2 (c2 (c2 (aE f202))))) 4 (x0::x1::aO (x6::x7::x8::bC (aK []))) m K
abbrev qhg:KT:=bI 202 (bG (aE f202)) K
abbrev qhh:KT:=bw 0 (qhg K)
abbrev MN:KT:=(qhh K)
theorem qku:AC af 202 [a0,a1] m=(aM false a0).bind fun v1=>(jy none 161 none (.int .u32 0) 4 m v1 v1).bind fun r2=>(aM false a0).bind fun v3=>(ag .o .sub v3 (.I 1)).bind fun v4=>Ij a0 a1 r2.1 (.U 0) v4 r2.2 (MN (aH f202)):=
(bm af 202 [a0,a1] m (fn:=f202) (c:=aE f202) qnm rfl).trans au
theorem Um:Ij x0 x1 x6 x7 x8 m K=(ag .o .geq x8 (.I 0)).bind fun v1=>aB v1 ((ag .o .shl x7 (.U 32)).bind fun v2=>(aI none x0 x8).bind fun v3=>(aj none m v3).bind fun v4=>(bE .u64 v4).bind fun v5=>(ag .o .or v2 v5).bind fun v6=>(bE .u64 x1).bind fun v7=>(ag .o .quo v6 v7).bind fun v8=>(bE .u32 v8).bind fun v9=>(aI none x6 x8).bind fun v10=>(aP none m v10 v9).bind fun m11=>(bE .u64 x1).bind fun v12=>(ag .o .rem v6 v12).bind fun bg=>(ag .o .sub x8 (.I 1)).bind fun bf=>Ij x0 x1 x6 bg bf m11 K) (K (.exit 0) (NU x6 x7 m)):=
(bX (bQ _) _ _ _).trans au
theorem qhi:MN (aH f202) (.exit 0) (NU x6 x7 m)=(aF (AP af) none m 164 [x6]).bind fun r1=>(bE .u32 x7).bind fun v2=>some ((.tup [r1.1,v2]),r1.2):=au
theorem qkv:AC af 203 [a0] m=(aF (AP af) none m 199 [a0]).bind fun r1=>(ag .o .sub (.I 32) r1.1).bind fun v2=>some (v2,r1.2):=
(bm af 203 [a0] m (fn:=f203) (c:=aE f203) qnn rfl).trans au
def NW:St:=⟨(aO (aJ (x5::bC (aK [])))),m⟩
def Ik:OM:=bY 204 (b8 (c2 (c2 (aE f204)))) 3 (aJ (x1::aK (aJ (x5::aO (aK (aS::aY::aZ::br (aV (aJ [])))))))) m K
abbrev qhj:KT:=bI 204 (c2 (c2 (c2 (aE f204)))) K
abbrev qhk:KT:=bw 0 (qhj K)
abbrev S9:KT:=(qhk K)
theorem qkw:AC af 204 [a0,a1] m=(aM false a0).bind fun v1=>(ag .o .add v1 (.I 1)).bind fun v2=>(jy none 161 none (.int .u32 0) 4 m v2 v2).bind fun r3=>(aM false a0).bind fun v4=>Ik a1 r3.1 a0 v4 (.I 0) r3.2 (S9 (aH f204)):=
(bm af 204 [a0,a1] m (fn:=f204) (c:=aE f204) qno rfl).trans au
theorem Un:Ik x1 x5 aS aY aZ m K=(ag .o .lss aZ aY).bind fun v1=>aB v1 ((aI none aS aZ).bind fun v2=>(aj none m v2).bind fun v3=>(aI none x5 aZ).bind fun v4=>(aj none m v4).bind fun v5=>(ag .o .shl v3 x1).bind fun v6=>(ag .o .or v5 v6).bind fun v7=>(aI none x5 aZ).bind fun v8=>(aP none m v8 v7).bind fun m9=>(ag .o .add aZ (.I 1)).bind fun v10=>(bE .u64 v3).bind fun v11=>(ag .o .shl v11 x1).bind fun v12=>(ag .o .shr v12 (.U 32)).bind fun bg=>(bE .u32 bg).bind fun bf=>(aI none x5 v10).bind fun bh=>(aP none m9 bh bf).bind fun m16=>(ag .o .add aZ (.I 1)).bind fun bH=>Ik x1 x5 aS aY bH m16 K) (K (.exit 0) (NW x5 m)):=
(bX (bQ _) _ _ _).trans au
theorem qhl:S9 (aH f204) (.exit 0) (NW x5 m)=some (x5,m):=au
theorem qkr:AC af 199 [a0] m=(ag .o .geq a0 (.int .u32 65536)).bind fun v1=>aB v1 ((ag .o .shr a0 (.U 16)).bind fun v2=>(ag .o .geq v2 (.int .u32 256)).bind fun v3=>aB v3 ((ag .o .shr v2 (.U 8)).bind fun v4=>(ag .o .add (.I 16) (.I 8)).bind fun v5=>(bE .u8 v4).bind fun v6=>(tY (.str Dr) v6).bind fun v7=>(bE .i64 v7).bind fun v8=>(ag .o .add v5 v8).bind fun v9=>some (v9,m)) ((bE .u8 v2).bind fun v10=>(tY (.str Dr) v10).bind fun v11=>(bE .i64 v11).bind fun v12=>(ag .o .add (.I 16) v12).bind fun bg=>some (bg,m))) ((ag .o .geq a0 (.int .u32 256)).bind fun bf=>aB bf ((ag .o .shr a0 (.U 8)).bind fun bh=>(ag .o .add (.I 0) (.I 8)).bind fun bK=>(bE .u8 bh).bind fun bH=>(tY (.str Dr) bH).bind fun cV=>(bE .i64 cV).bind fun cP=>(ag .o .add bK cP).bind fun v20=>some (v20,m)) ((bE .u8 a0).bind fun v21=>(tY (.str Dr) v21).bind fun v22=>(bE .i64 v22).bind fun v23=>(ag .o .add (.I 0) v23).bind fun v24=>some (v24,m))):=
(bm af 199 [a0] m (fn:=f199) (c:=aE f199) qnj rfl).trans au
end
end Go.Ab
namespace Go.Ab
open Go.Proofs.Tryz
theorem qjd(x:NV)(m:ai)(K:KT):∀n:Nat,n<=x.ds.length->x.ds.length<2^62->H5 x.av (.I n) m K=K (.exit 0) (IJ x.av (.I (mR x.ds n)) m):=by
 intro n
 induction n with
 | zero=>
  intro _ _;rw[TP];simp[gE,aB,mR]
 | succ n ih=>
  intro hn hl;have ih:=ih aa hl;rw[TP];have h1:((n+1:Nat):Int)>0:=aa;have h2:IntKind.wrap .i64 (((n+1:Nat):Int)-1)=n:=by rw[iV]<;>omega
  simp only[gE,ae,aC,aq h1,pz,h2];rw[NV.av,vh aa aa];simp only[ae,gP,dg,iK,aC,cU];rw[mR]
  by_cases h:x.ds.getD n 0=0
  .rw[aq aa,aq h];exact ih
  .rw[an aa,an h]
theorem qkf(x:NV)(m:ai)(hl:x.ds.length<2^62):AC af 164 [x.av] m=some (NV.av ⟨x.z,.no,tr x.ds⟩,m):=by
 rw[qke];simp only[NV.av,qy,ae,bu];have:=qjd x m (Mu (aH f164)) x.ds.length (aR _) hl;rw[NV.av] at this;rw[this,qfH,qco aa (by have:=Gz x.ds x.ds.length;omega)];simp[tr]
theorem sv(x:NV)(hl:x.ds.length<2^62):AP af 164 [x.av]=some (NV.av ⟨x.z,.no,tr x.ds⟩):=
 iW (qkf x [] hl) (cX _ _) (by simp[qC])
theorem qjb(x y:NV)(m:ai)(K:KT)(hl:x.ds.length<2^62):∀n:Nat,n<=x.ds.length->n<=y.ds.length ->
  HU x.av y.av (.I ((n:Int)-1)) m K=if nL x.ds y.ds n=0 then K (.exit 1) (Nq m) else K .ret (IW (.I (nL x.ds y.ds n)) m):=by
 intro n
 induction n with
 | zero=>
  intro _ _;rw[TB];simp[ki,aB,nL]
 | succ n ih=>
  intro hx hy;have ih:=ih aa aa;rw[TB];have h1:((n+1:Nat):Int)-1=n:=aa;have h0:(n:Int)≥0:=aa;have h2:IntKind.wrap .i64 ((n:Int)-1)=(n:Int)-1:=by rw[iV]<;>omega
  simp only[h1,ki,ae,aC,aq h0];simp only[NV.av] at ih ⊢;rw[vh aa aa,vh aa aa];simp only[ae,gP,dg,bz,gE,aC,cU,pz,h2];rw[nL]
  by_cases h:x.ds.getD n 0<y.ds.getD n 0
  .rw[aq aa,aq h]
   rfl
  .rw[an aa,an h]
   by_cases h':x.ds.getD n 0>y.ds.getD n 0
   .rw[aq aa,aq h']
    rfl
   .rw[an aa,an h'];exact ih
theorem qjV(x y:NV)(m:ai)(hx:x.ds.length<2^62)(hy:y.ds.length<2^62):AC af 131 [x.av,y.av] m=some (.I (wo (tr x.ds) (tr y.ds)),m):=by
 have ha:(tr x.ds).length<2^62:=by simp only[tr,im];omega
 rw[qjU,cI (cX x),sv x.fr hx];simp only[aQ,ae,cI (cX y),sv y.fr hy];simp only[NV.av,qy,bu,ae,bz,gE,aC,pz,NV.fr];unfold wo
 by_cases h:(tr x.ds).length<(tr y.ds).length
 .rw[aq aa,aq h]
 .rw[an aa,an h]
  by_cases h':(tr x.ds).length>(tr y.ds).length
  .rw[aq aa,aq h']
  .rw[an aa,an h',iV aa aa];have:=qjb ⟨x.z,.no,tr x.ds⟩ ⟨y.z,.no,tr y.ds⟩ m (Hd (aH f131)) ha (tr x.ds).length (aR _) (by simp only;omega);simp only[NV.av] at this;rw[this,qeT,qeS]
   split
   .rename_i h0;rw[h0]
   .rfl
theorem qjo(x y:NV)(hx:x.ds.length<2^62)(hy:y.ds.length<2^62):AP af 131 [x.av,y.av]=some (.I (wo (tr x.ds) (tr y.ds))):=
 iW (qjV x y [] hx hy) (gJ _ _ _) (by simp[jo])
theorem Tz(x y:NV)(m:ai)(K:KT)(hl:x.ds.length<2^40)(hy:y.ds.length<=x.ds.length)(dx:Dg x.ds)(dy:Dg y.ds):∀j i:Nat,i+j=x.ds.length ->
  BL y.av (.lst none false (.tok m.length 161) ((de x.ds y.ds i).1.map dg)) (.U (de x.ds y.ds i).2) x.av (.I x.ds.length) (.I i) (o9 m i) K
   = K (.exit 0) (IH (.lst none false (.tok m.length 161) ((de x.ds y.ds x.ds.length).1.map dg)) (.U (de x.ds y.ds x.ds.length).2) (o9 m x.ds.length)):=by
 intro j
 induction j with
 | zero=>
  intro i hi;have:i=x.ds.length:=aa;subst this;rw[TA];simp[bz,aB]
 | succ j ih=>
  intro i hi;have ih:=ih (i+1) aa;have hc:=zY dx dy i;have h1:=dx i;have h2:=dy i;rw[TA];have gu:((i:Nat):Int)<(x.ds.length:Int):=aa;have hw:IntKind.wrap .i64 ((i:Int)+1)=((i+1:Nat):Int):=by rw[iV]<;>omega
  simp only[bz,ae,aC,aq gu];simp only[NV.av] at ih ⊢
  have n8:aI none (.lst none x.z x.o (x.ds.map dg)) (.I i)=some (.vptr [dg (x.ds.getD i 0)]):=by
   rw[vh aa aa];simp
  rw[n8];have e1:IntKind.wrap .u64 ((x.ds.getD i 0:Nat):Int)=(x.ds.getD i 0:Nat):=by rw[jO]<;>omega
  have e2:IntKind.wrap .u64 (((de x.ds y.ds i).2:Int)+(x.ds.getD i 0:Nat))=(((de x.ds y.ds i).2+x.ds.getD i 0:Nat):Int):=by rw[jO]<;>omega
  simp only[ae,gP,dg,mX,e1,l9,e2,qy,bu,bz,aC,hw]
  have fin:∀s:Nat,s=(de x.ds y.ds i).2+x.ds.getD i 0+y.ds.getD i 0->(bL none false 161 none 4 (o9 m i) (.lst none false (.tok m.length 161) ((de x.ds y.ds i).1.map dg)) (.lst none false .full [.int .u32 (IntKind.wrap .u32 s)]))=some (.lst none false (.tok m.length 161) ((de x.ds y.ds (i+1)).1.map dg),o9 m (i+1)):=by
   intro s hs;have hlen:((de x.ds y.ds i).1.map dg).length=i:=by rw[bu,xW]
   have:=EJ (e:=161) (b:=4) (m:=m) (es:=(de x.ds y.ds i).1.map dg) (z:=false) (o:=.full) (y:=.int .u32 (IntKind.wrap .u32 s)) (by rw[hlen];simp only[ft];omega);rw[hlen] at this;rw[this];congr 3;simp only[de,iH,gh,sk,dg,zi,<- hs]
   rfl
  by_cases h:(i:Int)<(y.ds.length:Int)
  .rw[aq h]
   have qqh:aI none (.lst none y.z y.o (y.ds.map dg)) (.I i)=some (.vptr [dg (y.ds.getD i 0)]):=by
    rw[vh aa aa];simp
   have e3:IntKind.wrap .u64 ((y.ds.getD i 0:Nat):Int)=(y.ds.getD i 0:Nat):=by rw[jO]<;>omega
   have e4:IntKind.wrap .u64 ((((de x.ds y.ds i).2+x.ds.getD i 0:Nat):Int)+(y.ds.getD i 0:Nat))=(((de x.ds y.ds i).2+x.ds.getD i 0+y.ds.getD i 0:Nat):Int):=by rw[jO]<;>omega
   have Y6:=qqh;simp only[dg] at Y6;rw[Y6];simp only[ae,gP,mX,e3,l9,e4,qM];have f:=fin _ rfl;rw[f];simp only[ae,EK _ _ _ (tb _),hw];exact ih
  .rw[an h]
   have h0:y.ds.getD i 0=0:=by
    rw[aT,pk aa];rfl
   simp only[ae,mX,qM];have f:=fin ((de x.ds y.ds i).2+x.ds.getD i 0) aa;rw[f];simp only[ae,EK _ _ _ (tb _),l9,hw];have:(de x.ds y.ds (i+1)).2=((de x.ds y.ds i).2+x.ds.getD i 0)/4294967296:=by simp only[de,h0,kU]
   rw[this] at ih;exact ih
theorem SZ(a b:List Nat)(m:ai)(hl:a.length<2^40)(da:Dg a)(db:Dg b):BH (aH f130) (.exit 0) (IH (.lst none false (.tok m.length 161) ((de a b a.length).1.map dg)) (.U (de a b a.length).2) (o9 m a.length))=some (NV.av ⟨false,.no,EG a b⟩,o9 m (a.length+1)):=by
 have hc:=zY da db a.length;have hlen:((de a b a.length).1.map dg).length=a.length:=by rw[bu,xW]
 rw[qeP];simp only[mX,ae,qM,By (tb _) (by omega:(((de a b a.length).2:Nat):Int)<4294967296)];have:=EJ (e:=161) (b:=4) (m:=m) (es:=(de a b a.length).1.map dg) (z:=false) (o:=.full) (y:=.int .u32 (de a b a.length).2) (by rw[hlen];simp only[ft];omega);rw[hlen] at this;rw[this];simp only[ae];have e:(AV.lst none false (.tok m.length 161) ((de a b a.length).1.map dg++[.int .u32 (de a b a.length).2]))=NV.av ⟨false,.tok m.length 161,(de a b a.length).1++[(de a b a.length).2]⟩:=by simp[NV.av,dg]
 rw[e,cI (cX _),sv _ (by simp only[NV.fr,aW,xW,ba,bo];omega)]
 rfl
theorem qjT(x y:NV)(m:ai)(hx:x.ds.length<2^40)(hy:y.ds.length<2^40)(dx:Dg x.ds)(dy:Dg y.ds):∃m',AC af 130 [x.av,y.av] m=some (NV.av ⟨false,.no,Cc (tr x.ds) (tr y.ds)⟩,m'):=by
 have iP:=Dt x.ds;have AY:=Dt y.ds;have dx':=uk dx;have dy':=uk dy;rw[qjS,cI (cX x),sv x.fr (by simp only[NV.fr];omega)];simp only[aQ,ae,cI (cX y),sv y.fr (by simp only[NV.fr];omega)];simp only[NV.av,qy,bu,ae,bz,aC,l9,NV.fr];unfold Cc
 by_cases h:(tr x.ds).length<(tr y.ds).length
 .rw[aq aa,aq h,iV aa aa,qaG aa aa aa];simp only[ae];have:=Tz ⟨y.z,.no,tr y.ds⟩ ⟨x.z,.no,tr x.ds⟩ m (BH (aH f130)) (by simp only;omega) (by simp only;omega) dy' dx' (tr y.ds).length 0 aA;simp only[NV.av,de,sk] at this;refine ⟨_,this.trans (SZ (tr y.ds) (tr x.ds) m aa dy' dx')⟩
 .rw[an aa,an h,iV aa aa,qaG aa aa aa];simp only[ae];have:=Tz ⟨x.z,.no,tr x.ds⟩ ⟨y.z,.no,tr y.ds⟩ m (BH (aH f130)) (by simp only;omega) (by simp only;omega) dx' dy' (tr x.ds).length 0 aA;simp only[NV.av,de,sk] at this;refine ⟨_,this.trans (SZ (tr x.ds) (tr y.ds) m aa dx' dy')⟩
theorem qjn(x y:NV)(hx:x.ds.length<2^40)(hy:y.ds.length<2^40)(dx:Dg x.ds)(dy:Dg y.ds):AP af 130 [x.av,y.av]=some (NV.av ⟨false,.no,Cc (tr x.ds) (tr y.ds)⟩):=by
 obtain ⟨m',h⟩:=qjT x y [] hx hy dx dy;exact iW h (cX _ _) (by simp[qC])
theorem qja(y:NV)(m:ai)(K:KT)(x i n:Nat)(s:List Nat×Nat)(v21 v22 v23:AV)(hl:n<2^42)(hn:s.1.length=n)(hi:i+y.ds.length<=n)(dy:Dg y.ds)(hx:x<4294967296)(hs:Dg s.1)(hc:s.2<4294967296):∀j k:Nat,k+j=y.ds.length ->
  HS y.av (.arr m.length 0 n none) (.I i) (dg x) (.U (ir y.ds x i k s).2) v21 v22 v23 y.av (.I y.ds.length) (.I k) (oC m (ir y.ds x i k s).1) K
   = K (.exit 2) (Np y.av (.arr m.length 0 n none) (.I i) (.U (ir y.ds x i y.ds.length s).2) v21 v22 v23 (oC m (ir y.ds x i y.ds.length s).1)):=by
 intro j
 induction j with
 | zero=>
  intro k hk;have:k=y.ds.length:=aa;subst this;rw[Tv];simp[bz,aB]
 | succ j ih=>
  intro k hk;have ih:=ih (k+1) aa;obtain ⟨h1,h2⟩:=C2 (i:=i) dy hx hs hc k;have h3:=h1 (i+k);have h4:=dy k;have h5:x*y.ds.getD k 0<=4294967295*4294967295:=ti aa aa;have hlen:=yT y.ds x i s k;rw[Tv];have ck:((k:Nat):Int)<(y.ds.length:Int):=aa;have hw:IntKind.wrap .i64 ((k:Int)+1)=((k+1:Nat):Int):=by rw[iV]<;>omega
  have Kp:IntKind.wrap .i64 ((i:Int)+k)=((i+k:Nat):Int):=by rw[iV]<;>omega
  simp only[bz,ae,aC,aq ck]
  have n8:aI none y.av (.I k)=some (.vptr [dg (y.ds.getD k 0)]):=by
   rw[NV.av,vh aa aa];simp
  rw[n8];simp only[ae,gP,l9,Kp];rw[gF aa,ae,qrI aa];have e1:IntKind.wrap .u64 (((ir y.ds x i k s).1.getD (i+k) 0:Nat):Int)=((ir y.ds x i k s).1.getD (i+k) 0:Nat):=by rw[jO]<;>omega
  have e2:IntKind.wrap .u64 ((x:Nat):Int)=x:=by rw[jO]<;>omega
  have e3:IntKind.wrap .u64 ((y.ds.getD k 0:Nat):Int)=(y.ds.getD k 0:Nat):=by rw[jO]<;>omega
  have e4:IntKind.wrap .u64 ((x:Int)*(y.ds.getD k 0:Nat))=((x*y.ds.getD k 0:Nat):Int):=by rw[<- ta,jO]<;>omega
  have e5:IntKind.wrap .u64 ((((ir y.ds x i k s).1.getD (i+k) 0:Nat):Int)+(x*y.ds.getD k 0:Nat))=(((ir y.ds x i k s).1.getD (i+k) 0+x*y.ds.getD k 0:Nat):Int):=by rw[jO]<;>omega
  have e6:IntKind.wrap .u64 (((ir y.ds x i k s).2:Int)+((ir y.ds x i k s).1.getD (i+k) 0+x*y.ds.getD k 0:Nat))=(((ir y.ds x i k s).2+((ir y.ds x i k s).1.getD (i+k) 0+x*y.ds.getD k 0):Nat):Int):=by rw[jO]<;>omega
  have e7:IntKind.wrap .u32 (((ir y.ds x i k s).2+((ir y.ds x i k s).1.getD (i+k) 0+x*y.ds.getD k 0):Nat):Int)=((((ir y.ds x i k s).2+((ir y.ds x i k s).1.getD (i+k) 0+x*y.ds.getD k 0))%4294967296:Nat):Int):=by rw[zi];rfl
  simp only[dg,ae,mX,e1,e2,e3,xZ,e4,e5,e6,e7,l9,Kp];rw[Dm aa];simp only[ae,EK _ _ _ (tb _),hw];exact ih
theorem qi9(x y:NV)(m:ai)(K:KT)(hx:x.ds.length<2^40)(hy:y.ds.length<2^40)(dx:Dg x.ds)(dy:Dg y.ds):∀j i:Nat,i+j=x.ds.length ->
  HR y.av (.arr m.length 0 (x.ds.length+y.ds.length) none) x.av (.I x.ds.length) (.I i) (oC m (jf x.ds y.ds i)) K
   = K (.exit 0) (No (.arr m.length 0 (x.ds.length+y.ds.length) none) (oC m (jf x.ds y.ds x.ds.length))):=by
 intro j
 induction j with
 | zero=>
  intro i hi;have:i=x.ds.length:=aa;subst this;rw[Tu];simp[bz,aB]
 | succ j ih=>
  intro i hi;have ih:=ih (i+1) aa;rw[Tu];have gu:((i:Nat):Int)<(x.ds.length:Int):=aa;have hw:IntKind.wrap .i64 ((i:Int)+1)=((i+1:Nat):Int):=by rw[iV]<;>omega
  have Kp:IntKind.wrap .i64 ((i:Int)+y.ds.length)=((i+y.ds.length:Nat):Int):=by rw[iV]<;>omega
  simp only[bz,ae,aC,aq gu]
  have n8:aI none x.av (.I i)=some (.vptr [dg (x.ds.getD i 0)]):=by
   rw[NV.av,vh aa aa];simp
  have hlen:aM false y.av=some (.I y.ds.length):=by simp[NV.av,aM]
  rw[n8];simp only[ae,gP,hlen];have hb:=qja y m (Mn K) (x.ds.getD i 0) i (x.ds.length+y.ds.length) (jf x.ds y.ds i,0) x.av (.I x.ds.length) (.I i) aa (yS ..) aa dy (dx i) (A6 dx dy i) aA y.ds.length 0 aa;simp only[ir] at hb;refine hb.trans ?_;obtain ⟨h1,h2⟩:=C2 (i:=i) (s:=(jf x.ds y.ds i,0)) dy (dx i) (A6 dx dy i) aA y.ds.length;have hl:=yT y.ds (x.ds.getD i 0) i (jf x.ds y.ds i,0) y.ds.length;simp only[yS] at hl;rw[qeI];simp only[hlen,ae,l9,Kp,mX,By (tb _) (by omega:(((ir y.ds (x.ds.getD i 0) i y.ds.length (jf x.ds y.ds i,0)).2:Nat):Int)<4294967296)];rw[gF aa,ae,Dm aa];simp only[ae,hw];exact ih
theorem qjP(x y:NV)(m:ai)(hx:x.ds.length<2^40)(hy:y.ds.length<2^40)(dx:Dg x.ds)(dy:Dg y.ds):AC af 127 [x.av,y.av] m=some (NV.av ⟨false,.no,Gc (tr x.ds) (tr y.ds)⟩,m++[none]):=by
 have iP:=Dt x.ds;have AY:=Dt y.ds;rw[qjO,cI (cX x),sv x.fr (by simp only[NV.fr];omega)];simp only[aQ,ae,cI (cX y),sv y.fr (by simp only[NV.fr];omega)];have hl:∀x:NV,aM false x.av=some (.I x.ds.length):=fun x=>by simp[NV.av,aM]
 have hw:IntKind.wrap .i64 (((tr x.ds).length:Int)+(tr y.ds).length)=(((tr x.ds).length+(tr y.ds).length:Nat):Int):=by rw[iV]<;>omega
 simp only[hl,ae,l9,NV.fr,hw];rw[qaF aa aa];simp only[ae];have:=qi9 ⟨x.z,.no,tr x.ds⟩ ⟨y.z,.no,tr y.ds⟩ m (Mm (aH f127)) (by simp only;omega) (by simp only;omega) (uk dx) (uk dy) (tr x.ds).length 0 aA;refine this.trans ?_;rw[qeD];have hlen:=yS (tr x.ds) (tr y.ds) (tr x.ds).length;have hp:=qsN (cp:=AP af) (m:=m) (g:=164) (ds:=jf (tr x.ds) (tr y.ds) (tr x.ds).length);rw[hlen] at hp;rw[hp];have:=sv ⟨false,.no,jf (tr x.ds) (tr y.ds) (tr x.ds).length⟩ (by simp only[hlen];omega);simp only[NV.av] at this;rw[this]
 rfl
theorem qjm(x y:NV)(hx:x.ds.length<2^40)(hy:y.ds.length<2^40)(dx:Dg x.ds)(dy:Dg y.ds):AP af 127 [x.av,y.av]=some (NV.av ⟨false,.no,Gc (tr x.ds) (tr y.ds)⟩):=
 iW (qjP x y [] hx hy dx dy) (cX _ _) (by simp[qC])
def NV.ok(x:NV):Prop:=x.z=true->x.ds=[]
def uM(x:NV):NV:=⟨x.z,if x.ds=[] then .full else .no,x.ds⟩
theorem U5(x:NV)(hz:x.ok)(hx:x.ds.length<2^40):AP af 163 [x.av]=some (uM x).av:=by
 have h0:ag .sl .eql x.av aD=some (.bool x.z):=rfl;obtain ⟨z,o,ds⟩:=x
 cases z with
 | true=>
  have:ds=[]:=hz rfl;subst this;refine iW (v:=NV.av ⟨true,.full,[]⟩) (m:=[]) ?_ (cX _ _) (by simp[qC]);rw[Ox,h0]
  rfl
 | false=>
  cases ds with
  | nil=>
   refine iW (v:=NV.av ⟨false,.full,[]⟩) (m:=[]) ?_ (cX _ _) (by simp[qC]);rw[Ox,h0]
   rfl
  | cons d ds=>
   refine iW (v:=NV.av ⟨false,.tok 0 161,d::ds⟩) (m:=[some (.tok (d::ds).length 1)]) ?_ (cX _ _) (by simp[qC]);rw[Ox,h0];have hl:(ds.length+1)*4<=140737488355328:=by simp only[ba] at hx;omega
   simp only[ae,aB,df,List.all_nil,bJ,sk,NV.av,gh,bL,bo,ba,bu,bq,ft,hl,true_or,jJ,lp,az,bF,Sh.size]
theorem qoM(x:NV):(uM x).fr=uM x:=by
 unfold uM NV.fr;simp only[];split<;>rfl
theorem qpA(x:NV):Fz (uM x).av (uM x).av:=by
 have:=cX (uM x)
 rwa [qoM] at this
def Rh(n:Nat):List Nat:=tr [n%4294967296,n/4294967296]
theorem qjl(n:Nat)(hn:n<18446744073709551616):AP af 123 [.U n]=some (uM ⟨false,.no,Rh n⟩).av:=by
 have e1:IntKind.wrap .u32 (n:Int)=((n%4294967296:Nat):Int):=by rw[zi];rfl
 have e2:IntKind.wrap .u32 ((n:Int)/4294967296)=((n/4294967296:Nat):Int):=by rw[By]<;>omega
 have hb:df none [.int .u32 ((n%4294967296:Nat):Int),.int .u32 ((n/4294967296:Nat):Int)]=some (NV.av ⟨false,.full,[n%4294967296,n/4294967296]⟩):=rfl;have hl:(tr [n%4294967296,n/4294967296]).length<=2:=Dt _;refine iW (m:=[]) ?_ (qpA _ _) (by simp[qC]);rw[qjM];simp only[mX,ae,e1,EK _ _ _ (tb _),e2,hb];rw[cI (cX _),sv _ (by simp[NV.fr])];simp only[aQ,ae];rw[cI (cX _),U5 _ (by simp[NV.ok,NV.fr]) (by simp only[NV.fr];omega)]
 rfl
def y2(a:List Nat):Bool:=decide (a.length=0)||decide (a.getD (a.length-1) 0≠0)
theorem qjp(x:NV)(hx:x.ds.length<2^40):AP af 181 [x.av]=some (.bool (y2 x.ds)):=by
 refine iW (m:=[]) ?_ (km _ _) (by simp[jo]);have hl:aM false x.av=some (.I x.ds.length):=by simp[NV.av,aM]
 rw[qkl];simp only[hl,ae,iK,aC]
 by_cases h:x.ds.length=0
 .rw[aq aa];simp[y2,h]
 .rw[an aa];have hw:IntKind.wrap .i64 ((x.ds.length:Int)-1)=((x.ds.length-1:Nat):Int):=by rw[iV]<;>omega
  simp only[pz,ae,hw]
  have n8:aI none x.av (.I ((x.ds.length-1:Nat):Int))=some (.vptr [dg (x.ds.getD (x.ds.length-1) 0)]):=by
   rw[NV.av,vh aa aa];simp
  rw[n8];simp only[ae,gP,dg,gm];congr 2;simp only[y2,h,decide_false,uu,AV.bool.injEq,jm];omega
def uh(a:List Nat):AV:=match a with
 | []=>.tup [.U 0,.bool true]
 | [d]=>.tup [.U d,.bool true]
 | [d,e]=>.tup [.U (d+e*4294967296:Nat),.bool true]
 | _=>.tup [.U 0,.bool false]
theorem JR(a:List Nat):Fz (uh a) (uh a)/\jo (uh a)=true:=by
 unfold uh;split<;>exact ⟨fun _=>rfl,rfl⟩
theorem qjq(x:NV)(hx:x.ds.length<2^40)(dx:Dg x.ds):AP af 182 [x.av]=some (uh (tr x.ds)):=by
 refine iW (m:=[]) ?_ ((JR _).1 _) (by simp[(JR _).2]);have hl:∀x:NV,aM false x.av=some (.I x.ds.length):=fun x=>by simp[NV.av,aM]
 rw[qkm,cI (cX x),sv x.fr (by simp only[NV.fr];omega)];have dt:=uk dx;simp only[aQ,ae,hl,iK,aC,NV.fr];generalize tr x.ds=a at dt
 match a,dt with
 | [],_=>rfl
 | [d],dt=>
  have h0:=dt 0;simp only[qk] at h0;rw[an aA,aq aA];simp only[NV.av];rw[show aI none (.lst none x.z .no ([d].map dg)) (.I 0)=some (.vptr [dg d]) from rfl];simp only[ae,gP,dg,mX,jO (tb d) aa]
  rfl
 | [d,e],dt=>
  have h0:=dt 0;have h1:=dt 1;simp only[qk,zH] at h0 h1;rw[an aA,an aA,aq aA];simp only[NV.av];rw[show aI none (.lst none x.z .no ([d,e].map dg)) (.I 0)=some (.vptr [dg d]) from rfl,show aI none (.lst none x.z .no ([d,e].map dg)) (.I 1)=some (.vptr [dg e]) from rfl];simp only[ae,gP,dg,mX,jO (tb d) aa,jO (tb e) aa,Xa _ _ e h1,qom _ d e h0 h1]
  rfl
 | d::e::f::l,_=>
  rw[an (by simp only[ba];omega),an (by simp only[ba];omega),an (by simp only[ba];omega)]
  rfl
theorem qjc(x y:NV)(m:ai)(K:KT)(hl:x.ds.length<2^40)(dx:Dg x.ds)(dy:Dg y.ds):∀j i:Nat,i+j=x.ds.length ->
  zE y.av (.arr m.length 0 x.ds.length none) (.U (gY x.ds y.ds i).2) x.av (.I x.ds.length) (.I i) (oC m (gY x.ds y.ds i).1) K
   = K (.exit 0) (Nr (.arr m.length 0 x.ds.length none) (oC m (gY x.ds y.ds x.ds.length).1)):=by
 intro j
 induction j with
 | zero=>
  intro i hi;have:i=x.ds.length:=aa;subst this;rw[TC];simp[bz,aB]
 | succ j ih=>
  intro i hi;have ih:=ih (i+1) aa;have hc:=Lx x.ds y.ds i;have hlen:=Dq x.ds y.ds i;have h1:=dx i;have h2:=dy i;rw[TC];have gu:((i:Nat):Int)<(x.ds.length:Int):=aa;have hw:IntKind.wrap .i64 ((i:Int)+1)=((i+1:Nat):Int):=by rw[iV]<;>omega
  have e1:IntKind.wrap .u64 ((x.ds.getD i 0:Nat):Int)=(x.ds.getD i 0:Nat):=by rw[jO]<;>omega
  have e2:IntKind.wrap .u64 ((y.ds.getD i 0:Nat):Int)=(y.ds.getD i 0:Nat):=by rw[jO]<;>omega
  have e3:IntKind.wrap .u64 (((gY x.ds y.ds i).2:Int)+(y.ds.getD i 0:Nat))=(((gY x.ds y.ds i).2+y.ds.getD i 0:Nat):Int):=by rw[jO]<;>omega
  have s1:ag .o .shl (.U 1) (.U 32)=some (.U 4294967296):=rfl;have s0:ag .o .shl (.U 0) (.U 32)=some (.U 0):=rfl;simp only[bz,ae,aC,aq gu,nk (by omega:i<x.ds.length),gP,iz]
  have big:∀t:Nat,t=(gY x.ds y.ds i).2+y.ds.getD i 0->x.ds.getD i 0<t->
    IntKind.wrap .u32 (IntKind.wrap .u64 (IntKind.wrap .u64 ((x.ds.getD i 0:Nat)+4294967296:Int)-(t:Nat)))=((x.ds.getD i 0+4294967296-t:Nat):Int)/\gY x.ds y.ds (i+1)=((gY x.ds y.ds i).1.set i (x.ds.getD i 0+4294967296-t),1):=by
   intro t ht hlt;refine ⟨?_,by simp only[gY,<- ht,aq hlt]⟩;rw[jO (x:=((x.ds.getD i 0:Nat):Int)+4294967296) aa aa,jO aa aa,By aa aa];omega
  have small:∀t:Nat,t=(gY x.ds y.ds i).2+y.ds.getD i 0->¬ x.ds.getD i 0<t->
    IntKind.wrap .u32 (IntKind.wrap .u64 (IntKind.wrap .u64 ((x.ds.getD i 0:Nat)+0:Int)-(t:Nat)))=((x.ds.getD i 0-t:Nat):Int)/\gY x.ds y.ds (i+1)=((gY x.ds y.ds i).1.set i (x.ds.getD i 0-t),0):=by
   intro t ht hlt;refine ⟨?_,by simp only[gY,<- ht,an hlt]⟩;rw[jO (x:=((x.ds.getD i 0:Nat):Int)+0) aa aa,jO aa aa,By aa aa];omega
  by_cases h:(i:Int)<(y.ds.length:Int)
  .rw[aq h,nk (by omega:i<y.ds.length)];simp only[ae,gP,dg,mX,e1,e2,e3,l9,bz,aC]
   by_cases h3:x.ds.getD i 0<(gY x.ds y.ds i).2+y.ds.getD i 0
   .obtain ⟨b1,b2⟩:=big _ rfl h3;rw[aq aa,s1];simp only[ae,l9,pz,mX,b1,hw];rw[gF aa,ae,Dm aa];rw[b2] at ih;exact ih
   .obtain ⟨b1,b2⟩:=small _ rfl h3;rw[an aa,s0];simp only[ae,l9,pz,mX,b1,hw];rw[gF aa,ae,Dm aa];rw[b2] at ih;exact ih
  .rw[an h];have h0:=Aq h;simp only[ae,gP,dg,mX,e1,bz,aC]
   by_cases h3:x.ds.getD i 0<(gY x.ds y.ds i).2
   .obtain ⟨b1,b2⟩:=big (gY x.ds y.ds i).2 aa h3;rw[aq aa,s1];simp only[ae,l9,pz,mX,b1,hw];rw[gF aa,ae,Dm aa];rw[b2] at ih;exact ih
   .obtain ⟨b1,b2⟩:=small (gY x.ds y.ds i).2 aa h3;rw[an aa,s0];simp only[ae,l9,pz,mX,b1,hw];rw[gF aa,ae,Dm aa];rw[b2] at ih;exact ih
end Go.Ab
namespace Go.Ab
def iU(a:List Nat)(d:Nat):Nat->List Nat×Nat
 | 0=>(List.replicate a.length 0,0)
 | k+1=>((iU a d k).1.set (a.length-1-k) (((iU a d k).2*4294967296+a.getD (a.length-1-k) 0)/d),((iU a d k).2*4294967296+a.getD (a.length-1-k) 0)%d)
theorem y8(a:List Nat)(d:Nat):∀k,(iU a d k).1.length=a.length
 | 0=>by simp[iU]
 | k+1=>by simp[iU,y8 a d k]
theorem Lj{a:List Nat}{d:Nat}(hd:0<d):∀k,(iU a d k).2<d
 | 0=>hd
 | k+1=>kV _ hd
theorem RT{a:List Nat}{d:Nat}(ha:Dg a)(hd:0<d)(k i:Nat):((iU a d k).2*4294967296+a.getD i 0)/d<4294967296:=by
 have h1:=Lj (a:=a) hd k;have h2:=ha i;rw[vZ hd];have:((iU a d k).2+1)*4294967296<=d*4294967296:=jl _ h1;rw[dF 4294967296 d];omega
theorem Dl{a:List Nat}{d:Nat}(ha:Dg a)(hd:0<d):∀k,Dg (iU a d k).1
 | 0=>Ai _
 | k+1=>(Dl ha hd k).set _ _ (RT ha hd k _)
theorem qcg(a:List Nat)(d j:Nat):∀k,j+k<a.length->(iU a d k).1.getD j 0=0
 | 0,_=>JS _ _
 | k+1,h=>by
  rw[iU];simp only[];rw[wE aa];exact qcg a d j k aa
theorem qch{a:List Nat}{d:Nat}(hd:0<d):∀k,k<=a.length->val (iU a d k).1*d+4294967296^(a.length-k)*(iU a d k).2+vs a (a.length-k)=val a
 | 0,_=>by simp[iU,LM,jI]
 | k+1,h=>by
  have ih:=qch (a:=a) hd k aa;obtain ⟨i,hi⟩:∃i,i=a.length-1-k:=⟨_,rfl⟩;have e1:a.length-k=i+1:=aa;have e2:a.length-(k+1)=i:=aa;have hk:=qcg a d i k aa;have hl:=y8 a d k;rw[e1,kf,kh] at ih;rw[e2,iU,<- hi];generalize iU a d k=t at *;simp only[];have h1:=GL t.1 i ((t.2*4294967296+a.getD i 0)/d) aa;rw[hk,oI,kU] at h1;rw[h1,iI,fQ,oH (val t.1*d),<- gL,dF (_/_) d,xP];rw[<- ih,gL];have:4294967296^i*(t.2*4294967296)=4294967296^i*4294967296*t.2:=by rw[dF t.2,fQ]
  omega
def Ll(a:List Nat)(d:Nat):List Nat:=tr (iU a d a.length).1
theorem qck{a:List Nat}{d:Nat}(ha:Dg a)(hd:0<d):Ll a d=aG (val a/d)/\(iU a d a.length).2=val a%d:=by
 have h:=qch (a:=a) hd a.length (aR _);have h2:=Lj (a:=a) hd a.length;simp only[qn,Nat.pow_zero,rD,sW,kU] at h;rw[Ll,mo (Dl ha hd _)]
 have e:val a/d=val (iU a d a.length).1/\val a%d=(iU a d a.length).2:=by
  rw[<- h]
  constructor
  .rw[dF,Nat.mul_add_div hd,Nat.div_eq_of_lt h2];rfl
  .rw[dF,Nat.mul_add_mod,mz h2]
 exact ⟨by rw[e.1],e.2.symm⟩
def wn(u:List Nat)(j:Nat):Nat->Nat
 | 0=>0
 | i+1=>wn u j i+4294967296^i*u.getD (j+i) 0
theorem GO(u:List Nat):∀i,wn u 0 i=vs u i
 | 0=>rfl
 | i+1=>by rw[wn,GO u i,kf,bq]
theorem Bx{u:List Nat}(h:Dg u)(j:Nat):∀i,wn u j i<4294967296^i
 | 0=>by simp[wn]
 | i+1=>by
  have ih:=Bx h j i;have h1:=h (j+i);rw[wn,kh];have:4294967296^i*(u.getD (j+i) 0+1)<=4294967296^i*4294967296:=lG _ h1;rw[gL] at this;omega
theorem qc1{u w:List Nat}{j:Nat}:∀i,(∀k,k<i->u.getD (j+k) 0=w.getD (j+k) 0)->wn u j i=wn w j i
 | 0,_=>rfl
 | i+1,h=>by rw[wn,wn,qc1 i (fun k hk=>h k aa),h i aa]
theorem vE{u:List Nat}{j i p x:Nat}(h:p<j\/j+i<=p):wn (u.set p x) j i=wn u j i:=by
 apply qc1;intro k hk;exact wE aa
theorem qc2(u:List Nat)(j i:Nat):∀k,wn u j (i+k)=wn u j i+4294967296^i*wn u (j+i) k
 | 0=>by simp[wn]
 | k+1=>by
  rw[<- oH,wn,qc2 u j i k,wn,gL,sr,fQ,oH j,oH]
theorem GN(u:List Nat)(j i:Nat):wn u j (i+1)=u.getD j 0+4294967296*wn u (j+1) i:=by
 rw[th i 1,qc2 u j 1 i];simp[wn]
theorem Sx{u:List Nat}{j:Nat}:∀i,(∀k,k<i->u.getD (j+k) 0=0)->wn u j i=0
 | 0,_=>rfl
 | i+1,h=>by rw[wn,Sx i (fun k hk=>h k aa),h i aa];simp
def jW(a:List Nat)(s:Nat):Nat->List Nat
 | 0=>List.replicate (a.length+1) 0
 | i+1=>((jW a s i).set i ((jW a s i).getD i 0+a.getD i 0*2^s%4294967296)).set (i+1) (a.getD i 0*2^s/4294967296)
theorem Bo(a:List Nat)(s:Nat):∀i,(jW a s i).length=a.length+1
 | 0=>by simp[jW]
 | i+1=>by simp[jW,Bo a s i]
theorem Bi{s:Nat}(hs:s<32):2^s*2^(32-s)=4294967296:=by
 rw[<- sr,show s+(32-s)=32 by omega]
theorem P0{x s:Nat}(hx:x<4294967296):x*2^s/4294967296<2^s:=by
 rw[vZ aa];rw[dF];exact Nat.mul_lt_mul_of_pos_left hx (wb s)
theorem qau{x s:Nat}(hs:s<32):x*2^s%4294967296+2^s<=4294967296:=by
 have h:=Bi hs
 have:x*2^s%4294967296=x%2^(32-s)*2^s:=by
  rw[<- h,dF (2^s) (2^(32-s)),Nat.mul_mod_mul_right]
 rw[this];have h2:x%2^(32-s)<2^(32-s):=kV _ (wb _);have h3:(x%2^(32-s)+1)*2^s<=2^(32-s)*2^s:=jl _ h2;rw[dF (2^(32-s)),h,iI] at h3;omega
theorem RS{a:List Nat}{s:Nat}(ha:Dg a):∀i,i<=a.length->(jW a s i).getD i 0<2^s
 | 0,_=>by rw[jW,JS];exact wb s
 | i+1,h=>by
  have hl:=Bo a s i;rw[jW,sF (by rw[il];omega)];exact P0 (ha i)
theorem RR{a:List Nat}{s:Nat}(ha:Dg a)(hs:s<32):∀i,i<=a.length->Dg (jW a s i)
 | 0,_=>Ai _
 | i+1,h=>by
  have h1:=RS (s:=s) ha i aa;have h2:=qau (x:=a.getD i 0) hs;have h3:=P0 (x:=a.getD i 0) (s:=s) (ha i);have h4:2^s<=2^31:=qI aa aa;exact ((RR ha hs i (by omega)).set _ _ (by omega)).set _ _ aa
theorem qb7{a:List Nat}{s:Nat}:∀i,i<=a.length->wn (jW a s i) 0 (i+1)=2^s*vs a i
 | 0,_=>by rw[jW,Sx];rfl;intro k _;exact JS _ _
 | i+1,h=>by
  have ih:=qb7 (a:=a) (s:=s) i aa;have hl:=Bo a s i;rw[wn,jW,vE aa,bq,sF (by rw[il];omega),wn,vE aa,bq,sF aa];rw[wn,bq] at ih;have e:=Dc (4294967296^i) 4294967296 (a.getD i 0*2^s);rw[kf,gL (2^s),<- ih,kh,Nat.mul_left_comm (2^s),dF (2^s),gL];omega
theorem qb8{a:List Nat}{s:Nat}:val (jW a s a.length)=2^s*val a:=by
 have h:=qb7 (a:=a) (s:=s) a.length (aR _);rw[GO,jI (by rw[Bo];omega),jI (aR _)] at h;exact h
theorem qpS{g r top v1 v2 u0 lo vlo p q:Nat}(h:g*v1+r=top)(hc:r*4294967296+u0<g*v2)(iE:lo<p)
  (hq:q*((v1*4294967296+v2)*p+vlo)<=(top*4294967296+u0)*p+lo):q<g:=by
 apply s8;intro hn;have hg:g<=q:=xQ hn;have h1:g*((v1*4294967296+v2)*p+vlo)<=q*((v1*4294967296+v2)*p+vlo):=jl _ hg
 have h2:(top*4294967296+u0+1)*p<=g*(v1*4294967296+v2)*p:=by
  apply jl;rw[gL,<- fQ,<- h];omega
 rw[gL,<- fQ] at h1;rw[iI _ 1,rD] at h2;omega
theorem Yo{g r top v1 v2 u0 lo vlo p U V:Nat}(h:g*v1+r=top)(hc:g*v2<=r*4294967296+u0)(hg:g<4294967296)(hv:vlo<p)(kZ:0<v1)
  (hU:U=(top*4294967296+u0)*p+lo) (hV:V=(v1*4294967296+v2)*p+vlo):g*V<U+V:=by
 have h2:g*(v1*4294967296+v2)*p<=(top*4294967296+u0)*p:=by
  apply jl;rw[gL,<- fQ,<- h];omega
 have h3:g*vlo<=4294967296*p:=ti aa aa
 have h4:g*vlo<4294967296*p:=by
  rcases Nat.eq_zero_or_pos g with h0|h0
  .subst h0;rw[zM];omega
  .exact Nat.mul_lt_mul'' hg hv
 have h5:1*4294967296*p<=v1*4294967296*p:=jl _ (jl _ kZ);rw[hV,gL,<- fQ,iI (v1*4294967296)];omega
def jF(v:List Nat)(g j:Nat):Nat->List Nat->List Nat×Nat×Nat
 | 0,u=>(u,0,0)
 | i+1,u=>
  let t:=jF v g j i u
  let c:=t.2.2+g*v.getD i 0
  let y:=c%4294967296+t.2.1
  if t.1.getD (i+j) 0<y then (t.1.set (i+j) (t.1.getD (i+j) 0+4294967296-y),1,c/4294967296)
  else (t.1.set (i+j) (t.1.getD (i+j) 0-y),0,c/4294967296)
theorem Gb(v:List Nat)(g j:Nat)(u:List Nat):∀i,(jF v g j i u).1.length=u.length
 | 0=>rfl
 | i+1=>by
  rw[jF];split<;>simp[Gb v g j u i]
theorem Ga(v:List Nat)(g j:Nat)(u:List Nat):∀i,(jF v g j i u).2.1<=1
 | 0=>by simp[jF]
 | i+1=>by
  rw[jF];split<;>simp
theorem KH{v:List Nat}{g:Nat}(hv:Dg v)(hg:g<4294967296)(j:Nat)(u:List Nat):∀i,(jF v g j i u).2.2<4294967296
 | 0=>by simp[jF]
 | i+1=>by
  have ih:=KH hv hg j u i;have h4:=hv i;have h5:g*v.getD i 0<=4294967295*4294967295:=ti aa aa;rw[jF];split<;>(simp only[];omega)
theorem KI{v u:List Nat}{g:Nat}(hu:Dg u)(j:Nat):∀i,Dg (jF v g j i u).1
 | 0=>hu
 | i+1=>by
  have ih:=KI (v:=v) (g:=g) hu j i;have hb:=Ga v g j u i;have h1:=ih (i+j);rw[jF]
  split
  .exact ih.set _ _ aa
  .exact ih.set _ _ aa
theorem QY(v:List Nat)(g j:Nat)(u:List Nat)(k:Nat):∀i,k<j\/i+j<=k->(jF v g j i u).1.getD k 0=u.getD k 0
 | 0,_=>rfl
 | i+1,h=>by
  have ih:=QY v g j u k i aa;rw[jF];split<;>simp only[]<;>rw[wE aa,ih]
theorem QZ{v u:List Nat}{g:Nat}(hu:Dg u)(j:Nat):∀i,i+j<=u.length->wn (jF v g j i u).1 j i+g*vs v i=wn u j i+4294967296^i*((jF v g j i u).2.2+(jF v g j i u).2.1)
 | 0,_=>by simp[jF,wn,sW]
 | i+1,h=>by
  have ih:=QZ (v:=v) (g:=g) hu j i aa;have hk:=QY v g j u (i+j) i aa;have hl:=Gb v g j u i;have hb:=Ga v g j u i;have hd:=hu (i+j);rw[wn.eq_2 u,kf,kh,gL,<- fQ g,dF g (4294967296^i),fQ];rw[jF];generalize jF v g j i u=t at *;obtain ⟨t,b,c⟩:=t;simp only[] at *;rw[hk,th j i];have e:=Dc (4294967296^i) 4294967296 (c+g*v.getD i 0);generalize hc:c+g*v.getD i 0=C at *;rw[<- hc,gL,hc] at e;rw[gL] at ih
  split
  .rename_i hlt;simp only[];rw[wn,vE aa,th j i,sF aa];have e2:=qbG (4294967296^i) 4294967296 (u.getD (i+j) 0) (C%4294967296+b) aa;rw[gL _ (C%4294967296)] at e2;rw[gL _ (C/4294967296),mV];omega
  .rename_i hlt;simp only[];rw[wn,vE aa,th j i,sF aa];have e2:=K2 (4294967296^i) (u.getD (i+j) 0) (C%4294967296+b) aa;rw[gL _ (C%4294967296)] at e2;rw[kU];omega
def kW(v:List Nat)(j:Nat):Nat->List Nat->List Nat×Nat
 | 0,u=>(u,0)
 | i+1,u=>
  let t:=kW v j i u
  let c:=t.2+(t.1.getD (i+j) 0+v.getD i 0)
  (t.1.set (i+j) (c%4294967296),c/4294967296)
theorem EE(v:List Nat)(j:Nat)(u:List Nat):∀i,(kW v j i u).1.length=u.length
 | 0=>rfl
 | i+1=>by simp[kW,EE v j u i]
theorem Jl{v u:List Nat}(hv:Dg v)(hu:Dg u)(j:Nat):∀i,Dg (kW v j i u).1/\(kW v j i u).2<=1
 | 0=>⟨hu,by simp[kW]⟩
 | i+1=>by
  obtain ⟨h1,h2⟩:=Jl hv hu j i;have h3:=h1 (i+j);have h4:=hv i;refine ⟨h1.set _ _ (kV _ aa),?_⟩;simp only[kW];omega
theorem OI(v:List Nat)(j:Nat)(u:List Nat)(k:Nat):∀i,k<j\/i+j<=k->(kW v j i u).1.getD k 0=u.getD k 0
 | 0,_=>rfl
 | i+1,h=>by
  have ih:=OI v j u k i aa;rw[kW];simp only[];rw[wE aa,ih]
theorem WI(v:List Nat)(j:Nat)(u:List Nat):∀i,i+j<=u.length->wn (kW v j i u).1 j i+4294967296^i*(kW v j i u).2=wn u j i+vs v i
 | 0,_=>by simp[kW,wn,sW]
 | i+1,h=>by
  have ih:=WI v j u i aa;have hk:=OI v j u (i+j) i aa;have hl:=EE v j u i;rw[wn.eq_2 u,kf,kh];rw[kW];simp only[];generalize kW v j i u=t at *;rw[wn,vE aa,th j i,sF aa,hk];have e:=Dc (4294967296^i) 4294967296 (t.2+(u.getD (i+j) 0+v.getD i 0));generalize hc:t.2+(u.getD (i+j) 0+v.getD i 0)=C at *;rw[<- hc,gL,gL,hc] at e;omega
def A1(v:List Nat)(n j g:Nat)(u:List Nat):List Nat×Nat:=
 let t:=jF v g j n u
 let y:=t.2.2+t.2.1
 if t.1.getD (j+n) 0<y then
  let w:=kW v j n (t.1.set (j+n) (t.1.getD (j+n) 0+4294967296-y))
  (w.1.set (j+n) ((w.1.getD (j+n) 0+w.2)%4294967296),g-1)
 else (t.1.set (j+n) (t.1.getD (j+n) 0-y),g)
theorem ye{q r U V:Nat}(h:U=q*V+r)(hr:r<V):U/V=q/\U%V=r:=by
 subst h
 constructor
 .rw[dF,Nat.mul_add_div aa,Nat.div_eq_of_lt hr];rfl
 .rw[dF,Nat.mul_add_mod,mz hr]
theorem qrm{v u:List Nat}{n j g:Nat}(hv:Dg v)(hu:Dg u)(hn:v.length=n)(hL:j+n<u.length)(hg:g<4294967296)(Ff:0<val v)
  (h1:wn u j (n+1)/val v<=g) (h2:g*val v<wn u j (n+1)+val v) :
  Dg (A1 v n j g u).1/\(A1 v n j g u).1.length=u.length/\(∀k,k<j\/j+n<k->(A1 v n j g u).1.getD k 0=u.getD k 0) /\
  wn (A1 v n j g u).1 j (n+1)=wn u j (n+1)%val v/\(A1 v n j g u).2=wn u j (n+1)/val v:=by
 have hV:vs v n=val v:=jI aa;have hVP:val v<4294967296^n:=by rw[<- hn];exact nX hv
 have hw:=QZ (v:=v) (g:=g) hu j n aa;have hk:∀k,k<j\/j+n<=k->(jF v g j n u).1.getD k 0=u.getD k 0:=fun k h=>QY v g j u k n aa;have hl:=Gb v g j u n;have hb:=Ga v g j u n;have hc:=KH hv hg j u n;have hd:=KI (v:=v) (g:=g) hu j n;have AA:=Bx hd j n;have ht:=hk (j+n) aa;have CQ:=hu (j+n);have hUp:=Bx hu j n;have hUe:wn u j (n+1)=wn u j n+4294967296^n*u.getD (j+n) 0:=rfl;rw[hUe] at h1 h2 ⊢;rw[hV] at hw;unfold A1;simp only[];generalize jF v g j n u=t at *;obtain ⟨t,b,c⟩:=t;simp only[] at *;rw[ht]
 have hU1:wn u j n+4294967296^n*u.getD (j+n) 0<(g+1)*val v:=by
  have:=Nat.lt_succ_of_le h1
  rwa [vZ Ff] at this
 rw[iI,rD] at hU1;generalize u.getD (j+n) 0=top at *
 by_cases h:top<c+b
 .rw[aq h];simp only[];have Fl:Dg (t.set (j+n) (top+4294967296-(c+b))):=hd.set _ _ aa;have ha:=WI v j (t.set (j+n) (top+4294967296-(c+b))) n (by rw[il];omega);have YB:∀k,k<j\/j+n<=k->(kW v j n (t.set (j+n) (top+4294967296-(c+b)))).1.getD k 0=(t.set (j+n) (top+4294967296-(c+b))).getD k 0:=fun k h=>OI v j _ k n aa;obtain ⟨had,hac⟩:=Jl hv Fl j n;have dQ:=EE v j (t.set (j+n) (top+4294967296-(c+b))) n;rw[vE aa,hV] at ha;have nT:=YB (j+n) aa;rw[sF aa] at nT;have Kq:=Bx had j n
  have u7:∀k,k<j\/j+n<k->(kW v j n (t.set (j+n) (top+4294967296-(c+b)))).1.getD k 0=u.getD k 0:=by
   intro k ck;rw[YB k aa,wE aa,hk k aa]
  rw[il] at dQ;generalize kW v j n (t.set (j+n) (top+4294967296-(c+b)))=w at *;obtain ⟨w,x⟩:=w;simp only[] at *;rw[nT]
  have YX:wn u j n+4294967296^n*top<g*val v:=by
   have:4294967296^n*(top+1)<=4294967296^n*(c+b):=lG _ h;rw[gL] at this;omega
  have wJ:1<=g:=by
   apply pR;intro e;rw[e,zM] at YX;omega
  obtain ⟨g',hg'⟩:∃g',g=g'+1:=⟨g-1,aa⟩;subst hg';rw[iI,rD] at YX h2 hw;obtain ⟨r,hr⟩:∃r,wn u j n+4294967296^n*top=g'*val v+r:=⟨_,(Nat.add_sub_cancel' (by omega)).symm⟩;obtain ⟨hq,hm⟩:=ye hr aa
  have key:wn w j n+4294967296^n*x=r+4294967296^n*(c+b-top):=by
   have:=K2 (4294967296^n) (c+b) top aa;omega
  have hx:x=c+b-top/\wn w j n=r:=by
   have h3:=ye (q:=x) (r:=wn w j n) (V:=4294967296^n) (by rw[dF x,th]) Kq;have h4:=ye (q:=c+b-top) (r:=r) (U:=wn w j n+4294967296^n*x) (V:=4294967296^n) (by rw[key,dF (c+b-top),th]) aa;exact ⟨h3.1.symm.trans h4.1,h3.2.symm.trans h4.2⟩
  refine ⟨had.set _ _ (kV _ aa),by rw[il,dQ,hl],?_,?_,by rw[hq];rfl⟩
  .intro k ck;rw[wE aa];exact u7 k ck
  .rw[wn,vE aa,sF aa,hx.2,hm,hx.1];rw[show (top+4294967296-(c+b)+(c+b-top))%4294967296=0 by omega]
   rfl
 .rw[an h];simp only[];have e:=K2 (4294967296^n) top (c+b) aa;have hr:wn u j n+4294967296^n*top=g*val v+(wn t j n+4294967296^n*(top-(c+b))):=aa;obtain ⟨hq,hm⟩:=ye hr aa
  refine ⟨hd.set _ _ aa,by rw[il,hl],?_,?_,by rw[hq]⟩
  .intro k ck;rw[wE aa];exact hk k aa
  .rw[wn,vE aa,sF aa,hm]
structure KInv (v u0:List Nat) (n m j:Nat) (u q:List Nat):Prop where
 du:Dg u
 lu:u.length=m+n
 dq:Dg q
 lq:q.length=m
 hi:∀k,j+n<=k->u.getD k 0=0
 lo:∀k,k<j->u.getD k 0=u0.getD k 0
 lt:wn u j n<val v
 eq:wn q j (m-j)*val v+wn u j n=wn u0 j (m+n-j)
theorem KInv.step{v u0 u q:List Nat}{n m j:Nat}(hv:Dg v)(hn:v.length=n)(hj:j<m)(h:KInv v u0 n m (j+1) u q){u':List Nat}{d:Nat}
  (du:Dg u') (lu:u'.length=u.length) (hk:∀k,k<j\/j+n<k->u'.getD k 0=u.getD k 0)
  (hw:wn u' j (n+1)=wn u j (n+1)%val v) (hd:d=wn u j (n+1)/val v) (Ff:0<val v):KInv v u0 n m j u' (q.set j d):=by
 have hU:wn u j (n+1)=u.getD j 0+4294967296*wn u (j+1) n:=GN u j n;have hlt:wn u j (n+1)%val v<val v:=kV _ Ff;have hVP:val v<4294967296^n:=by rw[<- hn];exact nX hv
 have nT:u'.getD (j+n) 0=0:=by
  rw[wn] at hw;apply s8;intro hne;have:4294967296^n*1<=4294967296^n*u'.getD (j+n) 0:=lG _ aa;omega
 have Kq:wn u' j n=wn u j (n+1)%val v:=by
  rw[wn,nT,oI,kU] at hw;exact hw
 have AB:d<4294967296:=by
  rw[hd,vZ Ff,hU];have h1:=h.lt;have h2:=h.du j;omega
 refine ⟨du,by rw[lu,h.lu],h.dq.set _ _ AB,by rw[il,h.lq],?_,?_,by rw[Kq];exact hlt,?_⟩
 .intro k ck
  by_cases e:k=j+n
  .rw[e,nT]
  .rw[hk k aa];exact h.hi k aa
 .intro k ck;rw[hk k aa];exact h.lo k aa
 .have e:=h.eq;obtain ⟨r,hr⟩:∃r,m-j=r+1:=⟨m-j-1,aa⟩;rw[hr,GN,sF (by rw[h.lq];exact hj),vE aa,Kq];rw[show m+n-j=(m+n-(j+1))+1 by omega,GN u0,<- h.lo j aa,<- e,show m-(j+1)=r by omega];have h2:wn u j (n+1)=val v*d+wn u j (n+1)%val v:=by rw[hd,xP]
  rw[iI,gL,dF d,fQ];omega
def mq(u:List Nat)(s:Nat):Nat->List Nat
 | 0=>[]
 | i+1=>mq u s i++[u.getD i 0/2^s+u.getD (i+1) 0*2^(32-s)%4294967296]
theorem GG(u:List Nat)(s:Nat):∀i,(mq u s i).length=i
 | 0=>rfl
 | i+1=>by simp[mq,GG u s i]
theorem Sj{x s:Nat}(hs:s<32):x*2^(32-s)%4294967296=x%2^s*2^(32-s):=by
 rw[<- Bi hs,Nat.mul_mod_mul_right]
theorem qcV{x s:Nat}(hs:s<32)(hx:x<4294967296):x/2^s<2^(32-s):=by
 rw[vZ (wb s),dF,Bi hs];exact hx
theorem qcU{x y s:Nat}(hs:s<32)(hx:x<4294967296):x/2^s+y*2^(32-s)%4294967296<4294967296:=by
 have h1:=qcV hs hx;have h2:y%2^s<2^s:=kV _ (wb s);have h3:(y%2^s+1)*2^(32-s)<=2^s*2^(32-s):=jl _ h2;rw[Bi hs,iI] at h3;rw[Sj hs];omega
theorem LH{u:List Nat}{s:Nat}(hu:Dg u)(hs:s<32):∀i,Dg (mq u s i)
 | 0=>Ah
 | i+1=>Ag (LH hu hs i) (wz (qcU hs (hu i)))
theorem qcT{u:List Nat}{s:Nat}(hs:s<32):∀i,2^s*val (mq u s i)+u.getD 0 0%2^s=wn u 0 i+4294967296^i*(u.getD i 0%2^s)
 | 0=>by simp[mq,val,wn]
 | i+1=>by
  have ih:=qcT (u:=u) hs i;rw[mq,zc,GG,val,val,oI,kU,Sj hs,gL,wn,bq,kh];have e1:4294967296^i*u.getD i 0=4294967296^i*(2^s*(u.getD i 0/2^s)+u.getD i 0%2^s):=by rw[xP]
  have e2:2^s*(4294967296^i*(u.getD i 0/2^s+u.getD (i+1) 0%2^s*2^(32-s)))=4294967296^i*(2^s*(u.getD i 0/2^s))+4294967296^i*4294967296*(u.getD (i+1) 0%2^s):=by
   rw[<- Bi hs];generalize (2^s*2^(32-s))^i=p;generalize u.getD (i+1) 0%2^s=y;generalize u.getD i 0/2^s=z;generalize 2^(32-s)=b;generalize 2^s=a;simp only[gL]
   congr 1
   .simp only[Nat.mul_left_comm,dF]
   .simp only[Nat.mul_left_comm,dF]
  rw[e2,e1,gL];omega
theorem KInv.done{v u0 u q a b:List Nat}{n m s:Nat}(hs:s<32)(hu:u0.length=m+n)(h0:val u0=2^s*val a)(hv:val v=2^s*val b)(h:KInv v u0 n m 0 u q) :
  tr q=aG (val a/val b)/\tr (mq u s n)=aG (val a%val b):=by
 have hp:=wb s;have e:=h.eq;have hlt:=h.lt;rw[Nat.sub_zero,Nat.sub_zero,GO u0,jI aa,GO q,jI (by rw[h.lq];omega),h0] at e
 have hd:2^s*val a/(2^s*val b)=val q/\2^s*val a%(2^s*val b)=wn u 0 n:=by
  rw[<- hv];exact ye e.symm hlt
 rw[Nat.mul_div_mul_left _ _ hp] at hd;rw[Nat.mul_mod_mul_left] at hd;rw[mo h.dq,mo (LH h.du hs n),hd.1];refine ⟨rfl,?_⟩;have hr:=qcT (u:=u) hs n;have nT:=h.hi n aa;rw[nT,Nat.zero_mod,oI,kU,<- hd.2] at hr;have hm:u.getD 0 0%2^s<2^s:=kV _ hp;have:=(ye (q:=val a%val b) (r:=0) (U:=2^s*(val a%val b)) (V:=2^s) (by rw[dF];rfl) hp).1;have h3:=(ye (q:=val (mq u s n)) (r:=u.getD 0 0%2^s) (U:=2^s*(val a%val b)) (V:=2^s) (by rw[<- hr,dF]) hm).1;rw[<- this,h3]
end Go.Ab
namespace Go.Ab
open Go.Proofs.Tryz
structure NOk (x:NV):Prop where
 dg:Dg x.ds
 len:x.ds.length<2^40
 nil:x.z=true->x.ds=[]
def NV.v(x:NV):Nat:=val x.ds
theorem NOk.fr{x:NV}(h:NOk x):NOk x.fr:=⟨h.dg,h.len,h.nil⟩
theorem vo{o:Own}{n:Nat}(h:(aG n).length<2^40):NOk ⟨false,o,aG n⟩:=⟨gM n,h,aA⟩
theorem uG{x:NV}(h:NOk x):AP af 164 [x.av]=some (NV.av ⟨x.z,.no,aG x.v⟩):=by
 rw[sv x (by have:=h.len;omega),mo h.dg];rfl
theorem xU{x y:NV}(hx:NOk x)(hy:NOk y):AP af 131 [x.av,y.av]=some (.I (gZ x.v y.v)):=by
 rw[qjo x y (by have:=hx.len;omega) (by have:=hy.len;omega),qoO hx.dg hy.dg];rfl
theorem qkH{x y:NV}(hx:NOk x)(hy:NOk y):AP af 130 [x.av,y.av]=some (NV.av ⟨false,.no,aG (x.v+y.v)⟩):=by
 rw[qjn x y hx.len hy.len hx.dg hy.dg,qlL hx.dg hy.dg];rfl
theorem zU{x y:NV}(hx:NOk x)(hy:NOk y):AP af 127 [x.av,y.av]=some (NV.av ⟨false,.no,aG (x.v*y.v)⟩):=by
 rw[qjm x y hx.len hy.len hx.dg hy.dg,qr2 hx.dg hy.dg];rfl
def rW(n:Nat):Own:=if n=0 then .full else .no
theorem Xv(z:Bool)(o:Own)(n:Nat):uM ⟨z,o,aG n⟩=⟨z,rW n,aG n⟩:=by
 unfold uM rW;simp only[GK]
theorem VJ{z:Bool}{o:Own}{n:Nat}(h:NOk ⟨z,o,aG n⟩):AP af 163 [NV.av ⟨z,o,aG n⟩]=some (NV.av ⟨z,rW n,aG n⟩):=by
 rw[U5 _ h.nil h.len,Xv]
theorem qsl{n:Nat}(h:n<18446744073709551616):Rh n=aG n:=by
 rw[Rh,mo (nN.2 ⟨kV _ aa,wz aa⟩)];congr 1;simp only[val];omega
theorem OA{n:Nat}(h:n<18446744073709551616):AP af 123 [.U n]=some (NV.av ⟨false,rW n,aG n⟩):=by
 rw[qjl n h,qsl h,Xv]
def qN(ds:List Nat):Bool:=decide (ds=aG (val ds))
theorem qur{ds:List Nat}(h:ds.length≠0)(h':ds.getD (ds.length-1) 0≠0):tr ds=ds:=by
 obtain ⟨n,hn⟩:∃n,ds.length=n+1:=⟨ds.length-1,aa⟩;rw[hn,pQ] at h';rw[tr,hn,mR,an h',<- hn,List.take_length]
theorem RF{ds:List Nat}(h:Dg ds):y2 ds=qN ds:=by
 unfold y2 qN;rw[<- mo h]
 by_cases h0:ds.length=0
 .have:ds=[]:=List.length_eq_zero_iff.1 h0;subst this
  rfl
 .by_cases h1:ds.getD (ds.length-1) 0=0
  .have hlt:(tr ds).length<ds.length:=by
    obtain ⟨n,hn⟩:∃n,ds.length=n+1:=⟨ds.length-1,aa⟩;rw[hn,pQ] at h1;have:=Gz ds n;rw[tr,im,hn,mR,aq h1];omega
   have hne:¬ ds=tr ds:=fun e=>by rw[<- e] at hlt;omega
   rw[bD h0,bD hne,h1];rfl
  .have:=qur h0 h1;rw[bM this.symm,bM h1,Bool.or_true]
theorem VO{x:NV}(h:NOk x):AP af 181 [x.av]=some (.bool (qN x.ds)):=by
 rw[qjp x h.len,RF h.dg]
def ui(n:Nat):AV:=if n<18446744073709551616 then .tup [.U n,.bool true] else .tup [.U 0,.bool false]
theorem qcq(n:Nat):uh (aG n)=ui n:=by
 have hv:=gQ n;have hd:=gM n;unfold ui;generalize he:aG n=l at *
 match l,hv,hd with
 | [],hv,_=>
  simp only[val] at hv;subst hv
  rfl
 | [d],hv,hd=>
  have:=(nN.1 hd).1;simp only[val] at hv;rw[aq aa,uh,<- hv]
  rfl
 | [d,e],hv,hd=>
  have:=(nN.1 hd).1;have:=(nN.1 (nN.1 hd).2).1;simp only[val] at hv;rw[aq aa,uh,<- hv];congr 4;omega
 | d::e::f::l,hv,hd=>
  have hl:2<(aG n).length:=by rw[he];simp
  have:=JG hl
  rw[an aa,uh]
  .intro h;cases h
  .intro x h;cases h
  .intro x y h;cases h
theorem qkV{x:NV}(h:NOk x):AP af 182 [x.av]=some (ui x.v):=by
 rw[qjq x h.len h.dg,mo h.dg,qcq];rfl
theorem sD(sh:Sh)(z:Bool)(o:Own)(es:List AV):∀m k,cq m (k+1) (.lst sh z o es)=some (.lst sh z o.fr es,[]):=by
 intro m k;cases o<;>rfl
theorem kn(k:IntKind)(n:Int):∀m j,cq m (j+1) (.int k n)=some (.int k n,[]):=fun _ _=>rfl
theorem Pz(b:Bool):∀m j,cq m (j+1) (.bool b)=some (.bool b,[]):=fun _ _=>rfl
theorem wC{a a' b b':AV}(ha:∀m k,cq m (k+1) a=some (a',[]))(hb:∀m k,cq m (k+1) b=some (b',[])):Fz (.tup [a,b]) (.tup [a',b']):=by
 intro m;show (fU (cq m 8) [a,b]).map _=_;simp[fU,ha m 7,hb m 7]
theorem yj{a a' b b' c c':AV}(ha:∀m k,cq m (k+1) a=some (a',[]))(hb:∀m k,cq m (k+1) b=some (b',[]))(hc:∀m k,cq m (k+1) c=some (c',[])):Fz (.tup [a,b,c]) (.tup [a',b',c']):=by
 intro m;show (fU (cq m 8) [a,b,c]).map _=_;simp[fU,ha m 7,hb m 7,hc m 7]
theorem cw{C:Cfg}{f:Nat}{args:List AV}{m:ai}(v v':AV)(hf:Fz v v')(hv:jo v'=true)(h:AC C f args []=some (v,m)):AP C f args=some v':=
 iW h (hf m) (by rw[hv,Bool.or_true])
theorem rK(x:NV):∀m k,cq m (k+1) x.av=some (x.fr.av,[]):=sD _ _ _ _
theorem Cs:∀m k,cq m (k+1) aD=some (aD,[]):=sD _ _ _ _
def C4:AV:=aD
def R6(x y:NV):AV:=if x.v<y.v then .tup [C4,.I 1] else .tup [NV.av ⟨false,.no,aG (x.v-y.v)⟩,.I 0]
theorem VE{x y:NV}(hx:NOk x)(hy:NOk y):AP af 132 [x.av,y.av]=some (R6 x y):=by
 have iP:=Dt x.ds;have lx:=hx.len;have e1:=uG hx.fr;have e2:=uG hy.fr;rw[show x.fr.v=x.v from rfl] at e1;rw[show y.fr.v=y.v from rfl] at e2;have sO:(aG x.v).length<2^40:=by rw[NV.v,<- mo hx.dg];omega
 unfold R6
 by_cases h:x.v<y.v
 .rw[aq h];refine cw _ _ (wC Cs (kn _ _)) rfl (m:=[]) ?_;rw[Vj,fN (cX x) (cX y),xU hx.fr hy.fr];simp only[aQ,ae,bz,aC,gZ];rw[show x.fr.v=x.v from rfl,show y.fr.v=y.v from rfl,aq h,aq aa]
 .rw[an h];have key:=qt2 hx.dg hy.dg (xQ h);rw[mo hx.dg,mo hy.dg,Lw] at key;refine cw _ _ (wC (rK ⟨false,.no,aG (x.v-y.v)⟩) (kn _ _)) rfl (m:=[none]) ?_;rw[Vj,fN (cX x) (cX y),xU hx.fr hy.fr];simp only[aQ,ae,bz,aC,gZ];rw[show x.fr.v=x.v from rfl,show y.fr.v=y.v from rfl,an h,an (by split<;>omega),cI (cX x),e1];simp only[aQ,ae,cI (cX y),e2,iz];rw[yR aa aa];simp only[ae];have:=qjc ⟨x.z,.no,aG x.v⟩ ⟨y.z,.no,aG y.v⟩ [] (Mo (aH f132)) sO (gM _) (gM _) (aG x.v).length 0 aA;refine this.trans ?_;rw[qeW];have hm:(oC [] (gY (aG x.v) (aG y.v) (aG x.v).length).1)[0]?=some (oc (gY (aG x.v) (aG y.v) (aG x.v).length).1):=rfl;have hp:=yU (cp:=AP af) (g:=164) hm;rw[Dq] at hp;rw[show ([]:ai).length=0 from rfl,hp,uG ⟨Dp (gM _) (gM _) _,by simp only[Dq];exact sO,aA⟩];simp only[aQ,ae,NV.v];rw[mo (Dp (gM _) (gM _) _)] at key;rw[key]
  rfl
theorem qjg(x:NV)(d:Nat)(m:ai)(K:KT)(hl:x.ds.length<2^40)(dx:Dg x.ds)(hd:0<d)(lP:d<4294967296):∀j k:Nat,k+j=x.ds.length ->
  Ij x.av (dg d) (.arr m.length 0 x.ds.length none) (.U (iU x.ds d k).2) (.I ((j:Int)-1)) (m++[oc (iU x.ds d k).1]) K
   = K (.exit 0) (NU (.arr m.length 0 x.ds.length none) (.U (iU x.ds d x.ds.length).2) (m++[oc (iU x.ds d x.ds.length).1])):=by
 intro j
 induction j with
 | zero=>
  intro k hk;have:k=x.ds.length:=aa;subst this;rw[Um];simp[ki,aB]
 | succ j ih=>
  intro k hk;have ih:=ih (k+1) aa;have hr:=Lj (a:=x.ds) hd k;have hq:=RT (a:=x.ds) dx hd k j;have hlen:=y8 x.ds d k;have hj:=dx j;have ej:x.ds.length-1-k=j:=aa;rw[Um,show ((j+1:Nat):Int)-1=(j:Nat) by omega];simp only[iU,ej] at ih;generalize iU x.ds d k=t at *;simp (disch:=omega) only[Ge,ae,aB,GF,nk,lr,nH,GD,Bt,Du,nK];rw[gF aa,ae,mz hq,qd (BY ..) aa];simp (disch:=omega) only[ae,vg];rw[tg _ _ (aR _)];simp only[qn,cW];exact ih
theorem qkZ{x:NV}{d:Nat}(hx:NOk x)(hd:0<d)(lP:d<4294967296):AP af 202 [x.av,dg d]=some (.tup [NV.av ⟨false,.no,aG (x.v/d)⟩,dg (x.v%d)]):=by
 have lx:=hx.len;obtain ⟨k1,k2⟩:=qck hx.dg hd;have hlt:val x.ds%d<d:=kV _ hd;refine cw _ _ (wC (rK ⟨false,.no,aG (x.v/d)⟩) (kn _ _)) rfl (m:=[none]) ?_;rw[qku];simp only[iz,ae];rw[yR aa aa];simp only[ae];rw[vg aa];simp only[ae];have:=qjg x d [] (MN (aH f202)) lx hx.dg hd lP x.ds.length 0 aa;refine this.trans ?_;rw[qhi];have hm:(([]:ai)++[oc (iU x.ds d x.ds.length).1])[0]?=some (oc (iU x.ds d x.ds.length).1):=rfl;have hp:=yU (cp:=AP af) (g:=164) hm;rw[y8] at hp;rw[Ll,mo (Dl hx.dg hd _)] at k1;rw[show ([]:ai).length=0 from rfl,hp,uG ⟨Dl hx.dg hd _,by simp only[y8];exact lx,aA⟩,k2];simp only[aQ,ae,NV.v,nK];rw[k1,mz (Nat.lt_trans hlt lP)]
 rfl
theorem qjh(x:NV)(s:Nat)(m:ai)(K:KT)(hl:x.ds.length<2^40)(dx:Dg x.ds)(hs:s<32):∀j i:Nat,i+j=x.ds.length ->
  Ik (.U s) (.arr m.length 0 (x.ds.length+1) none) x.av (.I x.ds.length) (.I i) (m++[oc (jW x.ds s i)]) K
   = K (.exit 0) (NW (.arr m.length 0 (x.ds.length+1) none) (m++[oc (jW x.ds s x.ds.length)])):=by
 intro j
 induction j with
 | zero=>
  intro i hi;have:i=x.ds.length:=aa;subst this;rw[Un];simp[bz,aB]
 | succ j ih=>
  intro i hi;have ih:=ih (i+1) aa;have hlen:=Bo x.ds s i;have hd:=dx i;have h1:=RS (s:=s) dx i aa;have h2:=qau (x:=x.ds.getD i 0) hs;have h3:=P0 (x:=x.ds.getD i 0) (s:=s) hd;have h4:2^s<=2^31:=qI aa aa
  have h6:x.ds.getD i 0*2^s%4294967296%2^s=0:=by
   rw[<- Bi hs,dF (2^s),Nat.mul_mod_mul_right,Nat.mul_mod_left]
  rw[Un];simp only[jW] at ih;generalize jW x.ds s i=t at *;simp (disch:=omega) only[bS,ae,aC,aq,nk,lr,gF];rw[ub (BY ..) aa];simp only[dg,ae];rw[qcQ hs hd,ae,qcP h1 h6 aa,ae,qd (BY ..) aa];simp (disch:=omega) only[ae,bU,Cg,quD hs,LF,nK,gF];rw[tg _ _ (aR _)];simp only[qn,cW];rw[qd (BY ..) (by rw[il];omega),tg _ _ (aR _)];simp only[qn,cW,ae];rw[mz (by omega:x.ds.getD i 0*2^s/4294967296<4294967296)];exact ih
theorem VQ{x:NV}{s:Nat}(m:ai)(hx:NOk x)(hs:s<32):AC af 204 [x.av,.U s] m=some (.arr m.length 0 (x.ds.length+1) none,m++[oc (jW x.ds s x.ds.length)]):=by
 have lx:=hx.len;rw[qkw];simp only[iz,ae];rw[bU aa,ae,yR aa aa];simp only[ae];refine (qjh x s m _ lx hx.dg hs x.ds.length 0 (by omega)).trans ?_;rw[qhl]
def lz(x:Nat):Nat:=31-Nat.log2 x
theorem qrJ{x k:Nat}(h:2^k<=x)(h':x<2^(k+1)):Nat.log2 x=k:=by
 have hx:x≠0:=by have:=wb k;omega
 exact (Nat.log2_eq_iff hx).2 ⟨h,h'⟩
def Kz:ByteArray:=Dr
theorem qrC(v:AV):tY (.str Dr) v=tY (.str Kz) v:=rfl
theorem qrB:∀x:Fin 256,(Kz[x.1]?).map (fun b=>b.toNat)=some (if x.1=0 then 0 else Nat.log2 x.1+1):=by decide +kernel
theorem Ky{x:Nat}(h:0<x)(h':x<256):tY (.str Kz) (.int .u8 x)=some (.int .u8 (Nat.log2 x+1:Nat)):=by
 have:=qrB ⟨x,h'⟩;simp only[an (Nat.pos_iff_ne_zero.1 h)] at this;rw[tY,aq aa,cU]
 cases he:Kz[x]? with
 | none=>rw[he] at this;cases this
 | some b=>
  rw[he] at this;simp only[aQ,cg] at this ⊢;rw[this]
theorem Jv{a:Nat}{k:IntKind}(h:a<256):bE .u8 (.int k a)=some (.int .u8 a):=by
 rw[mX,show IntKind.wrap .u8 (a:Int)=(a:Int)%256 from rfl,Int.emod_eq_of_lt aa aa]
theorem Ju{a:Nat}{k:IntKind}(h:a<9223372036854775808):bE .i64 (.int k a)=some (.I a):=by
 rw[mX,iV aa aa]
theorem QO{x k:Nat}(h:2^k<=x):Nat.log2 x=Nat.log2 (x/2^k)+k:=by
 have hp:=wb k
 have hy:x/2^k≠0:=by
  have:0<x/2^k:=Nat.div_pos h hp;omega
 have h1:=Nat.log2_self_le hy;have h2:=Nat.lt_log2_self (n:=x/2^k)
 apply qrJ
 .rw[sr];exact (Iz hp).1 h1
 .rw[show Nat.log2 (x/2^k)+k+1=Nat.log2 (x/2^k)+1+k by omega,sr];exact (vZ hp).1 h2
theorem quC{tk:TK}{a:Nat}:ag tk .shr (.int .u32 a) (.U 16)=some (.int .u32 (a/65536:Nat)):=Sf (s:=16) aa
theorem qcR{tk:TK}{a:Nat}:ag tk .shr (.int .u32 a) (.U 8)=some (.int .u32 (a/256:Nat)):=Sf (s:=8) aa
theorem KC{x:Nat}(h:x<256):Nat.log2 x<8:=by
 by_cases h0:x=0
 .subst h0;decide
 .exact (Nat.log2_lt h0).2 h
theorem qks{x:Nat}(m:ai)(h:0<x)(h':x<4294967296):AC af 199 [dg x] m=some (.I (Nat.log2 x+1:Nat),m):=by
 have g1:ag .o .geq (dg x) (.int .u32 65536)=some (.bool (decide (x≥65536))):=KJ (b:=65536);have g2:∀y:Nat,ag .o .geq (.int .u32 y) (.int .u32 256)=some (.bool (decide (y≥256))):=fun y=>KJ (b:=256);have g3:ag .o .geq (dg x) (.int .u32 256)=some (.bool (decide (x≥256))):=KJ (b:=256);have a1:ag .o .add (.I 16) (.I 8)=some (.I 24):=rfl;have a2:ag .o .add (.I 0) (.I 8)=some (.I 8):=rfl;have b1:∀y:Nat,y<300->ag .o .add (.I 24) (.I y)=some (.I (24+y:Nat)):=fun y h=>lU (a:=24) aa;have b2:∀y:Nat,y<300->ag .o .add (.I 16) (.I y)=some (.I (16+y:Nat)):=fun y h=>lU (a:=16) aa;have b3:∀y:Nat,y<300->ag .o .add (.I 8) (.I y)=some (.I (8+y:Nat)):=fun y h=>lU (a:=8) aa;have b4:∀y:Nat,y<300->ag .o .add (.I 0) (.I y)=some (.I (0+y:Nat)):=fun y h=>lU (a:=0) aa;have s1:ag .o .shr (dg x) (.U 16)=some (.int .u32 (x/65536:Nat)):=quC;have s2:ag .o .shr (dg x) (.U 8)=some (.int .u32 (x/256:Nat)):=qcR
 have k0:bE .u8 (dg x)=if x<256 then some (.int .u8 x) else bE .u8 (dg x):=by
  split
  .rename_i h;exact Jv h
  .rfl
 rw[qkr];simp only[qrC,g1,g2,g3,a1,a2,s1,s2,ae,aC,qcR]
 by_cases c1:x≥65536
 .rw[aq c1];have e1:=QO (x:=x) (k:=16) aa;rw[show 2^16=65536 from rfl] at e1
  by_cases c2:x/65536≥256
  .rw[aq c2];have e2:=QO (x:=x/65536) (k:=8) aa;rw[show 2^8=256 from rfl] at e2;have l8:=KC (x:=x/65536/256) aa;rw[Jv aa,ae,Ky aa aa,ae,Ju aa,ae,b1 _ aa,ae];congr 4;omega
  .rw[an c2];have l8:=KC (x:=x/65536) aa;rw[Jv aa,ae,Ky aa aa,ae,Ju aa,ae,b2 _ aa,ae];congr 4;omega
 .rw[an c1]
  by_cases c2:x≥256
  .rw[aq c2];have e2:=QO (x:=x) (k:=8) aa;rw[show 2^8=256 from rfl] at e2;have l8:=KC (x:=x/256) aa;rw[Jv aa,ae,Ky aa aa,ae,Ju aa,ae,b3 _ aa,ae];congr 4;omega
  .rw[an c2];have l8:=KC (x:=x) aa;rw[k0,aq aa,ae,Ky aa aa,ae,Ju aa,ae,b4 _ aa,ae];congr 4;omega
theorem qkY{x:Nat}(h:0<x)(h':x<4294967296):AP af 199 [dg x]=some (.I (Nat.log2 x+1:Nat)):=
 iW (qks [] h h') (gJ _ _ _) (by simp[jo])
theorem qk0{x:Nat}(h:0<x)(h':x<4294967296):AP af 203 [dg x]=some (.I (lz x:Nat)):=by
 have hl:Nat.log2 x<32:=(Nat.log2_lt (by omega)).2 h';refine iW (m:=[]) ?_ (gJ _ _ _) (by simp[jo]);rw[qkv,cI (a:=dg x) (a':=dg x) (gJ .u32 x),qkY h h'];simp only[aQ,ae];have e:ag .o .sub (.I 32) (.I (Nat.log2 x+1:Nat))=some (.I (32-(Nat.log2 x+1):Nat)):=om (a:=32) aa aa;have e2:32-(Nat.log2 x+1)=lz x:=by rw[lz];omega
 rw[e,e2]
 rfl
end Go.Ab
namespace Go.Ab
open Go.Proofs.Tryz
theorem qlq(v:NV)(u:List Nat)(m:ai)(K:KT)(x9 aY:AV)(nu L n j top v1 v2 u0 p lo vlo q:Nat)
  (hn:v.ds.length=n) (n9:2<=n) (hm:m[nu]?=some (oc u)) (hL:u.length=L) (Av:L<2^42) (Y7:j+n<L) (du:Dg u) (dv:Dg v.ds)
  (e1:v.ds.getD (n-1) 0=v1) (e2:v.ds.getD (n-2) 0=v2) (e3:u.getD (j+n-2) 0=u0)
  (kZ:2147483648<=v1) (nT:top<=v1*4294967296+4294967295) (iE:lo<p) (ZG:vlo<p)
  (hq:q=((top*4294967296+u0)*p+lo)/((v1*4294967296+v2)*p+vlo)) (hqB:q<4294967296) :
  ∀k g r:Nat,4294967296<=r+k*v1->r<4294967296->g*v1+r=top->q<=g ->
  ∃g',q<=g'/\g'<4294967296/\g'*((v1*4294967296+v2)*p+vlo)<((top*4294967296+u0)*p+lo)+((v1*4294967296+v2)*p+vlo) /\
   BS x9 (.arr nu 0 L none) v.av (.I n) aY (.I j) (.U g) (.U r) m K
    = K (.exit 3) (zO x9 (.arr nu 0 L none) v.av (.I n) aY (.I j) (.U g') m):=by
 have qvc:v1<4294967296:=e1▸dv (n-1);have qq5:v2<4294967296:=e2▸dv (n-2);have qq4:u0<4294967296:=e3▸du (j+n-2);intro k
 induction k with
 | zero=>intro g r h1 h2;omega
 | succ k ih=>
  intro g r h1 h2 h3 h4
  have hgB:g<4294967296+2:=by
   have:g*v1<(4294967296+2)*v1:=aa;exact IB this
  have Ft:g*v2<=4294967297*4294967295:=ti aa aa
  have dec:q<g->∃g',q<=g'/\g'<4294967296/\g'*((v1*4294967296+v2)*p+vlo)<((top*4294967296+u0)*p+lo)+((v1*4294967296+v2)*p+vlo) /\
    (if r+v1≥4294967296 then K (.exit 3) (zO x9 (.arr nu 0 L none) v.av (.I n) aY (.I j) (.U (g-1:Nat)) m)
     else BS x9 (.arr nu 0 L none) v.av (.I n) aY (.I j) (.U (g-1:Nat)) (.U (r+v1:Nat)) m K)
    = K (.exit 3) (zO x9 (.arr nu 0 L none) v.av (.I n) aY (.I j) (.U g') m):=by
   intro wW;obtain ⟨g1,wJ⟩:∃g1,g=g1+1:=⟨g-1,aa⟩;subst wJ;rw[iI,rD] at h3;rw[pQ]
   by_cases hb:r+v1≥4294967296
   .rw[aq hb]
    have hlt:g1<4294967296:=by
     have:g1*v1<4294967296*v1:=aa;exact IB this
    refine ⟨g1,aa,hlt,?_,rfl⟩;have h5:g1*v2<=4294967296*4294967295:=ti aa aa;exact Yo (r:=r+v1) (top:=top) (u0:=u0) aa aa hlt ZG aa rfl rfl
   .rw[an hb];rw[iI] at h1;exact ih g1 (r+v1) aa aa aa aa
  rw[qjf];simp (disch:=omega) only[qr4,ae,aC,LG,oT,nk,lr,nH,pg,e1]
  by_cases c1:g≥4294967296
  .rw[aq c1];exact dec aa
  .rw[an c1];simp (disch:=omega) only[ZN,ae,nk,lr,e2]
   rw[nH v2 qq5,ae,GC aa,ae,GF aa,ae,lU aa,ae,ZN aa aa,ae,gF aa,ae,
    ub hm aa,ae,e3,nH u0 qq4,ae,GD aa aa,ae,A7,ae,aC]
   by_cases c2:g*v2>r*4294967296+u0
   .have wW:=qpS (q:=q) (vlo:=vlo) h3 c2 iE (by rw[hq];exact Iy _ _);rw[aq c2,LG aa aa,ae];exact dec wW
   .rw[an c2];exact ⟨g,h4,aa,Yo h3 (xQ c2) aa ZG aa rfl rfl,rfl⟩
theorem qlr(v:NV)(u:List Nat)(m0:ai)(K:KT)(x9 aY:AV)(nu L n j g:Nat)
  (hn:v.ds.length=n) (hm:m0[nu]?=some (oc u)) (hL:u.length=L) (Av:L<2^42) (Y7:j+n<L) (du:Dg u) (dv:Dg v.ds) (hg:g<4294967296):∀r i:Nat,i+r=n ->
  D2 x9 (.arr nu 0 L none) v.av (.I n) aY (.I j) (.U g) (.U (jF v.ds g j i u).2.1) (.U (jF v.ds g j i u).2.2) (.I n) (.I i) (m0.set nu (oc (jF v.ds g j i u).1)) K
   = K (.exit 5) (NO x9 (.arr nu 0 L none) v.av (.I n) aY (.I j) (.U g) (.U (jF v.ds g j n u).2.1) (.U (jF v.ds g j n u).2.2) (m0.set nu (oc (jF v.ds g j n u).1))):=by
 have Qe:nu<m0.length:=by
  apply s8;intro h;rw[pk aa] at hm;cases hm
 intro r
 induction r with
 | zero=>
  intro i hi;have:i=n:=aa;subst this;rw[Ug];simp[bz,aB]
 | succ r ih=>
  intro i hi;have ih:=ih (i+1) aa;have hlen:=Gb v.ds g j u i;have hb:=Ga v.ds g j u i;have hc:=KH dv hg j u i;have hd:=KI (v:=v.ds) (g:=g) du j i (i+j);have hvd:=dv i;have Ft:g*v.ds.getD i 0<=4294967295*4294967295:=ti aa aa;have s1:ag .o .shl (.U 1) (.U 32)=some (.U (4294967296:Nat)):=rfl;have s0:ag .o .shl (.U 0) (.U 32)=some (.U (0:Nat)):=rfl;rw[Ug];simp only[jF] at ih;generalize jF v.ds g j i u=t at *;obtain ⟨t,b,c⟩:=t;simp only[] at *;have aU:(m0.set nu (oc t))[nu]?=some (oc t):=qH Qe;simp (disch:=omega) only[bS,ae,aC,aq,nk,lr,nH,GC,pg,quE,lU,gF,ub aU,LF,bU]
  by_cases h:t.getD (i+j) 0<(c+g*v.ds.getD i 0)%4294967296+b
  .rw[aq h];rw[aq h] at ih;rw[s1,ae,pg aa,ae,Bu aa aa,ae,nK,ae,mz aa,qd aU aa,B2];exact ih
  .rw[an h];rw[an h] at ih;rw[s0,ae,pg aa,ae,Bu aa aa,ae,nK,ae,mz aa,qd aU aa,B2];exact ih
theorem qls(v:NV)(u:List Nat)(m0:ai)(K:KT)(x9 aY c9:AV)(nu L n j:Nat)
  (hn:v.ds.length=n) (hm:m0[nu]?=some (oc u)) (hL:u.length=L) (Av:L<2^42) (Y7:j+n<L) (du:Dg u) (dv:Dg v.ds):∀r i:Nat,i+r=n ->
  Ie x9 (.arr nu 0 L none) v.av (.I n) aY (.I j) c9 (.U (kW v.ds j i u).2) (.I n) (.I i) (m0.set nu (oc (kW v.ds j i u).1)) K
   = K (.exit 7) (NP x9 (.arr nu 0 L none) v.av (.I n) aY (.I j) c9 (.U (kW v.ds j n u).2) (m0.set nu (oc (kW v.ds j n u).1))):=by
 have Qe:nu<m0.length:=by
  apply s8;intro h;rw[pk aa] at hm;cases hm
 intro r
 induction r with
 | zero=>
  intro i hi;have:i=n:=aa;subst this;rw[Uh];simp[bz,aB]
 | succ r ih=>
  intro i hi;have ih:=ih (i+1) aa;have hlen:=EE v.ds j u i;obtain ⟨hd,hc⟩:=Jl dv du j i;have hd:=hd (i+j);have hvd:=dv i;rw[Uh];simp only[kW] at ih;generalize kW v.ds j i u=t at *;obtain ⟨t,c⟩:=t;simp only[] at *;have aU:(m0.set nu (oc t))[nu]?=some (oc t):=qH Qe;simp (disch:=omega) only[bS,ae,aC,aq,nk,lr,nH,pg,lU,gF,ub aU,LF,bU,nK,qd aU,B2];exact ih
theorem quF{tk:TK}{t y:Nat}(ht:t<4294967296)(hy:y<=4294967296):∃w,ag tk .sub (.U t) (.U y)=some w/\bE .u32 w=some (.int .u32 ((t+4294967296-y)%4294967296:Nat)):=by
 refine ⟨_,pz _ _ _ _,?_⟩;rw[mX,zi,qc3];congr 2;omega
theorem qro{v u:List Nat}{n j:Nat}(hv:Dg v)(hu:Dg u)(hn:v.length=n)(n9:2<=n) :
  val v=(v.getD (n-1) 0*4294967296+v.getD (n-2) 0)*4294967296^(n-2)+vs v (n-2) /\
  wn u j (n+1)=((u.getD (j+n) 0*4294967296+u.getD (j+n-1) 0)*4294967296+u.getD (j+n-2) 0)*4294967296^(n-2)+wn u j (n-2):=by
 obtain ⟨k,rfl⟩:∃k,n=k+2:=⟨n-2,aa⟩;have e1:k+2-1=k+1:=aa;have e2:k+2-2=k:=aa;have e3:j+(k+2)-1=j+(k+1):=aa;have e4:j+(k+2)-2=j+k:=aa;rw[e1,e2,e3,e4]
 constructor
 .rw[<- jI (Nat.le_of_eq hn),kf,kf,kh,iI,dF (4294967296^k) (v.getD k 0),dF (4294967296^k*4294967296),dF (4294967296^k),fQ];omega
 .rw[wn,wn,wn,kh (m:=k+1),kh];rw[iI,iI,iI,dF (4294967296^k) (u.getD (j+k) 0),dF (4294967296^k*4294967296) (u.getD (j+(k+1)) 0),dF (4294967296^k*4294967296*4294967296),dF (4294967296^k),];generalize 4294967296^k=p;have h1:u.getD (j+(k+1)) 0*(4294967296*p)=u.getD (j+(k+1)) 0*4294967296*p:=(fQ _ _ _).symm
  have h2:u.getD (j+(k+2)) 0*(4294967296*p*4294967296)=u.getD (j+(k+2)) 0*4294967296*4294967296*p:=by
   rw[Nat.mul_right_comm 4294967296 p,<- fQ,<- fQ]
  rw[h1,h2];omega
theorem qrn{v u0 u q:List Nat}{n m j:Nat}(hv:Dg v)(hn:v.length=n)(n9:2<=n)(h:KInv v u0 n m (j+1) u q) :
  u.getD (j+n) 0<=v.getD (n-1) 0/\wn u j (n+1)/val v<4294967296/\0<val v:=by
 have hlt:=h.lt;have hp:0<val v:=aa;obtain ⟨k,rfl⟩:∃k,n=k+1:=⟨n-1,aa⟩;have hV:val v=vs v k+4294967296^k*v.getD k 0:=by rw[<- jI (Nat.le_of_eq hn),kf]
 have h1:=zf hv k
 refine ⟨?_,?_,hp⟩
 .rw[pQ];rw[wn,show j+1+k=j+(k+1) by omega] at hlt;apply xQ;intro hc;have:4294967296^k*(v.getD k 0+1)<=4294967296^k*u.getD (j+(k+1)) 0:=lG _ hc;rw[gL] at this;omega
 .rw[vZ hp,GN];have h2:=h.du j;omega
theorem qpl{top u0 v1 v2 p lo vlo:Nat}(kZ:0<v1)(iE:lo<p)(hu:u0<4294967296) :
  ((top*4294967296+u0)*p+lo)/((v1*4294967296+v2)*p+vlo)<=top/v1:=by
 have h:=Iy ((top*4294967296+u0)*p+lo) ((v1*4294967296+v2)*p+vlo);generalize ((top*4294967296+u0)*p+lo)/((v1*4294967296+v2)*p+vlo)=q at *;rw[Iz kZ]
 have h1:(top*4294967296+u0)*p+lo<(top+1)*4294967296*p:=by
  have:(top*4294967296+u0+1)*p<=(top+1)*4294967296*p:=jl _ aa;rw[iI _ 1,rD] at this;omega
 have h2:q*v1*4294967296*p<=q*((v1*4294967296+v2)*p+vlo):=by
  rw[fQ q,fQ q];exact lG _ (fC (jl _ (Nat.le_add_right _ _)) (Nat.le_add_right _ _))
 have h3:q*v1*4294967296*p<(top+1)*4294967296*p:=aa;have h4:=IB (IB h3);omega
def M3(u q:List Nat):ai:=[oc u,none,oc q]
theorem qlp(v:NV)(u0:List Nat)(K:KT)(x9:AV)(L n mm:Nat)
  (hn:v.ds.length=n) (n9:2<=n) (dv:Dg v.ds) (hL:L=mm+n) (Av:L<2^42) (kZ:2147483648<=v.ds.getD (n-1) 0):∀(j:Nat) (u q:List Nat),j<=mm->KInv v.ds u0 n mm j u q ->
  ∃u' q',KInv v.ds u0 n mm 0 u' q'/\D1 x9 (.arr 0 0 L none) v.av (.I n) (.arr 2 0 mm none) (.I ((j:Int)-1)) (M3 u q) K
   = K (.exit 1) (NN x9 (.arr 0 0 L none) (.I n) (.arr 2 0 mm none) (M3 u' q')):=by
 intro j
 induction j with
 | zero=>
  intro u q _ hI;refine ⟨u,q,hI,?_⟩;rw[Uf];simp[ki,aB]
 | succ j ih=>
  intro u q hj hI;have hu:=hI.du;have Zh:=hI.lu;have AH:=hI.lq;obtain ⟨p1,p2,p3⟩:=qrn dv hn n9 hI;obtain ⟨t1,t2⟩:=qro (j:=j) dv hu hn n9;have d1:=hu (j+n);have d2:=hu (j+n-1);have d3:=dv (n-1);have aU:(M3 u q)[0]?=some (oc u):=rfl;have Ff:=p3;rw[Uf,show ((j+1:Nat):Int)-1=(j:Nat) by omega];simp (disch:=omega) only[Ge,ae,aB,lU,gF,ub aU,nH,GF,oT,GD,nk,lr,Bt,Du];have lh:=zf dv (n-2);have hws:=Bx hu j (n-2);have J3:=xP (u.getD (j+n) 0*4294967296+u.getD (j+n-1) 0) (v.ds.getD (n-1) 0);have hrm:(u.getD (j+n) 0*4294967296+u.getD (j+n-1) 0)%v.ds.getD (n-1) 0<v.ds.getD (n-1) 0:=kV _ aa;have hq:wn u j (n+1)/val v.ds=(((u.getD (j+n) 0*4294967296+u.getD (j+n-1) 0)*4294967296+u.getD (j+n-2) 0)*4294967296^(n-2)+wn u j (n-2))/((v.ds.getD (n-1) 0*4294967296+v.ds.getD (n-2) 0)*4294967296^(n-2)+vs v.ds (n-2)):=by rw[t1,t2]
  have hle:u.getD (j+n) 0*4294967296+u.getD (j+n-1) 0<=v.ds.getD (n-1) 0*4294967296+4294967295:=aa;have h0:4294967296<=(u.getD (j+n) 0*4294967296+u.getD (j+n-1) 0)%v.ds.getD (n-1) 0+2*v.ds.getD (n-1) 0:=aa;have h1:(u.getD (j+n) 0*4294967296+u.getD (j+n-1) 0)%v.ds.getD (n-1) 0<4294967296:=aa;have h2:(u.getD (j+n) 0*4294967296+u.getD (j+n-1) 0)/v.ds.getD (n-1) 0*v.ds.getD (n-1) 0+(u.getD (j+n) 0*4294967296+u.getD (j+n-1) 0)%v.ds.getD (n-1) 0=u.getD (j+n) 0*4294967296+u.getD (j+n-1) 0:=by rw[dF];exact J3
  have h3:wn u j (n+1)/val v.ds<=(u.getD (j+n) 0*4294967296+u.getD (j+n-1) 0)/v.ds.getD (n-1) 0:=by
   rw[t1,t2];exact qpl aa hws (hu _)
  obtain ⟨g,g1,g2,g3,g4⟩:=qlq v u (M3 u q) (MG K) x9 (.arr 2 0 mm none) 0 L n j (u.getD (j+n) 0*4294967296+u.getD (j+n-1) 0) (v.ds.getD (n-1) 0) (v.ds.getD (n-2) 0) (u.getD (j+n-2) 0) (4294967296^(n-2)) (wn u j (n-2)) (vs v.ds (n-2))
   (wn u j (n+1)/val v.ds) hn n9 aU aa Av aa hu dv rfl rfl rfl kZ hle hws lh hq p2 2 ((u.getD (j+n) 0*4294967296+u.getD (j+n-1) 0)/v.ds.getD (n-1) 0) ((u.getD (j+n) 0*4294967296+u.getD (j+n-1) 0)%v.ds.getD (n-1) 0) h0 h1 h2 h3
  rw[<- t1,<- t2] at g3;obtain ⟨s1,s2,s3,s4,s5⟩:=qrm dv hu hn aa g2 p3 g1 g3;have Fb:=KInv.step dv hn aa hI s1 s2 s3 s4 s5 p3;have AB:=Fb.dq j;have qu5:=Fb.lq;rw[sF aa] at AB;obtain ⟨u',q',i1,i2⟩:=ih _ _ aa Fb;refine ⟨u',q',i1,g4.trans ?_⟩;rw[qgP];have m0:=qlr v u (M3 u q) (MH K) x9 (.arr 2 0 mm none) 0 L n j g hn aU aa Av aa hu dv g2 n 0 aa
  refine Eq.trans ?_ (m0.trans ?_)
  .rfl
  rw[qgU];have hb:=Ga v.ds g j u n;have hc:=KH dv g2 j u n;have hd:=KI (v:=v.ds) (g:=g) hu j n;have hl:=Gb v.ds g j u n;have qq7:=QZ (v:=v.ds) (g:=g) hu j n aa;unfold A1 at i2 AB;simp only[] at i2 AB;generalize jF v.ds g j n u=t at *;obtain ⟨t,b,c⟩:=t;simp only[] at *;have hM:(M3 u q).set 0 (oc t)=M3 t q:=rfl;have Y3:(M3 t q)[0]?=some (oc t):=rfl;have Qr:∀l r:List Nat,(M3 l q).set 0 (oc r)=M3 r q:=fun _ _=>rfl;have CC:∀l r:List Nat,(M3 l r)[2]?=some (oc r):=fun _ _=>rfl;have FL:∀l r p:List Nat,(M3 l r).set 2 (oc p)=M3 l p:=fun _ _ _=>rfl;rw[hM];have hd4:=hd (j+n);obtain ⟨w,w1,w2⟩:=quF (tk:=.o) (t:=t.getD (j+n) 0) (y:=c+b) hd4 aa;simp (disch:=omega) only[pg,ae,lU,gF,ub Y3,nH,bS,w1,w2,qd Y3,Qr];rw[aC]
  by_cases qT:t.getD (j+n) 0<c+b
  .rw[aq qT];rw[aq qT] at i2 AB;have YN:Dg (t.set (j+n) (t.getD (j+n) 0+4294967296-(c+b))):=hd.set _ _ aa;have m1:=qls v (t.set (j+n) (t.getD (j+n) 0+4294967296-(c+b))) (M3 (t.set (j+n) (t.getD (j+n) 0+4294967296-(c+b))) q) (MI K) x9 (.arr 2 0 mm none) (.U (g-1:Nat)) 0 L n j hn rfl (by rw[il];omega) Av aa YN dv n 0 aa;have ha:=Jl dv YN j n;have dQ:=EE v.ds j (t.set (j+n) (t.getD (j+n) 0+4294967296-(c+b))) n
   have YV:0<g:=by
    apply pR;intro e0;rw[e0,zM,kU] at qq7;have hlt:=Bx hd j n;have h9:4294967296^n*1<=4294967296^n*(c+b):=lG _ aa;omega
   rw[show (t.getD (j+n) 0+4294967296-(c+b))%4294967296=t.getD (j+n) 0+4294967296-(c+b) by omega,LG aa aa,ae];rw[il] at dQ
   refine Eq.trans ?_ (m1.trans ?_)
   .rfl
   generalize kW v.ds j n (t.set (j+n) (t.getD (j+n) 0+4294967296-(c+b)))=w at *;obtain ⟨w,x⟩:=w;simp only[] at *;obtain ⟨a1,a2⟩:=ha;rw[Qr,qg0];have Y4:(M3 w q)[0]?=some (oc w):=rfl
   rw[lU aa,ae,gF aa,ae,ub Y4 aa,ae,nK,ae,mz (by omega:x<4294967296),dg,quA,ae,ae,
    qd Y4 aa,Qr,ae,nK,ae,gF aa,ae,qd (CC _ _) aa,FL,ae,vg aa,ae]
   rw[mz (by omega:g-1<4294967296)];exact i2
  .rw[an qT];rw[an qT] at i2 AB;rw[nK,ae,qd (CC _ _) aa,FL,ae,vg aa,ae];rw[show (t.getD (j+n) 0+4294967296-(c+b))%4294967296=t.getD (j+n) 0-(c+b) by omega,mz g2];exact i2
theorem qlt(u q:List Nat)(K:KT)(aY:AV)(s L n:Nat)(du:Dg u)(hL:u.length=L)(Av:L<2^42)(hn:n<L)(hs:s<32):∀r i:Nat,i+r=n ->
  D3 (.U s) (.arr 0 0 L none) aY (.arr 3 0 n none) (.I n) (.I i) (M3 u q++[oc (mq u s i++List.replicate r 0)]) K
   = K (.exit 9) (NQ aY (.arr 3 0 n none) (M3 u q++[oc (mq u s n)])):=by
 intro r
 induction r with
 | zero=>
  intro i hi;have:i=n:=aa;subst this;rw[Ui];simp[bz,aB]
 | succ r ih=>
  intro i hi;have ih:=ih (i+1) aa;have hlen:=GG u s i;have AA:=du i;have Fl:=du (i+1);have b1:=qcV hs AA;have b2:=qcU (y:=u.getD (i+1) 0) hs AA;have b3:u.getD (i+1) 0*2^(32-s)%4294967296%2^(32-s)=0:=by rw[Sj hs,Nat.mul_mod_left]
  have J7:∀l,(M3 u q++[oc l])[0]?=some (oc u):=fun _=>rfl;have CC:∀l,(M3 u q++[oc l])[3]?=some (oc l):=fun _=>rfl;have FL:∀l l',(M3 u q++[oc l]).set 3 (oc l')=M3 u q++[oc l']:=fun _ _=>rfl
  have AT:∀x,(mq u s i++List.replicate (r+1) 0).set i x=mq u s i++x::List.replicate r 0:=by
   intro x;rw[tg _ _ aa,hlen,qn,zL,cW]
  have qqR:∀x y,(mq u s i++x::List.replicate r 0).set i y=mq u s i++y::List.replicate r 0:=by
   intro x y;rw[tg _ _ aa,hlen,qn,cW]
  have qqS:∀x,(mq u s i++x::List.replicate r 0).getD i 0=x:=by
   intro x;rw[aT,td aa,hlen,qn]
   rfl
  have nQ:i<(mq u s i++List.replicate (r+1) 0).length:=by rw[aW,hlen,vR];omega
  have jC:∀x,i<(mq u s i++x::List.replicate r 0).length:=by intro x;rw[aW,hlen,ba,vR];omega
  rw[mq,gR,b6,bF] at ih
  rw[Ui,bS,ae,aC,aq aa,gF aa,ae,ub (J7 _) aa,ae,dg,Sf hs,ae,gF aa,ae,
   qd (CC _) nQ,FL,AT,ae,xh,ae,aC]
  by_cases h0:s>0
  .rw[aq h0];have e32:ag .o .sub (.U 32) (.U s)=some (.U (32-s:Nat)):=Bu (a:=32) aa aa
   rw[ae,ub (CC _) (jC _),ae,qqS,bU aa,ae,gF aa,ae,ub (J7 _) aa,ae,e32,ae,dg,dg,qcQ aa Fl,ae,
    qcP b1 b3 b2,ae,ae,qd (CC _) (jC _),FL,qqR,ae,ae]
   exact ih
  .rw[an h0,bU aa,ae];have nR:s=0:=aa;subst nR;rw[show u.getD (i+1) 0*2^(32-0)%4294967296=0 from Nat.mul_mod_left _ _,kU] at ih;exact ih
end Go.Ab
namespace Go.Ab
open Go.Proofs.Tryz
def mD(x y:NV):NV:=if x.v<y.v then ⟨true,.full,[]⟩ else ⟨false,.no,aG (x.v/y.v)⟩
def pV(x y:NV):NV:=if x.v<y.v then ⟨x.z,rW x.v,aG x.v⟩ else if y.v<4294967296 then ⟨false,rW (x.v%y.v),aG (x.v%y.v)⟩ else ⟨false,.no,aG (x.v%y.v)⟩
theorem JH(x y:NV):(mD x y).ds=aG (x.v/y.v):=by
 unfold mD
 split
 .rename_i h;rw[Nat.div_eq_of_lt h,mC]
 .rfl
theorem JI(x y:NV):(pV x y).ds=aG (x.v%y.v):=by
 unfold pV
 split
 .rename_i h;rw[mz h]
 .split<;>rfl
theorem mb{a b:Nat}(h:a<=b):(aG a).length<=(aG b).length:=by
 have:=nX (gM b);rw[gQ] at this;exact oN (jQ h this)
theorem NOk.v_len{x:NV}(h:NOk x):(aG x.v).length<=x.ds.length:=XL h.dg
theorem NOk.v_len'{x:NV}(h:NOk x):(aG x.v).length<2^40:=jQ h.v_len h.len
theorem NOk.z_v{x:NV}(h:NOk x):x.z=true->aG x.v=[]:=by
 intro hz;rw[NV.v,h.nil hz];exact mC
theorem XO{x y:NV}(hx:NOk x):NOk (mD x y):=by
 refine ⟨by rw[JH];exact gM _,?_,?_⟩
 .rw[JH];exact jQ (mb (B3 _ _)) hx.v_len'
 .unfold mD
  split
  .intro _;rfl
  .intro h;cases h
theorem qo2{x y:NV}(hx:NOk x):NOk (pV x y):=by
 refine ⟨by rw[JI];exact gM _,?_,?_⟩
 .rw[JI];exact jQ (mb (Nat.mod_le _ _)) hx.v_len'
 .unfold pV
  split
  .exact hx.z_v
  .split<;>(intro h;cases h)
theorem KU(n:Nat):(rW n).fr=rW n:=by unfold rW;split<;>rfl
theorem EY(x y:NV):(mD x y).fr=mD x y:=by unfold mD;split<;>rfl
theorem JJ(x y:NV):(pV x y).fr=pV x y:=by
 unfold pV
 split
 .simp only[NV.fr,KU]
 .split
  .simp only[NV.fr,KU]
  .rfl
theorem Pa(x y:NV):(pV x y).v=x.v%y.v:=by rw[NV.v,JI,gQ]
def JK(x y:NV):AV:=if y.v=0 then .tup [C4,C4,.I 31] else .tup [(mD x y).av,(pV x y).av,.I 0]
theorem n5{n:Nat}:(aG n).length=0↔n=0:=by rw[List.length_eq_zero_iff];exact GK
theorem JF{n:Nat}:(aG n).length=1↔n≠0/\n<4294967296:=by
 constructor
 .intro h;have h1:=nX (gM n);rw[gQ,h] at h1;exact ⟨fun e=>by rw[e,mC] at h;simp at h,by simpa using h1⟩
 .intro ⟨h,h'⟩;have h1:=oN (k:=1) (n:=n) (by simpa using h');have h2:(aG n).length≠0:=fun e=>h (n5.1 e);omega
theorem JE{n:Nat}(h:n≠0):(aG n).getD ((aG n).length-1) 0≠0:=by
 intro e;have h1:qN (aG n)=true:=by rw[qN,gQ];exact bM rfl
 rw[<- RF (gM n),y2] at h1;have h2:¬ (aG n).length=0:=fun e=>h (n5.1 e);rw[e] at h1;simp[h2] at h1
theorem qaC{t:Nat}(h:0<t)(h':t<4294967296):lz t<32/\2147483648<=t*2^lz t/\t*2^lz t<4294967296:=by
 have hl:Nat.log2 t<32:=(Nat.log2_lt (by omega)).2 h';have h1:=Nat.log2_self_le (n:=t) aa;have h2:=Nat.lt_log2_self (n:=t);unfold lz;generalize Nat.log2 t=k at *;have e:2^k*2^(31-k)=2147483648:=by rw[<- sr,show k+(31-k)=31 by omega]
 have e2:2^(k+1)*2^(31-k)=4294967296:=by rw[<- sr,show k+1+(31-k)=32 by omega]
 refine ⟨aa,?_,?_⟩
 .rw[<- e];exact jl _ h1
 .rw[<- e2];exact Nat.mul_lt_mul_of_pos_right h2 (wb _)
theorem qtD{b:Nat}{n:Nat}(hn:(aG b).length=n)(n9:1<=n)(hs:lz ((aG b).getD (n-1) 0)<32) :
  (aG (2^lz ((aG b).getD (n-1) 0)*b)).length=n/\2147483648<=(aG (2^lz ((aG b).getD (n-1) 0)*b)).getD (n-1) 0:=by
 have hb:b≠0:=by intro e;rw[e,mC] at hn;simp at hn;omega
 have me:=JE hb;rw[hn] at me;have hd:=gM b (n-1);obtain ⟨s1,s2,s3⟩:=qaC (pR me) hd;obtain ⟨k,rfl⟩:∃k,n=k+1:=⟨n-1,aa⟩;rw[pQ] at *;have hv:b=vs (aG b) k+4294967296^k*(aG b).getD k 0:=by rw[<- kf,jI (Nat.le_of_eq hn),gQ]
 have iE:=zf (gM b) k;generalize (aG b).getD k 0=t at *;generalize vs (aG b) k=l at *;generalize lz t=s at *;have hp:=wb s
 have hlt:2^s*b<4294967296^(k+1):=by
  have h1:b<4294967296^k*(t+1):=by rw[gL];omega
  have h4:(t+1)*2^s<=4294967296:=by
   have hpw:2^s*2^(32-s)=4294967296:=Bi s1;rw[<- hpw,dF] at s3 ⊢;have:=Nat.lt_of_mul_lt_mul_left s3;exact lG _ this
  have h2:2^s*b<2^s*(4294967296^k*(t+1)):=Nat.mul_lt_mul_of_pos_left h1 hp;have h3:2^s*(4294967296^k*(t+1))=4294967296^k*((t+1)*2^s):=by rw[Nat.mul_left_comm,dF (2^s)]
  have h5:4294967296^k*((t+1)*2^s)<=4294967296^k*4294967296:=lG _ h4;rw[kh];omega
 have yt:4294967296^k*(t*2^s)<=2^s*b:=by
  rw[dF t,Nat.mul_left_comm];exact lG _ aa
 have Ka:=oN hlt
 have qu3:k<(aG (2^s*b)).length:=by
  apply s8;intro hc;have h1:=nX (gM (2^s*b));rw[gQ] at h1;have h2:4294967296^(aG (2^s*b)).length<=4294967296^k:=qI aa aa;have h3:4294967296^k*1<=4294967296^k*(t*2^s):=lG _ aa;omega
 refine ⟨aa,?_⟩;have rQ:2^s*b=vs (aG (2^s*b)) k+4294967296^k*(aG (2^s*b)).getD k 0:=by rw[<- kf,jI aa,gQ]
 have qu4:=zf (gM (2^s*b)) k;generalize (aG (2^s*b)).getD k 0=y at *;generalize vs (aG (2^s*b)) k=l2 at *;apply s8;intro hc;have h1:4294967296^k*(y+1)<=4294967296^k*(t*2^s):=lG _ aa;rw[gL] at h1;omega
theorem qrt{v u0:List Nat}{n m:Nat}(du:Dg u0)(hu:u0.length=m+n)(hlt:wn u0 m n<val v):KInv v u0 n m m u0 (List.replicate m 0) where
 du:=du
 lu:=hu
 dq:=Ai m
 lq:=vR
 hi:=by
  intro k hk;exact Aq aa
 lo:=fun _ _=>rfl
 lt:=hlt
 eq:=by rw[qn,wn,zM,bq,Nat.add_sub_cancel_left]
theorem qup{u v:List Nat}{n m:Nat}(hu:Dg u)(hn:v.length=n)(n9:1<=n)(h:u.getD (m+n-1) 0<v.getD (n-1) 0):wn u m n<val v:=by
 obtain ⟨k,rfl⟩:∃k,n=k+1:=⟨n-1,aa⟩;rw[pQ,show m+(k+1)-1=m+k by omega] at h;have h1:=Bx hu m k;have h2:4294967296^k*(u.getD (m+k) 0+1)<=4294967296^k*v.getD k 0:=lG _ h;rw[wn,<- jI (Nat.le_of_eq hn),kf];rw[gL] at h2;omega
theorem OB{x y:NV}(hx:NOk x)(hy:NOk y):AP af 187 [x.av,y.av]=some (JK x y):=by
 have lx:=hx.v_len';have ly:=hy.v_len';have hX:NOk ⟨x.z,.no,aG x.v⟩:=⟨gM _,lx,hx.z_v⟩;have hY:NOk ⟨y.z,.no,aG y.v⟩:=⟨gM _,ly,hy.z_v⟩;have e1:=uG hx.fr;have e2:=uG hy.fr;rw[show x.fr.v=x.v from rfl,show x.fr.z=x.z from rfl] at e1;rw[show y.fr.v=y.v from rfl,show y.fr.z=y.z from rfl] at e2;have e3:=xU hX hY;have vX:(NV.mk x.z .no (aG x.v)).v=x.v:=gQ _;have vY:(NV.mk y.z .no (aG y.v)).v=y.v:=gQ _;rw[vX,vY] at e3;have fX:=cX ⟨x.z,.no,aG x.v⟩;have fY:=cX ⟨y.z,.no,aG y.v⟩;rw[show (NV.mk x.z .no (aG x.v)).fr=⟨x.z,.no,aG x.v⟩ from rfl] at fX;rw[show (NV.mk y.z .no (aG y.v)).fr=⟨y.z,.no,aG y.v⟩ from rfl] at fY;unfold JK
 by_cases h0:y.v=0
 .rw[aq h0];refine cw _ _ (yj Cs Cs (kn _ _)) rfl (m:=[]) ?_;rw[I7,cI (cX x),e1,aQ,ae,cI (cX y),e2,aQ,ae,iz,ae,mN,ae,aC,aq (n5.2 h0)]
 .rw[an h0];have mI:¬ (aG y.v).length=0:=fun e=>h0 (n5.1 e)
  by_cases h1:x.v<y.v
  .have hc:gZ x.v y.v<0:=by unfold gZ;rw[aq h1];omega
   refine cw _ _ (yj (rK (mD x y)) (rK (pV x y)) (kn _ _)) rfl (m:=[]) ?_ |>.trans (by rw[EY,JJ])
   rw[I7,cI (cX x),e1,aQ,ae,cI (cX y),e2,aQ,ae,iz,ae,mN,ae,aC,an mI,
    fN fX fY,e3,aQ,ae,bz,ae,aC,aq hc,cI fX,VJ hX,aQ,ae]
   unfold mD pV;rw[aq h1,aq h1]
   rfl
  .have hc:¬ gZ x.v y.v<0:=by unfold gZ;rw[an h1];split<;>omega
   by_cases h2:y.v<4294967296
   .have mJ:(aG y.v).length=1:=JF.2 ⟨h0,h2⟩
    have PU:(aG y.v).getD 0 0=y.v:=by
     rw[Aj h0,qk,mz h2]
    have hlt:x.v%y.v<y.v:=kV _ aa;refine cw _ _ (yj (rK (mD x y)) (rK (pV x y)) (kn _ _)) rfl (m:=[]) ?_ |>.trans (by rw[EY,JJ])
    have e4:=qkZ (d:=y.v) hX aa h2;rw[vX] at e4
    rw[I7,cI (cX x),e1,aQ,ae,cI (cX y),e2,aQ,ae,iz,ae,mN,ae,aC,an mI,
     fN fX fY,e3,aQ,ae,bz,ae,aC,an hc,ae,xg,ae,aC,aq mJ,Ks (by simp only[mJ];omega),ae,lr,ae]
    simp only[PU];rw[fN (b:=dg y.v) (b':=dg y.v) fX (gJ .u32 y.v),e4];simp only[aQ,ae,a8]
    rw[show ([NV.av ⟨false,.no,aG (x.v/y.v)⟩,dg (x.v%y.v)]:List AV)[0]?=some (NV.av ⟨false,.no,aG (x.v/y.v)⟩) from rfl,show ([NV.av ⟨false,.no,aG (x.v/y.v)⟩,dg (x.v%y.v)]:List AV)[1]?=some (dg (x.v%y.v)) from rfl,
     ae,ae,nH _ aa,ae,cI (gJ _ _),OA aa]
    unfold mD pV;rw[an h1,an h1,aq h2]
    rfl
   .have mJ:¬ (aG y.v).length=1:=fun e=>h2 (JF.1 e).2;obtain ⟨n,hn⟩:∃n,n=(aG y.v).length:=⟨_,rfl⟩;have n9:2<=n:=aa;have me:=JE h0;rw[<- hn] at me;have CQ:=gM y.v (n-1);obtain ⟨z1,z2,z3⟩:=qaC (pR me) CQ;obtain ⟨w1,w2⟩:=qtD hn.symm aa z1;have hle:y.v<=x.v:=xQ h1;have qu6:=mb hle;generalize hs:lz ((aG y.v).getD (n-1) 0)=s at *;have hJ:(jW (aG x.v) s (aG x.v).length).length=(aG x.v).length+1:=Bo _ _ _;have ZC:(jW (aG y.v) s (aG y.v).length).length=(aG y.v).length+1:=Bo _ _ _;have hsu:val (jW (aG x.v) s (aG x.v).length)=2^s*x.v:=by rw[qb8,gQ]
    have hsv:val (jW (aG y.v) s (aG y.v).length)=2^s*y.v:=by rw[qb8,gQ]
    have YP:Dg (jW (aG x.v) s (aG x.v).length):=RR (gM _) z1 _ (aR _);have Fm:Dg (jW (aG y.v) s (aG y.v).length):=RR (gM _) z1 _ (aR _);have nT:(jW (aG x.v) s (aG x.v).length).getD (aG x.v).length 0<2^s:=RS (gM _) _ (aR _);have qqK:2^s<=2^31:=qI aa aa;obtain ⟨mm,hmm⟩:∃mm,(aG x.v).length+1=mm+n:=⟨(aG x.v).length+1-n,aa⟩;have hW:NOk ⟨false,.no,aG (2^s*y.v)⟩:=⟨gM _,by simp only[w1];omega,aA⟩
    have e5:AP af 164 [(NV.mk false .no (jW (aG y.v) s (aG y.v).length)).av]=some (NV.av ⟨false,.no,aG (2^s*y.v)⟩):=by
     rw[sv _ (by simp only[ZC];omega),mo Fm,hsv]
    have hp:=yU (cp:=AP af) (g:=164) (m:=[oc (jW (aG x.v) s (aG x.v).length),oc (jW (aG y.v) s (aG y.v).length)]) (nm:=1) (ds:=jW (aG y.v) s (aG y.v).length) rfl
    have hI:=qrt (v:=aG (2^s*y.v)) (n:=n) (m:=mm) YP aa (qup YP w1 aa (by
     rw[show mm+n-1=(aG x.v).length by omega]
     exact so nT (fC qqK w2)))
    obtain ⟨u',q',i1,i2⟩:=qlp ⟨false,.no,aG (2^s*y.v)⟩ _ (MF (aH f187)) (.U s) (mm+n) n mm w1 n9 (gM _) rfl aa w2 mm _ _ (aR _) hI;obtain ⟨k1,k2⟩:=KInv.done (a:=aG x.v) (b:=aG y.v) z1 aa (by rw[hsu,gQ]) (by rw[gQ,gQ]) i1;rw[gQ,gQ] at k1 k2;have AH:=i1.lq;have Zh:=i1.lu;have i3:=qlt u' q' (MJ (aH f187)) (.arr 2 0 mm none) s (mm+n) n i1.du Zh aa aa z1 n 0 aa;have p1:=yU (cp:=AP af) (g:=164) (m:=M3 u' q'++[oc (mq u' s n)]) (nm:=2) (ds:=q') rfl;have p2:=yU (cp:=AP af) (g:=164) (m:=(M3 u' q'++[oc (mq u' s n)]).set 2 none) (nm:=3) (ds:=mq u' s n) rfl;rw[AH] at p1;rw[GG] at p2;have f1:=uG (x:=⟨false,.no,q'⟩) ⟨i1.dq,by simp only[AH];omega,aA⟩;have f2:=uG (x:=⟨false,.no,mq u' s n⟩) ⟨LH i1.du z1 n,by simp only[GG];omega,aA⟩;rw[NV.v,<- mo i1.dq,k1] at f1;rw[NV.v,<- mo (LH i1.du z1 n),k2] at f2;refine cw _ _ (yj (rK (mD x y)) (rK (pV x y)) (kn _ _)) rfl (m:=[oc u',none,none,none]) ?_ |>.trans (by rw[EY,JJ])
    rw[I7,cI (cX x),e1,aQ,ae,cI (cX y),e2,aQ,ae,iz,ae,mN,ae,aC,an mI,
     fN fX fY,e3,aQ,ae,bz,ae,aC,an hc,ae,xg,ae,aC,an mJ,
     ae,oT (by simp only[];omega) (by simp only[];omega),ae,nk (by simp only[];omega),ae,lr,ae]
    simp only[show (aG y.v).getD ((aG y.v).length-1) 0=(aG y.v).getD (n-1) 0 by rw[hn]];rw[cI (a:=dg ((aG y.v).getD (n-1) 0)) (a':=dg ((aG y.v).getD (n-1) 0)) (gJ _ _),qk0 (pR me) CQ,aQ,ae,hs,Cg aa,ae,VQ [] hX z1,ae,VQ _ hY z1,ae];simp only[bF,bo,ba,b6];rw[ZC] at hp;rw[hp,e5,aQ,ae,iz,ae,qrD,ae];simp only[w1,hmm];rw[om aa aa,ae,pQ,yR aa aa,ae,ae,om aa aa,ae,pQ,vg aa,ae]
    refine Eq.trans ?_ (i2.trans ?_)
    .rfl
    rw[qgK,yR aa aa,ae]
    refine Eq.trans ?_ (i3.trans ?_)
    .rfl
    rw[qg3,p1,f1,aQ,ae,p2,f2,aQ,ae];unfold mD pV;rw[an h1,an h1,an h2]
    rfl
end Go.Ab
namespace Go.Ab
open Go.Proofs.Tryz
def mE(x y:NV):NV:=⟨if Nat.gcd x.v y.v=0 then x.z else false,rW (Nat.gcd x.v y.v),aG (Nat.gcd x.v y.v)⟩
theorem qln(K:KT)(m:ai):∀(n:Nat) (a b:NV),NOk a->NOk b->a.ds=aG a.v->b.ds=aG b.v->b.v=n->a.fr=a->b.fr=b ->
  ∃c:NV,NOk c/\c.ds=aG (Nat.gcd a.v b.v)/\c.fr=c/\(b.v=0->c.z=a.z)/\Ib a.av b.av m K=K (.exit 0) (NJ c.av m):=by
 intro n
 induction n using Nat.strongRecOn with
 | ind n ih=>
  intro a b ha hb ca cb hn fa fb;have fza:=cX a;have fzb:=cX b;rw[fa] at fza;rw[fb] at fzb;rw[qje,iz,ae,xh,ae,aC]
  by_cases h:b.v=0
  .have hl:¬ b.ds.length>0:=by rw[cb,h,mC];simp
   rw[an hl];exact ⟨a,ha,by rw[h,Nat.gcd_zero_right];exact ca,fa,fun _=>rfl,rfl⟩
  .have hl:b.ds.length>0:=by
    rw[cb];have:(aG b.v).length≠0:=fun e=>h (n5.1 e);omega
   rw[aq hl,fN fza fzb,OB ha hb,JK,an h];simp only[aQ,ae];have hlt:a.v%b.v<b.v:=kV _ (pR h);obtain ⟨c,c1,c2,c3,c4,c5⟩:=ih (a.v%b.v) aa b (pV a b) hb (qo2 ha) cb (by rw[JI,Pa]) (Pa a b) fb (JJ a b);rw[Pa] at c2;refine ⟨c,c1,?_,c3,fun e=>absurd e h,c5⟩;rw[c2,wa b.v,<- Nat.gcd_rec,wa]
theorem VP{x y:NV}(hx:NOk x)(hy:NOk y):AP af 183 [x.av,y.av]=some (mE x y).av:=by
 have lx:=hx.v_len';have ly:=hy.v_len';have hX:NOk ⟨x.z,.no,aG x.v⟩:=⟨gM _,lx,hx.z_v⟩;have hY:NOk ⟨y.z,.no,aG y.v⟩:=⟨gM _,ly,hy.z_v⟩;have e1:=uG hx.fr;have e2:=uG hy.fr;rw[show x.fr.v=x.v from rfl,show x.fr.z=x.z from rfl] at e1;rw[show y.fr.v=y.v from rfl,show y.fr.z=y.z from rfl] at e2;have vX:(NV.mk x.z .no (aG x.v)).v=x.v:=gQ _;have vY:(NV.mk y.z .no (aG y.v)).v=y.v:=gQ _;obtain ⟨⟨cz,co,cd⟩,c1,c2,c3,c4,c5⟩:=qln (MB (aH f183)) [] _ _ _ hX hY (by rw[vX]) (by rw[vY]) rfl rfl rfl;rw[vX,vY] at c2;rw[vY] at c4;simp only at c2 c4;subst c2
 have hz:cz=if Nat.gcd x.v y.v=0 then x.z else false:=by
  split
  .rename_i h;exact c4 (Nat.eq_zero_of_gcd_eq_zero_right h)
  .rename_i h;have h5:=c1.nil;simp only at h5
   cases cz with
   | false=>rfl
   | true=>exact absurd (GK.1 (h5 rfl)) h
 refine iW (v:=(NV.mk cz (rW (Nat.gcd x.v y.v)) (aG (Nat.gcd x.v y.v))).av) (m:=[]) ?_ (by rw[cX];simp only[NV.fr,KU];rw[mE,<- hz]) (by simp[mE,NV.av,jo]);rw[qkn,cI (cX x),e1,aQ,ae,cI (cX y),e2,aQ,ae];refine c5.trans ?_;rw[qgs,cI (cX _),c3,VJ c1]
 rfl
theorem XK{a b:Nat}(h:(aG a).length<2^40)(h':(aG b).length<2^40):(aG (Nat.gcd a b)).length<2^40:=by
 by_cases ha:a=0
 .rw[ha,Nat.gcd_zero_left];exact h'
 .exact jQ (mb (Nat.gcd_le_left _ (pR ha))) h
theorem Ye{x y:NV}(hx:NOk x)(hy:NOk y):NOk (mE x y):=by
 refine ⟨gM _,XK hx.v_len' hy.v_len',?_⟩;unfold mE;simp only
 split
 .rename_i h;intro _;rw[h];exact mC
 .intro h;cases h
theorem Yf(x y:NV):(mE x y).v=Nat.gcd x.v y.v:=gQ _
theorem qpK(x y:NV):(mE x y).fr=mE x y:=by unfold mE NV.fr;simp only[KU]
end Go.Ab
namespace Go.Ab
noncomputable section
variable (a0 a1 a2 x0 x1 x3 x4 x5 x6 x7 x8 x9 aN aX aS:AV) (m:ai) (K:KT)
open Go.Proofs.Tryz
theorem T72:AC af 72 [a0] m=(bE .u32 a0).bind fun v1=>(ag .o .shr a0 (.U 32)).bind fun v2=>(bE .u32 v2).bind fun v3=>(df none [v1,v3]).bind fun v4=>(aF (AP af) none m 133 [v4]).bind fun r5=>some (r5.1,r5.2):=
(bm af 72 [a0] m (fn:=f72) (c:=aE f72) qnW rfl).trans au
def Oc:St:=⟨(aO (aJ (x5::bB (aK (aJ []))))),m⟩
def Is:OM:=bY 75 (b8 (c2 (c2 (c2 (aE f75))))) 4 (x0::x1::aK (aJ (x5::x6::bB (aK [])))) m K
def Od:St:=⟨(x0::x1::aK (aJ (x5::x6::x7::bB (aJ [])))),m⟩
def It:OM:=bY 75 (b8 (uN (b8 (c2 (c2 (c2 (aE f75))))))) 8 (x0::x1::aK (aJ (x5::x6::x7::x8::bB []))) m K
abbrev qiq:KT:=bI 75 (bG (aE f75)) K
abbrev qir:KT:=bw 0 (qiq K)
abbrev MS:KT:=(qir K)
abbrev qit:KT:=bI 75 (lH (qP (c2 (aE f75)))) (nU 75 (b8 (c2 (c2 (c2 (aE f75))))) 4 K)
abbrev qiu:KT:=bw 1 (qit K)
abbrev qiv:KT:=bI 75 (lH (uN (EU (aE f75)))) (qiu K)
abbrev qiw:KT:=bw 2 (qiv K)
abbrev MT:KT:=(qiw K)
theorem T75:AC af 75 [a0,a1] m=(aF (AP af) none m 133 [a0]).bind fun r1=>(aF (AP af) none r1.2 133 [a1]).bind fun r2=>(aM false r1.1).bind fun v3=>(aM false r2.1).bind fun v4=>(ag .o .add v3 v4).bind fun v5=>(jy none 161 none (.int .u32 0) 4 r2.2 v5 v5).bind fun r6=>Is r1.1 r2.1 r6.1 (.I 0) r6.2 (MS (aH f75)):=
(bm af 75 [a0,a1] m (fn:=f75) (c:=aE f75) qnZ rfl).trans au
theorem UF:Is x0 x1 x5 x6 m K=(aM false x0).bind fun v1=>(ag .o .lss x6 v1).bind fun v2=>aB v2 (It x0 x1 x5 x6 (.U 0) (.I 0) m (MT K)) (K (.exit 0) (Oc x5 m)):=
(bX (bQ _) _ _ _).trans au
theorem UG:It x0 x1 x5 x6 x7 x8 m K=(aM false x1).bind fun v1=>(ag .o .lss x8 v1).bind fun v2=>aB v2 ((aI none x0 x6).bind fun v3=>(aj none m v3).bind fun v4=>(bE .u64 v4).bind fun v5=>(aI none x1 x8).bind fun v6=>(aj none m v6).bind fun v7=>(bE .u64 v7).bind fun v8=>(ag .o .mul v5 v8).bind fun v9=>(ag .o .add x6 x8).bind fun v10=>(aI none x5 v10).bind fun v11=>(aj none m v11).bind fun v12=>(bE .u64 v12).bind fun bg=>(ag .o .add v9 bg).bind fun bf=>(ag .o .add bf x7).bind fun bh=>(ag .o .add x6 x8).bind fun bK=>(ag .o .rem bh (.U 4294967296)).bind fun bH=>(bE .u32 bH).bind fun cV=>(aI none x5 bK).bind fun cP=>(aP none m cP cV).bind fun m20=>(ag .o .quo bh (.U 4294967296)).bind fun v21=>(ag .o .add x8 (.I 1)).bind fun v22=>It x0 x1 x5 x6 v21 v22 m20 K) (K (.exit 2) (Od x0 x1 x5 x6 x7 m)):=
(bX (bQ _) _ _ _).trans au
theorem qis:MS (aH f75) (.exit 0) (Oc x5 m)=(aF (AP af) none m 133 [x5]).bind fun r1=>some (r1.1,r1.2):=au
theorem qix:MT K (.exit 2) (Od x0 x1 x5 x6 x7 m)=(aM false x1).bind fun v1=>(ag .o .add x6 v1).bind fun v2=>(bE .u32 x7).bind fun v3=>(aI none x5 v2).bind fun v4=>(aP none m v4 v3).bind fun m5=>(ag .o .add x6 (.I 1)).bind fun v6=>Is x0 x1 x5 v6 m5 K:=au
def IQ:St:=⟨(aO (aJ (x5::bC (aO (aK []))))),m⟩
def vM:OM:=bY 76 (b8 (c2 (c2 (c2 (aE f76))))) 4 (x0::x1::aK (aJ (x5::x6::x7::bC (aO [])))) m K
abbrev qiy:KT:=bI 76 (bG (aE f76)) K
abbrev qiz:KT:=bw 0 (qiy K)
abbrev MU:KT:=(qiz K)
theorem T76:AC af 76 [a0,a1] m=vM a0 a1 aD (.U 0) (.I 0) m (MU (aH f76)):=
(bm af 76 [a0,a1] m (fn:=f76) (c:=aE f76) qn0 rfl).trans au
theorem M6:vM x0 x1 x5 x6 x7 m K=(aM false x0).bind fun v1=>(ag .o .lss x7 v1).bind fun v2=>aB v2 ((aF (AP af) none m 135 [x0,x7]).bind fun r3=>(aF (AP af) none r3.2 135 [x1,x7]).bind fun r4=>(ag .o .add r3.1 r4.1).bind fun v5=>(ag .o .add v5 x6).bind fun v6=>(ag .o .rem v6 (.U 4294967296)).bind fun v7=>(bE .u32 v7).bind fun v8=>(df none [v8]).bind fun v9=>(bL none false 161 none 4 r4.2 x5 v9).bind fun gG=>(ag .o .quo v6 (.U 4294967296)).bind fun v11=>(ag .o .add x7 (.I 1)).bind fun v12=>vM x0 x1 gG.1 v11 v12 gG.2 K) ((aM false x1).bind fun bg=>(ag .o .lss x7 bg).bind fun bf=>aB bf ((aF (AP af) none m 135 [x0,x7]).bind fun nt=>(aF (AP af) none nt.2 135 [x1,x7]).bind fun gW=>(ag .o .add nt.1 gW.1).bind fun bH=>(ag .o .add bH x6).bind fun cV=>(ag .o .rem cV (.U 4294967296)).bind fun cP=>(bE .u32 cP).bind fun v20=>(df none [v20]).bind fun v21=>(bL none false 161 none 4 gW.2 x5 v21).bind fun Bk=>(ag .o .quo cV (.U 4294967296)).bind fun v23=>(ag .o .add x7 (.I 1)).bind fun v24=>vM x0 x1 Bk.1 v23 v24 Bk.2 K) ((ag .o .gtr x6 (.U 0)).bind fun v25=>aB v25 ((aF (AP af) none m 135 [x0,x7]).bind fun kD=>(aF (AP af) none kD.2 135 [x1,x7]).bind fun r27=>(ag .o .add kD.1 r27.1).bind fun v28=>(ag .o .add v28 x6).bind fun jh=>(ag .o .rem jh (.U 4294967296)).bind fun v30=>(bE .u32 v30).bind fun v31=>(df none [v31]).bind fun jN=>(bL none false 161 none 4 r27.2 x5 jN).bind fun yW=>(ag .o .quo jh (.U 4294967296)).bind fun nC=>(ag .o .add x7 (.I 1)).bind fun kF=>vM x0 x1 yW.1 nC kF yW.2 K) (K (.exit 0) (IQ x5 m)))):=
(bX (bQ _) _ _ _).trans au
theorem qiA:MU (aH f76) (.exit 0) (IQ x5 m)=(aF (AP af) none m 133 [x5]).bind fun r1=>some (r1.1,r1.2):=au
def Oe:St:=⟨(bC (aV (aO (aJ [])))),m⟩
def I3:St:=⟨(aO (x4::bC (aV []))),m⟩
def Iu:OM:=bY 77 (b8 (c2 (c2 (c2 (aE f77))))) 7 (x0::x1::aK (aJ (x5::bC (aO (aK (aJ [])))))) m K
abbrev qiB:KT:=bI 77 (bG (aE f77)) K
abbrev qiC:KT:=bw 0 (qiB K)
abbrev Hz:KT:=(qiC K)
theorem T77:AC af 77 [a0,a1] m=(aF (AP af) none m 133 [a0]).bind fun r1=>(aF (AP af) none r1.2 133 [a1]).bind fun r2=>(aM false r1.1).bind fun v3=>(aM false r2.1).bind fun v4=>(ag .o .neq v3 v4).bind fun v5=>aB v5 ((aM false r1.1).bind fun v6=>(aM false r2.1).bind fun v7=>(ag .o .lss v6 v7).bind fun v8=>aB v8 (some ((.I (-1)),r2.2)) (some ((.I 1),r2.2))) ((aM false r1.1).bind fun v9=>(ag .o .sub v9 (.I 1)).bind fun v10=>Iu r1.1 r2.1 v10 r2.2 (Hz (aH f77))):=
(bm af 77 [a0,a1] m (fn:=f77) (c:=aE f77) qn1 rfl).trans au
theorem UH:Iu x0 x1 x5 m K=(ag .o .geq x5 (.I 0)).bind fun v1=>aB v1 ((aI none x0 x5).bind fun v2=>(aj none m v2).bind fun v3=>(aI none x1 x5).bind fun v4=>(aj none m v4).bind fun v5=>(ag .o .neq v3 v5).bind fun v6=>aB v6 ((aI none x0 x5).bind fun v7=>(aj none m v7).bind fun v8=>(aI none x1 x5).bind fun v9=>(aj none m v9).bind fun v10=>(ag .o .lss v8 v10).bind fun v11=>aB v11 (K .ret (I3 (.I (-1)) m)) (K .ret (I3 (.I 1) m))) ((ag .o .sub x5 (.I 1)).bind fun v12=>Iu x0 x1 v12 m K)) (K (.exit 0) (Oe m)):=
(bX (bQ _) _ _ _).trans au
theorem qiE:Hz (aH f77) (.exit 0) (Oe  m)=some ((.I 0),m):=au
theorem qiD:Hz (aH f77) .ret (I3 x4 m)=some (x4,m):=au
def Of:St:=⟨(aO (aK (x6::bC (aO (aJ []))))),m⟩
def D9:OM:=bY 78 (b8 (bG (aE f78))) 6 (x0::x1::aO (x6::x7::x8::bC (aK (aJ [])))) m K
abbrev qiF:KT:=bI 78 (bG (c2 (aE f78))) K
abbrev qiG:KT:=bw 0 (qiF K)
abbrev Tc:KT:=(qiG K)
theorem Vu:AC af 78 [a0,a1] m=(aF (AP af) none m 77 [a0,a1]).bind fun r1=>(ag .o .lss r1.1 (.I 0)).bind fun v2=>aB v2 (some ((.tup [aD,(.I 1)]),r1.2)) (D9 a0 a1 aD (.U 0) (.I 0) r1.2 (Tc (aH f78))):=
(bm af 78 [a0,a1] m (fn:=f78) (c:=aE f78) qn2 rfl).trans au
theorem UI:D9 x0 x1 x6 x7 x8 m K=(aM false x0).bind fun v1=>(ag .o .lss x8 v1).bind fun v2=>aB v2 ((aF (AP af) none m 135 [x1,x8]).bind fun r3=>(ag .o .add r3.1 x7).bind fun v4=>(aF (AP af) none r3.2 135 [x0,x8]).bind fun r5=>(ag .o .lss r5.1 v4).bind fun v6=>aB v6 ((aF (AP af) none r5.2 135 [x0,x8]).bind fun r7=>(ag .o .mul (.U 1) (.U 4294967296)).bind fun v8=>(ag .o .add r7.1 v8).bind fun v9=>(ag .o .sub v9 v4).bind fun v10=>(bE .u32 v10).bind fun v11=>(df none [v11]).bind fun v12=>(bL none false 161 none 4 r7.2 x6 v12).bind fun gB=>(ag .o .add x8 (.I 1)).bind fun bf=>D9 x0 x1 gB.1 (.U 1) bf gB.2 K) ((aF (AP af) none r5.2 135 [x0,x8]).bind fun nt=>(ag .o .mul (.U 0) (.U 4294967296)).bind fun bK=>(ag .o .add nt.1 bK).bind fun bH=>(ag .o .sub bH v4).bind fun cV=>(bE .u32 cV).bind fun cP=>(df none [cP]).bind fun v20=>(bL none false 161 none 4 nt.2 x6 v20).bind fun vt=>(ag .o .add x8 (.I 1)).bind fun v22=>D9 x0 x1 vt.1 (.U 0) v22 vt.2 K)) (K (.exit 0) (Of x6 m)):=
(bX (bQ _) _ _ _).trans au
theorem qiH:Tc (aH f78) (.exit 0) (Of x6 m)=(aF (AP af) none m 133 [x6]).bind fun r1=>some ((.tup [r1.1,(.I 0)]),r1.2):=au
theorem qjH:AC af 118 [a0] m=(aM false a0).bind fun v1=>(ag .o .eql v1 (.I 0)).bind fun v2=>aB v2 (some ((.bool true),m)) ((aM false a0).bind fun v3=>(ag .o .sub v3 (.I 1)).bind fun v4=>(aI none a0 v4).bind fun v5=>(aj none m v5).bind fun v6=>(ag .o .neq v6 (.int .u32 0)).bind fun v7=>some (v7,m)):=
(bm af 118 [a0] m (fn:=f118) (c:=aE f118) qmj rfl).trans au
def Ni:St:=⟨(aO (aJ (x5::bB (aV (aO (aK [])))))),m⟩
def HM:OM:=bY 119 (XA (qP (c2 (c2 (aE f119))))) 5 (aO (aJ (x5::aJ (x7::bB (aV (aO [])))))) m K
def IF:St:=⟨(x0::x1::aO (aK (aJ (x9::bB (aV (aK [])))))),m⟩
def BJ:OM:=bY 119 (oL (bG (c2 (c2 (c2 (aE f119)))))) 13 (x0::x1::aO (aK (aJ (x9::bB (aV (aK [])))))) m K
def Nf:St:=⟨(x0::aV (x9::bB (aV (aK [])))),m⟩
def DS:OM:=bY 119 (oL (bG (bG (aE f119)))) 15 (x0::x1::aO (aK (aJ (x9::bB (aV (aK [])))))) m K
def Ng:St:=⟨(x0::x1::aO (aK (aJ (x9::bB (aV (aK [])))))),m⟩
def HK:OM:=bY 119 (XA (XB (bG (bG (c2 (aE f119)))))) 16 (x0::x1::aO (aK (aJ (x9::bB (aV (aK [])))))) m K
def Nh:St:=⟨(x0::x1::aO (aK (aJ (x9::bB (aV (aK [])))))),m⟩
def HL:OM:=bY 119 (oL (JB (EU (bG (c2 (c2 (aE f119))))))) 18 (x0::x1::aO (aK (aJ (x9::bB (aV (aK [])))))) m K
abbrev qd6:KT:=bI 119 (bG (c2 (aE f119))) K
abbrev qd7:KT:=bI 119 (EW (bG (aE f119))) (qd6 K)
abbrev qd8:KT:=bw 0 (qd7 K)
abbrev SW:KT:=(qd8 K)
abbrev qdS:KT:=bI 119 (bG (bG (c2 (aE f119)))) K
abbrev qdT:KT:=bw 2 (qdS K)
abbrev DJ:KT:=(qdT K)
abbrev qdY:KT:=bw 5 (nU 119 (oL (bG (bG (aE f119)))) 15 K)
abbrev qdZ:KT:=bI 119 (EW (rH (bG (c2 (c2 (c2 (aE f119))))))) (qdY K)
abbrev qd0:KT:=bw 6 (qdZ K)
abbrev Mh:KT:=(qd0 K)
abbrev qdV:KT:=bI 119 (bG (bG (c2 (c2 (aE f119))))) K
abbrev qdW:KT:=bw 4 (qdV K)
abbrev SV:KT:=(qdW K)
abbrev qd2:KT:=bw 5 (nU 119 (oL (bG (bG (aE f119)))) 15 K)
abbrev qd3:KT:=bI 119 (O4 (oL (bG (bG (aE f119))))) (qd2 K)
abbrev qd4:KT:=bw 8 (qd3 K)
abbrev Mi:KT:=(qd4 K)
theorem qjI:AC af 119 [a0,a1] m=(aF (AP af) none m 133 [a0]).bind fun r1=>(aF (AP af) none r1.2 133 [a1]).bind fun r2=>(aF (AP af) none r2.2 155 [r1.1]).bind fun r3=>(a8 r3.1 0).bind fun v4=>(a8 r3.1 1).bind fun v5=>(aF (AP af) none r3.2 155 [r2.1]).bind fun r6=>(a8 r6.1 0).bind fun v7=>(a8 r6.1 1).bind fun v8=>aB v5 (aB v8 (HM v4 v7 r6.2 (SW (aH f119))) ((aM false r1.1).bind fun v9=>(ag .o .eql v9 (.I 0)).bind fun v10=>aB v10 (some (r2.1,r6.2)) ((aM false r2.1).bind fun v11=>(ag .o .eql v11 (.I 0)).bind fun v12=>aB v12 (some (r1.1,r6.2)) ((aF (AP af) none r6.2 72 [(.U 1)]).bind fun gB=>BJ r1.1 r2.1 gB.1 gB.2 (DJ (aH f119)))))) ((aM false r1.1).bind fun bf=>(ag .o .eql bf (.I 0)).bind fun bh=>aB bh (some (r2.1,r6.2)) ((aM false r2.1).bind fun bK=>(ag .o .eql bK (.I 0)).bind fun bH=>aB bH (some (r1.1,r6.2)) ((aF (AP af) none r6.2 72 [(.U 1)]).bind fun ij=>BJ r1.1 r2.1 ij.1 ij.2 (DJ (aH f119))))):=
(bm af 119 [a0,a1] m (fn:=f119) (c:=aE f119) qmk rfl).trans au
theorem qi8:HM x5 x7 m K=(ag .o .neq x7 (.U 0)).bind fun v1=>aB v1 ((ag .o .rem x5 x7).bind fun v2=>HM x7 v2 m K) (K (.exit 0) (Ni x5 m)):=
(bX (bQ _) _ _ _).trans au
theorem qi4:BJ x0 x1 x9 m K=(aF (AP af) none m 156 [x0]).bind fun r1=>aB r1.1 ((aF (AP af) none r1.2 156 [x1]).bind fun r2=>aB r2.1 ((aF (AP af) none r2.2 157 [x0]).bind fun r3=>(aF (AP af) none r3.2 157 [x1]).bind fun r4=>(aF (AP af) none r4.2 76 [x9,x9]).bind fun r5=>BJ r3.1 r4.1 r5.1 r5.2 K) (K (.exit 2) (IF x0 x1 x9 r2.2))) (K (.exit 2) (IF x0 x1 x9 r1.2)):=
(bX (bQ _) _ _ _).trans au
theorem qi5:DS x0 x1 x9 m K=(aM false x1).bind fun v1=>(ag .o .gtr v1 (.I 0)).bind fun v2=>aB v2 (HK x0 x1 x9 m (Mh K)) (K (.exit 4) (Nf x0 x9 m)):=
(bX (bQ _) _ _ _).trans au
theorem qi6:HK x0 x1 x9 m K=(aF (AP af) none m 156 [x0]).bind fun r1=>aB r1.1 ((aF (AP af) none r1.2 157 [x0]).bind fun r2=>HK r2.1 x1 x9 r2.2 K) (K (.exit 6) (Ng x0 x1 x9 r1.2)):=
(bX (bQ _) _ _ _).trans au
theorem qi7:HL x0 x1 x9 m K=(aF (AP af) none m 156 [x1]).bind fun r1=>aB r1.1 ((aF (AP af) none r1.2 157 [x1]).bind fun r2=>HL x0 r2.1 x9 r2.2 K) (K (.exit 8) (Nh x0 x1 x9 r1.2)):=
(bX (bQ _) _ _ _).trans au
theorem qd9:SW (aH f119) (.exit 0) (Ni x5 m)=(aF (AP af) none m 72 [x5]).bind fun r1=>some (r1.1,r1.2):=au
theorem qdU:DJ (aH f119) (.exit 2) (IF x0 x1 x9 m)=DS x0 x1 x9 m (SV (aH f119)):=au
theorem qd1:Mh K (.exit 6) (Ng x0 x1 x9 m)=HL x0 x1 x9 m (Mi K):=au
theorem qdX:SV (aH f119) (.exit 4) (Nf x0 x9 m)=(aF (AP af) none m 75 [x0,x9]).bind fun r1=>some (r1.1,r1.2):=au
theorem qd5:Mi K (.exit 8) (Nh x0 x1 x9 m)=(aF (AP af) none m 77 [x0,x1]).bind fun r1=>(ag .o .gtr r1.1 (.I 0)).bind fun v2=>aB v2 ((aF (AP af) none r1.2 78 [x0,x1]).bind fun r3=>(a8 r3.1 0).bind fun v4=>(a8 r3.1 1).bind fun v5=>DS x1 v4 x9 r3.2 K) ((aF (AP af) none r1.2 78 [x1,x0]).bind fun r6=>(a8 r6.1 0).bind fun v7=>(a8 r6.1 1).bind fun v8=>DS x0 v7 x9 r6.2 K):=au
def II:St:=⟨(x0::aK (x3::br (aK []))),m⟩
def HV:OM:=bY 133 (oL (c2 (aE f133))) 2 (x0::aK (x3::br (aK []))) m K
abbrev qeX:KT:=bI 133 (c2 (c2 (c2 (aE f133)))) K
abbrev qeY:KT:=bw 0 (qeX K)
abbrev S0:KT:=(qeY K)
theorem qjW:AC af 133 [a0] m=(aM false a0).bind fun v1=>HV a0 v1 m (S0 (aH f133)):=
(bm af 133 [a0] m (fn:=f133) (c:=aE f133) qmz rfl).trans au
theorem TD:HV x0 x3 m K=(ag .o .gtr x3 (.I 0)).bind fun v1=>aB v1 ((ag .o .sub x3 (.I 1)).bind fun v2=>(aI none x0 v2).bind fun v3=>(aj none m v3).bind fun v4=>(ag .o .eql v4 (.int .u32 0)).bind fun v5=>aB v5 ((ag .o .sub x3 (.I 1)).bind fun v6=>HV x0 v6 m K) (K (.exit 0) (II x0 x3 m))) (K (.exit 0) (II x0 x3 m)):=
(bX (bQ _) _ _ _).trans au
theorem qeZ:S0 (aH f133) (.exit 0) (II x0 x3 m)=(gX none x0 none (some x3) none).bind fun v1=>(bL none false 161 none 4 m aD v1).bind fun r2=>some (r2.1,r2.2):=au
theorem qjY:AC af 135 [a0,a1] m=(aM false a0).bind fun v1=>(ag .o .lss a1 v1).bind fun v2=>aB v2 ((aI none a0 a1).bind fun v3=>(aj none m v3).bind fun v4=>(bE .u64 v4).bind fun v5=>some (v5,m)) (some ((.U 0),m)):=
(bm af 135 [a0,a1] m (fn:=f135) (c:=aE f135) qmB rfl).trans au
def Ns:St:=⟨(aK (aJ (x3::br (aO (aK (aJ [])))))),m⟩
def HW:OM:=bY 136 (b8 (bG (aE f136))) 6 (aK (aJ (x3::x4::br (aO (aK []))))) m K
abbrev qe0:KT:=bI 136 (bG (c2 (aE f136))) K
abbrev qe1:KT:=bw 0 (qe0 K)
abbrev Mp:KT:=(qe1 K)
theorem Vk:AC af 136 [a0] m=(aF (AP af) none m 133 [a0]).bind fun r1=>(aM false r1.1).bind fun v2=>(ag .o .eql v2 (.I 0)).bind fun v3=>aB v3 (some ((.I 0),r1.2)) ((aM false r1.1).bind fun v4=>(ag .o .sub v4 (.I 1)).bind fun v5=>(ag .o .mul (.I 32) v5).bind fun v6=>(aM false r1.1).bind fun v7=>(ag .o .sub v7 (.I 1)).bind fun v8=>(aI none r1.1 v8).bind fun v9=>(aj none r1.2 v9).bind fun v10=>HW v6 v10 r1.2 (Mp (aH f136))):=
(bm af 136 [a0] m (fn:=f136) (c:=aE f136) qmC rfl).trans au
theorem TE:HW x3 x4 m K=(ag .o .gtr x4 (.int .u32 0)).bind fun v1=>aB v1 ((ag .o .add x3 (.I 1)).bind fun v2=>(ag .o .quo x4 (.int .u32 2)).bind fun v3=>HW v2 v3 m K) (K (.exit 0) (Ns x3 m)):=
(bX (bQ _) _ _ _).trans au
theorem qe2:Mp (aH f136) (.exit 0) (Ns x3 m)=some (x3,m):=au
def Nt:St:=⟨(x0::aV (x9::bB (br (aV [])))),m⟩
def HX:OM:=bY 137 (b8 (bG (c2 (c2 (aE f137))))) 11 (x0::x1::aO (aK (aJ (x9::aN::bB (br (aO (aK (aJ [])))))))) m K
def Nu:St:=⟨(x0::x1::aO (aK (aJ (x9::aN::aX::bB (br (aO (aK []))))))),m⟩
def DW:OM:=bY 137 (oL (b8 (nM (bG (c2 (aE f137)))))) 14 (x0::x1::aO (aK (aJ (x9::aN::aX::aS::bB (br (aO (aJ []))))))) m K
abbrev qe3:KT:=bI 137 (bG (c2 (c2 (c2 (aE f137))))) K
abbrev qe4:KT:=bw 0 (qe3 K)
abbrev Mq:KT:=(qe4 K)
abbrev qe6:KT:=bI 137 (lH (qP (bG (aE f137)))) (nU 137 (b8 (bG (c2 (c2 (aE f137))))) 11 K)
abbrev qe7:KT:=bw 1 (qe6 K)
abbrev qe8:KT:=bI 137 (lH (uN (EU (c2 (c2 (c2 (aE f137))))))) (qe7 K)
abbrev qe9:KT:=bw 2 (qe8 K)
abbrev Mr:KT:=(qe9 K)
theorem I6:AC af 137 [a0,a1] m=(aF (AP af) none m 133 [a0]).bind fun r1=>(aF (AP af) none r1.2 133 [a1]).bind fun r2=>(aM false r2.1).bind fun v3=>(ag .o .eql v3 (.I 0)).bind fun v4=>aB v4 (some ((.tup [aD,aD,(.I 31)]),r2.2)) ((aM false r2.1).bind fun v5=>(ag .o .eql v5 (.I 1)).bind fun v6=>aB v6 ((aI none r2.1 (.I 0)).bind fun v7=>(aj none r2.2 v7).bind fun v8=>(bE .u64 v8).bind fun v9=>(aF (AP af) none r2.2 170 [r1.1,v9]).bind fun gG=>(a8 gG.1 0).bind fun v11=>(a8 gG.1 1).bind fun v12=>(aF (AP af) none gG.2 72 [v12]).bind fun gB=>some ((.tup [v11,gB.1,(.I 0)]),gB.2)) ((aM false r1.1).bind fun bf=>(aM false r2.1).bind fun bh=>(ag .o .lss bf bh).bind fun bK=>aB bK (some ((.tup [aD,r1.1,(.I 0)]),r2.2)) ((aM false r1.1).bind fun bH=>(jy none 161 none (.int .u32 0) 4 r2.2 bH bH).bind fun ij=>(aM false r1.1).bind fun cP=>(aM false r2.1).bind fun v20=>(ag .o .sub cP v20).bind fun v21=>HX r1.1 r2.1 ij.1 v21 ij.2 (Mq (aH f137))))):=
(bm af 137 [a0,a1] m (fn:=f137) (c:=aE f137) qmD rfl).trans au
theorem TF:HX x0 x1 x9 aN m K=(ag .o .geq aN (.I 0)).bind fun v1=>aB v1 ((aF (AP af) none m 171 [x0,x1,aN]).bind fun r2=>(a8 r2.1 0).bind fun v3=>(a8 r2.1 1).bind fun v4=>DW x0 x1 x9 aN v3 v4 r2.2 (Mr K)) (K (.exit 0) (Nt x0 x9 m)):=
(bX (bQ _) _ _ _).trans au
theorem TG:DW x0 x1 x9 aN aX aS m K=(ag .o .lss aX aS).bind fun v1=>aB v1 ((ag .o .sub aS aX).bind fun v2=>(ag .o .add v2 (.U 1)).bind fun v3=>(ag .o .quo v3 (.U 2)).bind fun v4=>(ag .o .add aX v4).bind fun v5=>(aF (AP af) none m 172 [x1,v5,aN]).bind fun r6=>(aF (AP af) none r6.2 77 [r6.1,x0]).bind fun r7=>(ag .o .leq r7.1 (.I 0)).bind fun v8=>aB v8 (DW x0 x1 x9 aN v5 aS r7.2 K) ((ag .o .sub v5 (.U 1)).bind fun v9=>DW x0 x1 x9 aN aX v9 r7.2 K)) (K (.exit 2) (Nu x0 x1 x9 aN aX m)):=
(bX (bQ _) _ _ _).trans au
theorem qe5:Mq (aH f137) (.exit 0) (Nt x0 x9 m)=(aF (AP af) none m 133 [x9]).bind fun r1=>some ((.tup [r1.1,x0,(.I 0)]),r1.2):=au
theorem qfa:Mr K (.exit 2) (Nu x0 x1 x9 aN aX m)=(bE .u32 aX).bind fun v1=>(aI none x9 aN).bind fun v2=>(aP none m v2 v1).bind fun m3=>(aF (AP af) none m3 172 [x1,aX,aN]).bind fun r4=>(aF (AP af) none r4.2 78 [x0,r4.1]).bind fun r5=>(a8 r5.1 0).bind fun v6=>(a8 r5.1 1).bind fun v7=>(ag .o .sub aN (.I 1)).bind fun v8=>HX v6 x1 x9 v8 r5.2 K:=au
theorem qj7:AC af 155 [a0] m=(aF (AP af) none m 133 [a0]).bind fun r1=>(aM false r1.1).bind fun v2=>(ag .o .eql v2 (.I 0)).bind fun v3=>aB v3 (some ((.tup [(.U 0),(.bool true)]),r1.2)) ((ag .o .eql v2 (.I 1)).bind fun v4=>aB v4 ((aI none r1.1 (.I 0)).bind fun v5=>(aj none r1.2 v5).bind fun v6=>(bE .u64 v6).bind fun v7=>some ((.tup [v7,(.bool true)]),r1.2)) ((ag .o .eql v2 (.I 2)).bind fun v8=>aB v8 ((aI none r1.1 (.I 1)).bind fun v9=>(aj none r1.2 v9).bind fun v10=>(bE .u64 v10).bind fun v11=>(ag .o .shl v11 (.U 32)).bind fun v12=>(aI none r1.1 (.I 0)).bind fun bg=>(aj none r1.2 bg).bind fun bf=>(bE .u64 bf).bind fun bh=>(ag .o .or v12 bh).bind fun bK=>some ((.tup [bK,(.bool true)]),r1.2)) (some ((.tup [(.U 0),(.bool false)]),r1.2)))):=
(bm af 155 [a0] m (fn:=f155) (c:=aE f155) qmR rfl).trans au
theorem qj8:AC af 156 [a0] m=(aF (AP af) none m 135 [a0,(.I 0)]).bind fun r1=>(ag .o .rem r1.1 (.U 2)).bind fun v2=>(ag .o .eql v2 (.U 0)).bind fun v3=>some (v3,r1.2):=
(bm af 156 [a0] m (fn:=f156) (c:=aE f156) qmS rfl).trans au
theorem qj9:AC af 157 [a0] m=(aF (AP af) none m 133 [a0]).bind fun r1=>(aF (AP af) none r1.2 170 [r1.1,(.U 2)]).bind fun r2=>(a8 r2.1 0).bind fun v3=>(a8 r2.1 1).bind fun v4=>some (v3,r2.2):=
(bm af 157 [a0] m (fn:=f157) (c:=aE f157) qmT rfl).trans au
def NF:St:=⟨(aO (aK (x6::x7::bC (aJ [])))),m⟩
def H9:OM:=bY 170 (b8 (c2 (c2 (c2 (aE f170))))) 4 (x0::x1::aO (x6::x7::x8::bC [])) m K
abbrev qf6:KT:=bI 170 (bG (aE f170)) K
abbrev qf7:KT:=bw 0 (qf6 K)
abbrev MA:KT:=(qf7 K)
theorem qki:AC af 170 [a0,a1] m=(aM false a0).bind fun v1=>(jy none 161 none (.int .u32 0) 4 m v1 v1).bind fun r2=>(aM false a0).bind fun v3=>(ag .o .sub v3 (.I 1)).bind fun v4=>H9 a0 a1 r2.1 (.U 0) v4 r2.2 (MA (aH f170)):=
(bm af 170 [a0,a1] m (fn:=f170) (c:=aE f170) qm7 rfl).trans au
theorem TY:H9 x0 x1 x6 x7 x8 m K=(ag .o .geq x8 (.I 0)).bind fun v1=>aB v1 ((ag .o .mul x7 (.U 4294967296)).bind fun v2=>(aI none x0 x8).bind fun v3=>(aj none m v3).bind fun v4=>(bE .u64 v4).bind fun v5=>(ag .o .add v2 v5).bind fun v6=>(ag .o .quo v6 x1).bind fun v7=>(bE .u32 v7).bind fun v8=>(aI none x6 x8).bind fun v9=>(aP none m v9 v8).bind fun m10=>(ag .o .rem v6 x1).bind fun v11=>(ag .o .sub x8 (.I 1)).bind fun v12=>H9 x0 x1 x6 v11 v12 m10 K) (K (.exit 0) (NF x6 x7 m)):=
(bX (bQ _) _ _ _).trans au
theorem qf8:MA (aH f170) (.exit 0) (NF x6 x7 m)=(aF (AP af) none m 133 [x6]).bind fun r1=>some ((.tup [r1.1,x7]),r1.2):=au
theorem qkj:AC af 171 [a0,a1,a2] m=(aM false a1).bind fun v1=>(ag .o .add a2 v1).bind fun v2=>(aF (AP af) (some m.length) m 135 [a0,v2]).bind fun r3=>(ag .o .shl r3.1 (.U 32)).bind fun v4=>(ag .o .add a2 v1).bind fun v5=>(ag .o .sub v5 (.I 1)).bind fun v6=>(aF (AP af) (some m.length) r3.2 135 [a0,v6]).bind fun r7=>(ag .o .or v4 r7.1).bind fun v8=>(ag .o .sub v1 (.I 1)).bind fun v9=>(aI none a1 v9).bind fun v10=>(aj none r7.2 v10).bind fun v11=>(bE .u64 v11).bind fun v12=>(ag .o .quo v8 v12).bind fun bg=>(ag .o .lss bg (.U 4294967295)).bind fun bf=>aB bf ((ag .o .quo v8 v12).bind fun bh=>(ag .o .add v12 (.U 1)).bind fun bK=>(ag .o .lss bK (.U 4294967296)).bind fun bH=>aB bH ((ag .o .add v12 (.U 1)).bind fun cV=>(ag .o .quo v8 cV).bind fun cP=>(ag .o .lss cP (.U 4294967296)).bind fun v20=>aB v20 ((ag .o .add v12 (.U 1)).bind fun v21=>(ag .o .quo v8 v21).bind fun v22=>(ag .o .gtr v22 bh).bind fun v23=>aB v23 (some ((.tup [bh,bh]),r7.2)) (some ((.tup [v22,bh]),r7.2))) ((ag .o .gtr (.U 0) bh).bind fun v24=>aB v24 (some ((.tup [bh,bh]),r7.2)) (some ((.tup [(.U 0),bh]),r7.2)))) ((ag .o .gtr (.U 0) bh).bind fun v25=>aB v25 (some ((.tup [bh,bh]),r7.2)) (some ((.tup [(.U 0),bh]),r7.2)))) ((ag .o .add v12 (.U 1)).bind fun v26=>(ag .o .lss v26 (.U 4294967296)).bind fun iR=>aB iR ((ag .o .add v12 (.U 1)).bind fun v28=>(ag .o .quo v8 v28).bind fun jh=>(ag .o .lss jh (.U 4294967296)).bind fun v30=>aB v30 ((ag .o .add v12 (.U 1)).bind fun v31=>(ag .o .quo v8 v31).bind fun jN=>(ag .o .gtr jN (.U 4294967295)).bind fun kR=>aB kR (some ((.tup [(.U 4294967295),(.U 4294967295)]),r7.2)) (some ((.tup [jN,(.U 4294967295)]),r7.2))) ((ag .o .gtr (.U 0) (.U 4294967295)).bind fun nC=>aB nC (some ((.tup [(.U 4294967295),(.U 4294967295)]),r7.2)) (some ((.tup [(.U 0),(.U 4294967295)]),r7.2)))) ((ag .o .gtr (.U 0) (.U 4294967295)).bind fun kF=>aB kF (some ((.tup [(.U 4294967295),(.U 4294967295)]),r7.2)) (some ((.tup [(.U 0),(.U 4294967295)]),r7.2)))):=
(bm af 171 [a0,a1,a2] m (fn:=f171) (c:=aE f171) qm8 rfl).trans au
def NG:St:=⟨(aO (aK (aJ (x7::x8::bC (aJ []))))),m⟩
def Ia:OM:=bY 172 (b8 (c2 (c2 (c2 (aE f172))))) 4 (x0::x1::aO (aJ (x7::x8::x9::bC []))) m K
abbrev qf9:KT:=bI 172 (bG (aE f172)) K
abbrev qga:KT:=bw 0 (qf9 K)
abbrev S7:KT:=(qga K)
theorem qkk:AC af 172 [a0,a1,a2] m=(A5 none none (.int .u32 0) 4 m a2 a2).bind fun r1=>Ia a0 a1 r1.1 (.U 0) (.I 0) r1.2 (S7 (aH f172)):=
(bm af 172 [a0,a1,a2] m (fn:=f172) (c:=aE f172) qm9 rfl).trans au
theorem TZ:Ia x0 x1 x7 x8 x9 m K=(aM false x0).bind fun v1=>(ag .o .lss x9 v1).bind fun v2=>aB v2 ((aI none x0 x9).bind fun v3=>(aj none m v3).bind fun v4=>(bE .u64 v4).bind fun v5=>(ag .o .mul v5 x1).bind fun v6=>(ag .o .add v6 x8).bind fun v7=>(ag .o .rem v7 (.U 4294967296)).bind fun v8=>(bE .u32 v8).bind fun v9=>(df none [v9]).bind fun v10=>(bL none false 161 none 4 m x7 v10).bind fun jU=>(ag .o .quo v7 (.U 4294967296)).bind fun v12=>(ag .o .add x9 (.I 1)).bind fun bg=>Ia x0 x1 jU.1 v12 bg jU.2 K) (K (.exit 0) (NG x7 x8 m)):=
(bX (bQ _) _ _ _).trans au
theorem qgb:S7 (aH f172) (.exit 0) (NG x7 x8 m)=(bE .u32 x8).bind fun v1=>(df none [v1]).bind fun v2=>(bL none false 161 none 4 m x7 v2).bind fun r3=>(aF (AP af) none r3.2 133 [r3.1]).bind fun r4=>some (r4.1,r4.2):=au
end
end Go.Ab
namespace Go.Ab
open Go.Proofs.Tryz
def oZ(m:ai)(ds:List Nat):NV:=if ds=[] then ⟨true,.full,[]⟩ else ⟨false,.tok m.length 161,ds⟩
def qa(m:ai)(ds:List Nat):ai:=if ds=[] then m else o9 m ds.length
def rY(ds:List Nat):NV:=if ds=[] then ⟨true,.full,[]⟩ else ⟨false,.no,ds⟩
theorem qtl(m:ai)(ds:List Nat):(oZ m ds).fr=rY ds:=by unfold oZ rY;split<;>rfl
theorem qtj(ds:List Nat):(rY ds).fr=rY ds:=by unfold rY;split<;>rfl
theorem y4(ds:List Nat):(rY ds).ds=ds:=by
 unfold rY
 split
 .rename_i h;rw[h]
 .rfl
theorem Py(m:ai)(ds:List Nat):Fz (oZ m ds).av (rY ds).av:=by
 have:=cX (oZ m ds)
 rwa [qtl] at this
theorem qtk{ds:List Nat}(h:Dg ds)(h':ds.length<2^40):NOk (rY ds):=by
 refine ⟨by rw[y4];exact h,by rw[y4];exact h',?_⟩;unfold rY
 split
 .intro _;rfl
 .intro h;cases h
theorem qbV(ds:List Nat):(rY ds).v=val ds:=by rw[NV.v,y4]
theorem j8{R:Type}{x y:Option R}:aB (.bool true) x y=x:=rfl
theorem j7{R:Type}{x y:Option R}:aB (.bool false) x y=y:=rfl
theorem WZ{m:ai}{ds:List Nat}{z:Bool}{o:Own}(h:ds.length*4<=ft):bL none false 161 none 4 m aD (.lst none z o (ds.map dg))=some ((oZ m ds).av,qa m ds):=by
 cases ds with
 | nil=>rfl
 | cons d ds=>
  have h2:(ds.length+1)*4<=ft:=by simpa using h
  simp only[oZ,qa,NV.av,bL,gh,ba,bo,bu,bq,h2,bJ,az,o9,Sh.size,bF,reduceCtorEq,lp,jJ,or_true,bq]
theorem OS{m:ai}{ds:List Nat}{v:Nat}(h:(ds.length+1)*4<=ft):bL none false 161 none 4 (qa m ds) (oZ m ds).av (.lst none false .full [.int .u32 v])=some ((oZ m (ds++[v])).av,qa m (ds++[v])):=by
 cases ds with
 | nil=>exact WZ (ds:=[v]) h
 | cons d ds=>
  have:=EJ (e:=161) (b:=4) (m:=m) (es:=(d::ds).map dg) (z:=false) (o:=.full) (y:=.int .u32 v) (by rw[bu];exact h);rw[bu] at this;simp only[oZ,qa,reduceCtorEq,lp,NV.av];rw[this];simp[dg,oZ,qa]
def cc(n:Nat):NV:=rY (aG n)
theorem jM(n:Nat):(cc n).fr=cc n:=qtj _
theorem kQ(n:Nat):(cc n).ds=aG n:=y4 _
theorem fO(n:Nat):(cc n).v=n:=by rw[NV.v,kQ,gQ]
theorem iu{n:Nat}(h:(aG n).length<2^40):NOk (cc n):=qtk (gM n) h
theorem p9(n:Nat):aM false (cc n).av=some (.I (aG n).length):=by rw[iz,kQ]
theorem iY(n:Nat):Fz (cc n).av (cc n).av:=by
 have:=cX (cc n)
 rwa [jM] at this
theorem wD(n:Nat):∀m k,cq m (k+1) (cc n).av=some ((cc n).av,[]):=by
 have:=rK (cc n)
 rwa [jM] at this
theorem qlf(x:NV)(m:ai)(K:KT):∀n:Nat,n<=x.ds.length->x.ds.length<2^62->HV x.av (.I n) m K=K (.exit 0) (II x.av (.I (mR x.ds n)) m):=by
 intro n
 induction n with
 | zero=>
  intro _ _;rw[TD];simp[gE,aB,mR]
 | succ n ih=>
  intro hn hl;have ih:=ih aa hl;rw[TD];have h1:((n+1:Nat):Int)>0:=aa;have h2:IntKind.wrap .i64 (((n+1:Nat):Int)-1)=n:=by rw[iV]<;>omega
  simp only[gE,ae,aC,aq h1,pz,h2];rw[NV.av,vh aa aa];simp only[ae,gP,dg,iK,aC,cU];rw[mR]
  by_cases h:x.ds.getD n 0=0
  .rw[aq aa,aq h];exact ih
  .rw[an aa,an h]
theorem zP(x:NV)(dx:Dg x.ds)(hl:x.ds.length<2^41):AP af 133 [x.av]=some (cc x.v).av:=by
 have ht:=Gz x.ds x.ds.length;refine cw _ _ (Py [] (aG x.v)) (qC _) (m:=qa [] (aG x.v)) ?_;rw[qjW,iz,ae,qlf x [] _ _ (aR _) aa,qeZ];have hs:=qco (z:=x.z) (o:=x.o) (ds:=x.ds) (k:=.i64) (i:=mR x.ds x.ds.length) aa aa;rw[<- NV.av] at hs;rw[hs,ae];have he:x.ds.take (mR x.ds x.ds.length)=aG x.v:=mo dx;have hdl:=XL dx;rw[cU,he,WZ (by rw[NV.v];simp only[ft];omega)]
 rfl
theorem sw{x:NV}(h:NOk x):AP af 133 [x.av]=some (cc x.v).av:=zP x h.dg (by have:=h.len;omega)
theorem wg{x:NV}{i:Nat}(h:NOk x)(hi:i<2^60):AP af 135 [x.av,.I i]=some (.U (x.ds.getD i 0:Nat)):=by
 have:=h.dg i;refine iW (m:=[]) ?_ (gJ _ _ _) (by simp[jo]);rw[qjY,iz,ae,bS,ae,aC]
 by_cases hl:i<x.ds.length
 .rw[aq hl,nk hl,ae,lr,ae,nH _ this,ae]
 .rw[an hl,Aq aa];rfl
theorem VB{x:NV}(h:NOk x):AP af 118 [x.av]=some (.bool (qN x.ds)):=by
 have hx:=h.len;refine iW (m:=[]) ?_ (km _ _) (by simp[jo]);rw[<- RF h.dg,qjH,iz,ae,mN,ae,aC]
 by_cases h0:x.ds.length=0
 .rw[aq h0];simp[y2,h0]
 .rw[an h0,ae,oT aa aa,ae,nk aa,ae,lr,ae,dg,qaX,ae];simp[y2,h0]
theorem W77(x y:NV)(m:ai)(K:KT)(hl:x.ds.length<2^62):∀n:Nat,n<=x.ds.length->n<=y.ds.length ->
  Iu x.av y.av (.I ((n:Int)-1)) m K=if nL x.ds y.ds n=0 then K (.exit 0) (Oe m) else K .ret (I3 (.I (nL x.ds y.ds n)) m):=by
 intro n
 induction n with
 | zero=>
  intro _ _;rw[UH];simp[ki,aB,nL]
 | succ n ih=>
  intro hx hy;have ih:=ih aa aa;rw[UH,show ((n+1:Nat):Int)-1=(n:Nat) by omega,Ge,ae,j8];rw[nk aa,ae,lr,ae,nk aa,ae,lr,ae,dg,dg,Q2,ae,aC]
  by_cases h:x.ds.getD n 0=y.ds.getD n 0
  .have hc:nL x.ds y.ds (n+1)=nL x.ds y.ds n:=by rw[nL,an aa,an aa]
   rw[hc,an (fun hn=>hn h),vg aa,ae];exact ih
  .rw[aq h,ae,lr,ae,ae,lr,ae,bS,ae,aC]
   by_cases h2:x.ds.getD n 0<y.ds.getD n 0
   .have hc:nL x.ds y.ds (n+1)=-1:=by rw[nL,aq h2]
    rw[hc,aq h2];rfl
   .have hc:nL x.ds y.ds (n+1)=1:=by rw[nL,an h2,aq aa]
    rw[hc,an h2];rfl
theorem zW{x y:NV}(hx:NOk x)(hy:NOk y):AP af 77 [x.av,y.av]=some (.I (gZ x.v y.v)):=by
 have lx:=hx.v_len';have ly:=hy.v_len';refine iW (m:=[]) ?_ (gJ _ _ _) (by simp[jo]);rw[T77,cI (cX x),sw hx.fr,aQ,ae,cI (cX y),sw hy.fr,aQ,ae];rw[show x.fr.v=x.v from rfl,show y.fr.v=y.v from rfl,p9,ae,p9,ae,Q2,ae,aC,<- Xx]
 by_cases h:(aG x.v).length=(aG y.v).length
 .have hc:wo (aG x.v) (aG y.v)=nL (aG x.v) (aG y.v) (aG x.v).length:=by
   unfold wo;rw[an aa,an aa]
  rw[hc,an (fun hn=>hn h),ae,vg aa,ae];have:=W77 (cc x.v) (cc y.v) [] (Hz (aH f77)) (by rw[kQ];omega) (aG x.v).length (by rw[kQ];exact aR _) (by rw[kQ];omega);rw[this,qiE,qiD,kQ,kQ]
  split
  .rename_i h0;rw[h0]
  .rfl
 .rw[aq h,ae,ae,bS,ae,aC];unfold wo
  by_cases h2:(aG x.v).length<(aG y.v).length
  .rw[aq h2,aq h2]
  .have h3:(aG x.v).length>(aG y.v).length:=aa;rw[an h2,an h2,aq h3]
theorem Ez{n:Nat}(h:n<18446744073709551616):AP af 72 [.U n]=some (cc n).av:=by
 have hb:∀a b:Nat,df none [.int .u32 (a:Nat),.int .u32 (b:Nat)]=some (NV.av ⟨false,.full,[a,b]⟩):=fun _ _=>rfl;have hd:Dg [n%4294967296,n/4294967296]:=nN.2 ⟨kV _ aa,wz aa⟩;refine cw _ _ (iY n) (qC _) (m:=[]) ?_;rw[T72,nK,ae,LF,ae,nK,ae,mz (by omega:n/4294967296<4294967296),hb,ae,cI (cX _),sw (NOk.fr ⟨hd,aA,aA⟩)];simp only[aQ,ae,NV.fr,NV.v,val];congr 4;omega
theorem VH{x:NV}(h:NOk x):AP af 155 [x.av]=some (ui x.v):=by
 have e:ui x.v=uh (cc x.v).ds:=by rw[kQ,qcq]
 rw[e];refine iW (m:=[]) ?_ ((JR _).1 _) (by simp[(JR _).2]);rw[qj7,cI (cX x),sw h.fr];have dt:Dg (cc x.v).ds:=by rw[kQ];exact gM _
 simp only[aQ,ae];rw[show x.fr.v=x.v from rfl];generalize cc x.v=a at dt;rw[iz,ae,mN,ae,aC];obtain ⟨z,o,ds⟩:=a
 match ds,dt with
 | [],_=>rfl
 | [d],dt=>
  have h0:=(nN.1 dt).1;rw[an aA,xg,ae,aC,aq aA,Ks aA,ae,lr,ae];simp only[qk];rw[nH d h0]
  rfl
 | [d,e],dt=>
  have h0:=(nN.1 dt).1;have h1:=(nN.1 (nN.1 dt).2).1;have i1:aI none (NV.mk z o [d,e]).av (.I 1)=some (.vptr [dg e]):=rfl;rw[an aA,xg,ae,aC,an aA,qaW,ae,aC,aq aA,i1,ae,lr,ae,nH e h1,ae,GF h1,ae,Ks aA,ae,lr,ae];simp only[qk];rw[nH d h0,ae,GD h1 h0,ae];simp only[uh,th]
 | d::e::f::l,_=>
  rw[an aA,xg,ae,aC,an aA,qaW,ae,aC,an aA]
  rfl
end Go.Ab
namespace Go.Ab
open Go.Proofs.Tryz
theorem Si{tk:TK}{a:Nat}(h:a<18446744073709551616):ag tk .rem (.U a) (.U 4294967296)=some (.U (a%4294967296:Nat)):=Du (b:=4294967296) aa h
theorem Sg{tk:TK}{a:Nat}(h:a<18446744073709551616):ag tk .quo (.U a) (.U 4294967296)=some (.U (a/4294967296:Nat)):=Bt (b:=4294967296) aa h
theorem qcS{tk:TK}{a:Nat}:ag tk .gtr (.U a) (.U 0)=some (.bool (decide (a>0))):=xh
theorem QX(a:Nat):a%4294967296%4294967296=a%4294967296:=Nat.mod_mod _ _
theorem EP(n:Nat):df none [.int .u32 (n:Nat)]=some (.lst none false .full [.int .u32 n]):=rfl
theorem Ma{x y:NV}(hx:NOk x)(hy:NOk y)(m:ai)(K:KT)(i:Nat)(hi:i<2^41)(fx:x.fr=x)(fy:y.fr=y) :
  ((aF (AP af) none (qa m (de x.ds y.ds i).1) 135 [x.av,.I i]).bind fun r3=>
  (aF (AP af) none r3.2 135 [y.av,.I i]).bind fun r4=>
  (ag .o .add r3.1 r4.1).bind fun v5=>
  (ag .o .add v5 (.U (de x.ds y.ds i).2)).bind fun v6=>
  (ag .o .rem v6 (.U 4294967296)).bind fun v7=>
  (bE .u32 v7).bind fun v8=>
  (df none [v8]).bind fun v9=>
  (bL none false 161 none 4 r4.2 (oZ m (de x.ds y.ds i).1).av v9).bind fun gG=>
  (ag .o .quo v6 (.U 4294967296)).bind fun v11=>
  (ag .o .add (.I i) (.I 1)).bind fun v12=>
  vM x.av y.av gG.1 v11 v12 gG.2 K) =
  vM x.av y.av (oZ m (de x.ds y.ds (i+1)).1).av (.U (de x.ds y.ds (i+1)).2) (.I (i+1:Nat)) (qa m (de x.ds y.ds (i+1)).1) K:=by
 have fzx:=cX x;have fzy:=cX y;rw[fx] at fzx;rw[fy] at fzy;have hc:=zY hx.dg hy.dg i;have h1:=hx.dg i;have h2:=hy.dg i;have hl:=xW x.ds y.ds i;have e:(de x.ds y.ds i).2+x.ds.getD i 0+y.ds.getD i 0=x.ds.getD i 0+y.ds.getD i 0+(de x.ds y.ds i).2:=aa;simp only[de,e]
 rw[fN fzx (gJ _ _),wg hx aa,aQ,ae,fN fzy (gJ _ _),wg hy aa,aQ,ae,
  pg aa,ae,pg aa,ae,Si aa,ae,nK,ae,QX,EP,ae,
  OS (by rw[hl];simp only[ft];omega),ae,Sg aa,ae,bU aa,ae]
def tm(a b:List Nat):Nat:=if (de a b (max a.length b.length)).2>0 then max a.length b.length+1 else max a.length b.length
theorem qlM{a b:List Nat}(ha:Dg a)(hb:Dg b):val (de a b (tm a b)).1=val a+val b:=by
 have hc:=zY ha hb (max a.length b.length)
 have e1:∀n,max a.length b.length<=n->(de a b n).2=0->val (de a b n).1=val a+val b:=by
  intro n hn h0;have:=OO a b n;rw[h0,oI,kU,jI aa,jI aa] at this;exact this
 unfold tm
 split
 .refine e1 _ aa ?_;have o1:a.getD (max a.length b.length) 0=0:=Aq aa;have o2:b.getD (max a.length b.length) 0=0:=Aq aa;simp only[de,o1,o2];omega
 .exact e1 _ (aR _) aa
theorem W76{x y:NV}(hx:NOk x)(hy:NOk y)(m:ai)(K:KT)(fx:x.fr=x)(fy:y.fr=y):∀j i:Nat,i+j=max x.ds.length y.ds.length ->
  ∃v,vM x.av y.av (oZ m (de x.ds y.ds i).1).av (.U (de x.ds y.ds i).2) (.I i) (qa m (de x.ds y.ds i).1) K
   = K (.exit 0) (IQ (oZ m (de x.ds y.ds (tm x.ds y.ds)).1).av v):=by
 have lx:=hx.len;have ly:=hy.len
 have lst:∀i,x.ds.length<=i->y.ds.length<=i->i<2^41->(de x.ds y.ds i).2=0 ->
   vM x.av y.av (oZ m (de x.ds y.ds i).1).av (.U (de x.ds y.ds i).2) (.I i) (qa m (de x.ds y.ds i).1) K=K (.exit 0) (IQ (oZ m (de x.ds y.ds i).1).av (qa m (de x.ds y.ds i).1)):=by
  intro i h1 h2 h3 h4;rw[M6,iz,ae,bS,ae,aC,an aa,iz,ae,bS,ae,aC,an aa,qcS,ae,aC,an aa]
 intro j
 induction j with
 | zero=>
  intro i hi;have hi:i=max x.ds.length y.ds.length:=aa
  by_cases hc:(de x.ds y.ds i).2>0
  .have ht:tm x.ds y.ds=i+1:=by unfold tm;rw[<- hi,aq hc]
   have o1:x.ds.getD i 0=0:=Aq aa;have o2:y.ds.getD i 0=0:=Aq aa;have yo:=zY hx.dg hy.dg i;refine ⟨qa m (de x.ds y.ds (i+1)).1,?_⟩;rw[M6,iz,ae,bS,ae,aC,an aa,iz,ae,bS,ae,aC,an aa,qcS,ae,aC,aq hc,Ma hx hy m K i aa fx fy,ht];exact lst (i+1) aa aa aa (by simp only[de,o1,o2];omega)
  .have ht:tm x.ds y.ds=i:=by unfold tm;rw[<- hi,an hc]
   rw[ht];exact ⟨_,lst i aa aa aa aa⟩
 | succ j ih=>
  intro i hi;obtain ⟨v,ih⟩:=ih (i+1) aa;refine ⟨v,?_⟩;rw[M6,iz,ae,bS,ae,aC]
  by_cases h1:i<x.ds.length
  .rw[aq h1,Ma hx hy m K i aa fx fy];exact ih
  .rw[an h1,iz,ae,bS,ae,aC,aq aa,Ma hx hy m K i aa fx fy];exact ih
theorem VU{x y:NV}(hx:NOk x)(hy:NOk y)(fx:x.fr=x)(fy:y.fr=y):AP af 76 [x.av,y.av]=some (cc (x.v+y.v)).av:=by
 have lx:=hx.len;have ly:=hy.len;obtain ⟨v,hw⟩:=W76 hx hy [] (MU (aH f76)) fx fy (max x.ds.length y.ds.length) 0 aa;have hl:=xW x.ds y.ds (tm x.ds y.ds);have hT:tm x.ds y.ds<=max x.ds.length y.ds.length+1:=by unfold tm;split<;>omega
 have hd:=ON x.ds y.ds (tm x.ds y.ds);refine cw _ _ (iY _) (qC _) (m:=v) ?_;rw[T76];refine hw.trans ?_;rw[qiA,cI (Py _ _),zP _ (by rw[y4];exact hd) (by rw[y4,hl];omega),qbV,qlM hx.dg hy.dg]
 rfl
def kd(a b:List Nat):Nat->List Nat×Nat
 | 0=>([],0)
 | i+1=>if a.getD i 0<b.getD i 0+(kd a b i).2 then ((kd a b i).1++[a.getD i 0+4294967296-(b.getD i 0+(kd a b i).2)],1)
  else ((kd a b i).1++[a.getD i 0-(b.getD i 0+(kd a b i).2)],0)
theorem Gy(a b:List Nat):∀i,(kd a b i).1.length=i
 | 0=>rfl
 | i+1=>by simp only[kd];split<;>simp[Gy a b i]
theorem Lu(a b:List Nat):∀i,(kd a b i).2<=1
 | 0=>by simp[kd]
 | i+1=>by simp only[kd];split<;>simp
theorem Lv{a b:List Nat}(ha:Dg a)(hb:Dg b):∀i,Dg (kd a b i).1
 | 0=>Ah
 | i+1=>by
  have:=Lu a b i;have h1:=ha i;have h2:=hb i;simp only[kd]
  split
  .exact Ag (Lv ha hb i) (wz aa)
  .exact Ag (Lv ha hb i) (wz aa)
theorem qt0{a b:List Nat}(ha:Dg a)(hb:Dg b)(i:Nat):val (kd a b i).1+vs b i=vs a i+4294967296^i*(kd a b i).2:=by
 induction i with
 | zero=>
  rw[kd,sW,sW]
  rfl
 | succ i ih=>
  have hl:=Gy a b i;have hc:=Lu a b i;have h1:=ha i;have h2:=hb i;rw[kf,kf,kh,kd];obtain ⟨s1,s2⟩:=qcA (x:=a.getD i 0) (y:=b.getD i 0) (v1:=4294967296) ih;rw[th (kd a b i).2] at s1 s2
  split
  .rename_i hlt;simp only[];rw[zc,hl,val,val,oI,kU];exact s1 hlt aa
  .rename_i hlt;simp only[];rw[zc,hl,val,val,oI,kU];exact s2 hlt
theorem qtZ{a b:List Nat}(ha:Dg a)(hb:Dg b)(h:val b<=val a):val (kd a b a.length).1=val a-val b:=by
 have h1:=qt0 ha hb a.length;rw[jI (aR _),qcY ha h] at h1;have h2:=nX (Lv ha hb a.length);rw[Gy] at h2;have h3:=nX ha;have hc:=Lu a b a.length
 have:(kd a b a.length).2=0:=by
  apply s8;intro hn;have e:(kd a b a.length).2=1:=aa;rw[e,mV] at h1;omega
 rw[this,oI,kU] at h1;omega
theorem W78{x y:NV}(hx:NOk x)(hy:NOk y)(m:ai)(K:KT)(fx:x.fr=x)(fy:y.fr=y):∀j i:Nat,i+j=x.ds.length ->
  D9 x.av y.av (oZ m (kd x.ds y.ds i).1).av (.U (kd x.ds y.ds i).2) (.I i) (qa m (kd x.ds y.ds i).1) K
   = K (.exit 0) (Of (oZ m (kd x.ds y.ds x.ds.length).1).av (qa m (kd x.ds y.ds x.ds.length).1)):=by
 have lx:=hx.len;have fzx:=cX x;have fzy:=cX y;rw[fx] at fzx;rw[fy] at fzy;intro j
 induction j with
 | zero=>
  intro i hi;have:i=x.ds.length:=aa;subst this;rw[UI,iz,ae,bS,ae,aC,an aa]
 | succ j ih=>
  intro i hi;have ih:=ih (i+1) aa;have hc:=Lu x.ds y.ds i;have h1:=hx.dg i;have h2:=hy.dg i;have hl:=Gy x.ds y.ds i;have s1:ag .o .mul (.U 1) (.U 4294967296)=some (.U (4294967296:Nat)):=rfl;have s0:ag .o .mul (.U 0) (.U 4294967296)=some (.U (0:Nat)):=rfl;rw[UI,iz,ae,bS,ae,aC,aq aa,fN fzy (gJ _ _),wg hy aa,aQ,ae,pg aa,ae,fN fzx (gJ _ _),wg hx aa,aQ,ae,bS,ae,aC];simp only[kd] at ih
  by_cases h:x.ds.getD i 0<y.ds.getD i 0+(kd x.ds y.ds i).2
  .rw[aq h] at ih ⊢
   rw[fN fzx (gJ _ _),wg hx aa,aQ,ae,s1,ae,pg aa,ae,Bu aa aa,ae,nK,ae,EP,ae,mz aa,
    OS (by rw[hl];simp only[ft];omega),ae,bU aa,ae]
   exact ih
  .rw[an h] at ih ⊢
   rw[fN fzx (gJ _ _),wg hx aa,aQ,ae,s0,ae,pg aa,ae,Bu aa aa,ae,nK,ae,EP,ae,mz aa,
    OS (by rw[hl];simp only[ft];omega),ae,bU aa,ae]
   exact ih
def Dn(x y:NV):AV:=if x.v<y.v then .tup [C4,.I 1] else .tup [(cc (x.v-y.v)).av,.I 0]
theorem EA{x y:NV}(hx:NOk x)(hy:NOk y)(fx:x.fr=x)(fy:y.fr=y):AP af 78 [x.av,y.av]=some (Dn x y):=by
 have lx:=hx.len;have fzx:=cX x;have fzy:=cX y;rw[fx] at fzx;rw[fy] at fzy;unfold Dn
 by_cases h:x.v<y.v
 .rw[aq h];refine cw _ _ (wC Cs (kn _ _)) rfl (m:=[]) ?_;rw[Vu,fN fzx fzy,zW hx hy,aQ,ae,bz,ae,aC,gZ,aq h,aq aa]
 .rw[an h];have hl:=Gy x.ds y.ds x.ds.length;have hd:=Lv hx.dg hy.dg x.ds.length;refine cw _ _ (wC (wD (x.v-y.v)) (kn _ _)) rfl (m:=qa [] (kd x.ds y.ds x.ds.length).1) ?_;have hc:¬ gZ x.v y.v<0:=by unfold gZ;rw[an h];split<;>omega
  rw[Vu,fN fzx fzy,zW hx hy,aQ,ae,bz,ae,aC,an hc];refine (W78 hx hy [] _ fx fy x.ds.length 0 (by omega)).trans ?_;rw[qiH,cI (Py _ _),zP _ (by rw[y4];exact hd) (by rw[y4,hl];omega),qbV,qtZ hx.dg hy.dg (xQ h)]
  rfl
theorem qlA(x y:NV)(m:ai)(K:KT)(i n:Nat)(s:List Nat×Nat)(hl:n<2^42)(hn:s.1.length=n)(hi:i+y.ds.length<=n)(iy:i<x.ds.length)(dx:Dg x.ds)(dy:Dg y.ds)(hs:Dg s.1)(hc:s.2<4294967296):∀j k:Nat,k+j=y.ds.length ->
  It x.av y.av (.arr m.length 0 n none) (.I i) (.U (ir y.ds (x.ds.getD i 0) i k s).2) (.I k) (m++[oc (ir y.ds (x.ds.getD i 0) i k s).1]) K
   = K (.exit 2) (Od x.av y.av (.arr m.length 0 n none) (.I i) (.U (ir y.ds (x.ds.getD i 0) i y.ds.length s).2) (m++[oc (ir y.ds (x.ds.getD i 0) i y.ds.length s).1])):=by
 intro j
 induction j with
 | zero=>
  intro k hk;have:k=y.ds.length:=aa;subst this;rw[UG,iz,ae,bS,ae,aC,an aa]
 | succ j ih=>
  intro k hk;have ih:=ih (k+1) aa;have hx:=dx i;obtain ⟨h1,h2⟩:=C2 (i:=i) dy hx hs hc k;have h3:=h1 (i+k);have h4:=dy k;have h5:x.ds.getD i 0*y.ds.getD k 0<=4294967295*4294967295:=ti aa aa;have hlen:=yT y.ds (x.ds.getD i 0) i s k;have aU:∀l,(m++[oc l])[m.length]?=some (oc l):=fun l=>BY ..
  have u7:∀l l',(m++[oc l]).set m.length (oc l')=m++[oc l']:=by
   intro l l';rw[tg _ _ (aR _),qn,cW]
  rw[UG,iz,ae,bS,ae,aC,aq aa];simp only[ir] at ih;generalize ir y.ds (x.ds.getD i 0) i k s=t at *
  rw[nk iy,ae,lr,ae,nH _ hx,ae,nk aa,ae,lr,ae,nH _ h4,ae,GC aa,ae,lU aa,ae,gF aa,ae,ub (aU _) aa,ae,nH _ h3,ae,
   pg aa,ae,pg aa,ae,ae,Si aa,ae,nK,ae,QX,gF aa,ae,qd (aU _) aa,u7,ae,Sg aa,ae,bU aa,ae]
  have e:t.2+(t.1.getD (i+k) 0+x.ds.getD i 0*y.ds.getD k 0)=x.ds.getD i 0*y.ds.getD k 0+t.1.getD (i+k) 0+t.2:=aa;rw[e] at ih;exact ih
theorem W75(x y:NV)(m:ai)(K:KT)(hx:x.ds.length<2^40)(hy:y.ds.length<2^40)(dx:Dg x.ds)(dy:Dg y.ds):∀j i:Nat,i+j=x.ds.length ->
  Is x.av y.av (.arr m.length 0 (x.ds.length+y.ds.length) none) (.I i) (m++[oc (jf x.ds y.ds i)]) K
   = K (.exit 0) (Oc (.arr m.length 0 (x.ds.length+y.ds.length) none) (m++[oc (jf x.ds y.ds x.ds.length)])):=by
 intro j
 induction j with
 | zero=>
  intro i hi;have:i=x.ds.length:=aa;subst this;rw[UF,iz,ae,bS,ae,aC,an aa]
 | succ j ih=>
  intro i hi;have ih:=ih (i+1) aa;rw[UF,iz,ae,bS,ae,aC,aq aa];have hb:=qlA x y m (MT K) i (x.ds.length+y.ds.length) (jf x.ds y.ds i,0) aa (yS ..) aa aa dx dy (A6 dx dy i) aA y.ds.length 0 aa
  refine Eq.trans ?_ (hb.trans ?_)
  .rfl
  obtain ⟨h1,h2⟩:=C2 (i:=i) (s:=(jf x.ds y.ds i,0)) dy (dx i) (A6 dx dy i) aA y.ds.length;have hl:=yT y.ds (x.ds.getD i 0) i (jf x.ds y.ds i,0) y.ds.length;simp only[yS] at hl;have aU:∀l,(m++[oc l])[m.length]?=some (oc l):=fun l=>BY ..
  have u7:∀l l',(m++[oc l]).set m.length (oc l')=m++[oc l']:=by
   intro l l';rw[tg _ _ (aR _),qn,cW]
  rw[qix,iz,ae,lU aa,ae,nK,ae,mz h2,gF aa,ae,qd (aU _) aa,u7,ae,bU aa,ae];exact ih
theorem Cb{x y:NV}(hx:NOk x)(hy:NOk y):AP af 75 [x.av,y.av]=some (cc (x.v*y.v)).av:=by
 have lx:=hx.v_len';have ly:=hy.v_len';have hd:=A6 (gM x.v) (gM y.v) (aG x.v).length;have hlen:=yS (aG x.v) (aG y.v) (aG x.v).length;have hval:=Q0 (aG x.v) (aG y.v) (aG x.v).length (aR _);rw[jI (aR _),gQ,gQ] at hval;refine cw _ _ (iY _) (qC _) (m:=[none]) ?_;rw[T75,cI (cX x),sw hx.fr,aQ,ae,cI (cX y),sw hy.fr,aQ,ae];rw[show x.fr.v=x.v from rfl,show y.fr.v=y.v from rfl,p9,ae,p9,ae,lU aa,ae,yR aa aa,ae];have hw:=W75 (cc x.v) (cc y.v) [] (MS (aH f75)) (by rw[kQ];omega) (by rw[kQ];omega) (by rw[kQ];exact gM _) (by rw[kQ];exact gM _) (aG x.v).length 0 (by rw[kQ];omega);simp only[kQ] at hw
 refine Eq.trans ?_ (hw.trans ?_)
 .rfl
 have hp:=yU (cp:=AP af) (g:=133) (m:=[]++[oc (jf (aG x.v) (aG y.v) (aG x.v).length)]) (nm:=0) (ds:=jf (aG x.v) (aG y.v) (aG x.v).length) rfl;rw[hlen] at hp;rw[qis,show ([]:ai).length=0 from rfl,hp,zP _ hd (by simp only[hlen];omega)];simp only[NV.v] at hval ⊢;rw[hval]
 rfl
theorem qll(x:NV)(d:Nat)(m:ai)(K:KT)(hl:x.ds.length<2^40)(dx:Dg x.ds)(hd:0<d)(lP:d<4294967296):∀j k:Nat,k+j=x.ds.length ->
  H9 x.av (.U d) (.arr m.length 0 x.ds.length none) (.U (iU x.ds d k).2) (.I ((j:Int)-1)) (m++[oc (iU x.ds d k).1]) K
   = K (.exit 0) (NF (.arr m.length 0 x.ds.length none) (.U (iU x.ds d x.ds.length).2) (m++[oc (iU x.ds d x.ds.length).1])):=by
 intro j
 induction j with
 | zero=>
  intro k hk;have:k=x.ds.length:=aa;subst this;rw[TY];simp[ki,aB]
 | succ j ih=>
  intro k hk;have ih:=ih (k+1) aa;have hr:=Lj (a:=x.ds) hd k;have hq:=RT (a:=x.ds) dx hd k j;have hlen:=y8 x.ds d k;have hj:=dx j;have ej:x.ds.length-1-k=j:=aa;have mB:∀a:Nat,a<4294967296->ag .o .mul (.U a) (.U 4294967296)=some (.U (a*4294967296:Nat)):=fun a h=>GC (b:=4294967296) aa
  have u7:∀l l',(m++[oc l]).set m.length (oc l')=m++[oc l']:=by
   intro l l';rw[tg _ _ (aR _),qn,cW]
  rw[TY,show ((j+1:Nat):Int)-1=(j:Nat) by omega,Ge,ae,j8];simp only[iU,ej] at ih;generalize iU x.ds d k=t at *;rw[mB _ aa,ae,nk aa,ae,lr,ae,nH _ hj,ae,pg aa,ae,Bt aa aa,ae,nK,ae,gF aa,ae,mz hq,qd (BY ..) aa,u7,ae,Du aa aa,ae,vg aa,ae];exact ih
theorem VM{x:NV}{d:Nat}(hx:NOk x)(hd:0<d)(lP:d<4294967296):AP af 170 [x.av,.U d]=some (.tup [(cc (x.v/d)).av,.U (x.v%d:Nat)]):=by
 have lx:=hx.len;obtain ⟨k1,k2⟩:=qck hx.dg hd;refine cw _ _ (wC (wD (x.v/d)) (kn _ _)) rfl (m:=[none]) ?_;rw[qki,iz,ae,yR aa aa,ae,ae,vg aa,ae];have:=qll x d [] (MA (aH f170)) lx hx.dg hd lP x.ds.length 0 aa;refine this.trans ?_;have hp:=yU (cp:=AP af) (g:=133) (m:=[]++[oc (iU x.ds d x.ds.length).1]) (nm:=0) (ds:=(iU x.ds d x.ds.length).1) rfl;rw[y8] at hp;rw[Ll,mo (Dl hx.dg hd _)] at k1;rw[qf8,show ([]:ai).length=0 from rfl,hp,zP _ (Dl hx.dg hd _) (by simp only[y8];omega),k2];simp only[aQ,ae,NV.v];rw[qo1 k1]
 rfl
theorem Jb{x:NV}(hx:NOk x):AP af 157 [x.av]=some (cc (x.v/2)).av:=by
 refine cw _ _ (iY _) (qC _) (m:=[]) ?_;have h:=VM (d:=2) (iu hx.v_len') aa aa;rw[fO] at h;rw[qj9,cI (cX x),sw hx.fr,aQ,ae,show x.fr.v=x.v from rfl,fN (iY _) (gJ _ _)];simp only[];rw[show AV.int .u64 2=.int .u64 ((2:Nat):Int) from rfl,h]
 rfl
theorem qpL(ds:List Nat):ds.getD 0 0%2=val ds%2:=by
 cases ds with
 | nil=>rfl
 | cons d ds=>rw[qk,val];omega
theorem Ja{x:NV}(hx:NOk x):AP af 156 [x.av]=some (.bool (decide (x.v%2=0))):=by
 have h0:=hx.dg 0;have h:=wg (i:=0) hx.fr aa;refine iW (m:=[]) ?_ (km _ _) (by simp[jo]);rw[qj8,fN (cX x) (gJ _ _),show AV.int .i64 0=.int .i64 ((0:Nat):Int) from rfl,h,aQ,ae];simp only[NV.fr];rw[show AV.U 2=.U ((2:Nat):Int) from rfl,Du aa aa,ae,mN,ae,qpL]
 rfl
end Go.Ab
namespace Go.Ab
open Go.Proofs.Tryz
def jq(b:List Nat)(d s:Nat):Nat->List Nat×Nat
 | 0=>(List.replicate s 0,0)
 | i+1=>((jq b d s i).1++[(b.getD i 0*d+(jq b d s i).2)%4294967296],(b.getD i 0*d+(jq b d s i).2)/4294967296)
theorem LC(b:List Nat)(d s:Nat):∀i,(jq b d s i).1.length=s+i
 | 0=>by simp[jq]
 | i+1=>by simp only[jq,aW,LC b d s i,ba,bo];omega
theorem Se{b:List Nat}{d:Nat}(hb:Dg b)(hd:d<4294967296)(s:Nat):∀i,(jq b d s i).2<4294967296
 | 0=>by simp[jq]
 | i+1=>by
  have:=Se hb hd s i;have h1:=hb i;have h5:b.getD i 0*d<=4294967295*4294967295:=ti aa aa;simp only[jq];omega
theorem qcK(b:List Nat)(d s:Nat):∀i,Dg (jq b d s i).1
 | 0=>Ai _
 | i+1=>Ag (qcK b d s i) (wz (kV _ aa))
theorem qcL(b:List Nat)(d s:Nat):∀i,val (jq b d s i).1+4294967296^(s+i)*(jq b d s i).2=4294967296^s*(vs b i*d)
 | 0=>by simp[jq,LM,sW]
 | i+1=>by
  have ih:=qcL b d s i;simp only[jq,zc,LC,val,kf];have h1:=Dc (4294967296^(s+i)) 4294967296 (b.getD i 0*d+(jq b d s i).2);generalize hw:b.getD i 0*d+(jq b d s i).2=w at *;rw[<- hw,gL,hw] at h1
  have e:4294967296^s*((vs b i+4294967296^i*b.getD i 0)*d)=4294967296^s*(vs b i*d)+4294967296^(s+i)*(b.getD i 0*d):=by
   rw[iI,gL,sr,fQ,fQ]
  rw[e,<- ih,<- oH,kh,oI,kU];omega
def tV(m:ai)(i:Nat)(ds:List Nat):NV:=if i=0 then ⟨false,.full,ds⟩ else ⟨false,.tok m.length 161,ds⟩
def tM(m:ai)(i:Nat)(ds:List Nat):ai:=if i=0 then m else o9 m ds.length
theorem W0{m:ai}{i:Nat}{ds:List Nat}{v:Nat}(h:(ds.length+1)*4<=ft):bL none false 161 none 4 (tM m i ds) (tV m i ds).av (.lst none false .full [.int .u32 v])=some ((tV m (i+1) (ds++[v])).av,tM m (i+1) (ds++[v])):=by
 by_cases hi:i=0
 .subst hi;simp only[tV,tM,bJ,NV.av,bL,bu,ba,bo,bq,h,az,o9,Sh.size,jJ,lp,true_or,iH,gh,sk,dg,aW,Nat.add_eq_zero_iff,Nat.one_ne_zero,and_false,Nat.succ_ne_zero]
 .have:=EJ (e:=161) (b:=4) (m:=m) (es:=ds.map dg) (z:=false) (o:=.full) (y:=.int .u32 v) (by rw[bu];exact h);rw[bu] at this;simp only[tV,tM,an hi,NV.av,an (Nat.succ_ne_zero i)];rw[this];simp[dg]
theorem qlm(x:NV)(d s:Nat)(m:ai)(K:KT)(hl:x.ds.length<2^40)(dx:Dg x.ds)(hd:d<4294967296)(hs:s<2^40):∀j i:Nat,i+j=x.ds.length ->
  Ia x.av (.U d) (tV m i (jq x.ds d s i).1).av (.U (jq x.ds d s i).2) (.I i) (tM m i (jq x.ds d s i).1) K
   = K (.exit 0) (NG (tV m x.ds.length (jq x.ds d s x.ds.length).1).av (.U (jq x.ds d s x.ds.length).2) (tM m x.ds.length (jq x.ds d s x.ds.length).1)):=by
 intro j
 induction j with
 | zero=>
  intro i hi;have:i=x.ds.length:=aa;subst this;rw[TZ,iz,ae,bS,ae,aC,an aa]
 | succ j ih=>
  intro i hi;have ih:=ih (i+1) aa;have h1:=dx i;have h2:=Se dx hd s i;have hlen:=LC x.ds d s i;have h5:x.ds.getD i 0*d<=4294967295*4294967295:=ti aa aa;simp only[jq] at ih
  rw[TZ,iz,ae,bS,ae,aC,aq aa,nk aa,ae,lr,ae,nH _ h1,ae,GC aa,ae,pg aa,ae,Si aa,ae,nK,ae,QX,EP,ae,
   W0 (by rw[hlen];simp only[ft];omega),ae,Sg aa,ae,bU aa,ae]
  exact ih
theorem VN{x:NV}{d s:Nat}(hx:NOk x)(hd:d<4294967296)(hs:s<2^40):AP af 172 [x.av,.U d,.I s]=some (cc (4294967296^s*(x.v*d))).av:=by
 have lx:=hx.len;have hlen:=LC x.ds d s x.ds.length;have hc:=Se hx.dg hd s x.ds.length;have hv:=qcL x.ds d s x.ds.length;rw[jI (aR _)] at hv;have hdg:Dg ((jq x.ds d s x.ds.length).1++[(jq x.ds d s x.ds.length).2]):=Ag (qcK _ _ _ _) (wz hc)
 have nb:A5 none none (.int .u32 0) 4 [] (.I s) (.I s)=some ((NV.mk false .full (List.replicate s 0)).av,[]):=by
  have h1:(s:Int)*4<=281474976710656:=aa;have h2:(s:Int)<=9223372036854775807:=aa;have h3:(0:Int)<=s:=aa;simp only[A5,NV.av,List.map_replicate,dg];rw[aq ⟨⟨h3,trivial,h1,h2⟩,rfl,rfl⟩]
  rfl
 refine cw _ _ (iY _) (qC _) (m:=tM [] (x.ds.length+1) ((jq x.ds d s x.ds.length).1++[(jq x.ds d s x.ds.length).2])) ?_;rw[qkk,nb,ae];refine (qlm x d s [] _ lx hx.dg hd hs x.ds.length 0 (by omega)).trans ?_
 have hfz:Fz (tV [] (x.ds.length+1) ((jq x.ds d s x.ds.length).1++[(jq x.ds d s x.ds.length).2])).av (NV.mk false .no ((jq x.ds d s x.ds.length).1++[(jq x.ds d s x.ds.length).2])).av:=by
  have:=cX (tV [] (x.ds.length+1) ((jq x.ds d s x.ds.length).1++[(jq x.ds d s x.ds.length).2]));unfold tV at this ⊢;rw[an aa] at this ⊢;exact this
 rw[qgb,nK,ae,EP,ae,mz hc,W0 (by rw[hlen];simp only[ft];omega),ae,cI hfz,zP _ hdg (by simp only[aW,hlen,ba,bo];omega)];simp only[aQ,ae,NV.v] at hv ⊢;rw[zc,hlen,val,val,oI,kU,hv]
theorem qs0{a b p q top lead:Nat}(hq:q*b<=a)(ha:a<(top+1)*p)(hb:lead*p<=b)(hl:0<lead):q<=top/lead:=by
 rw[Iz hl];have h1:q*lead*p<=q*b:=by rw[fQ];exact lG _ hb
 have h2:q*lead*p<(top+1)*p:=aa;have:=IB h2;omega
theorem qsZ{a b p top lead:Nat}(ha:top*p<=a)(hb:b<=(lead+1)*p)(hb0:0<b):top/(lead+1)<=a/b:=by
 rw[Iz hb0];have h1:top/(lead+1)*b<=top/(lead+1)*((lead+1)*p):=lG _ hb;rw[<- fQ] at h1;have h2:top/(lead+1)*(lead+1)*p<=top*p:=jl _ (Iy _ _);omega
theorem quz{a:List Nat}{k:Nat}(ha:Dg a)(h:val a<4294967296^(k+2)):(a.getD (k+1) 0*4294967296+a.getD k 0)*4294967296^k<=val a/\val a<(a.getD (k+1) 0*4294967296+a.getD k 0+1)*4294967296^k:=by
 have h1:val a=vs a (k+2):=by
  have hz:∀j,vs a (k+2+j)=vs a (k+2):=by
   intro j
   induction j with
   | zero=>rfl
   | succ j ih=>
    rw[<- oH,kf,ih];have hle:=qcZ a (k+2+j+1);rw[kf] at hle;have hp:4294967296^(k+2)<=4294967296^(k+2+j):=qI aa aa
    have h0:a.getD (k+2+j) 0=0:=by
     apply s8;intro hn;have:4294967296^(k+2+j)*1<=4294967296^(k+2+j)*a.getD (k+2+j) 0:=lG _ aa;omega
    rw[h0,oI,kU]
  rw[<- jI (a:=a) (i:=k+2+a.length) aa];exact hz a.length
 have h2:=zf ha k;rw[h1,kf,kf,kh,iI _ 1,iI,fQ,dF (4294967296^k) (a.getD k 0),dF (4294967296^k) 4294967296,dF (4294967296*4294967296^k)];omega
theorem qkU{x y:NV}{i n:Nat}(hx:NOk x)(hy:NOk y)(hi:i<2^40)(hn:y.ds.length=n)(mJ:1<=n)(qqp:y.ds.getD (n-1) 0≠0)(hq:x.v/(y.v*4294967296^i)<4294967296) :
  ∃lo hi:Nat,AP af 171 [x.av,y.av,.I i]=some (.tup [.U lo,.U hi])/\lo<=x.v/(y.v*4294967296^i)/\x.v/(y.v*4294967296^i)<=hi/\hi<4294967296:=by
 have lx:=hx.len;have ly:=hy.len;obtain ⟨k,rfl⟩:∃k,n=k+1:=⟨n-1,aa⟩;rw[pQ] at qqp;have w5:y.v=vs y.ds k+4294967296^k*y.ds.getD k 0:=by rw[NV.v,<- jI (Nat.le_of_eq hn),kf]
 have iE:=zf hy.dg k;have yw:=hy.dg k;have Qj:0<4294967296^i:=Nat.pow_pos aa;have wT:0<4294967296^k:=Nat.pow_pos aa
 have hyp:0<y.v:=by
  rw[w5];have:4294967296^k*1<=4294967296^k*y.ds.getD k 0:=lG _ aa;omega
 have hb0:0<y.v*4294967296^i:=Nat.mul_pos hyp Qj
 have hb1:y.ds.getD k 0*4294967296^(k+i)<=y.v*4294967296^i:=by
  rw[sr,<- fQ];exact jl _ (by rw[w5,dF];omega)
 have hb2:y.v*4294967296^i<=(y.ds.getD k 0+1)*4294967296^(k+i):=by
  rw[sr,<- fQ];refine jl _ ?_;rw[w5,iI,rD,dF];omega
 have qq9:val x.ds<4294967296^(k+i+2):=by
  rw[vZ hb0] at hq;have h1:(y.ds.getD k 0+1)*4294967296^(k+i)<=4294967296*4294967296^(k+i):=jl _ yw;have h2:4294967296*(y.v*4294967296^i)<=4294967296*(4294967296*4294967296^(k+i)):=lG _ (fC hb2 h1);rw[kh,kh]
  have h3:4294967296^(k+i)*4294967296*4294967296=4294967296*(4294967296*4294967296^(k+i)):=by
   rw[dF,dF (4294967296^(k+i))]
  rw[h3];exact so hq h2
 obtain ⟨t1,t2⟩:=quz hx.dg qq9;have d1:=hx.dg (k+i+1);have d2:=hx.dg (k+i);have qle:x.v/(y.v*4294967296^i)<=(x.ds.getD (k+i+1) 0*4294967296+x.ds.getD (k+i) 0)/y.ds.getD k 0:=qs0 (Iy _ _) t2 hb1 aa;have qge:(x.ds.getD (k+i+1) 0*4294967296+x.ds.getD (k+i) 0)/(y.ds.getD k 0+1)<=x.v/(y.v*4294967296^i):=qsZ t1 hb2 hb0;have hfz:=wC (kn .u64 0) (kn .u64 0)
 have key:∃lo hi:Nat,AC af 171 [x.av,y.av,.I i] []=some (.tup [.U lo,.U hi],[])/\lo<=x.v/(y.v*4294967296^i)/\x.v/(y.v*4294967296^i)<=hi/\hi<4294967296:=by
  have e1:i+(k+1)=k+i+1:=aa;have uB:∀a:Nat,ag .o .lss (.U a) (.U 4294967295)=some (.bool (decide (a<4294967295))):=fun a=>bS (b:=4294967295);have u0:∀a:Nat,ag .o .gtr (.U 0) (.U a)=some (.bool (decide (0>a))):=fun a=>A7 (a:=0);have u0B:ag .o .gtr (.U 0) (.U 4294967295)=some (.bool false):=rfl;have uaB:∀a:Nat,ag .o .gtr (.U a) (.U 4294967295)=some (.bool (decide (a>4294967295))):=fun a=>A7 (b:=4294967295);have ua1:∀a:Nat,a<4294967296->ag .o .add (.U a) (.U 1)=some (.U (a+1:Nat)):=fun a h=>pg (b:=1) aa;rw[qkj,iz,hn,ae,lU aa,ae,fN (cX x) (gJ _ _),wg hx.fr aa,aQ,ae];rw[show x.fr.ds=x.ds from rfl,e1,GF (hx.dg _),ae,ae,oT aa aa,ae,pQ,fN (cX x) (gJ _ _),wg hx.fr aa,aQ,ae];rw[show x.fr.ds=x.ds from rfl,GD (hx.dg _) (hx.dg _),ae,oT aa aa,ae,pQ,nk aa,ae,lr,ae,nH _ yw,ae,Bt aa aa,ae,uB,ae,aC];have hdl:=B3 (x.ds.getD (k+i+1) 0*4294967296+x.ds.getD (k+i) 0) (y.ds.getD k 0+1);have uq:ag .o .quo (.U (x.ds.getD (k+i+1) 0*4294967296+x.ds.getD (k+i) 0:Nat)) (.U (y.ds.getD k 0+1:Nat))=some (.U ((x.ds.getD (k+i+1) 0*4294967296+x.ds.getD (k+i) 0)/(y.ds.getD k 0+1):Nat)):=Bt aa aa
  by_cases c1:(x.ds.getD (k+i+1) 0*4294967296+x.ds.getD (k+i) 0)/y.ds.getD k 0<4294967295
  .rw[aq c1,ae,ua1 _ yw,ae,KM,ae,aC]
   by_cases c2:y.ds.getD k 0+1<4294967296
   .rw[aq c2,ae,uq,ae,KM,ae,aC]
    by_cases c3:(x.ds.getD (k+i+1) 0*4294967296+x.ds.getD (k+i) 0)/(y.ds.getD k 0+1)<4294967296
    .rw[aq c3,ae,uq,ae,A7,ae,aC,an aa];exact ⟨_,_,rfl,qge,qle,aa⟩
    .rw[an c3,u0,ae,aC,an (Nat.not_lt_zero _)];exact ⟨0,_,rfl,oJ _,qle,aa⟩
   .rw[an c2,u0,ae,aC,an (Nat.not_lt_zero _)];exact ⟨0,_,rfl,oJ _,qle,aa⟩
  .rw[an c1,ua1 _ yw,ae,KM,ae,aC]
   by_cases c2:y.ds.getD k 0+1<4294967296
   .rw[aq c2,ae,uq,ae,KM,ae,aC]
    by_cases c3:(x.ds.getD (k+i+1) 0*4294967296+x.ds.getD (k+i) 0)/(y.ds.getD k 0+1)<4294967296
    .rw[aq c3,ae,uq,ae,uaB,ae,aC,an aa];exact ⟨_,4294967295,rfl,qge,aa,aa⟩
    .rw[an c3,u0B,ae,j7];exact ⟨0,4294967295,rfl,oJ _,aa,aa⟩
   .rw[an c2,u0B,ae,j7];exact ⟨0,4294967295,rfl,oJ _,aa,aa⟩
 obtain ⟨lo,gu,k1,k2⟩:=key;exact ⟨lo,gu,cw _ _ (wC (kn _ _) (kn _ _)) rfl k1,k2⟩
end Go.Ab
namespace Go.Ab
open Go.Proofs.Tryz
theorem XM{b s d:Nat}(hd:d<4294967296):(aG (4294967296^s*(b*d))).length<=s+((aG b).length+1):=by
 refine oN ?_;rw[sr];refine Nat.mul_lt_mul_of_pos_left ?_ (Nat.pow_pos aa);have h:=nX (gM b);rw[gQ] at h;rw[kh];exact Nat.mul_lt_mul'' h hd
theorem qli{a b i q:Nat}(K:KT)(x9:AV)(m:ai)(la:(aG a).length<2^40)(lb:(aG b).length<2^40)(hi:i<2^39)(lb2:(aG b).length+i+1<2^40)(hq:q=a/(b*4294967296^i))(hb:0<b):∀(r lo gu:Nat),gu-lo<=r->lo<=q->q<=gu->gu<4294967296 ->
  DW (cc a).av (cc b).av x9 (.I i) (.U lo) (.U gu) m K=K (.exit 2) (Nu (cc a).av (cc b).av x9 (.I i) (.U q) m):=by
 have Qj:0<4294967296^i:=Nat.pow_pos aa;have hbp:0<b*4294967296^i:=Nat.mul_pos hb Qj;intro r
 induction r with
 | zero=>
  intro lo gu hr h1 h2 h3;have:lo=q:=aa;subst this;rw[TG,bS,ae,aC,an aa]
 | succ r ih=>
  intro lo gu hr h1 h2 h3;rw[TG,bS,ae,aC]
  by_cases hlt:lo<gu
  .have u1:∀a:Nat,a<4294967296->ag .o .add (.U a) (.U 1)=some (.U (a+1:Nat)):=fun a h=>pg (b:=1) aa;have u2:∀a:Nat,a<4294967298->ag .o .quo (.U a) (.U 2)=some (.U (a/2:Nat)):=fun a h=>Bt (b:=2) aa aa;rw[aq hlt,Bu aa aa,ae,u1 _ aa,ae,u2 _ aa,ae,pg aa,ae];generalize Zj:lo+(gu-lo+1)/2=mid;have pG:lo<mid:=aa;have fT:mid<=gu:=aa;have hpl:=XM (b:=b) (s:=i) (d:=mid) aa;rw[Db (iY b) (gJ _ _) (gJ _ _),VN (iu lb) aa aa,aQ,ae,fO,fN (iY _) (iY a),zW (iu aa) (iu la),aQ,ae,rG,ae,aC,fO,fO]
   have J1:gZ (4294967296^i*(b*mid)) a<=0↔mid<=q:=by
    rw[hq,Iz hbp];have e:mid*(b*4294967296^i)=4294967296^i*(b*mid):=by rw[dF,dF b,fQ]
    rw[e];unfold gZ
    constructor
    .intro h;apply xQ;intro hc;rw[an aa,aq hc] at h;omega
    .intro h
     split
     .omega
     .rw[an aa];omega
   by_cases hc:mid<=q
   .rw[aq (J1.2 hc)];exact ih mid gu aa hc h2 h3
   .rw[an (fun h=>hc (J1.1 h)),LG aa aa,ae];exact ih lo (mid-1) aa h1 aa aa
  .have:lo=q:=aa;subst this;rw[an hlt]
structure DInv (a0 b la j:Nat) (a:Nat) (q:List Nat):Prop where
 dq:Dg q
 lq:q.length=la
 lt:a<b*4294967296^j
 eq:wn q j (la-j)*(b*4294967296^j)+a=a0
theorem DInv.step{a0 b la j a:Nat}{q:List Nat}(hb:0<b)(hj:j<la)(h:DInv a0 b la (j+1) a q) :
  a/(b*4294967296^j)<4294967296/\DInv a0 b la j (a%(b*4294967296^j)) (q.set j (a/(b*4294967296^j))):=by
 have hp:0<b*4294967296^j:=Nat.mul_pos hb (Nat.pow_pos aa);have e0:b*4294967296^(j+1)=4294967296*(b*4294967296^j):=by rw[kh,<- fQ,dF]
 have hlt:=h.lt;have heq:=h.eq;rw[e0] at hlt heq;have hq:a/(b*4294967296^j)<4294967296:=by rw[vZ hp];exact hlt
 refine ⟨hq,h.dq.set _ _ hq,by rw[il,h.lq],kV _ hp,?_⟩;obtain ⟨r,hr⟩:∃r,la-j=r+1:=⟨la-j-1,aa⟩;rw[hr,GN,sF (by rw[h.lq];exact hj),vE aa,<- heq,show la-(j+1)=r by omega];have h2:=xP a (b*4294967296^j);generalize b*4294967296^j=p at *;rw[iI,dF (a/p),dF 4294967296,fQ];omega
theorem qlh{a0 b la:Nat}(K:KT)(hb:0<b)(lla:la<2^39)(l0:(aG a0).length<2^39)(lb:(aG b).length<2^39):∀(j a:Nat) (q:List Nat),j<=la->a<=a0->DInv a0 b la j a q ->
  ∃a' q',DInv a0 b la 0 a' q'/\HX (cc a).av (cc b).av (.arr 0 0 la none) (.I ((j:Int)-1)) [oc q] K=K (.exit 0) (Nt (cc a').av (.arr 0 0 la none) [oc q']):=by
 intro j
 induction j with
 | zero=>
  intro a q _ _ hI;refine ⟨a,q,hI,?_⟩;rw[TF];simp[ki,aB]
 | succ j ih=>
  intro a q hj ha hI;obtain ⟨hq,Fb⟩:=hI.step hb aa;have la':(aG a).length<2^39:=jQ (mb ha) l0;have AH:=hI.lq;obtain ⟨a',q',i1,i2⟩:=ih _ _ aa (fC (Nat.mod_le _ _) ha) Fb;refine ⟨a',q',i1,?_⟩;have mG:b≠0:=aa;have pF:(aG b).length≠0:=fun e=>mG (n5.1 e);obtain ⟨lo,gu,g1,g2,g3,g4⟩:=qkU (i:=j) (n:=(aG b).length) (iu (n:=a) aa) (iu (n:=b) aa) aa (by rw[kQ]) aa (by rw[kQ];exact JE mG) (by rw[fO,fO];exact hq);rw[fO,fO] at g2 g3;rw[TF,show ((j+1:Nat):Int)-1=(j:Nat) by omega,Ge,ae,j8,Db (iY a) (iY b) (gJ _ _),g1,aQ,ae];simp only[a8]
  rw[show ([AV.U lo,AV.U gu]:List AV)[0]?=some (.U lo) from rfl,show ([AV.U lo,AV.U gu]:List AV)[1]?=some (.U gu) from rfl,ae,ae,
   qli (Mr K) _ _ aa aa aa aa rfl hb (gu-lo) lo gu (aR _) g2 g3 g4]
  have hpl:=XM (b:=b) (s:=j) (d:=a/(b*4294967296^j)) hq;have he:4294967296^j*(b*(a/(b*4294967296^j)))=b*4294967296^j*(a/(b*4294967296^j)):=by rw[<- fQ,dF b]
  have hJ:a-4294967296^j*(b*(a/(b*4294967296^j)))=a%(b*4294967296^j):=by
   rw[he];have:=xP a (b*4294967296^j);omega
  have hle:¬ a<4294967296^j*(b*(a/(b*4294967296^j))):=by
   rw[he];have:=xP a (b*4294967296^j);omega
  rw[qfa,nK,ae,mz hq,gF aa,ae,qd (m:=[oc q]) (n:=0) (ds:=q) rfl aa,ae,Db (iY b) (gJ _ _) (gJ _ _),VN (iu (n:=b) aa) hq aa,aQ,ae,fO,
   fN (iY a) (iY (4294967296^j*(b*(a/(b*4294967296^j))))),EA (iu (n:=a) aa) (iu (n:=4294967296^j*(b*(a/(b*4294967296^j)))) aa) (jM a) (jM (4294967296^j*(b*(a/(b*4294967296^j))))),aQ,ae]
  unfold Dn;rw[fO,fO,an hle,hJ];simp only[a8];rw[show ([(cc (a%(b*4294967296^j))).av,AV.I 0]:List AV)[0]?=some (cc (a%(b*4294967296^j))).av from rfl,show ([(cc (a%(b*4294967296^j))).av,AV.I 0]:List AV)[1]?=some (.I 0) from rfl,ae,ae,vg aa,ae];exact i2
def O9(x y:NV):AV:=if y.v=0 then .tup [C4,C4,.I 31] else .tup [(cc (x.v/y.v)).av,(cc (x.v%y.v)).av,.I 0]
theorem qta:(cc 0).av=aD:=by rw[cc,mC];rfl
theorem VF{x y:NV}(hx:NOk x)(hy:NOk y)(lx:(aG x.v).length<2^39)(ly:(aG y.v).length<2^39):AP af 137 [x.av,y.av]=some (O9 x y):=by
 have e1:=sw hx.fr;have e2:=sw hy.fr;rw[show x.fr.v=x.v from rfl] at e1;rw[show y.fr.v=y.v from rfl] at e2;have hX:=iu (n:=x.v) aa;have hY:=iu (n:=y.v) aa;unfold O9
 by_cases h0:y.v=0
 .rw[aq h0];refine cw _ _ (yj Cs Cs (kn _ _)) rfl (m:=[]) ?_;rw[I6,cI (cX x),e1,aQ,ae,cI (cX y),e2,aQ,ae,p9,ae,mN,ae,aC,aq (n5.2 h0)]
 .rw[an h0];have mI:¬ (aG y.v).length=0:=fun e=>h0 (n5.1 e)
  by_cases h2:y.v<4294967296
  .have mJ:(aG y.v).length=1:=JF.2 ⟨h0,h2⟩
   have PU:(aG y.v).getD 0 0=y.v:=by
    rw[Aj h0,qk,mz h2]
   have hlt:x.v%y.v<y.v:=kV _ aa;refine cw _ _ (yj (wD (x.v/y.v)) (wD (x.v%y.v)) (kn _ _)) rfl (m:=[]) ?_;have e4:=VM (d:=y.v) hX aa h2;rw[fO] at e4
   rw[I6,cI (cX x),e1,aQ,ae,cI (cX y),e2,aQ,ae,p9,ae,mN,ae,aC,an mI,ae,xg,ae,aC,aq mJ,
    Ks (by rw[kQ,mJ];omega),ae,lr,ae,kQ,PU,nH _ h2,ae,fN (iY _) (gJ _ _),e4,aQ,ae]
   simp only[a8]
   rw[show ([(cc (x.v/y.v)).av,AV.U (x.v%y.v:Nat)]:List AV)[0]?=some (cc (x.v/y.v)).av from rfl,show ([(cc (x.v/y.v)).av,AV.U (x.v%y.v:Nat)]:List AV)[1]?=some (AV.U (x.v%y.v:Nat)) from rfl,ae,ae,
    cI (gJ _ _),Ez aa,aQ,ae]
  .have mJ:¬ (aG y.v).length=1:=fun e=>h2 (JF.1 e).2
   by_cases h3:(aG x.v).length<(aG y.v).length
   .have hlt:x.v<y.v:=by
     apply Nat.lt_of_not_le;intro h;have:=mb h;omega
    rw[Nat.div_eq_of_lt hlt,mz hlt];refine cw _ _ (yj (wD 0) (wD x.v) (kn _ _)) rfl (m:=[]) ?_
    rw[I6,cI (cX x),e1,aQ,ae,cI (cX y),e2,aQ,ae,p9,ae,mN,ae,aC,an mI,ae,xg,ae,aC,an mJ,
     p9,ae,ae,bS,ae,aC,aq h3,qta]
   .have hb:0<y.v:=pR h0
    have hI:DInv x.v y.v (aG x.v).length ((aG x.v).length-(aG y.v).length+1) x.v (List.replicate (aG x.v).length 0):=by
     refine ⟨Ai _,vR,?_,?_⟩
     .have h4:=nX (gM x.v);rw[gQ] at h4;have h5:=JG (n:=y.v) (k:=(aG y.v).length-1) aa;refine so h4 ?_;refine fC ?_ (jl _ h5);rw[<- sr];exact qI aa aa
     .rw[Sx _ (fun k _=>JS _ _),zM,bq]
    obtain ⟨a',q',i1,i2⟩:=qlh (Mq (aH f137)) hb lx lx ly _ _ _ aa (aR _) hI;have heq:=i1.eq;have hlt:=i1.lt;have AH:=i1.lq;rw[Nat.pow_zero,mV] at heq hlt;rw[Nat.sub_zero,GO,jI aa] at heq;obtain ⟨k1,k2⟩:=ye heq.symm hlt;refine cw _ _ (yj (wD (x.v/y.v)) (wD (x.v%y.v)) (kn _ _)) rfl (m:=[none]) ?_;have hp:=yU (cp:=AP af) (g:=133) (m:=[oc q']) (nm:=0) (ds:=q') rfl;rw[AH] at hp
    rw[I6,cI (cX x),e1,aQ,ae,cI (cX y),e2,aQ,ae,p9,ae,mN,ae,aC,an mI,ae,xg,ae,aC,an mJ,
     p9,ae,ae,bS,ae,aC,an h3,ae,yR aa aa,ae,ae,ae,om aa aa,ae]
    rw[show (((aG x.v).length-(aG y.v).length+1:Nat):Int)-1=(((aG x.v).length-(aG y.v).length:Nat):Int) by omega] at i2
    refine Eq.trans ?_ (i2.trans ?_)
    .rfl
    rw[qe5,hp,zP _ i1.dq (by simp only[AH];omega),aQ,ae];simp only[NV.v] at k1 k2 ⊢;rw[k1,k2]
    rfl
end Go.Ab
