/- Weigh by value. -/
import Derived.Test.YtiipgpkgcdhbfaaGreatDoorGP4
import Derived.Test.YtiipgpkgcdhbfaaGreatDoorGP2
import Derived.Test.YtiipgpkgcdhbfaaGreatDoorGP1
import Derived.Test.YtiipgpkgcdhbfaaGreatDoorGP3
set_option maxRecDepth 100000
set_option linter.unusedVariables false
set_option linter.unusedSimpArgs false
set_option linter.unusedSectionVars false
namespace Go.Ab
open Go.Proofs Go.Proofs.Tryz
section
variable {s:Nat} {F:List Nat} {zs:Bool} {os:Own} {most:Int} {l:List ND} {ar:List Int}
theorem qtb{M:Nat}(hM:M<4294967296^8)(h0:M≠0)(id:Nat):xT M [((id:Int),kO)] (upd (fun _=>0) id M):=fun j=>by
 unfold upd
 show WV M ((if (id:Int)=(j:Int) then some kO else none).getD zR) _
 by_cases h:j=id
 .subst h;rw[aq rfl,aq rfl];exact quT hM h0
 .rw[an aa,an h];exact qc5 M
theorem qlB{m0:ai}(h0:dW m0 s F (IA zs os ar) most l)(hm:most≠0)(g:GoodL ar l)(fI:l.length<=100000)(h1:∀x∈ar,1<=x/\x<=64)(dQ:ar.length<=16){id:Nat}(hid:id<l.length){L:OL}(h64:∀r∈L.es,r.ns.length<=64)(mF:L.es.length<=40)(hO:Pq.oddsB ⟨zs,os,ar⟩ L=true) :
  ∃(m':ai) (x:AV) (En:List (Int×RV)) (T:List Nat),AC af 17 [.ptr s 0,.I id,L.av] m0=some (.tup [x,.I 0],m')/\Fr m0 m' []/\QR 46 (some 4) m' x ((qx l id).map fun c=>sU c ((lk En c).getD zR)) T/\(∀k∈T,m0.length<=k) /\
   ∀c∈qx l id,WV (PM ar (bO L) ar.length 0) ((lk En c).getD zR) (Hc ar (bO L) l c id):=by
 have bc:=KP h64 hO;obtain ⟨rM,wF⟩:=El bc.all dQ;have f1:Fr m0 (m0++[some (Ent.B [.ptr s 0])]) []:=Fr.app m0 _ _;have tt:=h0.app f1;obtain ⟨m2,y,e41,f2,u6⟩:=B10 tt hm g fI hid;have f12:Fr m0 m2 []:=Fr.trans f1 f2 fun _ h=>by cases h
 have lm2:=f12.len;have lm1:=f2.len;simp only[aW,ba,bo] at lm1;have h2:=h0.app f12;have hb2:m2.get m0.length=some (.B [.ptr s 0]):=by rw[f2.get _ aA aA,cJ rfl]
 have lb:=p5 hb2;have l0:aj none (m0++[some (Ent.B [.ptr s 0])]) (.ptr m0.length 0)=some (.ptr s 0):=p5 (cJ rfl)
 have la:aj none m2 (.ptr s (0+0))=some (IA zs os ar):=by
  obtain ⟨p,na,TT,st,_⟩:=h2;rw[fK,st.hs];rfl
 have p63:aF (AP af) none m2 63 [IA zs os ar,L.av]=some (.bool true,m2):=by
  have:=Pq.V63 (Pq.IL.fr ⟨zs,os,ar⟩) (Pq.OL.fr L) h64 mF;rw[fN (n6 zs os ar) (Pq.fz_ol L)];have e:AP af 63 [IA zs os.fr ar,(Pq.OL.fr L).av]=some (.bool (Pq.oddsB ⟨zs,os,ar⟩ L)):=this;rw[e,hO];rfl
 have p64:∀m,aF (AP af) none m 64 []=some (kO.av,m):=fun m=>by rw[Rp,OE];rfl
 have up:lY (.int .i64) (m2++[some (.mp (.int .i64) [])]) (.mref m2.length) (.I (id:Int)) kO.av=some (m2++[some (.mp (.int .i64) (dm [((id:Int),kO)]))]):=by
  have e0:lY (.int .i64) (m2++[some (.mp (.int .i64) [])]) (.mref m2.length) (.I (id:Int)) kO.av=_:=Sl (m:=m2++[some (.mp (.int .i64) (dm []))]) (p:=m2.length) (E:=[]) (k:=(id:Int)) (cJ rfl) aa aA kO;rw[e0,ue _ _ _ rfl];rfl
 have f3:Fr m0 (m2++[some (.mp (.int .i64) (dm [((id:Int),kO)]))]) []:=f12.snoc _;have PR:ai.get (m2++[some (.mp (.int .i64) (dm [((id:Int),kO)]))]) m0.length=some (.B [.ptr s 0]):=by rw[cK aa];exact hb2
 have gd3:ai.get (m2++[some (.mp (.int .i64) (dm [((id:Int),kO)]))]) m2.length=some (.mp (.int .i64) (dm [((id:Int),kO)])):=cJ rfl;have gx3:∀x,x<m2.length->ai.get (m2++[some (.mp (.int .i64) (dm [((id:Int),kO)]))]) x=m2.get x:=fun x hx=>cK hx;have l3:(m2++[some (Ent.mp (.int .i64) (dm [((id:Int),kO)]))]).length=m2.length+1:=aA;generalize hm3:m2++[some (Ent.mp (.int .i64) (dm [((id:Int),kO)]))]=m3 at up f3 PR gd3 gx3 l3;have lb3:=p5 PR;have h3:=h0.app f3;obtain ⟨m5,x5,T5,e65,YY,f5,hT5⟩:=L8 h3 g fI hid;obtain ⟨cl1,_,_⟩:=pT g id hid [] qq;have fL:=q8 _ _ cl1.nd cl1.lt;have f05:Fr m0 m5 []:=Fr.trans f3 f5 fun _ h=>by cases h
 have l5:=f5.len
 obtain ⟨t,rfl,ht,htn⟩:∃t,x5=.arr t 0 (Vi l id []).length none/\m5.get t=some (.obj false (ds (Vi l id [])))/\m3.length<=t:=by
  generalize hV:Vi l id []=ids at YY
  cases YY with
  | none=>
   have:id∈Vi l id []:=by rw[sy g hid,an aA];simp
   rw[hV] at this;cases this
  | some t ids ht hne=>exact ⟨t,rfl,ht,hT5 t aA⟩
 have fJ:=bW ht;have h5:=h0.app f05;have PJ:∀a∈F,a<m0.length:=h0.lt;have YG:m5.get m0.length=some (.B [.ptr s 0]):=by rw[f5.get _ aa aA];exact PR
 have J1:=qoN (nm:=t) h5 (fun ha=>by have:=PJ t ha;omega) (pb:=m0.length) YG aa dQ g;obtain ⟨m6,ids,e66,sd,mL,Zz⟩:=A66 (L:=(Vi l id []).length) aa J1 (l:=Vi l id []) (m:=m5) ⟨Fr.refl _ _,ht,rfl,cl1.lt⟩;have f56:=sd.fr;have l6:=f56.len;have hlen:ids.length=(Vi l id []).length:=mL.length_eq;have f06:Fr m0 m6 []:=Fr.trans f05 f56 fun a ha=>.inr (by simp at ha;omega);have f7:Fr m6 (m6++[some (Ent.mp (.int .i64) [])]) []:=Fr.app m6 _ _;have l7:(m6++[some (Ent.mp (.int .i64) [])]).length=m6.length+1:=aA;have f07:Fr m0 (m6++[some (Ent.mp (.int .i64) [])]) []:=f06.snoc _;have h7:=h0.app f07;have g67:∀x,x<m6.length->ai.get (m6++[some (Ent.mp (.int .i64) [])]) x=m6.get x:=fun x hx=>cK hx
 have gpd:ai.get (m6++[some (Ent.mp (.int .i64) [])]) m2.length=some (.mp (.int .i64) (dm [((id:Int),kO)])):=by
  rw[g67 _ aa,f56.get _ aa (by simp;omega),f5.get _ aa aA];exact gd3
 have gpe:ai.get (m6++[some (Ent.mp (.int .i64) [])]) m6.length=some (.mp (.int .i64) (dm [])):=cJ rfl
 have gpb:ai.get (m6++[some (Ent.mp (.int .i64) [])]) m0.length=some (.B [.ptr s 0]):=by
  rw[g67 _ aa,f56.get _ aa (by simp;omega)];exact YG
 have gnm:ai.get (m6++[some (Ent.mp (.int .i64) [])]) t=some (.obj false (ds ids)):=by rw[g67 _ aa];exact sd.hd
 have fl:=X5 g (sf:=bO L) hid mL Zz;have hrn:=qb3 g (sf:=bO L) fl.nd fl.lt (upd (fun _=>0) id (PM ar (bO L) ar.length 0));obtain ⟨m8,En,e11,f8,gpe8,YR⟩:=qlH bc g h1 dQ fI h7 (pb:=m0.length) (pd:=m2.length) (pe:=m6.length) (nm:=t) (fun ha=>by have:=PJ _ ha;omega) (fun ha=>by have:=PJ _ ha;omega) aa gpb aa aa gnm aa aa aa y (Hj (aH f17)) ids [] (m6++[some (Ent.mp (.int .i64) [])]) [((id:Int),kO)] [] (upd (fun _=>0) id (PM ar (bO L) ar.length 0)) 0 [] rfl fl (Fr.refl _ _) gpd gpe (qtb wF rM id) (fun p hp=>by cases hp) (by simpa using hrn) (by simp;omega) (by simp;omega);rw[bF] at YR;have l8:=f8.len
 have qqN:(qx l id).length<=100000:=by
  have:=qum (ml (fun n=>n.leaf) (fun n=>decide (n.var<0)) l (Vi l id []));unfold ml at this;rw[bu] at this;have h2:=List.length_filter_le (fun i=>(fun n:ND=>decide (n.var<0)) (l.getD i ⟨0,[],0⟩)) (Vi l id []);unfold qx ml;omega
 have qqM:I4 (m0.length+1) m8 y (qx l id):=by
  rcases u6 with hh|⟨t',z',hx,hg,hB⟩
  .exact .inl hh
  .have h2:=bW hg;have hB':m0.length+1<=t':=by simpa using hB
   refine .inr ⟨t',z',hx,?_,hB'⟩;rw[f8.get _ aa (by simp;omega),g67 _ aa,f56.get _ aa (by simp;omega),f5.get _ aa aA,gx3 _ h2];exact hg
 have Qw:∀c∈qx l id,WV (PM ar (bO L) ar.length 0) ((lk En c).getD zR) (Hc ar (bO L) l c id):=fun c hc=>by
  obtain ⟨N,hN⟩:=qtv g (sf:=bO L) hid mL (upd (fun _=>0) id (PM ar (bO L) ar.length 0)) hc;obtain ⟨r,hr,wr⟩:=YR _ hN;have hv:=qtw g (fun x hx=>(h1 x hx).1) (fun v hv=>(bc.all v hv).1) rM hid mL Zz hN;dsimp only at hr wr;rw[hr,fk,<- hv];exact wr
 have hcb:∀c∈qx l id,-1000000000000<=c/\c<=1000000000000:=fun c hc=>by
  rw[LD] at hc;obtain ⟨j,hj,rfl⟩:=iw.1 hc;have kr:=cl1.lt j (po.1 hj).1;dsimp only;rw[iM kr]
  rcases g.ok _ (bA kr) with ⟨_,_,h3⟩|⟨_,h3,_⟩<;>omega
 obtain ⟨m9,x9,T9,e28,f9,q9,hT9⟩:=Jk (M0:=m8) (pe:=m6.length) (fun c hc=>(Qw c hc).fr) gpe8 qqM hcb qqN (Hk (aH f17)) (qx l id) [] m8 aD [] rfl (Fr.refl _ _) .none aA
 have f08:Fr m0 m8 []:=Fr.trans f07 f8 fun a ha=>.inr (by
  simp only[gI,zK,or_false] at ha
  rcases ha with rfl|rfl<;>omega)
 refine ⟨m9,x9,En,T9,?_,Fr.trans f08 f9 (fun _ h=>by cases h),q9,fun k hk=>by have:=hT9 k hk;omega,Qw⟩
 .rw[T17,qL,ae,l0,ae,e41,ae,rI,ae,rJ,ae,gm,ae,aC,an aa,lb,ae,p8,ae,iL,ae,la,ae,p63,ae,nB,ae,jj,gT];rw[show (az none m2 (Ent.mp (.int .i64) [])).2=m2++[some (.mp (.int .i64) [])] from rfl,p64,ae];dsimp only;rw[show (az none m2 Ent.resv).1=m2.length from rfl,up,ae,lb3,ae,e65,ae];dsimp only;rw[e66,ae];dsimp only;rw[show aM false (.arr t 0 (Vi l id []).length none)=some (.I (Vi l id []).length) from rfl,ae,<- hlen];have e11:BP L.av (.ptr m0.length 0) y (.mref m2.length) (.mref (az none m6 Ent.resv).1) (.arr t 0 ids.length none) (.I ids.length) (.I 0) (az none m6 (Ent.mp (.int .i64) [])).2 (Hj (aH f17))=_:=e11;rw[e11,qgf]
  have hly:aM false y=some (.I (qx l id).length):=by
   rcases u6 with ⟨h1,h2⟩|⟨t',z',h1,_⟩
   .rw[h1];have:(qx l id).length=0:=by unfold qx;rw[h2];rfl
    rw[this];rfl
   .rw[h1];rfl
  rw[hly,ae];have e28:DY (.mref m6.length) aD y (.I (qx l id).length) (.I 0) m8 (Hk (aH f17))=_:=e28;rw[e28,qgl]
end
end Go.Ab
namespace Go.Ab
open Go.Proofs Go.Proofs.Tryz
theorem PB{l:List Int}{i:Nat}(h:i<l.length):l.getD i 0=l[i]:=by rw[aT,bP h,fk]
theorem qte{os:List Int}(h:os.Pairwise (· < ·))(hb:∀y∈os,0<=y/\y<=4):os.length<=5:=by
 have hn:(os.map Int.toNat).Nodup:=by
  rw[List.nodup_iff_pairwise_ne,List.pairwise_map];refine List.Pairwise.imp_of_mem ?_ h;intro a b ha gO jc e;have:=hb a ha;have:=hb b gO;omega
 have:=q8 5 _ hn fun x hx=>by
  obtain ⟨y,hy,rfl⟩:=iw.1 hx;have:=hb y hy;omega
 rwa [bu] at this
theorem qtd{os:List Int}(h:os.Pairwise (· < ·)):∀y∈os,y<=os.getLastD 0:=by
 intro y hy;obtain ⟨i,hi,rfl⟩:=n0 hy;have hne:os≠[]:=fun e=>by rw[e] at hi;simp at hi
 have hl:os.getLastD 0=os[os.length-1]'(by omega):=by
  rw[List.getLastD_eq_getLast?,List.getLast?_eq_getElem?,bP aa];rfl
 rw[hl]
 by_cases e:i=os.length-1
 .subst e;exact qG _
 .exact Int.le_of_lt (List.pairwise_iff_getElem.1 h i (os.length-1) hi aa aa)
def lC(os:List Int)(n:Int):Bool:=os.isEmpty||decide (n>os.getLastD 0)
section
variable {z zo:Bool} {o oo:Own} {t:List Int}
theorem qlE(fJ:t.length<=300){os:List Int}(Qf:os.length<=100)(m:ai)(K:KT):∀(j i:Nat),i+j=t.length->∀(nx:Int) (fd:Bool),(fd=false->∀k (h:k<t.length),k<i->lC os t[k]=false)->(fd=true->lC os nx=true/\nx∈t/\∀k (h:k<t.length),k<i->lC os t[k]=true->nx<=t[k]) ->
  ∃nx' fd',rz (IA z o t) (IA zo oo os) (.I nx) (.bool fd) (IA z o t) (.I t.length) (.I i) m (uy K)=uy K (.exit 2) (B5 (IA z o t) (IA zo oo os) (.I nx') (.bool fd') m)/\(fd'=false->∀k (h:k<t.length),lC os t[k]=false)/\(fd'=true->lC os nx'=true/\nx'∈t/\∀k (h:k<t.length),lC os t[k]=true->nx'<=t[k]):=by
 intro j
 induction j with
 | zero=>
  intro i hi nx fd h1 h2;refine ⟨nx,fd,?_,fun h k hk=>h1 h k hk aa,fun h=>⟨(h2 h).1,(h2 h).2.1,fun k hk=>(h2 h).2.2 k hk aa⟩⟩;rw[Uw,bS,ae,aC,an aa]
 | succ j ih=>
  intro i hi nx fd h1 h2;have cE:i<t.length:=aa;have hit:aI none (IA z o t) (.I i)=some (.vptr [.I t[i]]):=j6 cE
  have take:lC os t[i]=true->(fd=true->t[i]<nx)->∃nx' fd',rz (IA z o t) (IA zo oo os) (.I t[i]) (.bool true) (IA z o t) (.I t.length) (.I (i+1:Nat)) m (uy K)=uy K (.exit 2) (B5 (IA z o t) (IA zo oo os) (.I nx') (.bool fd') m)/\(fd'=false->∀k (h:k<t.length),lC os t[k]=false)/\(fd'=true->lC os nx'=true/\nx'∈t/\∀k (h:k<t.length),lC os t[k]=true->nx'<=t[k]):=fun bc hlt=>
   ih (i+1) aa t[i] true (fun h=>by cases h) fun _=>⟨bc,bA cE,fun k hk jx yD=>by
    by_cases e:k=i
    .subst e;exact qG _
    .cases hf:fd with
     | false=>have:=h1 hf k hk aa;rw[this] at yD;cases yD
     | true=>have:=(h2 hf).2.2 k hk aa yD;have:=hlt hf;omega⟩
  have leave:(lC os t[i]=true->fd=true/\nx<=t[i])->∃nx' fd',rz (IA z o t) (IA zo oo os) (.I nx) (.bool fd) (IA z o t) (.I t.length) (.I (i+1:Nat)) m (uy K)=uy K (.exit 2) (B5 (IA z o t) (IA zo oo os) (.I nx') (.bool fd') m)/\(fd'=false->∀k (h:k<t.length),lC os t[k]=false)/\(fd'=true->lC os nx'=true/\nx'∈t/\∀k (h:k<t.length),lC os t[k]=true->nx'<=t[k]):=fun hle=>
   ih (i+1) aa nx fd (fun h k hk jx=>by
    by_cases e:k=i
    .subst e
     cases hq:lC os t[k] with
     | false=>rfl
     | true=>have:=(hle hq).1;rw[h] at this;cases this
    .exact h1 h k hk aa) fun h=>⟨(h2 h).1,(h2 h).2.1,fun k hk jx yD=>by
    by_cases e:k=i
    .subst e;exact (hle yD).2
    .exact (h2 h).2.2 k hk aa yD⟩
  rw[Uw,bS,ae,aC,aq cE,hit,ae,gP,ae,iT,ae,mN,ae,aC]
  by_cases yC:os.length=0
  .have bc:lC os t[i]=true:=by
    unfold lC;have:os=[]:=oF yC;rw[this];rfl
   rw[aq yC,nB,ae]
   cases hf:fd with
   | false=>
    obtain ⟨a,b,e,k⟩:=take bc fun h=>by rw[hf] at h;cases h
    exact ⟨a,b,by rw[my,ll,bU aa,ae];exact e,k⟩
   | true=>
    rw[jj,gT,bz,ae,aC]
    by_cases hlt:t[i]<nx
    .obtain ⟨a,b,e,k⟩:=take bc fun _=>hlt;exact ⟨a,b,by rw[aq hlt,bU aa,ae];exact e,k⟩
    .obtain ⟨a,b,e,k⟩:=leave fun _=>⟨hf,aa⟩;rw[hf] at e;exact ⟨a,b,by rw[an hlt,bU aa,ae];exact e,k⟩
  .have Qg:os.length-1<os.length:=aa
   have me:os.getLastD 0=os[os.length-1]:=by
    rw[List.getLastD_eq_getLast?,List.getLast?_eq_getElem?,bP Qg];rfl
   have qqi:aI none (IA zo oo os) (.I (os.length-1:Nat))=some (.vptr [.I (os.getLastD 0)]):=by rw[j6 Qg,me]
   have qp6:os.isEmpty=false:=by
    cases os with
    | nil=>simp at yC
    | cons a b=>rfl
   rw[an yC,ae,oT aa aa,ae,qqi,ae,gP,ae,gE,ae,aC]
   by_cases wK:t[i]>os.getLastD 0
   .have bc:lC os t[i]=true:=by unfold lC;rw[bM wK,Bool.or_true]
    rw[aq wK,nB,ae]
    cases hf:fd with
    | false=>
     obtain ⟨a,b,e,k⟩:=take bc fun h=>by rw[hf] at h;cases h
     exact ⟨a,b,by rw[my,ll,bU aa,ae];exact e,k⟩
    | true=>
     rw[jj,gT,bz,ae,aC]
     by_cases hlt:t[i]<nx
     .obtain ⟨a,b,e,k⟩:=take bc fun _=>hlt;exact ⟨a,b,by rw[aq hlt,bU aa,ae];exact e,k⟩
     .obtain ⟨a,b,e,k⟩:=leave fun _=>⟨hf,aa⟩;rw[hf] at e;exact ⟨a,b,by rw[an hlt,bU aa,ae];exact e,k⟩
   .have bc:lC os t[i]=false:=by unfold lC;rw[qp6,bD wK];rfl
    obtain ⟨a,b,e,k⟩:=leave fun h=>by rw[bc] at h;cases h
    exact ⟨a,b,by rw[an wK,bU aa,ae];exact e,k⟩
theorem qlD(fJ:t.length<=300)(hb:∀y∈t,0<=y/\y<=4):∀(j:Nat) (m:ai) (x:AV) (os:List Int) (T:List Nat),os.length+j=6->GR 3 m x (os.map (AV.int .i64)) T->os.Pairwise (· < ·)->(∀y∈os,y∈t)->(os≠[]->∀y∈t,y<=os.getLastD 0->y∈os) ->
  ∃(m':ai) (x':AV) (os':List Int) (T':List Nat),zG (IA z o t) x m (vJ (aH f58))=some (x',m')/\GR 3 m' x' (os'.map (AV.int .i64)) T'/\os'.Pairwise (· < ·)/\∀y,y∈os'↔y∈t:=by
 intro j
 induction j with
 | zero=>
  intro m x os T hj hx hp hs _;have:=qte hp fun y hy=>hb y (hs y hy);omega
 | succ j ih=>
  intro m x os T hj hx hp hs hc;obtain ⟨zo,oo,rfl,_⟩:=As hx;obtain ⟨nx,fd,e,k1,k2⟩:=qlE (z:=z) (o:=o) (zo:=zo) (oo:=oo) fJ (os:=os) aa m (vJ (aH f58)) t.length 0 aa 0 false (fun _ k hk uW=>aa) (fun h=>by cases h);have e:rz (IA z o t) (IA zo oo os) (.I 0) (.bool false) (IA z o t) (.I t.length) (.I 0) m (uy (vJ (aH f58)))=_:=e
  have e0:zG (IA z o t) (IA zo oo os) m (vJ (aH f58))=uy (vJ (aH f58)) (.exit 2) (B5 (IA z o t) (IA zo oo os) (.I nx) (.bool fd) m):=by
   rw[qji,iT,ae];exact e
  have last:∀y,lC os y=false->os≠[]/\y<=os.getLastD 0:=fun y h=>by
   unfold lC at h;rw[Bool.or_eq_false_iff,decide_eq_false_iff_not] at h;exact ⟨fun e=>by rw[e] at h;simp at h,aa⟩
  cases fd with
  | false=>
   refine ⟨m,_,os,T,?_,hx,hp,fun y=>⟨hs y,fun hy=>?_⟩⟩
   .have e0:zG (IA z o t) (.lst none zo oo (os.map (AV.int .i64))) m (vJ (aH f58))=_:=e0;rw[e0,Tb,nB,ae,my,ll,qhS]
   .obtain ⟨i,hi,rfl⟩:=n0 hy;obtain ⟨h1,h2⟩:=last _ (k1 rfl i hi);exact hc h1 _ hy h2
  | true=>
   obtain ⟨q1,q2,q3⟩:=k2 rfl;obtain ⟨x2,m2,T2,ea,g2,_,_⟩:=Ar (b:=8) hx (by rw[bu];omega) aa (.I nx)
   have hlt:∀y∈os,y<nx:=fun y hy=>by
    have h1:=qtd hp y hy
    have hne:os.isEmpty=false:=by
     cases os with
     | nil=>cases hy
     | cons a b=>rfl
    unfold lC at q1;rw[hne,uu,oM] at q1;omega
   obtain ⟨m',x',os',T',e',k⟩:=ih m2 x2 (os++[nx]) T2 (by simp;omega) (by rw[iH];exact g2) (by
    rw[List.pairwise_append]
    exact ⟨hp,aA,fun a ha b gO=>by
     have:b=nx:=by simpa using gO
     rw[this];exact hlt a ha⟩) (fun y hy=>by
    rcases hZ.1 hy with hy|hy
    .exact hs y hy
    .have:y=nx:=by simpa using hy
     rw[this];exact q2) (fun _ y hy hle=>by
    have hl:(os++[nx]).getLastD 0=nx:=aA;rw[hl] at hle;obtain ⟨i,hi,rfl⟩:=n0 hy
    cases hq:lC os t[i] with
    | true=>
     have:=q3 i hi hq;have e2:t[i]=nx:=aa;rw[e2];simp
    | false=>
     obtain ⟨h1,h2⟩:=last _ hq
     exact zJ _ (hc h1 _ hy h2))
   refine ⟨m',x',os',T',?_,k⟩;have e0:zG (IA z o t) (.lst none zo oo (os.map (AV.int .i64))) m (vJ (aH f58))=_:=e0;have ea:bL none false 3 none 8 m (IA zo oo os) (.lst none false .full [.I nx])=_:=ea;rw[e0,Tb,nB,ae,jj,gT,qM,ae,ea,ae];exact e'
theorem B14(fJ:t.length<=300)(hb:∀y∈t,0<=y/\y<=4)(z:Bool)(o:Own)(m:ai):∃(z':Bool) (o':Own) (os:List Int),aF (AP af) none m 58 [IA z o t]=some (IA z' o' os,m)/\os.Pairwise (· < ·)/\∀y,y∈os↔y∈t:=by
 obtain ⟨m',x',os,T,e,hx,k⟩:=qlD (z:=z) (o:=o.fr) fJ hb 6 [] aD [] [] rfl .none aA aA (fun h=>absurd rfl h);obtain ⟨z',o',rfl,_⟩:=As hx;refine ⟨z',o'.fr,os,?_,k⟩
 have e0:AC af 58 [IA z o.fr t] []=some (IA z' o' os,m'):=by
  rw[T58];exact e
 rw[cI (n6 z o t),iW (m:=m') (v:=IA z' o' os) (v':=IA z' o'.fr os) (l:=[]) e0 (by cases o'<;>rfl) rfl];rfl
end
theorem qug{val:ND->Int}{keep:ND->Bool}{l:List ND}{ids:List Nat}(tK:∀i∈ids,i<l.length)(x:Int):x∈ml val keep l ids↔∃j∈ids,∃hj:j<l.length,keep l[j]=true/\val l[j]=x:=by
 unfold ml;rw[iw]
 constructor
 .rintro ⟨j,hj,rfl⟩;obtain ⟨h1,h2⟩:=po.1 hj;have hl:=tK j h1;rw[iM hl] at h2 ⊢;exact ⟨j,h1,hl,h2,rfl⟩
 .rintro ⟨j,hj,hl,h2,rfl⟩
  refine ⟨j,po.2 ⟨hj,?_⟩,?_⟩
  .rw[iM hl];exact h2
  .rw[iM hl]
section
variable {ar:List Int} {s:Nat->Nat->Nat}
end
section
variable {ar:List Int} {L:OL}
end
end Go.Ab
namespace Go.Ab
open Go.Proofs Go.Proofs.Tryz
end Go.Ab
namespace Go.Ab
open Go.Proofs Go.Proofs.Tryz
theorem qcB{F G:Nat->Nat}:∀{n:Nat},(∀k,k<n->F k<=G k)->mQ n F<=mQ n G
 | 0,_=>aR _
 | n+1,h=>by
  rw[vC,vC];exact Nat.add_le_add (qcB fun k hk=>h k aa) (h n aa)
section
variable {ar t:List Int} {L:OL}
def Ht(ar:List Int)(s:Nat->Nat->Nat)(t:List Int)(c:Int):Nat:=Ct ar s ar.length 0 (fun a=>if t.getD (oq ar 0 a) 0=c then 1 else 0) fun _=>0
structure Alls (ar:List Int) (css:List (List Int)):Prop where
 len:css.length=cn ar
 row:∀k (h:k<css.length),Asn ar k css[k]
end
def rX(r:List Int):IL:=⟨false,.no,r⟩
end Go.Ab
namespace Go.Ab
open Go.Proofs Go.Proofs.Tryz
theorem qov{x:AV}{es:List Int}{m:ai}{T:List Nat}(h:GR 3 m x (es.map (AV.int .i64)) T)(hne:es≠[]):df none [x]=some (.lst none false .full [(rX es).av]):=by
 generalize he:es.map (AV.int .i64)=bs at h
 cases h with
 | none=>exact absurd (uA.1 he) hne
 | some t bs' ht Kg=>
  subst he;have e:mP (.lst none false (.tok t 3) (es.map (AV.int .i64)))=(rX es).av:=rfl;unfold df;simp only[nF,List.all_nil,gh,sk,e]
  rfl
structure LawOdds (ar:List Int) (L:OL):Prop where
 len:L.es.length=ar.length
 row:∀(u:Nat) (h:u<L.es.length),(L.es[u].ns.length:Int)=ar.getD u 0
 fr:L.fr=L
 rw:∀r∈L.es,r=rX r.ns
section
variable {ar t:List Int} {s:Nat->Nat->Nat}
theorem qcC{F G:Nat->Nat}:∀n,mQ n (fun k=>F k+G k)=mQ n F+mQ n G
 | 0=>rfl
 | n+1=>by rw[vC,vC,vC,qcC n];omega
theorem SO(φ ψ:(Nat->Nat)->Nat):∀(d v:Nat) (a:Nat->Nat),Ct ar s d v (fun a=>φ a+ψ a) a=Ct ar s d v φ a+Ct ar s d v ψ a
 | 0,_,_=>rfl
 | d+1,v,a=>by
  rw[Ct,Ct,Ct,<- qcC];refine xB fun k _=>?_;rw[SO φ ψ d (v+1),gL]
theorem ZS{x:Int}:∀{os:List Int},os.Nodup->x∈os->(os.map fun c=>if x=c then 1 else 0).sum=1
 | c::os,hn,hm=>by
  obtain ⟨h1,h2⟩:=uD.1 hn;rw[gh,lZ]
  by_cases h:x=c
  .subst h;rw[aq rfl]
   have:∀os:List Int,x∉os->(os.map fun c=>if x=c then 1 else 0).sum=0:=fun os hx=>by
    induction os with
    | nil=>rfl
    | cons y os ih=>
     rw[gh,lZ,an (fun e=>hx (by rw[e];simp)),ih fun hh=>hx (fW _ hh)]
   rw[this os h1]
  .rw[an h,ZS h2 (by rcases gI.1 hm with e|e;exact absurd e h;exact e)]
theorem qdl(os:List Int):(os.map (Ht ar s t)).sum=Ct ar s ar.length 0 (fun a=>(os.map fun c=>if t.getD (oq ar 0 a) 0=c then 1 else 0).sum) fun _=>0:=by
 induction os with
 | nil=>
  show 0=Ct ar s ar.length 0 (fun _=>0) _;rw[DG,oI]
 | cons c os ih=>
  rw[gh,lZ,ih,Ht,<- SO]
  rfl
theorem qdk(h1:∀x∈ar,1<=x)(fJ:t.length=cn ar){os:List Int}(hn:os.Nodup)(hm:∀y∈t,y∈os):(os.map (Ht ar s t)).sum=PM ar s ar.length 0:=by
 rw[qdl]
 have:=G4 (s:=s) (φ:=fun a=>(os.map fun c=>if t.getD (oq ar 0 a) 0=c then 1 else 0).sum) (ψ:=fun _=>1) ar.length 0 (fun _=>0) (xY h1) fun b hb _=>by
  have hlt:=CT hb ar.length 0 aa;rw[gC,<- fJ] at hlt;exact ZS hn (hm _ (by rw[PB hlt];exact bA hlt))
 rw[this,DG,mV]
end
end Go.Ab
namespace Go.Ab
noncomputable section
variable (a0 a1 a2 a3 x0 x1 x3 x5 x6 x7 x8 x9 aN aX aS aY aZ dV fh ji xF qD vI:AV) (m:ai) (K:KT)
open Go.Proofs.Tryz
def NY:St:=⟨(aK (aJ (x3::br (aV (aJ []))))),m⟩
def D5:OM:=bY 45 (oL (c2 (c2 (aE f45)))) 4 (aK (aJ (x3::br (aV (aJ []))))) m K
abbrev qhu:KT:=bI 45 (bG (aE f45)) K
abbrev qhv:KT:=bw 0 (qhu K)
abbrev Ho:KT:=(qhv K)
theorem T45:AC af 45 [a0] m=(df none []).bind fun v1=>(aM false a0).bind fun v2=>(oV false v2 (.I 17)).bind fun v3=>(gX none a0 none (some v3) none).bind fun v4=>(bL none false 3 none 8 m v1 v4).bind fun r5=>(aF (AP af) none r5.2 11 [r5.1]).bind fun r6=>(ag .o .neq r6.1 (.I 0)).bind fun v7=>aB v7 (some (r5.1,r6.2)) (D5 r5.1 r6.2 (Ho (aH f45))):=
(bm af 45 [a0] m (fn:=f45) (c:=aE f45) qnz rfl).trans au
theorem Uq:D5 x3 m K=(aM false x3).bind fun v1=>(ag .o .gtr v1 (.I 0)).bind fun v2=>aB v2 ((aF (AP af) none m 12 [x3,(.I 100)]).bind fun r3=>(ag .o .eql r3.1 (.I 0)).bind fun v4=>aB v4 ((aM false x3).bind fun v5=>(ag .o .sub v5 (.I 1)).bind fun v6=>(gX none x3 none (some v6) none).bind fun v7=>D5 v7 r3.2 K) (K (.exit 0) (NY x3 r3.2))) (K (.exit 0) (NY x3 m)):=
(bX (bQ _) _ _ _).trans au
theorem Ta:Ho (aH f45) (.exit 0) (NY x3 m)=some (x3,m):=au
theorem T46:AC af 46 [] m=(fR (.agg [(.I 0),aD,(.I 0)]) [(0,none,(.I (-1))),(2,none,(.I 4))]).bind fun v1=>(df (some 3) [v1]).bind fun v2=>(aF (AP af) none m 23 []).bind fun r3=>(df (some 3) [r3.1]).bind fun v4=>(fR (.agg [aD,aD,aD,(.I 0)]) [(1,none,v2),(2,none,v4),(3,none,(.I 4))]).bind fun v5=>(aP (some 4) (az none r3.2 (.B [aD,aD,aD,(.I 0)])).2 (.ptr (az none r3.2 .resv).1 0) v5).bind fun m6=>(aj (some 4) m6 (.ptr (az none r3.2 .resv).1 0)).bind fun v7=>(aF (AP af) none m6 53 [v7]).bind fun r8=>(a8 r8.1 0).bind fun v9=>(a8 r8.1 1).bind fun v10=>(a8 r8.1 2).bind fun v11=>(aP (some 3) (az none r8.2 (.B [(.bool false),aD,aD])).2 (.ptr (az none r8.2 .resv).1 0) v9).bind fun m12=>(ag .o .eql v11 (.I 0)).bind fun bg=>aB bg ((aj (some 3) m12 (.ptr (az none r8.2 .resv).1 0)).bind fun bf=>(aF (AP af) (some m12.length) m12 23 []).bind fun nt=>(aF (AP af) (some m12.length) nt.2 21 [bf,nt.1]).bind fun gW=>some (gW.1,gW.2)) (some ((.bool false),m12)):=
(bm af 46 [] m (fn:=f46) (c:=aE f46) qnA rfl).trans au
def U3:St:=⟨(aO (aJ (x5::br (aV (aK []))))),m⟩
def BT:OM:=bY 47 (b8 (c2 (c2 (aE f47)))) 3 (x0::x1::aK (aJ (x5::x6::br (aV (aJ []))))) m K
abbrev qhw:KT:=bI 47 (c2 (c2 (c2 (aE f47)))) K
abbrev qhx:KT:=bw 0 (qhw K)
abbrev Hp:KT:=(qhx K)
theorem T47:AC af 47 [a0,a1] m=BT a0 a1 aD (.I 0) m (Hp (aH f47)):=
(bm af 47 [a0,a1] m (fn:=f47) (c:=aE f47) qnB rfl).trans au
theorem Ur:BT x0 x1 x5 x6 m K=(aF (AP af) none m 12 [x0,(.I 100)]).bind fun r1=>(ag .o .lss x6 r1.1).bind fun v2=>aB v2 ((aM false x1).bind fun v3=>(ag .o .gtr v3 (.I 0)).bind fun v4=>aB v4 ((aM false x1).bind fun v5=>(ag .o .rem x6 v5).bind fun v6=>(aI none x1 v6).bind fun v7=>(aj none r1.2 v7).bind fun v8=>(ag .o .rem v8 (.I 4)).bind fun v9=>(ag .o .add v9 (.I 4)).bind fun v10=>(ag .o .rem v10 (.I 4)).bind fun v11=>(df none [v11]).bind fun v12=>(bL none false 3 none 8 r1.2 x5 v12).bind fun gB=>(ag .o .add x6 (.I 1)).bind fun bf=>BT x0 x1 gB.1 bf gB.2 K) ((ag .o .rem (.I 0) (.I 4)).bind fun bh=>(ag .o .add bh (.I 4)).bind fun bK=>(ag .o .rem bK (.I 4)).bind fun bH=>(df none [bH]).bind fun cV=>(bL none false 3 none 8 r1.2 x5 cV).bind fun kP=>(ag .o .add x6 (.I 1)).bind fun v20=>BT x0 x1 kP.1 v20 kP.2 K)) (K (.exit 0) (U3 x5 r1.2)):=
(bX (bQ _) _ _ _).trans au
theorem qhy:Hp (aH f47) (.exit 0) (U3 x5 m)=some (x5,m):=au
def NZ:St:=⟨(aO (aJ (x5::bC (aO (aK (aJ [])))))),m⟩
def D6:OM:=bY 48 (b8 (c2 (c2 (c2 (aE f48))))) 4 (aJ (x1::aK (aJ (x5::x6::aO (aJ (aS::aY::aZ::br (aV (aO (aK []))))))))) m K
def IP:St:=⟨(aJ (x1::aK (aJ (x5::x6::aK (x9::aK (aS::aY::aZ::br (aV (aO (aK []))))))))),m⟩
def zF:OM:=bY 48 (b8 (lH (lH (qP (c2 (aE f48)))))) 8 (aJ (x1::aK (aJ (x5::x6::aJ (x8::x9::aN::aJ (aS::aY::aZ::br (aV (aO (aK []))))))))) m K
abbrev qhz:KT:=bI 48 (bG (aE f48)) K
abbrev qhA:KT:=bw 0 (qhz K)
abbrev Hq:KT:=(qhA K)
abbrev qhC:KT:=bI 48 (ma (nM (c2 (c2 (aE f48))))) (nU 48 (b8 (c2 (c2 (c2 (aE f48))))) 4 K)
abbrev qhD:KT:=bw 1 (qhC K)
abbrev qhE:KT:=bI 48 (ma (Ck (nM (c2 (c2 (aE f48)))))) (qhD K)
abbrev qhF:KT:=bw 2 (qhE K)
abbrev Hr:KT:=(qhF K)
theorem T48:AC af 48 [a0,a1] m=(aM false a0).bind fun v1=>D6 a1 aD (.I 0) a0 v1 (.I 0) m (Hq (aH f48)):=
(bm af 48 [a0,a1] m (fn:=f48) (c:=aE f48) qnC rfl).trans au
theorem Us:D6 x1 x5 x6 aS aY aZ m K=(ag .o .lss aZ aY).bind fun v1=>aB v1 ((aI none aS aZ).bind fun v2=>(aj none m v2).bind fun v3=>zF x1 x5 x6 v3 aD (.I 0) aS aY aZ m (Hr K)) (K (.exit 0) (NZ x5 m)):=
(bX (bQ _) _ _ _).trans au
theorem M5:zF x1 x5 x6 x8 x9 aN aS aY aZ m K=(ag .o .lss aN x8).bind fun v1=>aB v1 ((aM false x1).bind fun v2=>(ag .o .gtr v2 (.I 0)).bind fun v3=>aB v3 ((aM false x1).bind fun v4=>(ag .o .rem x6 v4).bind fun v5=>(aI none x1 v5).bind fun v6=>(aj none m v6).bind fun v7=>(ag .o .add x6 (.I 1)).bind fun v8=>(df none [v7]).bind fun v9=>(bL none false 3 none 8 m x9 v9).bind fun gG=>(ag .o .add aN (.I 1)).bind fun v11=>zF x1 x5 v8 x8 gG.1 v11 aS aY aZ gG.2 K) ((df none [(.I 1)]).bind fun v12=>(bL none false 3 none 8 m x9 v12).bind fun gB=>(ag .o .add aN (.I 1)).bind fun bf=>zF x1 x5 x6 x8 gB.1 bf aS aY aZ gB.2 K)) (K (.exit 2) (IP x1 x5 x6 x9 aS aY aZ m)):=
(bX (bQ _) _ _ _).trans au
theorem qhB:Hq (aH f48) (.exit 0) (NZ x5 m)=some (x5,m):=au
theorem qhG:Hr K (.exit 2) (IP x1 x5 x6 x9 aS aY aZ m)=(df none [x9]).bind fun v1=>(bL none false 22 none 24 m x5 v1).bind fun r2=>(ag .o .add aZ (.I 1)).bind fun v3=>D6 x1 r2.1 x6 aS aY v3 r2.2 K:=au
def N0:St:=⟨(aO (aK (aJ (x7::aJ (x9::bC (aK [])))))),m⟩
def D7:OM:=bY 49 (b8 (bG (aE f49))) 6 (aO (aK (aJ (x7::aJ (x9::aV (aO (aJ (dV::fh::ji::br (aK []))))))))) m K
abbrev qhH:KT:=bI 49 (bG (c2 (aE f49))) K
abbrev qhI:KT:=bw 0 (qhH K)
abbrev Hs:KT:=(qhI K)
theorem T49:AC af 49 [a0,a1] m=(AC af 32 [a0] m).bind fun r1=>(a8 r1.1 0).bind fun v2=>(a8 r1.1 1).bind fun v3=>(ag .o .neq v3 (.I 0)).bind fun v4=>aB v4 (some ((.tup [.nilp,(.I 0),(.bool false)]),r1.2)) ((aF (AP af) none r1.2 31 [a0,a1]).bind fun r5=>(aM false r5.1).bind fun v6=>D7 v2 aD r5.1 v6 (.I 0) r5.2 (Hs (aH f49))):=
(bm af 49 [a0,a1] m (fn:=f49) (c:=aE f49) qnD rfl).trans au
theorem Ut:D7 x7 x9 dV fh ji m K=(ag .o .lss ji fh).bind fun v1=>aB v1 ((aI (some 3) dV ji).bind fun v2=>(aj (some 3) m v2).bind fun v3=>(aP (some 3) (az none m (.B [(.I 0),aD,(.I 0)])).2 (.ptr (az none m .resv).1 0) v3).bind fun m4=>(aj (some 3) m4 (.ptr (az none m .resv).1 0)).bind fun v5=>(df (some 3) [v5]).bind fun v6=>(bL none false 74 (some 3) 40 m4 x9 v6).bind fun r7=>(ag .o .add ji (.I 1)).bind fun v8=>D7 x7 r7.1 dV fh v8 r7.2 K) (K (.exit 0) (N0 x7 x9 m)):=
(bX (bQ _) _ _ _).trans au
theorem qhJ:Hs (aH f49) (.exit 0) (N0 x7 x9 m)=(AC af 44 [x7,x9] m).bind fun r1=>(a8 r1.1 0).bind fun v2=>(a8 r1.1 1).bind fun v3=>(ag .o .eql v3 (.I 0)).bind fun v4=>some ((.tup [x7,v2,v4]),r1.2):=au
def N3:St:=⟨(aV (x8::aK (aJ (aS::bC (br (aO [])))))),m⟩
def D8:OM:=bY 50 (b8 (bG (c2 (aE f50)))) 9 (aK (aJ (x3::aO (x8::aK (aJ (aS::bC (xF::qD::vI::br (aJ [])))))))) m K
abbrev qhK:KT:=bI 50 (bG (c2 (c2 (aE f50)))) K
abbrev qhL:KT:=bw 0 (qhK K)
abbrev Hu:KT:=(qhL K)
theorem T50:AC af 50 [a0,a1,a2,a3] m=(AC af 17 [a0,a1,a2] (az none m (.B [aD,aD,aD,(.I 0)])).2).bind fun r1=>(a8 r1.1 0).bind fun v2=>(a8 r1.1 1).bind fun v3=>(ag .o .neq v3 (.I 0)).bind fun v4=>aB v4 ((fR (.agg [aD,aD,aD,(.I 0)]) []).bind fun v5=>(aP (some 4) r1.2 (.ptr (az none m .resv).1 0) v5).bind fun m6=>(aj (some 4) m6 (.ptr (az none m .resv).1 0)).bind fun v7=>some ((.tup [v7,v3]),m6)) ((ag .o .lss a3 (.I 0)).bind fun v8=>aB v8 ((fR (.agg [aD,aD,aD,(.I 0)]) []).bind fun v9=>(aP (some 4) r1.2 (.ptr (az none m .resv).1 0) v9).bind fun m10=>(aj (some 4) m10 (.ptr (az none m .resv).1 0)).bind fun v11=>some ((.tup [v11,(.I 1)]),m10)) ((ag .o .gtr a3 (.I 2147483647)).bind fun v12=>aB v12 ((fR (.agg [aD,aD,aD,(.I 0)]) []).bind fun bg=>(aP (some 4) r1.2 (.ptr (az none m .resv).1 0) bg).bind fun m14=>(aj (some 4) m14 (.ptr (az none m .resv).1 0)).bind fun bh=>some ((.tup [bh,(.I 1)]),m14)) ((aF (AP af) none r1.2 109 [a2]).bind fun gW=>(fR (.agg [aD,aD,aD,(.I 0)]) [(0,none,gW.1),(3,none,a3)]).bind fun bH=>(aP (some 4) (az none gW.2 (.B [aD,aD,aD,(.I 0)])).2 (.ptr (az none gW.2 .resv).1 0) bH).bind fun m18=>(AC af 43 [a0,a1] m18).bind fun kP=>(a8 kP.1 0).bind fun v20=>(a8 kP.1 1).bind fun v21=>(aL 1 (.ptr (az none gW.2 .resv).1 0)).bind fun v22=>(aP none kP.2 v22 v20).bind fun m23=>(aL 1 (.ptr (az none gW.2 .resv).1 0)).bind fun v24=>(aj none m23 v24).bind fun v25=>(aM false v25).bind fun v26=>D8 a3 (.ptr (az none m .resv).1 0) (.ptr (az none gW.2 .resv).1 0) v25 v26 (.I 0) m23 (Hu (aH f50))))):=
(bm af 50 [a0,a1,a2,a3] m (fn:=f50) (c:=aE f50) qnE rfl).trans au
theorem Uu:D8 x3 x8 aS xF qD vI m K=(ag .o .lss vI qD).bind fun v1=>aB v1 ((aI (some 3) xF vI).bind fun v2=>(aj (some 3) m v2).bind fun v3=>(aP (some 3) (az none m (.B [(.I 0),aD,(.I 0)])).2 (.ptr (az none m .resv).1 0) v3).bind fun m4=>(aL 2 aS).bind fun v5=>(aj none (bV m4 1) v5).bind fun v6=>(aL 0 aS).bind fun v7=>(aj none (bV m4 1) v7).bind fun v8=>(aj (some 3) (bV m4 1) (.ptr (az none m .resv).1 0)).bind fun v9=>(aL 2 aS).bind fun v10=>(aj none (bV m4 1) v10).bind fun v11=>(aF (AP af) (some m4.length) (bV m4 1) 110 [v8,v9,x3,v11]).bind fun jV=>(df (some 3) [jV.1]).bind fun bg=>(bL (some m4.length) false 43 (some 3) 56 jV.2 v6 bg).bind fun mh=>(aL 2 aS).bind fun bh=>(aP none mh.2 bh mh.1).bind fun m16=>(ag .o .add vI (.I 1)).bind fun bH=>D8 x3 x8 aS xF qD bH m16 K) (K (.exit 0) (N3 x8 aS m)):=
(bX (bQ _) _ _ _).trans au
theorem qhM:Hu (aH f50) (.exit 0) (N3 x8 aS m)=(aj (some 4) m aS).bind fun v1=>(aP (some 4) m x8 v1).bind fun m2=>(aj (some 4) m2 x8).bind fun v3=>some ((.tup [v3,(.I 0)]),m2):=au
def M9:St:=⟨(aK (aJ (x3::br (aK (aJ []))))),m⟩
def DR:OM:=bY 109 (b8 (c2 (c2 (aE f109)))) 3 (aK (aJ (x3::aO (aJ (x9::aN::aX::aV (aK (aJ []))))))) m K
abbrev qdC:KT:=bI 109 (c2 (c2 (c2 (aE f109)))) K
abbrev qdD:KT:=bw 0 (qdC K)
abbrev G6:KT:=(qdD K)
theorem qjz:AC af 109 [a0] m=(aM false a0).bind fun v1=>(jy none 22 none aD 24 m v1 v1).bind fun r2=>(aM false a0).bind fun v3=>DR r2.1 a0 v3 (.I 0) r2.2 (G6 (aH f109)):=
(bm af 109 [a0] m (fn:=f109) (c:=aE f109) qma rfl).trans au
theorem Tg:DR x3 x9 aN aX m K=(ag .o .lss aX aN).bind fun v1=>aB v1 ((aI none x9 aX).bind fun v2=>(aj none m v2).bind fun v3=>(aF (AP af) none m 88 [v3]).bind fun r4=>(aI none x3 aX).bind fun v5=>(aP none r4.2 v5 r4.1).bind fun m6=>(ag .o .add aX (.I 1)).bind fun v7=>DR x3 x9 aN v7 m6 K) (K (.exit 0) (M9 x3 m)):=
(bX (bQ _) _ _ _).trans au
theorem qdE:G6 (aH f109) (.exit 0) (M9 x3 m)=some (x3,m):=au
end
end Go.Ab
namespace Go.Ab
open Go.Proofs Go.Proofs.Tryz
def PD(r:List Int):Prop:=py r=0->pO 100 1 r≠0
theorem Wo:∀(n:Nat) (r:List Int) (o:Own) (m:ai),r.length=n->py r=0->∃o' r' m',D5 (IA false o r) m (Ho (aH f45))=some (IA false o' r',m')/\py r'=0/\pO 100 1 r'≠0
 | 0,r,o,m,hn,hr=>by
  obtain rfl:r=[]:=oF hn;refine ⟨o,[],m,?_,hr,by decide⟩;rw[Uq,iT,ae,gE,ae,aC,an aA,Ta]
 | n+1,r,o,m,hn,hr=>by
  obtain ⟨h1,h2⟩:=z8 hr;rw[Uq,iT,ae,gE,ae,aC,aq aa,Rm _ _ _ h1 h2 100 aa,ae,iK,ae,aC]
  by_cases hp:pO 100 1 r=0
  .rw[aq hp,ae,oT aa aa,ae,RW _ _ _ _ _ aa,ae];refine Wo n (r.take (r.length-1)) .no m (by rw[im];omega) ?_;unfold py;rw[an (by rw[im];omega),aq];exact gD.2 fun a ha=>bM (h2 a (List.take_subset _ _ ha))
  .rw[an hp,Ta];exact ⟨o,r,m,rfl,hr,hp⟩
theorem qk1(z:Bool)(o:Own)(ns:List Int):∃o' r,AP af 45 [IA z o ns]=some (IA false o' r)/\PD r/\r.length<=17/\(o'=.no\/o'=.full):=by
 have key:∃o' r m',AC af 45 [IA z o ns] []=some (IA false o' r,m')/\PD r/\r.length<=17:=by
  have AJ:oV false (.I ns.length) (.I 17)=some (.I (min ns.length 17:Nat)):=by
   simp only[oV,bJ,jJ,lp];congr 2;split<;>omega
  obtain ⟨o1,m1,ha,_,_⟩:=ql0 [] z .no (ns.take (min ns.length 17)) (by rw[im];omega)
  have e0:AC af 45 [IA z o ns] []=aB (.bool (decide (py (ns.take (min ns.length 17))≠0))) (some (IA false o1 (ns.take (min ns.length 17)),m1)) (D5 (IA false o1 (ns.take (min ns.length 17))) m1 (Ho (aH f45))):=by
   rw[T45,show df none []=some (.lst none false .full []) from rfl,ae,iT,ae,AJ,ae,RW _ _ _ _ _ aa,ae,ha,ae,qbr,ae,gm,ae]
  rw[e0,aC]
  by_cases hz:py (ns.take (min ns.length 17))≠0
  .rw[aq hz];exact ⟨_,_,_,rfl,fun h=>absurd h hz,by rw[im];omega⟩
  .rw[an hz];obtain ⟨o',r',m',e,h1,h2⟩:=Wo _ _ o1 m1 rfl (Decidable.not_not.1 hz);exact ⟨o',r',m',e,fun _=>h2,by have:=(z8 h1).1;omega⟩
 obtain ⟨o',r,m',e,h1,h2⟩:=key
 refine ⟨o'.fr,r,?_,h1,h2,?_⟩
 .unfold AP jY;rw[e,ae,n6 false o' r m',ae]
  rfl
 .cases o'<;>simp[Own.fr]
theorem qpg{r:List Int}(hg:PD r)(he:py r=0):pO 100 1 r=(cn r:Nat)/\cn r<=100:=by
 obtain ⟨_,h2⟩:=z8 he;have:=qbC r 1 (fun a ha=>(h2 a ha).1) aa aa (hg he);rw[Int.one_mul] at this;exact ⟨this.1,aa⟩
theorem K7(tk:TK)(a:Int):ag tk .rem (.I a) (.I 4)=some (.I (a.tmod 4)):=by cases tk<;>rfl
theorem W47{z zl:Bool}{o ol:Own}{ar l:List Int}(h1:ar.length<=16)(h2:∀a∈ar,1<=a/\a<=64){N:Nat}(hN:pO 100 1 ar=N)(ym:N<=100):∀(j i:Nat) (m:ai) (x:AV) (t:List Int) (T:List Nat),i+j=N->GR 3 m x (t.map (AV.int .i64)) T->t.length=i->(∀y∈t,0<=y/\y<=3) ->
  ∃(m':ai) (x':AV) (t':List Int) (T':List Nat),BT (IA z o ar) (IA zl ol l) x (.I i) m (Hp (aH f47))=some (x',m')/\GR 3 m' x' (t'.map (AV.int .i64)) T'/\t'.length=N/\∀y∈t',0<=y/\y<=3:=by
 intro j
 induction j with
 | zero=>
  intro i m x t T hi h ht hy;refine ⟨m,x,t,T,?_,h,aa,hy⟩;rw[Ur,Rm _ _ _ h1 h2 100 aa,ae,hN,bS,ae,aC,an aa,qhy]
 | succ j ih=>
  intro i m x t T hi h ht hy
  have nx:∀(y:Int),∃(m':ai) (x':AV) (t':List Int) (T':List Nat),((bL none false 3 none 8 m x (.lst none false .full [.I ((IntKind.wrap .i64 (y.tmod 4+4)).tmod 4)])).bind fun gB=>BT (IA z o ar) (IA zl ol l) gB.1 (.I (i+1:Nat)) gB.2 (Hp (aH f47)))=some (x',m')/\GR 3 m' x' (t'.map (AV.int .i64)) T'/\t'.length=N/\∀y∈t',0<=y/\y<=3:=fun y=>by
   obtain ⟨x1,m1,T1,ea,g1,_,_⟩:=Ar (b:=8) h (by rw[bu];omega) aa (.I ((IntKind.wrap .i64 (y.tmod 4+4)).tmod 4));rw[ea,ae]
   have hb:0<=(IntKind.wrap .i64 (y.tmod 4+4)).tmod 4/\(IntKind.wrap .i64 (y.tmod 4+4)).tmod 4<=3:=by
    have a1:=Int.tmod_lt_of_pos y (show (0:Int)<4 by omega)
    have a2:-4<y.tmod 4:=by
     have hd:=Int.tmod_add_mul_tdiv y 4
     rcases Int.le_total 0 y with h0|h0
     .have:=Int.tmod_nonneg (a:=y) 4 h0;omega
     .have e:(-y).tmod 4=-(y.tmod 4):=Int.neg_tmod ..;have:=Int.tmod_lt_of_pos (-y) (show (0:Int)<4 by omega);omega
    rw[iV aa aa];have b1:=Int.tmod_lt_of_pos (y.tmod 4+4) (show (0:Int)<4 by omega);have b2:=Int.tmod_nonneg (a:=y.tmod 4+4) 4 aa;omega
   have g2:GR 3 m1 x1 ((t++[(IntKind.wrap .i64 (y.tmod 4+4)).tmod 4]).map (AV.int .i64)) T1:=by
    rw[iH];exact g1
   exact ih (i+1) m1 x1 _ T1 aa g2 (by simp[ht]) fun k hk=>by
    rcases hZ.1 hk with hk|hk
    .exact hy k hk
    .obtain rfl:k=_:=by simpa using hk
     exact hb
  rw[Ur,Rm _ _ _ h1 h2 100 aa,ae,hN,bS,ae,aC,aq aa,iT,ae,gE,ae,aC]
  by_cases hl:(l.length:Int)>0
  .rw[aq hl,ae,qaZ aa,ae,j6 (kV _ aa),ae,gP,ae,K7,ae,l9,ae,K7,ae,qM,ae];simp only[bU (show i+1<9223372036854775808 by omega)];exact nx _
  .rw[an hl,K7,ae,l9,ae,K7,ae,qM,ae];simp only[bU (show i+1<9223372036854775808 by omega)];exact nx _
theorem V47(z zl:Bool)(o ol:Own)(ar l:List Int)(h1:ar.length<=16)(h2:∀a∈ar,1<=a/\a<=64){N:Nat}(hN:pO 100 1 ar=N)(ym:N<=100):∃(z':Bool) (o':Own) (t:List Int),AP af 47 [IA z o ar,IA zl ol l]=some (IA z' o' t)/\(z'=true->t=[])/\t.length=N/\∀y∈t,0<=y/\y<=3:=by
 obtain ⟨m',x',t,T',e,g,ht,hy⟩:=W47 (z:=z) (zl:=zl) (o:=o) (ol:=ol) (l:=l) h1 h2 hN ym N 0 [] aD [] [] aa .none rfl aA;obtain ⟨z',o',rfl,hz⟩:=As g;refine ⟨z',o'.fr,t,?_,fun h=>uA.1 (hz h),ht,hy⟩;refine iW (m:=m') (v:=IA z' o' t) (l:=[]) ?_ (n6 z' o' t m') rfl;rw[T47];exact e
theorem X48{z zl:Bool}{o ol:Own}{l:List Int}{n:Nat}(hn:n<=64)(x5 aS aY aZ:AV)(K:KT):∀(j i:Nat) (m:ai) (x:AV) (es:List Int) (T:List Nat) (at':Nat),i+j=n->at'+64<=100000+i->GR 3 m x (es.map (AV.int .i64)) T->es.length=i ->
  ∃(m':ai) (x':AV) (es':List Int) (T':List Nat) (a':Nat),zF (IA zl ol l) x5 (.I at') (.I n) x (.I i) aS aY aZ m K=K (.exit 2) (IP (IA zl ol l) x5 (.I a') x' aS aY aZ m')/\GR 3 m' x' (es'.map (AV.int .i64)) T'/\es'.length=n/\a'<=at'+j/\Fr m m' T/\Gr m T T':=by
 intro j
 induction j with
 | zero=>
  intro i m x es T a hi ha hx he;refine ⟨m,x,es,T,a,?_,hx,aa,aa,Fr.refl _ _,Gr.refl _ _⟩;rw[M5,bz,ae,aC,an aa]
 | succ j ih=>
  intro i m x es T a hi ha hx he
  have go:∀(v:Int) (a2:Nat),a2<=a+1->∃(m':ai) (x':AV) (es':List Int) (T':List Nat) (a':Nat),((df none [.I v]).bind fun v9=>(bL none false 3 none 8 m x v9).bind fun gG=>(ag .o .add (.I (i:Nat)) (.I 1)).bind fun v11=>zF (IA zl ol l) x5 (.I a2) (.I n) gG.1 v11 aS aY aZ gG.2 K)=K (.exit 2) (IP (IA zl ol l) x5 (.I a') x' aS aY aZ m')/\GR 3 m' x' (es'.map (AV.int .i64)) T'/\es'.length=n/\a'<=a+(j+1)/\Fr m m' T/\Gr m T T':=by
   intro v a2 tC;obtain ⟨x2,m2,T2,ea,g2,f2,gg2⟩:=Ar (b:=8) hx (by simp;omega) aa (.I v);obtain ⟨m',x',es',T',a',e,k1,k2,k3,k4,k5⟩:=ih (i+1) m2 x2 (es++[v]) T2 a2 aa aa (by rw[iH];exact g2) (by simp[he]);refine ⟨m',x',es',T',a',?_,k1,k2,aa,Fr.trans f2 k4 gg2,Gr.trans f2.len gg2 k5⟩;rw[qM,ae,ea,ae,bU aa,ae];exact e
  by_cases hl:0<l.length
  .have hlt:a%l.length<l.length:=kV _ hl;obtain ⟨m',x',es',T',a',e,k⟩:=go l[a%l.length] (a+1) (aR _);refine ⟨m',x',es',T',a',?_,k⟩;have ia1:ag .o .add (.I (a:Nat)) (.I 1)=some (.I (a+1:Nat)):=bU aa;rw[M5,bz,ae,aC,aq aa,iT,ae,gE,ae,aC,aq aa,ae,qaZ aa,ae,j6 hlt,ae,gP,ae,ia1,ae];exact e
  .obtain ⟨m',x',es',T',a',e,k⟩:=go 1 a aa;refine ⟨m',x',es',T',a',?_,k⟩;rw[M5,bz,ae,aC,aq aa,iT,ae,gE,ae,aC,an aa];exact e
theorem qlF{z zl:Bool}{o ol:Own}{l ar:List Int}(h1:∀x∈ar,1<=x/\x<=64)(dQ:ar.length<=16)(K:KT):∀(Q P:List Int) (m:ai) (x:AV) (rows:List (List Int)) (T:List Nat) (a:Nat),ar=P++Q->a<=64*P.length->GR 22 m x (rows.map fun r=>(rX r).av) T->rows.map (fun r=>(r.length:Int))=P ->
  ∃(m':ai) (x':AV) (rows':List (List Int)) (T':List Nat),D6 (IA zl ol l) x (.I a) (IA z o ar) (.I ar.length) (.I P.length) m K=K (.exit 0) (NZ x' m')/\GR 22 m' x' (rows'.map fun r=>(rX r).av) T'/\rows'.map (fun r=>(r.length:Int))=ar:=by
 intro Q
 induction Q with
 | nil=>
  intro P m x rows T a pW ha hx hr;rw[cu] at pW;subst pW;refine ⟨m,x,rows,T,?_,hx,hr⟩;rw[Us,bz,ae,aC,an aa]
 | cons n Q ih=>
  intro P m x rows T a pW ha hx hr;have qu:P.length<ar.length:=by rw[pW];simp
  have hn:=h1 n (by rw[pW];simp);obtain ⟨k,rfl⟩:=nE (show 0<=n by omega)
  have ix:aI none (IA z o ar) (.I P.length)=some (.vptr [.I (k:Nat)]):=by
   rw[j6 qu];congr 3;simp[pW]
  obtain ⟨m1,x1,es,T1,a1,e8,g1,l1,Fg,f1,gr1⟩:=X48 (z:=z) (zl:=zl) (o:=o) (ol:=ol) (l:=l) (n:=k) aa x (IA z o ar) (.I ar.length) (.I P.length) (Hr K) k 0 m aD [] [] a aa aa .none rfl;have hx1:GR 22 m1 x (rows.map fun r=>(rX r).av) T:=Fa hx fun q hq=>f1.get q (Cu hx q hq) aA;have FJ:rows.length=P.length:=by rw[<- hr,bu]
  obtain ⟨x2,m2,T2,ea,g2,f2,gg2⟩:=Ar (b:=24) hx1 (by simp;omega) aa (rX es).av;obtain ⟨m',x',rows',T',e,k1,k2⟩:=ih (P++[(k:Int)]) m2 x2 (rows++[es]) T2 a1 (by rw[pW,gR];rfl) (by rw[aW,vS];omega) (by rw[iH];exact g2) (by rw[iH,hr,gh,sk,l1]);refine ⟨m',x',rows',T',?_,k1,k2⟩;rw[aW,vS] at e;have e8:zF (IA zl ol l) x (.I a) (.I (k:Nat)) aD (.I 0) (IA z o ar) (.I ar.length) (.I P.length) m (Hr K)=_:=e8;rw[Us,bz,ae,aC,aq aa,ix,ae,gP,ae];rw[e8,qhG,qov g1 (by intro h;rw[h] at l1;simp at l1;omega),ae,ea,ae,bU aa,ae];exact e
theorem qk2(z zl:Bool)(o ol:Own){ar:List Int}(h1:∀x∈ar,1<=x/\x<=64)(dQ:ar.length<=16)(l:List Int):∃L:OL,AP af 48 [IA z o ar,IA zl ol l]=some L.av/\LawOdds ar L/\∀r∈L.es,r.z=false:=by
 obtain ⟨m',x',rows,T,e,g,hr⟩:=qlF (z:=z) (zl:=zl) (o:=o) (ol:=ol) (l:=l) h1 dQ (Hq (aH f48)) ar [] [] aD [] [] 0 rfl aA .none rfl;have e:D6 (IA zl ol l) aD (.I 0) (IA z o ar) (.I ar.length) (.I 0) [] (Hq (aH f48))=_:=e
 have e16:AC af 48 [IA z o ar,IA zl ol l] []=some (x',m'):=by
  rw[T48,iT,ae,e,qhB]
 obtain ⟨z',o',rfl,hz⟩:=As g
 have lo:∀o2,LawOdds ar ⟨z',(o2:Own).fr,rows.map rX⟩:=fun o2=>by
  have hl:rows.length=ar.length:=by rw[<- hr,bu]
  refine ⟨by simp[hl],fun u hu=>?_,?_,fun r hr=>by obtain ⟨q,_,rfl⟩:=iw.1 hr;rfl⟩
  .have hur:u<rows.length:=by simpa using hu
   have:(ar.getD u 0)=(rows[u].length:Int):=by
    rw[<- hr,aT,mS,bP hur];rfl
   rw[this];simp[rX]
  .unfold Pq.OL.fr;cases o2<;>rfl
 refine ⟨⟨z',o'.fr,rows.map rX⟩,?_,lo o',by simp[rX]⟩
 have pA:Pq.OL.av ⟨z',o'.fr,rows.map rX⟩=.lst none z' o'.fr (rows.map fun r=>(rX r).av):=by
  unfold Pq.OL.av;rw[sj];rfl
 rw[pA];exact iW (m:=m') (l:=[]) e16 (by cases o'<;>rfl) rfl
end Go.Ab
namespace Go.Ab
open Go.Proofs Go.Proofs.Tryz
theorem RZ{m:ai}{a b c a' b' c':AV}(hs:dJ (some 3) (.agg [a',b',c'])=true):aP (some 3) (m++[some (Ent.B [a,b,c])]) (.ptr m.length 0) (.agg [a',b',c'])=some (m++[some (Ent.B [a',b',c'])]):=by
 rw[sa,cJ rfl,mg,ae];simp[dz,Sh.size,hs,b9,AV.cells]
theorem qsg{e:Nat}{m:ai}{x:AV}{l:List ND}{T:List Nat}(h:NR e m x l T)(hl:l.length<=100000)(n:ND):∃x' m' T',bL (some m.length) false e (some 3) 40 (m++[some Ent.resv]) x (.lst (some 3) false .full [n.av])=some (x',m')/\NR e m' x' (l++[n]) T'/\Fr m m' T/\Gr m T T':=by
 have h2:(l.length+1)*40<=ft:=by unfold ft;omega
 cases h with
 | none=>
  refine ⟨.lst (some 3) false (.tok m.length e) [n.av],(m++[some Ent.resv]).set m.length (some (Ent.tok 1 3)),[m.length],?_,.some _ [n] (by simp (disch:=first|assumption|omega|simp only[b7]<;>omega|fail) only[ik,cK,cJ,cQ,di]<;>rfl),(Fr.app m _ _).set _ (.inr (aR _)),fun k hk=>?_⟩
  .have h2:40<=ft:=by unfold ft;omega
   simp[bL,h2,az,Sh.size]
  .obtain rfl:k=m.length:=by simpa using hk
   exact .inr (aR _)
 | some t es ht=>
  have fJ:=bW ht;have vc:ai.get (m++[some Ent.resv]) t=some (.tok l.length 3):=by rw[cK fJ];exact ht
  refine ⟨.lst (some 3) false (.tok t e) (l.map ND.av++[n.av]),(m++[some Ent.resv]).set t (some (Ent.tok (l.length+1) 3)),[t],?_,?_,(Fr.app m _ [t]).set _ (.inl aA),Gr.refl _ _⟩
  .simp[bL,vc,Sh.size,h2]
  .have e3:l.map ND.av++[n.av]=(l++[n]).map ND.av:=aA;rw[e3];refine .some t (l++[n]) ?_;rw[di rfl (by simp;omega),aW];rfl
theorem qpC(a b:Int)(z:Bool)(o:Own)(ks:List AV):Fz (.agg [.I a,.lst none z o ks,.I b]) (.agg [.I a,rl (.lst none z o ks),.I b]):=fun m=>by cases o<;>rfl
theorem qsi{e:Nat}{m:ai}{x:AV}{l:List ND}{T:List Nat}(h:NR e m x l T):∃sh z o es,x=.lst sh z o es:=by
 cases h with
 | none=>exact ⟨_,_,_,_,rfl⟩
 | some t l ht=>exact ⟨_,_,_,_,rfl⟩
theorem SH{m:ai}{b q:Nat}{arms x:AV}{L:List ND}{T:List Nat}{n:ND}{z:Bool}{o:Own}(qS:m.get b=some (.B [arms,x]))(h:NR 146 m x L T)(tD:b∉T)(Qm:q≠b)(wV:q∉T)(hq:m.get q=some (.B [.I n.var,.lst none z o (n.kids.map (AV.int .i64)),.I n.leaf]))
  (hk:rl (.lst none z o (n.kids.map (AV.int .i64)))=fD n) (hn:n.ok) (hL:∀y∈L,y.ok) (hl:L.length<=100000) :
  ∃(m':ai) (x':AV) (T':List Nat),vN (.ptr b 0) (.ptr q 0) x (.I L.length) (.I 0) m (uz (aH f91))=some (.I (L.idxOf n:Nat),m')/\m'.get b=some (.B [arms,x'])/\NR 146 m' x' (jD L n) T'/\Fr m m' (b::T)/\Gr m T T'/\b∉T':=by
 have pB:=bW qS;have Kl:=bW hq;have pA:AV.agg [.I n.var,fD n,.I n.leaf]=n.av:=rfl
 have W:∀(j i:Nat) (m1:ai),i+j=L.length->(∀t (ht:t<L.length),t<i->L[t]≠n)->Fr m m1 [] ->
   ∃m2,vN (.ptr b 0) (.ptr q 0) x (.I L.length) (.I i) m1 (uz (aH f91))=(if n∈L then some (.I (L.idxOf n:Nat),m2) else uz (aH f91) (.exit 4) (Oi (.ptr b 0) (.ptr q 0) m2))/\Fr m m2 []:=by
  intro j
  induction j with
  | zero=>
   intro i m1 hi hne f
   have qU:n∉L:=fun hm=>by
    obtain ⟨t,ht,e⟩:=n0 hm;exact hne t ht aa e
   refine ⟨m1,?_,f⟩;rw[UL,bz,ae,aC,an aa,an qU]
  | succ j ih=>
   intro i m1 hi hne f;have cE:i<L.length:=aa;have n8:=qsh h cE;have bxi:=Jr L[i] m1 (JT m1);have f2:Fr m (m1++[some (Ent.B [.I L[i].var,fD L[i],.I L[i].leaf])]) []:=f.snoc _;have gq:ai.get (m1++[some (Ent.B [.I L[i].var,fD L[i],.I L[i].leaf])]) q=_:=(f2.get q Kl (by simp)).trans hq
   have ld1:aj (some 3) (m1++[some (Ent.B [.I L[i].var,fD L[i],.I L[i].leaf])]) (.ptr q 0)=some (.agg [.I n.var,.lst none z o (n.kids.map (AV.int .i64)),.I n.leaf]):=by
    rw[fK,gq];rfl
   have ld2:aj (some 3) (m1++[some (Ent.B [.I L[i].var,fD L[i],.I L[i].leaf])]) (.ptr m1.length 0)=some L[i].av:=by
    rw[fK,cJ rfl];rfl
   have p60:aF (AP af) none (m1++[some (Ent.B [.I L[i].var,fD L[i],.I L[i].leaf])]) 142 [.agg [.I n.var,.lst none z o (n.kids.map (AV.int .i64)),.I n.leaf],L[i].av]=some (.bool (decide (n=L[i])),m1++[some (Ent.B [.I L[i].var,fD L[i],.I L[i].leaf])]):=by
    rw[fN (qpC _ _ _ _ _) (qpy _),hk,pA,V60 hn (hL _ (bA cE))];rfl
   have e0:vN (.ptr b 0) (.ptr q 0) x (.I L.length) (.I i) m1 (uz (aH f91))=aB (.bool (decide (n=L[i]))) (some (.I i,m1++[some (Ent.B [.I L[i].var,fD L[i],.I L[i].leaf])])) (vN (.ptr b 0) (.ptr q 0) x (.I L.length) (.I (i+1:Nat)) (m1++[some (Ent.B [.I L[i].var,fD L[i],.I L[i].leaf])]) (uz (aH f91))):=by
    rw[UL,bz,ae,aC,aq aa,n8,ae,A4,ae,mO,mO];dsimp only;rw[bxi,ae,ld1,ae,ld2,ae,p60,ae,bU aa,ae,qiR]
   rw[e0,aC]
   by_cases he:n=L[i]
   .have hm:n∈L:=he▸bA cE;have iy:L.idxOf n=i:=ZP cE he.symm hne;refine ⟨_,?_,f2⟩;rw[aq he,aq hm,iy]
   .rw[an he]
    exact ih (i+1) _ aa (fun t ht hti=>by
     rcases sq t i with hh|hh
     .exact hne t ht hh
     .obtain rfl:t=i:=aa
      exact fun e=>he e.symm) f2
 obtain ⟨m2,e2,f2⟩:=W L.length 0 m aa (fun _ _ h=>aa) (Fr.refl _ _);have e2:vN (.ptr b 0) (.ptr q 0) x (.I L.length) (.I 0) m (uz (aH f91))=_:=e2;rw[e2];have gb2:m2.get b=some (.B [arms,x]):=(f2.get b pB (by simp)).trans qS
 by_cases hm:n∈L
 .rw[aq hm,jD,aq hm];exact ⟨m2,x,T,rfl,gb2,xn h fun k hk=>f2.get k (xm h k hk) aA,f2.mono aA,Gr.refl _ _,tD⟩
 .rw[an hm,jD,an hm,FV hm];have gq2:ai.get m2 q=some (.B [.I n.var,.lst none z o (n.kids.map (AV.int .i64)),.I n.leaf]):=(f2.get q Kl (by simp)).trans hq;have h2:NR 146 m2 x L T:=xn h fun k hk=>f2.get k (xm h k hk) aA;obtain ⟨x3,m3,T3,ea,n3,f3,gg3⟩:=qsg h2 hl n;have pD:=Jt n.var n.leaf z o (n.kids.map (AV.int .i64));rw[hk,pA] at pD;have YE:=bW gb2;have Ql:=bW gq2;have gb3:m3.get b=some (.B [arms,x]):=(f3.get b YE tD).trans gb2;have YF:=bW gb3;have ldx:aj none (bV m2 1) (.ptr b (0+1))=some x:=by rw[ik,fK,cK YE,gb2];rfl
  have ldq:aj (some 3) (bV m2 1) (.ptr q 0)=some (.agg [.I n.var,.lst none z o (n.kids.map (AV.int .i64)),.I n.leaf]):=by rw[ik,fK,cK Ql,gq2];rfl
  obtain ⟨sh3,z3,o3,es3,rfl⟩:=qsi n3
  have st:aP none m3 (.ptr b (0+1)) (.lst sh3 z3 o3 es3)=some (m3.set b (some (.B [arms,.lst sh3 z3 o3 es3]))):=by
   rw[sa,gb3,mg,ae];rfl
  have ld4:aj none (m3.set b (some (.B [arms,.lst sh3 z3 o3 es3]))) (.ptr b (0+1))=some (.lst sh3 z3 o3 es3):=by
   rw[fK,di rfl YF];rfl
  have ln:=Rb n3
  have YH:b∉T3:=fun hh=>by
   rcases gg3 b hh with h4|h4
   .exact tD h4
   .omega
  refine ⟨m3.set b (some (.B [arms,.lst sh3 z3 o3 es3])),.lst sh3 z3 o3 es3,T3,?_,di rfl YF,xn n3 fun k hk=>cQ (fun e=>YH (e▸hk)),?_,?_,YH⟩
  .rw[ik] at ldx ldq;rw[qiS,p8,ae,iL,ae,ik,ldx,ae,ldq,ae,pD,ae,ea,ae,ae,iL,ae,st,ae,ae,iL,ae,ld4,ae,ln,ae,aW,oT aA (by simp;omega),ae];simp
  .exact ((Fr.trans (f2.mono (F':=b::T) aA) f3 fun x hx=>.inl (by simp[hx])).set _ (.inl aA))
  .intro k hk
   rcases gg3 k hk with h4|h4
   .exact .inl h4
   .have:=f2.len;exact .inr aa
end Go.Ab
namespace Go.Ab
open Go.Proofs Go.Proofs.Tryz
theorem qpO{e:Nat}{m:ai}{x:AV}{l:List AV}{T:List Nat}(h:GR e m x l T):∀k∈T,∃n,m.get k=some (.tok n 1):=by
 cases h with
 | none=>simp
 | some t l ht _=>
  intro k hk;obtain rfl:k=t:=by simpa using hk
  exact ⟨_,ht⟩
def G3(l:List ND)(ar:List Int)(za:Bool)(oa:Own)(b v:Nat):Prop:=∀(m:ai) (z:Bool) (o:Own) (part:List Int) (id:Nat) (out:List Nat) (x:AV) (T:List Nat),m.get b=some (.B [IA za oa ar,x])->NR 146 m x (dR l out) T->b∉T->Cl l out->TabV ar l id v part ->
 ∃(m':ai) (x':AV) (T':List Nat),AC af 91 [.ptr b 0,.I v,IA z o part] m=some (.I ((Vi l id out).idxOf id:Nat),m')/\m'.get b=some (.B [IA za oa ar,x'])/\NR 146 m' x' (dR l (Vi l id out)) T'/\Fr m m' (b::T)/\Gr m T T'/\b∉T'
section
variable {l:List ND} {ar:List Int} {za:Bool} {oa:Own} {b v:Nat}
theorem qly{m:ai}{x:AV}(qS:m.get b=some (.B [IA za oa ar,x])){z z1:Bool}{o o1:Own}{part first:List Int}{a n:Nat}(hv:v<ar.length)(ha:ar[v]=(a:Int))(quY:a<=64)(hp:part.length=a*n)(hpl:part.length<=300)(hf:first.length<=300)(x7:AV)(K:KT):∀(j k:Nat) (fr:Bool),k+j=a ->
  ∃fr':Bool,BW (.ptr b 0) (.I v) (IA z o part) x7 (.I n) (IA z1 o1 first) (.bool fr) (.I k) m K=K (.exit 0) (Oj (.ptr b 0) (.I v) (IA z o part) x7 (.I n) (IA z1 o1 first) (.bool fr') m)/\(fr'=true↔fr=true/\∀q,k<=q->q<a->_root_.Go.Ab.part part n q=first):=by
 have iy:aI none (IA za oa ar) (.I v)=some (.vptr [.I a]):=by rw[j6 hv,ha]
 have ldx:aj none m (.ptr b (0+0))=some (IA za oa ar):=by rw[fK,qS];rfl
 intro j
 induction j with
 | zero=>
  intro k fr hk;refine ⟨fr,?_,⟨fun h=>⟨h,fun q h1 h2=>aa⟩,fun h=>h.1⟩⟩;rw[M7,p8,ae,iL,ae,ldx,ae,iy,ae,gP,ae,bS,ae,aC,an aa]
 | succ j ih=>
  intro k fr hk;have wM:k<a:=aa;have tN:(k+1)*n<=part.length:=by rw[hp];exact jl _ aa
  have Zd:k*n<=(k+1)*n:=jl _ aa;have wT:=part_len hp wM;have mI:n<=(k+1)*n:=Nat.le_mul_of_pos_left _ aa
  cases fr with
  | false=>
   obtain ⟨fr',e,h⟩:=ih (k+1) false aa
   refine ⟨fr',?_,?_⟩
   .rw[M7,p8,ae,iL,ae,ldx,ae,iy,ae,gP,ae,bS,ae,aC,aq wM,gT,bU aa,ae];exact e
   .rw[h];simp
  | true=>
   obtain ⟨fr',e,h⟩:=ih (k+1) (decide (_root_.Go.Ab.part part n k=first)) aa
   refine ⟨fr',?_,?_⟩
   .rw[M7,p8,ae,iL,ae,ldx,ae,iy,ae,gP,ae,bS,ae,aC,aq wM,ll,C3 aa,ae,bU aa,ae,C3 aa,ae,O6 z o part .i64 tN,ae,qsK z z1 .no o1 _ first aa m,ae,ae]
    exact e
   .rw[h,wu]
    constructor
    .rintro ⟨h1,h2⟩;refine ⟨rfl,fun q qW wU=>?_⟩
     by_cases FH:q=k
     .subst FH;exact h1
     .exact h2 q aa wU
    .rintro ⟨_,h2⟩;exact ⟨h2 k (aR _) wM,fun q qW wU=>h2 q aa wU⟩
theorem qlz(g:GoodL ar l)(h1:∀x∈ar,1<=x/\x<=64)(fI:l.length<=100000)(hv:v<ar.length)(dQ:ar.length<=16){a n:Nat}(ha:ar[v]=(a:Int))(hn:n=cn (ar.drop (v+1))){id:Nat}(hid:id<l.length)(nh:l[id].var=v){part:List Int}(htab:TabV ar l id v part)(hpl:part.length<=300)(ih:G3 l ar za oa b (v+1)){z:Bool}{o:Own}
  {m0:ai} {T0:List Nat} {q:Nat} (hq0:m0.length<=q) (hbq:b<m0.length) (hT0:∀y∈T0,y<m0.length):∀(j k:Nat) (m:ai) (out:List Nat) (x xk:AV) (T Tk:List Nat),k+j=a->m.get b=some (.B [IA za oa ar,x])->NR 146 m x (dR l out) T->b∉T->Cl l out->Fr m0 m (b::T0)->Gr m0 T0 T->q∉T->(∀i∈l[id].kids.take k,i.toNat∈out) ->
   m.get q=some (.B [.I v,xk,.I 0])->GR 3 m xk (((l[id].kids.take k).map fun i=>((out.idxOf i.toNat:Nat):Int)).map (AV.int .i64)) Tk->(∀y∈Tk,m0.length<=y/\y∉T) ->
   ∃(m':ai) (x' xk':AV) (T' Tk':List Nat),Ea (.ptr b 0) (.I v) (IA z o part) (.ptr q 0) (.I n) (.I k) m (DP (aH f91))=DP (aH f91) (.exit 2) (Oh (.ptr b 0) (.ptr q 0) m') /\
    m'.get b=some (.B [IA za oa ar,x'])/\NR 146 m' x' (dR l (iJ l (l[id].kids.drop k) out)) T'/\b∉T'/\Fr m0 m' (b::T0)/\Gr m0 T0 T'/\q∉T'/\m'.get q=some (.B [.I v,xk',.I 0])/\GR 3 m' xk' ((l[id].kids.map fun i=>(((iJ l (l[id].kids.drop k) out).idxOf i.toNat:Nat):Int)).map (AV.int .i64)) Tk':=by
 have aU:ar.getD v 0=(a:Int):=by rw[aT,bP hv,fk,ha]
 have jc:=h1 _ (bA hv)
 have fZ:l[id].kids.length=a:=by
  have:=(g.var id hid (by omega)).2;rw[nh,cU,aU] at this;omega
 have hp:part.length=a*n:=by
  rw[htab.len,vr hv,aU,hn];rfl
 have iy:aI none (IA za oa ar) (.I v)=some (.vptr [.I a]):=by rw[j6 hv,ha]
 intro j
 induction j with
 | zero=>
  intro k m out x xk T Tk hk qS wR tD hc f gr wV P7 wW yu wG;have hd:l[id].kids.drop k=[]:=gU aa;have ht:l[id].kids.take k=l[id].kids:=iX aa;rw[ht] at yu;have ldx:aj none m (.ptr b (0+0))=some (IA za oa ar):=by rw[fK,qS];rfl
  refine ⟨m,x,xk,T,Tk,?_,qS,by rw[hd];exact wR,tD,f,gr,wV,wW,by rw[hd];exact yu⟩;rw[UK,p8,ae,iL,ae,ldx,ae,iy,ae,gP,ae,bS,ae,aC,an aa]
 | succ j ihj=>
  intro k m out x xk T Tk hk qS wR tD hc f gr wV P7 wW yu wG;have wM:k<a:=aa;have wN:k<l[id].kids.length:=aa;have tN:(k+1)*n<=part.length:=by rw[hp];exact jl _ aa
  have Zd:k*n<=(k+1)*n:=jl _ aa;have ldx:aj none m (.ptr b (0+0))=some (IA za oa ar):=by rw[fK,qS];rfl
  obtain ⟨t,et,ht⟩:=pZ g hid _ (bA wN);have kN:=Sa g (fun x hx=>(h1 x hx).1) hv htab hid nh (k:=k) (by rw[aU];omega);have eg:l[id].kids.getD k 0=(t:Int):=by rw[aT,bP wN,fk,et]
  rw[eg,cU,<- hn] at kN;have pB:=bW qS;have Kl:=bW wW;obtain ⟨m1,x1,T1,e70,gb1,n1,f1,gr1,qp1⟩:=ih m z .no _ t out x T qS wR tD hc kN;obtain ⟨c1,c2,r,c3,c4⟩:=pT g t kN.lt out hc;have Qm:q≠b:=aa;have qW:m1.get q=some (.B [.I v,xk,.I 0]):=(f1.get q Kl (by simp;exact ⟨Qm,wV⟩)).trans wW
  have Zt:q∉T1:=fun hh=>by
   rcases gr1 q hh with h4|h4
   .exact wV h4
   .omega
  have qqf:GR 3 m1 xk (((l[id].kids.take k).map fun i=>(((Vi l t out).idxOf i.toNat:Nat):Int)).map (AV.int .i64)) Tk:=by
   have e:((l[id].kids.take k).map fun i=>(((Vi l t out).idxOf i.toNat:Nat):Int))=((l[id].kids.take k).map fun i=>((out.idxOf i.toNat:Nat):Int)):=List.map_congr_left fun i hi=>by
    rw[c3,List.idxOf_append,aq (P7 i hi)]
   rw[e]
   exact Fa yu fun y hy=>f1.get y (Cu yu y hy) (by
    simp only[gI,not_or]
    exact ⟨fun e=>by have:=(wG y hy).1;omega,(wG y hy).2⟩)
  obtain ⟨x2,m2,Tk2,ea,g2,f2,gg2⟩:=Ar (b:=8) qqf (by simp;omega) aa (.I ((Vi l t out).idxOf t:Nat));have ntk:∀y,y∉Tk->y<m1.length->m2.get y=m1.get y:=fun y h h'=>f2.get y h' h;have qp0:=bW gb1;have qqL:=bW qW;have qpW:b∉Tk:=fun h=>by have:=(wG b h).1;omega
  have Yw:q∉Tk:=fun h=>by
   have h2:=Cu yu q h;obtain ⟨k',vc⟩:=qpO yu q h;rw[wW] at vc;cases vc
  have gb2:m2.get b=some (.B [IA za oa ar,x1]):=(ntk b qpW qp0).trans gb1;have gq2:m2.get q=some (.B [.I v,xk,.I 0]):=(ntk q Yw qqL).trans qW
  have Yv:∀y∈Tk,y∉T1:=fun y hy hh=>by
   rcases gr1 y hh with h4|h4
   .exact (wG y hy).2 h4
   .have:=Cu yu y hy;omega
  have n2:NR 146 m2 x1 (dR l (Vi l t out)) T1:=xn n1 fun y hy=>ntk y (fun h=>Yv y h hy) (xm n1 y hy);have Ql:=bW gq2;obtain ⟨xz,xo,rfl,_⟩:=As g2
  have st:aP none m2 (.ptr q (0+1)) (.lst none xz xo (((l[id].kids.take k).map fun i=>(((Vi l t out).idxOf i.toNat:Nat):Int)).map (AV.int .i64)++[.I ((Vi l t out).idxOf t:Nat)]))=some (m2.set q (some (.B [.I v,.lst none xz xo (((l[id].kids.take k).map fun i=>(((Vi l t out).idxOf i.toNat:Nat):Int)).map (AV.int .i64)++[.I ((Vi l t out).idxOf t:Nat)]),.I 0]))):=by
   rw[sa,gq2,mg,ae];rfl
  have ek:(((l[id].kids.take k).map fun i=>(((Vi l t out).idxOf i.toNat:Nat):Int)).map (AV.int .i64)++[.I ((Vi l t out).idxOf t:Nat)])=((l[id].kids.take (k+1)).map fun i=>(((Vi l t out).idxOf i.toNat:Nat):Int)).map (AV.int .i64):=by
   rw[mU wN,iH,iH,et];rfl
  have hnq:∀y∈Tk2,y≠q:=fun y hy e=>by
   rcases gg2 y hy with h4|h4
   .exact Yw (e▸h4)
   .omega
  have ed:iJ l (l[id].kids.drop k) out=iJ l (l[id].kids.drop (k+1)) (Vi l t out):=by
   rw[jP wN,zX,et,cU]
  have F1:Fr m0 m1 (b::T0):=Fr.trans f f1 fun y hy=>by
   rcases gI.1 hy with rfl|hy
   .exact .inl aA
   .rcases gr y hy with h4|h4
    .exact .inl (by simp[h4])
    .exact .inr h4
  have F2:Fr m0 m2 (b::T0):=Fr.trans F1 f2 fun y hy=>.inr (wG y hy).1
  obtain ⟨m',x',xk',T',Tk',e,k1,k2,k3,k4,k5,k6,k7,k8⟩:=ihj (k+1) (m2.set q (some (.B [.I v,.lst none xz xo (((l[id].kids.take k).map fun i=>(((Vi l t out).idxOf i.toNat:Nat):Int)).map (AV.int .i64)++[.I ((Vi l t out).idxOf t:Nat)]),.I 0]))) (Vi l t out) x1 _ T1 Tk2 aa
   (by rw[cQ (fun e=>Qm e.symm)];exact gb2) (xn n2 fun y hy=>cQ (fun e=>Zt (e▸hy))) qp1 c1 (F2.set _ (.inr hq0)) (Gr.trans f.len gr gr1) Zt (fun i hi=>by
    rw[mU wN] at hi
    rcases hZ.1 hi with hi|hi
    .rw[c3];exact zJ _ (P7 i hi)
    .obtain rfl:i=l[id].kids[k]:=by simpa using hi
     rw[et,cU];exact c2) (di rfl Ql) (by
    rw[<- ek]
    exact Fa g2 fun y hy=>cQ (hnq y hy)) (fun y hy=>by
    have l1:=f1.len;have l0:=f.len
    rcases gg2 y hy with h4|h4
    .exact ⟨(wG y h4).1,Yv y h4⟩
    .refine ⟨aa,fun hh=>?_⟩;have:=xm n1 y hh
     omega)
  refine ⟨m',x',xk',T',Tk',?_,k1,by rw[ed];exact k2,k3,k4,k5,k6,k7,by rw[ed];exact k8⟩;have ldk:aj none m (.ptr q (0+1))=some xk:=by rw[fK,wW];rfl
  have ldk1:aj none m1 (.ptr q (0+1))=some xk:=by rw[fK,qW];rfl
  rw[UK,p8,ae,iL,ae,ldx,ae,iy,ae,gP,ae,bS,ae,aC,aq wM,iL,ae,ldk,ae,bU aa,ae,C3 aa,ae,bU aa,ae,C3 aa,ae,O6 z o part .i64 tN,ae,e70,ae];rw[yK (by simp only[ldk1,ae]),qM,ae,ea,ae,ae,st,ae,ae];exact e
theorem KE(g:GoodL ar l)(fI:l.length<=100000){out:List Nat}(hc:Cl l out):∀y∈dR l out,y.ok:=fun y hy=>by
 obtain ⟨i,hi,rfl⟩:=iw.1 hy;have:=q8 _ _ hc.nd hc.lt;exact Gh g fI aa (hc.lt i hi)
theorem SG(g:GoodL ar l)(h1:∀x∈ar,1<=x/\x<=64)(fI:l.length<=100000)(dQ:ar.length<=16)(hv:v<=ar.length)(yF:cn (ar.drop v)<=300)(ih:v<ar.length->G3 l ar za oa b (v+1)):G3 l ar za oa b v:=by
 intro m z o part id out x T qS wR tD hc htab;have tt:∀x∈ar,1<=x:=fun x hx=>(h1 x hx).1;have hid:=htab.lt;have hpp:1<=cn (ar.drop v):=Gm fun x hx=>tt x (List.drop_subset _ _ hx);have hpl:=htab.len;obtain ⟨c0,ct,ec⟩:=List.exists_cons_of_ne_nil (show part≠[] from fun e=>by rw[e] at hpl;simp at hpl;omega);have pB:=bW qS;have i0:aI none (IA z o part) (.I 0)=some (.vptr [.I c0]):=by rw[ec];exact FW aA
 have hb:fR (.agg [(.I 0),aD,(.I 0)]) [(0,none,(.I (-1))),(2,none,.I c0)]=some (.agg [.I (-1),aD,.I c0]):=rfl;have sn:=RZ (m:=m) (a:=.I 0) (b:=aD) (c:=.I 0) (a':=.I (-1)) (b':=aD) (c':=.I c0) rfl;have f4:Fr m (m++[some (Ent.B [.I (-1),aD,.I c0])]) []:=Fr.app m _ _;generalize AI:m++[some (Ent.B [.I (-1),aD,.I c0])]=m4 at sn f4
 have gq:m4.get m.length=some (Ent.B [.I (-1),aD,.I c0]):=by rw[<- AI];exact (by simp (disch:=first|assumption|omega|simp only[b7]<;>omega|fail) only[ik,cK,cJ,cQ,di]<;>rfl)
 have l4:m4.length=m.length+1:=by rw[<- AI];simp
 have gb4:m4.get b=some (.B [IA za oa ar,x]):=(f4.get b pB (by simp)).trans qS;have n4:NR 146 m4 x (dR l out) T:=xn wR fun k hk=>f4.get k (xm wR k hk) aA;have wV:m.length∉T:=fun h=>by have:=xm wR _ h;omega
 have Qf:out.length<=l.length:=q8 _ _ hc.nd hc.lt;have p78:=qsJ z o part (by rw[ec];simp) aa m4;have e0:AC af 91 [.ptr b 0,.I v,IA z o part] m=_:=T91 _ _ _ m;rw[i0,ae,gP,ae,hb,ae,mO,mO] at e0;dsimp only at e0;rw[sn,ae,p78,ae,nB,ae,ec,List.headD_cons,<- ec] at e0;have ldx0:aj none m4 (.ptr b (0+0))=some (IA za oa ar):=by rw[fK,gb4];rfl
 have ldx1:aj none m4 (.ptr b (0+1))=some x:=by rw[fK,gb4];rfl
 by_cases hall:(part.all fun k=>k==c0)=true
 ·
  rw[hall,jj,gT,p8,ae,iL,ae,ldx1,ae,Rb wR,ae] at e0;have CH:=qoU g tt hv htab (c:=c0) (fun y hy=>by simpa using gD.1 hall y hy)
  have hnd:nd l out id=ja c0:=by
   unfold nd;rw[CH];rfl
  rw[iM hid] at CH;have Zc:l[id].kids=[]:=by rw[CH];rfl
  have bc:=Gh g fI (p:=out) aa hid;rw[hnd] at bc;obtain ⟨m5,x5,T5,e5,k1,k2,k3,k4,k5⟩:=SH (n:=ja c0) (z:=true) (o:=.full) gb4 n4 tD (show m.length≠b by omega) wV gq rfl bc (KE g fI hc) (by unfold dR;rw[bu];omega);have pr:=qbJ g hc hid (by rw[Zc];simp)
  have eV:Vi l id out=if id∈out then out else out++[id]:=by rw[VZ g hid hc,Zc,OH]
  rw[hnd,<- eV] at pr;refine ⟨m5,x5,T5,?_,k1,by rw[<- pr.1];exact k2,Fr.trans (f4.mono aA) k3 fun y hy=>.inl hy,Gr.trans f4.len (Gr.refl _ _) k4,k5⟩;rw[e0,e5,pr.2]
 .rw[Bool.not_eq_true] at hall
  have fL:v<ar.length:=by
   refine Decidable.byContradiction fun hn=>?_;have:ar.drop v=[]:=gU aa;rw[this] at hpl;have hpl:part.length=1:=hpl;rw[ec] at hpl hall;have:ct=[]:=by simpa using hpl
   rw[this] at hall;simp at hall
  have jc:=h1 _ (bA fL);obtain ⟨a,ha⟩:=nE (by omega:0<=ar[v]);have aU:ar.getD v 0=(a:Int):=by rw[aT,bP fL,fk,ha]
  have iy:aI none (IA za oa ar) (.I v)=some (.vptr [.I a]):=by rw[j6 fL,ha]
  have tQ:cn (ar.drop v)=a*cn (ar.drop (v+1)):=by rw[vr fL,aU];rfl
  have mI:1<=cn (ar.drop (v+1)):=Gm fun x hx=>tt x (List.drop_subset _ _ hx);have AU:part.length=a*cn (ar.drop (v+1)):=by rw[hpl,tQ]
  have hle:cn (ar.drop (v+1))<=part.length:=by rw[AU];exact Nat.le_mul_of_pos_left _ aa
  have hdiv:part.length/a=cn (ar.drop (v+1)):=by rw[AU,Nat.mul_div_cancel_left _ aa]
  have mM:gX none (IA z o part) none (some (.I (cn (ar.drop (v+1)):Nat))) none=some (IA z .no (_root_.Go.Ab.part part (cn (ar.drop (v+1))) 0)):=by
   rw[RW _ _ _ _ _ hle];unfold _root_.Go.Ab.part;rw[zM,gC]
  have Ki:=part_len AU (k:=0) aa
  obtain ⟨fr,e7,mc⟩:=qly (z:=z) (z1:=z) (o:=o) (o1:=.no) (first:=_root_.Go.Ab.part part (cn (ar.drop (v+1))) 0) gb4 fL ha aa AU aa aa (.ptr m.length 0) (HA (aH f91)) (a-1) 1 true aa
  have e7:BW (.ptr b 0) (.I v) (IA z o part) (.ptr m.length 0) (.I (cn (ar.drop (v+1)):Nat)) (IA z .no (_root_.Go.Ab.part part (cn (ar.drop (v+1))) 0)) (.bool true) (.I 1) m4 (HA (aH f91))=_:=e7;rw[hall,my,ll,iT,ae,p8,ae,iL,ae,ldx0,ae,iy,ae,gP,ae,qaY aa aa,ae,hdiv,mM,ae,e7,qiW] at e0
  have YS:fr=true↔∀k:Nat,(k:Int)<ar.getD v 0->_root_.Go.Ab.part part (cn (ar.drop (v+1))) k=_root_.Go.Ab.part part (cn (ar.drop (v+1))) 0:=by
   rw[mc,aU]
   constructor
   .rintro ⟨_,h⟩ k hk
    by_cases uW:k=0
    .rw[uW]
    .exact h k aa aa
   .exact fun h=>⟨rfl,fun q _ hq=>h q aa⟩
  by_cases hf:fr=true
  ·
   rw[hf,ll,bU aa,ae] at e0;have ht:=qpp g tt fL htab (YS.1 hf);obtain ⟨m5,x5,T5,e5,k1,k2,k3,k4,k5⟩:=ih fL m4 z .no _ id out x T gb4 n4 tD hc ht;refine ⟨m5,x5,T5,?_,k1,k2,Fr.trans (f4.mono aA) k3 fun y hy=>.inl hy,Gr.trans f4.len (Gr.refl _ _) k4,k5⟩;rw[e0,e5,ae]
  .have hff:fr=false:=by simpa using hf
   have nh:=qsd g tt fL htab hid (fun h=>hf (YS.2 h));have hb2:fR (.agg [(.I 0),aD,(.I 0)]) [(0,none,.I v)]=some (.agg [.I v,aD,.I 0]):=rfl;have st:aP (some 3) m4 (.ptr m.length 0) (.agg [.I v,aD,.I 0])=some (m4.set m.length (some (Ent.B [.I v,aD,.I 0]))):=qcs gq rfl;rw[hff,gT,hb2,ae,st,ae] at e0;have f5:Fr m (m4.set m.length (some (Ent.B [.I v,aD,.I 0]))) (b::T):=(f4.mono (F':=b::T) (by simp)).set _ (.inr (aR _))
   obtain ⟨m6,x6,xk,T6,Tk,e14,k1,k2,k3,k4,k5,k6,k7,k8⟩:=qlz g h1 fI fL dQ ha rfl hid nh htab aa (ih fL) (z:=z) (o:=o) (m0:=m) (T0:=T) (q:=m.length) (aR _) pB (xm wR) a 0 (m4.set m.length (some (Ent.B [.I v,aD,.I 0]))) out x aD T [] aa
    (by rw[cQ aa];exact gb4) (xn n4 fun y hy=>cQ (fun e=>wV (e▸hy))) tD hc f5 (Gr.refl _ _) wV aA (di rfl aa) .none aA
   rw[gC] at k2 k8;obtain ⟨c1,c2,r,c3,c4⟩:=OG g hid l[id].kids (fun k hk=>pZ g hid k hk) out hc;have Qg:=q8 _ _ c1.nd c1.lt
   have hnk:(nd l (iJ l l[id].kids out) id).kids=l[id].kids.map fun i=>(((iJ l l[id].kids out).idxOf i.toNat:Nat):Int):=by
    unfold nd;rw[iM hid]
   have wS:(nd l (iJ l l[id].kids out) id).var=v:=by unfold nd;rw[iM hid];exact nh
   have bc:=Gh g fI (p:=iJ l l[id].kids out) aa hid
   have pH:(nd l (iJ l l[id].kids out) id).leaf=0:=by
    rcases bc with ⟨q1,_⟩|⟨_,_,q3,_⟩
    .rw[wS] at q1;omega
    .exact q3
   have CF:l[id].kids≠[]:=Yi g _ (bA hid) aa;obtain ⟨kz',ko',rfl,Qt⟩:=qcy k8 hnk bc (fun _=>by simpa using CF)
   have gq6:m6.get m.length=some (.B [.I (nd l (iJ l l[id].kids out) id).var,.lst none kz' ko' ((nd l (iJ l l[id].kids out) id).kids.map (AV.int .i64)),.I (nd l (iJ l l[id].kids out) id).leaf]):=by
    rw[k7,wS,pH]
   obtain ⟨m7,x7,T7,e18,j1,j2,j3,j4,j5⟩:=SH (n:=nd l (iJ l l[id].kids out) id) (z:=kz') (o:=ko') k1 k2 k3 (show m.length≠b by omega) k6 gq6 Qt bc (KE g fI c1) (by unfold dR;rw[bu];omega);have pr:=qbJ g c1 hid c2;rw[<- VZ g hid hc] at pr
   refine ⟨m7,x7,T7,?_,j1,by rw[<- pr.1];exact j2,Fr.trans k4 j3 fun y hy=>?_,Gr.trans k4.len k5 j4,j5⟩
   .have e14:Ea (.ptr b 0) (.I v) (IA z o part) (.ptr m.length 0) (.I (cn (ar.drop (v+1)):Nat)) (.I 0) (m4.set m.length (some (Ent.B [.I v,aD,.I 0]))) (DP (aH f91))=_:=e14;have ld6:aj none m6 (.ptr b (0+1))=some x6:=by rw[fK,k1];rfl
    rw[e0,e14,qiO,p8,ae,iL,ae,ld6,ae,Rb k2,ae,e18,pr.2]
   .rcases gI.1 hy with rfl|hy
    .exact .inl aA
    .rcases k5 y hy with h4|h4
     .exact .inl (by simp[h4])
     .exact .inr h4
theorem A70(g:GoodL ar l)(h1:∀x∈ar,1<=x/\x<=64)(fI:l.length<=100000)(dQ:ar.length<=16):∀(d v:Nat),v+d=ar.length->cn (ar.drop v)<=300->G3 l ar za oa b v:=by
 have tt:∀x∈ar,1<=x:=fun x hx=>(h1 x hx).1;intro d
 induction d with
 | zero=>
  intro v hv yF;exact SG g h1 fI dQ aa yF (fun hlt=>aa)
 | succ d ih=>
  intro v hv yF;refine SG g h1 fI dQ aa yF (fun hlt=>ih (v+1) aa ?_);have jc:=h1 _ (bA hlt);have tQ:=vr hlt;rw[aT,bP hlt,fk] at tQ
  have:cn (ar.drop (v+1))<=cn (ar.drop v):=by
   rw[tQ];exact Nat.le_mul_of_pos_left _ aa
  omega
end
end Go.Ab
namespace Go.Ab
open Go.Proofs Go.Proofs.Tryz
theorem Re{e:Nat}{m:ai}{x:AV}{l:List ND}{T:List Nat}(h:NR e m x l T)(hl:l≠[]):∃t,x=NL false (.tok t e) l:=by
 cases h with
 | none=>exact absurd rfl hl
 | some t l ht=>exact ⟨t,rfl⟩
theorem VR{l:List ND}{ar:List Int}(g:GoodL ar l)(h1:∀x∈ar,1<=x/\x<=64)(fI:l.length<=100000)(dQ:ar.length<=16)(hp:cn ar<=300){id:Nat}{t:List Int}(htab:TabV ar l id 0 t)(za z:Bool)(oa o:Own) :
  AP af 31 [IA za oa ar,IA z o t]=some (NL false .no (dR l (Vi l id []))):=by
 have hne:dR l (Vi l id [])≠[]:=by
  obtain ⟨_,c2,_⟩:=pT g id htab.lt [] qq;intro e;unfold dR at e;rw[uA] at e;rw[e] at c2;cases c2
 have hb:fR (.agg [aD,aD]) [(0,none,IA za oa ar)]=some (.agg [IA za oa ar,aD]):=rfl;have hx:dp none (some 2) ([]:ai) (.agg [IA za oa ar,aD])=some (.ptr 0 0,[some (Ent.B [IA za oa ar,aD])]):=rfl;obtain ⟨m',x',T',e,k1,k2,_,_,_⟩:=A70 (za:=za) (oa:=oa) (b:=0) g h1 fI dQ ar.length 0 aa hp [some (Ent.B [IA za oa ar,aD])] z o t id [] aD [] rfl .none aA qq htab;obtain ⟨tk,rfl⟩:=Re k2 hne;refine iW (m:=m') (v:=NL false (.tok tk 146) (dR l (Vi l id []))) (l:=[]) ?_ rfl rfl;have e:AC af 91 [.ptr 0 0,.I 0,IA z o t] [some (Ent.B [IA za oa ar,aD])]=_:=e;have ld:aj none m' (.ptr 0 (0+1))=some (NL false (.tok tk 146) (dR l (Vi l id []))):=by rw[fK,k1];rfl
 rw[T31,hb,ae,hx,ae,e,ae,p8,ae,iL,ae,ld,ae]
end Go.Ab
namespace Go.Ab
open Go.Proofs Go.Proofs.Tryz
structure RN where
 var:Int
 z:Bool
 o:Own
 kids:List Int
 leaf:Int
def fq:RN:=⟨0,true,.full,[],0⟩
def RN.av(x:RN):AV:=.agg [.I x.var,IA x.z x.o x.kids,.I x.leaf]
abbrev RL(z:Bool)(o:Own)(L:List RN):AV:=.lst (some 3) z o (L.map RN.av)
theorem FX(z:Bool)(o:Own)(L:List RN):aM false (RL z o L)=some (.I L.length):=by rw[qy,bu]
theorem QB{z:Bool}{o:Own}{L:List RN}{i:Nat}(hi:i<L.length):aI (some 3) (RL z o L) (.I i)=some (.vptr [.I L[i].var,IA L[i].z L[i].o L[i].kids,.I L[i].leaf]):=by
 simp[aI,hi];rfl
def kidB(L:List RN)(i:Nat)(v k:Int):Bool:=decide (0<=k/\k<i)&&decide ((L.getD k.toNat fq).var=-1\/v<(L.getD k.toNat fq).var)
def oD(ar:List Int)(L:List RN)(i:Nat)(x:RN):Bool:=if x.var=-1 then decide (x.kids=[]/\0<=x.leaf/\x.leaf<=2147483647) else decide (0<=x.var/\x.var<ar.length/\x.leaf=0/\(x.kids.length:Int)=ar.getD x.var.toNat 0)&&x.kids.all (kidB L i x.var)
def ra(ar:List Int)(L:List RN):Nat->Nat->Bool
 | 0,_=>decide (0<L.length)
 | j+1,i=>oD ar L i (L.getD i fq)&&ra ar L j (i+1)
theorem qbb{ar:List Int}{L:List RN}{i:Nat}{x:RN}(h:oD ar L i x=true):x.var=-1\/0<=x.var:=by
 unfold oD at h
 split at h
 .exact .inl (by assumption)
 .simp only[cD,oM] at h;exact .inr h.1.1
theorem qpx(z:Bool)(o:Own)(L:List RN):Fz (RL z o L) (RL z o.fr L):=fun m=>by cases o<;>rfl
theorem Wu{za zl z zr:Bool}{oa ol o orr:Own}{ar:List Int}{L:List RN}{i:Nat}{x:RN}{m:ai}{q:Nat}(hi:i<L.length)(hl:L.length<=100000)(hx:x.kids.length<=100000)(hq:m.get q=some (.B [.I x.var,IA x.z x.o x.kids,.I x.leaf]))(FF:∀k (h:k<i),(L.getD k fq).var=-1\/0<=(L.getD k fq).var)(x9 aN aX:AV):∀j c:Nat,c+j=x.kids.length ->
  zB (IA za oa ar) (RL zl ol L) (.I i) (.ptr q 0) x9 aN aX (IA z o x.kids) (.I x.kids.length) (.I c) m (BG (uw (aH f107)))=if (x.kids.drop c).all (kidB L i x.var) then BG (uw (aH f107)) (.exit 2) (ID (IA za oa ar) (RL zl ol L) x9 aN aX m) else some (.bool false,m)
 | 0,c,h=>by
  rw[HD,bz,ae,aC,an aa,gU aa];rfl
 | j+1,c,h=>by
  have hc:c<x.kids.length:=aa;have ih:=Wu (za:=za) (zl:=zl) (z:=z) (zr:=zr) (oa:=oa) (ol:=ol) (o:=o) (orr:=orr) (ar:=ar) hi hl hx hq FF x9 aN aX j (c+1) aa;have ldq:aj none m (.ptr q (0+0))=some (.I x.var):=by rw[fK,hq];rfl
  rw[HD,bz,ae,aC,aq aa,j6 hc,ae,gP,ae,bz,ae,aC,jP hc,nF]
  by_cases h1:x.kids[c]<0
  .rw[aq h1,G5,ux,kidB,bD aa,iv,iv];rfl
  .rw[an h1,ki,ae,aC]
   by_cases h2:x.kids[c]≥i
   .rw[aq h2,G5,ux,kidB,bD aa,iv,iv];rfl
   .obtain ⟨k,hk⟩:=nE (by omega:0<=x.kids[c]);have jx:k<i:=aa;have fZ:k<L.length:=aa;have uX:=FF k jx;have hg:L.getD k fq=L[k]:=by rw[aT,bP fZ,fk]
    rw[hg] at uX;have l3:∀(a b c:AV),aj none m (.vptr [a,b,c])=some a:=fun _ _ _=>rfl;have hb1:decide (0<=(k:Int)/\(k:Int)<i)=true:=bM aa;rw[an h2,hk,QB fZ,ae,Pj,ae,l3,ae,ki,ae,aC,kidB,hb1,dd,cU,hg]
    by_cases h3:L[k].var≥0
    .rw[aq h3,ae,Pj,ae,l3,ae,iL,ae,ldq,ae,rG,ae,aC]
     by_cases h4:L[k].var<=x.var
     .rw[aq h4,G5,ux,bD aa,iv];rfl
     .rw[an h4,bU aa,ae,ih,bM aa,dd]
    .rw[an h3,bU aa,ae,ih,bM aa,dd]
theorem Wt{za zl z:Bool}{oa ol o:Own}{ar:List Int}{L:List RN}(hl:L.length<=100000)(hx:∀a∈ar,1<=a/\a<=64):∀(j i:Nat) (m:ai),i+j=L.length->(∀k (h:k<i),(L.getD k fq).var=-1\/0<=(L.getD k fq).var) ->
  ∃m',vL (IA za oa ar) (RL zl ol L) (RL zl ol L) (.I L.length) (.I i) m (uw (aH f107))=some (.bool (ra ar L j i),m')
 | 0,i,m,h,_=>by
  refine ⟨m,?_⟩;rw[HE,bz,ae,aC,an aa,SR,FX,ae,gE,ae,ra];congr 3;exact jm.2 aa
 | j+1,i,m,h,FF=>by
  have hi:i<L.length:=aa;have hg:L.getD i fq=L[i]:=by rw[aT,bP hi,fk]
  have iy:=QB (z:=zl) (o:=ol) hi;have sn:aP (some 3) (m++[some (Ent.B [.I 0,aD,.I 0])]) (.ptr m.length 0) (.agg [.I L[i].var,IA L[i].z L[i].o L[i].kids,.I L[i].leaf])=some (m++[some (Ent.B [.I L[i].var,IA L[i].z L[i].o L[i].kids,.I L[i].leaf])]):=RZ rfl;have gq:ai.get (m++[some (Ent.B [.I L[i].var,IA L[i].z L[i].o L[i].kids,.I L[i].leaf])]) m.length=some (Ent.B [.I L[i].var,IA L[i].z L[i].o L[i].kids,.I L[i].leaf]):=cJ rfl;generalize AI:m++[some (Ent.B [.I L[i].var,IA L[i].z L[i].o L[i].kids,.I L[i].leaf])]=m4 at sn gq;have ld0:aj none m4 (.ptr m.length (0+0))=some (.I L[i].var):=by rw[fK,gq];rfl
  have ld1:aj none m4 (.ptr m.length (0+1))=some (IA L[i].z L[i].o L[i].kids):=by rw[fK,gq];rfl
  have ld2:aj none m4 (.ptr m.length (0+2))=some (.I L[i].leaf):=by rw[fK,gq];rfl
  have e0:∃r,vL (IA za oa ar) (RL zl ol L) (RL zl ol L) (.I L.length) (.I i) m (uw (aH f107))=r:=⟨_,rfl⟩;obtain ⟨r0,e0⟩:=e0;have e1:=e0;rw[HE,bz,ae,aC,aq aa,iy,ae,A4,ae,mO,mO] at e1;dsimp only at e1;rw[sn,ae,iL,ae,ld0,ae,iK,ae,aC] at e1;rw[e0,ra,hg,oD];have bad:∀(b:Bool),oD ar L i L[i]=false->r0=some (.bool false,m4)->∃m',r0=some (.bool (oD ar L i L[i]&&b),m'):=fun b h1 h2=>⟨m4,by rw[h2,h1,iv]⟩
  have good:oD ar L i L[i]=true->r0=vL (IA za oa ar) (RL zl ol L) (RL zl ol L) (.I L.length) (.I (i+1:Nat)) m4 (uw (aH f107))->∃m',r0=some (.bool (oD ar L i L[i]&&ra ar L j (i+1)),m'):=fun h1 h2=>by
   obtain ⟨m',e⟩:=Wt (za:=za) (zl:=zl) (z:=z) (oa:=oa) (ol:=ol) (o:=o) (ar:=ar) hl hx j (i+1) m4 aa fun k hk=>by
    by_cases jx:k<i
    .exact FF k jx
    .obtain rfl:k=i:=aa;rw[hg];exact qbb h1
   exact ⟨m',by rw[h2,e,h1,dd]⟩
  rw[<- oD]
  by_cases hv:L[i].var=-1
  .rw[aq hv,iL,ae,ld1,ae,iT,ae,gE,ae,aC] at e1;have mK:oD ar L i L[i]=decide (L[i].kids=[]/\0<=L[i].leaf/\L[i].leaf<=2147483647):=by unfold oD;rw[aq hv]
   by_cases hk:L[i].kids=[]
   .rw[an (by rw[hk];simp),iL,ae,ld2,ae,Ro,ae,nB,ae] at e1
    by_cases h1:0<=L[i].leaf/\L[i].leaf<=2147483647
    .rw[bM h1,jj,gT,bU aa,ae] at e1;exact good (by rw[mK];exact bM ⟨hk,h1⟩) e1.symm
    .rw[bD h1,my,ll,ux] at e1;exact bad _ (by rw[mK];exact bD (fun h=>h1 h.2)) e1.symm
   .have fZ:L[i].kids.length≠0:=fun e=>hk (oF e);rw[aq aa,ux] at e1;exact bad _ (by rw[mK];exact bD (fun h=>hk h.1)) e1.symm
  .have mK:oD ar L i L[i]=(decide (0<=L[i].var/\L[i].var<ar.length/\L[i].leaf=0/\(L[i].kids.length:Int)=ar.getD L[i].var.toNat 0)&&L[i].kids.all (kidB L i L[i].var)):=by unfold oD;rw[an hv]
   rw[an hv,ae,ld0,ae,bz,ae,aC] at e1
   by_cases h1:L[i].var<0
   .rw[aq h1,ux] at e1;exact bad _ (by rw[mK,bD aa,iv]) e1.symm
   .rw[an h1,ae,ld0,ae,iT,ae,ki,ae,aC] at e1
    by_cases h2:L[i].var≥ar.length
    .rw[aq h2,ux] at e1;exact bad _ (by rw[mK,bD aa,iv]) e1.symm
    .rw[an h2,iL,ae,ld2,ae,gm,ae,aC] at e1
     by_cases h3:L[i].leaf=0
     .obtain ⟨v,og⟩:=nE (by omega:0<=L[i].var);have fL:v<ar.length:=aa;have pA:ar.getD v 0=ar[v]:=by rw[aT,bP fL,fk]
      have hiv:aI none (IA za oa ar) (.I L[i].var)=some (.vptr [.I ar[v]]):=by rw[og];exact j6 fL
      rw[an (by simpa using h3),iL,ae,ld1,ae,iT,ae,ae,ld0,ae,hiv,ae,gP,ae,gm,ae,aC] at e1
      by_cases h4:(L[i].kids.length:Int)=ar[v]
      .have hd:decide (0<=L[i].var/\L[i].var<ar.length/\L[i].leaf=0/\(L[i].kids.length:Int)=ar.getD L[i].var.toNat 0)=true:=bM ⟨aa,aa,h3,by rw[og,cU,pA];exact h4⟩;rw[an (by simpa using h4),ae,ld1,ae,iT,ae] at e1;have sO:L[i].kids.length<=100000:=by have:=hx _ (bA fL);omega
       have w:=Wu (za:=za) (zl:=zl) (z:=L[i].z) (zr:=z) (oa:=oa) (ol:=ol) (o:=L[i].o) (orr:=o) (ar:=ar) hi hl sO gq FF (RL zl ol L) (.I L.length) (.I i) L[i].kids.length 0 aa;have w:zB (IA za oa ar) (RL zl ol L) (.I i) (.ptr m.length 0) (RL zl ol L) (.I L.length) (.I i) (IA L[i].z L[i].o L[i].kids) (.I L[i].kids.length) (.I 0) m4 (BG (uw (aH f107)))=_:=w;rw[w,gC] at e1
       by_cases h5:L[i].kids.all (kidB L i L[i].var)=true
       .rw[aq h5,SQ,bU aa,ae] at e1;exact good (by rw[mK,hd,h5];rfl) e1.symm
       .rw[an h5] at e1;exact bad _ (by rw[mK];simp only[Bool.not_eq_true] at h5;rw[h5,zn]) e1.symm
      .rw[aq (by simpa using h4),ux] at e1;exact bad _ (by rw[mK,bD (fun h=>h4 (by have:=h.2.2.2;rw[og,cU,pA] at this;exact this)),iv]) e1.symm
     .rw[aq (by simpa using h3),ux] at e1;exact bad _ (by rw[mK,bD (fun h=>h3 h.2.2.1),iv]) e1.symm
theorem V65(za zl:Bool)(oa ol:Own)(ar:List Int)(L:List RN)(hl:L.length<=100000)(hx:∀a∈ar,1<=a/\a<=64):AP af 107 [IA za oa ar,RL zl ol L]=some (.bool (ra ar L L.length 0)):=by
 obtain ⟨m',e⟩:=Wt (za:=za) (zl:=zl) (z:=za) (oa:=oa) (ol:=ol) (o:=oa) (ar:=ar) hl hx L.length 0 [] aa (fun k h=>aa);refine iW (m:=m') (v:=.bool (ra ar L L.length 0)) (l:=[]) ?_ rfl rfl;rw[Ve,FX,ae];exact e
theorem qsI(za zl:Bool)(oa ol:Own)(ar:List Int)(L:List RN)(hl:L.length<=100000)(hx:∀a∈ar,1<=a/\a<=64)(d:Option Nat)(m:ai):aF (AP af) d m 107 [IA za oa ar,RL zl ol L]=some (.bool (ra ar L L.length 0),m):=by
 rw[fN (n6 za oa ar) (qpx zl ol L),V65 _ _ _ _ ar L hl hx];rfl
end Go.Ab
namespace Go.Ab
open Go.Proofs Go.Proofs.Tryz
theorem qpM{l r:List ND}{id:Nat}(h:id<l.length):(l++r).getD id ⟨0,[],0⟩=l.getD id ⟨0,[],0⟩:=by
 rw[aT,nZ h,<- aT]
def xV(ar:List Int)(l:List ND)(id:Nat):Int:=dP ar.length (l.getD id ⟨0,[],0⟩)
theorem WJ{ar:List Int}{l r:List ND}{id:Nat}(h:id<l.length):xV ar (l++r) id=xV ar l id:=by unfold xV;rw[qpM h]
theorem EF{ar:List Int}{l:List ND}{id:Nat}(h:id<l.length):xV ar l id=dP ar.length l[id]:=by unfold xV;rw[iM h]
section
variable {m:ai} {s:Nat} {F:List Nat} {arms:AV} {most:Int} {l:List ND}
theorem qlI{ar:List Int}{l:List ND}(g:GoodL ar l){i:Nat}(hi:i<l.length):0<=xV ar l i/\xV ar l i<=ar.length:=by
 rw[EF hi];unfold dP
 split
 .have:=(g.var i hi (by omega)).1;omega
 .omega
theorem qdb{g:Nat}{caps:List AV}{Q:Int->List ND->Prop}(h:dW m s F arms most l)(h1:((af.lib g).isNone&&(af.libm g).isNone)=true)(h2:af.inl 84 g=true)(h3:af.thaw 84 g=false)
  (hc:∀m1,Fr m m1 []->∃m' F' id l',AC af g caps m1=some (.I id,m')/\Q id l'/\dW m' s F' arms most l'/\Fr m1 m' F/\Gr m1 F F') :
  ∃m' F' id l',AC af 84 [.ptr s 0,.fn g caps] m=some (.tup [.I id,.I 0],m')/\Q id l'/\dW m' s F' arms most l'/\Fr m m' F/\Gr m F F':=by
 have hlt:=h.lt;obtain ⟨p,na,T,h,rfl⟩:=h;have hs:=h.hs;have mM:=bW hs
 have hlen:aM false na=some (.I l.length):=by
  cases h.hn with
  | none=>rfl
  | some t l ht=>rw[qy,bu]
 obtain ⟨m2,F2,id,l',e2,hQ,k1,k2,k3⟩:=hc (List.set (((m++[some (Ent.B [.ptr s 0])])++[some (Ent.B [.I 0])])++[some (Ent.B [.I 0])]++[some (Ent.B [.I 0])]) (m.length+1+1+1) (some (Ent.B [.I l.length]))) (((((Fr.app m _ _).snoc _).snoc _).snoc _).set _ (.inr aa));have len2:=k2.len;simp only[il,aW,ba,bo] at len2
 have g1:ai.get m2 (m.length+1)=some (Ent.B [.I 0]):=by
  rw[k2.get _ aA (fun hx=>by have:=hlt _ hx;omega)];exact (by simp (disch:=first|assumption|omega|simp only[b7]<;>omega|fail) only[ik,cK,cJ,cQ,di]<;>rfl)
 have g2:ai.get m2 (m.length+2)=some (Ent.B [.I 0]):=by
  rw[k2.get _ aA (fun hx=>by have:=hlt _ hx;omega)];exact (by simp (disch:=first|assumption|omega|simp only[b7]<;>omega|fail) only[ik,cK,cJ,cQ,di]<;>rfl)
 have e:AC af 84 [.ptr s 0,.fn g caps] m=some (.tup [.I id,.I 0],(m2.set (m.length+1) (some (Ent.B [.I id]))).set (m.length+1+1) (some (Ent.B [.I 0]))):=by
  rw[Vx]
  repeat ((with_reducible first|apply bs|apply fB);(focus first|(simp (disch:=first|assumption|omega|simp only[b7]<;>omega|fail) only[fA,beq_self_eq_true,dz,ae,Sh.size,bJ,b9,Nat.reduceAdd,Nat.reduceLeDiff,aR,hs,hlen,qL]<;>rfl)|rfl);try dsimp only)
  rw[bF,uI h1 h2 h3,e2,ae];dsimp only
  repeat ((with_reducible first|apply bs|apply fB);(focus first|(simp (disch:=first|assumption|omega|simp only[b7]<;>omega|fail) only[fA,beq_self_eq_true,dz,ae,Sh.size,bJ,b9,Nat.reduceAdd,Nat.reduceLeDiff,aR,g1,g2]<;>rfl)|rfl);try dsimp only)
 refine ⟨_,F2,id,l',e,hQ,?_,?_,?_⟩
 .refine k1.move fun x hx=>?_
  have hx2:x≠m.length+1/\x≠m.length+1+1:=by
   rcases k3 x hx with h|h
   .have:=hlt x h;omega
   .simp only[il,aW,ba,bo] at h;omega
  rw[cQ hx2.2,cQ hx2.1]
 .have f1:Fr m m2 (s::p::T):=Fr.trans (((((Fr.app m _ _).snoc _).snoc _).snoc _).set _ (.inr aa)) k2 fun x hx=>.inl hx;exact (f1.set _ (.inr (by omega))).set _ (.inr aa)
 .intro x hx
  rcases k3 x hx with h|h
  .exact .inl h
  .simp only[il,aW,ba,bo] at h;exact .inr aa
end
end Go.Ab
namespace Go.Ab
def yg(L:List RN)(y:Nat->Nat):Nat->Nat->Int
 | 0,_=>0
 | n+1,i=>if (L.getD i fq).var=-1 then (L.getD i fq).leaf else yg L y n ((L.getD i fq).kids.getD (y (L.getD i fq).var.toNat) 0).toNat
def EV(L:List RN)(y:Nat->Nat)(i:Nat):Int:=yg L y (i+1) i
def pq(ar:List Int)(L:List RN):Prop:=∀i,i<L.length->oD ar L i (L.getD i fq)=true
theorem qa9{ar:List Int}{L:List RN}:∀(j i:Nat),i+j=L.length->ra ar L j i=true->0<L.length/\∀k,i<=k->k<L.length->oD ar L k (L.getD k fq)=true
 | 0,i,h,ho=>⟨by simpa [ra] using ho,fun k h1 h2=>aa⟩
 | j+1,i,h,ho=>by
  rw[ra,cD] at ho;obtain ⟨h1,h2⟩:=qa9 j (i+1) aa ho.2;refine ⟨h1,fun k hk1 jB=>?_⟩
  by_cases jx:k=i
  .rw[jx];exact ho.1
  .exact h2 k aa jB
section
variable {ar:List Int} {L:List RN}
theorem qty(h:pq ar L){i:Nat}(hi:i<L.length)(hv:(L.getD i fq).var=-1):(L.getD i fq).kids=[]/\0<=(L.getD i fq).leaf/\(L.getD i fq).leaf<=2147483647:=by
 have:=h i hi;unfold oD at this;rw[aq hv] at this;simpa using this
theorem RM(h:pq ar L){i:Nat}(hi:i<L.length)(hv:(L.getD i fq).var≠-1):∃v:Nat,(L.getD i fq).var=v/\v<ar.length/\((L.getD i fq).kids.length:Int)=ar.getD v 0/\∀k∈(L.getD i fq).kids,∃t:Nat,k=t/\t<i/\((L.getD t fq).var=-1\/(v:Int)<(L.getD t fq).var):=by
 have:=h i hi;unfold oD at this;rw[an hv] at this;simp only[cD,oM,gD] at this;obtain ⟨⟨h1,h2,h3,h4⟩,h5⟩:=this;obtain ⟨v,og⟩:=nE h1;rw[og,cU] at h4;refine ⟨v,og,aa,h4,fun k hk=>?_⟩;have:=h5 k hk;unfold kidB at this;simp only[cD,oM] at this;obtain ⟨t,rfl⟩:=nE this.1.1;rw[cU,og] at this;exact ⟨t,rfl,aa,this.2⟩
theorem qb5(h:pq ar L){i:Nat}(hi:i<L.length)(hv:(L.getD i fq).var≠-1){y:Nat->Nat}(hy:iS ar y):∃v t:Nat,(L.getD i fq).var=v/\v<ar.length/\(L.getD i fq).kids.getD (y v) 0=t/\t<i/\y v<(L.getD i fq).kids.length:=by
 obtain ⟨v,og,fL,hl,hk⟩:=RM h hi hv;have w5:=hy v fL;have hlt:y v<(L.getD i fq).kids.length:=aa;obtain ⟨t,e,ht,_⟩:=hk _ (bA hlt);exact ⟨v,t,og,fL,by rw[aT,bP hlt,fk,e],ht,hlt⟩
theorem XU(h:pq ar L){y:Nat->Nat}(hy:iS ar y):∀(n i m:Nat),i<L.length->i<n->i<m->yg L y n i=yg L y m i
 | 0,i,m,_,h,_=>aa
 | n+1,i,0,_,_,h=>aa
 | n+1,i,m+1,hi,_,_=>by
  rw[yg,yg]
  by_cases hv:(L.getD i fq).var=-1
  .rw[aq hv,aq hv]
  .rw[an hv,an hv];obtain ⟨v,t,og,fL,e,ht,_⟩:=qb5 h hi hv hy;rw[og,cU,e,cU];exact XU h hy n t m aa aa aa
theorem qdg{y:Nat->Nat}{i:Nat}(hv:(L.getD i fq).var=-1):EV L y i=(L.getD i fq).leaf:=by
 unfold EV;rw[yg,aq hv]
theorem qdh(h:pq ar L){y:Nat->Nat}(hy:iS ar y){i:Nat}(hi:i<L.length){v:Nat}(hv:(L.getD i fq).var=v):EV L y i=EV L y ((L.getD i fq).kids.getD (y v) 0).toNat:=by
 have hne:(L.getD i fq).var≠-1:=aa;obtain ⟨v',t,og,fL,e,ht,_⟩:=qb5 h hi hne hy;have:v'=v:=aa;subst this;unfold EV;rw[yg,an hne,og,cU,e,cU];exact XU h hy i t (t+1) aa ht aa
def Bq(p:List ND×List Nat)(x:RN):List ND×List Nat:=
 if x.var<0 then (jD p.1 (ja x.leaf),p.2++[p.1.idxOf (ja x.leaf)])
 else ((oX p.1 x.var ((x.kids.map fun k=>p.2.getD k.toNat 0).map Int.ofNat)).2,p.2++[(oX p.1 x.var ((x.kids.map fun k=>p.2.getD k.toNat 0).map Int.ofNat)).1.toNat])
def nn(L:List RN)(l:List ND)(i:Nat):List ND×List Nat:=(L.take i).foldl Bq (l,[])
theorem KA{l:List ND}{i:Nat}(hi:i<L.length):nn L l (i+1)=Bq (nn L l i) (L.getD i fq):=by
 unfold nn;rw[mU hi,List.foldl_append,aT,bP hi]
 rfl
def KY(a:Nat)(x:RN):Int:=if x.var=-1 then a else x.var
structure LI (ar:List Int) (L:List RN) (l0:List ND) (i:Nat) (l:List ND) (ids:List Nat):Prop where
 g:GoodL ar l
 len:ids.length=i
 gr:∃r,l=l0++r/\r.length<=i
 at_:∀k,k<i->ids.getD k 0<l.length/\KY ar.length (L.getD k fq)<=xV ar l (ids.getD k 0)/\∀y,iS ar y->S l y (ids.getD k 0)=EV L y k
theorem qax(h:pq ar L)(h1:∀x∈ar,1<=x/\x<=64)(dQ:ar.length<=16){l0 l:List ND}{ids:List Nat}{i:Nat}(hi:i<L.length)(I:LI ar L l0 i l ids)(hl:l.length<=100000)(hv:¬ (L.getD i fq).var<0) :
  ∃r id,oX l (L.getD i fq).var (((L.getD i fq).kids.map fun k=>ids.getD k.toNat 0).map Int.ofNat)=(((id:Nat):Int),l++r)/\LI ar L l0 (i+1) (l++r) (ids++[id])/\(iF (L.getD i fq).var (((L.getD i fq).kids.map fun k=>ids.getD k.toNat 0).map Int.ofNat)).ok/\(L.getD i fq).kids≠[]:=by
 obtain ⟨v,og,fL,fZ,hk⟩:=RM h hi aa;have jc:=h1 _ (bA fL);have aU:ar.getD v 0=ar[v]:=by rw[aT,bP fL,fk]
 have wO:∀k∈(L.getD i fq).kids,∃hh:ids.getD k.toNat 0<l.length,(v:Int)<dP ar.length l[ids.getD k.toNat 0]:=fun k ck=>by
  obtain ⟨t,rfl,ht,hp⟩:=hk k ck;rw[cU];obtain ⟨a1,a2,_⟩:=I.at_ t ht;rw[EF a1] at a2;refine ⟨a1,?_⟩;unfold KY at a2
  split at a2
  .omega
  .rcases hp with hp|hp
   .rename_i hne;exact absurd hp hne
   .omega
 obtain ⟨r,id,e,hr,yG,g2,hid,nT,hS⟩:=qa3 I.g h1 dQ fL (ks:=(L.getD i fq).kids.map fun k=>ids.getD k.toNat 0) (by rw[bu];exact fZ) (fun q hq=>by
  obtain ⟨k,ck,rfl⟩:=iw.1 hq
  exact wO k ck) aa
 have CF:(L.getD i fq).kids≠[]:=fun hh=>by
  have h0:(L.getD i fq).kids.length=0:=by rw[hh];rfl
  omega
 rw[og]
 refine ⟨r,id,e,⟨g2,by simp[I.len],?_,fun k ck=>?_⟩,?_,CF⟩
 .obtain ⟨r0,e0,CN⟩:=I.gr;exact ⟨r0++r,by rw[e0,gR],by rw[aW];omega⟩
 .by_cases jx:k<i
  .obtain ⟨a1,a2,a3⟩:=I.at_ k jx
   have e1:(ids++[id]).getD k 0=ids.getD k 0:=by
    rw[aT,nZ (by rw[I.len];exact jx),<- aT]
   rw[e1];refine ⟨by rw[aW];omega,by rw[WJ a1];exact a2,fun y hy=>by rw[I5 I.g r hy _ a1];exact a3 y hy⟩
  .have:k=i:=aa;subst this
   have e1:(ids++[id]).getD k 0=id:=by
    rw[aT,td (by rw[I.len];exact aR _),I.len];simp
   rw[e1]
   refine ⟨hid,?_,fun y hy=>?_⟩
   .rw[EF hid];unfold KY;rw[an aa,og];exact nT
   .have w5:=hy v fL;have hlt:y v<(L.getD k fq).kids.length:=aa;obtain ⟨t,et,ht,_⟩:=hk _ (bA hlt);have e2:(L.getD k fq).kids.getD (y v) 0=(t:Int):=by rw[aT,bP hlt,fk,et]
    rw[hS y hy,qdh h hy hi og,e2,cU,aT,mS,bP hlt];simp only[aQ,fk,et,cU];exact (I.at_ t ht).2.2 y hy
 .refine .inr ⟨by simp only[iF];omega,by simp only[iF];omega,rfl,fun q hq=>?_,by simp only[iF,bu];omega⟩;obtain ⟨a,ha,rfl⟩:=iw.1 hq;obtain ⟨k,ck,rfl⟩:=iw.1 ha;obtain ⟨q1,_⟩:=wO k ck;refine ⟨tb _,?_⟩;show ((ids.getD k.toNat 0:Nat):Int)<1000000;omega
theorem qav(h:pq ar L){l0 l:List ND}{ids:List Nat}{i:Nat}(hi:i<L.length)(I:LI ar L l0 i l ids)(hv:(L.getD i fq).var<0) :
  ∃r,jD l (ja (L.getD i fq).leaf)=l++r/\LI ar L l0 (i+1) (l++r) (ids++[l.idxOf (ja (L.getD i fq).leaf)])/\0<=(L.getD i fq).leaf/\(L.getD i fq).leaf<=2147483647:=by
 have kZ:(L.getD i fq).var=-1:=by
  rcases qbb (h i hi) with h|h<;>omega
 obtain ⟨_,b1,b2⟩:=qty h hi kZ;obtain ⟨r,e,hr,g2,tv⟩:=qag I.g (x:=(L.getD i fq).leaf) ⟨b1,b2⟩
 refine ⟨r,e,⟨g2,by simp[I.len],?_,fun k ck=>?_⟩,b1,b2⟩
 .obtain ⟨r0,e0,CN⟩:=I.gr;exact ⟨r0++r,by rw[e0,gR],by rw[aW];omega⟩
 .by_cases jx:k<i
  .obtain ⟨a1,a2,a3⟩:=I.at_ k jx
   have e1:(ids++[l.idxOf (ja (L.getD i fq).leaf)]).getD k 0=ids.getD k 0:=by
    rw[aT,nZ (by rw[I.len];exact jx),<- aT]
   rw[e1];refine ⟨by rw[aW];omega,by rw[WJ a1];exact a2,fun y hy=>by rw[I5 I.g r hy _ a1];exact a3 y hy⟩
  .have:k=i:=aa;subst this
   have e1:(ids++[l.idxOf (ja (L.getD k fq).leaf)]).getD k 0=l.idxOf (ja (L.getD k fq).leaf):=by
    rw[aT,td (by rw[I.len];exact aR _),I.len];simp
   rw[e1]
   refine ⟨tv.lt,?_,fun y hy=>?_⟩
   .rw[EF tv.lt];unfold KY;rw[aq kZ];exact tv.top tv.lt
   .rw[tv.val y hy,qdg kZ,List.drop_length];rfl
theorem CZ(h:pq ar L)(h1:∀x∈ar,1<=x/\x<=64)(dQ:ar.length<=16){l0:List ND}(g:GoodL ar l0)(hl:l0.length+L.length<=4000):∀i,i<=L.length->LI ar L l0 i (nn L l0 i).1 (nn L l0 i).2
 | 0,_=>⟨g,rfl,⟨[],by simp[nn],aA⟩,fun k hk=>aa⟩
 | i+1,hi=>by
  have I:=CZ h h1 dQ g hl i aa;obtain ⟨r0,e0,CN⟩:=I.gr;have fI:(nn L l0 i).1.length<=100000:=by rw[e0,aW];omega
  rw[KA aa];unfold Bq
  by_cases hv:(L.getD i fq).var<0
  .rw[aq hv];obtain ⟨r,e,J,_⟩:=qav h aa I hv;rw[e];exact J
  .rw[an hv];obtain ⟨r,id,e,J,_⟩:=qax h h1 dQ aa I fI hv;rw[e];exact J
end
end Go.Ab
namespace Go.Ab
noncomputable section
variable (a0 a1 x0 x1 x3 x4 x5 x6 aS aY aZ LY xE qf:AV) (m:ai) (K:KT)
open Go.Proofs.Tryz
def UO:St:=⟨(x0::aK (x3::bC (br (aV (aO []))))),m⟩
def zD:OM:=bY 108 (b8 (c2 (c2 (aE f108)))) 3 (x0::x1::aJ (x3::aV (aS::aY::aZ::bC (br (aJ []))))) m K
def M8:St:=⟨(x0::x1::aJ (x3::x4::x5::x6::aO (aJ (aS::aY::aZ::bC (br (aJ [])))))),m⟩
def DQ:OM:=bY 108 (b8 (ma (Ck (nM (c2 (aE f108)))))) 9 (x0::x1::aJ (x3::x4::x5::x6::aO (aJ (aS::aY::aZ::br (aK (aJ (LY::xE::qf::br (aV (aK (aJ [])))))))))) m K
abbrev qdu:KT:=bI 108 (c2 (c2 (c2 (aE f108)))) K
abbrev qdv:KT:=bw 0 (qdu K)
abbrev zq:KT:=(qdv K)
abbrev qdx:KT:=bI 108 (ma (nM (c2 (aE f108)))) (nU 108 (b8 (c2 (c2 (aE f108)))) 3 K)
abbrev qdy:KT:=bw 1 (qdx K)
abbrev qdz:KT:=bI 108 (bG (rH (b8 (c2 (c2 (aE f108)))))) (qdy K)
abbrev qdA:KT:=bw 2 (qdz K)
abbrev DI:KT:=(qdA K)
theorem qjy:AC af 108 [a0,a1] m=(aj none m a0).bind fun v1=>(aM false v1).bind fun v2=>(jy none 3 none (.I 0) 8 m v2 v2).bind fun r3=>(aj none r3.2 a0).bind fun v4=>(aM false v4).bind fun v5=>zD a0 a1 r3.1 v4 v5 (.I 0) r3.2 (zq (aH f108)):=
(bm af 108 [a0,a1] m (fn:=f108) (c:=aE f108) ql9 rfl).trans au
theorem Te:zD x0 x1 x3 aS aY aZ m K=(ag .o .lss aZ aY).bind fun v1=>aB v1 ((aI (some 3) aS aZ).bind fun v2=>(aj (some 3) m v2).bind fun v3=>(aP (some 3) (az none m (.B [(.I 0),aD,(.I 0)])).2 (.ptr (az none m .resv).1 0) v3).bind fun m4=>(aL 0 (.ptr (az none m .resv).1 0)).bind fun v5=>(aj none m4 v5).bind fun v6=>(ag .o .lss v6 (.I 0)).bind fun v7=>aB v7 ((aj none m4 x1).bind fun v8=>(aL 2 (.ptr (az none m .resv).1 0)).bind fun v9=>(aj none m4 v9).bind fun v10=>(AC af 96 [v8,v10] m4).bind fun jU=>(aI none x3 aZ).bind fun v12=>(aP none jU.2 v12 jU.1).bind fun m13=>(ag .o .add aZ (.I 1)).bind fun bf=>zD x0 x1 x3 aS aY bf m13 K) ((aL 1 (.ptr (az none m .resv).1 0)).bind fun bh=>(aj none m4 bh).bind fun bK=>(aM false bK).bind fun bH=>(jy none 3 none (.I 0) 8 m4 bH bH).bind fun ij=>(aL 1 (.ptr (az none m .resv).1 0)).bind fun cP=>(aj none ij.2 cP).bind fun v20=>(aM false v20).bind fun v21=>DQ x0 x1 x3 aZ (.ptr (az none m .resv).1 0) ij.1 aS aY aZ v20 v21 (.I 0) ij.2 (DI K))) (K (.exit 0) (UO x0 x3 m)):=
(bX (bQ _) _ _ _).trans au
theorem Tf:DQ x0 x1 x3 x4 x5 x6 aS aY aZ LY xE qf m K=(ag .o .lss qf xE).bind fun v1=>aB v1 ((aI none LY qf).bind fun v2=>(aj none m v2).bind fun v3=>(aI none x3 v3).bind fun v4=>(aj none m v4).bind fun v5=>(aI none x6 qf).bind fun v6=>(aP none m v6 v5).bind fun m7=>(ag .o .add qf (.I 1)).bind fun v8=>DQ x0 x1 x3 x4 x5 x6 aS aY aZ LY xE v8 m7 K) (K (.exit 2) (M8 x0 x1 x3 x4 x5 x6 aS aY aZ m)):=
(bX (bQ _) _ _ _).trans au
theorem qdw:zq (aH f108) (.exit 0) (UO x0 x3 m)=(aj none m x0).bind fun v1=>(aM false v1).bind fun v2=>(ag .o .sub v2 (.I 1)).bind fun v3=>(aI none x3 v3).bind fun v4=>(aj none m v4).bind fun v5=>some (v5,m):=au
theorem qdB:DI K (.exit 2) (M8 x0 x1 x3 x4 x5 x6 aS aY aZ m)=(aj none m x1).bind fun v1=>(aL 0 x5).bind fun v2=>(aj none m v2).bind fun v3=>(An (AC af) m 99 [v1,v3,x6]).bind fun r4=>(aI none x3 x4).bind fun v5=>(aP none r4.2 v5 r4.1).bind fun m6=>(ag .o .add aZ (.I 1)).bind fun v7=>zD x0 x1 x3 aS aY v7 m6 K:=au
end
end Go.Ab
namespace Go.Ab
open Go.Proofs Go.Proofs.Tryz
def ju(ids:List Nat)(n:Nat):List Int:=ids.map Int.ofNat++List.replicate (n-ids.length) 0
theorem EX{ids:List Nat}{n:Nat}(h:ids.length<=n):(ju ids n).length=n:=by unfold ju;simp;omega
theorem O5{ids:List Nat}{n:Nat}(h:ids.length<n)(id:Nat):(ju ids n).set ids.length (id:Int)=ju (ids++[id]) n:=by
 unfold ju;obtain ⟨k,hk⟩:∃k,n-ids.length=k+1:=⟨n-ids.length-1,aa⟩;have e2:n-(ids++[id]).length=k:=by simp;omega
 rw[hk,e2,tg _ _ aA,iH,gR];simp[zL]
theorem XD{ids:List Nat}{n t:Nat}(h:t<ids.length):(ju ids n).getD t 0=((ids.getD t 0:Nat):Int):=by
 unfold ju;rw[aT,nZ (by simpa using h),mS,aT,bP h];rfl
theorem qoW{ids:List Nat}:ju ids ids.length=ids.map Int.ofNat:=by unfold ju;simp
theorem qac{m:ai}{nm i:Nat}{ds:List Int}(h:m.get nm=some (.obj false (ds.map (AV.int .i64))))(hi:i<ds.length):aj none m (.ptr nm i)=some (.I (ds.getD i 0)):=by
 rw[fK,h,mg,ae,wq,mS,bP hi,aT,bP hi];rfl
theorem qaE(m:ai)(n:Nat)(h:n<=100000):jy none 3 none (.I 0) 8 m (.I n) (.I n)=some (.arr m.length 0 n none,m++[some (Ent.obj false ((ju [] n).map (AV.int .i64)))]):=by
 have h3:(n:Int)*8<=281474976710656:=aa;have h4:(n:Int)<=9223372036854775807:=aa;have h5:(0:Int)<=n:=aa;simp only[jy,az,sZ,qG,bJ,cU];rw[aq ⟨h5,trivial,h3,h4⟩];simp[ju]
theorem qrs(m:ai)(k:Nat):Fr m (kB m [k]) [k]:=⟨by rw[CY];exact aR _,fun x _ hx=>by rw[lL,an hx]⟩
section
variable {s b1 b2 nm:Nat} {F0:List Nat} {arms:AV} {ar:List Int} {L:List RN} {zl:Bool} {ol:Own} {l0:List ND}
theorem qlx{kids:List Int}{ids:List Nat}{z:Bool}{o:Own}{kq n:Nat}{m1:ai}(tN:kq≠nm)(tK:ids.length<=n)(hk:∀k∈kids,∃t:Nat,k=t/\t<ids.length)(fZ:kids.length<=1000)(hkq:kq<m1.length)(qU:nm<m1.length)(wJ:m1.get nm=some (.obj false ((ju ids n).map (AV.int .i64))))(x0 x1 x4 x5 aS aY aZ:AV)(K:KT):∀(j c:Nat) (m:ai),c+j=kids.length->Fr m1 m [kq]->m.get kq=some (.obj false ((ju ((kids.take c).map fun k=>ids.getD k.toNat 0) kids.length).map (AV.int .i64))) ->
  ∃m',DQ x0 x1 (.arr nm 0 n none) x4 x5 (.arr kq 0 kids.length none) aS aY aZ (IA z o kids) (.I kids.length) (.I c) m (DI K)=DI K (.exit 2) (M8 x0 x1 (.arr nm 0 n none) x4 x5 (.arr kq 0 kids.length none) aS aY aZ m')/\Fr m1 m' [kq]/\m'.get kq=some (.obj false (((kids.map fun k=>ids.getD k.toNat 0).map Int.ofNat).map (AV.int .i64))):=by
 intro j
 induction j with
 | zero=>
  intro c m hc f hg
  refine ⟨m,?_,f,?_⟩
  .rw[Tf,bz,ae,aC,an aa]
  .rw[hg,iX aa];have:kids.length=(kids.map fun k=>ids.getD k.toNat 0).length:=by rw[bu]
   rw[this,qoW]
 | succ j ih=>
  intro c m hc f hg;have hcl:c<kids.length:=aa;obtain ⟨t,et,ht⟩:=hk _ (bA hcl);have Fq:m.get nm=some (.obj false ((ju ids n).map (AV.int .i64))):=(f.get nm qU (by simpa using fun e=>tN e.symm)).trans wJ;have qql:=bW hg;have ld:=qac Fq (i:=t) (by rw[EX tK];omega);rw[XD ht] at ld;have fJ:((kids.take c).map fun k=>ids.getD k.toNat 0).length=c:=by rw[bu,im];omega
  have st:=RY (y:=((ids.getD t 0:Nat):Int)) hg (i:=c) (by rw[EX aa];omega)
  have e1:(ju ((kids.take c).map fun k=>ids.getD k.toNat 0) kids.length).set c ((ids.getD t 0:Nat):Int)=ju ((kids.take (c+1)).map fun k=>ids.getD k.toNat 0) kids.length:=by
   have:=O5 (ids:=(kids.take c).map fun k=>ids.getD k.toNat 0) (n:=kids.length) aa (ids.getD t 0);rw[fJ] at this;rw[this,mU hcl,iH,et];rfl
  rw[e1] at st;obtain ⟨m',e,k⟩:=ih (c+1) _ aa (f.set _ (.inl aA)) (di rfl qql);refine ⟨m',?_,k⟩;rw[Tf,bz,ae,aC,aq aa,j6 hcl,ae,gP,ae,et,gF aa,ae,ld,ae,gF hcl,ae,st,ae,bU aa,ae];exact e
theorem W66(h:pq ar L)(h1:∀x∈ar,1<=x/\x<=64)(dQ:ar.length<=16)(g0:GoodL ar l0)(hl:l0.length+L.length<4000)(hL:0<L.length){m0:ai}(qU:m0.length<=nm)(hb1:b1<m0.length)(hb2:b2<m0.length)(qpT:b1∉F0)(qpU:b2∉F0)(hF0:∀y∈F0,y<m0.length)(wJ:m0.get b1=some (.B [RL zl ol L]))(qv:m0.get b2=some (.B [.ptr s 0])) :
  ∀(j i:Nat) (m:ai) (F:List Nat),i+j=L.length->dW m s F arms 4000 (nn L l0 i).1->m.get nm=some (.obj false ((ju (nn L l0 i).2 L.length).map (AV.int .i64)))->nm∉F->Fr m0 m F0->Gr m0 F0 F ->
   ∃m' F',zD (.ptr b1 0) (.ptr b2 0) (.arr nm 0 L.length none) (RL zl ol L) (.I L.length) (.I i) m (zq (aH f108))=some (.I ((nn L l0 L.length).2.getD (L.length-1) 0:Nat),m')/\dW m' s F' arms 4000 (nn L l0 L.length).1/\Fr m0 m' F0/\Gr m0 F0 F':=by
 intro j
 induction j with
 | zero=>
  intro i m F hi st hg AK f gr;obtain rfl:i=L.length:=aa;have I:=CZ h h1 dQ g0 aa L.length (aR _);refine ⟨m,F,?_,st,f,gr⟩;have gb1:m.get b1=some (.B [RL zl ol L]):=(f.get b1 hb1 qpT).trans wJ;have hlt:=I.len;have ld:=qac hg (i:=L.length-1) (by rw[EX aa];omega);rw[XD aa] at ld;rw[Te,bz,ae,aC,an aa,qdw,p5 gb1,ae,FX,ae,oT aa aa,ae,gF aa,ae,ld,ae]
 | succ j ih=>
  intro i m F hi st hg AK f gr;have cE:i<L.length:=aa;have I:=CZ h h1 dQ g0 aa i aa;have I2:=CZ h h1 dQ g0 aa (i+1) aa;have es:=KA (l:=l0) cE;obtain ⟨r0,e0,CN⟩:=I.gr;have fI:(nn L l0 i).1.length<=l0.length+i:=by rw[e0,aW];omega
  have sI:=I.len;generalize nn L l0 i=p at *;obtain ⟨l,ids⟩:=p;simp only at st hg I e0 fI sI;have jA:L.getD i fq=L[i]:=by rw[aT,bP cE,fk]
  have iy:=QB (z:=zl) (o:=ol) cE;have qqz:=bW hg
  have bNotF:∀b,b<m0.length->b∉F0->b∉F:=fun b hb hbF hh=>by
   rcases gr b hh with h4|h4
   .exact hbF h4
   .omega
  have sn:aP (some 3) (m++[some (Ent.B [.I 0,aD,.I 0])]) (.ptr m.length 0) (.agg [.I L[i].var,IA L[i].z L[i].o L[i].kids,.I L[i].leaf])=some (m++[some (Ent.B [.I L[i].var,IA L[i].z L[i].o L[i].kids,.I L[i].leaf])]):=RZ rfl;have f4:Fr m (m++[some (Ent.B [.I L[i].var,IA L[i].z L[i].o L[i].kids,.I L[i].leaf])]) []:=Fr.app m _ _;have gq:ai.get (m++[some (Ent.B [.I L[i].var,IA L[i].z L[i].o L[i].kids,.I L[i].leaf])]) m.length=some (Ent.B [.I L[i].var,IA L[i].z L[i].o L[i].kids,.I L[i].leaf]):=cJ rfl;have l4:(m++[some (Ent.B [.I L[i].var,IA L[i].z L[i].o L[i].kids,.I L[i].leaf])]).length=m.length+1:=aA;generalize m++[some (Ent.B [.I L[i].var,IA L[i].z L[i].o L[i].kids,.I L[i].leaf])]=m4 at sn f4 gq l4;have ld0:aj none m4 (.ptr m.length (0+0))=some (.I L[i].var):=by rw[fK,gq];rfl
  have ld1:aj none m4 (.ptr m.length (0+1))=some (IA L[i].z L[i].o L[i].kids):=by rw[fK,gq];rfl
  have ld2:aj none m4 (.ptr m.length (0+2))=some (.I L[i].leaf):=by rw[fK,gq];rfl
  have fm:=f.len;have gb2:m.get b2=some (.B [.ptr s 0]):=(f.get b2 hb2 qpU).trans qv;have gb24:m4.get b2=some (.B [.ptr s 0]):=(f4.get b2 aa (by simp)).trans gb2;have gn4:m4.get nm=some (.obj false ((ju ids L.length).map (AV.int .i64))):=(f4.get nm qqz (by simp)).trans hg;have f04:Fr m0 m4 F0:=Fr.trans f f4 fun _ hh=>by cases hh
  have st4:=st.app f4;have e1:zD (.ptr b1 0) (.ptr b2 0) (.arr nm 0 L.length none) (RL zl ol L) (.I L.length) (.I i) m (zq (aH f108))=_:=Te _ _ _ _ _ _ m _;rw[bz,ae,aC,aq aa,iy,ae,A4,ae,mO,mO] at e1;dsimp only at e1;rw[sn,ae,iL,ae,ld0,ae,bz,ae,aC] at e1;unfold Bq at es;rw[jA] at es;dsimp only at es
  by_cases hv:L[i].var<0
  .rw[aq hv] at es;obtain ⟨r,er,J,bl1,bl2⟩:=qav h cE I (by rw[jA];exact hv);rw[jA] at er J bl1 bl2;obtain ⟨m5,F5,e54,k1,k2,k3⟩:=SE st4 (x:=L[i].leaf) ⟨bl1,bl2⟩ aa aa;have gn5:m5.get nm=some (.obj false ((ju ids L.length).map (AV.int .i64))):=(k2.get nm aa AK).trans gn4
   have Zk:nm∉F5:=fun hh=>by
    rcases k3 nm hh with h4|h4
    .exact AK h4
    .omega
   have sti:=RY (y:=((l.idxOf (ja L[i].leaf):Nat):Int)) gn5 (i:=i) (by rw[EX aa];omega);have ecs:=O5 (ids:=ids) (n:=L.length) aa (l.idxOf (ja L[i].leaf));rw[sI] at ecs;rw[ecs] at sti;rw[aq hv,p5 gb24,ae,iL,ae,ld2,ae,e54,ae,gF cE,ae,sti,ae,bU aa,ae] at e1;have Qc:=bW gn5
   have Fs:Gr m F F5:=fun y hy=>by
    rcases k3 y hy with h4|h4
    .exact .inl h4
    .exact .inr aa
   obtain ⟨m',F',e,k⟩:=ih (i+1) (m5.set nm (some (.obj false ((ju (ids++[l.idxOf (ja L[i].leaf)]) L.length).map (AV.int .i64))))) F5 aa (by rw[es];exact k1.move fun y hy=>cQ (fun e=>Zk (e▸hy))) (by rw[es];exact di rfl Qc) Zk ((Fr.trans f04 k2 gr).set _ (.inr qU)) (Gr.trans f.len gr Fs);exact ⟨m',F',e1.trans e,k⟩
  .rw[an hv] at es;obtain ⟨r,id,er,J,yA,CF⟩:=qax h h1 dQ cE I aa (by rw[jA];exact hv);obtain ⟨v,og,fL,fZ,wN⟩:=RM h cE (by rw[jA];omega);rw[jA] at er yA CF og fZ wN;have jc:=h1 _ (bA fL);have aU:ar.getD v 0=ar[v]:=by rw[aT,bP fL,fk]
   have qqk:L[i].kids.length<=1000:=aa;have mk:=qaE m4 L[i].kids.length aa;have f5:Fr m4 (m4++[some (Ent.obj false ((ju [] L[i].kids.length).map (AV.int .i64)))]) []:=Fr.app m4 _ _;have gk:ai.get (m4++[some (Ent.obj false ((ju [] L[i].kids.length).map (AV.int .i64)))]) m4.length=some (Ent.obj false ((ju [] L[i].kids.length).map (AV.int .i64))):=cJ rfl;have l5:(m4++[some (Ent.obj false ((ju [] L[i].kids.length).map (AV.int .i64)))]).length=m4.length+1:=aA;generalize m4++[some (Ent.obj false ((ju [] L[i].kids.length).map (AV.int .i64)))]=m5 at mk f5 gk l5;have ld15:aj none m5 (.ptr m.length (0+1))=some (IA L[i].z L[i].o L[i].kids):=by rw[fK,f5.get _ aa aA,gq];rfl
   have gn5:m5.get nm=some (.obj false ((ju ids L.length).map (AV.int .i64))):=(f5.get nm aa (by simp)).trans gn4
   obtain ⟨m6,e9,f6,gk6⟩:=qlx (nm:=nm) (kids:=L[i].kids) (ids:=ids) (z:=L[i].z) (o:=L[i].o) (kq:=m4.length) (n:=L.length) (m1:=m5) aa aa (fun k ck=>by
    obtain ⟨t,rfl,ht,_⟩:=wN k ck
    exact ⟨t,rfl,aa⟩) qqk aa aa gn5 (.ptr b1 0) (.ptr b2 0) (.I i) (.ptr m.length 0) (RL zl ol L) (.I L.length) (.I i) (zq (aH f108)) L[i].kids.length 0 m5 aa (Fr.refl _ _) gk
   have e9:DQ (.ptr b1 0) (.ptr b2 0) (.arr nm 0 L.length none) (.I i) (.ptr m.length 0) (.arr m4.length 0 L[i].kids.length none) (RL zl ol L) (.I L.length) (.I i) (IA L[i].z L[i].o L[i].kids) (.I L[i].kids.length) (.I 0) m5 (DI (zq (aH f108)))=_:=e9;have lm6:=f6.len;have g6:∀y,y<m4.length->m6.get y=m4.get y:=fun y hy=>(f6.get y aa (by simp;omega)).trans (f5.get y aa aA);have gb26:m6.get b2=some (.B [.ptr s 0]):=(g6 b2 (by omega)).trans gb24;have ld06:aj none m6 (.ptr m.length (0+0))=some (.I L[i].var):=by rw[fK,g6 _ aa,gq];rfl
   have f7:=qrs m6 m4.length;have l7:=f7.len;have g7:∀y,y<m4.length->ai.get (kB m6 [m4.length]) y=m4.get y:=fun y hy=>(f7.get y aa (by simp;omega)).trans (g6 y hy);have st7:dW (kB m6 [m4.length]) s F arms 4000 l:=st4.move fun y hy=>g7 y (st4.lt y hy)
   have hfz:cq m6 kX (.arr m4.length 0 L[i].kids.length none)=some (IA false .no ((L[i].kids.map fun k=>ids.getD k.toNat 0).map Int.ofNat),[m4.length]):=by
    have:=qpv gk6;rw[bu,bu] at this;exact this
   have hmf:fU (Cp m6) [.ptr s 0,.I L[i].var,.arr m4.length 0 L[i].kids.length none]=some ([.ptr s 0,.I L[i].var,IA false .no ((L[i].kids.map fun k=>ids.getD k.toNat 0).map Int.ofNat)],[m4.length]):=by
    simp[fU,Cp,hfz]
   obtain ⟨m8,F8,e59,k1,k2,k3⟩:=SF st7 (v:=L[i].var) (z:=false) (o:=.no) (ks:=(L[i].kids.map fun k=>ids.getD k.toNat 0).map Int.ofNat) (by simpa using CF) yA rfl (.inl rfl) aa aa;rw[er] at e59 k1 es;dsimp only at e59 k1 es
   have hc:An (AC af) m6 99 [.ptr s 0,.I L[i].var,.arr m4.length 0 L[i].kids.length none]=some (.I (id:Nat),m8):=by
    unfold An;rw[hmf,ae];exact e59
   have gn8:m8.get nm=some (.obj false ((ju ids L.length).map (AV.int .i64))):=(k2.get nm aa AK).trans ((g7 nm (by omega)).trans gn4)
   have Zl:nm∉F8:=fun hh=>by
    rcases k3 nm hh with h4|h4
    .exact AK h4
    .omega
   have sti:=RY (y:=((id:Nat):Int)) gn8 (i:=i) (by rw[EX aa];omega);have ecs:=O5 (ids:=ids) (n:=L.length) aa id;rw[sI] at ecs;rw[ecs] at sti;rw[an hv,iL,ae,ld1,ae,iT,ae,mk,ae,ae,ld15,ae,iT,ae,e9,qdB,p5 gb26,ae,iL,ae,ld06,ae,hc,ae,gF cE,ae,sti,ae,bU aa,ae] at e1;have hn8:=bW gn8
   have Fs:Gr m F F8:=fun y hy=>by
    rcases k3 y hy with h4|h4
    .exact .inl h4
    .exact .inr aa
   have F48:Fr m0 m8 F0:=Fr.trans (Fr.trans (Fr.trans (Fr.trans f04 f5 fun _ hh=>by cases hh) f6 fun y hy=>by
    obtain rfl:y=m4.length:=by simpa using hy
    exact .inr aa) f7 fun y hy=>by
    obtain rfl:y=m4.length:=by simpa using hy
    exact .inr aa) k2 gr
   obtain ⟨m',F',e,k⟩:=ih (i+1) (m8.set nm (some (.obj false ((ju (ids++[id]) L.length).map (AV.int .i64))))) F8 aa (by rw[es];exact k1.move fun y hy=>cQ (fun e=>Zl (e▸hy))) (by rw[es,cU];exact di rfl hn8) Zl (F48.set _ (.inr qU)) (Gr.trans f.len gr Fs);exact ⟨m',F',e1.trans e,k⟩
end
end Go.Ab
namespace Go.Ab
open Go.Proofs Go.Proofs.Tryz
theorem qor(sh:Sh)(z:Bool)(o:Own)(es:List AV)(m:ai):dp none none m (.lst sh z o es)=some (.ptr m.length 0,m++[some (Ent.B [.lst sh z o es])]):=rfl
section
variable {s:Nat} {zs zl:Bool} {os ol:Own} {ar:List Int} {F:List Nat} {l0:List ND} {L:List RN}
theorem qc8(h:pq ar L)(h1:∀x∈ar,1<=x/\x<=64)(dQ:ar.length<=16)(g0:GoodL ar l0)(hl:l0.length+L.length<4000)(hL:0<L.length){arms:AV}{m:ai}(st:dW m s F arms 4000 l0){b1 b2:Nat}(hF1:b1∉F)(hF2:b2∉F)(g1:m.get b1=some (.B [RL zl ol L]))(g2:m.get b2=some (.B [.ptr s 0])) :
  ∃m' F',AC af 108 [.ptr b1 0,.ptr b2 0] m=some (.I ((nn L l0 L.length).2.getD (L.length-1) 0:Nat),m')/\dW m' s F' arms 4000 (nn L l0 L.length).1/\Fr m m' F/\Gr m F F':=by
 have mk:=qaE m L.length aa;have f1:=Fr.app m (some (Ent.obj false ((ju [] L.length).map (AV.int .i64)))) F;have hb1:=bW g1;obtain ⟨m',F',e,k⟩:=W66 (s:=s) (nm:=m.length) (arms:=arms) (zl:=zl) (ol:=ol) h h1 dQ g0 hl hL (aR _) hb1 (bW g2) hF1 hF2 st.lt g1 g2 L.length 0 (m++[some (Ent.obj false ((ju [] L.length).map (AV.int .i64)))]) F aa (st.app (Fr.app m _ _)) (cJ rfl) (fun hh=>by have:=st.lt _ hh;omega) f1 (Gr.refl _ _);refine ⟨m',F',?_,k⟩;have e:zD (.ptr b1 0) (.ptr b2 0) (.arr m.length 0 L.length none) (RL zl ol L) (.I L.length) (.I 0) (m++[some (Ent.obj false ((ju [] L.length).map (AV.int .i64)))]) (zq (aH f108))=_:=e;rw[qjy,p5 g1,ae,FX,ae,mk,ae,p5 (show ai.get (m++[some (Ent.obj false ((ju [] L.length).map (AV.int .i64)))]) b1=some (.B [RL zl ol L]) by rw[cK hb1];exact g1),ae,FX,ae];exact e
theorem qda(h:ra ar L L.length 0=true)(h1:∀x∈ar,1<=x/\x<=64)(dQ:ar.length<=16)(g0:GoodL ar l0)(hl:l0.length+L.length<4000){m:ai}(st:dW m s F (IA zs os ar) 4000 l0) :
  ∃m' F',AC af 44 [.ptr s 0,RL zl ol L] m=some (.tup [.I ((nn L l0 L.length).2.getD (L.length-1) 0:Nat),.I 0],m')/\dW m' s F' (IA zs os ar) 4000 (nn L l0 L.length).1/\Fr m m' F/\Gr m F F':=by
 obtain ⟨hL,wY⟩:=qa9 L.length 0 aa h;have wY:pq ar L:=fun i hi=>wY i (oJ _) hi;have f2:Fr m ((m++[some (Ent.B [.ptr s 0])])++[some (Ent.B [RL zl ol L])]) []:=(Fr.app m _ _).snoc _;have st2:=st.app f2;have e50:=DB st2 aa
 have hs:∃na p,ai.get m s=some (Ent.B [IA zs os ar,na,.mref p,.I 4000]):=by
  obtain ⟨p,na,T,h,rfl⟩:=st;exact ⟨na,p,h.hs⟩
 obtain ⟨na,p,hs⟩:=hs;have mM:=bW hs;have p65:=fun d m=>qsI zs zl os ol ar L aa h1 d m;rw[h] at p65
 obtain ⟨m',F',id,l',e52,hQ,k1,k2,k3⟩:=qdb (g:=108) (caps:=[.ptr (m.length+1) 0,.ptr m.length 0]) (Q:=fun id l'=>id=((nn L l0 L.length).2.getD (L.length-1) 0:Nat)/\l'=(nn L l0 L.length).1) st2 rfl rfl rfl
  (fun m1 fr=>by
   obtain ⟨m',F',e,k1,k2,k3⟩:=qc8 (zl:=zl) (ol:=ol) wY h1 dQ g0 hl hL (st2.app fr) (b1:=m.length+1) (b2:=m.length) (fun hh=>by have:=st.lt _ hh;omega) (fun hh=>by have:=st.lt _ hh;omega) (by rw[fr.get _ aA aA];exact (by simp (disch:=first|assumption|omega|simp only[b7]<;>omega|fail) only[ik,cK,cJ,cQ,di]<;>rfl)) (by rw[fr.get _ aA aA];exact (by simp (disch:=first|assumption|omega|simp only[b7]<;>omega|fail) only[ik,cK,cJ,cQ,di]<;>rfl))
   exact ⟨m',F',_,_,e,⟨rfl,rfl⟩,k1,k2,k3⟩)
 obtain ⟨rfl,rfl⟩:=hQ;refine ⟨m',F',?_,k1,Fr.trans (f2.mono aA) k2 fun y hy=>.inl hy,Gr.trans f2.len (Gr.refl _ _) k3⟩;rw[T44]
 repeat ((with_reducible first|apply bs|apply fB);(focus first|(simp (disch:=first|assumption|omega|simp only[b7]<;>omega|fail) only[fA,beq_self_eq_true,dz,ae,Sh.size,bJ,b9,Nat.reduceAdd,Nat.reduceLeDiff,aR,qL,qor,e50]<;>rfl)|rfl);try dsimp only)
 rw[gT]
 repeat ((with_reducible first|apply bs|apply fB);(focus first|(simp (disch:=first|assumption|omega|simp only[b7]<;>omega|fail) only[fA,beq_self_eq_true,dz,ae,Sh.size,bJ,b9,Nat.reduceAdd,Nat.reduceLeDiff,aR,hs,p65]<;>rfl)|rfl);try dsimp only)
 rw[jj,gT]
 repeat ((with_reducible first|apply bs|apply fB);(focus first|(simp (disch:=first|assumption|omega|simp only[b7]<;>omega|fail) only[fA,beq_self_eq_true,dz,ae,Sh.size,bJ,b9,Nat.reduceAdd,Nat.reduceLeDiff,aR,e52]<;>rfl)|rfl);try dsimp only)
end
end Go.Ab
namespace Go.Ab
open Go.Proofs Go.Proofs.Tryz
inductive GS (e:Nat) (m:ai):AV->List AV->List Nat->Prop
 | none:GS e m aD [] []
 | some (t:Nat) (es:List AV) (ht:m.get t=some (.tok es.length 3)) (hne:es≠[]):GS e m (.lst (some 3) false (.tok t e) es) es [t]
end Go.Ab
namespace Go.Ab
open Go.Proofs Go.Proofs.Tryz
def ke(n:ND):RN:=⟨n.var,kz n,ko n,n.kids,n.leaf⟩
theorem quk{n:ND}(h:n.ok):(ke n).av=n.av:=by
 unfold ND.av;rw[w7 h];rfl
theorem qjk{z:Bool}{o:Own}{P:List ND}(h:∀n∈P,n.ok):NL z o P=RL z o (P.map ke):=by
 have:(P.map ke).map RN.av=P.map ND.av:=by
  rw[sj];exact List.map_congr_left fun n hn=>quk (h n hn)
 rw[RL,this]
section
variable {ar:List Int} {l:List ND}
theorem B7{P:List ND}{i:Nat}(hi:i<P.length):(P.map ke).getD i fq=ke P[i]:=by
 rw[aT,mS,bP hi];rfl
theorem qba{L:List RN}(h:pq ar L)(hL:0<L.length):∀(j i:Nat),i+j=L.length->ra ar L j i=true
 | 0,i,_=>bM hL
 | j+1,i,hi=>by rw[ra,h i aa,qba h hL j (i+1) aa];rfl
theorem C1{out:List Nat}{i:Nat}(hi:i<out.length):(dR l out)[i]'(by unfold dR;rw[bu];exact hi)=nd l out out[i]:=by
 unfold dR;rw[tf]
theorem ES{out:List Nat}(hc:Cl l out){i:Nat}(hi:i<out.length)(hj:out[i]<l.length){k:Int}(hk:k∈l[out[i]].kids):out.idxOf k.toNat<i/\out[out.idxOf k.toNat]?=some k.toNat:=by
 have h1:=hc.cl i hi hj k hk;have h2:(out.take i).idxOf k.toNat<(out.take i).length:=List.idxOf_lt_length_of_mem h1
 have h3:out.idxOf k.toNat=(out.take i).idxOf k.toNat:=by
  conv=>lhs;rw[<- oG i out]
  rw[List.idxOf_append,aq h1]
 have h4:out.idxOf k.toNat<i:=by rw[h3];rw[im] at h2;omega
 have h5:out.idxOf k.toNat<out.length:=aa;exact ⟨h4,by rw[bP h5,List.getElem_idxOf]⟩
theorem U6(g:GoodL ar l){out:List Nat}(hc:Cl l out):pq ar ((dR l out).map ke):=by
 intro i hi;have nQ:((dR l out).map ke).length=out.length:=by unfold dR;rw[bu,bu]
 have kL:i<out.length:=aa;have wL:i<(dR l out).length:=by unfold dR;rw[bu];exact kL
 have hj:=hc.lt _ (bA kL);rw[B7 wL,C1 kL]
 have hnd:ke (nd l out out[i])=⟨l[out[i]].var,kz (nd l out out[i]),ko (nd l out out[i]),l[out[i]].kids.map (fun k=>((out.idxOf k.toNat:Nat):Int)),l[out[i]].leaf⟩:=by
  unfold ke nd;rw[iM hj]
 have bc:=g.ok _ (bA hj);unfold oD;rw[hnd]
 by_cases hv:l[out[i]].var<0
 .rcases bc with ⟨a1,a2,a3⟩|⟨a1,_⟩
  .rw[aq a1];exact bM ⟨by simp[a2],a3⟩
  .omega
 .rcases bc with ⟨a1,_⟩|⟨a1,a2,a3,a4,a5⟩
  .omega
  .have hne:¬ l[out[i]].var=-1:=aa;obtain ⟨b1,b2⟩:=g.var _ hj aa;rw[an hne,cD];refine ⟨bM ⟨a1,b1,a3,by simpa using b2⟩,gD.2 fun q hq=>?_⟩;obtain ⟨k,hk,rfl⟩:=iw.1 hq;obtain ⟨c1,c2⟩:=ES hc kL hj hk;obtain ⟨t,ek,ht,AX⟩:=g.kid _ hj aa k hk;have fJ:t<l.length:=aa;have AX:=AX fJ;have c3:out.idxOf k.toNat<out.length:=aa
   have c4:out[out.idxOf k.toNat]=t:=by
    rw[bP c3] at c2;have:=pS c2;rw[this,ek,cU]
   unfold kidB;rw[cU,B7 (by unfold dR;rw[bu];exact c3),C1 c3,c4];have wS:(ke (nd l out t)).var=l[t].var:=by unfold ke nd;rw[iM fJ]
   rw[wS,cD];refine ⟨bM aa,bM ?_⟩;unfold dP at AX
   split at AX
   .exact .inr AX
   .rcases g.ok _ (bA fJ) with ⟨d1,_⟩|⟨d1,_⟩
    .exact .inl d1
    .omega
theorem qah{n:ND}(h:n.ok)(hv:n.var<0):ja n.leaf=n:=by
 rcases h with ⟨a1,a2,_⟩|⟨a1,_⟩
 .obtain ⟨v,k,x⟩:=n;simp only at a1 a2;rw[a1,a2];rfl
 .omega
theorem qa4{n:ND}(h:n.ok)(hv:¬ n.var<0):iF n.var n.kids=n:=by
 rcases h with ⟨a1,_⟩|⟨_,_,a3,_⟩
 .omega
 .obtain ⟨v,k,x⟩:=n;simp only at a3;rw[a3];rfl
theorem qa2{l:List ND}{v:Int}{ks:List Int}(h:∃k∈ks,k≠ks.headD 0):oX l v ks=(((l.idxOf (iF v ks):Nat):Int),jD l (iF v ks)):=by
 unfold oX;rw[an];intro hh;obtain ⟨k,hk,hne⟩:=h;exact hne (by simpa using gD.1 hh k hk)
theorem qay(g:GoodL ar l){out:List Nat}(hc:Cl l out):∀i,i<=out.length->nn ((dR l out).map ke) l i=(l,out.take i)
 | 0,_=>rfl
 | i+1,hi=>by
  have kL:i<out.length:=aa;have wL:i<(dR l out).length:=by unfold dR;rw[bu];exact kL
  have hj:=hc.lt _ (bA kL);have bc:=g.ok _ (bA hj);rw[KA (by rw[bu];exact wL),qay g hc i aa,B7 wL,C1 kL,mU kL];have e1:(ke (nd l out out[i])).var=l[out[i]].var:=by unfold ke nd;rw[iM hj]
  have e2:(ke (nd l out out[i])).leaf=l[out[i]].leaf:=by unfold ke nd;rw[iM hj]
  have e3:(ke (nd l out out[i])).kids=l[out[i]].kids.map (fun k=>((out.idxOf k.toNat:Nat):Int)):=by unfold ke nd;rw[iM hj]
  have gz:l[out[i]]∈l:=bA hj;have iy:l.idxOf l[out[i]]=out[i]:=C5 g.nd (List.idxOf_lt_length_of_mem gz) hj (List.getElem_idxOf _);unfold Bq;rw[e1,e2,e3]
  by_cases hv:l[out[i]].var<0
  .rw[aq hv,qah bc hv];simp only[jD,aq gz,iy]
  .rw[an hv]
   have ek:((l[out[i]].kids.map (fun k=>((out.idxOf k.toNat:Nat):Int))).map fun k=>(out.take i).getD k.toNat 0).map Int.ofNat=l[out[i]].kids:=by
    rw[sj,sj]
    conv=>rhs;rw[<- List.map_id l[out[i]].kids]
    refine List.map_congr_left fun k hk=>?_;obtain ⟨c1,c2⟩:=ES hc kL hj hk;obtain ⟨t,et,_⟩:=pZ g hj k hk;simp only[Function.comp,cU,id];rw[aT,rB,aq c1,c2,fk,et];simp
   simp only[ek];rw[qa2 (g.dif _ hj aa),qa4 bc hv];simp only[jD,aq gz,iy,cU]
theorem qrT(g:GoodL ar l){out:List Nat}(hc:Cl l out):(dR l out).Nodup:=by
 unfold dR;rw[List.nodup_iff_pairwise_ne,List.pairwise_map];refine List.Pairwise.imp_of_mem ?_ (List.nodup_iff_pairwise_ne.1 hc.nd);intro a b ha hb hne e;exact hne (Q5 g (hc.lt a ha) (hc.lt b hb) (hc.kids ha (hc.lt a ha)) (hc.kids hb (hc.lt b hb)) e)
theorem qsf{α:Type}[DecidableEq α]{P:List α}(h:P.Nodup){i:Nat}(hi:i<P.length):P[i]∉P.take i:=fun hm=>by
 obtain ⟨k,hk,e⟩:=n0 hm;rw[im] at hk;rw[List.getElem_take] at e;have:=C5 h aa hi e;omega
theorem qaw(g:GoodL ar l)(fI:l.length<=100000){out:List Nat}(hc:Cl l out):∀i,i<=out.length->nn ((dR l out).map ke) [] i=((dR l out).take i,List.range i)
 | 0,_=>rfl
 | i+1,hi=>by
  have kL:i<out.length:=aa;have wL:i<(dR l out).length:=by unfold dR;rw[bu];exact kL
  have hj:=hc.lt _ (bA kL);have Qf:=q8 _ _ hc.nd hc.lt;have bc:=Gh g fI (p:=out) aa hj;have qU:=qsf (qrT g hc) wL;rw[C1 kL] at qU;have hlt:((dR l out).take i).length=i:=by rw[im];omega
  rw[KA (by rw[bu];exact wL),qaw g fI hc i aa,B7 wL,C1 kL,mU wL,C1 kL,List.range_succ];have e3:(nd l out out[i]).kids=l[out[i]].kids.map (fun k=>((out.idxOf k.toNat:Nat):Int)):=by unfold nd;rw[iM hj]
  have e1:(nd l out out[i]).var=l[out[i]].var:=by unfold nd;rw[iM hj]
  show Bq _ (ke (nd l out out[i]))=_;unfold Bq ke
  by_cases hv:(nd l out out[i]).var<0
  .simp only[aq hv];rw[qah bc hv];simp only[jD,an qU,FV qU,hlt]
  .simp only[an hv]
   have ek:((nd l out out[i]).kids.map fun k=>(List.range i).getD k.toNat 0).map Int.ofNat=(nd l out out[i]).kids:=by
    rw[e3,sj,sj];refine List.map_congr_left fun k hk=>?_;obtain ⟨c1,_⟩:=ES hc kL hj hk;simp only[Function.comp,cU];rw[aT,List.getElem?_range c1,fk];rfl
   simp only[ek]
   have hd:∃k∈(nd l out out[i]).kids,k≠(nd l out out[i]).kids.headD 0:=by
    obtain ⟨k,hk,hne⟩:=g.dif _ hj (by rw[e1] at hv;omega);rw[e3];refine ⟨_,List.mem_map_of_mem hk,fun e=>hne ?_⟩
    cases wO:l[out[i]].kids with
    | nil=>rw[wO] at hk;cases hk
    | cons k0 kt=>
     rw[wO,gh,List.headD_cons] at e;rw[List.headD_cons];have uW:k0∈l[out[i]].kids:=by rw[wO];exact gj
     obtain ⟨_,c2⟩:=ES hc kL hj hk;obtain ⟨_,d2⟩:=ES hc kL hj uW;have e':out.idxOf k.toNat=out.idxOf k0.toNat:=aa;rw[e'] at c2;rw[c2] at d2;have e4:=pS d2;obtain ⟨t,et,_⟩:=pZ g hj k hk;obtain ⟨t0,et0,_⟩:=pZ g hj k0 uW;omega
   rw[qa2 hd,qa4 bc hv];simp only[jD,an qU,FV qU,hlt,cU]
end
end Go.Ab
namespace Go.Ab
open Go.Proofs Go.Proofs.Tryz
theorem qoj{a b:ND}(ha:a.ok)(hb:b.ok)(h:a.av=b.av):a=b:=by
 unfold ND.av at h;rw[w7 ha,w7 hb] at h;simp only[AV.agg.injEq,qj,AV.int.injEq,AV.lst.injEq,and_true,true_and] at h;obtain ⟨h1,⟨_,_,h2⟩,h3⟩:=h;have h2:=(List.map_inj_right (fun x y e=>by simpa using e)).1 h2;cases a;cases b;simp_all
theorem qaN:∀{P Q:List ND},(∀n∈P,n.ok)->(∀n∈Q,n.ok)->P.map ND.av=Q.map ND.av->P=Q
 | [],[],_,_,_=>rfl
 | [],_::_,_,_,h=>by cases h
 | _::_,[],_,_,h=>by cases h
 | a::P,b::Q,hp,hq,h=>by
  simp only[gh,qj] at h;rw[qoj (hp a gj) (hq b gj) h.1,qaN (fun n hn=>hp n (fW _ hn)) (fun n hn=>hq n (fW _ hn)) h.2]
theorem W49{s:AV}{z:Bool}{o:Own}{L:List ND}(hL:L.length<=100000)(K:KT):∀(q p:List ND) (m:ai) (x:AV) (T:List Nat),L=p++q->NR 74 m x p T ->
  ∃(m':ai) (x':AV) (T':List Nat),D7 s x (NL z o L) (.I L.length) (.I p.length) m K=K (.exit 0) (N0 s x' m')/\NR 74 m' x' L T'/\Fr m m' T/\Gr m T T':=by
 intro q
 induction q with
 | nil=>
  intro p m x T gA h;rw[cu] at gA;subst gA;refine ⟨m,x,T,?_,h,Fr.refl _ _,Gr.refl _ _⟩;rw[Ut,bz,ae,aC,an aa]
 | cons n q ih=>
  intro p m x T gA h;have hpl:p.length<L.length:=by rw[gA];simp
  have iC:L[p.length]=n:=by simp[gA]
  have iy:=QA (z:=z) (o:=o) hpl;rw[iC] at iy;have bx:=Jr n m (JT m);have f1:Fr m (m++[some (Ent.B [.I n.var,fD n,.I n.leaf])]) T:=Fr.app m _ _;have h2:NR 74 (m++[some (Ent.B [.I n.var,fD n,.I n.leaf])]) x p T:=xn h fun k hk=>(Fr.app m _ []).get k (xm h k hk) aA;obtain ⟨x3,m3,T3,ea,n3,f3,g3⟩:=qa6 h2 aa n;obtain ⟨m',x',T',e,k1,k2,k3⟩:=ih (p++[n]) m3 x3 T3 (by rw[gA,gR];rfl) n3
  have g13:Gr m T T3:=fun a ha=>by
   rcases g3 a ha with hh|hh
   .exact .inl hh
   .rw[aW] at hh;exact .inr aa
  have f13:Fr m m3 T:=Fr.trans f1 f3 fun a ha=>.inl ha;refine ⟨m',x',T',?_,k1,Fr.trans f13 k2 g13,Gr.trans f13.len g13 k3⟩
  have ld2:aj (some 3) (m++[some (Ent.B [.I n.var,fD n,.I n.leaf])]) (.ptr m.length 0)=some n.av:=by
   rw[fK,cJ rfl];rfl
  have pD:df (some 3) [n.av]=some (.lst (some 3) false .full [n.av]):=qot n;rw[Ut,bz,ae,aC,aq aa,iy,ae,A4,ae,mO,mO];dsimp only;rw[bx,ae,ld2,ae,pD,ae,ea,ae,bU aa,ae];rw[aW] at e;exact e
theorem A49{za zt:Bool}{oa ot:Own}{ar t:List Int}(m0:ai)(ZM:za=true->ar=[])(he:py ar=0)(hp:cn ar<=300)(fJ:t.length=cn ar)(CP:∀y∈t,0<=y/\y<=4) :
  ∃m' s F zs os P,AC af 49 [IA za oa ar,IA zt ot t] m0=some (.tup [.ptr s 0,.I (P.length-1:Nat),.bool true],m')/\dW m' s F (IA zs os ar) 4000 P/\GoodL ar P/\0<P.length/\P.length<4000/\TabV ar P (P.length-1) 0 t/\Fr m0 m' []/\(∀x∈F,m0.length<=x) /\
   dR P (Vi P (P.length-1) [])=P/\∀z o z' o',AP af 31 [IA z o ar,IA z' o' t]=some (NL false .no P):=by
 obtain ⟨h1,h2⟩:=z8 he;obtain ⟨mA,sA,FA,zA,oA,l1,id1,_,stA,g1,tab1,nQ,_,_⟩:=A29 (za:=za) (z:=zt) (oa:=oa) (o:=ot) (ar:=ar) (t:=t) m0 ZM he hp fJ CP;have fI:l1.length<=100000:=aa;obtain ⟨c1,c2,_⟩:=pT g1 id1 tab1.lt [] qq;have eV:=sy g1 tab1.lt [];rw[an aA] at eV;have PF:=fun z o z' o'=>VR g1 h2 fI h1 hp tab1 z z' o o';generalize qu7:Vi l1 id1 []=out at *;have Qf:=q8 _ _ c1.nd c1.lt;have ho0:0<out.length:=List.length_pos_of_mem c2;have qu:(dR l1 out).length=out.length:=by unfold dR;rw[bu]
 have hne:dR l1 out≠[]:=fun e=>by rw[e] at qu;simp at qu;omega
 have bc:=KE g1 fI c1;have wY:=U6 g1 c1;have hLl:((dR l1 out).map ke).length=out.length:=by rw[bu,qu]
 have qqE:=qba wY aa ((dR l1 out).map ke).length 0 aa;obtain ⟨m4,s',F4,zs',os',e14,st4,f4,Yp,_⟩:=Sy m0 za oa ar ZM he;obtain ⟨m5,x5,T5,e49,Qc,f5,_⟩:=W49 (s:=.ptr s' 0) (z:=false) (o:=.no) (L:=dR l1 out) aa (Hs (aH f49)) (dR l1 out) [] m4 aD [] rfl .none;obtain ⟨tk,rfl⟩:=Re Qc hne;have hNR:=qjk (z:=false) (o:=.tok tk 74) bc;have st5:=st4.app f5;obtain ⟨m6,F6,e44,st6,f6,gr6⟩:=qda (zl:=false) (ol:=.tok tk 74) qqE h2 h1 PE (by simp;omega) st5;have uY:=qaw g1 fI c1 out.length (aR _);have I:=CZ wY h2 h1 PE (by simp;omega) out.length aa;have I0:=CZ wY h2 h1 g1 aa out.length aa;have Qq:=qay g1 c1 out.length (aR _);rw[hLl,uY] at e44 st6;rw[uY] at I;rw[Qq] at I0;have hPt:(dR l1 out).take out.length=dR l1 out:=by rw[<- qu,List.take_length]
 rw[hPt] at st6 I;dsimp only at e44 st6 I I0;rw[<- hNR] at e44;obtain ⟨a1,a2,a3⟩:=I.at_ (out.length-1) aa;obtain ⟨b1,b2,b3⟩:=I0.at_ (out.length-1) aa
 have me:out.getD (out.length-1) 0=id1:=by
  rw[eV,aT];simp
 rw[List.take_length,me] at b3
 have hx:(List.range out.length).getD (out.length-1) 0=out.length-1:=by
  rw[aT,List.getElem?_range aa];rfl
 rw[hx] at a1 a2 a3 e44
 have tab2:TabV ar (dR l1 out) (out.length-1) 0 t:=by
  refine ⟨tab1.len,a1,fun hh=>?_,fun y hy=>?_⟩
  .have:=qlI I.g a1;rw[EF a1] at this;exact this.1
  .rw[a3 y hy,<- b3 y hy];exact tab1.val y hy
 have PG:=VR I.g h2 aa h1 hp tab2 za zt oa ot;obtain ⟨d1,_,_⟩:=pT I.g (out.length-1) tab2.lt [] qq;have yD:=KE I.g aa d1;rw[PF za oa zt ot] at PG;simp only[cg,AV.lst.injEq,true_and] at PG;have hsf:=qaN yD bc PG.symm
 refine ⟨m6,s',F6,zs',os',dR l1 out,?_,st6,I.g,aa,aa,by rw[qu];exact tab2,?_,?_,by rw[qu];exact hsf,fun z o z' o'=>PF z o z' o'⟩
 .have p31:aF (AP af) none m4 31 [IA za oa ar,IA zt ot t]=some (NL false .no (dR l1 out),m4):=by
   rw[fN (n6 za oa ar) (n6 zt ot t),PF];rfl
  have e49:D7 (.ptr s' 0) aD (NL false .no (dR l1 out)) (.I (dR l1 out).length) (.I 0) m4 (Hs (aH f49))=_:=e49;rw[T49,e14,ae,rI,ae,rJ,ae,gm,ae,aC,an aa,p31,ae,qak,ae];dsimp only;rw[e49,qhJ,e44,ae,rI,ae,rJ,ae,iK,ae,qu]
  rfl
 .exact Fr.trans (Fr.trans f4 f5 fun _ h=>by cases h) f6 fun x hx=>.inr (Yp x hx)
 .intro x hx;have:=(f4.len);have:=(f5.len)
  rcases gr6 x hx with h|h
  .exact Yp x h
  .omega
end Go.Ab
namespace Go.Ab
open Go.Proofs Go.Proofs.Tryz
structure WC (M:Nat) (r:RV) (N:Nat):Prop where
 wv:WV M r N
 can:Can r (cT false N M)
theorem Can.wc{M N:Nat}{r:RV}(hM:M<4294967296^8)(hN:N<=M)(h:Can r (cT false N M))(hf:r.fr=r):WC M r N:=⟨Can.wv hM hN h hf,h⟩
section
variable {ar:List Int} {s:Nat->Nat->Nat}
theorem SN{φ ψ:(Nat->Nat)->Nat}(h:∀b,φ b<=ψ b):∀(d v:Nat) (a:Nat->Nat),Ct ar s d v φ a<=Ct ar s d v ψ a
 | 0,v,a=>h a
 | d+1,v,a=>qcB fun k _=>lG _ (SN h d (v+1) (upd a v k))
theorem qdj(l:List ND)(c:Int)(k:Nat):Hc ar s l c k<=PM ar s ar.length 0:=by
 unfold Hc;refine fC (SN (ψ:=fun _=>1) (fun b=>by split<;>omega) _ _ _) ?_;rw[DG,mV];exact aR _
end
def rc(r:RV):List AV:=[.bool r.neg,r.num.av,r.den.av]
inductive WA (m:ai):AV->List RV->List Nat->Prop
 | none:WA m aD [] []
 | some (t:Nat) (ws:List RV) (ht:m.get t=some (.obj false (ws.flatMap rc))) (hne:ws≠[]):WA m (.arr t 0 ws.length (some 3)) ws [t]
section
variable {ar:List Int} {L:OL} {l:List ND} {M:Nat}
end
end Go.Ab
namespace Go.Ab
noncomputable section
open Go.Proofs.Tryz
end
end Go.Ab
namespace Go.Ab
open Go.Proofs Go.Proofs.Tryz
section
variable {m:ai} {x:AV}
end
end Go.Ab
namespace Go.Ab
open Go.Proofs Go.Proofs.Tryz
def kG(r:IL):IL:=⟨false,if r.ns=[] then .full else .no,r.ns⟩
theorem qoJ(r:IL):(kG r).fr=kG r:=by unfold kG Pq.IL.fr;dsimp only;split<;>rfl
theorem qsL(r:IL)(hz:r.z=false)(hl:r.ns.length<=1000000)(m:ai):aF (AP af) none m 88 [r.av]=some ((kG r).av,m):=by
 have h:=Rn r.z r.o r.ns hl m
 have e:Ad r.z r.ns=(kG r).av:=by
  rw[hz];unfold Ad kG Pq.IL.av;rw[an aA]
  split
  .rename_i h0;simp[h0]
  .rfl
 rw[e] at h;exact h
theorem qtS{m:ai}{nm i:Nat}{cs:List AV}{v:AV}(h:m.get nm=some (.obj false cs))(hi:i<cs.length)(hv:fG v=true)(hc:v.cells=[v]):aP none m (.ptr nm i) v=some (m.set nm (some (.obj false (cs.set i v)))):=by
 have hg:m.obj? nm=some (false,cs):=by rw[sR,h];rfl
 have h1:i+1<=cs.length:=hi;simp only[aP,hg,ae,Sh.size,h1,bJ,dJ,hv,hc];congr 4;simp only[b9,ba,bo];rw[Ee,aq hi];simp
theorem ZR(r:IL):fG r.av=true/\r.av.cells=[r.av]:=⟨rfl,rfl⟩
theorem qlC{L:OL}(hz:∀r∈L.es,r.z=false/\r.ns.length<=1000000)(hl:L.es.length<=100000){nm:Nat}(K:KT):∀(d i:Nat) (m:ai) (cs:List AV),i+d=L.es.length->m.get nm=some (.obj false cs)->cs.length=L.es.length->cs.take i=(L.es.take i).map (fun r=>(kG r).av) ->
  ∃m',DR (.arr nm 0 L.es.length none) L.av (.I L.es.length) (.I i) m K=K (.exit 0) (M9 (.arr nm 0 L.es.length none) m')/\m'.get nm=some (.obj false (L.es.map fun r=>(kG r).av)):=by
 intro d
 induction d with
 | zero=>
  intro i m cs hi hg hc ht;rw[iX aa,iX aa] at ht;subst ht;exact ⟨m,by rw[Tg,bz,ae,aC,an aa],hg⟩
 | succ d ih=>
  intro i m cs hi hg hc ht;have cE:i<L.es.length:=aa;have uT:=bW hg
  obtain ⟨m',e,k⟩:=ih (i+1) (m.set nm (some (.obj false (cs.set i (kG L.es[i]).av)))) (cs.set i (kG L.es[i]).av) aa (di rfl uT) (by rw[il];exact hc) (by
   rw[mU (by rw[il];omega),List.getElem_set_self,List.take_set_of_le (aR _),ht,mU cE,iH];rfl)
  refine ⟨m',?_,k⟩;obtain ⟨q1,q2⟩:=hz _ (bA cE);rw[Tg,bz,ae,aC,aq aa,Pq.index_ol cE,ae,Pq.load_ol,ae,qsL _ q1 q2,ae];dsimp only;rw[gF cE,ae,qtS hg aa (ZR _).1 (ZR _).2,ae,bU aa,ae];exact e
theorem qaH{m:ai}{k:Nat}:∀es:List IL,fU (cq m (k+1)) (es.map fun r=>(kG r).av)=some (es.map fun r=>(kG r).av,[])
 | []=>rfl
 | r::es=>by
  have h:=Pq.fza_il (kG r) m k;rw[qoJ] at h;simp only[gh,fU,h,ae,qaH es,aQ,cu]
theorem qbx:∀es:List IL,oE (es.map fun r=>(kG r).av)=true
 | []=>rfl
 | r::es=>by
  have:pl (kG r).av=true:=by unfold kG Pq.IL.av;dsimp only;split<;>rfl
  simp[oE,this,qbx es]
theorem qky{L:OL}(hz:∀r∈L.es,r.z=false/\r.ns.length<=1000000)(hl:L.es.length<=100000):AP af 109 [L.av]=some (Pq.OL.av ⟨false,.no,L.es.map kG⟩):=by
 have h3:(L.es.length:Int)*24<=281474976710656:=aa;have h4:(L.es.length:Int)<=9223372036854775807:=aa;have h5:(0:Int)<=L.es.length:=aa
 have hm:jy none 22 none aD 24 [] (.I L.es.length) (.I L.es.length)=some (.arr 0 0 L.es.length none,[some (Ent.obj false (List.replicate L.es.length aD))]):=by
  simp only[jy,az,sZ,qG,bJ,cU];rw[aq ⟨h5,trivial,h3,h4⟩];rfl
 obtain ⟨m',e,hg⟩:=qlC hz hl (nm:=0) (G6 (aH f109)) L.es.length 0 [some (Ent.obj false (List.replicate L.es.length aD))] (List.replicate L.es.length aD) aa rfl aA aA;have e:DR (.arr 0 0 L.es.length none) L.av (.I L.es.length) (.I 0) [some (Ent.obj false (List.replicate L.es.length aD))] (G6 (aH f109))=_:=e
 have ha:AC af 109 [L.av] []=some (.arr 0 0 L.es.length none,m'):=by
  rw[qjz,Pq.len_ol,ae,hm,ae,ae];dsimp only;rw[e,qdE]
 have pA:Pq.OL.av ⟨false,.no,L.es.map kG⟩=.lst none false .no (L.es.map fun r=>(kG r).av):=by
  unfold Pq.OL.av;rw[sj];rfl
 have hf:cq m' kX (.arr 0 0 L.es.length none)=some (.lst none false .no (L.es.map fun r=>(kG r).av),[0]):=by
  have h1:((L.es.map fun r=>(kG r).av).all fG)=true:=by simp[List.all_map,fG,Pq.IL.av]
  have ho:m'.obj? 0=some (false,L.es.map fun r=>(kG r).av):=by rw[sR,hg];rfl
  show (m'.obj? 0).bind _=_;rw[ho];simp only[ae,Sh.size,bu,bq,mV,aR,decide_true,my,ru,bJ,gC,iX (by simp:(L.es.map fun r=>(kG r).av).length<=L.es.length)];rw[qaH];simp only[ae,h1,qbx,ru,bJ,oQ];rw[iX aA]
 rw[pA];exact iW ha hf rfl
def wv(ws:List RV):LV:=if ws=[] then ⟨none,true,.full,[]⟩ else ⟨some 3,false,.no,ws⟩
theorem uo(ws:List RV):(wv ws).es=ws:=by unfold wv;split<;>simp_all
theorem quS(ws:List RV):(wv ws).fr=wv ws:=by unfold wv;split<;>rfl
theorem qc4{k:Nat}{ws:List RV}(h:∀r∈ws,ROk k r/\r.fr=r):LOk k (wv ws):=by
 refine ⟨?_,?_,fun r hr=>?_,fun r hr=>?_⟩
 .unfold wv;split
  .exact .inr rfl
  .exact .inl rfl
 .unfold wv;split
  .exact fun _=>rfl
  .intro h;cases h
 .rw[uo] at hr;exact (h r hr).2
 .rw[uo] at hr;exact (h r hr).1
theorem qow{r:RV}(h:r.fr=r):df (some 3) [r.av]=some (.lst (some 3) false .full [r.av]):=by
 have h1:r.num.fr=r.num:=dc RV.num h;have h2:r.den.fr=r.den:=dc RV.den h
 have hs:mP r.av=r.av:=by
  unfold RV.av mP;simp only[gh,sk,Lt h1,Lt h2]
  rfl
 have ho:dJ (some 3) r.av=true:=rfl
 have hp:pl r.av=true:=by
  show (pl (.bool r.neg)&&(pl r.num.av&&(pl r.den.av&&true)))=true;rw[KX h1,KX h2];rfl
 unfold df;simp only[nF,List.all_nil,gh,sk,hs,ho,hp]
 rfl
end Go.Ab
namespace Go.Ab
open Go.Proofs Go.Proofs.Tryz
def pN(n:ND):Pq.ND:=⟨n.var,⟨kz n,ko n,n.kids⟩,n.leaf⟩
theorem KV{n:ND}(h:n.ok):(pN n).av=n.av:=by
 unfold ND.av;rw[w7 h];rfl
end Go.Ab
namespace Go.Ab
open Go.Proofs Go.Proofs.Tryz
section
variable {ar:List Int} {L:OL} {l:List ND} {M:Nat}
theorem qtR{m:ai}{c:Nat}{a b w w':AV}{n:Int}(h:m.get c=some (.B [a,b,w,.I n]))(hv:fG w'=true)(hc:w'.cells=[w']):aP none m (.ptr c (0+2)) w'=some (m.set c (some (.B [a,b,w',.I n]))):=by
 rw[sa,h,mg,ae];simp[dz,Sh.size,dJ,hv,hc,b9]
theorem qs2{e b:Nat}{sh:Sh}{m:ai}{x:AV}{l:List AV}{T:List Nat}(h:QR e sh m x l T)(hb:(l.length+1)*b<=ft)(y:AV):∃x' m' T',bL (some m.length) false e sh b (m++[some Ent.resv]) x (.lst sh false .full [y])=some (x',m')/\QR e sh m' x' (l++[y]) T'/\Fr m m' T/\Gr m T T':=by
 cases h with
 | none=>
  refine ⟨.lst sh false (.tok m.length e) [y],(m++[some Ent.resv]).set m.length (some (Ent.tok 1 sh.size)),[m.length],?_,.some _ [y] (di rfl aA) aA,(Fr.app m _ _).set _ (.inr (aR _)),fun k hk=>?_⟩
  .have h2:b<=ft:=by simpa using hb
   simp[bL,h2,az]
  .obtain rfl:k=m.length:=by simpa using hk
   exact .inr (aR _)
 | some t es ht _=>
  have fJ:=bW ht;have vc:ai.get (m++[some Ent.resv]) t=some (.tok l.length sh.size):=by rw[cK fJ];exact ht
  refine ⟨.lst sh false (.tok t e) (l++[y]),(m++[some Ent.resv]).set t (some (Ent.tok (l.length+1) sh.size)),[t],?_,?_,(Fr.app m _ [t]).set _ (.inl aA),Gr.refl _ _⟩
  .simp[bL,vc,hb]
  .refine .some t (l++[y]) ?_ aA;rw[di rfl (by simp;omega),aW];rfl
theorem Rz{e:Nat}{sh:Sh}{m:ai}{x:AV}{l:List AV}{T:List Nat}(h:QR e sh m x l T):fG x=true/\x.cells=[x]:=by
 cases h with
 | none=>exact ⟨rfl,rfl⟩
 | some t ws ht hne=>exact ⟨rfl,rfl⟩
theorem qs3{e:Nat}{sh:Sh}{m:ai}{x:AV}{l:List AV}{T:List Nat}(h:QR e sh m x l T):∀k∈T,k<m.length:=by
 cases h with
 | none=>simp
 | some t ws ht hne=>intro k hk;simp at hk;subst hk;exact bW ht
theorem Ya{m m2:ai}{x:AV}{ws:List RV}{T:List Nat}{k:Nat}(h:QR 43 (some 3) m x (ws.map RV.av) T):cq m2 (k+1) x=some ((wv ws).av,[]):=by
 generalize hl:ws.map RV.av=es at h
 cases h with
 | none=>
  have:ws=[]:=uA.1 hl;subst this;rfl
 | some t es ht hne=>
  have Kf:ws≠[]:=fun e=>hne (by rw[<- hl,e];rfl);have e:(wv ws).av=.lst (some 3) false .no (ws.map RV.av):=by unfold wv;rw[an Kf];rfl
  rw[e,hl];rfl
theorem qpB{n:ND}(h:n.ok):Fz n.av n.av:=fun m=>by
 have:=Pq.fz_nd (pN n) m;rw[KV h] at this
 have e:Pq.ND.av ⟨(pN n).var,(pN n).kids.fr,(pN n).leaf⟩=n.av:=by
  rw[<- KV h]
  have:(pN n).kids.fr=(pN n).kids:=by
   unfold pN Pq.IL.fr ko;dsimp only;split<;>rfl
  rw[this]
 rw[e] at this;exact this
theorem qsc(hO:OddsOk ar L)(g:GoodL ar l){i:Nat}(hi:i<l.length){ws:List RV}(hl:ws.length=i):Pq.NodeAt L (wv ws) (pN l[i]):=by
 by_cases hn:l[i].var<0
 .exact .inl hn
 .obtain ⟨a1,a2⟩:=g.var i hi aa;obtain ⟨u,hu⟩:=nE (show 0<=l[i].var by omega);have oS:l[i].var.toNat=u:=aa;have lT:u<L.es.length:=by rw[hO.len];omega
  obtain ⟨r1,r2⟩:=hO.row u lT;rw[oS] at a2
  refine .inr ⟨u,lT,hu,r1,?_,fun k hk=>?_⟩
  .show l[i].kids.length=L.es[u].ns.length;omega
  .obtain ⟨t,et,ht,_⟩:=g.kid i hi aa k hk;rw[uo];omega
theorem X50(hO:OddsOk ar L)(Fc:L.fr=L)(g:GoodL ar l)(h1:∀x∈ar,1<=x/\x<=64)(c:Int)(hM:M=PM ar (bO L) ar.length 0)(h0:M≠0)(wF:M<4294967296^8)(fI:l.length<=4000){c12:Nat}{z:Bool}{o:Own}(x8:AV)(K:KT):∀(d i:Nat) (m:ai) (x:AV) (ws:List RV) (T:List Nat),i+d=l.length ->
  m.get c12=some (.B [L.av,NL z o l,x,.I c])->QR 43 (some 3) m x (ws.map RV.av) T->(∀t∈T,c12<t)->ws.length=i->(∀k (h:k<ws.length),WC M ws[k] (Hc ar (bO L) l c k)) ->
  ∃(m':ai) (x':AV) (ws':List RV) (T':List Nat),D8 (.I c) x8 (.ptr c12 0) (NL z o l) (.I l.length) (.I i) m K=K (.exit 0) (N3 x8 (.ptr c12 0) m')/\Fr m m' (c12::T)/\m'.get c12=some (.B [L.av,NL z o l,x',.I c])/\QR 43 (some 3) m' x' (ws'.map RV.av) T'/\(∀t∈T',c12<t)/\Gr m T T'/\ws'.length=l.length/\∀k (h:k<ws'.length),WC M ws'[k] (Hc ar (bO L) l c k):=by
 intro d
 induction d with
 | zero=>
  intro i m x ws T hi hg hw hT hl hws;refine ⟨m,x,ws,T,?_,Fr.refl _ _,hg,hw,hT,Gr.refl _ _,aa,hws⟩;rw[Uu,bz,ae,aC,an aa]
 | succ d ih=>
  intro i m x ws T hi hg hw hT hl hws;have cE:i<l.length:=aa;have uT:=bW hg;have bc:=g.ok _ (bA cE);have iy:=QA (z:=z) (o:=o) cE;have bx:=Jr l[i] m (JT m);have f4:Fr m (m++[some (Ent.B [.I l[i].var,fD l[i],.I l[i].leaf])]) []:=Fr.app m _ _
  have ld2:∀e,aj (some 3) ((m++[some (Ent.B [.I l[i].var,fD l[i],.I l[i].leaf])])++[e]) (.ptr m.length 0)=some l[i].av:=fun e=>by
   rw[fK,cK aA,cJ rfl];rfl
  generalize AI:m++[some (Ent.B [.I l[i].var,fD l[i],.I l[i].leaf])]=m4 at bx f4 ld2;have ZH:QR 43 (some 3) m4 x (ws.map RV.av) T:=RA hw fun t ht=>f4.get t (qs3 hw t ht) aA;have J6:m4.get c12=some (.B [L.av,NL z o l,x,.I c]):=by rw[f4.get _ uT aA];exact hg
  have PW:=bW J6
  have qq8:LOk 30 (wv ws):=qc4 fun r hr=>by
   obtain ⟨k,hk,rfl⟩:=vU.1 hr;exact ⟨(hws k hk).wv.ok.mono aa,(hws k hk).wv.fr⟩
  obtain ⟨sm,es,cs,fs⟩:=Pq.V110 c qq8 (qsc hO g cE hl);rw[KV bc] at es
  have hH:Pq.hasQ L (wv ws) c (pN l[i])=cT false (Hc ar (bO L) l c i) M:=YD hO g (fun x hx=>(h1 x hx).1) c hM h0 cE (n:=pN l[i]) rfl rfl rfl fun j hj=>by
   rw[Pq.wQ_get (by rw[uo];omega)];have q1:(wv ws).es[j]'(by rw[uo];omega)=ws[j]'(by omega):=by simp only[uo]
   rw[q1];exact (hws j (by omega)).wv.q
  rw[hH] at cs;have wsm:WC M sm (Hc ar (bO L) l c i):=Can.wc wF (by rw[hM];exact qdj l c i) cs fs
  have p110:aF (AP af) (some m4.length) (m4++[some .resv]) 110 [L.av,l[i].av,.I c,x]=some (sm.av,m4++[some .resv]):=by
   rw[qbt (Pq.fz_ol L) (qpB bc) (gJ _ _) (fun m=>Ya (k:=8) ZH),Fc,es];rfl
  obtain ⟨x6,m6,T6,ea,ZJ,f6,g6⟩:=qs2 (b:=56) ZH (by rw[bu];unfold ft;omega) sm.av;have qp3:c12∉T:=fun hh=>by have:=hT _ hh;omega
  have YW:m6.get c12=some (.B [L.av,NL z o l,x,.I c]):=by rw[f6.get _ PW qp3];exact J6
  obtain ⟨a1,a2⟩:=Rz ZJ;have st:=qtR YW a1 a2;have l4:=f4.len
  have JZ:∀t∈T6,c12<t:=fun t ht=>by
   rcases g6 t ht with hh|hh
   .exact hT t hh
   .omega
  have hw7:QR 43 (some 3) (m6.set c12 (some (.B [L.av,NL z o l,x6,.I c]))) x6 ((ws++[sm]).map RV.av) T6:=by
   have:=RA (m':=m6.set c12 (some (.B [L.av,NL z o l,x6,.I c]))) ZJ fun t ht=>cQ (by have:=JZ t ht;omega);rw[iH];exact this
  have f46:Fr m m6 (c12::T):=Fr.trans (f4.mono aA) f6 fun a ha=>.inl (fW _ ha);have f47:Fr m (m6.set c12 (some (.B [L.av,NL z o l,x6,.I c]))) (c12::T):=f46.set _ (.inl aA)
  obtain ⟨m',x',ws',T',e,k1,k2,k3,k4,k5,k6,k7⟩:=ih (i+1) (m6.set c12 (some (.B [L.av,NL z o l,x6,.I c]))) x6 (ws++[sm]) T6 aa (di rfl (bW YW)) hw7 JZ (by rw[aW,hl];rfl) (fun k hk=>by
   rw[List.getElem_append]
   split
   .exact hws k _
   .rename_i hh;rw[aW,vS] at hk;obtain rfl:k=i:=aa;simp only[hl,qn,List.getElem_singleton]
    exact wsm)
  have g7:Gr m T T6:=fun a ha=>by
   rcases g6 a ha with hh|hh
   .exact .inl hh
   .exact .inr aa
  refine ⟨m',x',ws',T',?_,Fr.trans f47 k1 (fun a ha=>?_),k2,k3,k4,Gr.trans f47.len g7 k5,k6,k7⟩
  .have q0:aj none (m4++[some .resv]) (.ptr c12 (0+0))=some L.av:=by rw[fK,cK PW,J6];rfl
   have q2:aj none (m4++[some .resv]) (.ptr c12 (0+2))=some x:=by rw[fK,cK PW,J6];rfl
   rw[Uu,bz,ae,aC,aq aa,iy,ae,A4,ae,mO,mO];dsimp only;rw[bx,ae,La,iL,ae,q2,ae,iL,ae,q0,ae,ld2,ae,ae,q2,ae,p110,ae];dsimp only;rw[qow fs,ae,ea,ae,ae];dsimp only;rw[st,ae,bU aa,ae];exact e
  .rcases gI.1 ha with rfl|ha
   .exact .inl aA
   .rcases g7 a ha with hh|hh
    .exact .inl (fW _ hh)
    .exact .inr hh
end
def fS(L:OL):OL:=⟨false,.no,L.es.map kG⟩
theorem Xu(L:OL):(fS L).fr=fS L:=rfl
theorem qoK(L:OL):(fS L).es.map Pq.IL.ns=L.es.map Pq.IL.ns:=by unfold fS;rw[sj];rfl
theorem yd(L:OL):bO (fS L)=bO L:=by funext u j;unfold bO;rw[qoK]
theorem Jz{ar:List Int}{L:OL}(h:OddsOk ar L):OddsOk ar (fS L):=by
 refine ⟨by unfold fS;rw[bu];exact h.len,fun u hu=>?_⟩;have lT:u<L.es.length:=by unfold fS at hu;simpa using hu
 have e:(fS L).es[u].ns=L.es[u].ns:=by
  have:(fS L).es[u]=kG L.es[u]:=tf ..;rw[this];rfl
 obtain ⟨a,b⟩:=h.row u lT;unfold Pq.RowOk at a ⊢;rw[e];exact ⟨a,b⟩
section
variable {s:Nat} {F:List Nat} {zs:Bool} {os:Own} {ar:List Int} {most:Int} {l:List ND}
abbrev cA(L:OL)(z:Bool)(o:Own)(l:List ND)(x:AV)(c:Int):AV:=.agg [L.av,NL z o l,x,.I c]
theorem Q6(m:ai):(az none m (.B [aD,aD,aD,.I 0])).2=m++[some (.B [aD,aD,aD,.I 0])]:=rfl
theorem Gi(m:ai):(az none m .resv).1=m.length:=rfl
theorem Lo{m:ai}{c:Nat}{e:List AV}{a b w:AV}{n:Int}(h:m.get c=some (.B e))(he:e.length=4)(ha:fG a=true/\a.cells=[a])(hb:fG b=true/\b.cells=[b])(hw:fG w=true/\w.cells=[w]):aP (some 4) m (.ptr c 0) (.agg [a,b,w,.I n])=some (m.set c (some (.B [a,b,w,.I n]))):=by
 rw[sa,h,mg,ae]
 have e1:dJ (some 4) (.agg [a,b,w,.I n])=true:=by
  simp[dJ,ha.1,hb.1,hw.1,OQ]
 have e2:AV.cells (.agg [a,b,w,.I n])=[a,b,w,.I n]:=rfl;have e3:e.drop 4=[]:=gU aa;simp[dz,Sh.size,he,e1,e2,b9,e3]
theorem QM{m:ai}{c:Nat}{a b w n:AV}(h:m.get c=some (.B [a,b,w,n])):aj (some 4) m (.ptr c 0)=some (.agg [a,b,w,n]):=by
 rw[fK,h];rfl
theorem qjj{m0:ai}(h0:dW m0 s F (IA zs os ar) most l)(hm:most≠0)(g:GoodL ar l)(fI:l.length<=4000)(h1:∀x∈ar,1<=x/\x<=64)(dQ:ar.length<=16){id:Nat}(hid:id<l.length)(sM:dR l (Vi l id [])=l){L:OL}(h64:∀r∈L.es,r.ns.length<=64)(mF:L.es.length<=40)(hz:∀r∈L.es,r.z=false)(Fc:L.fr=L)(hO:Pq.oddsB ⟨zs,os,ar⟩ L=true){c:Int}(hc:0<=c/\c<=2147483647) :
  ∃(m':ai) (tk:Nat) (x:AV) (ws:List RV) (T:List Nat),AC af 50 [.ptr s 0,.I id,L.av,.I c] m0=some (.tup [cA (fS L) false (.tok tk 74) l x c,.I 0],m')/\Fr m0 m' []/\QR 43 (some 3) m' x (ws.map RV.av) T/\(∀t∈T,m0.length<=t)/\ws.length=l.length/\∀k (h:k<ws.length),WC (PM ar (bO L) ar.length 0) ws[k] (Hc ar (bO L) l c k):=by
 have bc:=KP h64 hO;obtain ⟨rM,wF⟩:=El bc.all dQ;have f0:Fr m0 (m0++[some (Ent.B [aD,aD,aD,.I 0])]) []:=Fr.app m0 _ _;have h0':=h0.app f0;obtain ⟨m1,xw,En,Tw,e17,f1,_⟩:=qlB h0' hm g aa h1 dQ hid h64 mF hO;have f01:=Fr.trans f0 f1 fun _ h=>by cases h
 have l0:(m0++[some (Ent.B [aD,aD,aD,.I 0])]).length=m0.length+1:=aA;have l1:=f1.len;have hg8:m1.get m0.length=some (.B [aD,aD,aD,.I 0]):=by rw[f1.get _ aA aA,cJ rfl]
 have p109:aF (AP af) none m1 109 [L.av]=some ((fS L).av,m1):=by
  rw[cI (Pq.fz_ol L),Fc,qky (fun r hr=>⟨hz r hr,by have:=h64 r hr;omega⟩) aa];rfl
 have hb:fR (.agg [aD,aD,aD,.I 0]) [(0,none,(fS L).av),(3,none,.I c)]=some (.agg [(fS L).av,aD,aD,.I c]):=rfl
 have st1:aP (some 4) (m1++[some (.B [aD,aD,aD,.I 0])]) (.ptr m1.length 0) (.agg [(fS L).av,aD,aD,.I c])=some (m1++[some (.B [(fS L).av,aD,aD,.I c])]):=by
  rw[Lo (a:=(fS L).av) (b:=aD) (w:=aD) (n:=c) (cJ rfl) rfl ⟨rfl,rfl⟩ ⟨rfl,rfl⟩ ⟨rfl,rfl⟩,ue m1 _ _ rfl]
 have f2:Fr m0 (m1++[some (.B [(fS L).av,aD,aD,.I c])]) []:=f01.snoc _;have h2:=h0.app f2;have g2:(m1++[some (Ent.B [(fS L).av,aD,aD,.I c])]).get m1.length=some (.B [(fS L).av,aD,aD,.I c]):=cJ rfl;have l2:(m1++[some (Ent.B [(fS L).av,aD,aD,.I c])]).length=m1.length+1:=aA;generalize fT:m1++[some (Ent.B [(fS L).av,aD,aD,.I c])]=m2 at st1 f2 h2 g2 l2;obtain ⟨m3,y,Ty,e43,hn,f3⟩:=A25 h2 g aa hm hid;rw[sM] at hn;have hne:l≠[]:=fun e=>by subst e;simp at hid
 obtain ⟨tk,rfl⟩:=Re hn hne;have g3:m3.get m1.length=some (.B [(fS L).av,aD,aD,.I c]):=by rw[f3.get _ aa aA];exact g2
 have st3:aP none m3 (.ptr m1.length (0+1)) (NL false (.tok tk 74) l)=some (m3.set m1.length (some (.B [(fS L).av,NL false (.tok tk 74) l,aD,.I c]))):=by
  rw[sa,g3,mg,ae];simp[dz,Sh.size,dJ,fG,AV.cells,b9]
 have g3l:=bW g3;have f23:Fr m0 m3 []:=Fr.trans f2 f3 fun _ h=>by cases h
 have f4:Fr m0 (m3.set m1.length (some (.B [(fS L).av,NL false (.tok tk 74) l,aD,.I c]))) []:=f23.set _ (.inr aa);have g4:ai.get (m3.set m1.length (some (Ent.B [(fS L).av,NL false (.tok tk 74) l,aD,.I c]))) m1.length=some (.B [(fS L).av,NL false (.tok tk 74) l,aD,.I c]):=di rfl g3l;have l3:=f3.len;have ld1:aj none (m3.set m1.length (some (Ent.B [(fS L).av,NL false (.tok tk 74) l,aD,.I c]))) (.ptr m1.length (0+1))=some (NL false (.tok tk 74) l):=by rw[fK,g4];rfl
 generalize AI:m3.set m1.length (some (Ent.B [(fS L).av,NL false (.tok tk 74) l,aD,.I c]))=m4 at st3 f4 g4 ld1;have l4:m4.length=m3.length:=by rw[<- AI,il]
 have qqd:ai.get m4 m0.length=some (.B [aD,aD,aD,.I 0]):=by
  rw[<- AI,cQ aa,f3.get _ aa aA,<- fT,cK aa];exact hg8
 obtain ⟨m5,x5,ws,T,e9,f5,g5,ZI,_,gr5,hlen,hws⟩:=X50 (Jz bc) (Xu L) g h1 c (by rw[yd]) rM wF fI (c12:=m1.length) (z:=false) (o:=.tok tk 74) (.ptr m0.length 0) (Hu (aH f50)) l.length 0 m4 aD [] [] aa g4 .none aA rfl aA;have e9:D8 (.I c) (.ptr m0.length 0) (.ptr m1.length 0) (NL false (.tok tk 74) l) (.I l.length) (.I 0) m4 (Hu (aH f50))=_:=e9;rw[yd] at hws
 have g85:m5.get m0.length=some (.B [aD,aD,aD,.I 0]):=by
  rw[f5.get _ aa (by simp;omega)];exact qqd
 obtain ⟨a1,a2⟩:=Rz ZI;have st5:=Lo (a:=(fS L).av) (b:=NL false (.tok tk 74) l) (w:=x5) (n:=c) g85 rfl ⟨rfl,rfl⟩ ⟨rfl,rfl⟩ ⟨a1,a2⟩
 have f05:Fr m0 m5 []:=Fr.trans f4 f5 fun a ha=>by
  simp only[gI,zK,or_false] at ha;exact .inr aa
 refine ⟨m5.set m0.length (some (.B [(fS L).av,NL false (.tok tk 74) l,x5,.I c])),tk,x5,ws,T,?_,f05.set _ (.inr (aR _)),?_,?_,hlen,hws⟩
 .rw[T50,Q6,Gi,e17,ae,rI,ae,rJ,ae,gm,ae,aC,an aa,bz,ae,aC,an aa,gE,ae,aC,an aa,p109,ae];dsimp only;rw[hb,ae,Q6,Gi,st1,ae,e43,ae,rI,ae,rJ,ae,iL,ae];dsimp only;rw[st3,ae,ae,ld1,ae,qak,ae,e9,qhM,QM g5,ae,st5,ae,QM (di rfl (bW g85)),ae]
 .refine RA ZI fun t ht=>cQ ?_
  rcases gr5 t ht with h|h
  .cases h
  .omega
 .intro t ht
  rcases gr5 t ht with h|h
  .cases h
  .omega
end
end Go.Ab
namespace Go.Ab
open Go.Proofs Go.Proofs.Tryz
def pC(L:OL)(P:List ND)(V:LV)(c:Int):Pq.CV:=⟨L,⟨some 3,false,.no,P.map pN⟩,V,c⟩
theorem qbj{L:OL}{P:List ND}{V:LV}{c:Int}(h:∀n∈P,n.ok):(pC L P V c).av=cA L false .no P V.av c:=by
 have e:(P.map pN).map Pq.ND.av=P.map ND.av:=by
  rw[sj];exact List.map_congr_left fun n hn=>KV (h n hn)
 show AV.agg [L.av,.lst (some 3) false .no ((P.map pN).map Pq.ND.av),V.av,.I c]=_;rw[e]
section
variable {ar:List Int} {L:OL} {P:List ND} {V:LV} {c:Int}
theorem qrE(hO:OddsOk ar L):Pq.lens L=ar:=by
 refine List.ext_getElem (by unfold Pq.lens;rw[bu];exact hO.len) fun i h1 h2=>?_;have hi:i<L.es.length:=by rw[hO.len];exact h2
 have:=(hO.row i hi).2;rw[Pq.lens_get hi,this,aT,bP h2];rfl
theorem XY{f:Nat->Bool}:∀(j i:Nat),(∀k,i<=k->k<i+j->f k=true)->Pq.firstF f j i=none
 | 0,_,_=>rfl
 | j+1,i,h=>by
  rw[Pq.firstF,aq (h i (aR _) aa)];exact XY j (i+1) fun k h1 h2=>h k aa aa
theorem qtC(hO:OddsOk ar L)(dQ:ar.length<=16)(h1:∀x∈ar,1<=x/\x<=64)(hR:pq ar (P.map ke))(tz:0<P.length)(hc:0<=c/\c<=2147483647)(hlen:V.es.length=P.length)(hr:∀r∈V.es,kE r=true):Pq.shapedB (pC L P V c)=true:=by
 have Ze:=qrE hO
 have h64:∀r∈L.es,1<=r.ns.length/\r.ns.length<=64:=fun r hr=>by
  obtain ⟨i,hi,rfl⟩:=vU.1 hr;have hi2:i<ar.length:=by rw[<- hO.len];exact hi
  have:=(hO.row i hi).2;rw[aT,bP hi2,fk] at this;have:=h1 _ (bA hi2);omega
 have hb:Pq.oddsB (Pq.armsI (Pq.lens L)) L=true:=by
  have:=qsj (zs:=false) (os:=.no) (fun r hr=>(h64 r hr).2) hO;unfold Pq.oddsB at this ⊢;rw[Pq.armsI_ns,Ze];exact this
 have hn:Pq.nodesB (Pq.armsI (Pq.lens L)) (P.map pN)=true:=by
  unfold Pq.nodesB;rw[cD,bu];refine ⟨bM tz,Pq.allF_iff.2 fun k _ hk=>?_⟩;have hk:k<P.length:=aa;have e1:(P.map pN).getD k Pq.zN=pN P[k]:=by rw[aT,mS,bP hk];rfl
  have e2:=hR k (by rw[bu];exact hk);rw[B7 hk] at e2;rw[e1];unfold oD at e2;unfold Pq.nodeB;rw[Pq.armsI_ns,Ze];have ev:(ke P[k]).var=(pN P[k]).var:=rfl
  by_cases hv:(pN P[k]).var=-1
  .rw[aq (ev.trans hv)] at e2;rw[aq hv];have:=sS e2;exact bM ⟨by show P[k].kids.length=0;rw[show P[k].kids=[] from this.1];rfl,this.2⟩
  .rw[an (fun h=>hv (ev.symm.trans h)),cD] at e2;rw[an hv,cD];refine ⟨e2.1,gD.2 fun q hq=>?_⟩;have h2:=gD.1 e2.2 q hq;unfold kidB at h2;unfold Pq.kidB;rw[cD] at h2 ⊢;refine ⟨h2.1,?_⟩;have hlt:=sS h2.1;have ht:q.toNat<P.length:=aa
   have e3:Pq.varAt (P.map pN) q.toNat=P[q.toNat].var:=by
    unfold Pq.varAt;rw[aT,mS,mS,bP ht];rfl
   have h4:=sS h2.2;rw[B7 ht] at h4;rw[e3,BE]
   rcases h4 with h4|h4
   .exact .inl (bM (by have:P[q.toNat].var=-1:=h4;omega))
   .exact .inr (bM h4)
 unfold Pq.shapedB pC;dsimp only;rw[hb,hn];simp only[cD,dd,gD,oM];refine ⟨⟨by rw[hO.len];exact dQ,hc.1,hc.2,by rw[bu];exact hlen⟩,fun r h=>bM (h64 r h),hr⟩
theorem qsn(hO:OddsOk ar L)(g:GoodL ar P)(h1:∀x∈ar,1<=x/\x<=64){M:Nat}(hM:M=PM ar (bO L) ar.length 0)(h0:M≠0){i:Nat}(hi:i<P.length)(hw:∀j,j<i->Pq.wQ V j=cT false (Hc ar (bO L) P c j) M):Pq.okAt (pC L P V c) i=decide (Pq.wQ V i=cT false (Hc ar (bO L) P c i) M):=by
 have e1:(pC L P V c).nodes.es.getD i Pq.zN=pN P[i]:=by
  show (P.map pN).getD i Pq.zN=_;rw[aT,mS,bP hi];rfl
 unfold Pq.okAt;rw[e1,show (pC L P V c).ws=V from rfl,show (pC L P V c).odds=L from rfl,show (pC L P V c).leaf=c from rfl,YD hO g (fun x hx=>(h1 x hx).1) c hM h0 hi (n:=pN P[i]) rfl rfl rfl hw]
theorem Xs(hO:OddsOk ar L)(g:GoodL ar P)(dQ:ar.length<=16)(h1:∀x∈ar,1<=x/\x<=64)(hR:pq ar (P.map ke))(tz:0<P.length)(hc:0<=c/\c<=2147483647){M:Nat}(hM:M=PM ar (bO L) ar.length 0)(h0:M≠0)(hlen:V.es.length=P.length)(hws:∀k (h:k<V.es.length),WC M V.es[k] (Hc ar (bO L) P c k)) :
  Pq.checkE (pC L P V c)=0/\Pq.checkI (pC L P V c)=0/\Pq.checkQ (pC L P V c)=cT false (Hc ar (bO L) P c (P.length-1)) M:=by
 have hs:Pq.shapedB (pC L P V c)=true:=qtC hO dQ h1 hR tz hc hlen fun r hr=>by
  obtain ⟨i,hi,rfl⟩:=vU.1 hr;exact Xh (hws i hi).can
 have hq:∀k,k<P.length->Pq.wQ V k=cT false (Hc ar (bO L) P c k) M:=fun k hk=>by
  rw[Pq.wQ_get aa];exact (hws k (by omega)).wv.q
 have hf:Pq.firstF (Pq.okAt (pC L P V c)) (pC L P V c).nodes.es.length 0=none:=by
  refine XY _ _ fun k _ hk=>?_
  have hk:k<P.length:=by
   have e:(pC L P V c).nodes.es.length=P.length:=bu ..;omega
  rw[qsn hO g h1 hM h0 hk fun j hj=>hq j aa];exact bM (hq k hk)
 have hE:Pq.checkE (pC L P V c)=0:=by
  unfold Pq.checkE;rw[aq hs,hf]
 refine ⟨hE,?_,?_⟩
 .unfold Pq.checkI;rw[aq hs,hf]
 .unfold Pq.checkQ;rw[aq hE];have e:(pC L P V c).nodes.es.length=P.length:=bu ..;rw[e];exact hq _ aa
theorem qde(hO:OddsOk ar L)(dQ:ar.length<=16)(hP:P.length<=4000){M:Nat}(hlen:V.es.length=P.length)(hV:LOk 30 V):Pq.COk 30 (pC L P V c):=
 ⟨by rw[show (pC L P V c).odds=L from rfl,hO.len];omega,.inl rfl,by rw[show (pC L P V c).nodes.es.length=P.length from bu ..];exact hP,hV,by rw[show (pC L P V c).ws=V from rfl,hlen];exact hP⟩
end
end Go.Ab
namespace Go.Ab
noncomputable section
variable (a0 x1 x2 x3 x4 ji sg GU LZ xF qD:AV) (m:ai) (K:KT)
open Go.Proofs.Tryz
def N5:St:=⟨(aJ (x1::x2::x3::x4::bB (br (aK (aJ []))))),m⟩
def Im:OM:=bY 59 (b8 (c2 (c2 (aE f59)))) 3 (aJ (x1::x2::x3::x4::br (aO (ji::sg::GU::bC (br (aV (aO []))))))) m K
def N6:St:=⟨(aJ (x1::x2::x3::x4::bB (br (aK (aJ []))))),m⟩
def Io:OM:=bY 59 (b8 (c2 (c2 (c2 (aE f59))))) 8 (aJ (x1::x2::x3::x4::bC (aO (aK (aJ (LZ::xF::qD::bC (aV (aJ [])))))))) m K
abbrev qhW:KT:=bI 59 (c2 (c2 (c2 (aE f59)))) K
abbrev qhX:KT:=bw 0 (qhW K)
abbrev MO:KT:=(qhX K)
abbrev qhZ:KT:=bI 59 (bG (aE f59)) K
abbrev qh0:KT:=bw 2 (qhZ K)
abbrev MP:KT:=(qh0 K)
theorem T59:AC af 59 [a0] m=(dp none (some 4) m a0).bind fun r1=>(aL 0 r1.1).bind fun v2=>(aj none (bV (az none (az none r1.2 (.B [(.lst none true .full []),(.lst none true .full []),(.lst none true .full []),(.I 0)])).2 (.B [(.lst none true .full []),(.lst none true .full []),(.lst none true .full []),(.I 0)])).2 1) v2).bind fun v3=>(aL 0 r1.1).bind fun v4=>(aj none (bV (az none (az none r1.2 (.B [(.lst none true .full []),(.lst none true .full []),(.lst none true .full []),(.I 0)])).2 (.B [(.lst none true .full []),(.lst none true .full []),(.lst none true .full []),(.I 0)])).2 1) v4).bind fun v5=>(aM false v5).bind fun v6=>(oV false v6 (.I 40)).bind fun v7=>(gX none v3 none (some v7) none).bind fun v8=>(aL 3 r1.1).bind fun v9=>(aj none (bV (az none (az none r1.2 (.B [(.lst none true .full []),(.lst none true .full []),(.lst none true .full []),(.I 0)])).2 (.B [(.lst none true .full []),(.lst none true .full []),(.lst none true .full []),(.I 0)])).2 1) v9).bind fun v10=>(fR (.agg [(.lst none true .full []),(.lst none true .full []),(.lst none true .full []),(.I 0)]) [(0,none,v8),(3,none,v10)]).bind fun v11=>(aP (some 4) (az (some (az none (az none r1.2 (.B [(.lst none true .full []),(.lst none true .full []),(.lst none true .full []),(.I 0)])).2 (.B [(.lst none true .full []),(.lst none true .full []),(.lst none true .full []),(.I 0)])).2.length) (bV (az none (az none r1.2 (.B [(.lst none true .full []),(.lst none true .full []),(.lst none true .full []),(.I 0)])).2 (.B [(.lst none true .full []),(.lst none true .full []),(.lst none true .full []),(.I 0)])).2 1) (.B [(.lst none true .full []),(.lst none true .full []),(.lst none true .full []),(.I 0)])).2 (.ptr (az (some (az none (az none r1.2 (.B [(.lst none true .full []),(.lst none true .full []),(.lst none true .full []),(.I 0)])).2 (.B [(.lst none true .full []),(.lst none true .full []),(.lst none true .full []),(.I 0)])).2.length) (bV (az none (az none r1.2 (.B [(.lst none true .full []),(.lst none true .full []),(.lst none true .full []),(.I 0)])).2 (.B [(.lst none true .full []),(.lst none true .full []),(.lst none true .full []),(.I 0)])).2 1) .resv).1 0) v11).bind fun m12=>(aL 1 r1.1).bind fun bg=>(aj none m12 bg).bind fun bf=>(aL 1 r1.1).bind fun bh=>(aj none m12 bh).bind fun bK=>(aM false bK).bind fun bH=>(oV false bH (.I 120)).bind fun cV=>(gX (some 3) bf none (some cV) none).bind fun cP=>(aM false cP).bind fun v20=>Im r1.1 (.ptr (az none r1.2 .resv).1 0) (.ptr (az none (az none r1.2 (.B [(.lst none true .full []),(.lst none true .full []),(.lst none true .full []),(.I 0)])).2 .resv).1 0) (.ptr (az (some (az none (az none r1.2 (.B [(.lst none true .full []),(.lst none true .full []),(.lst none true .full []),(.I 0)])).2 (.B [(.lst none true .full []),(.lst none true .full []),(.lst none true .full []),(.I 0)])).2.length) (bV (az none (az none r1.2 (.B [(.lst none true .full []),(.lst none true .full []),(.lst none true .full []),(.I 0)])).2 (.B [(.lst none true .full []),(.lst none true .full []),(.lst none true .full []),(.I 0)])).2 1) .resv).1 0) cP v20 (.I 0) m12 (MO (aH f59)):=
(bm af 59 [a0] m (fn:=f59) (c:=aE f59) qnJ rfl).trans au
theorem Ux:Im x1 x2 x3 x4 ji sg GU m K=(ag .o .lss GU sg).bind fun v1=>aB v1 ((aI (some 3) ji GU).bind fun v2=>(aj (some 3) m v2).bind fun v3=>(aP (some 3) (az none m (.B [(.I 0),(.lst none true .full []),(.I 0)])).2 (.ptr (az none m .resv).1 0) v3).bind fun m4=>(aL 1 x4).bind fun v5=>(aj none m4 v5).bind fun v6=>(aj (some 3) m4 (.ptr (az none m .resv).1 0)).bind fun v7=>(df (some 3) [v7]).bind fun v8=>(bL none false 146 (some 3) 40 m4 v6 v8).bind fun r9=>(aL 1 x4).bind fun v10=>(aP none r9.2 v10 r9.1).bind fun m11=>(ag .o .add GU (.I 1)).bind fun v12=>Im x1 x2 x3 x4 ji sg v12 m11 K) (K (.exit 0) (N5 x1 x2 x3 x4 m)):=
(bX (bQ _) _ _ _).trans au
theorem Uy:Io x1 x2 x3 x4 LZ xF qD m K=(ag .o .lss qD xF).bind fun v1=>aB v1 ((aI (some 3) LZ qD).bind fun v2=>(aj (some 3) m v2).bind fun v3=>(aP (some 3) (az none m (.B [(.bool false),(.lst none true .full []),(.lst none true .full [])])).2 (.ptr (az none m .resv).1 0) v3).bind fun m4=>(aL 2 x4).bind fun v5=>(aj none (bV m4 1) v5).bind fun v6=>(aL 0 (.ptr (az none m .resv).1 0)).bind fun v7=>(aj none (bV m4 1) v7).bind fun v8=>(aL 1 (.ptr (az none m .resv).1 0)).bind fun v9=>(aj none (bV m4 1) v9).bind fun v10=>(aL 1 (.ptr (az none m .resv).1 0)).bind fun v11=>(aj none (bV m4 1) v11).bind fun v12=>(aM false v12).bind fun bg=>(oV false bg (.I 30)).bind fun bf=>(gX none v10 none (some bf) none).bind fun bh=>(aL 2 (.ptr (az none m .resv).1 0)).bind fun bK=>(aj none (bV m4 1) bK).bind fun bH=>(aL 2 (.ptr (az none m .resv).1 0)).bind fun cV=>(aj none (bV m4 1) cV).bind fun cP=>(aM false cP).bind fun v20=>(oV false v20 (.I 30)).bind fun v21=>(gX none bH none (some v21) none).bind fun v22=>(fR (.agg [(.bool false),(.lst none true .full []),(.lst none true .full [])]) [(0,none,v8),(1,none,bh),(2,none,v22)]).bind fun v23=>(df (some 3) [v23]).bind fun v24=>(bL (some m4.length) false 43 (some 3) 56 (bV m4 1) v6 v24).bind fun kC=>(aL 2 x4).bind fun v26=>(aP none kC.2 v26 kC.1).bind fun m27=>(ag .o .add qD (.I 1)).bind fun v28=>Io x1 x2 x3 x4 LZ xF v28 m27 K) (K (.exit 2) (N6 x1 x2 x3 x4 m)):=
(bX (bQ _) _ _ _).trans au
theorem qhY:MO (aH f59) (.exit 0) (N5 x1 x2 x3 x4 m)=(aL 2 x1).bind fun v1=>(aj none m v1).bind fun v2=>(aL 2 x1).bind fun v3=>(aj none m v3).bind fun v4=>(aM false v4).bind fun v5=>(oV false v5 (.I 120)).bind fun v6=>(gX (some 3) v2 none (some v6) none).bind fun v7=>(aM false v7).bind fun v8=>Io x1 x2 x3 x4 v7 v8 (.I 0) m (MP (aH f59)):=au
theorem qh1:MP (aH f59) (.exit 2) (N6 x1 x2 x3 x4 m)=(aL 0 x4).bind fun v1=>(aj none m v1).bind fun v2=>(aL 1 x1).bind fun v3=>(aj none m v3).bind fun v4=>(aL 1 x1).bind fun v5=>(aj none m v5).bind fun v6=>(aM false v6).bind fun v7=>(oV false v7 (.I 120)).bind fun v8=>(gX (some 3) v4 none (some v8) none).bind fun v9=>(aL 2 x4).bind fun v10=>(aj none m v10).bind fun v11=>(aL 3 x1).bind fun v12=>(aj none m v12).bind fun bg=>(fR (.agg [(.lst none true .full []),(.lst none true .full []),(.lst none true .full []),(.I 0)]) [(0,none,v2),(1,none,v9),(2,none,v11),(3,none,bg)]).bind fun bf=>(aj (some 4) m x4).bind fun bh=>(aP (some 4) m x2 bf).bind fun m16=>(aP (some 4) m16 x3 bh).bind fun m17=>ZQ (Gg x4 x2) ((aj (some 4) m17 x2).bind fun cV=>(aj (some 4) m17 x3).bind fun cP=>some ((.tup [cV,cP]),m17)):=au
end
end Go.Ab
namespace Go.Ab
theorem uP{m:ai}{k:Nat}{e:Option Ent}(h:m[k]?=some e):k<m.length:=(vQ.1 h).1
def nD(e:Nat)(sh:Sh)(m:ai)(v:AV)(es:List AV):Prop:=(v=aD/\es=[])\/(∃nm,v=.lst sh false (.tok nm e) es/\es≠[]/\m[nm]?=some (some (.tok es.length sh.size)))
def qjs(d:Option Nat)(m:ai):Prop:=match d with
 | none=>True
 | some k=>m[k]?=some (some .resv)
def zx(m m':ai):Prop:=m.length<=m'.length/\∀(n:Nat) (bx:Bool) (cs:List AV),m[n]?=some (some (Ent.obj bx cs))->m'[n]?=some (some (Ent.obj bx cs))
theorem nD.nil(e:Nat)(sh:Sh)(m:ai):nD e sh m aD []:=.inl ⟨rfl,rfl⟩
theorem nD.app{e:Nat}{sh:Sh}{m:ai}{v:AV}{es:List AV}(h:nD e sh m v es)(x:ai):nD e sh (m++x) v es:=by
 rcases h with h|⟨nm,h1,h2,h3⟩
 .exact .inl h
 .exact .inr ⟨nm,h1,h2,by rw[nZ (uP h3)];exact h3⟩
theorem nD.set{e:Nat}{sh:Sh}{m:ai}{v:AV}{es:List AV}(h:nD e sh m v es){n:Nat}{bx:Bool}{cs:List AV}(hn:m[n]?=some (some (.obj bx cs)))(x:Option Ent):nD e sh (m.set n x) v es:=by
 rcases h with h|⟨nm,h1,h2,h3⟩
 .exact .inl h
 .refine .inr ⟨nm,h1,h2,?_⟩;have hne:n≠nm:=fun e=>by rw[e,h3] at hn;cases hn
  rw[ql hne];exact h3
theorem grow{e:Nat}{sh sh':Sh}{d:Option Nat}{b:Nat}{m:ai}{v y:AV}{es:List AV}{z:Bool}{o:Own}(h:nD e sh m v es)(hd:qjs d m)(hlen:(es.length+1)*b<=ft) :
  ∃v' m',bL d false e sh b m v (.lst sh z o [y])=some (v',m')/\nD e sh m' v' (es++[y])/\zx m m':=by
 rcases h with ⟨rfl,rfl⟩|⟨nm,rfl,h2,h3⟩
 .have hl:1*b<=ft:=by simpa using hlen
  cases d with
  | none=>
   refine ⟨.lst sh false (.tok m.length e) [y],m++[some (.tok 1 sh.size)],?_,.inr ⟨m.length,rfl,aA,aA⟩,aA,?_⟩
   .simp only[bL,bo,ba,bq,hl,bJ,bF,az,or_true]
    rfl
   .intro n bx cs hn;rw[nZ (uP hn)];exact hn
  | some k=>
   have hk:m[k]?=some (some .resv):=hd
   refine ⟨.lst sh false (.tok k e) [y],m.set k (some (.tok 1 sh.size)),?_,.inr ⟨k,rfl,aA,by rw[qH (uP hk)];rfl⟩,aA,?_⟩
   .simp only[bL,bo,ba,bq,hl,bJ,bF,az,or_true]
    rfl
   .intro n bx cs hn;have hne:k≠n:=fun e=>by rw[<- e,hk] at hn;cases hn
    rw[ql hne];exact hn
 .have hg:m.get nm=some (.tok es.length sh.size):=by simp[ai.get,h3]
  refine ⟨.lst sh false (.tok nm e) (es++[y]),m.set nm (some (.tok (es.length+1) sh.size)),?_,.inr ⟨nm,rfl,aA,by rw[qH (uP h3)];simp⟩,aA,?_⟩
  .simp[bL,hg,hlen]
  .intro n bx cs hn;have hne:nm≠n:=fun e=>by rw[<- e,h3] at hn;cases hn
   rw[ql hne];exact hn
theorem zx.app(m e:ai):zx m (m++e):=⟨aA,fun n bx cs h=>by rw[nZ (uP h)];exact h⟩
theorem QW(a b:Nat):oV false (.I a) (.I b)=some (.I (min a b:Nat)):=by
 unfold oV;simp only[bJ]
 by_cases h:(b:Int)<a
 .simp only[h,bJ,jJ,lp];congr 2;omega
 .simp only[h,lp,jJ];congr 2;omega
theorem Lm{sh:Sh}{z:Bool}{o:Own}{es:List AV}{n:Nat}(h:n<=es.length):gX sh (.lst sh z o es) none (some (.I n)) none=some (.lst sh z .no (es.take n)):=by
 have e1:(0:Int)<=(n:Nat):=aa;have e2:((n:Nat):Int)<=es.length:=aa;have e3:((n:Nat):Int)<=(n:Nat):=aa;simp[gX,o0,je,e1,e2,e3]
end Go.Ab
namespace Go.Ab.Pq
open Go.Proofs.Tryz
theorem qa7{m:ai}{k j:Nat}{bx:Bool}{cs:List AV}{v:AV}(h:m[k]?=some (some (.obj bx cs)))(hj:cs[j]?=some v):aj none m (.ptr k j)=some v:=by
 simp[aj,oW h,kH,hj]
theorem qa8{m:ai}{k j:Nat}{bx:Bool}{cs:List AV}{v:AV}(h:m[k]?=some (some (.obj bx cs)))(hj:j<cs.length)(ha:fG v=true):aP none m (.ptr k j) v=some (m.set k (some (.obj bx (b9 cs j v.cells)))):=by
 simp only[aP,oW h,ae];rw[aq (by show j+1<=cs.length;omega),aq (show dJ none v=true from ha)]
def XN(x:NV):Prop:=(∀i,x.ds.getD i 0<4294967296)/\(x.z=true->x.ds=[])
def XR(r:RV):Prop:=XN r.num/\XN r.den
structure XC (c:CV):Prop where
 nsh:c.nodes.sh=some 3\/c.nodes.es=[]
 kids:∀n∈c.nodes.es,n.kids.fr=n.kids
 rows:∀l∈c.odds.es,l.fr=l
 wsh:c.ws.sh=some 3\/c.ws.es=[]
 ws:∀r∈c.ws.es,XR r
def cutN(x:NV):NV:=⟨x.z,.no,x.ds.take 30⟩
def cutW(r:RV):RV:=⟨r.neg,cutN r.num,cutN r.den⟩
theorem qoX(r:RV):(cutW r).fr=cutW r:=rfl
theorem JD{x:NV}(h:XN x):NOk (cutN x)/\(cutN x).ds.length<=30:=by
 refine ⟨⟨fun i=>?_,?_,fun hz=>?_⟩,?_⟩
 .show (x.ds.take 30).getD i 0<_;rw[aT]
  by_cases hi:i<30
  .rw[List.getElem?_take_of_lt hi,<- aT];exact h.1 i
  .rw[pk (by rw[im];omega)];exact (by omega:0<4294967296)
 .show (x.ds.take 30).length<_;rw[im];omega
 .show x.ds.take 30=[];rw[h.2 hz];rfl
 .show (x.ds.take 30).length<=30;rw[im];omega
theorem qoY{r:RV}(h:XR r):ROk 30 (cutW r):=⟨(JD h.1).1,(JD h.2).1,(JD h.1).2,(JD h.2).2⟩
theorem qcp(x:NV):gX none x.av none (some (.I ((min x.ds.length 30:Nat):Int))) none=some (cutN x).av:=by
 have:gX none (.lst none x.z x.o (x.ds.map dg)) none (some (.I ((min x.ds.length 30:Nat):Int))) none=some (.lst none x.z .no ((x.ds.map dg).take (min x.ds.length 30))):=Lm (by rw[bu];omega);refine this.trans ?_
 have e:(x.ds.map dg).take (min x.ds.length 30)=(x.ds.take 30).map dg:=by
  rw[qm,<- qm,<- qm];congr 1
  by_cases h:x.ds.length<=30
  .rw[Eg h,iX (aR _),iX h]
  .rw[Nat.min_eq_right aa]
 rw[e];rfl
theorem Sb{α:Type}(l:List α)(n:Nat):l.take (min l.length n)=l.take n:=by
 by_cases h:l.length<=n
 .rw[Eg h,iX (aR _),iX h]
 .rw[Nat.min_eq_right aa]
theorem qop(b:Bool)(x y:NV):fR (.agg [.bool false,.lst none true .full [],.lst none true .full []]) [(0,none,.bool b),(1,none,x.av),(2,none,y.av)]=some (RV.av ⟨b,x,y⟩):=rfl
def cB(a b c:AV)(leaf:Int):Option Ent:=some (.B [a,b,c,.I leaf])
structure SI (c:CV) (od v w:AV) (m:ai):Prop where
 g0:m[0]?=some (cC c)
 g1:m[1]?=some (cC zC)
 g2:m[2]?=some (cC zC)
 g3:m[3]?=some (cB od v w c.leaf)
theorem SI.kp{c:CV}{od v w:AV}{m m':ai}(h:SI c od v w m)(k:zx m m'):SI c od v w m':=⟨k.2 _ _ _ h.g0,k.2 _ _ _ h.g1,k.2 _ _ _ h.g2,k.2 _ _ _ h.g3⟩
theorem SI.put{c:CV}{od v w v' w':AV}{m:ai}(h:SI c od v w m):SI c od v' w' (m.set 3 (cB od v' w' c.leaf)):=by
 have hl:3<m.length:=uP h.g3
 refine ⟨?_,?_,?_,?_⟩
 .rw[ql aa];exact h.g0
 .rw[ql aa];exact h.g1
 .rw[ql aa];exact h.g2
 .rw[qH hl]
theorem Yl{e:Nat}{sh:Sh}{m:ai}{v:AV}{es:List AV}(h:nD e sh m v es):fG v=true/\v.cells=[v]:=by
 rcases h with ⟨rfl,_⟩|⟨nm,rfl,_⟩<;>exact ⟨rfl,rfl⟩
theorem qoz{n:ND}(h:n.kids.fr=n.kids):df (some 3) [n.av]=some (.lst (some 3) false .full [n.av]):=by
 obtain ⟨a,⟨z,o,ns⟩,b⟩:=n;have h:o.fr=o:=dc IL.o h
 cases o with
 | tok x y=>cases h
 | no=>rfl
 | full=>rfl
theorem Wv{c:CV}(hc:XC c)(od w:AV)(N:NL)(hN:N.sh=some 3\/N.es=[])(hk:∀n∈N.es,n.kids.fr=n.kids)(hlen:N.es.length<=120)(K:KT):∀(j i:Nat) (m:ai) (v:AV),i+j=N.es.length->SI c od v w m->nD 146 (some 3) m v ((N.es.take i).map ND.av) ->
  ∃m' v',SI c od v' w m'/\nD 146 (some 3) m' v' (N.es.map ND.av)/\Im (.ptr 0 0) (.ptr 1 0) (.ptr 2 0) (.ptr 3 0) N.av (.I N.es.length) (.I i) m K=K (.exit 0) (N5 (.ptr 0 0) (.ptr 1 0) (.ptr 2 0) (.ptr 3 0) m')
 | 0,i,m,v,iD,hs,hg=>⟨m,v,hs,by rw[iX aa] at hg;exact hg,by rw[Ux,bS,ae,aC,an aa]⟩
 | j+1,i,m,v,iD,hs,hg=>by
  have hi:i<N.es.length:=aa;have hb:=qoz (hk _ (bA hi));have jL:=hs.kp (zx.app m [cN N.es[i]]);obtain ⟨v',m1,a1,a2,a3⟩:=grow (d:=none) (b:=40) (y:=N.es[i].av) (z:=false) (o:=.full) (sh':=some 3) (hg.app [cN N.es[i]]) trivial (by rw[bu,im];simp only[ft];omega);have kM:=jL.kp a3
  have et:(N.es.take i).map ND.av++[N.es[i].av]=(N.es.take (i+1)).map ND.av:=by
   rw[mU hi,iH];rfl
  rw[et] at a2;have iC:=Yl a2;obtain ⟨m',v'',b1,b2,b3⟩:=Wv hc od w N hN hk hlen K j (i+1) (m1.set 3 (cB od v' w c.leaf)) v' aa (kM.put) (a2.set kM.g3 _);refine ⟨m',v'',b1,b2,?_⟩;have hp:b9 [od,v,w,.I c.leaf] 1 v'.cells=[od,v',w,.I c.leaf]:=by rw[iC.2];rfl
  have est:=qa8 kM.g3 (j:=1) (v:=v') aA iC.1;rw[hp] at est;rw[Ux,bS,ae,aC,aq hi,tZ hN hi,ae,w9,ae];simp only[mO,cr];rw[Bb,ae,cF,ae,qa7 jL.g3 (j:=1) (v:=v) rfl,ae,KO (x:=N.es[i]) oP,ae,hb,ae,a1,ae,ae,est,ae,bU aa,ae];exact b3
theorem Ww{c:CV}(hc:XC c)(od v:AV)(N:LV)(hN:N.sh=some 3\/N.es=[])(hx:∀r∈N.es,XR r)(hlen:N.es.length<=120)(ns:List AV)(K:KT):∀(j i:Nat) (m:ai) (w:AV),i+j=N.es.length->SI c od v w m->nD 43 (some 3) m w ((N.es.take i).map fun r=>(cutW r).av) ->
  ∃m' w',SI c od v w' m'/\nD 43 (some 3) m' w' (N.es.map fun r=>(cutW r).av)/\Io (.ptr 0 0) (.ptr 1 0) (.ptr 2 0) (.ptr 3 0) N.av (.I N.es.length) (.I i) m K=K (.exit 2) (N6 (.ptr 0 0) (.ptr 1 0) (.ptr 2 0) (.ptr 3 0) m')
 | 0,i,m,w,iD,hs,hg=>⟨m,w,hs,by rw[iX aa] at hg;exact hg,by rw[Uy,bS,ae,aC,an aa]⟩
 | j+1,i,m,w,iD,hs,hg=>by
  have hi:i<N.es.length:=aa;have hb:=Xg (qoX N.es[i]);have nR:=hs.kp (zx.app m [cR N.es[i]]);have jL:=nR.kp (zx.app (m++[cR N.es[i]]) [some .resv]);have gr:((m++[cR N.es[i]])++[some .resv])[m.length]?=some (cR N.es[i]):=qQ oP _;obtain ⟨w',m1,a1,a2,a3⟩:=grow (d:=some (m++[cR N.es[i]]).length) (b:=56) (y:=(cutW N.es[i]).av) (z:=false) (o:=.full) (sh':=some 3) ((hg.app [cR N.es[i]]).app [some .resv]) (by show _=_;exact oP) (by rw[bu,im];simp only[ft];omega);have kM:=jL.kp a3
  have et:(N.es.take i).map (fun r=>(cutW r).av)++[(cutW N.es[i]).av]=(N.es.take (i+1)).map (fun r=>(cutW r).av):=by
   rw[mU hi,iH];rfl
  rw[et] at a2;have iC:=Yl a2;obtain ⟨m',w'',b1,b2,b3⟩:=Ww hc od v N hN hx hlen ns K j (i+1) (m1.set 3 (cB od v w' c.leaf)) w' aa (kM.put) (a2.set kM.g3 _);refine ⟨m',w'',b1,b2,?_⟩;have hp:b9 [od,v,w,.I c.leaf] 2 w'.cells=[od,v,w',.I c.leaf]:=by rw[iC.2];rfl
  have est:=qa8 kM.g3 (j:=2) (v:=w') aA iC.1;rw[hp] at est
  have idx:aI (some 3) N.av (.I i)=some (.vptr (N.es[i].av).cells):=by
   have hN:N.sh=some 3:=hN.resolve_right (fun e=>by rw[e] at hi;simp at hi);simp[LV.av,aI,hN,hi]
  have m1':∀n:Nat,oV false (.I (n:Nat)) (.I 30)=some (.I (min n 30:Nat)):=fun n=>QW n 30;rw[Uy,bS,ae,aC,aq hi,idx,ae,xd,ae];simp only[p7,cr];rw[Gw,ae,cH,ae];simp only[dM];rw[qa7 jL.g3 (j:=2) (v:=w) rfl,ae,cG,ae,qtf gr,ae,cF,ae,Lb gr,ae,ae,Lb gr,ae,iz,ae,m1',ae,qcp,ae,cH,ae,Ld gr,ae,ae,Ld gr,ae,iz,ae,m1',ae,qcp,ae,qop,ae];rw[show (⟨N.es[i].neg,cutN N.es[i].num,cutN N.es[i].den⟩:RV)=cutW N.es[i] from rfl,hb,ae,a1,ae,ae,est,ae,bU aa,ae];exact b3
structure CutOf (c p:CV):Prop where
 fr:p.fr=p
 ok:COk 30 p
 odds:p.odds.es=c.odds.es.take 40
 nodes:p.nodes.es=c.nodes.es.take 120
 ws:p.ws.es=(c.ws.es.take 120).map cutW
 leaf:p.leaf=c.leaf
 kids:∀n∈p.nodes.es,n.kids.fr=n.kids
 rows:∀l∈p.odds.es,l.fr=l
theorem qpQ{m:ai}{v:AV}{l:List ND}(h:nD 146 (some 3) m v (l.map ND.av)):∃N:NL,v=N.av/\N.es=l/\(N.sh=some 3\/N.es=[])/\N.fr.fr=N.fr:=by
 rcases h with ⟨rfl,h⟩|⟨nm,rfl,_⟩
 .have:l=[]:=uA.1 h;subst this;exact ⟨⟨none,true,.full,[]⟩,rfl,rfl,.inr rfl,rfl⟩
 .exact ⟨⟨some 3,false,.tok nm 146,l⟩,rfl,rfl,.inl rfl,rfl⟩
theorem qpP{m:ai}{v:AV}{l:List RV}(h:nD 43 (some 3) m v (l.map RV.av)):∃N:LV,v=N.av/\N.es=l/\(N.sh=some 3\/N.es=[])/\(N.z=true->N.es=[])/\N.fr.fr=N.fr:=by
 rcases h with ⟨rfl,h⟩|⟨nm,rfl,_⟩
 .have:l=[]:=uA.1 h;subst this;exact ⟨⟨none,true,.full,[]⟩,rfl,rfl,.inr rfl,fun _=>rfl,rfl⟩
 .exact ⟨⟨some 3,false,.tok nm 43,l⟩,rfl,rfl,.inl rfl,(fun h=>by cases h),rfl⟩
theorem qpE(a b:CV):Fz (.tup [a.av,b.av]) (.tup [a.fr.av,b.fr.av]):=by
 intro m;have e:cq m kX (.tup [a.av,b.av])=(fU (cq m 8) [a.av,b.av]).map fun r=>(.tup r.1,r.2):=rfl;rw[e];simp[fU,PA a m 6,PA b m 6]
theorem qr8(m:ai)(n:Nat):az (some n) m (.B [.lst none true .full [],.lst none true .full [],.lst none true .full [],.I 0])=(n,m.set n (cC zC)):=rfl
theorem qr9(m:ai)(n:Nat):az (some n) m .resv=(n,m.set n (some .resv)):=rfl
theorem qtI(L:OL):gX none L.av none (some (.I ((min L.es.length 40:Nat):Int))) none=some (OL.av ⟨L.z,.no,L.es.take 40⟩):=by
 have:gX none (.lst none L.z L.o (L.es.map IL.av)) none (some (.I ((min L.es.length 40:Nat):Int))) none=some (.lst none L.z .no ((L.es.map IL.av).take (min L.es.length 40))):=Lm (by rw[bu];omega);refine this.trans ?_;rw[<- qm,Sb];rfl
theorem qtH(L:NL)(hs:L.sh=some 3\/L.es=[]):∃sh,(sh=some 3\/L.es.take 120=[])/\gX (some 3) L.av none (some (.I ((min L.es.length 120:Nat):Int))) none=some (NL.av ⟨sh,L.z,.no,L.es.take 120⟩):=by
 rcases hs with hs|hs
 .refine ⟨some 3,.inl rfl,?_⟩;have:gX (some 3) (.lst (some 3) L.z L.o (L.es.map ND.av)) none (some (.I ((min L.es.length 120:Nat):Int))) none=some (.lst (some 3) L.z .no ((L.es.map ND.av).take (min L.es.length 120))):=Lm (by rw[bu];omega);rw[<- qm,Sb] at this;obtain ⟨sh,z,o,es⟩:=L;simp only at hs;subst hs;exact this
 .obtain ⟨sh,z,o,es⟩:=L;simp only at hs;subst hs;refine ⟨sh,.inr rfl,?_⟩;simp[NL.av,gX,o0,je]
theorem qtG(L:LV)(hs:L.sh=some 3\/L.es=[]):∃sh,(sh=some 3\/L.es.take 120=[])/\gX (some 3) L.av none (some (.I ((min L.es.length 120:Nat):Int))) none=some (LV.av ⟨sh,L.z,.no,L.es.take 120⟩):=by
 rcases hs with hs|hs
 .refine ⟨some 3,.inl rfl,?_⟩;have:gX (some 3) (.lst (some 3) L.z L.o (L.es.map RV.av)) none (some (.I ((min L.es.length 120:Nat):Int))) none=some (.lst (some 3) L.z .no ((L.es.map RV.av).take (min L.es.length 120))):=Lm (by rw[bu];omega);rw[<- qm,Sb] at this;obtain ⟨sh,z,o,es⟩:=L;simp only at hs;subst hs;exact this
 .obtain ⟨sh,z,o,es⟩:=L;simp only at hs;subst hs;refine ⟨sh,.inr rfl,?_⟩;simp[LV.av,gX,o0,je]
theorem qoo(a:AV)(n:Int)(ha:fG a=true):fR (.agg [.lst none true .full [],.lst none true .full [],.lst none true .full [],.I 0]) [(0,none,a),(3,none,.I n)]=some (.agg (a.cells++[.lst none true .full [],.lst none true .full [],.I n])):=by
 cases a<;>first|rfl|(simp[fG] at ha)
theorem V59{c:CV}(hc:XC c):∃p r:CV,AP af 59 [c.av]=some (.tup [p.av,r.av])/\CutOf c p/\CutOf c r:=by
 have start:AC af 59 [c.av] []=AC af 59 [c.av] []:=rfl;obtain ⟨sh1,Zx,en⟩:=qtH c.nodes hc.nsh;obtain ⟨sh2,qqW,ew⟩:=qtG c.ws hc.wsh;have m40:oV false (.I (c.odds.es.length:Nat)) (.I 40)=some (.I (min c.odds.es.length 40:Nat)):=QW _ 40;have m120:∀n:Nat,oV false (.I (n:Nat)) (.I 120)=some (.I (min n 120:Nat)):=fun n=>QW n 120;have g0:∀M:ai,(cC c::M)[0]?=some (cC c):=fun _=>rfl
 conv at start=>rhs;rw[T59,ya,ae]
 simp only[KN,cr,dM,qr8,qr9,bo,bF,ba,b6,bq,Nat.reduceAdd,dO,cW,cG,cF,cH,yi] at start;rw[ae,qO (g0 _),ae,ae,qO (g0 _),ae,len_ol,ae,m40,ae,qtI,ae,ae,uK (g0 _),ae,qoo _ _ rfl,ae] at start;have st:aP (some 4) [cC c,cC zC,cC zC,cC zC] (.ptr 3 0) (.agg ((OL.av ⟨c.odds.z,.no,c.odds.es.take 40⟩).cells++[.lst none true .full [],.lst none true .full [],.I c.leaf]))=some [cC c,cC zC,cC zC,cB (OL.av ⟨c.odds.z,.no,c.odds.es.take 40⟩) (.lst none true .full []) (.lst none true .full []) c.leaf]:=rfl;rw[st,ae,ae,pU (g0 _),ae,ae,pU (g0 _),ae,ov,ae,m120,ae,en,ae,ov,ae] at start;obtain ⟨m1,v1,s1,g1,e1⟩:=Wv hc (OL.av ⟨c.odds.z,.no,c.odds.es.take 40⟩) (.lst none true .full []) ⟨sh1,c.nodes.z,.no,c.nodes.es.take 120⟩ Zx (fun n hn=>hc.kids n (uC hn)) (by show (c.nodes.es.take 120).length<=120;rw[im];omega) (MO (aH f59)) (c.nodes.es.take 120).length 0 [cC c,cC zC,cC zC,cB (OL.av ⟨c.odds.z,.no,c.odds.es.take 40⟩) (.lst none true .full []) (.lst none true .full []) c.leaf] (.lst none true .full []) aA ⟨rfl,rfl,rfl,rfl⟩ (nD.nil _ _ _);rw[show (((0:Nat):Int))=(0:Int) from rfl] at e1;rw[e1,qhY,cH,ae,qs s1.g0,ae,ae,qs s1.g0,ae,w8,ae,m120,ae,ew,ae,w8,ae] at start;obtain ⟨m2,w2,s2,g2,e2⟩:=Ww hc (OL.av ⟨c.odds.z,.no,c.odds.es.take 40⟩) v1 ⟨sh2,c.ws.z,.no,c.ws.es.take 120⟩ qqW (fun r hr=>hc.ws r (uC hr)) (by show (c.ws.es.take 120).length<=120;rw[im];omega) [] (MP (aH f59)) (c.ws.es.take 120).length 0 m1 (.lst none true .full []) aA s1 (nD.nil _ _ _);have e2:_=_:=e2;rw[show (((0:Nat):Int))=(0:Int) from rfl] at e2;obtain ⟨N,rfl,PL,ym,hN3⟩:=qpQ g1;have g2':nD 43 (some 3) m2 w2 (((c.ws.es.take 120).map cutW).map RV.av):=by rw[sj];exact g2
 obtain ⟨W,rfl,hW1,hW2,hW4,Yy⟩:=qpP g2';have q3:m2[3]?=some (cC ⟨⟨c.odds.z,.no,c.odds.es.take 40⟩,N,W,c.leaf⟩):=s2.g3;have l1:1<m2.length:=uP s2.g1;have l2:2<m2.length:=uP s2.g2
 let p:CV:=⟨⟨c.odds.z,.no,c.odds.es.take 40⟩,⟨sh1,c.nodes.z,.no,c.nodes.es.take 120⟩,W,c.leaf⟩
 let r:CV:=⟨⟨c.odds.z,.no,c.odds.es.take 40⟩,N,W,c.leaf⟩
 have k2:(m2.set 1 (cC p))[2]?=some (cC zC):=by rw[ql aa];exact s2.g2
 have k3:((m2.set 1 (cC p)).set 2 (cC r))[1]?=some (cC p):=by rw[ql aa,qH l1]
 have k4:((m2.set 1 (cC p)).set 2 (cC r))[2]?=some (cC r):=by rw[qH (by rw[il];exact l2)]
 have bp:fR (.agg [.lst none true .full [],.lst none true .full [],.lst none true .full [],.I 0]) [(0,none,OL.av ⟨c.odds.z,.no,c.odds.es.take 40⟩),(1,none,NL.av ⟨sh1,c.nodes.z,.no,c.nodes.es.take 120⟩),(2,none,W.av),(3,none,.I c.leaf)]=some p.av:=rfl;have nm:Gg (.ptr 3 0) (.ptr 1 0)=true:=rfl;rw[e2,qh1,cG,ae,qO q3,ae,cF,ae,pU s2.g0,ae,ae,pU s2.g0,ae,ov,ae,m120,ae,en,ae,cH,ae,qs q3,ae,yi,ae,uK s2.g0,ae,bp,ae,uL q3,ae,JC (y:=p) s2.g1,ae,JC (y:=r) k2,ae,nm,ZQ,uL k3,ae,uL k4,ae] at start
 have okW:LOk 30 W.fr:=⟨hW2,hW4,fun t ht=>by
  have ht:t∈W.es:=ht;rw[hW1] at ht;obtain ⟨a,_,rfl⟩:=iw.1 ht
  rfl,fun t ht=>by
  have ht:t∈W.es:=ht;rw[hW1] at ht;obtain ⟨a,ha,rfl⟩:=iw.1 ht
  exact qoY (hc.ws a (uC ha))⟩
 have lW:W.es.length<=4000:=by rw[hW1,bu,im];omega
 have lO:(c.odds.es.take 40).length<=40:=by rw[im];omega
 have lN:(c.nodes.es.take 120).length<=4000:=by rw[im];omega
 have Zb:∀n∈c.nodes.es.take 120,n.kids.fr=n.kids:=fun n hn=>hc.kids n (uC hn);have AT:∀l∈c.odds.es.take 40,l.fr=l:=fun n hn=>hc.rows n (uC hn)
 refine ⟨p.fr,r.fr,cw _ _ (qpE p r) rfl start,⟨?_,⟨lO,Zx,lN,okW,lW⟩,rfl,rfl,hW1,rfl,Zb,AT⟩,⟨?_,⟨lO,ym,by show N.es.length<=4000;rw[PL];exact lN,okW,lW⟩,rfl,PL,hW1,rfl,by intro n hn;have hn:n∈N.es:=hn;rw[PL] at hn;exact Zb n hn,AT⟩⟩
 .show (⟨_,_,W.fr.fr,_⟩:CV)=⟨_,_,W.fr,_⟩;rw[Yy];rfl
 .show (⟨_,N.fr.fr,W.fr.fr,_⟩:CV)=⟨_,N.fr,W.fr,_⟩;rw[Yy,hN3];rfl
end Go.Ab.Pq
namespace Go.Ab
noncomputable section
variable (a0 a1 a2 x0 x1 x2 x3 x4 x5 x6 aN aX aS aY aZ fH c9 fw LX Dx:AV) (m:ai) (K:KT)
open Go.Proofs.Tryz
theorem qjJ:AC af 120 [a0,a1] m=(dp none (some 4) m a0).bind fun r1=>(dp none (some 4) r1.2 a1).bind fun r2=>(aL 0 r1.1).bind fun v3=>(aj none r2.2 v3).bind fun v4=>(aL 0 r2.1).bind fun v5=>(aj none r2.2 v5).bind fun v6=>(aF (AP af) none r2.2 158 [v4,v6,(.fn 159 [])]).bind fun r7=>aB r7.1 ((aL 1 r1.1).bind fun v8=>(aj none r7.2 v8).bind fun v9=>(aL 1 r2.1).bind fun v10=>(aj none r7.2 v10).bind fun v11=>(aF (AP af) none r7.2 160 [v9,v11,(.fn 161 [])]).bind fun jV=>some (jV.1,jV.2)) (some ((.bool false),r7.2)):=
(bm af 120 [a0,a1] m (fn:=f120) (c:=aE f120) qmm rfl).trans au
def Nw:St:=⟨(bC []),m⟩
def Oo:St:=⟨(aO (aK (x6::br (aV (aJ []))))),m⟩
def H2:OM:=bY 158 (b8 (c2 (c2 (aE f158)))) 4 (aJ (x1::x2::aV (aO (fH::c9::fw::aV (aO (aK [])))))) m K
abbrev qfp:KT:=bI 158 (c2 (c2 (c2 (aE f158)))) K
abbrev qfq:KT:=bw 0 (qfp K)
abbrev Ms:KT:=(qfq K)
theorem qka:AC af 158 [a0,a1,a2] m=(aM false a0).bind fun v1=>(aM false a1).bind fun v2=>(ag .o .neq v1 v2).bind fun v3=>aB v3 (some ((.bool false),m)) ((aM false a0).bind fun v4=>H2 a1 a2 a0 v4 (.I 0) m (Ms (aH f158))):=
(bm af 158 [a0,a1,a2] m (fn:=f158) (c:=aE f158) qmU rfl).trans au
theorem TL:H2 x1 x2 fH c9 fw m K=(ag .o .lss fw c9).bind fun v1=>aB v1 ((aI none fH fw).bind fun v2=>(aj none m v2).bind fun v3=>(aI none x1 fw).bind fun v4=>(aj none m v4).bind fun v5=>(kI x2).bind fun g6=>jZ af 158 (AP af) (AC af) none g6.1 ([v3,v5]++g6.2) m fun v7 m8=>(gH .not v7).bind fun v9=>aB v9 (K .ret (Oo (.bool false) m8)) ((ag .o .add fw (.I 1)).bind fun v10=>H2 x1 x2 fH c9 v10 m8 K)) (K (.exit 0) (Nw m)):=
(bX (bQ _) _ _ _).trans au
theorem qfs:Ms (aH f158) (.exit 0) (Nw  m)=some ((.bool true),m):=au
theorem qfr:Ms (aH f158) .ret (Oo x6 m)=some (x6,m):=au
def Nx:St:=⟨(br (aV (aK []))),m⟩
def Oq:St:=⟨(aO (x4::br (aO (aJ [])))),m⟩
def H3:OM:=bY 159 (b8 (c2 (c2 (aE f159)))) 4 (x0::x1::aV (aK (aS::aY::aV (aO [])))) m K
abbrev qft:KT:=bI 159 (c2 (c2 (c2 (aE f159)))) K
abbrev qfu:KT:=bw 0 (qft K)
abbrev Mt:KT:=(qfu K)
theorem qkb:AC af 159 [a0,a1] m=(aM false a0).bind fun v1=>(aM false a1).bind fun v2=>(ag .o .neq v1 v2).bind fun v3=>aB v3 (some ((.bool false),m)) ((aM false a0).bind fun v4=>H3 a0 a1 v4 (.I 0) m (Mt (aH f159))):=
(bm af 159 [a0,a1] m (fn:=f159) (c:=aE f159) qmV rfl).trans au
theorem TM:H3 x0 x1 aS aY m K=(ag .o .lss aY aS).bind fun v1=>aB v1 ((aI none x0 aY).bind fun v2=>(aj none m v2).bind fun v3=>(aI none x1 aY).bind fun v4=>(aj none m v4).bind fun v5=>(ag .o .neq v3 v5).bind fun v6=>aB v6 (K .ret (Oq (.bool false) m)) ((ag .o .add aY (.I 1)).bind fun v7=>H3 x0 x1 aS v7 m K)) (K (.exit 0) (Nx m)):=
(bX (bQ _) _ _ _).trans au
theorem qfw:Mt (aH f159) (.exit 0) (Nx  m)=some ((.bool true),m):=au
theorem qfv:Mt (aH f159) .ret (Oq x4 m)=some (x4,m):=au
def Ny:St:=⟨(bC []),m⟩
def IX:St:=⟨(aO (aK (x6::br (aV (aJ []))))),m⟩
def BN:OM:=bY 160 (b8 (c2 (c2 (aE f160)))) 4 (aJ (x1::x2::aV (aO (fH::c9::fw::aV (aO (aK [])))))) m K
abbrev qfx:KT:=bI 160 (c2 (c2 (c2 (aE f160)))) K
abbrev qfy:KT:=bw 0 (qfx K)
abbrev Hg:KT:=(qfy K)
theorem Vm:AC af 160 [a0,a1,a2] m=(aM false a0).bind fun v1=>(aM false a1).bind fun v2=>(ag .o .neq v1 v2).bind fun v3=>aB v3 (some ((.bool false),m)) ((aM false a0).bind fun v4=>BN a1 a2 a0 v4 (.I 0) m (Hg (aH f160))):=
(bm af 160 [a0,a1,a2] m (fn:=f160) (c:=aE f160) qmW rfl).trans au
theorem TN:BN x1 x2 fH c9 fw m K=(ag .o .lss fw c9).bind fun v1=>aB v1 ((aI (some 3) fH fw).bind fun v2=>(aj (some 3) m v2).bind fun v3=>(aP (some 3) (az none m (.B [(.I 0),(.lst none true .full []),(.I 0)])).2 (.ptr (az none m .resv).1 0) v3).bind fun m4=>(aI (some 3) x1 fw).bind fun v5=>(aj (some 3) m4 v5).bind fun v6=>(aP (some 3) (az none m4 (.B [(.I 0),(.lst none true .full []),(.I 0)])).2 (.ptr (az none m4 .resv).1 0) v6).bind fun m7=>(aj (some 3) m7 (.ptr (az none m .resv).1 0)).bind fun v8=>(aj (some 3) m7 (.ptr (az none m4 .resv).1 0)).bind fun v9=>(kI x2).bind fun g10=>jZ af 160 (AP af) (AC af) none g10.1 ([v8,v9]++g10.2) m7 fun v11 m12=>(gH .not v11).bind fun bg=>aB bg (K .ret (IX (.bool false) m12)) ((ag .o .add fw (.I 1)).bind fun bf=>BN x1 x2 fH c9 bf m12 K)) (K (.exit 0) (Ny m)):=
(bX (bQ _) _ _ _).trans au
theorem qfA:Hg (aH f160) (.exit 0) (Ny  m)=some ((.bool true),m):=au
theorem qfz:Hg (aH f160) .ret (IX x6 m)=some (x6,m):=au
theorem qkc:AC af 161 [a0,a1] m=(dp none (some 3) m a0).bind fun r1=>(dp none (some 3) r1.2 a1).bind fun r2=>(aL 0 r1.1).bind fun v3=>(aj none r2.2 v3).bind fun v4=>(aL 0 r2.1).bind fun v5=>(aj none r2.2 v5).bind fun v6=>(ag .o .eql v4 v6).bind fun v7=>aB v7 ((aL 2 r1.1).bind fun v8=>(aj none r2.2 v8).bind fun v9=>(aL 2 r2.1).bind fun v10=>(aj none r2.2 v10).bind fun v11=>(ag .o .eql v9 v11).bind fun v12=>aB v12 ((aL 1 r1.1).bind fun bg=>(aj none r2.2 bg).bind fun bf=>(aL 1 r2.1).bind fun bh=>(aj none r2.2 bh).bind fun bK=>(aF (AP af) none r2.2 159 [bf,bK]).bind fun nw=>some (nw.1,nw.2)) (some ((.bool false),r2.2))) (some ((.bool false),r2.2)):=
(bm af 161 [a0,a1] m (fn:=f161) (c:=aE f161) qmX rfl).trans au
def N7:St:=⟨(aK (aJ (x3::bC (br (aO (aJ [])))))),m⟩
def Es:St:=⟨(aK (x2::bC (br (aO (aK []))))),m⟩
def xN:OM:=bY 60 (b8 (c2 (c2 (aE f60)))) 3 (x0::aK (x3::aO (aK (aN::aX::aS::bC (aV (aO [])))))) m K
abbrev qh2:KT:=bI 60 (c2 (c2 (c2 (aE f60)))) K
abbrev qh3:KT:=bw 0 (qh2 K)
abbrev Hw:KT:=(qh3 K)
theorem T60:AC af 60 [a0] m=(aF (AP af) none m 114 []).bind fun r1=>(aP (some 3) (az none r1.2 (.B [(.bool false),(.lst none true .full []),(.lst none true .full [])])).2 (.ptr (az none r1.2 .resv).1 0) r1.1).bind fun m2=>(aM false a0).bind fun v3=>xN a0 (.ptr (az none r1.2 .resv).1 0) a0 v3 (.I 0) m2 (Hw (aH f60)):=
(bm af 60 [a0] m (fn:=f60) (c:=aE f60) qnK rfl).trans au
theorem Uz:xN x0 x3 aN aX aS m K=(ag .o .lss aS aX).bind fun v1=>aB v1 ((aI (some 4) aN aS).bind fun v2=>(aj (some 4) m v2).bind fun v3=>(aP (some 4) (az none m (.B [(.lst none true .full []),(.lst none true .full []),(.lst none true .full []),(.I 0)])).2 (.ptr (az none m .resv).1 0) v3).bind fun m4=>(aj (some 4) m4 (.ptr (az none m .resv).1 0)).bind fun v5=>(aF (AP af) none m4 53 [v5]).bind fun r6=>(a8 r6.1 0).bind fun v7=>(a8 r6.1 1).bind fun v8=>(a8 r6.1 2).bind fun v9=>(aP (some 3) (az none r6.2 (.B [(.bool false),(.lst none true .full []),(.lst none true .full [])])).2 (.ptr (az none r6.2 .resv).1 0) v7).bind fun m10=>(ag .o .neq v9 (.I 0)).bind fun v11=>aB v11 (K .ret (Es (.bool false) m10)) ((ag .o .gtr aS (.I 0)).bind fun v12=>aB v12 ((ag .o .sub aS (.I 1)).bind fun bg=>(aI (some 4) x0 bg).bind fun bf=>(aj (some 4) m10 bf).bind fun bh=>(aj (some 4) m10 (.ptr (az none m .resv).1 0)).bind fun bK=>(aF (AP af) (some m10.length) m10 120 [bh,bK]).bind fun nw=>(gH .not nw.1).bind fun cV=>aB cV (K .ret (Es (.bool false) nw.2)) ((ag .o .sub aS (.I 1)).bind fun cP=>(aI (some 4) x0 cP).bind fun v20=>(aL 3 v20).bind fun v21=>(aj none nw.2 v21).bind fun v22=>(aL 3 (.ptr (az none m .resv).1 0)).bind fun v23=>(aj none nw.2 v23).bind fun v24=>(ag .o .geq v22 v24).bind fun v25=>aB v25 (K .ret (Es (.bool false) nw.2)) ((aj (some 3) nw.2 x3).bind fun v26=>(aj (some 3) nw.2 (.ptr (az none r6.2 .resv).1 0)).bind fun iR=>(aF (AP af) none nw.2 71 [v26,iR]).bind fun yV=>(aP (some 3) yV.2 x3 yV.1).bind fun m29=>(ag .o .add aS (.I 1)).bind fun v30=>xN x0 x3 aN aX v30 m29 K))) ((aj (some 3) m10 x3).bind fun v31=>(aj (some 3) m10 (.ptr (az none r6.2 .resv).1 0)).bind fun jN=>(aF (AP af) none m10 71 [v31,jN]).bind fun yW=>(aP (some 3) yW.2 x3 yW.1).bind fun m34=>(ag .o .add aS (.I 1)).bind fun kF=>xN x0 x3 aN aX kF m34 K))) (K (.exit 0) (N7 x3 m)):=
(bX (bQ _) _ _ _).trans au
theorem qh5:Hw (aH f60) (.exit 0) (N7 x3 m)=(aj (some 3) m x3).bind fun v1=>(aF (AP af) (some m.length) m 64 []).bind fun r2=>(aF (AP af) (some m.length) r2.2 113 [v1,r2.1]).bind fun r3=>some (r3.1,r3.2):=au
theorem qh4:Hw (aH f60) .ret (Es x2 m)=some (x2,m):=au
def Nk:St:=⟨(bC (br (aO (aJ [])))),m⟩
def IV:St:=⟨(aO (x4::bC (br []))),m⟩
def HO:OM:=bY 122 (b8 (c2 (c2 (aE f122)))) 4 (x0::x1::aV (aK (aJ (aY::aZ::bC (aO (aK [])))))) m K
def Nl:St:=⟨(x0::x1::aV (aK (aJ (aY::aZ::bC (aO (aK [])))))),m⟩
def Om:St:=⟨(aO (x4::bC (br []))),m⟩
def HP:OM:=bY 122 (rH (uN (uN (c1 (c2 (c2 (aE f122))))))) 9 (x0::x1::aK (aJ (x5::aO (aK (aJ (aY::aZ::br (aJ (LX::Dx::br (aK (aJ [])))))))))) m K
abbrev qeg:KT:=bI 122 (c2 (c2 (c2 (aE f122)))) K
abbrev qeh:KT:=bw 0 (qeg K)
abbrev Mk:KT:=(qeh K)
abbrev qek:KT:=bI 122 (ma (nM (c2 (aE f122)))) (nU 122 (b8 (c2 (c2 (aE f122)))) 4 K)
abbrev qel:KT:=bw 1 (qek K)
abbrev qem:KT:=bw 2 (qel K)
abbrev G9:KT:=(qem K)
theorem qjL:AC af 122 [a0,a1] m=(aM false a0).bind fun v1=>(aM false a1).bind fun v2=>(ag .o .neq v1 v2).bind fun v3=>aB v3 (some ((.bool false),m)) ((aM false a0).bind fun v4=>HO a0 a1 v4 (.I 0) m (Mk (aH f122))):=
(bm af 122 [a0,a1] m (fn:=f122) (c:=aE f122) qmo rfl).trans au
theorem To:HO x0 x1 aY aZ m K=(ag .o .lss aZ aY).bind fun v1=>aB v1 ((aI none x0 aZ).bind fun v2=>(aj none m v2).bind fun v3=>(aM false v3).bind fun v4=>(aI none x1 aZ).bind fun v5=>(aj none m v5).bind fun v6=>(aM false v6).bind fun v7=>(ag .o .neq v4 v7).bind fun v8=>aB v8 (K .ret (IV (.bool false) m)) ((aI none x0 aZ).bind fun v9=>(aj none m v9).bind fun v10=>(aM false v10).bind fun v11=>HP x0 x1 aZ aY aZ v11 (.I 0) m (G9 K))) (K (.exit 0) (Nk m)):=
(bX (bQ _) _ _ _).trans au
theorem Tp:HP x0 x1 x5 aY aZ LX Dx m K=(ag .o .lss Dx LX).bind fun v1=>aB v1 ((aI none x0 x5).bind fun v2=>(aj none m v2).bind fun v3=>(aI none v3 Dx).bind fun v4=>(aj none m v4).bind fun v5=>(aI none x1 x5).bind fun v6=>(aj none m v6).bind fun v7=>(aI none v7 Dx).bind fun v8=>(aj none m v8).bind fun v9=>(ag .o .neq v5 v9).bind fun v10=>aB v10 (K .ret (Om (.bool false) m)) ((ag .o .add Dx (.I 1)).bind fun v11=>HP x0 x1 x5 aY aZ LX v11 m K)) (K (.exit 2) (Nl x0 x1 aY aZ m)):=
(bX (bQ _) _ _ _).trans au
theorem qej:Mk (aH f122) (.exit 0) (Nk  m)=some ((.bool true),m):=au
theorem qei:Mk (aH f122) .ret (IV x4 m)=some (x4,m):=au
theorem qeo:G9 K (.exit 2) (Nl x0 x1 aY aZ m)=(ag .o .add aZ (.I 1)).bind fun v1=>HO x0 x1 aY v1 m K:=au
theorem qen:G9 K .ret (Om x4 m)=K .ret (IV x4 m):=au
def N8:St:=⟨(aK (aJ (x3::bC (br (aV (aO (aK (aJ [])))))))),m⟩
def B9:St:=⟨(aK (x2::bB [])),m⟩
def xO:OM:=bY 61 (b8 (c2 (c2 (aE f61)))) 3 (x0::aK (x3::aO (aK (aN::aX::aS::bC (br (aO (aK []))))))) m K
abbrev qh6:KT:=bI 61 (c2 (c2 (c2 (aE f61)))) K
abbrev qh7:KT:=bw 0 (qh6 K)
abbrev Hx:KT:=(qh7 K)
theorem T61:AC af 61 [a0] m=(aF (AP af) none m 20 []).bind fun r1=>(aP (some 3) (az none r1.2 (.B [(.bool false),(.lst none true .full []),(.lst none true .full [])])).2 (.ptr (az none r1.2 .resv).1 0) r1.1).bind fun m2=>(aM false a0).bind fun v3=>xO a0 (.ptr (az none r1.2 .resv).1 0) a0 v3 (.I 0) m2 (Hx (aH f61)):=
(bm af 61 [a0] m (fn:=f61) (c:=aE f61) qnL rfl).trans au
theorem UA:xO x0 x3 aN aX aS m K=(ag .o .lss aS aX).bind fun v1=>aB v1 ((aI (some 4) aN aS).bind fun v2=>(aj (some 4) m v2).bind fun v3=>(aP (some 4) (az none m (.B [(.lst none true .full []),(.lst none true .full []),(.lst none true .full []),(.I 0)])).2 (.ptr (az none m .resv).1 0) v3).bind fun m4=>(aj (some 4) m4 (.ptr (az none m .resv).1 0)).bind fun v5=>(aF (AP af) none m4 121 [v5]).bind fun r6=>(a8 r6.1 0).bind fun v7=>(a8 r6.1 1).bind fun v8=>(a8 r6.1 2).bind fun v9=>(aP (some 3) (az none r6.2 (.B [(.bool false),(.lst none true .full []),(.lst none true .full [])])).2 (.ptr (az none r6.2 .resv).1 0) v7).bind fun m10=>(ag .o .neq v9 (.I 0)).bind fun v11=>aB v11 (K .ret (B9 (.bool false) m10)) ((ag .o .gtr aS (.I 0)).bind fun v12=>aB v12 ((aL 0 (.ptr (az none m .resv).1 0)).bind fun bg=>(aj none m10 bg).bind fun bf=>(aI (some 4) x0 (.I 0)).bind fun bh=>(aL 0 bh).bind fun bK=>(aj none m10 bK).bind fun bH=>(aF (AP af) (some m10.length) m10 122 [bf,bH]).bind fun ij=>(gH .not ij.1).bind fun cP=>aB cP (K .ret (B9 (.bool false) ij.2)) ((aL 1 (.ptr (az none m .resv).1 0)).bind fun v20=>(aj none ij.2 v20).bind fun v21=>(aI (some 4) x0 (.I 0)).bind fun v22=>(aL 1 v22).bind fun v23=>(aj none ij.2 v23).bind fun v24=>(aF (AP af) (some m10.length) ij.2 89 [v21,v24]).bind fun kC=>(gH .not kC.1).bind fun v26=>aB v26 (K .ret (B9 (.bool false) kC.2)) ((aL 3 (.ptr (az none m .resv).1 0)).bind fun iR=>(aj none kC.2 iR).bind fun v28=>(ag .o .sub aS (.I 1)).bind fun jh=>(aI (some 4) x0 jh).bind fun v30=>(aL 3 v30).bind fun v31=>(aj none kC.2 v31).bind fun jN=>(ag .o .leq v28 jN).bind fun kR=>aB kR (K .ret (B9 (.bool false) kC.2)) ((aj (some 3) kC.2 x3).bind fun nC=>(aj (some 3) kC.2 (.ptr (az none r6.2 .resv).1 0)).bind fun kF=>(aF (AP af) none kC.2 22 [nC,kF]).bind fun vx=>(aP (some 3) vx.2 x3 vx.1).bind fun m37=>(ag .o .add aS (.I 1)).bind fun qe=>xO x0 x3 aN aX qe m37 K)))) ((aj (some 3) m10 x3).bind fun rm=>(aj (some 3) m10 (.ptr (az none r6.2 .resv).1 0)).bind fun v40=>(aF (AP af) none m10 22 [rm,v40]).bind fun pP=>(aP (some 3) pP.2 x3 pP.1).bind fun m42=>(ag .o .add aS (.I 1)).bind fun Bv=>xO x0 x3 aN aX Bv m42 K))) (K (.exit 0) (N8 x3 m)):=
(bX (bQ _) _ _ _).trans au
theorem qh9:Hx (aH f61) (.exit 0) (N8 x3 m)=(aj (some 3) m x3).bind fun v1=>(aF (AP af) (some m.length) m 23 []).bind fun r2=>(aF (AP af) (some m.length) r2.2 21 [v1,r2.1]).bind fun r3=>some (r3.1,r3.2):=au
theorem qh8:Hx (aH f61) .ret (B9 x2 m)=some (x2,m):=au
end
end Go.Ab
namespace Go.Ab.Pq
open Go.Proofs.Tryz
theorem Am{α:Type}[DecidableEq α]{a b:List α}{i:Nat}(ha:i<a.length)(hb:i<b.length):decide (a.drop i=b.drop i)=(decide (a[i]=b[i])&&decide (a.drop (i+1)=b.drop (i+1))):=by
 have:(a.drop i=b.drop i)↔(a[i]=b[i]/\a.drop (i+1)=b.drop (i+1)):=by
  rw[jP ha,jP hb,List.cons_eq_cons]
 rw[jm.2 this,Bool.decide_and]
theorem Wg{a b:IL}(h:a.ns.length=b.ns.length)(hl:a.ns.length<2^40)(m:ai)(K:KT):∀j i:Nat,i+j=a.ns.length ->
  H3 a.av b.av (.I a.ns.length) (.I i) m K=if decide (a.ns.drop i=b.ns.drop i) then K (.exit 0) (Nx m) else K .ret (Oq (.bool false) m)
 | 0,i,iD=>by rw[TM,bS,ae,aC,an aa,gU aa,gU aa];rfl
 | j+1,i,iD=>by
  have hi:i<a.ns.length:=aa;have hi2:i<b.ns.length:=aa;rw[TM,bS,ae,aC,aq hi,nj hi,ae,np,ae,nj hi2,ae,np,ae,gm,ae,aC,bU aa,ae,Wg h hl m K j (i+1) aa,Am (i:=i) hi hi2]
  by_cases c:a.ns[i]=b.ns[i]
  .rw[an aa,bM c,dd]
  .rw[aq aa,bD c];rfl
theorem VI{a b:IL}(hl:a.ns.length<2^40):AP af 159 [a.av,b.av]=some (.bool (decide (a.ns=b.ns))):=by
 refine cw _ _ (km _) rfl (m:=[]) ?_;rw[qkb,jS,ae,jS,ae,gm,ae,aC]
 by_cases h:a.ns.length=b.ns.length
 .rw[an aa,ae,show ((0:Int))=((0:Nat):Int) from rfl,Wg h hl [] _ a.ns.length 0 aa,gC,gC]
  by_cases c:a.ns=b.ns
  .rw[bM c,aq rfl,qfw]
  .rw[bD c,an (by decide),qfv]
 .rw[aq aa,bD (fun e=>h (by rw[e]))]
def rowsOf(L:OL):List (List Int):=L.es.map IL.ns
theorem rZ(L:OL):(rowsOf L).length=L.es.length:=by simp[rowsOf]
theorem Lf{L:OL}{i:Nat}(h:i<L.es.length):(rowsOf L)[i]'(by rw[rZ];exact h)=L.es[i].ns:=by simp[rowsOf]
theorem Wf{A B:OL}(h:A.es.length=B.es.length)(hl:A.es.length<2^40)(hA:∀l∈A.es,l.ns.length<2^40)(m:ai)(K:KT):∀j i:Nat,i+j=A.es.length ->
  H2 B.av (.fn 159 []) A.av (.I A.es.length) (.I i) m K=if decide ((rowsOf A).drop i=(rowsOf B).drop i) then K (.exit 0) (Nw m) else K .ret (Oo (.bool false) m)
 | 0,i,iD=>by rw[TL,bS,ae,aC,an aa,gU (by rw[rZ];omega),gU (by rw[rZ];omega)];rfl
 | j+1,i,iD=>by
  have hi:i<A.es.length:=aa;have hi2:i<B.es.length:=aa;have e:=VI (a:=A.es[i].fr) (b:=B.es[i].fr) (show A.es[i].ns.length<2^40 from hA _ (bA hi));have e:AP af 159 [A.es[i].fr.av,B.es[i].fr.av]=some (.bool (decide (A.es[i].ns=B.es[i].ns))):=e;rw[TL,bS,ae,aC,aq hi,index_ol hi,ae,load_ol,ae,index_ol hi2,ae,load_ol,ae,show kI (.fn 159 [])=some (159,[]) from rfl,ae,OY rfl,show ([A.es[i].av,B.es[i].av]++([]:List AV))=[A.es[i].av,B.es[i].av] from rfl,fN (fz_il _) (fz_il _),e,aQ,ae,cM,ae,sP,bU aa,ae,Wf h hl hA m K j (i+1) aa,Am (i:=i) (by rw[rZ];exact hi) (by rw[rZ];exact hi2),Lf hi,Lf hi2]
  by_cases c:A.es[i].ns=B.es[i].ns
  .rw[bM c,dd];rfl
  .rw[bD c];rfl
theorem qkP{A B:OL}(hl:A.es.length<2^40)(hA:∀l∈A.es,l.ns.length<2^40):AP af 158 [A.av,B.av,.fn 159 []]=some (.bool (decide (rowsOf A=rowsOf B))):=by
 refine cw _ _ (km _) rfl (m:=[]) ?_;rw[qka,len_ol,ae,len_ol,ae,gm,ae,aC]
 by_cases h:A.es.length=B.es.length
 .rw[an aa,ae,show ((0:Int))=((0:Nat):Int) from rfl,Wf h hl hA [] _ A.es.length 0 aa,gC,gC]
  by_cases c:rowsOf A=rowsOf B
  .rw[bM c,aq rfl,qfs]
  .rw[bD c,an (by decide),qfr]
 .rw[aq aa,bD (fun e=>h (by rw[<- rZ,<- rZ,e]))]
theorem WD{A B:OL}{p:Nat}(hp:p<A.es.length)(uZ:p<B.es.length)(h:A.es[p].ns.length=B.es[p].ns.length)(hA:A.es[p].ns.length<2^40)(aY aZ:AV)(m:ai)(K:KT):∀j i:Nat,i+j=A.es[p].ns.length ->
  HP A.av B.av (.I p) aY aZ (.I A.es[p].ns.length) (.I i) m K=if decide (A.es[p].ns.drop i=B.es[p].ns.drop i) then K (.exit 2) (Nl A.av B.av aY aZ m) else K .ret (Om (.bool false) m)
 | 0,i,iD=>by rw[Tp,bS,ae,aC,an aa,gU aa,gU aa];rfl
 | j+1,i,iD=>by
  have hi:i<A.es[p].ns.length:=aa;have hi2:i<B.es[p].ns.length:=aa;rw[Tp,bS,ae,aC,aq hi,index_ol hp,ae,load_ol,ae,nj hi,ae,np,ae,index_ol uZ,ae,load_ol,ae,nj hi2,ae,np,ae,gm,ae,aC,bU aa,ae,WD hp uZ h hA aY aZ m K j (i+1) aa,Am (i:=i) hi hi2]
  by_cases c:A.es[p].ns[i]=B.es[p].ns[i]
  .rw[an aa,bM c,dd]
  .rw[aq aa,bD c];rfl
theorem Wd{A B:OL}(h:A.es.length=B.es.length)(hl:A.es.length<2^40)(hA:∀l∈A.es,l.ns.length<2^40)(m:ai)(K:KT):∀j i:Nat,i+j=A.es.length ->
  HO A.av B.av (.I A.es.length) (.I i) m K=if decide ((rowsOf A).drop i=(rowsOf B).drop i) then K (.exit 0) (Nk m) else K .ret (IV (.bool false) m)
 | 0,i,iD=>by rw[To,bS,ae,aC,an aa,gU (by rw[rZ];omega),gU (by rw[rZ];omega)];rfl
 | j+1,i,iD=>by
  have hi:i<A.es.length:=aa;have hi2:i<B.es.length:=aa;have ih:=Wd h hl hA m K j (i+1) aa;rw[To,bS,ae,aC,aq hi,index_ol hi,ae,load_ol,ae,jS,ae,index_ol hi2,ae,load_ol,ae,jS,ae,gm,ae,aC,Am (i:=i) (by rw[rZ];exact hi) (by rw[rZ];exact hi2),Lf hi,Lf hi2]
  by_cases c0:A.es[i].ns.length=B.es[i].ns.length
  .have hX:=WD hi hi2 c0 (hA _ (bA hi)) (.I A.es.length) (.I i) m (G9 K) A.es[i].ns.length 0 aa;rw[gC,gC,show (((0:Nat):Int))=(0:Int) from rfl] at hX;rw[an aa,ae,load_ol,ae,jS,ae,hX]
   by_cases c:A.es[i].ns=B.es[i].ns
   .rw[bM c,aq rfl,qeo,bU aa,ae,ih,dd]
   .rw[bD c,an (by decide),qen];rfl
  .rw[aq aa,bD (fun e=>c0 (by rw[e]))];rfl
theorem qkF{A B:OL}(hl:A.es.length<2^40)(hA:∀l∈A.es,l.ns.length<2^40):AP af 122 [A.av,B.av]=some (.bool (decide (rowsOf A=rowsOf B))):=by
 refine cw _ _ (km _) rfl (m:=[]) ?_;rw[qjL,len_ol,ae,len_ol,ae,gm,ae,aC]
 by_cases h:A.es.length=B.es.length
 .rw[an aa,ae,show ((0:Int))=((0:Nat):Int) from rfl,Wd h hl hA [] _ A.es.length 0 aa,gC,gC]
  by_cases c:rowsOf A=rowsOf B
  .rw[bM c,aq rfl,qej]
  .rw[bD c,an (by decide),qei]
 .rw[aq aa,bD (fun e=>h (by rw[<- rZ,<- rZ,e]))]
def ou(n:ND):Int×Int×List Int:=(n.var,n.leaf,n.kids.ns)
theorem Kt(a b:ND):decide (ou a=ou b)=(decide (a.var=b.var)&&(decide (a.leaf=b.leaf)&&decide (a.kids.ns=b.kids.ns))):=by
 unfold ou;by_cases h1:a.var=b.var<;>by_cases h2:a.leaf=b.leaf<;>by_cases h3:a.kids.ns=b.kids.ns<;>simp[h1,h2,h3]
theorem qkR{a b:ND}(hl:a.kids.ns.length<2^40):AP af 161 [a.av,b.av]=some (.bool (decide (ou a=ou b))):=by
 have e:AP af 159 [a.kids.fr.av,b.kids.fr.av]=some (.bool (decide (a.kids.ns=b.kids.ns))):=VI (a:=a.kids.fr) (b:=b.kids.fr) hl;have ga:∀M:ai,(cN a::M)[0]?=some (cN a):=fun _=>rfl;have gb:∀M:ai,(cN a::cN b::M)[1]?=some (cN b):=fun _=>rfl;refine cw _ _ (km _) rfl (m:=[cN a,cN b]) ?_;rw[Kt,qkc,EN,ae];simp only[bo,bF];rw[EN,ae];simp only[ba,bo,b6,bF,bq,cG,cF,cH];rw[ae,oB (ga _),ae,ae,oB (gb _),ae,iK,ae,aC]
 by_cases c1:a.var=b.var
 .rw[aq c1,ae,sQ (ga _),ae,ae,sQ (gb _),ae,iK,ae,aC,bM c1,dd]
  by_cases c2:a.leaf=b.leaf
  .rw[aq c2,ae,qB (ga _),ae,ae,qB (gb _),ae,fN (fz_il _) (fz_il _),e,aQ,ae,bM c2,dd]
  .rw[an c2,bD c2,iv]
 .rw[an c1,bD c1,iv]
def keysOf(l:List ND):List (Int×Int×List Int):=l.map ou
theorem rR(l:List ND):(keysOf l).length=l.length:=by simp[keysOf]
theorem Ku{l:List ND}{i:Nat}(h:i<l.length):(keysOf l)[i]'(by rw[rR];exact h)=ou l[i]:=by simp[keysOf]
theorem Wh{A B:NL}(sA:A.sh=some 3\/A.es=[])(sB:B.sh=some 3\/B.es=[])(h:A.es.length=B.es.length)(hl:A.es.length<2^40)(hA:∀n∈A.es,n.kids.ns.length<2^40)(K:KT):∀(j i:Nat) (m:ai),i+j=A.es.length ->
  ∃m',BN B.av (.fn 161 []) A.av (.I A.es.length) (.I i) m K=if decide ((keysOf A.es).drop i=(keysOf B.es).drop i) then K (.exit 0) (Ny m') else K .ret (IX (.bool false) m')
 | 0,i,m,iD=>⟨m,by rw[TN,bS,ae,aC,an aa,gU (by rw[rR];omega),gU (by rw[rR];omega)];rfl⟩
 | j+1,i,m,iD=>by
  have hi:i<A.es.length:=aa;have hi2:i<B.es.length:=aa;have e:=qkR (a:=⟨A.es[i].var,A.es[i].kids.fr,A.es[i].leaf⟩) (b:=⟨B.es[i].var,B.es[i].kids.fr,B.es[i].leaf⟩) (show A.es[i].kids.ns.length<2^40 from hA _ (bA hi));have e:AP af 161 [ND.av ⟨A.es[i].var,A.es[i].kids.fr,A.es[i].leaf⟩,ND.av ⟨B.es[i].var,B.es[i].kids.fr,B.es[i].leaf⟩]=some (.bool (decide (ou A.es[i]=ou B.es[i]))):=e;obtain ⟨m',ih⟩:=Wh sA sB h hl hA K j (i+1) ((m++[cN A.es[i]])++[cN B.es[i]]) aa;have g1:((m++[cN A.es[i]])++[cN B.es[i]])[m.length]?=some (cN A.es[i]):=qQ oP _;have g2:((m++[cN A.es[i]])++[cN B.es[i]])[(m++[cN A.es[i]]).length]?=some (cN B.es[i]):=oP
  have key:BN B.av (.fn 161 []) A.av (.I A.es.length) (.I i) m K=aB (.bool (decide (ou A.es[i]=ou B.es[i]))) (BN B.av (.fn 161 []) A.av (.I A.es.length) (.I ((i+1:Nat):Int)) ((m++[cN A.es[i]])++[cN B.es[i]]) K) (K .ret (IX (.bool false) ((m++[cN A.es[i]])++[cN B.es[i]]))):=by
   rw[TN,bS,ae,aC,aq hi,tZ sA hi,ae,w9,ae];simp only[mO,cr];rw[Bb,ae,tZ sB hi2,ae,w9,ae,Bb,ae,KO g1,ae,KO g2,ae,show kI (.fn 161 [])=some (161,[]) from rfl,ae,OY rfl,show ([A.es[i].av,B.es[i].av]++([]:List AV))=[A.es[i].av,B.es[i].av] from rfl,fN (fz_nd _) (fz_nd _),e,aQ,ae,cM,ae,sP,bU aa,ae]
  rw[key,Am (i:=i) (by rw[rR];exact hi) (by rw[rR];exact hi2),Ku hi,Ku hi2]
  by_cases c:ou A.es[i]=ou B.es[i]
  .refine ⟨m',?_⟩;rw[bM c,j8,ih,dd]
  .refine ⟨(m++[cN A.es[i]])++[cN B.es[i]],?_⟩;rw[bD c];rfl
theorem qkQ{A B:NL}(sA:A.sh=some 3\/A.es=[])(sB:B.sh=some 3\/B.es=[])(hl:A.es.length<2^40)(hA:∀n∈A.es,n.kids.ns.length<2^40):AP af 160 [A.av,B.av,.fn 161 []]=some (.bool (decide (keysOf A.es=keysOf B.es))):=by
 have fin:∀(v:Bool) (m:ai),AC af 160 [A.av,B.av,.fn 161 []] []=some (.bool v,m)->AP af 160 [A.av,B.av,.fn 161 []]=some (.bool v):=fun v m h=>cw _ _ (km _) rfl h
 by_cases h:A.es.length=B.es.length
 .obtain ⟨m',hW⟩:=Wh sA sB h hl hA (Hg (aH f160)) A.es.length 0 [] aa;refine fin _ m' ?_;rw[Vm,ov,ae,ov,ae,gm,ae,aC,an aa,ae,show ((0:Int))=((0:Nat):Int) from rfl,hW,gC,gC]
  by_cases c:keysOf A.es=keysOf B.es
  .rw[bM c,aq rfl,qfA]
  .rw[bD c,an (by decide),qfz]
 .refine fin _ [] ?_;rw[Vm,ov,ae,ov,ae,gm,ae,aC,aq aa,bD (fun e=>h (by rw[<- rR,<- rR,e]))]
theorem We{a b:ND}{m:ai}(g0:m[0]?=some (cN a))(g1:m[1]?=some (cN b))(h:a.kids.ns.length=b.kids.ns.length)(hl:a.kids.ns.length<2^40)(K:KT):∀j i:Nat,i+j=a.kids.ns.length ->
  DX (.ptr 0 0) (.ptr 1 0) (.I a.kids.ns.length) (.I i) m K=if decide (a.kids.ns.drop i=b.kids.ns.drop i) then K (.exit 0) (Nv m) else K .ret (On (.bool false) m)
 | 0,i,iD=>by rw[HY,bS,ae,aC,an aa,gU aa,gU aa];rfl
 | j+1,i,iD=>by
  have hi:i<a.kids.ns.length:=aa;have hi2:i<b.kids.ns.length:=aa;rw[HY,bS,ae,aC,aq hi,cF,ae,qB g0,ae,nj hi,ae,np,ae,cF,ae,qB g1,ae,nj hi2,ae,np,ae,gm,ae,aC,bU aa,ae,We g0 g1 h hl K j (i+1) aa,Am (i:=i) hi hi2]
  by_cases c:a.kids.ns[i]=b.kids.ns[i]
  .rw[an aa,bM c,dd]
  .rw[aq aa,bD c];rfl
theorem qkK{a b:ND}(hl:a.kids.ns.length<2^40):AP af 142 [a.av,b.av]=some (.bool (decide (ou a=ou b))):=by
 have ga:∀M:ai,(cN a::M)[0]?=some (cN a):=fun _=>rfl;have gb:∀M:ai,(cN a::cN b::M)[1]?=some (cN b):=fun _=>rfl;refine cw _ _ (km _) rfl (m:=[cN a,cN b]) ?_;rw[Kt,Vl,EN,ae];simp only[bo,bF];rw[EN,ae];simp only[ba,bo,b6,bF,bq,cG,cF,cH];rw[ae,oB (ga _),ae,ae,oB (gb _),ae,gm,ae,aC]
 by_cases c1:a.var=b.var
 .rw[an aa,ae,sQ (ga _),ae,ae,sQ (gb _),ae,gm,ae,aC,bM c1,dd]
  by_cases c2:a.leaf=b.leaf
  .rw[an aa,ae,qB (ga _),ae,jS,ae,ae,qB (gb _),ae,jS,ae,gm,ae,aC,bM c2,dd]
   by_cases c3:a.kids.ns.length=b.kids.ns.length
   .have hW:=We (ga [cN b]) (gb []) c3 hl (DL (aH f142)) a.kids.ns.length 0 aa;rw[gC,gC,show (((0:Nat):Int))=(0:Int) from rfl] at hW;rw[an aa,ae,qB (ga _),ae,jS,ae,hW]
    by_cases c:a.kids.ns=b.kids.ns
    .rw[bM c,aq rfl,S5]
    .rw[bD c,an (by decide),S4]
   .rw[aq aa,bD (fun e=>c3 (by rw[e]))]
  .rw[aq aa,bD c2,iv]
 .rw[aq aa,bD c1,iv]
theorem WB{A B:NL}(sA:A.sh=some 3\/A.es=[])(sB:B.sh=some 3\/B.es=[])(h:A.es.length=B.es.length)(hl:A.es.length<2^40)(hA:∀n∈A.es,n.kids.ns.length<2^40)(m:ai)(K:KT):∀(j i:Nat),i+j=A.es.length ->
  Iv A.av B.av (.I A.es.length) (.I i) m K=if decide ((keysOf A.es).drop i=(keysOf B.es).drop i) then K (.exit 0) (Og m) else K .ret (Ou (.bool false) m)
 | 0,i,iD=>by rw[UJ,bS,ae,aC,an aa,gU (by rw[rR];omega),gU (by rw[rR];omega)];rfl
 | j+1,i,iD=>by
  have hi:i<A.es.length:=aa;have hi2:i<B.es.length:=aa;have e:=qkK (a:=⟨A.es[i].var,A.es[i].kids.fr,A.es[i].leaf⟩) (b:=⟨B.es[i].var,B.es[i].kids.fr,B.es[i].leaf⟩) (show A.es[i].kids.ns.length<2^40 from hA _ (bA hi));have e:AP af 142 [ND.av ⟨A.es[i].var,A.es[i].kids.fr,A.es[i].leaf⟩,ND.av ⟨B.es[i].var,B.es[i].kids.fr,B.es[i].leaf⟩]=some (.bool (decide (ou A.es[i]=ou B.es[i]))):=e;rw[UJ,bS,ae,aC,aq hi,tZ sA hi,ae,w9,ae,tZ sB hi2,ae,w9,ae,fN (fz_nd _) (fz_nd _),e,aQ,ae,cM,ae,sP,bU aa,ae,WB sA sB h hl hA m K j (i+1) aa,Am (i:=i) (by rw[rR];exact hi) (by rw[rR];exact hi2),Ku hi,Ku hi2]
  by_cases c:ou A.es[i]=ou B.es[i]
  .rw[bM c,j8,dd]
  .rw[bD c];rfl
theorem V89{A B:NL}(sA:A.sh=some 3\/A.es=[])(sB:B.sh=some 3\/B.es=[])(hl:A.es.length<2^40)(hA:∀n∈A.es,n.kids.ns.length<2^40):AP af 89 [A.av,B.av]=some (.bool (decide (keysOf A.es=keysOf B.es))):=by
 refine cw _ _ (km _) rfl (m:=[]) ?_;rw[T89,ov,ae,ov,ae,gm,ae,aC]
 by_cases h:A.es.length=B.es.length
 .rw[an aa,ae,show ((0:Int))=((0:Nat):Int) from rfl,WB sA sB h hl hA [] _ A.es.length 0 aa,gC,gC]
  by_cases c:keysOf A.es=keysOf B.es
  .rw[bM c,aq rfl,qiL]
  .rw[bD c,an (by decide),qiK]
 .rw[aq aa,bD (fun e=>h (by rw[<- rR,<- rR,e]))]
def Jn(a b:CV):Bool:=decide (rowsOf a.odds=rowsOf b.odds)&&decide (keysOf a.nodes.es=keysOf b.nodes.es)
structure Short (c:CV):Prop where
 odds:c.odds.es.length<2^40
 rows:∀l∈c.odds.es,l.ns.length<2^40
 nodes:c.nodes.es.length<2^40
 kids:∀n∈c.nodes.es,n.kids.ns.length<2^40
 nsh:c.nodes.sh=some 3\/c.nodes.es=[]
theorem qkD{a b:CV}(ha:Short a)(hb:b.nodes.sh=some 3\/b.nodes.es=[]):AP af 120 [a.av,b.av]=some (.bool (Jn a b)):=by
 have e1:AP af 158 [a.odds.fr.av,b.odds.fr.av,.fn 159 []]=some (.bool (decide (rowsOf a.odds=rowsOf b.odds))):=qkP (A:=a.odds.fr) (B:=b.odds.fr) ha.odds ha.rows;have e2:AP af 160 [a.nodes.fr.av,b.nodes.fr.av,.fn 161 []]=some (.bool (decide (keysOf a.nodes.es=keysOf b.nodes.es))):=qkQ (A:=a.nodes.fr) (B:=b.nodes.fr) ha.nsh hb ha.nodes ha.kids;have ga:∀M:ai,(cC a::M)[0]?=some (cC a):=fun _=>rfl;have gb:∀M:ai,(cC a::cC b::M)[1]?=some (cC b):=fun _=>rfl;refine cw _ _ (km _) rfl (m:=[cC a,cC b]) ?_;unfold Jn;rw[qjJ,ya,ae];simp only[bo,bF];rw[ya,ae];simp only[ba,bo,b6,bF,bq,cG,cF];rw[ae,qO (ga _),ae,ae,qO (gb _),ae,Db (fz_ol _) (fz_ol _) (fun _=>rfl),e1,aQ,ae]
 by_cases c:rowsOf a.odds=rowsOf b.odds
 .rw[bM c,j8,ae,pU (ga _),ae,ae,pU (gb _),ae,Db (Cq _) (Cq _) (fun _=>rfl),e2,aQ,ae,dd]
 .rw[bD c,j7,iv]
end Go.Ab.Pq
namespace Go.Ab.Pq
open Go.Proofs.Tryz
def kA(sh:Sh)(z:Bool)(o:Own)(l:List CV):AV:=.lst sh z o (l.map CV.av)
theorem qal(sh:Sh)(z:Bool)(o:Own)(l:List CV):aM false (kA sh z o l)=some (.I l.length):=by simp[kA,aM]
theorem index_ka{sh:Sh}{z:Bool}{o:Own}{l:List CV}{k:Nat}{kk:IntKind}(hs:sh=some 4\/l=[])(hk:k<l.length):aI (some 4) (kA sh z o l) (.int kk k)=some (.vptr (l[k].av).cells):=by
 have hs:sh=some 4:=hs.resolve_right (fun e=>by rw[e] at hk;simp at hk);simp[kA,aI,hs,hk]
theorem load_cv(m:ai)(c:CV):aj (some 4) m (.vptr c.av.cells)=some c.av:=rfl
theorem qpn(c:CV):aL 0 (.vptr c.av.cells)=some (.vptr [c.odds.av,c.nodes.av,c.ws.av,.I c.leaf]):=rfl
theorem qpo(c:CV):aL 1 (.vptr c.av.cells)=some (.vptr [c.nodes.av,c.ws.av,.I c.leaf]):=rfl
theorem X4(c:CV):aL 3 (.vptr c.av.cells)=some (.vptr [.I c.leaf]):=rfl
theorem load_hd(m:ai)(a:AV)(l:List AV):aj none m (.vptr (a::l))=some a:=rfl
theorem XF{m:ai}{x y:CV}:aP (some 4) (m++[cC x]) (.ptr m.length 0) y.av=some (m++[cC y]):=by
 rw[JC (y:=y) oP];simp
structure Vw where
 e:Int
 rows:List (List Int)
 keys:List (Int×Int×List Int)
 leaf:Int
 q:Rat
def vw(c:CV):Vw:=⟨checkE c,rowsOf c.odds,keysOf c.nodes.es,c.leaf,checkQ c⟩
def zV:Vw:=⟨1,[],[],0,0⟩
def stepP(V:List Vw)(i:Nat):Bool:=decide ((V.getD i zV).e=0)&&(decide (i=0)||((decide ((V.getD (i-1) zV).rows=(V.getD i zV).rows)&&decide ((V.getD (i-1) zV).keys=(V.getD i zV).keys))&&decide ((V.getD (i-1) zV).leaf<(V.getD i zV).leaf)))
def Br(V:List Vw)(i:Nat):Bool:=decide ((V.getD i zV).e=0)&&(decide (i=0)||(decide ((V.getD i zV).rows=(V.getD 0 zV).rows)&&(decide ((V.getD i zV).keys=(V.getD 0 zV).keys)&&decide ((V.getD (i-1) zV).leaf<(V.getD i zV).leaf))))
def sumV(V:List Vw)(n:Nat):Rat:=sumR (fun i=>(V.getD i zV).q) n
theorem stepP_iff{V:List Vw}{i:Nat}:stepP V i=true↔(V.getD i zV).e=0/\(i=0\/((V.getD (i-1) zV).rows=(V.getD i zV).rows/\(V.getD (i-1) zV).keys=(V.getD i zV).keys)/\(V.getD (i-1) zV).leaf<(V.getD i zV).leaf):=by
 simp[stepP]
theorem R4{V:List Vw}{i:Nat}:Br V i=true↔(V.getD i zV).e=0/\(i=0\/((V.getD i zV).rows=(V.getD 0 zV).rows/\(V.getD i zV).keys=(V.getD 0 zV).keys/\(V.getD (i-1) zV).leaf<(V.getD i zV).leaf)):=by
 simp[Br]
theorem qtU(V:List Vw)(n:Nat):allF (stepP V) n 0=allF (Br V) n 0:=by
 rw[Bool.eq_iff_iff,allF_iff,allF_iff]
 constructor
 .intro h
  have key:∀k,k<0+n->(V.getD k zV).rows=(V.getD 0 zV).rows/\(V.getD k zV).keys=(V.getD 0 zV).keys:=by
   intro k
   induction k with
   | zero=>intro _;exact ⟨rfl,rfl⟩
   | succ k ih=>
    intro hk;obtain ⟨h1,h2⟩:=ih aa;have:=(stepP_iff.1 (h (k+1) aa hk)).2
    rcases this with h0|⟨⟨h3,h4⟩,_⟩
    .omega
    .rw[pQ] at h3 h4;exact ⟨h3.symm.trans h1,h4.symm.trans h2⟩
  intro k h1 h2;obtain ⟨a,b⟩:=stepP_iff.1 (h k h1 h2);refine R4.2 ⟨a,?_⟩
  rcases b with h0|⟨_,h5⟩
  .exact .inl h0
  .exact .inr ⟨(key k h2).1,(key k h2).2,h5⟩
 .intro h
  have key:∀k,k<0+n->(V.getD k zV).rows=(V.getD 0 zV).rows/\(V.getD k zV).keys=(V.getD 0 zV).keys:=by
   intro k hk
   rcases (R4.1 (h k aa hk)).2 with h0|⟨h3,h4,_⟩
   .rw[h0];exact ⟨rfl,rfl⟩
   .exact ⟨h3,h4⟩
  intro k h1 h2;obtain ⟨a,b⟩:=R4.1 (h k h1 h2);refine stepP_iff.2 ⟨a,?_⟩
  rcases b with h0|⟨_,_,h5⟩
  .exact .inl h0
  .obtain ⟨x,y⟩:=key k h2;obtain ⟨x',y'⟩:=key (k-1) aa;exact .inr ⟨⟨x'.trans x.symm,y'.trans y.symm⟩,h5⟩
theorem zh{L:List CV}{i:Nat}(h:i<L.length):(L.map vw).getD i zV=vw L[i]:=by
 rw[aT,mS,bP h];rfl
theorem qcl{c:CV}(hc:COk 30 c)(h:checkE c=0):Short c:=by
 have hs:shapedB c=true:=by
  unfold checkE at h
  by_cases hs:shapedB c=true
  .exact hs
  .rw[an hs] at h;cases h
 refine ⟨by have:=hc.odds;omega,fun l hl=>?_,by have:=hc.nlen;omega,fun n hn=>?_,hc.nsh⟩
 .obtain ⟨v,hv,rfl⟩:=vU.1 hl;have:=(qcj hs hv).1;omega
 .obtain ⟨i,hi,rfl⟩:=vU.1 hn;have hB:=qci hs hi
  rcases (Lk hs hi).1 with h1|⟨v,hv,rQ,h2⟩
  .rcases (Lk hs hi).2 with h3|h3
   .unfold nodeB at hB;rw[aq h3,wu] at hB;omega
   .omega
  .have:=h2.len;have:=h2.row.1;omega
theorem qsY{c:CV}(hc:COk 30 c):Bd 30 (checkQ c):=by
 unfold checkQ
 split
 .generalize c.nodes.es.length-1=k
  by_cases hk:k<c.ws.es.length
  .rw[wQ_get hk];exact (hc.ws.ok _ (bA hk)).bd aa
  .unfold wQ;rw[aT,pk (by rw[bu];omega)];exact zk aa
 .exact zk aa
def OKC(c:CV):Prop:=c.fr=c/\COk 30 c
theorem qcE{L:List CV}(hL:∀c∈L,OKC c):∀{n:Nat},n<=L.length->Bd (32*n+1) (sumV (L.map vw) n)
 | 0,_=>zk aa
 | n+1,h=>by
  have hb:Bd 30 ((L.map vw).getD n zV).q:=by
   rw[zh aa];exact qsY (hL _ (bA _)).2
  exact (Mb (qcE hL aa) hb (by omega)).mono aa
theorem Lz{L:List CV}(hL:∀c∈L,OKC c)(h6:L.length<=6){n:Nat}(h:n<=L.length):Bd 4000 (sumV (L.map vw) n):=(qcE hL h).mono aa
theorem ZO{i:Nat}(h0:0<i)(h:i<=6):ag .o .sub (.I (i:Int)) (.I 1)=some (.I ((i-1:Nat):Int)):=by
 rw[pz,iV aa aa];congr 2;omega
theorem ED{sh:Sh}{z:Bool}{o:Own}{L:List CV}(hL:∀c∈L,OKC c)(h6:L.length<=6)(hs:sh=some 4\/L=[])(K:KT):∀(j i:Nat) (m:ai) (s:RV),i+j=L.length->m[0]?=some (cR s)->Can s (sumV (L.map vw) i)->s.fr=s->(∀k (hk:k<L.length),k<i->checkE L[k]=0) ->
  ∃m',(allF (stepP (L.map vw)) j i=true/\∃t:RV,Can t (sumV (L.map vw) L.length)/\t.fr=t/\m'[0]?=some (cR t)/\xN (kA sh z o L) (.ptr 0 0) (kA sh z o L) (.I L.length) (.I i) m K=K (.exit 0) (N7 (.ptr 0 0) m'))\/(allF (stepP (L.map vw)) j i=false/\xN (kA sh z o L) (.ptr 0 0) (kA sh z o L) (.I L.length) (.I i) m K=K .ret (Es (.bool false) m'))
 | 0,i,m,s,iD,hm,hc,hf,hp=>by
  obtain rfl:i=L.length:=aa;exact ⟨m,.inl ⟨rfl,s,hc,hf,hm,by rw[Uz,bS,ae,aC,an aa]⟩⟩
 | j+1,i,m,s,iD,hm,hc,hf,hp=>by
  have hi:i<L.length:=aa;obtain ⟨mc,bc⟩:=hL _ (bA hi);obtain ⟨w,w1,w2,w3,w4⟩:=V53 bc;have oks:=hc.ok (Lz hL h6 aa) aa;obtain ⟨t,t1,t2,t3⟩:=Je oks w4 aa aa
  have et:s.q+w.q=sumV (L.map vw) (i+1):=by
   rw[hc.q,w2];show _=sumV (L.map vw) i+((L.map vw).getD i zV).q;rw[zh hi];rfl
  rw[et] at t2;have g0:((m++[cC L[i]])++[cR w])[0]?=some (cR s):=qQ (qQ hm _) _;have gc:((m++[cC L[i]])++[cR w])[m.length]?=some (cC L[i]):=qQ oP _;have gw:((m++[cC L[i]])++[cR w])[(m++[cC L[i]]).length]?=some (cR w):=oP
  have nx:checkE L[i]=0->_:=fun he=>ED (sh:=sh) (z:=z) (o:=o) hL h6 hs K j (i+1) (((m++[cC L[i]])++[cR w]).set 0 (cR t)) t aa (by rw[qH (uP g0)]) t2 t3 (fun k hk jx=>by
   by_cases Fv:k=i
   .subst Fv;exact he
   .exact hp k hk aa)
  have start:xN (kA sh z o L) (.ptr 0 0) (kA sh z o L) (.I L.length) (.I i) m K=xN (kA sh z o L) (.ptr 0 0) (kA sh z o L) (.I L.length) (.I i) m K:=rfl
  conv at start=>rhs;rw[Uz,bS,ae,aC,aq hi,index_ka hs hi,ae,load_cv,ae]
  simp only[KN,cr] at start;rw[XF,ae,uL (x:=L[i]) oP,ae,cI (fz_cv _),mc,w1,aQ,ae,dj,ae,dk,ae,dG,ae] at start;simp only[p7,cr] at start;rw[Gw,ae,gm,ae,aC] at start;rw[allF]
  have est:stepP (L.map vw) i=(decide (checkE L[i]=0)&&(decide (i=0)||((decide (((L.map vw).getD (i-1) zV).rows=rowsOf L[i].odds)&&decide (((L.map vw).getD (i-1) zV).keys=keysOf L[i].nodes.es))&&decide (((L.map vw).getD (i-1) zV).leaf<L[i].leaf)))):=by
   unfold stepP;rw[zh hi];rfl
  rw[est];by_cases c1:checkE L[i]=0
  case neg=>
   rw[aq c1] at start;exact ⟨_,.inr ⟨by rw[bD c1];rfl,start⟩⟩
  rw[bM c1,dd];rw[an aa,gE,ae,aC] at start
  by_cases c2:i=0
  .rw[an aa,nV g0,ae,nV gw,ae,cO,hf,w3,t1,aQ,ae,xy g0,ae,bU aa,ae] at start;rw[bM c2,Bool.true_or,dd,start];exact nx c1
  .have hi1:i-1<L.length:=aa;have CL:=hp (i-1) hi1 aa;obtain ⟨pf,pok⟩:=hL _ (bA hi1);have e22:=qkD (qcl pok CL) (b:=L[i]) bc.nsh;rw[bD c2,uu,zh hi1];rw[aq aa,ZO aa aa,ae,index_ka hs hi1,ae,load_cv,ae,uL gc,ae,fN (fz_cv _) (fz_cv _),pf,mc,e22,aQ,ae,cM,ae,sP] at start;have ea:(decide ((vw L[i-1]).rows=rowsOf L[i].odds)&&decide ((vw L[i-1]).keys=keysOf L[i].nodes.es))=Jn L[i-1] L[i]:=rfl;rw[ea]
   cases c3:Jn L[i-1] L[i] with
   | false=>
    rw[c3,j7] at start;exact ⟨_,.inr ⟨by rw[iv,iv],start⟩⟩
   | true=>
    rw[c3,j8,ae,index_ka hs hi1,ae,X4,ae,load_hd,ae,yi,ae,uK gc,ae,ki,ae,aC] at start;rw[dd]
    by_cases c4:L[i-1].leaf≥L[i].leaf
    .rw[aq c4] at start;exact ⟨_,.inr ⟨by rw[bD (show ¬ (vw L[i-1]).leaf<L[i].leaf from by show ¬ L[i-1].leaf<L[i].leaf;omega)];rfl,start⟩⟩
    .rw[an c4,nV g0,ae,nV gw,ae,cO,hf,w3,t1,aQ,ae,xy g0,ae,bU aa,ae] at start;rw[bM (show (vw L[i-1]).leaf<L[i].leaf from by show L[i-1].leaf<L[i].leaf;omega),dd,start];exact nx c1
def wholeP(V:List Vw):Bool:=allF (stepP V) V.length 0&&decide (sumV V V.length=1)
theorem V60{sh:Sh}{z:Bool}{o:Own}{L:List CV}(hL:∀c∈L,OKC c)(h6:L.length<=6)(hs:sh=some 4\/L=[]):AP af 60 [kA sh z o L]=some (.bool (wholeP (L.map vw))):=by
 have fin:∀(v:Bool) (m:ai),AC af 60 [kA sh z o L] []=some (.bool v,m)->AP af 60 [kA sh z o L]=some (.bool v):=fun v m h=>cw _ _ (km _) rfl h;obtain ⟨m',hW⟩:=ED (sh:=sh) (z:=z) (o:=o) hL h6 hs (Hw (aH f60)) L.length 0 [cR rp] rp aa rfl Ac DA (fun k hk h=>aa);rw[show (((0:Nat):Int))=(0:Int) from rfl] at hW;have start:AC af 60 [kA sh z o L] []=AC af 60 [kA sh z o L] []:=rfl
 conv at start=>rhs;rw[T60,cS,Ey,aQ,ae]
 simp only[p7,cr,bo,bF] at start;rw[dC,ae,qal,ae] at start;unfold wholeP;rw[bu]
 rcases hW with ⟨h1,t,t1,t2,t3,t4⟩|⟨h1,t4⟩
 .rw[t4,qh5,nV t3,ae,cS,OE,aQ,ae,cO,t2,KQ,VA (t1.ok (Lz hL h6 (aR _)) aa) (Jy.ok (BD (by omega:1<=4000)) aa) t2 KQ aa aa,aQ,ae,t1.q,Jy.q] at start;rw[h1,dd];exact fin _ _ start
 .rw[t4,qh4] at start;rw[h1,iv];exact fin _ _ start
theorem Wr{sh:Sh}{z:Bool}{o:Own}{L:List CV}(hL:∀c∈L,OKC c)(h6:L.length<=6)(hs:sh=some 4\/L=[])(K:KT):∀(j i:Nat) (m:ai) (s:RV),i+j=L.length->m[0]?=some (cR s)->Can s (sumV (L.map vw) i)->s.fr=s ->
  ∃m',(allF (Br (L.map vw)) j i=true/\∃t:RV,Can t (sumV (L.map vw) L.length)/\t.fr=t/\m'[0]?=some (cR t)/\xO (kA sh z o L) (.ptr 0 0) (kA sh z o L) (.I L.length) (.I i) m K=K (.exit 0) (N8 (.ptr 0 0) m'))\/(allF (Br (L.map vw)) j i=false/\xO (kA sh z o L) (.ptr 0 0) (kA sh z o L) (.I L.length) (.I i) m K=K .ret (B9 (.bool false) m'))
 | 0,i,m,s,iD,hm,hc,hf=>by
  obtain rfl:i=L.length:=aa;exact ⟨m,.inl ⟨rfl,s,hc,hf,hm,by rw[UA,bS,ae,aC,an aa]⟩⟩
 | j+1,i,m,s,iD,hm,hc,hf=>by
  have hi:i<L.length:=aa;obtain ⟨mc,bc⟩:=hL _ (bA hi);obtain ⟨w,w1,w2,w3,w4⟩:=qkE bc;have oks:=hc.ok (Lz hL h6 aa) aa;obtain ⟨t,t1,t2,t3⟩:=OD oks w4 aa aa
  have et:s.q+w.q=sumV (L.map vw) (i+1):=by
   rw[hc.q,w2];show _=sumV (L.map vw) i+((L.map vw).getD i zV).q;rw[zh hi];rfl
  rw[et] at t2;have g0:((m++[cC L[i]])++[cR w])[0]?=some (cR s):=qQ (qQ hm _) _;have gc:((m++[cC L[i]])++[cR w])[m.length]?=some (cC L[i]):=qQ oP _;have gw:((m++[cC L[i]])++[cR w])[(m++[cC L[i]]).length]?=some (cR w):=oP;have nx:=Wr (sh:=sh) (z:=z) (o:=o) hL h6 hs K j (i+1) (((m++[cC L[i]])++[cR w]).set 0 (cR t)) t aa (by rw[qH (uP g0)]) t2 t3;have start:xO (kA sh z o L) (.ptr 0 0) (kA sh z o L) (.I L.length) (.I i) m K=xO (kA sh z o L) (.ptr 0 0) (kA sh z o L) (.I L.length) (.I i) m K:=rfl
  conv at start=>rhs;rw[UA,bS,ae,aC,aq hi,index_ka hs hi,ae,load_cv,ae]
  simp only[KN,cr] at start;rw[XF,ae,uL (x:=L[i]) oP,ae,cI (fz_cv _),mc,w1,aQ,ae,dj,ae,dk,ae,dG,ae] at start;simp only[p7,cr] at start;rw[Gw,ae,gm,ae,aC] at start;rw[allF];have pF:0<L.length:=aa
  have est:Br (L.map vw) i=(decide (checkE L[i]=0)&&(decide (i=0)||(decide (rowsOf L[i].odds=rowsOf L[0].odds)&&(decide (keysOf L[i].nodes.es=keysOf L[0].nodes.es)&&decide (((L.map vw).getD (i-1) zV).leaf<L[i].leaf))))):=by
   unfold Br;rw[zh hi,zh pF];rfl
  rw[est];by_cases c1:checkE L[i]=0
  case neg=>
   rw[aq c1] at start;exact ⟨_,.inr ⟨by rw[bD c1];rfl,start⟩⟩
  rw[bM c1,dd];rw[an aa,gE,ae,aC] at start
  by_cases c2:i=0
  .rw[an aa,nV g0,ae,nV gw,ae,cO,hf,w3,t1,aQ,ae,xy g0,ae,bU aa,ae] at start;rw[bM c2,Bool.true_or,dd,start];exact nx
  .have hi1:i-1<L.length:=aa;have hsh:=qcl bc c1;have qqD:=(hL _ (bA pF)).2;have e25:AP af 122 [L[i].odds.fr.av,L[0].odds.fr.av]=some (.bool (decide (rowsOf L[i].odds=rowsOf L[0].odds))):=qkF (A:=L[i].odds.fr) (B:=L[0].odds.fr) hsh.odds hsh.rows;have e26:AP af 89 [L[i].nodes.fr.av,L[0].nodes.fr.av]=some (.bool (decide (keysOf L[i].nodes.es=keysOf L[0].nodes.es))):=V89 (A:=L[i].nodes.fr) (B:=L[0].nodes.fr) bc.nsh qqD.nsh hsh.nodes hsh.kids;have ix0:aI (some 4) (kA sh z o L) (.I 0)=some (.vptr (L[0].av).cells):=index_ka (k:=0) hs pF;rw[bD c2,uu,zh hi1];rw[aq aa,cG,ae,qO gc,ae,ix0,ae,qpn,ae,load_hd,ae,fN (fz_ol _) (fz_ol _),e25,aQ,ae,cM,ae,sP] at start;by_cases c3:rowsOf L[i].odds=rowsOf L[0].odds
   case neg=>
    rw[bD c3,j7] at start;exact ⟨_,.inr ⟨by rw[bD c3,iv,iv],start⟩⟩
   rw[bM c3,j8,cF,ae,pU gc,ae,ae,qpo,ae,load_hd,ae,fN (Cq _) (Cq _),e26,aQ,ae,cM,ae,sP] at start;rw[bM c3,dd];by_cases c5:keysOf L[i].nodes.es=keysOf L[0].nodes.es
   case neg=>
    rw[bD c5,j7] at start;exact ⟨_,.inr ⟨by rw[bD c5,iv,iv],start⟩⟩
   rw[bM c5,j8,yi,ae,uK gc,ae,ZO aa aa,ae,index_ka hs hi1,ae,X4,ae,load_hd,ae,rG,ae,aC] at start;rw[bM c5,dd]
   by_cases c4:L[i].leaf<=L[i-1].leaf
   .rw[aq c4] at start;exact ⟨_,.inr ⟨by rw[bD (show ¬ (vw L[i-1]).leaf<L[i].leaf from by show ¬ L[i-1].leaf<L[i].leaf;omega)];rfl,start⟩⟩
   .rw[an c4,nV g0,ae,nV gw,ae,cO,hf,w3,t1,aQ,ae,xy g0,ae,bU aa,ae] at start;rw[bM (show (vw L[i-1]).leaf<L[i].leaf from by show L[i-1].leaf<L[i].leaf;omega),dd,start];exact nx
theorem V61{sh:Sh}{z:Bool}{o:Own}{L:List CV}(hL:∀c∈L,OKC c)(h6:L.length<=6)(hs:sh=some 4\/L=[]):AP af 61 [kA sh z o L]=some (.bool (wholeP (L.map vw))):=by
 have fin:∀(v:Bool) (m:ai),AC af 61 [kA sh z o L] []=some (.bool v,m)->AP af 61 [kA sh z o L]=some (.bool v):=fun v m h=>cw _ _ (km _) rfl h;obtain ⟨m',hW⟩:=Wr (sh:=sh) (z:=z) (o:=o) hL h6 hs (Hx (aH f61)) L.length 0 [cR qh] qh aa rfl Jx BB;rw[show (((0:Nat):Int))=(0:Int) from rfl] at hW;have start:AC af 61 [kA sh z o L] []=AC af 61 [kA sh z o L] []:=rfl
 conv at start=>rhs;rw[T61,cS,Jc,aQ,ae]
 simp only[p7,cr,bo,bF] at start;rw[dC,ae,qal,ae] at start;unfold wholeP;rw[bu,qtU]
 rcases hW with ⟨h1,t,t1,t2,t3,t4⟩|⟨h1,t4⟩
 .rw[t4,qh9,nV t3,ae,cS,Jd,aQ,ae,cO,t2,Bc,OC (t1.ok (Lz hL h6 (aR _)) aa) (wk.ok (BD (by omega:1<=4000)) aa) aa aa,aQ,ae,t1.q,wk.q] at start;rw[h1,dd];exact fin _ _ start
 .rw[t4,qh8] at start;rw[h1,iv];exact fin _ _ start
end Go.Ab.Pq
namespace Go.Ab
open Go.Proofs Go.Proofs.Tryz
theorem qbM{M a b:Nat}(h0:M≠0):cT false a M=cT false b M↔a=b:=by
 constructor
 .intro h;have h:=(Rat.mkRat_eq_iff h0 h0).1 h;simp only[gg,jJ,lp] at h;have h2:(M:Int)≠0:=aa;have:=Int.eq_of_mul_eq_mul_right h2 h;omega
 .intro h;rw[h]
section
variable (R0:List (List Int)) (K0:List (Int×Int×List Int)) (h:Int->Nat) (M:Nat)
def vF(n:Int):Pq.Vw:=⟨0,R0,K0,n,cT false (h n) M⟩
variable {R0 K0 h M}
theorem E9{os:List Int}{i:Nat}(hi:i<os.length):(os.map (vF R0 K0 h M)).getD i Pq.zV=vF R0 K0 h M os[i]:=by
 rw[aT,mS,bP hi];rfl
theorem qcF(h0:M≠0)(os:List Int):∀j,j<=os.length->Pq.sumV (os.map (vF R0 K0 h M)) j=cT false ((os.take j).map h).sum M
 | 0,_=>(xq _ _).symm
 | j+1,hj=>by
  have ih:=qcF h0 os j aa;unfold Pq.sumV at ih ⊢;rw[Pq.sumR,ih,E9 aa,mU aa,iH,List.sum_append];show cT false _ M+cT false (h os[j]) M=_;rw[Rx h0];simp
theorem Sw(h0:M≠0){os:List Int}(hp:os.Pairwise (· < ·)):Pq.wholeP (os.map (vF R0 K0 h M))=decide ((os.map h).sum=M):=by
 unfold Pq.wholeP
 have hs:Pq.allF (Pq.stepP (os.map (vF R0 K0 h M))) (os.map (vF R0 K0 h M)).length 0=true:=Pq.allF_iff.2 fun k _ hk=>by
  rw[bu] at hk;have hk:k<os.length:=aa;refine Pq.stepP_iff.2 ?_;rw[E9 hk];refine ⟨rfl,?_⟩
  by_cases k0:k=0
  .exact .inl k0
  .rw[E9 (i:=k-1) aa];exact .inr ⟨⟨rfl,rfl⟩,List.pairwise_iff_getElem.1 hp (k-1) k aa hk aa⟩
 rw[hs,dd,bu,qcF h0 os _ (aR _),List.take_length];exact jm.2 ⟨fun e=>(qbM h0).1 (e.trans (K5 h0).symm),fun e=>by rw[e];exact K5 h0⟩
theorem quN{n:Int}{os:List Int}(hp:(n::os).Pairwise (· < ·))(hne:os≠[]):Pq.wholeP ((os++[n]).map (vF R0 K0 h M))=false:=by
 unfold Pq.wholeP
 cases e:Pq.allF (Pq.stepP ((os++[n]).map (vF R0 K0 h M))) ((os++[n]).map (vF R0 K0 h M)).length 0 with
 | false=>rfl
 | true=>
  have hl:0<os.length:=zI.2 hne;have h1:=Pq.stepP_iff.1 (Pq.allF_iff.1 e os.length aa aA);rw[E9 (os:=os++[n]) (i:=os.length) aA,E9 (os:=os++[n]) (i:=os.length-1) (by simp;omega)] at h1
  rcases h1.2 with h2|⟨_,h2⟩
  .omega
  .exfalso;have e1:(os++[n])[os.length-1]'(by simp;omega)=os[os.length-1]'(by omega):=List.getElem_append_left _;have e2:(os++[n])[os.length]'(by simp)=n:=aA;have h2:(os++[n])[os.length-1]'(by simp;omega)<(os++[n])[os.length]'(by simp):=h2;rw[e1,e2] at h2;have:=(B1.1 hp).1 _ (bA (show os.length-1<os.length by omega));omega
theorem quM:Pq.wholeP []=false:=by
 unfold Pq.wholeP;have:Pq.sumV [] ([]:List Pq.Vw).length=0:=rfl;rw[this,bD (by decide)];exact zn _
theorem quL(h0:M≠0){os:List Int}(hp:os.Pairwise (· < ·))(hs:(os.map h).sum=M){i:Nat}(hi:i<os.length):Pq.wholeP ((os.take i++os.drop (i+1)).map (vF R0 K0 h M))=decide (h os[i]=0):=by
 have hJ:(os.take i++os.drop (i+1)).Sublist os:=by
  rw[<- List.eraseIdx_eq_take_drop_succ];exact List.eraseIdx_sublist ..
 rw[Sw h0 (hp.sublist hJ)];have e:os.take i++(os[i]::os.drop (i+1))=os:=by rw[<- jP hi,oG]
 have e2:(os.map h).sum=((os.take i++os.drop (i+1)).map h).sum+h os[i]:=by
  conv=>lhs;rw[<- e]
  simp only[iH,gh,List.sum_append,lZ];omega
 exact jm.2 ⟨fun h'=>aa,fun h'=>aa⟩
end
end Go.Ab
namespace Go.Ab
open Go.Proofs Go.Proofs.Tryz
theorem LawOdds.h64{ar:List Int}{L:OL}(h:LawOdds ar L)(h1:∀x∈ar,1<=x/\x<=64):∀r∈L.es,r.ns.length<=64:=fun r hr=>by
 obtain ⟨u,hu,rfl⟩:=n0 hr;have:=h.row u hu;have ZE:u<ar.length:=by rw[<- h.len];exact hu
 rw[aT,bP ZE,fk] at this;have:=h1 _ (bA ZE);omega
theorem qrA{r:List Int}{l1:List ND}{id1:Nat}{t:List Int}(g1:GoodL r l1)(h1:∀x∈r,1<=x)(tab1:TabV r l1 id1 0 t)(x:Int):x∈qx l1 id1↔x∈t:=by
 have hid:=tab1.lt;obtain ⟨cc1,_,_⟩:=pT g1 id1 hid [] qq
 have tab:∀y,iS r y->S l1 y id1=t.getD (oq r 0 y) 0:=fun y hy=>by
  have:=tab1.val y hy
  rwa [gC] at this
 have fJ:t.length=cn r:=by have:=tab1.len;rwa [gC] at this
 have CH:(∃y,iS r y/\S l1 y id1=x)↔x∈t:=by
  constructor
  .rintro ⟨y,hy,rfl⟩;rw[tab y hy];have hlt:=CT hy r.length 0 aa;rw[gC] at hlt;have hi:oq r 0 y<t.length:=aa;rw[PB hi];exact bA hi
  .intro hx;obtain ⟨i,hi,rfl⟩:=n0 hx;obtain ⟨y,hy,e⟩:=QC h1 r.length 0 i aa (by rw[gC];omega);rw[gC] at e;exact ⟨y,hy,by rw[tab y hy,e,PB hi]⟩
 rw[LD,qug cc1.lt,<- CH,<- qrz g1 h1 hid]
 constructor
 .rintro ⟨j,hj,kr,hk,rfl⟩;exact ⟨j,hj,kr,by simpa using hk,rfl⟩
 .rintro ⟨j,hj,kr,hk,rfl⟩;exact ⟨j,hj,kr,by simpa using hk,rfl⟩
theorem qdi{r:List Int}{l1:List ND}{id1:Nat}{t:List Int}(h1:∀x∈r,1<=x)(tab1:TabV r l1 id1 0 t)(s:Nat->Nat->Nat)(c:Int):Hc r s l1 c id1=Ht r s t c:=by
 unfold Hc Ht;refine G4 _ _ _ (xY h1) fun b hb _=>?_;have:=tab1.val b hb;rw[gC] at this;rw[this]
end Go.Ab
namespace Go.Ab
open Go.Proofs Go.Proofs.Tryz
inductive RO (e:Nat) (m:ai):AV->List AV->List Nat->Prop
 | emp:RO e m (.lst (some 4) false .full []) [] []
 | some (t:Nat) (es:List AV) (ht:m.get t=some (.tok es.length 4)) (hne:es≠[]):RO e m (.lst (some 4) false (.tok t e) es) es [t]
theorem Le{e:Nat}{m:ai}{x:AV}{l:List AV}{T:List Nat}(h:RO e m x l T){s:Nat}(hs:m.get s=some .resv)(z:Bool)(o:Own)(ys:List AV)(hb:(l.length+ys.length)*80<=ft):∃x' m' T',bL (some s) false e (some 4) 80 m x (.lst (some 4) z o ys)=some (x',m')/\RO e m' x' (l++ys) T'/\(∀t∈T',t∈T\/t=s)/\(∀k,k≠s->k∉T->m'.get k=m.get k)/\m'.length=m.length:=by
 have mM:=bW hs
 cases ys with
 | nil=>exact ⟨x,m,T,by cases h<;>rfl,by rw[cu];exact h,fun t ht=>.inl ht,fun _ _ _=>rfl,rfl⟩
 | cons y ys=>
  cases h with
  | emp=>
   refine ⟨.lst (some 4) false (.tok s e) (y::ys),m.set s (some (.tok (y::ys).length 4)),[s],?_,.some s (y::ys) (di rfl mM) aA,fun t ht=>.inr (by simpa using ht),fun k hk _=>cQ hk,by rw[il]⟩;have gO:(ys.length+1)*80<=ft:=by simpa using hb
   simp[bL,gO,az,Sh.size]
  | some t es ht hne=>
   have fJ:=bW ht;have AW:t≠s:=fun e=>by rw[e,hs] at ht;cases ht
   refine ⟨.lst (some 4) false (.tok t e) (l++y::ys),m.set t (some (.tok (l.length+(y::ys).length) 4)),[t],?_,.some t (l++y::ys) ?_ aA,fun a ha=>.inl ha,fun k _ hk=>cQ (fun e=>hk (by simp[e])),by rw[il]⟩
   .have gO:(l.length+(ys.length+1))*80<=ft:=hb;simp[bL,ht,gO,Sh.size]
   .rw[di rfl fJ,aW]
theorem qbT{e:Nat}{m m2:ai}{x:AV}{l:List AV}{T:List Nat}(h:RO e m x l T):∃z o,Fz x (.lst (some 4) z o l):=by
 cases h with
 | emp=>exact ⟨false,.full,fun _=>rfl⟩
 | some t es ht hne=>exact ⟨false,.no,fun _=>rfl⟩
theorem qth{e:Nat}{m:ai}{x:AV}{l:List AV}{T:List Nat}(h:RO e m x l T):aM false x=some (.I l.length):=by
 cases h with
 | emp=>rfl
 | some t es ht hne=>rfl
theorem qoZ(z:Bool)(o:Own)(es:List AV){i:Nat}(h:i<=es.length):gX (some 4) (.lst (some 4) z o es) none (some (.I i)) none=some (.lst (some 4) z .no (es.take i)):=by
 simp[gX,o0,je,h]
theorem XI(z:Bool)(o:Own)(es:List AV){i:Nat}(h:i<=es.length):gX (some 4) (.lst (some 4) z o es) (some (.I i)) none none=some (.lst (some 4) z .no (es.drop i)):=by
 have h2:(i:Int)<=es.length:=aa;simp[gX,o0,je,h]
inductive TW (m:ai):AV->List AV->AV->List AV->List Nat->Prop
 | none:TW m aD [] aD [] []
 | some (a b:Nat) (es fs:List AV) (jc:a≠b) (he:es≠[]) (hf:fs≠[]) (ha:m.get a=some (.tok es.length 4)) (hb:m.get b=some (.tok fs.length 4)):TW m (.lst (some 4) false (.tok a 88) es) es (.lst (some 4) false (.tok b 93) fs) fs [a,b]
theorem quu{m m':ai}{x y:AV}{es fs:List AV}{T:List Nat}(h:TW m x es y fs T)(f:∀k∈T,m'.get k=m.get k):TW m' x es y fs T:=by
 cases h with
 | none=>exact .none
 | some a b es fs jc he hf ha hb=>exact .some a b es fs jc he hf ((f a (by simp)).trans ha) ((f b (by simp)).trans hb)
theorem qut{m:ai}{x y:AV}{es fs:List AV}{T:List Nat}(h:TW m x es y fs T):∀k∈T,k<m.length:=by
 cases h with
 | none=>simp
 | some a b es fs jc he hf ha hb=>
  intro k hk;have:=bW ha;have:=bW hb;simp only[gI,zK,or_false] at hk
  rcases hk with rfl|rfl<;>assumption
theorem qus{m:ai}{x y:AV}{es fs:List AV}{T:List Nat}(h:TW m x es y fs T)(nQ:(es.length+1)*80<=ft)(jC:(fs.length+1)*80<=ft)(c d:AV) :
  ∃x' m1 y' m2 T',bL (some m.length) false 88 (some 4) 80 (bV m 2) x (.lst (some 4) false .full [c])=some (x',m1)/\bL (some (m.length+1)) false 93 (some 4) 80 m1 y (.lst (some 4) false .full [d])=some (y',m2)/\TW m2 x' (es++[c]) y' (fs++[d]) T'/\Fr m m2 T/\Gr m T T':=by
 rw[xu]
 cases h with
 | none=>
  have r1:(1:Nat)*80<=ft:=by unfold ft;omega
  have e1:bL (some m.length) false 88 (some 4) 80 ((m++[some Ent.resv])++[some Ent.resv]) aD (.lst (some 4) false .full [c])=some (.lst (some 4) false (.tok m.length 88) [c],((m++[some Ent.resv])++[some Ent.resv]).set m.length (some (.tok 1 4))):=rfl;have e2:bL (some (m.length+1)) false 93 (some 4) 80 (((m++[some Ent.resv])++[some Ent.resv]).set m.length (some (.tok 1 4))) aD (.lst (some 4) false .full [d])=some (.lst (some 4) false (.tok (m.length+1) 93) [d],(((m++[some Ent.resv])++[some Ent.resv]).set m.length (some (.tok 1 4))).set (m.length+1) (some (.tok 1 4))):=rfl
  refine ⟨_,_,_,_,[m.length,m.length+1],e1,e2,.some _ _ [c] [d] aa aA aA ?_ ?_,?_,?_⟩
  .rw[cQ aa];exact di rfl aA
  .exact di rfl aA
  .exact ((((Fr.app m _ _).snoc _).set _ (.inr (aR _))).set _ (.inr aa))
  .intro k hk;simp only[gI,zK,or_false] at hk;exact .inr aa
 | some a b _ _ jc he hf ha hb=>
  have dQ:=bW ha;have pB:=bW hb;have Ax:ai.get ((m++[some Ent.resv])++[some Ent.resv]) a=some (.tok es.length 4):=by rw[cK (by simp;omega),cK dQ];exact ha
  have gO:ai.get ((m++[some Ent.resv])++[some Ent.resv]) b=some (.tok fs.length 4):=by rw[cK (by simp;omega),cK pB];exact hb
  have f0:Fr m ((m++[some Ent.resv])++[some Ent.resv]) [a,b]:=(Fr.app m _ [a,b]).snoc _;generalize (m++[some Ent.resv])++[some Ent.resv]=M at Ax gO f0;have hb2:ai.get (M.set a (some (Ent.tok (es.length+1) 4))) b=some (.tok fs.length 4):=by rw[cQ (fun e=>jc e.symm)];exact gO
  have haM:=bW Ax;have hbM:=bW hb2
  refine ⟨.lst (some 4) false (.tok a 88) (es++[c]),M.set a (some (Ent.tok (es.length+1) 4)),.lst (some 4) false (.tok b 93) (fs++[d]),(M.set a (some (Ent.tok (es.length+1) 4))).set b (some (Ent.tok (fs.length+1) 4)),[a,b],?_,?_,.some a b _ _ jc aA aA ?_ ?_,(f0.set _ (.inl (by simp))).set _ (.inl aA),Gr.refl _ _⟩
  .simp[bL,Ax,nQ,Sh.size]
  .simp[bL,hb2,jC,Sh.size]
  .rw[cQ jc,di rfl haM,aW];rfl
  .rw[di rfl hbM,aW];rfl
end Go.Ab
namespace Go.Ab
section
variable {ar:List Int} {l:List ND}
def vk(l:List ND)(out:List Nat):Nat:=(out.filter fun i=>decide (0<=(l.getD i ⟨0,[],0⟩).var)).length
theorem qrj(out:List Nat)(i:Nat):vk l (out++[i])=vk l out+if 0<=(l.getD i ⟨0,[],0⟩).var then 1 else 0:=by
 unfold vk;rw[List.filter_append,aW];congr 1
 by_cases h:0<=(l.getD i ⟨0,[],0⟩).var
 .rw[List.filter_cons_of_pos (by exact bM h),aq h];rfl
 .rw[List.filter_cons_of_neg (by exact fun e=>h (sS e)),an h];rfl
theorem qbF(h1:∀x∈ar,1<=x):∀(d v:Nat),v+d<=ar.length->cn (ar.drop (v+d))<=cn (ar.drop v)
 | 0,v,_=>aR _
 | d+1,v,h=>by
  have hlt:v+d<ar.length:=aa;have e:=vr (ar:=ar) (v:=v+d) hlt;have hp:=h1 _ (bA hlt)
  have h2:cn (ar.drop (v+d+1))<=cn (ar.drop (v+d)):=by
   rw[e];refine Nat.le_mul_of_pos_left _ ?_;rw[aT,bP hlt,fk];omega
  exact fC h2 (qbF h1 d v aa)
theorem qrk(g:GoodL ar l)(h1:∀x∈ar,1<=x):∀(id:Nat),id<l.length->∀(v:Nat) (out:List Nat),v<=ar.length->(∀h:id<l.length,(v:Int)<=dP ar.length l[id])->vk l (Vi l id out)+1<=vk l out+cn (ar.drop v):=by
 intro id
 induction id using Nat.strongRecOn with
 | ind id ih=>
  intro hid v out hv jc;have jd:1<=cn (ar.drop v):=Gm fun x hx=>h1 x (List.drop_subset _ _ hx);rw[sy g hid]
  split
  .omega
  .have aU:l.getD id ⟨0,[],0⟩=l[id]:=iM hid;rw[qrj,aU]
   by_cases hn:l[id].var<0
   .have hk:l[id].kids=[]:=by
     rcases g.ok _ (bA hid) with ⟨_,h,_⟩|⟨h,_⟩
     .exact h
     .omega
    rw[hk,OH,an aa];omega
   .obtain ⟨a1,a2⟩:=g.var id hid aa;obtain ⟨u,hu⟩:=nE (show 0<=l[id].var by omega);have oS:l[id].var.toNat=u:=aa;have lT:u<ar.length:=aa;rw[oS] at a2
    have hvu:v<=u:=by
     have:=jc hid;unfold dP at this;rw[aq aa,hu] at this;omega
    have ze:∀(ks:List Int) (o:List Nat),(∀k∈ks,k∈l[id].kids)->vk l (iJ l ks o)+ks.length<=vk l o+ks.length*cn (ar.drop (u+1)):=by
     intro ks
     induction ks with
     | nil=>intro o _;simp[OH]
     | cons k ks ihk=>
      intro o hk;obtain ⟨t,et,ht,AX⟩:=g.kid id hid aa k (hk k gj);have e1:=ihk (Vi l k.toNat o) fun q hq=>hk q (fW _ hq)
      have e2:=ih k.toNat aa aa (u+1) o aa fun h=>by
       have:=AX aa;have e:l[k.toNat]=l[t]'(by omega):=by congr 1;omega
       rw[e];omega
      rw[zX,ba,iI,rD];omega
    have e3:=ze l[id].kids out fun k hk=>hk
    have e4:l[id].kids.length*cn (ar.drop (u+1))=cn (ar.drop u):=by
     rw[vr lT];congr 1;omega
    have e5:=qbF h1 (u-v) v aa;rw[show v+(u-v)=u by omega] at e5
    have h2:2<=l[id].kids.length:=by
     obtain ⟨k,hk,hne⟩:=g.dif id hid aa
     rcases wO:l[id].kids with _|⟨a,_|⟨b,c⟩⟩
     .rw[wO] at hk;cases hk
     .rw[wO] at hk hne;have:k=a:=by simpa using hk
      exact absurd this hne
     .simp
    rw[aq aa];omega
theorem qpf(g:GoodL ar l)(h1:∀x∈ar,1<=x){id:Nat}{t:List Int}(tab:TabV ar l id 0 t)(hb:∀y∈t,0<=y/\y<=4):(Vi l id []).length<=cn ar+4:=by
 have hid:=tab.lt;obtain ⟨c1,_,_⟩:=pT g id hid [] qq
 have e1:=qrk g h1 id hid 0 [] aa fun h=>by
  unfold dP;split<;>omega
 rw[gC] at e1;have e0:vk l []=0:=rfl;have hlt:∀i∈Vi l id [],i<l.length:=c1.lt
 have CH:((Vi l id []).filter fun i=>!decide (0<=(l.getD i ⟨0,[],0⟩).var)).length<=5:=by
  have hnd:=c1.nd.filter fun i=>!decide (0<=(l.getD i ⟨0,[],0⟩).var)
  have:=q8 5 (((Vi l id []).filter fun i=>!decide (0<=(l.getD i ⟨0,[],0⟩).var)).map fun i=>(l.getD i ⟨0,[],0⟩).leaf.toNat) ?_ ?_
  .rwa [bu] at this
  .rw[List.nodup_iff_pairwise_ne,List.pairwise_map];refine List.Pairwise.imp_of_mem ?_ hnd;intro a b ha hb hne e;obtain ⟨Fg,tC⟩:=po.1 ha;obtain ⟨hb1,hb2⟩:=po.1 hb;have la:=hlt a Fg;have lb:=hlt b hb1;rw[iM la] at tC e;rw[iM lb] at hb2 e;have va:l[a].var<0:=by simpa using tC
   have vb:l[b].var<0:=by simpa using hb2
   have oa:0<=l[a].leaf:=by rcases g.ok _ (bA la) with ⟨_,_,h,_⟩|⟨h,_⟩<;>omega
   have ob:0<=l[b].leaf:=by rcases g.ok _ (bA lb) with ⟨_,_,h,_⟩|⟨h,_⟩<;>omega
   exact hne (qai g la lb va vb aa)
  .intro x hx;obtain ⟨a,ha,rfl⟩:=iw.1 hx;obtain ⟨Fg,tC⟩:=po.1 ha;have la:=hlt a Fg;rw[iM la] at tC ⊢;have va:l[a].var<0:=by simpa using tC
   have:l[a].leaf∈t:=by
    refine (qrA g h1 tab _).1 ?_;unfold qx;rw[LD];unfold ml
    refine iw.2 ⟨a,po.2 ⟨Fg,?_⟩,?_⟩
    .dsimp only;rw[iM la];exact bM va
    .dsimp only;rw[iM la]
   have:=hb _ this;omega
 have lS:(Vi l id []).length=vk l (Vi l id [])+((Vi l id []).filter fun i=>!decide (0<=(l.getD i ⟨0,[],0⟩).var)).length:=by
  unfold vk;generalize Vi l id []=o
  induction o with
  | nil=>rfl
  | cons a o ih=>
   simp only[List.filter_cons,ba]
   by_cases h:0<=(l.getD a ⟨0,[],0⟩).var
   .rw[bM h];simp only[jj,jJ,lp,bJ,ba];omega
   .rw[bD h];simp only[my,jJ,lp,bJ,ba];omega
 omega
end
end Go.Ab
namespace Go.Ab.Pq
open Go.Proofs.Tryz
def px:CV:=⟨⟨true,.full,[]⟩,⟨some 3,false,.full,[⟨-1,A9,4⟩]⟩,⟨some 3,false,.full,[sT]⟩,4⟩
theorem qlQ:COk 30 px.fr:=⟨by simp[px,CV.fr,OL.fr],.inl rfl,by simp[px,CV.fr,NL.fr],⟨.inl rfl,(fun h=>by cases h),by simp[px,CV.fr,LV.fr,Bc],by
 intro r hr;have:r=sT:=by simpa [px,CV.fr,LV.fr] using hr
 rw[this]
 exact (wk.ok (BD aa) aa)⟩,by simp[px,CV.fr,LV.fr]⟩
theorem qlS:shapedB px.fr=true:=by
 have h1:kE sT=true:=Xh wk;simp[shapedB,px,CV.fr,OL.fr,NL.fr,LV.fr,oddsB,nodesB,allF,nodeB,armsI,lens,h1,A9]
theorem qlR:okAt px.fr 0=true:=by
 unfold okAt;refine bM ?_;have e1:wQ px.fr.ws 0=1:=wk.q;rw[e1]
 rfl
theorem qlP:checkE px.fr=0/\checkQ px.fr=1:=by
 have e:checkE px.fr=0:=by
  unfold checkE;rw[aq qlS]
  show (match firstF (okAt px.fr) 1 0 with|none=>(0:Int)|some _=>32)=0
  rw[firstF,aq qlR];rfl
 refine ⟨e,?_⟩;unfold checkQ;rw[aq e];exact wk.q
theorem pcall10{m:ai}{d:Option Nat}:aF (AP af) d m 46 []=some (.bool true,m):=by
 have h10:AP af 46 []=some (.bool true):=by
  obtain ⟨e1,e2⟩:=qlP;obtain ⟨r,r1,r2,r3,r4⟩:=V53 qlQ;rw[e1] at r1;rw[e2] at r2;have e9:=OC r4 (wk.ok (BD (by omega:1<=4000)) aa) aa aa;rw[r2,wk.q] at e9;refine cw _ _ (km _) rfl (m:=[cC px,cR r]) ?_;have b1:fR (.agg [.I 0,.lst none true .full [],.I 0]) [(0,none,.I (-1)),(2,none,.I 4)]=some (ND.av ⟨-1,A9,4⟩):=rfl;have b2:df (some 3) [ND.av ⟨-1,A9,4⟩]=some (.lst (some 3) false .full [ND.av ⟨-1,A9,4⟩]):=rfl;have b3:fR (.agg [.lst none true .full [],.lst none true .full [],.lst none true .full [],.I 0]) [(1,none,.lst (some 3) false .full [ND.av ⟨-1,A9,4⟩]),(2,none,.lst (some 3) false .full [sT.av]),(3,none,.I 4)]=some px.av:=rfl;have start:AC af 46 [] []=AC af 46 [] []:=rfl
  conv at start=>rhs;rw[T46,b1,ae,b2,ae,cS,Jd,aQ,ae,Xg Bc,ae,b3,ae]
  simp only[KN,cr,bo,bF] at start;rw[JC (x:=zC) rfl,ae] at start;simp only[cW] at start;rw[uL (x:=px) rfl,ae,cI (fz_cv _),r1,aQ,ae,dj,ae,dk,ae,dG,ae] at start;simp only[p7,cr,bo,bF,ba,b6,bq] at start;rw[cZ,ae,iK,ae,bM rfl,j8,cY,ae,cS,Jd,aQ,ae,cO,r3,Bc,e9,aQ,ae] at start;rw[start]
  rfl
 rw[Rp,h10];rfl
end Go.Ab.Pq
namespace Go.Ab
noncomputable section
variable (a0 a1 a2 a3 x3 x8 aN aX aS aZ fH L0 qE qg:AV) (m:ai) (K:KT)
open Go.Proofs.Tryz
def IS:St:=⟨(aK (aJ (x3::aV (aK (aZ::fH::bB (bB (aV []))))))),m⟩
def qjv:St:=⟨(aV (x8::bB (bB (aV (aO (aK (aJ []))))))),m⟩
def Ix:OM:=bY 9 (b8 (bG (bG (c2 (aE f9))))) 13 (aK (aJ (x3::aO (aK (aN::aX::aS::aJ (aZ::fH::bC (aO (aK (aJ (L0::qE::qg::bB (br (aV (aO (aK [])))))))))))))) m K
abbrev qi1:KT:=bI 9 (bG (bG (c2 (c2 (aE f9))))) K
abbrev qi2:KT:=bw 0 (qi1 K)
abbrev HC:KT:=(qi2 K)
theorem T9:AC af 9 [a0,a1,a2,a3] m=(aF (AP af) none m 45 [a0]).bind fun r1=>(aF (AP af) none r1.2 11 [r1.1]).bind fun r2=>(ag .o .neq r2.1 (.I 0)).bind fun v3=>aB v3 ((aF (AP af) none r2.2 46 []).bind fun r4=>some (r4.1,r4.2)) ((aF (AP af) none r2.2 47 [r1.1,a1]).bind fun r5=>(aF (AP af) none r5.2 48 [r1.1,a2]).bind fun r6=>(aF (AP af) none r6.2 18 [r1.1,r6.1]).bind fun r7=>(gH .not r7.1).bind fun v8=>aB v8 ((aF (AP af) none r7.2 46 []).bind fun r9=>some (r9.1,r9.2)) ((AC af 49 [r1.1,r5.1] r7.2).bind fun gG=>(a8 gG.1 0).bind fun v11=>(a8 gG.1 1).bind fun v12=>(a8 gG.1 2).bind fun bg=>(gH .not bg).bind fun bf=>aB bf (some ((.bool false),gG.2)) ((aF (AP af) none gG.2 58 [r5.1]).bind fun nt=>(aM false nt.1).bind fun bK=>Ix a3 r6.1 v11 v12 aD aD nt.1 bK (.I 0) nt.2 (HC (aH f9))))):=
(bm af 9 [a0,a1,a2,a3] m (fn:=f9) (c:=aE f9) at9 rfl).trans au
theorem UN:Ix x3 aN aX aS aZ fH L0 qE qg m K=(ag .o .lss qg qE).bind fun v1=>aB v1 ((aI none L0 qg).bind fun v2=>(aj none m v2).bind fun v3=>(AC af 50 [aX,aS,aN,v3] m).bind fun r4=>(a8 r4.1 0).bind fun v5=>(a8 r4.1 1).bind fun v6=>(aP (some 4) (az none r4.2 (.B [aD,aD,aD,(.I 0)])).2 (.ptr (az none r4.2 .resv).1 0) v5).bind fun m7=>(ag .o .neq v6 (.I 0)).bind fun v8=>aB v8 (K .ret (qjv (.bool false) m7)) ((aj (some 4) m7 (.ptr (az none r4.2 .resv).1 0)).bind fun v9=>(aF (AP af) none m7 59 [v9]).bind fun gG=>(a8 gG.1 0).bind fun v11=>(a8 gG.1 1).bind fun v12=>(aP (some 4) (az none (az none gG.2 (.B [aD,aD,aD,(.I 0)])).2 (.B [aD,aD,aD,(.I 0)])).2 (.ptr (az none gG.2 .resv).1 0) v11).bind fun m13=>(aP (some 4) m13 (.ptr (az none (az none gG.2 (.B [aD,aD,aD,(.I 0)])).2 .resv).1 0) v12).bind fun m14=>(aj (some 4) (bV m14 2) (.ptr (az none r4.2 .resv).1 0)).bind fun bh=>(df (some 4) [bh]).bind fun bK=>(aj (some 4) (bV m14 2) (.ptr (az none (az none gG.2 (.B [aD,aD,aD,(.I 0)])).2 .resv).1 0)).bind fun bH=>(df (some 4) [bH]).bind fun cV=>(bL (some m14.length) false 88 (some 4) 80 (bV m14 2) aZ bK).bind fun kP=>(bL (some (m14.length+1)) false 93 (some 4) 80 kP.2 fH cV).bind fun r20=>(ag .o .add qg (.I 1)).bind fun v21=>Ix x3 aN aX aS kP.1 r20.1 L0 qE v21 r20.2 K)) (K (.exit 0) (IS x3 aZ fH m)):=
(bX (bQ _) _ _ _).trans au
theorem qi3:HC (aH f9) (.exit 0) (IS x3 aZ fH m)=(aF (AP af) none m 60 [aZ]).bind fun r1=>(gH .not r1.1).bind fun v2=>aB v2 (some ((.bool false),r1.2)) ((aF (AP af) none r1.2 61 [fH]).bind fun r3=>(gH .not r3.1).bind fun v4=>aB v4 (some ((.bool false),r3.2)) ((aM false aZ).bind fun v5=>(ag .o .rem x3 v5).bind fun v6=>(aM false aZ).bind fun v7=>(ag .o .add v6 v7).bind fun v8=>(aM false aZ).bind fun v9=>(ag .o .rem v8 v9).bind fun v10=>(df (some 4) []).bind fun v11=>(gX (some 4) aZ none (some v10) none).bind fun v12=>(bL (some r3.2.length) false 88 (some 4) 80 (bV r3.2 2) v11 v12).bind fun gB=>(ag .o .add v10 (.I 1)).bind fun bf=>(gX (some 4) aZ (some bf) none none).bind fun bh=>(bL (some (r3.2.length+1)) false 88 (some 4) 80 gB.2 gB.1 bh).bind fun gW=>(aI (some 4) aZ v10).bind fun bH=>(aj (some 4) gW.2 bH).bind fun cV=>(aF (AP af) none gW.2 53 [cV]).bind fun kP=>(a8 kP.1 0).bind fun v20=>(a8 kP.1 1).bind fun v21=>(a8 kP.1 2).bind fun v22=>(aP (some 3) (az none kP.2 (.B [(.bool false),aD,aD])).2 (.ptr (az none kP.2 .resv).1 0) v20).bind fun m23=>(aF (AP af) (some m23.length) m23 60 [gW.1]).bind fun lE=>(aj (some 3) lE.2 (.ptr (az none kP.2 .resv).1 0)).bind fun v25=>(aF (AP af) (some m23.length) lE.2 57 [v25]).bind fun kD=>(ag .o .eql kD.1 (.I 0)).bind fun iR=>aB iR ((aM false gW.1).bind fun v28=>(ag .o .gtr v28 (.I 0)).bind fun jh=>(ag .bl .neq lE.1 jh).bind fun v30=>aB v30 (some ((.bool false),kD.2)) ((aM false aZ).bind fun v31=>(ag .o .gtr v31 (.I 1)).bind fun jN=>aB jN ((df (some 4) []).bind fun kR=>(gX (some 4) aZ (some (.I 1)) none none).bind fun nC=>(aI (some 4) aZ (.I 0)).bind fun kF=>(aj (some 4) (bV kD.2 2) kF).bind fun se=>(df (some 4) [se]).bind fun v37=>(bL (some kD.2.length) false 88 (some 4) 80 (bV kD.2 2) kR nC).bind fun r38=>(bL (some (kD.2.length+1)) false 88 (some 4) 80 r38.2 r38.1 v37).bind fun r39=>(aF (AP af) none r39.2 60 [r39.1]).bind fun Gp=>aB Gp.1 (some ((.bool false),Gp.2)) ((aF (AP af) none Gp.2 60 [aD]).bind fun pP=>(gH .not pP.1).bind fun GI=>aB GI ((aF (AP af) none pP.2 46 []).bind fun r43=>some (r43.1,r43.2)) (some ((.bool false),pP.2)))) ((aF (AP af) none kD.2 60 [aD]).bind fun RB=>(gH .not RB.1).bind fun Bw=>aB Bw ((aF (AP af) none RB.2 46 []).bind fun De=>some (De.1,De.2)) (some ((.bool false),RB.2))))) ((ag .bl .neq lE.1 (.bool false)).bind fun GJ=>aB GJ (some ((.bool false),kD.2)) ((aM false aZ).bind fun LK=>(ag .o .gtr LK (.I 1)).bind fun v49=>aB v49 ((df (some 4) []).bind fun Sn=>(gX (some 4) aZ (some (.I 1)) none none).bind fun v51=>(aI (some 4) aZ (.I 0)).bind fun Sp=>(aj (some 4) (bV kD.2 2) Sp).bind fun v53=>(df (some 4) [v53]).bind fun Sq=>(bL (some kD.2.length) false 88 (some 4) 80 (bV kD.2 2) Sn v51).bind fun r55=>(bL (some (kD.2.length+1)) false 88 (some 4) 80 r55.2 r55.1 Sq).bind fun yY=>(aF (AP af) none yY.2 60 [yY.1]).bind fun yZ=>aB yZ.1 (some ((.bool false),yZ.2)) ((aF (AP af) none yZ.2 60 [aD]).bind fun RC=>(gH .not RC.1).bind fun v59=>aB v59 ((aF (AP af) none RC.2 46 []).bind fun r60=>some (r60.1,r60.2)) (some ((.bool false),RC.2)))) ((aF (AP af) none kD.2 60 [aD]).bind fun RD=>(gH .not RD.1).bind fun Su=>aB Su ((aF (AP af) none RD.2 46 []).bind fun r63=>some (r63.1,r63.2)) (some ((.bool false),RD.2))))))):=au
end
end Go.Ab
