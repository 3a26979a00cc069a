/- Small functions of the laws and the reference; Eval; All: by value. -/
import Derived.Test.YtiipgpkgcdhbfaaGreatDoorFP2
import Derived.Test.YtiipgpkgcdhbfaaGreatDoorFP0
import Derived.Test.YtiipgpkgcdhbfaaGreatDoorFP1
set_option maxRecDepth 100000
set_option linter.unusedVariables false
set_option linter.unusedSimpArgs false
set_option linter.unusedSectionVars false
namespace Go.Ab
open Go.Proofs Go.Proofs.Tryz
theorem IQ{z1 z2:Bool}{o1 o2:Own}{k1 k2:List Int}(hl:k1.length=k2.length)(hl2:k1.length<=100000)(m:af):∀j i:Nat,i+j=k1.length ->
  xR (IA z1 o1 k1) (IA z2 o2 k2) (.I k1.length) (.I i) m (wZ (aD f27))=some (.bool (decide (k1.drop i=k2.drop i)),m)
 | 0,i,h=>by
  rw[GO,bg,O,az,ag Z,fQ Z,fQ Z,RM];rfl
 | j+1,i,h=>by
  have hi:i<k1.length:=Z;have hi2:i<k2.length:=Z;have ih:=IQ (z1:=z1) (z2:=z2) (o1:=o1) (o2:=o2) hl hl2 m j (i+1) Z;rw[GO,bg,O,az,ai Z,fw hi,O,cr,O,fw hi2,O,cr,O,gt,O,az,ic hi,ic hi2]
  by_cases he:k1[i]=k2[i]
  .rw[ag (by simpa using he),b6 Z,O,ih];congr 3;exact iz.2 (by rw[he];exact ⟨fun e=>by rw[e],fun e=>(List.cons.inj e).2⟩)
  .rw[ai he,RL];congr 3;exact (eX (fun e=>he (List.cons.inj e).1)).symm
theorem VX(z1 z2:Bool)(o1 o2:Own)(k1 k2:List Int)(hl2:k1.length<=100000):AP aa 27 [IA z1 o1 k1,IA z2 o2 k2]=some (.bool (decide (k1=k2))):=by
 refine fH (m:=[]) (v:=.bool (decide (k1=k2))) (l:=[]) ?_ rfl rfl;rw[UX,fc,O,fc,O,gt,O,az]
 by_cases hl:k1.length=k2.length
 .rw[ag Z,O,show (AV.I 0)=.I ((0:Nat):Int) from rfl,IQ hl hl2 [] k1.length 0 Z,dk,dk]
 .rw[ai Z];congr 3;exact (eX (fun e=>hl (by rw[e]))).symm
theorem qcf(z1 z2:Bool)(o1 o2:Own)(k1 k2:List Int)(hl2:k1.length<=100000)(m:af):aF (AP aa) none m 27 [IA z1 o1 k1,IA z2 o2 k2]=some (.bool (decide (k1=k2)),m):=by
 rw[eC (gX z1 o1 k1) (gX z2 o2 k2),VX z1 z2 _ _ k1 k2 hl2];rfl
theorem IZ{z1 z2:Bool}{o1 o2:Own}{k1 k2:List Int}(hl:k1.length=k2.length)(hl2:k1.length<=100000)(m:af):∀j i:Nat,i+j=k1.length ->
  xy (IA z1 o1 k1) (IA z2 o2 k2) (.I k1.length) (.I i) m (wO (aD f144))=some (.bool (decide (k1.drop i=k2.drop i)),m)
 | 0,i,h=>by
  rw[Gi,bg,O,az,ag Z,fQ Z,fQ Z,PL];rfl
 | j+1,i,h=>by
  have hi:i<k1.length:=Z;have hi2:i<k2.length:=Z;have ih:=IZ (z1:=z1) (z2:=z2) (o1:=o1) (o2:=o2) hl hl2 m j (i+1) Z;rw[Gi,bg,O,az,ai Z,fw hi,O,cr,O,fw hi2,O,cr,O,gt,O,az,ic hi,ic hi2]
  by_cases he:k1[i]=k2[i]
  .rw[ag (by simpa using he),b6 Z,O,ih];congr 3;exact iz.2 (by rw[he];exact ⟨fun e=>by rw[e],fun e=>(List.cons.inj e).2⟩)
  .rw[ai he,PK];congr 3;exact (eX (fun e=>he (List.cons.inj e).1)).symm
theorem qeh(z1 z2:Bool)(o1 o2:Own)(k1 k2:List Int)(hl2:k1.length<=100000):AP aa 144 [IA z1 o1 k1,IA z2 o2 k2]=some (.bool (decide (k1=k2))):=by
 refine fH (m:=[]) (v:=.bool (decide (k1=k2))) (l:=[]) ?_ rfl rfl;rw[Uw,fc,O,fc,O,gt,O,az]
 by_cases hl:k1.length=k2.length
 .rw[ag Z,O,show (AV.I 0)=.I ((0:Nat):Int) from rfl,IZ hl hl2 [] k1.length 0 Z,dk,dk]
 .rw[ai Z];congr 3;exact (eX (fun e=>hl (by rw[e]))).symm
theorem qck(z1 z2:Bool)(o1 o2:Own)(k1 k2:List Int)(hl2:k1.length<=100000)(m:af):aF (AP aa) none m 144 [IA z1 o1 k1,IA z2 o2 k2]=some (.bool (decide (k1=k2)),m):=by
 rw[eC (gX z1 o1 k1) (gX z2 o2 k2),qeh z1 z2 _ _ k1 k2 hl2];rfl
theorem No(z:Bool)(o:Own)(k0:Int)(ks:List Int)(hl:(k0::ks).length<=1000)(m:af):∀j i:Nat,i+j=(k0::ks).length ->
  xw (IA z o (k0::ks)) (IA z o (k0::ks)) (.I (k0::ks).length) (.I i) m (wN (aD f143))=some (.bool (((k0::ks).drop i).all fun k=>k==k0),m)
 | 0,i,h=>by
  rw[Gh,bg,O,az,ag Z,fQ Z,PH];rfl
 | j+1,i,h=>by
  have hi:i<(k0::ks).length:=Z;rw[Gh,bg,O,az,ai Z,fw hi,O,cr,O,vF aq,O,cr,O,gt,O,az,ic hi,lW]
  by_cases he:(k0::ks)[i]=k0
  .rw[ag (by simpa using he),b6 Z,O,No z o k0 ks hl m j (i+1) Z,show ((k0::ks)[i]==k0)=true by simpa using he,jc]
  .rw[ai (by simpa using he),PG,show ((k0::ks)[i]==k0)=false by simpa using he,oI]
theorem qeg(z:Bool)(o:Own)(ks:List Int)(hne:ks≠[])(hl:ks.length<=1000):AP aa 143 [IA z o ks]=some (.bool (ks.all fun k=>k==ks.headD 0)):=by
 obtain ⟨k0,ks,rfl⟩:=List.exists_cons_of_ne_nil hne;refine fH (m:=[]) (v:=.bool ((k0::ks).all fun k=>k==k0)) (l:=[]) ?_ rfl rfl;rw[Uv,fc,O,show (AV.I 0)=.I ((0:Nat):Int) from rfl,No z o k0 ks hl [] (k0::ks).length 0 Z,dk]
theorem qcj(z:Bool)(o:Own)(ks:List Int)(hne:ks≠[])(hl:ks.length<=1000)(m:af):aF (AP aa) none m 143 [IA z o ks]=some (.bool (ks.all fun k=>k==ks.headD 0),m):=by
 rw[b8 (gX z o ks),qeg z _ ks hne hl];rfl
theorem Kj{a b:Nat->Nat}:∀(r:List Int) (v:Nat),(∀w,v<=w->a w=b w)->dd r v a=dd r v b
 | [],_,_=>rfl
 | n::r,v,h=>by rw[dd,dd,h v (aI _),Kj r (v+1) fun w hw=>h w Z]
def gd(cs:List Int):Nat->Nat:=fun v=>(cs.getD v 0).toNat
theorem DV(m:af)(k:Nat):∀ds:List Int,eU (bW m (k+1)) (ds.map (AV.int .i64))=some (ds.map (AV.int .i64),[])
 | []=>rfl
 | d::ds=>by
  have:bW m (k+1) (AV.I d)=some (AV.I d,[]):=rfl;simp[eU,this,DV m k ds]
theorem Eu:∀ds:List Int,jM (ds.map (AV.int .i64))=true
 | []=>rfl
 | d::ds=>by
  have:pl (AV.I d)=true:=rfl;simp[jM,this,Eu ds]
theorem J0{m:af}{nm:Nat}{ds:List Int}(h:m.get nm=some (.obj false (ds.map (AV.int .i64)))):bW m iI (.arr nm 0 ds.length none)=some (IA false .no ds,[nm]):=by
 have h1:((ds.map (AV.int .i64)).all c9)=true:=by simp[List.all_map,c9]
 have hg:m.obj? nm=some (false,ds.map (AV.int .i64)):=by rw[mC,h];rfl
 show (m.obj? nm).bind _=_;rw[hg];simp only[O,Sh.size,bA,bj,ii,aI,decide_true,ka,kP,aY,dk,iv (by simp:(ds.map (AV.int .i64)).length<=ds.length)];rw[DV];simp only[O,h1,Eu,kP,aY,jH];rw[iv aq]
theorem EY{m:af}{nm i:Nat}{ds:List Int}{y:Int}(h:m.get nm=some (.obj false (ds.map (AV.int .i64))))(hi:i<ds.length):aM none m (.ptr nm i) (.I y)=some (m.set nm (some (.obj false ((ds.set i y).map (AV.int .i64))))):=by
 have hg:m.obj? nm=some (false,ds.map (AV.int .i64)):=by rw[mC,h];rfl
 have h1:i+1<=ds.length:=hi;simp only[aM,hg,O,Sh.size,bA,h1,aY,cu,c9,AV.cells];congr 4;simp only[bf,a8,bq];rw[List.map_set,yj];simp[hi,sN,List.map_drop]
theorem EN{m:af}{nm:Nat}{e:Ent}(h:m.get nm=some e):m.set nm (some e)=m:=by
 have hlt:=bo h;apply List.ext_getElem?;intro k;rw[uH]
 split
 .rename_i hk;subst hk
  first|rw[ai hlt]|skip
  unfold af.get at h
  cases hq:m[nm]? with
  | none=>rw[hq] at h;cases h
  | some x=>rw[hq] at h;simp only[O,id] at h;rw[h]
 .rfl
theorem IV{z:Bool}{o:Own}{ar:List Int}(h1:∀x∈ar,1<=x/\x<=64)(hal:ar.length<=16){i0 nm:Nat}(hi0:i0<=1000000):∀(j:Nat),j<=ar.length->∀(q:Nat) (cs:List Int) (m:af),m.get nm=some (.obj false (cs.map (AV.int .i64)))->cs.length=ar.length->(∀v,j<=v->v<ar.length->0<=cs.getD v 0/\cs.getD v 0<ar.getD v 0)->q<=i0 ->
  i0=q*aN (ar.drop j)+dd (ar.drop j) j (gd cs)->∃(cs':List Int) (q':Nat),xc (IA z o ar) (.I q) (.arr nm 0 ar.length none) (.I ((j:Int)-1)) m (AZ (aD f115))=some (.arr nm 0 ar.length none,m.set nm (some (.obj false (cs'.map (AV.int .i64)))))/\cs'.length=ar.length /\
   (∀v,v<ar.length->0<=cs'.getD v 0/\cs'.getD v 0<ar.getD v 0)/\i0=q'*aN ar+dd ar 0 (gd cs')
 | 0,_,q,cs,m,hg,hc,hb,hq,he=>by
  refine ⟨cs,q,?_,hc,fun v hv=>hb v (jd _) hv,he⟩;rw[EN hg,FU,je,O,az,ag Z,Ok]
 | j+1,hj,q,cs,m,hg,hc,hb,hq,he=>by
  have hv:j<ar.length:=Z;have hab:=h1 _ (bp hv);obtain ⟨a,ha⟩:=jO (by omega:0<=ar[j]);have hget:ar.getD j 0=(a:Int):=by rw[aK,bn hv,bQ,ha]
  have hix:aE none (IA z o ar) (.I j)=some (.vptr [.I a]):=by rw[fw hv,ha]
  have hqa:=qW q a;have hlt:=io q (show a>0 by omega);have hl:=bo hg
  obtain ⟨cs',q',e,k⟩:=IV (z:=z) (o:=o) h1 hal hi0 (nm:=nm) j Z (q/a) (cs.set j (q%a:Nat)) (m.set nm (some (.obj false ((cs.set j (q%a:Nat)).map (AV.int .i64))))) (b7 rfl hl) (by rw[ff];exact hc) (fun v hv1 hv2=>by
   by_cases hvj:v=j
   .subst hvj;rw[aK,pV Z,bQ,hget];omega
   .rw[aK,qU Z,<- aK]
    exact hb v Z hv2) Z (by
   rw[mH hv,nb hv,hget,Kj (a:=gd (cs.set j (q%a:Nat))) (b:=gd cs) (ar.drop (j+1)) (j+1) (fun w hw=>by
    unfold gd
    rw[aK,qU Z,<- aK])]
   have e1:gd (cs.set j (q%a:Nat)) j=q%a:=by
    unfold gd;rw[aK,pV Z,bQ,cB]
   have e2:(a:Int).toNat=a:=cB a;rw[e1,e2,he];generalize aN (ar.drop (j+1))=P;have:=oV q a
   have e3:q*P=q/a*(a*P)+q%a*P:=by
    rw[<- cn,<- eW,bU (q/a) a,this]
   omega)
  refine ⟨cs',q',?_,k⟩;have ej:((j+1:Nat):Int)-1=j:=Z;rw[ej,FU,je,O,az,ai Z,hix,O,cr,O,D9 Z,O,de hv,O,EY hg Z,O,O,cr,O,D8 Z Z,O,mZ Z,O];rw[oU] at e;exact e
structure Asn (ar:List Int) (i:Nat) (cs:List Int):Prop where
 len:cs.length=ar.length
 bd:∀v,v<ar.length->0<=cs.getD v 0/\cs.getD v 0<ar.getD v 0
 idx:dd ar 0 (gd cs)=i
theorem Asn.asg{ar:List Int}{i:Nat}{cs:List Int}(h:Asn ar i cs):cO ar (gd cs):=fun v hv=>by
 have:=h.bd v hv;unfold gd;omega
theorem NZ(z:Bool)(o:Own)(ar:List Int)(h1:∀x∈ar,1<=x/\x<=64)(hal:ar.length<=16){i:Nat}(hi:i<aN ar)(hi2:i<=1000000)(m:af):∃cs,AC aa 115 [IA z o ar,.I i] m=some (.arr m.length 0 ar.length none,m++[some (.obj false (cs.map (AV.int .i64)))])/\Asn ar i cs:=by
 have hmk:fU none 3 none (.I 0) 8 m (.I ar.length) (.I ar.length)=some (.arr m.length 0 ar.length none,m++[some (Ent.obj false ((List.replicate ar.length (0:Int)).map (AV.int .i64)))]):=by
  have h3:(ar.length:Int)*8<=281474976710656:=Z;have h4:(ar.length:Int)<=9223372036854775807:=Z;have h5:(0:Int)<=ar.length:=Z;simp only[fU,aC,nk,lC,aY,cB,List.map_replicate];rw[ai ⟨h5,trivial,h3,h4⟩]
 obtain ⟨cs,q,e,hc,hb,he⟩:=IV (z:=z) (o:=o) h1 hal hi2 (nm:=m.length) ar.length (aI _) i (List.replicate ar.length (0:Int)) (m++[some (Ent.obj false ((List.replicate ar.length (0:Int)).map (AV.int .i64)))]) (bG rfl) aq (fun v h1 h2=>Z) (aI _) (by rw[List.drop_length];simp[aN,dd])
 have asn:Asn ar i cs:=by
  refine ⟨hc,hb,?_⟩
  have hq:q=0:=by
   refine Nat.eq_zero_of_not_pos fun hq=>?_;have:1*aN ar<=q*aN ar:=fL _ hq;omega
  rw[hq] at he;omega
 refine ⟨cs,?_,asn⟩
 have e2:(m++[some (Ent.obj false ((List.replicate ar.length (0:Int)).map (AV.int .i64)))]).set m.length (some (.obj false (cs.map (AV.int .i64))))=m++[some (.obj false (cs.map (AV.int .i64)))]:=by
  rw[nZ _ _ (aI _),jQ];rfl
 rw[e2] at e;rw[Ub,fc,O,hmk,O,O,mZ Z,O];exact e
structure AL (n:Nat) (m0 m:af) (x:AV) (nms:List Nat) (css:List (List Int)):Prop where
 len:nms.length=css.length
 row:∀k (h1:k<nms.length) (h2:k<css.length),m.get nms[k]=some (.obj false (css[k].map (AV.int .i64)))/\css[k].length=n
 nd:nms.Nodup
 lo:∀a∈nms,m0.length<=a
 kp:m0.length<=m.length/\∀k,k<m0.length->m.get k=m0.get k
 x:(x=aw/\nms=[])\/∃t,x=.arr t 0 nms.length none/\0<nms.length/\m.get t=some (.obj false (nms.map fun a=>.arr a 0 n none))/\m0.length<=t/\t∉nms
theorem AL.lt{n:Nat}{m0 m:af}{x:AV}{nms:List Nat}{css:List (List Int)}(h:AL n m0 m x nms css):∀a∈nms,a<m.length:=fun a ha=>by
 obtain ⟨k,hk,e⟩:=ig ha;have hl:=h.len;have:=(h.row k hk (by omega)).1;rw[e] at this;exact bo this
theorem Xb{n:Nat}{m0 m:af}{x:AV}{nms:List Nat}{css:List (List Int)}(h:AL n m0 m x nms css){cs:List Int}(hc:cs.length=n)(hl:css.length<=1000) :
  ∃x' m',bF none true 22 none 24 (m++[some (Ent.obj false (cs.map (AV.int .i64)))]) x (.vec 1 none [.arr m.length 0 n none])=some (x',m')/\AL n m0 m' x' (nms++[m.length]) (css++[cs]):=by
 have hlen:=h.len;have hlt:=h.lt;have hY:∀M:af,tE M none (.vec 1 none [.arr m.length 0 n none])=some (1,[.arr m.length 0 n none]):=fun M=>rfl
 have nd2:(nms++[m.length]).Nodup:=by
  rw[List.nodup_append]
  exact ⟨h.nd,aq,fun a ha b hb=>by
   obtain rfl:b=m.length:=by simpa using hb
   have:=hlt a ha;omega⟩
 have rows:∀(m':af),(∀k,k<m.length+1->(∀t,x=.arr t 0 nms.length none->k≠t)->m'.get k=af.get (m++[some (Ent.obj false (cs.map (AV.int .i64)))]) k)->∀k (h1:k<(nms++[m.length]).length) (h2:k<(css++[cs]).length),m'.get (nms++[m.length])[k]=some (.obj false ((css++[cs])[k].map (AV.int .i64)))/\(css++[cs])[k].length=n:=by
  intro m' hm' k h1 h2
  by_cases hk:k<nms.length
  .rw[List.getElem_append_left hk,List.getElem_append_left Z];have hmem:=bp hk;have hl2:=hlt _ hmem
   rw[hm' _ Z (fun t ht e=>by
    rcases h.x with ⟨rfl,_⟩|⟨t',rfl,_,_,_,hn⟩
    .cases ht
    .cases ht;exact hn (e▸hmem)),bP hl2]
   exact h.row k hk Z
  .have hk1:k=nms.length:=by simp at h1;omega
   subst hk1;have e1:(nms++[m.length])[nms.length]'h1=m.length:=aq;have e2:(css++[cs])[nms.length]'h2=cs:=by simp[hlen]
   rw[e1,e2,hm' _ Z (fun t ht e=>by
    rcases h.x with ⟨rfl,_⟩|⟨t',rfl,_,hg,_,hn⟩
    .cases ht
    .cases ht;have:=bo hg;omega),bG rfl]
   exact ⟨rfl,hc⟩
 have lo2:∀a∈nms++[m.length],m0.length<=a:=fun a ha=>by
  rcases cI.1 ha with ha|ha
  .exact h.lo a ha
  .obtain rfl:a=m.length:=by simpa using ha
   exact h.kp.1
 have hroom:∀k:Nat,k<=1000->(k+1)*24<=fq:=fun k hk=>by unfold fq;omega
 rcases h.x with ⟨rfl,rfl⟩|⟨t,rfl,hpos,hg,htl,htn⟩
 .have hX:pI (m++[some (Ent.obj false (cs.map (AV.int .i64)))]) none aw=some (0,[],m++[some (.obj false (cs.map (AV.int .i64)))]):=rfl
  have ha:bF none true 22 none 24 (m++[some (Ent.obj false (cs.map (AV.int .i64)))]) aw (.vec 1 none [.arr m.length 0 n none])=some (.arr (m++[some (Ent.obj false (cs.map (AV.int .i64)))]).length 0 1 none,(m++[some (Ent.obj false (cs.map (AV.int .i64)))])++[some (.obj false [.arr m.length 0 n none])]):=by
   simp only[bF,pa,hY,hX,O]
   rfl
  refine ⟨_,_,ha,?_,rows _ (fun k hk _=>bP (by simpa using hk)),nd2,lo2,?_,.inr ⟨(m++[some (Ent.obj false (cs.map (AV.int .i64)))]).length,aq,aq,by rw[bG rfl];rfl,by have:=h.kp.1;simp;omega,aq⟩⟩
  .simp only[aQ,a8,bq] at hlen ⊢;omega
  .refine ⟨by have:=h.kp.1;simp;omega,fun k hk=>?_⟩;have:=h.kp.1;rw[bP (by simp;omega),bP Z];exact h.kp.2 k hk
 .have htlt:=bo hg;have hg2:af.get (m++[some (Ent.obj false (cs.map (AV.int .i64)))]) t=some (.obj false (nms.map fun a=>.arr a 0 n none)):=by rw[bP htlt];exact hg
  have ho:(m++[some (Ent.obj false (cs.map (AV.int .i64)))]).obj? t=some (false,nms.map fun a=>.arr a 0 n none):=by rw[mC,hg2];rfl
  have hX:pI (m++[some (Ent.obj false (cs.map (AV.int .i64)))]) none (.arr t 0 nms.length none)=some (nms.length,nms.map fun a=>.arr a 0 n none,(m++[some (Ent.obj false (cs.map (AV.int .i64)))]).set t none):=by
   simp only[pI,ho,O];rw[ai ⟨trivial,trivial,hpos,trivial,by simp[Sh.size]⟩]
  have ha:bF none true 22 none 24 (m++[some (Ent.obj false (cs.map (AV.int .i64)))]) (.arr t 0 nms.length none) (.vec 1 none [.arr m.length 0 n none])=some (.arr ((m++[some (Ent.obj false (cs.map (AV.int .i64)))]).set t none).length 0 (nms.length+1) none,((m++[some (Ent.obj false (cs.map (AV.int .i64)))]).set t none)++[some (.obj false ((nms.map fun a=>.arr a 0 n none)++[.arr m.length 0 n none]))]):=by
   simp only[bF,pa,hY,hX,O];rw[ai (hroom nms.length Z)]
  have hml:((m++[some (Ent.obj false (cs.map (AV.int .i64)))]).set t none).length=m.length+1:=aq
  refine ⟨_,_,ha,?_,rows _ (fun k hk hne=>?_),nd2,lo2,?_,.inr ⟨((m++[some (Ent.obj false (cs.map (AV.int .i64)))]).set t none).length,aq,aq,by rw[bG rfl,gW];rfl,by have:=h.kp.1;rw[hml];omega,?_⟩⟩
  .simp only[aQ,hlen,a8,bq]
  .rw[bP (by rw[hml];exact hk),bO (hne t rfl)]
  .refine ⟨by have:=h.kp.1;rw[aQ,hml];omega,fun k hk=>?_⟩;have:=h.kp.1;rw[bP (by rw[hml];omega),bO Z,bP Z];exact h.kp.2 k hk
  .rw[hml];intro hh
   rcases cI.1 hh with hh|hh
   .have:=hlt _ hh;omega
   .simp at hh
theorem qas{m:af}{nm k:Nat}{ds:List Int}(h:m.get nm=some (.obj false (ds.map (AV.int .i64)))):bW m (k+2) (.arr nm 0 ds.length none)=some (IA false .no ds,[nm]):=by
 have h1:((ds.map (AV.int .i64)).all c9)=true:=by simp[List.all_map,c9]
 have hg:m.obj? nm=some (false,ds.map (AV.int .i64)):=by rw[mC,h];rfl
 show (m.obj? nm).bind _=_;rw[hg];simp only[O,Sh.size,bA,bj,ii,aI,decide_true,ka,kP,aY,dk,iv (by simp:(ds.map (AV.int .i64)).length<=ds.length)];rw[DV];simp only[O,h1,Eu,kP,aY,jH];rw[iv aq]
theorem K1{m:af}{n k:Nat}:∀(nms:List Nat) (css:List (List Int)),nms.length=css.length->(∀i (h1:i<nms.length) (h2:i<css.length),m.get nms[i]=some (.obj false (css[i].map (AV.int .i64)))/\css[i].length=n)->eU (bW m (k+2)) (nms.map fun a=>.arr a 0 n none)=some (css.map (IA false .no),nms)
 | [],[],_,_=>rfl
 | [],_::_,h,_=>by simp at h
 | _::_,[],h,_=>by simp at h
 | a::nms,cs::css,h,hr=>by
  obtain ⟨r1,r2⟩:=hr 0 aq aq;simp only[List.getElem_cons_zero] at r1 r2
  have ih:=K1 (n:=n) (k:=k) (m:=m) nms css (by simpa using h) (fun i h1 h2=>by
   have:=hr (i+1) (by simpa using h1) (by simpa using h2)
   simpa using this)
  have h1:=qas (k:=k) r1;rw[r2] at h1;simp only[cU,eU,h1,O,ih,aP,List.singleton_append]
theorem LM:∀css:List (List Int),jM (css.map (IA false .no))=true
 | []=>rfl
 | c::css=>by
  have:pl (IA false .no c)=true:=rfl;simp[jM,this,LM css]
theorem qap{n t:Nat}{m0 m:af}{nms:List Nat}{css:List (List Int)}(h:AL n m0 m (.arr t 0 nms.length none) nms css):bW m iI (.arr t 0 nms.length none)=some (.lst none false .no (css.map (IA false .no)),t::nms):=by
 have hg:m.get t=some (.obj false (nms.map fun a=>.arr a 0 n none)):=by
  rcases h.x with ⟨e,_⟩|⟨t',e,_,hg,_,_⟩
  .cases e
  .cases e;exact hg
 have ho:m.obj? t=some (false,nms.map fun a=>.arr a 0 n none):=by rw[mC,hg];rfl
 have hlen:=h.len;have h1:((css.map (IA false .no)).all c9)=true:=by simp[List.all_map,c9,IA]
 show (m.obj? t).bind _=_;rw[ho];simp only[O,Sh.size,bA,bj,ii,aI,decide_true,ka,kP,aY,dk,iv (by simp:(nms.map fun a=>AV.arr a 0 n none).length<=nms.length)];rw[K1 nms css hlen h.row];simp only[O,h1,LM,kP,aY,jH];rw[iv (by simp;omega)]
theorem WH{z:Bool}{o:Own}{ar:List Int}(h1:∀x∈ar,1<=x/\x<=64)(hal:ar.length<=16)(hp:aN ar<=300){m0:af}:∀(j i:Nat) (m:af) (x:AV) (nms:List Nat) (css:List (List Int)),i+j=aN ar->AL ar.length m0 m x nms css->css.length=i->(∀k (h:k<css.length),Asn ar k css[k]) ->
  ∃(m':af) (x':AV) (nms':List Nat) (css':List (List Int)),xU (IA z o ar) x (.I i) m (Bu (aD f54))=some (x',m')/\AL ar.length m0 m' x' nms' css'/\css'.length=aN ar/\∀k (h:k<css'.length),Asn ar k css'[k]:=by
 have hpl:i7 1048576 1 ar=(aN ar:Nat):=by
  rw[LR ar 1 (fun a ha=>(h1 a ha).1) Z Z,Int.one_mul]
 intro j
 induction j with
 | zero=>
  intro i m x nms css hi h hl hc;refine ⟨m,x,nms,css,?_,h,Z,hc⟩;rw[GW,tz _ _ _ hal h1 1048576 Z,O,hpl,bS,O,az,ag Z,Sc]
 | succ j ih=>
  intro i m x nms css hi h hl hc;obtain ⟨cs,e64,hcs⟩:=NZ z o ar h1 hal (i:=i) Z Z m;obtain ⟨x1,m1,ea,g1⟩:=Xb h hcs.len Z
  obtain ⟨m',x',nms',css',e,k⟩:=ih (i+1) m1 x1 (nms++[m.length]) (css++[cs]) Z g1 (by simp[hl]) (fun k hk=>by
   by_cases hk2:k<css.length
   .rw[List.getElem_append_left hk2];exact hc k hk2
   .have:k=css.length:=by simp at hk;omega
    subst this;have e:(css++[cs])[css.length]'(by simp)=cs:=aq
    rw[e,hl];exact hcs)
  refine ⟨m',x',nms',css',?_,k⟩;have hb:cq none [.arr m.length 0 ar.length none]=some (.vec 1 none [.arr m.length 0 ar.length none]):=rfl;rw[GW,tz _ _ _ hal h1 1048576 Z,O,hpl,bS,O,az,ai Z,e64,O,hb,O,ea,O,b6 Z,O];exact e
theorem NY(z:Bool)(o:Own)(ar:List Int)(h1:∀x∈ar,1<=x/\x<=64)(hal:ar.length<=16)(hp:aN ar<=300)(m:af):∃(m':af) (t:Nat) (nms:List Nat) (css:List (List Int)),AC aa 54 [IA z o ar] m=some (.arr t 0 nms.length none,m')/\AL ar.length m m' (.arr t 0 nms.length none) nms css/\css.length=aN ar/\∀k (h:k<css.length),Asn ar k css[k]:=by
 obtain ⟨m',x',nms,css,e,g,hl,hc⟩:=WH (z:=z) (o:=o) h1 hal hp (m0:=m) (aN ar) 0 m aw [] [] Z ⟨rfl,fun k h=>by simp at h,aq,aq,⟨aI _,fun _ _=>rfl⟩,.inl ⟨rfl,rfl⟩⟩ rfl (fun k h=>by simp at h);have hpos:=qD fun x hx=>(h1 x hx).1;have hlen:=g.len
 rcases g.x with ⟨_,rfl⟩|⟨t,rfl,_⟩
 .simp at hlen;omega
 .refine ⟨m',t,nms,css,?_,g,hl,hc⟩;rw[U4];exact e
theorem VY(z:Bool)(o:Own)(ar:List Int)(h1:∀x∈ar,1<=x/\x<=64)(hal:ar.length<=16)(hp:aN ar<=300):∃(z':Bool) (o':Own) (css:List (List Int)),AP aa 54 [IA z o ar]=some (.lst none z' o' (css.map (IA false .no)))/\css.length=aN ar/\∀k (h:k<css.length),Asn ar k css[k]:=by
 obtain ⟨m',t,nms,css,e,g,hl,hc⟩:=NY z o ar h1 hal hp [];exact ⟨false,.no,css,fH e (qap g) rfl,hl,hc⟩
theorem qcg(z:Bool)(o:Own)(ar:List Int)(h1:∀x∈ar,1<=x/\x<=64)(hal:ar.length<=16)(hp:aN ar<=300)(m:af):∃(z':Bool) (o':Own) (css:List (List Int)),aF (AP aa) none m 54 [IA z o ar]=some (.lst none z' o' (css.map (IA false .no)),m)/\css.length=aN ar/\∀k (h:k<css.length),Asn ar k css[k]:=by
 obtain ⟨z',o',css,e,h⟩:=VY z o.fr ar h1 hal hp;exact ⟨z',o',css,by rw[b8 (gX z o ar),e];rfl,h⟩
section
variable {m:af} {s:Nat} {F:List Nat} {most:Int} {l:List ND} {zs z:Bool} {os o:Own} {ar:List Int} {cs:List Int}
end
end Go.Ab
namespace Go.Ab
noncomputable section
variable (a0 a1 a2 a3 a4 x0 x1 x2 x3 x4 x6 x7 x8 x9 x10 x11 x13 x14 x15 x17 x18 x19 x20 x21 x22:AV) (m:af) (K:KT)
open Go.Proofs.Tryz
theorem U9:AC aa 66 [a0,a1] m=(aL false a0).bind fun v1=>(AC aa 125 [a0,v1,a1] m).bind fun r2=>some ((.tup []),r2.2):=
(aZ aa 66 [a0,a1] m (fn:=f66) (c:=aA f66) YO rfl).trans aj
def Hl:St:=⟨(x0::x1::x2::aH (aG (x6::x7::bm (bh (aJ (aH (aG []))))))),m⟩
def um:OM:=bD 125 (jS (c2 (aA f125))) 2 (x0::x1::x2::aH (aG (x6::x7::x8::bm (bh (aJ (aH [])))))) m K
def Hm:St:=⟨(bm (bh (aO (aJ (aH (aG [])))))),m⟩
def pR:OM:=bD 125 (rm (c2 (c2 (aA f125)))) 7 (x0::x1::x2::aH (aG (x6::bm (bh (aO []))))) m K
def Hn:St:=⟨(x0::x1::x2::aH (aG (x6::x7::bm (bh (aJ (aH (aG []))))))),m⟩
def xh:OM:=bD 125 (jS (zb (aV (aA f125)))) 9 (x0::x1::x2::aH (aG (x6::x7::x8::bm (bh (aJ (aH [])))))) m K
abbrev OQ:KT:=bi 125 (c2 (c2 (c2 (aA f125)))) K
abbrev OR:KT:=be 0 (OQ K)
abbrev wJ:KT:=(OR K)
abbrev OV:KT:=be 3 (kI 125 (rm (c2 (c2 (aA f125)))) 7 K)
abbrev OW:KT:=bi 125 (C2 (rm (c2 (c2 (aA f125))))) (OV K)
abbrev OX:KT:=be 4 (OW K)
abbrev A3:KT:=(OX K)
abbrev OT:KT:=be 2 K
abbrev qQ:KT:=(OT K)
theorem Uf:AC aa 125 [a0,a1,a2] m=um a0 a1 a2 (.I 20) (.I 0) (.I 20) m (wJ (aD f125)):=
(aZ aa 125 [a0,a1,a2] m (fn:=f125) (c:=aA f125) XA rfl).trans aj
theorem FX:um x0 x1 x2 x6 x7 x8 m K=(ae .o .leq x8 x1).bind fun v1=>au v1 ((AC aa 165 [x0,x7,x8,x2] m).bind fun r2=>(ae .o .add x8 x6).bind fun v3=>um x0 x1 x2 x6 x8 v3 r2.2 K) (K (.exit 0) (Hl x0 x1 x2 x6 x7 m)):=
(bC (bw _) _ _ _).trans aj
theorem FY:pR x0 x1 x2 x6 m K=(ae .o .lss x6 x1).bind fun v1=>au v1 ((ae .o .mul (.I 2) x6).bind fun v2=>xh x0 x1 x2 x6 (.I 0) v2 m (A3 K)) (K (.exit 2) (Hm m)):=
(bC (bw _) _ _ _).trans aj
theorem FZ:xh x0 x1 x2 x6 x7 x8 m K=(ae .o .leq x8 x1).bind fun v1=>au v1 ((ae .o .add x7 x6).bind fun v2=>(AC aa 166 [x0,x7,v2,x8,x2] m).bind fun r3=>(ae .o .mul (.I 2) x6).bind fun v4=>(ae .o .add x8 v4).bind fun v5=>xh x0 x1 x2 x6 x8 v5 r3.2 K) (K (.exit 4) (Hn x0 x1 x2 x6 x7 m)):=
(bC (bw _) _ _ _).trans aj
theorem OS:wJ (aD f125) (.exit 0) (Hl x0 x1 x2 x6 x7 m)=(AC aa 165 [x0,x7,x1,x2] m).bind fun r1=>pR x0 x1 x2 x6 r1.2 (qQ (aD f125)):=aj
theorem OY:A3 K (.exit 4) (Hn x0 x1 x2 x6 x7 m)=(ae .o .add x7 x6).bind fun v1=>(ae .o .lss v1 x1).bind fun v2=>au v2 ((AC aa 166 [x0,x7,v1,x1,x2] m).bind fun r3=>(ae .o .mul x6 (.I 2)).bind fun v4=>pR x0 x1 x2 v4 r3.2 K) ((ae .o .mul x6 (.I 2)).bind fun v5=>pR x0 x1 x2 v5 m K):=aj
theorem OU:qQ (aD f125) (.exit 2) (Hm  m)=some ((.tup []),m):=aj
def Hu:St:=⟨(bm (bh (aJ (aG [])))),m⟩
def xC:OM:=bD 165 (c1 (c1 (c2 (aA f165)))) 1 (x0::x1::x2::x3::aJ (x8::bm (aO (aJ [])))) m K
def uL:St:=⟨(x0::x1::x2::x3::aJ (x8::bm (aO (aJ [])))),m⟩
def sw:OM:=bD 165 (bI (zb (c2 (aA f165)))) 4 (x0::x1::x2::x3::aJ (x8::x9::bm (aO (aH (aG []))))) m K
abbrev PV:KT:=be 0 K
abbrev wQ:KT:=(PV K)
abbrev PW:KT:=bi 165 (jf (c2 (aA f165))) (kI 165 (c1 (c1 (c2 (aA f165)))) 1 K)
abbrev PX:KT:=be 1 (PW K)
abbrev PY:KT:=be 2 (PX K)
abbrev Bb:KT:=(PY K)
theorem H5:AC aa 165 [a0,a1,a2,a3] m=(ae .o .add a1 (.I 1)).bind fun v1=>xC a0 a1 a2 a3 v1 m (wQ (aD f165)):=
(aZ aa 165 [a0,a1,a2,a3] m (fn:=f165) (c:=aA f165) X6 rfl).trans aj
theorem BF:xC x0 x1 x2 x3 x8 m K=(ae .o .lss x8 x2).bind fun v1=>au v1 (sw x0 x1 x2 x3 x8 x8 m (Bb K)) (K (.exit 0) (Hu m)):=
(bC (bw _) _ _ _).trans aj
theorem Gl:sw x0 x1 x2 x3 x8 x9 m K=(ae .o .gtr x9 x1).bind fun v1=>au v1 ((aE none x0 x9).bind fun v2=>(am none m v2).bind fun v3=>(ae .o .sub x9 (.I 1)).bind fun v4=>(aE none x0 v4).bind fun v5=>(am none m v5).bind fun v6=>(jj x3).bind fun g7=>iP aa 165 (AP aa) (AC aa) none g7.1 ([v3,v6]++g7.2) m fun v8 m9=>(ae .o .lss v8 (.I 0)).bind fun v10=>au v10 ((ae .o .sub x9 (.I 1)).bind fun v11=>(ae .o .sub x9 (.I 1)).bind fun v12=>(aE none x0 v12).bind fun v13=>(am none m9 v13).bind fun v14=>(aE none x0 x9).bind fun v15=>(am none m9 v15).bind fun v16=>(aE none x0 x9).bind fun v17=>(aM none m9 v17 v14).bind fun m18=>(aE none x0 v11).bind fun v19=>(aM none m18 v19 v16).bind fun m20=>(ae .o .sub x9 (.I 1)).bind fun v21=>sw x0 x1 x2 x3 x8 v21 m20 K) (K (.exit 2) (uL x0 x1 x2 x3 x8 m9))) (K (.exit 2) (uL x0 x1 x2 x3 x8 m)):=
(bC (bw _) _ _ _).trans aj
theorem FM:wQ (aD f165) (.exit 0) (Hu  m)=some ((.tup []),m):=aj
theorem PZ:Bb K (.exit 2) (uL x0 x1 x2 x3 x8 m)=(ae .o .add x8 (.I 1)).bind fun v1=>xC x0 x1 x2 x3 v1 m K:=aj
def B0:St:=⟨(x0::x1::aO (x10::bc (bc (bc (bh (aG [])))))),m⟩
def pT:OM:=bD 166 (jS (vr (aA f166))) 3 (x0::x1::aH (x4::aJ (aG (x10::x11::bc (bc (bc (bh []))))))) m K
def Hw:St:=⟨(bc (bc (bc (bh (aO (aJ [])))))),m⟩
def xE:OM:=bD 166 (bI (js (c2 (c1 (aA f166))))) 9 (x0::aO (aG (x10::aH (x13::bc (bc (bc (aO (aJ (aH []))))))))) m K
def BZ:St:=⟨(x0::aG (x2::aO (aH (aG (x14::bc (bc (bc (aO (aJ (aG [])))))))))),m⟩
def pS:OM:=bD 166 (jS (vr (c2 (aA f166)))) 15 (x0::aG (x2::aG (x4::aO (aG (x14::x15::bc (bc (bc (aO (aJ []))))))))) m K
def Hv:St:=⟨(bc (bc (bc (bh (aO (aJ [])))))),m⟩
def xD:OM:=bD 166 (bI (js (c2 (c1 (c2 (aA f166)))))) 21 (x0::aO (aJ (aG (x14::aH (x17::bc (bc (bc (aO (aH []))))))))) m K
def yw:St:=⟨(x0::x1::x2::x3::x4::aO (aJ (aG (x18::x19::x20::bc (bc (bc (aJ (aH (aG []))))))))),m⟩
def mL:OM:=bD 166 (jS (aV (c2 (c2 (aA f166))))) 33 (x0::x1::x2::x3::x4::aO (aJ (aG (x18::x19::x20::x21::x22::bc (bc (bc (aJ (aG [])))))))) m K
abbrev Qb:KT:=bi 166 (c2 (aA f166)) K
abbrev Qc:KT:=bi 166 (js (c2 (c1 (aA f166)))) (Qb K)
abbrev Qd:KT:=be 0 (Qc K)
abbrev Bf:KT:=(Qd K)
abbrev P0:KT:=bi 166 (c2 (c2 (aA f166))) K
abbrev P1:KT:=bi 166 (js (c2 (c1 (c2 (aA f166))))) (P0 K)
abbrev P2:KT:=be 4 (P1 K)
abbrev Bc:KT:=(P2 K)
abbrev P8:KT:=bi 166 (aV (aV (aA f166))) K
abbrev P9:KT:=be 8 (P8 K)
abbrev pP:KT:=(P9 K)
abbrev Qf:KT:=bi 166 (c2 (aA f166)) K
abbrev Qg:KT:=bi 166 (aV (c1 (c2 (c1 (aA f166))))) (Qf K)
abbrev Qh:KT:=be 2 (Qg K)
abbrev Bg:KT:=(Qh K)
abbrev P4:KT:=bi 166 (c2 (c2 (aA f166))) K
abbrev P5:KT:=bi 166 (aV (kn (aA f166))) (P4 K)
abbrev P6:KT:=be 6 (P5 K)
abbrev Be:KT:=(P6 K)
theorem UE:AC aa 166 [a0,a1,a2,a3,a4] m=(ae .o .sub a2 a1).bind fun v1=>(ae .o .eql v1 (.I 1)).bind fun v2=>au v2 (pT a0 a1 a4 a2 a3 m (Bf (aD f166))) ((ae .o .sub a3 a2).bind fun v3=>(ae .o .eql v3 (.I 1)).bind fun v4=>au v4 (pS a0 a2 a4 a1 a2 m (Bc (aD f166))) ((ae .o .add a1 a3).bind fun v5=>(ba .u64 v5).bind fun v6=>(ae .o .shr v6 (.U 1)).bind fun v7=>(ba .i64 v7).bind fun v8=>(ae .o .add v8 a2).bind fun v9=>(ae .o .gtr a2 v8).bind fun v10=>au v10 ((ae .o .sub v9 a3).bind fun v11=>(ae .o .sub v9 (.I 1)).bind fun v12=>mL a0 a1 a2 a3 a4 v8 v9 v11 v8 v12 m (pP (aD f166))) ((ae .o .sub v9 (.I 1)).bind fun v13=>mL a0 a1 a2 a3 a4 v8 v9 a1 a2 v13 m (pP (aD f166))))):=
(aZ aa 166 [a0,a1,a2,a3,a4] m (fn:=f166) (c:=aA f166) X7 rfl).trans aj
theorem Gq:pT x0 x1 x4 x10 x11 m K=(ae .o .lss x10 x11).bind fun v1=>au v1 ((ae .o .add x10 x11).bind fun v2=>(ba .u64 v2).bind fun v3=>(ae .o .shr v3 (.U 1)).bind fun v4=>(ba .i64 v4).bind fun v5=>(aE none x0 v5).bind fun v6=>(am none m v6).bind fun v7=>(aE none x0 x1).bind fun v8=>(am none m v8).bind fun v9=>(jj x4).bind fun g10=>iP aa 166 (AP aa) (AC aa) none g10.1 ([v7,v9]++g10.2) m fun v11 m12=>(ae .o .lss v11 (.I 0)).bind fun v13=>au v13 ((ae .o .add v5 (.I 1)).bind fun v14=>pT x0 x1 x4 v14 x11 m12 K) (pT x0 x1 x4 x10 v5 m12 K)) (K (.exit 0) (B0 x0 x1 x10 m)):=
(bC (bw _) _ _ _).trans aj
theorem Gs:xE x0 x10 x13 m K=(ae .o .sub x10 (.I 1)).bind fun v1=>(ae .o .lss x13 v1).bind fun v2=>au v2 ((ae .o .add x13 (.I 1)).bind fun v3=>(ae .o .add x13 (.I 1)).bind fun v4=>(aE none x0 v4).bind fun v5=>(am none m v5).bind fun v6=>(aE none x0 x13).bind fun v7=>(am none m v7).bind fun v8=>(aE none x0 x13).bind fun v9=>(aM none m v9 v6).bind fun m10=>(aE none x0 v3).bind fun v11=>(aM none m10 v11 v8).bind fun m12=>(ae .o .add x13 (.I 1)).bind fun v13=>xE x0 x10 v13 m12 K) (K (.exit 2) (Hw m)):=
(bC (bw _) _ _ _).trans aj
theorem Gm:pS x0 x2 x4 x14 x15 m K=(ae .o .lss x14 x15).bind fun v1=>au v1 ((ae .o .add x14 x15).bind fun v2=>(ba .u64 v2).bind fun v3=>(ae .o .shr v3 (.U 1)).bind fun v4=>(ba .i64 v4).bind fun v5=>(aE none x0 x2).bind fun v6=>(am none m v6).bind fun v7=>(aE none x0 v5).bind fun v8=>(am none m v8).bind fun v9=>(jj x4).bind fun g10=>iP aa 166 (AP aa) (AC aa) none g10.1 ([v7,v9]++g10.2) m fun v11 m12=>(ae .o .lss v11 (.I 0)).bind fun v13=>(il .not v13).bind fun v14=>au v14 ((ae .o .add v5 (.I 1)).bind fun v15=>pS x0 x2 x4 v15 x15 m12 K) (pS x0 x2 x4 x14 v5 m12 K)) (K (.exit 4) (BZ x0 x2 x14 m)):=
(bC (bw _) _ _ _).trans aj
theorem Gn:xD x0 x14 x17 m K=(ae .o .gtr x17 x14).bind fun v1=>au v1 ((ae .o .sub x17 (.I 1)).bind fun v2=>(ae .o .sub x17 (.I 1)).bind fun v3=>(aE none x0 v3).bind fun v4=>(am none m v4).bind fun v5=>(aE none x0 x17).bind fun v6=>(am none m v6).bind fun v7=>(aE none x0 x17).bind fun v8=>(aM none m v8 v5).bind fun m9=>(aE none x0 v2).bind fun v10=>(aM none m9 v10 v7).bind fun m11=>(ae .o .sub x17 (.I 1)).bind fun v12=>xD x0 x14 v12 m11 K) (K (.exit 6) (Hv m)):=
(bC (bw _) _ _ _).trans aj
theorem Gp:mL x0 x1 x2 x3 x4 x18 x19 x20 x21 x22 m K=(ae .o .lss x20 x21).bind fun v1=>au v1 ((ae .o .add x20 x21).bind fun v2=>(ba .u64 v2).bind fun v3=>(ae .o .shr v3 (.U 1)).bind fun v4=>(ba .i64 v4).bind fun v5=>(ae .o .sub x22 v5).bind fun v6=>(aE none x0 v6).bind fun v7=>(am none m v7).bind fun v8=>(aE none x0 v5).bind fun v9=>(am none m v9).bind fun v10=>(jj x4).bind fun g11=>iP aa 166 (AP aa) (AC aa) none g11.1 ([v8,v10]++g11.2) m fun v12 m13=>(ae .o .lss v12 (.I 0)).bind fun v14=>(il .not v14).bind fun v15=>au v15 ((ae .o .add v5 (.I 1)).bind fun v16=>mL x0 x1 x2 x3 x4 x18 x19 v16 x21 x22 m13 K) (mL x0 x1 x2 x3 x4 x18 x19 x20 v5 x22 m13 K)) (K (.exit 8) (yw x0 x1 x2 x3 x4 x18 x19 x20 m)):=
(bC (bw _) _ _ _).trans aj
theorem Qe:Bf (aD f166) (.exit 0) (B0 x0 x1 x10 m)=xE x0 x10 x1 m (Bg (aD f166)):=aj
theorem P3:Bc (aD f166) (.exit 4) (BZ x0 x2 x14 m)=xD x0 x14 x2 m (Be (aD f166)):=aj
theorem Qa:pP (aD f166) (.exit 8) (yw x0 x1 x2 x3 x4 x18 x19 x20 m)=(ae .o .sub x19 x20).bind fun v1=>(ae .o .lss x20 x2).bind fun v2=>au v2 ((ae .o .lss x2 v1).bind fun v3=>au v3 ((AC aa 186 [x0,x20,x2,v1,x4] m).bind fun r4=>(ae .o .lss x1 x20).bind fun v5=>au v5 ((ae .o .lss x20 x18).bind fun v6=>au v6 ((AC aa 166 [x0,x1,x20,x18,x4] r4.2).bind fun r7=>(ae .o .lss x18 v1).bind fun v8=>au v8 ((ae .o .lss v1 x3).bind fun v9=>au v9 ((AC aa 166 [x0,x18,v1,x3,x4] r7.2).bind fun r10=>some ((.tup []),r10.2)) (some ((.tup []),r7.2))) (some ((.tup []),r7.2))) ((ae .o .lss x18 v1).bind fun v11=>au v11 ((ae .o .lss v1 x3).bind fun v12=>au v12 ((AC aa 166 [x0,x18,v1,x3,x4] r4.2).bind fun r13=>some ((.tup []),r13.2)) (some ((.tup []),r4.2))) (some ((.tup []),r4.2)))) ((ae .o .lss x18 v1).bind fun v14=>au v14 ((ae .o .lss v1 x3).bind fun v15=>au v15 ((AC aa 166 [x0,x18,v1,x3,x4] r4.2).bind fun r16=>some ((.tup []),r16.2)) (some ((.tup []),r4.2))) (some ((.tup []),r4.2)))) ((ae .o .lss x1 x20).bind fun v17=>au v17 ((ae .o .lss x20 x18).bind fun v18=>au v18 ((AC aa 166 [x0,x1,x20,x18,x4] m).bind fun r19=>(ae .o .lss x18 v1).bind fun v20=>au v20 ((ae .o .lss v1 x3).bind fun v21=>au v21 ((AC aa 166 [x0,x18,v1,x3,x4] r19.2).bind fun r22=>some ((.tup []),r22.2)) (some ((.tup []),r19.2))) (some ((.tup []),r19.2))) ((ae .o .lss x18 v1).bind fun v23=>au v23 ((ae .o .lss v1 x3).bind fun v24=>au v24 ((AC aa 166 [x0,x18,v1,x3,x4] m).bind fun r25=>some ((.tup []),r25.2)) (some ((.tup []),m))) (some ((.tup []),m)))) ((ae .o .lss x18 v1).bind fun v26=>au v26 ((ae .o .lss v1 x3).bind fun v27=>au v27 ((AC aa 166 [x0,x18,v1,x3,x4] m).bind fun r28=>some ((.tup []),r28.2)) (some ((.tup []),m))) (some ((.tup []),m))))) ((ae .o .lss x1 x20).bind fun v29=>au v29 ((ae .o .lss x20 x18).bind fun v30=>au v30 ((AC aa 166 [x0,x1,x20,x18,x4] m).bind fun r31=>(ae .o .lss x18 v1).bind fun v32=>au v32 ((ae .o .lss v1 x3).bind fun v33=>au v33 ((AC aa 166 [x0,x18,v1,x3,x4] r31.2).bind fun r34=>some ((.tup []),r34.2)) (some ((.tup []),r31.2))) (some ((.tup []),r31.2))) ((ae .o .lss x18 v1).bind fun v35=>au v35 ((ae .o .lss v1 x3).bind fun v36=>au v36 ((AC aa 166 [x0,x18,v1,x3,x4] m).bind fun r37=>some ((.tup []),r37.2)) (some ((.tup []),m))) (some ((.tup []),m)))) ((ae .o .lss x18 v1).bind fun v38=>au v38 ((ae .o .lss v1 x3).bind fun v39=>au v39 ((AC aa 166 [x0,x18,v1,x3,x4] m).bind fun r40=>some ((.tup []),r40.2)) (some ((.tup []),m))) (some ((.tup []),m)))):=aj
theorem Qi:Bg (aD f166) (.exit 2) (Hw  m)=some ((.tup []),m):=aj
theorem P7:Be (aD f166) (.exit 6) (Hv  m)=some ((.tup []),m):=aj
def Hx:St:=⟨(x0::aG (x2::aG (x4::aJ (aG (x10::bm (aO (aJ (aH (aG []))))))))),m⟩
def ut:OM:=bD 186 (jS (c2 (aA f186))) 2 (x0::aG (x2::aG (x4::aJ (aG (x10::x11::bm (aO (aJ (aH [])))))))) m K
abbrev QJ:KT:=bi 186 (c2 (c2 (c2 (aA f186)))) K
abbrev QK:KT:=be 0 (QJ K)
abbrev Bj:KT:=(QK K)
theorem UM:AC aa 186 [a0,a1,a2,a3,a4] m=(ae .o .sub a2 a1).bind fun v1=>(ae .o .sub a3 a2).bind fun v2=>ut a0 a2 a4 v1 v2 m (Bj (aD f186)):=
(aZ aa 186 [a0,a1,a2,a3,a4] m (fn:=f186) (c:=aA f186) Yi rfl).trans aj
theorem BI:ut x0 x2 x4 x10 x11 m K=(ae .o .neq x10 x11).bind fun v1=>au v1 ((ae .o .gtr x10 x11).bind fun v2=>au v2 ((ae .o .sub x2 x10).bind fun v3=>(AC aa 201 [x0,v3,x2,x11,x4] m).bind fun r4=>(ae .o .sub x10 x11).bind fun v5=>ut x0 x2 x4 v5 x11 r4.2 K) ((ae .o .sub x2 x10).bind fun v6=>(ae .o .add x2 x11).bind fun v7=>(ae .o .sub v7 x10).bind fun v8=>(AC aa 201 [x0,v6,v8,x10,x4] m).bind fun r9=>(ae .o .sub x11 x10).bind fun v10=>ut x0 x2 x4 x10 v10 r9.2 K)) (K (.exit 0) (Hx x0 x2 x4 x10 m)):=
(bC (bw _) _ _ _).trans aj
theorem QL:Bj (aD f186) (.exit 0) (Hx x0 x2 x4 x10 m)=(ae .o .sub x2 x10).bind fun v1=>(AC aa 201 [x0,v1,x2,x10,x4] m).bind fun r2=>some ((.tup []),r2.2):=aj
def Hy:St:=⟨(bm (aJ (aH []))),m⟩
def xL:OM:=bD 201 (c1 (c1 (c2 (aA f201)))) 1 (x0::x1::x2::x3::aJ (aH (x10::bh (aO (aH (aG [])))))) m K
abbrev Rk:KT:=be 0 K
abbrev Bq:KT:=(Rk K)
theorem UQ:AC aa 201 [a0,a1,a2,a3,a4] m=xL a0 a1 a2 a3 (.I 0) m (Bq (aD f201)):=
(aZ aa 201 [a0,a1,a2,a3,a4] m (fn:=f201) (c:=aA f201) Ym rfl).trans aj
theorem GF:xL x0 x1 x2 x3 x10 m K=(ae .o .lss x10 x3).bind fun v1=>au v1 ((ae .o .add x1 x10).bind fun v2=>(ae .o .add x2 x10).bind fun v3=>(ae .o .add x2 x10).bind fun v4=>(aE none x0 v4).bind fun v5=>(am none m v5).bind fun v6=>(ae .o .add x1 x10).bind fun v7=>(aE none x0 v7).bind fun v8=>(am none m v8).bind fun v9=>(aE none x0 v2).bind fun v10=>(aM none m v10 v6).bind fun m11=>(aE none x0 v3).bind fun v12=>(aM none m11 v12 v9).bind fun m13=>(ae .o .add x10 (.I 1)).bind fun v14=>xL x0 x1 x2 x3 v14 m13 K) (K (.exit 0) (Hy m)):=
(bC (bw _) _ _ _).trans aj
theorem Rl:Bq (aD f201) (.exit 0) (Hy  m)=some ((.tup []),m):=aj
end
end Go.Ab
namespace Go.Ab
open Go.Proofs Go.Proofs.Tryz
abbrev ni(n:Nat):AV:=.I (n:Int)
def ds(l:List Nat):List AV:=(l.map Int.ofNat).map (AV.int .i64)
theorem Da(l:List Nat):(ds l).length=l.length:=by simp[ds]
theorem zp{l:List Nat}{i x:Nat}(h:l[i]?=some x):(ds l)[i]?=some (ni x):=by simp[ds,h]
theorem Z8(l:List Nat)(i x:Nat):(ds l).set i (ni x)=ds (l.set i x):=by simp[ds,List.map_set]
structure SD (m0:af) (nm N L:Nat) (m:af) (l:List Nat):Prop where
 fr:Fr m0 m [nm]
 hd:m.get nm=some (.obj false (ds l))
 hl:l.length=L
 hN:∀x∈l,x<N
def lU(m0:af)(nm N:Nat)(p:AV)(f:Nat->Int):Prop:=∀m,Fr m0 m [nm]->∀x y:Nat,x<N->y<N->∃m',AC aa 67 [ni x,ni y,p] m=some (.I (f x-f y),m')/\Fr m m' []
section
variable {m0:af} {nm N L:Nat} {m:af} {l:List Nat}
theorem SD.ld(h:SD m0 nm N L m l){i x:Nat}(hi:l[i]?=some x):am none m (.ptr nm i)=some (ni x):=by
 rw[cS,h.hd,jx,O,pi];exact zp hi
theorem SD.ld'(h:SD m0 nm N L m l){i:Nat}(hi:i<L):am none m (.ptr nm i)=some (ni (l.getD i 0))/\l.getD i 0<N:=by
 have hil:i<l.length:=by rw[h.hl];exact hi
 have e:l[i]?=some (l.getD i 0):=by rw[aK,bn hil];rfl
 exact ⟨h.ld e,h.hN _ (List.mem_of_getElem? e)⟩
theorem SD.st(h:SD m0 nm N L m l){i x:Nat}(hi:i<l.length):aM none m (.ptr nm i) (ni x)=some (m.set nm (some (.obj false (ds (l.set i x))))):=by
 have hg:m.obj? nm=some (false,ds l):=by rw[mC,h.hd];rfl
 have h1:i+1<=l.length:=hi;simp only[aM,hg,O,Sh.size,Da,h1,aY,cu,c9,AV.cells];congr 4;rw[<- Z8,bf,yj,ai (by rw[Da];exact hi)];simp
theorem SD.cmp(h:SD m0 nm N L m l){p:AV}{f:Nat->Int}(hc:lU m0 nm N p f){x y:Nat}(hx:x<N)(hy:y<N):∃m',AC aa 67 ([ni x,ni y]++[p]) m=some (.I (f x-f y),m')/\SD m0 nm N L m' l:=by
 obtain ⟨m',e,k⟩:=hc m h.fr x y hx hy;refine ⟨m',e,Fr.trans h.fr k (fun _ h=>by cases h),?_,h.hl,h.hN⟩;rw[k.get nm (bo h.hd) aq];exact h.hd
theorem qdX{P M Q:List Nat}{x y:Nat}:(P++x::(M++y::Q))[P.length]?=some x/\(P++x::(M++y::Q))[P.length+1+M.length]?=some y /\
  ((P++x::(M++y::Q)).set P.length y).set (P.length+1+M.length) x=P++y::(M++x::Q)/\((P++x::(M++y::Q)).set (P.length+1+M.length) x).set P.length y=P++y::(M++x::Q):=by
 have a:∀(P':List Nat) (u v:Nat) (R:List Nat),(P'++u::R)[P'.length]?=some u/\(P'++u::R).set P'.length v=P'++v::R:=fun P' u v R=>by
  constructor
  .simp
  .induction P' with
   | nil=>rfl
   | cons c P' ih=>simp
 have e1:P++x::(M++y::Q)=(P++x::M)++y::Q:=aq;have e2:P++y::(M++y::Q)=(P++y::M)++y::Q:=aq;have l1:P.length+1+M.length=(P++x::M).length:=by simp;omega
 have l2:P.length+1+M.length=(P++y::M).length:=by simp;omega
 refine ⟨(a P x y _).1,?_,?_,?_⟩
 .rw[e1,l1];exact (a (P++x::M) y x Q).1
 .rw[(a P x y (M++y::Q)).2,e2,l2,(a (P++y::M) y x Q).2];simp
 .rw[e1,l1,(a (P++x::M) y x Q).2];have:(P++x::M)++x::Q=P++x::(M++x::Q):=aq;rw[this,(a P x y _).2]
theorem SD.put(h:SD m0 nm N L m l){l':List Nat}(hp:l'.Perm l)(hlen:l'.length=l.length){m':af}(fr:Fr m m' [nm])(hd:m'.get nm=some (.obj false (ds l'))):SD m0 nm N L m' l':=
 ⟨Fr.trans h.fr fr (fun x hx=>.inl hx),hd,hlen.trans h.hl,fun x hx=>h.hN x (hp.mem_iff.1 hx)⟩
theorem SD.swap{P M Q:List Nat}{x y i j:Nat}(h:SD m0 nm N L m (P++x::(M++y::Q)))(hi:i=P.length)(hj:j=P.length+1+M.length) :
  am none m (.ptr nm i)=some (ni x)/\am none m (.ptr nm j)=some (ni y) /\
  (∃m1 m2,aM none m (.ptr nm i) (ni y)=some m1/\aM none m1 (.ptr nm j) (ni x)=some m2/\SD m0 nm N L m2 (P++y::(M++x::Q))) /\
  (∃m1 m2,aM none m (.ptr nm j) (ni x)=some m1/\aM none m1 (.ptr nm i) (ni y)=some m2/\SD m0 nm N L m2 (P++y::(M++x::Q))):=by
 subst hi hj;obtain ⟨a1,a2,a3,a4⟩:=qdX (P:=P) (M:=M) (Q:=Q) (x:=x) (y:=y);have hlt:=bo h.hd;have li:P.length<(P++x::(M++y::Q)).length:=aq;have lj:P.length+1+M.length<(P++x::(M++y::Q)).length:=by simp;omega
 have hp:(P++y::(M++x::Q)).Perm (P++x::(M++y::Q)):=by
  refine uG P ?_;have e:∀u v:Nat,(u::(M++v::Q)).Perm (u::v::(M++Q)):=fun u v=>List.Perm.cons u List.perm_middle;exact (e y x).trans ((List.Perm.swap x y _).trans (e x y).symm)
 have go:∀(i j u v:Nat),i<(P++x::(M++y::Q)).length->j<(P++x::(M++y::Q)).length->u<N->((P++x::(M++y::Q)).set i u).set j v=P++y::(M++x::Q) ->
   ∃m1 m2,aM none m (.ptr nm i) (ni u)=some m1/\aM none m1 (.ptr nm j) (ni v)=some m2/\SD m0 nm N L m2 (P++y::(M++x::Q)):=by
  intro i j u v hi hj hu he
  refine ⟨_,(m.set nm (some (.obj false (ds ((P++x::(M++y::Q)).set i u))))).set nm (some (.obj false (ds (P++y::(M++x::Q))))),h.st hi,?_,?_⟩
  .have h':SD m0 nm N L (m.set nm (some (.obj false (ds ((P++x::(M++y::Q)).set i u))))) ((P++x::(M++y::Q)).set i u):=by
    refine ⟨h.fr.set _ (.inl aq),b7 rfl hlt,by rw[ff];exact h.hl,fun z hz=>?_⟩
    rcases List.mem_or_eq_of_mem_set hz with hz|rfl
    .exact h.hN z hz
    .exact hu
   rw[h'.st (by rw[ff];exact hj),he]
  .exact h.put hp aq (((Fr.refl m [nm]).set _ (.inl (by simp))).set _ (.inl aq)) (b7 rfl (by rw[ff];exact hlt))
 have hx:=h.hN x aq;have hy:=h.hN y aq;exact ⟨h.ld a1,h.ld a2,go _ _ _ _ li lj hy a3,go _ _ _ _ lj li hx a4⟩
end
section
variable {m0:af} {nm N L:Nat} {p:AV} {f:Nat->Int}
theorem WB(hL:L<=100000)(x4:AV){pre mid post:List Nat}(a b n:Nat)(ha:a=pre.length)(hb:b=a+n+mid.length):∀(X2 Y2 X1 Y1:List Nat) (m:af),X2.length=Y2.length->X1.length=Y1.length->X1.length+X2.length=n ->
  SD m0 nm N L m (pre++(Y1++(X2++(mid++(X1++(Y2++post)))))) ->
  ∃m',xL (.arr nm 0 L none) (ni a) (ni b) (ni n) (ni X1.length) m (Bq (aD f201))=some (.tup [],m')/\SD m0 nm N L m' (pre++((Y1++Y2)++(mid++((X1++X2)++post)))):=by
 intro X2
 induction X2 with
 | nil=>
  intro Y2 X1 Y1 m h2 h1 hn h;have:Y2=[]:=kR (by simpa using h2.symm);subst this;refine ⟨m,?_,by simpa using h⟩;rw[GF,bg,O,az,ag (by simp at hn;omega),Rl]
 | cons x X2 ih=>
  intro Y2 X1 Y1 m h2 h1 hn h
  cases Y2 with
  | nil=>simp at h2
  | cons y Y2=>
   simp only[a8] at h2 hn;have hl:=h.hl;simp only[aQ,a8] at hl;have h':SD m0 nm N L m ((pre++Y1)++x::((X2++(mid++X1))++y::(Y2++post))):=by simpa using h
   obtain ⟨l1,l2,⟨m1,m2,s1,s2,k⟩,_⟩:=h'.swap (i:=a+X1.length) (j:=b+X1.length) (by simp;omega) (by simp;omega);obtain ⟨m',e,k'⟩:=ih Y2 (X1++[x]) (Y1++[y]) m2 Z (by simp[h1]) (by simp;omega) (by simpa using k);refine ⟨m',?_,by simpa using k'⟩;have ia:aE none (.arr nm 0 L none) (ni (a+X1.length))=some (.ptr nm (a+X1.length)):=de Z;have ib:aE none (.arr nm 0 L none) (ni (b+X1.length))=some (.ptr nm (b+X1.length)):=de Z;rw[GF,bg,O,az,ai Z,iJ Z,O,iJ Z,O,O,ib,O,l2,O,O,ia,O,l1,O,O,s1,O,O,s2,O,b6 Z,O];rw[aQ,pW] at e;exact e
theorem AO(hL:L<=100000)(x4:AV){pre mid post X Y:List Nat}{m:af}(hXY:X.length=Y.length)(h:SD m0 nm N L m (pre++(X++(mid++(Y++post))))){a b n:Nat}(ha:a=pre.length)(hn:n=X.length)(hb:b=a+n+mid.length) :
  ∃m',AC aa 201 [.arr nm 0 L none,ni a,ni b,ni n,x4] m=some (.tup [],m')/\SD m0 nm N L m' (pre++(Y++(mid++(X++post)))):=by
 obtain ⟨m',e,k⟩:=WB hL x4 a b n ha hb X Y [] [] m hXY rfl (by simp[hn]) (by simpa using h);exact ⟨m',by rw[UQ];exact e,by simpa using k⟩
theorem Wv(hL:L<=100000)(x4:AV)(mm:Nat):∀(k:Nat) (P A B Q:List Nat) (m:af),A.length+B.length=k->A≠[]->B≠[]->mm=P.length+A.length->SD m0 nm N L m (P++(A++(B++Q))) ->
  ∃m',ut (.arr nm 0 L none) (ni mm) x4 (ni A.length) (ni B.length) m (Bj (aD f186))=some (.tup [],m')/\SD m0 nm N L m' (P++(B++(A++Q))):=by
 intro k
 induction k using Nat.strongRecOn with
 | ind k ih=>
  intro P A B Q m hk hA hB hm h;have hl:=h.hl;simp only[aQ] at hl;have a0:=sM.2 hA;have b0:=sM.2 hB
  by_cases he:A.length=B.length
  .obtain ⟨m',e,k'⟩:=AO hL x4 (mid:=[]) he (by simpa using h) (a:=P.length) (b:=mm) (n:=A.length) rfl rfl (by simp[hm]);refine ⟨m',?_,by simpa using k'⟩;rw[BI,gt,O,az,ag (by rw[he];simp),QL,jI Z Z,O,show mm-A.length=P.length by omega,e,O]
  .by_cases hg:B.length<A.length
   .have eA:A=A.take B.length++A.drop B.length:=(kg _ _).symm;have t1:(A.take B.length).length=B.length:=by rw[iu];omega
    have t2:(A.drop B.length).length=A.length-B.length:=mM
    obtain ⟨m1,e,k1⟩:=AO hL x4 (pre:=P) (X:=A.take B.length) (mid:=A.drop B.length) (Y:=B) (post:=Q) t1 (by
     rw[<- bE (A.take B.length),kg];exact h) (a:=P.length) (b:=mm) (n:=B.length) rfl t1.symm Z
    obtain ⟨m',e2,k2⟩:=ih A.length Z (P++B) (A.drop B.length) (A.take B.length) Q m1 Z (oR Z) (oR Z) (by simp;omega) (by simpa using k1)
    refine ⟨m',?_,?_⟩
    .rw[BI,gt,O,az,ai Z,gI,O,az,ai Z,jI Z Z,O,show mm-A.length=P.length by omega,e,O,jI Z Z,O];rw[t1,t2] at e2;exact e2
    .have:=k2;rw[bE,<- bE (A.take B.length),kg] at this;exact this
   .have eB:B=B.take (B.length-A.length)++B.drop (B.length-A.length):=(kg _ _).symm;have t1:(B.take (B.length-A.length)).length=B.length-A.length:=by rw[iu];omega
    have t2:(B.drop (B.length-A.length)).length=A.length:=by rw[mM];omega
    obtain ⟨m1,e,k1⟩:=AO hL x4 (pre:=P) (X:=A) (mid:=B.take (B.length-A.length)) (Y:=B.drop (B.length-A.length)) (post:=Q) t2.symm (by
     rw[<- bE (B.take (B.length-A.length)),kg];exact h) (a:=P.length) (b:=mm+B.length-A.length) (n:=A.length) rfl rfl Z
    obtain ⟨m',e2,k2⟩:=ih B.length Z P (B.drop (B.length-A.length)) (B.take (B.length-A.length)) (A++Q) m1 Z (oR Z) (oR Z) Z (by simpa using k1)
    refine ⟨m',?_,?_⟩
    .rw[BI,gt,O,az,ai Z,gI,O,az,ag Z,jI Z Z,O,show mm-A.length=P.length by omega,iJ Z,O,jI Z Z,O,e,O,jI Z Z,O];rw[t1,t2] at e2;exact e2
    .have:=k2;rw[<- bE (B.take (B.length-A.length)),kg] at this;exact this
theorem Ns(hL:L<=100000)(x4:AV){P A B Q:List Nat}{m:af}(hA:A≠[])(hB:B≠[])(h:SD m0 nm N L m (P++(A++(B++Q)))){a mm b:Nat}(ha:a=P.length)(hm:mm=a+A.length)(hb:b=mm+B.length) :
  ∃m',AC aa 186 [.arr nm 0 L none,ni a,ni mm,ni b,x4] m=some (.tup [],m')/\SD m0 nm N L m' (P++(B++(A++Q))):=by
 have hl:=h.hl;simp only[aQ] at hl;obtain ⟨m',e,k⟩:=Wv hL x4 mm _ P A B Q m rfl hA hB Z h;refine ⟨m',?_,k⟩;rw[UM,jI Z Z,O,jI Z Z,O,show mm-a=A.length by omega,show b-mm=B.length by omega];exact e
theorem Wq(hL:L<=100000)(hc:lU m0 nm N p f){pre post:List Nat}(x2 x8:AV){x:Nat}(K:KT):∀(k:Nat) (S1 S2:List Nat) (m:af),S1.length=k->b9 f (S1++S2)->(∀s∈S2,f x<=f s)->SD m0 nm N L m (pre++(S1++x::(S2++post))) ->
  ∃(m':af) (T1 T2:List Nat),sw (.arr nm 0 L none) (ni pre.length) x2 (.fn 67 [p]) x8 (ni (pre.length+S1.length)) m K=K (.exit 2) (uL (.arr nm 0 L none) (ni pre.length) x2 (.fn 67 [p]) x8 m') /\
   SD m0 nm N L m' (pre++(T1++x::(T2++post)))/\T1++T2=S1++S2/\(∀t∈T1,f t<=f x)/\∀t∈T2,f x<=f t:=by
 intro k
 induction k with
 | zero=>
  intro S1 S2 m hk hs h2 h;have:S1=[]:=kR hk;subst this;refine ⟨m,[],S2,?_,h,rfl,aq,h2⟩;rw[Gl,gI,O,az,ag aq]
 | succ k ih=>
  intro S1 S2 m hk hs h2 h
  obtain ⟨S,y,rfl⟩:∃S y,S1=S++[y]:=by
   have hne:S1≠[]:=fun e=>by simp[e] at hk
   exact ⟨S1.dropLast,S1.getLast hne,(List.dropLast_concat_getLast hne).symm⟩
  have hl:=h.hl;simp only[aQ,a8,bq] at hl hk ⊢;have h':SD m0 nm N L m ((pre++S)++y::([]++x::(S2++post))):=by simpa using h
  have hjl:pre.length+(S.length+1)-1=(pre++S).length:=aq;have hj:pre.length+(S.length+1)=(pre++S).length+1+([]:List Nat).length:=by simp;omega
  obtain ⟨l1,l2,_,_⟩:=h'.swap hjl hj;have hx:=h.hN x aq;have hy:=h.hN y aq;obtain ⟨m1,e1,k1⟩:=h.cmp hc hx hy;have ia:aE none (.arr nm 0 L none) (ni (pre.length+(S.length+1)))=some (.ptr nm (pre.length+(S.length+1))):=de Z;have ib:aE none (.arr nm 0 L none) (ni (pre.length+(S.length+1)-1))=some (.ptr nm (pre.length+(S.length+1)-1)):=de Z;have is:ae .o .sub (ni (pre.length+(S.length+1))) (.I 1)=some (ni (pre.length+(S.length+1)-1)):=lh Z Z
  have hpr:sw (.arr nm 0 L none) (ni pre.length) x2 (.fn 67 [p]) x8 (ni (pre.length+(S.length+1))) m K=au (.bool (decide (f x-f y<0))) (
    (ae .o .sub (ni (pre.length+(S.length+1))) (.I 1)).bind fun v11=>
    (ae .o .sub (ni (pre.length+(S.length+1))) (.I 1)).bind fun v12=>
    (aE none (.arr nm 0 L none) v12).bind fun v13=>
    (am none m1 v13).bind fun v14=>
    (aE none (.arr nm 0 L none) (ni (pre.length+(S.length+1)))).bind fun v15=>
    (am none m1 v15).bind fun v16=>
    (aE none (.arr nm 0 L none) (ni (pre.length+(S.length+1)))).bind fun v17=>
    (aM none m1 v17 v14).bind fun m18=>
    (aE none (.arr nm 0 L none) v11).bind fun v19=>
    (aM none m18 v19 v16).bind fun m20=>
    (ae .o .sub (ni (pre.length+(S.length+1))) (.I 1)).bind fun v21=>
    sw (.arr nm 0 L none) (ni pre.length) x2 (.fn 67 [p]) x8 v21 m20 K) (K (.exit 2) (uL (.arr nm 0 L none) (ni pre.length) x2 (.fn 67 [p]) x8 m1)):=by
   rw[Gl,gI,O,az,ai Z,ia,O,l2,O,is,O,ib,O,l1,O,show jj (.fn 67 [p])=some (67,[p]) from rfl,O,nD rfl rfl rfl,e1,O,bg,O]
  rw[hpr,az]
  by_cases hlt:f x-f y<0
  .rw[ai hlt];have k1':SD m0 nm N L m1 ((pre++S)++y::([]++x::(S2++post))):=by simpa using k1
   obtain ⟨l1',l2',_,⟨m2,m3,s1,s2,k3⟩⟩:=k1'.swap hjl hj
   obtain ⟨m',T1,T2,e,q1,q2,q3,q4⟩:=ih S (y::S2) m3 Z (by simpa using hs) (fun s hs'=>by
    rcases cE.1 hs' with rfl|hs'
    .omega
    .exact h2 s hs') (by simpa using k3)
   refine ⟨m',T1,T2,?_,q1,by rw[q2];simp,q3,q4⟩;rw[is,O,O,ib,O,l1',O,ia,O,l2',O,O,s1,O,O,s2,O,O];exact e
  .rw[ag hlt];refine ⟨m1,S++[y],S2,rfl,k1,rfl,fun t ht=>?_,h2⟩;have:=b9.le_last (b9.app.1 hs).1 t ht;omega
theorem Wr(hL:L<=100000)(hc:lU m0 nm N p f){pre post:List Nat}(b:Nat):∀(R S:List Nat) (m:af),b9 f S->b=pre.length+S.length+R.length->SD m0 nm N L m (pre++(S++(R++post))) ->
  ∃(m':af) (S':List Nat),xC (.arr nm 0 L none) (ni pre.length) (ni b) (.fn 67 [p]) (ni (pre.length+S.length)) m (wQ (aD f165))=some (.tup [],m')/\SD m0 nm N L m' (pre++(S'++post))/\S'.Perm (S++R)/\b9 f S':=by
 intro R
 induction R with
 | nil=>
  intro S m hs hb h;refine ⟨m,S,?_,by simpa using h,aq,hs⟩;rw[BF,bg,O,az,ag (by simp at hb;omega),FM]
 | cons x R ih=>
  intro S m hs hb h;have hl:=h.hl;simp only[aQ,a8] at hl hb;obtain ⟨m1,T1,T2,e,q1,q2,q3,q4⟩:=Wq hL hc (pre:=pre) (post:=R++post) (ni b) (ni (pre.length+S.length)) (x:=x) (Bb (wQ (aD f165))) S.length S [] m rfl (by simpa using hs) aq (by simpa using h);rw[aW] at q2;have hs':b9 f (T1++x::T2):=b9.put (by rw[q2];exact hs) q3 q4;have hlen:(T1++x::T2).length=S.length+1:=by rw[<- q2];simp;omega
  have hpm:(T1++x::T2).Perm (S++[x]):=by rw[<- q2];exact List.perm_middle.trans (List.perm_append_singleton x _).symm
  obtain ⟨m',S',e2,k1,k2,k3⟩:=ih (T1++x::T2) m1 hs' (by rw[hlen];omega) (by simpa using q1)
  refine ⟨m',S',?_,k1,k2.trans ?_,k3⟩
  .rw[BF,bg,O,az,ai Z,e,PZ,b6 Z,O];rw[hlen] at e2;exact e2
  .refine (hpm.append_right R).trans ?_;simp
theorem Fl(hL:L<=100000)(hc:lU m0 nm N p f){pre X post:List Nat}{m:af}(h:SD m0 nm N L m (pre++(X++post))){a b:Nat}(ha:a=pre.length)(hb:b=a+X.length) :
  ∃(m':af) (X':List Nat),AC aa 165 [.arr nm 0 L none,ni a,ni b,.fn 67 [p]] m=some (.tup [],m')/\SD m0 nm N L m' (pre++(X'++post))/\X'.Perm X/\b9 f X':=by
 have hl:=h.hl;simp only[aQ] at hl;subst ha
 cases X with
 | nil=>
  refine ⟨m,[],?_,by simpa using h,aq,List.Pairwise.nil⟩;rw[H5,b6 Z,O,BF,bg,O,az,ag (by simp at hb;omega),FM]
 | cons x R=>
  obtain ⟨m',S',e,k1,k2,k3⟩:=Wr hL hc (pre:=pre) (post:=post) b R [x] m (List.pairwise_singleton _ _) (by rw[hb];simp only[a8,bq];omega) (by simpa using h);refine ⟨m',S',?_,k1,by simpa using k2,k3⟩;rw[H5,b6 Z,O];exact e
end
end Go.Ab
namespace Go.Ab
noncomputable section
variable (a0 a1 a2 a3 a4 x0 x3 x4 x22 x23 x24:AV) (m:af) (K:KT)
open Go.Proofs.Tryz
theorem U8:AC aa 65 [a0,a1] m=(cQ none none m a0).bind fun r1=>(am none (aC none r1.2 (.B [aw])).2 r1.1).bind fun v2=>(d7 v2).bind fun v3=>(aR 1 v3).bind fun v4=>(am none (aC none r1.2 (.B [aw])).2 v4).bind fun v5=>(aL false v5).bind fun v6=>(fU none 4 none (.bool false) 1 (aC none r1.2 (.B [aw])).2 v6 v6).bind fun r7=>(aM none (aC none r7.2 (.B [aw])).2 (.ptr (aC none r7.2 .resv).1 0) r7.1).bind fun m8=>(aM none (aC none m8 (.B [.nilf])).2 (.ptr (aC none m8 .resv).1 0) (.fn 124 [(.ptr (aC none r7.2 .resv).1 0),r1.1,(.ptr (aC none m8 .resv).1 0),(.ptr (aC none r1.2 .resv).1 0)])).bind fun m9=>(am none m9 (.ptr (aC none m8 .resv).1 0)).bind fun v10=>(jj v10).bind fun g11=>iP aa 65 (AP aa) (AC aa) none g11.1 ([a1]++g11.2) m9 fun v12 m13=>(am none m13 (.ptr (aC none r1.2 .resv).1 0)).bind fun v14=>some (v14,m13):=
(aZ aa 65 [a0,a1] m (fn:=f65) (c:=aA f65) YN rfl).trans aj
def BR:St:=⟨(x0::aH (aG (x4::bh (aO (aJ (aH (aG []))))))),m⟩
def ul:OM:=bD 124 (bI (c2 (c2 (aA f124)))) 3 (x0::aH (x3::x4::bh (aG (x22::x23::x24::aO (aH (aG [])))))) m K
abbrev ON:KT:=bi 124 (c2 (c2 (c2 (aA f124)))) K
abbrev OO:KT:=be 0 (ON K)
abbrev uc:KT:=(OO K)
theorem H0:AC aa 124 [a0,a1,a2,a3,a4] m=(am none m a1).bind fun v1=>(aE none v1 a0).bind fun v2=>(am none m v2).bind fun v3=>au v3 (some ((.tup []),m)) ((am none m a1).bind fun v4=>(aE none v4 a0).bind fun v5=>(aM none m v5 (.bool true)).bind fun m6=>(am none m6 a2).bind fun v7=>(d7 v7).bind fun v8=>(aR 1 v8).bind fun v9=>(am none m6 v9).bind fun v10=>(aE (some 3) v10 a0).bind fun v11=>(aR 1 v11).bind fun v12=>(am none m6 v12).bind fun v13=>(aL false v13).bind fun v14=>ul a0 a3 a4 v13 v14 (.I 0) m6 (uc (aD f124))):=
(aZ aa 124 [a0,a1,a2,a3,a4] m (fn:=f124) (c:=aA f124) Xz rfl).trans aj
theorem FW:ul x0 x3 x4 x22 x23 x24 m K=(ae .o .lss x24 x23).bind fun v1=>au v1 ((aE none x22 x24).bind fun v2=>(am none m v2).bind fun v3=>(am none m x3).bind fun v4=>(jj v4).bind fun g5=>iP aa 124 (AP aa) (AC aa) none g5.1 ([v3]++g5.2) m fun v6 m7=>(ae .o .add x24 (.I 1)).bind fun v8=>ul x0 x3 x4 x22 x23 v8 m7 K) (K (.exit 0) (BR x0 x4 m)):=
(bC (bw _) _ _ _).trans aj
theorem OP:uc (aD f124) (.exit 0) (BR x0 x4 m)=(am none m x4).bind fun v1=>(cq none [x0]).bind fun v2=>(bF none true 3 none 8 m v1 v2).bind fun r3=>(aM none r3.2 x4 r3.1).bind fun m4=>some ((.tup []),m4):=aj
theorem TY:AC aa 106 [a0] m=(cQ none (some 3) m a0).bind fun r1=>(aR 2 r1.1).bind fun v2=>(am none r1.2 v2).bind fun v3=>(aR 0 r1.1).bind fun v4=>(am none r1.2 v4).bind fun v5=>(ae .o .lss v5 (.I 0)).bind fun v6=>some ((.tup [v3,v6]),r1.2):=
(aZ aa 106 [a0] m (fn:=f106) (c:=aA f106) Xs rfl).trans aj
end
end Go.Ab
namespace Go.Ab
open Go.Proofs Go.Proofs.Tryz
theorem kw{m:af}{nm:Nat}{b:Bool}{v:AV}(h:m.get nm=some (.obj b [v])):am none m (.ptr nm 0)=some v:=by
 rw[cS,h,jx,O];rfl
theorem EX{m:af}{nm:Nat}{b:Bool}{v0 v:AV}(h:m.get nm=some (.obj b [v0]))(hv:cu none v=true)(hc:v.cells=[v]):aM none m (.ptr nm 0) v=some (m.set nm (some (.obj b [v]))):=by
 rw[oA,h,jx,O];simp[bH,Sh.size,hv,bf,hc]
theorem DM{m:af}{nm i:Nat}{ds:List Bool}(h:m.get nm=some (.obj false (ds.map .bool)))(hi:i<ds.length):am none m (.ptr nm i)=some (.bool (ds.getD i false)):=by
 rw[cS,h,jx,O,pi,pU,bn hi,aK,bn hi];rfl
theorem EW{m:af}{nm i:Nat}{ds:List Bool}{y:Bool}(h:m.get nm=some (.obj false (ds.map .bool)))(hi:i<ds.length):aM none m (.ptr nm i) (.bool y)=some (m.set nm (some (.obj false ((ds.set i y).map .bool)))):=by
 have hg:m.obj? nm=some (false,ds.map .bool):=by rw[mC,h];rfl
 have h1:i+1<=ds.length:=hi;simp only[aM,hg,O,Sh.size,bA,h1,aY,cu,c9,AV.cells];congr 4;simp only[bf,a8,bq];rw[List.map_set,yj];simp[hi,sN,List.map_drop]
theorem zr(a b c:AV):aR 1 (.vptr [a,b,c])=some (.vptr [b,c]):=rfl
theorem Df(a b c:AV):aR 0 (.vptr [a,b,c])=some (.vptr [a,b,c]):=rfl
theorem JT(a b c:AV):aR 2 (.vptr [a,b,c])=some (.vptr [c]):=rfl
theorem zI(m:af)(a b:AV):am none m (.vptr [a,b])=some a:=rfl
theorem vS(s:Nat)(m:af)(e:Ent):aC (some s) m e=(s,m.set s (some e)):=rfl
inductive GA (m:af):AV->List Nat->List Nat->Prop
 | none:GA m aw [] []
 | some (t:Nat) (l:List Nat) (h:m.get t=some (.obj false (ds l))) (hne:l≠[]):GA m (.arr t 0 l.length none) l [t]
theorem J3{m m':af}{x:AV}{l T:List Nat}(h:GA m x l T)(hm:∀y∈T,m'.get y=m.get y):GA m' x l T:=by
 cases h with
 | none=>exact .none
 | some t l h hne=>exact .some t l ((hm t (by simp)).trans h) hne
theorem J4{m:af}{x:AV}{l T:List Nat}(h:GA m x l T):cu none x=true/\x.cells=[x]:=by
 cases h<;>exact ⟨rfl,rfl⟩
theorem qay{m:af}{x:AV}{l T:List Nat}(h:GA m x l T)(hl:l.length<=100000)(v:Nat):∃x' m' T',bF none true 3 none 8 m x (.lst none false .full [ni v])=some (x',m')/\GA m' x' (l++[v]) T'/\Fr m m' T/\Gr m T T':=by
 cases h with
 | none=>
  have ha:bF none true 3 none 8 m aw (.lst none false .full [ni v])=some (.arr m.length 0 1 none,m++[some (.obj false [ni v])]):=by
   simp only[bF,bq,a8,bj,aY,or_true,bX,aC]
   rfl
  refine ⟨_,_,[m.length],ha,.some m.length [v] (by rw[bG rfl];rfl) aq,Fr.app m _ _,fun k hk=>?_⟩;obtain rfl:k=m.length:=by simpa using hk
  exact .inr (aI _)
 | some t l hg hne=>
  have hpos:=sM.2 hne;have htl:=bo hg;have ho:m.obj? t=some (false,ds l):=by rw[mC,hg];rfl
  have hY:tE m none (.lst none false .full [ni v])=some (1,[ni v]):=rfl
  have hX:pI m none (.arr t 0 l.length none)=some (l.length,ds l,m.set t none):=by
   simp only[pI,ho,O];rw[ai ⟨trivial,trivial,hpos,trivial,by simp[Sh.size,Da]⟩]
  have ha:bF none true 3 none 8 m (.arr t 0 l.length none) (.lst none false .full [ni v])=some (.arr (m.set t none).length 0 (l.length+1) none,m.set t none++[some (.obj false (ds l++[ni v]))]):=by
   simp only[bF,pa,hY,hX,O];rw[ai (show (l.length+1)*8<=fq by unfold fq;omega)]
  have e:ds l++[ni v]=ds (l++[v]):=by simp[ds]
  have e2:l.length+1=(l++[v]).length:=aq;refine ⟨_,_,[(m.set t none).length],by rw[ha,e,e2],.some _ (l++[v]) (by rw[bG rfl]) aq,((Fr.refl m [t]).set _ (.inl (by simp))).snoc _,fun k hk=>?_⟩;obtain rfl:k=(m.set t none).length:=by simpa using hk
  exact .inr aq
structure LS (m0 m:af) (b s:Nat) (sb:List Bool) (out:List Nat) (x:AV) (T:List Nat):Prop where
 hb:b=m0.length
 fr:Fr m0 m []
 h0:m.get b=some (.B [.ptr s 0])
 h1:m.get (b+1)=some (.B [x])
 h2:m.get (b+2)=some (.obj false (sb.map .bool))
 h3:m.get (b+3)=some (.B [.arr (b+2) 0 sb.length none])
 h4:m.get (b+4)=some (.B [.fn 124 [.ptr (b+3) 0,.ptr b 0,.ptr (b+4) 0,.ptr (b+1) 0]])
 gr:GA m x out T
 hT:∀y∈T,b+5<=y
theorem mA:∀(n:Nat) (l:List Nat),l.Nodup->(∀x∈l,x<n)->l.length<=n
 | 0,[],_,_=>aI _
 | 0,x::l,_,h=>by have:=h x cF;omega
 | n+1,l,hn,h=>by
  by_cases hm:n∈l
  .have e:=yh hm
   have:=mA n (l.erase n) (hn.erase n) fun x hx=>by
    have h1:=(hn.mem_erase_iff).1 hx;have:=h x h1.2;have:=h1.1;omega
   omega
  .have:=mA n l hn fun x hx=>by
    have h1:=h x hx;have:x≠n:=fun e=>hm (e▸hx);omega
   omega
section
variable {m0:af} {b s:Nat} {F:List Nat} {arms:AV} {most:Int} {l:List ND} {ar:List Int}
def Fy(l:List ND)(m0:af)(b s id:Nat):Prop:=∀(m:af) (sb:List Bool) (out:List Nat) (x:AV) (T:List Nat),LS m0 m b s sb out x T->sb.length=l.length->Cl l out->(∀i,i<=id->sb.getD i false=decide (i∈out)) ->
 ∃(m':af) (sb':List Bool) (x':AV) (T':List Nat),AC aa 124 [.I id,.ptr (b+3) 0,.ptr b 0,.ptr (b+4) 0,.ptr (b+1) 0] m=some (.tup [],m')/\LS m0 m' b s sb' (Vi l id out) x' T'/\sb'.length=l.length /\
  (∀i,i<=id->sb'.getD i false=decide (i∈Vi l id out))/\∀i,id<i->sb'.getD i false=sb.getD i false
theorem qei(g:GoodL ar l){id:Nat}(hid:id<l.length)(hll:l.length<=100000)(ih:∀k,k<id->Fy l m0 b s k){z:Bool}{o:Own}{kids:List Int}(hk:∀k∈kids,∃t:Nat,k=t/\t<id)(hkl:kids.length<=1000):∀(j i:Nat) (m:af) (sb:List Bool) (out:List Nat) (x:AV) (T:List Nat),i+j=kids.length->LS m0 m b s sb out x T->sb.length=l.length->Cl l out->(∀i,i<id->sb.getD i false=decide (i∈out)) ->
  ∃(m':af) (sb':List Bool) (x':AV) (T':List Nat),ul (.I id) (.ptr (b+4) 0) (.ptr (b+1) 0) (IA z o kids) (.I kids.length) (.I i) m (uc (aD f124))=uc (aD f124) (.exit 0) (BR (.I id) (.ptr (b+1) 0) m') /\
   LS m0 m' b s sb' (fI l (kids.drop i) out) x' T'/\sb'.length=l.length/\(∀i,i<id->sb'.getD i false=decide (i∈fI l (kids.drop i) out)\/True)/\(∀q,q<id->sb'.getD q false=decide (q∈fI l (kids.drop i) out))/\∀q,id<=q->sb'.getD q false=sb.getD q false:=by
 intro j
 induction j with
 | zero=>
  intro i m sb out x T hi h hsl hc hsb
  refine ⟨m,sb,x,T,?_,?_,hsl,fun _ _=>.inr trivial,?_,fun _ _=>rfl⟩
  .rw[FW,bg,O,az,ag Z]
  .rw[fQ Z];exact h
  .rw[fQ Z];exact hsb
 | succ j ihj=>
  intro i m sb out x T hi h hsl hc hsb;have hil:i<kids.length:=Z;obtain ⟨t,et,ht⟩:=hk _ (bp hil);obtain ⟨m1,sb1,x1,T1,e1,k1,k2,k3,k4⟩:=ih t ht m sb out x T h hsl hc (fun q hq=>hsb q Z);obtain ⟨c1,c2,r,c3,c4⟩:=kV g t Z out hc
  have hsb1:∀q,q<id->sb1.getD q false=decide (q∈Vi l t out):=fun q hq=>by
   by_cases hqt:q<=t
   .exact k3 q hqt
   .rw[k4 q Z,hsb q hq];refine iz.2 ⟨fun hh=>by rw[c3];exact qV _ hh,fun hh=>?_⟩;rw[c3] at hh
    rcases cI.1 hh with hh|hh
    .exact hh
    .have:=c4 q hh;omega
  obtain ⟨m',sb',x',T',e2,n1,n2,_,n3,n4⟩:=ihj (i+1) m1 sb1 (Vi l t out) x1 T1 Z k1 k2 c1 hsb1
  have ed:fI l (kids.drop i) out=fI l (kids.drop (i+1)) (Vi l t out):=by
   rw[ic hil,sW,et,cB]
  refine ⟨m',sb',x',T',?_,by rw[ed];exact n1,n2,fun _ _=>.inr trivial,by rw[ed];exact n3,fun q hq=>by rw[n4 q hq,k4 q Z]⟩;have e1:AC aa 124 ([.I kids[i]]++[.ptr (b+3) 0,.ptr b 0,.ptr (b+4) 0,.ptr (b+1) 0]) m=some (.tup [],m1):=by rw[et];exact e1
  rw[FW,bg,O,az,ai Z,fw hil,O,cr,O,kw h.h4,O,show jj (.fn 124 [.ptr (b+3) 0,.ptr b 0,.ptr (b+4) 0,.ptr (b+1) 0])=some (124,[.ptr (b+3) 0,.ptr b 0,.ptr (b+4) 0,.ptr (b+1) 0]) from rfl,O,nD rfl rfl rfl,e1,O,b6 Z,O];exact e2
theorem NN(h0:bB m0 s F arms most l)(hb:b=m0.length)(g:GoodL ar l)(hll:l.length<=100000):∀id,id<l.length->Fy l m0 b s id:=by
 intro id
 induction id using Nat.strongRecOn with
 | ind id ih=>
  intro hid m sb out x T h hsl hc hsb;have hsb0:=hsb id (aI _);have ld3:=kw h.h3;have hixa:aE none (.arr (b+2) 0 sb.length none) (.I id)=some (.ptr (b+2) id):=de Z;have st:=h0.app h.fr;obtain ⟨p,na,TT,st,_⟩:=st;have hs:=st.hs;have hnx:=ou st.hn hid;have lb:=DM h.h2 (i:=id) Z;have b2:=bo h.h2;have b4:=bo h.h4
  have hsm:s<m0.length:=by
   obtain ⟨p,na,TT,st0,_⟩:=h0;exact bo st0.hs
  by_cases hm:id∈out
  .rw[eT hm] at hsb0
   refine ⟨m,sb,x,T,?_,?_,hsl,?_,fun _ _=>rfl⟩
   .rw[H0,ld3,O,hixa,O,lb,O,hsb0,gJ]
   .rw[n6 g hid,ai hm];exact h
   .rw[n6 g hid,ai hm];exact hsb
  .rw[eX hm] at hsb0;have sbq:=EW (y:=true) h.h2 (i:=id) Z
   have h':LS m0 (m.set (b+2) (some (.obj false ((sb.set id true).map .bool)))) b s (sb.set id true) out x T:=by
    refine ⟨hb,h.fr.set _ (.inr Z),?_,?_,?_,?_,?_,?_,h.hT⟩
    .rw[bO Z];exact h.h0
    .rw[bO Z];exact h.h1
    .exact b7 rfl b2
    .rw[bO Z,ff];exact h.h3
    .rw[bO Z];exact h.h4
    .exact J3 h.gr fun y hy=>bO (by have:=h.hT y hy;omega)
   have hsb':∀q,q<id->(sb.set id true).getD q false=decide (q∈out):=fun q hq=>by
    rw[aK,qU Z,<- aK];exact hsb q Z
   have hkA:=qs (st.ok _ (bp hid))
   have hkl:l[id].kids.length<=1000:=by
    rcases st.ok _ (bp hid) with ⟨_,h2,_⟩|⟨_,_,_,_,h5⟩
    .rw[h2];simp
    .omega
   obtain ⟨m1,sb1,x1,T1,e1,k1,k2,_,k3,k4⟩:=qei g hid hll (fun k hk=>ih k hk Z) (z:=kz l[id]) (o:=ko l[id]) (kids:=l[id].kids) (fun k hk=>mw g hid k hk) hkl l[id].kids.length 0 _ _ out x T Z h' (by rw[ff];exact hsl) hc hsb';rw[dk] at k1 k3;obtain ⟨c1,c2,r,c3,c4⟩:=CG g hid l[id].kids (fun k hk=>mw g hid k hk) out hc
   have hl2:(fI l l[id].kids out).length<=l.length:=by
    exact mA _ _ c1.nd c1.lt
   obtain ⟨x2,m2,T2,ea,g2,f2,gg2⟩:=qay k1.gr Z id;have hne:∀q,q<b+5->q∉T1:=fun q hq hT=>by have:=k1.hT q hT;omega
   have ge:∀q,q<b+5->m2.get q=m1.get q:=fun q hq=>f2.get q (by have:=bo k1.h4;omega) (hne q hq);have hl1:=bo k1.h4;have hl12:=f2.len;have g21:m2.get (b+1)=some (.B [x1]):=by rw[ge _ Z];exact k1.h1
   have eV:Vi l id out=fI l l[id].kids out++[id]:=by rw[n6 g hid,ag hm]
   have sx:aM none m2 (.ptr (b+1) 0) x2=some (m2.set (b+1) (some (.B [x2]))):=EX g21 (J4 g2).1 (J4 g2).2
   refine ⟨m2.set (b+1) (some (.B [x2])),sb1,x2,T2,?_,?_,k2,?_,?_⟩
   .rw[H0,ld3,O,hixa,O,lb,O,hsb0,cD];rw[O,hixa,O,sbq,O,kw h'.h0,O,iq,O,fJ,O]
    have ldna:am none (m.set (b+2) (some (.obj false ((sb.set id true).map .bool)))) (.ptr s (0+1))=some na:=by
     rw[cS,bO Z,hs];rfl
    rw[ldna,O,hnx,O,zr,O,zI,O,hkA,fc,O];have e1:ul (.I id) (.ptr (b+4) 0) (.ptr (b+1) 0) (IA (kz l[id]) (ko l[id]) l[id].kids) (.I l[id].kids.length) (.I 0) (m.set (b+2) (some (.obj false ((sb.set id true).map .bool)))) (uc (aD f124))=_:=e1;rw[e1,OP,kw k1.h1,O,kX,O,ea,O,sx,O]
   .rw[eV]
    refine ⟨hb,(Fr.trans k1.fr f2 fun y hy=>.inr (by have:=k1.hT y hy;omega)).set _ (.inr Z),?_,?_,?_,?_,?_,?_,?_⟩
    .rw[bO Z,ge _ Z];exact k1.h0
    .exact b7 rfl Z
    .rw[bO Z,ge _ Z];exact k1.h2
    .rw[bO Z,ge _ Z];exact k1.h3
    .rw[bO Z,ge _ Z];exact k1.h4
    .refine J3 g2 fun y hy=>bO ?_
     rcases gg2 y hy with hh|hh
     .have:=k1.hT y hh;omega
     .omega
    .intro y hy
     rcases gg2 y hy with hh|hh
     .exact k1.hT y hh
     .omega
   .intro q hq;rw[eV]
    by_cases hqi:q=id
    .subst hqi;rw[k4 q (aI _),aK,pV Z,bQ];exact (eT (by simp)).symm
    .rw[k3 q Z];refine iz.2 ⟨fun hh=>qV _ hh,fun hh=>?_⟩
     rcases cI.1 hh with hh|hh
     .exact hh
     .exact absurd (by simpa using hh) hqi
   .intro q hq;rw[k4 q Z,aK,qU Z,<- aK]
theorem DT(m:af)(n:Nat)(h:n<=100000):fU none 4 none (.bool false) 1 m (.I n) (.I n)=some (.arr m.length 0 n none,m++[some (Ent.obj false ((List.replicate n false).map .bool))]):=by
 have h3:(n:Int)*1<=281474976710656:=Z;have h4:(n:Int)<=9223372036854775807:=Z;have h5:(0:Int)<=n:=Z;simp only[fU,aC,nk,lC,aY,cB,List.map_replicate];rw[ai ⟨h5,trivial,h3,h4⟩]
theorem AR(h0:bB m0 s F arms most l)(g:GoodL ar l)(hll:l.length<=100000){id:Nat}(hid:id<l.length):∃(m':af) (x:AV) (T:List Nat),AC aa 65 [.ptr s 0,.I id] m0=some (x,m')/\GA m' x (Vi l id []) T/\Fr m0 m' []/\∀y∈T,m0.length<=y:=by
 have hx:=h0;obtain ⟨p,na,TT,h,_⟩:=hx;have hs:=h.hs;have hsl:=bo hs
 have hlen:aL false na=some (.I l.length):=by
  cases h.hn with
  | none=>rfl
  | some t l ht=>rw[jX,bA]
 have mk:=fun m=>DT m l.length hll;generalize hM:(List.set ((List.set (((m0++[some (Ent.B [.ptr s 0])])++[some (Ent.B [aw])])++[some (Ent.obj false ((List.replicate l.length false).map .bool))]++[some (Ent.B [aw])]) (m0.length+1+1+1) (some (Ent.B [.arr (m0.length+1+1) 0 l.length none])))++[some (Ent.B [.nilf])]) (m0.length+1+1+1+1) (some (Ent.B [.fn 124 [.ptr (m0.length+1+1+1) 0,.ptr m0.length 0,.ptr (m0.length+1+1+1+1) 0,.ptr (m0.length+1) 0]])))=M
 have ls:LS m0 M m0.length s (List.replicate l.length false) [] aw []:=by
  rw[<- hM]
  refine ⟨rfl,?_,(by simp (disch:=first|assumption|omega|simp only[aX]<;>omega|fail) only[di,bP,bG,bO,b7]<;>rfl),(by simp (disch:=first|assumption|omega|simp only[aX]<;>omega|fail) only[di,bP,bG,bO,b7]<;>rfl),(by simp (disch:=first|assumption|omega|simp only[aX]<;>omega|fail) only[di,bP,bG,bO,b7]<;>rfl),?_,(by simp (disch:=first|assumption|omega|simp only[aX]<;>omega|fail) only[di,bP,bG,bO,b7]<;>rfl),.none,aq⟩
  .exact ((((((Fr.app m0 _ _).snoc _).snoc _).snoc _).set _ (.inr (by omega))).snoc _).set _ (.inr Z)
  .rw[oP];exact (by simp (disch:=first|assumption|omega|simp only[aX]<;>omega|fail) only[di,bP,bG,bO,b7]<;>rfl)
 obtain ⟨m',sb',x',T',e,k1,_,_,_⟩:=NN h0 rfl g hll id hid M (List.replicate l.length false) [] aw [] ls aq lL (fun i hi=>by
  rw[aK,sK,ai Z];rfl)
 refine ⟨m',x',T',?_,k1.gr,k1.fr,fun y hy=>by have:=k1.hT y hy;omega⟩;rw[U8]
 repeat ((with_reducible first|apply bs|apply bK);(focus first|(simp (disch:=first|assumption|omega|simp only[aX]<;>omega|fail) only[bJ,beq_self_eq_true,bH,O,Sh.size,aY,bf,Nat.reduceAdd,Nat.reduceLeDiff,aI,hs,hlen,mk,ml]<;>rfl)|rfl);try dsimp only)
 have en:(aC none (m0++[some (Ent.B [.ptr s 0])]) .resv).1=m0.length+1:=by simp[pD]
 rw[nD rfl rfl rfl,hM,List.singleton_append,e,O,en];dsimp only;rw[kw k1.h1,O]
end
end Go.Ab
namespace Go.Ab
open Go.Proofs Go.Proofs.Tryz
def pe:Nat->List Nat->List (AV×AV)
 | _,[]=>[]
 | k,i::l=>(.I i,.I k)::pe (k+1) l
theorem LG(n:Nat):∀(l:List Nat) (k:Nat),pe k (l++[n])=pe k l++[(.I n,.I (k+l.length:Nat))]
 | [],k=>rfl
 | x::l,k=>by
  rw[cc,pe,pe,LG n l (k+1)];simp only[cc,a8];congr 5;omega
theorem LH:∀(l:List Nat) (k:Nat),(pe k l).length=l.length
 | [],_=>rfl
 | _::l,k=>by rw[pe,a8,LH l,a8]
theorem Er{n:Nat}:∀(l:List Nat) (k:Nat),(pe k l).find? (fun p=>fF p.1 (.I n))=if n∈l then some (.I n,.I (k+l.idxOf n:Nat)) else none
 | [],k=>rfl
 | x::l,k=>by
  have hk:fF (.I (x:Int)) (.I (n:Int))=decide (x=n):=by
   simp only[fF,nA,decide_true,jc];exact iz.2 Z
  rw[pe,List.find?_cons,hk]
  by_cases he:x=n
  .subst he;simp
  .rw[eX he];simp only[];rw[Er l (k+1)];have:n∈x::l↔n∈l:=⟨fun h=>(cE.1 h).resolve_left (fun e=>he e.symm),cP _⟩
   by_cases hm:n∈l
   .rw[ai hm,ai (this.2 hm),List.idxOf_cons,cond_eq_ite,ag (by simpa using he)];congr 3;omega
   .rw[ag hm,ag (fun h=>hm (this.1 h))]
theorem tg{n:Nat}(h:n<=1000000):gK (.int .i64) (.I n)=true:=by
 have h1:IntKind.min .i64<=(n:Int):=by show (-9223372036854775808:Int)<=n;omega
 have h2:(n:Int)<=IntKind.max .i64:=by show (n:Int)<=9223372036854775807;omega
 simp only[gK,jV,wu,eT h1,eT h2,decide_true,kP]
theorem qbl{m:af}{p n:Nat}{l:List Nat}(hp:m.get p=some (.mp (.int .i64) (pe 0 l)))(hn:n<=1000000)(hm:n∈l)(z:AV):i6 (.int .i64) z m (.mref p) (.I n)=some (.I (l.idxOf n:Nat),true):=by
 have h1:gR m (.int .i64) (.mref p)=some (p,pe 0 l):=by simp[gR,hp]
 unfold i6;rw[h1];simp only[O,tg hn,aY,qu,Er l 0,ai hm,bj]
theorem qd6{m:af}{p n:Nat}{l:List Nat}(hp:m.get p=some (.mp (.int .i64) (pe 0 l)))(hn:n<=1000000)(hm:n∉l)(hl:l.length<=100000):gM (.int .i64) m (.mref p) (.I n) (.I l.length)=some (m.set p (some (.mp (.int .i64) (pe 0 (l++[n]))))):=by
 have h1:gR m (.int .i64) (.mref p)=some (p,pe 0 l):=by simp[gR,hp]
 have h3:(pe 0 l).any (fun p=>fF p.1 (.I n))=false:=by
  have:=Er (n:=n) l 0;rw[ag hm,List.find?_eq_none] at this;rw[List.any_eq_false];exact this
 unfold gM;rw[h1,O,ai ⟨tg hn,rfl,by rw[LH];unfold maxLen;omega⟩,LG];simp only[i8,h3,bj]
theorem Ll{e:Nat}{m:af}{x:AV}{l:List ND}{T:List Nat}(h:NR e m x l T)(hl:l.length<=100000)(n:ND):∃x' m' T',bF none false e (some 3) 40 m x (.lst (some 3) false .full [n.av])=some (x',m')/\NR e m' x' (l++[n]) T'/\Fr m m' T/\Gr m T T':=by
 have h2:(l.length+1)*40<=fq:=by unfold fq;omega
 cases h with
 | none=>
  refine ⟨.lst (some 3) false (.tok m.length e) [n.av],m++[some (Ent.tok 1 3)],[m.length],?_,.some _ [n] (by simp (disch:=first|assumption|omega|simp only[aX]<;>omega|fail) only[di,bP,bG,bO,b7]<;>rfl),Fr.app m _ _,fun k hk=>?_⟩
  .have h2:40<=fq:=by unfold fq;omega
   simp[bF,h2,aC,Sh.size]
  .obtain rfl:k=m.length:=by simpa using hk
   exact .inr (aI _)
 | some t es ht=>
  have htl:=bo ht
  refine ⟨.lst (some 3) false (.tok t e) (l.map ND.av++[n.av]),m.set t (some (Ent.tok (l.length+1) 3)),[t],?_,?_,(Fr.refl m [t]).set _ (.inl aq),Gr.refl _ _⟩
  .simp[bF,ht,Sh.size,h2]
  .have e3:l.map ND.av++[n.av]=(l++[n]).map ND.av:=aq;rw[e3];refine .some t (l++[n]) ?_;rw[b7 rfl htl,aQ];rfl
theorem MS{m:af}{x:AV}{ks:List Int}{T:List Nat}(h:GR 3 m x (ks.map (AV.int .i64)) T){n:ND}(hk:n.kids=ks)(hn:n.ok)(hne:¬ n.var<0->ks≠[]):∃z o,x=.lst none z o (n.kids.map (AV.int .i64))/\lr (.lst none z o (n.kids.map (AV.int .i64)))=bM n:=by
 subst hk;generalize he:n.kids.map (AV.int .i64)=es at h
 cases h with
 | none=>
  refine ⟨true,.full,rfl,?_⟩;unfold bM
  rw[ai]
  .rfl
  .refine Decidable.byContradiction fun hv=>hne hv (oQ.1 he)
 | some t es ht hne2=>
  refine ⟨false,.tok t 3,rfl,?_⟩;unfold bM
  rw[ag,he]
  .rfl
  .intro hv
   rcases hn with ⟨_,h2,_⟩|⟨h1,_⟩
   .rw[h2] at he;exact hne2 he.symm
   .omega
section
variable {m0:af} {s:Nat} {F:List Nat} {arms:AV} {most:Int} {l:List ND} {ar:List Int}
theorem WE{pm c:Nat}{p:List Nat}{v leaf:Int}{kids:List Int}{x0:AV}(hp0:p.length<=100000)(hpb:∀y∈p,y<=1000000){m1:af}(hc:c<m1.length)(hpm:pm<m1.length)(hne:pm≠c){z:Bool}{o:Own}(hk:∀k∈kids,∃t:Nat,k=t/\t∈p)(hkl:kids.length<=1000)(hp:m1.get pm=some (.mp (.int .i64) (pe 0 p)))(x6 x7 x22 x23 x24:AV)(hx6:x6=.mref pm)(K:KT):∀(j i:Nat) (m:af) (x:AV) (T:List Nat),i+j=kids.length->Fr m1 m [c]->m.get c=some (.B [.I v,x,.I leaf])->GR 3 m x (((kids.take i).map fun k=>((p.idxOf k.toNat:Nat):Int)).map (AV.int .i64)) T->(∀y∈T,m1.length<=y) ->
  ∃(m':af) (x':AV) (T':List Nat),uz x0 x6 x7 (.ptr c 0) x22 x23 x24 (IA z o kids) (.I kids.length) (.I i) m (ue K)=ue K (.exit 2) (Ci x0 x6 x7 (.ptr c 0) x22 x23 x24 m')/\Fr m1 m' [c]/\m'.get c=some (.B [.I v,x',.I leaf])/\GR 3 m' x' ((kids.map fun k=>((p.idxOf k.toNat:Nat):Int)).map (AV.int .i64)) T'/\∀y∈T',m1.length<=y:=by
 subst hx6;intro j
 induction j with
 | zero=>
  intro i m x T hi f hg hr hT;rw[iv Z] at hr;refine ⟨m,x,T,?_,f,hg,hr,hT⟩;rw[GP,bg,O,az,ag Z]
 | succ j ih=>
  intro i m x T hi f hg hr hT;have hil:i<kids.length:=Z;obtain ⟨t,et,ht⟩:=hk _ (bp hil);have hcl:=bo hg;have hpg:m.get pm=some (.mp (.int .i64) (pe 0 p)):=(f.get _ hpm (by simpa using hne)).trans hp;have lk:=qbl hpg (hpb t ht) ht (.I 0);obtain ⟨x2,m2,T2,ea,g2,f2,gg2⟩:=nF (b:=8) hr (by simp;omega) Z (.I (p.idxOf t:Nat));have hcT:c∉T:=fun h=>by have:=hT c h;omega
  have g2c:m2.get c=some (.B [.I v,x,.I leaf]):=(f2.get _ hcl hcT).trans hg;obtain ⟨xz,xo,rfl,_⟩:=qp g2
  have st:aM none m2 (.ptr c (0+1)) (.lst none xz xo (((kids.take i).map fun k=>((p.idxOf k.toNat:Nat):Int)).map (AV.int .i64)++[.I (p.idxOf t:Nat)]))=some (m2.set c (some (.B [.I v,.lst none xz xo (((kids.take i).map fun k=>((p.idxOf k.toNat:Nat):Int)).map (AV.int .i64)++[.I (p.idxOf t:Nat)]),.I leaf]))):=by
   rw[oA,g2c,jx,O];rfl
  have hcl2:=bo g2c
  have ek:(((kids.take i).map fun k=>((p.idxOf k.toNat:Nat):Int)).map (AV.int .i64)++[.I (p.idxOf t:Nat)])=((kids.take (i+1)).map fun k=>((p.idxOf k.toNat:Nat):Int)).map (AV.int .i64):=by
   rw[kC hil,gW,gW,et];rfl
  obtain ⟨m',x',T',e,k⟩:=ih (i+1) (m2.set c (some (.B [.I v,.lst none xz xo (((kids.take i).map fun k=>((p.idxOf k.toNat:Nat):Int)).map (AV.int .i64)++[.I (p.idxOf t:Nat)]),.I leaf]))) _ T2 Z ((Fr.trans f f2 fun y hy=>.inr (hT y hy)).set _ (.inl aq)) (b7 rfl hcl2) (by
   rw[<- ek]
   exact qo g2 fun y hy=>bO (by
    rcases gg2 y hy with hh|hh
    .have:=hT y hh;omega
    .have:=f.len;omega)) (fun y hy=>by
   rcases gg2 y hy with hh|hh
   .exact hT y hh
   .have:=f.len;omega)
  refine ⟨m',x',T',?_,k⟩;have ldx:am none m (.ptr c (0+1))=some x:=by rw[cS,hg];rfl
  rw[GP,bg,O,az,ai Z,fw hil,O,cr,O,fJ,O,ldx,O,et,lk,O,kX,O,ea,O,O,st,O,b6 Z,O];exact e
theorem zY(g:GoodL ar l)(hll:l.length<=100000){p:List Nat}(hp:p.length<=100000){id:Nat}(hid:id<l.length):(nd l p id).ok:=by
 unfold nd;rw[fK hid]
 rcases g.ok _ (bp hid) with ⟨a1,a2,a3⟩|⟨a1,a2,a3,a4,a5⟩
 .refine .inl ⟨a1,?_,a3⟩;simp only[a2];rfl
 .refine .inr ⟨a1,a2,a3,fun k hk=>?_,by simpa using a5⟩;obtain ⟨q,_,rfl⟩:=ga.1 hk;have:=List.idxOf_le_length (a:=q.toNat) (l:=p);omega
theorem ZM{p q:List Nat}(h:Cl l (p++q)):Cl l p:=by
 refine ⟨(List.nodup_append.1 h.nd).1,fun j hj=>h.lt j (qV _ hj),fun i hi hj k hk=>?_⟩;have hi2:i<(p++q).length:=by simp;omega
 have e:(p++q)[i]=p[i]:=List.getElem_append_left hi;have hj2:(p++q)[i]<l.length:=by rw[e];exact hj
 have:=h.cl i hi2 hj2 k (by
  have:∀(y:Nat) (hy:y<l.length),y=p[i]->k∈l[y].kids:=fun y hy ey=>by subst ey;exact hk
  exact this _ hj2 e)
 rwa [List.take_append_of_le_length Z] at this
theorem WD(h0:bB m0 s F arms most l)(g:GoodL ar l)(hll:l.length<=100000)(hkn:DL l){pm t:Nat}(hpm:m0.length=pm)(hpt:pm<t){ids:List Nat}(hc:Cl l ids):∀(q p:List Nat) (m:af) (y:AV) (T:List Nat),ids=p++q->Fr m0 m []->m.get pm=some (.mp (.int .i64) (pe 0 p))->NR 74 m y (fR l p) T->(∀k∈T,t<k)->m.get t=some (.obj false (ds ids)) ->
  ∃(m':af) (y':AV) (T':List Nat),xS (.ptr s 0) (.mref pm) y (.arr t 0 ids.length none) (.I ids.length) (.I p.length) m (uf (aD f43))=some (.tup [y',.I 0],m')/\NR 74 m' y' (fR l ids) T'/\Fr m0 m' []:=by
 have hil:ids.length<=l.length:=mA _ _ hc.nd hc.lt;intro q
 induction q with
 | nil=>
  intro p m y T hpq f hpg hn hT ht;rw[aW] at hpq;subst hpq;refine ⟨m,y,T,?_,hn,f⟩;rw[GQ,bg,O,az,ag Z,R0]
 | cons id q ihq=>
  intro p m y T hpq f hpg hn hT ht;have hcp:Cl l p:=by rw[hpq] at hc;exact ZM hc
  have hid:id<l.length:=hc.lt id (by rw[hpq];simp);have hplen:p.length<ids.length:=by rw[hpq];simp
  have hnot:id∉p:=fun h=>by
   rw[hpq] at hc;exact (List.nodup_append.1 hc.nd).2.2 id h id cF rfl
  have hkp:∀k∈l[id].kids,k.toNat∈p:=fun k hk=>by
   rw[hpq] at hc;have e:(p++id::q)[p.length]'(by simp)=id:=aq
   have:=hc.cl p.length aq (by rw[e];exact hid) k (by
    have:∀(y:Nat) (hy:y<l.length),y=id->k∈l[y].kids:=fun y hy ey=>by subst ey;exact hk
    exact this _ _ e)
   simpa using this
  have hix:aE none (.arr t 0 ids.length none) (.I p.length)=some (.ptr t p.length):=de hplen
  have hld:am none m (.ptr t p.length)=some (.I id):=by
   rw[cS,ht,jx,O,pi];exact zp (by rw[hpq];simp)
  have htl:=bo ht;have hpml:=bo hpg;have up:=qd6 hpg (n:=id) Z hnot Z;have st:=h0.app f;obtain ⟨pp,na,TT,st,hFF⟩:=st;have hs:=st.hs;have hsm:s<m0.length:=h0.lt s (by rw[hFF];simp);have hnx:=ou st.hn hid;have hkA:=qs (st.ok _ (bp hid))
  have hkl:l[id].kids.length<=1000:=by
   rcases st.ok _ (bp hid) with ⟨_,h2,_⟩|⟨_,_,_,_,h5⟩
   .rw[h2];simp
   .omega
  have hb:e9 (.agg [(.I 0),aw,(.I 0)]) [(0,none,.I l[id].var),(2,none,.I l[id].leaf)]=some (.agg [.I l[id].var,aw,.I l[id].leaf]):=rfl;generalize hM:List.set (List.set ((m.set pm (some (.mp (.int .i64) (pe 0 (p++[id])))))++[some Ent.resv]) m.length (some (Ent.B [.I 0,aw,.I 0]))) m.length (some (Ent.B [.I l[id].var,aw,.I l[id].leaf]))=M
  have fM:Fr m0 M []:=by
   rw[<- hM];exact (((f.set _ (.inr (by omega))).snoc _).set _ (.inr (by omega))).set _ (.inr Z)
  have lM:M.length=m.length+1:=by rw[<- hM];simp
  have fM2:Fr m M [pm]:=by
   rw[<- hM];exact ((((Fr.refl m [pm]).set _ (.inl (by simp))).snoc _).set _ (.inr (by omega))).set _ (.inr Z)
  have gc:af.get M m.length=some (Ent.B [.I l[id].var,aw,.I l[id].leaf]):=by rw[<- hM];exact (by simp (disch:=first|assumption|omega|simp only[aX]<;>omega|fail) only[di,bP,bG,bO,b7]<;>rfl)
  have gp:af.get M pm=some (.mp (.int .i64) (pe 0 (p++[id]))):=by rw[<- hM];exact (by simp (disch:=first|assumption|omega|simp only[aX]<;>omega|fail) only[di,bP,bG,bO,b7]<;>rfl)
  have hkp':∀k∈l[id].kids,∃t:Nat,k=t/\t∈p++[id]:=fun k hk=>by
   obtain ⟨t,rfl,_⟩:=mw g hid k hk;exact ⟨t,rfl,qV _ (by simpa using hkp _ hk)⟩
  obtain ⟨m2,xk,Tk,e13,f2,gc2,gk,hTk⟩:=WE (x0:=.ptr s 0) (pm:=pm) (c:=m.length) (p:=p++[id]) (v:=l[id].var) (leaf:=l[id].leaf) (kids:=l[id].kids) (z:=kz l[id]) (o:=ko l[id]) (m1:=M) (by simp;omega) (fun y hy=>by
   have:y<l.length:=by
    rcases cI.1 hy with h|h
    .exact hcp.lt y h
    .obtain rfl:y=id:=by simpa using h
     exact hid
   omega) Z Z Z hkp' hkl gp (.mref pm) y (.arr t 0 ids.length none) (.I ids.length) (.I p.length) rfl (uf (aD f43)) l[id].kids.length 0 M _ [] Z (Fr.refl _ _) gc .none aq
  have hndk:(nd l p id).kids=l[id].kids.map fun k=>(((p++[id]).idxOf k.toNat:Nat):Int):=by
   rw[<- Ec hid hkp [id]];unfold nd;rw[fK hid]
  have hndv:(nd l p id).var=l[id].var/\(nd l p id).leaf=l[id].leaf:=by
   unfold nd;rw[fK hid];exact ⟨rfl,rfl⟩
  have hok:=zY g hll (p:=p) Z hid
  obtain ⟨kz',ko',rfl,hstr⟩:=MS gk hndk hok (fun hv=>by
   rw[hndv.1] at hv;have:=hkn _ (bp hid) hv
   simpa using this)
  have hbs:=y5 l[id].var l[id].leaf kz' ko' ((nd l p id).kids.map (AV.int .i64));rw[hstr,<- hndv.1,<- hndv.2] at hbs;have hbs:cq (some 3) [.agg [.I (nd l p id).var,.lst none kz' ko' ((nd l p id).kids.map (AV.int .i64)),.I (nd l p id).leaf]]=some (.lst (some 3) false .full [(nd l p id).av]):=hbs
  have fm2:Fr m m2 [pm]:=Fr.trans fM2 f2 fun x hx=>by
   obtain rfl:x=m.length:=by simpa using hx
   exact .inr (aI _)
  have n2:NR 74 m2 y (fR l p) T:=pF hn fun k hk=>fm2.get k (pE hn k hk) (by have:=hT k hk;simp;omega);obtain ⟨y3,m3,T3,ea,n3,f3,gg3⟩:=Ll n2 (by unfold fR;rw[bA];omega) (nd l p id);rw[<- K4 hcp hid hkp] at n3
  have f03:Fr m0 m3 []:=Fr.trans (Fr.trans fM f2 fun x hx=>by
   obtain rfl:x=m.length:=by simpa using hx
   have:=f.len
   exact .inr this) f3 fun x hx=>.inr (by have:=hT x hx;omega)
  have lm2:=f2.len
  have gp3:m3.get pm=some (.mp (.int .i64) (pe 0 (p++[id]))):=by
   rw[f3.get pm Z (fun h=>by have:=hT pm h;omega),f2.get pm Z (by simp;omega)];exact gp
  obtain ⟨m',y',T',e,k⟩:=ihq (p++[id]) m3 y3 T3 (by rw[hpq,bE];rfl) f03 gp3 n3 (fun x hx=>by
   rcases gg3 x hx with hh|hh
   .exact hT x hh
   .omega) (by
   rw[f3.get t Z (fun h=>by have:=hT t h;omega),f2.get t Z (by simp;omega),<- hM]
   exact (by simp (disch:=first|assumption|omega|simp only[aX]<;>omega|fail) only[di,bP,bG,bO,b7,ht]<;>rfl))
  refine ⟨m',y',T',?_,k⟩
  have ld3:am (some 3) m2 (.ptr m.length 0)=some (.agg [.I (nd l p id).var,.lst none kz' ko' ((nd l p id).kids.map (AV.int .i64)),.I (nd l p id).leaf]):=by
   rw[cS,gc2,hndv.1,hndv.2];rfl
  have e13:uz (.ptr s 0) (.mref pm) y (.ptr m.length 0) (.arr t 0 ids.length none) (.I ids.length) (.I p.length) (IA (kz l[id]) (ko l[id]) l[id].kids) (.I l[id].kids.length) (.I 0) M (ue (uf (aD f43)))=_:=e13;rw[GQ,bg,O,az,ai Z]
  repeat ((with_reducible first|apply bs|apply bK);(focus first|(simp (disch:=first|assumption|omega|simp only[aX]<;>omega|fail) only[bJ,beq_self_eq_true,bH,O,Sh.size,aY,bf,Nat.reduceAdd,Nat.reduceLeDiff,aI,hix,hld,up,hs,hnx,Df,zr,JT,zI,hb,vS,hkA,fc]<;>rfl)|rfl);try dsimp only)
  have en:(aC (some (List.set m pm (some (Ent.mp (.int .i64) (pe 0 (p++[id]))))).length) (ck (List.set m pm (some (Ent.mp (.int .i64) (pe 0 (p++[id]))))) 1) .resv).1=m.length:=by rw[vS];simp
  rw[en,hM,e13,RX,ld3,O,hbs,O,ea,O,b6 Z,O];rw[aQ] at e;exact e
theorem J8(g:GoodL ar l):DL l:=fun n hn hv=>by
 obtain ⟨i,hi,rfl⟩:=ig hn;obtain ⟨k,hk,_⟩:=g.dif i hi Z;exact List.ne_nil_of_mem hk
theorem Nx(h0:bB m0 s F arms most l)(g:GoodL ar l)(hll:l.length<=100000)(hm:most≠0){id:Nat}(hid:id<l.length):∃(m':af) (y:AV) (T:List Nat),AC aa 43 [.ptr s 0,.I id] m0=some (.tup [y,.I 0],m')/\NR 74 m' y (fR l (Vi l id [])) T/\Fr m0 m' []:=by
 have e50:=oH h0 hm;have e56:=sg h0 id;rw[eT Z] at e56;have f1:=Fr.app m0 (some (Ent.mp (.int .i64) [])) [];obtain ⟨m1,x,T,e61,gx,f2,hT1⟩:=AR (h0.app f1) g hll hid;have f3:Fr m0 m1 []:=Fr.trans f1 f2 fun _ h=>by cases h
 obtain ⟨c1,_,_⟩:=kV g id hid [] lL
 have gp:m1.get m0.length=some (.mp (.int .i64) (pe 0 [])):=by
  rw[f2.get _ aq aq];exact (by simp (disch:=first|assumption|omega|simp only[aX]<;>omega|fail) only[di,bP,bG,bO,b7]<;>rfl)
 have e65:AC aa 65 [.ptr s 0,.I id] (aC none m0 (.mp (.int .i64) [])).2=_:=e61;rw[U3,e50,O,cD,e56,O,kO,O,hZ,cD,e65,O];generalize hV:Vi l id []=ids at gx c1 ⊢
 cases gx with
 | none=>
  have:id∈Vi l id []:=by rw[n6 g hid,ag aq];simp
  rw[hV] at this;cases this
 | some t ids ht hne=>
  have htl:=hT1 t aq;obtain ⟨m',y,T',e,k⟩:=WD h0 g hll (J8 g) (pm:=m0.length) (t:=t) rfl (by simp at htl;omega) c1 ids [] m1 aw [] rfl f3 gp .none aq ht;refine ⟨m',y,T',?_,k⟩;rw[show aL false (.arr t 0 ids.length none)=some (.I ids.length) from rfl,O];exact e
end
end Go.Ab
namespace Go.Ab
open Go.Proofs Go.Proofs.Tryz
theorem MK{m:af}{a b c a' b' c':AV}(hs:cu (some 3) (.agg [a',b',c'])=true):aM (some 3) (m++[some (Ent.B [a,b,c])]) (.ptr m.length 0) (.agg [a',b',c'])=some (m++[some (Ent.B [a',b',c'])]):=by
 rw[oA,bG rfl,jx,O];simp[bH,Sh.size,hs,bf,AV.cells]
theorem qbP{e:Nat}{m:af}{x:AV}{l:List ND}{T:List Nat}(h:NR e m x l T)(hl:l.length<=100000)(n:ND):∃x' m' T',bF (some m.length) false e (some 3) 40 (m++[some Ent.resv]) x (.lst (some 3) false .full [n.av])=some (x',m')/\NR e m' x' (l++[n]) T'/\Fr m m' T/\Gr m T T':=by
 have h2:(l.length+1)*40<=fq:=by unfold fq;omega
 cases h with
 | none=>
  refine ⟨.lst (some 3) false (.tok m.length e) [n.av],(m++[some Ent.resv]).set m.length (some (Ent.tok 1 3)),[m.length],?_,.some _ [n] (by simp (disch:=first|assumption|omega|simp only[aX]<;>omega|fail) only[di,bP,bG,bO,b7]<;>rfl),(Fr.app m _ _).set _ (.inr (aI _)),fun k hk=>?_⟩
  .have h2:40<=fq:=by unfold fq;omega
   simp[bF,h2,aC,Sh.size]
  .obtain rfl:k=m.length:=by simpa using hk
   exact .inr (aI _)
 | some t es ht=>
  have htl:=bo ht;have ht':af.get (m++[some Ent.resv]) t=some (.tok l.length 3):=by rw[bP htl];exact ht
  refine ⟨.lst (some 3) false (.tok t e) (l.map ND.av++[n.av]),(m++[some Ent.resv]).set t (some (Ent.tok (l.length+1) 3)),[t],?_,?_,(Fr.app m _ [t]).set _ (.inl aq),Gr.refl _ _⟩
  .simp[bF,ht',Sh.size,h2]
  .have e3:l.map ND.av++[n.av]=(l++[n]).map ND.av:=aq;rw[e3];refine .some t (l++[n]) ?_;rw[b7 rfl (by simp;omega),aQ];rfl
theorem qaw(a b:Int)(z:Bool)(o:Own)(ks:List AV):Fz (.agg [.I a,.lst none z o ks,.I b]) (.agg [.I a,lr (.lst none z o ks),.I b]):=fun m=>by cases o<;>rfl
theorem qbR{e:Nat}{m:af}{x:AV}{l:List ND}{T:List Nat}(h:NR e m x l T):∃sh z o es,x=.lst sh z o es:=by
 cases h with
 | none=>exact ⟨_,_,_,_,rfl⟩
 | some t l ht=>exact ⟨_,_,_,_,rfl⟩
theorem Fv{m:af}{b q:Nat}{arms x:AV}{L:List ND}{T:List Nat}{n:ND}{z:Bool}{o:Own}(hbg:m.get b=some (.B [arms,x]))(h:NR 146 m x L T)(hbT:b∉T)(hqb:q≠b)(hqT:q∉T)(hq:m.get q=some (.B [.I n.var,.lst none z o (n.kids.map (AV.int .i64)),.I n.leaf]))
  (hk:lr (.lst none z o (n.kids.map (AV.int .i64)))=bM n) (hn:n.ok) (hL:∀y∈L,y.ok) (hl:L.length<=100000) :
  ∃(m':af) (x':AV) (T':List Nat),oM (.ptr b 0) (.ptr q 0) x (.I L.length) (.I 0) m (nW (aD f91))=some (.I (L.idxOf n:Nat),m')/\m'.get b=some (.B [arms,x'])/\NR 146 m' x' (gg L n) T'/\Fr m m' (b::T)/\Gr m T T'/\b∉T':=by
 have hbl:=bo hbg;have hql:=bo hq;have hav:AV.agg [.I n.var,bM n,.I n.leaf]=n.av:=rfl
 have W:∀(j i:Nat) (m1:af),i+j=L.length->(∀t (ht:t<L.length),t<i->L[t]≠n)->Fr m m1 [] ->
   ∃m2,oM (.ptr b 0) (.ptr q 0) x (.I L.length) (.I i) m1 (nW (aD f91))=(if n∈L then some (.I (L.idxOf n:Nat),m2) else nW (aD f91) (.exit 4) (Cv (.ptr b 0) (.ptr q 0) m2))/\Fr m m2 []:=by
  intro j
  induction j with
  | zero=>
   intro i m1 hi hne f
   have hnm:n∉L:=fun hm=>by
    obtain ⟨t,ht,e⟩:=ig hm;exact hne t ht Z e
   refine ⟨m1,?_,f⟩;rw[Hh,bg,O,az,ag Z,ag hnm]
  | succ j ih=>
   intro i m1 hi hne f;have hil:i<L.length:=Z;have hidx:=qbQ h hil;have bxi:=yZ L[i] m1 (zC m1);have f2:Fr m (m1++[some (Ent.B [.I L[i].var,bM L[i],.I L[i].leaf])]) []:=f.snoc _;have gq:af.get (m1++[some (Ent.B [.I L[i].var,bM L[i],.I L[i].leaf])]) q=_:=(f2.get q hql (by simp)).trans hq
   have ld1:am (some 3) (m1++[some (Ent.B [.I L[i].var,bM L[i],.I L[i].leaf])]) (.ptr q 0)=some (.agg [.I n.var,.lst none z o (n.kids.map (AV.int .i64)),.I n.leaf]):=by
    rw[cS,gq];rfl
   have ld2:am (some 3) (m1++[some (Ent.B [.I L[i].var,bM L[i],.I L[i].leaf])]) (.ptr m1.length 0)=some L[i].av:=by
    rw[cS,bG rfl];rfl
   have p60:aF (AP aa) none (m1++[some (Ent.B [.I L[i].var,bM L[i],.I L[i].leaf])]) 142 [.agg [.I n.var,.lst none z o (n.kids.map (AV.int .i64)),.I n.leaf],L[i].av]=some (.bool (decide (n=L[i])),m1++[some (Ent.B [.I L[i].var,bM L[i],.I L[i].leaf])]):=by
    rw[eC (qaw _ _ _ _ _) (Dt _),hk,hav,Iw hn (hL _ (bp hil))];rfl
   have e0:oM (.ptr b 0) (.ptr q 0) x (.I L.length) (.I i) m1 (nW (aD f91))=au (.bool (decide (n=L[i]))) (some (.I i,m1++[some (Ent.B [.I L[i].var,bM L[i],.I L[i].leaf])])) (oM (.ptr b 0) (.ptr q 0) x (.I L.length) (.I (i+1:Nat)) (m1++[some (Ent.B [.I L[i].var,bM L[i],.I L[i].leaf])]) (nW (aD f91))):=by
    rw[Hh,bg,O,az,ai Z,hidx,O,zK,O,pD,pD];dsimp only;rw[bxi,O,ld1,O,ld2,O,p60,O,b6 Z,O,Tg]
   rw[e0,az]
   by_cases he:n=L[i]
   .have hm:n∈L:=he▸bp hil;have hix:L.idxOf n=i:=Kh hil he.symm hne;refine ⟨_,?_,f2⟩;rw[ai he,ai hm,hix]
   .rw[ag he]
    exact ih (i+1) _ Z (fun t ht hti=>by
     rcases mO t i with hh|hh
     .exact hne t ht hh
     .obtain rfl:t=i:=Z
      exact fun e=>he e.symm) f2
 obtain ⟨m2,e2,f2⟩:=W L.length 0 m Z (fun _ _ h=>Z) (Fr.refl _ _);have e2:oM (.ptr b 0) (.ptr q 0) x (.I L.length) (.I 0) m (nW (aD f91))=_:=e2;rw[e2];have gb2:m2.get b=some (.B [arms,x]):=(f2.get b hbl (by simp)).trans hbg
 by_cases hm:n∈L
 .rw[ai hm,gg,ai hm];exact ⟨m2,x,T,rfl,gb2,pF h fun k hk=>f2.get k (pE h k hk) aq,f2.mono aq,Gr.refl _ _,hbT⟩
 .rw[ag hm,gg,ag hm,vE hm];have gq2:af.get m2 q=some (.B [.I n.var,.lst none z o (n.kids.map (AV.int .i64)),.I n.leaf]):=(f2.get q hql (by simp)).trans hq;have h2:NR 146 m2 x L T:=pF h fun k hk=>f2.get k (pE h k hk) aq;obtain ⟨x3,m3,T3,ea,n3,f3,gg3⟩:=qbP h2 hl n;have hbs:=y5 n.var n.leaf z o (n.kids.map (AV.int .i64));rw[hk,hav] at hbs;have hb2l:=bo gb2;have hq2l:=bo gq2;have gb3:m3.get b=some (.B [arms,x]):=(f3.get b hb2l hbT).trans gb2;have hb3l:=bo gb3;have ldx:am none (ck m2 1) (.ptr b (0+1))=some x:=by rw[di,cS,bP hb2l,gb2];rfl
  have ldq:am (some 3) (ck m2 1) (.ptr q 0)=some (.agg [.I n.var,.lst none z o (n.kids.map (AV.int .i64)),.I n.leaf]):=by rw[di,cS,bP hq2l,gq2];rfl
  obtain ⟨sh3,z3,o3,es3,rfl⟩:=qbR n3
  have st:aM none m3 (.ptr b (0+1)) (.lst sh3 z3 o3 es3)=some (m3.set b (some (.B [arms,.lst sh3 z3 o3 es3]))):=by
   rw[oA,gb3,jx,O];rfl
  have ld4:am none (m3.set b (some (.B [arms,.lst sh3 z3 o3 es3]))) (.ptr b (0+1))=some (.lst sh3 z3 o3 es3):=by
   rw[cS,b7 rfl hb3l];rfl
  have ln:=Eh n3
  have hbT3:b∉T3:=fun hh=>by
   rcases gg3 b hh with h4|h4
   .exact hbT h4
   .omega
  refine ⟨m3.set b (some (.B [arms,.lst sh3 z3 o3 es3])),.lst sh3 z3 o3 es3,T3,?_,b7 rfl hb3l,pF n3 fun k hk=>bO (fun e=>hbT3 (e▸hk)),?_,?_,hbT3⟩
  .rw[di] at ldx ldq;rw[Th,iq,O,fJ,O,di,ldx,O,ldq,O,hbs,O,ea,O,O,fJ,O,st,O,O,fJ,O,ld4,O,ln,O,aQ,lh aq (by simp;omega),O];simp
  .exact ((Fr.trans (f2.mono (F':=b::T) aq) f3 fun x hx=>.inl (by simp[hx])).set _ (.inl aq))
  .intro k hk
   rcases gg3 k hk with h4|h4
   .exact .inl h4
   .have:=f2.len;exact .inr Z
end Go.Ab
namespace Go.Ab
open Go.Proofs Go.Proofs.Tryz
theorem qaF{e:Nat}{m:af}{x:AV}{l:List AV}{T:List Nat}(h:GR e m x l T):∀k∈T,∃n,m.get k=some (.tok n 1):=by
 cases h with
 | none=>simp
 | some t l ht _=>
  intro k hk;obtain rfl:k=t:=by simpa using hk
  exact ⟨_,ht⟩
def wE(l:List ND)(ar:List Int)(za:Bool)(oa:Own)(b v:Nat):Prop:=∀(m:af) (z:Bool) (o:Own) (part:List Int) (id:Nat) (out:List Nat) (x:AV) (T:List Nat),m.get b=some (.B [IA za oa ar,x])->NR 146 m x (fR l out) T->b∉T->Cl l out->TabV ar l id v part ->
 ∃(m':af) (x':AV) (T':List Nat),AC aa 91 [.ptr b 0,.I v,IA z o part] m=some (.I ((Vi l id out).idxOf id:Nat),m')/\m'.get b=some (.B [IA za oa ar,x'])/\NR 146 m' x' (fR l (Vi l id out)) T'/\Fr m m' (b::T)/\Gr m T T'/\b∉T'
section
variable {l:List ND} {ar:List Int} {za:Bool} {oa:Own} {b v:Nat}
theorem WK{m:af}{x:AV}(hbg:m.get b=some (.B [IA za oa ar,x])){z z1:Bool}{o o1:Own}{part first:List Int}{a n:Nat}(hv:v<ar.length)(ha:ar[v]=(a:Int))(ha64:a<=64)(hp:part.length=a*n)(hpl:part.length<=300)(hf:first.length<=300)(x7:AV)(K:KT):∀(j k:Nat) (fr:Bool),k+j=a ->
  ∃fr':Bool,sG (.ptr b 0) (.I v) (IA z o part) x7 (.I n) (IA z1 o1 first) (.bool fr) (.I k) m K=K (.exit 0) (Cw (.ptr b 0) (.I v) (IA z o part) x7 (.I n) (IA z1 o1 first) (.bool fr') m)/\(fr'=true↔fr=true/\∀q,k<=q->q<a->_root_.Go.Ab.part part n q=first):=by
 have hix:aE none (IA za oa ar) (.I v)=some (.vptr [.I a]):=by rw[fw hv,ha]
 have ldx:am none m (.ptr b (0+0))=some (IA za oa ar):=by rw[cS,hbg];rfl
 intro j
 induction j with
 | zero=>
  intro k fr hk;refine ⟨fr,?_,⟨fun h=>⟨h,fun q h1 h2=>Z⟩,fun h=>h.1⟩⟩;rw[BK,iq,O,fJ,O,ldx,O,hix,O,cr,O,bS,O,az,ag Z]
 | succ j ih=>
  intro k fr hk;have hka:k<a:=Z;have hkn:(k+1)*n<=part.length:=by rw[hp];exact fL _ Z
  have hkn0:k*n<=(k+1)*n:=fL _ Z;have hpk:=part_len hp hka;have hn0:n<=(k+1)*n:=Nat.le_mul_of_pos_left _ Z
  cases fr with
  | false=>
   obtain ⟨fr',e,h⟩:=ih (k+1) false Z
   refine ⟨fr',?_,?_⟩
   .rw[BK,iq,O,fJ,O,ldx,O,hix,O,cr,O,bS,O,az,ai hka,cD,b6 Z,O];exact e
   .rw[h];simp
  | true=>
   obtain ⟨fr',e,h⟩:=ih (k+1) (decide (_root_.Go.Ab.part part n k=first)) Z
   refine ⟨fr',?_,?_⟩
   .rw[BK,iq,O,fJ,O,ldx,O,hix,O,cr,O,bS,O,az,ai hka,gJ,rJ Z,O,b6 Z,O,rJ Z,O,C3 z o part .i64 hkn,O,qck z z1 .no o1 _ first Z m,O,O]
    exact e
   .rw[h,decide_eq_true_iff]
    constructor
    .rintro ⟨h1,h2⟩;refine ⟨rfl,fun q hq1 hq2=>?_⟩
     by_cases hqk:q=k
     .subst hqk;exact h1
     .exact h2 q Z hq2
    .rintro ⟨_,h2⟩;exact ⟨h2 k (aI _) hka,fun q hq1 hq2=>h2 q Z hq2⟩
theorem WL(g:GoodL ar l)(h1:∀x∈ar,1<=x/\x<=64)(hll:l.length<=100000)(hv:v<ar.length)(hal:ar.length<=16){a n:Nat}(ha:ar[v]=(a:Int))(hn:n=aN (ar.drop (v+1))){id:Nat}(hid:id<l.length)(hvar:l[id].var=v){part:List Int}(htab:TabV ar l id v part)(hpl:part.length<=300)(ih:wE l ar za oa b (v+1)){z:Bool}{o:Own}
  {m0:af} {T0:List Nat} {q:Nat} (hq0:m0.length<=q) (hbq:b<m0.length) (hT0:∀y∈T0,y<m0.length):∀(j k:Nat) (m:af) (out:List Nat) (x xk:AV) (T Tk:List Nat),k+j=a->m.get b=some (.B [IA za oa ar,x])->NR 146 m x (fR l out) T->b∉T->Cl l out->Fr m0 m (b::T0)->Gr m0 T0 T->q∉T->(∀i∈l[id].kids.take k,i.toNat∈out) ->
   m.get q=some (.B [.I v,xk,.I 0])->GR 3 m xk (((l[id].kids.take k).map fun i=>((out.idxOf i.toNat:Nat):Int)).map (AV.int .i64)) Tk->(∀y∈Tk,m0.length<=y/\y∉T) ->
   ∃(m':af) (x' xk':AV) (T' Tk':List Nat),uE (.ptr b 0) (.I v) (IA z o part) (.ptr q 0) (.I n) (.I k) m (ui (aD f91))=ui (aD f91) (.exit 2) (Cu (.ptr b 0) (.ptr q 0) m') /\
    m'.get b=some (.B [IA za oa ar,x'])/\NR 146 m' x' (fR l (fI l (l[id].kids.drop k) out)) T'/\b∉T'/\Fr m0 m' (b::T0)/\Gr m0 T0 T'/\q∉T'/\m'.get q=some (.B [.I v,xk',.I 0])/\GR 3 m' xk' ((l[id].kids.map fun i=>(((fI l (l[id].kids.drop k) out).idxOf i.toNat:Nat):Int)).map (AV.int .i64)) Tk':=by
 have hget:ar.getD v 0=(a:Int):=by rw[aK,bn hv,bQ,ha]
 have hab:=h1 _ (bp hv)
 have hkl:l[id].kids.length=a:=by
  have:=(g.var id hid (by omega)).2;rw[hvar,cB,hget] at this;omega
 have hp:part.length=a*n:=by
  rw[htab.len,mH hv,hget,hn];rfl
 have hix:aE none (IA za oa ar) (.I v)=some (.vptr [.I a]):=by rw[fw hv,ha]
 intro j
 induction j with
 | zero=>
  intro k m out x xk T Tk hk hbg hnr hbT hc f gr hqT hkin hqg hgk hTk;have hd:l[id].kids.drop k=[]:=fQ Z;have ht:l[id].kids.take k=l[id].kids:=iv Z;rw[ht] at hgk;have ldx:am none m (.ptr b (0+0))=some (IA za oa ar):=by rw[cS,hbg];rfl
  refine ⟨m,x,xk,T,Tk,?_,hbg,by rw[hd];exact hnr,hbT,f,gr,hqT,hqg,by rw[hd];exact hgk⟩;rw[Hg,iq,O,fJ,O,ldx,O,hix,O,cr,O,bS,O,az,ag Z]
 | succ j ihj=>
  intro k m out x xk T Tk hk hbg hnr hbT hc f gr hqT hkin hqg hgk hTk;have hka:k<a:=Z;have hkk:k<l[id].kids.length:=Z;have hkn:(k+1)*n<=part.length:=by rw[hp];exact fL _ Z
  have hkn0:k*n<=(k+1)*n:=fL _ Z;have ldx:am none m (.ptr b (0+0))=some (IA za oa ar):=by rw[cS,hbg];rfl
  obtain ⟨t,et,ht⟩:=mw g hid _ (bp hkk);have htk:=E6 g (fun x hx=>(h1 x hx).1) hv htab hid hvar (k:=k) (by rw[hget];omega);have eg:l[id].kids.getD k 0=(t:Int):=by rw[aK,bn hkk,bQ,et]
  rw[eg,cB,<- hn] at htk;have hbl:=bo hbg;have hql:=bo hqg;obtain ⟨m1,x1,T1,e70,gb1,n1,f1,gr1,hbT1⟩:=ih m z .no _ t out x T hbg hnr hbT hc htk;obtain ⟨c1,c2,r,c3,c4⟩:=kV g t htk.lt out hc;have hqb:q≠b:=Z;have hq1:m1.get q=some (.B [.I v,xk,.I 0]):=(f1.get q hql (by simp;exact ⟨hqb,hqT⟩)).trans hqg
  have hqT1:q∉T1:=fun hh=>by
   rcases gr1 q hh with h4|h4
   .exact hqT h4
   .omega
  have hgk1:GR 3 m1 xk (((l[id].kids.take k).map fun i=>(((Vi l t out).idxOf i.toNat:Nat):Int)).map (AV.int .i64)) Tk:=by
   have e:((l[id].kids.take k).map fun i=>(((Vi l t out).idxOf i.toNat:Nat):Int))=((l[id].kids.take k).map fun i=>((out.idxOf i.toNat:Nat):Int)):=List.map_congr_left fun i hi=>by
    rw[c3,List.idxOf_append,ai (hkin i hi)]
   rw[e]
   exact qo hgk fun y hy=>f1.get y (mq hgk y hy) (by
    simp only[cE,not_or]
    exact ⟨fun e=>by have:=(hTk y hy).1;omega,(hTk y hy).2⟩)
  obtain ⟨x2,m2,Tk2,ea,g2,f2,gg2⟩:=nF (b:=8) hgk1 (by simp;omega) Z (.I ((Vi l t out).idxOf t:Nat));have ntk:∀y,y∉Tk->y<m1.length->m2.get y=m1.get y:=fun y h h'=>f2.get y h' h;have hb1l:=bo gb1;have hq1l:=bo hq1;have hTkb:b∉Tk:=fun h=>by have:=(hTk b h).1;omega
  have hTkq:q∉Tk:=fun h=>by
   have h2:=mq hgk q h;obtain ⟨k',ht'⟩:=qaF hgk q h;rw[hqg] at ht';cases ht'
  have gb2:m2.get b=some (.B [IA za oa ar,x1]):=(ntk b hTkb hb1l).trans gb1;have gq2:m2.get q=some (.B [.I v,xk,.I 0]):=(ntk q hTkq hq1l).trans hq1
  have hTkT1:∀y∈Tk,y∉T1:=fun y hy hh=>by
   rcases gr1 y hh with h4|h4
   .exact (hTk y hy).2 h4
   .have:=mq hgk y hy;omega
  have n2:NR 146 m2 x1 (fR l (Vi l t out)) T1:=pF n1 fun y hy=>ntk y (fun h=>hTkT1 y h hy) (pE n1 y hy);have hq2l:=bo gq2;obtain ⟨xz,xo,rfl,_⟩:=qp g2
  have st:aM none m2 (.ptr q (0+1)) (.lst none xz xo (((l[id].kids.take k).map fun i=>(((Vi l t out).idxOf i.toNat:Nat):Int)).map (AV.int .i64)++[.I ((Vi l t out).idxOf t:Nat)]))=some (m2.set q (some (.B [.I v,.lst none xz xo (((l[id].kids.take k).map fun i=>(((Vi l t out).idxOf i.toNat:Nat):Int)).map (AV.int .i64)++[.I ((Vi l t out).idxOf t:Nat)]),.I 0]))):=by
   rw[oA,gq2,jx,O];rfl
  have ek:(((l[id].kids.take k).map fun i=>(((Vi l t out).idxOf i.toNat:Nat):Int)).map (AV.int .i64)++[.I ((Vi l t out).idxOf t:Nat)])=((l[id].kids.take (k+1)).map fun i=>(((Vi l t out).idxOf i.toNat:Nat):Int)).map (AV.int .i64):=by
   rw[kC hkk,gW,gW,et];rfl
  have hnq:∀y∈Tk2,y≠q:=fun y hy e=>by
   rcases gg2 y hy with h4|h4
   .exact hTkq (e▸h4)
   .omega
  have ed:fI l (l[id].kids.drop k) out=fI l (l[id].kids.drop (k+1)) (Vi l t out):=by
   rw[ic hkk,sW,et,cB]
  have F1:Fr m0 m1 (b::T0):=Fr.trans f f1 fun y hy=>by
   rcases cE.1 hy with rfl|hy
   .exact .inl aq
   .rcases gr y hy with h4|h4
    .exact .inl (by simp[h4])
    .exact .inr h4
  have F2:Fr m0 m2 (b::T0):=Fr.trans F1 f2 fun y hy=>.inr (hTk y hy).1
  obtain ⟨m',x',xk',T',Tk',e,k1,k2,k3,k4,k5,k6,k7,k8⟩:=ihj (k+1) (m2.set q (some (.B [.I v,.lst none xz xo (((l[id].kids.take k).map fun i=>(((Vi l t out).idxOf i.toNat:Nat):Int)).map (AV.int .i64)++[.I ((Vi l t out).idxOf t:Nat)]),.I 0]))) (Vi l t out) x1 _ T1 Tk2 Z
   (by rw[bO (fun e=>hqb e.symm)];exact gb2) (pF n2 fun y hy=>bO (fun e=>hqT1 (e▸hy))) hbT1 c1 (F2.set _ (.inr hq0)) (Gr.trans f.len gr gr1) hqT1 (fun i hi=>by
    rw[kC hkk] at hi
    rcases cI.1 hi with hi|hi
    .rw[c3];exact qV _ (hkin i hi)
    .obtain rfl:i=l[id].kids[k]:=by simpa using hi
     rw[et,cB];exact c2) (b7 rfl hq2l) (by
    rw[<- ek]
    exact qo g2 fun y hy=>bO (hnq y hy)) (fun y hy=>by
    have l1:=f1.len;have l0:=f.len
    rcases gg2 y hy with h4|h4
    .exact ⟨(hTk y h4).1,hTkT1 y h4⟩
    .refine ⟨Z,fun hh=>?_⟩;have:=pE n1 y hh
     omega)
  refine ⟨m',x',xk',T',Tk',?_,k1,by rw[ed];exact k2,k3,k4,k5,k6,k7,by rw[ed];exact k8⟩;have ldk:am none m (.ptr q (0+1))=some xk:=by rw[cS,hqg];rfl
  have ldk1:am none m1 (.ptr q (0+1))=some xk:=by rw[cS,hq1];rfl
  rw[Hg,iq,O,fJ,O,ldx,O,hix,O,cr,O,bS,O,az,ai hka,fJ,O,ldk,O,b6 Z,O,rJ Z,O,b6 Z,O,rJ Z,O,C3 z o part .i64 hkn,O,e70,O];rw[qq (by simp only[ldk1,O]),kX,O,ea,O,O,st,O,O];exact e
theorem DX(g:GoodL ar l)(hll:l.length<=100000){out:List Nat}(hc:Cl l out):∀y∈fR l out,y.ok:=fun y hy=>by
 obtain ⟨i,hi,rfl⟩:=ga.1 hy;have:=mA _ _ hc.nd hc.lt;exact zY g hll Z (hc.lt i hi)
theorem Fu(g:GoodL ar l)(h1:∀x∈ar,1<=x/\x<=64)(hll:l.length<=100000)(hal:ar.length<=16)(hv:v<=ar.length)(hpv:aN (ar.drop v)<=300)(ih:v<ar.length->wE l ar za oa b (v+1)):wE l ar za oa b v:=by
 intro m z o part id out x T hbg hnr hbT hc htab;have h1':∀x∈ar,1<=x:=fun x hx=>(h1 x hx).1;have hid:=htab.lt;have hpp:1<=aN (ar.drop v):=qD fun x hx=>h1' x (List.drop_subset _ _ hx);have hpl:=htab.len;obtain ⟨c0,ct,ec⟩:=List.exists_cons_of_ne_nil (show part≠[] from fun e=>by rw[e] at hpl;simp at hpl;omega);have hbl:=bo hbg;have i0:aE none (IA z o part) (.I 0)=some (.vptr [.I c0]):=by rw[ec];exact vF aq
 have hb:e9 (.agg [(.I 0),aw,(.I 0)]) [(0,none,(.I (-1))),(2,none,.I c0)]=some (.agg [.I (-1),aw,.I c0]):=rfl;have sn:=MK (m:=m) (a:=.I 0) (b:=aw) (c:=.I 0) (a':=.I (-1)) (b':=aw) (c':=.I c0) rfl;have f4:Fr m (m++[some (Ent.B [.I (-1),aw,.I c0])]) []:=Fr.app m _ _;generalize hm4:m++[some (Ent.B [.I (-1),aw,.I c0])]=m4 at sn f4
 have gq:m4.get m.length=some (Ent.B [.I (-1),aw,.I c0]):=by rw[<- hm4];exact (by simp (disch:=first|assumption|omega|simp only[aX]<;>omega|fail) only[di,bP,bG,bO,b7]<;>rfl)
 have l4:m4.length=m.length+1:=by rw[<- hm4];simp
 have gb4:m4.get b=some (.B [IA za oa ar,x]):=(f4.get b hbl (by simp)).trans hbg;have n4:NR 146 m4 x (fR l out) T:=pF hnr fun k hk=>f4.get k (pE hnr k hk) aq;have hqT:m.length∉T:=fun h=>by have:=pE hnr _ h;omega
 have hol:out.length<=l.length:=mA _ _ hc.nd hc.lt;have p78:=qcj z o part (by rw[ec];simp) Z m4;have e0:AC aa 91 [.ptr b 0,.I v,IA z o part] m=_:=Vt _ _ _ m;rw[i0,O,cr,O,hb,O,pD,pD] at e0;dsimp only at e0;rw[sn,O,p78,O,kO,O,ec,List.headD_cons,<- ec] at e0;have ldx0:am none m4 (.ptr b (0+0))=some (IA za oa ar):=by rw[cS,gb4];rfl
 have ldx1:am none m4 (.ptr b (0+1))=some x:=by rw[cS,gb4];rfl
 by_cases hall:(part.all fun k=>k==c0)=true
 ·
  rw[hall,hZ,cD,iq,O,fJ,O,ldx1,O,Eh hnr,O] at e0;have hleaf:=ZU g h1' hv htab (c:=c0) (fun y hy=>by simpa using fe.1 hall y hy)
  have hnd:nd l out id=gC c0:=by
   unfold nd;rw[hleaf];rfl
  rw[fK hid] at hleaf;have hkids:l[id].kids=[]:=by rw[hleaf];rfl
  have hok:=zY g hll (p:=out) Z hid;rw[hnd] at hok;obtain ⟨m5,x5,T5,e5,k1,k2,k3,k4,k5⟩:=Fv (n:=gC c0) (z:=true) (o:=.full) gb4 n4 hbT (show m.length≠b by omega) hqT gq rfl hok (DX g hll hc) (by unfold fR;rw[bA];omega);have pr:=L5 g hc hid (by rw[hkids];simp)
  have eV:Vi l id out=if id∈out then out else out++[id]:=by rw[IE g hid hc,hkids,Wc]
  rw[hnd,<- eV] at pr;refine ⟨m5,x5,T5,?_,k1,by rw[<- pr.1];exact k2,Fr.trans (f4.mono aq) k3 fun y hy=>.inl hy,Gr.trans f4.len (Gr.refl _ _) k4,k5⟩;rw[e0,e5,pr.2]
 .rw[Bool.not_eq_true] at hall
  have hvl:v<ar.length:=by
   refine Decidable.byContradiction fun hn=>?_;have:ar.drop v=[]:=fQ Z;rw[this] at hpl;have hpl:part.length=1:=hpl;rw[ec] at hpl hall;have:ct=[]:=by simpa using hpl
   rw[this] at hall;simp at hall
  have hab:=h1 _ (bp hvl);obtain ⟨a,ha⟩:=jO (by omega:0<=ar[v]);have hget:ar.getD v 0=(a:Int):=by rw[aK,bn hvl,bQ,ha]
  have hix:aE none (IA za oa ar) (.I v)=some (.vptr [.I a]):=by rw[fw hvl,ha]
  have hps:aN (ar.drop v)=a*aN (ar.drop (v+1)):=by rw[mH hvl,hget];rfl
  have hn0:1<=aN (ar.drop (v+1)):=qD fun x hx=>h1' x (List.drop_subset _ _ hx);have hta:part.length=a*aN (ar.drop (v+1)):=by rw[hpl,hps]
  have hle:aN (ar.drop (v+1))<=part.length:=by rw[hta];exact Nat.le_mul_of_pos_left _ Z
  have hdiv:part.length/a=aN (ar.drop (v+1)):=by rw[hta,Nat.mul_div_cancel_left _ Z]
  have hsl:jZ none (IA z o part) none (some (.I (aN (ar.drop (v+1)):Nat))) none=some (IA z .no (_root_.Go.Ab.part part (aN (ar.drop (v+1))) 0)):=by
   rw[ET _ _ _ _ _ hle];unfold _root_.Go.Ab.part;rw[p5,dk]
  have hp0:=part_len hta (k:=0) Z
  obtain ⟨fr,e7,hfr⟩:=WK (z:=z) (z1:=z) (o:=o) (o1:=.no) (first:=_root_.Go.Ab.part part (aN (ar.drop (v+1))) 0) gb4 hvl ha Z hta Z Z (.ptr m.length 0) (w8 (aD f91)) (a-1) 1 true Z
  have e7:sG (.ptr b 0) (.I v) (IA z o part) (.ptr m.length 0) (.I (aN (ar.drop (v+1)):Nat)) (IA z .no (_root_.Go.Ab.part part (aN (ar.drop (v+1))) 0)) (.bool true) (.I 1) m4 (w8 (aD f91))=_:=e7;rw[hall,ka,gJ,fc,O,iq,O,fJ,O,ldx0,O,hix,O,cr,O,D8 Z Z,O,hdiv,hsl,O,e7,Tn] at e0
  have hfr':fr=true↔∀k:Nat,(k:Int)<ar.getD v 0->_root_.Go.Ab.part part (aN (ar.drop (v+1))) k=_root_.Go.Ab.part part (aN (ar.drop (v+1))) 0:=by
   rw[hfr,hget]
   constructor
   .rintro ⟨_,h⟩ k hk
    by_cases hk0:k=0
    .rw[hk0]
    .exact h k Z Z
   .exact fun h=>⟨rfl,fun q _ hq=>h q Z⟩
  by_cases hf:fr=true
  ·
   rw[hf,gJ,b6 Z,O] at e0;have ht:=qal g h1' hvl htab (hfr'.1 hf);obtain ⟨m5,x5,T5,e5,k1,k2,k3,k4,k5⟩:=ih hvl m4 z .no _ id out x T gb4 n4 hbT hc ht;refine ⟨m5,x5,T5,?_,k1,k2,Fr.trans (f4.mono aq) k3 fun y hy=>.inl hy,Gr.trans f4.len (Gr.refl _ _) k4,k5⟩;rw[e0,e5,O]
  .have hff:fr=false:=by simpa using hf
   have hvar:=qbM g h1' hvl htab hid (fun h=>hf (hfr'.2 h));have hb2:e9 (.agg [(.I 0),aw,(.I 0)]) [(0,none,.I v)]=some (.agg [.I v,aw,.I 0]):=rfl;have st:aM (some 3) m4 (.ptr m.length 0) (.agg [.I v,aw,.I 0])=some (m4.set m.length (some (Ent.B [.I v,aw,.I 0]))):=At gq rfl;rw[hff,cD,hb2,O,st,O] at e0;have f5:Fr m (m4.set m.length (some (Ent.B [.I v,aw,.I 0]))) (b::T):=(f4.mono (F':=b::T) (by simp)).set _ (.inr (aI _))
   obtain ⟨m6,x6,xk,T6,Tk,e14,k1,k2,k3,k4,k5,k6,k7,k8⟩:=WL g h1 hll hvl hal ha rfl hid hvar htab Z (ih hvl) (z:=z) (o:=o) (m0:=m) (T0:=T) (q:=m.length) (aI _) hbl (pE hnr) a 0 (m4.set m.length (some (Ent.B [.I v,aw,.I 0]))) out x aw T [] Z
    (by rw[bO Z];exact gb4) (pF n4 fun y hy=>bO (fun e=>hqT (e▸hy))) hbT hc f5 (Gr.refl _ _) hqT aq (b7 rfl Z) .none aq
   rw[dk] at k2 k8;obtain ⟨c1,c2,r,c3,c4⟩:=CG g hid l[id].kids (fun k hk=>mw g hid k hk) out hc;have hol1:=mA _ _ c1.nd c1.lt
   have hnk:(nd l (fI l l[id].kids out) id).kids=l[id].kids.map fun i=>(((fI l l[id].kids out).idxOf i.toNat:Nat):Int):=by
    unfold nd;rw[fK hid]
   have hnv:(nd l (fI l l[id].kids out) id).var=v:=by unfold nd;rw[fK hid];exact hvar
   have hok:=zY g hll (p:=fI l l[id].kids out) Z hid
   have hnl:(nd l (fI l l[id].kids out) id).leaf=0:=by
    rcases hok with ⟨q1,_⟩|⟨_,_,q3,_⟩
    .rw[hnv] at q1;omega
    .exact q3
   have hkne:l[id].kids≠[]:=J8 g _ (bp hid) Z;obtain ⟨kz',ko',rfl,hstr⟩:=MS k8 hnk hok (fun _=>by simpa using hkne)
   have gq6:m6.get m.length=some (.B [.I (nd l (fI l l[id].kids out) id).var,.lst none kz' ko' ((nd l (fI l l[id].kids out) id).kids.map (AV.int .i64)),.I (nd l (fI l l[id].kids out) id).leaf]):=by
    rw[k7,hnv,hnl]
   obtain ⟨m7,x7,T7,e18,j1,j2,j3,j4,j5⟩:=Fv (n:=nd l (fI l l[id].kids out) id) (z:=kz') (o:=ko') k1 k2 k3 (show m.length≠b by omega) k6 gq6 hstr hok (DX g hll c1) (by unfold fR;rw[bA];omega);have pr:=L5 g c1 hid c2;rw[<- IE g hid hc] at pr
   refine ⟨m7,x7,T7,?_,j1,by rw[<- pr.1];exact j2,Fr.trans k4 j3 fun y hy=>?_,Gr.trans k4.len k5 j4,j5⟩
   .have e14:uE (.ptr b 0) (.I v) (IA z o part) (.ptr m.length 0) (.I (aN (ar.drop (v+1)):Nat)) (.I 0) (m4.set m.length (some (Ent.B [.I v,aw,.I 0]))) (ui (aD f91))=_:=e14;have ld6:am none m6 (.ptr b (0+1))=some x6:=by rw[cS,k1];rfl
    rw[e0,e14,Td,iq,O,fJ,O,ld6,O,Eh k2,O,e18,pr.2]
   .rcases cE.1 hy with rfl|hy
    .exact .inl aq
    .rcases k5 y hy with h4|h4
     .exact .inl (by simp[h4])
     .exact .inr h4
theorem NM(g:GoodL ar l)(h1:∀x∈ar,1<=x/\x<=64)(hll:l.length<=100000)(hal:ar.length<=16):∀(d v:Nat),v+d=ar.length->aN (ar.drop v)<=300->wE l ar za oa b v:=by
 have h1':∀x∈ar,1<=x:=fun x hx=>(h1 x hx).1;intro d
 induction d with
 | zero=>
  intro v hv hpv;exact Fu g h1 hll hal Z hpv (fun hlt=>Z)
 | succ d ih=>
  intro v hv hpv;refine Fu g h1 hll hal Z hpv (fun hlt=>ih (v+1) Z ?_);have hab:=h1 _ (bp hlt);have hps:=mH hlt;rw[aK,bn hlt,bQ] at hps
  have:aN (ar.drop (v+1))<=aN (ar.drop v):=by
   rw[hps];exact Nat.le_mul_of_pos_left _ Z
  omega
end
end Go.Ab
namespace Go.Ab
open Go.Proofs Go.Proofs.Tryz
theorem Ei{e:Nat}{m:af}{x:AV}{l:List ND}{T:List Nat}(h:NR e m x l T)(hl:l≠[]):∃t,x=NL false (.tok t e) l:=by
 cases h with
 | none=>exact absurd rfl hl
 | some t l ht=>exact ⟨t,rfl⟩
theorem Iu{l:List ND}{ar:List Int}(g:GoodL ar l)(h1:∀x∈ar,1<=x/\x<=64)(hll:l.length<=100000)(hal:ar.length<=16)(hp:aN ar<=300){id:Nat}{t:List Int}(htab:TabV ar l id 0 t)(za z:Bool)(oa o:Own) :
  AP aa 31 [IA za oa ar,IA z o t]=some (NL false .no (fR l (Vi l id []))):=by
 have hne:fR l (Vi l id [])≠[]:=by
  obtain ⟨_,c2,_⟩:=kV g id htab.lt [] lL;intro e;unfold fR at e;rw[oQ] at e;rw[e] at c2;cases c2
 have hb:e9 (.agg [aw,aw]) [(0,none,IA za oa ar)]=some (.agg [IA za oa ar,aw]):=rfl;have hx:cQ none (some 2) ([]:af) (.agg [IA za oa ar,aw])=some (.ptr 0 0,[some (Ent.B [IA za oa ar,aw])]):=rfl;obtain ⟨m',x',T',e,k1,k2,_,_,_⟩:=NM (za:=za) (oa:=oa) (b:=0) g h1 hll hal ar.length 0 Z hp [some (Ent.B [IA za oa ar,aw])] z o t id [] aw [] rfl .none aq lL htab;obtain ⟨tk,rfl⟩:=Ei k2 hne;refine fH (m:=m') (v:=NL false (.tok tk 146) (fR l (Vi l id []))) (l:=[]) ?_ rfl rfl;have e:AC aa 91 [.ptr 0 0,.I 0,IA z o t] [some (Ent.B [IA za oa ar,aw])]=_:=e;have ld:am none m' (.ptr 0 (0+1))=some (NL false (.tok tk 146) (fR l (Vi l id []))):=by rw[cS,k1];rfl
 rw[U1,hb,O,hx,O,e,O,iq,O,fJ,O,ld,O]
theorem WI{z:Bool}{o:Own}{L:List ND}(hL:L.length<=100000):∀(q p:List ND) (m:af) (x:AV) (T:List Nat),L=p++q->NR 146 m x p T ->
  ∃(m':af) (x':AV) (T':List Nat),yf x (NL z o L) (.I L.length) (.I p.length) m (BD (aD f90))=some (x',m')/\NR 146 m' x' L T':=by
 intro q
 induction q with
 | nil=>
  intro p m x T hpq h;rw[aW] at hpq;subst hpq;refine ⟨m,x,T,?_,h⟩;rw[Hf,bg,O,az,ag Z,Ta]
 | cons n q ih=>
  intro p m x T hpq h;have hpl:p.length<L.length:=by rw[hpq];simp
  have hat:L[p.length]=n:=by simp[hpq]
  have hix:=zF (z:=z) (o:=o) hpl;rw[hat] at hix;have bx:=yZ n m (zC m);have f1:Fr m (m++[some (Ent.B [.I n.var,bM n,.I n.leaf])]) []:=Fr.app m _ _;have h2:NR 146 (m++[some (Ent.B [.I n.var,bM n,.I n.leaf])]) x p T:=pF h fun k hk=>f1.get k (pE h k hk) aq;obtain ⟨x3,m3,T3,ea,n3,_,_⟩:=Ll h2 Z n;obtain ⟨m',x',T',e,k⟩:=ih (p++[n]) m3 x3 T3 (by rw[hpq,bE];rfl) n3;refine ⟨m',x',T',?_,k⟩
  have ld2:am (some 3) (m++[some (Ent.B [.I n.var,bM n,.I n.leaf])]) (.ptr m.length 0)=some n.av:=by
   rw[cS,bG rfl];rfl
  have hbs:cq (some 3) [n.av]=some (.lst (some 3) false .full [n.av]):=Zw n;rw[Hf,bg,O,az,ai Z,hix,O,zK,O,pD,pD];dsimp only;rw[bx,O,ld2,O,hbs,O,ea,O,b6 Z,O];rw[aQ] at e;exact e
theorem VZ(z:Bool)(o:Own)(L:List ND)(hL:L.length<=100000)(hne:L≠[]):AP aa 90 [NL z o L]=some (NL false .no L):=by
 obtain ⟨m',x',T',e,h⟩:=WI (z:=z) (o:=o) hL L [] [] aw [] rfl .none;obtain ⟨tk,rfl⟩:=Ei h hne;refine fH (m:=m') (v:=NL false (.tok tk 146) L) (l:=[]) ?_ rfl rfl;rw[Vs,DN,O];exact e
theorem NC{m0:af}{s:Nat}{F:List Nat}{arms:AV}{most:Int}{l:List ND}{ar:List Int}(h0:bB m0 s F arms most l)(g:GoodL ar l)(h1:∀x∈ar,1<=x/\x<=64)(hll:l.length<=100000)(hm:most≠0)(hal:ar.length<=16)(hp:aN ar<=300){id:Nat}{t:List Int}(htab:TabV ar l id 0 t)(za z:Bool)(oa o:Own) :
  ∃m',AC aa 29 [.ptr s 0,.I id,IA za oa ar,IA z o t] m0=some (.bool true,m')/\Fr m0 m' []:=by
 obtain ⟨m1,y,T,e25,hn,f⟩:=Nx h0 g hll hm htab.lt;obtain ⟨c1,c2,_⟩:=kV g id htab.lt [] lL
 have hne:fR l (Vi l id [])≠[]:=by
  intro e;unfold fR at e;rw[oQ] at e;rw[e] at c2;cases c2
 obtain ⟨tk,rfl⟩:=Ei hn hne
 have hlen:(fR l (Vi l id [])).length<=100000:=by
  unfold fR;rw[bA];have:=mA _ _ c1.nd c1.lt;omega
 have hok:=DX g hll c1;refine ⟨m1,?_,f⟩
 rw[UZ,e25,O,kq,O,kr,O,ik,O,az,ai rfl,
  b8 (Ds false (.tok tk 74) _),VZ _ _ _ hlen hne,aP,O,
  eC (gX za oa ar) (gX z o t),Iu g h1 hll hal hp htab,aP,O,qce _ _ _ _ _ _ hok hok hlen,O,eT rfl]
theorem dc(a b:Bool):ae .bl .neq (.bool a) (.bool b)=some (.bool (a != b)):=rfl
end Go.Ab
namespace Go.Ab
open Go.Proofs Go.Proofs.Tryz
theorem rv{l r:List ND}{id:Nat}(h:id<l.length):(l++r).getD id ⟨0,[],0⟩=l.getD id ⟨0,[],0⟩:=by
 rw[aK,kS h,<- aK]
def fE(ar:List Int)(l:List ND)(id:Nat):Int:=bY ar.length (l.getD id ⟨0,[],0⟩)
theorem mV{ar:List Int}{l r:List ND}{id:Nat}(h:id<l.length):fE ar (l++r) id=fE ar l id:=by unfold fE;rw[rv h]
theorem mf{ar:List Int}{l:List ND}{id:Nat}(h:id<l.length):fE ar l id=bY ar.length l[id]:=by unfold fE;rw[fK h]
section
variable {m:af} {s:Nat} {F:List Nat} {arms:AV} {most:Int} {l:List ND}
theorem I4{ar:List Int}{l:List ND}(g:GoodL ar l){i:Nat}(hi:i<l.length):0<=fE ar l i/\fE ar l i<=ar.length:=by
 rw[mf hi];unfold bY
 split
 .have:=(g.var i hi (by omega)).1;omega
 .omega
end
end Go.Ab
namespace Go.Ab
theorem vZ{ar:List Int}(h1:∀x∈ar,1<=x)(v:Nat):1<=aN (ar.drop v):=qD fun x hx=>h1 x (List.drop_subset _ _ hx)
theorem qcq{ar:List Int}(h1:∀x∈ar,1<=x)(v:Nat):aN (ar.drop (v+1))<=aN (ar.drop v):=by
 by_cases hv:v<ar.length
 .rw[mH hv];have:=h1 _ (bp hv);rw[aK,bn hv,bQ];exact Nat.le_mul_of_pos_left _ Z
 .rw[fQ Z,fQ Z];exact aI _
theorem LZ{ar:List Int}(h1:∀x∈ar,1<=x)(v:Nat):∀d,aN (ar.drop (v+d))<=aN (ar.drop v)
 | 0=>aI _
 | d+1=>eP (qcq h1 (v+d)) (LZ h1 v d)
def ku(l:List ND)(id i:Nat):Nat:=((l.getD id ⟨0,[],0⟩).kids.getD i 0).toNat
inductive Cut (ar:List Int) (v k:Nat) (l:List ND):Nat->Nat->Prop
 | hi (id:Nat) (h:id<l.length) (hv:(v:Int)<fE ar l id):Cut ar v k l id id
 | here (id:Nat) (h:id<l.length) (hv:fE ar l id=v):Cut ar v k l id (ku l id k)
 | lo (id:Nat) (cs:List Nat) (c:Nat) (h:id<l.length) (hv:fE ar l id<v) (hl:cs.length=(l.getD id ⟨0,[],0⟩).kids.length) (hk:∀i,i<cs.length->Cut ar v k l (ku l id i) (cs.getD i 0)) (hn:jm l (l.getD id ⟨0,[],0⟩).var (cs.map Int.ofNat)=(((c:Nat):Int),l)):Cut ar v k l id c
section
variable {ar:List Int} {v k:Nat} {l:List ND}
theorem KM{a b:List Nat}(hl:a.length=b.length)(h:∀i,i<a.length->a.getD i 0=b.getD i 0):a=b:=by
 apply List.ext_getElem hl;intro i h1 h2;have:=h i h1
 rwa [aK,bn h1,aK,bn h2,bQ,bQ] at this
theorem Cut.lt{id c:Nat}(h:Cut ar v k l id c):id<l.length:=by cases h<;>assumption
theorem Cut.det{id c:Nat}(h:Cut ar v k l id c):∀c',Cut ar v k l id c'->c=c':=by
 induction h with
 | hi id h hv=>
  intro c' h'
  cases h' with
  | hi=>rfl
  | here _ _ hv'=>omega
  | lo _ cs _ _ hv'=>omega
 | here id h hv=>
  intro c' h'
  cases h' with
  | hi _ _ hv'=>omega
  | here=>rfl
  | lo _ cs _ _ hv'=>omega
 | lo id cs c h hv hl hk hn ih=>
  intro c' h'
  cases h' with
  | hi _ _ hv'=>omega
  | here _ _ hv'=>omega
  | lo _ cs' _ _ hv' hl' hk' hn'=>
   have e:cs=cs':=KM Z fun i hi=>ih i hi _ (hk' i Z);subst e;rw[hn'] at hn;have:=(Prod.mk.inj hn).1;omega
theorem qaS{l:List ND}{n:ND}(h:gg l n=l):n∈l:=by
 unfold gg at h
 split at h
 .assumption
 .have:=cA List.length h;simp at this
theorem Li{w:Int}{ks:List Int}{c:Int}(h:jm l w ks=(c,l))(r:List ND):jm (l++r) w ks=(c,l++r):=by
 unfold jm at h ⊢
 split at h
 .rename_i hh;rw[ai hh,(Prod.mk.inj h).1]
 .rename_i hh;rw[ag hh];obtain ⟨h1,h2⟩:=Prod.mk.inj h;have hm:=qaS h2;have hm2:cW w ks∈l++r:=qV _ hm;rw[List.idxOf_append,ai hm,h1,gg,ai hm2]
theorem qbK{w:Int}{ks:List Int}{c:Int}{l l':List ND}(h:jm l w ks=(c,l')):jm l' w ks=(c,l'):=by
 unfold jm at h ⊢
 split at h
 .rename_i hh;rw[ai hh];obtain ⟨h1,h2⟩:=Prod.mk.inj h;rw[h1]
 .rename_i hh;rw[ag hh];obtain ⟨h1,h2⟩:=Prod.mk.inj h;subst h2;unfold gg
  by_cases hm:cW w ks∈l
  .rw[ai hm,ai hm,h1]
  .have hm2:cW w ks∈l++[cW w ks]:=List.mem_append_right _ (List.mem_singleton_self _);rw[ag hm,ai hm2];rw[vE hm] at h1;rw[List.idxOf_append,ag hm,<- h1];simp
theorem DK{id i:Nat}(h:id<l.length)(r:List ND):ku (l++r) id i=ku l id i:=by unfold ku;rw[rv h]
theorem Cut.app{id c:Nat}(h:Cut ar v k l id c)(r:List ND):Cut ar v k (l++r) id c:=by
 induction h with
 | hi id h hv=>exact .hi id (by simp;omega) (by rw[mV h];exact hv)
 | here id h hv=>
  rw[<- DK h r];exact .here id (by simp;omega) (by rw[mV h];exact hv)
 | lo id cs c h hv hl hk hn ih=>
  refine .lo id cs c (by simp;omega) (by rw[mV h];exact hv) (by rw[rv h];exact hl) (fun i hi=>?_) (by rw[rv h];exact Li hn r);rw[DK h r];exact ih i hi
theorem vG(g:GoodL ar l){id:Nat}(hid:id<l.length)(hv:fE ar l id<ar.length){i:Nat}(hi:i<(l.getD id ⟨0,[],0⟩).kids.length):ku l id i<id/\fE ar l id<fE ar l (ku l id i)/\((l.getD id ⟨0,[],0⟩).kids.getD i 0)=((ku l id i:Nat):Int):=by
 unfold ku;rw[fK hid] at hi ⊢;rw[mf hid] at hv ⊢
 have hva:0<=l[id].var:=by
  refine Decidable.byContradiction fun hn=>?_;unfold bY at hv;rw[ag Z] at hv;omega
 obtain ⟨b1,b2⟩:=g.var id hid hva;obtain ⟨t,e,ht,h2⟩:=jW g hid hva (k:=i) (by rw[<- b2];omega);rw[e,cB];refine ⟨ht,?_,rfl⟩;have:=h2 Z;rw[mf Z];unfold bY;rw[ai hva];unfold bY at this;exact this
theorem uZ(g:GoodL ar l){id:Nat}(hid:id<l.length)(hv:fE ar l id<ar.length):(l.getD id ⟨0,[],0⟩).var=fE ar l id/\0<=fE ar l id/\((l.getD id ⟨0,[],0⟩).kids.length:Int)=ar.getD (fE ar l id).toNat 0/\2<=(l.getD id ⟨0,[],0⟩).kids.length:=by
 rw[fK hid];rw[mf hid] at hv ⊢
 have hva:0<=l[id].var:=by
  refine Decidable.byContradiction fun hn=>?_;unfold bY at hv;rw[ag Z] at hv;omega
 have e:bY ar.length l[id]=l[id].var:=by unfold bY;rw[ai hva]
 rw[e];refine ⟨rfl,hva,(g.var id hid hva).2,?_⟩;obtain ⟨q,hq,hne⟩:=g.dif id hid hva
 cases hk:l[id].kids with
 | nil=>rw[hk] at hq;cases hq
 | cons k0 kt=>
  cases kt with
  | nil=>
   rw[hk] at hq hne;simp at hq;exact absurd hq hne
  | cons k1 kt=>simp
theorem Cut.sem{id c:Nat}(h:Cut ar v k l id c)(g:GoodL ar l)(h1:∀x∈ar,1<=x/\x<=64)(hal:ar.length<=16)(hv:v<ar.length)(hk:(k:Int)<ar.getD v 0)(hll:l.length<=900000):c<l.length/\fE ar l id<=fE ar l c/\∀y,cO ar y->S l y c=S l (upd y v k) id:=by
 induction h with
 | hi id h hva=>exact ⟨h,lC _,fun y hy=>(p8 g hy hk id h (by rw[<- mf h];exact hva)).symm⟩
 | here id h hva=>
  obtain ⟨a1,a2,a3,a4⟩:=uZ g h Z
  have hkl:k<(l.getD id ⟨0,[],0⟩).kids.length:=by
   have:(fE ar l id).toNat=v:=Z;rw[this] at a3;omega
  obtain ⟨b1,b2,b3⟩:=vG g h Z hkl;refine ⟨Z,Z,fun y hy=>?_⟩;have e:=sV g hy h (v:=v) (k:=k) (by rw[<- fK h];omega) hk;rw[e];unfold ku;rw[fK h]
 | lo id cs c h hva hl hkk hn ih=>
  obtain ⟨a1,a2,a3,a4⟩:=uZ g h Z;obtain ⟨w,hw⟩:=jO a2;have hw':fE ar l id=(w:Int):=hw;have hwv:w<v:=Z;have hwt:(fE ar l id).toNat=w:=Z;rw[hwt] at a3
  obtain ⟨r,id',er,hr1,hr2,gi,hidl,htop,hS⟩:=zZ g h1 hal (v:=w) Z (ks:=cs) (by rw[hl];exact a3) (fun q hq=>by
   obtain ⟨i,hi,e⟩:=ig hq;obtain ⟨c1,c2,_⟩:=ih i hi;obtain ⟨b1,b2,_⟩:=vG g h Z (i:=i) Z;rw[aK,bn hi,bQ,e] at c1 c2;refine ⟨c1,?_⟩
   rw[<- mf c1];omega) hll
  rw[a1,hw',er] at hn;obtain ⟨e1,e2⟩:=Prod.mk.inj hn
  have hr:r=[]:=by
   have:=cA List.length e2;simp at this;exact this
  subst hr;rw[aW] at hidl;have e3:id'=c:=Z;subst e3;have e4:(l++[])[id']'(by rw[aW];exact hidl)=l[id']:=aq
  refine ⟨hidl,?_,fun y hy=>?_⟩
  .rw[mf hidl,hw',<- e4];exact htop
  .have hyw:y w<cs.length:=by have:=hy w Z;rw[hl];omega
   have h5:=hS y hy;rw[aW] at h5;rw[h5,(ih (y w) hyw).2.2 y hy];have h6:=nw g (hy.upd hk) h (by rw[<- fK h];omega);have e7:l[id].var.toNat=w:=by rw[<- fK h];omega
   rw[h6,e7];have e8:upd y v k w=y w:=by unfold upd;rw[ag Z]
   rw[e8];unfold ku;rw[fK h]
end
end Go.Ab
namespace Go.Ab
noncomputable section
variable (a0 a1 a2 a3 a4 a5 x0 x1 x2 x3 x4 x5 x8 x9 x10 x11 x13 x14 x15 x16 x17 x18 x19 x22 x24 x32 x33 x34 x41 x42 x43 x53 x54 x55 x56 x113 x114 x115 x155 x156:AV) (m:af) (K:KT)
open Go.Proofs.Tryz
def Hj:St:=⟨(x0::x1::aH (x4::aO (x13::bc (aJ (aH (aG [])))))),m⟩
def sq:OM:=bD 103 (bI (aV (c2 (aA f103)))) 10 (x0::x1::x2::x3::x4::aO (x13::bm (aO (x54::x55::x56::bh (aO (aJ [])))))) m K
abbrev Oa:KT:=bi 103 (aV (c2 (c2 (aA f103)))) K
abbrev Ob:KT:=be 0 (Oa K)
abbrev ua:KT:=(Ob K)
theorem TW:AC aa 103 [a0,a1,a2,a3,a4] m=(AC aa 68 [a0,a1] m).bind fun r1=>(ae .o .gtr r1.1 a2).bind fun v2=>au v2 (some (a1,r1.2)) ((AC aa 68 [a0,a1] r1.2).bind fun r3=>(ae .o .eql r3.1 a2).bind fun v4=>au v4 ((d7 a0).bind fun v5=>(aR 1 v5).bind fun v6=>(am none r3.2 v6).bind fun v7=>(aE (some 3) v7 a1).bind fun v8=>(aR 1 v8).bind fun v9=>(am none r3.2 v9).bind fun v10=>(aE none v10 a3).bind fun v11=>(am none r3.2 v11).bind fun v12=>some (v12,r3.2)) ((i6 (.int .i64) (.I 0) r3.2 a4 a1).bind fun q13=>(aT (.tup [q13.1,.bool q13.2]) 0).bind fun v14=>(aT (.tup [q13.1,.bool q13.2]) 1).bind fun v15=>au v15 (some (v14,r3.2)) ((d7 a0).bind fun v16=>(aR 1 v16).bind fun v17=>(am none r3.2 v17).bind fun v18=>(aE (some 3) v18 a1).bind fun v19=>(aR 1 v19).bind fun v20=>(am none r3.2 v20).bind fun v21=>(aL false v21).bind fun v22=>sq a0 a1 a2 a3 a4 aw v21 v22 (.I 0) r3.2 (ua (aD f103))))):=
(aZ aa 103 [a0,a1,a2,a3,a4] m (fn:=f103) (c:=aA f103) Xq rfl).trans aj
theorem FR:sq x0 x1 x2 x3 x4 x13 x54 x55 x56 m K=(ae .o .lss x56 x55).bind fun v1=>au v1 ((aE none x54 x56).bind fun v2=>(am none m v2).bind fun v3=>(AC aa 103 [x0,v3,x2,x3,x4] m).bind fun r4=>(cq none [r4.1]).bind fun v5=>(bF none false 3 none 8 r4.2 x13 v5).bind fun r6=>(ae .o .add x56 (.I 1)).bind fun v7=>sq x0 x1 x2 x3 x4 r6.1 x54 x55 v7 r6.2 K) (K (.exit 0) (Hj x0 x1 x4 x13 m)):=
(bC (bw _) _ _ _).trans aj
theorem Oc:ua (aD f103) (.exit 0) (Hj x0 x1 x4 x13 m)=(d7 x0).bind fun v1=>(aR 1 v1).bind fun v2=>(am none m v2).bind fun v3=>(aE (some 3) v3 x1).bind fun v4=>(aR 0 v4).bind fun v5=>(am none m v5).bind fun v6=>(AC aa 99 [x0,v6,x13] m).bind fun r7=>(gM (.int .i64) r7.2 x4 x1 r7.1).bind fun m8=>some (r7.1,m8):=aj
theorem Vo:AC aa 85 [a0,a1,a2,a3] m=(am none m a0).bind fun v1=>(am none m a1).bind fun v2=>(am none m a2).bind fun v3=>(am none m a3).bind fun v4=>(AC aa 86 [v1,v2,v3,(.I 0),v4,(.mref (aC none m .resv).1)] (aC none m (.mp (.arr 2 .i64) [])).2).bind fun r5=>some (r5.1,r5.2):=
(aZ aa 85 [a0,a1,a2,a3] m (fn:=f85) (c:=aA f85) Y9 rfl).trans aj
def HH:St:=⟨(x0::aG (x2::x3::aG (x5::aO (aG (x15::bc (aJ (aH (aG [])))))))),m⟩
def sF:OM:=bD 86 (bI (aV (aA f86))) 8 (x0::x1::x2::x3::x4::x5::aO (aG (x15::bm (aJ (aG (x53::x54::bm [])))))) m K
abbrev SV:KT:=bi 86 (aV (c2 (aA f86))) K
abbrev SW:KT:=be 0 (SV K)
abbrev uh:KT:=(SW K)
theorem Vp:AC aa 86 [a0,a1,a2,a3,a4,a5] m=(d7 a1).bind fun v1=>(aR 1 v1).bind fun v2=>(am none m v2).bind fun v3=>(aE (some 3) v3 a2).bind fun v4=>(aR 0 v4).bind fun v5=>(am none m v5).bind fun v6=>(ae .o .lss v6 (.I 0)).bind fun v7=>au v7 ((d7 a1).bind fun v8=>(aR 1 v8).bind fun v9=>(am none m v9).bind fun v10=>(aE (some 3) v10 a2).bind fun v11=>(aR 2 v11).bind fun v12=>(am none m v12).bind fun v13=>(AC aa 96 [a0,v13] m).bind fun r14=>some (r14.1,r14.2)) ((e9 (.agg [(.I 0),(.I 0)]) [(0,none,a2),(1,none,a3)]).bind fun v15=>(i6 (.arr 2 .i64) (.I 0) m a5 v15).bind fun q16=>(aT (.tup [q16.1,.bool q16.2]) 0).bind fun v17=>(aT (.tup [q16.1,.bool q16.2]) 1).bind fun v18=>au v18 (some (v17,m)) ((d7 a0).bind fun v19=>(aR 0 v19).bind fun v20=>(am none m v20).bind fun v21=>(aE none v21 a3).bind fun v22=>(am none m v22).bind fun v23=>sF a0 a1 a2 a3 a4 a5 aw v23 (.I 0) m (uh (aD f86)))):=
(aZ aa 86 [a0,a1,a2,a3,a4,a5] m (fn:=f86) (c:=aA f86) Za rfl).trans aj
theorem Hb:sF x0 x1 x2 x3 x4 x5 x15 x53 x54 m K=(ae .o .lss x54 x53).bind fun v1=>au v1 ((aE none x4 x3).bind fun v2=>(am none m v2).bind fun v3=>(AC aa 103 [x1,x2,v3,x54,(.mref (aC none m .resv).1)] (aC none m (.mp (.int .i64) [])).2).bind fun r4=>(ae .o .add x3 (.I 1)).bind fun v5=>(AC aa 86 [x0,x1,r4.1,v5,x4,x5] r4.2).bind fun r6=>(cq none [r6.1]).bind fun v7=>(bF none false 3 none 8 r6.2 x15 v7).bind fun r8=>(ae .o .add x54 (.I 1)).bind fun v9=>sF x0 x1 x2 x3 x4 x5 r8.1 x53 v9 r8.2 K) (K (.exit 0) (HH x0 x2 x3 x5 x15 m)):=
(bC (bw _) _ _ _).trans aj
theorem SX:uh (aD f86) (.exit 0) (HH x0 x2 x3 x5 x15 m)=(AC aa 99 [x0,x3,x15] m).bind fun r1=>(e9 (.agg [(.I 0),(.I 0)]) [(0,none,x2),(1,none,x3)]).bind fun v2=>(gM (.arr 2 .i64) r1.2 x5 v2 r1.1).bind fun m3=>some (r1.1,m3):=aj
def HG:St:=⟨(aH (aG (x3::bh (aJ (aG []))))),m⟩
def yc:OM:=bD 83 (bI (c2 (c2 (aA f83)))) 3 (aH (aG (x3::aO (aH (x14::x15::x16::aO []))))) m K
abbrev SR:KT:=bi 83 (c2 (c2 (c2 (aA f83)))) K
abbrev ST:KT:=be 0 (SR K)
abbrev BB:KT:=(ST K)
theorem Vn:AC aa 83 [a0] m=(d7 a0).bind fun v1=>(aR 0 v1).bind fun v2=>(am none m v2).bind fun v3=>(AC aa 138 [v3] m).bind fun r4=>(d7 a0).bind fun v5=>(aR 1 v5).bind fun v6=>(am none r4.2 v6).bind fun v7=>(aL false v7).bind fun v8=>yc r4.1 v7 v8 (.I 0) r4.2 (BB (aD f83)):=
(aZ aa 83 [a0] m (fn:=f83) (c:=aA f83) Y7 rfl).trans aj
theorem G9:yc x3 x14 x15 x16 m K=(ae .o .lss x16 x15).bind fun v1=>au v1 ((aE (some 3) x14 x16).bind fun v2=>(am (some 3) m v2).bind fun v3=>(aM (some 3) (aC none m (.B [(.I 0),aw,(.I 0)])).2 (.ptr (aC none m .resv).1 0) v3).bind fun m4=>(am (some 3) m4 (.ptr (aC none m .resv).1 0)).bind fun v5=>(AC aa 139 [x3,v5] m4).bind fun r6=>(ae .o .add x16 (.I 1)).bind fun v7=>yc x3 x14 x15 v7 r6.2 K) (K (.exit 0) (HG x3 m)):=
(bC (bw _) _ _ _).trans aj
theorem SU:BB (aD f83) (.exit 0) (HG x3 m)=some (x3,m):=aj
def HF:St:=⟨(bm (aJ (aG []))),m⟩
def yH:St:=⟨(aJ (x4::bm [])),m⟩
def yb:OM:=bD 82 (bI (c2 (c2 (c2 (aA f82))))) 5 (aG (x1::aH (aG (x5::aO (x14::x15::x16::bh (aJ [])))))) m K
abbrev SO:KT:=bi 82 (aV (aA f82)) K
abbrev SP:KT:=be 0 (SO K)
abbrev w6:KT:=(SP K)
theorem Vm:AC aa 82 [a0,a1] m=(aL false a0).bind fun v1=>(ae .o .neq v1 a1).bind fun v2=>au v2 (some ((.bool false),m)) ((fU none 4 none (.bool false) 1 m a1 a1).bind fun r3=>(aL false a0).bind fun v4=>yb a1 r3.1 a0 v4 (.I 0) r3.2 (w6 (aD f82))):=
(aZ aa 82 [a0,a1] m (fn:=f82) (c:=aA f82) Y6 rfl).trans aj
theorem G8:yb x1 x5 x14 x15 x16 m K=(ae .o .lss x16 x15).bind fun v1=>au v1 ((aE none x14 x16).bind fun v2=>(am none m v2).bind fun v3=>(ae .o .lss v3 (.I 0)).bind fun v4=>au v4 (K .ret (yH (.bool false) m)) ((ae .o .geq v3 x1).bind fun v5=>au v5 (K .ret (yH (.bool false) m)) ((aE none x5 v3).bind fun v6=>(am none m v6).bind fun v7=>au v7 (K .ret (yH (.bool false) m)) ((aE none x5 v3).bind fun v8=>(aM none m v8 (.bool true)).bind fun m9=>(ae .o .add x16 (.I 1)).bind fun v10=>yb x1 x5 x14 x15 v10 m9 K)))) (K (.exit 0) (HF m)):=
(bC (bw _) _ _ _).trans aj
theorem SQ:w6 (aD f82) (.exit 0) (HF  m)=some ((.bool true),m):=aj
theorem BA:w6 (aD f82) .ret (yH x4 m)=some (x4,m):=aj
theorem Us:AC aa 138 [a0] m=(aF (AP aa) none m 88 [a0]).bind fun r1=>(e9 (.agg [aw,aw,.nilm,(.I 0)]) [(0,none,r1.1),(2,none,(.mref (aC none r1.2 .resv).1)),(3,none,(.I 1073741824))]).bind fun v2=>(cQ none (some 4) (aC none r1.2 (.mp .str [])).2 v2).bind fun r3=>some (r3.1,r3.2):=
(aZ aa 138 [a0] m (fn:=f138) (c:=aA f138) XO rfl).trans aj
def Ch:St:=⟨(x0::x1::x2::aJ (aG (x8::x9::bm (bh (aO (aH [])))))),m⟩
def uy:OM:=bD 26 (bI (c2 (c2 (aA f26)))) 3 (x0::x1::x2::aJ (aG (x8::x9::aJ (aH (aG (x17::x18::x19::bm (bh []))))))) m K
def HA:St:=⟨(aO (x8::x9::bm (bh (aO (aH []))))),m⟩
def xQ:OM:=bD 26 (bI (c2 (c2 (c2 (aA f26))))) 8 (x0::x1::x2::aJ (aG (x8::x9::bh (aJ (aH (x32::x33::x34::bm (aG []))))))) m K
def Cg:St:=⟨(x0::x1::x2::aJ (aG (x8::x9::aJ (x14::bh (aG (x32::x33::x34::bm (aG []))))))),m⟩
def xP:OM:=bD 26 (bI (jf (jf (kZ (c2 (aA f26)))))) 12 (x0::x1::x2::aJ (aG (x8::x9::aH (aG (x13::x14::bh (aG (x32::x33::x34::aJ (aH (x41::x42::x43::bh (aO [])))))))))) m K
abbrev RD:KT:=bi 26 (c2 (c2 (c2 (aA f26)))) K
abbrev RE:KT:=be 0 (RD K)
abbrev wX:KT:=(RE K)
abbrev Ry:KT:=bi 26 (js (kn (c2 (c2 (aA f26))))) (kI 26 (bI (c2 (c2 (c2 (aA f26))))) 8 K)
abbrev Rz:KT:=be 3 (Ry K)
abbrev RA:KT:=bi 26 (js (s9 (kn (c2 (c2 (aA f26)))))) (Rz K)
abbrev RB:KT:=be 4 (RA K)
abbrev Bt:KT:=(RB K)
abbrev RG:KT:=bi 26 (aV (aA f26)) K
abbrev RH:KT:=be 2 (RG K)
abbrev wY:KT:=(RH K)
theorem UW:AC aa 26 [a0,a1,a2] m=(aL false a2).bind fun v1=>uy a0 a1 a2 aw aw a2 v1 (.I 0) m (wX (aD f26)):=
(aZ aa 26 [a0,a1,a2] m (fn:=f26) (c:=aA f26) Yu rfl).trans aj
theorem GM:uy x0 x1 x2 x8 x9 x17 x18 x19 m K=(ae .o .lss x19 x18).bind fun v1=>au v1 ((aE none x17 x19).bind fun v2=>(am none m v2).bind fun v3=>(aE none x0 v3).bind fun v4=>(am none m v4).bind fun v5=>(cq none [v5]).bind fun v6=>(bF none false 3 none 8 m x8 v6).bind fun r7=>(ae .o .add x19 (.I 1)).bind fun v8=>uy x0 x1 x2 r7.1 x9 x17 x18 v8 r7.2 K) (K (.exit 0) (Ch x0 x1 x2 x8 x9 m)):=
(bC (bw _) _ _ _).trans aj
theorem GN:xQ x0 x1 x2 x8 x9 x32 x33 x34 m K=(ae .o .lss x34 x33).bind fun v1=>au v1 ((aE none x32 x34).bind fun v2=>(am none m v2).bind fun v3=>(aL false x0).bind fun v4=>(fU none 3 none (.I 0) 8 m v4 v4).bind fun r5=>(aL false x2).bind fun v6=>xP x0 x1 x2 x8 x9 v3 r5.1 x32 x33 x34 x2 v6 (.I 0) r5.2 (Bt K)) (K (.exit 2) (HA x8 x9 m)):=
(bC (bw _) _ _ _).trans aj
theorem GL:xP x0 x1 x2 x8 x9 x13 x14 x32 x33 x34 x41 x42 x43 m K=(ae .o .lss x43 x42).bind fun v1=>au v1 ((aE none x41 x43).bind fun v2=>(am none m v2).bind fun v3=>(aE none x13 x43).bind fun v4=>(am none m v4).bind fun v5=>(aE none x14 v3).bind fun v6=>(aM none m v6 v5).bind fun m7=>(ae .o .add x43 (.I 1)).bind fun v8=>xP x0 x1 x2 x8 x9 x13 x14 x32 x33 x34 x41 x42 v8 m7 K) (K (.exit 4) (Cg x0 x1 x2 x8 x9 x14 x32 x33 x34 m)):=
(bC (bw _) _ _ _).trans aj
theorem RF:wX (aD f26) (.exit 0) (Ch x0 x1 x2 x8 x9 m)=(aF (AP aa) none m 54 [x8]).bind fun r1=>(aL false r1.1).bind fun v2=>xQ x0 x1 x2 x8 x9 r1.1 v2 (.I 0) r1.2 (wY (aD f26)):=aj
theorem RC:Bt K (.exit 4) (Cg x0 x1 x2 x8 x9 x14 x32 x33 x34 m)=(aF (AP aa) none m 87 [x0,x14]).bind fun r1=>(aE none x1 r1.1).bind fun v2=>(am none r1.2 v2).bind fun v3=>(cq none [v3]).bind fun v4=>(bF none false 3 none 8 r1.2 x9 v4).bind fun r5=>(ae .o .add x34 (.I 1)).bind fun v6=>xQ x0 x1 x2 x8 r5.1 x32 x33 v6 r5.2 K:=aj
theorem RI:wY (aD f26) (.exit 2) (HA x8 x9 m)=some ((.tup [x8,x9]),m):=aj
def Hz:St:=⟨(bm (aJ (aG []))),m⟩
def yE:St:=⟨(aJ (x4::bm [])),m⟩
def xO:OM:=bD 25 (bI (c2 (c2 (c2 (aA f25))))) 5 (aG (x1::aH (aG (x5::aO (x14::x15::x16::bh (aJ [])))))) m K
abbrev Rv:KT:=bi 25 (aV (aA f25)) K
abbrev Rw:KT:=be 0 (Rv K)
abbrev wW:KT:=(Rw K)
theorem UV:AC aa 25 [a0,a1] m=(aL false a0).bind fun v1=>(ae .o .neq v1 a1).bind fun v2=>au v2 (some ((.bool false),m)) ((fU none 4 none (.bool false) 1 m a1 a1).bind fun r3=>(aL false a0).bind fun v4=>xO a1 r3.1 a0 v4 (.I 0) r3.2 (wW (aD f25))):=
(aZ aa 25 [a0,a1] m (fn:=f25) (c:=aA f25) Yt rfl).trans aj
theorem GK:xO x1 x5 x14 x15 x16 m K=(ae .o .lss x16 x15).bind fun v1=>au v1 ((aE none x14 x16).bind fun v2=>(am none m v2).bind fun v3=>(ae .o .lss v3 (.I 0)).bind fun v4=>au v4 (K .ret (yE (.bool false) m)) ((ae .o .geq v3 x1).bind fun v5=>au v5 (K .ret (yE (.bool false) m)) ((aE none x5 v3).bind fun v6=>(am none m v6).bind fun v7=>au v7 (K .ret (yE (.bool false) m)) ((aE none x5 v3).bind fun v8=>(aM none m v8 (.bool true)).bind fun m9=>(ae .o .add x16 (.I 1)).bind fun v10=>xO x1 x5 x14 x15 v10 m9 K)))) (K (.exit 0) (Hz m)):=
(bC (bw _) _ _ _).trans aj
theorem Rx:wW (aD f25) (.exit 0) (Hz  m)=some ((.bool true),m):=aj
theorem Bs:wW (aD f25) .ret (yE x4 m)=some (x4,m):=aj
def Cj:St:=⟨(aO (aH (x10::x11::aG (x13::x14::aH (aG (x18::x19::bc (bc (bm (aJ (aH [])))))))))),m⟩
def uA:OM:=bD 4 (bI (aV (aV (aV (c2 (aA f4)))))) 19 (aO (aH (x10::x11::aG (x13::x14::aH (aG (x18::x19::bc (bh (aO (aJ (aG (x113::x114::x115::bc (aJ (aH []))))))))))))) m K
def Ck:St:=⟨(bc (bc (bm (bh (aO (aH [])))))),m⟩
def HW:St:=⟨(aO (x8::bc (bc (bm (bh (aG [])))))),m⟩
def uC:OM:=bD 4 (bI (aV (aV (aV (aV (c2 (aA f4))))))) 28 (bh (aJ (aH (x22::aG (x24::bc (bc (aH (x155::x156::bh (aO (aJ (aG []))))))))))) m K
abbrev R4:KT:=bi 4 (aV (aV (aV (c2 (c2 (aA f4)))))) K
abbrev R5:KT:=be 0 (R4 K)
abbrev w0:KT:=(R5 K)
abbrev R7:KT:=bi 4 (aV (aV (aV (aV (c2 (c2 (aA f4))))))) K
abbrev R8:KT:=be 2 (R7 K)
abbrev w3:KT:=(R8 K)
theorem T4:AC aa 4 [a0,a1,a2,a3] m=(aF (AP aa) none m 10 [a0]).bind fun r1=>(aF (AP aa) none r1.2 11 [r1.1]).bind fun r2=>(ae .o .neq r2.1 (.I 0)).bind fun v3=>au v3 ((aF (AP aa) none r2.2 13 []).bind fun r4=>some (r4.1,r4.2)) ((aF (AP aa) none r2.2 12 [r1.1,(.I 100)]).bind fun r5=>(ae .o .eql r5.1 (.I 0)).bind fun v6=>au v6 ((aF (AP aa) none r5.2 13 []).bind fun r7=>some (r7.1,r7.2)) ((aF (AP aa) none r5.2 14 [r1.1,a1]).bind fun r8=>(AC aa 15 [r1.1,r8.1] r8.2).bind fun r9=>(aT r9.1 0).bind fun v10=>(aT r9.1 1).bind fun v11=>(aT r9.1 2).bind fun v12=>(il .not v12).bind fun v13=>au v13 (some ((.bool false),r9.2)) ((AC aa 24 [v10,v11,a3] r9.2).bind fun r14=>(aT r14.1 0).bind fun v15=>(aT r14.1 1).bind fun v16=>(aT r14.1 2).bind fun v17=>(aL false r1.1).bind fun v18=>(aF (AP aa) none r14.2 25 [a3,v18]).bind fun r19=>(il .not r19.1).bind fun v20=>au v20 ((ae .o .eql v17 (.I 1)).bind fun v21=>au v21 ((ae .pt .eql v15 .nilp).bind fun v22=>au v22 ((aF (AP aa) none r19.2 13 []).bind fun r23=>some (r23.1,r23.2)) (some ((.bool false),r19.2))) (some ((.bool false),r19.2))) ((aF (AP aa) none r19.2 26 [r1.1,r8.1,a3]).bind fun r24=>(aT r24.1 0).bind fun v25=>(aT r24.1 1).bind fun v26=>(ae .o .neq v17 (.I 0)).bind fun v27=>au v27 (some ((.bool false),r24.2)) ((AC aa 28 [v15] r24.2).bind fun r28=>(aF (AP aa) none r28.2 27 [r28.1,v25]).bind fun r29=>(il .not r29.1).bind fun v30=>au v30 (some ((.bool false),r29.2)) ((AC aa 29 [v15,v16,v25,v26] r29.2).bind fun r31=>(il .not r31.1).bind fun v32=>au v32 (some ((.bool false),r31.2)) ((AC aa 30 [v15] r31.2).bind fun r33=>(aF (AP aa) none r33.2 31 [v25,v26]).bind fun r34=>(aL false r34.1).bind fun v35=>(ae .o .neq r33.1 v35).bind fun v36=>au v36 (some ((.bool false),r34.2)) ((aF (AP aa) none r34.2 16 [r1.1,a2]).bind fun r37=>(aF (AP aa) none r37.2 18 [r1.1,r37.1]).bind fun r38=>(il .not r38.1).bind fun v39=>au v39 ((aF (AP aa) none r38.2 13 []).bind fun r40=>some (r40.1,r40.2)) ((aL false a3).bind fun v41=>uA v10 v11 v15 v16 r37.1 aw a3 v41 (.I 0) r38.2 (w0 (aD f4))))))))))):=
(aZ aa 4 [a0,a1,a2,a3] m (fn:=f4) (c:=aA f4) YF rfl).trans aj
theorem GT:uA x10 x11 x13 x14 x18 x19 x113 x114 x115 m K=(ae .o .lss x115 x114).bind fun v1=>au v1 ((aE none x113 x115).bind fun v2=>(am none m v2).bind fun v3=>(aE none x18 v3).bind fun v4=>(am none m v4).bind fun v5=>(cq none [v5]).bind fun v6=>(bF none false 22 none 24 m x19 v6).bind fun r7=>(ae .o .add x115 (.I 1)).bind fun v8=>uA x10 x11 x13 x14 x18 r7.1 x113 x114 v8 r7.2 K) (K (.exit 0) (Cj x10 x11 x13 x14 x18 x19 m)):=
(bC (bw _) _ _ _).trans aj
theorem GU:uC x22 x24 x155 x156 m K=(ae .o .lss x156 x155).bind fun v1=>au v1 ((aE (some 4) x22 x156).bind fun v2=>(aR 0 v2).bind fun v3=>(am none m v3).bind fun v4=>(aE (some 4) x24 x156).bind fun v5=>(aR 0 v5).bind fun v6=>(am none m v6).bind fun v7=>(ae .o .neq v4 v7).bind fun v8=>au v8 (K .ret (HW (.bool false) m)) ((aE (some 4) x22 x156).bind fun v9=>(aR 1 v9).bind fun v10=>(am (some 3) m v10).bind fun v11=>(aE (some 4) x24 x156).bind fun v12=>(aR 1 v12).bind fun v13=>(am (some 3) m v13).bind fun v14=>(aF (AP aa) (some m.length) m 21 [v11,v14]).bind fun r15=>(il .not r15.1).bind fun v16=>au v16 (K .ret (HW (.bool false) r15.2)) ((ae .o .add x156 (.I 1)).bind fun v17=>uC x22 x24 x155 v17 r15.2 K))) (K (.exit 2) (Ck m)):=
(bC (bw _) _ _ _).trans aj
theorem R6:w0 (aD f4) (.exit 0) (Cj x10 x11 x13 x14 x18 x19 m)=(AC aa 17 [x10,x11,x18] m).bind fun r1=>(aT r1.1 0).bind fun v2=>(aT r1.1 1).bind fun v3=>(AC aa 17 [x13,x14,x19] r1.2).bind fun r4=>(aT r4.1 0).bind fun v5=>(aT r4.1 1).bind fun v6=>(ae .o .neq v3 (.I 0)).bind fun v7=>au v7 (some ((.bool false),r4.2)) ((ae .o .neq v6 (.I 0)).bind fun v8=>au v8 (some ((.bool false),r4.2)) ((aL false v2).bind fun v9=>(aL false v5).bind fun v10=>(ae .o .neq v9 v10).bind fun v11=>au v11 (some ((.bool false),r4.2)) ((aL false v2).bind fun v12=>uC v2 v5 v12 (.I 0) r4.2 (w3 (aD f4))))):=aj
theorem R9:w3 (aD f4) (.exit 2) (Ck  m)=(aF (AP aa) none m 13 []).bind fun r1=>some (r1.1,r1.2):=aj
end
end Go.Ab
namespace Go.Ab
open Go.Proofs Go.Proofs.Tryz
def qi(E:List (Nat×Nat)):List (AV×AV):=E.map fun e=>(.I e.1,.I e.2)
theorem Mc(E:List (Nat×Nat))(a:Nat):(qi E).find? (fun p=>fF p.1 (.I a))=(E.find? fun e=>decide (e.1=a)).map fun e=>(.I e.1,.I e.2):=by
 unfold qi;rw[List.find?_map];congr 2;funext e;show fF (.I (e.1:Int)) (.I (a:Int))=decide (e.1=a);simp only[fF,nA,decide_true,jc];exact iz.2 Z
theorem qbn{m:af}{p a:Nat}{E:List (Nat×Nat)}(hp:m.get p=some (.mp (.int .i64) (qi E)))(ha:a<=1000000) :
  i6 (.int .i64) (.I 0) m (.mref p) (.I a)=some (match E.find? fun e=>decide (e.1=a) with|some e=>(.I e.2,true)|none=>(.I 0,false)):=by
 have h1:gR m (.int .i64) (.mref p)=some (p,qi E):=by simp[gR,hp]
 unfold i6;rw[h1];simp only[O,tg ha,aY,qu,Mc];cases E.find? fun e=>decide (e.1=a)<;>rfl
theorem qd9{m:af}{p a id:Nat}{E:List (Nat×Nat)}(hp:m.get p=some (.mp (.int .i64) (qi E)))(ha:a<=1000000)(hn:∀e∈E,e.1≠a)(hl:E.length<=100000) :
  gM (.int .i64) m (.mref p) (.I a) (.I id)=some (m.set p (some (.mp (.int .i64) (qi (E++[(a,id)]))))):=by
 have h1:gR m (.int .i64) (.mref p)=some (p,qi E):=by simp[gR,hp]
 have h3:(qi E).any (fun p=>fF p.1 (.I a))=false:=by
  have:=Mc E a
  have h4:(E.find? fun e=>decide (e.1=a))=none:=by
   rw[List.find?_eq_none];intro e he;simpa using hn e he
  rw[h4,Option.map_none,List.find?_eq_none] at this;rw[List.any_eq_false];exact this
 unfold gM;rw[h1,O,ai ⟨tg ha,rfl,by unfold qi;rw[bA];unfold maxLen;omega⟩]
 have e5:i8 (qi E) (.I a) (.I id)=qi (E++[(a,id)]):=by
  unfold qi at h3 ⊢;simp only[i8,h3,gW,cU,mc]
 rw[e5]
theorem rx{l:List Int}{i:Nat}(h:i<l.length):l.getD i 0=l[i]:=by rw[aK,bn h,bQ]
def wD(most:Int)(lim:Nat)(s pm:Nat)(zs:Bool)(os:Own)(ar:List Int)(v k w:Nat):Prop:=
 ∀(m:af) (F:List Nat) (l:List ND) (E:List (Nat×Nat)) (id:Nat),bB m s F (IA zs os ar) most l->GoodL ar l->id<l.length->(w:Int)<=fE ar l id->(∀e∈E,Cut ar v k l e.1 e.2)->m.get pm=some (.mp (.int .i64) (qi E))->pm∉F->l.length+2*aN ((ar.take v).drop w)<=lim->E.length+2*aN ((ar.take v).drop w)<=90000 ->
  ∃(m':af) (F':List Nat) (r:List ND) (N:List (Nat×Nat)) (c:Nat),AC aa 103 [.ptr s 0,.I id,.I v,.I k,.mref pm] m=some (.I (c:Nat),m')/\bB m' s F' (IA zs os ar) most (l++r)/\GoodL ar (l++r)/\(∀e∈E++N,Cut ar v k (l++r) e.1 e.2)/\m'.get pm=some (.mp (.int .i64) (qi (E++N)))/\Cut ar v k (l++r) id c /\
   r.length+1<=2*aN ((ar.take v).drop w)/\N.length+1<=2*aN ((ar.take v).drop w)/\((∃c0,Cut ar v k l id c0)->r=[])/\(∀e∈N,(w:Int)<=fE ar (l++r) e.1)/\Fr m m' (pm::F)/\Gr m F F'
section
variable {most:Int} {lim:Nat} {s pm:Nat} {zs:Bool} {os:Own} {ar:List Int} {v k:Nat}
theorem WJ(hL:(lim:Int)<=most/\lim<=900000/\most<=1073741824)(h1:∀x∈ar,1<=x/\x<=64)(hal:ar.length<=16)(hv:v<ar.length)(hk:(k:Int)<ar.getD v 0){w c n:Nat}(hw:w<v)(hn:n=aN ((ar.take v).drop (w+1)))(ih:∀w',w<w'->wD most lim s pm zs os ar v k w')
  {l0:List ND} {id:Nat} (g0:GoodL ar l0) (hid:id<l0.length) (hwid:fE ar l0 id=w) (hc:(l0.getD id ⟨0,[],0⟩).kids.length=c) (hl0:l0.length+2*(c*n)<=lim) {E0:List (Nat×Nat)} (hE0n:∀e∈E0,e.1≠id) (hE0l:E0.length+2*(c*n)<=90000)
  {m0:af} {F0:List Nat} (hpF0:pm∉F0) (hpm0:pm<m0.length) {z1:Bool} {o1:Own}:∀(j i:Nat) (m:af) (F:List Nat) (R:List ND) (N:List (Nat×Nat)) (cs:List Nat) (x:AV) (T:List Nat),i+j=c->bB m s F (IA zs os ar) most (l0++R)->GoodL ar (l0++R)->(∀e∈E0++N,Cut ar v k (l0++R) e.1 e.2)->m.get pm=some (.mp (.int .i64) (qi (E0++N))) ->
   cs.length=i->(∀q,q<cs.length->Cut ar v k (l0++R) (ku l0 id q) (cs.getD q 0))->R.length+i<=2*n*i->N.length+i<=2*n*i->((∃c0,Cut ar v k l0 id c0)->R=[])->(∀e∈N,(w:Int)<fE ar (l0++R) e.1)->GR 3 m x ((cs.map Int.ofNat).map (AV.int .i64)) T->(∀y∈T,y∉F/\m0.length<=y)->Fr m0 m (pm::F0)->Gr m0 F0 F ->
  ∃(m':af) (F':List Nat) (r:List ND) (N':List (Nat×Nat)) (c':Nat),sq (.ptr s 0) (.I id) (.I v) (.I k) (.mref pm) x (IA z1 o1 (l0.getD id ⟨0,[],0⟩).kids) (.I c) (.I i) m (ua (aD f103))=some (.I (c':Nat),m')/\bB m' s F' (IA zs os ar) most (l0++r)/\GoodL ar (l0++r)/\(∀e∈E0++N',Cut ar v k (l0++r) e.1 e.2)/\m'.get pm=some (.mp (.int .i64) (qi (E0++N')))/\Cut ar v k (l0++r) id c' /\
   r.length+1<=2*(c*n)/\N'.length+1<=2*(c*n)/\((∃c0,Cut ar v k l0 id c0)->r=[])/\(∀e∈N',(w:Int)<=fE ar (l0++r) e.1)/\Fr m0 m' (pm::F0)/\Gr m0 F0 F':=by
 have h1':∀x∈ar,1<=x:=fun x hx=>(h1 x hx).1;have hwl:w<ar.length:=Z;have h1t:∀x∈(ar.take v).drop (w+1),1<=x:=fun x hx=>h1' x (List.take_subset _ _ (List.drop_subset _ _ hx));have hn0:1<=n:=by rw[hn];exact qD h1t
 obtain ⟨a1,a2,a3,a4⟩:=uZ g0 hid Z;have hwt:(fE ar l0 id).toNat=w:=Z;rw[hwt,hc] at a3;rw[hc] at a4
 have hc64:c<=64:=by
  have:=h1 _ (bp hwl);rw[aK,bn hwl,bQ] at a3;omega
 intro j
 induction j with
 | zero=>
  intro i m F R N cs x T hi h g hE hpg hcs hval hR hN hno hNa hx hT f gr;obtain rfl:i=c:=Z;have hcn:R.length+i<=2*(i*n):=by rw[bU i n,<- cn];exact hR
  have hcN:N.length+i<=2*(i*n):=by rw[bU i n,<- cn];exact hN
  have hll:(l0++R).length<lim:=by rw[aQ];omega
  have hkf:∀q,q<cs.length->(cs.getD q 0)<(l0++R).length/\(w:Int)<fE ar (l0++R) (cs.getD q 0):=fun q hq=>by
   obtain ⟨b1,b2,_⟩:=vG g0 hid Z (i:=q) Z;obtain ⟨c1,c2,_⟩:=(hval q hq).sem g h1 hal hv hk Z;rw[mV Z] at c2;exact ⟨c1,Z⟩
  obtain ⟨r1,c',er,hr1,hr2,g2,hcl,htop,hS⟩:=zZ g h1 hal hwl (ks:=cs) (by rw[hcs];exact a3) (fun y hy=>by
   obtain ⟨q,hq,e⟩:=ig hy;have:=hkf q hq;rw[aK,bn hq,bQ,e] at this
   exact ⟨this.1,by rw[<- mf this.1];exact this.2⟩) Z
  have hcs0:cs≠[]:=fun e=>by rw[e] at hcs;simp at hcs;omega
  have hgd:∃t,x=.lst none false (.tok t 3) ((cs.map Int.ofNat).map (AV.int .i64)):=by
   generalize hq:(cs.map Int.ofNat).map (AV.int .i64)=es at hx
   cases hx with
   | none=>simp at hq;exact absurd hq hcs0
   | some t es ht hne=>exact ⟨t,rfl⟩
  obtain ⟨t,rfl⟩:=hgd
  have hno2:(cW w (cs.map Int.ofNat)).ok:=by
   refine .inr ⟨by simp only[cW];omega,by simp only[cW];omega,rfl,fun q hq=>?_,by simp only[cW,bA];omega⟩;obtain ⟨y,hy,rfl⟩:=ga.1 hq;obtain ⟨q,hq,e⟩:=ig hy;have:=(hkf q hq).1;rw[aK,bn hq,bQ,e] at this;refine ⟨oJ y,?_⟩;show (y:Int)<1000000;omega
  obtain ⟨m2,F2,e59,k1,k2,k3⟩:=AQ h (v:=w) (z:=false) (o:=.tok t 3) (ks:=cs.map Int.ofNat) (by simpa using hcs0) hno2 rfl (.inr ⟨t,3,rfl⟩) Z Z;rw[er] at e59 k1;dsimp only at e59 k1
  have hpF:pm∉F:=fun hh=>by
   rcases gr pm hh with h4|h4
   .exact hpF0 h4
   .omega
  have hpml:=bo hpg;have hpg2:m2.get pm=some (.mp (.int .i64) (qi (E0++N))):=(k2.get pm hpml hpF).trans hpg
  have hNn:∀e∈E0++N,e.1≠id:=fun e he=>by
   rcases cI.1 he with he|he
   .exact hE0n e he
   .intro ee;have:=hNa e he;rw[ee,mV hid] at this;omega
  have up:=qd9 (id:=c') hpg2 (a:=id) Z hNn (by rw[aQ];omega);have hpl2:=bo hpg2
  have hpF2:pm∉F2:=fun hh=>by
   rcases k3 pm hh with h4|h4
   .exact hpF h4
   .omega
  have hcut:Cut ar v k (l0++(R++r1)) id c':=by
   rw[<- bE]
   have er2:=Li (l:=(l0++R)++r1) (w:=(w:Int)) (ks:=cs.map Int.ofNat) (c:=((c':Nat):Int)) (by
    have hd:=qbK er
    exact hd) []
   rw[aW] at er2;refine .lo id cs c' (by simp;omega) (by rw[bE,mV hid];omega) (by rw[bE,rv hid];omega) (fun q hq=>?_) (by rw[bE,rv hid,a1,hwid,<- bE];exact er2);rw[bE,DK hid,<- bE];exact (hval q hq).app r1
  refine ⟨m2.set pm (some (.mp (.int .i64) (qi (E0++N++[(id,c')])))),F2,R++r1,N++[(id,c')],c',?_,?_,by rw[<- bE];exact g2,fun e he=>?_,?_,hcut,?_,?_,fun hh=>?_,fun e he=>?_,?_,Gr.trans f.len gr k3⟩
  .have e59:AC aa 99 [.ptr s 0,.I w,.lst none false (.tok t 3) ((cs.map Int.ofNat).map (AV.int .i64))] m=_:=e59;have hst:=h;obtain ⟨p,na,TT,st,hFF⟩:=hst;have kG:am none m (.ptr s (0+1))=some na:=by rw[cS,st.hs];rfl
   have hidl:id<(l0++R).length:=by rw[aQ];omega
   have hnx:=ou st.hn hidl;have l3:∀(a b c:AV),am none m (.vptr [a,b,c])=some a:=fun _ _ _=>rfl;have hvar:(l0++R)[id].var=(w:Int):=by rw[<- fK hidl,rv hid,a1,hwid]
   rw[FR,bS,O,az,ag Z,Oc,iq,O,fJ,O,kG,O,hnx,O,Df,O,l3,O,hvar,e59,O,up,O]
  .rw[<- bE];exact k1.move fun y hy=>bO (fun e=>hpF2 (e▸hy))
  .rw[<- bE] at he
   rcases cI.1 he with he|he
   .rw[<- bE];exact (hE e he).app r1
   .obtain rfl:e=(id,c'):=by simpa using he
    exact hcut
  .rw[b7 rfl hpl2,bE]
  .rw[aQ];omega
  .rw[aQ,a8,bq];omega
  .have hR0:=hno hh;subst hR0;rw[aW] at er hval;obtain ⟨c0,hc0⟩:=hh
   have hd:r1=[]:=by
    cases hc0 with
    | hi _ _ hv'=>omega
    | here _ _ hv'=>omega
    | lo _ cs' _ _ hv' hl' hk' hn'=>
     have e:cs=cs':=KM Z fun q hq=>(hval q hq).det _ (hk' q Z);subst e;rw[a1,hwid,er] at hn';have:=cA List.length (Prod.mk.inj hn').2;simp at this;exact this
   rw[hd];rfl
  .rcases cI.1 he with he|he
   .have h5:=hNa e he;have h6:=(hE e (List.mem_append_right _ he)).lt;rw[<- bE,mV h6];omega
   .obtain rfl:e=(id,c'):=by simpa using he
    simp only;rw[mV hid];omega
  .exact (Fr.trans f k2 fun y hy=>by
    rcases gr y hy with h4|h4
    .exact .inl (by simp[h4])
    .exact .inr h4).set _ (.inl aq)
 | succ j ihj=>
  intro i m F R N cs x T hi h g hE hpg hcs hval hR hN hno hNa hx hT f gr;have hic:i<c:=Z;obtain ⟨b1,b2,b3⟩:=vG g0 hid Z (i:=i) Z;have hick:i<(l0.getD id ⟨0,[],0⟩).kids.length:=Z
  have hix:aE none (IA z1 o1 (l0.getD id ⟨0,[],0⟩).kids) (.I i)=some (.vptr [.I (ku l0 id i:Nat)]):=by
   rw[fw hick,<- rx hick,b3]
  have hnk:∀c0,Cut ar v k l0 id c0->∃c1,Cut ar v k l0 (ku l0 id i) c1:=fun c0 h0=>by
   cases h0 with
   | hi _ _ hv'=>omega
   | here _ _ hv'=>omega
   | lo _ cs' _ _ hv' hl' hk' hn'=>exact ⟨_,hk' i Z⟩
  generalize hqe:ku l0 id i=q at *;have hql:q<(l0++R).length:=by rw[aQ];omega
  have hqa:((w+1:Nat):Int)<=fE ar (l0++R) q:=by rw[mV Z];omega
  have hck:(i+1)*n<=c*n:=fL _ Z;have hk1n:(i+1)*n=i*n+n:=by rw[eW,jP]
  have h2nk:2*n*i=2*(i*n):=by rw[cn,bU n i]
  have hpF:pm∉F:=fun hh=>by
   rcases gr pm hh with h4|h4
   .exact hpF0 h4
   .omega
  obtain ⟨m1,F1,r1,N1,c1,e69,k1,k2,k3,k4,k5,k6,k7,k8,k9,k10,k11⟩:=ih (w+1) Z m F (l0++R) (E0++N) q h g hql hqa hE hpg hpF (by rw[aQ,<- hn];omega) (by rw[aQ,<- hn];omega);rw[<- hn] at k6 k7;have hpml:=bo hpg;have hTp:∀y∈T,y≠pm:=fun y hy e=>by have:=(hT y hy).2;omega
  have g1:GR 3 m1 x ((cs.map Int.ofNat).map (AV.int .i64)) T:=qo hx fun y hy=>k10.get y (mq hx y hy) (by simp only[cE,not_or];exact ⟨hTp y hy,(hT y hy).1⟩);obtain ⟨x2,m2,T2,ea,g2,f2,gg2⟩:=nF (b:=8) g1 (by simp;omega) Z (.I (c1:Nat))
  have hTF1:∀y∈T,y∉F1:=fun y hy hF=>by
   rcases k11 y hF with hh|hh
   .exact (hT y hy).1 hh
   .have:=mq hx y hy;omega
  have l1:=f.len;have l2:=k10.len
  have st2:bB m2 s F1 (IA zs os ar) most (l0++(R++r1)):=by
   rw[<- bE];exact k1.fr f2 fun y hy hT'=>hTF1 y hT' hy
  have hpT:pm∉T:=fun hh=>by have:=(hT pm hh).2;omega
  have e0:sq (.ptr s 0) (.I id) (.I v) (.I k) (.mref pm) x (IA z1 o1 (l0.getD id ⟨0,[],0⟩).kids) (.I c) (.I i) m (ua (aD f103))=sq (.ptr s 0) (.I id) (.I v) (.I k) (.mref pm) x2 (IA z1 o1 (l0.getD id ⟨0,[],0⟩).kids) (.I c) (.I (i+1:Nat)) m2 (ua (aD f103)):=by
   rw[FR,bS,O,az,ai hic,hix,O,cr,O,e69,O,kX,O,ea,O,b6 Z,O]
  rw[e0]
  refine ihj (i+1) m2 F1 (R++r1) (N++N1) (cs++[c1]) x2 T2 Z st2 (by rw[<- bE];exact k2) (by rw[<- bE,<- bE];exact k3) ?_ (by simp[hcs]) (fun y hy=>?_) ?_ ?_ (fun hh=>?_) (fun e he=>?_) (by rw[gW,gW];exact g2) (fun y hy=>?_) ?_ (Gr.trans f.len gr k11)
  .rw[f2.get pm Z hpT,k4,bE]
  .rw[<- bE]
   by_cases hy2:y<cs.length
   .rw[aK,kS hy2,<- aK];exact (hval y hy2).app r1
   .have:y=cs.length:=by simp at hy;omega
    subst this;rw[aK,ma (aI _),jQ];rw[hcs,hqe];exact k5
  .rw[aQ,cV,ii];omega
  .rw[aQ,cV,ii];omega
  .have hR0:=hno hh;subst hR0;obtain ⟨c0,hc0⟩:=hh;rw[k8 (by rw[aW];exact hnk c0 hc0)];rfl
  .rw[<- bE]
   rcases cI.1 he with he|he
   .have h5:=hNa e he;have h6:=(hE e (List.mem_append_right _ he)).lt;rw[mV h6];exact h5
   .have:=k9 e he;omega
  .rcases gg2 y hy with hh|hh
   .exact ⟨hTF1 y hh,(hT y hh).2⟩
   .exact ⟨fun hF=>by have:=k1.lt y hF;omega,Z⟩
  .exact Fr.trans (Fr.trans f k10 fun y hy=>by
    rcases cE.1 hy with rfl|hy
    .exact .inl aq
    .rcases gr y hy with h4|h4
     .exact .inl (by simp[h4])
     .exact .inr h4) f2 fun y hy=>.inr (hT y hy).2
end
theorem LY:∀(a b:List Int),aN (a++b)=aN a*aN b
 | [],b=>by simp[aN]
 | x::a,b=>by rw[cc,aN,aN,LY a b,cn]
theorem qdG{ar:List Int}{v w:Nat}(hw:w<v):(ar.take v).getD w 0=ar.getD w 0:=by
 rw[aK,mb,ai hw,<- aK]
section
variable {most:Int} {lim:Nat} {s pm:Nat} {zs:Bool} {os:Own} {ar:List Int} {v k:Nat}
theorem Ft(hL:(lim:Int)<=most/\lim<=900000/\most<=1073741824)(h1:∀x∈ar,1<=x/\x<=64)(hal:ar.length<=16)(hv:v<ar.length)(hk:(k:Int)<ar.getD v 0){w:Nat}(ih:∀w',w<w'->w<v->wD most lim s pm zs os ar v k w'):wD most lim s pm zs os ar v k w:=by
 intro m F l E id h g hid hw hE hpg hpF hl hEl;have h1':∀x∈ar,1<=x:=fun x hx=>(h1 x hx).1;have h1t:∀x∈ar.take v,1<=x:=fun x hx=>h1' x (List.take_subset _ _ hx);have hP:=vZ h1t w;have hub:=I4 g hid;obtain ⟨m1,e57a,f1⟩:=tU h hid;have h1s:=h.app f1;obtain ⟨m2,e57b,f2⟩:=tU h1s hid;rw[<- mf hid] at e57a e57b;have h2:=h1s.app f2;have f12:Fr m m2 []:=Fr.trans f1 f2 fun _ hh=>by cases hh
 have hpml:=bo hpg;have hpg1:m1.get pm=some (.mp (.int .i64) (qi E)):=(f1.get pm hpml (by simp)).trans hpg;have hpg2:m2.get pm=some (.mp (.int .i64) (qi E)):=(f12.get pm hpml (by simp)).trans hpg;have e0:=TW (.ptr s 0) (.I id) (.I v) (.I k) (.mref pm) m;rw[e57a,O,gI,O,az] at e0
 by_cases hgt:fE ar l id>(v:Int)
 .rw[ai hgt] at e0;refine ⟨m1,F,[],[],id,e0,by rw[aW];exact h1s,by rw[aW];exact g,by rw[aW,aW];exact hE,by rw[aW];exact hpg1,by rw[aW];exact .hi id hid Z,by simp;omega,by simp;omega,fun _=>rfl,aq,f1.mono aq,Gr.refl _ _⟩
 rw[ag hgt,e57b,O,ik,O,az] at e0;have hst:=h2;obtain ⟨p,na,TT,st,hFF⟩:=hst;have kG:am none m2 (.ptr s (0+1))=some na:=by rw[cS,st.hs];rfl
 have hnx:=ou st.hn hid;have hkA:=qs (st.ok _ (bp hid))
 by_cases heq:fE ar l id=(v:Int)
 .obtain ⟨a1,a2,a3,a4⟩:=uZ g hid Z;have hvt:(fE ar l id).toNat=v:=Z;rw[hvt] at a3;have hkl:k<(l.getD id ⟨0,[],0⟩).kids.length:=Z;obtain ⟨b1,b2,b3⟩:=vG g hid Z hkl;have hkl':k<l[id].kids.length:=by rw[<- fK hid];exact hkl
  have hix:aE none (bM l[id]) (.I k)=some (.vptr [.I (ku l id k:Nat)]):=by
   rw[hkA,fw hkl',<- b3,<- rx hkl',fK hid]
  rw[ai heq,iq,O,fJ,O,kG,O,hnx,O,zr,O,zI,O,hix,O,cr,O] at e0;refine ⟨m2,F,[],[],ku l id k,e0,by rw[aW];exact h2,by rw[aW];exact g,by rw[aW,aW];exact hE,by rw[aW];exact hpg2,by rw[aW];exact .here id hid heq,by simp;omega,by simp;omega,fun _=>rfl,aq,f12.mono aq,Gr.refl _ _⟩
 have hlt:fE ar l id<(v:Int):=Z;obtain ⟨a1,a2,a3,a4⟩:=uZ g hid Z;obtain ⟨w1,hw1⟩:=jO a2;have hw1':fE ar l id=(w1:Int):=hw1;have hid4:id<=1000000:=Z;rw[ag heq,qbn hpg2 hid4,O] at e0
 cases hf:E.find? fun e=>decide (e.1=id) with
 | some e=>
  rw[hf] at e0;dsimp only at e0;rw[kq,O,kr,O,gJ] at e0;have hem:=List.mem_of_find?_eq_some hf;have hek:e.1=id:=by have:=List.find?_some hf;simpa using this
  have ho:=hE e hem;rw[hek] at ho;exact ⟨m2,F,[],[],e.2,e0,by rw[aW];exact h2,by rw[aW];exact g,by rw[aW,aW];exact hE,by rw[aW];exact hpg2,by rw[aW];exact ho,by simp;omega,by simp;omega,fun _=>rfl,aq,f12.mono aq,Gr.refl _ _⟩
 | none=>
  rw[hf] at e0;dsimp only at e0
  have hEn:∀e∈E,e.1≠id:=fun e he hh=>by
   have:=List.find?_eq_none.1 hf e he;simp[hh] at this
  have hww:w<=w1:=Z;have hwv:w1<v:=Z;have hwt:(fE ar l id).toNat=w1:=Z;rw[hwt] at a3;have hlenT:(ar.take v).length=v:=by rw[iu];omega
  have hps:aN ((ar.take v).drop w1)=(l.getD id ⟨0,[],0⟩).kids.length*aN ((ar.take v).drop (w1+1)):=by
   rw[mH Z,qdG hwv,<- a3,cB]
  have hpm:=LZ h1t w (w1-w);rw[show w+(w1-w)=w1 by omega] at hpm;have hlA:aL false (bM l[id])=some (.I (l.getD id ⟨0,[],0⟩).kids.length):=by rw[hkA,fc,fK hid]
  have hkA':bM l[id]=IA (kz l[id]) (ko l[id]) (l.getD id ⟨0,[],0⟩).kids:=by rw[hkA,fK hid]
  have hlen2:=f12.len;obtain ⟨m',F',r,N,c',e,k1,k2,k3,k4,k5,k6,k7,k8,k9,k10,k11⟩  :=WJ hL (z1:=kz l[id]) (o1:=ko l[id]) h1 hal hv hk hwv rfl (fun w' hw'=>ih w' Z Z) g hid hw1' rfl (by rw[<- hps];omega) (E0:=E) hEn (by rw[<- hps];omega) (m0:=m2) (F0:=F) hpF Z (l.getD id ⟨0,[],0⟩).kids.length 0 m2 F [] [] [] aw [] Z (by rw[aW];exact h2) (by rw[aW];exact g) (by rw[aW,aW];exact hE) (by rw[aW];exact hpg2) rfl (fun q hq=>by simp at hq) aq aq (fun _=>rfl) aq .none aq (Fr.refl _ _) (Gr.refl _ _);rw[<- hps] at k6 k7;rw[kq,O,kr,O,cD,iq,O,fJ,O,kG,O,hnx,O,zr,O,zI,O,hlA,O,hkA'] at e0;refine ⟨m',F',r,N,c',e0.trans e,k1,k2,k3,k4,k5,Z,Z,k8,fun e he=>by have:=k9 e he;omega,Fr.trans (f12.mono aq) k10 fun y hy=>.inl hy,fun y hy=>?_⟩
  rcases k11 y hy with h4|h4
  .exact .inl h4
  .exact .inr Z
theorem NK(hL:(lim:Int)<=most/\lim<=900000/\most<=1073741824)(h1:∀x∈ar,1<=x/\x<=64)(hal:ar.length<=16)(hv:v<ar.length)(hk:(k:Int)<ar.getD v 0):∀(d w:Nat),v<=w+d->wD most lim s pm zs os ar v k w:=by
 intro d
 induction d with
 | zero=>intro w hd;exact Ft hL h1 hal hv hk fun w' _ h=>Z
 | succ d ih=>intro w hd;exact Ft hL h1 hal hv hk fun w' hw' _=>ih w' Z
end
end Go.Ab
namespace Go.Ab
section
variable {ar:List Int} {l:List ND}
inductive Rc (l:List ND) (id:Nat):Nat->Prop
 | refl:Rc l id id
 | kid (j:Nat) (k:Int) (h:Rc l id j) (hj:j<l.length) (hk:k∈l[j].kids):Rc l id k.toNat
theorem Rc.trans(g:GoodL ar l){a b c:Nat}(h:Rc l a b)(k:Rc l b c):Rc l a c:=by
 induction k with
 | refl=>exact h
 | kid j q _ hj hk ih=>exact .kid j q ih hj hk
theorem Wb(g:GoodL ar l):∀id,id<l.length->∀out,∀y∈Vi l id out,y∈out\/Rc l id y:=by
 intro id
 induction id using Nat.strongRecOn with
 | ind id ih=>
  intro hi out y hy
  have key:∀(ks:List Int),(∀k∈ks,k∈l[id].kids)->∀out,∀y∈fI l ks out,y∈out\/Rc l id y:=by
   intro ks
   induction ks with
   | nil=>intro _ out y hy;exact .inl hy
   | cons k ks ihk=>
    intro hk out y hy;obtain ⟨t,e,ht⟩:=mw g hi k (hk k cF);rw[sW] at hy
    rcases ihk (fun k hk'=>hk k (cP _ hk')) _ y hy with h|h
    .rw[e,cB] at h
     rcases ih t ht Z out y h with h|h
     .exact .inl h
     .refine .inr (Rc.trans g ?_ h);have:=Rc.kid id k (Rc.refl (l:=l) (id:=id)) hi (hk k cF);rw[e,cB] at this;exact this
    .exact .inr h
  rw[n6 g hi] at hy
  split at hy
  .exact .inl hy
  .rcases cI.1 hy with hy|hy
   .exact key _ (fun _ h=>h) out y hy
   .have:y=id:=by simpa using hy
    rw[this];exact .inr .refl
theorem HZ(g:GoodL ar l){a b:Nat->Nat}(ha:cO ar a)(hb:cO ar b):∀(i:Nat) (hi:i<l.length),(∀w:Nat,bY ar.length l[i]<=(w:Int)->w<ar.length->a w=b w)->S l a i=S l b i:=by
 intro i
 induction i using Nat.strongRecOn with
 | ind i ih=>
  intro hi h
  by_cases hv:l[i].var<0
  .rw[mT hi hv,mT hi hv]
  .obtain ⟨hv1,hv2⟩:=g.var i hi Z;have hab:bY ar.length l[i]=l[i].var:=by unfold bY;rw[ai Z]
   have hw:a l[i].var.toNat=b l[i].var.toNat:=h _ Z Z;rw[nw g ha hi hv,nw g hb hi hv,hw];obtain ⟨t,e,ht,h2⟩:=jW g hi Z (hb l[i].var.toNat Z);rw[e,cB];have h3:=h2 Z;exact ih t ht Z fun w hw1 hw2=>h w Z hw2
theorem wm{a:Nat->Nat}{v k w:Nat}(h:w≠v):upd a v k w=a w:=by unfold upd;rw[ag h]
theorem wo{a:Nat->Nat}{v k:Nat}:upd a v k v=k:=by unfold upd;rw[ai rfl]
theorem Rc.path(g:GoodL ar l)(h1:∀x∈ar,1<=x){id j:Nat}(h:Rc l id j)(hid:id<l.length):∃y0,cO ar y0/\∀(hj:j<l.length) y,cO ar y->(∀w:Nat,(w:Int)<bY ar.length l[j]->w<ar.length->y w=y0 w)->S l y id=S l y j:=by
 induction h with
 | refl=>exact ⟨_,rf h1,fun _ y _ _=>rfl⟩
 | kid j k h hj hk ih=>
  obtain ⟨y0,hy0,hp⟩:=ih
  have hvar:0<=l[j].var:=by
   refine Decidable.byContradiction fun hn=>?_
   rcases g.ok _ (bp hj) with ⟨_,h2,_⟩|⟨h3,_⟩
   .rw[h2] at hk;cases hk
   .omega
  obtain ⟨v1,v2⟩:=g.var j hj hvar;have hab:bY ar.length l[j]=l[j].var:=by unfold bY;rw[ai hvar]
  obtain ⟨i,hi,e⟩:=ig hk;obtain ⟨v,hv⟩:=jO hvar;have hvt:l[j].var.toNat=v:=Z;rw[hvt] at v2;have hia:(i:Int)<ar.getD v 0:=Z;refine ⟨upd y0 v i,hy0.upd hia,fun hj' y hy hag=>?_⟩;obtain ⟨t,et,ht,h2⟩:=g.kid j hj hvar k hk;have htl:t<l.length:=Z;have h3:=h2 htl;have e1:∀(q:Nat) (hq:q<l.length),q=k.toNat->bY ar.length l[q]=bY ar.length l[k.toNat]:=fun q hq e=>by subst e;rfl
  have hkt:k.toNat=t:=by rw[et,cB]
  have h4:l[j].var<bY ar.length l[k.toNat]:=by rw[<- e1 t htl hkt.symm];exact h3
  have a1:=hp hj y hy fun w hw hwl=>by
   rw[hab] at hw;rw[hag w Z hwl,wm Z]
  rw[a1,nw g hy hj Z,hvt];have hyv:y v=i:=by rw[hag v Z Z,wo]
  rw[hyv,aK,bn hi,bQ,e]
def N6(ar:List Int)(l:List ND)(id v:Nat):Prop:=∃(y:Nat->Nat) (a:Nat),cO ar y/\(a:Int)<ar.getD v 0/\S l (upd y v a) id≠S l y id
theorem ZY(g:GoodL ar l)(h1:∀x∈ar,1<=x){id j:Nat}(h:Rc l id j)(hid:id<l.length)(hj:j<l.length){v:Nat}(hv:l[j].var=v):v<ar.length/\N6 ar l id v:=by
 obtain ⟨v1,v2⟩:=g.var j hj Z;have hvt:l[j].var.toNat=v:=Z;rw[hvt] at v2;have hvl:v<ar.length:=Z;refine ⟨hvl,?_⟩;obtain ⟨k,hk,hne⟩:=g.dif j hj Z
 have hk0:l[j].kids.headD 0∈l[j].kids:=by
  cases hks:l[j].kids with
  | nil=>rw[hks] at hk;cases hk
  | cons a b=>simp
 obtain ⟨i,hi,ei⟩:=ig hk;obtain ⟨i0,hi0,ei0⟩:=ig hk0;obtain ⟨t,et,ht,ht2⟩:=g.kid j hj Z k hk;obtain ⟨t0,et0,ht0,ht02⟩:=g.kid j hj Z _ hk0;have htl:t<l.length:=Z;have ht0l:t0<l.length:=Z;have htv:=ht2 htl;have ht0v:=ht02 ht0l
 have hd:∃z,cO ar z/\S l z t≠S l z t0:=by
  refine lT fun hn=>?_;have:=canon g h1 (t+t0+1) t t0 htl ht0l (Nat.lt_succ_self _) fun a ha=>lT fun hh=>hn ⟨a,ha,hh⟩;rw[et,et0,this] at hne;exact hne rfl
 obtain ⟨z,hz,hzne⟩:=hd;obtain ⟨y0,hy0,hp⟩:=h.path g h1 hid;have hab:bY ar.length l[j]=l[j].var:=by unfold bY;rw[ai Z]
 let y1:Nat->Nat:=fun w=>if w<v then y0 w else z w
 have hy1:cO ar y1:=fun w hw=>by
  show ((if w<v then y0 w else z w:Nat):Int)<_
  split
  .exact hy0 w hw
  .exact hz w hw
 have hia:(i:Int)<ar.getD v 0:=Z;have hi0a:(i0:Int)<ar.getD v 0:=Z
 have key:∀(q t:Nat) (ht:t<l.length),(q:Int)<ar.getD v 0->q<l[j].kids.length->l[j].kids.getD q 0=(t:Int)->(v:Int)<bY ar.length l[t]->S l (upd y1 v q) id=S l z t:=fun q t ht hq hql hqt htv=>by
  have hu:=hy1.upd (v:=v) hq
  rw[hp hj _ hu fun w hw hwl=>by
   rw[hab,hv] at hw;rw[wm Z]
   show (if w<v then y0 w else z w)=y0 w
   rw[ai Z]]
  rw[nw g hu hj Z,hvt,wo,hqt,cB];refine HZ g hu hz t ht fun w hw hwl=>?_;rw[wm Z]
  show (if w<v then y0 w else z w)=z w
  rw[ag Z]
 have k1:=key i t htl hia hi (by rw[aK,bn hi,bQ,ei,et]) Z;have k0:=key i0 t0 ht0l hi0a hi0 (by rw[aK,bn hi0,bQ,ei0,et0]) Z;refine ⟨upd y1 v i0,i,hy1.upd hi0a,hia,?_⟩
 have eu:upd (upd y1 v i0) v i=upd y1 v i:=by
  funext w;unfold upd;split<;>rfl
 rw[eu,k1,k0];exact hzne
theorem qa9(g:GoodL ar l){out:List Nat}(hc:Cl l out){y:Nat->Nat}(hy:cO ar y):∀(k:Nat),k∈out->∃j∈out,∃hj:j<l.length,l[j].var<0/\l[j].leaf=S l y k:=by
 intro k
 induction k using Nat.strongRecOn with
 | ind k ih=>
  intro hk;have hkl:=hc.lt k hk
  by_cases hvar:l[k].var<0
  .exact ⟨k,hk,hkl,hvar,(mT hkl hvar).symm⟩
  .rw[nw g hy hkl hvar];obtain ⟨v1,v2⟩:=g.var k hkl Z;obtain ⟨t,e,ht,_⟩:=jW g hkl Z (hy l[k].var.toNat Z)
   have hm:l[k].kids.getD (y l[k].var.toNat) 0∈l[k].kids:=by
    have hq:y l[k].var.toNat<l[k].kids.length:=by have:=hy l[k].var.toNat Z;omega
    rw[aK,bn hq,bQ];exact bp hq
   have hmo:=hc.kids hk hkl _ hm;rw[e,cB] at hmo ⊢;exact ih t ht hmo
theorem KE(g:GoodL ar l)(h1:∀x∈ar,1<=x){id:Nat}(hid:id<l.length){x:Int}:(∃j∈Vi l id [],∃hj:j<l.length,l[j].var<0/\l[j].leaf=x)↔∃y,cO ar y/\S l y id=x:=by
 obtain ⟨c1,c2,_⟩:=kV g id hid [] lL
 constructor
 .rintro ⟨j,hj,hjl,hv,e⟩;have hr:=(Wb g id hid [] j hj).resolve_left aq;obtain ⟨y0,hy0,hp⟩:=hr.path g h1 hid;exact ⟨y0,hy0,by rw[hp hjl y0 hy0 fun w _ _=>rfl,mT hjl hv,e]⟩
 .rintro ⟨y,hy,e⟩;obtain ⟨j,hj,hjl,h2,h3⟩:=qa9 g c1 hy id c2;exact ⟨j,hj,hjl,h2,h3.trans e⟩
end
theorem Mj:∀{a b:List Int},a.Pairwise (· < ·)->b.Pairwise (· < ·)->(∀x,x∈a↔x∈b)->a=b
 | [],[],_,_,_=>rfl
 | [],y::b,_,_,h=>by have:=(h y).2 cF;cases this
 | x::a,[],_,_,h=>by have:=(h x).1 cF;cases this
 | x::a,y::b,ha,hb,h=>by
  rw[sP] at ha hb
  have hxy:x=y:=by
   rcases cE.1 ((h x).1 cF) with e|e
   .exact e
   .rcases cE.1 ((h y).2 cF) with e'|e'
    .exact e'.symm
    .have:=ha.1 y e';have:=hb.1 x e;omega
  subst hxy;rw[Mj ha.2 hb.2 fun z=>?_]
  constructor
  .intro hz
   rcases cE.1 ((h z).1 (cP _ hz)) with e|e
   .have:=ha.1 z hz;omega
   .exact e
  .intro hz
   rcases cE.1 ((h z).2 (cP _ hz)) with e|e
   .have:=hb.1 z hz;omega
   .exact e
end Go.Ab
namespace Go.Ab
def ir(n:Nat)(F:Nat->Nat):Nat:=((List.range n).map F).sum
theorem pL(n:Nat)(F:Nat->Nat):ir (n+1) F=ir n F+F n:=by
 unfold ir;rw[List.range_succ,gW,List.sum_append];simp
theorem kN{n:Nat}{F G:Nat->Nat}(h:∀k,k<n->F k=G k):ir n F=ir n G:=by
 induction n with
 | zero=>rfl
 | succ n ih=>rw[pL,pL,ih fun k hk=>h k Z,h n Z]
theorem tN(c n:Nat)(F:Nat->Nat):ir n (fun k=>c*F k)=c*ir n F:=by
 induction n with
 | zero=>rfl
 | succ n ih=>rw[pL,pL,ih,cV]
theorem E4(c n:Nat)(F:Nat->Nat):ir n (fun k=>F k*c)=ir n F*c:=by
 rw[bU,<- tN];exact kN fun k _=>bU _ _
section
variable {ar:List Int} (s:Nat->Nat->Nat)
abbrev iG(ar:List Int)(v:Nat):Nat:=(ar.getD v 0).toNat
def Ct(ar:List Int)(s:Nat->Nat->Nat):Nat->Nat->((Nat->Nat)->Nat)->(Nat->Nat)->Nat
 | 0,_,φ,a=>φ a
 | d+1,v,φ,a=>ir (iG ar v) fun k=>s v k*Ct ar s d (v+1) φ (upd a v k)
def SS(ar:List Int)(s:Nat->Nat->Nat)(v:Nat):Nat:=ir (iG ar v) (s v)
def PM(ar:List Int)(s:Nat->Nat->Nat):Nat->Nat->Nat
 | 0,_=>1
 | d+1,v=>SS ar s v*PM ar s d (v+1)
variable {s}
theorem n7{v k:Nat}(hk:k<iG ar v):(k:Int)<ar.getD v 0:=by unfold iG at hk;omega
theorem AW{φ ψ:(Nat->Nat)->Nat}:∀(d v:Nat) (a:Nat->Nat),cO ar a->(∀b,cO ar b->(∀w,w<v->b w=a w)->φ b=ψ b)->Ct ar s d v φ a=Ct ar s d v ψ a
 | 0,v,a,ha,h=>h a ha fun _ _=>rfl
 | d+1,v,a,ha,h=>by
  refine kN fun k hk=>?_;rw[AW d (v+1) (upd a v k) (ha.upd (n7 hk)) fun b hb hw=>h b hb fun w hwv=>(hw w (by omega)).trans (wm Z)]
theorem wH(x:Nat):∀(d v:Nat) (a:Nat->Nat),Ct ar s d v (fun _=>x) a=PM ar s d v*x
 | 0,v,a=>by simp[Ct,PM]
 | d+1,v,a=>by
  rw[Ct,PM,kN (G:=fun k=>s v k*(PM ar s d (v+1)*x)) fun k _=>by rw[wH x d],E4,SS,cn]
theorem Fe{a:Nat->Nat}{v w j k:Nat}(h:v≠w):upd (upd a v j) w k=upd (upd a w k) v j:=by
 funext x;unfold upd
 by_cases h1:x=v<;>by_cases h2:x=w<;>simp[h1,h2]
 .subst h1;exact absurd h2 h
 .intro e;exact absurd e h
 .intro e;exact absurd e.symm h
theorem AX{φ:(Nat->Nat)->Nat}{v j:Nat}(hj:(j:Int)<ar.getD v 0)(h:∀b,cO ar b->φ (upd b v j)=φ b):∀(d v':Nat) (a:Nat->Nat),v<v'->cO ar a->Ct ar s d v' φ (upd a v j)=Ct ar s d v' φ a
 | 0,v',a,hv,ha=>h a ha
 | d+1,v',a,hv,ha=>by
  refine kN fun k hk=>?_;rw[Fe Z,AX hj h d (v'+1) (upd a v' k) Z (ha.upd (n7 hk))]
theorem N5{φ:(Nat->Nat)->Nat}{d v:Nat}{a:Nat->Nat}(ha:cO ar a)(h:∀(b:Nat->Nat) (k:Nat),cO ar b->(k:Int)<ar.getD v 0->φ (upd b v k)=φ b):Ct ar s (d+1) v φ a=SS ar s v*Ct ar s d (v+1) φ a:=by
 rw[Ct,kN (G:=fun k=>s v k*Ct ar s d (v+1) φ a) fun k hk=>by rw[AX (n7 hk) (fun b hb=>h b k hb (n7 hk)) d (v+1) a Z ha],E4];rfl
theorem FD{φ:(Nat->Nat)->Nat}{a:Nat->Nat}(ha:cO ar a):∀(u d v:Nat),(∀(b:Nat->Nat) (w k:Nat),v<=w->w<v+u->cO ar b->(k:Int)<ar.getD w 0->φ (upd b w k)=φ b)->Ct ar s (u+d) v φ a=PM ar s u v*Ct ar s d (v+u) φ a
 | 0,d,v,h=>by simp[PM]
 | u+1,d,v,h=>by
  rw[show u+1+d=(u+d)+1 by omega,N5 ha fun b k hb hk=>h b v k Z Z hb hk,FD ha u d (v+1) fun b w k h1 h2=>h b w k Z Z,PM,cn,show v+1+u=v+(u+1) by omega]
theorem uN:∀(u d v:Nat),PM ar s (u+d) v=PM ar s u v*PM ar s d (v+u)
 | 0,d,v=>by simp[PM]
 | u+1,d,v=>by
  rw[show u+1+d=(u+d)+1 by omega,PM,PM,uN u d (v+1),cn,show v+1+u=v+(u+1) by omega]
variable {l:List ND}
def Hc(ar:List Int)(s:Nat->Nat->Nat)(l:List ND)(c:Int)(k:Nat):Nat:=Ct ar s ar.length 0 (fun a=>if S l a k=c then 1 else 0) fun _=>0
def sm(ar:List Int)(s:Nat->Nat->Nat)(l:List ND)(h:Nat->Nat):Prop:=∀(k u:Nat) (hk:k<l.length),l[k].var=u->∃q:Nat->Nat,(∀j,j<iG ar u->h (l[k].kids.getD j 0).toNat=SS ar s u*q j)/\h k=ir (iG ar u) fun j=>s u j*q j
theorem qaI(g:GoodL ar l)(h1:∀x∈ar,1<=x)(c:Int):sm ar s l (Hc ar s l c):=by
 intro k u hk hu;have ha:=rf h1;obtain ⟨hv1,hv2⟩:=g.var k hk Z;have hul:u<ar.length:=Z;have hut:l[k].var.toNat=u:=Z;have hab:bY ar.length l[k]=u:=by unfold bY;rw[ai Z];exact hu
 have frm:∀(i:Nat) (hi:i<l.length) (w:Nat),(w:Int)<=bY ar.length l[i]->w<=ar.length->Hc ar s l c i=PM ar s w 0*Ct ar s (ar.length-w) w (fun a=>if S l a i=c then 1 else 0) fun _=>0:=fun i hi w hw hwl=>by
  have:=FD (s:=s) (φ:=fun a=>if S l a i=c then 1 else 0) ha w (ar.length-w) 0 fun b x j _ hx hb hj=>by
   skip
   rw[p8 g hb hj i hi Z]
  rw[bj,show w+(ar.length-w)=ar.length by omega] at this;exact this
 refine ⟨fun j=>PM ar s u 0*Ct ar s (ar.length-(u+1)) (u+1) (fun a=>if S l a (l[k].kids.getD j 0).toNat=c then 1 else 0) fun _=>0,fun j hj=>?_,?_⟩
 .obtain ⟨t,e,ht,h2⟩:=jW g hk Z (k:=j) (by rw[hut];exact n7 hj);have h2:=h2 Z;rw[e,cB,frm t Z (u+1) Z Z,uN u 1 0];simp only[PM,ii,bj,e,cB];rw[<- cn,bU (SS ar s u)]
 .rw[frm k hk u Z Z,show ar.length-u=(ar.length-(u+1))+1 by omega,Ct,<- tN];refine kN fun j hj=>?_;obtain ⟨t,e,ht,h2⟩:=jW g hk Z (k:=j) (by rw[hut];exact n7 hj);have h2:=h2 Z
  have e1:Ct ar s (ar.length-(u+1)) (u+1) (fun a=>if S l a k=c then 1 else 0) (upd (fun _=>0) u j)=Ct ar s (ar.length-(u+1)) (u+1) (fun a=>if S l a t=c then 1 else 0) (upd (fun _=>0) u j):=
   AW _ _ _ (ha.upd (n7 hj)) fun b hb hw=>by
    have:b u=j:=(hw u (by omega)).trans wo;rw[nw g hb hk Z,hut,this,e,cB]
  dsimp only
  rw[e1,e,cB,AX (n7 hj) (fun b hb=>by
   skip
   rw[p8 g hb (n7 hj) t Z Z]) _ _ _ Z ha]
  rw[<- cn,bU (PM ar s u 0),cn]
theorem N8(c:Int){k:Nat}(hk:k<l.length)(hv:l[k].var<0):Hc ar s l c k=if l[k].leaf=c then PM ar s ar.length 0 else 0:=by
 unfold Hc
 have:(fun a:Nat->Nat=>if S l a k=c then (1:Nat) else 0)=fun _=>if l[k].leaf=c then 1 else 0:=by funext a;rw[mT hk hv]
 rw[this,wH];split<;>simp
theorem qaJ(g:GoodL ar l):sm ar s l fun _=>PM ar s ar.length 0:=by
 intro k u hk hu;obtain ⟨hv1,_⟩:=g.var k hk Z
 have e:PM ar s ar.length 0=PM ar s u 0*(SS ar s u*PM ar s (ar.length-(u+1)) (u+1)):=by
  have:=uN (ar:=ar) (s:=s) u ((ar.length-(u+1))+1) 0;rw[show u+((ar.length-(u+1))+1)=ar.length by omega,bj] at this;rw[this];rfl
 refine ⟨fun _=>PM ar s u 0*PM ar s (ar.length-(u+1)) (u+1),fun j _=>?_,?_⟩
 .dsimp only;rw[e,<- cn,<- cn,bU (PM ar s u 0)]
 .dsimp only;rw[E4,e,<- cn,<- cn,bU (PM ar s u 0)];rfl
def gY(ar:List Int)(s:Nat->Nat->Nat)(n:ND):List (Nat×Nat):=(List.range (iG ar n.var.toNat)).map fun j=>((n.kids.getD j 0).toNat,s n.var.toNat j)
def iD(t:Nat):List (Nat×Nat)->(Nat->Nat)->Nat->Nat
 | [],T=>T
 | p::L,T=>iD t L (upd T p.1 (T p.1+t*p.2))
theorem As(t:Nat)(p:Nat×Nat):∀(L:List (Nat×Nat)) (T:Nat->Nat),iD t (L++[p]) T=upd (iD t L T) p.1 (iD t L T p.1+t*p.2)
 | [],T=>rfl
 | q::L,T=>by rw[cc,iD,As t p L];rfl
def gS(h T:Nat->Nat)(R:List Nat):Nat:=(R.map fun j=>T j*h j).sum
theorem Af{h T:Nat->Nat}{j x:Nat}:∀{R:List Nat},R.Nodup->gS h (upd T j (T j+x)) R=gS h T R+if j∈R then x*h j else 0
 | [],_=>by simp[gS]
 | i::R,hn=>by
  obtain ⟨h1,h2⟩:=lE.1 hn;have ih:=Af (h:=h) (T:=T) (j:=j) (x:=x) h2;unfold gS at ih ⊢;rw[cU,jC,cU,jC,ih]
  by_cases hi:i=j
  .subst hi;rw[wo,ag h1,ai cF,eW];omega
  .have hm:(j∈i::R)↔j∈R:=by simp[cE,show ¬ j=i from fun e=>hi e.symm]
   rw[wm hi,jD];congr 2
   by_cases hj:j∈R
   .rw[ai hj,ai (hm.2 hj)]
   .rw[ag hj,ag (fun h=>hj (hm.1 h))]
theorem Ae{h:Nat->Nat}{t:Nat}{R:List Nat}(hn:R.Nodup):∀(L:List (Nat×Nat)) (T:Nat->Nat),(∀p∈L,p.1∈R)->gS h (iD t L T) R=gS h T R+t*(L.map fun p=>p.2*h p.1).sum
 | [],T,_=>by simp[iD]
 | p::L,T,hL=>by
  rw[iD,Ae hn L _ fun q hq=>hL q (cP _ hq),Af hn,ai (hL p cF),cU,jC,cV,cn,jD]
theorem LU{h T:Nat->Nat}:∀{R:List Nat} {j:Nat},j∈R->T j*h j<=gS h T R
 | i::R,j,hj=>by
  unfold gS;rw[cU,jC]
  rcases cE.1 hj with rfl|hj
  .omega
  .have:T j*h j<=(R.map fun j=>T j*h j).sum:=LU (R:=R) hj;omega
def run(ar:List Int)(s:Nat->Nat->Nat)(l:List ND):List Nat->(Nat->Nat)->List (Int×Nat)
 | [],_=>[]
 | k::R,T=>match l[k]? with
  | none=>[]
  | some n=>if n.var<0 then (n.leaf,T k)::run ar s l R T else run ar s l R (iD (T k/SS ar s n.var.toNat) (gY ar s n) T)
structure Flow (ar:List Int) (s:Nat->Nat->Nat) (l:List ND) (R:List Nat) (T:Nat->Nat) (done:Nat):Prop where
 nd:R.Nodup
 lt:∀j∈R,j<l.length
 srt:R.Pairwise fun x y=>bY ar.length (l.getD x ⟨0,[],0⟩)<=bY ar.length (l.getD y ⟨0,[],0⟩)
 kids:∀(j:Nat) (hj:j<l.length),j∈R->0<=l[j].var->∀k∈l[j].kids,k.toNat∈R
 dvd:∀(j:Nat) (hj:j<l.length) (v:Nat),j∈R->bY ar.length l[j]=v->PM ar s (ar.length-v) v∣T j
 tot:gS (fun _=>1) T R+done=PM ar s ar.length 0
theorem Kv(g:GoodL ar l){k:Nat}(hk:k<l.length)(hv:0<=l[k].var):∀p∈gY ar s l[k],(p.1:Int)∈l[k].kids/\∃hp:p.1<l.length,l[k].var<bY ar.length l[p.1]:=fun p hp=>by
 obtain ⟨j,hj,rfl⟩:=ga.1 hp;have hj:=n7 (nY.1 hj);obtain ⟨t,e,ht,h2⟩:=jW g hk hv hj;have hl:=(g.var k hk hv).2;have hjl:j<l[k].kids.length:=Z;dsimp only;rw[e,cB];refine ⟨?_,Z,h2 Z⟩;rw[<- e,aK,bn hjl];exact bp hjl
theorem qa3(k:ND)(h:Nat->Nat):((gY ar s k).map fun p=>p.2*h p.1).sum=ir (iG ar k.var.toNat) fun j=>s k.var.toNat j*h (k.kids.getD j 0).toNat:=by
 unfold gY ir;rw[pX];rfl
theorem Flow.inner(g:GoodL ar l)(h0:∀v,v<ar.length->0<SS ar s v){k:Nat}{R:List Nat}{T:Nat->Nat}{done:Nat}(F:Flow ar s l (k::R) T done){u:Nat}(hk:k<l.length)(hu:l[k].var=u) :
  u<ar.length/\T k/SS ar s u*SS ar s u=T k/\(∀p∈gY ar s l[k],p.1∈R)/\k∉R /\
  (∀(L:List (Nat×Nat)) (p:Nat×Nat) (L':List (Nat×Nat)),gY ar s l[k]=L++p::L'->iD (T k/SS ar s u) L T p.1+T k/SS ar s u*p.2<=PM ar s ar.length 0) /\
  Flow ar s l R (iD (T k/SS ar s u) (gY ar s l[k]) T) done /\
  ∀h,sm ar s l h->gS h T (k::R)=gS h (iD (T k/SS ar s u) (gY ar s l[k]) T) R:=by
 obtain ⟨hn1,hn2⟩:=lE.1 F.nd;obtain ⟨hv1,hv2⟩:=g.var k hk Z;have hul:u<ar.length:=Z;have hut:l[k].var.toNat=u:=Z;have hab:bY ar.length l[k]=u:=by unfold bY;rw[ai Z];exact hu
 have hS:=h0 u hul
 have hPM:PM ar s (ar.length-u) u=SS ar s u*PM ar s (ar.length-(u+1)) (u+1):=by
  rw[show ar.length-u=(ar.length-(u+1))+1 by omega];rfl
 obtain ⟨c,hc⟩:=F.dvd k hk u cF hab
 have htd:T k/SS ar s u=PM ar s (ar.length-(u+1)) (u+1)*c:=by
  rw[hc,hPM,cn,Nat.mul_div_cancel_left _ hS]
 have htm:T k/SS ar s u*SS ar s u=T k:=by rw[htd,hc,hPM,bU,<- cn]
 have hmem:∀p∈gY ar s l[k],p.1∈R:=fun p hp=>by
  obtain ⟨a1,hpl,a2⟩:=Kv g hk Z p hp;have:=F.kids k hk cF Z _ a1;rw[cB] at this
  rcases cE.1 this with e|h
  .exfalso
   have:∀(x:Nat) (hx:x<l.length),x=k->l[k].var<bY ar.length l[x]->False:=fun x hx e h=>by
    subst e;rw[hab] at h;omega
   exact this _ hpl e a2
  .exact h
 have hwt:∀h,sm ar s l h->T k/SS ar s u*((gY ar s l[k]).map fun p=>p.2*h p.1).sum=T k*h k:=fun h hh=>by
  obtain ⟨q,q1,q2⟩:=hh k u hk hu;rw[qa3,hut,kN (G:=fun j=>SS ar s u*(s u j*q j)) fun j hj=>by rw[q1 j hj,<- cn,bU (s u j),cn],tN,<- q2,<- cn,htm]
 have hpe:∀h,sm ar s l h->gS h T (k::R)=gS h (iD (T k/SS ar s u) (gY ar s l[k]) T) R:=fun h hh=>by
  rw[Ae hn2 _ _ hmem,hwt h hh];unfold gS;rw[cU,jC,nr]
 have hM0:∀v,v<=ar.length->0<PM ar s (ar.length-v) v:=by
  have:∀d v,v+d=ar.length->0<PM ar s d v:=by
   intro d
   induction d with
   | zero=>intro v _;exact Nat.one_pos
   | succ d ih=>intro v hv;exact Nat.mul_pos (h0 v Z) (ih (v+1) Z)
  intro v hv;exact this _ v Z
 have hM:=hM0 0 (jd _);rw[Nat.sub_zero] at hM
 have hone:∀(T':Nat->Nat) (R':List Nat),gS (fun _=>PM ar s ar.length 0) T' R'=gS (fun _=>1) T' R'*PM ar s ar.length 0:=fun T' R'=>by
  unfold gS
  induction R' with
  | nil=>simp
  | cons j R' ih=>rw[cU,jC,ih,cU,jC,eW,ii]
 have htot:gS (fun _=>1) T (k::R)=gS (fun _=>1) (iD (T k/SS ar s u) (gY ar s l[k]) T) R:=by
  have:=hpe _ (qaJ g);rw[hone,hone] at this;exact Nat.eq_of_mul_eq_mul_right hM this
 refine ⟨hul,htm,hmem,hn1,fun L p L' hL=>?_,⟨hn2,fun j hj=>F.lt j (cP _ hj),(sP.1 F.srt).2,fun j hj hjR hv q hq=>?_,fun j hj v hjR hv=>?_,?_⟩,hpe⟩
 .have hp:p.1∈R:=hmem p (by rw[hL];simp)
  have h2:gS (fun _=>1) (iD (T k/SS ar s u) (L++[p]) T) R<=gS (fun _=>1) (iD (T k/SS ar s u) (gY ar s l[k]) T) R:=by
   rw[Ae hn2 _ _ fun q hq=>hmem q (by
     rw[hL];rw[cI] at hq ⊢;rcases hq with hq|hq
     .exact .inl hq
     .exact .inr (by simp at hq;simp[hq])),Ae hn2 _ _ hmem,hL]
   refine Nat.add_le_add_left (iF _ ?_) _;simp only[gW,cU,List.sum_append,jC,mc,List.sum_nil];omega
  have h3:=LU (h:=fun _=>1) (T:=iD (T k/SS ar s u) (L++[p]) T) hp;rw[As,wo,ii] at h3;have h4:=F.tot;rw[As] at h2;omega
 .have:=F.kids j hj (cP _ hjR) hv q hq
  rcases cE.1 this with e|h
  .exfalso;obtain ⟨t,et,ht,h2⟩:=g.kid j hj hv q hq;have hs:=(sP.1 F.srt).1 j hjR;rw[fK hk,fK hj] at hs;have hj2:bY ar.length l[j]=l[j].var:=by unfold bY;rw[ai Z]
   have:∀(x:Nat) (hx:x<l.length),x=k->l[j].var<bY ar.length l[x]->False:=fun x hx e h=>by
    subst e;omega
   have htk:t=k:=by rw[et,cB] at e;exact e
   exact this t Z htk (h2 Z)
  .exact h
 ·
  have hold:=F.dvd j hj v (cP _ hjR) hv
  have key:∀(L:List (Nat×Nat)) (T':Nat->Nat),(∀p∈L,p.1=j->PM ar s (ar.length-v) v∣T k/SS ar s u)->PM ar s (ar.length-v) v∣T' j->PM ar s (ar.length-v) v∣iD (T k/SS ar s u) L T' j:=by
   intro L
   induction L with
   | nil=>intro T' _ h;exact h
   | cons p L ih=>
    intro T' hL h;rw[iD];refine ih _ (fun q hq=>hL q (cP _ hq)) ?_;unfold upd
    split
    .rename_i e;rw[<- e];exact Nat.dvd_add h (Nat.dvd_mul_right_of_dvd (hL p cF e.symm) _)
    .exact h
  refine key _ T (fun p hp e=>?_) hold;obtain ⟨a1,hpl,a2⟩:=Kv g hk Z p hp
  have hvb:u<v:=by
   have:∀(x:Nat) (hx:x<l.length),x=j->l[k].var<bY ar.length l[x]->(u:Int)<v:=fun x hx e h=>by
    subst e;omega
   have:=this _ hpl e a2;omega
  have hvl:v<=ar.length:=by
   unfold bY at hv
   split at hv
   .have:=(g.var j hj (by omega)).1;omega
   .omega
  rw[htd];refine Nat.dvd_mul_right_of_dvd ?_ _;have:=uN (ar:=ar) (s:=s) (v-(u+1)) (ar.length-v) (u+1);rw[show v-(u+1)+(ar.length-v)=ar.length-(u+1) by omega,show u+1+(v-(u+1))=v by omega] at this;rw[this];exact Nat.dvd_mul_left _ _
 .rw[<- htot];exact F.tot
theorem Flow.leaf(g:GoodL ar l){k:Nat}{R:List Nat}{T:Nat->Nat}{done:Nat}(F:Flow ar s l (k::R) T done)(hk:k<l.length)(hv:l[k].var<0):Flow ar s l R T (done+T k)/\T k<=PM ar s ar.length 0/\k∉R:=by
 obtain ⟨hn1,hn2⟩:=lE.1 F.nd;have ht:=F.tot;unfold gS at ht;rw[cU,jC,ii] at ht
 refine ⟨⟨hn2,fun j hj=>F.lt j (cP _ hj),(sP.1 F.srt).2,fun j hj hjR hvj q hq=>?_,fun j hj v hjR=>F.dvd j hj v (cP _ hjR),?_⟩,Z,hn1⟩
 .have:=F.kids j hj (cP _ hjR) hvj q hq
  rcases cE.1 this with e|h
  .exfalso;obtain ⟨t,et,ht',h2⟩:=g.kid j hj hvj q hq;have hs:=(sP.1 F.srt).1 j hjR;rw[fK hk,fK hj] at hs;have hj1:=(g.var j hj hvj).1;have hj2:bY ar.length l[j]=l[j].var:=by unfold bY;rw[ai Z]
   have hk2:bY ar.length l[k]=ar.length:=by unfold bY;rw[ag Z]
   omega
  .exact h
 .unfold gS;omega
theorem EL(g:GoodL ar l)(h0:∀v,v<ar.length->0<SS ar s v){h:Nat->Nat}{q:Int->Nat}(hh:sm ar s l h)(hq:∀(k:Nat) (hk:k<l.length),l[k].var<0->h k=q l[k].leaf):∀(R:List Nat) (T:Nat->Nat) (done:Nat),Flow ar s l R T done ->
  gS h T R=((run ar s l R T).map fun p=>p.2*q p.1).sum
 | [],T,done,F=>rfl
 | k::R,T,done,F=>by
  have hk:=F.lt k cF;have e:l[k]?=some l[k]:=bn hk;rw[run,e];dsimp only
  by_cases hv:l[k].var<0
  .rw[ai hv,cU,jC,<- EL g h0 hh hq R T _ (F.leaf g hk hv).1];unfold gS;rw[cU,jC,hq k hk hv]
  .rw[ag hv];obtain ⟨_,_,_,_,_,F',hp⟩:=F.inner g h0 (u:=l[k].var.toNat) hk Z;rw[hp h hh,EL g h0 hh hq R _ _ F']
theorem Am(g:GoodL ar l):∀(R:List Nat) (T:Nat->Nat),(∀j∈R,j<l.length)->(run ar s l R T).map Prod.fst=(R.filter fun j=>decide ((l.getD j ⟨0,[],0⟩).var<0)).map fun j=>(l.getD j ⟨0,[],0⟩).leaf
 | [],T,_=>rfl
 | k::R,T,h=>by
  have hk:=h k cF;have e:l[k]?=some l[k]:=bn hk;have h':∀j∈R,j<l.length:=fun j hj=>h j (cP _ hj);rw[run,e];dsimp only;rw[List.filter_cons,fK hk]
  by_cases hv:l[k].var<0
  .rw[ai hv,eT hv,ai rfl,cU,cU,Am g R T h',fK hk]
  .rw[ag hv,eX hv,ag aq,Am g R _ h']
end
end Go.Ab
namespace Go.Ab
open Go.Proofs Go.Proofs.Tryz
theorem qdb(a:Nat):ae .o .shr (.U (a:Int)) (.U 1)=some (.U ((a/2:Nat):Int)):=by
 rw[Jk _ _ _ _ _ Z]
 have:(a:Int).fdiv (2^(min (1:Int).toNat (IntKind.bits .u64)))=((a/2:Nat):Int):=by
  have e:min (1:Int).toNat (IntKind.bits .u64)=1:=rfl;rw[e,Int.fdiv_eq_ediv_of_nonneg _ Z];omega
 rw[this]
theorem ZC{k:IntKind}{a:Nat}(h:a<9223372036854775808):ba .i64 (.int k a)=some (ni a):=by rw[jF,gz Z Z]
section
variable {R:Type}
theorem zS{i j:Nat}(h:i+j<1000000)(K:AV->Option R):((ae .o .add (ni i) (ni j)).bind fun v2=>(ba .u64 v2).bind fun v3=>(ae .o .shr v3 (.U 1)).bind fun v4=>(ba .i64 v4).bind fun v5=>K v5)=K (ni ((i+j)/2)):=by
 rw[iJ Z,O,vn Z,O,qdb,O,ZC Z,O]
end
section
variable {m0:af} {nm N L:Nat} {p:AV} {f:Nat->Int}
theorem S3(hL:L<=100000)(hc:lU m0 nm N p f){l:List Nat}{a lo hi:Nat}(ha:a<L)(hh:hi<=L)(K:KT):∀(k i j:Nat) (m:af),j-i=k->lo<=i->i<=j->j<=hi->(i=lo\/f (l.getD (i-1) 0)<f (l.getD a 0))->(j=hi\/¬ f (l.getD j 0)<f (l.getD a 0))->SD m0 nm N L m l ->
  ∃(m':af) (s:Nat),pT (.arr nm 0 L none) (ni a) (.fn 67 [p]) (ni i) (ni j) m K=K (.exit 0) (B0 (.arr nm 0 L none) (ni a) (ni s) m')/\SD m0 nm N L m' l/\AY (fun c=>f (l.getD c 0)<f (l.getD a 0)) lo hi s:=by
 intro k
 induction k using Nat.strongRecOn with
 | ind k ih=>
  intro i j m hk h1 h2 h3 h4 h5 h
  by_cases hij:i<j
  .have hq1:i<=(i+j)/2:=Z;have hq2:(i+j)/2<j:=Z;generalize hqe:(i+j)/2=q at hq1 hq2;obtain ⟨l1,n1⟩:=h.ld' (i:=q) Z;obtain ⟨l2,n2⟩:=h.ld' (i:=a) ha;obtain ⟨m1,e1,k1⟩:=h.cmp hc n1 n2;have i1:aE none (.arr nm 0 L none) (ni q)=some (.ptr nm q):=de Z;have i2:aE none (.arr nm 0 L none) (ni a)=some (.ptr nm a):=de ha
   have hpr:pT (.arr nm 0 L none) (ni a) (.fn 67 [p]) (ni i) (ni j) m K=au (.bool (decide (f (l.getD q 0)-f (l.getD a 0)<0))) ((ae .o .add (ni q) (.I 1)).bind fun v14=>pT (.arr nm 0 L none) (ni a) (.fn 67 [p]) v14 (ni j) m1 K) (pT (.arr nm 0 L none) (ni a) (.fn 67 [p]) (ni i) (ni q) m1 K):=by
    rw[Gq,bg,O,az,ai Z,zS Z,hqe,i1,O,l1,O,i2,O,l2,O,show jj (.fn 67 [p])=some (67,[p]) from rfl,O,nD rfl rfl rfl,e1,O,bg,O]
   rw[hpr,az]
   by_cases ht:f (l.getD q 0)-f (l.getD a 0)<0
   .rw[ai ht,b6 Z,O];exact ih (j-(q+1)) Z (q+1) j m1 rfl Z Z h3 (.inr (by rw[kU];omega)) h5 k1
   .rw[ag ht];exact ih (q-i) Z i q m1 rfl h1 hq1 Z h4 (.inr Z) k1
  .have:i=j:=Z;subst this;refine ⟨m,i,?_,h,h1,h3,h4,h5⟩;rw[Gq,bg,O,az,ag Z]
theorem TR(hL:L<=100000)(hc:lU m0 nm N p f){l:List Nat}{a lo hi:Nat}(ha:a<L)(hh:hi<=L)(K:KT):∀(k i j:Nat) (m:af),j-i=k->lo<=i->i<=j->j<=hi->(i=lo\/f (l.getD (i-1) 0)<=f (l.getD a 0))->(j=hi\/¬ f (l.getD j 0)<=f (l.getD a 0))->SD m0 nm N L m l ->
  ∃(m':af) (s:Nat),pS (.arr nm 0 L none) (ni a) (.fn 67 [p]) (ni i) (ni j) m K=K (.exit 4) (BZ (.arr nm 0 L none) (ni a) (ni s) m')/\SD m0 nm N L m' l/\AY (fun c=>f (l.getD c 0)<=f (l.getD a 0)) lo hi s:=by
 intro k
 induction k using Nat.strongRecOn with
 | ind k ih=>
  intro i j m hk h1 h2 h3 h4 h5 h
  by_cases hij:i<j
  .have hq1:i<=(i+j)/2:=Z;have hq2:(i+j)/2<j:=Z;generalize hqe:(i+j)/2=q at hq1 hq2;obtain ⟨l1,n1⟩:=h.ld' (i:=q) Z;obtain ⟨l2,n2⟩:=h.ld' (i:=a) ha;obtain ⟨m1,e1,k1⟩:=h.cmp hc n2 n1;have i1:aE none (.arr nm 0 L none) (ni q)=some (.ptr nm q):=de Z;have i2:aE none (.arr nm 0 L none) (ni a)=some (.ptr nm a):=de ha
   have hpr:pS (.arr nm 0 L none) (ni a) (.fn 67 [p]) (ni i) (ni j) m K=au (.bool (!decide (f (l.getD a 0)-f (l.getD q 0)<0))) ((ae .o .add (ni q) (.I 1)).bind fun v14=>pS (.arr nm 0 L none) (ni a) (.fn 67 [p]) v14 (ni j) m1 K) (pS (.arr nm 0 L none) (ni a) (.fn 67 [p]) (ni i) (ni q) m1 K):=by
    rw[Gm,bg,O,az,ai Z,zS Z,hqe,i2,O,l2,O,i1,O,l1,O,show jj (.fn 67 [p])=some (67,[p]) from rfl,O,nD rfl rfl rfl,e1,O,bg,O,kO,O]
   rw[hpr]
   by_cases ht:f (l.getD a 0)-f (l.getD q 0)<0
   .rw[eT ht,hZ,cD];exact ih (q-i) Z i q m1 rfl h1 hq1 Z h4 (.inr Z) k1
   .rw[eX ht,ka,gJ,b6 Z,O];exact ih (j-(q+1)) Z (q+1) j m1 rfl Z Z h3 (.inr (by rw[kU];omega)) h5 k1
  .have:i=j:=Z;subst this;refine ⟨m,i,?_,h,h1,h3,h4,h5⟩;rw[Gm,bg,O,az,ag Z]
theorem TU(hL:L<=100000)(hc:lU m0 nm N p f){l:List Nat}{pp lo hi:Nat}(hh:hi<=pp+1)(hp:pp<L+lo)(hhl:hi<=L)(x1 x2 x3 x18 x19:AV)(K:KT):∀(k i j:Nat) (m:af),j-i=k->lo<=i->i<=j->j<=hi->(i=lo\/f (l.getD (i-1) 0)<=f (l.getD (pp-(i-1)) 0))->(j=hi\/¬ f (l.getD j 0)<=f (l.getD (pp-j) 0))->SD m0 nm N L m l ->
  ∃(m':af) (s:Nat),mL (.arr nm 0 L none) x1 x2 x3 (.fn 67 [p]) x18 x19 (ni i) (ni j) (ni pp) m K=K (.exit 8) (yw (.arr nm 0 L none) x1 x2 x3 (.fn 67 [p]) x18 x19 (ni s) m')/\SD m0 nm N L m' l/\AY (fun c=>f (l.getD c 0)<=f (l.getD (pp-c) 0)) lo hi s:=by
 intro k
 induction k using Nat.strongRecOn with
 | ind k ih=>
  intro i j m hk h1 h2 h3 h4 h5 h
  by_cases hij:i<j
  .have hq1:i<=(i+j)/2:=Z;have hq2:(i+j)/2<j:=Z;generalize hqe:(i+j)/2=q at hq1 hq2;obtain ⟨l1,n1⟩:=h.ld' (i:=q) Z;obtain ⟨l2,n2⟩:=h.ld' (i:=pp-q) Z;obtain ⟨m1,e1,k1⟩:=h.cmp hc n2 n1;have i1:aE none (.arr nm 0 L none) (ni q)=some (.ptr nm q):=de Z;have i2:aE none (.arr nm 0 L none) (ni (pp-q))=some (.ptr nm (pp-q)):=de Z
   have hpr:mL (.arr nm 0 L none) x1 x2 x3 (.fn 67 [p]) x18 x19 (ni i) (ni j) (ni pp) m K=au (.bool (!decide (f (l.getD (pp-q) 0)-f (l.getD q 0)<0))) ((ae .o .add (ni q) (.I 1)).bind fun v14=>mL (.arr nm 0 L none) x1 x2 x3 (.fn 67 [p]) x18 x19 v14 (ni j) (ni pp) m1 K) (mL (.arr nm 0 L none) x1 x2 x3 (.fn 67 [p]) x18 x19 (ni i) (ni q) (ni pp) m1 K):=by
    rw[Gp,bg,O,az,ai Z,zS Z,hqe,jI Z Z,O,i2,O,l2,O,i1,O,l1,O,show jj (.fn 67 [p])=some (67,[p]) from rfl,O,nD rfl rfl rfl,e1,O,bg,O,kO,O]
   rw[hpr]
   by_cases ht:f (l.getD (pp-q) 0)-f (l.getD q 0)<0
   .rw[eT ht,hZ,cD];exact ih (q-i) Z i q m1 rfl h1 hq1 Z h4 (.inr Z) k1
   .rw[eX ht,ka,gJ,b6 Z,O];exact ih (j-(q+1)) Z (q+1) j m1 rfl Z Z h3 (.inr (by rw[kU];omega)) h5 k1
  .have:i=j:=Z;subst this;refine ⟨m,i,?_,h,h1,h3,h4,h5⟩;rw[Gp,bg,O,az,ag Z]
theorem W9(hL:L<=100000){x s:Nat}{pre post:List Nat}:∀(Q P:List Nat) (m:af),s=pre.length+P.length+1+Q.length->SD m0 nm N L m (pre++(P++x::(Q++post))) ->
  ∃m',xE (.arr nm 0 L none) (ni s) (ni (pre.length+P.length)) m (Bg (aD f166))=some (.tup [],m')/\SD m0 nm N L m' (pre++(P++(Q++x::post))):=by
 intro Q
 induction Q with
 | nil=>
  intro P m hs h;have hl:=h.hl;simp only[aQ,a8,bq] at hl hs;refine ⟨m,?_,h⟩;rw[Gs,lh Z Z,O,bg,O,az,ag Z,Qi]
 | cons y Q ih=>
  intro P m hs h;have hl:=h.hl;simp only[aQ,a8] at hl hs;have h':SD m0 nm N L m ((pre++P)++x::([]++y::(Q++post))):=by simpa using h
  obtain ⟨l1,l2,⟨m1,m2,s1,s2,k⟩,_⟩:=h'.swap (i:=pre.length+P.length) (j:=pre.length+P.length+1) aq aq;obtain ⟨m',e,k'⟩:=ih (P++[y]) m2 (by simp;omega) (by simpa using k);refine ⟨m',?_,by simpa using k'⟩;have ia:aE none (.arr nm 0 L none) (ni (pre.length+P.length))=some (.ptr nm (pre.length+P.length)):=de Z;have ib:aE none (.arr nm 0 L none) (ni (pre.length+P.length+1))=some (.ptr nm (pre.length+P.length+1)):=de Z;have i1:ae .o .add (ni (pre.length+P.length)) (.I 1)=some (ni (pre.length+P.length+1)):=b6 Z;rw[Gs,lh Z Z,O,bg,O,az,ai Z,i1,O,O,ib,O,l2,O,ia,O,l1,O,O,s1,O,O,s2,O,O];rw[aQ,pW] at e;exact e
theorem WC(hL:L<=100000){x s:Nat}{pre post:List Nat}(hs:s=pre.length):∀(k:Nat) (Q P:List Nat) (m:af),Q.length=k->SD m0 nm N L m (pre++(Q++x::(P++post))) ->
  ∃m',xD (.arr nm 0 L none) (ni s) (ni (pre.length+Q.length)) m (Be (aD f166))=some (.tup [],m')/\SD m0 nm N L m' (pre++(x::(Q++(P++post)))):=by
 intro k
 induction k with
 | zero=>
  intro Q P m hk h;have:Q=[]:=kR hk;subst this;refine ⟨m,?_,h⟩;rw[Gn,gI,O,az,ag (by simp;omega),P7]
 | succ k ih=>
  intro Q P m hk h
  obtain ⟨S,y,rfl⟩:∃S y,Q=S++[y]:=by
   have hne:Q≠[]:=fun e=>by simp[e] at hk
   exact ⟨Q.dropLast,Q.getLast hne,(List.dropLast_concat_getLast hne).symm⟩
  have hl:=h.hl;simp only[aQ,a8,bq] at hl hk ⊢;have h':SD m0 nm N L m ((pre++S)++y::([]++x::(P++post))):=by simpa using h
  obtain ⟨l1,l2,_,⟨m1,m2,s1,s2,k1⟩⟩:=h'.swap (i:=pre.length+(S.length+1)-1) (j:=pre.length+(S.length+1)) aq (by simp;omega);obtain ⟨m',e,k'⟩:=ih S (y::P) m2 Z (by simpa using k1);refine ⟨m',?_,by simpa using k'⟩;have ia:aE none (.arr nm 0 L none) (ni (pre.length+(S.length+1)))=some (.ptr nm (pre.length+(S.length+1))):=de Z;have ib:aE none (.arr nm 0 L none) (ni (pre.length+(S.length+1)-1))=some (.ptr nm (pre.length+(S.length+1)-1)):=de Z;have is:ae .o .sub (ni (pre.length+(S.length+1))) (.I 1)=some (ni (pre.length+(S.length+1)-1)):=lh Z Z;have e0:ni (pre.length+(S.length+0+1))=ni (pre.length+(S.length+1)):=rfl;rw[Gn,gI,O,az,ai Z,is,O,O,ib,O,l1,O,ia,O,l2,O,O,s1,O,O,s2,O,O];exact e
end
end Go.Ab
namespace Go.Ab
open Go.Proofs Go.Proofs.Tryz
theorem b9.le_take{f:Nat->Int}{B:List Nat}(h:b9 f B){s:Nat}{c:Int}(hs:s<=B.length)(he:s=0\/f (B.getD (s-1) 0)<=c):∀t∈B.take s,f t<=c:=by
 cases s with
 | zero=>simp
 | succ s=>
  have hl:s<B.length:=hs
  rcases he with he|he
  .cases he
  .rw[kU,aK,bn hl,bQ] at he;rw[kC hl];intro t ht
   have h1:b9 f (B.take s++[B[s]]):=by
    rw[<- kC hl];exact uF (List.take_sublist _ _) h
   exact Int.le_trans (b9.le_last h1 t ht) he
theorem b9.ge_drop{f:Nat->Int}{B:List Nat}(h:b9 f B){s:Nat}{c:Int}(he:s=B.length\/c<=f (B.getD s 0)):∀t∈B.drop s,c<=f t:=by
 by_cases hl:s<B.length
 .rcases he with he|he
  .omega
  .rw[aK,bn hl,bQ] at he;rw[ic hl];intro t ht
   have h1:b9 f (B[s]::B.drop (s+1)):=by
    rw[<- ic hl];exact uF (List.drop_sublist _ _) h
   exact Int.le_trans he (b9.head_le h1 t ht)
 .rw[fQ Z];simp
theorem vB{pre A B post:List Nat}{i k:Nat}(hi:i<A.length)(hk:k=pre.length+i):(pre++(A++(B++post))).getD k 0=A.getD i 0:=by
 subst hk;simp only[aK];rw[ma Z,Nat.add_sub_cancel_left,kS hi]
theorem vC{pre A B post:List Nat}{i k:Nat}(hi:i<B.length)(hk:k=pre.length+A.length+i):(pre++(A++(B++post))).getD k 0=B.getD i 0:=by
 subst hk;simp only[aK];rw[ma Z,ma Z,kS Z];congr 2;omega
noncomputable def vL(x0 x18 v1 x3 x4:AV)(m:af):OM:=
 (ae .o .lss x18 v1).bind fun v=>au v ((ae .o .lss v1 x3).bind fun w=>au w ((AC aa 166 [x0,x18,v1,x3,x4] m).bind fun r=>some ((.tup []),r.2)) (some ((.tup []),m))) (some ((.tup []),m))
noncomputable def qv(x0 x1 x20 x18 v1 x3 x4:AV)(m:af):OM:=
 (ae .o .lss x1 x20).bind fun v=>au v ((ae .o .lss x20 x18).bind fun w=>au w ((AC aa 166 [x0,x1,x20,x18,x4] m).bind fun r=>vL x0 x18 v1 x3 x4 r.2) (vL x0 x18 v1 x3 x4 m)) (vL x0 x18 v1 x3 x4 m)
theorem mE0(x0 x1 x2 x3 x4 x18 x19 x20:AV)(m:af):pP (aD f166) (.exit 8) (yw x0 x1 x2 x3 x4 x18 x19 x20 m) =
  (ae .o .sub x19 x20).bind fun v1=>(ae .o .lss x20 x2).bind fun v2=>au v2 ((ae .o .lss x2 v1).bind fun v3=>au v3 ((AC aa 186 [x0,x20,x2,v1,x4] m).bind fun r=>qv x0 x1 x20 x18 v1 x3 x4 r.2) (qv x0 x1 x20 x18 v1 x3 x4 m)) (qv x0 x1 x20 x18 v1 x3 x4 m):=(Qa x0 x1 x2 x3 x4 x18 x19 x20 m).trans rfl
section
variable {m0:af} {nm N L:Nat} {p:AV} {f:Nat->Int}
def Fx(m0:af)(nm N L:Nat)(p:AV)(f:Nat->Int)(n:Nat):Prop:=∀(pre A B post:List Nat) (m:af) (a mm b:Nat),A.length+B.length=n->A≠[]->B≠[]->b9 f A->b9 f B->SD m0 nm N L m (pre++(A++(B++post)))->a=pre.length->mm=a+A.length->b=mm+B.length ->
 ∃(m':af) (M:List Nat),AC aa 166 [.arr nm 0 L none,ni a,ni mm,ni b,.fn 67 [p]] m=some (.tup [],m')/\SD m0 nm N L m' (pre++(M++post))/\M.Perm (A++B)/\b9 f M
theorem LB{n:Nat}(ih:Fx m0 nm N L p f n){pre A B post:List Nat}{m:af}{a mm b:Nat}(hn:A.length+B.length=n)(sA:b9 f A)(sB:b9 f B)(h:SD m0 nm N L m (pre++(A++(B++post))))(ha:a=pre.length)(hm:mm=a+A.length)(hb:b=mm+B.length)
  {R:Type} (K:af->Option R):∃(m':af) (M:List Nat),((ae .o .lss (ni a) (ni mm)).bind fun v=>au v ((ae .o .lss (ni mm) (ni b)).bind fun w=>au w ((AC aa 166 [.arr nm 0 L none,ni a,ni mm,ni b,.fn 67 [p]] m).bind fun r=>K r.2) (K m)) (K m))=K m'/\SD m0 nm N L m' (pre++(M++post))/\M.Perm (A++B)/\b9 f M:=by
 rw[bg,O,az]
 by_cases hA:A=[]
 .subst hA;rw[ag (by simp at hm;omega)];exact ⟨m,B,rfl,h,aq,sB⟩
 .have:=sM.2 hA;rw[ai Z,bg,O,az]
  by_cases hB:B=[]
  .subst hB;rw[ag (by simp at hb;omega)];exact ⟨m,A,rfl,by simpa using h,aq,sA⟩
  .have:=sM.2 hB;rw[ai Z];obtain ⟨m',M,e,k⟩:=ih pre A B post m a mm b hn hA hB sA sB h ha hm hb;exact ⟨m',M,by rw[e,O],k⟩
theorem Fm(hL:L<=100000)(hc:lU m0 nm N p f):∀n,Fx m0 nm N L p f n:=by
 intro n
 induction n using Nat.strongRecOn with
 | ind n ih=>
  intro pre A B post m a mm b hn hA hB sA sB h ha hm hb;have a0:=sM.2 hA;have b0:=sM.2 hB;have hl:=h.hl;simp only[aQ] at hl;rw[UE,jI Z Z,O,ik,O,az]
  by_cases h1:A.length=1
  .rw[ai Z];obtain ⟨x,rfl⟩:=List.length_eq_one_iff.1 h1;obtain ⟨m1,s,e1,k1,g1,g2,g3,g4⟩:=S3 hL hc (l:=pre++([x]++(B++post))) (a:=a) (lo:=mm) (hi:=b) Z Z (Bf (aD f166)) _ mm b m rfl (aI _) Z (aI _) (.inl rfl) (.inl rfl) h;dsimp only at g3 g4;have ex:(pre++([x]++(B++post))).getD a 0=x:=by rw[vB (i:=0) aq Z];rfl
   rw[ex] at g3 g4
   have q1:∀t∈B.take (s-mm),f t<=f x:=b9.le_take sB Z (by
    rcases g3 with g3|g3
    .exact .inl Z
    .by_cases hz:s=mm
     .exact .inl Z
     .rw[vC (i:=s-1-mm) Z Z] at g3;rw[show s-mm-1=s-1-mm by omega]
      exact .inr Z)
   have q2:∀t∈B.drop (s-mm),f x<=f t:=b9.ge_drop sB (by
    rcases g4 with g4|g4
    .exact .inl Z
    .by_cases hz:s=b
     .exact .inl Z
     .rw[vC (i:=s-mm) Z Z] at g4
      exact .inr Z)
   have tl:(B.take (s-mm)).length=s-mm:=by rw[iu];omega
   obtain ⟨m2,e2,k2⟩:=W9 hL (x:=x) (s:=s) (pre:=pre) (post:=B.drop (s-mm)++post) (B.take (s-mm)) [] m1 (by simp at hm ⊢;omega) (by
    rw[bX,<- bE (B.take (s-mm)),kg];exact k1)
   refine ⟨m2,B.take (s-mm)++x::B.drop (s-mm),?_,by simpa using k2,?_,?_⟩
   .rw[e1,Qe,ha];exact e2
   .refine List.perm_middle.trans ?_;rw[kg];exact List.Perm.refl _
   .exact b9.put (by rw[kg];exact sB) q1 q2
  .rw[ag Z,jI Z Z,O,ik,O,az]
   by_cases h2:B.length=1
   .rw[ai Z];obtain ⟨x,rfl⟩:=List.length_eq_one_iff.1 h2;obtain ⟨m1,s,e1,k1,g1,g2,g3,g4⟩:=TR hL hc (l:=pre++(A++([x]++post))) (a:=mm) (lo:=a) (hi:=mm) Z Z (Bc (aD f166)) _ a mm m rfl (aI _) Z (aI _) (.inl rfl) (.inl rfl) h;dsimp only at g3 g4;have ex:(pre++(A++([x]++post))).getD mm 0=x:=by rw[vC (i:=0) aq Z];rfl
    rw[ex] at g3 g4
    have q1:∀t∈A.take (s-a),f t<=f x:=b9.le_take sA Z (by
     rcases g3 with g3|g3
     .exact .inl Z
     .by_cases hz:s=a
      .exact .inl Z
      .rw[vB (i:=s-1-a) Z Z] at g3;rw[show s-a-1=s-1-a by omega]
       exact .inr g3)
    have q2:∀t∈A.drop (s-a),f x<=f t:=b9.ge_drop sA (by
     rcases g4 with g4|g4
     .exact .inl Z
     .by_cases hz:s=mm
      .exact .inl Z
      .rw[vB (i:=s-a) Z Z] at g4
       exact .inr Z)
    have tl:(A.take (s-a)).length=s-a:=by rw[iu];omega
    have dl:(A.drop (s-a)).length=A.length-(s-a):=mM
    obtain ⟨m2,e2,k2⟩:=WC hL (x:=x) (s:=s) (pre:=pre++A.take (s-a)) (post:=post) (by simp[tl];omega) _ (A.drop (s-a)) [] m1 rfl (by
     rw[bX,bE,<- bE (A.take (s-a)),kg];exact k1)
    refine ⟨m2,A.take (s-a)++x::A.drop (s-a),?_,by simpa using k2,?_,?_⟩
    .rw[e1,P3];have:(pre++A.take (s-a)).length+(A.drop (s-a)).length=mm:=by rw[aQ,tl,dl];omega
     rw[this] at e2;exact e2
    .refine List.perm_middle.trans ?_;rw[kg];exact (List.perm_append_singleton x A).symm
    .exact b9.put (by rw[kg];exact sA) q1 q2
   .rw[ag Z];rw[zS Z];have hmid:(a+b)/2*2<=a+b:=ym _ _;have hmid2:a+b<=(a+b)/2*2+1:=Z;generalize (a+b)/2=mid at hmid hmid2;rw[iJ Z,O,gI,O,az]
    have srch:∃(lo hi:Nat),(if ((mm:Nat):Int)>((mid:Nat):Int) then
       (ae .o .sub (.I ((mid+mm:Nat):Int)) (ni b)).bind fun v11=>(ae .o .sub (.I ((mid+mm:Nat):Int)) (.I 1)).bind fun v12=>mL (.arr nm 0 L none) (ni a) (ni mm) (ni b) (.fn 67 [p]) (ni mid) (.I ((mid+mm:Nat):Int)) v11 (ni mid) v12 m (pP (aD f166))
      else (ae .o .sub (.I ((mid+mm:Nat):Int)) (.I 1)).bind fun v13=>mL (.arr nm 0 L none) (ni a) (ni mm) (ni b) (.fn 67 [p]) (ni mid) (.I ((mid+mm:Nat):Int)) (ni a) (ni mm) v13 m (pP (aD f166))) =
      mL (.arr nm 0 L none) (ni a) (ni mm) (ni b) (.fn 67 [p]) (ni mid) (ni (mid+mm)) (ni lo) (ni hi) (ni (mid+mm-1)) m (pP (aD f166))/\a<=lo/\lo<=hi/\hi<=mm/\hi<=mid/\mid+mm<=b+lo/\(lo=a\/mid+mm=b+lo)/\(hi=mm\/hi=mid):=by
     by_cases hg:mid<mm
     .refine ⟨mid+mm-b,mid,?_,Z,Z,Z,Z,Z,.inr Z,.inr rfl⟩;rw[ai Z,jI Z Z,O,lh Z Z,O]
     .refine ⟨a,mm,?_,Z,Z,Z,Z,Z,.inl rfl,.inl rfl⟩;rw[ag Z,lh Z Z,O]
    obtain ⟨lo,hi,eS,z1,z2,z3,z4,z5,z6,z7⟩:=srch;rw[eS];obtain ⟨m1,s,e1,k1,g1,g2,g3,g4⟩:=TU hL hc (l:=pre++(A++(B++post))) (pp:=mid+mm-1) (lo:=lo) (hi:=hi) Z Z Z (ni a) (ni mm) (ni b) (ni mid) (ni (mid+mm)) (pP (aD f166)) _ lo hi m rfl (aI _) z2 (aI _) (.inl rfl) (.inl rfl) h;dsimp only at g3 g4;rw[e1,mE0,jI Z Z,O];obtain ⟨e,he⟩:∃e,e=mid+mm-s:=⟨_,rfl⟩;rw[<- he];have eA:A.take (s-a)++A.drop (s-a)=A:=kg _ _;have eB:B.take (e-mm)++B.drop (e-mm)=B:=kg _ _;have tA:(A.take (s-a)).length=s-a:=by rw[iu];omega
    have dA:(A.drop (s-a)).length=mm-s:=by rw[mM];omega
    have tB:(B.take (e-mm)).length=e-mm:=by rw[iu];omega
    have dB:(B.drop (e-mm)).length=b-e:=by rw[mM];omega
    have b1:∀x∈A.take (s-a),∀y∈B.drop (e-mm),f x<=f y:=by
     by_cases hs:s=a
     .rw[show s-a=0 by omega];simp
     .by_cases hse:e=b
      .rw[fQ (show B.length<=e-mm by omega)];simp
      .have hne:s≠lo:=Z;have:=g3.resolve_left hne;rw[vB (i:=s-1-a) Z Z,vC (i:=e-mm) Z Z] at this;intro x hx y hy;have u1:=b9.le_take sA (s:=s-a) (c:=f (A.getD (s-1-a) 0)) Z (.inr (by rw[show s-a-1=s-1-a by omega];exact lC _)) x hx;have u2:=b9.ge_drop sB (s:=e-mm) (c:=f (B.getD (e-mm) 0)) (.inr (lC _)) y hy;omega
    have b2:∀x∈B.take (e-mm),∀y∈A.drop (s-a),f x<=f y:=by
     by_cases hs:s=mm
     .rw[fQ (show A.length<=s-a by omega)];simp
     .by_cases hse:e=mm
      .rw[show e-mm=0 by omega];simp
      .have hne:s≠hi:=Z;have:=g4.resolve_left hne;rw[vB (i:=s-a) Z Z,vC (i:=e-1-mm) Z Z] at this;intro x hx y hy;have u1:=b9.le_take sB (s:=e-mm) (c:=f (B.getD (e-1-mm) 0)) Z (.inr (by rw[show e-mm-1=e-1-mm by omega];exact lC _)) x hx;have u2:=b9.ge_drop sA (s:=s-a) (c:=f (A.getD (s-a) 0)) (.inr (lC _)) y hy;omega
    have k1':SD m0 nm N L m1 ((pre++A.take (s-a))++(A.drop (s-a)++(B.take (e-mm)++(B.drop (e-mm)++post)))):=by
     rw[<- bE (B.take (e-mm)),eB,bE,<- bE (A.take (s-a)),eA];exact k1
    have turn:∃m2,((ae .o .lss (ni s) (ni mm)).bind fun v2=>au v2 ((ae .o .lss (ni mm) (ni e)).bind fun v3=>au v3 ((AC aa 186 [.arr nm 0 L none,ni s,ni mm,ni e,.fn 67 [p]] m1).bind fun r=>qv (.arr nm 0 L none) (ni a) (ni s) (ni mid) (ni e) (ni b) (.fn 67 [p]) r.2) (qv (.arr nm 0 L none) (ni a) (ni s) (ni mid) (ni e) (ni b) (.fn 67 [p]) m1)) (qv (.arr nm 0 L none) (ni a) (ni s) (ni mid) (ni e) (ni b) (.fn 67 [p]) m1))=qv (.arr nm 0 L none) (ni a) (ni s) (ni mid) (ni e) (ni b) (.fn 67 [p]) m2/\SD m0 nm N L m2 ((pre++A.take (s-a))++(B.take (e-mm)++(A.drop (s-a)++(B.drop (e-mm)++post)))):=by
     rw[bg,O,az]
     by_cases hs:s<mm
     .rw[ai Z,bg,O,az]
      by_cases hse:mm<e
      .rw[ai Z];obtain ⟨m2,er,k2⟩:=Ns hL (.fn 67 [p]) (oR Z) (oR Z) k1' (a:=s) (mm:=mm) (b:=e) (by rw[aQ,tA];omega) Z Z;exact ⟨m2,by rw[er,O],k2⟩
      .rw[ag Z];refine ⟨m1,rfl,?_⟩;rw[show B.take (e-mm)=[] from kR Z] at k1' ⊢;simpa using k1'
     .rw[ag Z];refine ⟨m1,rfl,?_⟩;rw[show A.drop (s-a)=[] from kR Z] at k1' ⊢;simpa using k1'
    obtain ⟨m2,et,k2⟩:=turn;rw[et];have s1:b9 f (A.take (s-a)):=uF (List.take_sublist _ _) sA;have s2:b9 f (A.drop (s-a)):=uF (List.drop_sublist _ _) sA;have s3:b9 f (B.take (e-mm)):=uF (List.take_sublist _ _) sB;have s4:b9 f (B.drop (e-mm)):=uF (List.drop_sublist _ _) sB;obtain ⟨m3,M1,e3,k3,p3,r3⟩:=LB (ih (mid-a) Z) (pre:=pre) (A:=A.take (s-a)) (B:=B.take (e-mm)) (post:=A.drop (s-a)++(B.drop (e-mm)++post)) (m:=m2) (a:=a) (mm:=s) (b:=mid) Z s1 s3 (by simpa using k2) ha Z Z (fun q=>vL (.arr nm 0 L none) (ni mid) (ni e) (ni b) (.fn 67 [p]) q);have e3:qv (.arr nm 0 L none) (ni a) (ni s) (ni mid) (ni e) (ni b) (.fn 67 [p]) m2=vL (.arr nm 0 L none) (ni mid) (ni e) (ni b) (.fn 67 [p]) m3:=e3;rw[e3];have lM1:M1.length=mid-a:=by rw[p3.length_eq,aQ];omega
    obtain ⟨m4,M2,e4,k4,p4,r4⟩:=LB (ih (b-mid) Z) (pre:=pre++M1) (A:=A.drop (s-a)) (B:=B.drop (e-mm)) (post:=post) (m:=m3) (a:=mid) (mm:=e) (b:=b) Z s2 s4 (by simpa using k3) (by rw[aQ];omega) Z Z (fun q=>some ((.tup []:AV),q));obtain ⟨w1,w2⟩:=b9.both (by rw[eA];exact sA) (by rw[eB];exact sB) b1 b2 p3 p4 r3 r4;rw[eA,eB] at w2;exact ⟨m4,M1++M2,e4,by simpa using k4,w2,w1⟩
theorem Wi(hL:L<=100000)(hc:lU m0 nm N p f):∀(k:Nat) (F R:List Nat) (m:af),R.length=k->Full f 20 F->SD m0 nm N L m (F++R) ->
  ∃(m':af) (l':List Nat),um (.arr nm 0 L none) (ni L) (.fn 67 [p]) (.I 20) (ni F.length) (ni (F.length+20)) m (wJ (aD f125))=pR (.arr nm 0 L none) (ni L) (.fn 67 [p]) (.I 20) m' (qQ (aD f125))/\SD m0 nm N L m' l'/\l'.Perm (F++R)/\Runs f 20 l':=by
 intro k
 induction k using Nat.strongRecOn with
 | ind k ih=>
  intro F R m hk hF h;have hl:=h.hl;simp only[aQ] at hl
  by_cases hb:20<=R.length
  .have tX:(R.take 20).length=20:=by rw[iu];omega
   obtain ⟨m1,X',e1,k1,p1,s1⟩:=Fl hL hc (pre:=F) (X:=R.take 20) (post:=R.drop 20) (m:=m) (by rw[kg];exact h) (a:=F.length) (b:=F.length+20) rfl Z;have lX:X'.length=20:=by rw[p1.length_eq];exact tX
   obtain ⟨m',l',e2,k2,p2,r2⟩:=ih (R.drop 20).length (by rw[mM];omega) (F++X') (R.drop 20) m1 rfl (.more F X' hF lX s1) (by simpa using k1)
   refine ⟨m',l',?_,k2,p2.trans ?_,r2⟩
   .rw[FX,qd,O,az,ai Z,e1,O,show (AV.I 20)=ni 20 from rfl,iJ Z,O];rw[aQ,lX] at e2;exact e2
   .rw[bE];refine uG F ?_;have:=p1.append_right (R.drop 20)
    rwa [kg] at this
  .obtain ⟨m1,X',e1,k1,p1,s1⟩:=Fl hL hc (pre:=F) (X:=R) (post:=[]) (m:=m) (by simpa using h) (a:=F.length) (b:=L) rfl Z;refine ⟨m1,F++X',?_,by simpa using k1,uG F p1,hF.runs _ (.last _ (by rw[p1.length_eq];omega) s1)⟩;rw[FX,qd,O,az,ag Z,OS,e1,O]
theorem Wj(hL:L<=100000)(hc:lU m0 nm N p f){bs:Nat}(hbs:0<bs)(hbl:bs<L):∀(k:Nat) (F R:List Nat) (m:af),R.length=k->Full f (2*bs) F->Runs f bs R->SD m0 nm N L m (F++R) ->
  ∃(m':af) (l':List Nat),xh (.arr nm 0 L none) (ni L) (.fn 67 [p]) (ni bs) (ni F.length) (ni (F.length+2*bs)) m (A3 (qQ (aD f125)))=pR (.arr nm 0 L none) (ni L) (.fn 67 [p]) (ni (bs*2)) m' (qQ (aD f125))/\SD m0 nm N L m' l'/\l'.Perm (F++R)/\Runs f (2*bs) l':=by
 intro k
 induction k using Nat.strongRecOn with
 | ind k ih=>
  intro F R m hk hF hR h;have hl:=h.hl;simp only[aQ] at hl;have e2i:(AV.I 2)=ni 2:=rfl
  by_cases hb:2*bs<=R.length
  .obtain ⟨x1,R1,rfl,lx1,sx1,hR1⟩:=hR.two hbs Z;simp only[aQ] at hb hl
   obtain ⟨x2,R2,rfl,lx2,sx2,hR2⟩:∃x r,R1=x++r/\x.length=bs/\b9 f x/\Runs f bs r:=by
    by_cases hq:bs<R1.length
    .exact hR1.two hbs hq
    .exact ⟨R1,[],aq,Z,hR1.one Z,.last [] aq List.Pairwise.nil⟩
   obtain ⟨m1,M,e1,k1,p1,s1⟩:=Fm hL hc _ F x1 x2 R2 m F.length (F.length+bs) (F.length+2*bs) rfl (oR Z) (oR Z) sx1 sx2 (by simpa using h) rfl Z Z;have lM:M.length=2*bs:=by rw[p1.length_eq,aQ];omega
   obtain ⟨m',l',e2,k2,p2,r2⟩:=ih R2.length (by rw[<- hk];simp;omega) (F++M) R2 m1 rfl (.more F M hF lM s1) hR2 (by simpa using k1);simp only[aQ] at hl
   refine ⟨m',l',?_,k2,p2.trans ?_,r2⟩
   .rw[FZ,qd,O,az,ai Z,iJ Z,O,e1,O,e2i,qe,show ((2:Nat):Int)*(bs:Nat)=((2*bs:Nat):Int) by omega,gz Z Z,O,iJ Z,O];rw[aQ,lM] at e2;exact e2
   .rw[bE,<- bE x1];exact uG F (p1.append_right R2)
  .have e2m:ae .o .mul (ni bs) (.I 2)=some (ni (bs*2)):=by
    rw[e2i,qe,show (bs:Int)*(2:Nat)=((bs*2:Nat):Int) by omega,gz Z Z]
   rw[FZ,qd,O,az,ag Z,OY,iJ Z,O,bg,O,az,e2m]
   by_cases hq:bs<R.length
   .rw[ai Z];obtain ⟨x1,R1,rfl,lx1,sx1,hR1⟩:=hR.two hbs hq;simp only[aQ] at hb hl hq;obtain ⟨m1,M,e1,k1,p1,s1⟩:=Fm hL hc _ F x1 R1 [] m F.length (F.length+bs) L rfl (oR Z) (oR Z) sx1 (hR1.one Z) (by simpa using h) rfl Z Z;refine ⟨m1,F++M,?_,by simpa using k1,uG F p1,hF.runs _ (.last _ (by rw[p1.length_eq,aQ];omega) s1)⟩;rw[e1,O,O]
   .rw[ag Z];exact ⟨m,F++R,by rw[O],h,List.Perm.refl _,hF.runs _ (.last _ Z (hR.one Z))⟩
theorem Wl(hL:L<=100000)(hc:lU m0 nm N p f):∀(k bs:Nat) (l:List Nat) (m:af),L-bs=k->0<bs->bs<1000000->Runs f bs l->SD m0 nm N L m l ->
  ∃(m':af) (l':List Nat),pR (.arr nm 0 L none) (ni L) (.fn 67 [p]) (ni bs) m (qQ (aD f125))=some (.tup [],m')/\SD m0 nm N L m' l'/\l'.Perm l/\b9 f l':=by
 intro k
 induction k using Nat.strongRecOn with
 | ind k ih=>
  intro bs l m hk h0 hbb hR h
  by_cases hb:bs<L
  .obtain ⟨m1,l1,e1,k1,p1,r1⟩:=Wj hL hc h0 hb _ [] l m rfl .nil hR (by simpa using h);obtain ⟨m',l',e2,k2,p2,s2⟩:=ih (L-bs*2) Z (bs*2) l1 m1 rfl Z Z (by rw[bU];exact r1) k1;refine ⟨m',l',?_,k2,p2.trans (by simpa using p1),s2⟩;rw[FY,bg,O,az,ai Z,show (AV.I 2)=ni 2 from rfl,qe,show ((2:Nat):Int)*(bs:Nat)=((0+2*bs:Nat):Int) by omega,gz Z Z,O];rw[<- e2];exact e1
  .refine ⟨m,l,?_,h,List.Perm.refl _,hR.one (by rw[h.hl];omega)⟩;rw[FY,bg,O,az,ag Z,OU]
theorem NI(hL:L<=100000)(hc:lU m0 nm N p f){l:List Nat}{m:af}(h:SD m0 nm N L m l):∃(m':af) (l':List Nat),AC aa 66 [.arr nm 0 L none,.fn 67 [p]] m=some (.tup [],m')/\SD m0 nm N L m' l'/\l'.Perm l/\b9 f l':=by
 obtain ⟨m1,l1,e1,k1,p1,r1⟩:=Wi hL hc _ [] l m rfl .nil (by simpa using h);obtain ⟨m',l',e2,k2,p2,s2⟩:=Wl hL hc _ 20 l1 m1 rfl Z Z r1 k1;refine ⟨m',l',?_,k2,p2.trans (by simpa using p1),s2⟩;have e1:um (.arr nm 0 L none) (ni L) (.fn 67 [p]) (.I 20) (.I 0) (.I 20) m (wJ (aD f125))=_:=e1;have e2:pR (.arr nm 0 L none) (ni L) (.fn 67 [p]) (.I 20) m1 (qQ (aD f125))=_:=e2;rw[U9,show aL false (.arr nm 0 L none)=some (ni L) from rfl,O,Uf,e1,e2,O]
end
end Go.Ab
namespace Go.Ab
theorem EU(ns:List Int):(jz ns).length=ns.length:=List.length_mergeSort _
theorem qdg(ns:List Int)(x:Int):x∈jz ns↔x∈ns:=by
 unfold jz;exact List.mem_mergeSort
theorem qdh(ns:List Int):(jz ns).Pairwise (·<=·):=by
 have h:(jz ns).Pairwise fun a b=>decide (a<=b)=true:=List.pairwise_mergeSort (fun a b c h1 h2=>by simp only[lc] at *;omega) (fun a b=>by simp only[sk,lc];omega) ns;exact h.imp fun h=>by simpa using h
theorem C0(zs:List Int):(Lib.compact zs).length<=zs.length:=by
 unfold Lib.compact Lib.compactUpTo;rw[bA];have:=List.length_filter_le (Lib.keeps zs.toArray) (List.range zs.length)
 rwa [List.length_range] at this
theorem pn{zs:List Int}{j:Nat}(h:j<zs.length):zs.toArray[j]! = zs[j]:=by simp[h]
theorem DI(zs:List Int)(j:Nat):Lib.keeps zs.toArray j=true↔j=0\/zs.toArray[j]!≠zs.toArray[j-1]!:=by
 unfold Lib.keeps;simp
theorem ZQ{zs:List Int}(x:Int):x∈Lib.compact zs↔x∈zs:=by
 unfold Lib.compact Lib.compactUpTo;rw[ga]
 constructor
 .rintro ⟨j,hj,rfl⟩
  have hjl:j<zs.length:=by
   have:=(kB.1 hj).1;simpa using this
  rw[pn hjl];exact bp hjl
 .intro hx;obtain ⟨i,hi,e⟩:=ig hx
  have key:∀i,(hi:i<zs.length)->∃j,j<zs.length/\Lib.keeps zs.toArray j=true/\zs.toArray[j]! = zs[i]:=by
   intro i
   induction i with
   | zero=>intro hi;exact ⟨0,hi,(DI zs 0).2 (.inl rfl),pn hi⟩
   | succ i ih=>
    intro hi
    by_cases hk:Lib.keeps zs.toArray (i+1)=true
    .exact ⟨i+1,hi,hk,pn hi⟩
    .have hi':i<zs.length:=Z;obtain ⟨j,h1,h2,h3⟩:=ih hi';refine ⟨j,h1,h2,h3.trans ?_⟩;rw[DI] at hk;have h4:zs.toArray[i+1]! = zs.toArray[i]!:=lT fun hne=>hk (.inr (by rw[kU];exact hne));rw[pn hi,pn hi'] at h4;exact h4.symm
  obtain ⟨j,h1,h2,h3⟩:=key i hi;exact ⟨j,kB.2 ⟨by simpa using h1,h2⟩,h3.trans e⟩
theorem ZS{zs:List Int}(h:zs.Pairwise (·<=·)):(Lib.compact zs).Pairwise (· < ·):=by
 unfold Lib.compact Lib.compactUpTo;rw[List.pairwise_map];have hr:((List.range zs.length).filter (Lib.keeps zs.toArray)).Pairwise (· < ·):=List.Pairwise.filter _ List.pairwise_lt_range;refine List.Pairwise.imp_of_mem ?_ hr;intro a b ha hb hab;have hal:a<zs.length:=by simpa using (kB.1 ha).1
 have hbl:b<zs.length:=by simpa using (kB.1 hb).1
 have hk:=(DI zs b).1 (kB.1 hb).2;have hb0:b≠0:=Z;have hne:=hk.resolve_left hb0;have hb1:b-1<zs.length:=Z;rw[pn hbl,pn hb1] at hne;rw[pn hal,pn hbl];have hp:=List.pairwise_iff_getElem.1 h
 have h1:zs[a]<=zs[b-1]:=by
  by_cases e:a=b-1
  .subst e;exact lC _
  .exact hp a (b-1) hal hb1 Z
 have h2:zs[b-1]<=zs[b]:=hp (b-1) b hb1 hbl Z;omega
def lR(ns:List Int):List Int:=Lib.compact (jz ns)
theorem qdN:lR []=[]:=by
 refine kR ?_;have h1:=C0 (jz []);have h2:=EU [];unfold lR;simp only[bq] at h2;omega
theorem E9(ns:List Int):(lR ns).Pairwise (· < ·):=ZS (qdh ns)
theorem AH(ns:List Int)(x:Int):x∈lR ns↔x∈ns:=by unfold lR;rw[ZQ,qdg]
end Go.Ab
namespace Go.Ab
open Go.Proofs Go.Proofs.Tryz
def p6(B:Nat)(m:af)(x:AV)(ns:List Int):Prop:=(x=aw/\ns=[])\/∃t,x=.arr t 0 ns.length none/\0<ns.length/\m.get t=some (.obj false (ns.map (AV.int .i64)))/\B<=t
theorem p6.move{B:Nat}{m m':af}{x:AV}{ns:List Int}(h:p6 B m x ns)(hm:∀t,x=.arr t 0 ns.length none->t<m.length->m'.get t=m.get t):p6 B m' x ns:=by
 rcases h with h|⟨t,hx,h1,h2,h3⟩
 .exact .inl h
 .exact .inr ⟨t,hx,h1,by rw[hm t hx (bo h2)];exact h2,h3⟩
theorem qb3{B:Nat}{m:af}{x:AV}{ns:List Int}(h:p6 B m x ns)(hl:ns.length<=100000)(hB:B<=m.length)(v:Int):∃x' m',bF none true 3 none 8 m x (.lst none false .full [.I v])=some (x',m')/\p6 B m' x' (ns++[v])/\m.length<=m'.length/\∀y,y<m.length->(∀t,x=.arr t 0 ns.length none->y≠t)->m'.get y=m.get y:=by
 rcases h with ⟨rfl,rfl⟩|⟨t,rfl,hpos,hg,htB⟩
 .have ha:bF none true 3 none 8 m aw (.lst none false .full [.I v])=some (.arr m.length 0 1 none,m++[some (.obj false [.I v])]):=by
   simp only[bF,bq,a8,bj,aY,or_true,bX,aC]
   rfl
  exact ⟨_,_,ha,.inr ⟨m.length,aq,aq,by rw[bG rfl];rfl,hB⟩,aq,fun y hy _=>bP hy⟩
 .have htl:=bo hg;have ho:m.obj? t=some (false,ns.map (AV.int .i64)):=by rw[mC,hg];rfl
  have hY:tE m none (.lst none false .full [.I v])=some (1,[.I v]):=rfl
  have hX:pI m none (.arr t 0 ns.length none)=some (ns.length,ns.map (AV.int .i64),m.set t none):=by
   simp only[pI,ho,O];rw[ai ⟨trivial,trivial,hpos,trivial,by simp[Sh.size]⟩]
  have ha:bF none true 3 none 8 m (.arr t 0 ns.length none) (.lst none false .full [.I v])=some (.arr (m.set t none).length 0 (ns.length+1) none,(m.set t none)++[some (.obj false (ns.map (AV.int .i64)++[.I v]))]):=by
   simp only[bF,pa,hY,hX,O];rw[ai (show (ns.length+1)*8<=fq by unfold fq;omega)]
  have hml:(m.set t (none:Option Ent)).length=m.length:=ff;refine ⟨_,_,ha,.inr ⟨(m.set t none).length,aq,aq,by rw[bG rfl,gW];rfl,by rw[hml];exact hB⟩,aq,fun y hy hne=>?_⟩;rw[bP (by rw[hml];exact hy),bO (hne t rfl)]
def q5(B:Nat)(m:af)(y:AV)(rs:List Int):Prop:=(y=aw/\rs=[])\/∃t zs,y=.arr t 0 rs.length none/\m.get t=some (.obj false ((rs++zs).map (AV.int .i64)))/\B<=t
theorem q5.fr{B:Nat}{m m':af}{x:AV}{ns:List Int}(h:q5 B m x ns)(f:Fr m m' []):q5 B m' x ns:=by
 rcases h with h|⟨t,zs,hx,h2,h3⟩
 .exact .inl h
 .exact .inr ⟨t,zs,hx,by rw[f.get t (bo h2) aq];exact h2,h3⟩
section
variable {s:Nat} {F:List Nat} {arms:AV} {most:Int} {l:List ND}
theorem NW(n:ND)(m:af):AC aa 106 [n.av] m=some (.tup [.I n.leaf,.bool (decide (n.var<0))],m++[some (Ent.B [.I n.var,bM n,.I n.leaf])]):=by
 have e:cu (some 3) n.av=true:=by unfold ND.av bM;split<;>rfl
 have hb:cQ none (some 3) m n.av=some (.ptr m.length 0,m++[some (Ent.B [.I n.var,bM n,.I n.leaf])]):=by
  unfold cQ;rw[ai e];rfl
 have l0:am none (m++[some (Ent.B [.I n.var,bM n,.I n.leaf])]) (.ptr m.length (0+0))=some (.I n.var):=by
  rw[cS,bG rfl];rfl
 have l2:am none (m++[some (Ent.B [.I n.var,bM n,.I n.leaf])]) (.ptr m.length (0+2))=some (.I n.leaf):=by
  rw[cS,bG rfl];rfl
 rw[TY,hb,O,fJ,O,l2,O,fJ,O,l0,O,bg,O]
theorem qaz{ar:List Int}{m:af}{x:AV}{T:List Nat}(g:GoodL ar l){id:Nat}(hid:id<l.length)(h:GA m x (Vi l id []) T):∃t,x=.arr t 0 (Vi l id []).length none/\m.get t=some (.obj false (ds (Vi l id []))):=by
 generalize hV:Vi l id []=ids at h
 cases h with
 | none=>
  have:id∈Vi l id []:=by rw[n6 g hid,ag aq];simp
  rw[hV] at this;cases this
 | some t ids ht hne=>exact ⟨t,rfl,ht⟩
def iV(val:ND->Int)(keep:ND->Bool)(l:List ND)(ids:List Nat):List Int:=(ids.filter fun i=>keep (l.getD i ⟨0,[],0⟩)).map fun i=>val (l.getD i ⟨0,[],0⟩)
theorem MX(val:ND->Int)(keep:ND->Bool)(l:List ND)(p:List Nat)(i:Nat):iV val keep l (p++[i])=iV val keep l p++(if keep (l.getD i ⟨0,[],0⟩)=true then [val (l.getD i ⟨0,[],0⟩)] else []):=by
 unfold iV;rw[List.filter_append,gW,List.filter_cons,List.filter_nil];congr 1;split<;>rfl
theorem WU{cf:Nat}{val:ND->Int}{keep:ND->Bool}(c1:((aa.lib cf).isNone&&(aa.libm cf).isNone)=true)(c2:aa.inl 104 cf=true)(c3:aa.thaw 104 cf=false)(c4:aa.frzc 104 cf=false)(hcf:∀(n:ND) m,AC aa cf [n.av] m=some (.tup [.I (val n),.bool (keep n)],m++[some (Ent.B [.I n.var,bM n,.I n.leaf])]))
  {m0:af} (h0:bB m0 s F arms most l) {ids:List Nat} (hids:∀i∈ids,i<l.length) (hil:ids.length<=100000) {t:Nat} (ht:m0.get t=some (.obj false (ds ids))):∀(q p:List Nat) (m:af) (x:AV),ids=p++q->Fr m0 m []->p6 m0.length m x (iV val keep l p) ->
  ∃m' x',pQ (.ptr s 0) (.fn cf []) x (.arr t 0 ids.length none) (.I ids.length) (.I p.length) m (pO (aD f104))=pO (aD f104) (.exit 0) (yp x' m')/\Fr m0 m' []/\p6 m0.length m' x' (iV val keep l ids):=by
 intro q
 induction q with
 | nil=>
  intro p m x hpq f hx;rw[aW] at hpq;subst hpq;refine ⟨m,x,?_,f,hx⟩;rw[FS,bS,O,az,ag Z]
 | cons i q ih=>
  intro p m x hpq f hx;have hpl:p.length<ids.length:=by rw[hpq];simp
  have hat:ids[p.length]=i:=by simp[hpq]
  have hi:i<l.length:=hids i (by rw[hpq];simp);have hix:aE none (.arr t 0 ids.length none) (.I p.length)=some (.ptr t p.length):=de hpl
  have hld:am none m (.ptr t p.length)=some (.I (i:Nat)):=by
   rw[cS,f.get t (bo ht) aq,ht,jx,O,pi];exact zp (by rw[hpq];simp)
  have hst:=h0.app f;obtain ⟨p0,na,TT,st,_⟩:=hst;have kG:am none m (.ptr s (0+1))=some na:=by rw[cS,st.hs];rfl
  have hnx:=ou st.hn hi;have ldv:am (some 3) m (.vptr [.I l[i].var,bM l[i],.I l[i].leaf])=some l[i].av:=rfl;have hc:=hcf l[i] m;have hgd:l.getD i ⟨0,[],0⟩=l[i]:=fK hi;have f1:Fr m0 (m++[some (Ent.B [.I l[i].var,bM l[i],.I l[i].leaf])]) []:=f.snoc _;have hx1:p6 m0.length (m++[some (Ent.B [.I l[i].var,bM l[i],.I l[i].leaf])]) x (iV val keep l p):=hx.move fun t _ ht=>bP ht;have hp1:(p++[i]).length=p.length+1:=aq
  have htl:(iV val keep l p).length<=100000:=by
   unfold iV;rw[bA];have:=List.length_filter_le (fun i=>keep (l.getD i ⟨0,[],0⟩)) p;omega
  have hstep:pQ (.ptr s 0) (.fn cf []) x (.arr t 0 ids.length none) (.I ids.length) (.I p.length) m (pO (aD f104))=au (.bool (keep l[i])) ((bF none true 3 none 8 (m++[some (Ent.B [.I l[i].var,bM l[i],.I l[i].leaf])]) x (.lst none false .full [.I (val l[i])])).bind fun r15=>pQ (.ptr s 0) (.fn cf []) r15.1 (.arr t 0 ids.length none) (.I ids.length) (.I (p.length+1:Nat)) r15.2 (pO (aD f104))) (pQ (.ptr s 0) (.fn cf []) x (.arr t 0 ids.length none) (.I ids.length) (.I (p.length+1:Nat)) (m++[some (Ent.B [.I l[i].var,bM l[i],.I l[i].leaf])]) (pO (aD f104))):=by
   rw[FS,bS,O,az,ai hpl,hix,O,hld,O,iq,O,fJ,O,kG,O,hnx,O,ldv,O,show jj (.fn cf [])=some (cf,[]) from rfl,O,nD c1 c2 c3 c4,aW,hc,O,kq,O,kr,O,b6 Z,kX,O]
   rfl
  cases hk:keep l[i] with
  | true=>
   obtain ⟨x2,m2,ea,hx2,hlen,hg2⟩:=qb3 hx1 htl (by have:=f1.len;omega) (val l[i])
   have f2:Fr m0 m2 []:=⟨by have:=f1.len;omega,fun y hy _=>by
    have hl:=f1.len
    rw[hg2 y Z (fun t ht e=>by
     rcases hx1 with ⟨h1,_⟩|⟨t',h1,_,_,h4⟩
     .rw[h1] at ht;cases ht
     .rw[h1] at ht;cases ht;omega)]
    exact f1.get y hy aq⟩
   have het:iV val keep l (p++[i])=iV val keep l p++[val l[i]]:=by
    rw[MX,hgd,hk,ai rfl]
   obtain ⟨m',x',e,k1,k2⟩:=ih (p++[i]) m2 x2 (by rw[hpq,bE];rfl) f2 (by rw[het];exact hx2);refine ⟨m',x',?_,k1,k2⟩;rw[hp1] at e;rw[hstep,hk,gJ,ea,O];exact e
  | false=>
   have het:iV val keep l (p++[i])=iV val keep l p:=by
    rw[MX,hgd,hk,ag aq,aW]
   obtain ⟨m',x',e,k1,k2⟩:=ih (p++[i]) _ x (by rw[hpq,bE];rfl) f1 (by rw[het];exact hx1);refine ⟨m',x',?_,k1,k2⟩;rw[hp1] at e;rw[hstep,hk,cD];exact e
theorem NU{cf:Nat}{val:ND->Int}{keep:ND->Bool}(c1:((aa.lib cf).isNone&&(aa.libm cf).isNone)=true)(c2:aa.inl 104 cf=true)(c3:aa.thaw 104 cf=false)(c4:aa.frzc 104 cf=false)(hcf:∀(n:ND) m,AC aa cf [n.av] m=some (.tup [.I (val n),.bool (keep n)],m++[some (Ent.B [.I n.var,bM n,.I n.leaf])]))
  {m0:af} {ar:List Int} (h0:bB m0 s F arms most l) (hm:most≠0) (g:GoodL ar l) (hll:l.length<=100000) {id:Nat} (hid:id<l.length) :
  ∃m' y,AC aa 104 [.ptr s 0,.I id,.fn cf []] m0=some (.tup [y,.I 0],m')/\Fr m0 m' []/\q5 m0.length m' y (lR (iV val keep l (Vi l id []))):=by
 have e50:=oH h0 hm;have e56:=sg h0 id;rw[eT Z] at e56;obtain ⟨m1,x,T,e61,hgr,f1,_⟩:=AR h0 g hll hid;obtain ⟨cc1,cc2,_⟩:=kV g id hid [] lL;obtain ⟨t0,rfl,ht0⟩:=qaz g hid hgr;have hvl:=mA _ _ cc1.nd cc1.lt;have st1:=h0.app f1;obtain ⟨m2,x2,e,f2,hx2⟩:=WU c1 c2 c3 c4 hcf st1 (ids:=Vi l id []) cc1.lt Z ht0 (Vi l id []) [] m1 aw rfl (Fr.refl _ _) (.inl ⟨rfl,rfl⟩);have hlenx:aL false (.arr t0 0 (Vi l id []).length none)=some (.I (Vi l id []).length):=rfl;have f12:Fr m0 m2 []:=Fr.trans f1 f2 fun _ hh=>by cases hh
 have hl1:=f1.len;have hl2:=f2.len
 have e0:AC aa 104 [.ptr s 0,.I id,.fn cf []] m0=pO (aD f104) (.exit 0) (yp x2 m2):=by
  have e61:AC aa 65 [.ptr s 0,.I id] m0=some (.arr t0 0 (Vi l id []).length none,m1):=e61;rw[TX,e50,O,cD,e56,O,kO,O,hZ,cD,e61,O,hlenx,O];exact e
 rw[e0,Of];generalize hns:iV val keep l (Vi l id [])=ns at *
 have hnl:ns.length<=100000:=by
  rw[<- hns];unfold iV;rw[bA];have:=List.length_filter_le (fun i=>keep (l.getD i ⟨0,[],0⟩)) (Vi l id []);omega
 rcases hx2 with ⟨rfl,rfl⟩|⟨t,rfl,hpos,hg,htB⟩
 .exact ⟨m2,_,rfl,f12,.inl ⟨rfl,qdN⟩⟩
 .have htl:=bo hg;have ho:m2.obj? t=some (false,ns.map (AV.int .i64)):=by rw[mC,hg];rfl
  have es:rW [.arr t 0 ns.length none] m2=some (.tup [],m2.set t (some (.obj false ((jz ns).map (AV.int .i64))))):=by
   simp only[rW,ho,O];rw[ai ⟨trivial,trivial,hpos,aq,Z⟩,DE];rfl
  have hg2:af.get (m2.set t (some (.obj false ((jz ns).map (AV.int .i64))))) t=some (.obj false ((jz ns).map (AV.int .i64))):=b7 rfl htl;have ho2:af.obj? (m2.set t (some (.obj false ((jz ns).map (AV.int .i64))))) t=some (false,(jz ns).map (AV.int .i64)):=by rw[mC,hg2];rfl
  have hsl:=EU ns
  have ec:rk [.arr t 0 ns.length none] (m2.set t (some (.obj false ((jz ns).map (AV.int .i64)))))=some (.arr t 0 (lR ns).length none,m2.set t (some (.obj false ((lR ns++List.replicate ((jz ns).length-(lR ns).length) 0).map (AV.int .i64))))):=by
   simp only[rk,ho2,O];rw[ai ⟨trivial,trivial,hpos,by rw[bA,hsl],Z⟩,DE,aP,oU];rfl
  refine ⟨_,_,by rw[es,O,ec,O],⟨by rw[ff];exact f12.len,fun y hy _=>?_⟩,.inr ⟨t,List.replicate ((jz ns).length-(lR ns).length) 0,rfl,b7 rfl htl,Z⟩⟩;rw[bO Z];exact f12.get y hy aq
theorem NT{m0:af}{ar:List Int}(h0:bB m0 s F arms most l)(hm:most≠0)(g:GoodL ar l)(hll:l.length<=100000){id:Nat}(hid:id<l.length) :
  ∃m' y,AC aa 41 [.ptr s 0,.I id] m0=some (.tup [y,.I 0],m')/\Fr m0 m' []/\q5 m0.length m' y (lR (iV (fun n=>n.leaf) (fun n=>decide (n.var<0)) l (Vi l id []))):=by
 obtain ⟨m',y,e,h1,h2⟩:=NU (cf:=106) rfl rfl rfl rfl NW h0 hm g hll hid;exact ⟨m',y,by rw[U2,e,O,kq,O,kr,O],h1,h2⟩
end
end Go.Ab
namespace Go.Ab
noncomputable section
variable (a0 a1 x0 x1 x3 x4 x5 x6 x7 x8 x9 x10 x11 x12 x13 x14 x16 x17 x18 x19 x21 x22 x23 x24 x25 x26 x28 x29 x30 x158 x159 x235 x236 x281 x282:AV) (m:af) (K:KT)
open Go.Proofs.Tryz
def BS:St:=⟨(aJ (aG (x5::bc (aG [])))),m⟩
def xi:OM:=bD 127 (bI (c2 (c2 (c2 (aA f127))))) 4 (aG (x1::aH (aG (x5::aO (aJ (aH (aG (x21::x22::x23::bm (aO (aJ (aH (aG [])))))))))))) m K
def BT:St:=⟨(aG (x1::aH (aG (x5::x6::aG (x8::aO (aJ (x21::x22::x23::bm (aO (aJ (aH (aG []))))))))))),m⟩
def xj:OM:=bD 127 (bI (jf (jf (kZ (c2 (aA f127)))))) 8 (aG (x1::aH (aG (x5::x6::x7::x8::aO (aJ (x21::x22::x23::aJ (x28::x29::x30::bm (aO [])))))))) m K
abbrev OZ:KT:=bi 127 (aV (aA f127)) K
abbrev O0:KT:=be 0 (OZ K)
abbrev A4:KT:=(O0 K)
abbrev O2:KT:=bi 127 (js (kn (c2 (c2 (aA f127))))) (kI 127 (bI (c2 (c2 (c2 (aA f127))))) 4 K)
abbrev O3:KT:=be 1 (O2 K)
abbrev O4:KT:=bi 127 (js (s9 (kn (c2 (c2 (aA f127)))))) (O3 K)
abbrev O5:KT:=be 2 (O4 K)
abbrev A5:KT:=(O5 K)
theorem Ug:AC aa 127 [a0,a1] m=(aF (AP aa) none m 164 [a0]).bind fun r1=>(aF (AP aa) none r1.2 164 [a1]).bind fun r2=>(aL false r1.1).bind fun v3=>(aL false r2.1).bind fun v4=>(ae .o .add v3 v4).bind fun v5=>(fU none 161 none (.int .u32 0) 4 r2.2 v5 v5).bind fun r6=>(aL false r1.1).bind fun v7=>xi r2.1 r6.1 r1.1 v7 (.I 0) r6.2 (A4 (aD f127)):=
(aZ aa 127 [a0,a1] m (fn:=f127) (c:=aA f127) XC rfl).trans aj
theorem F4:xi x1 x5 x21 x22 x23 m K=(ae .o .lss x23 x22).bind fun v1=>au v1 ((aE none x21 x23).bind fun v2=>(am none m v2).bind fun v3=>(aL false x1).bind fun v4=>xj x1 x5 x23 v3 (.U 0) x21 x22 x23 x1 v4 (.I 0) m (A5 K)) (K (.exit 0) (BS x5 m)):=
(bC (bw _) _ _ _).trans aj
theorem F5:xj x1 x5 x6 x7 x8 x21 x22 x23 x28 x29 x30 m K=(ae .o .lss x30 x29).bind fun v1=>au v1 ((aE none x28 x30).bind fun v2=>(am none m v2).bind fun v3=>(ae .o .add x6 x30).bind fun v4=>(aE none x5 v4).bind fun v5=>(am none m v5).bind fun v6=>(ba .u64 v6).bind fun v7=>(ba .u64 x7).bind fun v8=>(ba .u64 v3).bind fun v9=>(ae .o .mul v8 v9).bind fun v10=>(ae .o .add v7 v10).bind fun v11=>(ae .o .add x8 v11).bind fun v12=>(ae .o .add x6 x30).bind fun v13=>(ba .u32 v12).bind fun v14=>(aE none x5 v13).bind fun v15=>(aM none m v15 v14).bind fun m16=>(ae .o .shr v12 (.U 32)).bind fun v17=>(ae .o .add x30 (.I 1)).bind fun v18=>xj x1 x5 x6 x7 v17 x21 x22 x23 x28 x29 v18 m16 K) (K (.exit 2) (BT x1 x5 x6 x8 x21 x22 x23 m)):=
(bC (bw _) _ _ _).trans aj
theorem O1:A4 (aD f127) (.exit 0) (BS x5 m)=(aF (AP aa) none m 164 [x5]).bind fun r1=>some (r1.1,r1.2):=aj
theorem O6:A5 K (.exit 2) (BT x1 x5 x6 x8 x21 x22 x23 m)=(aL false x1).bind fun v1=>(ae .o .add x6 v1).bind fun v2=>(ba .u32 x8).bind fun v3=>(aE none x5 v2).bind fun v4=>(aM none m v4 v3).bind fun m5=>(ae .o .add x23 (.I 1)).bind fun v6=>xi x1 x5 x21 x22 v6 m5 K:=aj
def yr:St:=⟨(aJ (aG (x5::x6::bm (bh (aJ (aG [])))))),m⟩
def su:OM:=bD 130 (bI (aV (c2 (aA f130)))) 7 (aG (x1::aH (aG (x5::x6::bh (aG (x24::x25::x26::bm (aG []))))))) m K
abbrev Pb:KT:=bi 130 (aV (c2 (c2 (aA f130)))) K
abbrev Pc:KT:=be 0 (Pb K)
abbrev so:KT:=(Pc K)
theorem Ul:AC aa 130 [a0,a1] m=(aF (AP aa) none m 164 [a0]).bind fun r1=>(aF (AP aa) none r1.2 164 [a1]).bind fun r2=>(aL false r1.1).bind fun v3=>(aL false r2.1).bind fun v4=>(ae .o .lss v3 v4).bind fun v5=>au v5 ((aL false r2.1).bind fun v6=>(ae .o .add v6 (.I 1)).bind fun v7=>(fU none 161 none (.int .u32 0) 4 r2.2 (.I 0) v7).bind fun r8=>(aL false r2.1).bind fun v9=>su r1.1 r8.1 (.U 0) r2.1 v9 (.I 0) r8.2 (so (aD f130))) ((aL false r1.1).bind fun v10=>(ae .o .add v10 (.I 1)).bind fun v11=>(fU none 161 none (.int .u32 0) 4 r2.2 (.I 0) v11).bind fun r12=>(aL false r1.1).bind fun v13=>su r2.1 r12.1 (.U 0) r1.1 v13 (.I 0) r12.2 (so (aD f130))):=
(aZ aa 130 [a0,a1] m (fn:=f130) (c:=aA f130) XG rfl).trans aj
theorem F9:su x1 x5 x6 x24 x25 x26 m K=(ae .o .lss x26 x25).bind fun v1=>au v1 ((aE none x24 x26).bind fun v2=>(am none m v2).bind fun v3=>(ba .u64 v3).bind fun v4=>(ae .o .add x6 v4).bind fun v5=>(aL false x1).bind fun v6=>(ae .o .lss x26 v6).bind fun v7=>au v7 ((aE none x1 x26).bind fun v8=>(am none m v8).bind fun v9=>(ba .u64 v9).bind fun v10=>(ae .o .add v5 v10).bind fun v11=>(ba .u32 v11).bind fun v12=>(cq none [v12]).bind fun v13=>(bF none false 161 none 4 m x5 v13).bind fun r14=>(ae .o .shr v11 (.U 32)).bind fun v15=>(ae .o .add x26 (.I 1)).bind fun v16=>su x1 r14.1 v15 x24 x25 v16 r14.2 K) ((ba .u32 v5).bind fun v17=>(cq none [v17]).bind fun v18=>(bF none false 161 none 4 m x5 v18).bind fun r19=>(ae .o .shr v5 (.U 32)).bind fun v20=>(ae .o .add x26 (.I 1)).bind fun v21=>su x1 r19.1 v20 x24 x25 v21 r19.2 K)) (K (.exit 0) (yr x5 x6 m)):=
(bC (bw _) _ _ _).trans aj
theorem Pd:so (aD f130) (.exit 0) (yr x5 x6 m)=(ba .u32 x6).bind fun v1=>(cq none [v1]).bind fun v2=>(bF none false 161 none 4 m x5 v2).bind fun r3=>(aF (AP aa) none r3.2 164 [r3.1]).bind fun r4=>some (r4.1,r4.2):=aj
def BU:St:=⟨(bm (bh (aG []))),m⟩
def yC:St:=⟨(aJ (x4::bm (aO (aJ [])))),m⟩
def xn:OM:=bD 131 (bI (c2 (c2 (c2 (aA f131))))) 7 (x0::x1::aH (aG (x5::bm (aO (aH (aG [])))))) m K
abbrev Pe:KT:=bi 131 (aV (aA f131)) K
abbrev Pf:KT:=be 1 (Pe K)
abbrev wL:KT:=(Pf K)
theorem Un:AC aa 131 [a0,a1] m=(aF (AP aa) none m 164 [a0]).bind fun r1=>(aF (AP aa) none r1.2 164 [a1]).bind fun r2=>(aL false r1.1).bind fun v3=>(aL false r2.1).bind fun v4=>(ae .o .lss v3 v4).bind fun v5=>au v5 (some ((.I (-1)),r2.2)) ((aL false r1.1).bind fun v6=>(aL false r2.1).bind fun v7=>(ae .o .gtr v6 v7).bind fun v8=>au v8 (some ((.I 1),r2.2)) ((aL false r1.1).bind fun v9=>(ae .o .sub v9 (.I 1)).bind fun v10=>xn r1.1 r2.1 v10 r2.2 (wL (aD f131)))):=
(aZ aa 131 [a0,a1] m (fn:=f131) (c:=aA f131) XH rfl).trans aj
theorem Ga:xn x0 x1 x5 m K=(ae .o .geq x5 (.I 0)).bind fun v1=>au v1 ((aE none x0 x5).bind fun v2=>(am none m v2).bind fun v3=>(aE none x1 x5).bind fun v4=>(am none m v4).bind fun v5=>(ae .o .lss v3 v5).bind fun v6=>au v6 (K .ret (yC (.I (-1)) m)) ((aE none x0 x5).bind fun v7=>(am none m v7).bind fun v8=>(aE none x1 x5).bind fun v9=>(am none m v9).bind fun v10=>(ae .o .gtr v8 v10).bind fun v11=>au v11 (K .ret (yC (.I 1) m)) ((ae .o .sub x5 (.I 1)).bind fun v12=>xn x0 x1 v12 m K))) (K (.exit 1) (BU m)):=
(bC (bw _) _ _ _).trans aj
theorem Ph:wL (aD f131) (.exit 1) (BU  m)=some ((.I 0),m):=aj
theorem Pg:wL (aD f131) .ret (yC x4 m)=some (x4,m):=aj
def BV:St:=⟨(aJ (aH (x6::bm (bh (aJ []))))),m⟩
def qS:OM:=bD 132 (bI (aV (c2 (aA f132)))) 7 (aG (x1::aJ (x6::x7::aO (aJ (aH (x22::x23::x24::bm (aH []))))))) m K
abbrev Pi:KT:=bi 132 (aV (c2 (c2 (aA f132)))) K
abbrev Pj:KT:=be 0 (Pi K)
abbrev A6:KT:=(Pj K)
theorem H2:AC aa 132 [a0,a1] m=(aF (AP aa) none m 131 [a0,a1]).bind fun r1=>(ae .o .lss r1.1 (.I 0)).bind fun v2=>au v2 (some ((.tup [aw,(.I 1)]),r1.2)) ((aF (AP aa) none r1.2 164 [a0]).bind fun r3=>(aF (AP aa) none r3.2 164 [a1]).bind fun r4=>(aL false r3.1).bind fun v5=>(fU none 161 none (.int .u32 0) 4 r4.2 v5 v5).bind fun r6=>(aL false r3.1).bind fun v7=>qS r4.1 r6.1 (.U 0) r3.1 v7 (.I 0) r6.2 (A6 (aD f132))):=
(aZ aa 132 [a0,a1] m (fn:=f132) (c:=aA f132) XI rfl).trans aj
theorem Gb:qS x1 x6 x7 x22 x23 x24 m K=(ae .o .lss x24 x23).bind fun v1=>au v1 ((aE none x22 x24).bind fun v2=>(am none m v2).bind fun v3=>(aL false x1).bind fun v4=>(ae .o .lss x24 v4).bind fun v5=>au v5 ((aE none x1 x24).bind fun v6=>(am none m v6).bind fun v7=>(ba .u64 v7).bind fun v8=>(ae .o .add x7 v8).bind fun v9=>(ba .u64 v3).bind fun v10=>(ae .o .lss v10 v9).bind fun v11=>au v11 ((ba .u64 v3).bind fun v12=>(ae .o .shl (.U 1) (.U 32)).bind fun v13=>(ae .o .add v12 v13).bind fun v14=>(ae .o .sub v14 v9).bind fun v15=>(ba .u32 v15).bind fun v16=>(aE none x6 x24).bind fun v17=>(aM none m v17 v16).bind fun m18=>(ae .o .add x24 (.I 1)).bind fun v19=>qS x1 x6 (.U 1) x22 x23 v19 m18 K) ((ba .u64 v3).bind fun v20=>(ae .o .shl (.U 0) (.U 32)).bind fun v21=>(ae .o .add v20 v21).bind fun v22=>(ae .o .sub v22 v9).bind fun v23=>(ba .u32 v23).bind fun v24=>(aE none x6 x24).bind fun v25=>(aM none m v25 v24).bind fun m26=>(ae .o .add x24 (.I 1)).bind fun v27=>qS x1 x6 (.U 0) x22 x23 v27 m26 K)) ((ba .u64 v3).bind fun v28=>(ae .o .lss v28 x7).bind fun v29=>au v29 ((ba .u64 v3).bind fun v30=>(ae .o .shl (.U 1) (.U 32)).bind fun v31=>(ae .o .add v30 v31).bind fun v32=>(ae .o .sub v32 x7).bind fun v33=>(ba .u32 v33).bind fun v34=>(aE none x6 x24).bind fun v35=>(aM none m v35 v34).bind fun m36=>(ae .o .add x24 (.I 1)).bind fun v37=>qS x1 x6 (.U 1) x22 x23 v37 m36 K) ((ba .u64 v3).bind fun v38=>(ae .o .shl (.U 0) (.U 32)).bind fun v39=>(ae .o .add v38 v39).bind fun v40=>(ae .o .sub v40 x7).bind fun v41=>(ba .u32 v41).bind fun v42=>(aE none x6 x24).bind fun v43=>(aM none m v43 v42).bind fun m44=>(ae .o .add x24 (.I 1)).bind fun v45=>qS x1 x6 (.U 0) x22 x23 v45 m44 K))) (K (.exit 0) (BV x6 m)):=
(bC (bw _) _ _ _).trans aj
theorem Pk:A6 (aD f132) (.exit 0) (BV x6 m)=(aF (AP aa) none m 164 [x6]).bind fun r1=>some ((.tup [r1.1,(.I 0)]),r1.2):=aj
theorem Ue:AC aa 123 [a0] m=(ba .u32 a0).bind fun v1=>(ae .o .shr a0 (.U 32)).bind fun v2=>(ba .u32 v2).bind fun v3=>(cq none [v1,v3]).bind fun v4=>(aF (AP aa) none m 164 [v4]).bind fun r5=>(aF (AP aa) none r5.2 163 [r5.1]).bind fun r6=>some (r6.1,r6.2):=
(aZ aa 123 [a0] m (fn:=f123) (c:=aA f123) Xy rfl).trans aj
def B6:St:=⟨(x0::bh (aO (aG []))),m⟩
def xH:OM:=bD 183 (jS (c2 (aA f183))) 2 (x0::x1::bh (aO [])) m K
abbrev QG:KT:=bi 183 (c2 (c2 (c2 (aA f183)))) K
abbrev QH:KT:=be 0 (QG K)
abbrev Bi:KT:=(QH K)
theorem UL:AC aa 183 [a0,a1] m=(aF (AP aa) none m 164 [a0]).bind fun r1=>(aF (AP aa) none r1.2 164 [a1]).bind fun r2=>xH r1.1 r2.1 r2.2 (Bi (aD f183)):=
(aZ aa 183 [a0,a1] m (fn:=f183) (c:=aA f183) Yh rfl).trans aj
theorem TD:xH x0 x1 m K=(aL false x1).bind fun v1=>(ae .o .gtr v1 (.I 0)).bind fun v2=>au v2 ((aF (AP aa) none m 187 [x0,x1]).bind fun r3=>(aT r3.1 0).bind fun v4=>(aT r3.1 1).bind fun v5=>(aT r3.1 2).bind fun v6=>xH x1 v5 r3.2 K) (K (.exit 0) (B6 x0 m)):=
(bC (bw _) _ _ _).trans aj
theorem QI:Bi (aD f183) (.exit 0) (B6 x0 m)=(aF (AP aa) none m 163 [x0]).bind fun r1=>some (r1.1,r1.2):=aj
def yu:St:=⟨(x0::aH (x3::bh (aG []))),m⟩
def xB:OM:=bD 164 (jS (c2 (aA f164))) 2 (x0::aH (x3::bh (aG []))) m K
abbrev PS:KT:=bi 164 (c2 (c2 (c2 (aA f164)))) K
abbrev PT:KT:=be 0 (PS K)
abbrev Ba:KT:=(PT K)
theorem UC:AC aa 164 [a0] m=(aL false a0).bind fun v1=>xB a0 v1 m (Ba (aD f164)):=
(aZ aa 164 [a0] m (fn:=f164) (c:=aA f164) X5 rfl).trans aj
theorem Gk:xB x0 x3 m K=(ae .o .gtr x3 (.I 0)).bind fun v1=>au v1 ((ae .o .sub x3 (.I 1)).bind fun v2=>(aE none x0 v2).bind fun v3=>(am none m v3).bind fun v4=>(ae .o .eql v4 (.int .u32 0)).bind fun v5=>au v5 ((ae .o .sub x3 (.I 1)).bind fun v6=>xB x0 v6 m K) (K (.exit 0) (yu x0 x3 m))) (K (.exit 0) (yu x0 x3 m)):=
(bC (bw _) _ _ _).trans aj
theorem PU:Ba (aD f164) (.exit 0) (yu x0 x3 m)=(jZ none x0 none (some x3) none).bind fun v1=>some (v1,m):=aj
theorem CA:AC aa 163 [a0] m=(ae .sl .eql a0 aw).bind fun v1=>au v1 (some (aw,m)) ((cq none []).bind fun v2=>(bF none false 161 none 4 m v2 a0).bind fun r3=>some (r3.1,r3.2)):=
(aZ aa 163 [a0] m (fn:=f163) (c:=aA f163) X4 rfl).trans aj
def B7:St:=⟨(aO (aG (x9::x10::aG (x12::x13::bc (bc (bc (bc (bm (aO (aJ (aG []))))))))))),m⟩
def uu:OM:=bD 187 (bI (aV (c2 (c2 (c2 (aA f187)))))) 14 (aO (aG (x9::x10::x11::x12::x13::x14::bc (bc (bc (bc (bm (aO (aJ []))))))))) m K
def qY:St:=⟨(aO (aG (x9::x10::x11::x12::x13::x14::aG (x16::bc (bc (bc (bc (bm (aO (aH [])))))))))),m⟩
def sC:OM:=bD 187 (jS (qg (bI (aV (c2 (c2 (c2 (aA f187)))))))) 18 (aO (aG (x9::x10::x11::x12::x13::x14::aG (x16::x17::bc (bc (bc (bc (bm (aO (aG [])))))))))) m K
def B8:St:=⟨(aO (aG (x9::x10::x11::x12::x13::x14::aG (x16::aG (x18::x19::bc (bc (bc (bc (bm (aJ (aH (aG [])))))))))))),m⟩
def uv:OM:=bD 187 (bI (aV (bI (kn (aV (c2 (c2 (aA f187)))))))) 24 (aO (aG (x9::x10::x11::x12::x13::x14::aG (x16::aG (x18::x19::bc (bc (aO (aH (x158::x159::bc (bc (bh (aO (aH (aG [])))))))))))))) m K
def B9:St:=⟨(aO (aG (x9::x10::x11::x12::x13::x14::aG (x16::aH (x19::bc (bc (bc (bc (bm (aJ (aH (aG [])))))))))))),m⟩
def xI:OM:=bD 187 (bI (C2 (vq (aV (qg (bI (aV (c2 (c2 (c2 (aA f187))))))))))) 41 (aO (aG (x9::x10::x11::x12::x13::x14::aG (x16::aH (x19::bc (bc (bc (bh (aJ (aH (aG (x235::x236::bc (aO (aJ (aH []))))))))))))))) m K
def Ca:St:=⟨(aO (aJ (aG (x13::aO (aH (aG (x25::bc (bc (bc (bc (bm (aG [])))))))))))),m⟩
def uw:OM:=bD 187 (bI (aV (aV (c2 (aA f187))))) 51 (aO (aG (x9::x10::aH (x13::aO (aH (aG (x25::bc (bc (bc (bm (bh (aO (aJ (aH (aG (x281::x282::bm [])))))))))))))))) m K
abbrev QM:KT:=bi 187 (aV (aV (aA f187))) K
abbrev QN:KT:=be 1 (QM K)
abbrev Bk:KT:=(QN K)
abbrev QP:KT:=bi 187 (jf (kZ (aV (c2 (aA f187))))) (kI 187 (bI (aV (c2 (c2 (c2 (aA f187)))))) 14 K)
abbrev QQ:KT:=be 2 (QP K)
abbrev QS:KT:=bi 187 (js (zb (kZ (aV (c2 (aA f187)))))) (QQ K)
abbrev QT:KT:=be 3 (QS K)
abbrev Bl:KT:=(QT K)
abbrev Q6:KT:=bi 187 (aV (aV (c2 (c2 (aA f187))))) K
abbrev Q7:KT:=be 9 (Q6 K)
abbrev Bo:KT:=(Q7 K)
abbrev QV:KT:=bi 187 (jf (kZ (aV (c2 (aA f187))))) (kI 187 (bI (aV (c2 (c2 (c2 (aA f187)))))) 14 K)
abbrev QW:KT:=be 2 (QV K)
abbrev QX:KT:=bi 187 (aV (qg (bI (aV (c2 (c2 (c2 (aA f187)))))))) (QW K)
abbrev QY:KT:=be 5 (QX K)
abbrev Bm:KT:=(QY K)
abbrev Q0:KT:=bi 187 (jf (kZ (aV (c2 (aA f187))))) (kI 187 (bI (aV (c2 (c2 (c2 (aA f187)))))) 14 K)
abbrev Q1:KT:=be 2 (Q0 K)
abbrev Q2:KT:=bi 187 (aV (aV (qg (bI (aV (c2 (c2 (c2 (aA f187))))))))) (Q1 K)
abbrev Q3:KT:=bi 187 (js (kZ (aV (jf (qg (vq (aV (aA f187)))))))) (Q2 K)
abbrev Q4:KT:=be 7 (Q3 K)
abbrev Bn:KT:=(Q4 K)
theorem yJ:AC aa 187 [a0,a1] m=(aF (AP aa) none m 164 [a0]).bind fun r1=>(aF (AP aa) none r1.2 164 [a1]).bind fun r2=>(aL false r2.1).bind fun v3=>(ae .o .eql v3 (.I 0)).bind fun v4=>au v4 (some ((.tup [aw,aw,(.I 31)]),r2.2)) ((aF (AP aa) none r2.2 131 [r1.1,r2.1]).bind fun r5=>(ae .o .lss r5.1 (.I 0)).bind fun v6=>au v6 ((aF (AP aa) none r5.2 163 [r1.1]).bind fun r7=>some ((.tup [aw,r7.1,(.I 0)]),r7.2)) ((aL false r2.1).bind fun v8=>(ae .o .eql v8 (.I 1)).bind fun v9=>au v9 ((aE none r2.1 (.I 0)).bind fun v10=>(am none r5.2 v10).bind fun v11=>(aF (AP aa) none r5.2 202 [r1.1,v11]).bind fun r12=>(aT r12.1 0).bind fun v13=>(aT r12.1 1).bind fun v14=>(ba .u64 v14).bind fun v15=>(aF (AP aa) none r12.2 123 [v15]).bind fun r16=>some ((.tup [v13,r16.1,(.I 0)]),r16.2)) ((aL false r2.1).bind fun v17=>(ae .o .sub v17 (.I 1)).bind fun v18=>(aE none r2.1 v18).bind fun v19=>(am none r5.2 v19).bind fun v20=>(aF (AP aa) none r5.2 203 [v20]).bind fun r21=>(ba .u64 r21.1).bind fun v22=>(AC aa 204 [r1.1,v22] r21.2).bind fun r23=>(AC aa 204 [r2.1,v22] r23.2).bind fun r24=>(aF (AP aa) none r24.2 164 [r24.1]).bind fun r25=>(aL false r25.1).bind fun v26=>(aL false r23.1).bind fun v27=>(ae .o .sub v27 v26).bind fun v28=>(fU none 161 none (.int .u32 0) 4 r25.2 v28 v28).bind fun r29=>(aL false r23.1).bind fun v30=>(ae .o .sub v30 v26).bind fun v31=>(ae .o .sub v31 (.I 1)).bind fun v32=>uu v22 r23.1 r25.1 v26 r29.1 v32 r29.2 (Bk (aD f187))))):=
(aZ aa 187 [a0,a1] m (fn:=f187) (c:=aA f187) Yj rfl).trans aj
theorem Gy:uu x9 x10 x11 x12 x13 x14 m K=(ae .o .geq x14 (.I 0)).bind fun v1=>au v1 ((ae .o .add x14 x12).bind fun v2=>(aE none x10 v2).bind fun v3=>(am none m v3).bind fun v4=>(ba .u64 v4).bind fun v5=>(ae .o .shl v5 (.U 32)).bind fun v6=>(ae .o .add x14 x12).bind fun v7=>(ae .o .sub v7 (.I 1)).bind fun v8=>(aE none x10 v8).bind fun v9=>(am none m v9).bind fun v10=>(ba .u64 v10).bind fun v11=>(ae .o .or v6 v11).bind fun v12=>(ae .o .sub x12 (.I 1)).bind fun v13=>(aE none x11 v13).bind fun v14=>(am none m v14).bind fun v15=>(ba .u64 v15).bind fun v16=>(ae .o .quo v12 v16).bind fun v17=>(ae .o .sub x12 (.I 1)).bind fun v18=>(aE none x11 v18).bind fun v19=>(am none m v19).bind fun v20=>(ba .u64 v20).bind fun v21=>(ae .o .rem v12 v21).bind fun v22=>sC x9 x10 x11 x12 x13 x14 v17 v22 m (Bl K)) (K (.exit 1) (B7 x9 x10 x12 x13 m)):=
(bC (bw _) _ _ _).trans aj
theorem TE:sC x9 x10 x11 x12 x13 x14 x16 x17 m K=(ae .o .geq x16 (.U 4294967296)).bind fun v1=>au v1 ((ae .o .sub x16 (.U 1)).bind fun v2=>(ae .o .sub x12 (.I 1)).bind fun v3=>(aE none x11 v3).bind fun v4=>(am none m v4).bind fun v5=>(ba .u64 v5).bind fun v6=>(ae .o .add x17 v6).bind fun v7=>(ae .o .geq v7 (.U 4294967296)).bind fun v8=>au v8 (K (.exit 3) (qY x9 x10 x11 x12 x13 x14 v2 m)) (sC x9 x10 x11 x12 x13 x14 v2 v7 m K)) ((ae .o .sub x12 (.I 2)).bind fun v9=>(aE none x11 v9).bind fun v10=>(am none m v10).bind fun v11=>(ba .u64 v11).bind fun v12=>(ae .o .mul x16 v12).bind fun v13=>(ae .o .shl x17 (.U 32)).bind fun v14=>(ae .o .add x14 x12).bind fun v15=>(ae .o .sub v15 (.I 2)).bind fun v16=>(aE none x10 v16).bind fun v17=>(am none m v17).bind fun v18=>(ba .u64 v18).bind fun v19=>(ae .o .or v14 v19).bind fun v20=>(ae .o .gtr v13 v20).bind fun v21=>au v21 ((ae .o .sub x16 (.U 1)).bind fun v22=>(ae .o .sub x12 (.I 1)).bind fun v23=>(aE none x11 v23).bind fun v24=>(am none m v24).bind fun v25=>(ba .u64 v25).bind fun v26=>(ae .o .add x17 v26).bind fun v27=>(ae .o .geq v27 (.U 4294967296)).bind fun v28=>au v28 (K (.exit 3) (qY x9 x10 x11 x12 x13 x14 v22 m)) (sC x9 x10 x11 x12 x13 x14 v22 v27 m K)) (K (.exit 3) (qY x9 x10 x11 x12 x13 x14 x16 m))):=
(bC (bw _) _ _ _).trans aj
theorem Gz:uv x9 x10 x11 x12 x13 x14 x16 x18 x19 x158 x159 m K=(ae .o .lss x159 x158).bind fun v1=>au v1 ((aE none x11 x159).bind fun v2=>(am none m v2).bind fun v3=>(ba .u64 v3).bind fun v4=>(ae .o .mul x16 v4).bind fun v5=>(ae .o .add x19 v5).bind fun v6=>(ae .o .and v6 (.U 4294967295)).bind fun v7=>(ae .o .add v7 x18).bind fun v8=>(ae .o .add x159 x14).bind fun v9=>(aE none x10 v9).bind fun v10=>(am none m v10).bind fun v11=>(ba .u64 v11).bind fun v12=>(ae .o .lss v12 v8).bind fun v13=>au v13 ((ae .o .add x159 x14).bind fun v14=>(ae .o .add x159 x14).bind fun v15=>(aE none x10 v15).bind fun v16=>(am none m v16).bind fun v17=>(ba .u64 v17).bind fun v18=>(ae .o .shl (.U 1) (.U 32)).bind fun v19=>(ae .o .add v18 v19).bind fun v20=>(ae .o .sub v20 v8).bind fun v21=>(ba .u32 v21).bind fun v22=>(aE none x10 v14).bind fun v23=>(aM none m v23 v22).bind fun m24=>(ae .o .shr v6 (.U 32)).bind fun v25=>(ae .o .add x159 (.I 1)).bind fun v26=>uv x9 x10 x11 x12 x13 x14 x16 (.U 1) v25 x158 v26 m24 K) ((ae .o .add x159 x14).bind fun v27=>(ae .o .add x159 x14).bind fun v28=>(aE none x10 v28).bind fun v29=>(am none m v29).bind fun v30=>(ba .u64 v30).bind fun v31=>(ae .o .shl (.U 0) (.U 32)).bind fun v32=>(ae .o .add v31 v32).bind fun v33=>(ae .o .sub v33 v8).bind fun v34=>(ba .u32 v34).bind fun v35=>(aE none x10 v27).bind fun v36=>(aM none m v36 v35).bind fun m37=>(ae .o .shr v6 (.U 32)).bind fun v38=>(ae .o .add x159 (.I 1)).bind fun v39=>uv x9 x10 x11 x12 x13 x14 x16 (.U 0) v38 x158 v39 m37 K)) (K (.exit 5) (B8 x9 x10 x11 x12 x13 x14 x16 x18 x19 m)):=
(bC (bw _) _ _ _).trans aj
theorem GB:xI x9 x10 x11 x12 x13 x14 x16 x19 x235 x236 m K=(ae .o .lss x236 x235).bind fun v1=>au v1 ((ae .o .add x236 x14).bind fun v2=>(aE none x10 v2).bind fun v3=>(am none m v3).bind fun v4=>(ba .u64 v4).bind fun v5=>(aE none x11 x236).bind fun v6=>(am none m v6).bind fun v7=>(ba .u64 v7).bind fun v8=>(ae .o .add v5 v8).bind fun v9=>(ae .o .add x19 v9).bind fun v10=>(ae .o .add x236 x14).bind fun v11=>(ba .u32 v10).bind fun v12=>(aE none x10 v11).bind fun v13=>(aM none m v13 v12).bind fun m14=>(ae .o .shr v10 (.U 32)).bind fun v15=>(ae .o .add x236 (.I 1)).bind fun v16=>xI x9 x10 x11 x12 x13 x14 x16 v15 x235 v16 m14 K) (K (.exit 7) (B9 x9 x10 x11 x12 x13 x14 x16 x19 m)):=
(bC (bw _) _ _ _).trans aj
theorem GC:uw x9 x10 x13 x25 x281 x282 m K=(ae .o .lss x282 x281).bind fun v1=>au v1 ((aE none x10 x282).bind fun v2=>(am none m v2).bind fun v3=>(ae .o .shr v3 x9).bind fun v4=>(aE none x25 x282).bind fun v5=>(aM none m v5 v4).bind fun m6=>(ae .o .gtr x9 (.U 0)).bind fun v7=>au v7 ((aE none x25 x282).bind fun v8=>(am none m6 v8).bind fun v9=>(ae .o .add x282 (.I 1)).bind fun v10=>(aE none x10 v10).bind fun v11=>(am none m6 v11).bind fun v12=>(ae .o .sub (.U 32) x9).bind fun v13=>(ae .o .shl v12 v13).bind fun v14=>(ae .o .or v9 v14).bind fun v15=>(aE none x25 x282).bind fun v16=>(aM none m6 v16 v15).bind fun m17=>(ae .o .add x282 (.I 1)).bind fun v18=>uw x9 x10 x13 x25 x281 v18 m17 K) ((ae .o .add x282 (.I 1)).bind fun v19=>uw x9 x10 x13 x25 x281 v19 m6 K)) (K (.exit 9) (Ca x13 x25 m)):=
(bC (bw _) _ _ _).trans aj
theorem QO:Bk (aD f187) (.exit 1) (B7 x9 x10 x12 x13 m)=(fU none 161 none (.int .u32 0) 4 m x12 x12).bind fun r1=>uw x9 x10 x13 r1.1 x12 (.I 0) r1.2 (Bo (aD f187)):=aj
theorem QU:Bl K (.exit 3) (qY x9 x10 x11 x12 x13 x14 x16 m)=uv x9 x10 x11 x12 x13 x14 x16 (.U 0) (.U 0) x12 (.I 0) m (Bm K):=aj
theorem Q8:Bo (aD f187) (.exit 9) (Ca x13 x25 m)=(aF (AP aa) none m 164 [x13]).bind fun r1=>(aF (AP aa) none r1.2 164 [x25]).bind fun r2=>some ((.tup [r1.1,r2.1,(.I 0)]),r2.2):=aj
theorem QZ:Bm K (.exit 5) (B8 x9 x10 x11 x12 x13 x14 x16 x18 x19 m)=(ae .o .add x19 x18).bind fun v1=>(ae .o .add x14 x12).bind fun v2=>(aE none x10 v2).bind fun v3=>(am none m v3).bind fun v4=>(ba .u64 v4).bind fun v5=>(ae .o .lss v5 v1).bind fun v6=>(ae .o .add x14 x12).bind fun v7=>(ae .o .add x14 x12).bind fun v8=>(aE none x10 v8).bind fun v9=>(am none m v9).bind fun v10=>(ba .u64 v10).bind fun v11=>(ae .o .sub v11 v1).bind fun v12=>(ba .u32 v12).bind fun v13=>(aE none x10 v7).bind fun v14=>(aM none m v14 v13).bind fun m15=>au v6 ((ae .o .sub x16 (.U 1)).bind fun v16=>xI x9 x10 x11 x12 x13 x14 v16 (.U 0) x12 (.I 0) m15 (Bn K)) ((ba .u32 x16).bind fun v17=>(aE none x13 x14).bind fun v18=>(aM none m15 v18 v17).bind fun m19=>(ae .o .sub x14 (.I 1)).bind fun v20=>uu x9 x10 x11 x12 x13 v20 m19 K):=aj
theorem Q5:Bn K (.exit 7) (B9 x9 x10 x11 x12 x13 x14 x16 x19 m)=(ae .o .add x14 x12).bind fun v1=>(aE none x10 v1).bind fun v2=>(am none m v2).bind fun v3=>(ba .u32 x19).bind fun v4=>(ae .o .add v3 v4).bind fun v5=>(aE none x10 v1).bind fun v6=>(aM none m v6 v5).bind fun m7=>(ba .u32 x16).bind fun v8=>(aE none x13 x14).bind fun v9=>(aM none m7 v9 v8).bind fun m10=>(ae .o .sub x14 (.I 1)).bind fun v11=>uu x9 x10 x11 x12 x13 v11 m10 K:=aj
def Cd:St:=⟨(aJ (aH (x6::x7::bm (aH (aG []))))),m⟩
def xM:OM:=bD 202 (bI (c2 (c2 (c2 (aA f202))))) 4 (x0::x1::aJ (x6::x7::x8::bm (aH []))) m K
abbrev Rm:KT:=bi 202 (aV (aA f202)) K
abbrev Rn:KT:=be 0 (Rm K)
abbrev Br:KT:=(Rn K)
theorem UR:AC aa 202 [a0,a1] m=(aL false a0).bind fun v1=>(fU none 161 none (.int .u32 0) 4 m v1 v1).bind fun r2=>(aL false a0).bind fun v3=>(ae .o .sub v3 (.I 1)).bind fun v4=>xM a0 a1 r2.1 (.U 0) v4 r2.2 (Br (aD f202)):=
(aZ aa 202 [a0,a1] m (fn:=f202) (c:=aA f202) Yn rfl).trans aj
theorem GG:xM x0 x1 x6 x7 x8 m K=(ae .o .geq x8 (.I 0)).bind fun v1=>au v1 ((ae .o .shl x7 (.U 32)).bind fun v2=>(aE none x0 x8).bind fun v3=>(am none m v3).bind fun v4=>(ba .u64 v4).bind fun v5=>(ae .o .or v2 v5).bind fun v6=>(ba .u64 x1).bind fun v7=>(ae .o .quo v6 v7).bind fun v8=>(ba .u32 v8).bind fun v9=>(aE none x6 x8).bind fun v10=>(aM none m v10 v9).bind fun m11=>(ba .u64 x1).bind fun v12=>(ae .o .rem v6 v12).bind fun v13=>(ae .o .sub x8 (.I 1)).bind fun v14=>xM x0 x1 x6 v13 v14 m11 K) (K (.exit 0) (Cd x6 x7 m)):=
(bC (bw _) _ _ _).trans aj
theorem Ro:Br (aD f202) (.exit 0) (Cd x6 x7 m)=(aF (AP aa) none m 164 [x6]).bind fun r1=>(ba .u32 x7).bind fun v2=>some ((.tup [r1.1,v2]),r1.2):=aj
theorem US:AC aa 203 [a0] m=(aF (AP aa) none m 199 [a0]).bind fun r1=>(ae .o .sub (.I 32) r1.1).bind fun v2=>some (v2,r1.2):=
(aZ aa 203 [a0] m (fn:=f203) (c:=aA f203) Yo rfl).trans aj
def Ce:St:=⟨(aJ (aG (x5::bm (aH [])))),m⟩
def xN:OM:=bD 204 (bI (c2 (c2 (aA f204)))) 3 (aG (x1::aH (aG (x5::aJ (aH (x12::x13::x14::bh (aO (aG [])))))))) m K
abbrev Rp:KT:=bi 204 (c2 (c2 (c2 (aA f204)))) K
abbrev Rq:KT:=be 0 (Rp K)
abbrev FP:KT:=(Rq K)
theorem UT:AC aa 204 [a0,a1] m=(aL false a0).bind fun v1=>(ae .o .add v1 (.I 1)).bind fun v2=>(fU none 161 none (.int .u32 0) 4 m v2 v2).bind fun r3=>(aL false a0).bind fun v4=>xN a1 r3.1 a0 v4 (.I 0) r3.2 (FP (aD f204)):=
(aZ aa 204 [a0,a1] m (fn:=f204) (c:=aA f204) Yp rfl).trans aj
theorem GH:xN x1 x5 x12 x13 x14 m K=(ae .o .lss x14 x13).bind fun v1=>au v1 ((aE none x12 x14).bind fun v2=>(am none m v2).bind fun v3=>(aE none x5 x14).bind fun v4=>(am none m v4).bind fun v5=>(ae .o .shl v3 x1).bind fun v6=>(ae .o .or v5 v6).bind fun v7=>(aE none x5 x14).bind fun v8=>(aM none m v8 v7).bind fun m9=>(ae .o .add x14 (.I 1)).bind fun v10=>(ba .u64 v3).bind fun v11=>(ae .o .shl v11 x1).bind fun v12=>(ae .o .shr v12 (.U 32)).bind fun v13=>(ba .u32 v13).bind fun v14=>(aE none x5 v10).bind fun v15=>(aM none m9 v15 v14).bind fun m16=>(ae .o .add x14 (.I 1)).bind fun v17=>xN x1 x5 x12 x13 v17 m16 K) (K (.exit 0) (Ce x5 m)):=
(bC (bw _) _ _ _).trans aj
theorem Rr:FP (aD f204) (.exit 0) (Ce x5 m)=some (x5,m):=aj
theorem UN:AC aa 199 [a0] m=(ae .o .geq a0 (.int .u32 65536)).bind fun v1=>au v1 ((ae .o .shr a0 (.U 16)).bind fun v2=>(ae .o .geq v2 (.int .u32 256)).bind fun v3=>au v3 ((ae .o .shr v2 (.U 8)).bind fun v4=>(ae .o .add (.I 16) (.I 8)).bind fun v5=>(ba .u8 v4).bind fun v6=>(nG (.str tO) v6).bind fun v7=>(ba .i64 v7).bind fun v8=>(ae .o .add v5 v8).bind fun v9=>some (v9,m)) ((ba .u8 v2).bind fun v10=>(nG (.str tO) v10).bind fun v11=>(ba .i64 v11).bind fun v12=>(ae .o .add (.I 16) v12).bind fun v13=>some (v13,m))) ((ae .o .geq a0 (.int .u32 256)).bind fun v14=>au v14 ((ae .o .shr a0 (.U 8)).bind fun v15=>(ae .o .add (.I 0) (.I 8)).bind fun v16=>(ba .u8 v15).bind fun v17=>(nG (.str tO) v17).bind fun v18=>(ba .i64 v18).bind fun v19=>(ae .o .add v16 v19).bind fun v20=>some (v20,m)) ((ba .u8 a0).bind fun v21=>(nG (.str tO) v21).bind fun v22=>(ba .i64 v22).bind fun v23=>(ae .o .add (.I 0) v23).bind fun v24=>some (v24,m))):=
(aZ aa 199 [a0] m (fn:=f199) (c:=aA f199) Yk rfl).trans aj
end
end Go.Ab
