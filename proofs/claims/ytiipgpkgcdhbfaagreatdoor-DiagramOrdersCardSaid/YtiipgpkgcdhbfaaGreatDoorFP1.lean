/- Maps: made, looked up, written to. -/
import Derived.Test.YtiipgpkgcdhbfaaGreatDoorFP0
import Derived.Maps.OwnSet
import Derived.DeepKeys4
import Derived.Orders
import Derived.Fence
import Derived.Sort.Grow
import Derived.Sort.Row
import Derived.Lib.SlicesCompact
import Derived.Shelf.Strings.Builder1
import Derived.Shelf.Small.Bits
import Derived.Shelf.Strings.BuilderF
import Derived.Shelf.Strings.BuilderK
import Derived.Shelf.Strconv.Itoa0
import Derived.Shelf.Strconv.Itoa1
import Derived.Shelf.LaysM
import Derived.Shelf.Strconv.Itoa2
import Derived.Shelf.Strconv.Itoa3
import Derived.Shelf.Sort.Plain
import Derived.Ground.Names2Prog
import Derived.Shelf.Slices.Clone
import Derived.Shelf.Slices.CompactI
import Derived.Shelf.Slices.SearchI
import Derived.Shelf.Slices.Cells
import Derived.Shelf.Slices.In.SortNone
import Derived.Ground.SlgnProg
import Derived.Shelf.SlicesE.Clone
import Derived.Test.YtiipgpkgcdhbfaaGreatDoorProg
import Derived.WalkKit
import Derived.BigCall
set_option maxRecDepth 100000
set_option linter.unusedVariables false
set_option linter.unusedSimpArgs false
set_option linter.unusedSectionVars false
namespace Go.Ab
open Go.RowKit Go.Maps Go.ChangeMaps
section
variable [WInv] {P:Program} {B:Nat} {w:World} {g:G} {m:af}
open Go.WideElems (Fit rd rg pl rd_key rd_val rg_of rd_mk)
theorem V.atomV{x:AV}{v u:Value}(h:V w g x v)(hf:atomV x=some u):v=u:=by
 cases h<;>simp[Go.Ab.atomV] at hf<;>exact hf
theorem CT:∀(cs:List AV) (us:List Value),nB cs=some us->us.length=cs.length/\∀j,j<cs.length->Go.Ab.atomV (cs.getD j .any)=some (us.getD j undef)
 | [],us,h=>by simp[nB] at h;subst h;exact ⟨rfl,fun j hj=>by simp at hj⟩
 | x::xs,us,h=>by
  simp only[nB,aU,fk] at h;obtain ⟨v,hv,vs,hvs,rfl⟩:=h;obtain ⟨h1,h2⟩:=CT xs vs hvs;refine ⟨by simp[h1],fun j hj=>?_⟩
  cases j with
  | zero=>simpa using hv
  | succ j=>simpa using h2 j (by simpa using hj)
theorem V.flatV{x:AV}{v u:Value}(h:V w g x v)(hf:Go.Ab.flatV x=some u):v=u:=by
 by_cases hx:∃cs,x=.agg cs
 .obtain ⟨cs,rfl⟩:=hx
  cases h with
  | agg cs vs hl hv=>
   simp only[Go.Ab.flatV,fk] at hf;obtain ⟨us,hus,rfl⟩:=hf;obtain ⟨h1,h2⟩:=CT cs us hus;congr 1;apply Array.ext (by simp[h1,hl]);intro j hj1 hj2;have:=(hv j (by omega)).atomV (h2 j Z);simpa [Array.getD,hj1,aK,show j<us.length by omega] using this
 .refine h.atomV ?_
  cases x<;>first|(exact absurd ⟨_,rfl⟩ hx)|exact hf
theorem Kx{k:Nat}{kk:KK}(h:qt P k=some kk):(P.underlying k=some .string/\kk=.str)\/(∃q,P.underlying k=some (.int q)/\kk=.int q) \/
  ∃n e q,P.underlying k=some (.array n e)/\P.underlying e=some (.int q)/\kk=.arr n q/\P.tiled 2 k=true/\P.keyTypeAt 2 k=true/\P.keyType k=true/\P.cellsOf e=1/\0<P.types.size:=by
 unfold qt at h
 split at h
 .rename_i hu;simp at h;exact .inl ⟨hu,h.symm⟩
 .rename_i q hu;simp at h;exact .inr (.inl ⟨q,hu,h.symm⟩)
 .rename_i n e hu
  split at h
  .rename_i q hq
   split at h
   .rename_i hc;simp only[cg,n8,lc] at hc;obtain ⟨⟨⟨⟨c1,c2⟩,c3⟩,c4⟩,c5⟩:=hc;simp only[br] at h;exact .inr (.inr ⟨n,e,q,hu,hq,h.symm,c1,c2,c3,c4,c5⟩)
   .cases h
  .cases h
 .cases h
theorem Ku{k:Nat}{kk:KK}(h:qt P k=some kk):Keyed P k:=by
 rcases Kx h with ⟨hu,_⟩|⟨q,hu,_⟩|⟨n,e,q,hu,_,_,h1,h2,_⟩
 .exact string_keyed hu
 .exact int_keyed hu
 .exact Keyed.of_law (deep_law (m:=2) Z h2 h1 (by rw[hu]))
theorem K3{α β:Type}{f:α->Option β}:∀{l:List α},(∀x∈l,∃y,f x=some y)->∃ys,l.mapM f=some ys
 | [],_=>⟨[],aq⟩
 | x::l,h=>by
  obtain ⟨y,hy⟩:=h x cF;obtain ⟨ys,hys⟩:=K3 (f:=f) (l:=l) fun z hz=>h z (cP _ hz);exact ⟨y::ys,by simp[List.mapM_cons,hy,hys]⟩
theorem vJ{k:Nat}{kk:KK}{v:Value}(h:qt P k=some kk)(hv:BE kk v):∃l,Go.keyOf P k v=some l:=by
 rcases Kx h with ⟨hu,rfl⟩|⟨q,hu,rfl⟩|⟨n,e,q,hu,he,rfl,h1,h2,h3,h4,h5⟩
 .obtain ⟨s,rfl,hs⟩:=hv;exact ⟨.string s.data.toList,by simp[Go.keyOf,mapKey,hu,hs]⟩
 .obtain ⟨n,rfl,hn⟩:=hv;have:(Lit.int q n).wf=true:=hn;exact ⟨.int q n,by simp[Go.keyOf,mapKey,hu,this]⟩
 .obtain ⟨us,rfl,hsz,hus⟩:=hv
  have hcells:P.cellsOf k=n:=by
   have:=h1;unfold Program.tiled at this;rw[hu] at this;simp only[cg,n8] at this;rw[this.1,h4,ii]
  obtain ⟨d,hd⟩:∃d,P.types.size=d+1:=⟨P.types.size-1,Z⟩
  have hm:∃ys,(List.range n).mapM (fun i=>P.keyLits (d+1) e ((us.toList.drop (i*P.cellsOf e)).take (P.cellsOf e)))=some ys:=by
   refine K3 fun i hi=>?_;have hi:=nY.1 hi;have hil:i<us.toList.length:=by simpa [hsz] using hi
   rw[h4,ii,ic hil,List.take_succ_cons,List.take_zero];obtain ⟨z,hz,hw⟩:=hus us.toList[i] aq;have hw:(Lit.int q z).wf=true:=hw;rw[hz];exact ⟨[.int q z],by simp[Program.keyLits,he,hw]⟩
  obtain ⟨ys,hys⟩:=hm;refine ⟨.string (keyBytes ys.flatten),?_⟩;have hf:Value.formed P k (.agg us)=true:=by simp[Value.formed,hu,hcells,hsz]
  have hl:us.toList.length=P.cellsOf k:=by simp[hsz,hcells]
  unfold Go.keyOf;rw[hu];simp only[h3,hf,kP,aY,Value.cells]
  have ek:P.keyLits (d+1+1) k us.toList=if us.toList.length=P.cellsOf k then ((List.range n).mapM fun i=>P.keyLits (d+1) e ((us.toList.drop (i*P.cellsOf e)).take (P.cellsOf e))).map List.flatten else none:=by
   simp only[Program.keyLits,hu]
  rw[hd,ek,ai hl,hys]
  rfl
theorem DJ{kk:KK}{x:AV}{v:Value}(ho:gK kk x=true)(hf:Go.Ab.flatV x=some v):BE kk v:=by
 cases kk with
 | str=>
  cases x<;>simp[gK] at ho;simp[Go.Ab.flatV,Go.Ab.atomV] at hf;exact ⟨_,hf.symm,ho⟩
 | int q=>
  cases x<;>simp[gK,jV] at ho;obtain ⟨rfl,ho⟩:=ho;simp[Go.Ab.flatV,Go.Ab.atomV] at hf;exact ⟨_,hf.symm,ho⟩
 | arr n q=>
  cases x<;>simp only[gK,iE] at ho;rename_i cs;simp only[cg,n8,fe] at ho;simp only[Go.Ab.flatV,fk] at hf;obtain ⟨us,hus,rfl⟩:=hf;obtain ⟨h1,h2⟩:=CT cs us hus;refine ⟨_,rfl,by simp[h1,ho.1],fun u hu=>?_⟩;obtain ⟨j,hj,rfl⟩:=ig (by simpa using hu:u∈us);have h3:=h2 j Z;have h4:=ho.2 (cs.getD j .any) (by rw[aK,bn Z];exact bp _)
  cases hc:cs.getD j .any with
  | int k' i=>
   rw[hc] at h3 h4;simp only[jV,cg,lc] at h4;obtain ⟨rfl,h4⟩:=h4;simp[Go.Ab.atomV] at h3;exact ⟨i,by simpa [hj] using h3.symm,h4⟩
  | _=>rw[hc] at h4;simp[jV] at h4
theorem Kr{kk:KK}{x:AV}(ho:gK kk x=true):∃v,Go.Ab.flatV x=some v:=by
 cases kk with
 | str=>cases x<;>simp[gK] at ho;exact ⟨_,rfl⟩
 | int q=>cases x<;>simp[gK,jV] at ho;exact ⟨_,rfl⟩
 | arr n q=>
  cases x<;>simp only[gK,iE] at ho;rename_i cs;simp only[cg,fe] at ho
  have:∀cs:List AV,(∀x∈cs,jV q x=true)->∃us,nB cs=some us:=by
   intro cs
   induction cs with
   | nil=>intro _;exact ⟨[],rfl⟩
   | cons c cs ih=>
    intro h;obtain ⟨us,hus⟩:=ih fun x hx=>h x (cP _ hx);have:=h c cF;cases c<;>simp[jV] at this;rename_i k' n';exact ⟨.int k' n'::us,by simp[nB,Go.Ab.atomV,hus]⟩
  obtain ⟨us,hus⟩:=this cs ho.2;exact ⟨.agg us.toArray,by simp[Go.Ab.flatV,hus]⟩
theorem Zo{q:IntKind}{x y:AV}{u v:Value}(hx:jV q x=true)(hy:jV q y=true)(hu:Go.Ab.atomV x=some u)(hv:Go.Ab.atomV y=some v):nA x y=true↔u=v:=by
 cases x<;>simp[jV] at hx;cases y<;>simp[jV] at hy;simp[Go.Ab.atomV] at hu hv;subst hu;subst hv;simp[nA]
theorem rD{kk:KK}{x y:AV}{u v:Value}(hx:gK kk x=true)(hy:gK kk y=true)(hu:Go.Ab.flatV x=some u)(hv:Go.Ab.flatV y=some v):fF x y=true↔u=v:=by
 cases kk with
 | str=>
  cases x<;>simp[gK] at hx;cases y<;>simp[gK] at hy;simp[Go.Ab.flatV,Go.Ab.atomV] at hu hv;subst hu;subst hv;simp[fF,nA]
 | int q=>
  cases x<;>simp[gK,jV] at hx;cases y<;>simp[gK,jV] at hy;simp[Go.Ab.flatV,Go.Ab.atomV] at hu hv;subst hu;subst hv;simp[fF,nA]
 | arr n q=>
  cases x<;>simp only[gK,iE] at hx;cases y<;>simp only[gK,iE] at hy;rename_i cs ds;simp only[cg,n8,fe] at hx hy;simp only[Go.Ab.flatV,fk] at hu hv;obtain ⟨us,hus,rfl⟩:=hu;obtain ⟨vs,hvs,rfl⟩:=hv
  have key:∀(cs ds:List AV) (us vs:List Value),cs.length=ds.length->(∀x∈cs,jV q x=true)->(∀x∈ds,jV q x=true)->nB cs=some us->nB ds=some vs->(rh cs ds=true↔us=vs):=by
   intro cs
   induction cs with
   | nil=>
    intro ds us vs hl _ _ h1 h2
    cases ds with
    | nil=>simp[nB] at h1 h2;subst h1;subst h2;simp[rh]
    | cons=>simp at hl
   | cons c cs ih=>
    intro ds us vs hl h3 h4 h1 h2
    cases ds with
    | nil=>simp at hl
    | cons d ds=>
     simp only[nB,aU,fk] at h1 h2;obtain ⟨a,ha,qas,has,rfl⟩:=h1;obtain ⟨b,hb,bs,hbs,rfl⟩:=h2;simp only[rh,cg,lY];rw[Zo (h3 c cF) (h4 d cF) ha hb,ih ds qas bs (by simpa using hl) (fun x hx=>h3 x (cP _ hx)) (fun x hx=>h4 x (cP _ hx)) has hbs]
  show rh cs ds=true↔_;rw[key cs ds us vs Z hx.2 hy.2 hus hvs]
  constructor
  .rintro rfl;rfl
  .intro h
   have:=cA (fun v=>match v with|Value.agg a=>a.toList|_=>[]) h
   simpa using this
def RU:Value->Option (DataW Unit×List MemPlace):=fun _=>some (.lit (.bool true),[])
theorem MapR.fit{k:Nat}{kk:KK}{es':Array MapEntry}{clock:Nat}{es:List (AV×AV)}(M:MapR w g kk es' clock es)(h:qt P k=some kk):Fit P k RU es' clock where
 size:=eP M.size M.room
 stamped:=M.stamped
 reads x hx:=by
  obtain ⟨l,hl⟩:=vJ h (M.keys x hx);exact ⟨(l,.lit (.bool true)),by simp[Go.WideElems.rd,hl,RU]⟩
theorem MapR.uniq{kk:KK}{es':Array MapEntry}{clock:Nat}{es:List (AV×AV)}(M:MapR w g kk es' clock es){x y:MapEntry}(hx:x∈es'.toList)(hy:y∈es'.toList)(h:x.key=y.key):x=y:=by
 have hnd:=M.stamped.2.2;obtain ⟨i,hi,rfl⟩:=ig hx;obtain ⟨j,hj,rfl⟩:=ig hy
 have hij:(es'.toList.map (·.key))[i]'(by simpa using hi)=(es'.toList.map (·.key))[j]'(by simpa using hj):=by
  rw[kf,kf,h]
 have:=(List.getElem_inj hnd).1 hij;subst this;rfl
theorem K5{t e:Nat}{kk:KK}(h:pz P t=some (kk,e)):∃k,P.underlying t=some (.map k e)/\qt P k=some kk:=by
 unfold pz at h
 split at h
 .rename_i k e' hu;simp only[fk,cw] at h;obtain ⟨kk',hk,rfl,rfl⟩:=h;exact ⟨k,hu,hk⟩
 .cases h
theorem La(hm:MemR B w g m){kk:KK}{x:AV}{x':Value}(hx:V w g x x'){nm:Nat}{es:List (AV×AV)}(h:gR m kk x=some (nm,es)):m.get nm=some (.mp kk es)/\∃b es' clock,x'=.map (some b)/\g.loc nm=some b/\B<=b/\w.heap[b]?=some (.map es' clock)/\MapR w g kk es' clock es:=by
 unfold gR at h
 split at h
 .rename_i nm'
  split at h
  .rename_i kk' es0 hg
   split at h
   .rename_i hk;simp only[br,cw] at h;obtain ⟨rfl,rfl⟩:=h;subst hk
    cases hx with
    | mref _ b hl=>
     obtain ⟨b',es',clock,h1,h2,h3,h4⟩:=hm.mp nm' kk' es0 hg;obtain rfl:b=b':=by simpa [hl] using h1
     exact ⟨hg,b,es',clock,rfl,hl,h2,h3,h4⟩
   .cases h
  .cases h
 .cases h
theorem qc6{e:Nat}{z:AV}(h:nj P e=some z)(w:World):∃v,(zeroValue e).run P w=.ok v w/\z=fG v:=by
 obtain ⟨i,v,hi,hv,rfl⟩:=wB h;exact ⟨v,by simp[zeroValue,typeInfo,hi,hv],rfl⟩
theorem qbo(hm:MemR B w g m){t e:Nat}{kk:KK}{z v:AV}{x key:AV}{x' key':Value}{b:Bool}(hx:V w g x x')(hkey:V w g key key')(hty:pz P t=some (kk,e))(hz:nj P e=some z)(h:i6 kk z m x key=some (v,b)) :
  ∃v',V w g v v'/\(Instr.lookup t x' key' true).run P w=.ok (.tuple #[v',.bool b]) w/\(Instr.lookup t x' key' false).run P w=.ok v' w:=by
 obtain ⟨k,hu,hk⟩:=K5 hty;obtain ⟨z0,hz0,rfl⟩:=qc6 hz w;simp only[i6,aU] at h;obtain ⟨⟨nm,es⟩,hmp,h⟩:=h;simp only at h
 split at h
 .rename_i hok;simp only[br] at h;obtain ⟨hg,bl,es',clock,rfl,hl,hB,hb,M⟩:=La hm hx hmp;obtain ⟨kv,hkv⟩:=Kr hok;have hke:=(hkey.flatV hkv).symm;subst hke;obtain ⟨kl,hkl⟩:=vJ hk (DJ hok hkv);have K:=Ku hk;have F:=M.fit hk
  have none_case:(∀y∈es'.toList,y.key≠kv)->es.find? (fun p=>fF p.1 key)=none:=fun hne=>by
   rw[List.find?_eq_none];intro p hp hpk;obtain ⟨y,hy,h1,_⟩:=M.to p hp;exact hne y hy ((rD (M.ok p hp) hok h1 hkv).1 hpk)
  have some_case:∀e0∈es'.toList,e0.key=kv->∃p,es.find? (fun p=>fF p.1 key)=some p/\V w g p.2 e0.val:=fun e0 he hek=>by
   obtain ⟨p0,hp0,h1,h2⟩:=M.frm e0 he;have hex:∃p∈es,fF p.1 key=true:=⟨p0,hp0,(rD (M.ok p0 hp0) hok h1 hkv).2 hek⟩
   cases hf:es.find? (fun p=>fF p.1 key) with
   | none=>
    rw[List.find?_eq_none] at hf;obtain ⟨p,hp,hpk⟩:=hex;exact absurd hpk (hf p hp)
   | some p=>
    refine ⟨p,rfl,?_⟩;have hp:=List.mem_of_find?_eq_some hf;have hpk:=List.find?_some hf;obtain ⟨y,hy,h3,h4⟩:=M.to p hp;have hyk:=(rD (M.ok p hp) hok h3 hkv).1 hpk
    have:y=e0:=by
     exact M.uniq hy he (hyk.trans hek.symm)
    rw[<- this];exact h4
  have ht:=fit_look (R:=RU) true K hu hz0 hb F hkl;have hf:=fit_look (R:=RU) false K hu hz0 hb F hkl;simp only[aY,iE,jJ] at ht hf
  rcases ht with ⟨t1,t2,_⟩|⟨e0,y,t1,t2,t3,_⟩
  .rw[qu,none_case t2] at h;simp only[cw] at h;obtain ⟨rfl,rfl⟩:=h;refine ⟨z0,ID w g z0,t1,?_⟩
   rcases hf with ⟨f1,_,_⟩|⟨e1,y1,f1,f2,_⟩
   .exact f1
   .exact absurd f2 (t2 e1 f1)
  .obtain ⟨p,hp,hpv⟩:=some_case e0 t1 t2;rw[qu,hp] at h;simp only[cw] at h;obtain ⟨rfl,rfl⟩:=h;refine ⟨e0.val,hpv,t3,?_⟩
   rcases hf with ⟨_,f2,_⟩|⟨e1,y1,f1,f2,f3,_⟩
   .exact absurd t2 (f2 e0 t1)
   .have:e0=e1:=M.uniq t1 f1 (t2.trans f2.symm);rw[f3,this]
 .cases h
theorem Step.setMap{b:Nat}{es es':Array MapEntry}{clock clock':Nat}(hB:B<=b)(hb:w.heap[b]?=some (.map es clock)):Step B w g (setBlock w b (.map es' clock')) g:=by
 have hother:∀k,k≠b->(setBlock w b (.map es' clock')).heap[k]?=w.heap[k]?:=fun k hk=>heap_setBlock_other hb _ hk
 refine ⟨⟨rfl,rfl,rfl,by simp[setBlock],fun k hk=>hother k Z⟩,fun b' off u hw hc=>?_,fun b' c1 e1 fr hb'=>?_,fun _ _ _ h=>h,fun _ _ _=>Iff.rfl,fun _ _=>Iff.rfl,fun _ _ h=>h,fun _ _ _ h=>h⟩
 .have hne:b'≠b:=fun he=>by
   subst he;unfold World.cell? at hc;rw[hb] at hc;cases hc
  exact (World.cell?_of_block (w:=w) (a:=⟨b',off,none⟩) (hother b' hne)).trans hc
 .have hne:b'≠b:=fun he=>by subst he;rw[hb] at hb';cases hb'
  exact ⟨c1,(hother b' hne).trans hb',rfl⟩
theorem K8{es:List (AV×AV)}{key v:AV}{p:AV×AV}(h:p∈i8 es key v):(p∈es/\fF p.1 key=false)\/(p.2=v/\(p.1=key\/∃q∈es,q.1=p.1/\fF q.1 key=true)):=by
 unfold i8 at h
 split at h
 .obtain ⟨q,hq,rfl⟩:=ga.1 h
  by_cases hk:fF q.1 key=true
  .rw[ai hk];exact .inr ⟨rfl,.inr ⟨q,hq,rfl,hk⟩⟩
  .rw[ag hk];exact .inl ⟨hq,by simpa using hk⟩
 .rename_i ha;rw[List.any_eq_false] at ha
  rcases cI.1 h with h|h
  .exact .inl ⟨h,by simpa using ha p h⟩
  .rw[List.mem_singleton] at h;subst h;exact .inr ⟨rfl,.inl rfl⟩
theorem qcw{es:List (AV×AV)}{key v:AV}{p:AV×AV}(h:p∈es)(hk:fF p.1 key=false):p∈i8 es key v:=by
 unfold i8
 split
 .exact ga.2 ⟨p,h,by rw[ag (by simp[hk])]⟩
 .exact cI.2 (.inl h)
theorem qcv{es:List (AV×AV)}{key v:AV}:∃p∈i8 es key v,p.2=v/\(p.1=key\/∃q∈es,q.1=p.1/\fF q.1 key=true):=by
 unfold i8
 split
 .rename_i ha;obtain ⟨q,hq,hk⟩:=List.any_eq_true.1 ha;exact ⟨(q.1,v),ga.2 ⟨q,hq,by rw[ai hk]⟩,rfl,.inr ⟨q,hq,rfl,hk⟩⟩
 .exact ⟨(key,v),cI.2 (.inr cF),rfl,.inl rfl⟩
theorem qcu(es:List (AV×AV))(key v:AV):(i8 es key v).length=if es.any (fun p=>fF p.1 key)=true then es.length else es.length+1:=by
 unfold i8
 split
 .rename_i h;rw[ai h];simp
 .rename_i h;rw[h];simp
theorem Lj{α:Type}:∀(l l':List α),l.Nodup->(∀x∈l,x∈l')->l.length<=l'.length
 | [],_,_,_=>jd _
 | a::t,l',hn,hs=>by
  obtain ⟨s,u,rfl⟩:=sH (hs a cF);rw[lE] at hn
  have:=Lj t (s++u) hn.2 (fun x hx=>by
   have h:=hs x (cP _ hx)
   rcases cI.1 h with h|h
   .exact cI.2 (.inl h)
   .rcases cE.1 h with rfl|h
    .exact absurd hx hn.1
    .exact cI.2 (.inr h))
  simp at this ⊢;omega
theorem qbN{α β:Type}{f:α->β}{l:List α}(h:(l.map f).Nodup):(l.map fun x=>some (f x)).Nodup:=by
 have:(l.map fun x=>some (f x))=(l.map f).map some:=aq;rw[this];unfold List.Nodup at h ⊢;rw[List.pairwise_map];exact h.imp fun hne e=>hne (mS e)
theorem MapR.put{k:Nat}{kk:KK}{t e b:Nat}{es':Array MapEntry}{clock:Nat}{es:List (AV×AV)}(M:MapR w g kk es' clock es)(hu:P.underlying t=some (.map k e))(hk:qt P k=some kk)(hb:w.heap[b]?=some (.map es' clock)){key v:AV}{kv vv:Value}(hok:gK kk key=true)(hkv:Go.Ab.flatV key=some kv)(hvv:V w g v vv)(hlen:es.length<maxLen) :
  ∃es2 clock2,(Instr.mapUpdate t (.map (some b)) kv vv).run P w=.ok () (setBlock w b (.map es2 clock2))/\MapR w g kk es2 clock2 (i8 es key v):=by
 obtain ⟨kl,hkl⟩:=vJ hk (DJ hok hkv);have K:=Ku hk;have F:=M.fit (P:=P) hk;obtain ⟨es2,clock2,r1,r2,r3,_,_,r6⟩:=fit_store (R:=RU) (R':=RU) (yv:=(.lit (.bool true),[])) K hu hb F (im M.size hlen) (fun _ _ _ _ h=>h) hkl rfl;have hrg:∀(x:MapEntry) (l:Lit),Go.keyOf P k x.key=some l->Go.WideElems.rg P k RU x=(l,.lit (.bool true)):=fun x l hl=>Go.WideElems.rg_of (by simp[Go.WideElems.rd,hl,RU])
 have hkeyLit:∀x∈es2.toList,∃l,Go.keyOf P k x.key=some l:=fun x hx=>by
  rcases r6 x hx with ⟨h,_⟩|⟨h,_⟩
  .exact vJ hk (M.keys x h)
  .exact ⟨kl,by rw[h];exact hkl⟩
 have back:∀p,p∈putKey kl (.lit (.bool true)) ((es'.toList.map (Go.WideElems.rg P k RU)).foldr DataW.insert [])->∃x∈es2.toList,Go.WideElems.rg P k RU x=p:=fun p hp=>by
  rw[<- r3,mem_sorted] at hp;obtain ⟨x,hx,rfl⟩:=ga.1 hp;exact ⟨x,hx,rfl⟩
 have hnew:∃x∈es2.toList,x.key=kv/\x.val=vv:=by
  obtain ⟨x,hx,hp⟩:=back (kl,.lit (.bool true)) (mem_insert_iff.2 (.inl rfl));obtain ⟨l,hl⟩:=hkeyLit x hx;rw[hrg x l hl] at hp;have hll:l=kl:=(Prod.mk.inj hp).1;subst hll;have hkx:x.key=kv:=K.inj hl hkl
  rcases r6 x hx with ⟨_,h⟩|⟨h,h'⟩
  .exact absurd hkx h
  .exact ⟨x,hx,h,h'⟩
 have hold:∀x∈es'.toList,x.key≠kv->x∈es2.toList:=fun x hx hne=>by
  obtain ⟨l,hl⟩:=vJ hk (M.keys x hx);have hlne:l≠kl:=fun e=>hne (K.inj (e▸hl) hkl)
  have hmem:(l,DataW.lit (.bool true))∈putKey kl (.lit (.bool true)) ((es'.toList.map (Go.WideElems.rg P k RU)).foldr DataW.insert []):=by
   refine mem_insert_iff.2 (.inr (kB.2 ⟨mem_sorted.2 (ga.2 ⟨x,hx,hrg x l hl⟩),?_⟩));simp only[notKey]
   cases hs:l.sameKey kl with
   | false=>rfl
   | true=>exact absurd (WideAt.sameKey_eq hs) hlne
  obtain ⟨x2,hx2,hp⟩:=back _ hmem;obtain ⟨l2,hl2⟩:=hkeyLit x2 hx2;rw[hrg x2 l2 hl2] at hp;have hll:l2=l:=(Prod.mk.inj hp).1;subst hll;have hkx:x2.key=x.key:=K.inj hl2 hl
  rcases r6 x2 hx2 with ⟨h,_⟩|⟨h,_⟩
  .have:x2=x:=by
    have hnd:=M.stamped.2.2;obtain ⟨i,hi,rfl⟩:=ig h;obtain ⟨j,hj,rfl⟩:=ig hx
    have hij:(es'.toList.map (·.key))[i]'(by simpa using hi)=(es'.toList.map (·.key))[j]'(by simpa using hj):=by
     rw[kf,kf,hkx]
    have:=(List.getElem_inj hnd).1 hij;subst this;rfl
   rw[<- this];exact hx2
  .exact absurd (hkx.symm.trans h) hne
 have hfst:∀p∈i8 es key v,gK kk p.1=true:=fun p hp=>by
  rcases K8 hp with ⟨h,_⟩|⟨_,h|⟨q,hq,h,_⟩⟩
  .exact M.ok p h
  .rw[h];exact hok
  .rw[<- h];exact M.ok q hq
 have hfrom2:∀x∈es2.toList,∃p∈i8 es key v,Go.Ab.flatV p.1=some x.key/\V w g p.2 x.val:=fun x hx=>by
  rcases r6 x hx with ⟨h,hne⟩|⟨h,h'⟩
  .obtain ⟨p,hp,h1,h2⟩:=M.frm x h;refine ⟨p,qcw hp ?_,h1,h2⟩
   cases hk':fF p.1 key with
   | false=>rfl
   | true=>exact absurd ((rD (M.ok p hp) hok h1 hkv).1 hk') hne
  .obtain ⟨p,hp,h1,h2⟩:=qcv (es:=es) (key:=key) (v:=v);refine ⟨p,hp,?_,by rw[h1,h'];exact hvv⟩
   rcases h2 with h2|⟨q,hq,h2,hqk⟩
   .rw[h2,h];exact hkv
   .obtain ⟨x0,hx0,h3,_⟩:=M.to q hq;rw[<- h2,h3,h,(rD (M.ok q hq) hok h3 hkv).1 hqk]
 have hfrom:∀x∈es2.toList,∃p∈i8 es key v,Go.Ab.flatV p.1=some x.key:=fun x hx=>(hfrom2 x hx).imp fun p h=>⟨h.1,h.2.1⟩
 refine ⟨es2,clock2,r1,?_,?_,r2.stamped,fun x hx=>?_,hfst,fun p hp=>?_,hfrom2⟩
 .have h:=Lj (es2.toList.map fun x=>some x.key) ((i8 es key v).map fun p=>Go.Ab.flatV p.1) (qbN (f:=fun x:MapEntry=>x.key) r2.stamped.2.2) (fun y hy=>by
   obtain ⟨x,hx,rfl⟩:=ga.1 hy;obtain ⟨p,hp,h1⟩:=hfrom x hx
   exact ga.2 ⟨p,hp,h1⟩)
  simpa using h
 .rw[qcu];split<;>omega
 .rcases r6 x hx with ⟨h,_⟩|⟨h,_⟩
  .exact M.keys x h
  .rw[h];exact DJ hok hkv
 .rcases K8 hp with ⟨h,hne⟩|⟨hv,h⟩
  .obtain ⟨x,hx,h1,h2⟩:=M.to p h
   have hxk:x.key≠kv:=fun e=>by
    have:=(rD (M.ok p h) hok h1 hkv).2 e;rw[this] at hne;cases hne
   exact ⟨x,hold x hx hxk,h1,h2⟩
  .obtain ⟨x,hx,h1,h2⟩:=hnew;refine ⟨x,hx,?_,by rw[hv,h2];exact hvv⟩
   rcases h with h|⟨q,hq,h,hqk⟩
   .rw[h,h1];exact hkv
   .obtain ⟨x0,hx0,h3,_⟩:=M.to q hq;rw[<- h,h3,h1,(rD (M.ok q hq) hok h3 hkv).1 hqk]
theorem Nf(hm:MemR B w g m){t e:Nat}{kk:KK}{x key v:AV}{x' key' v':Value}{m1:af}(hx:V w g x x')(hkey:V w g key key')(hv:V w g v v')(hty:pz P t=some (kk,e))(h:gM kk m x key v=some m1) :
  ∃w',(Instr.mapUpdate t x' key' v').run P w=.ok () w'/\Step B w g w' g/\MemR B w' g m1:=by
 obtain ⟨k,hu,hk⟩:=K5 hty;simp only[gM,aU] at h;obtain ⟨⟨nm,es⟩,hmp,h⟩:=h;simp only at h
 split at h
 .rename_i hc;obtain ⟨hok,_,hlen⟩:=hc;simp only[br] at h;subst h;obtain ⟨hg,b,es',clock,rfl,hl,hB,hb,M⟩:=La hm hx hmp;obtain ⟨kv,hkv⟩:=Kr hok;have hke:=(hkey.flatV hkv).symm;subst hke;obtain ⟨es2,clock2,r1,M2⟩:=M.put (w:=w) hu hk hb hok hkv hv hlen;have s:=Step.setMap (w:=w) (g:=g) (es':=es2) (clock':=clock2) hB hb;have hother:∀k,k≠b->(setBlock w b (.map es2 clock2)).heap[k]?=w.heap[k]?:=fun k hk=>heap_setBlock_other hb _ hk;have hsize:(setBlock w b (.map es2 clock2)).heap.size=w.heap.size:=by simp[setBlock]
  have hlt:=bo hg;refine ⟨_,r1,s,?_⟩;have hbnm:aS g m nm=some b:=by simp[aS,hg,hl]
  have hblk:∀x b',aS g (m.set nm (some (.mp kk (i8 es key v)))) x=some b'->aS g m x=some b':=by
   intro x b' hx
   rcases lK hx with ⟨bx1,cs1,a1,a2⟩|⟨n1,sz1,a1,a2⟩|⟨kk1,es1,a1,a2⟩
   .rw[eY] at a1
    split at a1
    .simp at a1
    .simp[aS,a1,a2]
   .rw[eY] at a1
    split at a1
    .simp at a1
    .simp[aS,a1,a2]
   .rw[eY] at a1
    split at a1
    .rename_i he;subst he;simp[aS,hg,a2]
    .simp[aS,a1,a2]
  refine ⟨?_,?_,?_,?_,?_,?_,?_,?_,?_⟩
  .intro x bx1 cs1 hx;rw[eY] at hx
   split at hx
   .simp at hx
   .obtain ⟨b1,c1,e1,a1,a2,a3,a4,a5,a6⟩:=hm.obj x bx1 cs1 hx;have hbne:b1≠b:=fun he=>by rw[he,hb] at a3;cases a3
    exact ⟨b1,c1,e1,a1,a2,(hother b1 hbne).trans a3,a4,fun j hj=>(a5 j hj).step s,a6⟩
  .intro x n1 sz1 hx;rw[eY] at hx
   split at hx
   .simp at hx
   .obtain ⟨b1,c1,e1,a1,a2,a3,a4⟩:=hm.tok x n1 sz1 hx;have hbne:b1≠b:=fun he=>by rw[he,hb] at a3;cases a3
    exact ⟨b1,c1,e1,a1,a2,(hother b1 hbne).trans a3,a4⟩
  .intro x hx;rw[eY] at hx
   split at hx
   .simp at hx
   .exact hm.resv x hx
  .intro x hx;exact hm.fresh x (by simpa using hx)
  .intro x x' b' h1 h2;exact hm.inj x x' b' (hblk x b' h1) (hblk x' b' h2)
  .intro b' off hw;rw[hsize];exact hm.wrLt b' off hw
  .exact hm.invS s
  .intro b' hw;rw[hsize];exact hm.boxLt b' hw
  .intro x kk1 es1 hx;rw[eY] at hx
   split at hx
   .rename_i he;simp only[ai hlt,br,Ent.mp.injEq] at hx;obtain ⟨rfl,rfl⟩:=hx;subst he;exact ⟨b,es2,clock2,hl,hB,heap_setBlock_same hb _,M2.step s⟩
   .rename_i hne;obtain ⟨b1,es3,cl3,a1,a2,a3,a4⟩:=hm.mp x kk1 es1 hx;have hbne:b1≠b:=fun he=>hne (hm.inj x nm b (by simp[aS,hx,a1,he]) hbnm);exact ⟨b1,es3,cl3,a1,a2,(hother b1 hbne).trans a3,a4.step s⟩
 .cases h
def mz(g:G)(nm b:Nat):G where
 wr:=g.wr
 box:=g.box
 loc nm':=if nm'=nm then some b else g.loc nm'
 tloc:=g.tloc
theorem MemR.alloc_mp(h:MemR B w g m)(hB:B<=w.heap.size)(kk:KK){nm:Nat}{m':af}(hs:Slot g m nm (.mp kk []) m') :
  Step B w g (w.alloc (.map #[] 0)) (mz g nm w.heap.size)/\MemR B (w.alloc (.map #[] 0)) (mz g nm w.heap.size) m':=by
 have hfr:=hs.fresh
 have s:Step B w g (w.alloc (.map #[] 0)) (mz g nm w.heap.size):=by
  refine Step.alloc hB _ (fun b off hb=>Iff.rfl) (fun b hb=>Iff.rfl) (fun x b hb=>?_) (fun _ _ _ h=>h);simp only[mz]
  split
  .rename_i he;rw[he,hfr.1] at hb;cases hb
  .exact hb
 have hblk:∀x b,aS (mz g nm w.heap.size) m' x=some b->(x≠nm/\aS g m x=some b)\/(x=nm/\b=w.heap.size):=by
  intro x b hb
  rcases lK hb with ⟨bx',cs',h1,h2⟩|⟨n,sz,h1,h2⟩|⟨kk1,es,h1,h2⟩
  .rw[hs.get] at h1
   split at h1
   .simp at h1
   .rename_i hne;simp only[mz,ag hne] at h2;exact .inl ⟨hne,by simp[aS,h1,h2]⟩
  .rw[hs.get] at h1
   split at h1
   .simp at h1
   .rename_i hne;simp only[mz] at h2;exact .inl ⟨hne,by simp[aS,h1,h2]⟩
  .rw[hs.get] at h1
   split at h1
   .rename_i he;simp only[mz,ai he] at h2;exact .inr ⟨he,by simpa using h2.symm⟩
   .rename_i hne;simp only[mz,ag hne] at h2;exact .inl ⟨hne,by simp[aS,h1,h2]⟩
 refine ⟨s,?_,?_,?_,?_,?_,?_,?_,?_,?_⟩
 .intro x bx' cs' hn;rw[hs.get] at hn
  split at hn
  .simp at hn
  .obtain ⟨b,c',e',h1,h2,h3,h4,h5,h6,h7⟩:=h.obj x bx' cs' hn;exact ⟨b,c',e',s.loc _ _ h1,h2,(Go.heap_alloc_old w _ (cH.1 h3).1).trans h3,h4,fun j hj=>(h5 j hj).step s,h6,h7⟩
 .intro x n sz hn;rw[hs.get] at hn
  split at hn
  .simp at hn
  .obtain ⟨b,c',e',h1,h2,h3,h4⟩:=h.tok x n sz hn;exact ⟨b,c',e',h1,h2,(Go.heap_alloc_old w _ (cH.1 h3).1).trans h3,h4⟩
 .intro x hn;rw[hs.get] at hn
  split at hn
  .simp at hn
  .rename_i hne;have:=h.resv x hn;exact ⟨by simp only[mz];rw[ag hne];exact this.1,this.2⟩
 .intro x hn;obtain ⟨h1,h2⟩:=hs.len x hn;have:=h.fresh x h1;exact ⟨by simp only[mz];rw[ag h2];exact this.1,this.2⟩
 .intro x x' b h1 h2
  rcases hblk _ _ h1 with ⟨a1,a2⟩|⟨a1,a2⟩<;>rcases hblk _ _ h2 with ⟨b1,b2⟩|⟨b1,b2⟩
  .exact h.inj _ _ _ a2 b2
  .have:=(h.blk_lt a2).2;omega
  .have:=(h.blk_lt b2).2;omega
  .omega
 .intro b off hw;have:=h.wrLt b off hw;simp;omega
 .exact h.invS s
 .intro b hw;have:=h.boxLt b hw;simp;omega
 .intro x kk1 es hn;rw[hs.get] at hn
  split at hn
  .rename_i he;simp only[br,Ent.mp.injEq] at hn;obtain ⟨rfl,rfl⟩:=hn;refine ⟨w.heap.size,#[],0,by simp[mz,he],hB,heap_alloc_new w _,⟨aI _,jd _,MapKept.stamped_empty 0,aq,aq,aq,aq⟩⟩
  .obtain ⟨b,es',cl,h1,h2,h3,h4⟩:=h.mp x kk1 es hn;exact ⟨b,es',cl,s.loc _ _ h1,h2,(Go.heap_alloc_old w _ (cH.1 h3).1).trans h3,h4.step s⟩
theorem qbr(hm:MemR B w g m)(hB:B<=w.heap.size){t e:Nat}{kk:KK}(hty:pz P t=some (kk,e)):ke P B w g (Instr.makeMap t none) (.mref (aC none m .resv).1) (aC none m (.mp kk [])).2:=by
 obtain ⟨s,hm'⟩:=hm.alloc_mp hB kk (hm.slot (d:=none) (fun s h=>by cases h) (.mp kk []));refine ⟨_,_,_,?_,s,hm',.mref _ w.heap.size (by simp[mz])⟩;simp[Instr.makeMap,newObj]
 rfl
end
end Go.Ab
namespace Go.Ab
open Go.RowKit
section
variable [WInv] {C:Cfg} {B:Nat} {w:World} {g:G} {m:af}
def sU(P:Program)(B:Nat)(w:World)(g:G)(a:Act)(o:Oper)(v:AV)(m1:af):Prop:=
 ∀(next:Act->World->Prop) (Q:Exit->Act->World->Prop),(∀a1 v' w' g',a1.tmps=a.tmps->fZ P a1 a->Step B w g w' g'->MemR B w' g' m1->V w' g' v v'->next (a1.put o.dst v') w')->o.wp P a w next Q
theorem sU.done{P:Program}{a:Act}{o:Oper}{v:AV}{m1:af}{s:Sem Value}(h:ke P B w g s v m1)(hs:∀w,(execOp a.eval o).run P w=(do pure (.value (<- s)):Sem Next).run P w):sU P B w g a o v m1:=
 fun next Q hn=>qec hs h fun v' w' g' h1 h2 h3=>hn a v' w' g' rfl (fZ.refl _ _) h1 h2 h3
theorem sU.same{P:Program}{a:Act}{o:Oper}{v:AV}(hm:MemR B w g m){s:Sem Value}(h:∃v',s.run P w=.ok v' w/\V w g v v')(hs:∀w,(execOp a.eval o).run P w=(do pure (.value (<- s)):Sem Next).run P w):sU P B w g a o v m:=
 sU.done (ke.same hm h) hs
theorem qbu{ρ:Operand->AV}{ρ':Operand->Value}(hρ:∀x,V w g (ρ x) (ρ' x))(xs:Array Operand)(cs:List AV)(vs:Array Value)(hl:cs.length=vs.size)(hv:∀j,j<cs.length->V w g (cs.getD j .any) (vs.getD j undef)) :
  (xs.toList.map ρ++cs).length=(xs.map ρ'++vs).size/\∀j,j<(xs.toList.map ρ++cs).length->V w g ((xs.toList.map ρ++cs).getD j .any) ((xs.map ρ'++vs).getD j undef):=by
 refine ⟨by simp[hl],fun j hj=>?_⟩;simp only[aK,gV,l9,Array.getElem?_append,bA,Array.length_toList,Array.size_map]
 by_cases h1:j<xs.size
 .rw[ai h1,ai h1];simpa [h1] using hρ xs[j]
 .rw[ag h1,ag h1];simp at hj;simpa [aK,gV] using hv (j-xs.size) Z
theorem rR{ρ:Operand->AV}{ρ':Operand->Value}(hρ:∀x,V w g (ρ x) (ρ' x))(x:Option Operand):mR w g (x.map ρ) (x.map ρ'):=by
 cases x with
 | none=>trivial
 | some x=>exact hρ x
theorem ZF(hC:CfgOk C){callI:Nat->List AV->af->OM}(hI:∀f args m v m',callI f args m=some (v,m')->nT C.P f args m v m'/\∃fn,C.P.funcs[f]?=some fn/\fn.body.isSome)
  {R:Type} {fid:Nat} {d:Option Nat} {f:Nat} {args:List AV} {K:AV->af->Option R} {r:R} (h:iP C fid (gO callI) callI d f args m K=some r) (hm:MemR B w g m) (hB:B<=w.heap.size) {vs:Array Value}
  (hl:args.length=vs.size) (hv:∀j,j<args.length->V w g (args.getD j .any) (vs.getD j undef)) :
  ∃v m1 fn,K v m1=some r/\C.P.funcs[f]?=some fn/\fn.body.isSome/\Calls C.P f vs w fun e w'=>∃v' g',e=.returned v'/\Step B w g w' g'/\MemR B w' g' m1/\V w' g' v v':=by
 unfold iP at h
 cases hlm:C.libm f with
 | some hh=>
  rw[hlm] at h
  cases d with
  | some s=>cases h
  | none=>
   simp only[aU] at h;obtain ⟨⟨v,m1⟩,hr,h⟩:=h;obtain ⟨⟨fn,h1,h2⟩,h3⟩:=hC.libm f hh hlm;exact ⟨v,m1,fn,h,h1,h2,h3 args m v m1 hr B w g vs hm hB hl hv⟩
 | none=>
 rw[hlm] at h;simp only at h
 split at h
 .rename_i hh hlib;simp only[aU] at h;obtain ⟨v,hr,h⟩:=h;obtain ⟨⟨fn,h1,h2⟩,h3⟩:=hC.lib f hh hlib;exact ⟨v,m,fn,h,h1,h2,h3 args v hr m B w g vs hm hB hl hv⟩
 .split at h
  .split at h
   .simp only[aU] at h;obtain ⟨⟨v,m1⟩,hr,h⟩:=h
    cases hz:C.frzc fid f with
    | true=>
     rw[hz] at hr;simp only[zx,aU] at hr;obtain ⟨⟨rs,l⟩,hf,hc⟩:=hr;obtain ⟨g1,s1,hm1,hl1,hv1⟩:=qam hm hl hv hf;obtain ⟨h1,fn,h2,h3⟩:=hI _ _ _ _ _ hc;refine ⟨v,m1,fn,h,h2,h3,(h1 B w g1 vs hm1 hB hl1 hv1).mono ?_⟩;rintro e w' ⟨v',g',he,s,hm',hV⟩;exact ⟨v',g',he,s1.trans s,hm',hV⟩
    | false=>
    rw[hz] at hr;simp only at hr
    cases ht:C.thaw fid f with
    | false=>
     rw[ht] at hr;obtain ⟨h1,fn,h2,h3⟩:=hI _ _ _ _ _ hr;exact ⟨v,m1,fn,h,h2,h3,h1 B w g vs hm hB hl hv⟩
    | true=>
     rw[ht] at hr;simp only[AF,aU,fk] at hr;obtain ⟨⟨rs,l⟩,hf,⟨v0,m0⟩,hc,⟨v1,m2⟩,hth,he⟩:=hr;simp only[cw] at he;obtain ⟨rfl,rfl⟩:=he;obtain ⟨_,fn,h2,h3⟩:=hI _ _ _ _ _ hc;exact ⟨v1,_,fn,h,h2,h3,qdJ hm hB (fun args m v m' hh=>(hI _ _ _ _ _ hh).1) hl hv hf hc hth⟩
   .cases h
  .unfold aF at h;simp only[aU] at h;obtain ⟨⟨v,m1⟩,⟨⟨rs,l⟩,hf,hc⟩,h⟩:=h
   split at hc
   .cases hc
   .simp only[fk,cw] at hc;obtain ⟨v',hr,rfl,rfl⟩:=hc
    have hfn:∃fn,C.P.funcs[f]?=some fn/\fn.body.isSome:=by
     unfold gO at hr;simp only[aU] at hr;obtain ⟨⟨v0,m0⟩,hc,_⟩:=hr;exact (hI _ _ _ _ _ hc).2
    obtain ⟨fn,h1,h2⟩:=hfn;exact ⟨v',_,fn,h,h1,h2,qcr hm hB (fun args m v m' hh=>(hI _ _ _ _ _ hh).1) hl hv hf hr⟩
theorem qb2(hC:CfgOk C){callI:Nat->List AV->af->OM}(hI:∀f args m v m',callI f args m=some (v,m')->nT C.P f args m v m'/\∃fn,C.P.funcs[f]?=some fn/\fn.body.isSome)
  {R:Type} {fid:Nat} {d:Option Nat} {o:Oper} {ρ:Operand->AV} {K:AV->af->Option R} {r:R} {a:Act} (h:iB C fid (gO callI) callI d o ρ m K=some r) (hρ:∀x,V w g (ρ x) (a.eval x)) (hm:MemR B w g m) (hB:B<=w.heap.size) (hd0:jK o=true->∀s,d=some s->m.get s=some .resv) :
  ∃v m1,K v m1=some r/\sU C.P B w g a o v m1:=by
 unfold iB at h
 split at h
 .rename_i x hop;exact ⟨_,_,h,.same (s:=pure (a.eval x)) hm ⟨_,rfl,hρ x⟩ fun w=>by simp[execOp,hop]⟩
 .rename_i x hop;exact ⟨_,_,h,.same (s:=pure (a.eval x)) hm ⟨_,rfl,hρ x⟩ fun w=>by simp[execOp,hop]⟩
 .rename_i c x y hop;simp only[aU] at h;obtain ⟨v,hv,h⟩:=h;exact ⟨_,_,h,.same hm (qcn (hρ c) (hρ x) (hρ y) hv) fun w=>by simp[execOp,hop]⟩
 .rename_i t hop
  split at h
  .rename_i z hz;have hd:=hd0 (by simp[jK,hop]);exact ⟨_,_,h,.done (Xd hm hB hd hz) fun w=>by simp[execOp,hop]⟩
  .cases h
 .rename_i t x hop
  split at h
  .simp only[aU] at h;obtain ⟨⟨v,m1⟩,hv,h⟩:=h;have hd:=hd0 (by simp[jK,hop]);exact ⟨_,_,h,.done (Zv (t:=t) hm hB hd (hρ x) hv) fun w=>by simp[execOp,hop]⟩
  .cases h
 .rename_i t ps hop
  split at h
  .rename_i hst
   split at h
   .rename_i z l hz hl;simp only[aU] at h;obtain ⟨v,hv,h⟩:=h;exact ⟨_,_,h,.done (ZB hm hρ hst hz hl hv) fun w=>by simp[execOp,hop]⟩
   .cases h
  .cases h
 .rename_i t n ps hop
  split at h
  .rename_i e he
   split at h
   .rename_i sh hsh
    split at h
    .rename_i hcond;simp only[cg,n8,lc] at hcond;obtain ⟨⟨c1,c2⟩,c3⟩:=hcond;simp only[aU] at h;obtain ⟨v,hv,h⟩:=h
     have ht:C.P.underlying t=some (.slice e):=by
      unfold ta at he
      split at he
      .simp at he;subst he;assumption
      .cases he
     exact ⟨_,_,h,.done (ZA hm hB hρ ht c1 c2 c3 hv) fun w=>by simp[execOp,hop]⟩
    .cases h
   .cases h
  .cases h
 .rename_i t x hop
  split at h
  .rename_i sh hsh;simp only[aU] at h;obtain ⟨v,hv,h⟩:=h;exact ⟨_,_,h,.same hm (KS hm (hρ x) hv t hsh) fun w=>by simp[execOp,hop]⟩
  .cases h
 .rename_i t x y hop
  split at h
  .rename_i sh hsh;simp only[aU] at h;obtain ⟨m1,hv,h⟩:=h
   refine ⟨_,_,h,fun next Q hn=>?_⟩
   obtain ⟨w',h1,h2,h3⟩:=qdm (P:=C.P) hm (hρ x) (hρ y) hsh hv;have hr:(execOp a.eval o).run C.P w=.ok .skip w':=by simp[execOp,hop,h1]
   unfold Oper.wp;rw[hr];exact hn a undef w' g rfl (fZ.refl _ _) h2 h3 (.any _)
  .cases h
 .rename_i x hop;have hx:=hρ x;simp only[aU] at h;obtain ⟨v,hv,h⟩:=h;unfold d7 at hv
  split at hv
  .rename_i cs hcs;simp only[br] at hv;subst hv;rw[hcs] at hx
   cases hx':a.eval x with
   | pointer p=>
    cases p with
    | some p=>
     refine ⟨_,_,h,.same (s:=pure (.pointer (some p))) hm ⟨_,rfl,by rw[hx'] at hx;exact hx⟩ fun w=>by simp[execOp,hop,hx']⟩
    | none=>rw[hx'] at hx;cases hx
   | _=>rw[hx'] at hx;cases hx
  .rename_i nm off hcs;simp only[br] at hv;subst hv;rw[hcs] at hx
   cases hx':a.eval x with
   | pointer p=>
    cases p with
    | some p=>
     refine ⟨_,_,h,.same (s:=pure (.pointer (some p))) hm ⟨_,rfl,by rw[hx'] at hx;exact hx⟩ fun w=>by simp[execOp,hop,hx']⟩
    | none=>rw[hx'] at hx;cases hx
   | _=>rw[hx'] at hx;cases hx
  .rename_i f cs hcs;simp only[br] at hv;subst hv;rw[hcs] at hx
   cases hx':a.eval x with
   | func fn fi cap=>
    rw[hx'] at hx
    cases hx with
    | fn _ _ _ hl hv=>
     refine ⟨_,_,h,.same (s:=pure (.func (.func f) #[] cap)) hm ⟨_,rfl,.fn _ _ _ hl hv⟩ fun w=>by simp[execOp,hop,hx']⟩
   | _=>rw[hx'] at hx;cases hx
  .cases hv
 .rename_i op t x y _ hop;simp only[aU] at h;obtain ⟨v,hv,h⟩:=h;exact ⟨_,_,h,.same hm (Zt op t x y (hρ x) (hρ y) hv) fun w=>by simp[execOp,hop]⟩
 .rename_i op t x hop;simp only[aU] at h;obtain ⟨v,hv,h⟩:=h;exact ⟨_,_,h,.same hm (qd5 op (hρ x) hv) fun w=>by simp[execOp,hop]⟩
 .rename_i src dst x hop
  split at h
  .rename_i k hk
   split at h
   .rename_i hs;simp only[aU] at h;obtain ⟨v,hv,h⟩:=h;exact ⟨_,_,h,.same hm (ZV (hρ x) hv src dst hk hs) fun w=>by simp[execOp,hop]⟩
   .cases h
  .cases h
 .rename_i fn fi cs hop
  split at h
  .rename_i f hfi;have hfi':fi = #[]:=by simpa using hfi
   subst hfi';refine ⟨_,_,h,.same (s:=pure (.func (.func f) #[] (cs.map a.eval))) hm ⟨_,rfl,.fn _ _ _ aq fun j hj=>?_⟩ fun w=>by simp[execOp,hop,Instr.makeFunc]⟩;have hj':j<cs.size:=by simpa using hj
   simpa [aK,gV,hj'] using hρ cs[j]
  .cases h
 .rename_i t l c hop
  split at h
  .rename_i e he
   split at h
   .rename_i sh z hsh hz
    split at h
    .rename_i hel;simp only[aU] at h;obtain ⟨⟨v,m1⟩,hv,h⟩:=h
     have ht:C.P.underlying t=some (.slice e):=by
      unfold ta at he
      split at he
      .simp at he;subst he;assumption
      .cases he
     have hd:=hd0 (by simp[jK,hop])
     cases htk:C.tokm fid with
     | true=>rw[htk] at hv;exact ⟨_,_,h,.done (qbs hm hB ht hsh hel hz (hρ l) (hρ c) hv) fun w=>by simp[execOp,hop]⟩
     | false=>rw[htk] at hv;exact ⟨_,_,h,.done (qbt hm hB hd ht hsh hel hz (hρ l) (hρ c) hv) fun w=>by simp[execOp,hop]⟩
    .cases h
   .cases h
  .cases h
 .rename_i t x lo hi mx hop
  split at h
  .rename_i e ht
   split at h
   .rename_i sh hsh
    split at h
    .rename_i hel;simp only[aU] at h;obtain ⟨v,hv,h⟩:=h;unfold jZ at hv
     split at hv
     .rename_i sh' z o' es hx
      split at hv
      .rename_i hs;exact ⟨_,_,h,.same hm (qdd (hx▸hρ x) (rR hρ lo) (rR hρ hi) (rR hρ mx) hv t ht hsh hel hs) fun w=>by simp[execOp,hop]⟩
      .cases hv
     .rename_i nm off n sh' hx
      split at hv
      .rename_i hs;subst hs
       cases mx with
       | none=>exact ⟨_,_,h,.same hm (qdc (hx▸hρ x) (rR hρ lo) (rR hρ hi) hv t ht hel) fun w=>by simp[execOp,hop]⟩
       | some _=>simp[mJ] at hv
      .cases hv
     .cases hv
    .cases h
   .cases h
  .rename_i ht;simp only[aU] at h;obtain ⟨v,hv,h⟩:=h;unfold MH at hv
   split at hv
   .rename_i s hx
    cases mx with
    | none=>exact ⟨_,_,h,.same hm (qde (hx▸hρ x) (rR hρ lo) (rR hρ hi) hv t ht) fun w=>by simp[execOp,hop]⟩
    | some _=>simp[mJ] at hv
   .cases hv
  .cases h
 .rename_i t x f hop
  split at h
  .rename_i off sh hf;simp only[aU] at h;obtain ⟨v,hv,h⟩:=h;exact ⟨_,_,h,.same hm (qad (hρ x) hv t f hf) fun w=>by simp[execOp,hop]⟩
  .cases h
 .rename_i t x f hop
  split at h
  .rename_i off sh hf;simp only[aU] at h;obtain ⟨v,hv,h⟩:=h;exact ⟨_,_,h,.same hm (qae (hρ x) hv t f hf) fun w=>by simp[execOp,hop]⟩
  .cases h
 .rename_i t x i hop
  split at h
  .rename_i e ht
   split at h
   .rename_i sh hsh
    split at h
    .rename_i hel;simp only[aU] at h;obtain ⟨v,hv,h⟩:=h;exact ⟨_,_,h,.same hm (qaO (hρ x) (hρ i) hv t ht hel) fun w=>by simp[execOp,hop]⟩
    .cases h
   .cases h
  .rename_i n e ht
   split at h
   .rename_i sh hsh
    split at h
    .rename_i hel;simp only[aU] at h;obtain ⟨v,hv,h⟩:=h;exact ⟨_,_,h,.same hm (Xo (hρ x) (hρ i) hv t ht hel) fun w=>by simp[execOp,hop]⟩
    .cases h
   .cases h
  .cases h
 .rename_i t x i hop
  split at h
  .rename_i ht;simp only[aU] at h;obtain ⟨v,hv,h⟩:=h;exact ⟨_,_,h,.same hm (qaP (hρ x) (hρ i) hv t ht) fun w=>by simp[execOp,hop]⟩
  .cases h
 .rename_i t i hop;simp only[aU] at h;obtain ⟨v,hv,h⟩:=h;exact ⟨_,_,h,.same hm (qab (hρ t) hv) fun w=>by simp[execOp,hop]⟩
 .rename_i c hop
  split at h
  .rename_i f hc;simp only[aU] at h;obtain ⟨⟨g0,caps⟩,hfo,h⟩:=h;unfold jj at hfo
   split at hfo
   .rename_i f0 caps0 hf;simp only[br,cw] at hfo;obtain ⟨rfl,rfl⟩:=hfo;have hx:=hρ f;rw[hf] at hx
    obtain ⟨cv,hev,hl,hv⟩:∃cv,a.eval f=.func (.func f0) #[] cv/\caps0.length=cv.size/\∀j,j<caps0.length->V w g (caps0.getD j .any) (cv.getD j undef):=by
     generalize a.eval f=y at hx
     cases hx with
     | fn _ _ vs hl hv=>exact ⟨vs,rfl,hl,hv⟩
    obtain ⟨q1,q2⟩:=qbu hρ c.args caps0 cv hl hv;obtain ⟨v,m1,fn,hK,hfn,hbody,hcall⟩:=ZF hC hI h hm hB q1 q2
    refine ⟨v,m1,hK,fun next Q hn=>?_⟩
    refine qeb hop hc hev hfn (hC.name _ _ hfn) hbody hcall ?_;rintro e w' ⟨v',g',rfl,s,hm',hV⟩;exact ⟨v',rfl,hn a v' w' g' rfl (fZ.refl _ _) s hm' hV⟩
   .cases hfo
  .rename_i b hc
   have one:∀{x},c.args.toList.map ρ=[x]->∃x',c.args.map a.eval = #[x']/\V w g x x':=by
    intro x hvs
    match hca:c.args.toList,hvs with
    | [p],hvs=>
     simp at hvs;have:c.args = #[p]:=by cases hc':c.args;simp_all
     exact ⟨a.eval p,by simp[this],hvs▸hρ p⟩
   have two:∀{x y},c.args.toList.map ρ=[x,y]->∃x' y',c.args.map a.eval = #[x',y']/\V w g x x'/\V w g y y':=by
    intro x y hvs
    match hca:c.args.toList,hvs with
    | [p,q],hvs=>
     simp at hvs;have:c.args = #[p,q]:=by cases hc':c.args;simp_all
     exact ⟨a.eval p,a.eval q,by simp[this],hvs.1▸hρ p,hvs.2▸hρ q⟩
   unfold ri at h
   split at h
   .rename_i x hvs;obtain ⟨x',hargs,hx⟩:=one hvs
    split at h
    .rename_i e ht;simp only[aU] at h ht;obtain ⟨v,hv,h⟩:=h;obtain ⟨t,ht1,ht2⟩:=ht;exact ⟨_,_,h,.same hm (KI hx hv c.argTypes t o.type ht1 ⟨e,ht2⟩) fun w=>by simp[execOp,hop,resolve,hc,invoke,builtin,hargs]⟩
    .rename_i ht;simp only[aU] at h ht;obtain ⟨v,hv,h⟩:=h;obtain ⟨t,ht1,ht2⟩:=ht;exact ⟨_,_,h,.same hm (KI hx hv c.argTypes t o.type ht1 ht2) fun w=>by simp[execOp,hop,resolve,hc,invoke,builtin,hargs]⟩
    .cases h
   .rename_i x y hvs;obtain ⟨x',y',hargs,hx,hy⟩:=two hvs;simp only[aU] at h;obtain ⟨v,hv,h⟩:=h;have:=K7 (P:=C.P) hx hy hv;simp only[aY] at this;exact ⟨_,_,h,.same hm this fun w=>by simp[execOp,hop,resolve,hc,invoke,builtin,hargs,Builtin.max_]⟩
   .rename_i x y hvs;obtain ⟨x',y',hargs,hx,hy⟩:=two hvs;simp only[aU] at h;obtain ⟨v,hv,h⟩:=h;have:=K7 (P:=C.P) hx hy hv;simp only[iE,jJ] at this;exact ⟨_,_,h,.same hm this fun w=>by simp[execOp,hop,resolve,hc,invoke,builtin,hargs,Builtin.min_]⟩
   .rename_i x y hvs;obtain ⟨x',y',hargs,hx,hy⟩:=two hvs
    split at h
    .rename_i t t' ht ht'
     split at h
     .rename_i heq;subst heq
      split at h
      .rename_i e he
       split at h
       .rename_i sh hsh
        split at h
        .rename_i hcond;simp only[aU] at h;obtain ⟨⟨v,m1⟩,hv,h⟩:=h
         have hte:C.P.underlying t=some (.slice e):=by
          unfold ta at he
          split at he
          .simp at he;subst he;assumption
          .cases he
         have hd1:=hd0 (by simp[jK,hop,hc]);have hd:=Xm (P:=C.P) (ty:=o.type) hm hB hd1 hte hsh hcond hx hy hv;refine ⟨_,_,h,.done hd fun w=>?_⟩
         have hts:Builtin.append_ c.argTypes o.type #[x',y']=Builtin.append_ #[t,t] o.type #[x',y']:=by
          unfold Builtin.append_;simp[ht,ht']
         simp[execOp,hop,resolve,hc,invoke,builtin,hargs,hts]
        .cases h
       .cases h
      .cases h
     .cases h
    .cases h
   .cases h
  .cases h
 .rename_i t n hop
  split at h
  .split at h
   .rename_i kk e hty;exact ⟨_,_,h,.done (qbr hm hB hty) fun w=>by simp[execOp,hop]⟩
   .cases h
  .cases h
 .rename_i t x i ok hop
  split at h
  .rename_i kk e hty
   split at h
   .rename_i z hz;simp only[aU] at h;obtain ⟨⟨v,b⟩,hl,h⟩:=h;obtain ⟨v',hV,r1,r2⟩:=qbo hm (hρ x) (hρ i) hty hz hl
    split at h
    .exact ⟨_,_,h,.same hm ⟨_,r1,.tup _ _ rfl (fun j hj=>by
      match j,hj with
      | 0,_=>exact hV
      | 1,_=>exact .bool _)⟩ fun w=>by simp[execOp,hop]⟩
    .exact ⟨_,_,h,.same hm ⟨_,r2,hV⟩ fun w=>by simp[execOp,hop]⟩
   .cases h
  .cases h
 .rename_i t x i y hop
  split at h
  .rename_i kk e hty;simp only[aU] at h;obtain ⟨m1,hu,h⟩:=h
   refine ⟨_,_,h,fun next Q hn=>?_⟩
   obtain ⟨w',h1,h2,h3⟩:=Nf hm (hρ x) (hρ i) (hρ y) hty hu;have hr:(execOp a.eval o).run C.P w=.ok .skip w':=by simp[execOp,hop,h1]
   unfold Oper.wp;rw[hr];exact hn a undef w' g rfl (fZ.refl _ _) h2 h3 (.any _)
  .cases h
 .rename_i t x i y hop
  split at h
  .rename_i kk e hty;simp only[aU] at h;obtain ⟨m1,hu,h⟩:=h
   refine ⟨_,_,h,fun next Q hn=>?_⟩
   obtain ⟨w',h1,h2,h3⟩:=Nf hm (hρ x) (hρ i) (hρ y) hty hu;have hr:(execOp a.eval o).run C.P w=.ok .skip w':=by simp[execOp,hop,h1]
   unfold Oper.wp;rw[hr];exact hn a undef w' g rfl (fZ.refl _ _) h2 h3 (.any _)
  .cases h
 .rename_i c hop
  split at h
  .rename_i fo hc
   split at h
   .rename_i hargs;simp only[aU] at h;obtain ⟨⟨f,cs⟩,hfo,h⟩:=h
    split at h
    .rename_i hben
     refine ⟨_,_,h,fun next Q hn=>?_⟩
     have hf:=hρ fo;unfold jj at hfo
     split at hfo
     .rename_i f' cs' hx;simp only[br,cw] at hfo;obtain ⟨rfl,rfl⟩:=hfo;rw[hx] at hf;generalize hfe:a.eval fo=fv at hf
      cases hf with
      | fn _ _ caps _ _=>
       have hcargs:c.args = #[]:=by simpa using hargs
       have hr:(execOp a.eval o).run C.P w=.ok (.defer { target:=.fn (.func f') caps,args:=#[] }) w:=by
        simp only[execOp,hop,resolve,hc,hfe,Deferred.ofValue,hcargs,Sem.run_bind,Sem.run_pure,Result.andThen_ok,Array.map_empty,Array.empty_append,Array.append_empty]
       unfold Oper.wp;rw[hr]
       exact hn { a with defers:={ target:=.fn (.func f') caps,args:=#[] } :: a.defers } undef w g rfl (fun hb d hd=>by
        rcases cE.1 hd with rfl|hd
        .exact hC.ben _ hben caps
        .exact hb d hd) (Step.refl _ _ _) hm (.any _)
     .cases hfo
    .cases h
   .cases h
  .cases h
 .cases h
end
end Go.Ab
namespace Go.Ab
section
variable {R:Type} {C:Cfg} {fid:Nat} {callP:Nat->List AV->Option AV} {callI:Nat->List AV->af->OM}
def cT(C:Cfg)(fid:Nat)(callP:Nat->List AV->Option AV)(callI:Nat->List AV->af->OM)(d:Option Nat)(o:Oper)(ρ:Operand->AV)(m:af):OM:=iB C fid callP callI d o ρ m fun v m=>some (v,m)
theorem Lr(d:Option Nat)(o:Oper)(ρ:Operand->AV)(m:af)(K:AV->af->Option R):iB C fid callP callI d o ρ m K=(cT C fid callP callI d o ρ m).bind fun r=>K r.1 r.2:=by
 unfold cT iB
 split<;>first
  | rfl
  | (simp only[uM,O];done)
  | ((repeat' split)<;>first|rfl|(simp only[uM,O];done)|skip)
 .simp only[uM];congr 1;funext gc;unfold iP
  (repeat' split)<;>first|rfl|(simp only[uM,O];done)
 .unfold ri
  (repeat' split)<;>first|rfl|(simp only[uM,O];done)
 .simp only[uM];congr 1;funext gc;split<;>rfl
theorem DY{ρ ρ':Operand->AV}(xs:Array Operand)(h:∀x∈xs,ρ x=ρ' x):xs.toList.map ρ=xs.toList.map ρ':=List.map_congr_left fun x hx=>h x (by simpa using hx)
theorem qbX{d:Option Nat}{o:Oper}{ρ ρ':Operand->AV}{m:af}(h:∀x∈o.op.operands,ρ x=ρ' x):cT C fid callP callI d o ρ m=cT C fid callP callI d o ρ' m:=by
 unfold cT iB;cases hop:o.op<;>simp only[hop,Op.operands] at h<;>simp only[]
 case move x=>rw[h x aq]
 case assign x=>rw[h x aq]
 case pick c a b=>rw[h c aq,h a aq,h b aq]
 case box t x=>rw[h x aq]
 case build t ps=>
  have:ps.toList.mapM (fun p=>(rS C.P t p.1).map fun f=>(f.1,f.2,ρ p.2))=ps.toList.mapM (fun p=>(rS C.P t p.1).map fun f=>(f.1,f.2,ρ' p.2)):=by
   have hps:∀p∈ps.toList,ρ p.2=ρ' p.2:=fun p hp=>h p.2 (by simp;exact ⟨p.1,by simpa using hp⟩);generalize ps.toList=l at hps
   induction l with
   | nil=>rfl
   | cons p l ih=>
    simp only[List.mapM_cons];rw[hps p aq,ih fun q hq=>hps q (by simp[hq])]
  rw[this]
 case buildSlice t n ps=>
  have:(ps.toList.map fun p=>ρ p.2)=ps.toList.map fun p=>ρ' p.2:=List.map_congr_left fun p hp=>h p.2 (by simp;exact ⟨p.1,by simpa using hp⟩);rw[this]
 case load t x=>rw[h x aq]
 case store t x y=>rw[h x aq,h y aq]
 case nilCheck x=>rw[h x aq]
 case binOp op t x y ty=>rw[h x aq,h y aq]
 case unOp op t x=>rw[h x aq]
 case convert s t x=>rw[h x aq]
 case makeFunc fn fi cs=>
  rw[DY cs fun x hx=>h x (by simp[hx])]
 case makeSlice t l c=>rw[h l aq,h c aq]
 case slice t x lo hi mx=>
  have h1:lo.map ρ=lo.map ρ':=by cases lo with|none=>rfl|some y=>simp only[aP];rw[h y aq]
  have h2:hi.map ρ=hi.map ρ':=by cases hi with|none=>rfl|some y=>simp only[aP];rw[h y aq]
  have h3:mx.map ρ=mx.map ρ':=by cases mx with|none=>rfl|some y=>simp only[aP];rw[h y aq]
  rw[h1,h2,h3,h x aq]
 case fieldAddr t x f=>rw[h x aq]
 case field t x f=>rw[h x aq]
 case indexAddr t x i=>rw[h x aq,h i aq]
 case index t x i=>rw[h x aq,h i aq]
 case extract x i=>rw[h x aq]
 case lookup t x i ok=>rw[h x aq,h i aq]
 case mapUpdate t x i y=>rw[h x aq,h i aq,h y aq]
 case insert t x i y=>rw[h x aq,h i aq,h y aq]
 case defer c=>
  cases hc:c.callee with
  | value f=>
   simp only[Call.operands,hc] at h;simp only[];rw[h f aq]
  | _=>rfl
 case call c=>
  cases hc:c.callee with
  | value f=>
   simp only[Call.operands,hc] at h;rw[DY c.args fun x hx=>h x (by simp[hx])];simp only[];rw[h f aq]
  | builtin b=>
   simp only[Call.operands,hc] at h;rw[DY c.args fun x hx=>h x (by simp[hx])]
  | invoke r n=>rfl
def lA(m m':af):Prop:=(∀nm o,m.obj? nm=some o->m'.obj? nm=some o)/\∀nm kk es,m.get nm=some (.mp kk es)->m'.get nm=some (.mp kk es)
theorem lA.refl(m:af):lA m m:=⟨fun _ _ h=>h,fun _ _ _ h=>h⟩
theorem DW{f f':AV->Option (AV×List Nat)}(h:∀x r,f x=some r->f' x=some r):∀(cs:List AV) r,eU f cs=some r->eU f' cs=some r
 | [],r,hr=>hr
 | c::cs,r,hr=>by
  simp only[eU,aU,fk] at hr ⊢;obtain ⟨x,hx,y,hy,rfl⟩:=hr;exact ⟨x,h _ _ hx,y,DW h cs y hy,rfl⟩
theorem qat{m m':af}(h:lA m m'):∀(k:Nat) (x:AV) r,bW m k x=some r->bW m' k x=some r:=by
 intro k
 induction k with
 | zero=>intro x r hr;simp[bW] at hr
 | succ k ih=>
  intro x r hr;have hm:=DW ih
  cases x<;>simp only[bW] at hr ⊢<;>try exact hr
  .simp only[aU] at hr ⊢;obtain ⟨o,ho,hr⟩:=hr;refine ⟨o,h.1 _ _ ho,?_⟩
   split at hr
   .rename_i hc;rw[ai hc];simp only[aU] at hr ⊢;obtain ⟨y,hy,hr⟩:=hr;exact ⟨y,hm _ _ hy,hr⟩
   .cases hr
  .simp only[aU] at hr ⊢;obtain ⟨o,ho,hr⟩:=hr;refine ⟨o,h.1 _ _ ho,?_⟩
   split at hr
   .rename_i hc;rw[ai hc];simp only[fk] at hr ⊢;obtain ⟨y,hy,hr⟩:=hr;exact ⟨y,hm _ _ hy,hr⟩
   .cases hr
  all_goals
   simp only[fk] at hr ⊢;obtain ⟨y,hy,hr⟩:=hr;exact ⟨y,hm _ _ hy,hr⟩
theorem CW(x:Option AV)(m:af):(x.bind fun v=>some (v,m))=((x.bind fun v=>some (v,([]:af))).map fun r=>(r.1,m)):=by cases x<;>rfl
theorem Ln{d:Option Nat}{o:Oper}{ρ:Operand->AV}(hc:gA o=.N)(m:af):cT C fid callP callI d o ρ m=(cT C fid callP callI d o ρ []).map fun r=>(r.1,m):=by
 unfold cT iB;unfold gA at hc
 cases hop:o.op<;>simp only[hop] at hc ⊢<;>first
  | (cases hc;done)
  | rfl
  | exact CW _ _
  | ((repeat' split)<;>first|rfl|exact CW _ _|skip)
 .rename_i c _ f hc1;rw[hc1] at hc;cases hc
 .rename_i c _ b hc1;rw[hc1] at hc;unfold ri
  (repeat' split)<;>first|rfl|exact CW _ _|skip
  all_goals (simp at hc)
theorem tp{d:Option Nat}{o:Oper}{ρ:Operand->AV}{m m1:af}{v:AV}(hc:gA o=.N)(h:cT C fid callP callI d o ρ m=some (v,m1)):m1=m/\∀m',cT C fid callP callI d o ρ m'=some (v,m'):=by
 rw[Ln hc] at h;obtain ⟨r,hr,h⟩:=fk.1 h;simp only[cw] at h;obtain ⟨rfl,rfl⟩:=h;exact ⟨rfl,fun m'=>by rw[Ln hc,hr];rfl⟩
theorem qbz{m m':af}(hx:∀nm kk es,m.get nm=some (.mp kk es)->m'.get nm=some (.mp kk es)){kk:KK}{x:AV}{q:Nat×List (AV×AV)}(h:gR m kk x=some q):gR m' kk x=some q:=by
 unfold gR at h ⊢
 split at h
 .split at h
  .rename_i hg;rw[hx _ _ _ hg];exact h
  .cases h
 .cases h
theorem Lq{s:Option Nat}{o:Oper}{ρ:Operand->AV}{m m1:af}{v:AV}{t:Nat}{x i:Operand}{ok:Bool}(hop:o.op=.lookup t x i ok)(h:cT C fid callP callI s o ρ m=some (v,m1)) :
  m1=m/\∀s' m',(∀nm kk es,m.get nm=some (.mp kk es)->m'.get nm=some (.mp kk es))->cT C fid callP callI s' o ρ m'=some (v,m'):=by
 unfold cT iB at h ⊢;simp only[hop] at h ⊢
 split at h
 .rename_i kk e hty
  split at h
  .rename_i z hz;simp only[aU] at h;obtain ⟨r,hr,h⟩:=h;unfold i6 at hr;simp only[aU] at hr;obtain ⟨q,hq,hr⟩:=hr
   have hm:m1=m:=by
    split at h<;>(simp only[br,cw] at h;exact h.2.symm)
   refine ⟨hm,fun s' m' hx=>?_⟩;unfold i6;rw[qbz hx hq];simp only[O,hr];split at h<;>(simp only[br,cw] at h;rw[h.1])
  .cases h
 .cases h
theorem Em{s:Nat}{o:Oper}{ρ:Operand->AV}{m m1:af}{v:AV}(hc:gA o=.L)(h:cT C fid callP callI (some s) o ρ m=some (v,m1)):m1=m/\∀s' m',lA m m'->cT C fid callP callI (some s') o ρ m'=some (v,m'):=by
 unfold cT iB at h ⊢;unfold gA at hc
 cases hop:o.op<;>simp only[hop] at hc h ⊢<;>first|(cases hc;done)|skip
 case load t x=>
  split at h
  .rename_i sh hsh;simp only[aU,br,cw] at h;obtain ⟨u,hu,rfl,rfl⟩:=h;refine ⟨rfl,fun s' m' hx=>?_⟩
   have:am sh m' (ρ x)=some u:=by
    unfold am at hu ⊢
    split at hu
    .exact hu
    .simp only[aU] at hu ⊢;obtain ⟨o,ho,hu⟩:=hu;exact ⟨o,hx.1 _ _ ho,hu⟩
    .cases hu
   simp[this]
  .cases h
 case lookup t x i ok=>
  have h':cT C fid callP callI (some s) o ρ m=some (v,m1):=by unfold cT iB;simp only[hop];exact h
  obtain ⟨h1,h2⟩:=Lq hop h';refine ⟨h1,fun s' m' hx=>?_⟩;have:=h2 (some s') m' hx.2;unfold cT iB at this;simpa only[hop] using this
 case call c=>
  split at hc<;>first|(cases hc;done)|skip
  rename_i f hcal;simp only[hcal] at h ⊢;simp only[aU] at h ⊢;obtain ⟨gc,hgc,h⟩:=h
  have key:m1=m/\∀s' m',lA m m'->iP C fid callP callI (some s') gc.1 (List.map ρ c.args.toList++gc.2) m' (fun v m=>some (v,m))=some (v,m'):=by
   unfold iP at h ⊢
   cases hlm:C.libm gc.1 with
   | some hh=>rw[hlm] at h;cases h
   | none=>
   rw[hlm] at h;simp only at h ⊢
   split at h
   .rename_i hh hlib;simp only[aU,br,cw] at h;obtain ⟨u,hu,rfl,rfl⟩:=h;exact ⟨rfl,fun s' m' hx=>by simp[hlib,hu]⟩
   .rename_i hlib
    split at h
    .simp at h
    .rename_i hinl;simp only[aU] at h;obtain ⟨⟨u,mu⟩,hp,h⟩:=h;simp only[br,cw] at h;obtain ⟨rfl,rfl⟩:=h;unfold aF at hp;simp only[aU] at hp;obtain ⟨⟨rs,l⟩,hf,hp⟩:=hp
     split at hp
     .cases hp
     .rename_i hk;simp only[fk,cw] at hp;obtain ⟨u',hu,rfl,rfl⟩:=hp;have hl:l=[]:=by simpa using hk
      subst hl;refine ⟨rfl,fun s' m' hx=>?_⟩;have:=DW (qat hx iI) _ _ hf
      have hpc:aF callP (some s') m' gc.1 (List.map ρ c.args.toList++gc.2)=some (u',m'):=by
       unfold aF;simp only[this,O,List.isEmpty_nil,hZ,Bool.and_false,iE,jJ,hu]
       rfl
      rw[hpc]
      rfl
  exact ⟨key.1,fun s' m' hx=>⟨gc,hgc,key.2 s' m' hx⟩⟩
theorem pC(s:Nat)(m:af)(e:Ent):aC (some s) m e=(s,m.set s (some e)):=rfl
theorem z8{s:Nat}{o:Oper}{ρ:Operand->AV}{m m1:af}{v:AV}(hc:gA o=.A)(h:cT C fid callP callI (some s) o ρ m=some (v,m1)):∃e,m1=m.set s (some e)/\∀m',cT C fid callP callI (some s) o ρ m'=some (v,m'.set s (some e)):=by
 unfold cT iB at h ⊢;unfold gA at hc
 cases hop:o.op<;>simp only[hop] at hc h ⊢<;>first|(cases hc;done)|skip
 case alloc t=>
  split at h
  .rename_i z hz;simp only[pC,br,cw] at h;obtain ⟨rfl,rfl⟩:=h;exact ⟨_,rfl,fun m'=>rfl⟩
  .cases h
 case box t x=>
  split at h
  .rename_i sh hsh;simp only[aU] at h;obtain ⟨r,hr,h⟩:=h;unfold cQ at hr ⊢
   split at hr
   .rename_i hok;simp only[pC,br] at hr;subst hr;simp only[br,cw] at h;obtain ⟨rfl,rfl⟩:=h;exact ⟨_,rfl,fun m'=>by simp[hok,pC]⟩
   .cases hr
  .cases h
 case makeSlice t l c=>
  split at h
  .rename_i e he
   split at h
   .rename_i sh z hsh hz
    split at h
    .rename_i hel;simp only[aU] at h;obtain ⟨r,hr,h⟩:=h;simp only[br,cw] at h;obtain ⟨rfl,rfl⟩:=h
     cases htk:C.tokm fid with
     | true=>rw[htk] at hr;simp[rG] at hr
     | false=>
     rw[htk] at hr;simp only at hr;unfold fU at hr
     split at hr
     .rename_i kl l' kc c' hl hcc
      split at hr
      .rename_i hcond
       split at hr
       .rename_i heq;simp only[pC,br] at hr;subst hr;exact ⟨_,rfl,fun m'=>by rw[ai hel];simp only[fU,hl,hcc,ai hcond,ai heq,pC,O]⟩
       .rename_i hne
        split at hr
        .rename_i h0;simp only[pC,br] at hr;subst hr;exact ⟨_,rfl,fun m'=>by rw[ai hel];simp only[fU,hl,hcc,ai hcond,ag hne,ai h0,pC,O]⟩
        .cases hr
      .cases hr
     .cases hr
    .cases h
   .cases h
  .cases h
 case call c=>
  split at hc<;>cases hc
theorem De{m:af}{s:Nat}{e:Option Ent}(h:∀bx cs,m.get s≠some (.obj bx cs))(h':∀kk es,m.get s≠some (.mp kk es)):lA m (m.set s e):=by
 refine ⟨?_,fun nm kk es hg=>by
  rw[eY,ag (fun he:nm=s=>by subst he;exact h' kk es hg)];exact hg⟩
 intro nm o ho;unfold af.obj? at ho ⊢;rw[eY]
 by_cases hs:nm=s
 .subst hs
  split at ho
  .rename_i hh;exact absurd hh (h _ _)
  .cases ho
 .rw[ag hs];exact ho
theorem qbW{s:Nat}{o:Oper}{ρ:Operand->AV}{m m1:af}{v:AV}(hc:gA o=.Ap)(hs:m.get s=some .resv)(h:cT C fid callP callI (some s) o ρ m=some (v,m1)):lA m m1:=by
 have hres:∀e,lA m (m.set s e):=fun e=>De (fun bx cs hh=>by rw[hs] at hh;cases hh) (fun kk es hh=>by rw[hs] at hh;cases hh);unfold cT iB at h;unfold gA at hc
 cases hop:o.op<;>simp only[hop] at hc h<;>first|(cases hc;done)|skip
 case call c=>
  split at hc<;>first|(cases hc;done)|skip
  rename_i hcal;simp only[hcal] at h;unfold ri at h;split at h
  all_goals first|(rename_i hb _;cases hb;done)|skip
  .split at h
   .split at h
    .split at h
     .split at h
      .split at h
       .simp only[aU,br,cw] at h;obtain ⟨r,hr,rfl,rfl⟩:=h;unfold bF at hr
        split at hr
        .split at hr
         .simp only[br] at hr;subst hr;exact lA.refl m
         .split at hr
          .split at hr
           .split at hr
            .cases hr
            .split at hr
             .split at hr<;>(simp only[pC,br] at hr;subst hr;exact hres _)
             .cases hr
            .split at hr
             .split at hr
              .rename_i nm e' k sz hget
               split at hr
               .simp only[br] at hr;subst hr;exact De (fun bx cs hh=>by rw[hget] at hh;cases hh) (fun kk es hh=>by rw[hget] at hh;cases hh)
               .cases hr
              .cases hr
             .cases hr
           .cases hr
          .cases hr
        .simp[pa] at hr
       .cases h
      .cases h
     .cases h
    .cases h
   .cases h
  .cases h
end
end Go.Ab
namespace Go.Ab
section
variable {R:Type} (C:Cfg) (fid:Nat) (callP:Nat->List AV->Option AV) (callI:Nat->List AV->af->OM)
def fA(base:Option Nat)(ops:Array Oper)(i:Nat)(o:Oper)(ts:List AV)(m:af):OM:=match o.guard with
 | none=>cT C fid callP callI (base.map (· + cM ops i)) o (ev ts) m
 | some (j,want)=>match (ops[j]?).bind (·.dst) with
  | none=>none
  | some g=>match qI ops ts j with
   | true=>match ts.getD g .any with
    | .tup cs=>match cs with
     | []=>some (.tup [],m)
     | _::_=>none
    | _=>none
   | false=>match ts.getD g .any with
    | .bool b=>if b=want then cT C fid callP callI (base.map (· + cM ops i)) o (ev ts) m else some (.tup [],m)
    | _=>none
def cJ(base:Option Nat)(ops:Array Oper)(i:Nat)(st:St):Option St:=match ops[i]? with
 | none=>none
 | some o=>(fA C fid callP callI base ops i o st.tmps st.mem).map fun r=>⟨eF st.tmps o.dst r.1,r.2⟩
def fC(base:Option Nat)(ops:Array Oper):List Nat->St->Option St
 | [],st=>some st
 | i::l,st=>(cJ C fid callP callI base ops i st).bind (fC base ops l)
end
section
variable {R:Type} {C:Cfg} {fid:Nat} {callP:Nat->List AV->Option AV} {callI:Nat->List AV->af->OM}
theorem qc8{ts:List AV}{g:Nat}{v:AV}(h:ts.getD g .any=v)(hv:v≠.any):ts.set g v=ts:=by
 rcases mO g ts.length with hl|hl
 .rw[aK,bn hl] at h;simp only[bQ] at h;rw[<- h];exact List.set_getElem_self hl
 .rw[aK,kT hl] at h;exact absurd h.symm hv
theorem nN(base:Option Nat)(ops:Array Oper):∀(l:List Nat) (st:St) (K:St->Option R),jn C fid callP callI base ops l st K=(fC C fid callP callI base ops l st).bind K
 | [],st,K=>rfl
 | i::l,st,K=>by
  have ih:=nN base ops l;simp only[jn,fC,cJ]
  cases hi:ops[i]? with
  | none=>rfl
  | some o=>
   simp only[]
   cases hg:o.guard with
   | none=>
    simp only[fA,hg];rw[Lr];simp only[ih]
    cases cT C fid callP callI (base.map (· + cM ops i)) o (ev st.tmps) st.mem with
    | none=>rfl
    | some r=>rfl
   | some jw=>
    obtain ⟨j,want⟩:=jw;simp only[fA,hg]
    cases hd:(ops[j]?).bind (·.dst) with
    | none=>rfl
    | some g=>
     simp only[];generalize hv:st.tmps.getD g .any=v
     cases qI ops st.tmps j with
     | true=>
      simp only[]
      cases v with
      | tup cs=>
       cases cs with
       | nil=>simp only[ih];rfl
       | cons c cs=>rfl
      | _=>rfl
     | false=>
     simp only[]
     cases v with
     | bool b=>
      have hs:=qc8 hv aq
      have hrun:∀b0,st.tmps.set g (.bool b0)=st.tmps->(iB C fid callP callI (base.map (· + cM ops i)) o (ev (st.tmps.set g (.bool b0))) st.mem fun v m=>jn C fid callP callI base ops l ⟨eF (st.tmps.set g (.bool b0)) o.dst v,m⟩ K) =
        (((cT C fid callP callI (base.map (· + cM ops i)) o (ev st.tmps) st.mem).map fun r=>(⟨eF st.tmps o.dst r.1,r.2⟩:St)).bind (fC C fid callP callI base ops l)).bind K:=by
       intro b0 hs0;rw[hs0,Lr];simp only[ih]
       cases cT C fid callP callI (base.map (· + cM ops i)) o (ev st.tmps) st.mem with
       | none=>rfl
       | some r=>rfl
      have hskip:∀b0,st.tmps.set g (.bool b0)=st.tmps->jn C fid callP callI base ops l ⟨eF (st.tmps.set g (.bool b0)) o.dst (.tup []),st.mem⟩ K =
        (((some (AV.tup [],st.mem)).map fun r=>(⟨eF st.tmps o.dst r.1,r.2⟩:St)).bind (fC C fid callP callI base ops l)).bind K:=by
       intro b0 hs0;rw[hs0];simp only[ih]
       rfl
      cases want<;>cases b
      .exact hrun false hs
      .exact hskip true hs
      .exact hskip false hs
      .exact hrun true hs
     | _=>cases want<;>rfl
theorem Db{ts ts':List AV}(x:Operand)(h:∀t,x=.tmp t->ts.getD t .any=ts'.getD t .any):ev ts x=ev ts' x:=by
 cases x with
 | tmp t=>exact h t rfl
 | _=>rfl
theorem rQ{base:Option Nat}{ops:Array Oper}{i:Nat}{o:Oper}{ts ts':List AV}{m:af}(h:∀t∈ll ops o,ts.getD t .any=ts'.getD t .any):fA C fid callP callI base ops i o ts m=fA C fid callP callI base ops i o ts' m:=by
 have h1:cT C fid callP callI (base.map (· + cM ops i)) o (ev ts) m=cT C fid callP callI (base.map (· + cM ops i)) o (ev ts') m:=by
  refine qbX fun x hx=>Db x fun t ht=>h t ?_;unfold ll;refine cI.2 (.inl (List.mem_filterMap.2 ⟨x,by simpa using hx,?_⟩));rw[ht]
 unfold fA
 cases hg:o.guard with
 | none=>exact h1
 | some jw=>
  obtain ⟨j,want⟩:=jw;simp only[]
  cases hd:(ops[j]?).bind (·.dst) with
  | none=>rfl
  | some g=>
   simp only[];have h2:ts.getD g .any=ts'.getD g .any:=h g (by unfold ll;rw[hg];simp[hd])
   have h3:qI ops ts j=qI ops ts' j:=by
    unfold qI
    cases hq:(ops[j]?).bind (·.guard) with
    | none=>rfl
    | some jw'=>
     obtain ⟨j',w'⟩:=jw';simp only[]
     cases hd':(ops[j']?).bind (·.dst) with
     | none=>rfl
     | some g'=>
      simp only[];have h4:ts.getD g' .any=ts'.getD g' .any:=h g' (by unfold ll;rw[hg];simp[hq,hd']);rw[h4]
   rw[h2,h1,h3]
theorem pJ{ts:List AV}{d:Option Nat}{v:AV}{t:Nat}(h:d≠some t):(eF ts d v).getD t .any=ts.getD t .any:=by
 cases d with
 | none=>rfl
 | some d=>
  have:d≠t:=fun he=>h (by rw[he]);simp[eF,aK,uH,this]
theorem EM{ts:List AV}{d e:Option Nat}{v u:AV}(h:d=none\/d≠e):eF (eF ts d v) e u=eF (eF ts e u) d v:=by
 cases d with
 | none=>rfl
 | some d=>
  cases e with
  | none=>rfl
  | some e=>
   have:d≠e:=fun he=>by rcases h with h|h<;>simp_all
   exact List.set_comm _ _ this
theorem kA{base:Option Nat}{ops:Array Oper}{i:Nat}{o:Oper}{ts:List AV}{m m1:af}{v:AV}(h:fA C fid callP callI base ops i o ts m=some (v,m1)) :
  (cT C fid callP callI (base.map (· + cM ops i)) o (ev ts) m=some (v,m1)/\∀m',fA C fid callP callI base ops i o ts m'=cT C fid callP callI (base.map (· + cM ops i)) o (ev ts) m') \/
  (m1=m/\∀m',fA C fid callP callI base ops i o ts m'=some (v,m')):=by
 unfold fA at h ⊢
 cases hg:o.guard with
 | none=>simp only[hg] at h;exact .inl ⟨h,fun _=>rfl⟩
 | some jw=>
  obtain ⟨j,want⟩:=jw;simp only[hg] at h ⊢
  cases hd:(ops[j]?).bind (·.dst) with
  | none=>simp[hd] at h
  | some g=>
   simp only[hd] at h ⊢
   cases hsk:qI ops ts j with
   | true=>
    simp only[hsk] at h ⊢
    cases hv:ts.getD g .any with
    | tup cs=>
     simp only[hv] at h ⊢
     cases cs with
     | nil=>
      simp only[br,cw] at h;obtain ⟨rfl,rfl⟩:=h;exact .inr ⟨rfl,fun m'=>rfl⟩
     | cons c cs=>simp only at h;cases h
    | _=>simp only[hv] at h;cases h
   | false=>
   simp only[hsk] at h ⊢
   cases hv:ts.getD g .any with
   | bool b=>
    simp only[hv] at h ⊢
    by_cases hb:b=want
    .rw[ai hb] at h;exact .inl ⟨h,fun _=>by rw[ai hb]⟩
    .rw[ag hb] at h;simp only[br,cw] at h;obtain ⟨rfl,rfl⟩:=h;exact .inr ⟨rfl,fun m'=>by rw[ag hb]⟩
   | _=>simp only[hv] at h;cases h
theorem qbZ{s:Nat}{o:Oper}{ρ:Operand->AV}{m m1:af}{v:AV}(h:cT C fid callP callI (some s) o ρ m=some (v,m1))(x:Nat)(hx:m.get x=some .resv):(x=s/\jK o=true)\/m1.get x=some .resv:=by
 have hset:∀e,jK o=true->(x=s/\jK o=true)\/af.get (m.set s e) x=some .resv:=fun e hmk=>by
  by_cases hxs:x=s
  .exact .inl ⟨hxs,hmk⟩
  .exact .inr (by rw[eY,ag hxs];exact hx)
 cases hc:gA o with
 | N=>obtain ⟨rfl,_⟩:=tp hc h;exact .inr hx
 | L=>obtain ⟨rfl,_⟩:=Em hc h;exact .inr hx
 | A=>
  obtain ⟨e,rfl,_⟩:=z8 hc h;refine hset _ ?_;unfold gA at hc;unfold jK
  cases hop:o.op<;>simp only[hop] at hc<;>first|rfl|(cases hc;done)|(split at hc<;>cases hc)
 | Ap=>
  have hmk:jK o=true:=by
   unfold gA at hc;unfold jK
   cases hop:o.op<;>simp only[hop] at hc<;>first|(cases hc;done)|skip
   split at hc<;>first|(cases hc;done)|skip
   rename_i hcal;simp[hcal]
  unfold cT iB at h;unfold gA at hc
  cases hop:o.op<;>simp only[hop] at hc h<;>first|(cases hc;done)|skip
  case call c=>
   split at hc<;>first|(cases hc;done)|skip
   rename_i hcal;simp only[hcal] at h;unfold ri at h;split at h
   all_goals first|(rename_i hb _;cases hb;done)|skip
   .split at h
    .split at h
     .split at h
      .split at h
       .split at h
        .simp only[aU,br,cw] at h;obtain ⟨r,hr,rfl,rfl⟩:=h;unfold bF at hr
         split at hr
         .split at hr
          .simp only[br] at hr;subst hr;exact .inr hx
          .split at hr
           .split at hr
            .split at hr
             .cases hr
             .split at hr
              .split at hr<;>(simp only[pC,br] at hr;subst hr;exact hset _ hmk)
              .cases hr
             .split at hr
              .split at hr
               .rename_i nm e' k sz hget
                split at hr
                .simp only[br] at hr;subst hr;refine .inr ?_;simp only[];rw[eY,ag (fun he=>by subst he;rw[hget] at hx;cases hx)];exact hx
                .cases hr
               .cases hr
              .cases hr
            .cases hr
           .cases hr
         .simp[pa] at hr
        .cases h
       .cases h
      .cases h
     .cases h
    .cases h
   .cases h
 | W=>
  unfold cT iB at h;unfold gA at hc
  cases hop:o.op<;>simp only[hop] at hc h<;>first|(cases hc;done)|(cases h;done)|skip
  case store t y z=>
   split at h
   .rename_i sh hsh;simp only[aU,br,cw] at h;obtain ⟨m2,hm2,rfl,rfl⟩:=h;unfold aM at hm2
    split at hm2
    .rename_i nm off _;simp only[aU] at hm2;obtain ⟨ob,hob,hm2⟩:=hm2
     split at hm2
     .split at hm2
      .simp only[br] at hm2;subst hm2;refine .inr ?_
       rw[eY,ag (fun he=>by
        subst he;unfold af.obj? at hob;rw[hx] at hob
        cases hob)]
       exact hx
      .cases hm2
     .cases hm2
    .cases hm2
   .cases h
  case mapUpdate t y i z=>
   split at h
   .rename_i kk e _;simp only[aU,br,cw] at h;obtain ⟨m2,hu,rfl,rfl⟩:=h;simp only[gM,aU] at hu;obtain ⟨⟨nm,es⟩,hmp,hu⟩:=hu;simp only at hu
    split at hu
    .simp only[br] at hu;subst hu;refine .inr ?_
     rw[eY,ag (fun he=>by
      subst he;unfold gR at hmp
      split at hmp
      .split at hmp
       .rename_i hg
        split at hmp
        .simp only[br,cw] at hmp;obtain ⟨rfl,rfl⟩:=hmp;rw[hx] at hg;cases hg
        .cases hmp
       .cases hmp
      .cases hmp)]
     exact hx
    .cases hu
   .cases h
  case insert t y i z=>
   split at h
   .rename_i kk e _;simp only[aU,br,cw] at h;obtain ⟨m2,hu,rfl,rfl⟩:=h;simp only[gM,aU] at hu;obtain ⟨⟨nm,es⟩,hmp,hu⟩:=hu;simp only at hu
    split at hu
    .simp only[br] at hu;subst hu;refine .inr ?_
     rw[eY,ag (fun he=>by
      subst he;unfold gR at hmp
      split at hmp
      .split at hmp
       .rename_i hg
        split at hmp
        .simp only[br,cw] at hmp;obtain ⟨rfl,rfl⟩:=hmp;rw[hx] at hg;cases hg
        .cases hmp
       .cases hmp
      .cases hmp)]
     exact hx
    .cases hu
   .cases h
  case defer c=>
   split at h
   .split at h
    .simp only[aU] at h;obtain ⟨gc,_,h⟩:=h
     split at h
     .simp only[br,cw] at h;rw[<- h.2];exact .inr hx
     .cases h
    .cases h
   .cases h
  case call c=>
   split at hc<;>first|(cases hc;done)|skip
   rename_i hne1 hne2 hne3 hne4 hne5
   split at h
   .rename_i f hcal;exact absurd hcal (hne5 f)
   .rename_i b hcal;unfold ri at h
    split at h
    .exact absurd hcal hne1
    .exact absurd hcal hne2
    .exact absurd hcal hne3
    .exact absurd hcal hne4
    .cases h
   .cases h
theorem Me{ops:Array Oper}{i j:Nat}{x y:Oper}(hi:ops[i]?=some x)(hj:ops[j]?=some y)(hmi:jK x=true)(hmj:jK y=true)(hne:i≠j):cM ops i≠cM ops j:=by
 have key:∀i j x,i<j->ops[i]?=some x->jK x=true->cM ops i<cM ops j:=by
  intro i j x hlt hi hm
  have hil:i<ops.toList.length:=by
   have:=(cH.1 hi).1;simpa using this
  have h1:cM ops (i+1)=cM ops i+1:=by
   unfold cM
   have he:ops.toList[i]=x:=by
    have:=(cH.1 hi).2;simpa using this
   rw[kC hil,List.filter_append,aQ,he];simp[hm]
  have h2:cM ops (i+1)<=cM ops j:=by
   unfold cM;have:ops.toList.take (i+1)=(ops.toList.take j).take (i+1):=by rw[List.take_take];congr 1;omega
   rw[this];exact List.Sublist.length_le ((List.take_sublist _ _).filter _)
  omega
 rcases Nat.lt_or_gt_of_ne hne with h|h
 .exact Nat.ne_of_lt (key i j x h hi hmi)
 .exact Nat.ne_of_gt (key j i y h hj hmj)
def oK(ops:Array Oper)(b:Nat)(m:af)(l:List Nat):Prop:=∀i∈l,∀o,ops[i]?=some o->jK o=true->m.get (b+cM ops i)=some .resv
theorem nQ{base:Option Nat}{ops:Array Oper}{i:Nat}{st s1:St}(h:cJ C fid callP callI base ops i st=some s1):∃o v m1,ops[i]?=some o/\fA C fid callP callI base ops i o st.tmps st.mem=some (v,m1)/\s1=⟨eF st.tmps o.dst v,m1⟩:=by
 unfold cJ at h
 cases hi:ops[i]? with
 | none=>simp[hi] at h
 | some o=>
  simp only[hi] at h;obtain ⟨⟨v,m1⟩,hr,rfl⟩:=fk.1 h;exact ⟨o,v,m1,rfl,hr,rfl⟩
theorem Av{b:Nat}{ops:Array Oper}{j:Nat}{st s1:St}{l:List Nat}(h:cJ C fid callP callI (some b) ops j st=some s1)(hk:oK ops b st.mem l)(hj:j∉l):oK ops b s1.mem l:=by
 obtain ⟨o,v,m1,ho,hr,rfl⟩:=nQ h;intro i hi x hx hm;have hres:=hk i hi x hx hm
 rcases kA hr with ⟨hf,_⟩|⟨rfl,_⟩
 .rcases qbZ (s:=b+cM ops j) hf _ hres with ⟨he,hmo⟩|h
  .exact absurd (by omega:cM ops i=cM ops j) (Me hx ho hm hmo (fun he=>hj (he▸hi)))
  .exact h
 .exact hres
theorem yW{ops:Array Oper}{x y:Oper}(h:qb ops x y=true):(∀d,x.dst=some d->d∉ll ops y)/\(∀d,y.dst=some d->d∉ll ops x)/\(x.dst=none\/x.dst≠y.dst):=by
 unfold qb at h;simp only[cg] at h
 refine ⟨fun d hd=>?_,fun d hd=>?_,?_⟩
 .rw[hd] at h;simp at h;exact h.1.1
 .rw[hd] at h;simp at h;exact h.2
 .cases hx:x.dst with
  | none=>exact .inl rfl
  | some d=>
   rw[hx] at h;simp at h;exact .inr fun he=>h.1.2 he.symm
theorem DQ{x y:Oper}(h:gA x≠.L):vK x y=false:=by
 unfold vK
 split
 .rename_i hop;exact absurd (by unfold gA;simp only[hop]) h
 .rfl
theorem qb0{s:Option Nat}{o:Oper}{ρ:Operand->AV}{m m1:af}{v:AV}{t:Nat}{x y:Operand}(hop:o.op=.store t x y)(h:cT C fid callP callI s o ρ m=some (v,m1)) :
  ∀nm kk es,m.get nm=some (.mp kk es)->m1.get nm=some (.mp kk es):=by
 unfold cT iB at h;simp only[hop] at h
 split at h
 .simp only[aU,br,cw] at h;obtain ⟨m2,hm2,rfl,rfl⟩:=h;unfold aM at hm2
  split at hm2
  .rename_i nm0 off _;simp only[aU] at hm2;obtain ⟨ob,hob,hm2⟩:=hm2
   split at hm2
   .split at hm2
    .simp only[br] at hm2;subst hm2;intro nm kk es hg
     rw[eY,ag (fun he=>by
      subst he;unfold af.obj? at hob;rw[hg] at hob
      cases hob)]
     exact hg
    .cases hm2
   .cases hm2
  .cases hm2
 .cases h
theorem swap{b:Nat}{ops:Array Oper}{i j:Nat}{st s1 s2:St}{x y:Oper}(hx:ops[i]?=some x)(hy:ops[j]?=some y)(hne:i≠j)(hok:qK ops x y=true)(hk:oK ops b st.mem [i,j])
  (h1:cJ C fid callP callI (some b) ops i st=some s1) (h2:cJ C fid callP callI (some b) ops j s1=some s2):∃s1',cJ C fid callP callI (some b) ops j st=some s1'/\cJ C fid callP callI (some b) ops i s1'=some s2:=by
 obtain ⟨x',vi,mi,hx',hri,rfl⟩:=nQ h1;obtain rfl:x=x':=by simpa [hx] using hx'
 obtain ⟨y',vj,mj,hy',hrj,rfl⟩:=nQ h2;obtain rfl:y=y':=by simpa [hy] using hy'
 unfold qK at hok;simp only[cg] at hok;obtain ⟨hcls,hap⟩:=hok;obtain ⟨a1,a2,a3⟩:=yW hap;simp only at hrj;have cj:∀m,fA C fid callP callI (some b) ops j y (eF st.tmps x.dst vi) m=fA C fid callP callI (some b) ops j y st.tmps m:=fun m=>rQ fun t ht=>pJ fun hd=>a1 t hd ht;have ci:∀v m,fA C fid callP callI (some b) ops i x (eF st.tmps y.dst v) m=fA C fid callP callI (some b) ops i x st.tmps m:=fun v m=>rQ fun t ht=>pJ fun hd=>a2 t hd ht;rw[cj] at hrj
 have enough:∀m1,fA C fid callP callI (some b) ops j y st.tmps st.mem=some (vj,m1)->fA C fid callP callI (some b) ops i x st.tmps m1=some (vi,mj) ->
   ∃s1',cJ C fid callP callI (some b) ops j st=some s1'/\cJ C fid callP callI (some b) ops i s1'=some ⟨eF (eF st.tmps x.dst vi) y.dst vj,mj⟩:=by
  intro m1 e1 e2;refine ⟨⟨eF st.tmps y.dst vj,m1⟩,by simp[cJ,hy,e1],?_⟩;simp only[cJ,hx,ci,e2,aP];rw[EM a3]
 have nI:gA x=.N->mi=st.mem/\∀m',fA C fid callP callI (some b) ops i x st.tmps m'=some (vi,m'):=fun hc=>by
  rcases kA hri with ⟨hf,hall⟩|⟨rfl,hall⟩
  .obtain ⟨rfl,h⟩:=tp hc hf;exact ⟨rfl,fun m'=>(hall m').trans (h m')⟩
  .exact ⟨rfl,hall⟩
 have nJ:gA y=.N->mj=mi/\∀m',fA C fid callP callI (some b) ops j y st.tmps m'=some (vj,m'):=fun hc=>by
  rcases kA hrj with ⟨hf,hall⟩|⟨rfl,hall⟩
  .obtain ⟨rfl,h⟩:=tp hc hf;exact ⟨rfl,fun m'=>(hall m').trans (h m')⟩
  .exact ⟨rfl,hall⟩
 have lI:gA x=.L->mi=st.mem/\∀m',lA st.mem m'->fA C fid callP callI (some b) ops i x st.tmps m'=some (vi,m'):=fun hc=>by
  rcases kA hri with ⟨hf,hall⟩|⟨rfl,hall⟩
  .obtain ⟨rfl,h⟩:=Em (s:=b+cM ops i) hc hf;exact ⟨rfl,fun m' hm=>(hall m').trans (h _ m' hm)⟩
  .exact ⟨rfl,fun m' _=>hall m'⟩
 have kj:∀o,ops[j]?=some o->jK o=true->st.mem.get (b+cM ops j)=some .resv:=hk j aq
 have aMk:∀o:Oper,gA o=.A\/gA o=.Ap->jK o=true:=by
  intro o hc;unfold gA at hc;unfold jK
  cases hop:o.op<;>simp only[hop] at hc<;>first|rfl|(rcases hc with hc|hc<;>cases hc;done)|skip
  split at hc<;>first|(rcases hc with hc|hc<;>cases hc;done)|skip
  rename_i hcal;simp[hcal]
 cases hcx:gA x with
 | N=>
  obtain ⟨rfl,hall⟩:=nI hcx;exact enough mj hrj (hall mj)
 | L=>
  obtain ⟨rfl,hall⟩:=lI hcx
  cases hcy:gA y with
  | N=>
   obtain ⟨rfl,_⟩:=nJ hcy;exact enough _ hrj (hall _ (lA.refl _))
  | L=>
   have:mj=st.mem:=by
    rcases kA hrj with ⟨hf,_⟩|⟨rfl,_⟩
    .exact (Em (s:=b+cM ops j) hcy hf).1
    .rfl
   subst this;exact enough _ hrj (hall _ (lA.refl _))
  | A=>
   refine enough mj hrj (hall mj ?_)
   rcases kA hrj with ⟨hf,_⟩|⟨rfl,_⟩
   .obtain ⟨e,rfl,_⟩:=z8 (s:=b+cM ops j) hcy hf;exact De (fun bx cs hh=>by rw[kj y hy (aMk y (.inl hcy))] at hh;cases hh) (fun kk es hh=>by rw[kj y hy (aMk y (.inl hcy))] at hh;cases hh)
   .exact lA.refl _
  | Ap=>
   refine enough mj hrj (hall mj ?_)
   rcases kA hrj with ⟨hf,_⟩|⟨rfl,_⟩
   .exact qbW (s:=b+cM ops j) hcy (kj y hy (aMk y (.inr hcy))) hf
   .exact lA.refl _
  | W=>
   have hls:vK x y=true:=by rw[hcx,hcy] at hcls;simpa [vp] using hcls
   unfold vK at hls
   split at hls
   .rename_i tx xx ix okx hopx
    split at hls
    .rename_i ty yy zy hopy
     have hkeep:∀nm kk es,st.mem.get nm=some (.mp kk es)->mj.get nm=some (.mp kk es):=by
      rcases kA hrj with ⟨hf,_⟩|⟨rfl,_⟩
      .exact qb0 hopy hf
      .exact fun _ _ _ h=>h
     refine enough mj hrj ?_
     rcases kA hri with ⟨hf,hall'⟩|⟨_,hall'⟩
     .exact (hall' mj).trans ((Lq hopx hf).2 _ mj hkeep)
     .exact hall' mj
    .cases hls
   .cases hls
 | A=>
  cases hcy:gA y with
  | N=>
   obtain ⟨rfl,hall⟩:=nJ hcy;exact enough _ (hall _) hri
  | A=>
   have fj:∃f:af->af,(∀m',fA C fid callP callI (some b) ops j y st.tmps m'=some (vj,f m'))/\((∀m',f m'=m')\/∃e,∀m',f m'=m'.set (b+cM ops j) (some e)):=by
    rcases kA hrj with ⟨hf,hall⟩|⟨rfl,hall⟩
    .obtain ⟨e,_,h⟩:=z8 (s:=b+cM ops j) hcy hf;exact ⟨fun m'=>m'.set (b+cM ops j) (some e),fun m'=>(hall m').trans (h m'),.inr ⟨e,fun _=>rfl⟩⟩
    .exact ⟨id,hall,.inl fun _=>rfl⟩
   have fi:∃f:af->af,(∀m',fA C fid callP callI (some b) ops i x st.tmps m'=some (vi,f m'))/\((∀m',f m'=m')\/∃e,∀m',f m'=m'.set (b+cM ops i) (some e)):=by
    rcases kA hri with ⟨hf,hall⟩|⟨rfl,hall⟩
    .obtain ⟨e,_,h⟩:=z8 (s:=b+cM ops i) hcx hf;exact ⟨fun m'=>m'.set (b+cM ops i) (some e),fun m'=>(hall m').trans (h m'),.inr ⟨e,fun _=>rfl⟩⟩
    .exact ⟨id,hall,.inl fun _=>rfl⟩
   obtain ⟨f,f1,f2⟩:=fi;obtain ⟨h,h1,h2⟩:=fj;have em:mi=f st.mem:=by have:=f1 st.mem;rw[hri] at this;simpa using this
   have ej:mj=h mi:=by have:=h1 mi;rw[hrj] at this;simpa using this
   refine enough _ (h1 _) ?_;rw[f1,ej,em];congr 2;have hr:=Me hx hy (aMk x (.inl hcx)) (aMk y (.inl hcy)) hne
   rcases f2 with f2|⟨e,f2⟩<;>rcases h2 with h2|⟨e',h2⟩<;>simp only[f2,h2]
   exact (List.set_comm _ _ (by omega)).symm
  | _=>exact absurd hcls (by rw[hcx,hcy,DQ (by rw[hcx];simp)];simp[vp])
 | Ap=>
  cases hcy:gA y with
  | N=>
   obtain ⟨rfl,hall⟩:=nJ hcy;exact enough _ (hall _) hri
  | _=>exact absurd hcls (by rw[hcx,hcy,DQ (by rw[hcx];simp)];simp[vp])
 | W=>
  cases hcy:gA y with
  | N=>
   obtain ⟨rfl,hall⟩:=nJ hcy;exact enough _ (hall _) hri
  | _=>exact absurd hcls (by rw[hcx,hcy,DQ (by rw[hcx];simp)];simp[vp])
theorem first{b:Nat}{ops:Array Oper}{i:Nat}{x:Oper}(hx:ops[i]?=some x):∀(l:List Nat) (st s':St),l.Nodup->i∈l->oK ops b st.mem l->(∀(p q:List Nat),l=p++i::q->∀j∈p,∃y,ops[j]?=some y/\qK ops y x=true) ->
  fC C fid callP callI (some b) ops l st=some s'->∃s1,cJ C fid callP callI (some b) ops i st=some s1/\fC C fid callP callI (some b) ops (l.erase i) s1=some s'
 | [],_,_,_,hi,_,_,_=>by simp at hi
 | j::l,st,s',hnd,hi,hk,hsw,hr=>by
  simp only[fC,aU] at hr;obtain ⟨s1,h1,hr⟩:=hr
  by_cases he:j=i
  .subst he;exact ⟨s1,h1,by simpa using hr⟩
  .have hil:i∈l:=by rcases cE.1 hi with h|h<;>first|exact absurd h.symm he|exact h
   have hnd':=(lE.1 hnd)
   obtain ⟨s2,h2,hr2⟩:=first hx l s1 s' hnd'.2 hil (Av h1 (fun k hk'=>hk k (by simp[hk'])) hnd'.1) (fun p q hpq k hkp=>hsw (j::p) q (by rw[hpq];rfl) k (by simp[hkp])) hr
   obtain ⟨p,q,hpq⟩:=sH hil;obtain ⟨y,hy,hok⟩:=hsw (j::p) q (by rw[hpq];rfl) j aq
   obtain ⟨s1',k1,k2⟩:=swap hy hx he hok (fun k hk'=>hk k (by
    simp only[cE,sO,or_false] at hk'
    rcases hk' with rfl|rfl
    .simp
    .simp[hil])) h1 h2
   refine ⟨s1',k1,?_⟩
   have her:(j::l).erase i=j::l.erase i:=by
    rw[List.erase_cons,ag (by simpa using he)]
   rw[her];simp only[fC,k2,O];exact hr2
theorem I7(ops:Array Oper):∀n,(jR ops n).length=n
 | 0=>rfl
 | n+1=>by simp[jR,I7 ops n]
theorem vc(ops:Array Oper)(i:Nat):∀n,i<n->(jR ops n).getD i 0=match ops[i]? with
  | some o=>(o.after.toList.filter (Region.binds .any)).foldl (fun s e=>s ||| (2^e.on ||| (jR ops i).getD e.on 0)) 0
  | none=>0
 | 0,h=>Z
 | n+1,h=>by
  simp only[jR,aK,l9,I7]
  by_cases hi:i<n
  .rw[ai hi];have:=vc ops i n hi;simpa [aK] using this
  .obtain rfl:i=n:=Z;simp[aK];cases ops[i]?<;>rfl
theorem JZ(f:Edge->Nat)(j:Nat):∀(l:List Edge) (s:Nat),(l.foldl (fun s e=>s ||| (2^e.on ||| f e)) s).testBit j=true->s.testBit j=true\/∃e∈l,e.on=j\/(f e).testBit j=true
 | [],s,h=>.inl h
 | e::l,s,h=>by
  simp only[oO] at h
  rcases JZ f j l _ h with h|⟨e',he',h⟩
  .simp only[Nat.testBit_or,sk,Nat.testBit_two_pow,lc] at h
   rcases h with h|h|h
   .exact .inl h
   .exact .inr ⟨e,aq,.inl h⟩
   .exact .inr ⟨e,aq,.inr h⟩
  .exact .inr ⟨e',by simp[he'],h⟩
theorem yV{ops:Array Oper}{D:Nat->Prop}(hD:∀k o,D k->ops[k]?=some o->∀e∈o.after.toList,Region.binds .any e=true->D e.on)(hlt:∀k o,ops[k]?=some o->∀e∈o.after.toList,Region.binds .any e=true->e.on<k) :
  ∀(n i:Nat) (o:Oper),i<n->ops[i]?=some o->(∀e∈o.after.toList,Region.binds .any e=true->D e.on)->∀j,((jR ops n).getD i 0).testBit j=true->D j:=by
 intro n
 induction n with
 | zero=>intro i o h;omega
 | succ n ih=>
  intro i o hi ho he j hj;rw[vc ops i (n+1) hi,ho] at hj
  rcases JZ _ j _ _ hj with h|⟨e,hem,hj⟩
  .simp at h
  .obtain ⟨h1,h2⟩:=kB.1 hem
   rcases hj with rfl|hj
   .exact he e h1 h2
   .have hel:=hlt i o ho e h1 h2
    rcases hoe:ops[e.on]? with _|oe
    .rw[vc ops e.on i hel,hoe] at hj;simp at hj
    .have h3:(jR ops i).getD e.on 0=(jR ops n).getD e.on 0:=by
      rw[vc ops e.on i hel,vc ops e.on n Z]
     rw[h3] at hj;exact ih e.on oe Z hoe (fun e' he' hb=>hD e.on oe (he e h1 h2) hoe e' he' hb) j hj
theorem Lx{ops:Array Oper}{ah:List Nat}:∀{l:List Nat},tu ops ah l=true->∀(p q:List Nat) (i:Nat),l=p++i::q->∀j∈p,(ah.getD i 0).testBit j=true\/∃x y,ops[j]?=some x/\ops[i]?=some y/\qK ops x y=true
 | [],_,p,q,i,h,_,_=>by simp at h
 | k::l,hp,p,q,i,h,j,hj=>by
  simp only[tu,cg,fe] at hp
  match p,h with
  | k'::p,h=>
   simp only[cc,lY] at h;obtain ⟨rfl,rfl⟩:=h
   rcases cE.1 hj with rfl|hj
   .have:=hp.1 i aq
    rcases Bool.or_eq_true_iff.1 this with h|h
    .exact .inl h
    .refine .inr ?_
     split at h
     .exact ⟨_,_,by assumption,by assumption,h⟩
     .cases h
   .exact Lx hp.2 p q i rfl j hj
end
end Go.Ab
namespace Go.Ab
open Go.RowKit
def Dd:Ex->Exit
 | .normal=>.normal
 | .exit id=>.exit id
 | .ret=>.ret
section
variable [WInv] {C:Cfg} {B:Nat} {w:World} {g:G}
structure StR (B:Nat) (w:World) (g:G) (st:St) (a:Act):Prop where
 tmp:lG w g st.tmps a.tmps
 mem:MemR B w g st.mem
 size:B<=w.heap.size
def nn(C:Cfg)(callI:Nat->List AV->af->OM):Prop:=∀f args m v m',callI f args m=some (v,m')->nT C.P f args m v m'/\∃fn,C.P.funcs[f]?=some fn/\fn.body.isSome
theorem Ay(hC:CfgOk C){callI:Nat->List AV->af->OM}(hI:nn C callI){fid:Nat}{base:Option Nat}{ops:Array Oper}{i:Nat}{st s1:St}{a:Act}(h:cJ C fid (gO callI) callI base ops i st=some s1)(hs:StR B w g st a)
  (hk:∀b,base=some b->oK ops b st.mem [i]) {Q:Exit->Act->World->Prop} {next:Act->World->Prop} (hn:∀a' w' g',StR B w' g' s1 a'->Step B w g w' g'->fZ C.P a' a->next a' w'):wpOp C.P ops Q i next a w:=by
 obtain ⟨o,v,m1,ho,hr,rfl⟩:=nQ h
 have hrun:cT C fid (gO callI) callI (base.map (· + cM ops i)) o (ev st.tmps) st.mem=some (v,m1)->o.wp C.P a w next Q:=by
  intro hf
  obtain ⟨v2,m2,hK,hop⟩:=qb2 (a:=a) hC hI hf (JS hs.tmp) hs.mem hs.size (fun hmk s hb=>by
   obtain ⟨b,hb1,rfl⟩:=fk.1 hb
   exact hk b hb1 i aq o ho hmk)
  simp only[br,cw] at hK;obtain ⟨rfl,rfl⟩:=hK
  exact hop next Q fun a1 v' w' g' ht hd s hm hv=>hn _ w' g' ⟨lG.put (a:=a1) (by rw[ht];exact hs.tmp.step s) hv o.dst,hm,eP hs.size s.below.size⟩ s (fZ.trans (fZ.of_eq (L4 _ _ _)) hd)
 have hskip:v=.tup []/\m1=st.mem->next (a.put o.dst undef) w:=by
  rintro ⟨rfl,rfl⟩;exact hn _ w g ⟨hs.tmp.put (.tup [] #[] rfl (fun j hj=>absurd hj (Nat.not_lt_zero j))) o.dst,hs.mem,hs.size⟩ (Step.refl _ _ _) (fZ.of_eq (L4 _ _ _))
 unfold wpOp;simp only[ho];unfold fA at hr
 cases hg:o.guard with
 | none=>
  simp only[hg] at hr;have hw:Region.wanted o (yielded ops a.tmps)=true:=by simp[Region.wanted,hg]
  rw[hw,ai rfl];exact .inl (hrun hr)
 | some jw=>
  obtain ⟨j,want⟩:=jw;simp only[hg] at hr
  cases hd:(ops[j]?).bind (·.dst) with
  | none=>simp[hd] at hr
  | some d=>
   simp only[hd] at hr
   cases hsk:qI ops st.tmps j with
   | true=>
    simp only[hsk] at hr
    cases hv:st.tmps.getD d .any with
    | tup cs=>
     simp only[hv] at hr
     cases cs with
     | nil=>
      have hV:=hs.tmp.2 d;rw[hv] at hV
      have hy:yielded ops a.tmps j=none:=by
       unfold yielded;rw[hd];simp only[O];generalize hx:a.tmps.getD d undef=x at hV;cases hV;rw[gV] at hx
       cases hq:a.tmps[d]? with
       | none=>rfl
       | some y=>rw[hq] at hx;simp only[bQ] at hx;rw[hx]
      have hw:Region.wanted o (yielded ops a.tmps)=false:=by simp only[Region.wanted,hg,hy];rfl
      rw[hw];simp only[br,cw] at hr;exact hskip ⟨hr.1.symm,hr.2.symm⟩
     | cons c cs=>simp only at hr;cases hr
    | _=>simp only[hv] at hr;cases hr
   | false=>
   simp only[hsk] at hr
   cases hv:st.tmps.getD d .any with
   | bool b=>
    simp only[hv] at hr;have hV:=hs.tmp.2 d;rw[hv] at hV
    have hy:yielded ops a.tmps j=some b:=by
     unfold yielded;rw[hd];simp only[O];generalize hx:a.tmps.getD d undef=x at hV;cases hV
     have:a.tmps[d]?=some (.bool b):=by
      rw[gV] at hx
      cases hq:a.tmps[d]? with
      | none=>rw[hq] at hx;cases hx
      | some y=>rw[hq] at hx;simpa using hx
     rw[this]
    have hw:Region.wanted o (yielded ops a.tmps)=(some b==some want):=by simp only[Region.wanted,hg,hy]
    by_cases hb:b=want
    .rw[ai hb] at hr;have:(some b==some want)=true:=by simpa using hb
     rw[hw,this,ai rfl];exact .inl (hrun hr)
    .rw[ag hb] at hr;have:(some b==some want)=false:=by simpa using hb
     rw[hw,this];simp only[br,cw] at hr;exact hskip ⟨hr.1.symm,hr.2.symm⟩
   | _=>simp only[hv] at hr;cases hr
theorem Mn(hC:CfgOk C){callI:Nat->List AV->af->OM}(hI:nn C callI){fid:Nat}{ops:Array Oper}{Q:Exit->Act->World->Prop}:∀(l:List Nat) (st s':St) (a:Act) (w:World) (g:G),fC C fid (gO callI) callI none ops l st=some s'->StR B w g st a ->
  (∀a' w' g',StR B w' g' s' a'->Step B w g w' g'->fZ C.P a' a->Q .normal a' w')->wpOps C.P ops Q l a w
 | [],st,s',a,w,g,h,hs,hn=>by
  simp only[fC,br] at h;subst h;exact hn a w g hs (Step.refl _ _ _) (fZ.refl _ _)
 | i::l,st,s',a,w,g,h,hs,hn=>by
  simp only[fC,aU] at h;obtain ⟨s1,h1,h⟩:=h;rw[wpOps_cons];exact Ay hC hI h1 hs (fun b hb=>by cases hb) fun a' w' g' hs' s hd=>Mn hC hI l s1 s' a' w' g' h hs' fun a'' w'' g'' hs'' s' hd'=>hn a'' w'' g'' hs'' (s.trans s') (hd'.trans hd)
theorem zL:∀(l:List Nat),l≠[]->∃mn∈l,∀x∈l,mn<=x
 | [],h=>absurd rfl h
 | [x],_=>⟨x,aq,aq⟩
 | x::y::l,_=>by
  obtain ⟨mn,h1,h2⟩:=zL (y::l) aq
  by_cases hx:x<=mn
  .exact ⟨x,aq,fun z hz=>by
    rcases cE.1 hz with rfl|hz
    .exact aI _
    .exact eP hx (h2 z hz)⟩
  .exact ⟨mn,cP _ h1,fun z hz=>by
    rcases cE.1 hz with rfl|hz
    .omega
    .exact h2 z hz⟩
theorem Xe(hC:CfgOk C){callI:Nat->List AV->af->OM}(hI:nn C callI){fid b:Nat}{ops:Array Oper}{Q:Exit->Act->World->Prop}{canon:List Nat}(hlt:∀k o,ops[k]?=some o->∀e∈o.after.toList,Region.binds .any e=true->e.on<k)
  (hpairs:tu ops (o9 ops) canon=true) (hnd:canon.Nodup):∀(l:List Nat) (n:Nat),l.length=n->l.Sublist canon->∀(listed:Array Bool),listed.size=ops.size->(∀x,x<ops.size->(listed.getD x true=true↔x∉l))->(∀x∈l,x<ops.size) ->
  (∀k o,k<ops.size->k∉l->ops[k]?=some o->∀e∈o.after.toList,Region.binds .any e=true->e.on∉l) ->
  ∀(st s':St) (a:Act) (w:World) (g:G),fC C fid (gO callI) callI (some b) ops l st=some s'->oK ops b st.mem l->StR B w g st a ->
  (∀a' w' g',StR B w' g' s' a'->Step B w g w' g'->fZ C.P a' a->Q .normal a' w')->wpAny C.P .any ops Q n listed a w:=by
 intro l n hn
 induction n generalizing l with
 | zero=>
  intro hsub listed hsz hlist hin hdown st s' a w g hr hk hs hq;have hnil:l=[]:=kR hn;subst hnil;simp only[fC,br] at hr;subst hr;refine ⟨?_,hq a w g hs (Step.refl _ _ _) (fZ.refl _ _)⟩;unfold Region.ready;rw[List.filter_eq_nil_iff];intro x hx;have:listed.getD x true=true:=(hlist x (by simpa using hx)).2 aq;simp[this]
 | succ n ih=>
  intro hsub listed hsz hlist hin hdown st s' a w g hr hk hs hq
  have hready:∀i∈Region.ready .any ops listed,i∈l/\i<ops.size/\∃o,ops[i]?=some o/\∀e∈o.after.toList,Region.binds .any e=true->e.on∉l:=by
   intro i hi;unfold Region.ready at hi;simp only[kB,nY,cg,sj] at hi;obtain ⟨h1,h2,h3⟩:=hi
   have hil:i∈l:=by
    by_cases h:i∈l
    .exact h
    .have:=(hlist i h1).2 h;rw[this] at h2;cases h2
   refine ⟨hil,h1,ops[i],by simp[h1],fun e he hb hon=>?_⟩;have ho:ops[i]?=some ops[i]:=by simp[h1]
   rw[ho] at h3;simp only[aP,bQ] at h3;have h4:=nl.1 h3 e (by simpa using he);simp only[hb,hZ,Bool.false_or] at h4;have h5:=hlt i _ ho e he hb
   have h6:listed.getD e.on true=true:=by
    have hes:e.on<listed.size:=Z;simp only[Array.getD,hes,dif_pos] at h4 ⊢;exact h4
   exact (hlist e.on (by omega)).1 h6 hon
  refine ⟨fun hnone=>?_,fun i hi=>?_⟩
  ·
   exfalso;have hne:l≠[]:=fun h=>by rw[h] at hn;simp at hn
   obtain ⟨mn,hmn,hmin⟩:∃mn∈l,∀x∈l,mn<=x:=by
    exact zL l hne
   have hml:=hin mn hmn
   have:mn∈Region.ready .any ops listed:=by
    unfold Region.ready;simp only[kB,nY,cg,sj]
    refine ⟨hml,?_,?_⟩
    .cases hb:listed.getD mn true with
     | false=>rfl
     | true=>exact absurd hmn ((hlist mn hml).1 hb)
    .have ho:ops[mn]?=some ops[mn]:=by simp[hml]
     rw[ho];simp only[aP,bQ];rw[nl];intro e he
     by_cases hb:Region.binds .any e=true
     .have h5:=hlt mn _ ho e (by simpa using he) hb;have h6:e.on∉l:=fun h=>by have:=hmin _ h;omega
      have h7:=(hlist e.on (by omega)).2 h6;have hes:e.on<listed.size:=Z
      have h8:listed.getD e.on false=true:=by
       simp only[Array.getD,hes,dif_pos] at h7 ⊢;exact h7
      rw[h8];simp
     .simp at hb;simp[hb]
   rw[hnone] at this;simp at this
  .obtain ⟨hil,hio,x,hx,hedge⟩:=hready i hi
   obtain ⟨s1,h1,h2⟩:=first hx l st s' (hnd.sublist hsub) hil hk (fun p q hpq j hj=>by
    obtain ⟨pre,post,hcan⟩:∃pc qc,canon=pc++i::qc/\∀y∈p,y∈pc:=by
     rw[hpq] at hsub;obtain ⟨c1,c2,hc,hs1,hs2⟩:=List.append_sublist_iff.1 hsub
     obtain ⟨d1,d2,hd,hdi⟩:∃d1 d2,c2=d1++i::d2/\True:=by
      have:=hs2.subset (cF);obtain ⟨d1,d2,hd⟩:=sH this;exact ⟨d1,d2,hd,trivial⟩
     exact ⟨c1++d1,d2,by rw[hc,hd];simp,fun y hy=>cI.2 (.inl (hs1.subset hy))⟩
    rcases Lx hpairs pre post i hcan.1 j (hcan.2 j hj) with h|⟨y,x',hy,hx',hok⟩
    .exfalso;have hmem:((jR ops ops.size).getD i 0).testBit j=true:=h
     have:=yV (D:=fun k=>k∉l) (fun k o hk' hko e he hb=>by
      rcases mO k ops.size with hk1|hk1
      .exact hdown k o hk1 hk' hko e he hb
      .rw[tY hk1] at hko;cases hko) hlt ops.size i x hio hx hedge j hmem
     exact this (by rw[hpq];simp[hj])
    .obtain rfl:x=x':=by simpa [hx] using hx'
     exact ⟨y,hy,hok⟩) hr
   refine Ay hC hI h1 hs (fun b' hb'=>by cases hb';exact fun k hk'=>hk k (by simp at hk';rw[hk'];exact hil)) fun a' w' g' hs' s hd=>?_
   have hmem:∀y,y∈l.erase i↔y∈l/\y≠i:=fun y=>by
    rw[(hnd.sublist hsub).mem_erase_iff];exact And.comm
   refine ih (l.erase i) (by rw[yh hil];omega) (List.Sublist.trans List.erase_sublist hsub) (listed.setIfInBounds i true) (by simpa using hsz) (fun y hy=>?_) (fun y hy=>hin y ((hmem y).1 hy).1) (fun k o hk1 hk2 hko e he hb hon=>?_) s1 s' a' w' g' h2 (fun k hk' o ho hm=>?_) hs' fun a'' w'' g'' hs'' s' hd'=>hq a'' w'' g'' hs'' (s.trans s') (hd'.trans hd)
   .have hys:y<listed.size:=Z
    have hg:(listed.setIfInBounds i true).getD y true=if i=y then true else listed.getD y true:=by
     simp only[gV,wC]
     by_cases hiy:i=y
     .subst hiy;simp[hys]
     .simp[hiy]
    rw[hg,hmem]
    by_cases hiy:i=y
    .subst hiy;simp
    .rw[ag hiy,hlist y hy]
     constructor
     .intro h h';exact h h'.1
     .intro h h';exact h ⟨h',fun he=>hiy he.symm⟩
   .have hon':=(hmem _).1 hon
    by_cases hki:k=i
    .subst hki;obtain rfl:x=o:=by simpa [hx] using hko
     exact hedge e he hb hon'.1
    .exact hdown k o hk1 (fun h=>hk2 ((hmem k).2 ⟨h,hki⟩)) hko e he hb hon'.1
   .exact Av h1 (fun k' hk''=>hk k' ((hmem k').1 hk'').1) (fun h=>((hmem i).1 h).2 rfl) k hk' o ho hm
theorem K9{m:af}(hm:MemR B w g m):∀k,MemR B w g (m++List.replicate k (some .resv)):=by
 intro k
 have hget:∀x,af.get (m++List.replicate k (some .resv)) x=if x<m.length then m.get x else if x<m.length+k then some .resv else none:=by
  intro x;unfold af.get;rw[l9]
  by_cases h1:x<m.length
  .rw[ai h1,ai h1]
  .rw[ag h1,ag h1,sK]
   by_cases h2:x<m.length+k
   .rw[ai Z,ai h2];rfl
   .rw[ag Z,ag h2];rfl
 have old:∀x e,af.get (m++List.replicate k (some .resv)) x=some e->m.get x=some e\/(e=.resv/\m.length<=x):=by
  intro x e he;rw[hget] at he
  split at he
  .exact .inl he
  .split at he
   .simp at he;exact .inr ⟨he.symm,Z⟩
   .cases he
 have hblk:∀x b,aS g (m++List.replicate k (some .resv)) x=some b->aS g m x=some b:=by
  intro x b hb
  rcases lK hb with ⟨bx,cs,h1,h2⟩|⟨n,sz,h1,h2⟩|⟨kk,es,h1,h2⟩
  .rcases old _ _ h1 with h|⟨h,_⟩
   .simp[aS,h,h2]
   .cases h
  .rcases old _ _ h1 with h|⟨h,_⟩
   .simp[aS,h,h2]
   .cases h
  .rcases old _ _ h1 with h|⟨h,_⟩
   .simp[aS,h,h2]
   .cases h
 refine ⟨fun nm bx cs h=>?_,fun nm n sz h=>?_,fun nm h=>?_,fun nm h=>?_,fun nm nm' b h1 h2=>hm.inj nm nm' b (hblk _ _ h1) (hblk _ _ h2),hm.wrLt,hm.inv,hm.boxLt,fun nm kk es h=>by
  rcases old _ _ h with h|⟨h,_⟩
  .exact hm.mp nm kk es h
  .cases h⟩
 .rcases old _ _ h with h|⟨h,_⟩
  .exact hm.obj nm bx cs h
  .cases h
 .rcases old _ _ h with h|⟨h,_⟩
  .exact hm.tok nm n sz h
  .cases h
 .rcases old _ _ h with h|⟨_,h⟩
  .exact hm.resv nm h
  .exact hm.fresh nm h
 .exact hm.fresh nm (by simp at h;omega)
theorem Mg(m:af)(c:Nat):ck m c=m++List.replicate c (some .resv):=by
 cases c with
 | zero=>simp[ck]
 | succ c=>rfl
theorem Kp(ops:Array Oper)(m:af)(l:List Nat):oK ops m.length (m++List.replicate (cM ops ops.size) (some .resv)) l:=by
 intro i _ o ho hm;have hi:=(cH.1 ho).1
 have hlt:cM ops i<cM ops ops.size:=by
  have hil:i<ops.toList.length:=by simpa using hi
  have h1:cM ops (i+1)=cM ops i+1:=by
   unfold cM
   have he:ops.toList[i]=o:=by
    have:=(cH.1 ho).2;simpa using this
   rw[kC hil,List.filter_append,aQ,he];simp[hm]
  have h2:cM ops (i+1)<=cM ops ops.size:=by
   unfold cM;have:ops.toList.take (i+1)=(ops.toList.take ops.size).take (i+1):=by rw[List.take_take];congr 1;omega
   rw[this];exact List.Sublist.length_le ((List.take_sublist _ _).filter _)
  omega
 unfold af.get;rw[ma Z,sK,ai Z]
 rfl
theorem Z6(hC:CfgOk C){callI:Nat->List AV->af->OM}(hI:nn C callI){R:Type}{fid id:Nat}{ops:Array Oper}{Q:Exit->Act->World->Prop}{canon:List Nat}(hok:zn C.P ops canon=true){st:St}{K:St->Option R}{r:R}{a:Act}
  (h:jn C fid (gO callI) callI (some st.mem.length) ops canon ⟨st.tmps,ck st.mem (cM ops ops.size)⟩ K=some r) (hs:StR B w g st a)
  (hn:∀s' a' w' g',K s'=some r->StR B w' g' s' a'->Step B w g w' g'->fZ C.P a' a->Q .normal a' w'):(Code.region id ops true).wp C.P Q a w:=by
 unfold zn at hok;simp only[cg] at hok;obtain ⟨⟨⟨h1,h2⟩,h3⟩,h4⟩:=hok;have hperm:canon.Perm (List.range ops.size):=List.isPerm_iff.1 h2
 have hlt:∀k o,ops[k]?=some o->∀e∈o.after.toList,Region.binds .any e=true->e.on<k:=by
  intro k o hk e he hb;have hkl:=(cH.1 hk).1;have:=fe.1 h3 k (by simpa using hkl);rw[hk] at this;simp only at this;have:=nl.1 this e (by simpa using he);simpa [hb] using this
 rw[nN,Mg] at h;simp only[aU] at h;obtain ⟨s',hr,hK⟩:=h;refine wp_region_any h1 ?_
 refine Xe hC hI hlt h4 (hperm.nodup_iff.2 List.nodup_range) canon ops.size (by rw[hperm.length_eq];simp) (List.Sublist.refl _) _ aq (fun x hx=>?_) (fun x hx=>by simpa using hperm.mem_iff.1 hx) (fun k o hk hk'=>?_) _ s' a _ g hr (Kp ops st.mem canon) ⟨hs.tmp.step (Step.drew B w g),K9 (B:=B) (w:=w.drew) (g:=g) hs.mem.drew _,hs.size⟩ ?_
 .have:x∈canon:=hperm.mem_iff.2 (by simpa using hx);simp[this,Array.getD,hx]
 .exact absurd (hperm.mem_iff.2 (by simpa using hk)) hk'
 .intro a' w' g' hs' s hd;exact hn s' a' w' g' hK hs' ((Step.drew B w g).trans s) hd
theorem zQ:∀(bs:List Bool) (ts:List AV) (t:Nat),(lm bs ts).length=ts.length/\((lm bs ts).getD t .any=ts.getD t .any\/(lm bs ts).getD t .any=.any)
 | bs,[],t=>by cases bs<;>simp[lm]
 | [],v::vs,t=>by
  have ih:=zQ [] vs;refine ⟨by simp[lm,(ih 0).1],?_⟩
  cases t with
  | zero=>simp[lm]
  | succ t=>simpa [lm] using (ih t).2
 | b::bs,v::vs,t=>by
  have ih:=zQ bs vs;refine ⟨by simp[lm,(ih 0).1],?_⟩
  cases t with
  | zero=>cases b<;>simp[lm]
  | succ t=>simpa [lm] using (ih t).2
theorem lG.mask{ts:List AV}{vs:Array Value}(h:lG w g ts vs)(bs:List Bool):lG w g (lm bs ts) vs:=
 ⟨(zQ bs ts 0).1.trans h.1,fun t=>by
  rcases (zQ bs ts t).2 with h'|h'
  .rw[h'];exact h.2 t
  .rw[h'];exact .any _⟩
def LW(P:Program)(c:Code)(Q:Exit->Act->World->Prop)(a:Act)(w:World):Prop:=
 ∀(b:Frame) (k:List Item) (cs:List Frame),∃e a' w',Q e a' w'/\Arrives P (lone (b.at a (.inLoop c::k)) cs w) b k cs e a' w'
theorem KV{P:Program}{c:Code}{Q:Exit->Act->World->Prop}{a:Act}{w:World}(h:c.wp P (Exit.then (LW P c Q) Q) a w)(m:List Item->Item)(b:Frame)(k:List Item)(cs:List Frame)
  (hm:step P (lone (b.at a (m k::k)) cs w)=.next (lone (b.at a (.code c :: .inLoop c::k)) cs w)):∃e a' w',Q e a' w'/\Arrives P (lone (b.at a (m k::k)) cs w) b k cs e a' w':=by
 obtain ⟨e,a₁,w₁,hq,harr⟩:=h b (.inLoop c::k) cs
 cases e with
 | normal=>
  obtain ⟨e₂,a₂,w₂,hq₂,harr₂⟩:=hq b k cs;exact ⟨e₂,a₂,w₂,hq₂,.of_steps (.head hm harr) harr₂⟩
 | exit id=>exact ⟨_,a₁,w₁,hq,.of_steps (.one hm) (.pass (x:=.inLoop c) rfl (fun _ _=>.inl aq) harr)⟩
 | goto l=>exact ⟨_,a₁,w₁,hq,.of_steps (.one hm) (.pass (x:=.inLoop c) rfl (fun _ _=>.inl aq) harr)⟩
 | ret=>exact ⟨_,a₁,w₁,hq,.of_steps (.one hm) (.pass (x:=.inLoop c) rfl (fun _ _=>.inl aq) harr)⟩
 | panic ch=>exact ⟨_,a₁,w₁,hq,.of_steps (.one hm) (.pass (x:=.inLoop c) rfl (fun _ _=>.inl aq) harr)⟩
 | outgrown=>exact ⟨_,a₁,w₁,hq,.of_steps (.one hm) (.pass (x:=.inLoop c) rfl (fun _ _=>.inl aq) harr)⟩
theorem qea{P:Program}{c:Code}{Q:Exit->Act->World->Prop}{a:Act}{w:World}(h:c.wp P (Exit.then (LW P c Q) Q) a w):(Code.loop c).wp P Q a w:=fun b k cs=>KV h (fun _=>.code (.loop c)) b k cs step_loop
theorem qbq{P:Program}{c:Code}{Q:Exit->Act->World->Prop}{a:Act}{w:World}(h:c.wp P (Exit.then (LW P c Q) Q) a w):LW P c Q a w:=fun b k cs=>KV h (fun _=>.inLoop c) b k cs step_inLoop
def AS(C:Cfg)(B:Nat){R:Type}(w:World)(g:G)(a:Act)(K:Ex->St->Option R)(r:R)(Q:Exit->Act->World->Prop):Prop:=
 ∀e st' a' w' g',K e st'=some r->StR B w' g' st' a'->Step B w g w' g'->fZ C.P a' a->Q (Dd e) a' w'
def Ak(vs:Array Value):ResultVar->Sem Value
 | .tmp t=>pure (vs.getD t undef)
 | .cell a t=>do loadVar t (<- asAddr (vs.getD a undef))
theorem qcO(fn:Func)(vs:Array Value):results fn vs=(do let l <- fn.results.mapM (Ak vs);pure (if h:l.size=1 then l[0] else .tuple l)):=rfl
theorem Mh{P:Program}{m:af}(hm:MemR B w g m){ts:List AV}{vs:Array Value}(ht:lG w g ts vs):∀(rs:List ResultVar) (l:List AV),ov P m ts rs=some l ->
  ∃vl:List Value,(rs.mapM (Ak vs)).run P w=.ok vl w/\vl.length=l.length/\∀j,j<l.length->V w g (l.getD j .any) (vl.getD j undef)
 | [],l,h=>by simp only[ov,br] at h;subst h;exact ⟨[],aq,rfl,aq⟩
 | r::rs,l,h=>by
  simp only[ov,aU,fk] at h;obtain ⟨v,hv,l',hl',rfl⟩:=h;obtain ⟨vl,h1,h2,h3⟩:=Mh hm ht rs l' hl'
  have hone:∃v',(Ak vs r).run P w=.ok v' w/\V w g v v':=by
   cases r with
   | tmp t=>simp only[wc,br] at hv;subst hv;exact ⟨_,rfl,ht.2 t⟩
   | cell a t=>
    simp only[wc,aU] at hv;obtain ⟨sh,hsh,hv⟩:=hv;obtain ⟨v',hr,hV⟩:=KS (P:=P) hm (ht.2 a) hv t hsh;refine ⟨v',?_,hV⟩;unfold Instr.loadAt at hr;unfold am at hv
    have hp:∃p,vs.getD a undef=.pointer (some p):=by
     have hVa:=ht.2 a
     split at hv
     .rename_i he;rw[he] at hVa;generalize vs.getD a undef=x at hVa;cases hVa;exact ⟨_,rfl⟩
     .rename_i he;rw[he] at hVa;generalize vs.getD a undef=x at hVa;cases hVa;exact ⟨_,rfl⟩
     .cases hv
    obtain ⟨p,hp⟩:=hp;rw[hp] at hr
    have hrv:Ak vs (.cell a t)=(do loadVar t (<- asAddr (.pointer (some p)))):=by
     show (do loadVar t (<- asAddr (vs.getD a undef)):Sem Value)=_
     rw[hp]
    rw[hrv];simpa [Instr.sureAddr,asAddr] using hr
  obtain ⟨v',e1,e2⟩:=hone
  refine ⟨v'::vl,?_,by simp[h2],fun j hj=>?_⟩
  .rw[List.mapM_cons];simp only[Sem.run_bind,e1,Result.andThen_ok,h1,Sem.run_pure]
  .cases j with
   | zero=>simpa using e2
   | succ j=>simpa using h3 j (by simpa using hj)
theorem Al{R:Type}(P:Program)(m:af)(ts:List AV):∀(rs:List ResultVar) (K:List AV->Option R),rU P m ts rs K=(ov P m ts rs).bind K
 | [],K=>rfl
 | .tmp t::rs,K=>by
  simp only[rU,ov,wc,O,Al P m ts rs];cases ov P m ts rs<;>rfl
 | .cell a t::rs,K=>by
  simp only[rU,ov,wc]
  cases gG P t with
  | none=>rfl
  | some sh=>
   simp only[O,Al P m ts rs]
   cases am sh m (ts.getD a .any) with
   | none=>rfl
   | some v=>
    simp only[O];cases ov P m ts rs<;>rfl
theorem qbV{l:List AV}{vl:List Value}(h2:vl.length=l.length)(h3:∀j,j<l.length->V w g (l.getD j .any) (vl.getD j undef)):V w g (vT l) (if h:vl.toArray.size=1 then vl.toArray[0] else .tuple vl.toArray):=by
 match l,vl,h2 with
 | [],[],_=>exact .tup [] #[] rfl aq
 | [x],[y],_=>simpa [vT] using h3 0 aq
 | x::x'::l,y::y'::vl,h2=>
  have:¬ (y::y'::vl).toArray.size=1:=aq;rw[dif_neg this];refine .tup _ _ (by simp at h2 ⊢;omega) fun j hj=>?_;have:=h3 j hj;simpa [aK,gV] using this
end
end Go.Ab
namespace Go.Ab
open Go.RowKit
def rl(y x:Oper):Option (Bool×Nat×Nat×Nat×Nat):=match y.guard with
 | some _=>none
 | none=>match x.guard with
  | some _=>none
  | none=>match x.dst with
   | some _=>none
   | none=>match x.op with
    | .store t2 (.tmp u) _=>match y.op with
     | .load t1 (.tmp t)=>some (true,t1,t,t2,u)
     | .store t1 (.tmp t) _=>match y.dst with
      | none=>some (false,t1,t,t2,u)
      | some _=>none
     | _=>none
    | _=>none
def CQ(n1 n2:Nat)(x y:AV):Bool:=match x,y with
 | .ptr a o,.ptr b p=>!(a==b)||(decide (o+n1<=p)||decide (p+n2<=o))
 | _,_=>false
def Ea(x y:AV):Bool:=match y with
 | .ptr b _=>match x with
  | .vptr _=>true
  | .ptr a _=>!(a==b)
  | _=>false
 | _=>false
def vw(P:Program)(c:Bool×Nat×Nat×Nat×Nat)(ts:List AV):Bool:=match c with
 | (b,t1,t,t2,u)=>match b with
  | true=>Ea (ts.getD t .any) (ts.getD u .any)
  | false=>match gG P t1 with
   | none=>false
   | some s1=>match gG P t2 with
    | none=>false
    | some s2=>CQ s1.size s2.size (ts.getD t .any) (ts.getD u .any)
def vu(P:Program)(ops:Array Oper)(j i:Nat)(ts:List AV):Bool:=match ops[j]? with
 | none=>false
 | some y=>match ops[i]? with
  | none=>false
  | some x=>match rl y x with
   | none=>false
   | some c=>vw P c ts
def nS{R:Type}(P:Program)(ops:Array Oper)(st:St)(K:St->Option R):List (Nat×Nat)->Option R
 | []=>K st
 | (j,i)::sp=>match vu P ops j i st.tmps with
  | true=>nS P ops st K sp
  | false=>none
def C1(ops:Array Oper)(ah:List Nat)(j i:Nat)(r:List Nat):Bool:=match ops[j]? with
 | none=>false
 | some y=>match ops[i]? with
  | none=>false
  | some x=>match rl y x with
   | none=>false
   | some (_,_,t,_,u)=>qb ops y x&&r.all (fun k=>match ops[k]? with|some o=>o.dst != some t&&(o.dst != some u||(ah.getD i 0).testBit k)|none=>true)
def rz:List (Nat×Nat)->Nat->Nat->Bool
 | [],_,_=>false
 | (a,b)::l,j,i=>match Nat.beq a j&&Nat.beq b i with
  | true=>true
  | false=>rz l j i
def tw(ops:Array Oper)(ah:List Nat)(sp:List (Nat×Nat)):List Nat->Bool
 | []=>true
 | j::l=>l.all (fun i=>(ah.getD i 0).testBit j||(match ops[j]?,ops[i]? with|some x,some y=>qK ops x y|_,_=>false)||(rz sp j i&&C1 ops ah j i (j::l)))&&tw ops ah sp l
def rr(P:Program)(ops:Array Oper)(l ah:List Nat)(sp:List (Nat×Nat)):Bool:=match sp with
 | []=>C9 P ops l ah
 | _::_=>P.follows .mixedOrders&&(l.isPerm (List.range ops.size)&&((List.range ops.size).all (fun i=>(match ops[i]? with|some o=>o.after.all fun e=>!Region.binds .any e||decide (e.on<i)|none=>false))&&(Nat.beq ah.length ops.size&&((List.range ops.size).all (u7 ops ah)&&tw ops ah sp l))))
theorem M7{R:Type}{P:Program}{ops:Array Oper}{st:St}{K:St->Option R}{r:R}:∀sp:List (Nat×Nat),nS P ops st K sp=some r->K st=some r/\∀j i,rz sp j i=true->vu P ops j i st.tmps=true
 | [],h=>⟨h,fun _ _ h'=>by simp[rz] at h'⟩
 | (a,b)::sp,h=>by
  simp only[nS] at h
  split at h
  .rename_i hd;obtain ⟨h1,h2⟩:=M7 sp h;refine ⟨h1,fun j i h'=>?_⟩;simp only[rz] at h'
   split at h'
   .rename_i hb;simp only[cg] at hb;obtain rfl:=md hb.1;obtain rfl:=md hb.2;exact hd
   .exact h2 j i h'
  .cases h
theorem qdV{R:Type}(P:Program)(ops:Array Oper)(st:St)(sp:List (Nat×Nat)):(∀K:St->Option R,nS P ops st K sp=none)\/(∀K:St->Option R,nS P ops st K sp=K st):=by
 induction sp with
 | nil=>exact .inr fun K=>rfl
 | cons p sp ih=>
  obtain ⟨a,b⟩:=p
  cases hd:vu P ops a b st.tmps with
  | true=>
   rcases ih with h|h
   .exact .inl fun K=>by simp only[nS,hd];exact h K
   .exact .inr fun K=>by simp only[nS,hd];exact h K
  | false=>exact .inl fun K=>by simp only[nS,hd]
section
variable [WInv] {C:Cfg} {B:Nat} {w:World} {g:G}
theorem CO{ops:Array Oper}{ah:List Nat}(hl:ah.length=ops.size)(hlt:∀i o,ops[i]?=some o->∀e∈o.after.toList,Region.binds .any e=true->e.on<i)
  (h:∀i,i<ops.size->u7 ops ah i=true):∀n,n<=ops.size->jR ops n=ah.take n:=by
 intro n
 induction n with
 | zero=>intro _;simp[jR]
 | succ n ih=>
  intro hn;have ih:=ih Z;have hx:n<ah.length:=Z;rw[jR,ih,List.take_add_one,bn hx];have ho:ops[n]?=some ops[n]:=tW Z;rw[ho];have hat:=h n Z;unfold u7 at hat;rw[ho,bn hx] at hat;simp only at hat;have hat:=md hat;simp only[Option.toList_some,List.append_cancel_left_eq,lY,and_true];rw[hat,<- Array.foldl_toList]
  have:∀(l:List Edge) (s:Nat),(∀e∈l,Region.binds .any e=true->e.on<n)->List.foldl (fun s e=>s ||| (2^e.on ||| (List.take n ah).getD e.on 0)) s (l.filter (Region.binds .any))=List.foldl (fun s e=>match Region.binds .any e with
    | true=>s ||| (2^e.on ||| ah.getD e.on 0)
    | false=>s) s l:=by
   intro l
   induction l with
   | nil=>intro s _;rfl
   | cons e l ihl=>
    intro s hs;have ht:=fun s=>ihl s fun e' he'=>hs e' (by simp[he'])
    cases hb:Region.binds .any e with
    | true=>
     have:=hs e aq hb;rw[List.filter_cons_of_pos (by simpa using hb)];simp only[oO,hb];rw[ht];congr 3;simp only[aK,mb,ai this]
    | false=>
     rw[List.filter_cons_of_neg (by simp[hb])];simp only[oO,hb];rw[ht]
  exact this _ 0 (hlt n _ ho)
theorem Z3{P:Program}{ops:Array Oper}{l ah:List Nat}(h:C9 P ops l ah=true):zn P ops l=true:=by
 unfold C9 at h;simp only[cg] at h;obtain ⟨h1,h2,h3,h4,h5,h6⟩:=h
 have hlt:∀k o,ops[k]?=some o->∀e∈o.after.toList,Region.binds .any e=true->e.on<k:=by
  intro k o hk e he hb;have hkl:=(cH.1 hk).1;have:=fe.1 h3 k (by simpa using hkl);rw[hk] at this;simp only at this;have:=nl.1 this e (by simpa using he);simpa [hb] using this
 have hah:=CO (md h4) hlt (fun i hi=>fe.1 h5 i (by simpa using hi)) ops.size (aI _);rw[iv (by rw[md h4];exact aI _)] at hah;unfold zn;simp only[cg];refine ⟨⟨⟨h1,h2⟩,h3⟩,?_⟩;unfold o9;rw[hah];exact h6
theorem Z2{P:Program}{ops:Array Oper}{l ah:List Nat}{p:Nat×Nat}{sp:List (Nat×Nat)}(h:rr P ops l ah (p::sp)=true):P.follows .mixedOrders=true/\l.isPerm (List.range ops.size)=true /\
  ((List.range ops.size).all (fun i=>(match ops[i]? with|some o=>o.after.all fun e=>!Region.binds .any e||decide (e.on<i)|none=>false)))=true/\tw ops (o9 ops) (p::sp) l=true:=by
 unfold rr at h;simp only[cg] at h;obtain ⟨h1,h2,h3,h4,h5,h6⟩:=h
 have hlt:∀k o,ops[k]?=some o->∀e∈o.after.toList,Region.binds .any e=true->e.on<k:=by
  intro k o hk e he hb;have hkl:=(cH.1 hk).1;have:=fe.1 h3 k (by simpa using hkl);rw[hk] at this;simp only at this;have:=nl.1 this e (by simpa using he);simpa [hb] using this
 have hah:=CO (md h4) hlt (fun i hi=>fe.1 h5 i (by simpa using hi)) ops.size (aI _);rw[iv (by rw[md h4];exact aI _)] at hah;refine ⟨h1,h2,h3,?_⟩;unfold o9;rw[hah];exact h6
theorem ZT{y x:Oper}{b:Bool}{t1 t t2 u:Nat}(h:rl y x=some (b,t1,t,t2,u)):y.guard=none/\x.guard=none/\x.dst=none/\(∃v,x.op=.store t2 (.tmp u) v) /\
  ((b=true/\y.op=.load t1 (.tmp t))\/(b=false/\y.dst=none/\∃v,y.op=.store t1 (.tmp t) v)):=by
 unfold rl at h
 split at h
 .cases h
 rename_i h1
 split at h
 .cases h
 rename_i h2
 split at h
 .cases h
 rename_i h3;split at h
 case h_2=>cases h
 rename_i h4
 split at h
 .rename_i h5;simp only[br,cw] at h;obtain ⟨rfl,rfl,rfl,rfl,rfl⟩:=h;exact ⟨h1,h2,h3,⟨_,h4⟩,.inl ⟨rfl,h5⟩⟩
 .rename_i h5
  split at h
  .rename_i h6;simp only[br,cw] at h;obtain ⟨rfl,rfl,rfl,rfl,rfl⟩:=h;exact ⟨h1,h2,h3,⟨_,h4⟩,.inr ⟨rfl,h6,_,h5⟩⟩
  .cases h
 .cases h
theorem obj?_set{m:af}{nm:Nat}{e:Option Ent}{n:Nat}(h:n≠nm):af.obj? (m.set nm e) n=m.obj? n:=by
 unfold af.obj?;rw[eY,ag h]
theorem obj?_self{m:af}{nm:Nat}{bx:Bool}{cs cs':List AV}(h:m.obj? nm=some (bx,cs)):af.obj? (m.set nm (some (.obj bx cs'))) nm=some (bx,cs'):=by
 unfold af.obj?;rw[eY,ai rfl,ai (bo (obj?_get h))]
theorem qcs{cs v1 v2:List AV}{o p:Nat}(h1:o+v1.length<=cs.length)(h2:p+v2.length<=cs.length)(hd:o+v1.length<=p\/p+v2.length<=o):bf (bf cs o v1) p v2=bf (bf cs p v2) o v1:=by
 have l1:=nM h1;have l2:=nM h2;have e1:p+v2.length<=(bf cs o v1).length:=Z;have e2:o+v1.length<=(bf cs p v2).length:=Z
 apply List.ext_getElem
 .rw[nM e1,nM e2,l1,l2]
 .intro j hj1 hj2;have k1:=tD e1 j;have k2:=tD e2 j;rw[tD h1] at k1;rw[tD h2] at k2;rw[aK,bn hj1,bQ] at k1;rw[aK,bn hj2,bQ] at k2;rw[k1,k2]
  by_cases a:p<=j/\j<p+v2.length
  .rw[ai a,ag Z,ai a]
  .rw[ag a]
   by_cases b:o<=j/\j<o+v1.length
   .rw[ai b,ai b]
   .rw[ag b,ag b,ag a]
theorem qdk{s1 s2:Sh}{m m1 m2:af}{x1 x2 v1 v2:AV}(ha:CQ s1.size s2.size x1 x2=true)(h1:aM s1 m x1 v1=some m1)(h2:aM s2 m1 x2 v2=some m2) :
  ∃m3,aM s2 m x2 v2=some m3/\aM s1 m3 x1 v1=some m2:=by
 unfold CQ at ha
 split at ha
 .rename_i a o b p;simp only[aM,aU] at h1 h2 ⊢;obtain ⟨⟨bx,cs⟩,g1,h1⟩:=h1;obtain ⟨⟨bx2,cs2⟩,g2,h2⟩:=h2;simp only at h1 h2;split at h1
  case isFalse=>cases h1
  rename_i c1;split at h1
  case isFalse=>cases h1
  rename_i k1;simp only[br] at h1;subst h1;split at h2
  case isFalse=>cases h2
  rename_i c2;split at h2
  case isFalse=>cases h2
  rename_i k2;simp only[br] at h2;subst h2;have z1:=nO k1;have z2:=nO k2
  by_cases hab:a=b
  .subst hab;rw[obj?_self g1] at g2;simp only[br,cw] at g2;obtain ⟨rfl,rfl⟩:=g2;rw[nM Z] at c2;simp only[BEq.rfl,hZ,Bool.false_or,sk,lc] at ha
   refine ⟨m.set a (some (.obj bx (bf cs p v2.cells))),⟨⟨bx,cs⟩,g1,?_⟩,⟨bx,bf cs p v2.cells⟩,obj?_self g1,?_⟩
   .simp only;rw[ai c2,ai k2]
   .simp only;rw[ai (by rw[nM Z];exact c1),ai k1,oU,oU,qcs Z Z Z]
  .rw[obj?_set (fun e=>hab e.symm)] at g2
   refine ⟨m.set b (some (.obj bx2 (bf cs2 p v2.cells))),⟨⟨bx2,cs2⟩,g2,?_⟩,⟨bx,cs⟩,?_,?_⟩
   .simp only;rw[ai c2,ai k2]
   .rw[obj?_set hab];exact g1
   .simp only;rw[ai c1,ai k1,List.set_comm _ _ hab]
 .cases ha
theorem EZ{fid b:Nat}{cp:Nat->List AV->Option AV}{ci:Nat->List AV->af->OM}{ops:Array Oper}{i:Nat}{o:Oper}{t:Nat}{x v:Operand}(ho:ops[i]?=some o)(hg:o.guard=none)(hd:o.dst=none)(hop:o.op=.store t x v)(st:St) :
  cJ C fid cp ci (some b) ops i st=(gG C.P t).bind fun s=>(aM s st.mem (ev st.tmps x) (ev st.tmps v)).map fun m=>⟨st.tmps,m⟩:=by
 unfold cJ;rw[ho];simp only[fA,hg];unfold cT iB;rw[hop];simp only[]
 cases gG C.P t with
 | none=>rfl
 | some s=>
  simp only[O]
  cases aM s st.mem (ev st.tmps x) (ev st.tmps v) with
  | none=>rfl
  | some m=>simp only[O,aP,hd,eF]
theorem MO{fid b:Nat}{cp:Nat->List AV->Option AV}{ci:Nat->List AV->af->OM}{ops:Array Oper}{i:Nat}{o:Oper}{t:Nat}{x:Operand}(ho:ops[i]?=some o)(hg:o.guard=none)(hop:o.op=.load t x)(st:St) :
  cJ C fid cp ci (some b) ops i st=(gG C.P t).bind fun s=>(am s st.mem (ev st.tmps x)).map fun v=>⟨eF st.tmps o.dst v,st.mem⟩:=by
 unfold cJ;rw[ho];simp only[fA,hg];unfold cT iB;rw[hop];simp only[]
 cases gG C.P t with
 | none=>rfl
 | some s=>
  simp only[O]
  cases am s st.mem (ev st.tmps x) with
  | none=>rfl
  | some v=>rfl
theorem qbi{s1 s2:Sh}{m m2:af}{x1 x2 v2:AV}(ha:Ea x1 x2=true)(h2:aM s2 m x2 v2=some m2):am s1 m2 x1=am s1 m x1:=by
 unfold Ea at ha
 split at ha
 .rename_i b p
  split at ha
  .rfl
  .rename_i a o;have hab:a≠b:=by simpa using ha
   simp only[aM,aU] at h2;obtain ⟨⟨bx,cs⟩,g1,h2⟩:=h2
   split at h2
   .split at h2
    .simp only[br] at h2;subst h2;simp only[am];rw[obj?_set hab]
    .cases h2
   .cases h2
  .cases ha
 .cases ha
theorem EI{fid b:Nat}{cp:Nat->List AV->Option AV}{ci:Nat->List AV->af->OM}{ops:Array Oper}{t:Nat}:∀(l:List Nat) (s s':St),(∀k∈l,∀o,ops[k]?=some o->o.dst≠some t)->fC C fid cp ci (some b) ops l s=some s'->s'.tmps.getD t .any=s.tmps.getD t .any
 | [],s,s',_,h=>by simp only[fC,br] at h;rw[h]
 | k::l,s,s',hd,h=>by
  simp only[fC,aU] at h;obtain ⟨s1,h1,h2⟩:=h;rw[EI l s1 s' (fun k' hk'=>hd k' (by simp[hk'])) h2];obtain ⟨o,v,m1,ho,_,rfl⟩:=nQ h1;exact pJ (hd k aq o ho)
theorem qdw{fid b:Nat}{cp:Nat->List AV->Option AV}{ci:Nat->List AV->af->OM}{ops:Array Oper}{i j:Nat}{st s1 s2:St}{x y:Oper}(hx:ops[i]?=some x)(hy:ops[j]?=some y){c:Bool×Nat×Nat×Nat×Nat}(hc:rl y x=some c)(hap:qb ops y x=true)(hdyn:vw C.P c st.tmps=true)
  (h1:cJ C fid cp ci (some b) ops j st=some s1) (h2:cJ C fid cp ci (some b) ops i s1=some s2):∃s1',cJ C fid cp ci (some b) ops i st=some s1'/\cJ C fid cp ci (some b) ops j s1'=some s2:=by
 obtain ⟨bb,t1,t,t2,u⟩:=c;obtain ⟨g1,g2,g3,⟨v2,g4⟩,g5⟩:=ZT hc;obtain ⟨a1,a2,a3⟩:=yW hap;rw[EZ hx g2 g3 g4] at h2 ⊢;simp only[aU,fk] at h2;obtain ⟨sh2,k2,m2,k3,rfl⟩:=h2
 rcases g5 with ⟨rfl,g5⟩|⟨rfl,g6,v1,g5⟩
 .rw[MO hy g1 g5] at h1;simp only[aU,fk] at h1;obtain ⟨sh1,k1,v,k4,rfl⟩:=h1;simp only at k3
  have hlook:∀z t',z=Operand.tmp t'->z∈x.op.operands.toList->y.dst≠some t':=by
   intro z t' hz hm hd;refine a1 t' hd ?_;unfold ll;refine cI.2 (.inl (List.mem_filterMap.2 ⟨z,hm,?_⟩));rw[hz]
  have hops:x.op.operands.toList=[.tmp u,v2]:=by rw[g4];rfl
  have e1:ev (eF st.tmps y.dst v) (.tmp u)=ev st.tmps (.tmp u):=Db _ fun t' ht=>pJ (hlook _ t' ht (by rw[hops];simp));have e2:ev (eF st.tmps y.dst v) v2=ev st.tmps v2:=Db _ fun t' ht=>pJ (hlook _ t' ht (by rw[hops];simp));rw[e1,e2] at k3;refine ⟨⟨st.tmps,m2⟩,by rw[k2,O,k3];rfl,?_⟩;rw[MO hy g1 g5,k1,O];have:am sh1 m2 (ev st.tmps (.tmp t))=am sh1 st.mem (ev st.tmps (.tmp t)):=qbi hdyn k3;simp only;rw[this,k4]
  rfl
 .rw[EZ hy g1 g6 g5] at h1;simp only[aU,fk] at h1;obtain ⟨sh1,k1,m1,k4,rfl⟩:=h1;simp only at k3;unfold vw at hdyn;simp only[k1,k2] at hdyn;obtain ⟨m3,j1,j2⟩:=qdk (x1:=ev st.tmps (.tmp t)) (x2:=ev st.tmps (.tmp u)) hdyn k4 k3;refine ⟨⟨st.tmps,m3⟩,by rw[k2,O,j1];rfl,?_⟩;rw[EZ hy g1 g6 g5,k1,O];simp only;rw[j2]
  rfl
def TP(C:Cfg)(ops:Array Oper)(sE:St)(i:Nat)(x:Oper)(r:List Nat)(j:Nat):Prop:=∃y,ops[j]?=some y/\(qK ops y x=true\/∃bb t1 t t2 u,rl y x=some (bb,t1,t,t2,u)/\qb ops y x=true/\vw C.P (bb,t1,t,t2,u) sE.tmps=true/\∀k∈r,∀o,ops[k]?=some o->o.dst≠some t/\o.dst≠some u)
theorem JU{fid b:Nat}{cp:Nat->List AV->Option AV}{ci:Nat->List AV->af->OM}{ops:Array Oper}{i:Nat}{x:Oper}(hx:ops[i]?=some x):∀(l:List Nat) (st s':St),l.Nodup->i∈l->oK ops b st.mem l->(∀(p:List Nat) (j:Nat) (r:List Nat),l=p++j::r->i∈r->TP C ops s' i x (j::r) j) ->
  fC C fid cp ci (some b) ops l st=some s'->∃s1,cJ C fid cp ci (some b) ops i st=some s1/\fC C fid cp ci (some b) ops (l.erase i) s1=some s'
 | [],_,_,_,hi,_,_,_=>by simp at hi
 | j::l,st,s',hnd,hi,hk,hsw,hr=>by
  have hr0:=hr;simp only[fC,aU] at hr;obtain ⟨s1,h1,hr⟩:=hr
  by_cases he:j=i
  .subst he;exact ⟨s1,h1,by simpa using hr⟩
  .have hil:i∈l:=by rcases cE.1 hi with h|h<;>first|exact absurd h.symm he|exact h
   have hnd':=(lE.1 hnd);obtain ⟨s2,h2,hr2⟩:=JU hx l s1 s' hnd'.2 hil (Av h1 (fun k hk'=>hk k (by simp[hk'])) hnd'.1) (fun p k r hpq hir=>hsw (j::p) k r (by rw[hpq];rfl) hir) hr;obtain ⟨y,hy,hok⟩:=hsw [] j l rfl hil
   have hsw':∃s1',cJ C fid cp ci (some b) ops i st=some s1'/\cJ C fid cp ci (some b) ops j s1'=some s2:=by
    rcases hok with hok|⟨bb,t1,t,t2,u,hc,hap,hdyn,hdst⟩
    .exact swap hy hx he hok (fun k hk'=>hk k (by
      simp only[cE,sO,or_false] at hk'
      rcases hk' with rfl|rfl
      .simp
      .simp[hil])) h1 h2
    .refine qdw hx hy hc hap ?_ h1 h2;have ht:=EI (t:=t) (j::l) st s' (fun k hk' o ho=>(hdst k hk' o ho).1) hr0;have hu:=EI (t:=u) (j::l) st s' (fun k hk' o ho=>(hdst k hk' o ho).2) hr0;unfold vw at hdyn ⊢;simp only[ht,hu] at hdyn;exact hdyn
   obtain ⟨s1',k1,k2⟩:=hsw';refine ⟨s1',k1,?_⟩
   have her:(j::l).erase i=j::l.erase i:=by
    rw[List.erase_cons,ag (by simpa using he)]
   rw[her];simp only[fC,k2,O];exact hr2
theorem Lw{ops:Array Oper}{ah:List Nat}{sp:List (Nat×Nat)}:∀{l:List Nat},tw ops ah sp l=true->∀(p:List Nat) (j:Nat) (r:List Nat),l=p++j::r->∀i∈r,(ah.getD i 0).testBit j=true\/(∃x y,ops[j]?=some x/\ops[i]?=some y/\qK ops x y=true)\/(rz sp j i=true/\C1 ops ah j i (j::r)=true)
 | [],_,p,j,r,h,_,_=>by simp at h
 | k::l,hp,p,j,r,h,i,hi=>by
  simp only[tw,cg,fe] at hp
  match p,h with
  | [],h=>
   simp only[bX,lY] at h;obtain ⟨rfl,rfl⟩:=h;have:=hp.1 i hi;simp only[sk,cg] at this
   rcases this with (h|h)|h
   .exact .inl h
   .refine .inr (.inl ?_)
    split at h
    .exact ⟨_,_,by assumption,by assumption,h⟩
    .cases h
   .exact .inr (.inr h)
  | k'::p,h=>
   simp only[cc,lY] at h;obtain ⟨rfl,rfl⟩:=h;exact Lw hp.2 p j r rfl i hi
theorem Xf(hC:CfgOk C){callI:Nat->List AV->af->OM}(hI:nn C callI){fid b:Nat}{ops:Array Oper}{Q:Exit->Act->World->Prop}{canon:List Nat}(hlt:∀k o,ops[k]?=some o->∀e∈o.after.toList,Region.binds .any e=true->e.on<k)
  {sp:List (Nat×Nat)} {sE:St} (hpairs:tw ops (o9 ops) sp canon=true) (hdyn:∀j i,rz sp j i=true->vu C.P ops j i sE.tmps=true) (hnd:canon.Nodup):∀(l:List Nat) (n:Nat),l.length=n->l.Sublist canon->∀(listed:Array Bool),listed.size=ops.size->(∀x,x<ops.size->(listed.getD x true=true↔x∉l))->(∀x∈l,x<ops.size) ->
  (∀k o,k<ops.size->k∉l->ops[k]?=some o->∀e∈o.after.toList,Region.binds .any e=true->e.on∉l) ->
  ∀(st s':St) (a:Act) (w:World) (g:G),s'=sE->fC C fid (gO callI) callI (some b) ops l st=some s'->oK ops b st.mem l->StR B w g st a ->
  (∀a' w' g',StR B w' g' s' a'->Step B w g w' g'->fZ C.P a' a->Q .normal a' w')->wpAny C.P .any ops Q n listed a w:=by
 intro l n hn
 induction n generalizing l with
 | zero=>
  intro hsub listed hsz hlist hin hdown st s' a w g hsE hr hk hs hq;have hnil:l=[]:=kR hn;subst hnil;simp only[fC,br] at hr;subst hr;refine ⟨?_,hq a w g hs (Step.refl _ _ _) (fZ.refl _ _)⟩;unfold Region.ready;rw[List.filter_eq_nil_iff];intro x hx;have:listed.getD x true=true:=(hlist x (by simpa using hx)).2 aq;simp[this]
 | succ n ih=>
  intro hsub listed hsz hlist hin hdown st s' a w g hsE hr hk hs hq
  have hready:∀i∈Region.ready .any ops listed,i∈l/\i<ops.size/\∃o,ops[i]?=some o/\∀e∈o.after.toList,Region.binds .any e=true->e.on∉l:=by
   intro i hi;unfold Region.ready at hi;simp only[kB,nY,cg,sj] at hi;obtain ⟨h1,h2,h3⟩:=hi
   have hil:i∈l:=by
    by_cases h:i∈l
    .exact h
    .have:=(hlist i h1).2 h;rw[this] at h2;cases h2
   refine ⟨hil,h1,ops[i],by simp[h1],fun e he hb hon=>?_⟩;have ho:ops[i]?=some ops[i]:=by simp[h1]
   rw[ho] at h3;simp only[aP,bQ] at h3;have h4:=nl.1 h3 e (by simpa using he);simp only[hb,hZ,Bool.false_or] at h4;have h5:=hlt i _ ho e he hb
   have h6:listed.getD e.on true=true:=by
    have hes:e.on<listed.size:=Z;simp only[Array.getD,hes,dif_pos] at h4 ⊢;exact h4
   exact (hlist e.on (by omega)).1 h6 hon
  refine ⟨fun hnone=>?_,fun i hi=>?_⟩
  ·
   exfalso;have hne:l≠[]:=fun h=>by rw[h] at hn;simp at hn
   obtain ⟨mn,hmn,hmin⟩:∃mn∈l,∀x∈l,mn<=x:=by
    exact zL l hne
   have hml:=hin mn hmn
   have:mn∈Region.ready .any ops listed:=by
    unfold Region.ready;simp only[kB,nY,cg,sj]
    refine ⟨hml,?_,?_⟩
    .cases hb:listed.getD mn true with
     | false=>rfl
     | true=>exact absurd hmn ((hlist mn hml).1 hb)
    .have ho:ops[mn]?=some ops[mn]:=by simp[hml]
     rw[ho];simp only[aP,bQ];rw[nl];intro e he
     by_cases hb:Region.binds .any e=true
     .have h5:=hlt mn _ ho e (by simpa using he) hb;have h6:e.on∉l:=fun h=>by have:=hmin _ h;omega
      have h7:=(hlist e.on (by omega)).2 h6;have hes:e.on<listed.size:=Z
      have h8:listed.getD e.on false=true:=by
       simp only[Array.getD,hes,dif_pos] at h7 ⊢;exact h7
      rw[h8];simp
     .simp at hb;simp[hb]
   rw[hnone] at this;simp at this
  .obtain ⟨hil,hio,x,hx,hedge⟩:=hready i hi
   obtain ⟨s1,h1,h2⟩:=JU hx l st s' (hnd.sublist hsub) hil hk (fun p j r hpq hir=>by
    have hjl:j∈l:=by rw[hpq];simp
    obtain ⟨pre,post,hcan,hpost⟩:∃pc qc,canon=pc++j::qc/\∀y∈r,y∈qc:=by
     have hsub':=hsub;rw[hpq] at hsub';obtain ⟨c1,c2,hc,hs1,hs2⟩:=List.append_sublist_iff.1 hsub';obtain ⟨d1,d2,hd,_,hd3⟩:=List.cons_sublist_iff.1 hs2;obtain ⟨e1,e2,he⟩:=sH ‹j∈d1›;exact ⟨c1++e1,e2++d2,by rw[hc,hd,he];simp,fun y hy=>cI.2 (.inr (hd3.subset hy))⟩
    rcases Lw hpairs pre j post hcan i (hpost i hir) with h|⟨y,x',hy,hx',hok⟩|⟨hsp,hcf⟩
    .exfalso;have hmem:((jR ops ops.size).getD i 0).testBit j=true:=h
     have:=yV (D:=fun k=>k∉l) (fun k o hk' hko e he hb=>by
      rcases mO k ops.size with hk1|hk1
      .exact hdown k o hk1 hk' hko e he hb
      .rw[tY hk1] at hko;cases hko) hlt ops.size i x hio hx hedge j hmem
     exact this hjl
    .obtain rfl:x=x':=by simpa [hx] using hx'
     exact ⟨y,hy,.inl hok⟩
    .have hd:=hdyn j i hsp;unfold vu at hd;unfold C1 at hcf
     cases hy:ops[j]? with
     | none=>rw[hy] at hd;cases hd
     | some y=>
      rw[hy,hx] at hd hcf;simp only at hd hcf
      cases hct:rl y x with
      | none=>rw[hct] at hd;cases hd
      | some c=>
       obtain ⟨bb,t1,t,t2,u⟩:=c;rw[hct] at hd hcf;simp only[cg,fe] at hd hcf;refine ⟨y,hy,.inr ⟨bb,t1,t,t2,u,hct,hcf.1,by rw[hsE];exact hd,fun k hk' o ho=>?_⟩⟩
       have hkm:k∈j::post:=by
        rcases cE.1 hk' with h|h
        .simp[h]
        .exact cP _ (hpost k h)
       have:=hcf.2 k hkm;rw[ho] at this;simp only[cg,sk,bne_iff_ne,ne_eq] at this;refine ⟨this.1,this.2.resolve_right fun h=>?_⟩;have hmem:((jR ops ops.size).getD i 0).testBit k=true:=h
       have:=yV (D:=fun k=>k∉l) (fun k o hk' hko e he hb=>by
        rcases mO k ops.size with hk1|hk1
        .exact hdown k o hk1 hk' hko e he hb
        .rw[tY hk1] at hko;cases hko) hlt ops.size i x hio hx hedge k hmem
       exact this (by rw[hpq];exact cI.2 (.inr hk'))) hr
   refine Ay hC hI h1 hs (fun b' hb'=>by cases hb';exact fun k hk'=>hk k (by simp at hk';rw[hk'];exact hil)) fun a' w' g' hs' s hd=>?_
   have hmem:∀y,y∈l.erase i↔y∈l/\y≠i:=fun y=>by
    rw[(hnd.sublist hsub).mem_erase_iff];exact And.comm
   refine ih (l.erase i) (by rw[yh hil];omega) (List.Sublist.trans List.erase_sublist hsub) (listed.setIfInBounds i true) (by simpa using hsz) (fun y hy=>?_) (fun y hy=>hin y ((hmem y).1 hy).1) (fun k o hk1 hk2 hko e he hb hon=>?_) s1 s' a' w' g' hsE h2 (fun k hk' o ho hm=>?_) hs' fun a'' w'' g'' hs'' s' hd'=>hq a'' w'' g'' hs'' (s.trans s') (hd'.trans hd)
   .have hys:y<listed.size:=Z
    have hg:(listed.setIfInBounds i true).getD y true=if i=y then true else listed.getD y true:=by
     simp only[gV,wC]
     by_cases hiy:i=y
     .subst hiy;simp[hys]
     .simp[hiy]
    rw[hg,hmem]
    by_cases hiy:i=y
    .subst hiy;simp
    .rw[ag hiy,hlist y hy]
     constructor
     .intro h h';exact h h'.1
     .intro h h';exact h ⟨h',fun he=>hiy he.symm⟩
   .have hon':=(hmem _).1 hon
    by_cases hki:k=i
    .subst hki;obtain rfl:x=o:=by simpa [hx] using hko
     exact hedge e he hb hon'.1
    .exact hdown k o hk1 (fun h=>hk2 ((hmem k).2 ⟨h,hki⟩)) hko e he hb hon'.1
   .exact Av h1 (fun k' hk''=>hk k' ((hmem k').1 hk'').1) (fun h=>((hmem i).1 h).2 rfl) k hk' o ho hm
theorem Z7(hC:CfgOk C){callI:Nat->List AV->af->OM}(hI:nn C callI){R:Type}{fid id:Nat}{ops:Array Oper}{Q:Exit->Act->World->Prop}{canon:List Nat}{ah:List Nat}{pr:Nat×Nat}{sp:List (Nat×Nat)}(hok:rr C.P ops canon ah (pr::sp)=true){st:St}{K:St->Option R}{r:R}{a:Act}
  (h:jn C fid (gO callI) callI (some st.mem.length) ops canon ⟨st.tmps,ck st.mem (cM ops ops.size)⟩ (fun st'=>nS C.P ops st' K (pr::sp))=some r) (hs:StR B w g st a)
  (hn:∀s' a' w' g',K s'=some r->StR B w' g' s' a'->Step B w g w' g'->fZ C.P a' a->Q .normal a' w'):(Code.region id ops true).wp C.P Q a w:=by
 obtain ⟨h1,h2,h3,h4⟩:=Z2 hok;have hperm:canon.Perm (List.range ops.size):=List.isPerm_iff.1 h2
 have hlt:∀k o,ops[k]?=some o->∀e∈o.after.toList,Region.binds .any e=true->e.on<k:=by
  intro k o hk e he hb;have hkl:=(cH.1 hk).1;have:=fe.1 h3 k (by simpa using hkl);rw[hk] at this;simp only at this;have:=nl.1 this e (by simpa using he);simpa [hb] using this
 rw[nN,Mg] at h;simp only[aU] at h;obtain ⟨s',hr,hK⟩:=h;obtain ⟨hK,hdyn⟩:=M7 _ hK;refine wp_region_any h1 ?_
 refine Xf hC hI hlt h4 hdyn (hperm.nodup_iff.2 List.nodup_range) canon ops.size (by rw[hperm.length_eq];simp) (List.Sublist.refl _) _ aq (fun x hx=>?_) (fun x hx=>by simpa using hperm.mem_iff.1 hx) (fun k o hk hk'=>?_) _ s' a _ g rfl hr (Kp ops st.mem canon) ⟨hs.tmp.step (Step.drew B w g),K9 (B:=B) (w:=w.drew) (g:=g) hs.mem.drew _,hs.size⟩ ?_
 .have:x∈canon:=hperm.mem_iff.2 (by simpa using hx);simp[this,Array.getD,hx]
 .exact absurd (hperm.mem_iff.2 (by simpa using hk)) hk'
 .intro a' w' g' hs' s hd;exact hn s' a' w' g' hK hs' ((Step.drew B w g).trans s) hd
end
end Go.Ab
namespace Go.Ab
open Go.RowKit
section
variable {R:Type}
open Classical in
noncomputable def pv(p:Prop)(x:Option R):Option R:=if p then x else none
theorem qq{p:Prop}{x:Option R}(h:p):pv p x=x:=ai h
theorem qaN{p:Prop}{x:Option R}(h:¬ p):pv p x=none:=ag h
def qj(o:Oper)(ts:List AV):AV:=match o.dst with
 | some d=>ts.getD d .any
 | none=>.any
def kQ(C:Cfg)(fid:Nat)(ops:Array Oper)(y:Nat)(s:St):Prop:=match ops[y]? with
 | some o=>fA C fid (fun _ _=>none) (fun _ _ _=>none) none ops y o s.tmps s.mem=some (qj o s.tmps,s.mem)
 | none=>True
noncomputable def qf(C:Cfg)(fid:Nat)(ops:Array Oper):List Nat->St->Option R->Option R
 | [],_,x=>x
 | y::ys,s,x=>pv (kQ C fid ops y s) (qf C fid ops ys s x)
theorem s7{C:Cfg}{fid:Nat}{ops:Array Oper}:∀{ys:List Nat} {s:St} {x:Option R},(∀y∈ys,kQ C fid ops y s)->qf C fid ops ys s x=x
 | [],_,_,_=>rfl
 | y::ys,s,x,h=>by
  rw[qf,qq (h y cF)];exact s7 fun z hz=>h z (cP _ hz)
theorem CX{C:Cfg}{fid:Nat}{ops:Array Oper}:∀{ys:List Nat} {s:St} {x:Option R},¬ (∀y∈ys,kQ C fid ops y s)->qf C fid ops ys s x=none
 | [],_,_,h=>absurd (fun _ hz=>by cases hz) h
 | y::ys,s,x,h=>by
  rw[qf]
  by_cases hy:kQ C fid ops y s
  .rw[qq hy]
   exact CX fun hh=>h fun z hz=>by
    rcases cE.1 hz with rfl|hz
    .exact hy
    .exact hh z hz
  .exact qaN hy
theorem CY{C:Cfg}{fid:Nat}{ops:Array Oper}{ys:List Nat}{s:St}{x:Option R}{r:R}(h:qf C fid ops ys s x=some r):(∀y∈ys,kQ C fid ops y s)/\x=some r:=by
 by_cases hc:∀y∈ys,kQ C fid ops y s
 .rw[s7 hc] at h;exact ⟨hc,h⟩
 .rw[CX hc] at h;cases h
noncomputable def lQ(C:Cfg)(fid:Nat)(callP:Nat->List AV->Option AV)(callI:Nat->List AV->af->OM)(lt:List (Nat×List Nat))(ops:Array Oper):List Nat->St->(St->Option R)->Option R
 | [],st,K=>K st
 | i::l,st,K=>jn C fid callP callI none ops [i] st fun s1=>qf C fid ops (lN lt i) s1 (lQ C fid callP callI lt ops l s1 K)
end
section
variable {C:Cfg} {fid:Nat} {callP:Nat->List AV->Option AV} {callI:Nat->List AV->af->OM}
theorem qF{R:Type}(lt:List (Nat×List Nat))(ops:Array Oper)(i:Nat)(l:List Nat)(st:St)(K:St->Option R) :
  lQ C fid callP callI lt ops (i::l) st K=(cJ C fid callP callI none ops i st).bind fun s1=>qf C fid ops (lN lt i) s1 (lQ C fid callP callI lt ops l s1 K):=by
 rw[lQ,nN];simp only[fC];cases cJ C fid callP callI none ops i st<;>rfl
def pN(C:Cfg)(fid:Nat)(callP:Nat->List AV->Option AV)(callI:Nat->List AV->af->OM)(lt:List (Nat×List Nat))(ops:Array Oper):List Nat->List Nat->St->Prop
 | _,[],_=>True
 | done,i::l,st=>∀s1,cJ C fid callP callI none ops i st=some s1->(∀y∈lN lt i,y∈done->kQ C fid ops y s1)/\pN C fid callP callI lt ops (i::done) l s1
theorem pN.anti{lt:List (Nat×List Nat)}{ops:Array Oper}:∀{l done done':List Nat} {st:St},pN C fid callP callI lt ops done l st->(∀y∈done',y∈done)->pN C fid callP callI lt ops done' l st
 | [],_,_,_,_,_=>trivial
 | i::l,done,done',st,h,hd=>fun s1 h1=>by
  obtain ⟨a,b⟩:=h s1 h1;refine ⟨fun y hy hyd=>a y hy (hd y hyd),b.anti fun y hy=>?_⟩
  rcases cE.1 hy with rfl|hy
  .exact cF
  .exact cP _ (hd y hy)
theorem Mq{R:Type}{lt:List (Nat×List Nat)}{ops:Array Oper}:∀{l:List Nat} {st:St} {K:St->Option R} {r:R} (done:List Nat),lQ C fid callP callI lt ops l st K=some r ->
  ∃s',fC C fid callP callI none ops l st=some s'/\K s'=some r/\pN C fid callP callI lt ops done l st
 | [],st,K,r,_,h=>⟨st,rfl,h,trivial⟩
 | i::l,st,K,r,done,h=>by
  rw[qF,aU] at h;obtain ⟨s1,h1,h⟩:=h;obtain ⟨hc,h⟩:=CY h;obtain ⟨s',h2,h3,h4⟩:=Mq (i::done) h;refine ⟨s',by simp only[fC,h1,O];exact h2,h3,fun s1' h1'=>?_⟩;rw[h1] at h1';obtain rfl:=mS h1';exact ⟨fun y hy _=>hc y hy,h4⟩
theorem CZ{o:Oper}(h:gu o=.N):gA o=.N:=by
 unfold gu at h
 split at h
 .assumption
 .split at h<;>cases h
 .cases h
theorem JB{o:Oper}(h:gu o=.L):∃t x,o.op=.load t x:=by
 unfold gu at h
 split at h
 .cases h
 .split at h
  .rename_i t x ho;exact ⟨t,x,ho⟩
  .cases h
 .cases h
theorem Aa{d:Option Nat}{o:Oper}{ρ:Operand->AV}{m m1:af}{v:AV}(hc:gu o=.L)(h:cT C fid callP callI d o ρ m=some (v,m1)):m1=m:=by
 obtain ⟨t,x,ho⟩:=JB hc;unfold cT iB at h;rw[ho] at h;simp only at h
 split at h
 .obtain ⟨v',h1,h2⟩:=aU.1 h;simp only[br,cw] at h2;exact h2.2.symm
 .cases h
theorem qdA{ops:Array Oper}{i j:Nat}{st s1 s2:St}{x y:Oper}(hx:ops[i]?=some x)(hy:ops[j]?=some y)(hok:pM ops x y=true)
  (h1:cJ C fid callP callI none ops i st=some s1) (h2:cJ C fid callP callI none ops j s1=some s2):∃s1',cJ C fid callP callI none ops j st=some s1'/\cJ C fid callP callI none ops i s1'=some s2:=by
 obtain ⟨x',vi,mi,hx',hri,rfl⟩:=nQ h1;obtain rfl:x=x':=by simpa [hx] using hx'
 obtain ⟨y',vj,mj,hy',hrj,rfl⟩:=nQ h2;obtain rfl:y=y':=by simpa [hy] using hy'
 unfold pM at hok;simp only[cg] at hok;obtain ⟨hcls,hap⟩:=hok;obtain ⟨a1,a2,a3⟩:=yW hap;simp only at hrj;have cj:∀m,fA C fid callP callI none ops j y (eF st.tmps x.dst vi) m=fA C fid callP callI none ops j y st.tmps m:=fun m=>rQ fun t ht=>pJ fun hd=>a1 t hd ht;have ci:∀v m,fA C fid callP callI none ops i x (eF st.tmps y.dst v) m=fA C fid callP callI none ops i x st.tmps m:=fun v m=>rQ fun t ht=>pJ fun hd=>a2 t hd ht;rw[cj] at hrj
 have enough:∀m1,fA C fid callP callI none ops j y st.tmps st.mem=some (vj,m1)->fA C fid callP callI none ops i x st.tmps m1=some (vi,mj) ->
   ∃s1',cJ C fid callP callI none ops j st=some s1'/\cJ C fid callP callI none ops i s1'=some ⟨eF (eF st.tmps x.dst vi) y.dst vj,mj⟩:=by
  intro m1 e1 e2;refine ⟨⟨eF st.tmps y.dst vj,m1⟩,by simp[cJ,hy,e1],?_⟩;simp only[cJ,hx,ci,e2,aP];rw[EM a3]
 have nI:gu x=.N->mi=st.mem/\∀m',fA C fid callP callI none ops i x st.tmps m'=some (vi,m'):=fun hc=>by
  rcases kA hri with ⟨hf,hall⟩|⟨rfl,hall⟩
  .obtain ⟨rfl,h⟩:=tp (CZ hc) hf;exact ⟨rfl,fun m'=>(hall m').trans (h m')⟩
  .exact ⟨rfl,hall⟩
 have nJ:gu y=.N->mj=mi/\∀m',fA C fid callP callI none ops j y st.tmps m'=some (vj,m'):=fun hc=>by
  rcases kA hrj with ⟨hf,hall⟩|⟨rfl,hall⟩
  .obtain ⟨rfl,h⟩:=tp (CZ hc) hf;exact ⟨rfl,fun m'=>(hall m').trans (h m')⟩
  .exact ⟨rfl,hall⟩
 have lI:gu x=.L->mi=st.mem:=fun hc=>by
  rcases kA hri with ⟨hf,_⟩|⟨rfl,_⟩
  .exact Aa hc hf
  .rfl
 have lJ:gu y=.L->mj=mi:=fun hc=>by
  rcases kA hrj with ⟨hf,_⟩|⟨rfl,_⟩
  .exact Aa hc hf
  .rfl
 cases hcx:gu x with
 | N=>
  obtain ⟨rfl,hall⟩:=nI hcx;exact enough mj hrj (hall mj)
 | L=>
  obtain rfl:=lI hcx
  cases hcy:gu y with
  | N=>
   obtain ⟨rfl,hall⟩:=nJ hcy;exact enough _ hrj hri
  | L=>
   obtain rfl:=lJ hcy;exact enough _ hrj hri
  | _=>rw[hcx,hcy] at hcls;cases hcls
 | _=>
  cases hcy:gu y with
  | N=>
   obtain ⟨rfl,hall⟩:=nJ hcy;exact enough _ (hall _) hri
  | _=>rw[hcx,hcy] at hcls;cases hcls
theorem qbY{cp':Nat->List AV->Option AV}{ci':Nat->List AV->af->OM}{d d':Option Nat}{o:Oper}{ρ:Operand->AV}{m:af}(hc:gu o=.L):cT C fid callP callI d o ρ m=cT C fid cp' ci' d' o ρ m:=by
 obtain ⟨t,x,ho⟩:=JB hc;unfold cT iB;rw[ho]
theorem qb1{cp':Nat->List AV->Option AV}{ci':Nat->List AV->af->OM}{ops:Array Oper}{i:Nat}{o:Oper}{ts:List AV}{m:af}(hc:gu o=.L):fA C fid callP callI none ops i o ts m=fA C fid cp' ci' none ops i o ts m:=by
 unfold fA;rw[qbY (callP:=callP) (callI:=callI) (cp':=cp') (ci':=ci') (d':=Option.map (· + cM ops i) none) hc]
theorem vD{ts:List AV}{d:Option Nat}{v:AV}{t:Nat}:(eF ts d v).getD t .any=if d=some t/\t<ts.length then v else ts.getD t .any:=by
 cases d with
 | none=>simp[eF]
 | some d=>
  simp only[eF,aK,uH,br]
  by_cases h:d=t
  .subst h
   by_cases hl:d<ts.length
   .simp[hl]
   .simp[hl]
  .simp[h]
theorem kQ.same{ops:Array Oper}{y:Nat}{s s':St}(hm:s'.mem=s.mem)(ht:∀oy,ops[y]?=some oy->(∀t∈ll ops oy,s'.tmps.getD t .any=s.tmps.getD t .any)/\qj oy s'.tmps=qj oy s.tmps)(h:kQ C fid ops y s):kQ C fid ops y s':=by
 unfold kQ at h ⊢
 cases ho:ops[y]? with
 | none=>trivial
 | some oy=>
  rw[ho] at h;simp only at h ⊢;obtain ⟨h1,h2⟩:=ht oy ho;rw[rQ h1,h2,hm];exact h
theorem qdx{ops:Array Oper}{i j:Nat}{st s1 s2:St}{x y:Oper}(hx:ops[i]?=some x)(hy:ops[j]?=some y)(hok:rE ops y x=true)
  (h1:cJ C fid callP callI none ops j st=some s1) (h2:cJ C fid callP callI none ops i s1=some s2) (hc:kQ C fid ops j s2):∃s1',cJ C fid callP callI none ops i st=some s1'/\cJ C fid callP callI none ops j s1'=some s2:=by
 obtain ⟨y',vj,mj,hy',hrj,rfl⟩:=nQ h1;obtain rfl:y=y':=by simpa [hy] using hy'
 obtain ⟨x',vi,mi,hx',hri,rfl⟩:=nQ h2;obtain rfl:x=x':=by simpa [hx] using hx'
 unfold rE at hok;simp only[cg] at hok;obtain ⟨hcl,hap,hself⟩:=hok
 have hcl:gu y=.L:=by split at hcl<;>first|assumption|cases hcl
 obtain ⟨a1,a2,a3⟩:=yW hap;have hself:∀d,y.dst=some d->d∉ll ops y:=fun d hd=>by rw[hd] at hself;simpa using hself
 have hmj:mj=st.mem:=by
  rcases kA hrj with ⟨hf,_⟩|⟨rfl,_⟩
  .exact Aa hcl hf
  .rfl
 subst hmj;simp only at hri
 have hri':fA C fid callP callI none ops i x st.tmps st.mem=some (vi,mi):=by
  rw[<- hri];exact (rQ fun t ht=>pJ fun hd=>a1 t hd ht).symm
 unfold kQ at hc;rw[hy] at hc;simp only at hc
 have hj2:fA C fid callP callI none ops j y (eF st.tmps x.dst vi) mi=some (qj y (eF (eF st.tmps y.dst vj) x.dst vi),mi):=by
  rw[qb1 (callP:=callP) (callI:=callI) (cp':=fun _ _=>none) (ci':=fun _ _ _=>none) hcl,<- hc];refine rQ fun t ht=>?_;rw[vD,vD,vD];have:y.dst≠some t:=fun hd=>hself t hd ht;have hl:(eF st.tmps y.dst vj).length=st.tmps.length:=by cases y.dst<;>simp[eF]
  simp only[this,false_and,jJ,hl]
 refine ⟨⟨eF st.tmps x.dst vi,mi⟩,by simp[cJ,hx,hri'],?_⟩;simp only[cJ,hy,hj2,aP,br,St.mk.injEq,and_true]
 cases hd:y.dst with
 | none=>simp[eF]
 | some d=>
  have hxd:x.dst≠some d:=fun he=>by rcases a3 with h|h<;>simp_all
  have e1:qj y (eF (eF st.tmps (some d) vj) x.dst vi)=if d<st.tmps.length then vj else .any:=by
   unfold qj;rw[hd];simp only;rw[vD,vD];simp only[hxd,false_and,jJ,true_and]
   by_cases hl:d<st.tmps.length
   .rw[ai hl,ai hl]
   .rw[ag hl,ag hl];simp[aK,kT (pY hl)]
  rw[e1]
  by_cases hl:d<st.tmps.length
  .rw[ai hl];exact (EM (.inr (fun he=>hxd he))).trans rfl |>.symm▸rfl
  .have hge:st.tmps.length<=d:=pY hl
   have hn:∀(ts:List AV) v,ts.length=st.tmps.length->eF ts (some d) v=ts:=fun ts v hle=>by
    simp only[eF];exact List.set_eq_of_length_le (hle▸hge)
   rw[hn _ _ (by cases x.dst<;>simp[eF]),hn st.tmps vj rfl]
theorem Ax{ops:Array Oper}{i:Nat}{x:Oper}{st s1:St}{base:Option Nat}(hx:ops[i]?=some x)(h:cJ C fid callP callI base ops i st=some s1)(t:Nat)(ht:x.dst≠some t):s1.tmps.getD t .any=st.tmps.getD t .any:=by
 obtain ⟨x',v,m,hx',_,rfl⟩:=nQ h;obtain rfl:x=x':=by simpa [hx] using hx'
 exact pJ ht
theorem MP{ops:Array Oper}{i:Nat}{x:Oper}{st s1:St}(hx:ops[i]?=some x)(h:cJ C fid callP callI none ops i st=some s1)(hc:gu x=.N\/gu x=.L):s1.mem=st.mem:=by
 obtain ⟨x',v,m,hx',hr,rfl⟩:=nQ h;obtain rfl:x=x':=by simpa [hx] using hx'
 rcases kA hr with ⟨hf,_⟩|⟨rfl,_⟩
 .rcases hc with hc|hc
  .exact (tp (CZ hc) hf).1
  .exact Aa hc hf
 .rfl
def q8(ops:Array Oper)(lt:List (Nat×List Nat))(y:Nat)(l:List Nat):Prop:=(lt.any fun p=>p.2.contains y)=true->∀oy,ops[y]?=some oy->∀k∈l,∀o,ops[k]?=some o->∀d,o.dst=some d->d∉ll ops oy/\oy.dst≠some d
theorem Ky{lt:List (Nat×List Nat)}{i y:Nat}(h:y∈lN lt i):(lt.any fun p=>p.2.contains y)=true:=by
 induction lt with
 | nil=>cases h
 | cons p lt ih=>
  obtain ⟨k,ys⟩:=p;simp only[lN] at h;simp only[List.any_cons,sk]
  split at h
  .exact .inl (by simpa using h)
  .exact .inr (ih h)
theorem qdj{ops:Array Oper}{x:Oper}{l:List Nat}(h:ML ops x l=true):∀k∈l,∀o,ops[k]?=some o->∀d,o.dst=some d->d∉ll ops x/\x.dst≠some d:=by
 intro k hk o ho d hd;have:=fe.1 h k hk;rw[ho] at this;simp only[hd] at this;simpa using this
structure Facts (ops:Array Oper) (lt:List (Nat×List Nat)) (l:List Nat):Prop where
 late:∀j∈l,∀x,ops[j]?=some x->lN lt j≠[]->gu x=.W
 still:∀(p q:List Nat) (j:Nat),l=p++j::q->q8 ops lt j q
theorem Facts.tail{ops:Array Oper}{lt:List (Nat×List Nat)}{j:Nat}{l:List Nat}(h:Facts ops lt (j::l)):Facts ops lt l:=
 ⟨fun k hk=>h.late k (cP _ hk),fun p q k e=>h.still (j::p) q k (by rw[e];rfl)⟩
theorem q8.sub{ops:Array Oper}{lt:List (Nat×List Nat)}{y:Nat}{l l':List Nat}(h:q8 ops lt y l)(hs:∀k∈l',k∈l):q8 ops lt y l':=fun a oy b k hk=>h a oy b k (hs k hk)
theorem Facts.sub{ops:Array Oper}{lt:List (Nat×List Nat)}{l l':List Nat}(h:Facts ops lt l)(hs:l'.Sublist l):Facts ops lt l':=by
 refine ⟨fun k hk=>h.late k (hs.subset hk),fun p q j e=>?_⟩;subst e;obtain ⟨c1,c2,rfl,hs1,hs2⟩:=List.append_sublist_iff.1 hs;obtain ⟨d1,d2,rfl,hd1,hd2⟩:=List.cons_sublist_iff.1 hs2;obtain ⟨e1,e2,rfl⟩:=sH hd1;have:=h.still (c1++e1) (e2++d2) j aq;exact this.sub fun k hk=>cI.2 (.inr (hd2.subset hk))
theorem Ly{ops:Array Oper}{ah:List Nat}{lt:List (Nat×List Nat)}:∀{l:List Nat},pG ops ah lt l=true->Facts ops lt l
 | [],_=>⟨fun _ h=>by simp at h,fun p q j e=>by simp at e⟩
 | j::l,h=>by
  simp only[pG,cg] at h;obtain ⟨⟨_,h1⟩,h2⟩:=h;have ih:=Ly h2
  have hj:∀x,ops[j]?=some x->(lN lt j≠[]->gu x=.W)/\q8 ops lt j l:=fun x hx=>by
   rw[hx] at h1;simp only[cg,sk] at h1
   refine ⟨fun hne=>?_,fun ha oy hoy=>?_⟩
   .have:=h1.1
    split at this
    .rename_i he;exact absurd he hne
    .split at this<;>first|assumption|cases this
   .obtain rfl:x=oy:=by simpa [hx] using hoy
    rcases h1.2 with hh|hh
    .rw[ha] at hh;cases hh
    .exact qdj hh
  refine ⟨fun k hk x hx=>?_,fun p q k e=>?_⟩
  .rcases cE.1 hk with rfl|hk
   .exact (hj x hx).1
   .exact ih.late k hk x hx
  .match p,e with
   | [],e=>
    simp only[bX,lY] at e;obtain ⟨rfl,rfl⟩:=e
    cases hx:ops[j]? with
    | none=>intro _ oy hoy;rw[hx] at hoy;cases hoy
    | some x=>exact (hj x hx).2
   | k'::p,e=>
    simp only[cc,lY] at e;exact ih.still p q k e.2
theorem qb9{ops:Array Oper}{ah:List Nat}{lt:List (Nat×List Nat)}{canon l:List Nat}(h:pG ops ah lt canon=true)(hs:l.Sublist canon):Facts ops lt l:=(Ly h).sub hs
theorem qdy{ops:Array Oper}{x y:Oper}(h:pM ops x y=true)(hw:gu x=.W):gu y=.N:=by
 unfold pM at h;simp only[cg] at h;rw[hw] at h
 cases hy:gu y<;>rw[hy] at h<;>first|rfl|exact absurd h.1 aq
theorem qdz{ops:Array Oper}{x y:Oper}(h:pM ops x y=true)(hw:gu y=.W):gu x=.N:=by
 unfold pM at h;simp only[cg] at h;rw[hw] at h
 cases hy:gu x<;>rw[hy] at h<;>first|rfl|exact absurd h.1 aq
theorem JV{lt:List (Nat×List Nat)}{ops:Array Oper}{i:Nat}{x:Oper}(hx:ops[i]?=some x):∀(l done:List Nat) (st s':St),l.Nodup->i∈l->pN C fid callP callI lt ops done l st->Facts ops lt l->(∀y∈done,q8 ops lt y l) ->
  (∀(p q:List Nat),l=p++i::q->∀j∈p,∃y,ops[j]?=some y/\(pM ops y x=true\/(j∈lN lt i/\rE ops y x=true))) ->
  fC C fid callP callI none ops l st=some s'->∃s1,cJ C fid callP callI none ops i st=some s1/\fC C fid callP callI none ops (l.erase i) s1=some s'/\pN C fid callP callI lt ops done (l.erase i) s1/\(∀y∈lN lt i,y∈done->kQ C fid ops y s1)
 | [],_,_,_,_,hi,_,_,_,_,_=>by simp at hi
 | j::l,done,st,s',hnd,hi,hgd,hfa,hst,hsw,hr=>by
  simp only[fC,aU] at hr;obtain ⟨s1,h1,hr⟩:=hr;obtain ⟨hg1,hg2⟩:=hgd s1 h1
  by_cases he:j=i
  .subst he;refine ⟨s1,h1,by simpa using hr,?_,hg1⟩;rw[List.erase_cons_head];exact hg2.anti fun y hy=>cP _ hy
  .have hil:i∈l:=by rcases cE.1 hi with h|h<;>first|exact absurd h.symm he|exact h
   have hnd':=(lE.1 hnd)
   have hst':∀y∈j::done,q8 ops lt y l:=fun y hy=>by
    rcases cE.1 hy with rfl|hy
    .exact hfa.still [] l y rfl
    .exact (hst y hy).sub fun k hk=>cP _ hk
   obtain ⟨s2,h2,hr2,hgo,hch⟩:=JV hx l (j::done) s1 s' hnd'.2 hil hg2 hfa.tail hst' (fun p q hpq k hkp=>hsw (j::p) q (by rw[hpq];rfl) k (by simp[hkp])) hr;obtain ⟨p,q,hpq⟩:=sH hil;obtain ⟨y,hy,hok⟩:=hsw (j::p) q (by rw[hpq];rfl) j aq
   obtain ⟨s1',k1,k2⟩:∃s1',cJ C fid callP callI none ops i st=some s1'/\cJ C fid callP callI none ops j s1'=some s2:=by
    rcases hok with hok|⟨hm,hok⟩
    .exact qdA hy hx hok h1 h2
    .exact qdx hx hy hok h1 h2 (hch j hm cF)
   have her:(j::l).erase i=j::l.erase i:=by
    rw[List.erase_cons,ag (by simpa using he)]
   rw[her]
   refine ⟨s1',k1,by simp only[fC,k2,O];exact hr2,fun s2' h2'=>?_,fun z hz hzd=>?_⟩
   .rw[k2] at h2';obtain rfl:=mS h2';refine ⟨fun z hz hzd=>?_,hgo⟩;have hjw:=hfa.late j cF y hy (fun h=>by rw[h] at hz;cases hz)
    have hxn:gu x=.N:=by
     rcases hok with hok|⟨_,hok⟩
     .exact qdy hok hjw
     .unfold rE at hok;rw[hjw] at hok;simp at hok
    refine (hg1 z hz hzd).same (MP hx h2 (.inl hxn)) fun oz hoz=>?_;have hs:=hst z hzd (Ky hz) oz hoz i (cP _ hil) x hx;refine ⟨fun t ht=>Ax hx h2 t fun hd=>(hs t hd).1 ht,?_⟩;unfold qj
    cases hd:oz.dst with
    | none=>rfl
    | some d=>exact Ax hx h2 d fun hd'=>(hs d hd').2 hd
   .have hiw:=hfa.late i (cP _ hil) x hx (fun h=>by rw[h] at hz;cases hz)
    have hyn:gu y=.N\/gu y=.L:=by
     rcases hok with hok|⟨_,hok⟩
     .exact .inl (qdz hok hiw)
     .unfold rE at hok;simp only[cg] at hok;have:=hok.1;right
      split at this<;>first|assumption|cases this
    refine (hch z hz (cP _ hzd)).same (MP hy k2 hyn).symm fun oz hoz=>?_;have hs:=hst z hzd (Ky hz) oz hoz j cF y hy;refine ⟨fun t ht=>(Ax hy k2 t fun hd=>(hs t hd).1 ht).symm,?_⟩;unfold qj
    cases hd:oz.dst with
    | none=>rfl
    | some d=>exact (Ax hy k2 d fun hd'=>(hs d hd').2 hd).symm
theorem Lz{ops:Array Oper}{ah:List Nat}{lt:List (Nat×List Nat)}:∀{l:List Nat},pG ops ah lt l=true->∀(p q:List Nat) (i:Nat),l=p++i::q->∀j∈p,(ah.getD i 0).testBit j=true\/∃x y,ops[j]?=some x/\ops[i]?=some y/\(pM ops x y=true\/(j∈lN lt i/\rE ops x y=true))
 | [],_,p,q,i,h,_,_=>by simp at h
 | k::l,hp,p,q,i,h,j,hj=>by
  simp only[pG,cg,fe] at hp
  match p,h with
  | k'::p,h=>
   simp only[cc,lY] at h;obtain ⟨rfl,rfl⟩:=h
   rcases cE.1 hj with rfl|hj
   .have:=hp.1.1 i aq
    rcases Bool.or_eq_true_iff.1 this with h|h
    .exact .inl h
    .refine .inr ?_
     split at h
     .refine ⟨_,_,by assumption,by assumption,?_⟩
      rcases Bool.or_eq_true_iff.1 h with h|h
      .exact .inl h
      .simp only[cg] at h;exact .inr ⟨by simpa using h.1,h.2⟩
     .cases h
   .exact Lz hp.2 p q i rfl j hj
end
section
variable [WInv] {C:Cfg} {B:Nat} {w:World} {g:G}
theorem Xg(hC:CfgOk C){callI:Nat->List AV->af->OM}(hI:nn C callI){fid:Nat}{lt:List (Nat×List Nat)}{ops:Array Oper}{Q:Exit->Act->World->Prop}{canon:List Nat}(hlt:∀k o,ops[k]?=some o->∀e∈o.after.toList,Region.binds .any e=true->e.on<k)
  (hpairs:pG ops (o9 ops) lt canon=true) (hnd:canon.Nodup):∀(l:List Nat) (n:Nat),l.length=n->l.Sublist canon->∀(listed:Array Bool),listed.size=ops.size->(∀x,x<ops.size->(listed.getD x true=true↔x∉l))->(∀x∈l,x<ops.size) ->
  (∀k o,k<ops.size->k∉l->ops[k]?=some o->∀e∈o.after.toList,Region.binds .any e=true->e.on∉l) ->
  ∀(st s':St) (a:Act) (w:World) (g:G),fC C fid (gO callI) callI none ops l st=some s'->pN C fid (gO callI) callI lt ops [] l st->StR B w g st a ->
  (∀a' w' g',StR B w' g' s' a'->Step B w g w' g'->fZ C.P a' a->Q .normal a' w')->wpAny C.P .any ops Q n listed a w:=by
 intro l n hn
 induction n generalizing l with
 | zero=>
  intro hsub listed hsz hlist hin hdown st s' a w g hr hgd hs hq;have hnil:l=[]:=kR hn;subst hnil;simp only[fC,br] at hr;subst hr;refine ⟨?_,hq a w g hs (Step.refl _ _ _) (fZ.refl _ _)⟩;unfold Region.ready;rw[List.filter_eq_nil_iff];intro x hx;have:listed.getD x true=true:=(hlist x (by simpa using hx)).2 aq;simp[this]
 | succ n ih=>
  intro hsub listed hsz hlist hin hdown st s' a w g hr hgd hs hq
  have hready:∀i∈Region.ready .any ops listed,i∈l/\i<ops.size/\∃o,ops[i]?=some o/\∀e∈o.after.toList,Region.binds .any e=true->e.on∉l:=by
   intro i hi;unfold Region.ready at hi;simp only[kB,nY,cg,sj] at hi;obtain ⟨h1,h2,h3⟩:=hi
   have hil:i∈l:=by
    by_cases h:i∈l
    .exact h
    .have:=(hlist i h1).2 h;rw[this] at h2;cases h2
   refine ⟨hil,h1,ops[i],by simp[h1],fun e he hb hon=>?_⟩;have ho:ops[i]?=some ops[i]:=by simp[h1]
   rw[ho] at h3;simp only[aP,bQ] at h3;have h4:=nl.1 h3 e (by simpa using he);simp only[hb,hZ,Bool.false_or] at h4;have h5:=hlt i _ ho e he hb
   have h6:listed.getD e.on true=true:=by
    have hes:e.on<listed.size:=Z;simp only[Array.getD,hes,dif_pos] at h4 ⊢;exact h4
   exact (hlist e.on (by omega)).1 h6 hon
  refine ⟨fun hnone=>?_,fun i hi=>?_⟩
  ·
   exfalso;have hne:l≠[]:=fun h=>by rw[h] at hn;simp at hn
   obtain ⟨mn,hmn,hmin⟩:∃mn∈l,∀x∈l,mn<=x:=by
    exact zL l hne
   have hml:=hin mn hmn
   have:mn∈Region.ready .any ops listed:=by
    unfold Region.ready;simp only[kB,nY,cg,sj]
    refine ⟨hml,?_,?_⟩
    .cases hb:listed.getD mn true with
     | false=>rfl
     | true=>exact absurd hmn ((hlist mn hml).1 hb)
    .have ho:ops[mn]?=some ops[mn]:=by simp[hml]
     rw[ho];simp only[aP,bQ];rw[nl];intro e he
     by_cases hb:Region.binds .any e=true
     .have h5:=hlt mn _ ho e (by simpa using he) hb;have h6:e.on∉l:=fun h=>by have:=hmin _ h;omega
      have h7:=(hlist e.on (by omega)).2 h6;have hes:e.on<listed.size:=Z
      have h8:listed.getD e.on false=true:=by
       simp only[Array.getD,hes,dif_pos] at h7 ⊢;exact h7
      rw[h8];simp
     .simp at hb;simp[hb]
   rw[hnone] at this;simp at this
  .obtain ⟨hil,hio,x,hx,hedge⟩:=hready i hi
   obtain ⟨s1,h1,h2,hg2,_⟩:=JV hx l [] st s' (hnd.sublist hsub) hil hgd (qb9 hpairs hsub) (fun y hy=>by simp at hy) (fun p q hpq j hj=>by
    obtain ⟨pre,post,hcan⟩:∃pc qc,canon=pc++i::qc/\∀y∈p,y∈pc:=by
     rw[hpq] at hsub;obtain ⟨c1,c2,hc,hs1,hs2⟩:=List.append_sublist_iff.1 hsub
     obtain ⟨d1,d2,hd,hdi⟩:∃d1 d2,c2=d1++i::d2/\True:=by
      have:=hs2.subset (cF);obtain ⟨d1,d2,hd⟩:=sH this;exact ⟨d1,d2,hd,trivial⟩
     exact ⟨c1++d1,d2,by rw[hc,hd];simp,fun y hy=>cI.2 (.inl (hs1.subset hy))⟩
    rcases Lz hpairs pre post i hcan.1 j (hcan.2 j hj) with h|⟨y,x',hy,hx',hok⟩
    .exfalso;have hmem:((jR ops ops.size).getD i 0).testBit j=true:=h
     have:=yV (D:=fun k=>k∉l) (fun k o hk' hko e he hb=>by
      rcases mO k ops.size with hk1|hk1
      .exact hdown k o hk1 hk' hko e he hb
      .rw[tY hk1] at hko;cases hko) hlt ops.size i x hio hx hedge j hmem
     exact this (by rw[hpq];simp[hj])
    .obtain rfl:x=x':=by simpa [hx] using hx'
     exact ⟨y,hy,hok⟩) hr
   refine Ay hC hI h1 hs (fun b' hb'=>by cases hb') fun a' w' g' hs' s hd=>?_
   have hmem:∀y,y∈l.erase i↔y∈l/\y≠i:=fun y=>by
    rw[(hnd.sublist hsub).mem_erase_iff];exact And.comm
   refine ih (l.erase i) (by rw[yh hil];omega) (List.Sublist.trans List.erase_sublist hsub) (listed.setIfInBounds i true) (by simpa using hsz) (fun y hy=>?_) (fun y hy=>hin y ((hmem y).1 hy).1) (fun k o hk1 hk2 hko e he hb hon=>?_) s1 s' a' w' g' h2 hg2 hs' fun a'' w'' g'' hs'' s' hd'=>hq a'' w'' g'' hs'' (s.trans s') (hd'.trans hd)
   .have hys:y<listed.size:=Z
    have hg:(listed.setIfInBounds i true).getD y true=if i=y then true else listed.getD y true:=by
     simp only[gV,wC]
     by_cases hiy:i=y
     .subst hiy;simp[hys]
     .simp[hiy]
    rw[hg,hmem]
    by_cases hiy:i=y
    .subst hiy;simp
    .rw[ag hiy,hlist y hy]
     constructor
     .intro h h';exact h h'.1
     .intro h h';exact h ⟨h',fun he=>hiy he.symm⟩
   .have hon':=(hmem _).1 hon
    by_cases hki:k=i
    .subst hki;obtain rfl:x=o:=by simpa [hx] using hko
     exact hedge e he hb hon'.1
    .exact hdown k o hk1 (fun h=>hk2 ((hmem k).2 ⟨h,hki⟩)) hko e he hb hon'.1
theorem Z4{P:Program}{ops:Array Oper}{l ah:List Nat}{lt:List (Nat×List Nat)}(h:rt P ops l ah lt=true):P.follows .mixedOrders=true/\l.isPerm (List.range ops.size)=true /\
  ((List.range ops.size).all (fun i=>(match ops[i]? with|some o=>o.after.all fun e=>!Region.binds .any e||decide (e.on<i)|none=>false)))=true/\pG ops (o9 ops) lt l=true:=by
 unfold rt at h;simp only[cg] at h;obtain ⟨h1,h2,h3,h4,h5,h6⟩:=h
 have hlt:∀k o,ops[k]?=some o->∀e∈o.after.toList,Region.binds .any e=true->e.on<k:=by
  intro k o hk e he hb;have hkl:=(cH.1 hk).1;have:=fe.1 h3 k (by simpa using hkl);rw[hk] at this;simp only at this;have:=nl.1 this e (by simpa using he);simpa [hb] using this
 have hah:=CO (md h4) hlt (fun i hi=>fe.1 h5 i (by simpa using hi)) ops.size (aI _);rw[iv (by rw[md h4];exact aI _)] at hah;refine ⟨h1,h2,h3,?_⟩;unfold o9;rw[hah];exact h6
theorem Z5(hC:CfgOk C){callI:Nat->List AV->af->OM}(hI:nn C callI){R:Type}{fid id:Nat}{ops:Array Oper}{Q:Exit->Act->World->Prop}{canon ah:List Nat}{lt:List (Nat×List Nat)}(hok:rt C.P ops canon ah lt=true){st:St}{K:St->Option R}{r:R}{a:Act}
  (h:lQ C fid (gO callI) callI lt ops canon st K=some r) (hs:StR B w g st a)
  (hn:∀s' a' w' g',K s'=some r->StR B w' g' s' a'->Step B w g w' g'->fZ C.P a' a->Q .normal a' w'):(Code.region id ops true).wp C.P Q a w:=by
 obtain ⟨h1,h2,h3,h4⟩:=Z4 hok;have hperm:canon.Perm (List.range ops.size):=List.isPerm_iff.1 h2
 have hlt:∀k o,ops[k]?=some o->∀e∈o.after.toList,Region.binds .any e=true->e.on<k:=by
  intro k o hk e he hb;have hkl:=(cH.1 hk).1;have:=fe.1 h3 k (by simpa using hkl);rw[hk] at this;simp only at this;have:=nl.1 this e (by simpa using he);simpa [hb] using this
 obtain ⟨s',hr,hK,hgd⟩:=Mq [] h;refine wp_region_any h1 ?_
 refine Xg hC hI hlt h4 (hperm.nodup_iff.2 List.nodup_range) canon ops.size (by rw[hperm.length_eq];simp) (List.Sublist.refl _) _ aq (fun x hx=>?_) (fun x hx=>by simpa using hperm.mem_iff.1 hx) (fun k o hk hk'=>?_) _ s' a _ g hr hgd ⟨hs.tmp.step (Step.drew B w g),hs.mem.drew,hs.size⟩ ?_
 .have:x∈canon:=hperm.mem_iff.2 (by simpa using hx);simp[this,Array.getD,hx]
 .exact absurd (hperm.mem_iff.2 (by simpa using hk)) hk'
 .intro a' w' g' hs' s hd;exact hn s' a' w' g' hK hs' ((Step.drew B w g).trans s) hd
end
end Go.Ab
namespace Go.Ab
def n0{R:Type}(F:Nat->Option R):Prop:=∀k r,F k=some r->F (k+1)=some r
theorem n0.le{R:Type}{F:Nat->Option R}(h:n0 F){k n:Nat}(hn:k<=n){r:R}(hr:F k=some r):F n=some r:=by
 induction hn with
 | refl=>exact hr
 | step _ ih=>exact h _ _ ih
open Classical in
noncomputable def lim{R:Type}(F:Nat->Option R):Option R:=if h:∃k r,F k=some r then F h.choose else none
theorem nH{R:Type}{F:Nat->Option R}{r:R}(h:lim F=some r):∃k,F k=some r:=by
 unfold lim at h
 split at h
 .exact ⟨_,h⟩
 .cases h
theorem n0.lim{R:Type}{F:Nat->Option R}(h:n0 F){k:Nat}{r:R}(hr:F k=some r):lim F=some r:=by
 have hx:∃k r,F k=some r:=⟨k,r,hr⟩;unfold Ab.lim;rw[dif_pos hx];obtain ⟨r',hr'⟩:=hx.choose_spec;have h1:=h.le (sS k hx.choose) hr;have h2:=h.le (uJ k hx.choose) hr';rw[h1] at h2;rw[hr',<- mS h2]
theorem Eo{R:Type}{x y:Option R}(h:∀r,x=some r↔y=some r):x=y:=Option.ext h
section
variable {R:Type}
def iH:List Bool->List AV->Bool
 | [],[]=>true
 | _::bs,_::ts=>iH bs ts
 | _,_=>false
def rb:List Bool->List AV->List AV
 | [],_=>[]
 | b::bs,ts=>(match b with|true=>ts.headD .any|false=>.any)::rb bs ts.tail
theorem Mf:∀(bs:List Bool) (ts:List AV),iH bs ts=true->rb bs ts=lm bs ts
 | [],[],_=>rfl
 | b::bs,t::ts,h=>by
  simp only[rb,lm,Mf bs ts (by simpa [iH] using h),List.tail_cons];cases b<;>rfl
 | [],_::_,h=>by simp[iH] at h
 | _::_,[],h=>by simp[iH] at h
theorem ED:∀(bs:List Bool) (ts:List AV),rb bs (rb bs ts)=rb bs ts
 | [],_=>rfl
 | b::bs,ts=>by
  simp only[rb,List.headD_cons,List.tail_cons,ED bs ts.tail];cases b<;>rfl
abbrev ip(bs:List Bool)(st:St)(f:St->Option R):Option R:=match iH bs st.tmps with
 | true=>f ⟨rb bs st.tmps,st.mem⟩
 | false=>none
abbrev lP(again:St->Option R)(mk:Masks)(K:Ex->St->Option R):Ex->St->Option R:=fun e st'=>match e with
 | .normal=>ip mk.head st' again
 | .exit id=>ip mk.out st' (K (.exit id))
 | .ret=>ip mk.ret st' (K .ret)
def gh(body:St->(Ex->St->Option R)->Option R)(mk:Masks):Nat->St->(Ex->St->Option R)->Option R
 | 0,_,_=>none
 | n+1,st,K=>body st (lP (fun st'=>gh body mk n st' K) mk K)
noncomputable def my(body:St->(Ex->St->Option R)->Option R)(mk:Masks)(st:St)(K:Ex->St->Option R):Option R:=lim fun n=>gh body mk n st K
section
variable (C:Cfg) (fid:Nat) (callP:Nat->List AV->Option AV) (callI:Nat->List AV->af->OM)
noncomputable def bL:Code->St->(Ex->St->Option R)->Option R
 | .skip,st,K=>K .normal st
 | .region id ops d,st,K=>match d with
  | false=>jn C fid callP callI none ops (List.range ops.size) st (K .normal)
  | true=>match C.seqm fid id with
  | true=>(match rt C.P ops (lO (C.ord fid id) ops.size) (C.ahd fid id) (C.late fid id) with
   | true=>lQ C fid callP callI (C.late fid id) ops (lO (C.ord fid id) ops.size) st (K .normal)
   | false=>none)
  | false=>match rr C.P ops (lO (C.ord fid id) ops.size) (C.ahd fid id) (C.two fid id) with
   | true=>jn C fid callP callI (some st.mem.length) ops (lO (C.ord fid id) ops.size) ⟨st.tmps,ck st.mem (cM ops ops.size)⟩ (fun st'=>nS C.P ops st' (K .normal) (C.two fid id))
   | false=>none
 | .seq a b,st,K=>bL a st (qG (fun st'=>bL b st' K) K)
 | .cond c a b,st,K=>au (ev st.tmps c) (bL a st K) (bL b st K)
 | .block id b,st,K=>bL b st (be id K)
 | .loop b,st,K=>ip (C.mask fid (keyOf b)).head st fun st'=>my (bL b) (C.mask fid (keyOf b)) st' K
 | .exit id,st,K=>K (.exit id) st
 | .ret,st,K=>K .ret st
 | _,_,_=>none
end
def np(f:St->(Ex->St->Option R)->Option R):Prop:=∀st,f st=(fun _=>none)\/∃e s,f st=fun K=>K e s
theorem qcW(C:Cfg)(fid:Nat)(callP:Nat->List AV->Option AV)(callI:Nat->List AV->af->OM)(base:Option Nat)(ops:Array Oper)(l:List Nat)(st:St) :
  ((fun K:Ex->St->Option R=>jn C fid callP callI base ops l st (K .normal))=fun _=>none)\/∃e s,(fun K:Ex->St->Option R=>jn C fid callP callI base ops l st (K .normal))=fun K=>K e s:=by
 cases h:fC C fid callP callI base ops l st with
 | none=>left;funext K;rw[nN,h];rfl
 | some s=>right;refine ⟨.normal,s,?_⟩;funext K;rw[nN,h];rfl
theorem Mp(C:Cfg)(fid:Nat)(callP:Nat->List AV->Option AV)(callI:Nat->List AV->af->OM)(lt:List (Nat×List Nat))(ops:Array Oper):∀(l:List Nat) (st:St),
  ((fun K:Ex->St->Option R=>lQ C fid callP callI lt ops l st (K .normal))=fun _=>none)\/∃e s,(fun K:Ex->St->Option R=>lQ C fid callP callI lt ops l st (K .normal))=fun K=>K e s
 | [],st=>.inr ⟨.normal,st,rfl⟩
 | i::l,st=>by
  cases h:cJ C fid callP callI none ops i st with
  | none=>left;funext K;rw[qF,h];rfl
  | some s1=>
   by_cases hc:∀y∈lN lt i,kQ C fid ops y s1
   .rcases Mp C fid callP callI lt ops l s1 with hh|⟨e,s,hh⟩
    .left;funext K;rw[qF,h,O,s7 hc];exact congrFun hh K
    .right;exact ⟨e,s,by funext K;rw[qF,h,O,s7 hc];exact congrFun hh K⟩
   .left;funext K;rw[qF,h,O,CX hc]
theorem Ka{bs:List Bool}{st:St}{f:St->(Ex->St->Option R)->Option R}(h:np f):((fun K=>ip bs st fun s=>f s K)=fun _=>none)\/∃e s,(fun K=>ip bs st fun s=>f s K)=fun K=>K e s:=by
 unfold ip
 cases iH bs st.tmps with
 | false=>exact .inl rfl
 | true=>exact h _
theorem Mk{again again':St->Option R}{mk:Masks}{K:Ex->St->Option R}(h:∀s r,again s=some r->again' s=some r){e:Ex}{s:St}{r:R}(hr:lP again mk K e s=some r):lP again' mk K e s=some r:=by
 cases e with
 | normal=>
  simp only[lP,ip] at hr ⊢
  cases hf:iH mk.head s.tmps with
  | true=>rw[hf] at hr;exact h _ _ hr
  | false=>rw[hf] at hr;cases hr
 | exit id=>exact hr
 | ret=>exact hr
theorem np.mono{f:St->(Ex->St->Option R)->Option R}(h:np f){st:St}{K K':Ex->St->Option R}(hK:∀e s r,K e s=some r->K' e s=some r){r:R}(hr:f st K=some r):f st K'=some r:=by
 rcases h st with h|⟨e,s,h⟩
 .rw[h] at hr;cases hr
 .rw[h] at hr ⊢;exact hK _ _ _ hr
theorem zP{body:St->(Ex->St->Option R)->Option R}(hb:np body)(mk:Masks)(K:Ex->St->Option R):∀n st r,gh body mk n st K=some r->gh body mk (n+1) st K=some r:=by
 intro n
 induction n with
 | zero=>intro st r h;cases h
 | succ n ih=>
  intro st r h;rw[gh] at h ⊢;exact hb.mono (fun e s r hr=>Mk (fun s r=>ih s r) hr) h
theorem bC{body:St->(Ex->St->Option R)->Option R}(hb:np body)(mk:Masks)(st:St)(K:Ex->St->Option R):my body mk st K=body st (lP (fun st'=>my body mk st' K) mk K):=by
 apply Eo;intro r;have hrise:∀st,n0 fun n=>gh body mk n st K:=fun st n r h=>zP hb mk K n st r h
 constructor
 .intro h;obtain ⟨n,hn⟩:=nH h
  cases n with
  | zero=>cases hn
  | succ n=>
   rw[gh] at hn;exact hb.mono (fun e s r hr=>Mk (fun s r h=>(hrise s).lim h) hr) hn
 .intro h
  rcases hb st with hx|⟨e,s,hx⟩
  .rw[hx] at h;cases h
  .have:∃n,gh body mk (n+1) st K=some r:=by
    rw[hx] at h;simp only[gh];rw[hx];simp only
    cases e with
    | normal=>
     simp only[lP,ip] at h ⊢
     cases hf:iH mk.head s.tmps with
     | true=>rw[hf] at h;exact nH h
     | false=>rw[hf] at h;cases h
    | exit id=>exact ⟨0,h⟩
    | ret=>exact ⟨0,h⟩
   obtain ⟨n,hn⟩:=this;exact (hrise st).lim hn
theorem DS{body:St->(Ex->St->Option R)->Option R}(hb:np body)(mk:Masks):∀n,np (gh body mk n)
 | 0=>fun st=>.inl rfl
 | n+1=>fun st=>by
  have ih:=DS hb mk n
  rcases hb st with hx|⟨e,s,hx⟩
  .left;funext K;simp only[gh];rw[hx]
  .cases e with
   | normal=>
    have:gh body mk (n+1) st=fun K=>ip mk.head s fun s'=>gh body mk n s' K:=by
     funext K;simp only[gh];rw[hx]
    rw[this];exact Ka ih
   | exit id=>
    have:gh body mk (n+1) st=fun K=>ip mk.out s (K (.exit id)):=by
     funext K;simp only[gh];rw[hx]
    rw[this];unfold ip
    cases iH mk.out s.tmps with
    | false=>exact .inl rfl
    | true=>exact .inr ⟨_,_,rfl⟩
   | ret=>
    have:gh body mk (n+1) st=fun K=>ip mk.ret s (K .ret):=by
     funext K;simp only[gh];rw[hx]
    rw[this];unfold ip
    cases iH mk.ret s.tmps with
    | false=>exact .inl rfl
    | true=>exact .inr ⟨_,_,rfl⟩
open Classical in
theorem qbp{body:St->(Ex->St->Option R)->Option R}(hb:np body)(mk:Masks):np (my body mk):=by
 intro st
 by_cases h:∃n e s,gh body mk n st=fun K=>K e s
 .obtain ⟨n,e,s,hn⟩:=h;right;refine ⟨e,s,?_⟩;funext K;apply Eo;intro r;have hrise:n0 fun n=>gh body mk n st K:=fun n r h=>zP hb mk K n st r h
  constructor
  .intro hr;obtain ⟨n',hn'⟩:=nH hr;have h1:gh body mk (max n n') st K=some r:=hrise.le (uJ n n') hn'
   cases hk:K e s with
   | some r'=>
    have h2:gh body mk (max n n') st K=some r':=hrise.le (sS n n') (r:=r') (by simp only[hn];exact hk);rw[h2] at h1;exact h1
   | none=>
    rcases DS hb mk (max n n') st with hx|⟨e',s',hx⟩
    .rw[hx] at h1;cases h1
    .have h3:gh body mk (max n n') st (fun e2 s2=>if e2=e/\s2=s then some r else none)=some r:=by
      have hrise':n0 fun n=>gh body mk n st (fun e2 s2=>if e2=e/\s2=s then some r else none):=fun n r h=>zP hb mk _ n st r h
      exact hrise'.le (sS n n') (by simp only[hn];simp)
     rw[hx] at h3 h1;simp only at h3 h1
     split at h3
     .rename_i he;obtain ⟨rfl,rfl⟩:=he;rw[hk] at h1;cases h1
     .cases h3
  .intro hr;exact hrise.lim (k:=n) (by simp only[hn];exact hr)
 .left;funext K
  have:∀r,¬ my body mk st K=some r:=by
   intro r hr;obtain ⟨n,hn⟩:=nH hr
   rcases DS hb mk n st with hx|⟨e,s,hx⟩
   .rw[hx] at hn;cases hn
   .exact h ⟨n,e,s,hx⟩
  cases hx:my body mk st K with
  | none=>rfl
  | some r=>exact absurd hx (this r)
section
variable {C:Cfg} {fid:Nat} {callP:Nat->List AV->Option AV} {callI:Nat->List AV->af->OM}
theorem bw:∀c:Code,np (R:=R) (bL C fid callP callI c):=by
 intro c
 induction c with
 | skip=>exact fun st=>.inr ⟨.normal,st,rfl⟩
 | region id ops d=>
  intro st
  cases d with
  | false=>
   have:bL (R:=R) C fid callP callI (.region id ops false) st=fun K=>jn C fid callP callI none ops (List.range ops.size) st (K .normal):=by funext K;simp only[bL]
   rw[this];exact qcW ..
  | true=>
   cases hq:C.seqm fid id with
   | true=>
    cases hd:rt C.P ops (lO (C.ord fid id) ops.size) (C.ahd fid id) (C.late fid id) with
    | true=>
     have:bL (R:=R) C fid callP callI (.region id ops true) st=fun K=>lQ C fid callP callI (C.late fid id) ops (lO (C.ord fid id) ops.size) st (K .normal):=by funext K;simp only[bL,hq,hd]
     rw[this];exact Mp ..
    | false=>left;funext K;simp only[bL,hq,hd]
   | false=>
   cases hd:rr C.P ops (lO (C.ord fid id) ops.size) (C.ahd fid id) (C.two fid id) with
   | true=>
    have:bL (R:=R) C fid callP callI (.region id ops true) st=fun K=>jn C fid callP callI (some st.mem.length) ops (lO (C.ord fid id) ops.size) ⟨st.tmps,ck st.mem (cM ops ops.size)⟩ (fun st'=>nS C.P ops st' (K .normal) (C.two fid id)):=by funext K;simp only[bL,hq,hd]
    rw[this];have hl:=nN (R:=R) (C:=C) (fid:=fid) (callP:=callP) (callI:=callI) (some st.mem.length) ops (lO (C.ord fid id) ops.size) ⟨st.tmps,ck st.mem (cM ops ops.size)⟩
    cases hr:fC C fid callP callI (some st.mem.length) ops (lO (C.ord fid id) ops.size) ⟨st.tmps,ck st.mem (cM ops ops.size)⟩ with
    | none=>left;funext K;rw[hl,hr];rfl
    | some s=>
     rcases qdV (R:=R) C.P ops s (C.two fid id) with ht|ht
     .left;funext K;rw[hl,hr];exact ht _
     .right;exact ⟨.normal,s,by funext K;rw[hl,hr];exact ht _⟩
   | false=>left;funext K;simp only[bL,hq,hd]
 | seq a b iha ihb=>
  intro st
  rcases iha st with h|⟨e,s,h⟩
  .left;funext K;simp only[bL,h]
  .cases e with
   | normal=>
    rcases ihb s with h'|⟨e',s',h'⟩
    .left;funext K;simp only[bL,h,qG,h']
    .right;refine ⟨e',s',?_⟩;funext K;simp only[bL,h,qG,h']
   | exit id=>right;refine ⟨.exit id,s,?_⟩;funext K;simp only[bL,h,qG]
   | ret=>right;refine ⟨.ret,s,?_⟩;funext K;simp only[bL,h,qG]
 | cond co a b iha ihb=>
  intro st
  cases hv:ev st.tmps co with
  | bool v=>
   cases v with
   | true=>
    have:bL (R:=R) C fid callP callI (.cond co a b) st=bL C fid callP callI a st:=by funext K;simp only[bL,hv,au]
    rw[this];exact iha st
   | false=>
    have:bL (R:=R) C fid callP callI (.cond co a b) st=bL C fid callP callI b st:=by funext K;simp only[bL,hv,au]
    rw[this];exact ihb st
  | _=>left;funext K;simp only[bL,hv,au]
 | block id b ih=>
  intro st
  rcases ih st with h|⟨e,s,h⟩
  .left;funext K;simp only[bL,h]
  .cases e with
   | normal=>right;refine ⟨.normal,s,?_⟩;funext K;simp only[bL,h,be]
   | exit j=>
    cases hj:j==id with
    | true=>right;refine ⟨.normal,s,?_⟩;funext K;simp only[bL,h,be,hj]
    | false=>right;refine ⟨.exit j,s,?_⟩;funext K;simp only[bL,h,be,hj]
   | ret=>right;refine ⟨.ret,s,?_⟩;funext K;simp only[bL,h,be]
 | loop b ih=>
  intro st;have:bL (R:=R) C fid callP callI (.loop b) st=fun K=>ip (C.mask fid (keyOf b)).head st fun st'=>my (bL C fid callP callI b) (C.mask fid (keyOf b)) st' K:=by funext K;simp only[bL]
  rw[this];exact Ka (qbp ih _)
 | exit id=>exact fun st=>.inr ⟨.exit id,st,rfl⟩
 | ret=>exact fun st=>.inr ⟨.ret,st,rfl⟩
 | rangeFunc=>exact fun st=>.inl rfl
 | scope=>exact fun st=>.inl rfl
 | label=>exact fun st=>.inl rfl
 | goto=>exact fun st=>.inl rfl
 | refuse=>exact fun st=>.inl rfl
end
section
variable {C:Cfg} {fid:Nat} {cp cp':Nat->List AV->Option AV} {ci ci':Nat->List AV->af->OM}
def kd(cp cp':Nat->List AV->Option AV)(ci ci':Nat->List AV->af->OM):Prop:=(∀g vs v,cp g vs=some v->cp' g vs=some v)/\∀g vs m r,ci g vs m=some r->ci' g vs m=some r
theorem ZE(h:kd cp cp' ci ci'){d:Option Nat}{g:Nat}{vs:List AV}{m:af}{K:AV->af->Option R}{x:R}(hx:iP C fid cp ci d g vs m K=some x):iP C fid cp' ci' d g vs m K=some x:=by
 unfold iP at hx ⊢
 cases hlm:C.libm g with
 | some l=>rw[hlm] at hx;exact hx
 | none=>
 rw[hlm] at hx;simp only at hx ⊢
 cases hl:C.lib g with
 | some l=>rw[hl] at hx;exact hx
 | none=>
  rw[hl] at hx;simp only at hx ⊢
  cases hi:C.inl fid g with
  | true=>
   rw[hi] at hx
   cases d with
   | some d=>exact hx
   | none=>
    simp only[aU] at hx ⊢;obtain ⟨r,hr,hx⟩:=hx
    cases hz:C.frzc fid g with
    | true=>
     rw[hz] at hr;simp only[zx,aU] at hr ⊢;obtain ⟨r1,h1,h2⟩:=hr;exact ⟨r,⟨r1,h1,h.2 _ _ _ _ h2⟩,hx⟩
    | false=>
    rw[hz] at hr;simp only at hr ⊢
    cases ht:C.thaw fid g with
    | false=>rw[ht] at hr;exact ⟨r,h.2 _ _ _ _ hr,hx⟩
    | true=>
     rw[ht] at hr;simp only[AF,aU] at hr ⊢;obtain ⟨r1,h1,q,h2,h3⟩:=hr;exact ⟨r,⟨r1,h1,q,h.2 _ _ _ _ h2,h3⟩,hx⟩
  | false=>
   rw[hi] at hx;simp only[aU] at hx ⊢;obtain ⟨r,hr,hx⟩:=hx;refine ⟨r,?_,hx⟩;unfold aF at hr ⊢;simp only[aU] at hr ⊢;obtain ⟨r1,h1,h2⟩:=hr;refine ⟨r1,h1,?_⟩
   split at h2
   .cases h2
   .rename_i hne;rw[ag hne];simp only[fk] at h2 ⊢;obtain ⟨v,hv,h2⟩:=h2;exact ⟨v,h.1 _ _ _ hv,h2⟩
theorem Lp(h:kd cp cp' ci ci'){d:Option Nat}{o:Oper}{ρ:Operand->AV}{m:af}{x:AV×af}(hx:cT C fid cp ci d o ρ m=some x):cT C fid cp' ci' d o ρ m=some x:=by
 unfold cT iB at hx ⊢
 cases ho:o.op with
 | call c=>
  rw[ho] at hx;simp only at hx ⊢
  cases hc:c.callee with
  | value f=>
   rw[hc] at hx;simp only[aU] at hx ⊢;obtain ⟨gc,h1,hx⟩:=hx;exact ⟨gc,h1,ZE h hx⟩
  | _=>rw[hc] at hx;exact hx
 | _=>rw[ho] at hx;exact hx
theorem Aw(h:kd cp cp' ci ci'){base:Option Nat}{ops:Array Oper}{i:Nat}{st s:St}(hx:cJ C fid cp ci base ops i st=some s):cJ C fid cp' ci' base ops i st=some s:=by
 unfold cJ at hx ⊢
 cases hi:ops[i]? with
 | none=>rw[hi] at hx;cases hx
 | some o=>
  rw[hi] at hx;simp only[fk] at hx ⊢;obtain ⟨r,hr,hx⟩:=hx;refine ⟨r,?_,hx⟩;unfold fA at hr ⊢
  cases hg:o.guard with
  | none=>rw[hg] at hr;exact Lp h hr
  | some jw=>
   obtain ⟨j,want⟩:=jw;rw[hg] at hr;simp only at hr ⊢
   cases hd:(ops[j]?).bind (·.dst) with
   | none=>rw[hd] at hr;cases hr
   | some g=>
    rw[hd] at hr;simp only at hr ⊢
    split at hr
    .exact hr
    .split at hr
     .split at hr
      .rename_i hb;rw[ai hb];exact Lp h hr
      .rename_i hb;rw[ag hb];exact hr
     .cases hr
theorem EH(h:kd cp cp' ci ci'){base:Option Nat}{ops:Array Oper}:∀(l:List Nat) {st s:St},fC C fid cp ci base ops l st=some s->fC C fid cp' ci' base ops l st=some s
 | [],_,_,hx=>hx
 | i::l,st,s,hx=>by
  simp only[fC,aU] at hx ⊢;obtain ⟨s1,h1,h2⟩:=hx;exact ⟨s1,Aw h h1,EH h l h2⟩
theorem Ms(h:kd cp cp' ci ci'){base:Option Nat}{ops:Array Oper}{l:List Nat}{st:St}{K:St->Option R}{r:R}(hx:jn C fid cp ci base ops l st K=some r):jn C fid cp' ci' base ops l st K=some r:=by
 rw[nN] at hx ⊢;simp only[aU] at hx ⊢;obtain ⟨s,h1,h2⟩:=hx;exact ⟨s,EH h l h1,h2⟩
theorem EJ(h:kd cp cp' ci ci'){lt:List (Nat×List Nat)}{ops:Array Oper}:∀(l:List Nat) {st:St} {K:St->Option R} {r:R},lQ C fid cp ci lt ops l st K=some r->lQ C fid cp' ci' lt ops l st K=some r
 | [],_,_,_,hx=>hx
 | i::l,st,K,r,hx=>by
  rw[qF,aU] at hx ⊢;obtain ⟨s1,h1,h2⟩:=hx;obtain ⟨h3,h4⟩:=CY h2;exact ⟨s1,Aw h h1,by rw[s7 h3];exact EJ h l h4⟩
theorem tb(h:kd cp cp' ci ci'):∀(c:Code) (st:St) (K:Ex->St->Option R) (r:R),bL C fid cp ci c st K=some r->bL C fid cp' ci' c st K=some r:=by
 intro c
 induction c with
 | region id ops d=>
  intro st K r hx
  cases d with
  | false=>simp only[bL] at hx ⊢;exact Ms h hx
  | true=>
   simp only[bL] at hx ⊢
   cases hq:C.seqm fid id with
   | true=>
    rw[hq] at hx;simp only at hx ⊢
    cases hd:rt C.P ops (lO (C.ord fid id) ops.size) (C.ahd fid id) (C.late fid id) with
    | true=>rw[hd] at hx;exact EJ h _ hx
    | false=>rw[hd] at hx;cases hx
   | false=>
   rw[hq] at hx;simp only at hx ⊢
   cases hd:rr C.P ops (lO (C.ord fid id) ops.size) (C.ahd fid id) (C.two fid id) with
   | true=>rw[hd] at hx;exact Ms h hx
   | false=>rw[hd] at hx;cases hx
 | seq a b iha ihb=>
  intro st K r hx;simp only[bL] at hx ⊢;have h1:=iha _ _ _ hx;refine (bw a).mono (fun e s r hr=>?_) h1
  cases e with
  | normal=>exact ihb _ _ _ hr
  | exit id=>exact hr
  | ret=>exact hr
 | cond co a b iha ihb=>
  intro st K r hx;simp only[bL] at hx ⊢;unfold au at hx ⊢
  split at hx
  .split at hx
   .exact iha _ _ _ hx
   .exact ihb _ _ _ hx
  .cases hx
 | block id b ih=>
  intro st K r hx;simp only[bL] at hx ⊢;exact ih _ _ _ hx
 | loop b ih=>
  intro st K r hx;simp only[bL,ip] at hx ⊢
  cases hf:iH (C.mask fid (keyOf b)).head st.tmps with
  | false=>rw[hf] at hx;cases hx
  | true=>
   rw[hf] at hx;simp only at hx ⊢;obtain ⟨n,hn⟩:=nH hx
   have:∀n st,gh (bL C fid cp ci b) (C.mask fid (keyOf b)) n st K=some r->gh (bL C fid cp' ci' b) (C.mask fid (keyOf b)) n st K=some r:=by
    intro n
    induction n with
    | zero=>intro st hx;cases hx
    | succ n ihn=>
     intro st hx;simp only[gh] at hx ⊢;have h1:=ih _ _ _ hx
     rcases bw (R:=R) (C:=C) (fid:=fid) (callP:=cp') (callI:=ci') b st with hl|⟨e,s,hl⟩
     .rw[hl] at h1;cases h1
     .rw[hl] at h1 ⊢;simp only at h1 ⊢
      cases e with
      | normal=>
       simp only[lP,ip] at h1 ⊢
       cases hf':iH (C.mask fid (keyOf b)).head s.tmps with
       | true=>rw[hf'] at h1;exact ihn _ h1
       | false=>rw[hf'] at h1;cases h1
      | exit id=>exact h1
      | ret=>exact h1
   exact n0.lim (F:=fun n=>gh (bL C fid cp' ci' b) (C.mask fid (keyOf b)) n _ K) (fun n r h=>zP (bw b) _ K n _ r h) (this n _ hn)
 | _=>intro st K r hx;exact hx
end
structure Chain where
 cp:Nat->Nat->List AV->Option AV
 ci:Nat->Nat->List AV->af->OM
 le:∀k,kd (cp k) (cp (k+1)) (ci k) (ci (k+1))
theorem kd.refl(cp:Nat->List AV->Option AV)(ci:Nat->List AV->af->OM):kd cp cp ci ci:=⟨fun _ _ _ h=>h,fun _ _ _ _ h=>h⟩
theorem kd.trans{a b c:Nat->List AV->Option AV}{a' b' c':Nat->List AV->af->OM}(h:kd a b a' b')(h':kd b c b' c'):kd a c a' c':=⟨fun g vs v x=>h'.1 g vs v (h.1 g vs v x),fun g vs m r x=>h'.2 g vs m r (h.2 g vs m r x)⟩
theorem Chain.up(X:Chain){k n:Nat}(h:k<=n):kd (X.cp k) (X.cp n) (X.ci k) (X.ci n):=by
 induction h with
 | refl=>exact kd.refl _ _
 | step _ ih=>exact ih.trans (X.le _)
structure Tends (X:Chain) (cp:Nat->List AV->Option AV) (ci:Nat->List AV->af->OM):Prop where
 p:∀g vs v,cp g vs=some v->∃k,X.cp k g vs=some v
 i:∀g vs m r,ci g vs m=some r->∃k,X.ci k g vs m=some r
section
variable {X:Chain} {C:Cfg} {fid:Nat} {cp:Nat->List AV->Option AV} {ci:Nat->List AV->af->OM}
theorem ZD(h:Tends X cp ci){d:Option Nat}{g:Nat}{vs:List AV}{m:af}{K:AV->af->Option R}{x:R}(hx:iP C fid cp ci d g vs m K=some x):∃k,iP C fid (X.cp k) (X.ci k) d g vs m K=some x:=by
 unfold iP at hx ⊢
 cases hlm:C.libm g with
 | some l=>rw[hlm] at hx;exact ⟨0,hx⟩
 | none=>
 rw[hlm] at hx;simp only at hx ⊢
 cases hl:C.lib g with
 | some l=>rw[hl] at hx;exact ⟨0,hx⟩
 | none=>
  rw[hl] at hx;simp only at hx ⊢
  cases hi:C.inl fid g with
  | true=>
   rw[hi] at hx
   cases d with
   | some d=>exact ⟨0,hx⟩
   | none=>
    simp only[aU] at hx ⊢;obtain ⟨r,hr,hx⟩:=hx
    cases hz:C.frzc fid g with
    | true=>
     rw[hz] at hr;simp only[zx,aU] at hr ⊢;obtain ⟨r1,h1,h2⟩:=hr;obtain ⟨k,hk⟩:=h.i _ _ _ _ h2;exact ⟨k,r,⟨r1,h1,hk⟩,hx⟩
    | false=>
    rw[hz] at hr;simp only at hr ⊢
    cases ht:C.thaw fid g with
    | false=>
     rw[ht] at hr;obtain ⟨k,hk⟩:=h.i _ _ _ _ hr;exact ⟨k,r,hk,hx⟩
    | true=>
     rw[ht] at hr;simp only[AF,aU] at hr ⊢;obtain ⟨r1,h1,q,h2,h3⟩:=hr;obtain ⟨k,hk⟩:=h.i _ _ _ _ h2;exact ⟨k,r,⟨r1,h1,q,hk,h3⟩,hx⟩
  | false=>
   rw[hi] at hx;simp only[aU] at hx ⊢;obtain ⟨r,hr,hx⟩:=hx;unfold aF at hr;simp only[aU] at hr;obtain ⟨r1,h1,h2⟩:=hr
   split at h2
   .cases h2
   .rename_i hne;simp only[fk] at h2;obtain ⟨v,hv,h2⟩:=h2;obtain ⟨k,hk⟩:=h.p _ _ _ hv;refine ⟨k,r,?_,hx⟩;unfold aF;simp only[aU];refine ⟨r1,h1,?_⟩;rw[ag hne];simp only[fk];exact ⟨v,hk,h2⟩
theorem Lo(h:Tends X cp ci){d:Option Nat}{o:Oper}{ρ:Operand->AV}{m:af}{x:AV×af}(hx:cT C fid cp ci d o ρ m=some x):∃k,cT C fid (X.cp k) (X.ci k) d o ρ m=some x:=by
 unfold cT iB at hx ⊢
 cases ho:o.op with
 | call c=>
  rw[ho] at hx;simp only at hx ⊢
  cases hc:c.callee with
  | value f=>
   rw[hc] at hx;simp only[aU] at hx ⊢;obtain ⟨gc,h1,hx⟩:=hx;obtain ⟨k,hk⟩:=ZD h hx;exact ⟨k,gc,h1,hk⟩
  | _=>rw[hc] at hx;exact ⟨0,hx⟩
 | _=>rw[ho] at hx;exact ⟨0,hx⟩
theorem MN(h:Tends X cp ci){base:Option Nat}{ops:Array Oper}{i:Nat}{st s:St}(hx:cJ C fid cp ci base ops i st=some s):∃k,cJ C fid (X.cp k) (X.ci k) base ops i st=some s:=by
 unfold cJ at hx ⊢
 cases hi:ops[i]? with
 | none=>rw[hi] at hx;cases hx
 | some o=>
  rw[hi] at hx;simp only[fk] at hx ⊢;obtain ⟨r,hr,hx⟩:=hx;unfold fA at hr ⊢
  cases hg:o.guard with
  | none=>rw[hg] at hr;obtain ⟨k,hk⟩:=Lo h hr;exact ⟨k,r,hk,hx⟩
  | some jw=>
   obtain ⟨j,want⟩:=jw;rw[hg] at hr;simp only at hr ⊢
   cases hd:(ops[j]?).bind (·.dst) with
   | none=>rw[hd] at hr;cases hr
   | some g=>
    rw[hd] at hr;simp only at hr ⊢
    split at hr
    .exact ⟨0,r,hr,hx⟩
    .split at hr
     .split at hr
      .rename_i hb;subst hb;obtain ⟨k,hk⟩:=Lo h hr;exact ⟨k,r,by simpa using hk,hx⟩
      .rename_i hb;exact ⟨0,r,by rw[ag hb];exact hr,hx⟩
     .cases hr
theorem Mm(h:Tends X cp ci){base:Option Nat}{ops:Array Oper}:∀(l:List Nat) {st s:St},fC C fid cp ci base ops l st=some s->∃k,fC C fid (X.cp k) (X.ci k) base ops l st=some s
 | [],_,_,hx=>⟨0,hx⟩
 | i::l,st,s,hx=>by
  simp only[fC,aU] at hx ⊢;obtain ⟨s1,h1,h2⟩:=hx;obtain ⟨k1,h1⟩:=MN h h1;obtain ⟨k2,h2⟩:=Mm h l h2;exact ⟨max k1 k2,s1,Aw (X.up (sS ..)) h1,EH (X.up (uJ ..)) l h2⟩
theorem Mr(h:Tends X cp ci){base:Option Nat}{ops:Array Oper}{l:List Nat}{st:St}{K:St->Option R}{r:R}(hx:jn C fid cp ci base ops l st K=some r):∃k,jn C fid (X.cp k) (X.ci k) base ops l st K=some r:=by
 rw[nN] at hx;simp only[aU] at hx;obtain ⟨s,h1,h2⟩:=hx;obtain ⟨k,h1⟩:=Mm h l h1;exact ⟨k,by rw[nN,h1];exact h2⟩
theorem Mo(h:Tends X cp ci){lt:List (Nat×List Nat)}{ops:Array Oper}:∀(l:List Nat) {st:St} {K:St->Option R} {r:R},lQ C fid cp ci lt ops l st K=some r->∃k,lQ C fid (X.cp k) (X.ci k) lt ops l st K=some r
 | [],_,_,_,hx=>⟨0,hx⟩
 | i::l,st,K,r,hx=>by
  rw[qF,aU] at hx;obtain ⟨s1,h1,h2⟩:=hx;obtain ⟨h3,h4⟩:=CY h2;obtain ⟨k1,h1⟩:=MN h h1;obtain ⟨k2,h2⟩:=Mo h l h4;refine ⟨max k1 k2,?_⟩;rw[qF,aU];exact ⟨s1,Aw (X.up (sS ..)) h1,by rw[s7 h3];exact EJ (X.up (uJ ..)) l h2⟩
theorem KJ{f:St->(Ex->St->Option R)->Option R}(hf:np f){st:St}{K:Ex->St->Option R}{r:R}(h:f st K=some r):∃e s,K e s=some r/\∀K',f st K'=K' e s:=by
 rcases hf st with hx|⟨e,s,hx⟩
 .rw[hx] at h;cases h
 .exact ⟨e,s,by rw[hx] at h;exact h,fun K'=>by rw[hx]⟩
theorem Z9(h:Tends X cp ci):∀(c:Code) (st:St) (K:Ex->St->Option R) (r:R),bL C fid cp ci c st K=some r->∃k,bL C fid (X.cp k) (X.ci k) c st K=some r:=by
 intro c
 induction c with
 | region id ops d=>
  intro st K r hx
  cases d with
  | false=>simp only[bL] at hx ⊢;exact Mr h hx
  | true=>
   simp only[bL] at hx ⊢
   cases hq:C.seqm fid id with
   | true=>
    rw[hq] at hx;simp only at hx ⊢
    cases hd:rt C.P ops (lO (C.ord fid id) ops.size) (C.ahd fid id) (C.late fid id) with
    | true=>rw[hd] at hx;exact Mo h _ hx
    | false=>rw[hd] at hx;cases hx
   | false=>
   rw[hq] at hx;simp only at hx ⊢
   cases hd:rr C.P ops (lO (C.ord fid id) ops.size) (C.ahd fid id) (C.two fid id) with
   | true=>rw[hd] at hx;exact Mr h hx
   | false=>rw[hd] at hx;cases hx
 | seq a b iha ihb=>
  intro st K r hx;simp only[bL] at hx ⊢;obtain ⟨k1,h1⟩:=iha _ _ _ hx;obtain ⟨e,s,h2,h3⟩:=KJ (bw a) h1
  cases e with
  | normal=>
   obtain ⟨k2,h4⟩:=ihb _ _ _ h2;refine ⟨max k1 k2,?_⟩
   have h5:bL C fid (X.cp k1) (X.ci k1) a st (qG (fun st'=>bL C fid (X.cp (max k1 k2)) (X.ci (max k1 k2)) b st' K) K)=some r:=by
    rw[h3];exact tb (X.up (uJ ..)) b _ _ _ h4
   exact tb (X.up (sS ..)) a _ _ _ h5
  | exit id=>exact ⟨k1,by rw[h3];exact h2⟩
  | ret=>exact ⟨k1,by rw[h3];exact h2⟩
 | cond co a b iha ihb=>
  intro st K r hx;simp only[bL] at hx ⊢;unfold au at hx ⊢
  split at hx
  .split at hx
   .exact iha _ _ _ hx
   .exact ihb _ _ _ hx
  .cases hx
 | block id b ih=>
  intro st K r hx;simp only[bL] at hx ⊢;exact ih _ _ _ hx
 | loop b ih=>
  intro st K r hx;simp only[bL,ip] at hx ⊢
  cases hf:iH (C.mask fid (keyOf b)).head st.tmps with
  | false=>rw[hf] at hx;cases hx
  | true=>
   rw[hf] at hx;simp only at hx ⊢;obtain ⟨n,hn⟩:=nH hx
   have:∀n st,gh (bL C fid cp ci b) (C.mask fid (keyOf b)) n st K=some r->∃k,my (bL C fid (X.cp k) (X.ci k) b) (C.mask fid (keyOf b)) st K=some r:=by
    intro n
    induction n with
    | zero=>intro st hx;cases hx
    | succ n ihn=>
     intro st hx;simp only[gh] at hx;obtain ⟨k1,h1⟩:=ih _ _ _ hx;obtain ⟨e,s,h2,h3⟩:=KJ (bw b) h1
     have fin:(∀k,k1<=k->lP (fun st'=>my (bL C fid (X.cp k) (X.ci k) b) (C.mask fid (keyOf b)) st' K) (C.mask fid (keyOf b)) K e s=some r->my (bL C fid (X.cp k) (X.ci k) b) (C.mask fid (keyOf b)) st K=some r):=by
      intro k hk hr;rw[bC (bw b)];exact tb (X.up hk) b _ _ _ (by rw[h3];exact hr)
     cases e with
     | normal=>
      simp only[lP,ip] at h2
      cases hf':iH (C.mask fid (keyOf b)).head s.tmps with
      | true=>
       rw[hf'] at h2;obtain ⟨k2,h4⟩:=ihn _ h2;refine ⟨max k1 k2,fin _ (sS ..) ?_⟩;simp only[lP,ip,hf']
       have h5:bL C fid (X.cp k2) (X.ci k2) (.loop b) ⟨rb (C.mask fid (keyOf b)).head s.tmps,s.mem⟩ K=my (bL C fid (X.cp k2) (X.ci k2) b) (C.mask fid (keyOf b)) ⟨rb (C.mask fid (keyOf b)).head s.tmps,s.mem⟩ K:=by
        have hfr:∀(bs:List Bool) (ts:List AV),iH bs (rb bs ts)=true:=by
         intro bs
         induction bs with
         | nil=>intro ts;rfl
         | cons b bs ihb=>intro ts;simp only[rb,iH];exact ihb _
        simp only[bL,ip,hfr,ED]
       have h6:=tb (C:=C) (fid:=fid) (X.up (uJ k1 k2)) (.loop b) _ _ _ (h5.trans h4)
       have hfr:∀(bs:List Bool) (ts:List AV),iH bs (rb bs ts)=true:=by
        intro bs
        induction bs with
        | nil=>intro ts;rfl
        | cons b bs ihb=>intro ts;simp only[rb,iH];exact ihb _
       simpa only[bL,ip,hfr,ED] using h6
      | false=>rw[hf'] at h2;cases h2
     | exit id=>exact ⟨k1,fin _ (aI _) h2⟩
     | ret=>exact ⟨k1,fin _ (aI _) h2⟩
   exact this n _ hn
 | _=>intro st K r hx;exact ⟨0,hx⟩
end
noncomputable def km(C:Cfg):Nat->Nat->List AV->af->OM
 | 0,_,_,_=>none
 | k+1,f,args,m=>match C.P.funcs[f]? with
  | none=>none
  | some fn=>match fn.body with
   | none=>none
   | some c=>bL C f (gO (km C k)) (km C k) c ⟨args++List.replicate (fn.ntmps-args.length) .any,m⟩ (tc C.P fn.results.toList)
noncomputable def AC(C:Cfg)(f:Nat)(args:List AV)(m:af):OM:=lim fun k=>km C k f args m
noncomputable def AP(C:Cfg):Nat->List AV->Option AV:=gO (AC C)
theorem CJ{ci ci':Nat->List AV->af->OM}(h:∀g vs m r,ci g vs m=some r->ci' g vs m=some r):kd (gO ci) (gO ci') ci ci':=by
 refine ⟨fun g vs v hx=>?_,h⟩;unfold gO at hx ⊢;simp only[aU] at hx ⊢;obtain ⟨r,h1,h2⟩:=hx;exact ⟨r,h _ _ _ _ h1,h2⟩
theorem CK(C:Cfg):∀k f args m r,km C k f args m=some r->km C (k+1) f args m=some r:=by
 intro k
 induction k with
 | zero=>intro f args m r h;cases h
 | succ k ih=>
  intro f args m r h;rw[km] at h ⊢
  cases hf:C.P.funcs[f]? with
  | none=>rw[hf] at h;cases h
  | some fn=>
   rw[hf] at h;simp only at h ⊢
   cases hb:fn.body with
   | none=>rw[hb] at h;cases h
   | some c=>
    rw[hb] at h;exact tb (CJ fun g vs m r=>ih g vs m r) c _ _ _ h
noncomputable def ZK(C:Cfg):Chain:=⟨fun k=>gO (km C k),fun k=>km C k,fun k=>CJ (CK C k)⟩
theorem qdI(C:Cfg):Tends (ZK C) (AP C) (AC C):=by
 refine ⟨fun g vs v h=>?_,fun g vs m r h=>nH h⟩;unfold AP gO at h;simp only[aU] at h;obtain ⟨r,h1,h2⟩:=h;obtain ⟨k,hk⟩:=nH h1;refine ⟨k,?_⟩;show gO (km C k) g vs=some v;unfold gO;simp only[aU];exact ⟨r,hk,h2⟩
theorem aZ(C:Cfg)(f:Nat)(args:List AV)(m:af){fn:Func}{c:Code}(hf:C.P.funcs[f]?=some fn)(hb:fn.body=some c) :
  AC C f args m=bL C f (AP C) (AC C) c ⟨args++List.replicate (fn.ntmps-args.length) .any,m⟩ (tc C.P fn.results.toList):=by
 apply Eo;intro r
 constructor
 .intro h;obtain ⟨k,hk⟩:=nH h
  cases k with
  | zero=>cases hk
  | succ k=>
   rw[km,hf] at hk;simp only[hb] at hk;exact tb (CJ fun g vs m r hr=>n0.lim (F:=fun k=>km C k g vs m) (fun k r h=>CK C k g vs m r h) hr) c _ _ _ hk
 .intro h;obtain ⟨k,hk⟩:=Z9 (qdI C) c _ _ _ h;refine n0.lim (F:=fun k=>km C k f args m) (fun k r h=>CK C k f args m r h) (k:=k+1) ?_;show km C (k+1) f args m=some r;rw[km,hf];simp only[hb];exact hk
end
end Go.Ab
namespace Go.Ab
open Go.RowKit
section
variable [WInv] {C:Cfg} {B:Nat} {w:World} {g:G} {m:af}
theorem qaa(hC:CfgOk C){callI:Nat->List AV->af->OM}(hI:nn C callI){R:Type}{fid:Nat}:∀(c:Code) (st:St) (K:Ex->St->Option R) (r:R) (a:Act) (w:World) (g:G) (Q:Exit->Act->World->Prop),
  bL C fid (gO callI) callI c st K=some r->StR B w g st a->AS C B w g a K r Q->c.wp C.P Q a w:=by
 intro c
 induction c with
 | skip=>
  intro st K r a w g Q h hs hq;exact wp_skip (hq .normal st a w g h hs (Step.refl _ _ _) (fZ.refl _ _))
 | region id ops d=>
  intro st K r a w g Q h hs hq;simp only[bL] at h
  cases d with
  | false=>
   simp only at h;rw[nN] at h;simp only[aU] at h;obtain ⟨s',hr,hK⟩:=h;exact wp_region (Mn hC hI _ st s' a w g hr hs fun a' w' g' hs' s hd=>hq .normal s' a' w' g' hK hs' s hd)
  | true=>
   simp only at h
   cases hsq:C.seqm fid id with
   | true=>
    rw[hsq] at h;simp only at h
    split at h
    .rename_i hok;exact Z5 hC hI hok h hs fun s' a' w' g' hK hs' s hd=>hq .normal s' a' w' g' hK hs' s hd
    .cases h
   | false=>
   rw[hsq] at h;simp only at h
   split at h
   .rename_i hok
    cases ht:C.two fid id with
    | nil=>
     rw[ht] at hok h;exact Z6 hC hI (Z3 hok) h hs fun s' a' w' g' hK hs' s hd=>hq .normal s' a' w' g' hK hs' s hd
    | cons two sp=>
     rw[ht] at hok h;exact Z7 hC hI hok h hs fun s' a' w' g' hK hs' s hd=>hq .normal s' a' w' g' hK hs' s hd
   .cases h
 | seq x y ihx ihy=>
  intro st K r a w g Q h hs hq;simp only[bL] at h;refine wp_seq (ihx st _ r a w g _ h hs ?_);intro e st' a' w' g' hK hs' s hd
  cases e with
  | normal=>
   simp only[qG] at hK;exact ihy st' K r a' w' g' Q hK hs' fun e st'' a'' w'' g'' hK' hs'' s' hd'=>hq e st'' a'' w'' g'' hK' hs'' (s.trans s') (hd'.trans hd)
  | exit id=>exact hq (.exit id) st' a' w' g' hK hs' s hd
  | ret=>exact hq .ret st' a' w' g' hK hs' s hd
 | cond co x y ihx ihy=>
  intro st K r a w g Q h hs hq;simp only[bL] at h;have hV:=JS hs.tmp co
  cases hv:ev st.tmps co with
  | bool b=>
   rw[hv] at h hV;generalize hx:a.eval co=v at hV;cases hV
   cases b with
   | true=>exact wp_cond_true hx (ihx st K r a w g Q (by simpa [au] using h) hs hq)
   | false=>exact wp_cond_false hx (ihy st K r a w g Q (by simpa [au] using h) hs hq)
  | _=>rw[hv] at h;simp[au] at h
 | block id x ih=>
  intro st K r a w g Q h hs hq;simp only[bL] at h;refine wp_block (ih st _ r a w g _ h hs ?_);intro e st' a' w' g' hK hs' s hd
  cases e with
  | normal=>exact hq .normal st' a' w' g' hK hs' s hd
  | exit j=>
   simp only[be] at hK
   by_cases hj:j=id
   .have hb:(j==id)=true:=by simpa using hj
    rw[hb] at hK;simp only[Dd,Exit.inBlock,ai hj];exact hq .normal st' a' w' g' hK hs' s hd
   .have hb:(j==id)=false:=by simpa using hj
    rw[hb] at hK;simp only[Dd,Exit.inBlock,ag hj];exact hq (.exit j) st' a' w' g' hK hs' s hd
  | ret=>exact hq .ret st' a' w' g' hK hs' s hd
 | loop x ih=>
  intro st K r a w g Q h hs hq;simp only[bL] at h;generalize C.mask fid (keyOf x)=mk at h;have hmask:∀(l:List Bool) {w:World} {g:G} {st:St} {a:Act},iH l st.tmps=true->StR B w g st a->StR B w g ⟨rb l st.tmps,st.mem⟩ a:=fun l w g st a hf hs=>⟨by rw[Mf _ _ hf];exact hs.tmp.mask _,hs.mem,hs.size⟩;simp only[ip] at h
  cases hf0:iH mk.head st.tmps with
  | false=>rw[hf0] at h;cases h
  | true=>
  rw[hf0] at h;have hs0:=hmask mk.head hf0 hs;obtain ⟨n,hn⟩:=nH h
  have round:∀k (st:St) (a:Act) (w:World) (g:G),gh (bL C fid (gO callI) callI x) mk k st K=some r->StR B w g st a->AS C B w g a K r Q->x.wp C.P (Exit.then (LW C.P x Q) Q) a w:=by
   intro k
   induction k with
   | zero=>intro st a w g h;simp[gh] at h
   | succ k ihk=>
    intro st a w g h hs hq;simp only[gh] at h;refine ih st _ r a w g _ h hs ?_;intro e st' a' w' g' hK hs' s hd;have hq':AS C B w' g' a' K r Q:=fun e st'' a'' w'' g'' hK' hs'' s' hd'=>hq e st'' a'' w'' g'' hK' hs'' (s.trans s') (hd'.trans hd)
    cases e with
    | normal=>
     simp only[lP,ip] at hK
     cases hf:iH mk.head st'.tmps with
     | false=>rw[hf] at hK;cases hK
     | true=>
      rw[hf] at hK;exact qbq (ihk _ a' w' g' hK (hmask _ hf hs') hq')
    | exit id=>
     simp only[lP,ip] at hK
     cases hf:iH mk.out st'.tmps with
     | false=>rw[hf] at hK;cases hK
     | true=>rw[hf] at hK;exact hq (.exit id) _ a' w' g' hK (hmask _ hf hs') s hd
    | ret=>
     simp only[lP,ip] at hK
     cases hf:iH mk.ret st'.tmps with
     | false=>rw[hf] at hK;cases hK
     | true=>rw[hf] at hK;exact hq .ret _ a' w' g' hK (hmask _ hf hs') s hd
  exact qea (round n _ a w g hn hs0 hq)
 | exit id=>
  intro st K r a w g Q h hs hq;exact wp_exit (hq (.exit id) st a w g h hs (Step.refl _ _ _) (fZ.refl _ _))
 | ret=>
  intro st K r a w g Q h hs hq;exact wp_ret (hq .ret st a w g h hs (Step.refl _ _ _) (fZ.refl _ _))
 | rangeFunc=>intro st K r a w g Q h;simp[bL] at h
 | scope=>intro st K r a w g Q h;simp[bL] at h
 | label=>intro st K r a w g Q h;simp[bL] at h
 | goto=>intro st K r a w g Q h;simp[bL] at h
 | refuse=>intro st K r a w g Q h;simp[bL] at h
theorem WZ(hC:CfgOk C):∀k,nn C (km C k):=by
 intro k
 induction k with
 | zero=>intro f args m v m' h;simp[km] at h
 | succ k ih=>
  intro f args m v m' h;simp only[km] at h
  cases hfn:C.P.funcs[f]? with
  | none=>rw[hfn] at h;simp at h
  | some fn=>
   rw[hfn] at h;simp only at h
   cases hb:fn.body with
   | none=>rw[hb] at h;simp at h
   | some c=>
    rw[hb] at h;simp only at h;refine ⟨?_,fn,rfl,by simp[hb]⟩;intro B w g vs hm hB hl hv;refine calls_of_wp_defers hfn hb ?_
    have hts:lG w g (args++List.replicate (fn.ntmps-args.length) .any) (vs++Array.replicate (fn.ntmps-vs.size) undef):=by
     refine ⟨by simp[hl],fun t=>?_⟩;simp only[aK,gV,l9,Array.getElem?_append]
     by_cases h1:t<args.length
     .rw[ai h1,ai Z];simpa [aK,gV] using hv t h1
     .rw[ag h1,ag Z,sK];split<;>exact .any _
    refine qaa hC ih c _ _ (v,m') _ w g _ h ⟨hts,hm,hB⟩ ?_;intro e st' a' w' g' hK hs' s hd
    have fin:(ov C.P st'.mem st'.tmps fn.results.toList).bind (fun vs=>some (vT vs,st'.mem))=some (v,m')->Leaves C.P fn a'.tmps (fun e w'=>∃v'' g'',e=Ending.returned v''/\Step B w g w' g''/\MemR B w' g'' m'/\V w' g'' v v'') a'.defers .returning w':=by
     intro hK;simp only[aU,br,cw] at hK;obtain ⟨l,hl1,rfl,rfl⟩:=hK;obtain ⟨vl,r1,r2,r3⟩:=Mh (P:=C.P) hs'.mem hs'.tmp _ l hl1;refine KD ⟨_,?_,_,g',rfl,s,hs'.mem,qbV r2 r3⟩ _ (hd (fun d hd=>by cases hd));rw[qcO,Array.mapM_eq_mapM_toList];simp only[Sem.run_bind,Sem.run_map,r1,Result.andThen_ok,Sem.run_pure]
    cases e with
    | normal=>exact fin (by simpa only[tc,Al] using hK)
    | exit id=>simp[tc] at hK
    | ret=>exact fin (by simpa only[tc,Al] using hK)
theorem NS(hC:CfgOk C):nn C (AC C):=by
 intro f args m v m' h;obtain ⟨k,hk⟩:=nH h;exact WZ hC k f args m v m' hk
end
end Go.Ab
namespace Go.Ab
open Go.RowKit Go.Sort
def qr:List AV->Option (List Int)
 | []=>some []
 | .int .i64 n::l=>(qr l).map fun ns=>n::ns
 | _=>none
theorem DD:∀{ks:List AV} {ns:List Int},qr ks=some ns->ks=ns.map (AV.int .i64)
 | [],ns,h=>by simp[qr] at h;subst h;rfl
 | x::l,ns,h=>by
  unfold qr at h
  split at h
  .rename_i he;cases he
  .rename_i n l' he;cases he;obtain ⟨ms,hm,rfl⟩:=fk.1 h;rw[DD hm];rfl
  .cases h
theorem DE:∀ns:List Int,qr (ns.map (AV.int .i64))=some ns
 | []=>rfl
 | n::ns=>by simp only[cU,qr,DE ns,aP]
def jz(ns:List Int):List Int:=ns.mergeSort fun x y=>decide (x<=y)
def rW:List AV->af->OM
 | [.lst _ _ _ []],m=>some (.tup [],m)
 | [.arr nm off n sh],m=>match sh with
  | some _=>none
  | none=>(m.obj? nm).bind fun o=>if o.1=false/\off=0/\0<n/\n=o.2.length/\n<=1000000 then (qr o.2).map fun ns=>(.tup [],m.set nm (some (.obj false ((jz ns).map (AV.int .i64))))) else none
 | _,_=>none
def rk:List AV->af->OM
 | [.lst sh z o []],m=>some (.lst sh z o [],m)
 | [.arr nm off n sh],m=>match sh with
  | some _=>none
  | none=>(m.obj? nm).bind fun o=>if o.1=false/\off=0/\0<n/\n=o.2.length/\n<=1000000 then (qr o.2).map fun ns=>(.arr nm 0 (Lib.compact ns).length none,m.set nm (some (.obj false ((Lib.compact ns++List.replicate (ns.length-(Lib.compact ns).length) 0).map (AV.int .i64))))) else none
 | _,_=>none
abbrev jh:Int->Value:=Value.int .i64
section
variable [WInv] {P:Program} {B:Nat} {w:World} {g:G} {m:af}
theorem qcx{w:World}{b:Nat}{d:Array Int}{c:Array Value}{e:TypeId}{fr:Nat×Nat}(hb:w.heap[b]?=some (Obj.cells c e fr))(n:Nat)(os:Array Obj) :
  Below (w.setRow b (putCells jh 0 d c)).heap.size (w.setRow b (putCells jh 0 d c)) (grow (putRow jh (Sort.ahead w n) b 0 d) os):=by
 have hsz:(w.setRow b (putCells jh 0 d c)).heap.size=w.heap.size:=aq;have hsz2:(putRow jh (Sort.ahead w n) b 0 d).heap.size=w.heap.size:=by simp[putRow,mapBlock,Sort.ahead]
 refine ⟨rfl,rfl,rfl,?_,fun k hk=>?_⟩
 .show _<=((putRow jh (Sort.ahead w n) b 0 d).heap++os).size;rw[si,hsz,hsz2];omega
 .rw[hsz] at hk;rw[heap_grow_old _ os (by rw[hsz2];exact hk)]
  by_cases he:k=b
  .subst he;rw[setRow_heap w k c _ e fr hb];simp only[putRow,mapBlock,Sort.ahead,Array.getElem?_modify,aY,hb,aP,onCells]
  .rw[setRow_other w b k _ he];simp only[putRow,mapBlock,Sort.ahead,Array.getElem?_modify];rw[ag (fun h=>he h.symm)]
theorem qct{d:Array Int}{c:Array Value}{j:Nat}(hj:j<d.size)(hc:d.size<=c.size):(putCells jh 0 d c).getD j undef=.int .i64 d[j]!:=by
 have hjc:j<c.size:=Z;simp[putCells,gV,Array.getElem?_mapIdx,hjc,hj]
theorem L6(hm:MemR B w g m)(hB:B<=w.heap.size){nm b:Nat}{cs:List AV}{c:Array Value}{e:TypeId}(hn:m.get nm=some (.obj false cs))(hl:g.loc nm=some b)(hb:w.heap[b]?=some (Obj.cells c e (0,0)))(hcl:cs.length<=c.size){ds:List Int}(hd:ds.length=cs.length)(n:Nat)(os:Array Obj) :
  Step B w g (grow (putRow jh (Sort.ahead w n) b 0 ds.toArray) os) g/\MemR B (grow (putRow jh (Sort.ahead w n) b 0 ds.toArray) os) g (m.set nm (some (.obj false (ds.map (AV.int .i64))))):=by
 have hsz:(putCells jh 0 ds.toArray c).size=c.size:=by simp[putCells]
 obtain ⟨s1,hm1⟩:=hm.write (cs':=ds.map (AV.int .i64)) (c':=putCells jh 0 ds.toArray c) hn hl hb hsz (by rw[hsz,bA];omega) (fun j hj=>by
  rw[bA] at hj;rw[qct (by simpa using hj) (by simp;omega)];have e1:(ds.map (AV.int .i64)).getD j .any=.int .i64 ds[j]:=by simp[aK,hj]
  have e2:ds.toArray[j]! = ds[j]:=by simp[hj]
  rw[e1,e2]
  exact .int _ _)
 have hbl:=qcx (d:=ds.toArray) hb n os;have hB1:B<=(w.setRow b (putCells jh 0 ds.toArray c)).heap.size:=by simpa using hB
 have s2:Step B (w.setRow b (putCells jh 0 ds.toArray c)) g (grow (putRow jh (Sort.ahead w n) b 0 ds.toArray) os) g:=
  ⟨hbl.mono hB1,fun b' off u _ hc=>(hbl.cell (p:=⟨b',off,none⟩) (n9 hc)).trans hc,fun b' c' e' fr hb'=>⟨c',(hbl.block b' (cH.1 hb').1).trans hb',rfl⟩,fun _ _ _ h=>h,fun _ _ _=>Iff.rfl,fun _ _=>Iff.rfl,fun _ _ h=>h,fun _ _ _ h=>h⟩
 exact ⟨s1.trans s2,hm1.keep s2 (fun b' _ hb'=>hbl.block b' hb') (fun _ _ h=>h) rfl rfl (fun b' off hw=>mN (hm1.wrLt b' off hw) hbl.size) (fun b' hw=>mN (hm1.boxLt b' hw) hbl.size)⟩
theorem Kf{b:Nat}{cs:List AV}{c:Array Value}{e:TypeId}(hb:w.heap[b]?=some (Obj.cells c e (0,0)))(hcl:cs.length<=c.size){ns:List Int}(hc:cs=ns.map (AV.int .i64))(hv:∀j,j<cs.length->V w g (cs.getD j .any) (c.getD j undef)):Holds jh w b 0 ns.toArray:=by
 intro j hj;have hj':j<ns.length:=by simpa using hj
 have hjc:j<cs.length:=by rw[hc,bA];exact hj'
 have h1:=hv j hjc;have e1:cs.getD j .any=.int .i64 ns[j]:=by rw[hc];simp[aK,hj']
 rw[e1] at h1
 have e3:c.getD j undef=.int .i64 ns[j]:=by
  generalize c.getD j undef=u at h1;cases h1;rfl
 refine ⟨?_,by simp[World.frozen?,hb]⟩;rw[cell_of_row w _ _ c e (0,0) hb];have hjs:j<c.size:=Z;simp only[bj];rw[gV,tW hjs,bQ] at e3;rw[tW hjs,e3];simp[hj']
theorem qdi{f:Nat}(hS:∀(aS cap:Nat) (zs:List Int) (w:World),Holds jh w aS 0 zs.toArray->aS<w.heap.size->zs.length<4611686018427387904->Calls P f #[.slice (some ⟨aS,0,none⟩) zs.length cap] w fun e w'=>e=.returned (.tuple #[])/\∃n os,w'=grow (putRow jh (Sort.ahead w n) aS 0 (jz zs).toArray) os)
  (hN:∀(p:Option Addr) (cap:Nat) (w:World),Calls P f #[.slice p 0 cap] w fun e w'=>e=.returned (.tuple #[])/\w'=w) (vs:List AV) (m:af) (v:AV) (m':af) (h:rW vs m=some (v,m')):nT P f vs m v m':=by
 intro B w g us hm hB hus hV
 have one:∀x,vs=[x]->∃u,us = #[u]/\V w g x u:=fun x hx=>by
  subst hx;have hsz:us.size=1:=by simpa using hus.symm
  have h0:=hV 0 aq;simp only[lZ] at h0;refine ⟨us.getD 0 undef,?_,h0⟩;apply Array.ext (by simpa using hsz);intro i hi1 hi2;obtain rfl:i=0:=by simp at hi2;omega
  simp[Array.getD,hi1]
 unfold rW at h
 split at h
 .rename_i m0 sh z o;simp only[br,cw] at h;obtain ⟨rfl,rfl⟩:=h;obtain ⟨u,rfl,hu⟩:=one _ rfl;have hus:∃p cap,u=.slice p 0 cap:=by cases hu<;>exact ⟨_,_,rfl⟩
  obtain ⟨p,cap,rfl⟩:=hus;refine (hN p cap w).mono ?_;rintro e w' ⟨rfl,rfl⟩;exact ⟨_,g,rfl,Step.refl _ _ _,hm,.tup [] #[] rfl (fun j hj=>absurd hj (Nat.not_lt_zero j))⟩
 .rename_i m0 nm off n sh
  split at h
  .cases h
  .obtain ⟨⟨bx,cs⟩,ho,h2⟩:=aU.1 h;clear h;simp only at h2
   split at h2
   .rename_i hc;obtain ⟨rfl,rfl,hn0,rfl,hnb⟩:=hc;obtain ⟨ns,hns,h3⟩:=fk.1 h2;simp only[cw] at h3;obtain ⟨rfl,rfl⟩:=h3;have hcs:=DD hns;obtain ⟨u,rfl,hu⟩:=one _ rfl;have hget:=obj?_get ho;obtain ⟨b,c,e,o1,o2,o3,o4,o5,o6,o7⟩:=hm.obj nm false cs hget
    cases hu with
    | arr _ _ _ _ a cap hs hcc hmx hl=>
     obtain ⟨l1,l2,_⟩:=hl.resolve_left Z;obtain rfl:b=a.block:=by simpa [o1] using l1
     have hlen:cs.length=ns.length:=by rw[hcs,bA]
     have hH:=Kf (g:=g) o3 o4 hcs o5;rw[l2,hlen];refine (hS a.block cap ns w hH (cH.1 o3).1 (by omega)).mono ?_;rintro e' w' ⟨rfl,k,os,rfl⟩;obtain ⟨s,hm'⟩:=L6 hm hB hget o1 o3 o4 (ds:=jz ns) (by rw[jz,List.length_mergeSort,hlen]) k os;exact ⟨_,g,rfl,s,hm',.tup [] #[] rfl (fun j hj=>absurd hj (Nat.not_lt_zero j))⟩
   .cases h2
 .cases h
theorem ZR{f:Nat}(hS:∀(aS cap:Nat) (zs:List Int) (w:World),Holds jh w aS 0 zs.toArray->zs.length<=9223372036854775807->zs.length<=cap->Calls P f #[.slice (some ⟨aS,0,none⟩) zs.length cap] w fun e w'=>e=.returned (.slice (some ⟨aS,0,none⟩) (Lib.compact zs).length cap)/\∃q,w'=putRow jh (Sort.ahead w q) aS 0 (Lib.compact zs++List.replicate (zs.length-(Lib.compact zs).length) 0).toArray)
  (hN:∀(p:Option Addr) (cap:Nat) (w:World),Calls P f #[.slice p 0 cap] w fun e w'=>e=.returned (.slice p 0 cap)/\w'=w) (hle:∀zs:List Int,(Lib.compact zs).length<=zs.length) (vs:List AV) (m:af) (v:AV) (m':af) (h:rk vs m=some (v,m')):nT P f vs m v m':=by
 intro B w g us hm hB hus hV
 have one:∀x,vs=[x]->∃u,us = #[u]/\V w g x u:=fun x hx=>by
  subst hx;have hsz:us.size=1:=by simpa using hus.symm
  have h0:=hV 0 aq;simp only[lZ] at h0;refine ⟨us.getD 0 undef,?_,h0⟩;apply Array.ext (by simpa using hsz);intro i hi1 hi2;obtain rfl:i=0:=by simp at hi2;omega
  simp[Array.getD,hi1]
 unfold rk at h
 split at h
 .rename_i m0 sh z o;simp only[br,cw] at h;obtain ⟨rfl,rfl⟩:=h;obtain ⟨u,rfl,hu⟩:=one _ rfl;have hus:∃p cap,u=.slice p 0 cap:=by cases hu<;>exact ⟨_,_,rfl⟩
  obtain ⟨p,cap,rfl⟩:=hus;refine (hN p cap w).mono ?_;rintro e w' ⟨rfl,rfl⟩;exact ⟨_,g,rfl,Step.refl _ _ _,hm,hu⟩
 .rename_i m0 nm off n sh
  split at h
  .cases h
  .obtain ⟨⟨bx,cs⟩,ho,h2⟩:=aU.1 h;clear h;simp only at h2
   split at h2
   .rename_i hc;obtain ⟨rfl,rfl,hn0,rfl,hnb⟩:=hc;obtain ⟨ns,hns,h3⟩:=fk.1 h2;simp only[cw] at h3;obtain ⟨rfl,rfl⟩:=h3;have hcs:=DD hns;obtain ⟨u,rfl,hu⟩:=one _ rfl;have hget:=obj?_get ho;obtain ⟨b,c,e,o1,o2,o3,o4,o5,o6,o7⟩:=hm.obj nm false cs hget
    cases hu with
    | arr _ _ _ _ a cap hs hcc hmx hl=>
     obtain ⟨l1,l2,c2,e2,l3,l4⟩:=hl.resolve_left Z;obtain rfl:b=a.block:=by simpa [o1] using l1
     have hlen:cs.length=ns.length:=by rw[hcs,bA]
     have hH:=Kf (g:=g) o3 o4 hcs o5;rw[hlen] at hcc;rw[l2,hlen];refine (hS a.block cap ns w hH Z hcc).mono ?_;rintro e' w' ⟨rfl,k,rfl⟩;have hcl:=hle ns;obtain ⟨s,hm'⟩:=L6 hm hB hget o1 o3 o4 (ds:=Lib.compact ns++List.replicate (ns.length-(Lib.compact ns).length) 0) (by rw[aQ,oP];omega) k #[]
     have eg:grow (putRow jh (Sort.ahead w k) a.block 0 (Lib.compact ns++List.replicate (ns.length-(Lib.compact ns).length) 0).toArray) #[]=putRow jh (Sort.ahead w k) a.block 0 (Lib.compact ns++List.replicate (ns.length-(Lib.compact ns).length) 0).toArray:=by
      simp only[grow,Array.append_empty]
     rw[eg] at s hm';refine ⟨_,g,rfl,s,hm',.arr _ _ _ _ _ _ (.inr rfl) Z hmx (.inr ⟨o1,rfl,?_⟩)⟩;obtain ⟨c',k1,k2⟩:=s.shape _ _ _ _ l3;exact ⟨c',e2,k1,Z⟩
   .cases h2
 .cases h
end
end Go.Ab
namespace Go.Proofs
open Go.Shelf
def Tryz.lays169_ren:Go.Shelf.Ren:=⟨fun|169=>176|n=>n,fun|70=>200|9=>9|0=>0|72=>203|37=>201|127=>215|3=>3|5=>5|n=>n,fun|n=>n⟩
theorem Tryz.lays169:Go.Proofs.Lays.n169 Tryz.prog Tryz.lays169_ren:={
 mixed:=aj
 f169:=Tryz.func176.trans (cA some aj)
 t0:=Tryz.underlying0
 a0:=Tryz.isAgg0
 z0:=Tryz.sizeOf0
 v0:=Tryz.zeroValue0
 t3:=Tryz.underlying3
 a3:=Tryz.isAgg3
 z3:=Tryz.sizeOf3
 v3:=Tryz.zeroValue3
 t9:=Tryz.underlying9
 a9:=Tryz.isAgg9
 z9:=Tryz.sizeOf9
 v9:=Tryz.zeroValue9
 t37:=Tryz.underlying201
 a37:=Tryz.isAgg201
 z37:=Tryz.sizeOf201
 v37:=Tryz.zeroValue201
 t70:=Tryz.underlying200
 a70:=Tryz.isAgg200
 z70:=Tryz.sizeOf200
 v70:=Tryz.zeroValue200
 t72:=Tryz.underlying203
 a72:=Tryz.isAgg203
 z72:=Tryz.sizeOf203
 v72:=Tryz.zeroValue203
 t127:=Tryz.underlying215
 a127:=Tryz.isAgg215
 z127:=Tryz.sizeOf215
 v127:=Tryz.zeroValue215 }
theorem Tryz.Builder_Extra_169:Builder.Extra Tryz.prog Tryz.lays169_ren:={
 sizeBuilder:=aj
 liesBuilder:=aj
 t5:=Tryz.underlying5
 a5:=Tryz.isAgg5
 z5:=Tryz.sizeOf5
 v5:=Tryz.zeroValue5
 infoByte:=aj
 cellsByte:=aj
 sizeByte:=aj
 neB5:=by decide }
open Go.RowKit in
theorem Tryz.Builder_String_any_k(B b:Nat)(l:List UInt8)(w:World)(h:Lib.IsBuilderF 203 5 B b (Lib.byteCells l) w)(hBw:B<=w.heap.size) :
  Calls Tryz.prog 176 #[.pointer (some ⟨b,0,none⟩)] w fun e w'=>e=.returned (.string ⟨l.toArray⟩)/\(Lib.IsBuilderF 203 5 B b (Lib.byteCells l) w'/\Below B w w'/\Lib.OthersKept 5 (some b) w w'):=Any.Builder_String_any_k Tryz.lays169 Tryz.Builder_Extra_169 B b l w h hBw
def Tryz.laysM171_ren:Go.Shelf.Ren:=⟨fun|171=>173|243=>188|246=>205|283=>213|284=>214|285=>215|286=>216|129=>200|317=>218|318=>219|319=>220|320=>221|337=>222|338=>223|n=>n,fun|3=>3|9=>9|2=>2|4=>4|171=>238|0=>0|53=>117|37=>201|5=>5|173=>240|212=>246|51=>161|20=>20|213=>247|46=>162|232=>248|233=>249|n=>n,fun|17=>0|18=>1|19=>2|n=>n⟩
theorem Tryz.laysM171:Go.Proofs.LaysM.n171 Tryz.prog Tryz.laysM171_ren:={
 mixed:=aj
 f129:=Tryz.func200.trans (cA some aj)
 f171:=Tryz.func173.trans (cA some aj)
 f243:=Tryz.func188.trans (cA some aj)
 f246:=Tryz.func205.trans (cA some aj)
 f283:=Tryz.func213.trans (cA some aj)
 f284:=Tryz.func214.trans (cA some aj)
 f285:=Tryz.func215.trans (cA some aj)
 f286:=Tryz.func216.trans (cA some aj)
 f317:=Tryz.func218.trans (cA some aj)
 f318:=Tryz.func219.trans (cA some aj)
 f319:=Tryz.func220.trans (cA some aj)
 f320:=Tryz.func221.trans (cA some aj)
 f337:=Tryz.func222.trans (cA some aj)
 f338:=Tryz.func223.trans (cA some aj)
 t0:=Tryz.underlying0
 a0:=Tryz.isAgg0
 z0:=Tryz.sizeOf0
 v0:=Tryz.zeroValue0
 t2:=Tryz.underlying2
 a2:=Tryz.isAgg2
 z2:=Tryz.sizeOf2
 v2:=Tryz.zeroValue2
 t3:=Tryz.underlying3
 a3:=Tryz.isAgg3
 z3:=Tryz.sizeOf3
 v3:=Tryz.zeroValue3
 t4:=Tryz.underlying4
 a4:=Tryz.isAgg4
 z4:=Tryz.sizeOf4
 v4:=Tryz.zeroValue4
 t5:=Tryz.underlying5
 a5:=Tryz.isAgg5
 z5:=Tryz.sizeOf5
 v5:=Tryz.zeroValue5
 t9:=Tryz.underlying9
 a9:=Tryz.isAgg9
 z9:=Tryz.sizeOf9
 v9:=Tryz.zeroValue9
 t20:=Tryz.underlying20
 a20:=Tryz.isAgg20
 z20:=Tryz.sizeOf20
 v20:=Tryz.zeroValue20
 t37:=Tryz.underlying201
 a37:=Tryz.isAgg201
 z37:=Tryz.sizeOf201
 v37:=Tryz.zeroValue201
 t46:=Tryz.underlying162
 a46:=Tryz.isAgg162
 z46:=Tryz.sizeOf162
 v46:=Tryz.zeroValue162
 t51:=Tryz.underlying161
 a51:=Tryz.isAgg161
 z51:=Tryz.sizeOf161
 v51:=Tryz.zeroValue161
 t53:=Tryz.underlying117
 a53:=Tryz.isAgg117
 z53:=Tryz.sizeOf117
 v53:=Tryz.zeroValue117
 t171:=Tryz.underlying238
 a171:=Tryz.isAgg238
 z171:=Tryz.sizeOf238
 v171:=Tryz.zeroValue238
 t173:=Tryz.underlying240
 a173:=Tryz.isAgg240
 z173:=Tryz.sizeOf240
 v173:=Tryz.zeroValue240
 t212:=Tryz.underlying246
 a212:=Tryz.isAgg246
 z212:=Tryz.sizeOf246
 v212:=Tryz.zeroValue246
 t213:=Tryz.underlying247
 a213:=Tryz.isAgg247
 z213:=Tryz.sizeOf247
 t232:=Tryz.underlying248
 a232:=Tryz.isAgg248
 z232:=Tryz.sizeOf248
 v232:=Tryz.zeroValue248
 t233:=Tryz.underlying249
 a233:=Tryz.isAgg249
 z233:=Tryz.sizeOf249
 v233:=Tryz.zeroValue249
 g17:=aj
 g18:=aj
 g19:=aj
 i0:=aj
 i2:=aj
 i3:=aj
 i4:=aj
 i5:=aj
 i9:=aj
 i20:=aj
 i37:=aj
 i46:=aj
 i51:=aj
 i53:=aj
 i171:=aj
 i173:=aj
 i212:=aj
 i232:=aj
 i233:=aj
 m17:=aj
 m18:=aj
 m19:=by kernel_rfl }
open Go.RowKit Go.Sort Go.Lib in
theorem Tryz.strconv_Itoa(n:Int)(h0:-9223372036854775808<=n)(h1:n<=9223372036854775807)(w:World) (htab:Lib.TabIs Tryz.prog w "internal/strconv.uint64pow10" .u64 Lib.pow10Tab) :
  Calls Tryz.prog 173 #[.int .i64 n] w fun e w'=>e=.returned (.string ⟨(Lib.itoa n).toArray⟩)/\∃k os,w'=grow (w.drewN k) os:=Any.strconv_Itoa Tryz.laysM171 n h0 h1 w htab
def Tryz.lays189_ren:Go.Shelf.Ren:=⟨fun|189=>148|125=>179|257=>178|128=>199|129=>200|294=>190|295=>191|296=>192|297=>193|298=>194|299=>195|216=>196|300=>197|301=>198|328=>207|329=>208|330=>209|331=>210|332=>211|215=>212|343=>217|n=>n,fun|28=>22|3=>3|46=>162|0=>0|51=>161|53=>117|4=>4|183=>218|182=>217|131=>173|5=>5|9=>9|218=>232|222=>236|228=>242|229=>243|n=>n,fun|n=>n⟩
theorem Tryz.lays189:Go.Proofs.Lays.n189 Tryz.prog Tryz.lays189_ren:={
 mixed:=aj
 f125:=Tryz.func179.trans (cA some aj)
 f128:=Tryz.func199.trans (cA some aj)
 f129:=Tryz.func200.trans (cA some aj)
 f189:=Tryz.func148.trans (cA some aj)
 f215:=Tryz.func212.trans (cA some aj)
 f216:=Tryz.func196.trans (cA some aj)
 f257:=Tryz.func178.trans (cA some aj)
 f294:=Tryz.func190.trans (cA some aj)
 f295:=Tryz.func191.trans (cA some aj)
 f296:=Tryz.func192.trans (cA some aj)
 f297:=Tryz.func193.trans (cA some aj)
 f298:=Tryz.func194.trans (cA some aj)
 f299:=Tryz.func195.trans (cA some aj)
 f300:=Tryz.func197.trans (cA some aj)
 f301:=Tryz.func198.trans (cA some aj)
 f328:=Tryz.func207.trans (cA some aj)
 f329:=Tryz.func208.trans (cA some aj)
 f330:=Tryz.func209.trans (cA some aj)
 f331:=Tryz.func210.trans (cA some aj)
 f332:=Tryz.func211.trans (cA some aj)
 f343:=Tryz.func217.trans (cA some aj)
 t0:=Tryz.underlying0
 a0:=Tryz.isAgg0
 z0:=Tryz.sizeOf0
 v0:=Tryz.zeroValue0
 t3:=Tryz.underlying3
 a3:=Tryz.isAgg3
 z3:=Tryz.sizeOf3
 v3:=Tryz.zeroValue3
 t4:=Tryz.underlying4
 a4:=Tryz.isAgg4
 z4:=Tryz.sizeOf4
 v4:=Tryz.zeroValue4
 t5:=Tryz.underlying5
 a5:=Tryz.isAgg5
 z5:=Tryz.sizeOf5
 v5:=Tryz.zeroValue5
 t9:=Tryz.underlying9
 a9:=Tryz.isAgg9
 z9:=Tryz.sizeOf9
 v9:=Tryz.zeroValue9
 t28:=Tryz.underlying22
 a28:=Tryz.isAgg22
 z28:=Tryz.sizeOf22
 v28:=Tryz.zeroValue22
 t46:=Tryz.underlying162
 a46:=Tryz.isAgg162
 z46:=Tryz.sizeOf162
 v46:=Tryz.zeroValue162
 t51:=Tryz.underlying161
 a51:=Tryz.isAgg161
 z51:=Tryz.sizeOf161
 v51:=Tryz.zeroValue161
 t53:=Tryz.underlying117
 a53:=Tryz.isAgg117
 z53:=Tryz.sizeOf117
 v53:=Tryz.zeroValue117
 t131:=Tryz.underlying173
 a131:=Tryz.isAgg173
 z131:=Tryz.sizeOf173
 v131:=Tryz.zeroValue173
 t182:=Tryz.underlying217
 a182:=Tryz.isAgg217
 z182:=Tryz.sizeOf217
 v182:=Tryz.zeroValue217
 t183:=Tryz.underlying218
 a183:=Tryz.isAgg218
 z183:=Tryz.sizeOf218
 v183:=Tryz.zeroValue218
 t218:=Tryz.underlying232
 a218:=Tryz.isAgg232
 z218:=Tryz.sizeOf232
 v218:=Tryz.zeroValue232
 t222:=Tryz.underlying236
 a222:=Tryz.isAgg236
 z222:=Tryz.sizeOf236
 v222:=Tryz.zeroValue236
 t228:=Tryz.underlying242
 a228:=Tryz.isAgg242
 z228:=Tryz.sizeOf242
 v228:=Tryz.zeroValue242
 t229:=Tryz.underlying243
 a229:=Tryz.isAgg243
 z229:=Tryz.sizeOf243
 v229:=Tryz.zeroValue243 }
open Go.Sort Go.RowKit in
theorem Tryz.slices_Sort_int(aS off cap:Nat)(zs:List Int)(w:World)(hH:Holds (Value.int .i64) w aS off zs.toArray)(hblk:aS<w.heap.size)(hsz:zs.length<4611686018427387904) :
  Calls Tryz.prog 148 #[.slice (some ⟨aS,off,none⟩) zs.length cap] w fun e w'=>
   e=.returned (.tuple #[])/\∃n os,w'=grow (putRow (Value.int .i64) (Sort.ahead w n) aS off (zs.mergeSort fun x y=>decide (x<=y)).toArray) os:=Any.slices_Sort_int Tryz.lays189 aS off cap zs w hH hblk hsz
def Tryz.laysNm220_ren:Go.Shelf.Ren:=⟨fun|20=>149|n=>n,fun|22=>22|3=>3|4=>4|0=>0|n=>n,fun|n=>n⟩
theorem Tryz.laysNm220:Go.Proofs.Lays2.n20 Tryz.prog Tryz.laysNm220_ren:={
 mixed:=aj
 f20:=Tryz.func149.trans (cA some aj)
 t0:=Tryz.underlying0
 a0:=Tryz.isAgg0
 z0:=Tryz.sizeOf0
 v0:=Tryz.zeroValue0
 t3:=Tryz.underlying3
 a3:=Tryz.isAgg3
 z3:=Tryz.sizeOf3
 v3:=Tryz.zeroValue3
 t4:=Tryz.underlying4
 a4:=Tryz.isAgg4
 z4:=Tryz.sizeOf4
 v4:=Tryz.zeroValue4
 t22:=Tryz.underlying22
 a22:=Tryz.isAgg22
 z22:=Tryz.sizeOf22
 v22:=Tryz.zeroValue22
 i3:=by kernel_rfl }
open Go.RowKit Go.Lib Go.Sort in
theorem Tryz.slices_Compact_int(aS off cap:Nat)(zs:List Int)(w:World)(hH:Holds (Value.int .i64) w aS off zs.toArray)(hsz:zs.length<=9223372036854775807)(hcap:zs.length<=cap) :
  Calls Tryz.prog 149 #[.slice (some ⟨aS,off,none⟩) zs.length cap] w fun e w'=>e=.returned (.slice (some ⟨aS,off,none⟩) (Lib.compact zs).length cap)/\∃q,w'=putRow (Value.int .i64) (Sort.ahead w q) aS off (Lib.compact zs++List.replicate (zs.length-(Lib.compact zs).length) 0).toArray:=Any.slices_Compact_int Tryz.laysNm220 aS off cap zs w hH hsz hcap
open Go.RowKit Go.Lib Go.Sort in
theorem Tryz.slices_Compact_int_empty(a:Option Addr)(cap:Nat)(w:World) :
  Calls Tryz.prog 149 #[.slice a 0 cap] w fun e w'=>e=.returned (.slice a 0 cap)/\w'=w:=Any.slices_Compact_int_empty Tryz.laysNm220 a cap w
open Go.RowKit Go.Sort in
theorem Tryz.slices_Sort_int_none(p:Option Addr)(cap:Nat)(w:World) :
  Calls Tryz.prog 148 #[.slice p 0 cap] w fun e w'=>e=.returned (.tuple #[])/\w'=w:=Any.slices_Sort_int_none Tryz.lays189 p cap w
end Go.Proofs
namespace Go.Proofs
open Go.Shelf Go.RowKit
theorem Yd.infoByte:(Tryz.prog.info? 5).map (fun i=>(i.zero,i.size,i.bytes))=some (some (.int .u8 0),1,1):=aj
theorem Yd.sizeBuilder:(Tryz.prog.info? 203).map (·.size)=some 2:=aj
theorem Yd.liesBuilder:liesAt Tryz.prog Tryz.prog.depth 203 (2/Tryz.prog.cellsOf 203) 0 203 1=true:=aj
set_option maxHeartbeats 2000000 in
set_option maxRecDepth 100000 in
theorem Yd.Builder_copyCheck_used(b:Nat)(w:World)(h0:w.cell? ⟨b,0,none⟩=some (.pointer (some ⟨b,0,none⟩))) :
  Calls Tryz.prog 189 #[.pointer (some ⟨b,0,none⟩)] w fun e w'=>e=.returned (.tuple #[])/\w'=w:=by
 obtain ⟨j,hj,_⟩:=fk.1 Yd.sizeBuilder;have mixed:Tryz.prog.follows .mixedOrders=true:=aj;have t72:=Tryz.underlying203;have a72:=Tryz.isAgg203;have z72:=Tryz.sizeOf203;have v72:=Tryz.zeroValue203;have u72:=run_underlying Tryz.underlying203;have t70:=Tryz.underlying200;have a70:=Tryz.isAgg200;have z70:=Tryz.sizeOf200;have v70:=Tryz.zeroValue200;have u70:=run_underlying Tryz.underlying200;have t9:=Tryz.underlying9;have a9:=Tryz.isAgg9;have z9:=Tryz.sizeOf9;have v9:=Tryz.zeroValue9;have u9:=run_underlying Tryz.underlying9;have t4:=Tryz.underlying4;have a4:=Tryz.isAgg4;have z4:=Tryz.sizeOf4;have v4:=Tryz.zeroValue4;have u4:=run_underlying Tryz.underlying4;have t164:=Tryz.underlying230;have a164:=Tryz.isAgg230;have z164:=Tryz.sizeOf230;have v164:=Tryz.zeroValue230;have u164:=run_underlying Tryz.underlying230
 go_enter Tryz.func189,Tryz.ntmps189
 go_wp2
 rw[Lib.run_neq_ptr_same w _ Tryz.underlying200 hj]
 go_wp2
 go_end0
 exact ⟨rfl,rfl⟩
set_option maxHeartbeats 2000000 in
set_option maxRecDepth 100000 in
theorem Yd.Builder_copyCheck_fresh(b:Nat)(w:World)(h0:w.cell? ⟨b,0,none⟩=some (.pointer none))(hsh:w.shape? b=some (203,2))(hfz:w.frozen? ⟨b,0,none⟩=false) :
  Calls Tryz.prog 189 #[.pointer (some ⟨b,0,none⟩)] w fun e w'=>e=.returned (.tuple #[])/\w'=w.setCell ⟨b,0,none⟩ (.pointer (some ⟨b,0,none⟩)):=by
 obtain ⟨j,hj,hjs⟩:=fk.1 Yd.sizeBuilder;have mixed:Tryz.prog.follows .mixedOrders=true:=aj;have t72:=Tryz.underlying203;have a72:=Tryz.isAgg203;have z72:=Tryz.sizeOf203;have v72:=Tryz.zeroValue203;have u72:=run_underlying Tryz.underlying203;have t70:=Tryz.underlying200;have a70:=Tryz.isAgg200;have z70:=Tryz.sizeOf200;have v70:=Tryz.zeroValue200;have u70:=run_underlying Tryz.underlying200;have t9:=Tryz.underlying9;have a9:=Tryz.isAgg9;have z9:=Tryz.sizeOf9;have v9:=Tryz.zeroValue9;have u9:=run_underlying Tryz.underlying9;have t4:=Tryz.underlying4;have a4:=Tryz.isAgg4;have z4:=Tryz.sizeOf4;have v4:=Tryz.zeroValue4;have u4:=run_underlying Tryz.underlying4;have t164:=Tryz.underlying230;have a164:=Tryz.isAgg230;have z164:=Tryz.sizeOf230;have v164:=Tryz.zeroValue230;have u164:=run_underlying Tryz.underlying230
 go_enter Tryz.func189,Tryz.ntmps189
 go_wp2
 rw[Lib.run_to_unsafe w ⟨b,0,none⟩ Tryz.underlying200 Tryz.underlying230 hj (by rw[hjs];decide) hsh (Nat.zero_lt_succ 1)];simp only[Result.andThen];rw[Oper.upon_value]
 go_wp2
 rw[run_callFunc_extern Tryz.func206 aj aj aj (e:=Extern.AbiNoEscape.same) aj];rw[Lib.run_noEscape];simp only[Result.andThen];rw[Oper.upon_value]
 go_wp2
 rw[Lib.run_from_unsafe w ⟨b,0,none⟩ Tryz.underlying230 Tryz.underlying200 hj hsh Yd.liesBuilder];simp only[Result.andThen];rw[Oper.upon_value]
 go_wp2
 go_end0
 exact ⟨rfl,rfl⟩
set_option maxHeartbeats 2000000 in
set_option maxRecDepth 100000 in
theorem Yd.Builder_copyCheck_k(B b:Nat)(bs:List Value)(w:World)(h:Lib.IsBuilderF 203 5 B b bs w) :
  Calls Tryz.prog 189 #[.pointer (some ⟨b,0,none⟩)] w fun e w'=>e=.returned (.tuple #[])/\(Lib.BuilderAtF 203 5 B b (.pointer (some ⟨b,0,none⟩)) bs w'/\Below B w w'/\Lib.OthersKept 5 (some b) w w'):=by
 rcases h with h|h
 .refine (Yd.Builder_copyCheck_fresh b w h.cell0 h.shape h.frozen0).mono ?_;rintro e w' ⟨rfl,rfl⟩;exact ⟨rfl,h.used _,(Below.refl B w).setCell (p:=⟨b,0,none⟩) h.1 _,(Lib.OthersKept.refl _ _ w).setCell ⟨b,0,none⟩ rfl _⟩
 .refine (Yd.Builder_copyCheck_used b w h.cell0).mono ?_;rintro e w' ⟨rfl,rfl⟩;exact ⟨rfl,h,Below.refl B _,Lib.OthersKept.refl _ _ _⟩
set_option maxHeartbeats 2000000 in
set_option maxRecDepth 100000 in
theorem Yd.Builder_WriteByte_k(B b:Nat)(bs:List Value)(c:Int)(w:World)(h:Lib.IsBuilderF 203 5 B b bs w)(hlen:bs.length+1<=140737488355328)(hBw:B<=w.heap.size) :
  Calls Tryz.prog 175 #[.pointer (some ⟨b,0,none⟩),.int .u8 c] w fun e w'=>e=.returned .nilIface/\(Lib.BuilderAtF 203 5 B b (.pointer (some ⟨b,0,none⟩)) (bs++[.int .u8 c]) w'/\Below B w w'/\Lib.OthersKept 5 (some b) w w'):=by
 obtain ⟨i0,hi,hz0,hz1,hz2⟩:=info_parts Yd.infoByte;have mixed:Tryz.prog.follows .mixedOrders=true:=aj;have t72:=Tryz.underlying203;have a72:=Tryz.isAgg203;have z72:=Tryz.sizeOf203;have v72:=Tryz.zeroValue203;have u72:=run_underlying Tryz.underlying203;have t70:=Tryz.underlying200;have a70:=Tryz.isAgg200;have z70:=Tryz.sizeOf200;have v70:=Tryz.zeroValue200;have u70:=run_underlying Tryz.underlying200;have t5:=Tryz.underlying5;have a5:=Tryz.isAgg5;have z5:=Tryz.sizeOf5;have v5:=Tryz.zeroValue5;have u5:=run_underlying Tryz.underlying5;have t37:=Tryz.underlying201;have a37:=Tryz.isAgg201;have z37:=Tryz.sizeOf201;have v37:=Tryz.zeroValue201;have u37:=run_underlying Tryz.underlying201;have t9:=Tryz.underlying9;have a9:=Tryz.isAgg9;have z9:=Tryz.sizeOf9;have v9:=Tryz.zeroValue9;have u9:=run_underlying Tryz.underlying9;have t4:=Tryz.underlying4;have a4:=Tryz.isAgg4;have z4:=Tryz.sizeOf4;have v4:=Tryz.zeroValue4;have u4:=run_underlying Tryz.underlying4;have t164:=Tryz.underlying230;have a164:=Tryz.isAgg230;have z164:=Tryz.sizeOf230;have v164:=Tryz.zeroValue230;have u164:=run_underlying Tryz.underlying230;have e240:∀args w,(callFunc 189 args).run Tryz.prog w=.ok (.enter 189 args) w:=enters_of Tryz.func189 aj rfl
 go_enter Tryz.func175,Tryz.ntmps175
 go_wp2_with (go_at_call 189;refine (Yd.Builder_copyCheck_k B b bs _ h).mono ?_)
 rintro e w1 ⟨rfl,h1,hb1,hk1⟩;obtain ⟨hB,v,hbk,hown,hne⟩:=h1;have c0:w1.cell? ⟨b,0,none⟩=some (.pointer (some ⟨b,0,none⟩)):=by rw[Lib.cell_of_heap hbk];rfl
 have c1:w1.cell? ⟨b,1,none⟩=some v:=by rw[Lib.cell_of_heap hbk];rfl
 go_wp2_with (at_builtin;refine wpList_append_ownF _ rfl _ _ 201 rfl B 5 i0 (.int .u8 0) 1 1 Tryz.underlying201 hi hz0 hz1 hz2 rfl (by decide) _ _ _ rfl (hown.alloc _) ⟨w1.heap.size,0,none⟩ 1 1 [.int .u8 c] rfl rfl ?c1 ?c2 ?c3 ?c4 ?c5 ?_)
 case c1=>
  intro j u hj
  match j,hj with
  | 0,hj=>simp at hj;subst hj;simp[Addr.add]
 case c2=>intro u hu;simp at hu;subst hu;rfl
 case c3=>unfold maxLen;omega
 case c4=>omega
 case c5=>have:=hb1.size;simp;omega
 intro v' w2 hown' hgrow _
 have hlt:b<w1.heap.size:=by
  rcases mO b w1.heap.size with h'|h'
  .exact h'
  .simp[tY h'] at hbk
 have hb2:w2.heap[b]?=some (.cells #[.pointer (some ⟨b,0,none⟩),v] 203 (0,0)):=by
  rw[hgrow.block b (by simp;omega) (fun e=>hne e.symm),Lib.alloc_old w1 _ b hlt];exact hbk
 have d0:w2.cell? ⟨b,0,none⟩=some (.pointer (some ⟨b,0,none⟩)):=by rw[Lib.cell_of_heap hb2];rfl
 have d1:w2.cell? ⟨b,1,none⟩=some v:=by rw[Lib.cell_of_heap hb2];rfl
 have f1:w2.frozen? ⟨b,1,none⟩=false:=Lib.frozen_of_heap hb2 1
 obtain ⟨g,cap,rfl⟩:∃g cap,v'=.slice (some ⟨g,0,none⟩) (bs.length+1) cap:=by
  rcases hown'.2 with ⟨_,h0⟩|⟨g,cap,cur,fz,hv,_⟩
  .omega
  .exact ⟨g,cap,hv⟩
 go_wp2
 go_ret
 refine ⟨rfl,?_,?_,((hk1.alloc _).grown hgrow (Lib.ownsRowF_kind (hown.alloc _))).setCell ⟨b,1,none⟩ rfl _⟩
 .exact Lib.BuilderAtF.put (T:=203) (e:=5) hB hb2 (bs':=bs++[.int .u8 c]) (by simpa using hown') (by decide)
 .exact ((hb1.alloc (by have:=hb1.size;omega) _).grown hgrow (by have:=hb1.size;simp;omega) (fun k hk=>(hown.lt k hk).1)).setCell (p:=⟨b,1,none⟩) hB _
set_option maxHeartbeats 2000000 in
set_option maxRecDepth 100000 in
theorem Yd.Builder_WriteString_k(B b:Nat)(bs:List Value)(s:ByteArray)(w:World)(h:Lib.IsBuilderF 203 5 B b bs w)(hlen:bs.length+s.size<=140737488355328)(hBw:B<=w.heap.size) :
  Calls Tryz.prog 174 #[.pointer (some ⟨b,0,none⟩),.string s] w fun e w'=>e=.returned (.tuple #[.int .i64 s.size,.nilIface])/\(Lib.BuilderAtF 203 5 B b (.pointer (some ⟨b,0,none⟩)) (bs++Lib.strCells s) w'/\Below B w w'/\Lib.OthersKept 5 (some b) w w'):=by
 obtain ⟨i0,hi,hz0,hz1,hz2⟩:=info_parts Yd.infoByte;have mixed:Tryz.prog.follows .mixedOrders=true:=aj;have t72:=Tryz.underlying203;have a72:=Tryz.isAgg203;have z72:=Tryz.sizeOf203;have v72:=Tryz.zeroValue203;have u72:=run_underlying Tryz.underlying203;have t70:=Tryz.underlying200;have a70:=Tryz.isAgg200;have z70:=Tryz.sizeOf200;have v70:=Tryz.zeroValue200;have u70:=run_underlying Tryz.underlying200;have t37:=Tryz.underlying201;have a37:=Tryz.isAgg201;have z37:=Tryz.sizeOf201;have v37:=Tryz.zeroValue201;have u37:=run_underlying Tryz.underlying201;have t3:=Tryz.underlying3;have a3:=Tryz.isAgg3;have z3:=Tryz.sizeOf3;have v3:=Tryz.zeroValue3;have u3:=run_underlying Tryz.underlying3;have t9:=Tryz.underlying9;have a9:=Tryz.isAgg9;have z9:=Tryz.sizeOf9;have v9:=Tryz.zeroValue9;have u9:=run_underlying Tryz.underlying9;have t4:=Tryz.underlying4;have a4:=Tryz.isAgg4;have z4:=Tryz.sizeOf4;have v4:=Tryz.zeroValue4;have u4:=run_underlying Tryz.underlying4;have t164:=Tryz.underlying230;have a164:=Tryz.isAgg230;have z164:=Tryz.sizeOf230;have v164:=Tryz.zeroValue230;have u164:=run_underlying Tryz.underlying230;have t5:=Tryz.underlying5;have a5:=Tryz.isAgg5;have z5:=Tryz.sizeOf5;have v5:=Tryz.zeroValue5;have u5:=run_underlying Tryz.underlying5;have e240:∀args w,(callFunc 189 args).run Tryz.prog w=.ok (.enter 189 args) w:=enters_of Tryz.func189 aj rfl
 go_enter Tryz.func174,Tryz.ntmps174
 go_wp2_with (go_at_call 189;refine (Yd.Builder_copyCheck_k B b bs _ h).mono ?_)
 rintro e w1 ⟨rfl,h1,hb1,hk1⟩;obtain ⟨hB,v,hbk,hown,hne⟩:=h1;have c0:w1.cell? ⟨b,0,none⟩=some (.pointer (some ⟨b,0,none⟩)):=by rw[Lib.cell_of_heap hbk];rfl
 have c1:w1.cell? ⟨b,1,none⟩=some v:=by rw[Lib.cell_of_heap hbk];rfl
 go_wp2_with (at_builtin;refine Lib.wpList_append_own_stringF _ rfl _ _ 201 9 rfl B 5 i0 Tryz.underlying201 Tryz.underlying9 hi hz0 hz1 hz2 _ _ _ rfl hown s rfl ?c3 ?c4 ?c5 ?_)
 case c3=>unfold maxLen;omega
 case c4=>omega
 case c5=>have:=hb1.size;omega
 intro v' w2 hown' hgrow _
 have hlt:b<w1.heap.size:=by
  rcases mO b w1.heap.size with h'|h'
  .exact h'
  .simp[tY h'] at hbk
 have hb2:w2.heap[b]?=some (.cells #[.pointer (some ⟨b,0,none⟩),v] 203 (0,0)):=by
  rw[hgrow.block b hlt (fun e=>hne e.symm)];exact hbk
 have d0:w2.cell? ⟨b,0,none⟩=some (.pointer (some ⟨b,0,none⟩)):=by rw[Lib.cell_of_heap hb2];rfl
 have d1:w2.cell? ⟨b,1,none⟩=some v:=by rw[Lib.cell_of_heap hb2];rfl
 have f1:w2.frozen? ⟨b,1,none⟩=false:=Lib.frozen_of_heap hb2 1
 obtain ⟨ao,n',cap,rfl⟩:∃ao n' cap,v'=.slice ao n' cap:=by
  rcases hown'.2 with ⟨hv,_⟩|⟨g,cap,cur,fz,hv,_⟩
  .exact ⟨_,_,_,hv⟩
  .exact ⟨_,_,_,hv⟩
 go_wp2
 go_ret2
 refine ⟨rfl,?_,?_,(hk1.grown hgrow (Lib.ownsRowF_kind hown)).setCell ⟨b,1,none⟩ rfl _⟩
 .exact Lib.BuilderAtF.put (T:=203) (e:=5) hB hb2 (bs':=bs++Lib.strCells s) (by simpa [Lib.strCells_length] using hown') (by decide)
 .exact (hb1.grown hgrow (by have:=hb1.size;omega) (fun k hk=>(hown.lt k hk).1)).setCell (p:=⟨b,1,none⟩) hB _
end Go.Proofs
namespace Go.Proofs
open Go.RowKit
def Yd.nameB(var leaf:Int)(ks:List Int):List UInt8:=if var<0 then 61::Lib.itoa leaf else Lib.itoa var++ks.flatMap fun k=>32::Lib.itoa k
def Yd.i64(n:Int):Prop:=-9223372036854775808<=n/\n<=9223372036854775807
abbrev Yd.tab(w:World):Prop:=Lib.TabIs Tryz.prog w "internal/strconv.uint64pow10" .u64 Lib.pow10Tab
theorem Yd.globalPow:Tryz.prog.globalNamed "internal/strconv.uint64pow10" = some 0:=aj
theorem Yd.tab_lt{w:World}(h:Yd.tab w):0<w.heap.size:=by
 unfold Yd.tab Lib.TabIs World.var? at h;rw[Yd.globalPow] at h;simp only[O] at h
 split at h
 .rename_i hh;exact (cH.1 hh).1
 .cases h
theorem Yd.tab_below{B:Nat}{w w':World}(hB:0<B)(h:Yd.tab w)(s:Below B w w'):Yd.tab w':=by
 unfold Yd.tab Lib.TabIs World.var? at h ⊢;rw[Yd.globalPow] at h ⊢;simp only[O] at h ⊢;rw[s.block 0 hB];exact h
theorem Yd.decDigits_len(u k:Nat)(h:u<10^(k+1)):(Lib.decDigits u).length<=k+1:=by
 induction k generalizing u with
 | zero=>rw[Lib.decDigits,dif_pos Z];simp
 | succ k ih=>
  rw[Lib.decDigits]
  split
  .simp
  .rw[aQ];have:=ih (u/10) (by rw[oW (by decide)];rw[ij] at h;exact h);simp;omega
theorem Yd.itoa_len{n:Int}(h:Yd.i64 n):(Lib.itoa n).length<=20:=by
 have:n.natAbs<10^(18+1):=by
  have:=h.1;have:=h.2;have e:(10:Nat)^(18+1)=10000000000000000000:=by decide
  rw[e];omega
 have h2:n.toNat<10^(18+1):=Z;unfold Lib.itoa
 split
 .have:=Yd.decDigits_len _ _ this;simp;omega
 .have:=Yd.decDigits_len _ _ h2;omega
theorem Yd.drewN_heap(w:World):∀k,(w.drewN k).heap=w.heap/\(w.drewN k).os=w.os/\(w.drewN k).tape=w.tape/\(w.drewN k).output=w.output
 | 0=>⟨rfl,rfl,rfl,rfl⟩
 | k+1=>Yd.drewN_heap w.drew k
theorem Yd.below_grow(w:World)(k:Nat)(os:Array Obj):Below w.heap.size w (Sort.grow (w.drewN k) os):=by
 obtain ⟨h1,h2,h3,h4⟩:=Yd.drewN_heap w k
 refine ⟨h2,h3,h4,?_,fun i hi=>?_⟩
 .simp[Sort.grow]
 .simp only[Sort.grow,h1];rw[Array.getElem?_append_left hi]
set_option maxHeartbeats 4000000 in
set_option maxRecDepth 1000000 in
theorem Yd.name_leaf(var leaf:Int)(kv:Value)(w:World)(h0:Yd.tab w)(hv:var<0)(hl:Yd.i64 leaf) :
  Calls Tryz.prog 141 #[.agg #[.int .i64 var,kv,.int .i64 leaf]] w fun e w'=>e=.returned (.string ⟨(61::Lib.itoa leaf).toArray⟩)/\Below w.heap.size w w':=by
 have hB:=Yd.tab_lt h0;have b0:Below w.heap.size w (w.alloc (.cells #[.int .i64 var,kv,.int .i64 leaf] 74)):=(Below.refl _ w).alloc (aI _) _;have t0:=Yd.tab_below hB h0 b0;have hz:¬9223372036854775807<1+(Lib.itoa leaf).length:=by have:=Yd.itoa_len hl;omega
 go_enter Tryz.func141,Tryz.ntmps141
 go_wp2_with (go_at_call 173;refine (Tryz.strconv_Itoa leaf hl.1 hl.2 _ t0).mono ?_)
 rintro e W1 ⟨rfl,k,os,rfl⟩
 go_wp2
 all_goals (go_ret;exact ⟨by congr 2,b0.trans ((Yd.below_grow _ k os).mono b0.size)⟩)
theorem Yd.isF_grow{T e:TypeId}{B b:Nat}{bs:List Value}{w w':World}(h:Lib.IsBuilderF T e B b bs w)(hg:w.grownBy w' none):Lib.IsBuilderF T e B b bs w':=by
 have key:∀p,Lib.BuilderAtF T e B b p bs w->Lib.BuilderAtF T e B b p bs w':=by
  rintro p ⟨hB,v,hb,hown,hne⟩;exact ⟨hB,v,by rw[hg.block b (cH.1 hb).1 aq];exact hb,hown.kept hg (by cases hv:v.ownBlock<;>simp),hne⟩
 exact h.imp (key _) (key _)
theorem Yd.grownBy_grow(w:World)(k:Nat)(os:Array Obj):w.grownBy (Sort.grow (w.drewN k) os) none:=
 ⟨rfl,rfl,rfl,by simp[Sort.grow],fun i hi _=>by simp only[Sort.grow];exact Array.getElem?_append_left hi⟩
theorem Yd.itoa{n:Int}(h:Yd.i64 n)(w:World)(h0:Yd.tab w):Calls Tryz.prog 173 #[.int .i64 n] w fun e w'=>e=.returned (.string ⟨(Lib.itoa n).toArray⟩)/\(Below w.heap.size w w'/\w.grownBy w' none):=by
 refine (Tryz.strconv_Itoa n h.1 h.2 w h0).mono ?_;rintro e w' ⟨rfl,k,os,rfl⟩;exact ⟨rfl,Yd.below_grow w k os,Yd.grownBy_grow w k os⟩
def Yd.part(var:Int)(ks:List Int)(n:Nat):List UInt8:=Lib.itoa var++(ks.take n).flatMap fun k=>32::Lib.itoa k
theorem Yd.part_succ(var:Int)(ks:List Int)(n:Nat)(h:n<ks.length):Yd.part var ks (n+1)=Yd.part var ks n++[32]++Lib.itoa ks[n]:=by
 unfold Yd.part;rw[kC h,List.flatMap_append];simp
theorem Yd.part_len{var:Int}{ks:List Int}(hv:Yd.i64 var)(hk:∀k∈ks,Yd.i64 k):∀n,n<=ks.length->(Yd.part var ks n).length<=20+21*n
 | 0,_=>by have:=Yd.itoa_len hv;simpa [Yd.part] using this
 | n+1,h=>by
  have h1:=Yd.part_len hv hk n Z;have h2:=Yd.itoa_len (hk ks[n] (bp Z));rw[Yd.part_succ var ks n Z];simp only[aQ,pW];omega
theorem Yd.strCells_byte(l:List UInt8):Lib.strCells ⟨l.toArray⟩=Lib.byteCells l:=by rw[Lib.strCells_eq]
set_option maxHeartbeats 4000000 in
set_option maxRecDepth 1000000 in
theorem Yd.name_node(var leaf:Int)(ks:List Int)(ad:Option Addr)(cap:Nat)(w:World)(h0:Yd.tab w)(hv:¬ var<0)(hi:Yd.i64 var)(hk:∀k∈ks,Yd.i64 k)(hlen:ks.length<=1048576)
  (hr:∀j (h:j<ks.length),∃b o,ad=some ⟨b,o,none⟩/\w.cell? ⟨b,o+j,none⟩=some (.int .i64 ks[j])) :
  Calls Tryz.prog 141 #[.agg #[.int .i64 var,.slice ad ks.length cap,.int .i64 leaf]] w fun e w'=>e=.returned (.string ⟨(Yd.part var ks ks.length).toArray⟩)/\Below w.heap.size w w':=by
 have hB:=Yd.tab_lt h0;have b0:Below w.heap.size w ((w.alloc (.cells #[.int .i64 var,.slice ad ks.length cap,.int .i64 leaf] 74)).alloc (.cells #[.pointer none,.slice none 0 0] 203)):=((Below.refl _ w).alloc (aI _) _).alloc aq _;have t0:=Yd.tab_below hB h0 b0
 have f0:Lib.IsBuilderF 203 5 (w.heap.size+1) (w.heap.size+1) [] ((w.alloc (.cells #[.int .i64 var,.slice ad ks.length cap,.int .i64 leaf] 74)).alloc (.cells #[.pointer none,.slice none 0 0] 203)):=by
  have:=Lib.IsBuilderF.of (Lib.fresh_isBuilder 203 5 (w.alloc (.cells #[.int .i64 var,.slice ad ks.length cap,.int .i64 leaf] 74)));simpa using this
 generalize hW:(w.alloc (.cells #[.int .i64 var,.slice ad ks.length cap,.int .i64 leaf] 74)).alloc (.cells #[.pointer none,.slice none 0 0] 203)=W at b0 t0 f0;have hWs:W.heap.size=w.heap.size+2:=by rw[<- hW];simp
 have hbx:W.heap[w.heap.size]?=some (.cells #[.int .i64 var,.slice ad ks.length cap,.int .i64 leaf] 74 (0,0)):=by
  rw[<- hW,Lib.alloc_old _ _ _ aq];exact Go.heap_alloc_new w _
 have c0:W.cell? ⟨w.heap.size,0,none⟩=some (.int .i64 var):=by rw[Lib.cell_of_heap hbx];rfl
 have c1:W.cell? ⟨w.heap.size,1,none⟩=some (.slice ad ks.length cap):=by rw[Lib.cell_of_heap hbx];rfl
 go_enter Tryz.func141,Tryz.ntmps141
 go_wp2_with (go_at_call 173;refine (Yd.itoa hi _ t0).mono ?_)
 intro e W1 he b1 g1;cases he;have f1:=Yd.isF_grow f0 g1;have b1:Below (w.heap.size+1) W W1:=b1.mono Z;have hW1:w.heap.size+1<=W1.heap.size:=by have:=b1.size;omega
 go_wp2_with (go_at_call 174;refine (Yd.Builder_WriteString_k (w.heap.size+1) (w.heap.size+1) [] ⟨(Lib.itoa var).toArray⟩ _ f1 (by have:=Yd.itoa_len hi;simp[ByteArray.size];omega) hW1).mono ?_)
 rintro e W2 ⟨rfl,f2,b2,k2⟩
 have f2':Lib.IsBuilderF 203 5 (w.heap.size+1) (w.heap.size+1) (Lib.byteCells (Yd.part var ks 0)) W2:=by
  refine Or.inr ?_;rw[Yd.strCells_byte] at f2;simpa [Yd.part] using f2
 have bW2:=b1.trans b2;have c1':=(bW2.cell (p:=⟨w.heap.size,1,none⟩) (by simp)).trans c1
 have kc:∀j (h:j<ks.length),∃b o,ad=some ⟨b,o,none⟩/\b<w.heap.size/\w.cell? ⟨b,o+j,none⟩=some (.int .i64 ks[j]):=fun j h=>by
  obtain ⟨b,o,h1,h2⟩:=hr j h;exact ⟨b,o,h1,World.block_lt_of_cell? w ⟨b,o+j,none⟩ h2,h2⟩
 have tW2:=Yd.tab_below (B:=w.heap.size+1) Z t0 bW2;have sW2:=bW2.size;clear f2 f1 g1 b2 b1 f0 t0 h0 c0 c1 hbx hW hr hW1 k2
 go_wp2
 go_loopw [20] (fun i wr=>∃n,n<=ks.length/\i=.int .i64 n/\Lib.IsBuilderF 203 5 (w.heap.size+1) (w.heap.size+1) (Lib.byteCells (Yd.part var ks n)) wr/\Below (w.heap.size+1) W2 wr)
  (fun i _=>ks.length-(intOf i).toNat)
 case atStart=>exact ⟨0,jd _,rfl,f2',Below.refl _ _⟩
 case round=>
  obtain ⟨n,hn,rfl,hf,hbw⟩:=hrel;have swr:=hbw.size;have hpl:=Yd.part_len hi hk n hn
  by_cases hlt:n<ks.length
  .obtain ⟨b,o,had,hb,hc⟩:=kc n hlt;subst had;have hcw:wr.cell? ⟨b,o+n,none⟩=some (.int .i64 ks[n]):=((hbw.cell (p:=⟨b,o+n,none⟩) (by show b<_;omega)).trans (bW2.cell (p:=⟨b,o+n,none⟩) (by show b<_;omega))).trans ((b0.cell (p:=⟨b,o+n,none⟩) hb).trans hc);have hik:=hk ks[n] (bp hlt);have twr:=Yd.tab_below (B:=w.heap.size+1) Z tW2 hbw;generalize hx:ks[n]=x at hcw hik;clear kc bW2 b0 hc
   go_wp2_with (go_at_call 175;refine (Yd.Builder_WriteByte_k (w.heap.size+1) (w.heap.size+1) _ 32 _ hf (by rw[Lib.byteCells_length];omega) (by omega)).mono ?_)
   rintro e W3 ⟨rfl,f3,b3,k3⟩;have t3:=Yd.tab_below (B:=w.heap.size+1) Z twr b3;have s3:=b3.size
   go_wp2_with (go_at_call 173;refine (Yd.itoa hik _ t3).mono ?_)
   rintro e W4 ⟨rfl,b4,g4⟩;have f4:=Yd.isF_grow (Or.inr f3) g4;have s4:=b4.size
   go_wp2_with (go_at_call 174;refine (Yd.Builder_WriteString_k (w.heap.size+1) (w.heap.size+1) _ ⟨(Lib.itoa x).toArray⟩ _ f4 (by have:=Yd.itoa_len hik;simp only[aQ,Lib.byteCells_length,ByteArray.size,List.size_toArray,pW];omega) (by omega)).mono ?_)
   rintro e W5 ⟨rfl,f5,b5,k5⟩;clear f3 f4 g4 k3 k5
   go_wp2
   go_roundw
   case rel=>
    refine ⟨n+1,Z,aq,?_,((hbw.trans b3).trans (b4.mono (by omega))).trans b5⟩;rw[Yd.part_succ var ks n hlt,hx];rw[Yd.strCells_byte] at f5;refine Or.inr ?_;simpa [Lib.byteCells] using f5
   case measure=>simp[intOf];omega
  .obtain rfl:n=ks.length:=Z
   go_wp2_with (go_at_call 176;refine (Tryz.Builder_String_any_k (w.heap.size+1) (w.heap.size+1) _ _ hf (by omega)).mono ?_)
   rintro e W3 ⟨rfl,f3,b3,k3⟩
   go_wp2
   go_ret
   exact ⟨rfl,b0.trans (((bW2.trans hbw).trans b3).mono Z)⟩
end Go.Proofs
namespace Go.Ab
open Go.Proofs Go.RowKit
noncomputable instance:WInv:=⟨fun w=>Yd.tab w⟩
def rB:List AV->Option (List Int)
 | []=>some []
 | .int .i64 n::l=>if -9223372036854775808<=n/\n<=9223372036854775807 then (rB l).map fun ns=>n::ns else none
 | _=>none
def rK:List AV->Option AV
 | [.agg [.int .i64 v,.lst none _ _ ks,.int .i64 l]]=>(rB ks).bind fun ns=>
  if (-9223372036854775808<=v/\v<=9223372036854775807)/\(-9223372036854775808<=l/\l<=9223372036854775807)/\ns.length<=1048576 then some (.str ⟨(Yd.nameB v l ns).toArray⟩) else none
 | _=>none
theorem Km:∀{ks:List AV} {ns:List Int},rB ks=some ns->ks=ns.map (AV.int .i64)/\∀n∈ns,Yd.i64 n
 | [],ns,h=>by simp[rB] at h;subst h;simp
 | x::l,ns,h=>by
  unfold rB at h
  split at h
  .rename_i he;cases he
  .rename_i n l' he;cases he
   split at h
   .rename_i hn;obtain ⟨ms,hm,rfl⟩:=fk.1 h;obtain ⟨h1,h2⟩:=Km hm
    exact ⟨by rw[h1];rfl,fun n hn'=>by
     rcases cE.1 hn' with rfl|h'
     .exact hn
     .exact h2 _ h'⟩
   .cases h
  .cases h
theorem qaU{ns:List Int}(h:∀n∈ns,Yd.i64 n):rB (ns.map (AV.int .i64))=some ns:=by
 induction ns with
 | nil=>rfl
 | cons n ns ih=>
  simp only[cU,rB];rw[ai (show _/\_ from h n cF),ih fun k hk=>h k (cP _ hk)]
  rfl
theorem qah(ns:List Int):ce (ns.map (AV.int .i64))=ns.map (AV.int .i64):=by
 induction ns with
 | nil=>rfl
 | cons n l ih=>simp only[cU,ce,oN,AV.cells] at ih ⊢;rw[ih];rfl
theorem MQ{B:Nat}{w w':World}{g:G}(hB:B<=w.heap.size)(h:Below w.heap.size w w'):Step B w g w' g where
 below:=h.mono hB
 cell b off u _ hc:=(h.cell (p:=⟨b,off,none⟩) (n9 hc)).trans hc
 shape b c e fr hb:=⟨c,(h.block b (cH.1 hb).1).trans hb,rfl⟩
 wr b off _ hn:=hn
 wrB b off _:=Iff.rfl
 box b _:=Iff.rfl
 loc nm b h:=h
 tloc nm n b h:=h
theorem qbx{B:Nat}{w w':World}{g:G}{m:af}(hB:B<=w.heap.size)(h:Below w.heap.size w w')(hm:MemR B w g m):MemR B w' g m:=
 hm.keep (MQ hB h) (fun b _ hb=>h.block b hb) (fun _ _ h=>h) rfl rfl (fun b off hw=>mN (hm.wrLt b off hw) h.size) (fun b hw=>mN (hm.boxLt b hw) h.size)
theorem qbF(vs:List AV)(v:AV)(h:rK vs=some v)(m:af):nT Tryz.prog 141 vs m v m:=by
 unfold rK at h
 split at h
 .rename_i var z o ks leaf;simp only[aU] at h;obtain ⟨ns,hns,h⟩:=h
  split at h
  .rename_i hc;obtain ⟨hv,hl,hlen⟩:=hc;obtain rfl:=mS h;obtain ⟨rfl,hin⟩:=Km hns;intro B w g us hm hB hus hV;have h0:=hV 0 aq;simp only[lZ] at h0;have hsz:us.size=1:=by simpa using hus.symm
   obtain ⟨u,rfl⟩:∃u,us = #[u]:=⟨us.getD 0 undef,by
    apply Array.ext (by simpa using hsz);intro i hi1 hi2;obtain rfl:i=0:=by simp at hi2;omega
    simp[Array.getD,hi1]⟩
   have h0:V w g (.agg [.int .i64 var,.lst none z o (ns.map (AV.int .i64)),.int .i64 leaf]) u:=h0;cases h0;rename_i ws hl3 hVs;have htab:Yd.tab w:=hm.inv w (Below.refl _ _);have a0:=hVs 0 aq;have a1:=hVs 1 aq;have a2:=hVs 2 aq;simp only[lZ,sI] at a0 a1 a2
   have hws:ws = #[ws.getD 0 undef,ws.getD 1 undef,ws.getD 2 undef]:=by
    have h3:ws.size=3:=by simpa using hl3.symm
    apply Array.ext (by simpa using h3);intro i hi1 hi2
    match i,hi2 with
    | 0,_=>simp[Array.getD,h3]
    | 1,_=>simp[Array.getD,h3]
    | 2,_=>simp[Array.getD,h3]
   generalize ws.getD 0 undef=q0 at a0 hws;generalize ws.getD 1 undef=q1 at a1 hws;generalize ws.getD 2 undef=q2 at a2 hws;subst hws;cases a0;cases a2
   have fin:∀{e:Ending} {w':World},e=.returned (.string ⟨(Yd.nameB var leaf ns).toArray⟩)/\Below w.heap.size w w'->∃v' g',e=.returned v'/\Step B w g w' g'/\MemR B w' g' m/\V w' g' (.str ⟨(Yd.nameB var leaf ns).toArray⟩) v':=by
    rintro e w' ⟨rfl,hb⟩;exact ⟨_,g,rfl,MQ hB hb,qbx hB hb hm,.str _⟩
   by_cases hneg:var<0
   .refine (Yd.name_leaf var leaf q1 w htab hneg hl).mono fun e w' hr=>fin ?_;rw[Yd.nameB,ai hneg];exact hr
   .have e1:Yd.nameB var leaf ns=Yd.part var ns ns.length:=by rw[Yd.nameB,ag hneg,Yd.part,List.take_length]
    rw[e1] at fin ⊢;generalize hes:ns.map (AV.int .i64)=es at a1
    cases a1 with
    | nils _ _ _=>
     obtain rfl:ns=[]:=oQ.1 hes;exact (Yd.name_node var leaf [] none 0 w htab hneg hv hin aq (fun j h=>by simp at h)).mono fun e w' hr=>fin hr
    | lst _ _ _ a cap us hs hcl hmx hsh hcell hvv ho=>
     subst hes;rw[bA] at *;have hfl:=qah ns;refine (Yd.name_node var leaf ns (some a) cap w htab hneg hv hin hlen (fun j hj=>?_)).mono fun e w' hr=>fin hr;rw[hfl] at hcell hvv;have c1:=(hcell j (by simpa using hj)).1;have c2:=hvv j (by simpa using hj);have hg:(ns.map (AV.int .i64)).getD j .any=.int .i64 ns[j]:=by simp[aK,hj]
     rw[hg] at c2;generalize us j=q at c1 c2;cases c2;have hsp:a.spot=none:=hs.resolve_left Z;obtain ⟨bl,off,sp⟩:=a;simp only at hsp c1;subst hsp;exact ⟨bl,off,rfl,c1⟩
  .cases h
 .cases h
end Go.Ab
namespace Go.Ab
open Go.Proofs
structure ND where
 var:Int
 kids:List Int
 leaf:Int
 deriving DecidableEq
def ND.key(n:ND):List UInt8:=Yd.nameB n.var n.leaf n.kids
def ND.ok(n:ND):Prop:=(n.var=-1/\n.kids=[]/\0<=n.leaf/\n.leaf<=2147483647)\/(0<=n.var/\n.var<1000/\n.leaf=0/\(∀k∈n.kids,0<=k/\k<1000000)/\n.kids.length<=64)
theorem ZX(u:Nat):Lib.decDigits u≠[]:=by
 rw[Lib.decDigits];split<;>simp
theorem C5(u:Nat):∀b∈Lib.decDigits u,48<=b.toNat/\b.toNat<=57:=by
 induction u using Nat.strongRecOn with
 | ind u ih=>
  rw[Lib.decDigits]
  have h8:∀v,v<10->48<=(UInt8.ofNat (48+v)).toNat/\(UInt8.ofNat (48+v)).toNat<=57:=fun v hv=>by
   have:(UInt8.ofNat (48+v)).toNat=48+v:=by simp;omega
   omega
  split
  .rename_i h;intro b hb;simp only[List.mem_singleton] at hb;rw[hb];exact h8 u h
  .intro b hb
   rcases cI.1 hb with hb|hb
   .exact ih (u/10) Z b hb
   .simp only[List.mem_singleton] at hb;rw[hb];exact h8 (u%10) Z
def AM(l:List UInt8):Nat:=l.foldl (fun a b=>a*10+(b.toNat-48)) 0
theorem JI(u:Nat):AM (Lib.decDigits u)=u:=by
 induction u using Nat.strongRecOn with
 | ind u ih=>
  rw[Lib.decDigits];have h8:∀v,v<10->(UInt8.ofNat (48+v)).toNat=48+v:=fun v hv=>by simp;omega
  split
  .rename_i h;simp only[AM,oO,List.foldl_nil,h8 u h];omega
  .rename_i h;have:=ih (u/10) Z;unfold AM at this ⊢;rw[List.foldl_append,this];simp only[oO,List.foldl_nil,h8 (u%10) Z];omega
def vk(x:List UInt8):Prop:=x=[]\/∃y,x=32::y
theorem MJ:∀{a b x y:List UInt8},(∀c∈a,48<=c.toNat/\c.toNat<=57)->(∀c∈b,48<=c.toNat/\c.toNat<=57)->vk x->vk y->a++x=b++y->a=b/\x=y
 | [],[],x,y,_,_,_,_,h=>⟨rfl,by simpa using h⟩
 | [],c::b,x,y,_,hb,hx,_,h=>by
  exfalso;have hc:=hb c cF
  rcases hx with rfl|⟨z,rfl⟩
  .simp at h
  .simp only[bX,cc,lY] at h;rw[<- h.1] at hc;simp at hc
 | c::a,[],x,y,ha,_,_,hy,h=>by
  exfalso;have hc:=ha c cF
  rcases hy with rfl|⟨z,rfl⟩
  .simp at h
  .simp only[bX,cc,lY] at h;rw[h.1] at hc;simp at hc
 | c::a,d::b,x,y,ha,hb,hx,hy,h=>by
  simp only[cc,lY] at h;obtain ⟨e1,e2⟩:=MJ (fun c hc=>ha c (cP _ hc)) (fun c hc=>hb c (cP _ hc)) hx hy h.2;exact ⟨by rw[h.1,e1],e2⟩
theorem DG{n:Int}(h:0<=n):Lib.itoa n=Lib.decDigits n.toNat:=by unfold Lib.itoa;rw[ag Z]
theorem DH{a b:Int}(ha:0<=a)(hb:0<=b){x y:List UInt8}(hx:vk x)(hy:vk y)(h:Lib.itoa a++x=Lib.itoa b++y):a=b/\x=y:=by
 rw[DG ha,DG hb] at h;obtain ⟨e1,e2⟩:=MJ (C5 _) (C5 _) hx hy h;have:=cA AM e1;rw[JI,JI] at this;exact ⟨Z,e2⟩
theorem y4(ks:List Int):vk (ks.flatMap fun k=>32::Lib.itoa k):=by
 cases ks with
 | nil=>exact .inl rfl
 | cons k ks=>exact .inr ⟨_,by rw[oN];rfl⟩
theorem Kw:∀{a b:List Int},(∀k∈a,0<=k)->(∀k∈b,0<=k)->(a.flatMap fun k=>32::Lib.itoa k)=(b.flatMap fun k=>32::Lib.itoa k)->a=b
 | [],[],_,_,_=>rfl
 | [],k::b,_,_,h=>by simp[oN] at h
 | k::a,[],_,_,h=>by simp[oN] at h
 | k::a,l::b,ha,hb,h=>by
  simp only[oN,cc,lY,true_and] at h;obtain ⟨e1,e2⟩:=DH (ha k cF) (hb l cF) (y4 a) (y4 b) h;rw[e1,Kw (fun k hk=>ha k (cP _ hk)) (fun k hk=>hb k (cP _ hk)) e2]
theorem qaZ{a b:ND}(ha:a.ok)(hb:b.ok)(h:a.key=b.key):a=b:=by
 obtain ⟨v,ks,l⟩:=a;obtain ⟨v',ks',l'⟩:=b;unfold ND.key Yd.nameB at h;simp only at h
 have lead:∀{n:Int} {x:List UInt8} {y:List UInt8},0<=n->61::x=Lib.itoa n++y->False:=fun {n x y} hn he=>by
  rw[DG hn] at he
  cases hd:Lib.decDigits n.toNat with
  | nil=>exact ZX _ hd
  | cons c d=>
   have:=C5 n.toNat c (by rw[hd];exact cF);rw[hd] at he;simp only[cc,lY] at he;rw[<- he.1] at this;simp at this
 rcases ha with ⟨h1,h2,h3,h4⟩|⟨h1,h2,h3,h4,h5⟩<;>rcases hb with ⟨k1,k2,k3,k4⟩|⟨k1,k2,k3,k4,k5⟩<;>simp only at h1 h2 h3 h4 k1 k2 k3 k4
 .subst h1;subst k1;subst h2;subst k2;rw[ai (by decide),ai (by decide)] at h;simp only[lY,true_and] at h;have:=(DH h3 k3 (x:=[]) (y:=[]) (.inl rfl) (.inl rfl) (by simpa using h)).1;rw[this]
 .subst h1;rw[ai (by decide),ag Z] at h;exact (lead k1 h).elim
 .subst k1;rw[ag Z,ai (by decide)] at h;exact (lead h1 h.symm).elim
 .rw[ag Z,ag Z] at h;obtain ⟨e1,e2⟩:=DH h1 k1 (y4 _) (y4 _) h;rw[e1,h3,k3,Kw (fun k hk=>(h4 k hk).1) (fun k hk=>(k4 k hk).1) e2]
theorem Lf{n:ND}(h:n.ok)(z:Bool)(o:Own):rK [.agg [.I n.var,.lst none z o (n.kids.map (AV.int .i64)),.I n.leaf]]=some (.str ⟨n.key.toArray⟩):=by
 have hk:∀k∈n.kids,Yd.i64 k:=fun k hk=>by
  rcases h with ⟨_,h2,_⟩|⟨_,_,_,h4,_⟩
  .rw[h2] at hk;cases hk
  .have:=h4 k hk;constructor<;>omega
 have hb:((-9223372036854775808<=n.var/\n.var<=9223372036854775807)/\(-9223372036854775808<=n.leaf/\n.leaf<=9223372036854775807)/\n.kids.length<=1048576):=by
  rcases h with ⟨h1,h2,h3,h4⟩|⟨h1,h2,h3,h4,h5⟩
  .rw[h2];refine ⟨Z,Z,aq⟩
  .omega
 unfold rK;simp only[];rw[qaU hk,O,ai hb]
 rfl
end Go.Ab
