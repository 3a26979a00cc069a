/- Maps: made, looked up, written to. -/
import Derived.Test.YtiipgpkgcdhbfaaGreatDoorDP0
import Derived.Maps.OwnSet
import Derived.DeepKeys4
import Derived.Orders
import Derived.Fence
import Derived.Sort.Grow
import Derived.Sort.Row
import Derived.Lib.SlicesCompact
import Derived.Shelf.Strings.Builder1
import Derived.Shelf.Small.Bits
import Derived.Shelf.Strings.BuilderF
import Derived.Shelf.Strings.BuilderK
import Derived.Shelf.Strconv.Itoa0
import Derived.Shelf.Strconv.Itoa1
import Derived.Shelf.LaysM
import Derived.Shelf.Strconv.Itoa2
import Derived.Shelf.Strconv.Itoa3
import Derived.Shelf.Sort.Plain
import Derived.Ground.Names2Prog
import Derived.Shelf.Slices.Clone
import Derived.Shelf.Slices.CompactI
import Derived.Shelf.Slices.SearchI
import Derived.Shelf.Slices.Cells
import Derived.Shelf.Slices.In.SortNone
import Derived.Ground.SlgnProg
import Derived.Shelf.SlicesE.Clone
import Derived.Test.YtiipgpkgcdhbfaaGreatDoorProg
import Derived.WalkKit
import Derived.BigCall
set_option maxRecDepth 100000
set_option linter.unusedVariables false
set_option linter.unusedSimpArgs false
set_option linter.unusedSectionVars false
namespace Go.Ab
open Go.RowKit Go.Maps Go.ChangeMaps
section
variable [WInv] {P:Program} {B:Nat} {w:World} {g:G} {m:af}
open Go.WideElems (Fit rd rg pl rd_key rd_val rg_of rd_mk)
theorem V.atomV {x:AV} {v u:Value} (h:V w g x v) (hf:atomV x=some u):v=u:=by
 cases h<;>simp[Go.Ab.atomV] at hf<;>exact hf
theorem LM:∀ (cs:List AV) (us:List Value),sg cs=some us->us.length=cs.length/\∀ j,j < cs.length->Go.Ab.atomV (cs.getD j .any)=some (us.getD j undef)
 | [],us,h=>by simp[sg] at h;subst h;exact ⟨rfl,fun j hj=>by simp at hj⟩
 | x::xs,us,h=>by
  simp only[sg,bc,gP] at h;obtain ⟨v,hv,vs,kC,rfl⟩:=h;obtain ⟨h1,h2⟩:=LM xs vs kC;refine ⟨by simp[h1],fun j hj=>?_⟩
  cases j with
  | zero=>simpa using hv
  | succ j=>simpa using h2 j (by simpa using hj)
theorem V.flatV {x:AV} {v u:Value} (h:V w g x v) (hf:Go.Ab.flatV x=some u):v=u:=by
 by_cases hx:∃ cs,x=.agg cs
 ·obtain ⟨cs,rfl⟩:=hx
  cases h with
  | agg cs vs hl hv=>
   simp only[Go.Ab.flatV,gP] at hf;obtain ⟨us,hus,rfl⟩:=hf;obtain ⟨h1,h2⟩:=LM cs us hus;congr 1;apply Array.ext (by simp[h1,hl]);intro j tL oV;have:=(hv j (by omega)).atomV (h2 j (by omega));simpa [Array.getD,tL,aS,show j < us.length by omega] using this
 ·refine h.atomV ?_
  cases x<;>first | (exact absurd ⟨_,rfl⟩ hx) | exact hf
theorem Wo {k:Nat} {kk:KK} (h:wV P k=some kk):(P.underlying k=some .string/\kk=.str)\/(∃ q,P.underlying k=some (.int q)/\kk=.int q) \/
  ∃ n e q,P.underlying k=some (.array n e)/\P.underlying e=some (.int q)/\kk=.arr n q/\P.tiled 2 k=true/\P.keyTypeAt 2 k=true/\P.keyType k=true/\P.cellsOf e=1/\0 < P.types.size:=by
 unfold wV at h
 split at h
 ·rename_i hu;simp at h;exact .inl ⟨hu,h.symm⟩
 ·rename_i q hu;simp at h;exact .inr (.inl ⟨q,hu,h.symm⟩)
 ·rename_i n e hu
  split at h
  ·rename_i q hq
   split at h
   ·rename_i hc;simp only[b7,tw,oq] at hc;obtain ⟨⟨⟨⟨c1,c2⟩,c3⟩,c4⟩,c5⟩:=hc;simp only[bM] at h;exact .inr (.inr ⟨n,e,q,hu,hq,h.symm,c1,c2,c3,c4,c5⟩)
   ·cases h
  ·cases h
 ·cases h
theorem Wk {k:Nat} {kk:KK} (h:wV P k=some kk):Keyed P k:=by
 rcases Wo h with ⟨hu,_⟩ | ⟨q,hu,_⟩ | ⟨n,e,q,hu,_,_,h1,h2,_⟩
 ·exact string_keyed hu
 ·exact int_keyed hu
 ·exact Keyed.of_law (deep_law (m:=2) (by omega) h2 h1 (by rw[hu]))
theorem Xb {α β:Type} {f:α->Option β}:∀ {l:List α},(∀ x∈l,∃ y,f x=some y)->∃ ys,l.mapM f=some ys
 | [],_=>⟨[],by simp⟩
 | x::l,h=>by
  obtain ⟨y,hy⟩:=h x fN;obtain ⟨ys,p9⟩:=Xb (f:=f) (l:=l) fun z hz=>h z (fJ _ hz);exact ⟨y::ys,by simp[List.mapM_cons,hy,p9]⟩
theorem Ee {k:Nat} {kk:KK} {v:Value} (h:wV P k=some kk) (hv:Kn kk v):∃ l,Go.keyOf P k v=some l:=by
 rcases Wo h with ⟨hu,rfl⟩ | ⟨q,hu,rfl⟩ | ⟨n,e,q,hu,he,rfl,h1,h2,h3,h4,h5⟩
 ·obtain ⟨s,rfl,hs⟩:=hv;exact ⟨.string s.data.toList,by simp[Go.keyOf,mapKey,hu,hs]⟩
 ·obtain ⟨n,rfl,hn⟩:=hv;have:(Lit.int q n).wf=true:=hn;exact ⟨.int q n,by simp[Go.keyOf,mapKey,hu,this]⟩
 ·obtain ⟨us,rfl,hsz,hus⟩:=hv
  have wB:P.cellsOf k=n:=by
   have:=h1;unfold Program.tiled at this;rw[hu] at this;simp only[b7,tw] at this;rw[this.1,h4,kV]
  obtain ⟨d,hd⟩:∃ d,P.types.size=d+1:=⟨P.types.size - 1,by omega⟩
  have hm:∃ ys,(List.range n).mapM (fun i=>P.keyLits (d+1) e ((us.toList.drop (i * P.cellsOf e)).take (P.cellsOf e)))=some ys:=by
   refine Xb fun i hi=>?_;have hi:=uz.1 hi;have b6:i < us.toList.length:=by simpa [hsz] using hi
   rw[h4,kV,kT b6,List.take_succ_cons,List.take_zero];obtain ⟨z,hz,hw⟩:=hus us.toList[i] (by simp);have hw:(Lit.int q z).wf=true:=hw;rw[hz];exact ⟨[.int q z],by simp[Program.keyLits,he,hw]⟩
  obtain ⟨ys,p9⟩:=hm;refine ⟨.string (keyBytes ys.flatten),?_⟩;have hf:Value.formed P k (.agg us)=true:=by simp[Value.formed,hu,wB,hsz]
  have hl:us.toList.length=P.cellsOf k:=by simp[hsz,wB]
  unfold Go.keyOf;rw[hu];simp only[h3,hf,mV,bw,Value.cells]
  have ek:P.keyLits (d+1+1) k us.toList=if us.toList.length=P.cellsOf k then ((List.range n).mapM fun i=>P.keyLits (d+1) e ((us.toList.drop (i * P.cellsOf e)).take (P.cellsOf e))).map List.flatten else none:=by
   simp only[Program.keyLits,hu]
  rw[hd,ek,an hl,p9]
  rfl
theorem NZ {kk:KK} {x:AV} {v:Value} (ho:jU kk x=true) (hf:Go.Ab.flatV x=some v):Kn kk v:=by
 cases kk with
 | str=>
  cases x<;>simp[jU] at ho;simp[Go.Ab.flatV,Go.Ab.atomV] at hf;exact ⟨_,hf.symm,ho⟩
 | int q=>
  cases x<;>simp[jU,nK] at ho;obtain ⟨rfl,ho⟩:=ho;simp[Go.Ab.flatV,Go.Ab.atomV] at hf;exact ⟨_,hf.symm,ho⟩
 | arr n q=>
  cases x<;>simp only[jU,jX] at ho;rename_i cs;simp only[b7,tw,ga] at ho;simp only[Go.Ab.flatV,gP] at hf;obtain ⟨us,hus,rfl⟩:=hf;obtain ⟨h1,h2⟩:=LM cs us hus;refine ⟨_,rfl,by simp[h1,ho.1],fun u hu=>?_⟩;obtain ⟨j,hj,rfl⟩:=pv (by simpa using hu:u∈us);have h3:=h2 j (by omega);have h4:=ho.2 (cs.getD j .any) (by rw[aS,bD (by omega)];exact bS _)
  cases hc:cs.getD j .any with
  | int k' i=>
   rw[hc] at h3 h4;simp only[nK,b7,oq] at h4;obtain ⟨rfl,h4⟩:=h4;simp[Go.Ab.atomV] at h3;exact ⟨i,by simpa [hj] using h3.symm,h4⟩
  | _=>rw[hc] at h4;simp[nK] at h4
theorem Wg {kk:KK} {x:AV} (ho:jU kk x=true):∃ v,Go.Ab.flatV x=some v:=by
 cases kk with
 | str=>cases x<;>simp[jU] at ho;exact ⟨_,rfl⟩
 | int q=>cases x<;>simp[jU,nK] at ho;exact ⟨_,rfl⟩
 | arr n q=>
  cases x<;>simp only[jU,jX] at ho;rename_i cs;simp only[b7,ga] at ho
  have:∀ cs:List AV,(∀ x∈cs,nK q x=true)->∃ us,sg cs=some us:=by
   intro cs
   induction cs with
   | nil=>intro _;exact ⟨[],rfl⟩
   | cons c cs ih=>
    intro h;obtain ⟨us,hus⟩:=ih fun x hx=>h x (fJ _ hx);have:=h c fN;cases c<;>simp[nK] at this;rename_i k' n';exact ⟨.int k' n'::us,by simp[sg,Go.Ab.atomV,hus]⟩
  obtain ⟨us,hus⟩:=this cs ho.2;exact ⟨.agg us.toArray,by simp[Go.Ab.flatV,hus]⟩
theorem qjQ {q:IntKind} {x y:AV} {u v:Value} (hx:nK q x=true) (hy:nK q y=true) (hu:Go.Ab.atomV x=some u) (hv:Go.Ab.atomV y=some v):uK x y=true↔u=v:=by
 cases x<;>simp[nK] at hx;cases y<;>simp[nK] at hy;simp[Go.Ab.atomV] at hu hv;subst hu;subst hv;simp[uK]
theorem yT {kk:KK} {x y:AV} {u v:Value} (hx:jU kk x=true) (hy:jU kk y=true) (hu:Go.Ab.flatV x=some u) (hv:Go.Ab.flatV y=some v):jj x y=true↔u=v:=by
 cases kk with
 | str=>
  cases x<;>simp[jU] at hx;cases y<;>simp[jU] at hy;simp[Go.Ab.flatV,Go.Ab.atomV] at hu hv;subst hu;subst hv;simp[jj,uK]
 | int q=>
  cases x<;>simp[jU,nK] at hx;cases y<;>simp[jU,nK] at hy;simp[Go.Ab.flatV,Go.Ab.atomV] at hu hv;subst hu;subst hv;simp[jj,uK]
 | arr n q=>
  cases x<;>simp only[jU,jX] at hx;cases y<;>simp only[jU,jX] at hy;rename_i cs ds;simp only[b7,tw,ga] at hx hy;simp only[Go.Ab.flatV,gP] at hu hv;obtain ⟨us,hus,rfl⟩:=hu;obtain ⟨vs,kC,rfl⟩:=hv
  have key:∀ (cs ds:List AV) (us vs:List Value),cs.length=ds.length->(∀ x∈cs,nK q x=true)->(∀ x∈ds,nK q x=true)->sg cs=some us->sg ds=some vs->(Av cs ds=true↔us=vs):=by
   intro cs
   induction cs with
   | nil=>
    intro ds us vs hl _ _ h1 h2
    cases ds with
    | nil=>simp[sg] at h1 h2;subst h1;subst h2;simp[Av]
    | cons=>simp at hl
   | cons c cs ih=>
    intro ds us vs hl h3 h4 h1 h2
    cases ds with
    | nil=>simp at hl
    | cons d ds=>
     simp only[sg,bc,gP] at h1 h2;obtain ⟨a,ha,qas,has,rfl⟩:=h1;obtain ⟨b,hb,bs,ov,rfl⟩:=h2;simp only[Av,b7,po];rw[qjQ (h3 c fN) (h4 d fN) ha hb,ih ds qas bs (by simpa using hl) (fun x hx=>h3 x (fJ _ hx)) (fun x hx=>h4 x (fJ _ hx)) has ov]
  show Av cs ds=true↔_;rw[key cs ds us vs (by omega) hx.2 hy.2 hus kC]
  constructor
  ·rintro rfl;rfl
  ·intro h
   have:=cV (fun v=>match v with | Value.agg a=>a.toList | _=>[]) h
   simpa using this
def RU:Value->Option (DataW Unit×List MemPlace):=fun _=>some (.lit (.bool true),[])
theorem MapR.fit {k:Nat} {kk:KK} {es':Array MapEntry} {clock:Nat} {es:List (AV×AV)} (M:MapR w g kk es' clock es) (h:wV P k=some kk):Fit P k RU es' clock where
 size:=dY M.size M.room
 stamped:=M.stamped
 reads x hx:=by
  obtain ⟨l,hl⟩:=Ee h (M.keys x hx);exact ⟨(l,.lit (.bool true)),by simp[Go.WideElems.rd,hl,RU]⟩
theorem MapR.uniq {kk:KK} {es':Array MapEntry} {clock:Nat} {es:List (AV×AV)} (M:MapR w g kk es' clock es) {x y:MapEntry} (hx:x∈es'.toList) (hy:y∈es'.toList) (h:x.key=y.key):x=y:=by
 have hnd:=M.stamped.2.2;obtain ⟨i,hi,rfl⟩:=pv hx;obtain ⟨j,hj,rfl⟩:=pv hy
 have ry:(es'.toList.map (·.key))[i]'(by simpa using hi)=(es'.toList.map (·.key))[j]'(by simpa using hj):=by
  rw[rV,rV,h]
 have:=(List.getElem_inj hnd).1 ry;subst this;rfl
theorem Xd {t e:Nat} {kk:KK} (h:vu P t=some (kk,e)):∃ k,P.underlying t=some (.map k e)/\wV P k=some kk:=by
 unfold vu at h
 split at h
 ·rename_i k e' hu;simp only[gP,dT] at h;obtain ⟨kk',hk,rfl,rfl⟩:=h;exact ⟨k,hu,hk⟩
 ·cases h
theorem Xj (hm:MemR B w g m) {kk:KK} {x:AV} {x':Value} (hx:V w g x x') {nm:Nat} {es:List (AV×AV)} (h:mg m kk x=some (nm,es)):m.get nm=some (.mp kk es)/\∃ b es' clock,x'=.map (some b)/\g.loc nm=some b/\B<=b/\w.heap[b]?=some (.map es' clock)/\MapR w g kk es' clock es:=by
 unfold mg at h
 split at h
 ·rename_i nm'
  split at h
  ·rename_i kk' es0 hg
   split at h
   ·rename_i hk;simp only[bM,dT] at h;obtain ⟨rfl,rfl⟩:=h;subst hk
    cases hx with
    | mref _ b hl=>
     obtain ⟨b',es',clock,h1,h2,h3,h4⟩:=hm.mp nm' kk' es0 hg;obtain rfl:b=b':=by simpa [hl] using h1
     exact ⟨hg,b,es',clock,rfl,hl,h2,h3,h4⟩
   ·cases h
  ·cases h
 ·cases h
theorem qoR {e:Nat} {z:AV} (h:rN P e=some z) (w:World):∃ v,(zeroValue e).run P w=.ok v w/\z=iq v:=by
 obtain ⟨i,v,hi,hv,rfl⟩:=Fb h;exact ⟨v,by simp[zeroValue,typeInfo,hi,hv],rfl⟩
theorem qm9 (hm:MemR B w g m) {t e:Nat} {kk:KK} {z v:AV} {x key:AV} {x' key':Value} {b:Bool} (hx:V w g x x') (Nb:V w g key key') (qA:vu P t=some (kk,e)) (hz:rN P e=some z) (h:o8 kk z m x key=some (v,b)) :
  ∃ v',V w g v v'/\(Instr.lookup t x' key' true).run P w=.ok (.tuple #[v',.bool b]) w/\(Instr.lookup t x' key' false).run P w=.ok v' w:=by
 obtain ⟨k,hu,hk⟩:=Xd qA;obtain ⟨z0,hz0,rfl⟩:=qoR hz w;simp only[o8,bc] at h;obtain ⟨⟨nm,es⟩,lr,h⟩:=h;simp only at h
 split at h
 ·rename_i bg;simp only[bM] at h;obtain ⟨hg,bl,es',clock,rfl,hl,hB,hb,M⟩:=Xj hm hx lr;obtain ⟨kv,oB⟩:=Wg bg;have Na:=(Nb.flatV oB).symm;subst Na;obtain ⟨kl,fR⟩:=Ee hk (NZ bg oB);have K:=Wk hk;have F:=M.fit hk
  have none_case:(∀ y∈es'.toList,y.key≠kv)->es.find? (fun p=>jj p.1 key)=none:=fun hne=>by
   rw[List.find?_eq_none];intro p hp sJ;obtain ⟨y,hy,h1,_⟩:=M.to p hp;exact hne y hy ((yT (M.ok p hp) bg h1 oB).1 sJ)
  have some_case:∀ e0∈es'.toList,e0.key=kv->∃ p,es.find? (fun p=>jj p.1 key)=some p/\V w g p.2 e0.val:=fun e0 he U7=>by
   obtain ⟨p0,H9,h1,h2⟩:=M.frm e0 he;have hex:∃ p∈es,jj p.1 key=true:=⟨p0,H9,(yT (M.ok p0 H9) bg h1 oB).2 U7⟩
   cases hf:es.find? (fun p=>jj p.1 key) with
   | none=>
    rw[List.find?_eq_none] at hf;obtain ⟨p,hp,sJ⟩:=hex;exact absurd sJ (hf p hp)
   | some p=>
    refine ⟨p,rfl,?_⟩;have hp:=List.mem_of_find?_eq_some hf;have sJ:=List.find?_some hf;obtain ⟨y,hy,h3,h4⟩:=M.to p hp;have hyk:=(yT (M.ok p hp) bg h3 oB).1 sJ
    have:y=e0:=by
     exact M.uniq hy he (hyk.trans U7.symm)
    rw[<- this];exact h4
  have ht:=fit_look (R:=RU) true K hu hz0 hb F fR;have hf:=fit_look (R:=RU) false K hu hz0 hb F fR;simp only[bw,jX,me] at ht hf
  rcases ht with ⟨t1,t2,_⟩ | ⟨e0,y,t1,t2,t3,_⟩
  ·rw[Bn,none_case t2] at h;simp only[dT] at h;obtain ⟨rfl,rfl⟩:=h;refine ⟨z0,Sy w g z0,t1,?_⟩
   rcases hf with ⟨f1,_,_⟩ | ⟨e1,y1,f1,f2,_⟩
   ·exact f1
   ·exact absurd f2 (t2 e1 f1)
  ·obtain ⟨p,hp,wN⟩:=some_case e0 t1 t2;rw[Bn,hp] at h;simp only[dT] at h;obtain ⟨rfl,rfl⟩:=h;refine ⟨e0.val,wN,t3,?_⟩
   rcases hf with ⟨_,f2,_⟩ | ⟨e1,y1,f1,f2,f3,_⟩
   ·exact absurd t2 (f2 e0 t1)
   ·have:e0=e1:=M.uniq t1 f1 (t2.trans f2.symm);rw[f3,this]
 ·cases h
theorem Step.setMap {b:Nat} {es es':Array MapEntry} {clock clock':Nat} (hB:B<=b) (hb:w.heap[b]?=some (.map es clock)):Step B w g (setBlock w b (.map es' clock')) g:=by
 have mb:∀ k,k≠b->(setBlock w b (.map es' clock')).heap[k]?=w.heap[k]?:=fun k hk=>heap_setBlock_other hb _ hk
 refine ⟨⟨rfl,rfl,rfl,by simp[setBlock],fun k hk=>mb k (by omega)⟩,fun b' off u hw hc=>?_,fun b' c1 e1 fr iy=>?_,fun _ _ _ h=>h,fun _ _ _=>Iff.rfl,fun _ _=>Iff.rfl,fun _ _ h=>h,fun _ _ _ h=>h⟩
 ·have hne:b'≠b:=fun he=>by
   subst he;unfold World.cell? at hc;rw[hb] at hc;cases hc
  exact (World.cell?_of_block (w:=w) (a:=⟨b',off,none⟩) (mb b' hne)).trans hc
 ·have hne:b'≠b:=fun he=>by subst he;rw[hb] at iy;cases iy
  exact ⟨c1,(mb b' hne).trans iy,rfl⟩
theorem Xh {es:List (AV×AV)} {key v:AV} {p:AV×AV} (h:p∈nO es key v):(p∈es/\jj p.1 key=false)\/(p.2=v/\(p.1=key\/∃ q∈es,q.1=p.1/\jj q.1 key=true)):=by
 unfold nO at h
 split at h
 ·obtain ⟨q,hq,rfl⟩:=jf.1 h
  by_cases hk:jj q.1 key=true
  ·rw[an hk];exact .inr ⟨rfl,.inr ⟨q,hq,rfl,hk⟩⟩
  ·rw[ai hk];exact .inl ⟨hq,by simpa using hk⟩
 ·rename_i ha;rw[List.any_eq_false] at ha
  rcases il.1 h with h | h
  ·exact .inl ⟨h,by simpa using ha p h⟩
  ·rw[List.mem_singleton] at h;subst h;exact .inr ⟨rfl,.inl rfl⟩
theorem qol {es:List (AV×AV)} {key v:AV} {p:AV×AV} (h:p∈es) (hk:jj p.1 key=false):p∈nO es key v:=by
 unfold nO
 split
 ·exact jf.2 ⟨p,h,by rw[ai (by simp[hk])]⟩
 ·exact il.2 (.inl h)
theorem qok {es:List (AV×AV)} {key v:AV}:∃ p∈nO es key v,p.2=v/\(p.1=key\/∃ q∈es,q.1=p.1/\jj q.1 key=true):=by
 unfold nO
 split
 ·rename_i ha;obtain ⟨q,hq,hk⟩:=List.any_eq_true.1 ha;exact ⟨(q.1,v),jf.2 ⟨q,hq,by rw[an hk]⟩,rfl,.inr ⟨q,hq,rfl,hk⟩⟩
 ·exact ⟨(key,v),il.2 (.inr fN),rfl,.inl rfl⟩
theorem qoj (es:List (AV×AV)) (key v:AV):(nO es key v).length=if es.any (fun p=>jj p.1 key)=true then es.length else es.length+1:=by
 unfold nO
 split
 ·rename_i h;rw[an h];simp
 ·rename_i h;rw[h];simp
theorem Xv {α:Type}:∀ (l l':List α),l.Nodup->(∀ x∈l,x∈l')->l.length<=l'.length
 | [],_,_,_=>kW _
 | a::t,l',hn,hs=>by
  obtain ⟨s,u,rfl⟩:=z8 (hs a fN);rw[uC] at hn
  have:=Xv t (s++u) hn.2 (fun x hx=>by
   have h:=hs x (fJ _ hx)
   rcases il.1 h with h | h
   ·exact il.2 (.inl h)
   ·rcases gE.1 h with rfl | h
    ·exact absurd hx hn.1
    ·exact il.2 (.inr h))
  simp at this ⊢;omega
theorem qnB {α β:Type} {f:α->β} {l:List α} (h:(l.map f).Nodup):(l.map fun x=>some (f x)).Nodup:=by
 have:(l.map fun x=>some (f x))=(l.map f).map some:=by simp
 rw[this];unfold List.Nodup at h ⊢;rw[List.pairwise_map];exact h.imp fun hne e=>hne (pU e)
theorem MapR.put {k:Nat} {kk:KK} {t e b:Nat} {es':Array MapEntry} {clock:Nat} {es:List (AV×AV)} (M:MapR w g kk es' clock es) (hu:P.underlying t=some (.map k e)) (hk:wV P k=some kk) (hb:w.heap[b]?=some (.map es' clock)) {key v:AV} {kv vv:Value} (bg:jU kk key=true) (oB:Go.Ab.flatV key=some kv) (hvv:V w g v vv) (hlen:es.length < maxLen) :
  ∃ es2 clock2,(Instr.mapUpdate t (.map (some b)) kv vv).run P w=.ok () (setBlock w b (.map es2 clock2))/\MapR w g kk es2 clock2 (nO es key v):=by
 obtain ⟨kl,fR⟩:=Ee hk (NZ bg oB);have K:=Wk hk;have F:=M.fit (P:=P) hk;obtain ⟨es2,clock2,r1,r2,r3,_,_,r6⟩:=fit_store (R:=RU) (R':=RU) (yv:=(.lit (.bool true),[])) K hu hb F (jq M.size hlen) (fun _ _ _ _ h=>h) fR rfl;have Nw:∀ (x:MapEntry) (l:Lit),Go.keyOf P k x.key=some l->Go.WideElems.rg P k RU x=(l,.lit (.bool true)):=fun x l hl=>Go.WideElems.rg_of (by simp[Go.WideElems.rd,hl,RU])
 have Vq:∀ x∈es2.toList,∃ l,Go.keyOf P k x.key=some l:=fun x hx=>by
  rcases r6 x hx with ⟨h,_⟩ | ⟨h,_⟩
  ·exact Ee hk (M.keys x h)
  ·exact ⟨kl,by rw[h];exact fR⟩
 have back:∀ p,p∈putKey kl (.lit (.bool true)) ((es'.toList.map (Go.WideElems.rg P k RU)).foldr DataW.insert [])->∃ x∈es2.toList,Go.WideElems.rg P k RU x=p:=fun p hp=>by
  rw[<- r3,mem_sorted] at hp;obtain ⟨x,hx,rfl⟩:=jf.1 hp;exact ⟨x,hx,rfl⟩
 have tP:∃ x∈es2.toList,x.key=kv/\x.val=vv:=by
  obtain ⟨x,hx,hp⟩:=back (kl,.lit (.bool true)) (mem_insert_iff.2 (.inl rfl));obtain ⟨l,hl⟩:=Vq x hx;rw[Nw x l hl] at hp;have eE:l=kl:=(Prod.mk.inj hp).1;subst eE;have A4:x.key=kv:=K.inj hl fR
  rcases r6 x hx with ⟨_,h⟩ | ⟨h,h'⟩
  ·exact absurd A4 h
  ·exact ⟨x,hx,h,h'⟩
 have hold:∀ x∈es'.toList,x.key≠kv->x∈es2.toList:=fun x hx hne=>by
  obtain ⟨l,hl⟩:=Ee hk (M.keys x hx);have qlS:l≠kl:=fun e=>hne (K.inj (e▸hl) fR)
  have fW:(l,DataW.lit (.bool true))∈putKey kl (.lit (.bool true)) ((es'.toList.map (Go.WideElems.rg P k RU)).foldr DataW.insert []):=by
   refine mem_insert_iff.2 (.inr (rX.2 ⟨mem_sorted.2 (jf.2 ⟨x,hx,Nw x l hl⟩),?_⟩));simp only[notKey]
   cases hs:l.sameKey kl with
   | false=>rfl
   | true=>exact absurd (WideAt.sameKey_eq hs) qlS
  obtain ⟨x2,hx2,hp⟩:=back _ fW;obtain ⟨l2,iX⟩:=Vq x2 hx2;rw[Nw x2 l2 iX] at hp;have eE:l2=l:=(Prod.mk.inj hp).1;subst eE;have A4:x2.key=x.key:=K.inj iX hl
  rcases r6 x2 hx2 with ⟨h,_⟩ | ⟨h,_⟩
  ·have:x2=x:=by
    have hnd:=M.stamped.2.2;obtain ⟨i,hi,rfl⟩:=pv h;obtain ⟨j,hj,rfl⟩:=pv hx
    have ry:(es'.toList.map (·.key))[i]'(by simpa using hi)=(es'.toList.map (·.key))[j]'(by simpa using hj):=by
     rw[rV,rV,A4]
    have:=(List.getElem_inj hnd).1 ry;subst this;rfl
   rw[<- this];exact hx2
  ·exact absurd (A4.symm.trans h) hne
 have qlD:∀ p∈nO es key v,jU kk p.1=true:=fun p hp=>by
  rcases Xh hp with ⟨h,_⟩ | ⟨_,h | ⟨q,hq,h,_⟩⟩
  ·exact M.ok p h
  ·rw[h];exact bg
  ·rw[<- h];exact M.ok q hq
 have Va:∀ x∈es2.toList,∃ p∈nO es key v,Go.Ab.flatV p.1=some x.key/\V w g p.2 x.val:=fun x hx=>by
  rcases r6 x hx with ⟨h,hne⟩ | ⟨h,h'⟩
  ·obtain ⟨p,hp,h1,h2⟩:=M.frm x h;refine ⟨p,qol hp ?_,h1,h2⟩
   cases bO:jj p.1 key with
   | false=>rfl
   | true=>exact absurd ((yT (M.ok p hp) bg h1 oB).1 bO) hne
  ·obtain ⟨p,hp,h1,h2⟩:=qok (es:=es) (key:=key) (v:=v);refine ⟨p,hp,?_,by rw[h1,h'];exact hvv⟩
   rcases h2 with h2 | ⟨q,hq,h2,DV⟩
   ·rw[h2,h];exact oB
   ·obtain ⟨x0,hx0,h3,_⟩:=M.to q hq;rw[<- h2,h3,h,(yT (M.ok q hq) bg h3 oB).1 DV]
 have qlC:∀ x∈es2.toList,∃ p∈nO es key v,Go.Ab.flatV p.1=some x.key:=fun x hx=>(Va x hx).imp fun p h=>⟨h.1,h.2.1⟩
 refine ⟨es2,clock2,r1,?_,?_,r2.stamped,fun x hx=>?_,qlD,fun p hp=>?_,Va⟩
 ·have h:=Xv (es2.toList.map fun x=>some x.key) ((nO es key v).map fun p=>Go.Ab.flatV p.1) (qnB (f:=fun x:MapEntry=>x.key) r2.stamped.2.2) (fun y hy=>by
   obtain ⟨x,hx,rfl⟩:=jf.1 hy;obtain ⟨p,hp,h1⟩:=qlC x hx
   exact jf.2 ⟨p,hp,h1⟩)
  simpa using h
 ·rw[qoj];split<;>omega
 ·rcases r6 x hx with ⟨h,_⟩ | ⟨h,_⟩
  ·exact M.keys x h
  ·rw[h];exact NZ bg oB
 ·rcases Xh hp with ⟨h,hne⟩ | ⟨hv,h⟩
  ·obtain ⟨x,hx,h1,h2⟩:=M.to p h
   have hxk:x.key≠kv:=fun e=>by
    have:=(yT (M.ok p h) bg h1 oB).2 e;rw[this] at hne;cases hne
   exact ⟨x,hold x hx hxk,h1,h2⟩
  ·obtain ⟨x,hx,h1,h2⟩:=tP;refine ⟨x,hx,?_,by rw[hv,h2];exact hvv⟩
   rcases h with h | ⟨q,hq,h,DV⟩
   ·rw[h,h1];exact oB
   ·obtain ⟨x0,hx0,h3,_⟩:=M.to q hq;rw[<- h,h3,h1,(yT (M.ok q hq) bg h3 oB).1 DV]
theorem Zw (hm:MemR B w g m) {t e:Nat} {kk:KK} {x key v:AV} {x' key' v':Value} {m1:af} (hx:V w g x x') (Nb:V w g key key') (hv:V w g v v') (qA:vu P t=some (kk,e)) (h:kQ kk m x key v=some m1) :
  ∃ w',(Instr.mapUpdate t x' key' v').run P w=.ok () w'/\Step B w g w' g/\MemR B w' g m1:=by
 obtain ⟨k,hu,hk⟩:=Xd qA;simp only[kQ,bc] at h;obtain ⟨⟨nm,es⟩,lr,h⟩:=h;simp only at h
 split at h
 ·rename_i hc;obtain ⟨bg,_,hlen⟩:=hc;simp only[bM] at h;subst h;obtain ⟨hg,b,es',clock,rfl,hl,hB,hb,M⟩:=Xj hm hx lr;obtain ⟨kv,oB⟩:=Wg bg;have Na:=(Nb.flatV oB).symm;subst Na;obtain ⟨es2,clock2,r1,M2⟩:=M.put (w:=w) hu hk hb bg oB hv hlen;have s:=Step.setMap (w:=w) (g:=g) (es':=es2) (clock':=clock2) hB hb;have mb:∀ k,k≠b->(setBlock w b (.map es2 clock2)).heap[k]?=w.heap[k]?:=fun k hk=>heap_setBlock_other hb _ hk;have wR:(setBlock w b (.map es2 clock2)).heap.size=w.heap.size:=by simp[setBlock]
  have hlt:=bF hg;refine ⟨_,r1,s,?_⟩;have su:ba g m nm=some b:=by simp[ba,hg,hl]
  have hblk:∀ x b',ba g (m.set nm (some (.mp kk (nO es key v)))) x=some b'->ba g m x=some b':=by
   intro x b' hx
   rcases pW hx with ⟨bx1,cs1,a1,a2⟩ | ⟨n1,sz1,a1,a2⟩ | ⟨kk1,es1,a1,a2⟩
   ·rw[gF] at a1
    split at a1
    ·simp at a1
    ·simp[ba,a1,a2]
   ·rw[gF] at a1
    split at a1
    ·simp at a1
    ·simp[ba,a1,a2]
   ·rw[gF] at a1
    split at a1
    ·rename_i he;subst he;simp[ba,hg,a2]
    ·simp[ba,a1,a2]
  refine ⟨?_,?_,?_,?_,?_,?_,?_,?_,?_⟩
  ·intro x bx1 cs1 hx;rw[gF] at hx
   split at hx
   ·simp at hx
   ·obtain ⟨b1,c1,e1,a1,a2,a3,a4,a5,a6⟩:=hm.obj x bx1 cs1 hx;have lN:b1≠b:=fun he=>by rw[he,hb] at a3;cases a3
    exact ⟨b1,c1,e1,a1,a2,(mb b1 lN).trans a3,a4,fun j hj=>(a5 j hj).step s,a6⟩
  ·intro x n1 sz1 hx;rw[gF] at hx
   split at hx
   ·simp at hx
   ·obtain ⟨b1,c1,e1,a1,a2,a3,a4⟩:=hm.tok x n1 sz1 hx;have lN:b1≠b:=fun he=>by rw[he,hb] at a3;cases a3
    exact ⟨b1,c1,e1,a1,a2,(mb b1 lN).trans a3,a4⟩
  ·intro x hx;rw[gF] at hx
   split at hx
   ·simp at hx
   ·exact hm.resv x hx
  ·intro x hx;exact hm.fresh x (by simpa using hx)
  ·intro x x' b' h1 h2;exact hm.inj x x' b' (hblk x b' h1) (hblk x' b' h2)
  ·intro b' off hw;rw[wR];exact hm.wrLt b' off hw
  ·exact hm.invS s
  ·intro b' hw;rw[wR];exact hm.boxLt b' hw
  ·intro x kk1 es1 hx;rw[gF] at hx
   split at hx
   ·rename_i he;simp only[an hlt,bM,Ent.mp.injEq] at hx;obtain ⟨rfl,rfl⟩:=hx;subst he;exact ⟨b,es2,clock2,hl,hB,heap_setBlock_same hb _,M2.step s⟩
   ·rename_i hne;obtain ⟨b1,es3,cl3,a1,a2,a3,a4⟩:=hm.mp x kk1 es1 hx;have lN:b1≠b:=fun he=>hne (hm.inj x nm b (by simp[ba,hx,a1,he]) su);exact ⟨b1,es3,cl3,a1,a2,(mb b1 lN).trans a3,a4.step s⟩
 ·cases h
def qE (g:G) (nm b:Nat):G where
 wr:=g.wr
 box:=g.box
 loc nm':=if nm'=nm then some b else g.loc nm'
 tloc:=g.tloc
theorem MemR.alloc_mp (h:MemR B w g m) (hB:B<=w.heap.size) (kk:KK) {nm:Nat} {m':af} (hs:Slot g m nm (.mp kk []) m') :
  Step B w g (w.alloc (.map #[] 0)) (qE g nm w.heap.size)/\MemR B (w.alloc (.map #[] 0)) (qE g nm w.heap.size) m':=by
 have nF:=hs.fresh
 have s:Step B w g (w.alloc (.map #[] 0)) (qE g nm w.heap.size):=by
  refine Step.alloc hB _ (fun b off hb=>Iff.rfl) (fun b hb=>Iff.rfl) (fun x b hb=>?_) (fun _ _ _ h=>h);simp only[qE]
  split
  ·rename_i he;rw[he,nF.1] at hb;cases hb
  ·exact hb
 have hblk:∀ x b,ba (qE g nm w.heap.size) m' x=some b->(x≠nm/\ba g m x=some b)\/(x=nm/\b=w.heap.size):=by
  intro x b hb
  rcases pW hb with ⟨bx',cs',h1,h2⟩ | ⟨n,sz,h1,h2⟩ | ⟨kk1,es,h1,h2⟩
  ·rw[hs.get] at h1
   split at h1
   ·simp at h1
   ·rename_i hne;simp only[qE,ai hne] at h2;exact .inl ⟨hne,by simp[ba,h1,h2]⟩
  ·rw[hs.get] at h1
   split at h1
   ·simp at h1
   ·rename_i hne;simp only[qE] at h2;exact .inl ⟨hne,by simp[ba,h1,h2]⟩
  ·rw[hs.get] at h1
   split at h1
   ·rename_i he;simp only[qE,an he] at h2;exact .inr ⟨he,by simpa using h2.symm⟩
   ·rename_i hne;simp only[qE,ai hne] at h2;exact .inl ⟨hne,by simp[ba,h1,h2]⟩
 refine ⟨s,?_,?_,?_,?_,?_,?_,?_,?_,?_⟩
 ·intro x bx' cs' hn;rw[hs.get] at hn
  split at hn
  ·simp at hn
  ·obtain ⟨b,c',e',h1,h2,h3,h4,h5,h6,h7⟩:=h.obj x bx' cs' hn;exact ⟨b,c',e',s.loc _ _ h1,h2,(Go.heap_alloc_old w _ (fF.1 h3).1).trans h3,h4,fun j hj=>(h5 j hj).step s,h6,h7⟩
 ·intro x n sz hn;rw[hs.get] at hn
  split at hn
  ·simp at hn
  ·obtain ⟨b,c',e',h1,h2,h3,h4⟩:=h.tok x n sz hn;exact ⟨b,c',e',h1,h2,(Go.heap_alloc_old w _ (fF.1 h3).1).trans h3,h4⟩
 ·intro x hn;rw[hs.get] at hn
  split at hn
  ·simp at hn
  ·rename_i hne;have:=h.resv x hn;exact ⟨by simp only[qE];rw[ai hne];exact this.1,this.2⟩
 ·intro x hn;obtain ⟨h1,h2⟩:=hs.len x hn;have:=h.fresh x h1;exact ⟨by simp only[qE];rw[ai h2];exact this.1,this.2⟩
 ·intro x x' b h1 h2
  rcases hblk _ _ h1 with ⟨a1,a2⟩ | ⟨a1,a2⟩<;>rcases hblk _ _ h2 with ⟨b1,b2⟩ | ⟨b1,b2⟩
  ·exact h.inj _ _ _ a2 b2
  ·have:=(h.blk_lt a2).2;omega
  ·have:=(h.blk_lt b2).2;omega
  ·omega
 ·intro b off hw;have:=h.wrLt b off hw;simp;omega
 ·exact h.invS s
 ·intro b hw;have:=h.boxLt b hw;simp;omega
 ·intro x kk1 es hn;rw[hs.get] at hn
  split at hn
  ·rename_i he;simp only[bM,Ent.mp.injEq] at hn;obtain ⟨rfl,rfl⟩:=hn;refine ⟨w.heap.size,#[],0,by simp[qE,he],hB,heap_alloc_new w _,⟨aQ _,kW _,MapKept.stamped_empty 0,by simp,by simp,by simp,by simp⟩⟩
  ·obtain ⟨b,es',cl,h1,h2,h3,h4⟩:=h.mp x kk1 es hn;exact ⟨b,es',cl,s.loc _ _ h1,h2,(Go.heap_alloc_old w _ (fF.1 h3).1).trans h3,h4.step s⟩
theorem qnd (hm:MemR B w g m) (hB:B<=w.heap.size) {t e:Nat} {kk:KK} (qA:vu P t=some (kk,e)):nZ P B w g (Instr.makeMap t none) (.mref (az none m .resv).1) (az none m (.mp kk [])).2:=by
 obtain ⟨s,hm'⟩:=hm.alloc_mp hB kk (hm.slot (d:=none) (fun s h=>by cases h) (.mp kk []));refine ⟨_,_,_,?_,s,hm',.mref _ w.heap.size (by simp[qE])⟩;simp[Instr.makeMap,newObj]
 rfl
end
end Go.Ab
namespace Go.Ab
open Go.RowKit
section
variable [WInv] {C:Cfg} {B:Nat} {w:World} {g:G} {m:af}
def Al (P:Program) (B:Nat) (w:World) (g:G) (a:Act) (o:Oper) (v:AV) (m1:af):Prop:=
 ∀ (next:Act->World->Prop) (Q:Exit->Act->World->Prop),(∀ a1 v' w' g',a1.tmps=a.tmps->iW P a1 a->Step B w g w' g'->MemR B w' g' m1->V w' g' v v'->next (a1.put o.dst v') w')->o.wp P a w next Q
theorem Al.done {P:Program} {a:Act} {o:Oper} {v:AV} {m1:af} {s:Sem Value} (h:nZ P B w g s v m1) (hs:∀ w,(execOp a.eval o).run P w=(do pure (.value (<- s)):Sem Next).run P w):Al P B w g a o v m1:=
 fun next Q hn=>qp1 hs h fun v' w' g' h1 h2 h3=>hn a v' w' g' rfl (iW.refl _ _) h1 h2 h3
theorem Al.same {P:Program} {a:Act} {o:Oper} {v:AV} (hm:MemR B w g m) {s:Sem Value} (h:∃ v',s.run P w=.ok v' w/\V w g v v') (hs:∀ w,(execOp a.eval o).run P w=(do pure (.value (<- s)):Sem Next).run P w):Al P B w g a o v m:=
 Al.done (nZ.same hm h) hs
theorem qni {ρ:Operand->AV} {ρ':Operand->Value} (hρ:∀ x,V w g (ρ x) (ρ' x)) (xs:Array Operand) (cs:List AV) (vs:Array Value) (hl:cs.length=vs.size) (hv:∀ j,j < cs.length->V w g (cs.getD j .any) (vs.getD j undef)) :
  (xs.toList.map ρ++cs).length=(xs.map ρ'++vs).size/\∀ j,j < (xs.toList.map ρ++cs).length->V w g ((xs.toList.map ρ++cs).getD j .any) ((xs.map ρ'++vs).getD j undef):=by
 refine ⟨by simp[hl],fun j hj=>?_⟩;simp only[aS,jE,qn,Array.getElem?_append,bX,Array.length_toList,Array.size_map]
 by_cases h1:j < xs.size
 ·rw[an h1,an h1];simpa [h1] using hρ xs[j]
 ·rw[ai h1,ai h1];simp at hj;simpa [aS,jE] using hv (j - xs.size) (by omega)
theorem y8 {ρ:Operand->AV} {ρ':Operand->Value} (hρ:∀ x,V w g (ρ x) (ρ' x)) (x:Option Operand):qZ w g (x.map ρ) (x.map ρ'):=by
 cases x with
 | none=>trivial
 | some x=>exact hρ x
theorem qkb (hC:CfgOk C) {callI:Nat->List AV->af->OM} (hI:∀ f args m v m',callI f args m=some (v,m')->th C.P f args m v m'/\∃ fn,C.P.funcs[f]?=some fn/\fn.body.isSome)
  {R:Type} {fid:Nat} {d:Option Nat} {f:Nat} {args:List AV} {K:AV->af->Option R} {r:R} (h:j0 C fid (jG callI) callI d f args m K=some r) (hm:MemR B w g m) (hB:B<=w.heap.size) {vs:Array Value}
  (hl:args.length=vs.size) (hv:∀ j,j < args.length->V w g (args.getD j .any) (vs.getD j undef)) :
  ∃ v m1 fn,K v m1=some r/\C.P.funcs[f]?=some fn/\fn.body.isSome/\Calls C.P f vs w fun e w'=>∃ v' g',e=.returned v'/\Step B w g w' g'/\MemR B w' g' m1/\V w' g' v v':=by
 unfold j0 at h
 cases rA:C.libm f with
 | some hh=>
  rw[rA] at h
  cases d with
  | some s=>cases h
  | none=>
   simp only[bc] at h;obtain ⟨⟨v,m1⟩,hr,h⟩:=h;obtain ⟨⟨fn,h1,h2⟩,h3⟩:=hC.libm f hh rA;exact ⟨v,m1,fn,h,h1,h2,h3 args m v m1 hr B w g vs hm hB hl hv⟩
 | none=>
 rw[rA] at h;simp only at h
 split at h
 ·rename_i hh H3;simp only[bc] at h;obtain ⟨v,hr,h⟩:=h;obtain ⟨⟨fn,h1,h2⟩,h3⟩:=hC.lib f hh H3;exact ⟨v,m,fn,h,h1,h2,h3 args v hr m B w g vs hm hB hl hv⟩
 ·split at h
  ·split at h
   ·simp only[bc] at h;obtain ⟨⟨v,m1⟩,hr,h⟩:=h
    cases hz:C.frzc fid f with
    | true=>
     rw[hz] at hr;simp only[yi,bc] at hr;obtain ⟨⟨rs,l⟩,hf,hc⟩:=hr;obtain ⟨g1,s1,lQ,nc,ke⟩:=qkR hm hl hv hf;obtain ⟨h1,fn,h2,h3⟩:=hI _ _ _ _ _ hc;refine ⟨v,m1,fn,h,h2,h3,(h1 B w g1 vs lQ hB nc ke).mono ?_⟩;rintro e w' ⟨v',g',he,s,hm',hV⟩;exact ⟨v',g',he,s1.trans s,hm',hV⟩
    | false=>
    rw[hz] at hr;simp only at hr
    cases ht:C.thaw fid f with
    | false=>
     rw[ht] at hr;obtain ⟨h1,fn,h2,h3⟩:=hI _ _ _ _ _ hr;exact ⟨v,m1,fn,h,h2,h3,h1 B w g vs hm hB hl hv⟩
    | true=>
     rw[ht] at hr;simp only[Jr,bc,gP] at hr;obtain ⟨⟨rs,l⟩,hf,⟨v0,m0⟩,hc,⟨v1,m2⟩,mL,he⟩:=hr;simp only[dT] at he;obtain ⟨rfl,rfl⟩:=he;obtain ⟨_,fn,h2,h3⟩:=hI _ _ _ _ _ hc;exact ⟨v1,_,fn,h,h2,h3,qpA hm hB (fun args m v m' hh=>(hI _ _ _ _ _ hh).1) hl hv hf hc mL⟩
   ·cases h
  ·unfold aD at h;simp only[bc] at h;obtain ⟨⟨v,m1⟩,⟨⟨rs,l⟩,hf,hc⟩,h⟩:=h
   split at hc
   ·cases hc
   ·simp only[gP,dT] at hc;obtain ⟨v',hr,rfl,rfl⟩:=hc
    have hfn:∃ fn,C.P.funcs[f]?=some fn/\fn.body.isSome:=by
     unfold jG at hr;simp only[bc] at hr;obtain ⟨⟨v0,m0⟩,hc,_⟩:=hr;exact (hI _ _ _ _ _ hc).2
    obtain ⟨fn,h1,h2⟩:=hfn;exact ⟨v',_,fn,h,h1,h2,qog hm hB (fun args m v m' hh=>(hI _ _ _ _ _ hh).1) hl hv hf hr⟩
theorem qnR (hC:CfgOk C) {callI:Nat->List AV->af->OM} (hI:∀ f args m v m',callI f args m=some (v,m')->th C.P f args m v m'/\∃ fn,C.P.funcs[f]?=some fn/\fn.body.isSome)
  {R:Type} {fid:Nat} {d:Option Nat} {o:Oper} {ρ:Operand->AV} {K:AV->af->Option R} {r:R} {a:Act} (h:kE C fid (jG callI) callI d o ρ m K=some r) (hρ:∀ x,V w g (ρ x) (a.eval x)) (hm:MemR B w g m) (hB:B<=w.heap.size) (wC:nl o=true->∀ s,d=some s->m.get s=some .resv) :
  ∃ v m1,K v m1=some r/\Al C.P B w g a o v m1:=by
 unfold kE at h
 split at h
 ·rename_i x bB;exact ⟨_,_,h,.same (s:=pure (a.eval x)) hm ⟨_,rfl,hρ x⟩ fun w=>by simp[execOp,bB]⟩
 ·rename_i x bB;exact ⟨_,_,h,.same (s:=pure (a.eval x)) hm ⟨_,rfl,hρ x⟩ fun w=>by simp[execOp,bB]⟩
 ·rename_i c x y bB;simp only[bc] at h;obtain ⟨v,hv,h⟩:=h;exact ⟨_,_,h,.same hm (qof (hρ c) (hρ x) (hρ y) hv) fun w=>by simp[execOp,bB]⟩
 ·rename_i t bB
  split at h
  ·rename_i z hz;have hd:=wC (by simp[nl,bB]);exact ⟨_,_,h,.done (qhG hm hB hd hz) fun w=>by simp[execOp,bB]⟩
  ·cases h
 ·rename_i t x bB
  split at h
  ·simp only[bc] at h;obtain ⟨⟨v,m1⟩,hv,h⟩:=h;have hd:=wC (by simp[nl,bB]);exact ⟨_,_,h,.done (qjZ (t:=t) hm hB hd (hρ x) hv) fun w=>by simp[execOp,bB]⟩
  ·cases h
 ·rename_i t ps bB
  split at h
  ·rename_i gK
   split at h
   ·rename_i z l hz hl;simp only[bc] at h;obtain ⟨v,hv,h⟩:=h;exact ⟨_,_,h,.done (qj6 hm hρ gK hz hl hv) fun w=>by simp[execOp,bB]⟩
   ·cases h
  ·cases h
 ·rename_i t n ps bB
  split at h
  ·rename_i e he
   split at h
   ·rename_i sh hsh
    split at h
    ·rename_i mH;simp only[b7,tw,oq] at mH;obtain ⟨⟨c1,c2⟩,c3⟩:=mH;simp only[bc] at h;obtain ⟨v,hv,h⟩:=h
     have ht:C.P.underlying t=some (.slice e):=by
      unfold AD at he
      split at he
      ·simp at he;subst he;assumption
      ·cases he
     exact ⟨_,_,h,.done (qj4 hm hB hρ ht c1 c2 c3 hv) fun w=>by simp[execOp,bB]⟩
    ·cases h
   ·cases h
  ·cases h
 ·rename_i t x bB
  split at h
  ·rename_i sh hsh;simp only[bc] at h;obtain ⟨v,hv,h⟩:=h;exact ⟨_,_,h,.same hm (WS hm (hρ x) hv t hsh) fun w=>by simp[execOp,bB]⟩
  ·cases h
 ·rename_i t x y bB
  split at h
  ·rename_i sh hsh;simp only[bc] at h;obtain ⟨m1,hv,h⟩:=h
   refine ⟨_,_,h,fun next Q hn=>?_⟩
   obtain ⟨w',h1,h2,h3⟩:=qpg (P:=C.P) hm (hρ x) (hρ y) hsh hv;have hr:(execOp a.eval o).run C.P w=.ok .skip w':=by simp[execOp,bB,h1]
   unfold Oper.wp;rw[hr];exact hn a undef w' g rfl (iW.refl _ _) h2 h3 (.any _)
  ·cases h
 ·rename_i x bB;have hx:=hρ x;simp only[bc] at h;obtain ⟨v,hv,h⟩:=h;unfold iG at hv
  split at hv
  ·rename_i cs gV;simp only[bM] at hv;subst hv;rw[gV] at hx
   cases iu:a.eval x with
   | pointer p=>
    cases p with
    | some p=>
     refine ⟨_,_,h,.same (s:=pure (.pointer (some p))) hm ⟨_,rfl,by rw[iu] at hx;exact hx⟩ fun w=>by simp[execOp,bB,iu]⟩
    | none=>rw[iu] at hx;cases hx
   | _=>rw[iu] at hx;cases hx
  ·rename_i nm off gV;simp only[bM] at hv;subst hv;rw[gV] at hx
   cases iu:a.eval x with
   | pointer p=>
    cases p with
    | some p=>
     refine ⟨_,_,h,.same (s:=pure (.pointer (some p))) hm ⟨_,rfl,by rw[iu] at hx;exact hx⟩ fun w=>by simp[execOp,bB,iu]⟩
    | none=>rw[iu] at hx;cases hx
   | _=>rw[iu] at hx;cases hx
  ·rename_i f cs gV;simp only[bM] at hv;subst hv;rw[gV] at hx
   cases iu:a.eval x with
   | func fn fi cap=>
    rw[iu] at hx
    cases hx with
    | fn _ _ _ hl hv=>
     refine ⟨_,_,h,.same (s:=pure (.func (.func f) #[] cap)) hm ⟨_,rfl,.fn _ _ _ hl hv⟩ fun w=>by simp[execOp,bB,iu]⟩
   | _=>rw[iu] at hx;cases hx
  ·cases hv
 ·rename_i op t x y _ bB;simp only[bc] at h;obtain ⟨v,hv,h⟩:=h;exact ⟨_,_,h,.same hm (qjV op t x y (hρ x) (hρ y) hv) fun w=>by simp[execOp,bB]⟩
 ·rename_i op t x bB;simp only[bc] at h;obtain ⟨v,hv,h⟩:=h;exact ⟨_,_,h,.same hm (qpT op (hρ x) hv) fun w=>by simp[execOp,bB]⟩
 ·rename_i src dst x bB
  split at h
  ·rename_i k hk
   split at h
   ·rename_i hs;simp only[bc] at h;obtain ⟨v,hv,h⟩:=h;exact ⟨_,_,h,.same hm (qks (hρ x) hv src dst hk hs) fun w=>by simp[execOp,bB]⟩
   ·cases h
  ·cases h
 ·rename_i fn fi cs bB
  split at h
  ·rename_i f wD;have qlA:fi = #[]:=by simpa using wD
   subst qlA;refine ⟨_,_,h,.same (s:=pure (.func (.func f) #[] (cs.map a.eval))) hm ⟨_,rfl,.fn _ _ _ (by simp) fun j hj=>?_⟩ fun w=>by simp[execOp,bB,Instr.makeFunc]⟩;have gJ:j < cs.size:=by simpa using hj
   simpa [aS,jE,gJ] using hρ cs[j]
  ·cases h
 ·rename_i t l c bB
  split at h
  ·rename_i e he
   split at h
   ·rename_i sh z hsh hz
    split at h
    ·rename_i lO;simp only[bc] at h;obtain ⟨⟨v,m1⟩,hv,h⟩:=h
     have ht:C.P.underlying t=some (.slice e):=by
      unfold AD at he
      split at he
      ·simp at he;subst he;assumption
      ·cases he
     have hd:=wC (by simp[nl,bB])
     cases ka:C.tokm fid with
     | true=>rw[ka] at hv;exact ⟨_,_,h,.done (qne hm hB ht hsh lO hz (hρ l) (hρ c) hv) fun w=>by simp[execOp,bB]⟩
     | false=>rw[ka] at hv;exact ⟨_,_,h,.done (qng hm hB hd ht hsh lO hz (hρ l) (hρ c) hv) fun w=>by simp[execOp,bB]⟩
    ·cases h
   ·cases h
  ·cases h
 ·rename_i t x lo hi mx bB
  split at h
  ·rename_i e ht
   split at h
   ·rename_i sh hsh
    split at h
    ·rename_i lO;simp only[bc] at h;obtain ⟨v,hv,h⟩:=h;unfold nS at hv
     split at hv
     ·rename_i sh' z o' es hx
      split at hv
      ·rename_i hs;exact ⟨_,_,h,.same hm (qo5 (hx▸hρ x) (y8 hρ lo) (y8 hρ hi) (y8 hρ mx) hv t ht hsh lO hs) fun w=>by simp[execOp,bB]⟩
      ·cases hv
     ·rename_i nm off n sh' hx
      split at hv
      ·rename_i hs;subst hs
       cases mx with
       | none=>exact ⟨_,_,h,.same hm (qo4 (hx▸hρ x) (y8 hρ lo) (y8 hρ hi) hv t ht lO) fun w=>by simp[execOp,bB]⟩
       | some _=>simp[qK] at hv
      ·cases hv
     ·cases hv
    ·cases h
   ·cases h
  ·rename_i ht;simp only[bc] at h;obtain ⟨v,hv,h⟩:=h;unfold YW at hv
   split at hv
   ·rename_i s hx
    cases mx with
    | none=>exact ⟨_,_,h,.same hm (qo6 (hx▸hρ x) (y8 hρ lo) (y8 hρ hi) hv t ht) fun w=>by simp[execOp,bB]⟩
    | some _=>simp[qK] at hv
   ·cases hv
  ·cases h
 ·rename_i t x f bB
  split at h
  ·rename_i off sh hf;simp only[bc] at h;obtain ⟨v,hv,h⟩:=h;exact ⟨_,_,h,.same hm (qkL (hρ x) hv t f hf) fun w=>by simp[execOp,bB]⟩
  ·cases h
 ·rename_i t x f bB
  split at h
  ·rename_i off sh hf;simp only[bc] at h;obtain ⟨v,hv,h⟩:=h;exact ⟨_,_,h,.same hm (qkM (hρ x) hv t f hf) fun w=>by simp[execOp,bB]⟩
  ·cases h
 ·rename_i t x i bB
  split at h
  ·rename_i e ht
   split at h
   ·rename_i sh hsh
    split at h
    ·rename_i lO;simp only[bc] at h;obtain ⟨v,hv,h⟩:=h;exact ⟨_,_,h,.same hm (qmG (hρ x) (hρ i) hv t ht lO) fun w=>by simp[execOp,bB]⟩
    ·cases h
   ·cases h
  ·rename_i n e ht
   split at h
   ·rename_i sh hsh
    split at h
    ·rename_i lO;simp only[bc] at h;obtain ⟨v,hv,h⟩:=h;exact ⟨_,_,h,.same hm (qhS (hρ x) (hρ i) hv t ht lO) fun w=>by simp[execOp,bB]⟩
    ·cases h
   ·cases h
  ·cases h
 ·rename_i t x i bB
  split at h
  ·rename_i ht;simp only[bc] at h;obtain ⟨v,hv,h⟩:=h;exact ⟨_,_,h,.same hm (qmH (hρ x) (hρ i) hv t ht) fun w=>by simp[execOp,bB]⟩
  ·cases h
 ·rename_i t i bB;simp only[bc] at h;obtain ⟨v,hv,h⟩:=h;exact ⟨_,_,h,.same hm (qkJ (hρ t) hv) fun w=>by simp[execOp,bB]⟩
 ·rename_i c bB
  split at h
  ·rename_i f hc;simp only[bc] at h;obtain ⟨⟨g0,caps⟩,kK,h⟩:=h;unfold lH at kK
   split at kK
   ·rename_i f0 caps0 hf;simp only[bM,dT] at kK;obtain ⟨rfl,rfl⟩:=kK;have hx:=hρ f;rw[hf] at hx
    obtain ⟨cv,hev,hl,hv⟩:∃ cv,a.eval f=.func (.func f0) #[] cv/\caps0.length=cv.size/\∀ j,j < caps0.length->V w g (caps0.getD j .any) (cv.getD j undef):=by
     generalize a.eval f=y at hx
     cases hx with
     | fn _ _ vs hl hv=>exact ⟨vs,rfl,hl,hv⟩
    obtain ⟨q1,q2⟩:=qni hρ c.args caps0 cv hl hv;obtain ⟨v,m1,fn,hK,hfn,hbody,DD⟩:=qkb hC hI h hm hB q1 q2
    refine ⟨v,m1,hK,fun next Q hn=>?_⟩
    refine qp0 bB hc hev hfn (hC.name _ _ hfn) hbody DD ?_;rintro e w' ⟨v',g',rfl,s,hm',hV⟩;exact ⟨v',rfl,hn a v' w' g' rfl (iW.refl _ _) s hm' hV⟩
   ·cases kK
  ·rename_i b hc
   have one:∀ {x},c.args.toList.map ρ=[x]->∃ x',c.args.map a.eval = #[x']/\V w g x x':=by
    intro x kC
    match hca:c.args.toList,kC with
    | [p],kC=>
     simp at kC;have:c.args = #[p]:=by cases DC:c.args;simp_all
     exact ⟨a.eval p,by simp[this],kC▸hρ p⟩
   have two:∀ {x y},c.args.toList.map ρ=[x,y]->∃ x' y',c.args.map a.eval = #[x',y']/\V w g x x'/\V w g y y':=by
    intro x y kC
    match hca:c.args.toList,kC with
    | [p,q],kC=>
     simp at kC;have:c.args = #[p,q]:=by cases DC:c.args;simp_all
     exact ⟨a.eval p,a.eval q,by simp[this],kC.1▸hρ p,kC.2▸hρ q⟩
   unfold xW at h
   split at h
   ·rename_i x kC;obtain ⟨x',pY,hx⟩:=one kC
    split at h
    ·rename_i e ht;simp only[bc] at h ht;obtain ⟨v,hv,h⟩:=h;obtain ⟨t,vp,vq⟩:=ht;exact ⟨_,_,h,.same hm (WB hx hv c.argTypes t o.type vp ⟨e,vq⟩) fun w=>by simp[execOp,bB,resolve,hc,invoke,builtin,pY]⟩
    ·rename_i ht;simp only[bc] at h ht;obtain ⟨v,hv,h⟩:=h;obtain ⟨t,vp,vq⟩:=ht;exact ⟨_,_,h,.same hm (WB hx hv c.argTypes t o.type vp vq) fun w=>by simp[execOp,bB,resolve,hc,invoke,builtin,pY]⟩
    ·cases h
   ·rename_i x y kC;obtain ⟨x',y',pY,hx,hy⟩:=two kC;simp only[bc] at h;obtain ⟨v,hv,h⟩:=h;have:=Xg (P:=C.P) hx hy hv;simp only[bw] at this;exact ⟨_,_,h,.same hm this fun w=>by simp[execOp,bB,resolve,hc,invoke,builtin,pY,Builtin.max_]⟩
   ·rename_i x y kC;obtain ⟨x',y',pY,hx,hy⟩:=two kC;simp only[bc] at h;obtain ⟨v,hv,h⟩:=h;have:=Xg (P:=C.P) hx hy hv;simp only[jX,me] at this;exact ⟨_,_,h,.same hm this fun w=>by simp[execOp,bB,resolve,hc,invoke,builtin,pY,Builtin.min_]⟩
   ·rename_i x y kC;obtain ⟨x',y',pY,hx,hy⟩:=two kC
    split at h
    ·rename_i t t' ht wT
     split at h
     ·rename_i heq;subst heq
      split at h
      ·rename_i e he
       split at h
       ·rename_i sh hsh
        split at h
        ·rename_i mH;simp only[bc] at h;obtain ⟨⟨v,m1⟩,hv,h⟩:=h
         have D2:C.P.underlying t=some (.slice e):=by
          unfold AD at he
          split at he
          ·simp at he;subst he;assumption
          ·cases he
         have yt:=wC (by simp[nl,bB,hc]);have hd:=qhQ (P:=C.P) (ty:=o.type) hm hB yt D2 hsh mH hx hy hv;refine ⟨_,_,h,.done hd fun w=>?_⟩
         have Bg:Builtin.append_ c.argTypes o.type #[x',y']=Builtin.append_ #[t,t] o.type #[x',y']:=by
          unfold Builtin.append_;simp[ht,wT]
         simp[execOp,bB,resolve,hc,invoke,builtin,pY,Bg]
        ·cases h
       ·cases h
      ·cases h
     ·cases h
    ·cases h
   ·cases h
  ·cases h
 ·rename_i t n bB
  split at h
  ·split at h
   ·rename_i kk e qA;exact ⟨_,_,h,.done (qnd hm hB qA) fun w=>by simp[execOp,bB]⟩
   ·cases h
  ·cases h
 ·rename_i t x i ok bB
  split at h
  ·rename_i kk e qA
   split at h
   ·rename_i z hz;simp only[bc] at h;obtain ⟨⟨v,b⟩,hl,h⟩:=h;obtain ⟨v',hV,r1,r2⟩:=qm9 hm (hρ x) (hρ i) qA hz hl
    split at h
    ·exact ⟨_,_,h,.same hm ⟨_,r1,.tup _ _ rfl (fun j hj=>by
      match j,hj with
      | 0,_=>exact hV
      | 1,_=>exact .bool _)⟩ fun w=>by simp[execOp,bB]⟩
    ·exact ⟨_,_,h,.same hm ⟨_,r2,hV⟩ fun w=>by simp[execOp,bB]⟩
   ·cases h
  ·cases h
 ·rename_i t x i y bB
  split at h
  ·rename_i kk e qA;simp only[bc] at h;obtain ⟨m1,hu,h⟩:=h
   refine ⟨_,_,h,fun next Q hn=>?_⟩
   obtain ⟨w',h1,h2,h3⟩:=Zw hm (hρ x) (hρ i) (hρ y) qA hu;have hr:(execOp a.eval o).run C.P w=.ok .skip w':=by simp[execOp,bB,h1]
   unfold Oper.wp;rw[hr];exact hn a undef w' g rfl (iW.refl _ _) h2 h3 (.any _)
  ·cases h
 ·rename_i t x i y bB
  split at h
  ·rename_i kk e qA;simp only[bc] at h;obtain ⟨m1,hu,h⟩:=h
   refine ⟨_,_,h,fun next Q hn=>?_⟩
   obtain ⟨w',h1,h2,h3⟩:=Zw hm (hρ x) (hρ i) (hρ y) qA hu;have hr:(execOp a.eval o).run C.P w=.ok .skip w':=by simp[execOp,bB,h1]
   unfold Oper.wp;rw[hr];exact hn a undef w' g rfl (iW.refl _ _) h2 h3 (.any _)
  ·cases h
 ·rename_i c bB
  split at h
  ·rename_i fo hc
   split at h
   ·rename_i pY;simp only[bc] at h;obtain ⟨⟨f,cs⟩,kK,h⟩:=h
    split at h
    ·rename_i qlx
     refine ⟨_,_,h,fun next Q hn=>?_⟩
     have hf:=hρ fo;unfold lH at kK
     split at kK
     ·rename_i f' cs' hx;simp only[bM,dT] at kK;obtain ⟨rfl,rfl⟩:=kK;rw[hx] at hf;generalize yx:a.eval fo=fv at hf
      cases hf with
      | fn _ _ caps _ _=>
       have qlz:c.args = #[]:=by simpa using pY
       have hr:(execOp a.eval o).run C.P w=.ok (.defer { target:=.fn (.func f') caps,args:=#[] }) w:=by
        simp only[execOp,bB,resolve,hc,yx,Deferred.ofValue,qlz,Sem.run_bind,Sem.run_pure,Result.andThen_ok,Array.map_empty,Array.empty_append,Array.append_empty]
       unfold Oper.wp;rw[hr]
       exact hn { a with defers:={ target:=.fn (.func f') caps,args:=#[] } :: a.defers } undef w g rfl (fun hb d hd=>by
        rcases gE.1 hd with rfl | hd
        ·exact hC.ben _ qlx caps
        ·exact hb d hd) (Step.refl _ _ _) hm (.any _)
     ·cases kK
    ·cases h
   ·cases h
  ·cases h
 ·cases h
end
end Go.Ab
namespace Go.Ab
section
variable {R:Type} {C:Cfg} {fid:Nat} {callP:Nat->List AV->Option AV} {callI:Nat->List AV->af->OM}
def fT (C:Cfg) (fid:Nat) (callP:Nat->List AV->Option AV) (callI:Nat->List AV->af->OM) (d:Option Nat) (o:Oper) (ρ:Operand->AV) (m:af):OM:=kE C fid callP callI d o ρ m fun v m=>some (v,m)
theorem XG (d:Option Nat) (o:Oper) (ρ:Operand->AV) (m:af) (K:AV->af->Option R):kE C fid callP callI d o ρ m K=(fT C fid callP callI d o ρ m).bind fun r=>K r.1 r.2:=by
 unfold fT kE
 split<;>first
  | rfl
  | (simp only[CM,aa];done)
  | ((repeat' split)<;>first | rfl | (simp only[CM,aa];done) | skip)
 ·simp only[CM];congr 1;funext gc;unfold j0
  (repeat' split)<;>first | rfl | (simp only[CM,aa];done)
 ·unfold xW
  (repeat' split)<;>first | rfl | (simp only[CM,aa];done)
 ·simp only[CM];congr 1;funext gc;split<;>rfl
theorem Od {ρ ρ':Operand->AV} (xs:Array Operand) (h:∀ x∈xs,ρ x=ρ' x):xs.toList.map ρ=xs.toList.map ρ':=List.map_congr_left fun x hx=>h x (by simpa using hx)
theorem qnM {d:Option Nat} {o:Oper} {ρ ρ':Operand->AV} {m:af} (h:∀ x∈o.op.operands,ρ x=ρ' x):fT C fid callP callI d o ρ m=fT C fid callP callI d o ρ' m:=by
 unfold fT kE;cases bB:o.op<;>simp only[bB,Op.operands] at h<;>simp only[]
 case move x=>rw[h x (by simp)]
 case assign x=>rw[h x (by simp)]
 case pick c a b=>rw[h c (by simp),h a (by simp),h b (by simp)]
 case box t x=>rw[h x (by simp)]
 case build t ps=>
  have:ps.toList.mapM (fun p=>(y9 C.P t p.1).map fun f=>(f.1,f.2,ρ p.2))=ps.toList.mapM (fun p=>(y9 C.P t p.1).map fun f=>(f.1,f.2,ρ' p.2)):=by
   have sK:∀ p∈ps.toList,ρ p.2=ρ' p.2:=fun p hp=>h p.2 (by simp;exact ⟨p.1,by simpa using hp⟩);generalize ps.toList=l at sK
   induction l with
   | nil=>rfl
   | cons p l ih=>
    simp only[List.mapM_cons];rw[sK p (by simp),ih fun q hq=>sK q (by simp[hq])]
  rw[this]
 case buildSlice t n ps=>
  have:(ps.toList.map fun p=>ρ p.2)=ps.toList.map fun p=>ρ' p.2:=List.map_congr_left fun p hp=>h p.2 (by simp;exact ⟨p.1,by simpa using hp⟩);rw[this]
 case load t x=>rw[h x (by simp)]
 case store t x y=>rw[h x (by simp),h y (by simp)]
 case nilCheck x=>rw[h x (by simp)]
 case binOp op t x y ty=>rw[h x (by simp),h y (by simp)]
 case unOp op t x=>rw[h x (by simp)]
 case convert s t x=>rw[h x (by simp)]
 case makeFunc fn fi cs=>
  rw[Od cs fun x hx=>h x (by simp[hx])]
 case makeSlice t l c=>rw[h l (by simp),h c (by simp)]
 case slice t x lo hi mx=>
  have h1:lo.map ρ=lo.map ρ':=by cases lo with | none=>rfl | some y=>simp only[aR];rw[h y (by simp)]
  have h2:hi.map ρ=hi.map ρ':=by cases hi with | none=>rfl | some y=>simp only[aR];rw[h y (by simp)]
  have h3:mx.map ρ=mx.map ρ':=by cases mx with | none=>rfl | some y=>simp only[aR];rw[h y (by simp)]
  rw[h1,h2,h3,h x (by simp)]
 case fieldAddr t x f=>rw[h x (by simp)]
 case field t x f=>rw[h x (by simp)]
 case indexAddr t x i=>rw[h x (by simp),h i (by simp)]
 case index t x i=>rw[h x (by simp),h i (by simp)]
 case extract x i=>rw[h x (by simp)]
 case lookup t x i ok=>rw[h x (by simp),h i (by simp)]
 case mapUpdate t x i y=>rw[h x (by simp),h i (by simp),h y (by simp)]
 case insert t x i y=>rw[h x (by simp),h i (by simp),h y (by simp)]
 case defer c=>
  cases hc:c.callee with
  | value f=>
   simp only[Call.operands,hc] at h;simp only[];rw[h f (by simp)]
  | _=>rfl
 case call c=>
  cases hc:c.callee with
  | value f=>
   simp only[Call.operands,hc] at h;rw[Od c.args fun x hx=>h x (by simp[hx])];simp only[];rw[h f (by simp)]
  | builtin b=>
   simp only[Call.operands,hc] at h;rw[Od c.args fun x hx=>h x (by simp[hx])]
  | invoke r n=>rfl
def pS (m m':af):Prop:=(∀ nm o,m.obj? nm=some o->m'.obj? nm=some o)/\∀ nm kk es,m.get nm=some (.mp kk es)->m'.get nm=some (.mp kk es)
theorem pS.refl (m:af):pS m m:=⟨fun _ _ h=>h,fun _ _ _ h=>h⟩
theorem Oc {f f':AV->Option (AV×List Nat)} (h:∀ x r,f x=some r->f' x=some r):∀ (cs:List AV) r,eY f cs=some r->eY f' cs=some r
 | [],r,hr=>hr
 | c::cs,r,hr=>by
  simp only[eY,bc,gP] at hr ⊢;obtain ⟨x,hx,y,hy,rfl⟩:=hr;exact ⟨x,h _ _ hx,y,Oc h cs y hy,rfl⟩
theorem qk0 {m m':af} (h:pS m m'):∀ (k:Nat) (x:AV) r,bG m k x=some r->bG m' k x=some r:=by
 intro k
 induction k with
 | zero=>intro x r hr;simp[bG] at hr
 | succ k ih=>
  intro x r hr;have hm:=Oc ih
  cases x<;>simp only[bG] at hr ⊢<;>try exact hr
  ·simp only[bc] at hr ⊢;obtain ⟨o,ho,hr⟩:=hr;refine ⟨o,h.1 _ _ ho,?_⟩
   split at hr
   ·rename_i hc;rw[an hc];simp only[bc] at hr ⊢;obtain ⟨y,hy,hr⟩:=hr;exact ⟨y,hm _ _ hy,hr⟩
   ·cases hr
  ·simp only[bc] at hr ⊢;obtain ⟨o,ho,hr⟩:=hr;refine ⟨o,h.1 _ _ ho,?_⟩
   split at hr
   ·rename_i hc;rw[an hc];simp only[gP] at hr ⊢;obtain ⟨y,hy,hr⟩:=hr;exact ⟨y,hm _ _ hy,hr⟩
   ·cases hr
  all_goals
   simp only[gP] at hr ⊢;obtain ⟨y,hy,hr⟩:=hr;exact ⟨y,hm _ _ hy,hr⟩
theorem LO (x:Option AV) (m:af):(x.bind fun v=>some (v,m))=((x.bind fun v=>some (v,([]:af))).map fun r=>(r.1,m)):=by cases x<;>rfl
theorem XC {d:Option Nat} {o:Oper} {ρ:Operand->AV} (hc:jh o=.N) (m:af):fT C fid callP callI d o ρ m=(fT C fid callP callI d o ρ []).map fun r=>(r.1,m):=by
 unfold fT kE;unfold jh at hc
 cases bB:o.op<;>simp only[bB] at hc ⊢<;>first
  | (cases hc;done)
  | rfl
  | exact LO _ _
  | ((repeat' split)<;>first | rfl | exact LO _ _ | skip)
 ·rename_i c _ f p5;rw[p5] at hc;cases hc
 ·rename_i c _ b p5;rw[p5] at hc;unfold xW
  (repeat' split)<;>first | rfl | exact LO _ _ | skip
  all_goals (simp at hc)
theorem Bw {d:Option Nat} {o:Oper} {ρ:Operand->AV} {m m1:af} {v:AV} (hc:jh o=.N) (h:fT C fid callP callI d o ρ m=some (v,m1)):m1=m/\∀ m',fT C fid callP callI d o ρ m'=some (v,m'):=by
 rw[XC hc] at h;obtain ⟨r,hr,h⟩:=gP.1 h;simp only[dT] at h;obtain ⟨rfl,rfl⟩:=h;exact ⟨rfl,fun m'=>by rw[XC hc,hr];rfl⟩
theorem qno {m m':af} (hx:∀ nm kk es,m.get nm=some (.mp kk es)->m'.get nm=some (.mp kk es)) {kk:KK} {x:AV} {q:Nat×List (AV×AV)} (h:mg m kk x=some q):mg m' kk x=some q:=by
 unfold mg at h ⊢
 split at h
 ·split at h
  ·rename_i hg;rw[hx _ _ _ hg];exact h
  ·cases h
 ·cases h
theorem XF {s:Option Nat} {o:Oper} {ρ:Operand->AV} {m m1:af} {v:AV} {t:Nat} {x i:Operand} {ok:Bool} (bB:o.op=.lookup t x i ok) (h:fT C fid callP callI s o ρ m=some (v,m1)) :
  m1=m/\∀ s' m',(∀ nm kk es,m.get nm=some (.mp kk es)->m'.get nm=some (.mp kk es))->fT C fid callP callI s' o ρ m'=some (v,m'):=by
 unfold fT kE at h ⊢;simp only[bB] at h ⊢
 split at h
 ·rename_i kk e qA
  split at h
  ·rename_i z hz;simp only[bc] at h;obtain ⟨r,hr,h⟩:=h;unfold o8 at hr;simp only[bc] at hr;obtain ⟨q,hq,hr⟩:=hr
   have hm:m1=m:=by
    split at h<;>(simp only[bM,dT] at h;exact h.2.symm)
   refine ⟨hm,fun s' m' hx=>?_⟩;unfold o8;rw[qno hx hq];simp only[aa,hr];split at h<;>(simp only[bM,dT] at h;rw[h.1])
  ·cases h
 ·cases h
theorem OF {s:Nat} {o:Oper} {ρ:Operand->AV} {m m1:af} {v:AV} (hc:jh o=.L) (h:fT C fid callP callI (some s) o ρ m=some (v,m1)):m1=m/\∀ s' m',pS m m'->fT C fid callP callI (some s') o ρ m'=some (v,m'):=by
 unfold fT kE at h ⊢;unfold jh at hc
 cases bB:o.op<;>simp only[bB] at hc h ⊢<;>first | (cases hc;done) | skip
 case load t x=>
  split at h
  ·rename_i sh hsh;simp only[bc,bM,dT] at h;obtain ⟨u,hu,rfl,rfl⟩:=h;refine ⟨rfl,fun s' m' hx=>?_⟩
   have:aj sh m' (ρ x)=some u:=by
    unfold aj at hu ⊢
    split at hu
    ·exact hu
    ·simp only[bc] at hu ⊢;obtain ⟨o,ho,hu⟩:=hu;exact ⟨o,hx.1 _ _ ho,hu⟩
    ·cases hu
   simp[this]
  ·cases h
 case lookup t x i ok=>
  have h':fT C fid callP callI (some s) o ρ m=some (v,m1):=by unfold fT kE;simp only[bB];exact h
  obtain ⟨h1,h2⟩:=XF bB h';refine ⟨h1,fun s' m' hx=>?_⟩;have:=h2 (some s') m' hx.2;unfold fT kE at this;simpa only[bB] using this
 case call c=>
  split at hc<;>first | (cases hc;done) | skip
  rename_i f oU;simp only[oU] at h ⊢;simp only[bc] at h ⊢;obtain ⟨gc,AX,h⟩:=h
  have key:m1=m/\∀ s' m',pS m m'->j0 C fid callP callI (some s') gc.1 (List.map ρ c.args.toList++gc.2) m' (fun v m=>some (v,m))=some (v,m'):=by
   unfold j0 at h ⊢
   cases rA:C.libm gc.1 with
   | some hh=>rw[rA] at h;cases h
   | none=>
   rw[rA] at h;simp only at h ⊢
   split at h
   ·rename_i hh H3;simp only[bc,bM,dT] at h;obtain ⟨u,hu,rfl,rfl⟩:=h;exact ⟨rfl,fun s' m' hx=>by simp[H3,hu]⟩
   ·rename_i H3
    split at h
    ·simp at h
    ·rename_i qqa;simp only[bc] at h;obtain ⟨⟨u,mu⟩,hp,h⟩:=h;simp only[bM,dT] at h;obtain ⟨rfl,rfl⟩:=h;unfold aD at hp;simp only[bc] at hp;obtain ⟨⟨rs,l⟩,hf,hp⟩:=hp
     split at hp
     ·cases hp
     ·rename_i hk;simp only[gP,dT] at hp;obtain ⟨u',hu,rfl,rfl⟩:=hp;have hl:l=[]:=by simpa using hk
      subst hl;refine ⟨rfl,fun s' m' hx=>?_⟩;have:=Oc (qk0 hx j6) _ _ hf
      have Ia:aD callP (some s') m' gc.1 (List.map ρ c.args.toList++gc.2)=some (u',m'):=by
       unfold aD;simp only[this,aa,List.isEmpty_nil,kS,Bool.and_false,jX,me,hu]
       rfl
      rw[Ia]
      rfl
  exact ⟨key.1,fun s' m' hx=>⟨gc,AX,key.2 s' m' hx⟩⟩
theorem vz (s:Nat) (m:af) (e:Ent):az (some s) m e=(s,m.set s (some e)):=rfl
theorem II {s:Nat} {o:Oper} {ρ:Operand->AV} {m m1:af} {v:AV} (hc:jh o=.A) (h:fT C fid callP callI (some s) o ρ m=some (v,m1)):∃ e,m1=m.set s (some e)/\∀ m',fT C fid callP callI (some s) o ρ m'=some (v,m'.set s (some e)):=by
 unfold fT kE at h ⊢;unfold jh at hc
 cases bB:o.op<;>simp only[bB] at hc h ⊢<;>first | (cases hc;done) | skip
 case alloc t=>
  split at h
  ·rename_i z hz;simp only[vz,bM,dT] at h;obtain ⟨rfl,rfl⟩:=h;exact ⟨_,rfl,fun m'=>rfl⟩
  ·cases h
 case box t x=>
  split at h
  ·rename_i sh hsh;simp only[bc] at h;obtain ⟨r,hr,h⟩:=h;unfold dI at hr ⊢
   split at hr
   ·rename_i bg;simp only[vz,bM] at hr;subst hr;simp only[bM,dT] at h;obtain ⟨rfl,rfl⟩:=h;exact ⟨_,rfl,fun m'=>by simp[bg,vz]⟩
   ·cases hr
  ·cases h
 case makeSlice t l c=>
  split at h
  ·rename_i e he
   split at h
   ·rename_i sh z hsh hz
    split at h
    ·rename_i lO;simp only[bc] at h;obtain ⟨r,hr,h⟩:=h;simp only[bM,dT] at h;obtain ⟨rfl,rfl⟩:=h
     cases ka:C.tokm fid with
     | true=>rw[ka] at hr;simp[yW] at hr
     | false=>
     rw[ka] at hr;simp only at hr;unfold iP at hr
     split at hr
     ·rename_i kl l' kc c' hl tG
      split at hr
      ·rename_i mH
       split at hr
       ·rename_i heq;simp only[vz,bM] at hr;subst hr;exact ⟨_,rfl,fun m'=>by rw[an lO];simp only[iP,hl,tG,an mH,an heq,vz,aa]⟩
       ·rename_i hne
        split at hr
        ·rename_i h0;simp only[vz,bM] at hr;subst hr;exact ⟨_,rfl,fun m'=>by rw[an lO];simp only[iP,hl,tG,an mH,ai hne,an h0,vz,aa]⟩
        ·cases hr
      ·cases hr
     ·cases hr
    ·cases h
   ·cases h
  ·cases h
 case call c=>
  split at hc<;>cases hc
theorem Mg {m:af} {s:Nat} {e:Option Ent} (h:∀ bx cs,m.get s≠some (.obj bx cs)) (h':∀ kk es,m.get s≠some (.mp kk es)):pS m (m.set s e):=by
 refine ⟨?_,fun nm kk es hg=>by
  rw[gF,ai (fun he:nm=s=>by subst he;exact h' kk es hg)];exact hg⟩
 intro nm o ho;unfold af.obj? at ho ⊢;rw[gF]
 by_cases hs:nm=s
 ·subst hs
  split at ho
  ·rename_i hh;exact absurd hh (h _ _)
  ·cases ho
 ·rw[ai hs];exact ho
theorem qnL {s:Nat} {o:Oper} {ρ:Operand->AV} {m m1:af} {v:AV} (hc:jh o=.Ap) (hs:m.get s=some .resv) (h:fT C fid callP callI (some s) o ρ m=some (v,m1)):pS m m1:=by
 have tQ:∀ e,pS m (m.set s e):=fun e=>Mg (fun bx cs hh=>by rw[hs] at hh;cases hh) (fun kk es hh=>by rw[hs] at hh;cases hh);unfold fT kE at h;unfold jh at hc
 cases bB:o.op<;>simp only[bB] at hc h<;>first | (cases hc;done) | skip
 case call c=>
  split at hc<;>first | (cases hc;done) | skip
  rename_i oU;simp only[oU] at h;unfold xW at h;split at h
  all_goals first | (rename_i hb _;cases hb;done) | skip
  ·split at h
   ·split at h
    ·split at h
     ·split at h
      ·split at h
       ·simp only[bc,bM,dT] at h;obtain ⟨r,hr,rfl,rfl⟩:=h;unfold b8 at hr
        split at hr
        ·split at hr
         ·simp only[bM] at hr;subst hr;exact pS.refl m
         ·split at hr
          ·split at hr
           ·split at hr
            ·cases hr
            ·split at hr
             ·split at hr<;>(simp only[vz,bM] at hr;subst hr;exact tQ _)
             ·cases hr
            ·split at hr
             ·split at hr
              ·rename_i nm e' k sz aU
               split at hr
               ·simp only[bM] at hr;subst hr;exact Mg (fun bx cs hh=>by rw[aU] at hh;cases hh) (fun kk es hh=>by rw[aU] at hh;cases hh)
               ·cases hr
              ·cases hr
             ·cases hr
           ·cases hr
          ·cases hr
        ·simp[sc] at hr
       ·cases h
      ·cases h
     ·cases h
    ·cases h
   ·cases h
  ·cases h
end
end Go.Ab
namespace Go.Ab
section
variable {R:Type} (C:Cfg) (fid:Nat) (callP:Nat->List AV->Option AV) (callI:Nat->List AV->af->OM)
def gX (base:Option Nat) (ops:Array Oper) (i:Nat) (o:Oper) (ts:List AV) (m:af):OM:=match o.guard with
 | none=>fT C fid callP callI (base.map (· + fL ops i)) o (ev ts) m
 | some (j,want)=>match (ops[j]?).bind (·.dst) with
  | none=>none
  | some g=>match xf ops ts j with
   | true=>match ts.getD g .any with
    | .tup cs=>match cs with
     | []=>some (.tup [],m)
     | _::_=>none
    | _=>none
   | false=>match ts.getD g .any with
    | .bool b=>if b=want then fT C fid callP callI (base.map (· + fL ops i)) o (ev ts) m else some (.tup [],m)
    | _=>none
def fH (base:Option Nat) (ops:Array Oper) (i:Nat) (st:St):Option St:=match ops[i]? with
 | none=>none
 | some o=>(gX C fid callP callI base ops i o st.tmps st.mem).map fun r=>⟨gj st.tmps o.dst r.1,r.2⟩
def ig (base:Option Nat) (ops:Array Oper):List Nat->St->Option St
 | [],st=>some st
 | i::l,st=>(fH C fid callP callI base ops i st).bind (ig base ops l)
end
section
variable {R:Type} {C:Cfg} {fid:Nat} {callP:Nat->List AV->Option AV} {callI:Nat->List AV->af->OM}
theorem qoV {ts:List AV} {g:Nat} {v:AV} (h:ts.getD g .any=v) (hv:v≠.any):ts.set g v=ts:=by
 rcases qW g ts.length with hl | hl
 ·rw[aS,bD hl] at h;simp only[dh] at h;rw[<- h];exact List.set_getElem_self hl
 ·rw[aS,n5 hl] at h;exact absurd h.symm hv
theorem sZ (base:Option Nat) (ops:Array Oper):∀ (l:List Nat) (st:St) (K:St->Option R),mq C fid callP callI base ops l st K=(ig C fid callP callI base ops l st).bind K
 | [],st,K=>rfl
 | i::l,st,K=>by
  have ih:=sZ base ops l;simp only[mq,ig,fH]
  cases hi:ops[i]? with
  | none=>rfl
  | some o=>
   simp only[]
   cases hg:o.guard with
   | none=>
    simp only[gX,hg];rw[XG];simp only[ih]
    cases fT C fid callP callI (base.map (· + fL ops i)) o (ev st.tmps) st.mem with
    | none=>rfl
    | some r=>rfl
   | some jw=>
    obtain ⟨j,want⟩:=jw;simp only[gX,hg]
    cases hd:(ops[j]?).bind (·.dst) with
    | none=>rfl
    | some g=>
     simp only[];generalize hv:st.tmps.getD g .any=v
     cases xf ops st.tmps j with
     | true=>
      simp only[]
      cases v with
      | tup cs=>
       cases cs with
       | nil=>simp only[ih];rfl
       | cons c cs=>rfl
      | _=>rfl
     | false=>
     simp only[]
     cases v with
     | bool b=>
      have hs:=qoV hv (by simp)
      have oE:∀ b0,st.tmps.set g (.bool b0)=st.tmps->(kE C fid callP callI (base.map (· + fL ops i)) o (ev (st.tmps.set g (.bool b0))) st.mem fun v m=>mq C fid callP callI base ops l ⟨gj (st.tmps.set g (.bool b0)) o.dst v,m⟩ K) =
        (((fT C fid callP callI (base.map (· + fL ops i)) o (ev st.tmps) st.mem).map fun r=>(⟨gj st.tmps o.dst r.1,r.2⟩:St)).bind (ig C fid callP callI base ops l)).bind K:=by
       intro b0 nG;rw[nG,XG];simp only[ih]
       cases fT C fid callP callI (base.map (· + fL ops i)) o (ev st.tmps) st.mem with
       | none=>rfl
       | some r=>rfl
      have D1:∀ b0,st.tmps.set g (.bool b0)=st.tmps->mq C fid callP callI base ops l ⟨gj (st.tmps.set g (.bool b0)) o.dst (.tup []),st.mem⟩ K =
        (((some (AV.tup [],st.mem)).map fun r=>(⟨gj st.tmps o.dst r.1,r.2⟩:St)).bind (ig C fid callP callI base ops l)).bind K:=by
       intro b0 nG;rw[nG];simp only[ih]
       rfl
      cases want<;>cases b
      ·exact oE false hs
      ·exact D1 true hs
      ·exact D1 false hs
      ·exact oE true hs
     | _=>cases want<;>rfl
theorem Md {ts ts':List AV} (x:Operand) (h:∀ t,x=.tmp t->ts.getD t .any=ts'.getD t .any):ev ts x=ev ts' x:=by
 cases x with
 | tmp t=>exact h t rfl
 | _=>rfl
theorem y7 {base:Option Nat} {ops:Array Oper} {i:Nat} {o:Oper} {ts ts':List AV} {m:af} (h:∀ t∈pK ops o,ts.getD t .any=ts'.getD t .any):gX C fid callP callI base ops i o ts m=gX C fid callP callI base ops i o ts' m:=by
 have h1:fT C fid callP callI (base.map (· + fL ops i)) o (ev ts) m=fT C fid callP callI (base.map (· + fL ops i)) o (ev ts') m:=by
  refine qnM fun x hx=>Md x fun t ht=>h t ?_;unfold pK;refine il.2 (.inl (List.mem_filterMap.2 ⟨x,by simpa using hx,?_⟩));rw[ht]
 unfold gX
 cases hg:o.guard with
 | none=>exact h1
 | some jw=>
  obtain ⟨j,want⟩:=jw;simp only[]
  cases hd:(ops[j]?).bind (·.dst) with
  | none=>rfl
  | some g=>
   simp only[];have h2:ts.getD g .any=ts'.getD g .any:=h g (by unfold pK;rw[hg];simp[hd])
   have h3:xf ops ts j=xf ops ts' j:=by
    unfold xf
    cases hq:(ops[j]?).bind (·.guard) with
    | none=>rfl
    | some jw'=>
     obtain ⟨j',w'⟩:=jw';simp only[]
     cases kJ:(ops[j']?).bind (·.dst) with
     | none=>rfl
     | some g'=>
      simp only[];have h4:ts.getD g' .any=ts'.getD g' .any:=h g' (by unfold pK;rw[hg];simp[hq,kJ]);rw[h4]
   rw[h2,h1,h3]
theorem vG {ts:List AV} {d:Option Nat} {v:AV} {t:Nat} (h:d≠some t):(gj ts d v).getD t .any=ts.getD t .any:=by
 cases d with
 | none=>rfl
 | some d=>
  have:d≠t:=fun he=>h (by rw[he]);simp[gj,aS,CB,this]
theorem O5 {ts:List AV} {d e:Option Nat} {v u:AV} (h:d=none\/d≠e):gj (gj ts d v) e u=gj (gj ts e u) d v:=by
 cases d with
 | none=>rfl
 | some d=>
  cases e with
  | none=>rfl
  | some e=>
   have:d≠e:=fun he=>by rcases h with h | h<;>simp_all
   exact List.set_comm _ _ this
theorem oM {base:Option Nat} {ops:Array Oper} {i:Nat} {o:Oper} {ts:List AV} {m m1:af} {v:AV} (h:gX C fid callP callI base ops i o ts m=some (v,m1)) :
  (fT C fid callP callI (base.map (· + fL ops i)) o (ev ts) m=some (v,m1)/\∀ m',gX C fid callP callI base ops i o ts m'=fT C fid callP callI (base.map (· + fL ops i)) o (ev ts) m') \/
  (m1=m/\∀ m',gX C fid callP callI base ops i o ts m'=some (v,m')):=by
 unfold gX at h ⊢
 cases hg:o.guard with
 | none=>simp only[hg] at h;exact .inl ⟨h,fun _=>rfl⟩
 | some jw=>
  obtain ⟨j,want⟩:=jw;simp only[hg] at h ⊢
  cases hd:(ops[j]?).bind (·.dst) with
  | none=>simp[hd] at h
  | some g=>
   simp only[hd] at h ⊢
   cases D0:xf ops ts j with
   | true=>
    simp only[D0] at h ⊢
    cases hv:ts.getD g .any with
    | tup cs=>
     simp only[hv] at h ⊢
     cases cs with
     | nil=>
      simp only[bM,dT] at h;obtain ⟨rfl,rfl⟩:=h;exact .inr ⟨rfl,fun m'=>rfl⟩
     | cons c cs=>simp only at h;cases h
    | _=>simp only[hv] at h;cases h
   | false=>
   simp only[D0] at h ⊢
   cases hv:ts.getD g .any with
   | bool b=>
    simp only[hv] at h ⊢
    by_cases hb:b=want
    ·rw[an hb] at h;exact .inl ⟨h,fun _=>by rw[an hb]⟩
    ·rw[ai hb] at h;simp only[bM,dT] at h;obtain ⟨rfl,rfl⟩:=h;exact .inr ⟨rfl,fun m'=>by rw[ai hb]⟩
   | _=>simp only[hv] at h;cases h
theorem qnO {s:Nat} {o:Oper} {ρ:Operand->AV} {m m1:af} {v:AV} (h:fT C fid callP callI (some s) o ρ m=some (v,m1)) (x:Nat) (hx:m.get x=some .resv):(x=s/\nl o=true)\/m1.get x=some .resv:=by
 have tR:∀ e,nl o=true->(x=s/\nl o=true)\/af.get (m.set s e) x=some .resv:=fun e lp=>by
  by_cases D7:x=s
  ·exact .inl ⟨D7,lp⟩
  ·exact .inr (by rw[gF,ai D7];exact hx)
 cases hc:jh o with
 | N=>obtain ⟨rfl,_⟩:=Bw hc h;exact .inr hx
 | L=>obtain ⟨rfl,_⟩:=OF hc h;exact .inr hx
 | A=>
  obtain ⟨e,rfl,_⟩:=II hc h;refine tR _ ?_;unfold jh at hc;unfold nl
  cases bB:o.op<;>simp only[bB] at hc<;>first | rfl | (cases hc;done) | (split at hc<;>cases hc)
 | Ap=>
  have lp:nl o=true:=by
   unfold jh at hc;unfold nl
   cases bB:o.op<;>simp only[bB] at hc<;>first | (cases hc;done) | skip
   split at hc<;>first | (cases hc;done) | skip
   rename_i oU;simp[oU]
  unfold fT kE at h;unfold jh at hc
  cases bB:o.op<;>simp only[bB] at hc h<;>first | (cases hc;done) | skip
  case call c=>
   split at hc<;>first | (cases hc;done) | skip
   rename_i oU;simp only[oU] at h;unfold xW at h;split at h
   all_goals first | (rename_i hb _;cases hb;done) | skip
   ·split at h
    ·split at h
     ·split at h
      ·split at h
       ·split at h
        ·simp only[bc,bM,dT] at h;obtain ⟨r,hr,rfl,rfl⟩:=h;unfold b8 at hr
         split at hr
         ·split at hr
          ·simp only[bM] at hr;subst hr;exact .inr hx
          ·split at hr
           ·split at hr
            ·split at hr
             ·cases hr
             ·split at hr
              ·split at hr<;>(simp only[vz,bM] at hr;subst hr;exact tR _ lp)
              ·cases hr
             ·split at hr
              ·split at hr
               ·rename_i nm e' k sz aU
                split at hr
                ·simp only[bM] at hr;subst hr;refine .inr ?_;simp only[];rw[gF,ai (fun he=>by subst he;rw[aU] at hx;cases hx)];exact hx
                ·cases hr
               ·cases hr
              ·cases hr
            ·cases hr
           ·cases hr
         ·simp[sc] at hr
        ·cases h
       ·cases h
      ·cases h
     ·cases h
    ·cases h
   ·cases h
 | W=>
  unfold fT kE at h;unfold jh at hc
  cases bB:o.op<;>simp only[bB] at hc h<;>first | (cases hc;done) | (cases h;done) | skip
  case store t y z=>
   split at h
   ·rename_i sh hsh;simp only[bc,bM,dT] at h;obtain ⟨m2,fU,rfl,rfl⟩:=h;unfold aL at fU
    split at fU
    ·rename_i nm off _;simp only[bc] at fU;obtain ⟨ob,yI,fU⟩:=fU
     split at fU
     ·split at fU
      ·simp only[bM] at fU;subst fU;refine .inr ?_
       rw[gF,ai (fun he=>by
        subst he;unfold af.obj? at yI;rw[hx] at yI
        cases yI)]
       exact hx
      ·cases fU
     ·cases fU
    ·cases fU
   ·cases h
  case mapUpdate t y i z=>
   split at h
   ·rename_i kk e _;simp only[bc,bM,dT] at h;obtain ⟨m2,hu,rfl,rfl⟩:=h;simp only[kQ,bc] at hu;obtain ⟨⟨nm,es⟩,lr,hu⟩:=hu;simp only at hu
    split at hu
    ·simp only[bM] at hu;subst hu;refine .inr ?_
     rw[gF,ai (fun he=>by
      subst he;unfold mg at lr
      split at lr
      ·split at lr
       ·rename_i hg
        split at lr
        ·simp only[bM,dT] at lr;obtain ⟨rfl,rfl⟩:=lr;rw[hx] at hg;cases hg
        ·cases lr
       ·cases lr
      ·cases lr)]
     exact hx
    ·cases hu
   ·cases h
  case insert t y i z=>
   split at h
   ·rename_i kk e _;simp only[bc,bM,dT] at h;obtain ⟨m2,hu,rfl,rfl⟩:=h;simp only[kQ,bc] at hu;obtain ⟨⟨nm,es⟩,lr,hu⟩:=hu;simp only at hu
    split at hu
    ·simp only[bM] at hu;subst hu;refine .inr ?_
     rw[gF,ai (fun he=>by
      subst he;unfold mg at lr
      split at lr
      ·split at lr
       ·rename_i hg
        split at lr
        ·simp only[bM,dT] at lr;obtain ⟨rfl,rfl⟩:=lr;rw[hx] at hg;cases hg
        ·cases lr
       ·cases lr
      ·cases lr)]
     exact hx
    ·cases hu
   ·cases h
  case defer c=>
   split at h
   ·split at h
    ·simp only[bc] at h;obtain ⟨gc,_,h⟩:=h
     split at h
     ·simp only[bM,dT] at h;rw[<- h.2];exact .inr hx
     ·cases h
    ·cases h
   ·cases h
  case call c=>
   split at hc<;>first | (cases hc;done) | skip
   rename_i qlW H7 qlX qlY qlZ
   split at h
   ·rename_i f oU;exact absurd oU (qlZ f)
   ·rename_i b oU;unfold xW at h
    split at h
    ·exact absurd oU qlW
    ·exact absurd oU H7
    ·exact absurd oU qlX
    ·exact absurd oU qlY
    ·cases h
   ·cases h
theorem Ym {ops:Array Oper} {i j:Nat} {x y:Oper} (hi:ops[i]?=some x) (hj:ops[j]?=some y) (hmi:nl x=true) (Ni:nl y=true) (hne:i≠j):fL ops i≠fL ops j:=by
 have key:∀ i j x,i < j->ops[i]?=some x->nl x=true->fL ops i < fL ops j:=by
  intro i j x hlt hi hm
  have b6:i < ops.toList.length:=by
   have:=(fF.1 hi).1;simpa using this
  have h1:fL ops (i+1)=fL ops i+1:=by
   unfold fL
   have he:ops.toList[i]=x:=by
    have:=(fF.1 hi).2;simpa using this
   rw[n7 b6,List.filter_append,aI,he];simp[hm]
  have h2:fL ops (i+1)<=fL ops j:=by
   unfold fL;have:ops.toList.take (i+1)=(ops.toList.take j).take (i+1):=by rw[List.take_take];congr 1;omega
   rw[this];exact List.Sublist.length_le ((List.take_sublist _ _).filter _)
  omega
 rcases Nat.lt_or_gt_of_ne hne with h | h
 ·exact Nat.ne_of_lt (key i j x h hi hmi)
 ·exact Nat.ne_of_gt (key j i y h hj Ni)
def uo (ops:Array Oper) (b:Nat) (m:af) (l:List Nat):Prop:=∀ i∈l,∀ o,ops[i]?=some o->nl o=true->m.get (b+fL ops i)=some .resv
theorem ta {base:Option Nat} {ops:Array Oper} {i:Nat} {st s1:St} (h:fH C fid callP callI base ops i st=some s1):∃ o v m1,ops[i]?=some o/\gX C fid callP callI base ops i o st.tmps st.mem=some (v,m1)/\s1=⟨gj st.tmps o.dst v,m1⟩:=by
 unfold fH at h
 cases hi:ops[i]? with
 | none=>simp[hi] at h
 | some o=>
  simp only[hi] at h;obtain ⟨⟨v,m1⟩,hr,rfl⟩:=gP.1 h;exact ⟨o,v,m1,rfl,hr,rfl⟩
theorem Jf {b:Nat} {ops:Array Oper} {j:Nat} {st s1:St} {l:List Nat} (h:fH C fid callP callI (some b) ops j st=some s1) (hk:uo ops b st.mem l) (hj:j∉l):uo ops b s1.mem l:=by
 obtain ⟨o,v,m1,ho,hr,rfl⟩:=ta h;intro i hi x hx hm;have tQ:=hk i hi x hx hm
 rcases oM hr with ⟨hf,_⟩ | ⟨rfl,_⟩
 ·rcases qnO (s:=b+fL ops j) hf _ tQ with ⟨he,oX⟩ | h
  ·exact absurd (by omega:fL ops i=fL ops j) (Ym hx ho hm oX (fun he=>hj (he▸hi)))
  ·exact h
 ·exact tQ
theorem Hl {ops:Array Oper} {x y:Oper} (h:wa ops x y=true):(∀ d,x.dst=some d->d∉pK ops y)/\(∀ d,y.dst=some d->d∉pK ops x)/\(x.dst=none\/x.dst≠y.dst):=by
 unfold wa at h;simp only[b7] at h
 refine ⟨fun d hd=>?_,fun d hd=>?_,?_⟩
 ·rw[hd] at h;simp at h;exact h.1.1
 ·rw[hd] at h;simp at h;exact h.2
 ·cases hx:x.dst with
  | none=>exact .inl rfl
  | some d=>
   rw[hx] at h;simp at h;exact .inr fun he=>h.1.2 he.symm
theorem N7 {x y:Oper} (h:jh x≠.L):Ef x y=false:=by
 unfold Ef
 split
 ·rename_i bB;exact absurd (by unfold jh;simp only[bB]) h
 ·rfl
theorem qnP {s:Option Nat} {o:Oper} {ρ:Operand->AV} {m m1:af} {v:AV} {t:Nat} {x y:Operand} (bB:o.op=.store t x y) (h:fT C fid callP callI s o ρ m=some (v,m1)) :
  ∀ nm kk es,m.get nm=some (.mp kk es)->m1.get nm=some (.mp kk es):=by
 unfold fT kE at h;simp only[bB] at h
 split at h
 ·simp only[bc,bM,dT] at h;obtain ⟨m2,fU,rfl,rfl⟩:=h;unfold aL at fU
  split at fU
  ·rename_i nm0 off _;simp only[bc] at fU;obtain ⟨ob,yI,fU⟩:=fU
   split at fU
   ·split at fU
    ·simp only[bM] at fU;subst fU;intro nm kk es hg
     rw[gF,ai (fun he=>by
      subst he;unfold af.obj? at yI;rw[hg] at yI
      cases yI)]
     exact hg
    ·cases fU
   ·cases fU
  ·cases fU
 ·cases h
theorem swap {b:Nat} {ops:Array Oper} {i j:Nat} {st s1 s2:St} {x y:Oper} (hx:ops[i]?=some x) (hy:ops[j]?=some y) (hne:i≠j) (bg:xg ops x y=true) (hk:uo ops b st.mem [i,j])
  (h1:fH C fid callP callI (some b) ops i st=some s1) (h2:fH C fid callP callI (some b) ops j s1=some s2):∃ s1',fH C fid callP callI (some b) ops j st=some s1'/\fH C fid callP callI (some b) ops i s1'=some s2:=by
 obtain ⟨x',vi,mi,iu,oD,rfl⟩:=ta h1;obtain rfl:x=x':=by simpa [hx] using iu
 obtain ⟨y',vj,mj,yO,kB,rfl⟩:=ta h2;obtain rfl:y=y':=by simpa [hy] using yO
 unfold xg at bg;simp only[b7] at bg;obtain ⟨tH,uV⟩:=bg;obtain ⟨a1,a2,a3⟩:=Hl uV;simp only at kB;have cj:∀ m,gX C fid callP callI (some b) ops j y (gj st.tmps x.dst vi) m=gX C fid callP callI (some b) ops j y st.tmps m:=fun m=>y7 fun t ht=>vG fun hd=>a1 t hd ht;have ci:∀ v m,gX C fid callP callI (some b) ops i x (gj st.tmps y.dst v) m=gX C fid callP callI (some b) ops i x st.tmps m:=fun v m=>y7 fun t ht=>vG fun hd=>a2 t hd ht;rw[cj] at kB
 have enough:∀ m1,gX C fid callP callI (some b) ops j y st.tmps st.mem=some (vj,m1)->gX C fid callP callI (some b) ops i x st.tmps m1=some (vi,mj) ->
   ∃ s1',fH C fid callP callI (some b) ops j st=some s1'/\fH C fid callP callI (some b) ops i s1'=some ⟨gj (gj st.tmps x.dst vi) y.dst vj,mj⟩:=by
  intro m1 e1 e2;refine ⟨⟨gj st.tmps y.dst vj,m1⟩,by simp[fH,hy,e1],?_⟩;simp only[fH,hx,ci,e2,aR];rw[O5 a3]
 have nI:jh x=.N->mi=st.mem/\∀ m',gX C fid callP callI (some b) ops i x st.tmps m'=some (vi,m'):=fun hc=>by
  rcases oM oD with ⟨hf,hall⟩ | ⟨rfl,hall⟩
  ·obtain ⟨rfl,h⟩:=Bw hc hf;exact ⟨rfl,fun m'=>(hall m').trans (h m')⟩
  ·exact ⟨rfl,hall⟩
 have nJ:jh y=.N->mj=mi/\∀ m',gX C fid callP callI (some b) ops j y st.tmps m'=some (vj,m'):=fun hc=>by
  rcases oM kB with ⟨hf,hall⟩ | ⟨rfl,hall⟩
  ·obtain ⟨rfl,h⟩:=Bw hc hf;exact ⟨rfl,fun m'=>(hall m').trans (h m')⟩
  ·exact ⟨rfl,hall⟩
 have lI:jh x=.L->mi=st.mem/\∀ m',pS st.mem m'->gX C fid callP callI (some b) ops i x st.tmps m'=some (vi,m'):=fun hc=>by
  rcases oM oD with ⟨hf,hall⟩ | ⟨rfl,hall⟩
  ·obtain ⟨rfl,h⟩:=OF (s:=b+fL ops i) hc hf;exact ⟨rfl,fun m' hm=>(hall m').trans (h _ m' hm)⟩
  ·exact ⟨rfl,fun m' _=>hall m'⟩
 have kj:∀ o,ops[j]?=some o->nl o=true->st.mem.get (b+fL ops j)=some .resv:=hk j (by simp)
 have aMk:∀ o:Oper,jh o=.A\/jh o=.Ap->nl o=true:=by
  intro o hc;unfold jh at hc;unfold nl
  cases bB:o.op<;>simp only[bB] at hc<;>first | rfl | (rcases hc with hc | hc<;>cases hc;done) | skip
  split at hc<;>first | (rcases hc with hc | hc<;>cases hc;done) | skip
  rename_i oU;simp[oU]
 cases mZ:jh x with
 | N=>
  obtain ⟨rfl,hall⟩:=nI mZ;exact enough mj kB (hall mj)
 | L=>
  obtain ⟨rfl,hall⟩:=lI mZ
  cases j8:jh y with
  | N=>
   obtain ⟨rfl,_⟩:=nJ j8;exact enough _ kB (hall _ (pS.refl _))
  | L=>
   have:mj=st.mem:=by
    rcases oM kB with ⟨hf,_⟩ | ⟨rfl,_⟩
    ·exact (OF (s:=b+fL ops j) j8 hf).1
    ·rfl
   subst this;exact enough _ kB (hall _ (pS.refl _))
  | A=>
   refine enough mj kB (hall mj ?_)
   rcases oM kB with ⟨hf,_⟩ | ⟨rfl,_⟩
   ·obtain ⟨e,rfl,_⟩:=II (s:=b+fL ops j) j8 hf;exact Mg (fun bx cs hh=>by rw[kj y hy (aMk y (.inl j8))] at hh;cases hh) (fun kk es hh=>by rw[kj y hy (aMk y (.inl j8))] at hh;cases hh)
   ·exact pS.refl _
  | Ap=>
   refine enough mj kB (hall mj ?_)
   rcases oM kB with ⟨hf,_⟩ | ⟨rfl,_⟩
   ·exact qnL (s:=b+fL ops j) j8 (kj y hy (aMk y (.inr j8))) hf
   ·exact pS.refl _
  | W=>
   have DO:Ef x y=true:=by rw[mZ,j8] at tH;simpa [Dh] using tH
   unfold Ef at DO
   split at DO
   ·rename_i tx xx ix okx ql6
    split at DO
    ·rename_i ty yy zy ql7
     have qlK:∀ nm kk es,st.mem.get nm=some (.mp kk es)->mj.get nm=some (.mp kk es):=by
      rcases oM kB with ⟨hf,_⟩ | ⟨rfl,_⟩
      ·exact qnP ql7 hf
      ·exact fun _ _ _ h=>h
     refine enough mj kB ?_
     rcases oM oD with ⟨hf,DA⟩ | ⟨_,DA⟩
     ·exact (DA mj).trans ((XF ql6 hf).2 _ mj qlK)
     ·exact DA mj
    ·cases DO
   ·cases DO
 | A=>
  cases j8:jh y with
  | N=>
   obtain ⟨rfl,hall⟩:=nJ j8;exact enough _ (hall _) oD
  | A=>
   have fj:∃ f:af->af,(∀ m',gX C fid callP callI (some b) ops j y st.tmps m'=some (vj,f m'))/\((∀ m',f m'=m')\/∃ e,∀ m',f m'=m'.set (b+fL ops j) (some e)):=by
    rcases oM kB with ⟨hf,hall⟩ | ⟨rfl,hall⟩
    ·obtain ⟨e,_,h⟩:=II (s:=b+fL ops j) j8 hf;exact ⟨fun m'=>m'.set (b+fL ops j) (some e),fun m'=>(hall m').trans (h m'),.inr ⟨e,fun _=>rfl⟩⟩
    ·exact ⟨id,hall,.inl fun _=>rfl⟩
   have fi:∃ f:af->af,(∀ m',gX C fid callP callI (some b) ops i x st.tmps m'=some (vi,f m'))/\((∀ m',f m'=m')\/∃ e,∀ m',f m'=m'.set (b+fL ops i) (some e)):=by
    rcases oM oD with ⟨hf,hall⟩ | ⟨rfl,hall⟩
    ·obtain ⟨e,_,h⟩:=II (s:=b+fL ops i) mZ hf;exact ⟨fun m'=>m'.set (b+fL ops i) (some e),fun m'=>(hall m').trans (h m'),.inr ⟨e,fun _=>rfl⟩⟩
    ·exact ⟨id,hall,.inl fun _=>rfl⟩
   obtain ⟨f,f1,f2⟩:=fi;obtain ⟨h,h1,h2⟩:=fj;have em:mi=f st.mem:=by have:=f1 st.mem;rw[oD] at this;simpa using this
   have ej:mj=h mi:=by have:=h1 mi;rw[kB] at this;simpa using this
   refine enough _ (h1 _) ?_;rw[f1,ej,em];congr 2;have hr:=Ym hx hy (aMk x (.inl mZ)) (aMk y (.inl j8)) hne
   rcases f2 with f2 | ⟨e,f2⟩<;>rcases h2 with h2 | ⟨e',h2⟩<;>simp only[f2,h2]
   exact (List.set_comm _ _ (by omega)).symm
  | _=>exact absurd tH (by rw[mZ,j8,N7 (by rw[mZ];simp)];simp[Dh])
 | Ap=>
  cases j8:jh y with
  | N=>
   obtain ⟨rfl,hall⟩:=nJ j8;exact enough _ (hall _) oD
  | _=>exact absurd tH (by rw[mZ,j8,N7 (by rw[mZ];simp)];simp[Dh])
 | W=>
  cases j8:jh y with
  | N=>
   obtain ⟨rfl,hall⟩:=nJ j8;exact enough _ (hall _) oD
  | _=>exact absurd tH (by rw[mZ,j8,N7 (by rw[mZ];simp)];simp[Dh])
theorem first {b:Nat} {ops:Array Oper} {i:Nat} {x:Oper} (hx:ops[i]?=some x):∀ (l:List Nat) (st s':St),l.Nodup->i∈l->uo ops b st.mem l->(∀ (p q:List Nat),l=p++i::q->∀ j∈p,∃ y,ops[j]?=some y/\xg ops y x=true) ->
  ig C fid callP callI (some b) ops l st=some s'->∃ s1,fH C fid callP callI (some b) ops i st=some s1/\ig C fid callP callI (some b) ops (l.erase i) s1=some s'
 | [],_,_,_,hi,_,_,_=>by simp at hi
 | j::l,st,s',hnd,hi,hk,wS,hr=>by
  simp only[ig,bc] at hr;obtain ⟨s1,h1,hr⟩:=hr
  by_cases he:j=i
  ·subst he;exact ⟨s1,h1,by simpa using hr⟩
  ·have b6:i∈l:=by rcases gE.1 hi with h | h<;>first | exact absurd h.symm he | exact h
   have yF:=(uC.1 hnd)
   obtain ⟨s2,h2,wO⟩:=first hx l s1 s' yF.2 b6 (Jf h1 (fun k bO=>hk k (by simp[bO])) yF.1) (fun p q gg k tN=>wS (j::p) q (by rw[gg];rfl) k (by simp[tN])) hr
   obtain ⟨p,q,gg⟩:=z8 b6;obtain ⟨y,hy,bg⟩:=wS (j::p) q (by rw[gg];rfl) j (by simp)
   obtain ⟨s1',k1,k2⟩:=swap hy hx he bg (fun k bO=>hk k (by
    simp only[gE,CE,or_false] at bO
    rcases bO with rfl | rfl
    ·simp
    ·simp[b6])) h1 h2
   refine ⟨s1',k1,?_⟩
   have DI:(j::l).erase i=j::l.erase i:=by
    rw[List.erase_cons,ai (by simpa using he)]
   rw[DI];simp only[ig,k2,aa];exact wO
theorem S8 (ops:Array Oper):∀ n,(nC ops n).length=n
 | 0=>rfl
 | n+1=>by simp[nC,S8 ops n]
theorem C7 (ops:Array Oper) (i:Nat):∀ n,i < n->(nC ops n).getD i 0=match ops[i]? with
  | some o=>(o.after.toList.filter (Region.binds .any)).foldl (fun s e=>s ||| (2 ^ e.on ||| (nC ops i).getD e.on 0)) 0
  | none=>0
 | 0,h=>by omega
 | n+1,h=>by
  simp only[nC,aS,qn,S8]
  by_cases hi:i < n
  ·rw[an hi];have:=C7 ops i n hi;simpa [aS] using this
  ·obtain rfl:i=n:=by omega
   simp[aS];cases ops[i]?<;>rfl
theorem Ur (f:Edge->Nat) (j:Nat):∀ (l:List Edge) (s:Nat),(l.foldl (fun s e=>s ||| (2 ^ e.on ||| f e)) s).testBit j=true->s.testBit j=true\/∃ e∈l,e.on=j\/(f e).testBit j=true
 | [],s,h=>.inl h
 | e::l,s,h=>by
  simp only[ux] at h
  rcases Ur f j l _ h with h | ⟨e',DH,h⟩
  ·simp only[Nat.testBit_or,zH,Nat.testBit_two_pow,oq] at h
   rcases h with h | h | h
   ·exact .inl h
   ·exact .inr ⟨e,by simp,.inl h⟩
   ·exact .inr ⟨e,by simp,.inr h⟩
  ·exact .inr ⟨e',by simp[DH],h⟩
theorem Hk {ops:Array Oper} {D:Nat->Prop} (hD:∀ k o,D k->ops[k]?=some o->∀ e∈o.after.toList,Region.binds .any e=true->D e.on) (hlt:∀ k o,ops[k]?=some o->∀ e∈o.after.toList,Region.binds .any e=true->e.on < k) :
  ∀ (n i:Nat) (o:Oper),i < n->ops[i]?=some o->(∀ e∈o.after.toList,Region.binds .any e=true->D e.on)->∀ j,((nC ops n).getD i 0).testBit j=true->D j:=by
 intro n
 induction n with
 | zero=>intro i o h;omega
 | succ n ih=>
  intro i o hi ho he j hj;rw[C7 ops i (n+1) hi,ho] at hj
  rcases Ur _ j _ _ hj with h | ⟨e,hem,hj⟩
  ·simp at h
  ·obtain ⟨h1,h2⟩:=rX.1 hem
   rcases hj with rfl | hj
   ·exact he e h1 h2
   ·have lO:=hlt i o ho e h1 h2
    rcases Nn:ops[e.on]? with _ | oe
    ·rw[C7 ops e.on i lO,Nn] at hj;simp at hj
    ·have h3:(nC ops i).getD e.on 0=(nC ops n).getD e.on 0:=by
      rw[C7 ops e.on i lO,C7 ops e.on n (by omega)]
     rw[h3] at hj;exact ih e.on oe (by omega) Nn (fun e' DH hb=>hD e.on oe (he e h1 h2) Nn e' DH hb) j hj
theorem XK {ops:Array Oper} {ah:List Nat}:∀ {l:List Nat},By ops ah l=true->∀ (p q:List Nat) (i:Nat),l=p++i::q->∀ j∈p,(ah.getD i 0).testBit j=true\/∃ x y,ops[j]?=some x/\ops[i]?=some y/\xg ops x y=true
 | [],_,p,q,i,h,_,_=>by simp at h
 | k::l,hp,p,q,i,h,j,hj=>by
  simp only[By,b7,ga] at hp
  match p,h with
  | k'::p,h=>
   simp only[cn,po] at h;obtain ⟨rfl,rfl⟩:=h
   rcases gE.1 hj with rfl | hj
   ·have:=hp.1 i (by simp)
    rcases Bool.or_eq_true_iff.1 this with h | h
    ·exact .inl h
    ·refine .inr ?_
     split at h
     ·exact ⟨_,_,by assumption,by assumption,h⟩
     ·cases h
   ·exact XK hp.2 p q i rfl j hj
end
end Go.Ab
namespace Go.Ab
open Go.RowKit
def Mf:Ex->Exit
 | .normal=>.normal
 | .exit id=>.exit id
 | .ret=>.ret
section
variable [WInv] {C:Cfg} {B:Nat} {w:World} {g:G}
structure StR (B:Nat) (w:World) (g:G) (st:St) (a:Act):Prop where
 tmp:pV w g st.tmps a.tmps
 mem:MemR B w g st.mem
 size:B<=w.heap.size
def rP (C:Cfg) (callI:Nat->List AV->af->OM):Prop:=∀ f args m v m',callI f args m=some (v,m')->th C.P f args m v m'/\∃ fn,C.P.funcs[f]?=some fn/\fn.body.isSome
theorem Ji (hC:CfgOk C) {callI:Nat->List AV->af->OM} (hI:rP C callI) {fid:Nat} {base:Option Nat} {ops:Array Oper} {i:Nat} {st s1:St} {a:Act} (h:fH C fid (jG callI) callI base ops i st=some s1) (hs:StR B w g st a)
  (hk:∀ b,base=some b->uo ops b st.mem [i]) {Q:Exit->Act->World->Prop} {next:Act->World->Prop} (hn:∀ a' w' g',StR B w' g' s1 a'->Step B w g w' g'->iW C.P a' a->next a' w'):wpOp C.P ops Q i next a w:=by
 obtain ⟨o,v,m1,ho,hr,rfl⟩:=ta h
 have oE:fT C fid (jG callI) callI (base.map (· + fL ops i)) o (ev st.tmps) st.mem=some (v,m1)->o.wp C.P a w next Q:=by
  intro hf
  obtain ⟨v2,m2,hK,bB⟩:=qnR (a:=a) hC hI hf (Uh hs.tmp) hs.mem hs.size (fun lp s hb=>by
   obtain ⟨b,hb1,rfl⟩:=gP.1 hb
   exact hk b hb1 i (by simp) o ho lp)
  simp only[bM,dT] at hK;obtain ⟨rfl,rfl⟩:=hK
  exact bB next Q fun a1 v' w' g' ht hd s hm hv=>hn _ w' g' ⟨pV.put (a:=a1) (by rw[ht];exact hs.tmp.step s) hv o.dst,hm,dY hs.size s.below.size⟩ s (iW.trans (iW.of_eq (Yb _ _ _)) hd)
 have D1:v=.tup []/\m1=st.mem->next (a.put o.dst undef) w:=by
  rintro ⟨rfl,rfl⟩;exact hn _ w g ⟨hs.tmp.put (.tup [] #[] rfl (fun j hj=>absurd hj (Nat.not_lt_zero j))) o.dst,hs.mem,hs.size⟩ (Step.refl _ _ _) (iW.of_eq (Yb _ _ _))
 unfold wpOp;simp only[ho];unfold gX at hr
 cases hg:o.guard with
 | none=>
  simp only[hg] at hr;have hw:Region.wanted o (yielded ops a.tmps)=true:=by simp[Region.wanted,hg]
  rw[hw,an rfl];exact .inl (oE hr)
 | some jw=>
  obtain ⟨j,want⟩:=jw;simp only[hg] at hr
  cases hd:(ops[j]?).bind (·.dst) with
  | none=>simp[hd] at hr
  | some d=>
   simp only[hd] at hr
   cases D0:xf ops st.tmps j with
   | true=>
    simp only[D0] at hr
    cases hv:st.tmps.getD d .any with
    | tup cs=>
     simp only[hv] at hr
     cases cs with
     | nil=>
      have hV:=hs.tmp.2 d;rw[hv] at hV
      have hy:yielded ops a.tmps j=none:=by
       unfold yielded;rw[hd];simp only[aa];generalize hx:a.tmps.getD d undef=x at hV;cases hV;rw[jE] at hx
       cases hq:a.tmps[d]? with
       | none=>rfl
       | some y=>rw[hq] at hx;simp only[dh] at hx;rw[hx]
      have hw:Region.wanted o (yielded ops a.tmps)=false:=by simp only[Region.wanted,hg,hy];rfl
      rw[hw];simp only[bM,dT] at hr;exact D1 ⟨hr.1.symm,hr.2.symm⟩
     | cons c cs=>simp only at hr;cases hr
    | _=>simp only[hv] at hr;cases hr
   | false=>
   simp only[D0] at hr
   cases hv:st.tmps.getD d .any with
   | bool b=>
    simp only[hv] at hr;have hV:=hs.tmp.2 d;rw[hv] at hV
    have hy:yielded ops a.tmps j=some b:=by
     unfold yielded;rw[hd];simp only[aa];generalize hx:a.tmps.getD d undef=x at hV;cases hV
     have:a.tmps[d]?=some (.bool b):=by
      rw[jE] at hx
      cases hq:a.tmps[d]? with
      | none=>rw[hq] at hx;cases hx
      | some y=>rw[hq] at hx;simpa using hx
     rw[this]
    have hw:Region.wanted o (yielded ops a.tmps)=(some b == some want):=by simp only[Region.wanted,hg,hy]
    by_cases hb:b=want
    ·rw[an hb] at hr;have:(some b == some want)=true:=by simpa using hb
     rw[hw,this,an rfl];exact .inl (oE hr)
    ·rw[ai hb] at hr;have:(some b == some want)=false:=by simpa using hb
     rw[hw,this];simp only[bM,dT] at hr;exact D1 ⟨hr.1.symm,hr.2.symm⟩
   | _=>simp only[hv] at hr;cases hr
theorem YA (hC:CfgOk C) {callI:Nat->List AV->af->OM} (hI:rP C callI) {fid:Nat} {ops:Array Oper} {Q:Exit->Act->World->Prop}:∀ (l:List Nat) (st s':St) (a:Act) (w:World) (g:G),ig C fid (jG callI) callI none ops l st=some s'->StR B w g st a ->
  (∀ a' w' g',StR B w' g' s' a'->Step B w g w' g'->iW C.P a' a->Q .normal a' w')->wpOps C.P ops Q l a w
 | [],st,s',a,w,g,h,hs,hn=>by
  simp only[ig,bM] at h;subst h;exact hn a w g hs (Step.refl _ _ _) (iW.refl _ _)
 | i::l,st,s',a,w,g,h,hs,hn=>by
  simp only[ig,bc] at h;obtain ⟨s1,h1,h⟩:=h;rw[wpOps_cons];exact Ji hC hI h1 hs (fun b hb=>by cases hb) fun a' w' g' gC s hd=>YA hC hI l s1 s' a' w' g' h gC fun a'' w'' g'' sM s' kJ=>hn a'' w'' g'' sM (s.trans s') (kJ.trans hd)
theorem Ip:∀ (l:List Nat),l≠[]->∃ mn∈l,∀ x∈l,mn<=x
 | [],h=>absurd rfl h
 | [x],_=>⟨x,by simp,by simp⟩
 | x::y::l,_=>by
  obtain ⟨mn,h1,h2⟩:=Ip (y::l) (by simp)
  by_cases hx:x<=mn
  ·exact ⟨x,by simp,fun z hz=>by
    rcases gE.1 hz with rfl | hz
    ·exact aQ _
    ·exact dY hx (h2 z hz)⟩
  ·exact ⟨mn,fJ _ h1,fun z hz=>by
    rcases gE.1 hz with rfl | hz
    ·omega
    ·exact h2 z hz⟩
theorem qhH (hC:CfgOk C) {callI:Nat->List AV->af->OM} (hI:rP C callI) {fid b:Nat} {ops:Array Oper} {Q:Exit->Act->World->Prop} {canon:List Nat} (hlt:∀ k o,ops[k]?=some o->∀ e∈o.after.toList,Region.binds .any e=true->e.on < k)
  (A6:By ops (uI ops) canon=true) (hnd:canon.Nodup):∀ (l:List Nat) (n:Nat),l.length=n->l.Sublist canon->∀ (listed:Array Bool),listed.size=ops.size->(∀ x,x < ops.size->(listed.getD x true=true↔x∉l))->(∀ x∈l,x < ops.size) ->
  (∀ k o,k < ops.size->k∉l->ops[k]?=some o->∀ e∈o.after.toList,Region.binds .any e=true->e.on∉l) ->
  ∀ (st s':St) (a:Act) (w:World) (g:G),ig C fid (jG callI) callI (some b) ops l st=some s'->uo ops b st.mem l->StR B w g st a ->
  (∀ a' w' g',StR B w' g' s' a'->Step B w g w' g'->iW C.P a' a->Q .normal a' w')->wpAny C.P .any ops Q n listed a w:=by
 intro l n hn
 induction n generalizing l with
 | zero=>
  intro gZ listed hsz jt hin rp st s' a w g hr hk hs hq;have ve:l=[]:=oN hn;subst ve;simp only[ig,bM] at hr;subst hr;refine ⟨?_,hq a w g hs (Step.refl _ _ _) (iW.refl _ _)⟩;unfold Region.ready;rw[List.filter_eq_nil_iff];intro x hx;have:listed.getD x true=true:=(jt x (by simpa using hx)).2 (by simp);simp[this]
 | succ n ih=>
  intro gZ listed hsz jt hin rp st s' a w g hr hk hs hq
  have DW:∀ i∈Region.ready .any ops listed,i∈l/\i < ops.size/\∃ o,ops[i]?=some o/\∀ e∈o.after.toList,Region.binds .any e=true->e.on∉l:=by
   intro i hi;unfold Region.ready at hi;simp only[rX,uz,b7,xy] at hi;obtain ⟨h1,h2,h3⟩:=hi
   have b6:i∈l:=by
    by_cases h:i∈l
    ·exact h
    ·have:=(jt i h1).2 h;rw[this] at h2;cases h2
   refine ⟨b6,h1,ops[i],by simp[h1],fun e he hb lT=>?_⟩;have ho:ops[i]?=some ops[i]:=by simp[h1]
   rw[ho] at h3;simp only[aR,dh] at h3;have h4:=rO.1 h3 e (by simpa using he);simp only[hb,kS,zG] at h4;have h5:=hlt i _ ho e he hb
   have h6:listed.getD e.on true=true:=by
    have hes:e.on < listed.size:=by omega
    simp only[Array.getD,hes,dif_pos] at h4 ⊢;exact h4
   exact (jt e.on (by omega)).1 h6 lT
  refine ⟨fun DQ=>?_,fun i hi=>?_⟩
  ·
   exfalso;have hne:l≠[]:=fun h=>by rw[h] at hn;simp at hn
   obtain ⟨mn,wI,yC⟩:∃ mn∈l,∀ x∈l,mn<=x:=by
    exact Ip l hne
   have iN:=hin mn wI
   have:mn∈Region.ready .any ops listed:=by
    unfold Region.ready;simp only[rX,uz,b7,xy]
    refine ⟨iN,?_,?_⟩
    ·cases hb:listed.getD mn true with
     | false=>rfl
     | true=>exact absurd wI ((jt mn iN).1 hb)
    ·have ho:ops[mn]?=some ops[mn]:=by simp[iN]
     rw[ho];simp only[aR,dh];rw[rO];intro e he
     by_cases hb:Region.binds .any e=true
     ·have h5:=hlt mn _ ho e (by simpa using he) hb;have h6:e.on∉l:=fun h=>by have:=yC _ h;omega
      have h7:=(jt e.on (by omega)).2 h6;have hes:e.on < listed.size:=by omega
      have h8:listed.getD e.on false=true:=by
       simp only[Array.getD,hes,dif_pos] at h7 ⊢;exact h7
      rw[h8];simp
     ·simp at hb;simp[hb]
   rw[DQ] at this;simp at this
  ·obtain ⟨b6,j9,x,hx,uW⟩:=DW i hi
   obtain ⟨s1,h1,h2⟩:=first hx l st s' (hnd.sublist gZ) b6 hk (fun p q gg j hj=>by
    obtain ⟨pre,post,tF⟩:∃ pc qc,canon=pc++i::qc/\∀ y∈p,y∈pc:=by
     rw[gg] at gZ;obtain ⟨c1,c2,hc,lA,mJ⟩:=List.append_sublist_iff.1 gZ
     obtain ⟨d1,d2,hd,hdi⟩:∃ d1 d2,c2=d1++i::d2/\True:=by
      have:=mJ.subset (fN);obtain ⟨d1,d2,hd⟩:=z8 this;exact ⟨d1,d2,hd,trivial⟩
     exact ⟨c1++d1,d2,by rw[hc,hd];simp,fun y hy=>il.2 (.inl (lA.subset hy))⟩
    rcases XK A6 pre post i tF.1 j (tF.2 j hj) with h | ⟨y,x',hy,iu,bg⟩
    ·exfalso;have fW:((nC ops ops.size).getD i 0).testBit j=true:=h
     have:=Hk (D:=fun k=>k∉l) (fun k o bO kL e he hb=>by
      rcases qW k ops.size with hk1 | hk1
      ·exact rp k o hk1 bO kL e he hb
      ·rw[B2 hk1] at kL;cases kL) hlt ops.size i x j9 hx uW j fW
     exact this (by rw[gg];simp[hj])
    ·obtain rfl:x=x':=by simpa [hx] using iu
     exact ⟨y,hy,bg⟩) hr
   refine Ji hC hI h1 hs (fun b' iy=>by cases iy;exact fun k bO=>hk k (by simp at bO;rw[bO];exact b6)) fun a' w' g' gC s hd=>?_
   have fW:∀ y,y∈l.erase i↔y∈l/\y≠i:=fun y=>by
    rw[(hnd.sublist gZ).mem_erase_iff];exact And.comm
   refine ih (l.erase i) (by rw[List.length_erase_of_mem b6];omega) (List.Sublist.trans List.erase_sublist gZ) (listed.setIfInBounds i true) (by simpa using hsz) (fun y hy=>?_) (fun y hy=>hin y ((fW y).1 hy).1) (fun k o hk1 kA kL e he hb lT=>?_) s1 s' a' w' g' h2 (fun k bO o ho hm=>?_) gC fun a'' w'' g'' sM s' kJ=>hq a'' w'' g'' sM (s.trans s') (kJ.trans hd)
   ·have p9:y < listed.size:=by omega
    have hg:(listed.setIfInBounds i true).getD y true=if i=y then true else listed.getD y true:=by
     simp only[jE,Fc]
     by_cases mI:i=y
     ·subst mI;simp[p9]
     ·simp[mI]
    rw[hg,fW]
    by_cases mI:i=y
    ·subst mI;simp
    ·rw[ai mI,jt y hy]
     constructor
     ·intro h h';exact h h'.1
     ·intro h h';exact h ⟨h',fun he=>mI he.symm⟩
   ·have wM:=(fW _).1 lT
    by_cases jH:k=i
    ·subst jH;obtain rfl:x=o:=by simpa [hx] using kL
     exact uW e he hb wM.1
    ·exact rp k o hk1 (fun h=>kA ((fW k).2 ⟨h,jH⟩)) kL e he hb wM.1
   ·exact Jf h1 (fun k' M7=>hk k' ((fW k').1 M7).1) (fun h=>((fW i).1 h).2 rfl) k bO o ho hm
theorem Xi {m:af} (hm:MemR B w g m):∀ k,MemR B w g (m++List.replicate k (some .resv)):=by
 intro k
 have aU:∀ x,af.get (m++List.replicate k (some .resv)) x=if x < m.length then m.get x else if x < m.length+k then some .resv else none:=by
  intro x;unfold af.get;rw[qn]
  by_cases h1:x < m.length
  ·rw[an h1,an h1]
  ·rw[ai h1,ai h1,Ad]
   by_cases h2:x < m.length+k
   ·rw[an (by omega),an h2];rfl
   ·rw[ai (by omega),ai h2];rfl
 have old:∀ x e,af.get (m++List.replicate k (some .resv)) x=some e->m.get x=some e\/(e=.resv/\m.length<=x):=by
  intro x e he;rw[aU] at he
  split at he
  ·exact .inl he
  ·split at he
   ·simp at he;exact .inr ⟨he.symm,by omega⟩
   ·cases he
 have hblk:∀ x b,ba g (m++List.replicate k (some .resv)) x=some b->ba g m x=some b:=by
  intro x b hb
  rcases pW hb with ⟨bx,cs,h1,h2⟩ | ⟨n,sz,h1,h2⟩ | ⟨kk,es,h1,h2⟩
  ·rcases old _ _ h1 with h | ⟨h,_⟩
   ·simp[ba,h,h2]
   ·cases h
  ·rcases old _ _ h1 with h | ⟨h,_⟩
   ·simp[ba,h,h2]
   ·cases h
  ·rcases old _ _ h1 with h | ⟨h,_⟩
   ·simp[ba,h,h2]
   ·cases h
 refine ⟨fun nm bx cs h=>?_,fun nm n sz h=>?_,fun nm h=>?_,fun nm h=>?_,fun nm nm' b h1 h2=>hm.inj nm nm' b (hblk _ _ h1) (hblk _ _ h2),hm.wrLt,hm.inv,hm.boxLt,fun nm kk es h=>by
  rcases old _ _ h with h | ⟨h,_⟩
  ·exact hm.mp nm kk es h
  ·cases h⟩
 ·rcases old _ _ h with h | ⟨h,_⟩
  ·exact hm.obj nm bx cs h
  ·cases h
 ·rcases old _ _ h with h | ⟨h,_⟩
  ·exact hm.tok nm n sz h
  ·cases h
 ·rcases old _ _ h with h | ⟨_,h⟩
  ·exact hm.resv nm h
  ·exact hm.fresh nm h
 ·exact hm.fresh nm (by simp at h;omega)
theorem Yq (m:af) (c:Nat):cU m c=m++List.replicate c (some .resv):=by
 cases c with
 | zero=>simp[cU]
 | succ c=>rfl
theorem We (ops:Array Oper) (m:af) (l:List Nat):uo ops m.length (m++List.replicate (fL ops ops.size) (some .resv)) l:=by
 intro i _ o ho hm;have hi:=(fF.1 ho).1
 have hlt:fL ops i < fL ops ops.size:=by
  have b6:i < ops.toList.length:=by simpa using hi
  have h1:fL ops (i+1)=fL ops i+1:=by
   unfold fL
   have he:ops.toList[i]=o:=by
    have:=(fF.1 ho).2;simpa using this
   rw[n7 b6,List.filter_append,aI,he];simp[hm]
  have h2:fL ops (i+1)<=fL ops ops.size:=by
   unfold fL;have:ops.toList.take (i+1)=(ops.toList.take ops.size).take (i+1):=by rw[List.take_take];congr 1;omega
   rw[this];exact List.Sublist.length_le ((List.take_sublist _ _).filter _)
  omega
 unfold af.get;rw[rS (by omega),Ad,an (by omega)]
 rfl
theorem qkE (hC:CfgOk C) {callI:Nat->List AV->af->OM} (hI:rP C callI) {R:Type} {fid id:Nat} {ops:Array Oper} {Q:Exit->Act->World->Prop} {canon:List Nat} (bg:HE C.P ops canon=true) {st:St} {K:St->Option R} {r:R} {a:Act}
  (h:mq C fid (jG callI) callI (some st.mem.length) ops canon ⟨st.tmps,cU st.mem (fL ops ops.size)⟩ K=some r) (hs:StR B w g st a)
  (hn:∀ s' a' w' g',K s'=some r->StR B w' g' s' a'->Step B w g w' g'->iW C.P a' a->Q .normal a' w'):(Code.region id ops true).wp C.P Q a w:=by
 unfold HE at bg;simp only[b7] at bg;obtain ⟨⟨⟨h1,h2⟩,h3⟩,h4⟩:=bg;have lU:canon.Perm (List.range ops.size):=List.isPerm_iff.1 h2
 have hlt:∀ k o,ops[k]?=some o->∀ e∈o.after.toList,Region.binds .any e=true->e.on < k:=by
  intro k o hk e he hb;have fR:=(fF.1 hk).1;have:=ga.1 h3 k (by simpa using fR);rw[hk] at this;simp only at this;have:=rO.1 this e (by simpa using he);simpa [hb] using this
 rw[sZ,Yq] at h;simp only[bc] at h;obtain ⟨s',hr,hK⟩:=h;refine wp_region_any h1 ?_
 refine qhH hC hI hlt h4 (lU.nodup_iff.2 List.nodup_range) canon ops.size (by rw[lU.length_eq];simp) (List.Sublist.refl _) _ (by simp) (fun x hx=>?_) (fun x hx=>by simpa using lU.mem_iff.1 hx) (fun k o hk bO=>?_) _ s' a _ g hr (We ops st.mem canon) ⟨hs.tmp.step (Step.drew B w g),Xi (B:=B) (w:=w.drew) (g:=g) hs.mem.drew _,hs.size⟩ ?_
 ·have:x∈canon:=lU.mem_iff.2 (by simpa using hx);simp[this,Array.getD,hx]
 ·exact absurd (lU.mem_iff.2 (by simpa using hk)) bO
 ·intro a' w' g' gC s hd;exact hn s' a' w' g' hK gC ((Step.drew B w g).trans s) hd
theorem Iz:∀ (bs:List Bool) (ts:List AV) (t:Nat),(pL bs ts).length=ts.length/\((pL bs ts).getD t .any=ts.getD t .any\/(pL bs ts).getD t .any=.any)
 | bs,[],t=>by cases bs<;>simp[pL]
 | [],v::vs,t=>by
  have ih:=Iz [] vs;refine ⟨by simp[pL,(ih 0).1],?_⟩
  cases t with
  | zero=>simp[pL]
  | succ t=>simpa [pL] using (ih t).2
 | b::bs,v::vs,t=>by
  have ih:=Iz bs vs;refine ⟨by simp[pL,(ih 0).1],?_⟩
  cases t with
  | zero=>cases b<;>simp[pL]
  | succ t=>simpa [pL] using (ih t).2
theorem pV.mask {ts:List AV} {vs:Array Value} (h:pV w g ts vs) (bs:List Bool):pV w g (pL bs ts) vs:=
 ⟨(Iz bs ts 0).1.trans h.1,fun t=>by
  rcases (Iz bs ts t).2 with h' | h'
  ·rw[h'];exact h.2 t
  ·rw[h'];exact .any _⟩
def LW (P:Program) (c:Code) (Q:Exit->Act->World->Prop) (a:Act) (w:World):Prop:=
 ∀ (b:Frame) (k:List Item) (cs:List Frame),∃ e a' w',Q e a' w'/\Arrives P (lone (b.at a (.inLoop c::k)) cs w) b k cs e a' w'
theorem WU {P:Program} {c:Code} {Q:Exit->Act->World->Prop} {a:Act} {w:World} (h:c.wp P (Exit.then (LW P c Q) Q) a w) (m:List Item->Item) (b:Frame) (k:List Item) (cs:List Frame)
  (hm:step P (lone (b.at a (m k::k)) cs w)=.next (lone (b.at a (.code c :: .inLoop c::k)) cs w)):∃ e a' w',Q e a' w'/\Arrives P (lone (b.at a (m k::k)) cs w) b k cs e a' w':=by
 obtain ⟨e,a₁,w₁,hq,AQ⟩:=h b (.inLoop c::k) cs
 cases e with
 | normal=>
  obtain ⟨e₂,a₂,w₂,hq₂,qlt⟩:=hq b k cs;exact ⟨e₂,a₂,w₂,hq₂,.of_steps (.head hm AQ) qlt⟩
 | exit id=>exact ⟨_,a₁,w₁,hq,.of_steps (.one hm) (.pass (x:=.inLoop c) rfl (fun _ _=>.inl (by simp)) AQ)⟩
 | goto l=>exact ⟨_,a₁,w₁,hq,.of_steps (.one hm) (.pass (x:=.inLoop c) rfl (fun _ _=>.inl (by simp)) AQ)⟩
 | ret=>exact ⟨_,a₁,w₁,hq,.of_steps (.one hm) (.pass (x:=.inLoop c) rfl (fun _ _=>.inl (by simp)) AQ)⟩
 | panic ch=>exact ⟨_,a₁,w₁,hq,.of_steps (.one hm) (.pass (x:=.inLoop c) rfl (fun _ _=>.inl (by simp)) AQ)⟩
 | outgrown=>exact ⟨_,a₁,w₁,hq,.of_steps (.one hm) (.pass (x:=.inLoop c) rfl (fun _ _=>.inl (by simp)) AQ)⟩
theorem qpZ {P:Program} {c:Code} {Q:Exit->Act->World->Prop} {a:Act} {w:World} (h:c.wp P (Exit.then (LW P c Q) Q) a w):(Code.loop c).wp P Q a w:=fun b k cs=>WU h (fun _=>.code (.loop c)) b k cs step_loop
theorem qnb {P:Program} {c:Code} {Q:Exit->Act->World->Prop} {a:Act} {w:World} (h:c.wp P (Exit.then (LW P c Q) Q) a w):LW P c Q a w:=fun b k cs=>WU h (fun _=>.inLoop c) b k cs step_inLoop
def JG (C:Cfg) (B:Nat) {R:Type} (w:World) (g:G) (a:Act) (K:Ex->St->Option R) (r:R) (Q:Exit->Act->World->Prop):Prop:=
 ∀ e st' a' w' g',K e st'=some r->StR B w' g' st' a'->Step B w g w' g'->iW C.P a' a->Q (Mf e) a' w'
def I5 (vs:Array Value):ResultVar->Sem Value
 | .tmp t=>pure (vs.getD t undef)
 | .cell a t=>do loadVar t (<- asAddr (vs.getD a undef))
theorem qoA (fn:Func) (vs:Array Value):results fn vs=(do let l <- fn.results.mapM (I5 vs);pure (if h:l.size=1 then l[0] else .tuple l)):=rfl
theorem Yr {P:Program} {m:af} (hm:MemR B w g m) {ts:List AV} {vs:Array Value} (ht:pV w g ts vs):∀ (rs:List ResultVar) (l:List AV),ug P m ts rs=some l ->
  ∃ vl:List Value,(rs.mapM (I5 vs)).run P w=.ok vl w/\vl.length=l.length/\∀ j,j < l.length->V w g (l.getD j .any) (vl.getD j undef)
 | [],l,h=>by simp only[ug,bM] at h;subst h;exact ⟨[],by simp,rfl,by simp⟩
 | r::rs,l,h=>by
  simp only[ug,bc,gP] at h;obtain ⟨v,hv,l',wG,rfl⟩:=h;obtain ⟨vl,h1,h2,h3⟩:=Yr hm ht rs l' wG
  have A5:∃ v',(I5 vs r).run P w=.ok v' w/\V w g v v':=by
   cases r with
   | tmp t=>simp only[EE,bM] at hv;subst hv;exact ⟨_,rfl,ht.2 t⟩
   | cell a t=>
    simp only[EE,bc] at hv;obtain ⟨sh,hsh,hv⟩:=hv;obtain ⟨v',hr,hV⟩:=WS (P:=P) hm (ht.2 a) hv t hsh;refine ⟨v',?_,hV⟩;unfold Instr.loadAt at hr;unfold aj at hv
    have hp:∃ p,vs.getD a undef=.pointer (some p):=by
     have AO:=ht.2 a
     split at hv
     ·rename_i he;rw[he] at AO;generalize vs.getD a undef=x at AO;cases AO;exact ⟨_,rfl⟩
     ·rename_i he;rw[he] at AO;generalize vs.getD a undef=x at AO;cases AO;exact ⟨_,rfl⟩
     ·cases hv
    obtain ⟨p,hp⟩:=hp;rw[hp] at hr
    have vn:I5 vs (.cell a t)=(do loadVar t (<- asAddr (.pointer (some p)))):=by
     show (do loadVar t (<- asAddr (vs.getD a undef)):Sem Value)=_
     rw[hp]
    rw[vn];simpa [Instr.sureAddr,asAddr] using hr
  obtain ⟨v',e1,e2⟩:=A5
  refine ⟨v'::vl,?_,by simp[h2],fun j hj=>?_⟩
  ·rw[List.mapM_cons];simp only[Sem.run_bind,e1,Result.andThen_ok,h1,Sem.run_pure]
  ·cases j with
   | zero=>simpa using e2
   | succ j=>simpa using h3 j (by simpa using hj)
theorem I6 {R:Type} (P:Program) (m:af) (ts:List AV):∀ (rs:List ResultVar) (K:List AV->Option R),zk P m ts rs K=(ug P m ts rs).bind K
 | [],K=>rfl
 | .tmp t::rs,K=>by
  simp only[zk,ug,EE,aa,I6 P m ts rs];cases ug P m ts rs<;>rfl
 | .cell a t::rs,K=>by
  simp only[zk,ug,EE]
  cases jl P t with
  | none=>rfl
  | some sh=>
   simp only[aa,I6 P m ts rs]
   cases aj sh m (ts.getD a .any) with
   | none=>rfl
   | some v=>
    simp only[aa];cases ug P m ts rs<;>rfl
theorem qnK {l:List AV} {vl:List Value} (h2:vl.length=l.length) (h3:∀ j,j < l.length->V w g (l.getD j .any) (vl.getD j undef)):V w g (Eu l) (if h:vl.toArray.size=1 then vl.toArray[0] else .tuple vl.toArray):=by
 match l,vl,h2 with
 | [],[],_=>exact .tup [] #[] rfl (by simp)
 | [x],[y],_=>simpa [Eu] using h3 0 (by simp)
 | x::x'::l,y::y'::vl,h2=>
  have:¬ (y::y'::vl).toArray.size=1:=by simp
  rw[dif_neg this];refine .tup _ _ (by simp at h2 ⊢;omega) fun j hj=>?_;have:=h3 j hj;simpa [aS,jE] using this
end
end Go.Ab
namespace Go.Ab
open Go.RowKit
def ya (y x:Oper):Option (Bool×Nat×Nat×Nat×Nat):=match y.guard with
 | some _=>none
 | none=>match x.guard with
  | some _=>none
  | none=>match x.dst with
   | some _=>none
   | none=>match x.op with
    | .store t2 (.tmp u) _=>match y.op with
     | .load t1 (.tmp t)=>some (true,t1,t,t2,u)
     | .store t1 (.tmp t) _=>match y.dst with
      | none=>some (false,t1,t,t2,u)
      | some _=>none
     | _=>none
    | _=>none
def LJ (n1 n2:Nat) (x y:AV):Bool:=match x,y with
 | .ptr a o,.ptr b p=>!(a == b) || (decide (o+n1<=p) || decide (p+n2<=o))
 | _,_=>false
def On (x y:AV):Bool:=match y with
 | .ptr b _=>match x with
  | .vptr _=>true
  | .ptr a _=>!(a == b)
  | _=>false
 | _=>false
def Dn (P:Program) (c:Bool×Nat×Nat×Nat×Nat) (ts:List AV):Bool:=match c with
 | (b,t1,t,t2,u)=>match b with
  | true=>On (ts.getD t .any) (ts.getD u .any)
  | false=>match jl P t1 with
   | none=>false
   | some s1=>match jl P t2 with
    | none=>false
    | some s2=>LJ s1.size s2.size (ts.getD t .any) (ts.getD u .any)
def Dm (P:Program) (ops:Array Oper) (j i:Nat) (ts:List AV):Bool:=match ops[j]? with
 | none=>false
 | some y=>match ops[i]? with
  | none=>false
  | some x=>match ya y x with
   | none=>false
   | some c=>Dn P c ts
def td {R:Type} (P:Program) (ops:Array Oper) (st:St) (K:St->Option R):List (Nat×Nat)->Option R
 | []=>K st
 | (j,i)::sp=>match Dm P ops j i st.tmps with
  | true=>td P ops st K sp
  | false=>none
def L0 (ops:Array Oper) (ah:List Nat) (j i:Nat) (r:List Nat):Bool:=match ops[j]? with
 | none=>false
 | some y=>match ops[i]? with
  | none=>false
  | some x=>match ya y x with
   | none=>false
   | some (_,_,t,_,u)=>wa ops y x && r.all (fun k=>match ops[k]? with | some o=>o.dst != some t && (o.dst != some u || (ah.getD i 0).testBit k) | none=>true)
def yr:List (Nat×Nat)->Nat->Nat->Bool
 | [],_,_=>false
 | (a,b)::l,j,i=>match Nat.beq a j && Nat.beq b i with
  | true=>true
  | false=>yr l j i
def Bz (ops:Array Oper) (ah:List Nat) (sp:List (Nat×Nat)):List Nat->Bool
 | []=>true
 | j::l=>l.all (fun i=>(ah.getD i 0).testBit j || (match ops[j]?,ops[i]? with | some x,some y=>xg ops x y | _,_=>false) || (yr sp j i && L0 ops ah j i (j::l))) && Bz ops ah sp l
def yg (P:Program) (ops:Array Oper) (l ah:List Nat) (sp:List (Nat×Nat)):Bool:=match sp with
 | []=>Mb P ops l ah
 | _::_=>P.follows .mixedOrders && (l.isPerm (List.range ops.size) && ((List.range ops.size).all (fun i=>(match ops[i]? with | some o=>o.after.all fun e=>!Region.binds .any e || decide (e.on < i) | none=>false)) && (Nat.beq ah.length ops.size && ((List.range ops.size).all (C6 ops ah) && Bz ops ah sp l))))
theorem Zo {R:Type} {P:Program} {ops:Array Oper} {st:St} {K:St->Option R} {r:R}:∀ sp:List (Nat×Nat),td P ops st K sp=some r->K st=some r/\∀ j i,yr sp j i=true->Dm P ops j i st.tmps=true
 | [],h=>⟨h,fun _ _ h'=>by simp[yr] at h'⟩
 | (a,b)::sp,h=>by
  simp only[td] at h
  split at h
  ·rename_i hd;obtain ⟨h1,h2⟩:=Zo sp h;refine ⟨h1,fun j i h'=>?_⟩;simp only[yr] at h'
   split at h'
   ·rename_i hb;simp only[b7] at hb;obtain rfl:=qp hb.1;obtain rfl:=qp hb.2;exact hd
   ·exact h2 j i h'
  ·cases h
theorem qpJ {R:Type} (P:Program) (ops:Array Oper) (st:St) (sp:List (Nat×Nat)):(∀ K:St->Option R,td P ops st K sp=none)\/(∀ K:St->Option R,td P ops st K sp=K st):=by
 induction sp with
 | nil=>exact .inr fun K=>rfl
 | cons p sp ih=>
  obtain ⟨a,b⟩:=p
  cases hd:Dm P ops a b st.tmps with
  | true=>
   rcases ih with h | h
   ·exact .inl fun K=>by simp only[td,hd];exact h K
   ·exact .inr fun K=>by simp only[td,hd];exact h K
  | false=>exact .inl fun K=>by simp only[td,hd]
section
variable [WInv] {C:Cfg} {B:Nat} {w:World} {g:G}
theorem LG {ops:Array Oper} {ah:List Nat} (hl:ah.length=ops.size) (hlt:∀ i o,ops[i]?=some o->∀ e∈o.after.toList,Region.binds .any e=true->e.on < i)
  (h:∀ i,i < ops.size->C6 ops ah i=true):∀ n,n<=ops.size->nC ops n=ah.take n:=by
 intro n
 induction n with
 | zero=>intro _;simp[nC]
 | succ n ih=>
  intro hn;have ih:=ih (by omega);have hx:n < ah.length:=by omega
  rw[nC,ih,List.take_add_one,bD hx];have ho:ops[n]?=some ops[n]:=B1 (by omega);rw[ho];have iT:=h n (by omega);unfold C6 at iT;rw[ho,bD hx] at iT;simp only at iT;have iT:=qp iT;simp only[Option.toList_some,List.append_cancel_left_eq,po,and_true];rw[iT,<- Array.foldl_toList]
  have:∀ (l:List Edge) (s:Nat),(∀ e∈l,Region.binds .any e=true->e.on < n)->List.foldl (fun s e=>s ||| (2 ^ e.on ||| (List.take n ah).getD e.on 0)) s (l.filter (Region.binds .any))=List.foldl (fun s e=>match Region.binds .any e with
    | true=>s ||| (2 ^ e.on ||| ah.getD e.on 0)
    | false=>s) s l:=by
   intro l
   induction l with
   | nil=>intro s _;rfl
   | cons e l ihl=>
    intro s hs;have ht:=fun s=>ihl s fun e' DH=>hs e' (by simp[DH])
    cases hb:Region.binds .any e with
    | true=>
     have:=hs e (by simp) hb;rw[List.filter_cons_of_pos (by simpa using hb)];simp only[ux,hb];rw[ht];congr 3;simp only[aS,qo,an this]
    | false=>
     rw[List.filter_cons_of_neg (by simp[hb])];simp only[ux,hb];rw[ht]
  exact this _ 0 (hlt n _ ho)
theorem qkB {P:Program} {ops:Array Oper} {l ah:List Nat} (h:Mb P ops l ah=true):HE P ops l=true:=by
 unfold Mb at h;simp only[b7] at h;obtain ⟨h1,h2,h3,h4,h5,h6⟩:=h
 have hlt:∀ k o,ops[k]?=some o->∀ e∈o.after.toList,Region.binds .any e=true->e.on < k:=by
  intro k o hk e he hb;have fR:=(fF.1 hk).1;have:=ga.1 h3 k (by simpa using fR);rw[hk] at this;simp only at this;have:=rO.1 this e (by simpa using he);simpa [hb] using this
 have wA:=LG (qp h4) hlt (fun i hi=>ga.1 h5 i (by simpa using hi)) ops.size (aQ _);rw[jQ (by rw[qp h4];exact aQ _)] at wA;unfold HE;simp only[b7];refine ⟨⟨⟨h1,h2⟩,h3⟩,?_⟩;unfold uI;rw[wA];exact h6
theorem qkA {P:Program} {ops:Array Oper} {l ah:List Nat} {p:Nat×Nat} {sp:List (Nat×Nat)} (h:yg P ops l ah (p::sp)=true):P.follows .mixedOrders=true/\l.isPerm (List.range ops.size)=true /\
  ((List.range ops.size).all (fun i=>(match ops[i]? with | some o=>o.after.all fun e=>!Region.binds .any e || decide (e.on < i) | none=>false)))=true/\Bz ops (uI ops) (p::sp) l=true:=by
 unfold yg at h;simp only[b7] at h;obtain ⟨h1,h2,h3,h4,h5,h6⟩:=h
 have hlt:∀ k o,ops[k]?=some o->∀ e∈o.after.toList,Region.binds .any e=true->e.on < k:=by
  intro k o hk e he hb;have fR:=(fF.1 hk).1;have:=ga.1 h3 k (by simpa using fR);rw[hk] at this;simp only at this;have:=rO.1 this e (by simpa using he);simpa [hb] using this
 have wA:=LG (qp h4) hlt (fun i hi=>ga.1 h5 i (by simpa using hi)) ops.size (aQ _);rw[jQ (by rw[qp h4];exact aQ _)] at wA;refine ⟨h1,h2,h3,?_⟩;unfold uI;rw[wA];exact h6
theorem qkq {y x:Oper} {b:Bool} {t1 t t2 u:Nat} (h:ya y x=some (b,t1,t,t2,u)):y.guard=none/\x.guard=none/\x.dst=none/\(∃ v,x.op=.store t2 (.tmp u) v) /\
  ((b=true/\y.op=.load t1 (.tmp t))\/(b=false/\y.dst=none/\∃ v,y.op=.store t1 (.tmp t) v)):=by
 unfold ya at h
 split at h
 ·cases h
 rename_i h1
 split at h
 ·cases h
 rename_i h2
 split at h
 ·cases h
 rename_i h3;split at h
 case h_2=>cases h
 rename_i h4
 split at h
 ·rename_i h5;simp only[bM,dT] at h;obtain ⟨rfl,rfl,rfl,rfl,rfl⟩:=h;exact ⟨h1,h2,h3,⟨_,h4⟩,.inl ⟨rfl,h5⟩⟩
 ·rename_i h5
  split at h
  ·rename_i h6;simp only[bM,dT] at h;obtain ⟨rfl,rfl,rfl,rfl,rfl⟩:=h;exact ⟨h1,h2,h3,⟨_,h4⟩,.inr ⟨rfl,h6,_,h5⟩⟩
  ·cases h
 ·cases h
theorem obj?_set {m:af} {nm:Nat} {e:Option Ent} {n:Nat} (h:n≠nm):af.obj? (m.set nm e) n=m.obj? n:=by
 unfold af.obj?;rw[gF,ai h]
theorem obj?_self {m:af} {nm:Nat} {bx:Bool} {cs cs':List AV} (h:m.obj? nm=some (bx,cs)):af.obj? (m.set nm (some (.obj bx cs'))) nm=some (bx,cs'):=by
 unfold af.obj?;rw[gF,an rfl,an (bF (obj?_get h))]
theorem qoh {cs v1 v2:List AV} {o p:Nat} (h1:o+v1.length<=cs.length) (h2:p+v2.length<=cs.length) (hd:o+v1.length<=p\/p+v2.length<=o):bP (bP cs o v1) p v2=bP (bP cs p v2) o v1:=by
 have l1:=sW h1;have l2:=sW h2;have e1:p+v2.length<=(bP cs o v1).length:=by omega
 have e2:o+v1.length<=(bP cs p v2).length:=by omega
 apply List.ext_getElem
 ·rw[sW e1,sW e2,l1,l2]
 ·intro j tL oV;have k1:=BC e1 j;have k2:=BC e2 j;rw[BC h1] at k1;rw[BC h2] at k2;rw[aS,bD tL,dh] at k1;rw[aS,bD oV,dh] at k2;rw[k1,k2]
  by_cases a:p<=j/\j < p+v2.length
  ·rw[an a,ai (by omega),an a]
  ·rw[ai a]
   by_cases b:o<=j/\j < o+v1.length
   ·rw[an b,an b]
   ·rw[ai b,ai b,ai a]
theorem qpe {s1 s2:Sh} {m m1 m2:af} {x1 x2 v1 v2:AV} (ha:LJ s1.size s2.size x1 x2=true) (h1:aL s1 m x1 v1=some m1) (h2:aL s2 m1 x2 v2=some m2) :
  ∃ m3,aL s2 m x2 v2=some m3/\aL s1 m3 x1 v1=some m2:=by
 unfold LJ at ha
 split at ha
 ·rename_i a o b p;simp only[aL,bc] at h1 h2 ⊢;obtain ⟨⟨bx,cs⟩,g1,h1⟩:=h1;obtain ⟨⟨bx2,cs2⟩,g2,h2⟩:=h2;simp only at h1 h2;split at h1
  case isFalse=>cases h1
  rename_i c1;split at h1
  case isFalse=>cases h1
  rename_i k1;simp only[bM] at h1;subst h1;split at h2
  case isFalse=>cases h2
  rename_i c2;split at h2
  case isFalse=>cases h2
  rename_i k2;simp only[bM] at h2;subst h2;have z1:=s6 k1;have z2:=s6 k2
  by_cases lL:a=b
  ·subst lL;rw[obj?_self g1] at g2;simp only[bM,dT] at g2;obtain ⟨rfl,rfl⟩:=g2;rw[sW (by omega)] at c2;simp only[BEq.rfl,kS,zG,zH,oq] at ha
   refine ⟨m.set a (some (.obj bx (bP cs p v2.cells))),⟨⟨bx,cs⟩,g1,?_⟩,⟨bx,bP cs p v2.cells⟩,obj?_self g1,?_⟩
   ·simp only;rw[an c2,an k2]
   ·simp only;rw[an (by rw[sW (by omega)];exact c1),an k1,xL,xL,qoh (by omega) (by omega) (by omega)]
  ·rw[obj?_set (fun e=>lL e.symm)] at g2
   refine ⟨m.set b (some (.obj bx2 (bP cs2 p v2.cells))),⟨⟨bx2,cs2⟩,g2,?_⟩,⟨bx,cs⟩,?_,?_⟩
   ·simp only;rw[an c2,an k2]
   ·rw[obj?_set lL];exact g1
   ·simp only;rw[an c1,an k1,List.set_comm _ _ lL]
 ·cases ha
theorem Pe {fid b:Nat} {cp:Nat->List AV->Option AV} {ci:Nat->List AV->af->OM} {ops:Array Oper} {i:Nat} {o:Oper} {t:Nat} {x v:Operand} (ho:ops[i]?=some o) (hg:o.guard=none) (hd:o.dst=none) (bB:o.op=.store t x v) (st:St) :
  fH C fid cp ci (some b) ops i st=(jl C.P t).bind fun s=>(aL s st.mem (ev st.tmps x) (ev st.tmps v)).map fun m=>⟨st.tmps,m⟩:=by
 unfold fH;rw[ho];simp only[gX,hg];unfold fT kE;rw[bB];simp only[]
 cases jl C.P t with
 | none=>rfl
 | some s=>
  simp only[aa]
  cases aL s st.mem (ev st.tmps x) (ev st.tmps v) with
  | none=>rfl
  | some m=>simp only[aa,aR,hd,gj]
theorem Y5 {fid b:Nat} {cp:Nat->List AV->Option AV} {ci:Nat->List AV->af->OM} {ops:Array Oper} {i:Nat} {o:Oper} {t:Nat} {x:Operand} (ho:ops[i]?=some o) (hg:o.guard=none) (bB:o.op=.load t x) (st:St) :
  fH C fid cp ci (some b) ops i st=(jl C.P t).bind fun s=>(aj s st.mem (ev st.tmps x)).map fun v=>⟨gj st.tmps o.dst v,st.mem⟩:=by
 unfold fH;rw[ho];simp only[gX,hg];unfold fT kE;rw[bB];simp only[]
 cases jl C.P t with
 | none=>rfl
 | some s=>
  simp only[aa]
  cases aj s st.mem (ev st.tmps x) with
  | none=>rfl
  | some v=>rfl
theorem qm5 {s1 s2:Sh} {m m2:af} {x1 x2 v2:AV} (ha:On x1 x2=true) (h2:aL s2 m x2 v2=some m2):aj s1 m2 x1=aj s1 m x1:=by
 unfold On at ha
 split at ha
 ·rename_i b p
  split at ha
  ·rfl
  ·rename_i a o;have lL:a≠b:=by simpa using ha
   simp only[aL,bc] at h2;obtain ⟨⟨bx,cs⟩,g1,h2⟩:=h2
   split at h2
   ·split at h2
    ·simp only[bM] at h2;subst h2;simp only[aj];rw[obj?_set lL]
    ·cases h2
   ·cases h2
  ·cases ha
 ·cases ha
theorem O0 {fid b:Nat} {cp:Nat->List AV->Option AV} {ci:Nat->List AV->af->OM} {ops:Array Oper} {t:Nat}:∀ (l:List Nat) (s s':St),(∀ k∈l,∀ o,ops[k]?=some o->o.dst≠some t)->ig C fid cp ci (some b) ops l s=some s'->s'.tmps.getD t .any=s.tmps.getD t .any
 | [],s,s',_,h=>by simp only[ig,bM] at h;rw[h]
 | k::l,s,s',hd,h=>by
  simp only[ig,bc] at h;obtain ⟨s1,h1,h2⟩:=h;rw[O0 l s1 s' (fun k' bO=>hd k' (by simp[bO])) h2];obtain ⟨o,v,m1,ho,_,rfl⟩:=ta h1;exact vG (hd k (by simp) o ho)
theorem qpp {fid b:Nat} {cp:Nat->List AV->Option AV} {ci:Nat->List AV->af->OM} {ops:Array Oper} {i j:Nat} {st s1 s2:St} {x y:Oper} (hx:ops[i]?=some x) (hy:ops[j]?=some y) {c:Bool×Nat×Nat×Nat×Nat} (hc:ya y x=some c) (uV:wa ops y x=true) (ru:Dn C.P c st.tmps=true)
  (h1:fH C fid cp ci (some b) ops j st=some s1) (h2:fH C fid cp ci (some b) ops i s1=some s2):∃ s1',fH C fid cp ci (some b) ops i st=some s1'/\fH C fid cp ci (some b) ops j s1'=some s2:=by
 obtain ⟨bb,t1,t,t2,u⟩:=c;obtain ⟨g1,g2,g3,⟨v2,g4⟩,g5⟩:=qkq hc;obtain ⟨a1,a2,a3⟩:=Hl uV;rw[Pe hx g2 g3 g4] at h2 ⊢;simp only[bc,gP] at h2;obtain ⟨sh2,k2,m2,k3,rfl⟩:=h2
 rcases g5 with ⟨rfl,g5⟩ | ⟨rfl,g6,v1,g5⟩
 ·rw[Y5 hy g1 g5] at h1;simp only[bc,gP] at h1;obtain ⟨sh1,k1,v,k4,rfl⟩:=h1;simp only at k3
  have Vv:∀ z t',z=Operand.tmp t'->z∈x.op.operands.toList->y.dst≠some t':=by
   intro z t' hz hm hd;refine a1 t' hd ?_;unfold pK;refine il.2 (.inl (List.mem_filterMap.2 ⟨z,hm,?_⟩));rw[hz]
  have VH:x.op.operands.toList=[.tmp u,v2]:=by rw[g4];rfl
  have e1:ev (gj st.tmps y.dst v) (.tmp u)=ev st.tmps (.tmp u):=Md _ fun t' ht=>vG (Vv _ t' ht (by rw[VH];simp));have e2:ev (gj st.tmps y.dst v) v2=ev st.tmps v2:=Md _ fun t' ht=>vG (Vv _ t' ht (by rw[VH];simp));rw[e1,e2] at k3;refine ⟨⟨st.tmps,m2⟩,by rw[k2,aa,k3];rfl,?_⟩;rw[Y5 hy g1 g5,k1,aa];have:aj sh1 m2 (ev st.tmps (.tmp t))=aj sh1 st.mem (ev st.tmps (.tmp t)):=qm5 ru k3;simp only;rw[this,k4]
  rfl
 ·rw[Pe hy g1 g6 g5] at h1;simp only[bc,gP] at h1;obtain ⟨sh1,k1,m1,k4,rfl⟩:=h1;simp only at k3;unfold Dn at ru;simp only[k1,k2] at ru;obtain ⟨m3,j1,j2⟩:=qpe (x1:=ev st.tmps (.tmp t)) (x2:=ev st.tmps (.tmp u)) ru k4 k3;refine ⟨⟨st.tmps,m3⟩,by rw[k2,aa,j1];rfl,?_⟩;rw[Pe hy g1 g6 g5,k1,aa];simp only;rw[j2]
  rfl
def qfy (C:Cfg) (ops:Array Oper) (sE:St) (i:Nat) (x:Oper) (r:List Nat) (j:Nat):Prop:=∃ y,ops[j]?=some y/\(xg ops y x=true\/∃ bb t1 t t2 u,ya y x=some (bb,t1,t,t2,u)/\wa ops y x=true/\Dn C.P (bb,t1,t,t2,u) sE.tmps=true/\∀ k∈r,∀ o,ops[k]?=some o->o.dst≠some t/\o.dst≠some u)
theorem Uj {fid b:Nat} {cp:Nat->List AV->Option AV} {ci:Nat->List AV->af->OM} {ops:Array Oper} {i:Nat} {x:Oper} (hx:ops[i]?=some x):∀ (l:List Nat) (st s':St),l.Nodup->i∈l->uo ops b st.mem l->(∀ (p:List Nat) (j:Nat) (r:List Nat),l=p++j::r->i∈r->qfy C ops s' i x (j::r) j) ->
  ig C fid cp ci (some b) ops l st=some s'->∃ s1,fH C fid cp ci (some b) ops i st=some s1/\ig C fid cp ci (some b) ops (l.erase i) s1=some s'
 | [],_,_,_,hi,_,_,_=>by simp at hi
 | j::l,st,s',hnd,hi,hk,wS,hr=>by
  have A8:=hr;simp only[ig,bc] at hr;obtain ⟨s1,h1,hr⟩:=hr
  by_cases he:j=i
  ·subst he;exact ⟨s1,h1,by simpa using hr⟩
  ·have b6:i∈l:=by rcases gE.1 hi with h | h<;>first | exact absurd h.symm he | exact h
   have yF:=(uC.1 hnd);obtain ⟨s2,h2,wO⟩:=Uj hx l s1 s' yF.2 b6 (Jf h1 (fun k bO=>hk k (by simp[bO])) yF.1) (fun p k r gg M4=>wS (j::p) k r (by rw[gg];rfl) M4) hr;obtain ⟨y,hy,bg⟩:=wS [] j l rfl b6
   have qms:∃ s1',fH C fid cp ci (some b) ops i st=some s1'/\fH C fid cp ci (some b) ops j s1'=some s2:=by
    rcases bg with bg | ⟨bb,t1,t,t2,u,hc,uV,ru,U5⟩
    ·exact swap hy hx he bg (fun k bO=>hk k (by
      simp only[gE,CE,or_false] at bO
      rcases bO with rfl | rfl
      ·simp
      ·simp[b6])) h1 h2
    ·refine qpp hx hy hc uV ?_ h1 h2;have ht:=O0 (t:=t) (j::l) st s' (fun k bO o ho=>(U5 k bO o ho).1) A8;have hu:=O0 (t:=u) (j::l) st s' (fun k bO o ho=>(U5 k bO o ho).2) A8;unfold Dn at ru ⊢;simp only[ht,hu] at ru;exact ru
   obtain ⟨s1',k1,k2⟩:=qms;refine ⟨s1',k1,?_⟩
   have DI:(j::l).erase i=j::l.erase i:=by
    rw[List.erase_cons,ai (by simpa using he)]
   rw[DI];simp only[ig,k2,aa];exact wO
theorem XJ {ops:Array Oper} {ah:List Nat} {sp:List (Nat×Nat)}:∀ {l:List Nat},Bz ops ah sp l=true->∀ (p:List Nat) (j:Nat) (r:List Nat),l=p++j::r->∀ i∈r,(ah.getD i 0).testBit j=true\/(∃ x y,ops[j]?=some x/\ops[i]?=some y/\xg ops x y=true)\/(yr sp j i=true/\L0 ops ah j i (j::r)=true)
 | [],_,p,j,r,h,_,_=>by simp at h
 | k::l,hp,p,j,r,h,i,hi=>by
  simp only[Bz,b7,ga] at hp
  match p,h with
  | [],h=>
   simp only[bV,po] at h;obtain ⟨rfl,rfl⟩:=h;have:=hp.1 i hi;simp only[zH,b7] at this
   rcases this with (h | h) | h
   ·exact .inl h
   ·refine .inr (.inl ?_)
    split at h
    ·exact ⟨_,_,by assumption,by assumption,h⟩
    ·cases h
   ·exact .inr (.inr h)
  | k'::p,h=>
   simp only[cn,po] at h;obtain ⟨rfl,rfl⟩:=h;exact XJ hp.2 p j r rfl i hi
theorem qhI (hC:CfgOk C) {callI:Nat->List AV->af->OM} (hI:rP C callI) {fid b:Nat} {ops:Array Oper} {Q:Exit->Act->World->Prop} {canon:List Nat} (hlt:∀ k o,ops[k]?=some o->∀ e∈o.after.toList,Region.binds .any e=true->e.on < k)
  {sp:List (Nat×Nat)} {sE:St} (A6:Bz ops (uI ops) sp canon=true) (ru:∀ j i,yr sp j i=true->Dm C.P ops j i sE.tmps=true) (hnd:canon.Nodup):∀ (l:List Nat) (n:Nat),l.length=n->l.Sublist canon->∀ (listed:Array Bool),listed.size=ops.size->(∀ x,x < ops.size->(listed.getD x true=true↔x∉l))->(∀ x∈l,x < ops.size) ->
  (∀ k o,k < ops.size->k∉l->ops[k]?=some o->∀ e∈o.after.toList,Region.binds .any e=true->e.on∉l) ->
  ∀ (st s':St) (a:Act) (w:World) (g:G),s'=sE->ig C fid (jG callI) callI (some b) ops l st=some s'->uo ops b st.mem l->StR B w g st a ->
  (∀ a' w' g',StR B w' g' s' a'->Step B w g w' g'->iW C.P a' a->Q .normal a' w')->wpAny C.P .any ops Q n listed a w:=by
 intro l n hn
 induction n generalizing l with
 | zero=>
  intro gZ listed hsz jt hin rp st s' a w g Nx hr hk hs hq;have ve:l=[]:=oN hn;subst ve;simp only[ig,bM] at hr;subst hr;refine ⟨?_,hq a w g hs (Step.refl _ _ _) (iW.refl _ _)⟩;unfold Region.ready;rw[List.filter_eq_nil_iff];intro x hx;have:listed.getD x true=true:=(jt x (by simpa using hx)).2 (by simp);simp[this]
 | succ n ih=>
  intro gZ listed hsz jt hin rp st s' a w g Nx hr hk hs hq
  have DW:∀ i∈Region.ready .any ops listed,i∈l/\i < ops.size/\∃ o,ops[i]?=some o/\∀ e∈o.after.toList,Region.binds .any e=true->e.on∉l:=by
   intro i hi;unfold Region.ready at hi;simp only[rX,uz,b7,xy] at hi;obtain ⟨h1,h2,h3⟩:=hi
   have b6:i∈l:=by
    by_cases h:i∈l
    ·exact h
    ·have:=(jt i h1).2 h;rw[this] at h2;cases h2
   refine ⟨b6,h1,ops[i],by simp[h1],fun e he hb lT=>?_⟩;have ho:ops[i]?=some ops[i]:=by simp[h1]
   rw[ho] at h3;simp only[aR,dh] at h3;have h4:=rO.1 h3 e (by simpa using he);simp only[hb,kS,zG] at h4;have h5:=hlt i _ ho e he hb
   have h6:listed.getD e.on true=true:=by
    have hes:e.on < listed.size:=by omega
    simp only[Array.getD,hes,dif_pos] at h4 ⊢;exact h4
   exact (jt e.on (by omega)).1 h6 lT
  refine ⟨fun DQ=>?_,fun i hi=>?_⟩
  ·
   exfalso;have hne:l≠[]:=fun h=>by rw[h] at hn;simp at hn
   obtain ⟨mn,wI,yC⟩:∃ mn∈l,∀ x∈l,mn<=x:=by
    exact Ip l hne
   have iN:=hin mn wI
   have:mn∈Region.ready .any ops listed:=by
    unfold Region.ready;simp only[rX,uz,b7,xy]
    refine ⟨iN,?_,?_⟩
    ·cases hb:listed.getD mn true with
     | false=>rfl
     | true=>exact absurd wI ((jt mn iN).1 hb)
    ·have ho:ops[mn]?=some ops[mn]:=by simp[iN]
     rw[ho];simp only[aR,dh];rw[rO];intro e he
     by_cases hb:Region.binds .any e=true
     ·have h5:=hlt mn _ ho e (by simpa using he) hb;have h6:e.on∉l:=fun h=>by have:=yC _ h;omega
      have h7:=(jt e.on (by omega)).2 h6;have hes:e.on < listed.size:=by omega
      have h8:listed.getD e.on false=true:=by
       simp only[Array.getD,hes,dif_pos] at h7 ⊢;exact h7
      rw[h8];simp
     ·simp at hb;simp[hb]
   rw[DQ] at this;simp at this
  ·obtain ⟨b6,j9,x,hx,uW⟩:=DW i hi
   obtain ⟨s1,h1,h2⟩:=Uj hx l st s' (hnd.sublist gZ) b6 hk (fun p j r gg M4=>by
    have lP:j∈l:=by rw[gg];simp
    obtain ⟨pre,post,tF,VK⟩:∃ pc qc,canon=pc++j::qc/\∀ y∈r,y∈qc:=by
     have VQ:=gZ;rw[gg] at VQ;obtain ⟨c1,c2,hc,lA,mJ⟩:=List.append_sublist_iff.1 VQ;obtain ⟨d1,d2,hd,_,hd3⟩:=List.cons_sublist_iff.1 mJ;obtain ⟨e1,e2,he⟩:=z8 ‹j∈d1›;exact ⟨c1++e1,e2++d2,by rw[hc,hd,he];simp,fun y hy=>il.2 (.inr (hd3.subset hy))⟩
    rcases XJ A6 pre j post tF i (VK i M4) with h | ⟨y,x',hy,iu,bg⟩ | ⟨hsp,sy⟩
    ·exfalso;have fW:((nC ops ops.size).getD i 0).testBit j=true:=h
     have:=Hk (D:=fun k=>k∉l) (fun k o bO kL e he hb=>by
      rcases qW k ops.size with hk1 | hk1
      ·exact rp k o hk1 bO kL e he hb
      ·rw[B2 hk1] at kL;cases kL) hlt ops.size i x j9 hx uW j fW
     exact this lP
    ·obtain rfl:x=x':=by simpa [hx] using iu
     exact ⟨y,hy,.inl bg⟩
    ·have hd:=ru j i hsp;unfold Dm at hd;unfold L0 at sy
     cases hy:ops[j]? with
     | none=>rw[hy] at hd;cases hd
     | some y=>
      rw[hy,hx] at hd sy;simp only at hd sy
      cases MQ:ya y x with
      | none=>rw[MQ] at hd;cases hd
      | some c=>
       obtain ⟨bb,t1,t,t2,u⟩:=c;rw[MQ] at hd sy;simp only[b7,ga] at hd sy;refine ⟨y,hy,.inr ⟨bb,t1,t,t2,u,MQ,sy.1,by rw[Nx];exact hd,fun k bO o ho=>?_⟩⟩
       have hkm:k∈j::post:=by
        rcases gE.1 bO with h | h
        ·simp[h]
        ·exact fJ _ (VK k h)
       have:=sy.2 k hkm;rw[ho] at this;simp only[b7,zH,bne_iff_ne,ne_eq] at this;refine ⟨this.1,this.2.resolve_right fun h=>?_⟩;have fW:((nC ops ops.size).getD i 0).testBit k=true:=h
       have:=Hk (D:=fun k=>k∉l) (fun k o bO kL e he hb=>by
        rcases qW k ops.size with hk1 | hk1
        ·exact rp k o hk1 bO kL e he hb
        ·rw[B2 hk1] at kL;cases kL) hlt ops.size i x j9 hx uW k fW
       exact this (by rw[gg];exact il.2 (.inr bO))) hr
   refine Ji hC hI h1 hs (fun b' iy=>by cases iy;exact fun k bO=>hk k (by simp at bO;rw[bO];exact b6)) fun a' w' g' gC s hd=>?_
   have fW:∀ y,y∈l.erase i↔y∈l/\y≠i:=fun y=>by
    rw[(hnd.sublist gZ).mem_erase_iff];exact And.comm
   refine ih (l.erase i) (by rw[List.length_erase_of_mem b6];omega) (List.Sublist.trans List.erase_sublist gZ) (listed.setIfInBounds i true) (by simpa using hsz) (fun y hy=>?_) (fun y hy=>hin y ((fW y).1 hy).1) (fun k o hk1 kA kL e he hb lT=>?_) s1 s' a' w' g' Nx h2 (fun k bO o ho hm=>?_) gC fun a'' w'' g'' sM s' kJ=>hq a'' w'' g'' sM (s.trans s') (kJ.trans hd)
   ·have p9:y < listed.size:=by omega
    have hg:(listed.setIfInBounds i true).getD y true=if i=y then true else listed.getD y true:=by
     simp only[jE,Fc]
     by_cases mI:i=y
     ·subst mI;simp[p9]
     ·simp[mI]
    rw[hg,fW]
    by_cases mI:i=y
    ·subst mI;simp
    ·rw[ai mI,jt y hy]
     constructor
     ·intro h h';exact h h'.1
     ·intro h h';exact h ⟨h',fun he=>mI he.symm⟩
   ·have wM:=(fW _).1 lT
    by_cases jH:k=i
    ·subst jH;obtain rfl:x=o:=by simpa [hx] using kL
     exact uW e he hb wM.1
    ·exact rp k o hk1 (fun h=>kA ((fW k).2 ⟨h,jH⟩)) kL e he hb wM.1
   ·exact Jf h1 (fun k' M7=>hk k' ((fW k').1 M7).1) (fun h=>((fW i).1 h).2 rfl) k bO o ho hm
theorem qkF (hC:CfgOk C) {callI:Nat->List AV->af->OM} (hI:rP C callI) {R:Type} {fid id:Nat} {ops:Array Oper} {Q:Exit->Act->World->Prop} {canon:List Nat} {ah:List Nat} {pr:Nat×Nat} {sp:List (Nat×Nat)} (bg:yg C.P ops canon ah (pr::sp)=true) {st:St} {K:St->Option R} {r:R} {a:Act}
  (h:mq C fid (jG callI) callI (some st.mem.length) ops canon ⟨st.tmps,cU st.mem (fL ops ops.size)⟩ (fun st'=>td C.P ops st' K (pr::sp))=some r) (hs:StR B w g st a)
  (hn:∀ s' a' w' g',K s'=some r->StR B w' g' s' a'->Step B w g w' g'->iW C.P a' a->Q .normal a' w'):(Code.region id ops true).wp C.P Q a w:=by
 obtain ⟨h1,h2,h3,h4⟩:=qkA bg;have lU:canon.Perm (List.range ops.size):=List.isPerm_iff.1 h2
 have hlt:∀ k o,ops[k]?=some o->∀ e∈o.after.toList,Region.binds .any e=true->e.on < k:=by
  intro k o hk e he hb;have fR:=(fF.1 hk).1;have:=ga.1 h3 k (by simpa using fR);rw[hk] at this;simp only at this;have:=rO.1 this e (by simpa using he);simpa [hb] using this
 rw[sZ,Yq] at h;simp only[bc] at h;obtain ⟨s',hr,hK⟩:=h;obtain ⟨hK,ru⟩:=Zo _ hK;refine wp_region_any h1 ?_
 refine qhI hC hI hlt h4 ru (lU.nodup_iff.2 List.nodup_range) canon ops.size (by rw[lU.length_eq];simp) (List.Sublist.refl _) _ (by simp) (fun x hx=>?_) (fun x hx=>by simpa using lU.mem_iff.1 hx) (fun k o hk bO=>?_) _ s' a _ g rfl hr (We ops st.mem canon) ⟨hs.tmp.step (Step.drew B w g),Xi (B:=B) (w:=w.drew) (g:=g) hs.mem.drew _,hs.size⟩ ?_
 ·have:x∈canon:=lU.mem_iff.2 (by simpa using hx);simp[this,Array.getD,hx]
 ·exact absurd (lU.mem_iff.2 (by simpa using hk)) bO
 ·intro a' w' g' gC s hd;exact hn s' a' w' g' hK gC ((Step.drew B w g).trans s) hd
end
end Go.Ab
namespace Go.Ab
open Go.RowKit
section
variable {R:Type}
open Classical in
noncomputable def tW (p:Prop) (x:Option R):Option R:=if p then x else none
theorem vr {p:Prop} {x:Option R} (h:p):tW p x=x:=an h
theorem qmF {p:Prop} {x:Option R} (h:¬ p):tW p x=none:=ai h
def wm (o:Oper) (ts:List AV):AV:=match o.dst with
 | some d=>ts.getD d .any
 | none=>.any
def pn (C:Cfg) (fid:Nat) (ops:Array Oper) (y:Nat) (s:St):Prop:=match ops[y]? with
 | some o=>gX C fid (fun _ _=>none) (fun _ _ _=>none) none ops y o s.tmps s.mem=some (wm o s.tmps,s.mem)
 | none=>True
noncomputable def wh (C:Cfg) (fid:Nat) (ops:Array Oper):List Nat->St->Option R->Option R
 | [],_,x=>x
 | y::ys,s,x=>tW (pn C fid ops y s) (wh C fid ops ys s x)
theorem Az {C:Cfg} {fid:Nat} {ops:Array Oper}:∀ {ys:List Nat} {s:St} {x:Option R},(∀ y∈ys,pn C fid ops y s)->wh C fid ops ys s x=x
 | [],_,_,_=>rfl
 | y::ys,s,x,h=>by
  rw[wh,vr (h y fN)];exact Az fun z hz=>h z (fJ _ hz)
theorem LQ {C:Cfg} {fid:Nat} {ops:Array Oper}:∀ {ys:List Nat} {s:St} {x:Option R},¬ (∀ y∈ys,pn C fid ops y s)->wh C fid ops ys s x=none
 | [],_,_,h=>absurd (fun _ hz=>by cases hz) h
 | y::ys,s,x,h=>by
  rw[wh]
  by_cases hy:pn C fid ops y s
  ·rw[vr hy]
   exact LQ fun hh=>h fun z hz=>by
    rcases gE.1 hz with rfl | hz
    ·exact hy
    ·exact hh z hz
  ·exact qmF hy
theorem LR {C:Cfg} {fid:Nat} {ops:Array Oper} {ys:List Nat} {s:St} {x:Option R} {r:R} (h:wh C fid ops ys s x=some r):(∀ y∈ys,pn C fid ops y s)/\x=some r:=by
 by_cases hc:∀ y∈ys,pn C fid ops y s
 ·rw[Az hc] at h;exact ⟨hc,h⟩
 ·rw[LQ hc] at h;cases h
noncomputable def qf (C:Cfg) (fid:Nat) (callP:Nat->List AV->Option AV) (callI:Nat->List AV->af->OM) (lt:List (Nat×List Nat)) (ops:Array Oper):List Nat->St->(St->Option R)->Option R
 | [],st,K=>K st
 | i::l,st,K=>mq C fid callP callI none ops [i] st fun s1=>wh C fid ops (qa lt i) s1 (qf C fid callP callI lt ops l s1 K)
end
section
variable {C:Cfg} {fid:Nat} {callP:Nat->List AV->Option AV} {callI:Nat->List AV->af->OM}
theorem xc {R:Type} (lt:List (Nat×List Nat)) (ops:Array Oper) (i:Nat) (l:List Nat) (st:St) (K:St->Option R) :
  qf C fid callP callI lt ops (i::l) st K=(fH C fid callP callI none ops i st).bind fun s1=>wh C fid ops (qa lt i) s1 (qf C fid callP callI lt ops l s1 K):=by
 rw[qf,sZ];simp only[ig];cases fH C fid callP callI none ops i st<;>rfl
def vK (C:Cfg) (fid:Nat) (callP:Nat->List AV->Option AV) (callI:Nat->List AV->af->OM) (lt:List (Nat×List Nat)) (ops:Array Oper):List Nat->List Nat->St->Prop
 | _,[],_=>True
 | done,i::l,st=>∀ s1,fH C fid callP callI none ops i st=some s1->(∀ y∈qa lt i,y∈done->pn C fid ops y s1)/\vK C fid callP callI lt ops (i::done) l s1
theorem vK.anti {lt:List (Nat×List Nat)} {ops:Array Oper}:∀ {l done done':List Nat} {st:St},vK C fid callP callI lt ops done l st->(∀ y∈done',y∈done)->vK C fid callP callI lt ops done' l st
 | [],_,_,_,_,_=>trivial
 | i::l,done,done',st,h,hd=>fun s1 h1=>by
  obtain ⟨a,b⟩:=h s1 h1;refine ⟨fun y hy hyd=>a y hy (hd y hyd),b.anti fun y hy=>?_⟩
  rcases gE.1 hy with rfl | hy
  ·exact fN
  ·exact fJ _ (hd y hy)
theorem YD {R:Type} {lt:List (Nat×List Nat)} {ops:Array Oper}:∀ {l:List Nat} {st:St} {K:St->Option R} {r:R} (done:List Nat),qf C fid callP callI lt ops l st K=some r ->
  ∃ s',ig C fid callP callI none ops l st=some s'/\K s'=some r/\vK C fid callP callI lt ops done l st
 | [],st,K,r,_,h=>⟨st,rfl,h,trivial⟩
 | i::l,st,K,r,done,h=>by
  rw[xc,bc] at h;obtain ⟨s1,h1,h⟩:=h;obtain ⟨hc,h⟩:=LR h;obtain ⟨s',h2,h3,h4⟩:=YD (i::done) h;refine ⟨s',by simp only[ig,h1,aa];exact h2,h3,fun s1' so=>?_⟩;rw[h1] at so;obtain rfl:=pU so;exact ⟨fun y hy _=>hc y hy,h4⟩
theorem LY {o:Oper} (h:ja o=.N):jh o=.N:=by
 unfold ja at h
 split at h
 ·assumption
 ·split at h<;>cases h
 ·cases h
theorem TQ {o:Oper} (h:ja o=.L):∃ t x,o.op=.load t x:=by
 unfold ja at h
 split at h
 ·cases h
 ·split at h
  ·rename_i t x ho;exact ⟨t,x,ho⟩
  ·cases h
 ·cases h
theorem IJ {d:Option Nat} {o:Oper} {ρ:Operand->AV} {m m1:af} {v:AV} (hc:ja o=.L) (h:fT C fid callP callI d o ρ m=some (v,m1)):m1=m:=by
 obtain ⟨t,x,ho⟩:=TQ hc;unfold fT kE at h;rw[ho] at h;simp only at h
 split at h
 ·obtain ⟨v',h1,h2⟩:=bc.1 h;simp only[bM,dT] at h2;exact h2.2.symm
 ·cases h
theorem qpt {ops:Array Oper} {i j:Nat} {st s1 s2:St} {x y:Oper} (hx:ops[i]?=some x) (hy:ops[j]?=some y) (bg:vH ops x y=true)
  (h1:fH C fid callP callI none ops i st=some s1) (h2:fH C fid callP callI none ops j s1=some s2):∃ s1',fH C fid callP callI none ops j st=some s1'/\fH C fid callP callI none ops i s1'=some s2:=by
 obtain ⟨x',vi,mi,iu,oD,rfl⟩:=ta h1;obtain rfl:x=x':=by simpa [hx] using iu
 obtain ⟨y',vj,mj,yO,kB,rfl⟩:=ta h2;obtain rfl:y=y':=by simpa [hy] using yO
 unfold vH at bg;simp only[b7] at bg;obtain ⟨tH,uV⟩:=bg;obtain ⟨a1,a2,a3⟩:=Hl uV;simp only at kB;have cj:∀ m,gX C fid callP callI none ops j y (gj st.tmps x.dst vi) m=gX C fid callP callI none ops j y st.tmps m:=fun m=>y7 fun t ht=>vG fun hd=>a1 t hd ht;have ci:∀ v m,gX C fid callP callI none ops i x (gj st.tmps y.dst v) m=gX C fid callP callI none ops i x st.tmps m:=fun v m=>y7 fun t ht=>vG fun hd=>a2 t hd ht;rw[cj] at kB
 have enough:∀ m1,gX C fid callP callI none ops j y st.tmps st.mem=some (vj,m1)->gX C fid callP callI none ops i x st.tmps m1=some (vi,mj) ->
   ∃ s1',fH C fid callP callI none ops j st=some s1'/\fH C fid callP callI none ops i s1'=some ⟨gj (gj st.tmps x.dst vi) y.dst vj,mj⟩:=by
  intro m1 e1 e2;refine ⟨⟨gj st.tmps y.dst vj,m1⟩,by simp[fH,hy,e1],?_⟩;simp only[fH,hx,ci,e2,aR];rw[O5 a3]
 have nI:ja x=.N->mi=st.mem/\∀ m',gX C fid callP callI none ops i x st.tmps m'=some (vi,m'):=fun hc=>by
  rcases oM oD with ⟨hf,hall⟩ | ⟨rfl,hall⟩
  ·obtain ⟨rfl,h⟩:=Bw (LY hc) hf;exact ⟨rfl,fun m'=>(hall m').trans (h m')⟩
  ·exact ⟨rfl,hall⟩
 have nJ:ja y=.N->mj=mi/\∀ m',gX C fid callP callI none ops j y st.tmps m'=some (vj,m'):=fun hc=>by
  rcases oM kB with ⟨hf,hall⟩ | ⟨rfl,hall⟩
  ·obtain ⟨rfl,h⟩:=Bw (LY hc) hf;exact ⟨rfl,fun m'=>(hall m').trans (h m')⟩
  ·exact ⟨rfl,hall⟩
 have lI:ja x=.L->mi=st.mem:=fun hc=>by
  rcases oM oD with ⟨hf,_⟩ | ⟨rfl,_⟩
  ·exact IJ hc hf
  ·rfl
 have lJ:ja y=.L->mj=mi:=fun hc=>by
  rcases oM kB with ⟨hf,_⟩ | ⟨rfl,_⟩
  ·exact IJ hc hf
  ·rfl
 cases mZ:ja x with
 | N=>
  obtain ⟨rfl,hall⟩:=nI mZ;exact enough mj kB (hall mj)
 | L=>
  obtain rfl:=lI mZ
  cases j8:ja y with
  | N=>
   obtain ⟨rfl,hall⟩:=nJ j8;exact enough _ kB oD
  | L=>
   obtain rfl:=lJ j8;exact enough _ kB oD
  | _=>rw[mZ,j8] at tH;cases tH
 | _=>
  cases j8:ja y with
  | N=>
   obtain ⟨rfl,hall⟩:=nJ j8;exact enough _ (hall _) oD
  | _=>rw[mZ,j8] at tH;cases tH
theorem qnN {cp':Nat->List AV->Option AV} {ci':Nat->List AV->af->OM} {d d':Option Nat} {o:Oper} {ρ:Operand->AV} {m:af} (hc:ja o=.L):fT C fid callP callI d o ρ m=fT C fid cp' ci' d' o ρ m:=by
 obtain ⟨t,x,ho⟩:=TQ hc;unfold fT kE;rw[ho]
theorem qnQ {cp':Nat->List AV->Option AV} {ci':Nat->List AV->af->OM} {ops:Array Oper} {i:Nat} {o:Oper} {ts:List AV} {m:af} (hc:ja o=.L):gX C fid callP callI none ops i o ts m=gX C fid cp' ci' none ops i o ts m:=by
 unfold gX;rw[qnN (callP:=callP) (callI:=callI) (cp':=cp') (ci':=ci') (d':=Option.map (· + fL ops i) none) hc]
theorem Du {ts:List AV} {d:Option Nat} {v:AV} {t:Nat}:(gj ts d v).getD t .any=if d=some t/\t < ts.length then v else ts.getD t .any:=by
 cases d with
 | none=>simp[gj]
 | some d=>
  simp only[gj,aS,CB,bM]
  by_cases h:d=t
  ·subst h
   by_cases hl:d < ts.length
   ·simp[hl]
   ·simp[hl]
  ·simp[h]
theorem pn.same {ops:Array Oper} {y:Nat} {s s':St} (hm:s'.mem=s.mem) (ht:∀ oy,ops[y]?=some oy->(∀ t∈pK ops oy,s'.tmps.getD t .any=s.tmps.getD t .any)/\wm oy s'.tmps=wm oy s.tmps) (h:pn C fid ops y s):pn C fid ops y s':=by
 unfold pn at h ⊢
 cases ho:ops[y]? with
 | none=>trivial
 | some oy=>
  rw[ho] at h;simp only at h ⊢;obtain ⟨h1,h2⟩:=ht oy ho;rw[y7 h1,h2,hm];exact h
theorem qpq {ops:Array Oper} {i j:Nat} {st s1 s2:St} {x y:Oper} (hx:ops[i]?=some x) (hy:ops[j]?=some y) (bg:yU ops y x=true)
  (h1:fH C fid callP callI none ops j st=some s1) (h2:fH C fid callP callI none ops i s1=some s2) (hc:pn C fid ops j s2):∃ s1',fH C fid callP callI none ops i st=some s1'/\fH C fid callP callI none ops j s1'=some s2:=by
 obtain ⟨y',vj,mj,yO,kB,rfl⟩:=ta h1;obtain rfl:y=y':=by simpa [hy] using yO
 obtain ⟨x',vi,mi,iu,oD,rfl⟩:=ta h2;obtain rfl:x=x':=by simpa [hx] using iu
 unfold yU at bg;simp only[b7] at bg;obtain ⟨hcl,uV,vo⟩:=bg
 have hcl:ja y=.L:=by split at hcl<;>first | assumption | cases hcl
 obtain ⟨a1,a2,a3⟩:=Hl uV;have vo:∀ d,y.dst=some d->d∉pK ops y:=fun d hd=>by rw[hd] at vo;simpa using vo
 have Ni:mj=st.mem:=by
  rcases oM kB with ⟨hf,_⟩ | ⟨rfl,_⟩
  ·exact IJ hcl hf
  ·rfl
 subst Ni;simp only at oD
 have qmg:gX C fid callP callI none ops i x st.tmps st.mem=some (vi,mi):=by
  rw[<- oD];exact (y7 fun t ht=>vG fun hd=>a1 t hd ht).symm
 unfold pn at hc;rw[hy] at hc;simp only at hc
 have oV:gX C fid callP callI none ops j y (gj st.tmps x.dst vi) mi=some (wm y (gj (gj st.tmps y.dst vj) x.dst vi),mi):=by
  rw[qnQ (callP:=callP) (callI:=callI) (cp':=fun _ _=>none) (ci':=fun _ _ _=>none) hcl,<- hc];refine y7 fun t ht=>?_;rw[Du,Du,Du];have:y.dst≠some t:=fun hd=>vo t hd ht;have hl:(gj st.tmps y.dst vj).length=st.tmps.length:=by cases y.dst<;>simp[gj]
  simp only[this,false_and,me,hl]
 refine ⟨⟨gj st.tmps x.dst vi,mi⟩,by simp[fH,hx,qmg],?_⟩;simp only[fH,hy,oV,aR,bM,St.mk.injEq,and_true]
 cases hd:y.dst with
 | none=>simp[gj]
 | some d=>
  have VX:x.dst≠some d:=fun he=>by rcases a3 with h | h<;>simp_all
  have e1:wm y (gj (gj st.tmps (some d) vj) x.dst vi)=if d < st.tmps.length then vj else .any:=by
   unfold wm;rw[hd];simp only;rw[Du,Du];simp only[VX,false_and,me,true_and]
   by_cases hl:d < st.tmps.length
   ·rw[an hl,an hl]
   ·rw[ai hl,ai hl];simp[aS,n5 (vR hl)]
  rw[e1]
  by_cases hl:d < st.tmps.length
  ·rw[an hl];exact (O5 (.inr (fun he=>VX he))).trans rfl |>.symm▸rfl
  ·have wE:st.tmps.length<=d:=vR hl
   have hn:∀ (ts:List AV) v,ts.length=st.tmps.length->gj ts (some d) v=ts:=fun ts v hle=>by
    simp only[gj];exact List.set_eq_of_length_le (hle▸wE)
   rw[hn _ _ (by cases x.dst<;>simp[gj]),hn st.tmps vj rfl]
theorem Jh {ops:Array Oper} {i:Nat} {x:Oper} {st s1:St} {base:Option Nat} (hx:ops[i]?=some x) (h:fH C fid callP callI base ops i st=some s1) (t:Nat) (ht:x.dst≠some t):s1.tmps.getD t .any=st.tmps.getD t .any:=by
 obtain ⟨x',v,m,iu,_,rfl⟩:=ta h;obtain rfl:x=x':=by simpa [hx] using iu
 exact vG ht
theorem Y6 {ops:Array Oper} {i:Nat} {x:Oper} {st s1:St} (hx:ops[i]?=some x) (h:fH C fid callP callI none ops i st=some s1) (hc:ja x=.N\/ja x=.L):s1.mem=st.mem:=by
 obtain ⟨x',v,m,iu,hr,rfl⟩:=ta h;obtain rfl:x=x':=by simpa [hx] using iu
 rcases oM hr with ⟨hf,_⟩ | ⟨rfl,_⟩
 ·rcases hc with hc | hc
  ·exact (Bw (LY hc) hf).1
  ·exact IJ hc hf
 ·rfl
def xS (ops:Array Oper) (lt:List (Nat×List Nat)) (y:Nat) (l:List Nat):Prop:=(lt.any fun p=>p.2.contains y)=true->∀ oy,ops[y]?=some oy->∀ k∈l,∀ o,ops[k]?=some o->∀ d,o.dst=some d->d∉pK ops oy/\oy.dst≠some d
theorem Wq {lt:List (Nat×List Nat)} {i y:Nat} (h:y∈qa lt i):(lt.any fun p=>p.2.contains y)=true:=by
 induction lt with
 | nil=>cases h
 | cons p lt ih=>
  obtain ⟨k,ys⟩:=p;simp only[qa] at h;simp only[List.any_cons,zH]
  split at h
  ·exact .inl (by simpa using h)
  ·exact .inr (ih h)
theorem qpd {ops:Array Oper} {x:Oper} {l:List Nat} (h:Y3 ops x l=true):∀ k∈l,∀ o,ops[k]?=some o->∀ d,o.dst=some d->d∉pK ops x/\x.dst≠some d:=by
 intro k hk o ho d hd;have:=ga.1 h k hk;rw[ho] at this;simp only[hd] at this;simpa using this
structure Facts (ops:Array Oper) (lt:List (Nat×List Nat)) (l:List Nat):Prop where
 late:∀ j∈l,∀ x,ops[j]?=some x->qa lt j≠[]->ja x=.W
 still:∀ (p q:List Nat) (j:Nat),l=p++j::q->xS ops lt j q
theorem Facts.tail {ops:Array Oper} {lt:List (Nat×List Nat)} {j:Nat} {l:List Nat} (h:Facts ops lt (j::l)):Facts ops lt l:=
 ⟨fun k hk=>h.late k (fJ _ hk),fun p q k e=>h.still (j::p) q k (by rw[e];rfl)⟩
theorem xS.sub {ops:Array Oper} {lt:List (Nat×List Nat)} {y:Nat} {l l':List Nat} (h:xS ops lt y l) (hs:∀ k∈l',k∈l):xS ops lt y l':=fun a oy b k hk=>h a oy b k (hs k hk)
theorem Facts.sub {ops:Array Oper} {lt:List (Nat×List Nat)} {l l':List Nat} (h:Facts ops lt l) (hs:l'.Sublist l):Facts ops lt l':=by
 refine ⟨fun k hk=>h.late k (hs.subset hk),fun p q j e=>?_⟩;subst e;obtain ⟨c1,c2,rfl,lA,mJ⟩:=List.append_sublist_iff.1 hs;obtain ⟨d1,d2,rfl,yt,DF⟩:=List.cons_sublist_iff.1 mJ;obtain ⟨e1,e2,rfl⟩:=z8 yt;have:=h.still (c1++e1) (e2++d2) j (by simp);exact this.sub fun k hk=>il.2 (.inr (DF.subset hk))
theorem XL {ops:Array Oper} {ah:List Nat} {lt:List (Nat×List Nat)}:∀ {l:List Nat},vC ops ah lt l=true->Facts ops lt l
 | [],_=>⟨fun _ h=>by simp at h,fun p q j e=>by simp at e⟩
 | j::l,h=>by
  simp only[vC,b7] at h;obtain ⟨⟨_,h1⟩,h2⟩:=h;have ih:=XL h2
  have hj:∀ x,ops[j]?=some x->(qa lt j≠[]->ja x=.W)/\xS ops lt j l:=fun x hx=>by
   rw[hx] at h1;simp only[b7,zH] at h1
   refine ⟨fun hne=>?_,fun ha oy H8=>?_⟩
   ·have:=h1.1
    split at this
    ·rename_i he;exact absurd he hne
    ·split at this<;>first | assumption | cases this
   ·obtain rfl:x=oy:=by simpa [hx] using H8
    rcases h1.2 with hh | hh
    ·rw[ha] at hh;cases hh
    ·exact qpd hh
  refine ⟨fun k hk x hx=>?_,fun p q k e=>?_⟩
  ·rcases gE.1 hk with rfl | hk
   ·exact (hj x hx).1
   ·exact ih.late k hk x hx
  ·match p,e with
   | [],e=>
    simp only[bV,po] at e;obtain ⟨rfl,rfl⟩:=e
    cases hx:ops[j]? with
    | none=>intro _ oy H8;rw[hx] at H8;cases H8
    | some x=>exact (hj x hx).2
   | k'::p,e=>
    simp only[cn,po] at e;exact ih.still p q k e.2
theorem qnY {ops:Array Oper} {ah:List Nat} {lt:List (Nat×List Nat)} {canon l:List Nat} (h:vC ops ah lt canon=true) (hs:l.Sublist canon):Facts ops lt l:=(XL h).sub hs
theorem qpr {ops:Array Oper} {x y:Oper} (h:vH ops x y=true) (hw:ja x=.W):ja y=.N:=by
 unfold vH at h;simp only[b7] at h;rw[hw] at h
 cases hy:ja y<;>rw[hy] at h<;>first | rfl | exact absurd h.1 (by simp)
theorem qps {ops:Array Oper} {x y:Oper} (h:vH ops x y=true) (hw:ja y=.W):ja x=.N:=by
 unfold vH at h;simp only[b7] at h;rw[hw] at h
 cases hy:ja x<;>rw[hy] at h<;>first | rfl | exact absurd h.1 (by simp)
theorem Ul {lt:List (Nat×List Nat)} {ops:Array Oper} {i:Nat} {x:Oper} (hx:ops[i]?=some x):∀ (l done:List Nat) (st s':St),l.Nodup->i∈l->vK C fid callP callI lt ops done l st->Facts ops lt l->(∀ y∈done,xS ops lt y l) ->
  (∀ (p q:List Nat),l=p++i::q->∀ j∈p,∃ y,ops[j]?=some y/\(vH ops y x=true\/(j∈qa lt i/\yU ops y x=true))) ->
  ig C fid callP callI none ops l st=some s'->∃ s1,fH C fid callP callI none ops i st=some s1/\ig C fid callP callI none ops (l.erase i) s1=some s'/\vK C fid callP callI lt ops done (l.erase i) s1/\(∀ y∈qa lt i,y∈done->pn C fid ops y s1)
 | [],_,_,_,_,hi,_,_,_,_,_=>by simp at hi
 | j::l,done,st,s',hnd,hi,jz,HW,gK,wS,hr=>by
  simp only[ig,bc] at hr;obtain ⟨s1,h1,hr⟩:=hr;obtain ⟨uX,ow⟩:=jz s1 h1
  by_cases he:j=i
  ·subst he;refine ⟨s1,h1,by simpa using hr,?_,uX⟩;rw[List.erase_cons_head];exact ow.anti fun y hy=>fJ _ hy
  ·have b6:i∈l:=by rcases gE.1 hi with h | h<;>first | exact absurd h.symm he | exact h
   have yF:=(uC.1 hnd)
   have qmr:∀ y∈j::done,xS ops lt y l:=fun y hy=>by
    rcases gE.1 hy with rfl | hy
    ·exact HW.still [] l y rfl
    ·exact (gK y hy).sub fun k hk=>fJ _ hk
   obtain ⟨s2,h2,wO,hgo,U0⟩:=Ul hx l (j::done) s1 s' yF.2 b6 ow HW.tail qmr (fun p q gg k tN=>wS (j::p) q (by rw[gg];rfl) k (by simp[tN])) hr;obtain ⟨p,q,gg⟩:=z8 b6;obtain ⟨y,hy,bg⟩:=wS (j::p) q (by rw[gg];rfl) j (by simp)
   obtain ⟨s1',k1,k2⟩:∃ s1',fH C fid callP callI none ops i st=some s1'/\fH C fid callP callI none ops j s1'=some s2:=by
    rcases bg with bg | ⟨hm,bg⟩
    ·exact qpt hy hx bg h1 h2
    ·exact qpq hx hy bg h1 h2 (U0 j hm fN)
   have DI:(j::l).erase i=j::l.erase i:=by
    rw[List.erase_cons,ai (by simpa using he)]
   rw[DI]
   refine ⟨s1',k1,by simp only[ig,k2,aa];exact wO,fun s2' im=>?_,fun z hz D8=>?_⟩
   ·rw[k2] at im;obtain rfl:=pU im;refine ⟨fun z hz D8=>?_,hgo⟩;have Vp:=HW.late j fN y hy (fun h=>by rw[h] at hz;cases hz)
    have hxn:ja x=.N:=by
     rcases bg with bg | ⟨_,bg⟩
     ·exact qpr bg Vp
     ·unfold yU at bg;rw[Vp] at bg;simp at bg
    refine (uX z hz D8).same (Y6 hx h2 (.inl hxn)) fun oz No=>?_;have hs:=gK z D8 (Wq hz) oz No i (fJ _ b6) x hx;refine ⟨fun t ht=>Jh hx h2 t fun hd=>(hs t hd).1 ht,?_⟩;unfold wm
    cases hd:oz.dst with
    | none=>rfl
    | some d=>exact Jh hx h2 d fun kJ=>(hs d kJ).2 hd
   ·have hiw:=HW.late i (fJ _ b6) x hx (fun h=>by rw[h] at hz;cases hz)
    have hyn:ja y=.N\/ja y=.L:=by
     rcases bg with bg | ⟨_,bg⟩
     ·exact .inl (qps bg hiw)
     ·unfold yU at bg;simp only[b7] at bg;have:=bg.1;right
      split at this<;>first | assumption | cases this
    refine (U0 z hz (fJ _ D8)).same (Y6 hy k2 hyn).symm fun oz No=>?_;have hs:=gK z D8 (Wq hz) oz No j fN y hy;refine ⟨fun t ht=>(Jh hy k2 t fun hd=>(hs t hd).1 ht).symm,?_⟩;unfold wm
    cases hd:oz.dst with
    | none=>rfl
    | some d=>exact (Jh hy k2 d fun kJ=>(hs d kJ).2 hd).symm
theorem XM {ops:Array Oper} {ah:List Nat} {lt:List (Nat×List Nat)}:∀ {l:List Nat},vC ops ah lt l=true->∀ (p q:List Nat) (i:Nat),l=p++i::q->∀ j∈p,(ah.getD i 0).testBit j=true\/∃ x y,ops[j]?=some x/\ops[i]?=some y/\(vH ops x y=true\/(j∈qa lt i/\yU ops x y=true))
 | [],_,p,q,i,h,_,_=>by simp at h
 | k::l,hp,p,q,i,h,j,hj=>by
  simp only[vC,b7,ga] at hp
  match p,h with
  | k'::p,h=>
   simp only[cn,po] at h;obtain ⟨rfl,rfl⟩:=h
   rcases gE.1 hj with rfl | hj
   ·have:=hp.1.1 i (by simp)
    rcases Bool.or_eq_true_iff.1 this with h | h
    ·exact .inl h
    ·refine .inr ?_
     split at h
     ·refine ⟨_,_,by assumption,by assumption,?_⟩
      rcases Bool.or_eq_true_iff.1 h with h | h
      ·exact .inl h
      ·simp only[b7] at h;exact .inr ⟨by simpa using h.1,h.2⟩
     ·cases h
   ·exact XM hp.2 p q i rfl j hj
end
section
variable [WInv] {C:Cfg} {B:Nat} {w:World} {g:G}
theorem qhJ (hC:CfgOk C) {callI:Nat->List AV->af->OM} (hI:rP C callI) {fid:Nat} {lt:List (Nat×List Nat)} {ops:Array Oper} {Q:Exit->Act->World->Prop} {canon:List Nat} (hlt:∀ k o,ops[k]?=some o->∀ e∈o.after.toList,Region.binds .any e=true->e.on < k)
  (A6:vC ops (uI ops) lt canon=true) (hnd:canon.Nodup):∀ (l:List Nat) (n:Nat),l.length=n->l.Sublist canon->∀ (listed:Array Bool),listed.size=ops.size->(∀ x,x < ops.size->(listed.getD x true=true↔x∉l))->(∀ x∈l,x < ops.size) ->
  (∀ k o,k < ops.size->k∉l->ops[k]?=some o->∀ e∈o.after.toList,Region.binds .any e=true->e.on∉l) ->
  ∀ (st s':St) (a:Act) (w:World) (g:G),ig C fid (jG callI) callI none ops l st=some s'->vK C fid (jG callI) callI lt ops [] l st->StR B w g st a ->
  (∀ a' w' g',StR B w' g' s' a'->Step B w g w' g'->iW C.P a' a->Q .normal a' w')->wpAny C.P .any ops Q n listed a w:=by
 intro l n hn
 induction n generalizing l with
 | zero=>
  intro gZ listed hsz jt hin rp st s' a w g hr jz hs hq;have ve:l=[]:=oN hn;subst ve;simp only[ig,bM] at hr;subst hr;refine ⟨?_,hq a w g hs (Step.refl _ _ _) (iW.refl _ _)⟩;unfold Region.ready;rw[List.filter_eq_nil_iff];intro x hx;have:listed.getD x true=true:=(jt x (by simpa using hx)).2 (by simp);simp[this]
 | succ n ih=>
  intro gZ listed hsz jt hin rp st s' a w g hr jz hs hq
  have DW:∀ i∈Region.ready .any ops listed,i∈l/\i < ops.size/\∃ o,ops[i]?=some o/\∀ e∈o.after.toList,Region.binds .any e=true->e.on∉l:=by
   intro i hi;unfold Region.ready at hi;simp only[rX,uz,b7,xy] at hi;obtain ⟨h1,h2,h3⟩:=hi
   have b6:i∈l:=by
    by_cases h:i∈l
    ·exact h
    ·have:=(jt i h1).2 h;rw[this] at h2;cases h2
   refine ⟨b6,h1,ops[i],by simp[h1],fun e he hb lT=>?_⟩;have ho:ops[i]?=some ops[i]:=by simp[h1]
   rw[ho] at h3;simp only[aR,dh] at h3;have h4:=rO.1 h3 e (by simpa using he);simp only[hb,kS,zG] at h4;have h5:=hlt i _ ho e he hb
   have h6:listed.getD e.on true=true:=by
    have hes:e.on < listed.size:=by omega
    simp only[Array.getD,hes,dif_pos] at h4 ⊢;exact h4
   exact (jt e.on (by omega)).1 h6 lT
  refine ⟨fun DQ=>?_,fun i hi=>?_⟩
  ·
   exfalso;have hne:l≠[]:=fun h=>by rw[h] at hn;simp at hn
   obtain ⟨mn,wI,yC⟩:∃ mn∈l,∀ x∈l,mn<=x:=by
    exact Ip l hne
   have iN:=hin mn wI
   have:mn∈Region.ready .any ops listed:=by
    unfold Region.ready;simp only[rX,uz,b7,xy]
    refine ⟨iN,?_,?_⟩
    ·cases hb:listed.getD mn true with
     | false=>rfl
     | true=>exact absurd wI ((jt mn iN).1 hb)
    ·have ho:ops[mn]?=some ops[mn]:=by simp[iN]
     rw[ho];simp only[aR,dh];rw[rO];intro e he
     by_cases hb:Region.binds .any e=true
     ·have h5:=hlt mn _ ho e (by simpa using he) hb;have h6:e.on∉l:=fun h=>by have:=yC _ h;omega
      have h7:=(jt e.on (by omega)).2 h6;have hes:e.on < listed.size:=by omega
      have h8:listed.getD e.on false=true:=by
       simp only[Array.getD,hes,dif_pos] at h7 ⊢;exact h7
      rw[h8];simp
     ·simp at hb;simp[hb]
   rw[DQ] at this;simp at this
  ·obtain ⟨b6,j9,x,hx,uW⟩:=DW i hi
   obtain ⟨s1,h1,h2,ow,_⟩:=Ul hx l [] st s' (hnd.sublist gZ) b6 jz (qnY A6 gZ) (fun y hy=>by simp at hy) (fun p q gg j hj=>by
    obtain ⟨pre,post,tF⟩:∃ pc qc,canon=pc++i::qc/\∀ y∈p,y∈pc:=by
     rw[gg] at gZ;obtain ⟨c1,c2,hc,lA,mJ⟩:=List.append_sublist_iff.1 gZ
     obtain ⟨d1,d2,hd,hdi⟩:∃ d1 d2,c2=d1++i::d2/\True:=by
      have:=mJ.subset (fN);obtain ⟨d1,d2,hd⟩:=z8 this;exact ⟨d1,d2,hd,trivial⟩
     exact ⟨c1++d1,d2,by rw[hc,hd];simp,fun y hy=>il.2 (.inl (lA.subset hy))⟩
    rcases XM A6 pre post i tF.1 j (tF.2 j hj) with h | ⟨y,x',hy,iu,bg⟩
    ·exfalso;have fW:((nC ops ops.size).getD i 0).testBit j=true:=h
     have:=Hk (D:=fun k=>k∉l) (fun k o bO kL e he hb=>by
      rcases qW k ops.size with hk1 | hk1
      ·exact rp k o hk1 bO kL e he hb
      ·rw[B2 hk1] at kL;cases kL) hlt ops.size i x j9 hx uW j fW
     exact this (by rw[gg];simp[hj])
    ·obtain rfl:x=x':=by simpa [hx] using iu
     exact ⟨y,hy,bg⟩) hr
   refine Ji hC hI h1 hs (fun b' iy=>by cases iy) fun a' w' g' gC s hd=>?_
   have fW:∀ y,y∈l.erase i↔y∈l/\y≠i:=fun y=>by
    rw[(hnd.sublist gZ).mem_erase_iff];exact And.comm
   refine ih (l.erase i) (by rw[List.length_erase_of_mem b6];omega) (List.Sublist.trans List.erase_sublist gZ) (listed.setIfInBounds i true) (by simpa using hsz) (fun y hy=>?_) (fun y hy=>hin y ((fW y).1 hy).1) (fun k o hk1 kA kL e he hb lT=>?_) s1 s' a' w' g' h2 ow gC fun a'' w'' g'' sM s' kJ=>hq a'' w'' g'' sM (s.trans s') (kJ.trans hd)
   ·have p9:y < listed.size:=by omega
    have hg:(listed.setIfInBounds i true).getD y true=if i=y then true else listed.getD y true:=by
     simp only[jE,Fc]
     by_cases mI:i=y
     ·subst mI;simp[p9]
     ·simp[mI]
    rw[hg,fW]
    by_cases mI:i=y
    ·subst mI;simp
    ·rw[ai mI,jt y hy]
     constructor
     ·intro h h';exact h h'.1
     ·intro h h';exact h ⟨h',fun he=>mI he.symm⟩
   ·have wM:=(fW _).1 lT
    by_cases jH:k=i
    ·subst jH;obtain rfl:x=o:=by simpa [hx] using kL
     exact uW e he hb wM.1
    ·exact rp k o hk1 (fun h=>kA ((fW k).2 ⟨h,jH⟩)) kL e he hb wM.1
theorem qkC {P:Program} {ops:Array Oper} {l ah:List Nat} {lt:List (Nat×List Nat)} (h:yh P ops l ah lt=true):P.follows .mixedOrders=true/\l.isPerm (List.range ops.size)=true /\
  ((List.range ops.size).all (fun i=>(match ops[i]? with | some o=>o.after.all fun e=>!Region.binds .any e || decide (e.on < i) | none=>false)))=true/\vC ops (uI ops) lt l=true:=by
 unfold yh at h;simp only[b7] at h;obtain ⟨h1,h2,h3,h4,h5,h6⟩:=h
 have hlt:∀ k o,ops[k]?=some o->∀ e∈o.after.toList,Region.binds .any e=true->e.on < k:=by
  intro k o hk e he hb;have fR:=(fF.1 hk).1;have:=ga.1 h3 k (by simpa using fR);rw[hk] at this;simp only at this;have:=rO.1 this e (by simpa using he);simpa [hb] using this
 have wA:=LG (qp h4) hlt (fun i hi=>ga.1 h5 i (by simpa using hi)) ops.size (aQ _);rw[jQ (by rw[qp h4];exact aQ _)] at wA;refine ⟨h1,h2,h3,?_⟩;unfold uI;rw[wA];exact h6
theorem qkD (hC:CfgOk C) {callI:Nat->List AV->af->OM} (hI:rP C callI) {R:Type} {fid id:Nat} {ops:Array Oper} {Q:Exit->Act->World->Prop} {canon ah:List Nat} {lt:List (Nat×List Nat)} (bg:yh C.P ops canon ah lt=true) {st:St} {K:St->Option R} {r:R} {a:Act}
  (h:qf C fid (jG callI) callI lt ops canon st K=some r) (hs:StR B w g st a)
  (hn:∀ s' a' w' g',K s'=some r->StR B w' g' s' a'->Step B w g w' g'->iW C.P a' a->Q .normal a' w'):(Code.region id ops true).wp C.P Q a w:=by
 obtain ⟨h1,h2,h3,h4⟩:=qkC bg;have lU:canon.Perm (List.range ops.size):=List.isPerm_iff.1 h2
 have hlt:∀ k o,ops[k]?=some o->∀ e∈o.after.toList,Region.binds .any e=true->e.on < k:=by
  intro k o hk e he hb;have fR:=(fF.1 hk).1;have:=ga.1 h3 k (by simpa using fR);rw[hk] at this;simp only at this;have:=rO.1 this e (by simpa using he);simpa [hb] using this
 obtain ⟨s',hr,hK,jz⟩:=YD [] h;refine wp_region_any h1 ?_
 refine qhJ hC hI hlt h4 (lU.nodup_iff.2 List.nodup_range) canon ops.size (by rw[lU.length_eq];simp) (List.Sublist.refl _) _ (by simp) (fun x hx=>?_) (fun x hx=>by simpa using lU.mem_iff.1 hx) (fun k o hk bO=>?_) _ s' a _ g hr jz ⟨hs.tmp.step (Step.drew B w g),hs.mem.drew,hs.size⟩ ?_
 ·have:x∈canon:=lU.mem_iff.2 (by simpa using hx);simp[this,Array.getD,hx]
 ·exact absurd (lU.mem_iff.2 (by simpa using hk)) bO
 ·intro a' w' g' gC s hd;exact hn s' a' w' g' hK gC ((Step.drew B w g).trans s) hd
end
end Go.Ab
namespace Go.Ab
def tq {R:Type} (F:Nat->Option R):Prop:=∀ k r,F k=some r->F (k+1)=some r
theorem tq.le {R:Type} {F:Nat->Option R} (h:tq F) {k n:Nat} (hn:k<=n) {r:R} (hr:F k=some r):F n=some r:=by
 induction hn with
 | refl=>exact hr
 | step _ ih=>exact h _ _ ih
open Classical in
noncomputable def lim {R:Type} (F:Nat->Option R):Option R:=if h:∃ k r,F k=some r then F h.choose else none
theorem sS {R:Type} {F:Nat->Option R} {r:R} (h:lim F=some r):∃ k,F k=some r:=by
 unfold lim at h
 split at h
 ·exact ⟨_,h⟩
 ·cases h
theorem tq.lim {R:Type} {F:Nat->Option R} (h:tq F) {k:Nat} {r:R} (hr:F k=some r):lim F=some r:=by
 have hx:∃ k r,F k=some r:=⟨k,r,hr⟩;unfold Ab.lim;rw[dif_pos hx];obtain ⟨r',VN⟩:=hx.choose_spec;have h1:=h.le (Ak k hx.choose) hr;have h2:=h.le (CH k hx.choose) VN;rw[h1] at h2;rw[VN,<- pU h2]
theorem OG {R:Type} {x y:Option R} (h:∀ r,x=some r↔y=some r):x=y:=Option.ext h
section
variable {R:Type}
def kH:List Bool->List AV->Bool
 | [],[]=>true
 | _::bs,_::ts=>kH bs ts
 | _,_=>false
def rb:List Bool->List AV->List AV
 | [],_=>[]
 | b::bs,ts=>(match b with | true=>ts.headD .any | false=>.any)::rb bs ts.tail
theorem Yn:∀ (bs:List Bool) (ts:List AV),kH bs ts=true->rb bs ts=pL bs ts
 | [],[],_=>rfl
 | b::bs,t::ts,h=>by
  simp only[rb,pL,Yn bs ts (by simpa [kH] using h),List.tail_cons];cases b<;>rfl
 | [],_::_,h=>by simp[kH] at h
 | _::_,[],h=>by simp[kH] at h
theorem OX:∀ (bs:List Bool) (ts:List AV),rb bs (rb bs ts)=rb bs ts
 | [],_=>rfl
 | b::bs,ts=>by
  simp only[rb,List.headD_cons,List.tail_cons,OX bs ts.tail];cases b<;>rfl
abbrev j7 (bs:List Bool) (st:St) (f:St->Option R):Option R:=match kH bs st.tmps with
 | true=>f ⟨rb bs st.tmps,st.mem⟩
 | false=>none
abbrev qe (again:St->Option R) (mk:Masks) (K:Ex->St->Option R):Ex->St->Option R:=fun e st'=>match e with
 | .normal=>j7 mk.head st' again
 | .exit id=>j7 mk.out st' (K (.exit id))
 | .ret=>j7 mk.ret st' (K .ret)
def iY (body:St->(Ex->St->Option R)->Option R) (mk:Masks):Nat->St->(Ex->St->Option R)->Option R
 | 0,_,_=>none
 | n+1,st,K=>body st (qe (fun st'=>iY body mk n st' K) mk K)
noncomputable def qD (body:St->(Ex->St->Option R)->Option R) (mk:Masks) (st:St) (K:Ex->St->Option R):Option R:=lim fun n=>iY body mk n st K
section
variable (C:Cfg) (fid:Nat) (callP:Nat->List AV->Option AV) (callI:Nat->List AV->af->OM)
noncomputable def cu:Code->St->(Ex->St->Option R)->Option R
 | .skip,st,K=>K .normal st
 | .region id ops d,st,K=>match d with
  | false=>mq C fid callP callI none ops (List.range ops.size) st (K .normal)
  | true=>match C.seqm fid id with
  | true=>(match yh C.P ops (qd (C.ord fid id) ops.size) (C.ahd fid id) (C.late fid id) with
   | true=>qf C fid callP callI (C.late fid id) ops (qd (C.ord fid id) ops.size) st (K .normal)
   | false=>none)
  | false=>match yg C.P ops (qd (C.ord fid id) ops.size) (C.ahd fid id) (C.two fid id) with
   | true=>mq C fid callP callI (some st.mem.length) ops (qd (C.ord fid id) ops.size) ⟨st.tmps,cU st.mem (fL ops ops.size)⟩ (fun st'=>td C.P ops st' (K .normal) (C.two fid id))
   | false=>none
 | .seq a b,st,K=>cu a st (xd (fun st'=>cu b st' K) K)
 | .cond c a b,st,K=>aw (ev st.tmps c) (cu a st K) (cu b st K)
 | .block id b,st,K=>cu b st (bz id K)
 | .loop b,st,K=>j7 (C.mask fid (keyOf b)).head st fun st'=>qD (cu b) (C.mask fid (keyOf b)) st' K
 | .exit id,st,K=>K (.exit id) st
 | .ret,st,K=>K .ret st
 | _,_,_=>none
end
def rR (f:St->(Ex->St->Option R)->Option R):Prop:=∀ st,f st=(fun _=>none)\/∃ e s,f st=fun K=>K e s
theorem qoH (C:Cfg) (fid:Nat) (callP:Nat->List AV->Option AV) (callI:Nat->List AV->af->OM) (base:Option Nat) (ops:Array Oper) (l:List Nat) (st:St) :
  ((fun K:Ex->St->Option R=>mq C fid callP callI base ops l st (K .normal))=fun _=>none)\/∃ e s,(fun K:Ex->St->Option R=>mq C fid callP callI base ops l st (K .normal))=fun K=>K e s:=by
 cases h:ig C fid callP callI base ops l st with
 | none=>left;funext K;rw[sZ,h];rfl
 | some s=>right;refine ⟨.normal,s,?_⟩;funext K;rw[sZ,h];rfl
theorem YC (C:Cfg) (fid:Nat) (callP:Nat->List AV->Option AV) (callI:Nat->List AV->af->OM) (lt:List (Nat×List Nat)) (ops:Array Oper):∀ (l:List Nat) (st:St),
  ((fun K:Ex->St->Option R=>qf C fid callP callI lt ops l st (K .normal))=fun _=>none)\/∃ e s,(fun K:Ex->St->Option R=>qf C fid callP callI lt ops l st (K .normal))=fun K=>K e s
 | [],st=>.inr ⟨.normal,st,rfl⟩
 | i::l,st=>by
  cases h:fH C fid callP callI none ops i st with
  | none=>left;funext K;rw[xc,h];rfl
  | some s1=>
   by_cases hc:∀ y∈qa lt i,pn C fid ops y s1
   ·rcases YC C fid callP callI lt ops l s1 with hh | ⟨e,s,hh⟩
    ·left;funext K;rw[xc,h,aa,Az hc];exact congrFun hh K
    ·right;exact ⟨e,s,by funext K;rw[xc,h,aa,Az hc];exact congrFun hh K⟩
   ·left;funext K;rw[xc,h,aa,LQ hc]
theorem UD {bs:List Bool} {st:St} {f:St->(Ex->St->Option R)->Option R} (h:rR f):((fun K=>j7 bs st fun s=>f s K)=fun _=>none)\/∃ e s,(fun K=>j7 bs st fun s=>f s K)=fun K=>K e s:=by
 unfold j7
 cases kH bs st.tmps with
 | false=>exact .inl rfl
 | true=>exact h _
theorem Yw {again again':St->Option R} {mk:Masks} {K:Ex->St->Option R} (h:∀ s r,again s=some r->again' s=some r) {e:Ex} {s:St} {r:R} (hr:qe again mk K e s=some r):qe again' mk K e s=some r:=by
 cases e with
 | normal=>
  simp only[qe,j7] at hr ⊢
  cases hf:kH mk.head s.tmps with
  | true=>rw[hf] at hr;exact h _ _ hr
  | false=>rw[hf] at hr;cases hr
 | exit id=>exact hr
 | ret=>exact hr
theorem rR.mono {f:St->(Ex->St->Option R)->Option R} (h:rR f) {st:St} {K K':Ex->St->Option R} (hK:∀ e s r,K e s=some r->K' e s=some r) {r:R} (hr:f st K=some r):f st K'=some r:=by
 rcases h st with h | ⟨e,s,h⟩
 ·rw[h] at hr;cases hr
 ·rw[h] at hr ⊢;exact hK _ _ _ hr
theorem Ix {body:St->(Ex->St->Option R)->Option R} (hb:rR body) (mk:Masks) (K:Ex->St->Option R):∀ n st r,iY body mk n st K=some r->iY body mk (n+1) st K=some r:=by
 intro n
 induction n with
 | zero=>intro st r h;cases h
 | succ n ih=>
  intro st r h;rw[iY] at h ⊢;exact hb.mono (fun e s r hr=>Yw (fun s r=>ih s r) hr) h
theorem cg {body:St->(Ex->St->Option R)->Option R} (hb:rR body) (mk:Masks) (st:St) (K:Ex->St->Option R):qD body mk st K=body st (qe (fun st'=>qD body mk st' K) mk K):=by
 apply OG;intro r;have A9:∀ st,tq fun n=>iY body mk n st K:=fun st n r h=>Ix hb mk K n st r h
 constructor
 ·intro h;obtain ⟨n,hn⟩:=sS h
  cases n with
  | zero=>cases hn
  | succ n=>
   rw[iY] at hn;exact hb.mono (fun e s r hr=>Yw (fun s r h=>(A9 s).lim h) hr) hn
 ·intro h
  rcases hb st with hx | ⟨e,s,hx⟩
  ·rw[hx] at h;cases h
  ·have:∃ n,iY body mk (n+1) st K=some r:=by
    rw[hx] at h;simp only[iY];rw[hx];simp only
    cases e with
    | normal=>
     simp only[qe,j7] at h ⊢
     cases hf:kH mk.head s.tmps with
     | true=>rw[hf] at h;exact sS h
     | false=>rw[hf] at h;cases h
    | exit id=>exact ⟨0,h⟩
    | ret=>exact ⟨0,h⟩
   obtain ⟨n,hn⟩:=this;exact (A9 st).lim hn
theorem N9 {body:St->(Ex->St->Option R)->Option R} (hb:rR body) (mk:Masks):∀ n,rR (iY body mk n)
 | 0=>fun st=>.inl rfl
 | n+1=>fun st=>by
  have ih:=N9 hb mk n
  rcases hb st with hx | ⟨e,s,hx⟩
  ·left;funext K;simp only[iY];rw[hx]
  ·cases e with
   | normal=>
    have:iY body mk (n+1) st=fun K=>j7 mk.head s fun s'=>iY body mk n s' K:=by
     funext K;simp only[iY];rw[hx]
    rw[this];exact UD ih
   | exit id=>
    have:iY body mk (n+1) st=fun K=>j7 mk.out s (K (.exit id)):=by
     funext K;simp only[iY];rw[hx]
    rw[this];unfold j7
    cases kH mk.out s.tmps with
    | false=>exact .inl rfl
    | true=>exact .inr ⟨_,_,rfl⟩
   | ret=>
    have:iY body mk (n+1) st=fun K=>j7 mk.ret s (K .ret):=by
     funext K;simp only[iY];rw[hx]
    rw[this];unfold j7
    cases kH mk.ret s.tmps with
    | false=>exact .inl rfl
    | true=>exact .inr ⟨_,_,rfl⟩
open Classical in
theorem qna {body:St->(Ex->St->Option R)->Option R} (hb:rR body) (mk:Masks):rR (qD body mk):=by
 intro st
 by_cases h:∃ n e s,iY body mk n st=fun K=>K e s
 ·obtain ⟨n,e,s,hn⟩:=h;right;refine ⟨e,s,?_⟩;funext K;apply OG;intro r;have A9:tq fun n=>iY body mk n st K:=fun n r h=>Ix hb mk K n st r h
  constructor
  ·intro hr;obtain ⟨n',hn'⟩:=sS hr;have h1:iY body mk (max n n') st K=some r:=A9.le (CH n n') hn'
   cases hk:K e s with
   | some r'=>
    have h2:iY body mk (max n n') st K=some r':=A9.le (Ak n n') (r:=r') (by simp only[hn];exact hk);rw[h2] at h1;exact h1
   | none=>
    rcases N9 hb mk (max n n') st with hx | ⟨e',s',hx⟩
    ·rw[hx] at h1;cases h1
    ·have h3:iY body mk (max n n') st (fun e2 s2=>if e2=e/\s2=s then some r else none)=some r:=by
      have qmh:tq fun n=>iY body mk n st (fun e2 s2=>if e2=e/\s2=s then some r else none):=fun n r h=>Ix hb mk _ n st r h
      exact qmh.le (Ak n n') (by simp only[hn];simp)
     rw[hx] at h3 h1;simp only at h3 h1
     split at h3
     ·rename_i he;obtain ⟨rfl,rfl⟩:=he;rw[hk] at h1;cases h1
     ·cases h3
  ·intro hr;exact A9.lim (k:=n) (by simp only[hn];exact hr)
 ·left;funext K
  have:∀ r,¬ qD body mk st K=some r:=by
   intro r hr;obtain ⟨n,hn⟩:=sS hr
   rcases N9 hb mk n st with hx | ⟨e,s,hx⟩
   ·rw[hx] at hn;cases hn
   ·exact h ⟨n,e,s,hx⟩
  cases hx:qD body mk st K with
  | none=>rfl
  | some r=>exact absurd hx (this r)
section
variable {C:Cfg} {fid:Nat} {callP:Nat->List AV->Option AV} {callI:Nat->List AV->af->OM}
theorem bW:∀ c:Code,rR (R:=R) (cu C fid callP callI c):=by
 intro c
 induction c with
 | skip=>exact fun st=>.inr ⟨.normal,st,rfl⟩
 | region id ops d=>
  intro st
  cases d with
  | false=>
   have:cu (R:=R) C fid callP callI (.region id ops false) st=fun K=>mq C fid callP callI none ops (List.range ops.size) st (K .normal):=by funext K;simp only[cu]
   rw[this];exact qoH ..
  | true=>
   cases hq:C.seqm fid id with
   | true=>
    cases hd:yh C.P ops (qd (C.ord fid id) ops.size) (C.ahd fid id) (C.late fid id) with
    | true=>
     have:cu (R:=R) C fid callP callI (.region id ops true) st=fun K=>qf C fid callP callI (C.late fid id) ops (qd (C.ord fid id) ops.size) st (K .normal):=by funext K;simp only[cu,hq,hd]
     rw[this];exact YC ..
    | false=>left;funext K;simp only[cu,hq,hd]
   | false=>
   cases hd:yg C.P ops (qd (C.ord fid id) ops.size) (C.ahd fid id) (C.two fid id) with
   | true=>
    have:cu (R:=R) C fid callP callI (.region id ops true) st=fun K=>mq C fid callP callI (some st.mem.length) ops (qd (C.ord fid id) ops.size) ⟨st.tmps,cU st.mem (fL ops ops.size)⟩ (fun st'=>td C.P ops st' (K .normal) (C.two fid id)):=by funext K;simp only[cu,hq,hd]
    rw[this];have hl:=sZ (R:=R) (C:=C) (fid:=fid) (callP:=callP) (callI:=callI) (some st.mem.length) ops (qd (C.ord fid id) ops.size) ⟨st.tmps,cU st.mem (fL ops ops.size)⟩
    cases hr:ig C fid callP callI (some st.mem.length) ops (qd (C.ord fid id) ops.size) ⟨st.tmps,cU st.mem (fL ops ops.size)⟩ with
    | none=>left;funext K;rw[hl,hr];rfl
    | some s=>
     rcases qpJ (R:=R) C.P ops s (C.two fid id) with ht | ht
     ·left;funext K;rw[hl,hr];exact ht _
     ·right;exact ⟨.normal,s,by funext K;rw[hl,hr];exact ht _⟩
   | false=>left;funext K;simp only[cu,hq,hd]
 | seq a b iha ihb=>
  intro st
  rcases iha st with h | ⟨e,s,h⟩
  ·left;funext K;simp only[cu,h]
  ·cases e with
   | normal=>
    rcases ihb s with h' | ⟨e',s',h'⟩
    ·left;funext K;simp only[cu,h,xd,h']
    ·right;refine ⟨e',s',?_⟩;funext K;simp only[cu,h,xd,h']
   | exit id=>right;refine ⟨.exit id,s,?_⟩;funext K;simp only[cu,h,xd]
   | ret=>right;refine ⟨.ret,s,?_⟩;funext K;simp only[cu,h,xd]
 | cond co a b iha ihb=>
  intro st
  cases hv:ev st.tmps co with
  | bool v=>
   cases v with
   | true=>
    have:cu (R:=R) C fid callP callI (.cond co a b) st=cu C fid callP callI a st:=by funext K;simp only[cu,hv,aw]
    rw[this];exact iha st
   | false=>
    have:cu (R:=R) C fid callP callI (.cond co a b) st=cu C fid callP callI b st:=by funext K;simp only[cu,hv,aw]
    rw[this];exact ihb st
  | _=>left;funext K;simp only[cu,hv,aw]
 | block id b ih=>
  intro st
  rcases ih st with h | ⟨e,s,h⟩
  ·left;funext K;simp only[cu,h]
  ·cases e with
   | normal=>right;refine ⟨.normal,s,?_⟩;funext K;simp only[cu,h,bz]
   | exit j=>
    cases hj:j == id with
    | true=>right;refine ⟨.normal,s,?_⟩;funext K;simp only[cu,h,bz,hj]
    | false=>right;refine ⟨.exit j,s,?_⟩;funext K;simp only[cu,h,bz,hj]
   | ret=>right;refine ⟨.ret,s,?_⟩;funext K;simp only[cu,h,bz]
 | loop b ih=>
  intro st;have:cu (R:=R) C fid callP callI (.loop b) st=fun K=>j7 (C.mask fid (keyOf b)).head st fun st'=>qD (cu C fid callP callI b) (C.mask fid (keyOf b)) st' K:=by funext K;simp only[cu]
  rw[this];exact UD (qna ih _)
 | exit id=>exact fun st=>.inr ⟨.exit id,st,rfl⟩
 | ret=>exact fun st=>.inr ⟨.ret,st,rfl⟩
 | rangeFunc=>exact fun st=>.inl rfl
 | scope=>exact fun st=>.inl rfl
 | label=>exact fun st=>.inl rfl
 | goto=>exact fun st=>.inl rfl
 | refuse=>exact fun st=>.inl rfl
end
section
variable {C:Cfg} {fid:Nat} {cp cp':Nat->List AV->Option AV} {ci ci':Nat->List AV->af->OM}
def nY (cp cp':Nat->List AV->Option AV) (ci ci':Nat->List AV->af->OM):Prop:=(∀ g vs v,cp g vs=some v->cp' g vs=some v)/\∀ g vs m r,ci g vs m=some r->ci' g vs m=some r
theorem qj9 (h:nY cp cp' ci ci') {d:Option Nat} {g:Nat} {vs:List AV} {m:af} {K:AV->af->Option R} {x:R} (hx:j0 C fid cp ci d g vs m K=some x):j0 C fid cp' ci' d g vs m K=some x:=by
 unfold j0 at hx ⊢
 cases rA:C.libm g with
 | some l=>rw[rA] at hx;exact hx
 | none=>
 rw[rA] at hx;simp only at hx ⊢
 cases hl:C.lib g with
 | some l=>rw[hl] at hx;exact hx
 | none=>
  rw[hl] at hx;simp only at hx ⊢
  cases hi:C.inl fid g with
  | true=>
   rw[hi] at hx
   cases d with
   | some d=>exact hx
   | none=>
    simp only[bc] at hx ⊢;obtain ⟨r,hr,hx⟩:=hx
    cases hz:C.frzc fid g with
    | true=>
     rw[hz] at hr;simp only[yi,bc] at hr ⊢;obtain ⟨r1,h1,h2⟩:=hr;exact ⟨r,⟨r1,h1,h.2 _ _ _ _ h2⟩,hx⟩
    | false=>
    rw[hz] at hr;simp only at hr ⊢
    cases ht:C.thaw fid g with
    | false=>rw[ht] at hr;exact ⟨r,h.2 _ _ _ _ hr,hx⟩
    | true=>
     rw[ht] at hr;simp only[Jr,bc] at hr ⊢;obtain ⟨r1,h1,q,h2,h3⟩:=hr;exact ⟨r,⟨r1,h1,q,h.2 _ _ _ _ h2,h3⟩,hx⟩
  | false=>
   rw[hi] at hx;simp only[bc] at hx ⊢;obtain ⟨r,hr,hx⟩:=hx;refine ⟨r,?_,hx⟩;unfold aD at hr ⊢;simp only[bc] at hr ⊢;obtain ⟨r1,h1,h2⟩:=hr;refine ⟨r1,h1,?_⟩
   split at h2
   ·cases h2
   ·rename_i hne;rw[ai hne];simp only[gP] at h2 ⊢;obtain ⟨v,hv,h2⟩:=h2;exact ⟨v,h.1 _ _ _ hv,h2⟩
theorem XE (h:nY cp cp' ci ci') {d:Option Nat} {o:Oper} {ρ:Operand->AV} {m:af} {x:AV×af} (hx:fT C fid cp ci d o ρ m=some x):fT C fid cp' ci' d o ρ m=some x:=by
 unfold fT kE at hx ⊢
 cases ho:o.op with
 | call c=>
  rw[ho] at hx;simp only at hx ⊢
  cases hc:c.callee with
  | value f=>
   rw[hc] at hx;simp only[bc] at hx ⊢;obtain ⟨gc,h1,hx⟩:=hx;exact ⟨gc,h1,qj9 h hx⟩
  | _=>rw[hc] at hx;exact hx
 | _=>rw[ho] at hx;exact hx
theorem Jg (h:nY cp cp' ci ci') {base:Option Nat} {ops:Array Oper} {i:Nat} {st s:St} (hx:fH C fid cp ci base ops i st=some s):fH C fid cp' ci' base ops i st=some s:=by
 unfold fH at hx ⊢
 cases hi:ops[i]? with
 | none=>rw[hi] at hx;cases hx
 | some o=>
  rw[hi] at hx;simp only[gP] at hx ⊢;obtain ⟨r,hr,hx⟩:=hx;refine ⟨r,?_,hx⟩;unfold gX at hr ⊢
  cases hg:o.guard with
  | none=>rw[hg] at hr;exact XE h hr
  | some jw=>
   obtain ⟨j,want⟩:=jw;rw[hg] at hr;simp only at hr ⊢
   cases hd:(ops[j]?).bind (·.dst) with
   | none=>rw[hd] at hr;cases hr
   | some g=>
    rw[hd] at hr;simp only at hr ⊢
    split at hr
    ·exact hr
    ·split at hr
     ·split at hr
      ·rename_i hb;rw[an hb];exact XE h hr
      ·rename_i hb;rw[ai hb];exact hr
     ·cases hr
theorem OZ (h:nY cp cp' ci ci') {base:Option Nat} {ops:Array Oper}:∀ (l:List Nat) {st s:St},ig C fid cp ci base ops l st=some s->ig C fid cp' ci' base ops l st=some s
 | [],_,_,hx=>hx
 | i::l,st,s,hx=>by
  simp only[ig,bc] at hx ⊢;obtain ⟨s1,h1,h2⟩:=hx;exact ⟨s1,Jg h h1,OZ h l h2⟩
theorem YF (h:nY cp cp' ci ci') {base:Option Nat} {ops:Array Oper} {l:List Nat} {st:St} {K:St->Option R} {r:R} (hx:mq C fid cp ci base ops l st K=some r):mq C fid cp' ci' base ops l st K=some r:=by
 rw[sZ] at hx ⊢;simp only[bc] at hx ⊢;obtain ⟨s,h1,h2⟩:=hx;exact ⟨s,OZ h l h1,h2⟩
theorem O1 (h:nY cp cp' ci ci') {lt:List (Nat×List Nat)} {ops:Array Oper}:∀ (l:List Nat) {st:St} {K:St->Option R} {r:R},qf C fid cp ci lt ops l st K=some r->qf C fid cp' ci' lt ops l st K=some r
 | [],_,_,_,hx=>hx
 | i::l,st,K,r,hx=>by
  rw[xc,bc] at hx ⊢;obtain ⟨s1,h1,h2⟩:=hx;obtain ⟨h3,h4⟩:=LR h2;exact ⟨s1,Jg h h1,by rw[Az h3];exact O1 h l h4⟩
theorem AE (h:nY cp cp' ci ci'):∀ (c:Code) (st:St) (K:Ex->St->Option R) (r:R),cu C fid cp ci c st K=some r->cu C fid cp' ci' c st K=some r:=by
 intro c
 induction c with
 | region id ops d=>
  intro st K r hx
  cases d with
  | false=>simp only[cu] at hx ⊢;exact YF h hx
  | true=>
   simp only[cu] at hx ⊢
   cases hq:C.seqm fid id with
   | true=>
    rw[hq] at hx;simp only at hx ⊢
    cases hd:yh C.P ops (qd (C.ord fid id) ops.size) (C.ahd fid id) (C.late fid id) with
    | true=>rw[hd] at hx;exact O1 h _ hx
    | false=>rw[hd] at hx;cases hx
   | false=>
   rw[hq] at hx;simp only at hx ⊢
   cases hd:yg C.P ops (qd (C.ord fid id) ops.size) (C.ahd fid id) (C.two fid id) with
   | true=>rw[hd] at hx;exact YF h hx
   | false=>rw[hd] at hx;cases hx
 | seq a b iha ihb=>
  intro st K r hx;simp only[cu] at hx ⊢;have h1:=iha _ _ _ hx;refine (bW a).mono (fun e s r hr=>?_) h1
  cases e with
  | normal=>exact ihb _ _ _ hr
  | exit id=>exact hr
  | ret=>exact hr
 | cond co a b iha ihb=>
  intro st K r hx;simp only[cu] at hx ⊢;unfold aw at hx ⊢
  split at hx
  ·split at hx
   ·exact iha _ _ _ hx
   ·exact ihb _ _ _ hx
  ·cases hx
 | block id b ih=>
  intro st K r hx;simp only[cu] at hx ⊢;exact ih _ _ _ hx
 | loop b ih=>
  intro st K r hx;simp only[cu,j7] at hx ⊢
  cases hf:kH (C.mask fid (keyOf b)).head st.tmps with
  | false=>rw[hf] at hx;cases hx
  | true=>
   rw[hf] at hx;simp only at hx ⊢;obtain ⟨n,hn⟩:=sS hx
   have:∀ n st,iY (cu C fid cp ci b) (C.mask fid (keyOf b)) n st K=some r->iY (cu C fid cp' ci' b) (C.mask fid (keyOf b)) n st K=some r:=by
    intro n
    induction n with
    | zero=>intro st hx;cases hx
    | succ n ihn=>
     intro st hx;simp only[iY] at hx ⊢;have h1:=ih _ _ _ hx
     rcases bW (R:=R) (C:=C) (fid:=fid) (callP:=cp') (callI:=ci') b st with hl | ⟨e,s,hl⟩
     ·rw[hl] at h1;cases h1
     ·rw[hl] at h1 ⊢;simp only at h1 ⊢
      cases e with
      | normal=>
       simp only[qe,j7] at h1 ⊢
       cases AU:kH (C.mask fid (keyOf b)).head s.tmps with
       | true=>rw[AU] at h1;exact ihn _ h1
       | false=>rw[AU] at h1;cases h1
      | exit id=>exact h1
      | ret=>exact h1
   exact tq.lim (F:=fun n=>iY (cu C fid cp' ci' b) (C.mask fid (keyOf b)) n _ K) (fun n r h=>Ix (bW b) _ K n _ r h) (this n _ hn)
 | _=>intro st K r hx;exact hx
end
structure Chain where
 cp:Nat->Nat->List AV->Option AV
 ci:Nat->Nat->List AV->af->OM
 le:∀ k,nY (cp k) (cp (k+1)) (ci k) (ci (k+1))
theorem nY.refl (cp:Nat->List AV->Option AV) (ci:Nat->List AV->af->OM):nY cp cp ci ci:=⟨fun _ _ _ h=>h,fun _ _ _ _ h=>h⟩
theorem nY.trans {a b c:Nat->List AV->Option AV} {a' b' c':Nat->List AV->af->OM} (h:nY a b a' b') (h':nY b c b' c'):nY a c a' c':=⟨fun g vs v x=>h'.1 g vs v (h.1 g vs v x),fun g vs m r x=>h'.2 g vs m r (h.2 g vs m r x)⟩
theorem Chain.up (X:Chain) {k n:Nat} (h:k<=n):nY (X.cp k) (X.cp n) (X.ci k) (X.ci n):=by
 induction h with
 | refl=>exact nY.refl _ _
 | step _ ih=>exact ih.trans (X.le _)
structure Tends (X:Chain) (cp:Nat->List AV->Option AV) (ci:Nat->List AV->af->OM):Prop where
 p:∀ g vs v,cp g vs=some v->∃ k,X.cp k g vs=some v
 i:∀ g vs m r,ci g vs m=some r->∃ k,X.ci k g vs m=some r
section
variable {X:Chain} {C:Cfg} {fid:Nat} {cp:Nat->List AV->Option AV} {ci:Nat->List AV->af->OM}
theorem qj8 (h:Tends X cp ci) {d:Option Nat} {g:Nat} {vs:List AV} {m:af} {K:AV->af->Option R} {x:R} (hx:j0 C fid cp ci d g vs m K=some x):∃ k,j0 C fid (X.cp k) (X.ci k) d g vs m K=some x:=by
 unfold j0 at hx ⊢
 cases rA:C.libm g with
 | some l=>rw[rA] at hx;exact ⟨0,hx⟩
 | none=>
 rw[rA] at hx;simp only at hx ⊢
 cases hl:C.lib g with
 | some l=>rw[hl] at hx;exact ⟨0,hx⟩
 | none=>
  rw[hl] at hx;simp only at hx ⊢
  cases hi:C.inl fid g with
  | true=>
   rw[hi] at hx
   cases d with
   | some d=>exact ⟨0,hx⟩
   | none=>
    simp only[bc] at hx ⊢;obtain ⟨r,hr,hx⟩:=hx
    cases hz:C.frzc fid g with
    | true=>
     rw[hz] at hr;simp only[yi,bc] at hr ⊢;obtain ⟨r1,h1,h2⟩:=hr;obtain ⟨k,hk⟩:=h.i _ _ _ _ h2;exact ⟨k,r,⟨r1,h1,hk⟩,hx⟩
    | false=>
    rw[hz] at hr;simp only at hr ⊢
    cases ht:C.thaw fid g with
    | false=>
     rw[ht] at hr;obtain ⟨k,hk⟩:=h.i _ _ _ _ hr;exact ⟨k,r,hk,hx⟩
    | true=>
     rw[ht] at hr;simp only[Jr,bc] at hr ⊢;obtain ⟨r1,h1,q,h2,h3⟩:=hr;obtain ⟨k,hk⟩:=h.i _ _ _ _ h2;exact ⟨k,r,⟨r1,h1,q,hk,h3⟩,hx⟩
  | false=>
   rw[hi] at hx;simp only[bc] at hx ⊢;obtain ⟨r,hr,hx⟩:=hx;unfold aD at hr;simp only[bc] at hr;obtain ⟨r1,h1,h2⟩:=hr
   split at h2
   ·cases h2
   ·rename_i hne;simp only[gP] at h2;obtain ⟨v,hv,h2⟩:=h2;obtain ⟨k,hk⟩:=h.p _ _ _ hv;refine ⟨k,r,?_,hx⟩;unfold aD;simp only[bc];refine ⟨r1,h1,?_⟩;rw[ai hne];simp only[gP];exact ⟨v,hk,h2⟩
theorem XD (h:Tends X cp ci) {d:Option Nat} {o:Oper} {ρ:Operand->AV} {m:af} {x:AV×af} (hx:fT C fid cp ci d o ρ m=some x):∃ k,fT C fid (X.cp k) (X.ci k) d o ρ m=some x:=by
 unfold fT kE at hx ⊢
 cases ho:o.op with
 | call c=>
  rw[ho] at hx;simp only at hx ⊢
  cases hc:c.callee with
  | value f=>
   rw[hc] at hx;simp only[bc] at hx ⊢;obtain ⟨gc,h1,hx⟩:=hx;obtain ⟨k,hk⟩:=qj8 h hx;exact ⟨k,gc,h1,hk⟩
  | _=>rw[hc] at hx;exact ⟨0,hx⟩
 | _=>rw[ho] at hx;exact ⟨0,hx⟩
theorem Y4 (h:Tends X cp ci) {base:Option Nat} {ops:Array Oper} {i:Nat} {st s:St} (hx:fH C fid cp ci base ops i st=some s):∃ k,fH C fid (X.cp k) (X.ci k) base ops i st=some s:=by
 unfold fH at hx ⊢
 cases hi:ops[i]? with
 | none=>rw[hi] at hx;cases hx
 | some o=>
  rw[hi] at hx;simp only[gP] at hx ⊢;obtain ⟨r,hr,hx⟩:=hx;unfold gX at hr ⊢
  cases hg:o.guard with
  | none=>rw[hg] at hr;obtain ⟨k,hk⟩:=XD h hr;exact ⟨k,r,hk,hx⟩
  | some jw=>
   obtain ⟨j,want⟩:=jw;rw[hg] at hr;simp only at hr ⊢
   cases hd:(ops[j]?).bind (·.dst) with
   | none=>rw[hd] at hr;cases hr
   | some g=>
    rw[hd] at hr;simp only at hr ⊢
    split at hr
    ·exact ⟨0,r,hr,hx⟩
    ·split at hr
     ·split at hr
      ·rename_i hb;subst hb;obtain ⟨k,hk⟩:=XD h hr;exact ⟨k,r,by simpa using hk,hx⟩
      ·rename_i hb;exact ⟨0,r,by rw[ai hb];exact hr,hx⟩
     ·cases hr
theorem Yz (h:Tends X cp ci) {base:Option Nat} {ops:Array Oper}:∀ (l:List Nat) {st s:St},ig C fid cp ci base ops l st=some s->∃ k,ig C fid (X.cp k) (X.ci k) base ops l st=some s
 | [],_,_,hx=>⟨0,hx⟩
 | i::l,st,s,hx=>by
  simp only[ig,bc] at hx ⊢;obtain ⟨s1,h1,h2⟩:=hx;obtain ⟨k1,h1⟩:=Y4 h h1;obtain ⟨k2,h2⟩:=Yz h l h2;exact ⟨max k1 k2,s1,Jg (X.up (Ak ..)) h1,OZ (X.up (CH ..)) l h2⟩
theorem YE (h:Tends X cp ci) {base:Option Nat} {ops:Array Oper} {l:List Nat} {st:St} {K:St->Option R} {r:R} (hx:mq C fid cp ci base ops l st K=some r):∃ k,mq C fid (X.cp k) (X.ci k) base ops l st K=some r:=by
 rw[sZ] at hx;simp only[bc] at hx;obtain ⟨s,h1,h2⟩:=hx;obtain ⟨k,h1⟩:=Yz h l h1;exact ⟨k,by rw[sZ,h1];exact h2⟩
theorem YB (h:Tends X cp ci) {lt:List (Nat×List Nat)} {ops:Array Oper}:∀ (l:List Nat) {st:St} {K:St->Option R} {r:R},qf C fid cp ci lt ops l st K=some r->∃ k,qf C fid (X.cp k) (X.ci k) lt ops l st K=some r
 | [],_,_,_,hx=>⟨0,hx⟩
 | i::l,st,K,r,hx=>by
  rw[xc,bc] at hx;obtain ⟨s1,h1,h2⟩:=hx;obtain ⟨h3,h4⟩:=LR h2;obtain ⟨k1,h1⟩:=Y4 h h1;obtain ⟨k2,h2⟩:=YB h l h4;refine ⟨max k1 k2,?_⟩;rw[xc,bc];exact ⟨s1,Jg (X.up (Ak ..)) h1,by rw[Az h3];exact O1 (X.up (CH ..)) l h2⟩
theorem WD {f:St->(Ex->St->Option R)->Option R} (hf:rR f) {st:St} {K:Ex->St->Option R} {r:R} (h:f st K=some r):∃ e s,K e s=some r/\∀ K',f st K'=K' e s:=by
 rcases hf st with hx | ⟨e,s,hx⟩
 ·rw[hx] at h;cases h
 ·exact ⟨e,s,by rw[hx] at h;exact h,fun K'=>by rw[hx]⟩
theorem qkH (h:Tends X cp ci):∀ (c:Code) (st:St) (K:Ex->St->Option R) (r:R),cu C fid cp ci c st K=some r->∃ k,cu C fid (X.cp k) (X.ci k) c st K=some r:=by
 intro c
 induction c with
 | region id ops d=>
  intro st K r hx
  cases d with
  | false=>simp only[cu] at hx ⊢;exact YE h hx
  | true=>
   simp only[cu] at hx ⊢
   cases hq:C.seqm fid id with
   | true=>
    rw[hq] at hx;simp only at hx ⊢
    cases hd:yh C.P ops (qd (C.ord fid id) ops.size) (C.ahd fid id) (C.late fid id) with
    | true=>rw[hd] at hx;exact YB h _ hx
    | false=>rw[hd] at hx;cases hx
   | false=>
   rw[hq] at hx;simp only at hx ⊢
   cases hd:yg C.P ops (qd (C.ord fid id) ops.size) (C.ahd fid id) (C.two fid id) with
   | true=>rw[hd] at hx;exact YE h hx
   | false=>rw[hd] at hx;cases hx
 | seq a b iha ihb=>
  intro st K r hx;simp only[cu] at hx ⊢;obtain ⟨k1,h1⟩:=iha _ _ _ hx;obtain ⟨e,s,h2,h3⟩:=WD (bW a) h1
  cases e with
  | normal=>
   obtain ⟨k2,h4⟩:=ihb _ _ _ h2;refine ⟨max k1 k2,?_⟩
   have h5:cu C fid (X.cp k1) (X.ci k1) a st (xd (fun st'=>cu C fid (X.cp (max k1 k2)) (X.ci (max k1 k2)) b st' K) K)=some r:=by
    rw[h3];exact AE (X.up (CH ..)) b _ _ _ h4
   exact AE (X.up (Ak ..)) a _ _ _ h5
  | exit id=>exact ⟨k1,by rw[h3];exact h2⟩
  | ret=>exact ⟨k1,by rw[h3];exact h2⟩
 | cond co a b iha ihb=>
  intro st K r hx;simp only[cu] at hx ⊢;unfold aw at hx ⊢
  split at hx
  ·split at hx
   ·exact iha _ _ _ hx
   ·exact ihb _ _ _ hx
  ·cases hx
 | block id b ih=>
  intro st K r hx;simp only[cu] at hx ⊢;exact ih _ _ _ hx
 | loop b ih=>
  intro st K r hx;simp only[cu,j7] at hx ⊢
  cases hf:kH (C.mask fid (keyOf b)).head st.tmps with
  | false=>rw[hf] at hx;cases hx
  | true=>
   rw[hf] at hx;simp only at hx ⊢;obtain ⟨n,hn⟩:=sS hx
   have:∀ n st,iY (cu C fid cp ci b) (C.mask fid (keyOf b)) n st K=some r->∃ k,qD (cu C fid (X.cp k) (X.ci k) b) (C.mask fid (keyOf b)) st K=some r:=by
    intro n
    induction n with
    | zero=>intro st hx;cases hx
    | succ n ihn=>
     intro st hx;simp only[iY] at hx;obtain ⟨k1,h1⟩:=ih _ _ _ hx;obtain ⟨e,s,h2,h3⟩:=WD (bW b) h1
     have fin:(∀ k,k1<=k->qe (fun st'=>qD (cu C fid (X.cp k) (X.ci k) b) (C.mask fid (keyOf b)) st' K) (C.mask fid (keyOf b)) K e s=some r->qD (cu C fid (X.cp k) (X.ci k) b) (C.mask fid (keyOf b)) st K=some r):=by
      intro k hk hr;rw[cg (bW b)];exact AE (X.up hk) b _ _ _ (by rw[h3];exact hr)
     cases e with
     | normal=>
      simp only[qe,j7] at h2
      cases AU:kH (C.mask fid (keyOf b)).head s.tmps with
      | true=>
       rw[AU] at h2;obtain ⟨k2,h4⟩:=ihn _ h2;refine ⟨max k1 k2,fin _ (Ak ..) ?_⟩;simp only[qe,j7,AU]
       have h5:cu C fid (X.cp k2) (X.ci k2) (.loop b) ⟨rb (C.mask fid (keyOf b)).head s.tmps,s.mem⟩ K=qD (cu C fid (X.cp k2) (X.ci k2) b) (C.mask fid (keyOf b)) ⟨rb (C.mask fid (keyOf b)).head s.tmps,s.mem⟩ K:=by
        have nF:∀ (bs:List Bool) (ts:List AV),kH bs (rb bs ts)=true:=by
         intro bs
         induction bs with
         | nil=>intro ts;rfl
         | cons b bs ihb=>intro ts;simp only[rb,kH];exact ihb _
        simp only[cu,j7,nF,OX]
       have h6:=AE (C:=C) (fid:=fid) (X.up (CH k1 k2)) (.loop b) _ _ _ (h5.trans h4)
       have nF:∀ (bs:List Bool) (ts:List AV),kH bs (rb bs ts)=true:=by
        intro bs
        induction bs with
        | nil=>intro ts;rfl
        | cons b bs ihb=>intro ts;simp only[rb,kH];exact ihb _
       simpa only[cu,j7,nF,OX] using h6
      | false=>rw[AU] at h2;cases h2
     | exit id=>exact ⟨k1,fin _ (aQ _) h2⟩
     | ret=>exact ⟨k1,fin _ (aQ _) h2⟩
   exact this n _ hn
 | _=>intro st K r hx;exact ⟨0,hx⟩
end
noncomputable def og (C:Cfg):Nat->Nat->List AV->af->OM
 | 0,_,_,_=>none
 | k+1,f,args,m=>match C.P.funcs[f]? with
  | none=>none
  | some fn=>match fn.body with
   | none=>none
   | some c=>cu C f (jG (og C k)) (og C k) c ⟨args++List.replicate (fn.ntmps - args.length) .any,m⟩ (aE C.P fn.results.toList)
noncomputable def AC (C:Cfg) (f:Nat) (args:List AV) (m:af):OM:=lim fun k=>og C k f args m
noncomputable def AP (C:Cfg):Nat->List AV->Option AV:=jG (AC C)
theorem LB {ci ci':Nat->List AV->af->OM} (h:∀ g vs m r,ci g vs m=some r->ci' g vs m=some r):nY (jG ci) (jG ci') ci ci':=by
 refine ⟨fun g vs v hx=>?_,h⟩;unfold jG at hx ⊢;simp only[bc] at hx ⊢;obtain ⟨r,h1,h2⟩:=hx;exact ⟨r,h _ _ _ _ h1,h2⟩
theorem LC (C:Cfg):∀ k f args m r,og C k f args m=some r->og C (k+1) f args m=some r:=by
 intro k
 induction k with
 | zero=>intro f args m r h;cases h
 | succ k ih=>
  intro f args m r h;rw[og] at h ⊢
  cases hf:C.P.funcs[f]? with
  | none=>rw[hf] at h;cases h
  | some fn=>
   rw[hf] at h;simp only at h ⊢
   cases hb:fn.body with
   | none=>rw[hb] at h;cases h
   | some c=>
    rw[hb] at h;exact AE (LB fun g vs m r=>ih g vs m r) c _ _ _ h
noncomputable def qkd (C:Cfg):Chain:=⟨fun k=>jG (og C k),fun k=>og C k,fun k=>LB (LC C k)⟩
theorem qpz (C:Cfg):Tends (qkd C) (AP C) (AC C):=by
 refine ⟨fun g vs v h=>?_,fun g vs m r h=>sS h⟩;unfold AP jG at h;simp only[bc] at h;obtain ⟨r,h1,h2⟩:=h;obtain ⟨k,hk⟩:=sS h1;refine ⟨k,?_⟩;show jG (og C k) g vs=some v;unfold jG;simp only[bc];exact ⟨r,hk,h2⟩
theorem bm (C:Cfg) (f:Nat) (args:List AV) (m:af) {fn:Func} {c:Code} (hf:C.P.funcs[f]?=some fn) (hb:fn.body=some c) :
  AC C f args m=cu C f (AP C) (AC C) c ⟨args++List.replicate (fn.ntmps - args.length) .any,m⟩ (aE C.P fn.results.toList):=by
 apply OG;intro r
 constructor
 ·intro h;obtain ⟨k,hk⟩:=sS h
  cases k with
  | zero=>cases hk
  | succ k=>
   rw[og,hf] at hk;simp only[hb] at hk;exact AE (LB fun g vs m r hr=>tq.lim (F:=fun k=>og C k g vs m) (fun k r h=>LC C k g vs m r h) hr) c _ _ _ hk
 ·intro h;obtain ⟨k,hk⟩:=qkH (qpz C) c _ _ _ h;refine tq.lim (F:=fun k=>og C k f args m) (fun k r h=>LC C k f args m r h) (k:=k+1) ?_;show og C (k+1) f args m=some r;rw[og,hf];simp only[hb];exact hk
end
end Go.Ab
namespace Go.Ab
open Go.RowKit
section
variable [WInv] {C:Cfg} {B:Nat} {w:World} {g:G} {m:af}
theorem qkI (hC:CfgOk C) {callI:Nat->List AV->af->OM} (hI:rP C callI) {R:Type} {fid:Nat}:∀ (c:Code) (st:St) (K:Ex->St->Option R) (r:R) (a:Act) (w:World) (g:G) (Q:Exit->Act->World->Prop),
  cu C fid (jG callI) callI c st K=some r->StR B w g st a->JG C B w g a K r Q->c.wp C.P Q a w:=by
 intro c
 induction c with
 | skip=>
  intro st K r a w g Q h hs hq;exact wp_skip (hq .normal st a w g h hs (Step.refl _ _ _) (iW.refl _ _))
 | region id ops d=>
  intro st K r a w g Q h hs hq;simp only[cu] at h
  cases d with
  | false=>
   simp only at h;rw[sZ] at h;simp only[bc] at h;obtain ⟨s',hr,hK⟩:=h;exact wp_region (YA hC hI _ st s' a w g hr hs fun a' w' g' gC s hd=>hq .normal s' a' w' g' hK gC s hd)
  | true=>
   simp only at h
   cases VO:C.seqm fid id with
   | true=>
    rw[VO] at h;simp only at h
    split at h
    ·rename_i bg;exact qkD hC hI bg h hs fun s' a' w' g' hK gC s hd=>hq .normal s' a' w' g' hK gC s hd
    ·cases h
   | false=>
   rw[VO] at h;simp only at h
   split at h
   ·rename_i bg
    cases ht:C.two fid id with
    | nil=>
     rw[ht] at bg h;exact qkE hC hI (qkB bg) h hs fun s' a' w' g' hK gC s hd=>hq .normal s' a' w' g' hK gC s hd
    | cons two sp=>
     rw[ht] at bg h;exact qkF hC hI bg h hs fun s' a' w' g' hK gC s hd=>hq .normal s' a' w' g' hK gC s hd
   ·cases h
 | seq x y ihx ihy=>
  intro st K r a w g Q h hs hq;simp only[cu] at h;refine wp_seq (ihx st _ r a w g _ h hs ?_);intro e st' a' w' g' hK gC s hd
  cases e with
  | normal=>
   simp only[xd] at hK;exact ihy st' K r a' w' g' Q hK gC fun e st'' a'' w'' g'' MG sM s' kJ=>hq e st'' a'' w'' g'' MG sM (s.trans s') (kJ.trans hd)
  | exit id=>exact hq (.exit id) st' a' w' g' hK gC s hd
  | ret=>exact hq .ret st' a' w' g' hK gC s hd
 | cond co x y ihx ihy=>
  intro st K r a w g Q h hs hq;simp only[cu] at h;have hV:=Uh hs.tmp co
  cases hv:ev st.tmps co with
  | bool b=>
   rw[hv] at h hV;generalize hx:a.eval co=v at hV;cases hV
   cases b with
   | true=>exact wp_cond_true hx (ihx st K r a w g Q (by simpa [aw] using h) hs hq)
   | false=>exact wp_cond_false hx (ihy st K r a w g Q (by simpa [aw] using h) hs hq)
  | _=>rw[hv] at h;simp[aw] at h
 | block id x ih=>
  intro st K r a w g Q h hs hq;simp only[cu] at h;refine wp_block (ih st _ r a w g _ h hs ?_);intro e st' a' w' g' hK gC s hd
  cases e with
  | normal=>exact hq .normal st' a' w' g' hK gC s hd
  | exit j=>
   simp only[bz] at hK
   by_cases hj:j=id
   ·have hb:(j == id)=true:=by simpa using hj
    rw[hb] at hK;simp only[Mf,Exit.inBlock,an hj];exact hq .normal st' a' w' g' hK gC s hd
   ·have hb:(j == id)=false:=by simpa using hj
    rw[hb] at hK;simp only[Mf,Exit.inBlock,ai hj];exact hq (.exit j) st' a' w' g' hK gC s hd
  | ret=>exact hq .ret st' a' w' g' hK gC s hd
 | loop x ih=>
  intro st K r a w g Q h hs hq;simp only[cu] at h;generalize C.mask fid (keyOf x)=mk at h;have H4:∀ (l:List Bool) {w:World} {g:G} {st:St} {a:Act},kH l st.tmps=true->StR B w g st a->StR B w g ⟨rb l st.tmps,st.mem⟩ a:=fun l w g st a hf hs=>⟨by rw[Yn _ _ hf];exact hs.tmp.mask _,hs.mem,hs.size⟩;simp only[j7] at h
  cases MS:kH mk.head st.tmps with
  | false=>rw[MS] at h;cases h
  | true=>
  rw[MS] at h;have nG:=H4 mk.head MS hs;obtain ⟨n,hn⟩:=sS h
  have round:∀ k (st:St) (a:Act) (w:World) (g:G),iY (cu C fid (jG callI) callI x) mk k st K=some r->StR B w g st a->JG C B w g a K r Q->x.wp C.P (Exit.then (LW C.P x Q) Q) a w:=by
   intro k
   induction k with
   | zero=>intro st a w g h;simp[iY] at h
   | succ k ihk=>
    intro st a w g h hs hq;simp only[iY] at h;refine ih st _ r a w g _ h hs ?_;intro e st' a' w' g' hK gC s hd;have hq':JG C B w' g' a' K r Q:=fun e st'' a'' w'' g'' MG sM s' kJ=>hq e st'' a'' w'' g'' MG sM (s.trans s') (kJ.trans hd)
    cases e with
    | normal=>
     simp only[qe,j7] at hK
     cases hf:kH mk.head st'.tmps with
     | false=>rw[hf] at hK;cases hK
     | true=>
      rw[hf] at hK;exact qnb (ihk _ a' w' g' hK (H4 _ hf gC) hq')
    | exit id=>
     simp only[qe,j7] at hK
     cases hf:kH mk.out st'.tmps with
     | false=>rw[hf] at hK;cases hK
     | true=>rw[hf] at hK;exact hq (.exit id) _ a' w' g' hK (H4 _ hf gC) s hd
    | ret=>
     simp only[qe,j7] at hK
     cases hf:kH mk.ret st'.tmps with
     | false=>rw[hf] at hK;cases hK
     | true=>rw[hf] at hK;exact hq .ret _ a' w' g' hK (H4 _ hf gC) s hd
  exact qpZ (round n _ a w g hn nG hq)
 | exit id=>
  intro st K r a w g Q h hs hq;exact wp_exit (hq (.exit id) st a w g h hs (Step.refl _ _ _) (iW.refl _ _))
 | ret=>
  intro st K r a w g Q h hs hq;exact wp_ret (hq .ret st a w g h hs (Step.refl _ _ _) (iW.refl _ _))
 | rangeFunc=>intro st K r a w g Q h;simp[cu] at h
 | scope=>intro st K r a w g Q h;simp[cu] at h
 | label=>intro st K r a w g Q h;simp[cu] at h
 | goto=>intro st K r a w g Q h;simp[cu] at h
 | refuse=>intro st K r a w g Q h;simp[cu] at h
theorem qhv (hC:CfgOk C):∀ k,rP C (og C k):=by
 intro k
 induction k with
 | zero=>intro f args m v m' h;simp[og] at h
 | succ k ih=>
  intro f args m v m' h;simp only[og] at h
  cases hfn:C.P.funcs[f]? with
  | none=>rw[hfn] at h;simp at h
  | some fn=>
   rw[hfn] at h;simp only at h
   cases hb:fn.body with
   | none=>rw[hb] at h;simp at h
   | some c=>
    rw[hb] at h;simp only at h;refine ⟨?_,fn,rfl,by simp[hb]⟩;intro B w g vs hm hB hl hv;refine calls_of_wp_defers hfn hb ?_
    have Bg:pV w g (args++List.replicate (fn.ntmps - args.length) .any) (vs++Array.replicate (fn.ntmps - vs.size) undef):=by
     refine ⟨by simp[hl],fun t=>?_⟩;simp only[aS,jE,qn,Array.getElem?_append]
     by_cases h1:t < args.length
     ·rw[an h1,an (by omega)];simpa [aS,jE] using hv t h1
     ·rw[ai h1,ai (by omega),Ad];split<;>exact .any _
    refine qkI hC ih c _ _ (v,m') _ w g _ h ⟨Bg,hm,hB⟩ ?_;intro e st' a' w' g' hK gC s hd
    have fin:(ug C.P st'.mem st'.tmps fn.results.toList).bind (fun vs=>some (Eu vs,st'.mem))=some (v,m')->Leaves C.P fn a'.tmps (fun e w'=>∃ v'' g'',e=Ending.returned v''/\Step B w g w' g''/\MemR B w' g'' m'/\V w' g'' v v'') a'.defers .returning w':=by
     intro hK;simp only[bc,bM,dT] at hK;obtain ⟨l,nc,rfl,rfl⟩:=hK;obtain ⟨vl,r1,r2,r3⟩:=Yr (P:=C.P) gC.mem gC.tmp _ l nc;refine Wy ⟨_,?_,_,g',rfl,s,gC.mem,qnK r2 r3⟩ _ (hd (fun d hd=>by cases hd));rw[qoA,Array.mapM_eq_mapM_toList];simp only[Sem.run_bind,Sem.run_map,r1,Result.andThen_ok,Sem.run_pure]
    cases e with
    | normal=>exact fin (by simpa only[aE,I6] using hK)
    | exit id=>simp[aE] at hK
    | ret=>exact fin (by simpa only[aE,I6] using hK)
theorem Z5 (hC:CfgOk C):rP C (AC C):=by
 intro f args m v m' h;obtain ⟨k,hk⟩:=sS h;exact qhv hC k f args m v m' hk
end
end Go.Ab
namespace Go.Ab
open Go.RowKit Go.Sort
def wU:List AV->Option (List Int)
 | []=>some []
 | .int .i64 n::l=>(wU l).map fun ns=>n::ns
 | _=>none
theorem NS:∀ {ks:List AV} {ns:List Int},wU ks=some ns->ks=ns.map (AV.int .i64)
 | [],ns,h=>by simp[wU] at h;subst h;rfl
 | x::l,ns,h=>by
  unfold wU at h
  split at h
  ·rename_i he;cases he
  ·rename_i n l' he;cases he;obtain ⟨ms,hm,rfl⟩:=gP.1 h;rw[NS hm];rfl
  ·cases h
theorem NT:∀ ns:List Int,wU (ns.map (AV.int .i64))=some ns
 | []=>rfl
 | n::ns=>by simp only[gd,wU,NT ns,aR]
def nT (ns:List Int):List Int:=ns.mergeSort fun x y=>decide (x<=y)
def zn:List AV->af->OM
 | [.lst _ _ _ []],m=>some (.tup [],m)
 | [.arr nm off n sh],m=>match sh with
  | some _=>none
  | none=>(m.obj? nm).bind fun o=>if o.1=false/\off=0/\0 < n/\n=o.2.length/\n<=1000000 then (wU o.2).map fun ns=>(.tup [],m.set nm (some (.obj false ((nT ns).map (AV.int .i64))))) else none
 | _,_=>none
def xZ:List AV->af->OM
 | [.lst sh z o []],m=>some (.lst sh z o [],m)
 | [.arr nm off n sh],m=>match sh with
  | some _=>none
  | none=>(m.obj? nm).bind fun o=>if o.1=false/\off=0/\0 < n/\n=o.2.length/\n<=1000000 then (wU o.2).map fun ns=>(.arr nm 0 (Lib.compact ns).length none,m.set nm (some (.obj false ((Lib.compact ns++List.replicate (ns.length - (Lib.compact ns).length) 0).map (AV.int .i64))))) else none
 | _,_=>none
abbrev l9:Int->Value:=Value.int .i64
section
variable [WInv] {P:Program} {B:Nat} {w:World} {g:G} {m:af}
theorem qom {w:World} {b:Nat} {d:Array Int} {c:Array Value} {e:TypeId} {fr:Nat×Nat} (hb:w.heap[b]?=some (Obj.cells c e fr)) (n:Nat) (os:Array Obj) :
  Below (w.setRow b (putCells l9 0 d c)).heap.size (w.setRow b (putCells l9 0 d c)) (grow (putRow l9 (Sort.ahead w n) b 0 d) os):=by
 have hsz:(w.setRow b (putCells l9 0 d c)).heap.size=w.heap.size:=by simp
 have NG:(putRow l9 (Sort.ahead w n) b 0 d).heap.size=w.heap.size:=by simp[putRow,mapBlock,Sort.ahead]
 refine ⟨rfl,rfl,rfl,?_,fun k hk=>?_⟩
 ·show _<=((putRow l9 (Sort.ahead w n) b 0 d).heap++os).size;rw[zE,hsz,NG];omega
 ·rw[hsz] at hk;rw[heap_grow_old _ os (by rw[NG];exact hk)]
  by_cases he:k=b
  ·subst he;rw[setRow_heap w k c _ e fr hb];simp only[putRow,mapBlock,Sort.ahead,Array.getElem?_modify,bw,hb,aR,onCells]
  ·rw[setRow_other w b k _ he];simp only[putRow,mapBlock,Sort.ahead,Array.getElem?_modify];rw[ai (fun h=>he h.symm)]
theorem qoi {d:Array Int} {c:Array Value} {j:Nat} (hj:j < d.size) (hc:d.size<=c.size):(putCells l9 0 d c).getD j undef=.int .i64 d[j]!:=by
 have A0:j < c.size:=by omega
 simp[putCells,jE,Array.getElem?_mapIdx,A0,hj]
theorem Ye (hm:MemR B w g m) (hB:B<=w.heap.size) {nm b:Nat} {cs:List AV} {c:Array Value} {e:TypeId} (hn:m.get nm=some (.obj false cs)) (hl:g.loc nm=some b) (hb:w.heap[b]?=some (Obj.cells c e (0,0))) (hcl:cs.length<=c.size) {ds:List Int} (hd:ds.length=cs.length) (n:Nat) (os:Array Obj) :
  Step B w g (grow (putRow l9 (Sort.ahead w n) b 0 ds.toArray) os) g/\MemR B (grow (putRow l9 (Sort.ahead w n) b 0 ds.toArray) os) g (m.set nm (some (.obj false (ds.map (AV.int .i64))))):=by
 have hsz:(putCells l9 0 ds.toArray c).size=c.size:=by simp[putCells]
 obtain ⟨s1,lQ⟩:=hm.write (cs':=ds.map (AV.int .i64)) (c':=putCells l9 0 ds.toArray c) hn hl hb hsz (by rw[hsz,bX];omega) (fun j hj=>by
  rw[bX] at hj;rw[qoi (by simpa using hj) (by simp;omega)];have e1:(ds.map (AV.int .i64)).getD j .any=.int .i64 ds[j]:=by simp[aS,hj]
  have e2:ds.toArray[j]! = ds[j]:=by simp[hj]
  rw[e1,e2]
  exact .int _ _)
 have pH:=qom (d:=ds.toArray) hb n os;have yn:B<=(w.setRow b (putCells l9 0 ds.toArray c)).heap.size:=by simpa using hB
 have s2:Step B (w.setRow b (putCells l9 0 ds.toArray c)) g (grow (putRow l9 (Sort.ahead w n) b 0 ds.toArray) os) g:=
  ⟨pH.mono yn,fun b' off u _ hc=>(pH.cell (p:=⟨b',off,none⟩) (tC hc)).trans hc,fun b' c' e' fr iy=>⟨c',(pH.block b' (fF.1 iy).1).trans iy,rfl⟩,fun _ _ _ h=>h,fun _ _ _=>Iff.rfl,fun _ _=>Iff.rfl,fun _ _ h=>h,fun _ _ _ h=>h⟩
 exact ⟨s1.trans s2,lQ.keep s2 (fun b' _ iy=>pH.block b' iy) (fun _ _ h=>h) rfl rfl (fun b' off hw=>qV (lQ.wrLt b' off hw) pH.size) (fun b' hw=>qV (lQ.boxLt b' hw) pH.size)⟩
theorem VG {b:Nat} {cs:List AV} {c:Array Value} {e:TypeId} (hb:w.heap[b]?=some (Obj.cells c e (0,0))) (hcl:cs.length<=c.size) {ns:List Int} (hc:cs=ns.map (AV.int .i64)) (hv:∀ j,j < cs.length->V w g (cs.getD j .any) (c.getD j undef)):Holds l9 w b 0 ns.toArray:=by
 intro j hj;have gJ:j < ns.length:=by simpa using hj
 have A0:j < cs.length:=by rw[hc,bX];exact gJ
 have h1:=hv j A0;have e1:cs.getD j .any=.int .i64 ns[j]:=by rw[hc];simp[aS,gJ]
 rw[e1] at h1
 have e3:c.getD j undef=.int .i64 ns[j]:=by
  generalize c.getD j undef=u at h1;cases h1;rfl
 refine ⟨?_,by simp[World.frozen?,hb]⟩;rw[cell_of_row w _ _ c e (0,0) hb];have hjs:j < c.size:=by omega
 simp only[bp];rw[jE,B1 hjs,dh] at e3;rw[B1 hjs,e3];simp[gJ]
theorem qo8 {f:Nat} (hS:∀ (ba cap:Nat) (zs:List Int) (w:World),Holds l9 w ba 0 zs.toArray->ba < w.heap.size->zs.length < 4611686018427387904->Calls P f #[.slice (some ⟨ba,0,none⟩) zs.length cap] w fun e w'=>e=.returned (.tuple #[])/\∃ n os,w'=grow (putRow l9 (Sort.ahead w n) ba 0 (nT zs).toArray) os)
  (hN:∀ (p:Option Addr) (cap:Nat) (w:World),Calls P f #[.slice p 0 cap] w fun e w'=>e=.returned (.tuple #[])/\w'=w) (vs:List AV) (m:af) (v:AV) (m':af) (h:zn vs m=some (v,m')):th P f vs m v m':=by
 intro B w g us hm hB hus hV
 have one:∀ x,vs=[x]->∃ u,us = #[u]/\V w g x u:=fun x hx=>by
  subst hx;have hsz:us.size=1:=by simpa using hus.symm
  have h0:=hV 0 (by simp);simp only[pq] at h0;refine ⟨us.getD 0 undef,?_,h0⟩;apply Array.ext (by simpa using hsz);intro i hi1 hi2;obtain rfl:i=0:=by simp at hi2;omega
  simp[Array.getD,hi1]
 unfold zn at h
 split at h
 ·rename_i m0 sh z o;simp only[bM,dT] at h;obtain ⟨rfl,rfl⟩:=h;obtain ⟨u,rfl,hu⟩:=one _ rfl;have hus:∃ p cap,u=.slice p 0 cap:=by cases hu<;>exact ⟨_,_,rfl⟩
  obtain ⟨p,cap,rfl⟩:=hus;refine (hN p cap w).mono ?_;rintro e w' ⟨rfl,rfl⟩;exact ⟨_,g,rfl,Step.refl _ _ _,hm,.tup [] #[] rfl (fun j hj=>absurd hj (Nat.not_lt_zero j))⟩
 ·rename_i m0 nm off n sh
  split at h
  ·cases h
  ·obtain ⟨⟨bx,cs⟩,ho,h2⟩:=bc.1 h;clear h;simp only at h2
   split at h2
   ·rename_i hc;obtain ⟨rfl,rfl,lR,rfl,H6⟩:=hc;obtain ⟨ns,hns,h3⟩:=gP.1 h2;simp only[dT] at h3;obtain ⟨rfl,rfl⟩:=h3;have gV:=NS hns;obtain ⟨u,rfl,hu⟩:=one _ rfl;have aU:=obj?_get ho;obtain ⟨b,c,e,o1,o2,o3,o4,o5,o6,o7⟩:=hm.obj nm false cs aU
    cases hu with
    | arr _ _ _ _ a cap hs tG hmx hl=>
     obtain ⟨l1,l2,_⟩:=hl.resolve_left (by omega);obtain rfl:b=a.block:=by simpa [o1] using l1
     have hlen:cs.length=ns.length:=by rw[gV,bX]
     have hH:=VG (g:=g) o3 o4 gV o5;rw[l2,hlen];refine (hS a.block cap ns w hH (fF.1 o3).1 (by omega)).mono ?_;rintro e' w' ⟨rfl,k,os,rfl⟩;obtain ⟨s,hm'⟩:=Ye hm hB aU o1 o3 o4 (ds:=nT ns) (by rw[nT,List.length_mergeSort,hlen]) k os;exact ⟨_,g,rfl,s,hm',.tup [] #[] rfl (fun j hj=>absurd hj (Nat.not_lt_zero j))⟩
   ·cases h2
 ·cases h
theorem qkp {f:Nat} (hS:∀ (ba cap:Nat) (zs:List Int) (w:World),Holds l9 w ba 0 zs.toArray->zs.length<=9223372036854775807->zs.length<=cap->Calls P f #[.slice (some ⟨ba,0,none⟩) zs.length cap] w fun e w'=>e=.returned (.slice (some ⟨ba,0,none⟩) (Lib.compact zs).length cap)/\∃ q,w'=putRow l9 (Sort.ahead w q) ba 0 (Lib.compact zs++List.replicate (zs.length - (Lib.compact zs).length) 0).toArray)
  (hN:∀ (p:Option Addr) (cap:Nat) (w:World),Calls P f #[.slice p 0 cap] w fun e w'=>e=.returned (.slice p 0 cap)/\w'=w) (hle:∀ zs:List Int,(Lib.compact zs).length<=zs.length) (vs:List AV) (m:af) (v:AV) (m':af) (h:xZ vs m=some (v,m')):th P f vs m v m':=by
 intro B w g us hm hB hus hV
 have one:∀ x,vs=[x]->∃ u,us = #[u]/\V w g x u:=fun x hx=>by
  subst hx;have hsz:us.size=1:=by simpa using hus.symm
  have h0:=hV 0 (by simp);simp only[pq] at h0;refine ⟨us.getD 0 undef,?_,h0⟩;apply Array.ext (by simpa using hsz);intro i hi1 hi2;obtain rfl:i=0:=by simp at hi2;omega
  simp[Array.getD,hi1]
 unfold xZ at h
 split at h
 ·rename_i m0 sh z o;simp only[bM,dT] at h;obtain ⟨rfl,rfl⟩:=h;obtain ⟨u,rfl,hu⟩:=one _ rfl;have hus:∃ p cap,u=.slice p 0 cap:=by cases hu<;>exact ⟨_,_,rfl⟩
  obtain ⟨p,cap,rfl⟩:=hus;refine (hN p cap w).mono ?_;rintro e w' ⟨rfl,rfl⟩;exact ⟨_,g,rfl,Step.refl _ _ _,hm,hu⟩
 ·rename_i m0 nm off n sh
  split at h
  ·cases h
  ·obtain ⟨⟨bx,cs⟩,ho,h2⟩:=bc.1 h;clear h;simp only at h2
   split at h2
   ·rename_i hc;obtain ⟨rfl,rfl,lR,rfl,H6⟩:=hc;obtain ⟨ns,hns,h3⟩:=gP.1 h2;simp only[dT] at h3;obtain ⟨rfl,rfl⟩:=h3;have gV:=NS hns;obtain ⟨u,rfl,hu⟩:=one _ rfl;have aU:=obj?_get ho;obtain ⟨b,c,e,o1,o2,o3,o4,o5,o6,o7⟩:=hm.obj nm false cs aU
    cases hu with
    | arr _ _ _ _ a cap hs tG hmx hl=>
     obtain ⟨l1,l2,c2,e2,l3,l4⟩:=hl.resolve_left (by omega);obtain rfl:b=a.block:=by simpa [o1] using l1
     have hlen:cs.length=ns.length:=by rw[gV,bX]
     have hH:=VG (g:=g) o3 o4 gV o5;rw[hlen] at tG;rw[l2,hlen];refine (hS a.block cap ns w hH (by omega) tG).mono ?_;rintro e' w' ⟨rfl,k,rfl⟩;have hcl:=hle ns;obtain ⟨s,hm'⟩:=Ye hm hB aU o1 o3 o4 (ds:=Lib.compact ns++List.replicate (ns.length - (Lib.compact ns).length) 0) (by rw[aI,uy];omega) k #[]
     have eg:grow (putRow l9 (Sort.ahead w k) a.block 0 (Lib.compact ns++List.replicate (ns.length - (Lib.compact ns).length) 0).toArray) #[]=putRow l9 (Sort.ahead w k) a.block 0 (Lib.compact ns++List.replicate (ns.length - (Lib.compact ns).length) 0).toArray:=by
      simp only[grow,Array.append_empty]
     rw[eg] at s hm';refine ⟨_,g,rfl,s,hm',.arr _ _ _ _ _ _ (.inr rfl) (by omega) hmx (.inr ⟨o1,rfl,?_⟩)⟩;obtain ⟨c',k1,k2⟩:=s.shape _ _ _ _ l3;exact ⟨c',e2,k1,by omega⟩
   ·cases h2
 ·cases h
end
end Go.Ab
namespace Go.Proofs
open Go.Shelf
def Tryz.lays169_ren:Go.Shelf.Ren:=⟨fun | 169=>176 | n=>n,fun | 70=>200 | 9=>9 | 0=>0 | 72=>203 | 37=>201 | 127=>215 | 3=>3 | 5=>5 | n=>n,fun | n=>n⟩
theorem Tryz.lays169:Go.Proofs.Lays.n169 Tryz.prog Tryz.lays169_ren:={
 mixed:=by kernel_rfl
 f169:=Tryz.func176.trans (cV some (by kernel_rfl))
 t0:=Tryz.underlying0
 a0:=Tryz.isAgg0
 z0:=Tryz.sizeOf0
 v0:=Tryz.zeroValue0
 t3:=Tryz.underlying3
 a3:=Tryz.isAgg3
 z3:=Tryz.sizeOf3
 v3:=Tryz.zeroValue3
 t9:=Tryz.underlying9
 a9:=Tryz.isAgg9
 z9:=Tryz.sizeOf9
 v9:=Tryz.zeroValue9
 t37:=Tryz.underlying201
 a37:=Tryz.isAgg201
 z37:=Tryz.sizeOf201
 v37:=Tryz.zeroValue201
 t70:=Tryz.underlying200
 a70:=Tryz.isAgg200
 z70:=Tryz.sizeOf200
 v70:=Tryz.zeroValue200
 t72:=Tryz.underlying203
 a72:=Tryz.isAgg203
 z72:=Tryz.sizeOf203
 v72:=Tryz.zeroValue203
 t127:=Tryz.underlying215
 a127:=Tryz.isAgg215
 z127:=Tryz.sizeOf215
 v127:=Tryz.zeroValue215 }
theorem Tryz.Builder_Extra_169:Builder.Extra Tryz.prog Tryz.lays169_ren:={
 sizeBuilder:=by kernel_rfl
 liesBuilder:=by kernel_rfl
 t5:=Tryz.underlying5
 a5:=Tryz.isAgg5
 z5:=Tryz.sizeOf5
 v5:=Tryz.zeroValue5
 infoByte:=by kernel_rfl
 cellsByte:=by kernel_rfl
 sizeByte:=by kernel_rfl
 neB5:=by decide }
open Go.RowKit in
theorem Tryz.Builder_String_any_k (B b:Nat) (l:List UInt8) (w:World) (h:Lib.IsBuilderF 203 5 B b (Lib.byteCells l) w) (hBw:B<=w.heap.size) :
  Calls Tryz.prog 176 #[.pointer (some ⟨b,0,none⟩)] w fun e w'=>e=.returned (.string ⟨l.toArray⟩)/\(Lib.IsBuilderF 203 5 B b (Lib.byteCells l) w'/\Below B w w'/\Lib.OthersKept 5 (some b) w w'):=Any.Builder_String_any_k Tryz.lays169 Tryz.Builder_Extra_169 B b l w h hBw
def Tryz.laysM171_ren:Go.Shelf.Ren:=⟨fun | 171=>173 | 243=>188 | 246=>205 | 283=>213 | 284=>214 | 285=>215 | 286=>216 | 129=>200 | 317=>218 | 318=>219 | 319=>220 | 320=>221 | 337=>222 | 338=>223 | n=>n,fun | 3=>3 | 9=>9 | 2=>2 | 4=>4 | 171=>238 | 0=>0 | 53=>117 | 37=>201 | 5=>5 | 173=>240 | 212=>246 | 51=>161 | 20=>20 | 213=>247 | 46=>162 | 232=>248 | 233=>249 | n=>n,fun | 17=>0 | 18=>1 | 19=>2 | n=>n⟩
theorem Tryz.laysM171:Go.Proofs.LaysM.n171 Tryz.prog Tryz.laysM171_ren:={
 mixed:=by kernel_rfl
 f129:=Tryz.func200.trans (cV some (by kernel_rfl))
 f171:=Tryz.func173.trans (cV some (by kernel_rfl))
 f243:=Tryz.func188.trans (cV some (by kernel_rfl))
 f246:=Tryz.func205.trans (cV some (by kernel_rfl))
 f283:=Tryz.func213.trans (cV some (by kernel_rfl))
 f284:=Tryz.func214.trans (cV some (by kernel_rfl))
 f285:=Tryz.func215.trans (cV some (by kernel_rfl))
 f286:=Tryz.func216.trans (cV some (by kernel_rfl))
 f317:=Tryz.func218.trans (cV some (by kernel_rfl))
 f318:=Tryz.func219.trans (cV some (by kernel_rfl))
 f319:=Tryz.func220.trans (cV some (by kernel_rfl))
 f320:=Tryz.func221.trans (cV some (by kernel_rfl))
 f337:=Tryz.func222.trans (cV some (by kernel_rfl))
 f338:=Tryz.func223.trans (cV some (by kernel_rfl))
 t0:=Tryz.underlying0
 a0:=Tryz.isAgg0
 z0:=Tryz.sizeOf0
 v0:=Tryz.zeroValue0
 t2:=Tryz.underlying2
 a2:=Tryz.isAgg2
 z2:=Tryz.sizeOf2
 v2:=Tryz.zeroValue2
 t3:=Tryz.underlying3
 a3:=Tryz.isAgg3
 z3:=Tryz.sizeOf3
 v3:=Tryz.zeroValue3
 t4:=Tryz.underlying4
 a4:=Tryz.isAgg4
 z4:=Tryz.sizeOf4
 v4:=Tryz.zeroValue4
 t5:=Tryz.underlying5
 a5:=Tryz.isAgg5
 z5:=Tryz.sizeOf5
 v5:=Tryz.zeroValue5
 t9:=Tryz.underlying9
 a9:=Tryz.isAgg9
 z9:=Tryz.sizeOf9
 v9:=Tryz.zeroValue9
 t20:=Tryz.underlying20
 a20:=Tryz.isAgg20
 z20:=Tryz.sizeOf20
 v20:=Tryz.zeroValue20
 t37:=Tryz.underlying201
 a37:=Tryz.isAgg201
 z37:=Tryz.sizeOf201
 v37:=Tryz.zeroValue201
 t46:=Tryz.underlying162
 a46:=Tryz.isAgg162
 z46:=Tryz.sizeOf162
 v46:=Tryz.zeroValue162
 t51:=Tryz.underlying161
 a51:=Tryz.isAgg161
 z51:=Tryz.sizeOf161
 v51:=Tryz.zeroValue161
 t53:=Tryz.underlying117
 a53:=Tryz.isAgg117
 z53:=Tryz.sizeOf117
 v53:=Tryz.zeroValue117
 t171:=Tryz.underlying238
 a171:=Tryz.isAgg238
 z171:=Tryz.sizeOf238
 v171:=Tryz.zeroValue238
 t173:=Tryz.underlying240
 a173:=Tryz.isAgg240
 z173:=Tryz.sizeOf240
 v173:=Tryz.zeroValue240
 t212:=Tryz.underlying246
 a212:=Tryz.isAgg246
 z212:=Tryz.sizeOf246
 v212:=Tryz.zeroValue246
 t213:=Tryz.underlying247
 a213:=Tryz.isAgg247
 z213:=Tryz.sizeOf247
 t232:=Tryz.underlying248
 a232:=Tryz.isAgg248
 z232:=Tryz.sizeOf248
 v232:=Tryz.zeroValue248
 t233:=Tryz.underlying249
 a233:=Tryz.isAgg249
 z233:=Tryz.sizeOf249
 v233:=Tryz.zeroValue249
 g17:=by kernel_rfl
 g18:=by kernel_rfl
 g19:=by kernel_rfl
 i0:=by kernel_rfl
 i2:=by kernel_rfl
 i3:=by kernel_rfl
 i4:=by kernel_rfl
 i5:=by kernel_rfl
 i9:=by kernel_rfl
 i20:=by kernel_rfl
 i37:=by kernel_rfl
 i46:=by kernel_rfl
 i51:=by kernel_rfl
 i53:=by kernel_rfl
 i171:=by kernel_rfl
 i173:=by kernel_rfl
 i212:=by kernel_rfl
 i232:=by kernel_rfl
 i233:=by kernel_rfl
 m17:=by kernel_rfl
 m18:=by kernel_rfl
 m19:=by kernel_rfl }
open Go.RowKit Go.Sort Go.Lib in
theorem Tryz.strconv_Itoa (n:Int) (h0:-9223372036854775808<=n) (h1:n<=9223372036854775807) (w:World) (htab:Lib.TabIs Tryz.prog w "internal/strconv.uint64pow10" .u64 Lib.pow10Tab) :
  Calls Tryz.prog 173 #[.int .i64 n] w fun e w'=>e=.returned (.string ⟨(Lib.itoa n).toArray⟩)/\∃ k os,w'=grow (w.drewN k) os:=Any.strconv_Itoa Tryz.laysM171 n h0 h1 w htab
def Tryz.lays189_ren:Go.Shelf.Ren:=⟨fun | 189=>148 | 125=>179 | 257=>178 | 128=>199 | 129=>200 | 294=>190 | 295=>191 | 296=>192 | 297=>193 | 298=>194 | 299=>195 | 216=>196 | 300=>197 | 301=>198 | 328=>207 | 329=>208 | 330=>209 | 331=>210 | 332=>211 | 215=>212 | 343=>217 | n=>n,fun | 28=>22 | 3=>3 | 46=>162 | 0=>0 | 51=>161 | 53=>117 | 4=>4 | 183=>218 | 182=>217 | 131=>173 | 5=>5 | 9=>9 | 218=>232 | 222=>236 | 228=>242 | 229=>243 | n=>n,fun | n=>n⟩
theorem Tryz.lays189:Go.Proofs.Lays.n189 Tryz.prog Tryz.lays189_ren:={
 mixed:=by kernel_rfl
 f125:=Tryz.func179.trans (cV some (by kernel_rfl))
 f128:=Tryz.func199.trans (cV some (by kernel_rfl))
 f129:=Tryz.func200.trans (cV some (by kernel_rfl))
 f189:=Tryz.func148.trans (cV some (by kernel_rfl))
 f215:=Tryz.func212.trans (cV some (by kernel_rfl))
 f216:=Tryz.func196.trans (cV some (by kernel_rfl))
 f257:=Tryz.func178.trans (cV some (by kernel_rfl))
 f294:=Tryz.func190.trans (cV some (by kernel_rfl))
 f295:=Tryz.func191.trans (cV some (by kernel_rfl))
 f296:=Tryz.func192.trans (cV some (by kernel_rfl))
 f297:=Tryz.func193.trans (cV some (by kernel_rfl))
 f298:=Tryz.func194.trans (cV some (by kernel_rfl))
 f299:=Tryz.func195.trans (cV some (by kernel_rfl))
 f300:=Tryz.func197.trans (cV some (by kernel_rfl))
 f301:=Tryz.func198.trans (cV some (by kernel_rfl))
 f328:=Tryz.func207.trans (cV some (by kernel_rfl))
 f329:=Tryz.func208.trans (cV some (by kernel_rfl))
 f330:=Tryz.func209.trans (cV some (by kernel_rfl))
 f331:=Tryz.func210.trans (cV some (by kernel_rfl))
 f332:=Tryz.func211.trans (cV some (by kernel_rfl))
 f343:=Tryz.func217.trans (cV some (by kernel_rfl))
 t0:=Tryz.underlying0
 a0:=Tryz.isAgg0
 z0:=Tryz.sizeOf0
 v0:=Tryz.zeroValue0
 t3:=Tryz.underlying3
 a3:=Tryz.isAgg3
 z3:=Tryz.sizeOf3
 v3:=Tryz.zeroValue3
 t4:=Tryz.underlying4
 a4:=Tryz.isAgg4
 z4:=Tryz.sizeOf4
 v4:=Tryz.zeroValue4
 t5:=Tryz.underlying5
 a5:=Tryz.isAgg5
 z5:=Tryz.sizeOf5
 v5:=Tryz.zeroValue5
 t9:=Tryz.underlying9
 a9:=Tryz.isAgg9
 z9:=Tryz.sizeOf9
 v9:=Tryz.zeroValue9
 t28:=Tryz.underlying22
 a28:=Tryz.isAgg22
 z28:=Tryz.sizeOf22
 v28:=Tryz.zeroValue22
 t46:=Tryz.underlying162
 a46:=Tryz.isAgg162
 z46:=Tryz.sizeOf162
 v46:=Tryz.zeroValue162
 t51:=Tryz.underlying161
 a51:=Tryz.isAgg161
 z51:=Tryz.sizeOf161
 v51:=Tryz.zeroValue161
 t53:=Tryz.underlying117
 a53:=Tryz.isAgg117
 z53:=Tryz.sizeOf117
 v53:=Tryz.zeroValue117
 t131:=Tryz.underlying173
 a131:=Tryz.isAgg173
 z131:=Tryz.sizeOf173
 v131:=Tryz.zeroValue173
 t182:=Tryz.underlying217
 a182:=Tryz.isAgg217
 z182:=Tryz.sizeOf217
 v182:=Tryz.zeroValue217
 t183:=Tryz.underlying218
 a183:=Tryz.isAgg218
 z183:=Tryz.sizeOf218
 v183:=Tryz.zeroValue218
 t218:=Tryz.underlying232
 a218:=Tryz.isAgg232
 z218:=Tryz.sizeOf232
 v218:=Tryz.zeroValue232
 t222:=Tryz.underlying236
 a222:=Tryz.isAgg236
 z222:=Tryz.sizeOf236
 v222:=Tryz.zeroValue236
 t228:=Tryz.underlying242
 a228:=Tryz.isAgg242
 z228:=Tryz.sizeOf242
 v228:=Tryz.zeroValue242
 t229:=Tryz.underlying243
 a229:=Tryz.isAgg243
 z229:=Tryz.sizeOf243
 v229:=Tryz.zeroValue243 }
open Go.Sort Go.RowKit in
theorem Tryz.slices_Sort_int (ba off cap:Nat) (zs:List Int) (w:World) (hH:Holds (Value.int .i64) w ba off zs.toArray) (hblk:ba < w.heap.size) (hsz:zs.length < 4611686018427387904) :
  Calls Tryz.prog 148 #[.slice (some ⟨ba,off,none⟩) zs.length cap] w fun e w'=>
   e=.returned (.tuple #[])/\∃ n os,w'=grow (putRow (Value.int .i64) (Sort.ahead w n) ba off (zs.mergeSort fun x y=>decide (x<=y)).toArray) os:=Any.slices_Sort_int Tryz.lays189 ba off cap zs w hH hblk hsz
def Tryz.laysNm220_ren:Go.Shelf.Ren:=⟨fun | 20=>149 | n=>n,fun | 22=>22 | 3=>3 | 4=>4 | 0=>0 | n=>n,fun | n=>n⟩
theorem Tryz.laysNm220:Go.Proofs.Lays2.n20 Tryz.prog Tryz.laysNm220_ren:={
 mixed:=by kernel_rfl
 f20:=Tryz.func149.trans (cV some (by kernel_rfl))
 t0:=Tryz.underlying0
 a0:=Tryz.isAgg0
 z0:=Tryz.sizeOf0
 v0:=Tryz.zeroValue0
 t3:=Tryz.underlying3
 a3:=Tryz.isAgg3
 z3:=Tryz.sizeOf3
 v3:=Tryz.zeroValue3
 t4:=Tryz.underlying4
 a4:=Tryz.isAgg4
 z4:=Tryz.sizeOf4
 v4:=Tryz.zeroValue4
 t22:=Tryz.underlying22
 a22:=Tryz.isAgg22
 z22:=Tryz.sizeOf22
 v22:=Tryz.zeroValue22
 i3:=by kernel_rfl }
open Go.RowKit Go.Lib Go.Sort in
theorem Tryz.slices_Compact_int (ba off cap:Nat) (zs:List Int) (w:World) (hH:Holds (Value.int .i64) w ba off zs.toArray) (hsz:zs.length<=9223372036854775807) (hcap:zs.length<=cap) :
  Calls Tryz.prog 149 #[.slice (some ⟨ba,off,none⟩) zs.length cap] w fun e w'=>e=.returned (.slice (some ⟨ba,off,none⟩) (Lib.compact zs).length cap)/\∃ q,w'=putRow (Value.int .i64) (Sort.ahead w q) ba off (Lib.compact zs++List.replicate (zs.length - (Lib.compact zs).length) 0).toArray:=Any.slices_Compact_int Tryz.laysNm220 ba off cap zs w hH hsz hcap
open Go.RowKit Go.Lib Go.Sort in
theorem Tryz.slices_Compact_int_empty (a:Option Addr) (cap:Nat) (w:World) :
  Calls Tryz.prog 149 #[.slice a 0 cap] w fun e w'=>e=.returned (.slice a 0 cap)/\w'=w:=Any.slices_Compact_int_empty Tryz.laysNm220 a cap w
open Go.RowKit Go.Sort in
theorem Tryz.slices_Sort_int_none (p:Option Addr) (cap:Nat) (w:World) :
  Calls Tryz.prog 148 #[.slice p 0 cap] w fun e w'=>e=.returned (.tuple #[])/\w'=w:=Any.slices_Sort_int_none Tryz.lays189 p cap w
end Go.Proofs
namespace Go.Proofs
open Go.Shelf Go.RowKit
theorem Yd.infoByte:(Tryz.prog.info? 5).map (fun i=>(i.zero,i.size,i.bytes))=some (some (.int .u8 0),1,1):=by kernel_rfl
theorem Yd.sizeBuilder:(Tryz.prog.info? 203).map (·.size)=some 2:=by kernel_rfl
theorem Yd.liesBuilder:liesAt Tryz.prog Tryz.prog.depth 203 (2 / Tryz.prog.cellsOf 203) 0 203 1=true:=by kernel_rfl
set_option maxHeartbeats 2000000 in
set_option maxRecDepth 100000 in
theorem Yd.Builder_copyCheck_used (b:Nat) (w:World) (h0:w.cell? ⟨b,0,none⟩=some (.pointer (some ⟨b,0,none⟩))) :
  Calls Tryz.prog 189 #[.pointer (some ⟨b,0,none⟩)] w fun e w'=>e=.returned (.tuple #[])/\w'=w:=by
 obtain ⟨j,hj,_⟩:=gP.1 Yd.sizeBuilder;have mixed:Tryz.prog.follows .mixedOrders=true:=by kernel_rfl
 have t72:=Tryz.underlying203;have a72:=Tryz.isAgg203;have z72:=Tryz.sizeOf203;have v72:=Tryz.zeroValue203;have u72:=run_underlying Tryz.underlying203;have t70:=Tryz.underlying200;have a70:=Tryz.isAgg200;have z70:=Tryz.sizeOf200;have v70:=Tryz.zeroValue200;have u70:=run_underlying Tryz.underlying200;have t9:=Tryz.underlying9;have a9:=Tryz.isAgg9;have z9:=Tryz.sizeOf9;have v9:=Tryz.zeroValue9;have u9:=run_underlying Tryz.underlying9;have t4:=Tryz.underlying4;have a4:=Tryz.isAgg4;have z4:=Tryz.sizeOf4;have v4:=Tryz.zeroValue4;have u4:=run_underlying Tryz.underlying4;have t164:=Tryz.underlying230;have a164:=Tryz.isAgg230;have z164:=Tryz.sizeOf230;have v164:=Tryz.zeroValue230;have u164:=run_underlying Tryz.underlying230
 go_enter Tryz.func189,Tryz.ntmps189
 go_wp2
 rw[Lib.run_neq_ptr_same w _ Tryz.underlying200 hj]
 go_wp2
 go_end0
 exact ⟨rfl,rfl⟩
set_option maxHeartbeats 2000000 in
set_option maxRecDepth 100000 in
theorem Yd.Builder_copyCheck_fresh (b:Nat) (w:World) (h0:w.cell? ⟨b,0,none⟩=some (.pointer none)) (hsh:w.shape? b=some (203,2)) (hfz:w.frozen? ⟨b,0,none⟩=false) :
  Calls Tryz.prog 189 #[.pointer (some ⟨b,0,none⟩)] w fun e w'=>e=.returned (.tuple #[])/\w'=w.setCell ⟨b,0,none⟩ (.pointer (some ⟨b,0,none⟩)):=by
 obtain ⟨j,hj,hjs⟩:=gP.1 Yd.sizeBuilder;have mixed:Tryz.prog.follows .mixedOrders=true:=by kernel_rfl
 have t72:=Tryz.underlying203;have a72:=Tryz.isAgg203;have z72:=Tryz.sizeOf203;have v72:=Tryz.zeroValue203;have u72:=run_underlying Tryz.underlying203;have t70:=Tryz.underlying200;have a70:=Tryz.isAgg200;have z70:=Tryz.sizeOf200;have v70:=Tryz.zeroValue200;have u70:=run_underlying Tryz.underlying200;have t9:=Tryz.underlying9;have a9:=Tryz.isAgg9;have z9:=Tryz.sizeOf9;have v9:=Tryz.zeroValue9;have u9:=run_underlying Tryz.underlying9;have t4:=Tryz.underlying4;have a4:=Tryz.isAgg4;have z4:=Tryz.sizeOf4;have v4:=Tryz.zeroValue4;have u4:=run_underlying Tryz.underlying4;have t164:=Tryz.underlying230;have a164:=Tryz.isAgg230;have z164:=Tryz.sizeOf230;have v164:=Tryz.zeroValue230;have u164:=run_underlying Tryz.underlying230
 go_enter Tryz.func189,Tryz.ntmps189
 go_wp2
 rw[Lib.run_to_unsafe w ⟨b,0,none⟩ Tryz.underlying200 Tryz.underlying230 hj (by rw[hjs];decide) hsh (Nat.zero_lt_succ 1)];simp only[Result.andThen];rw[Oper.upon_value]
 go_wp2
 rw[run_callFunc_extern Tryz.func206 (by kernel_rfl) (by kernel_rfl) (by kernel_rfl) (e:=Extern.AbiNoEscape.same) (by kernel_rfl)];rw[Lib.run_noEscape];simp only[Result.andThen];rw[Oper.upon_value]
 go_wp2
 rw[Lib.run_from_unsafe w ⟨b,0,none⟩ Tryz.underlying230 Tryz.underlying200 hj hsh Yd.liesBuilder];simp only[Result.andThen];rw[Oper.upon_value]
 go_wp2
 go_end0
 exact ⟨rfl,rfl⟩
set_option maxHeartbeats 2000000 in
set_option maxRecDepth 100000 in
theorem Yd.Builder_copyCheck_k (B b:Nat) (bs:List Value) (w:World) (h:Lib.IsBuilderF 203 5 B b bs w) :
  Calls Tryz.prog 189 #[.pointer (some ⟨b,0,none⟩)] w fun e w'=>e=.returned (.tuple #[])/\(Lib.BuilderAtF 203 5 B b (.pointer (some ⟨b,0,none⟩)) bs w'/\Below B w w'/\Lib.OthersKept 5 (some b) w w'):=by
 rcases h with h | h
 ·refine (Yd.Builder_copyCheck_fresh b w h.cell0 h.shape h.frozen0).mono ?_;rintro e w' ⟨rfl,rfl⟩;exact ⟨rfl,h.used _,(Below.refl B w).setCell (p:=⟨b,0,none⟩) h.1 _,(Lib.OthersKept.refl _ _ w).setCell ⟨b,0,none⟩ rfl _⟩
 ·refine (Yd.Builder_copyCheck_used b w h.cell0).mono ?_;rintro e w' ⟨rfl,rfl⟩;exact ⟨rfl,h,Below.refl B _,Lib.OthersKept.refl _ _ _⟩
set_option maxHeartbeats 2000000 in
set_option maxRecDepth 100000 in
theorem Yd.Builder_WriteByte_k (B b:Nat) (bs:List Value) (c:Int) (w:World) (h:Lib.IsBuilderF 203 5 B b bs w) (hlen:bs.length+1<=140737488355328) (hBw:B<=w.heap.size) :
  Calls Tryz.prog 175 #[.pointer (some ⟨b,0,none⟩),.int .u8 c] w fun e w'=>e=.returned .nilIface/\(Lib.BuilderAtF 203 5 B b (.pointer (some ⟨b,0,none⟩)) (bs++[.int .u8 c]) w'/\Below B w w'/\Lib.OthersKept 5 (some b) w w'):=by
 obtain ⟨i0,hi,hz0,hz1,hz2⟩:=info_parts Yd.infoByte;have mixed:Tryz.prog.follows .mixedOrders=true:=by kernel_rfl
 have t72:=Tryz.underlying203;have a72:=Tryz.isAgg203;have z72:=Tryz.sizeOf203;have v72:=Tryz.zeroValue203;have u72:=run_underlying Tryz.underlying203;have t70:=Tryz.underlying200;have a70:=Tryz.isAgg200;have z70:=Tryz.sizeOf200;have v70:=Tryz.zeroValue200;have u70:=run_underlying Tryz.underlying200;have t5:=Tryz.underlying5;have a5:=Tryz.isAgg5;have z5:=Tryz.sizeOf5;have v5:=Tryz.zeroValue5;have u5:=run_underlying Tryz.underlying5;have t37:=Tryz.underlying201;have a37:=Tryz.isAgg201;have z37:=Tryz.sizeOf201;have v37:=Tryz.zeroValue201;have u37:=run_underlying Tryz.underlying201;have t9:=Tryz.underlying9;have a9:=Tryz.isAgg9;have z9:=Tryz.sizeOf9;have v9:=Tryz.zeroValue9;have u9:=run_underlying Tryz.underlying9;have t4:=Tryz.underlying4;have a4:=Tryz.isAgg4;have z4:=Tryz.sizeOf4;have v4:=Tryz.zeroValue4;have u4:=run_underlying Tryz.underlying4;have t164:=Tryz.underlying230;have a164:=Tryz.isAgg230;have z164:=Tryz.sizeOf230;have v164:=Tryz.zeroValue230;have u164:=run_underlying Tryz.underlying230;have e240:∀ args w,(callFunc 189 args).run Tryz.prog w=.ok (.enter 189 args) w:=enters_of Tryz.func189 (by kernel_rfl) rfl
 go_enter Tryz.func175,Tryz.ntmps175
 go_wp2_with (go_at_call 189;refine (Yd.Builder_copyCheck_k B b bs _ h).mono ?_)
 rintro e w1 ⟨rfl,h1,hb1,hk1⟩;obtain ⟨hB,v,hbk,hown,hne⟩:=h1;have c0:w1.cell? ⟨b,0,none⟩=some (.pointer (some ⟨b,0,none⟩)):=by rw[Lib.cell_of_heap hbk];rfl
 have c1:w1.cell? ⟨b,1,none⟩=some v:=by rw[Lib.cell_of_heap hbk];rfl
 go_wp2_with (at_builtin;refine wpList_append_ownF _ rfl _ _ 201 rfl B 5 i0 (.int .u8 0) 1 1 Tryz.underlying201 hi hz0 hz1 hz2 rfl (by decide) _ _ _ rfl (hown.alloc _) ⟨w1.heap.size,0,none⟩ 1 1 [.int .u8 c] rfl rfl ?c1 ?c2 ?c3 ?c4 ?c5 ?_)
 case c1=>
  intro j u hj
  match j,hj with
  | 0,hj=>simp at hj;subst hj;simp[Addr.add]
 case c2=>intro u hu;simp at hu;subst hu;rfl
 case c3=>unfold maxLen;omega
 case c4=>omega
 case c5=>have:=hb1.size;simp;omega
 intro v' w2 hown' hgrow _
 have hlt:b < w1.heap.size:=by
  rcases qW b w1.heap.size with h' | h'
  ·exact h'
  ·simp[B2 h'] at hbk
 have hb2:w2.heap[b]?=some (.cells #[.pointer (some ⟨b,0,none⟩),v] 203 (0,0)):=by
  rw[hgrow.block b (by simp;omega) (fun e=>hne e.symm),Lib.alloc_old w1 _ b hlt];exact hbk
 have d0:w2.cell? ⟨b,0,none⟩=some (.pointer (some ⟨b,0,none⟩)):=by rw[Lib.cell_of_heap hb2];rfl
 have d1:w2.cell? ⟨b,1,none⟩=some v:=by rw[Lib.cell_of_heap hb2];rfl
 have f1:w2.frozen? ⟨b,1,none⟩=false:=Lib.frozen_of_heap hb2 1
 obtain ⟨g,cap,rfl⟩:∃ g cap,v'=.slice (some ⟨g,0,none⟩) (bs.length+1) cap:=by
  rcases hown'.2 with ⟨_,h0⟩ | ⟨g,cap,cur,fz,hv,_⟩
  ·omega
  ·exact ⟨g,cap,hv⟩
 go_wp2
 go_ret
 refine ⟨rfl,?_,?_,((hk1.alloc _).grown hgrow (Lib.ownsRowF_kind (hown.alloc _))).setCell ⟨b,1,none⟩ rfl _⟩
 ·exact Lib.BuilderAtF.put (T:=203) (e:=5) hB hb2 (bs':=bs++[.int .u8 c]) (by simpa using hown') (by decide)
 ·exact ((hb1.alloc (by have:=hb1.size;omega) _).grown hgrow (by have:=hb1.size;simp;omega) (fun k hk=>(hown.lt k hk).1)).setCell (p:=⟨b,1,none⟩) hB _
set_option maxHeartbeats 2000000 in
set_option maxRecDepth 100000 in
theorem Yd.Builder_WriteString_k (B b:Nat) (bs:List Value) (s:ByteArray) (w:World) (h:Lib.IsBuilderF 203 5 B b bs w) (hlen:bs.length+s.size<=140737488355328) (hBw:B<=w.heap.size) :
  Calls Tryz.prog 174 #[.pointer (some ⟨b,0,none⟩),.string s] w fun e w'=>e=.returned (.tuple #[.int .i64 s.size,.nilIface])/\(Lib.BuilderAtF 203 5 B b (.pointer (some ⟨b,0,none⟩)) (bs++Lib.strCells s) w'/\Below B w w'/\Lib.OthersKept 5 (some b) w w'):=by
 obtain ⟨i0,hi,hz0,hz1,hz2⟩:=info_parts Yd.infoByte;have mixed:Tryz.prog.follows .mixedOrders=true:=by kernel_rfl
 have t72:=Tryz.underlying203;have a72:=Tryz.isAgg203;have z72:=Tryz.sizeOf203;have v72:=Tryz.zeroValue203;have u72:=run_underlying Tryz.underlying203;have t70:=Tryz.underlying200;have a70:=Tryz.isAgg200;have z70:=Tryz.sizeOf200;have v70:=Tryz.zeroValue200;have u70:=run_underlying Tryz.underlying200;have t37:=Tryz.underlying201;have a37:=Tryz.isAgg201;have z37:=Tryz.sizeOf201;have v37:=Tryz.zeroValue201;have u37:=run_underlying Tryz.underlying201;have t3:=Tryz.underlying3;have a3:=Tryz.isAgg3;have z3:=Tryz.sizeOf3;have v3:=Tryz.zeroValue3;have u3:=run_underlying Tryz.underlying3;have t9:=Tryz.underlying9;have a9:=Tryz.isAgg9;have z9:=Tryz.sizeOf9;have v9:=Tryz.zeroValue9;have u9:=run_underlying Tryz.underlying9;have t4:=Tryz.underlying4;have a4:=Tryz.isAgg4;have z4:=Tryz.sizeOf4;have v4:=Tryz.zeroValue4;have u4:=run_underlying Tryz.underlying4;have t164:=Tryz.underlying230;have a164:=Tryz.isAgg230;have z164:=Tryz.sizeOf230;have v164:=Tryz.zeroValue230;have u164:=run_underlying Tryz.underlying230;have t5:=Tryz.underlying5;have a5:=Tryz.isAgg5;have z5:=Tryz.sizeOf5;have v5:=Tryz.zeroValue5;have u5:=run_underlying Tryz.underlying5;have e240:∀ args w,(callFunc 189 args).run Tryz.prog w=.ok (.enter 189 args) w:=enters_of Tryz.func189 (by kernel_rfl) rfl
 go_enter Tryz.func174,Tryz.ntmps174
 go_wp2_with (go_at_call 189;refine (Yd.Builder_copyCheck_k B b bs _ h).mono ?_)
 rintro e w1 ⟨rfl,h1,hb1,hk1⟩;obtain ⟨hB,v,hbk,hown,hne⟩:=h1;have c0:w1.cell? ⟨b,0,none⟩=some (.pointer (some ⟨b,0,none⟩)):=by rw[Lib.cell_of_heap hbk];rfl
 have c1:w1.cell? ⟨b,1,none⟩=some v:=by rw[Lib.cell_of_heap hbk];rfl
 go_wp2_with (at_builtin;refine Lib.wpList_append_own_stringF _ rfl _ _ 201 9 rfl B 5 i0 Tryz.underlying201 Tryz.underlying9 hi hz0 hz1 hz2 _ _ _ rfl hown s rfl ?c3 ?c4 ?c5 ?_)
 case c3=>unfold maxLen;omega
 case c4=>omega
 case c5=>have:=hb1.size;omega
 intro v' w2 hown' hgrow _
 have hlt:b < w1.heap.size:=by
  rcases qW b w1.heap.size with h' | h'
  ·exact h'
  ·simp[B2 h'] at hbk
 have hb2:w2.heap[b]?=some (.cells #[.pointer (some ⟨b,0,none⟩),v] 203 (0,0)):=by
  rw[hgrow.block b hlt (fun e=>hne e.symm)];exact hbk
 have d0:w2.cell? ⟨b,0,none⟩=some (.pointer (some ⟨b,0,none⟩)):=by rw[Lib.cell_of_heap hb2];rfl
 have d1:w2.cell? ⟨b,1,none⟩=some v:=by rw[Lib.cell_of_heap hb2];rfl
 have f1:w2.frozen? ⟨b,1,none⟩=false:=Lib.frozen_of_heap hb2 1
 obtain ⟨ao,n',cap,rfl⟩:∃ ao n' cap,v'=.slice ao n' cap:=by
  rcases hown'.2 with ⟨hv,_⟩ | ⟨g,cap,cur,fz,hv,_⟩
  ·exact ⟨_,_,_,hv⟩
  ·exact ⟨_,_,_,hv⟩
 go_wp2
 go_ret2
 refine ⟨rfl,?_,?_,(hk1.grown hgrow (Lib.ownsRowF_kind hown)).setCell ⟨b,1,none⟩ rfl _⟩
 ·exact Lib.BuilderAtF.put (T:=203) (e:=5) hB hb2 (bs':=bs++Lib.strCells s) (by simpa [Lib.strCells_length] using hown') (by decide)
 ·exact (hb1.grown hgrow (by have:=hb1.size;omega) (fun k hk=>(hown.lt k hk).1)).setCell (p:=⟨b,1,none⟩) hB _
end Go.Proofs
namespace Go.Proofs
open Go.RowKit
def Yd.nameB (var leaf:Int) (ks:List Int):List UInt8:=if var < 0 then 61::Lib.itoa leaf else Lib.itoa var++ks.flatMap fun k=>32::Lib.itoa k
def Yd.i64 (n:Int):Prop:=-9223372036854775808<=n/\n<=9223372036854775807
abbrev Yd.tab (w:World):Prop:=Lib.TabIs Tryz.prog w "internal/strconv.uint64pow10" .u64 Lib.pow10Tab
theorem Yd.globalPow:Tryz.prog.globalNamed "internal/strconv.uint64pow10" = some 0:=by kernel_rfl
theorem Yd.tab_lt {w:World} (h:Yd.tab w):0 < w.heap.size:=by
 unfold Yd.tab Lib.TabIs World.var? at h;rw[Yd.globalPow] at h;simp only[aa] at h
 split at h
 ·rename_i hh;exact (fF.1 hh).1
 ·cases h
theorem Yd.tab_below {B:Nat} {w w':World} (hB:0 < B) (h:Yd.tab w) (s:Below B w w'):Yd.tab w':=by
 unfold Yd.tab Lib.TabIs World.var? at h ⊢;rw[Yd.globalPow] at h ⊢;simp only[aa] at h ⊢;rw[s.block 0 hB];exact h
theorem Yd.decDigits_len (u k:Nat) (h:u < 10 ^ (k+1)):(Lib.decDigits u).length<=k+1:=by
 induction k generalizing u with
 | zero=>rw[Lib.decDigits,dif_pos (by omega)];simp
 | succ k ih=>
  rw[Lib.decDigits]
  split
  ·simp
  ·rw[aI];have:=ih (u / 10) (by rw[uE (by decide)];rw[jR] at h;exact h);simp;omega
theorem Yd.itoa_len {n:Int} (h:Yd.i64 n):(Lib.itoa n).length<=20:=by
 have:n.natAbs < 10 ^ (18+1):=by
  have:=h.1;have:=h.2;have e:(10:Nat) ^ (18+1)=10000000000000000000:=by decide
  rw[e];omega
 have h2:n.toNat < 10 ^ (18+1):=by omega
 unfold Lib.itoa
 split
 ·have:=Yd.decDigits_len _ _ this;simp;omega
 ·have:=Yd.decDigits_len _ _ h2;omega
theorem Yd.drewN_heap (w:World):∀ k,(w.drewN k).heap=w.heap/\(w.drewN k).os=w.os/\(w.drewN k).tape=w.tape/\(w.drewN k).output=w.output
 | 0=>⟨rfl,rfl,rfl,rfl⟩
 | k+1=>Yd.drewN_heap w.drew k
theorem Yd.below_grow (w:World) (k:Nat) (os:Array Obj):Below w.heap.size w (Sort.grow (w.drewN k) os):=by
 obtain ⟨h1,h2,h3,h4⟩:=Yd.drewN_heap w k
 refine ⟨h2,h3,h4,?_,fun i hi=>?_⟩
 ·simp[Sort.grow]
 ·simp only[Sort.grow,h1];rw[Array.getElem?_append_left hi]
set_option maxHeartbeats 4000000 in
set_option maxRecDepth 1000000 in
theorem Yd.name_leaf (var leaf:Int) (kv:Value) (w:World) (h0:Yd.tab w) (hv:var < 0) (hl:Yd.i64 leaf) :
  Calls Tryz.prog 141 #[.agg #[.int .i64 var,kv,.int .i64 leaf]] w fun e w'=>e=.returned (.string ⟨(61::Lib.itoa leaf).toArray⟩)/\Below w.heap.size w w':=by
 have hB:=Yd.tab_lt h0;have b0:Below w.heap.size w (w.alloc (.cells #[.int .i64 var,kv,.int .i64 leaf] 74)):=(Below.refl _ w).alloc (aQ _) _;have t0:=Yd.tab_below hB h0 b0;have hz:¬9223372036854775807 < 1+(Lib.itoa leaf).length:=by have:=Yd.itoa_len hl;omega
 go_enter Tryz.func141,Tryz.ntmps141
 go_wp2_with (go_at_call 173;refine (Tryz.strconv_Itoa leaf hl.1 hl.2 _ t0).mono ?_)
 rintro e W1 ⟨rfl,k,os,rfl⟩
 go_wp2
 all_goals (go_ret;exact ⟨by congr 2,b0.trans ((Yd.below_grow _ k os).mono b0.size)⟩)
theorem Yd.isF_grow {T e:TypeId} {B b:Nat} {bs:List Value} {w w':World} (h:Lib.IsBuilderF T e B b bs w) (hg:w.grownBy w' none):Lib.IsBuilderF T e B b bs w':=by
 have key:∀ p,Lib.BuilderAtF T e B b p bs w->Lib.BuilderAtF T e B b p bs w':=by
  rintro p ⟨hB,v,hb,hown,hne⟩;exact ⟨hB,v,by rw[hg.block b (fF.1 hb).1 (by simp)];exact hb,hown.kept hg (by cases hv:v.ownBlock<;>simp),hne⟩
 exact h.imp (key _) (key _)
theorem Yd.grownBy_grow (w:World) (k:Nat) (os:Array Obj):w.grownBy (Sort.grow (w.drewN k) os) none:=
 ⟨rfl,rfl,rfl,by simp[Sort.grow],fun i hi _=>by simp only[Sort.grow];exact Array.getElem?_append_left hi⟩
theorem Yd.itoa {n:Int} (h:Yd.i64 n) (w:World) (h0:Yd.tab w):Calls Tryz.prog 173 #[.int .i64 n] w fun e w'=>e=.returned (.string ⟨(Lib.itoa n).toArray⟩)/\(Below w.heap.size w w'/\w.grownBy w' none):=by
 refine (Tryz.strconv_Itoa n h.1 h.2 w h0).mono ?_;rintro e w' ⟨rfl,k,os,rfl⟩;exact ⟨rfl,Yd.below_grow w k os,Yd.grownBy_grow w k os⟩
def Yd.part (var:Int) (ks:List Int) (n:Nat):List UInt8:=Lib.itoa var++(ks.take n).flatMap fun k=>32::Lib.itoa k
theorem Yd.part_succ (var:Int) (ks:List Int) (n:Nat) (h:n < ks.length):Yd.part var ks (n+1)=Yd.part var ks n++[32]++Lib.itoa ks[n]:=by
 unfold Yd.part;rw[n7 h,List.flatMap_append];simp
theorem Yd.part_len {var:Int} {ks:List Int} (hv:Yd.i64 var) (hk:∀ k∈ks,Yd.i64 k):∀ n,n<=ks.length->(Yd.part var ks n).length<=20+21 * n
 | 0,_=>by have:=Yd.itoa_len hv;simpa [Yd.part] using this
 | n+1,h=>by
  have h1:=Yd.part_len hv hk n (by omega);have h2:=Yd.itoa_len (hk ks[n] (bS (by omega)));rw[Yd.part_succ var ks n (by omega)];simp only[aI,tn];omega
theorem Yd.strCells_byte (l:List UInt8):Lib.strCells ⟨l.toArray⟩=Lib.byteCells l:=by rw[Lib.strCells_eq]
set_option maxHeartbeats 4000000 in
set_option maxRecDepth 1000000 in
theorem Yd.name_node (var leaf:Int) (ks:List Int) (ad:Option Addr) (cap:Nat) (w:World) (h0:Yd.tab w) (hv:¬ var < 0) (hi:Yd.i64 var) (hk:∀ k∈ks,Yd.i64 k) (hlen:ks.length<=1048576)
  (hr:∀ j (h:j < ks.length),∃ b o,ad=some ⟨b,o,none⟩/\w.cell? ⟨b,o+j,none⟩=some (.int .i64 ks[j])) :
  Calls Tryz.prog 141 #[.agg #[.int .i64 var,.slice ad ks.length cap,.int .i64 leaf]] w fun e w'=>e=.returned (.string ⟨(Yd.part var ks ks.length).toArray⟩)/\Below w.heap.size w w':=by
 have hB:=Yd.tab_lt h0;have b0:Below w.heap.size w ((w.alloc (.cells #[.int .i64 var,.slice ad ks.length cap,.int .i64 leaf] 74)).alloc (.cells #[.pointer none,.slice none 0 0] 203)):=((Below.refl _ w).alloc (aQ _) _).alloc (by simp) _;have t0:=Yd.tab_below hB h0 b0
 have f0:Lib.IsBuilderF 203 5 (w.heap.size+1) (w.heap.size+1) [] ((w.alloc (.cells #[.int .i64 var,.slice ad ks.length cap,.int .i64 leaf] 74)).alloc (.cells #[.pointer none,.slice none 0 0] 203)):=by
  have:=Lib.IsBuilderF.of (Lib.fresh_isBuilder 203 5 (w.alloc (.cells #[.int .i64 var,.slice ad ks.length cap,.int .i64 leaf] 74)));simpa using this
 generalize hW:(w.alloc (.cells #[.int .i64 var,.slice ad ks.length cap,.int .i64 leaf] 74)).alloc (.cells #[.pointer none,.slice none 0 0] 203)=W at b0 t0 f0;have hWs:W.heap.size=w.heap.size+2:=by rw[<- hW];simp
 have hbx:W.heap[w.heap.size]?=some (.cells #[.int .i64 var,.slice ad ks.length cap,.int .i64 leaf] 74 (0,0)):=by
  rw[<- hW,Lib.alloc_old _ _ _ (by simp)];exact Go.heap_alloc_new w _
 have c0:W.cell? ⟨w.heap.size,0,none⟩=some (.int .i64 var):=by rw[Lib.cell_of_heap hbx];rfl
 have c1:W.cell? ⟨w.heap.size,1,none⟩=some (.slice ad ks.length cap):=by rw[Lib.cell_of_heap hbx];rfl
 go_enter Tryz.func141,Tryz.ntmps141
 go_wp2_with (go_at_call 173;refine (Yd.itoa hi _ t0).mono ?_)
 intro e W1 he b1 g1;cases he;have f1:=Yd.isF_grow f0 g1;have b1:Below (w.heap.size+1) W W1:=b1.mono (by omega);have hW1:w.heap.size+1<=W1.heap.size:=by have:=b1.size;omega
 go_wp2_with (go_at_call 174;refine (Yd.Builder_WriteString_k (w.heap.size+1) (w.heap.size+1) [] ⟨(Lib.itoa var).toArray⟩ _ f1 (by have:=Yd.itoa_len hi;simp[ByteArray.size];omega) hW1).mono ?_)
 rintro e W2 ⟨rfl,f2,b2,k2⟩
 have f2':Lib.IsBuilderF 203 5 (w.heap.size+1) (w.heap.size+1) (Lib.byteCells (Yd.part var ks 0)) W2:=by
  refine Or.inr ?_;rw[Yd.strCells_byte] at f2;simpa [Yd.part] using f2
 have bW2:=b1.trans b2;have c1':=(bW2.cell (p:=⟨w.heap.size,1,none⟩) (by simp)).trans c1
 have kc:∀ j (h:j < ks.length),∃ b o,ad=some ⟨b,o,none⟩/\b < w.heap.size/\w.cell? ⟨b,o+j,none⟩=some (.int .i64 ks[j]):=fun j h=>by
  obtain ⟨b,o,h1,h2⟩:=hr j h;exact ⟨b,o,h1,World.block_lt_of_cell? w ⟨b,o+j,none⟩ h2,h2⟩
 have tW2:=Yd.tab_below (B:=w.heap.size+1) (by omega) t0 bW2;have sW2:=bW2.size;clear f2 f1 g1 b2 b1 f0 t0 h0 c0 c1 hbx hW hr hW1 k2
 go_wp2
 go_loopw [20] (fun i wr=>∃ n,n<=ks.length/\i=.int .i64 n/\Lib.IsBuilderF 203 5 (w.heap.size+1) (w.heap.size+1) (Lib.byteCells (Yd.part var ks n)) wr/\Below (w.heap.size+1) W2 wr)
  (fun i _=>ks.length - (intOf i).toNat)
 case atStart=>exact ⟨0,kW _,rfl,f2',Below.refl _ _⟩
 case round=>
  obtain ⟨n,hn,rfl,hf,hbw⟩:=hrel;have swr:=hbw.size;have hpl:=Yd.part_len hi hk n hn
  by_cases hlt:n < ks.length
  ·obtain ⟨b,o,had,hb,hc⟩:=kc n hlt;subst had;have hcw:wr.cell? ⟨b,o+n,none⟩=some (.int .i64 ks[n]):=((hbw.cell (p:=⟨b,o+n,none⟩) (by show b < _;omega)).trans (bW2.cell (p:=⟨b,o+n,none⟩) (by show b < _;omega))).trans ((b0.cell (p:=⟨b,o+n,none⟩) hb).trans hc);have hik:=hk ks[n] (bS hlt);have twr:=Yd.tab_below (B:=w.heap.size+1) (by omega) tW2 hbw;generalize hx:ks[n]=x at hcw hik;clear kc bW2 b0 hc
   go_wp2_with (go_at_call 175;refine (Yd.Builder_WriteByte_k (w.heap.size+1) (w.heap.size+1) _ 32 _ hf (by rw[Lib.byteCells_length];omega) (by omega)).mono ?_)
   rintro e W3 ⟨rfl,f3,b3,k3⟩;have t3:=Yd.tab_below (B:=w.heap.size+1) (by omega) twr b3;have s3:=b3.size
   go_wp2_with (go_at_call 173;refine (Yd.itoa hik _ t3).mono ?_)
   rintro e W4 ⟨rfl,b4,g4⟩;have f4:=Yd.isF_grow (Or.inr f3) g4;have s4:=b4.size
   go_wp2_with (go_at_call 174;refine (Yd.Builder_WriteString_k (w.heap.size+1) (w.heap.size+1) _ ⟨(Lib.itoa x).toArray⟩ _ f4 (by have:=Yd.itoa_len hik;simp only[aI,Lib.byteCells_length,ByteArray.size,List.size_toArray,tn];omega) (by omega)).mono ?_)
   rintro e W5 ⟨rfl,f5,b5,k5⟩;clear f3 f4 g4 k3 k5
   go_wp2
   go_roundw
   case rel=>
    refine ⟨n+1,by omega,by simp,?_,((hbw.trans b3).trans (b4.mono (by omega))).trans b5⟩;rw[Yd.part_succ var ks n hlt,hx];rw[Yd.strCells_byte] at f5;refine Or.inr ?_;simpa [Lib.byteCells] using f5
   case measure=>simp[intOf];omega
  ·obtain rfl:n=ks.length:=by omega
   go_wp2_with (go_at_call 176;refine (Tryz.Builder_String_any_k (w.heap.size+1) (w.heap.size+1) _ _ hf (by omega)).mono ?_)
   rintro e W3 ⟨rfl,f3,b3,k3⟩
   go_wp2
   go_ret
   exact ⟨rfl,b0.trans (((bW2.trans hbw).trans b3).mono (by omega))⟩
end Go.Proofs
namespace Go.Ab
open Go.Proofs Go.RowKit
noncomputable instance:WInv:=⟨fun w=>Yd.tab w⟩
def yR:List AV->Option (List Int)
 | []=>some []
 | .int .i64 n::l=>if -9223372036854775808<=n/\n<=9223372036854775807 then (yR l).map fun ns=>n::ns else none
 | _=>none
def yZ:List AV->Option AV
 | [.agg [.int .i64 v,.lst none _ _ ks,.int .i64 l]]=>(yR ks).bind fun ns=>
  if (-9223372036854775808<=v/\v<=9223372036854775807)/\(-9223372036854775808<=l/\l<=9223372036854775807)/\ns.length<=1048576 then some (.str ⟨(Yd.nameB v l ns).toArray⟩) else none
 | _=>none
theorem Wa:∀ {ks:List AV} {ns:List Int},yR ks=some ns->ks=ns.map (AV.int .i64)/\∀ n∈ns,Yd.i64 n
 | [],ns,h=>by simp[yR] at h;subst h;simp
 | x::l,ns,h=>by
  unfold yR at h
  split at h
  ·rename_i he;cases he
  ·rename_i n l' he;cases he
   split at h
   ·rename_i hn;obtain ⟨ms,hm,rfl⟩:=gP.1 h;obtain ⟨h1,h2⟩:=Wa hm
    exact ⟨by rw[h1];rfl,fun n hn'=>by
     rcases gE.1 hn' with rfl | h'
     ·exact hn
     ·exact h2 _ h'⟩
   ·cases h
  ·cases h
theorem qmK {ns:List Int} (h:∀ n∈ns,Yd.i64 n):yR (ns.map (AV.int .i64))=some ns:=by
 induction ns with
 | nil=>rfl
 | cons n ns ih=>
  simp only[gd,yR];rw[an (show _/\_ from h n fN),ih fun k hk=>h k (fJ _ hk)]
  rfl
theorem qkP (ns:List Int):cW (ns.map (AV.int .i64))=ns.map (AV.int .i64):=by
 induction ns with
 | nil=>rfl
 | cons n l ih=>simp only[gd,cW,pT,AV.cells] at ih ⊢;rw[ih];rfl
theorem Y7 {B:Nat} {w w':World} {g:G} (hB:B<=w.heap.size) (h:Below w.heap.size w w'):Step B w g w' g where
 below:=h.mono hB
 cell b off u _ hc:=(h.cell (p:=⟨b,off,none⟩) (tC hc)).trans hc
 shape b c e fr hb:=⟨c,(h.block b (fF.1 hb).1).trans hb,rfl⟩
 wr b off _ hn:=hn
 wrB b off _:=Iff.rfl
 box b _:=Iff.rfl
 loc nm b h:=h
 tloc nm n b h:=h
theorem qnl {B:Nat} {w w':World} {g:G} {m:af} (hB:B<=w.heap.size) (h:Below w.heap.size w w') (hm:MemR B w g m):MemR B w' g m:=
 hm.keep (Y7 hB h) (fun b _ hb=>h.block b hb) (fun _ _ h=>h) rfl rfl (fun b off hw=>qV (hm.wrLt b off hw) h.size) (fun b hw=>qV (hm.boxLt b hw) h.size)
theorem qnu (vs:List AV) (v:AV) (h:yZ vs=some v) (m:af):th Tryz.prog 141 vs m v m:=by
 unfold yZ at h
 split at h
 ·rename_i var z o ks leaf;simp only[bc] at h;obtain ⟨ns,hns,h⟩:=h
  split at h
  ·rename_i hc;obtain ⟨hv,hl,hlen⟩:=hc;obtain rfl:=pU h;obtain ⟨rfl,hin⟩:=Wa hns;intro B w g us hm hB hus hV;have h0:=hV 0 (by simp);simp only[pq] at h0;have hsz:us.size=1:=by simpa using hus.symm
   obtain ⟨u,rfl⟩:∃ u,us = #[u]:=⟨us.getD 0 undef,by
    apply Array.ext (by simpa using hsz);intro i hi1 hi2;obtain rfl:i=0:=by simp at hi2;omega
    simp[Array.getD,hi1]⟩
   have h0:V w g (.agg [.int .i64 var,.lst none z o (ns.map (AV.int .i64)),.int .i64 leaf]) u:=h0;cases h0;rename_i ws hl3 hVs;have htab:Yd.tab w:=hm.inv w (Below.refl _ _);have a0:=hVs 0 (by simp);have a1:=hVs 1 (by simp);have a2:=hVs 2 (by simp);simp only[pq,xH] at a0 a1 a2
   have hws:ws = #[ws.getD 0 undef,ws.getD 1 undef,ws.getD 2 undef]:=by
    have h3:ws.size=3:=by simpa using hl3.symm
    apply Array.ext (by simpa using h3);intro i hi1 hi2
    match i,hi2 with
    | 0,_=>simp[Array.getD,h3]
    | 1,_=>simp[Array.getD,h3]
    | 2,_=>simp[Array.getD,h3]
   generalize ws.getD 0 undef=q0 at a0 hws;generalize ws.getD 1 undef=q1 at a1 hws;generalize ws.getD 2 undef=q2 at a2 hws;subst hws;cases a0;cases a2
   have fin:∀ {e:Ending} {w':World},e=.returned (.string ⟨(Yd.nameB var leaf ns).toArray⟩)/\Below w.heap.size w w'->∃ v' g',e=.returned v'/\Step B w g w' g'/\MemR B w' g' m/\V w' g' (.str ⟨(Yd.nameB var leaf ns).toArray⟩) v':=by
    rintro e w' ⟨rfl,hb⟩;exact ⟨_,g,rfl,Y7 hB hb,qnl hB hb hm,.str _⟩
   by_cases hneg:var < 0
   ·refine (Yd.name_leaf var leaf q1 w htab hneg hl).mono fun e w' hr=>fin ?_;rw[Yd.nameB,an hneg];exact hr
   ·have e1:Yd.nameB var leaf ns=Yd.part var ns ns.length:=by rw[Yd.nameB,ai hneg,Yd.part,List.take_length]
    rw[e1] at fin ⊢;generalize hes:ns.map (AV.int .i64)=es at a1
    cases a1 with
    | nils _ _ _=>
     obtain rfl:ns=[]:=Ag.1 hes;exact (Yd.name_node var leaf [] none 0 w htab hneg hv hin (by simp) (fun j h=>by simp at h)).mono fun e w' hr=>fin hr
    | lst _ _ _ a cap us hs hcl hmx hsh hcell hvv ho=>
     subst hes;rw[bX] at *;have hfl:=qkP ns;refine (Yd.name_node var leaf ns (some a) cap w htab hneg hv hin hlen (fun j hj=>?_)).mono fun e w' hr=>fin hr;rw[hfl] at hcell hvv;have c1:=(hcell j (by simpa using hj)).1;have c2:=hvv j (by simpa using hj);have hg:(ns.map (AV.int .i64)).getD j .any=.int .i64 ns[j]:=by simp[aS,hj]
     rw[hg] at c2;generalize us j=q at c1 c2;cases c2;have hsp:a.spot=none:=hs.resolve_left (by omega);obtain ⟨bl,off,sp⟩:=a;simp only at hsp c1;subst hsp;exact ⟨bl,off,rfl,c1⟩
  ·cases h
 ·cases h
end Go.Ab
namespace Go.Ab
open Go.Proofs
structure ND where
 var:Int
 kids:List Int
 leaf:Int
 deriving DecidableEq
def ND.key (n:ND):List UInt8:=Yd.nameB n.var n.leaf n.kids
def ND.ok (n:ND):Prop:=(n.var=-1/\n.kids=[]/\0<=n.leaf/\n.leaf<=2147483647)\/(0<=n.var/\n.var < 1000/\n.leaf=0/\(∀ k∈n.kids,0<=k/\k < 1000000)/\n.kids.length<=64)
theorem qkw (u:Nat):Lib.decDigits u≠[]:=by
 rw[Lib.decDigits];split<;>simp
theorem L7 (u:Nat):∀ b∈Lib.decDigits u,48<=b.toNat/\b.toNat<=57:=by
 induction u using Nat.strongRecOn with
 | ind u ih=>
  rw[Lib.decDigits]
  have h8:∀ v,v < 10->48<=(UInt8.ofNat (48+v)).toNat/\(UInt8.ofNat (48+v)).toNat<=57:=fun v hv=>by
   have:(UInt8.ofNat (48+v)).toNat=48+v:=by simp;omega
   omega
  split
  ·rename_i h;intro b hb;simp only[List.mem_singleton] at hb;rw[hb];exact h8 u h
  ·intro b hb
   rcases il.1 hb with hb | hb
   ·exact ih (u / 10) (by omega) b hb
   ·simp only[List.mem_singleton] at hb;rw[hb];exact h8 (u % 10) (by omega)
def Jx (l:List UInt8):Nat:=l.foldl (fun a b=>a * 10+(b.toNat - 48)) 0
theorem T4 (u:Nat):Jx (Lib.decDigits u)=u:=by
 induction u using Nat.strongRecOn with
 | ind u ih=>
  rw[Lib.decDigits];have h8:∀ v,v < 10->(UInt8.ofNat (48+v)).toNat=48+v:=fun v hv=>by simp;omega
  split
  ·rename_i h;simp only[Jx,ux,List.foldl_nil,h8 u h];omega
  ·rename_i h;have:=ih (u / 10) (by omega);unfold Jx at this ⊢;rw[List.foldl_append,this];simp only[ux,List.foldl_nil,h8 (u % 10) (by omega)];omega
def Dc (x:List UInt8):Prop:=x=[]\/∃ y,x=32::y
theorem YZ:∀ {a b x y:List UInt8},(∀ c∈a,48<=c.toNat/\c.toNat<=57)->(∀ c∈b,48<=c.toNat/\c.toNat<=57)->Dc x->Dc y->a++x=b++y->a=b/\x=y
 | [],[],x,y,_,_,_,_,h=>⟨rfl,by simpa using h⟩
 | [],c::b,x,y,_,hb,hx,_,h=>by
  exfalso;have hc:=hb c fN
  rcases hx with rfl | ⟨z,rfl⟩
  ·simp at h
  ·simp only[bV,cn,po] at h;rw[<- h.1] at hc;simp at hc
 | c::a,[],x,y,ha,_,_,hy,h=>by
  exfalso;have hc:=ha c fN
  rcases hy with rfl | ⟨z,rfl⟩
  ·simp at h
  ·simp only[bV,cn,po] at h;rw[h.1] at hc;simp at hc
 | c::a,d::b,x,y,ha,hb,hx,hy,h=>by
  simp only[cn,po] at h;obtain ⟨e1,e2⟩:=YZ (fun c hc=>ha c (fJ _ hc)) (fun c hc=>hb c (fJ _ hc)) hx hy h.2;exact ⟨by rw[h.1,e1],e2⟩
theorem NX {n:Int} (h:0<=n):Lib.itoa n=Lib.decDigits n.toNat:=by unfold Lib.itoa;rw[ai (by omega)]
theorem NY {a b:Int} (ha:0<=a) (hb:0<=b) {x y:List UInt8} (hx:Dc x) (hy:Dc y) (h:Lib.itoa a++x=Lib.itoa b++y):a=b/\x=y:=by
 rw[NX ha,NX hb] at h;obtain ⟨e1,e2⟩:=YZ (L7 _) (L7 _) hx hy h;have:=cV Jx e1;rw[T4,T4] at this;exact ⟨by omega,e2⟩
theorem Ho (ks:List Int):Dc (ks.flatMap fun k=>32::Lib.itoa k):=by
 cases ks with
 | nil=>exact .inl rfl
 | cons k ks=>exact .inr ⟨_,by rw[pT];rfl⟩
theorem Wn:∀ {a b:List Int},(∀ k∈a,0<=k)->(∀ k∈b,0<=k)->(a.flatMap fun k=>32::Lib.itoa k)=(b.flatMap fun k=>32::Lib.itoa k)->a=b
 | [],[],_,_,_=>rfl
 | [],k::b,_,_,h=>by simp[pT] at h
 | k::a,[],_,_,h=>by simp[pT] at h
 | k::a,l::b,ha,hb,h=>by
  simp only[pT,cn,po,true_and] at h;obtain ⟨e1,e2⟩:=NY (ha k fN) (hb l fN) (Ho a) (Ho b) h;rw[e1,Wn (fun k hk=>ha k (fJ _ hk)) (fun k hk=>hb k (fJ _ hk)) e2]
theorem qmP {a b:ND} (ha:a.ok) (hb:b.ok) (h:a.key=b.key):a=b:=by
 obtain ⟨v,ks,l⟩:=a;obtain ⟨v',ks',l'⟩:=b;unfold ND.key Yd.nameB at h;simp only at h
 have lead:∀ {n:Int} {x:List UInt8} {y:List UInt8},0<=n->61::x=Lib.itoa n++y->False:=fun {n x y} hn he=>by
  rw[NX hn] at he
  cases hd:Lib.decDigits n.toNat with
  | nil=>exact qkw _ hd
  | cons c d=>
   have:=L7 n.toNat c (by rw[hd];exact fN);rw[hd] at he;simp only[cn,po] at he;rw[<- he.1] at this;simp at this
 rcases ha with ⟨h1,h2,h3,h4⟩ | ⟨h1,h2,h3,h4,h5⟩<;>rcases hb with ⟨k1,k2,k3,k4⟩ | ⟨k1,k2,k3,k4,k5⟩<;>simp only at h1 h2 h3 h4 k1 k2 k3 k4
 ·subst h1;subst k1;subst h2;subst k2;rw[an (by decide),an (by decide)] at h;simp only[po,true_and] at h;have:=(NY h3 k3 (x:=[]) (y:=[]) (.inl rfl) (.inl rfl) (by simpa using h)).1;rw[this]
 ·subst h1;rw[an (by decide),ai (by omega)] at h;exact (lead k1 h).elim
 ·subst k1;rw[ai (by omega),an (by decide)] at h;exact (lead h1 h.symm).elim
 ·rw[ai (by omega),ai (by omega)] at h;obtain ⟨e1,e2⟩:=NY h1 k1 (Ho _) (Ho _) h;rw[e1,h3,k3,Wn (fun k hk=>(h4 k hk).1) (fun k hk=>(k4 k hk).1) e2]
theorem Xo {n:ND} (h:n.ok) (z:Bool) (o:Own):yZ [.agg [.int .i64 n.var,.lst none z o (n.kids.map (AV.int .i64)),.int .i64 n.leaf]]=some (.str ⟨n.key.toArray⟩):=by
 have hk:∀ k∈n.kids,Yd.i64 k:=fun k hk=>by
  rcases h with ⟨_,h2,_⟩ | ⟨_,_,_,h4,_⟩
  ·rw[h2] at hk;cases hk
  ·have:=h4 k hk;constructor<;>omega
 have hb:((-9223372036854775808<=n.var/\n.var<=9223372036854775807)/\(-9223372036854775808<=n.leaf/\n.leaf<=9223372036854775807)/\n.kids.length<=1048576):=by
  rcases h with ⟨h1,h2,h3,h4⟩ | ⟨h1,h2,h3,h4,h5⟩
  ·rw[h2];refine ⟨by omega,by omega,by simp⟩
  ·omega
 unfold yZ;simp only[];rw[qmK hk,aa,an hb]
 rfl
end Go.Ab
