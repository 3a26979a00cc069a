/- Maps: made, looked up, written to. -/
import Derived.Test.YtiipgpkgcdhbfaaGreatDoorEP0
import Derived.Maps.OwnSet
import Derived.DeepKeys4
import Derived.Orders
import Derived.Fence
import Derived.Sort.Grow
import Derived.Sort.Row
import Derived.Lib.SlicesCompact
import Derived.Shelf.Strings.Builder1
import Derived.Shelf.Small.Bits
import Derived.Shelf.Strings.BuilderF
import Derived.Shelf.Strings.BuilderK
import Derived.Shelf.Strconv.Itoa0
import Derived.Shelf.Strconv.Itoa1
import Derived.Shelf.LaysM
import Derived.Shelf.Strconv.Itoa2
import Derived.Shelf.Strconv.Itoa3
import Derived.Shelf.Sort.Plain
import Derived.Ground.Names2Prog
import Derived.Shelf.Slices.Clone
import Derived.Shelf.Slices.CompactI
import Derived.Shelf.Slices.SearchI
import Derived.Shelf.Slices.Cells
import Derived.Shelf.Slices.In.SortNone
import Derived.Ground.SlgnProg
import Derived.Shelf.SlicesE.Clone
import Derived.Test.YtiipgpkgcdhbfaaGreatDoorProg
import Derived.WalkKit
import Derived.BigCall
set_option maxRecDepth 100000
set_option linter.unusedVariables false
set_option linter.unusedSimpArgs false
set_option linter.unusedSectionVars false
namespace Go.Ab
open Go.RowKit Go.Maps Go.ChangeMaps
section
variable [WInv] {P:Program} {B:Nat} {w:World} {g:G} {m:af}
open Go.WideElems (Fit rd rg pl rd_key rd_val rg_of rd_mk)
theorem V.atomV {x:AV} {v u:Value} (h:V w g x v) (hf:atomV x=some u):v=u:=by
 cases h<;>simp[Go.Ab.atomV] at hf<;>exact hf
theorem Ly:∀ (cs:List AV) (us:List Value),se cs=some us->us.length=cs.length/\∀ j,j < cs.length->Go.Ab.atomV (cs.getD j .any)=some (us.getD j undef)
 | [],us,h=>by simp[se] at h;subst h;exact ⟨rfl,fun j hj=>by simp at hj⟩
 | x::xs,us,h=>by
  simp only[se,bc,gG] at h;obtain ⟨v,hv,vs,ku,rfl⟩:=h;obtain ⟨h1,h2⟩:=Ly xs vs ku;refine ⟨by simp[h1],fun j hj=>?_⟩
  cases j with
  | zero=>simpa using hv
  | succ j=>simpa using h2 j (by simpa using hj)
theorem V.flatV {x:AV} {v u:Value} (h:V w g x v) (hf:Go.Ab.flatV x=some u):v=u:=by
 by_cases hx:∃ cs,x=.agg cs
 ·obtain ⟨cs,rfl⟩:=hx
  cases h with
  | agg cs vs hl hv=>
   simp only[Go.Ab.flatV,gG] at hf;obtain ⟨us,hus,rfl⟩:=hf;obtain ⟨h1,h2⟩:=Ly cs us hus;congr 1;apply Array.ext (by simp[h1,hl]);intro j tL oR;have:=(hv j (by omega)).atomV (h2 j (by omega));simpa [Array.getD,tL,aT,show j < us.length by omega] using this
 ·refine h.atomV ?_
  cases x<;>first | (exact absurd ⟨_,rfl⟩ hx) | exact hf
theorem V6 {k:Nat} {kk:KK} (h:wU P k=some kk):(P.underlying k=some .string/\kk=.str)\/(∃ q,P.underlying k=some (.int q)/\kk=.int q) \/
  ∃ n e q,P.underlying k=some (.array n e)/\P.underlying e=some (.int q)/\kk=.arr n q/\P.tiled 2 k=true/\P.keyTypeAt 2 k=true/\P.keyType k=true/\P.cellsOf e=1/\0 < P.types.size:=by
 unfold wU at h
 split at h
 ·rename_i hu;simp at h;exact .inl ⟨hu,h.symm⟩
 ·rename_i q hu;simp at h;exact .inr (.inl ⟨q,hu,h.symm⟩)
 ·rename_i n e hu
  split at h
  ·rename_i q hq
   split at h
   ·rename_i hc;simp only[bT,tu,nt] at hc;obtain ⟨⟨⟨⟨c1,c2⟩,c3⟩,c4⟩,c5⟩:=hc;simp only[bG] at h;exact .inr (.inr ⟨n,e,q,hu,hq,h.symm,c1,c2,c3,c4,c5⟩)
   ·cases h
  ·cases h
 ·cases h
theorem VZ {k:Nat} {kk:KK} (h:wU P k=some kk):Keyed P k:=by
 rcases V6 h with ⟨hu,_⟩ | ⟨q,hu,_⟩ | ⟨n,e,q,hu,_,_,h1,h2,_⟩
 ·exact string_keyed hu
 ·exact int_keyed hu
 ·exact Keyed.of_law (deep_law (m:=2) (by omega) h2 h1 (by rw[hu]))
theorem WL {α β:Type} {f:α->Option β}:∀ {l:List α},(∀ x∈l,∃ y,f x=some y)->∃ ys,l.mapM f=some ys
 | [],_=>⟨[],by simp⟩
 | x::l,h=>by
  obtain ⟨y,hy⟩:=h x fJ;obtain ⟨ys,p6⟩:=WL (f:=f) (l:=l) fun z hz=>h z (fI _ hz);exact ⟨y::ys,by simp[List.mapM_cons,hy,p6]⟩
theorem D8 {k:Nat} {kk:KK} {v:Value} (h:wU P k=some kk) (hv:Kg kk v):∃ l,Go.keyOf P k v=some l:=by
 rcases V6 h with ⟨hu,rfl⟩ | ⟨q,hu,rfl⟩ | ⟨n,e,q,hu,he,rfl,h1,h2,h3,h4,h5⟩
 ·obtain ⟨s,rfl,hs⟩:=hv;exact ⟨.string s.data.toList,by simp[Go.keyOf,mapKey,hu,hs]⟩
 ·obtain ⟨n,rfl,hn⟩:=hv;have:(Lit.int q n).wf=true:=hn;exact ⟨.int q n,by simp[Go.keyOf,mapKey,hu,this]⟩
 ·obtain ⟨us,rfl,hsz,hus⟩:=hv
  have wD:P.cellsOf k=n:=by
   have:=h1;unfold Program.tiled at this;rw[hu] at this;simp only[bT,tu] at this;rw[this.1,h4,mq]
  obtain ⟨d,hd⟩:∃ d,P.types.size=d+1:=⟨P.types.size - 1,by omega⟩
  have hm:∃ ys,(List.range n).mapM (fun i=>P.keyLits (d+1) e ((us.toList.drop (i * P.cellsOf e)).take (P.cellsOf e)))=some ys:=by
   refine WL fun i hi=>?_;have hi:=uz.1 hi;have cq:i < us.toList.length:=by simpa [hsz] using hi
   rw[h4,mq,kP cq,List.take_succ_cons,List.take_zero];obtain ⟨z,hz,hw⟩:=hus us.toList[i] (by simp);have hw:(Lit.int q z).wf=true:=hw;rw[hz];exact ⟨[.int q z],by simp[Program.keyLits,he,hw]⟩
  obtain ⟨ys,p6⟩:=hm;refine ⟨.string (keyBytes ys.flatten),?_⟩;have hf:Value.formed P k (.agg us)=true:=by simp[Value.formed,hu,wD,hsz]
  have hl:us.toList.length=P.cellsOf k:=by simp[hsz,wD]
  unfold Go.keyOf;rw[hu];simp only[h3,hf,pg,bq,Value.cells]
  have ek:P.keyLits (d+1+1) k us.toList=if us.toList.length=P.cellsOf k then ((List.range n).mapM fun i=>P.keyLits (d+1) e ((us.toList.drop (i * P.cellsOf e)).take (P.cellsOf e))).map List.flatten else none:=by
   simp only[Program.keyLits,hu]
  rw[hd,ek,an hl,p6]
  rfl
theorem NN {kk:KK} {x:AV} {v:Value} (ho:jQ kk x=true) (hf:Go.Ab.flatV x=some v):Kg kk v:=by
 cases kk with
 | str=>
  cases x<;>simp[jQ] at ho;simp[Go.Ab.flatV,Go.Ab.atomV] at hf;exact ⟨_,hf.symm,ho⟩
 | int q=>
  cases x<;>simp[jQ,nF] at ho;obtain ⟨rfl,ho⟩:=ho;simp[Go.Ab.flatV,Go.Ab.atomV] at hf;exact ⟨_,hf.symm,ho⟩
 | arr n q=>
  cases x<;>simp only[jQ,jM] at ho;rename_i cs;simp only[bT,tu,fQ] at ho;simp only[Go.Ab.flatV,gG] at hf;obtain ⟨us,hus,rfl⟩:=hf;obtain ⟨h1,h2⟩:=Ly cs us hus;refine ⟨_,rfl,by simp[h1,ho.1],fun u hu=>?_⟩;obtain ⟨j,hj,rfl⟩:=pM (by simpa using hu:u∈us);have h3:=h2 j (by omega);have h4:=ho.2 (cs.getD j .any) (by rw[aT,bA (by omega)];exact bM _)
  cases hc:cs.getD j .any with
  | int k' i=>
   rw[hc] at h3 h4;simp only[nF,bT,nt] at h4;obtain ⟨rfl,h4⟩:=h4;simp[Go.Ab.atomV] at h3;exact ⟨i,by simpa [hj] using h3.symm,h4⟩
  | _=>rw[hc] at h4;simp[nF] at h4
theorem VV {kk:KK} {x:AV} (ho:jQ kk x=true):∃ v,Go.Ab.flatV x=some v:=by
 cases kk with
 | str=>cases x<;>simp[jQ] at ho;exact ⟨_,rfl⟩
 | int q=>cases x<;>simp[jQ,nF] at ho;exact ⟨_,rfl⟩
 | arr n q=>
  cases x<;>simp only[jQ,jM] at ho;rename_i cs;simp only[bT,fQ] at ho
  have:∀ cs:List AV,(∀ x∈cs,nF q x=true)->∃ us,se cs=some us:=by
   intro cs
   induction cs with
   | nil=>intro _;exact ⟨[],rfl⟩
   | cons c cs ih=>
    intro h;obtain ⟨us,hus⟩:=ih fun x hx=>h x (fI _ hx);have:=h c fJ;cases c<;>simp[nF] at this;rename_i k' n';exact ⟨.int k' n'::us,by simp[se,Go.Ab.atomV,hus]⟩
  obtain ⟨us,hus⟩:=this cs ho.2;exact ⟨.agg us.toArray,by simp[Go.Ab.flatV,hus]⟩
theorem qjf {q:IntKind} {x y:AV} {u v:Value} (hx:nF q x=true) (hy:nF q y=true) (hu:Go.Ab.atomV x=some u) (hv:Go.Ab.atomV y=some v):uK x y=true↔u=v:=by
 cases x<;>simp[nF] at hx;cases y<;>simp[nF] at hy;simp[Go.Ab.atomV] at hu hv;subst hu;subst hv;simp[uK]
theorem yV {kk:KK} {x y:AV} {u v:Value} (hx:jQ kk x=true) (hy:jQ kk y=true) (hu:Go.Ab.flatV x=some u) (hv:Go.Ab.flatV y=some v):jc x y=true↔u=v:=by
 cases kk with
 | str=>
  cases x<;>simp[jQ] at hx;cases y<;>simp[jQ] at hy;simp[Go.Ab.flatV,Go.Ab.atomV] at hu hv;subst hu;subst hv;simp[jc,uK]
 | int q=>
  cases x<;>simp[jQ,nF] at hx;cases y<;>simp[jQ,nF] at hy;simp[Go.Ab.flatV,Go.Ab.atomV] at hu hv;subst hu;subst hv;simp[jc,uK]
 | arr n q=>
  cases x<;>simp only[jQ,jM] at hx;cases y<;>simp only[jQ,jM] at hy;rename_i cs ds;simp only[bT,tu,fQ] at hx hy;simp only[Go.Ab.flatV,gG] at hu hv;obtain ⟨us,hus,rfl⟩:=hu;obtain ⟨vs,ku,rfl⟩:=hv
  have key:∀ (cs ds:List AV) (us vs:List Value),cs.length=ds.length->(∀ x∈cs,nF q x=true)->(∀ x∈ds,nF q x=true)->se cs=some us->se ds=some vs->(Am cs ds=true↔us=vs):=by
   intro cs
   induction cs with
   | nil=>
    intro ds us vs hl _ _ h1 h2
    cases ds with
    | nil=>simp[se] at h1 h2;subst h1;subst h2;simp[Am]
    | cons=>simp at hl
   | cons c cs ih=>
    intro ds us vs hl h3 h4 h1 h2
    cases ds with
    | nil=>simp at hl
    | cons d ds=>
     simp only[se,bc,gG] at h1 h2;obtain ⟨a,ha,qas,has,rfl⟩:=h1;obtain ⟨b,hb,bs,om,rfl⟩:=h2;simp only[Am,bT,pj];rw[qjf (h3 c fJ) (h4 d fJ) ha hb,ih ds qas bs (by simpa using hl) (fun x hx=>h3 x (fI _ hx)) (fun x hx=>h4 x (fI _ hx)) has om]
  show Am cs ds=true↔_;rw[key cs ds us vs (by omega) hx.2 hy.2 hus ku]
  constructor
  ·rintro rfl;rfl
  ·intro h
   have:=dc (fun v=>match v with | Value.agg a=>a.toList | _=>[]) h
   simpa using this
def RU:Value->Option (DataW Unit×List MemPlace):=fun _=>some (.lit (.bool true),[])
theorem MapR.fit {k:Nat} {kk:KK} {es':Array MapEntry} {clock:Nat} {es:List (AV×AV)} (M:MapR w g kk es' clock es) (h:wU P k=some kk):Fit P k RU es' clock where
 size:=fA M.size M.room
 stamped:=M.stamped
 reads x hx:=by
  obtain ⟨l,hl⟩:=D8 h (M.keys x hx);exact ⟨(l,.lit (.bool true)),by simp[Go.WideElems.rd,hl,RU]⟩
theorem MapR.uniq {kk:KK} {es':Array MapEntry} {clock:Nat} {es:List (AV×AV)} (M:MapR w g kk es' clock es) {x y:MapEntry} (hx:x∈es'.toList) (hy:y∈es'.toList) (h:x.key=y.key):x=y:=by
 have hnd:=M.stamped.2.2;obtain ⟨i,hi,rfl⟩:=pM hx;obtain ⟨j,hj,rfl⟩:=pM hy
 have rv:(es'.toList.map (·.key))[i]'(by simpa using hi)=(es'.toList.map (·.key))[j]'(by simpa using hj):=by
  rw[ti,ti,h]
 have:=(List.getElem_inj hnd).1 rv;subst this;rfl
theorem WN {t e:Nat} {kk:KK} (h:vu P t=some (kk,e)):∃ k,P.underlying t=some (.map k e)/\wU P k=some kk:=by
 unfold vu at h
 split at h
 ·rename_i k e' hu;simp only[gG,fe] at h;obtain ⟨kk',hk,rfl,rfl⟩:=h;exact ⟨k,hu,hk⟩
 ·cases h
theorem WW (hm:MemR B w g m) {kk:KK} {x:AV} {x':Value} (hx:V w g x x') {nm:Nat} {es:List (AV×AV)} (h:mc m kk x=some (nm,es)):m.get nm=some (.mp kk es)/\∃ b es' clock,x'=.map (some b)/\g.loc nm=some b/\B<=b/\w.heap[b]?=some (.map es' clock)/\MapR w g kk es' clock es:=by
 unfold mc at h
 split at h
 ·rename_i nm'
  split at h
  ·rename_i kk' es0 hg
   split at h
   ·rename_i hk;simp only[bG,fe] at h;obtain ⟨rfl,rfl⟩:=h;subst hk
    cases hx with
    | mref _ b hl=>
     obtain ⟨b',es',clock,h1,h2,h3,h4⟩:=hm.mp nm' kk' es0 hg;obtain rfl:b=b':=by simpa [hl] using h1
     exact ⟨hg,b,es',clock,rfl,hl,h2,h3,h4⟩
   ·cases h
  ·cases h
 ·cases h
theorem qoo {e:Nat} {z:AV} (h:rM P e=some z) (w:World):∃ v,(zeroValue e).run P w=.ok v w/\z=hG v:=by
 obtain ⟨i,v,hi,hv,rfl⟩:=E7 h;exact ⟨v,by simp[zeroValue,typeInfo,hi,hv],rfl⟩
theorem qmB (hm:MemR B w g m) {t e:Nat} {kk:KK} {z v:AV} {x key:AV} {x' key':Value} {b:Bool} (hx:V w g x x') (MX:V w g key key') (qz:vu P t=some (kk,e)) (hz:rM P e=some z) (h:oX kk z m x key=some (v,b)) :
  ∃ v',V w g v v'/\(Instr.lookup t x' key' true).run P w=.ok (.tuple #[v',.bool b]) w/\(Instr.lookup t x' key' false).run P w=.ok v' w:=by
 obtain ⟨k,hu,hk⟩:=WN qz;obtain ⟨z0,hz0,rfl⟩:=qoo hz w;simp only[oX,bc] at h;obtain ⟨⟨nm,es⟩,kS,h⟩:=h;simp only at h
 split at h
 ·rename_i be;simp only[bG] at h;obtain ⟨hg,bl,es',clock,rfl,hl,hB,hb,M⟩:=WW hm hx kS;obtain ⟨kv,oq⟩:=VV be;have MW:=(MX.flatV oq).symm;subst MW;obtain ⟨kl,fL⟩:=D8 hk (NN be oq);have K:=VZ hk;have F:=M.fit hk
  have none_case:(∀ y∈es'.toList,y.key≠kv)->es.find? (fun p=>jc p.1 key)=none:=fun hne=>by
   rw[List.find?_eq_none];intro p hp sH;obtain ⟨y,hy,h1,_⟩:=M.to p hp;exact hne y hy ((yV (M.ok p hp) be h1 oq).1 sH)
  have some_case:∀ e0∈es'.toList,e0.key=kv->∃ p,es.find? (fun p=>jc p.1 key)=some p/\V w g p.2 e0.val:=fun e0 he UT=>by
   obtain ⟨p0,H8,h1,h2⟩:=M.frm e0 he;have hex:∃ p∈es,jc p.1 key=true:=⟨p0,H8,(yV (M.ok p0 H8) be h1 oq).2 UT⟩
   cases hf:es.find? (fun p=>jc p.1 key) with
   | none=>
    rw[List.find?_eq_none] at hf;obtain ⟨p,hp,sH⟩:=hex;exact absurd sH (hf p hp)
   | some p=>
    refine ⟨p,rfl,?_⟩;have hp:=List.mem_of_find?_eq_some hf;have sH:=List.find?_some hf;obtain ⟨y,hy,h3,h4⟩:=M.to p hp;have hyk:=(yV (M.ok p hp) be h3 oq).1 sH
    have:y=e0:=by
     exact M.uniq hy he (hyk.trans UT.symm)
    rw[<- this];exact h4
  have ht:=fit_look (R:=RU) true K hu hz0 hb F fL;have hf:=fit_look (R:=RU) false K hu hz0 hb F fL;simp only[bq,jM,lL] at ht hf
  rcases ht with ⟨t1,t2,_⟩ | ⟨e0,y,t1,t2,t3,_⟩
  ·rw[Bg,none_case t2] at h;simp only[fe] at h;obtain ⟨rfl,rfl⟩:=h;refine ⟨z0,Sr w g z0,t1,?_⟩
   rcases hf with ⟨f1,_,_⟩ | ⟨e1,y1,f1,f2,_⟩
   ·exact f1
   ·exact absurd f2 (t2 e1 f1)
  ·obtain ⟨p,hp,wN⟩:=some_case e0 t1 t2;rw[Bg,hp] at h;simp only[fe] at h;obtain ⟨rfl,rfl⟩:=h;refine ⟨e0.val,wN,t3,?_⟩
   rcases hf with ⟨_,f2,_⟩ | ⟨e1,y1,f1,f2,f3,_⟩
   ·exact absurd t2 (f2 e0 t1)
   ·have:e0=e1:=M.uniq t1 f1 (t2.trans f2.symm);rw[f3,this]
 ·cases h
theorem Step.setMap {b:Nat} {es es':Array MapEntry} {clock clock':Nat} (hB:B<=b) (hb:w.heap[b]?=some (.map es clock)):Step B w g (setBlock w b (.map es' clock')) g:=by
 have l9:∀ k,k≠b->(setBlock w b (.map es' clock')).heap[k]?=w.heap[k]?:=fun k hk=>heap_setBlock_other hb _ hk
 refine ⟨⟨rfl,rfl,rfl,by simp[setBlock],fun k hk=>l9 k (by omega)⟩,fun b' off u hw hc=>?_,fun b' c1 e1 fr iB=>?_,fun _ _ _ h=>h,fun _ _ _=>Iff.rfl,fun _ _=>Iff.rfl,fun _ _ h=>h,fun _ _ _ h=>h⟩
 ·have hne:b'≠b:=fun he=>by
   subst he;unfold World.cell? at hc;rw[hb] at hc;cases hc
  exact (World.cell?_of_block (w:=w) (a:=⟨b',off,none⟩) (l9 b' hne)).trans hc
 ·have hne:b'≠b:=fun he=>by subst he;rw[hb] at iB;cases iB
  exact ⟨c1,(l9 b' hne).trans iB,rfl⟩
theorem WT {es:List (AV×AV)} {key v:AV} {p:AV×AV} (h:p∈nK es key v):(p∈es/\jc p.1 key=false)\/(p.2=v/\(p.1=key\/∃ q∈es,q.1=p.1/\jc q.1 key=true)):=by
 unfold nK at h
 split at h
 ·obtain ⟨q,hq,rfl⟩:=iX.1 h
  by_cases hk:jc q.1 key=true
  ·rw[an hk];exact .inr ⟨rfl,.inr ⟨q,hq,rfl,hk⟩⟩
  ·rw[aj hk];exact .inl ⟨hq,by simpa using hk⟩
 ·rename_i ha;rw[List.any_eq_false] at ha
  rcases im.1 h with h | h
  ·exact .inl ⟨h,by simpa using ha p h⟩
  ·rw[List.mem_singleton] at h;subst h;exact .inr ⟨rfl,.inl rfl⟩
theorem qnN {es:List (AV×AV)} {key v:AV} {p:AV×AV} (h:p∈es) (hk:jc p.1 key=false):p∈nK es key v:=by
 unfold nK
 split
 ·exact iX.2 ⟨p,h,by rw[aj (by simp[hk])]⟩
 ·exact im.2 (.inl h)
theorem qnM {es:List (AV×AV)} {key v:AV}:∃ p∈nK es key v,p.2=v/\(p.1=key\/∃ q∈es,q.1=p.1/\jc q.1 key=true):=by
 unfold nK
 split
 ·rename_i ha;obtain ⟨q,hq,hk⟩:=List.any_eq_true.1 ha;exact ⟨(q.1,v),iX.2 ⟨q,hq,by rw[an hk]⟩,rfl,.inr ⟨q,hq,rfl,hk⟩⟩
 ·exact ⟨(key,v),im.2 (.inr fJ),rfl,.inl rfl⟩
theorem qnL (es:List (AV×AV)) (key v:AV):(nK es key v).length=if es.any (fun p=>jc p.1 key)=true then es.length else es.length+1:=by
 unfold nK
 split
 ·rename_i h;rw[an h];simp
 ·rename_i h;rw[h];simp
theorem Xh {α:Type}:∀ (l l':List α),l.Nodup->(∀ x∈l,x∈l')->l.length<=l'.length
 | [],_,_,_=>mw _
 | a::t,l',hn,hs=>by
  obtain ⟨s,u,rfl⟩:=zY (hs a fJ);rw[uC] at hn
  have:=Xh t (s++u) hn.2 (fun x hx=>by
   have h:=hs x (fI _ hx)
   rcases im.1 h with h | h
   ·exact im.2 (.inl h)
   ·rcases gB.1 h with rfl | h
    ·exact absurd hx hn.1
    ·exact im.2 (.inr h))
  simp at this ⊢;omega
theorem qm3 {α β:Type} {f:α->β} {l:List α} (h:(l.map f).Nodup):(l.map fun x=>some (f x)).Nodup:=by
 have:(l.map fun x=>some (f x))=(l.map f).map some:=by simp
 rw[this];unfold List.Nodup at h ⊢;rw[List.pairwise_map];exact h.imp fun hne e=>hne (po e)
theorem MapR.put {k:Nat} {kk:KK} {t e b:Nat} {es':Array MapEntry} {clock:Nat} {es:List (AV×AV)} (M:MapR w g kk es' clock es) (hu:P.underlying t=some (.map k e)) (hk:wU P k=some kk) (hb:w.heap[b]?=some (.map es' clock)) {key v:AV} {kv vv:Value} (be:jQ kk key=true) (oq:Go.Ab.flatV key=some kv) (hvv:V w g v vv) (hlen:es.length < maxLen) :
  ∃ es2 clock2,(Instr.mapUpdate t (.map (some b)) kv vv).run P w=.ok () (setBlock w b (.map es2 clock2))/\MapR w g kk es2 clock2 (nK es key v):=by
 obtain ⟨kl,fL⟩:=D8 hk (NN be oq);have K:=VZ hk;have F:=M.fit (P:=P) hk;obtain ⟨es2,clock2,r1,r2,r3,_,_,r6⟩:=fit_store (R:=RU) (R':=RU) (yv:=(.lit (.bool true),[])) K hu hb F (jr M.size hlen) (fun _ _ _ _ h=>h) fL rfl;have Nk:∀ (x:MapEntry) (l:Lit),Go.keyOf P k x.key=some l->Go.WideElems.rg P k RU x=(l,.lit (.bool true)):=fun x l hl=>Go.WideElems.rg_of (by simp[Go.WideElems.rd,hl,RU])
 have Vb:∀ x∈es2.toList,∃ l,Go.keyOf P k x.key=some l:=fun x hx=>by
  rcases r6 x hx with ⟨h,_⟩ | ⟨h,_⟩
  ·exact D8 hk (M.keys x h)
  ·exact ⟨kl,by rw[h];exact fL⟩
 have back:∀ p,p∈putKey kl (.lit (.bool true)) ((es'.toList.map (Go.WideElems.rg P k RU)).foldr DataW.insert [])->∃ x∈es2.toList,Go.WideElems.rg P k RU x=p:=fun p hp=>by
  rw[<- r3,mem_sorted] at hp;obtain ⟨x,hx,rfl⟩:=iX.1 hp;exact ⟨x,hx,rfl⟩
 have tP:∃ x∈es2.toList,x.key=kv/\x.val=vv:=by
  obtain ⟨x,hx,hp⟩:=back (kl,.lit (.bool true)) (mem_insert_iff.2 (.inl rfl));obtain ⟨l,hl⟩:=Vb x hx;rw[Nk x l hl] at hp;have fq:l=kl:=(Prod.mk.inj hp).1;subst fq;have AX:x.key=kv:=K.inj hl fL
  rcases r6 x hx with ⟨_,h⟩ | ⟨h,h'⟩
  ·exact absurd AX h
  ·exact ⟨x,hx,h,h'⟩
 have hold:∀ x∈es'.toList,x.key≠kv->x∈es2.toList:=fun x hx hne=>by
  obtain ⟨l,hl⟩:=D8 hk (M.keys x hx);have qll:l≠kl:=fun e=>hne (K.inj (e▸hl) fL)
  have gh:(l,DataW.lit (.bool true))∈putKey kl (.lit (.bool true)) ((es'.toList.map (Go.WideElems.rg P k RU)).foldr DataW.insert []):=by
   refine mem_insert_iff.2 (.inr (rX.2 ⟨mem_sorted.2 (iX.2 ⟨x,hx,Nk x l hl⟩),?_⟩));simp only[notKey]
   cases hs:l.sameKey kl with
   | false=>rfl
   | true=>exact absurd (WideAt.sameKey_eq hs) qll
  obtain ⟨x2,hx2,hp⟩:=back _ gh;obtain ⟨l2,ja⟩:=Vb x2 hx2;rw[Nk x2 l2 ja] at hp;have fq:l2=l:=(Prod.mk.inj hp).1;subst fq;have AX:x2.key=x.key:=K.inj ja hl
  rcases r6 x2 hx2 with ⟨h,_⟩ | ⟨h,_⟩
  ·have:x2=x:=by
    have hnd:=M.stamped.2.2;obtain ⟨i,hi,rfl⟩:=pM h;obtain ⟨j,hj,rfl⟩:=pM hx
    have rv:(es'.toList.map (·.key))[i]'(by simpa using hi)=(es'.toList.map (·.key))[j]'(by simpa using hj):=by
     rw[ti,ti,AX]
    have:=(List.getElem_inj hnd).1 rv;subst this;rfl
   rw[<- this];exact hx2
  ·exact absurd (AX.symm.trans h) hne
 have qk5:∀ p∈nK es key v,jQ kk p.1=true:=fun p hp=>by
  rcases WT hp with ⟨h,_⟩ | ⟨_,h | ⟨q,hq,h,_⟩⟩
  ·exact M.ok p h
  ·rw[h];exact be
  ·rw[<- h];exact M.ok q hq
 have UX:∀ x∈es2.toList,∃ p∈nK es key v,Go.Ab.flatV p.1=some x.key/\V w g p.2 x.val:=fun x hx=>by
  rcases r6 x hx with ⟨h,hne⟩ | ⟨h,h'⟩
  ·obtain ⟨p,hp,h1,h2⟩:=M.frm x h;refine ⟨p,qnN hp ?_,h1,h2⟩
   cases bL:jc p.1 key with
   | false=>rfl
   | true=>exact absurd ((yV (M.ok p hp) be h1 oq).1 bL) hne
  ·obtain ⟨p,hp,h1,h2⟩:=qnM (es:=es) (key:=key) (v:=v);refine ⟨p,hp,?_,by rw[h1,h'];exact hvv⟩
   rcases h2 with h2 | ⟨q,hq,h2,DO⟩
   ·rw[h2,h];exact oq
   ·obtain ⟨x0,hx0,h3,_⟩:=M.to q hq;rw[<- h2,h3,h,(yV (M.ok q hq) be h3 oq).1 DO]
 have qk4:∀ x∈es2.toList,∃ p∈nK es key v,Go.Ab.flatV p.1=some x.key:=fun x hx=>(UX x hx).imp fun p h=>⟨h.1,h.2.1⟩
 refine ⟨es2,clock2,r1,?_,?_,r2.stamped,fun x hx=>?_,qk5,fun p hp=>?_,UX⟩
 ·have h:=Xh (es2.toList.map fun x=>some x.key) ((nK es key v).map fun p=>Go.Ab.flatV p.1) (qm3 (f:=fun x:MapEntry=>x.key) r2.stamped.2.2) (fun y hy=>by
   obtain ⟨x,hx,rfl⟩:=iX.1 hy;obtain ⟨p,hp,h1⟩:=qk4 x hx
   exact iX.2 ⟨p,hp,h1⟩)
  simpa using h
 ·rw[qnL];split<;>omega
 ·rcases r6 x hx with ⟨h,_⟩ | ⟨h,_⟩
  ·exact M.keys x h
  ·rw[h];exact NN be oq
 ·rcases WT hp with ⟨h,hne⟩ | ⟨hv,h⟩
  ·obtain ⟨x,hx,h1,h2⟩:=M.to p h
   have hxk:x.key≠kv:=fun e=>by
    have:=(yV (M.ok p h) be h1 oq).2 e;rw[this] at hne;cases hne
   exact ⟨x,hold x hx hxk,h1,h2⟩
  ·obtain ⟨x,hx,h1,h2⟩:=tP;refine ⟨x,hx,?_,by rw[hv,h2];exact hvv⟩
   rcases h with h | ⟨q,hq,h,DO⟩
   ·rw[h,h1];exact oq
   ·obtain ⟨x0,hx0,h3,_⟩:=M.to q hq;rw[<- h,h3,h1,(yV (M.ok q hq) be h3 oq).1 DO]
theorem Zo (hm:MemR B w g m) {t e:Nat} {kk:KK} {x key v:AV} {x' key' v':Value} {m1:af} (hx:V w g x x') (MX:V w g key key') (hv:V w g v v') (qz:vu P t=some (kk,e)) (h:kO kk m x key v=some m1) :
  ∃ w',(Instr.mapUpdate t x' key' v').run P w=.ok () w'/\Step B w g w' g/\MemR B w' g m1:=by
 obtain ⟨k,hu,hk⟩:=WN qz;simp only[kO,bc] at h;obtain ⟨⟨nm,es⟩,kS,h⟩:=h;simp only at h
 split at h
 ·rename_i hc;obtain ⟨be,_,hlen⟩:=hc;simp only[bG] at h;subst h;obtain ⟨hg,b,es',clock,rfl,hl,hB,hb,M⟩:=WW hm hx kS;obtain ⟨kv,oq⟩:=VV be;have MW:=(MX.flatV oq).symm;subst MW;obtain ⟨es2,clock2,r1,M2⟩:=M.put (w:=w) hu hk hb be oq hv hlen;have s:=Step.setMap (w:=w) (g:=g) (es':=es2) (clock':=clock2) hB hb;have l9:∀ k,k≠b->(setBlock w b (.map es2 clock2)).heap[k]?=w.heap[k]?:=fun k hk=>heap_setBlock_other hb _ hk;have wR:(setBlock w b (.map es2 clock2)).heap.size=w.heap.size:=by simp[setBlock]
  have hlt:=bJ hg;refine ⟨_,r1,s,?_⟩;have sq:a8 g m nm=some b:=by simp[a8,hg,hl]
  have hblk:∀ x b',a8 g (m.set nm (some (.mp kk (nK es key v)))) x=some b'->a8 g m x=some b':=by
   intro x b' hx
   rcases pR hx with ⟨bx1,cs1,a1,a2⟩ | ⟨n1,sz1,a1,a2⟩ | ⟨kk1,es1,a1,a2⟩
   ·rw[gC] at a1
    split at a1
    ·simp at a1
    ·simp[a8,a1,a2]
   ·rw[gC] at a1
    split at a1
    ·simp at a1
    ·simp[a8,a1,a2]
   ·rw[gC] at a1
    split at a1
    ·rename_i he;subst he;simp[a8,hg,a2]
    ·simp[a8,a1,a2]
  refine ⟨?_,?_,?_,?_,?_,?_,?_,?_,?_⟩
  ·intro x bx1 cs1 hx;rw[gC] at hx
   split at hx
   ·simp at hx
   ·obtain ⟨b1,c1,e1,a1,a2,a3,a4,a5,a6⟩:=hm.obj x bx1 cs1 hx;have lA:b1≠b:=fun he=>by rw[he,hb] at a3;cases a3
    exact ⟨b1,c1,e1,a1,a2,(l9 b1 lA).trans a3,a4,fun j hj=>(a5 j hj).step s,a6⟩
  ·intro x n1 sz1 hx;rw[gC] at hx
   split at hx
   ·simp at hx
   ·obtain ⟨b1,c1,e1,a1,a2,a3,a4⟩:=hm.tok x n1 sz1 hx;have lA:b1≠b:=fun he=>by rw[he,hb] at a3;cases a3
    exact ⟨b1,c1,e1,a1,a2,(l9 b1 lA).trans a3,a4⟩
  ·intro x hx;rw[gC] at hx
   split at hx
   ·simp at hx
   ·exact hm.resv x hx
  ·intro x hx;exact hm.fresh x (by simpa using hx)
  ·intro x x' b' h1 h2;exact hm.inj x x' b' (hblk x b' h1) (hblk x' b' h2)
  ·intro b' off hw;rw[wR];exact hm.wrLt b' off hw
  ·exact hm.invS s
  ·intro b' hw;rw[wR];exact hm.boxLt b' hw
  ·intro x kk1 es1 hx;rw[gC] at hx
   split at hx
   ·rename_i he;simp only[an hlt,bG,Ent.mp.injEq] at hx;obtain ⟨rfl,rfl⟩:=hx;subst he;exact ⟨b,es2,clock2,hl,hB,heap_setBlock_same hb _,M2.step s⟩
   ·rename_i hne;obtain ⟨b1,es3,cl3,a1,a2,a3,a4⟩:=hm.mp x kk1 es1 hx;have lA:b1≠b:=fun he=>hne (hm.inj x nm b (by simp[a8,hx,a1,he]) sq);exact ⟨b1,es3,cl3,a1,a2,(l9 b1 lA).trans a3,a4.step s⟩
 ·cases h
def qD (g:G) (nm b:Nat):G where
 wr:=g.wr
 box:=g.box
 loc nm':=if nm'=nm then some b else g.loc nm'
 tloc:=g.tloc
theorem MemR.alloc_mp (h:MemR B w g m) (hB:B<=w.heap.size) (kk:KK) {nm:Nat} {m':af} (hs:Slot g m nm (.mp kk []) m') :
  Step B w g (w.alloc (.map #[] 0)) (qD g nm w.heap.size)/\MemR B (w.alloc (.map #[] 0)) (qD g nm w.heap.size) m':=by
 have nB:=hs.fresh
 have s:Step B w g (w.alloc (.map #[] 0)) (qD g nm w.heap.size):=by
  refine Step.alloc hB _ (fun b off hb=>Iff.rfl) (fun b hb=>Iff.rfl) (fun x b hb=>?_) (fun _ _ _ h=>h);simp only[qD]
  split
  ·rename_i he;rw[he,nB.1] at hb;cases hb
  ·exact hb
 have hblk:∀ x b,a8 (qD g nm w.heap.size) m' x=some b->(x≠nm/\a8 g m x=some b)\/(x=nm/\b=w.heap.size):=by
  intro x b hb
  rcases pR hb with ⟨bx',cs',h1,h2⟩ | ⟨n,sz,h1,h2⟩ | ⟨kk1,es,h1,h2⟩
  ·rw[hs.get] at h1
   split at h1
   ·simp at h1
   ·rename_i hne;simp only[qD,aj hne] at h2;exact .inl ⟨hne,by simp[a8,h1,h2]⟩
  ·rw[hs.get] at h1
   split at h1
   ·simp at h1
   ·rename_i hne;simp only[qD] at h2;exact .inl ⟨hne,by simp[a8,h1,h2]⟩
  ·rw[hs.get] at h1
   split at h1
   ·rename_i he;simp only[qD,an he] at h2;exact .inr ⟨he,by simpa using h2.symm⟩
   ·rename_i hne;simp only[qD,aj hne] at h2;exact .inl ⟨hne,by simp[a8,h1,h2]⟩
 refine ⟨s,?_,?_,?_,?_,?_,?_,?_,?_,?_⟩
 ·intro x bx' cs' hn;rw[hs.get] at hn
  split at hn
  ·simp at hn
  ·obtain ⟨b,c',e',h1,h2,h3,h4,h5,h6,h7⟩:=h.obj x bx' cs' hn;exact ⟨b,c',e',s.loc _ _ h1,h2,(Go.heap_alloc_old w _ (fE.1 h3).1).trans h3,h4,fun j hj=>(h5 j hj).step s,h6,h7⟩
 ·intro x n sz hn;rw[hs.get] at hn
  split at hn
  ·simp at hn
  ·obtain ⟨b,c',e',h1,h2,h3,h4⟩:=h.tok x n sz hn;exact ⟨b,c',e',h1,h2,(Go.heap_alloc_old w _ (fE.1 h3).1).trans h3,h4⟩
 ·intro x hn;rw[hs.get] at hn
  split at hn
  ·simp at hn
  ·rename_i hne;have:=h.resv x hn;exact ⟨by simp only[qD];rw[aj hne];exact this.1,this.2⟩
 ·intro x hn;obtain ⟨h1,h2⟩:=hs.len x hn;have:=h.fresh x h1;exact ⟨by simp only[qD];rw[aj h2];exact this.1,this.2⟩
 ·intro x x' b h1 h2
  rcases hblk _ _ h1 with ⟨a1,a2⟩ | ⟨a1,a2⟩<;>rcases hblk _ _ h2 with ⟨b1,b2⟩ | ⟨b1,b2⟩
  ·exact h.inj _ _ _ a2 b2
  ·have:=(h.blk_lt a2).2;omega
  ·have:=(h.blk_lt b2).2;omega
  ·omega
 ·intro b off hw;have:=h.wrLt b off hw;simp;omega
 ·exact h.invS s
 ·intro b hw;have:=h.boxLt b hw;simp;omega
 ·intro x kk1 es hn;rw[hs.get] at hn
  split at hn
  ·rename_i he;simp only[bG,Ent.mp.injEq] at hn;obtain ⟨rfl,rfl⟩:=hn;refine ⟨w.heap.size,#[],0,by simp[qD,he],hB,heap_alloc_new w _,⟨aR _,mw _,MapKept.stamped_empty 0,by simp,by simp,by simp,by simp⟩⟩
  ·obtain ⟨b,es',cl,h1,h2,h3,h4⟩:=h.mp x kk1 es hn;exact ⟨b,es',cl,s.loc _ _ h1,h2,(Go.heap_alloc_old w _ (fE.1 h3).1).trans h3,h4.step s⟩
theorem qmF (hm:MemR B w g m) (hB:B<=w.heap.size) {t e:Nat} {kk:KK} (qz:vu P t=some (kk,e)):nV P B w g (Instr.makeMap t none) (.mref (aA none m .resv).1) (aA none m (.mp kk [])).2:=by
 obtain ⟨s,hm'⟩:=hm.alloc_mp hB kk (hm.slot (d:=none) (fun s h=>by cases h) (.mp kk []));refine ⟨_,_,_,?_,s,hm',.mref _ w.heap.size (by simp[qD])⟩;simp[Instr.makeMap,newObj]
 rfl
end
end Go.Ab
namespace Go.Ab
open Go.RowKit
section
variable [WInv] {C:Cfg} {B:Nat} {w:World} {g:G} {m:af}
def Ah (P:Program) (B:Nat) (w:World) (g:G) (a:Act) (o:Oper) (v:AV) (m1:af):Prop:=
 ∀ (next:Act->World->Prop) (Q:Exit->Act->World->Prop),(∀ a1 v' w' g',a1.tmps=a.tmps->iN P a1 a->Step B w g w' g'->MemR B w' g' m1->V w' g' v v'->next (a1.put o.dst v') w')->o.wp P a w next Q
theorem Ah.done {P:Program} {a:Act} {o:Oper} {v:AV} {m1:af} {s:Sem Value} (h:nV P B w g s v m1) (hs:∀ w,(execOp a.eval o).run P w=(do pure (.value (<- s)):Sem Next).run P w):Ah P B w g a o v m1:=
 fun next Q hn=>qpF hs h fun v' w' g' h1 h2 h3=>hn a v' w' g' rfl (iN.refl _ _) h1 h2 h3
theorem Ah.same {P:Program} {a:Act} {o:Oper} {v:AV} (hm:MemR B w g m) {s:Sem Value} (h:∃ v',s.run P w=.ok v' w/\V w g v v') (hs:∀ w,(execOp a.eval o).run P w=(do pure (.value (<- s)):Sem Next).run P w):Ah P B w g a o v m:=
 Ah.done (nV.same hm h) hs
theorem qmK {ρ:Operand->AV} {ρ':Operand->Value} (hρ:∀ x,V w g (ρ x) (ρ' x)) (xs:Array Operand) (cs:List AV) (vs:Array Value) (hl:cs.length=vs.size) (hv:∀ j,j < cs.length->V w g (cs.getD j .any) (vs.getD j undef)) :
  (xs.toList.map ρ++cs).length=(xs.map ρ'++vs).size/\∀ j,j < (xs.toList.map ρ++cs).length->V w g ((xs.toList.map ρ++cs).getD j .any) ((xs.map ρ'++vs).getD j undef):=by
 refine ⟨by simp[hl],fun j hj=>?_⟩;simp only[aT,jq,qn,Array.getElem?_append,bU,E9,Array.size_map]
 by_cases h1:j < xs.size
 ·rw[an h1,an h1];simpa [h1] using hρ xs[j]
 ·rw[aj h1,aj h1];simp at hj;simpa [aT,jq] using hv (j - xs.size) (by omega)
theorem y8 {ρ:Operand->AV} {ρ':Operand->Value} (hρ:∀ x,V w g (ρ x) (ρ' x)) (x:Option Operand):qY w g (x.map ρ) (x.map ρ'):=by
 cases x with
 | none=>trivial
 | some x=>exact hρ x
theorem qjB (hC:CfgOk C) {callI:Nat->List AV->af->OM} (hI:∀ f args m v m',callI f args m=some (v,m')->te C.P f args m v m'/\∃ fn,C.P.funcs[f]?=some fn/\fn.body.isSome)
  {R:Type} {fid:Nat} {d:Option Nat} {f:Nat} {args:List AV} {K:AV->af->Option R} {r:R} (h:jU C fid (jB callI) callI d f args m K=some r) (hm:MemR B w g m) (hB:B<=w.heap.size) {vs:Array Value}
  (hl:args.length=vs.size) (hv:∀ j,j < args.length->V w g (args.getD j .any) (vs.getD j undef)) :
  ∃ v m1 fn,K v m1=some r/\C.P.funcs[f]?=some fn/\fn.body.isSome/\Calls C.P f vs w fun e w'=>∃ v' g',e=.returned v'/\Step B w g w' g'/\MemR B w' g' m1/\V w' g' v v':=by
 unfold jU at h
 cases rz:C.libm f with
 | some hh=>
  rw[rz] at h
  cases d with
  | some s=>cases h
  | none=>
   simp only[bc] at h;obtain ⟨⟨v,m1⟩,hr,h⟩:=h;obtain ⟨⟨fn,h1,h2⟩,h3⟩:=hC.libm f hh rz;exact ⟨v,m1,fn,h,h1,h2,h3 args m v m1 hr B w g vs hm hB hl hv⟩
 | none=>
 rw[rz] at h;simp only at h
 split at h
 ·rename_i hh H2;simp only[bc] at h;obtain ⟨v,hr,h⟩:=h;obtain ⟨⟨fn,h1,h2⟩,h3⟩:=hC.lib f hh H2;exact ⟨v,m,fn,h,h1,h2,h3 args v hr m B w g vs hm hB hl hv⟩
 ·split at h
  ·split at h
   ·simp only[bc] at h;obtain ⟨⟨v,m1⟩,hr,h⟩:=h
    cases hz:C.frzc fid f with
    | true=>
     rw[hz] at hr;simp only[yi,bc] at hr;obtain ⟨⟨rs,l⟩,hf,hc⟩:=hr;obtain ⟨g1,s1,lE,mW,kr⟩:=qkl hm hl hv hf;obtain ⟨h1,fn,h2,h3⟩:=hI _ _ _ _ _ hc;refine ⟨v,m1,fn,h,h2,h3,(h1 B w g1 vs lE hB mW kr).mono ?_⟩;rintro e w' ⟨v',g',he,s,hm',hV⟩;exact ⟨v',g',he,s1.trans s,hm',hV⟩
    | false=>
    rw[hz] at hr;simp only at hr
    cases ht:C.thaw fid f with
    | false=>
     rw[ht] at hr;obtain ⟨h1,fn,h2,h3⟩:=hI _ _ _ _ _ hr;exact ⟨v,m1,fn,h,h2,h3,h1 B w g vs hm hB hl hv⟩
    | true=>
     rw[ht] at hr;simp only[Jo,bc,gG] at hr;obtain ⟨⟨rs,l⟩,hf,⟨v0,m0⟩,hc,⟨v1,m2⟩,mH,he⟩:=hr;simp only[fe] at he;obtain ⟨rfl,rfl⟩:=he;obtain ⟨_,fn,h2,h3⟩:=hI _ _ _ _ _ hc;exact ⟨v1,_,fn,h,h2,h3,qpc hm hB (fun args m v m' hh=>(hI _ _ _ _ _ hh).1) hl hv hf hc mH⟩
   ·cases h
  ·unfold aD at h;simp only[bc] at h;obtain ⟨⟨v,m1⟩,⟨⟨rs,l⟩,hf,hc⟩,h⟩:=h
   split at hc
   ·cases hc
   ·simp only[gG,fe] at hc;obtain ⟨v',hr,rfl,rfl⟩:=hc
    have hfn:∃ fn,C.P.funcs[f]?=some fn/\fn.body.isSome:=by
     unfold jB at hr;simp only[bc] at hr;obtain ⟨⟨v0,m0⟩,hc,_⟩:=hr;exact (hI _ _ _ _ _ hc).2
    obtain ⟨fn,h1,h2⟩:=hfn;exact ⟨v',_,fn,h,h1,h2,qnI hm hB (fun args m v m' hh=>(hI _ _ _ _ _ hh).1) hl hv hf hr⟩
theorem qnk (hC:CfgOk C) {callI:Nat->List AV->af->OM} (hI:∀ f args m v m',callI f args m=some (v,m')->te C.P f args m v m'/\∃ fn,C.P.funcs[f]?=some fn/\fn.body.isSome)
  {R:Type} {fid:Nat} {d:Option Nat} {o:Oper} {ρ:Operand->AV} {K:AV->af->Option R} {r:R} {a:Act} (h:kB C fid (jB callI) callI d o ρ m K=some r) (hρ:∀ x,V w g (ρ x) (a.eval x)) (hm:MemR B w g m) (hB:B<=w.heap.size) (AK:nh o=true->∀ s,d=some s->m.get s=some .resv) :
  ∃ v m1,K v m1=some r/\Ah C.P B w g a o v m1:=by
 unfold kB at h
 split at h
 ·rename_i x bw;exact ⟨_,_,h,.same (s:=pure (a.eval x)) hm ⟨_,rfl,hρ x⟩ fun w=>by simp[execOp,bw]⟩
 ·rename_i x bw;exact ⟨_,_,h,.same (s:=pure (a.eval x)) hm ⟨_,rfl,hρ x⟩ fun w=>by simp[execOp,bw]⟩
 ·rename_i c x y bw;simp only[bc] at h;obtain ⟨v,hv,h⟩:=h;exact ⟨_,_,h,.same hm (qnH (hρ c) (hρ x) (hρ y) hv) fun w=>by simp[execOp,bw]⟩
 ·rename_i t bw
  split at h
  ·rename_i z hz;have hd:=AK (by simp[nh,bw]);exact ⟨_,_,h,.done (qg8 hm hB hd hz) fun w=>by simp[execOp,bw]⟩
  ·cases h
 ·rename_i t x bw
  split at h
  ·simp only[bc] at h;obtain ⟨⟨v,m1⟩,hv,h⟩:=h;have hd:=AK (by simp[nh,bw]);exact ⟨_,_,h,.done (qjp (t:=t) hm hB hd (hρ x) hv) fun w=>by simp[execOp,bw]⟩
  ·cases h
 ·rename_i t ps bw
  split at h
  ·rename_i gI
   split at h
   ·rename_i z l hz hl;simp only[bc] at h;obtain ⟨v,hv,h⟩:=h;exact ⟨_,_,h,.done (qjw hm hρ gI hz hl hv) fun w=>by simp[execOp,bw]⟩
   ·cases h
  ·cases h
 ·rename_i t n ps bw
  split at h
  ·rename_i e he
   split at h
   ·rename_i sh hsh
    split at h
    ·rename_i mE;simp only[bT,tu,nt] at mE;obtain ⟨⟨c1,c2⟩,c3⟩:=mE;simp only[bc] at h;obtain ⟨v,hv,h⟩:=h
     have ht:C.P.underlying t=some (.slice e):=by
      unfold Ax at he
      split at he
      ·simp at he;subst he;assumption
      ·cases he
     exact ⟨_,_,h,.done (qju hm hB hρ ht c1 c2 c3 hv) fun w=>by simp[execOp,bw]⟩
    ·cases h
   ·cases h
  ·cases h
 ·rename_i t x bw
  split at h
  ·rename_i sh hsh;simp only[bc] at h;obtain ⟨v,hv,h⟩:=h;exact ⟨_,_,h,.same hm (Ww hm (hρ x) hv t hsh) fun w=>by simp[execOp,bw]⟩
  ·cases h
 ·rename_i t x y bw
  split at h
  ·rename_i sh hsh;simp only[bc] at h;obtain ⟨m1,hv,h⟩:=h
   refine ⟨_,_,h,fun next Q hn=>?_⟩
   obtain ⟨w',h1,h2,h3⟩:=qoN (P:=C.P) hm (hρ x) (hρ y) hsh hv;have hr:(execOp a.eval o).run C.P w=.ok .skip w':=by simp[execOp,bw,h1]
   unfold Oper.wp;rw[hr];exact hn a undef w' g rfl (iN.refl _ _) h2 h3 (.any _)
  ·cases h
 ·rename_i x bw;have hx:=hρ x;simp only[bc] at h;obtain ⟨v,hv,h⟩:=h;unfold iD at hv
  split at hv
  ·rename_i cs hZ;simp only[bG] at hv;subst hv;rw[hZ] at hx
   cases ic:a.eval x with
   | pointer p=>
    cases p with
    | some p=>
     refine ⟨_,_,h,.same (s:=pure (.pointer (some p))) hm ⟨_,rfl,by rw[ic] at hx;exact hx⟩ fun w=>by simp[execOp,bw,ic]⟩
    | none=>rw[ic] at hx;cases hx
   | _=>rw[ic] at hx;cases hx
  ·rename_i nm off hZ;simp only[bG] at hv;subst hv;rw[hZ] at hx
   cases ic:a.eval x with
   | pointer p=>
    cases p with
    | some p=>
     refine ⟨_,_,h,.same (s:=pure (.pointer (some p))) hm ⟨_,rfl,by rw[ic] at hx;exact hx⟩ fun w=>by simp[execOp,bw,ic]⟩
    | none=>rw[ic] at hx;cases hx
   | _=>rw[ic] at hx;cases hx
  ·rename_i f cs hZ;simp only[bG] at hv;subst hv;rw[hZ] at hx
   cases ic:a.eval x with
   | func fn fi cap=>
    rw[ic] at hx
    cases hx with
    | fn _ _ _ hl hv=>
     refine ⟨_,_,h,.same (s:=pure (.func (.func f) #[] cap)) hm ⟨_,rfl,.fn _ _ _ hl hv⟩ fun w=>by simp[execOp,bw,ic]⟩
   | _=>rw[ic] at hx;cases hx
  ·cases hv
 ·rename_i op t x y _ bw;simp only[bc] at h;obtain ⟨v,hv,h⟩:=h;exact ⟨_,_,h,.same hm (qjk op t x y (hρ x) (hρ y) hv) fun w=>by simp[execOp,bw]⟩
 ·rename_i op t x bw;simp only[bc] at h;obtain ⟨v,hv,h⟩:=h;exact ⟨_,_,h,.same hm (qpx op (hρ x) hv) fun w=>by simp[execOp,bw]⟩
 ·rename_i src dst x bw
  split at h
  ·rename_i k hk
   split at h
   ·rename_i hs;simp only[bc] at h;obtain ⟨v,hv,h⟩:=h;exact ⟨_,_,h,.same hm (qjU (hρ x) hv src dst hk hs) fun w=>by simp[execOp,bw]⟩
   ·cases h
  ·cases h
 ·rename_i fn fi cs bw
  split at h
  ·rename_i f wE;have qk2:fi = #[]:=by simpa using wE
   subst qk2;refine ⟨_,_,h,.same (s:=pure (.func (.func f) #[] (cs.map a.eval))) hm ⟨_,rfl,.fn _ _ _ (by simp) fun j hj=>?_⟩ fun w=>by simp[execOp,bw,Instr.makeFunc]⟩;have gH:j < cs.size:=by simpa using hj
   simpa [aT,jq,gH] using hρ cs[j]
  ·cases h
 ·rename_i t l c bw
  split at h
  ·rename_i e he
   split at h
   ·rename_i sh z hsh hz
    split at h
    ·rename_i lC;simp only[bc] at h;obtain ⟨⟨v,m1⟩,hv,h⟩:=h
     have ht:C.P.underlying t=some (.slice e):=by
      unfold Ax at he
      split at he
      ·simp at he;subst he;assumption
      ·cases he
     have hd:=AK (by simp[nh,bw])
     cases jZ:C.tokm fid with
     | true=>rw[jZ] at hv;exact ⟨_,_,h,.done (qmG hm hB ht hsh lC hz (hρ l) (hρ c) hv) fun w=>by simp[execOp,bw]⟩
     | false=>rw[jZ] at hv;exact ⟨_,_,h,.done (qmI hm hB hd ht hsh lC hz (hρ l) (hρ c) hv) fun w=>by simp[execOp,bw]⟩
    ·cases h
   ·cases h
  ·cases h
 ·rename_i t x lo hi mx bw
  split at h
  ·rename_i e ht
   split at h
   ·rename_i sh hsh
    split at h
    ·rename_i lC;simp only[bc] at h;obtain ⟨v,hv,h⟩:=h;unfold kU at hv
     split at hv
     ·rename_i sh' z o' es hx
      split at hv
      ·rename_i hs;exact ⟨_,_,h,.same hm (qoC (hx▸hρ x) (y8 hρ lo) (y8 hρ hi) (y8 hρ mx) hv t ht hsh lC hs) fun w=>by simp[execOp,bw]⟩
      ·cases hv
     ·rename_i nm off n sh' hx
      split at hv
      ·rename_i hs;subst hs
       cases mx with
       | none=>exact ⟨_,_,h,.same hm (qoB (hx▸hρ x) (y8 hρ lo) (y8 hρ hi) hv t ht lC) fun w=>by simp[execOp,bw]⟩
       | some _=>simp[qg] at hv
      ·cases hv
     ·cases hv
    ·cases h
   ·cases h
  ·rename_i ht;simp only[bc] at h;obtain ⟨v,hv,h⟩:=h;unfold YN at hv
   split at hv
   ·rename_i s hx
    cases mx with
    | none=>exact ⟨_,_,h,.same hm (qoD (hx▸hρ x) (y8 hρ lo) (y8 hρ hi) hv t ht) fun w=>by simp[execOp,bw]⟩
    | some _=>simp[qg] at hv
   ·cases hv
  ·cases h
 ·rename_i t x f bw
  split at h
  ·rename_i off sh hf;simp only[bc] at h;obtain ⟨v,hv,h⟩:=h;exact ⟨_,_,h,.same hm (qke (hρ x) hv t f hf) fun w=>by simp[execOp,bw]⟩
  ·cases h
 ·rename_i t x f bw
  split at h
  ·rename_i off sh hf;simp only[bc] at h;obtain ⟨v,hv,h⟩:=h;exact ⟨_,_,h,.same hm (qkf (hρ x) hv t f hf) fun w=>by simp[execOp,bw]⟩
  ·cases h
 ·rename_i t x i bw
  split at h
  ·rename_i e ht
   split at h
   ·rename_i sh hsh
    split at h
    ·rename_i lC;simp only[bc] at h;obtain ⟨v,hv,h⟩:=h;exact ⟨_,_,h,.same hm (ql7 (hρ x) (hρ i) hv t ht lC) fun w=>by simp[execOp,bw]⟩
    ·cases h
   ·cases h
  ·rename_i n e ht
   split at h
   ·rename_i sh hsh
    split at h
    ·rename_i lC;simp only[bc] at h;obtain ⟨v,hv,h⟩:=h;exact ⟨_,_,h,.same hm (qhk (hρ x) (hρ i) hv t ht lC) fun w=>by simp[execOp,bw]⟩
    ·cases h
   ·cases h
  ·cases h
 ·rename_i t x i bw
  split at h
  ·rename_i ht;simp only[bc] at h;obtain ⟨v,hv,h⟩:=h;exact ⟨_,_,h,.same hm (ql8 (hρ x) (hρ i) hv t ht) fun w=>by simp[execOp,bw]⟩
  ·cases h
 ·rename_i t i bw;simp only[bc] at h;obtain ⟨v,hv,h⟩:=h;exact ⟨_,_,h,.same hm (qkc (hρ t) hv) fun w=>by simp[execOp,bw]⟩
 ·rename_i c bw
  split at h
  ·rename_i f hc;simp only[bc] at h;obtain ⟨⟨g0,caps⟩,kJ,h⟩:=h;unfold lp at kJ
   split at kJ
   ·rename_i f0 caps0 hf;simp only[bG,fe] at kJ;obtain ⟨rfl,rfl⟩:=kJ;have hx:=hρ f;rw[hf] at hx
    obtain ⟨cv,hev,hl,hv⟩:∃ cv,a.eval f=.func (.func f0) #[] cv/\caps0.length=cv.size/\∀ j,j < caps0.length->V w g (caps0.getD j .any) (cv.getD j undef):=by
     generalize a.eval f=y at hx
     cases hx with
     | fn _ _ vs hl hv=>exact ⟨vs,rfl,hl,hv⟩
    obtain ⟨q1,q2⟩:=qmK hρ c.args caps0 cv hl hv;obtain ⟨v,m1,fn,hK,hfn,hbody,Dx⟩:=qjB hC hI h hm hB q1 q2
    refine ⟨v,m1,hK,fun next Q hn=>?_⟩
    refine qpE bw hc hev hfn (hC.name _ _ hfn) hbody Dx ?_;rintro e w' ⟨v',g',rfl,s,hm',hV⟩;exact ⟨v',rfl,hn a v' w' g' rfl (iN.refl _ _) s hm' hV⟩
   ·cases kJ
  ·rename_i b hc
   have one:∀ {x},c.args.toList.map ρ=[x]->∃ x',c.args.map a.eval = #[x']/\V w g x x':=by
    intro x ku
    match hca:c.args.toList,ku with
    | [p],ku=>
     simp at ku;have:c.args = #[p]:=by cases Dw:c.args;simp_all
     exact ⟨a.eval p,by simp[this],ku▸hρ p⟩
   have two:∀ {x y},c.args.toList.map ρ=[x,y]->∃ x' y',c.args.map a.eval = #[x',y']/\V w g x x'/\V w g y y':=by
    intro x y ku
    match hca:c.args.toList,ku with
    | [p,q],ku=>
     simp at ku;have:c.args = #[p,q]:=by cases Dw:c.args;simp_all
     exact ⟨a.eval p,a.eval q,by simp[this],ku.1▸hρ p,ku.2▸hρ q⟩
   unfold xX at h
   split at h
   ·rename_i x ku;obtain ⟨x',pA,hx⟩:=one ku
    split at h
    ·rename_i e ht;simp only[bc] at h ht;obtain ⟨v,hv,h⟩:=h;obtain ⟨t,yN,yO⟩:=ht;exact ⟨_,_,h,.same hm (Wi hx hv c.argTypes t o.type yN ⟨e,yO⟩) fun w=>by simp[execOp,bw,resolve,hc,invoke,builtin,pA]⟩
    ·rename_i ht;simp only[bc] at h ht;obtain ⟨v,hv,h⟩:=h;obtain ⟨t,yN,yO⟩:=ht;exact ⟨_,_,h,.same hm (Wi hx hv c.argTypes t o.type yN yO) fun w=>by simp[execOp,bw,resolve,hc,invoke,builtin,pA]⟩
    ·cases h
   ·rename_i x y ku;obtain ⟨x',y',pA,hx,hy⟩:=two ku;simp only[bc] at h;obtain ⟨v,hv,h⟩:=h;have:=WS (P:=C.P) hx hy hv;simp only[bq] at this;exact ⟨_,_,h,.same hm this fun w=>by simp[execOp,bw,resolve,hc,invoke,builtin,pA,Builtin.max_]⟩
   ·rename_i x y ku;obtain ⟨x',y',pA,hx,hy⟩:=two ku;simp only[bc] at h;obtain ⟨v,hv,h⟩:=h;have:=WS (P:=C.P) hx hy hv;simp only[jM,lL] at this;exact ⟨_,_,h,.same hm this fun w=>by simp[execOp,bw,resolve,hc,invoke,builtin,pA,Builtin.min_]⟩
   ·rename_i x y ku;obtain ⟨x',y',pA,hx,hy⟩:=two ku
    split at h
    ·rename_i t t' ht qy
     split at h
     ·rename_i heq;subst heq
      split at h
      ·rename_i e he
       split at h
       ·rename_i sh hsh
        split at h
        ·rename_i mE;simp only[bc] at h;obtain ⟨⟨v,m1⟩,hv,h⟩:=h
         have DW:C.P.underlying t=some (.slice e):=by
          unfold Ax at he
          split at he
          ·simp at he;subst he;assumption
          ·cases he
         have yt:=AK (by simp[nh,bw,hc]);have hd:=qhi (P:=C.P) (ty:=o.type) hm hB yt DW hsh mE hx hy hv;refine ⟨_,_,h,.done hd fun w=>?_⟩
         have A5:Builtin.append_ c.argTypes o.type #[x',y']=Builtin.append_ #[t,t] o.type #[x',y']:=by
          unfold Builtin.append_;simp[ht,qy]
         simp[execOp,bw,resolve,hc,invoke,builtin,pA,A5]
        ·cases h
       ·cases h
      ·cases h
     ·cases h
    ·cases h
   ·cases h
  ·cases h
 ·rename_i t n bw
  split at h
  ·split at h
   ·rename_i kk e qz;exact ⟨_,_,h,.done (qmF hm hB qz) fun w=>by simp[execOp,bw]⟩
   ·cases h
  ·cases h
 ·rename_i t x i ok bw
  split at h
  ·rename_i kk e qz
   split at h
   ·rename_i z hz;simp only[bc] at h;obtain ⟨⟨v,b⟩,hl,h⟩:=h;obtain ⟨v',hV,r1,r2⟩:=qmB hm (hρ x) (hρ i) qz hz hl
    split at h
    ·exact ⟨_,_,h,.same hm ⟨_,r1,.tup _ _ rfl (fun j hj=>by
      match j,hj with
      | 0,_=>exact hV
      | 1,_=>exact .bool _)⟩ fun w=>by simp[execOp,bw]⟩
    ·exact ⟨_,_,h,.same hm ⟨_,r2,hV⟩ fun w=>by simp[execOp,bw]⟩
   ·cases h
  ·cases h
 ·rename_i t x i y bw
  split at h
  ·rename_i kk e qz;simp only[bc] at h;obtain ⟨m1,hu,h⟩:=h
   refine ⟨_,_,h,fun next Q hn=>?_⟩
   obtain ⟨w',h1,h2,h3⟩:=Zo hm (hρ x) (hρ i) (hρ y) qz hu;have hr:(execOp a.eval o).run C.P w=.ok .skip w':=by simp[execOp,bw,h1]
   unfold Oper.wp;rw[hr];exact hn a undef w' g rfl (iN.refl _ _) h2 h3 (.any _)
  ·cases h
 ·rename_i t x i y bw
  split at h
  ·rename_i kk e qz;simp only[bc] at h;obtain ⟨m1,hu,h⟩:=h
   refine ⟨_,_,h,fun next Q hn=>?_⟩
   obtain ⟨w',h1,h2,h3⟩:=Zo hm (hρ x) (hρ i) (hρ y) qz hu;have hr:(execOp a.eval o).run C.P w=.ok .skip w':=by simp[execOp,bw,h1]
   unfold Oper.wp;rw[hr];exact hn a undef w' g rfl (iN.refl _ _) h2 h3 (.any _)
  ·cases h
 ·rename_i c bw
  split at h
  ·rename_i fo hc
   split at h
   ·rename_i pA;simp only[bc] at h;obtain ⟨⟨f,cs⟩,kJ,h⟩:=h
    split at h
    ·rename_i qkY
     refine ⟨_,_,h,fun next Q hn=>?_⟩
     have hf:=hρ fo;unfold lp at kJ
     split at kJ
     ·rename_i f' cs' hx;simp only[bG,fe] at kJ;obtain ⟨rfl,rfl⟩:=kJ;rw[hx] at hf;generalize yx:a.eval fo=fv at hf
      cases hf with
      | fn _ _ caps _ _=>
       have qk0:c.args = #[]:=by simpa using pA
       have hr:(execOp a.eval o).run C.P w=.ok (.defer { target:=.fn (.func f') caps,args:=#[] }) w:=by
        simp only[execOp,bw,resolve,hc,yx,Deferred.ofValue,qk0,Sem.run_bind,Sem.run_pure,Result.andThen_ok,Array.map_empty,Array.empty_append,Array.append_empty]
       unfold Oper.wp;rw[hr]
       exact hn { a with defers:={ target:=.fn (.func f') caps,args:=#[] } :: a.defers } undef w g rfl (fun hb d hd=>by
        rcases gB.1 hd with rfl | hd
        ·exact hC.ben _ qkY caps
        ·exact hb d hd) (Step.refl _ _ _) hm (.any _)
     ·cases kJ
    ·cases h
   ·cases h
  ·cases h
 ·cases h
end
end Go.Ab
namespace Go.Ab
section
variable {R:Type} {C:Cfg} {fid:Nat} {callP:Nat->List AV->Option AV} {callI:Nat->List AV->af->OM}
def fN (C:Cfg) (fid:Nat) (callP:Nat->List AV->Option AV) (callI:Nat->List AV->af->OM) (d:Option Nat) (o:Oper) (ρ:Operand->AV) (m:af):OM:=kB C fid callP callI d o ρ m fun v m=>some (v,m)
theorem Xt (d:Option Nat) (o:Oper) (ρ:Operand->AV) (m:af) (K:AV->af->Option R):kB C fid callP callI d o ρ m K=(fN C fid callP callI d o ρ m).bind fun r=>K r.1 r.2:=by
 unfold fN kB
 split<;>first
  | rfl
  | (simp only[CF,aa];done)
  | ((repeat' split)<;>first | rfl | (simp only[CF,aa];done) | skip)
 ·simp only[CF];congr 1;funext gc;unfold jU
  (repeat' split)<;>first | rfl | (simp only[CF,aa];done)
 ·unfold xX
  (repeat' split)<;>first | rfl | (simp only[CF,aa];done)
 ·simp only[CF];congr 1;funext gc;split<;>rfl
theorem N0 {ρ ρ':Operand->AV} (xs:Array Operand) (h:∀ x∈xs,ρ x=ρ' x):xs.toList.map ρ=xs.toList.map ρ':=List.map_congr_left fun x hx=>h x (by simpa using hx)
theorem qnf {d:Option Nat} {o:Oper} {ρ ρ':Operand->AV} {m:af} (h:∀ x∈o.op.operands,ρ x=ρ' x):fN C fid callP callI d o ρ m=fN C fid callP callI d o ρ' m:=by
 unfold fN kB;cases bw:o.op<;>simp only[bw,Op.operands] at h<;>simp only[]
 case move x=>rw[h x (by simp)]
 case assign x=>rw[h x (by simp)]
 case pick c a b=>rw[h c (by simp),h a (by simp),h b (by simp)]
 case box t x=>rw[h x (by simp)]
 case build t ps=>
  have:ps.toList.mapM (fun p=>(y9 C.P t p.1).map fun f=>(f.1,f.2,ρ p.2))=ps.toList.mapM (fun p=>(y9 C.P t p.1).map fun f=>(f.1,f.2,ρ' p.2)):=by
   have sI:∀ p∈ps.toList,ρ p.2=ρ' p.2:=fun p hp=>h p.2 (by simp;exact ⟨p.1,by simpa using hp⟩);generalize ps.toList=l at sI
   induction l with
   | nil=>rfl
   | cons p l ih=>
    simp only[List.mapM_cons];rw[sI p (by simp),ih fun q hq=>sI q (by simp[hq])]
  rw[this]
 case buildSlice t n ps=>
  have:(ps.toList.map fun p=>ρ p.2)=ps.toList.map fun p=>ρ' p.2:=List.map_congr_left fun p hp=>h p.2 (by simp;exact ⟨p.1,by simpa using hp⟩);rw[this]
 case load t x=>rw[h x (by simp)]
 case store t x y=>rw[h x (by simp),h y (by simp)]
 case nilCheck x=>rw[h x (by simp)]
 case binOp op t x y ty=>rw[h x (by simp),h y (by simp)]
 case unOp op t x=>rw[h x (by simp)]
 case convert s t x=>rw[h x (by simp)]
 case makeFunc fn fi cs=>
  rw[N0 cs fun x hx=>h x (by simp[hx])]
 case makeSlice t l c=>rw[h l (by simp),h c (by simp)]
 case slice t x lo hi mx=>
  have h1:lo.map ρ=lo.map ρ':=by cases lo with | none=>rfl | some y=>simp only[aQ];rw[h y (by simp)]
  have h2:hi.map ρ=hi.map ρ':=by cases hi with | none=>rfl | some y=>simp only[aQ];rw[h y (by simp)]
  have h3:mx.map ρ=mx.map ρ':=by cases mx with | none=>rfl | some y=>simp only[aQ];rw[h y (by simp)]
  rw[h1,h2,h3,h x (by simp)]
 case fieldAddr t x f=>rw[h x (by simp)]
 case field t x f=>rw[h x (by simp)]
 case indexAddr t x i=>rw[h x (by simp),h i (by simp)]
 case index t x i=>rw[h x (by simp),h i (by simp)]
 case extract x i=>rw[h x (by simp)]
 case lookup t x i ok=>rw[h x (by simp),h i (by simp)]
 case mapUpdate t x i y=>rw[h x (by simp),h i (by simp),h y (by simp)]
 case insert t x i y=>rw[h x (by simp),h i (by simp),h y (by simp)]
 case defer c=>
  cases hc:c.callee with
  | value f=>
   simp only[Call.operands,hc] at h;simp only[];rw[h f (by simp)]
  | _=>rfl
 case call c=>
  cases hc:c.callee with
  | value f=>
   simp only[Call.operands,hc] at h;rw[N0 c.args fun x hx=>h x (by simp[hx])];simp only[];rw[h f (by simp)]
  | builtin b=>
   simp only[Call.operands,hc] at h;rw[N0 c.args fun x hx=>h x (by simp[hx])]
  | invoke r n=>rfl
def pL (m m':af):Prop:=(∀ nm o,m.obj? nm=some o->m'.obj? nm=some o)/\∀ nm kk es,m.get nm=some (.mp kk es)->m'.get nm=some (.mp kk es)
theorem pL.refl (m:af):pL m m:=⟨fun _ _ h=>h,fun _ _ _ h=>h⟩
theorem NZ {f f':AV->Option (AV×List Nat)} (h:∀ x r,f x=some r->f' x=some r):∀ (cs:List AV) r,fD f cs=some r->fD f' cs=some r
 | [],r,hr=>hr
 | c::cs,r,hr=>by
  simp only[fD,bc,gG] at hr ⊢;obtain ⟨x,hx,y,hy,rfl⟩:=hr;exact ⟨x,h _ _ hx,y,NZ h cs y hy,rfl⟩
theorem qks {m m':af} (h:pL m m'):∀ (k:Nat) (x:AV) r,bH m k x=some r->bH m' k x=some r:=by
 intro k
 induction k with
 | zero=>intro x r hr;simp[bH] at hr
 | succ k ih=>
  intro x r hr;have hm:=NZ ih
  cases x<;>simp only[bH] at hr ⊢<;>try exact hr
  ·simp only[bc] at hr ⊢;obtain ⟨o,ho,hr⟩:=hr;refine ⟨o,h.1 _ _ ho,?_⟩
   split at hr
   ·rename_i hc;rw[an hc];simp only[bc] at hr ⊢;obtain ⟨y,hy,hr⟩:=hr;exact ⟨y,hm _ _ hy,hr⟩
   ·cases hr
  ·simp only[bc] at hr ⊢;obtain ⟨o,ho,hr⟩:=hr;refine ⟨o,h.1 _ _ ho,?_⟩
   split at hr
   ·rename_i hc;rw[an hc];simp only[gG] at hr ⊢;obtain ⟨y,hy,hr⟩:=hr;exact ⟨y,hm _ _ hy,hr⟩
   ·cases hr
  all_goals
   simp only[gG] at hr ⊢;obtain ⟨y,hy,hr⟩:=hr;exact ⟨y,hm _ _ hy,hr⟩
theorem LA (x:Option AV) (m:af):(x.bind fun v=>some (v,m))=((x.bind fun v=>some (v,([]:af))).map fun r=>(r.1,m)):=by cases x<;>rfl
theorem Xp {d:Option Nat} {o:Oper} {ρ:Operand->AV} (hc:iZ o=.N) (m:af):fN C fid callP callI d o ρ m=(fN C fid callP callI d o ρ []).map fun r=>(r.1,m):=by
 unfold fN kB;unfold iZ at hc
 cases bw:o.op<;>simp only[bw] at hc ⊢<;>first
  | (cases hc;done)
  | rfl
  | exact LA _ _
  | ((repeat' split)<;>first | rfl | exact LA _ _ | skip)
 ·rename_i c _ f pW;rw[pW] at hc;cases hc
 ·rename_i c _ b pW;rw[pW] at hc;unfold xX
  (repeat' split)<;>first | rfl | exact LA _ _ | skip
  all_goals (simp at hc)
theorem Bp {d:Option Nat} {o:Oper} {ρ:Operand->AV} {m m1:af} {v:AV} (hc:iZ o=.N) (h:fN C fid callP callI d o ρ m=some (v,m1)):m1=m/\∀ m',fN C fid callP callI d o ρ m'=some (v,m'):=by
 rw[Xp hc] at h;obtain ⟨r,hr,h⟩:=gG.1 h;simp only[fe] at h;obtain ⟨rfl,rfl⟩:=h;exact ⟨rfl,fun m'=>by rw[Xp hc,hr];rfl⟩
theorem qmR {m m':af} (hx:∀ nm kk es,m.get nm=some (.mp kk es)->m'.get nm=some (.mp kk es)) {kk:KK} {x:AV} {q:Nat×List (AV×AV)} (h:mc m kk x=some q):mc m' kk x=some q:=by
 unfold mc at h ⊢
 split at h
 ·split at h
  ·rename_i hg;rw[hx _ _ _ hg];exact h
  ·cases h
 ·cases h
theorem Xs {s:Option Nat} {o:Oper} {ρ:Operand->AV} {m m1:af} {v:AV} {t:Nat} {x i:Operand} {ok:Bool} (bw:o.op=.lookup t x i ok) (h:fN C fid callP callI s o ρ m=some (v,m1)) :
  m1=m/\∀ s' m',(∀ nm kk es,m.get nm=some (.mp kk es)->m'.get nm=some (.mp kk es))->fN C fid callP callI s' o ρ m'=some (v,m'):=by
 unfold fN kB at h ⊢;simp only[bw] at h ⊢
 split at h
 ·rename_i kk e qz
  split at h
  ·rename_i z hz;simp only[bc] at h;obtain ⟨r,hr,h⟩:=h;unfold oX at hr;simp only[bc] at hr;obtain ⟨q,hq,hr⟩:=hr
   have hm:m1=m:=by
    split at h<;>(simp only[bG,fe] at h;exact h.2.symm)
   refine ⟨hm,fun s' m' hx=>?_⟩;unfold oX;rw[qmR hx hq];simp only[aa,hr];split at h<;>(simp only[bG,fe] at h;rw[h.1])
  ·cases h
 ·cases h
theorem Ot {s:Nat} {o:Oper} {ρ:Operand->AV} {m m1:af} {v:AV} (hc:iZ o=.L) (h:fN C fid callP callI (some s) o ρ m=some (v,m1)):m1=m/\∀ s' m',pL m m'->fN C fid callP callI (some s') o ρ m'=some (v,m'):=by
 unfold fN kB at h ⊢;unfold iZ at hc
 cases bw:o.op<;>simp only[bw] at hc h ⊢<;>first | (cases hc;done) | skip
 case load t x=>
  split at h
  ·rename_i sh hsh;simp only[bc,bG,fe] at h;obtain ⟨u,hu,rfl,rfl⟩:=h;refine ⟨rfl,fun s' m' hx=>?_⟩
   have:ai sh m' (ρ x)=some u:=by
    unfold ai at hu ⊢
    split at hu
    ·exact hu
    ·simp only[bc] at hu ⊢;obtain ⟨o,ho,hu⟩:=hu;exact ⟨o,hx.1 _ _ ho,hu⟩
    ·cases hu
   simp[this]
  ·cases h
 case lookup t x i ok=>
  have h':fN C fid callP callI (some s) o ρ m=some (v,m1):=by unfold fN kB;simp only[bw];exact h
  obtain ⟨h1,h2⟩:=Xs bw h';refine ⟨h1,fun s' m' hx=>?_⟩;have:=h2 (some s') m' hx.2;unfold fN kB at this;simpa only[bw] using this
 case call c=>
  split at hc<;>first | (cases hc;done) | skip
  rename_i f oQ;simp only[oQ] at h ⊢;simp only[bc] at h ⊢;obtain ⟨gc,AQ,h⟩:=h
  have key:m1=m/\∀ s' m',pL m m'->jU C fid callP callI (some s') gc.1 (List.map ρ c.args.toList++gc.2) m' (fun v m=>some (v,m))=some (v,m'):=by
   unfold jU at h ⊢
   cases rz:C.libm gc.1 with
   | some hh=>rw[rz] at h;cases h
   | none=>
   rw[rz] at h;simp only at h ⊢
   split at h
   ·rename_i hh H2;simp only[bc,bG,fe] at h;obtain ⟨u,hu,rfl,rfl⟩:=h;exact ⟨rfl,fun s' m' hx=>by simp[H2,hu]⟩
   ·rename_i H2
    split at h
    ·simp at h
    ·rename_i qpO;simp only[bc] at h;obtain ⟨⟨u,mu⟩,hp,h⟩:=h;simp only[bG,fe] at h;obtain ⟨rfl,rfl⟩:=h;unfold aD at hp;simp only[bc] at hp;obtain ⟨⟨rs,l⟩,hf,hp⟩:=hp
     split at hp
     ·cases hp
     ·rename_i hk;simp only[gG,fe] at hp;obtain ⟨u',hu,rfl,rfl⟩:=hp;have hl:l=[]:=by simpa using hk
      subst hl;refine ⟨rfl,fun s' m' hx=>?_⟩;have:=NZ (qks hx km) _ _ hf
      have H9:aD callP (some s') m' gc.1 (List.map ρ c.args.toList++gc.2)=some (u',m'):=by
       unfold aD;simp only[this,aa,List.isEmpty_nil,jN,Bool.and_false,jM,lL,hu]
       rfl
      rw[H9]
      rfl
  exact ⟨key.1,fun s' m' hx=>⟨gc,AQ,key.2 s' m' hx⟩⟩
theorem vz (s:Nat) (m:af) (e:Ent):aA (some s) m e=(s,m.set s (some e)):=rfl
theorem IM {s:Nat} {o:Oper} {ρ:Operand->AV} {m m1:af} {v:AV} (hc:iZ o=.A) (h:fN C fid callP callI (some s) o ρ m=some (v,m1)):∃ e,m1=m.set s (some e)/\∀ m',fN C fid callP callI (some s) o ρ m'=some (v,m'.set s (some e)):=by
 unfold fN kB at h ⊢;unfold iZ at hc
 cases bw:o.op<;>simp only[bw] at hc h ⊢<;>first | (cases hc;done) | skip
 case alloc t=>
  split at h
  ·rename_i z hz;simp only[vz,bG,fe] at h;obtain ⟨rfl,rfl⟩:=h;exact ⟨_,rfl,fun m'=>rfl⟩
  ·cases h
 case box t x=>
  split at h
  ·rename_i sh hsh;simp only[bc] at h;obtain ⟨r,hr,h⟩:=h;unfold eR at hr ⊢
   split at hr
   ·rename_i be;simp only[vz,bG] at hr;subst hr;simp only[bG,fe] at h;obtain ⟨rfl,rfl⟩:=h;exact ⟨_,rfl,fun m'=>by simp[be,vz]⟩
   ·cases hr
  ·cases h
 case makeSlice t l c=>
  split at h
  ·rename_i e he
   split at h
   ·rename_i sh z hsh hz
    split at h
    ·rename_i lC;simp only[bc] at h;obtain ⟨r,hr,h⟩:=h;simp only[bG,fe] at h;obtain ⟨rfl,rfl⟩:=h
     cases jZ:C.tokm fid with
     | true=>rw[jZ] at hr;simp[yY] at hr
     | false=>
     rw[jZ] at hr;simp only at hr;unfold iV at hr
     split at hr
     ·rename_i kl l' kc c' hl tG
      split at hr
      ·rename_i mE
       split at hr
       ·rename_i heq;simp only[vz,bG] at hr;subst hr;exact ⟨_,rfl,fun m'=>by rw[an lC];simp only[iV,hl,tG,an mE,an heq,vz,aa]⟩
       ·rename_i hne
        split at hr
        ·rename_i h0;simp only[vz,bG] at hr;subst hr;exact ⟨_,rfl,fun m'=>by rw[an lC];simp only[iV,hl,tG,an mE,aj hne,an h0,vz,aa]⟩
        ·cases hr
      ·cases hr
     ·cases hr
    ·cases h
   ·cases h
  ·cases h
 case call c=>
  split at hc<;>cases hc
theorem L5 {m:af} {s:Nat} {e:Option Ent} (h:∀ bx cs,m.get s≠some (.obj bx cs)) (h':∀ kk es,m.get s≠some (.mp kk es)):pL m (m.set s e):=by
 refine ⟨?_,fun nm kk es hg=>by
  rw[gC,aj (fun he:nm=s=>by subst he;exact h' kk es hg)];exact hg⟩
 intro nm o ho;unfold af.obj? at ho ⊢;rw[gC]
 by_cases hs:nm=s
 ·subst hs
  split at ho
  ·rename_i hh;exact absurd hh (h _ _)
  ·cases ho
 ·rw[aj hs];exact ho
theorem qne {s:Nat} {o:Oper} {ρ:Operand->AV} {m m1:af} {v:AV} (hc:iZ o=.Ap) (hs:m.get s=some .resv) (h:fN C fid callP callI (some s) o ρ m=some (v,m1)):pL m m1:=by
 have tR:∀ e,pL m (m.set s e):=fun e=>L5 (fun bx cs hh=>by rw[hs] at hh;cases hh) (fun kk es hh=>by rw[hs] at hh;cases hh);unfold fN kB at h;unfold iZ at hc
 cases bw:o.op<;>simp only[bw] at hc h<;>first | (cases hc;done) | skip
 case call c=>
  split at hc<;>first | (cases hc;done) | skip
  rename_i oQ;simp only[oQ] at h;unfold xX at h;split at h
  all_goals first | (rename_i hb _;cases hb;done) | skip
  ·split at h
   ·split at h
    ·split at h
     ·split at h
      ·split at h
       ·simp only[bc,bG,fe] at h;obtain ⟨r,hr,rfl,rfl⟩:=h;unfold cg at hr
        split at hr
        ·split at hr
         ·simp only[bG] at hr;subst hr;exact pL.refl m
         ·split at hr
          ·split at hr
           ·split at hr
            ·cases hr
            ·split at hr
             ·split at hr<;>(simp only[vz,bG] at hr;subst hr;exact tR _)
             ·cases hr
            ·split at hr
             ·split at hr
              ·rename_i nm e' k sz aU
               split at hr
               ·simp only[bG] at hr;subst hr;exact L5 (fun bx cs hh=>by rw[aU] at hh;cases hh) (fun kk es hh=>by rw[aU] at hh;cases hh)
               ·cases hr
              ·cases hr
             ·cases hr
           ·cases hr
          ·cases hr
        ·simp[uJ] at hr
       ·cases h
      ·cases h
     ·cases h
    ·cases h
   ·cases h
  ·cases h
end
end Go.Ab
namespace Go.Ab
section
variable {R:Type} (C:Cfg) (fid:Nat) (callP:Nat->List AV->Option AV) (callI:Nat->List AV->af->OM)
def gQ (base:Option Nat) (ops:Array Oper) (i:Nat) (o:Oper) (ts:List AV) (m:af):OM:=match o.guard with
 | none=>fN C fid callP callI (base.map (· + fG ops i)) o (ev ts) m
 | some (j,want)=>match (ops[j]?).bind (·.dst) with
  | none=>none
  | some g=>match xg ops ts j with
   | true=>match ts.getD g .any with
    | .tup cs=>match cs with
     | []=>some (.tup [],m)
     | _::_=>none
    | _=>none
   | false=>match ts.getD g .any with
    | .bool b=>if b=want then fN C fid callP callI (base.map (· + fG ops i)) o (ev ts) m else some (.tup [],m)
    | _=>none
def fF (base:Option Nat) (ops:Array Oper) (i:Nat) (st:St):Option St:=match ops[i]? with
 | none=>none
 | some o=>(gQ C fid callP callI base ops i o st.tmps st.mem).map fun r=>⟨fZ st.tmps o.dst r.1,r.2⟩
def gW (base:Option Nat) (ops:Array Oper):List Nat->St->Option St
 | [],st=>some st
 | i::l,st=>(fF C fid callP callI base ops i st).bind (gW base ops l)
end
section
variable {R:Type} {C:Cfg} {fid:Nat} {callP:Nat->List AV->Option AV} {callI:Nat->List AV->af->OM}
theorem qos {ts:List AV} {g:Nat} {v:AV} (h:ts.getD g .any=v) (hv:v≠.any):ts.set g v=ts:=by
 rcases qV g ts.length with hl | hl
 ·rw[aT,bA hl] at h;simp only[fg] at h;rw[<- h];exact List.set_getElem_self hl
 ·rw[aT,mQ hl] at h;exact absurd h.symm hv
theorem sY (base:Option Nat) (ops:Array Oper):∀ (l:List Nat) (st:St) (K:St->Option R),mh C fid callP callI base ops l st K=(gW C fid callP callI base ops l st).bind K
 | [],st,K=>rfl
 | i::l,st,K=>by
  have ih:=sY base ops l;simp only[mh,gW,fF]
  cases hi:ops[i]? with
  | none=>rfl
  | some o=>
   simp only[]
   cases hg:o.guard with
   | none=>
    simp only[gQ,hg];rw[Xt];simp only[ih]
    cases fN C fid callP callI (base.map (· + fG ops i)) o (ev st.tmps) st.mem with
    | none=>rfl
    | some r=>rfl
   | some jw=>
    obtain ⟨j,want⟩:=jw;simp only[gQ,hg]
    cases hd:(ops[j]?).bind (·.dst) with
    | none=>rfl
    | some g=>
     simp only[];generalize hv:st.tmps.getD g .any=v
     cases xg ops st.tmps j with
     | true=>
      simp only[]
      cases v with
      | tup cs=>
       cases cs with
       | nil=>simp only[ih];rfl
       | cons c cs=>rfl
      | _=>rfl
     | false=>
     simp only[]
     cases v with
     | bool b=>
      have hs:=qos hv (by simp)
      have ow:∀ b0,st.tmps.set g (.bool b0)=st.tmps->(kB C fid callP callI (base.map (· + fG ops i)) o (ev (st.tmps.set g (.bool b0))) st.mem fun v m=>mh C fid callP callI base ops l ⟨fZ (st.tmps.set g (.bool b0)) o.dst v,m⟩ K) =
        (((fN C fid callP callI (base.map (· + fG ops i)) o (ev st.tmps) st.mem).map fun r=>(⟨fZ st.tmps o.dst r.1,r.2⟩:St)).bind (gW C fid callP callI base ops l)).bind K:=by
       intro b0 nC;rw[nC,Xt];simp only[ih]
       cases fN C fid callP callI (base.map (· + fG ops i)) o (ev st.tmps) st.mem with
       | none=>rfl
       | some r=>rfl
      have DV:∀ b0,st.tmps.set g (.bool b0)=st.tmps->mh C fid callP callI base ops l ⟨fZ (st.tmps.set g (.bool b0)) o.dst (.tup []),st.mem⟩ K =
        (((some (AV.tup [],st.mem)).map fun r=>(⟨fZ st.tmps o.dst r.1,r.2⟩:St)).bind (gW C fid callP callI base ops l)).bind K:=by
       intro b0 nC;rw[nC];simp only[ih]
       rfl
      cases want<;>cases b
      ·exact ow false hs
      ·exact DV true hs
      ·exact DV false hs
      ·exact ow true hs
     | _=>cases want<;>rfl
theorem L0 {ts ts':List AV} (x:Operand) (h:∀ t,x=.tmp t->ts.getD t .any=ts'.getD t .any):ev ts x=ev ts' x:=by
 cases x with
 | tmp t=>exact h t rfl
 | _=>rfl
theorem y7 {base:Option Nat} {ops:Array Oper} {i:Nat} {o:Oper} {ts ts':List AV} {m:af} (h:∀ t∈pH ops o,ts.getD t .any=ts'.getD t .any):gQ C fid callP callI base ops i o ts m=gQ C fid callP callI base ops i o ts' m:=by
 have h1:fN C fid callP callI (base.map (· + fG ops i)) o (ev ts) m=fN C fid callP callI (base.map (· + fG ops i)) o (ev ts') m:=by
  refine qnf fun x hx=>L0 x fun t ht=>h t ?_;unfold pH;refine im.2 (.inl (List.mem_filterMap.2 ⟨x,by simpa using hx,?_⟩));rw[ht]
 unfold gQ
 cases hg:o.guard with
 | none=>exact h1
 | some jw=>
  obtain ⟨j,want⟩:=jw;simp only[]
  cases hd:(ops[j]?).bind (·.dst) with
  | none=>rfl
  | some g=>
   simp only[];have h2:ts.getD g .any=ts'.getD g .any:=h g (by unfold pH;rw[hg];simp[hd])
   have h3:xg ops ts j=xg ops ts' j:=by
    unfold xg
    cases hq:(ops[j]?).bind (·.guard) with
    | none=>rfl
    | some jw'=>
     obtain ⟨j',w'⟩:=jw';simp only[]
     cases kI:(ops[j']?).bind (·.dst) with
     | none=>rfl
     | some g'=>
      simp only[];have h4:ts.getD g' .any=ts'.getD g' .any:=h g' (by unfold pH;rw[hg];simp[hq,kI]);rw[h4]
   rw[h2,h1,h3]
theorem vG {ts:List AV} {d:Option Nat} {v:AV} {t:Nat} (h:d≠some t):(fZ ts d v).getD t .any=ts.getD t .any:=by
 cases d with
 | none=>rfl
 | some d=>
  have:d≠t:=fun he=>h (by rw[he]);simp[fZ,aT,List.getElem?_set,this]
theorem OV {ts:List AV} {d e:Option Nat} {v u:AV} (h:d=none\/d≠e):fZ (fZ ts d v) e u=fZ (fZ ts e u) d v:=by
 cases d with
 | none=>rfl
 | some d=>
  cases e with
  | none=>rfl
  | some e=>
   have:d≠e:=fun he=>by rcases h with h | h<;>simp_all
   exact List.set_comm _ _ this
theorem oE {base:Option Nat} {ops:Array Oper} {i:Nat} {o:Oper} {ts:List AV} {m m1:af} {v:AV} (h:gQ C fid callP callI base ops i o ts m=some (v,m1)) :
  (fN C fid callP callI (base.map (· + fG ops i)) o (ev ts) m=some (v,m1)/\∀ m',gQ C fid callP callI base ops i o ts m'=fN C fid callP callI (base.map (· + fG ops i)) o (ev ts) m') \/
  (m1=m/\∀ m',gQ C fid callP callI base ops i o ts m'=some (v,m')):=by
 unfold gQ at h ⊢
 cases hg:o.guard with
 | none=>simp only[hg] at h;exact .inl ⟨h,fun _=>rfl⟩
 | some jw=>
  obtain ⟨j,want⟩:=jw;simp only[hg] at h ⊢
  cases hd:(ops[j]?).bind (·.dst) with
  | none=>simp[hd] at h
  | some g=>
   simp only[hd] at h ⊢
   cases DU:xg ops ts j with
   | true=>
    simp only[DU] at h ⊢
    cases hv:ts.getD g .any with
    | tup cs=>
     simp only[hv] at h ⊢
     cases cs with
     | nil=>
      simp only[bG,fe] at h;obtain ⟨rfl,rfl⟩:=h;exact .inr ⟨rfl,fun m'=>rfl⟩
     | cons c cs=>simp only at h;cases h
    | _=>simp only[hv] at h;cases h
   | false=>
   simp only[DU] at h ⊢
   cases hv:ts.getD g .any with
   | bool b=>
    simp only[hv] at h ⊢
    by_cases hb:b=want
    ·rw[an hb] at h;exact .inl ⟨h,fun _=>by rw[an hb]⟩
    ·rw[aj hb] at h;simp only[bG,fe] at h;obtain ⟨rfl,rfl⟩:=h;exact .inr ⟨rfl,fun m'=>by rw[aj hb]⟩
   | _=>simp only[hv] at h;cases h
theorem qnh {s:Nat} {o:Oper} {ρ:Operand->AV} {m m1:af} {v:AV} (h:fN C fid callP callI (some s) o ρ m=some (v,m1)) (x:Nat) (hx:m.get x=some .resv):(x=s/\nh o=true)\/m1.get x=some .resv:=by
 have tS:∀ e,nh o=true->(x=s/\nh o=true)\/af.get (m.set s e) x=some .resv:=fun e lZ=>by
  by_cases D2:x=s
  ·exact .inl ⟨D2,lZ⟩
  ·exact .inr (by rw[gC,aj D2];exact hx)
 cases hc:iZ o with
 | N=>obtain ⟨rfl,_⟩:=Bp hc h;exact .inr hx
 | L=>obtain ⟨rfl,_⟩:=Ot hc h;exact .inr hx
 | A=>
  obtain ⟨e,rfl,_⟩:=IM hc h;refine tS _ ?_;unfold iZ at hc;unfold nh
  cases bw:o.op<;>simp only[bw] at hc<;>first | rfl | (cases hc;done) | (split at hc<;>cases hc)
 | Ap=>
  have lZ:nh o=true:=by
   unfold iZ at hc;unfold nh
   cases bw:o.op<;>simp only[bw] at hc<;>first | (cases hc;done) | skip
   split at hc<;>first | (cases hc;done) | skip
   rename_i oQ;simp[oQ]
  unfold fN kB at h;unfold iZ at hc
  cases bw:o.op<;>simp only[bw] at hc h<;>first | (cases hc;done) | skip
  case call c=>
   split at hc<;>first | (cases hc;done) | skip
   rename_i oQ;simp only[oQ] at h;unfold xX at h;split at h
   all_goals first | (rename_i hb _;cases hb;done) | skip
   ·split at h
    ·split at h
     ·split at h
      ·split at h
       ·split at h
        ·simp only[bc,bG,fe] at h;obtain ⟨r,hr,rfl,rfl⟩:=h;unfold cg at hr
         split at hr
         ·split at hr
          ·simp only[bG] at hr;subst hr;exact .inr hx
          ·split at hr
           ·split at hr
            ·split at hr
             ·cases hr
             ·split at hr
              ·split at hr<;>(simp only[vz,bG] at hr;subst hr;exact tS _ lZ)
              ·cases hr
             ·split at hr
              ·split at hr
               ·rename_i nm e' k sz aU
                split at hr
                ·simp only[bG] at hr;subst hr;refine .inr ?_;simp only[];rw[gC,aj (fun he=>by subst he;rw[aU] at hx;cases hx)];exact hx
                ·cases hr
               ·cases hr
              ·cases hr
            ·cases hr
           ·cases hr
         ·simp[uJ] at hr
        ·cases h
       ·cases h
      ·cases h
     ·cases h
    ·cases h
   ·cases h
 | W=>
  unfold fN kB at h;unfold iZ at hc
  cases bw:o.op<;>simp only[bw] at hc h<;>first | (cases hc;done) | (cases h;done) | skip
  case store t y z=>
   split at h
   ·rename_i sh hsh;simp only[bc,bG,fe] at h;obtain ⟨m2,fO,rfl,rfl⟩:=h;unfold aN at fO
    split at fO
    ·rename_i nm off _;simp only[bc] at fO;obtain ⟨ob,yJ,fO⟩:=fO
     split at fO
     ·split at fO
      ·simp only[bG] at fO;subst fO;refine .inr ?_
       rw[gC,aj (fun he=>by
        subst he;unfold af.obj? at yJ;rw[hx] at yJ
        cases yJ)]
       exact hx
      ·cases fO
     ·cases fO
    ·cases fO
   ·cases h
  case mapUpdate t y i z=>
   split at h
   ·rename_i kk e _;simp only[bc,bG,fe] at h;obtain ⟨m2,hu,rfl,rfl⟩:=h;simp only[kO,bc] at hu;obtain ⟨⟨nm,es⟩,kS,hu⟩:=hu;simp only at hu
    split at hu
    ·simp only[bG] at hu;subst hu;refine .inr ?_
     rw[gC,aj (fun he=>by
      subst he;unfold mc at kS
      split at kS
      ·split at kS
       ·rename_i hg
        split at kS
        ·simp only[bG,fe] at kS;obtain ⟨rfl,rfl⟩:=kS;rw[hx] at hg;cases hg
        ·cases kS
       ·cases kS
      ·cases kS)]
     exact hx
    ·cases hu
   ·cases h
  case insert t y i z=>
   split at h
   ·rename_i kk e _;simp only[bc,bG,fe] at h;obtain ⟨m2,hu,rfl,rfl⟩:=h;simp only[kO,bc] at hu;obtain ⟨⟨nm,es⟩,kS,hu⟩:=hu;simp only at hu
    split at hu
    ·simp only[bG] at hu;subst hu;refine .inr ?_
     rw[gC,aj (fun he=>by
      subst he;unfold mc at kS
      split at kS
      ·split at kS
       ·rename_i hg
        split at kS
        ·simp only[bG,fe] at kS;obtain ⟨rfl,rfl⟩:=kS;rw[hx] at hg;cases hg
        ·cases kS
       ·cases kS
      ·cases kS)]
     exact hx
    ·cases hu
   ·cases h
  case defer c=>
   split at h
   ·split at h
    ·simp only[bc] at h;obtain ⟨gc,_,h⟩:=h
     split at h
     ·simp only[bG,fe] at h;rw[<- h.2];exact .inr hx
     ·cases h
    ·cases h
   ·cases h
  case call c=>
   split at hc<;>first | (cases hc;done) | skip
   rename_i qlq H6 qlr qls qlt
   split at h
   ·rename_i f oQ;exact absurd oQ (qlt f)
   ·rename_i b oQ;unfold xX at h
    split at h
    ·exact absurd oQ qlq
    ·exact absurd oQ H6
    ·exact absurd oQ qlr
    ·exact absurd oQ qls
    ·cases h
   ·cases h
theorem X9 {ops:Array Oper} {i j:Nat} {x y:Oper} (hi:ops[i]?=some x) (hj:ops[j]?=some y) (hmi:nh x=true) (M7:nh y=true) (hne:i≠j):fG ops i≠fG ops j:=by
 have key:∀ i j x,i < j->ops[i]?=some x->nh x=true->fG ops i < fG ops j:=by
  intro i j x hlt hi hm
  have cq:i < ops.toList.length:=by
   have:=(fE.1 hi).1;simpa using this
  have h1:fG ops (i+1)=fG ops i+1:=by
   unfold fG
   have he:ops.toList[i]=x:=by
    have:=(fE.1 hi).2;simpa using this
   rw[n6 cq,List.filter_append,aI,he];simp[hm]
  have h2:fG ops (i+1)<=fG ops j:=by
   unfold fG;have:ops.toList.take (i+1)=(ops.toList.take j).take (i+1):=by rw[List.take_take];congr 1;omega
   rw[this];exact List.Sublist.length_le ((List.take_sublist _ _).filter _)
  omega
 rcases Nat.lt_or_gt_of_ne hne with h | h
 ·exact Nat.ne_of_lt (key i j x h hi hmi)
 ·exact Nat.ne_of_gt (key j i y h hj M7)
def ur (ops:Array Oper) (b:Nat) (m:af) (l:List Nat):Prop:=∀ i∈l,∀ o,ops[i]?=some o->nh o=true->m.get (b+fG ops i)=some .resv
theorem s9 {base:Option Nat} {ops:Array Oper} {i:Nat} {st s1:St} (h:fF C fid callP callI base ops i st=some s1):∃ o v m1,ops[i]?=some o/\gQ C fid callP callI base ops i o st.tmps st.mem=some (v,m1)/\s1=⟨fZ st.tmps o.dst v,m1⟩:=by
 unfold fF at h
 cases hi:ops[i]? with
 | none=>simp[hi] at h
 | some o=>
  simp only[hi] at h;obtain ⟨⟨v,m1⟩,hr,rfl⟩:=gG.1 h;exact ⟨o,v,m1,rfl,hr,rfl⟩
theorem Je {b:Nat} {ops:Array Oper} {j:Nat} {st s1:St} {l:List Nat} (h:fF C fid callP callI (some b) ops j st=some s1) (hk:ur ops b st.mem l) (hj:j∉l):ur ops b s1.mem l:=by
 obtain ⟨o,v,m1,ho,hr,rfl⟩:=s9 h;intro i hi x hx hm;have tR:=hk i hi x hx hm
 rcases oE hr with ⟨hf,_⟩ | ⟨rfl,_⟩
 ·rcases qnh (s:=b+fG ops j) hf _ tR with ⟨he,oT⟩ | h
  ·exact absurd (by omega:fG ops i=fG ops j) (X9 hx ho hm oT (fun he=>hj (he▸hi)))
  ·exact h
 ·exact tR
theorem Hh {ops:Array Oper} {x y:Oper} (h:wb ops x y=true):(∀ d,x.dst=some d->d∉pH ops y)/\(∀ d,y.dst=some d->d∉pH ops x)/\(x.dst=none\/x.dst≠y.dst):=by
 unfold wb at h;simp only[bT] at h
 refine ⟨fun d hd=>?_,fun d hd=>?_,?_⟩
 ·rw[hd] at h;simp at h;exact h.1.1
 ·rw[hd] at h;simp at h;exact h.2
 ·cases hx:x.dst with
  | none=>exact .inl rfl
  | some d=>
   rw[hx] at h;simp at h;exact .inr fun he=>h.1.2 he.symm
theorem NU {x y:Oper} (h:iZ x≠.L):Ea x y=false:=by
 unfold Ea
 split
 ·rename_i bw;exact absurd (by unfold iZ;simp only[bw]) h
 ·rfl
theorem qni {s:Option Nat} {o:Oper} {ρ:Operand->AV} {m m1:af} {v:AV} {t:Nat} {x y:Operand} (bw:o.op=.store t x y) (h:fN C fid callP callI s o ρ m=some (v,m1)) :
  ∀ nm kk es,m.get nm=some (.mp kk es)->m1.get nm=some (.mp kk es):=by
 unfold fN kB at h;simp only[bw] at h
 split at h
 ·simp only[bc,bG,fe] at h;obtain ⟨m2,fO,rfl,rfl⟩:=h;unfold aN at fO
  split at fO
  ·rename_i nm0 off _;simp only[bc] at fO;obtain ⟨ob,yJ,fO⟩:=fO
   split at fO
   ·split at fO
    ·simp only[bG] at fO;subst fO;intro nm kk es hg
     rw[gC,aj (fun he=>by
      subst he;unfold af.obj? at yJ;rw[hg] at yJ
      cases yJ)]
     exact hg
    ·cases fO
   ·cases fO
  ·cases fO
 ·cases h
theorem swap {b:Nat} {ops:Array Oper} {i j:Nat} {st s1 s2:St} {x y:Oper} (hx:ops[i]?=some x) (hy:ops[j]?=some y) (hne:i≠j) (be:xi ops x y=true) (hk:ur ops b st.mem [i,j])
  (h1:fF C fid callP callI (some b) ops i st=some s1) (h2:fF C fid callP callI (some b) ops j s1=some s2):∃ s1',fF C fid callP callI (some b) ops j st=some s1'/\fF C fid callP callI (some b) ops i s1'=some s2:=by
 obtain ⟨x',vi,mi,ic,ov,rfl⟩:=s9 h1;obtain rfl:x=x':=by simpa [hx] using ic
 obtain ⟨y',vj,mj,yQ,kn,rfl⟩:=s9 h2;obtain rfl:y=y':=by simpa [hy] using yQ
 unfold xi at be;simp only[bT] at be;obtain ⟨tH,uU⟩:=be;obtain ⟨a1,a2,a3⟩:=Hh uU;simp only at kn;have cj:∀ m,gQ C fid callP callI (some b) ops j y (fZ st.tmps x.dst vi) m=gQ C fid callP callI (some b) ops j y st.tmps m:=fun m=>y7 fun t ht=>vG fun hd=>a1 t hd ht;have ci:∀ v m,gQ C fid callP callI (some b) ops i x (fZ st.tmps y.dst v) m=gQ C fid callP callI (some b) ops i x st.tmps m:=fun v m=>y7 fun t ht=>vG fun hd=>a2 t hd ht;rw[cj] at kn
 have enough:∀ m1,gQ C fid callP callI (some b) ops j y st.tmps st.mem=some (vj,m1)->gQ C fid callP callI (some b) ops i x st.tmps m1=some (vi,mj) ->
   ∃ s1',fF C fid callP callI (some b) ops j st=some s1'/\fF C fid callP callI (some b) ops i s1'=some ⟨fZ (fZ st.tmps x.dst vi) y.dst vj,mj⟩:=by
  intro m1 e1 e2;refine ⟨⟨fZ st.tmps y.dst vj,m1⟩,by simp[fF,hy,e1],?_⟩;simp only[fF,hx,ci,e2,aQ];rw[OV a3]
 have nI:iZ x=.N->mi=st.mem/\∀ m',gQ C fid callP callI (some b) ops i x st.tmps m'=some (vi,m'):=fun hc=>by
  rcases oE ov with ⟨hf,hall⟩ | ⟨rfl,hall⟩
  ·obtain ⟨rfl,h⟩:=Bp hc hf;exact ⟨rfl,fun m'=>(hall m').trans (h m')⟩
  ·exact ⟨rfl,hall⟩
 have nJ:iZ y=.N->mj=mi/\∀ m',gQ C fid callP callI (some b) ops j y st.tmps m'=some (vj,m'):=fun hc=>by
  rcases oE kn with ⟨hf,hall⟩ | ⟨rfl,hall⟩
  ·obtain ⟨rfl,h⟩:=Bp hc hf;exact ⟨rfl,fun m'=>(hall m').trans (h m')⟩
  ·exact ⟨rfl,hall⟩
 have lI:iZ x=.L->mi=st.mem/\∀ m',pL st.mem m'->gQ C fid callP callI (some b) ops i x st.tmps m'=some (vi,m'):=fun hc=>by
  rcases oE ov with ⟨hf,hall⟩ | ⟨rfl,hall⟩
  ·obtain ⟨rfl,h⟩:=Ot (s:=b+fG ops i) hc hf;exact ⟨rfl,fun m' hm=>(hall m').trans (h _ m' hm)⟩
  ·exact ⟨rfl,fun m' _=>hall m'⟩
 have kj:∀ o,ops[j]?=some o->nh o=true->st.mem.get (b+fG ops j)=some .resv:=hk j (by simp)
 have aMk:∀ o:Oper,iZ o=.A\/iZ o=.Ap->nh o=true:=by
  intro o hc;unfold iZ at hc;unfold nh
  cases bw:o.op<;>simp only[bw] at hc<;>first | rfl | (rcases hc with hc | hc<;>cases hc;done) | skip
  split at hc<;>first | (rcases hc with hc | hc<;>cases hc;done) | skip
  rename_i oQ;simp[oQ]
 cases mU:iZ x with
 | N=>
  obtain ⟨rfl,hall⟩:=nI mU;exact enough mj kn (hall mj)
 | L=>
  obtain ⟨rfl,hall⟩:=lI mU
  cases jX:iZ y with
  | N=>
   obtain ⟨rfl,_⟩:=nJ jX;exact enough _ kn (hall _ (pL.refl _))
  | L=>
   have:mj=st.mem:=by
    rcases oE kn with ⟨hf,_⟩ | ⟨rfl,_⟩
    ·exact (Ot (s:=b+fG ops j) jX hf).1
    ·rfl
   subst this;exact enough _ kn (hall _ (pL.refl _))
  | A=>
   refine enough mj kn (hall mj ?_)
   rcases oE kn with ⟨hf,_⟩ | ⟨rfl,_⟩
   ·obtain ⟨e,rfl,_⟩:=IM (s:=b+fG ops j) jX hf;exact L5 (fun bx cs hh=>by rw[kj y hy (aMk y (.inl jX))] at hh;cases hh) (fun kk es hh=>by rw[kj y hy (aMk y (.inl jX))] at hh;cases hh)
   ·exact pL.refl _
  | Ap=>
   refine enough mj kn (hall mj ?_)
   rcases oE kn with ⟨hf,_⟩ | ⟨rfl,_⟩
   ·exact qne (s:=b+fG ops j) jX (kj y hy (aMk y (.inr jX))) hf
   ·exact pL.refl _
  | W=>
   have DH:Ea x y=true:=by rw[mU,jX] at tH;simpa [Da] using tH
   unfold Ea at DH
   split at DH
   ·rename_i tx xx ix okx qlA
    split at DH
    ·rename_i ty yy zy qlB
     have qlc:∀ nm kk es,st.mem.get nm=some (.mp kk es)->mj.get nm=some (.mp kk es):=by
      rcases oE kn with ⟨hf,_⟩ | ⟨rfl,_⟩
      ·exact qni qlB hf
      ·exact fun _ _ _ h=>h
     refine enough mj kn ?_
     rcases oE ov with ⟨hf,Du⟩ | ⟨_,Du⟩
     ·exact (Du mj).trans ((Xs qlA hf).2 _ mj qlc)
     ·exact Du mj
    ·cases DH
   ·cases DH
 | A=>
  cases jX:iZ y with
  | N=>
   obtain ⟨rfl,hall⟩:=nJ jX;exact enough _ (hall _) ov
  | A=>
   have fj:∃ f:af->af,(∀ m',gQ C fid callP callI (some b) ops j y st.tmps m'=some (vj,f m'))/\((∀ m',f m'=m')\/∃ e,∀ m',f m'=m'.set (b+fG ops j) (some e)):=by
    rcases oE kn with ⟨hf,hall⟩ | ⟨rfl,hall⟩
    ·obtain ⟨e,_,h⟩:=IM (s:=b+fG ops j) jX hf;exact ⟨fun m'=>m'.set (b+fG ops j) (some e),fun m'=>(hall m').trans (h m'),.inr ⟨e,fun _=>rfl⟩⟩
    ·exact ⟨id,hall,.inl fun _=>rfl⟩
   have fi:∃ f:af->af,(∀ m',gQ C fid callP callI (some b) ops i x st.tmps m'=some (vi,f m'))/\((∀ m',f m'=m')\/∃ e,∀ m',f m'=m'.set (b+fG ops i) (some e)):=by
    rcases oE ov with ⟨hf,hall⟩ | ⟨rfl,hall⟩
    ·obtain ⟨e,_,h⟩:=IM (s:=b+fG ops i) mU hf;exact ⟨fun m'=>m'.set (b+fG ops i) (some e),fun m'=>(hall m').trans (h m'),.inr ⟨e,fun _=>rfl⟩⟩
    ·exact ⟨id,hall,.inl fun _=>rfl⟩
   obtain ⟨f,f1,f2⟩:=fi;obtain ⟨h,h1,h2⟩:=fj;have em:mi=f st.mem:=by have:=f1 st.mem;rw[ov] at this;simpa using this
   have ej:mj=h mi:=by have:=h1 mi;rw[kn] at this;simpa using this
   refine enough _ (h1 _) ?_;rw[f1,ej,em];congr 2;have hr:=X9 hx hy (aMk x (.inl mU)) (aMk y (.inl jX)) hne
   rcases f2 with f2 | ⟨e,f2⟩<;>rcases h2 with h2 | ⟨e',h2⟩<;>simp only[f2,h2]
   exact (List.set_comm _ _ (by omega)).symm
  | _=>exact absurd tH (by rw[mU,jX,NU (by rw[mU];simp)];simp[Da])
 | Ap=>
  cases jX:iZ y with
  | N=>
   obtain ⟨rfl,hall⟩:=nJ jX;exact enough _ (hall _) ov
  | _=>exact absurd tH (by rw[mU,jX,NU (by rw[mU];simp)];simp[Da])
 | W=>
  cases jX:iZ y with
  | N=>
   obtain ⟨rfl,hall⟩:=nJ jX;exact enough _ (hall _) ov
  | _=>exact absurd tH (by rw[mU,jX,NU (by rw[mU];simp)];simp[Da])
theorem first {b:Nat} {ops:Array Oper} {i:Nat} {x:Oper} (hx:ops[i]?=some x):∀ (l:List Nat) (st s':St),l.Nodup->i∈l->ur ops b st.mem l->(∀ (p q:List Nat),l=p++i::q->∀ j∈p,∃ y,ops[j]?=some y/\xi ops y x=true) ->
  gW C fid callP callI (some b) ops l st=some s'->∃ s1,fF C fid callP callI (some b) ops i st=some s1/\gW C fid callP callI (some b) ops (l.erase i) s1=some s'
 | [],_,_,_,hi,_,_,_=>by simp at hi
 | j::l,st,s',hnd,hi,hk,wS,hr=>by
  simp only[gW,bc] at hr;obtain ⟨s1,h1,hr⟩:=hr
  by_cases he:j=i
  ·subst he;exact ⟨s1,h1,by simpa using hr⟩
  ·have cq:i∈l:=by rcases gB.1 hi with h | h<;>first | exact absurd h.symm he | exact h
   have yG:=(uC.1 hnd)
   obtain ⟨s2,h2,tQ⟩:=first hx l s1 s' yG.2 cq (Je h1 (fun k bL=>hk k (by simp[bL])) yG.1) (fun p q fS k tN=>wS (j::p) q (by rw[fS];rfl) k (by simp[tN])) hr
   obtain ⟨p,q,fS⟩:=zY cq;obtain ⟨y,hy,be⟩:=wS (j::p) q (by rw[fS];rfl) j (by simp)
   obtain ⟨s1',k1,k2⟩:=swap hy hx he be (fun k bL=>hk k (by
    simp only[gB,Cy,or_false] at bL
    rcases bL with rfl | rfl
    ·simp
    ·simp[cq])) h1 h2
   refine ⟨s1',k1,?_⟩
   have DB:(j::l).erase i=j::l.erase i:=by
    rw[List.erase_cons,aj (by simpa using he)]
   rw[DB];simp only[gW,k2,aa];exact tQ
theorem SV (ops:Array Oper):∀ n,(np ops n).length=n
 | 0=>rfl
 | n+1=>by simp[np,SV ops n]
theorem CZ (ops:Array Oper) (i:Nat):∀ n,i < n->(np ops n).getD i 0=match ops[i]? with
  | some o=>(o.after.toList.filter (Region.binds .any)).foldl (fun s e=>s ||| (2 ^ e.on ||| (np ops i).getD e.on 0)) 0
  | none=>0
 | 0,h=>by omega
 | n+1,h=>by
  simp only[np,aT,qn,SV]
  by_cases hi:i < n
  ·rw[an hi];have:=CZ ops i n hi;simpa [aT] using this
  ·obtain rfl:i=n:=by omega
   simp[aT];cases ops[i]?<;>rfl
theorem Uf (f:Edge->Nat) (j:Nat):∀ (l:List Edge) (s:Nat),(l.foldl (fun s e=>s ||| (2 ^ e.on ||| f e)) s).testBit j=true->s.testBit j=true\/∃ e∈l,e.on=j\/(f e).testBit j=true
 | [],s,h=>.inl h
 | e::l,s,h=>by
  simp only[ux] at h
  rcases Uf f j l _ h with h | ⟨e',DA,h⟩
  ·simp only[Nat.testBit_or,zF,Nat.testBit_two_pow,nt] at h
   rcases h with h | h | h
   ·exact .inl h
   ·exact .inr ⟨e,by simp,.inl h⟩
   ·exact .inr ⟨e,by simp,.inr h⟩
  ·exact .inr ⟨e',by simp[DA],h⟩
theorem Hg {ops:Array Oper} {D:Nat->Prop} (hD:∀ k o,D k->ops[k]?=some o->∀ e∈o.after.toList,Region.binds .any e=true->D e.on) (hlt:∀ k o,ops[k]?=some o->∀ e∈o.after.toList,Region.binds .any e=true->e.on < k) :
  ∀ (n i:Nat) (o:Oper),i < n->ops[i]?=some o->(∀ e∈o.after.toList,Region.binds .any e=true->D e.on)->∀ j,((np ops n).getD i 0).testBit j=true->D j:=by
 intro n
 induction n with
 | zero=>intro i o h;omega
 | succ n ih=>
  intro i o hi ho he j hj;rw[CZ ops i (n+1) hi,ho] at hj
  rcases Uf _ j _ _ hj with h | ⟨e,hem,hj⟩
  ·simp at h
  ·obtain ⟨h1,h2⟩:=rX.1 hem
   rcases hj with rfl | hj
   ·exact he e h1 h2
   ·have lC:=hlt i o ho e h1 h2
    rcases Nb:ops[e.on]? with _ | oe
    ·rw[CZ ops e.on i lC,Nb] at hj;simp at hj
    ·have h3:(np ops i).getD e.on 0=(np ops n).getD e.on 0:=by
      rw[CZ ops e.on i lC,CZ ops e.on n (by omega)]
     rw[h3] at hj;exact ih e.on oe (by omega) Nb (fun e' DA hb=>hD e.on oe (he e h1 h2) Nb e' DA hb) j hj
theorem Xx {ops:Array Oper} {ah:List Nat}:∀ {l:List Nat},Br ops ah l=true->∀ (p q:List Nat) (i:Nat),l=p++i::q->∀ j∈p,(ah.getD i 0).testBit j=true\/∃ x y,ops[j]?=some x/\ops[i]?=some y/\xi ops x y=true
 | [],_,p,q,i,h,_,_=>by simp at h
 | k::l,hp,p,q,i,h,j,hj=>by
  simp only[Br,bT,fQ] at hp
  match p,h with
  | k'::p,h=>
   simp only[bQ,pj] at h;obtain ⟨rfl,rfl⟩:=h
   rcases gB.1 hj with rfl | hj
   ·have:=hp.1 i (by simp)
    rcases Bool.or_eq_true_iff.1 this with h | h
    ·exact .inl h
    ·refine .inr ?_
     split at h
     ·exact ⟨_,_,by assumption,by assumption,h⟩
     ·cases h
   ·exact Xx hp.2 p q i rfl j hj
end
end Go.Ab
namespace Go.Ab
open Go.RowKit
def L4:Ex->Exit
 | .normal=>.normal
 | .exit id=>.exit id
 | .ret=>.ret
section
variable [WInv] {C:Cfg} {B:Nat} {w:World} {g:G}
structure StR (B:Nat) (w:World) (g:G) (st:St) (a:Act):Prop where
 tmp:pQ w g st.tmps a.tmps
 mem:MemR B w g st.mem
 size:B<=w.heap.size
def rP (C:Cfg) (callI:Nat->List AV->af->OM):Prop:=∀ f args m v m',callI f args m=some (v,m')->te C.P f args m v m'/\∃ fn,C.P.funcs[f]?=some fn/\fn.body.isSome
theorem Jh (hC:CfgOk C) {callI:Nat->List AV->af->OM} (hI:rP C callI) {fid:Nat} {base:Option Nat} {ops:Array Oper} {i:Nat} {st s1:St} {a:Act} (h:fF C fid (jB callI) callI base ops i st=some s1) (hs:StR B w g st a)
  (hk:∀ b,base=some b->ur ops b st.mem [i]) {Q:Exit->Act->World->Prop} {next:Act->World->Prop} (hn:∀ a' w' g',StR B w' g' s1 a'->Step B w g w' g'->iN C.P a' a->next a' w'):wpOp C.P ops Q i next a w:=by
 obtain ⟨o,v,m1,ho,hr,rfl⟩:=s9 h
 have ow:fN C fid (jB callI) callI (base.map (· + fG ops i)) o (ev st.tmps) st.mem=some (v,m1)->o.wp C.P a w next Q:=by
  intro hf
  obtain ⟨v2,m2,hK,bw⟩:=qnk (a:=a) hC hI hf (TW hs.tmp) hs.mem hs.size (fun lZ s hb=>by
   obtain ⟨b,hb1,rfl⟩:=gG.1 hb
   exact hk b hb1 i (by simp) o ho lZ)
  simp only[bG,fe] at hK;obtain ⟨rfl,rfl⟩:=hK
  exact bw next Q fun a1 v' w' g' ht hd s hm hv=>hn _ w' g' ⟨pQ.put (a:=a1) (by rw[ht];exact hs.tmp.step s) hv o.dst,hm,fA hs.size s.below.size⟩ s (iN.trans (iN.of_eq (XW _ _ _)) hd)
 have DV:v=.tup []/\m1=st.mem->next (a.put o.dst undef) w:=by
  rintro ⟨rfl,rfl⟩;exact hn _ w g ⟨hs.tmp.put (.tup [] #[] rfl (fun j hj=>absurd hj (Nat.not_lt_zero j))) o.dst,hs.mem,hs.size⟩ (Step.refl _ _ _) (iN.of_eq (XW _ _ _))
 unfold wpOp;simp only[ho];unfold gQ at hr
 cases hg:o.guard with
 | none=>
  simp only[hg] at hr;have hw:Region.wanted o (yielded ops a.tmps)=true:=by simp[Region.wanted,hg]
  rw[hw,an rfl];exact .inl (ow hr)
 | some jw=>
  obtain ⟨j,want⟩:=jw;simp only[hg] at hr
  cases hd:(ops[j]?).bind (·.dst) with
  | none=>simp[hd] at hr
  | some d=>
   simp only[hd] at hr
   cases DU:xg ops st.tmps j with
   | true=>
    simp only[DU] at hr
    cases hv:st.tmps.getD d .any with
    | tup cs=>
     simp only[hv] at hr
     cases cs with
     | nil=>
      have hV:=hs.tmp.2 d;rw[hv] at hV
      have hy:yielded ops a.tmps j=none:=by
       unfold yielded;rw[hd];simp only[aa];generalize hx:a.tmps.getD d undef=x at hV;cases hV;rw[jq] at hx
       cases hq:a.tmps[d]? with
       | none=>rfl
       | some y=>rw[hq] at hx;simp only[fg] at hx;rw[hx]
      have hw:Region.wanted o (yielded ops a.tmps)=false:=by simp only[Region.wanted,hg,hy];rfl
      rw[hw];simp only[bG,fe] at hr;exact DV ⟨hr.1.symm,hr.2.symm⟩
     | cons c cs=>simp only at hr;cases hr
    | _=>simp only[hv] at hr;cases hr
   | false=>
   simp only[DU] at hr
   cases hv:st.tmps.getD d .any with
   | bool b=>
    simp only[hv] at hr;have hV:=hs.tmp.2 d;rw[hv] at hV
    have hy:yielded ops a.tmps j=some b:=by
     unfold yielded;rw[hd];simp only[aa];generalize hx:a.tmps.getD d undef=x at hV;cases hV
     have:a.tmps[d]?=some (.bool b):=by
      rw[jq] at hx
      cases hq:a.tmps[d]? with
      | none=>rw[hq] at hx;cases hx
      | some y=>rw[hq] at hx;simpa using hx
     rw[this]
    have hw:Region.wanted o (yielded ops a.tmps)=(some b == some want):=by simp only[Region.wanted,hg,hy]
    by_cases hb:b=want
    ·rw[an hb] at hr;have:(some b == some want)=true:=by simpa using hb
     rw[hw,this,an rfl];exact .inl (ow hr)
    ·rw[aj hb] at hr;have:(some b == some want)=false:=by simpa using hb
     rw[hw,this];simp only[bG,fe] at hr;exact DV ⟨hr.1.symm,hr.2.symm⟩
   | _=>simp only[hv] at hr;cases hr
theorem Yr (hC:CfgOk C) {callI:Nat->List AV->af->OM} (hI:rP C callI) {fid:Nat} {ops:Array Oper} {Q:Exit->Act->World->Prop}:∀ (l:List Nat) (st s':St) (a:Act) (w:World) (g:G),gW C fid (jB callI) callI none ops l st=some s'->StR B w g st a ->
  (∀ a' w' g',StR B w' g' s' a'->Step B w g w' g'->iN C.P a' a->Q .normal a' w')->wpOps C.P ops Q l a w
 | [],st,s',a,w,g,h,hs,hn=>by
  simp only[gW,bG] at h;subst h;exact hn a w g hs (Step.refl _ _ _) (iN.refl _ _)
 | i::l,st,s',a,w,g,h,hs,hn=>by
  simp only[gW,bc] at h;obtain ⟨s1,h1,h⟩:=h;rw[wpOps_cons];exact Jh hC hI h1 hs (fun b hb=>by cases hb) fun a' w' g' gy s hd=>Yr hC hI l s1 s' a' w' g' h gy fun a'' w'' g'' sJ s' kI=>hn a'' w'' g'' sJ (s.trans s') (kI.trans hd)
theorem Is:∀ (l:List Nat),l≠[]->∃ mn∈l,∀ x∈l,mn<=x
 | [],h=>absurd rfl h
 | [x],_=>⟨x,by simp,by simp⟩
 | x::y::l,_=>by
  obtain ⟨mn,h1,h2⟩:=Is (y::l) (by simp)
  by_cases hx:x<=mn
  ·exact ⟨x,by simp,fun z hz=>by
    rcases gB.1 hz with rfl | hz
    ·exact aR _
    ·exact fA hx (h2 z hz)⟩
  ·exact ⟨mn,fI _ h1,fun z hz=>by
    rcases gB.1 hz with rfl | hz
    ·omega
    ·exact h2 z hz⟩
theorem qg9 (hC:CfgOk C) {callI:Nat->List AV->af->OM} (hI:rP C callI) {fid b:Nat} {ops:Array Oper} {Q:Exit->Act->World->Prop} {canon:List Nat} (hlt:∀ k o,ops[k]?=some o->∀ e∈o.after.toList,Region.binds .any e=true->e.on < k)
  (AZ:Br ops (uH ops) canon=true) (hnd:canon.Nodup):∀ (l:List Nat) (n:Nat),l.length=n->l.Sublist canon->∀ (listed:Array Bool),listed.size=ops.size->(∀ x,x < ops.size->(listed.getD x true=true↔x∉l))->(∀ x∈l,x < ops.size) ->
  (∀ k o,k < ops.size->k∉l->ops[k]?=some o->∀ e∈o.after.toList,Region.binds .any e=true->e.on∉l) ->
  ∀ (st s':St) (a:Act) (w:World) (g:G),gW C fid (jB callI) callI (some b) ops l st=some s'->ur ops b st.mem l->StR B w g st a ->
  (∀ a' w' g',StR B w' g' s' a'->Step B w g w' g'->iN C.P a' a->Q .normal a' w')->wpAny C.P .any ops Q n listed a w:=by
 intro l n hn
 induction n generalizing l with
 | zero=>
  intro gS listed hsz jl hin rn st s' a w g hr hk hs hq;have vd:l=[]:=nY hn;subst vd;simp only[gW,bG] at hr;subst hr;refine ⟨?_,hq a w g hs (Step.refl _ _ _) (iN.refl _ _)⟩;unfold Region.ready;rw[List.filter_eq_nil_iff];intro x hx;have:listed.getD x true=true:=(jl x (by simpa using hx)).2 (by simp);simp[this]
 | succ n ih=>
  intro gS listed hsz jl hin rn st s' a w g hr hk hs hq
  have DP:∀ i∈Region.ready .any ops listed,i∈l/\i < ops.size/\∃ o,ops[i]?=some o/\∀ e∈o.after.toList,Region.binds .any e=true->e.on∉l:=by
   intro i hi;unfold Region.ready at hi;simp only[rX,uz,bT,xA] at hi;obtain ⟨h1,h2,h3⟩:=hi
   have cq:i∈l:=by
    by_cases h:i∈l
    ·exact h
    ·have:=(jl i h1).2 h;rw[this] at h2;cases h2
   refine ⟨cq,h1,ops[i],by simp[h1],fun e he hb lH=>?_⟩;have ho:ops[i]?=some ops[i]:=by simp[h1]
   rw[ho] at h3;simp only[aQ,fg] at h3;have h4:=rO.1 h3 e (by simpa using he);simp only[hb,jN,zE] at h4;have h5:=hlt i _ ho e he hb
   have h6:listed.getD e.on true=true:=by
    have hes:e.on < listed.size:=by omega
    simp only[Array.getD,hes,dif_pos] at h4 ⊢;exact h4
   exact (jl e.on (by omega)).1 h6 lH
  refine ⟨fun DJ=>?_,fun i hi=>?_⟩
  ·
   exfalso;have hne:l≠[]:=fun h=>by rw[h] at hn;simp at hn
   obtain ⟨mn,wI,yD⟩:∃ mn∈l,∀ x∈l,mn<=x:=by
    exact Is l hne
   have jv:=hin mn wI
   have:mn∈Region.ready .any ops listed:=by
    unfold Region.ready;simp only[rX,uz,bT,xA]
    refine ⟨jv,?_,?_⟩
    ·cases hb:listed.getD mn true with
     | false=>rfl
     | true=>exact absurd wI ((jl mn jv).1 hb)
    ·have ho:ops[mn]?=some ops[mn]:=by simp[jv]
     rw[ho];simp only[aQ,fg];rw[rO];intro e he
     by_cases hb:Region.binds .any e=true
     ·have h5:=hlt mn _ ho e (by simpa using he) hb;have h6:e.on∉l:=fun h=>by have:=yD _ h;omega
      have h7:=(jl e.on (by omega)).2 h6;have hes:e.on < listed.size:=by omega
      have h8:listed.getD e.on false=true:=by
       simp only[Array.getD,hes,dif_pos] at h7 ⊢;exact h7
      rw[h8];simp
     ·simp at hb;simp[hb]
   rw[DJ] at this;simp at this
  ·obtain ⟨cq,jY,x,hx,uV⟩:=DP i hi
   obtain ⟨s1,h1,h2⟩:=first hx l st s' (hnd.sublist gS) cq hk (fun p q fS j hj=>by
    obtain ⟨pre,post,tF⟩:∃ pc qc,canon=pc++i::qc/\∀ y∈p,y∈pc:=by
     rw[fS] at gS;obtain ⟨c1,c2,hc,mY,oU⟩:=List.append_sublist_iff.1 gS
     obtain ⟨d1,d2,hd,hdi⟩:∃ d1 d2,c2=d1++i::d2/\True:=by
      have:=oU.subset (fJ);obtain ⟨d1,d2,hd⟩:=zY this;exact ⟨d1,d2,hd,trivial⟩
     exact ⟨c1++d1,d2,by rw[hc,hd];simp,fun y hy=>im.2 (.inl (mY.subset hy))⟩
    rcases Xx AZ pre post i tF.1 j (tF.2 j hj) with h | ⟨y,x',hy,ic,be⟩
    ·exfalso;have gh:((np ops ops.size).getD i 0).testBit j=true:=h
     have:=Hg (D:=fun k=>k∉l) (fun k o bL kL e he hb=>by
      rcases qV k ops.size with hk1 | hk1
      ·exact rn k o hk1 bL kL e he hb
      ·rw[BW hk1] at kL;cases kL) hlt ops.size i x jY hx uV j gh
     exact this (by rw[fS];simp[hj])
    ·obtain rfl:x=x':=by simpa [hx] using ic
     exact ⟨y,hy,be⟩) hr
   refine Jh hC hI h1 hs (fun b' iB=>by cases iB;exact fun k bL=>hk k (by simp at bL;rw[bL];exact cq)) fun a' w' g' gy s hd=>?_
   have gh:∀ y,y∈l.erase i↔y∈l/\y≠i:=fun y=>by
    rw[(hnd.sublist gS).mem_erase_iff];exact And.comm
   refine ih (l.erase i) (by rw[List.length_erase_of_mem cq];omega) (List.Sublist.trans List.erase_sublist gS) (listed.setIfInBounds i true) (by simpa using hsz) (fun y hy=>?_) (fun y hy=>hin y ((gh y).1 hy).1) (fun k o hk1 kK kL e he hb lH=>?_) s1 s' a' w' g' h2 (fun k bL o ho hm=>?_) gy fun a'' w'' g'' sJ s' kI=>hq a'' w'' g'' sJ (s.trans s') (kI.trans hd)
   ·have p6:y < listed.size:=by omega
    have hg:(listed.setIfInBounds i true).getD y true=if i=y then true else listed.getD y true:=by
     simp only[jq,E8]
     by_cases mF:i=y
     ·subst mF;simp[p6]
     ·simp[mF]
    rw[hg,gh]
    by_cases mF:i=y
    ·subst mF;simp
    ·rw[aj mF,jl y hy]
     constructor
     ·intro h h';exact h h'.1
     ·intro h h';exact h ⟨h',fun he=>mF he.symm⟩
   ·have wM:=(gh _).1 lH
    by_cases jt:k=i
    ·subst jt;obtain rfl:x=o:=by simpa [hx] using kL
     exact uV e he hb wM.1
    ·exact rn k o hk1 (fun h=>kK ((gh k).2 ⟨h,jt⟩)) kL e he hb wM.1
   ·exact Je h1 (fun k' MS=>hk k' ((gh k').1 MS).1) (fun h=>((gh i).1 h).2 rfl) k bL o ho hm
theorem WU {m:af} (hm:MemR B w g m):∀ k,MemR B w g (m++List.replicate k (some .resv)):=by
 intro k
 have aU:∀ x,af.get (m++List.replicate k (some .resv)) x=if x < m.length then m.get x else if x < m.length+k then some .resv else none:=by
  intro x;unfold af.get;rw[qn]
  by_cases h1:x < m.length
  ·rw[an h1,an h1]
  ·rw[aj h1,aj h1,Aa]
   by_cases h2:x < m.length+k
   ·rw[an (by omega),an h2];rfl
   ·rw[aj (by omega),aj h2];rfl
 have old:∀ x e,af.get (m++List.replicate k (some .resv)) x=some e->m.get x=some e\/(e=.resv/\m.length<=x):=by
  intro x e he;rw[aU] at he
  split at he
  ·exact .inl he
  ·split at he
   ·simp at he;exact .inr ⟨he.symm,by omega⟩
   ·cases he
 have hblk:∀ x b,a8 g (m++List.replicate k (some .resv)) x=some b->a8 g m x=some b:=by
  intro x b hb
  rcases pR hb with ⟨bx,cs,h1,h2⟩ | ⟨n,sz,h1,h2⟩ | ⟨kk,es,h1,h2⟩
  ·rcases old _ _ h1 with h | ⟨h,_⟩
   ·simp[a8,h,h2]
   ·cases h
  ·rcases old _ _ h1 with h | ⟨h,_⟩
   ·simp[a8,h,h2]
   ·cases h
  ·rcases old _ _ h1 with h | ⟨h,_⟩
   ·simp[a8,h,h2]
   ·cases h
 refine ⟨fun nm bx cs h=>?_,fun nm n sz h=>?_,fun nm h=>?_,fun nm h=>?_,fun nm nm' b h1 h2=>hm.inj nm nm' b (hblk _ _ h1) (hblk _ _ h2),hm.wrLt,hm.inv,hm.boxLt,fun nm kk es h=>by
  rcases old _ _ h with h | ⟨h,_⟩
  ·exact hm.mp nm kk es h
  ·cases h⟩
 ·rcases old _ _ h with h | ⟨h,_⟩
  ·exact hm.obj nm bx cs h
  ·cases h
 ·rcases old _ _ h with h | ⟨h,_⟩
  ·exact hm.tok nm n sz h
  ·cases h
 ·rcases old _ _ h with h | ⟨_,h⟩
  ·exact hm.resv nm h
  ·exact hm.fresh nm h
 ·exact hm.fresh nm (by simp at h;omega)
theorem Yi (m:af) (c:Nat):dG m c=m++List.replicate c (some .resv):=by
 cases c with
 | zero=>simp[dG]
 | succ c=>rfl
theorem VT (ops:Array Oper) (m:af) (l:List Nat):ur ops m.length (m++List.replicate (fG ops ops.size) (some .resv)) l:=by
 intro i _ o ho hm;have hi:=(fE.1 ho).1
 have hlt:fG ops i < fG ops ops.size:=by
  have cq:i < ops.toList.length:=by simpa using hi
  have h1:fG ops (i+1)=fG ops i+1:=by
   unfold fG
   have he:ops.toList[i]=o:=by
    have:=(fE.1 ho).2;simpa using this
   rw[n6 cq,List.filter_append,aI,he];simp[hm]
  have h2:fG ops (i+1)<=fG ops ops.size:=by
   unfold fG;have:ops.toList.take (i+1)=(ops.toList.take ops.size).take (i+1):=by rw[List.take_take];congr 1;omega
   rw[this];exact List.Sublist.length_le ((List.take_sublist _ _).filter _)
  omega
 unfold af.get;rw[rU (by omega),Aa,an (by omega)]
 rfl
theorem qj7 (hC:CfgOk C) {callI:Nat->List AV->af->OM} (hI:rP C callI) {R:Type} {fid id:Nat} {ops:Array Oper} {Q:Exit->Act->World->Prop} {canon:List Nat} (be:HC C.P ops canon=true) {st:St} {K:St->Option R} {r:R} {a:Act}
  (h:mh C fid (jB callI) callI (some st.mem.length) ops canon ⟨st.tmps,dG st.mem (fG ops ops.size)⟩ K=some r) (hs:StR B w g st a)
  (hn:∀ s' a' w' g',K s'=some r->StR B w' g' s' a'->Step B w g w' g'->iN C.P a' a->Q .normal a' w'):(Code.region id ops true).wp C.P Q a w:=by
 unfold HC at be;simp only[bT] at be;obtain ⟨⟨⟨h1,h2⟩,h3⟩,h4⟩:=be;have lK:canon.Perm (List.range ops.size):=List.isPerm_iff.1 h2
 have hlt:∀ k o,ops[k]?=some o->∀ e∈o.after.toList,Region.binds .any e=true->e.on < k:=by
  intro k o hk e he hb;have fL:=(fE.1 hk).1;have:=fQ.1 h3 k (by simpa using fL);rw[hk] at this;simp only at this;have:=rO.1 this e (by simpa using he);simpa [hb] using this
 rw[sY,Yi] at h;simp only[bc] at h;obtain ⟨s',hr,hK⟩:=h;refine wp_region_any h1 ?_
 refine qg9 hC hI hlt h4 (lK.nodup_iff.2 List.nodup_range) canon ops.size (by rw[lK.length_eq];simp) (List.Sublist.refl _) _ (by simp) (fun x hx=>?_) (fun x hx=>by simpa using lK.mem_iff.1 hx) (fun k o hk bL=>?_) _ s' a _ g hr (VT ops st.mem canon) ⟨hs.tmp.step (Step.drew B w g),WU (B:=B) (w:=w.drew) (g:=g) hs.mem.drew _,hs.size⟩ ?_
 ·have:x∈canon:=lK.mem_iff.2 (by simpa using hx);simp[this,Array.getD,hx]
 ·exact absurd (lK.mem_iff.2 (by simpa using hk)) bL
 ·intro a' w' g' gy s hd;exact hn s' a' w' g' hK gy ((Step.drew B w g).trans s) hd
theorem IC:∀ (bs:List Bool) (ts:List AV) (t:Nat),(pI bs ts).length=ts.length/\((pI bs ts).getD t .any=ts.getD t .any\/(pI bs ts).getD t .any=.any)
 | bs,[],t=>by cases bs<;>simp[pI]
 | [],v::vs,t=>by
  have ih:=IC [] vs;refine ⟨by simp[pI,(ih 0).1],?_⟩
  cases t with
  | zero=>simp[pI]
  | succ t=>simpa [pI] using (ih t).2
 | b::bs,v::vs,t=>by
  have ih:=IC bs vs;refine ⟨by simp[pI,(ih 0).1],?_⟩
  cases t with
  | zero=>cases b<;>simp[pI]
  | succ t=>simpa [pI] using (ih t).2
theorem pQ.mask {ts:List AV} {vs:Array Value} (h:pQ w g ts vs) (bs:List Bool):pQ w g (pI bs ts) vs:=
 ⟨(IC bs ts 0).1.trans h.1,fun t=>by
  rcases (IC bs ts t).2 with h' | h'
  ·rw[h'];exact h.2 t
  ·rw[h'];exact .any _⟩
def LW (P:Program) (c:Code) (Q:Exit->Act->World->Prop) (a:Act) (w:World):Prop:=
 ∀ (b:Frame) (k:List Item) (cs:List Frame),∃ e a' w',Q e a' w'/\Arrives P (lone (b.at a (.inLoop c::k)) cs w) b k cs e a' w'
theorem Wy {P:Program} {c:Code} {Q:Exit->Act->World->Prop} {a:Act} {w:World} (h:c.wp P (Exit.then (LW P c Q) Q) a w) (m:List Item->Item) (b:Frame) (k:List Item) (cs:List Frame)
  (hm:step P (lone (b.at a (m k::k)) cs w)=.next (lone (b.at a (.code c :: .inLoop c::k)) cs w)):∃ e a' w',Q e a' w'/\Arrives P (lone (b.at a (m k::k)) cs w) b k cs e a' w':=by
 obtain ⟨e,a₁,w₁,hq,AJ⟩:=h b (.inLoop c::k) cs
 cases e with
 | normal=>
  obtain ⟨e₂,a₂,w₂,hq₂,qkU⟩:=hq b k cs;exact ⟨e₂,a₂,w₂,hq₂,.of_steps (.head hm AJ) qkU⟩
 | exit id=>exact ⟨_,a₁,w₁,hq,.of_steps (.one hm) (.pass (x:=.inLoop c) rfl (fun _ _=>.inl (by simp)) AJ)⟩
 | goto l=>exact ⟨_,a₁,w₁,hq,.of_steps (.one hm) (.pass (x:=.inLoop c) rfl (fun _ _=>.inl (by simp)) AJ)⟩
 | ret=>exact ⟨_,a₁,w₁,hq,.of_steps (.one hm) (.pass (x:=.inLoop c) rfl (fun _ _=>.inl (by simp)) AJ)⟩
 | panic ch=>exact ⟨_,a₁,w₁,hq,.of_steps (.one hm) (.pass (x:=.inLoop c) rfl (fun _ _=>.inl (by simp)) AJ)⟩
 | outgrown=>exact ⟨_,a₁,w₁,hq,.of_steps (.one hm) (.pass (x:=.inLoop c) rfl (fun _ _=>.inl (by simp)) AJ)⟩
theorem qpD {P:Program} {c:Code} {Q:Exit->Act->World->Prop} {a:Act} {w:World} (h:c.wp P (Exit.then (LW P c Q) Q) a w):(Code.loop c).wp P Q a w:=fun b k cs=>Wy h (fun _=>.code (.loop c)) b k cs step_loop
theorem qmD {P:Program} {c:Code} {Q:Exit->Act->World->Prop} {a:Act} {w:World} (h:c.wp P (Exit.then (LW P c Q) Q) a w):LW P c Q a w:=fun b k cs=>Wy h (fun _=>.inLoop c) b k cs step_inLoop
def JB (C:Cfg) (B:Nat) {R:Type} (w:World) (g:G) (a:Act) (K:Ex->St->Option R) (r:R) (Q:Exit->Act->World->Prop):Prop:=
 ∀ e st' a' w' g',K e st'=some r->StR B w' g' st' a'->Step B w g w' g'->iN C.P a' a->Q (L4 e) a' w'
def I6 (vs:Array Value):ResultVar->Sem Value
 | .tmp t=>pure (vs.getD t undef)
 | .cell a t=>do loadVar t (<- asAddr (vs.getD a undef))
theorem qn7 (fn:Func) (vs:Array Value):results fn vs=(do let l <- fn.results.mapM (I6 vs);pure (if h:l.size=1 then l[0] else .tuple l)):=rfl
theorem Yj {P:Program} {m:af} (hm:MemR B w g m) {ts:List AV} {vs:Array Value} (ht:pQ w g ts vs):∀ (rs:List ResultVar) (l:List AV),ui P m ts rs=some l ->
  ∃ vl:List Value,(rs.mapM (I6 vs)).run P w=.ok vl w/\vl.length=l.length/\∀ j,j < l.length->V w g (l.getD j .any) (vl.getD j undef)
 | [],l,h=>by simp only[ui,bG] at h;subst h;exact ⟨[],by simp,rfl,by simp⟩
 | r::rs,l,h=>by
  simp only[ui,bc,gG] at h;obtain ⟨v,hv,l',yz,rfl⟩:=h;obtain ⟨vl,h1,h2,h3⟩:=Yj hm ht rs l' yz
  have AY:∃ v',(I6 vs r).run P w=.ok v' w/\V w g v v':=by
   cases r with
   | tmp t=>simp only[Ey,bG] at hv;subst hv;exact ⟨_,rfl,ht.2 t⟩
   | cell a t=>
    simp only[Ey,bc] at hv;obtain ⟨sh,hsh,hv⟩:=hv;obtain ⟨v',hr,hV⟩:=Ww (P:=P) hm (ht.2 a) hv t hsh;refine ⟨v',?_,hV⟩;unfold Instr.loadAt at hr;unfold ai at hv
    have hp:∃ p,vs.getD a undef=.pointer (some p):=by
     have AI:=ht.2 a
     split at hv
     ·rename_i he;rw[he] at AI;generalize vs.getD a undef=x at AI;cases AI;exact ⟨_,rfl⟩
     ·rename_i he;rw[he] at AI;generalize vs.getD a undef=x at AI;cases AI;exact ⟨_,rfl⟩
     ·cases hv
    obtain ⟨p,hp⟩:=hp;rw[hp] at hr
    have vn:I6 vs (.cell a t)=(do loadVar t (<- asAddr (.pointer (some p)))):=by
     show (do loadVar t (<- asAddr (vs.getD a undef)):Sem Value)=_
     rw[hp]
    rw[vn];simpa [Instr.sureAddr,asAddr] using hr
  obtain ⟨v',e1,e2⟩:=AY
  refine ⟨v'::vl,?_,by simp[h2],fun j hj=>?_⟩
  ·rw[List.mapM_cons];simp only[Sem.run_bind,e1,Result.andThen_ok,h1,Sem.run_pure]
  ·cases j with
   | zero=>simpa using e2
   | succ j=>simpa using h3 j (by simpa using hj)
theorem I7 {R:Type} (P:Program) (m:af) (ts:List AV):∀ (rs:List ResultVar) (K:List AV->Option R),ze P m ts rs K=(ui P m ts rs).bind K
 | [],K=>rfl
 | .tmp t::rs,K=>by
  simp only[ze,ui,Ey,aa,I7 P m ts rs];cases ui P m ts rs<;>rfl
 | .cell a t::rs,K=>by
  simp only[ze,ui,Ey]
  cases je P t with
  | none=>rfl
  | some sh=>
   simp only[aa,I7 P m ts rs]
   cases ai sh m (ts.getD a .any) with
   | none=>rfl
   | some v=>
    simp only[aa];cases ui P m ts rs<;>rfl
theorem qnd {l:List AV} {vl:List Value} (h2:vl.length=l.length) (h3:∀ j,j < l.length->V w g (l.getD j .any) (vl.getD j undef)):V w g (Em l) (if h:vl.toArray.size=1 then vl.toArray[0] else .tuple vl.toArray):=by
 match l,vl,h2 with
 | [],[],_=>exact .tup [] #[] rfl (by simp)
 | [x],[y],_=>simpa [Em] using h3 0 (by simp)
 | x::x'::l,y::y'::vl,h2=>
  have:¬ (y::y'::vl).toArray.size=1:=by simp
  rw[dif_neg this];refine .tup _ _ (by simp at h2 ⊢;omega) fun j hj=>?_;have:=h3 j hj;simpa [aT,jq] using this
end
end Go.Ab
namespace Go.Ab
open Go.RowKit
def ya (y x:Oper):Option (Bool×Nat×Nat×Nat×Nat):=match y.guard with
 | some _=>none
 | none=>match x.guard with
  | some _=>none
  | none=>match x.dst with
   | some _=>none
   | none=>match x.op with
    | .store t2 (.tmp u) _=>match y.op with
     | .load t1 (.tmp t)=>some (true,t1,t,t2,u)
     | .store t1 (.tmp t) _=>match y.dst with
      | none=>some (false,t1,t,t2,u)
      | some _=>none
     | _=>none
    | _=>none
def Lv (n1 n2:Nat) (x y:AV):Bool:=match x,y with
 | .ptr a o,.ptr b p=>!(a == b) || (decide (o+n1<=p) || decide (p+n2<=o))
 | _,_=>false
def Oa (x y:AV):Bool:=match y with
 | .ptr b _=>match x with
  | .vptr _=>true
  | .ptr a _=>!(a == b)
  | _=>false
 | _=>false
def Dh (P:Program) (c:Bool×Nat×Nat×Nat×Nat) (ts:List AV):Bool:=match c with
 | (b,t1,t,t2,u)=>match b with
  | true=>Oa (ts.getD t .any) (ts.getD u .any)
  | false=>match je P t1 with
   | none=>false
   | some s1=>match je P t2 with
    | none=>false
    | some s2=>Lv s1.size s2.size (ts.getD t .any) (ts.getD u .any)
def Df (P:Program) (ops:Array Oper) (j i:Nat) (ts:List AV):Bool:=match ops[j]? with
 | none=>false
 | some y=>match ops[i]? with
  | none=>false
  | some x=>match ya y x with
   | none=>false
   | some c=>Dh P c ts
def tb {R:Type} (P:Program) (ops:Array Oper) (st:St) (K:St->Option R):List (Nat×Nat)->Option R
 | []=>K st
 | (j,i)::sp=>match Df P ops j i st.tmps with
  | true=>tb P ops st K sp
  | false=>none
def LL (ops:Array Oper) (ah:List Nat) (j i:Nat) (r:List Nat):Bool:=match ops[j]? with
 | none=>false
 | some y=>match ops[i]? with
  | none=>false
  | some x=>match ya y x with
   | none=>false
   | some (_,_,t,_,u)=>wb ops y x && r.all (fun k=>match ops[k]? with | some o=>o.dst != some t && (o.dst != some u || (ah.getD i 0).testBit k) | none=>true)
def yr:List (Nat×Nat)->Nat->Nat->Bool
 | [],_,_=>false
 | (a,b)::l,j,i=>match Nat.beq a j && Nat.beq b i with
  | true=>true
  | false=>yr l j i
def Bs (ops:Array Oper) (ah:List Nat) (sp:List (Nat×Nat)):List Nat->Bool
 | []=>true
 | j::l=>l.all (fun i=>(ah.getD i 0).testBit j || (match ops[j]?,ops[i]? with | some x,some y=>xi ops x y | _,_=>false) || (yr sp j i && LL ops ah j i (j::l))) && Bs ops ah sp l
def yg (P:Program) (ops:Array Oper) (l ah:List Nat) (sp:List (Nat×Nat)):Bool:=match sp with
 | []=>LY P ops l ah
 | _::_=>P.follows .mixedOrders && (l.isPerm (List.range ops.size) && ((List.range ops.size).all (fun i=>(match ops[i]? with | some o=>o.after.all fun e=>!Region.binds .any e || decide (e.on < i) | none=>false)) && (Nat.beq ah.length ops.size && ((List.range ops.size).all (CY ops ah) && Bs ops ah sp l))))
theorem Ze {R:Type} {P:Program} {ops:Array Oper} {st:St} {K:St->Option R} {r:R}:∀ sp:List (Nat×Nat),tb P ops st K sp=some r->K st=some r/\∀ j i,yr sp j i=true->Df P ops j i st.tmps=true
 | [],h=>⟨h,fun _ _ h'=>by simp[yr] at h'⟩
 | (a,b)::sp,h=>by
  simp only[tb] at h
  split at h
  ·rename_i hd;obtain ⟨h1,h2⟩:=Ze sp h;refine ⟨h1,fun j i h'=>?_⟩;simp only[yr] at h'
   split at h'
   ·rename_i hb;simp only[bT] at hb;obtain rfl:=qp hb.1;obtain rfl:=qp hb.2;exact hd
   ·exact h2 j i h'
  ·cases h
theorem qpn {R:Type} (P:Program) (ops:Array Oper) (st:St) (sp:List (Nat×Nat)):(∀ K:St->Option R,tb P ops st K sp=none)\/(∀ K:St->Option R,tb P ops st K sp=K st):=by
 induction sp with
 | nil=>exact .inr fun K=>rfl
 | cons p sp ih=>
  obtain ⟨a,b⟩:=p
  cases hd:Df P ops a b st.tmps with
  | true=>
   rcases ih with h | h
   ·exact .inl fun K=>by simp only[tb,hd];exact h K
   ·exact .inr fun K=>by simp only[tb,hd];exact h K
  | false=>exact .inl fun K=>by simp only[tb,hd]
section
variable [WInv] {C:Cfg} {B:Nat} {w:World} {g:G}
theorem Lt {ops:Array Oper} {ah:List Nat} (hl:ah.length=ops.size) (hlt:∀ i o,ops[i]?=some o->∀ e∈o.after.toList,Region.binds .any e=true->e.on < i)
  (h:∀ i,i < ops.size->CY ops ah i=true):∀ n,n<=ops.size->np ops n=ah.take n:=by
 intro n
 induction n with
 | zero=>intro _;simp[np]
 | succ n ih=>
  intro hn;have ih:=ih (by omega);have hx:n < ah.length:=by omega
  rw[np,ih,List.take_add_one,bA hx];have ho:ops[n]?=some ops[n]:=BV (by omega);rw[ho];have iv:=h n (by omega);unfold CY at iv;rw[ho,bA hx] at iv;simp only at iv;have iv:=qp iv;simp only[Option.toList_some,List.append_cancel_left_eq,pj,and_true];rw[iv,<- Array.foldl_toList]
  have:∀ (l:List Edge) (s:Nat),(∀ e∈l,Region.binds .any e=true->e.on < n)->List.foldl (fun s e=>s ||| (2 ^ e.on ||| (List.take n ah).getD e.on 0)) s (l.filter (Region.binds .any))=List.foldl (fun s e=>match Region.binds .any e with
    | true=>s ||| (2 ^ e.on ||| ah.getD e.on 0)
    | false=>s) s l:=by
   intro l
   induction l with
   | nil=>intro s _;rfl
   | cons e l ihl=>
    intro s hs;have ht:=fun s=>ihl s fun e' DA=>hs e' (by simp[DA])
    cases hb:Region.binds .any e with
    | true=>
     have:=hs e (by simp) hb;rw[List.filter_cons_of_pos (by simpa using hb)];simp only[ux,hb];rw[ht];congr 3;simp only[aT,qo,an this]
    | false=>
     rw[List.filter_cons_of_neg (by simp[hb])];simp only[ux,hb];rw[ht]
  exact this _ 0 (hlt n _ ho)
theorem qj4 {P:Program} {ops:Array Oper} {l ah:List Nat} (h:LY P ops l ah=true):HC P ops l=true:=by
 unfold LY at h;simp only[bT] at h;obtain ⟨h1,h2,h3,h4,h5,h6⟩:=h
 have hlt:∀ k o,ops[k]?=some o->∀ e∈o.after.toList,Region.binds .any e=true->e.on < k:=by
  intro k o hk e he hb;have fL:=(fE.1 hk).1;have:=fQ.1 h3 k (by simpa using fL);rw[hk] at this;simp only at this;have:=rO.1 this e (by simpa using he);simpa [hb] using this
 have wC:=Lt (qp h4) hlt (fun i hi=>fQ.1 h5 i (by simpa using hi)) ops.size (aR _);rw[kY (by rw[qp h4];exact aR _)] at wC;unfold HC;simp only[bT];refine ⟨⟨⟨h1,h2⟩,h3⟩,?_⟩;unfold uH;rw[wC];exact h6
theorem qj3 {P:Program} {ops:Array Oper} {l ah:List Nat} {p:Nat×Nat} {sp:List (Nat×Nat)} (h:yg P ops l ah (p::sp)=true):P.follows .mixedOrders=true/\l.isPerm (List.range ops.size)=true /\
  ((List.range ops.size).all (fun i=>(match ops[i]? with | some o=>o.after.all fun e=>!Region.binds .any e || decide (e.on < i) | none=>false)))=true/\Bs ops (uH ops) (p::sp) l=true:=by
 unfold yg at h;simp only[bT] at h;obtain ⟨h1,h2,h3,h4,h5,h6⟩:=h
 have hlt:∀ k o,ops[k]?=some o->∀ e∈o.after.toList,Region.binds .any e=true->e.on < k:=by
  intro k o hk e he hb;have fL:=(fE.1 hk).1;have:=fQ.1 h3 k (by simpa using fL);rw[hk] at this;simp only at this;have:=rO.1 this e (by simpa using he);simpa [hb] using this
 have wC:=Lt (qp h4) hlt (fun i hi=>fQ.1 h5 i (by simpa using hi)) ops.size (aR _);rw[kY (by rw[qp h4];exact aR _)] at wC;refine ⟨h1,h2,h3,?_⟩;unfold uH;rw[wC];exact h6
theorem qjS {y x:Oper} {b:Bool} {t1 t t2 u:Nat} (h:ya y x=some (b,t1,t,t2,u)):y.guard=none/\x.guard=none/\x.dst=none/\(∃ v,x.op=.store t2 (.tmp u) v) /\
  ((b=true/\y.op=.load t1 (.tmp t))\/(b=false/\y.dst=none/\∃ v,y.op=.store t1 (.tmp t) v)):=by
 unfold ya at h
 split at h
 ·cases h
 rename_i h1
 split at h
 ·cases h
 rename_i h2
 split at h
 ·cases h
 rename_i h3;split at h
 case h_2=>cases h
 rename_i h4
 split at h
 ·rename_i h5;simp only[bG,fe] at h;obtain ⟨rfl,rfl,rfl,rfl,rfl⟩:=h;exact ⟨h1,h2,h3,⟨_,h4⟩,.inl ⟨rfl,h5⟩⟩
 ·rename_i h5
  split at h
  ·rename_i h6;simp only[bG,fe] at h;obtain ⟨rfl,rfl,rfl,rfl,rfl⟩:=h;exact ⟨h1,h2,h3,⟨_,h4⟩,.inr ⟨rfl,h6,_,h5⟩⟩
  ·cases h
 ·cases h
theorem obj?_set {m:af} {nm:Nat} {e:Option Ent} {n:Nat} (h:n≠nm):af.obj? (m.set nm e) n=m.obj? n:=by
 unfold af.obj?;rw[gC,aj h]
theorem obj?_self {m:af} {nm:Nat} {bx:Bool} {cs cs':List AV} (h:m.obj? nm=some (bx,cs)):af.obj? (m.set nm (some (.obj bx cs'))) nm=some (bx,cs'):=by
 unfold af.obj?;rw[gC,an rfl,an (bJ (obj?_get h))]
theorem qnJ {cs v1 v2:List AV} {o p:Nat} (h1:o+v1.length<=cs.length) (h2:p+v2.length<=cs.length) (hd:o+v1.length<=p\/p+v2.length<=o):bC (bC cs o v1) p v2=bC (bC cs p v2) o v1:=by
 have l1:=sW h1;have l2:=sW h2;have e1:p+v2.length<=(bC cs o v1).length:=by omega
 have e2:o+v1.length<=(bC cs p v2).length:=by omega
 apply List.ext_getElem
 ·rw[sW e1,sW e2,l1,l2]
 ·intro j tL oR;have k1:=Bv e1 j;have k2:=Bv e2 j;rw[Bv h1] at k1;rw[Bv h2] at k2;rw[aT,bA tL,fg] at k1;rw[aT,bA oR,fg] at k2;rw[k1,k2]
  by_cases a:p<=j/\j < p+v2.length
  ·rw[an a,aj (by omega),an a]
  ·rw[aj a]
   by_cases b:o<=j/\j < o+v1.length
   ·rw[an b,an b]
   ·rw[aj b,aj b,aj a]
theorem qoL {s1 s2:Sh} {m m1 m2:af} {x1 x2 v1 v2:AV} (ha:Lv s1.size s2.size x1 x2=true) (h1:aN s1 m x1 v1=some m1) (h2:aN s2 m1 x2 v2=some m2) :
  ∃ m3,aN s2 m x2 v2=some m3/\aN s1 m3 x1 v1=some m2:=by
 unfold Lv at ha
 split at ha
 ·rename_i a o b p;simp only[aN,bc] at h1 h2 ⊢;obtain ⟨⟨bx,cs⟩,g1,h1⟩:=h1;obtain ⟨⟨bx2,cs2⟩,g2,h2⟩:=h2;simp only at h1 h2;split at h1
  case isFalse=>cases h1
  rename_i c1;split at h1
  case isFalse=>cases h1
  rename_i k1;simp only[bG] at h1;subst h1;split at h2
  case isFalse=>cases h2
  rename_i c2;split at h2
  case isFalse=>cases h2
  rename_i k2;simp only[bG] at h2;subst h2;have z1:=sZ k1;have z2:=sZ k2
  by_cases lY:a=b
  ·subst lY;rw[obj?_self g1] at g2;simp only[bG,fe] at g2;obtain ⟨rfl,rfl⟩:=g2;rw[sW (by omega)] at c2;simp only[BEq.rfl,jN,zE,zF,nt] at ha
   refine ⟨m.set a (some (.obj bx (bC cs p v2.cells))),⟨⟨bx,cs⟩,g1,?_⟩,⟨bx,bC cs p v2.cells⟩,obj?_self g1,?_⟩
   ·simp only;rw[an c2,an k2]
   ·simp only;rw[an (by rw[sW (by omega)];exact c1),an k1,Ae,Ae,qnJ (by omega) (by omega) (by omega)]
  ·rw[obj?_set (fun e=>lY e.symm)] at g2
   refine ⟨m.set b (some (.obj bx2 (bC cs2 p v2.cells))),⟨⟨bx2,cs2⟩,g2,?_⟩,⟨bx,cs⟩,?_,?_⟩
   ·simp only;rw[an c2,an k2]
   ·rw[obj?_set lY];exact g1
   ·simp only;rw[an c1,an k1,List.set_comm _ _ lY]
 ·cases ha
theorem O5 {fid b:Nat} {cp:Nat->List AV->Option AV} {ci:Nat->List AV->af->OM} {ops:Array Oper} {i:Nat} {o:Oper} {t:Nat} {x v:Operand} (ho:ops[i]?=some o) (hg:o.guard=none) (hd:o.dst=none) (bw:o.op=.store t x v) (st:St) :
  fF C fid cp ci (some b) ops i st=(je C.P t).bind fun s=>(aN s st.mem (ev st.tmps x) (ev st.tmps v)).map fun m=>⟨st.tmps,m⟩:=by
 unfold fF;rw[ho];simp only[gQ,hg];unfold fN kB;rw[bw];simp only[]
 cases je C.P t with
 | none=>rfl
 | some s=>
  simp only[aa]
  cases aN s st.mem (ev st.tmps x) (ev st.tmps v) with
  | none=>rfl
  | some m=>simp only[aa,aQ,hd,fZ]
theorem YV {fid b:Nat} {cp:Nat->List AV->Option AV} {ci:Nat->List AV->af->OM} {ops:Array Oper} {i:Nat} {o:Oper} {t:Nat} {x:Operand} (ho:ops[i]?=some o) (hg:o.guard=none) (bw:o.op=.load t x) (st:St) :
  fF C fid cp ci (some b) ops i st=(je C.P t).bind fun s=>(ai s st.mem (ev st.tmps x)).map fun v=>⟨fZ st.tmps o.dst v,st.mem⟩:=by
 unfold fF;rw[ho];simp only[gQ,hg];unfold fN kB;rw[bw];simp only[]
 cases je C.P t with
 | none=>rfl
 | some s=>
  simp only[aa]
  cases ai s st.mem (ev st.tmps x) with
  | none=>rfl
  | some v=>rfl
theorem qmx {s1 s2:Sh} {m m2:af} {x1 x2 v2:AV} (ha:Oa x1 x2=true) (h2:aN s2 m x2 v2=some m2):ai s1 m2 x1=ai s1 m x1:=by
 unfold Oa at ha
 split at ha
 ·rename_i b p
  split at ha
  ·rfl
  ·rename_i a o;have lY:a≠b:=by simpa using ha
   simp only[aN,bc] at h2;obtain ⟨⟨bx,cs⟩,g1,h2⟩:=h2
   split at h2
   ·split at h2
    ·simp only[bG] at h2;subst h2;simp only[ai];rw[obj?_set lY]
    ·cases h2
   ·cases h2
  ·cases ha
 ·cases ha
theorem OP {fid b:Nat} {cp:Nat->List AV->Option AV} {ci:Nat->List AV->af->OM} {ops:Array Oper} {t:Nat}:∀ (l:List Nat) (s s':St),(∀ k∈l,∀ o,ops[k]?=some o->o.dst≠some t)->gW C fid cp ci (some b) ops l s=some s'->s'.tmps.getD t .any=s.tmps.getD t .any
 | [],s,s',_,h=>by simp only[gW,bG] at h;rw[h]
 | k::l,s,s',hd,h=>by
  simp only[gW,bc] at h;obtain ⟨s1,h1,h2⟩:=h;rw[OP l s1 s' (fun k' bL=>hd k' (by simp[bL])) h2];obtain ⟨o,v,m1,ho,_,rfl⟩:=s9 h1;exact vG (hd k (by simp) o ho)
theorem qoZ {fid b:Nat} {cp:Nat->List AV->Option AV} {ci:Nat->List AV->af->OM} {ops:Array Oper} {i j:Nat} {st s1 s2:St} {x y:Oper} (hx:ops[i]?=some x) (hy:ops[j]?=some y) {c:Bool×Nat×Nat×Nat×Nat} (hc:ya y x=some c) (uU:wb ops y x=true) (rp:Dh C.P c st.tmps=true)
  (h1:fF C fid cp ci (some b) ops j st=some s1) (h2:fF C fid cp ci (some b) ops i s1=some s2):∃ s1',fF C fid cp ci (some b) ops i st=some s1'/\fF C fid cp ci (some b) ops j s1'=some s2:=by
 obtain ⟨bb,t1,t,t2,u⟩:=c;obtain ⟨g1,g2,g3,⟨v2,g4⟩,g5⟩:=qjS hc;obtain ⟨a1,a2,a3⟩:=Hh uU;rw[O5 hx g2 g3 g4] at h2 ⊢;simp only[bc,gG] at h2;obtain ⟨sh2,k2,m2,k3,rfl⟩:=h2
 rcases g5 with ⟨rfl,g5⟩ | ⟨rfl,g6,v1,g5⟩
 ·rw[YV hy g1 g5] at h1;simp only[bc,gG] at h1;obtain ⟨sh1,k1,v,k4,rfl⟩:=h1;simp only at k3
  have Vg:∀ z t',z=Operand.tmp t'->z∈x.op.operands.toList->y.dst≠some t':=by
   intro z t' hz hm hd;refine a1 t' hd ?_;unfold pH;refine im.2 (.inl (List.mem_filterMap.2 ⟨z,hm,?_⟩));rw[hz]
  have Vt:x.op.operands.toList=[.tmp u,v2]:=by rw[g4];rfl
  have e1:ev (fZ st.tmps y.dst v) (.tmp u)=ev st.tmps (.tmp u):=L0 _ fun t' ht=>vG (Vg _ t' ht (by rw[Vt];simp));have e2:ev (fZ st.tmps y.dst v) v2=ev st.tmps v2:=L0 _ fun t' ht=>vG (Vg _ t' ht (by rw[Vt];simp));rw[e1,e2] at k3;refine ⟨⟨st.tmps,m2⟩,by rw[k2,aa,k3];rfl,?_⟩;rw[YV hy g1 g5,k1,aa];have:ai sh1 m2 (ev st.tmps (.tmp t))=ai sh1 st.mem (ev st.tmps (.tmp t)):=qmx rp k3;simp only;rw[this,k4]
  rfl
 ·rw[O5 hy g1 g6 g5] at h1;simp only[bc,gG] at h1;obtain ⟨sh1,k1,m1,k4,rfl⟩:=h1;simp only at k3;unfold Dh at rp;simp only[k1,k2] at rp;obtain ⟨m3,j1,j2⟩:=qoL (x1:=ev st.tmps (.tmp t)) (x2:=ev st.tmps (.tmp u)) rp k4 k3;refine ⟨⟨st.tmps,m3⟩,by rw[k2,aa,j1];rfl,?_⟩;rw[O5 hy g1 g6 g5,k1,aa];simp only;rw[j2]
  rfl
def qe7 (C:Cfg) (ops:Array Oper) (sE:St) (i:Nat) (x:Oper) (r:List Nat) (j:Nat):Prop:=∃ y,ops[j]?=some y/\(xi ops y x=true\/∃ bb t1 t t2 u,ya y x=some (bb,t1,t,t2,u)/\wb ops y x=true/\Dh C.P (bb,t1,t,t2,u) sE.tmps=true/\∀ k∈r,∀ o,ops[k]?=some o->o.dst≠some t/\o.dst≠some u)
theorem TY {fid b:Nat} {cp:Nat->List AV->Option AV} {ci:Nat->List AV->af->OM} {ops:Array Oper} {i:Nat} {x:Oper} (hx:ops[i]?=some x):∀ (l:List Nat) (st s':St),l.Nodup->i∈l->ur ops b st.mem l->(∀ (p:List Nat) (j:Nat) (r:List Nat),l=p++j::r->i∈r->qe7 C ops s' i x (j::r) j) ->
  gW C fid cp ci (some b) ops l st=some s'->∃ s1,fF C fid cp ci (some b) ops i st=some s1/\gW C fid cp ci (some b) ops (l.erase i) s1=some s'
 | [],_,_,_,hi,_,_,_=>by simp at hi
 | j::l,st,s',hnd,hi,hk,wS,hr=>by
  have wO:=hr;simp only[gW,bc] at hr;obtain ⟨s1,h1,hr⟩:=hr
  by_cases he:j=i
  ·subst he;exact ⟨s1,h1,by simpa using hr⟩
  ·have cq:i∈l:=by rcases gB.1 hi with h | h<;>first | exact absurd h.symm he | exact h
   have yG:=(uC.1 hnd);obtain ⟨s2,h2,tQ⟩:=TY hx l s1 s' yG.2 cq (Je h1 (fun k bL=>hk k (by simp[bL])) yG.1) (fun p k r fS MP=>wS (j::p) k r (by rw[fS];rfl) MP) hr;obtain ⟨y,hy,be⟩:=wS [] j l rfl cq
   have qlW:∃ s1',fF C fid cp ci (some b) ops i st=some s1'/\fF C fid cp ci (some b) ops j s1'=some s2:=by
    rcases be with be | ⟨bb,t1,t,t2,u,hc,uU,rp,UR⟩
    ·exact swap hy hx he be (fun k bL=>hk k (by
      simp only[gB,Cy,or_false] at bL
      rcases bL with rfl | rfl
      ·simp
      ·simp[cq])) h1 h2
    ·refine qoZ hx hy hc uU ?_ h1 h2;have ht:=OP (t:=t) (j::l) st s' (fun k bL o ho=>(UR k bL o ho).1) wO;have hu:=OP (t:=u) (j::l) st s' (fun k bL o ho=>(UR k bL o ho).2) wO;unfold Dh at rp ⊢;simp only[ht,hu] at rp;exact rp
   obtain ⟨s1',k1,k2⟩:=qlW;refine ⟨s1',k1,?_⟩
   have DB:(j::l).erase i=j::l.erase i:=by
    rw[List.erase_cons,aj (by simpa using he)]
   rw[DB];simp only[gW,k2,aa];exact tQ
theorem Xw {ops:Array Oper} {ah:List Nat} {sp:List (Nat×Nat)}:∀ {l:List Nat},Bs ops ah sp l=true->∀ (p:List Nat) (j:Nat) (r:List Nat),l=p++j::r->∀ i∈r,(ah.getD i 0).testBit j=true\/(∃ x y,ops[j]?=some x/\ops[i]?=some y/\xi ops x y=true)\/(yr sp j i=true/\LL ops ah j i (j::r)=true)
 | [],_,p,j,r,h,_,_=>by simp at h
 | k::l,hp,p,j,r,h,i,hi=>by
  simp only[Bs,bT,fQ] at hp
  match p,h with
  | [],h=>
   simp only[bE,pj] at h;obtain ⟨rfl,rfl⟩:=h;have:=hp.1 i hi;simp only[zF,bT] at this
   rcases this with (h | h) | h
   ·exact .inl h
   ·refine .inr (.inl ?_)
    split at h
    ·exact ⟨_,_,by assumption,by assumption,h⟩
    ·cases h
   ·exact .inr (.inr h)
  | k'::p,h=>
   simp only[bQ,pj] at h;obtain ⟨rfl,rfl⟩:=h;exact Xw hp.2 p j r rfl i hi
theorem qha (hC:CfgOk C) {callI:Nat->List AV->af->OM} (hI:rP C callI) {fid b:Nat} {ops:Array Oper} {Q:Exit->Act->World->Prop} {canon:List Nat} (hlt:∀ k o,ops[k]?=some o->∀ e∈o.after.toList,Region.binds .any e=true->e.on < k)
  {sp:List (Nat×Nat)} {sE:St} (AZ:Bs ops (uH ops) sp canon=true) (rp:∀ j i,yr sp j i=true->Df C.P ops j i sE.tmps=true) (hnd:canon.Nodup):∀ (l:List Nat) (n:Nat),l.length=n->l.Sublist canon->∀ (listed:Array Bool),listed.size=ops.size->(∀ x,x < ops.size->(listed.getD x true=true↔x∉l))->(∀ x∈l,x < ops.size) ->
  (∀ k o,k < ops.size->k∉l->ops[k]?=some o->∀ e∈o.after.toList,Region.binds .any e=true->e.on∉l) ->
  ∀ (st s':St) (a:Act) (w:World) (g:G),s'=sE->gW C fid (jB callI) callI (some b) ops l st=some s'->ur ops b st.mem l->StR B w g st a ->
  (∀ a' w' g',StR B w' g' s' a'->Step B w g w' g'->iN C.P a' a->Q .normal a' w')->wpAny C.P .any ops Q n listed a w:=by
 intro l n hn
 induction n generalizing l with
 | zero=>
  intro gS listed hsz jl hin rn st s' a w g Nl hr hk hs hq;have vd:l=[]:=nY hn;subst vd;simp only[gW,bG] at hr;subst hr;refine ⟨?_,hq a w g hs (Step.refl _ _ _) (iN.refl _ _)⟩;unfold Region.ready;rw[List.filter_eq_nil_iff];intro x hx;have:listed.getD x true=true:=(jl x (by simpa using hx)).2 (by simp);simp[this]
 | succ n ih=>
  intro gS listed hsz jl hin rn st s' a w g Nl hr hk hs hq
  have DP:∀ i∈Region.ready .any ops listed,i∈l/\i < ops.size/\∃ o,ops[i]?=some o/\∀ e∈o.after.toList,Region.binds .any e=true->e.on∉l:=by
   intro i hi;unfold Region.ready at hi;simp only[rX,uz,bT,xA] at hi;obtain ⟨h1,h2,h3⟩:=hi
   have cq:i∈l:=by
    by_cases h:i∈l
    ·exact h
    ·have:=(jl i h1).2 h;rw[this] at h2;cases h2
   refine ⟨cq,h1,ops[i],by simp[h1],fun e he hb lH=>?_⟩;have ho:ops[i]?=some ops[i]:=by simp[h1]
   rw[ho] at h3;simp only[aQ,fg] at h3;have h4:=rO.1 h3 e (by simpa using he);simp only[hb,jN,zE] at h4;have h5:=hlt i _ ho e he hb
   have h6:listed.getD e.on true=true:=by
    have hes:e.on < listed.size:=by omega
    simp only[Array.getD,hes,dif_pos] at h4 ⊢;exact h4
   exact (jl e.on (by omega)).1 h6 lH
  refine ⟨fun DJ=>?_,fun i hi=>?_⟩
  ·
   exfalso;have hne:l≠[]:=fun h=>by rw[h] at hn;simp at hn
   obtain ⟨mn,wI,yD⟩:∃ mn∈l,∀ x∈l,mn<=x:=by
    exact Is l hne
   have jv:=hin mn wI
   have:mn∈Region.ready .any ops listed:=by
    unfold Region.ready;simp only[rX,uz,bT,xA]
    refine ⟨jv,?_,?_⟩
    ·cases hb:listed.getD mn true with
     | false=>rfl
     | true=>exact absurd wI ((jl mn jv).1 hb)
    ·have ho:ops[mn]?=some ops[mn]:=by simp[jv]
     rw[ho];simp only[aQ,fg];rw[rO];intro e he
     by_cases hb:Region.binds .any e=true
     ·have h5:=hlt mn _ ho e (by simpa using he) hb;have h6:e.on∉l:=fun h=>by have:=yD _ h;omega
      have h7:=(jl e.on (by omega)).2 h6;have hes:e.on < listed.size:=by omega
      have h8:listed.getD e.on false=true:=by
       simp only[Array.getD,hes,dif_pos] at h7 ⊢;exact h7
      rw[h8];simp
     ·simp at hb;simp[hb]
   rw[DJ] at this;simp at this
  ·obtain ⟨cq,jY,x,hx,uV⟩:=DP i hi
   obtain ⟨s1,h1,h2⟩:=TY hx l st s' (hnd.sublist gS) cq hk (fun p j r fS MP=>by
    have lD:j∈l:=by rw[fS];simp
    obtain ⟨pre,post,tF,Vw⟩:∃ pc qc,canon=pc++j::qc/\∀ y∈r,y∈qc:=by
     have VC:=gS;rw[fS] at VC;obtain ⟨c1,c2,hc,mY,oU⟩:=List.append_sublist_iff.1 VC;obtain ⟨d1,d2,hd,_,hd3⟩:=List.cons_sublist_iff.1 oU;obtain ⟨e1,e2,he⟩:=zY ‹j∈d1›;exact ⟨c1++e1,e2++d2,by rw[hc,hd,he];simp,fun y hy=>im.2 (.inr (hd3.subset hy))⟩
    rcases Xw AZ pre j post tF i (Vw i MP) with h | ⟨y,x',hy,ic,be⟩ | ⟨hsp,sv⟩
    ·exfalso;have gh:((np ops ops.size).getD i 0).testBit j=true:=h
     have:=Hg (D:=fun k=>k∉l) (fun k o bL kL e he hb=>by
      rcases qV k ops.size with hk1 | hk1
      ·exact rn k o hk1 bL kL e he hb
      ·rw[BW hk1] at kL;cases kL) hlt ops.size i x jY hx uV j gh
     exact this lD
    ·obtain rfl:x=x':=by simpa [hx] using ic
     exact ⟨y,hy,.inl be⟩
    ·have hd:=rp j i hsp;unfold Df at hd;unfold LL at sv
     cases hy:ops[j]? with
     | none=>rw[hy] at hd;cases hd
     | some y=>
      rw[hy,hx] at hd sv;simp only at hd sv
      cases ME:ya y x with
      | none=>rw[ME] at hd;cases hd
      | some c=>
       obtain ⟨bb,t1,t,t2,u⟩:=c;rw[ME] at hd sv;simp only[bT,fQ] at hd sv;refine ⟨y,hy,.inr ⟨bb,t1,t,t2,u,ME,sv.1,by rw[Nl];exact hd,fun k bL o ho=>?_⟩⟩
       have hkm:k∈j::post:=by
        rcases gB.1 bL with h | h
        ·simp[h]
        ·exact fI _ (Vw k h)
       have:=sv.2 k hkm;rw[ho] at this;simp only[bT,zF,bne_iff_ne,ne_eq] at this;refine ⟨this.1,this.2.resolve_right fun h=>?_⟩;have gh:((np ops ops.size).getD i 0).testBit k=true:=h
       have:=Hg (D:=fun k=>k∉l) (fun k o bL kL e he hb=>by
        rcases qV k ops.size with hk1 | hk1
        ·exact rn k o hk1 bL kL e he hb
        ·rw[BW hk1] at kL;cases kL) hlt ops.size i x jY hx uV k gh
       exact this (by rw[fS];exact im.2 (.inr bL))) hr
   refine Jh hC hI h1 hs (fun b' iB=>by cases iB;exact fun k bL=>hk k (by simp at bL;rw[bL];exact cq)) fun a' w' g' gy s hd=>?_
   have gh:∀ y,y∈l.erase i↔y∈l/\y≠i:=fun y=>by
    rw[(hnd.sublist gS).mem_erase_iff];exact And.comm
   refine ih (l.erase i) (by rw[List.length_erase_of_mem cq];omega) (List.Sublist.trans List.erase_sublist gS) (listed.setIfInBounds i true) (by simpa using hsz) (fun y hy=>?_) (fun y hy=>hin y ((gh y).1 hy).1) (fun k o hk1 kK kL e he hb lH=>?_) s1 s' a' w' g' Nl h2 (fun k bL o ho hm=>?_) gy fun a'' w'' g'' sJ s' kI=>hq a'' w'' g'' sJ (s.trans s') (kI.trans hd)
   ·have p6:y < listed.size:=by omega
    have hg:(listed.setIfInBounds i true).getD y true=if i=y then true else listed.getD y true:=by
     simp only[jq,E8]
     by_cases mF:i=y
     ·subst mF;simp[p6]
     ·simp[mF]
    rw[hg,gh]
    by_cases mF:i=y
    ·subst mF;simp
    ·rw[aj mF,jl y hy]
     constructor
     ·intro h h';exact h h'.1
     ·intro h h';exact h ⟨h',fun he=>mF he.symm⟩
   ·have wM:=(gh _).1 lH
    by_cases jt:k=i
    ·subst jt;obtain rfl:x=o:=by simpa [hx] using kL
     exact uV e he hb wM.1
    ·exact rn k o hk1 (fun h=>kK ((gh k).2 ⟨h,jt⟩)) kL e he hb wM.1
   ·exact Je h1 (fun k' MS=>hk k' ((gh k').1 MS).1) (fun h=>((gh i).1 h).2 rfl) k bL o ho hm
theorem qj8 (hC:CfgOk C) {callI:Nat->List AV->af->OM} (hI:rP C callI) {R:Type} {fid id:Nat} {ops:Array Oper} {Q:Exit->Act->World->Prop} {canon:List Nat} {ah:List Nat} {pr:Nat×Nat} {sp:List (Nat×Nat)} (be:yg C.P ops canon ah (pr::sp)=true) {st:St} {K:St->Option R} {r:R} {a:Act}
  (h:mh C fid (jB callI) callI (some st.mem.length) ops canon ⟨st.tmps,dG st.mem (fG ops ops.size)⟩ (fun st'=>tb C.P ops st' K (pr::sp))=some r) (hs:StR B w g st a)
  (hn:∀ s' a' w' g',K s'=some r->StR B w' g' s' a'->Step B w g w' g'->iN C.P a' a->Q .normal a' w'):(Code.region id ops true).wp C.P Q a w:=by
 obtain ⟨h1,h2,h3,h4⟩:=qj3 be;have lK:canon.Perm (List.range ops.size):=List.isPerm_iff.1 h2
 have hlt:∀ k o,ops[k]?=some o->∀ e∈o.after.toList,Region.binds .any e=true->e.on < k:=by
  intro k o hk e he hb;have fL:=(fE.1 hk).1;have:=fQ.1 h3 k (by simpa using fL);rw[hk] at this;simp only at this;have:=rO.1 this e (by simpa using he);simpa [hb] using this
 rw[sY,Yi] at h;simp only[bc] at h;obtain ⟨s',hr,hK⟩:=h;obtain ⟨hK,rp⟩:=Ze _ hK;refine wp_region_any h1 ?_
 refine qha hC hI hlt h4 rp (lK.nodup_iff.2 List.nodup_range) canon ops.size (by rw[lK.length_eq];simp) (List.Sublist.refl _) _ (by simp) (fun x hx=>?_) (fun x hx=>by simpa using lK.mem_iff.1 hx) (fun k o hk bL=>?_) _ s' a _ g rfl hr (VT ops st.mem canon) ⟨hs.tmp.step (Step.drew B w g),WU (B:=B) (w:=w.drew) (g:=g) hs.mem.drew _,hs.size⟩ ?_
 ·have:x∈canon:=lK.mem_iff.2 (by simpa using hx);simp[this,Array.getD,hx]
 ·exact absurd (lK.mem_iff.2 (by simpa using hk)) bL
 ·intro a' w' g' gy s hd;exact hn s' a' w' g' hK gy ((Step.drew B w g).trans s) hd
end
end Go.Ab
namespace Go.Ab
open Go.RowKit
section
variable {R:Type}
open Classical in
noncomputable def tZ (p:Prop) (x:Option R):Option R:=if p then x else none
theorem vp {p:Prop} {x:Option R} (h:p):tZ p x=x:=an h
theorem ql6 {p:Prop} {x:Option R} (h:¬ p):tZ p x=none:=aj h
def wo (o:Oper) (ts:List AV):AV:=match o.dst with
 | some d=>ts.getD d .any
 | none=>.any
def ph (C:Cfg) (fid:Nat) (ops:Array Oper) (y:Nat) (s:St):Prop:=match ops[y]? with
 | some o=>gQ C fid (fun _ _=>none) (fun _ _ _=>none) none ops y o s.tmps s.mem=some (wo o s.tmps,s.mem)
 | none=>True
noncomputable def wh (C:Cfg) (fid:Nat) (ops:Array Oper):List Nat->St->Option R->Option R
 | [],_,x=>x
 | y::ys,s,x=>tZ (ph C fid ops y s) (wh C fid ops ys s x)
theorem Ar {C:Cfg} {fid:Nat} {ops:Array Oper}:∀ {ys:List Nat} {s:St} {x:Option R},(∀ y∈ys,ph C fid ops y s)->wh C fid ops ys s x=x
 | [],_,_,_=>rfl
 | y::ys,s,x,h=>by
  rw[wh,vp (h y fJ)];exact Ar fun z hz=>h z (fI _ hz)
theorem LD {C:Cfg} {fid:Nat} {ops:Array Oper}:∀ {ys:List Nat} {s:St} {x:Option R},¬ (∀ y∈ys,ph C fid ops y s)->wh C fid ops ys s x=none
 | [],_,_,h=>absurd (fun _ hz=>by cases hz) h
 | y::ys,s,x,h=>by
  rw[wh]
  by_cases hy:ph C fid ops y s
  ·rw[vp hy]
   exact LD fun hh=>h fun z hz=>by
    rcases gB.1 hz with rfl | hz
    ·exact hy
    ·exact hh z hz
  ·exact ql6 hy
theorem LF {C:Cfg} {fid:Nat} {ops:Array Oper} {ys:List Nat} {s:St} {x:Option R} {r:R} (h:wh C fid ops ys s x=some r):(∀ y∈ys,ph C fid ops y s)/\x=some r:=by
 by_cases hc:∀ y∈ys,ph C fid ops y s
 ·rw[Ar hc] at h;exact ⟨hc,h⟩
 ·rw[LD hc] at h;cases h
noncomputable def qf (C:Cfg) (fid:Nat) (callP:Nat->List AV->Option AV) (callI:Nat->List AV->af->OM) (lt:List (Nat×List Nat)) (ops:Array Oper):List Nat->St->(St->Option R)->Option R
 | [],st,K=>K st
 | i::l,st,K=>mh C fid callP callI none ops [i] st fun s1=>wh C fid ops (p8 lt i) s1 (qf C fid callP callI lt ops l s1 K)
end
section
variable {C:Cfg} {fid:Nat} {callP:Nat->List AV->Option AV} {callI:Nat->List AV->af->OM}
theorem xd {R:Type} (lt:List (Nat×List Nat)) (ops:Array Oper) (i:Nat) (l:List Nat) (st:St) (K:St->Option R) :
  qf C fid callP callI lt ops (i::l) st K=(fF C fid callP callI none ops i st).bind fun s1=>wh C fid ops (p8 lt i) s1 (qf C fid callP callI lt ops l s1 K):=by
 rw[qf,sY];simp only[gW];cases fF C fid callP callI none ops i st<;>rfl
def vK (C:Cfg) (fid:Nat) (callP:Nat->List AV->Option AV) (callI:Nat->List AV->af->OM) (lt:List (Nat×List Nat)) (ops:Array Oper):List Nat->List Nat->St->Prop
 | _,[],_=>True
 | done,i::l,st=>∀ s1,fF C fid callP callI none ops i st=some s1->(∀ y∈p8 lt i,y∈done->ph C fid ops y s1)/\vK C fid callP callI lt ops (i::done) l s1
theorem vK.anti {lt:List (Nat×List Nat)} {ops:Array Oper}:∀ {l done done':List Nat} {st:St},vK C fid callP callI lt ops done l st->(∀ y∈done',y∈done)->vK C fid callP callI lt ops done' l st
 | [],_,_,_,_,_=>trivial
 | i::l,done,done',st,h,hd=>fun s1 h1=>by
  obtain ⟨a,b⟩:=h s1 h1;refine ⟨fun y hy hyd=>a y hy (hd y hyd),b.anti fun y hy=>?_⟩
  rcases gB.1 hy with rfl | hy
  ·exact fJ
  ·exact fI _ (hd y hy)
theorem Yu {R:Type} {lt:List (Nat×List Nat)} {ops:Array Oper}:∀ {l:List Nat} {st:St} {K:St->Option R} {r:R} (done:List Nat),qf C fid callP callI lt ops l st K=some r ->
  ∃ s',gW C fid callP callI none ops l st=some s'/\K s'=some r/\vK C fid callP callI lt ops done l st
 | [],st,K,r,_,h=>⟨st,rfl,h,trivial⟩
 | i::l,st,K,r,done,h=>by
  rw[xd,bc] at h;obtain ⟨s1,h1,h⟩:=h;obtain ⟨hc,h⟩:=LF h;obtain ⟨s',h2,h3,h4⟩:=Yu (i::done) h;refine ⟨s',by simp only[gW,h1,aa];exact h2,h3,fun s1' sj=>?_⟩;rw[h1] at sj;obtain rfl:=po sj;exact ⟨fun y hy _=>hc y hy,h4⟩
theorem LJ {o:Oper} (h:iS o=.N):iZ o=.N:=by
 unfold iS at h
 split at h
 ·assumption
 ·split at h<;>cases h
 ·cases h
theorem TC {o:Oper} (h:iS o=.L):∃ t x,o.op=.load t x:=by
 unfold iS at h
 split at h
 ·cases h
 ·split at h
  ·rename_i t x ho;exact ⟨t,x,ho⟩
  ·cases h
 ·cases h
theorem IN {d:Option Nat} {o:Oper} {ρ:Operand->AV} {m m1:af} {v:AV} (hc:iS o=.L) (h:fN C fid callP callI d o ρ m=some (v,m1)):m1=m:=by
 obtain ⟨t,x,ho⟩:=TC hc;unfold fN kB at h;rw[ho] at h;simp only at h
 split at h
 ·obtain ⟨v',h1,h2⟩:=bc.1 h;simp only[bG,fe] at h2;exact h2.2.symm
 ·cases h
theorem qo3 {ops:Array Oper} {i j:Nat} {st s1 s2:St} {x y:Oper} (hx:ops[i]?=some x) (hy:ops[j]?=some y) (be:vH ops x y=true)
  (h1:fF C fid callP callI none ops i st=some s1) (h2:fF C fid callP callI none ops j s1=some s2):∃ s1',fF C fid callP callI none ops j st=some s1'/\fF C fid callP callI none ops i s1'=some s2:=by
 obtain ⟨x',vi,mi,ic,ov,rfl⟩:=s9 h1;obtain rfl:x=x':=by simpa [hx] using ic
 obtain ⟨y',vj,mj,yQ,kn,rfl⟩:=s9 h2;obtain rfl:y=y':=by simpa [hy] using yQ
 unfold vH at be;simp only[bT] at be;obtain ⟨tH,uU⟩:=be;obtain ⟨a1,a2,a3⟩:=Hh uU;simp only at kn;have cj:∀ m,gQ C fid callP callI none ops j y (fZ st.tmps x.dst vi) m=gQ C fid callP callI none ops j y st.tmps m:=fun m=>y7 fun t ht=>vG fun hd=>a1 t hd ht;have ci:∀ v m,gQ C fid callP callI none ops i x (fZ st.tmps y.dst v) m=gQ C fid callP callI none ops i x st.tmps m:=fun v m=>y7 fun t ht=>vG fun hd=>a2 t hd ht;rw[cj] at kn
 have enough:∀ m1,gQ C fid callP callI none ops j y st.tmps st.mem=some (vj,m1)->gQ C fid callP callI none ops i x st.tmps m1=some (vi,mj) ->
   ∃ s1',fF C fid callP callI none ops j st=some s1'/\fF C fid callP callI none ops i s1'=some ⟨fZ (fZ st.tmps x.dst vi) y.dst vj,mj⟩:=by
  intro m1 e1 e2;refine ⟨⟨fZ st.tmps y.dst vj,m1⟩,by simp[fF,hy,e1],?_⟩;simp only[fF,hx,ci,e2,aQ];rw[OV a3]
 have nI:iS x=.N->mi=st.mem/\∀ m',gQ C fid callP callI none ops i x st.tmps m'=some (vi,m'):=fun hc=>by
  rcases oE ov with ⟨hf,hall⟩ | ⟨rfl,hall⟩
  ·obtain ⟨rfl,h⟩:=Bp (LJ hc) hf;exact ⟨rfl,fun m'=>(hall m').trans (h m')⟩
  ·exact ⟨rfl,hall⟩
 have nJ:iS y=.N->mj=mi/\∀ m',gQ C fid callP callI none ops j y st.tmps m'=some (vj,m'):=fun hc=>by
  rcases oE kn with ⟨hf,hall⟩ | ⟨rfl,hall⟩
  ·obtain ⟨rfl,h⟩:=Bp (LJ hc) hf;exact ⟨rfl,fun m'=>(hall m').trans (h m')⟩
  ·exact ⟨rfl,hall⟩
 have lI:iS x=.L->mi=st.mem:=fun hc=>by
  rcases oE ov with ⟨hf,_⟩ | ⟨rfl,_⟩
  ·exact IN hc hf
  ·rfl
 have lJ:iS y=.L->mj=mi:=fun hc=>by
  rcases oE kn with ⟨hf,_⟩ | ⟨rfl,_⟩
  ·exact IN hc hf
  ·rfl
 cases mU:iS x with
 | N=>
  obtain ⟨rfl,hall⟩:=nI mU;exact enough mj kn (hall mj)
 | L=>
  obtain rfl:=lI mU
  cases jX:iS y with
  | N=>
   obtain ⟨rfl,hall⟩:=nJ jX;exact enough _ kn ov
  | L=>
   obtain rfl:=lJ jX;exact enough _ kn ov
  | _=>rw[mU,jX] at tH;cases tH
 | _=>
  cases jX:iS y with
  | N=>
   obtain ⟨rfl,hall⟩:=nJ jX;exact enough _ (hall _) ov
  | _=>rw[mU,jX] at tH;cases tH
theorem qng {cp':Nat->List AV->Option AV} {ci':Nat->List AV->af->OM} {d d':Option Nat} {o:Oper} {ρ:Operand->AV} {m:af} (hc:iS o=.L):fN C fid callP callI d o ρ m=fN C fid cp' ci' d' o ρ m:=by
 obtain ⟨t,x,ho⟩:=TC hc;unfold fN kB;rw[ho]
theorem qnj {cp':Nat->List AV->Option AV} {ci':Nat->List AV->af->OM} {ops:Array Oper} {i:Nat} {o:Oper} {ts:List AV} {m:af} (hc:iS o=.L):gQ C fid callP callI none ops i o ts m=gQ C fid cp' ci' none ops i o ts m:=by
 unfold gQ;rw[qng (callP:=callP) (callI:=callI) (cp':=cp') (ci':=ci') (d':=Option.map (· + fG ops i) none) hc]
theorem Dp {ts:List AV} {d:Option Nat} {v:AV} {t:Nat}:(fZ ts d v).getD t .any=if d=some t/\t < ts.length then v else ts.getD t .any:=by
 cases d with
 | none=>simp[fZ]
 | some d=>
  simp only[fZ,aT,List.getElem?_set,bG]
  by_cases h:d=t
  ·subst h
   by_cases hl:d < ts.length
   ·simp[hl]
   ·simp[hl]
  ·simp[h]
theorem ph.same {ops:Array Oper} {y:Nat} {s s':St} (hm:s'.mem=s.mem) (ht:∀ oy,ops[y]?=some oy->(∀ t∈pH ops oy,s'.tmps.getD t .any=s.tmps.getD t .any)/\wo oy s'.tmps=wo oy s.tmps) (h:ph C fid ops y s):ph C fid ops y s':=by
 unfold ph at h ⊢
 cases ho:ops[y]? with
 | none=>trivial
 | some oy=>
  rw[ho] at h;simp only at h ⊢;obtain ⟨h1,h2⟩:=ht oy ho;rw[y7 h1,h2,hm];exact h
theorem qo0 {ops:Array Oper} {i j:Nat} {st s1 s2:St} {x y:Oper} (hx:ops[i]?=some x) (hy:ops[j]?=some y) (be:yW ops y x=true)
  (h1:fF C fid callP callI none ops j st=some s1) (h2:fF C fid callP callI none ops i s1=some s2) (hc:ph C fid ops j s2):∃ s1',fF C fid callP callI none ops i st=some s1'/\fF C fid callP callI none ops j s1'=some s2:=by
 obtain ⟨y',vj,mj,yQ,kn,rfl⟩:=s9 h1;obtain rfl:y=y':=by simpa [hy] using yQ
 obtain ⟨x',vi,mi,ic,ov,rfl⟩:=s9 h2;obtain rfl:x=x':=by simpa [hx] using ic
 unfold yW at be;simp only[bT] at be;obtain ⟨hcl,uU,vo⟩:=be
 have hcl:iS y=.L:=by split at hcl<;>first | assumption | cases hcl
 obtain ⟨a1,a2,a3⟩:=Hh uU;have vo:∀ d,y.dst=some d->d∉pH ops y:=fun d hd=>by rw[hd] at vo;simpa using vo
 have M7:mj=st.mem:=by
  rcases oE kn with ⟨hf,_⟩ | ⟨rfl,_⟩
  ·exact IN hcl hf
  ·rfl
 subst M7;simp only at ov
 have qlK:gQ C fid callP callI none ops i x st.tmps st.mem=some (vi,mi):=by
  rw[<- ov];exact (y7 fun t ht=>vG fun hd=>a1 t hd ht).symm
 unfold ph at hc;rw[hy] at hc;simp only at hc
 have oR:gQ C fid callP callI none ops j y (fZ st.tmps x.dst vi) mi=some (wo y (fZ (fZ st.tmps y.dst vj) x.dst vi),mi):=by
  rw[qnj (callP:=callP) (callI:=callI) (cp':=fun _ _=>none) (ci':=fun _ _ _=>none) hcl,<- hc];refine y7 fun t ht=>?_;rw[Dp,Dp,Dp];have:y.dst≠some t:=fun hd=>vo t hd ht;have hl:(fZ st.tmps y.dst vj).length=st.tmps.length:=by cases y.dst<;>simp[fZ]
  simp only[this,false_and,lL,hl]
 refine ⟨⟨fZ st.tmps x.dst vi,mi⟩,by simp[fF,hx,qlK],?_⟩;simp only[fF,hy,oR,aQ,bG,St.mk.injEq,and_true]
 cases hd:y.dst with
 | none=>simp[fZ]
 | some d=>
  have VH:x.dst≠some d:=fun he=>by rcases a3 with h | h<;>simp_all
  have e1:wo y (fZ (fZ st.tmps (some d) vj) x.dst vi)=if d < st.tmps.length then vj else .any:=by
   unfold wo;rw[hd];simp only;rw[Dp,Dp];simp only[VH,false_and,lL,true_and]
   by_cases hl:d < st.tmps.length
   ·rw[an hl,an hl]
   ·rw[aj hl,aj hl];simp[aT,mQ (vS hl)]
  rw[e1]
  by_cases hl:d < st.tmps.length
  ·rw[an hl];exact (OV (.inr (fun he=>VH he))).trans rfl |>.symm▸rfl
  ·have wF:st.tmps.length<=d:=vS hl
   have hn:∀ (ts:List AV) v,ts.length=st.tmps.length->fZ ts (some d) v=ts:=fun ts v hle=>by
    simp only[fZ];exact List.set_eq_of_length_le (hle▸wF)
   rw[hn _ _ (by cases x.dst<;>simp[fZ]),hn st.tmps vj rfl]
theorem Jg {ops:Array Oper} {i:Nat} {x:Oper} {st s1:St} {base:Option Nat} (hx:ops[i]?=some x) (h:fF C fid callP callI base ops i st=some s1) (t:Nat) (ht:x.dst≠some t):s1.tmps.getD t .any=st.tmps.getD t .any:=by
 obtain ⟨x',v,m,ic,_,rfl⟩:=s9 h;obtain rfl:x=x':=by simpa [hx] using ic
 exact vG ht
theorem YW {ops:Array Oper} {i:Nat} {x:Oper} {st s1:St} (hx:ops[i]?=some x) (h:fF C fid callP callI none ops i st=some s1) (hc:iS x=.N\/iS x=.L):s1.mem=st.mem:=by
 obtain ⟨x',v,m,ic,hr,rfl⟩:=s9 h;obtain rfl:x=x':=by simpa [hx] using ic
 rcases oE hr with ⟨hf,_⟩ | ⟨rfl,_⟩
 ·rcases hc with hc | hc
  ·exact (Bp (LJ hc) hf).1
  ·exact IN hc hf
 ·rfl
def xS (ops:Array Oper) (lt:List (Nat×List Nat)) (y:Nat) (l:List Nat):Prop:=(lt.any fun p=>p.2.contains y)=true->∀ oy,ops[y]?=some oy->∀ k∈l,∀ o,ops[k]?=some o->∀ d,o.dst=some d->d∉pH ops oy/\oy.dst≠some d
theorem V8 {lt:List (Nat×List Nat)} {i y:Nat} (h:y∈p8 lt i):(lt.any fun p=>p.2.contains y)=true:=by
 induction lt with
 | nil=>cases h
 | cons p lt ih=>
  obtain ⟨k,ys⟩:=p;simp only[p8] at h;simp only[List.any_cons,zF]
  split at h
  ·exact .inl (by simpa using h)
  ·exact .inr (ih h)
theorem qoK {ops:Array Oper} {x:Oper} {l:List Nat} (h:YT ops x l=true):∀ k∈l,∀ o,ops[k]?=some o->∀ d,o.dst=some d->d∉pH ops x/\x.dst≠some d:=by
 intro k hk o ho d hd;have:=fQ.1 h k hk;rw[ho] at this;simp only[hd] at this;simpa using this
structure Facts (ops:Array Oper) (lt:List (Nat×List Nat)) (l:List Nat):Prop where
 late:∀ j∈l,∀ x,ops[j]?=some x->p8 lt j≠[]->iS x=.W
 still:∀ (p q:List Nat) (j:Nat),l=p++j::q->xS ops lt j q
theorem Facts.tail {ops:Array Oper} {lt:List (Nat×List Nat)} {j:Nat} {l:List Nat} (h:Facts ops lt (j::l)):Facts ops lt l:=
 ⟨fun k hk=>h.late k (fI _ hk),fun p q k e=>h.still (j::p) q k (by rw[e];rfl)⟩
theorem xS.sub {ops:Array Oper} {lt:List (Nat×List Nat)} {y:Nat} {l l':List Nat} (h:xS ops lt y l) (hs:∀ k∈l',k∈l):xS ops lt y l':=fun a oy b k hk=>h a oy b k (hs k hk)
theorem Facts.sub {ops:Array Oper} {lt:List (Nat×List Nat)} {l l':List Nat} (h:Facts ops lt l) (hs:l'.Sublist l):Facts ops lt l':=by
 refine ⟨fun k hk=>h.late k (hs.subset hk),fun p q j e=>?_⟩;subst e;obtain ⟨c1,c2,rfl,mY,oU⟩:=List.append_sublist_iff.1 hs;obtain ⟨d1,d2,rfl,yt,Dy⟩:=List.cons_sublist_iff.1 oU;obtain ⟨e1,e2,rfl⟩:=zY yt;have:=h.still (c1++e1) (e2++d2) j (by simp);exact this.sub fun k hk=>im.2 (.inr (Dy.subset hk))
theorem Xy {ops:Array Oper} {ah:List Nat} {lt:List (Nat×List Nat)}:∀ {l:List Nat},vC ops ah lt l=true->Facts ops lt l
 | [],_=>⟨fun _ h=>by simp at h,fun p q j e=>by simp at e⟩
 | j::l,h=>by
  simp only[vC,bT] at h;obtain ⟨⟨_,h1⟩,h2⟩:=h;have ih:=Xy h2
  have hj:∀ x,ops[j]?=some x->(p8 lt j≠[]->iS x=.W)/\xS ops lt j l:=fun x hx=>by
   rw[hx] at h1;simp only[bT,zF] at h1
   refine ⟨fun hne=>?_,fun ha oy H7=>?_⟩
   ·have:=h1.1
    split at this
    ·rename_i he;exact absurd he hne
    ·split at this<;>first | assumption | cases this
   ·obtain rfl:x=oy:=by simpa [hx] using H7
    rcases h1.2 with hh | hh
    ·rw[ha] at hh;cases hh
    ·exact qoK hh
  refine ⟨fun k hk x hx=>?_,fun p q k e=>?_⟩
  ·rcases gB.1 hk with rfl | hk
   ·exact (hj x hx).1
   ·exact ih.late k hk x hx
  ·match p,e with
   | [],e=>
    simp only[bE,pj] at e;obtain ⟨rfl,rfl⟩:=e
    cases hx:ops[j]? with
    | none=>intro _ oy H7;rw[hx] at H7;cases H7
    | some x=>exact (hj x hx).2
   | k'::p,e=>
    simp only[bQ,pj] at e;exact ih.still p q k e.2
theorem qnr {ops:Array Oper} {ah:List Nat} {lt:List (Nat×List Nat)} {canon l:List Nat} (h:vC ops ah lt canon=true) (hs:l.Sublist canon):Facts ops lt l:=(Xy h).sub hs
theorem qo1 {ops:Array Oper} {x y:Oper} (h:vH ops x y=true) (hw:iS x=.W):iS y=.N:=by
 unfold vH at h;simp only[bT] at h;rw[hw] at h
 cases hy:iS y<;>rw[hy] at h<;>first | rfl | exact absurd h.1 (by simp)
theorem qo2 {ops:Array Oper} {x y:Oper} (h:vH ops x y=true) (hw:iS y=.W):iS x=.N:=by
 unfold vH at h;simp only[bT] at h;rw[hw] at h
 cases hy:iS x<;>rw[hy] at h<;>first | rfl | exact absurd h.1 (by simp)
theorem T4 {lt:List (Nat×List Nat)} {ops:Array Oper} {i:Nat} {x:Oper} (hx:ops[i]?=some x):∀ (l done:List Nat) (st s':St),l.Nodup->i∈l->vK C fid callP callI lt ops done l st->Facts ops lt l->(∀ y∈done,xS ops lt y l) ->
  (∀ (p q:List Nat),l=p++i::q->∀ j∈p,∃ y,ops[j]?=some y/\(vH ops y x=true\/(j∈p8 lt i/\yW ops y x=true))) ->
  gW C fid callP callI none ops l st=some s'->∃ s1,fF C fid callP callI none ops i st=some s1/\gW C fid callP callI none ops (l.erase i) s1=some s'/\vK C fid callP callI lt ops done (l.erase i) s1/\(∀ y∈p8 lt i,y∈done->ph C fid ops y s1)
 | [],_,_,_,_,hi,_,_,_,_,_=>by simp at hi
 | j::l,done,st,s',hnd,hi,js,HU,gI,wS,hr=>by
  simp only[gW,bc] at hr;obtain ⟨s1,h1,hr⟩:=hr;obtain ⟨uW,pD⟩:=js s1 h1
  by_cases he:j=i
  ·subst he;refine ⟨s1,h1,by simpa using hr,?_,uW⟩;rw[List.erase_cons_head];exact pD.anti fun y hy=>fI _ hy
  ·have cq:i∈l:=by rcases gB.1 hi with h | h<;>first | exact absurd h.symm he | exact h
   have yG:=(uC.1 hnd)
   have qlV:∀ y∈j::done,xS ops lt y l:=fun y hy=>by
    rcases gB.1 hy with rfl | hy
    ·exact HU.still [] l y rfl
    ·exact (gI y hy).sub fun k hk=>fI _ hk
   obtain ⟨s2,h2,tQ,hgo,UN⟩:=T4 hx l (j::done) s1 s' yG.2 cq pD HU.tail qlV (fun p q fS k tN=>wS (j::p) q (by rw[fS];rfl) k (by simp[tN])) hr;obtain ⟨p,q,fS⟩:=zY cq;obtain ⟨y,hy,be⟩:=wS (j::p) q (by rw[fS];rfl) j (by simp)
   obtain ⟨s1',k1,k2⟩:∃ s1',fF C fid callP callI none ops i st=some s1'/\fF C fid callP callI none ops j s1'=some s2:=by
    rcases be with be | ⟨hm,be⟩
    ·exact qo3 hy hx be h1 h2
    ·exact qo0 hx hy be h1 h2 (UN j hm fJ)
   have DB:(j::l).erase i=j::l.erase i:=by
    rw[List.erase_cons,aj (by simpa using he)]
   rw[DB]
   refine ⟨s1',k1,by simp only[gW,k2,aa];exact tQ,fun s2' iz=>?_,fun z hz D3=>?_⟩
   ·rw[k2] at iz;obtain rfl:=po iz;refine ⟨fun z hz D3=>?_,hgo⟩;have Va:=HU.late j fJ y hy (fun h=>by rw[h] at hz;cases hz)
    have hxn:iS x=.N:=by
     rcases be with be | ⟨_,be⟩
     ·exact qo1 be Va
     ·unfold yW at be;rw[Va] at be;simp at be
    refine (uW z hz D3).same (YW hx h2 (.inl hxn)) fun oz Nc=>?_;have hs:=gI z D3 (V8 hz) oz Nc i (fI _ cq) x hx;refine ⟨fun t ht=>Jg hx h2 t fun hd=>(hs t hd).1 ht,?_⟩;unfold wo
    cases hd:oz.dst with
    | none=>rfl
    | some d=>exact Jg hx h2 d fun kI=>(hs d kI).2 hd
   ·have hiw:=HU.late i (fI _ cq) x hx (fun h=>by rw[h] at hz;cases hz)
    have hyn:iS y=.N\/iS y=.L:=by
     rcases be with be | ⟨_,be⟩
     ·exact .inl (qo2 be hiw)
     ·unfold yW at be;simp only[bT] at be;have:=be.1;right
      split at this<;>first | assumption | cases this
    refine (UN z hz (fI _ D3)).same (YW hy k2 hyn).symm fun oz Nc=>?_;have hs:=gI z D3 (V8 hz) oz Nc j fJ y hy;refine ⟨fun t ht=>(Jg hy k2 t fun hd=>(hs t hd).1 ht).symm,?_⟩;unfold wo
    cases hd:oz.dst with
    | none=>rfl
    | some d=>exact (Jg hy k2 d fun kI=>(hs d kI).2 hd).symm
theorem Xz {ops:Array Oper} {ah:List Nat} {lt:List (Nat×List Nat)}:∀ {l:List Nat},vC ops ah lt l=true->∀ (p q:List Nat) (i:Nat),l=p++i::q->∀ j∈p,(ah.getD i 0).testBit j=true\/∃ x y,ops[j]?=some x/\ops[i]?=some y/\(vH ops x y=true\/(j∈p8 lt i/\yW ops x y=true))
 | [],_,p,q,i,h,_,_=>by simp at h
 | k::l,hp,p,q,i,h,j,hj=>by
  simp only[vC,bT,fQ] at hp
  match p,h with
  | k'::p,h=>
   simp only[bQ,pj] at h;obtain ⟨rfl,rfl⟩:=h
   rcases gB.1 hj with rfl | hj
   ·have:=hp.1.1 i (by simp)
    rcases Bool.or_eq_true_iff.1 this with h | h
    ·exact .inl h
    ·refine .inr ?_
     split at h
     ·refine ⟨_,_,by assumption,by assumption,?_⟩
      rcases Bool.or_eq_true_iff.1 h with h | h
      ·exact .inl h
      ·simp only[bT] at h;exact .inr ⟨by simpa using h.1,h.2⟩
     ·cases h
   ·exact Xz hp.2 p q i rfl j hj
end
section
variable [WInv] {C:Cfg} {B:Nat} {w:World} {g:G}
theorem qhb (hC:CfgOk C) {callI:Nat->List AV->af->OM} (hI:rP C callI) {fid:Nat} {lt:List (Nat×List Nat)} {ops:Array Oper} {Q:Exit->Act->World->Prop} {canon:List Nat} (hlt:∀ k o,ops[k]?=some o->∀ e∈o.after.toList,Region.binds .any e=true->e.on < k)
  (AZ:vC ops (uH ops) lt canon=true) (hnd:canon.Nodup):∀ (l:List Nat) (n:Nat),l.length=n->l.Sublist canon->∀ (listed:Array Bool),listed.size=ops.size->(∀ x,x < ops.size->(listed.getD x true=true↔x∉l))->(∀ x∈l,x < ops.size) ->
  (∀ k o,k < ops.size->k∉l->ops[k]?=some o->∀ e∈o.after.toList,Region.binds .any e=true->e.on∉l) ->
  ∀ (st s':St) (a:Act) (w:World) (g:G),gW C fid (jB callI) callI none ops l st=some s'->vK C fid (jB callI) callI lt ops [] l st->StR B w g st a ->
  (∀ a' w' g',StR B w' g' s' a'->Step B w g w' g'->iN C.P a' a->Q .normal a' w')->wpAny C.P .any ops Q n listed a w:=by
 intro l n hn
 induction n generalizing l with
 | zero=>
  intro gS listed hsz jl hin rn st s' a w g hr js hs hq;have vd:l=[]:=nY hn;subst vd;simp only[gW,bG] at hr;subst hr;refine ⟨?_,hq a w g hs (Step.refl _ _ _) (iN.refl _ _)⟩;unfold Region.ready;rw[List.filter_eq_nil_iff];intro x hx;have:listed.getD x true=true:=(jl x (by simpa using hx)).2 (by simp);simp[this]
 | succ n ih=>
  intro gS listed hsz jl hin rn st s' a w g hr js hs hq
  have DP:∀ i∈Region.ready .any ops listed,i∈l/\i < ops.size/\∃ o,ops[i]?=some o/\∀ e∈o.after.toList,Region.binds .any e=true->e.on∉l:=by
   intro i hi;unfold Region.ready at hi;simp only[rX,uz,bT,xA] at hi;obtain ⟨h1,h2,h3⟩:=hi
   have cq:i∈l:=by
    by_cases h:i∈l
    ·exact h
    ·have:=(jl i h1).2 h;rw[this] at h2;cases h2
   refine ⟨cq,h1,ops[i],by simp[h1],fun e he hb lH=>?_⟩;have ho:ops[i]?=some ops[i]:=by simp[h1]
   rw[ho] at h3;simp only[aQ,fg] at h3;have h4:=rO.1 h3 e (by simpa using he);simp only[hb,jN,zE] at h4;have h5:=hlt i _ ho e he hb
   have h6:listed.getD e.on true=true:=by
    have hes:e.on < listed.size:=by omega
    simp only[Array.getD,hes,dif_pos] at h4 ⊢;exact h4
   exact (jl e.on (by omega)).1 h6 lH
  refine ⟨fun DJ=>?_,fun i hi=>?_⟩
  ·
   exfalso;have hne:l≠[]:=fun h=>by rw[h] at hn;simp at hn
   obtain ⟨mn,wI,yD⟩:∃ mn∈l,∀ x∈l,mn<=x:=by
    exact Is l hne
   have jv:=hin mn wI
   have:mn∈Region.ready .any ops listed:=by
    unfold Region.ready;simp only[rX,uz,bT,xA]
    refine ⟨jv,?_,?_⟩
    ·cases hb:listed.getD mn true with
     | false=>rfl
     | true=>exact absurd wI ((jl mn jv).1 hb)
    ·have ho:ops[mn]?=some ops[mn]:=by simp[jv]
     rw[ho];simp only[aQ,fg];rw[rO];intro e he
     by_cases hb:Region.binds .any e=true
     ·have h5:=hlt mn _ ho e (by simpa using he) hb;have h6:e.on∉l:=fun h=>by have:=yD _ h;omega
      have h7:=(jl e.on (by omega)).2 h6;have hes:e.on < listed.size:=by omega
      have h8:listed.getD e.on false=true:=by
       simp only[Array.getD,hes,dif_pos] at h7 ⊢;exact h7
      rw[h8];simp
     ·simp at hb;simp[hb]
   rw[DJ] at this;simp at this
  ·obtain ⟨cq,jY,x,hx,uV⟩:=DP i hi
   obtain ⟨s1,h1,h2,pD,_⟩:=T4 hx l [] st s' (hnd.sublist gS) cq js (qnr AZ gS) (fun y hy=>by simp at hy) (fun p q fS j hj=>by
    obtain ⟨pre,post,tF⟩:∃ pc qc,canon=pc++i::qc/\∀ y∈p,y∈pc:=by
     rw[fS] at gS;obtain ⟨c1,c2,hc,mY,oU⟩:=List.append_sublist_iff.1 gS
     obtain ⟨d1,d2,hd,hdi⟩:∃ d1 d2,c2=d1++i::d2/\True:=by
      have:=oU.subset (fJ);obtain ⟨d1,d2,hd⟩:=zY this;exact ⟨d1,d2,hd,trivial⟩
     exact ⟨c1++d1,d2,by rw[hc,hd];simp,fun y hy=>im.2 (.inl (mY.subset hy))⟩
    rcases Xz AZ pre post i tF.1 j (tF.2 j hj) with h | ⟨y,x',hy,ic,be⟩
    ·exfalso;have gh:((np ops ops.size).getD i 0).testBit j=true:=h
     have:=Hg (D:=fun k=>k∉l) (fun k o bL kL e he hb=>by
      rcases qV k ops.size with hk1 | hk1
      ·exact rn k o hk1 bL kL e he hb
      ·rw[BW hk1] at kL;cases kL) hlt ops.size i x jY hx uV j gh
     exact this (by rw[fS];simp[hj])
    ·obtain rfl:x=x':=by simpa [hx] using ic
     exact ⟨y,hy,be⟩) hr
   refine Jh hC hI h1 hs (fun b' iB=>by cases iB) fun a' w' g' gy s hd=>?_
   have gh:∀ y,y∈l.erase i↔y∈l/\y≠i:=fun y=>by
    rw[(hnd.sublist gS).mem_erase_iff];exact And.comm
   refine ih (l.erase i) (by rw[List.length_erase_of_mem cq];omega) (List.Sublist.trans List.erase_sublist gS) (listed.setIfInBounds i true) (by simpa using hsz) (fun y hy=>?_) (fun y hy=>hin y ((gh y).1 hy).1) (fun k o hk1 kK kL e he hb lH=>?_) s1 s' a' w' g' h2 pD gy fun a'' w'' g'' sJ s' kI=>hq a'' w'' g'' sJ (s.trans s') (kI.trans hd)
   ·have p6:y < listed.size:=by omega
    have hg:(listed.setIfInBounds i true).getD y true=if i=y then true else listed.getD y true:=by
     simp only[jq,E8]
     by_cases mF:i=y
     ·subst mF;simp[p6]
     ·simp[mF]
    rw[hg,gh]
    by_cases mF:i=y
    ·subst mF;simp
    ·rw[aj mF,jl y hy]
     constructor
     ·intro h h';exact h h'.1
     ·intro h h';exact h ⟨h',fun he=>mF he.symm⟩
   ·have wM:=(gh _).1 lH
    by_cases jt:k=i
    ·subst jt;obtain rfl:x=o:=by simpa [hx] using kL
     exact uV e he hb wM.1
    ·exact rn k o hk1 (fun h=>kK ((gh k).2 ⟨h,jt⟩)) kL e he hb wM.1
theorem qj5 {P:Program} {ops:Array Oper} {l ah:List Nat} {lt:List (Nat×List Nat)} (h:yh P ops l ah lt=true):P.follows .mixedOrders=true/\l.isPerm (List.range ops.size)=true /\
  ((List.range ops.size).all (fun i=>(match ops[i]? with | some o=>o.after.all fun e=>!Region.binds .any e || decide (e.on < i) | none=>false)))=true/\vC ops (uH ops) lt l=true:=by
 unfold yh at h;simp only[bT] at h;obtain ⟨h1,h2,h3,h4,h5,h6⟩:=h
 have hlt:∀ k o,ops[k]?=some o->∀ e∈o.after.toList,Region.binds .any e=true->e.on < k:=by
  intro k o hk e he hb;have fL:=(fE.1 hk).1;have:=fQ.1 h3 k (by simpa using fL);rw[hk] at this;simp only at this;have:=rO.1 this e (by simpa using he);simpa [hb] using this
 have wC:=Lt (qp h4) hlt (fun i hi=>fQ.1 h5 i (by simpa using hi)) ops.size (aR _);rw[kY (by rw[qp h4];exact aR _)] at wC;refine ⟨h1,h2,h3,?_⟩;unfold uH;rw[wC];exact h6
theorem qj6 (hC:CfgOk C) {callI:Nat->List AV->af->OM} (hI:rP C callI) {R:Type} {fid id:Nat} {ops:Array Oper} {Q:Exit->Act->World->Prop} {canon ah:List Nat} {lt:List (Nat×List Nat)} (be:yh C.P ops canon ah lt=true) {st:St} {K:St->Option R} {r:R} {a:Act}
  (h:qf C fid (jB callI) callI lt ops canon st K=some r) (hs:StR B w g st a)
  (hn:∀ s' a' w' g',K s'=some r->StR B w' g' s' a'->Step B w g w' g'->iN C.P a' a->Q .normal a' w'):(Code.region id ops true).wp C.P Q a w:=by
 obtain ⟨h1,h2,h3,h4⟩:=qj5 be;have lK:canon.Perm (List.range ops.size):=List.isPerm_iff.1 h2
 have hlt:∀ k o,ops[k]?=some o->∀ e∈o.after.toList,Region.binds .any e=true->e.on < k:=by
  intro k o hk e he hb;have fL:=(fE.1 hk).1;have:=fQ.1 h3 k (by simpa using fL);rw[hk] at this;simp only at this;have:=rO.1 this e (by simpa using he);simpa [hb] using this
 obtain ⟨s',hr,hK,js⟩:=Yu [] h;refine wp_region_any h1 ?_
 refine qhb hC hI hlt h4 (lK.nodup_iff.2 List.nodup_range) canon ops.size (by rw[lK.length_eq];simp) (List.Sublist.refl _) _ (by simp) (fun x hx=>?_) (fun x hx=>by simpa using lK.mem_iff.1 hx) (fun k o hk bL=>?_) _ s' a _ g hr js ⟨hs.tmp.step (Step.drew B w g),hs.mem.drew,hs.size⟩ ?_
 ·have:x∈canon:=lK.mem_iff.2 (by simpa using hx);simp[this,Array.getD,hx]
 ·exact absurd (lK.mem_iff.2 (by simpa using hk)) bL
 ·intro a' w' g' gy s hd;exact hn s' a' w' g' hK gy ((Step.drew B w g).trans s) hd
end
end Go.Ab
namespace Go.Ab
def tp {R:Type} (F:Nat->Option R):Prop:=∀ k r,F k=some r->F (k+1)=some r
theorem tp.le {R:Type} {F:Nat->Option R} (h:tp F) {k n:Nat} (hn:k<=n) {r:R} (hr:F k=some r):F n=some r:=by
 induction hn with
 | refl=>exact hr
 | step _ ih=>exact h _ _ ih
open Classical in
noncomputable def lim {R:Type} (F:Nat->Option R):Option R:=if h:∃ k r,F k=some r then F h.choose else none
theorem sR {R:Type} {F:Nat->Option R} {r:R} (h:lim F=some r):∃ k,F k=some r:=by
 unfold lim at h
 split at h
 ·exact ⟨_,h⟩
 ·cases h
theorem tp.lim {R:Type} {F:Nat->Option R} (h:tp F) {k:Nat} {r:R} (hr:F k=some r):lim F=some r:=by
 have hx:∃ k r,F k=some r:=⟨k,r,hr⟩;unfold Ab.lim;rw[dif_pos hx];obtain ⟨r',Ie⟩:=hx.choose_spec;have h1:=h.le (Ag k hx.choose) hr;have h2:=h.le (CB k hx.choose) Ie;rw[h1] at h2;rw[Ie,<- po h2]
theorem Ou {R:Type} {x y:Option R} (h:∀ r,x=some r↔y=some r):x=y:=Option.ext h
section
variable {R:Type}
def kG:List Bool->List AV->Bool
 | [],[]=>true
 | _::bs,_::ts=>kG bs ts
 | _,_=>false
def rb:List Bool->List AV->List AV
 | [],_=>[]
 | b::bs,ts=>(match b with | true=>ts.headD .any | false=>.any)::rb bs ts.tail
theorem Ya:∀ (bs:List Bool) (ts:List AV),kG bs ts=true->rb bs ts=pI bs ts
 | [],[],_=>rfl
 | b::bs,t::ts,h=>by
  simp only[rb,pI,Ya bs ts (by simpa [kG] using h),List.tail_cons];cases b<;>rfl
 | [],_::_,h=>by simp[kG] at h
 | _::_,[],h=>by simp[kG] at h
theorem OJ:∀ (bs:List Bool) (ts:List AV),rb bs (rb bs ts)=rb bs ts
 | [],_=>rfl
 | b::bs,ts=>by
  simp only[rb,List.headD_cons,List.tail_cons,OJ bs ts.tail];cases b<;>rfl
abbrev jW (bs:List Bool) (st:St) (f:St->Option R):Option R:=match kG bs st.tmps with
 | true=>f ⟨rb bs st.tmps,st.mem⟩
 | false=>none
abbrev qe (again:St->Option R) (mk:Masks) (K:Ex->St->Option R):Ex->St->Option R:=fun e st'=>match e with
 | .normal=>jW mk.head st' again
 | .exit id=>jW mk.out st' (K (.exit id))
 | .ret=>jW mk.ret st' (K .ret)
def iP (body:St->(Ex->St->Option R)->Option R) (mk:Masks):Nat->St->(Ex->St->Option R)->Option R
 | 0,_,_=>none
 | n+1,st,K=>body st (qe (fun st'=>iP body mk n st' K) mk K)
noncomputable def qC (body:St->(Ex->St->Option R)->Option R) (mk:Masks) (st:St) (K:Ex->St->Option R):Option R:=lim fun n=>iP body mk n st K
section
variable (C:Cfg) (fid:Nat) (callP:Nat->List AV->Option AV) (callI:Nat->List AV->af->OM)
noncomputable def b6:Code->St->(Ex->St->Option R)->Option R
 | .skip,st,K=>K .normal st
 | .region id ops d,st,K=>match d with
  | false=>mh C fid callP callI none ops (List.range ops.size) st (K .normal)
  | true=>match C.seqm fid id with
  | true=>(match yh C.P ops (qb (C.ord fid id) ops.size) (C.ahd fid id) (C.late fid id) with
   | true=>qf C fid callP callI (C.late fid id) ops (qb (C.ord fid id) ops.size) st (K .normal)
   | false=>none)
  | false=>match yg C.P ops (qb (C.ord fid id) ops.size) (C.ahd fid id) (C.two fid id) with
   | true=>mh C fid callP callI (some st.mem.length) ops (qb (C.ord fid id) ops.size) ⟨st.tmps,dG st.mem (fG ops ops.size)⟩ (fun st'=>tb C.P ops st' (K .normal) (C.two fid id))
   | false=>none
 | .seq a b,st,K=>b6 a st (xe (fun st'=>b6 b st' K) K)
 | .cond c a b,st,K=>aw (ev st.tmps c) (b6 a st K) (b6 b st K)
 | .block id b,st,K=>b6 b st (bu id K)
 | .loop b,st,K=>jW (C.mask fid (keyOf b)).head st fun st'=>qC (b6 b) (C.mask fid (keyOf b)) st' K
 | .exit id,st,K=>K (.exit id) st
 | .ret,st,K=>K .ret st
 | _,_,_=>none
end
def rS (f:St->(Ex->St->Option R)->Option R):Prop:=∀ st,f st=(fun _=>none)\/∃ e s,f st=fun K=>K e s
theorem qoe (C:Cfg) (fid:Nat) (callP:Nat->List AV->Option AV) (callI:Nat->List AV->af->OM) (base:Option Nat) (ops:Array Oper) (l:List Nat) (st:St) :
  ((fun K:Ex->St->Option R=>mh C fid callP callI base ops l st (K .normal))=fun _=>none)\/∃ e s,(fun K:Ex->St->Option R=>mh C fid callP callI base ops l st (K .normal))=fun K=>K e s:=by
 cases h:gW C fid callP callI base ops l st with
 | none=>left;funext K;rw[sY,h];rfl
 | some s=>right;refine ⟨.normal,s,?_⟩;funext K;rw[sY,h];rfl
theorem Yt (C:Cfg) (fid:Nat) (callP:Nat->List AV->Option AV) (callI:Nat->List AV->af->OM) (lt:List (Nat×List Nat)) (ops:Array Oper):∀ (l:List Nat) (st:St),
  ((fun K:Ex->St->Option R=>qf C fid callP callI lt ops l st (K .normal))=fun _=>none)\/∃ e s,(fun K:Ex->St->Option R=>qf C fid callP callI lt ops l st (K .normal))=fun K=>K e s
 | [],st=>.inr ⟨.normal,st,rfl⟩
 | i::l,st=>by
  cases h:fF C fid callP callI none ops i st with
  | none=>left;funext K;rw[xd,h];rfl
  | some s1=>
   by_cases hc:∀ y∈p8 lt i,ph C fid ops y s1
   ·rcases Yt C fid callP callI lt ops l s1 with hh | ⟨e,s,hh⟩
    ·left;funext K;rw[xd,h,aa,Ar hc];exact congrFun hh K
    ·right;exact ⟨e,s,by funext K;rw[xd,h,aa,Ar hc];exact congrFun hh K⟩
   ·left;funext K;rw[xd,h,aa,LD hc]
theorem Ur {bs:List Bool} {st:St} {f:St->(Ex->St->Option R)->Option R} (h:rS f):((fun K=>jW bs st fun s=>f s K)=fun _=>none)\/∃ e s,(fun K=>jW bs st fun s=>f s K)=fun K=>K e s:=by
 unfold jW
 cases kG bs st.tmps with
 | false=>exact .inl rfl
 | true=>exact h _
theorem Yn {again again':St->Option R} {mk:Masks} {K:Ex->St->Option R} (h:∀ s r,again s=some r->again' s=some r) {e:Ex} {s:St} {r:R} (hr:qe again mk K e s=some r):qe again' mk K e s=some r:=by
 cases e with
 | normal=>
  simp only[qe,jW] at hr ⊢
  cases hf:kG mk.head s.tmps with
  | true=>rw[hf] at hr;exact h _ _ hr
  | false=>rw[hf] at hr;cases hr
 | exit id=>exact hr
 | ret=>exact hr
theorem rS.mono {f:St->(Ex->St->Option R)->Option R} (h:rS f) {st:St} {K K':Ex->St->Option R} (hK:∀ e s r,K e s=some r->K' e s=some r) {r:R} (hr:f st K=some r):f st K'=some r:=by
 rcases h st with h | ⟨e,s,h⟩
 ·rw[h] at hr;cases hr
 ·rw[h] at hr ⊢;exact hK _ _ _ hr
theorem Iz {body:St->(Ex->St->Option R)->Option R} (hb:rS body) (mk:Masks) (K:Ex->St->Option R):∀ n st r,iP body mk n st K=some r->iP body mk (n+1) st K=some r:=by
 intro n
 induction n with
 | zero=>intro st r h;cases h
 | succ n ih=>
  intro st r h;rw[iP] at h ⊢;exact hb.mono (fun e s r hr=>Yn (fun s r=>ih s r) hr) h
theorem b7 {body:St->(Ex->St->Option R)->Option R} (hb:rS body) (mk:Masks) (st:St) (K:Ex->St->Option R):qC body mk st K=body st (qe (fun st'=>qC body mk st' K) mk K):=by
 apply Ou;intro r;have A1:∀ st,tp fun n=>iP body mk n st K:=fun st n r h=>Iz hb mk K n st r h
 constructor
 ·intro h;obtain ⟨n,hn⟩:=sR h
  cases n with
  | zero=>cases hn
  | succ n=>
   rw[iP] at hn;exact hb.mono (fun e s r hr=>Yn (fun s r h=>(A1 s).lim h) hr) hn
 ·intro h
  rcases hb st with hx | ⟨e,s,hx⟩
  ·rw[hx] at h;cases h
  ·have:∃ n,iP body mk (n+1) st K=some r:=by
    rw[hx] at h;simp only[iP];rw[hx];simp only
    cases e with
    | normal=>
     simp only[qe,jW] at h ⊢
     cases hf:kG mk.head s.tmps with
     | true=>rw[hf] at h;exact sR h
     | false=>rw[hf] at h;cases h
    | exit id=>exact ⟨0,h⟩
    | ret=>exact ⟨0,h⟩
   obtain ⟨n,hn⟩:=this;exact (A1 st).lim hn
theorem NX {body:St->(Ex->St->Option R)->Option R} (hb:rS body) (mk:Masks):∀ n,rS (iP body mk n)
 | 0=>fun st=>.inl rfl
 | n+1=>fun st=>by
  have ih:=NX hb mk n
  rcases hb st with hx | ⟨e,s,hx⟩
  ·left;funext K;simp only[iP];rw[hx]
  ·cases e with
   | normal=>
    have:iP body mk (n+1) st=fun K=>jW mk.head s fun s'=>iP body mk n s' K:=by
     funext K;simp only[iP];rw[hx]
    rw[this];exact Ur ih
   | exit id=>
    have:iP body mk (n+1) st=fun K=>jW mk.out s (K (.exit id)):=by
     funext K;simp only[iP];rw[hx]
    rw[this];unfold jW
    cases kG mk.out s.tmps with
    | false=>exact .inl rfl
    | true=>exact .inr ⟨_,_,rfl⟩
   | ret=>
    have:iP body mk (n+1) st=fun K=>jW mk.ret s (K .ret):=by
     funext K;simp only[iP];rw[hx]
    rw[this];unfold jW
    cases kG mk.ret s.tmps with
    | false=>exact .inl rfl
    | true=>exact .inr ⟨_,_,rfl⟩
open Classical in
theorem qmC {body:St->(Ex->St->Option R)->Option R} (hb:rS body) (mk:Masks):rS (qC body mk):=by
 intro st
 by_cases h:∃ n e s,iP body mk n st=fun K=>K e s
 ·obtain ⟨n,e,s,hn⟩:=h;right;refine ⟨e,s,?_⟩;funext K;apply Ou;intro r;have A1:tp fun n=>iP body mk n st K:=fun n r h=>Iz hb mk K n st r h
  constructor
  ·intro hr;obtain ⟨n',hn'⟩:=sR hr;have h1:iP body mk (max n n') st K=some r:=A1.le (CB n n') hn'
   cases hk:K e s with
   | some r'=>
    have h2:iP body mk (max n n') st K=some r':=A1.le (Ag n n') (r:=r') (by simp only[hn];exact hk);rw[h2] at h1;exact h1
   | none=>
    rcases NX hb mk (max n n') st with hx | ⟨e',s',hx⟩
    ·rw[hx] at h1;cases h1
    ·have h3:iP body mk (max n n') st (fun e2 s2=>if e2=e/\s2=s then some r else none)=some r:=by
      have qlL:tp fun n=>iP body mk n st (fun e2 s2=>if e2=e/\s2=s then some r else none):=fun n r h=>Iz hb mk _ n st r h
      exact qlL.le (Ag n n') (by simp only[hn];simp)
     rw[hx] at h3 h1;simp only at h3 h1
     split at h3
     ·rename_i he;obtain ⟨rfl,rfl⟩:=he;rw[hk] at h1;cases h1
     ·cases h3
  ·intro hr;exact A1.lim (k:=n) (by simp only[hn];exact hr)
 ·left;funext K
  have:∀ r,¬ qC body mk st K=some r:=by
   intro r hr;obtain ⟨n,hn⟩:=sR hr
   rcases NX hb mk n st with hx | ⟨e,s,hx⟩
   ·rw[hx] at hn;cases hn
   ·exact h ⟨n,e,s,hx⟩
  cases hx:qC body mk st K with
  | none=>rfl
  | some r=>exact absurd hx (this r)
section
variable {C:Cfg} {fid:Nat} {callP:Nat->List AV->Option AV} {callI:Nat->List AV->af->OM}
theorem bX:∀ c:Code,rS (R:=R) (b6 C fid callP callI c):=by
 intro c
 induction c with
 | skip=>exact fun st=>.inr ⟨.normal,st,rfl⟩
 | region id ops d=>
  intro st
  cases d with
  | false=>
   have:b6 (R:=R) C fid callP callI (.region id ops false) st=fun K=>mh C fid callP callI none ops (List.range ops.size) st (K .normal):=by funext K;simp only[b6]
   rw[this];exact qoe ..
  | true=>
   cases hq:C.seqm fid id with
   | true=>
    cases hd:yh C.P ops (qb (C.ord fid id) ops.size) (C.ahd fid id) (C.late fid id) with
    | true=>
     have:b6 (R:=R) C fid callP callI (.region id ops true) st=fun K=>qf C fid callP callI (C.late fid id) ops (qb (C.ord fid id) ops.size) st (K .normal):=by funext K;simp only[b6,hq,hd]
     rw[this];exact Yt ..
    | false=>left;funext K;simp only[b6,hq,hd]
   | false=>
   cases hd:yg C.P ops (qb (C.ord fid id) ops.size) (C.ahd fid id) (C.two fid id) with
   | true=>
    have:b6 (R:=R) C fid callP callI (.region id ops true) st=fun K=>mh C fid callP callI (some st.mem.length) ops (qb (C.ord fid id) ops.size) ⟨st.tmps,dG st.mem (fG ops ops.size)⟩ (fun st'=>tb C.P ops st' (K .normal) (C.two fid id)):=by funext K;simp only[b6,hq,hd]
    rw[this];have hl:=sY (R:=R) (C:=C) (fid:=fid) (callP:=callP) (callI:=callI) (some st.mem.length) ops (qb (C.ord fid id) ops.size) ⟨st.tmps,dG st.mem (fG ops ops.size)⟩
    cases hr:gW C fid callP callI (some st.mem.length) ops (qb (C.ord fid id) ops.size) ⟨st.tmps,dG st.mem (fG ops ops.size)⟩ with
    | none=>left;funext K;rw[hl,hr];rfl
    | some s=>
     rcases qpn (R:=R) C.P ops s (C.two fid id) with ht | ht
     ·left;funext K;rw[hl,hr];exact ht _
     ·right;exact ⟨.normal,s,by funext K;rw[hl,hr];exact ht _⟩
   | false=>left;funext K;simp only[b6,hq,hd]
 | seq a b iha ihb=>
  intro st
  rcases iha st with h | ⟨e,s,h⟩
  ·left;funext K;simp only[b6,h]
  ·cases e with
   | normal=>
    rcases ihb s with h' | ⟨e',s',h'⟩
    ·left;funext K;simp only[b6,h,xe,h']
    ·right;refine ⟨e',s',?_⟩;funext K;simp only[b6,h,xe,h']
   | exit id=>right;refine ⟨.exit id,s,?_⟩;funext K;simp only[b6,h,xe]
   | ret=>right;refine ⟨.ret,s,?_⟩;funext K;simp only[b6,h,xe]
 | cond co a b iha ihb=>
  intro st
  cases hv:ev st.tmps co with
  | bool v=>
   cases v with
   | true=>
    have:b6 (R:=R) C fid callP callI (.cond co a b) st=b6 C fid callP callI a st:=by funext K;simp only[b6,hv,aw]
    rw[this];exact iha st
   | false=>
    have:b6 (R:=R) C fid callP callI (.cond co a b) st=b6 C fid callP callI b st:=by funext K;simp only[b6,hv,aw]
    rw[this];exact ihb st
  | _=>left;funext K;simp only[b6,hv,aw]
 | block id b ih=>
  intro st
  rcases ih st with h | ⟨e,s,h⟩
  ·left;funext K;simp only[b6,h]
  ·cases e with
   | normal=>right;refine ⟨.normal,s,?_⟩;funext K;simp only[b6,h,bu]
   | exit j=>
    cases hj:j == id with
    | true=>right;refine ⟨.normal,s,?_⟩;funext K;simp only[b6,h,bu,hj]
    | false=>right;refine ⟨.exit j,s,?_⟩;funext K;simp only[b6,h,bu,hj]
   | ret=>right;refine ⟨.ret,s,?_⟩;funext K;simp only[b6,h,bu]
 | loop b ih=>
  intro st;have:b6 (R:=R) C fid callP callI (.loop b) st=fun K=>jW (C.mask fid (keyOf b)).head st fun st'=>qC (b6 C fid callP callI b) (C.mask fid (keyOf b)) st' K:=by funext K;simp only[b6]
  rw[this];exact Ur (qmC ih _)
 | exit id=>exact fun st=>.inr ⟨.exit id,st,rfl⟩
 | ret=>exact fun st=>.inr ⟨.ret,st,rfl⟩
 | rangeFunc=>exact fun st=>.inl rfl
 | scope=>exact fun st=>.inl rfl
 | label=>exact fun st=>.inl rfl
 | goto=>exact fun st=>.inl rfl
 | refuse=>exact fun st=>.inl rfl
end
section
variable {C:Cfg} {fid:Nat} {cp cp':Nat->List AV->Option AV} {ci ci':Nat->List AV->af->OM}
def nU (cp cp':Nat->List AV->Option AV) (ci ci':Nat->List AV->af->OM):Prop:=(∀ g vs v,cp g vs=some v->cp' g vs=some v)/\∀ g vs m r,ci g vs m=some r->ci' g vs m=some r
theorem qjz (h:nU cp cp' ci ci') {d:Option Nat} {g:Nat} {vs:List AV} {m:af} {K:AV->af->Option R} {x:R} (hx:jU C fid cp ci d g vs m K=some x):jU C fid cp' ci' d g vs m K=some x:=by
 unfold jU at hx ⊢
 cases rz:C.libm g with
 | some l=>rw[rz] at hx;exact hx
 | none=>
 rw[rz] at hx;simp only at hx ⊢
 cases hl:C.lib g with
 | some l=>rw[hl] at hx;exact hx
 | none=>
  rw[hl] at hx;simp only at hx ⊢
  cases hi:C.inl fid g with
  | true=>
   rw[hi] at hx
   cases d with
   | some d=>exact hx
   | none=>
    simp only[bc] at hx ⊢;obtain ⟨r,hr,hx⟩:=hx
    cases hz:C.frzc fid g with
    | true=>
     rw[hz] at hr;simp only[yi,bc] at hr ⊢;obtain ⟨r1,h1,h2⟩:=hr;exact ⟨r,⟨r1,h1,h.2 _ _ _ _ h2⟩,hx⟩
    | false=>
    rw[hz] at hr;simp only at hr ⊢
    cases ht:C.thaw fid g with
    | false=>rw[ht] at hr;exact ⟨r,h.2 _ _ _ _ hr,hx⟩
    | true=>
     rw[ht] at hr;simp only[Jo,bc] at hr ⊢;obtain ⟨r1,h1,q,h2,h3⟩:=hr;exact ⟨r,⟨r1,h1,q,h.2 _ _ _ _ h2,h3⟩,hx⟩
  | false=>
   rw[hi] at hx;simp only[bc] at hx ⊢;obtain ⟨r,hr,hx⟩:=hx;refine ⟨r,?_,hx⟩;unfold aD at hr ⊢;simp only[bc] at hr ⊢;obtain ⟨r1,h1,h2⟩:=hr;refine ⟨r1,h1,?_⟩
   split at h2
   ·cases h2
   ·rename_i hne;rw[aj hne];simp only[gG] at h2 ⊢;obtain ⟨v,hv,h2⟩:=h2;exact ⟨v,h.1 _ _ _ hv,h2⟩
theorem Xr (h:nU cp cp' ci ci') {d:Option Nat} {o:Oper} {ρ:Operand->AV} {m:af} {x:AV×af} (hx:fN C fid cp ci d o ρ m=some x):fN C fid cp' ci' d o ρ m=some x:=by
 unfold fN kB at hx ⊢
 cases ho:o.op with
 | call c=>
  rw[ho] at hx;simp only at hx ⊢
  cases hc:c.callee with
  | value f=>
   rw[hc] at hx;simp only[bc] at hx ⊢;obtain ⟨gc,h1,hx⟩:=hx;exact ⟨gc,h1,qjz h hx⟩
  | _=>rw[hc] at hx;exact hx
 | _=>rw[ho] at hx;exact hx
theorem Jf (h:nU cp cp' ci ci') {base:Option Nat} {ops:Array Oper} {i:Nat} {st s:St} (hx:fF C fid cp ci base ops i st=some s):fF C fid cp' ci' base ops i st=some s:=by
 unfold fF at hx ⊢
 cases hi:ops[i]? with
 | none=>rw[hi] at hx;cases hx
 | some o=>
  rw[hi] at hx;simp only[gG] at hx ⊢;obtain ⟨r,hr,hx⟩:=hx;refine ⟨r,?_,hx⟩;unfold gQ at hr ⊢
  cases hg:o.guard with
  | none=>rw[hg] at hr;exact Xr h hr
  | some jw=>
   obtain ⟨j,want⟩:=jw;rw[hg] at hr;simp only at hr ⊢
   cases hd:(ops[j]?).bind (·.dst) with
   | none=>rw[hd] at hr;cases hr
   | some g=>
    rw[hd] at hr;simp only at hr ⊢
    split at hr
    ·exact hr
    ·split at hr
     ·split at hr
      ·rename_i hb;rw[an hb];exact Xr h hr
      ·rename_i hb;rw[aj hb];exact hr
     ·cases hr
theorem OO (h:nU cp cp' ci ci') {base:Option Nat} {ops:Array Oper}:∀ (l:List Nat) {st s:St},gW C fid cp ci base ops l st=some s->gW C fid cp' ci' base ops l st=some s
 | [],_,_,hx=>hx
 | i::l,st,s,hx=>by
  simp only[gW,bc] at hx ⊢;obtain ⟨s1,h1,h2⟩:=hx;exact ⟨s1,Jf h h1,OO h l h2⟩
theorem Yw (h:nU cp cp' ci ci') {base:Option Nat} {ops:Array Oper} {l:List Nat} {st:St} {K:St->Option R} {r:R} (hx:mh C fid cp ci base ops l st K=some r):mh C fid cp' ci' base ops l st K=some r:=by
 rw[sY] at hx ⊢;simp only[bc] at hx ⊢;obtain ⟨s,h1,h2⟩:=hx;exact ⟨s,OO h l h1,h2⟩
theorem OQ (h:nU cp cp' ci ci') {lt:List (Nat×List Nat)} {ops:Array Oper}:∀ (l:List Nat) {st:St} {K:St->Option R} {r:R},qf C fid cp ci lt ops l st K=some r->qf C fid cp' ci' lt ops l st K=some r
 | [],_,_,_,hx=>hx
 | i::l,st,K,r,hx=>by
  rw[xd,bc] at hx ⊢;obtain ⟨s1,h1,h2⟩:=hx;obtain ⟨h3,h4⟩:=LF h2;exact ⟨s1,Jf h h1,by rw[Ar h3];exact OQ h l h4⟩
theorem Ay (h:nU cp cp' ci ci'):∀ (c:Code) (st:St) (K:Ex->St->Option R) (r:R),b6 C fid cp ci c st K=some r->b6 C fid cp' ci' c st K=some r:=by
 intro c
 induction c with
 | region id ops d=>
  intro st K r hx
  cases d with
  | false=>simp only[b6] at hx ⊢;exact Yw h hx
  | true=>
   simp only[b6] at hx ⊢
   cases hq:C.seqm fid id with
   | true=>
    rw[hq] at hx;simp only at hx ⊢
    cases hd:yh C.P ops (qb (C.ord fid id) ops.size) (C.ahd fid id) (C.late fid id) with
    | true=>rw[hd] at hx;exact OQ h _ hx
    | false=>rw[hd] at hx;cases hx
   | false=>
   rw[hq] at hx;simp only at hx ⊢
   cases hd:yg C.P ops (qb (C.ord fid id) ops.size) (C.ahd fid id) (C.two fid id) with
   | true=>rw[hd] at hx;exact Yw h hx
   | false=>rw[hd] at hx;cases hx
 | seq a b iha ihb=>
  intro st K r hx;simp only[b6] at hx ⊢;have h1:=iha _ _ _ hx;refine (bX a).mono (fun e s r hr=>?_) h1
  cases e with
  | normal=>exact ihb _ _ _ hr
  | exit id=>exact hr
  | ret=>exact hr
 | cond co a b iha ihb=>
  intro st K r hx;simp only[b6] at hx ⊢;unfold aw at hx ⊢
  split at hx
  ·split at hx
   ·exact iha _ _ _ hx
   ·exact ihb _ _ _ hx
  ·cases hx
 | block id b ih=>
  intro st K r hx;simp only[b6] at hx ⊢;exact ih _ _ _ hx
 | loop b ih=>
  intro st K r hx;simp only[b6,jW] at hx ⊢
  cases hf:kG (C.mask fid (keyOf b)).head st.tmps with
  | false=>rw[hf] at hx;cases hx
  | true=>
   rw[hf] at hx;simp only at hx ⊢;obtain ⟨n,hn⟩:=sR hx
   have:∀ n st,iP (b6 C fid cp ci b) (C.mask fid (keyOf b)) n st K=some r->iP (b6 C fid cp' ci' b) (C.mask fid (keyOf b)) n st K=some r:=by
    intro n
    induction n with
    | zero=>intro st hx;cases hx
    | succ n ihn=>
     intro st hx;simp only[iP] at hx ⊢;have h1:=ih _ _ _ hx
     rcases bX (R:=R) (C:=C) (fid:=fid) (callP:=cp') (callI:=ci') b st with hl | ⟨e,s,hl⟩
     ·rw[hl] at h1;cases h1
     ·rw[hl] at h1 ⊢;simp only at h1 ⊢
      cases e with
      | normal=>
       simp only[qe,jW] at h1 ⊢
       cases AN:kG (C.mask fid (keyOf b)).head s.tmps with
       | true=>rw[AN] at h1;exact ihn _ h1
       | false=>rw[AN] at h1;cases h1
      | exit id=>exact h1
      | ret=>exact h1
   exact tp.lim (F:=fun n=>iP (b6 C fid cp' ci' b) (C.mask fid (keyOf b)) n _ K) (fun n r h=>Iz (bX b) _ K n _ r h) (this n _ hn)
 | _=>intro st K r hx;exact hx
end
structure Chain where
 cp:Nat->Nat->List AV->Option AV
 ci:Nat->Nat->List AV->af->OM
 le:∀ k,nU (cp k) (cp (k+1)) (ci k) (ci (k+1))
theorem nU.refl (cp:Nat->List AV->Option AV) (ci:Nat->List AV->af->OM):nU cp cp ci ci:=⟨fun _ _ _ h=>h,fun _ _ _ _ h=>h⟩
theorem nU.trans {a b c:Nat->List AV->Option AV} {a' b' c':Nat->List AV->af->OM} (h:nU a b a' b') (h':nU b c b' c'):nU a c a' c':=⟨fun g vs v x=>h'.1 g vs v (h.1 g vs v x),fun g vs m r x=>h'.2 g vs m r (h.2 g vs m r x)⟩
theorem Chain.up (X:Chain) {k n:Nat} (h:k<=n):nU (X.cp k) (X.cp n) (X.ci k) (X.ci n):=by
 induction h with
 | refl=>exact nU.refl _ _
 | step _ ih=>exact ih.trans (X.le _)
structure Tends (X:Chain) (cp:Nat->List AV->Option AV) (ci:Nat->List AV->af->OM):Prop where
 p:∀ g vs v,cp g vs=some v->∃ k,X.cp k g vs=some v
 i:∀ g vs m r,ci g vs m=some r->∃ k,X.ci k g vs m=some r
section
variable {X:Chain} {C:Cfg} {fid:Nat} {cp:Nat->List AV->Option AV} {ci:Nat->List AV->af->OM}
theorem qjy (h:Tends X cp ci) {d:Option Nat} {g:Nat} {vs:List AV} {m:af} {K:AV->af->Option R} {x:R} (hx:jU C fid cp ci d g vs m K=some x):∃ k,jU C fid (X.cp k) (X.ci k) d g vs m K=some x:=by
 unfold jU at hx ⊢
 cases rz:C.libm g with
 | some l=>rw[rz] at hx;exact ⟨0,hx⟩
 | none=>
 rw[rz] at hx;simp only at hx ⊢
 cases hl:C.lib g with
 | some l=>rw[hl] at hx;exact ⟨0,hx⟩
 | none=>
  rw[hl] at hx;simp only at hx ⊢
  cases hi:C.inl fid g with
  | true=>
   rw[hi] at hx
   cases d with
   | some d=>exact ⟨0,hx⟩
   | none=>
    simp only[bc] at hx ⊢;obtain ⟨r,hr,hx⟩:=hx
    cases hz:C.frzc fid g with
    | true=>
     rw[hz] at hr;simp only[yi,bc] at hr ⊢;obtain ⟨r1,h1,h2⟩:=hr;obtain ⟨k,hk⟩:=h.i _ _ _ _ h2;exact ⟨k,r,⟨r1,h1,hk⟩,hx⟩
    | false=>
    rw[hz] at hr;simp only at hr ⊢
    cases ht:C.thaw fid g with
    | false=>
     rw[ht] at hr;obtain ⟨k,hk⟩:=h.i _ _ _ _ hr;exact ⟨k,r,hk,hx⟩
    | true=>
     rw[ht] at hr;simp only[Jo,bc] at hr ⊢;obtain ⟨r1,h1,q,h2,h3⟩:=hr;obtain ⟨k,hk⟩:=h.i _ _ _ _ h2;exact ⟨k,r,⟨r1,h1,q,hk,h3⟩,hx⟩
  | false=>
   rw[hi] at hx;simp only[bc] at hx ⊢;obtain ⟨r,hr,hx⟩:=hx;unfold aD at hr;simp only[bc] at hr;obtain ⟨r1,h1,h2⟩:=hr
   split at h2
   ·cases h2
   ·rename_i hne;simp only[gG] at h2;obtain ⟨v,hv,h2⟩:=h2;obtain ⟨k,hk⟩:=h.p _ _ _ hv;refine ⟨k,r,?_,hx⟩;unfold aD;simp only[bc];refine ⟨r1,h1,?_⟩;rw[aj hne];simp only[gG];exact ⟨v,hk,h2⟩
theorem Xq (h:Tends X cp ci) {d:Option Nat} {o:Oper} {ρ:Operand->AV} {m:af} {x:AV×af} (hx:fN C fid cp ci d o ρ m=some x):∃ k,fN C fid (X.cp k) (X.ci k) d o ρ m=some x:=by
 unfold fN kB at hx ⊢
 cases ho:o.op with
 | call c=>
  rw[ho] at hx;simp only at hx ⊢
  cases hc:c.callee with
  | value f=>
   rw[hc] at hx;simp only[bc] at hx ⊢;obtain ⟨gc,h1,hx⟩:=hx;obtain ⟨k,hk⟩:=qjy h hx;exact ⟨k,gc,h1,hk⟩
  | _=>rw[hc] at hx;exact ⟨0,hx⟩
 | _=>rw[ho] at hx;exact ⟨0,hx⟩
theorem YU (h:Tends X cp ci) {base:Option Nat} {ops:Array Oper} {i:Nat} {st s:St} (hx:fF C fid cp ci base ops i st=some s):∃ k,fF C fid (X.cp k) (X.ci k) base ops i st=some s:=by
 unfold fF at hx ⊢
 cases hi:ops[i]? with
 | none=>rw[hi] at hx;cases hx
 | some o=>
  rw[hi] at hx;simp only[gG] at hx ⊢;obtain ⟨r,hr,hx⟩:=hx;unfold gQ at hr ⊢
  cases hg:o.guard with
  | none=>rw[hg] at hr;obtain ⟨k,hk⟩:=Xq h hr;exact ⟨k,r,hk,hx⟩
  | some jw=>
   obtain ⟨j,want⟩:=jw;rw[hg] at hr;simp only at hr ⊢
   cases hd:(ops[j]?).bind (·.dst) with
   | none=>rw[hd] at hr;cases hr
   | some g=>
    rw[hd] at hr;simp only at hr ⊢
    split at hr
    ·exact ⟨0,r,hr,hx⟩
    ·split at hr
     ·split at hr
      ·rename_i hb;subst hb;obtain ⟨k,hk⟩:=Xq h hr;exact ⟨k,r,by simpa using hk,hx⟩
      ·rename_i hb;exact ⟨0,r,by rw[aj hb];exact hr,hx⟩
     ·cases hr
theorem Yq (h:Tends X cp ci) {base:Option Nat} {ops:Array Oper}:∀ (l:List Nat) {st s:St},gW C fid cp ci base ops l st=some s->∃ k,gW C fid (X.cp k) (X.ci k) base ops l st=some s
 | [],_,_,hx=>⟨0,hx⟩
 | i::l,st,s,hx=>by
  simp only[gW,bc] at hx ⊢;obtain ⟨s1,h1,h2⟩:=hx;obtain ⟨k1,h1⟩:=YU h h1;obtain ⟨k2,h2⟩:=Yq h l h2;exact ⟨max k1 k2,s1,Jf (X.up (Ag ..)) h1,OO (X.up (CB ..)) l h2⟩
theorem Yv (h:Tends X cp ci) {base:Option Nat} {ops:Array Oper} {l:List Nat} {st:St} {K:St->Option R} {r:R} (hx:mh C fid cp ci base ops l st K=some r):∃ k,mh C fid (X.cp k) (X.ci k) base ops l st K=some r:=by
 rw[sY] at hx;simp only[bc] at hx;obtain ⟨s,h1,h2⟩:=hx;obtain ⟨k,h1⟩:=Yq h l h1;exact ⟨k,by rw[sY,h1];exact h2⟩
theorem Ys (h:Tends X cp ci) {lt:List (Nat×List Nat)} {ops:Array Oper}:∀ (l:List Nat) {st:St} {K:St->Option R} {r:R},qf C fid cp ci lt ops l st K=some r->∃ k,qf C fid (X.cp k) (X.ci k) lt ops l st K=some r
 | [],_,_,_,hx=>⟨0,hx⟩
 | i::l,st,K,r,hx=>by
  rw[xd,bc] at hx;obtain ⟨s1,h1,h2⟩:=hx;obtain ⟨h3,h4⟩:=LF h2;obtain ⟨k1,h1⟩:=YU h h1;obtain ⟨k2,h2⟩:=Ys h l h4;refine ⟨max k1 k2,?_⟩;rw[xd,bc];exact ⟨s1,Jf (X.up (Ag ..)) h1,by rw[Ar h3];exact OQ (X.up (CB ..)) l h2⟩
theorem Wk {f:St->(Ex->St->Option R)->Option R} (hf:rS f) {st:St} {K:Ex->St->Option R} {r:R} (h:f st K=some r):∃ e s,K e s=some r/\∀ K',f st K'=K' e s:=by
 rcases hf st with hx | ⟨e,s,hx⟩
 ·rw[hx] at h;cases h
 ·exact ⟨e,s,by rw[hx] at h;exact h,fun K'=>by rw[hx]⟩
theorem qka (h:Tends X cp ci):∀ (c:Code) (st:St) (K:Ex->St->Option R) (r:R),b6 C fid cp ci c st K=some r->∃ k,b6 C fid (X.cp k) (X.ci k) c st K=some r:=by
 intro c
 induction c with
 | region id ops d=>
  intro st K r hx
  cases d with
  | false=>simp only[b6] at hx ⊢;exact Yv h hx
  | true=>
   simp only[b6] at hx ⊢
   cases hq:C.seqm fid id with
   | true=>
    rw[hq] at hx;simp only at hx ⊢
    cases hd:yh C.P ops (qb (C.ord fid id) ops.size) (C.ahd fid id) (C.late fid id) with
    | true=>rw[hd] at hx;exact Ys h _ hx
    | false=>rw[hd] at hx;cases hx
   | false=>
   rw[hq] at hx;simp only at hx ⊢
   cases hd:yg C.P ops (qb (C.ord fid id) ops.size) (C.ahd fid id) (C.two fid id) with
   | true=>rw[hd] at hx;exact Yv h hx
   | false=>rw[hd] at hx;cases hx
 | seq a b iha ihb=>
  intro st K r hx;simp only[b6] at hx ⊢;obtain ⟨k1,h1⟩:=iha _ _ _ hx;obtain ⟨e,s,h2,h3⟩:=Wk (bX a) h1
  cases e with
  | normal=>
   obtain ⟨k2,h4⟩:=ihb _ _ _ h2;refine ⟨max k1 k2,?_⟩
   have h5:b6 C fid (X.cp k1) (X.ci k1) a st (xe (fun st'=>b6 C fid (X.cp (max k1 k2)) (X.ci (max k1 k2)) b st' K) K)=some r:=by
    rw[h3];exact Ay (X.up (CB ..)) b _ _ _ h4
   exact Ay (X.up (Ag ..)) a _ _ _ h5
  | exit id=>exact ⟨k1,by rw[h3];exact h2⟩
  | ret=>exact ⟨k1,by rw[h3];exact h2⟩
 | cond co a b iha ihb=>
  intro st K r hx;simp only[b6] at hx ⊢;unfold aw at hx ⊢
  split at hx
  ·split at hx
   ·exact iha _ _ _ hx
   ·exact ihb _ _ _ hx
  ·cases hx
 | block id b ih=>
  intro st K r hx;simp only[b6] at hx ⊢;exact ih _ _ _ hx
 | loop b ih=>
  intro st K r hx;simp only[b6,jW] at hx ⊢
  cases hf:kG (C.mask fid (keyOf b)).head st.tmps with
  | false=>rw[hf] at hx;cases hx
  | true=>
   rw[hf] at hx;simp only at hx ⊢;obtain ⟨n,hn⟩:=sR hx
   have:∀ n st,iP (b6 C fid cp ci b) (C.mask fid (keyOf b)) n st K=some r->∃ k,qC (b6 C fid (X.cp k) (X.ci k) b) (C.mask fid (keyOf b)) st K=some r:=by
    intro n
    induction n with
    | zero=>intro st hx;cases hx
    | succ n ihn=>
     intro st hx;simp only[iP] at hx;obtain ⟨k1,h1⟩:=ih _ _ _ hx;obtain ⟨e,s,h2,h3⟩:=Wk (bX b) h1
     have fin:(∀ k,k1<=k->qe (fun st'=>qC (b6 C fid (X.cp k) (X.ci k) b) (C.mask fid (keyOf b)) st' K) (C.mask fid (keyOf b)) K e s=some r->qC (b6 C fid (X.cp k) (X.ci k) b) (C.mask fid (keyOf b)) st K=some r):=by
      intro k hk hr;rw[b7 (bX b)];exact Ay (X.up hk) b _ _ _ (by rw[h3];exact hr)
     cases e with
     | normal=>
      simp only[qe,jW] at h2
      cases AN:kG (C.mask fid (keyOf b)).head s.tmps with
      | true=>
       rw[AN] at h2;obtain ⟨k2,h4⟩:=ihn _ h2;refine ⟨max k1 k2,fin _ (Ag ..) ?_⟩;simp only[qe,jW,AN]
       have h5:b6 C fid (X.cp k2) (X.ci k2) (.loop b) ⟨rb (C.mask fid (keyOf b)).head s.tmps,s.mem⟩ K=qC (b6 C fid (X.cp k2) (X.ci k2) b) (C.mask fid (keyOf b)) ⟨rb (C.mask fid (keyOf b)).head s.tmps,s.mem⟩ K:=by
        have nB:∀ (bs:List Bool) (ts:List AV),kG bs (rb bs ts)=true:=by
         intro bs
         induction bs with
         | nil=>intro ts;rfl
         | cons b bs ihb=>intro ts;simp only[rb,kG];exact ihb _
        simp only[b6,jW,nB,OJ]
       have h6:=Ay (C:=C) (fid:=fid) (X.up (CB k1 k2)) (.loop b) _ _ _ (h5.trans h4)
       have nB:∀ (bs:List Bool) (ts:List AV),kG bs (rb bs ts)=true:=by
        intro bs
        induction bs with
        | nil=>intro ts;rfl
        | cons b bs ihb=>intro ts;simp only[rb,kG];exact ihb _
       simpa only[b6,jW,nB,OJ] using h6
      | false=>rw[AN] at h2;cases h2
     | exit id=>exact ⟨k1,fin _ (aR _) h2⟩
     | ret=>exact ⟨k1,fin _ (aR _) h2⟩
   exact this n _ hn
 | _=>intro st K r hx;exact ⟨0,hx⟩
end
noncomputable def n8 (C:Cfg):Nat->Nat->List AV->af->OM
 | 0,_,_,_=>none
 | k+1,f,args,m=>match C.P.funcs[f]? with
  | none=>none
  | some fn=>match fn.body with
   | none=>none
   | some c=>b6 C f (jB (n8 C k)) (n8 C k) c ⟨args++List.replicate (fn.ntmps - args.length) .any,m⟩ (aF C.P fn.results.toList)
noncomputable def AC (C:Cfg) (f:Nat) (args:List AV) (m:af):OM:=lim fun k=>n8 C k f args m
noncomputable def AP (C:Cfg):Nat->List AV->Option AV:=jB (AC C)
theorem Lp {ci ci':Nat->List AV->af->OM} (h:∀ g vs m r,ci g vs m=some r->ci' g vs m=some r):nU (jB ci) (jB ci') ci ci':=by
 refine ⟨fun g vs v hx=>?_,h⟩;unfold jB at hx ⊢;simp only[bc] at hx ⊢;obtain ⟨r,h1,h2⟩:=hx;exact ⟨r,h _ _ _ _ h1,h2⟩
theorem Lq (C:Cfg):∀ k f args m r,n8 C k f args m=some r->n8 C (k+1) f args m=some r:=by
 intro k
 induction k with
 | zero=>intro f args m r h;cases h
 | succ k ih=>
  intro f args m r h;rw[n8] at h ⊢
  cases hf:C.P.funcs[f]? with
  | none=>rw[hf] at h;cases h
  | some fn=>
   rw[hf] at h;simp only at h ⊢
   cases hb:fn.body with
   | none=>rw[hb] at h;cases h
   | some c=>
    rw[hb] at h;exact Ay (Lp fun g vs m r=>ih g vs m r) c _ _ _ h
noncomputable def qjF (C:Cfg):Chain:=⟨fun k=>jB (n8 C k),fun k=>n8 C k,fun k=>Lp (Lq C k)⟩
theorem qpb (C:Cfg):Tends (qjF C) (AP C) (AC C):=by
 refine ⟨fun g vs v h=>?_,fun g vs m r h=>sR h⟩;unfold AP jB at h;simp only[bc] at h;obtain ⟨r,h1,h2⟩:=h;obtain ⟨k,hk⟩:=sR h1;refine ⟨k,?_⟩;show jB (n8 C k) g vs=some v;unfold jB;simp only[bc];exact ⟨r,hk,h2⟩
theorem bh (C:Cfg) (f:Nat) (args:List AV) (m:af) {fn:Func} {c:Code} (hf:C.P.funcs[f]?=some fn) (hb:fn.body=some c) :
  AC C f args m=b6 C f (AP C) (AC C) c ⟨args++List.replicate (fn.ntmps - args.length) .any,m⟩ (aF C.P fn.results.toList):=by
 apply Ou;intro r
 constructor
 ·intro h;obtain ⟨k,hk⟩:=sR h
  cases k with
  | zero=>cases hk
  | succ k=>
   rw[n8,hf] at hk;simp only[hb] at hk;exact Ay (Lp fun g vs m r hr=>tp.lim (F:=fun k=>n8 C k g vs m) (fun k r h=>Lq C k g vs m r h) hr) c _ _ _ hk
 ·intro h;obtain ⟨k,hk⟩:=qka (qpb C) c _ _ _ h;refine tp.lim (F:=fun k=>n8 C k f args m) (fun k r h=>Lq C k f args m r h) (k:=k+1) ?_;show n8 C (k+1) f args m=some r;rw[n8,hf];simp only[hb];exact hk
end
end Go.Ab
namespace Go.Ab
open Go.RowKit
section
variable [WInv] {C:Cfg} {B:Nat} {w:World} {g:G} {m:af}
theorem qkb (hC:CfgOk C) {callI:Nat->List AV->af->OM} (hI:rP C callI) {R:Type} {fid:Nat}:∀ (c:Code) (st:St) (K:Ex->St->Option R) (r:R) (a:Act) (w:World) (g:G) (Q:Exit->Act->World->Prop),
  b6 C fid (jB callI) callI c st K=some r->StR B w g st a->JB C B w g a K r Q->c.wp C.P Q a w:=by
 intro c
 induction c with
 | skip=>
  intro st K r a w g Q h hs hq;exact wp_skip (hq .normal st a w g h hs (Step.refl _ _ _) (iN.refl _ _))
 | region id ops d=>
  intro st K r a w g Q h hs hq;simp only[b6] at h
  cases d with
  | false=>
   simp only at h;rw[sY] at h;simp only[bc] at h;obtain ⟨s',hr,hK⟩:=h;exact wp_region (Yr hC hI _ st s' a w g hr hs fun a' w' g' gy s hd=>hq .normal s' a' w' g' hK gy s hd)
  | true=>
   simp only at h
   cases Vz:C.seqm fid id with
   | true=>
    rw[Vz] at h;simp only at h
    split at h
    ·rename_i be;exact qj6 hC hI be h hs fun s' a' w' g' hK gy s hd=>hq .normal s' a' w' g' hK gy s hd
    ·cases h
   | false=>
   rw[Vz] at h;simp only at h
   split at h
   ·rename_i be
    cases ht:C.two fid id with
    | nil=>
     rw[ht] at be h;exact qj7 hC hI (qj4 be) h hs fun s' a' w' g' hK gy s hd=>hq .normal s' a' w' g' hK gy s hd
    | cons two sp=>
     rw[ht] at be h;exact qj8 hC hI be h hs fun s' a' w' g' hK gy s hd=>hq .normal s' a' w' g' hK gy s hd
   ·cases h
 | seq x y ihx ihy=>
  intro st K r a w g Q h hs hq;simp only[b6] at h;refine wp_seq (ihx st _ r a w g _ h hs ?_);intro e st' a' w' g' hK gy s hd
  cases e with
  | normal=>
   simp only[xe] at hK;exact ihy st' K r a' w' g' Q hK gy fun e st'' a'' w'' g'' Mu sJ s' kI=>hq e st'' a'' w'' g'' Mu sJ (s.trans s') (kI.trans hd)
  | exit id=>exact hq (.exit id) st' a' w' g' hK gy s hd
  | ret=>exact hq .ret st' a' w' g' hK gy s hd
 | cond co x y ihx ihy=>
  intro st K r a w g Q h hs hq;simp only[b6] at h;have hV:=TW hs.tmp co
  cases hv:ev st.tmps co with
  | bool b=>
   rw[hv] at h hV;generalize hx:a.eval co=v at hV;cases hV
   cases b with
   | true=>exact wp_cond_true hx (ihx st K r a w g Q (by simpa [aw] using h) hs hq)
   | false=>exact wp_cond_false hx (ihy st K r a w g Q (by simpa [aw] using h) hs hq)
  | _=>rw[hv] at h;simp[aw] at h
 | block id x ih=>
  intro st K r a w g Q h hs hq;simp only[b6] at h;refine wp_block (ih st _ r a w g _ h hs ?_);intro e st' a' w' g' hK gy s hd
  cases e with
  | normal=>exact hq .normal st' a' w' g' hK gy s hd
  | exit j=>
   simp only[bu] at hK
   by_cases hj:j=id
   ·have hb:(j == id)=true:=by simpa using hj
    rw[hb] at hK;simp only[L4,Exit.inBlock,an hj];exact hq .normal st' a' w' g' hK gy s hd
   ·have hb:(j == id)=false:=by simpa using hj
    rw[hb] at hK;simp only[L4,Exit.inBlock,aj hj];exact hq (.exit j) st' a' w' g' hK gy s hd
  | ret=>exact hq .ret st' a' w' g' hK gy s hd
 | loop x ih=>
  intro st K r a w g Q h hs hq;simp only[b6] at h;generalize C.mask fid (keyOf x)=mk at h;have H3:∀ (l:List Bool) {w:World} {g:G} {st:St} {a:Act},kG l st.tmps=true->StR B w g st a->StR B w g ⟨rb l st.tmps,st.mem⟩ a:=fun l w g st a hf hs=>⟨by rw[Ya _ _ hf];exact hs.tmp.mask _,hs.mem,hs.size⟩;simp only[jW] at h
  cases MH:kG mk.head st.tmps with
  | false=>rw[MH] at h;cases h
  | true=>
  rw[MH] at h;have nC:=H3 mk.head MH hs;obtain ⟨n,hn⟩:=sR h
  have round:∀ k (st:St) (a:Act) (w:World) (g:G),iP (b6 C fid (jB callI) callI x) mk k st K=some r->StR B w g st a->JB C B w g a K r Q->x.wp C.P (Exit.then (LW C.P x Q) Q) a w:=by
   intro k
   induction k with
   | zero=>intro st a w g h;simp[iP] at h
   | succ k ihk=>
    intro st a w g h hs hq;simp only[iP] at h;refine ih st _ r a w g _ h hs ?_;intro e st' a' w' g' hK gy s hd;have hq':JB C B w' g' a' K r Q:=fun e st'' a'' w'' g'' Mu sJ s' kI=>hq e st'' a'' w'' g'' Mu sJ (s.trans s') (kI.trans hd)
    cases e with
    | normal=>
     simp only[qe,jW] at hK
     cases hf:kG mk.head st'.tmps with
     | false=>rw[hf] at hK;cases hK
     | true=>
      rw[hf] at hK;exact qmD (ihk _ a' w' g' hK (H3 _ hf gy) hq')
    | exit id=>
     simp only[qe,jW] at hK
     cases hf:kG mk.out st'.tmps with
     | false=>rw[hf] at hK;cases hK
     | true=>rw[hf] at hK;exact hq (.exit id) _ a' w' g' hK (H3 _ hf gy) s hd
    | ret=>
     simp only[qe,jW] at hK
     cases hf:kG mk.ret st'.tmps with
     | false=>rw[hf] at hK;cases hK
     | true=>rw[hf] at hK;exact hq .ret _ a' w' g' hK (H3 _ hf gy) s hd
  exact qpD (round n _ a w g hn nC hq)
 | exit id=>
  intro st K r a w g Q h hs hq;exact wp_exit (hq (.exit id) st a w g h hs (Step.refl _ _ _) (iN.refl _ _))
 | ret=>
  intro st K r a w g Q h hs hq;exact wp_ret (hq .ret st a w g h hs (Step.refl _ _ _) (iN.refl _ _))
 | rangeFunc=>intro st K r a w g Q h;simp[b6] at h
 | scope=>intro st K r a w g Q h;simp[b6] at h
 | label=>intro st K r a w g Q h;simp[b6] at h
 | goto=>intro st K r a w g Q h;simp[b6] at h
 | refuse=>intro st K r a w g Q h;simp[b6] at h
theorem qgY (hC:CfgOk C):∀ k,rP C (n8 C k):=by
 intro k
 induction k with
 | zero=>intro f args m v m' h;simp[n8] at h
 | succ k ih=>
  intro f args m v m' h;simp only[n8] at h
  cases hfn:C.P.funcs[f]? with
  | none=>rw[hfn] at h;simp at h
  | some fn=>
   rw[hfn] at h;simp only at h
   cases hb:fn.body with
   | none=>rw[hb] at h;simp at h
   | some c=>
    rw[hb] at h;simp only at h;refine ⟨?_,fn,rfl,by simp[hb]⟩;intro B w g vs hm hB hl hv;refine calls_of_wp_defers hfn hb ?_
    have A5:pQ w g (args++List.replicate (fn.ntmps - args.length) .any) (vs++Array.replicate (fn.ntmps - vs.size) undef):=by
     refine ⟨by simp[hl],fun t=>?_⟩;simp only[aT,jq,qn,Array.getElem?_append]
     by_cases h1:t < args.length
     ·rw[an h1,an (by omega)];simpa [aT,jq] using hv t h1
     ·rw[aj h1,aj (by omega),Aa];split<;>exact .any _
    refine qkb hC ih c _ _ (v,m') _ w g _ h ⟨A5,hm,hB⟩ ?_;intro e st' a' w' g' hK gy s hd
    have fin:(ui C.P st'.mem st'.tmps fn.results.toList).bind (fun vs=>some (Em vs,st'.mem))=some (v,m')->Leaves C.P fn a'.tmps (fun e w'=>∃ v'' g'',e=Ending.returned v''/\Step B w g w' g''/\MemR B w' g'' m'/\V w' g'' v v'') a'.defers .returning w':=by
     intro hK;simp only[bc,bG,fe] at hK;obtain ⟨l,mW,rfl,rfl⟩:=hK;obtain ⟨vl,r1,r2,r3⟩:=Yj (P:=C.P) gy.mem gy.tmp _ l mW;refine Wf ⟨_,?_,_,g',rfl,s,gy.mem,qnd r2 r3⟩ _ (hd (fun d hd=>by cases hd));rw[qn7,Array.mapM_eq_mapM_toList];simp only[Sem.run_bind,Sem.run_map,r1,Result.andThen_ok,Sem.run_pure]
    cases e with
    | normal=>exact fin (by simpa only[aF,I7] using hK)
    | exit id=>simp[aF] at hK
    | ret=>exact fin (by simpa only[aF,I7] using hK)
theorem ZY (hC:CfgOk C):rP C (AC C):=by
 intro f args m v m' h;obtain ⟨k,hk⟩:=sR h;exact qgY hC k f args m v m' hk
end
end Go.Ab
namespace Go.Ab
open Go.RowKit Go.Sort
def wT:List AV->Option (List Int)
 | []=>some []
 | .int .i64 n::l=>(wT l).map fun ns=>n::ns
 | _=>none
theorem NG:∀ {ks:List AV} {ns:List Int},wT ks=some ns->ks=ns.map (AV.int .i64)
 | [],ns,h=>by simp[wT] at h;subst h;rfl
 | x::l,ns,h=>by
  unfold wT at h
  split at h
  ·rename_i he;cases he
  ·rename_i n l' he;cases he;obtain ⟨ms,hm,rfl⟩:=gG.1 h;rw[NG hm];rfl
  ·cases h
theorem NH:∀ ns:List Int,wT (ns.map (AV.int .i64))=some ns
 | []=>rfl
 | n::ns=>by simp only[fV,wT,NH ns,aQ]
def nP (ns:List Int):List Int:=ns.mergeSort fun x y=>decide (x<=y)
def zj:List AV->af->OM
 | [.lst _ _ _ []],m=>some (.tup [],m)
 | [.arr nm off n sh],m=>match sh with
  | some _=>none
  | none=>(m.obj? nm).bind fun o=>if o.1=false/\off=0/\0 < n/\n=o.2.length/\n<=1000000 then (wT o.2).map fun ns=>(.tup [],m.set nm (some (.obj false ((nP ns).map (AV.int .i64))))) else none
 | _,_=>none
def xZ:List AV->af->OM
 | [.lst sh z o []],m=>some (.lst sh z o [],m)
 | [.arr nm off n sh],m=>match sh with
  | some _=>none
  | none=>(m.obj? nm).bind fun o=>if o.1=false/\off=0/\0 < n/\n=o.2.length/\n<=1000000 then (wT o.2).map fun ns=>(.arr nm 0 (Lib.compact ns).length none,m.set nm (some (.obj false ((Lib.compact ns++List.replicate (ns.length - (Lib.compact ns).length) 0).map (AV.int .i64))))) else none
 | _,_=>none
abbrev lU:Int->Value:=Value.int .i64
section
variable [WInv] {P:Program} {B:Nat} {w:World} {g:G} {m:af}
theorem qnO {w:World} {b:Nat} {d:Array Int} {c:Array Value} {e:TypeId} {fr:Nat×Nat} (hb:w.heap[b]?=some (Obj.cells c e fr)) (n:Nat) (os:Array Obj) :
  Below (w.setRow b (putCells lU 0 d c)).heap.size (w.setRow b (putCells lU 0 d c)) (grow (putRow lU (Sort.ahead w n) b 0 d) os):=by
 have hsz:(w.setRow b (putCells lU 0 d c)).heap.size=w.heap.size:=by simp
 have Nt:(putRow lU (Sort.ahead w n) b 0 d).heap.size=w.heap.size:=by simp[putRow,mapBlock,Sort.ahead]
 refine ⟨rfl,rfl,rfl,?_,fun k hk=>?_⟩
 ·show _<=((putRow lU (Sort.ahead w n) b 0 d).heap++os).size;rw[zD,hsz,Nt];omega
 ·rw[hsz] at hk;rw[heap_grow_old _ os (by rw[Nt];exact hk)]
  by_cases he:k=b
  ·subst he;rw[setRow_heap w k c _ e fr hb];simp only[putRow,mapBlock,Sort.ahead,Array.getElem?_modify,bq,hb,aQ,onCells]
  ·rw[setRow_other w b k _ he];simp only[putRow,mapBlock,Sort.ahead,Array.getElem?_modify];rw[aj (fun h=>he h.symm)]
theorem qnK {d:Array Int} {c:Array Value} {j:Nat} (hj:j < d.size) (hc:d.size<=c.size):(putCells lU 0 d c).getD j undef=.int .i64 d[j]!:=by
 have AS:j < c.size:=by omega
 simp[putCells,jq,Array.getElem?_mapIdx,AS,hj]
theorem XY (hm:MemR B w g m) (hB:B<=w.heap.size) {nm b:Nat} {cs:List AV} {c:Array Value} {e:TypeId} (hn:m.get nm=some (.obj false cs)) (hl:g.loc nm=some b) (hb:w.heap[b]?=some (Obj.cells c e (0,0))) (hcl:cs.length<=c.size) {ds:List Int} (hd:ds.length=cs.length) (n:Nat) (os:Array Obj) :
  Step B w g (grow (putRow lU (Sort.ahead w n) b 0 ds.toArray) os) g/\MemR B (grow (putRow lU (Sort.ahead w n) b 0 ds.toArray) os) g (m.set nm (some (.obj false (ds.map (AV.int .i64))))):=by
 have hsz:(putCells lU 0 ds.toArray c).size=c.size:=by simp[putCells]
 obtain ⟨s1,lE⟩:=hm.write (cs':=ds.map (AV.int .i64)) (c':=putCells lU 0 ds.toArray c) hn hl hb hsz (by rw[hsz,bU];omega) (fun j hj=>by
  rw[bU] at hj;rw[qnK (by simpa using hj) (by simp;omega)];have e1:(ds.map (AV.int .i64)).getD j .any=.int .i64 ds[j]:=by simp[aT,hj]
  have e2:ds.toArray[j]! = ds[j]:=by simp[hj]
  rw[e1,e2]
  exact .int _ _)
 have pB:=qnO (d:=ds.toArray) hb n os;have yn:B<=(w.setRow b (putCells lU 0 ds.toArray c)).heap.size:=by simpa using hB
 have s2:Step B (w.setRow b (putCells lU 0 ds.toArray c)) g (grow (putRow lU (Sort.ahead w n) b 0 ds.toArray) os) g:=
  ⟨pB.mono yn,fun b' off u _ hc=>(pB.cell (p:=⟨b',off,none⟩) (tz hc)).trans hc,fun b' c' e' fr iB=>⟨c',(pB.block b' (fE.1 iB).1).trans iB,rfl⟩,fun _ _ _ h=>h,fun _ _ _=>Iff.rfl,fun _ _=>Iff.rfl,fun _ _ h=>h,fun _ _ _ h=>h⟩
 exact ⟨s1.trans s2,lE.keep s2 (fun b' _ iB=>pB.block b' iB) (fun _ _ h=>h) rfl rfl (fun b' off hw=>qU (lE.wrLt b' off hw) pB.size) (fun b' hw=>qU (lE.boxLt b' hw) pB.size)⟩
theorem Vs {b:Nat} {cs:List AV} {c:Array Value} {e:TypeId} (hb:w.heap[b]?=some (Obj.cells c e (0,0))) (hcl:cs.length<=c.size) {ns:List Int} (hc:cs=ns.map (AV.int .i64)) (hv:∀ j,j < cs.length->V w g (cs.getD j .any) (c.getD j undef)):Holds lU w b 0 ns.toArray:=by
 intro j hj;have gH:j < ns.length:=by simpa using hj
 have AS:j < cs.length:=by rw[hc,bU];exact gH
 have h1:=hv j AS;have e1:cs.getD j .any=.int .i64 ns[j]:=by rw[hc];simp[aT,gH]
 rw[e1] at h1
 have e3:c.getD j undef=.int .i64 ns[j]:=by
  generalize c.getD j undef=u at h1;cases h1;rfl
 refine ⟨?_,by simp[World.frozen?,hb]⟩;rw[cell_of_row w _ _ c e (0,0) hb];have hjs:j < c.size:=by omega
 simp only[bf];rw[jq,BV hjs,fg] at e3;rw[BV hjs,e3];simp[gH]
theorem qoF {f:Nat} (hS:∀ (a8 cap:Nat) (zs:List Int) (w:World),Holds lU w a8 0 zs.toArray->a8 < w.heap.size->zs.length < 4611686018427387904->Calls P f #[.slice (some ⟨a8,0,none⟩) zs.length cap] w fun e w'=>e=.returned (.tuple #[])/\∃ n os,w'=grow (putRow lU (Sort.ahead w n) a8 0 (nP zs).toArray) os)
  (hN:∀ (p:Option Addr) (cap:Nat) (w:World),Calls P f #[.slice p 0 cap] w fun e w'=>e=.returned (.tuple #[])/\w'=w) (vs:List AV) (m:af) (v:AV) (m':af) (h:zj vs m=some (v,m')):te P f vs m v m':=by
 intro B w g us hm hB hus hV
 have one:∀ x,vs=[x]->∃ u,us = #[u]/\V w g x u:=fun x hx=>by
  subst hx;have hsz:us.size=1:=by simpa using hus.symm
  have h0:=hV 0 (by simp);simp only[pk] at h0;refine ⟨us.getD 0 undef,?_,h0⟩;apply Array.ext (by simpa using hsz);intro i hi1 hi2;obtain rfl:i=0:=by simp at hi2;omega
  simp[Array.getD,hi1]
 unfold zj at h
 split at h
 ·rename_i m0 sh z o;simp only[bG,fe] at h;obtain ⟨rfl,rfl⟩:=h;obtain ⟨u,rfl,hu⟩:=one _ rfl;have hus:∃ p cap,u=.slice p 0 cap:=by cases hu<;>exact ⟨_,_,rfl⟩
  obtain ⟨p,cap,rfl⟩:=hus;refine (hN p cap w).mono ?_;rintro e w' ⟨rfl,rfl⟩;exact ⟨_,g,rfl,Step.refl _ _ _,hm,.tup [] #[] rfl (fun j hj=>absurd hj (Nat.not_lt_zero j))⟩
 ·rename_i m0 nm off n sh
  split at h
  ·cases h
  ·obtain ⟨⟨bx,cs⟩,ho,h2⟩:=bc.1 h;clear h;simp only at h2
   split at h2
   ·rename_i hc;obtain ⟨rfl,rfl,lF,rfl,H5⟩:=hc;obtain ⟨ns,hns,h3⟩:=gG.1 h2;simp only[fe] at h3;obtain ⟨rfl,rfl⟩:=h3;have hZ:=NG hns;obtain ⟨u,rfl,hu⟩:=one _ rfl;have aU:=obj?_get ho;obtain ⟨b,c,e,o1,o2,o3,o4,o5,o6,o7⟩:=hm.obj nm false cs aU
    cases hu with
    | arr _ _ _ _ a cap hs tG hmx hl=>
     obtain ⟨l1,l2,_⟩:=hl.resolve_left (by omega);obtain rfl:b=a.block:=by simpa [o1] using l1
     have hlen:cs.length=ns.length:=by rw[hZ,bU]
     have hH:=Vs (g:=g) o3 o4 hZ o5;rw[l2,hlen];refine (hS a.block cap ns w hH (fE.1 o3).1 (by omega)).mono ?_;rintro e' w' ⟨rfl,k,os,rfl⟩;obtain ⟨s,hm'⟩:=XY hm hB aU o1 o3 o4 (ds:=nP ns) (by rw[nP,List.length_mergeSort,hlen]) k os;exact ⟨_,g,rfl,s,hm',.tup [] #[] rfl (fun j hj=>absurd hj (Nat.not_lt_zero j))⟩
   ·cases h2
 ·cases h
theorem qjR {f:Nat} (hS:∀ (a8 cap:Nat) (zs:List Int) (w:World),Holds lU w a8 0 zs.toArray->zs.length<=9223372036854775807->zs.length<=cap->Calls P f #[.slice (some ⟨a8,0,none⟩) zs.length cap] w fun e w'=>e=.returned (.slice (some ⟨a8,0,none⟩) (Lib.compact zs).length cap)/\∃ q,w'=putRow lU (Sort.ahead w q) a8 0 (Lib.compact zs++List.replicate (zs.length - (Lib.compact zs).length) 0).toArray)
  (hN:∀ (p:Option Addr) (cap:Nat) (w:World),Calls P f #[.slice p 0 cap] w fun e w'=>e=.returned (.slice p 0 cap)/\w'=w) (hle:∀ zs:List Int,(Lib.compact zs).length<=zs.length) (vs:List AV) (m:af) (v:AV) (m':af) (h:xZ vs m=some (v,m')):te P f vs m v m':=by
 intro B w g us hm hB hus hV
 have one:∀ x,vs=[x]->∃ u,us = #[u]/\V w g x u:=fun x hx=>by
  subst hx;have hsz:us.size=1:=by simpa using hus.symm
  have h0:=hV 0 (by simp);simp only[pk] at h0;refine ⟨us.getD 0 undef,?_,h0⟩;apply Array.ext (by simpa using hsz);intro i hi1 hi2;obtain rfl:i=0:=by simp at hi2;omega
  simp[Array.getD,hi1]
 unfold xZ at h
 split at h
 ·rename_i m0 sh z o;simp only[bG,fe] at h;obtain ⟨rfl,rfl⟩:=h;obtain ⟨u,rfl,hu⟩:=one _ rfl;have hus:∃ p cap,u=.slice p 0 cap:=by cases hu<;>exact ⟨_,_,rfl⟩
  obtain ⟨p,cap,rfl⟩:=hus;refine (hN p cap w).mono ?_;rintro e w' ⟨rfl,rfl⟩;exact ⟨_,g,rfl,Step.refl _ _ _,hm,hu⟩
 ·rename_i m0 nm off n sh
  split at h
  ·cases h
  ·obtain ⟨⟨bx,cs⟩,ho,h2⟩:=bc.1 h;clear h;simp only at h2
   split at h2
   ·rename_i hc;obtain ⟨rfl,rfl,lF,rfl,H5⟩:=hc;obtain ⟨ns,hns,h3⟩:=gG.1 h2;simp only[fe] at h3;obtain ⟨rfl,rfl⟩:=h3;have hZ:=NG hns;obtain ⟨u,rfl,hu⟩:=one _ rfl;have aU:=obj?_get ho;obtain ⟨b,c,e,o1,o2,o3,o4,o5,o6,o7⟩:=hm.obj nm false cs aU
    cases hu with
    | arr _ _ _ _ a cap hs tG hmx hl=>
     obtain ⟨l1,l2,c2,e2,l3,l4⟩:=hl.resolve_left (by omega);obtain rfl:b=a.block:=by simpa [o1] using l1
     have hlen:cs.length=ns.length:=by rw[hZ,bU]
     have hH:=Vs (g:=g) o3 o4 hZ o5;rw[hlen] at tG;rw[l2,hlen];refine (hS a.block cap ns w hH (by omega) tG).mono ?_;rintro e' w' ⟨rfl,k,rfl⟩;have hcl:=hle ns;obtain ⟨s,hm'⟩:=XY hm hB aU o1 o3 o4 (ds:=Lib.compact ns++List.replicate (ns.length - (Lib.compact ns).length) 0) (by rw[aI,uy];omega) k #[]
     have eg:grow (putRow lU (Sort.ahead w k) a.block 0 (Lib.compact ns++List.replicate (ns.length - (Lib.compact ns).length) 0).toArray) #[]=putRow lU (Sort.ahead w k) a.block 0 (Lib.compact ns++List.replicate (ns.length - (Lib.compact ns).length) 0).toArray:=by
      simp only[grow,Array.append_empty]
     rw[eg] at s hm';refine ⟨_,g,rfl,s,hm',.arr _ _ _ _ _ _ (.inr rfl) (by omega) hmx (.inr ⟨o1,rfl,?_⟩)⟩;obtain ⟨c',k1,k2⟩:=s.shape _ _ _ _ l3;exact ⟨c',e2,k1,by omega⟩
   ·cases h2
 ·cases h
end
end Go.Ab
namespace Go.Proofs
open Go.Shelf
def Tryz.lays169_ren:Go.Shelf.Ren:=⟨fun | 169=>176 | n=>n,fun | 70=>200 | 9=>9 | 0=>0 | 72=>203 | 37=>201 | 127=>215 | 3=>3 | 5=>5 | n=>n,fun | n=>n⟩
theorem Tryz.lays169:Go.Proofs.Lays.n169 Tryz.prog Tryz.lays169_ren:={
 mixed:=by kernel_rfl
 f169:=Tryz.func176.trans (dc some (by kernel_rfl))
 t0:=Tryz.underlying0
 a0:=Tryz.isAgg0
 z0:=Tryz.sizeOf0
 v0:=Tryz.zeroValue0
 t3:=Tryz.underlying3
 a3:=Tryz.isAgg3
 z3:=Tryz.sizeOf3
 v3:=Tryz.zeroValue3
 t9:=Tryz.underlying9
 a9:=Tryz.isAgg9
 z9:=Tryz.sizeOf9
 v9:=Tryz.zeroValue9
 t37:=Tryz.underlying201
 a37:=Tryz.isAgg201
 z37:=Tryz.sizeOf201
 v37:=Tryz.zeroValue201
 t70:=Tryz.underlying200
 a70:=Tryz.isAgg200
 z70:=Tryz.sizeOf200
 v70:=Tryz.zeroValue200
 t72:=Tryz.underlying203
 a72:=Tryz.isAgg203
 z72:=Tryz.sizeOf203
 v72:=Tryz.zeroValue203
 t127:=Tryz.underlying215
 a127:=Tryz.isAgg215
 z127:=Tryz.sizeOf215
 v127:=Tryz.zeroValue215 }
theorem Tryz.Builder_Extra_169:Builder.Extra Tryz.prog Tryz.lays169_ren:={
 sizeBuilder:=by kernel_rfl
 liesBuilder:=by kernel_rfl
 t5:=Tryz.underlying5
 a5:=Tryz.isAgg5
 z5:=Tryz.sizeOf5
 v5:=Tryz.zeroValue5
 infoByte:=by kernel_rfl
 cellsByte:=by kernel_rfl
 sizeByte:=by kernel_rfl
 neB5:=by decide }
open Go.RowKit in
theorem Tryz.Builder_String_any_k (B b:Nat) (l:List UInt8) (w:World) (h:Lib.IsBuilderF 203 5 B b (Lib.byteCells l) w) (hBw:B<=w.heap.size) :
  Calls Tryz.prog 176 #[.pointer (some ⟨b,0,none⟩)] w fun e w'=>e=.returned (.string ⟨l.toArray⟩)/\(Lib.IsBuilderF 203 5 B b (Lib.byteCells l) w'/\Below B w w'/\Lib.OthersKept 5 (some b) w w'):=Any.Builder_String_any_k Tryz.lays169 Tryz.Builder_Extra_169 B b l w h hBw
def Tryz.laysM171_ren:Go.Shelf.Ren:=⟨fun | 171=>173 | 243=>188 | 246=>205 | 283=>213 | 284=>214 | 285=>215 | 286=>216 | 129=>200 | 317=>218 | 318=>219 | 319=>220 | 320=>221 | 337=>222 | 338=>223 | n=>n,fun | 3=>3 | 9=>9 | 2=>2 | 4=>4 | 171=>238 | 0=>0 | 53=>117 | 37=>201 | 5=>5 | 173=>240 | 212=>246 | 51=>161 | 20=>20 | 213=>247 | 46=>162 | 232=>248 | 233=>249 | n=>n,fun | 17=>0 | 18=>1 | 19=>2 | n=>n⟩
theorem Tryz.laysM171:Go.Proofs.LaysM.n171 Tryz.prog Tryz.laysM171_ren:={
 mixed:=by kernel_rfl
 f129:=Tryz.func200.trans (dc some (by kernel_rfl))
 f171:=Tryz.func173.trans (dc some (by kernel_rfl))
 f243:=Tryz.func188.trans (dc some (by kernel_rfl))
 f246:=Tryz.func205.trans (dc some (by kernel_rfl))
 f283:=Tryz.func213.trans (dc some (by kernel_rfl))
 f284:=Tryz.func214.trans (dc some (by kernel_rfl))
 f285:=Tryz.func215.trans (dc some (by kernel_rfl))
 f286:=Tryz.func216.trans (dc some (by kernel_rfl))
 f317:=Tryz.func218.trans (dc some (by kernel_rfl))
 f318:=Tryz.func219.trans (dc some (by kernel_rfl))
 f319:=Tryz.func220.trans (dc some (by kernel_rfl))
 f320:=Tryz.func221.trans (dc some (by kernel_rfl))
 f337:=Tryz.func222.trans (dc some (by kernel_rfl))
 f338:=Tryz.func223.trans (dc some (by kernel_rfl))
 t0:=Tryz.underlying0
 a0:=Tryz.isAgg0
 z0:=Tryz.sizeOf0
 v0:=Tryz.zeroValue0
 t2:=Tryz.underlying2
 a2:=Tryz.isAgg2
 z2:=Tryz.sizeOf2
 v2:=Tryz.zeroValue2
 t3:=Tryz.underlying3
 a3:=Tryz.isAgg3
 z3:=Tryz.sizeOf3
 v3:=Tryz.zeroValue3
 t4:=Tryz.underlying4
 a4:=Tryz.isAgg4
 z4:=Tryz.sizeOf4
 v4:=Tryz.zeroValue4
 t5:=Tryz.underlying5
 a5:=Tryz.isAgg5
 z5:=Tryz.sizeOf5
 v5:=Tryz.zeroValue5
 t9:=Tryz.underlying9
 a9:=Tryz.isAgg9
 z9:=Tryz.sizeOf9
 v9:=Tryz.zeroValue9
 t20:=Tryz.underlying20
 a20:=Tryz.isAgg20
 z20:=Tryz.sizeOf20
 v20:=Tryz.zeroValue20
 t37:=Tryz.underlying201
 a37:=Tryz.isAgg201
 z37:=Tryz.sizeOf201
 v37:=Tryz.zeroValue201
 t46:=Tryz.underlying162
 a46:=Tryz.isAgg162
 z46:=Tryz.sizeOf162
 v46:=Tryz.zeroValue162
 t51:=Tryz.underlying161
 a51:=Tryz.isAgg161
 z51:=Tryz.sizeOf161
 v51:=Tryz.zeroValue161
 t53:=Tryz.underlying117
 a53:=Tryz.isAgg117
 z53:=Tryz.sizeOf117
 v53:=Tryz.zeroValue117
 t171:=Tryz.underlying238
 a171:=Tryz.isAgg238
 z171:=Tryz.sizeOf238
 v171:=Tryz.zeroValue238
 t173:=Tryz.underlying240
 a173:=Tryz.isAgg240
 z173:=Tryz.sizeOf240
 v173:=Tryz.zeroValue240
 t212:=Tryz.underlying246
 a212:=Tryz.isAgg246
 z212:=Tryz.sizeOf246
 v212:=Tryz.zeroValue246
 t213:=Tryz.underlying247
 a213:=Tryz.isAgg247
 z213:=Tryz.sizeOf247
 t232:=Tryz.underlying248
 a232:=Tryz.isAgg248
 z232:=Tryz.sizeOf248
 v232:=Tryz.zeroValue248
 t233:=Tryz.underlying249
 a233:=Tryz.isAgg249
 z233:=Tryz.sizeOf249
 v233:=Tryz.zeroValue249
 g17:=by kernel_rfl
 g18:=by kernel_rfl
 g19:=by kernel_rfl
 i0:=by kernel_rfl
 i2:=by kernel_rfl
 i3:=by kernel_rfl
 i4:=by kernel_rfl
 i5:=by kernel_rfl
 i9:=by kernel_rfl
 i20:=by kernel_rfl
 i37:=by kernel_rfl
 i46:=by kernel_rfl
 i51:=by kernel_rfl
 i53:=by kernel_rfl
 i171:=by kernel_rfl
 i173:=by kernel_rfl
 i212:=by kernel_rfl
 i232:=by kernel_rfl
 i233:=by kernel_rfl
 m17:=by kernel_rfl
 m18:=by kernel_rfl
 m19:=by kernel_rfl }
open Go.RowKit Go.Sort Go.Lib in
theorem Tryz.strconv_Itoa (n:Int) (h0:-9223372036854775808<=n) (h1:n<=9223372036854775807) (w:World) (htab:Lib.TabIs Tryz.prog w "internal/strconv.uint64pow10" .u64 Lib.pow10Tab) :
  Calls Tryz.prog 173 #[.int .i64 n] w fun e w'=>e=.returned (.string ⟨(Lib.itoa n).toArray⟩)/\∃ k os,w'=grow (w.drewN k) os:=Any.strconv_Itoa Tryz.laysM171 n h0 h1 w htab
def Tryz.lays189_ren:Go.Shelf.Ren:=⟨fun | 189=>148 | 125=>179 | 257=>178 | 128=>199 | 129=>200 | 294=>190 | 295=>191 | 296=>192 | 297=>193 | 298=>194 | 299=>195 | 216=>196 | 300=>197 | 301=>198 | 328=>207 | 329=>208 | 330=>209 | 331=>210 | 332=>211 | 215=>212 | 343=>217 | n=>n,fun | 28=>22 | 3=>3 | 46=>162 | 0=>0 | 51=>161 | 53=>117 | 4=>4 | 183=>218 | 182=>217 | 131=>173 | 5=>5 | 9=>9 | 218=>232 | 222=>236 | 228=>242 | 229=>243 | n=>n,fun | n=>n⟩
theorem Tryz.lays189:Go.Proofs.Lays.n189 Tryz.prog Tryz.lays189_ren:={
 mixed:=by kernel_rfl
 f125:=Tryz.func179.trans (dc some (by kernel_rfl))
 f128:=Tryz.func199.trans (dc some (by kernel_rfl))
 f129:=Tryz.func200.trans (dc some (by kernel_rfl))
 f189:=Tryz.func148.trans (dc some (by kernel_rfl))
 f215:=Tryz.func212.trans (dc some (by kernel_rfl))
 f216:=Tryz.func196.trans (dc some (by kernel_rfl))
 f257:=Tryz.func178.trans (dc some (by kernel_rfl))
 f294:=Tryz.func190.trans (dc some (by kernel_rfl))
 f295:=Tryz.func191.trans (dc some (by kernel_rfl))
 f296:=Tryz.func192.trans (dc some (by kernel_rfl))
 f297:=Tryz.func193.trans (dc some (by kernel_rfl))
 f298:=Tryz.func194.trans (dc some (by kernel_rfl))
 f299:=Tryz.func195.trans (dc some (by kernel_rfl))
 f300:=Tryz.func197.trans (dc some (by kernel_rfl))
 f301:=Tryz.func198.trans (dc some (by kernel_rfl))
 f328:=Tryz.func207.trans (dc some (by kernel_rfl))
 f329:=Tryz.func208.trans (dc some (by kernel_rfl))
 f330:=Tryz.func209.trans (dc some (by kernel_rfl))
 f331:=Tryz.func210.trans (dc some (by kernel_rfl))
 f332:=Tryz.func211.trans (dc some (by kernel_rfl))
 f343:=Tryz.func217.trans (dc some (by kernel_rfl))
 t0:=Tryz.underlying0
 a0:=Tryz.isAgg0
 z0:=Tryz.sizeOf0
 v0:=Tryz.zeroValue0
 t3:=Tryz.underlying3
 a3:=Tryz.isAgg3
 z3:=Tryz.sizeOf3
 v3:=Tryz.zeroValue3
 t4:=Tryz.underlying4
 a4:=Tryz.isAgg4
 z4:=Tryz.sizeOf4
 v4:=Tryz.zeroValue4
 t5:=Tryz.underlying5
 a5:=Tryz.isAgg5
 z5:=Tryz.sizeOf5
 v5:=Tryz.zeroValue5
 t9:=Tryz.underlying9
 a9:=Tryz.isAgg9
 z9:=Tryz.sizeOf9
 v9:=Tryz.zeroValue9
 t28:=Tryz.underlying22
 a28:=Tryz.isAgg22
 z28:=Tryz.sizeOf22
 v28:=Tryz.zeroValue22
 t46:=Tryz.underlying162
 a46:=Tryz.isAgg162
 z46:=Tryz.sizeOf162
 v46:=Tryz.zeroValue162
 t51:=Tryz.underlying161
 a51:=Tryz.isAgg161
 z51:=Tryz.sizeOf161
 v51:=Tryz.zeroValue161
 t53:=Tryz.underlying117
 a53:=Tryz.isAgg117
 z53:=Tryz.sizeOf117
 v53:=Tryz.zeroValue117
 t131:=Tryz.underlying173
 a131:=Tryz.isAgg173
 z131:=Tryz.sizeOf173
 v131:=Tryz.zeroValue173
 t182:=Tryz.underlying217
 a182:=Tryz.isAgg217
 z182:=Tryz.sizeOf217
 v182:=Tryz.zeroValue217
 t183:=Tryz.underlying218
 a183:=Tryz.isAgg218
 z183:=Tryz.sizeOf218
 v183:=Tryz.zeroValue218
 t218:=Tryz.underlying232
 a218:=Tryz.isAgg232
 z218:=Tryz.sizeOf232
 v218:=Tryz.zeroValue232
 t222:=Tryz.underlying236
 a222:=Tryz.isAgg236
 z222:=Tryz.sizeOf236
 v222:=Tryz.zeroValue236
 t228:=Tryz.underlying242
 a228:=Tryz.isAgg242
 z228:=Tryz.sizeOf242
 v228:=Tryz.zeroValue242
 t229:=Tryz.underlying243
 a229:=Tryz.isAgg243
 z229:=Tryz.sizeOf243
 v229:=Tryz.zeroValue243 }
open Go.Sort Go.RowKit in
theorem Tryz.slices_Sort_int (a8 off cap:Nat) (zs:List Int) (w:World) (hH:Holds (Value.int .i64) w a8 off zs.toArray) (hblk:a8 < w.heap.size) (hsz:zs.length < 4611686018427387904) :
  Calls Tryz.prog 148 #[.slice (some ⟨a8,off,none⟩) zs.length cap] w fun e w'=>
   e=.returned (.tuple #[])/\∃ n os,w'=grow (putRow (Value.int .i64) (Sort.ahead w n) a8 off (zs.mergeSort fun x y=>decide (x<=y)).toArray) os:=Any.slices_Sort_int Tryz.lays189 a8 off cap zs w hH hblk hsz
def Tryz.laysNm220_ren:Go.Shelf.Ren:=⟨fun | 20=>149 | n=>n,fun | 22=>22 | 3=>3 | 4=>4 | 0=>0 | n=>n,fun | n=>n⟩
theorem Tryz.laysNm220:Go.Proofs.Lays2.n20 Tryz.prog Tryz.laysNm220_ren:={
 mixed:=by kernel_rfl
 f20:=Tryz.func149.trans (dc some (by kernel_rfl))
 t0:=Tryz.underlying0
 a0:=Tryz.isAgg0
 z0:=Tryz.sizeOf0
 v0:=Tryz.zeroValue0
 t3:=Tryz.underlying3
 a3:=Tryz.isAgg3
 z3:=Tryz.sizeOf3
 v3:=Tryz.zeroValue3
 t4:=Tryz.underlying4
 a4:=Tryz.isAgg4
 z4:=Tryz.sizeOf4
 v4:=Tryz.zeroValue4
 t22:=Tryz.underlying22
 a22:=Tryz.isAgg22
 z22:=Tryz.sizeOf22
 v22:=Tryz.zeroValue22
 i3:=by kernel_rfl }
open Go.RowKit Go.Lib Go.Sort in
theorem Tryz.slices_Compact_int (a8 off cap:Nat) (zs:List Int) (w:World) (hH:Holds (Value.int .i64) w a8 off zs.toArray) (hsz:zs.length<=9223372036854775807) (hcap:zs.length<=cap) :
  Calls Tryz.prog 149 #[.slice (some ⟨a8,off,none⟩) zs.length cap] w fun e w'=>e=.returned (.slice (some ⟨a8,off,none⟩) (Lib.compact zs).length cap)/\∃ q,w'=putRow (Value.int .i64) (Sort.ahead w q) a8 off (Lib.compact zs++List.replicate (zs.length - (Lib.compact zs).length) 0).toArray:=Any.slices_Compact_int Tryz.laysNm220 a8 off cap zs w hH hsz hcap
open Go.RowKit Go.Lib Go.Sort in
theorem Tryz.slices_Compact_int_empty (a:Option Addr) (cap:Nat) (w:World) :
  Calls Tryz.prog 149 #[.slice a 0 cap] w fun e w'=>e=.returned (.slice a 0 cap)/\w'=w:=Any.slices_Compact_int_empty Tryz.laysNm220 a cap w
open Go.RowKit Go.Sort in
theorem Tryz.slices_Sort_int_none (p:Option Addr) (cap:Nat) (w:World) :
  Calls Tryz.prog 148 #[.slice p 0 cap] w fun e w'=>e=.returned (.tuple #[])/\w'=w:=Any.slices_Sort_int_none Tryz.lays189 p cap w
end Go.Proofs
namespace Go.Proofs
open Go.Shelf Go.RowKit
theorem Yd.infoByte:(Tryz.prog.info? 5).map (fun i=>(i.zero,i.size,i.bytes))=some (some (.int .u8 0),1,1):=by kernel_rfl
theorem Yd.sizeBuilder:(Tryz.prog.info? 203).map (·.size)=some 2:=by kernel_rfl
theorem Yd.liesBuilder:liesAt Tryz.prog Tryz.prog.depth 203 (2 / Tryz.prog.cellsOf 203) 0 203 1=true:=by kernel_rfl
set_option maxHeartbeats 2000000 in
set_option maxRecDepth 100000 in
theorem Yd.Builder_copyCheck_used (b:Nat) (w:World) (h0:w.cell? ⟨b,0,none⟩=some (.pointer (some ⟨b,0,none⟩))) :
  Calls Tryz.prog 189 #[.pointer (some ⟨b,0,none⟩)] w fun e w'=>e=.returned (.tuple #[])/\w'=w:=by
 obtain ⟨j,hj,_⟩:=gG.1 Yd.sizeBuilder;have mixed:Tryz.prog.follows .mixedOrders=true:=by kernel_rfl
 have t72:=Tryz.underlying203;have a72:=Tryz.isAgg203;have z72:=Tryz.sizeOf203;have v72:=Tryz.zeroValue203;have u72:=run_underlying Tryz.underlying203;have t70:=Tryz.underlying200;have a70:=Tryz.isAgg200;have z70:=Tryz.sizeOf200;have v70:=Tryz.zeroValue200;have u70:=run_underlying Tryz.underlying200;have t9:=Tryz.underlying9;have a9:=Tryz.isAgg9;have z9:=Tryz.sizeOf9;have v9:=Tryz.zeroValue9;have u9:=run_underlying Tryz.underlying9;have t4:=Tryz.underlying4;have a4:=Tryz.isAgg4;have z4:=Tryz.sizeOf4;have v4:=Tryz.zeroValue4;have u4:=run_underlying Tryz.underlying4;have t164:=Tryz.underlying230;have a164:=Tryz.isAgg230;have z164:=Tryz.sizeOf230;have v164:=Tryz.zeroValue230;have u164:=run_underlying Tryz.underlying230
 go_enter Tryz.func189,Tryz.ntmps189
 go_wp2
 rw[Lib.run_neq_ptr_same w _ Tryz.underlying200 hj]
 go_wp2
 go_end0
 exact ⟨rfl,rfl⟩
set_option maxHeartbeats 2000000 in
set_option maxRecDepth 100000 in
theorem Yd.Builder_copyCheck_fresh (b:Nat) (w:World) (h0:w.cell? ⟨b,0,none⟩=some (.pointer none)) (hsh:w.shape? b=some (203,2)) (hfz:w.frozen? ⟨b,0,none⟩=false) :
  Calls Tryz.prog 189 #[.pointer (some ⟨b,0,none⟩)] w fun e w'=>e=.returned (.tuple #[])/\w'=w.setCell ⟨b,0,none⟩ (.pointer (some ⟨b,0,none⟩)):=by
 obtain ⟨j,hj,hjs⟩:=gG.1 Yd.sizeBuilder;have mixed:Tryz.prog.follows .mixedOrders=true:=by kernel_rfl
 have t72:=Tryz.underlying203;have a72:=Tryz.isAgg203;have z72:=Tryz.sizeOf203;have v72:=Tryz.zeroValue203;have u72:=run_underlying Tryz.underlying203;have t70:=Tryz.underlying200;have a70:=Tryz.isAgg200;have z70:=Tryz.sizeOf200;have v70:=Tryz.zeroValue200;have u70:=run_underlying Tryz.underlying200;have t9:=Tryz.underlying9;have a9:=Tryz.isAgg9;have z9:=Tryz.sizeOf9;have v9:=Tryz.zeroValue9;have u9:=run_underlying Tryz.underlying9;have t4:=Tryz.underlying4;have a4:=Tryz.isAgg4;have z4:=Tryz.sizeOf4;have v4:=Tryz.zeroValue4;have u4:=run_underlying Tryz.underlying4;have t164:=Tryz.underlying230;have a164:=Tryz.isAgg230;have z164:=Tryz.sizeOf230;have v164:=Tryz.zeroValue230;have u164:=run_underlying Tryz.underlying230
 go_enter Tryz.func189,Tryz.ntmps189
 go_wp2
 rw[Lib.run_to_unsafe w ⟨b,0,none⟩ Tryz.underlying200 Tryz.underlying230 hj (by rw[hjs];decide) hsh (Nat.zero_lt_succ 1)];simp only[Result.andThen];rw[Oper.upon_value]
 go_wp2
 rw[run_callFunc_extern Tryz.func206 (by kernel_rfl) (by kernel_rfl) (by kernel_rfl) (e:=Extern.AbiNoEscape.same) (by kernel_rfl)];rw[Lib.run_noEscape];simp only[Result.andThen];rw[Oper.upon_value]
 go_wp2
 rw[Lib.run_from_unsafe w ⟨b,0,none⟩ Tryz.underlying230 Tryz.underlying200 hj hsh Yd.liesBuilder];simp only[Result.andThen];rw[Oper.upon_value]
 go_wp2
 go_end0
 exact ⟨rfl,rfl⟩
set_option maxHeartbeats 2000000 in
set_option maxRecDepth 100000 in
theorem Yd.Builder_copyCheck_k (B b:Nat) (bs:List Value) (w:World) (h:Lib.IsBuilderF 203 5 B b bs w) :
  Calls Tryz.prog 189 #[.pointer (some ⟨b,0,none⟩)] w fun e w'=>e=.returned (.tuple #[])/\(Lib.BuilderAtF 203 5 B b (.pointer (some ⟨b,0,none⟩)) bs w'/\Below B w w'/\Lib.OthersKept 5 (some b) w w'):=by
 rcases h with h | h
 ·refine (Yd.Builder_copyCheck_fresh b w h.cell0 h.shape h.frozen0).mono ?_;rintro e w' ⟨rfl,rfl⟩;exact ⟨rfl,h.used _,(Below.refl B w).setCell (p:=⟨b,0,none⟩) h.1 _,(Lib.OthersKept.refl _ _ w).setCell ⟨b,0,none⟩ rfl _⟩
 ·refine (Yd.Builder_copyCheck_used b w h.cell0).mono ?_;rintro e w' ⟨rfl,rfl⟩;exact ⟨rfl,h,Below.refl B _,Lib.OthersKept.refl _ _ _⟩
set_option maxHeartbeats 2000000 in
set_option maxRecDepth 100000 in
theorem Yd.Builder_WriteByte_k (B b:Nat) (bs:List Value) (c:Int) (w:World) (h:Lib.IsBuilderF 203 5 B b bs w) (hlen:bs.length+1<=140737488355328) (hBw:B<=w.heap.size) :
  Calls Tryz.prog 175 #[.pointer (some ⟨b,0,none⟩),.int .u8 c] w fun e w'=>e=.returned .nilIface/\(Lib.BuilderAtF 203 5 B b (.pointer (some ⟨b,0,none⟩)) (bs++[.int .u8 c]) w'/\Below B w w'/\Lib.OthersKept 5 (some b) w w'):=by
 obtain ⟨i0,hi,hz0,hz1,hz2⟩:=info_parts Yd.infoByte;have mixed:Tryz.prog.follows .mixedOrders=true:=by kernel_rfl
 have t72:=Tryz.underlying203;have a72:=Tryz.isAgg203;have z72:=Tryz.sizeOf203;have v72:=Tryz.zeroValue203;have u72:=run_underlying Tryz.underlying203;have t70:=Tryz.underlying200;have a70:=Tryz.isAgg200;have z70:=Tryz.sizeOf200;have v70:=Tryz.zeroValue200;have u70:=run_underlying Tryz.underlying200;have t5:=Tryz.underlying5;have a5:=Tryz.isAgg5;have z5:=Tryz.sizeOf5;have v5:=Tryz.zeroValue5;have u5:=run_underlying Tryz.underlying5;have t37:=Tryz.underlying201;have a37:=Tryz.isAgg201;have z37:=Tryz.sizeOf201;have v37:=Tryz.zeroValue201;have u37:=run_underlying Tryz.underlying201;have t9:=Tryz.underlying9;have a9:=Tryz.isAgg9;have z9:=Tryz.sizeOf9;have v9:=Tryz.zeroValue9;have u9:=run_underlying Tryz.underlying9;have t4:=Tryz.underlying4;have a4:=Tryz.isAgg4;have z4:=Tryz.sizeOf4;have v4:=Tryz.zeroValue4;have u4:=run_underlying Tryz.underlying4;have t164:=Tryz.underlying230;have a164:=Tryz.isAgg230;have z164:=Tryz.sizeOf230;have v164:=Tryz.zeroValue230;have u164:=run_underlying Tryz.underlying230;have e240:∀ args w,(callFunc 189 args).run Tryz.prog w=.ok (.enter 189 args) w:=enters_of Tryz.func189 (by kernel_rfl) rfl
 go_enter Tryz.func175,Tryz.ntmps175
 go_wp2_with (go_at_call 189;refine (Yd.Builder_copyCheck_k B b bs _ h).mono ?_)
 rintro e w1 ⟨rfl,h1,hb1,hk1⟩;obtain ⟨hB,v,hbk,hown,hne⟩:=h1;have c0:w1.cell? ⟨b,0,none⟩=some (.pointer (some ⟨b,0,none⟩)):=by rw[Lib.cell_of_heap hbk];rfl
 have c1:w1.cell? ⟨b,1,none⟩=some v:=by rw[Lib.cell_of_heap hbk];rfl
 go_wp2_with (at_builtin;refine wpList_append_ownF _ rfl _ _ 201 rfl B 5 i0 (.int .u8 0) 1 1 Tryz.underlying201 hi hz0 hz1 hz2 rfl (by decide) _ _ _ rfl (hown.alloc _) ⟨w1.heap.size,0,none⟩ 1 1 [.int .u8 c] rfl rfl ?c1 ?c2 ?c3 ?c4 ?c5 ?_)
 case c1=>
  intro j u hj
  match j,hj with
  | 0,hj=>simp at hj;subst hj;simp[Addr.add]
 case c2=>intro u hu;simp at hu;subst hu;rfl
 case c3=>unfold maxLen;omega
 case c4=>omega
 case c5=>have:=hb1.size;simp;omega
 intro v' w2 hown' hgrow _
 have hlt:b < w1.heap.size:=by
  rcases qV b w1.heap.size with h' | h'
  ·exact h'
  ·simp[BW h'] at hbk
 have hb2:w2.heap[b]?=some (.cells #[.pointer (some ⟨b,0,none⟩),v] 203 (0,0)):=by
  rw[hgrow.block b (by simp;omega) (fun e=>hne e.symm),Lib.alloc_old w1 _ b hlt];exact hbk
 have d0:w2.cell? ⟨b,0,none⟩=some (.pointer (some ⟨b,0,none⟩)):=by rw[Lib.cell_of_heap hb2];rfl
 have d1:w2.cell? ⟨b,1,none⟩=some v:=by rw[Lib.cell_of_heap hb2];rfl
 have f1:w2.frozen? ⟨b,1,none⟩=false:=Lib.frozen_of_heap hb2 1
 obtain ⟨g,cap,rfl⟩:∃ g cap,v'=.slice (some ⟨g,0,none⟩) (bs.length+1) cap:=by
  rcases hown'.2 with ⟨_,h0⟩ | ⟨g,cap,cur,fz,hv,_⟩
  ·omega
  ·exact ⟨g,cap,hv⟩
 go_wp2
 go_ret
 refine ⟨rfl,?_,?_,((hk1.alloc _).grown hgrow (Lib.ownsRowF_kind (hown.alloc _))).setCell ⟨b,1,none⟩ rfl _⟩
 ·exact Lib.BuilderAtF.put (T:=203) (e:=5) hB hb2 (bs':=bs++[.int .u8 c]) (by simpa using hown') (by decide)
 ·exact ((hb1.alloc (by have:=hb1.size;omega) _).grown hgrow (by have:=hb1.size;simp;omega) (fun k hk=>(hown.lt k hk).1)).setCell (p:=⟨b,1,none⟩) hB _
set_option maxHeartbeats 2000000 in
set_option maxRecDepth 100000 in
theorem Yd.Builder_WriteString_k (B b:Nat) (bs:List Value) (s:ByteArray) (w:World) (h:Lib.IsBuilderF 203 5 B b bs w) (hlen:bs.length+s.size<=140737488355328) (hBw:B<=w.heap.size) :
  Calls Tryz.prog 174 #[.pointer (some ⟨b,0,none⟩),.string s] w fun e w'=>e=.returned (.tuple #[.int .i64 s.size,.nilIface])/\(Lib.BuilderAtF 203 5 B b (.pointer (some ⟨b,0,none⟩)) (bs++Lib.strCells s) w'/\Below B w w'/\Lib.OthersKept 5 (some b) w w'):=by
 obtain ⟨i0,hi,hz0,hz1,hz2⟩:=info_parts Yd.infoByte;have mixed:Tryz.prog.follows .mixedOrders=true:=by kernel_rfl
 have t72:=Tryz.underlying203;have a72:=Tryz.isAgg203;have z72:=Tryz.sizeOf203;have v72:=Tryz.zeroValue203;have u72:=run_underlying Tryz.underlying203;have t70:=Tryz.underlying200;have a70:=Tryz.isAgg200;have z70:=Tryz.sizeOf200;have v70:=Tryz.zeroValue200;have u70:=run_underlying Tryz.underlying200;have t37:=Tryz.underlying201;have a37:=Tryz.isAgg201;have z37:=Tryz.sizeOf201;have v37:=Tryz.zeroValue201;have u37:=run_underlying Tryz.underlying201;have t3:=Tryz.underlying3;have a3:=Tryz.isAgg3;have z3:=Tryz.sizeOf3;have v3:=Tryz.zeroValue3;have u3:=run_underlying Tryz.underlying3;have t9:=Tryz.underlying9;have a9:=Tryz.isAgg9;have z9:=Tryz.sizeOf9;have v9:=Tryz.zeroValue9;have u9:=run_underlying Tryz.underlying9;have t4:=Tryz.underlying4;have a4:=Tryz.isAgg4;have z4:=Tryz.sizeOf4;have v4:=Tryz.zeroValue4;have u4:=run_underlying Tryz.underlying4;have t164:=Tryz.underlying230;have a164:=Tryz.isAgg230;have z164:=Tryz.sizeOf230;have v164:=Tryz.zeroValue230;have u164:=run_underlying Tryz.underlying230;have t5:=Tryz.underlying5;have a5:=Tryz.isAgg5;have z5:=Tryz.sizeOf5;have v5:=Tryz.zeroValue5;have u5:=run_underlying Tryz.underlying5;have e240:∀ args w,(callFunc 189 args).run Tryz.prog w=.ok (.enter 189 args) w:=enters_of Tryz.func189 (by kernel_rfl) rfl
 go_enter Tryz.func174,Tryz.ntmps174
 go_wp2_with (go_at_call 189;refine (Yd.Builder_copyCheck_k B b bs _ h).mono ?_)
 rintro e w1 ⟨rfl,h1,hb1,hk1⟩;obtain ⟨hB,v,hbk,hown,hne⟩:=h1;have c0:w1.cell? ⟨b,0,none⟩=some (.pointer (some ⟨b,0,none⟩)):=by rw[Lib.cell_of_heap hbk];rfl
 have c1:w1.cell? ⟨b,1,none⟩=some v:=by rw[Lib.cell_of_heap hbk];rfl
 go_wp2_with (at_builtin;refine Lib.wpList_append_own_stringF _ rfl _ _ 201 9 rfl B 5 i0 Tryz.underlying201 Tryz.underlying9 hi hz0 hz1 hz2 _ _ _ rfl hown s rfl ?c3 ?c4 ?c5 ?_)
 case c3=>unfold maxLen;omega
 case c4=>omega
 case c5=>have:=hb1.size;omega
 intro v' w2 hown' hgrow _
 have hlt:b < w1.heap.size:=by
  rcases qV b w1.heap.size with h' | h'
  ·exact h'
  ·simp[BW h'] at hbk
 have hb2:w2.heap[b]?=some (.cells #[.pointer (some ⟨b,0,none⟩),v] 203 (0,0)):=by
  rw[hgrow.block b hlt (fun e=>hne e.symm)];exact hbk
 have d0:w2.cell? ⟨b,0,none⟩=some (.pointer (some ⟨b,0,none⟩)):=by rw[Lib.cell_of_heap hb2];rfl
 have d1:w2.cell? ⟨b,1,none⟩=some v:=by rw[Lib.cell_of_heap hb2];rfl
 have f1:w2.frozen? ⟨b,1,none⟩=false:=Lib.frozen_of_heap hb2 1
 obtain ⟨ao,n',cap,rfl⟩:∃ ao n' cap,v'=.slice ao n' cap:=by
  rcases hown'.2 with ⟨hv,_⟩ | ⟨g,cap,cur,fz,hv,_⟩
  ·exact ⟨_,_,_,hv⟩
  ·exact ⟨_,_,_,hv⟩
 go_wp2
 go_ret2
 refine ⟨rfl,?_,?_,(hk1.grown hgrow (Lib.ownsRowF_kind hown)).setCell ⟨b,1,none⟩ rfl _⟩
 ·exact Lib.BuilderAtF.put (T:=203) (e:=5) hB hb2 (bs':=bs++Lib.strCells s) (by simpa [Lib.strCells_length] using hown') (by decide)
 ·exact (hb1.grown hgrow (by have:=hb1.size;omega) (fun k hk=>(hown.lt k hk).1)).setCell (p:=⟨b,1,none⟩) hB _
end Go.Proofs
namespace Go.Proofs
open Go.RowKit
def Yd.nameB (var leaf:Int) (ks:List Int):List UInt8:=if var < 0 then 61::Lib.itoa leaf else Lib.itoa var++ks.flatMap fun k=>32::Lib.itoa k
def Yd.i64 (n:Int):Prop:=-9223372036854775808<=n/\n<=9223372036854775807
abbrev Yd.tab (w:World):Prop:=Lib.TabIs Tryz.prog w "internal/strconv.uint64pow10" .u64 Lib.pow10Tab
theorem Yd.globalPow:Tryz.prog.globalNamed "internal/strconv.uint64pow10" = some 0:=by kernel_rfl
theorem Yd.tab_lt {w:World} (h:Yd.tab w):0 < w.heap.size:=by
 unfold Yd.tab Lib.TabIs World.var? at h;rw[Yd.globalPow] at h;simp only[aa] at h
 split at h
 ·rename_i hh;exact (fE.1 hh).1
 ·cases h
theorem Yd.tab_below {B:Nat} {w w':World} (hB:0 < B) (h:Yd.tab w) (s:Below B w w'):Yd.tab w':=by
 unfold Yd.tab Lib.TabIs World.var? at h ⊢;rw[Yd.globalPow] at h ⊢;simp only[aa] at h ⊢;rw[s.block 0 hB];exact h
theorem Yd.decDigits_len (u k:Nat) (h:u < 10 ^ (k+1)):(Lib.decDigits u).length<=k+1:=by
 induction k generalizing u with
 | zero=>rw[Lib.decDigits,dif_pos (by omega)];simp
 | succ k ih=>
  rw[Lib.decDigits]
  split
  ·simp
  ·rw[aI];have:=ih (u / 10) (by rw[uD (by decide)];rw[jO] at h;exact h);simp;omega
theorem Yd.itoa_len {n:Int} (h:Yd.i64 n):(Lib.itoa n).length<=20:=by
 have:n.natAbs < 10 ^ (18+1):=by
  have:=h.1;have:=h.2;have e:(10:Nat) ^ (18+1)=10000000000000000000:=by decide
  rw[e];omega
 have h2:n.toNat < 10 ^ (18+1):=by omega
 unfold Lib.itoa
 split
 ·have:=Yd.decDigits_len _ _ this;simp;omega
 ·have:=Yd.decDigits_len _ _ h2;omega
theorem Yd.drewN_heap (w:World):∀ k,(w.drewN k).heap=w.heap/\(w.drewN k).os=w.os/\(w.drewN k).tape=w.tape/\(w.drewN k).output=w.output
 | 0=>⟨rfl,rfl,rfl,rfl⟩
 | k+1=>Yd.drewN_heap w.drew k
theorem Yd.below_grow (w:World) (k:Nat) (os:Array Obj):Below w.heap.size w (Sort.grow (w.drewN k) os):=by
 obtain ⟨h1,h2,h3,h4⟩:=Yd.drewN_heap w k
 refine ⟨h2,h3,h4,?_,fun i hi=>?_⟩
 ·simp[Sort.grow]
 ·simp only[Sort.grow,h1];rw[Array.getElem?_append_left hi]
set_option maxHeartbeats 4000000 in
set_option maxRecDepth 1000000 in
theorem Yd.name_leaf (var leaf:Int) (kv:Value) (w:World) (h0:Yd.tab w) (hv:var < 0) (hl:Yd.i64 leaf) :
  Calls Tryz.prog 141 #[.agg #[.int .i64 var,kv,.int .i64 leaf]] w fun e w'=>e=.returned (.string ⟨(61::Lib.itoa leaf).toArray⟩)/\Below w.heap.size w w':=by
 have hB:=Yd.tab_lt h0;have b0:Below w.heap.size w (w.alloc (.cells #[.int .i64 var,kv,.int .i64 leaf] 74)):=(Below.refl _ w).alloc (aR _) _;have t0:=Yd.tab_below hB h0 b0;have hz:¬9223372036854775807 < 1+(Lib.itoa leaf).length:=by have:=Yd.itoa_len hl;omega
 go_enter Tryz.func141,Tryz.ntmps141
 go_wp2_with (go_at_call 173;refine (Tryz.strconv_Itoa leaf hl.1 hl.2 _ t0).mono ?_)
 rintro e W1 ⟨rfl,k,os,rfl⟩
 go_wp2
 all_goals (go_ret;exact ⟨by congr 2,b0.trans ((Yd.below_grow _ k os).mono b0.size)⟩)
theorem Yd.isF_grow {T e:TypeId} {B b:Nat} {bs:List Value} {w w':World} (h:Lib.IsBuilderF T e B b bs w) (hg:w.grownBy w' none):Lib.IsBuilderF T e B b bs w':=by
 have key:∀ p,Lib.BuilderAtF T e B b p bs w->Lib.BuilderAtF T e B b p bs w':=by
  rintro p ⟨hB,v,hb,hown,hne⟩;exact ⟨hB,v,by rw[hg.block b (fE.1 hb).1 (by simp)];exact hb,hown.kept hg (by cases hv:v.ownBlock<;>simp),hne⟩
 exact h.imp (key _) (key _)
theorem Yd.grownBy_grow (w:World) (k:Nat) (os:Array Obj):w.grownBy (Sort.grow (w.drewN k) os) none:=
 ⟨rfl,rfl,rfl,by simp[Sort.grow],fun i hi _=>by simp only[Sort.grow];exact Array.getElem?_append_left hi⟩
theorem Yd.itoa {n:Int} (h:Yd.i64 n) (w:World) (h0:Yd.tab w):Calls Tryz.prog 173 #[.int .i64 n] w fun e w'=>e=.returned (.string ⟨(Lib.itoa n).toArray⟩)/\(Below w.heap.size w w'/\w.grownBy w' none):=by
 refine (Tryz.strconv_Itoa n h.1 h.2 w h0).mono ?_;rintro e w' ⟨rfl,k,os,rfl⟩;exact ⟨rfl,Yd.below_grow w k os,Yd.grownBy_grow w k os⟩
def Yd.part (var:Int) (ks:List Int) (n:Nat):List UInt8:=Lib.itoa var++(ks.take n).flatMap fun k=>32::Lib.itoa k
theorem Yd.part_succ (var:Int) (ks:List Int) (n:Nat) (h:n < ks.length):Yd.part var ks (n+1)=Yd.part var ks n++[32]++Lib.itoa ks[n]:=by
 unfold Yd.part;rw[n6 h,List.flatMap_append];simp
theorem Yd.part_len {var:Int} {ks:List Int} (hv:Yd.i64 var) (hk:∀ k∈ks,Yd.i64 k):∀ n,n<=ks.length->(Yd.part var ks n).length<=20+21 * n
 | 0,_=>by have:=Yd.itoa_len hv;simpa [Yd.part] using this
 | n+1,h=>by
  have h1:=Yd.part_len hv hk n (by omega);have h2:=Yd.itoa_len (hk ks[n] (bM (by omega)));rw[Yd.part_succ var ks n (by omega)];simp only[aI,tj];omega
theorem Yd.strCells_byte (l:List UInt8):Lib.strCells ⟨l.toArray⟩=Lib.byteCells l:=by rw[Lib.strCells_eq]
set_option maxHeartbeats 4000000 in
set_option maxRecDepth 1000000 in
theorem Yd.name_node (var leaf:Int) (ks:List Int) (ad:Option Addr) (cap:Nat) (w:World) (h0:Yd.tab w) (hv:¬ var < 0) (hi:Yd.i64 var) (hk:∀ k∈ks,Yd.i64 k) (hlen:ks.length<=1048576)
  (hr:∀ j (h:j < ks.length),∃ b o,ad=some ⟨b,o,none⟩/\w.cell? ⟨b,o+j,none⟩=some (.int .i64 ks[j])) :
  Calls Tryz.prog 141 #[.agg #[.int .i64 var,.slice ad ks.length cap,.int .i64 leaf]] w fun e w'=>e=.returned (.string ⟨(Yd.part var ks ks.length).toArray⟩)/\Below w.heap.size w w':=by
 have hB:=Yd.tab_lt h0;have b0:Below w.heap.size w ((w.alloc (.cells #[.int .i64 var,.slice ad ks.length cap,.int .i64 leaf] 74)).alloc (.cells #[.pointer none,.slice none 0 0] 203)):=((Below.refl _ w).alloc (aR _) _).alloc (by simp) _;have t0:=Yd.tab_below hB h0 b0
 have f0:Lib.IsBuilderF 203 5 (w.heap.size+1) (w.heap.size+1) [] ((w.alloc (.cells #[.int .i64 var,.slice ad ks.length cap,.int .i64 leaf] 74)).alloc (.cells #[.pointer none,.slice none 0 0] 203)):=by
  have:=Lib.IsBuilderF.of (Lib.fresh_isBuilder 203 5 (w.alloc (.cells #[.int .i64 var,.slice ad ks.length cap,.int .i64 leaf] 74)));simpa using this
 generalize hW:(w.alloc (.cells #[.int .i64 var,.slice ad ks.length cap,.int .i64 leaf] 74)).alloc (.cells #[.pointer none,.slice none 0 0] 203)=W at b0 t0 f0;have hWs:W.heap.size=w.heap.size+2:=by rw[<- hW];simp
 have hbx:W.heap[w.heap.size]?=some (.cells #[.int .i64 var,.slice ad ks.length cap,.int .i64 leaf] 74 (0,0)):=by
  rw[<- hW,Lib.alloc_old _ _ _ (by simp)];exact Go.heap_alloc_new w _
 have c0:W.cell? ⟨w.heap.size,0,none⟩=some (.int .i64 var):=by rw[Lib.cell_of_heap hbx];rfl
 have c1:W.cell? ⟨w.heap.size,1,none⟩=some (.slice ad ks.length cap):=by rw[Lib.cell_of_heap hbx];rfl
 go_enter Tryz.func141,Tryz.ntmps141
 go_wp2_with (go_at_call 173;refine (Yd.itoa hi _ t0).mono ?_)
 intro e W1 he b1 g1;cases he;have f1:=Yd.isF_grow f0 g1;have b1:Below (w.heap.size+1) W W1:=b1.mono (by omega);have hW1:w.heap.size+1<=W1.heap.size:=by have:=b1.size;omega
 go_wp2_with (go_at_call 174;refine (Yd.Builder_WriteString_k (w.heap.size+1) (w.heap.size+1) [] ⟨(Lib.itoa var).toArray⟩ _ f1 (by have:=Yd.itoa_len hi;simp[ByteArray.size];omega) hW1).mono ?_)
 rintro e W2 ⟨rfl,f2,b2,k2⟩
 have f2':Lib.IsBuilderF 203 5 (w.heap.size+1) (w.heap.size+1) (Lib.byteCells (Yd.part var ks 0)) W2:=by
  refine Or.inr ?_;rw[Yd.strCells_byte] at f2;simpa [Yd.part] using f2
 have bW2:=b1.trans b2;have c1':=(bW2.cell (p:=⟨w.heap.size,1,none⟩) (by simp)).trans c1
 have kc:∀ j (h:j < ks.length),∃ b o,ad=some ⟨b,o,none⟩/\b < w.heap.size/\w.cell? ⟨b,o+j,none⟩=some (.int .i64 ks[j]):=fun j h=>by
  obtain ⟨b,o,h1,h2⟩:=hr j h;exact ⟨b,o,h1,World.block_lt_of_cell? w ⟨b,o+j,none⟩ h2,h2⟩
 have tW2:=Yd.tab_below (B:=w.heap.size+1) (by omega) t0 bW2;have sW2:=bW2.size;clear f2 f1 g1 b2 b1 f0 t0 h0 c0 c1 hbx hW hr hW1 k2
 go_wp2
 go_loopw [20] (fun i wr=>∃ n,n<=ks.length/\i=.int .i64 n/\Lib.IsBuilderF 203 5 (w.heap.size+1) (w.heap.size+1) (Lib.byteCells (Yd.part var ks n)) wr/\Below (w.heap.size+1) W2 wr)
  (fun i _=>ks.length - (intOf i).toNat)
 case atStart=>exact ⟨0,mw _,rfl,f2',Below.refl _ _⟩
 case round=>
  obtain ⟨n,hn,rfl,hf,hbw⟩:=hrel;have swr:=hbw.size;have hpl:=Yd.part_len hi hk n hn
  by_cases hlt:n < ks.length
  ·obtain ⟨b,o,had,hb,hc⟩:=kc n hlt;subst had;have hcw:wr.cell? ⟨b,o+n,none⟩=some (.int .i64 ks[n]):=((hbw.cell (p:=⟨b,o+n,none⟩) (by show b < _;omega)).trans (bW2.cell (p:=⟨b,o+n,none⟩) (by show b < _;omega))).trans ((b0.cell (p:=⟨b,o+n,none⟩) hb).trans hc);have hik:=hk ks[n] (bM hlt);have twr:=Yd.tab_below (B:=w.heap.size+1) (by omega) tW2 hbw;generalize hx:ks[n]=x at hcw hik;clear kc bW2 b0 hc
   go_wp2_with (go_at_call 175;refine (Yd.Builder_WriteByte_k (w.heap.size+1) (w.heap.size+1) _ 32 _ hf (by rw[Lib.byteCells_length];omega) (by omega)).mono ?_)
   rintro e W3 ⟨rfl,f3,b3,k3⟩;have t3:=Yd.tab_below (B:=w.heap.size+1) (by omega) twr b3;have s3:=b3.size
   go_wp2_with (go_at_call 173;refine (Yd.itoa hik _ t3).mono ?_)
   rintro e W4 ⟨rfl,b4,g4⟩;have f4:=Yd.isF_grow (Or.inr f3) g4;have s4:=b4.size
   go_wp2_with (go_at_call 174;refine (Yd.Builder_WriteString_k (w.heap.size+1) (w.heap.size+1) _ ⟨(Lib.itoa x).toArray⟩ _ f4 (by have:=Yd.itoa_len hik;simp only[aI,Lib.byteCells_length,ByteArray.size,List.size_toArray,tj];omega) (by omega)).mono ?_)
   rintro e W5 ⟨rfl,f5,b5,k5⟩;clear f3 f4 g4 k3 k5
   go_wp2
   go_roundw
   case rel=>
    refine ⟨n+1,by omega,by simp,?_,((hbw.trans b3).trans (b4.mono (by omega))).trans b5⟩;rw[Yd.part_succ var ks n hlt,hx];rw[Yd.strCells_byte] at f5;refine Or.inr ?_;simpa [Lib.byteCells] using f5
   case measure=>simp[intOf];omega
  ·obtain rfl:n=ks.length:=by omega
   go_wp2_with (go_at_call 176;refine (Tryz.Builder_String_any_k (w.heap.size+1) (w.heap.size+1) _ _ hf (by omega)).mono ?_)
   rintro e W3 ⟨rfl,f3,b3,k3⟩
   go_wp2
   go_ret
   exact ⟨rfl,b0.trans (((bW2.trans hbw).trans b3).mono (by omega))⟩
end Go.Proofs
namespace Go.Ab
open Go.Proofs Go.RowKit
noncomputable instance:WInv:=⟨fun w=>Yd.tab w⟩
def yT:List AV->Option (List Int)
 | []=>some []
 | .int .i64 n::l=>if -9223372036854775808<=n/\n<=9223372036854775807 then (yT l).map fun ns=>n::ns else none
 | _=>none
def y0:List AV->Option AV
 | [.agg [.int .i64 v,.lst none _ _ ks,.int .i64 l]]=>(yT ks).bind fun ns=>
  if (-9223372036854775808<=v/\v<=9223372036854775807)/\(-9223372036854775808<=l/\l<=9223372036854775807)/\ns.length<=1048576 then some (.str ⟨(Yd.nameB v l ns).toArray⟩) else none
 | _=>none
theorem VP:∀ {ks:List AV} {ns:List Int},yT ks=some ns->ks=ns.map (AV.int .i64)/\∀ n∈ns,Yd.i64 n
 | [],ns,h=>by simp[yT] at h;subst h;simp
 | x::l,ns,h=>by
  unfold yT at h
  split at h
  ·rename_i he;cases he
  ·rename_i n l' he;cases he
   split at h
   ·rename_i hn;obtain ⟨ms,hm,rfl⟩:=gG.1 h;obtain ⟨h1,h2⟩:=VP hm
    exact ⟨by rw[h1];rfl,fun n hn'=>by
     rcases gB.1 hn' with rfl | h'
     ·exact hn
     ·exact h2 _ h'⟩
   ·cases h
  ·cases h
theorem qmb {ns:List Int} (h:∀ n∈ns,Yd.i64 n):yT (ns.map (AV.int .i64))=some ns:=by
 induction ns with
 | nil=>rfl
 | cons n ns ih=>
  simp only[fV,yT];rw[an (show _/\_ from h n fJ),ih fun k hk=>h k (fI _ hk)]
  rfl
theorem qki (ns:List Int):c8 (ns.map (AV.int .i64))=ns.map (AV.int .i64):=by
 induction ns with
 | nil=>rfl
 | cons n l ih=>simp only[fV,c8,nZ,AV.cells] at ih ⊢;rw[ih];rfl
theorem YX {B:Nat} {w w':World} {g:G} (hB:B<=w.heap.size) (h:Below w.heap.size w w'):Step B w g w' g where
 below:=h.mono hB
 cell b off u _ hc:=(h.cell (p:=⟨b,off,none⟩) (tz hc)).trans hc
 shape b c e fr hb:=⟨c,(h.block b (fE.1 hb).1).trans hb,rfl⟩
 wr b off _ hn:=hn
 wrB b off _:=Iff.rfl
 box b _:=Iff.rfl
 loc nm b h:=h
 tloc nm n b h:=h
theorem qmN {B:Nat} {w w':World} {g:G} {m:af} (hB:B<=w.heap.size) (h:Below w.heap.size w w') (hm:MemR B w g m):MemR B w' g m:=
 hm.keep (YX hB h) (fun b _ hb=>h.block b hb) (fun _ _ h=>h) rfl rfl (fun b off hw=>qU (hm.wrLt b off hw) h.size) (fun b hw=>qU (hm.boxLt b hw) h.size)
theorem qmW (vs:List AV) (v:AV) (h:y0 vs=some v) (m:af):te Tryz.prog 141 vs m v m:=by
 unfold y0 at h
 split at h
 ·rename_i var z o ks leaf;simp only[bc] at h;obtain ⟨ns,hns,h⟩:=h
  split at h
  ·rename_i hc;obtain ⟨hv,hl,hlen⟩:=hc;obtain rfl:=po h;obtain ⟨rfl,hin⟩:=VP hns;intro B w g us hm hB hus hV;have h0:=hV 0 (by simp);simp only[pk] at h0;have hsz:us.size=1:=by simpa using hus.symm
   obtain ⟨u,rfl⟩:∃ u,us = #[u]:=⟨us.getD 0 undef,by
    apply Array.ext (by simpa using hsz);intro i hi1 hi2;obtain rfl:i=0:=by simp at hi2;omega
    simp[Array.getD,hi1]⟩
   have h0:V w g (.agg [.int .i64 var,.lst none z o (ns.map (AV.int .i64)),.int .i64 leaf]) u:=h0;cases h0;rename_i ws hl3 hVs;have htab:Yd.tab w:=hm.inv w (Below.refl _ _);have a0:=hVs 0 (by simp);have a1:=hVs 1 (by simp);have a2:=hVs 2 (by simp);simp only[pk,xI] at a0 a1 a2
   have hws:ws = #[ws.getD 0 undef,ws.getD 1 undef,ws.getD 2 undef]:=by
    have h3:ws.size=3:=by simpa using hl3.symm
    apply Array.ext (by simpa using h3);intro i hi1 hi2
    match i,hi2 with
    | 0,_=>simp[Array.getD,h3]
    | 1,_=>simp[Array.getD,h3]
    | 2,_=>simp[Array.getD,h3]
   generalize ws.getD 0 undef=q0 at a0 hws;generalize ws.getD 1 undef=q1 at a1 hws;generalize ws.getD 2 undef=q2 at a2 hws;subst hws;cases a0;cases a2
   have fin:∀ {e:Ending} {w':World},e=.returned (.string ⟨(Yd.nameB var leaf ns).toArray⟩)/\Below w.heap.size w w'->∃ v' g',e=.returned v'/\Step B w g w' g'/\MemR B w' g' m/\V w' g' (.str ⟨(Yd.nameB var leaf ns).toArray⟩) v':=by
    rintro e w' ⟨rfl,hb⟩;exact ⟨_,g,rfl,YX hB hb,qmN hB hb hm,.str _⟩
   by_cases hneg:var < 0
   ·refine (Yd.name_leaf var leaf q1 w htab hneg hl).mono fun e w' hr=>fin ?_;rw[Yd.nameB,an hneg];exact hr
   ·have e1:Yd.nameB var leaf ns=Yd.part var ns ns.length:=by rw[Yd.nameB,aj hneg,Yd.part,List.take_length]
    rw[e1] at fin ⊢;generalize hes:ns.map (AV.int .i64)=es at a1
    cases a1 with
    | nils _ _ _=>
     obtain rfl:ns=[]:=xK.1 hes;exact (Yd.name_node var leaf [] none 0 w htab hneg hv hin (by simp) (fun j h=>by simp at h)).mono fun e w' hr=>fin hr
    | lst _ _ _ a cap us hs hcl hmx hsh hcell hvv ho=>
     subst hes;rw[bU] at *;have hfl:=qki ns;refine (Yd.name_node var leaf ns (some a) cap w htab hneg hv hin hlen (fun j hj=>?_)).mono fun e w' hr=>fin hr;rw[hfl] at hcell hvv;have c1:=(hcell j (by simpa using hj)).1;have c2:=hvv j (by simpa using hj);have hg:(ns.map (AV.int .i64)).getD j .any=.int .i64 ns[j]:=by simp[aT,hj]
     rw[hg] at c2;generalize us j=q at c1 c2;cases c2;have hsp:a.spot=none:=hs.resolve_left (by omega);obtain ⟨bl,off,sp⟩:=a;simp only at hsp c1;subst hsp;exact ⟨bl,off,rfl,c1⟩
  ·cases h
 ·cases h
end Go.Ab
namespace Go.Ab
open Go.Proofs
structure ND where
 var:Int
 kids:List Int
 leaf:Int
 deriving DecidableEq
def ND.key (n:ND):List UInt8:=Yd.nameB n.var n.leaf n.kids
def ND.ok (n:ND):Prop:=(n.var=-1/\n.kids=[]/\0<=n.leaf/\n.leaf<=2147483647)\/(0<=n.var/\n.var < 1000/\n.leaf=0/\(∀ k∈n.kids,0<=k/\k < 1000000)/\n.kids.length<=64)
theorem qj0 (u:Nat):Lib.decDigits u≠[]:=by
 rw[Lib.decDigits];split<;>simp
theorem LQ (u:Nat):∀ b∈Lib.decDigits u,48<=b.toNat/\b.toNat<=57:=by
 induction u using Nat.strongRecOn with
 | ind u ih=>
  rw[Lib.decDigits]
  have h8:∀ v,v < 10->48<=(UInt8.ofNat (48+v)).toNat/\(UInt8.ofNat (48+v)).toNat<=57:=fun v hv=>by
   have:(UInt8.ofNat (48+v)).toNat=48+v:=by simp;omega
   omega
  split
  ·rename_i h;intro b hb;simp only[List.mem_singleton] at hb;rw[hb];exact h8 u h
  ·intro b hb
   rcases im.1 hb with hb | hb
   ·exact ih (u / 10) (by omega) b hb
   ·simp only[List.mem_singleton] at hb;rw[hb];exact h8 (u % 10) (by omega)
def Ju (l:List UInt8):Nat:=l.foldl (fun a b=>a * 10+(b.toNat - 48)) 0
theorem TL (u:Nat):Ju (Lib.decDigits u)=u:=by
 induction u using Nat.strongRecOn with
 | ind u ih=>
  rw[Lib.decDigits];have h8:∀ v,v < 10->(UInt8.ofNat (48+v)).toNat=48+v:=fun v hv=>by simp;omega
  split
  ·rename_i h;simp only[Ju,ux,List.foldl_nil,h8 u h];omega
  ·rename_i h;have:=ih (u / 10) (by omega);unfold Ju at this ⊢;rw[List.foldl_append,this];simp only[ux,List.foldl_nil,h8 (u % 10) (by omega)];omega
def C5 (x:List UInt8):Prop:=x=[]\/∃ y,x=32::y
theorem YR:∀ {a b x y:List UInt8},(∀ c∈a,48<=c.toNat/\c.toNat<=57)->(∀ c∈b,48<=c.toNat/\c.toNat<=57)->C5 x->C5 y->a++x=b++y->a=b/\x=y
 | [],[],x,y,_,_,_,_,h=>⟨rfl,by simpa using h⟩
 | [],c::b,x,y,_,hb,hx,_,h=>by
  exfalso;have hc:=hb c fJ
  rcases hx with rfl | ⟨z,rfl⟩
  ·simp at h
  ·simp only[bE,bQ,pj] at h;rw[<- h.1] at hc;simp at hc
 | c::a,[],x,y,ha,_,_,hy,h=>by
  exfalso;have hc:=ha c fJ
  rcases hy with rfl | ⟨z,rfl⟩
  ·simp at h
  ·simp only[bE,bQ,pj] at h;rw[h.1] at hc;simp at hc
 | c::a,d::b,x,y,ha,hb,hx,hy,h=>by
  simp only[bQ,pj] at h;obtain ⟨e1,e2⟩:=YR (fun c hc=>ha c (fI _ hc)) (fun c hc=>hb c (fI _ hc)) hx hy h.2;exact ⟨by rw[h.1,e1],e2⟩
theorem NK {n:Int} (h:0<=n):Lib.itoa n=Lib.decDigits n.toNat:=by unfold Lib.itoa;rw[aj (by omega)]
theorem NM {a b:Int} (ha:0<=a) (hb:0<=b) {x y:List UInt8} (hx:C5 x) (hy:C5 y) (h:Lib.itoa a++x=Lib.itoa b++y):a=b/\x=y:=by
 rw[NK ha,NK hb] at h;obtain ⟨e1,e2⟩:=YR (LQ _) (LQ _) hx hy h;have:=dc Ju e1;rw[TL,TL] at this;exact ⟨by omega,e2⟩
theorem Hk (ks:List Int):C5 (ks.flatMap fun k=>32::Lib.itoa k):=by
 cases ks with
 | nil=>exact .inl rfl
 | cons k ks=>exact .inr ⟨_,by rw[nZ];rfl⟩
theorem V5:∀ {a b:List Int},(∀ k∈a,0<=k)->(∀ k∈b,0<=k)->(a.flatMap fun k=>32::Lib.itoa k)=(b.flatMap fun k=>32::Lib.itoa k)->a=b
 | [],[],_,_,_=>rfl
 | [],k::b,_,_,h=>by simp[nZ] at h
 | k::a,[],_,_,h=>by simp[nZ] at h
 | k::a,l::b,ha,hb,h=>by
  simp only[nZ,bQ,pj,true_and] at h;obtain ⟨e1,e2⟩:=NM (ha k fJ) (hb l fJ) (Hk a) (Hk b) h;rw[e1,V5 (fun k hk=>ha k (fI _ hk)) (fun k hk=>hb k (fI _ hk)) e2]
theorem qmg {a b:ND} (ha:a.ok) (hb:b.ok) (h:a.key=b.key):a=b:=by
 obtain ⟨v,ks,l⟩:=a;obtain ⟨v',ks',l'⟩:=b;unfold ND.key Yd.nameB at h;simp only at h
 have lead:∀ {n:Int} {x:List UInt8} {y:List UInt8},0<=n->61::x=Lib.itoa n++y->False:=fun {n x y} hn he=>by
  rw[NK hn] at he
  cases hd:Lib.decDigits n.toNat with
  | nil=>exact qj0 _ hd
  | cons c d=>
   have:=LQ n.toNat c (by rw[hd];exact fJ);rw[hd] at he;simp only[bQ,pj] at he;rw[<- he.1] at this;simp at this
 rcases ha with ⟨h1,h2,h3,h4⟩ | ⟨h1,h2,h3,h4,h5⟩<;>rcases hb with ⟨k1,k2,k3,k4⟩ | ⟨k1,k2,k3,k4,k5⟩<;>simp only at h1 h2 h3 h4 k1 k2 k3 k4
 ·subst h1;subst k1;subst h2;subst k2;rw[an (by decide),an (by decide)] at h;simp only[pj,true_and] at h;have:=(NM h3 k3 (x:=[]) (y:=[]) (.inl rfl) (.inl rfl) (by simpa using h)).1;rw[this]
 ·subst h1;rw[an (by decide),aj (by omega)] at h;exact (lead k1 h).elim
 ·subst k1;rw[aj (by omega),an (by decide)] at h;exact (lead h1 h.symm).elim
 ·rw[aj (by omega),aj (by omega)] at h;obtain ⟨e1,e2⟩:=NM h1 k1 (Hk _) (Hk _) h;rw[e1,h3,k3,V5 (fun k hk=>(h4 k hk).1) (fun k hk=>(k4 k hk).1) e2]
theorem Xa {n:ND} (h:n.ok) (z:Bool) (o:Own):y0 [.agg [.int .i64 n.var,.lst none z o (n.kids.map (AV.int .i64)),.int .i64 n.leaf]]=some (.str ⟨n.key.toArray⟩):=by
 have hk:∀ k∈n.kids,Yd.i64 k:=fun k hk=>by
  rcases h with ⟨_,h2,_⟩ | ⟨_,_,_,h4,_⟩
  ·rw[h2] at hk;cases hk
  ·have:=h4 k hk;constructor<;>omega
 have hb:((-9223372036854775808<=n.var/\n.var<=9223372036854775807)/\(-9223372036854775808<=n.leaf/\n.leaf<=9223372036854775807)/\n.kids.length<=1048576):=by
  rcases h with ⟨h1,h2,h3,h4⟩ | ⟨h1,h2,h3,h4,h5⟩
  ·rw[h2];refine ⟨by omega,by omega,by simp⟩
  ·omega
 unfold y0;simp only[];rw[qmb hk,aa,an hb]
 rfl
end Go.Ab
