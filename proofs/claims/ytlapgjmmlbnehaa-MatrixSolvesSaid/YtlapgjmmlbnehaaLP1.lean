/- Maps: made, looked up, written to. -/
import Derived.Test.YtlapgjmmlbnehaaLP0
import Derived.Maps.OwnSet
import Derived.DeepKeys4
import Derived.Orders
import Derived.Fence
import Derived.CallsIn
import Derived.LoopNIn
import Derived.RangeFuncCalls
import Derived.RangeFuncFrom
import Derived.RangeFuncLeaves
import Derived.Test.YtlapgjmmlbnehaaProg
set_option maxRecDepth 100000
set_option linter.unusedVariables false
set_option linter.unusedSimpArgs false
set_option linter.unusedSectionVars false
namespace Go.Ab
open Go.RowKit Go.Maps Go.ChangeMaps
section
variable [WInv] {P:Program} {B:Nat} {w:World} {g:G} {m:ae}
open Go.WideElems (Fit rd rg pl rd_key rd_val rg_of rd_mk)
theorem V.atomV{x:AV}{v u:Value}(h:V w g x v)(hf:atomV x=some u):v=u:=by
 cases h<;>simp[Go.Ab.atomV] at hf<;>exact hf
theorem KA:∀(cs:List AV) (us:List Value),rU cs=some us->us.length=cs.length/\∀j,j<cs.length->Go.Ab.atomV (cs.getD j .any)=some (us.getD j undef)
 | [],us,h=>by simp[rU] at h;subst h;exact ⟨rfl,fun j hj=>by simp at hj⟩
 | x::xs,us,h=>by
  simp only[rU,aS,gm] at h;obtain ⟨v,hv,vs,j0,rfl⟩:=h;obtain ⟨h1,h2⟩:=KA xs vs j0;refine ⟨by simp[h1],fun j hj=>?_⟩
  cases j with
  | zero=>simpa using hv
  | succ j=>simpa using h2 j (by simpa using hj)
theorem V.flatV{x:AV}{v u:Value}(h:V w g x v)(hf:Go.Ab.flatV x=some u):v=u:=by
 by_cases hx:∃cs,x=.agg cs
 .obtain ⟨cs,rfl⟩:=hx
  cases h with
  | agg cs vs hl hv=>
   simp only[Go.Ab.flatV,gm] at hf;obtain ⟨us,oO,rfl⟩:=hf;obtain ⟨h1,h2⟩:=KA cs us oO;congr 1;apply Array.ext (by simp[h1,hl]);intro j mO tE;have:=(hv j (by omega)).atomV (h2 j (by omega));simpa [Array.getD,mO,bA,show j<us.length by omega] using this
 .refine h.atomV ?_
  cases x<;>first|(exact absurd ⟨_,rfl⟩ hx)|exact hf
theorem Un{k:Nat}{kk:KK}(h:wH P k=some kk):(P.underlying k=some .string/\kk=.str)\/(∃q,P.underlying k=some (.int q)/\kk=.int q) \/
  ∃n e q,P.underlying k=some (.array n e)/\P.underlying e=some (.int q)/\kk=.arr n q/\P.tiled 2 k=true/\P.keyTypeAt 2 k=true/\P.keyType k=true/\P.cellsOf e=1/\0<P.types.size:=by
 unfold wH at h
 split at h
 .rename_i hu;simp at h;exact .inl ⟨hu,h.symm⟩
 .rename_i q hu;simp at h;exact .inr (.inl ⟨q,hu,h.symm⟩)
 .rename_i n e hu
  split at h
  .rename_i q hq
   split at h
   .rename_i hc;simp only[dY,beq_iff_eq,vU] at hc;obtain ⟨⟨⟨⟨c1,c2⟩,c3⟩,c4⟩,c5⟩:=hc;simp only[bp] at h;exact .inr (.inr ⟨n,e,q,hu,hq,h.symm,c1,c2,c3,c4,c5⟩)
   .cases h
  .cases h
 .cases h
theorem Uk{k:Nat}{kk:KK}(h:wH P k=some kk):Keyed P k:=by
 rcases Un h with ⟨hu,_⟩|⟨q,hu,_⟩|⟨n,e,q,hu,_,_,h1,h2,_⟩
 .exact string_keyed hu
 .exact int_keyed hu
 .exact Keyed.of_law (deep_law (m:=2) (by omega) h2 h1 (by rw[hu]))
theorem UE{α β:Type}{f:α->Option β}:∀{l:List α},(∀x∈l,∃y,f x=some y)->∃ys,l.mapM f=some ys
 | [],_=>⟨[],by simp⟩
 | x::l,h=>by
  obtain ⟨y,hy⟩:=h x oB;obtain ⟨ys,oP⟩:=UE (f:=f) (l:=l) fun z hz=>h z (nX _ hz);exact ⟨y::ys,by simp[List.mapM_cons,hy,oP]⟩
theorem Ds{k:Nat}{kk:KK}{v:Value}(h:wH P k=some kk)(hv:Jp kk v):∃l,Go.keyOf P k v=some l:=by
 rcases Un h with ⟨hu,rfl⟩|⟨q,hu,rfl⟩|⟨n,e,q,hu,he,rfl,h1,h2,h3,h4,h5⟩
 .obtain ⟨s,rfl,hs⟩:=hv;exact ⟨.string s.data.toList,by simp[Go.keyOf,mapKey,hu,hs]⟩
 .obtain ⟨n,rfl,hn⟩:=hv;have:(Lit.int q n).wf=true:=hn;exact ⟨.int q n,by simp[Go.keyOf,mapKey,hu,this]⟩
 .obtain ⟨us,rfl,gU,oO⟩:=hv
  have As:P.cellsOf k=n:=by
   have:=h1;unfold Program.tiled at this;rw[hu] at this;simp only[dY,beq_iff_eq] at this;rw[this.1,h4,qo]
  obtain ⟨d,hd⟩:∃d,P.types.size=d+1:=⟨P.types.size-1,by omega⟩
  have hm:∃ys,(List.range n).mapM (fun i=>P.keyLits (d+1) e ((us.toList.drop (i*P.cellsOf e)).take (P.cellsOf e)))=some ys:=by
   refine UE fun i hi=>?_;have hi:=oC.1 hi;have aU:i<us.toList.length:=by simpa [gU] using hi
   rw[h4,qo,Fj aU,List.take_succ_cons,List.take_zero];obtain ⟨z,hz,hw⟩:=oO us.toList[i] (by simp);have hw:(Lit.int q z).wf=true:=hw;rw[hz];exact ⟨[.int q z],by simp[Program.keyLits,he,hw]⟩
  obtain ⟨ys,oP⟩:=hm;refine ⟨.string (keyBytes ys.flatten),?_⟩;have hf:Value.formed P k (.agg us)=true:=by simp[Value.formed,hu,As,gU]
  have hl:us.toList.length=P.cellsOf k:=by simp[gU,As]
  unfold Go.keyOf;rw[hu];simp only[h3,hf,Bool.and_self,eC,Value.cells]
  have ek:P.keyLits (d+1+1) k us.toList=if us.toList.length=P.cellsOf k then ((List.range n).mapM fun i=>P.keyLits (d+1) e ((us.toList.drop (i*P.cellsOf e)).take (P.cellsOf e))).map List.flatten else none:=by
   simp only[Program.keyLits,hu]
  rw[hd,ek,aj hl,oP]
  rfl
theorem Mv{kk:KK}{x:AV}{v:Value}(ho:me kk x=true)(hf:Go.Ab.flatV x=some v):Jp kk v:=by
 cases kk with
 | str=>
  cases x<;>simp[me] at ho;simp[Go.Ab.flatV,Go.Ab.atomV] at hf;exact ⟨_,hf.symm,ho⟩
 | int q=>
  cases x<;>simp[me,oQ] at ho;obtain ⟨rfl,ho⟩:=ho;simp[Go.Ab.flatV,Go.Ab.atomV] at hf;exact ⟨_,hf.symm,ho⟩
 | arr n q=>
  cases x<;>simp only[me,ko] at ho;rename_i cs;simp only[dY,beq_iff_eq,iX] at ho;simp only[Go.Ab.flatV,gm] at hf;obtain ⟨us,oO,rfl⟩:=hf;obtain ⟨h1,h2⟩:=KA cs us oO;refine ⟨_,rfl,by simp[h1,ho.1],fun u hu=>?_⟩;obtain ⟨j,hj,rfl⟩:=uj (by simpa using hu:u∈us);have h3:=h2 j (by omega);have h4:=ho.2 (cs.getD j .any) (by rw[bA,jR (by omega)];exact fH _)
  cases hc:cs.getD j .any with
  | int k' i=>
   rw[hc] at h3 h4;simp only[oQ,dY,vU] at h4;obtain ⟨rfl,h4⟩:=h4;simp[Go.Ab.atomV] at h3;exact ⟨i,by simpa [hj] using h3.symm,h4⟩
  | _=>rw[hc] at h4;simp[oQ] at h4
theorem Uj{kk:KK}{x:AV}(ho:me kk x=true):∃v,Go.Ab.flatV x=some v:=by
 cases kk with
 | str=>cases x<;>simp[me] at ho;exact ⟨_,rfl⟩
 | int q=>cases x<;>simp[me,oQ] at ho;exact ⟨_,rfl⟩
 | arr n q=>
  cases x<;>simp only[me,ko] at ho;rename_i cs;simp only[dY,iX] at ho
  have:∀cs:List AV,(∀x∈cs,oQ q x=true)->∃us,rU cs=some us:=by
   intro cs
   induction cs with
   | nil=>intro _;exact ⟨[],rfl⟩
   | cons c cs ih=>
    intro h;obtain ⟨us,oO⟩:=ih fun x hx=>h x (nX _ hx);have:=h c oB;cases c<;>simp[oQ] at this;rename_i k' n';exact ⟨.int k' n'::us,by simp[rU,Go.Ab.atomV,oO]⟩
  obtain ⟨us,oO⟩:=this cs ho.2;exact ⟨.agg us.toArray,by simp[Go.Ab.flatV,oO]⟩
theorem qeV{q:IntKind}{x y:AV}{u v:Value}(hx:oQ q x=true)(hy:oQ q y=true)(hu:Go.Ab.atomV x=some u)(hv:Go.Ab.atomV y=some v):zX x y=true↔u=v:=by
 cases x<;>simp[oQ] at hx;cases y<;>simp[oQ] at hy;simp[Go.Ab.atomV] at hu hv;subst hu;subst hv;simp[zX]
theorem yG{kk:KK}{x y:AV}{u v:Value}(hx:me kk x=true)(hy:me kk y=true)(hu:Go.Ab.flatV x=some u)(hv:Go.Ab.flatV y=some v):oi x y=true↔u=v:=by
 cases kk with
 | str=>
  cases x<;>simp[me] at hx;cases y<;>simp[me] at hy;simp[Go.Ab.flatV,Go.Ab.atomV] at hu hv;subst hu;subst hv;simp[oi,zX]
 | int q=>
  cases x<;>simp[me,oQ] at hx;cases y<;>simp[me,oQ] at hy;simp[Go.Ab.flatV,Go.Ab.atomV] at hu hv;subst hu;subst hv;simp[oi,zX]
 | arr n q=>
  cases x<;>simp only[me,ko] at hx;cases y<;>simp only[me,ko] at hy;rename_i cs ds;simp only[dY,beq_iff_eq,iX] at hx hy;simp only[Go.Ab.flatV,gm] at hu hv;obtain ⟨us,oO,rfl⟩:=hu;obtain ⟨vs,j0,rfl⟩:=hv
  have key:∀(cs ds:List AV) (us vs:List Value),cs.length=ds.length->(∀x∈cs,oQ q x=true)->(∀x∈ds,oQ q x=true)->rU cs=some us->rU ds=some vs->(zY cs ds=true↔us=vs):=by
   intro cs
   induction cs with
   | nil=>
    intro ds us vs hl _ _ h1 h2
    cases ds with
    | nil=>simp[rU] at h1 h2;subst h1;subst h2;simp[zY]
    | cons=>simp at hl
   | cons c cs ih=>
    intro ds us vs hl h3 h4 h1 h2
    cases ds with
    | nil=>simp at hl
    | cons d ds=>
     simp only[rU,aS,gm] at h1 h2;obtain ⟨a,ha,qas,has,rfl⟩:=h1;obtain ⟨b,hb,bs,CO,rfl⟩:=h2;simp only[zY,dY,qH];rw[qeV (h3 c oB) (h4 d oB) ha hb,ih ds qas bs (by simpa using hl) (fun x hx=>h3 x (nX _ hx)) (fun x hx=>h4 x (nX _ hx)) has CO]
  show zY cs ds=true↔_;rw[key cs ds us vs (by omega) hx.2 hy.2 oO j0]
  constructor
  .rintro rfl;rfl
  .intro h
   have:=fE (fun v=>match v with|Value.agg a=>a.toList|_=>[]) h
   simpa using this
def RU:Value->Option (DataW Unit×List MemPlace):=fun _=>some (.lit (.bool true),[])
theorem MapR.fit{k:Nat}{kk:KK}{es':Array MapEntry}{clock:Nat}{es:List (AV×AV)}(M:MapR w g kk es' clock es)(h:wH P k=some kk):Fit P k RU es' clock where
 size:=b7 M.size M.room
 stamped:=M.stamped
 reads x hx:=by
  obtain ⟨l,hl⟩:=Ds h (M.keys x hx);exact ⟨(l,.lit (.bool true)),by simp[Go.WideElems.rd,hl,RU]⟩
theorem MapR.uniq{kk:KK}{es':Array MapEntry}{clock:Nat}{es:List (AV×AV)}(M:MapR w g kk es' clock es){x y:MapEntry}(hx:x∈es'.toList)(hy:y∈es'.toList)(h:x.key=y.key):x=y:=by
 have hnd:=M.stamped.2.2;obtain ⟨i,hi,rfl⟩:=uj hx;obtain ⟨j,hj,rfl⟩:=uj hy
 have yl:(es'.toList.map (·.key))[i]'(by simpa using hi)=(es'.toList.map (·.key))[j]'(by simpa using hj):=by
  rw[zN,zN,h]
 have:=(List.getElem_inj hnd).1 yl;subst this;rfl
theorem UG{t e:Nat}{kk:KK}(h:rj P t=some (kk,e)):∃k,P.underlying t=some (.map k e)/\wH P k=some kk:=by
 unfold rj at h;split at h
 case h_2=>cases h
 unfold UF at h
 split at h
 .rename_i k e' hu;simp only[gm,dT] at h;obtain ⟨kk',hk,rfl,rfl⟩:=h;exact ⟨k,hu,hk⟩
 .cases h
theorem UH{t:Nat}{q:KK×Nat}(h:rj P t=some q):tS=true:=by
 unfold rj at h
 split at h
 .assumption
 .cases h
theorem UM(hm:MemR B w g m){kk:KK}{x:AV}{x':Value}(hx:V w g x x'){nm:Nat}{es:List (AV×AV)}(h:vd m kk x=some (nm,es)):m.get nm=some (.mp kk es)/\∃b es' clock,x'=.map (some b)/\g.loc nm=some b/\B<=b/\w.heap[b]?=some (.map es' clock)/\MapR w g kk es' clock es:=by
 unfold vd at h
 split at h
 .rename_i nm'
  split at h
  .rename_i kk' es0 hg
   split at h
   .rename_i hk;simp only[bp,dT] at h;obtain ⟨rfl,rfl⟩:=h;subst hk
    cases hx with
    | mref _ b hl=>
     obtain ⟨b',es',clock,h1,h2,h3,h4⟩:=hm.mp nm' kk' es0 hg;obtain rfl:b=b':=by simpa [hl] using h1
     exact ⟨hg,b,es',clock,rfl,hl,h2,h3,h4⟩
   .cases h
  .cases h
 .cases h
theorem qjd{e:Nat}{z:AV}(h:rG P e=some z)(w:World):∃v,(zeroValue e).run P w=.ok v w/\z=gE v:=by
 obtain ⟨i,v,hi,hv,rfl⟩:=El h;exact ⟨v,by simp[zeroValue,typeInfo,hi,hv],rfl⟩
theorem qhI(hm:MemR B w g m){t e:Nat}{kk:KK}{z v:AV}{x key:AV}{x' key':Value}{b:Bool}(hx:V w g x x')(LO:V w g key key')(pw:rj P t=some (kk,e))(hz:rG P e=some z)(h:Dv kk z m x key=some (v,b)) :
  ∃v',V w g v v'/\(Instr.lookup t x' key' true).run P w=.ok (.tuple #[v',.bool b]) w/\(Instr.lookup t x' key' false).run P w=.ok v' w:=by
 obtain ⟨k,hu,hk⟩:=UG pw;obtain ⟨z0,Ue,rfl⟩:=qjd hz w;simp only[Dv,aS] at h;obtain ⟨⟨nm,es⟩,kX,h⟩:=h;simp only at h
 split at h
 .rename_i bI;simp only[bp] at h;obtain ⟨hg,bl,es',clock,rfl,hl,hB,hb,M⟩:=UM hm hx kX;obtain ⟨kv,n9⟩:=Uj bI;have LM:=(LO.flatV n9).symm;subst LM;obtain ⟨kl,jh⟩:=Ds hk (Mv bI n9);have K:=Uk hk;have F:=M.fit hk
  have none_case:(∀y∈es'.toList,y.key≠kv)->es.find? (fun p=>oi p.1 key)=none:=fun aE=>by
   rw[List.find?_eq_none];intro p hp AE;obtain ⟨y,hy,h1,_⟩:=M.to p hp;exact aE y hy ((yG (M.ok p hp) bI h1 n9).1 AE)
  have some_case:∀e0∈es'.toList,e0.key=kv->∃p,es.find? (fun p=>oi p.1 key)=some p/\V w g p.2 e0.val:=fun e0 he Tf=>by
   obtain ⟨p0,TQ,h1,h2⟩:=M.frm e0 he;have hex:∃p∈es,oi p.1 key=true:=⟨p0,TQ,(yG (M.ok p0 TQ) bI h1 n9).2 Tf⟩
   cases hf:es.find? (fun p=>oi p.1 key) with
   | none=>
    rw[List.find?_eq_none] at hf;obtain ⟨p,hp,AE⟩:=hex;exact absurd AE (hf p hp)
   | some p=>
    refine ⟨p,rfl,?_⟩;have hp:=List.mem_of_find?_eq_some hf;have AE:=List.find?_some hf;obtain ⟨y,hy,h3,h4⟩:=M.to p hp;have hyk:=(yG (M.ok p hp) bI h3 n9).1 AE
    have:y=e0:=by
     exact M.uniq hy he (hyk.trans Tf.symm)
    rw[<- this];exact h4
  have ht:=fit_look (R:=RU) true K hu Ue hb F jh;have hf:=fit_look (R:=RU) false K hu Ue hb F jh;simp only[eC,ko,j6] at ht hf
  rcases ht with ⟨t1,t2,_⟩|⟨e0,y,t1,t2,t3,_⟩
  .rw[MD,none_case t2] at h;simp only[dT] at h;obtain ⟨rfl,rfl⟩:=h;refine ⟨z0,Ra w g z0,t1,?_⟩
   rcases hf with ⟨f1,_,_⟩|⟨e1,y1,f1,f2,_⟩
   .exact f1
   .exact absurd f2 (t2 e1 f1)
  .obtain ⟨p,hp,L8⟩:=some_case e0 t1 t2;rw[MD,hp] at h;simp only[dT] at h;obtain ⟨rfl,rfl⟩:=h;refine ⟨e0.val,L8,t3,?_⟩
   rcases hf with ⟨_,f2,_⟩|⟨e1,y1,f1,f2,f3,_⟩
   .exact absurd t2 (f2 e0 t1)
   .have:e0=e1:=M.uniq t1 f1 (t2.trans f2.symm);rw[f3,this]
 .cases h
theorem Step.setMap(nk:tS=true){b:Nat}{es es':Array MapEntry}{clock clock':Nat}(hB:B<=b)(hb:w.heap[b]?=some (.map es clock)):Step B w g (setBlock w b (.map es' clock')) g:=by
 have kM:∀k,k≠b->(setBlock w b (.map es' clock')).heap[k]?=w.heap[k]?:=fun k hk=>heap_setBlock_other hb _ hk
 refine ⟨⟨rfl,rfl,rfl,by simp[setBlock],fun k hk=>kM k (by omega)⟩,fun b' off u hw hc=>?_,fun b' c1 e1 fr fm=>?_,fun _ _ _ h=>h,fun _ _ _=>Iff.rfl,fun _ _=>Iff.rfl,fun _ _ h=>h,fun _ _ _ h=>h,fun k o hk _ hm=>(kM k (fun he=>by subst he;rw[hb] at hk;cases hk;exact hm nk _ _ rfl)).trans hk⟩
 .have aE:b'≠b:=fun he=>by
   subst he;unfold World.cell? at hc;rw[hb] at hc;cases hc
  exact (World.cell?_of_block (w:=w) (a:=⟨b',off,none⟩) (kM b' aE)).trans hc
 .have aE:b'≠b:=fun he=>by subst he;rw[hb] at fm;cases fm
  exact ⟨c1,(kM b' aE).trans fm,rfl⟩
theorem UL{es:List (AV×AV)}{key v:AV}{p:AV×AV}(h:p∈pD es key v):(p∈es/\oi p.1 key=false)\/(p.2=v/\(p.1=key\/∃q∈es,q.1=p.1/\oi q.1 key=true)):=by
 unfold pD at h
 split at h
 .obtain ⟨q,hq,rfl⟩:=ks.1 h
  by_cases hk:oi q.1 key=true
  .rw[aj hk];exact .inr ⟨rfl,.inr ⟨q,hq,rfl,hk⟩⟩
  .rw[ag hk];exact .inl ⟨hq,by simpa using hk⟩
 .rename_i ha;rw[List.any_eq_false] at ha
  rcases kT.1 h with h|h
  .exact .inl ⟨h,by simpa using ha p h⟩
  .rw[List.mem_singleton] at h;subst h;exact .inr ⟨rfl,.inl rfl⟩
theorem qiC{es:List (AV×AV)}{key v:AV}{p:AV×AV}(h:p∈es)(hk:oi p.1 key=false):p∈pD es key v:=by
 unfold pD
 split
 .exact ks.2 ⟨p,h,by rw[ag (by simp[hk])]⟩
 .exact kT.2 (.inl h)
theorem qiB{es:List (AV×AV)}{key v:AV}:∃p∈pD es key v,p.2=v/\(p.1=key\/∃q∈es,q.1=p.1/\oi q.1 key=true):=by
 unfold pD
 split
 .rename_i ha;obtain ⟨q,hq,hk⟩:=List.any_eq_true.1 ha;exact ⟨(q.1,v),ks.2 ⟨q,hq,by rw[aj hk]⟩,rfl,.inr ⟨q,hq,rfl,hk⟩⟩
 .exact ⟨(key,v),kT.2 (.inr oB),rfl,.inl rfl⟩
theorem qiA(es:List (AV×AV))(key v:AV):(pD es key v).length=if es.any (fun p=>oi p.1 key)=true then es.length else es.length+1:=by
 unfold pD
 split
 .rename_i h;rw[aj h];simp
 .rename_i h;rw[h];simp
theorem U2{α:Type}:∀(l l':List α),l.Nodup->(∀x∈l,x∈l')->l.length<=l'.length
 | [],_,_,_=>jH _
 | a::t,l',hn,hs=>by
  obtain ⟨s,u,rfl⟩:=xv (hs a oB);rw[List.nodup_cons] at hn
  have:=U2 t (s++u) hn.2 (fun x hx=>by
   have h:=hs x (nX _ hx)
   rcases kT.1 h with h|h
   .exact kT.2 (.inl h)
   .rcases dI.1 h with rfl|h
    .exact absurd hx hn.1
    .exact kT.2 (.inr h))
  simp at this ⊢;omega
theorem qh5{α β:Type}{f:α->β}{l:List α}(h:(l.map f).Nodup):(l.map fun x=>some (f x)).Nodup:=by
 have:(l.map fun x=>some (f x))=(l.map f).map some:=by simp
 rw[this];unfold List.Nodup at h ⊢;rw[List.pairwise_map];exact h.imp fun aE e=>aE (kz e)
theorem MapR.put{k:Nat}{kk:KK}{t e b:Nat}{es':Array MapEntry}{clock:Nat}{es:List (AV×AV)}(M:MapR w g kk es' clock es)(hu:P.underlying t=some (.map k e))(hk:wH P k=some kk)(hb:w.heap[b]?=some (.map es' clock)){key v:AV}{kv vv:Value}(bI:me kk key=true)(n9:Go.Ab.flatV key=some kv)(Dd:V w g v vv)(hlen:es.length<maxLen) :
  ∃es2 clock2,(Instr.mapUpdate t (.map (some b)) kv vv).run P w=.ok () (setBlock w b (.map es2 clock2))/\MapR w g kk es2 clock2 (pD es key v):=by
 obtain ⟨kl,jh⟩:=Ds hk (Mv bI n9);have K:=Uk hk;have F:=M.fit (P:=P) hk;obtain ⟨es2,clock2,r1,r2,r3,_,_,r6⟩:=fit_store (R:=RU) (R':=RU) (yv:=(.lit (.bool true),[])) K hu hb F (jG M.size hlen) (fun _ _ _ _ h=>h) jh rfl;have Md:∀(x:MapEntry) (l:Lit),Go.keyOf P k x.key=some l->Go.WideElems.rg P k RU x=(l,.lit (.bool true)):=fun x l hl=>Go.WideElems.rg_of (by simp[Go.WideElems.rd,hl,RU])
 have TB:∀x∈es2.toList,∃l,Go.keyOf P k x.key=some l:=fun x hx=>by
  rcases r6 x hx with ⟨h,_⟩|⟨h,_⟩
  .exact Ds hk (M.keys x h)
  .exact ⟨kl,by rw[h];exact jh⟩
 have back:∀p,p∈putKey kl (.lit (.bool true)) ((es'.toList.map (Go.WideElems.rg P k RU)).foldr DataW.insert [])->∃x∈es2.toList,Go.WideElems.rg P k RU x=p:=fun p hp=>by
  rw[<- r3,mem_sorted] at hp;obtain ⟨x,hx,rfl⟩:=ks.1 hp;exact ⟨x,hx,rfl⟩
 have yq:∃x∈es2.toList,x.key=kv/\x.val=vv:=by
  obtain ⟨x,hx,hp⟩:=back (kl,.lit (.bool true)) (mem_insert_iff.2 (.inl rfl));obtain ⟨l,hl⟩:=TB x hx;rw[Md x l hl] at hp;have q9:l=kl:=(Prod.mk.inj hp).1;subst q9;have Az:x.key=kv:=K.inj hl jh
  rcases r6 x hx with ⟨_,h⟩|⟨h,h'⟩
  .exact absurd Az h
  .exact ⟨x,hx,h,h'⟩
 have hold:∀x∈es'.toList,x.key≠kv->x∈es2.toList:=fun x hx aE=>by
  obtain ⟨l,hl⟩:=Ds hk (M.keys x hx);have qgH:l≠kl:=fun e=>aE (K.inj (e▸hl) jh)
  have fp:(l,DataW.lit (.bool true))∈putKey kl (.lit (.bool true)) ((es'.toList.map (Go.WideElems.rg P k RU)).foldr DataW.insert []):=by
   refine mem_insert_iff.2 (.inr (uk.2 ⟨mem_sorted.2 (ks.2 ⟨x,hx,Md x l hl⟩),?_⟩));simp only[notKey]
   cases hs:l.sameKey kl with
   | false=>rfl
   | true=>exact absurd (WideAt.sameKey_eq hs) qgH
  obtain ⟨x2,He,hp⟩:=back _ fp;obtain ⟨l2,pn⟩:=TB x2 He;rw[Md x2 l2 pn] at hp;have q9:l2=l:=(Prod.mk.inj hp).1;subst q9;have Az:x2.key=x.key:=K.inj pn hl
  rcases r6 x2 He with ⟨h,_⟩|⟨h,_⟩
  .have:x2=x:=by
    have hnd:=M.stamped.2.2;obtain ⟨i,hi,rfl⟩:=uj h;obtain ⟨j,hj,rfl⟩:=uj hx
    have yl:(es'.toList.map (·.key))[i]'(by simpa using hi)=(es'.toList.map (·.key))[j]'(by simpa using hj):=by
     rw[zN,zN,Az]
    have:=(List.getElem_inj hnd).1 yl;subst this;rfl
   rw[<- this];exact He
  .exact absurd (Az.symm.trans h) aE
 have qgx:∀p∈pD es key v,me kk p.1=true:=fun p hp=>by
  rcases UL hp with ⟨h,_⟩|⟨_,h|⟨q,hq,h,_⟩⟩
  .exact M.ok p h
  .rw[h];exact bI
  .rw[<- h];exact M.ok q hq
 have Tk:∀x∈es2.toList,∃p∈pD es key v,Go.Ab.flatV p.1=some x.key/\V w g p.2 x.val:=fun x hx=>by
  rcases r6 x hx with ⟨h,aE⟩|⟨h,h'⟩
  .obtain ⟨p,hp,h1,h2⟩:=M.frm x h;refine ⟨p,qiC hp ?_,h1,h2⟩
   cases dO:oi p.1 key with
   | false=>rfl
   | true=>exact absurd ((yG (M.ok p hp) bI h1 n9).1 dO) aE
  .obtain ⟨p,hp,h1,h2⟩:=qiB (es:=es) (key:=key) (v:=v);refine ⟨p,hp,?_,by rw[h1,h'];exact Dd⟩
   rcases h2 with h2|⟨q,hq,h2,Ma⟩
   .rw[h2,h];exact n9
   .obtain ⟨x0,hx0,h3,_⟩:=M.to q hq;rw[<- h2,h3,h,(yG (M.ok q hq) bI h3 n9).1 Ma]
 have qgw:∀x∈es2.toList,∃p∈pD es key v,Go.Ab.flatV p.1=some x.key:=fun x hx=>(Tk x hx).imp fun p h=>⟨h.1,h.2.1⟩
 refine ⟨es2,clock2,r1,?_,?_,r2.stamped,fun x hx=>?_,qgx,fun p hp=>?_,Tk,M.on⟩
 .have h:=U2 (es2.toList.map fun x=>some x.key) ((pD es key v).map fun p=>Go.Ab.flatV p.1) (qh5 (f:=fun x:MapEntry=>x.key) r2.stamped.2.2) (fun y hy=>by
   obtain ⟨x,hx,rfl⟩:=ks.1 hy;obtain ⟨p,hp,h1⟩:=qgw x hx
   exact ks.2 ⟨p,hp,h1⟩)
  simpa using h
 .rw[qiA];split<;>omega
 .rcases r6 x hx with ⟨h,_⟩|⟨h,_⟩
  .exact M.keys x h
  .rw[h];exact Mv bI n9
 .rcases UL hp with ⟨h,aE⟩|⟨hv,h⟩
  .obtain ⟨x,hx,h1,h2⟩:=M.to p h
   have hxk:x.key≠kv:=fun e=>by
    have:=(yG (M.ok p h) bI h1 n9).2 e;rw[this] at aE;cases aE
   exact ⟨x,hold x hx hxk,h1,h2⟩
  .obtain ⟨x,hx,h1,h2⟩:=yq;refine ⟨x,hx,?_,by rw[hv,h2];exact Dd⟩
   rcases h with h|⟨q,hq,h,Ma⟩
   .rw[h,h1];exact n9
   .obtain ⟨x0,hx0,h3,_⟩:=M.to q hq;rw[<- h,h3,h1,(yG (M.ok q hq) bI h3 n9).1 Ma]
theorem Xg(hm:MemR B w g m){t e:Nat}{kk:KK}{x key v:AV}{x' key' v':Value}{m1:ae}(hx:V w g x x')(LO:V w g key key')(hv:V w g v v')(pw:rj P t=some (kk,e))(h:Bm kk m x key v=some m1) :
  ∃w',(Instr.mapUpdate t x' key' v').run P w=.ok () w'/\Step B w g w' g/\MemR B w' g m1:=by
 obtain ⟨k,hu,hk⟩:=UG pw;simp only[Bm,aS] at h;obtain ⟨⟨nm,es⟩,kX,h⟩:=h;simp only at h
 split at h
 .rename_i hc;obtain ⟨bI,_,hlen⟩:=hc;simp only[bp] at h;subst h;obtain ⟨hg,b,es',clock,rfl,hl,hB,hb,M⟩:=UM hm hx kX;obtain ⟨kv,n9⟩:=Uj bI;have LM:=(LO.flatV n9).symm;subst LM;obtain ⟨es2,clock2,r1,M2⟩:=M.put (w:=w) hu hk hb bI n9 hv hlen;have s:=Step.setMap (UH pw) (w:=w) (g:=g) (es':=es2) (clock':=clock2) hB hb;have kM:∀k,k≠b->(setBlock w b (.map es2 clock2)).heap[k]?=w.heap[k]?:=fun k hk=>heap_setBlock_other hb _ hk;have wF:(setBlock w b (.map es2 clock2)).heap.size=w.heap.size:=by simp[setBlock]
  have aG:=wh hg;refine ⟨_,r1,s,?_⟩;have sa:bw g m nm=some b:=by simp[bw,hg,hl]
  have fe:∀x b',bw g (m.set nm (some (.mp kk (pD es key v)))) x=some b'->bw g m x=some b':=by
   intro x b' hx
   rcases pN hx with ⟨bx1,cs1,a1,a2⟩|⟨n1,sz1,a1,a2⟩|⟨kk1,es1,a1,a2⟩
   .rw[fJ] at a1
    split at a1
    .simp at a1
    .simp[bw,a1,a2]
   .rw[fJ] at a1
    split at a1
    .simp at a1
    .simp[bw,a1,a2]
   .rw[fJ] at a1
    split at a1
    .rename_i he;subst he;simp[bw,hg,a2]
    .simp[bw,a1,a2]
  refine ⟨?_,?_,?_,?_,?_,?_,?_,?_,?_⟩
  .intro x bx1 cs1 hx;rw[fJ] at hx
   split at hx
   .simp at hx
   .obtain ⟨b1,c1,e1,a1,a2,a3,a4,a5,a6⟩:=hm.obj x bx1 cs1 hx;have lL:b1≠b:=fun he=>by rw[he,hb] at a3;cases a3
    exact ⟨b1,c1,e1,a1,a2,(kM b1 lL).trans a3,a4,fun j hj=>(a5 j hj).step s,a6⟩
  .intro x n1 sz1 hx;rw[fJ] at hx
   split at hx
   .simp at hx
   .obtain ⟨b1,c1,e1,a1,a2,a3,a4⟩:=hm.tok x n1 sz1 hx;have lL:b1≠b:=fun he=>by rw[he,hb] at a3;cases a3
    exact ⟨b1,c1,e1,a1,a2,(kM b1 lL).trans a3,a4⟩
  .intro x hx;rw[fJ] at hx
   split at hx
   .simp at hx
   .exact hm.resv x hx
  .intro x hx;exact hm.fresh x (by simpa using hx)
  .intro x x' b' h1 h2;exact hm.inj x x' b' (fe x b' h1) (fe x' b' h2)
  .intro b' off hw;rw[wF];exact hm.wrLt b' off hw
  .exact hm.invS s
  .intro b' hw;rw[wF];exact hm.boxLt b' hw
  .intro x kk1 es1 hx;rw[fJ] at hx
   split at hx
   .rename_i he;simp only[aj aG,bp,Ent.mp.injEq] at hx;obtain ⟨rfl,rfl⟩:=hx;subst he;exact ⟨b,es2,clock2,hl,hB,heap_setBlock_same hb _,M2.step s⟩
   .rename_i aE;obtain ⟨b1,es3,cl3,a1,a2,a3,a4⟩:=hm.mp x kk1 es1 hx;have lL:b1≠b:=fun he=>aE (hm.inj x nm b (by simp[bw,hx,a1,he]) sa);exact ⟨b1,es3,cl3,a1,a2,(kM b1 lL).trans a3,a4.step s⟩
 .cases h
def qB(g:G)(nm b:Nat):G where
 wr:=g.wr
 box:=g.box
 loc nm':=if nm'=nm then some b else g.loc nm'
 tloc:=g.tloc
theorem MemR.alloc_mp(nk:tS=true)(h:MemR B w g m)(hB:B<=w.heap.size)(kk:KK){nm:Nat}{m':ae}(hs:Slot g m nm (.mp kk []) m') :
  Step B w g (w.alloc (.map #[] 0)) (qB g nm w.heap.size)/\MemR B (w.alloc (.map #[] 0)) (qB g nm w.heap.size) m':=by
 have lM:=hs.fresh
 have s:Step B w g (w.alloc (.map #[] 0)) (qB g nm w.heap.size):=by
  refine Step.alloc hB _ (fun b off hb=>Iff.rfl) (fun b hb=>Iff.rfl) (fun x b hb=>?_) (fun _ _ _ h=>h);simp only[qB]
  split
  .rename_i he;rw[he,lM.1] at hb;cases hb
  .exact hb
 have fe:∀x b,bw (qB g nm w.heap.size) m' x=some b->(x≠nm/\bw g m x=some b)\/(x=nm/\b=w.heap.size):=by
  intro x b hb
  rcases pN hb with ⟨bx',cs',h1,h2⟩|⟨n,sz,h1,h2⟩|⟨kk1,es,h1,h2⟩
  .rw[hs.get] at h1
   split at h1
   .simp at h1
   .rename_i aE;simp only[qB,ag aE] at h2;exact .inl ⟨aE,by simp[bw,h1,h2]⟩
  .rw[hs.get] at h1
   split at h1
   .simp at h1
   .rename_i aE;simp only[qB] at h2;exact .inl ⟨aE,by simp[bw,h1,h2]⟩
  .rw[hs.get] at h1
   split at h1
   .rename_i he;simp only[qB,aj he] at h2;exact .inr ⟨he,by simpa using h2.symm⟩
   .rename_i aE;simp only[qB,ag aE] at h2;exact .inl ⟨aE,by simp[bw,h1,h2]⟩
 refine ⟨s,?_,?_,?_,?_,?_,?_,?_,?_,?_⟩
 .intro x bx' cs' hn;rw[hs.get] at hn
  split at hn
  .simp at hn
  .obtain ⟨b,c',e',h1,h2,h3,h4,h5,h6,h7⟩:=h.obj x bx' cs' hn;exact ⟨b,c',e',s.loc _ _ h1,h2,(Go.heap_alloc_old w _ (eA.1 h3).1).trans h3,h4,fun j hj=>(h5 j hj).step s,h6,h7⟩
 .intro x n sz hn;rw[hs.get] at hn
  split at hn
  .simp at hn
  .obtain ⟨b,c',e',h1,h2,h3,h4⟩:=h.tok x n sz hn;exact ⟨b,c',e',h1,h2,(Go.heap_alloc_old w _ (eA.1 h3).1).trans h3,h4⟩
 .intro x hn;rw[hs.get] at hn
  split at hn
  .simp at hn
  .rename_i aE;have:=h.resv x hn;exact ⟨by simp only[qB];rw[ag aE];exact this.1,this.2⟩
 .intro x hn;obtain ⟨h1,h2⟩:=hs.len x hn;have:=h.fresh x h1;exact ⟨by simp only[qB];rw[ag h2];exact this.1,this.2⟩
 .intro x x' b h1 h2
  rcases fe _ _ h1 with ⟨a1,a2⟩|⟨a1,a2⟩<;>rcases fe _ _ h2 with ⟨b1,b2⟩|⟨b1,b2⟩
  .exact h.inj _ _ _ a2 b2
  .have:=(h.blk_lt a2).2;omega
  .have:=(h.blk_lt b2).2;omega
  .omega
 .intro b off hw;have:=h.wrLt b off hw;simp;omega
 .exact h.invS s
 .intro b hw;have:=h.boxLt b hw;simp;omega
 .intro x kk1 es hn;rw[hs.get] at hn
  split at hn
  .rename_i he;simp only[bp,Ent.mp.injEq] at hn;obtain ⟨rfl,rfl⟩:=hn;refine ⟨w.heap.size,#[],0,by simp[qB,he],hB,heap_alloc_new w _,⟨aW _,jH _,MapKept.stamped_empty 0,by simp,by simp,by simp,by simp,nk⟩⟩
  .obtain ⟨b,es',cl,h1,h2,h3,h4⟩:=h.mp x kk1 es hn;exact ⟨b,es',cl,s.loc _ _ h1,h2,(Go.heap_alloc_old w _ (eA.1 h3).1).trans h3,h4.step s⟩
theorem qhL(hm:MemR B w g m)(hB:B<=w.heap.size){t e:Nat}{kk:KK}(pw:rj P t=some (kk,e)):nF P B w g (Instr.makeMap t none) (.mref (ak none m .resv).1) (ak none m (.mp kk [])).2:=by
 obtain ⟨s,eR⟩:=MemR.alloc_mp (UH pw) hm hB kk (hm.slot (d:=none) (fun s h=>by cases h) (.mp kk []));refine ⟨_,_,_,?_,s,eR,.mref _ w.heap.size (by simp[qB])⟩;simp[Instr.makeMap,newObj]
 rfl
end
end Go.Ab
namespace Go.Ab
open Go.RowKit
section
variable [WInv] {C:Cfg} {B:Nat} {w:World} {g:G} {m:ae}
def zT(P:Program)(B:Nat)(w:World)(g:G)(a:Act)(o:Oper)(v:AV)(m1:ae):Prop:=
 ∀(next:Act->World->Prop) (Q:Exit->Act->World->Prop),(∀a1 v' w' g',a1.tmps=a.tmps->((∀c,o.op≠.defer c)->a1=a)->ij P a1 a->Step B w g w' g'->MemR B w' g' m1->V w' g' v v'->next (a1.put o.dst v') w')->o.wp P a w next Q
theorem zT.done{P:Program}{a:Act}{o:Oper}{v:AV}{m1:ae}{s:Sem Value}(h:nF P B w g s v m1)(hs:∀w,(execOp a.eval o).run P w=(do pure (.value (<- s)):Sem Next).run P w):zT P B w g a o v m1:=
 fun next Q hn=>qkq hs h fun v' w' g' h1 h2 h3=>hn a v' w' g' rfl (fun _=>rfl) (ij.refl _ _) h1 h2 h3
theorem zT.same{P:Program}{a:Act}{o:Oper}{v:AV}(hm:MemR B w g m){s:Sem Value}(h:∃v',s.run P w=.ok v' w/\V w g v v')(hs:∀w,(execOp a.eval o).run P w=(do pure (.value (<- s)):Sem Next).run P w):zT P B w g a o v m:=
 zT.done (nF.same hm h) hs
theorem qhO{ρ:Operand->AV}{ρ':Operand->Value}(hρ:∀x,V w g (ρ x) (ρ' x))(xs:Array Operand)(cs:List AV)(vs:Array Value)(hl:cs.length=vs.size)(hv:∀j,j<cs.length->V w g (cs.getD j .any) (vs.getD j undef)) :
  (xs.toList.map ρ++cs).length=(xs.map ρ'++vs).size/\∀j,j<(xs.toList.map ρ++cs).length->V w g ((xs.toList.map ρ++cs).getD j .any) ((xs.map ρ'++vs).getD j undef):=by
 refine ⟨by simp[hl],fun j hj=>?_⟩;simp only[bA,fV,pL,Em,gu,Array.length_toList,Array.size_map]
 by_cases h1:j<xs.size
 .rw[aj h1,aj h1];simpa [h1] using hρ xs[j]
 .rw[ag h1,ag h1];simp at hj;simpa [bA,fV] using hv (j-xs.size) (by omega)
theorem yS{ρ:Operand->AV}{ρ':Operand->Value}(hρ:∀x,V w g (ρ x) (ρ' x))(x:Option Operand):qN w g (x.map ρ) (x.map ρ'):=by
 cases x with
 | none=>trivial
 | some x=>exact hρ x
theorem qe7(hC:CfgOk C){callI:Nat->List AV->ae->OM}(hI:∀f args m v m',callI f args m=some (v,m')->kr C.P f args m v m'/\∃fn,C.P.funcs[f]?=some fn/\fn.body.isSome)
  {R:Type} {fid:Nat} {d:Option Nat} {f:Nat} {args:List AV} {K:AV->ae->Option R} {r:R} (h:nK C fid (gv callI) callI d f args m K=some r) (hm:MemR B w g m) (hB:B<=w.heap.size) {vs:Array Value}
  (hl:args.length=vs.size) (hv:∀j,j<args.length->V w g (args.getD j .any) (vs.getD j undef)) :
  ∃v m1 fn,K v m1=some r/\C.P.funcs[f]?=some fn/\fn.body.isSome/\Calls C.P f vs w fun e w'=>∃v' g',e=.returned v'/\Step B w g w' g'/\MemR B w' g' m1/\V w' g' v v':=by
 unfold nK at h
 cases oL:C.libm f with
 | some hh=>
  rw[oL] at h
  cases d with
  | some s=>cases h
  | none=>
   simp only[aS] at h;obtain ⟨⟨v,m1⟩,hr,h⟩:=h;obtain ⟨⟨fn,h1,h2⟩,h3⟩:=hC.libm f hh oL;exact ⟨v,m1,fn,h,h1,h2,h3 args m v m1 hr B w g vs hm hB hl hv⟩
 | none=>
 rw[oL] at h;simp only at h
 split at h
 .rename_i hh GY;simp only[aS] at h;obtain ⟨v,hr,h⟩:=h;obtain ⟨⟨fn,h1,h2⟩,h3⟩:=hC.lib f hh GY;exact ⟨v,m,fn,h,h1,h2,h3 args v hr m B w g vs hm hB hl hv⟩
 .split at h
  .split at h
   .simp only[aS] at h;obtain ⟨⟨v,m1⟩,hr,h⟩:=h
    cases hz:C.frzc fid f with
    | true=>
     rw[hz] at hr;simp only[Cy,aS] at hr;obtain ⟨⟨rs,l⟩,hf,hc⟩:=hr;obtain ⟨g1,s1,kK,jB,tL⟩:=qf3 hm hl hv hf;obtain ⟨h1,fn,h2,h3⟩:=hI _ _ _ _ _ hc;refine ⟨v,m1,fn,h,h2,h3,(h1 B w g1 vs kK hB jB tL).mono ?_⟩;rintro e w' ⟨v',g',he,s,eR,hV⟩;exact ⟨v',g',he,s1.trans s,eR,hV⟩
    | false=>
    rw[hz] at hr;simp only at hr
    cases ht:C.thaw fid f with
    | false=>
     rw[ht] at hr;obtain ⟨h1,fn,h2,h3⟩:=hI _ _ _ _ _ hr;exact ⟨v,m1,fn,h,h2,h3,h1 B w g vs hm hB hl hv⟩
    | true=>
     rw[ht] at hr;simp only[nT,aS,gm] at hr;obtain ⟨⟨rs,l⟩,hf,⟨v0,m0⟩,hc,⟨v1,m2⟩,mS,he⟩:=hr;simp only[dT] at he;obtain ⟨rfl,rfl⟩:=he;obtain ⟨_,fn,h2,h3⟩:=hI _ _ _ _ _ hc;exact ⟨v1,_,fn,h,h2,h3,qjV hm hB (fun args m v m' hh=>(hI _ _ _ _ _ hh).1) hl hv hf hc mS⟩
   .cases h
  .unfold ao at h;simp only[aS] at h;obtain ⟨⟨v,m1⟩,⟨⟨rs,l⟩,hf,hc⟩,h⟩:=h
   split at hc
   .cases hc
   .simp only[gm,dT] at hc;obtain ⟨v',hr,rfl,rfl⟩:=hc
    have q8:∃fn,C.P.funcs[f]?=some fn/\fn.body.isSome:=by
     unfold gv at hr;simp only[aS] at hr;obtain ⟨⟨v0,m0⟩,hc,_⟩:=hr;exact (hI _ _ _ _ _ hc).2
    obtain ⟨fn,h1,h2⟩:=q8;exact ⟨v',_,fn,h,h1,h2,HM hm hB (fun args m v m' hh=>(hI _ _ _ _ _ hh).1) hl hv hf hr⟩
theorem M8(hC:CfgOk C){callI:Nat->List AV->ae->OM}(hI:∀f args m v m',callI f args m=some (v,m')->kr C.P f args m v m'/\∃fn,C.P.funcs[f]?=some fn/\fn.body.isSome)
  {R:Type} {fid:Nat} {d:Option Nat} {o:Oper} {ρ:Operand->AV} {K:AV->ae->Option R} {r:R} {a:Act} (h:jr C fid (gv callI) callI d o ρ m K=some r) (hρ:∀x,V w g (ρ x) (a.eval x)) (hm:MemR B w g m) (hB:B<=w.heap.size) (qX:nt o=true->∀s,d=some s->m.get s=some .resv) :
  ∃v m1,K v m1=some r/\zT C.P B w g a o v m1:=by
 unfold jr at h
 split at h
 .rename_i x bh;exact ⟨_,_,h,.same (s:=pure (a.eval x)) hm ⟨_,rfl,hρ x⟩ fun w=>by simp[execOp,bh]⟩
 .rename_i x bh;exact ⟨_,_,h,.same (s:=pure (a.eval x)) hm ⟨_,rfl,hρ x⟩ fun w=>by simp[execOp,bh]⟩
 .rename_i c x y bh;simp only[aS] at h;obtain ⟨v,hv,h⟩:=h;exact ⟨_,_,h,.same hm (qiu (hρ c) (hρ x) (hρ y) hv) fun w=>by simp[execOp,bh]⟩
 .rename_i t bh
  split at h
  .rename_i z hz;have hd:=qX (by simp[nt,bh]);exact ⟨_,_,h,.done (qc8 hm hB hd hz) fun w=>by simp[execOp,bh]⟩
  .cases h
 .rename_i t x bh
  split at h
  .simp only[aS] at h;obtain ⟨⟨v,m1⟩,hv,h⟩:=h;have hd:=qX (by simp[nt,bh]);exact ⟨_,_,h,.done (qeZ (t:=t) hm hB hd (hρ x) hv) fun w=>by simp[execOp,bh]⟩
  .cases h
 .rename_i t ps bh
  split at h
  .rename_i eD
   split at h
   .rename_i z l hz hl;simp only[aS] at h;obtain ⟨v,hv,h⟩:=h;exact ⟨_,_,h,.done (qe1 hm hρ eD hz hl hv) fun w=>by simp[execOp,bh]⟩
   .cases h
  .cases h
 .rename_i t n ps bh
  split at h
  .rename_i e he
   split at h
   .rename_i sh bO
    split at h
    .rename_i mN;simp only[dY,beq_iff_eq,vU] at mN;obtain ⟨⟨c1,c2⟩,c3⟩:=mN;simp only[aS] at h;obtain ⟨v,hv,h⟩:=h
     have ht:C.P.underlying t=some (.slice e):=by
      unfold Af at he
      split at he
      .simp at he;subst he;assumption
      .cases he
     exact ⟨_,_,h,.done (qe0 hm hB hρ ht c1 c2 c3 hv) fun w=>by simp[execOp,bh]⟩
    .cases h
   .cases h
  .cases h
 .rename_i t x bh
  split at h
  .rename_i sh bO;simp only[aS] at h;obtain ⟨v,hv,h⟩:=h;exact ⟨_,_,h,.same hm (Uw hm (hρ x) hv t bO) fun w=>by simp[execOp,bh]⟩
  .cases h
 .rename_i t x y bh
  split at h
  .rename_i sh bO;simp only[aS] at h;obtain ⟨m1,hv,h⟩:=h
   refine ⟨_,_,h,fun next Q hn=>?_⟩
   obtain ⟨w',h1,h2,h3⟩:=qjD (P:=C.P) hm (hρ x) (hρ y) bO hv;have hr:(execOp a.eval o).run C.P w=.ok .skip w':=by simp[execOp,bh,h1]
   unfold Oper.wp;rw[hr];exact hn a undef w' g rfl (fun _=>rfl) (ij.refl _ _) h2 h3 (.any _)
  .cases h
 .rename_i x bh;have hx:=hρ x;simp only[aS] at h;obtain ⟨v,hv,h⟩:=h;unfold UZ at hv
  split at hv
  .rename_i cs gd;simp only[bp] at hv;subst hv;rw[gd] at hx
   cases hZ:a.eval x with
   | pointer p=>
    cases p with
    | some p=>
     refine ⟨_,_,h,.same (s:=pure (.pointer (some p))) hm ⟨_,rfl,by rw[hZ] at hx;exact hx⟩ fun w=>by simp[execOp,bh,hZ]⟩
    | none=>rw[hZ] at hx;cases hx
   | _=>rw[hZ] at hx;cases hx
  .rename_i nm off gd;simp only[bp] at hv;subst hv;rw[gd] at hx
   cases hZ:a.eval x with
   | pointer p=>
    cases p with
    | some p=>
     refine ⟨_,_,h,.same (s:=pure (.pointer (some p))) hm ⟨_,rfl,by rw[hZ] at hx;exact hx⟩ fun w=>by simp[execOp,bh,hZ]⟩
    | none=>rw[hZ] at hx;cases hx
   | _=>rw[hZ] at hx;cases hx
  .rename_i f cs gd;simp only[bp] at hv;subst hv;rw[gd] at hx
   cases hZ:a.eval x with
   | func fn fi cap=>
    rw[hZ] at hx
    cases hx with
    | fn _ _ _ hl hv=>
     refine ⟨_,_,h,.same (s:=pure (.func (.func f) #[] cap)) hm ⟨_,rfl,.fn _ _ _ hl hv⟩ fun w=>by simp[execOp,bh,hZ]⟩
   | _=>rw[hZ] at hx;cases hx
  .cases hv
 .rename_i op t x y _ bh;simp only[aS] at h;obtain ⟨v,hv,h⟩:=h;exact ⟨_,_,h,.same hm (RB op t x y (hρ x) (hρ y) hv) fun w=>by simp[execOp,bh]⟩
 .rename_i op t x bh;simp only[aS] at h;obtain ⟨v,hv,h⟩:=h;exact ⟨_,_,h,.same hm (Xe op (hρ x) hv) fun w=>by simp[execOp,bh]⟩
 .rename_i src dst x bh
  split at h
  .rename_i k hk
   split at h
   .rename_i hs;simp only[aS] at h;obtain ⟨v,hv,h⟩:=h;exact ⟨_,_,h,.same hm (qfl (hρ x) hv src dst hk hs) fun w=>by simp[execOp,bh]⟩
   .cases h
  .cases h
 .rename_i fn fi cs bh
  split at h
  .rename_i f GP;have qgu:fi = #[]:=by simpa using GP
   subst qgu;refine ⟨_,_,h,.same (s:=pure (.func (.func f) #[] (cs.map a.eval))) hm ⟨_,rfl,.fn _ _ _ (by simp) fun j hj=>?_⟩ fun w=>by simp[execOp,bh,Instr.makeFunc]⟩;have gg:j<cs.size:=by simpa using hj
   simpa [bA,fV,gg] using hρ cs[j]
  .cases h
 .rename_i t l c bh
  split at h
  .rename_i e he
   split at h
   .rename_i sh z bO hz
    split at h
    .rename_i kI;simp only[aS] at h;obtain ⟨⟨v,m1⟩,hv,h⟩:=h
     have ht:C.P.underlying t=some (.slice e):=by
      unfold Af at he
      split at he
      .simp at he;subst he;assumption
      .cases he
     have hd:=qX (by simp[nt,bh])
     cases og:C.tokm fid with
     | true=>rw[og] at hv;exact ⟨_,_,h,.done (qhM hm hB ht bO kI hz (hρ l) (hρ c) hv) fun w=>by simp[execOp,bh]⟩
     | false=>rw[og] at hv;exact ⟨_,_,h,.done (qhN hm hB hd ht bO kI hz (hρ l) (hρ c) hv) fun w=>by simp[execOp,bh]⟩
    .cases h
   .cases h
  .cases h
 .rename_i t x lo hi mx bh
  split at h
  .rename_i e ht
   split at h
   .rename_i sh bO
    split at h
    .rename_i kI;simp only[aS] at h;obtain ⟨v,hv,h⟩:=h;unfold nS at hv
     split at hv
     .rename_i sh' z o' es hx
      split at hv
      .rename_i hs;exact ⟨_,_,h,.same hm (qju (hx▸hρ x) (yS hρ lo) (yS hρ hi) (yS hρ mx) hv t ht bO kI hs) fun w=>by simp[execOp,bh]⟩
      .cases hv
     .rename_i nm off n sh' hx
      split at hv
      .rename_i hs;subst hs
       cases mx with
       | none=>exact ⟨_,_,h,.same hm (qjt (hx▸hρ x) (yS hρ lo) (yS hρ hi) hv t ht kI) fun w=>by simp[execOp,bh]⟩
       | some _=>simp[qk] at hv
      .cases hv
     .cases hv
    .cases h
   .cases h
  .rename_i ht;simp only[aS] at h;obtain ⟨v,hv,h⟩:=h;unfold Wq at hv
   split at hv
   .rename_i s hx
    cases mx with
    | none=>exact ⟨_,_,h,.same hm (qjv (hx▸hρ x) (yS hρ lo) (yS hρ hi) hv t ht) fun w=>by simp[execOp,bh]⟩
    | some _=>simp[qk] at hv
   .cases hv
  .cases h
 .rename_i t x f bh
  split at h
  .rename_i off sh hf;simp only[aS] at h;obtain ⟨v,hv,h⟩:=h;exact ⟨_,_,h,.same hm (qfX (hρ x) hv t f hf) fun w=>by simp[execOp,bh]⟩
  .cases h
 .rename_i t x f bh
  split at h
  .rename_i off sh hf;simp only[aS] at h;obtain ⟨v,hv,h⟩:=h;exact ⟨_,_,h,.same hm (qfY (hρ x) hv t f hf) fun w=>by simp[execOp,bh]⟩
  .cases h
 .rename_i t x i bh
  split at h
  .rename_i e ht
   split at h
   .rename_i sh bO
    split at h
    .rename_i kI;simp only[aS] at h;obtain ⟨v,hv,h⟩:=h;exact ⟨_,_,h,.same hm (qhm (hρ x) (hρ i) hv t ht kI) fun w=>by simp[execOp,bh]⟩
    .cases h
   .cases h
  .rename_i n e ht
   split at h
   .rename_i sh bO
    split at h
    .rename_i kI;simp only[aS] at h;obtain ⟨v,hv,h⟩:=h;exact ⟨_,_,h,.same hm (qdo (hρ x) (hρ i) hv t ht kI) fun w=>by simp[execOp,bh]⟩
    .cases h
   .cases h
  .cases h
 .rename_i t x i bh
  split at h
  .rename_i ht;simp only[aS] at h;obtain ⟨v,hv,h⟩:=h;exact ⟨_,_,h,.same hm (qhn (hρ x) (hρ i) hv t ht) fun w=>by simp[execOp,bh]⟩
  .cases h
 .rename_i t i bh;simp only[aS] at h;obtain ⟨v,hv,h⟩:=h;exact ⟨_,_,h,.same hm (qfW (hρ t) hv) fun w=>by simp[execOp,bh]⟩
 .rename_i c bh
  split at h
  .rename_i f hc;simp only[aS] at h;obtain ⟨⟨g0,caps⟩,kJ,h⟩:=h;unfold xU at kJ
   split at kJ
   .rename_i f0 caps0 hf;simp only[bp,dT] at kJ;obtain ⟨rfl,rfl⟩:=kJ;have hx:=hρ f;rw[hf] at hx
    obtain ⟨cv,hev,hl,hv⟩:∃cv,a.eval f=.func (.func f0) #[] cv/\caps0.length=cv.size/\∀j,j<caps0.length->V w g (caps0.getD j .any) (cv.getD j undef):=by
     generalize a.eval f=y at hx
     cases hx with
     | fn _ _ vs hl hv=>exact ⟨vs,rfl,hl,hv⟩
    obtain ⟨q1,q2⟩:=qhO hρ c.args caps0 cv hl hv;obtain ⟨v,m1,fn,hK,q8,S2,CP⟩:=qe7 hC hI h hm hB q1 q2
    refine ⟨v,m1,hK,fun next Q hn=>?_⟩
    refine qkp bh hc hev q8 (hC.name _ _ q8) S2 CP ?_;rintro e w' ⟨v',g',rfl,s,eR,hV⟩;exact ⟨v',rfl,hn a v' w' g' rfl (fun _=>rfl) (ij.refl _ _) s eR hV⟩
   .cases kJ
  .rename_i b hc
   have one:∀{x},c.args.toList.map ρ=[x]->∃x',c.args.map a.eval = #[x']/\V w g x x':=by
    intro x j0
    match hca:c.args.toList,j0 with
    | [p],j0=>
     simp at j0;have:c.args = #[p]:=by cases tA:c.args;simp_all
     exact ⟨a.eval p,by simp[this],j0▸hρ p⟩
   have two:∀{x y},c.args.toList.map ρ=[x,y]->∃x' y',c.args.map a.eval = #[x',y']/\V w g x x'/\V w g y y':=by
    intro x y j0
    match hca:c.args.toList,j0 with
    | [p,q],j0=>
     simp at j0;have:c.args = #[p,q]:=by cases tA:c.args;simp_all
     exact ⟨a.eval p,a.eval q,by simp[this],j0.1▸hρ p,j0.2▸hρ q⟩
   unfold xH at h
   split at h
   .rename_i x j0;obtain ⟨x',pR,hx⟩:=one j0
    split at h
    .rename_i e ht;simp only[aS] at h ht;obtain ⟨v,hv,h⟩:=h;obtain ⟨t,mR,oN⟩:=ht;exact ⟨_,_,h,.same hm (Ut hx hv c.argTypes t o.type mR ⟨e,oN⟩) fun w=>by simp[execOp,bh,resolve,hc,invoke,builtin,pR]⟩
    .rename_i ht;simp only[aS] at h ht;obtain ⟨v,hv,h⟩:=h;obtain ⟨t,mR,oN⟩:=ht;exact ⟨_,_,h,.same hm (Ut hx hv c.argTypes t o.type mR oN) fun w=>by simp[execOp,bh,resolve,hc,invoke,builtin,pR]⟩
    .cases h
   .rename_i x y j0;obtain ⟨x',y',pR,hx,hy⟩:=two j0;simp only[aS] at h;obtain ⟨v,hv,h⟩:=h;have:=UK (P:=C.P) hx hy hv;simp only[eC] at this;exact ⟨_,_,h,.same hm this fun w=>by simp[execOp,bh,resolve,hc,invoke,builtin,pR,Builtin.max_]⟩
   .rename_i x y j0;obtain ⟨x',y',pR,hx,hy⟩:=two j0;simp only[aS] at h;obtain ⟨v,hv,h⟩:=h;have:=UK (P:=C.P) hx hy hv;simp only[ko,j6] at this;exact ⟨_,_,h,.same hm this fun w=>by simp[execOp,bh,resolve,hc,invoke,builtin,pR,Builtin.min_]⟩
   .rename_i x y j0;obtain ⟨x',y',pR,hx,hy⟩:=two j0
    split at h
    .rename_i t t' ht Mk
     split at h
     .rename_i heq;subst heq
      split at h
      .rename_i e he
       split at h
       .rename_i sh bO
        split at h
        .rename_i mN;simp only[aS] at h;obtain ⟨⟨v,m1⟩,hv,h⟩:=h
         have hte:C.P.underlying t=some (.slice e):=by
          unfold Af at he
          split at he
          .simp at he;subst he;assumption
          .cases he
         have iP:=qX (by simp[nt,bh,hc]);have hd:=qdn (P:=C.P) (ty:=o.type) hm hB iP hte bO mN hx hy hv;refine ⟨_,_,h,.done hd fun w=>?_⟩
         have kO:Builtin.append_ c.argTypes o.type #[x',y']=Builtin.append_ #[t,t] o.type #[x',y']:=by
          unfold Builtin.append_;simp[ht,Mk]
         simp[execOp,bh,resolve,hc,invoke,builtin,pR,kO]
        .cases h
       .cases h
      .cases h
     .cases h
    .cases h
   .cases h
  .cases h
 .rename_i t n bh
  split at h
  .split at h
   .rename_i kk e pw;exact ⟨_,_,h,.done (qhL hm hB pw) fun w=>by simp[execOp,bh]⟩
   .cases h
  .cases h
 .rename_i t x i ok bh
  split at h
  .rename_i kk e pw
   split at h
   .rename_i z hz;simp only[aS] at h;obtain ⟨⟨v,b⟩,hl,h⟩:=h;obtain ⟨v',hV,r1,r2⟩:=qhI hm (hρ x) (hρ i) pw hz hl
    split at h
    .exact ⟨_,_,h,.same hm ⟨_,r1,.tup _ _ rfl (fun j hj=>by
      match j,hj with
      | 0,_=>exact hV
      | 1,_=>exact .bool _)⟩ fun w=>by simp[execOp,bh]⟩
    .exact ⟨_,_,h,.same hm ⟨_,r2,hV⟩ fun w=>by simp[execOp,bh]⟩
   .cases h
  .cases h
 .rename_i t x i y bh
  split at h
  .rename_i kk e pw;simp only[aS] at h;obtain ⟨m1,hu,h⟩:=h
   refine ⟨_,_,h,fun next Q hn=>?_⟩
   obtain ⟨w',h1,h2,h3⟩:=Xg hm (hρ x) (hρ i) (hρ y) pw hu;have hr:(execOp a.eval o).run C.P w=.ok .skip w':=by simp[execOp,bh,h1]
   unfold Oper.wp;rw[hr];exact hn a undef w' g rfl (fun _=>rfl) (ij.refl _ _) h2 h3 (.any _)
  .cases h
 .rename_i t x i y bh
  split at h
  .rename_i kk e pw;simp only[aS] at h;obtain ⟨m1,hu,h⟩:=h
   refine ⟨_,_,h,fun next Q hn=>?_⟩
   obtain ⟨w',h1,h2,h3⟩:=Xg hm (hρ x) (hρ i) (hρ y) pw hu;have hr:(execOp a.eval o).run C.P w=.ok .skip w':=by simp[execOp,bh,h1]
   unfold Oper.wp;rw[hr];exact hn a undef w' g rfl (fun _=>rfl) (ij.refl _ _) h2 h3 (.any _)
  .cases h
 .rename_i c bh
  split at h
  .rename_i fo hc
   split at h
   .rename_i pR;simp only[aS] at h;obtain ⟨⟨f,cs⟩,kJ,h⟩:=h
    split at h
    .rename_i qgp
     refine ⟨_,_,h,fun next Q hn=>?_⟩
     have hf:=hρ fo;unfold xU at kJ
     split at kJ
     .rename_i f' cs' hx;simp only[bp,dT] at kJ;obtain ⟨rfl,rfl⟩:=kJ;rw[hx] at hf;generalize yi:a.eval fo=fv at hf
      cases hf with
      | fn _ _ caps _ _=>
       have qgq:c.args = #[]:=by simpa using pR
       have hr:(execOp a.eval o).run C.P w=.ok (.defer { target:=.fn (.func f') caps,args:=#[] }) w:=by
        simp only[execOp,bh,resolve,hc,yi,Deferred.ofValue,qgq,Sem.run_bind,Sem.run_pure,Result.andThen_ok,Array.map_empty,Array.empty_append,Array.append_empty]
       unfold Oper.wp;rw[hr]
       exact hn { a with defers:={ target:=.fn (.func f') caps,args:=#[] } :: a.defers } undef w g rfl (fun aE=>absurd bh (aE _)) (fun hb d hd=>by
        rcases dI.1 hd with rfl|hd
        .exact hC.ben _ qgp caps
        .exact hb d hd) (Step.refl _ _ _) hm (.any _)
     .cases kJ
    .cases h
   .cases h
  .cases h
 .cases h
end
end Go.Ab
namespace Go.Ab
section
variable {R:Type} {C:Cfg} {fid:Nat} {callP:Nat->List AV->Option AV} {callI:Nat->List AV->ae->OM}
def ep(C:Cfg)(fid:Nat)(callP:Nat->List AV->Option AV)(callI:Nat->List AV->ae->OM)(d:Option Nat)(o:Oper)(ρ:Operand->AV)(m:ae):OM:=jr C fid callP callI d o ρ m fun v m=>some (v,m)
theorem Vi(d:Option Nat)(o:Oper)(ρ:Operand->AV)(m:ae)(K:AV->ae->Option R):jr C fid callP callI d o ρ m K=(ep C fid callP callI d o ρ m).bind fun r=>K r.1 r.2:=by
 unfold ep jr
 split<;>first
  | rfl
  | (simp only[B2,aa];done)
  | ((repeat' split)<;>first|rfl|(simp only[B2,aa];done)|skip)
 .simp only[B2];congr 1;funext gc;unfold nK
  (repeat' split)<;>first|rfl|(simp only[B2,aa];done)
 .unfold xH
  (repeat' split)<;>first|rfl|(simp only[B2,aa];done)
 .simp only[B2];congr 1;funext gc;split<;>rfl
theorem MJ{ρ ρ':Operand->AV}(xs:Array Operand)(h:∀x∈xs,ρ x=ρ' x):xs.toList.map ρ=xs.toList.map ρ':=List.map_congr_left fun x hx=>h x (by simpa using hx)
theorem qie{d:Option Nat}{o:Oper}{ρ ρ':Operand->AV}{m:ae}(h:∀x∈o.op.operands,ρ x=ρ' x):ep C fid callP callI d o ρ m=ep C fid callP callI d o ρ' m:=by
 unfold ep jr;cases bh:o.op<;>simp only[bh,Op.operands] at h<;>simp only[]
 case move x=>rw[h x (by simp)]
 case assign x=>rw[h x (by simp)]
 case pick c a b=>rw[h c (by simp),h a (by simp),h b (by simp)]
 case box t x=>rw[h x (by simp)]
 case build t ps=>
  have:ps.toList.mapM (fun p=>(yU C.P t p.1).map fun f=>(f.1,f.2,ρ p.2))=ps.toList.mapM (fun p=>(yU C.P t p.1).map fun f=>(f.1,f.2,ρ' p.2)):=by
   have L7:∀p∈ps.toList,ρ p.2=ρ' p.2:=fun p hp=>h p.2 (by simp;exact ⟨p.1,by simpa using hp⟩);generalize ps.toList=l at L7
   induction l with
   | nil=>rfl
   | cons p l ih=>
    simp only[List.mapM_cons];rw[L7 p (by simp),ih fun q hq=>L7 q (by simp[hq])]
  rw[this]
 case buildSlice t n ps=>
  have:(ps.toList.map fun p=>ρ p.2)=ps.toList.map fun p=>ρ' p.2:=List.map_congr_left fun p hp=>h p.2 (by simp;exact ⟨p.1,by simpa using hp⟩);rw[this]
 case load t x=>rw[h x (by simp)]
 case store t x y=>rw[h x (by simp),h y (by simp)]
 case nilCheck x=>rw[h x (by simp)]
 case binOp op t x y ty=>rw[h x (by simp),h y (by simp)]
 case unOp op t x=>rw[h x (by simp)]
 case convert s t x=>rw[h x (by simp)]
 case makeFunc fn fi cs=>
  rw[MJ cs fun x hx=>h x (by simp[hx])]
 case makeSlice t l c=>rw[h l (by simp),h c (by simp)]
 case slice t x lo hi mx=>
  have h1:lo.map ρ=lo.map ρ':=by cases lo with|none=>rfl|some y=>simp only[ar];rw[h y (by simp)]
  have h2:hi.map ρ=hi.map ρ':=by cases hi with|none=>rfl|some y=>simp only[ar];rw[h y (by simp)]
  have h3:mx.map ρ=mx.map ρ':=by cases mx with|none=>rfl|some y=>simp only[ar];rw[h y (by simp)]
  rw[h1,h2,h3,h x (by simp)]
 case fieldAddr t x f=>rw[h x (by simp)]
 case field t x f=>rw[h x (by simp)]
 case indexAddr t x i=>rw[h x (by simp),h i (by simp)]
 case index t x i=>rw[h x (by simp),h i (by simp)]
 case extract x i=>rw[h x (by simp)]
 case lookup t x i ok=>rw[h x (by simp),h i (by simp)]
 case mapUpdate t x i y=>rw[h x (by simp),h i (by simp),h y (by simp)]
 case insert t x i y=>rw[h x (by simp),h i (by simp),h y (by simp)]
 case defer c=>
  cases hc:c.callee with
  | value f=>
   simp only[Call.operands,hc] at h;simp only[];rw[h f (by simp)]
  | _=>rfl
 case call c=>
  cases hc:c.callee with
  | value f=>
   simp only[Call.operands,hc] at h;rw[MJ c.args fun x hx=>h x (by simp[hx])];simp only[];rw[h f (by simp)]
  | builtin b=>
   simp only[Call.operands,hc] at h;rw[MJ c.args fun x hx=>h x (by simp[hx])]
  | invoke r n=>rfl
def pJ(m m':ae):Prop:=(∀nm o,m.obj? nm=some o->m'.obj? nm=some o)/\∀nm kk es,m.get nm=some (.mp kk es)->m'.get nm=some (.mp kk es)
theorem pJ.refl(m:ae):pJ m m:=⟨fun _ _ h=>h,fun _ _ _ h=>h⟩
theorem MI{f f':AV->Option (AV×List Nat)}(h:∀x r,f x=some r->f' x=some r):∀(cs:List AV) r,bJ f cs=some r->bJ f' cs=some r
 | [],r,hr=>hr
 | c::cs,r,hr=>by
  simp only[bJ,aS,gm] at hr ⊢;obtain ⟨x,hx,y,hy,rfl⟩:=hr;exact ⟨x,h _ _ hx,y,MI h cs y hy,rfl⟩
theorem qf9{m m':ae}(h:pJ m m'):∀(k:Nat) (x:AV) r,frz m k x=some r->frz m' k x=some r:=by
 intro k
 induction k with
 | zero=>intro x r hr;simp[frz] at hr
 | succ k ih=>
  intro x r hr;have hm:=MI ih
  cases x<;>simp only[frz] at hr ⊢<;>try exact hr
  .simp only[aS] at hr ⊢;obtain ⟨o,ho,hr⟩:=hr;refine ⟨o,h.1 _ _ ho,?_⟩
   split at hr
   .rename_i hc;rw[aj hc];simp only[aS] at hr ⊢;obtain ⟨y,hy,hr⟩:=hr;exact ⟨y,hm _ _ hy,hr⟩
   .cases hr
  .simp only[aS] at hr ⊢;obtain ⟨o,ho,hr⟩:=hr;refine ⟨o,h.1 _ _ ho,?_⟩
   split at hr
   .rename_i hc;rw[aj hc];simp only[gm] at hr ⊢;obtain ⟨y,hy,hr⟩:=hr;exact ⟨y,hm _ _ hy,hr⟩
   .cases hr
  all_goals
   simp only[gm] at hr ⊢;obtain ⟨y,hy,hr⟩:=hr;exact ⟨y,hm _ _ hy,hr⟩
theorem KB(x:Option AV)(m:ae):(x.bind fun v=>some (v,m))=((x.bind fun v=>some (v,([]:ae))).map fun r=>(r.1,m)):=by cases x<;>rfl
theorem Vc{d:Option Nat}{o:Oper}{ρ:Operand->AV}(hc:iM o=.N)(m:ae):ep C fid callP callI d o ρ m=(ep C fid callP callI d o ρ []).map fun r=>(r.1,m):=by
 unfold ep jr;unfold iM at hc
 cases bh:o.op<;>simp only[bh] at hc ⊢<;>first
  | (cases hc;done)
  | rfl
  | exact KB _ _
  | ((repeat' split)<;>first|rfl|exact KB _ _|skip)
 .rename_i c _ f ph;rw[ph] at hc;cases hc
 .rename_i c _ b ph;rw[ph] at hc;unfold xH
  (repeat' split)<;>first|rfl|exact KB _ _|skip
  all_goals (simp at hc)
theorem AO{d:Option Nat}{o:Oper}{ρ:Operand->AV}{m m1:ae}{v:AV}(hc:iM o=.N)(h:ep C fid callP callI d o ρ m=some (v,m1)):m1=m/\∀m',ep C fid callP callI d o ρ m'=some (v,m'):=by
 rw[Vc hc] at h;obtain ⟨r,hr,h⟩:=gm.1 h;simp only[dT] at h;obtain ⟨rfl,rfl⟩:=h;exact ⟨rfl,fun m'=>by rw[Vc hc,hr];rfl⟩
theorem qhU{m m':ae}(hx:∀nm kk es,m.get nm=some (.mp kk es)->m'.get nm=some (.mp kk es)){kk:KK}{x:AV}{q:Nat×List (AV×AV)}(h:vd m kk x=some q):vd m' kk x=some q:=by
 unfold vd at h ⊢
 split at h
 .split at h
  .rename_i hg;rw[hx _ _ _ hg];exact h
  .cases h
 .cases h
theorem Vf{s:Option Nat}{o:Oper}{ρ:Operand->AV}{m m1:ae}{v:AV}{t:Nat}{x i:Operand}{ok:Bool}(bh:o.op=.lookup t x i ok)(h:ep C fid callP callI s o ρ m=some (v,m1)) :
  m1=m/\∀s' m',(∀nm kk es,m.get nm=some (.mp kk es)->m'.get nm=some (.mp kk es))->ep C fid callP callI s' o ρ m'=some (v,m'):=by
 unfold ep jr at h ⊢;simp only[bh] at h ⊢
 split at h
 .rename_i kk e pw
  split at h
  .rename_i z hz;simp only[aS] at h;obtain ⟨r,hr,h⟩:=h;unfold Dv at hr;simp only[aS] at hr;obtain ⟨q,hq,hr⟩:=hr
   have hm:m1=m:=by
    split at h<;>(simp only[bp,dT] at h;exact h.2.symm)
   refine ⟨hm,fun s' m' hx=>?_⟩;unfold Dv;rw[qhU hx hq];simp only[aa,hr];split at h<;>(simp only[bp,dT] at h;rw[h.1])
  .cases h
 .cases h
theorem M0{s:Nat}{o:Oper}{ρ:Operand->AV}{m m1:ae}{v:AV}(hc:iM o=.L)(h:ep C fid callP callI (some s) o ρ m=some (v,m1)):m1=m/\∀s' m',pJ m m'->ep C fid callP callI (some s') o ρ m'=some (v,m'):=by
 unfold ep jr at h ⊢;unfold iM at hc
 cases bh:o.op<;>simp only[bh] at hc h ⊢<;>first|(cases hc;done)|skip
 case load t x=>
  split at h
  .rename_i sh bO;simp only[aS,bp,dT] at h;obtain ⟨u,hu,rfl,rfl⟩:=h;refine ⟨rfl,fun s' m' hx=>?_⟩
   have:ai sh m' (ρ x)=some u:=by
    unfold ai at hu ⊢
    split at hu
    .exact hu
    .simp only[aS] at hu ⊢;obtain ⟨o,ho,hu⟩:=hu;exact ⟨o,hx.1 _ _ ho,hu⟩
    .cases hu
   simp[this]
  .cases h
 case lookup t x i ok=>
  have h':ep C fid callP callI (some s) o ρ m=some (v,m1):=by unfold ep jr;simp only[bh];exact h
  obtain ⟨h1,h2⟩:=Vf bh h';refine ⟨h1,fun s' m' hx=>?_⟩;have:=h2 (some s') m' hx.2;unfold ep jr at this;simpa only[bh] using this
 case call c=>
  split at hc<;>first|(cases hc;done)|skip
  rename_i f oJ;simp only[oJ] at h ⊢;simp only[aS] at h ⊢;obtain ⟨gc,hgc,h⟩:=h
  have key:m1=m/\∀s' m',pJ m m'->nK C fid callP callI (some s') gc.1 (List.map ρ c.args.toList++gc.2) m' (fun v m=>some (v,m))=some (v,m'):=by
   unfold nK at h ⊢
   cases oL:C.libm gc.1 with
   | some hh=>rw[oL] at h;cases h
   | none=>
   rw[oL] at h;simp only at h ⊢
   split at h
   .rename_i hh GY;simp only[aS,bp,dT] at h;obtain ⟨u,hu,rfl,rfl⟩:=h;exact ⟨rfl,fun s' m' hx=>by simp[GY,hu]⟩
   .rename_i GY
    split at h
    .simp at h
    .rename_i qku;simp only[aS] at h;obtain ⟨⟨u,mu⟩,hp,h⟩:=h;simp only[bp,dT] at h;obtain ⟨rfl,rfl⟩:=h;unfold ao at hp;simp only[aS] at hp;obtain ⟨⟨rs,l⟩,hf,hp⟩:=hp
     split at hp
     .cases hp
     .rename_i hk;simp only[gm,dT] at hp;obtain ⟨u',hu,rfl,rfl⟩:=hp;have hl:l=[]:=by simpa using hk
      subst hl;refine ⟨rfl,fun s' m' hx=>?_⟩;have:=MI (qf9 hx eo) _ _ hf
      have hpc:ao callP (some s') m' gc.1 (List.map ρ c.args.toList++gc.2)=some (u',m'):=by
       unfold ao;simp only[this,aa,List.isEmpty_nil,gk,Bool.and_false,ko,j6,hu]
       rfl
      rw[hpc]
      rfl
  exact ⟨key.1,fun s' m' hx=>⟨gc,hgc,key.2 s' m' hx⟩⟩
theorem vg(s:Nat)(m:ae)(e:Ent):ak (some s) m e=(s,m.set s (some e)):=rfl
theorem HF{s:Nat}{o:Oper}{ρ:Operand->AV}{m m1:ae}{v:AV}(hc:iM o=.A)(h:ep C fid callP callI (some s) o ρ m=some (v,m1)):∃e,m1=m.set s (some e)/\∀m',ep C fid callP callI (some s) o ρ m'=some (v,m'.set s (some e)):=by
 unfold ep jr at h ⊢;unfold iM at hc
 cases bh:o.op<;>simp only[bh] at hc h ⊢<;>first|(cases hc;done)|skip
 case alloc t=>
  split at h
  .rename_i z hz;simp only[vg,bp,dT] at h;obtain ⟨rfl,rfl⟩:=h;exact ⟨_,rfl,fun m'=>rfl⟩
  .cases h
 case box t x=>
  split at h
  .rename_i sh bO;simp only[aS] at h;obtain ⟨r,hr,h⟩:=h;unfold ef at hr ⊢
   split at hr
   .rename_i bI;simp only[vg,bp] at hr;subst hr;simp only[bp,dT] at h;obtain ⟨rfl,rfl⟩:=h;exact ⟨_,rfl,fun m'=>by simp[bI,vg]⟩
   .cases hr
  .cases h
 case makeSlice t l c=>
  split at h
  .rename_i e he
   split at h
   .rename_i sh z bO hz
    split at h
    .rename_i kI;simp only[aS] at h;obtain ⟨r,hr,h⟩:=h;simp only[bp,dT] at h;obtain ⟨rfl,rfl⟩:=h
     cases og:C.tokm fid with
     | true=>rw[og] at hr;simp[yI] at hr
     | false=>
     rw[og] at hr;simp only at hr;unfold jM at hr
     split at hr
     .rename_i kl l' kc c' hl kG
      split at hr
      .rename_i mN
       split at hr
       .rename_i heq;simp only[vg,bp] at hr;subst hr;exact ⟨_,rfl,fun m'=>by rw[aj kI];simp only[jM,hl,kG,aj mN,aj heq,vg,aa]⟩
       .rename_i aE
        split at hr
        .rename_i h0;simp only[vg,bp] at hr;subst hr;exact ⟨_,rfl,fun m'=>by rw[aj kI];simp only[jM,hl,kG,aj mN,ag aE,aj h0,vg,aa]⟩
        .cases hr
      .cases hr
     .cases hr
    .cases h
   .cases h
  .cases h
 case call c=>
  split at hc<;>cases hc
theorem KX{m:ae}{s:Nat}{e:Option Ent}(h:∀bx cs,m.get s≠some (.obj bx cs))(h':∀kk es,m.get s≠some (.mp kk es)):pJ m (m.set s e):=by
 refine ⟨?_,fun nm kk es hg=>by
  rw[fJ,ag (fun he:nm=s=>by subst he;exact h' kk es hg)];exact hg⟩
 intro nm o ho;unfold ae.obj? at ho ⊢;rw[fJ]
 by_cases hs:nm=s
 .subst hs
  split at ho
  .rename_i hh;exact absurd hh (h _ _)
  .cases ho
 .rw[ag hs];exact ho
theorem qid{s:Nat}{o:Oper}{ρ:Operand->AV}{m m1:ae}{v:AV}(hc:iM o=.Ap)(hs:m.get s=some .resv)(h:ep C fid callP callI (some s) o ρ m=some (v,m1)):pJ m m1:=by
 have yz:∀e,pJ m (m.set s e):=fun e=>KX (fun bx cs hh=>by rw[hs] at hh;cases hh) (fun kk es hh=>by rw[hs] at hh;cases hh);unfold ep jr at h;unfold iM at hc
 cases bh:o.op<;>simp only[bh] at hc h<;>first|(cases hc;done)|skip
 case call c=>
  split at hc<;>first|(cases hc;done)|skip
  rename_i oJ;simp only[oJ] at h;unfold xH at h;split at h
  all_goals first|(rename_i hb _;cases hb;done)|skip
  .split at h
   .split at h
    .split at h
     .split at h
      .split at h
       .simp only[aS,bp,dT] at h;obtain ⟨r,hr,rfl,rfl⟩:=h;unfold eG at hr
        split at hr
        .split at hr
         .simp only[bp] at hr;subst hr;exact pJ.refl m
         .split at hr
          .split at hr
           .split at hr
            .cases hr
            .split at hr
             .split at hr<;>(simp only[vg,bp] at hr;subst hr;exact yz _)
             .cases hr
            .split at hr
             .split at hr
              .rename_i nm e' k sz aQ
               split at hr
               .simp only[bp] at hr;subst hr;exact KX (fun bx cs hh=>by rw[aQ] at hh;cases hh) (fun kk es hh=>by rw[aQ] at hh;cases hh)
               .cases hr
              .cases hr
             .cases hr
           .cases hr
          .cases hr
        .simp[rT] at hr
       .cases h
      .cases h
     .cases h
    .cases h
   .cases h
  .cases h
end
end Go.Ab
namespace Go.Ab
section
variable {R:Type} (C:Cfg) (fid:Nat) (callP:Nat->List AV->Option AV) (callI:Nat->List AV->ae->OM)
def eZ(base:Option Nat)(ops:Array Oper)(i:Nat)(o:Oper)(ts:List AV)(m:ae):OM:=match o.guard with
 | none=>ep C fid callP callI (base.map (· + eE ops i)) o (ev ts) m
 | some (j,want)=>match (ops[j]?).bind (·.dst) with
  | none=>none
  | some g=>match rv ops ts j with
   | true=>match ts.getD g .any with
    | .tup cs=>match cs with
     | []=>some (.tup [],m)
     | _::_=>none
    | _=>none
   | false=>match ts.getD g .any with
    | .bool b=>if b=want then ep C fid callP callI (base.map (· + eE ops i)) o (ev ts) m else some (.tup [],m)
    | _=>none
def bK(base:Option Nat)(ops:Array Oper)(i:Nat)(st:St):Option St:=match ops[i]? with
 | none=>none
 | some o=>(eZ C fid callP callI base ops i o st.tmps st.mem).map fun r=>⟨ee st.tmps o.dst r.1,r.2⟩
def fc(base:Option Nat)(ops:Array Oper):List Nat->St->Option St
 | [],st=>some st
 | i::l,st=>(bK C fid callP callI base ops i st).bind (fc base ops l)
end
section
variable {R:Type} {C:Cfg} {fid:Nat} {callP:Nat->List AV->Option AV} {callI:Nat->List AV->ae->OM}
theorem qjk{ts:List AV}{g:Nat}{v:AV}(h:ts.getD g .any=v)(hv:v≠.any):ts.set g v=ts:=by
 rcases tj g ts.length with hl|hl
 .rw[bA,jR hl] at h;simp only[nZ] at h;rw[<- h];exact List.set_getElem_self hl
 .rw[bA,iC hl] at h;exact absurd h.symm hv
theorem qh(base:Option Nat)(ops:Array Oper):∀(l:List Nat) (st:St) (K:St->Option R),kR C fid callP callI base ops l st K=(fc C fid callP callI base ops l st).bind K
 | [],st,K=>rfl
 | i::l,st,K=>by
  have ih:=qh base ops l;simp only[kR,fc,bK]
  cases hi:ops[i]? with
  | none=>rfl
  | some o=>
   simp only[]
   cases hg:o.guard with
   | none=>
    simp only[eZ,hg];rw[Vi];simp only[ih]
    cases ep C fid callP callI (base.map (· + eE ops i)) o (ev st.tmps) st.mem with
    | none=>rfl
    | some r=>rfl
   | some jw=>
    obtain ⟨j,want⟩:=jw;simp only[eZ,hg]
    cases hd:(ops[j]?).bind (·.dst) with
    | none=>rfl
    | some g=>
     simp only[];generalize hv:st.tmps.getD g .any=v
     cases rv ops st.tmps j with
     | true=>
      simp only[]
      cases v with
      | tup cs=>
       cases cs with
       | nil=>simp only[ih];rfl
       | cons c cs=>rfl
      | _=>rfl
     | false=>
     simp only[]
     cases v with
     | bool b=>
      have hs:=qjk hv (by simp)
      have jY:∀b0,st.tmps.set g (.bool b0)=st.tmps->(jr C fid callP callI (base.map (· + eE ops i)) o (ev (st.tmps.set g (.bool b0))) st.mem fun v m=>kR C fid callP callI base ops l ⟨ee (st.tmps.set g (.bool b0)) o.dst v,m⟩ K) =
        (((ep C fid callP callI (base.map (· + eE ops i)) o (ev st.tmps) st.mem).map fun r=>(⟨ee st.tmps o.dst r.1,r.2⟩:St)).bind (fc C fid callP callI base ops l)).bind K:=by
       intro b0 qz;rw[qz,Vi];simp only[ih]
       cases ep C fid callP callI (base.map (· + eE ops i)) o (ev st.tmps) st.mem with
       | none=>rfl
       | some r=>rfl
      have uX:∀b0,st.tmps.set g (.bool b0)=st.tmps->kR C fid callP callI base ops l ⟨ee (st.tmps.set g (.bool b0)) o.dst (.tup []),st.mem⟩ K =
        (((some (AV.tup [],st.mem)).map fun r=>(⟨ee st.tmps o.dst r.1,r.2⟩:St)).bind (fc C fid callP callI base ops l)).bind K:=by
       intro b0 qz;rw[qz];simp only[ih]
       rfl
      cases want<;>cases b
      .exact jY false hs
      .exact uX true hs
      .exact uX false hs
      .exact jY true hs
     | _=>cases want<;>rfl
theorem KV{ts ts':List AV}(x:Operand)(h:∀t,x=.tmp t->ts.getD t .any=ts'.getD t .any):ev ts x=ev ts' x:=by
 cases x with
 | tmp t=>exact h t rfl
 | _=>rfl
theorem yR{base:Option Nat}{ops:Array Oper}{i:Nat}{o:Oper}{ts ts':List AV}{m:ae}(h:∀t∈py ops o,ts.getD t .any=ts'.getD t .any):eZ C fid callP callI base ops i o ts m=eZ C fid callP callI base ops i o ts' m:=by
 have h1:ep C fid callP callI (base.map (· + eE ops i)) o (ev ts) m=ep C fid callP callI (base.map (· + eE ops i)) o (ev ts') m:=by
  refine qie fun x hx=>KV x fun t ht=>h t ?_;unfold py;refine kT.2 (.inl (List.mem_filterMap.2 ⟨x,by simpa using hx,?_⟩));rw[ht]
 unfold eZ
 cases hg:o.guard with
 | none=>exact h1
 | some jw=>
  obtain ⟨j,want⟩:=jw;simp only[]
  cases hd:(ops[j]?).bind (·.dst) with
  | none=>rfl
  | some g=>
   simp only[];have h2:ts.getD g .any=ts'.getD g .any:=h g (by unfold py;rw[hg];simp[hd])
   have h3:rv ops ts j=rv ops ts' j:=by
    unfold rv
    cases hq:(ops[j]?).bind (·.guard) with
    | none=>rfl
    | some jw'=>
     obtain ⟨j',w'⟩:=jw';simp only[]
     cases gB:(ops[j']?).bind (·.dst) with
     | none=>rfl
     | some g'=>
      simp only[];have h4:ts.getD g' .any=ts'.getD g' .any:=h g' (by unfold py;rw[hg];simp[hq,gB]);rw[h4]
   rw[h2,h1,h3]
theorem vr{ts:List AV}{d:Option Nat}{v:AV}{t:Nat}(h:d≠some t):(ee ts d v).getD t .any=ts.getD t .any:=by
 cases d with
 | none=>rfl
 | some d=>
  have:d≠t:=fun he=>h (by rw[he]);simp[ee,bA,zK,this]
theorem NG{ts:List AV}{d e:Option Nat}{v u:AV}(h:d=none\/d≠e):ee (ee ts d v) e u=ee (ee ts e u) d v:=by
 cases d with
 | none=>rfl
 | some d=>
  cases e with
  | none=>rfl
  | some e=>
   have:d≠e:=fun he=>by rcases h with h|h<;>simp_all
   exact List.set_comm _ _ this
theorem om{base:Option Nat}{ops:Array Oper}{i:Nat}{o:Oper}{ts:List AV}{m m1:ae}{v:AV}(h:eZ C fid callP callI base ops i o ts m=some (v,m1)) :
  (ep C fid callP callI (base.map (· + eE ops i)) o (ev ts) m=some (v,m1)/\∀m',eZ C fid callP callI base ops i o ts m'=ep C fid callP callI (base.map (· + eE ops i)) o (ev ts) m') \/
  (m1=m/\∀m',eZ C fid callP callI base ops i o ts m'=some (v,m')):=by
 unfold eZ at h ⊢
 cases hg:o.guard with
 | none=>simp only[hg] at h;exact .inl ⟨h,fun _=>rfl⟩
 | some jw=>
  obtain ⟨j,want⟩:=jw;simp only[hg] at h ⊢
  cases hd:(ops[j]?).bind (·.dst) with
  | none=>simp[hd] at h
  | some g=>
   simp only[hd] at h ⊢
   cases oa:rv ops ts j with
   | true=>
    simp only[oa] at h ⊢
    cases hv:ts.getD g .any with
    | tup cs=>
     simp only[hv] at h ⊢
     cases cs with
     | nil=>
      simp only[bp,dT] at h;obtain ⟨rfl,rfl⟩:=h;exact .inr ⟨rfl,fun m'=>rfl⟩
     | cons c cs=>simp only at h;cases h
    | _=>simp only[hv] at h;cases h
   | false=>
   simp only[oa] at h ⊢
   cases hv:ts.getD g .any with
   | bool b=>
    simp only[hv] at h ⊢
    by_cases hb:b=want
    .rw[aj hb] at h;exact .inl ⟨h,fun _=>by rw[aj hb]⟩
    .rw[ag hb] at h;simp only[bp,dT] at h;obtain ⟨rfl,rfl⟩:=h;exact .inr ⟨rfl,fun m'=>by rw[ag hb]⟩
   | _=>simp only[hv] at h;cases h
theorem qig{s:Nat}{o:Oper}{ρ:Operand->AV}{m m1:ae}{v:AV}(h:ep C fid callP callI (some s) o ρ m=some (v,m1))(x:Nat)(hx:m.get x=some .resv):(x=s/\nt o=true)\/m1.get x=some .resv:=by
 have tI:∀e,nt o=true->(x=s/\nt o=true)\/ae.get (m.set s e) x=some .resv:=fun e kL=>by
  by_cases De:x=s
  .exact .inl ⟨De,kL⟩
  .exact .inr (by rw[fJ,ag De];exact hx)
 cases hc:iM o with
 | N=>obtain ⟨rfl,_⟩:=AO hc h;exact .inr hx
 | L=>obtain ⟨rfl,_⟩:=M0 hc h;exact .inr hx
 | A=>
  obtain ⟨e,rfl,_⟩:=HF hc h;refine tI _ ?_;unfold iM at hc;unfold nt
  cases bh:o.op<;>simp only[bh] at hc<;>first|rfl|(cases hc;done)|(split at hc<;>cases hc)
 | Ap=>
  have kL:nt o=true:=by
   unfold iM at hc;unfold nt
   cases bh:o.op<;>simp only[bh] at hc<;>first|(cases hc;done)|skip
   split at hc<;>first|(cases hc;done)|skip
   rename_i oJ;simp[oJ]
  unfold ep jr at h;unfold iM at hc
  cases bh:o.op<;>simp only[bh] at hc h<;>first|(cases hc;done)|skip
  case call c=>
   split at hc<;>first|(cases hc;done)|skip
   rename_i oJ;simp only[oJ] at h;unfold xH at h;split at h
   all_goals first|(rename_i hb _;cases hb;done)|skip
   .split at h
    .split at h
     .split at h
      .split at h
       .split at h
        .simp only[aS,bp,dT] at h;obtain ⟨r,hr,rfl,rfl⟩:=h;unfold eG at hr
         split at hr
         .split at hr
          .simp only[bp] at hr;subst hr;exact .inr hx
          .split at hr
           .split at hr
            .split at hr
             .cases hr
             .split at hr
              .split at hr<;>(simp only[vg,bp] at hr;subst hr;exact tI _ kL)
              .cases hr
             .split at hr
              .split at hr
               .rename_i nm e' k sz aQ
                split at hr
                .simp only[bp] at hr;subst hr;refine .inr ?_;simp only[];rw[fJ,ag (fun he=>by subst he;rw[aQ] at hx;cases hx)];exact hx
                .cases hr
               .cases hr
              .cases hr
            .cases hr
           .cases hr
         .simp[rT] at hr
        .cases h
       .cases h
      .cases h
     .cases h
    .cases h
   .cases h
 | W=>
  unfold ep jr at h;generalize rj C.P=mt at h;unfold iM at hc
  cases bh:o.op<;>simp only[bh] at hc h<;>first|(cases hc;done)|(cases h;done)|skip
  case store t y z=>
   split at h
   .rename_i sh bO;simp only[aS,bp,dT] at h;obtain ⟨m2,eL,rfl,rfl⟩:=h;unfold aA at eL
    split at eL
    .rename_i nm off _;simp only[aS] at eL;obtain ⟨ob,yr,eL⟩:=eL
     split at eL
     .split at eL
      .simp only[bp] at eL;subst eL;refine .inr ?_
       rw[fJ,ag (fun he=>by
        subst he;unfold ae.obj? at yr;rw[hx] at yr
        cases yr)]
       exact hx
      .cases eL
     .cases eL
    .cases eL
   .cases h
  case mapUpdate t y i z=>
   split at h
   .rename_i kk e _;simp only[aS,bp,dT] at h;obtain ⟨m2,hu,rfl,rfl⟩:=h;simp only[Bm,aS] at hu;obtain ⟨⟨nm,es⟩,kX,hu⟩:=hu;simp only at hu
    split at hu
    .simp only[bp] at hu;subst hu;refine .inr ?_
     rw[fJ,ag (fun he=>by
      subst he;unfold vd at kX
      split at kX
      .split at kX
       .rename_i hg
        split at kX
        .simp only[bp,dT] at kX;obtain ⟨rfl,rfl⟩:=kX;rw[hx] at hg;cases hg
        .cases kX
       .cases kX
      .cases kX)]
     exact hx
    .cases hu
   .cases h
  case insert t y i z=>
   split at h
   .rename_i kk e _;simp only[aS,bp,dT] at h;obtain ⟨m2,hu,rfl,rfl⟩:=h;simp only[Bm,aS] at hu;obtain ⟨⟨nm,es⟩,kX,hu⟩:=hu;simp only at hu
    split at hu
    .simp only[bp] at hu;subst hu;refine .inr ?_
     rw[fJ,ag (fun he=>by
      subst he;unfold vd at kX
      split at kX
      .split at kX
       .rename_i hg
        split at kX
        .simp only[bp,dT] at kX;obtain ⟨rfl,rfl⟩:=kX;rw[hx] at hg;cases hg
        .cases kX
       .cases kX
      .cases kX)]
     exact hx
    .cases hu
   .cases h
  case defer c=>
   split at h
   .split at h
    .simp only[aS] at h;obtain ⟨gc,_,h⟩:=h
     split at h
     .simp only[bp,dT] at h;rw[<- h.2];exact .inr hx
     .cases h
    .cases h
   .cases h
  case call c=>
   split at hc<;>first|(cases hc;done)|skip
   rename_i qgL L2 qgM qgN qgO
   split at h
   .rename_i f oJ;exact absurd oJ (qgO f)
   .rename_i b oJ;unfold xH at h
    split at h
    .exact absurd oJ qgL
    .exact absurd oJ L2
    .exact absurd oJ qgM
    .exact absurd oJ qgN
    .cases h
   .cases h
theorem VG{ops:Array Oper}{i j:Nat}{x y:Oper}(hi:ops[i]?=some x)(hj:ops[j]?=some y)(hmi:nt x=true)(LZ:nt y=true)(aE:i≠j):eE ops i≠eE ops j:=by
 have key:∀i j x,i<j->ops[i]?=some x->nt x=true->eE ops i<eE ops j:=by
  intro i j x aG hi hm
  have aU:i<ops.toList.length:=by
   have:=(eA.1 hi).1;simpa using this
  have h1:eE ops (i+1)=eE ops i+1:=by
   unfold eE
   have he:ops.toList[i]=x:=by
    have:=(eA.1 hi).2;simpa using this
   rw[Fk aU,List.filter_append,aK,he];simp[hm]
  have h2:eE ops (i+1)<=eE ops j:=by
   unfold eE;have:ops.toList.take (i+1)=(ops.toList.take j).take (i+1):=by rw[List.take_take];congr 1;omega
   rw[this];exact List.Sublist.length_le ((List.take_sublist _ _).filter _)
  omega
 rcases Nat.lt_or_gt_of_ne aE with h|h
 .exact Nat.ne_of_lt (key i j x h hi hmi)
 .exact Nat.ne_of_gt (key j i y h hj LZ)
def rI(ops:Array Oper)(b:Nat)(m:ae)(l:List Nat):Prop:=∀i∈l,∀o,ops[i]?=some o->nt o=true->m.get (b+eE ops i)=some .resv
theorem qE{base:Option Nat}{ops:Array Oper}{i:Nat}{st s1:St}(h:bK C fid callP callI base ops i st=some s1):∃o v m1,ops[i]?=some o/\eZ C fid callP callI base ops i o st.tmps st.mem=some (v,m1)/\s1=⟨ee st.tmps o.dst v,m1⟩:=by
 unfold bK at h
 cases hi:ops[i]? with
 | none=>simp[hi] at h
 | some o=>
  simp only[hi] at h;obtain ⟨⟨v,m1⟩,hr,rfl⟩:=gm.1 h;exact ⟨o,v,m1,rfl,hr,rfl⟩
theorem DV{b:Nat}{ops:Array Oper}{j:Nat}{st s1:St}{l:List Nat}(h:bK C fid callP callI (some b) ops j st=some s1)(hk:rI ops b st.mem l)(hj:j∉l):rI ops b s1.mem l:=by
 obtain ⟨o,v,m1,ho,hr,rfl⟩:=qE h;intro i hi x hx hm;have yz:=hk i hi x hx hm
 rcases om hr with ⟨hf,_⟩|⟨rfl,_⟩
 .rcases qig (s:=b+eE ops j) hf _ yz with ⟨he,G1⟩|h
  .exact absurd (by omega:eE ops i=eE ops j) (VG hx ho hm G1 (fun he=>hj (he▸hi)))
  .exact h
 .exact yz
theorem F2{ops:Array Oper}{x y:Oper}(h:vO ops x y=true):(∀d,x.dst=some d->d∉py ops y)/\(∀d,y.dst=some d->d∉py ops x)/\(x.dst=none\/x.dst≠y.dst):=by
 unfold vO at h;simp only[dY] at h
 refine ⟨fun d hd=>?_,fun d hd=>?_,?_⟩
 .rw[hd] at h;simp at h;exact h.1.1
 .rw[hd] at h;simp at h;exact h.2
 .cases hx:x.dst with
  | none=>exact .inl rfl
  | some d=>
   rw[hx] at h;simp at h;exact .inr fun he=>h.1.2 he.symm
theorem ME{x y:Oper}(h:iM x≠.L):Dw x y=false:=by
 unfold Dw
 split
 .rename_i bh;exact absurd (by unfold iM;simp only[bh]) h
 .rfl
theorem qih{s:Option Nat}{o:Oper}{ρ:Operand->AV}{m m1:ae}{v:AV}{t:Nat}{x y:Operand}(bh:o.op=.store t x y)(h:ep C fid callP callI s o ρ m=some (v,m1)) :
  ∀nm kk es,m.get nm=some (.mp kk es)->m1.get nm=some (.mp kk es):=by
 unfold ep jr at h;simp only[bh] at h
 split at h
 .simp only[aS,bp,dT] at h;obtain ⟨m2,eL,rfl,rfl⟩:=h;unfold aA at eL
  split at eL
  .rename_i nm0 off _;simp only[aS] at eL;obtain ⟨ob,yr,eL⟩:=eL
   split at eL
   .split at eL
    .simp only[bp] at eL;subst eL;intro nm kk es hg
     rw[fJ,ag (fun he=>by
      subst he;unfold ae.obj? at yr;rw[hg] at yr
      cases yr)]
     exact hg
    .cases eL
   .cases eL
  .cases eL
 .cases h
theorem swap{b:Nat}{ops:Array Oper}{i j:Nat}{st s1 s2:St}{x y:Oper}(hx:ops[i]?=some x)(hy:ops[j]?=some y)(aE:i≠j)(bI:wZ ops x y=true)(hk:rI ops b st.mem [i,j])
  (h1:bK C fid callP callI (some b) ops i st=some s1) (h2:bK C fid callP callI (some b) ops j s1=some s2):∃s1',bK C fid callP callI (some b) ops j st=some s1'/\bK C fid callP callI (some b) ops i s1'=some s2:=by
 obtain ⟨x',vi,mi,hZ,nn,rfl⟩:=qE h1;obtain rfl:x=x':=by simpa [hx] using hZ
 obtain ⟨y',vj,mj,uZ,jX,rfl⟩:=qE h2;obtain rfl:y=y':=by simpa [hy] using uZ
 unfold wZ at bI;simp only[dY] at bI;obtain ⟨tC,qv⟩:=bI;obtain ⟨a1,a2,a3⟩:=F2 qv;simp only at jX;have cj:∀m,eZ C fid callP callI (some b) ops j y (ee st.tmps x.dst vi) m=eZ C fid callP callI (some b) ops j y st.tmps m:=fun m=>yR fun t ht=>vr fun hd=>a1 t hd ht;have ci:∀v m,eZ C fid callP callI (some b) ops i x (ee st.tmps y.dst v) m=eZ C fid callP callI (some b) ops i x st.tmps m:=fun v m=>yR fun t ht=>vr fun hd=>a2 t hd ht;rw[cj] at jX
 have enough:∀m1,eZ C fid callP callI (some b) ops j y st.tmps st.mem=some (vj,m1)->eZ C fid callP callI (some b) ops i x st.tmps m1=some (vi,mj) ->
   ∃s1',bK C fid callP callI (some b) ops j st=some s1'/\bK C fid callP callI (some b) ops i s1'=some ⟨ee (ee st.tmps x.dst vi) y.dst vj,mj⟩:=by
  intro m1 e1 e2;refine ⟨⟨ee st.tmps y.dst vj,m1⟩,by simp[bK,hy,e1],?_⟩;simp only[bK,hx,ci,e2,ar];rw[NG a3]
 have nI:iM x=.N->mi=st.mem/\∀m',eZ C fid callP callI (some b) ops i x st.tmps m'=some (vi,m'):=fun hc=>by
  rcases om nn with ⟨hf,dS⟩|⟨rfl,dS⟩
  .obtain ⟨rfl,h⟩:=AO hc hf;exact ⟨rfl,fun m'=>(dS m').trans (h m')⟩
  .exact ⟨rfl,dS⟩
 have nJ:iM y=.N->mj=mi/\∀m',eZ C fid callP callI (some b) ops j y st.tmps m'=some (vj,m'):=fun hc=>by
  rcases om jX with ⟨hf,dS⟩|⟨rfl,dS⟩
  .obtain ⟨rfl,h⟩:=AO hc hf;exact ⟨rfl,fun m'=>(dS m').trans (h m')⟩
  .exact ⟨rfl,dS⟩
 have lI:iM x=.L->mi=st.mem/\∀m',pJ st.mem m'->eZ C fid callP callI (some b) ops i x st.tmps m'=some (vi,m'):=fun hc=>by
  rcases om nn with ⟨hf,dS⟩|⟨rfl,dS⟩
  .obtain ⟨rfl,h⟩:=M0 (s:=b+eE ops i) hc hf;exact ⟨rfl,fun m' hm=>(dS m').trans (h _ m' hm)⟩
  .exact ⟨rfl,fun m' _=>dS m'⟩
 have kj:∀o,ops[j]?=some o->nt o=true->st.mem.get (b+eE ops j)=some .resv:=hk j (by simp)
 have aMk:∀o:Oper,iM o=.A\/iM o=.Ap->nt o=true:=by
  intro o hc;unfold iM at hc;unfold nt
  cases bh:o.op<;>simp only[bh] at hc<;>first|rfl|(rcases hc with hc|hc<;>cases hc;done)|skip
  split at hc<;>first|(rcases hc with hc|hc<;>cases hc;done)|skip
  rename_i oJ;simp[oJ]
 cases nh:iM x with
 | N=>
  obtain ⟨rfl,dS⟩:=nI nh;exact enough mj jX (dS mj)
 | L=>
  obtain ⟨rfl,dS⟩:=lI nh
  cases jL:iM y with
  | N=>
   obtain ⟨rfl,_⟩:=nJ jL;exact enough _ jX (dS _ (pJ.refl _))
  | L=>
   have:mj=st.mem:=by
    rcases om jX with ⟨hf,_⟩|⟨rfl,_⟩
    .exact (M0 (s:=b+eE ops j) jL hf).1
    .rfl
   subst this;exact enough _ jX (dS _ (pJ.refl _))
  | A=>
   refine enough mj jX (dS mj ?_)
   rcases om jX with ⟨hf,_⟩|⟨rfl,_⟩
   .obtain ⟨e,rfl,_⟩:=HF (s:=b+eE ops j) jL hf;exact KX (fun bx cs hh=>by rw[kj y hy (aMk y (.inl jL))] at hh;cases hh) (fun kk es hh=>by rw[kj y hy (aMk y (.inl jL))] at hh;cases hh)
   .exact pJ.refl _
  | Ap=>
   refine enough mj jX (dS mj ?_)
   rcases om jX with ⟨hf,_⟩|⟨rfl,_⟩
   .exact qid (s:=b+eE ops j) jL (kj y hy (aMk y (.inr jL))) hf
   .exact pJ.refl _
  | W=>
   have CX:Dw x y=true:=by rw[nh,jL] at tC;simpa [Cp] using tC
   unfold Dw at CX
   split at CX
   .rename_i tx xx ix okx qgT
    split at CX
    .rename_i ty yy zy qgU
     have qgB:∀nm kk es,st.mem.get nm=some (.mp kk es)->mj.get nm=some (.mp kk es):=by
      rcases om jX with ⟨hf,_⟩|⟨rfl,_⟩
      .exact qih qgU hf
      .exact fun _ _ _ h=>h
     refine enough mj jX ?_
     rcases om nn with ⟨hf,CK⟩|⟨_,CK⟩
     .exact (CK mj).trans ((Vf qgT hf).2 _ mj qgB)
     .exact CK mj
    .cases CX
   .cases CX
 | A=>
  cases jL:iM y with
  | N=>
   obtain ⟨rfl,dS⟩:=nJ jL;exact enough _ (dS _) nn
  | A=>
   have fj:∃f:ae->ae,(∀m',eZ C fid callP callI (some b) ops j y st.tmps m'=some (vj,f m'))/\((∀m',f m'=m')\/∃e,∀m',f m'=m'.set (b+eE ops j) (some e)):=by
    rcases om jX with ⟨hf,dS⟩|⟨rfl,dS⟩
    .obtain ⟨e,_,h⟩:=HF (s:=b+eE ops j) jL hf;exact ⟨fun m'=>m'.set (b+eE ops j) (some e),fun m'=>(dS m').trans (h m'),.inr ⟨e,fun _=>rfl⟩⟩
    .exact ⟨id,dS,.inl fun _=>rfl⟩
   have fi:∃f:ae->ae,(∀m',eZ C fid callP callI (some b) ops i x st.tmps m'=some (vi,f m'))/\((∀m',f m'=m')\/∃e,∀m',f m'=m'.set (b+eE ops i) (some e)):=by
    rcases om nn with ⟨hf,dS⟩|⟨rfl,dS⟩
    .obtain ⟨e,_,h⟩:=HF (s:=b+eE ops i) nh hf;exact ⟨fun m'=>m'.set (b+eE ops i) (some e),fun m'=>(dS m').trans (h m'),.inr ⟨e,fun _=>rfl⟩⟩
    .exact ⟨id,dS,.inl fun _=>rfl⟩
   obtain ⟨f,f1,f2⟩:=fi;obtain ⟨h,h1,h2⟩:=fj;have em:mi=f st.mem:=by have:=f1 st.mem;rw[nn] at this;simpa using this
   have ej:mj=h mi:=by have:=h1 mi;rw[jX] at this;simpa using this
   refine enough _ (h1 _) ?_;rw[f1,ej,em];congr 2;have hr:=VG hx hy (aMk x (.inl nh)) (aMk y (.inl jL)) aE
   rcases f2 with f2|⟨e,f2⟩<;>rcases h2 with h2|⟨e',h2⟩<;>simp only[f2,h2]
   exact (List.set_comm _ _ (by omega)).symm
  | _=>exact absurd tC (by rw[nh,jL,ME (by rw[nh];simp)];simp[Cp])
 | Ap=>
  cases jL:iM y with
  | N=>
   obtain ⟨rfl,dS⟩:=nJ jL;exact enough _ (dS _) nn
  | _=>exact absurd tC (by rw[nh,jL,ME (by rw[nh];simp)];simp[Cp])
 | W=>
  cases jL:iM y with
  | N=>
   obtain ⟨rfl,dS⟩:=nJ jL;exact enough _ (dS _) nn
  | _=>exact absurd tC (by rw[nh,jL,ME (by rw[nh];simp)];simp[Cp])
theorem first{b:Nat}{ops:Array Oper}{i:Nat}{x:Oper}(hx:ops[i]?=some x):∀(l:List Nat) (st s':St),l.Nodup->i∈l->rI ops b st.mem l->(∀(p q:List Nat),l=p++i::q->∀j∈p,∃y,ops[j]?=some y/\wZ ops y x=true) ->
  fc C fid callP callI (some b) ops l st=some s'->∃s1,bK C fid callP callI (some b) ops i st=some s1/\fc C fid callP callI (some b) ops (l.erase i) s1=some s'
 | [],_,_,_,hi,_,_,_=>by simp at hi
 | j::l,st,s',hnd,hi,hk,wG,hr=>by
  simp only[fc,aS] at hr;obtain ⟨s1,h1,hr⟩:=hr
  by_cases he:j=i
  .subst he;exact ⟨s1,h1,by simpa using hr⟩
  .have aU:i∈l:=by rcases dI.1 hi with h|h<;>first|exact absurd h.symm he|exact h
   have yp:=(List.nodup_cons.1 hnd)
   obtain ⟨s2,h2,C4⟩:=first hx l s1 s' yp.2 aU (DV h1 (fun k dO=>hk k (by simp[dO])) yp.1) (fun p q lP k GW=>wG (j::p) q (by rw[lP];rfl) k (by simp[GW])) hr
   obtain ⟨p,q,lP⟩:=xv aU;obtain ⟨y,hy,bI⟩:=wG (j::p) q (by rw[lP];rfl) j (by simp)
   obtain ⟨s1',k1,k2⟩:=swap hy hx he bI (fun k dO=>hk k (by
    simp only[dI,et,or_false] at dO
    rcases dO with rfl|rfl
    .simp
    .simp[aU])) h1 h2
   refine ⟨s1',k1,?_⟩
   have CR:(j::l).erase i=j::l.erase i:=by
    rw[List.erase_cons,ag (by simpa using he)]
   rw[CR];simp only[fc,k2,aa];exact C4
theorem Rr(ops:Array Oper):∀n,(nc ops n).length=n
 | 0=>rfl
 | n+1=>by simp[nc,Rr ops n]
theorem Cc(ops:Array Oper)(i:Nat):∀n,i<n->(nc ops n).getD i 0=match ops[i]? with
  | some o=>(o.after.toList.filter (Region.binds .any)).foldl (fun s e=>s ||| (2^e.on ||| (nc ops i).getD e.on 0)) 0
  | none=>0
 | 0,h=>by omega
 | n+1,h=>by
  simp only[nc,bA,pL,Rr]
  by_cases hi:i<n
  .rw[aj hi];have:=Cc ops i n hi;simpa [bA] using this
  .obtain rfl:i=n:=by omega
   simp[bA];cases ops[i]?<;>rfl
theorem Sw(f:Edge->Nat)(j:Nat):∀(l:List Edge) (s:Nat),(l.foldl (fun s e=>s ||| (2^e.on ||| f e)) s).testBit j=true->s.testBit j=true\/∃e∈l,e.on=j\/(f e).testBit j=true
 | [],s,h=>.inl h
 | e::l,s,h=>by
  simp only[BW] at h
  rcases Sw f j l _ h with h|⟨e',CQ,h⟩
  .simp only[Nat.testBit_or,Bw,Nat.testBit_two_pow,vU] at h
   rcases h with h|h|h
   .exact .inl h
   .exact .inr ⟨e,by simp,.inl h⟩
   .exact .inr ⟨e,by simp,.inr h⟩
  .exact .inr ⟨e',by simp[CQ],h⟩
theorem Cd{ops:Array Oper}{D:Nat->Prop}(hD:∀k o,D k->ops[k]?=some o->∀e∈o.after.toList,Region.binds .any e=true->D e.on)(aG:∀k o,ops[k]?=some o->∀e∈o.after.toList,Region.binds .any e=true->e.on<k) :
  ∀(n i:Nat) (o:Oper),i<n->ops[i]?=some o->(∀e∈o.after.toList,Region.binds .any e=true->D e.on)->∀j,((nc ops n).getD i 0).testBit j=true->D j:=by
 intro n
 induction n with
 | zero=>intro i o h;omega
 | succ n ih=>
  intro i o hi ho he j hj;rw[Cc ops i (n+1) hi,ho] at hj
  rcases Sw _ j _ _ hj with h|⟨e,hem,hj⟩
  .simp at h
  .obtain ⟨h1,h2⟩:=uk.1 hem
   rcases hj with rfl|hj
   .exact he e h1 h2
   .have kI:=aG i o ho e h1 h2
    rcases L4:ops[e.on]? with _|oe
    .rw[Cc ops e.on i kI,L4] at hj;simp at hj
    .have h3:(nc ops i).getD e.on 0=(nc ops n).getD e.on 0:=by
      rw[Cc ops e.on i kI,Cc ops e.on n (by omega)]
     rw[h3] at hj;exact ih e.on oe (by omega) L4 (fun e' CQ hb=>hD e.on oe (he e h1 h2) L4 e' CQ hb) j hj
theorem Nc{ops:Array Oper}{ah:List Nat}:∀{l:List Nat},yT ops ah l=true->∀(p q:List Nat) (i:Nat),l=p++i::q->∀j∈p,(ah.getD i 0).testBit j=true\/∃x y,ops[j]?=some x/\ops[i]?=some y/\wZ ops x y=true
 | [],_,p,q,i,h,_,_=>by simp at h
 | k::l,hp,p,q,i,h,j,hj=>by
  simp only[yT,dY,iX] at hp
  match p,h with
  | k'::p,h=>
   simp only[bm,qH] at h;obtain ⟨rfl,rfl⟩:=h
   rcases dI.1 hj with rfl|hj
   .have:=hp.1 i (by simp)
    rcases Bool.or_eq_true_iff.1 this with h|h
    .exact .inl h
    .refine .inr ?_
     split at h
     .exact ⟨_,_,by assumption,by assumption,h⟩
     .cases h
   .exact Nc hp.2 p q i rfl j hj
end
end Go.Ab
namespace Go.Ab
open Go.RowKit
def xS:Ex->Exit
 | .normal=>.normal
 | .exit id=>.exit id
 | .ret=>.ret
section
variable [WInv] {C:Cfg} {B:Nat} {w:World} {g:G}
structure StR (B:Nat) (w:World) (g:G) (st:St) (a:Act):Prop where
 tmp:gn w g st.tmps a.tmps
 mem:MemR B w g st.mem
 size:B<=w.heap.size
def nW(C:Cfg)(callI:Nat->List AV->ae->OM):Prop:=∀f args m v m',callI f args m=some (v,m')->kr C.P f args m v m'/\∃fn,C.P.funcs[f]?=some fn/\fn.body.isSome
theorem H9(hC:CfgOk C){callI:Nat->List AV->ae->OM}(hI:nW C callI){fid:Nat}{base:Option Nat}{ops:Array Oper}{i:Nat}{st s1:St}{a:Act}(h:bK C fid (gv callI) callI base ops i st=some s1)(hs:StR B w g st a)
  (hk:∀b,base=some b->rI ops b st.mem [i]) {Q:Exit->Act->World->Prop} {next:Act->World->Prop} (hn:∀a' w' g',StR B w' g' s1 a'->Step B w g w' g'->ij C.P a' a->next a' w'):wpOp C.P ops Q i next a w:=by
 obtain ⟨o,v,m1,ho,hr,rfl⟩:=qE h
 have jY:ep C fid (gv callI) callI (base.map (· + eE ops i)) o (ev st.tmps) st.mem=some (v,m1)->o.wp C.P a w next Q:=by
  intro hf
  obtain ⟨v2,m2,hK,bh⟩:=M8 (a:=a) hC hI hf (Ag hs.tmp) hs.mem hs.size (fun kL s hb=>by
   obtain ⟨b,gI,rfl⟩:=gm.1 hb
   exact hk b gI i (by simp) o ho kL)
  simp only[bp,dT] at hK;obtain ⟨rfl,rfl⟩:=hK
  exact bh next Q fun a1 v' w' g' ht _ hd s hm hv=>hn _ w' g' ⟨gn.put (a:=a1) (by rw[ht];exact hs.tmp.step s) hv o.dst,hm,b7 hs.size s.below.size⟩ s (ij.trans (ij.of_eq (sI _ _ _)) hd)
 have uX:v=.tup []/\m1=st.mem->next (a.put o.dst undef) w:=by
  rintro ⟨rfl,rfl⟩;exact hn _ w g ⟨hs.tmp.put (.tup [] #[] rfl (fun j hj=>absurd hj (Nat.not_lt_zero j))) o.dst,hs.mem,hs.size⟩ (Step.refl _ _ _) (ij.of_eq (sI _ _ _))
 unfold wpOp;simp only[ho];unfold eZ at hr
 cases hg:o.guard with
 | none=>
  simp only[hg] at hr;have hw:Region.wanted o (yielded ops a.tmps)=true:=by simp[Region.wanted,hg]
  rw[hw,aj rfl];exact .inl (jY hr)
 | some jw=>
  obtain ⟨j,want⟩:=jw;simp only[hg] at hr
  cases hd:(ops[j]?).bind (·.dst) with
  | none=>simp[hd] at hr
  | some d=>
   simp only[hd] at hr
   cases oa:rv ops st.tmps j with
   | true=>
    simp only[oa] at hr
    cases hv:st.tmps.getD d .any with
    | tup cs=>
     simp only[hv] at hr
     cases cs with
     | nil=>
      have hV:=hs.tmp.2 d;rw[hv] at hV
      have hy:yielded ops a.tmps j=none:=by
       unfold yielded;rw[hd];simp only[aa];generalize hx:a.tmps.getD d undef=x at hV;cases hV;rw[fV] at hx
       cases hq:a.tmps[d]? with
       | none=>rfl
       | some y=>rw[hq] at hx;simp only[nZ] at hx;rw[hx]
      have hw:Region.wanted o (yielded ops a.tmps)=false:=by simp only[Region.wanted,hg,hy];rfl
      rw[hw];simp only[bp,dT] at hr;exact uX ⟨hr.1.symm,hr.2.symm⟩
     | cons c cs=>simp only at hr;cases hr
    | _=>simp only[hv] at hr;cases hr
   | false=>
   simp only[oa] at hr
   cases hv:st.tmps.getD d .any with
   | bool b=>
    simp only[hv] at hr;have hV:=hs.tmp.2 d;rw[hv] at hV
    have hy:yielded ops a.tmps j=some b:=by
     unfold yielded;rw[hd];simp only[aa];generalize hx:a.tmps.getD d undef=x at hV;cases hV
     have:a.tmps[d]?=some (.bool b):=by
      rw[fV] at hx
      cases hq:a.tmps[d]? with
      | none=>rw[hq] at hx;cases hx
      | some y=>rw[hq] at hx;simpa using hx
     rw[this]
    have hw:Region.wanted o (yielded ops a.tmps)=(some b==some want):=by simp only[Region.wanted,hg,hy]
    by_cases hb:b=want
    .rw[aj hb] at hr;have:(some b==some want)=true:=by simpa using hb
     rw[hw,this,aj rfl];exact .inl (jY hr)
    .rw[ag hb] at hr;have:(some b==some want)=false:=by simpa using hb
     rw[hw,this];simp only[bp,dT] at hr;exact uX ⟨hr.1.symm,hr.2.symm⟩
   | _=>simp only[hv] at hr;cases hr
theorem VZ(hC:CfgOk C){callI:Nat->List AV->ae->OM}(hI:nW C callI){fid:Nat}{ops:Array Oper}{Q:Exit->Act->World->Prop}:∀(l:List Nat) (st s':St) (a:Act) (w:World) (g:G),fc C fid (gv callI) callI none ops l st=some s'->StR B w g st a ->
  (∀a' w' g',StR B w' g' s' a'->Step B w g w' g'->ij C.P a' a->Q .normal a' w')->wpOps C.P ops Q l a w
 | [],st,s',a,w,g,h,hs,hn=>by
  simp only[fc,bp] at h;subst h;exact hn a w g hs (Step.refl _ _ _) (ij.refl _ _)
 | i::l,st,s',a,w,g,h,hs,hn=>by
  simp only[fc,aS] at h;obtain ⟨s1,h1,h⟩:=h;rw[wpOps_cons];exact H9 hC hI h1 hs (fun b hb=>by cases hb) fun a' w' g' dP s hd=>VZ hC hI l s1 s' a' w' g' h dP fun a'' w'' g'' mc s' gB=>hn a'' w'' g'' mc (s.trans s') (gB.trans hd)
theorem Dp:∀(l:List Nat),l≠[]->∃mn∈l,∀x∈l,mn<=x
 | [],h=>absurd rfl h
 | [x],_=>⟨x,by simp,by simp⟩
 | x::y::l,_=>by
  obtain ⟨mn,h1,h2⟩:=Dp (y::l) (by simp)
  by_cases hx:x<=mn
  .exact ⟨x,by simp,fun z hz=>by
    rcases dI.1 hz with rfl|hz
    .exact aW _
    .exact b7 hx (h2 z hz)⟩
  .exact ⟨mn,nX _ h1,fun z hz=>by
    rcases dI.1 hz with rfl|hz
    .omega
    .exact h2 z hz⟩
theorem qdb(hC:CfgOk C){callI:Nat->List AV->ae->OM}(hI:nW C callI){fid b:Nat}{ops:Array Oper}{Q:Exit->Act->World->Prop}{canon:List Nat}(aG:∀k o,ops[k]?=some o->∀e∈o.after.toList,Region.binds .any e=true->e.on<k)
  (wC:yT ops (tp ops) canon=true) (hnd:canon.Nodup):∀(l:List Nat) (n:Nat),l.length=n->l.Sublist canon->∀(listed:Array Bool),listed.size=ops.size->(∀x,x<ops.size->(listed.getD x true=true↔x∉l))->(∀x∈l,x<ops.size) ->
  (∀k o,k<ops.size->k∉l->ops[k]?=some o->∀e∈o.after.toList,Region.binds .any e=true->e.on∉l) ->
  ∀(st s':St) (a:Act) (w:World) (g:G),fc C fid (gv callI) callI (some b) ops l st=some s'->rI ops b st.mem l->StR B w g st a ->
  (∀a' w' g',StR B w' g' s' a'->Step B w g w' g'->ij C.P a' a->Q .normal a' w')->wpAny C.P .any ops Q n listed a w:=by
 intro l n hn
 induction n generalizing l with
 | zero=>
  intro ft listed gU gK hQ oK st s' a w g hr hk hs hq;have so:l=[]:=vD hn;subst so;simp only[fc,bp] at hr;subst hr;refine ⟨?_,hq a w g hs (Step.refl _ _ _) (ij.refl _ _)⟩;unfold Region.ready;rw[List.filter_eq_nil_iff];intro x hx;have:listed.getD x true=true:=(gK x (by simpa using hx)).2 (by simp);simp[this]
 | succ n ih=>
  intro ft listed gU gK hQ oK st s' a w g hr hk hs hq
  have yx:∀i∈Region.ready .any ops listed,i∈l/\i<ops.size/\∃o,ops[i]?=some o/\∀e∈o.after.toList,Region.binds .any e=true->e.on∉l:=by
   intro i hi;unfold Region.ready at hi;simp only[uk,oC,dY,rH] at hi;obtain ⟨h1,h2,h3⟩:=hi
   have aU:i∈l:=by
    by_cases h:i∈l
    .exact h
    .have:=(gK i h1).2 h;rw[this] at h2;cases h2
   refine ⟨aU,h1,ops[i],by simp[h1],fun e he hb nk=>?_⟩;have ho:ops[i]?=some ops[i]:=by simp[h1]
   rw[ho] at h3;simp only[ar,nZ] at h3;have h4:=pI.1 h3 e (by simpa using he);simp only[hb,gk,zr] at h4;have h5:=aG i _ ho e he hb
   have h6:listed.getD e.on true=true:=by
    have iZ:e.on<listed.size:=by omega
    simp only[Array.getD,iZ,dif_pos] at h4 ⊢;exact h4
   exact (gK e.on (by omega)).1 h6 nk
  refine ⟨fun nj=>?_,fun i hi=>?_⟩
  ·
   exfalso;have aE:l≠[]:=fun h=>by rw[h] at hn;simp at hn
   obtain ⟨mn,qx,uS⟩:∃mn∈l,∀x∈l,mn<=x:=by
    exact Dp l aE
   have iF:=hQ mn qx
   have:mn∈Region.ready .any ops listed:=by
    unfold Region.ready;simp only[uk,oC,dY,rH]
    refine ⟨iF,?_,?_⟩
    .cases hb:listed.getD mn true with
     | false=>rfl
     | true=>exact absurd qx ((gK mn iF).1 hb)
    .have ho:ops[mn]?=some ops[mn]:=by simp[iF]
     rw[ho];simp only[ar,nZ];rw[pI];intro e he
     by_cases hb:Region.binds .any e=true
     .have h5:=aG mn _ ho e (by simpa using he) hb;have h6:e.on∉l:=fun h=>by have:=uS _ h;omega
      have h7:=(gK e.on (by omega)).2 h6;have iZ:e.on<listed.size:=by omega
      have h8:listed.getD e.on false=true:=by
       simp only[Array.getD,iZ,dif_pos] at h7 ⊢;exact h7
      rw[h8];simp
     .simp at hb;simp[hb]
   rw[nj] at this;simp at this
  .obtain ⟨aU,wo,x,hx,qZ⟩:=yx i hi
   obtain ⟨s1,h1,h2⟩:=first hx l st s' (hnd.sublist ft) aU hk (fun p q lP j hj=>by
    obtain ⟨pre,post,tB⟩:∃pc qc,canon=pc++i::qc/\∀y∈p,y∈pc:=by
     rw[lP] at ft;obtain ⟨c1,c2,hc,eM,eS⟩:=Fi.1 ft
     obtain ⟨d1,d2,hd,Tb⟩:∃d1 d2,c2=d1++i::d2/\True:=by
      have:=eS.subset (oB);obtain ⟨d1,d2,hd⟩:=xv this;exact ⟨d1,d2,hd,trivial⟩
     exact ⟨c1++d1,d2,by rw[hc,hd];simp,fun y hy=>kT.2 (.inl (eM.subset hy))⟩
    rcases Nc wC pre post i tB.1 j (tB.2 j hj) with h|⟨y,x',hy,hZ,bI⟩
    .exfalso;have fp:((nc ops ops.size).getD i 0).testBit j=true:=h
     have:=Cd (D:=fun k=>k∉l) (fun k o dO iR e he hb=>by
      rcases tj k ops.size with bu|bu
      .exact oK k o bu dO iR e he hb
      .rw[En bu] at iR;cases iR) aG ops.size i x wo hx qZ j fp
     exact this (by rw[lP];simp[hj])
    .obtain rfl:x=x':=by simpa [hx] using hZ
     exact ⟨y,hy,bI⟩) hr
   refine H9 hC hI h1 hs (fun b' fm=>by cases fm;exact fun k dO=>hk k (by simp at dO;rw[dO];exact aU)) fun a' w' g' dP s hd=>?_
   have fp:∀y,y∈l.erase i↔y∈l/\y≠i:=fun y=>by
    rw[(hnd.sublist ft).mem_erase_iff];exact And.comm
   refine ih (l.erase i) (by rw[List.length_erase_of_mem aU];omega) (List.Sublist.trans List.erase_sublist ft) (listed.setIfInBounds i true) (by simpa using gU) (fun y hy=>?_) (fun y hy=>hQ y ((fp y).1 hy).1) (fun k o bu pU iR e he hb nk=>?_) s1 s' a' w' g' h2 (fun k dO o ho hm=>?_) dP fun a'' w'' g'' mc s' gB=>hq a'' w'' g'' mc (s.trans s') (gB.trans hd)
   .have oP:y<listed.size:=by omega
    have hg:(listed.setIfInBounds i true).getD y true=if i=y then true else listed.getD y true:=by
     simp only[fV,xk]
     by_cases jA:i=y
     .subst jA;simp[oP]
     .simp[jA]
    rw[hg,fp]
    by_cases jA:i=y
    .subst jA;simp
    .rw[ag jA,gK y hy]
     constructor
     .intro h h';exact h h'.1
     .intro h h';exact h ⟨h',fun he=>jA he.symm⟩
   .have ss:=(fp _).1 nk
    by_cases sj:k=i
    .subst sj;obtain rfl:x=o:=by simpa [hx] using iR
     exact qZ e he hb ss.1
    .exact oK k o bu (fun h=>pU ((fp k).2 ⟨h,sj⟩)) iR e he hb ss.1
   .exact DV h1 (fun k' uO=>hk k' ((fp k').1 uO).1) (fun h=>((fp i).1 h).2 rfl) k dO o ho hm
theorem MK{m:ae}(hm:MemR B w g m):∀k,MemR B w g (m++List.replicate k (some .resv)):=by
 intro k
 have aQ:∀x,ae.get (m++List.replicate k (some .resv)) x=if x<m.length then m.get x else if x<m.length+k then some .resv else none:=by
  intro x;unfold ae.get;rw[pL]
  by_cases h1:x<m.length
  .rw[aj h1,aj h1]
  .rw[ag h1,ag h1,ui]
   by_cases h2:x<m.length+k
   .rw[aj (by omega),aj h2];rfl
   .rw[ag (by omega),ag h2];rfl
 have old:∀x e,ae.get (m++List.replicate k (some .resv)) x=some e->m.get x=some e\/(e=.resv/\m.length<=x):=by
  intro x e he;rw[aQ] at he
  split at he
  .exact .inl he
  .split at he
   .simp at he;exact .inr ⟨he.symm,by omega⟩
   .cases he
 have fe:∀x b,bw g (m++List.replicate k (some .resv)) x=some b->bw g m x=some b:=by
  intro x b hb
  rcases pN hb with ⟨bx,cs,h1,h2⟩|⟨n,sz,h1,h2⟩|⟨kk,es,h1,h2⟩
  .rcases old _ _ h1 with h|⟨h,_⟩
   .simp[bw,h,h2]
   .cases h
  .rcases old _ _ h1 with h|⟨h,_⟩
   .simp[bw,h,h2]
   .cases h
  .rcases old _ _ h1 with h|⟨h,_⟩
   .simp[bw,h,h2]
   .cases h
 refine ⟨fun nm bx cs h=>?_,fun nm n sz h=>?_,fun nm h=>?_,fun nm h=>?_,fun nm nm' b h1 h2=>hm.inj nm nm' b (fe _ _ h1) (fe _ _ h2),hm.wrLt,hm.inv,hm.boxLt,fun nm kk es h=>by
  rcases old _ _ h with h|⟨h,_⟩
  .exact hm.mp nm kk es h
  .cases h⟩
 .rcases old _ _ h with h|⟨h,_⟩
  .exact hm.obj nm bx cs h
  .cases h
 .rcases old _ _ h with h|⟨h,_⟩
  .exact hm.tok nm n sz h
  .cases h
 .rcases old _ _ h with h|⟨_,h⟩
  .exact hm.resv nm h
  .exact hm.fresh nm h
 .exact hm.fresh nm (by simp at h;omega)
theorem Ns(m:ae)(c:Nat):eH m c=m++List.replicate c (some .resv):=by
 cases c with
 | zero=>simp[eH]
 | succ c=>rfl
theorem Mu(ops:Array Oper)(m:ae)(l:List Nat):rI ops m.length (m++List.replicate (eE ops ops.size) (some .resv)) l:=by
 intro i _ o ho hm;have hi:=(eA.1 ho).1
 have aG:eE ops i<eE ops ops.size:=by
  have aU:i<ops.toList.length:=by simpa using hi
  have h1:eE ops (i+1)=eE ops i+1:=by
   unfold eE
   have he:ops.toList[i]=o:=by
    have:=(eA.1 ho).2;simpa using this
   rw[Fk aU,List.filter_append,aK,he];simp[hm]
  have h2:eE ops (i+1)<=eE ops ops.size:=by
   unfold eE;have:ops.toList.take (i+1)=(ops.toList.take ops.size).take (i+1):=by rw[List.take_take];congr 1;omega
   rw[this];exact List.Sublist.length_le ((List.take_sublist _ _).filter _)
  omega
 unfold ae.get;rw[vE (by omega),ui,aj (by omega)]
 rfl
theorem qfK(hC:CfgOk C){callI:Nat->List AV->ae->OM}(hI:nW C callI){R:Type}{fid id:Nat}{ops:Array Oper}{Q:Exit->Act->World->Prop}{canon:List Nat}(bI:Ae C.P ops canon=true){st:St}{K:St->Option R}{r:R}{a:Act}
  (h:kR C fid (gv callI) callI (some st.mem.length) ops canon ⟨st.tmps,eH st.mem (eE ops ops.size)⟩ K=some r) (hs:StR B w g st a)
  (hn:∀s' a' w' g',K s'=some r->StR B w' g' s' a'->Step B w g w' g'->ij C.P a' a->Q .normal a' w'):(Code.region id ops true).wp C.P Q a w:=by
 unfold Ae at bI;simp only[dY] at bI;obtain ⟨⟨⟨h1,h2⟩,h3⟩,h4⟩:=bI;have kY:canon.Perm (List.range ops.size):=List.isPerm_iff.1 h2
 have aG:∀k o,ops[k]?=some o->∀e∈o.after.toList,Region.binds .any e=true->e.on<k:=by
  intro k o hk e he hb;have jh:=(eA.1 hk).1;have:=iX.1 h3 k (by simpa using jh);rw[hk] at this;simp only at this;have:=pI.1 this e (by simpa using he);simpa [hb] using this
 rw[qh,Ns] at h;simp only[aS] at h;obtain ⟨s',hr,hK⟩:=h;refine wp_region_any h1 ?_
 refine qdb hC hI aG h4 (kY.nodup_iff.2 List.nodup_range) canon ops.size (by rw[kY.length_eq];simp) (List.Sublist.refl _) _ (by simp) (fun x hx=>?_) (fun x hx=>by simpa using kY.mem_iff.1 hx) (fun k o hk dO=>?_) _ s' a _ g hr (Mu ops st.mem canon) ⟨hs.tmp.step (Step.drew B w g),MK (B:=B) (w:=w.drew) (g:=g) hs.mem.drew _,hs.size⟩ ?_
 .have:x∈canon:=kY.mem_iff.2 (by simpa using hx);simp[this,Array.getD,hx]
 .exact absurd (kY.mem_iff.2 (by simpa using hk)) dO
 .intro a' w' g' dP s hd;exact hn s' a' w' g' hK dP ((Step.drew B w g).trans s) hd
theorem Hp:∀(bs:List Bool) (ts:List AV) (t:Nat),(pz bs ts).length=ts.length/\((pz bs ts).getD t .any=ts.getD t .any\/(pz bs ts).getD t .any=.any)
 | bs,[],t=>by cases bs<;>simp[pz]
 | [],v::vs,t=>by
  have ih:=Hp [] vs;refine ⟨by simp[pz,(ih 0).1],?_⟩
  cases t with
  | zero=>simp[pz]
  | succ t=>simpa [pz] using (ih t).2
 | b::bs,v::vs,t=>by
  have ih:=Hp bs vs;refine ⟨by simp[pz,(ih 0).1],?_⟩
  cases t with
  | zero=>cases b<;>simp[pz]
  | succ t=>simpa [pz] using (ih t).2
theorem gn.mask{ts:List AV}{vs:Array Value}(h:gn w g ts vs)(bs:List Bool):gn w g (pz bs ts) vs:=
 ⟨(Hp bs ts 0).1.trans h.1,fun t=>by
  rcases (Hp bs ts t).2 with h'|h'
  .rw[h'];exact h.2 t
  .rw[h'];exact .any _⟩
def LW(P:Program)(c:Code)(Q:Exit->Act->World->Prop)(a:Act)(w:World):Prop:=
 ∀(b:Frame) (k:List Item) (cs:List Frame),∃e a' w',Q e a' w'/\Arrives P (lone (b.at a (.inLoop c::k)) cs w) b k cs e a' w'
theorem Ux{P:Program}{c:Code}{Q:Exit->Act->World->Prop}{a:Act}{w:World}(h:c.wp P (Exit.then (LW P c Q) Q) a w)(m:List Item->Item)(b:Frame)(k:List Item)(cs:List Frame)
  (hm:step P (lone (b.at a (m k::k)) cs w)=.next (lone (b.at a (.code c :: .inLoop c::k)) cs w)):∃e a' w',Q e a' w'/\Arrives P (lone (b.at a (m k::k)) cs w) b k cs e a' w':=by
 obtain ⟨e,a₁,w₁,hq,Ar⟩:=h b (.inLoop c::k) cs
 cases e with
 | normal=>
  obtain ⟨e₂,a₂,w₂,hq₂,qgo⟩:=hq b k cs;exact ⟨e₂,a₂,w₂,hq₂,.of_steps (.head hm Ar) qgo⟩
 | exit id=>exact ⟨_,a₁,w₁,hq,.of_steps (.one hm) (.pass (x:=.inLoop c) rfl (fun _ _=>.inl (by simp)) Ar)⟩
 | goto l=>exact ⟨_,a₁,w₁,hq,.of_steps (.one hm) (.pass (x:=.inLoop c) rfl (fun _ _=>.inl (by simp)) Ar)⟩
 | ret=>exact ⟨_,a₁,w₁,hq,.of_steps (.one hm) (.pass (x:=.inLoop c) rfl (fun _ _=>.inl (by simp)) Ar)⟩
 | panic ch=>exact ⟨_,a₁,w₁,hq,.of_steps (.one hm) (.pass (x:=.inLoop c) rfl (fun _ _=>.inl (by simp)) Ar)⟩
 | outgrown=>exact ⟨_,a₁,w₁,hq,.of_steps (.one hm) (.pass (x:=.inLoop c) rfl (fun _ _=>.inl (by simp)) Ar)⟩
theorem qko{P:Program}{c:Code}{Q:Exit->Act->World->Prop}{a:Act}{w:World}(h:c.wp P (Exit.then (LW P c Q) Q) a w):(Code.loop c).wp P Q a w:=fun b k cs=>Ux h (fun _=>.code (.loop c)) b k cs step_loop
theorem qhK{P:Program}{c:Code}{Q:Exit->Act->World->Prop}{a:Act}{w:World}(h:c.wp P (Exit.then (LW P c Q) Q) a w):LW P c Q a w:=fun b k cs=>Ux h (fun _=>.inLoop c) b k cs step_inLoop
def Ix(C:Cfg)(B:Nat){R:Type}(w:World)(g:G)(a:Act)(K:Ex->St->Option R)(r:R)(Q:Exit->Act->World->Prop):Prop:=
 ∀e st' a' w' g',K e st'=some r->StR B w' g' st' a'->Step B w g w' g'->ij C.P a' a->Q (xS e) a' w'
def HS(vs:Array Value):ResultVar->Sem Value
 | .tmp t=>pure (vs.getD t undef)
 | .cell a t=>do loadVar t (<- asAddr (vs.getD a undef))
theorem Nt(fn:Func)(vs:Array Value):results fn vs=(do let l <- fn.results.mapM (HS vs);pure (if h:l.size=1 then l[0] else .tuple l)):=rfl
theorem Nu{P:Program}{m:ae}(hm:MemR B w g m){ts:List AV}{vs:Array Value}(ht:gn w g ts vs):∀(rs:List ResultVar) (l:List AV),lU P m ts rs=some l ->
  ∃vl:List Value,(rs.mapM (HS vs)).run P w=.ok vl w/\vl.length=l.length/\∀j,j<l.length->V w g (l.getD j .any) (vl.getD j undef)
 | [],l,h=>by simp only[lU,bp] at h;subst h;exact ⟨[],by simp,rfl,by simp⟩
 | r::rs,l,h=>by
  simp only[lU,aS,gm] at h;obtain ⟨v,hv,l',nO,rfl⟩:=h;obtain ⟨vl,h1,h2,h3⟩:=Nu hm ht rs l' nO
  have qgS:∃v',(HS vs r).run P w=.ok v' w/\V w g v v':=by
   cases r with
   | tmp t=>simp only[sN,bp] at hv;subst hv;exact ⟨_,rfl,ht.2 t⟩
   | cell a t=>
    simp only[sN,aS] at hv;obtain ⟨sh,bO,hv⟩:=hv;obtain ⟨v',hr,hV⟩:=Uw (P:=P) hm (ht.2 a) hv t bO;refine ⟨v',?_,hV⟩;unfold Instr.loadAt at hr;unfold ai at hv
    have hp:∃p,vs.getD a undef=.pointer (some p):=by
     have Aq:=ht.2 a
     split at hv
     .rename_i he;rw[he] at Aq;generalize vs.getD a undef=x at Aq;cases Aq;exact ⟨_,rfl⟩
     .rename_i he;rw[he] at Aq;generalize vs.getD a undef=x at Aq;cases Aq;exact ⟨_,rfl⟩
     .cases hv
    obtain ⟨p,hp⟩:=hp;rw[hp] at hr
    have hrv:HS vs (.cell a t)=(do loadVar t (<- asAddr (.pointer (some p)))):=by
     show (do loadVar t (<- asAddr (vs.getD a undef)):Sem Value)=_
     rw[hp]
    rw[hrv];simpa [Instr.sureAddr,asAddr] using hr
  obtain ⟨v',e1,e2⟩:=qgS
  refine ⟨v'::vl,?_,by simp[h2],fun j hj=>?_⟩
  .rw[List.mapM_cons];simp only[Sem.run_bind,e1,Result.andThen_ok,h1,Sem.run_pure]
  .cases j with
   | zero=>simpa using e2
   | succ j=>simpa using h3 j (by simpa using hj)
theorem HT{R:Type}(P:Program)(m:ae)(ts:List AV):∀(rs:List ResultVar) (K:List AV->Option R),y9 P m ts rs K=(lU P m ts rs).bind K
 | [],K=>rfl
 | .tmp t::rs,K=>by
  simp only[y9,lU,sN,aa,HT P m ts rs];cases lU P m ts rs<;>rfl
 | .cell a t::rs,K=>by
  simp only[y9,lU,sN]
  cases iz P t with
  | none=>rfl
  | some sh=>
   simp only[aa,HT P m ts rs]
   cases ai sh m (ts.getD a .any) with
   | none=>rfl
   | some v=>
    simp only[aa];cases lU P m ts rs<;>rfl
theorem U8{l:List AV}{vl:List Value}(h2:vl.length=l.length)(h3:∀j,j<l.length->V w g (l.getD j .any) (vl.getD j undef)):V w g (wN l) (if h:vl.toArray.size=1 then vl.toArray[0] else .tuple vl.toArray):=by
 match l,vl,h2 with
 | [],[],_=>exact .tup [] #[] rfl (by simp)
 | [x],[y],_=>simpa [wN] using h3 0 (by simp)
 | x::x'::l,y::y'::vl,h2=>
  have:¬ (y::y'::vl).toArray.size=1:=by simp
  rw[dif_neg this];refine .tup _ _ (by simp at h2 ⊢;omega) fun j hj=>?_;have:=h3 j hj;simpa [bA,fV] using this
end
end Go.Ab
namespace Go.Ab
open Go.RowKit
def Mt{R:Type}(b:Bool)(x:Option R):Option R:=match b with
 | true=>x
 | false=>none
def xK(y x:Oper):Option (Bool×Nat×Nat×Nat×Nat):=match y.guard with
 | some _=>none
 | none=>match x.guard with
  | some _=>none
  | none=>match x.dst with
   | some _=>none
   | none=>match x.op with
    | .store t2 (.tmp u) _=>match y.op with
     | .load t1 (.tmp t)=>some (true,t1,t,t2,u)
     | .store t1 (.tmp t) _=>match y.dst with
      | none=>some (false,t1,t,t2,u)
      | some _=>none
     | _=>none
    | _=>none
def Kx(n1 n2:Nat)(x y:AV):Bool:=match x,y with
 | .ptr a o,.ptr b p=>!(a==b)||(decide (o+n1<=p)||decide (p+n2<=o))
 | _,_=>false
def yN(x y:AV):Bool:=match y with
 | .ptr b _=>match x with
  | .vptr _=>true
  | .ptr a _=>!(a==b)
  | _=>false
 | _=>false
def Cu(P:Program)(c:Bool×Nat×Nat×Nat×Nat)(ts:List AV):Bool:=match c with
 | (b,t1,t,t2,u)=>match b with
  | true=>yN (ts.getD t .any) (ts.getD u .any)
  | false=>match iz P t1 with
   | none=>false
   | some s1=>match iz P t2 with
    | none=>false
    | some s2=>Kx s1.size s2.size (ts.getD t .any) (ts.getD u .any)
def Ct(P:Program)(ops:Array Oper)(j i:Nat)(ts:List AV):Bool:=match ops[j]? with
 | none=>false
 | some y=>match ops[i]? with
  | none=>false
  | some x=>match xK y x with
   | none=>false
   | some c=>Cu P c ts
def sZ{R:Type}(P:Program)(ops:Array Oper)(st:St)(K:St->Option R):List (Nat×Nat)->Option R
 | []=>K st
 | (j,i)::sp=>match Ct P ops j i st.tmps with
  | true=>sZ P ops st K sp
  | false=>none
def KM(ops:Array Oper)(ah:List Nat)(j i:Nat)(r:List Nat):Bool:=match ops[j]? with
 | none=>false
 | some y=>match ops[i]? with
  | none=>false
  | some x=>match xK y x with
   | none=>false
   | some (_,_,t,_,u)=>vO ops y x&&r.all (fun k=>match ops[k]? with|some o=>o.dst != some t&&(o.dst != some u||(ah.getD i 0).testBit k)|none=>true)
def yb:List (Nat×Nat)->Nat->Nat->Bool
 | [],_,_=>false
 | (a,b)::l,j,i=>match Nat.beq a j&&Nat.beq b i with
  | true=>true
  | false=>yb l j i
def AR(ops:Array Oper)(ah:List Nat)(sp:List (Nat×Nat)):List Nat->Bool
 | []=>true
 | j::l=>l.all (fun i=>(ah.getD i 0).testBit j||(match ops[j]?,ops[i]? with|some x,some y=>wZ ops x y|_,_=>false)||(yb sp j i&&KM ops ah j i (j::l)))&&AR ops ah sp l
def vW(P:Program)(ops:Array Oper)(l ah:List Nat)(sp:List (Nat×Nat)):Bool:=match sp with
 | []=>KR P ops l ah
 | _::_=>P.follows .mixedOrders&&(l.isPerm (List.range ops.size)&&((List.range ops.size).all (fun i=>(match ops[i]? with|some o=>o.after.all fun e=>!Region.binds .any e||decide (e.on<i)|none=>false))&&(Nat.beq ah.length ops.size&&((List.range ops.size).all (Cb ops ah)&&AR ops ah sp l))))
theorem WZ{R:Type}{P:Program}{ops:Array Oper}{st:St}{K:St->Option R}{r:R}:∀sp:List (Nat×Nat),sZ P ops st K sp=some r->K st=some r/\∀j i,yb sp j i=true->Ct P ops j i st.tmps=true
 | [],h=>⟨h,fun _ _ h'=>by simp[yb] at h'⟩
 | (a,b)::sp,h=>by
  simp only[sZ] at h
  split at h
  .rename_i hd;obtain ⟨h1,h2⟩:=WZ sp h;refine ⟨h1,fun j i h'=>?_⟩;simp only[yb] at h'
   split at h'
   .rename_i hb;simp only[dY] at hb;obtain rfl:=mz hb.1;obtain rfl:=mz hb.2;exact hd
   .exact h2 j i h'
  .cases h
theorem qj3{R:Type}(P:Program)(ops:Array Oper)(st:St)(sp:List (Nat×Nat)):(∀K:St->Option R,sZ P ops st K sp=none)\/(∀K:St->Option R,sZ P ops st K sp=K st):=by
 induction sp with
 | nil=>exact .inr fun K=>rfl
 | cons p sp ih=>
  obtain ⟨a,b⟩:=p
  cases hd:Ct P ops a b st.tmps with
  | true=>
   rcases ih with h|h
   .exact .inl fun K=>by simp only[sZ,hd];exact h K
   .exact .inr fun K=>by simp only[sZ,hd];exact h K
  | false=>exact .inl fun K=>by simp only[sZ,hd]
section
variable [WInv] {C:Cfg} {B:Nat} {w:World} {g:G}
theorem Kw{ops:Array Oper}{ah:List Nat}(hl:ah.length=ops.size)(aG:∀i o,ops[i]?=some o->∀e∈o.after.toList,Region.binds .any e=true->e.on<i)
  (h:∀i,i<ops.size->Cb ops ah i=true):∀n,n<=ops.size->nc ops n=ah.take n:=by
 intro n
 induction n with
 | zero=>intro _;simp[nc]
 | succ n ih=>
  intro hn;have ih:=ih (by omega);have hx:n<ah.length:=by omega
  rw[nc,ih,List.take_add_one,jR hx];have ho:ops[n]?=some ops[n]:=Array.getElem?_eq_getElem (by omega);rw[ho];have gX:=h n (by omega);unfold Cb at gX;rw[ho,jR hx] at gX;simp only at gX;have gX:=mz gX;simp only[Option.toList_some,List.append_cancel_left_eq,qH,and_true];rw[gX,<- Array.foldl_toList]
  have:∀(l:List Edge) (s:Nat),(∀e∈l,Region.binds .any e=true->e.on<n)->List.foldl (fun s e=>s ||| (2^e.on ||| (List.take n ah).getD e.on 0)) s (l.filter (Region.binds .any))=List.foldl (fun s e=>match Region.binds .any e with
    | true=>s ||| (2^e.on ||| ah.getD e.on 0)
    | false=>s) s l:=by
   intro l
   induction l with
   | nil=>intro s _;rfl
   | cons e l ihl=>
    intro s hs;have ht:=fun s=>ihl s fun e' CQ=>hs e' (by simp[CQ])
    cases hb:Region.binds .any e with
    | true=>
     have:=hs e (by simp) hb;rw[List.filter_cons_of_pos (by simpa using hb)];simp only[BW,hb];rw[ht];congr 3;simp only[bA,qJ,aj this]
    | false=>
     rw[List.filter_cons_of_neg (by simp[hb])];simp only[BW,hb];rw[ht]
  exact this _ 0 (aG n _ ho)
theorem Sd{P:Program}{ops:Array Oper}{l ah:List Nat}(h:KR P ops l ah=true):Ae P ops l=true:=by
 unfold KR at h;simp only[dY] at h;obtain ⟨h1,h2,h3,h4,h5,h6⟩:=h
 have aG:∀k o,ops[k]?=some o->∀e∈o.after.toList,Region.binds .any e=true->e.on<k:=by
  intro k o hk e he hb;have jh:=(eA.1 hk).1;have:=iX.1 h3 k (by simpa using jh);rw[hk] at this;simp only at this;have:=pI.1 this e (by simpa using he);simpa [hb] using this
 have wk:=Kw (mz h4) aG (fun i hi=>iX.1 h5 i (by simpa using hi)) ops.size (aW _);rw[nY (by rw[mz h4];exact aW _)] at wk;unfold Ae;simp only[dY];refine ⟨⟨⟨h1,h2⟩,h3⟩,?_⟩;unfold tp;rw[wk];exact h6
theorem qfG{P:Program}{ops:Array Oper}{l ah:List Nat}{p:Nat×Nat}{sp:List (Nat×Nat)}(h:vW P ops l ah (p::sp)=true):P.follows .mixedOrders=true/\l.isPerm (List.range ops.size)=true /\
  ((List.range ops.size).all (fun i=>(match ops[i]? with|some o=>o.after.all fun e=>!Region.binds .any e||decide (e.on<i)|none=>false)))=true/\AR ops (tp ops) (p::sp) l=true:=by
 unfold vW at h;simp only[dY] at h;obtain ⟨h1,h2,h3,h4,h5,h6⟩:=h
 have aG:∀k o,ops[k]?=some o->∀e∈o.after.toList,Region.binds .any e=true->e.on<k:=by
  intro k o hk e he hb;have jh:=(eA.1 hk).1;have:=iX.1 h3 k (by simpa using jh);rw[hk] at this;simp only at this;have:=pI.1 this e (by simpa using he);simpa [hb] using this
 have wk:=Kw (mz h4) aG (fun i hi=>iX.1 h5 i (by simpa using hi)) ops.size (aW _);rw[nY (by rw[mz h4];exact aW _)] at wk;refine ⟨h1,h2,h3,?_⟩;unfold tp;rw[wk];exact h6
theorem qfk{y x:Oper}{b:Bool}{t1 t t2 u:Nat}(h:xK y x=some (b,t1,t,t2,u)):y.guard=none/\x.guard=none/\x.dst=none/\(∃v,x.op=.store t2 (.tmp u) v) /\
  ((b=true/\y.op=.load t1 (.tmp t))\/(b=false/\y.dst=none/\∃v,y.op=.store t1 (.tmp t) v)):=by
 unfold xK at h
 split at h
 .cases h
 rename_i h1
 split at h
 .cases h
 rename_i h2
 split at h
 .cases h
 rename_i h3;split at h
 case h_2=>cases h
 rename_i h4
 split at h
 .rename_i h5;simp only[bp,dT] at h;obtain ⟨rfl,rfl,rfl,rfl,rfl⟩:=h;exact ⟨h1,h2,h3,⟨_,h4⟩,.inl ⟨rfl,h5⟩⟩
 .rename_i h5
  split at h
  .rename_i h6;simp only[bp,dT] at h;obtain ⟨rfl,rfl,rfl,rfl,rfl⟩:=h;exact ⟨h1,h2,h3,⟨_,h4⟩,.inr ⟨rfl,h6,_,h5⟩⟩
  .cases h
 .cases h
theorem obj?_set{m:ae}{nm:Nat}{e:Option Ent}{n:Nat}(h:n≠nm):ae.obj? (m.set nm e) n=m.obj? n:=by
 unfold ae.obj?;rw[fJ,ag h]
theorem obj?_self{m:ae}{nm:Nat}{bx:Bool}{cs cs':List AV}(h:m.obj? nm=some (bx,cs)):ae.obj? (m.set nm (some (.obj bx cs'))) nm=some (bx,cs'):=by
 unfold ae.obj?;rw[fJ,aj rfl,aj (wh (obj?_get h))]
theorem qiy{cs v1 v2:List AV}{o p:Nat}(h1:o+v1.length<=cs.length)(h2:p+v2.length<=cs.length)(hd:o+v1.length<=p\/p+v2.length<=o):ka (ka cs o v1) p v2=ka (ka cs p v2) o v1:=by
 have l1:=sH h1;have l2:=sH h2;have e1:p+v2.length<=(ka cs o v1).length:=by omega
 have e2:o+v1.length<=(ka cs p v2).length:=by omega
 apply List.ext_getElem
 .rw[sH e1,sH e2,l1,l2]
 .intro j mO tE;have k1:=AT e1 j;have k2:=AT e2 j;rw[AT h1] at k1;rw[AT h2] at k2;rw[bA,jR mO,nZ] at k1;rw[bA,jR tE,nZ] at k2;rw[k1,k2]
  by_cases a:p<=j/\j<p+v2.length
  .rw[aj a,ag (by omega),aj a]
  .rw[ag a]
   by_cases b:o<=j/\j<o+v1.length
   .rw[aj b,aj b]
   .rw[ag b,ag b,ag a]
theorem qjB{s1 s2:Sh}{m m1 m2:ae}{x1 x2 v1 v2:AV}(ha:Kx s1.size s2.size x1 x2=true)(h1:aA s1 m x1 v1=some m1)(h2:aA s2 m1 x2 v2=some m2) :
  ∃m3,aA s2 m x2 v2=some m3/\aA s1 m3 x1 v1=some m2:=by
 unfold Kx at ha
 split at ha
 .rename_i a o b p;simp only[aA,aS] at h1 h2 ⊢;obtain ⟨⟨bx,cs⟩,g1,h1⟩:=h1;obtain ⟨⟨bx2,cs2⟩,g2,h2⟩:=h2;simp only at h1 h2;split at h1
  case isFalse=>cases h1
  rename_i c1;split at h1
  case isFalse=>cases h1
  rename_i k1;simp only[bp] at h1;subst h1;split at h2
  case isFalse=>cases h2
  rename_i c2;split at h2
  case isFalse=>cases h2
  rename_i k2;simp only[bp] at h2;subst h2;have z1:=sS k1;have z2:=sS k2
  by_cases uI:a=b
  .subst uI;rw[obj?_self g1] at g2;simp only[bp,dT] at g2;obtain ⟨rfl,rfl⟩:=g2;rw[sH (by omega)] at c2;simp only[BEq.rfl,gk,zr,Bw,vU] at ha
   refine ⟨m.set a (some (.obj bx (ka cs p v2.cells))),⟨⟨bx,cs⟩,g1,?_⟩,⟨bx,ka cs p v2.cells⟩,obj?_self g1,?_⟩
   .simp only;rw[aj c2,aj k2]
   .simp only;rw[aj (by rw[sH (by omega)];exact c1),aj k1,List.set_set,List.set_set,qiy (by omega) (by omega) (by omega)]
  .rw[obj?_set (fun e=>uI e.symm)] at g2
   refine ⟨m.set b (some (.obj bx2 (ka cs2 p v2.cells))),⟨⟨bx2,cs2⟩,g2,?_⟩,⟨bx,cs⟩,?_,?_⟩
   .simp only;rw[aj c2,aj k2]
   .rw[obj?_set uI];exact g1
   .simp only;rw[aj c1,aj k1,List.set_comm _ _ uI]
 .cases ha
theorem NP{fid b:Nat}{cp:Nat->List AV->Option AV}{ci:Nat->List AV->ae->OM}{ops:Array Oper}{i:Nat}{o:Oper}{t:Nat}{x v:Operand}(ho:ops[i]?=some o)(hg:o.guard=none)(hd:o.dst=none)(bh:o.op=.store t x v)(st:St) :
  bK C fid cp ci (some b) ops i st=(iz C.P t).bind fun s=>(aA s st.mem (ev st.tmps x) (ev st.tmps v)).map fun m=>⟨st.tmps,m⟩:=by
 unfold bK;rw[ho];simp only[eZ,hg];unfold ep jr;rw[bh];simp only[]
 cases iz C.P t with
 | none=>rfl
 | some s=>
  simp only[aa]
  cases aA s st.mem (ev st.tmps x) (ev st.tmps v) with
  | none=>rfl
  | some m=>simp only[aa,ar,hd,ee]
theorem WA{fid b:Nat}{cp:Nat->List AV->Option AV}{ci:Nat->List AV->ae->OM}{ops:Array Oper}{i:Nat}{o:Oper}{t:Nat}{x:Operand}(ho:ops[i]?=some o)(hg:o.guard=none)(bh:o.op=.load t x)(st:St) :
  bK C fid cp ci (some b) ops i st=(iz C.P t).bind fun s=>(ai s st.mem (ev st.tmps x)).map fun v=>⟨ee st.tmps o.dst v,st.mem⟩:=by
 unfold bK;rw[ho];simp only[eZ,hg];unfold ep jr;rw[bh];simp only[]
 cases iz C.P t with
 | none=>rfl
 | some s=>
  simp only[aa]
  cases ai s st.mem (ev st.tmps x) with
  | none=>rfl
  | some v=>rfl
theorem qhE{s1 s2:Sh}{m m2:ae}{x1 x2 v2:AV}(ha:yN x1 x2=true)(h2:aA s2 m x2 v2=some m2):ai s1 m2 x1=ai s1 m x1:=by
 unfold yN at ha
 split at ha
 .rename_i b p
  split at ha
  .rfl
  .rename_i a o;have uI:a≠b:=by simpa using ha
   simp only[aA,aS] at h2;obtain ⟨⟨bx,cs⟩,g1,h2⟩:=h2
   split at h2
   .split at h2
    .simp only[bp] at h2;subst h2;simp only[ai];rw[obj?_set uI]
    .cases h2
   .cases h2
  .cases ha
 .cases ha
theorem NC{fid b:Nat}{cp:Nat->List AV->Option AV}{ci:Nat->List AV->ae->OM}{ops:Array Oper}{t:Nat}:∀(l:List Nat) (s s':St),(∀k∈l,∀o,ops[k]?=some o->o.dst≠some t)->fc C fid cp ci (some b) ops l s=some s'->s'.tmps.getD t .any=s.tmps.getD t .any
 | [],s,s',_,h=>by simp only[fc,bp] at h;rw[h]
 | k::l,s,s',hd,h=>by
  simp only[fc,aS] at h;obtain ⟨s1,h1,h2⟩:=h;rw[NC l s1 s' (fun k' dO=>hd k' (by simp[dO])) h2];obtain ⟨o,v,m1,ho,_,rfl⟩:=qE h1;exact vr (hd k (by simp) o ho)
theorem qjM{fid b:Nat}{cp:Nat->List AV->Option AV}{ci:Nat->List AV->ae->OM}{ops:Array Oper}{i j:Nat}{st s1 s2:St}{x y:Oper}(hx:ops[i]?=some x)(hy:ops[j]?=some y){c:Bool×Nat×Nat×Nat×Nat}(hc:xK y x=some c)(qv:vO ops y x=true)(qY:Cu C.P c st.tmps=true)
  (h1:bK C fid cp ci (some b) ops j st=some s1) (h2:bK C fid cp ci (some b) ops i s1=some s2):∃s1',bK C fid cp ci (some b) ops i st=some s1'/\bK C fid cp ci (some b) ops j s1'=some s2:=by
 obtain ⟨bb,t1,t,t2,u⟩:=c;obtain ⟨g1,g2,g3,⟨v2,g4⟩,g5⟩:=qfk hc;obtain ⟨a1,a2,a3⟩:=F2 qv;rw[NP hx g2 g3 g4] at h2 ⊢;simp only[aS,gm] at h2;obtain ⟨sh2,k2,m2,k3,rfl⟩:=h2
 rcases g5 with ⟨rfl,g5⟩|⟨rfl,g6,v1,g5⟩
 .rw[WA hy g1 g5] at h1;simp only[aS,gm] at h1;obtain ⟨sh1,k1,v,k4,rfl⟩:=h1;simp only at k3
  have TF:∀z t',z=Operand.tmp t'->z∈x.op.operands.toList->y.dst≠some t':=by
   intro z t' hz hm hd;refine a1 t' hd ?_;unfold py;refine kT.2 (.inl (List.mem_filterMap.2 ⟨z,hm,?_⟩));rw[hz]
  have TP:x.op.operands.toList=[.tmp u,v2]:=by rw[g4];rfl
  have e1:ev (ee st.tmps y.dst v) (.tmp u)=ev st.tmps (.tmp u):=KV _ fun t' ht=>vr (TF _ t' ht (by rw[TP];simp));have e2:ev (ee st.tmps y.dst v) v2=ev st.tmps v2:=KV _ fun t' ht=>vr (TF _ t' ht (by rw[TP];simp));rw[e1,e2] at k3;refine ⟨⟨st.tmps,m2⟩,by rw[k2,aa,k3];rfl,?_⟩;rw[WA hy g1 g5,k1,aa];have:ai sh1 m2 (ev st.tmps (.tmp t))=ai sh1 st.mem (ev st.tmps (.tmp t)):=qhE qY k3;simp only;rw[this,k4]
  rfl
 .rw[NP hy g1 g6 g5] at h1;simp only[aS,gm] at h1;obtain ⟨sh1,k1,m1,k4,rfl⟩:=h1;simp only at k3;unfold Cu at qY;simp only[k1,k2] at qY;obtain ⟨m3,j1,j2⟩:=qjB (x1:=ev st.tmps (.tmp t)) (x2:=ev st.tmps (.tmp u)) qY k4 k3;refine ⟨⟨st.tmps,m3⟩,by rw[k2,aa,j1];rfl,?_⟩;rw[NP hy g1 g6 g5,k1,aa];simp only;rw[j2]
  rfl
def qbo(C:Cfg)(ops:Array Oper)(sE:St)(i:Nat)(x:Oper)(r:List Nat)(j:Nat):Prop:=∃y,ops[j]?=some y/\(wZ ops y x=true\/∃bb t1 t t2 u,xK y x=some (bb,t1,t,t2,u)/\vO ops y x=true/\Cu C.P (bb,t1,t,t2,u) sE.tmps=true/\∀k∈r,∀o,ops[k]?=some o->o.dst≠some t/\o.dst≠some u)
theorem Sk{fid b:Nat}{cp:Nat->List AV->Option AV}{ci:Nat->List AV->ae->OM}{ops:Array Oper}{i:Nat}{x:Oper}(hx:ops[i]?=some x):∀(l:List Nat) (st s':St),l.Nodup->i∈l->rI ops b st.mem l->(∀(p:List Nat) (j:Nat) (r:List Nat),l=p++j::r->i∈r->qbo C ops s' i x (j::r) j) ->
  fc C fid cp ci (some b) ops l st=some s'->∃s1,bK C fid cp ci (some b) ops i st=some s1/\fc C fid cp ci (some b) ops (l.erase i) s1=some s'
 | [],_,_,_,hi,_,_,_=>by simp at hi
 | j::l,st,s',hnd,hi,hk,wG,hr=>by
  have aH:=hr;simp only[fc,aS] at hr;obtain ⟨s1,h1,hr⟩:=hr
  by_cases he:j=i
  .subst he;exact ⟨s1,h1,by simpa using hr⟩
  .have aU:i∈l:=by rcases dI.1 hi with h|h<;>first|exact absurd h.symm he|exact h
   have yp:=(List.nodup_cons.1 hnd);obtain ⟨s2,h2,C4⟩:=Sk hx l s1 s' yp.2 aU (DV h1 (fun k dO=>hk k (by simp[dO])) yp.1) (fun p k r lP uN=>wG (j::p) k r (by rw[lP];rfl) uN) hr;obtain ⟨y,hy,bI⟩:=wG [] j l rfl aU
   have qhc:∃s1',bK C fid cp ci (some b) ops i st=some s1'/\bK C fid cp ci (some b) ops j s1'=some s2:=by
    rcases bI with bI|⟨bb,t1,t,t2,u,hc,qv,qY,Tc⟩
    .exact swap hy hx he bI (fun k dO=>hk k (by
      simp only[dI,et,or_false] at dO
      rcases dO with rfl|rfl
      .simp
      .simp[aU])) h1 h2
    .refine qjM hx hy hc qv ?_ h1 h2;have ht:=NC (t:=t) (j::l) st s' (fun k dO o ho=>(Tc k dO o ho).1) aH;have hu:=NC (t:=u) (j::l) st s' (fun k dO o ho=>(Tc k dO o ho).2) aH;unfold Cu at qY ⊢;simp only[ht,hu] at qY;exact qY
   obtain ⟨s1',k1,k2⟩:=qhc;refine ⟨s1',k1,?_⟩
   have CR:(j::l).erase i=j::l.erase i:=by
    rw[List.erase_cons,ag (by simpa using he)]
   rw[CR];simp only[fc,k2,aa];exact C4
theorem Vm{ops:Array Oper}{ah:List Nat}{sp:List (Nat×Nat)}:∀{l:List Nat},AR ops ah sp l=true->∀(p:List Nat) (j:Nat) (r:List Nat),l=p++j::r->∀i∈r,(ah.getD i 0).testBit j=true\/(∃x y,ops[j]?=some x/\ops[i]?=some y/\wZ ops x y=true)\/(yb sp j i=true/\KM ops ah j i (j::r)=true)
 | [],_,p,j,r,h,_,_=>by simp at h
 | k::l,hp,p,j,r,h,i,hi=>by
  simp only[AR,dY,iX] at hp
  match p,h with
  | [],h=>
   simp only[aZ,qH] at h;obtain ⟨rfl,rfl⟩:=h;have:=hp.1 i hi;simp only[Bw,dY] at this
   rcases this with (h|h)|h
   .exact .inl h
   .refine .inr (.inl ?_)
    split at h
    .exact ⟨_,_,by assumption,by assumption,h⟩
    .cases h
   .exact .inr (.inr h)
  | k'::p,h=>
   simp only[bm,qH] at h;obtain ⟨rfl,rfl⟩:=h;exact Vm hp.2 p j r rfl i hi
theorem qdc(hC:CfgOk C){callI:Nat->List AV->ae->OM}(hI:nW C callI){fid b:Nat}{ops:Array Oper}{Q:Exit->Act->World->Prop}{canon:List Nat}(aG:∀k o,ops[k]?=some o->∀e∈o.after.toList,Region.binds .any e=true->e.on<k)
  {sp:List (Nat×Nat)} {sE:St} (wC:AR ops (tp ops) sp canon=true) (qY:∀j i,yb sp j i=true->Ct C.P ops j i sE.tmps=true) (hnd:canon.Nodup):∀(l:List Nat) (n:Nat),l.length=n->l.Sublist canon->∀(listed:Array Bool),listed.size=ops.size->(∀x,x<ops.size->(listed.getD x true=true↔x∉l))->(∀x∈l,x<ops.size) ->
  (∀k o,k<ops.size->k∉l->ops[k]?=some o->∀e∈o.after.toList,Region.binds .any e=true->e.on∉l) ->
  ∀(st s':St) (a:Act) (w:World) (g:G),s'=sE->fc C fid (gv callI) callI (some b) ops l st=some s'->rI ops b st.mem l->StR B w g st a ->
  (∀a' w' g',StR B w' g' s' a'->Step B w g w' g'->ij C.P a' a->Q .normal a' w')->wpAny C.P .any ops Q n listed a w:=by
 intro l n hn
 induction n generalizing l with
 | zero=>
  intro ft listed gU gK hQ oK st s' a w g Mi hr hk hs hq;have so:l=[]:=vD hn;subst so;simp only[fc,bp] at hr;subst hr;refine ⟨?_,hq a w g hs (Step.refl _ _ _) (ij.refl _ _)⟩;unfold Region.ready;rw[List.filter_eq_nil_iff];intro x hx;have:listed.getD x true=true:=(gK x (by simpa using hx)).2 (by simp);simp[this]
 | succ n ih=>
  intro ft listed gU gK hQ oK st s' a w g Mi hr hk hs hq
  have yx:∀i∈Region.ready .any ops listed,i∈l/\i<ops.size/\∃o,ops[i]?=some o/\∀e∈o.after.toList,Region.binds .any e=true->e.on∉l:=by
   intro i hi;unfold Region.ready at hi;simp only[uk,oC,dY,rH] at hi;obtain ⟨h1,h2,h3⟩:=hi
   have aU:i∈l:=by
    by_cases h:i∈l
    .exact h
    .have:=(gK i h1).2 h;rw[this] at h2;cases h2
   refine ⟨aU,h1,ops[i],by simp[h1],fun e he hb nk=>?_⟩;have ho:ops[i]?=some ops[i]:=by simp[h1]
   rw[ho] at h3;simp only[ar,nZ] at h3;have h4:=pI.1 h3 e (by simpa using he);simp only[hb,gk,zr] at h4;have h5:=aG i _ ho e he hb
   have h6:listed.getD e.on true=true:=by
    have iZ:e.on<listed.size:=by omega
    simp only[Array.getD,iZ,dif_pos] at h4 ⊢;exact h4
   exact (gK e.on (by omega)).1 h6 nk
  refine ⟨fun nj=>?_,fun i hi=>?_⟩
  ·
   exfalso;have aE:l≠[]:=fun h=>by rw[h] at hn;simp at hn
   obtain ⟨mn,qx,uS⟩:∃mn∈l,∀x∈l,mn<=x:=by
    exact Dp l aE
   have iF:=hQ mn qx
   have:mn∈Region.ready .any ops listed:=by
    unfold Region.ready;simp only[uk,oC,dY,rH]
    refine ⟨iF,?_,?_⟩
    .cases hb:listed.getD mn true with
     | false=>rfl
     | true=>exact absurd qx ((gK mn iF).1 hb)
    .have ho:ops[mn]?=some ops[mn]:=by simp[iF]
     rw[ho];simp only[ar,nZ];rw[pI];intro e he
     by_cases hb:Region.binds .any e=true
     .have h5:=aG mn _ ho e (by simpa using he) hb;have h6:e.on∉l:=fun h=>by have:=uS _ h;omega
      have h7:=(gK e.on (by omega)).2 h6;have iZ:e.on<listed.size:=by omega
      have h8:listed.getD e.on false=true:=by
       simp only[Array.getD,iZ,dif_pos] at h7 ⊢;exact h7
      rw[h8];simp
     .simp at hb;simp[hb]
   rw[nj] at this;simp at this
  .obtain ⟨aU,wo,x,hx,qZ⟩:=yx i hi
   obtain ⟨s1,h1,h2⟩:=Sk hx l st s' (hnd.sublist ft) aU hk (fun p j r lP uN=>by
    have Tx:j∈l:=by rw[lP];simp
    obtain ⟨pre,post,tB,TU⟩:∃pc qc,canon=pc++j::qc/\∀y∈r,y∈qc:=by
     have T2:=ft;rw[lP] at T2;obtain ⟨c1,c2,hc,eM,eS⟩:=Fi.1 T2;obtain ⟨d1,d2,hd,_,sb⟩:=List.cons_sublist_iff.1 eS;obtain ⟨e1,e2,he⟩:=xv ‹j∈d1›;exact ⟨c1++e1,e2++d2,by rw[hc,hd,he];simp,fun y hy=>kT.2 (.inr (sb.subset hy))⟩
    rcases Vm wC pre j post tB i (TU i uN) with h|⟨y,x',hy,hZ,bI⟩|⟨jZ,yd⟩
    .exfalso;have fp:((nc ops ops.size).getD i 0).testBit j=true:=h
     have:=Cd (D:=fun k=>k∉l) (fun k o dO iR e he hb=>by
      rcases tj k ops.size with bu|bu
      .exact oK k o bu dO iR e he hb
      .rw[En bu] at iR;cases iR) aG ops.size i x wo hx qZ j fp
     exact this Tx
    .obtain rfl:x=x':=by simpa [hx] using hZ
     exact ⟨y,hy,.inl bI⟩
    .have hd:=qY j i jZ;unfold Ct at hd;unfold KM at yd
     cases hy:ops[j]? with
     | none=>rw[hy] at hd;cases hd
     | some y=>
      rw[hy,hx] at hd yd;simp only at hd yd
      cases LA:xK y x with
      | none=>rw[LA] at hd;cases hd
      | some c=>
       obtain ⟨bb,t1,t,t2,u⟩:=c;rw[LA] at hd yd;simp only[dY,iX] at hd yd;refine ⟨y,hy,.inr ⟨bb,t1,t,t2,u,LA,yd.1,by rw[Mi];exact hd,fun k dO o ho=>?_⟩⟩
       have TC:k∈j::post:=by
        rcases dI.1 dO with h|h
        .simp[h]
        .exact nX _ (TU k h)
       have:=yd.2 k TC;rw[ho] at this;simp only[dY,Bw,bne_iff_ne,ne_eq] at this;refine ⟨this.1,this.2.resolve_right fun h=>?_⟩;have fp:((nc ops ops.size).getD i 0).testBit k=true:=h
       have:=Cd (D:=fun k=>k∉l) (fun k o dO iR e he hb=>by
        rcases tj k ops.size with bu|bu
        .exact oK k o bu dO iR e he hb
        .rw[En bu] at iR;cases iR) aG ops.size i x wo hx qZ k fp
       exact this (by rw[lP];exact kT.2 (.inr dO))) hr
   refine H9 hC hI h1 hs (fun b' fm=>by cases fm;exact fun k dO=>hk k (by simp at dO;rw[dO];exact aU)) fun a' w' g' dP s hd=>?_
   have fp:∀y,y∈l.erase i↔y∈l/\y≠i:=fun y=>by
    rw[(hnd.sublist ft).mem_erase_iff];exact And.comm
   refine ih (l.erase i) (by rw[List.length_erase_of_mem aU];omega) (List.Sublist.trans List.erase_sublist ft) (listed.setIfInBounds i true) (by simpa using gU) (fun y hy=>?_) (fun y hy=>hQ y ((fp y).1 hy).1) (fun k o bu pU iR e he hb nk=>?_) s1 s' a' w' g' Mi h2 (fun k dO o ho hm=>?_) dP fun a'' w'' g'' mc s' gB=>hq a'' w'' g'' mc (s.trans s') (gB.trans hd)
   .have oP:y<listed.size:=by omega
    have hg:(listed.setIfInBounds i true).getD y true=if i=y then true else listed.getD y true:=by
     simp only[fV,xk]
     by_cases jA:i=y
     .subst jA;simp[oP]
     .simp[jA]
    rw[hg,fp]
    by_cases jA:i=y
    .subst jA;simp
    .rw[ag jA,gK y hy]
     constructor
     .intro h h';exact h h'.1
     .intro h h';exact h ⟨h',fun he=>jA he.symm⟩
   .have ss:=(fp _).1 nk
    by_cases sj:k=i
    .subst sj;obtain rfl:x=o:=by simpa [hx] using iR
     exact qZ e he hb ss.1
    .exact oK k o bu (fun h=>pU ((fp k).2 ⟨h,sj⟩)) iR e he hb ss.1
   .exact DV h1 (fun k' uO=>hk k' ((fp k').1 uO).1) (fun h=>((fp i).1 h).2 rfl) k dO o ho hm
theorem qfL(hC:CfgOk C){callI:Nat->List AV->ae->OM}(hI:nW C callI){R:Type}{fid id:Nat}{ops:Array Oper}{Q:Exit->Act->World->Prop}{canon:List Nat}{ah:List Nat}{pr:Nat×Nat}{sp:List (Nat×Nat)}(bI:vW C.P ops canon ah (pr::sp)=true){st:St}{K:St->Option R}{r:R}{a:Act}
  (h:kR C fid (gv callI) callI (some st.mem.length) ops canon ⟨st.tmps,eH st.mem (eE ops ops.size)⟩ (fun st'=>sZ C.P ops st' K (pr::sp))=some r) (hs:StR B w g st a)
  (hn:∀s' a' w' g',K s'=some r->StR B w' g' s' a'->Step B w g w' g'->ij C.P a' a->Q .normal a' w'):(Code.region id ops true).wp C.P Q a w:=by
 obtain ⟨h1,h2,h3,h4⟩:=qfG bI;have kY:canon.Perm (List.range ops.size):=List.isPerm_iff.1 h2
 have aG:∀k o,ops[k]?=some o->∀e∈o.after.toList,Region.binds .any e=true->e.on<k:=by
  intro k o hk e he hb;have jh:=(eA.1 hk).1;have:=iX.1 h3 k (by simpa using jh);rw[hk] at this;simp only at this;have:=pI.1 this e (by simpa using he);simpa [hb] using this
 rw[qh,Ns] at h;simp only[aS] at h;obtain ⟨s',hr,hK⟩:=h;obtain ⟨hK,qY⟩:=WZ _ hK;refine wp_region_any h1 ?_
 refine qdc hC hI aG h4 qY (kY.nodup_iff.2 List.nodup_range) canon ops.size (by rw[kY.length_eq];simp) (List.Sublist.refl _) _ (by simp) (fun x hx=>?_) (fun x hx=>by simpa using kY.mem_iff.1 hx) (fun k o hk dO=>?_) _ s' a _ g rfl hr (Mu ops st.mem canon) ⟨hs.tmp.step (Step.drew B w g),MK (B:=B) (w:=w.drew) (g:=g) hs.mem.drew _,hs.size⟩ ?_
 .have:x∈canon:=kY.mem_iff.2 (by simpa using hx);simp[this,Array.getD,hx]
 .exact absurd (kY.mem_iff.2 (by simpa using hk)) dO
 .intro a' w' g' dP s hd;exact hn s' a' w' g' hK dP ((Step.drew B w g).trans s) hd
end
end Go.Ab
namespace Go.Ab
open Go.RowKit
section
variable {R:Type}
open Classical in
noncomputable def Hh(p:Prop)(x:Option R):Option R:=if p then x else none
theorem Hi{p:Prop}{x:Option R}(h:p):Hh p x=x:=aj h
theorem qhl{p:Prop}{x:Option R}(h:¬ p):Hh p x=none:=ag h
def wa(o:Oper)(ts:List AV):AV:=match o.dst with
 | some d=>ts.getD d .any
 | none=>.any
def nE(C:Cfg)(fid:Nat)(ops:Array Oper)(y:Nat)(s:St):Prop:=match ops[y]? with
 | some o=>eZ C fid (fun _ _=>none) (fun _ _ _=>none) none ops y o s.tmps s.mem=some (wa o s.tmps,s.mem)
 | none=>True
noncomputable def vS(C:Cfg)(fid:Nat)(ops:Array Oper):List Nat->St->Option R->Option R
 | [],_,x=>x
 | y::ys,s,x=>Hh (nE C fid ops y s) (vS C fid ops ys s x)
theorem xJ{C:Cfg}{fid:Nat}{ops:Array Oper}:∀{ys:List Nat} {s:St} {x:Option R},(∀y∈ys,nE C fid ops y s)->vS C fid ops ys s x=x
 | [],_,_,_=>rfl
 | y::ys,s,x,h=>by
  rw[vS,Hi (h y oB)];exact xJ fun z hz=>h z (nX _ hz)
theorem KH{C:Cfg}{fid:Nat}{ops:Array Oper}:∀{ys:List Nat} {s:St} {x:Option R},¬ (∀y∈ys,nE C fid ops y s)->vS C fid ops ys s x=none
 | [],_,_,h=>absurd (fun _ hz=>by cases hz) h
 | y::ys,s,x,h=>by
  rw[vS]
  by_cases hy:nE C fid ops y s
  .rw[Hi hy]
   exact KH fun hh=>h fun z hz=>by
    rcases dI.1 hz with rfl|hz
    .exact hy
    .exact hh z hz
  .exact qhl hy
theorem Gc{C:Cfg}{fid:Nat}{ops:Array Oper}{ys:List Nat}{s:St}{x:Option R}{r:R}(h:vS C fid ops ys s x=some r):(∀y∈ys,nE C fid ops y s)/\x=some r:=by
 by_cases hc:∀y∈ys,nE C fid ops y s
 .rw[xJ hc] at h;exact ⟨hc,h⟩
 .rw[KH hc] at h;cases h
noncomputable def oW(C:Cfg)(fid:Nat)(callP:Nat->List AV->Option AV)(callI:Nat->List AV->ae->OM)(lt:List (Nat×List Nat))(ops:Array Oper):List Nat->St->(St->Option R)->Option R
 | [],st,K=>K st
 | i::l,st,K=>kR C fid callP callI none ops [i] st fun s1=>vS C fid ops (qa lt i) s1 (oW C fid callP callI lt ops l s1 K)
end
section
variable {C:Cfg} {fid:Nat} {callP:Nat->List AV->Option AV} {callI:Nat->List AV->ae->OM}
theorem vq{R:Type}(lt:List (Nat×List Nat))(ops:Array Oper)(i:Nat)(l:List Nat)(st:St)(K:St->Option R) :
  oW C fid callP callI lt ops (i::l) st K=(bK C fid callP callI none ops i st).bind fun s1=>vS C fid ops (qa lt i) s1 (oW C fid callP callI lt ops l s1 K):=by
 rw[oW,qh];simp only[fc];cases bK C fid callP callI none ops i st<;>rfl
def vA(C:Cfg)(fid:Nat)(callP:Nat->List AV->Option AV)(callI:Nat->List AV->ae->OM)(lt:List (Nat×List Nat))(ops:Array Oper):List Nat->List Nat->St->Prop
 | _,[],_=>True
 | done,i::l,st=>∀s1,bK C fid callP callI none ops i st=some s1->(∀y∈qa lt i,y∈done->nE C fid ops y s1)/\vA C fid callP callI lt ops (i::done) l s1
theorem vA.anti{lt:List (Nat×List Nat)}{ops:Array Oper}:∀{l done done':List Nat} {st:St},vA C fid callP callI lt ops done l st->(∀y∈done',y∈done)->vA C fid callP callI lt ops done' l st
 | [],_,_,_,_,_=>trivial
 | i::l,done,done',st,h,hd=>fun s1 h1=>by
  obtain ⟨a,b⟩:=h s1 h1;refine ⟨fun y hy hyd=>a y hy (hd y hyd),b.anti fun y hy=>?_⟩
  rcases dI.1 hy with rfl|hy
  .exact oB
  .exact nX _ (hd y hy)
theorem V4{R:Type}{lt:List (Nat×List Nat)}{ops:Array Oper}:∀{l:List Nat} {st:St} {K:St->Option R} {r:R} (done:List Nat),oW C fid callP callI lt ops l st K=some r ->
  ∃s',fc C fid callP callI none ops l st=some s'/\K s'=some r/\vA C fid callP callI lt ops done l st
 | [],st,K,r,_,h=>⟨st,rfl,h,trivial⟩
 | i::l,st,K,r,done,h=>by
  rw[vq,aS] at h;obtain ⟨s1,h1,h⟩:=h;obtain ⟨hc,h⟩:=Gc h;obtain ⟨s',h2,h3,h4⟩:=V4 (i::done) h;refine ⟨s',by simp only[fc,h1,aa];exact h2,h3,fun s1' SP=>?_⟩;rw[h1] at SP;obtain rfl:=kz SP;exact ⟨fun y hy _=>hc y hy,h4⟩
theorem KI{o:Oper}(h:iD o=.N):iM o=.N:=by
 unfold iD at h
 split at h
 .assumption
 .split at h<;>cases h
 .cases h
theorem RO{o:Oper}(h:iD o=.L):∃t x,o.op=.load t x:=by
 unfold iD at h
 split at h
 .cases h
 .split at h
  .rename_i t x ho;exact ⟨t,x,ho⟩
  .cases h
 .cases h
theorem HG{d:Option Nat}{o:Oper}{ρ:Operand->AV}{m m1:ae}{v:AV}(hc:iD o=.L)(h:ep C fid callP callI d o ρ m=some (v,m1)):m1=m:=by
 obtain ⟨t,x,ho⟩:=RO hc;unfold ep jr at h;rw[ho] at h;simp only at h
 split at h
 .obtain ⟨v',h1,h2⟩:=aS.1 h;simp only[bp,dT] at h2;exact h2.2.symm
 .cases h
theorem qjQ{ops:Array Oper}{i j:Nat}{st s1 s2:St}{x y:Oper}(hx:ops[i]?=some x)(hy:ops[j]?=some y)(bI:vt ops x y=true)
  (h1:bK C fid callP callI none ops i st=some s1) (h2:bK C fid callP callI none ops j s1=some s2):∃s1',bK C fid callP callI none ops j st=some s1'/\bK C fid callP callI none ops i s1'=some s2:=by
 obtain ⟨x',vi,mi,hZ,nn,rfl⟩:=qE h1;obtain rfl:x=x':=by simpa [hx] using hZ
 obtain ⟨y',vj,mj,uZ,jX,rfl⟩:=qE h2;obtain rfl:y=y':=by simpa [hy] using uZ
 unfold vt at bI;simp only[dY] at bI;obtain ⟨tC,qv⟩:=bI;obtain ⟨a1,a2,a3⟩:=F2 qv;simp only at jX;have cj:∀m,eZ C fid callP callI none ops j y (ee st.tmps x.dst vi) m=eZ C fid callP callI none ops j y st.tmps m:=fun m=>yR fun t ht=>vr fun hd=>a1 t hd ht;have ci:∀v m,eZ C fid callP callI none ops i x (ee st.tmps y.dst v) m=eZ C fid callP callI none ops i x st.tmps m:=fun v m=>yR fun t ht=>vr fun hd=>a2 t hd ht;rw[cj] at jX
 have enough:∀m1,eZ C fid callP callI none ops j y st.tmps st.mem=some (vj,m1)->eZ C fid callP callI none ops i x st.tmps m1=some (vi,mj) ->
   ∃s1',bK C fid callP callI none ops j st=some s1'/\bK C fid callP callI none ops i s1'=some ⟨ee (ee st.tmps x.dst vi) y.dst vj,mj⟩:=by
  intro m1 e1 e2;refine ⟨⟨ee st.tmps y.dst vj,m1⟩,by simp[bK,hy,e1],?_⟩;simp only[bK,hx,ci,e2,ar];rw[NG a3]
 have nI:iD x=.N->mi=st.mem/\∀m',eZ C fid callP callI none ops i x st.tmps m'=some (vi,m'):=fun hc=>by
  rcases om nn with ⟨hf,dS⟩|⟨rfl,dS⟩
  .obtain ⟨rfl,h⟩:=AO (KI hc) hf;exact ⟨rfl,fun m'=>(dS m').trans (h m')⟩
  .exact ⟨rfl,dS⟩
 have nJ:iD y=.N->mj=mi/\∀m',eZ C fid callP callI none ops j y st.tmps m'=some (vj,m'):=fun hc=>by
  rcases om jX with ⟨hf,dS⟩|⟨rfl,dS⟩
  .obtain ⟨rfl,h⟩:=AO (KI hc) hf;exact ⟨rfl,fun m'=>(dS m').trans (h m')⟩
  .exact ⟨rfl,dS⟩
 have lI:iD x=.L->mi=st.mem:=fun hc=>by
  rcases om nn with ⟨hf,_⟩|⟨rfl,_⟩
  .exact HG hc hf
  .rfl
 have lJ:iD y=.L->mj=mi:=fun hc=>by
  rcases om jX with ⟨hf,_⟩|⟨rfl,_⟩
  .exact HG hc hf
  .rfl
 cases nh:iD x with
 | N=>
  obtain ⟨rfl,dS⟩:=nI nh;exact enough mj jX (dS mj)
 | L=>
  obtain rfl:=lI nh
  cases jL:iD y with
  | N=>
   obtain ⟨rfl,dS⟩:=nJ jL;exact enough _ jX nn
  | L=>
   obtain rfl:=lJ jL;exact enough _ jX nn
  | _=>rw[nh,jL] at tC;cases tC
 | _=>
  cases jL:iD y with
  | N=>
   obtain ⟨rfl,dS⟩:=nJ jL;exact enough _ (dS _) nn
  | _=>rw[nh,jL] at tC;cases tC
theorem qif{cp':Nat->List AV->Option AV}{ci':Nat->List AV->ae->OM}{d d':Option Nat}{o:Oper}{ρ:Operand->AV}{m:ae}(hc:iD o=.L):ep C fid callP callI d o ρ m=ep C fid cp' ci' d' o ρ m:=by
 obtain ⟨t,x,ho⟩:=RO hc;unfold ep jr;rw[ho]
theorem qii{cp':Nat->List AV->Option AV}{ci':Nat->List AV->ae->OM}{ops:Array Oper}{i:Nat}{o:Oper}{ts:List AV}{m:ae}(hc:iD o=.L):eZ C fid callP callI none ops i o ts m=eZ C fid cp' ci' none ops i o ts m:=by
 unfold eZ;rw[qif (callP:=callP) (callI:=callI) (cp':=cp') (ci':=ci') (d':=Option.map (· + eE ops i) none) hc]
theorem CC{ts:List AV}{d:Option Nat}{v:AV}{t:Nat}:(ee ts d v).getD t .any=if d=some t/\t<ts.length then v else ts.getD t .any:=by
 cases d with
 | none=>simp[ee]
 | some d=>
  simp only[ee,bA,zK,bp]
  by_cases h:d=t
  .subst h
   by_cases hl:d<ts.length
   .simp[hl]
   .simp[hl]
  .simp[h]
theorem nE.same{ops:Array Oper}{y:Nat}{s s':St}(hm:s'.mem=s.mem)(ht:∀oy,ops[y]?=some oy->(∀t∈py ops oy,s'.tmps.getD t .any=s.tmps.getD t .any)/\wa oy s'.tmps=wa oy s.tmps)(h:nE C fid ops y s):nE C fid ops y s':=by
 unfold nE at h ⊢
 cases ho:ops[y]? with
 | none=>trivial
 | some oy=>
  rw[ho] at h;simp only at h ⊢;obtain ⟨h1,h2⟩:=ht oy ho;rw[yR h1,h2,hm];exact h
theorem qjN{ops:Array Oper}{i j:Nat}{st s1 s2:St}{x y:Oper}(hx:ops[i]?=some x)(hy:ops[j]?=some y)(bI:yH ops y x=true)
  (h1:bK C fid callP callI none ops j st=some s1) (h2:bK C fid callP callI none ops i s1=some s2) (hc:nE C fid ops j s2):∃s1',bK C fid callP callI none ops i st=some s1'/\bK C fid callP callI none ops j s1'=some s2:=by
 obtain ⟨y',vj,mj,uZ,jX,rfl⟩:=qE h1;obtain rfl:y=y':=by simpa [hy] using uZ
 obtain ⟨x',vi,mi,hZ,nn,rfl⟩:=qE h2;obtain rfl:x=x':=by simpa [hx] using hZ
 unfold yH at bI;simp only[dY] at bI;obtain ⟨kH,qv,G9⟩:=bI
 have kH:iD y=.L:=by split at kH<;>first|assumption|cases kH
 obtain ⟨a1,a2,a3⟩:=F2 qv;have G9:∀d,y.dst=some d->d∉py ops y:=fun d hd=>by rw[hd] at G9;simpa using G9
 have LZ:mj=st.mem:=by
  rcases om jX with ⟨hf,_⟩|⟨rfl,_⟩
  .exact HG kH hf
  .rfl
 subst LZ;simp only at nn
 have qgY:eZ C fid callP callI none ops i x st.tmps st.mem=some (vi,mi):=by
  rw[<- nn];exact (yR fun t ht=>vr fun hd=>a1 t hd ht).symm
 unfold nE at hc;rw[hy] at hc;simp only at hc
 have tE:eZ C fid callP callI none ops j y (ee st.tmps x.dst vi) mi=some (wa y (ee (ee st.tmps y.dst vj) x.dst vi),mi):=by
  rw[qii (callP:=callP) (callI:=callI) (cp':=fun _ _=>none) (ci':=fun _ _ _=>none) kH,<- hc];refine yR fun t ht=>?_;rw[CC,CC,CC];have:y.dst≠some t:=fun hd=>G9 t hd ht;have hl:(ee st.tmps y.dst vj).length=st.tmps.length:=by cases y.dst<;>simp[ee]
  simp only[this,false_and,j6,hl]
 refine ⟨⟨ee st.tmps x.dst vi,mi⟩,by simp[bK,hx,qgY],?_⟩;simp only[bK,hy,tE,ar,bp,St.mk.injEq,and_true]
 cases hd:y.dst with
 | none=>simp[ee]
 | some d=>
  have Ub:x.dst≠some d:=fun he=>by rcases a3 with h|h<;>simp_all
  have e1:wa y (ee (ee st.tmps (some d) vj) x.dst vi)=if d<st.tmps.length then vj else .any:=by
   unfold wa;rw[hd];simp only;rw[CC,CC];simp only[Ub,false_and,j6,true_and]
   by_cases hl:d<st.tmps.length
   .rw[aj hl,aj hl]
   .rw[ag hl,ag hl];simp[bA,iC (vG hl)]
  rw[e1]
  by_cases hl:d<st.tmps.length
  .rw[aj hl];exact (NG (.inr (fun he=>Ub he))).trans rfl |>.symm▸rfl
  .have To:st.tmps.length<=d:=vG hl
   have hn:∀(ts:List AV) v,ts.length=st.tmps.length->ee ts (some d) v=ts:=fun ts v hle=>by
    simp only[ee];exact List.set_eq_of_length_le (hle▸To)
   rw[hn _ _ (by cases x.dst<;>simp[ee]),hn st.tmps vj rfl]
theorem H8{ops:Array Oper}{i:Nat}{x:Oper}{st s1:St}{base:Option Nat}(hx:ops[i]?=some x)(h:bK C fid callP callI base ops i st=some s1)(t:Nat)(ht:x.dst≠some t):s1.tmps.getD t .any=st.tmps.getD t .any:=by
 obtain ⟨x',v,m,hZ,_,rfl⟩:=qE h;obtain rfl:x=x':=by simpa [hx] using hZ
 exact vr ht
theorem WD{ops:Array Oper}{i:Nat}{x:Oper}{st s1:St}(hx:ops[i]?=some x)(h:bK C fid callP callI none ops i st=some s1)(hc:iD x=.N\/iD x=.L):s1.mem=st.mem:=by
 obtain ⟨x',v,m,hZ,hr,rfl⟩:=qE h;obtain rfl:x=x':=by simpa [hx] using hZ
 rcases om hr with ⟨hf,_⟩|⟨rfl,_⟩
 .rcases hc with hc|hc
  .exact (AO (KI hc) hf).1
  .exact HG hc hf
 .rfl
def xA(ops:Array Oper)(lt:List (Nat×List Nat))(y:Nat)(l:List Nat):Prop:=(lt.any fun p=>p.2.contains y)=true->∀oy,ops[y]?=some oy->∀k∈l,∀o,ops[k]?=some o->∀d,o.dst=some d->d∉py ops oy/\oy.dst≠some d
theorem Up{lt:List (Nat×List Nat)}{i y:Nat}(h:y∈qa lt i):(lt.any fun p=>p.2.contains y)=true:=by
 induction lt with
 | nil=>cases h
 | cons p lt ih=>
  obtain ⟨k,ys⟩:=p;simp only[qa] at h;simp only[List.any_cons,Bw]
  split at h
  .exact .inl (by simpa using h)
  .exact .inr (ih h)
theorem qjx{ops:Array Oper}{x:Oper}{l:List Nat}(h:Ww ops x l=true):∀k∈l,∀o,ops[k]?=some o->∀d,o.dst=some d->d∉py ops x/\x.dst≠some d:=by
 intro k hk o ho d hd;have:=iX.1 h k hk;rw[ho] at this;simp only[hd] at this;simpa using this
structure Facts (ops:Array Oper) (lt:List (Nat×List Nat)) (l:List Nat):Prop where
 late:∀j∈l,∀x,ops[j]?=some x->qa lt j≠[]->iD x=.W
 still:∀(p q:List Nat) (j:Nat),l=p++j::q->xA ops lt j q
theorem Facts.tail{ops:Array Oper}{lt:List (Nat×List Nat)}{j:Nat}{l:List Nat}(h:Facts ops lt (j::l)):Facts ops lt l:=
 ⟨fun k hk=>h.late k (nX _ hk),fun p q k e=>h.still (j::p) q k (by rw[e];rfl)⟩
theorem xA.sub{ops:Array Oper}{lt:List (Nat×List Nat)}{y:Nat}{l l':List Nat}(h:xA ops lt y l)(hs:∀k∈l',k∈l):xA ops lt y l':=fun a oy b k hk=>h a oy b k (hs k hk)
theorem Facts.sub{ops:Array Oper}{lt:List (Nat×List Nat)}{l l':List Nat}(h:Facts ops lt l)(hs:l'.Sublist l):Facts ops lt l':=by
 refine ⟨fun k hk=>h.late k (hs.subset hk),fun p q j e=>?_⟩;subst e;obtain ⟨c1,c2,rfl,eM,eS⟩:=Fi.1 hs;obtain ⟨d1,d2,rfl,iP,jz⟩:=List.cons_sublist_iff.1 eS;obtain ⟨e1,e2,rfl⟩:=xv iP;have:=h.still (c1++e1) (e2++d2) j (by simp);exact this.sub fun k hk=>kT.2 (.inr (jz.subset hk))
theorem Vn{ops:Array Oper}{ah:List Nat}{lt:List (Nat×List Nat)}:∀{l:List Nat},vk ops ah lt l=true->Facts ops lt l
 | [],_=>⟨fun _ h=>by simp at h,fun p q j e=>by simp at e⟩
 | j::l,h=>by
  simp only[vk,dY] at h;obtain ⟨⟨_,h1⟩,h2⟩:=h;have ih:=Vn h2
  have hj:∀x,ops[j]?=some x->(qa lt j≠[]->iD x=.W)/\xA ops lt j l:=fun x hx=>by
   rw[hx] at h1;simp only[dY,Bw] at h1
   refine ⟨fun aE=>?_,fun ha oy G5=>?_⟩
   .have:=h1.1
    split at this
    .rename_i he;exact absurd he aE
    .split at this<;>first|assumption|cases this
   .obtain rfl:x=oy:=by simpa [hx] using G5
    rcases h1.2 with hh|hh
    .rw[ha] at hh;cases hh
    .exact qjx hh
  refine ⟨fun k hk x hx=>?_,fun p q k e=>?_⟩
  .rcases dI.1 hk with rfl|hk
   .exact (hj x hx).1
   .exact ih.late k hk x hx
  .match p,e with
   | [],e=>
    simp only[aZ,qH] at e;obtain ⟨rfl,rfl⟩:=e
    cases hx:ops[j]? with
    | none=>intro _ oy G5;rw[hx] at G5;cases G5
    | some x=>exact (hj x hx).2
   | k'::p,e=>
    simp only[bm,qH] at e;exact ih.still p q k e.2
theorem qin{ops:Array Oper}{ah:List Nat}{lt:List (Nat×List Nat)}{canon l:List Nat}(h:vk ops ah lt canon=true)(hs:l.Sublist canon):Facts ops lt l:=(Vn h).sub hs
theorem qjO{ops:Array Oper}{x y:Oper}(h:vt ops x y=true)(hw:iD x=.W):iD y=.N:=by
 unfold vt at h;simp only[dY] at h;rw[hw] at h
 cases hy:iD y<;>rw[hy] at h<;>first|rfl|exact absurd h.1 (by simp)
theorem qjP{ops:Array Oper}{x y:Oper}(h:vt ops x y=true)(hw:iD y=.W):iD x=.N:=by
 unfold vt at h;simp only[dY] at h;rw[hw] at h
 cases hy:iD x<;>rw[hy] at h<;>first|rfl|exact absurd h.1 (by simp)
theorem Sl{lt:List (Nat×List Nat)}{ops:Array Oper}{i:Nat}{x:Oper}(hx:ops[i]?=some x):∀(l done:List Nat) (st s':St),l.Nodup->i∈l->vA C fid callP callI lt ops done l st->Facts ops lt l->(∀y∈done,xA ops lt y l) ->
  (∀(p q:List Nat),l=p++i::q->∀j∈p,∃y,ops[j]?=some y/\(vt ops y x=true\/(j∈qa lt i/\yH ops y x=true))) ->
  fc C fid callP callI none ops l st=some s'->∃s1,bK C fid callP callI none ops i st=some s1/\fc C fid callP callI none ops (l.erase i) s1=some s'/\vA C fid callP callI lt ops done (l.erase i) s1/\(∀y∈qa lt i,y∈done->nE C fid ops y s1)
 | [],_,_,_,_,hi,_,_,_,_,_=>by simp at hi
 | j::l,done,st,s',hnd,hi,uL,GO,eD,wG,hr=>by
  simp only[fc,aS] at hr;obtain ⟨s1,h1,hr⟩:=hr;obtain ⟨CT,Av⟩:=uL s1 h1
  by_cases he:j=i
  .subst he;refine ⟨s1,h1,by simpa using hr,?_,CT⟩;rw[List.erase_cons_head];exact Av.anti fun y hy=>nX _ hy
  .have aU:i∈l:=by rcases dI.1 hi with h|h<;>first|exact absurd h.symm he|exact h
   have yp:=(List.nodup_cons.1 hnd)
   have qhb:∀y∈j::done,xA ops lt y l:=fun y hy=>by
    rcases dI.1 hy with rfl|hy
    .exact GO.still [] l y rfl
    .exact (eD y hy).sub fun k hk=>nX _ hk
   obtain ⟨s2,h2,C4,hgo,S6⟩:=Sl hx l (j::done) s1 s' yp.2 aU Av GO.tail qhb (fun p q lP k GW=>wG (j::p) q (by rw[lP];rfl) k (by simp[GW])) hr;obtain ⟨p,q,lP⟩:=xv aU;obtain ⟨y,hy,bI⟩:=wG (j::p) q (by rw[lP];rfl) j (by simp)
   obtain ⟨s1',k1,k2⟩:∃s1',bK C fid callP callI none ops i st=some s1'/\bK C fid callP callI none ops j s1'=some s2:=by
    rcases bI with bI|⟨hm,bI⟩
    .exact qjQ hy hx bI h1 h2
    .exact qjN hx hy bI h1 h2 (S6 j hm oB)
   have CR:(j::l).erase i=j::l.erase i:=by
    rw[List.erase_cons,ag (by simpa using he)]
   rw[CR]
   refine ⟨s1',k1,by simp only[fc,k2,aa];exact C4,fun s2' iv=>?_,fun z hz Dh=>?_⟩
   .rw[k2] at iv;obtain rfl:=kz iv;refine ⟨fun z hz Dh=>?_,hgo⟩;have jg:=GO.late j oB y hy (fun h=>by rw[h] at hz;cases hz)
    have aD:iD x=.N:=by
     rcases bI with bI|⟨_,bI⟩
     .exact qjO bI jg
     .unfold yH at bI;rw[jg] at bI;simp at bI
    refine (CT z hz Dh).same (WD hx h2 (.inl aD)) fun oz L6=>?_;have hs:=eD z Dh (Up hz) oz L6 i (nX _ aU) x hx;refine ⟨fun t ht=>H8 hx h2 t fun hd=>(hs t hd).1 ht,?_⟩;unfold wa
    cases hd:oz.dst with
    | none=>rfl
    | some d=>exact H8 hx h2 d fun gB=>(hs d gB).2 hd
   .have hiw:=GO.late i (nX _ aU) x hx (fun h=>by rw[h] at hz;cases hz)
    have tO:iD y=.N\/iD y=.L:=by
     rcases bI with bI|⟨_,bI⟩
     .exact .inl (qjP bI hiw)
     .unfold yH at bI;simp only[dY] at bI;have:=bI.1;right
      split at this<;>first|assumption|cases this
    refine (S6 z hz (nX _ Dh)).same (WD hy k2 tO).symm fun oz L6=>?_;have hs:=eD z Dh (Up hz) oz L6 j oB y hy;refine ⟨fun t ht=>(H8 hy k2 t fun hd=>(hs t hd).1 ht).symm,?_⟩;unfold wa
    cases hd:oz.dst with
    | none=>rfl
    | some d=>exact (H8 hy k2 d fun gB=>(hs d gB).2 hd).symm
theorem Vo{ops:Array Oper}{ah:List Nat}{lt:List (Nat×List Nat)}:∀{l:List Nat},vk ops ah lt l=true->∀(p q:List Nat) (i:Nat),l=p++i::q->∀j∈p,(ah.getD i 0).testBit j=true\/∃x y,ops[j]?=some x/\ops[i]?=some y/\(vt ops x y=true\/(j∈qa lt i/\yH ops x y=true))
 | [],_,p,q,i,h,_,_=>by simp at h
 | k::l,hp,p,q,i,h,j,hj=>by
  simp only[vk,dY,iX] at hp
  match p,h with
  | k'::p,h=>
   simp only[bm,qH] at h;obtain ⟨rfl,rfl⟩:=h
   rcases dI.1 hj with rfl|hj
   .have:=hp.1.1 i (by simp)
    rcases Bool.or_eq_true_iff.1 this with h|h
    .exact .inl h
    .refine .inr ?_
     split at h
     .refine ⟨_,_,by assumption,by assumption,?_⟩
      rcases Bool.or_eq_true_iff.1 h with h|h
      .exact .inl h
      .simp only[dY] at h;exact .inr ⟨by simpa using h.1,h.2⟩
     .cases h
   .exact Vo hp.2 p q i rfl j hj
end
section
variable [WInv] {C:Cfg} {B:Nat} {w:World} {g:G}
theorem qdd(hC:CfgOk C){callI:Nat->List AV->ae->OM}(hI:nW C callI){fid:Nat}{lt:List (Nat×List Nat)}{ops:Array Oper}{Q:Exit->Act->World->Prop}{canon:List Nat}(aG:∀k o,ops[k]?=some o->∀e∈o.after.toList,Region.binds .any e=true->e.on<k)
  (wC:vk ops (tp ops) lt canon=true) (hnd:canon.Nodup):∀(l:List Nat) (n:Nat),l.length=n->l.Sublist canon->∀(listed:Array Bool),listed.size=ops.size->(∀x,x<ops.size->(listed.getD x true=true↔x∉l))->(∀x∈l,x<ops.size) ->
  (∀k o,k<ops.size->k∉l->ops[k]?=some o->∀e∈o.after.toList,Region.binds .any e=true->e.on∉l) ->
  ∀(st s':St) (a:Act) (w:World) (g:G),fc C fid (gv callI) callI none ops l st=some s'->vA C fid (gv callI) callI lt ops [] l st->StR B w g st a ->
  (∀a' w' g',StR B w' g' s' a'->Step B w g w' g'->ij C.P a' a->Q .normal a' w')->wpAny C.P .any ops Q n listed a w:=by
 intro l n hn
 induction n generalizing l with
 | zero=>
  intro ft listed gU gK hQ oK st s' a w g hr uL hs hq;have so:l=[]:=vD hn;subst so;simp only[fc,bp] at hr;subst hr;refine ⟨?_,hq a w g hs (Step.refl _ _ _) (ij.refl _ _)⟩;unfold Region.ready;rw[List.filter_eq_nil_iff];intro x hx;have:listed.getD x true=true:=(gK x (by simpa using hx)).2 (by simp);simp[this]
 | succ n ih=>
  intro ft listed gU gK hQ oK st s' a w g hr uL hs hq
  have yx:∀i∈Region.ready .any ops listed,i∈l/\i<ops.size/\∃o,ops[i]?=some o/\∀e∈o.after.toList,Region.binds .any e=true->e.on∉l:=by
   intro i hi;unfold Region.ready at hi;simp only[uk,oC,dY,rH] at hi;obtain ⟨h1,h2,h3⟩:=hi
   have aU:i∈l:=by
    by_cases h:i∈l
    .exact h
    .have:=(gK i h1).2 h;rw[this] at h2;cases h2
   refine ⟨aU,h1,ops[i],by simp[h1],fun e he hb nk=>?_⟩;have ho:ops[i]?=some ops[i]:=by simp[h1]
   rw[ho] at h3;simp only[ar,nZ] at h3;have h4:=pI.1 h3 e (by simpa using he);simp only[hb,gk,zr] at h4;have h5:=aG i _ ho e he hb
   have h6:listed.getD e.on true=true:=by
    have iZ:e.on<listed.size:=by omega
    simp only[Array.getD,iZ,dif_pos] at h4 ⊢;exact h4
   exact (gK e.on (by omega)).1 h6 nk
  refine ⟨fun nj=>?_,fun i hi=>?_⟩
  ·
   exfalso;have aE:l≠[]:=fun h=>by rw[h] at hn;simp at hn
   obtain ⟨mn,qx,uS⟩:∃mn∈l,∀x∈l,mn<=x:=by
    exact Dp l aE
   have iF:=hQ mn qx
   have:mn∈Region.ready .any ops listed:=by
    unfold Region.ready;simp only[uk,oC,dY,rH]
    refine ⟨iF,?_,?_⟩
    .cases hb:listed.getD mn true with
     | false=>rfl
     | true=>exact absurd qx ((gK mn iF).1 hb)
    .have ho:ops[mn]?=some ops[mn]:=by simp[iF]
     rw[ho];simp only[ar,nZ];rw[pI];intro e he
     by_cases hb:Region.binds .any e=true
     .have h5:=aG mn _ ho e (by simpa using he) hb;have h6:e.on∉l:=fun h=>by have:=uS _ h;omega
      have h7:=(gK e.on (by omega)).2 h6;have iZ:e.on<listed.size:=by omega
      have h8:listed.getD e.on false=true:=by
       simp only[Array.getD,iZ,dif_pos] at h7 ⊢;exact h7
      rw[h8];simp
     .simp at hb;simp[hb]
   rw[nj] at this;simp at this
  .obtain ⟨aU,wo,x,hx,qZ⟩:=yx i hi
   obtain ⟨s1,h1,h2,Av,_⟩:=Sl hx l [] st s' (hnd.sublist ft) aU uL (qin wC ft) (fun y hy=>by simp at hy) (fun p q lP j hj=>by
    obtain ⟨pre,post,tB⟩:∃pc qc,canon=pc++i::qc/\∀y∈p,y∈pc:=by
     rw[lP] at ft;obtain ⟨c1,c2,hc,eM,eS⟩:=Fi.1 ft
     obtain ⟨d1,d2,hd,Tb⟩:∃d1 d2,c2=d1++i::d2/\True:=by
      have:=eS.subset (oB);obtain ⟨d1,d2,hd⟩:=xv this;exact ⟨d1,d2,hd,trivial⟩
     exact ⟨c1++d1,d2,by rw[hc,hd];simp,fun y hy=>kT.2 (.inl (eM.subset hy))⟩
    rcases Vo wC pre post i tB.1 j (tB.2 j hj) with h|⟨y,x',hy,hZ,bI⟩
    .exfalso;have fp:((nc ops ops.size).getD i 0).testBit j=true:=h
     have:=Cd (D:=fun k=>k∉l) (fun k o dO iR e he hb=>by
      rcases tj k ops.size with bu|bu
      .exact oK k o bu dO iR e he hb
      .rw[En bu] at iR;cases iR) aG ops.size i x wo hx qZ j fp
     exact this (by rw[lP];simp[hj])
    .obtain rfl:x=x':=by simpa [hx] using hZ
     exact ⟨y,hy,bI⟩) hr
   refine H9 hC hI h1 hs (fun b' fm=>by cases fm) fun a' w' g' dP s hd=>?_
   have fp:∀y,y∈l.erase i↔y∈l/\y≠i:=fun y=>by
    rw[(hnd.sublist ft).mem_erase_iff];exact And.comm
   refine ih (l.erase i) (by rw[List.length_erase_of_mem aU];omega) (List.Sublist.trans List.erase_sublist ft) (listed.setIfInBounds i true) (by simpa using gU) (fun y hy=>?_) (fun y hy=>hQ y ((fp y).1 hy).1) (fun k o bu pU iR e he hb nk=>?_) s1 s' a' w' g' h2 Av dP fun a'' w'' g'' mc s' gB=>hq a'' w'' g'' mc (s.trans s') (gB.trans hd)
   .have oP:y<listed.size:=by omega
    have hg:(listed.setIfInBounds i true).getD y true=if i=y then true else listed.getD y true:=by
     simp only[fV,xk]
     by_cases jA:i=y
     .subst jA;simp[oP]
     .simp[jA]
    rw[hg,fp]
    by_cases jA:i=y
    .subst jA;simp
    .rw[ag jA,gK y hy]
     constructor
     .intro h h';exact h h'.1
     .intro h h';exact h ⟨h',fun he=>jA he.symm⟩
   .have ss:=(fp _).1 nk
    by_cases sj:k=i
    .subst sj;obtain rfl:x=o:=by simpa [hx] using iR
     exact qZ e he hb ss.1
    .exact oK k o bu (fun h=>pU ((fp k).2 ⟨h,sj⟩)) iR e he hb ss.1
theorem qfH{P:Program}{ops:Array Oper}{l ah:List Nat}{lt:List (Nat×List Nat)}(h:vZ P ops l ah lt=true):P.follows .mixedOrders=true/\l.isPerm (List.range ops.size)=true /\
  ((List.range ops.size).all (fun i=>(match ops[i]? with|some o=>o.after.all fun e=>!Region.binds .any e||decide (e.on<i)|none=>false)))=true/\vk ops (tp ops) lt l=true:=by
 unfold vZ at h;simp only[dY] at h;obtain ⟨h1,h2,h3,h4,h5,h6⟩:=h
 have aG:∀k o,ops[k]?=some o->∀e∈o.after.toList,Region.binds .any e=true->e.on<k:=by
  intro k o hk e he hb;have jh:=(eA.1 hk).1;have:=iX.1 h3 k (by simpa using jh);rw[hk] at this;simp only at this;have:=pI.1 this e (by simpa using he);simpa [hb] using this
 have wk:=Kw (mz h4) aG (fun i hi=>iX.1 h5 i (by simpa using hi)) ops.size (aW _);rw[nY (by rw[mz h4];exact aW _)] at wk;refine ⟨h1,h2,h3,?_⟩;unfold tp;rw[wk];exact h6
theorem qfI(hC:CfgOk C){callI:Nat->List AV->ae->OM}(hI:nW C callI){R:Type}{fid id:Nat}{ops:Array Oper}{Q:Exit->Act->World->Prop}{canon ah:List Nat}{lt:List (Nat×List Nat)}(bI:vZ C.P ops canon ah lt=true){st:St}{K:St->Option R}{r:R}{a:Act}
  (h:oW C fid (gv callI) callI lt ops canon st K=some r) (hs:StR B w g st a)
  (hn:∀s' a' w' g',K s'=some r->StR B w' g' s' a'->Step B w g w' g'->ij C.P a' a->Q .normal a' w'):(Code.region id ops true).wp C.P Q a w:=by
 obtain ⟨h1,h2,h3,h4⟩:=qfH bI;have kY:canon.Perm (List.range ops.size):=List.isPerm_iff.1 h2
 have aG:∀k o,ops[k]?=some o->∀e∈o.after.toList,Region.binds .any e=true->e.on<k:=by
  intro k o hk e he hb;have jh:=(eA.1 hk).1;have:=iX.1 h3 k (by simpa using jh);rw[hk] at this;simp only at this;have:=pI.1 this e (by simpa using he);simpa [hb] using this
 obtain ⟨s',hr,hK,uL⟩:=V4 [] h;refine wp_region_any h1 ?_
 refine qdd hC hI aG h4 (kY.nodup_iff.2 List.nodup_range) canon ops.size (by rw[kY.length_eq];simp) (List.Sublist.refl _) _ (by simp) (fun x hx=>?_) (fun x hx=>by simpa using kY.mem_iff.1 hx) (fun k o hk dO=>?_) _ s' a _ g hr uL ⟨hs.tmp.step (Step.drew B w g),hs.mem.drew,hs.size⟩ ?_
 .have:x∈canon:=kY.mem_iff.2 (by simpa using hx);simp[this,Array.getD,hx]
 .exact absurd (kY.mem_iff.2 (by simpa using hk)) dO
 .intro a' w' g' dP s hd;exact hn s' a' w' g' hK dP ((Step.drew B w g).trans s) hd
end
end Go.Ab
namespace Go.Ab
def qP{R:Type}(F:Nat->Option R):Prop:=∀k r,F k=some r->F (k+1)=some r
theorem qP.le{R:Type}{F:Nat->Option R}(h:qP F){k n:Nat}(hn:k<=n){r:R}(hr:F k=some r):F n=some r:=by
 induction hn with
 | refl=>exact hr
 | step _ ih=>exact h _ _ ih
open Classical in
noncomputable def lim{R:Type}(F:Nat->Option R):Option R:=if h:∃k r,F k=some r then F h.choose else none
theorem qb{R:Type}{F:Nat->Option R}{r:R}(h:lim F=some r):∃k,F k=some r:=by
 unfold lim at h
 split at h
 .exact ⟨_,h⟩
 .cases h
theorem qP.lim{R:Type}{F:Nat->Option R}(h:qP F){k:Nat}{r:R}(hr:F k=some r):lim F=some r:=by
 have hx:∃k r,F k=some r:=⟨k,r,hr⟩;unfold Ab.lim;rw[dif_pos hx];obtain ⟨r',wE⟩:=hx.choose_spec;have h1:=h.le (zS k hx.choose) hr;have h2:=h.le (BY k hx.choose) wE;rw[h1] at h2;rw[wE,<- kz h2]
theorem M9{R:Type}{x y:Option R}(h:∀r,x=some r↔y=some r):x=y:=Option.ext h
section
variable {R:Type}
def iO:List Bool->List AV->Bool
 | [],[]=>true
 | _::bs,_::ts=>iO bs ts
 | _,_=>false
def rb:List Bool->List AV->List AV
 | [],_=>[]
 | b::bs,ts=>(match b with|true=>ts.headD .any|false=>.any)::rb bs ts.tail
theorem Nq:∀(bs:List Bool) (ts:List AV),iO bs ts=true->rb bs ts=pz bs ts
 | [],[],_=>rfl
 | b::bs,t::ts,h=>by
  simp only[rb,pz,Nq bs ts (by simpa [iO] using h),List.tail_cons];cases b<;>rfl
 | [],_::_,h=>by simp[iO] at h
 | _::_,[],h=>by simp[iO] at h
theorem Nr:∀(bs:List Bool) (ts:List AV),rb bs (rb bs ts)=rb bs ts
 | [],_=>rfl
 | b::bs,ts=>by
  simp only[rb,List.headD_cons,List.tail_cons,Nr bs ts.tail];cases b<;>rfl
abbrev iE(bs:List Bool)(st:St)(f:St->Option R):Option R:=match iO bs st.tmps with
 | true=>f ⟨rb bs st.tmps,st.mem⟩
 | false=>none
abbrev fz(again:St->Option R)(mk:Masks)(K:Ex->St->Option R):Ex->St->Option R:=fun e st'=>match e with
 | .normal=>iE mk.head st' again
 | .exit id=>iE mk.out st' (K (.exit id))
 | .ret=>iE mk.ret st' (K .ret)
def gp(body:St->(Ex->St->Option R)->Option R)(mk:Masks):Nat->St->(Ex->St->Option R)->Option R
 | 0,_,_=>none
 | n+1,st,K=>body st (fz (fun st'=>gp body mk n st' K) mk K)
noncomputable def bP(body:St->(Ex->St->Option R)->Option R)(mk:Masks)(st:St)(K:Ex->St->Option R):Option R:=lim fun n=>gp body mk n st K
section
variable (C:Cfg) (fid:Nat) (callP:Nat->List AV->Option AV) (callI:Nat->List AV->ae->OM)
noncomputable def aq:Code->St->(Ex->St->Option R)->Option R
 | .skip,st,K=>K .normal st
 | .region id ops d,st,K=>match d with
  | false=>kR C fid callP callI none ops (List.range ops.size) st (K .normal)
  | true=>match C.seqm fid id with
  | true=>(match vZ C.P ops (oS (C.ord fid id) ops.size) (C.ahd fid id) (C.late fid id) with
   | true=>oW C fid callP callI (C.late fid id) ops (oS (C.ord fid id) ops.size) st (K .normal)
   | false=>none)
  | false=>match vW C.P ops (oS (C.ord fid id) ops.size) (C.ahd fid id) (C.two fid id) with
   | true=>kR C fid callP callI (some st.mem.length) ops (oS (C.ord fid id) ops.size) ⟨st.tmps,eH st.mem (eE ops ops.size)⟩ (fun st'=>sZ C.P ops st' (K .normal) (C.two fid id))
   | false=>none
 | .seq a b,st,K=>aq a st (dQ (fun st'=>aq b st' K) K)
 | .cond c a b,st,K=>au (ev st.tmps c) (aq a st K) (aq b st K)
 | .block id b,st,K=>aq b st (dK id K)
 | .loop b,st,K=>iE (C.mask fid (keyOf b)).head st fun st'=>bP (aq b) (C.mask fid (keyOf b)) st' K
 | .exit id,st,K=>K (.exit id) st
 | .ret,st,K=>K .ret st
 | _,_,_=>none
end
def rJ(f:St->(Ex->St->Option R)->Option R):Prop:=∀st,f st=(fun _=>none)\/∃e s,f st=fun K=>K e s
theorem qi5(C:Cfg)(fid:Nat)(callP:Nat->List AV->Option AV)(callI:Nat->List AV->ae->OM)(base:Option Nat)(ops:Array Oper)(l:List Nat)(st:St) :
  ((fun K:Ex->St->Option R=>kR C fid callP callI base ops l st (K .normal))=fun _=>none)\/∃e s,(fun K:Ex->St->Option R=>kR C fid callP callI base ops l st (K .normal))=fun K=>K e s:=by
 cases h:fc C fid callP callI base ops l st with
 | none=>left;funext K;rw[qh,h];rfl
 | some s=>right;refine ⟨.normal,s,?_⟩;funext K;rw[qh,h];rfl
theorem V2(C:Cfg)(fid:Nat)(callP:Nat->List AV->Option AV)(callI:Nat->List AV->ae->OM)(lt:List (Nat×List Nat))(ops:Array Oper):∀(l:List Nat) (st:St),
  ((fun K:Ex->St->Option R=>oW C fid callP callI lt ops l st (K .normal))=fun _=>none)\/∃e s,(fun K:Ex->St->Option R=>oW C fid callP callI lt ops l st (K .normal))=fun K=>K e s
 | [],st=>.inr ⟨.normal,st,rfl⟩
 | i::l,st=>by
  cases h:bK C fid callP callI none ops i st with
  | none=>left;funext K;rw[vq,h];rfl
  | some s1=>
   by_cases hc:∀y∈qa lt i,nE C fid ops y s1
   .rcases V2 C fid callP callI lt ops l s1 with hh|⟨e,s,hh⟩
    .left;funext K;rw[vq,h,aa,xJ hc];exact congrFun hh K
    .right;exact ⟨e,s,by funext K;rw[vq,h,aa,xJ hc];exact congrFun hh K⟩
   .left;funext K;rw[vq,h,aa,KH hc]
theorem SH{bs:List Bool}{st:St}{f:St->(Ex->St->Option R)->Option R}(h:rJ f):((fun K=>iE bs st fun s=>f s K)=fun _=>none)\/∃e s,(fun K=>iE bs st fun s=>f s K)=fun K=>K e s:=by
 unfold iE
 cases iO bs st.tmps with
 | false=>exact .inl rfl
 | true=>exact h _
theorem VM{again again':St->Option R}{mk:Masks}{K:Ex->St->Option R}(h:∀s r,again s=some r->again' s=some r){e:Ex}{s:St}{r:R}(hr:fz again mk K e s=some r):fz again' mk K e s=some r:=by
 cases e with
 | normal=>
  simp only[fz,iE] at hr ⊢
  cases hf:iO mk.head s.tmps with
  | true=>rw[hf] at hr;exact h _ _ hr
  | false=>rw[hf] at hr;cases hr
 | exit id=>exact hr
 | ret=>exact hr
theorem rJ.mono{f:St->(Ex->St->Option R)->Option R}(h:rJ f){st:St}{K K':Ex->St->Option R}(hK:∀e s r,K e s=some r->K' e s=some r){r:R}(hr:f st K=some r):f st K'=some r:=by
 rcases h st with h|⟨e,s,h⟩
 .rw[h] at hr;cases hr
 .rw[h] at hr ⊢;exact hK _ _ _ hr
theorem Dx{body:St->(Ex->St->Option R)->Option R}(hb:rJ body)(mk:Masks)(K:Ex->St->Option R):∀n st r,gp body mk n st K=some r->gp body mk (n+1) st K=some r:=by
 intro n
 induction n with
 | zero=>intro st r h;cases h
 | succ n ih=>
  intro st r h;rw[gp] at h ⊢;exact hb.mono (fun e s r hr=>VM (fun s r=>ih s r) hr) h
theorem eu{body:St->(Ex->St->Option R)->Option R}(hb:rJ body)(mk:Masks)(st:St)(K:Ex->St->Option R):bP body mk st K=body st (fz (fun st'=>bP body mk st' K) mk K):=by
 apply M9;intro r;have AF:∀st,qP fun n=>gp body mk n st K:=fun st n r h=>Dx hb mk K n st r h
 constructor
 .intro h;obtain ⟨n,hn⟩:=qb h
  cases n with
  | zero=>cases hn
  | succ n=>
   rw[gp] at hn;exact hb.mono (fun e s r hr=>VM (fun s r h=>(AF s).lim h) hr) hn
 .intro h
  rcases hb st with hx|⟨e,s,hx⟩
  .rw[hx] at h;cases h
  .have:∃n,gp body mk (n+1) st K=some r:=by
    rw[hx] at h;simp only[gp];rw[hx];simp only
    cases e with
    | normal=>
     simp only[fz,iE] at h ⊢
     cases hf:iO mk.head s.tmps with
     | true=>rw[hf] at h;exact qb h
     | false=>rw[hf] at h;cases h
    | exit id=>exact ⟨0,h⟩
    | ret=>exact ⟨0,h⟩
   obtain ⟨n,hn⟩:=this;exact (AF st).lim hn
theorem MG{body:St->(Ex->St->Option R)->Option R}(hb:rJ body)(mk:Masks):∀n,rJ (gp body mk n)
 | 0=>fun st=>.inl rfl
 | n+1=>fun st=>by
  have ih:=MG hb mk n
  rcases hb st with hx|⟨e,s,hx⟩
  .left;funext K;simp only[gp];rw[hx]
  .cases e with
   | normal=>
    have:gp body mk (n+1) st=fun K=>iE mk.head s fun s'=>gp body mk n s' K:=by
     funext K;simp only[gp];rw[hx]
    rw[this];exact SH ih
   | exit id=>
    have:gp body mk (n+1) st=fun K=>iE mk.out s (K (.exit id)):=by
     funext K;simp only[gp];rw[hx]
    rw[this];unfold iE
    cases iO mk.out s.tmps with
    | false=>exact .inl rfl
    | true=>exact .inr ⟨_,_,rfl⟩
   | ret=>
    have:gp body mk (n+1) st=fun K=>iE mk.ret s (K .ret):=by
     funext K;simp only[gp];rw[hx]
    rw[this];unfold iE
    cases iO mk.ret s.tmps with
    | false=>exact .inl rfl
    | true=>exact .inr ⟨_,_,rfl⟩
open Classical in
theorem qhJ{body:St->(Ex->St->Option R)->Option R}(hb:rJ body)(mk:Masks):rJ (bP body mk):=by
 intro st
 by_cases h:∃n e s,gp body mk n st=fun K=>K e s
 .obtain ⟨n,e,s,hn⟩:=h;right;refine ⟨e,s,?_⟩;funext K;apply M9;intro r;have AF:qP fun n=>gp body mk n st K:=fun n r h=>Dx hb mk K n st r h
  constructor
  .intro hr;obtain ⟨n',ni⟩:=qb hr;have h1:gp body mk (max n n') st K=some r:=AF.le (BY n n') ni
   cases hk:K e s with
   | some r'=>
    have h2:gp body mk (max n n') st K=some r':=AF.le (zS n n') (r:=r') (by simp only[hn];exact hk);rw[h2] at h1;exact h1
   | none=>
    rcases MG hb mk (max n n') st with hx|⟨e',s',hx⟩
    .rw[hx] at h1;cases h1
    .have h3:gp body mk (max n n') st (fun e2 s2=>if e2=e/\s2=s then some r else none)=some r:=by
      have qgZ:qP fun n=>gp body mk n st (fun e2 s2=>if e2=e/\s2=s then some r else none):=fun n r h=>Dx hb mk _ n st r h
      exact qgZ.le (zS n n') (by simp only[hn];simp)
     rw[hx] at h3 h1;simp only at h3 h1
     split at h3
     .rename_i he;obtain ⟨rfl,rfl⟩:=he;rw[hk] at h1;cases h1
     .cases h3
  .intro hr;exact AF.lim (k:=n) (by simp only[hn];exact hr)
 .left;funext K
  have:∀r,¬ bP body mk st K=some r:=by
   intro r hr;obtain ⟨n,hn⟩:=qb hr
   rcases MG hb mk n st with hx|⟨e,s,hx⟩
   .rw[hx] at hn;cases hn
   .exact h ⟨n,e,s,hx⟩
  cases hx:bP body mk st K with
  | none=>rfl
  | some r=>exact absurd hx (this r)
section
variable {C:Cfg} {fid:Nat} {callP:Nat->List AV->Option AV} {callI:Nat->List AV->ae->OM}
theorem ed:∀c:Code,rJ (R:=R) (aq C fid callP callI c):=by
 intro c
 induction c with
 | skip=>exact fun st=>.inr ⟨.normal,st,rfl⟩
 | region id ops d=>
  intro st
  cases d with
  | false=>
   have:aq (R:=R) C fid callP callI (.region id ops false) st=fun K=>kR C fid callP callI none ops (List.range ops.size) st (K .normal):=by funext K;simp only[aq]
   rw[this];exact qi5 ..
  | true=>
   cases hq:C.seqm fid id with
   | true=>
    cases hd:vZ C.P ops (oS (C.ord fid id) ops.size) (C.ahd fid id) (C.late fid id) with
    | true=>
     have:aq (R:=R) C fid callP callI (.region id ops true) st=fun K=>oW C fid callP callI (C.late fid id) ops (oS (C.ord fid id) ops.size) st (K .normal):=by funext K;simp only[aq,hq,hd]
     rw[this];exact V2 ..
    | false=>left;funext K;simp only[aq,hq,hd]
   | false=>
   cases hd:vW C.P ops (oS (C.ord fid id) ops.size) (C.ahd fid id) (C.two fid id) with
   | true=>
    have:aq (R:=R) C fid callP callI (.region id ops true) st=fun K=>kR C fid callP callI (some st.mem.length) ops (oS (C.ord fid id) ops.size) ⟨st.tmps,eH st.mem (eE ops ops.size)⟩ (fun st'=>sZ C.P ops st' (K .normal) (C.two fid id)):=by funext K;simp only[aq,hq,hd]
    rw[this];have hl:=qh (R:=R) (C:=C) (fid:=fid) (callP:=callP) (callI:=callI) (some st.mem.length) ops (oS (C.ord fid id) ops.size) ⟨st.tmps,eH st.mem (eE ops ops.size)⟩
    cases hr:fc C fid callP callI (some st.mem.length) ops (oS (C.ord fid id) ops.size) ⟨st.tmps,eH st.mem (eE ops ops.size)⟩ with
    | none=>left;funext K;rw[hl,hr];rfl
    | some s=>
     rcases qj3 (R:=R) C.P ops s (C.two fid id) with ht|ht
     .left;funext K;rw[hl,hr];exact ht _
     .right;exact ⟨.normal,s,by funext K;rw[hl,hr];exact ht _⟩
   | false=>left;funext K;simp only[aq,hq,hd]
 | seq a b iha ihb=>
  intro st
  rcases iha st with h|⟨e,s,h⟩
  .left;funext K;simp only[aq,h]
  .cases e with
   | normal=>
    rcases ihb s with h'|⟨e',s',h'⟩
    .left;funext K;simp only[aq,h,dQ,h']
    .right;refine ⟨e',s',?_⟩;funext K;simp only[aq,h,dQ,h']
   | exit id=>right;refine ⟨.exit id,s,?_⟩;funext K;simp only[aq,h,dQ]
   | ret=>right;refine ⟨.ret,s,?_⟩;funext K;simp only[aq,h,dQ]
 | cond co a b iha ihb=>
  intro st
  cases hv:ev st.tmps co with
  | bool v=>
   cases v with
   | true=>
    have:aq (R:=R) C fid callP callI (.cond co a b) st=aq C fid callP callI a st:=by funext K;simp only[aq,hv,au]
    rw[this];exact iha st
   | false=>
    have:aq (R:=R) C fid callP callI (.cond co a b) st=aq C fid callP callI b st:=by funext K;simp only[aq,hv,au]
    rw[this];exact ihb st
  | _=>left;funext K;simp only[aq,hv,au]
 | block id b ih=>
  intro st
  rcases ih st with h|⟨e,s,h⟩
  .left;funext K;simp only[aq,h]
  .cases e with
   | normal=>right;refine ⟨.normal,s,?_⟩;funext K;simp only[aq,h,dK]
   | exit j=>
    cases hj:j==id with
    | true=>right;refine ⟨.normal,s,?_⟩;funext K;simp only[aq,h,dK,hj]
    | false=>right;refine ⟨.exit j,s,?_⟩;funext K;simp only[aq,h,dK,hj]
   | ret=>right;refine ⟨.ret,s,?_⟩;funext K;simp only[aq,h,dK]
 | loop b ih=>
  intro st;have:aq (R:=R) C fid callP callI (.loop b) st=fun K=>iE (C.mask fid (keyOf b)).head st fun st'=>bP (aq C fid callP callI b) (C.mask fid (keyOf b)) st' K:=by funext K;simp only[aq]
  rw[this];exact SH (qhJ ih _)
 | exit id=>exact fun st=>.inr ⟨.exit id,st,rfl⟩
 | ret=>exact fun st=>.inr ⟨.ret,st,rfl⟩
 | rangeFunc=>exact fun st=>.inl rfl
 | scope=>exact fun st=>.inl rfl
 | label=>exact fun st=>.inl rfl
 | goto=>exact fun st=>.inl rfl
 | refuse=>exact fun st=>.inl rfl
end
section
variable {C:Cfg} {fid:Nat} {cp cp':Nat->List AV->Option AV} {ci ci':Nat->List AV->ae->OM}
def jQ(cp cp':Nat->List AV->Option AV)(ci ci':Nat->List AV->ae->OM):Prop:=(∀g vs v,cp g vs=some v->cp' g vs=some v)/\∀g vs m r,ci g vs m=some r->ci' g vs m=some r
theorem qe4(h:jQ cp cp' ci ci'){d:Option Nat}{g:Nat}{vs:List AV}{m:ae}{K:AV->ae->Option R}{x:R}(hx:nK C fid cp ci d g vs m K=some x):nK C fid cp' ci' d g vs m K=some x:=by
 unfold nK at hx ⊢
 cases oL:C.libm g with
 | some l=>rw[oL] at hx;exact hx
 | none=>
 rw[oL] at hx;simp only at hx ⊢
 cases hl:C.lib g with
 | some l=>rw[hl] at hx;exact hx
 | none=>
  rw[hl] at hx;simp only at hx ⊢
  cases hi:C.inl fid g with
  | true=>
   rw[hi] at hx
   cases d with
   | some d=>exact hx
   | none=>
    simp only[aS] at hx ⊢;obtain ⟨r,hr,hx⟩:=hx
    cases hz:C.frzc fid g with
    | true=>
     rw[hz] at hr;simp only[Cy,aS] at hr ⊢;obtain ⟨r1,h1,h2⟩:=hr;exact ⟨r,⟨r1,h1,h.2 _ _ _ _ h2⟩,hx⟩
    | false=>
    rw[hz] at hr;simp only at hr ⊢
    cases ht:C.thaw fid g with
    | false=>rw[ht] at hr;exact ⟨r,h.2 _ _ _ _ hr,hx⟩
    | true=>
     rw[ht] at hr;simp only[nT,aS] at hr ⊢;obtain ⟨r1,h1,q,h2,h3⟩:=hr;exact ⟨r,⟨r1,h1,q,h.2 _ _ _ _ h2,h3⟩,hx⟩
  | false=>
   rw[hi] at hx;simp only[aS] at hx ⊢;obtain ⟨r,hr,hx⟩:=hx;refine ⟨r,?_,hx⟩;unfold ao at hr ⊢;simp only[aS] at hr ⊢;obtain ⟨r1,h1,h2⟩:=hr;refine ⟨r1,h1,?_⟩
   split at h2
   .cases h2
   .rename_i aE;rw[ag aE];simp only[gm] at h2 ⊢;obtain ⟨v,hv,h2⟩:=h2;exact ⟨v,h.1 _ _ _ hv,h2⟩
theorem Ve(h:jQ cp cp' ci ci'){d:Option Nat}{o:Oper}{ρ:Operand->AV}{m:ae}{x:AV×ae}(hx:ep C fid cp ci d o ρ m=some x):ep C fid cp' ci' d o ρ m=some x:=by
 unfold ep jr at hx ⊢
 cases ho:o.op with
 | call c=>
  rw[ho] at hx;simp only at hx ⊢
  cases hc:c.callee with
  | value f=>
   rw[hc] at hx;simp only[aS] at hx ⊢;obtain ⟨gc,h1,hx⟩:=hx;exact ⟨gc,h1,qe4 h hx⟩
  | _=>rw[hc] at hx;exact hx
 | _=>rw[ho] at hx;exact hx
theorem H7(h:jQ cp cp' ci ci'){base:Option Nat}{ops:Array Oper}{i:Nat}{st s:St}(hx:bK C fid cp ci base ops i st=some s):bK C fid cp' ci' base ops i st=some s:=by
 unfold bK at hx ⊢
 cases hi:ops[i]? with
 | none=>rw[hi] at hx;cases hx
 | some o=>
  rw[hi] at hx;simp only[gm] at hx ⊢;obtain ⟨r,hr,hx⟩:=hx;refine ⟨r,?_,hx⟩;unfold eZ at hr ⊢
  cases hg:o.guard with
  | none=>rw[hg] at hr;exact Ve h hr
  | some jw=>
   obtain ⟨j,want⟩:=jw;rw[hg] at hr;simp only at hr ⊢
   cases hd:(ops[j]?).bind (·.dst) with
   | none=>rw[hd] at hr;cases hr
   | some g=>
    rw[hd] at hr;simp only at hr ⊢
    split at hr
    .exact hr
    .split at hr
     .split at hr
      .rename_i hb;rw[aj hb];exact Ve h hr
      .rename_i hb;rw[ag hb];exact hr
     .cases hr
theorem NB(h:jQ cp cp' ci ci'){base:Option Nat}{ops:Array Oper}:∀(l:List Nat) {st s:St},fc C fid cp ci base ops l st=some s->fc C fid cp' ci' base ops l st=some s
 | [],_,_,hx=>hx
 | i::l,st,s,hx=>by
  simp only[fc,aS] at hx ⊢;obtain ⟨s1,h1,h2⟩:=hx;exact ⟨s1,H7 h h1,NB h l h2⟩
theorem V6(h:jQ cp cp' ci ci'){base:Option Nat}{ops:Array Oper}{l:List Nat}{st:St}{K:St->Option R}{r:R}(hx:kR C fid cp ci base ops l st K=some r):kR C fid cp' ci' base ops l st K=some r:=by
 rw[qh] at hx ⊢;simp only[aS] at hx ⊢;obtain ⟨s,h1,h2⟩:=hx;exact ⟨s,NB h l h1,h2⟩
theorem ND(h:jQ cp cp' ci ci'){lt:List (Nat×List Nat)}{ops:Array Oper}:∀(l:List Nat) {st:St} {K:St->Option R} {r:R},oW C fid cp ci lt ops l st K=some r->oW C fid cp' ci' lt ops l st K=some r
 | [],_,_,_,hx=>hx
 | i::l,st,K,r,hx=>by
  rw[vq,aS] at hx ⊢;obtain ⟨s1,h1,h2⟩:=hx;obtain ⟨h3,h4⟩:=Gc h2;exact ⟨s1,H7 h h1,by rw[xJ h3];exact ND h l h4⟩
theorem Ah(h:jQ cp cp' ci ci'):∀(c:Code) (st:St) (K:Ex->St->Option R) (r:R),aq C fid cp ci c st K=some r->aq C fid cp' ci' c st K=some r:=by
 intro c
 induction c with
 | region id ops d=>
  intro st K r hx
  cases d with
  | false=>simp only[aq] at hx ⊢;exact V6 h hx
  | true=>
   simp only[aq] at hx ⊢
   cases hq:C.seqm fid id with
   | true=>
    rw[hq] at hx;simp only at hx ⊢
    cases hd:vZ C.P ops (oS (C.ord fid id) ops.size) (C.ahd fid id) (C.late fid id) with
    | true=>rw[hd] at hx;exact ND h _ hx
    | false=>rw[hd] at hx;cases hx
   | false=>
   rw[hq] at hx;simp only at hx ⊢
   cases hd:vW C.P ops (oS (C.ord fid id) ops.size) (C.ahd fid id) (C.two fid id) with
   | true=>rw[hd] at hx;exact V6 h hx
   | false=>rw[hd] at hx;cases hx
 | seq a b iha ihb=>
  intro st K r hx;simp only[aq] at hx ⊢;have h1:=iha _ _ _ hx;refine (ed a).mono (fun e s r hr=>?_) h1
  cases e with
  | normal=>exact ihb _ _ _ hr
  | exit id=>exact hr
  | ret=>exact hr
 | cond co a b iha ihb=>
  intro st K r hx;simp only[aq] at hx ⊢;unfold au at hx ⊢
  split at hx
  .split at hx
   .exact iha _ _ _ hx
   .exact ihb _ _ _ hx
  .cases hx
 | block id b ih=>
  intro st K r hx;simp only[aq] at hx ⊢;exact ih _ _ _ hx
 | loop b ih=>
  intro st K r hx;simp only[aq,iE] at hx ⊢
  cases hf:iO (C.mask fid (keyOf b)).head st.tmps with
  | false=>rw[hf] at hx;cases hx
  | true=>
   rw[hf] at hx;simp only at hx ⊢;obtain ⟨n,hn⟩:=qb hx
   have:∀n st,gp (aq C fid cp ci b) (C.mask fid (keyOf b)) n st K=some r->gp (aq C fid cp' ci' b) (C.mask fid (keyOf b)) n st K=some r:=by
    intro n
    induction n with
    | zero=>intro st hx;cases hx
    | succ n ihn=>
     intro st hx;simp only[gp] at hx ⊢;have h1:=ih _ _ _ hx
     rcases ed (R:=R) (C:=C) (fid:=fid) (callP:=cp') (callI:=ci') b st with hl|⟨e,s,hl⟩
     .rw[hl] at h1;cases h1
     .rw[hl] at h1 ⊢;simp only at h1 ⊢
      cases e with
      | normal=>
       simp only[fz,iE] at h1 ⊢
       cases sg:iO (C.mask fid (keyOf b)).head s.tmps with
       | true=>rw[sg] at h1;exact ihn _ h1
       | false=>rw[sg] at h1;cases h1
      | exit id=>exact h1
      | ret=>exact h1
   exact qP.lim (F:=fun n=>gp (aq C fid cp' ci' b) (C.mask fid (keyOf b)) n _ K) (fun n r h=>Dx (ed b) _ K n _ r h) (this n _ hn)
 | _=>intro st K r hx;exact hx
end
structure Chain where
 cp:Nat->Nat->List AV->Option AV
 ci:Nat->Nat->List AV->ae->OM
 le:∀k,jQ (cp k) (cp (k+1)) (ci k) (ci (k+1))
theorem jQ.refl(cp:Nat->List AV->Option AV)(ci:Nat->List AV->ae->OM):jQ cp cp ci ci:=⟨fun _ _ _ h=>h,fun _ _ _ _ h=>h⟩
theorem jQ.trans{a b c:Nat->List AV->Option AV}{a' b' c':Nat->List AV->ae->OM}(h:jQ a b a' b')(h':jQ b c b' c'):jQ a c a' c':=⟨fun g vs v x=>h'.1 g vs v (h.1 g vs v x),fun g vs m r x=>h'.2 g vs m r (h.2 g vs m r x)⟩
theorem Chain.up(X:Chain){k n:Nat}(h:k<=n):jQ (X.cp k) (X.cp n) (X.ci k) (X.ci n):=by
 induction h with
 | refl=>exact jQ.refl _ _
 | step _ ih=>exact ih.trans (X.le _)
structure Tends (X:Chain) (cp:Nat->List AV->Option AV) (ci:Nat->List AV->ae->OM):Prop where
 p:∀g vs v,cp g vs=some v->∃k,X.cp k g vs=some v
 i:∀g vs m r,ci g vs m=some r->∃k,X.ci k g vs m=some r
section
variable {X:Chain} {C:Cfg} {fid:Nat} {cp:Nat->List AV->Option AV} {ci:Nat->List AV->ae->OM}
theorem qe3(h:Tends X cp ci){d:Option Nat}{g:Nat}{vs:List AV}{m:ae}{K:AV->ae->Option R}{x:R}(hx:nK C fid cp ci d g vs m K=some x):∃k,nK C fid (X.cp k) (X.ci k) d g vs m K=some x:=by
 unfold nK at hx ⊢
 cases oL:C.libm g with
 | some l=>rw[oL] at hx;exact ⟨0,hx⟩
 | none=>
 rw[oL] at hx;simp only at hx ⊢
 cases hl:C.lib g with
 | some l=>rw[hl] at hx;exact ⟨0,hx⟩
 | none=>
  rw[hl] at hx;simp only at hx ⊢
  cases hi:C.inl fid g with
  | true=>
   rw[hi] at hx
   cases d with
   | some d=>exact ⟨0,hx⟩
   | none=>
    simp only[aS] at hx ⊢;obtain ⟨r,hr,hx⟩:=hx
    cases hz:C.frzc fid g with
    | true=>
     rw[hz] at hr;simp only[Cy,aS] at hr ⊢;obtain ⟨r1,h1,h2⟩:=hr;obtain ⟨k,hk⟩:=h.i _ _ _ _ h2;exact ⟨k,r,⟨r1,h1,hk⟩,hx⟩
    | false=>
    rw[hz] at hr;simp only at hr ⊢
    cases ht:C.thaw fid g with
    | false=>
     rw[ht] at hr;obtain ⟨k,hk⟩:=h.i _ _ _ _ hr;exact ⟨k,r,hk,hx⟩
    | true=>
     rw[ht] at hr;simp only[nT,aS] at hr ⊢;obtain ⟨r1,h1,q,h2,h3⟩:=hr;obtain ⟨k,hk⟩:=h.i _ _ _ _ h2;exact ⟨k,r,⟨r1,h1,q,hk,h3⟩,hx⟩
  | false=>
   rw[hi] at hx;simp only[aS] at hx ⊢;obtain ⟨r,hr,hx⟩:=hx;unfold ao at hr;simp only[aS] at hr;obtain ⟨r1,h1,h2⟩:=hr
   split at h2
   .cases h2
   .rename_i aE;simp only[gm] at h2;obtain ⟨v,hv,h2⟩:=h2;obtain ⟨k,hk⟩:=h.p _ _ _ hv;refine ⟨k,r,?_,hx⟩;unfold ao;simp only[aS];refine ⟨r1,h1,?_⟩;rw[ag aE];simp only[gm];exact ⟨v,hk,h2⟩
theorem Vd(h:Tends X cp ci){d:Option Nat}{o:Oper}{ρ:Operand->AV}{m:ae}{x:AV×ae}(hx:ep C fid cp ci d o ρ m=some x):∃k,ep C fid (X.cp k) (X.ci k) d o ρ m=some x:=by
 unfold ep jr at hx ⊢
 cases ho:o.op with
 | call c=>
  rw[ho] at hx;simp only at hx ⊢
  cases hc:c.callee with
  | value f=>
   rw[hc] at hx;simp only[aS] at hx ⊢;obtain ⟨gc,h1,hx⟩:=hx;obtain ⟨k,hk⟩:=qe3 h hx;exact ⟨k,gc,h1,hk⟩
  | _=>rw[hc] at hx;exact ⟨0,hx⟩
 | _=>rw[ho] at hx;exact ⟨0,hx⟩
theorem Wz(h:Tends X cp ci){base:Option Nat}{ops:Array Oper}{i:Nat}{st s:St}(hx:bK C fid cp ci base ops i st=some s):∃k,bK C fid (X.cp k) (X.ci k) base ops i st=some s:=by
 unfold bK at hx ⊢
 cases hi:ops[i]? with
 | none=>rw[hi] at hx;cases hx
 | some o=>
  rw[hi] at hx;simp only[gm] at hx ⊢;obtain ⟨r,hr,hx⟩:=hx;unfold eZ at hr ⊢
  cases hg:o.guard with
  | none=>rw[hg] at hr;obtain ⟨k,hk⟩:=Vd h hr;exact ⟨k,r,hk,hx⟩
  | some jw=>
   obtain ⟨j,want⟩:=jw;rw[hg] at hr;simp only at hr ⊢
   cases hd:(ops[j]?).bind (·.dst) with
   | none=>rw[hd] at hr;cases hr
   | some g=>
    rw[hd] at hr;simp only at hr ⊢
    split at hr
    .exact ⟨0,r,hr,hx⟩
    .split at hr
     .split at hr
      .rename_i hb;subst hb;obtain ⟨k,hk⟩:=Vd h hr;exact ⟨k,r,by simpa using hk,hx⟩
      .rename_i hb;exact ⟨0,r,by rw[ag hb];exact hr,hx⟩
     .cases hr
theorem VX(h:Tends X cp ci){base:Option Nat}{ops:Array Oper}:∀(l:List Nat) {st s:St},fc C fid cp ci base ops l st=some s->∃k,fc C fid (X.cp k) (X.ci k) base ops l st=some s
 | [],_,_,hx=>⟨0,hx⟩
 | i::l,st,s,hx=>by
  simp only[fc,aS] at hx ⊢;obtain ⟨s1,h1,h2⟩:=hx;obtain ⟨k1,h1⟩:=Wz h h1;obtain ⟨k2,h2⟩:=VX h l h2;exact ⟨max k1 k2,s1,H7 (X.up (zS ..)) h1,NB (X.up (BY ..)) l h2⟩
theorem V5(h:Tends X cp ci){base:Option Nat}{ops:Array Oper}{l:List Nat}{st:St}{K:St->Option R}{r:R}(hx:kR C fid cp ci base ops l st K=some r):∃k,kR C fid (X.cp k) (X.ci k) base ops l st K=some r:=by
 rw[qh] at hx;simp only[aS] at hx;obtain ⟨s,h1,h2⟩:=hx;obtain ⟨k,h1⟩:=VX h l h1;exact ⟨k,by rw[qh,h1];exact h2⟩
theorem V1(h:Tends X cp ci){lt:List (Nat×List Nat)}{ops:Array Oper}:∀(l:List Nat) {st:St} {K:St->Option R} {r:R},oW C fid cp ci lt ops l st K=some r->∃k,oW C fid (X.cp k) (X.ci k) lt ops l st K=some r
 | [],_,_,_,hx=>⟨0,hx⟩
 | i::l,st,K,r,hx=>by
  rw[vq,aS] at hx;obtain ⟨s1,h1,h2⟩:=hx;obtain ⟨h3,h4⟩:=Gc h2;obtain ⟨k1,h1⟩:=Wz h h1;obtain ⟨k2,h2⟩:=V1 h l h4;refine ⟨max k1 k2,?_⟩;rw[vq,aS];exact ⟨s1,H7 (X.up (zS ..)) h1,by rw[xJ h3];exact ND (X.up (BY ..)) l h2⟩
theorem Uu{f:St->(Ex->St->Option R)->Option R}(hf:rJ f){st:St}{K:Ex->St->Option R}{r:R}(h:f st K=some r):∃e s,K e s=some r/\∀K',f st K'=K' e s:=by
 rcases hf st with hx|⟨e,s,hx⟩
 .rw[hx] at h;cases h
 .exact ⟨e,s,by rw[hx] at h;exact h,fun K'=>by rw[hx]⟩
theorem qfT(h:Tends X cp ci):∀(c:Code) (st:St) (K:Ex->St->Option R) (r:R),aq C fid cp ci c st K=some r->∃k,aq C fid (X.cp k) (X.ci k) c st K=some r:=by
 intro c
 induction c with
 | region id ops d=>
  intro st K r hx
  cases d with
  | false=>simp only[aq] at hx ⊢;exact V5 h hx
  | true=>
   simp only[aq] at hx ⊢
   cases hq:C.seqm fid id with
   | true=>
    rw[hq] at hx;simp only at hx ⊢
    cases hd:vZ C.P ops (oS (C.ord fid id) ops.size) (C.ahd fid id) (C.late fid id) with
    | true=>rw[hd] at hx;exact V1 h _ hx
    | false=>rw[hd] at hx;cases hx
   | false=>
   rw[hq] at hx;simp only at hx ⊢
   cases hd:vW C.P ops (oS (C.ord fid id) ops.size) (C.ahd fid id) (C.two fid id) with
   | true=>rw[hd] at hx;exact V5 h hx
   | false=>rw[hd] at hx;cases hx
 | seq a b iha ihb=>
  intro st K r hx;simp only[aq] at hx ⊢;obtain ⟨k1,h1⟩:=iha _ _ _ hx;obtain ⟨e,s,h2,h3⟩:=Uu (ed a) h1
  cases e with
  | normal=>
   obtain ⟨k2,h4⟩:=ihb _ _ _ h2;refine ⟨max k1 k2,?_⟩
   have h5:aq C fid (X.cp k1) (X.ci k1) a st (dQ (fun st'=>aq C fid (X.cp (max k1 k2)) (X.ci (max k1 k2)) b st' K) K)=some r:=by
    rw[h3];exact Ah (X.up (BY ..)) b _ _ _ h4
   exact Ah (X.up (zS ..)) a _ _ _ h5
  | exit id=>exact ⟨k1,by rw[h3];exact h2⟩
  | ret=>exact ⟨k1,by rw[h3];exact h2⟩
 | cond co a b iha ihb=>
  intro st K r hx;simp only[aq] at hx ⊢;unfold au at hx ⊢
  split at hx
  .split at hx
   .exact iha _ _ _ hx
   .exact ihb _ _ _ hx
  .cases hx
 | block id b ih=>
  intro st K r hx;simp only[aq] at hx ⊢;exact ih _ _ _ hx
 | loop b ih=>
  intro st K r hx;simp only[aq,iE] at hx ⊢
  cases hf:iO (C.mask fid (keyOf b)).head st.tmps with
  | false=>rw[hf] at hx;cases hx
  | true=>
   rw[hf] at hx;simp only at hx ⊢;obtain ⟨n,hn⟩:=qb hx
   have:∀n st,gp (aq C fid cp ci b) (C.mask fid (keyOf b)) n st K=some r->∃k,bP (aq C fid (X.cp k) (X.ci k) b) (C.mask fid (keyOf b)) st K=some r:=by
    intro n
    induction n with
    | zero=>intro st hx;cases hx
    | succ n ihn=>
     intro st hx;simp only[gp] at hx;obtain ⟨k1,h1⟩:=ih _ _ _ hx;obtain ⟨e,s,h2,h3⟩:=Uu (ed b) h1
     have fin:(∀k,k1<=k->fz (fun st'=>bP (aq C fid (X.cp k) (X.ci k) b) (C.mask fid (keyOf b)) st' K) (C.mask fid (keyOf b)) K e s=some r->bP (aq C fid (X.cp k) (X.ci k) b) (C.mask fid (keyOf b)) st K=some r):=by
      intro k hk hr;rw[eu (ed b)];exact Ah (X.up hk) b _ _ _ (by rw[h3];exact hr)
     cases e with
     | normal=>
      simp only[fz,iE] at h2
      cases sg:iO (C.mask fid (keyOf b)).head s.tmps with
      | true=>
       rw[sg] at h2;obtain ⟨k2,h4⟩:=ihn _ h2;refine ⟨max k1 k2,fin _ (zS ..) ?_⟩;simp only[fz,iE,sg]
       have h5:aq C fid (X.cp k2) (X.ci k2) (.loop b) ⟨rb (C.mask fid (keyOf b)).head s.tmps,s.mem⟩ K=bP (aq C fid (X.cp k2) (X.ci k2) b) (C.mask fid (keyOf b)) ⟨rb (C.mask fid (keyOf b)).head s.tmps,s.mem⟩ K:=by
        have lM:∀(bs:List Bool) (ts:List AV),iO bs (rb bs ts)=true:=by
         intro bs
         induction bs with
         | nil=>intro ts;rfl
         | cons b bs ihb=>intro ts;simp only[rb,iO];exact ihb _
        simp only[aq,iE,lM,Nr]
       have h6:=Ah (C:=C) (fid:=fid) (X.up (BY k1 k2)) (.loop b) _ _ _ (h5.trans h4)
       have lM:∀(bs:List Bool) (ts:List AV),iO bs (rb bs ts)=true:=by
        intro bs
        induction bs with
        | nil=>intro ts;rfl
        | cons b bs ihb=>intro ts;simp only[rb,iO];exact ihb _
       simpa only[aq,iE,lM,Nr] using h6
      | false=>rw[sg] at h2;cases h2
     | exit id=>exact ⟨k1,fin _ (aW _) h2⟩
     | ret=>exact ⟨k1,fin _ (aW _) h2⟩
   exact this n _ hn
 | _=>intro st K r hx;exact ⟨0,hx⟩
end
noncomputable def l6(C:Cfg):Nat->Nat->List AV->ae->OM
 | 0,_,_,_=>none
 | k+1,f,args,m=>match C.P.funcs[f]? with
  | none=>none
  | some fn=>match fn.body with
   | none=>none
   | some c=>aq C f (gv (l6 C k)) (l6 C k) c ⟨args++List.replicate (fn.ntmps-args.length) .any,m⟩ (aN C.P fn.results.toList)
noncomputable def AC(C:Cfg)(f:Nat)(args:List AV)(m:ae):OM:=lim fun k=>l6 C k f args m
noncomputable def AP(C:Cfg):Nat->List AV->Option AV:=gv (AC C)
theorem B9{ci ci':Nat->List AV->ae->OM}(h:∀g vs m r,ci g vs m=some r->ci' g vs m=some r):jQ (gv ci) (gv ci') ci ci':=by
 refine ⟨fun g vs v hx=>?_,h⟩;unfold gv at hx ⊢;simp only[aS] at hx ⊢;obtain ⟨r,h1,h2⟩:=hx;exact ⟨r,h _ _ _ _ h1,h2⟩
theorem F0(C:Cfg):∀k f args m r,l6 C k f args m=some r->l6 C (k+1) f args m=some r:=by
 intro k
 induction k with
 | zero=>intro f args m r h;cases h
 | succ k ih=>
  intro f args m r h;rw[l6] at h ⊢
  cases hf:C.P.funcs[f]? with
  | none=>rw[hf] at h;cases h
  | some fn=>
   rw[hf] at h;simp only at h ⊢
   cases hb:fn.body with
   | none=>rw[hb] at h;cases h
   | some c=>
    rw[hb] at h;exact Ah (B9 fun g vs m r=>ih g vs m r) c _ _ _ h
noncomputable def qfd(C:Cfg):Chain:=⟨fun k=>gv (l6 C k),fun k=>l6 C k,fun k=>B9 (F0 C k)⟩
theorem qjT(C:Cfg):Tends (qfd C) (AP C) (AC C):=by
 refine ⟨fun g vs v h=>?_,fun g vs m r h=>qb h⟩;unfold AP gv at h;simp only[aS] at h;obtain ⟨r,h1,h2⟩:=h;obtain ⟨k,hk⟩:=qb h1;refine ⟨k,?_⟩;show gv (l6 C k) g vs=some v;unfold gv;simp only[aS];exact ⟨r,hk,h2⟩
theorem bW(C:Cfg)(f:Nat)(args:List AV)(m:ae){fn:Func}{c:Code}(hf:C.P.funcs[f]?=some fn)(hb:fn.body=some c) :
  AC C f args m=aq C f (AP C) (AC C) c ⟨args++List.replicate (fn.ntmps-args.length) .any,m⟩ (aN C.P fn.results.toList):=by
 apply M9;intro r
 constructor
 .intro h;obtain ⟨k,hk⟩:=qb h
  cases k with
  | zero=>cases hk
  | succ k=>
   rw[l6,hf] at hk;simp only[hb] at hk;exact Ah (B9 fun g vs m r hr=>qP.lim (F:=fun k=>l6 C k g vs m) (fun k r h=>F0 C k g vs m r h) hr) c _ _ _ hk
 .intro h;obtain ⟨k,hk⟩:=qfT (qjT C) c _ _ _ h;refine qP.lim (F:=fun k=>l6 C k f args m) (fun k r h=>F0 C k f args m r h) (k:=k+1) ?_;show l6 C (k+1) f args m=some r;rw[l6,hf];simp only[hb];exact hk
end
end Go.Ab
namespace Go.Ab
open Go.RowKit
section
variable [WInv] {C:Cfg} {B:Nat} {w:World} {g:G} {m:ae}
theorem qfV(hC:CfgOk C){callI:Nat->List AV->ae->OM}(hI:nW C callI){R:Type}{fid:Nat}:∀(c:Code) (st:St) (K:Ex->St->Option R) (r:R) (a:Act) (w:World) (g:G) (Q:Exit->Act->World->Prop),
  aq C fid (gv callI) callI c st K=some r->StR B w g st a->Ix C B w g a K r Q->c.wp C.P Q a w:=by
 intro c
 induction c with
 | skip=>
  intro st K r a w g Q h hs hq;exact wp_skip (hq .normal st a w g h hs (Step.refl _ _ _) (ij.refl _ _))
 | region id ops d=>
  intro st K r a w g Q h hs hq;simp only[aq] at h
  cases d with
  | false=>
   simp only at h;rw[qh] at h;simp only[aS] at h;obtain ⟨s',hr,hK⟩:=h;exact wp_region (VZ hC hI _ st s' a w g hr hs fun a' w' g' dP s hd=>hq .normal s' a' w' g' hK dP s hd)
  | true=>
   simp only at h
   cases T1:C.seqm fid id with
   | true=>
    rw[T1] at h;simp only at h
    split at h
    .rename_i bI;exact qfI hC hI bI h hs fun s' a' w' g' hK dP s hd=>hq .normal s' a' w' g' hK dP s hd
    .cases h
   | false=>
   rw[T1] at h;simp only at h
   split at h
   .rename_i bI
    cases ht:C.two fid id with
    | nil=>
     rw[ht] at bI h;exact qfK hC hI (Sd bI) h hs fun s' a' w' g' hK dP s hd=>hq .normal s' a' w' g' hK dP s hd
    | cons two sp=>
     rw[ht] at bI h;exact qfL hC hI bI h hs fun s' a' w' g' hK dP s hd=>hq .normal s' a' w' g' hK dP s hd
   .cases h
 | seq x y ihx ihy=>
  intro st K r a w g Q h hs hq;simp only[aq] at h;refine wp_seq (ihx st _ r a w g _ h hs ?_);intro e st' a' w' g' hK dP s hd
  cases e with
  | normal=>
   simp only[dQ] at hK;exact ihy st' K r a' w' g' Q hK dP fun e st'' a'' w'' g'' uH mc s' gB=>hq e st'' a'' w'' g'' uH mc (s.trans s') (gB.trans hd)
  | exit id=>exact hq (.exit id) st' a' w' g' hK dP s hd
  | ret=>exact hq .ret st' a' w' g' hK dP s hd
 | cond co x y ihx ihy=>
  intro st K r a w g Q h hs hq;simp only[aq] at h;have hV:=Ag hs.tmp co
  cases hv:ev st.tmps co with
  | bool b=>
   rw[hv] at h hV;generalize hx:a.eval co=v at hV;cases hV
   cases b with
   | true=>exact wp_cond_true hx (ihx st K r a w g Q (by simpa [au] using h) hs hq)
   | false=>exact wp_cond_false hx (ihy st K r a w g Q (by simpa [au] using h) hs hq)
  | _=>rw[hv] at h;simp[au] at h
 | block id x ih=>
  intro st K r a w g Q h hs hq;simp only[aq] at h;refine wp_block (ih st _ r a w g _ h hs ?_);intro e st' a' w' g' hK dP s hd
  cases e with
  | normal=>exact hq .normal st' a' w' g' hK dP s hd
  | exit j=>
   simp only[dK] at hK
   by_cases hj:j=id
   .have hb:(j==id)=true:=by simpa using hj
    rw[hb] at hK;simp only[xS,Exit.inBlock,aj hj];exact hq .normal st' a' w' g' hK dP s hd
   .have hb:(j==id)=false:=by simpa using hj
    rw[hb] at hK;simp only[xS,Exit.inBlock,ag hj];exact hq (.exit j) st' a' w' g' hK dP s hd
  | ret=>exact hq .ret st' a' w' g' hK dP s hd
 | loop x ih=>
  intro st K r a w g Q h hs hq;simp only[aq] at h;generalize C.mask fid (keyOf x)=mk at h;have uR:∀(l:List Bool) {w:World} {g:G} {st:St} {a:Act},iO l st.tmps=true->StR B w g st a->StR B w g ⟨rb l st.tmps,st.mem⟩ a:=fun l w g st a hf hs=>⟨by rw[Nq _ _ hf];exact hs.tmp.mask _,hs.mem,hs.size⟩;simp only[iE] at h
  cases uJ:iO mk.head st.tmps with
  | false=>rw[uJ] at h;cases h
  | true=>
  rw[uJ] at h;have qz:=uR mk.head uJ hs;obtain ⟨n,hn⟩:=qb h
  have round:∀k (st:St) (a:Act) (w:World) (g:G),gp (aq C fid (gv callI) callI x) mk k st K=some r->StR B w g st a->Ix C B w g a K r Q->x.wp C.P (Exit.then (LW C.P x Q) Q) a w:=by
   intro k
   induction k with
   | zero=>intro st a w g h;simp[gp] at h
   | succ k ihk=>
    intro st a w g h hs hq;simp only[gp] at h;refine ih st _ r a w g _ h hs ?_;intro e st' a' w' g' hK dP s hd;have po:Ix C B w' g' a' K r Q:=fun e st'' a'' w'' g'' uH mc s' gB=>hq e st'' a'' w'' g'' uH mc (s.trans s') (gB.trans hd)
    cases e with
    | normal=>
     simp only[fz,iE] at hK
     cases hf:iO mk.head st'.tmps with
     | false=>rw[hf] at hK;cases hK
     | true=>
      rw[hf] at hK;exact qhK (ihk _ a' w' g' hK (uR _ hf dP) po)
    | exit id=>
     simp only[fz,iE] at hK
     cases hf:iO mk.out st'.tmps with
     | false=>rw[hf] at hK;cases hK
     | true=>rw[hf] at hK;exact hq (.exit id) _ a' w' g' hK (uR _ hf dP) s hd
    | ret=>
     simp only[fz,iE] at hK
     cases hf:iO mk.ret st'.tmps with
     | false=>rw[hf] at hK;cases hK
     | true=>rw[hf] at hK;exact hq .ret _ a' w' g' hK (uR _ hf dP) s hd
  exact qko (round n _ a w g hn qz hq)
 | exit id=>
  intro st K r a w g Q h hs hq;exact wp_exit (hq (.exit id) st a w g h hs (Step.refl _ _ _) (ij.refl _ _))
 | ret=>
  intro st K r a w g Q h hs hq;exact wp_ret (hq .ret st a w g h hs (Step.refl _ _ _) (ij.refl _ _))
 | rangeFunc=>intro st K r a w g Q h;simp[aq] at h
 | scope=>intro st K r a w g Q h;simp[aq] at h
 | label=>intro st K r a w g Q h;simp[aq] at h
 | goto=>intro st K r a w g Q h;simp[aq] at h
 | refuse=>intro st K r a w g Q h;simp[aq] at h
theorem qc2(hC:CfgOk C):∀k,nW C (l6 C k):=by
 intro k
 induction k with
 | zero=>intro f args m v m' h;simp[l6] at h
 | succ k ih=>
  intro f args m v m' h;simp only[l6] at h
  cases q8:C.P.funcs[f]? with
  | none=>rw[q8] at h;simp at h
  | some fn=>
   rw[q8] at h;simp only at h
   cases hb:fn.body with
   | none=>rw[hb] at h;simp at h
   | some c=>
    rw[hb] at h;simp only at h;refine ⟨?_,fn,rfl,by simp[hb]⟩;intro B w g vs hm hB hl hv;refine calls_of_wp_defers q8 hb ?_
    have kO:gn w g (args++List.replicate (fn.ntmps-args.length) .any) (vs++Array.replicate (fn.ntmps-vs.size) undef):=by
     refine ⟨by simp[hl],fun t=>?_⟩;simp only[bA,fV,pL,Em]
     by_cases h1:t<args.length
     .rw[aj h1,aj (by omega)];simpa [bA,fV] using hv t h1
     .rw[ag h1,ag (by omega),ui];split<;>exact .any _
    refine qfV hC ih c _ _ (v,m') _ w g _ h ⟨kO,hm,hB⟩ ?_;intro e st' a' w' g' hK dP s hd
    have fin:(lU C.P st'.mem st'.tmps fn.results.toList).bind (fun vs=>some (wN vs,st'.mem))=some (v,m')->Leaves C.P fn a'.tmps (fun e w'=>∃v'' g'',e=Ending.returned v''/\Step B w g w' g''/\MemR B w' g'' m'/\V w' g'' v v'') a'.defers .returning w':=by
     intro hK;simp only[aS,bp,dT] at hK;obtain ⟨l,jB,rfl,rfl⟩:=hK;obtain ⟨vl,r1,r2,r3⟩:=Nu (P:=C.P) dP.mem dP.tmp _ l jB;refine Us ⟨_,?_,_,g',rfl,s,dP.mem,U8 r2 r3⟩ _ (hd (fun d hd=>by cases hd));rw[Nt,IA];simp only[Sem.run_bind,Sem.run_map,r1,Result.andThen_ok,Sem.run_pure]
    cases e with
    | normal=>exact fin (by simpa only[aN,HT] using hK)
    | exit id=>simp[aN] at hK
    | ret=>exact fin (by simpa only[aN,HT] using hK)
theorem Iw(hC:CfgOk C):nW C (AC C):=by
 intro f args m v m' h;obtain ⟨k,hk⟩:=qb h;exact qc2 hC k f args m v m' hk
end
end Go.Ab
namespace Go.Ab
open Go.RowKit
def ik(F:Fence):Prop:=F=Fence.wide\/∃l,F=Fence.wide.inRound l
theorem ik.fn{F:Fence}(h:ik F)(f:FuncId):F.fn f:=by
 rcases h with rfl|⟨l,rfl⟩<;>exact trivial
theorem ik.depth{F:Fence}(h:ik F):F.depth=none:=by
 rcases h with rfl|⟨l,rfl⟩<;>rfl
theorem ik.calls{F:Fence}(h:ik F){n:Nat}{P:Program}{f:FuncId}{args:Array Value}{w:World}{R:Ending->World->Prop}(hc:Calls P f args w R):CallsIn F n P f args w R:=by
 rcases h with rfl|⟨l,rfl⟩
 .exact callsIn_wide.2 hc
 .exact CallsIn.inRound l (callsIn_wide.2 hc)
theorem VV{n:Nat}{P:Program}{row:String}{args:Array Value}{w:World}{R:Value->World->Prop}(h:Rows P row args w R):RowsIn Fence.wide n P row args w R:=
 fun c cs _=>let ⟨v,w',r,s⟩:=h c cs;⟨v,w',r,stepsIn_wide.2 s⟩
theorem ik.rows{F:Fence}(h:ik F){n:Nat}{P:Program}{row:String}{args:Array Value}{w:World}{R:Value->World->Prop}(hc:Rows P row args w R):RowsIn F n P row args w R:=by
 rcases h with rfl|⟨l,rfl⟩
 .exact VV hc
 .exact VV hc
theorem qkn{F:Fence}(hF:ik F){n:Nat}{P:Program}{o:Oper}(hd:∀c,o.op≠.defer c){a:Act}{w:World}{next:Act->World->Prop}{Q:Exit->Act->World->Prop}(h:o.wp P a w next Q):o.wpIn F n P a w next Q:=by
 refine ⟨fun f _=>hF.fn f,?_⟩;rw[Oper.semAt_eq _ _ _ hd];unfold Oper.wp at h;have S9:F.depth.isSome=true->1<=n:=by rw[hF.depth];intro h;cases h
 generalize (execOp a.eval o).run P w=r at h
 cases r with
 | ok x w'=>
  cases x<;>first|exact h|exact ⟨S9,hF.calls h⟩|exact ⟨S9,hF.rows h⟩|exact h.elim
 | halt s w'=>cases s<;>exact h
section
variable [WInv] {C:Cfg} {B:Nat} {F:Fence} {n:Nat}
theorem HH(hb:∀g,C.ben g=false){fid:Nat}{callP:Nat->List AV->Option AV}{callI:Nat->List AV->ae->OM}{d:Option Nat}{o:Oper}{ρ:Operand->AV}{m:ae}{x:AV×ae}(h:ep C fid callP callI d o ρ m=some x):∀c,o.op≠.defer c:=by
 intro c hc;unfold ep jr at h;rw[hc] at h;simp only[hb] at h
 split at h
 .split at h
  .cases hf:xU (ρ ‹_›) with
   | none=>rw[hf] at h;cases h
   | some y=>rw[hf] at h;cases h
  .cases h
 .cases h
def tU(F:Fence)(n:Nat)(P:Program)(ops:Array Oper)(Q:Exit->Act->World->Prop)(i:Nat)(next:Act->World->Prop)(a:Act)(w:World):Prop:=
 match ops[i]? with
 | none=>next a w
 | some o=>if Region.wanted o (yielded ops a.tmps) then o.wpIn F n P a w next Q else (∀f,o.about P w a.eval=some f->F.fn f)/\next (a.put o.dst undef) w
theorem zm{P:Program}{ops:Array Oper}{Q:Exit->Act->World->Prop}(i:Nat)(rest:List Nat)(a:Act)(w:World):wpOpsIn F n P ops Q (i::rest) a w=tU F n P ops Q i (wpOpsIn F n P ops Q rest) a w:=by
 cases h:ops[i]?<;>simp[wpOpsIn,tU,h]
theorem Hv{P:Program}(hF:ik F){ops:Array Oper}{Q:Exit->Act->World->Prop}{i:Nat}{next:Act->World->Prop}{a:Act}{w:World}(hd:∀o,ops[i]?=some o->Region.wanted o (yielded ops a.tmps)=true->o.wp P a w next Q/\∀c,o.op≠.defer c)(hs:∀o,ops[i]?=some o->Region.wanted o (yielded ops a.tmps)=false->next (a.put o.dst undef) w)(hn:ops[i]?=none->next a w):tU F n P ops Q i next a w:=by
 unfold tU
 cases h:ops[i]? with
 | none=>exact hn h
 | some o=>
  simp only
  cases hw:Region.wanted o (yielded ops a.tmps) with
  | true=>simp only[eC];exact qkn hF (hd o h hw).2 (hd o h hw).1
  | false=>simp only[ko,j6];exact ⟨fun f _=>hF.fn f,hs o h hw⟩
theorem qjz(hC:CfgOk C)(hb:∀g,C.ben g=false)(hF:ik F){callI:Nat->List AV->ae->OM}(hI:nW C callI){fid:Nat}{ops:Array Oper}{i:Nat}{st s1:St}{a:Act}{w:World}{g:G}(h:bK C fid (gv callI) callI none ops i st=some s1)(hs:StR B w g st a)
  {Q:Exit->Act->World->Prop} {next:Act->World->Prop} (hn:∀a' w' g',StR B w' g' s1 a'->Step B w g w' g'->a'.defers=a.defers->next a' w'):tU F n C.P ops Q i next a w:=by
 obtain ⟨o,v,m1,ho,hr,rfl⟩:=qE h
 have jY:ep C fid (gv callI) callI none o (ev st.tmps) st.mem=some (v,m1)->o.wp C.P a w next Q/\∀c,o.op≠.defer c:=by
  intro hf;obtain ⟨v2,m2,hK,bh⟩:=M8 (a:=a) hC hI hf (Ag hs.tmp) hs.mem hs.size (fun kL s hb=>by cases hb);simp only[bp,dT] at hK;obtain ⟨rfl,rfl⟩:=hK
  exact ⟨bh next Q fun a1 v' w' g' _ he _ s hm hv=>by
   obtain rfl:=he (HH hb hf)
   exact hn _ w' g' ⟨(hs.tmp.step s).put hv o.dst,hm,b7 hs.size s.below.size⟩ s (sI _ _ _),HH hb hf⟩
 have uX:v=.tup []/\m1=st.mem->next (a.put o.dst undef) w:=by
  rintro ⟨rfl,rfl⟩;exact hn _ w g ⟨hs.tmp.put (.tup [] #[] rfl (fun j hj=>absurd hj (Nat.not_lt_zero j))) o.dst,hs.mem,hs.size⟩ (Step.refl _ _ _) (sI _ _ _)
 have Mo:Region.wanted o (yielded ops a.tmps)=true->o.wp C.P a w next Q/\∀c,o.op≠.defer c:=by
  intro hw;unfold eZ at hr
  cases hg:o.guard with
  | none=>simp only[hg] at hr;exact jY hr
  | some jw=>
   obtain ⟨j,want⟩:=jw;simp only[hg] at hr
   cases hd:(ops[j]?).bind (·.dst) with
   | none=>simp[hd] at hr
   | some d=>
    simp only[hd] at hr
    cases oa:rv ops st.tmps j with
    | true=>
     simp only[oa] at hr
     cases hv:st.tmps.getD d .any with
     | tup cs=>
      have hV:=hs.tmp.2 d;rw[hv] at hV
      have hy:yielded ops a.tmps j=none:=by
       unfold yielded;rw[hd];simp only[aa];generalize hx:a.tmps.getD d undef=x at hV;cases hV;rw[fV] at hx
       cases hq:a.tmps[d]? with
       | none=>rfl
       | some y=>rw[hq] at hx;simp only[nZ] at hx;rw[hx]
      have:Region.wanted o (yielded ops a.tmps)=false:=by simp only[Region.wanted,hg,hy];rfl
      rw[this] at hw;cases hw
     | _=>simp only[hv] at hr;cases hr
    | false=>
     simp only[oa] at hr
     cases hv:st.tmps.getD d .any with
     | bool b=>
      simp only[hv] at hr;have hV:=hs.tmp.2 d;rw[hv] at hV
      have hy:yielded ops a.tmps j=some b:=by
       unfold yielded;rw[hd];simp only[aa];generalize hx:a.tmps.getD d undef=x at hV;cases hV
       have:a.tmps[d]?=some (.bool b):=by
        rw[fV] at hx
        cases hq:a.tmps[d]? with
        | none=>rw[hq] at hx;cases hx
        | some y=>rw[hq] at hx;simpa using hx
       rw[this]
      have pZ:Region.wanted o (yielded ops a.tmps)=(some b==some want):=by simp only[Region.wanted,hg,hy]
      by_cases hb:b=want
      .rw[aj hb] at hr;exact jY hr
      .have:(some b==some want)=false:=by simpa using hb
       rw[pZ,this] at hw;cases hw
     | _=>simp only[hv] at hr;cases hr
 have uT:Region.wanted o (yielded ops a.tmps)=false->v=.tup []/\m1=st.mem:=by
  intro hw;unfold eZ at hr
  cases hg:o.guard with
  | none=>
   have:Region.wanted o (yielded ops a.tmps)=true:=by simp[Region.wanted,hg]
   rw[this] at hw;cases hw
  | some jw=>
   obtain ⟨j,want⟩:=jw;simp only[hg] at hr
   cases hd:(ops[j]?).bind (·.dst) with
   | none=>simp[hd] at hr
   | some d=>
    simp only[hd] at hr
    cases oa:rv ops st.tmps j with
    | true=>
     simp only[oa] at hr
     cases hv:st.tmps.getD d .any with
     | tup cs=>
      simp only[hv] at hr
      cases cs with
      | nil=>
       simp only[bp,dT] at hr;exact ⟨hr.1.symm,hr.2.symm⟩
      | cons c cs=>simp only at hr;cases hr
     | _=>simp only[hv] at hr;cases hr
    | false=>
     simp only[oa] at hr
     cases hv:st.tmps.getD d .any with
     | bool b=>
      simp only[hv] at hr;have hV:=hs.tmp.2 d;rw[hv] at hV
      have hy:yielded ops a.tmps j=some b:=by
       unfold yielded;rw[hd];simp only[aa];generalize hx:a.tmps.getD d undef=x at hV;cases hV
       have:a.tmps[d]?=some (.bool b):=by
        rw[fV] at hx
        cases hq:a.tmps[d]? with
        | none=>rw[hq] at hx;cases hx
        | some y=>rw[hq] at hx;simpa using hx
       rw[this]
      have pZ:Region.wanted o (yielded ops a.tmps)=(some b==some want):=by simp only[Region.wanted,hg,hy]
      by_cases hb:b=want
      .have:(some b==some want)=true:=by simpa using hb
       rw[pZ,this] at hw;cases hw
      .rw[ag hb] at hr;simp only[bp,dT] at hr;exact ⟨hr.1.symm,hr.2.symm⟩
     | _=>simp only[hv] at hr;cases hr
 refine Hv hF (fun o' jb hw=>?_) (fun o' jb hw=>?_) (fun nj=>by rw[ho] at nj;cases nj)
 .rw[ho] at jb;obtain rfl:=kz jb;exact Mo hw
 .rw[ho] at jb;obtain rfl:=kz jb;exact uX (uT hw)
theorem V0(hC:CfgOk C)(hb:∀g,C.ben g=false)(hF:ik F){callI:Nat->List AV->ae->OM}(hI:nW C callI){fid:Nat}{ops:Array Oper}{Q:Exit->Act->World->Prop}:∀(l:List Nat) (st s':St) (a:Act) (w:World) (g:G),fc C fid (gv callI) callI none ops l st=some s'->StR B w g st a ->
  (∀a' w' g',StR B w' g' s' a'->Step B w g w' g'->a'.defers=a.defers->Q .normal a' w')->wpOpsIn F n C.P ops Q l a w
 | [],st,s',a,w,g,h,hs,hn=>by
  simp only[fc,bp] at h;subst h;exact hn a w g hs (Step.refl _ _ _) rfl
 | i::l,st,s',a,w,g,h,hs,hn=>by
  simp only[fc,aS] at h;obtain ⟨s1,h1,h⟩:=h;rw[zm];exact qjz hC hb hF hI h1 hs fun a' w' g' dP s hd=>V0 hC hb hF hI l s1 s' a' w' g' h dP fun a'' w'' g'' mc s' gB=>hn a'' w'' g'' mc (s.trans s') (gB.trans hd)
def Iy(C:Cfg)(B:Nat){R:Type}(w:World)(g:G)(a:Act)(K:Ex->St->Option R)(r:R)(Q:Exit->Act->World->Prop):Prop:=
 ∀e st' a' w' g',K e st'=some r->StR B w' g' st' a'->Step B w g w' g'->a'.defers=a.defers->Q (xS e) a' w'
end
end Go.Ab
namespace Go.Ab
open Go.RowKit
section
variable [WInv] {C:Cfg} {B:Nat} {w:World} {g:G} {m:ae}
theorem Vw{P:Program}{a:Act}{o:Oper}{v:AV}{s:Sem Value}(h:∃v',s.run P w=.ok v' w/\V w g v v')(hs:∀w,(execOp a.eval o).run P w=(do pure (.value (<- s)):Sem Next).run P w):∃v',(execOp a.eval o).run P w=.ok (.value v') w/\V w g v v':=by
 obtain ⟨v',h1,h2⟩:=h;exact ⟨v',by rw[hs];simp[h1],h2⟩
def vH(W:World)(row:Option Nat):Prop:=∀r,row=some r->∃o:Obj,W.heap[r]?=some o/\o.isCells=false
theorem CD{W W':World}{row:Option Nat}(hg:W.grownBy W' row)(hr:vH W row){b off:Nat}{u:Value}(h:W.cell? ⟨b,off,none⟩=some u):W'.cell? ⟨b,off,none⟩=some u:=by
 refine (World.cell?_of_block (w:=W) (a:=⟨b,off,none⟩) (hg.block b (tq h) ?_)).trans h;intro e;obtain ⟨o,h1,h2⟩:=hr b e.symm;obtain ⟨o',h3,h4⟩:=cells_of_cell h;rw[h1] at h3;obtain rfl:=kz h3;rw[h2] at h4;cases h4
theorem CE{W W':World}{row:Option Nat}(hg:W.grownBy W' row)(hr:vH W row){b:Nat}{c:Array Value}{e:TypeId}{fr:Nat×Nat}(h:W.heap[b]?=some (Obj.cells c e fr)):W'.heap[b]?=some (Obj.cells c e fr):=by
 refine (hg.block b (eA.1 h).1 ?_).trans h;intro e;obtain ⟨o,h1,h2⟩:=hr b e.symm;rw[h1] at h;obtain rfl:=kz h;cases h2
theorem V.grown{W W':World}{row:Option Nat}(hg:W.grownBy W' row)(hr:vH W row){x:AV}{v:Value}(h:V W g x v):V W' g x v:=by
 induction h with
 | any x=>exact .any x
 | int k n=>exact .int k n
 | bool b=>exact .bool b
 | str x=>exact .str x
 | nils sh o ho=>exact .nils sh o ho
 | lst sh o es a cap us hs hc hm bO cf hv ho ih=>
  refine .lst sh o es a cap us hs hc hm bO (fun j hj=>?_) ih ?_
  .obtain ⟨h1,h2,h3⟩:=cf j hj;exact ⟨CD hg hr h1,h2,h3⟩
  .cases o with
   | no=>trivial
   | full=>exact ho
   | tok nm e=>
    obtain ⟨h1,h2,c,hc,hs⟩:=ho;exact ⟨h1,h2,c,CE hg hr hc,hs⟩
 | arr nm off n sh a cap hs hc hm hl=>
  refine .arr nm off n sh a cap hs hc hm (hl.imp id fun ⟨h1,h2,c,e,h3,h4⟩=>⟨h1,h2,c,e,CE hg hr h3,h4⟩)
 | nilm=>exact .nilm
 | mref nm b hl=>exact .mref nm b hl
 | vec n sh cs a cap us hs hc hm hn gX cf hv ih=>
  refine .vec n sh cs a cap us hs hc hm hn gX (fun j hj=>?_) ih;obtain ⟨h1,h2⟩:=cf j hj;exact ⟨CD hg hr h1,h2⟩
 | ptr nm off b hl=>exact .ptr nm off b hl
 | vptr cs b off us cf hv ih=>
  refine .vptr cs b off us (fun j hj=>?_) ih;obtain ⟨h1,h2⟩:=cf j hj;exact ⟨CD hg hr h1,h2⟩
 | nilp=>exact .nilp
 | nilf=>exact .nilf
 | nile=>exact .nile
 | agg cs vs hl hv ih=>exact .agg cs vs hl ih
 | tup cs vs hl hv ih=>exact .tup cs vs hl ih
 | fn f cs vs hl hv ih=>exact .fn f cs vs hl ih
theorem gn.grown{W W':World}{row:Option Nat}(hg:W.grownBy W' row)(hr:vH W row){ts:List AV}{vs:Array Value}(h:gn W g ts vs):gn W' g ts vs:=⟨h.1,fun t=>(h.2 t).grown hg hr⟩
def Jv(m:ae):Prop:=∀nm kk es,m.get nm≠some (.mp kk es)
theorem MemR.grown{W W':World}{row:Option Nat}(hg:W.grownBy W' row)(hr:vH W row)(hB:B<=W.heap.size)(hb:∀r,row=some r->B<=r)(hm:tS=true->Jv m)(h:MemR B W g m):MemR B W' g m where
 obj nm bx cs hn:=by
  obtain ⟨b,c,e,h1,h2,h3,h4,h5,h6,h7⟩:=h.obj nm bx cs hn;exact ⟨b,c,e,h1,h2,CE hg hr h3,h4,fun j hj=>(h5 j hj).grown hg hr,h6,h7⟩
 tok nm n sz hn:=by
  obtain ⟨b,c,e,h1,h2,h3,h4,h5,h6⟩:=h.tok nm n sz hn;exact ⟨b,c,e,h1,h2,CE hg hr h3,h4,h5,h6⟩
 resv:=h.resv
 fresh:=h.fresh
 inj:=h.inj
 wrLt b off hw:=rQ (h.wrLt b off hw) hg.size
 boxLt b hb:=rQ (h.boxLt b hb) hg.size
 inv w' k:=h.inv w' (((Below.refl B W).grown hg hB hb).trans k)
 mp nm kk es hn:=by
  obtain ⟨_,_,_,_,_,_,M⟩:=h.mp nm kk es hn;exact absurd hn (hm M.on nm kk es)
theorem Step.grown{w0:World}{g0:G}{W W':World}{row:Option Nat}(s:Step B w0 g0 W g)(hg:W.grownBy W' row)(hr:vH W row)(hb:∀r,row=some r->w0.heap.size<=r)(hB:B<=w0.heap.size):Step B w0 g0 W' g where
 below:=s.below.grown hg (b7 hB s.below.size) (fun k e=>b7 hB (hb k e))
 cell b off u hn hc:=CD hg hr (s.cell b off u hn hc)
 shape b c e fr h:=by
  obtain ⟨c',h1,h2⟩:=s.shape b c e fr h;exact ⟨c',CE hg hr h1,h2⟩
 wr:=s.wr
 wrB:=s.wrB
 box:=s.box
 loc:=s.loc
 tloc:=s.tloc
 others k o hk ho G1:=by
  refine (hg.block k (eA.1 (s.others k o hk ho G1)).1 ?_).trans (s.others k o hk ho G1);intro e;have:=hb k e.symm;have:=(eA.1 hk).1;omega
end
end Go.Ab
namespace Go.Ab
open Go.RowKit
def rA:Code->Code
 | .rangeFunc _ _ a _=>a
 | c=>c
def rB:Code->Code
 | .rangeFunc _ _ _ b=>b
 | c=>c
section
variable [WInv] {C:Cfg} {B:Nat} {w:World} {g:G} {m:ae}
def G.bare(g:G):G:=⟨g.wr,g.box,fun _=>none,fun _ _=>none⟩
structure Hold (g:G) (w W W':World):Prop where
 size:W.heap.size<=W'.heap.size
 cell:∀(b off:Nat) (u:Value),b<w.heap.size->¬ g.wr b off->W.cell? ⟨b,off,none⟩=some u->W'.cell? ⟨b,off,none⟩=some u
theorem Hold.refl(g:G)(w W:World):Hold g w W W:=⟨aW _,fun _ _ _ _ _ h=>h⟩
theorem Hold.trans{g:G}{w A B C:World}(h:Hold g w A B)(k:Hold g w B C):Hold g w A C:=⟨b7 h.size k.size,fun b off u h1 h2 h3=>k.cell b off u h1 h2 (h.cell b off u h1 h2 h3)⟩
theorem Hold.of_below{g:G}{w W:World}(h:Below w.heap.size w W):Hold g w w W:=⟨h.size,fun b off u h1 _ h3=>(h.cell (p:=⟨b,off,none⟩) h1).trans h3⟩
theorem Hold.of_step{g g' g1:G}{w W W':World}(h:Step B W g' W' g1)(hw:∀b off,b<w.heap.size->¬ g.wr b off->¬ g'.wr b off):Hold g w W W':=⟨h.below.size,fun b off u h1 h2 h3=>h.cell b off u (hw b off h1 h2) h3⟩
theorem Hold.book{g:G}{w w1:World}(hs:w.heap.size<=w1.heap.size)(W:World)(l:Nat)(o o':Obj)(hl:w1.heap.size<=l)(h:W.heap[l]?=some o)(hc:o.isCells=false):Hold g w W (W.putObj l o') where
 size:=by simp
 cell b off u h1 _ h3:=CD (grownBy_putObj' W l o') (fun r e=>by cases e;exact ⟨o,h,hc⟩) h3
theorem V.bare{x:AV}{v:Value}(h:V w g x v)(hc:cl x=true):V w g.bare x v:=FU h hc (fun _ _ h=>h) (fun _ h=>h)
theorem gn.less{ts ts':List AV}{vs:Array Value}(h:gn w g ts vs)(hl:ts'.length=ts.length)(ha:∀t,ts'.getD t .any=ts.getD t .any\/ts'.getD t .any=.any):gn w g ts' vs:=
 ⟨hl.trans h.1,fun t=>by
  rcases ha t with e|e
  .rw[e];exact h.2 t
  .rw[e];exact .any _⟩
theorem qhT{F:Fence}{n:Nat}(hF:ik F){P:Program}{ops:Array Oper}{i:Nat}{o:Oper}{x:Operand}(ho:ops[i]?=some o)(bh:o.op=.move x)(hg:o.guard=none){next:Act->World->Prop}{Q:Exit->Act->World->Prop}{a:Act}{w:World}
  (h:next (a.put o.dst (a.eval x)) w):tU F n P ops Q i next a w:=by
 refine Hv hF (fun o' jb hw=>?_) (fun o' jb hw=>?_) (fun nj=>by rw[ho] at nj;cases nj)
 .rw[ho] at jb;obtain rfl:=kz jb;refine ⟨?_,fun c hc=>by rw[bh] at hc;cases hc⟩;unfold Oper.wp;have:(execOp a.eval o).run P w=.ok (.value (a.eval x)) w:=by simp[execOp,bh]
  rw[this];exact h
 .rw[ho] at jb;obtain rfl:=kz jb;rw[show Region.wanted o (yielded ops a.tmps)=true by simp[Region.wanted,hg]] at hw;cases hw
theorem qks{F:Fence}{n:Nat}(hF:ik F)(hn:1<=n){P:Program}{ops:Array Oper}{i:Nat}{o:Oper}{c:Call}{fo:Operand}{l:Nat}(ho:ops[i]?=some o)(bh:o.op=.call c)(hc:c.callee=.value fo)(hg:o.guard=none){next:Act->World->Prop}{Q:Exit->Act->World->Prop}{a:Act}{w:World}
  (hf:a.eval fo=.func (.yield l) #[] #[]) {R:Ending->World->Prop} (hy:YieldAt F (n-1) P l (c.args.map a.eval) w R) (hR:∀e w',R e w'->∃v,e=.returned v/\next (a.put o.dst v) w'):tU F n P ops Q i next a w:=by
 obtain ⟨fn,tmps,assign,body,jY,qg2⟩:=hy;unfold tU;rw[ho];simp only;have hw:Region.wanted o (yielded ops a.tmps)=true:=by simp[Region.wanted,hg]
 rw[hw];simp only[eC];refine ⟨fun f _=>hF.fn f,?_⟩;have hd:∀c',o.op≠.defer c':=by intro c' h;rw[bh] at h;cases h
 rw[Oper.semAt_eq _ _ _ hd]
 have:(execOp a.eval o).run P w=.ok (.round l fn tmps assign body) w:=by
  simp only[execOp,bh,resolve,hc,hf,Deferred.ofValue,invoke,Sem.run_bind,Sem.run_pure,Result.andThen_ok,Array.empty_append,Array.append_empty];exact jY
 rw[this,Oper.uponIn_round];refine ⟨fun _=>hn,qg2.mono fun e w' hr=>?_⟩;obtain ⟨v,rfl,h⟩:=hR e w' hr;exact h
end
end Go.Ab
namespace Go.Ab
open Go.RowKit
section
variable [WInv] {C:Cfg} {B:Nat} {w W:World} {g:G}
def wl:AV->Bool
 | .any | .int .. | .bool _ | .str _ | .nilp | .nilf | .nile=>true
 | _=>false
theorem V.flat{x:AV}{v:Value}{w':World}{g':G}(h:V w g x v)(hw:wl x=true):V w' g' x v:=by
 cases h<;>first|(simp[wl] at hw;done)|constructor
theorem qjr{P:Program}{e:Nat}{sh:Sh}{z:Bool}{o:Own}{es:List AV}{x':Value}{lo hi:Nat}(hx:V w g (.lst sh z o es) x')(h1:lo<=hi)(h2:hi<=es.length)(t:Nat)(ht:P.underlying t=some (.slice e))(bO:iz P e=some sh)(he:mL P e sh=true) :
  ∃v',(∀W,(Instr.sliceAt t x' (some (.int .i64 lo)) (some (.int .i64 hi)) none).run P W=.ok v' W)/\V w g (.lst sh z .no ((es.take hi).drop lo)) v':=by
 obtain ⟨inf,z0,pS,eM,lO,_,_,_⟩:=rX he
 have bd:∀(len cap:Nat) (W:World),len=es.length->len<=cap->(Instr.sliceBounds true len cap (some (.int .i64 lo)) (some (.int .i64 hi)) none).run P W=.ok (lo,hi,cap) W:=by
  intro len cap W hl hc;have e1:(0:Int)<=(hi:Nat)/\((hi:Nat):Int)<=len:=by omega
  have e2:(0:Int)<=(lo:Nat)/\((lo:Nat):Int)<=hi:=by omega
  obtain ⟨b1,b2,b3⟩:=Ch (P:=P) (w:=W) (g:=g) (isS:=true) (len:=len) (cap:=cap) (lo:=some (.int .i64 lo)) (hi:=some (.int .i64 hi)) (lo':=some (.int .i64 lo)) (hi':=some (.int .i64 hi)) (V.int .i64 lo) (V.int .i64 hi) hc (h:=hi) (l:=lo) (by simp only[jI,e1,and_self,eC];simp) (by simp only[jI,e2,and_self,eC];simp);exact b1
 cases hx with
 | nils _ o L5=>
  have h3:hi=0:=by simpa using h2
  have h4:lo=0:=by omega
  subst h3;subst h4
  refine ⟨.slice none 0 0,fun W=>?_,?_⟩
  .have gI:(Instr.sliceBounds true 0 0 (some (.int .i64 0)) (some (.int .i64 0)) none).run P W=.ok (0,0,0) W:=bd 0 0 W rfl (aW _);simp[Instr.sliceAt,run_underlying ht,Instr.slice,gI,mW pS]
  .simp only[List.take_nil,List.drop_nil];exact .nils _ _ (by simp)
 | lst _ o es a cap us jZ hc eR C8 cf hv jb=>
  refine ⟨.slice (some (if cap=lo then a else a.add (lo*sh.size))) (hi-lo) (cap-lo),fun W=>?_,Q9 (.lst sh o es a cap us jZ hc eR C8 cf hv jb) h1 h2 (by omega) (aW _) (.inl rfl)⟩
  have gI:=bd es.length cap W rfl hc;simp only[Instr.sliceAt,Sem.run_bind,run_underlying ht,Result.andThen_ok,Instr.slice,gI,mW pS,Sem.run_pure];by_cases iF:cap=lo<;>simp[iF,eM]
def HL(o:Op)(ρ:Operand->AV)(v:AV):Bool:=match o with
 | .move _ | .assign _ | .load .. | .fieldAddr ..=>true
 | .binOp _ _ x y _=>wl (ρ x)&&(wl (ρ y)&&wl v)
 | .unOp _ _ x=>wl (ρ x)&&wl v
 | _=>false
theorem qiw{callP:Nat->List AV->Option AV}{callI:Nat->List AV->ae->OM}{fid:Nat}{d:Option Nat}{o:Oper}{ρ:Operand->AV}{a:Act}{v:AV}{m1:ae}(hh:Hold g w w W)(h:ep C fid callP callI d o ρ []=some (v,m1))(hp:HL o.op ρ v=true)(hρ:∀x,V w g (ρ x) (a.eval x)) :
  m1=[]/\∃v',(execOp a.eval o).run C.P W=.ok (.value v') W/\V w g v v':=by
 unfold ep jr at h;unfold HL at hp
 cases bh:o.op with
 | move x=>
  rw[bh] at h;simp only[bp,dT] at h;obtain ⟨rfl,rfl⟩:=h;exact ⟨rfl,_,by simp[execOp,bh],hρ x⟩
 | assign x=>
  rw[bh] at h;simp only[bp,dT] at h;obtain ⟨rfl,rfl⟩:=h;exact ⟨rfl,_,by simp[execOp,bh],hρ x⟩
 | load t x=>
  rw[bh] at h;simp only at h
  split at h
  .rename_i sh bO;simp only[aS,bp,dT] at h;obtain ⟨v0,hv,rfl,rfl⟩:=h;refine ⟨rfl,?_⟩;have hx:=hρ x;unfold ai at hv
   split at hv
   .rename_i cs gd;rw[gd] at hx;generalize AI:a.eval x=x' at hx
    cases hx with
    | vptr cs b o us cf Db=>
     obtain ⟨h1,h2⟩:=Gh us Db hv;have S4:∀j,j<cs.length->W.cell? ⟨b,o+j,none⟩=some (us j):=fun j hj=>hh.cell _ _ _ (tq (cf j hj).1) (cf j hj).2 (cf j hj).1
     cases sh with
     | none=>
      obtain ⟨aG,hV⟩:=h1 rfl;refine ⟨_,?_,hV⟩;simp only[execOp,bh,AI,Instr.loadAt,Instr.sureAddr,Sem.run_bind,Sem.run_pure,Result.andThen_ok];rw[A1 bO us (fun j hj=>S4 j (by simp only[Sh.size] at hj;omega))]
      rfl
     | some n=>
      obtain ⟨aG,hV⟩:=h2 n rfl;refine ⟨_,?_,by simpa using hV⟩;simp only[execOp,bh,AI,Instr.loadAt,Instr.sureAddr,Sem.run_bind,Sem.run_pure,Result.andThen_ok];rw[A1 bO us (fun j hj=>S4 j (by simp only[Sh.size] at hj;omega))]
      rfl
   .simp[ae.obj?,ae.get] at hv
   .cases hv
  .cases h
 | fieldAddr t x f=>
  rw[bh] at h;simp only at h
  split at h
  .rename_i off sh hf;simp only[aS,bp,dT] at h;obtain ⟨v0,hv,rfl,rfl⟩:=h;refine ⟨rfl,?_⟩;have hx:=hρ x;obtain ⟨fs,fd,hu,uK,bO,rfl,aE⟩:=Gy hf;obtain ⟨i,d,hi,hd,hs,_⟩:=zc bO;have hz:i.size≠0:=by omega
   unfold aB at hv
   split at hv
   .rename_i cs gd;rw[gd] at hx
    split at hv
    .rename_i aG;simp at hv;subst hv;generalize AI:a.eval x=x' at hx
     cases hx with
     | vptr cs b o us cf Db=>
      refine ⟨.pointer (some ⟨b,o+fd.offset,none⟩),by simp[execOp,bh,AI,Instr.fieldAt,run_underlying hu,uK,Instr.sureAddr,fieldPlace,mW hi,hz,lZ],?_⟩
      refine .vptr _ _ _ (fun j=>us (fd.offset+j)) (fun j hj=>?_) (fun j hj=>?_)
      .have:=cf (fd.offset+j) (by simp at hj;omega);simpa [my] using this
      .have:=Db (fd.offset+j) (by simp at hj;omega);simpa [bA,qI] using this
    .cases hv
   .rename_i nm o gd;simp at hv;subst hv;rw[gd] at hx;generalize AI:a.eval x=x' at hx
    cases hx with
    | ptr nm o b hl=>
     exact ⟨.pointer (some ⟨b,o+fd.offset,none⟩),by simp[execOp,bh,AI,Instr.fieldAt,run_underlying hu,uK,Instr.sureAddr,fieldPlace,mW hi,hz,lZ],.ptr _ _ _ hl⟩
   .cases hv
  .cases h
 | binOp op t x y p=>
  rw[bh] at h hp;simp only[aS,bp,dT] at h;obtain ⟨v0,hv,rfl,rfl⟩:=h;simp only[dY] at hp;obtain ⟨v',h1,h2⟩:=Vw (P:=C.P) (a:=a) (o:=o) (w:=W) (g:=g) (RB (P:=C.P) op t x y ((hρ x).flat hp.1) ((hρ y).flat hp.2.1) hv) (fun w=>by simp[execOp,bh]);exact ⟨rfl,v',h1,h2.flat hp.2.2⟩
 | unOp op t x=>
  rw[bh] at h hp;simp only[aS,bp,dT] at h;obtain ⟨v0,hv,rfl,rfl⟩:=h;simp only[dY] at hp;obtain ⟨v',h1,h2⟩:=Vw (P:=C.P) (a:=a) (o:=o) (w:=W) (g:=g) (Xe (P:=C.P) op ((hρ x).flat hp.1) hv) (fun w=>by simp[execOp,bh]);exact ⟨rfl,v',h1,h2.flat hp.2⟩
 | _=>rw[bh] at hp;cases hp
def sO(C:Cfg)(fid:Nat)(ops:Array Oper):List Nat->List AV->Option (List AV)
 | [],ts=>some ts
 | i::l,ts=>match ops[i]? with
  | none=>none
  | some o=>match o.guard with
   | some _=>none
   | none=>match ep C fid (fun _ _=>none) (fun _ _ _=>none) none o (ev ts) [] with
    | none=>none
    | some r=>match HL o.op (ev ts) r.1 with
     | true=>sO C fid ops l (ee ts o.dst r.1)
     | false=>none
def U0(ops:Array Oper)(l:List Nat)(t:Nat):Bool:=l.all fun i=>match ops[i]? with
 | some o=>match o.dst with
  | some d=>!(Nat.beq d t)
  | none=>true
 | none=>false
theorem AU{a:Act}{d:Option Nat}{t:Nat}{v:Value}(h:d≠some t):(a.put d v).tmps.getD t undef=a.tmps.getD t undef:=by
 cases d with
 | none=>rfl
 | some d=>
  have hdt:d≠t:=fun e=>h (by rw[e]);simp only[Act.put];rw[fV,fV,Array.getElem?_setIfInBounds_ne hdt]
theorem Is{F:Fence}{n:Nat}(hF:ik F){P:Program}{ops:Array Oper}{i:Nat}{o:Oper}{v:Value}(ho:ops[i]?=some o)(hd:∀c,o.op≠.defer c)(hg:o.guard=none){next:Act->World->Prop}{Q:Exit->Act->World->Prop}{a:Act}{w:World}
  (hr:(execOp a.eval o).run P w=.ok (.value v) w) (h:next (a.put o.dst v) w):tU F n P ops Q i next a w:=by
 refine Hv hF (fun o' jb hw=>?_) (fun o' jb hw=>?_) (fun nj=>by rw[ho] at nj;cases nj)
 .rw[ho] at jb;obtain rfl:=kz jb;refine ⟨?_,hd⟩;unfold Oper.wp;rw[hr];exact h
 .rw[ho] at jb;obtain rfl:=kz jb;rw[show Region.wanted o (yielded ops a.tmps)=true by simp[Region.wanted,hg]] at hw;cases hw
theorem wP{F:Fence}{n:Nat}(hF:ik F){fid:Nat}{ops:Array Oper}{Q:Exit->Act->World->Prop}(hh:Hold g w w W)(rest:List Nat):∀(l:List Nat) (ts ts':List AV) (a:Act),
  sO C fid ops l ts=some ts'->gn w g ts a.tmps ->
  (∀a',gn w g ts' a'.tmps->a'.defers=a.defers->(∀t,U0 ops l t=true->a'.tmps.getD t undef=a.tmps.getD t undef)->wpOpsIn F n C.P ops Q rest a' W)->wpOpsIn F n C.P ops Q (l++rest) a W:=by
 intro l
 induction l with
 | nil=>
  intro ts ts' a h ht hn;simp only[sO,bp] at h;subst h;exact hn a ht rfl fun _ _=>rfl
 | cons i l ih=>
  intro ts ts' a h ht hn;unfold sO at h
  cases ho:ops[i]? with
  | none=>rw[ho] at h;cases h
  | some o=>
   rw[ho] at h;simp only at h
   cases hg:o.guard with
   | some _=>rw[hg] at h;cases h
   | none=>
    rw[hg] at h;simp only at h
    cases hr:ep C fid (fun _ _=>none) (fun _ _ _=>none) none o (ev ts) [] with
    | none=>rw[hr] at h;cases h
    | some r=>
     rw[hr] at h;simp only at h
     cases hp:HL o.op (ev ts) r.1 with
     | false=>rw[hp] at h;cases h
     | true=>
      rw[hp] at h;obtain ⟨v,m1⟩:=r;obtain ⟨rfl,v',jY,hv⟩:=qiw (a:=a) hh hr hp (Ag ht)
      have hd:∀c,o.op≠.defer c:=by
       intro c hc;rw[hc] at hp;cases hp
      rw[bm,zm];refine Is hF ho hd hg jY ?_;refine ih (ee ts o.dst v) ts' (a.put o.dst v') h (ht.put hv o.dst) fun a' Mk gB hk=>hn a' Mk (gB.trans (sI _ _ _)) fun t sv=>?_;simp only[U0,xu,dY,ho] at sv;rw[hk t sv.2];refine AU fun e=>?_;have:=sv.1;rw[e] at this;simp[Nat.beq_refl] at this
end
end Go.Ab
namespace Go.Ab
open Go.RowKit
section
variable [WInv] {C:Cfg} {B:Nat} {w W:World} {g:G}
open Classical in
noncomputable def only(e0:Ex)(st0:St):KT:=fun e st=>if e=e0/\st=st0 then some (.any,[]) else none
theorem qic(e0:Ex)(st0:St):only e0 st0 e0 st0=some (.any,[]):=by simp[only]
theorem qib{e0 e:Ex}{st0 st:St}{r:AV×ae}(h:only e0 st0 e st=some r):e=e0/\st=st0:=by
 unfold only at h
 split at h
 .assumption
 .cases h
theorem VJ{P:Program}{fn:Func}{st:St}{a:Act}{l:List AV}(hs:StR B W g st a)(h:lU P st.mem st.tmps fn.results.toList=some l):∃v,(results fn a.tmps).run P W=.ok v W/\V W g (wN l) v:=by
 obtain ⟨vl,r1,r2,r3⟩:=Nu (P:=P) hs.mem hs.tmp _ l h;refine ⟨_,?_,U8 r2 r3⟩;rw[Nt,IA];simp only[Sem.run_bind,Sem.run_map,r1,Result.andThen_ok,Sem.run_pure]
theorem Mz{F:Fence}{n:Nat}{P:Program}{fn:Func}{R:Ending->World->Prop}{st:St}{a:Act}{l:List AV}(hs:StR B W g st a)(h:lU P st.mem st.tmps fn.results.toList=some l)(hd:a.defers=[])(hR:∀v,V W g (wN l) v->R (.returned v) W):bodyPostM F n P fn R .ret a W:=by
 obtain ⟨v,h1,h2⟩:=VJ hs h;show LeavesInM F n P fn a.tmps R a.defers .returning W;rw[hd];exact ⟨v,h1,hR v h2⟩
theorem qhy{F:Fence}{n:Nat}{P:Program}{fn:Func}{R:Ending->World->Prop}{st:St}{a:Act}{l:List AV}{D:Nat}(hs:StR B W g st a)(h:lU P st.mem st.tmps fn.results.toList=some l)(hd:a.defers=[{ target:=.collected D,args:=#[] }])(hK:W.heap[D]?=some (.deferred (some [])))(hBD:B<=D)(G3:tS=true->Jv st.mem)
  (hR:∀v,V (W.putObj D (.deferred none)) g (wN l) v->MemR B (W.putObj D (.deferred none)) g st.mem->R (.returned v) (W.putObj D (.deferred none))):bodyPostM F n P fn R .ret a W:=by
 have hg:=grownBy_putObj' W D (.deferred none);have hr:vH W (some D):=fun r e=>by cases e;exact ⟨_,hK,rfl⟩
 have dP:StR B (W.putObj D (.deferred none)) g st a:=⟨hs.tmp.grown hg hr,hs.mem.grown hg hr hs.size (fun r e=>by cases e;exact hBD) G3,b7 hs.size hg.size⟩;obtain ⟨v,h1,h2⟩:=VJ dP h;show LeavesInM F n P fn a.tmps R a.defers .returning W;rw[hd];exact ⟨by simp,.inl ⟨D,_,rfl,run_takeDeferred hK,v,h1,hR v h2 dP.mem⟩⟩
theorem MemR.none{m:ae}(h:MemR B W g m):MemR B W g.bare [] where
 obj nm bx cs hn:=by simp[ae.get] at hn
 tok nm n sz hn:=by simp[ae.get] at hn
 resv nm hn:=by simp[ae.get] at hn
 fresh nm _:=⟨rfl,fun _=>rfl⟩
 inj nm nm' b h1 _:=by simp[bw,ae.get] at h1
 wrLt b off hw:=h.wrLt b off hw
 boxLt b hb:=h.boxLt b hb
 inv:=h.inv
 mp nm kk es hn:=by simp[ae.get] at hn
theorem Step.bare{g':G}(hm:MemR B w g [])(h:Step B w g W g'):Step B w g W g'.bare where
 below:=h.below
 cell:=h.cell
 shape:=h.shape
 wr:=h.wr
 wrB:=h.wrB
 box:=h.box
 loc nm b hl:=by rw[(hm.fresh nm (by simp)).1] at hl;cases hl
 tloc nm n b hl:=by rw[(hm.fresh nm (by simp)).2 n] at hl;cases hl
 others:=h.others
theorem V.resh{sh sh':Sh}{z:Bool}{o:Own}{v:Value}(h:V w g (.lst sh z o []) v)(hc:cl (.lst sh z o [])=true):V w g (.lst sh' z o []) v:=by
 cases h with
 | nils _ _ ho=>exact .nils _ _ ho
 | lst _ _ _ a cap us hs tA hm bO cf hv ho=>
  refine .lst sh' o [] a cap us hs tA hm (by simp) (by simp) (by simp) ?_
  cases o with
  | no=>trivial
  | full=>exact ho
  | tok=>simp[cl] at hc
end
end Go.Ab
namespace Go.Ab
open Go.Proofs.Try
def aC:Nat->Nat->List Bool
 | 0,_=>[]
 | n+1,x=>Nat.beq (x%2) 1::aC n (x/2)
def fQ:Code->Array Oper
 | .region _ ops _=>ops
 | _=>#[]
def qhP:List (Nat×Nat×Masks):=[(4,5,⟨(aC 75 105),(aC 75 41),(aC 75 4)⟩),
 (11,3,⟨(aC 113 7516192776),(aC 113 0),(aC 113 16)⟩),
 (13,3,⟨(aC 92 14680118),(aC 92 54),(aC 92 16)⟩),
 (13,11,⟨(aC 92 820),(aC 92 272),(aC 92 16)⟩),
 (20,4,⟨(aC 45 240518168576),(aC 45 0),(aC 45 4)⟩),
 (21,4,⟨(aC 45 240518168576),(aC 45 0),(aC 45 4)⟩),
 (30,10,⟨(aC 51 210),(aC 51 80),(aC 51 48)⟩),
 (34,7,⟨(aC 60 1649267441756),(aC 60 80),(aC 60 48)⟩),
 (36,5,⟨(aC 41 50331740),(aC 41 80),(aC 41 48)⟩),
 (38,5,⟨(aC 48 54),(aC 48 20),(aC 48 12)⟩),
 (38,8,⟨(aC 48 118),(aC 48 54),(aC 48 12)⟩),
 (39,4,⟨(aC 46 1610612748),(aC 46 0),(aC 46 16)⟩),
 (40,4,⟨(aC 46 1610612748),(aC 46 0),(aC 46 16)⟩),
 (44,11,⟨(aC 40 214),(aC 40 80),(aC 40 48)⟩),
 (46,4,⟨(aC 40 1835008),(aC 40 0),(aC 40 4)⟩),
 (46,7,⟨(aC 40 119275536),(aC 40 1835024),(aC 40 4)⟩),
 (51,6,⟨(aC 32 7340096),(aC 32 64),(aC 32 12)⟩),
 (53,7,⟨(aC 90 15393162788956),(aC 90 92),(aC 90 48)⟩),
 (53,16,⟨(aC 90 132226261520350065985556),(aC 90 2064),(aC 90 48)⟩),
 (56,3,⟨(aC 27 28684),(aC 27 12),(aC 27 4)⟩),
 (58,3,⟨(aC 33 24774),(aC 33 192),(aC 33 64)⟩),
 (58,6,⟨(aC 33 418246),(aC 33 24774),(aC 33 64)⟩),
 (61,3,⟨(aC 24 115),(aC 24 48),(aC 24 16)⟩),
 (63,3,⟨(aC 23 29),(aC 23 12),(aC 23 4)⟩),
 (72,4,⟨(aC 73 99),(aC 73 32),(aC 73 16)⟩),
 (72,8,⟨(aC 73 483),(aC 73 227),(aC 73 16)⟩),
 (81,3,⟨(aC 74 124),(aC 74 48),(aC 74 16)⟩),
 (81,6,⟨(aC 74 252),(aC 74 124),(aC 74 16)⟩),
 (81,9,⟨(aC 74 508),(aC 74 252),(aC 74 16)⟩),
 (83,3,⟨(aC 18 908),(aC 18 12),(aC 18 4)⟩),
 (85,3,⟨(aC 32 1546),(aC 32 8),(aC 32 4)⟩),
 (87,3,⟨(aC 19 29),(aC 19 12),(aC 19 4)⟩),
 (88,3,⟨(aC 54 454),(aC 54 192),(aC 54 48)⟩),
 (88,11,⟨(aC 54 1478),(aC 54 454),(aC 54 48)⟩),
 (90,5,⟨(aC 84 1942),(aC 84 768),(aC 84 256)⟩),
 (90,10,⟨(aC 84 8086),(aC 84 3990),(aC 84 256)⟩),
 (91,5,⟨(aC 173 995),(aC 173 224),(aC 173 48)⟩),
 (91,9,⟨(aC 173 2019),(aC 173 2019),(aC 173 48)⟩),
 (91,19,⟨(aC 173 29014219670751100192951267),(aC 173 995),(aC 173 48)⟩),
 (91,24,⟨(aC 173 486777830487640090174734030865379),(aC 173 995),(aC 173 48)⟩),
 (91,29,⟨(aC 173 261336858282058570427511788682332017288163),(aC 173 486777830487640090174734030865379),(aC 173 48)⟩),
 (92,7,⟨(aC 52 1240),(aC 52 216),(aC 52 48)⟩),
 (92,10,⟨(aC 52 412316861656),(aC 52 1240),(aC 52 48)⟩),
 (96,2,⟨(aC 26 3),(aC 26 1),(aC 26 16)⟩),
 (98,7,⟨(aC 45 35),(aC 45 0),(aC 45 16)⟩),
 (99,5,⟨(aC 84 160),(aC 84 32),(aC 84 16)⟩),
 (99,13,⟨(aC 84 515),(aC 84 515),(aC 84 16)⟩),
 (99,15,⟨(aC 84 515),(aC 84 513),(aC 84 16)⟩),
 (99,16,⟨(aC 84 515),(aC 84 515),(aC 84 16)⟩),
 (99,18,⟨(aC 84 515),(aC 84 515),(aC 84 16)⟩),
 (101,6,⟨(aC 27 24),(aC 27 8),(aC 27 4)⟩),
 (102,11,⟨(aC 98 1539),(aC 98 513),(aC 98 112)⟩),
 (102,14,⟨(aC 98 7683),(aC 98 3587),(aC 98 112)⟩),
 (103,2,⟨(aC 22 9),(aC 22 9),(aC 22 4)⟩),
 (104,3,⟨(aC 54 24783),(aC 54 192),(aC 54 64)⟩),
 (107,4,⟨(aC 71 14680098),(aC 71 32),(aC 71 16)⟩),
 (107,8,⟨(aC 71 1893728738),(aC 71 14680418),(aC 71 16)⟩),
 (108,7,⟨(aC 60 117440610),(aC 60 96),(aC 60 16)⟩),
 (109,7,⟨(aC 49 35),(aC 49 0),(aC 49 16)⟩),
 (110,7,⟨(aC 59 29360322),(aC 59 64),(aC 59 48)⟩),
 (111,4,⟨(aC 44 227),(aC 44 32),(aC 44 16)⟩),
 (112,6,⟨(aC 44 451),(aC 44 64),(aC 44 48)⟩),
 (114,1,⟨(aC 26 99),(aC 26 0),(aC 26 0)⟩),
 (115,3,⟨(aC 53 396),(aC 53 128),(aC 53 64)⟩),
 (116,2,⟨(aC 51 782),(aC 51 0),(aC 51 0)⟩),
 (117,4,⟨(aC 83 6597069766934),(aC 83 0),(aC 83 0)⟩),
 (124,2,⟨(aC 21 9),(aC 21 9),(aC 21 4)⟩),
 (125,14,⟨(aC 315 32256),(aC 315 13824),(aC 315 112)⟩),
 (125,18,⟨(aC 315 228864),(aC 315 97792),(aC 315 112)⟩),
 (125,24,⟨(aC 315 1096126227998177188652763624537212264741950291456),(aC 315 884224),(aC 315 112)⟩),
 (125,41,⟨(aC 315 165641912322973530898434140694648610858826615332089277323900581371805184),(aC 315 622080),(aC 315 112)⟩),
 (125,51,⟨(aC 315 11656013353354374425516771440941113439854441034312837127510874458433425711231284553216),(aC 315 33562624),(aC 315 112)⟩),
 (129,4,⟨(aC 41 451),(aC 41 192),(aC 41 48)⟩),
 (131,4,⟨(aC 42 899),(aC 42 384),(aC 42 64)⟩),
 (136,4,⟨(aC 43 451),(aC 43 192),(aC 43 48)⟩),
 (138,3,⟨(aC 40 28706),(aC 40 32),(aC 40 16)⟩)]
def qik:List (Nat×Nat×List Nat):=[(49,5,[0,2,3,1,4,5,6,7,8,9,10]),(50,3,[0,2,3,1,4,5,6,7,8,9]),(51,3,[0,2,3,1,4,5,6,7,8,9,10]),(67,1,[0,1,2,3,5,6,4,7,8,9]),(104,5,[0,1,2,3,4,5,6,7,8,9,10,11,12,13,14,15,16,17,18,19,20,21,22,23]),(116,4,[0,1,2,3,4,5,6,7,8,9,10,11,12,13,14,15,16,17,18,19,20,21,22,23,24,25,26,27,28,29,30,31,32,33,34,35,36,37,38,39])]
def qc7:List (Nat×Nat×List Nat):=[(3,8,[0,1,0,7,15,31,63,63,63,63,1023,2047,4095,8191,8191,8191,8191,131071,262143,524287,1048575,1048575,1048575,1048575,16777215,33554431,67108863,134217727,134217727,134217727,1073741823,134217727,134217727,134217727,17179869183,34359738367,68719476735,137438953471,274877906943,549755813887,1099511627775]),
 (4,11,[0,0,0,4,12,31,63,127,127,127,127,639,2687,7807,15999,32767,65535,131071,262143,524287,1048575]),
 (5,1,[0,1,0,7,15,31]),
 (5,2,[0,1,0,4,12,0,32,124,255,511]),
 (5,9,[0,0,0,0,15,31,63,63,63,63,1023,2047,4095,8191,8191,8191,8191,131071,262143,524287,1048575,1048575,4194303,1048575,1048575,33554431,67108863,134217727,268435455,536870911,1073741823,2147483647]),
 (6,1,[0,1,0,7,15,31]),
 (8,1,[0,1,0,7,15,31]),
 (8,2,[0,1,0,7,15,31,63,127,63,511,1023,2047]),
 (9,5,[0,1,3,7,7,23,63,127,255,511,1023,2047]),
 (10,1,[0,1,0,7,15,31]),
 (10,5,[0,0,3,0,0,31,63,127]),
 (10,12,[0,1,3,7,15,31,63,127,255,511,1023,2047,2047,2047,14335,32767,65535,131071,262143,262143,1048575,2097151,4194303,8388607,16777215,33554431]),
 (11,1,[0,1,0,7,15,31]),
 (11,2,[0,0,2,7,15,0]),
 (12,1,[0,1,0,7,15,31]),
 (12,5,[0,0,3,0,0,16,0,64,0,0,512,1792,4032,8184,16383,32767,65535]),
 (13,5,[0,1,0,4,0,16,48,0,128,496,1020,2044,4095,8191,16383]),
 (13,13,[0,1,0,4,0,0,32,112,0,0,512,1792,0,4096,16128,32764,65535,131071,262143]),
 (29,1,[0,1,0,7,15,31]),
 (29,2,[0,1,0,4,15,0,32,0,128,480,0,1024,0,4096,16352,32767,65535,131071,131071,0,786431,2097151]),
 (30,9,[0,1,0,4,15,0,63,0,0,511,1023]),
 (34,9,[0,1,0,0,8,0,56,120,0,256,0,1792,3840,8184,16383,32767]),
 (36,7,[0,1,0,0,8,0,56,120,0,504,1023,2047]),
 (38,10,[0,1,0,0,8,28,0,124,0,256,0,0,2048,7168,0,31744,65280,130816,262143,524287]),
 (39,6,[0,1,0,7,15,0,32,0,224,480,1023,2047]),
 (40,6,[0,1,0,7,15,0,32,0,224,480,1023,2047]),
 (47,13,[0,0,0,6,14,31,63]),
 (48,1,[0,0,2,6,0,31,63]),
 (49,5,[0,1,0,4,15,31,63,63,0,383,1023]),
 (50,3,[0,1,0,4,15,31,63,63,127,511]),
 (51,3,[0,1,0,4,15,31,63,63,0,383,1023]),
 (53,18,[0,1,0,0,8,28,63,127,255]),
 (54,3,[0,0,2,0,8,30,63,127,127,511,1023]),
 (55,5,[0,0,2,6,15,31,31,127,255]),
 (56,5,[0,1,0,4,12,31,63,127]),
 (58,8,[0,1,0,0,0,28,60,127,255,511]),
 (61,5,[0,1,0,4,15,31,63]),
 (63,5,[0,1,0,0,12,0,60,0,255,511]),
 (65,4,[0,1,3,7,15,31,15,127,255,511,1023]),
 (67,1,[0,1,0,4,12,0,32,124,255,511]),
 (72,10,[0,0,3,7,15,0,0,96,224,480,1023,0,0,0,12288,30720,63488,129024,262143,0,1048575,2097151]),
 (74,1,[0,1,0,0,8,28,0,124,255,511,0,1024,0,0,8192,28672,0,126976,261120,523264,1048575,2097151]),
 (75,5,[0,1,0,4,15,0,32,0,128,511,0,1024,0,4096,16383,32767,65535,131071]),
 (75,7,[0,1,0,0,12,0,63,127]),
 (76,1,[0,1,0,7,15,31]),
 (76,2,[0,1,0,4,15,0,32,0,128,511,0,1024,0,4096,16383,32767,65535,131071]),
 (76,3,[0,1,0,0,12,31,63]),
 (77,1,[0,1,0,0,8,28,0,124,255,511,0,2047,4095]),
 (78,1,[0,1,0,4,15,0,32,0,128,480,0,1024,0,4096,16352,32767,65535]),
 (81,11,[0,1,0,0,8,28,0,124,0,256,0,0,2048,7168,0,31744,65280,130816,0,262144,0,0,2097152,7340032,0,32505856,66846720,133955584,0,268435456,0,0,2147483648,7516192768,0,33285996544,68451041280,137170518016,274877644800,549755813632,1099511627775,2199023255551]),
 (87,5,[0,0,0,6,14,31,63]),
 (90,8,[0,0,2,0,0,16,56,0,248,510,1022,2047,0,8191]),
 (90,15,[0,0,0,4,0,0,62,127,255]),
 (91,14,[0,0,0,0,0,0,48,112,0,0,768,1792,4083,8179,16383,32767]),
 (91,21,[0,0,3,7,0,0,0,96,224,0,992,2016,0,8160,16352,32736,32736,65535,196607]),
 (91,31,[0,0,3,7,0,0,0,96,224,0,992,2016,0,0,0,24576,57344,0,253952,516096,1044480,2097120,4194303,8388607]),
 (91,36,[0,0,1,7]),
 (95,8,[0,1,3,7,0,16,48,112,240,511,1023,2047]),
 (98,9,[0,0,3,7,0,0,48,112,255]),
 (98,10,[0,0,3,7,0,0,48,112,255]),
 (99,6,[0,0,0,6,3,31]),
 (100,1,[0,0,2,7,15]),
 (104,5,[0,1,0,0,8,28,0,124,255,511,0,1024,0,0,8192,28672,0,126976,261120,523264,0,0,3146751,8388607]),
 (104,7,[0,0,0,6,15,31]),
 (109,9,[0,0,3,7,0,0,48,112,255,511]),
 (109,11,[0,0,3,7,0,0,48,112,255,511]),
 (113,1,[0,1,0,7,15,31]),
 (113,6,[0,0,2,0,8,30,0,64,0,256,1022,2046,4095,8191]),
 (115,6,[0,1,3,7,15,31,63,127,255,511,255,1279,255,255,8447,28927,255,127231,261375,523519,1048575,2097151,4194303,8388607]),
 (116,4,[0,1,0,0,8,28,0,124,0,256,0,0,2048,7168,0,31744,0,65536,0,0,524288,1835008,0,8126464,16711680,33488896,0,67108864,0,0,536870912,1879048192,0,8321499136,17112760320,34292629504,68719411455,137438888191,274877906943,549755813887]),
 (117,1,[0,1,0,0,8,28,0,124,255,511,0,1024,0,0,8192,28672,0,126976,261120,523264,1048575,2097151,4194303,4194303,0,25165823,67108863]),
 (117,8,[0,1,0,0,8,28,0,124,0,256,0,0,2048,7168,0,31744,65280,130816,0,0,786432,2096896,4194303,8388607]),
 (119,1,[0,1,0,7,15,31]),
 (119,2,[0,1,0,4,15,0,32,0,128,480,0,1024,0,4096,16352,32767,65535,65535,262143,524287]),
 (121,1,[0,1,0,0,8,28,0,124,0,508,1023,2047,0,4096,0,0,32768,114688,0,507904,1044480,2093056,4194303,8388607,16777215,16777215,0,100663295,268435455]),
 (122,3,[0,1,0,4,15,0,32,0,128,480,0,1024,0,4096,16352,32767,65535,131071]),
 (125,16,[0,0,0,6,15,31,63,127,0,0,0,1536,3584,7936,16128,32512,65535,131071]),
 (125,17,[0,0,0,4,14,30,62,127,0,0,0,1024,3584,7680,15872,32512,255,131071]),
 (125,18,[0,1,3,7,7,7,39,119,247,503,1023,7,2055,7,7,7,49159,114695,253959,516103,1040391,2095111,4194303,8388607]),
 (125,43,[0,0,0,0,12,30,62,126,0,0,768,1792,3840,8190,16383,32767]),
 (125,55,[0,0,3,7,0,0,32,112,240,0,512,2032,4095,8191,16383]),
 (126,8,[0,1,3,7,15,0,32,96,224,511,1023,2047]),
 (130,2,[0,0,0,6,15,31,0,0,0,384,896,2015,4095,0,0,16384,57344,122880,253952,8191,1048575]),
 (134,1,[0,1,3,0,8,31,63,127]),
 (135,1,[0,0,2,7,15])]
def Rq:List (Nat×Nat×List Nat)->Nat->Nat->List Nat
 | [],_,_=>[]
 | (f,k,m)::l,f',k'=>match Nat.beq f f'&&Nat.beq k k' with
  | true=>m
  | false=>Rq l f' k'
def qhp:List (Nat×Nat):=[(34,61),(36,61),(38,61),(47,56),(47,88),(48,90),(49,85),(49,91),(50,56),(50,88),(51,85),(51,91),(53,85),(53,91),(63,61),(81,61),(88,115),(88,116),(88,117),(90,90),(92,58),(92,88),(92,117),(125,138)]
def Dl:List (Nat×Nat)->Nat->Nat->Bool
 | [],_,_=>false
 | (a,b)::l,f,g=>match Nat.beq a f&&Nat.beq b g with
  | true=>true
  | false=>Dl l f g
def qjW:List (Nat×Nat):=[(34,61),(36,61),(38,61),(47,56),(50,56),(63,61),(81,61),(92,58)]
def qf4:List (Nat×Nat):=[]
def qjY:List Nat:=[131]
def NX:List Nat->Nat->Bool
 | [],_=>false
 | a::l,f=>match Nat.beq a f with
  | true=>true
  | false=>NX l f
def qj4:List (Nat×Nat×List (Nat×Nat)):=[(104,5,[(11,22),(14,22),(19,22)]),(116,4,[(9,37),(12,37)])]
def WY:List (Nat×Nat×List (Nat×Nat))->Nat->Nat->List (Nat×Nat)
 | [],_,_=>[]
 | (a,b,p)::l,f,k=>match Nat.beq a f&&Nat.beq b k with
  | true=>p
  | false=>WY l f k
def qhw:List (Nat×Nat×List (Nat×List Nat)):=[(48,1,[(3,[0]),(4,[0,2])]),(49,5,[(1,[3]),(8,[0,3])]),(50,3,[(1,[3])]),(51,3,[(1,[3]),(8,[0,3])]),(90,15,[(6,[0])])]
def Uq:List (Nat×Nat×List (Nat×List Nat))->Nat->Nat->List (Nat×List Nat)
 | [],_,_=>[]
 | (a,b,p)::l,f,k=>match Nat.beq a f&&Nat.beq b k with
  | true=>p
  | false=>Uq l f k
def qjj:List (Nat×Nat):=[(48,1),(49,5),(50,3),(51,3),(53,18),(90,15)]
noncomputable def ab:Cfg where
 P:=prog
 inl:=Dl qhp
 ben:=fun _=>false
 seqm:=Dl qjj
 late:=Uq qhw
 frzc:=Dl qf4
 arrm:=NX [53,85]
 tokm:=NX qjY
 two:=WY qj4
 thaw:=Dl qjW
 mask:=UI qhP
 ord:=Vj qik
 ahd:=Rq qc7
 lib:=fun g=>match Nat.beq g 45 with|true=>some (fun _=>none)|false=>match Nat.beq g 47 with|true=>some (fun _=>none)|false=>match Nat.beq g 48 with|true=>some (fun _=>none)|false=>match Nat.beq g 49 with|true=>some (fun _=>none)|false=>match Nat.beq g 51 with|true=>some (fun _=>none)|false=>none
 libm:=fun g=>none
theorem qdQ:ab.P.funcs[13]?=some f13:=by kernel_rfl
theorem qd2:ab.P.funcs[18]?=some f18:=by kernel_rfl
theorem qd3:ab.P.funcs[20]?=some f20:=by kernel_rfl
theorem qd4:ab.P.funcs[21]?=some f21:=by kernel_rfl
theorem qd5:ab.P.funcs[22]?=some f22:=by kernel_rfl
theorem qd6:ab.P.funcs[23]?=some f23:=by kernel_rfl
theorem qd7:ab.P.funcs[26]?=some f26:=by kernel_rfl
theorem qd8:ab.P.funcs[28]?=some f28:=by kernel_rfl
theorem qd9:ab.P.funcs[29]?=some f29:=by kernel_rfl
theorem qea:ab.P.funcs[31]?=some f31:=by kernel_rfl
theorem qeb:ab.P.funcs[32]?=some f32:=by kernel_rfl
theorem qef:ab.P.funcs[40]?=some f40:=by kernel_rfl
theorem qeg:ab.P.funcs[43]?=some f43:=by kernel_rfl
theorem qeh:ab.P.funcs[50]?=some f50:=by kernel_rfl
theorem qei:ab.P.funcs[52]?=some f52:=by kernel_rfl
theorem qej:ab.P.funcs[53]?=some f53:=by kernel_rfl
theorem qek:ab.P.funcs[54]?=some f54:=by kernel_rfl
theorem qel:ab.P.funcs[55]?=some f55:=by kernel_rfl
theorem qem:ab.P.funcs[56]?=some f56:=by kernel_rfl
theorem qen:ab.P.funcs[57]?=some f57:=by kernel_rfl
theorem qeo:ab.P.funcs[58]?=some f58:=by kernel_rfl
theorem qep:ab.P.funcs[60]?=some f60:=by kernel_rfl
theorem qeq:ab.P.funcs[61]?=some f61:=by kernel_rfl
theorem qer:ab.P.funcs[62]?=some f62:=by kernel_rfl
theorem qes:ab.P.funcs[63]?=some f63:=by kernel_rfl
theorem qet:ab.P.funcs[64]?=some f64:=by kernel_rfl
theorem qeu:ab.P.funcs[65]?=some f65:=by kernel_rfl
theorem qev:ab.P.funcs[66]?=some f66:=by kernel_rfl
theorem qew:ab.P.funcs[67]?=some f67:=by kernel_rfl
theorem qex:ab.P.funcs[69]?=some f69:=by kernel_rfl
theorem qey:ab.P.funcs[70]?=some f70:=by kernel_rfl
theorem qez:ab.P.funcs[71]?=some f71:=by kernel_rfl
theorem qeA:ab.P.funcs[72]?=some f72:=by kernel_rfl
theorem qeB:ab.P.funcs[75]?=some f75:=by kernel_rfl
theorem qeC:ab.P.funcs[76]?=some f76:=by kernel_rfl
theorem qeD:ab.P.funcs[78]?=some f78:=by kernel_rfl
theorem qeE:ab.P.funcs[82]?=some f82:=by kernel_rfl
theorem qeF:ab.P.funcs[84]?=some f84:=by kernel_rfl
theorem qeG:ab.P.funcs[85]?=some f85:=by kernel_rfl
theorem qeH:ab.P.funcs[86]?=some f86:=by kernel_rfl
theorem qeI:ab.P.funcs[88]?=some f88:=by kernel_rfl
theorem qeJ:ab.P.funcs[89]?=some f89:=by kernel_rfl
theorem qeK:ab.P.funcs[91]?=some f91:=by kernel_rfl
theorem qeL:ab.P.funcs[92]?=some f92:=by kernel_rfl
theorem qeM:ab.P.funcs[93]?=some f93:=by kernel_rfl
theorem qeN:ab.P.funcs[94]?=some f94:=by kernel_rfl
theorem qeO:ab.P.funcs[95]?=some f95:=by kernel_rfl
theorem qeP:ab.P.funcs[96]?=some f96:=by kernel_rfl
theorem qeQ:ab.P.funcs[97]?=some f97:=by kernel_rfl
theorem qeR:ab.P.funcs[98]?=some f98:=by kernel_rfl
theorem qeS:ab.P.funcs[99]?=some f99:=by kernel_rfl
theorem qdp:ab.P.funcs[100]?=some f100:=by kernel_rfl
theorem qdq:ab.P.funcs[101]?=some f101:=by kernel_rfl
theorem qdr:ab.P.funcs[102]?=some f102:=by kernel_rfl
theorem qds:ab.P.funcs[103]?=some f103:=by kernel_rfl
theorem qdt:ab.P.funcs[105]?=some f105:=by kernel_rfl
theorem qdu:ab.P.funcs[106]?=some f106:=by kernel_rfl
theorem qdv:ab.P.funcs[107]?=some f107:=by kernel_rfl
theorem qdw:ab.P.funcs[108]?=some f108:=by kernel_rfl
theorem qdx:ab.P.funcs[109]?=some f109:=by kernel_rfl
theorem qdy:ab.P.funcs[110]?=some f110:=by kernel_rfl
theorem qdz:ab.P.funcs[111]?=some f111:=by kernel_rfl
theorem qdA:ab.P.funcs[112]?=some f112:=by kernel_rfl
theorem qdB:ab.P.funcs[115]?=some f115:=by kernel_rfl
theorem qdC:ab.P.funcs[116]?=some f116:=by kernel_rfl
theorem qdD:ab.P.funcs[117]?=some f117:=by kernel_rfl
theorem qdE:ab.P.funcs[118]?=some f118:=by kernel_rfl
theorem qdF:ab.P.funcs[119]?=some f119:=by kernel_rfl
theorem qdG:ab.P.funcs[120]?=some f120:=by kernel_rfl
theorem qdH:ab.P.funcs[121]?=some f121:=by kernel_rfl
theorem qdI:ab.P.funcs[122]?=some f122:=by kernel_rfl
theorem qdJ:ab.P.funcs[123]?=some f123:=by kernel_rfl
theorem qdK:ab.P.funcs[124]?=some f124:=by kernel_rfl
theorem qdL:ab.P.funcs[125]?=some f125:=by kernel_rfl
theorem qdM:ab.P.funcs[126]?=some f126:=by kernel_rfl
theorem qdN:ab.P.funcs[127]?=some f127:=by kernel_rfl
theorem qdO:ab.P.funcs[128]?=some f128:=by kernel_rfl
theorem qdP:ab.P.funcs[129]?=some f129:=by kernel_rfl
theorem qdR:ab.P.funcs[130]?=some f130:=by kernel_rfl
theorem qdS:ab.P.funcs[131]?=some f131:=by kernel_rfl
theorem qdT:ab.P.funcs[132]?=some f132:=by kernel_rfl
theorem qdU:ab.P.funcs[133]?=some f133:=by kernel_rfl
theorem qdV:ab.P.funcs[134]?=some f134:=by kernel_rfl
theorem qdW:ab.P.funcs[135]?=some f135:=by kernel_rfl
theorem qdX:ab.P.funcs[136]?=some f136:=by kernel_rfl
theorem qdY:ab.P.funcs[137]?=some f137:=by kernel_rfl
theorem qdZ:ab.P.funcs[138]?=some f138:=by kernel_rfl
theorem qd0:ab.P.funcs[139]?=some f139:=by kernel_rfl
theorem qd1:ab.P.funcs[140]?=some f140:=by kernel_rfl
end Go.Ab
