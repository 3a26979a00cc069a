/- Data that can be read, as values of the interpreter: any type of whole numbers, truth values, texts, rows of these, and flat structs. -/
import Derived.Test.YtiipgpkgcdhbfaaGreatDoorEP0
import Derived.ProofKit
import Derived.OpenShut
import Derived.ChangeArms
import Derived.Test.YtiipgpkgcdhbfaaGreatDoorEP2
import Derived.Test.YtiipgpkgcdhbfaaGreatDoorEP3
import Derived.Test.YtiipgpkgcdhbfaaGreatDoorEP1
import Derived.Test.YtiipgpkgcdhbfaaGreatDoorEP5
import Derived.LaidMore
import Derived.Lay
import Derived.KernelRfl
import Derived.Test.YtiipgpkgcdhbfaaGreatDoorRows
set_option maxRecDepth 100000
set_option linter.unusedVariables false
set_option linter.unusedSimpArgs false
set_option linter.unusedSectionVars false
namespace Go.Ab
open Go.RowKit
def gN:G:=⟨fun _ _=>False,fun _=>False,fun _=>none,fun _ _=>none⟩
def Al (P:Program) (t:Nat):Bool:=match P.underlying t with
 | some (.int _) | some .bool | some .string | some (.slice _)=>true
 | _=>false
def nO (P:Program) (t:Nat):Sh:=match P.underlying t with
 | some (.struct fs)=>some fs.size
 | _=>none
def jP (P:Program):Nat->Nat->AV->Prop
 | 0,_,_=>False
 | n+1,t,v=>match P.underlying t with
  | some (.int k)=>∃ i,v=.int k i/\(Lit.int k i).wf=true
  | some .bool=>∃ b,v=.bool b
  | some .string=>∃ s,v=.str s/\s.size<=maxLen
  | some (.slice e)=>∃ z es,v=.lst (nO P e) z .no es/\(z=true->es=[])/\∀ x∈es,jP P n e x
  | some (.struct fs)=>∃ cs,v=.agg cs/\cs.length=fs.size/\∀ i f,fs[i]?=some f->jP P n f.type (cs.getD i .any)
  | _=>False
def HF (P:Program) (ok:Nat->Bool):Nat->List Field->Bool
 | _,[]=>true
 | i,f::l=>f.offset == i && P.cellsOf f.type == 1 && Al P f.type && ok f.type && HF P ok (i+1) l
def rG (P:Program):Nat->Nat->Bool
 | 0,_=>false
 | n+1,t=>match P.underlying t with
  | some (.int _) | some .bool | some .string=>P.cellsOf t == 1
  | some (.slice e)=>P.cellsOf t == 1 && rG P n e
  | some (.struct fs)=>P.cellsOf t == fs.size && decide (0 < fs.size) && HF P (rG P n) 0 fs.toList
  | _=>false
theorem L9 {P:Program} {ok:Nat->Bool}:∀ {l:List Field} {i0:Nat},HF P ok i0 l=true->∀ i f,l[i]?=some f->f.offset=i0+i/\P.cellsOf f.type=1/\Al P f.type=true/\ok f.type=true
 | [],i0,h,i,f,hf=>by simp at hf
 | g::l,i0,h,i,f,hf=>by
  simp only[HF,bT,tu] at h;obtain ⟨⟨⟨⟨h1,h2⟩,h3⟩,h4⟩,h5⟩:=h
  cases i with
  | zero=>
   simp at hf;subst hf;exact ⟨h1,h2,h3,h4⟩
  | succ i=>
   simp at hf;obtain ⟨a,b⟩:=L9 h5 i f hf;exact ⟨by omega,b⟩
theorem Ua {s:Nat} (hs:0 < s):∀ {es:List AV},(∀ e∈es,e.cells.length=s)->(c8 es).length=es.length * s/\∀ j,j < es.length * s->(c8 es).getD j .any=(es.getD (j / s) .any).cells.getD (j % s) .any
 | [],h=>⟨by simp[c8],fun j hj=>by simp at hj⟩
 | e::es,h=>by
  have h0:=h e fJ;obtain ⟨h1,h2⟩:=Ua hs (fun x hx=>h x (fI _ hx));have e1:c8 (e::es)=e.cells++c8 es:=rfl;have e2:(e::es).length * s=es.length * s+s:=by rw[aJ,gX,qW]
  refine ⟨by rw[e1,aI,h0,h1,e2];omega,fun j hj=>?_⟩;rw[e1,aT]
  by_cases oR:j < s
  ·rw[nl (by omega),Nat.div_eq_of_lt oR,kZ oR];show _=e.cells.getD j .any;rw[aT]
  ·rw[rU (by omega),h0,<- aT,h2 (j - s) (by omega)]
   have e3:j / s=(j - s) / s+1:=by
    have:=Nat.div_eq_sub_div hs (by omega:s<=j);omega
   have e4:j % s=(j - s) % s:=Nat.mod_eq_sub_mod (by omega);rw[e3,e4,xI]
theorem By {P:Program}:∀ (n t:Nat) (v:AV),rG P n t=true->jP P n t v->cZ (nO P t) v=true/\pl v=true/\v.cells.length=P.cellsOf t/\0 < P.cellsOf t/\(nO P t).size=P.cellsOf t/\(Al P t=true->ff v=true)
 | 0,t,v,ht,_=>by simp[rG] at ht
 | n+1,t,v,ht,h=>by
  unfold jP at h;unfold rG at ht;unfold nO Al
  cases hu:P.underlying t with
  | none=>rw[hu] at h;exact h.elim
  | some ty=>
   rw[hu] at h ht
   cases ty with
   | int k=>
    obtain ⟨i,rfl,_⟩:=h;have hc:P.cellsOf t=1:=by simpa using ht
    exact ⟨rfl,rfl,hc.symm,by omega,hc.symm,fun _=>rfl⟩
   | bool=>
    obtain ⟨i,rfl⟩:=h;have hc:P.cellsOf t=1:=by simpa using ht
    exact ⟨rfl,rfl,hc.symm,by omega,hc.symm,fun _=>rfl⟩
   | string=>
    obtain ⟨i,rfl,_⟩:=h;have hc:P.cellsOf t=1:=by simpa using ht
    exact ⟨rfl,rfl,hc.symm,by omega,hc.symm,fun _=>rfl⟩
   | slice e=>
    obtain ⟨z,es,rfl,_⟩:=h
    have hc:P.cellsOf t=1:=by
     simp only[bT,tu] at ht;exact ht.1
    exact ⟨rfl,rfl,hc.symm,by omega,hc.symm,fun _=>rfl⟩
   | struct fs=>
    obtain ⟨cs,rfl,hl,hf⟩:=h;simp only[bT,tu,nt] at ht;obtain ⟨⟨h1,h2⟩,h3⟩:=ht
    have hall:∀ c∈cs,ff c=true/\pl c=true:=by
     intro c hc;obtain ⟨i,hi,rfl⟩:=Cx.1 hc;have wE:fs[i]?=some (fs[i]'(by omega)):=BV (by omega);obtain ⟨_,b,c2,d⟩:=L9 h3 i _ (by rw[BX];exact wE);have r:=hf i _ wE;rw[aT,bA hi] at r;have:=By n _ _ d r;exact ⟨this.2.2.2.2.2 c2,this.2.1⟩
    have hpl:∀ l:List AV,(∀ c∈l,pl c=true)->mg l=true:=by
     intro l
     induction l with
     | nil=>intro _;rfl
     | cons a l ih=>
      intro h;show (pl a && mg l)=true;rw[h a fJ,ih (fun c hc=>h c (fI _ hc))];rfl
    refine ⟨?_,hpl cs (fun c hc=>(hall c hc).2),by show cs.length=_;omega,by omega,h1.symm,fun h=>by cases h⟩;show (cs.length == fs.size && cs.all ff)=true;rw[bT];exact ⟨by simp[hl],fQ.2 fun c hc=>(hall c hc).1⟩
   | _=>exact h.elim
section
variable {P:Program} {H:Type} {enc:TypeId×Value->H} {W:World}
theorem qnX {w:World} {a:Addr} {n:Nat} {cs:List Value} (h:w.cells? 0 a n=some cs):cs.length=n/\∀ j,j < n->w.cell? (a.add j)=cs[j]?:=by
 unfold World.cells? at h;rw[an (mw _)] at h;refine ⟨by simpa using mapM_some_length h,fun j hj=>mapM_some_get h j j (by simp[hj])⟩
theorem qnV {a:Addr} (h:a.spot=none) (j:Nat):a.add j=⟨a.block,a.off+j,none⟩:=by
 obtain ⟨b,o,s⟩:=a;subst h;exact mP b o j
theorem reads:∀ (n t:Nat),rG P n t=true->∀ {fuel:Nat} {cs:List Value} {x:DataW H×List MemPlace},DataW.trod enc P W 0 (fun _=>true) true fuel t cs=some x->∃ v:AV,jP P n t v/\cs.length=P.cellsOf t/\∀ j,j < P.cellsOf t->V W gN (v.cells.getD j .any) (cs.getD j undef)
 | 0,t,ht,_,_,_,_=>by simp[rG] at ht
 | n+1,t,ht,fuel,cs,x,h=>by
  have Nu:=ht;unfold rG at ht;unfold jP
  cases hu:P.underlying t with
  | none=>rw[hu] at ht;cases ht
  | some ty=>
   rw[hu] at ht
   cases ty with
   | int k=>
    have hc:P.cellsOf t=1:=by simpa using ht
    obtain ⟨i,rfl,_,hw⟩:=DataW.trod_int hu h;refine ⟨.int k i,⟨i,rfl,hw⟩,hc.symm,fun j hj=>?_⟩;obtain rfl:j=0:=by omega
    exact .int _ _
   | bool=>
    have hc:P.cellsOf t=1:=by simpa using ht
    obtain ⟨i,rfl,_⟩:=DataW.trod_bool hu h;refine ⟨.bool i,⟨i,rfl⟩,hc.symm,fun j hj=>?_⟩;obtain rfl:j=0:=by omega
    exact .bool _
   | string=>
    have hc:P.cellsOf t=1:=by simpa using ht
    obtain ⟨i,rfl,_,hw⟩:=DataW.trod_string hu h;refine ⟨.str i,⟨i,rfl,hw⟩,hc.symm,fun j hj=>?_⟩;obtain rfl:j=0:=by omega
    exact .str _
   | slice e=>
    simp only[bT,tu] at ht;obtain ⟨hc,DW⟩:=ht
    rcases DataW.trod_slice hu h with ⟨rfl,_⟩ | ⟨a,len,cap,elems,rest,m,_,rfl,_,_,hl,hm,he,lC,Nj,_⟩
    ·refine ⟨.lst (nO P e) true .no [],⟨true,[],rfl,fun _=>rfl,fun x hx=>by cases hx⟩,hc.symm,fun j hj=>?_⟩;obtain rfl:j=0:=by omega
     exact .nils _ .no (.inr rfl)
    ·obtain ⟨DQ,Nj⟩:=Nj rfl
     have raw:∀ i,i < cap->∃ y,(W.cells? 0 (a.add (i * P.cellsOf e)) (P.cellsOf e)).bind (DataW.trod enc P W 0 (fun _=>true) true m e)=some y:=by
      intro i hi
      by_cases hi2:i < len
      ·have h1:=lC i hi2;rw[bA (by omega)] at h1;exact ⟨_,h1⟩
      ·have h1:=Nj (i - len) (by omega);rw[bA (by omega),show len+(i - len)=i by omega] at h1;exact ⟨_,h1⟩
     have at1:∀ i,i < cap->(i=0\/a.spot=none)->a.spot=none/\∃ v:AV,jP P n e v/\∀ j,j < P.cellsOf e->∃ u,W.cell? ⟨a.block,a.off+(i * P.cellsOf e+j),none⟩=some u/\V W gN (v.cells.getD j .any) u:=by
      intro i hi nC;obtain ⟨y,hy⟩:=raw i hi;obtain ⟨cs,h1,h2⟩:=bc.1 hy;obtain ⟨v,hv,hlen,hV⟩:=reads n e DW h2;have iU:=(By n e v DW hv).2.2.2.1;have h3:=(qnX h1).2
      have hs:a.spot=none:=by
       rcases nC with rfl | nC
       ·rw[xN] at h3;have h4:=h3 0 iU;rw[bA (by omega)] at h4;exact World.cell?_spot h4
       ·exact nC
      refine ⟨hs,v,hv,fun j hj=>?_⟩;have h4:=h3 j hj;rw[qnV hs,mP,mo,bA (by omega)] at h4;refine ⟨_,h4,?_⟩;have:=hV j hj
      rwa [aT (l:=cs),bA (by omega)] at this
     have hsp:cap=0\/a.spot=none:=by
      by_cases h0:cap=0
      ·exact .inl h0
      ·exact .inr (at1 0 (by omega) (.inl rfl)).1
     have cell:∀ i,∃ v:AV,i < cap->jP P n e v/\∀ j,j < P.cellsOf e->∃ u,W.cell? ⟨a.block,a.off+(i * P.cellsOf e+j),none⟩=some u/\V W gN (v.cells.getD j .any) u:=by
      intro i
      by_cases hi:i < cap
      ·obtain ⟨v,hv⟩:=(at1 i hi (.inr (hsp.resolve_left (by omega)))).2;exact ⟨v,fun _=>hv⟩
      ·exact ⟨.any,fun h=>absurd h hi⟩
     obtain ⟨f,hf⟩:=Classical.axiomOfChoice cell;have hlen:((List.range len).map f).length=len:=by simp
     have gh:∀ v∈(List.range len).map f,jP P n e v:=by
      intro v hv;obtain ⟨i,hi,rfl⟩:=iX.1 hv;exact (hf i (by have:=uz.1 hi;omega)).1
     have be:=fun v hv=>By n e v DW (gh v hv)
     by_cases vc:len=0
     ·subst vc;refine ⟨.lst (nO P e) false .no [],⟨false,[],rfl,(fun h=>by cases h),fun x hx=>by cases hx⟩,hc.symm,fun j hj=>?_⟩;obtain rfl:j=0:=by omega
      exact V.lst (w:=W) (g:=gN) (nO P e) .no [] a cap (fun _=>undef) hsp (mw _) hm (fun e he=>by cases he) (fun j hj=>by simp[c8] at hj) (fun j hj=>by simp[c8] at hj) trivial
     ·have nC:0 < P.cellsOf e:=(be (f 0) (iX.2 ⟨0,uz.2 (by omega),rfl⟩)).2.2.2.1;obtain ⟨fl1,fl2⟩:=Ua nC (fun v hv=>(be v hv).2.2.1);rw[hlen] at fl1 fl2
      have hcl:∀ j,j < len * P.cellsOf e->∃ u,W.cell? ⟨a.block,a.off+j,none⟩=some u/\V W gN ((c8 ((List.range len).map f)).getD j .any) u:=by
       intro j hj;have hd:j / P.cellsOf e < len:=Nat.div_lt_of_lt_mul (by rw[cP];exact hj);have h1:=(hf (j / P.cellsOf e) (by omega)).2 (j % P.cellsOf e) (kf _ nC);have e1:j / P.cellsOf e * P.cellsOf e+j % P.cellsOf e=j:=Nat.div_add_mod' j _;rw[e1] at h1;rw[fl2 j hj,aT (l:=(List.range len).map f),n0,List.getElem?_range hd];exact h1
      have hus:∀ j,∃ u,j < len * P.cellsOf e->W.cell? ⟨a.block,a.off+j,none⟩=some u/\V W gN ((c8 ((List.range len).map f)).getD j .any) u:=by
       intro j
       by_cases hj:j < len * P.cellsOf e
       ·obtain ⟨u,hu⟩:=hcl j hj;exact ⟨u,fun _=>hu⟩
       ·exact ⟨undef,fun h=>absurd h hj⟩
      obtain ⟨us,hus⟩:=Classical.axiomOfChoice hus;refine ⟨.lst (nO P e) false .no ((List.range len).map f),⟨false,_,rfl,(fun h=>by cases h),gh⟩,hc.symm,fun j hj=>?_⟩;obtain rfl:j=0:=by omega
      have hV:=V.lst (w:=W) (g:=gN) (nO P e) .no ((List.range len).map f) a cap us hsp (by rw[hlen];exact hl) hm
       (fun v hv=>⟨(be v hv).1,(be v hv).2.1⟩)
       (fun j hj=>by
        rw[fl1] at hj
        exact ⟨(hus j hj).1,fun h=>h,fun h=>h⟩)
       (fun j hj=>by
        rw[fl1] at hj
        exact (hus j hj).2) trivial
      rw[hlen] at hV;exact hV
   | struct fs=>
    simp only[bT,tu,nt] at ht;obtain ⟨⟨h1,h2⟩,h3⟩:=ht;obtain ⟨xs,m,_,_,hcl,rC,hf⟩:=DataW.trod_struct hu h
    have fld:∀ i,∃ v:AV,i < fs.size->∀ f,fs[i]?=some f->jP P n f.type v/\V W gN v (cs.getD i undef):=by
     intro i
     by_cases hi:i < fs.size
     ·have wE:fs[i]?=some fs[i]:=BV hi;obtain ⟨o,c,a,k⟩:=L9 h3 i fs[i] (by rw[BX];exact wE);have hx:=hf i fs[i] wE;rw[bA (by omega)] at hx;obtain ⟨v,hv,hlen,hV⟩:=reads n _ k hx;refine ⟨v,fun _ f hf=>?_⟩;rw[wE] at hf;obtain rfl:=po hf;refine ⟨hv,?_⟩;have h0:=hV 0 (by omega);have iv:=(By n _ v k hv).2.2.2.2.2 a
      have wD:v.cells=[v]:=by
       cases v<;>first | rfl | (simp[ff] at iv)
      rw[wD,o,bf,c] at h0
      have e0:((cs.drop i).take 1).getD 0 undef=cs.getD i undef:=by
       rw[aT,aT,List.getElem?_take_of_lt (by omega),rV];rfl
      rw[e0] at h0;exact h0
     ·exact ⟨.any,fun h=>absurd h hi⟩
    obtain ⟨F,hF⟩:=Classical.axiomOfChoice fld
    have hg:∀ i,i < fs.size->((List.range fs.size).map F).getD i .any=F i:=by
     intro i hi;rw[aT,n0,List.getElem?_range hi];rfl
    refine ⟨.agg ((List.range fs.size).map F),⟨_,rfl,by simp,fun i f hf=>?_⟩,hcl,fun j hj=>?_⟩
    ·have hi:i < fs.size:=(fE.1 hf).1;rw[hg i hi];exact (hF i hi f hf).1
    ·rw[h1] at hj;show V W gN (((List.range fs.size).map F).getD j .any) _;rw[hg j hj];exact (hF j hj fs[j] (BV hj)).2
   | _=>cases ht
theorem qn4 {n t:Nat} (ht:rG P n t=true) {v:Value} {d:DataW H} {ps:List MemPlace} (hv:∃ cs,v=.agg cs) (h:DataW.Trod enc P W 0 (fun _=>true) true t v d ps) (hs:(nO P t).isSome=true):∃ y:AV,V W gN y v/\jP P n t y:=by
 obtain ⟨cs,rfl⟩:=hv;obtain ⟨fuel,h⟩:=h;have h:DataW.trod enc P W 0 (fun _=>true) true fuel t cs.toList=some (d,ps):=h;obtain ⟨y,hy,hl,hV⟩:=reads n t ht h;obtain ⟨h1,_,h3,_,_,_⟩:=By n t y ht hy
 have:∃ l,y=.agg l:=by
  unfold cZ at h1
  cases hsh:nO P t with
  | none=>rw[hsh] at hs;cases hs
  | some k=>
   rw[hsh] at h1
   cases y<;>first | exact ⟨_,rfl⟩ | cases h1
 obtain ⟨l,rfl⟩:=this;refine ⟨.agg l,.agg _ _ (by simp at hl;exact h3.trans hl.symm) (fun j hj=>?_),hy⟩;have:=hV j (by rw[<- h3];exact hj);rw[aT (l:=cs.toList),BX] at this;rw[jq];exact this
theorem qn3 {n t e:Nat} (ht:rG P n t=true) {v:Value} {d:DataW H} {ps:List MemPlace} (hu:P.underlying t=some (.slice e)) (hv:∃ a len cap,v=.slice a len cap) (h:DataW.Trod enc P W 0 (fun _=>true) true t v d ps):∃ y:AV,V W gN y v/\jP P n t y:=by
 obtain ⟨a,len,cap,rfl⟩:=hv;obtain ⟨fuel,h⟩:=h;have h:DataW.trod enc P W 0 (fun _=>true) true fuel t [.slice a len cap]=some (d,ps):=h;obtain ⟨y,hy,hl,hV⟩:=reads n t ht h;obtain ⟨_,_,h3,_,_,h6⟩:=By n t y ht hy;have iv:Al P t=true:=by unfold Al;rw[hu]
 have hc:y.cells=[y]:=by
  have:=h6 iv
  cases y<;>first | rfl | (simp[ff] at this)
 have:=hV 0 (by rw[<- hl];exact Nat.zero_lt_one);rw[hc] at this;exact ⟨y,this,hy⟩
end
end Go.Ab
namespace Go.Ab
open Go.Proofs Go.Proofs.Tryz Go.RowKit
theorem HM (nm:Nat):af.get ([]:af) nm=none:=by simp[af.get]
theorem qmM {w:World} (h:Yd.tab w):MemR w.heap.size w gN [] where
 obj nm bx cs h:=by rw[HM] at h;cases h
 tok nm n sz h:=by rw[HM] at h;cases h
 resv nm h:=⟨rfl,fun _=>rfl⟩
 fresh nm h:=⟨rfl,fun _=>rfl⟩
 inj nm nm' b h:=by unfold a8 at h;rw[HM] at h;cases h
 wrLt b off h:=h.elim
 inv w' k:=Yd.tab_below (Yd.tab_lt h) h k
 boxLt b h:=h.elim
 mp nm kk es h:=by rw[HM] at h;cases h
theorem qjE:CfgOk ae where
 ben g h caps:=by
  have h:zm Lz g=true:=h;unfold Lz at h;simp only[zm] at h
  split at h
  ·rename_i e;obtain rfl:140=g:=qp e;exact qjh caps
  ·split at h
   ·rename_i e;obtain rfl:177=g:=qp e;exact qji caps
   ·cases h
 name g fn h:=by
  have hall:(Tryz.prog.funcs.toList.all fun fn=>!(fn.name == "runtime.NumGoroutine"))=true:=by kernel_rfl
  have hm:fn∈Tryz.prog.funcs.toList:=by
   rw[Array.mem_toList_iff];exact Array.mem_of_getElem? h
  have:=fQ.1 hall fn hm;simpa using this
 lib g h hh:=by
  have hh:(match Nat.beq g 141 with | true=>some y0 | false=>none)=some h:=hh
  split at hh
  ·rename_i e;obtain rfl:g=141:=qp e;obtain rfl:=po hh;exact ⟨⟨f141,qhP,by kernel_rfl⟩,fun vs v hv m=>qmW vs v hv m⟩
  ·cases hh
 libm g h hh:=by
  have hh:(match Nat.beq g 148 with | true=>some zj | false=>match Nat.beq g 149 with | true=>some xZ | false=>none)=some h:=hh
  split at hh
  ·rename_i e;obtain rfl:g=148:=qp e;obtain rfl:=po hh;exact ⟨⟨f148,qhU,by kernel_rfl⟩,fun vs m v m' hv=>qoF (fun a8 cap zs w hH hb hs=>Tryz.slices_Sort_int a8 0 cap zs w hH hb hs) (fun p cap w=>Tryz.slices_Sort_int_none p cap w) vs m v m' hv⟩
  ·split at hh
   ·rename_i e;obtain rfl:g=149:=qp e;obtain rfl:=po hh;exact ⟨⟨f149,(show Tryz.prog.funcs[149]?=some f149 by kernel_rfl),by kernel_rfl⟩,fun vs m v m' hv=>qjR (fun a8 cap zs w hH hs hc=>Tryz.slices_Compact_int a8 0 cap zs w hH hs hc) (fun p cap w=>Tryz.slices_Compact_int_empty p cap w) LK vs m v m' hv⟩
   ·cases hh
theorem qmn {f:Nat} {args:List AV} {vs:Array Value} {W:World} (ht:Yd.tab W) (h:∃ m',AC ae f args []=some (.bool true,m')) (hl:args.length=vs.size) (hv:∀ j,j < args.length->V W gN (args.getD j .any) (vs.getD j undef)) :
  Calls Tryz.prog f vs W fun e W'=>e=.returned (.bool true)/\Below W.heap.size W W':=by
 obtain ⟨m',hm'⟩:=h;refine ((ZY qjE f args [] _ _ hm').1 W.heap.size W gN vs (qmM ht) (aR _) hl hv).mono ?_;rintro e W' ⟨v',g',rfl,hs,_,hv'⟩;cases hv';exact ⟨rfl,hs.below⟩
abbrev qml:List (String×DataW Unit):=YtiipgpkgcdhbfaaGreatDoor.Rows.diagramNewsRow.laid
theorem qo6 {W:World} (h:laidMetH Tryz.prog qml W):Yd.tab W:=by
 rw[MakeChecks.laidMetH_plain _ _ _ (by kernel_rfl)] at h;obtain ⟨ps,⟨g1,t1,cs1,fuel1,p1,q1,_,_,_,_,⟨g2,t2,cs2,fuel2,p2,q2,_,_,_,_,⟨g,t,cs,fuel,p,q,hg,ht,hv,hd,_,_⟩,_⟩,_⟩,_⟩:=h;obtain rfl:=po (Yd.globalPow.symm.trans hg);obtain rfl:=po ((show (Tryz.prog.globals[0]?).map (·.type)=some 246 by kernel_rfl).symm.trans ht);unfold Yd.tab Lib.TabIs;rw[hv];have:=Lib.cells_of_tab (zs:=Lib.pow10Tab) (k:=.u64) Tryz.underlying246 Tryz.underlying117 (by kernel_rfl) (by kernel_rfl) hd;rw[<- this]
theorem u3:Tryz.prog.underlying 3=some (.int .i64):=by kernel_rfl
theorem u4:Tryz.prog.underlying 4=some .bool:=by kernel_rfl
theorem EB:Tryz.prog.underlying 22=some (.slice 3):=by kernel_rfl
noncomputable def uR (t:Nat):Array Field:=match Tryz.prog.underlying t with
 | some (.struct fs)=>fs
 | _=>#[]
theorem s3:nO Tryz.prog 3=none:=by unfold nO;rw[u3]
theorem sz {t:Nat} {l:List Nat} (h:(uR t).toList.map (fun f=>f.type)=l):(uR t).size=l.length:=by
 rw[<- h,bU,E9]
theorem qkj {t:Nat} {l:List Nat} (h:(uR t).toList.map (fun f=>f.type)=l) {i ty:Nat} (hi:l[i]?=some ty):∃ f,(uR t)[i]?=some f/\f.type=ty:=by
 rw[<- h,n0,gG] at hi;obtain ⟨f,h1,h2⟩:=hi;exact ⟨f,by rw[<- BX];exact h1,h2⟩
theorem qn1 {n t:Nat} {v:AV} (ht:Tryz.prog.underlying t=some (.struct (uR t))) (h:jP Tryz.prog (n+1) t v):∃ cs,v=.agg cs/\cs.length=(uR t).size/\∀ i ty,((uR t).toList.map (fun f=>f.type))[i]?=some ty->jP Tryz.prog n ty (cs.getD i .any):=by
 unfold jP at h;rw[ht] at h;obtain ⟨cs,h1,h2,h3⟩:=h;refine ⟨cs,h1,h2,fun i ty hi=>?_⟩;obtain ⟨f,hf,rfl⟩:=qkj rfl hi;exact h3 i f hf
theorem Yf {n t e:Nat} {v:AV} (ht:Tryz.prog.underlying t=some (.slice e)) (h:jP Tryz.prog (n+1) t v):∃ z es,v=.lst (nO Tryz.prog e) z .no es/\(z=true->es=[])/\∀ x∈es,jP Tryz.prog n e x:=by
 unfold jP at h;rw[ht] at h;exact h
theorem qnY {n:Nat} {v:AV} (h:jP Tryz.prog (n+1) 3 v):∃ i,v=.int .i64 i/\Yd.i64 i:=by
 unfold jP at h;rw[u3] at h;obtain ⟨i,h1,hw⟩:=h;refine ⟨i,h1,?_⟩;simp only[Lit.wf,bT,nt] at hw;exact hw
theorem NQ {α:Type} {f:α->AV} {Q:α->Prop}:∀ {es:List AV},(∀ x∈es,∃ a,x=f a/\Q a)->∃ l:List α,es=l.map f/\∀ a∈l,Q a
 | [],_=>⟨[],rfl,by simp⟩
 | x::es,h=>by
  obtain ⟨a,rfl,ha⟩:=h x fJ;obtain ⟨l,rfl,hl⟩:=NQ (f:=f) (Q:=Q) fun y hy=>h y (fI _ hy)
  exact ⟨a::l,rfl,fun b hb=>by
   rcases gB.1 hb with rfl | hb
   ·exact ha
   ·exact hl b hb⟩
theorem qnZ {n:Nat} {v:AV} (h:jP Tryz.prog (n+2) 22 v):∃ z ns,v=IA z .no ns/\(z=true->ns=[])/\∀ k∈ns,Yd.i64 k:=by
 obtain ⟨z,es,rfl,hz,he⟩:=Yf EB h;obtain ⟨ns,rfl,hd⟩:=NQ (f:=AV.int .i64) (Q:=Yd.i64) (fun x hx=>qnY (he x hx));exact ⟨z,ns,by rw[s3],fun h=>xK.1 (hz h),hd⟩
theorem qjD {cs:List AV} (h:cs.length=3):∃ a b c,cs=[a,b,c]:=by
 match cs,h with
 | [a,b,c],_=>exact ⟨a,b,c,rfl⟩
theorem qna:rG Tryz.prog 2 22=true:=by kernel_rfl
section
variable {H:Type} {enc:TypeId×Value->H} {W:World}
theorem NI {v:Value} {d:DataW H} {ps:List MemPlace} (hv:∃ a len cap,v=.slice a len cap) (h:DataW.Trod enc Tryz.prog W 0 (fun _=>true) true 22 v d ps):∃ z ns,V W gN (IA z .no ns) v/\(z=true->ns=[])/\∀ k∈ns,Yd.i64 k:=by
 obtain ⟨y,hy,hr⟩:=qn3 qna EB hv h;obtain ⟨z,ns,rfl,hc⟩:=qnZ hr;exact ⟨z,ns,hy,hc⟩
end
end Go.Ab
namespace Go.Ab
open Go.Proofs Go.Proofs.Tryz Go.ChangeShapes Go.WideShapes Go.ChangeAt Go.RowKit
theorem u41:Tryz.prog.underlying 41=some (.slice 161):=by kernel_rfl
theorem Zf:Tryz.prog.underlying 161=some (.int .u32):=by kernel_rfl
theorem Pf:Tryz.prog.underlying 43=some (.struct (uR 43)):=by kernel_rfl
theorem f43:(uR 43).toList.map (fun f=>f.type)=[4,41,41]:=by kernel_rfl
theorem qoq:nO Tryz.prog 161=none:=by unfold nO;rw[Zf]
theorem s43:nO Tryz.prog 43=some 3:=by unfold nO;rw[Pf];exact dc some (sz f43)
theorem qnW {n:Nat} {v:AV} (h:jP Tryz.prog (n+1) 4 v):∃ i,v=.bool i:=by
 unfold jP at h;rw[u4] at h;exact h
theorem qn2 {n:Nat} {v:AV} (h:jP Tryz.prog (n+1) 161 v):∃ d:Nat,v=dg d/\d < 4294967296:=by
 unfold jP at h;rw[Zf] at h;obtain ⟨i,h1,hw⟩:=h
 have A6:0<=i/\i<=4294967295:=by
  simp only[Lit.wf,bT,nt] at hw;exact hw
 obtain ⟨d,rfl⟩:=nW A6.1;exact ⟨d,h1,by omega⟩
theorem Ye {n:Nat} {v:AV} (h:jP Tryz.prog (n+2) 41 v):∃ x:NV,v=x.av/\XN x:=by
 obtain ⟨z,es,rfl,hz,he⟩:=Yf u41 h;obtain ⟨ds,rfl,hd⟩:=NQ (f:=dg) (Q:=fun d=>d < 4294967296) (fun x hx=>qn2 (he x hx));refine ⟨⟨z,.no,ds⟩,by rw[qoq];rfl,⟨fun i=>?_,fun h=>xK.1 (hz h)⟩⟩;show ds.getD i 0 < _;rw[aT]
 by_cases hi:i < ds.length
 ·rw[bA hi];exact hd _ (bM hi)
 ·rw[mQ (by omega)];exact (by omega:0 < 4294967296)
theorem qn0 {n:Nat} {v:AV} (h:jP Tryz.prog (n+3) 43 v):∃ r:RV,v=r.av/\XR r:=by
 obtain ⟨cs,rfl,hl,hf⟩:=qn1 Pf h;rw[sz f43] at hl;obtain ⟨a,b,c,rfl⟩:=qjD hl;rw[f43] at hf;obtain ⟨s,hs⟩:=qnW (hf 0 4 rfl);obtain ⟨x,hx,x1⟩:=Ye (hf 1 41 rfl);obtain ⟨y,hy,y1⟩:=Ye (hf 2 41 rfl);have hs:a=.bool s:=hs;have hx:b=x.av:=hx;have hy:c=y.av:=hy;subst hs;subst hx;subst hy;exact ⟨⟨s,x,y⟩,rfl,x1,y1⟩
theorem qnb:rG Tryz.prog 3 43=true:=by kernel_rfl
section
variable {H:Type} {enc:TypeId×Value->H} {W:World}
theorem qnU {v:Value} {d:DataW H} {ps:List MemPlace} (hv:∃ cs,v=.agg cs) (h:DataW.Trod enc Tryz.prog W 0 (fun _=>true) true 43 v d ps):∃ y:RV,V W gN y.av v/\XR y:=by
 obtain ⟨y,hy,hr⟩:=qn4 qnb hv h (by rw[s43];rfl);obtain ⟨r,rfl,hx⟩:=qn0 hr;exact ⟨r,hy,hx⟩
theorem qnc {base:Nat} {t:Nat} {v:Value} {fs:Array Field} (ht:Tryz.prog.underlying t=some (.struct fs)) (h:Value.okWide Tryz.prog W .any base t v):∃ cs,v=.agg cs:=by
 simp only[Value.okWide,ht] at h;obtain ⟨cs,h,_⟩:=h;exact ⟨cs,h⟩
end
section
variable {H:Type} {enc:TypeId×Value->H} {P:Program} {w:World} {base:Nat} {spare:Nat->Bool} {held:Bool}
theorem qpm {t0 t1 t2 t3 t4 t5:TypeId} {args:Array Value} {ds:List (DataW H)} {ps:List MemPlace} (h:DataW.TrodAll enc P w base spare held [t0,t1,t2,t3,t4,t5] args.toList ds ps) :
  ∃ v0 v1 v2 v3 v4 v5 d0 d1 d2 d3 d4 d5 p0 p1 p2 p3 p4 p5,args = #[v0,v1,v2,v3,v4,v5]/\ds=[d0,d1,d2,d3,d4,d5]/\ps=p0++p1++p2++p3++p4++p5/\DataW.Trod enc P w base spare held t0 v0 d0 p0/\DataW.Trod enc P w base spare held t1 v1 d1 p1/\DataW.Trod enc P w base spare held t2 v2 d2 p2/\DataW.Trod enc P w base spare held t3 v3 d3 p3/\DataW.Trod enc P w base spare held t4 v4 d4 p4/\DataW.Trod enc P w base spare held t5 v5 d5 p5:=by
 obtain ⟨v0,vs0,d0,ds0,p0,q0,pA,rfl,rfl,h0,wO⟩:=trodAll_cons h;obtain ⟨v1,vs1,d1,ds1,p1,q1,rfl,rfl,rfl,h1,If⟩:=trodAll_cons wO;obtain ⟨v2,vs2,d2,ds2,p2,q2,rfl,rfl,rfl,h2,tQ⟩:=trodAll_cons If;obtain ⟨v3,vs3,d3,ds3,p3,q3,rfl,rfl,rfl,h3,hr3⟩:=trodAll_cons tQ;obtain ⟨v4,vs4,d4,ds4,p4,q4,rfl,rfl,rfl,h4,hr4⟩:=trodAll_cons hr3;obtain ⟨v5,vs5,d5,ds5,p5,q5,rfl,rfl,rfl,h5,hr5⟩:=trodAll_cons hr4;obtain ⟨rfl,rfl,rfl⟩:=trodAll_nil hr5;exact ⟨v0,v1,v2,v3,v4,v5,d0,d1,d2,d3,d4,d5,p0,p1,p2,p3,p4,p5,by cases args;simp_all,rfl,by simp,h0,h1,h2,h3,h4,h5⟩
theorem qpl {t0 t1 t2 t3 t4 t5:TypeId} {v0 v1 v2 v3 v4 v5:Value} {d0 d1 d2 d3 d4 d5:DataW H} {p0 p1 p2 p3 p4 p5:List MemPlace} (h0:DataW.Trod enc P w base spare held t0 v0 d0 p0) (h1:DataW.Trod enc P w base spare held t1 v1 d1 p1) (h2:DataW.Trod enc P w base spare held t2 v2 d2 p2) (h3:DataW.Trod enc P w base spare held t3 v3 d3 p3) (h4:DataW.Trod enc P w base spare held t4 v4 d4 p4) (h5:DataW.Trod enc P w base spare held t5 v5 d5 p5) :
  DataW.TrodAll enc P w base spare held [t0,t1,t2,t3,t4,t5] [v0,v1,v2,v3,v4,v5] [d0,d1,d2,d3,d4,d5] (p0++(p1++(p2++(p3++(p4++p5))))):=
 ⟨p0,p1++(p2++(p3++(p4++p5))),h0,⟨p1,p2++(p3++(p4++p5)),h1,trodAll_mk4 h2 h3 h4 h5,rfl⟩,rfl⟩
end
end Go.Ab
